/-
  Contracts: operations that may be.
-/
import Derived.Test.YtekaeegjohanjaaGreatDoorGAE
import Derived.KernelRfl
import Derived.Test.YtekaeegjohanjaaGreatDoorAbH
import Derived.Shelf.Small.Strs
import Derived.Test.YtekaeegjohanjaaGreatDoorProg
import Derived.Test.YtekaeegjohanjaaGreatDoorGAA
import Derived.Test.YtekaeegjohanjaaGreatDoorAbI
import Derived.Test.YtekaeegjohanjaaGreatDoorGAD
set_option linter.all false
namespace Go.Proofs
open Go Go.Abs
set_option maxRecDepth 100000
set_option linter.unusedSimpArgs false
structure OpA where
  kind : Int
  key : List UInt8
  val : List UInt8
  stamp : Int
  test : Int
  most : Int
abbrev OpA.cells (x : OpA) : List AV := [.v (.int .i64 x.kind), .v (.string (bs x.key)), .v (.string (bs x.val)), .v (.int .i64 x.stamp), .v (.int .i64 x.test), .v (.int .i64 x.most)]
def keyOk (s : List UInt8) : Bool := decide (1 ≤ (s.length : Int)) && decide ((s.length : Int) ≤ 64)
def OpA.base (x : OpA) : Bool := keyOk x.key && (decide (0 ≤ x.test) && decide (x.test ≤ 1099511627776))
def OpA.ok (x : OpA) : Bool :=
  if x.kind = 1 ∨ x.kind = 2 ∨ x.kind = 3 then x.base && decide ((x.val.length : Int) ≤ 8192) && (decide (1 ≤ x.stamp) && decide (x.stamp ≤ 1099511627776)) && (decide (x.kind ≠ 1) || x.test == 0) && x.most == 0
  else if x.kind = 4 ∨ x.kind = 5 then x.base && x.val == [] && x.stamp == 0 && x.most == 0
  else if x.kind = 6 then decide ((x.key.length : Int) ≤ 64) && (decide (1 ≤ x.most) && decide (x.most ≤ 100)) && x.val == [] && x.stamp == 0 && x.test == 0
  else false
/-- Nothing is left. -/
def OpA.zero (y : OpA) : Bool := y.kind == 0 && (y.key == [] && (y.val == [] && (y.stamp == 0 && (y.test == 0 && (y.most == 0 && true)))))
end Go.Proofs

/-
  Contracts: requests that may be.
-/
namespace Go.Proofs
open Go Go.Abs
set_option maxRecDepth 100000
set_option linter.unusedSimpArgs false
/-- A request. -/
structure ReqA where
  client : Int
  seq : Int
  ops : List OpA
abbrev ReqA.cells (r : ReqA) (a : AV) : List AV := [.v (.int .i64 r.client), .v (.int .i64 r.seq), a]
def ReqA.ok (r : ReqA) : Bool := (decide (0 ≤ r.client) && decide (r.client ≤ 1000)) && ((decide (1 ≤ r.seq) && decide (r.seq ≤ 1048576)) && ((decide (1 ≤ (r.ops.length : Int)) && decide ((r.ops.length : Int) ≤ 32)) && !r.ops.any fun x => !x.ok))
end Go.Proofs

/-
  Contracts: a writer of fields.
-/
namespace Go.Proofs
open Go Go.Abs
set_option maxRecDepth 100000
set_option linter.unusedSimpArgs false
/-- A text as a field. -/
abbrev Fld.txt (s : List UInt8) : Fld := ⟨true, 0, s⟩
end Go.Proofs

/-
  Contracts: a request is written.
-/
namespace Go.Proofs
open Go Go.Abs
set_option maxRecDepth 100000
set_option linter.unusedSimpArgs false
def OpA.fields (x : OpA) : List Fld := [.num x.kind] ++ [.txt x.key, .txt x.val] ++ [.num x.stamp, .num x.test, .num x.most]
def ReqA.fields (r : ReqA) : List Fld := [.num r.client, .num r.seq, .num r.ops.length] ++ r.ops.flatMap OpA.fields
end Go.Proofs

/-
  Contracts: a reader of fields.
-/
namespace Go.Proofs
open Go Go.Abs
set_option maxRecDepth 100000
set_option linter.unusedSimpArgs false
/-- Objects but one stay. -/
def But (i : Nat) (h h' : AH) : Prop := h.length ≤ h'.length ∧ ∀ j, j < h.length → j ≠ i → h'[j]? = h[j]?
theorem But.refl {i : Nat} {h : AH} : But i h h := ⟨Nat.le_refl _, fun _ _ _ => rfl⟩
theorem But.trans {i : Nat} {a b c : AH} (x : But i a b) (y : But i b c) : But i a c := ⟨Nat.le_trans x.1 y.1, fun j hj hi => by
  have := x.1
  rw [y.2 j (by omega) hi, x.2 j hj hi]⟩
theorem But.app {i : Nat} {h : AH} (t : AH) : But i h (h ++ t) := ⟨by simp, fun j hj _ => List.getElem?_append_left hj⟩
theorem But.set {i : Nat} {h : AH} {o : Option AO} : But i h (h.set i o) := ⟨by simp, fun j _ hi => List.getElem?_set_ne (Ne.symm hi)⟩
end Go.Proofs

/-
  DERIVED: THE SHELF's CONTRACTS AT THIS DUMP, IN PLAIN WORDS (tools/lay-plain.mjs out of 'ZLayCS.lean', which tools/lay-shelf.mjs wrote): THE SAME DECLARATIONS UNDER THE SAME NAMES: 'import', 'namespace', 'open', 'def', 'theorem' AND NOTHING ELSE: no command of the shelf's: FOR A HAND-IN. Each laying: the table of numbers ('.._ren') and one theorem, a field a fact of the dump's own or the kernel's comparison; each contract: ONE APPLICATION.
-/
namespace Go.Proofs
open Go.Shelf
end Go.Proofs

/-
  Contracts: texts in order; a row's place; a table in the heap.
-/
namespace Go.Proofs
open Go Go.Abs
set_option maxRecDepth 100000
set_option linter.unusedSimpArgs false
abbrev RowA.cells (r : RowA) : List AV := [.v (.string (bs r.key)), .v (.int .i64 r.stamp), .v (.string (bs r.val))]
end Go.Proofs

/-
  A table in the heap; contracts: New, at, Len, splice, ends, Rows, Drop, Fork.
-/
namespace Go.Proofs
open Go Go.Abs
set_option maxRecDepth 100000
set_option linter.unusedSimpArgs false
/-- Rows stay. -/
def KeepT (h H : AH) : Prop := h.length ≤ H.length ∧ ∀ (j : Nat) (r : List (List AV)) (g : Nat), h[j]? = some (some (.cells 131 3 r g)) → H[j]? = some (some (.cells 131 3 r g))
theorem KeepT.refl (h : AH) : KeepT h h := ⟨Nat.le_refl _, fun _ _ _ h => h⟩
theorem KeepT.trans {a b c : AH} (x : KeepT a b) (y : KeepT b c) : KeepT a c := ⟨Nat.le_trans x.1 y.1, fun j r g h => y.2 j r g (x.2 j r g h)⟩
theorem KeepT.app (a t : AH) : KeepT a (a ++ t) := ⟨by simp, fun j r g h => by rw [List.getElem?_append_left (List.getElem?_eq_some_iff.mp h).1]; exact h⟩
structure TabAt (h : AH) (p : Nat) (l : List RowA) : Prop where
  ex : ∃ a, h[p]? = some (some (.cells 160 1 [[a]] 0)) ∧ Own 131 3 h a (l.map RowA.cells)
  rise : Rise l
  len : l.length ≤ 1000000
theorem TabAt.lt {h : AH} {p : Nat} {l : List RowA} (T : TabAt h p l) : p < h.length := by
  obtain ⟨a, ho, _⟩ := T.ex
  exact (List.getElem?_eq_some_iff.mp ho).1
theorem TabAt.keep {h h' : AH} {p : Nat} {l : List RowA} (T : TabAt h p l) (hp : h'[p]? = h[p]?) (k : KeepT h h') : TabAt h' p l := by
  obtain ⟨a, ho, s⟩ := T.ex
  exact ⟨⟨a, hp.trans ho, s.keep k.2⟩, T.rise, T.len⟩
theorem TabAt.wKeep {h h' : AH} {p : Nat} {l : List RowA} (T : TabAt h p l) (b : But p h h') : KeepT h h' := by
  obtain ⟨a, ho, _⟩ := T.ex
  refine ⟨b.1, fun j r g hj => ?_⟩
  rw [b.2 j (List.getElem?_eq_some_iff.mp hj).1 ?_]
  · exact hj
  · rintro rfl
    rw [ho] at hj
    cases hj
/-- Another table stays. -/
theorem TabAt.but {h h' : AH} {p q : Nat} {l m : List RowA} (T : TabAt h p l) (U : TabAt h q m) (b : But q h h') (hne : p ≠ q) : TabAt h' p l :=
  T.keep (b.2 p T.lt hne) (U.wKeep b)
end Go.Proofs

/-
  Contracts: ends, Rows, Drop, Fork.
-/
namespace Go.Proofs
open Go Go.Abs
set_option maxRecDepth 100000
set_option linter.unusedSimpArgs false
end Go.Proofs

/-
  Contracts: rows are taken in.
-/
namespace Go.Proofs
open Go Go.Abs
set_option maxRecDepth 100000
set_option linter.unusedSimpArgs false
end Go.Proofs

/-
  Contracts: Take.
-/
namespace Go.Proofs
open Go Go.Abs
set_option maxRecDepth 100000
set_option linter.unusedSimpArgs false
end Go.Proofs

/-
  Contracts: rows in a slice are swapped.
-/
namespace Go.Proofs
open Go Go.Abs
set_option maxRecDepth 100000
set_option linter.unusedSimpArgs false
/-- Rows in a whole object. -/
abbrev RowsIn (h : AH) (id g : Nat) (l : List RowA) : Prop := h[id]? = some (some (.cells 131 3 (l.map RowA.cells) g))
abbrev dat (id g : Nat) (n : Nat) : AV := .sl id g 0 n none
theorem RowsIn.ia {h : AH} {id g : Nat} {l : List RowA} (o : RowsIn h id g l) {k : Nat} (hk : k < l.length) {n : Nat} (hn : n = l.length) : aIA Tryz.prog h 47 (dat id g n) (.v (.int .i64 (k : Int))) = some (.ptr id g k 0) := by
  subst hn
  unfold aIA
  rw [Tryz.und47]
  simp only [Tryz.siz131, o, chk]
  rw [if_pos ⟨trivial, trivial, by omega, by omega⟩]
  simp
theorem RowsIn.st {h : AH} {id g : Nat} {l : List RowA} (o : RowsIn h id g l) {k : Nat} (hk : k < l.length) {r : RowA} {K : AV → AH → Prop} (hK : K (.tup []) (h.set id (some (.cells 131 3 ((l.set k r).map RowA.cells) g)))) : storeC Tryz.prog h K 131 (.agg r.cells) id g k 0 h[id]? := by
  obtain ⟨x, hx⟩ : ∃ x, l[k]? = some x := ⟨_, List.getElem?_eq_getElem hk⟩
  have hx' : (l.map RowA.cells)[k]? = some x.cells := by simp [hx]
  rw [o]
  simp only [storeC, hx', okP]
  refine ⟨⟨trivial, rfl, Tryz.siz131, Nat.le_refl 3⟩, ?_⟩
  rw [List.map_set] at hK
  exact hK
end Go.Proofs

/-
  Contracts: rows in a slice are rotated.
-/
namespace Go.Proofs
open Go Go.Abs
set_option maxRecDepth 100000
set_option linter.unusedSimpArgs false
end Go.Proofs

/-
  Contracts: one row is carried over others.
-/
namespace Go.Proofs
open Go Go.Abs
set_option maxRecDepth 100000
set_option linter.unusedSimpArgs false
theorem at0 {X Y : List RowA} {u v : RowA} : (X ++ u :: v :: Y)[X.length]? = some u := by simp
end Go.Proofs

/-
  Contracts: a merge where one side has just one row.
-/
namespace Go.Proofs
open Go Go.Abs
set_option maxRecDepth 100000
set_option linter.unusedSimpArgs false
abbrev fst (l : List Deco) : List RowA := l.map (·.1)
end Go.Proofs

/-
  Contracts: a merge.
-/
namespace Go.Proofs
open Go Go.Abs
set_option maxRecDepth 100000
set_option linter.unusedSimpArgs false
end Go.Proofs

/-
  Contracts: a merge, whole.
-/
namespace Go.Proofs
open Go Go.Abs
set_option maxRecDepth 100000
set_option linter.unusedSimpArgs false
/-- Where the two sides part. -/
structure PartAt (L R : List Deco) (a mid s0 r0 s : Nat) : Prop where
  lo : s = s0 ∨ ∃ x y, L[s - 1 - a]? = some x ∧ R[mid - s]? = some y ∧ dlt x y
  hi : s = r0 ∨ ∃ x y, L[s - a]? = some x ∧ R[mid - 1 - s]? = some y ∧ dlt y x
end Go.Proofs

/-
  Contracts: symMerge.
-/
namespace Go.Proofs
open Go Go.Abs
set_option maxRecDepth 100000
set_option linter.unusedSimpArgs false
end Go.Proofs

/-
  Contracts: insertionSort.
-/
namespace Go.Proofs
open Go Go.Abs
set_option maxRecDepth 100000
set_option linter.unusedSimpArgs false
theorem RowsIn.app {h : AH} {id g : Nat} {l : List RowA} (o : RowsIn h id g l) (t : AH) : RowsIn (h ++ t) id g l := (List.getElem?_append_left (List.getElem?_eq_some_iff.mp o).1).trans o
end Go.Proofs

/-
  Contracts: insertionSort, whole.
-/
namespace Go.Proofs
open Go Go.Abs
set_option maxRecDepth 100000
set_option linter.unusedSimpArgs false
end Go.Proofs

/-
  Contracts: a pass of merges.
-/
namespace Go.Proofs
open Go Go.Abs
set_option maxRecDepth 100000
set_option linter.unusedSimpArgs false
end Go.Proofs
