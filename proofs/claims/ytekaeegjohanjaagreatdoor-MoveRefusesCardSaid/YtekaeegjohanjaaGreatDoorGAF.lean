/-
  Contracts: operations that may be.
-/
import Derived.Test.YtekaeegjohanjaaGreatDoorGAE
import Derived.KernelRfl
import Derived.Test.YtekaeegjohanjaaGreatDoorAbH
import Derived.Shelf.Small.Strs
import Derived.Test.YtekaeegjohanjaaGreatDoorProg
import Derived.Test.YtekaeegjohanjaaGreatDoorGAA
import Derived.Test.YtekaeegjohanjaaGreatDoorAbI
import Derived.Sort.Walk0
set_option linter.all false
namespace Go.Proofs
open Go Go.Abs
set_option maxRecDepth 100000
set_option linter.unusedSimpArgs false
structure OpA where
  kind : Int
  key : List UInt8
  val : List UInt8
  stamp : Int
  test : Int
  most : Int
abbrev OpA.cells (x : OpA) : List AV := [.v (.int .i64 x.kind), .v (.string (bs x.key)), .v (.string (bs x.val)), .v (.int .i64 x.stamp), .v (.int .i64 x.test), .v (.int .i64 x.most)]
def keyOk (s : List UInt8) : Bool := decide (1 ≤ (s.length : Int)) && decide ((s.length : Int) ≤ 64)
def OpA.base (x : OpA) : Bool := keyOk x.key && (decide (0 ≤ x.test) && decide (x.test ≤ 1099511627776))
def OpA.ok (x : OpA) : Bool :=
  if x.kind = 1 ∨ x.kind = 2 ∨ x.kind = 3 then x.base && decide ((x.val.length : Int) ≤ 8192) && (decide (1 ≤ x.stamp) && decide (x.stamp ≤ 1099511627776)) && (decide (x.kind ≠ 1) || x.test == 0) && x.most == 0
  else if x.kind = 4 ∨ x.kind = 5 then x.base && x.val == [] && x.stamp == 0 && x.most == 0
  else if x.kind = 6 then decide ((x.key.length : Int) ≤ 64) && (decide (1 ≤ x.most) && decide (x.most ≤ 100)) && x.val == [] && x.stamp == 0 && x.test == 0
  else false
/-- Nothing is left. -/
def OpA.zero (y : OpA) : Bool := y.kind == 0 && (y.key == [] && (y.val == [] && (y.stamp == 0 && (y.test == 0 && (y.most == 0 && true)))))
end Go.Proofs

/-
  Contracts: requests that may be.
-/
namespace Go.Proofs
open Go Go.Abs
set_option maxRecDepth 100000
set_option linter.unusedSimpArgs false
/-- A request. -/
structure ReqA where
  client : Int
  seq : Int
  ops : List OpA
abbrev ReqA.cells (r : ReqA) (a : AV) : List AV := [.v (.int .i64 r.client), .v (.int .i64 r.seq), a]
def ReqA.ok (r : ReqA) : Bool := (decide (0 ≤ r.client) && decide (r.client ≤ 1000)) && ((decide (1 ≤ r.seq) && decide (r.seq ≤ 1048576)) && ((decide (1 ≤ (r.ops.length : Int)) && decide ((r.ops.length : Int) ≤ 32)) && !r.ops.any fun x => !x.ok))
end Go.Proofs

/-
  Contracts: a writer of fields.
-/
namespace Go.Proofs
open Go Go.Abs
set_option maxRecDepth 100000
set_option linter.unusedSimpArgs false
/-- A slice lies in no object of another type. -/
theorem AccR.offType {e e' : TypeId} {n n' : Nat} {h h' : AH} {x : AV} {rows r : List (List AV)} {j g : Nat} (c : AccR e n h x h' rows) (hj : h'[j]? = some (some (.cells e' n' r g))) (he : e' ≠ e) : Off x j := by
  intro id g' o l k hx hid
  subst hid
  cases c with
  | nil => cases hx
  | obj hr =>
    cases hx
    rw [Go.Abs.get_at] at hj
    cases hj
    exact he rfl
/-- A text as a field. -/
abbrev Fld.txt (s : List UInt8) : Fld := ⟨true, 0, s⟩
end Go.Proofs

/-
  Contracts: a request is written.
-/
namespace Go.Proofs
open Go Go.Abs
set_option maxRecDepth 100000
set_option linter.unusedSimpArgs false
def OpA.fields (x : OpA) : List Fld := [.num x.kind] ++ [.txt x.key, .txt x.val] ++ [.num x.stamp, .num x.test, .num x.most]
def ReqA.fields (r : ReqA) : List Fld := [.num r.client, .num r.seq, .num r.ops.length] ++ r.ops.flatMap OpA.fields
end Go.Proofs

/-
  Contracts: a reader of fields.
-/
namespace Go.Proofs
open Go Go.Abs
set_option maxRecDepth 100000
set_option linter.unusedSimpArgs false
/-- Objects but one stay. -/
def But (i : Nat) (h h' : AH) : Prop := h.length ≤ h'.length ∧ ∀ j, j < h.length → j ≠ i → h'[j]? = h[j]?
theorem But.refl {i : Nat} {h : AH} : But i h h := ⟨Nat.le_refl _, fun _ _ _ => rfl⟩
theorem But.trans {i : Nat} {a b c : AH} (x : But i a b) (y : But i b c) : But i a c := ⟨Nat.le_trans x.1 y.1, fun j hj hi => by
  have := x.1
  rw [y.2 j (by omega) hi, x.2 j hj hi]⟩
theorem But.app {i : Nat} {h : AH} (t : AH) : But i h (h ++ t) := ⟨by simp, fun j hj _ => List.getElem?_append_left hj⟩
theorem But.set {i : Nat} {h : AH} {o : Option AO} : But i h (h.set i o) := ⟨by simp, fun j _ hi => List.getElem?_set_ne (Ne.symm hi)⟩
theorem But.grew {h h' : AH} {i : Nat} (b : But i h h') {h0 : AH} (g : Grew h0 h) (hi : h0.length ≤ i) : Grew h0 h' := by
  obtain ⟨t, rfl⟩ := g.ex
  have hl := b.1
  rw [List.length_append] at hl
  refine ⟨h'.drop h0.length, ?_⟩
  conv => lhs; rw [← List.take_append_drop h0.length h']
  congr 1
  refine List.ext_getElem? fun j => ?_
  rw [List.getElem?_take]
  split
  · rename_i hj
    rw [b.2 j (by simp; omega) (by omega), List.getElem?_append_left hj]
  · rename_i hj; rw [List.getElem?_eq_none (by omega)]
end Go.Proofs

/-
  DERIVED: THE SHELF's CONTRACTS AT THIS DUMP, IN PLAIN WORDS (tools/lay-plain.mjs out of 'ZLayCS.lean', which tools/lay-shelf.mjs wrote): THE SAME DECLARATIONS UNDER THE SAME NAMES: 'import', 'namespace', 'open', 'def', 'theorem' AND NOTHING ELSE: no command of the shelf's: FOR A HAND-IN. Each laying: the table of numbers ('.._ren') and one theorem, a field a fact of the dump's own or the kernel's comparison; each contract: ONE APPLICATION.
-/
namespace Go.Proofs
open Go.Shelf
def Tryz.layCompare_ren : Go.Shelf.Ren := ⟨fun | 106 => 66 | 213 => 116 | 265 => 158 | n => n, fun | 9 => 9 | 3 => 3 | n => n, fun | n => n⟩
theorem Tryz.layCompare : Go.Proofs.Lays.n106 Tryz.prog Tryz.layCompare_ren := {
  mixed := by kernel_rfl
  f106 := Tryz.func66.trans (congrArg some (by kernel_rfl))
  f213 := Tryz.func116.trans (congrArg some (by kernel_rfl))
  f265 := Tryz.func158.trans (congrArg some (by kernel_rfl))
  t3 := Tryz.underlying3
  a3 := Tryz.isAgg3
  z3 := Tryz.sizeOf3
  v3 := Tryz.zeroValue3
  t9 := Tryz.underlying9
  a9 := Tryz.isAgg9
  z9 := Tryz.sizeOf9
  v9 := Tryz.zeroValue9 }
end Go.Proofs

/-
  Contracts: texts in order; a row's place; a table in the heap.
-/
namespace Go.Proofs
open Go Go.Abs
set_option maxRecDepth 100000
set_option linter.unusedSimpArgs false
theorem Compare_call (G : Nat → Option AV) (a b : List UInt8) (h : AH) (K : AV → AH → Prop) (hk : K (.v (.int .i64 (if bl a b = true then -1 else if a = b then 0 else 1))) h) : SCall Tryz.prog G 66 [.v (.string (bs a)), .v (.string (bs b))] h K := by
  rw [← cmpB] at hk
  refine scall_grown (xs := [.string (bs a), .string (bs b)]) (by kernel_rfl) (y := .int .i64 (Lib.compareBytes a b)) rfl ?_ hk
  rintro w ⟨ρ, hr⟩
  refine (Any.strings_Compare Tryz.layCompare (bs a) (bs b) w).mono ?_
  rintro e w' ⟨rfl, rfl⟩
  exact ⟨by simp [bs], 0, #[], rfl⟩
abbrev RowA.cells (r : RowA) : List AV := [.v (.string (bs r.key)), .v (.int .i64 r.stamp), .v (.string (bs r.val))]
theorem atCmp_call (G : Nat → Option AV) (r : RowA) (k : List UInt8) (h : AH) (K : AV → AH → Prop) (hk : ∀ t, K (.v (.int .i64 (if bl r.key k = true then -1 else if r.key = k then 0 else 1))) (h ++ t)) : SCall Tryz.prog G 131 [.agg r.cells, .v (.string (bs k))] h K := by
  refine Tryz.c131 G _ _ h K fun hlow => ?_
  unfold Tryz.r131
  simp (disch := omega) only [go_sem, Nat.reduceAdd]
  refine ⟨Compare_call G _ _ _ _ ?_⟩
  simp (disch := omega) only [go_sem, Nat.reduceAdd]
  exact ret_keep (hk _)
theorem tbSearch_call (G : Nat → Option AV) (v : AV) (l : List RowA) (k : List UInt8) (h : AH) (K : AV → AH → Prop) (hs : Sees h 3 v (l.map RowA.cells)) (hr : Rise l) (hl : l.length ≤ 1000000000)
    (hk : K (.tup [.v (.int .i64 (lbK l k)), .v (.bool (hasK l k))]) h) : SCall Tryz.prog G 130 [v, .v (.string (bs k)), .fn (.func 131) [] []] h K := by
  refine Tryz.c130 G _ _ _ h K fun hlow => ?_
  unfold Tryz.r130
  have la : aLen Tryz.prog h 47 v = some (.v (.int .i64 l.length)) := by
    have := hs.len (P := Tryz.prog) (t := 47) Tryz.und47
    rw [List.length_map] at this
    exact this
  simp (disch := omega) only [go_sem, la]
  unfold Tryz.r130_l3_1
  refine ⟨fun m vs h' => ∃ i j : Nat, i ≤ j ∧ j ≤ l.length ∧ m = j - i ∧ h' = h ∧ (∀ q r, q < i → l[q]? = some r → bl r.key k = true) ∧ (∀ q r, j ≤ q → l[q]? = some r → bl r.key k = false) ∧ vs = [.v (.int .i64 i), .v (.int .i64 j)], l.length, ⟨0, l.length, by omega, by omega, rfl, rfl, by simp, (by intro q p hq hp; rw [List.getElem?_eq_none hq] at hp; cases hp), rfl⟩, ?_⟩
  rintro m h' hl1 hlow2 n n' ⟨i, j, hij, hj, rfl, rfl, hlo, hhi, hvs⟩
  simp only [List.cons.injEq, AV.v.injEq, Value.int.injEq, true_and, and_true] at hvs
  obtain ⟨rfl, rfl⟩ := hvs
  have row : ∀ {q : Nat} {r : RowA}, l[q]? = some r → ∃ w, aIA Tryz.prog h' 47 v (.v (.int .i64 (q : Int))) = some w ∧ Go.Abs.rowAt h' w = some (r.cells, 0) := fun {q r} hq => hs.ia (P := Tryz.prog) (t := 47) (k := .i64) (i := (q : Int)) (r := r.cells) Tryz.und47 Tryz.siz131 (by omega) (by simp [hq])
  by_cases hlt : i < j
  · have e1 : IntKind.i64.wrap ((i : Int) + (j : Int)) = ((i + j : Nat) : Int) := by rw [wrap64_of (by omega) (by omega)]; omega
    have e2 : IntKind.u64.wrap ((i + j : Nat) : Int) = ((i + j : Nat) : Int) := by
      simp [IntKind.wrap, IntKind.bits, IntKind.signed]; omega
    have e3 : (((i + j : Nat) : Int)).fdiv 2 = (((i + j) / 2 : Nat) : Int) := by
      rw [Int.fdiv_eq_ediv_of_nonneg _ (by omega)]; omega
    have e4 : IntKind.i64.wrap ((((i + j) / 2 : Nat)) : Int) = (((i + j) / 2 : Nat) : Int) := wrap64_of (by omega) (by omega)
    have hmid : (i + j) / 2 < l.length := by omega
    obtain ⟨p, hp⟩ : ∃ p, l[(i + j) / 2]? = some p := ⟨_, List.getElem?_eq_getElem hmid⟩
    obtain ⟨q, q1, q2⟩ := row hp
    have hlow3 : ∀ a b : Nat, ∀ v ∈ [AV.v (.int .i64 (a : Int)), AV.v (.int .i64 (b : Int))], Low h'.length v := by
      intro a b v hv
      simp at hv
      rcases hv with rfl | rfl <;> exact .v
    simp (disch := omega) only [go_sem, e1, e2, ↓shr_half, e3, e4, q1, q2]
    refine ⟨atCmp_call G p k _ _ fun t => ?_⟩
    obtain ⟨m1, m2⟩ := List.getElem?_eq_some_iff.mp hp
    cases hc : bl p.key k with
    | true =>
      simp (disch := omega) only [go_sem, e4, if_true]
      have e5 : (((i + j) / 2 : Nat) : Int) + 1 = (((i + j) / 2 + 1 : Nat) : Int) := by omega
      rw [e5]
      refine next_drop (j - ((i + j) / 2 + 1)) (by omega) (Nat.le_refl _) hlow (hlow3 _ _) ⟨(i + j) / 2 + 1, j, by omega, hj, rfl, rfl, ?_, hhi, rfl⟩
      intro q r hq hrq
      by_cases he : q = (i + j) / 2
      · subst he; rw [hp] at hrq; cases hrq; exact hc
      · obtain ⟨k1, k2⟩ := List.getElem?_eq_some_iff.mp hrq
        have := List.pairwise_iff_getElem.mp hr q ((i + j) / 2) k1 m1 (by omega)
        rw [k2, m2] at this
        exact bl_trans this hc
    | false =>
      have ec : ¬ (if p.key = k then (0 : Int) else 1) < 0 := by split <;> omega
      simp (disch := omega) only [go_sem, e4, if_false, Bool.false_eq_true, ec, decide_false]
      refine next_drop ((i + j) / 2 - i) (by omega) (Nat.le_refl _) hlow (hlow3 _ _) ⟨i, (i + j) / 2, by omega, by omega, rfl, rfl, hlo, ?_, rfl⟩
      intro q r hq hrq
      by_cases he : q = (i + j) / 2
      · subst he; rw [hp] at hrq; cases hrq; exact hc
      · obtain ⟨k1, k2⟩ := List.getElem?_eq_some_iff.mp hrq
        have := List.pairwise_iff_getElem.mp hr ((i + j) / 2) q m1 k1 (by omega)
        rw [k2, m2] at this
        cases hd : bl r.key k with
        | false => rfl
        | true => rw [bl_trans this hd] at hc; cases hc
  · have hij' : i = j := by omega
    subst hij'
    have hlb : lbK l k = i := lbK_eq hj hlo (fun r hr => hhi i r (Nat.le_refl _) hr)
    unfold hasK at hk
    rw [hlb] at hk
    by_cases hir : i < l.length
    · obtain ⟨p, hp⟩ : ∃ p, l[i]? = some p := ⟨_, List.getElem?_eq_getElem hir⟩
      obtain ⟨q, q1, q2⟩ := row hp
      rw [hp] at hk
      simp (disch := omega) only [go_sem, q1, q2]
      refine ⟨atCmp_call G p k _ _ fun t => ?_⟩
      have hne := hhi i p (Nat.le_refl _) hp
      simp only [hne, Bool.false_eq_true, if_false]
      by_cases he : p.key = k
      · simp only [he, Option.any_some, decide_true] at hk
        simp (disch := omega) only [go_sem, he, if_true]
        exact ret_tail hlow (by simp [low_tup, low_v]) hk
      · simp only [he, Option.any_some, decide_false] at hk
        simp (disch := omega) only [go_sem, he, if_false]
        exact ret_tail hlow (by simp [low_tup, low_v]) hk
    · have hn : l[i]? = none := List.getElem?_eq_none (by omega)
      rw [hn] at hk
      simp (disch := omega) only [go_sem]
      exact ret_same hk
end Go.Proofs

/-
  A table in the heap; contracts: New, at, Len, splice, ends, Rows, Drop, Fork.
-/
namespace Go.Proofs
open Go Go.Abs
set_option maxRecDepth 100000
set_option linter.unusedSimpArgs false
/-- Rows stay. -/
def KeepT (h H : AH) : Prop := h.length ≤ H.length ∧ ∀ (j : Nat) (r : List (List AV)) (g : Nat), h[j]? = some (some (.cells 131 3 r g)) → H[j]? = some (some (.cells 131 3 r g))
theorem KeepT.refl (h : AH) : KeepT h h := ⟨Nat.le_refl _, fun _ _ _ h => h⟩
theorem KeepT.trans {a b c : AH} (x : KeepT a b) (y : KeepT b c) : KeepT a c := ⟨Nat.le_trans x.1 y.1, fun j r g h => y.2 j r g (x.2 j r g h)⟩
theorem KeepT.app (a t : AH) : KeepT a (a ++ t) := ⟨by simp, fun j r g h => by rw [List.getElem?_append_left (List.getElem?_eq_some_iff.mp h).1]; exact h⟩
theorem KeepT.grew {a b : AH} (g : Grew a b) : KeepT a b := by obtain ⟨t, rfl⟩ := g.ex; exact .app _ _
structure TabAt (h : AH) (p : Nat) (l : List RowA) : Prop where
  ex : ∃ a, h[p]? = some (some (.cells 160 1 [[a]] 0)) ∧ Own 131 3 h a (l.map RowA.cells)
  rise : Rise l
  len : l.length ≤ 1000000
theorem TabAt.lt {h : AH} {p : Nat} {l : List RowA} (T : TabAt h p l) : p < h.length := by
  obtain ⟨a, ho, _⟩ := T.ex
  exact (List.getElem?_eq_some_iff.mp ho).1
theorem TabAt.keep {h h' : AH} {p : Nat} {l : List RowA} (T : TabAt h p l) (hp : h'[p]? = h[p]?) (k : KeepT h h') : TabAt h' p l := by
  obtain ⟨a, ho, s⟩ := T.ex
  exact ⟨⟨a, hp.trans ho, s.keep k.2⟩, T.rise, T.len⟩
theorem TabAt.grew {h h' : AH} {p : Nat} {l : List RowA} (T : TabAt h p l) (g : Grew h h') : TabAt h' p l := by
  have hl := T.lt
  obtain ⟨t, rfl⟩ := g.ex
  exact T.keep (List.getElem?_append_left hl) (KeepT.app _ _)
theorem TabAt.wKeep {h h' : AH} {p : Nat} {l : List RowA} (T : TabAt h p l) (b : But p h h') : KeepT h h' := by
  obtain ⟨a, ho, _⟩ := T.ex
  refine ⟨b.1, fun j r g hj => ?_⟩
  rw [b.2 j (List.getElem?_eq_some_iff.mp hj).1 ?_]
  · exact hj
  · rintro rfl
    rw [ho] at hj
    cases hj
/-- Another table stays. -/
theorem TabAt.but {h h' : AH} {p q : Nat} {l m : List RowA} (T : TabAt h p l) (U : TabAt h q m) (b : But q h h') (hne : p ≠ q) : TabAt h' p l :=
  T.keep (b.2 p T.lt hne) (U.wKeep b)
theorem tbNew_call (G : Nat → Option AV) (h : AH) (K : AV → AH → Prop) (hk : TabAt (h ++ [some (.cells 160 1 [[.v (.slice none 0 0)]] 0)]) h.length [] → K (.ptr h.length 0 0 0) (h ++ [some (.cells 160 1 [[.v (.slice none 0 0)]] 0)])) : SCall Tryz.prog G 41 [] h K := by
  refine Tryz.c41 G h K fun hlow => ?_
  unfold Tryz.r41
  simp (disch := omega) only [go_sem]
  exact ret_keep (hk ⟨⟨_, by simp, .nil⟩, List.Pairwise.nil, by simp⟩)
theorem tbAt_call (G : Nat → Option AV) (p : Nat) (l : List RowA) (k : List UInt8) (h : AH) (K : AV → AH → Prop) (T : TabAt h p l)
    (hk : K (.tup [.v (.int .i64 (lbK l k)), .v (.bool (hasK l k))]) h) : SCall Tryz.prog G 89 [.ptr p 0 0 0, .v (.string (bs k))] h K := by
  refine Tryz.c89 G _ _ h K fun hlow => ?_
  unfold Tryz.r89
  obtain ⟨a, ho, s⟩ := T.ex
  have hl := T.len
  have a1 := s.one
  have a2 := s.cells
  simp (disch := omega) only [go_sem, ho, a1, a2]
  refine ⟨tbSearch_call G a l k h _ s.sees T.rise (by omega) ?_⟩
  simp (disch := omega) only [go_sem, extV]
  exact ret_same hk
theorem tbLen_call (G : Nat → Option AV) (p : Nat) (l : List RowA) (h : AH) (K : AV → AH → Prop) (T : TabAt h p l) (hk : K (.v (.int .i64 l.length)) h) : SCall Tryz.prog G 62 [.ptr p 0 0 0] h K := by
  refine Tryz.c62 G _ h K fun hlow => ?_
  unfold Tryz.r62
  obtain ⟨a, ho, s⟩ := T.ex
  have a1 := s.one
  have a2 := s.cells
  have la := s.sees.len (P := Tryz.prog) (t := 47) Tryz.und47
  rw [List.length_map] at la
  simp (disch := omega) only [go_sem, ho, a1, a2, la]
  exact ret_same hk
theorem tbSplice_call (G : Nat → Option AV) (p : Nat) (l new : List RowA) (m n : Nat) (x : AV) (h : AH) (K : AV → AH → Prop) (T : TabAt h p l) (hm : m ≤ l.length) (hn : n ≤ l.length) (hx : Sees h 3 x (new.map RowA.cells)) (hxs : ¬ ∃ s, x = .v (.string s)) (hnl : new.length ≤ 1000000)
    (hr : Rise (l.take m ++ new ++ l.drop n)) (hlen : (l.take m ++ new ++ l.drop n).length ≤ 1000000)
    (hk : ∀ h', TabAt h' p (l.take m ++ new ++ l.drop n) → But p h h' → K (.tup []) h') : SCall Tryz.prog G 134 [.ptr p 0 0 0, .v (.int .i64 m), .v (.int .i64 n), x] h K := by
  refine Tryz.c134 G _ _ _ _ h K fun hlow => ?_
  unfold Tryz.r134
  obtain ⟨a, ho, s⟩ := T.ex
  have pl := T.lt
  have hl := T.len
  have a1 := s.one
  have a2 := s.cells
  obtain ⟨x1, e1, hf⟩ := s.full (h0 := h) (P := Tryz.prog) (t := 47) (k := .i64) (k' := .i64) Tryz.und47 Tryz.siz131 (m := m) (by simpa using hm)
  obtain ⟨x2, e2, ht⟩ := s.from (P := Tryz.prog) (t := 47) (k := .i64) Tryz.und47 Tryz.siz131 (m := n) (by simpa using hn)
  have e2' := e2 []
  rw [List.append_nil] at e2'
  simp (disch := omega) only [go_sem, ho, a1, a2, e1, e2']
  have tl : (l.map RowA.cells |>.take m).length ≤ 1000000 := by simp; omega
  refine hf.append (Nat.le_refl _) Tryz.und47 Tryz.azero131 Tryz.byt131 (by exact Tryz.plainSrc47) hx.src (by simp) hxs (by simp; omega) (by simp; omega) fun v11 h12 hf2 hle st ty => ?_
  obtain ⟨t1, rfl⟩ := ext_of hle st
  have ho' : ∀ t : AH, (h ++ t)[p]? = _ := fun t => (List.getElem?_append_left pl).trans ho
  simp (disch := omega) only [go_sem, ho', a1, a2, e2]
  refine hf2.append hle Tryz.und47 Tryz.azero131 Tryz.byt131 (by exact Tryz.plainSrc47) (ht.more t1).sees.src ht.rowsLen (by
    rintro ⟨s, rfl⟩
    cases ht) (by simp; omega) (by simp; omega) fun v13 h14 hf3 hle2 st2 ty2 => ?_
  obtain ⟨t2, rfl⟩ := ext_of (h := h) (by omega) (fun j hj => (st2 j hj).trans (List.getElem?_append_left hj))
  have v1 := hf3.one
  have v2 := hf3.cells
  simp (disch := omega) only [go_sem, ho', v1, v2, Nat.one_ne_zero, if_false]
  refine ret_keep (hk _ ⟨⟨v13, by rw [List.getElem?_set_self (by simp; omega)], ?_⟩, hr, hlen⟩ ⟨by simp, fun j hj hne => ?_⟩)
  · have eR : (l.take m ++ new ++ l.drop n).map RowA.cells = (l.map RowA.cells).take m ++ new.map RowA.cells ++ (l.map RowA.cells).drop n := by simp
    rw [eR]
    refine hf3.own.keep fun id r g hi => ?_
    rw [List.getElem?_set_ne]
    · exact hi
    · rintro rfl
      rw [ho'] at hi
      cases hi
  · rw [List.getElem?_set_ne (Ne.symm hne), List.getElem?_append_left hj]
end Go.Proofs

/-
  Contracts: ends, Rows, Drop, Fork.
-/
namespace Go.Proofs
open Go Go.Abs
set_option maxRecDepth 100000
set_option linter.unusedSimpArgs false
theorem rowClone_call (G : Nat → Option AV) (a : AV) (l : List RowA) (h : AH) (K : AV → AH → Prop) (ha : Own 131 3 h a (l.map RowA.cells)) (hl : l.length ≤ 1000000000)
    (hk : ∀ v h', AccR 131 3 h v h' (l.map RowA.cells) → K v h') : SCall Tryz.prog G 94 [a] h K := by
  refine Tryz.c94 G _ h K fun hlow => ?_
  unfold Tryz.r94
  refine ha.sees.isNil Tryz.und47 ha.nn ?_ ?_
  · intro hx
    simp (disch := omega) only [go_sem]
    refine ret_keep (hk _ _ ?_)
    have := AccR.nil (e := 131) (n := 3) (h := h) (t := [])
    rw [List.append_nil] at this
    rw [hx]
    exact this
  · intro _
    simp (disch := omega) only [go_sem]
    have h0 : AccR 131 3 h (.sl h.length 0 0 0 none) (h ++ [some (.cells 131 3 [] 0)]) [] := @AccR.obj 131 3 h [] [] 0 [] (by simp)
    refine h0.append (new := l.map RowA.cells) Tryz.und47 Tryz.azero131 Tryz.byt131 (by exact Tryz.plainSrc47) (ha.more _).sees.src (by simp) (by
      rintro ⟨s, rfl⟩
      cases ha) (by simp; omega) (by simp; omega) ?_
    intro x' h'' hc _ _
    exact ret_keep (hk _ _ hc)
/-- Where a span's rows begin and end. -/
def endsK (l : List RowA) (a b : List UInt8) : Nat × Nat := (lbK l a, max (lbK l a) (if b = [] then l.length else lbK l b))
theorem endsK_le (l : List RowA) (a b : List UInt8) : (endsK l a b).1 ≤ (endsK l a b).2 ∧ (endsK l a b).2 ≤ l.length := by
  have h1 := lbK_le l a
  have h2 := lbK_le l b
  unfold endsK
  simp only
  split <;> omega
theorem tbEnds_call (G : Nat → Option AV) (p : Nat) (l : List RowA) (a b : List UInt8) (h : AH) (K : AV → AH → Prop) (T : TabAt h p l)
    (hk : K (.tup [.v (.int .i64 (endsK l a b).1), .v (.int .i64 (endsK l a b).2)]) h) : SCall Tryz.prog G 93 [.ptr p 0 0 0, .agg [.v (.string (bs a)), .v (.string (bs b))]] h K := by
  refine Tryz.c93 G _ _ h K fun hlow => ?_
  unfold Tryz.r93
  obtain ⟨x, ho, s⟩ := T.ex
  have pl := T.lt
  have hl := T.len
  have a1 := s.one
  have a2 := s.cells
  have ho' : ∀ t : AH, (h ++ t)[p]? = _ := fun t => (List.getElem?_append_left pl).trans ho
  have la : ∀ t, aLen Tryz.prog (h ++ t) 47 x = some (.v (.int .i64 l.length)) := fun t => by
    have := (s.more t).sees.len (P := Tryz.prog) (t := 47) Tryz.und47
    rw [List.length_map] at this
    exact this
  have hmax : ∀ x y : Nat, (if (x : Int) < (y : Int) then (y : Int) else (x : Int)) = ((max x y : Nat) : Int) := fun x y => by split <;> omega
  have hmax2 : ∀ x y : Nat, (if (y : Int) > (x : Int) then (y : Int) else (x : Int)) = ((max x y : Nat) : Int) := fun x y => by split <;> omega
  simp (disch := omega) only [go_sem, Nat.reduceAdd]
  refine ⟨tbAt_call G p l a _ _ (T.grew (Grew.app _)) ?_⟩
  unfold endsK at hk
  have hbe : (b == []) = decide (b = []) := by cases b <;> rfl
  by_cases hb : b = []
  · subst hb
    simp only [if_true] at hk
    simp (disch := omega) only [go_sem, extV, ho', a1, a2, la, Nat.reduceAdd, bs_toList, show (ByteArray.mk #[]).toList = [] from bs_toList [], beq_self_eq_true, Bool.not_true, aMinMax, if_true, hmax, hmax2]
    exact ret_tail hlow (by simp [low_tup, low_v]) hk
  · rw [if_neg hb] at hk
    have hbf : (b == []) = false := by rw [hbe]; simp [hb]
    simp (disch := omega) only [go_sem, extV, ho', a1, a2, la, Nat.reduceAdd, bs_toList, show (ByteArray.mk #[]).toList = [] from bs_toList [], hbf, Bool.not_false]
    refine ⟨tbAt_call G p l b _ _ (T.grew (Grew.app _)) ?_⟩
    simp (disch := omega) only [go_sem, extV, aMinMax, if_true, hmax, hmax2]
    exact ret_tail hlow (by simp [low_tup, low_v]) hk
theorem tbRows_call (G : Nat → Option AV) (p : Nat) (l : List RowA) (a b : List UInt8) (h : AH) (K : AV → AH → Prop) (T : TabAt h p l)
    (hk : ∀ v h', AccR 131 3 h v h' (((l.drop (endsK l a b).1).take ((endsK l a b).2 - (endsK l a b).1)).map RowA.cells) → K v h') : SCall Tryz.prog G 44 [.ptr p 0 0 0, .agg [.v (.string (bs a)), .v (.string (bs b))]] h K := by
  refine Tryz.c44 G _ _ h K fun hlow => ?_
  unfold Tryz.r44
  obtain ⟨x, ho, s⟩ := T.ex
  have pl := T.lt
  have hl := T.len
  have a1 := s.one
  have a2 := s.cells
  have hel := endsK_le l a b
  have ho' : ∀ t : AH, (h ++ t)[p]? = _ := fun t => (List.getElem?_append_left pl).trans ho
  simp (disch := omega) only [go_sem, Nat.reduceAdd]
  refine ⟨tbEnds_call G p l a b _ _ (T.grew (Grew.app _)) ?_⟩
  generalize endsK l a b = ft at hel hk
  obtain ⟨f, t⟩ := ft
  obtain ⟨x', e', so⟩ := s.cut (P := Tryz.prog) (t := 47) (k := .i64) (k' := .i64) Tryz.und47 Tryz.siz131 (lo := f) (hi := t) hel.1 (by simpa using hel.2)
  simp (disch := omega) only [go_sem, extV, ho', a1, a2, Nat.reduceAdd, e']
  have so2 : Own 131 3 h x' (((l.drop f).take (t - f)).map RowA.cells) := by simpa using so
  refine ⟨rowClone_call G x' _ _ _ (so2.more _) (by simp; omega) fun v h' acc => ?_⟩
  simp (disch := omega) only [go_sem]
  exact ret_keep (hk v h' acc.base)
theorem tbDrop_call (G : Nat → Option AV) (p : Nat) (l : List RowA) (a b : List UInt8) (h : AH) (K : AV → AH → Prop) (T : TabAt h p l)
    (hk : ∀ h', TabAt h' p (l.take (endsK l a b).1 ++ l.drop (endsK l a b).2) → But p h h' → K (.v (.int .i64 (((endsK l a b).2 - (endsK l a b).1 : Nat) : Int))) h') : SCall Tryz.prog G 223 [.ptr p 0 0 0, .agg [.v (.string (bs a)), .v (.string (bs b))]] h K := by
  refine Tryz.c223 G _ _ h K fun hlow => ?_
  unfold Tryz.r223
  have hl := T.len
  have hel := endsK_le l a b
  simp (disch := omega) only [go_sem, Nat.reduceAdd]
  refine ⟨tbEnds_call G p l a b _ _ (T.grew (Grew.app _)) ?_⟩
  generalize endsK l a b = ft at hel hk
  obtain ⟨f, t⟩ := ft
  simp only at hel hk
  simp (disch := omega) only [go_sem, extV, Nat.reduceAdd]
  have hsub : List.Sublist (l.take f ++ [] ++ l.drop t) l := by
    have h1 : l.drop t = (l.drop f).drop (t - f) := by rw [List.drop_drop]; congr 1; omega
    have h2 := List.Sublist.append (List.Sublist.refl (l.take f)) (List.drop_sublist (t - f) (l.drop f))
    rw [List.take_append_drop] at h2
    rw [List.append_nil, h1]
    exact h2
  refine ⟨tbSplice_call G p l [] f t _ _ _ (T.grew (Grew.app _)) (by omega) hel.2 Sees.nil (by simp) (by simp) (List.Pairwise.sublist hsub T.rise) (Nat.le_trans hsub.length_le T.len) fun h' T' b' => ?_⟩
  rw [List.append_nil] at T'
  have ew : IntKind.i64.wrap ((t : Int) - (f : Int)) = ((t - f : Nat) : Int) := by rw [wrap64_of (by omega) (by omega)]; omega
  simp (disch := omega) only [go_sem, ew]
  exact ret_keep (hk h' T' ((But.app _).trans b'))
end Go.Proofs

/-
  Contracts: rows are taken in.
-/
namespace Go.Proofs
open Go Go.Abs
set_option maxRecDepth 100000
set_option linter.unusedSimpArgs false
theorem rowIndex_call (G : Nat → Option AV) (a : AV) (ops : List RowA) (g : FuncId) (fi ca : List AV) (p : RowA → Bool) (h : AH) (K : AV → AH → Prop) (ha : Sees h 3 a (ops.map RowA.cells)) (hl : ops.length ≤ 1000000000000)
    (hc : ∀ x ∈ ops, ∀ (K : AV → AH → Prop), K (.v (.bool (p x))) h → SCall Tryz.prog G g (fi ++ .agg x.cells :: ca) h K)
    (hk1 : ∀ (k : Nat) x, ops[k]? = some x → p x = true → (∀ y ∈ ops.take k, p y = false) → K (.v (.int .i64 k)) h)
    (hk2 : (∀ x ∈ ops, p x = false) → K (.v (.int .i64 (-1))) h) : SCall Tryz.prog G 129 [a, .fn (.func g) fi ca] h K := by
  refine Tryz.c129 G _ _ h K fun hlow => ?_
  unfold Tryz.r129
  have la := ha.len (P := Tryz.prog) (t := 47) Tryz.und47
  rw [List.length_map] at la
  simp (disch := omega) only [go_sem, la]
  unfold Tryz.r129_l2_1
  refine ⟨fun m vs h' => ∃ k : Nat, k ≤ ops.length ∧ m = ops.length - k ∧ h' = h ∧ (∀ y ∈ ops.take k, p y = false) ∧ vs = [.v (.int .i64 k)], ops.length, ⟨0, by omega, rfl, rfl, by simp, rfl⟩, ?_⟩
  rintro m h' hl1 hlow2 n ⟨k, hkk, rfl, rfl, hno, hvs⟩
  simp only [List.cons.injEq, AV.v.injEq, Value.int.injEq, true_and, and_true] at hvs
  subst hvs
  by_cases hkl : k < ops.length
  · obtain ⟨x, hx⟩ : ∃ x, ops[k]? = some x := ⟨_, List.getElem?_eq_getElem hkl⟩
    obtain ⟨q, q1, q2, _⟩ := ha.iaAll (P := Tryz.prog) (ty := 47) (k := .i64) (i := k) (r := x.cells) Tryz.und47 Tryz.siz131 (by omega) (by simp [hx])
    have q1 := q1 []
    have q2 := q2 []
    rw [List.append_nil] at q1 q2
    have ew : IntKind.i64.wrap ((k : Int) + 1) = ((k + 1 : Nat) : Int) := by rw [wrap64_of (by omega) (by omega)]; omega
    simp (disch := omega) only [go_sem, q1, q2]
    refine ⟨hc x (List.mem_of_getElem? hx) _ ?_⟩
    cases hp : p x with
    | true =>
      simp (disch := omega) only [go_sem]
      exact ret_same (hk1 k x hx hp hno)
    | false =>
      simp (disch := omega) only [go_sem, ew]
      refine next_keep (ops.length - (k + 1)) (by omega) (Nat.le_refl _) ⟨k + 1, by omega, rfl, rfl, ?_, rfl⟩
      intro y hy
      rw [List.take_add_one, hx] at hy
      simp only [Option.toList_some, List.mem_append, List.mem_singleton] at hy
      rcases hy with hy | rfl
      · exact hno y hy
      · exact hp
  · simp (disch := omega) only [go_sem]
    have : k = ops.length := by omega
    subst this
    rw [List.take_length] at hno
    exact ret_same (hk2 hno)
theorem rowContains_call (G : Nat → Option AV) (a : AV) (ops : List RowA) (g : FuncId) (fi ca : List AV) (p : RowA → Bool) (h : AH) (K : AV → AH → Prop) (ha : Sees h 3 a (ops.map RowA.cells)) (hl : ops.length ≤ 1000000000000)
    (hc : ∀ x ∈ ops, ∀ (K : AV → AH → Prop), K (.v (.bool (p x))) h → SCall Tryz.prog G g (fi ++ .agg x.cells :: ca) h K)
    (hk : K (.v (.bool (ops.any p))) h) : SCall Tryz.prog G 83 [a, .fn (.func g) fi ca] h K := by
  refine Tryz.c83 G _ _ h K fun hlow => ?_
  unfold Tryz.r83
  refine ⟨rowIndex_call G a ops g fi ca p h _ ha hl hc (fun k x hx hp _ => ?_) (fun hno => ?_)⟩
  · have : ops.any p = true := List.any_eq_true.mpr ⟨x, List.mem_of_getElem? hx, hp⟩
    rw [this] at hk
    simp (disch := omega) only [go_sem]
    exact ret_same hk
  · have : ops.any p = false := by rw [List.any_eq_false]; intro x hx; rw [hno x hx]; decide
    rw [this] at hk
    simp (disch := omega) only [go_sem]
    exact ret_same hk
theorem row_call (G : Nat → Option AV) (r : RowA) (h : AH) (K : AV → AH → Prop) (hkl : r.key.length ≤ 4611686018427387904) (hvl : r.val.length ≤ 4611686018427387904) (hk : K (.v (.bool r.may)) h) : SCall Tryz.prog G 85 [.agg r.cells] h K := by
  refine Tryz.c85 G _ h K fun hlow => ?_
  unfold Tryz.r85
  have e0 : (ByteArray.mk #[]).toList = [] := bs_toList []
  unfold RowA.may at hk
  by_cases h1 : r.key = []
  · have hb : (r.key == []) = true := by simp [h1]
    rw [show decide (r.key ≠ []) = false by simp [h1], Bool.false_and] at hk
    simp (disch := omega) only [go_sem, Nat.reduceAdd, bs_toList, e0, hb, Bool.not_true]
    exact ret_tail hlow .v hk
  have hb : (r.key == []) = false := by simpa using h1
  rw [show decide (r.key ≠ []) = true by simp [h1], Bool.true_and] at hk
  by_cases h2 : (r.key.length : Int) ≤ 64
  · rw [decide_eq_true h2, Bool.true_and] at hk
    by_cases h3 : 1 ≤ r.stamp
    · rw [decide_eq_true h3, Bool.true_and] at hk
      by_cases h4 : r.stamp ≤ 1099511627776
      · rw [decide_eq_true h4, Bool.true_and] at hk
        simp (disch := omega) only [go_sem, Nat.reduceAdd, bs_toList, e0, hb, Bool.not_false]
        exact ret_tail hlow .v hk
      · rw [decide_eq_false h4, Bool.false_and] at hk
        simp (disch := omega) only [go_sem, Nat.reduceAdd, bs_toList, e0, hb, Bool.not_false]
        exact ret_tail hlow .v hk
    · rw [decide_eq_false h3, Bool.false_and] at hk
      simp (disch := omega) only [go_sem, Nat.reduceAdd, bs_toList, e0, hb, Bool.not_false]
      exact ret_tail hlow .v hk
  · rw [decide_eq_false h2, Bool.false_and] at hk
    simp (disch := omega) only [go_sem, Nat.reduceAdd, bs_toList, e0, hb, Bool.not_false]
    exact ret_tail hlow .v hk
theorem take1_call (G : Nat → Option AV) (r : RowA) (h : AH) (K : AV → AH → Prop) (hkl : r.key.length ≤ 4611686018427387904) (hvl : r.val.length ≤ 4611686018427387904) (hk : K (.v (.bool (!r.may))) h) : SCall Tryz.prog G 84 [.agg r.cells] h K := by
  refine Tryz.c84 G _ h K fun hlow => ?_
  unfold Tryz.r84
  simp (disch := omega) only [go_sem, Nat.reduceAdd]
  refine ⟨row_call G r _ _ hkl hvl ?_⟩
  simp (disch := omega) only [go_sem, Nat.reduceAdd]
  exact ret_tail hlow .v hk
theorem cmpOr_call (G : Nat → Option AV) (i : Nat) (x y : Int) (h : AH) (K : AV → AH → Prop) (ho : h[i]? = some (some (.cells 3 1 [[.v (.int .i64 x)], [.v (.int .i64 y)]] 0))) (hy : y ≠ 0) (hk : K (.v (.int .i64 (if x ≠ 0 then x else y))) h) : SCall Tryz.prog G 88 [.sl i 0 0 2 none] h K := by
  refine Tryz.c88 G _ h K fun hlow => ?_
  unfold Tryz.r88
  simp (disch := omega) only [go_sem]
  unfold Tryz.r88_l3_1
  refine ⟨fun m vs h' => ∃ k : Nat, k ≤ 1 ∧ m = 1 - k ∧ h' = h ∧ (k = 1 → x = 0) ∧ vs = [.v (.int .i64 k)], 1, ⟨0, by omega, rfl, rfl, by simp, rfl⟩, ?_⟩
  rintro m h' hl1 hlow2 n ⟨k, hkk, rfl, rfl, hx, hvs⟩
  simp only [List.cons.injEq, AV.v.injEq, Value.int.injEq, true_and, and_true] at hvs
  subst hvs
  have e1 : IntKind.i64.wrap ((0 : Int) + 1) = 1 := rfl
  by_cases h0 : k = 0
  · subst h0
    simp only [Int.natCast_zero, Int.ofNat_zero]
    by_cases hx0 : x = 0
    · simp (disch := omega) only [go_sem, ho, hx0]
      exact next_keep 0 (by omega) (Nat.le_refl _) ⟨1, by omega, rfl, rfl, fun _ => hx0, by simp⟩
    · rw [if_pos hx0] at hk
      simp (disch := omega) only [go_sem, ho]
      exact ret_same hk
  · have : k = 1 := by omega
    subst this
    rw [if_neg (by simp [hx rfl])] at hk
    simp only [Int.natCast_one]
    simp (disch := omega) only [go_sem, ho]
    exact ret_same hk
theorem take2_call (G : Nat → Option AV) (a b : RowA) (h : AH) (K : AV → AH → Prop) (hk : ∀ n t, (decide (n < 0) = !bl b.key a.key) → K (.v (.int .i64 n)) (h ++ t)) : SCall Tryz.prog G 87 [.agg a.cells, .agg b.cells] h K := by
  refine Tryz.c87 G _ _ h K fun hlow => ?_
  unfold Tryz.r87
  simp (disch := omega) only [go_sem, Nat.reduceAdd]
  refine ⟨Compare_call G _ _ _ _ ?_⟩
  simp (disch := omega) only [go_sem, Nat.reduceAdd]
  refine ⟨cmpOr_call G (h.length + 2) (if bl a.key b.key = true then -1 else if a.key = b.key then 0 else 1) (-1) _ _ (by simp) (by omega) ?_⟩
  simp (disch := omega) only [go_sem, Nat.reduceAdd]
  refine ret_keep (hk _ _ ?_)
  rcases bl_total a.key b.key with h1 | h1 | h1
  · rw [if_pos h1, bl_asymm h1]; rfl
  · rw [h1, bl_irrefl]; simp
  · rw [bl_asymm h1, h1]
    have : a.key ≠ b.key := fun e => by rw [e, bl_irrefl] at h1; cases h1
    simp [this]
theorem rowSorted_call (G : Nat → Option AV) (x : AV) (l : List RowA) (h : AH) (K : AV → AH → Prop) (hx : Sees h 3 x (l.map RowA.cells)) (hl : l.length ≤ 1000000000)
    (hk1 : Rise l → K (.v (.bool true)) h) (hk2 : ¬ Rise l → K (.v (.bool false)) h) : SCall Tryz.prog G 86 [x, .fn (.func 87) [] []] h K := by
  refine Tryz.c86 G _ _ h K fun hlow => ?_
  unfold Tryz.r86
  have la := hx.len (P := Tryz.prog) (t := 47) Tryz.und47
  rw [List.length_map] at la
  have e0 : IntKind.i64.wrap ((l.length : Int) - 1) = (l.length : Int) - 1 := wrap64_of (by omega) (by omega)
  simp (disch := omega) only [go_sem, la, e0]
  unfold Tryz.r86_l2_1
  refine ⟨fun m vs h' => ∃ k : Int, -1 ≤ k ∧ k ≤ (l.length : Int) - 1 ∧ m = (k + 1).toNat ∧ h' = h ∧ (∀ (i : Nat) (a b : RowA), k ≤ (i : Int) → l[i]? = some a → l[i + 1]? = some b → bl a.key b.key = true) ∧ vs = [.v (.int .i64 k)], l.length, ⟨(l.length : Int) - 1, by omega, by omega, by omega, rfl, ?_, rfl⟩, ?_⟩
  · intro i a b hi ha hb
    have := (List.getElem?_eq_some_iff.mp hb).1
    omega
  rintro m h' hl1 hlow2 k ⟨n, hk0, hkl, rfl, rfl, hno, hvs⟩
  simp only [List.cons.injEq, AV.v.injEq, Value.int.injEq, true_and, and_true] at hvs
  subst hvs
  have row : ∀ {q : Int} {r : RowA}, 0 ≤ q → l[q.toNat]? = some r → ∃ w, aIA Tryz.prog h' 47 x (.v (.int .i64 q)) = some w ∧ Go.Abs.rowAt h' w = some (r.cells, 0) := fun {q r} h0 hq => hx.ia (P := Tryz.prog) (t := 47) (k := .i64) (i := q) (r := r.cells) Tryz.und47 Tryz.siz131 h0 (by simp [hq])
  by_cases hpos : 0 < k
  · have ew : IntKind.i64.wrap (k - 1) = k - 1 := wrap64_of (by omega) (by omega)
    obtain ⟨b, hb⟩ : ∃ b, l[k.toNat]? = some b := ⟨_, List.getElem?_eq_getElem (by omega)⟩
    obtain ⟨a, ha⟩ : ∃ a, l[(k - 1).toNat]? = some a := ⟨_, List.getElem?_eq_getElem (by omega)⟩
    obtain ⟨q, q1, q2⟩ := row (by omega) hb
    obtain ⟨w, w1, w2⟩ := row (by omega) ha
    simp (disch := omega) only [go_sem, q1, q2, w1, w2, ew]
    refine ⟨take2_call G b a _ _ fun n t hn => ?_⟩
    cases hc : bl a.key b.key with
    | true =>
      rw [hc] at hn
      have hn : ¬ n < 0 := by simpa using hn
      simp (disch := omega) only [go_sem]
      refine next_drop (k - 1 + 1).toNat (by omega) (Nat.le_refl _) hlow (by simp [low_v]) ⟨k - 1, by omega, by omega, rfl, rfl, ?_, rfl⟩
      intro i a' b' hi ha' hb'
      by_cases he : (i : Int) = k - 1
      · have e1 : (k - 1).toNat = i := by omega
        have e2 : k.toNat = i + 1 := by omega
        rw [e1, ha'] at ha
        rw [e2, hb'] at hb
        obtain rfl := Option.some.inj ha
        obtain rfl := Option.some.inj hb
        exact hc
      · exact hno i a' b' (by omega) ha' hb'
    | false =>
      rw [hc] at hn
      have hn : n < 0 := by simpa using hn
      simp (disch := omega) only [go_sem]
      refine ret_tail hlow .v (hk2 fun hr => ?_)
      have := rise_adj.mp hr (k - 1).toNat a b ha (by rw [show (k - 1).toNat + 1 = k.toNat by omega]; exact hb)
      rw [hc] at this
      cases this
  · simp (disch := omega) only [go_sem]
    exact ret_same (hk1 (rise_adj.mpr fun i a b ha hb => hno i a b (by omega) ha hb))
end Go.Proofs

/-
  Contracts: Take.
-/
namespace Go.Proofs
open Go Go.Abs
set_option maxRecDepth 100000
set_option linter.unusedSimpArgs false
theorem buildTab {a : AV} (a1 : a.one = true) (a2 : a.cells = [a]) : aBuild Tryz.prog 160 [(0, some a)] = some (.agg [a]) := by
  unfold aBuild
  have hz : zer Tryz.prog 160 = some (.agg [.v (.slice none 0 0)]) := by kernel_rfl
  rw [hz, Tryz.und160]
  simp [aFill, placeOf, setAt, chk, a1, a2, Tryz.siz47]
theorem fillRow {r : RowA} {x y : ByteArray} : rowsFill 3 (List.replicate 1 [.v (.string x), .v (.int .i64 0), .v (.string y)]) [(0, some (.agg r.cells))] = some [r.cells] := by
  simp [rowsFill, AV.one, AV.cells, chk]
theorem tbTake_call (G : Nat → Option AV) (p : Nat) (l new : List RowA) (x : AV) (h : AH) (K : AV → AH → Prop) (T : TabAt h p l) (hx : ∀ H, KeepT h H → Sees H 3 x (new.map RowA.cells)) (hnl : new.length ≤ 1000000) (hb : ∀ r ∈ new, r.key.length ≤ 4611686018427387904 ∧ r.val.length ≤ 4611686018427387904)
    (hk80 : (new.any fun r => !r.may) = true → K (.v (.int .i64 80)) h)
    (hk4 : (new.any fun r => !r.may) = false → ¬ Rise new → K (.v (.int .i64 4)) h)
    (hk22 : (new.any fun r => !r.may) = false → Rise new → 4096 < (takeM l new).length → K (.v (.int .i64 22)) h)
    (hk0 : (new.any fun r => !r.may) = false → Rise new → (takeM l new).length ≤ 4096 → ∀ h', TabAt h' p (takeM l new) → But p h h' → K (.v (.int .i64 0)) h') : SCall Tryz.prog G 42 [.ptr p 0 0 0, x] h K := by
  refine Tryz.c42 G _ _ h K fun hlow => ?_
  unfold Tryz.r42
  obtain ⟨a, ho, s⟩ := T.ex
  have pl := T.lt
  have hl := T.len
  have a1 := s.one
  have a2 := s.cells
  have e0 : (ByteArray.mk #[]) = bs [] := rfl
  refine ⟨rowContains_call G x new _ [] [] (fun r => !r.may) h _ (hx h (KeepT.refl h)) (by omega) (fun r hr K hK => take1_call G r _ K (hb r hr).1 (hb r hr).2 hK) ?_⟩
  cases hany : new.any fun r => !r.may with
  | true =>
    simp (disch := omega) only [go_sem]
    exact ret_same (hk80 hany)
  | false =>
  simp (disch := omega) only [go_sem]
  refine ⟨rowSorted_call G x new h _ (hx h (KeepT.refl h)) (by omega) (fun hr => ?_) (fun hr => ?_)⟩
  rotate_left
  · simp (disch := omega) only [go_sem, Bool.not_false]
    exact ret_same (hk4 hany hr)
  have la := s.sees.len (P := Tryz.prog) (t := 47) Tryz.und47
  rw [List.length_map] at la
  have lx : ∀ H, KeepT h H → aLen Tryz.prog H 47 x = some (.v (.int .i64 new.length)) := fun H k => by
    have := (hx H k).len (P := Tryz.prog) (t := 47) Tryz.und47
    rw [List.length_map] at this
    exact this
  have lx0 := lx h (KeepT.refl h)
  have lxt : ∀ t, aLen Tryz.prog (h ++ t) 47 x = some (.v (.int .i64 new.length)) := fun t => lx _ (KeepT.app _ _)
  have ho' : ∀ t : AH, (h ++ t)[p]? = _ := fun t => (List.getElem?_append_left pl).trans ho
  have ew : IntKind.i64.wrap ((l.length : Int) + (new.length : Int)) = ((l.length + new.length : Nat) : Int) := by rw [wrap64_of (by omega) (by omega)]; omega
  simp (disch := omega) only [go_sem, Bool.not_true, ho, ho', a1, a2, la, lx0, lxt, ew, e0, Nat.one_ne_zero, if_false]
  unfold Tryz.r42_l8_17
  have m0 : Half 131 3 h (h ++ [some (.cells 131 3 (List.replicate (l.length + new.length) [.v (.string (bs [])), .v (.int .i64 0), .v (.string (bs []))]) 0)]) (.sl h.length 0 0 0 none) [] := @Half.mine 131 3 h _ h.length 0 [] _ (Nat.le_refl _) (by simp) (by simp; rfl)
  refine ⟨fun m vs H => ∃ (k : Nat) (v21 v22 : AV) (rest out : List RowA), k ≤ new.length ∧ m = new.length - k ∧ Half 131 3 h H v21 (out.map RowA.cells) ∧ Grew h H ∧ Own 131 3 h v22 (rest.map RowA.cells) ∧ out ++ takeM rest (new.drop k) = takeM l new ∧ (out.length + rest.length ≤ l.length + k ∧ rest.length ≤ l.length) ∧ Rise rest ∧ vs = [v21, v22, .v (.int .i64 k)], new.length, ⟨0, _, _, l, [], by omega, by simp, by simpa using m0, Grew.app _, s, by simp, ⟨by simp, by simp⟩, T.rise, rfl⟩, ?_⟩
  rintro m H hl1 hlow2 v21' v22' n ⟨k, v21, v22, rest, out, hkk, rfl, mi, g, so, hq, ⟨hlen, hrl⟩, hrise, hvs⟩
  simp only [List.cons.injEq, AV.v.injEq, Value.int.injEq, true_and, and_true] at hvs
  obtain ⟨rfl, rfl, rfl⟩ := hvs
  have gl := g.len
  obtain ⟨tt, htt⟩ := g.ex
  have soH : ∀ t, Own 131 3 (H ++ t) v22' (rest.map RowA.cells) := fun t => by rw [htt, List.append_assoc]; exact so.more _
  have r1 := so.one
  have r2 := so.cells
  by_cases hkl : k < new.length
  rotate_left
  · have : k = new.length := by omega
    subst this
    rw [List.drop_length] at hq
    simp only [takeM] at hq
    simp (disch := omega) only [go_sem]
    have soH0 := soH []
    rw [List.append_nil] at soH0
    refine mi.append gl Tryz.und47 Tryz.azero131 Tryz.byt131 (by exact Tryz.plainSrc47) soH0.sees.src so.rowsLen (by
      rintro ⟨s, rfl⟩
      cases so) (by simp; omega) (by simp; omega) fun v60 h61 hf3 hle st _ => ?_
    have hf3 : Half 131 3 h h61 v60 ((takeM l new).map RowA.cells) := by rw [← hq]; simpa using hf3
    obtain ⟨t2, rfl⟩ := ext_of (h := h) (h' := h61) (by omega) (fun j hj => by rw [st j hj, htt, List.getElem?_append_left hj])
    have v1 := hf3.one
    have v2 := hf3.cells
    have lo := hf3.own.sees.len (P := Tryz.prog) (t := 47) Tryz.und47
    rw [List.length_map] at lo
    by_cases hbig : 4096 < (takeM l new).length
    · simp (disch := omega) only [go_sem, lo]
      exact ret_tail hlow .v (hk22 hany hr hbig)
    · simp (disch := omega) only [go_sem, lo, ho', v1, v2, Nat.one_ne_zero, if_false]
      refine ret_keep (hk0 hany hr (by omega) _ ⟨⟨v60, by rw [List.getElem?_set_self (by simp; omega)], ?_⟩, takeM_rise T.rise hr, by omega⟩ ⟨by simp, fun j hj hne => ?_⟩)
      · refine hf3.own.keep fun id r g hi => ?_
        rw [List.getElem?_set_ne]
        · exact hi
        · rintro rfl
          rw [ho'] at hi
          cases hi
      · rw [List.getElem?_set_ne (Ne.symm hne), List.getElem?_append_left hj]
  obtain ⟨r, hrk⟩ : ∃ r, new[k]? = some r := ⟨_, List.getElem?_eq_getElem hkl⟩
  have kH : KeepT h H := KeepT.grew g
  obtain ⟨q, q1, q2⟩ := (hx H kH).ia (P := Tryz.prog) (t := 47) (k := .i64) (i := (k : Int)) (r := r.cells) Tryz.und47 Tryz.siz131 (by omega) (by simp [hrk])
  have hdrop : new.drop k = r :: new.drop (k + 1) := by
    obtain ⟨h1, h2⟩ := List.getElem?_eq_some_iff.mp hrk
    rw [← h2, List.getElem_cons_drop]
  rw [hdrop] at hq
  simp only [takeM] at hq
  have hlb := lbK_le rest r.key
  have hhi := hiK_le rest r.key
  have ewk : IntKind.i64.wrap ((k : Int) + 1) = ((k + 1 : Nat) : Int) := by rw [wrap64_of (by omega) (by omega)]; omega
  have ewl : IntKind.i64.wrap ((lbK rest r.key : Int) + 1) = ((lbK rest r.key + 1 : Nat) : Int) := by rw [wrap64_of (by omega) (by omega)]; omega
  simp (disch := omega) only [go_sem, q1, q2, e0, Nat.reduceAdd, Nat.one_ne_zero, if_false, buildTab r1 r2, r1, r2]
  have last : ∀ v H', Half 131 3 h H' v ((out ++ rest.take (lbK rest r.key) ++ [r]).map RowA.cells) → H.length ≤ H'.length → (∀ j, j < h.length → H'[j]? = H[j]?) → Tryz.r42_j40 (.ptr p 0 0 0) x (h ++ [some (AO.cells 131 3 (List.replicate (l.length + new.length) [.v (.string (bs [])), .v (.int .i64 0), .v (.string (bs []))]) 0)]) new.length (fun m vs H => ∃ (k : Nat) (v21 v22 : AV) (rest out : List RowA), k ≤ new.length ∧ m = new.length - k ∧ Half 131 3 h H v21 (out.map RowA.cells) ∧ Grew h H ∧ Own 131 3 h v22 (rest.map RowA.cells) ∧ out ++ takeM rest (new.drop k) = takeM l new ∧ (out.length + rest.length ≤ l.length + k ∧ rest.length ≤ l.length) ∧ Rise rest ∧ vs = [v21, v22, .v (.int .i64 k)]) (new.length - k) v22' k (lbK rest r.key) (hasK rest r.key) v H' := by
    intro v H' hf hle st
    obtain ⟨t2, ht2⟩ := ext_of (h := h) (h' := H') (by omega) (fun j hj => by rw [st j hj, htt, List.getElem?_append_left hj])
    have h1le : (h ++ [some (AO.cells 131 3 (List.replicate (l.length + new.length) [.v (.string (bs [])), .v (.int .i64 0), .v (.string (bs []))]) 0)]).length ≤ H'.length := Nat.le_trans hl1 hle
    unfold Tryz.r42_j40
    have fin : ∀ (d : Nat) (w : AV), d = hiK rest r.key → Own 131 3 h w ((rest.map RowA.cells).drop d) → nextR (h ++ [some (AO.cells 131 3 (List.replicate (l.length + new.length) [.v (.string (bs [])), .v (.int .i64 0), .v (.string (bs []))]) 0)]) (fun m vs H => ∃ (k : Nat) (v21 v22 : AV) (rest out : List RowA), k ≤ new.length ∧ m = new.length - k ∧ Half 131 3 h H v21 (out.map RowA.cells) ∧ Grew h H ∧ Own 131 3 h v22 (rest.map RowA.cells) ∧ out ++ takeM rest (new.drop k) = takeM l new ∧ (out.length + rest.length ≤ l.length + k ∧ rest.length ≤ l.length) ∧ Rise rest ∧ vs = [v21, v22, .v (.int .i64 k)]) (new.length - k) [some (.ptr p 0 0 0), some x, some (.v (.int .i64 new.length))] [some (.ptr p 0 0 0), some x, some (.v (.int .i64 new.length))] [v, w, .v (.int .i64 ((k + 1 : Nat) : Int))] H' := by
      rintro d w rfl hw
      refine next_keep (new.length - (k + 1)) (by omega) h1le ⟨k + 1, v, w, rest.drop (hiK rest r.key), out ++ rest.take (lbK rest r.key) ++ [r], by omega, rfl, hf, ⟨t2, ht2⟩, by simpa using hw, ?_, ?_, hrise.drop _, rfl⟩
      · rw [← hq]; simp
      · have : lbK rest r.key ≤ hiK rest r.key := by unfold hiK; omega
        refine ⟨?_, by rw [List.length_drop]; omega⟩
        simp only [List.length_append, List.length_take, List.length_drop, List.length_cons, List.length_nil]
        omega
    cases hh : hasK rest r.key with
    | true =>
      have e1 : hiK rest r.key = lbK rest r.key + 1 := by unfold hiK; rw [hh]; rfl
      obtain ⟨w, w1, w2⟩ := so.from (P := Tryz.prog) (t := 47) (k := .i64) Tryz.und47 Tryz.siz131 (m := lbK rest r.key + 1) (by simp; omega)
      have w1 := w1 t2
      rw [← ht2] at w1
      simp (disch := omega) only [go_sem, ewl, ewk, w1]
      exact fin _ w e1.symm w2
    | false =>
      have e1 : hiK rest r.key = lbK rest r.key := by unfold hiK; rw [hh]; rfl
      obtain ⟨w, w1, w2⟩ := so.from (P := Tryz.prog) (t := 47) (k := .i64) Tryz.und47 Tryz.siz131 (m := lbK rest r.key) (by simp; omega)
      have w1 := w1 t2
      rw [← ht2] at w1
      simp (disch := omega) only [go_sem, ewk, w1]
      exact fin _ w e1.symm w2
  have rlen : rest.length ≤ 2000000 := by omega
  refine ⟨tbAt_call G (H.length + 1) rest r.key _ _ ⟨⟨v22', by simp, soH _⟩, hrise, by omega⟩ ?_⟩
  obtain ⟨x1, eU, sU⟩ := (soH [some (AO.cells 131 3 [r.cells] 0), some (AO.cells 160 1 [[v22']] 0)]).upto (P := Tryz.prog) (t := 47) (k := .i64) Tryz.und47 Tryz.siz131 (m := lbK rest r.key) (by simp; omega)
  have eU0 := eU []
  rw [List.append_nil] at eU0
  have m2 : Half 131 3 h (H ++ [some (AO.cells 131 3 [r.cells] 0), some (AO.cells 160 1 [[v22']] 0)]) v21' (out.map RowA.cells) := mi.more _
  have oi : (H ++ [some (AO.cells 131 3 [r.cells] 0), some (AO.cells 160 1 [[v22']] 0)])[H.length]? = some (some (AO.cells 131 3 [r.cells] 0)) := by simp
  have offi : Off v21' H.length := mi.off (Nat.le_refl _)
  have st2 : ∀ j, j < h.length → (H ++ [some (AO.cells 131 3 [r.cells] 0), some (AO.cells 160 1 [[v22']] 0)])[j]? = H[j]? := fun j hj => List.getElem?_append_left (by omega)
  have hH2 : H.length + 2 = (H ++ [some (AO.cells 131 3 [r.cells] 0), some (AO.cells 160 1 [[v22']] 0)]).length := by simp
  simp (disch := omega) only [go_sem, extV]
  generalize (H ++ [some (AO.cells 131 3 [r.cells] 0), some (AO.cells 160 1 [[v22']] 0)]) = H2 at eU eU0 sU m2 oi st2 hH2 ⊢
  have oi' : ∀ t : AH, (H2 ++ t)[H.length]? = _ := fun t => (List.getElem?_append_left (List.getElem?_eq_some_iff.mp oi).1).trans oi
  refine ⟨?_, ?_⟩
  · simp (disch := omega) only [go_sem, eU0, oi, Nat.reduceAdd]
    refine m2.append (by omega) Tryz.und47 Tryz.azero131 Tryz.byt131 (by exact Tryz.plainSrc47) sU.sees.src sU.rowsLen (by
      rintro ⟨s, rfl⟩
      cases sU) (by simp; omega) (by simp; omega) fun v44 h45 hf2 hle st so2 => ?_
    obtain ⟨g45, _⟩ := so2 H.length (by omega) offi
    rw [oi] at g45
    simp (disch := omega) only [go_sem, g45, Nat.reduceAdd, fillRow]
    refine (hf2.more _).append (new := [r.cells]) (by simp; omega) Tryz.und47 Tryz.azero131 Tryz.byt131 (by exact Tryz.plainSrc47) (by simp [srcRows, rowsOf, chk]) (by simp) (by rintro ⟨s, hs⟩; cases hs) (by simp; omega) (by simp; omega) fun v49 h50 hf3 hle3 st3 _ => ?_
    simp only [List.length_append, List.length_cons, List.length_nil] at hle3
    refine last v49 h50 (by simpa using hf3) (by omega) fun j hj => ?_
    rw [st3 j hj, List.getElem?_append_left (by omega), st j hj, st2 j hj]
  · simp (disch := omega) only [go_sem, eU0, eU, oi, Nat.reduceAdd, fillRow]
    refine (m2.more _).append (by simp; omega) Tryz.und47 Tryz.azero131 Tryz.byt131 (by exact Tryz.plainSrc47) (sU.more _).sees.src sU.rowsLen (by
      rintro ⟨s, rfl⟩
      cases sU) (by simp; omega) (by simp; omega) fun v56 h57 hf2 hle st so2 => ?_
    simp only [List.length_append, List.length_cons, List.length_nil] at hle
    obtain ⟨g57, _⟩ := so2 H.length (by simp; omega) offi
    rw [oi'] at g57
    obtain ⟨gr57, _⟩ := so2 H2.length (by simp) (m2.off (Nat.le_refl _))
    rw [List.getElem?_append_right (Nat.le_refl _), Nat.sub_self, List.getElem?_cons_zero] at gr57
    simp (disch := omega) only [go_sem, g57, Nat.reduceAdd]
    refine hf2.append (new := [r.cells]) (by omega) Tryz.und47 Tryz.azero131 Tryz.byt131 (by exact Tryz.plainSrc47) (by simp [srcRows, rowsOf, chk, gr57]) (by simp) (by rintro ⟨s, hs⟩; cases hs) (by simp; omega) (by simp; omega) fun v58 h59 hf3 hle3 st3 _ => ?_
    refine last v58 h59 (by simpa using hf3) (by omega) fun j hj => ?_
    rw [st3 j hj, st j hj, List.getElem?_append_left (by omega), st2 j hj]
end Go.Proofs

/-
  Contracts: replies whose results have no rows: which may be, and how they are written.
-/
namespace Go.Proofs
open Go Go.Abs
set_option maxRecDepth 100000
set_option linter.unusedSimpArgs false
structure ResA where
  code : Int
  stamp : Int
  val : List UInt8
abbrev ResA.cells (x : ResA) : List AV := [.v (.int .i64 x.code), .v (.int .i64 x.stamp), .v (.string (bs x.val)), .v (.slice none 0 0)]
def ResA.Ok (x : ResA) : Prop := (0 ≤ x.code ∧ x.code ≤ 300) ∧ (0 ≤ x.stamp ∧ x.stamp ≤ 1099511627776) ∧ x.val.length ≤ 8192
structure RepA where
  client : Int
  seq : Int
  results : List ResA
abbrev RepA.cells (r : RepA) (a : AV) : List AV := [.v (.int .i64 r.client), .v (.int .i64 r.seq), a, .v (.int .i64 0), .v (.int .i64 0)]
structure RepA.Ok (r : RepA) : Prop where
  client : 0 ≤ r.client ∧ r.client ≤ 1000
  seq : 1 ≤ r.seq ∧ r.seq ≤ 1048576
  len : 1 ≤ r.results.length ∧ r.results.length ≤ 32
  all : ∀ x ∈ r.results, x.Ok
def ResA.fields (x : ResA) : List Fld := [.num x.code, .num x.stamp] ++ [.txt x.val] ++ [.num 0]
def RepA.fields (r : RepA) : List Fld := [.num r.client, .num r.seq, .num 0, .num 0, .num r.results.length] ++ r.results.flatMap ResA.fields
end Go.Proofs

/-
  Contracts: an operation on a table, alone (but not many rows at once).
-/
namespace Go.Proofs
open Go Go.Abs
set_option maxRecDepth 100000
set_option linter.unusedSimpArgs false
end Go.Proofs

/-
  Contracts: one operation; operations.
-/
namespace Go.Proofs
open Go Go.Abs
set_option maxRecDepth 100000
set_option linter.unusedSimpArgs false
end Go.Proofs

/-
  Contracts: operations on a table, all or none.
-/
namespace Go.Proofs
open Go Go.Abs
set_option maxRecDepth 100000
set_option linter.unusedSimpArgs false
/-- What is asked of operations that are done at once. -/
structure OpsOk (ops : List OpA) : Prop where
  one : 1 ≤ ops.length
  most : ops.length ≤ 32
  ok : ∀ x ∈ ops, x.ok = true
  k6 : ∀ x ∈ ops, x.kind ≠ 6
  kl : ∀ x ∈ ops, x.key.length ≤ 4611686018427387904 ∧ x.val.length ≤ 4611686018427387904
end Go.Proofs

/-
  Contracts: keys that rise, and where one would lie among them.
-/
namespace Go.Abs
section
variable {P : Program} {h : AH} {ty e : TypeId} {n : Nat} {a : AV} {rows : List (List AV)}
/-- Cut off ahead and behind. -/
theorem Sees.cut (s : Sees h n a rows) (hu : und P ty = .slice e) (hn : siz P e = some n) {k k' : IntKind} {lo hi : Nat} (hlo : lo ≤ hi) (hhi : hi ≤ rows.length) :
    ∃ a', (∀ t, aSlice P (h ++ t) ty a (some (some (.v (.int k lo)))) (some (some (.v (.int k' hi)))) none = some a') ∧ Sees h n a' ((rows.drop lo).take (hi - lo)) := by
  obtain ⟨hr, ⟨rfl, rfl⟩ | ⟨f, nn, rfl⟩ | ⟨id, gen, off, cap, e', rs, rfl, h1, h2, h3, h5⟩⟩ := s
  · have h0 : hi = 0 := by simpa using hhi
    subst h0
    have : lo = 0 := by omega
    subst this
    refine ⟨.v (.slice none 0 0), fun t => ?_, ⟨by simp, .inl ⟨rfl, by simp⟩⟩⟩
    simp [aSlice, hu, hn, bnd, chk]
  · refine ⟨.lst ((rows.drop lo).take (hi - lo)) (f && ((hi : Int) == (rows.length : Int))) nn, fun t => ?_, Sees.lst fun r hm => hr r (List.mem_of_mem_drop (List.mem_of_mem_take hm))⟩
    simp only [aSlice, hu, hn, bnd, chk]
    rw [if_pos ⟨by omega, by omega, by omega, hr⟩]
    simp
  · have h1' : ∀ t : AH, (h ++ t)[id]? = some (some (.cells e' n rs gen)) := fun t => by rw [List.getElem?_append_left (List.getElem?_eq_some_iff.mp h1).1]; exact h1
    refine ⟨.sl id gen (off + lo) (hi - lo) (cap.map (· - lo)), fun t => ?_, ?_⟩
    · have hroom : ((rows.length : Nat) : Int) ≤ roomOf rs off rows.length cap := by
        cases cap with
        | none => simp only [roomOf]; omega
        | some c => simp only [roomOf]; have := h5 c rfl; omega
      simp only [aSlice, hu, hn, bnd, h1', chk]
      rw [if_pos ⟨trivial, trivial, by omega, by omega, by omega⟩]
      simp
    · have hlen : ((rows.drop lo).take (hi - lo)).length = hi - lo := by simp; omega
      refine ⟨fun r hm => hr r (List.mem_of_mem_drop (List.mem_of_mem_take hm)), .inr (.inr ⟨id, gen, off + lo, cap.map (· - lo), e', rs, by rw [hlen], h1, by rw [hlen]; omega, ?_, ?_⟩)⟩
      · have h3' : (rows.drop lo).take (hi - lo) = (((rs.drop off).take rows.length).drop lo).take (hi - lo) := by rw [h3]
        rw [hlen, ← List.drop_drop, h3', List.drop_take, List.take_take, Nat.min_eq_left (by omega)]
      · intro c hc
        rw [hlen]
        cases cap with
        | none => cases hc
        | some c0 =>
          simp only [Option.map_some, Option.some.injEq] at hc
          have := h5 c0 rfl
          omega
end
end Go.Abs
namespace Go.Proofs
open Go Go.Abs
set_option maxRecDepth 100000
set_option linter.unusedSimpArgs false
theorem less_trans {a b c : List UInt8} (h1 : Op.bytesLess a b = true) (h2 : Op.bytesLess b c = true) : Op.bytesLess a c = true := by
  rw [bytesLess_eq] at *
  exact decide_eq_true (List.lt_trans (of_decide_eq_true h1) (of_decide_eq_true h2))
/-- A key of its own, and above the one ahead. -/
def goodAt (keys : List (List UInt8)) (k : Nat) : Bool := !(keys.getD k [] == []) && decide ((keys.getD k []).length ≤ 64) && (decide (k = 0) || Op.bytesLess (keys.getD (k - 1) []) (keys.getD k []))
def riseB (keys : List (List UInt8)) : Bool := (List.range keys.length).all (goodAt keys)
theorem riseB_iff {keys : List (List UInt8)} : riseB keys = true ↔ ∀ k, k < keys.length → goodAt keys k = true := by
  unfold riseB
  simp
theorem rise_less {keys : List (List UInt8)} (h : riseB keys = true) {i : Nat} : ∀ {j : Nat}, i < j → j < keys.length → Op.bytesLess (keys.getD i []) (keys.getD j []) = true := by
  intro j
  induction j with
  | zero => intro h; omega
  | succ j ih =>
    intro hij hj
    have hg := riseB_iff.mp h (j + 1) hj
    unfold goodAt at hg
    simp only [Bool.and_eq_true, Bool.or_eq_true, decide_eq_true_eq, Nat.add_sub_cancel] at hg
    have h3 : Op.bytesLess (keys.getD j []) (keys.getD (j + 1) []) = true := by rcases hg.2 with h | h; · omega
                                                                                · exact h
    by_cases he : i = j
    · subst he; exact h3
    · exact less_trans (ih (by omega) (by omega)) h3
theorem rise_call (G : Nat → Option AV) (a : AV) (keys : List (List UInt8)) (h : AH) (K : AV → AH → Prop) (ha : Sees h 1 a (keys.map srow)) (hl : keys.length ≤ 17592186044415) (hkl : ∀ k ∈ keys, k.length ≤ 4611686018427387904)
    (hk : K (.v (.bool (riseB keys))) h) : SCall Tryz.prog G 118 [a] h K := by
  refine Tryz.c118 G _ h K fun hlow => ?_
  unfold Tryz.r118
  have lc : aLen Tryz.prog h 142 a = some (.v (.int .i64 keys.length)) := by
    have := ha.len (P := Tryz.prog) (t := 142) Tryz.und142
    rw [List.length_map] at this
    exact this
  have e0 : (ByteArray.mk #[]) = bs [] := rfl
  simp (disch := omega) only [go_sem, lc]
  unfold Tryz.r118_l2_1
  refine ⟨fun m vs h' => ∃ k : Nat, k ≤ keys.length ∧ m = keys.length - k ∧ h' = h ∧ (∀ j, j < k → goodAt keys j = true) ∧ vs = [.v (.int .i64 k)], keys.length, ⟨0, by omega, rfl, rfl, by simp, rfl⟩, ?_⟩
  rintro m h' hl1 hlow2 n ⟨k, hk1, rfl, rfl, hgood, hvs⟩
  simp only [List.cons.injEq, AV.v.injEq, Value.int.injEq, true_and, and_true] at hvs
  obtain rfl := hvs
  by_cases hkk : k < keys.length
  rotate_left
  · have : riseB keys = true := riseB_iff.mpr fun j hj => hgood j (by omega)
    rw [this] at hk
    simp (disch := omega) only [go_sem]
    exact ret_same hk
  obtain ⟨s, hs⟩ : ∃ s, keys[k]? = some s := ⟨_, List.getElem?_eq_getElem hkk⟩
  have hsg : keys.getD k [] = s := by rw [List.getD_eq_getElem?_getD, hs]; rfl
  have hsl := hkl s (List.mem_of_getElem? hs)
  obtain ⟨q, q1, q2⟩ := strAt ha hs
  have bad : goodAt keys k = false → RetR h' K (.v (.bool false)) h' := fun hg => by
    have : riseB keys = false := by
      cases hr : riseB keys with
      | false => rfl
      | true => rw [riseB_iff.mp hr k hkk] at hg; cases hg
    rw [this] at hk
    exact ret_same hk
  have ew : IntKind.i64.wrap ((k : Int) + 1) = ((k + 1 : Nat) : Int) := by rw [wrap64_of (by omega) (by omega)]; omega
  unfold goodAt at bad
  rw [hsg] at bad
  by_cases h1 : s = []
  · subst h1
    simp (disch := omega) only [go_sem, lc, q1, q2, e0, bs_toList, beq_self_eq_true]
    exact bad rfl
  have h1' : (s == []) = false := by simp [h1]
  by_cases h2 : s.length > 64
  · simp (disch := omega) only [go_sem, lc, q1, q2, e0, bs_toList, h1']
    exact bad (by simp [h1]; omega)
  by_cases h3 : k = 0
  · subst h3
    simp (disch := omega) only [go_sem, lc, q1, q2, e0, bs_toList, h1', ew]
    refine next_keep (keys.length - 1) (by omega) (Nat.le_refl _) ⟨1, by omega, rfl, rfl, ?_, rfl⟩
    intro j hj
    have : j = 0 := by omega
    subst this
    unfold goodAt
    rw [hsg]
    simp [h1]
    omega
  obtain ⟨u, hu⟩ : ∃ u, keys[k - 1]? = some u := ⟨_, List.getElem?_eq_getElem (by omega)⟩
  have hug : keys.getD (k - 1) [] = u := by rw [List.getD_eq_getElem?_getD, hu]; rfl
  obtain ⟨p, p1, p2⟩ := strAt ha hu
  have ek : ((k - 1 : Nat) : Int) = (k : Int) - 1 := by omega
  have e3 : IntKind.i64.wrap ((k : Int) - 1) = (k : Int) - 1 := wrap64_of (by omega) (by omega)
  rw [ek] at p1
  rw [hug] at bad
  cases hb : Op.bytesLess u s with
  | false =>
    simp (disch := omega) only [go_sem, lc, q1, q2, e0, bs_toList, h1', ew, e3, p1, p2, hb]
    exact bad (by simp [h1, h3, hb])
  | true =>
    simp (disch := omega) only [go_sem, lc, q1, q2, e0, bs_toList, h1', ew, e3, p1, p2, hb]
    refine next_keep (keys.length - (k + 1)) (by omega) (Nat.le_refl _) ⟨k + 1, by omega, rfl, rfl, ?_, rfl⟩
    intro j hj
    by_cases hjk : j = k
    · subst hjk
      unfold goodAt
      rw [hsg, hug]
      simp [h1, hb]
      omega
    · exact hgood j (by omega)
theorem isNaN1_call (G : Nat → Option AV) (s : List UInt8) (h : AH) (K : AV → AH → Prop) (hk : K (.v (.bool false)) h) : SCall Tryz.prog G 173 [.v (.string (bs s))] h K := by
  refine Tryz.c173 G _ h K fun hlow => ?_
  unfold Tryz.r173
  simp (disch := omega) only [go_sem, beq_self_eq_true]
  exact ret_same hk
theorem isNaN2_call (G : Nat → Option AV) (s : List UInt8) (h : AH) (K : AV → AH → Prop) (hk : K (.v (.bool false)) h) : SCall Tryz.prog G 161 [.v (.string (bs s))] h K := by
  refine Tryz.c161 G _ h K fun hlow => ?_
  unfold Tryz.r161
  simp (disch := omega) only [go_sem, beq_self_eq_true]
  exact ret_same hk
theorem Less_call (G : Nat → Option AV) (a b : List UInt8) (h : AH) (K : AV → AH → Prop) (hk : K (.v (.bool (Op.bytesLess a b))) h) : SCall Tryz.prog G 160 [.v (.string (bs a)), .v (.string (bs b))] h K := by
  refine Tryz.c160 G _ _ h K fun hlow => ?_
  unfold Tryz.r160
  simp (disch := omega) only [go_sem]
  refine ⟨isNaN1_call G a _ _ ?_⟩
  simp (disch := omega) only [go_sem, bs_toList]
  exact ret_same hk
/-- Where a key would lie. -/
structure LbAt (keys : List (List UInt8)) (cur : List UInt8) (k : Nat) : Prop where
  le : k ≤ keys.length
  lo : ∀ j, j < k → Op.bytesLess (keys.getD j []) cur = true
  hi : ∀ j, k ≤ j → j < keys.length → Op.bytesLess (keys.getD j []) cur = false
theorem bsearch_call (G : Nat → Option AV) (a : AV) (keys : List (List UInt8)) (cur : List UInt8) (h : AH) (K : AV → AH → Prop) (ha : Sees h 1 a (keys.map srow)) (hl : keys.length ≤ 17592186044415) (hr : riseB keys = true)
    (hk : ∀ k b, LbAt keys cur k → K (.tup [.v (.int .i64 (k : Nat)), .v (.bool b)]) h) : SCall Tryz.prog G 119 [a, .v (.string (bs cur))] h K := by
  refine Tryz.c119 G _ _ h K fun hlow => ?_
  unfold Tryz.r119
  have lc : aLen Tryz.prog h 142 a = some (.v (.int .i64 keys.length)) := by
    have := ha.len (P := Tryz.prog) (t := 142) Tryz.und142
    rw [List.length_map] at this
    exact this
  simp (disch := omega) only [go_sem, lc]
  unfold Tryz.r119_l3_1
  refine ⟨fun m vs h' => ∃ i j : Nat, i ≤ j ∧ j ≤ keys.length ∧ m = j - i ∧ h' = h ∧ (∀ k, k < i → Op.bytesLess (keys.getD k []) cur = true) ∧ (∀ k, j ≤ k → k < keys.length → Op.bytesLess (keys.getD k []) cur = false) ∧ vs = [.v (.int .i64 i), .v (.int .i64 j)], keys.length, ⟨0, keys.length, by omega, by omega, rfl, rfl, by simp, (by intro k hk hp; omega), rfl⟩, ?_⟩
  rintro m h' hl1 hlow2 n n' ⟨i, j, hij, hj, rfl, rfl, hlo, hhi, hvs⟩
  simp only [List.cons.injEq, AV.v.injEq, Value.int.injEq, true_and, and_true] at hvs
  obtain ⟨rfl, rfl⟩ := hvs
  by_cases hlt : i < j
  · have e1 : IntKind.i64.wrap ((i : Int) + (j : Int)) = ((i + j : Nat) : Int) := by rw [wrap64_of (by omega) (by omega)]; omega
    have e2 : IntKind.u64.wrap ((i + j : Nat) : Int) = ((i + j : Nat) : Int) := by
      simp [IntKind.wrap, IntKind.bits, IntKind.signed]; omega
    have e3 : (((i + j : Nat) : Int)).fdiv 2 = (((i + j) / 2 : Nat) : Int) := by
      rw [Int.fdiv_eq_ediv_of_nonneg _ (by omega)]; omega
    have e4 : IntKind.i64.wrap ((((i + j) / 2 : Nat)) : Int) = (((i + j) / 2 : Nat) : Int) := wrap64_of (by omega) (by omega)
    have hmid : (i + j) / 2 < keys.length := by omega
    obtain ⟨p, hp⟩ : ∃ p, keys[(i + j) / 2]? = some p := ⟨_, List.getElem?_eq_getElem hmid⟩
    have hpg : keys.getD ((i + j) / 2) [] = p := by rw [List.getD_eq_getElem?_getD, hp]; rfl
    obtain ⟨q, q1, q2⟩ := strAt ha hp
    simp (disch := omega) only [go_sem, e1, e2, ↓shr_half, e3, e4, q1, q2]
    refine ⟨Less_call G p cur _ _ ?_⟩
    cases hc : Op.bytesLess p cur with
    | true =>
      simp (disch := omega) only [go_sem, e4]
      have e5 : (((i + j) / 2 : Nat) : Int) + 1 = (((i + j) / 2 + 1 : Nat) : Int) := by omega
      rw [e5]
      refine next_keep (j - ((i + j) / 2 + 1)) (by omega) (Nat.le_refl _) ⟨(i + j) / 2 + 1, j, by omega, hj, rfl, rfl, ?_, hhi, rfl⟩
      intro k hk'
      by_cases he : k = (i + j) / 2
      · subst he; rw [hpg]; exact hc
      · have := rise_less hr (i := k) (j := (i + j) / 2) (by omega) hmid
        rw [hpg] at this
        exact less_trans this hc
    | false =>
      simp (disch := omega) only [go_sem, e4]
      refine next_keep ((i + j) / 2 - i) (by omega) (Nat.le_refl _) ⟨i, (i + j) / 2, by omega, by omega, rfl, rfl, hlo, ?_, rfl⟩
      intro k hk' hkl
      by_cases he : k = (i + j) / 2
      · subst he; rw [hpg]; exact hc
      · have := rise_less hr (i := (i + j) / 2) (j := k) (by omega) hkl
        rw [hpg] at this
        cases hd : Op.bytesLess (keys.getD k []) cur with
        | false => rfl
        | true => rw [less_trans this hd] at hc; cases hc
  · have hij2 : i = j := by omega
    subst hij2
    have lb : LbAt keys cur i := ⟨hj, hlo, hhi⟩
    by_cases hin : i < keys.length
    · obtain ⟨p, hp⟩ : ∃ p, keys[i]? = some p := ⟨_, List.getElem?_eq_getElem hin⟩
      obtain ⟨q, q1, q2⟩ := strAt ha hp
      by_cases he : p = cur
      · simp (disch := omega) only [go_sem, q1, q2, bs_toList, he, beq_self_eq_true]
        exact ret_same (hk _ _ lb)
      · have he' : (p == cur) = false := by simp [he]
        simp (disch := omega) only [go_sem, q1, q2, bs_toList, he']
        refine ⟨isNaN2_call G p _ _ ?_⟩
        simp (disch := omega) only [go_sem, q1, q2, bs_toList, he']
        exact ret_same (hk _ _ lb)
    · simp (disch := omega) only [go_sem]
      exact ret_same (hk _ _ lb)
end Go.Proofs
