/-
  Abstract values, an abstract heap, and how they stand to the model's world. Nothing here is of any program.
-/
import Derived.Orders
import Derived.WalkKit
import Derived.RowKit3
import Derived.Below
import Derived.MapKept
set_option linter.all false
namespace Go.Abs

/-- An abstract value: a plain one-cell value; parts; an immutable slice by its rows; a pointer into an immutable row; a pointer, a slice, a map of the abstract heap; a function value; an interface value. -/
inductive AV where
  | v (x : Value)
  | agg (cs : List AV)
  | tup (vs : List AV)
  | lst (rows : List (List AV)) (full nn : Bool)
  | cp (row : List AV) (col : Nat)
  | ptr (id gen row col : Nat)
  | sl (id gen off len : Nat) (cap : Option Nat)
  | mp (id : Nat)
  | fn (f : Fn) (first captured : List AV)
  | ifc (t : TypeId) (x : AV)
  deriving Inhabited

/-- Where an object of the abstract heap lies: its block, how many cells a row has, how many rows there is room for. -/
structure Loc where
  blk : Nat
  n : Nat
  sz : Nat
  small : 0 < n → sz ≤ 9223372036854775807

/-- Where each object of each generation lies; and blocks that are set aside: no value points to them. -/
structure Ren where
  f : Nat → Nat → Option Loc
  res : Nat → Prop
instance : CoeFun Ren fun _ => Nat → Nat → Option Loc := ⟨Ren.f⟩

inductive VR (ρ : Ren) (N : Nat) (Wr : Nat → Prop) (w : World) : AV → Value → Prop where
  | v {x : Value} : x.oneCell' = true → VR ρ N Wr w (.v x) x
  | agg {cs : List AV} {vs : Array Value} : cs.length = vs.size → (∀ (i : Nat) (x : Value), vs[i]? = some x → x.oneCell' = true) →
      (∀ (i : Nat) (c : AV) (x : Value), cs[i]? = some c → vs[i]? = some x → VR ρ N Wr w c x) → VR ρ N Wr w (.agg cs) (.agg vs)
  | tup {cs : List AV} {vs : Array Value} : cs.length = vs.size →
      (∀ (i : Nat) (c : AV) (x : Value), cs[i]? = some c → vs[i]? = some x → VR ρ N Wr w c x) → VR ρ N Wr w (.tup cs) (.tuple vs)
  | nil {a : Option Addr} {cap : Nat} {full nn : Bool} : (full = true → cap = 0) → (nn = true → a ≠ none) → VR ρ N Wr w (.lst [] full nn) (.slice a 0 cap)
  | lst {rows : List (List AV)} {blk off n cap : Nat} {full nn : Bool} (xs : Nat → Value) : rows.length ≤ cap → (full = true → cap = rows.length) → blk < w.heap.size → ¬ Wr blk →
      (∀ (r : Nat) (row : List AV), rows[r]? = some row → row.length = n) →
      (∀ (r : Nat) (row : List AV) (c : Nat) (v : AV), rows[r]? = some row → row[c]? = some v → w.cell? ⟨blk, off + (r * n + c), none⟩ = some (xs (r * n + c))) →
      (∀ (r : Nat) (row : List AV) (c : Nat) (v : AV), rows[r]? = some row → row[c]? = some v → (xs (r * n + c)).oneCell' = true) →
      (∀ (r : Nat) (row : List AV) (c : Nat) (v : AV), rows[r]? = some row → row[c]? = some v → VR ρ N Wr w v (xs (r * n + c))) →
      VR ρ N Wr w (.lst rows full nn) (.slice (some ⟨blk, off, none⟩) rows.length cap)
  | cp {row : List AV} {blk off col : Nat} (xs : Nat → Value) : blk < w.heap.size → ¬ Wr blk →
      (∀ (c : Nat) (v : AV), row[c]? = some v → w.cell? ⟨blk, off + c, none⟩ = some (xs c)) →
      (∀ (c : Nat) (v : AV), row[c]? = some v → (xs c).oneCell' = true) →
      (∀ (c : Nat) (v : AV), row[c]? = some v → VR ρ N Wr w v (xs c)) →
      VR ρ N Wr w (.cp row col) (.pointer (some ⟨blk, off + col, none⟩))
  | ptr {id gen row col : Nat} {loc : Loc} : id < N → ρ id gen = some loc → 0 < loc.sz →
      VR ρ N Wr w (.ptr id gen row col) (.pointer (some ⟨loc.blk, row * loc.n + col, none⟩))
  | sl {id gen off len cap' : Nat} {cap : Option Nat} {a : Option Addr} {loc : Loc} : id < N → ρ id gen = some loc → off + len ≤ loc.sz → len ≤ cap' →
      (∀ c, cap = some c → cap' = c ∧ off + c ≤ loc.sz) → (cap = none → off + cap' = loc.sz) →
      (0 < cap' → a = some ⟨loc.blk, off * loc.n, none⟩) →
      VR ρ N Wr w (.sl id gen off len cap) (.slice a len cap')
  | mp {id : Nat} {loc : Loc} : id < N → ρ id 0 = some loc → 0 < loc.sz → VR ρ N Wr w (.mp id) (.map (some loc.blk))
  | fn {f : Fn} {fi ca : List AV} {fi' ca' : Array Value} : fi.length = fi'.size → ca.length = ca'.size →
      (∀ (i : Nat) (c : AV) (x : Value), fi[i]? = some c → fi'[i]? = some x → VR ρ N Wr w c x) →
      (∀ (i : Nat) (c : AV) (x : Value), ca[i]? = some c → ca'[i]? = some x → VR ρ N Wr w c x) → VR ρ N Wr w (.fn f fi ca) (.func f fi' ca')
  | ifc {t : TypeId} {x : AV} {y : Value} : VR ρ N Wr w x y → VR ρ N Wr w (.ifc t x) (.iface t y)

/-- A value stays related when ids are kept, and blocks that are not written stay so and as they are. -/
theorem VR.mono {ρ ρ' : Ren} {N N' : Nat} {Wr Wr' : Nat → Prop} {w w' : World} (hN : N ≤ N') (hρ : ∀ id gen loc, id < N → ρ id gen = some loc → ρ' id gen = some loc)
    (hsz : w.heap.size ≤ w'.heap.size)
    (hk : ∀ b, b < w.heap.size → ¬ Wr b → ¬ Wr' b ∧ w'.heap[b]? = w.heap[b]?) {a : AV} {x : Value} (h : VR ρ N Wr w a x) : VR ρ' N' Wr' w' a x := by
  have hcell : ∀ b o, b < w.heap.size → ¬ Wr b → w'.cell? ⟨b, o, none⟩ = w.cell? ⟨b, o, none⟩ := by
    intro b o hb hw
    have := (hk b hb hw).2
    simp only [World.cell?, this]
  induction h with
  | v h => exact .v h
  | agg h1 h2 _ ih => exact .agg h1 h2 ih
  | tup h1 _ ih => exact .tup h1 ih
  | nil h1 h2 => exact .nil h1 h2
  | lst xs h1 h1' h2 h3 h4 h5 h6 _ ih =>
    refine .lst xs h1 h1' (by omega) (hk _ h2 h3).1 h4 ?_ h6 ih
    intro r row c v hr hc
    rw [hcell _ _ h2 h3]; exact h5 r row c v hr hc
  | cp xs h1 h2 h3 h4 _ ih =>
    refine .cp xs (by omega) (hk _ h1 h2).1 ?_ h4 ih
    intro c v hc
    rw [hcell _ _ h1 h2]; exact h3 c v hc
  | ptr h1 h2 h3 => exact .ptr (by omega) (hρ _ _ _ h1 h2) h3
  | sl h1 h2 h3 h4 h5 h6 h7 => exact .sl (by omega) (hρ _ _ _ h1 h2) h3 h4 h5 h6 h7
  | mp h1 h2 h3 => exact .mp (by omega) (hρ _ _ _ h1 h2) h3
  | fn h1 h2 _ _ ih1 ih2 => exact .fn h1 h2 ih1 ih2
  | ifc _ ih => exact .ifc ih

/-- An entry of a map. -/
structure AE where
  key : AV
  val : AV
  born : Nat

/-- An object: rows of cells, of an element type, each of n cells, in a generation; a map; what goes over a map. -/
inductive AO where
  | cells (elem : TypeId) (n : Nat) (rows : List (List AV)) (gen : Nat)
  | map (es : List AE) (clock : Nat)
  | iter (m : AV) (since : Nat) (seen : Array Nat) (last : Nat)

def AO.gen : AO → Nat
  | .cells _ _ _ g => g
  | _ => 0

abbrev AH := List (Option AO)

/-- The blocks that are written. -/
def Wr (ρ : Ren) (h : AH) (b : Nat) : Prop := (∃ id o loc, h[id]? = some (some o) ∧ ρ id o.gen = some loc ∧ 0 < loc.sz ∧ loc.blk = b) ∨ ρ.res b

abbrev VRh (ρ : Ren) (h : AH) (w : World) : AV → Value → Prop := VR ρ h.length (Wr ρ h) w

def notFrozen (n : Nat) (fr : Nat × Nat) : Prop := ∀ k, k < n → ¬ (fr.1 ≤ k ∧ k < fr.2)

/-- Cells of which none is frozen, and each is one cell. -/
structure Fine (c : Array Value) (fr : Nat × Nat) : Prop where
  nf : notFrozen (c.size + 1) fr
  one : ∀ x ∈ c.toList, x.oneCell' = true
/-- An object as it lies in the world. -/
def OR (R : AV → Value → Prop) (w : World) (loc : Loc) : AO → Prop
  | .cells elem n rows _ => loc.n = n ∧ rows.length ≤ loc.sz ∧ (∀ (r : Nat) (row : List AV), rows[r]? = some row → row.length = n) ∧
      (0 < loc.sz → ∃ c fr, w.heap[loc.blk]? = some (.cells c elem fr) ∧ c.size = loc.sz * n ∧ Fine c fr ∧
        ∀ (r : Nat) (row : List AV) (k : Nat) (v : AV), rows[r]? = some row → row[k]? = some v → ∃ x, c[r * n + k]? = some x ∧ x.oneCell' = true ∧ R v x)
  | .map es clock => loc.sz = 1 ∧ ∃ es' : Array MapEntry, w.heap[loc.blk]? = some (.map es' clock) ∧ es.length = es'.size ∧
      ∀ (i : Nat) (e : AE) (e' : MapEntry), es[i]? = some e → es'[i]? = some e' → R e.key e'.key ∧ R e.val e'.val ∧ e.born = e'.born
  | .iter m since seen last => loc.sz = 1 ∧ ∃ r, R m (.map r) ∧ w.heap[loc.blk]? = some (.mapIter r since seen last)

structure HR (G : Nat → Option AV) (ρ : Ren) (h : AH) (w : World) : Prop where
  obj : ∀ id o, h[id]? = some (some o) → ∃ loc, ρ id o.gen = some loc ∧ (0 < loc.sz → loc.blk < w.heap.size) ∧ OR (VRh ρ h w) w loc o
  sep : ∀ id id' o o' loc loc', h[id]? = some (some o) → h[id']? = some (some o') → ρ id o.gen = some loc → ρ id' o'.gen = some loc' →
    0 < loc.sz → 0 < loc'.sz → loc.blk = loc'.blk → id = id'
  fresh : ∀ id o, h[id]? = some (some o) → ∀ g, o.gen < g → ρ id g = none
  glob : ∀ g v, G g = some v → VRh ρ h w v (.pointer (some ⟨g, 0, none⟩))
  res : ∀ b, ρ.res b → b < w.heap.size
  ressep : ∀ b, ρ.res b → ∀ id o loc, h[id]? = some (some o) → ρ id o.gen = some loc → 0 < loc.sz → loc.blk ≠ b
  tab : ∀ g row col, G g = some (.cp row col) → ∃ c e fr, w.heap[g]? = some (.cells c e fr) ∧ c.toList.map AV.v = row

/-- Constant objects that the ground knows stay where what is not written stays. -/
theorem HR.tabKeep {G : Nat → Option AV} {ρ : Ren} {h : AH} {w w' : World} (hr : HR G ρ h w) (hk : ∀ b, b < w.heap.size → ¬ Wr ρ h b → w'.heap[b]? = w.heap[b]?) :
    ∀ g row col, G g = some (.cp row col) → ∃ c e fr, w'.heap[g]? = some (.cells c e fr) ∧ c.toList.map AV.v = row := by
  intro g row col hg
  obtain ⟨c, e, fr, h1, h2⟩ := hr.tab g row col hg
  have hv := hr.glob g _ hg
  refine ⟨c, e, fr, ?_, h2⟩
  rw [← h1]
  generalize hp : Value.pointer (some ⟨g, 0, none⟩) = p at hv
  cases hv with
  | cp xs q1 q2 q3 q4 q5 =>
    simp only [Value.pointer.injEq, Option.some.injEq, Addr.mk.injEq] at hp
    obtain ⟨rfl, _⟩ := hp
    exact hk _ q1 q2

structure Frame (ρ : Ren) (h : AH) (w : World) (ρ' : Ren) (h' : AH) (w' : World) : Prop where
  os : w'.os = w.os
  tape : w'.tape = w.tape
  output : w'.output = w.output
  size : w.heap.size ≤ w'.heap.size
  len : h.length ≤ h'.length
  ren : ∀ id gen loc, id < h.length → ρ id gen = some loc → ρ' id gen = some loc
  keep : ∀ b, b < w.heap.size → ¬ Wr ρ h b → w'.heap[b]? = w.heap[b]?
  wr : ∀ b, Wr ρ' h' b → Wr ρ h b ∨ w.heap.size ≤ b
  res : ∀ b, ρ.res b → ρ'.res b
  keepR : ∀ b, ρ.res b → w'.heap[b]? = w.heap[b]?
  drawn : w.drawn ≤ w'.drawn

theorem Frame.refl (ρ : Ren) (h : AH) (w : World) : Frame ρ h w ρ h w :=
  ⟨rfl, rfl, rfl, Nat.le_refl _, Nat.le_refl _, fun _ _ _ _ h => h, fun _ _ _ => rfl, fun _ h => .inl h, fun _ h => h, fun _ _ => rfl, Nat.le_refl _⟩

theorem Frame.trans {ρ ρ' ρ'' : Ren} {h h' h'' : AH} {w w' w'' : World} (f : Frame ρ h w ρ' h' w') (g : Frame ρ' h' w' ρ'' h'' w'') : Frame ρ h w ρ'' h'' w'' where
  os := g.os.trans f.os
  tape := g.tape.trans f.tape
  output := g.output.trans f.output
  size := Nat.le_trans f.size g.size
  len := Nat.le_trans f.len g.len
  ren := fun id gen loc hid hr => g.ren id gen loc (Nat.lt_of_lt_of_le hid f.len) (f.ren id gen loc hid hr)
  keep := fun b hb hw => by
    have h1 := f.keep b hb hw
    have h2 : ¬ Wr ρ' h' b := fun hw' => (f.wr b hw').elim hw (fun hge => by omega)
    rw [g.keep b (Nat.lt_of_lt_of_le hb f.size) h2, h1]
  wr := fun b hb => by
    rcases g.wr b hb with h1 | h1
    · exact f.wr b h1
    · exact .inr (Nat.le_trans f.size h1)
  res := fun b hb => g.res b (f.res b hb)
  keepR := fun b hb => (g.keepR b (f.res b hb)).trans (f.keepR b hb)
  drawn := Nat.le_trans f.drawn g.drawn

theorem VRh.frame {ρ ρ' : Ren} {h h' : AH} {w w' : World} (f : Frame ρ h w ρ' h' w') {a : AV} {x : Value} (hv : VRh ρ h w a x) : VRh ρ' h' w' a x := by
  refine VR.mono f.len f.ren f.size ?_ hv
  intro b hb hw
  refine ⟨fun hw' => (f.wr b hw').elim hw (fun hge => by omega), f.keep b hb hw⟩

/-- The frame of a whole call that began with no object: as it is said of worlds. -/
theorem Frame.below {ρ ρ' : Ren} {h h' : AH} {w w' : World} (f : Frame ρ h w ρ' h' w') (h0 : ∀ b, ¬ Wr ρ h b) : RowKit.Below w.heap.size w w' :=
  ⟨f.os, f.tape, f.output, f.size, fun b hb => f.keep b hb (h0 b)⟩

theorem wr_nil (ρ : Ren) (b : Nat) (hb : ¬ ρ.res b) : ¬ Wr ρ [] b := by
  rintro (⟨id, o, loc, h, _⟩ | h)
  · simp at h
  · exact hb h

end Go.Abs

/-
  The quiet operations on abstract values: what they come to, and that the model's come to the same. Nothing here is of any program.
-/
namespace Go.Abs

abbrev Env := List (Nat × AV)
def Env.get : Env → Nat → Option AV
  | [], _ => none
  | (s, v) :: e, t => if s = t then some v else Env.get e t
def Env.put (e : Env) (d : Option Nat) (v : AV) : Env :=
  match d with
  | some d => (d, v) :: e
  | none => e

def AV.cells : AV → List AV
  | .agg cs => cs
  | a => [a]

/-- A constant as an abstract value. -/
def ofV : Value → Option AV
  | .agg cs => if cs.toList.all (·.oneCell') then some (.agg (cs.toList.map .v)) else none
  | .tuple vs => if vs.size = 0 then some (.tup []) else none
  | x => some (.v x)

def chk {α : Type} (c : Prop) [Decidable c] (x : Option α) : Option α := if c then x else none

def evv (G : Nat → Option AV) (e : Env) : Operand → Option AV
  | .tmp t => e.get t
  | .const v => ofV v
  | .global g => G g
  | .func f => some (.fn (.func f) [] [])

/- types -/
def und (P : Program) (t : TypeId) : TypeDesc := (P.underlying t).getD .invalid
def siz (P : Program) (t : TypeId) : Option Nat := (P.info? t).map (·.size)
def byt (P : Program) (t : TypeId) : Option Nat := (P.info? t).map (·.bytes)
def zer (P : Program) (t : TypeId) : Option AV := (P.info? t).bind fun i => i.zero.bind ofV
/-- A field: where it begins, how many cells it has, whether it has parts. -/
def fld (P : Program) (s : TypeId) (f : Nat) : Option (Nat × Nat × Bool) :=
  match und P s with
  | .struct fields => match fields[f]? with
    | some x => match siz P x.type, und P x.type with
      | some n, d => match d with
        | .invalid => none
        | .struct _ | .array _ _ => some (x.offset, n, true)
        | _ => some (x.offset, n, false)
      | none, _ => none
    | none => none
  | _ => none

theorem und_ne {P : Program} {t : TypeId} {d : TypeDesc} (h : und P t = d) (hd : d ≠ .invalid) : P.underlying t = some d := by
  unfold und at h
  cases hu : P.underlying t with
  | none => rw [hu] at h; exact absurd h.symm hd
  | some x => rw [hu] at h; simp at h; rw [h]

/- comparisons and arithmetic -/
def aInt (op : BinOp) (k : IntKind) (a b : Int) : Option AV :=
  match op with
  | .add => some (.v (.int k (k.wrap (a + b))))
  | .sub => some (.v (.int k (k.wrap (a - b))))
  | .mul => some (.v (.int k (k.wrap (a * b))))
  | .quo => chk (b ≠ 0) (some (.v (.int k (k.wrap (a.tdiv b)))))
  | .rem => chk (b ≠ 0) (some (.v (.int k (a.tmod b))))
  | .and => some (.v (.int k (k.wrap ((BitVec.ofInt k.bits a &&& BitVec.ofInt k.bits b).toNat))))
  | .or => some (.v (.int k (k.wrap ((BitVec.ofInt k.bits a ||| BitVec.ofInt k.bits b).toNat))))
  | .xor => some (.v (.int k (k.wrap ((BitVec.ofInt k.bits a ^^^ BitVec.ofInt k.bits b).toNat))))
  | .eql => some (.v (.bool (a == b)))
  | .neq => some (.v (.bool (a != b)))
  | .lss => some (.v (.bool (decide (a < b))))
  | .leq => some (.v (.bool (decide (a ≤ b))))
  | .gtr => some (.v (.bool (decide (a > b))))
  | .geq => some (.v (.bool (decide (a ≥ b))))
  | _ => none

def aStr (op : BinOp) (x y : ByteArray) : Option AV :=
  match op with
  | .add => chk (x.size + y.size ≤ 9223372036854775807) (some (.v (.string (x ++ y))))
  | .eql => some (.v (.bool (x.toList == y.toList)))
  | .neq => some (.v (.bool !(x.toList == y.toList)))
  | .lss => some (.v (.bool (Op.bytesLess x.toList y.toList)))
  | .leq => some (.v (.bool (Op.bytesLess x.toList y.toList || x.toList == y.toList)))
  | .gtr => some (.v (.bool !(Op.bytesLess x.toList y.toList || x.toList == y.toList)))
  | .geq => some (.v (.bool !(Op.bytesLess x.toList y.toList)))
  | _ => none

def aShift (op : BinOp) (k : IntKind) (a : Int) (b : Int) : Option AV :=
  match op with
  | .shl => chk (0 ≤ b) (some (.v (.int k (k.wrap (a * 2 ^ min b.toNat k.bits)))))
  | .shr => chk (0 ≤ b) (some (.v (.int k (a.fdiv (2 ^ min b.toNat k.bits)))))
  | _ => none

/-- Are two cells of a field's type alike? -/
def cellEq (P : Program) (t : TypeId) : AV → AV → Option Bool
  | .v (.int k a), .v (.int k' b) => match und P t with | .int _ => chk (k = k') (some (a == b)) | _ => none
  | .v (.string a), .v (.string b) => match und P t with | .string => some (a.toList == b.toList) | _ => none
  | .v (.bool a), .v (.bool b) => match und P t with | .bool => some (a == b) | _ => none
  | _, _ => none

def fieldsEq (P : Program) (xs ys : List AV) : List Field → Option Bool
  | [] => some true
  | f :: fs =>
    chk (f.name ≠ "_") <|
    match xs[f.offset]?, ys[f.offset]? with
    | some a, some b => match cellEq P f.type a b, fieldsEq P xs ys fs with
      | some r, some s => some (r && s)
      | _, _ => none
    | _, _ => none

/-- Equality. -/
def aEq (P : Program) (t : TypeId) : AV → AV → Option Bool
  | .v (.bool a), .v (.bool b) => match und P t with | .bool => some (a == b) | _ => none
  | .agg xs, .agg ys => match und P t with
    | .struct fs => if P.stoodInHeld t || P.eqGuardType P.depth t then none else fieldsEq P xs ys fs.toList
    | _ => none
  | .v (.pointer none), .v (.pointer none) => match und P t with | .pointer _ => some true | _ => none
  | .ptr _ _ _ _, .v (.pointer none) => match und P t with | .pointer _ => some false | _ => none
  | .cp _ _, .v (.pointer none) => match und P t with | .pointer _ => some false | _ => none
  | .v (.slice none 0 0), .v (.slice none 0 0) => match und P t with | .slice _ => some true | _ => none
  | .lst rows _ nn, .v (.slice none 0 0) => match und P t with | .slice _ => chk (nn = true ∨ rows ≠ []) (some false) | _ => none
  | .sl _ _ _ len _, .v (.slice none 0 0) => match und P t with | .slice _ => chk (0 < len) (some false) | _ => none
  | .v .nilFunc, .v .nilFunc => match und P t with | .func _ _ _ => some true | _ => none
  | .fn _ _ _, .v .nilFunc => match und P t with | .func _ _ _ => some false | _ => none
  | .v (.map none), .v (.map none) => match und P t with | .map _ _ => some true | _ => none
  | .mp _, .v (.map none) => match und P t with | .map _ _ => some false | _ => none
  | _, _ => none

def aBin (P : Program) (op : BinOp) (t : TypeId) : AV → AV → Option AV
  | .v (.int k a), .v (.int k' b) => match op with
    | .shl | .shr => aShift op k a b
    | _ => chk (k = k') (aInt op k a b)
  | .v (.string a), .v (.string b) => aStr op a b
  | x, y => match op with
    | .eql => (aEq P t x y).map fun b => .v (.bool b)
    | .neq => (aEq P t x y).map fun b => .v (.bool (!b))
    | _ => none

def aUn (op : UnOp) : AV → Option AV
  | .v (.int k n) => match op with
    | .neg => some (.v (.int k (k.wrap (0 - n))))
    | _ => none
  | .v (.bool b) => match op with
    | .not => some (.v (.bool (!b)))
    | _ => none
  | _ => none

end Go.Abs

/-
  The quiet operations that read memory, and all of them under one name.
-/
namespace Go.Abs

/-- The row that a pointer points into, and where. -/
def rowAt (h : AH) : AV → Option (List AV × Nat)
  | .cp row col => some (row, col)
  | .ptr id gen r col => match h[id]? with
    | some (some (.cells _ _ rows g)) => chk (g = gen) (match rows[r]? with | some row => some (row, col) | none => none)
    | _ => none
  | _ => none

def takeOf (agg : Bool) (row : List AV) (col n : Nat) : Option AV :=
  if agg then chk (col + n ≤ row.length) (some (.agg ((row.drop col).take n))) else row[col]?

def aLoad (P : Program) (h : AH) (t : TypeId) (x : AV) : Option AV :=
  match siz P t, und P t, rowAt h x with
  | some n, d, some (row, col) => match d with
    | .invalid => none
    | .struct _ | .array _ _ => takeOf true row col n
    | _ => takeOf false row col n
  | _, _, _ => none

def aNil : AV → Option AV
  | .ptr i g r c => some (.ptr i g r c)
  | .cp r c => some (.cp r c)
  | .fn (.func f) a b => some (.fn (.func f) a b)
  | .ifc t x => some (.ifc t x)
  | _ => none

def aFA (P : Program) (s : TypeId) (f : Nat) (x : AV) : Option AV :=
  match fld P s f with
  | some (off, n, _) => if n = 0 then none else match x with
    | .ptr i g r c => some (.ptr i g r (c + off))
    | .cp r c => some (.cp r (c + off))
    | _ => none
  | none => none

def aField (P : Program) (s : TypeId) (f : Nat) (x : AV) : Option AV :=
  match fld P s f, x with
  | some (off, n, a), .agg cs => takeOf a cs off n
  | _, _ => none

def rowsOf (h : AH) (id gen : Nat) : Option (List (List AV)) :=
  match h[id]? with
  | some (some (.cells _ _ rows g)) => chk (g = gen) (some rows)
  | _ => none

def aIA (P : Program) (h : AH) (t : TypeId) (x i : AV) : Option AV :=
  match und P t, x, i with
  | .slice e, .lst rows _ _, .v (.int _ i) => match siz P e with
    | some n => chk (0 ≤ i ∧ i < rows.length) (match rows[i.toNat]? with
      | some row => chk (row.length = n) (some (.cp row 0))
      | none => none)
    | none => none
  | .slice e, .sl id gen off len _, .v (.int _ i) => match siz P e, h[id]? with
    | some n, some (some (.cells _ n' _ g)) => chk (g = gen ∧ n' = n ∧ 0 ≤ i ∧ i < len) (some (.ptr id gen (off + i.toNat) 0))
    | _, _ => none
  | _, _, _ => none

def aIndex (P : Program) (t : TypeId) (x i : AV) : Option AV :=
  match und P t, x, i with
  | .string, .v (.string s), .v (.int _ i) => chk (0 ≤ i ∧ i < s.size) (some (.v (.int .u8 (s.data.toList.getD i.toNat 0).toNat)))
  | _, _, _ => none

/-- A bound that is named, or is not. -/
def bnd (d : Int) : Option (Option AV) → Option Int
  | none => some d
  | some (some (.v (.int _ i))) => some i
  | _ => none

/-- How far a slice of the abstract heap can be cut, as far as is known. -/
def roomOf (rows : List (List AV)) (off len : Nat) : Option Nat → Nat
  | some c => c
  | none => max len (rows.length - off)

def aSlice (P : Program) (hp : AH) (t : TypeId) (x : AV) (lo hi mx : Option (Option AV)) : Option AV :=
  match und P t, x with
  | .string, .v (.string s) => match mx, bnd 0 lo, bnd s.size hi with
    | none, some l, some h => chk (0 ≤ l ∧ l ≤ h ∧ h ≤ s.size) (some (.v (.string (s.extract l.toNat h.toNat))))
    | _, _, _ => none
  | .slice e, .lst rows full nn => match siz P e, bnd 0 lo, bnd rows.length hi with
    | some n, some l, some h => chk (0 ≤ l ∧ l ≤ h ∧ h ≤ rows.length ∧ (∀ r ∈ rows, r.length = n)) (match mx with
      | none => some (.lst ((rows.drop l.toNat).take (h.toNat - l.toNat)) (full && h == rows.length) nn)
      | some (some (.v (.int _ m))) => chk (hi.isSome = true ∧ m = h) (some (.lst ((rows.drop l.toNat).take (h.toNat - l.toNat)) true nn))
      | _ => none)
    | _, _, _ => none
  | .slice e, .sl id gen off len cap => match siz P e, bnd 0 lo, bnd len hi, hp[id]? with
    | some n, some l, some h, some (some (.cells _ n' rows g)) => chk (n' = n ∧ g = gen ∧ 0 ≤ l ∧ l ≤ h ∧ h ≤ roomOf rows off len cap) (match mx with
      | none => some (.sl id gen (off + l.toNat) (h.toNat - l.toNat) (cap.map (· - l.toNat)))
      | some (some (.v (.int _ m))) => chk (hi.isSome = true ∧ h ≤ m ∧ m ≤ roomOf rows off len cap) (some (.sl id gen (off + l.toNat) (h.toNat - l.toNat) (some (m.toNat - l.toNat))))
      | _ => none)
    | _, _, _, _ => none
  | .slice e, .v (.slice none 0 0) => match siz P e, bnd 0 lo, bnd 0 hi, bnd 0 mx with
    | some _, some l, some h, some m => chk (l = 0 ∧ h = 0 ∧ m = 0 ∧ (mx.isSome = true → hi.isSome = true)) (some (.v (.slice none 0 0)))
    | _, _, _, _ => none
  | _, _ => none

def byteOf? : List AV → Option UInt8
  | [.v (.int .u8 n)] => some (UInt8.ofNat n.toNat)
  | _ => none

def aConv (P : Program) (h : AH) (src dst : TypeId) (x : AV) : Option AV :=
  match und P src, und P dst, x with
  | .invalid, _, _ => none
  | _, .int k, .v (.int _ n) => some (.v (.int k (k.wrap n)))
  | .string, .string, .v (.string s) => some (.v (.string s))
  | .slice e, .string, .lst rows _ _ => match und P e with
    | .int .u8 => (rows.mapM byteOf?).map fun l => .v (.string ⟨l.toArray⟩)
    | _ => none
  | .slice e, .string, .sl id gen off len _ => match und P e, rowsOf h id gen with
    | .int .u8, some rows => chk (off + len ≤ rows.length) ((((rows.drop off).take len).mapM byteOf?).map fun l => .v (.string ⟨l.toArray⟩))
    | _, _ => none
  | .slice e, .string, .v (.slice none 0 0) => match und P e with
    | .int .u8 => some (.v (.string ⟨#[]⟩))
    | _ => none
  | _, _, _ => none

def AV.one : AV → Bool
  | .tup _ => false
  | _ => true
/-- The parts of a whole laid into its zero cells. -/
def setAt (cs : List AV) (off : Nat) : List AV → List AV
  | [] => cs
  | v :: vs => setAt (cs.set off v) (off + 1) vs
def aFill (place : Nat → Option (Nat × Nat)) (cs : List AV) : List (Nat × Option AV) → Option (List AV)
  | [] => some cs
  | (i, some v) :: rest => match place i with
    | some (off, n) => chk (v.one = true ∧ v.cells.length = n ∧ off + n ≤ cs.length) (aFill place (setAt cs off v.cells) rest)
    | none => none
  | _ => none
def placeOf (P : Program) (fields : Array Field) (i : Nat) : Option (Nat × Nat) :=
  match fields[i]? with
  | some f => match siz P f.type with
    | some n => some (f.offset, n)
    | none => none
  | none => none
def aBuild (P : Program) (t : TypeId) (parts : List (Nat × Option AV)) : Option AV :=
  match und P t, zer P t with
  | .struct fields, some (.agg z) => chk (fields.toList.all (fun f => (siz P f.type).isSome) = true) ((aFill (placeOf P fields) z parts).map .agg)
  | _, _ => none

def aMkI (P : Program) (t : TypeId) (x : AV) : Option AV :=
  match und P t with
  | .invalid | .interface _ => none
  | _ => some (.ifc t x)

def aTA (P : Program) (t : TypeId) (ok : Bool) : AV → Option AV
  | .ifc u v => match und P t with
    | .invalid | .interface _ => none
    | _ => if u = t then some (if ok then .tup [v, .v (.bool true)] else v) else if ok then (zer P t).map fun z => .tup [z, .v (.bool false)] else none
  | .v .nilIface => match und P t with
    | .invalid | .interface _ => none
    | _ => if ok then (zer P t).map fun z => .tup [z, .v (.bool false)] else none
  | _ => none

def aLen (P : Program) (h : AH) (t : TypeId) (x : AV) : Option AV :=
  match und P t, x with
  | .string, .v (.string s) => some (.v (.int .i64 s.size))
  | .slice _, .lst rows _ _ => some (.v (.int .i64 rows.length))
  | .slice _, .sl _ _ _ len _ => some (.v (.int .i64 len))
  | .slice _, .v (.slice none 0 0) => some (.v (.int .i64 0))
  | .map _ _, .v (.map none) => some (.v (.int .i64 0))
  | .map _ _, .mp id => match h[id]? with
    | some (some (.map es _)) => some (.v (.int .i64 es.length))
    | _ => none
  | _, _ => none

def aMinMax (mx : Bool) : List (Option AV) → Option AV
  | [some (.v (.int k a))] => some (.v (.int k a))
  | [some (.v (.int k a)), some (.v (.int _ b))] => some (.v (.int k (if mx then (if b > a then b else a) else (if b < a then b else a))))
  | [some (.v (.int k a)), some (.v (.int _ b)), some (.v (.int _ c))] =>
    let m := if mx then (if b > a then b else a) else (if b < a then b else a)
    some (.v (.int k (if mx then (if c > m then c else m) else (if c < m then c else m))))
  | _ => none

/-- Keys of one kind that are alike. -/
def aSame (d : TypeDesc) : AV → AV → Option Bool
  | .v (.int k a), .v (.int k' b) => match d with
    | .int _ => if k = k' then some (a == b) else none
    | _ => none
  | .v (.string a), .v (.string b) => match d with
    | .string => some (a == b)
    | _ => none
  | _, _ => none
/-- Where a key lies in a map, and what with it; none: it is not known. -/
def aFind (d : TypeDesc) (k : AV) : List AE → Nat → Option (Option (Nat × AV))
  | [], _ => some none
  | e :: es, i => match aSame d k e.key with
    | some true => some (some (i, e.val))
    | some false => aFind d k es (i + 1)
    | none => none
def entsOf (h : AH) : AV → Option (List AE)
  | .v (.map none) => some []
  | .mp id => match h[id]? with
    | some (some (.map es _)) => some es
    | _ => none
  | _ => none
def keyT : TypeDesc → Bool
  | .int _ => true
  | .string => true
  | _ => false
def aLookup (P : Program) (h : AH) (t : TypeId) (ok : Bool) (x ix : AV) : Option AV :=
  match und P t with
  | .map kt et => chk (keyT (und P kt) = true) (match entsOf h x with
    | some es => match aFind (und P kt) ix es 0 with
      | some (some (_, v)) => some (if ok then .tup [v, .v (.bool true)] else v)
      | some none => (zer P et).map fun z => if ok then .tup [z, .v (.bool false)] else z
      | none => none
    | none => none)
  | _ => none

/-- A quiet operation: what it comes to. -/
def aq (P : Program) (ev : Operand → Option AV) (h : AH) : Op → Option AV
  | .move x => ev x
  | .assign x => ev x
  | .pick c a b => match ev c with
    | some (.v (.bool t)) => if t then ev a else ev b
    | _ => none
  | .build t parts => aBuild P t (parts.toList.map fun p => (p.1, ev p.2))
  | .load t a => match ev a with
    | some x => aLoad P h t x
    | none => none
  | .nilCheck x => match ev x with
    | some x => aNil x
    | none => none
  | .binOp op t x y _ => match ev x, ev y with
    | some a, some b => aBin P op t a b
    | _, _ => none
  | .unOp op _ x => match ev x with
    | some x => aUn op x
    | none => none
  | .convert s d x => match ev x with
    | some x => aConv P h s d x
    | none => none
  | .makeInterface t x => match ev x with
    | some x => aMkI P t x
    | none => none
  | .makeFunc f first cap => match first.toList.mapM ev, cap.toList.mapM ev with
    | some a, some b => some (.fn f a b)
    | _, _ => none
  | .slice t x lo hi mx => match ev x with
    | some x => aSlice P h t x (lo.map ev) (hi.map ev) (mx.map ev)
    | none => none
  | .fieldAddr s x f => match ev x with
    | some x => aFA P s f x
    | none => none
  | .field s x f => match ev x with
    | some x => aField P s f x
    | none => none
  | .indexAddr t x i => match ev x, ev i with
    | some x, some i => aIA P h t x i
    | _, _ => none
  | .index t x i => match ev x, ev i with
    | some x, some i => aIndex P t x i
    | _, _ => none
  | .lookup t x i ok => match ev x, ev i with
    | some x, some i => aLookup P h t ok x i
    | _, _ => none
  | .typeAssert x _ t ok => match ev x with
    | some x => aTA P t ok x
    | none => none
  | .extract x i => match ev x with
    | some (.tup vs) => vs[i]?
    | _ => none
  | .call c => match c.callee with
    | .builtin .len => match c.argTypes.toList, c.args.toList.map ev with
      | t :: _, some x :: _ => aLen P h t x
      | _, _ => none
    | .builtin .max => aMinMax true (c.args.toList.map ev)
    | .builtin .min => aMinMax false (c.args.toList.map ev)
    | _ => none
  | _ => none
end Go.Abs

/-
  That the quiet operations come to what is said: the model's own run of each.
-/
namespace Go.Abs

theorem chk_some {α : Type} {c : Prop} [Decidable c] {x : Option α} {v : α} (h : chk c x = some v) : c ∧ x = some v := by
  unfold chk at h
  split at h
  · rename_i hc; exact ⟨hc, h⟩
  · cases h

theorem addr_add (b o j : Nat) : (⟨b, o, none⟩ : Addr).add j = ⟨b, o + j, none⟩ := by
  unfold Addr.add
  split
  · rename_i h; subst h; rfl
  · rfl

def cv (w : World) (b o : Nat) : Value := (w.cell? ⟨b, o, none⟩).getD undef

section
variable {P : Program} {G : Nat → Option AV} {ρ : Ren} {h : AH} {w : World}

theorem VR.v_inv {N : Nat} {Wr : Nat → Prop} {x y : Value} (hv : VR ρ N Wr w (.v x) y) : y = x ∧ x.oneCell' = true := by cases hv; exact ⟨rfl, ‹_›⟩

theorem ofV_sound {N : Nat} {Wr : Nat → Prop} {x : Value} {v : AV} (hq : ofV x = some v) : VR ρ N Wr w v x := by
  cases x <;> simp only [ofV] at hq <;> first
    | (obtain rfl := Option.some.inj hq; exact .v rfl)
    | skip
  · split at hq
    · rename_i cs hc
      obtain rfl := Option.some.inj hq
      refine .agg (by simp) ?_ ?_
      · intro i x hx
        have hm : x ∈ cs.toList := List.mem_of_getElem? (i := i) (by simpa using hx)
        simpa using (List.all_eq_true.mp hc) x hm
      · intro i c x hc' hx
        have hx' : cs.toList[i]? = some x := by simpa using hx
        rw [List.getElem?_map, hx'] at hc'
        simp at hc'
        subst hc'
        refine .v ?_
        have hm : x ∈ cs.toList := List.mem_of_getElem? (i := i) hx'
        simpa using (List.all_eq_true.mp hc) x hm
    · cases hq
  · split at hq
    · rename_i vs hs
      obtain rfl := Option.some.inj hq
      refine .tup (by simp [hs]) ?_
      intro i c x hc; simp at hc
    · cases hq

theorem rowAt_sound (hr : HR G ρ h w) {x : AV} {y : Value} (hx : VRh ρ h w x y) {row : List AV} {col : Nat} (hq : rowAt h x = some (row, col)) :
    ∃ blk base, y = .pointer (some ⟨blk, base + col, none⟩) ∧
      ∀ c v, row[c]? = some v → w.cell? ⟨blk, base + c, none⟩ = some (cv w blk (base + c)) ∧ (cv w blk (base + c)).oneCell' = true ∧ VRh ρ h w v (cv w blk (base + c)) := by
  cases hx with
  | @cp row' blk off col' xs h1 h2 h3 h4 h5 =>
    simp only [rowAt, Option.some.injEq, Prod.mk.injEq] at hq
    obtain ⟨rfl, rfl⟩ := hq
    refine ⟨blk, off, rfl, ?_⟩
    intro c v hc
    have e := h3 c v hc
    have e' : cv w blk (off + c) = xs c := by unfold cv; rw [e]; rfl
    rw [e']
    exact ⟨e, h4 c v hc, h5 c v hc⟩
  | @ptr id gen r col' loc h1 h2 h3 =>
    cases ho : h[id]? with
    | none => simp [rowAt, ho] at hq
    | some oo =>
      cases oo with
      | none => simp [rowAt, ho] at hq
      | some o =>
        cases o with
        | map es cl => simp [rowAt, ho] at hq
        | iter m si se la => simp [rowAt, ho] at hq
        | cells elem n rows g =>
          simp only [rowAt, ho] at hq
          obtain ⟨hgg, hq'⟩ := chk_some hq
          subst hgg
          obtain ⟨loc', hl, _, hor⟩ := hr.obj _ _ ho
          simp only [AO.gen] at hl
          rw [h2] at hl
          obtain rfl := Option.some.inj hl
          obtain ⟨hn, hlen, hrow, hblk⟩ := hor
          obtain ⟨c0, fr, hheap, hsize, _, hcells⟩ := hblk h3
          cases hrow' : rows[r]? with
          | none => rw [hrow'] at hq'; cases hq'
          | some row' =>
            rw [hrow'] at hq'
            simp only [Option.some.injEq, Prod.mk.injEq] at hq'
            obtain ⟨rfl, rfl⟩ := hq'
            refine ⟨loc.blk, r * loc.n, by rfl, ?_⟩
            intro c v hc
            obtain ⟨x, hx1, hx2, hx3⟩ := hcells r row' c v hrow' hc
            have e : w.cell? ⟨loc.blk, r * loc.n + c, none⟩ = some x := by
              simp only [World.cell?, hheap, hn]
              simpa using hx1
            have e' : cv w loc.blk (r * loc.n + c) = x := by unfold cv; rw [e]; rfl
            rw [e']
            exact ⟨e, hx2, hx3⟩
  | _ => simp [rowAt] at hq

theorem siz_some {t : TypeId} {n : Nat} (hs : siz P t = some n) (w : World) : (sizeOf t).run P w = .ok n w := by
  unfold siz at hs
  cases hi : P.info? t with
  | none => rw [hi] at hs; cases hs
  | some i =>
    rw [hi] at hs
    simp at hs
    simp [sizeOf, typeInfo, hi, hs]

theorem takeOf_sound {b : Bool} {row : List AV} {col n : Nat} {v : AV} (hq : takeOf b row col n = some v) {blk base : Nat}
    (hc : ∀ c v, row[c]? = some v → w.cell? ⟨blk, base + c, none⟩ = some (cv w blk (base + c)) ∧ (cv w blk (base + c)).oneCell' = true ∧ VRh ρ h w v (cv w blk (base + c))) :
    ∃ x, (if b then (do pure (.agg (← loadCells ⟨blk, base + col, none⟩ n)) : Sem Value) else load ⟨blk, base + col, none⟩).run P w = .ok x w ∧ VRh ρ h w v x ∧ x.cells.size = (if b then n else 1) := by
  cases b with
  | true =>
    simp only [takeOf, if_true] at hq ⊢
    obtain ⟨hle, hq⟩ := chk_some hq
    obtain rfl := Option.some.inj hq
    have hl : (loadCells ⟨blk, base + col, none⟩ n).run P w = .ok ((List.range n).map fun j => cv w blk (base + col + j)).toArray w := by
      have := run_loadCells_list (P := P) w ⟨blk, base + col, none⟩ ((List.range n).map fun j => cv w blk (base + col + j)) (by
        intro j v hj
        simp only [List.getElem?_map, Option.map_eq_some_iff] at hj
        obtain ⟨k, hk, rfl⟩ := hj
        have hk' : k = j ∧ j < n := by
          by_cases hj : j < n
          · rw [List.getElem?_range hj] at hk
            exact ⟨(Option.some.inj hk).symm, hj⟩
          · rw [List.getElem?_eq_none (by simpa using hj)] at hk
            cases hk
        obtain ⟨rfl, hlt⟩ := hk'
        rw [addr_add]
        have hg : row[col + k]? = some row[col + k] := List.getElem?_eq_getElem (by omega)
        have := (hc _ _ hg).1
        rwa [← Nat.add_assoc] at this)
      simpa using this
    refine ⟨_, by simp [hl]; rfl, ?_, by simp [Value.cells]⟩
    refine .agg (by simp; omega) ?_ ?_
    · intro i x hx
      have hi : i < n := by
        by_cases hi : i < n
        · exact hi
        · simp [hi] at hx
      simp [hi] at hx
      subst hx
      have hg : row[col + i]? = some row[col + i] := List.getElem?_eq_getElem (by omega)
      have := (hc _ _ hg).2.1
      rwa [← Nat.add_assoc] at this
    · intro i c x hcc hx
      have hi : i < n := by
        by_cases hi : i < n
        · exact hi
        · simp [hi] at hx
      simp [hi] at hx
      subst hx
      have hg : row[col + i]? = some c := by
        rw [List.getElem?_take, if_pos hi, List.getElem?_drop] at hcc
        exact hcc
      have := (hc _ _ hg).2.2
      rwa [← Nat.add_assoc] at this
  | false =>
    simp only [takeOf] at hq ⊢
    have := hc col v (by simpa using hq)
    refine ⟨cv w blk (base + col), ?_, this.2.2, ?_⟩
    · simp [this.1]
    · have h1 := this.2.1
      generalize cv w blk (base + col) = z at h1
      cases z <;> simp [Value.cells, Value.oneCell'] at h1 ⊢
end
end Go.Abs

/-
  That the quiet operations come to what is said, one by one.
-/
namespace Go.Abs
section
variable {P : Program} {G : Nat → Option AV} {ρ : Ren} {h : AH} {w : World}

def isA : TypeDesc → Bool
  | .struct _ | .array _ _ => true
  | _ => false

theorem run_isAgg {t : TypeId} {d : TypeDesc} (hu : P.underlying t = some d) : (isAgg t).run P w = .ok (isA d) w := by
  cases d <;> simp [isAgg, run_underlying hu, isA]

theorem aLoad_some {t : TypeId} {x v : AV} (hq : aLoad P h t x = some v) :
    ∃ n d row col, siz P t = some n ∧ P.underlying t = some d ∧ rowAt h x = some (row, col) ∧ takeOf (isA d) row col n = some v := by
  unfold aLoad at hq
  cases hs : siz P t with
  | none => simp [hs] at hq
  | some n =>
    cases hra : rowAt h x with
    | none => simp [hs, hra] at hq
    | some rc =>
      obtain ⟨row, col⟩ := rc
      simp only [hs, hra] at hq
      generalize hd : und P t = d at hq
      refine ⟨n, d, row, col, rfl, ?_, rfl, ?_⟩
      · exact und_ne hd (by rintro rfl; simp at hq)
      · cases d <;> first | exact hq | simp at hq

theorem run_loadVar {t : TypeId} {d : TypeDesc} {n : Nat} (hu : P.underlying t = some d) (hs : siz P t = some n) (a : Addr) :
    (loadVar t a).run P w = (if isA d then (do pure (.agg (← loadCells a n)) : Sem Value) else load a).run P w := by
  unfold loadVar
  simp only [Sem.run_bind, run_isAgg hu, Result.andThen_ok]
  cases hA : isA d
  · simp
  · simp [siz_some hs]

theorem aLoad_sound (hr : HR G ρ h w) {t : TypeId} {x v : AV} {y : Value} (hx : VRh ρ h w x y) (hq : aLoad P h t x = some v) :
    ∃ z, (Instr.loadAt t y).run P w = .ok z w ∧ VRh ρ h w v z := by
  obtain ⟨n, d, row, col, hs, hu, hra, ht⟩ := aLoad_some hq
  obtain ⟨blk, base, rfl, hc⟩ := rowAt_sound hr hx hra
  obtain ⟨z, hz, hv, _⟩ := takeOf_sound (P := P) ht hc
  refine ⟨z, ?_, hv⟩
  rw [← hz]
  simp only [Instr.loadAt, Instr.sureAddr, Sem.run_bind, Sem.run_pure, Result.andThen_ok]
  exact run_loadVar hu hs _

theorem fld_some {s : TypeId} {f : Nat} {off n : Nat} {b : Bool} (hq : fld P s f = some (off, n, b)) :
    ∃ fields x d, P.underlying s = some (.struct fields) ∧ fields[f]? = some x ∧ x.offset = off ∧ siz P x.type = some n ∧ P.underlying x.type = some d ∧ isA d = b := by
  unfold fld at hq
  split at hq
  · rename_i fields hu
    split at hq
    · rename_i x hx
      generalize hs : siz P x.type = s at hq
      generalize hd : und P x.type = d at hq
      cases s with
      | none => simp at hq
      | some m =>
        refine ⟨fields, x, d, und_ne hu (by simp), hx, ?_, ?_, ?_, ?_⟩
        · cases d <;> simp at hq <;> simp [hq.1]
        · cases d <;> simp at hq <;> simp [hs, hq.2.1]
        · exact und_ne hd (by rintro rfl; simp at hq)
        · cases d <;> simp at hq <;> simp [isA, hq.2.2]
    · cases hq
  · cases hq

theorem aFA_sound {s : TypeId} {f : Nat} {x v : AV} {y : Value} (hx : VRh ρ h w x y) (hq : aFA P s f x = some v) :
    ∃ z, (Instr.fieldAt s y f).run P w = .ok z w ∧ VRh ρ h w v z := by
  unfold aFA at hq
  cases hf : fld P s f with
  | none => simp [hf] at hq
  | some t =>
    obtain ⟨off, n, b⟩ := t
    simp only [hf] at hq
    split at hq
    · cases hq
    · rename_i hn
      obtain ⟨fields, fx, d, hu, hfx, rfl, hs, hu2, _⟩ := fld_some hf
      have hrun : ∀ blk o : Nat, (Instr.fieldAt s (.pointer (some ⟨blk, o, none⟩)) f).run P w = .ok (.pointer (some ⟨blk, o + fx.offset, none⟩)) w := by
        intro blk o
        simp [Instr.fieldAt, run_underlying hu, hfx, Instr.sureAddr, fieldPlace, siz_some hs, hn, addr_add]
      cases hx with
      | @cp row blk o col xs h1 h2 h3 h4 h5 =>
        obtain rfl := Option.some.inj hq
        refine ⟨_, hrun _ _, ?_⟩
        rw [Nat.add_assoc]
        exact .cp xs h1 h2 h3 h4 h5
      | @ptr id gen r col loc h1 h2 h3 =>
        obtain rfl := Option.some.inj hq
        refine ⟨_, hrun _ _, ?_⟩
        rw [Nat.add_assoc]
        exact .ptr h1 h2 h3
      | _ => simp at hq

theorem part_sound {ft : TypeId} {d : TypeDesc} {n off : Nat} {cs : List AV} {vs : Array Value} {v : AV} (hu : P.underlying ft = some d) (hs : siz P ft = some n)
    (hx : VRh ρ h w (.agg cs) (.agg vs)) (hq : takeOf (isA d) cs off n = some v) :
    ∃ z, (part ft vs off).run P w = .ok z w ∧ VRh ρ h w v z := by
  cases hx with
  | agg h1 h2 h3 =>
    unfold part
    simp only [Sem.run_bind, run_isAgg hu, Result.andThen_ok]
    cases hA : isA d with
    | true =>
      rw [hA] at hq
      simp only [takeOf, if_true] at hq
      obtain ⟨hle, hq⟩ := chk_some hq
      obtain rfl := Option.some.inj hq
      refine ⟨.agg (vs.extract off (off + n)), by simp [siz_some hs], .agg ?_ ?_ ?_⟩
      · simp; omega
      · intro i x hi
        rw [Array.getElem?_extract] at hi
        split at hi
        · exact h2 _ _ hi
        · cases hi
      · intro i c x hc hi
        rw [Array.getElem?_extract] at hi
        split at hi
        · rw [List.getElem?_take] at hc
          split at hc
          · rw [List.getElem?_drop] at hc
            exact h3 _ _ _ hc hi
          · cases hc
        · cases hi
    | false =>
      rw [hA] at hq
      simp only [takeOf, Bool.false_eq_true, if_false] at hq
      have hlt : off < vs.size := by rw [← h1]; exact (List.getElem?_eq_some_iff.mp hq).1
      have hg : vs[off]? = some vs[off] := Array.getElem?_eq_getElem hlt
      exact ⟨vs[off], by simp [hg], h3 _ _ _ hq hg⟩

theorem aField_sound {s : TypeId} {f : Nat} {x v : AV} {y : Value} (hx : VRh ρ h w x y) (hq : aField P s f x = some v) :
    ∃ z, (Instr.field s y f).run P w = .ok z w ∧ VRh ρ h w v z := by
  unfold aField at hq
  cases hf : fld P s f with
  | none => simp [hf] at hq
  | some t =>
    obtain ⟨off, n, b⟩ := t
    obtain ⟨fields, fx, d, hu, hfx, rfl, hs, hu2, hb⟩ := fld_some hf
    cases x with
    | agg cs =>
      cases hx with
      | @agg _ vs h1 h2 h3 =>
        simp only [hf] at hq
        rw [← hb] at hq
        obtain ⟨z, hz, hv⟩ := part_sound hu2 hs (.agg h1 h2 h3) hq
        refine ⟨z, ?_, hv⟩
        simp [Instr.field, run_underlying hu, hfx, asAgg, hz]
    | _ => simp [hf] at hq

theorem aIndex_sound {t : TypeId} {x i v : AV} {y j : Value} (hx : VRh ρ h w x y) (hi : VRh ρ h w i j) (hq : aIndex P t x i = some v) :
    ∃ z, (Instr.index t y j).run P w = .ok z w ∧ VRh ρ h w v z := by
  unfold aIndex at hq
  split at hq
  · rename_i s k n hu
    obtain ⟨⟨h0, h1⟩, hq⟩ := chk_some hq
    obtain rfl := Option.some.inj hq
    obtain ⟨rfl, _⟩ := hx.v_inv
    obtain ⟨rfl, _⟩ := hi.v_inv
    have hu' := und_ne hu (by simp)
    have hlt : n.toNat < s.size := by omega
    have hs : s[n.toNat]? = some s[n.toNat] := getElem?_pos s n.toNat hlt
    refine ⟨.int .u8 (s[n.toNat]).toNat, ?_, ?_⟩
    · simp [Instr.index, asIntOf, run_underlying hu', h0, hs]
    · have e : s.data.toList.getD n.toNat 0 = s[n.toNat] := by
        have hd : n.toNat < s.data.toList.length := by simpa using hlt
        rw [List.getD_eq_getElem?_getD, List.getElem?_eq_getElem hd]
        rfl
      rw [e]
      exact .v rfl
  · cases hq

theorem aIA_sound (hr : HR G ρ h w) {t : TypeId} {x i v : AV} {y j : Value} (hx : VRh ρ h w x y) (hi : VRh ρ h w i j) (hq : aIA P h t x i = some v) :
    ∃ z, (Instr.indexAt t y j).run P w = .ok z w ∧ VRh ρ h w v z := by
  unfold aIA at hq
  split at hq
  · rename_i e rows f nn k n hu
    cases hs : siz P e with
    | none => simp [hs] at hq
    | some m =>
      simp only [hs] at hq
      obtain ⟨⟨h0, h1⟩, hq⟩ := chk_some hq
      obtain ⟨rfl, _⟩ := hi.v_inv
      have hu' := und_ne hu (by simp)
      have hlt : n.toNat < rows.length := by omega
      cases hrow : rows[n.toNat]? with
      | none => rw [hrow] at hq; cases hq
      | some row =>
        rw [hrow] at hq
        obtain ⟨hm, hq⟩ := chk_some hq
        obtain rfl := Option.some.inj hq
        cases hx with
        | nil => simp at hlt
        | @lst _ blk off n' cap _ _ xs g1 g2 g3 g4 g5 g6 g7 g8 =>
          have hn' : n' = m := by rw [← g5 _ _ hrow, hm]
          subst hn'
          refine ⟨.pointer (some ⟨blk, (off + n.toNat * n') + 0, none⟩), ?_, ?_⟩
          · simp [Instr.indexAt, asIntOf, run_underlying hu', h0, siz_some hs, addr_add, h1]
          · refine .cp (fun c => xs (n.toNat * n' + c)) g3 g4 ?_ ?_ ?_
            · intro c v hc
              have := g6 _ _ _ _ hrow hc
              rwa [← Nat.add_assoc] at this
            · intro c v hc; exact g7 _ _ _ _ hrow hc
            · intro c v hc; exact g8 _ _ _ _ hrow hc
  · rename_i e id gen off len cap k n hu
    cases hs : siz P e with
    | none => simp [hs] at hq
    | some m =>
      cases ho : h[id]? with
      | none => simp [hs, ho] at hq
      | some oo =>
        cases oo with
        | none => simp [hs, ho] at hq
        | some o =>
          cases o with
          | map es cl => simp [hs, ho] at hq
          | iter m si se la => simp [hs, ho] at hq
          | cells elem n' rows g =>
            simp only [hs, ho] at hq
            obtain ⟨⟨hgg, hnn, h0, h1⟩, hq2⟩ := chk_some hq
            obtain rfl := Option.some.inj hq2
            clear hq
            subst hgg hnn
            obtain ⟨rfl, _⟩ := hi.v_inv
            have hu' := und_ne hu (by simp)
            obtain ⟨loc, hl, _, hor⟩ := hr.obj _ _ ho
            cases hx with
            | @sl _ _ _ _ cap' _ a loc' g1 g2 g3 g4 g5 g6 g7 =>
              simp only [AO.gen] at hl
              rw [g2] at hl
              obtain rfl := Option.some.inj hl
              obtain ⟨hn, hlen, hrow, hblk⟩ := hor
              have ha := g7 (by omega)
              subst ha
              refine ⟨.pointer (some ⟨loc'.blk, (off + n.toNat) * loc'.n + 0, none⟩), ?_, .ptr g1 g2 (by omega)⟩
              simp [Instr.indexAt, asIntOf, run_underlying hu', h0, siz_some hs, addr_add, h1, hn, Nat.add_mul]
  · cases hq
end
end Go.Abs

/-
  That the quiet operations come to what is said: comparisons, arithmetic, cuts, conversions.
-/
namespace Go.Abs
section
variable {P : Program} {G : Nat → Option AV} {ρ : Ren} {h : AH} {w : World}

theorem cellEq_sound {t : TypeId} {a b : AV} {y z : Value} {r : Bool} (d : Nat) (ha : VRh ρ h w a y) (hb : VRh ρ h w b z) (hq : cellEq P t a b = some r) :
    (Op.equalIn (d + 1) t y z).run P w = .ok r w ∧ ∃ dd, P.underlying t = some dd ∧ isA dd = false := by
  unfold cellEq at hq
  split at hq
  · split at hq
    · rename_i hu
      obtain ⟨hk, hq2⟩ := chk_some hq
      subst hk
      obtain rfl := Option.some.inj hq2
      obtain ⟨rfl, _⟩ := ha.v_inv
      obtain ⟨rfl, _⟩ := hb.v_inv
      exact ⟨run_equalIn_int w d t _ _ _ _ (und_ne hu (by simp)), _, und_ne hu (by simp), rfl⟩
    · cases hq
  · split at hq
    · rename_i hu
      obtain rfl := Option.some.inj hq
      obtain ⟨rfl, _⟩ := ha.v_inv
      obtain ⟨rfl, _⟩ := hb.v_inv
      exact ⟨run_equalIn_string w d t _ _ (und_ne hu (by simp)), _, und_ne hu (by simp), rfl⟩
    · cases hq
  · split at hq
    · rename_i hu
      obtain rfl := Option.some.inj hq
      obtain ⟨rfl, _⟩ := ha.v_inv
      obtain ⟨rfl, _⟩ := hb.v_inv
      exact ⟨run_equalIn_bool w d t _ _ (und_ne hu (by simp)), _, und_ne hu (by simp), rfl⟩
    · cases hq
  · cases hq

theorem fieldsEq_sound {xs ys : List AV} {us vs : Array Value} (d : Nat) (hx : VRh ρ h w (.agg xs) (.agg us)) (hy : VRh ρ h w (.agg ys) (.agg vs)) :
    ∀ (fs : List Field) (r : Bool), fieldsEq P xs ys fs = some r → (Op.eqFields (d + 1) us vs fs).run P w = .ok r w := by
  intro fs
  induction fs with
  | nil => intro r hq; simp [fieldsEq] at hq; subst hq; simp [Op.eqFields]
  | cons f fs ih =>
    intro r hq
    simp only [fieldsEq] at hq
    obtain ⟨hn, hq⟩ := chk_some hq
    cases ha : xs[f.offset]? with
    | none => simp [ha] at hq
    | some a =>
      cases hb : ys[f.offset]? with
      | none => simp [ha, hb] at hq
      | some b =>
        simp only [ha, hb] at hq
        cases hc : cellEq P f.type a b with
        | none => simp [hc] at hq
        | some r1 =>
          cases hf : fieldsEq P xs ys fs with
          | none => simp [hc, hf] at hq
          | some r2 =>
            simp only [hc, hf, Option.some.injEq] at hq
            subst hq
            have ht : ∃ dd, P.underlying f.type = some dd ∧ isA dd = false := by
              unfold cellEq at hc
              split at hc <;> first
                | (split at hc <;> first | (rename_i hu; exact ⟨_, und_ne hu (by simp), rfl⟩) | cases hc)
                | cases hc
            obtain ⟨dd, hu, hA⟩ := ht
            have pt : ∀ {cs : List AV} {ws : Array Value} {c : AV}, VRh ρ h w (.agg cs) (.agg ws) → cs[f.offset]? = some c → ∃ z, (part f.type ws f.offset).run P w = .ok z w ∧ VRh ρ h w c z := by
              intro cs ws c hcs hc
              cases hcs with
              | agg g1 g2 g3 =>
                have hlt : f.offset < ws.size := by rw [← g1]; exact (List.getElem?_eq_some_iff.mp hc).1
                have hg : ws[f.offset]? = some ws[f.offset] := Array.getElem?_eq_getElem hlt
                refine ⟨ws[f.offset], ?_, g3 _ _ _ hc hg⟩
                unfold part
                simp [run_isAgg hu, hA, hg]
            obtain ⟨z1, hz1, hv1⟩ := pt hx ha
            obtain ⟨z2, hz2, hv2⟩ := pt hy hb
            have he := (cellEq_sound (P := P) d hv1 hv2 hc).1
            simp only [Op.eqFields, hn, ne_eq, not_false_eq_true, if_true, Sem.run_bind, hz1, hz2, he, Result.andThen_ok, Sem.run_ite]
            cases r1
            · simp
            · simpa using ih r2 hf

theorem aEq_sound {t : TypeId} {a b : AV} {y z : Value} {r : Bool} (op : BinOp) (hop : op = .eql ∨ op = .neq) (ox oy : Operand) (ha : VRh ρ h w a y) (hb : VRh ρ h w b z) (hq : aEq P t a b = some r) :
    (do eqGuard op t ox oy y z; binOp op t y z : Sem Value).run P w = .ok (.bool (if op = .eql then r else !r)) w := by
  have fin : ∀ (hg : (eqGuard op t ox oy y z).run P w = .ok () w) (hb : binOp .eql t y z = (do pure (.bool (← Op.equal t y z)))) (hb' : binOp .neq t y z = (do pure (.bool (!(← Op.equal t y z)))))
      (he : ∀ d, (Op.equalIn (d + 1) t y z).run P w = .ok r w), (do eqGuard op t ox oy y z; binOp op t y z : Sem Value).run P w = .ok (.bool (if op = .eql then r else !r)) w := by
    intro hg hb hb' he
    have he' : (Op.equal t y z).run P w = .ok r w := he 9999
    rcases hop with rfl | rfl
    · simp [hg, hb, he']
    · simp [hg, hb', he']
  unfold aEq at hq
  split at hq
  · split at hq
    · rename_i hu
      obtain rfl := Option.some.inj hq
      obtain ⟨rfl, _⟩ := ha.v_inv
      obtain ⟨rfl, _⟩ := hb.v_inv
      exact fin (by rw [eqGuard_at_bool]; rfl) rfl rfl (fun d => run_equalIn_bool w d t _ _ (und_ne hu (by simp)))
    · cases hq
  · split at hq
    · rename_i xs ys _ fs hu
      split at hq
      · cases hq
      · rename_i hno
        simp only [Bool.or_eq_true, not_or, Bool.not_eq_true] at hno
        have hu' := und_ne hu (by simp)
        cases ha with
        | @agg _ us g1 g2 g3 =>
          cases hb with
          | @agg _ vs k1 k2 k3 =>
            have hno1 := hno.1
            have main : ∀ d, (Op.equalIn (d + 2) t (.agg us) (.agg vs)).run P w = .ok r w := fun d => by
              have hfo : P.fieldsOf t = fs := by unfold Program.fieldsOf; rw [hu']
              rw [run_equalIn_struct w (d + 1) t _ _ (by rw [hfo]; exact hu') hno1, hfo]
              exact fieldsEq_sound (P := P) d (.agg g1 g2 g3) (.agg k1 k2 k3) _ _ hq
            have he' : (Op.equal t (.agg us) (.agg vs)).run P w = .ok r w := main 9998
            have hg := run_eqGuard_agg (P := P) w op t ox oy us vs hno.2
            rcases hop with rfl | rfl
            · simp only [binOp, Sem.run_bind, hg, Result.andThen_ok]
              rw [he']; simp
            · simp only [binOp, Sem.run_bind, hg, Result.andThen_ok]
              rw [he']; simp
    · cases hq
  · split at hq
    · rename_i hu
      obtain rfl := Option.some.inj hq
      obtain ⟨rfl, _⟩ := ha.v_inv
      obtain ⟨rfl, _⟩ := hb.v_inv
      refine fin (by first | rw [eqGuard_at_pointer]; rfl | rw [eqGuard_at_slice]; rfl) rfl rfl (fun d => ?_)
      have hu' := und_ne hu (by simp)
      simp [Op.equalIn, run_underlying hu']
    · cases hq
  · split at hq
    · rename_i hu
      obtain rfl := Option.some.inj hq
      obtain ⟨rfl, _⟩ := hb.v_inv
      cases ha
      refine fin (by first | rw [eqGuard_at_pointer]; rfl | rw [eqGuard_at_slice]; rfl) rfl rfl (fun d => ?_)
      have hu' := und_ne hu (by simp)
      simp [Op.equalIn, run_underlying hu']
    · cases hq
  · split at hq
    · rename_i hu
      obtain rfl := Option.some.inj hq
      obtain ⟨rfl, _⟩ := hb.v_inv
      cases ha
      refine fin (by first | rw [eqGuard_at_pointer]; rfl | rw [eqGuard_at_slice]; rfl) rfl rfl (fun d => ?_)
      have hu' := und_ne hu (by simp)
      simp [Op.equalIn, run_underlying hu']
    · cases hq
  · split at hq
    · rename_i hu
      obtain rfl := Option.some.inj hq
      obtain ⟨rfl, _⟩ := ha.v_inv
      obtain ⟨rfl, _⟩ := hb.v_inv
      refine fin (by first | rw [eqGuard_at_pointer]; rfl | rw [eqGuard_at_slice]; rfl) rfl rfl (fun d => ?_)
      have hu' := und_ne hu (by simp)
      simp [Op.equalIn, run_underlying hu']
    · cases hq
  · split at hq
    · rename_i hu
      obtain ⟨hc, hq⟩ := chk_some hq
      obtain rfl := Option.some.inj hq
      obtain ⟨rfl, _⟩ := hb.v_inv
      have hu' := und_ne hu (by simp)
      cases ha with
      | @nil a cap full nn g1 g2 =>
        have hne : a ≠ none := g2 (by simpa using hc)
        refine fin (by rw [eqGuard_at_slice]; rfl) rfl rfl (fun d => ?_)
        cases a with
        | none => exact absurd rfl hne
        | some a => simp [Op.equalIn, run_underlying hu']
      | lst xs =>
        refine fin (by rw [eqGuard_at_slice]; rfl) rfl rfl (fun d => ?_)
        simp [Op.equalIn, run_underlying hu']
    · cases hq
  · split at hq
    · rename_i hu
      obtain ⟨hc, hq⟩ := chk_some hq
      obtain rfl := Option.some.inj hq
      obtain ⟨rfl, _⟩ := hb.v_inv
      have hu' := und_ne hu (by simp)
      cases ha with
      | sl g1 g2 g3 g4 g5 g6 g7 =>
        obtain rfl := g7 (by omega)
        refine fin (by rw [eqGuard_at_slice]; rfl) rfl rfl (fun d => ?_)
        simp [Op.equalIn, run_underlying hu']
    · cases hq
  · split at hq
    · rename_i hu
      obtain rfl := Option.some.inj hq
      obtain ⟨rfl, _⟩ := ha.v_inv
      obtain ⟨rfl, _⟩ := hb.v_inv
      refine fin (by rcases hop with rfl | rfl <;> rfl) rfl rfl (fun d => ?_)
      have hu' := und_ne hu (by simp)
      simp [Op.equalIn, run_underlying hu']
    · cases hq
  · split at hq
    · rename_i hu
      obtain rfl := Option.some.inj hq
      obtain ⟨rfl, _⟩ := hb.v_inv
      cases ha
      refine fin (by rcases hop with rfl | rfl <;> rfl) rfl rfl (fun d => ?_)
      have hu' := und_ne hu (by simp)
      simp [Op.equalIn, run_underlying hu']
    · cases hq
  · split at hq
    · rename_i hu
      obtain rfl := Option.some.inj hq
      obtain ⟨rfl, _⟩ := ha.v_inv
      obtain ⟨rfl, _⟩ := hb.v_inv
      refine fin (by rcases hop with rfl | rfl <;> rfl) rfl rfl (fun d => ?_)
      have hu' := und_ne hu (by simp)
      simp [Op.equalIn, run_underlying hu']
    · cases hq
  · split at hq
    · rename_i hu
      obtain rfl := Option.some.inj hq
      obtain ⟨rfl, _⟩ := hb.v_inv
      cases ha
      refine fin (by rcases hop with rfl | rfl <;> rfl) rfl rfl (fun d => ?_)
      have hu' := und_ne hu (by simp)
      simp [Op.equalIn, run_underlying hu']
    · cases hq
  · cases hq

theorem aInt_sound {op : BinOp} {k : IntKind} {a b : Int} {v : AV} (t : TypeId) (hq : aInt op k a b = some v) (hsh : op ≠ .shl ∧ op ≠ .shr) :
    ∃ x, (binOp op t (.int k a) (.int k b)).run P w = .ok x w ∧ v = .v x ∧ x.oneCell' = true := by
  cases op <;> simp only [aInt] at hq <;> first
    | (obtain rfl := Option.some.inj hq; refine ⟨_, ?_, rfl, rfl⟩; simp [binOp, Op.intArith, Op.intBits, Op.intCmp])
    | (obtain ⟨h0, hq⟩ := chk_some hq; obtain rfl := Option.some.inj hq; refine ⟨_, ?_, rfl, rfl⟩; simp [binOp, Op.intDiv, h0])
    | cases hq

theorem aStr_sound {op : BinOp} {a b : ByteArray} {v : AV} (t : TypeId) (hq : aStr op a b = some v) :
    ∃ x, (binOp op t (.string a) (.string b)).run P w = .ok x w ∧ v = .v x ∧ x.oneCell' = true := by
  cases op <;> simp only [aStr] at hq <;> first
    | (obtain rfl := Option.some.inj hq; refine ⟨_, ?_, rfl, rfl⟩; simp [binOp, Op.stringOp])
    | (obtain ⟨h0, hq⟩ := chk_some hq; obtain rfl := Option.some.inj hq; refine ⟨_, ?_, rfl, rfl⟩; have hmx : IntKind.i64.max = 9223372036854775807 := by decide
       simp only [binOp, Op.stringOp]; rw [if_neg (by omega)]; rfl)
    | cases hq

theorem aShift_sound {op : BinOp} {k k' : IntKind} {a b : Int} {v : AV} (t : TypeId) (hq : aShift op k a b = some v) :
    ∃ x, (binOp op t (.int k a) (.int k' b)).run P w = .ok x w ∧ v = .v x ∧ x.oneCell' = true := by
  cases op <;> simp only [aShift] at hq <;> first
    | (obtain ⟨h0, hq⟩ := chk_some hq; obtain rfl := Option.some.inj hq; refine ⟨_, ?_, rfl, rfl⟩; simp only [binOp, Op.shift]; rw [if_neg (by omega)]; rfl)
    | cases hq

/-- Whether a slice of the heap is nil may not be known. -/
theorem nil_unknown {op : BinOp} {t e : TypeId} {id gen off len : Nat} {cap : Option Nat} {y z : Value} (ox oy : Operand) (hu : und P t = .slice e) (hop : op = .eql ∨ op = .neq) (ha : VRh ρ h w (.sl id gen off len cap) y) (hb : VRh ρ h w (.v (.slice none 0 0)) z) :
    ∃ b : Bool, (do eqGuard op t ox oy y z; binOp op t y z : Sem Value).run P w = .ok (.bool b) w := by
  obtain ⟨rfl, _⟩ := hb.v_inv
  have hu' := und_ne hu (by simp)
  cases ha with
  | @sl _ _ _ _ cap' _ base loc' g1 g2 g3 g4 g5 g6 g7 =>
    have fin : ∀ (r : Bool) (hg : (eqGuard op t ox oy (.slice base len cap') (.slice none 0 0)).run P w = .ok () w) (hb : binOp .eql t (.slice base len cap') (.slice none 0 0) = (do pure (.bool (← Op.equal t (.slice base len cap') (.slice none 0 0))))) (hb' : binOp .neq t (.slice base len cap') (.slice none 0 0) = (do pure (.bool (!(← Op.equal t (.slice base len cap') (.slice none 0 0))))))
        (he : ∀ d, (Op.equalIn (d + 1) t (.slice base len cap') (.slice none 0 0)).run P w = .ok r w), (do eqGuard op t ox oy (.slice base len cap') (.slice none 0 0); binOp op t (.slice base len cap') (.slice none 0 0) : Sem Value).run P w = .ok (.bool (if op = .eql then r else !r)) w := by
      intro r hg hb hb' he
      have he' : (Op.equal t (.slice base len cap') (.slice none 0 0)).run P w = .ok r w := he 9999
      rcases hop with rfl | rfl
      · simp [hg, hb, he']
      · simp [hg, hb', he']
    cases base with
    | none => exact ⟨_, fin true (by rw [eqGuard_at_slice]; rfl) rfl rfl (fun d => by simp [Op.equalIn, run_underlying hu'])⟩
    | some a => exact ⟨_, fin false (by rw [eqGuard_at_slice]; rfl) rfl rfl (fun d => by simp [Op.equalIn, run_underlying hu'])⟩

theorem aBin_sound {op : BinOp} {t : TypeId} {a b v : AV} {y z : Value} (ox oy : Operand) (ha : VRh ρ h w a y) (hb : VRh ρ h w b z) (hq : aBin P op t a b = some v) :
    ∃ x, (do eqGuard op t ox oy y z; binOp op t y z : Sem Value).run P w = .ok x w ∧ VRh ρ h w v x := by
  unfold aBin at hq
  split at hq
  · rename_i k a' k' b'
    obtain ⟨rfl, _⟩ := ha.v_inv
    obtain ⟨rfl, _⟩ := hb.v_inv
    by_cases hs : op = .shl ∨ op = .shr
    · have hq' : aShift op k a' b' = some v := by rcases hs with rfl | rfl <;> exact hq
      obtain ⟨x, hx, rfl, ho⟩ := aShift_sound (P := P) (w := w) t hq'
      exact ⟨x, by rw [eqGuard_at_int]; simpa using hx, .v ho⟩
    · have hq' : chk (k = k') (aInt op k a' b') = some v := by
        cases op <;> first | exact hq | exact absurd (by simp) hs
      obtain ⟨hk, hq''⟩ := chk_some hq'
      subst hk
      obtain ⟨x, hx, rfl, ho⟩ := aInt_sound (P := P) (w := w) t hq'' ⟨fun e => hs (.inl e), fun e => hs (.inr e)⟩
      exact ⟨x, by rw [eqGuard_at_int]; simpa using hx, .v ho⟩
  · obtain ⟨rfl, _⟩ := ha.v_inv
    obtain ⟨rfl, _⟩ := hb.v_inv
    obtain ⟨x, hx, rfl, ho⟩ := aStr_sound (P := P) (w := w) t hq
    exact ⟨x, by rw [eqGuard_at_string]; simpa using hx, .v ho⟩
  · split at hq
    · cases he : aEq P t a b with
      | none => rw [he] at hq; cases hq
      | some r =>
        rw [he] at hq
        obtain rfl := Option.some.inj hq
        exact ⟨_, aEq_sound .eql (.inl rfl) ox oy ha hb he, .v rfl⟩
    · cases he : aEq P t a b with
      | none => rw [he] at hq; cases hq
      | some r =>
        rw [he] at hq
        obtain rfl := Option.some.inj hq
        exact ⟨_, aEq_sound .neq (.inr rfl) ox oy ha hb he, .v rfl⟩
    · cases hq

theorem aUn_sound {op : UnOp} {a v : AV} {y : Value} (ha : VRh ρ h w a y) (hq : aUn op a = some v) :
    ∃ x, (Op.unary op y).run P w = .ok x w ∧ VRh ρ h w v x := by
  unfold aUn at hq
  split at hq
  · obtain ⟨rfl, _⟩ := ha.v_inv
    split at hq
    · obtain rfl := Option.some.inj hq
      exact ⟨_, by simp [Op.unary, Op.intArith], .v rfl⟩
    · cases hq
  · obtain ⟨rfl, _⟩ := ha.v_inv
    split at hq
    · obtain rfl := Option.some.inj hq
      exact ⟨_, by simp [Op.unary], .v rfl⟩
    · cases hq
  · cases hq
end
end Go.Abs
