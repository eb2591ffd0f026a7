/-
  Fields as bytes: no program in sight.
-/
import Derived.Test.YtekaeegjohanjaaGreatDoorAbH
import Derived.Test.YtekaeegjohanjaaGreatDoorAbG
import Derived.Sort.Statements
import Derived.Sort.Walk0
import Derived.Lib.Bytealg
set_option linter.all false
namespace Go.Proofs
open Go Go.Abs
set_option maxRecDepth 100000
/-- A number's bytes, the lowest one first. -/
def digs : Nat → List UInt8
  | 0 => []
  | n + 1 => UInt8.ofNat ((n + 1) % 256) :: digs ((n + 1) / 256)
/-- A number as one without a sign. -/
def u64 (n : Int) : Nat := (IntKind.u64.wrap n).toNat
/-- A field of a list: a text, or a number. -/
structure Fld where
  text : Bool
  n : Int
  s : List UInt8
abbrev Fld.cells (f : Fld) : List AV := [.v (.bool f.text), .v (.int .i64 f.n), .v (.string (bs f.s))]
def num (n : Int) : List UInt8 := UInt8.ofNat (digs (u64 n)).length :: digs (u64 n)
def Fld.bytes (f : Fld) : List UInt8 := if f.text then 84 :: (num f.s.length ++ f.s) else 78 :: num f.n
def Fld.may (f : Fld) : Prop := if f.text then f.n = 0 else f.s = []
/-- A number as a field. -/
abbrev Fld.num (n : Int) : Fld := ⟨false, n, []⟩
def I64 (n : Int) : Prop := -9223372036854775808 ≤ n ∧ n ≤ 9223372036854775807
/-- A field that may be written. -/
def Fld.ok (f : Fld) : Prop := f.may ∧ I64 f.n ∧ f.s.length ≤ 262144
end Go.Proofs

/-
  Points of a ring, in order; on which chain a key lies: plain, no program.
-/
namespace Go.Proofs
open Go Go.Abs

abbrev Pt := Int × Int × Int
def cmpI (x y : Int) : Int := if x < y then -1 else if x > y then 1 else 0
def or3 (a b c : Int) : Int := if a ≠ 0 then a else if b ≠ 0 then b else c
def ptCmp (p q : Pt) : Int := or3 (cmpI p.1 q.1) (cmpI p.2.1 q.2.1) (cmpI p.2.2 q.2.2)
def ptLtP (p q : Pt) : Prop := p.1 < q.1 ∨ (p.1 = q.1 ∧ (p.2.1 < q.2.1 ∨ (p.2.1 = q.2.1 ∧ p.2.2 < q.2.2)))
instance (p q : Pt) : Decidable (ptLtP p q) := by unfold ptLtP; infer_instance
theorem ptCmp_lt (p q : Pt) : ptCmp p q < 0 ↔ ptLtP p q := by
  unfold ptCmp ptLtP or3 cmpI
  by_cases h1 : p.1 < q.1
  · simp [h1]
  · by_cases h2 : p.1 > q.1
    · have : p.1 ≠ q.1 := by omega
      simp [h1, h2, this]
    · have : p.1 = q.1 := by omega
      by_cases h3 : p.2.1 < q.2.1
      · simp [this, h3]
      · by_cases h4 : p.2.1 > q.2.1
        · have h5 : p.2.1 ≠ q.2.1 := by omega
          simp [this, h3, h4, h5]
        · have h5 : p.2.1 = q.2.1 := by omega
          by_cases h6 : p.2.2 < q.2.2
          · simp [this, h5, h6]
          · by_cases h7 : p.2.2 > q.2.2 <;> simp [this, h5, h6, h7]
def ptLe (p q : Pt) : Prop := ¬ ptLtP q p
theorem ptLe_trans {p q r : Pt} (h1 : ptLe p q) (h2 : ptLe q r) : ptLe p r := by unfold ptLe ptLtP at *; omega
theorem ptLe_anti {p q : Pt} (h1 : ptLe p q) (h2 : ptLe q p) : p = q := by
  obtain ⟨a, b, c⟩ := p
  obtain ⟨a', b', c'⟩ := q
  unfold ptLe ptLtP at *
  simp only at h1 h2
  have e1 : a = a' := by omega
  have e2 : b = b' := by omega
  have e3 : c = c' := by omega
  rw [e1, e2, e3]
theorem ptLe_at {p q : Pt} (h : ptLe p q) : p.1 ≤ q.1 := by unfold ptLe ptLtP at h; omega

/-- Two lists in order of the same points are one. -/
theorem sorted_one {l1 l2 : List Pt} (hp : l1.Perm l2) (h1 : l1.Pairwise ptLe) (h2 : l2.Pairwise ptLe) : l1 = l2 := by
  induction l1 generalizing l2 with
  | nil => exact (List.Perm.nil_eq hp)
  | cons a l1 ih =>
    cases l2 with
    | nil => exact absurd hp.length_eq (by simp)
    | cons b l2 =>
      have hab : a = b := by
        have ha : a ∈ b :: l2 := hp.mem_iff.mp (by simp)
        have hb : b ∈ a :: l1 := hp.mem_iff.mpr (by simp)
        rcases List.mem_cons.mp ha with rfl | ha
        · rfl
        · rcases List.mem_cons.mp hb with rfl | hb
          · rfl
          · exact ptLe_anti ((List.pairwise_cons.mp h1).1 b hb) ((List.pairwise_cons.mp h2).1 a ha)
      subst hab
      rw [ih (List.perm_cons a |>.mp hp) (List.pairwise_cons.mp h1).2 (List.pairwise_cons.mp h2).2]

/-- Put in, in order. -/
def insPt (p : Pt) : List Pt → List Pt
  | [] => [p]
  | q :: l => if ptLtP p q then p :: q :: l else q :: insPt p l
theorem insPt_perm (p : Pt) : ∀ l, (insPt p l).Perm (p :: l)
  | [] => List.Perm.refl _
  | q :: l => by
    unfold insPt
    split
    · exact List.Perm.refl _
    · exact ((insPt_perm p l).cons q).trans (List.Perm.swap p q l)
theorem insPt_sorted (p : Pt) : ∀ l, l.Pairwise ptLe → (insPt p l).Pairwise ptLe
  | [], _ => by simp [insPt]
  | q :: l, h => by
    unfold insPt
    obtain ⟨h1, h2⟩ := List.pairwise_cons.mp h
    split
    · rename_i hlt
      refine List.pairwise_cons.mpr ⟨fun r hr => ?_, h⟩
      have hpq : ptLe p q := by unfold ptLe ptLtP at *; omega
      rcases List.mem_cons.mp hr with rfl | hr
      · exact hpq
      · exact ptLe_trans hpq (h1 r hr)
    · rename_i hlt
      refine List.pairwise_cons.mpr ⟨fun r hr => ?_, insPt_sorted p l h2⟩
      rcases List.mem_cons.mp ((insPt_perm p l).mem_iff.mp hr) with rfl | hr
      · exact hlt
      · exact h1 r hr
def sortPt : List Pt → List Pt
  | [] => []
  | p :: l => insPt p (sortPt l)
theorem sortPt_perm : ∀ l, (sortPt l).Perm l
  | [] => List.Perm.refl _
  | p :: l => (insPt_perm p _).trans ((sortPt_perm l).cons p)
theorem sortPt_sorted : ∀ l, (sortPt l).Pairwise ptLe
  | [] => List.Pairwise.nil
  | p :: l => insPt_sorted p _ (sortPt_sorted l)
theorem sortPt_one {l l' : List Pt} (hp : l'.Perm l) (hs : l'.Pairwise ptLe) : l' = sortPt l :=
  sorted_one (hp.trans (sortPt_perm l).symm) hs (sortPt_sorted l)

/- hashes -/
def xorU (a b : Int) : Int := IntKind.u64.wrap ((BitVec.ofInt 64 a ^^^ BitVec.ofInt 64 b).toNat)
def hashStep (x : Int) (b : UInt8) : Int := IntKind.u64.wrap (xorU x (b.toNat : Int) * 1099511628211)
def hashEnd (x : Int) : Int :=
  xorU (IntKind.u64.wrap (xorU x (x.fdiv 8589934592) * 18397679294719823053)) ((IntKind.u64.wrap (xorU x (x.fdiv 8589934592) * 18397679294719823053)).fdiv 8589934592)
def hashI (s : List UInt8) : Int := hashEnd (s.foldl hashStep 14695981039346656037)

/- points -/
variable (dig : Int → List UInt8)
def labelOf (c i : Nat) : List UInt8 := dig c ++ 46 :: dig i
def ptAt (c i : Nat) : Pt := (hashI (labelOf dig c i), (c : Int), (i : Int))
def ptsOf (c n : Nat) : List Pt := (List.range n).map (ptAt dig c)
def ptsTo (ws : List Int) : Nat → List Pt
  | 0 => []
  | c + 1 => ptsTo ws c ++ ptsOf dig c (ws.getD c 0).toNat
def pts (ws : List Int) : List Pt := ptsTo dig ws ws.length
def ring (ws : List Int) : List Pt := sortPt (pts dig ws)
theorem ptsOf_succ (c n : Nat) : ptsOf dig c (n + 1) = ptsOf dig c n ++ [ptAt dig c n] := by
  simp [ptsOf, List.range_succ]
theorem ptsOf_length (c n : Nat) : (ptsOf dig c n).length = n := by simp [ptsOf]
theorem ptsTo_length {ws : List Int} (hw : ∀ w ∈ ws, w ≤ 128) : ∀ c, c ≤ ws.length → (ptsTo dig ws c).length ≤ 128 * c
  | 0, _ => by simp [ptsTo]
  | c + 1, hc => by
    have := ptsTo_length hw c (by omega)
    have h1 : ws.getD c 0 = ws[c] := by simp [List.getD_eq_getElem?_getD, List.getElem?_eq_getElem (show c < ws.length by omega)]
    have h2 := hw ws[c] (List.getElem_mem _)
    rw [← h1] at h2
    simp only [ptsTo, List.length_append, ptsOf_length]
    omega
theorem mem_ptsTo {ws : List Int} {p : Pt} : ∀ {c : Nat}, p ∈ ptsTo dig ws c ↔ ∃ a i : Nat, a < c ∧ (i : Int) < ws.getD a 0 ∧ p = ptAt dig a i
  | 0 => by simp [ptsTo]
  | c + 1 => by
    simp only [ptsTo, List.mem_append, mem_ptsTo (c := c), ptsOf, List.mem_map, List.mem_range]
    constructor
    · rintro (⟨a, i, h1, h2, h3⟩ | ⟨i, h1, h2⟩)
      · exact ⟨a, i, by omega, h2, h3⟩
      · exact ⟨c, i, by omega, by omega, h2.symm⟩
    · rintro ⟨a, i, h1, h2, rfl⟩
      by_cases h : a = c
      · subst h; exact .inr ⟨i, by omega, rfl⟩
      · exact .inl ⟨a, i, by omega, h2, rfl⟩
/- on which chain a hash lies -/
def lb (r : List Pt) (h : Int) : Nat := r.findIdx fun p => decide (h ≤ p.1)
def ofH (r : List Pt) (h : Int) : Int := (r.getD (lb r h % r.length) (0, 0, 0)).2.1
def ofK (ws : List Int) (key : List UInt8) : Int := ofH (ring dig ws) (hashI key)
end Go.Proofs

/-
  The reference's ring: points put in one by one, behind those that are not greater. Plain.
-/
namespace Go.Proofs
open Go Go.Abs
/-- Behind those that are not greater: where. -/
def posAt (x : Int) (l : List Pt) : Nat := l.findIdx fun q => decide (x < q.1)
theorem insPt_pos (p : Pt) : ∀ (l : List Pt), (∀ q ∈ l, q.1 = p.1 → ¬ ptLtP p q) → l.Pairwise ptLe → insPt p l = l.take (posAt p.1 l) ++ p :: l.drop (posAt p.1 l)
  | [], _, _ => rfl
  | q :: l, h, hs => by
    unfold insPt
    by_cases hlt : p.1 < q.1
    · have : ptLtP p q := .inl hlt
      rw [if_pos this]
      have e : posAt p.1 (q :: l) = 0 := by unfold posAt; rw [List.findIdx_cons]; simp [hlt]
      rw [e]; rfl
    · have hn : ¬ ptLtP p q := by
        by_cases he : q.1 = p.1
        · exact h q (by simp) he
        · unfold ptLtP; omega
      rw [if_neg hn]
      have e : posAt p.1 (q :: l) = posAt p.1 l + 1 := by unfold posAt; rw [List.findIdx_cons]; simp [hlt]
      rw [e, insPt_pos p l (fun r hr => h r (by simp [hr])) (List.pairwise_cons.mp hs).2]
      rfl
theorem sortPt_snoc (l : List Pt) (p : Pt) : sortPt (l ++ [p]) = insPt p (sortPt l) := by
  refine (sortPt_one (l := l ++ [p]) ?_ (insPt_sorted p _ (sortPt_sorted l))).symm
  refine (insPt_perm p _).trans ?_
  refine ((sortPt_perm l).cons p).trans ?_
  exact (List.perm_append_singleton p l).symm
/-- What was put in ahead is of a lower chain, or of a lower number. -/
theorem sortPt_next (dig : Int → List UInt8) (ws : List Int) (c i : Nat) : sortPt (ptsTo dig ws c ++ ptsOf dig c (i + 1)) =
    (sortPt (ptsTo dig ws c ++ ptsOf dig c i)).take (posAt (ptAt dig c i).1 (sortPt (ptsTo dig ws c ++ ptsOf dig c i))) ++ ptAt dig c i :: (sortPt (ptsTo dig ws c ++ ptsOf dig c i)).drop (posAt (ptAt dig c i).1 (sortPt (ptsTo dig ws c ++ ptsOf dig c i))) := by
  rw [ptsOf_succ, ← List.append_assoc, sortPt_snoc]
  refine insPt_pos _ _ ?_ (sortPt_sorted _)
  intro q hq he
  have hq := (sortPt_perm _).mem_iff.mp hq
  rcases List.mem_append.mp hq with hq | hq
  · obtain ⟨a, j, h1, _, rfl⟩ := (mem_ptsTo dig).mp hq
    unfold ptLtP ptAt
    unfold ptAt at he
    simp only at he ⊢
    omega
  · simp only [ptsOf, List.mem_map, List.mem_range] at hq
    obtain ⟨j, hj, rfl⟩ := hq
    unfold ptLtP ptAt
    unfold ptAt at he
    simp only at he ⊢
    omega
end Go.Proofs

/-
  Program free: rows in the order of their keys.
-/
namespace Go.Proofs
open Go
abbrev bl (a b : List UInt8) : Bool := Op.bytesLess a b
structure RowA where
  key : List UInt8
  stamp : Int
  val : List UInt8
def Rise (l : List RowA) : Prop := l.Pairwise fun a b => bl a.key b.key = true
def lbK (l : List RowA) (k : List UInt8) : Nat := l.findIdx fun r => !bl r.key k
def hasK (l : List RowA) (k : List UInt8) : Bool := (l[lbK l k]?).any fun r => decide (r.key = k)
/-- Where the next key lies. -/
def hiK (l : List RowA) (k : List UInt8) : Nat := lbK l k + if hasK l k then 1 else 0
/-- A row is put; a key is taken away. -/
def putK (l : List RowA) (r : RowA) : List RowA := l.take (lbK l r.key) ++ r :: l.drop (hiK l r.key)
theorem Rise.take {l : List RowA} (h : Rise l) (n : Nat) : Rise (l.take n) := List.Pairwise.sublist (List.take_sublist n l) h
theorem Rise.drop {l : List RowA} (h : Rise l) (n : Nat) : Rise (l.drop n) := List.Pairwise.sublist (List.drop_sublist n l) h
/-- May a row be? -/
def RowA.may (r : RowA) : Bool := decide (r.key ≠ []) && (decide ((r.key.length : Int) ≤ 64) && (decide (1 ≤ r.stamp) && (decide (r.stamp ≤ 1099511627776) && decide ((r.val.length : Int) ≤ 4096))))
end Go.Proofs

/-
  Program free: rows with their places, in order; what a merge gives.
-/
namespace Go.Proofs
open Go
abbrev Deco := RowA × Nat
/-- The lesser key, or the same and ahead. -/
def dlt (a b : Deco) : Prop := bl a.1.key b.1.key = true ∨ (a.1.key = b.1.key ∧ a.2 < b.2)
def SortedD (l : List Deco) : Prop := l.Pairwise dlt
theorem SortedD.take {l : List Deco} (h : SortedD l) (n : Nat) : SortedD (l.take n) := List.Pairwise.sublist (List.take_sublist n l) h
theorem SortedD.drop {l : List Deco} (h : SortedD l) (n : Nat) : SortedD (l.drop n) := List.Pairwise.sublist (List.drop_sublist n l) h
theorem SortedD.at {l : List Deco} (h : SortedD l) {i j : Nat} {x y : Deco} (hij : i < j) (hx : l[i]? = some x) (hy : l[j]? = some y) : dlt x y := by
  obtain ⟨a1, a2⟩ := List.getElem?_eq_some_iff.mp hx
  obtain ⟨b1, b2⟩ := List.getElem?_eq_some_iff.mp hy
  have := List.pairwise_iff_getElem.mp h i j a1 b1 hij
  rw [a2, b2] at this
  exact this
end Go.Proofs
namespace Go.Proofs
/-- All places of the one are ahead of all of the other. -/
def Ahead (B C : List Deco) : Prop := ∀ x ∈ B, ∀ y ∈ C, x.2 < y.2
theorem Ahead.perm {B C B' C' : List Deco} (h : Ahead B C) (pb : B'.Perm B) (pc : C'.Perm C) : Ahead B' C' := fun x hx y hy => h x ((List.Perm.mem_iff pb).mp hx) y ((List.Perm.mem_iff pc).mp hy)
/-- Blocks of one length, each in order, and one that is at most as long; each ahead of the next. -/
structure Blk (O : List Deco) (k : Nat) (F : List (List Deco)) (Lt : List Deco) : Prop where
  full : ∀ B ∈ F, B.length = k ∧ SortedD B
  last : Lt.length ≤ k ∧ SortedD Lt
  apart : (F ++ [Lt]).Pairwise Ahead
  perm : (F.flatten ++ Lt).Perm O
theorem full_len {k : Nat} : ∀ {F : List (List Deco)}, (∀ B ∈ F, B.length = k) → F.flatten.length = k * F.length
  | [], _ => by simp
  | B :: F, h => by
    have ih := full_len (F := F) fun C hC => h C (by simp [hC])
    rw [List.flatten_cons, List.length_append, ih, h B (by simp), List.length_cons, Nat.mul_succ]
    omega
/-- While a pass merges: what is merged, and what is not. -/
structure Pass (O : List Deco) (k : Nat) (F1 F2 : List (List Deco)) (Lt : List Deco) : Prop where
  done : ∀ B ∈ F1, B.length = 2 * k ∧ SortedD B
  full : ∀ B ∈ F2, B.length = k ∧ SortedD B
  last : Lt.length ≤ k ∧ SortedD Lt
  apart : (F1 ++ (F2 ++ [Lt])).Pairwise Ahead
  perm : (F1.flatten ++ (F2.flatten ++ Lt)).Perm O
theorem Pass.start {O : List Deco} {k : Nat} {F : List (List Deco)} {Lt : List Deco} (b : Blk O k F Lt) : Pass O k [] F Lt :=
  ⟨by simp, b.full, b.last, by simpa using b.apart, by simpa using b.perm⟩
/-- Two blocks are made one. -/
theorem Pass.step {O : List Deco} {k : Nat} {F1 F2 : List (List Deco)} {B C S Lt : List Deco} (p : Pass O k F1 (B :: C :: F2) Lt) (hS : S.Perm (B ++ C)) (sS : SortedD S) : Pass O k (F1 ++ [S]) F2 Lt := by
  obtain ⟨h1, h2, h3, h4, h5⟩ := p
  have hB := h2 B (by simp)
  have hC := h2 C (by simp)
  refine ⟨?_, fun D hD => h2 D (by simp [hD]), h3, ?_, ?_⟩
  · intro D hD
    rcases List.mem_append.mp hD with hD | hD
    · exact h1 D hD
    · rw [List.mem_singleton] at hD
      subst hD
      have := hS.length_eq
      rw [List.length_append] at this
      exact ⟨by omega, sS⟩
  · rw [List.append_assoc, List.pairwise_append]
    rw [List.pairwise_append] at h4
    obtain ⟨q1, q2, q3⟩ := h4
    simp only [List.cons_append, List.pairwise_cons] at q2
    obtain ⟨r1, r2, r3⟩ := q2
    refine ⟨q1, List.pairwise_cons.mpr ⟨fun D hD x hx y hy => ?_, r3⟩, fun D hD E hE x hx y hy => ?_⟩
    · rcases List.mem_append.mp ((List.Perm.mem_iff hS).mp hx) with hx | hx
      · exact r1 D (List.mem_cons_of_mem _ hD) x hx y hy
      · exact r2 D hD x hx y hy
    · rcases List.mem_cons.mp hE with rfl | hE
      · rcases List.mem_append.mp ((List.Perm.mem_iff hS).mp hy) with hy | hy
        · exact q3 D hD B (by simp) x hx y hy
        · exact q3 D hD C (by simp) x hx y hy
      · exact q3 D hD E (List.mem_cons_of_mem _ (List.mem_cons_of_mem _ hE)) x hx y hy
  · refine List.Perm.trans ?_ h5
    simp only [List.flatten_append, List.flatten_cons, List.flatten_nil, List.append_nil, List.append_assoc]
    refine List.Perm.append_left _ ?_
    have := List.Perm.append_right (F2.flatten ++ Lt) hS
    simpa using this
/-- All are one block. -/
theorem Blk.all {O : List Deco} {k : Nat} {F : List (List Deco)} {Lt : List Deco} (b : Blk O k F Lt) (hk : 0 < k) (hO : O.length ≤ k) : SortedD (F.flatten ++ Lt) := by
  have hl := b.perm.length_eq
  rw [List.length_append, full_len fun B hB => (b.full B hB).1] at hl
  match F with
  | [] => simpa using b.last.2
  | [B] =>
    have h1 := (b.full B (by simp)).1
    simp only [List.length_cons, List.length_nil] at hl
    have : Lt = [] := List.length_eq_zero_iff.mp (by omega)
    subst this
    simpa using (b.full B (by simp)).2
  | B :: C :: F =>
    simp only [List.length_cons, Nat.mul_succ] at hl
    omega
/-- The last is as long as the others. -/
theorem Pass.lift {O : List Deco} {k : Nat} {F1 : List (List Deco)} {B Lt : List Deco} (p : Pass O k F1 [B] Lt) (hl : Lt.length = k) : Pass O k F1 [B, Lt] [] := by
  obtain ⟨h1, h2, h3, h4, h5⟩ := p
  refine ⟨h1, ?_, ⟨by simp, List.Pairwise.nil⟩, ?_, by simpa using h5⟩
  · intro C hC
    rcases List.mem_cons.mp hC with rfl | hC
    · exact h2 _ (by simp)
    · rw [List.mem_singleton] at hC
      subst hC
      exact ⟨hl, h3.2⟩
  · have e : F1 ++ ([B, Lt] ++ [[]]) = (F1 ++ ([B] ++ [Lt])) ++ [[]] := by simp
    rw [e, List.pairwise_append]
    refine ⟨h4, List.pairwise_singleton _ _, fun D _ E hE x _ y hy => ?_⟩
    rw [List.mem_singleton] at hE
    subst hE
    cases hy
end Go.Proofs

/-
  Program free: rows over chains; what a step of a move makes of them.
-/
namespace Go.Proofs
open Go
/-- No key is there twice. -/
def KeysU (l : List RowA) : Prop := l.Pairwise fun a b => a.key ≠ b.key
theorem KeysU.perm {a b : List RowA} (p : a.Perm b) (h : KeysU a) : KeysU b := List.Perm.pairwise p h (fun h e => h e.symm)
/-- All rows, by keys; of like ones the one of the table ahead. -/
def AllOf (ls : List (List RowA)) (T : List RowA) : Prop := ∃ S : List Deco, S.Perm ls.flatten.zipIdx ∧ SortedD S ∧ T = S.map fun x => x.1
theorem AllOf.perm {ls : List (List RowA)} {T : List RowA} (a : AllOf ls T) : T.Perm ls.flatten := by
  obtain ⟨S, p, _, rfl⟩ := a
  have := p.map fun x : Deco => x.1
  rwa [List.zipIdx_map_fst] at this
theorem AllOf.len {ls : List (List RowA)} {T : List RowA} (a : AllOf ls T) : T.length = ls.flatten.length := a.perm.length_eq
theorem AllOf.mem {ls : List (List RowA)} {T : List RowA} (a : AllOf ls T) {r : RowA} : r ∈ T ↔ r ∈ ls.flatten := a.perm.mem_iff
theorem AllOf.rise {ls : List (List RowA)} {T : List RowA} (a : AllOf ls T) (u : KeysU ls.flatten) : Rise T := by
  have uT := KeysU.perm a.perm.symm u
  obtain ⟨S, p, s, rfl⟩ := a
  unfold Rise
  unfold KeysU at uT
  rw [List.pairwise_map] at uT ⊢
  refine List.Pairwise.imp ?_ (List.Pairwise.and s uT)
  rintro x y ⟨h1 | h1, h2⟩
  · exact h1
  · exact absurd h1.1 h2
end Go.Proofs
