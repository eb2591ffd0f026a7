/-
  Points of a ring, in order; on which chain a key lies: plain, no program.
-/
import Derived.Test.YtpoeicdhlhhimaaAbG
import Derived.Sort.Statements
set_option linter.all false
namespace Go.Proofs
open Go Go.Abs

abbrev Pt := Int × Int × Int
def cmpI (x y : Int) : Int := if x < y then -1 else if x > y then 1 else 0
def or3 (a b c : Int) : Int := if a ≠ 0 then a else if b ≠ 0 then b else c
def ptCmp (p q : Pt) : Int := or3 (cmpI p.1 q.1) (cmpI p.2.1 q.2.1) (cmpI p.2.2 q.2.2)
def ptLtP (p q : Pt) : Prop := p.1 < q.1 ∨ (p.1 = q.1 ∧ (p.2.1 < q.2.1 ∨ (p.2.1 = q.2.1 ∧ p.2.2 < q.2.2)))
instance (p q : Pt) : Decidable (ptLtP p q) := by unfold ptLtP; infer_instance
theorem ptCmp_lt (p q : Pt) : ptCmp p q < 0 ↔ ptLtP p q := by
  unfold ptCmp ptLtP or3 cmpI
  by_cases h1 : p.1 < q.1
  · simp [h1]
  · by_cases h2 : p.1 > q.1
    · have : p.1 ≠ q.1 := by omega
      simp [h1, h2, this]
    · have : p.1 = q.1 := by omega
      by_cases h3 : p.2.1 < q.2.1
      · simp [this, h3]
      · by_cases h4 : p.2.1 > q.2.1
        · have h5 : p.2.1 ≠ q.2.1 := by omega
          simp [this, h3, h4, h5]
        · have h5 : p.2.1 = q.2.1 := by omega
          by_cases h6 : p.2.2 < q.2.2
          · simp [this, h5, h6]
          · by_cases h7 : p.2.2 > q.2.2 <;> simp [this, h5, h6, h7]
def ptLe (p q : Pt) : Prop := ¬ ptLtP q p
theorem ptLe_trans {p q r : Pt} (h1 : ptLe p q) (h2 : ptLe q r) : ptLe p r := by unfold ptLe ptLtP at *; omega
theorem ptLe_anti {p q : Pt} (h1 : ptLe p q) (h2 : ptLe q p) : p = q := by
  obtain ⟨a, b, c⟩ := p
  obtain ⟨a', b', c'⟩ := q
  unfold ptLe ptLtP at *
  simp only at h1 h2
  have e1 : a = a' := by omega
  have e2 : b = b' := by omega
  have e3 : c = c' := by omega
  rw [e1, e2, e3]
/-- Two lists in order of the same points are one. -/
theorem sorted_one {l1 l2 : List Pt} (hp : l1.Perm l2) (h1 : l1.Pairwise ptLe) (h2 : l2.Pairwise ptLe) : l1 = l2 := by
  induction l1 generalizing l2 with
  | nil => exact (List.Perm.nil_eq hp)
  | cons a l1 ih =>
    cases l2 with
    | nil => exact absurd hp.length_eq (by simp)
    | cons b l2 =>
      have hab : a = b := by
        have ha : a ∈ b :: l2 := hp.mem_iff.mp (by simp)
        have hb : b ∈ a :: l1 := hp.mem_iff.mpr (by simp)
        rcases List.mem_cons.mp ha with rfl | ha
        · rfl
        · rcases List.mem_cons.mp hb with rfl | hb
          · rfl
          · exact ptLe_anti ((List.pairwise_cons.mp h1).1 b hb) ((List.pairwise_cons.mp h2).1 a ha)
      subst hab
      rw [ih (List.perm_cons a |>.mp hp) (List.pairwise_cons.mp h1).2 (List.pairwise_cons.mp h2).2]

/-- Put in, in order. -/
def insPt (p : Pt) : List Pt → List Pt
  | [] => [p]
  | q :: l => if ptLtP p q then p :: q :: l else q :: insPt p l
theorem insPt_perm (p : Pt) : ∀ l, (insPt p l).Perm (p :: l)
  | [] => List.Perm.refl _
  | q :: l => by
    unfold insPt
    split
    · exact List.Perm.refl _
    · exact ((insPt_perm p l).cons q).trans (List.Perm.swap p q l)
theorem insPt_sorted (p : Pt) : ∀ l, l.Pairwise ptLe → (insPt p l).Pairwise ptLe
  | [], _ => by simp [insPt]
  | q :: l, h => by
    unfold insPt
    obtain ⟨h1, h2⟩ := List.pairwise_cons.mp h
    split
    · rename_i hlt
      refine List.pairwise_cons.mpr ⟨fun r hr => ?_, h⟩
      have hpq : ptLe p q := by unfold ptLe ptLtP at *; omega
      rcases List.mem_cons.mp hr with rfl | hr
      · exact hpq
      · exact ptLe_trans hpq (h1 r hr)
    · rename_i hlt
      refine List.pairwise_cons.mpr ⟨fun r hr => ?_, insPt_sorted p l h2⟩
      rcases List.mem_cons.mp ((insPt_perm p l).mem_iff.mp hr) with rfl | hr
      · exact hlt
      · exact h1 r hr
def sortPt : List Pt → List Pt
  | [] => []
  | p :: l => insPt p (sortPt l)
theorem sortPt_perm : ∀ l, (sortPt l).Perm l
  | [] => List.Perm.refl _
  | p :: l => (insPt_perm p _).trans ((sortPt_perm l).cons p)
theorem sortPt_sorted : ∀ l, (sortPt l).Pairwise ptLe
  | [] => List.Pairwise.nil
  | p :: l => insPt_sorted p _ (sortPt_sorted l)
theorem sortPt_one {l l' : List Pt} (hp : l'.Perm l) (hs : l'.Pairwise ptLe) : l' = sortPt l :=
  sorted_one (hp.trans (sortPt_perm l).symm) hs (sortPt_sorted l)

/- hashes -/
/- points -/
variable (dig : Int → List UInt8)
/- on which chain a hash lies -/
def lb (r : List Pt) (h : Int) : Nat := r.findIdx fun p => decide (h ≤ p.1)
end Go.Proofs
