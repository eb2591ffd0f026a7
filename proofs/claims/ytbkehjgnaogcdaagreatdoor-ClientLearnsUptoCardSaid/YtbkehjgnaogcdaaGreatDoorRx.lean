/-
  Points of a ring, in order; on which chain a key lies: plain, no program.
-/
import Derived.Test.YtbkehjgnaogcdaaGreatDoorAbG
import Derived.Sort.Statements
import Derived.Test.YtbkehjgnaogcdaaGreatDoorRa
import Derived.Test.YtbkehjgnaogcdaaGreatDoorAbH
set_option linter.all false
namespace Go.Proofs
open Go Go.Abs

abbrev Pt := Int × Int × Int
def cmpI (x y : Int) : Int := if x < y then -1 else if x > y then 1 else 0
def or3 (a b c : Int) : Int := if a ≠ 0 then a else if b ≠ 0 then b else c
def ptCmp (p q : Pt) : Int := or3 (cmpI p.1 q.1) (cmpI p.2.1 q.2.1) (cmpI p.2.2 q.2.2)
def ptLtP (p q : Pt) : Prop := p.1 < q.1 ∨ (p.1 = q.1 ∧ (p.2.1 < q.2.1 ∨ (p.2.1 = q.2.1 ∧ p.2.2 < q.2.2)))
instance (p q : Pt) : Decidable (ptLtP p q) := by unfold ptLtP; infer_instance
theorem ptCmp_lt (p q : Pt) : ptCmp p q < 0 ↔ ptLtP p q := by
  unfold ptCmp ptLtP or3 cmpI
  by_cases h1 : p.1 < q.1
  · simp [h1]
  · by_cases h2 : p.1 > q.1
    · have : p.1 ≠ q.1 := by omega
      simp [h1, h2, this]
    · have : p.1 = q.1 := by omega
      by_cases h3 : p.2.1 < q.2.1
      · simp [this, h3]
      · by_cases h4 : p.2.1 > q.2.1
        · have h5 : p.2.1 ≠ q.2.1 := by omega
          simp [this, h3, h4, h5]
        · have h5 : p.2.1 = q.2.1 := by omega
          by_cases h6 : p.2.2 < q.2.2
          · simp [this, h5, h6]
          · by_cases h7 : p.2.2 > q.2.2 <;> simp [this, h5, h6, h7]
def ptLe (p q : Pt) : Prop := ¬ ptLtP q p
theorem ptLe_total (p q : Pt) : ptLe p q ∨ ptLe q p := by unfold ptLe ptLtP; omega
theorem ptLe_trans {p q r : Pt} (h1 : ptLe p q) (h2 : ptLe q r) : ptLe p r := by unfold ptLe ptLtP at *; omega
theorem ptLe_anti {p q : Pt} (h1 : ptLe p q) (h2 : ptLe q p) : p = q := by
  obtain ⟨a, b, c⟩ := p
  obtain ⟨a', b', c'⟩ := q
  unfold ptLe ptLtP at *
  simp only at h1 h2
  have e1 : a = a' := by omega
  have e2 : b = b' := by omega
  have e3 : c = c' := by omega
  rw [e1, e2, e3]
theorem ptLe_at {p q : Pt} (h : ptLe p q) : p.1 ≤ q.1 := by unfold ptLe ptLtP at h; omega

/-- Two lists in order of the same points are one. -/
theorem sorted_one {l1 l2 : List Pt} (hp : l1.Perm l2) (h1 : l1.Pairwise ptLe) (h2 : l2.Pairwise ptLe) : l1 = l2 := by
  induction l1 generalizing l2 with
  | nil => exact (List.Perm.nil_eq hp)
  | cons a l1 ih =>
    cases l2 with
    | nil => exact absurd hp.length_eq (by simp)
    | cons b l2 =>
      have hab : a = b := by
        have ha : a ∈ b :: l2 := hp.mem_iff.mp (by simp)
        have hb : b ∈ a :: l1 := hp.mem_iff.mpr (by simp)
        rcases List.mem_cons.mp ha with rfl | ha
        · rfl
        · rcases List.mem_cons.mp hb with rfl | hb
          · rfl
          · exact ptLe_anti ((List.pairwise_cons.mp h1).1 b hb) ((List.pairwise_cons.mp h2).1 a ha)
      subst hab
      rw [ih (List.perm_cons a |>.mp hp) (List.pairwise_cons.mp h1).2 (List.pairwise_cons.mp h2).2]

/-- Put in, in order. -/
def insPt (p : Pt) : List Pt → List Pt
  | [] => [p]
  | q :: l => if ptLtP p q then p :: q :: l else q :: insPt p l
theorem insPt_perm (p : Pt) : ∀ l, (insPt p l).Perm (p :: l)
  | [] => List.Perm.refl _
  | q :: l => by
    unfold insPt
    split
    · exact List.Perm.refl _
    · exact ((insPt_perm p l).cons q).trans (List.Perm.swap p q l)
theorem insPt_sorted (p : Pt) : ∀ l, l.Pairwise ptLe → (insPt p l).Pairwise ptLe
  | [], _ => by simp [insPt]
  | q :: l, h => by
    unfold insPt
    obtain ⟨h1, h2⟩ := List.pairwise_cons.mp h
    split
    · rename_i hlt
      refine List.pairwise_cons.mpr ⟨fun r hr => ?_, h⟩
      have hpq : ptLe p q := by unfold ptLe ptLtP at *; omega
      rcases List.mem_cons.mp hr with rfl | hr
      · exact hpq
      · exact ptLe_trans hpq (h1 r hr)
    · rename_i hlt
      refine List.pairwise_cons.mpr ⟨fun r hr => ?_, insPt_sorted p l h2⟩
      rcases List.mem_cons.mp ((insPt_perm p l).mem_iff.mp hr) with rfl | hr
      · exact hlt
      · exact h1 r hr
def sortPt : List Pt → List Pt
  | [] => []
  | p :: l => insPt p (sortPt l)
theorem sortPt_perm : ∀ l, (sortPt l).Perm l
  | [] => List.Perm.refl _
  | p :: l => (insPt_perm p _).trans ((sortPt_perm l).cons p)
theorem sortPt_sorted : ∀ l, (sortPt l).Pairwise ptLe
  | [] => List.Pairwise.nil
  | p :: l => insPt_sorted p _ (sortPt_sorted l)
theorem sortPt_one {l l' : List Pt} (hp : l'.Perm l) (hs : l'.Pairwise ptLe) : l' = sortPt l :=
  sorted_one (hp.trans (sortPt_perm l).symm) hs (sortPt_sorted l)

/- hashes -/
def xorU (a b : Int) : Int := IntKind.u64.wrap ((BitVec.ofInt 64 a ^^^ BitVec.ofInt 64 b).toNat)
def hashStep (x : Int) (b : UInt8) : Int := IntKind.u64.wrap (xorU x (b.toNat : Int) * 1099511628211)
def hashEnd (x : Int) : Int :=
  xorU (IntKind.u64.wrap (xorU x (x.fdiv 8589934592) * 18397679294719823053)) ((IntKind.u64.wrap (xorU x (x.fdiv 8589934592) * 18397679294719823053)).fdiv 8589934592)
def hashI (s : List UInt8) : Int := hashEnd (s.foldl hashStep 14695981039346656037)

/- points -/
variable (dig : Int → List UInt8)
def labelOf (c i : Nat) : List UInt8 := dig c ++ 46 :: dig i
def ptAt (c i : Nat) : Pt := (hashI (labelOf dig c i), (c : Int), (i : Int))
def ptsOf (c n : Nat) : List Pt := (List.range n).map (ptAt dig c)
def ptsTo (ws : List Int) : Nat → List Pt
  | 0 => []
  | c + 1 => ptsTo ws c ++ ptsOf dig c (ws.getD c 0).toNat
def pts (ws : List Int) : List Pt := ptsTo dig ws ws.length
def ring (ws : List Int) : List Pt := sortPt (pts dig ws)
theorem ptsOf_succ (c n : Nat) : ptsOf dig c (n + 1) = ptsOf dig c n ++ [ptAt dig c n] := by
  simp [ptsOf, List.range_succ]
theorem ptsOf_length (c n : Nat) : (ptsOf dig c n).length = n := by simp [ptsOf]
theorem ptsTo_length {ws : List Int} (hw : ∀ w ∈ ws, w ≤ 128) : ∀ c, c ≤ ws.length → (ptsTo dig ws c).length ≤ 128 * c
  | 0, _ => by simp [ptsTo]
  | c + 1, hc => by
    have := ptsTo_length hw c (by omega)
    have h1 : ws.getD c 0 = ws[c] := by simp [List.getD_eq_getElem?_getD, List.getElem?_eq_getElem (show c < ws.length by omega)]
    have h2 := hw ws[c] (List.getElem_mem _)
    rw [← h1] at h2
    simp only [ptsTo, List.length_append, ptsOf_length]
    omega
theorem mem_ptsTo {ws : List Int} {p : Pt} : ∀ {c : Nat}, p ∈ ptsTo dig ws c ↔ ∃ a i : Nat, a < c ∧ (i : Int) < ws.getD a 0 ∧ p = ptAt dig a i
  | 0 => by simp [ptsTo]
  | c + 1 => by
    simp only [ptsTo, List.mem_append, mem_ptsTo (c := c), ptsOf, List.mem_map, List.mem_range]
    constructor
    · rintro (⟨a, i, h1, h2, h3⟩ | ⟨i, h1, h2⟩)
      · exact ⟨a, i, by omega, h2, h3⟩
      · exact ⟨c, i, by omega, by omega, h2.symm⟩
    · rintro ⟨a, i, h1, h2, rfl⟩
      by_cases h : a = c
      · subst h; exact .inr ⟨i, by omega, rfl⟩
      · exact .inl ⟨a, i, by omega, h2, rfl⟩
theorem mem_ring {ws : List Int} {p : Pt} : p ∈ ring dig ws ↔ ∃ a i : Nat, a < ws.length ∧ (i : Int) < ws.getD a 0 ∧ p = ptAt dig a i := by
  unfold ring
  rw [(sortPt_perm _).mem_iff]
  exact mem_ptsTo dig

/- on which chain a hash lies -/
def lb (r : List Pt) (h : Int) : Nat := r.findIdx fun p => decide (h ≤ p.1)
def ofH (r : List Pt) (h : Int) : Int := (r.getD (lb r h % r.length) (0, 0, 0)).2.1
def ofK (ws : List Int) (key : List UInt8) : Int := ofH (ring dig ws) (hashI key)
/-- The point that tells: the least that is not below, or the least of all. -/
def Tells (r : List Pt) (h : Int) (p : Pt) : Prop :=
  p ∈ r ∧ ((h ≤ p.1 ∧ ∀ q ∈ r, h ≤ q.1 → ptLe p q) ∨ ((∀ q ∈ r, q.1 < h) ∧ ∀ q ∈ r, ptLe p q))
theorem tells_at {r : List Pt} (hs : r.Pairwise ptLe) (h0 : r ≠ []) (h : Int) : Tells r h (r.getD (lb r h % r.length) (0, 0, 0)) := by
  have hpos : 0 < r.length := List.length_pos_iff.mpr h0
  have hle : ∀ (i j : Nat) (hi : i < r.length) (hj : j < r.length), i ≤ j → ptLe r[i] r[j] := by
    intro i j hi hj hij
    by_cases he : i = j
    · subst he; unfold ptLe ptLtP; omega
    · exact List.pairwise_iff_getElem.mp hs i j hi hj (by omega)
  by_cases hl : lb r h < r.length
  · have hm : lb r h % r.length = lb r h := Nat.mod_eq_of_lt hl
    have hg : r.getD (lb r h) (0, 0, 0) = r[lb r h] := by simp [List.getD_eq_getElem?_getD, List.getElem?_eq_getElem hl]
    rw [hm, hg]
    have h1 : h ≤ (r[lb r h]).1 := by
      have := List.findIdx_getElem (p := fun p : Pt => decide (h ≤ p.1)) (xs := r) (w := hl)
      exact of_decide_eq_true this
    refine ⟨List.getElem_mem _, .inl ⟨h1, fun q hq hhq => ?_⟩⟩
    obtain ⟨j, hj, rfl⟩ := List.mem_iff_getElem.mp hq
    by_cases hlt : j < lb r h
    · have := List.not_of_lt_findIdx (p := fun p : Pt => decide (h ≤ p.1)) (xs := r) hlt
      simp at this
      omega
    · exact hle _ _ hl hj (by omega)
  · have hll : lb r h = r.length := by
      have := List.findIdx_le_length (p := fun p : Pt => decide (h ≤ p.1)) (xs := r)
      unfold lb at *; omega
    have hm : lb r h % r.length = 0 := by rw [hll, Nat.mod_self]
    have hg : r.getD 0 (0, 0, 0) = r[0] := by simp [List.getD_eq_getElem?_getD, List.getElem?_eq_getElem hpos]
    rw [hm, hg]
    refine ⟨List.getElem_mem _, .inr ⟨fun q hq => ?_, fun q hq => ?_⟩⟩
    · obtain ⟨j, hj, rfl⟩ := List.mem_iff_getElem.mp hq
      have := List.not_of_lt_findIdx (p := fun p : Pt => decide (h ≤ p.1)) (xs := r) (i := j) (by unfold lb at hll; omega)
      simp at this
      omega
    · obtain ⟨j, hj, rfl⟩ := List.mem_iff_getElem.mp hq
      exact hle _ _ hpos hj (by omega)
theorem tells_one {r : List Pt} {h : Int} {p q : Pt} (hp : Tells r h p) (hq : Tells r h q) : p = q := by
  obtain ⟨p1, p2⟩ := hp
  obtain ⟨q1, q2⟩ := hq
  rcases p2 with ⟨a1, a2⟩ | ⟨a1, a2⟩ <;> rcases q2 with ⟨b1, b2⟩ | ⟨b1, b2⟩
  · exact ptLe_anti (a2 q q1 b1) (b2 p p1 a1)
  · have := b1 p p1; omega
  · have := a1 q q1; omega
  · exact ptLe_anti (a2 q q1) (b2 p p1)
/-- Where points are added, what tells is one of them, or what told. -/
theorem tells_more {r r' : List Pt} {h : Int} {p p' : Pt} (hsub : ∀ q ∈ r, q ∈ r') (hp : Tells r h p) (hp' : Tells r' h p') : p' ∉ r ∨ p' = p := by
  by_cases hm : p' ∈ r
  · refine .inr (tells_one (r := r) ⟨hm, ?_⟩ hp)
    rcases hp'.2 with ⟨a1, a2⟩ | ⟨a1, a2⟩
    · exact .inl ⟨a1, fun q hq => a2 q (hsub q hq)⟩
    · exact .inr ⟨fun q hq => a1 q (hsub q hq), fun q hq => a2 q (hsub q hq)⟩
  · exact .inl hm
end Go.Proofs

/-
  Contracts: comparisons; a text's hash.
-/
namespace Go.Proofs
open Go Go.Abs
set_option maxRecDepth 100000
set_option linter.unusedSimpArgs false
theorem nanU_call (G : Nat → Option AV) (n : Int) (h : AH) (K : AV → AH → Prop) (hk : K (.v (.bool false)) h) : SCall Tryz.prog G 211 [.v (.int .u64 n)] h K := by
  refine Tryz.c211 G _ h K fun hlow => ?_
  unfold Tryz.r211
  simp (disch := omega) only [go_sem, bne_self_eq_false]
  exact ret_same hk
theorem nanI_call (G : Nat → Option AV) (n : Int) (h : AH) (K : AV → AH → Prop) (hk : K (.v (.bool false)) h) : SCall Tryz.prog G 228 [.v (.int .i64 n)] h K := by
  refine Tryz.c228 G _ h K fun hlow => ?_
  unfold Tryz.r228
  simp (disch := omega) only [go_sem, bne_self_eq_false]
  exact ret_same hk
theorem cmpU_call (G : Nat → Option AV) (a b : Int) (h : AH) (K : AV → AH → Prop) (hk : K (.v (.int .i64 (cmpI a b))) h) : SCall Tryz.prog G 169 [.v (.int .u64 a), .v (.int .u64 b)] h K := by
  refine Tryz.c169 G _ _ h K fun hlow => ?_
  unfold Tryz.r169
  simp (disch := omega) only [go_sem]
  refine ⟨nanU_call G a _ _ ?_⟩
  simp (disch := omega) only [go_sem]
  refine ⟨nanU_call G b _ _ ?_⟩
  unfold cmpI at hk
  by_cases h1 : a < b
  · simp (disch := omega) only [go_sem]
    simp only [h1, if_true] at hk
    exact ret_same hk
  · by_cases h2 : a > b
    · simp (disch := omega) only [go_sem]
      simp only [h1, h2, if_true, if_false] at hk
      exact ret_same hk
    · simp (disch := omega) only [go_sem]
      simp only [h1, h2, if_false] at hk
      exact ret_same hk
theorem cmpI_call (G : Nat → Option AV) (a b : Int) (h : AH) (K : AV → AH → Prop) (hk : K (.v (.int .i64 (cmpI a b))) h) : SCall Tryz.prog G 210 [.v (.int .i64 a), .v (.int .i64 b)] h K := by
  refine Tryz.c210 G _ _ h K fun hlow => ?_
  unfold Tryz.r210
  simp (disch := omega) only [go_sem]
  refine ⟨nanI_call G a _ _ ?_⟩
  simp (disch := omega) only [go_sem]
  refine ⟨nanI_call G b _ _ ?_⟩
  unfold cmpI at hk
  by_cases h1 : a < b
  · simp (disch := omega) only [go_sem]
    simp only [h1, if_true] at hk
    exact ret_same hk
  · by_cases h2 : a > b
    · simp (disch := omega) only [go_sem]
      simp only [h1, h2, if_true, if_false] at hk
      exact ret_same hk
    · simp (disch := omega) only [go_sem]
      simp only [h1, h2, if_false] at hk
      exact ret_same hk
/-- The first that is not 0. -/
def orI : List Int → Int
  | [] => 0
  | x :: xs => if x ≠ 0 then x else orI xs
theorem orI_at {x : Int} : ∀ {xs : List Int} {k : Nat}, xs[k]? = some x → (∀ y ∈ xs.take k, y = 0) → x ≠ 0 → orI xs = x
  | [], k, h, _, _ => by simp at h
  | y :: ys, 0, h, _, hx => by simp at h; subst h; simp [orI, hx]
  | y :: ys, k + 1, h, h0, hx => by
    have hy : y = 0 := h0 y (by simp)
    rw [orI, if_neg (by simp [hy])]
    exact orI_at (k := k) (by simpa using h) (fun z hz => h0 z (by simp [hz])) hx
theorem orI_none : ∀ {xs : List Int}, (∀ y ∈ xs, y = 0) → orI xs = 0
  | [], _ => rfl
  | y :: ys, h => by rw [orI, if_neg (by simp [h y (by simp)])]; exact orI_none fun z hz => h z (by simp [hz])
theorem Or_call (G : Nat → Option AV) (a : AV) (xs : List Int) (h : AH) (K : AV → AH → Prop) (ha : Ints h a xs) (hl : xs.length ≤ 4611686018427387904) (hk : K (.v (.int .i64 (orI xs))) h) : SCall Tryz.prog G 131 [a] h K := by
  refine Tryz.c131 G _ h K fun hlow => ?_
  unfold Tryz.r131
  have la := ha.len (P := Tryz.prog) (t := 31) Tryz.und31
  rw [List.length_map] at la
  simp (disch := omega) only [go_sem, la]
  unfold Tryz.r131_l3_1
  refine ⟨fun m vs h' => ∃ k : Nat, k ≤ xs.length ∧ m = xs.length - k ∧ h' = h ∧ (∀ y ∈ xs.take k, y = 0) ∧ vs = [.v (.int .i64 k)], xs.length, ⟨0, by omega, rfl, rfl, by simp, rfl⟩, ?_⟩
  rintro m h' hl1 hlow2 n ⟨k, hk1, rfl, rfl, h0, hvs⟩
  simp only [List.cons.injEq, AV.v.injEq, Value.int.injEq, true_and, and_true] at hvs
  obtain rfl := hvs
  by_cases hkl : k < xs.length
  · obtain ⟨y, hy⟩ : ∃ y, xs[k]? = some y := ⟨_, List.getElem?_eq_getElem hkl⟩
    obtain ⟨q, q1, q2, _⟩ := ha.iaAll (P := Tryz.prog) (ty := 31) (k := .i64) (i := k) (r := irow y) Tryz.und31 Tryz.siz3 (by omega) (by simp [hy])
    have q1 := q1 []
    have q2 := q2 []
    rw [List.append_nil] at q1 q2
    by_cases hy0 : y = 0
    · simp (disch := omega) only [go_sem, q1, q2, hy0]
      refine next_keep (xs.length - (k + 1)) ?_ (Nat.le_refl _) ?_
      · omega
      refine ⟨k + 1, by omega, rfl, rfl, ?_, rfl⟩
      intro z hz
      rw [List.take_add_one, hy, List.mem_append] at hz
      rcases hz with hz | hz
      · exact h0 z hz
      · simp at hz; rw [hz, hy0]
    · simp (disch := omega) only [go_sem, q1, q2, hy0]
      rw [orI_at hy h0 hy0] at hk
      exact ret_same hk
  · simp (disch := omega) only [go_sem]
    rw [orI_none (by intro y hy; exact h0 y (by rw [List.take_of_length_le (by omega)]; exact hy))] at hk
    exact ret_same hk
theorem xor_u (a b : Int) : aBin Tryz.prog .xor 105 (.v (.int .u64 a)) (.v (.int .u64 b)) = some (.v (.int .u64 (xorU a b))) := rfl
theorem shr_33 (a : Int) : aBin Tryz.prog .shr 105 (.v (.int .u64 a)) (.v (.int .u64 33)) = some (.v (.int .u64 (a.fdiv 8589934592))) := rfl
theorem hash_loop (x0 : Int) (s : List UInt8) (h : AH) (K : AV → AH → Prop) (hl : s.length ≤ 4611686018427387904) (hk : K (.v (.int .u64 (hashEnd (s.foldl hashStep x0)))) h) : Tryz.r163_l3_1 K h (.v (.string (bs s))) (bs s) x0 0 := by
  obtain ⟨Q, hQ⟩ : ∃ Q : Nat → Int → Prop, ∀ k x, Q k x ↔ x = (s.take k).foldl hashStep x0 := ⟨fun k x => x = (s.take k).foldl hashStep x0, fun _ _ => Iff.rfl⟩
  unfold Tryz.r163_l3_1
  refine ⟨fun m vs h' => ∃ (k : Nat) (x : Int), k ≤ s.length ∧ m = s.length - k ∧ h' = h ∧ Q k x ∧ vs = [.v (.int .u64 x), .v (.int .i64 k)], s.length, ⟨0, x0, by omega, rfl, rfl, (hQ 0 x0).mpr rfl, rfl⟩, ?_⟩
  rintro m h' hl1 hlow2 n n' ⟨k, x, hk1, rfl, rfl, hq, hvs⟩
  simp only [List.cons.injEq, AV.v.injEq, Value.int.injEq, true_and, and_true] at hvs
  obtain ⟨rfl, rfl⟩ := hvs
  by_cases hkl : k < s.length
  · obtain ⟨y, hy⟩ : ∃ y, s[k]? = some y := ⟨_, List.getElem?_eq_getElem hkl⟩
    simp (disch := omega) only [↓xor_u, go_sem]
    have hd : s.getD k 0 = y := by rw [List.getD_eq_getElem?_getD, hy]; rfl
    have hst : IntKind.u64.wrap (xorU n ((s.getD k 0).toNat : Int) * 1099511628211) = hashStep n y := by rw [hd]; rfl
    rw [hst]
    refine next_keep (s.length - (k + 1)) (by omega) (Nat.le_refl _) ⟨k + 1, hashStep n y, by omega, rfl, rfl, ?_, rfl⟩
    rw [hQ, List.take_add_one, hy, Option.toList_some, List.foldl_append, ← (hQ k n).mp hq]
    rfl
  · rw [condB_neg (by rw [bs_size]; omega)]
    simp only [shr_33, xor_u, okInt_mk]
    have := (hQ k n).mp hq
    rw [List.take_of_length_le (by omega)] at this
    rw [← this] at hk
    exact ret_same hk
theorem ringHash_call (G : Nat → Option AV) (s : List UInt8) (h : AH) (K : AV → AH → Prop) (hl : s.length ≤ 4611686018427387904) (hk : K (.v (.int .u64 (hashI s))) h) : SCall Tryz.prog G 163 [.v (.string (bs s))] h K := by
  refine Tryz.c163 G _ h K fun hlow => ?_
  unfold Tryz.r163
  simp only [okStr_mk]
  exact hash_loop _ s h K hl hk
end Go.Proofs

/-
  Contracts: slices of ints, by the library's functions.
-/
namespace Go.Proofs
open Go Go.Abs
set_option maxRecDepth 100000
set_option linter.unusedSimpArgs false
theorem Clone_call (G : Nat → Option AV) (a : AV) (xs : List Int) (h : AH) (K : AV → AH → Prop) (ha : Ints h a xs) (hnn : ∀ r f, a ≠ .lst r f false) (hl : xs.length ≤ 17592186044416)
    (hk : ∀ v h', AccR 3 1 h v h' (xs.map irow) → K v h') : SCall Tryz.prog G 81 [a] h K := by
  refine Tryz.c81 G _ h K fun hlow => ?_
  unfold Tryz.r81
  refine ha.isNil Tryz.und31 hnn ?_ ?_
  · intro hx
    simp (disch := omega) only [go_sem]
    refine ret_keep (hk _ _ ?_)
    have := AccR.nil (e := 3) (n := 1) (h := h) (t := [])
    rw [List.append_nil] at this
    rw [hx]
    exact this
  · intro _
    simp (disch := omega) only [go_sem]
    have h0 : AccR 3 1 h (.sl h.length 0 0 0 none) (h ++ [some (.cells 3 1 [] 0)]) [] := @AccR.obj 3 1 h [] [] 0 [] (by simp)
    refine h0.append (new := xs.map irow) Tryz.und31 Tryz.azero3 Tryz.byt3 (by exact Tryz.plainSrc31) (ha.app _).src (by simp) (by
      rintro ⟨s, rfl⟩
      obtain ⟨_, ⟨h1, _⟩ | ⟨_, _, h1⟩ | ⟨_, _, _, _, _, _, h1, _⟩⟩ := ha <;> cases h1) (by simp; omega) (by simp; omega) ?_
    intro x' h'' hc _ _
    exact ret_keep (hk _ _ hc)

/-- Where the first is that is told. -/
def idxOf (p : Int → Bool) : List Int → Int
  | [] => -1
  | x :: xs => if p x then 0 else if idxOf p xs = -1 then -1 else idxOf p xs + 1
theorem idxOf_none {p : Int → Bool} : ∀ {xs : List Int}, (∀ x ∈ xs, p x = false) → idxOf p xs = -1
  | [], _ => rfl
  | x :: xs, h => by rw [idxOf, h x (by simp), idxOf_none (xs := xs) (fun y hy => h y (by simp [hy]))]; simp
theorem idxOf_at {p : Int → Bool} : ∀ {xs : List Int} {k : Nat} {x : Int}, xs[k]? = some x → p x = true → (∀ y ∈ xs.take k, p y = false) → idxOf p xs = k
  | [], k, x, h, _, _ => by simp at h
  | y :: ys, 0, x, h, hp, _ => by simp at h; subst h; rw [idxOf, hp]; simp
  | y :: ys, k + 1, x, h, hp, hn => by
    have h0 : p y = false := hn y (by simp)
    have ih := idxOf_at (xs := ys) (k := k) (by simpa using h) hp (fun z hz => hn z (by simp [hz]))
    rw [idxOf, h0, ih]
    simp
    try omega
theorem idxOf_cases (p : Int → Bool) : ∀ (xs : List Int), (idxOf p xs = -1 ∧ ∀ x ∈ xs, p x = false) ∨ ∃ (k : Nat) (x : Int), xs[k]? = some x ∧ p x = true ∧ (∀ y ∈ xs.take k, p y = false) ∧ idxOf p xs = k
  | [] => .inl ⟨rfl, by simp⟩
  | x :: xs => by
    cases hp : p x with
    | true => exact .inr ⟨0, x, rfl, hp, by simp, idxOf_at (k := 0) rfl hp (by simp)⟩
    | false =>
      rcases idxOf_cases p xs with ⟨h1, h2⟩ | ⟨k, y, h1, h2, h3, h4⟩
      · have : ∀ z ∈ x :: xs, p z = false := by
          intro z hz
          rcases List.mem_cons.mp hz with rfl | hz
          · exact hp
          · exact h2 z hz
        exact .inl ⟨idxOf_none this, this⟩
      · have : ∀ z ∈ (x :: xs).take (k + 1), p z = false := by
          intro z hz
          rw [List.take_succ_cons] at hz
          rcases List.mem_cons.mp hz with rfl | hz
          · exact hp
          · exact h3 z hz
        exact .inr ⟨k + 1, y, by simpa using h1, h2, this, by exact_mod_cast idxOf_at (k := k + 1) (by simpa using h1) h2 this⟩

theorem getI {xs : List Int} {k : Nat} (hk : k < xs.length) : ∃ x, xs[k]? = some x := ⟨xs[k], List.getElem?_eq_getElem hk⟩
/-- A reading of a slice of ints. -/
theorem Ints.at {h : AH} {a : AV} {xs : List Int} (ha : Ints h a xs) {k : Nat} {x : Int} (hx : xs[k]? = some x) : ∃ p, (∀ t, aIA Tryz.prog (h ++ t) 31 a (.v (.int .i64 k)) = some p) ∧ (∀ t, Go.Abs.rowAt (h ++ t) p = some (irow x, 0)) := by
  obtain ⟨p, p1, p2, _⟩ := ha.iaAll (P := Tryz.prog) (ty := 31) (k := .i64) (i := (k : Int)) (r := irow x) Tryz.und31 Tryz.siz3 (by omega) (by simp [hx])
  exact ⟨p, p1, p2⟩

theorem IndexFunc_call (G : Nat → Option AV) (a : AV) (xs : List Int) (g : FuncId) (fi ca : List AV) (p : Int → Bool) (h : AH) (K : AV → AH → Prop) (ha : Ints h a xs) (hl : xs.length ≤ 4611686018427387904)
    (hc : ∀ (x : Int) (K : AV → AH → Prop), K (.v (.bool (p x))) h → SCall Tryz.prog G g (fi ++ .v (.int .i64 x) :: ca) h K) (hk : K (.v (.int .i64 (idxOf p xs))) h) : SCall Tryz.prog G 221 [a, .fn (.func g) fi ca] h K := by
  refine Tryz.c221 G _ _ h K fun hlow => ?_
  unfold Tryz.r221
  have la := ha.len (P := Tryz.prog) (t := 31) Tryz.und31
  rw [List.length_map] at la
  simp (disch := omega) only [go_sem, la]
  unfold Tryz.r221_l2_1
  refine ⟨fun m vs h' => ∃ k : Nat, k ≤ xs.length ∧ m = xs.length - k ∧ h' = h ∧ (∀ y ∈ xs.take k, p y = false) ∧ vs = [.v (.int .i64 k)], xs.length, ⟨0, by omega, rfl, rfl, by simp, rfl⟩, ?_⟩
  rintro m h' hl1 hlow2 n ⟨k, hk1, rfl, rfl, hno, hvs⟩
  simp only [List.cons.injEq, AV.v.injEq, Value.int.injEq, true_and, and_true] at hvs
  subst hvs
  by_cases hkl : k < xs.length
  · obtain ⟨x, hx⟩ := getI hkl
    obtain ⟨q, q1, q2⟩ := Ints.at ha hx
    have q1 := q1 []
    have q2 := q2 []
    rw [List.append_nil] at q1 q2
    simp (disch := omega) only [go_sem, q1, q2]
    refine ⟨hc x _ ?_⟩
    cases hp : p x with
    | true =>
      simp (disch := omega) only [go_sem]
      rw [idxOf_at hx hp hno] at hk
      exact ret_same hk
    | false =>
      simp (disch := omega) only [go_sem]
      refine next_keep (xs.length - (k + 1)) ?_ (Nat.le_refl _) ?_
      · omega
      refine ⟨k + 1, by omega, rfl, rfl, ?_, rfl⟩
      intro y hy
      rw [List.take_add_one, hx] at hy
      simp at hy
      rcases hy with hy | rfl
      · exact hno y hy
      · exact hp
  · simp (disch := omega) only [go_sem]
    rw [List.take_of_length_le (by omega)] at hno
    rw [idxOf_none hno] at hk
    exact ret_same hk

theorem idxOf_ge (p : Int → Bool) (xs : List Int) : decide (idxOf p xs ≥ 0) = xs.any p := by
  rcases idxOf_cases p xs with ⟨h1, h2⟩ | ⟨k, x, h1, h2, h3, h4⟩
  · rw [h1]
    have : xs.any p = false := by
      rw [List.any_eq_false]; intro x hx; simp [h2 x hx]
    rw [this]; rfl
  · rw [h4]
    have : xs.any p = true := List.any_eq_true.mpr ⟨x, List.mem_of_getElem? h1, h2⟩
    rw [this]; simp
theorem ContainsFunc_call (G : Nat → Option AV) (a : AV) (xs : List Int) (g : FuncId) (fi ca : List AV) (p : Int → Bool) (h : AH) (K : AV → AH → Prop) (ha : Ints h a xs) (hl : xs.length ≤ 4611686018427387904)
    (hc : ∀ (x : Int) (K : AV → AH → Prop), K (.v (.bool (p x))) h → SCall Tryz.prog G g (fi ++ .v (.int .i64 x) :: ca) h K) (hk : K (.v (.bool (xs.any p))) h) : SCall Tryz.prog G 197 [a, .fn (.func g) fi ca] h K := by
  refine Tryz.c197 G _ _ h K fun hlow => ?_
  unfold Tryz.r197
  refine ⟨IndexFunc_call G a xs g fi ca p h _ ha hl hc ?_⟩
  simp (disch := omega) only [go_sem]
  rw [idxOf_ge]
  exact ret_same hk

theorem Index_call (G : Nat → Option AV) (a : AV) (xs : List Int) (y : Int) (h : AH) (K : AV → AH → Prop) (ha : Ints h a xs) (hl : xs.length ≤ 4611686018427387904)
    (hk : K (.v (.int .i64 (idxOf (fun x => decide (y = x)) xs))) h) : SCall Tryz.prog G 222 [a, .v (.int .i64 y)] h K := by
  refine Tryz.c222 G _ _ h K fun hlow => ?_
  unfold Tryz.r222
  have la := ha.len (P := Tryz.prog) (t := 31) Tryz.und31
  rw [List.length_map] at la
  simp (disch := omega) only [go_sem, la]
  unfold Tryz.r222_l2_1
  refine ⟨fun m vs h' => ∃ k : Nat, k ≤ xs.length ∧ m = xs.length - k ∧ h' = h ∧ (∀ z ∈ xs.take k, decide (y = z) = false) ∧ vs = [.v (.int .i64 k)], xs.length, ⟨0, by omega, rfl, rfl, by simp, rfl⟩, ?_⟩
  rintro m h' hl1 hlow2 n ⟨k, hk1, rfl, rfl, hno, hvs⟩
  simp only [List.cons.injEq, AV.v.injEq, Value.int.injEq, true_and, and_true] at hvs
  subst hvs
  by_cases hkl : k < xs.length
  · obtain ⟨x, hx⟩ := getI hkl
    obtain ⟨q, q1, q2⟩ := Ints.at ha hx
    have q1 := q1 []
    have q2 := q2 []
    rw [List.append_nil] at q1 q2
    by_cases hp : y = x
    · simp (disch := omega) only [go_sem, q1, q2]
      rw [idxOf_at hx (by simp [hp]) hno] at hk
      exact ret_same hk
    · simp (disch := omega) only [go_sem, q1, q2]
      refine next_keep (xs.length - (k + 1)) ?_ (Nat.le_refl _) ?_
      · omega
      refine ⟨k + 1, by omega, rfl, rfl, ?_, rfl⟩
      intro z hz
      rw [List.take_add_one, hx] at hz
      simp only [List.mem_append, Option.toList_some, List.mem_singleton] at hz
      rcases hz with hz | rfl
      · exact hno z hz
      · simp [hp]
  · simp (disch := omega) only [go_sem]
    rw [List.take_of_length_le (by omega)] at hno
    rw [idxOf_none hno] at hk
    exact ret_same hk
theorem Contains_call (G : Nat → Option AV) (a : AV) (xs : List Int) (y : Int) (h : AH) (K : AV → AH → Prop) (ha : Ints h a xs) (hl : xs.length ≤ 4611686018427387904)
    (hk : K (.v (.bool (decide (y ∈ xs)))) h) : SCall Tryz.prog G 199 [a, .v (.int .i64 y)] h K := by
  refine Tryz.c199 G _ _ h K fun hlow => ?_
  unfold Tryz.r199
  simp (disch := omega) only [go_sem]
  refine ⟨Index_call G a xs y h _ ha hl ?_⟩
  simp (disch := omega) only [go_sem]
  rw [idxOf_ge]
  have : (xs.any fun x => decide (y = x)) = decide (y ∈ xs) := by
    rw [Bool.eq_iff_iff]; simp
  rw [this]
  exact ret_same hk
end Go.Proofs

/-
  Contracts: the least, the greatest; which weights may be.
-/
namespace Go.Proofs
open Go Go.Abs
set_option maxRecDepth 100000
set_option linter.unusedSimpArgs false
def leastI : List Int → Int
  | [] => 0
  | x :: xs => xs.foldl (fun a b => if b < a then b else a) x
def mostI : List Int → Int
  | [] => 0
  | x :: xs => xs.foldl (fun a b => if a < b then b else a) x
theorem least_take {x : Int} {xs : List Int} {k : Nat} {y : Int} (h : (x :: xs)[k + 1]? = some y) : leastI ((x :: xs).take (k + 2)) = if y < leastI ((x :: xs).take (k + 1)) then y else leastI ((x :: xs).take (k + 1)) := by
  simp only [List.take_succ_cons, leastI]
  rw [List.take_add_one, show xs[k]? = some y by simpa using h, Option.toList_some, List.foldl_append]
  rfl
theorem most_take {x : Int} {xs : List Int} {k : Nat} {y : Int} (h : (x :: xs)[k + 1]? = some y) : mostI ((x :: xs).take (k + 2)) = if mostI ((x :: xs).take (k + 1)) < y then y else mostI ((x :: xs).take (k + 1)) := by
  simp only [List.take_succ_cons, mostI]
  rw [List.take_add_one, show xs[k]? = some y by simpa using h, Option.toList_some, List.foldl_append]
  rfl
theorem min2 (a b : Int) : aMinMax false [some (.v (.int .i64 a)), some (.v (.int .i64 b))] = some (.v (.int .i64 (if b < a then b else a))) := rfl
theorem max2 (a b : Int) : aMinMax true [some (.v (.int .i64 a)), some (.v (.int .i64 b))] = some (.v (.int .i64 (if a < b then b else a))) := rfl
theorem Min_call (G : Nat → Option AV) (a : AV) (xs : List Int) (h : AH) (K : AV → AH → Prop) (ha : Ints h a xs) (hl : xs.length ≤ 4611686018427387904) (h1 : 1 ≤ xs.length)
    (hk : K (.v (.int .i64 (leastI xs))) h) : SCall Tryz.prog G 97 [a] h K := by
  refine Tryz.c97 G _ h K fun hlow => ?_
  unfold Tryz.r97 Tryz.r97_j1
  have la := ha.len (P := Tryz.prog) (t := 31) Tryz.und31
  rw [List.length_map] at la
  obtain ⟨x, xt, rfl⟩ : ∃ x xt, xs = x :: xt := by
    cases xs with
    | nil => simp at h1
    | cons x xt => exact ⟨x, xt, rfl⟩
  generalize hxs : x :: xt = xs at *
  have hx0 : xs[0]? = some x := by rw [← hxs]; rfl
  obtain ⟨q, q1, q2⟩ := Ints.at ha hx0
  have q1 := q1 []
  have q2 := q2 []
  rw [List.append_nil] at q1 q2
  simp only [Int.natCast_zero] at q1
  simp (disch := omega) only [go_sem, la, q1, q2]
  unfold Tryz.r97_l5_3
  refine ⟨fun m vs h' => ∃ k : Nat, k + 1 ≤ xs.length ∧ m = xs.length - k ∧ h' = h ∧ vs = [.v (.int .i64 (leastI (xs.take (k + 1)))), .v (.int .i64 (k + 1))], xs.length, ⟨0, by omega, rfl, rfl, by rw [← hxs]; simp [leastI]⟩, ?_⟩
  rintro m h' hl1 hlow2 n n' ⟨k, hk1, rfl, rfl, hvs⟩
  simp only [List.cons.injEq, AV.v.injEq, Value.int.injEq, true_and, and_true] at hvs
  obtain ⟨rfl, rfl⟩ := hvs
  by_cases hkl : k + 1 < xs.length
  · obtain ⟨y, hy⟩ := getI hkl
    obtain ⟨r, r1, r2⟩ := Ints.at ha hy
    have r1 := r1 []
    have r2 := r2 []
    rw [List.append_nil] at r1 r2
    simp only [Int.natCast_add, Int.natCast_one] at r1
    simp (disch := omega) only [go_sem, la, r1, r2]
    rw [min2]
    simp (disch := omega) only [go_sem]
    refine next_keep (xs.length - (k + 1)) ?_ (Nat.le_refl _) ?_
    · omega
    refine ⟨k + 1, by omega, rfl, rfl, ?_⟩
    rw [← hxs] at hy ⊢
    rw [least_take hy]
    rfl
  · simp (disch := omega) only [go_sem, la]
    rw [List.take_of_length_le (by omega)]
    exact ret_same hk
theorem Max_call (G : Nat → Option AV) (a : AV) (xs : List Int) (h : AH) (K : AV → AH → Prop) (ha : Ints h a xs) (hl : xs.length ≤ 4611686018427387904) (h1 : 1 ≤ xs.length)
    (hk : K (.v (.int .i64 (mostI xs))) h) : SCall Tryz.prog G 98 [a] h K := by
  refine Tryz.c98 G _ h K fun hlow => ?_
  unfold Tryz.r98 Tryz.r98_j1
  have la := ha.len (P := Tryz.prog) (t := 31) Tryz.und31
  rw [List.length_map] at la
  obtain ⟨x, xt, rfl⟩ : ∃ x xt, xs = x :: xt := by
    cases xs with
    | nil => simp at h1
    | cons x xt => exact ⟨x, xt, rfl⟩
  generalize hxs : x :: xt = xs at *
  have hx0 : xs[0]? = some x := by rw [← hxs]; rfl
  obtain ⟨q, q1, q2⟩ := Ints.at ha hx0
  have q1 := q1 []
  have q2 := q2 []
  rw [List.append_nil] at q1 q2
  simp only [Int.natCast_zero] at q1
  simp (disch := omega) only [go_sem, la, q1, q2]
  unfold Tryz.r98_l5_3
  refine ⟨fun m vs h' => ∃ k : Nat, k + 1 ≤ xs.length ∧ m = xs.length - k ∧ h' = h ∧ vs = [.v (.int .i64 (mostI (xs.take (k + 1)))), .v (.int .i64 (k + 1))], xs.length, ⟨0, by omega, rfl, rfl, by rw [← hxs]; simp [mostI]⟩, ?_⟩
  rintro m h' hl1 hlow2 n n' ⟨k, hk1, rfl, rfl, hvs⟩
  simp only [List.cons.injEq, AV.v.injEq, Value.int.injEq, true_and, and_true] at hvs
  obtain ⟨rfl, rfl⟩ := hvs
  by_cases hkl : k + 1 < xs.length
  · obtain ⟨y, hy⟩ := getI hkl
    obtain ⟨r, r1, r2⟩ := Ints.at ha hy
    have r1 := r1 []
    have r2 := r2 []
    rw [List.append_nil] at r1 r2
    simp only [Int.natCast_add, Int.natCast_one] at r1
    simp (disch := omega) only [go_sem, la, r1, r2]
    rw [max2]
    simp (disch := omega) only [go_sem]
    refine next_keep (xs.length - (k + 1)) ?_ (Nat.le_refl _) ?_
    · omega
    refine ⟨k + 1, by omega, rfl, rfl, ?_⟩
    rw [← hxs] at hy ⊢
    rw [most_take hy]
    rfl
  · simp (disch := omega) only [go_sem, la]
    rw [List.take_of_length_le (by omega)]
    exact ret_same hk

/-- Which weights may be. -/
def ringOk (xs : List Int) : Bool := decide (1 ≤ xs.length) && decide (xs.length ≤ 8) && decide (0 ≤ leastI xs) && decide (mostI xs ≤ 128) && decide (mostI xs ≠ 0)
theorem ringCheck_call (G : Nat → Option AV) (a : AV) (xs : List Int) (h : AH) (K : AV → AH → Prop) (ha : Ints h a xs) (hl : xs.length ≤ 4611686018427387904)
    (hk : K (.v (.int .i64 (if ringOk xs then 0 else 1))) h) : SCall Tryz.prog G 33 [a] h K := by
  refine Tryz.c33 G _ h K fun hlow => ?_
  unfold Tryz.r33
  have la := ha.len (P := Tryz.prog) (t := 31) Tryz.und31
  rw [List.length_map] at la
  unfold ringOk at hk
  by_cases h1 : xs.length < 1
  · simp (disch := omega) only [go_sem, la, h1]
    simp only [show ¬ 1 ≤ xs.length by omega, decide_false, Bool.false_and, Bool.false_eq_true, if_false] at hk
    exact ret_same hk
  by_cases h2 : xs.length > 8
  · simp (disch := omega) only [go_sem, la, h1, h2]
    simp only [show ¬ xs.length ≤ 8 by omega, decide_false, Bool.and_false, Bool.false_and, Bool.false_eq_true, if_false] at hk
    exact ret_same hk
  simp only [show 1 ≤ xs.length by omega, show xs.length ≤ 8 by omega, decide_true, Bool.true_and] at hk
  simp (disch := omega) only [go_sem, la]
  refine ⟨Min_call G a xs h _ ha hl (by omega) ?_⟩
  by_cases h3 : leastI xs < 0
  · simp (disch := omega) only [go_sem, h3]
    simp only [show ¬ 0 ≤ leastI xs by omega, decide_false, Bool.and_false, Bool.false_and, Bool.false_eq_true, if_false] at hk
    exact ret_same hk
  simp only [show 0 ≤ leastI xs by omega, decide_true, Bool.true_and] at hk
  simp (disch := omega) only [go_sem, h3]
  refine ⟨Max_call G a xs h _ ha hl (by omega) ?_⟩
  by_cases h4 : mostI xs > 128
  · simp (disch := omega) only [go_sem, h4]
    simp only [show ¬ mostI xs ≤ 128 by omega, decide_false, Bool.and_false, Bool.false_and, Bool.false_eq_true, if_false] at hk
    exact ret_same hk
  simp only [show mostI xs ≤ 128 by omega, decide_true, Bool.true_and] at hk
  simp (disch := omega) only [go_sem, h4]
  refine ⟨Max_call G a xs h _ ha hl (by omega) ?_⟩
  by_cases h5 : mostI xs = 0
  · simp (disch := omega) only [go_sem, h5]
    simp only [h5, ne_eq, not_true_eq_false, decide_false, Bool.false_eq_true, if_false] at hk
    exact ret_same hk
  · simp (disch := omega) only [go_sem, h5]
    simp only [h5, ne_eq, not_false_eq_true, decide_true, if_true] at hk
    exact ret_same hk
end Go.Proofs
