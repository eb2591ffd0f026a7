/-
  The law SweepLess.
-/
import Derived.Test.YtpoeicdhlhhimaaGAE
set_option linter.all false
namespace Go.Proofs
open Go Go.Abs
set_option maxRecDepth 100000
set_option linter.unusedSimpArgs false
theorem less_sizes (G : Nat → Option AV) (a b v40 : AV) (sizes : List (Int × Int)) (lc : List Int) (pc : Int) (i0 : Nat) (h H : AH) (K : AV → AH → Prop) (ha : ∀ h, Sees h 2 a (sizes.map szrow)) (a1 : a.one = true) (a2 : a.cells = [a]) (hs : sizes.length ≤ 300)
    (hc : Ints H v40 lc) (hlc : lc.length ≤ 1000) (hrel : ∀ (i : Nat) (s : Int × Int), sizes[i]? = some s → (s.1 ∈ lc ↔ (i + 1 < sizes.length ∧ 0 < s.2)))
    (f0 : ∀ t : AH, (H ++ t)[i0]? = some (some (AO.cells 25 3 [[a, b, .v (.int .i64 pc)]] 0))) (hk : ∀ h', K (.v (.bool true)) h') :
    Try.r3_l20_75 K h G i0 v40 H a sizes.length 0 := by
  unfold Try.r3_l20_75
  have la : ∀ H, aLen Try.prog H 22 a = some (.v (.int .i64 sizes.length)) := fun H => by
    have := seesLenS (ha []) (P := Try.prog) (t := 22) Try.und22 H
    rw [List.length_map] at this
    exact this
  refine ⟨fun m vs h' => ∃ k : Nat, k ≤ sizes.length ∧ m = sizes.length - k ∧ (∃ t, h' = H ++ t) ∧ vs = [.v (.int .i64 k)], sizes.length, ⟨0, by omega, rfl, ⟨[], by simp⟩, rfl⟩, ?_⟩
  rintro m h' hl1 hlow2 n ⟨k, hk1, rfl, ⟨t, rfl⟩, hvs⟩
  simp only [List.cons.injEq, AV.v.injEq, Value.int.injEq, true_and, and_true] at hvs
  subst hvs
  have ew : IntKind.i64.wrap ((k : Int) + 1) = ((k + 1 : Nat) : Int) := by rw [wrap64_of (by omega) (by omega)]; omega
  by_cases hkl : k < sizes.length
  rotate_left
  · simp (disch := omega) only [go_sem]
    exact ret_keep (hk _)
  obtain ⟨s, hsk⟩ : ∃ s, sizes[k]? = some s := ⟨_, List.getElem?_eq_getElem hkl⟩
  obtain ⟨q, q1, q2⟩ := szAt (ha H) hsk
  simp (disch := omega) only [go_sem, q1, q2, f0, la, a1, a2]
  refine ⟨in12_call G v40 lc s.1 _ _ (hc.app _) (by omega) ?_⟩
  have hr := hrel k s hsk
  by_cases c1 : k + 1 < sizes.length
  · by_cases c2 : 0 < s.2
    · have e : decide (s.1 ∈ lc) = true := decide_eq_true (hr.mpr ⟨c1, c2⟩)
      have c2' : s.2 > 0 := c2
      rw [e]
      simp (disch := omega) only [go_sem, f0, la, ew, a1, a2, c1, c2', decide_true, beq_self_eq_true]
      exact next_keep (sizes.length - (k + 1)) (by omega) (by simp <;> omega) ⟨k + 1, by omega, rfl, ⟨_, rfl⟩, rfl⟩
    · have e : decide (s.1 ∈ lc) = false := decide_eq_false fun h => c2 (hr.mp h).2
      have c2' : ¬ s.2 > 0 := c2
      rw [e]
      simp (disch := omega) only [go_sem, f0, la, ew, a1, a2, c1, c2', decide_true, decide_false, beq_self_eq_true]
      exact next_keep (sizes.length - (k + 1)) (by omega) (by simp <;> omega) ⟨k + 1, by omega, rfl, ⟨_, rfl⟩, rfl⟩
  · have e : decide (s.1 ∈ lc) = false := decide_eq_false fun h => c1 (hr.mp h).1
    rw [e]
    simp (disch := omega) only [go_sem, f0, la, ew, a1, a2, c1, decide_true, decide_false, beq_self_eq_true]
    exact next_keep (sizes.length - (k + 1)) (by omega) (by simp <;> omega) ⟨k + 1, by omega, rfl, ⟨_, rfl⟩, rfl⟩
theorem less_files (G : Nat → Option AV) (a b v21 v34 v40 : AV) (sizes : List (Int × Int)) (l1 l2 lc : List Int) (pc : Int) (i0 : Nat) (h H : AH) (K : AV → AH → Prop) (ha : ∀ h, Sees h 2 a (sizes.map szrow)) (a1 : a.one = true) (a2 : a.cells = [a]) (hs : sizes.length ≤ 300)
    (h1 : Ints H v21 l1) (h2 : Ints H v34 l2) (hc : Ints H v40 lc) (hl1' : l1.length ≤ 1000) (hl2' : l2.length ≤ 1000) (hlc : lc.length ≤ 1000) (hin : ∀ f ∈ l1, f ∈ l2 ∧ f ∈ lc) (hrel : ∀ (i : Nat) (s : Int × Int), sizes[i]? = some s → (s.1 ∈ lc ↔ (i + 1 < sizes.length ∧ 0 < s.2)))
    (f0 : ∀ t : AH, (H ++ t)[i0]? = some (some (AO.cells 25 3 [[a, b, .v (.int .i64 pc)]] 0))) (hk : ∀ h', K (.v (.bool true)) h') :
    Try.r3_l14_48 G h K i0 v21 v34 H v40 l1.length 0 := by
  unfold Try.r3_l14_48
  have la : ∀ H, aLen Try.prog H 22 a = some (.v (.int .i64 sizes.length)) := fun H => by
    have := seesLenS (ha []) (P := Try.prog) (t := 22) Try.und22 H
    rw [List.length_map] at this
    exact this
  refine ⟨fun m vs h' => ∃ k : Nat, k ≤ l1.length ∧ m = l1.length - k ∧ h' = H ∧ vs = [.v (.int .i64 k)], l1.length, ⟨0, by omega, rfl, rfl, rfl⟩, ?_⟩
  rintro m h' hl1 hlow2 n ⟨k, hk1, rfl, rfl, hvs⟩
  simp only [List.cons.injEq, AV.v.injEq, Value.int.injEq, true_and, and_true] at hvs
  subst hvs
  have ew : IntKind.i64.wrap ((k : Int) + 1) = ((k + 1 : Nat) : Int) := by rw [wrap64_of (by omega) (by omega)]; omega
  have g0 := f0 []
  rw [List.append_nil] at g0
  by_cases hkl : k < l1.length
  · obtain ⟨x, hx⟩ := getI hkl
    obtain ⟨q, q1, q2⟩ := Ints.at h1 hx
    have q1 := q1 []
    have q2 := q2 []
    rw [List.append_nil] at q1 q2
    obtain ⟨m1, m2⟩ := hin x (List.mem_of_getElem? hx)
    simp (disch := omega) only [go_sem, q1, q2]
    refine ⟨in12_call G v34 l2 x _ _ h2 (by omega) ?_⟩
    rw [decide_eq_true m1]
    simp (disch := omega) only [go_sem]
    refine ⟨in12_call G v40 lc x _ _ hc (by omega) ?_⟩
    rw [decide_eq_true m2]
    simp (disch := omega) only [go_sem, ew]
    exact next_keep (l1.length - (k + 1)) (by omega) (Nat.le_refl _) ⟨k + 1, by omega, rfl, rfl, rfl⟩
  · simp (disch := omega) only [go_sem, g0, la, a1, a2]
    exact less_sizes G a b v40 sizes lc pc i0 h h' K ha a1 a2 hs hc hlc hrel f0 hk
theorem lessLaw (G : Nat → Option AV) (a b : AV) (sizes : List (Int × Int)) (d : List Pt) (pc more : Int) (h : AH) (K : AV → AH → Prop) (ha : ∀ h, Sees h 2 a (sizes.map szrow)) (a1 : a.one = true) (a2 : a.cells = [a]) (hb : ∀ h, Sees h 3 b (d.map (encA encPl))) (b1 : b.one = true) (b2 : b.cells = [b]) (hk : ∀ h', K (.v (.bool true)) h') :
    SCall Try.prog G 3 [.agg [a, b, .v (.int .i64 pc)], .v (.int .i64 more)] h K := by
  refine Try.c3 G _ _ h K fun hlow => ?_
  unfold Try.r3
  have la : ∀ H, aLen Try.prog H 22 a = some (.v (.int .i64 sizes.length)) := fun H => by
    have := seesLenS (ha []) (P := Try.prog) (t := 22) Try.und22 H
    rw [List.length_map] at this
    exact this
  have lb : ∀ H, aLen Try.prog H 23 b = some (.v (.int .i64 d.length)) := fun H => by
    have := seesLenS (hb []) (P := Try.prog) (t := 23) Try.und23 H
    rw [List.length_map] at this
    exact this
  simp (disch := omega) only [go_sem, a1, a2, b1, b2]
  refine ⟨works12_call G _ _ ?_⟩
  by_cases hd : d.length > 300
  · simp (disch := omega) only [go_sem, a1, a2, b1, b2, la, lb, hd]
    exact ret_keep (hk _)
  by_cases hs : sizes.length > 300
  · simp (disch := omega) only [go_sem, a1, a2, b1, b2, la, lb, hd, hs]
    exact ret_keep (hk _)
  simp (disch := omega) only [go_sem, a1, a2, b1, b2, la, lb, hd, hs]
  refine ⟨Plan_call G a b sizes d pc _ _ (ha _) (hb _) (by omega) (by omega) (fun _ t => ?_) (fun o1 o2 o3 r v t hr hv v1 v2 => ?_)⟩
  · simp (disch := omega) only [go_sem]
    exact ret_keep (hk _)
  simp (disch := omega) only [go_sem, a1, a2, b1, b2, v1, v2]
  refine ⟨among12_call G more 50 _ _ (by omega) fun am am0 am1 => ?_⟩
  have ew : IntKind.i64.wrap (pc + am) = pc + am := wrap64_of (by omega) (by omega)
  simp (disch := omega) only [go_sem, a1, a2, b1, b2, v1, v2, ew, min2]
  generalize hp2 : (if pc + am < 100 then pc + am else (100 : Int)) = pc2
  have hpc2 : pc ≤ pc2 ∧ pc2 ≤ 100 := by rw [← hp2]; split <;> omega
  refine ⟨Plan_call G a b sizes d pc2 _ _ (ha _) (hb _) (by omega) (by omega) (fun hbad _ => ?_) (fun _ _ _ r2 w t2 hr2 hw w1 w2 => ?_)⟩
  · rcases hbad with hbad | hbad | hbad
    · rw [o1] at hbad; cases hbad
    · omega
    · omega
  obtain rfl := hr2.one hr
  simp (disch := omega) only [go_sem, a1, a2, b1, b2, v1, v2, w1, w2]
  refine ⟨Plan_call G a (.v (.slice none 0 0)) sizes [] pc _ _ (ha _) Sees.nil (by simp) (by omega) (fun hbad _ => ?_) (fun _ _ _ r3 x t3 hr3 hx x1 x2 => ?_)⟩
  · rcases hbad with hbad | hbad | hbad
    · rw [o1] at hbad; cases hbad
    · omega
    · omega
  obtain rfl := comp_nil hr3
  have e0 : bytesK [] = [] := rfl
  rw [e0] at hx
  obtain ⟨s1, s2⟩ := sel_less (al := bytesK r2) (n := sizes.length) (fun f => (bytesK_look r2 f).1) o1 o2 hpc2.1
  have n1 := selK_len (bytesK r2) pc sizes.length sizes 0
  have n2 := selK_len (bytesK r2) pc2 sizes.length sizes 0
  have n3 := selK_len [] pc sizes.length sizes 0
  have hv' := hv.app (t2 ++ t3)
  have hw' := hw.app t3
  have hx' := hx
  simp only [List.append_assoc, List.cons_append, List.nil_append] at hv' hw' hx'
  have lv : ∀ H, aLen Try.prog H 27 v = some (.v (.int .i64 (selK (bytesK r2) pc sizes.length 0 sizes).length)) := fun H => by
    have := seesLenS hv (P := Try.prog) (t := 27) Try.und27 H
    rw [List.length_map] at this
    exact this
  simp (disch := omega) only [go_sem, lv]
  exact less_files G a b v w x sizes _ _ _ pc h.length h _ K ha a1 a2 (by omega) hv' hw' hx' (by omega) (by omega) (by omega) s1 s2 (fun t => by simp) hk
theorem Try.lawSweepLess {G : Nat → Option AV} (xs ys : List AV) (hx : In Try.prog 25 xs) (hy : In Try.prog 3 ys) : SCall Try.prog G 3 [argA Try.prog 25 xs, argA Try.prog 3 ys] [] fun v _ => v = .v (.bool true) := by
  obtain ⟨a, b, sizes, d, pc, rfl, ⟨p1, p2, p3⟩, q1, q2, q3⟩ := in_plan12 hx
  obtain ⟨n, rfl, _⟩ := in_int Try.und3 hy
  have e1 : argA Try.prog 25 [a, b, .v (.int .i64 pc)] = .agg [a, b, .v (.int .i64 pc)] := by unfold argA; rw [Try.und25]
  have e2 : argA Try.prog 3 [.v (.int .i64 n)] = .v (.int .i64 n) := by unfold argA; rw [Try.und3]
  rw [e1, e2]
  exact lessLaw G a b sizes d pc n [] _ p1 p2 p3 q1 q2 q3 fun _ => rfl
end Go.Proofs
