/-
  The law: with the same weights no key moves, nor with a chain more that weighs nothing.
-/
import Derived.Test.YtbkehjgnaogcdaaGreatDoorRy
import Derived.Test.YtbkehjgnaogcdaaGreatDoorRx
set_option linter.all false
namespace Go.Proofs
open Go Go.Abs
set_option maxRecDepth 100000
set_option linter.unusedSimpArgs false
theorem ringOk_in {ws : List Int} (h1 : 1 ≤ ws.length) (h2 : ws.length ≤ 8) (h3 : ∀ w ∈ ws, 0 ≤ w ∧ w ≤ 128) {a : Nat} (h4 : 0 < ws.getD a 0) : ringOk ws = true := by
  cases ws with
  | nil => simp at h1
  | cons x xs =>
    obtain ⟨m1, m2⟩ := foldl_min (xs := xs) x
    obtain ⟨n1, n2, n3⟩ := foldl_max (xs := xs) x
    have hmem : ∀ y, y ∈ x :: xs → xs.foldl (fun a b => if b < a then b else a) x ≤ y ∧ y ≤ xs.foldl (fun a b => if a < b then b else a) x := by
      intro y hy
      rcases List.mem_cons.mp hy with rfl | hy
      · exact ⟨m1, n1⟩
      · exact ⟨m2 y hy, n2 y hy⟩
    have hmin : 0 ≤ xs.foldl (fun a b => if b < a then b else a) x := by
      have key : ∀ (xs : List Int) (x : Int), xs.foldl (fun a b => if b < a then b else a) x ∈ x :: xs := by
        intro xs
        induction xs with
        | nil => intro x; simp
        | cons y ys ih =>
          intro x
          rw [List.foldl_cons]
          have := ih (if y < x then y else x)
          rcases List.mem_cons.mp this with h | h
          · rw [h]; split <;> simp
          · exact List.mem_cons_of_mem _ (List.mem_cons_of_mem _ h)
      exact (h3 _ (key xs x)).1
    have hmax : xs.foldl (fun a b => if a < b then b else a) x ≤ 128 := by
      rcases n3 with n3 | n3
      · rw [n3]; exact (h3 x (by simp)).2
      · exact (h3 _ (List.mem_cons_of_mem _ n3)).2
    have hpos : 0 < xs.foldl (fun a b => if a < b then b else a) x := by
      have ha : (x :: xs).getD a 0 ∈ x :: xs := by
        by_cases hal : a < (x :: xs).length
        · rw [List.getD_eq_getElem?_getD, List.getElem?_eq_getElem hal]
          exact List.getElem_mem _
        · rw [List.getD_eq_getElem?_getD, List.getElem?_eq_none (by omega)] at h4
          simp at h4
      have := (hmem _ ha).2
      omega
    unfold ringOk leastI mostI
    simp only [Bool.and_eq_true, decide_eq_true_eq]
    exact ⟨⟨⟨⟨h1, h2⟩, hmin⟩, hmax⟩, by omega⟩
theorem ptsTo_app {dig : Int → List UInt8} {ws vs : List Int} : ∀ c, c ≤ ws.length → ptsTo dig (ws ++ vs) c = ptsTo dig ws c
  | 0, _ => rfl
  | c + 1, hc => by
    have e : (ws ++ vs).getD c 0 = ws.getD c 0 := by
      rw [List.getD_eq_getElem?_getD, List.getD_eq_getElem?_getD, List.getElem?_append_left (by omega)]
    have ih := ptsTo_app (dig := dig) (ws := ws) (vs := vs) c (by omega)
    simp only [ptsTo, ih, e]
theorem ring_zero {dig : Int → List UInt8} (ws : List Int) : ring dig (ws ++ [0]) = ring dig ws := by
  unfold ring pts
  rw [List.length_append, List.length_singleton]
  have e : (ws ++ [(0 : Int)]).getD ws.length 0 = 0 := by
    rw [List.getD_eq_getElem?_getD, List.getElem?_append_right (Nat.le_refl _)]; simp
  simp only [ptsTo, e, ptsTo_app ws.length (Nat.le_refl _), ptsOf, Int.toNat_zero, List.range_zero, List.map_nil, List.append_nil]
theorem ringOk_zero {ws : List Int} (h : ringOk ws = true) (h8 : ws.length ≠ 8) : ringOk (ws ++ [0]) = true := by
  obtain ⟨o1, o2, o3, a, o4, o5⟩ := ringOk_out h
  refine ringOk_in (by simp) (by simp; omega) ?_ (a := a) ?_
  · intro w hw
    rcases List.mem_append.mp hw with hw | hw
    · exact o3 w hw
    · simp at hw; omega
  · rw [List.getD_eq_getElem?_getD, List.getElem?_append_left o4, ← List.getD_eq_getElem?_getD]
    exact o5
theorem movedI_same {f g : List UInt8 → Int} {keys : List (List UInt8)} (h : ∀ s, f s = g s) : movedI f g keys = [] := movedTo_none h _
/-- Keys, cut off behind. -/
theorem cut_texts (h : AH) (n : Nat) {a1 : AV} {keys : List (List UInt8)} (hb : ∀ h, Sees h 1 a1 (keys.map srow)) (hnn : a1 = .v (.slice none 0 0) ∨ ∃ rows f nn, a1 = .lst rows f nn) (hn : n < keys.length) :
    ∃ a', aSlice Tryz.prog h 42 a1 none (some (some (.v (.int .i64 (n : Int))))) none = some a' ∧ ∀ h, Sees h 1 a' ((keys.take n).map srow) := by
  rcases hnn with rfl | ⟨rows, f, nn, rfl⟩
  · rcases (hb h).2 with ⟨_, h2⟩ | ⟨_, _, h1⟩ | ⟨_, _, _, _, _, _, h1, _⟩
    · have := congrArg List.length h2
      rw [List.length_map, List.length_nil] at this
      omega
    · cases h1
    · cases h1
  · have hrows : rows = keys.map srow := by
      rcases (hb h).2 with ⟨h1, _⟩ | ⟨_, _, h1⟩ | ⟨_, _, _, _, _, _, h1, _⟩
      · cases h1
      · cases h1; rfl
      · cases h1
    subst hrows
    refine ⟨.lst ((keys.map srow).take n) (f && ((n : Int) == ((keys.map srow).length : Int))) nn, ?_, fun h => ?_⟩
    · simp only [aSlice, Tryz.und42, Tryz.siz9, bnd, chk]
      rw [if_pos ⟨by omega, by omega, by simp; omega, by simp⟩]
      simp
    · rw [List.map_take]
      exact Sees.lst fun r hm => by have := List.mem_of_mem_take hm; simp at this; obtain ⟨k, _, rfl⟩ := this; rfl
end Go.Proofs

/-
  Contracts: the reference's hashes, digits, weights.
-/
namespace Go.Proofs
open Go Go.Abs
set_option maxRecDepth 100000
set_option linter.unusedSimpArgs false
theorem hash_loop2 (x0 : Int) (s : List UInt8) (h : AH) (K : AV → AH → Prop) (hl : s.length ≤ 4611686018427387904) (hk : K (.v (.int .u64 (hashEnd (s.foldl hashStep x0)))) h) : Tryz.r202_l3_0 K h (.v (.string (bs s))) x0 0 := by
  obtain ⟨Q, hQ⟩ : ∃ Q : Nat → Int → Prop, ∀ k x, Q k x ↔ x = (s.take k).foldl hashStep x0 := ⟨fun k x => x = (s.take k).foldl hashStep x0, fun _ _ => Iff.rfl⟩
  unfold Tryz.r202_l3_0
  refine ⟨fun m vs h' => ∃ (k : Nat) (x : Int), k ≤ s.length ∧ m = s.length - k ∧ h' = h ∧ Q k x ∧ vs = [.v (.int .u64 x), .v (.int .i64 k)], s.length, ⟨0, x0, by omega, rfl, rfl, (hQ 0 x0).mpr rfl, rfl⟩, ?_⟩
  rintro m h' hl1 hlow2 n n' ⟨k, x, hk1, rfl, rfl, hq, hvs⟩
  simp only [List.cons.injEq, AV.v.injEq, Value.int.injEq, true_and, and_true] at hvs
  obtain ⟨rfl, rfl⟩ := hvs
  simp only [okStr_mk, bs_size]
  by_cases hkl : k < s.length
  · obtain ⟨y, hy⟩ : ∃ y, s[k]? = some y := ⟨_, List.getElem?_eq_getElem hkl⟩
    simp (disch := omega) only [↓xor_u, go_sem]
    have hd : s.getD k 0 = y := by rw [List.getD_eq_getElem?_getD, hy]; rfl
    have hst : IntKind.u64.wrap (xorU n ((s.getD k 0).toNat : Int) * 1099511628211) = hashStep n y := by rw [hd]; rfl
    rw [hst]
    refine next_keep (s.length - (k + 1)) (by omega) (Nat.le_refl _) ⟨k + 1, hashStep n y, by omega, rfl, rfl, ?_, rfl⟩
    rw [hQ, List.take_add_one, hy, Option.toList_some, List.foldl_append, ← (hQ k n).mp hq]
    rfl
  · rw [condB_neg (by omega)]
    simp only [shr_33, xor_u, okInt_mk]
    have := (hQ k n).mp hq
    rw [List.take_of_length_le (by omega)] at this
    rw [← this] at hk
    exact ret_same hk
theorem refHash_call (G : Nat → Option AV) (s : List UInt8) (h : AH) (K : AV → AH → Prop) (hl : s.length ≤ 4611686018427387904) (hk : K (.v (.int .u64 (hashI s))) h) : SCall Tryz.prog G 202 [.v (.string (bs s))] h K := by
  refine Tryz.c202 G _ h K fun hlow => ?_
  unfold Tryz.r202
  exact hash_loop2 _ s h K hl hk
theorem digit_conv (h : AH) (d : Nat) (hd : d < 10) : aConv Tryz.prog (h ++ [some (.cells 5 1 [[.v (.int .u8 (48 + d : Nat))]] 0)]) 184 9 (.sl h.length 0 0 1 none) = some (.v (.string (bs [UInt8.ofNat (48 + d)]))) := by
  have : d = 0 ∨ d = 1 ∨ d = 2 ∨ d = 3 ∨ d = 4 ∨ d = 5 ∨ d = 6 ∨ d = 7 ∨ d = 8 ∨ d = 9 := by omega
  have hg : ∀ o, (h ++ [o])[h.length]? = some o := fun o => by simp
  rw [aConv_sl, Tryz.und184, Tryz.und9, rowsOf, hg]
  rcases this with rfl | rfl | rfl | rfl | rfl | rfl | rfl | rfl | rfl | rfl <;> simp [chk, convB, Tryz.und5, byteOf?]
theorem itoa_nat (n : Nat) : Lib.itoa (n : Int) = Lib.decDigits n := by
  unfold Lib.itoa
  rw [if_neg (by omega), Int.toNat_natCast]
theorem Digits_call (G : Nat → Option AV) (n : Nat) (h : AH) (K : AV → AH → Prop) (hn : n < 1000000) (hk : K (.v (.string (bs (Lib.itoa n)))) h) : SCall Tryz.prog G 203 [.v (.int .i64 (n : Int))] h K := by
  refine Tryz.c203 G _ h K fun hlow => ?_
  unfold Tryz.r203
  rw [itoa_nat] at hk
  simp (disch := omega) only [go_sem]
  unfold Tryz.r203_l2_1
  refine ⟨fun m vs h' => ∃ (u : Nat) (s : List UInt8), u < 1000000 ∧ m = u + 1 ∧ h' = h ∧ s.length + u ≤ 1000000 ∧ Lib.decDigits u ++ s = Lib.decDigits n ∧ vs = [.v (.int .i64 u), .v (.string (bs s))], n + 1, ⟨n, [], hn, rfl, rfl, by simp; omega, by simp, rfl⟩, ?_⟩
  rintro m h' hl1 hlow2 n' s' ⟨u, s, hu, rfl, rfl, hsl, hs, hvs⟩
  simp only [List.cons.injEq, AV.v.injEq, Value.int.injEq, Value.string.injEq, true_and, and_true] at hvs
  obtain ⟨rfl, rfl⟩ := hvs
  have e1 : Int.tmod (u : Int) 10 = ((u % 10 : Nat) : Int) := (Int.ofNat_tmod u 10).symm
  have e2 : Int.tdiv (u : Int) 10 = ((u / 10 : Nat) : Int) := (Int.ofNat_tdiv u 10).symm
  have e3 : IntKind.i64.wrap (48 + ((u % 10 : Nat) : Int)) = ((48 + u % 10 : Nat) : Int) := by rw [wrap64_of (by omega) (by omega)]; omega
  have e4 : IntKind.u8.wrap ((48 + u % 10 : Nat) : Int) = ((48 + u % 10 : Nat) : Int) := by simp [IntKind.wrap, IntKind.bits, IntKind.signed]; omega
  have e5 : IntKind.i64.wrap ((u / 10 : Nat) : Int) = ((u / 10 : Nat) : Int) := wrap64_of (by omega) (by omega)
  simp (disch := omega) only [go_sem, e1, e2, e3, e4, e5, digit_conv h' (u % 10) (Nat.mod_lt _ (by omega)), bs_append, List.length_append, List.length_cons, List.length_nil]
  by_cases h10 : u < 10
  · have e6 : u / 10 = 0 := by omega
    have e7 : u % 10 = u := by omega
    rw [Lib.decDigits_one h10] at hs
    simp (disch := omega) only [go_sem, e6, e7, Int.natCast_zero]
    have : UInt8.ofNat (48 + u) :: s = Lib.decDigits n := hs
    rw [this]
    exact ret_tail hlow .v hk
  · have e6 : ¬ (((u / 10 : Nat) : Int) = 0) := by omega
    simp (disch := omega) only [go_sem, e6]
    refine next_drop (u / 10 + 1) (by omega) (Nat.le_refl _) hlow2 (by intro v hv; simp at hv; rcases hv with rfl | rfl <;> exact .v) ⟨u / 10, [UInt8.ofNat (48 + u % 10)] ++ s, by omega, rfl, rfl, by simp; omega, ?_, rfl⟩
    rw [← hs]
    have hdec : Lib.decDigits u = Lib.decDigits (u / 10) ++ [UInt8.ofNat (48 + u % 10)] := by rw [Lib.decDigits, dif_neg h10]
    rw [hdec, List.append_assoc]
theorem May_call (G : Nat → Option AV) (a : AV) (ws : List Int) (h : AH) (K : AV → AH → Prop) (ha : Ints h a ws) (hl : ws.length ≤ 4611686018427387904) (hk : K (.v (.bool (ringOk ws))) h) : SCall Tryz.prog G 150 [a] h K := by
  refine Tryz.c150 G _ h K fun hlow => ?_
  unfold Tryz.r150
  have la : aLen Tryz.prog h 31 a = some (.v (.int .i64 ws.length)) := by
    have := ha.len (P := Tryz.prog) (t := 31) Tryz.und31
    rw [List.length_map] at this
    exact this
  have bad : (¬ (1 ≤ ws.length ∧ ws.length ≤ 8 ∧ (∀ w ∈ ws, 0 ≤ w ∧ w ≤ 128) ∧ ∃ a, a < ws.length ∧ 0 < ws.getD a 0)) → ringOk ws = false := by
    intro hn
    cases hr : ringOk ws with
    | false => rfl
    | true => exact absurd (ringOk_out hr) hn
  by_cases h1 : ws.length < 1
  · simp (disch := omega) only [go_sem, la, h1]
    rw [bad (by omega)] at hk
    exact ret_same hk
  by_cases h8 : ws.length > 8
  · simp (disch := omega) only [go_sem, la, h1, h8]
    rw [bad (by omega)] at hk
    exact ret_same hk
  simp (disch := omega) only [go_sem, la]
  unfold Tryz.r150_l5_8
  refine ⟨fun m vs h' => ∃ k : Nat, k ≤ ws.length ∧ m = ws.length - k ∧ h' = h ∧ (∀ w ∈ ws.take k, 0 ≤ w ∧ w ≤ 128) ∧ vs = [.v (.bool (decide (∃ a, a < k ∧ 0 < ws.getD a 0))), .v (.int .i64 k)], ws.length, ⟨0, by omega, rfl, rfl, by simp, by simp⟩, ?_⟩
  rintro m h' hl1 hlow2 b n ⟨k, hk1, rfl, rfl, hall, hvs⟩
  simp only [List.cons.injEq, AV.v.injEq, Value.int.injEq, Value.bool.injEq, true_and, and_true] at hvs
  obtain ⟨rfl, rfl⟩ := hvs
  by_cases hkl : k < ws.length
  · obtain ⟨y, hy⟩ : ∃ y, ws[k]? = some y := ⟨_, List.getElem?_eq_getElem hkl⟩
    have hyg : ws.getD k 0 = y := by rw [List.getD_eq_getElem?_getD, hy]; rfl
    obtain ⟨q, q1, q2, _⟩ := ha.iaAll (P := Tryz.prog) (ty := 31) (k := .i64) (i := k) (r := irow y) Tryz.und31 Tryz.siz3 (by omega) (by simp [hy])
    have q1 := q1 []
    have q2 := q2 []
    rw [List.append_nil] at q1 q2
    have hym : y ∈ ws := List.mem_of_getElem? hy
    by_cases hy0 : y < 0
    · simp (disch := omega) only [go_sem, la, q1, q2, hy0]
      rw [bad (by rintro ⟨_, _, h3, _⟩; have := h3 y hym; omega)] at hk
      exact ret_same hk
    by_cases hy1 : y > 128
    · simp (disch := omega) only [go_sem, la, q1, q2, hy0, hy1]
      rw [bad (by rintro ⟨_, _, h3, _⟩; have := h3 y hym; omega)] at hk
      exact ret_same hk
    have hall' : ∀ w ∈ ws.take (k + 1), 0 ≤ w ∧ w ≤ 128 := by
      intro w hw
      rw [List.take_add_one, hy, List.mem_append] at hw
      rcases hw with hw | hw
      · exact hall w hw
      · simp at hw; omega
    have hex : (∃ a, a < k + 1 ∧ 0 < ws.getD a 0) ↔ ((∃ a, a < k ∧ 0 < ws.getD a 0) ∨ y > 0) := by
      constructor
      · rintro ⟨a, h1, h2⟩
        by_cases hak : a = k
        · subst hak; right; omega
        · exact .inl ⟨a, by omega, h2⟩
      · rintro (⟨a, h1, h2⟩ | h1)
        · exact ⟨a, by omega, h2⟩
        · exact ⟨k, by omega, by omega⟩
    by_cases hsome : ∃ a, a < k ∧ 0 < ws.getD a 0
    · have e : decide (∃ a, a < k ∧ 0 < ws.getD a 0) = true := decide_eq_true hsome
      rw [e]
      simp (disch := omega) only [go_sem, la, q1, q2]
      exact next_keep (ws.length - (k + 1)) (by omega) (Nat.le_refl _) ⟨k + 1, by omega, rfl, rfl, hall', by rw [decide_eq_true (hex.mpr (.inl hsome))]; simp⟩
    · have e : decide (∃ a, a < k ∧ 0 < ws.getD a 0) = false := decide_eq_false hsome
      rw [e]
      by_cases hy2 : y > 0
      · simp (disch := omega) only [go_sem, la, q1, q2, hy2]
        exact next_keep (ws.length - (k + 1)) (by omega) (Nat.le_refl _) ⟨k + 1, by omega, rfl, rfl, hall', by rw [decide_eq_true (hex.mpr (.inr hy2))]; simp⟩
      · simp (disch := omega) only [go_sem, la, q1, q2, hy2]
        exact next_keep (ws.length - (k + 1)) (by omega) (Nat.le_refl _) ⟨k + 1, by omega, rfl, rfl, hall', by rw [decide_eq_false (fun h => (hex.mp h).elim hsome hy2)]; simp⟩
  · have hke : k = ws.length := by omega
    subst hke
    rw [List.take_length] at hall
    simp (disch := omega) only [go_sem, la]
    have e : decide (∃ a, a < ws.length ∧ 0 < ws.getD a 0) = ringOk ws := by
      by_cases hs : ∃ a, a < ws.length ∧ 0 < ws.getD a 0
      · obtain ⟨a, h1', h2'⟩ := hs
        rw [decide_eq_true ⟨a, h1', h2'⟩, ringOk_in (by omega) (by omega) hall h2']
      · rw [decide_eq_false hs, bad (by rintro ⟨_, _, _, h4⟩; exact hs h4)]
    rw [e]
    exact ret_same hk
end Go.Proofs

/-
  The reference's ring: points put in one by one, behind those that are not greater. Plain.
-/
namespace Go.Proofs
open Go Go.Abs
/-- Behind those that are not greater: where. -/
def posAt (x : Int) (l : List Pt) : Nat := l.findIdx fun q => decide (x < q.1)
theorem insPt_pos (p : Pt) : ∀ (l : List Pt), (∀ q ∈ l, q.1 = p.1 → ¬ ptLtP p q) → l.Pairwise ptLe → insPt p l = l.take (posAt p.1 l) ++ p :: l.drop (posAt p.1 l)
  | [], _, _ => rfl
  | q :: l, h, hs => by
    unfold insPt
    by_cases hlt : p.1 < q.1
    · have : ptLtP p q := .inl hlt
      rw [if_pos this]
      have e : posAt p.1 (q :: l) = 0 := by unfold posAt; rw [List.findIdx_cons]; simp [hlt]
      rw [e]; rfl
    · have hn : ¬ ptLtP p q := by
        by_cases he : q.1 = p.1
        · exact h q (by simp) he
        · unfold ptLtP; omega
      rw [if_neg hn]
      have e : posAt p.1 (q :: l) = posAt p.1 l + 1 := by unfold posAt; rw [List.findIdx_cons]; simp [hlt]
      rw [e, insPt_pos p l (fun r hr => h r (by simp [hr])) (List.pairwise_cons.mp hs).2]
      rfl
theorem sortPt_snoc (l : List Pt) (p : Pt) : sortPt (l ++ [p]) = insPt p (sortPt l) := by
  refine (sortPt_one (l := l ++ [p]) ?_ (insPt_sorted p _ (sortPt_sorted l))).symm
  refine (insPt_perm p _).trans ?_
  refine ((sortPt_perm l).cons p).trans ?_
  exact (List.perm_append_singleton p l).symm
/-- What was put in ahead is of a lower chain, or of a lower number. -/
theorem sortPt_next (dig : Int → List UInt8) (ws : List Int) (c i : Nat) : sortPt (ptsTo dig ws c ++ ptsOf dig c (i + 1)) =
    (sortPt (ptsTo dig ws c ++ ptsOf dig c i)).take (posAt (ptAt dig c i).1 (sortPt (ptsTo dig ws c ++ ptsOf dig c i))) ++ ptAt dig c i :: (sortPt (ptsTo dig ws c ++ ptsOf dig c i)).drop (posAt (ptAt dig c i).1 (sortPt (ptsTo dig ws c ++ ptsOf dig c i))) := by
  rw [ptsOf_succ, ← List.append_assoc, sortPt_snoc]
  refine insPt_pos _ _ ?_ (sortPt_sorted _)
  intro q hq he
  have hq := (sortPt_perm _).mem_iff.mp hq
  rcases List.mem_append.mp hq with hq | hq
  · obtain ⟨a, j, h1, _, rfl⟩ := (mem_ptsTo dig).mp hq
    unfold ptLtP ptAt
    unfold ptAt at he
    simp only at he ⊢
    omega
  · simp only [ptsOf, List.mem_map, List.mem_range] at hq
    obtain ⟨j, hj, rfl⟩ := hq
    unfold ptLtP ptAt
    unfold ptAt at he
    simp only at he ⊢
    omega
end Go.Proofs

/-
  Contracts: the reference's ring, and what it tells.
-/
namespace Go.Abs
theorem Sees.keepAt {h h' : AH} {n : Nat} {a : AV} {rows : List (List AV)} (s : Sees h n a rows) (hk : ∀ id g o l c, a = .sl id g o l c → h'[id]? = h[id]?) : Sees h' n a rows := by
  obtain ⟨h0, h1 | h1 | ⟨id, gen, off, cap, e, rs, rfl, h2, h3⟩⟩ := s
  · exact ⟨h0, .inl h1⟩
  · exact ⟨h0, .inr (.inl h1)⟩
  · exact ⟨h0, .inr (.inr ⟨id, gen, off, cap, e, rs, rfl, by rw [hk _ _ _ _ _ rfl]; exact h2, h3⟩)⟩
theorem AccR.idLt {e : TypeId} {n : Nat} {h h' : AH} {x : AV} {rows : List (List AV)} (hc : AccR e n h x h' rows) {id g o l : Nat} {c : Option Nat} (hx : x = .sl id g o l c) : id < h'.length := by
  cases hc with
  | nil => cases hx
  | obj hr =>
    simp only [AV.sl.injEq] at hx
    obtain ⟨rfl, _⟩ := hx
    simp
end Go.Abs
namespace Go.Proofs
open Go Go.Abs
set_option maxRecDepth 100000
set_option linter.unusedSimpArgs false
def enc2 (p : Pt) : List AV := [.v (.int .u64 p.1), .v (.int .i64 p.2.1)]
theorem pt2Row (h : AH) {v : AV} {r : List Pt} (hs : Sees h 2 v (r.map enc2)) {k : Nat} {p : Pt} (hp : r[k]? = some p) :
    ∃ q, aIA Tryz.prog h 248 v (.v (.int .i64 (k : Int))) = some q ∧ ∃ q0, aFA Tryz.prog 297 0 q = some q0 ∧ Go.Abs.rowAt h q0 = some (enc2 p, 0) ∧ ∃ q1, aFA Tryz.prog 297 1 q = some q1 ∧ Go.Abs.rowAt h q1 = some (enc2 p, 1) := by
  obtain ⟨q, q1, q2, q3⟩ := hs.iaAll (P := Tryz.prog) (ty := 248) (k := .i64) (i := k) (r := enc2 p) Tryz.und248 Tryz.siz297 (by omega) (by simp [hp])
  obtain ⟨a, a1, a2⟩ := q3 _ 0 0 1 false Tryz.fld297_0 (by omega)
  obtain ⟨b, b1, b2⟩ := q3 _ 1 1 1 false Tryz.fld297_1 (by omega)
  have q1 := q1 []
  have a2 := a2 []
  have b2 := b2 []
  rw [List.append_nil] at q1 a2 b2
  exact ⟨q, q1, a, a1, a2, b, b1, b2⟩
theorem enc2_eq (p : Pt) : enc2 p = [.v (.int .u64 p.1), .v (.int .i64 p.2.1)] := rfl
theorem posAt_eq {x : Int} {l : List Pt} {k : Nat} (hk : k ≤ l.length) (h1 : ∀ q ∈ l.take k, q.1 ≤ x) (h2 : ∀ q, l[k]? = some q → x < q.1) : posAt x l = k := by
  unfold posAt
  by_cases hkl : k < l.length
  · rw [List.findIdx_eq hkl]
    refine ⟨by simpa using h2 _ (List.getElem?_eq_getElem hkl), fun j hj => ?_⟩
    have : l[j]'(by omega) ∈ l.take k := by
      rw [List.mem_take_iff_getElem]
      exact ⟨j, by omega, rfl⟩
    have := h1 _ this
    simp; omega
  · have : k = l.length := by omega
    subst this
    apply List.findIdx_eq_length.mpr
    intro q hq
    have := h1 q (by rw [List.take_length]; exact hq)
    simp; omega
theorem All_call (G : Nat → Option AV) (a : AV) (ws : List Int) (h : AH) (K : AV → AH → Prop) (ha : Ints h a ws) (hok : ringOk ws = true) (hk : ∀ v h', AccR 297 2 h v h' ((ring Lib.itoa ws).map enc2) → K v h') : SCall Tryz.prog G 152 [a] h K := by
  refine Tryz.c152 G _ h K fun hlow => ?_
  unfold Tryz.r152 Tryz.r152_l3_0
  obtain ⟨o1, o2, o3, _⟩ := ringOk_out hok
  have o4 : ∀ w ∈ ws, w ≤ 128 := fun w hw => (o3 w hw).2
  have la : ∀ t, aLen Tryz.prog (h ++ t) 31 a = some (.v (.int .i64 ws.length)) := fun t => by
    have := (ha.app t).len (P := Tryz.prog) (t := 31) Tryz.und31
    rw [List.length_map] at this
    exact this
  refine ⟨fun m vs h' => ∃ (c : Nat) (v : AV), c ≤ ws.length ∧ m = ws.length - c ∧ AccR 297 2 h v h' ((sortPt (ptsTo Lib.itoa ws c)).map enc2) ∧ vs = [v, .v (.int .i64 c)], ws.length, ⟨0, _, by omega, rfl, (by have := AccR.nil (e := 297) (n := 2) (h := h) (t := []); rw [List.append_nil] at this; exact this), rfl⟩, ?_⟩
  rintro m h' hl1 hlow2 v n ⟨c, v', hc1, rfl, acc, hvs⟩
  simp only [List.cons.injEq, AV.v.injEq, Value.int.injEq, true_and, and_true] at hvs
  obtain ⟨rfl, rfl⟩ := hvs
  have la' : aLen Tryz.prog h' 31 a = some (.v (.int .i64 ws.length)) := by obtain ⟨t, rfl⟩ := acc.tail; exact la t
  by_cases hcl : c < ws.length
  rotate_left
  · simp (disch := omega) only [go_sem, la']
    have hce : c = ws.length := by omega
    subst hce
    exact ret_keep (hk _ _ acc)
  have hg : ws.getD c 0 = ws[c] := by simp [List.getD_eq_getElem?_getD, List.getElem?_eq_getElem hcl]
  have hw := o3 ws[c] (List.getElem_mem _)
  have hlen := ptsTo_length Lib.itoa o4 c (by omega)
  simp (disch := omega) only [go_sem, la']
  unfold Tryz.r152_l6_7
  refine ⟨fun m vs h' => ∃ (i : Nat) (v : AV), (i : Int) ≤ ws[c] ∧ m = ws[c].toNat - i ∧ h.length ≤ h'.length ∧ AccR 297 2 h v h' ((sortPt (ptsTo Lib.itoa ws c ++ ptsOf Lib.itoa c i)).map enc2) ∧ vs = [v, .v (.int .i64 i)], ws[c].toNat, ⟨0, _, by omega, rfl, hl1, by simpa [ptsOf] using acc, rfl⟩, ?_⟩
  rintro m2 h2 hl2 hlow3 v2 n2 ⟨i, v3, hi1, rfl, hle2, acc2, hvs2⟩
  simp only [List.cons.injEq, AV.v.injEq, Value.int.injEq, true_and, and_true] at hvs2
  obtain ⟨rfl, rfl⟩ := hvs2
  obtain ⟨q, q1, q2, _⟩ := ha.iaAll (P := Tryz.prog) (ty := 31) (k := .i64) (i := c) (r := irow ws[c]) Tryz.und31 Tryz.siz3 (by omega) (by simp [hcl])
  have q1' : aIA Tryz.prog h2 31 a (.v (.int .i64 (c : Int))) = some q := by obtain ⟨t, rfl⟩ := acc2.tail; exact q1 t
  have q2' : Go.Abs.rowAt h2 q = some (irow ws[c], 0) := by obtain ⟨t, rfl⟩ := acc2.tail; exact q2 t
  by_cases hil : (i : Int) < ws[c]
  rotate_left
  · simp (disch := omega) only [go_sem, q1', q2']
    have ew : (c : Int) + 1 = ((c + 1 : Nat) : Int) := by omega
    rw [ew]
    refine next_keep (ws.length - (c + 1)) (by omega) (by omega) ⟨c + 1, v2, by omega, rfl, ?_, rfl⟩
    have : i = (ws.getD c 0).toNat := by rw [hg]; omega
    rw [this] at acc2
    exact acc2
  have l1 := itoa_len (n := c) (by omega)
  have l2 := itoa_len (n := i) (by omega)
  have e46 : (ByteArray.mk #[46]) = bs [46] := rfl
  simp (disch := omega) only [go_sem, q1', q2']
  refine ⟨Digits_call G c h2 _ (by omega) ?_⟩
  simp (disch := omega) only [go_sem, e46, bs_append, bs_size, List.length_append, List.length_cons, List.length_nil]
  refine ⟨Digits_call G i h2 _ (by omega) ?_⟩
  simp (disch := omega) only [go_sem, bs_append, bs_size, List.length_append, List.length_cons, List.length_nil]
  refine ⟨refHash_call G _ h2 _ (by simp; omega) ?_⟩
  have hp : hashI (Lib.itoa (c : Int) ++ 46 :: Lib.itoa (i : Int)) = (ptAt Lib.itoa c i).1 := rfl
  simp (disch := omega) only [go_sem, hp]
  have hpc : (ptAt Lib.itoa c i).2.1 = (c : Int) := rfl
  have hnx := sortPt_next Lib.itoa ws c i
  have hsl : (sortPt (ptsTo Lib.itoa ws c ++ ptsOf Lib.itoa c i)).length ≤ 128 * c + i := by
    rw [(sortPt_perm _).length_eq, List.length_append, ptsOf_length]; omega
  generalize ptAt Lib.itoa c i = p at hnx hpc
  generalize hl : sortPt (ptsTo Lib.itoa ws c ++ ptsOf Lib.itoa c i) = l at acc2 hnx hsl
  unfold Tryz.r152_l10_30
  generalize hH : h2 ++ [some (AO.cells 297 2 [[.v (.int .u64 p.1), .v (.int .i64 (c : Int))]] 0)] = H
  have hHl : H.length = h2.length + 1 := by rw [← hH]; simp
  have hHp : H[h2.length]? = some (some (AO.cells 297 2 [[.v (.int .u64 p.1), .v (.int .i64 (c : Int))]] 0)) := by rw [← hH]; simp
  obtain ⟨t2, et2⟩ := acc2.tail
  have hHt : ∃ t, H = h ++ t := ⟨_, by rw [← hH, et2, List.append_assoc]⟩
  have sv : Sees H 2 v2 (l.map enc2) := by rw [← hH]; exact acc2.sees.app _
  have idv : ∀ {id g o l' : Nat} {cc : Option Nat}, v2 = .sl id g o l' cc → id < h2.length := fun hx => acc2.idLt hx
  have lv : aLen Tryz.prog H 248 v2 = some (.v (.int .i64 l.length)) := by
    have := sv.len (P := Tryz.prog) (t := 248) Tryz.und248
    rw [List.length_map] at this
    exact this
  refine ⟨fun m vs h' => ∃ k : Nat, k ≤ l.length ∧ m = l.length - k ∧ h' = H ∧ (∀ q ∈ l.take k, q.1 ≤ p.1) ∧ vs = [.v (.int .i64 k)], l.length, ⟨0, by omega, rfl, rfl, by simp, rfl⟩, ?_⟩
  rintro m3 h3 hl3 hlow4 n3 ⟨k, hk1, rfl, rfl, hall, hvs3⟩
  simp only [List.cons.injEq, AV.v.injEq, Value.int.injEq, true_and, and_true] at hvs3
  obtain rfl := hvs3
  -- what follows the place
  have rest : posAt p.1 l = k → okV (aSlice Tryz.prog h3 248 v2 none (some (some (.v (.int .i64 (k : Int))))) none) fun v53 => appR Tryz.prog h3 248 248 (.v (.slice none 0 0)) v53 (fun v54 h55 =>
      okV (aLoad Tryz.prog h55 297 (.ptr h2.length 0 0 0)) fun v56 => okP (rowsFill 2 (List.replicate 1 [(.v (.int .u64 0)), (.v (.int .i64 0))]) [(0, some v56)]) fun r57 => newO (.cells 297 2 r57 0) h55 fun i58 h59 =>
      appR Tryz.prog h59 248 248 v54 (.sl i58 0 0 1 none) (fun v60 h61 => okV (aSlice Tryz.prog h61 248 v2 (some (some (.v (.int .i64 (k : Int))))) none none) fun v62 =>
      appR Tryz.prog h61 248 248 v60 v62 (fun v63 h64 =>
      nextR h' (fun m vs h' => ∃ (i : Nat) (v : AV), (i : Int) ≤ ws[c] ∧ m = ws[c].toNat - i ∧ h.length ≤ h'.length ∧ AccR 297 2 h v h' ((sortPt (ptsTo Lib.itoa ws c ++ ptsOf Lib.itoa c i)).map enc2) ∧ vs = [v, .v (.int .i64 i)]) (ws[c].toNat - i) [some a, some (.v (.int .i64 (c : Int)))] [some a, some (.v (.int .i64 (c : Int)))] [v63, (.v (.int .i64 (IntKind.wrap .i64 ((i : Int) + 1))))] h64))) := by
    intro hpos
    obtain ⟨a1, b1, b2⟩ := sv.upto (P := Tryz.prog) (ty := 248) (k := .i64) (hi := k) Tryz.und248 Tryz.siz297 (by simpa using hk1)
    have b1 := b1 []
    rw [List.append_nil] at b1
    rw [b1, okV_some]
    obtain ⟨t3, et3⟩ := hHt
    have s0 : AccR 297 2 h (.v (.slice none 0 0)) h3 [] := by rw [et3]; exact .nil
    have notstr : ∀ {x : AV} {hh : AH} {n : Nat} {rows : List (List AV)}, Sees hh n x rows → (∃ s, x = .v (.string s)) → n = 1 := by
      rintro x hh n rows hs ⟨s, rfl⟩
      obtain ⟨_, ⟨h1, _⟩ | ⟨_, _, h1⟩ | ⟨_, _, _, _, _, _, h1, _⟩⟩ := hs <;> cases h1
    refine s0.append (new := (l.map enc2).take k) Tryz.und248 Tryz.azero297 Tryz.byt297 (by exact Tryz.plainSrc248) b2.src b2.1 (fun hx => by have := notstr b2 hx; omega) (by simp; omega) (by simp; omega) ?_
    intro x1 h5 s1 hle5 st1
    rw [List.nil_append] at s1
    have off0 : ∀ i, Off (.v (.slice none 0 0)) i := fun i id g o l c hx => by cases hx
    have keep1 : ∀ i, i < h3.length → h5[i]? = h3[i]? ∧ Off x1 i := fun i hi => st1 i hi (off0 i)
    have hp5 : h5[h2.length]? = some (some (AO.cells 297 2 [[.v (.int .u64 p.1), .v (.int .i64 (c : Int))]] 0)) := by rw [(keep1 _ (by omega)).1]; exact hHp
    simp (disch := omega) only [go_sem, hp5]
    refine s1.push rfl Tryz.und248 Tryz.azero297 Tryz.byt297 (by exact Tryz.plainSrc248) rfl (by simp; omega) (by simp; omega) ?_
    intro x2 h6 s2 hle6 st2
    have sv6 : Sees h6 2 v2 (l.map enc2) := by
      refine sv.keepAt ?_
      intro id g o l' cc hx
      have hid := idv hx
      rw [(st2 id (by omega) (keep1 id (by omega)).2).1, (keep1 id (by omega)).1]
    obtain ⟨a2, d1, d2⟩ := sv6.from (P := Tryz.prog) (ty := 248) (k := .i64) (lo := k) Tryz.und248 Tryz.siz297 (by simpa using hk1)
    have d1 := d1 []
    rw [List.append_nil] at d1
    rw [d1, okV_some]
    refine s2.append (new := (l.map enc2).drop k) Tryz.und248 Tryz.azero297 Tryz.byt297 (by exact Tryz.plainSrc248) d2.src d2.1 (fun hx => by have := notstr d2 hx; omega) (by simp; omega) (by simp; omega) ?_
    intro x3 h7 s3 hle7 _
    have ew : IntKind.i64.wrap ((i : Int) + 1) = ((i + 1 : Nat) : Int) := by rw [wrap64_of (by omega) (by omega)]; omega
    rw [ew]
    refine next_keep (ws[c].toNat - (i + 1)) (by omega) (by omega) ⟨i + 1, x3, by omega, rfl, by omega, ?_, rfl⟩
    rw [hnx, hpos]
    have : (l.map enc2).take k ++ [[.v (.int .u64 p.1), .v (.int .i64 (c : Int))]] ++ (l.map enc2).drop k = (l.take k ++ p :: l.drop k).map enc2 := by
      rw [List.map_append, List.map_cons, List.map_take, List.map_drop, enc2_eq p, hpc]; simp
    rw [← this]
    exact s3
  by_cases hkl : k < l.length
  · obtain ⟨y, hy⟩ : ∃ y, l[k]? = some y := ⟨_, List.getElem?_eq_getElem hkl⟩
    obtain ⟨q, q1, q0, q2, q3, _⟩ := pt2Row h3 sv hy
    by_cases hle : y.1 ≤ p.1
    · simp (disch := omega) only [go_sem, lv, q1, q2, q3, enc2_eq, hHp]
      refine next_keep (l.length - (k + 1)) (by omega) (Nat.le_refl _) ⟨k + 1, by omega, rfl, rfl, ?_, by simp⟩
      intro z hz
      rw [List.take_add_one, hy, List.mem_append] at hz
      rcases hz with hz | hz
      · exact hall z hz
      · simp at hz; rw [hz]; exact hle
    · simp (disch := omega) only [go_sem, lv, q1, q2, q3, enc2_eq, hHp, hle]
      exact rest (posAt_eq hk1 hall fun z hz => by rw [hy] at hz; cases hz; omega)
  · simp (disch := omega) only [go_sem, lv]
    exact rest (posAt_eq hk1 hall fun z hz => by rw [List.getElem?_eq_none (by omega)] at hz; cases hz)
end Go.Proofs

/-
  Contracts: the reference's Of and Moved; texts that are the same.
-/
namespace Go.Proofs
open Go Go.Abs
set_option maxRecDepth 100000
set_option linter.unusedSimpArgs false
theorem find_call (G : Nat → Option AV) (v : AV) (r : List Pt) (key : List UInt8) (h : AH) (K : AV → AH → Prop) (hs : Sees h 2 v (r.map enc2)) (hl : r.length ≤ 1000000000) (h0 : r ≠ []) (hkl : key.length ≤ 4611686018427387904)
    (hk : K (.v (.int .i64 (ofH r (hashI key)))) h) : SCall Tryz.prog G 151 [v, .v (.string (bs key))] h K := by
  refine Tryz.c151 G _ _ h K fun hlow => ?_
  unfold Tryz.r151
  have hpos : 0 < r.length := List.length_pos_iff.mpr h0
  have lv : aLen Tryz.prog h 248 v = some (.v (.int .i64 r.length)) := by
    have := hs.len (P := Tryz.prog) (t := 248) Tryz.und248
    rw [List.length_map] at this
    exact this
  simp (disch := omega) only [go_sem]
  refine ⟨refHash_call G key h _ hkl ?_⟩
  generalize hashI key = x at hk
  simp (disch := omega) only [go_sem]
  unfold Tryz.r151_l3_4
  refine ⟨fun m vs h' => ∃ k : Nat, k ≤ r.length ∧ m = r.length - k ∧ h' = h ∧ (∀ q ∈ r.take k, q.1 < x) ∧ vs = [.v (.int .i64 k)], r.length, ⟨0, by omega, rfl, rfl, by simp, rfl⟩, ?_⟩
  rintro m h' hl1 hlow2 n ⟨k, hk1, rfl, rfl, hall, hvs⟩
  simp only [List.cons.injEq, AV.v.injEq, Value.int.injEq, true_and, and_true] at hvs
  obtain rfl := hvs
  by_cases hkl' : k < r.length
  · obtain ⟨y, hy⟩ : ∃ y, r[k]? = some y := ⟨_, List.getElem?_eq_getElem hkl'⟩
    obtain ⟨q, q1, q0, q2, q3, p0, p1, p2⟩ := pt2Row h' hs hy
    by_cases hge : y.1 ≥ x
    · simp (disch := omega) only [go_sem, lv, q1, q2, q3, p1, p2, enc2_eq, hge]
      have hlb : lb r x = k := by
        unfold lb
        rw [List.findIdx_eq hkl']
        have e : r[k] = y := (List.getElem?_eq_some_iff.mp hy).2
        refine ⟨by rw [e]; simpa using hge, fun j hj => ?_⟩
        have : r[j]'(by omega) ∈ r.take k := by
          rw [List.mem_take_iff_getElem]
          exact ⟨j, by omega, rfl⟩
        have := hall _ this
        simp; omega
      have : ofH r x = y.2.1 := by
        unfold ofH
        rw [hlb, Nat.mod_eq_of_lt hkl', List.getD_eq_getElem?_getD, hy]; rfl
      rw [this] at hk
      exact ret_same hk
    · simp (disch := omega) only [go_sem, lv, q1, q2, q3, p1, p2, enc2_eq, hge]
      refine next_keep (r.length - (k + 1)) (by omega) (Nat.le_refl _) ⟨k + 1, by omega, rfl, rfl, ?_, by simp⟩
      intro z hz
      rw [List.take_add_one, hy, List.mem_append] at hz
      rcases hz with hz | hz
      · exact hall z hz
      · simp at hz; rw [hz]; omega
  · have hke : k = r.length := by omega
    subst hke
    rw [List.take_length] at hall
    obtain ⟨y, hy⟩ : ∃ y, r[0]? = some y := ⟨_, List.getElem?_eq_getElem hpos⟩
    obtain ⟨q, q1, q0, q2, q3, p0, p1, p2⟩ := pt2Row h' hs hy
    have q1 : aIA Tryz.prog h' 248 v (.v (.int .i64 0)) = some q := q1
    simp (disch := omega) only [go_sem, lv, q1, p1, p2, enc2_eq]
    have hlb : lb r x = r.length := by
      unfold lb
      apply List.findIdx_eq_length.mpr
      intro z hz
      have := hall z hz
      simp; omega
    have : ofH r x = y.2.1 := by
      unfold ofH
      rw [hlb, Nat.mod_self, List.getD_eq_getElem?_getD, hy]; rfl
    rw [this] at hk
    exact ret_same hk
theorem refOf_call (G : Nat → Option AV) (a : AV) (ws : List Int) (key : List UInt8) (h : AH) (K : AV → AH → Prop) (ha : Ints h a ws) (hl : ws.length ≤ 4611686018427387904) (hkl : key.length ≤ 4611686018427387904)
    (hk : K (.tup [.v (.int .i64 (if ringOk ws then ofK Lib.itoa ws key else 0)), .v (.int .i64 (if ringOk ws then 0 else 1))]) h) : SCall Tryz.prog G 74 [a, .v (.string (bs key))] h K := by
  refine Tryz.c74 G _ _ h K fun hlow => ?_
  unfold Tryz.r74
  refine ⟨May_call G a ws h _ ha hl ?_⟩
  by_cases hok : ringOk ws = true
  · rw [hok] at hk ⊢
    simp (disch := omega) only [go_sem, Bool.not_true]
    refine ⟨All_call G a ws h _ ha hok fun v h' acc => ?_⟩
    obtain ⟨t, rfl⟩ := acc.tail
    simp (disch := omega) only [go_sem]
    have := ring_len (dig := Lib.itoa) hok
    refine ⟨find_call G v _ key _ _ acc.sees (by omega) (ring_ne hok) hkl ?_⟩
    simp (disch := omega) only [go_sem]
    exact ret_tail hlow (.tup (by intro v hv; simp at hv; rcases hv with rfl | rfl <;> exact .v)) hk
  · simp only [Bool.not_eq_true] at hok
    rw [hok] at hk ⊢
    simp (disch := omega) only [go_sem, Bool.not_false]
    exact ret_same hk
theorem SameInts_call (G : Nat → Option AV) (a b : AV) (xs ys : List Int) (h : AH) (K : AV → AH → Prop) (ha : Ints h a xs) (hb : Ints h b ys) (hx : xs.length ≤ 4611686018427387904) (hk : K (.v (.bool (xs == ys))) h) : SCall Tryz.prog G 71 [a, b] h K := by
  refine Tryz.c71 G _ _ h K fun hlow => ?_
  unfold Tryz.r71
  have la := ha.len (P := Tryz.prog) (t := 31) Tryz.und31
  have lb := hb.len (P := Tryz.prog) (t := 31) Tryz.und31
  rw [List.length_map] at la lb
  by_cases hlen : xs.length = ys.length
  rotate_left
  · have e : ¬ ((xs.length : Int) = (ys.length : Int)) := by omega
    simp (disch := omega) only [go_sem, la, lb, e]
    have : (xs == ys) = false := by
      simp
      rintro rfl
      exact hlen rfl
    rw [this] at hk
    exact ret_same hk
  simp (disch := omega) only [go_sem, la, lb]
  unfold Tryz.r71_l4_2
  refine ⟨fun m vs h' => ∃ k : Nat, k ≤ xs.length ∧ m = xs.length - k ∧ h' = h ∧ xs.take k = ys.take k ∧ vs = [.v (.int .i64 k)], xs.length, ⟨0, by omega, rfl, rfl, by simp, rfl⟩, ?_⟩
  rintro m h' hl1 hlow2 n ⟨k, hk1, rfl, rfl, hst, hvs⟩
  simp only [List.cons.injEq, AV.v.injEq, Value.int.injEq, true_and, and_true] at hvs
  obtain rfl := hvs
  by_cases hkl : k < xs.length
  · obtain ⟨x, hx'⟩ : ∃ x, xs[k]? = some x := ⟨_, List.getElem?_eq_getElem hkl⟩
    obtain ⟨y, hy'⟩ : ∃ y, ys[k]? = some y := ⟨_, List.getElem?_eq_getElem (by omega)⟩
    obtain ⟨q, q1, q2, _⟩ := ha.iaAll (P := Tryz.prog) (ty := 31) (k := .i64) (i := k) (r := irow x) Tryz.und31 Tryz.siz3 (by omega) (by simp [hx'])
    obtain ⟨p, p1, p2, _⟩ := hb.iaAll (P := Tryz.prog) (ty := 31) (k := .i64) (i := k) (r := irow y) Tryz.und31 Tryz.siz3 (by omega) (by simp [hy'])
    have q1 := q1 []
    have q2 := q2 []
    have p1 := p1 []
    have p2 := p2 []
    rw [List.append_nil] at q1 q2 p1 p2
    by_cases hxy : x = y
    · simp (disch := omega) only [go_sem, la, lb, q1, q2, p1, p2, hxy]
      refine next_keep (xs.length - (k + 1)) (by omega) (Nat.le_refl _) ⟨k + 1, by omega, rfl, rfl, ?_, by simp⟩
      rw [List.take_add_one, List.take_add_one, hst, hx', hy', hxy]
    · simp (disch := omega) only [go_sem, la, lb, q1, q2, p1, p2, hxy]
      have : (xs == ys) = false := by
        simp
        rintro rfl
        rw [hx'] at hy'
        exact hxy (Option.some.inj hy')
      rw [this] at hk
      exact ret_same hk
  · simp (disch := omega) only [go_sem, la, lb]
    have : (xs == ys) = true := by
      rw [List.take_of_length_le (by omega), List.take_of_length_le (by omega)] at hst
      simp [hst]
    rw [this] at hk
    exact ret_same hk
end Go.Proofs

/-
  Contracts: which layouts and changes may be.
-/
namespace Go.Proofs
open Go Go.Abs
set_option maxRecDepth 100000
set_option linter.unusedSimpArgs false
/-- Weights, in whatever slice. -/
structure Wt (h : AH) (W : AV) (ws : List Int) : Prop where
  ints : Ints h W ws
  one : W.one = true
  cells : W.cells = [W]
theorem Wt.app {h : AH} {W : AV} {ws : List Int} (w : Wt h W ws) (t : AH) : Wt (h ++ t) W ws := ⟨w.ints.app t, w.one, w.cells⟩
theorem Wt.nil {h : AH} : Wt h (.v (.slice none 0 0)) [] := ⟨Sees.nil, rfl, rfl⟩
structure Lay where
  ver : Int
  wts : List Int
structure Chg where
  was : Lay
  will : Lay
  cur : List UInt8
  fin : Bool
def Lay.ok (l : Lay) : Bool := decide (1 ≤ l.ver) && decide (l.ver ≤ 1073741824) && ringOk l.wts
abbrev Lay.cells (l : Lay) (W : AV) : List AV := [.v (.int .i64 l.ver), W]
abbrev Chg.cells (c : Chg) (W1 W2 : AV) : List AV := [.v (.int .i64 c.was.ver), W1, .v (.int .i64 c.will.ver), W2, .v (.string (bs c.cur)), .v (.bool c.fin)]
def Chg.ok (c : Chg) : Bool := c.was.ok && c.will.ok && decide (c.will.ver = c.was.ver + 1) && decide (c.was.wts.length ≤ c.will.wts.length) && decide (c.cur.length ≤ 64) && !(c.fin && decide (c.cur ≠ []))
theorem layCheck_call (G : Nat → Option AV) (l : Lay) (W : AV) (h : AH) (K : AV → AH → Prop) (ha : Wt h W l.wts) (hl : l.wts.length ≤ 4611686018427387904)
    (hk : K (.v (.int .i64 (if l.ok then 0 else 70))) h) : SCall Tryz.prog G 80 [.agg (l.cells W)] h K := by
  refine Tryz.c80 G _ h K fun hlow => ?_
  unfold Tryz.r80
  have w1 := ha.one
  have w2 := ha.cells
  unfold Lay.ok at hk
  by_cases h1 : l.ver < 1
  · simp (disch := omega) only [go_sem, w1, w2, h1]
    simp only [show ¬ 1 ≤ l.ver by omega, decide_false, Bool.false_and, Bool.false_eq_true, if_false] at hk
    exact ret_tail hlow .v hk
  by_cases h2 : l.ver > 1073741824
  · simp (disch := omega) only [go_sem, w1, w2, h1, h2]
    simp only [show ¬ l.ver ≤ 1073741824 by omega, decide_false, Bool.and_false, Bool.false_and, Bool.false_eq_true, if_false] at hk
    exact ret_tail hlow .v hk
  simp only [show 1 ≤ l.ver by omega, show l.ver ≤ 1073741824 by omega, decide_true, Bool.true_and] at hk
  simp (disch := omega) only [go_sem, w1, w2, h1, h2]
  refine ⟨ringCheck_call G W l.wts _ _ (ha.ints.app _) hl ?_⟩
  cases hr : ringOk l.wts with
  | true =>
    rw [hr] at hk
    simp (disch := omega) only [go_sem, if_true]
    exact ret_tail hlow .v hk
  | false =>
    rw [hr] at hk
    simp (disch := omega) only [go_sem, if_false, Bool.false_eq_true]
    exact ret_tail hlow .v hk
theorem neqStand (a b : ByteArray) (x y : Bool) : aBin Tryz.prog .neq 273 (.agg [.v (.string a), .v (.bool x)]) (.agg [.v (.string b), .v (.bool y)]) = some (.v (.bool (!(a.toList == b.toList && (x == y && true))))) := by kernel_rfl
theorem layVer {l : Lay} (h : l.ok = true) : 1 ≤ l.ver ∧ l.ver ≤ 1073741824 ∧ ringOk l.wts = true := by
  unfold Lay.ok at h
  simp only [Bool.and_eq_true, decide_eq_true_eq] at h
  exact ⟨h.1.1, h.1.2, h.2⟩
theorem chgCheck_call (G : Nat → Option AV) (c : Chg) (W1 W2 : AV) (h : AH) (K : AV → AH → Prop) (k1 : Wt h W1 c.was.wts) (k2 : Wt h W2 c.will.wts) (hl1 : c.was.wts.length ≤ 4611686018427387904) (hl2 : c.will.wts.length ≤ 4611686018427387904) (hcl : c.cur.length ≤ 4611686018427387904)
    (hk : K (.v (.int .i64 (if c.ok then 0 else 70))) h) : SCall Tryz.prog G 107 [.agg (c.cells W1 W2)] h K := by
  refine Tryz.c107 G _ h K fun hlow => ?_
  unfold Tryz.r107
  unfold Chg.ok at hk
  simp (disch := omega) only [go_sem, k1.one, k2.one, k1.cells, k2.cells]
  refine ⟨layCheck_call G c.was W1 _ _ (k1.app _) (by omega) ?_⟩
  cases h1 : c.was.ok with
  | false =>
    simp (disch := omega) only [go_sem, if_false, Bool.false_eq_true]
    simp only [h1, Bool.false_and, Bool.false_eq_true, if_false] at hk
    exact ret_tail hlow .v hk
  | true =>
  have hv := layVer h1
  simp (disch := omega) only [go_sem, if_true]
  refine ⟨layCheck_call G c.will W2 _ _ (k2.app _) (by omega) ?_⟩
  cases h2 : c.will.ok with
  | false =>
    simp (disch := omega) only [go_sem, if_false, Bool.false_eq_true]
    simp only [h1, h2, Bool.false_and, Bool.and_false, Bool.false_eq_true, if_false] at hk
    exact ret_tail hlow .v hk
  | true =>
  have m1 : ∀ t, aLen Tryz.prog (h ++ t) 31 W1 = some (.v (.int .i64 c.was.wts.length)) := fun t => by
    have := ((k1.app t).ints).len (P := Tryz.prog) (t := 31) Tryz.und31
    rw [List.length_map] at this
    exact this
  have m2 : ∀ t, aLen Tryz.prog (h ++ t) 31 W2 = some (.v (.int .i64 c.will.wts.length)) := fun t => by
    have := ((k2.app t).ints).len (P := Tryz.prog) (t := 31) Tryz.und31
    rw [List.length_map] at this
    exact this
  simp only [h1, h2, Bool.true_and] at hk
  by_cases h3 : c.will.ver = c.was.ver + 1
  rotate_left
  · simp (disch := omega) only [go_sem, if_true, Nat.one_ne_zero, if_false, h3, m1, m2]
    simp only [h3, decide_false, Bool.false_and, Bool.false_eq_true, if_false] at hk
    exact ret_tail hlow .v hk
  by_cases h4 : c.was.wts.length ≤ c.will.wts.length
  rotate_left
  · simp (disch := omega) only [go_sem, if_true, Nat.one_ne_zero, if_false, h3, m1, m2]
    simp only [h4, decide_false, Bool.false_and, Bool.and_false, Bool.false_eq_true, if_false] at hk
    exact ret_tail hlow .v hk
  simp only [h3, h4, decide_true, Bool.true_and] at hk
  by_cases h5 : c.cur.length ≤ 64
  rotate_left
  · simp (disch := omega) only [go_sem, if_true, Nat.one_ne_zero, if_false, h3, m1, m2]
    simp only [h5, decide_false, Bool.false_and, Bool.and_false, Bool.false_eq_true, if_false] at hk
    exact ret_tail hlow .v hk
  simp only [h5, decide_true, Bool.true_and] at hk
  cases hf : c.fin with
  | false =>
    simp (disch := omega) only [go_sem, if_true, Nat.one_ne_zero, if_false, h3, m1, m2, hf]
    simp only [hf, Bool.false_and, Bool.not_false, if_true] at hk
    exact ret_tail hlow .v hk
  | true =>
    have e0 : (ByteArray.mk #[]) = bs [] := rfl
    by_cases hc : c.cur = []
    · simp (disch := omega) only [go_sem, if_true, Nat.one_ne_zero, if_false, h3, m1, m2, hf, e0, neqStand, hc, bs_toList]
      simp only [hf, hc, ne_eq, not_true_eq_false, decide_false, Bool.and_false, Bool.not_false, if_true] at hk
      simp only [beq_self_eq_true, Bool.and_self, Bool.not_true]
      simp (disch := omega) only [go_sem]
      exact ret_tail hlow .v hk
    · simp (disch := omega) only [go_sem, if_true, Nat.one_ne_zero, if_false, h3, m1, m2, hf, e0, neqStand, bs_toList]
      have hcb : (c.cur == []) = false := by simpa using hc
      simp only [hf, hc, ne_eq, not_false_eq_true, decide_true, Bool.and_true, Bool.not_true, if_false, Bool.false_eq_true] at hk
      simp only [hcb, Bool.false_and, Bool.not_false]
      simp (disch := omega) only [go_sem]
      exact ret_tail hlow .v hk
end Go.Proofs

/-
  Contracts: a key's owner; another cursor; the end; layouts that are the same.
-/
namespace Go.Proofs
open Go Go.Abs
set_option maxRecDepth 100000
set_option linter.unusedSimpArgs false
def Chg.owner (c : Chg) (key : List UInt8) : Int := if c.fin = true ∨ Op.bytesLess key c.cur = true then ofK Lib.itoa c.will.wts key else ofK Lib.itoa c.was.wts key
theorem chgOk_out {c : Chg} (h : c.ok = true) : c.was.ok = true ∧ c.will.ok = true ∧ c.will.ver = c.was.ver + 1 ∧ c.was.wts.length ≤ c.will.wts.length ∧ c.cur.length ≤ 64 ∧ (c.fin = true → c.cur = []) := by
  unfold Chg.ok at h
  simp only [Bool.and_eq_true, decide_eq_true_eq, Bool.not_eq_true', Bool.and_eq_false_iff, decide_eq_false_iff_not, ne_eq, Classical.not_not] at h
  obtain ⟨⟨⟨⟨⟨h1, h2⟩, h3⟩, h4⟩, h5⟩, h6⟩ := h
  exact ⟨h1, h2, h3, h4, h5, fun hf => h6.resolve_left (by rw [hf]; simp)⟩
theorem lowInts (n : Nat) (a b : Int) : Low n (.tup [.v (.int .i64 a), .v (.int .i64 b)]) := .tup (by intro v hv; simp at hv; rcases hv with rfl | rfl <;> exact .v)
theorem Owner_call (G : Nat → Option AV) (hG : GTab G) (c : Chg) (key : List UInt8) (W1 W2 : AV) (h : AH) (K : AV → AH → Prop) (k1 : Wt h W1 c.was.wts) (k2 : Wt h W2 c.will.wts) (hl1 : c.was.wts.length ≤ 4611686018427387904) (hl2 : c.will.wts.length ≤ 4611686018427387904) (hcl : c.cur.length ≤ 4611686018427387904) (hkl : key.length ≤ 4611686018427387904)
    (hk : K (.tup [.v (.int .i64 (if c.ok then c.owner key else 0)), .v (.int .i64 (if c.ok then 0 else 70))]) h) : SCall Tryz.prog G 72 [.agg (c.cells W1 W2), .v (.string (bs key))] h K := by
  refine Tryz.c72 G _ _ h K fun hlow => ?_
  unfold Tryz.r72
  simp (disch := omega) only [go_sem, k1.one, k2.one, k1.cells, k2.cells]
  refine ⟨chgCheck_call G c W1 W2 _ _ (k1.app _) (k2.app _) hl1 hl2 hcl ?_⟩
  cases ho : c.ok with
  | false =>
    rw [ho] at hk
    simp (disch := omega) only [go_sem, if_false, Bool.false_eq_true]
    exact ret_tail hlow (lowInts _ _ _) hk
  | true =>
    rw [ho] at hk
    obtain ⟨o1, o2, _⟩ := chgOk_out ho
    have r1 := (layVer o1).2.2
    have r2 := (layVer o2).2.2
    simp only [if_true] at hk
    unfold Chg.owner at hk
    cases hf : c.fin with
    | true =>
      rw [hf] at hk
      simp only [true_or, if_true] at hk
      simp (disch := omega) only [go_sem, if_true, hf, k1.one, k2.one, k1.cells, k2.cells]
      unfold Tryz.r72_j12
      simp (disch := omega) only [go_sem, k1.one, k2.one, k1.cells, k2.cells]
      refine ⟨Of_call G hG W2 c.will.wts key _ _ (k2.app _).ints hl2 hkl ?_⟩
      simp (disch := omega) only [go_sem, r2, if_true]
      exact ret_tail hlow (lowInts _ _ _) hk
    | false =>
      rw [hf] at hk
      cases hb : Op.bytesLess key c.cur with
      | true =>
        simp only [hb, or_true, if_true] at hk
        simp (disch := omega) only [go_sem, if_true, hf, bs_toList, hb, k1.one, k2.one, k1.cells, k2.cells]
        unfold Tryz.r72_j12
        simp (disch := omega) only [go_sem, k1.one, k2.one, k1.cells, k2.cells]
        refine ⟨Of_call G hG W2 c.will.wts key _ _ (k2.app _).ints hl2 hkl ?_⟩
        simp (disch := omega) only [go_sem, r2, if_true]
        exact ret_tail hlow (lowInts _ _ _) hk
      | false =>
        simp only [hb, or_self, Bool.false_eq_true, if_false] at hk
        simp (disch := omega) only [go_sem, if_true, hf, bs_toList, hb, k1.one, k2.one, k1.cells, k2.cells]
        unfold Tryz.r72_j12
        simp (disch := omega) only [go_sem, k1.one, k2.one, k1.cells, k2.cells]
        refine ⟨Of_call G hG W1 c.was.wts key _ _ (k1.app _).ints hl1 hkl ?_⟩
        simp (disch := omega) only [go_sem, r1, if_true]
        exact ret_tail hlow (lowInts _ _ _) hk
def zeroChg : Chg := ⟨⟨0, []⟩, ⟨0, []⟩, [], false⟩
/-- A change with another cursor. -/
def Chg.to (c : Chg) (s : List UInt8) : Int × Option Chg :=
  if c.ok = false then (70, none) else if c.fin = true ∨ Op.bytesLess s c.cur = true ∨ s.length > 64 then (1, none) else (0, some { c with cur := s })
abbrev nilA : AV := .v (.slice none 0 0)
theorem To_call (G : Nat → Option AV) (c : Chg) (s : List UInt8) (W1 W2 : AV) (h : AH) (K : AV → AH → Prop) (k1 : Wt h W1 c.was.wts) (k2 : Wt h W2 c.will.wts) (hl1 : c.was.wts.length ≤ 4611686018427387904) (hl2 : c.will.wts.length ≤ 4611686018427387904) (hcl : c.cur.length ≤ 4611686018427387904) (hsl : s.length ≤ 4611686018427387904)
    (hk1 : ∀ e t, c.to s = (e, none) → e ≠ 0 → K (.tup [.agg (zeroChg.cells nilA nilA), .v (.int .i64 e)]) (h ++ t))
    (hk2 : ∀ c' t, c.to s = (0, some c') → K (.tup [.agg (c'.cells W1 W2), .v (.int .i64 0)]) (h ++ t)) : SCall Tryz.prog G 200 [.agg (c.cells W1 W2), .v (.string (bs s))] h K := by
  refine Tryz.c200 G _ _ h K fun hlow => ?_
  unfold Tryz.r200
  simp (disch := omega) only [go_sem, k1.one, k2.one, k1.cells, k2.cells]
  refine ⟨chgCheck_call G c W1 W2 _ _ (k1.app _) (k2.app _) hl1 hl2 hcl ?_⟩
  unfold Chg.to at hk1 hk2
  cases ho : c.ok with
  | false =>
    rw [ho] at hk1
    simp (disch := omega) only [go_sem, if_false, Bool.false_eq_true]
    exact ret_keep (hk1 _ _ rfl (by decide))
  | true =>
    rw [ho] at hk1 hk2
    simp only [Bool.true_eq_false, if_false] at hk1 hk2
    cases hf : c.fin with
    | true =>
      rw [if_pos (.inl hf)] at hk1
      simp (disch := omega) only [go_sem, if_true, hf]
      exact ret_keep (hk1 _ _ rfl (by decide))
    | false =>
    cases hb : Op.bytesLess s c.cur with
    | true =>
      rw [if_pos (.inr (.inl hb))] at hk1
      simp (disch := omega) only [go_sem, if_true, hf, bs_toList, hb]
      exact ret_keep (hk1 _ _ rfl (by decide))
    | false =>
    by_cases h64 : s.length > 64
    · rw [if_pos (.inr (.inr h64))] at hk1
      simp (disch := omega) only [go_sem, if_true, hf, bs_toList, hb]
      exact ret_keep (hk1 _ _ rfl (by decide))
    · rw [if_neg (by simp [hf, hb, h64])] at hk2
      simp (disch := omega) only [go_sem, if_true, hf, bs_toList, hb]
      have := fun t => hk2 _ t rfl
      unfold Chg.cells at this
      rw [hf] at this
      exact ret_keep (this _)
theorem End_call (G : Nat → Option AV) (c : Chg) (W1 W2 : AV) (h : AH) (K : AV → AH → Prop) (k1 : Wt h W1 c.was.wts) (k2 : Wt h W2 c.will.wts) (hl1 : c.was.wts.length ≤ 4611686018427387904) (hl2 : c.will.wts.length ≤ 4611686018427387904) (hcl : c.cur.length ≤ 4611686018427387904)
    (hk : ∀ t, K (.tup [.agg (if c.ok && c.fin then c.will.cells W2 else Lay.cells ⟨0, []⟩ nilA), .v (.int .i64 (if c.ok then if c.fin then 0 else 1 else 70))]) (h ++ t)) : SCall Tryz.prog G 45 [.agg (c.cells W1 W2)] h K := by
  refine Tryz.c45 G _ h K fun hlow => ?_
  unfold Tryz.r45
  simp (disch := omega) only [go_sem, k1.one, k2.one, k1.cells, k2.cells]
  refine ⟨chgCheck_call G c W1 W2 _ _ (k1.app _) (k2.app _) hl1 hl2 hcl ?_⟩
  cases ho : c.ok with
  | false =>
    simp only [ho, Bool.false_and, Bool.false_eq_true, if_false] at hk
    simp (disch := omega) only [go_sem, if_false, Bool.false_eq_true]
    exact ret_keep (hk _)
  | true =>
    cases hf : c.fin with
    | false =>
      simp only [ho, hf, Bool.and_false, Bool.false_eq_true, if_false, if_true] at hk
      simp (disch := omega) only [go_sem, if_true, hf, Bool.not_false]
      exact ret_keep (hk _)
    | true =>
      simp only [ho, hf, Bool.and_self, if_true] at hk
      simp (disch := omega) only [go_sem, if_true, hf, Bool.not_true, k1.one, k2.one, k1.cells, k2.cells]
      exact ret_keep (hk _)
theorem slEqual_call (G : Nat → Option AV) (a b : AV) (xs ys : List Int) (h : AH) (K : AV → AH → Prop) (ha : Ints h a xs) (hb : Ints h b ys) (hx : xs.length ≤ 4611686018427387904) (hk : K (.v (.bool (xs == ys))) h) : SCall Tryz.prog G 112 [a, b] h K := by
  refine Tryz.c112 G _ _ h K fun hlow => ?_
  unfold Tryz.r112
  have la := ha.len (P := Tryz.prog) (t := 31) Tryz.und31
  have lb := hb.len (P := Tryz.prog) (t := 31) Tryz.und31
  rw [List.length_map] at la lb
  by_cases hlen : xs.length = ys.length
  rotate_left
  · have e : ¬ ((xs.length : Int) = (ys.length : Int)) := by omega
    simp (disch := omega) only [go_sem, la, lb, e]
    have : (xs == ys) = false := by
      simp
      rintro rfl
      exact hlen rfl
    rw [this] at hk
    exact ret_same hk
  simp (disch := omega) only [go_sem, la, lb]
  unfold Tryz.r112_l4_3
  refine ⟨fun m vs h' => ∃ k : Nat, k ≤ xs.length ∧ m = xs.length - k ∧ h' = h ∧ xs.take k = ys.take k ∧ vs = [.v (.int .i64 k)], xs.length, ⟨0, by omega, rfl, rfl, by simp, rfl⟩, ?_⟩
  rintro m h' hl1 hlow2 n ⟨k, hk1, rfl, rfl, hst, hvs⟩
  simp only [List.cons.injEq, AV.v.injEq, Value.int.injEq, true_and, and_true] at hvs
  obtain rfl := hvs
  by_cases hkl : k < xs.length
  · obtain ⟨x, hx'⟩ : ∃ x, xs[k]? = some x := ⟨_, List.getElem?_eq_getElem hkl⟩
    obtain ⟨y, hy'⟩ : ∃ y, ys[k]? = some y := ⟨_, List.getElem?_eq_getElem (by omega)⟩
    obtain ⟨q, q1, q2, _⟩ := ha.iaAll (P := Tryz.prog) (ty := 31) (k := .i64) (i := k) (r := irow x) Tryz.und31 Tryz.siz3 (by omega) (by simp [hx'])
    obtain ⟨p, p1, p2, _⟩ := hb.iaAll (P := Tryz.prog) (ty := 31) (k := .i64) (i := k) (r := irow y) Tryz.und31 Tryz.siz3 (by omega) (by simp [hy'])
    have q1 := q1 []
    have q2 := q2 []
    have p1 := p1 []
    have p2 := p2 []
    rw [List.append_nil] at q1 q2 p1 p2
    by_cases hxy : x = y
    · simp (disch := omega) only [go_sem, la, lb, q1, q2, p1, p2, hxy]
      refine next_keep (xs.length - (k + 1)) (by omega) (Nat.le_refl _) ⟨k + 1, by omega, rfl, rfl, ?_, by simp⟩
      rw [List.take_add_one, List.take_add_one, hst, hx', hy', hxy]
    · simp (disch := omega) only [go_sem, la, lb, q1, q2, p1, p2, hxy]
      have : (xs == ys) = false := by
        simp
        rintro rfl
        rw [hx'] at hy'
        exact hxy (Option.some.inj hy')
      rw [this] at hk
      exact ret_same hk
  · simp (disch := omega) only [go_sem, la, lb]
    have : (xs == ys) = true := by
      rw [List.take_of_length_le (by omega), List.take_of_length_le (by omega)] at hst
      simp [hst]
    rw [this] at hk
    exact ret_same hk
def Lay.same (a b : Lay) : Bool := decide (a.ver = b.ver) && (a.wts == b.wts)
theorem Equal_call (G : Nat → Option AV) (a b : Lay) (A B : AV) (h : AH) (K : AV → AH → Prop) (k1 : Wt h A a.wts) (k2 : Wt h B b.wts) (hl1 : a.wts.length ≤ 4611686018427387904) (hk : K (.v (.bool (a.same b))) h) : SCall Tryz.prog G 46 [.agg (a.cells A), .agg (b.cells B)] h K := by
  refine Tryz.c46 G _ _ h K fun hlow => ?_
  unfold Tryz.r46
  unfold Lay.same at hk
  by_cases hv : a.ver = b.ver
  · simp (disch := omega) only [go_sem, k1.one, k2.one, k1.cells, k2.cells, hv, Nat.reduceAdd]
    refine ⟨slEqual_call G A B a.wts b.wts _ _ (k1.app _).ints (k2.app _).ints hl1 ?_⟩
    simp (disch := omega) only [go_sem]
    rw [decide_eq_true hv, Bool.true_and] at hk
    exact ret_tail hlow .v hk
  · simp (disch := omega) only [go_sem, k1.one, k2.one, k1.cells, k2.cells, hv, Nat.reduceAdd]
    rw [decide_eq_false hv, Bool.false_and] at hk
    exact ret_tail hlow .v hk
end Go.Proofs

/-
  Contracts: the reference's layouts and changes.
-/
namespace Go.Proofs
open Go Go.Abs
set_option maxRecDepth 100000
set_option linter.unusedSimpArgs false
theorem refLayMay_call (G : Nat → Option AV) (l : Lay) (W : AV) (h : AH) (K : AV → AH → Prop) (ha : Wt h W l.wts) (hl : l.wts.length ≤ 4611686018427387904)
    (hk : K (.v (.bool l.ok)) h) : SCall Tryz.prog G 125 [.agg (l.cells W)] h K := by
  refine Tryz.c125 G _ h K fun hlow => ?_
  unfold Tryz.r125
  have w1 := ha.one
  have w2 := ha.cells
  unfold Lay.ok at hk
  by_cases h1 : l.ver < 1
  · simp (disch := omega) only [go_sem, w1, w2]
    simp only [show ¬ 1 ≤ l.ver by omega, decide_false, Bool.false_and] at hk
    exact ret_tail hlow .v hk
  by_cases h2 : l.ver > 1073741824
  · simp (disch := omega) only [go_sem, w1, w2]
    simp only [show ¬ l.ver ≤ 1073741824 by omega, decide_false, Bool.and_false, Bool.false_and] at hk
    exact ret_tail hlow .v hk
  simp only [show 1 ≤ l.ver by omega, show l.ver ≤ 1073741824 by omega, decide_true, Bool.true_and] at hk
  simp (disch := omega) only [go_sem, w1, w2]
  refine ⟨May_call G W l.wts _ _ (ha.ints.app _) hl ?_⟩
  simp (disch := omega) only [go_sem]
  exact ret_tail hlow .v hk
theorem refChgMay_call (G : Nat → Option AV) (c : Chg) (W1 W2 : AV) (h : AH) (K : AV → AH → Prop) (k1 : Wt h W1 c.was.wts) (k2 : Wt h W2 c.will.wts) (hl1 : c.was.wts.length ≤ 4611686018427387904) (hl2 : c.will.wts.length ≤ 4611686018427387904) (hcl : c.cur.length ≤ 4611686018427387904)
    (hk : K (.v (.bool c.ok)) h) : SCall Tryz.prog G 59 [.agg (c.cells W1 W2)] h K := by
  refine Tryz.c59 G _ h K fun hlow => ?_
  unfold Tryz.r59
  unfold Chg.ok at hk
  simp (disch := omega) only [go_sem, k1.one, k2.one, k1.cells, k2.cells]
  refine ⟨refLayMay_call G c.was W1 _ _ (k1.app _) (by omega) ?_⟩
  cases h1 : c.was.ok with
  | false =>
    simp (disch := omega) only [go_sem]
    simp only [h1, Bool.false_and] at hk
    exact ret_tail hlow .v hk
  | true =>
  have hv := layVer h1
  simp (disch := omega) only [go_sem, k1.one, k2.one, k1.cells, k2.cells]
  refine ⟨refLayMay_call G c.will W2 _ _ (k2.app _) (by omega) ?_⟩
  cases h2 : c.will.ok with
  | false =>
    simp (disch := omega) only [go_sem]
    simp only [h1, h2, Bool.false_and, Bool.and_false] at hk
    exact ret_tail hlow .v hk
  | true =>
  have m1 : ∀ t, aLen Tryz.prog (h ++ t) 31 W1 = some (.v (.int .i64 c.was.wts.length)) := fun t => by
    have := ((k1.app t).ints).len (P := Tryz.prog) (t := 31) Tryz.und31
    rw [List.length_map] at this
    exact this
  have m2 : ∀ t, aLen Tryz.prog (h ++ t) 31 W2 = some (.v (.int .i64 c.will.wts.length)) := fun t => by
    have := ((k2.app t).ints).len (P := Tryz.prog) (t := 31) Tryz.und31
    rw [List.length_map] at this
    exact this
  simp only [h1, h2, Bool.true_and] at hk
  by_cases h3 : c.will.ver = c.was.ver + 1
  rotate_left
  · simp (disch := omega) only [go_sem, h3, m1, m2]
    simp only [h3, decide_false, Bool.false_and] at hk
    exact ret_tail hlow .v hk
  by_cases h4 : c.was.wts.length ≤ c.will.wts.length
  rotate_left
  · simp (disch := omega) only [go_sem, h3, m1, m2]
    simp only [h4, decide_false, Bool.false_and, Bool.and_false] at hk
    exact ret_tail hlow .v hk
  simp only [h3, h4, decide_true, Bool.true_and] at hk
  by_cases h5 : c.cur.length ≤ 64
  rotate_left
  · simp (disch := omega) only [go_sem, h3, m1, m2]
    simp only [h5, decide_false, Bool.false_and] at hk
    exact ret_tail hlow .v hk
  simp only [h5, decide_true, Bool.true_and] at hk
  have e0 : (ByteArray.mk #[]) = bs [] := rfl
  cases hf : c.fin with
  | false =>
    simp (disch := omega) only [go_sem, h3, m1, m2, hf, e0]
    simp only [hf, Bool.false_and, Bool.not_false] at hk
    exact ret_tail hlow .v hk
  | true =>
    by_cases hc : c.cur = []
    · simp (disch := omega) only [go_sem, h3, m1, m2, hf, e0, hc, bs_toList, beq_self_eq_true, Bool.not_true, Bool.not_false]
      simp only [hf, hc, ne_eq, not_true_eq_false, decide_false, Bool.and_false, Bool.not_false] at hk
      exact ret_tail hlow .v hk
    · simp (disch := omega) only [go_sem, h3, m1, m2, hf, e0, bs_toList]
      simp only [hf, hc, ne_eq, not_false_eq_true, decide_true, Bool.and_true, Bool.not_true] at hk
      have hc2 : (c.cur == []) = false := by simp [hc]
      rw [hc2]
      exact ret_tail hlow .v hk
theorem refOwner_call (G : Nat → Option AV) (c : Chg) (key : List UInt8) (W1 W2 : AV) (h : AH) (K : AV → AH → Prop) (k1 : Wt h W1 c.was.wts) (k2 : Wt h W2 c.will.wts) (hl1 : c.was.wts.length ≤ 4611686018427387904) (hl2 : c.will.wts.length ≤ 4611686018427387904) (hcl : c.cur.length ≤ 4611686018427387904) (hkl : key.length ≤ 4611686018427387904)
    (hk : K (.tup [.v (.int .i64 (if c.ok then c.owner key else 0)), .v (.int .i64 (if c.ok then 0 else 70))]) h) : SCall Tryz.prog G 73 [.agg (c.cells W1 W2), .v (.string (bs key))] h K := by
  refine Tryz.c73 G _ _ h K fun hlow => ?_
  unfold Tryz.r73
  simp (disch := omega) only [go_sem, k1.one, k2.one, k1.cells, k2.cells]
  refine ⟨refChgMay_call G c W1 W2 _ _ (k1.app _) (k2.app _) hl1 hl2 hcl ?_⟩
  cases ho : c.ok with
  | false =>
    rw [ho] at hk
    simp (disch := omega) only [go_sem, Bool.not_false]
    exact ret_tail hlow (lowInts _ _ _) hk
  | true =>
    rw [ho] at hk
    obtain ⟨o1, o2, _⟩ := chgOk_out ho
    have r1 := (layVer o1).2.2
    have r2 := (layVer o2).2.2
    simp only [if_true] at hk
    unfold Chg.owner at hk
    cases hf : c.fin with
    | true =>
      rw [hf] at hk
      simp only [true_or, if_true] at hk
      simp (disch := omega) only [go_sem, Bool.not_true, hf, k1.one, k2.one, k1.cells, k2.cells]
      refine ⟨refOf_call G W2 c.will.wts key _ _ (k2.app _).ints hl2 hkl ?_⟩
      simp (disch := omega) only [go_sem, r2, if_true]
      exact ret_tail hlow (lowInts _ _ _) hk
    | false =>
      rw [hf] at hk
      cases hb : Op.bytesLess key c.cur with
      | true =>
        simp only [hb, or_true, if_true] at hk
        simp (disch := omega) only [go_sem, Bool.not_true, hf, bs_toList, hb, k1.one, k2.one, k1.cells, k2.cells]
        refine ⟨refOf_call G W2 c.will.wts key _ _ (k2.app _).ints hl2 hkl ?_⟩
        simp (disch := omega) only [go_sem, r2, if_true]
        exact ret_tail hlow (lowInts _ _ _) hk
      | false =>
        simp only [hb, or_self, Bool.false_eq_true, if_false] at hk
        simp (disch := omega) only [go_sem, Bool.not_true, hf, bs_toList, hb, k1.one, k2.one, k1.cells, k2.cells]
        refine ⟨refOf_call G W1 c.was.wts key _ _ (k1.app _).ints hl1 hkl ?_⟩
        simp (disch := omega) only [go_sem, r1, if_true]
        exact ret_tail hlow (lowInts _ _ _) hk
theorem refTo_call (G : Nat → Option AV) (c : Chg) (s : List UInt8) (W1 W2 : AV) (h : AH) (K : AV → AH → Prop) (k1 : Wt h W1 c.was.wts) (k2 : Wt h W2 c.will.wts) (hl1 : c.was.wts.length ≤ 4611686018427387904) (hl2 : c.will.wts.length ≤ 4611686018427387904) (hcl : c.cur.length ≤ 4611686018427387904) (hsl : s.length ≤ 4611686018427387904)
    (hk1 : ∀ e t, c.to s = (e, none) → e ≠ 0 → K (.tup [.agg (zeroChg.cells nilA nilA), .v (.int .i64 e)]) (h ++ t))
    (hk2 : ∀ c' t, c.to s = (0, some c') → K (.tup [.agg (c'.cells W1 W2), .v (.int .i64 0)]) (h ++ t)) : SCall Tryz.prog G 146 [.agg (c.cells W1 W2), .v (.string (bs s))] h K := by
  refine Tryz.c146 G _ _ h K fun hlow => ?_
  unfold Tryz.r146
  simp (disch := omega) only [go_sem, k1.one, k2.one, k1.cells, k2.cells]
  refine ⟨refChgMay_call G c W1 W2 _ _ (k1.app _) (k2.app _) hl1 hl2 hcl ?_⟩
  unfold Chg.to at hk1 hk2
  cases ho : c.ok with
  | false =>
    rw [ho] at hk1
    simp (disch := omega) only [go_sem, Bool.not_false]
    exact ret_keep (hk1 _ _ rfl (by decide))
  | true =>
    rw [ho] at hk1 hk2
    simp only [Bool.true_eq_false, if_false] at hk1 hk2
    cases hf : c.fin with
    | true =>
      rw [if_pos (.inl hf)] at hk1
      simp (disch := omega) only [go_sem, Bool.not_true, hf]
      exact ret_keep (hk1 _ _ rfl (by decide))
    | false =>
    cases hb : Op.bytesLess s c.cur with
    | true =>
      rw [if_pos (.inr (.inl hb))] at hk1
      simp (disch := omega) only [go_sem, Bool.not_true, hf, bs_toList, hb]
      exact ret_keep (hk1 _ _ rfl (by decide))
    | false =>
    by_cases h64 : s.length > 64
    · rw [if_pos (.inr (.inr h64))] at hk1
      simp (disch := omega) only [go_sem, Bool.not_true, hf, bs_toList, hb]
      exact ret_keep (hk1 _ _ rfl (by decide))
    · rw [if_neg (by simp [hf, hb, h64])] at hk2
      simp (disch := omega) only [go_sem, Bool.not_true, hf, bs_toList, hb]
      have := fun t => hk2 _ t rfl
      unfold Chg.cells at this
      rw [hf] at this
      exact ret_keep (this _)
theorem refEqual_call (G : Nat → Option AV) (a b : Lay) (A B : AV) (h : AH) (K : AV → AH → Prop) (k1 : Wt h A a.wts) (k2 : Wt h B b.wts) (hl1 : a.wts.length ≤ 4611686018427387904) (hk : K (.v (.bool (a.same b))) h) : SCall Tryz.prog G 118 [.agg (a.cells A), .agg (b.cells B)] h K := by
  refine Tryz.c118 G _ _ h K fun hlow => ?_
  unfold Tryz.r118
  unfold Lay.same at hk
  have la : ∀ t, aLen Tryz.prog (h ++ t) 31 A = some (.v (.int .i64 a.wts.length)) := fun t => by
    have := ((k1.app t).ints).len (P := Tryz.prog) (t := 31) Tryz.und31
    rw [List.length_map] at this
    exact this
  have lb : ∀ t, aLen Tryz.prog (h ++ t) 31 B = some (.v (.int .i64 b.wts.length)) := fun t => by
    have := ((k2.app t).ints).len (P := Tryz.prog) (t := 31) Tryz.und31
    rw [List.length_map] at this
    exact this
  by_cases hv : a.ver = b.ver
  rotate_left
  · simp (disch := omega) only [go_sem, k1.one, k2.one, k1.cells, k2.cells, hv, Nat.reduceAdd]
    rw [decide_eq_false hv, Bool.false_and] at hk
    exact ret_tail hlow .v hk
  by_cases hlen : a.wts.length = b.wts.length
  rotate_left
  · simp (disch := omega) only [go_sem, k1.one, k2.one, k1.cells, k2.cells, hv, Nat.reduceAdd, la, lb]
    have e : (a.wts == b.wts) = false := by
      simp
      intro he
      exact hlen (by rw [he])
    rw [e, Bool.and_false] at hk
    exact ret_tail hlow .v hk
  simp (disch := omega) only [go_sem, k1.one, k2.one, k1.cells, k2.cells, hv, Nat.reduceAdd, la, lb]
  rw [decide_eq_true hv, Bool.true_and] at hk
  unfold Tryz.r118_l4_21
  generalize ht : [some (AO.cells 47 2 [a.cells A] 0), some (AO.cells 47 2 [b.cells B] 0)] = t
  have g0 : (h ++ t)[h.length]? = some (some (AO.cells 47 2 [a.cells A] 0)) := by rw [← ht]; simp
  have g1 : (h ++ t)[h.length + 1]? = some (some (AO.cells 47 2 [b.cells B] 0)) := by rw [← ht]; simp
  have la := la t
  have lb := lb t
  have ha := (k1.app t).ints
  have hb := (k2.app t).ints
  refine ⟨fun m vs h' => ∃ k : Nat, k ≤ a.wts.length ∧ m = a.wts.length - k ∧ h' = h ++ t ∧ a.wts.take k = b.wts.take k ∧ vs = [.v (.int .i64 k)], a.wts.length, ⟨0, by omega, rfl, rfl, by simp, rfl⟩, ?_⟩
  rintro m h' hl1 hlow2 n ⟨k, hk1, rfl, rfl, hst, hvs⟩
  simp only [List.cons.injEq, AV.v.injEq, Value.int.injEq, true_and, and_true] at hvs
  obtain rfl := hvs
  by_cases hkl : k < a.wts.length
  · obtain ⟨x, hx'⟩ : ∃ x, a.wts[k]? = some x := ⟨_, List.getElem?_eq_getElem hkl⟩
    obtain ⟨y, hy'⟩ : ∃ y, b.wts[k]? = some y := ⟨_, List.getElem?_eq_getElem (by omega)⟩
    obtain ⟨q, q1, q2, _⟩ := ha.iaAll (P := Tryz.prog) (ty := 31) (k := .i64) (i := k) (r := irow x) Tryz.und31 Tryz.siz3 (by omega) (by simp [hx'])
    obtain ⟨p, p1, p2, _⟩ := hb.iaAll (P := Tryz.prog) (ty := 31) (k := .i64) (i := k) (r := irow y) Tryz.und31 Tryz.siz3 (by omega) (by simp [hy'])
    have q1 := q1 []
    have q2 := q2 []
    have p1 := p1 []
    have p2 := p2 []
    rw [List.append_nil] at q1 q2 p1 p2
    by_cases hxy : x = y
    · simp (disch := omega) only [go_sem, g0, g1, k1.one, k2.one, k1.cells, k2.cells, la, lb, q1, q2, p1, p2, hxy]
      refine next_keep (a.wts.length - (k + 1)) (by omega) (Nat.le_refl _) ⟨k + 1, by omega, rfl, rfl, ?_, by simp⟩
      rw [List.take_add_one, List.take_add_one, hst, hx', hy', hxy]
    · simp (disch := omega) only [go_sem, g0, g1, k1.one, k2.one, k1.cells, k2.cells, la, lb, q1, q2, p1, p2, hxy]
      have : (a.wts == b.wts) = false := by
        simp
        intro he
        rw [he] at hx'
        rw [hx'] at hy'
        exact hxy (Option.some.inj hy')
      rw [this] at hk
      exact ret_tail hlow .v hk
  · simp (disch := omega) only [go_sem, g0, g1, k1.one, k2.one, k1.cells, k2.cells, la, lb]
    have : (a.wts == b.wts) = true := by
      rw [List.take_of_length_le (by omega), List.take_of_length_le (by omega)] at hst
      simp [hst]
    rw [this] at hk
    exact ret_tail hlow .v hk
end Go.Proofs

/-
  Layouts and changes: the laws' own helpers, the chapter's example, arguments.
-/
namespace Go.Proofs
open Go Go.Abs
set_option maxRecDepth 100000
set_option linter.unusedSimpArgs false
/-- A heap that has grown. -/
structure Grew (h h' : AH) : Prop where
  ex : ∃ t, h' = h ++ t
theorem Grew.app {h : AH} (t : AH) : Grew h (h ++ t) := ⟨t, rfl⟩
theorem Grew.len {h h' : AH} (g : Grew h h') : h.length ≤ h'.length := by obtain ⟨t, rfl⟩ := g.ex; simp
theorem Grew.lt {h h' : AH} (g : Grew h h') {i : Nat} {o : Option AO} (ho : h[i]? = some o) : i < h'.length := Nat.lt_of_lt_of_le (List.getElem?_eq_some_iff.mp ho).1 g.len
theorem Grew.get {h h' : AH} (g : Grew h h') {i : Nat} {o : Option AO} (ho : h[i]? = some o) : h'[i]? = some o := by
  obtain ⟨t, rfl⟩ := g.ex
  rw [List.getElem?_append_left (List.getElem?_eq_some_iff.mp ho).1]; exact ho
theorem Grew.wt {h h' : AH} (g : Grew h h') {W : AV} {ws : List Int} (w : Wt h W ws) : Wt h' W ws := by obtain ⟨t, rfl⟩ := g.ex; exact w.app t
theorem Grew.ret {h0 h h' : AH} (g : Grew h h') {v : AV} {K : AV → AH → Prop} (hl : LowH h.length h) (hlow : Low h.length v) (hk : K v h) (e : h0 = h) : RetR h0 K v h' := by
  subst e; obtain ⟨t, rfl⟩ := g.ex; exact ret_tail hl hlow hk
theorem Grew.trans {h h' h'' : AH} (g : Grew h h') (k : Grew h' h'') : Grew h h'' := by
  obtain ⟨t, rfl⟩ := g.ex; obtain ⟨u, rfl⟩ := k.ex; exact ⟨t ++ u, by simp⟩
theorem Grew.gets {h h' : AH} (g : Grew h h') {i : Nat} {o : Option AO} (ho : h[i]? = some o) : ∀ u, (h' ++ u)[i]? = some o := fun u => (g.trans (.app u)).get ho
theorem Grew.set {h h' : AH} (g : Grew h h') {i : Nat} {o : Option AO} (hi : h.length ≤ i) : Grew h (h'.set i o) := by
  obtain ⟨t, rfl⟩ := g.ex
  exact ⟨t.set (i - h.length) o, by rw [List.set_append, if_neg (by omega)]⟩
theorem Grew.cons {h : AH} {a : Option AO} {t : AH} : Grew h (h ++ a :: t) := ⟨_, rfl⟩
theorem buildTheirs {a b c d s x : AV} {y : ByteArray} {z : Bool} (h1 : s = .v (.string y)) (h2 : x = .v (.bool z)) :
    aBuild Tryz.prog 94 [(0, some (.agg [a, b])), (1, some (.agg [c, d])), (2, some s), (3, some x)] = some (.agg [a, b, c, d, s, x]) := by
  subst h1 h2
  unfold aBuild
  have hz : zer Tryz.prog 94 = some (.agg [.v (.int .i64 0), .v (.slice none 0 0), .v (.int .i64 0), .v (.slice none 0 0), .v (.string (ByteArray.mk #[])), .v (.bool false)]) := by kernel_rfl
  rw [hz, Tryz.und94]
  simp [aFill, placeOf, setAt, chk, AV.one, AV.cells, Tryz.siz47, Tryz.siz4, Tryz.siz9]
theorem buildOurs {a b c d s x : AV} {y : ByteArray} {z : Bool} (h1 : s = .v (.string y)) (h2 : x = .v (.bool z)) :
    aBuild Tryz.prog 113 [(0, some (.agg [a, b])), (1, some (.agg [c, d])), (2, some s), (3, some x)] = some (.agg [a, b, c, d, s, x]) := by
  subst h1 h2
  unfold aBuild
  have hz : zer Tryz.prog 113 = some (.agg [.v (.int .i64 0), .v (.slice none 0 0), .v (.int .i64 0), .v (.slice none 0 0), .v (.string (ByteArray.mk #[])), .v (.bool false)]) := by kernel_rfl
  rw [hz, Tryz.und113]
  simp [aFill, placeOf, setAt, chk, AV.one, AV.cells, Tryz.siz47, Tryz.siz4, Tryz.siz9]
end Go.Proofs
