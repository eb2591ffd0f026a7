/-
  The law: with the same weights no key moves, nor with a chain more that weighs nothing.
-/
import Derived.Test.YtbkehjgnaogcdaaDoorRy
import Derived.Test.YtbkehjgnaogcdaaDoorRx
import Derived.Sort.Walk0
import Derived.KernelRfl
set_option linter.all false
namespace Go.Proofs
open Go Go.Abs
set_option maxRecDepth 100000
set_option linter.unusedSimpArgs false
theorem ringOk_in {ws : List Int} (h1 : 1 ≤ ws.length) (h2 : ws.length ≤ 8) (h3 : ∀ w ∈ ws, 0 ≤ w ∧ w ≤ 128) {a : Nat} (h4 : 0 < ws.getD a 0) : ringOk ws = true := by
  cases ws with
  | nil => simp at h1
  | cons x xs =>
    obtain ⟨m1, m2⟩ := foldl_min (xs := xs) x
    obtain ⟨n1, n2, n3⟩ := foldl_max (xs := xs) x
    have hmem : ∀ y, y ∈ x :: xs → xs.foldl (fun a b => if b < a then b else a) x ≤ y ∧ y ≤ xs.foldl (fun a b => if a < b then b else a) x := by
      intro y hy
      rcases List.mem_cons.mp hy with rfl | hy
      · exact ⟨m1, n1⟩
      · exact ⟨m2 y hy, n2 y hy⟩
    have hmin : 0 ≤ xs.foldl (fun a b => if b < a then b else a) x := by
      have key : ∀ (xs : List Int) (x : Int), xs.foldl (fun a b => if b < a then b else a) x ∈ x :: xs := by
        intro xs
        induction xs with
        | nil => intro x; simp
        | cons y ys ih =>
          intro x
          rw [List.foldl_cons]
          have := ih (if y < x then y else x)
          rcases List.mem_cons.mp this with h | h
          · rw [h]; split <;> simp
          · exact List.mem_cons_of_mem _ (List.mem_cons_of_mem _ h)
      exact (h3 _ (key xs x)).1
    have hmax : xs.foldl (fun a b => if a < b then b else a) x ≤ 128 := by
      rcases n3 with n3 | n3
      · rw [n3]; exact (h3 x (by simp)).2
      · exact (h3 _ (List.mem_cons_of_mem _ n3)).2
    have hpos : 0 < xs.foldl (fun a b => if a < b then b else a) x := by
      have ha : (x :: xs).getD a 0 ∈ x :: xs := by
        by_cases hal : a < (x :: xs).length
        · rw [List.getD_eq_getElem?_getD, List.getElem?_eq_getElem hal]
          exact List.getElem_mem _
        · rw [List.getD_eq_getElem?_getD, List.getElem?_eq_none (by omega)] at h4
          simp at h4
      have := (hmem _ ha).2
      omega
    unfold ringOk leastI mostI
    simp only [Bool.and_eq_true, decide_eq_true_eq]
    exact ⟨⟨⟨⟨h1, h2⟩, hmin⟩, hmax⟩, by omega⟩
theorem ptsTo_app {dig : Int → List UInt8} {ws vs : List Int} : ∀ c, c ≤ ws.length → ptsTo dig (ws ++ vs) c = ptsTo dig ws c
  | 0, _ => rfl
  | c + 1, hc => by
    have e : (ws ++ vs).getD c 0 = ws.getD c 0 := by
      rw [List.getD_eq_getElem?_getD, List.getD_eq_getElem?_getD, List.getElem?_append_left (by omega)]
    have ih := ptsTo_app (dig := dig) (ws := ws) (vs := vs) c (by omega)
    simp only [ptsTo, ih, e]
theorem ring_zero {dig : Int → List UInt8} (ws : List Int) : ring dig (ws ++ [0]) = ring dig ws := by
  unfold ring pts
  rw [List.length_append, List.length_singleton]
  have e : (ws ++ [(0 : Int)]).getD ws.length 0 = 0 := by
    rw [List.getD_eq_getElem?_getD, List.getElem?_append_right (Nat.le_refl _)]; simp
  simp only [ptsTo, e, ptsTo_app ws.length (Nat.le_refl _), ptsOf, Int.toNat_zero, List.range_zero, List.map_nil, List.append_nil]
theorem ringOk_zero {ws : List Int} (h : ringOk ws = true) (h8 : ws.length ≠ 8) : ringOk (ws ++ [0]) = true := by
  obtain ⟨o1, o2, o3, a, o4, o5⟩ := ringOk_out h
  refine ringOk_in (by simp) (by simp; omega) ?_ (a := a) ?_
  · intro w hw
    rcases List.mem_append.mp hw with hw | hw
    · exact o3 w hw
    · simp at hw; omega
  · rw [List.getD_eq_getElem?_getD, List.getElem?_append_left o4, ← List.getD_eq_getElem?_getD]
    exact o5
theorem movedI_same {f g : List UInt8 → Int} {keys : List (List UInt8)} (h : ∀ s, f s = g s) : movedI f g keys = [] := movedTo_none h _
theorem same_tail (G : Nat → Option AV) (hG : GTab G) (a0 a1 : AV) (ws : List Int) (keys : List (List UInt8)) (h0 h : AH) (K : AV → AH → Prop) (ha : ∀ h, Ints h a0 ws) (hb : ∀ h, Sees h 1 a1 (keys.map srow)) (hl : ws.length ≤ 17592186044415) (hl2 : keys.length ≤ 17592186044415) (hkl : ∀ k ∈ keys, k.length ≤ 4611686018427387904) (hok : ringOk ws = true)
    (hk : ∀ h', K (.v (.bool true)) h') : Tryd.r8_j8 K h0 G a0 a1 h := by
  unfold Tryd.r8_j8
  obtain ⟨o1, o2, _, _⟩ := ringOk_out hok
  have la : ∀ h, aLen Tryd.prog h 22 a0 = some (.v (.int .i64 ws.length)) := fun h => by
    have := (ha h).len (P := Tryd.prog) (t := 22) Tryd.und22
    rw [List.length_map] at this
    exact this
  refine ⟨Moved_call G hG a0 a0 a1 ws ws keys h _ (ha _) (ha _) (hb _) (by omega) (by omega) hl2 hkl (fun h => by rw [hok] at h; cases h) fun _ v h' acc => ?_⟩
  rw [movedI_same (fun _ => rfl)] at acc
  have lv : aLen Tryd.prog h' 22 v = some (.v (.int .i64 0)) := acc.len Tryd.und22
  by_cases h8 : ws.length = 8
  · simp (disch := omega) only [go_sem, lv, la, h8]
    exact ret_keep (hk _)
  · simp (disch := omega) only [go_sem, lv, la, h8]
    have s0 : AccR 3 1 h' (.sl h'.length 0 0 0 none) (h' ++ [some (.cells 3 1 [] 0)]) [] := @AccR.obj 3 1 h' [] [] 0 [] (by simp)
    refine s0.append (new := ws.map irow) Tryd.und22 Tryd.azero3 Tryd.byt3 (by exact Tryd.plainSrc22) (ha _).src (by simp) (by
      rintro ⟨s, rfl⟩
      obtain ⟨_, ⟨h1, _⟩ | ⟨_, _, h1⟩ | ⟨_, _, _, _, _, _, h1, _⟩⟩ := ha h <;> cases h1) (by simp; omega) (by simp; omega) ?_
    intro x1 h1 s1 _ _
    simp (disch := omega) only [go_sem]
    rw [List.nil_append] at s1
    refine s1.push rfl Tryd.und22 Tryd.azero3 Tryd.byt3 (by exact Tryd.plainSrc22) rfl (by simp; omega) (by simp; omega) ?_
    intro x2 h2 s2 _ _
    have hs2 : Ints h2 x2 (ws ++ [0]) := by
      have := s2.sees
      rw [show (ws.map irow ++ [[AV.v (.int .i64 0)]]) = (ws ++ [0]).map irow by simp] at this
      exact this
    refine ⟨Moved_call G hG a0 x2 a1 ws (ws ++ [0]) keys h2 _ (ha _) hs2 (hb _) (by omega) (by simp; omega) hl2 hkl (fun h => by rw [hok, ringOk_zero hok h8] at h; cases h) fun _ v3 h3 acc3 => ?_⟩
    rw [movedI_same (fun s => by unfold ofK; rw [ring_zero])] at acc3
    have lv3 : aLen Tryd.prog h3 22 v3 = some (.v (.int .i64 0)) := acc3.len Tryd.und22
    simp (disch := omega) only [go_sem, lv3]
    exact ret_keep (hk _)
/-- Keys, cut off behind. -/
theorem cut_texts (h : AH) (n : Nat) {a1 : AV} {keys : List (List UInt8)} (hb : ∀ h, Sees h 1 a1 (keys.map srow)) (hnn : a1 = .v (.slice none 0 0) ∨ ∃ rows f nn, a1 = .lst rows f nn) (hn : n < keys.length) :
    ∃ a', aSlice Tryd.prog h 23 a1 none (some (some (.v (.int .i64 (n : Int))))) none = some a' ∧ ∀ h, Sees h 1 a' ((keys.take n).map srow) := by
  rcases hnn with rfl | ⟨rows, f, nn, rfl⟩
  · rcases (hb h).2 with ⟨_, h2⟩ | ⟨_, _, h1⟩ | ⟨_, _, _, _, _, _, h1, _⟩
    · have := congrArg List.length h2
      rw [List.length_map, List.length_nil] at this
      omega
    · cases h1
    · cases h1
  · have hrows : rows = keys.map srow := by
      rcases (hb h).2 with ⟨h1, _⟩ | ⟨_, _, h1⟩ | ⟨_, _, _, _, _, _, h1, _⟩
      · cases h1
      · cases h1; rfl
      · cases h1
    subst hrows
    refine ⟨.lst ((keys.map srow).take n) (f && ((n : Int) == ((keys.map srow).length : Int))) nn, ?_, fun h => ?_⟩
    · simp only [aSlice, Tryd.und23, Tryd.siz9, bnd, chk]
      rw [if_pos ⟨by omega, by omega, by simp; omega, by simp⟩]
      simp
    · rw [List.map_take]
      exact Sees.lst fun r hm => by have := List.mem_of_mem_take hm; simp at this; obtain ⟨k, _, rfl⟩ := this; rfl
theorem lawSame (G : Nat → Option AV) (hG : GTab G) (a0 a1 : AV) (ws : List Int) (keys : List (List UInt8)) (h : AH) (K : AV → AH → Prop) (ha : ∀ h, Ints h a0 ws) (hb : ∀ h, Sees h 1 a1 (keys.map srow)) (hl : ws.length ≤ 17592186044415) (hl2 : keys.length ≤ 17592186044415) (hkl : ∀ k ∈ keys, k.length ≤ 4611686018427387904) (hnn : a1 = .v (.slice none 0 0) ∨ ∃ rows f nn, a1 = .lst rows f nn)
    (hk : ∀ h', K (.v (.bool true)) h') : SCall Tryd.prog G 8 [a0, a1] h K := by
  refine Tryd.c8 G _ _ h K fun hlow => ?_
  unfold Tryd.r8
  refine ⟨ringWorks_call G hG h _ ?_⟩
  simp (disch := omega) only [go_sem, Bool.not_true]
  refine ⟨ringCheck_call G a0 ws h _ (ha _) (by omega) ?_⟩
  by_cases hok : ringOk ws = true
  · have lk : aLen Tryd.prog h 23 a1 = some (.v (.int .i64 keys.length)) := by
      have := (hb h).len (P := Tryd.prog) (t := 23) Tryd.und23
      rw [List.length_map] at this
      exact this
    simp (disch := omega) only [go_sem, hok, if_true, lk]
    by_cases h40 : keys.length > 40
    · have hs := cut_texts h 40 hb hnn (by omega)
      obtain ⟨a', e1, e2⟩ := hs
      have e1 : aSlice Tryd.prog h 23 a1 none (some (some (.v (.int .i64 40)))) none = some a' := e1
      simp (disch := omega) only [go_sem, e1]
      exact same_tail G hG a0 a' ws (keys.take 40) h h K ha e2 hl (by simp; omega) (fun k hk => hkl k (List.mem_of_mem_take hk)) hok hk
    · simp (disch := omega) only [go_sem]
      exact same_tail G hG a0 a1 ws keys h h K ha hb hl hl2 hkl hok hk
  · simp only [Bool.not_eq_true] at hok
    simp (disch := omega) only [go_sem, hok, Bool.false_eq_true, if_false]
    exact ret_same (hk _)
end Go.Proofs

/-
  Contracts: the reference's hashes, digits, weights.
-/
namespace Go.Proofs
open Go Go.Abs
set_option maxRecDepth 100000
set_option linter.unusedSimpArgs false
theorem hash_loop2 (x0 : Int) (s : List UInt8) (h : AH) (K : AV → AH → Prop) (hl : s.length ≤ 4611686018427387904) (hk : K (.v (.int .u64 (hashEnd (s.foldl hashStep x0)))) h) : Tryd.r26_l3_0 K h (.v (.string (bs s))) x0 0 := by
  obtain ⟨Q, hQ⟩ : ∃ Q : Nat → Int → Prop, ∀ k x, Q k x ↔ x = (s.take k).foldl hashStep x0 := ⟨fun k x => x = (s.take k).foldl hashStep x0, fun _ _ => Iff.rfl⟩
  unfold Tryd.r26_l3_0
  refine ⟨fun m vs h' => ∃ (k : Nat) (x : Int), k ≤ s.length ∧ m = s.length - k ∧ h' = h ∧ Q k x ∧ vs = [.v (.int .u64 x), .v (.int .i64 k)], s.length, ⟨0, x0, by omega, rfl, rfl, (hQ 0 x0).mpr rfl, rfl⟩, ?_⟩
  rintro m h' hl1 hlow2 n n' ⟨k, x, hk1, rfl, rfl, hq, hvs⟩
  simp only [List.cons.injEq, AV.v.injEq, Value.int.injEq, true_and, and_true] at hvs
  obtain ⟨rfl, rfl⟩ := hvs
  simp only [okStr_mk, bs_size]
  by_cases hkl : k < s.length
  · obtain ⟨y, hy⟩ : ∃ y, s[k]? = some y := ⟨_, List.getElem?_eq_getElem hkl⟩
    simp (disch := omega) only [↓xor_u, go_sem]
    have hd : s.getD k 0 = y := by rw [List.getD_eq_getElem?_getD, hy]; rfl
    have hst : IntKind.u64.wrap (xorU n ((s.getD k 0).toNat : Int) * 1099511628211) = hashStep n y := by rw [hd]; rfl
    rw [hst]
    refine next_keep (s.length - (k + 1)) (by omega) (Nat.le_refl _) ⟨k + 1, hashStep n y, by omega, rfl, rfl, ?_, rfl⟩
    rw [hQ, List.take_add_one, hy, Option.toList_some, List.foldl_append, ← (hQ k n).mp hq]
    rfl
  · rw [condB_neg (by omega)]
    simp only [shr_33, xor_u, okInt_mk]
    have := (hQ k n).mp hq
    rw [List.take_of_length_le (by omega)] at this
    rw [← this] at hk
    exact ret_same hk
theorem refHash_call (G : Nat → Option AV) (s : List UInt8) (h : AH) (K : AV → AH → Prop) (hl : s.length ≤ 4611686018427387904) (hk : K (.v (.int .u64 (hashI s))) h) : SCall Tryd.prog G 26 [.v (.string (bs s))] h K := by
  refine Tryd.c26 G _ h K fun hlow => ?_
  unfold Tryd.r26
  exact hash_loop2 _ s h K hl hk
theorem digit_conv (h : AH) (d : Nat) (hd : d < 10) : aConv Tryd.prog (h ++ [some (.cells 5 1 [[.v (.int .u8 (48 + d : Nat))]] 0)]) 227 9 (.sl h.length 0 0 1 none) = some (.v (.string (bs [UInt8.ofNat (48 + d)]))) := by
  have : d = 0 ∨ d = 1 ∨ d = 2 ∨ d = 3 ∨ d = 4 ∨ d = 5 ∨ d = 6 ∨ d = 7 ∨ d = 8 ∨ d = 9 := by omega
  have hg : ∀ o, (h ++ [o])[h.length]? = some o := fun o => by simp
  rw [aConv_sl, Tryd.und227, Tryd.und9, rowsOf, hg]
  rcases this with rfl | rfl | rfl | rfl | rfl | rfl | rfl | rfl | rfl | rfl <;> simp [chk, convB, Tryd.und5, byteOf?]
theorem itoa_nat (n : Nat) : Lib.itoa (n : Int) = Lib.decDigits n := by
  unfold Lib.itoa
  rw [if_neg (by omega), Int.toNat_natCast]
theorem Digits_call (G : Nat → Option AV) (n : Nat) (h : AH) (K : AV → AH → Prop) (hn : n < 1000000) (hk : K (.v (.string (bs (Lib.itoa n)))) h) : SCall Tryd.prog G 120 [.v (.int .i64 (n : Int))] h K := by
  refine Tryd.c120 G _ h K fun hlow => ?_
  unfold Tryd.r120
  rw [itoa_nat] at hk
  simp (disch := omega) only [go_sem]
  unfold Tryd.r120_l2_1
  refine ⟨fun m vs h' => ∃ (u : Nat) (s : List UInt8), u < 1000000 ∧ m = u + 1 ∧ h' = h ∧ s.length + u ≤ 1000000 ∧ Lib.decDigits u ++ s = Lib.decDigits n ∧ vs = [.v (.int .i64 u), .v (.string (bs s))], n + 1, ⟨n, [], hn, rfl, rfl, by simp; omega, by simp, rfl⟩, ?_⟩
  rintro m h' hl1 hlow2 n' s' ⟨u, s, hu, rfl, rfl, hsl, hs, hvs⟩
  simp only [List.cons.injEq, AV.v.injEq, Value.int.injEq, Value.string.injEq, true_and, and_true] at hvs
  obtain ⟨rfl, rfl⟩ := hvs
  have e1 : Int.tmod (u : Int) 10 = ((u % 10 : Nat) : Int) := (Int.ofNat_tmod u 10).symm
  have e2 : Int.tdiv (u : Int) 10 = ((u / 10 : Nat) : Int) := (Int.ofNat_tdiv u 10).symm
  have e3 : IntKind.i64.wrap (48 + ((u % 10 : Nat) : Int)) = ((48 + u % 10 : Nat) : Int) := by rw [wrap64_of (by omega) (by omega)]; omega
  have e4 : IntKind.u8.wrap ((48 + u % 10 : Nat) : Int) = ((48 + u % 10 : Nat) : Int) := by simp [IntKind.wrap, IntKind.bits, IntKind.signed]; omega
  have e5 : IntKind.i64.wrap ((u / 10 : Nat) : Int) = ((u / 10 : Nat) : Int) := wrap64_of (by omega) (by omega)
  simp (disch := omega) only [go_sem, e1, e2, e3, e4, e5, digit_conv h' (u % 10) (Nat.mod_lt _ (by omega)), bs_append, List.length_append, List.length_cons, List.length_nil]
  by_cases h10 : u < 10
  · have e6 : u / 10 = 0 := by omega
    have e7 : u % 10 = u := by omega
    rw [Lib.decDigits_one h10] at hs
    simp (disch := omega) only [go_sem, e6, e7, Int.natCast_zero]
    have : UInt8.ofNat (48 + u) :: s = Lib.decDigits n := hs
    rw [this]
    exact ret_tail hlow .v hk
  · have e6 : ¬ (((u / 10 : Nat) : Int) = 0) := by omega
    simp (disch := omega) only [go_sem, e6]
    refine next_drop (u / 10 + 1) (by omega) (Nat.le_refl _) hlow2 (by intro v hv; simp at hv; rcases hv with rfl | rfl <;> exact .v) ⟨u / 10, [UInt8.ofNat (48 + u % 10)] ++ s, by omega, rfl, rfl, by simp; omega, ?_, rfl⟩
    rw [← hs]
    have hdec : Lib.decDigits u = Lib.decDigits (u / 10) ++ [UInt8.ofNat (48 + u % 10)] := by rw [Lib.decDigits, dif_neg h10]
    rw [hdec, List.append_assoc]
theorem May_call (G : Nat → Option AV) (a : AV) (ws : List Int) (h : AH) (K : AV → AH → Prop) (ha : Ints h a ws) (hl : ws.length ≤ 4611686018427387904) (hk : K (.v (.bool (ringOk ws))) h) : SCall Tryd.prog G 81 [a] h K := by
  refine Tryd.c81 G _ h K fun hlow => ?_
  unfold Tryd.r81
  have la : aLen Tryd.prog h 22 a = some (.v (.int .i64 ws.length)) := by
    have := ha.len (P := Tryd.prog) (t := 22) Tryd.und22
    rw [List.length_map] at this
    exact this
  have bad : (¬ (1 ≤ ws.length ∧ ws.length ≤ 8 ∧ (∀ w ∈ ws, 0 ≤ w ∧ w ≤ 128) ∧ ∃ a, a < ws.length ∧ 0 < ws.getD a 0)) → ringOk ws = false := by
    intro hn
    cases hr : ringOk ws with
    | false => rfl
    | true => exact absurd (ringOk_out hr) hn
  by_cases h1 : ws.length < 1
  · simp (disch := omega) only [go_sem, la, h1]
    rw [bad (by omega)] at hk
    exact ret_same hk
  by_cases h8 : ws.length > 8
  · simp (disch := omega) only [go_sem, la, h1, h8]
    rw [bad (by omega)] at hk
    exact ret_same hk
  simp (disch := omega) only [go_sem, la]
  unfold Tryd.r81_l5_8
  refine ⟨fun m vs h' => ∃ k : Nat, k ≤ ws.length ∧ m = ws.length - k ∧ h' = h ∧ (∀ w ∈ ws.take k, 0 ≤ w ∧ w ≤ 128) ∧ vs = [.v (.bool (decide (∃ a, a < k ∧ 0 < ws.getD a 0))), .v (.int .i64 k)], ws.length, ⟨0, by omega, rfl, rfl, by simp, by simp⟩, ?_⟩
  rintro m h' hl1 hlow2 b n ⟨k, hk1, rfl, rfl, hall, hvs⟩
  simp only [List.cons.injEq, AV.v.injEq, Value.int.injEq, Value.bool.injEq, true_and, and_true] at hvs
  obtain ⟨rfl, rfl⟩ := hvs
  by_cases hkl : k < ws.length
  · obtain ⟨y, hy⟩ : ∃ y, ws[k]? = some y := ⟨_, List.getElem?_eq_getElem hkl⟩
    have hyg : ws.getD k 0 = y := by rw [List.getD_eq_getElem?_getD, hy]; rfl
    obtain ⟨q, q1, q2, _⟩ := ha.iaAll (P := Tryd.prog) (ty := 22) (k := .i64) (i := k) (r := irow y) Tryd.und22 Tryd.siz3 (by omega) (by simp [hy])
    have q1 := q1 []
    have q2 := q2 []
    rw [List.append_nil] at q1 q2
    have hym : y ∈ ws := List.mem_of_getElem? hy
    by_cases hy0 : y < 0
    · simp (disch := omega) only [go_sem, la, q1, q2, hy0]
      rw [bad (by rintro ⟨_, _, h3, _⟩; have := h3 y hym; omega)] at hk
      exact ret_same hk
    by_cases hy1 : y > 128
    · simp (disch := omega) only [go_sem, la, q1, q2, hy0, hy1]
      rw [bad (by rintro ⟨_, _, h3, _⟩; have := h3 y hym; omega)] at hk
      exact ret_same hk
    have hall' : ∀ w ∈ ws.take (k + 1), 0 ≤ w ∧ w ≤ 128 := by
      intro w hw
      rw [List.take_add_one, hy, List.mem_append] at hw
      rcases hw with hw | hw
      · exact hall w hw
      · simp at hw; omega
    have hex : (∃ a, a < k + 1 ∧ 0 < ws.getD a 0) ↔ ((∃ a, a < k ∧ 0 < ws.getD a 0) ∨ y > 0) := by
      constructor
      · rintro ⟨a, h1, h2⟩
        by_cases hak : a = k
        · subst hak; right; omega
        · exact .inl ⟨a, by omega, h2⟩
      · rintro (⟨a, h1, h2⟩ | h1)
        · exact ⟨a, by omega, h2⟩
        · exact ⟨k, by omega, by omega⟩
    by_cases hsome : ∃ a, a < k ∧ 0 < ws.getD a 0
    · have e : decide (∃ a, a < k ∧ 0 < ws.getD a 0) = true := decide_eq_true hsome
      rw [e]
      simp (disch := omega) only [go_sem, la, q1, q2]
      exact next_keep (ws.length - (k + 1)) (by omega) (Nat.le_refl _) ⟨k + 1, by omega, rfl, rfl, hall', by rw [decide_eq_true (hex.mpr (.inl hsome))]; simp⟩
    · have e : decide (∃ a, a < k ∧ 0 < ws.getD a 0) = false := decide_eq_false hsome
      rw [e]
      by_cases hy2 : y > 0
      · simp (disch := omega) only [go_sem, la, q1, q2, hy2]
        exact next_keep (ws.length - (k + 1)) (by omega) (Nat.le_refl _) ⟨k + 1, by omega, rfl, rfl, hall', by rw [decide_eq_true (hex.mpr (.inr hy2))]; simp⟩
      · simp (disch := omega) only [go_sem, la, q1, q2, hy2]
        exact next_keep (ws.length - (k + 1)) (by omega) (Nat.le_refl _) ⟨k + 1, by omega, rfl, rfl, hall', by rw [decide_eq_false (fun h => (hex.mp h).elim hsome hy2)]; simp⟩
  · have hke : k = ws.length := by omega
    subst hke
    rw [List.take_length] at hall
    simp (disch := omega) only [go_sem, la]
    have e : decide (∃ a, a < ws.length ∧ 0 < ws.getD a 0) = ringOk ws := by
      by_cases hs : ∃ a, a < ws.length ∧ 0 < ws.getD a 0
      · obtain ⟨a, h1', h2'⟩ := hs
        rw [decide_eq_true ⟨a, h1', h2'⟩, ringOk_in (by omega) (by omega) hall h2']
      · rw [decide_eq_false hs, bad (by rintro ⟨_, _, _, h4⟩; exact hs h4)]
    rw [e]
    exact ret_same hk
end Go.Proofs

/-
  The reference's ring: points put in one by one, behind those that are not greater. Plain.
-/
namespace Go.Proofs
open Go Go.Abs
/-- Behind those that are not greater: where. -/
def posAt (x : Int) (l : List Pt) : Nat := l.findIdx fun q => decide (x < q.1)
theorem insPt_pos (p : Pt) : ∀ (l : List Pt), (∀ q ∈ l, q.1 = p.1 → ¬ ptLtP p q) → l.Pairwise ptLe → insPt p l = l.take (posAt p.1 l) ++ p :: l.drop (posAt p.1 l)
  | [], _, _ => rfl
  | q :: l, h, hs => by
    unfold insPt
    by_cases hlt : p.1 < q.1
    · have : ptLtP p q := .inl hlt
      rw [if_pos this]
      have e : posAt p.1 (q :: l) = 0 := by unfold posAt; rw [List.findIdx_cons]; simp [hlt]
      rw [e]; rfl
    · have hn : ¬ ptLtP p q := by
        by_cases he : q.1 = p.1
        · exact h q (by simp) he
        · unfold ptLtP; omega
      rw [if_neg hn]
      have e : posAt p.1 (q :: l) = posAt p.1 l + 1 := by unfold posAt; rw [List.findIdx_cons]; simp [hlt]
      rw [e, insPt_pos p l (fun r hr => h r (by simp [hr])) (List.pairwise_cons.mp hs).2]
      rfl
theorem sortPt_snoc (l : List Pt) (p : Pt) : sortPt (l ++ [p]) = insPt p (sortPt l) := by
  refine (sortPt_one (l := l ++ [p]) ?_ (insPt_sorted p _ (sortPt_sorted l))).symm
  refine (insPt_perm p _).trans ?_
  refine ((sortPt_perm l).cons p).trans ?_
  exact (List.perm_append_singleton p l).symm
/-- What was put in ahead is of a lower chain, or of a lower number. -/
theorem sortPt_next (dig : Int → List UInt8) (ws : List Int) (c i : Nat) : sortPt (ptsTo dig ws c ++ ptsOf dig c (i + 1)) =
    (sortPt (ptsTo dig ws c ++ ptsOf dig c i)).take (posAt (ptAt dig c i).1 (sortPt (ptsTo dig ws c ++ ptsOf dig c i))) ++ ptAt dig c i :: (sortPt (ptsTo dig ws c ++ ptsOf dig c i)).drop (posAt (ptAt dig c i).1 (sortPt (ptsTo dig ws c ++ ptsOf dig c i))) := by
  rw [ptsOf_succ, ← List.append_assoc, sortPt_snoc]
  refine insPt_pos _ _ ?_ (sortPt_sorted _)
  intro q hq he
  have hq := (sortPt_perm _).mem_iff.mp hq
  rcases List.mem_append.mp hq with hq | hq
  · obtain ⟨a, j, h1, _, rfl⟩ := (mem_ptsTo dig).mp hq
    unfold ptLtP ptAt
    unfold ptAt at he
    simp only at he ⊢
    omega
  · simp only [ptsOf, List.mem_map, List.mem_range] at hq
    obtain ⟨j, hj, rfl⟩ := hq
    unfold ptLtP ptAt
    unfold ptAt at he
    simp only at he ⊢
    omega
end Go.Proofs

/-
  Contracts: the reference's ring, and what it tells.
-/
namespace Go.Abs
theorem Sees.keepAt {h h' : AH} {n : Nat} {a : AV} {rows : List (List AV)} (s : Sees h n a rows) (hk : ∀ id g o l c, a = .sl id g o l c → h'[id]? = h[id]?) : Sees h' n a rows := by
  obtain ⟨h0, h1 | h1 | ⟨id, gen, off, cap, e, rs, rfl, h2, h3⟩⟩ := s
  · exact ⟨h0, .inl h1⟩
  · exact ⟨h0, .inr (.inl h1)⟩
  · exact ⟨h0, .inr (.inr ⟨id, gen, off, cap, e, rs, rfl, by rw [hk _ _ _ _ _ rfl]; exact h2, h3⟩)⟩
theorem AccR.idLt {e : TypeId} {n : Nat} {h h' : AH} {x : AV} {rows : List (List AV)} (hc : AccR e n h x h' rows) {id g o l : Nat} {c : Option Nat} (hx : x = .sl id g o l c) : id < h'.length := by
  cases hc with
  | nil => cases hx
  | obj hr =>
    simp only [AV.sl.injEq] at hx
    obtain ⟨rfl, _⟩ := hx
    simp
end Go.Abs
namespace Go.Proofs
open Go Go.Abs
set_option maxRecDepth 100000
set_option linter.unusedSimpArgs false
def enc2 (p : Pt) : List AV := [.v (.int .u64 p.1), .v (.int .i64 p.2.1)]
theorem pt2Row (h : AH) {v : AV} {r : List Pt} (hs : Sees h 2 v (r.map enc2)) {k : Nat} {p : Pt} (hp : r[k]? = some p) :
    ∃ q, aIA Tryd.prog h 136 v (.v (.int .i64 (k : Int))) = some q ∧ ∃ q0, aFA Tryd.prog 139 0 q = some q0 ∧ Go.Abs.rowAt h q0 = some (enc2 p, 0) ∧ ∃ q1, aFA Tryd.prog 139 1 q = some q1 ∧ Go.Abs.rowAt h q1 = some (enc2 p, 1) := by
  obtain ⟨q, q1, q2, q3⟩ := hs.iaAll (P := Tryd.prog) (ty := 136) (k := .i64) (i := k) (r := enc2 p) Tryd.und136 Tryd.siz139 (by omega) (by simp [hp])
  obtain ⟨a, a1, a2⟩ := q3 _ 0 0 1 false Tryd.fld139_0 (by omega)
  obtain ⟨b, b1, b2⟩ := q3 _ 1 1 1 false Tryd.fld139_1 (by omega)
  have q1 := q1 []
  have a2 := a2 []
  have b2 := b2 []
  rw [List.append_nil] at q1 a2 b2
  exact ⟨q, q1, a, a1, a2, b, b1, b2⟩
theorem enc2_eq (p : Pt) : enc2 p = [.v (.int .u64 p.1), .v (.int .i64 p.2.1)] := rfl
theorem posAt_eq {x : Int} {l : List Pt} {k : Nat} (hk : k ≤ l.length) (h1 : ∀ q ∈ l.take k, q.1 ≤ x) (h2 : ∀ q, l[k]? = some q → x < q.1) : posAt x l = k := by
  unfold posAt
  by_cases hkl : k < l.length
  · rw [List.findIdx_eq hkl]
    refine ⟨by simpa using h2 _ (List.getElem?_eq_getElem hkl), fun j hj => ?_⟩
    have : l[j]'(by omega) ∈ l.take k := by
      rw [List.mem_take_iff_getElem]
      exact ⟨j, by omega, rfl⟩
    have := h1 _ this
    simp; omega
  · have : k = l.length := by omega
    subst this
    apply List.findIdx_eq_length.mpr
    intro q hq
    have := h1 q (by rw [List.take_length]; exact hq)
    simp; omega
theorem All_call (G : Nat → Option AV) (a : AV) (ws : List Int) (h : AH) (K : AV → AH → Prop) (ha : Ints h a ws) (hok : ringOk ws = true) (hk : ∀ v h', AccR 139 2 h v h' ((ring Lib.itoa ws).map enc2) → K v h') : SCall Tryd.prog G 82 [a] h K := by
  refine Tryd.c82 G _ h K fun hlow => ?_
  unfold Tryd.r82 Tryd.r82_l3_0
  obtain ⟨o1, o2, o3, _⟩ := ringOk_out hok
  have o4 : ∀ w ∈ ws, w ≤ 128 := fun w hw => (o3 w hw).2
  have la : ∀ t, aLen Tryd.prog (h ++ t) 22 a = some (.v (.int .i64 ws.length)) := fun t => by
    have := (ha.app t).len (P := Tryd.prog) (t := 22) Tryd.und22
    rw [List.length_map] at this
    exact this
  refine ⟨fun m vs h' => ∃ (c : Nat) (v : AV), c ≤ ws.length ∧ m = ws.length - c ∧ AccR 139 2 h v h' ((sortPt (ptsTo Lib.itoa ws c)).map enc2) ∧ vs = [v, .v (.int .i64 c)], ws.length, ⟨0, _, by omega, rfl, (by have := AccR.nil (e := 139) (n := 2) (h := h) (t := []); rw [List.append_nil] at this; exact this), rfl⟩, ?_⟩
  rintro m h' hl1 hlow2 v n ⟨c, v', hc1, rfl, acc, hvs⟩
  simp only [List.cons.injEq, AV.v.injEq, Value.int.injEq, true_and, and_true] at hvs
  obtain ⟨rfl, rfl⟩ := hvs
  have la' : aLen Tryd.prog h' 22 a = some (.v (.int .i64 ws.length)) := by obtain ⟨t, rfl⟩ := acc.tail; exact la t
  by_cases hcl : c < ws.length
  rotate_left
  · simp (disch := omega) only [go_sem, la']
    have hce : c = ws.length := by omega
    subst hce
    exact ret_keep (hk _ _ acc)
  have hg : ws.getD c 0 = ws[c] := by simp [List.getD_eq_getElem?_getD, List.getElem?_eq_getElem hcl]
  have hw := o3 ws[c] (List.getElem_mem _)
  have hlen := ptsTo_length Lib.itoa o4 c (by omega)
  simp (disch := omega) only [go_sem, la']
  unfold Tryd.r82_l6_7
  refine ⟨fun m vs h' => ∃ (i : Nat) (v : AV), (i : Int) ≤ ws[c] ∧ m = ws[c].toNat - i ∧ h.length ≤ h'.length ∧ AccR 139 2 h v h' ((sortPt (ptsTo Lib.itoa ws c ++ ptsOf Lib.itoa c i)).map enc2) ∧ vs = [v, .v (.int .i64 i)], ws[c].toNat, ⟨0, _, by omega, rfl, hl1, by simpa [ptsOf] using acc, rfl⟩, ?_⟩
  rintro m2 h2 hl2 hlow3 v2 n2 ⟨i, v3, hi1, rfl, hle2, acc2, hvs2⟩
  simp only [List.cons.injEq, AV.v.injEq, Value.int.injEq, true_and, and_true] at hvs2
  obtain ⟨rfl, rfl⟩ := hvs2
  obtain ⟨q, q1, q2, _⟩ := ha.iaAll (P := Tryd.prog) (ty := 22) (k := .i64) (i := c) (r := irow ws[c]) Tryd.und22 Tryd.siz3 (by omega) (by simp [hcl])
  have q1' : aIA Tryd.prog h2 22 a (.v (.int .i64 (c : Int))) = some q := by obtain ⟨t, rfl⟩ := acc2.tail; exact q1 t
  have q2' : Go.Abs.rowAt h2 q = some (irow ws[c], 0) := by obtain ⟨t, rfl⟩ := acc2.tail; exact q2 t
  by_cases hil : (i : Int) < ws[c]
  rotate_left
  · simp (disch := omega) only [go_sem, q1', q2']
    have ew : (c : Int) + 1 = ((c + 1 : Nat) : Int) := by omega
    rw [ew]
    refine next_keep (ws.length - (c + 1)) (by omega) (by omega) ⟨c + 1, v2, by omega, rfl, ?_, rfl⟩
    have : i = (ws.getD c 0).toNat := by rw [hg]; omega
    rw [this] at acc2
    exact acc2
  have l1 := itoa_len (n := c) (by omega)
  have l2 := itoa_len (n := i) (by omega)
  have e46 : (ByteArray.mk #[46]) = bs [46] := rfl
  simp (disch := omega) only [go_sem, q1', q2']
  refine ⟨Digits_call G c h2 _ (by omega) ?_⟩
  simp (disch := omega) only [go_sem, e46, bs_append, bs_size, List.length_append, List.length_cons, List.length_nil]
  refine ⟨Digits_call G i h2 _ (by omega) ?_⟩
  simp (disch := omega) only [go_sem, bs_append, bs_size, List.length_append, List.length_cons, List.length_nil]
  refine ⟨refHash_call G _ h2 _ (by simp; omega) ?_⟩
  have hp : hashI (Lib.itoa (c : Int) ++ 46 :: Lib.itoa (i : Int)) = (ptAt Lib.itoa c i).1 := rfl
  simp (disch := omega) only [go_sem, hp]
  have hpc : (ptAt Lib.itoa c i).2.1 = (c : Int) := rfl
  have hnx := sortPt_next Lib.itoa ws c i
  have hsl : (sortPt (ptsTo Lib.itoa ws c ++ ptsOf Lib.itoa c i)).length ≤ 128 * c + i := by
    rw [(sortPt_perm _).length_eq, List.length_append, ptsOf_length]; omega
  generalize ptAt Lib.itoa c i = p at hnx hpc
  generalize hl : sortPt (ptsTo Lib.itoa ws c ++ ptsOf Lib.itoa c i) = l at acc2 hnx hsl
  unfold Tryd.r82_l10_30
  generalize hH : h2 ++ [some (AO.cells 139 2 [[.v (.int .u64 p.1), .v (.int .i64 (c : Int))]] 0)] = H
  have hHl : H.length = h2.length + 1 := by rw [← hH]; simp
  have hHp : H[h2.length]? = some (some (AO.cells 139 2 [[.v (.int .u64 p.1), .v (.int .i64 (c : Int))]] 0)) := by rw [← hH]; simp
  obtain ⟨t2, et2⟩ := acc2.tail
  have hHt : ∃ t, H = h ++ t := ⟨_, by rw [← hH, et2, List.append_assoc]⟩
  have sv : Sees H 2 v2 (l.map enc2) := by rw [← hH]; exact acc2.sees.app _
  have idv : ∀ {id g o l' : Nat} {cc : Option Nat}, v2 = .sl id g o l' cc → id < h2.length := fun hx => acc2.idLt hx
  have lv : aLen Tryd.prog H 136 v2 = some (.v (.int .i64 l.length)) := by
    have := sv.len (P := Tryd.prog) (t := 136) Tryd.und136
    rw [List.length_map] at this
    exact this
  refine ⟨fun m vs h' => ∃ k : Nat, k ≤ l.length ∧ m = l.length - k ∧ h' = H ∧ (∀ q ∈ l.take k, q.1 ≤ p.1) ∧ vs = [.v (.int .i64 k)], l.length, ⟨0, by omega, rfl, rfl, by simp, rfl⟩, ?_⟩
  rintro m3 h3 hl3 hlow4 n3 ⟨k, hk1, rfl, rfl, hall, hvs3⟩
  simp only [List.cons.injEq, AV.v.injEq, Value.int.injEq, true_and, and_true] at hvs3
  obtain rfl := hvs3
  -- what follows the place
  have rest : posAt p.1 l = k → okV (aSlice Tryd.prog h3 136 v2 none (some (some (.v (.int .i64 (k : Int))))) none) fun v53 => appR Tryd.prog h3 136 136 (.v (.slice none 0 0)) v53 (fun v54 h55 =>
      okV (aLoad Tryd.prog h55 139 (.ptr h2.length 0 0 0)) fun v56 => okP (rowsFill 2 (List.replicate 1 [(.v (.int .u64 0)), (.v (.int .i64 0))]) [(0, some v56)]) fun r57 => newO (.cells 139 2 r57 0) h55 fun i58 h59 =>
      appR Tryd.prog h59 136 136 v54 (.sl i58 0 0 1 none) (fun v60 h61 => okV (aSlice Tryd.prog h61 136 v2 (some (some (.v (.int .i64 (k : Int))))) none none) fun v62 =>
      appR Tryd.prog h61 136 136 v60 v62 (fun v63 h64 =>
      nextR h' (fun m vs h' => ∃ (i : Nat) (v : AV), (i : Int) ≤ ws[c] ∧ m = ws[c].toNat - i ∧ h.length ≤ h'.length ∧ AccR 139 2 h v h' ((sortPt (ptsTo Lib.itoa ws c ++ ptsOf Lib.itoa c i)).map enc2) ∧ vs = [v, .v (.int .i64 i)]) (ws[c].toNat - i) [some a, some (.v (.int .i64 (c : Int)))] [some a, some (.v (.int .i64 (c : Int)))] [v63, (.v (.int .i64 (IntKind.wrap .i64 ((i : Int) + 1))))] h64))) := by
    intro hpos
    obtain ⟨a1, b1, b2⟩ := sv.upto (P := Tryd.prog) (ty := 136) (k := .i64) (hi := k) Tryd.und136 Tryd.siz139 (by simpa using hk1)
    have b1 := b1 []
    rw [List.append_nil] at b1
    rw [b1, okV_some]
    obtain ⟨t3, et3⟩ := hHt
    have s0 : AccR 139 2 h (.v (.slice none 0 0)) h3 [] := by rw [et3]; exact .nil
    have notstr : ∀ {x : AV} {hh : AH} {n : Nat} {rows : List (List AV)}, Sees hh n x rows → (∃ s, x = .v (.string s)) → n = 1 := by
      rintro x hh n rows hs ⟨s, rfl⟩
      obtain ⟨_, ⟨h1, _⟩ | ⟨_, _, h1⟩ | ⟨_, _, _, _, _, _, h1, _⟩⟩ := hs <;> cases h1
    refine s0.append (new := (l.map enc2).take k) Tryd.und136 Tryd.azero139 Tryd.byt139 (by exact Tryd.plainSrc136) b2.src b2.1 (fun hx => by have := notstr b2 hx; omega) (by simp; omega) (by simp; omega) ?_
    intro x1 h5 s1 hle5 st1
    rw [List.nil_append] at s1
    have off0 : ∀ i, Off (.v (.slice none 0 0)) i := fun i id g o l c hx => by cases hx
    have keep1 : ∀ i, i < h3.length → h5[i]? = h3[i]? ∧ Off x1 i := fun i hi => st1 i hi (off0 i)
    have hp5 : h5[h2.length]? = some (some (AO.cells 139 2 [[.v (.int .u64 p.1), .v (.int .i64 (c : Int))]] 0)) := by rw [(keep1 _ (by omega)).1]; exact hHp
    simp (disch := omega) only [go_sem, hp5]
    refine s1.push rfl Tryd.und136 Tryd.azero139 Tryd.byt139 (by exact Tryd.plainSrc136) rfl (by simp; omega) (by simp; omega) ?_
    intro x2 h6 s2 hle6 st2
    have sv6 : Sees h6 2 v2 (l.map enc2) := by
      refine sv.keepAt ?_
      intro id g o l' cc hx
      have hid := idv hx
      rw [(st2 id (by omega) (keep1 id (by omega)).2).1, (keep1 id (by omega)).1]
    obtain ⟨a2, d1, d2⟩ := sv6.from (P := Tryd.prog) (ty := 136) (k := .i64) (lo := k) Tryd.und136 Tryd.siz139 (by simpa using hk1)
    have d1 := d1 []
    rw [List.append_nil] at d1
    rw [d1, okV_some]
    refine s2.append (new := (l.map enc2).drop k) Tryd.und136 Tryd.azero139 Tryd.byt139 (by exact Tryd.plainSrc136) d2.src d2.1 (fun hx => by have := notstr d2 hx; omega) (by simp; omega) (by simp; omega) ?_
    intro x3 h7 s3 hle7 _
    have ew : IntKind.i64.wrap ((i : Int) + 1) = ((i + 1 : Nat) : Int) := by rw [wrap64_of (by omega) (by omega)]; omega
    rw [ew]
    refine next_keep (ws[c].toNat - (i + 1)) (by omega) (by omega) ⟨i + 1, x3, by omega, rfl, by omega, ?_, rfl⟩
    rw [hnx, hpos]
    have : (l.map enc2).take k ++ [[.v (.int .u64 p.1), .v (.int .i64 (c : Int))]] ++ (l.map enc2).drop k = (l.take k ++ p :: l.drop k).map enc2 := by
      rw [List.map_append, List.map_cons, List.map_take, List.map_drop, enc2_eq p, hpc]; simp
    rw [← this]
    exact s3
  by_cases hkl : k < l.length
  · obtain ⟨y, hy⟩ : ∃ y, l[k]? = some y := ⟨_, List.getElem?_eq_getElem hkl⟩
    obtain ⟨q, q1, q0, q2, q3, _⟩ := pt2Row h3 sv hy
    by_cases hle : y.1 ≤ p.1
    · simp (disch := omega) only [go_sem, lv, q1, q2, q3, enc2_eq, hHp]
      refine next_keep (l.length - (k + 1)) (by omega) (Nat.le_refl _) ⟨k + 1, by omega, rfl, rfl, ?_, by simp⟩
      intro z hz
      rw [List.take_add_one, hy, List.mem_append] at hz
      rcases hz with hz | hz
      · exact hall z hz
      · simp at hz; rw [hz]; exact hle
    · simp (disch := omega) only [go_sem, lv, q1, q2, q3, enc2_eq, hHp, hle]
      exact rest (posAt_eq hk1 hall fun z hz => by rw [hy] at hz; cases hz; omega)
  · simp (disch := omega) only [go_sem, lv]
    exact rest (posAt_eq hk1 hall fun z hz => by rw [List.getElem?_eq_none (by omega)] at hz; cases hz)
end Go.Proofs

/-
  Contracts: the reference's Of and Moved; texts that are the same.
-/
namespace Go.Proofs
open Go Go.Abs
set_option maxRecDepth 100000
set_option linter.unusedSimpArgs false
theorem find_call (G : Nat → Option AV) (v : AV) (r : List Pt) (key : List UInt8) (h : AH) (K : AV → AH → Prop) (hs : Sees h 2 v (r.map enc2)) (hl : r.length ≤ 1000000000) (h0 : r ≠ []) (hkl : key.length ≤ 4611686018427387904)
    (hk : K (.v (.int .i64 (ofH r (hashI key)))) h) : SCall Tryd.prog G 84 [v, .v (.string (bs key))] h K := by
  refine Tryd.c84 G _ _ h K fun hlow => ?_
  unfold Tryd.r84
  have hpos : 0 < r.length := List.length_pos_iff.mpr h0
  have lv : aLen Tryd.prog h 136 v = some (.v (.int .i64 r.length)) := by
    have := hs.len (P := Tryd.prog) (t := 136) Tryd.und136
    rw [List.length_map] at this
    exact this
  simp (disch := omega) only [go_sem]
  refine ⟨refHash_call G key h _ hkl ?_⟩
  generalize hashI key = x at hk
  simp (disch := omega) only [go_sem]
  unfold Tryd.r84_l3_4
  refine ⟨fun m vs h' => ∃ k : Nat, k ≤ r.length ∧ m = r.length - k ∧ h' = h ∧ (∀ q ∈ r.take k, q.1 < x) ∧ vs = [.v (.int .i64 k)], r.length, ⟨0, by omega, rfl, rfl, by simp, rfl⟩, ?_⟩
  rintro m h' hl1 hlow2 n ⟨k, hk1, rfl, rfl, hall, hvs⟩
  simp only [List.cons.injEq, AV.v.injEq, Value.int.injEq, true_and, and_true] at hvs
  obtain rfl := hvs
  by_cases hkl' : k < r.length
  · obtain ⟨y, hy⟩ : ∃ y, r[k]? = some y := ⟨_, List.getElem?_eq_getElem hkl'⟩
    obtain ⟨q, q1, q0, q2, q3, p0, p1, p2⟩ := pt2Row h' hs hy
    by_cases hge : y.1 ≥ x
    · simp (disch := omega) only [go_sem, lv, q1, q2, q3, p1, p2, enc2_eq, hge]
      have hlb : lb r x = k := by
        unfold lb
        rw [List.findIdx_eq hkl']
        have e : r[k] = y := (List.getElem?_eq_some_iff.mp hy).2
        refine ⟨by rw [e]; simpa using hge, fun j hj => ?_⟩
        have : r[j]'(by omega) ∈ r.take k := by
          rw [List.mem_take_iff_getElem]
          exact ⟨j, by omega, rfl⟩
        have := hall _ this
        simp; omega
      have : ofH r x = y.2.1 := by
        unfold ofH
        rw [hlb, Nat.mod_eq_of_lt hkl', List.getD_eq_getElem?_getD, hy]; rfl
      rw [this] at hk
      exact ret_same hk
    · simp (disch := omega) only [go_sem, lv, q1, q2, q3, p1, p2, enc2_eq, hge]
      refine next_keep (r.length - (k + 1)) (by omega) (Nat.le_refl _) ⟨k + 1, by omega, rfl, rfl, ?_, by simp⟩
      intro z hz
      rw [List.take_add_one, hy, List.mem_append] at hz
      rcases hz with hz | hz
      · exact hall z hz
      · simp at hz; rw [hz]; omega
  · have hke : k = r.length := by omega
    subst hke
    rw [List.take_length] at hall
    obtain ⟨y, hy⟩ : ∃ y, r[0]? = some y := ⟨_, List.getElem?_eq_getElem hpos⟩
    obtain ⟨q, q1, q0, q2, q3, p0, p1, p2⟩ := pt2Row h' hs hy
    have q1 : aIA Tryd.prog h' 136 v (.v (.int .i64 0)) = some q := q1
    simp (disch := omega) only [go_sem, lv, q1, p1, p2, enc2_eq]
    have hlb : lb r x = r.length := by
      unfold lb
      apply List.findIdx_eq_length.mpr
      intro z hz
      have := hall z hz
      simp; omega
    have : ofH r x = y.2.1 := by
      unfold ofH
      rw [hlb, Nat.mod_self, List.getD_eq_getElem?_getD, hy]; rfl
    rw [this] at hk
    exact ret_same hk
theorem refOf_call (G : Nat → Option AV) (a : AV) (ws : List Int) (key : List UInt8) (h : AH) (K : AV → AH → Prop) (ha : Ints h a ws) (hl : ws.length ≤ 4611686018427387904) (hkl : key.length ≤ 4611686018427387904)
    (hk : K (.tup [.v (.int .i64 (if ringOk ws then ofK Lib.itoa ws key else 0)), .v (.int .i64 (if ringOk ws then 0 else 1))]) h) : SCall Tryd.prog G 31 [a, .v (.string (bs key))] h K := by
  refine Tryd.c31 G _ _ h K fun hlow => ?_
  unfold Tryd.r31
  refine ⟨May_call G a ws h _ ha hl ?_⟩
  by_cases hok : ringOk ws = true
  · rw [hok] at hk ⊢
    simp (disch := omega) only [go_sem, Bool.not_true]
    refine ⟨All_call G a ws h _ ha hok fun v h' acc => ?_⟩
    obtain ⟨t, rfl⟩ := acc.tail
    simp (disch := omega) only [go_sem]
    have := ring_len (dig := Lib.itoa) hok
    refine ⟨find_call G v _ key _ _ acc.sees (by omega) (ring_ne hok) hkl ?_⟩
    simp (disch := omega) only [go_sem]
    exact ret_tail hlow (.tup (by intro v hv; simp at hv; rcases hv with rfl | rfl <;> exact .v)) hk
  · simp only [Bool.not_eq_true] at hok
    rw [hok] at hk ⊢
    simp (disch := omega) only [go_sem, Bool.not_false]
    exact ret_same hk
theorem refMoved_loop (G : Nat → Option AV) (c v2 v6 : AV) (r2 r6 : List Pt) (keys : List (List UInt8)) (h H : AH) (K : AV → AH → Prop) (s2 : Sees H 2 v2 (r2.map enc2)) (s6 : Sees H 2 v6 (r6.map enc2)) (hc : ∀ h, Sees h 1 c (keys.map srow))
    (l2 : r2.length ≤ 1024) (l6 : r6.length ≤ 1024) (n2 : r2 ≠ []) (n6 : r6 ≠ []) (hl3 : keys.length ≤ 17592186044415) (hkl : ∀ k ∈ keys, k.length ≤ 4611686018427387904)
    (hk : ∀ v h', AccR 3 1 H v h' ((movedI (fun s => ofH r2 (hashI s)) (fun s => ofH r6 (hashI s)) keys).map irow) → K (.tup [v, .v (.int .i64 0)]) h') : Tryd.r30_l6_18 K h G c v2 v6 H (.v (.slice none 0 0)) 0 := by
  unfold Tryd.r30_l6_18
  refine ⟨fun m vs h' => ∃ (k : Nat) (v : AV), k ≤ keys.length ∧ m = keys.length - k ∧ AccR 3 1 H v h' ((movedTo (fun s => ofH r2 (hashI s)) (fun s => ofH r6 (hashI s)) keys k).map irow) ∧ vs = [v, .v (.int .i64 k)], keys.length, ⟨0, _, by omega, rfl, (by have := AccR.nil (e := 3) (n := 1) (h := H) (t := []); rw [List.append_nil] at this; exact this), rfl⟩, ?_⟩
  rintro m h' hl1 hlow2 v n ⟨k, v', hk1', rfl, acc, hvs⟩
  simp only [List.cons.injEq, AV.v.injEq, Value.int.injEq, true_and, and_true] at hvs
  obtain ⟨rfl, rfl⟩ := hvs
  have lc : aLen Tryd.prog h' 23 c = some (.v (.int .i64 keys.length)) := by
    have := (hc h').len (P := Tryd.prog) (t := 23) Tryd.und23
    rw [List.length_map] at this
    exact this
  by_cases hkk : k < keys.length
  · obtain ⟨s, hs⟩ : ∃ s, keys[k]? = some s := ⟨_, List.getElem?_eq_getElem hkk⟩
    have hsg : keys.getD k [] = s := by rw [List.getD_eq_getElem?_getD, hs]; rfl
    have hsl := hkl s (List.mem_of_getElem? hs)
    have up : ∀ {n : Nat} {a : AV} {rows : List (List AV)}, Sees H n a rows → Sees h' n a rows := by
      obtain ⟨tl, rfl⟩ := acc.tail
      exact fun s => s.app tl
    obtain ⟨q, q1, q2⟩ := strAt (hc h') hs
    have ew : IntKind.i64.wrap ((k : Int) + 1) = ((k + 1 : Nat) : Int) := by rw [wrap64_of (by omega) (by omega)]; omega
    have hml := movedTo_len (fun s => ofH r2 (hashI s)) (fun s => ofH r6 (hashI s)) keys k
    simp (disch := omega) only [go_sem, lc, q1, q2]
    refine ⟨find_call G v2 r2 s _ _ (up s2) (by omega) n2 hsl ?_⟩
    simp (disch := omega) only [go_sem, q1, q2]
    refine ⟨find_call G v6 r6 s _ _ (up s6) (by omega) n6 hsl ?_⟩
    by_cases hne : ofH r2 (hashI s) = ofH r6 (hashI s)
    · simp (disch := omega) only [go_sem, hne, ew]
      refine next_keep (keys.length - (k + 1)) (by omega) hl1 ⟨k + 1, v, by omega, rfl, ?_, rfl⟩
      simp only [movedTo, hsg, hne, ne_eq, not_true_eq_false, if_false, List.append_nil]
      exact acc
    · simp (disch := omega) only [go_sem, hne, ew]
      refine acc.push rfl Tryd.und22 Tryd.azero3 Tryd.byt3 (by exact Tryd.plainSrc22) rfl ?_ ?_ ?_
      · simp; omega
      · simp; omega
      intro x' h'' acc3 hle3 _
      rw [ew]
      refine next_keep (keys.length - (k + 1)) (by omega) (by omega) ⟨k + 1, x', by omega, rfl, ?_, rfl⟩
      simp only [movedTo, hsg, hne, ne_eq, not_false_eq_true, if_true, List.map_append, List.map_cons, List.map_nil]
      exact acc3
  · simp (disch := omega) only [go_sem, lc]
    have hke : k = keys.length := by omega
    subst hke
    exact ret_keep (hk _ _ acc)
theorem refMoved_call (G : Nat → Option AV) (a b c : AV) (xs ys : List Int) (keys : List (List UInt8)) (h : AH) (K : AV → AH → Prop) (ha : ∀ h, Ints h a xs) (hb : ∀ h, Ints h b ys) (hc : ∀ h, Sees h 1 c (keys.map srow)) (hl : xs.length ≤ 4611686018427387904) (hl2 : ys.length ≤ 4611686018427387904) (hl3 : keys.length ≤ 17592186044415) (hkl : ∀ k ∈ keys, k.length ≤ 4611686018427387904)
    (hk0 : (ringOk xs && ringOk ys) = false → K (.tup [.v (.slice none 0 0), .v (.int .i64 1)]) h)
    (hk1 : (ringOk xs && ringOk ys) = true → ∀ v h', AccR 3 1 h v h' ((movedI (ofK Lib.itoa xs) (ofK Lib.itoa ys) keys).map irow) → K (.tup [v, .v (.int .i64 0)]) h') : SCall Tryd.prog G 30 [a, b, c] h K := by
  refine Tryd.c30 G _ _ _ h K fun hlow => ?_
  unfold Tryd.r30
  refine ⟨May_call G a xs h _ (ha _) hl ?_⟩
  by_cases hx : ringOk xs = true
  rotate_left
  · simp only [Bool.not_eq_true] at hx
    rw [hx]
    simp (disch := omega) only [go_sem, Bool.not_false]
    exact ret_same (hk0 (by rw [hx]; rfl))
  rw [hx]
  simp (disch := omega) only [go_sem, Bool.not_true]
  refine ⟨May_call G b ys h _ (hb _) hl2 ?_⟩
  by_cases hy : ringOk ys = true
  rotate_left
  · simp only [Bool.not_eq_true] at hy
    rw [hy]
    simp (disch := omega) only [go_sem, Bool.not_false]
    exact ret_same (hk0 (by rw [hx, hy]; rfl))
  rw [hy]
  simp (disch := omega) only [go_sem, Bool.not_true]
  refine ⟨All_call G a xs h _ (ha _) hx fun v2 h1 acc => ?_⟩
  simp (disch := omega) only [go_sem]
  refine ⟨All_call G b ys h1 _ (hb _) hy fun v6 h2 acc2 => ?_⟩
  have s2 : Sees h2 2 v2 ((ring Lib.itoa xs).map enc2) := by obtain ⟨t, rfl⟩ := acc2.tail; exact acc.sees.app t
  obtain ⟨t1, rfl⟩ := acc.tail
  obtain ⟨t2, et2⟩ := acc2.base.tail
  refine refMoved_loop G c v2 v6 _ _ keys h h2 K s2 acc2.sees hc (ring_len hx) (ring_len hy) (ring_ne hx) (ring_ne hy) hl3 hkl ?_
  intro v h' acc3
  rw [et2] at acc3
  exact hk1 (by rw [hx, hy]; rfl) v h' acc3.base
theorem SameInts_call (G : Nat → Option AV) (a b : AV) (xs ys : List Int) (h : AH) (K : AV → AH → Prop) (ha : Ints h a xs) (hb : Ints h b ys) (hx : xs.length ≤ 4611686018427387904) (hk : K (.v (.bool (xs == ys))) h) : SCall Tryd.prog G 24 [a, b] h K := by
  refine Tryd.c24 G _ _ h K fun hlow => ?_
  unfold Tryd.r24
  have la := ha.len (P := Tryd.prog) (t := 22) Tryd.und22
  have lb := hb.len (P := Tryd.prog) (t := 22) Tryd.und22
  rw [List.length_map] at la lb
  by_cases hlen : xs.length = ys.length
  rotate_left
  · have e : ¬ ((xs.length : Int) = (ys.length : Int)) := by omega
    simp (disch := omega) only [go_sem, la, lb, e]
    have : (xs == ys) = false := by
      simp
      rintro rfl
      exact hlen rfl
    rw [this] at hk
    exact ret_same hk
  simp (disch := omega) only [go_sem, la, lb]
  unfold Tryd.r24_l4_2
  refine ⟨fun m vs h' => ∃ k : Nat, k ≤ xs.length ∧ m = xs.length - k ∧ h' = h ∧ xs.take k = ys.take k ∧ vs = [.v (.int .i64 k)], xs.length, ⟨0, by omega, rfl, rfl, by simp, rfl⟩, ?_⟩
  rintro m h' hl1 hlow2 n ⟨k, hk1, rfl, rfl, hst, hvs⟩
  simp only [List.cons.injEq, AV.v.injEq, Value.int.injEq, true_and, and_true] at hvs
  obtain rfl := hvs
  by_cases hkl : k < xs.length
  · obtain ⟨x, hx'⟩ : ∃ x, xs[k]? = some x := ⟨_, List.getElem?_eq_getElem hkl⟩
    obtain ⟨y, hy'⟩ : ∃ y, ys[k]? = some y := ⟨_, List.getElem?_eq_getElem (by omega)⟩
    obtain ⟨q, q1, q2, _⟩ := ha.iaAll (P := Tryd.prog) (ty := 22) (k := .i64) (i := k) (r := irow x) Tryd.und22 Tryd.siz3 (by omega) (by simp [hx'])
    obtain ⟨p, p1, p2, _⟩ := hb.iaAll (P := Tryd.prog) (ty := 22) (k := .i64) (i := k) (r := irow y) Tryd.und22 Tryd.siz3 (by omega) (by simp [hy'])
    have q1 := q1 []
    have q2 := q2 []
    have p1 := p1 []
    have p2 := p2 []
    rw [List.append_nil] at q1 q2 p1 p2
    by_cases hxy : x = y
    · simp (disch := omega) only [go_sem, la, lb, q1, q2, p1, p2, hxy]
      refine next_keep (xs.length - (k + 1)) (by omega) (Nat.le_refl _) ⟨k + 1, by omega, rfl, rfl, ?_, by simp⟩
      rw [List.take_add_one, List.take_add_one, hst, hx', hy', hxy]
    · simp (disch := omega) only [go_sem, la, lb, q1, q2, p1, p2, hxy]
      have : (xs == ys) = false := by
        simp
        rintro rfl
        rw [hx'] at hy'
        exact hxy (Option.some.inj hy')
      rw [this] at hk
      exact ret_same hk
  · simp (disch := omega) only [go_sem, la, lb]
    have : (xs == ys) = true := by
      rw [List.take_of_length_le (by omega), List.take_of_length_le (by omega)] at hst
      simp [hst]
    rw [this] at hk
    exact ret_same hk
theorem SameTexts_call (G : Nat → Option AV) (a b : AV) (xs ys : List (List UInt8)) (h : AH) (K : AV → AH → Prop) (ha : Sees h 1 a (xs.map srow)) (hb : Sees h 1 b (ys.map srow)) (hx : xs.length ≤ 4611686018427387904) (hk : K (.v (.bool (xs == ys))) h) : SCall Tryd.prog G 32 [a, b] h K := by
  refine Tryd.c32 G _ _ h K fun hlow => ?_
  unfold Tryd.r32
  have la := ha.len (P := Tryd.prog) (t := 23) Tryd.und23
  have lb := hb.len (P := Tryd.prog) (t := 23) Tryd.und23
  rw [List.length_map] at la lb
  by_cases hlen : xs.length = ys.length
  rotate_left
  · have e : ¬ ((xs.length : Int) = (ys.length : Int)) := by omega
    simp (disch := omega) only [go_sem, la, lb, e]
    have : (xs == ys) = false := by
      simp
      rintro rfl
      exact hlen rfl
    rw [this] at hk
    exact ret_same hk
  simp (disch := omega) only [go_sem, la, lb]
  unfold Tryd.r32_l4_2
  refine ⟨fun m vs h' => ∃ k : Nat, k ≤ xs.length ∧ m = xs.length - k ∧ h' = h ∧ xs.take k = ys.take k ∧ vs = [.v (.int .i64 k)], xs.length, ⟨0, by omega, rfl, rfl, by simp, rfl⟩, ?_⟩
  rintro m h' hl1 hlow2 n ⟨k, hk1, rfl, rfl, hst, hvs⟩
  simp only [List.cons.injEq, AV.v.injEq, Value.int.injEq, true_and, and_true] at hvs
  obtain rfl := hvs
  by_cases hkl : k < xs.length
  · obtain ⟨x, hx'⟩ : ∃ x, xs[k]? = some x := ⟨_, List.getElem?_eq_getElem hkl⟩
    obtain ⟨y, hy'⟩ : ∃ y, ys[k]? = some y := ⟨_, List.getElem?_eq_getElem (by omega)⟩
    obtain ⟨q, q1, q2⟩ := strAt ha hx'
    obtain ⟨p, p1, p2⟩ := strAt hb hy'
    by_cases hxy : x = y
    · subst hxy
      simp (disch := omega) only [go_sem, la, lb, q1, q2, p1, p2, decide_true, Bool.not_true]
      refine next_keep (xs.length - (k + 1)) (by omega) (Nat.le_refl _) ⟨k + 1, by omega, rfl, rfl, ?_, by simp⟩
      rw [List.take_add_one, List.take_add_one, hst, hx', hy']
    · simp (disch := omega) only [go_sem, la, lb, q1, q2, p1, p2, hxy, decide_false, Bool.not_false, not_false_eq_true, decide_true]
      have : (xs == ys) = false := by
        simp
        rintro rfl
        rw [hx'] at hy'
        exact hxy (Option.some.inj hy')
      rw [this] at hk
      exact ret_same hk
  · simp (disch := omega) only [go_sem, la, lb]
    have : (xs == ys) = true := by
      rw [List.take_of_length_le (by omega), List.take_of_length_le (by omega)] at hst
      simp [hst]
    rw [this] at hk
    exact ret_same hk
end Go.Proofs

/-
  Contracts: which layouts and changes may be.
-/
namespace Go.Proofs
open Go Go.Abs
set_option maxRecDepth 100000
set_option linter.unusedSimpArgs false
/-- Weights, in whatever slice. -/
structure Wt (h : AH) (W : AV) (ws : List Int) : Prop where
  ints : Ints h W ws
  one : W.one = true
  cells : W.cells = [W]
theorem Wt.app {h : AH} {W : AV} {ws : List Int} (w : Wt h W ws) (t : AH) : Wt (h ++ t) W ws := ⟨w.ints.app t, w.one, w.cells⟩
theorem Wt.nil {h : AH} : Wt h (.v (.slice none 0 0)) [] := ⟨Sees.nil, rfl, rfl⟩
structure Lay where
  ver : Int
  wts : List Int
structure Chg where
  was : Lay
  will : Lay
  cur : List UInt8
  fin : Bool
def Lay.ok (l : Lay) : Bool := decide (1 ≤ l.ver) && decide (l.ver ≤ 1073741824) && ringOk l.wts
abbrev Lay.cells (l : Lay) (W : AV) : List AV := [.v (.int .i64 l.ver), W]
abbrev Chg.cells (c : Chg) (W1 W2 : AV) : List AV := [.v (.int .i64 c.was.ver), W1, .v (.int .i64 c.will.ver), W2, .v (.string (bs c.cur)), .v (.bool c.fin)]
def Chg.ok (c : Chg) : Bool := c.was.ok && c.will.ok && decide (c.will.ver = c.was.ver + 1) && decide (c.was.wts.length ≤ c.will.wts.length) && decide (c.cur.length ≤ 64) && !(c.fin && decide (c.cur ≠ []))
theorem layCheck_call (G : Nat → Option AV) (l : Lay) (W : AV) (h : AH) (K : AV → AH → Prop) (ha : Wt h W l.wts) (hl : l.wts.length ≤ 4611686018427387904)
    (hk : K (.v (.int .i64 (if l.ok then 0 else 70))) h) : SCall Tryd.prog G 42 [.agg (l.cells W)] h K := by
  refine Tryd.c42 G _ h K fun hlow => ?_
  unfold Tryd.r42
  have w1 := ha.one
  have w2 := ha.cells
  unfold Lay.ok at hk
  by_cases h1 : l.ver < 1
  · simp (disch := omega) only [go_sem, w1, w2, h1]
    simp only [show ¬ 1 ≤ l.ver by omega, decide_false, Bool.false_and, Bool.false_eq_true, if_false] at hk
    exact ret_tail hlow .v hk
  by_cases h2 : l.ver > 1073741824
  · simp (disch := omega) only [go_sem, w1, w2, h1, h2]
    simp only [show ¬ l.ver ≤ 1073741824 by omega, decide_false, Bool.and_false, Bool.false_and, Bool.false_eq_true, if_false] at hk
    exact ret_tail hlow .v hk
  simp only [show 1 ≤ l.ver by omega, show l.ver ≤ 1073741824 by omega, decide_true, Bool.true_and] at hk
  simp (disch := omega) only [go_sem, w1, w2, h1, h2]
  refine ⟨ringCheck_call G W l.wts _ _ (ha.ints.app _) hl ?_⟩
  cases hr : ringOk l.wts with
  | true =>
    rw [hr] at hk
    simp (disch := omega) only [go_sem, if_true]
    exact ret_tail hlow .v hk
  | false =>
    rw [hr] at hk
    simp (disch := omega) only [go_sem, if_false, Bool.false_eq_true]
    exact ret_tail hlow .v hk
theorem neqStand (a b : ByteArray) (x y : Bool) : aBin Tryd.prog .neq 145 (.agg [.v (.string a), .v (.bool x)]) (.agg [.v (.string b), .v (.bool y)]) = some (.v (.bool (!(a.toList == b.toList && (x == y && true))))) := by kernel_rfl
theorem layVer {l : Lay} (h : l.ok = true) : 1 ≤ l.ver ∧ l.ver ≤ 1073741824 ∧ ringOk l.wts = true := by
  unfold Lay.ok at h
  simp only [Bool.and_eq_true, decide_eq_true_eq] at h
  exact ⟨h.1.1, h.1.2, h.2⟩
theorem chgCheck_call (G : Nat → Option AV) (c : Chg) (W1 W2 : AV) (h : AH) (K : AV → AH → Prop) (k1 : Wt h W1 c.was.wts) (k2 : Wt h W2 c.will.wts) (hl1 : c.was.wts.length ≤ 4611686018427387904) (hl2 : c.will.wts.length ≤ 4611686018427387904) (hcl : c.cur.length ≤ 4611686018427387904)
    (hk : K (.v (.int .i64 (if c.ok then 0 else 70))) h) : SCall Tryd.prog G 44 [.agg (c.cells W1 W2)] h K := by
  refine Tryd.c44 G _ h K fun hlow => ?_
  unfold Tryd.r44
  unfold Chg.ok at hk
  simp (disch := omega) only [go_sem, k1.one, k2.one, k1.cells, k2.cells]
  refine ⟨layCheck_call G c.was W1 _ _ (k1.app _) (by omega) ?_⟩
  cases h1 : c.was.ok with
  | false =>
    simp (disch := omega) only [go_sem, if_false, Bool.false_eq_true]
    simp only [h1, Bool.false_and, Bool.false_eq_true, if_false] at hk
    exact ret_tail hlow .v hk
  | true =>
  have hv := layVer h1
  simp (disch := omega) only [go_sem, if_true]
  refine ⟨layCheck_call G c.will W2 _ _ (k2.app _) (by omega) ?_⟩
  cases h2 : c.will.ok with
  | false =>
    simp (disch := omega) only [go_sem, if_false, Bool.false_eq_true]
    simp only [h1, h2, Bool.false_and, Bool.and_false, Bool.false_eq_true, if_false] at hk
    exact ret_tail hlow .v hk
  | true =>
  have m1 : ∀ t, aLen Tryd.prog (h ++ t) 22 W1 = some (.v (.int .i64 c.was.wts.length)) := fun t => by
    have := ((k1.app t).ints).len (P := Tryd.prog) (t := 22) Tryd.und22
    rw [List.length_map] at this
    exact this
  have m2 : ∀ t, aLen Tryd.prog (h ++ t) 22 W2 = some (.v (.int .i64 c.will.wts.length)) := fun t => by
    have := ((k2.app t).ints).len (P := Tryd.prog) (t := 22) Tryd.und22
    rw [List.length_map] at this
    exact this
  simp only [h1, h2, Bool.true_and] at hk
  by_cases h3 : c.will.ver = c.was.ver + 1
  rotate_left
  · simp (disch := omega) only [go_sem, if_true, Nat.one_ne_zero, if_false, h3, m1, m2]
    simp only [h3, decide_false, Bool.false_and, Bool.false_eq_true, if_false] at hk
    exact ret_tail hlow .v hk
  by_cases h4 : c.was.wts.length ≤ c.will.wts.length
  rotate_left
  · simp (disch := omega) only [go_sem, if_true, Nat.one_ne_zero, if_false, h3, m1, m2]
    simp only [h4, decide_false, Bool.false_and, Bool.and_false, Bool.false_eq_true, if_false] at hk
    exact ret_tail hlow .v hk
  simp only [h3, h4, decide_true, Bool.true_and] at hk
  by_cases h5 : c.cur.length ≤ 64
  rotate_left
  · simp (disch := omega) only [go_sem, if_true, Nat.one_ne_zero, if_false, h3, m1, m2]
    simp only [h5, decide_false, Bool.false_and, Bool.and_false, Bool.false_eq_true, if_false] at hk
    exact ret_tail hlow .v hk
  simp only [h5, decide_true, Bool.true_and] at hk
  cases hf : c.fin with
  | false =>
    simp (disch := omega) only [go_sem, if_true, Nat.one_ne_zero, if_false, h3, m1, m2, hf]
    simp only [hf, Bool.false_and, Bool.not_false, if_true] at hk
    exact ret_tail hlow .v hk
  | true =>
    have e0 : (ByteArray.mk #[]) = bs [] := rfl
    by_cases hc : c.cur = []
    · simp (disch := omega) only [go_sem, if_true, Nat.one_ne_zero, if_false, h3, m1, m2, hf, e0, neqStand, hc, bs_toList]
      simp only [hf, hc, ne_eq, not_true_eq_false, decide_false, Bool.and_false, Bool.not_false, if_true] at hk
      simp only [beq_self_eq_true, Bool.and_self, Bool.not_true]
      simp (disch := omega) only [go_sem]
      exact ret_tail hlow .v hk
    · simp (disch := omega) only [go_sem, if_true, Nat.one_ne_zero, if_false, h3, m1, m2, hf, e0, neqStand, bs_toList]
      have hcb : (c.cur == []) = false := by simpa using hc
      simp only [hf, hc, ne_eq, not_false_eq_true, decide_true, Bool.and_true, Bool.not_true, if_false, Bool.false_eq_true] at hk
      simp only [hcb, Bool.false_and, Bool.not_false]
      simp (disch := omega) only [go_sem]
      exact ret_tail hlow .v hk
end Go.Proofs

/-
  Contracts: a key's owner; another cursor; the end; layouts that are the same.
-/
namespace Go.Proofs
open Go Go.Abs
set_option maxRecDepth 100000
set_option linter.unusedSimpArgs false
def Chg.owner (c : Chg) (key : List UInt8) : Int := if c.fin = true ∨ Op.bytesLess key c.cur = true then ofK Lib.itoa c.will.wts key else ofK Lib.itoa c.was.wts key
theorem chgOk_out {c : Chg} (h : c.ok = true) : c.was.ok = true ∧ c.will.ok = true ∧ c.will.ver = c.was.ver + 1 ∧ c.was.wts.length ≤ c.will.wts.length ∧ c.cur.length ≤ 64 ∧ (c.fin = true → c.cur = []) := by
  unfold Chg.ok at h
  simp only [Bool.and_eq_true, decide_eq_true_eq, Bool.not_eq_true', Bool.and_eq_false_iff, decide_eq_false_iff_not, ne_eq, Classical.not_not] at h
  obtain ⟨⟨⟨⟨⟨h1, h2⟩, h3⟩, h4⟩, h5⟩, h6⟩ := h
  exact ⟨h1, h2, h3, h4, h5, fun hf => h6.resolve_left (by rw [hf]; simp)⟩
theorem lowInts (n : Nat) (a b : Int) : Low n (.tup [.v (.int .i64 a), .v (.int .i64 b)]) := .tup (by intro v hv; simp at hv; rcases hv with rfl | rfl <;> exact .v)
theorem Owner_call (G : Nat → Option AV) (hG : GTab G) (c : Chg) (key : List UInt8) (W1 W2 : AV) (h : AH) (K : AV → AH → Prop) (k1 : Wt h W1 c.was.wts) (k2 : Wt h W2 c.will.wts) (hl1 : c.was.wts.length ≤ 4611686018427387904) (hl2 : c.will.wts.length ≤ 4611686018427387904) (hcl : c.cur.length ≤ 4611686018427387904) (hkl : key.length ≤ 4611686018427387904)
    (hk : K (.tup [.v (.int .i64 (if c.ok then c.owner key else 0)), .v (.int .i64 (if c.ok then 0 else 70))]) h) : SCall Tryd.prog G 36 [.agg (c.cells W1 W2), .v (.string (bs key))] h K := by
  refine Tryd.c36 G _ _ h K fun hlow => ?_
  unfold Tryd.r36
  simp (disch := omega) only [go_sem, k1.one, k2.one, k1.cells, k2.cells]
  refine ⟨chgCheck_call G c W1 W2 _ _ (k1.app _) (k2.app _) hl1 hl2 hcl ?_⟩
  cases ho : c.ok with
  | false =>
    rw [ho] at hk
    simp (disch := omega) only [go_sem, if_false, Bool.false_eq_true]
    exact ret_tail hlow (lowInts _ _ _) hk
  | true =>
    rw [ho] at hk
    obtain ⟨o1, o2, _⟩ := chgOk_out ho
    have r1 := (layVer o1).2.2
    have r2 := (layVer o2).2.2
    simp only [if_true] at hk
    unfold Chg.owner at hk
    cases hf : c.fin with
    | true =>
      rw [hf] at hk
      simp only [true_or, if_true] at hk
      simp (disch := omega) only [go_sem, if_true, hf, k1.one, k2.one, k1.cells, k2.cells]
      unfold Tryd.r36_j12
      simp (disch := omega) only [go_sem, k1.one, k2.one, k1.cells, k2.cells]
      refine ⟨Of_call G hG W2 c.will.wts key _ _ (k2.app _).ints hl2 hkl ?_⟩
      simp (disch := omega) only [go_sem, r2, if_true]
      exact ret_tail hlow (lowInts _ _ _) hk
    | false =>
      rw [hf] at hk
      cases hb : Op.bytesLess key c.cur with
      | true =>
        simp only [hb, or_true, if_true] at hk
        simp (disch := omega) only [go_sem, if_true, hf, bs_toList, hb, k1.one, k2.one, k1.cells, k2.cells]
        unfold Tryd.r36_j12
        simp (disch := omega) only [go_sem, k1.one, k2.one, k1.cells, k2.cells]
        refine ⟨Of_call G hG W2 c.will.wts key _ _ (k2.app _).ints hl2 hkl ?_⟩
        simp (disch := omega) only [go_sem, r2, if_true]
        exact ret_tail hlow (lowInts _ _ _) hk
      | false =>
        simp only [hb, or_self, Bool.false_eq_true, if_false] at hk
        simp (disch := omega) only [go_sem, if_true, hf, bs_toList, hb, k1.one, k2.one, k1.cells, k2.cells]
        unfold Tryd.r36_j12
        simp (disch := omega) only [go_sem, k1.one, k2.one, k1.cells, k2.cells]
        refine ⟨Of_call G hG W1 c.was.wts key _ _ (k1.app _).ints hl1 hkl ?_⟩
        simp (disch := omega) only [go_sem, r1, if_true]
        exact ret_tail hlow (lowInts _ _ _) hk
def zeroChg : Chg := ⟨⟨0, []⟩, ⟨0, []⟩, [], false⟩
/-- A change with another cursor. -/
def Chg.to (c : Chg) (s : List UInt8) : Int × Option Chg :=
  if c.ok = false then (70, none) else if c.fin = true ∨ Op.bytesLess s c.cur = true ∨ s.length > 64 then (1, none) else (0, some { c with cur := s })
abbrev nilA : AV := .v (.slice none 0 0)
theorem To_call (G : Nat → Option AV) (c : Chg) (s : List UInt8) (W1 W2 : AV) (h : AH) (K : AV → AH → Prop) (k1 : Wt h W1 c.was.wts) (k2 : Wt h W2 c.will.wts) (hl1 : c.was.wts.length ≤ 4611686018427387904) (hl2 : c.will.wts.length ≤ 4611686018427387904) (hcl : c.cur.length ≤ 4611686018427387904) (hsl : s.length ≤ 4611686018427387904)
    (hk1 : ∀ e t, c.to s = (e, none) → e ≠ 0 → K (.tup [.agg (zeroChg.cells nilA nilA), .v (.int .i64 e)]) (h ++ t))
    (hk2 : ∀ c' t, c.to s = (0, some c') → K (.tup [.agg (c'.cells W1 W2), .v (.int .i64 0)]) (h ++ t)) : SCall Tryd.prog G 38 [.agg (c.cells W1 W2), .v (.string (bs s))] h K := by
  refine Tryd.c38 G _ _ h K fun hlow => ?_
  unfold Tryd.r38
  simp (disch := omega) only [go_sem, k1.one, k2.one, k1.cells, k2.cells]
  refine ⟨chgCheck_call G c W1 W2 _ _ (k1.app _) (k2.app _) hl1 hl2 hcl ?_⟩
  unfold Chg.to at hk1 hk2
  cases ho : c.ok with
  | false =>
    rw [ho] at hk1
    simp (disch := omega) only [go_sem, if_false, Bool.false_eq_true]
    exact ret_keep (hk1 _ _ rfl (by decide))
  | true =>
    rw [ho] at hk1 hk2
    simp only [Bool.true_eq_false, if_false] at hk1 hk2
    cases hf : c.fin with
    | true =>
      rw [if_pos (.inl hf)] at hk1
      simp (disch := omega) only [go_sem, if_true, hf]
      exact ret_keep (hk1 _ _ rfl (by decide))
    | false =>
    cases hb : Op.bytesLess s c.cur with
    | true =>
      rw [if_pos (.inr (.inl hb))] at hk1
      simp (disch := omega) only [go_sem, if_true, hf, bs_toList, hb]
      exact ret_keep (hk1 _ _ rfl (by decide))
    | false =>
    by_cases h64 : s.length > 64
    · rw [if_pos (.inr (.inr h64))] at hk1
      simp (disch := omega) only [go_sem, if_true, hf, bs_toList, hb]
      exact ret_keep (hk1 _ _ rfl (by decide))
    · rw [if_neg (by simp [hf, hb, h64])] at hk2
      simp (disch := omega) only [go_sem, if_true, hf, bs_toList, hb]
      have := fun t => hk2 _ t rfl
      unfold Chg.cells at this
      rw [hf] at this
      exact ret_keep (this _)
theorem End_call (G : Nat → Option AV) (c : Chg) (W1 W2 : AV) (h : AH) (K : AV → AH → Prop) (k1 : Wt h W1 c.was.wts) (k2 : Wt h W2 c.will.wts) (hl1 : c.was.wts.length ≤ 4611686018427387904) (hl2 : c.will.wts.length ≤ 4611686018427387904) (hcl : c.cur.length ≤ 4611686018427387904)
    (hk : ∀ t, K (.tup [.agg (if c.ok && c.fin then c.will.cells W2 else Lay.cells ⟨0, []⟩ nilA), .v (.int .i64 (if c.ok then if c.fin then 0 else 1 else 70))]) (h ++ t)) : SCall Tryd.prog G 40 [.agg (c.cells W1 W2)] h K := by
  refine Tryd.c40 G _ h K fun hlow => ?_
  unfold Tryd.r40
  simp (disch := omega) only [go_sem, k1.one, k2.one, k1.cells, k2.cells]
  refine ⟨chgCheck_call G c W1 W2 _ _ (k1.app _) (k2.app _) hl1 hl2 hcl ?_⟩
  cases ho : c.ok with
  | false =>
    simp only [ho, Bool.false_and, Bool.false_eq_true, if_false] at hk
    simp (disch := omega) only [go_sem, if_false, Bool.false_eq_true]
    exact ret_keep (hk _)
  | true =>
    cases hf : c.fin with
    | false =>
      simp only [ho, hf, Bool.and_false, Bool.false_eq_true, if_false, if_true] at hk
      simp (disch := omega) only [go_sem, if_true, hf, Bool.not_false]
      exact ret_keep (hk _)
    | true =>
      simp only [ho, hf, Bool.and_self, if_true] at hk
      simp (disch := omega) only [go_sem, if_true, hf, Bool.not_true, k1.one, k2.one, k1.cells, k2.cells]
      exact ret_keep (hk _)
theorem slEqual_call (G : Nat → Option AV) (a b : AV) (xs ys : List Int) (h : AH) (K : AV → AH → Prop) (ha : Ints h a xs) (hb : Ints h b ys) (hx : xs.length ≤ 4611686018427387904) (hk : K (.v (.bool (xs == ys))) h) : SCall Tryd.prog G 86 [a, b] h K := by
  refine Tryd.c86 G _ _ h K fun hlow => ?_
  unfold Tryd.r86
  have la := ha.len (P := Tryd.prog) (t := 22) Tryd.und22
  have lb := hb.len (P := Tryd.prog) (t := 22) Tryd.und22
  rw [List.length_map] at la lb
  by_cases hlen : xs.length = ys.length
  rotate_left
  · have e : ¬ ((xs.length : Int) = (ys.length : Int)) := by omega
    simp (disch := omega) only [go_sem, la, lb, e]
    have : (xs == ys) = false := by
      simp
      rintro rfl
      exact hlen rfl
    rw [this] at hk
    exact ret_same hk
  simp (disch := omega) only [go_sem, la, lb]
  unfold Tryd.r86_l4_3
  refine ⟨fun m vs h' => ∃ k : Nat, k ≤ xs.length ∧ m = xs.length - k ∧ h' = h ∧ xs.take k = ys.take k ∧ vs = [.v (.int .i64 k)], xs.length, ⟨0, by omega, rfl, rfl, by simp, rfl⟩, ?_⟩
  rintro m h' hl1 hlow2 n ⟨k, hk1, rfl, rfl, hst, hvs⟩
  simp only [List.cons.injEq, AV.v.injEq, Value.int.injEq, true_and, and_true] at hvs
  obtain rfl := hvs
  by_cases hkl : k < xs.length
  · obtain ⟨x, hx'⟩ : ∃ x, xs[k]? = some x := ⟨_, List.getElem?_eq_getElem hkl⟩
    obtain ⟨y, hy'⟩ : ∃ y, ys[k]? = some y := ⟨_, List.getElem?_eq_getElem (by omega)⟩
    obtain ⟨q, q1, q2, _⟩ := ha.iaAll (P := Tryd.prog) (ty := 22) (k := .i64) (i := k) (r := irow x) Tryd.und22 Tryd.siz3 (by omega) (by simp [hx'])
    obtain ⟨p, p1, p2, _⟩ := hb.iaAll (P := Tryd.prog) (ty := 22) (k := .i64) (i := k) (r := irow y) Tryd.und22 Tryd.siz3 (by omega) (by simp [hy'])
    have q1 := q1 []
    have q2 := q2 []
    have p1 := p1 []
    have p2 := p2 []
    rw [List.append_nil] at q1 q2 p1 p2
    by_cases hxy : x = y
    · simp (disch := omega) only [go_sem, la, lb, q1, q2, p1, p2, hxy]
      refine next_keep (xs.length - (k + 1)) (by omega) (Nat.le_refl _) ⟨k + 1, by omega, rfl, rfl, ?_, by simp⟩
      rw [List.take_add_one, List.take_add_one, hst, hx', hy', hxy]
    · simp (disch := omega) only [go_sem, la, lb, q1, q2, p1, p2, hxy]
      have : (xs == ys) = false := by
        simp
        rintro rfl
        rw [hx'] at hy'
        exact hxy (Option.some.inj hy')
      rw [this] at hk
      exact ret_same hk
  · simp (disch := omega) only [go_sem, la, lb]
    have : (xs == ys) = true := by
      rw [List.take_of_length_le (by omega), List.take_of_length_le (by omega)] at hst
      simp [hst]
    rw [this] at hk
    exact ret_same hk
def Lay.same (a b : Lay) : Bool := decide (a.ver = b.ver) && (a.wts == b.wts)
theorem Equal_call (G : Nat → Option AV) (a b : Lay) (A B : AV) (h : AH) (K : AV → AH → Prop) (k1 : Wt h A a.wts) (k2 : Wt h B b.wts) (hl1 : a.wts.length ≤ 4611686018427387904) (hk : K (.v (.bool (a.same b))) h) : SCall Tryd.prog G 47 [.agg (a.cells A), .agg (b.cells B)] h K := by
  refine Tryd.c47 G _ _ h K fun hlow => ?_
  unfold Tryd.r47
  unfold Lay.same at hk
  by_cases hv : a.ver = b.ver
  · simp (disch := omega) only [go_sem, k1.one, k2.one, k1.cells, k2.cells, hv, Nat.reduceAdd]
    refine ⟨slEqual_call G A B a.wts b.wts _ _ (k1.app _).ints (k2.app _).ints hl1 ?_⟩
    simp (disch := omega) only [go_sem]
    rw [decide_eq_true hv, Bool.true_and] at hk
    exact ret_tail hlow .v hk
  · simp (disch := omega) only [go_sem, k1.one, k2.one, k1.cells, k2.cells, hv, Nat.reduceAdd]
    rw [decide_eq_false hv, Bool.false_and] at hk
    exact ret_tail hlow .v hk
end Go.Proofs

/-
  Contracts: the reference's layouts and changes.
-/
namespace Go.Proofs
open Go Go.Abs
set_option maxRecDepth 100000
set_option linter.unusedSimpArgs false
theorem refLayMay_call (G : Nat → Option AV) (l : Lay) (W : AV) (h : AH) (K : AV → AH → Prop) (ha : Wt h W l.wts) (hl : l.wts.length ≤ 4611686018427387904)
    (hk : K (.v (.bool l.ok)) h) : SCall Tryd.prog G 85 [.agg (l.cells W)] h K := by
  refine Tryd.c85 G _ h K fun hlow => ?_
  unfold Tryd.r85
  have w1 := ha.one
  have w2 := ha.cells
  unfold Lay.ok at hk
  by_cases h1 : l.ver < 1
  · simp (disch := omega) only [go_sem, w1, w2]
    simp only [show ¬ 1 ≤ l.ver by omega, decide_false, Bool.false_and] at hk
    exact ret_tail hlow .v hk
  by_cases h2 : l.ver > 1073741824
  · simp (disch := omega) only [go_sem, w1, w2]
    simp only [show ¬ l.ver ≤ 1073741824 by omega, decide_false, Bool.and_false, Bool.false_and] at hk
    exact ret_tail hlow .v hk
  simp only [show 1 ≤ l.ver by omega, show l.ver ≤ 1073741824 by omega, decide_true, Bool.true_and] at hk
  simp (disch := omega) only [go_sem, w1, w2]
  refine ⟨May_call G W l.wts _ _ (ha.ints.app _) hl ?_⟩
  simp (disch := omega) only [go_sem]
  exact ret_tail hlow .v hk
theorem refLayCheck_call (G : Nat → Option AV) (l : Lay) (W : AV) (h : AH) (K : AV → AH → Prop) (ha : Wt h W l.wts) (hl : l.wts.length ≤ 4611686018427387904)
    (hk : K (.v (.int .i64 (if l.ok then 0 else 70))) h) : SCall Tryd.prog G 43 [.agg (l.cells W)] h K := by
  refine Tryd.c43 G _ h K fun hlow => ?_
  unfold Tryd.r43
  simp (disch := omega) only [go_sem, ha.one, ha.cells]
  refine ⟨refLayMay_call G l W _ _ (ha.app _) hl ?_⟩
  cases ho : l.ok with
  | true =>
    rw [ho] at hk
    simp (disch := omega) only [go_sem, Bool.not_true]
    exact ret_tail hlow .v hk
  | false =>
    rw [ho] at hk
    simp (disch := omega) only [go_sem, Bool.not_false]
    exact ret_tail hlow .v hk
theorem refChgMay_call (G : Nat → Option AV) (c : Chg) (W1 W2 : AV) (h : AH) (K : AV → AH → Prop) (k1 : Wt h W1 c.was.wts) (k2 : Wt h W2 c.will.wts) (hl1 : c.was.wts.length ≤ 4611686018427387904) (hl2 : c.will.wts.length ≤ 4611686018427387904) (hcl : c.cur.length ≤ 4611686018427387904)
    (hk : K (.v (.bool c.ok)) h) : SCall Tryd.prog G 45 [.agg (c.cells W1 W2)] h K := by
  refine Tryd.c45 G _ h K fun hlow => ?_
  unfold Tryd.r45
  unfold Chg.ok at hk
  simp (disch := omega) only [go_sem, k1.one, k2.one, k1.cells, k2.cells]
  refine ⟨refLayMay_call G c.was W1 _ _ (k1.app _) (by omega) ?_⟩
  cases h1 : c.was.ok with
  | false =>
    simp (disch := omega) only [go_sem]
    simp only [h1, Bool.false_and] at hk
    exact ret_tail hlow .v hk
  | true =>
  have hv := layVer h1
  simp (disch := omega) only [go_sem, k1.one, k2.one, k1.cells, k2.cells]
  refine ⟨refLayMay_call G c.will W2 _ _ (k2.app _) (by omega) ?_⟩
  cases h2 : c.will.ok with
  | false =>
    simp (disch := omega) only [go_sem]
    simp only [h1, h2, Bool.false_and, Bool.and_false] at hk
    exact ret_tail hlow .v hk
  | true =>
  have m1 : ∀ t, aLen Tryd.prog (h ++ t) 22 W1 = some (.v (.int .i64 c.was.wts.length)) := fun t => by
    have := ((k1.app t).ints).len (P := Tryd.prog) (t := 22) Tryd.und22
    rw [List.length_map] at this
    exact this
  have m2 : ∀ t, aLen Tryd.prog (h ++ t) 22 W2 = some (.v (.int .i64 c.will.wts.length)) := fun t => by
    have := ((k2.app t).ints).len (P := Tryd.prog) (t := 22) Tryd.und22
    rw [List.length_map] at this
    exact this
  simp only [h1, h2, Bool.true_and] at hk
  by_cases h3 : c.will.ver = c.was.ver + 1
  rotate_left
  · simp (disch := omega) only [go_sem, h3, m1, m2]
    simp only [h3, decide_false, Bool.false_and] at hk
    exact ret_tail hlow .v hk
  by_cases h4 : c.was.wts.length ≤ c.will.wts.length
  rotate_left
  · simp (disch := omega) only [go_sem, h3, m1, m2]
    simp only [h4, decide_false, Bool.false_and, Bool.and_false] at hk
    exact ret_tail hlow .v hk
  simp only [h3, h4, decide_true, Bool.true_and] at hk
  by_cases h5 : c.cur.length ≤ 64
  rotate_left
  · simp (disch := omega) only [go_sem, h3, m1, m2]
    simp only [h5, decide_false, Bool.false_and] at hk
    exact ret_tail hlow .v hk
  simp only [h5, decide_true, Bool.true_and] at hk
  have e0 : (ByteArray.mk #[]) = bs [] := rfl
  cases hf : c.fin with
  | false =>
    simp (disch := omega) only [go_sem, h3, m1, m2, hf, e0]
    simp only [hf, Bool.false_and, Bool.not_false] at hk
    exact ret_tail hlow .v hk
  | true =>
    by_cases hc : c.cur = []
    · simp (disch := omega) only [go_sem, h3, m1, m2, hf, e0, hc, bs_toList, beq_self_eq_true, Bool.not_true, Bool.not_false]
      simp only [hf, hc, ne_eq, not_true_eq_false, decide_false, Bool.and_false, Bool.not_false] at hk
      exact ret_tail hlow .v hk
    · simp (disch := omega) only [go_sem, h3, m1, m2, hf, e0, bs_toList]
      simp only [hf, hc, ne_eq, not_false_eq_true, decide_true, Bool.and_true, Bool.not_true] at hk
      have hc2 : (c.cur == []) = false := by simp [hc]
      rw [hc2]
      exact ret_tail hlow .v hk
theorem refOwner_call (G : Nat → Option AV) (c : Chg) (key : List UInt8) (W1 W2 : AV) (h : AH) (K : AV → AH → Prop) (k1 : Wt h W1 c.was.wts) (k2 : Wt h W2 c.will.wts) (hl1 : c.was.wts.length ≤ 4611686018427387904) (hl2 : c.will.wts.length ≤ 4611686018427387904) (hcl : c.cur.length ≤ 4611686018427387904) (hkl : key.length ≤ 4611686018427387904)
    (hk : K (.tup [.v (.int .i64 (if c.ok then c.owner key else 0)), .v (.int .i64 (if c.ok then 0 else 70))]) h) : SCall Tryd.prog G 37 [.agg (c.cells W1 W2), .v (.string (bs key))] h K := by
  refine Tryd.c37 G _ _ h K fun hlow => ?_
  unfold Tryd.r37
  simp (disch := omega) only [go_sem, k1.one, k2.one, k1.cells, k2.cells]
  refine ⟨refChgMay_call G c W1 W2 _ _ (k1.app _) (k2.app _) hl1 hl2 hcl ?_⟩
  cases ho : c.ok with
  | false =>
    rw [ho] at hk
    simp (disch := omega) only [go_sem, Bool.not_false]
    exact ret_tail hlow (lowInts _ _ _) hk
  | true =>
    rw [ho] at hk
    obtain ⟨o1, o2, _⟩ := chgOk_out ho
    have r1 := (layVer o1).2.2
    have r2 := (layVer o2).2.2
    simp only [if_true] at hk
    unfold Chg.owner at hk
    cases hf : c.fin with
    | true =>
      rw [hf] at hk
      simp only [true_or, if_true] at hk
      simp (disch := omega) only [go_sem, Bool.not_true, hf, k1.one, k2.one, k1.cells, k2.cells]
      refine ⟨refOf_call G W2 c.will.wts key _ _ (k2.app _).ints hl2 hkl ?_⟩
      simp (disch := omega) only [go_sem, r2, if_true]
      exact ret_tail hlow (lowInts _ _ _) hk
    | false =>
      rw [hf] at hk
      cases hb : Op.bytesLess key c.cur with
      | true =>
        simp only [hb, or_true, if_true] at hk
        simp (disch := omega) only [go_sem, Bool.not_true, hf, bs_toList, hb, k1.one, k2.one, k1.cells, k2.cells]
        refine ⟨refOf_call G W2 c.will.wts key _ _ (k2.app _).ints hl2 hkl ?_⟩
        simp (disch := omega) only [go_sem, r2, if_true]
        exact ret_tail hlow (lowInts _ _ _) hk
      | false =>
        simp only [hb, or_self, Bool.false_eq_true, if_false] at hk
        simp (disch := omega) only [go_sem, Bool.not_true, hf, bs_toList, hb, k1.one, k2.one, k1.cells, k2.cells]
        refine ⟨refOf_call G W1 c.was.wts key _ _ (k1.app _).ints hl1 hkl ?_⟩
        simp (disch := omega) only [go_sem, r1, if_true]
        exact ret_tail hlow (lowInts _ _ _) hk
theorem refTo_call (G : Nat → Option AV) (c : Chg) (s : List UInt8) (W1 W2 : AV) (h : AH) (K : AV → AH → Prop) (k1 : Wt h W1 c.was.wts) (k2 : Wt h W2 c.will.wts) (hl1 : c.was.wts.length ≤ 4611686018427387904) (hl2 : c.will.wts.length ≤ 4611686018427387904) (hcl : c.cur.length ≤ 4611686018427387904) (hsl : s.length ≤ 4611686018427387904)
    (hk1 : ∀ e t, c.to s = (e, none) → e ≠ 0 → K (.tup [.agg (zeroChg.cells nilA nilA), .v (.int .i64 e)]) (h ++ t))
    (hk2 : ∀ c' t, c.to s = (0, some c') → K (.tup [.agg (c'.cells W1 W2), .v (.int .i64 0)]) (h ++ t)) : SCall Tryd.prog G 39 [.agg (c.cells W1 W2), .v (.string (bs s))] h K := by
  refine Tryd.c39 G _ _ h K fun hlow => ?_
  unfold Tryd.r39
  simp (disch := omega) only [go_sem, k1.one, k2.one, k1.cells, k2.cells]
  refine ⟨refChgMay_call G c W1 W2 _ _ (k1.app _) (k2.app _) hl1 hl2 hcl ?_⟩
  unfold Chg.to at hk1 hk2
  cases ho : c.ok with
  | false =>
    rw [ho] at hk1
    simp (disch := omega) only [go_sem, Bool.not_false]
    exact ret_keep (hk1 _ _ rfl (by decide))
  | true =>
    rw [ho] at hk1 hk2
    simp only [Bool.true_eq_false, if_false] at hk1 hk2
    cases hf : c.fin with
    | true =>
      rw [if_pos (.inl hf)] at hk1
      simp (disch := omega) only [go_sem, Bool.not_true, hf]
      exact ret_keep (hk1 _ _ rfl (by decide))
    | false =>
    cases hb : Op.bytesLess s c.cur with
    | true =>
      rw [if_pos (.inr (.inl hb))] at hk1
      simp (disch := omega) only [go_sem, Bool.not_true, hf, bs_toList, hb]
      exact ret_keep (hk1 _ _ rfl (by decide))
    | false =>
    by_cases h64 : s.length > 64
    · rw [if_pos (.inr (.inr h64))] at hk1
      simp (disch := omega) only [go_sem, Bool.not_true, hf, bs_toList, hb]
      exact ret_keep (hk1 _ _ rfl (by decide))
    · rw [if_neg (by simp [hf, hb, h64])] at hk2
      simp (disch := omega) only [go_sem, Bool.not_true, hf, bs_toList, hb]
      have := fun t => hk2 _ t rfl
      unfold Chg.cells at this
      rw [hf] at this
      exact ret_keep (this _)
theorem refEnd_call (G : Nat → Option AV) (c : Chg) (W1 W2 : AV) (h : AH) (K : AV → AH → Prop) (k1 : Wt h W1 c.was.wts) (k2 : Wt h W2 c.will.wts) (hl1 : c.was.wts.length ≤ 4611686018427387904) (hl2 : c.will.wts.length ≤ 4611686018427387904) (hcl : c.cur.length ≤ 4611686018427387904)
    (hk : ∀ t, K (.tup [.agg (if c.ok && c.fin then c.will.cells W2 else Lay.cells ⟨0, []⟩ nilA), .v (.int .i64 (if c.ok then if c.fin then 0 else 1 else 70))]) (h ++ t)) : SCall Tryd.prog G 41 [.agg (c.cells W1 W2)] h K := by
  refine Tryd.c41 G _ h K fun hlow => ?_
  unfold Tryd.r41
  simp (disch := omega) only [go_sem, k1.one, k2.one, k1.cells, k2.cells]
  refine ⟨refChgMay_call G c W1 W2 _ _ (k1.app _) (k2.app _) hl1 hl2 hcl ?_⟩
  cases ho : c.ok with
  | false =>
    simp only [ho, Bool.false_and, Bool.false_eq_true, if_false] at hk
    simp (disch := omega) only [go_sem, Bool.not_false]
    exact ret_keep (hk _)
  | true =>
    cases hf : c.fin with
    | false =>
      simp only [ho, hf, Bool.and_false, Bool.false_eq_true, if_false, if_true] at hk
      simp (disch := omega) only [go_sem, Bool.not_true, hf, Bool.not_false]
      exact ret_keep (hk _)
    | true =>
      simp only [ho, hf, Bool.and_self, if_true] at hk
      simp (disch := omega) only [go_sem, hf, Bool.not_true, k1.one, k2.one, k1.cells, k2.cells]
      exact ret_keep (hk _)
theorem refEqual_call (G : Nat → Option AV) (a b : Lay) (A B : AV) (h : AH) (K : AV → AH → Prop) (k1 : Wt h A a.wts) (k2 : Wt h B b.wts) (hl1 : a.wts.length ≤ 4611686018427387904) (hk : K (.v (.bool (a.same b))) h) : SCall Tryd.prog G 46 [.agg (a.cells A), .agg (b.cells B)] h K := by
  refine Tryd.c46 G _ _ h K fun hlow => ?_
  unfold Tryd.r46
  unfold Lay.same at hk
  have la : ∀ t, aLen Tryd.prog (h ++ t) 22 A = some (.v (.int .i64 a.wts.length)) := fun t => by
    have := ((k1.app t).ints).len (P := Tryd.prog) (t := 22) Tryd.und22
    rw [List.length_map] at this
    exact this
  have lb : ∀ t, aLen Tryd.prog (h ++ t) 22 B = some (.v (.int .i64 b.wts.length)) := fun t => by
    have := ((k2.app t).ints).len (P := Tryd.prog) (t := 22) Tryd.und22
    rw [List.length_map] at this
    exact this
  by_cases hv : a.ver = b.ver
  rotate_left
  · simp (disch := omega) only [go_sem, k1.one, k2.one, k1.cells, k2.cells, hv, Nat.reduceAdd]
    rw [decide_eq_false hv, Bool.false_and] at hk
    exact ret_tail hlow .v hk
  by_cases hlen : a.wts.length = b.wts.length
  rotate_left
  · simp (disch := omega) only [go_sem, k1.one, k2.one, k1.cells, k2.cells, hv, Nat.reduceAdd, la, lb]
    have e : (a.wts == b.wts) = false := by
      simp
      intro he
      exact hlen (by rw [he])
    rw [e, Bool.and_false] at hk
    exact ret_tail hlow .v hk
  simp (disch := omega) only [go_sem, k1.one, k2.one, k1.cells, k2.cells, hv, Nat.reduceAdd, la, lb]
  rw [decide_eq_true hv, Bool.true_and] at hk
  unfold Tryd.r46_l4_21
  generalize ht : [some (AO.cells 45 2 [a.cells A] 0), some (AO.cells 45 2 [b.cells B] 0)] = t
  have g0 : (h ++ t)[h.length]? = some (some (AO.cells 45 2 [a.cells A] 0)) := by rw [← ht]; simp
  have g1 : (h ++ t)[h.length + 1]? = some (some (AO.cells 45 2 [b.cells B] 0)) := by rw [← ht]; simp
  have la := la t
  have lb := lb t
  have ha := (k1.app t).ints
  have hb := (k2.app t).ints
  refine ⟨fun m vs h' => ∃ k : Nat, k ≤ a.wts.length ∧ m = a.wts.length - k ∧ h' = h ++ t ∧ a.wts.take k = b.wts.take k ∧ vs = [.v (.int .i64 k)], a.wts.length, ⟨0, by omega, rfl, rfl, by simp, rfl⟩, ?_⟩
  rintro m h' hl1 hlow2 n ⟨k, hk1, rfl, rfl, hst, hvs⟩
  simp only [List.cons.injEq, AV.v.injEq, Value.int.injEq, true_and, and_true] at hvs
  obtain rfl := hvs
  by_cases hkl : k < a.wts.length
  · obtain ⟨x, hx'⟩ : ∃ x, a.wts[k]? = some x := ⟨_, List.getElem?_eq_getElem hkl⟩
    obtain ⟨y, hy'⟩ : ∃ y, b.wts[k]? = some y := ⟨_, List.getElem?_eq_getElem (by omega)⟩
    obtain ⟨q, q1, q2, _⟩ := ha.iaAll (P := Tryd.prog) (ty := 22) (k := .i64) (i := k) (r := irow x) Tryd.und22 Tryd.siz3 (by omega) (by simp [hx'])
    obtain ⟨p, p1, p2, _⟩ := hb.iaAll (P := Tryd.prog) (ty := 22) (k := .i64) (i := k) (r := irow y) Tryd.und22 Tryd.siz3 (by omega) (by simp [hy'])
    have q1 := q1 []
    have q2 := q2 []
    have p1 := p1 []
    have p2 := p2 []
    rw [List.append_nil] at q1 q2 p1 p2
    by_cases hxy : x = y
    · simp (disch := omega) only [go_sem, g0, g1, k1.one, k2.one, k1.cells, k2.cells, la, lb, q1, q2, p1, p2, hxy]
      refine next_keep (a.wts.length - (k + 1)) (by omega) (Nat.le_refl _) ⟨k + 1, by omega, rfl, rfl, ?_, by simp⟩
      rw [List.take_add_one, List.take_add_one, hst, hx', hy', hxy]
    · simp (disch := omega) only [go_sem, g0, g1, k1.one, k2.one, k1.cells, k2.cells, la, lb, q1, q2, p1, p2, hxy]
      have : (a.wts == b.wts) = false := by
        simp
        intro he
        rw [he] at hx'
        rw [hx'] at hy'
        exact hxy (Option.some.inj hy')
      rw [this] at hk
      exact ret_tail hlow .v hk
  · simp (disch := omega) only [go_sem, g0, g1, k1.one, k2.one, k1.cells, k2.cells, la, lb]
    have : (a.wts == b.wts) = true := by
      rw [List.take_of_length_le (by omega), List.take_of_length_le (by omega)] at hst
      simp [hst]
    rw [this] at hk
    exact ret_tail hlow .v hk
end Go.Proofs

/-
  Layouts and changes: the laws' own helpers, the chapter's example, arguments.
-/
namespace Go.Proofs
open Go Go.Abs
set_option maxRecDepth 100000
set_option linter.unusedSimpArgs false
/-- A heap that has grown. -/
structure Grew (h h' : AH) : Prop where
  ex : ∃ t, h' = h ++ t
theorem Grew.app {h : AH} (t : AH) : Grew h (h ++ t) := ⟨t, rfl⟩
theorem Grew.len {h h' : AH} (g : Grew h h') : h.length ≤ h'.length := by obtain ⟨t, rfl⟩ := g.ex; simp
theorem Grew.lt {h h' : AH} (g : Grew h h') {i : Nat} {o : Option AO} (ho : h[i]? = some o) : i < h'.length := Nat.lt_of_lt_of_le (List.getElem?_eq_some_iff.mp ho).1 g.len
theorem Grew.get {h h' : AH} (g : Grew h h') {i : Nat} {o : Option AO} (ho : h[i]? = some o) : h'[i]? = some o := by
  obtain ⟨t, rfl⟩ := g.ex
  rw [List.getElem?_append_left (List.getElem?_eq_some_iff.mp ho).1]; exact ho
theorem Grew.wt {h h' : AH} (g : Grew h h') {W : AV} {ws : List Int} (w : Wt h W ws) : Wt h' W ws := by obtain ⟨t, rfl⟩ := g.ex; exact w.app t
theorem Grew.ret {h0 h h' : AH} (g : Grew h h') {v : AV} {K : AV → AH → Prop} (hl : LowH h.length h) (hlow : Low h.length v) (hk : K v h) (e : h0 = h) : RetR h0 K v h' := by
  subst e; obtain ⟨t, rfl⟩ := g.ex; exact ret_tail hl hlow hk
theorem Grew.trans {h h' h'' : AH} (g : Grew h h') (k : Grew h' h'') : Grew h h'' := by
  obtain ⟨t, rfl⟩ := g.ex; obtain ⟨u, rfl⟩ := k.ex; exact ⟨t ++ u, by simp⟩
theorem Grew.gets {h h' : AH} (g : Grew h h') {i : Nat} {o : Option AO} (ho : h[i]? = some o) : ∀ u, (h' ++ u)[i]? = some o := fun u => (g.trans (.app u)).get ho
theorem Grew.set {h h' : AH} (g : Grew h h') {i : Nat} {o : Option AO} (hi : h.length ≤ i) : Grew h (h'.set i o) := by
  obtain ⟨t, rfl⟩ := g.ex
  exact ⟨t.set (i - h.length) o, by rw [List.set_append, if_neg (by omega)]⟩
theorem Grew.cons {h : AH} {a : Option AO} {t : AH} : Grew h (h ++ a :: t) := ⟨_, rfl⟩
theorem buildTheirs {a b c d s x : AV} {y : ByteArray} {z : Bool} (h1 : s = .v (.string y)) (h2 : x = .v (.bool z)) :
    aBuild Tryd.prog 48 [(0, some (.agg [a, b])), (1, some (.agg [c, d])), (2, some s), (3, some x)] = some (.agg [a, b, c, d, s, x]) := by
  subst h1 h2
  unfold aBuild
  have hz : zer Tryd.prog 48 = some (.agg [.v (.int .i64 0), .v (.slice none 0 0), .v (.int .i64 0), .v (.slice none 0 0), .v (.string (ByteArray.mk #[])), .v (.bool false)]) := by kernel_rfl
  rw [hz, Tryd.und48]
  simp [aFill, placeOf, setAt, chk, AV.one, AV.cells, Tryd.siz45, Tryd.siz4, Tryd.siz9]
theorem buildOurs {a b c d s x : AV} {y : ByteArray} {z : Bool} (h1 : s = .v (.string y)) (h2 : x = .v (.bool z)) :
    aBuild Tryd.prog 50 [(0, some (.agg [a, b])), (1, some (.agg [c, d])), (2, some s), (3, some x)] = some (.agg [a, b, c, d, s, x]) := by
  subst h1 h2
  unfold aBuild
  have hz : zer Tryd.prog 50 = some (.agg [.v (.int .i64 0), .v (.slice none 0 0), .v (.int .i64 0), .v (.slice none 0 0), .v (.string (ByteArray.mk #[])), .v (.bool false)]) := by kernel_rfl
  rw [hz, Tryd.und50]
  simp [aFill, placeOf, setAt, chk, AV.one, AV.cells, Tryd.siz45, Tryd.siz4, Tryd.siz9]
theorem theirs_call (G : Nat → Option AV) (c : Chg) (W1 W2 : AV) (h : AH) (K : AV → AH → Prop) (k1 : ∀ h, Wt h W1 c.was.wts) (k2 : ∀ h, Wt h W2 c.will.wts)
    (hk : ∀ t, K (.agg (c.cells W1 W2)) (h ++ t)) : SCall Tryd.prog G 34 [.agg (c.cells W1 W2)] h K := by
  refine Tryd.c34 G _ h K fun hlow => ?_
  unfold Tryd.r34
  have n1 := (k1 h).one
  have n2 := (k2 h).one
  have c1 := (k1 h).cells
  have c2 := (k2 h).cells
  simp (disch := omega) only [go_sem, n1, n2, c1, c2]
  rw [buildTheirs rfl rfl]
  simp (disch := omega) only [go_sem, n1, n2, c1, c2, Nat.reduceAdd]
  exact ret_keep (hk _)
theorem ours_call (G : Nat → Option AV) (c : Chg) (W1 W2 : AV) (h : AH) (K : AV → AH → Prop) (k1 : ∀ h, Wt h W1 c.was.wts) (k2 : ∀ h, Wt h W2 c.will.wts)
    (hk : ∀ t, K (.agg (c.cells W1 W2)) (h ++ t)) : SCall Tryd.prog G 35 [.agg (c.cells W1 W2)] h K := by
  refine Tryd.c35 G _ h K fun hlow => ?_
  unfold Tryd.r35
  have n1 := (k1 h).one
  have n2 := (k2 h).one
  have c1 := (k1 h).cells
  have c2 := (k2 h).cells
  simp (disch := omega) only [go_sem, n1, n2, c1, c2]
  rw [buildOurs rfl rfl]
  simp (disch := omega) only [go_sem, n1, n2, c1, c2, Nat.reduceAdd]
  exact ret_keep (hk _)
theorem lyWorks_call (G : Nat → Option AV) (hG : GTab G) (h : AH) (K : AV → AH → Prop) (hk : K (.v (.bool true)) h) : SCall Tryd.prog G 48 [] h K := by
  refine Tryd.c48 G h K fun hlow => ?_
  unfold Tryd.r48
  have e97 : (ByteArray.mk #[97]) = bs [97] := rfl
  have e109 : (ByteArray.mk #[109]) = bs [109] := rfl
  have e122 : (ByteArray.mk #[122]) = bs [122] := rfl
  have e0 : (ByteArray.mk #[]) = bs [] := rfl
  have k1 : ringOk [1] = true := by decide
  have k2 : ringOk [0, 1] = true := by decide
  obtain ⟨c1, c2, _, c3⟩ := ofK_at (dig := Lib.itoa) (ws := [1]) (key := [122]) k1
  obtain ⟨d1, d2, d4, d3⟩ := ofK_at (dig := Lib.itoa) (ws := [0, 1]) (key := [97]) k2
  have hc1 : c1 = 0 := by simp at c2; exact c2
  have hd1 : d1 = 1 := by
    simp only [List.length_cons, List.length_nil] at d2
    match d1, d2, d4 with
    | 0, _, d4 => simp at d4
    | 1, _, _ => rfl
  subst hc1 hd1
  simp (disch := omega) only [go_sem, e97, e109, e122, e0, Nat.reduceAdd]
  generalize hX : (AV.sl h.length 0 0 1 none) = X
  generalize hY : (AV.sl (h.length + 1) 0 0 2 none) = Y
  have X1 : X.one = true := by rw [← hX]; rfl
  have X2 : X.cells = [X] := by rw [← hX]; rfl
  have Y1 : Y.one = true := by rw [← hY]; rfl
  have Y2 : Y.cells = [Y] := by rw [← hY]; rfl
  have wX : ∀ t, Wt (h ++ some (.cells 3 1 [[.v (.int .i64 1)]] 0) :: some (.cells 3 1 [[.v (.int .i64 0)], [.v (.int .i64 1)]] 0) :: t) X [1] := fun t =>
    ⟨by rw [← hX]; exact Sees.all (rows := [irow 1]) (by simp) (by simp; rfl), X1, X2⟩
  have wY : ∀ t, Wt (h ++ some (.cells 3 1 [[.v (.int .i64 1)]] 0) :: some (.cells 3 1 [[.v (.int .i64 0)], [.v (.int .i64 1)]] 0) :: t) Y [0, 1] := fun t =>
    ⟨by rw [← hY]; exact Sees.all (rows := [irow 0, irow 1]) (by simp) (by simp; rfl), Y1, Y2⟩
  let c : Chg := ⟨⟨1, [1]⟩, ⟨2, [0, 1]⟩, [109], false⟩
  let c' : Chg := ⟨⟨1, [1]⟩, ⟨2, [0, 1]⟩, [], true⟩
  have ok : c.ok = true := by decide
  have ok' : c'.ok = true := by decide
  have o1 : c.owner [97] = 1 := by unfold Chg.owner; rw [if_pos (.inr (by decide))]; exact d3
  have o2 : c.owner [122] = 0 := by unfold Chg.owner; rw [if_neg (by decide)]; exact c3
  refine ⟨Owner_call G hG c [97] X Y _ _ (wX _) (wY _) (by simp [c]) (by simp [c]) (by simp [c]) (by simp) ?_⟩
  simp (disch := omega) only [go_sem, ok, if_true, o1, Nat.reduceAdd]
  refine ⟨Owner_call G hG c [122] X Y _ _ (wX _) (wY _) (by simp [c]) (by simp [c]) (by simp [c]) (by simp) ?_⟩
  simp (disch := omega) only [go_sem, ok, if_true, o2, Nat.reduceAdd, X1, X2, Y1, Y2]
  refine ⟨End_call G c' X Y _ _ (wX _) (wY _) (by simp [c']) (by simp [c']) (by simp [c']) fun t => ?_⟩
  generalize hH : (h ++ _ ++ t) = H
  have g : Grew _ H := ⟨t, hH.symm⟩
  have w1 := g.wt (wX _)
  have w2 := g.wt (wY _)
  have g4 := g.gets (i := h.length + 2) (o := some (.cells 48 6 [c'.cells X Y] 0)) (by simp; exact ⟨rfl, rfl, rfl, rfl⟩)
  have gl := g.lt (i := h.length + 2) (o := some (.cells 48 6 [c'.cells X Y] 0)) (by simp; exact ⟨rfl, rfl, rfl, rfl⟩)
  have gh : Grew h H := by rw [← hH, List.append_assoc]; exact ⟨_, rfl⟩
  simp (disch := omega) only [go_sem, ok', Bool.and_self, show c'.fin = true from rfl, if_true, Nat.reduceAdd, X1, X2, Y1, Y2, g4, show c'.will.ver = 2 from rfl]
  refine ⟨Equal_call G c'.will c'.will Y Y _ _ (w2.app _) (w2.app _) (by simp [c']) ?_⟩
  have hs : c'.will.same c'.will = true := by decide
  simp (disch := omega) only [go_sem, hs]
  exact (gh.trans (Grew.app _)).ret hlow .v hk rfl
/-- An argument: a change. -/
theorem in_chg {xs : List AV} (hx : In Tryd.prog 47 xs) : ∃ (c : Chg) (W1 W2 : AV), xs = c.cells W1 W2 ∧ (∀ h, Wt h W1 c.was.wts) ∧ (∀ h, Wt h W2 c.will.wts) ∧ c.was.wts.length ≤ 17592186044415 ∧ c.will.wts.length ≤ 17592186044415 ∧ c.cur.length ≤ 140737488351232 := by
  obtain ⟨hl, hf⟩ := in_struct Tryd.und47 hx
  rw [show Tryd.prog.cellsOf 47 = 6 by kernel_rfl] at hl
  have cL : Tryd.prog.cellsOf 45 = 2 := by kernel_rfl
  have c3 : Tryd.prog.cellsOf 3 = 1 := by kernel_rfl
  have c31 : Tryd.prog.cellsOf 22 = 1 := by kernel_rfl
  have c9 : Tryd.prog.cellsOf 9 = 1 := by kernel_rfl
  have c4 : Tryd.prog.cellsOf 4 = 1 := by kernel_rfl
  have hr : reachBytes = 140737488351232 + 0 := by decide
  match xs, hl with
  | [x0, x1, x2, x3, x4, x5], _ =>
    simp only [List.mem_cons, List.not_mem_nil, or_false, forall_eq_or_imp, forall_eq, cL, c9, c4, List.drop_zero, List.drop_succ_cons, List.take_succ_cons, List.take_zero] at hf
    obtain ⟨f0, f1, f2, f3⟩ := hf
    obtain ⟨_, g0⟩ := in_struct Tryd.und45 f0
    obtain ⟨_, g1⟩ := in_struct Tryd.und45 f1
    simp only [List.mem_cons, List.not_mem_nil, or_false, forall_eq_or_imp, forall_eq, c3, c31, List.drop_zero, List.drop_succ_cons, List.take_succ_cons, List.take_zero] at g0 g1
    obtain ⟨n0, h0, _⟩ := in_int Tryd.und3 g0.1
    obtain ⟨n2, h2, _⟩ := in_int Tryd.und3 g1.1
    obtain ⟨a, ws, h1, a1, a2, a3, a4, _⟩ := in_weights g0.2
    obtain ⟨b, us, h3, b1, b2, b3, b4, _⟩ := in_weights g1.2
    obtain ⟨s, h4, h5⟩ := in_str Tryd.und9 f2
    obtain ⟨z, h6⟩ := in_bool Tryd.und4 f3
    simp only [List.cons.injEq, and_true] at h0 h1 h2 h3 h4 h6
    have h9 : s.data.toList.length = s.size := rfl
    exact ⟨⟨⟨n0, ws⟩, ⟨n2, us⟩, s.data.toList, z⟩, a, b, by rw [h0, h1, h2, h3, h4, h6], fun h => ⟨a3 h, a1, a2⟩, fun h => ⟨b3 h, b1, b2⟩, a4, b4, (by simp only; omega)⟩
theorem argChg {xs : List AV} : argA Tryd.prog 47 xs = .agg xs := by unfold argA; rw [Tryd.und47]
end Go.Proofs

/-
  Contracts: keys that rise, and where one would lie among them.
-/
namespace Go.Abs
section
variable {P : Program} {h : AH} {ty e : TypeId} {n : Nat} {a : AV} {rows : List (List AV)}
/-- Cut off ahead and behind. -/
theorem Sees.cut (s : Sees h n a rows) (hu : und P ty = .slice e) (hn : siz P e = some n) {k k' : IntKind} {lo hi : Nat} (hlo : lo ≤ hi) (hhi : hi ≤ rows.length) :
    ∃ a', (∀ t, aSlice P (h ++ t) ty a (some (some (.v (.int k lo)))) (some (some (.v (.int k' hi)))) none = some a') ∧ Sees h n a' ((rows.drop lo).take (hi - lo)) := by
  obtain ⟨hr, ⟨rfl, rfl⟩ | ⟨f, nn, rfl⟩ | ⟨id, gen, off, cap, e', rs, rfl, h1, h2, h3, h5⟩⟩ := s
  · have h0 : hi = 0 := by simpa using hhi
    subst h0
    have : lo = 0 := by omega
    subst this
    refine ⟨.v (.slice none 0 0), fun t => ?_, ⟨by simp, .inl ⟨rfl, by simp⟩⟩⟩
    simp [aSlice, hu, hn, bnd, chk]
  · refine ⟨.lst ((rows.drop lo).take (hi - lo)) (f && ((hi : Int) == (rows.length : Int))) nn, fun t => ?_, Sees.lst fun r hm => hr r (List.mem_of_mem_drop (List.mem_of_mem_take hm))⟩
    simp only [aSlice, hu, hn, bnd, chk]
    rw [if_pos ⟨by omega, by omega, by omega, hr⟩]
    simp
  · have h1' : ∀ t : AH, (h ++ t)[id]? = some (some (.cells e' n rs gen)) := fun t => by rw [List.getElem?_append_left (List.getElem?_eq_some_iff.mp h1).1]; exact h1
    refine ⟨.sl id gen (off + lo) (hi - lo) (cap.map (· - lo)), fun t => ?_, ?_⟩
    · have hroom : ((rows.length : Nat) : Int) ≤ roomOf rs off rows.length cap := by
        cases cap with
        | none => simp only [roomOf]; omega
        | some c => simp only [roomOf]; have := h5 c rfl; omega
      simp only [aSlice, hu, hn, bnd, h1', chk]
      rw [if_pos ⟨trivial, trivial, by omega, by omega, by omega⟩]
      simp
    · have hlen : ((rows.drop lo).take (hi - lo)).length = hi - lo := by simp; omega
      refine ⟨fun r hm => hr r (List.mem_of_mem_drop (List.mem_of_mem_take hm)), .inr (.inr ⟨id, gen, off + lo, cap.map (· - lo), e', rs, by rw [hlen], h1, by rw [hlen]; omega, ?_, ?_⟩)⟩
      · have h3' : (rows.drop lo).take (hi - lo) = (((rs.drop off).take rows.length).drop lo).take (hi - lo) := by rw [h3]
        rw [hlen, ← List.drop_drop, h3', List.drop_take, List.take_take, Nat.min_eq_left (by omega)]
      · intro c hc
        rw [hlen]
        cases cap with
        | none => cases hc
        | some c0 =>
          simp only [Option.map_some, Option.some.injEq] at hc
          have := h5 c0 rfl
          omega
end
end Go.Abs
namespace Go.Proofs
open Go Go.Abs
set_option maxRecDepth 100000
set_option linter.unusedSimpArgs false
theorem less_trans {a b c : List UInt8} (h1 : Op.bytesLess a b = true) (h2 : Op.bytesLess b c = true) : Op.bytesLess a c = true := by
  rw [bytesLess_eq] at *
  exact decide_eq_true (List.lt_trans (of_decide_eq_true h1) (of_decide_eq_true h2))
/-- A key of its own, and above the one ahead. -/
def goodAt (keys : List (List UInt8)) (k : Nat) : Bool := !(keys.getD k [] == []) && decide ((keys.getD k []).length ≤ 64) && (decide (k = 0) || Op.bytesLess (keys.getD (k - 1) []) (keys.getD k []))
def riseB (keys : List (List UInt8)) : Bool := (List.range keys.length).all (goodAt keys)
theorem riseB_iff {keys : List (List UInt8)} : riseB keys = true ↔ ∀ k, k < keys.length → goodAt keys k = true := by
  unfold riseB
  simp
theorem rise_less {keys : List (List UInt8)} (h : riseB keys = true) {i : Nat} : ∀ {j : Nat}, i < j → j < keys.length → Op.bytesLess (keys.getD i []) (keys.getD j []) = true := by
  intro j
  induction j with
  | zero => intro h; omega
  | succ j ih =>
    intro hij hj
    have hg := riseB_iff.mp h (j + 1) hj
    unfold goodAt at hg
    simp only [Bool.and_eq_true, Bool.or_eq_true, decide_eq_true_eq, Nat.add_sub_cancel] at hg
    have h3 : Op.bytesLess (keys.getD j []) (keys.getD (j + 1) []) = true := by rcases hg.2 with h | h; · omega
                                                                                · exact h
    by_cases he : i = j
    · subst he; exact h3
    · exact less_trans (ih (by omega) (by omega)) h3
theorem strAll {h : AH} {a : AV} {keys : List (List UInt8)} (hb : Sees h 1 a (keys.map srow)) {k : Nat} {s : List UInt8} (hs : keys[k]? = some s) : ∃ q, (∀ t, aIA Tryd.prog (h ++ t) 23 a (.v (.int .i64 (k : Int))) = some q) ∧ ∀ t, Go.Abs.rowAt (h ++ t) q = some (srow s, 0) := by
  obtain ⟨q, q1, q2, _⟩ := hb.iaAll (P := Tryd.prog) (ty := 23) (k := .i64) (i := k) (r := srow s) Tryd.und23 Tryd.siz9 (by omega) (by simp [hs])
  exact ⟨q, q1, q2⟩
theorem rise_call (G : Nat → Option AV) (a : AV) (keys : List (List UInt8)) (h : AH) (K : AV → AH → Prop) (ha : Sees h 1 a (keys.map srow)) (hl : keys.length ≤ 17592186044415) (hkl : ∀ k ∈ keys, k.length ≤ 4611686018427387904)
    (hk : K (.v (.bool (riseB keys))) h) : SCall Tryd.prog G 87 [a] h K := by
  refine Tryd.c87 G _ h K fun hlow => ?_
  unfold Tryd.r87
  have lc : aLen Tryd.prog h 23 a = some (.v (.int .i64 keys.length)) := by
    have := ha.len (P := Tryd.prog) (t := 23) Tryd.und23
    rw [List.length_map] at this
    exact this
  have e0 : (ByteArray.mk #[]) = bs [] := rfl
  simp (disch := omega) only [go_sem, lc]
  unfold Tryd.r87_l2_1
  refine ⟨fun m vs h' => ∃ k : Nat, k ≤ keys.length ∧ m = keys.length - k ∧ h' = h ∧ (∀ j, j < k → goodAt keys j = true) ∧ vs = [.v (.int .i64 k)], keys.length, ⟨0, by omega, rfl, rfl, by simp, rfl⟩, ?_⟩
  rintro m h' hl1 hlow2 n ⟨k, hk1, rfl, rfl, hgood, hvs⟩
  simp only [List.cons.injEq, AV.v.injEq, Value.int.injEq, true_and, and_true] at hvs
  obtain rfl := hvs
  by_cases hkk : k < keys.length
  rotate_left
  · have : riseB keys = true := riseB_iff.mpr fun j hj => hgood j (by omega)
    rw [this] at hk
    simp (disch := omega) only [go_sem]
    exact ret_same hk
  obtain ⟨s, hs⟩ : ∃ s, keys[k]? = some s := ⟨_, List.getElem?_eq_getElem hkk⟩
  have hsg : keys.getD k [] = s := by rw [List.getD_eq_getElem?_getD, hs]; rfl
  have hsl := hkl s (List.mem_of_getElem? hs)
  obtain ⟨q, q1, q2⟩ := strAt ha hs
  have bad : goodAt keys k = false → RetR h' K (.v (.bool false)) h' := fun hg => by
    have : riseB keys = false := by
      cases hr : riseB keys with
      | false => rfl
      | true => rw [riseB_iff.mp hr k hkk] at hg; cases hg
    rw [this] at hk
    exact ret_same hk
  have ew : IntKind.i64.wrap ((k : Int) + 1) = ((k + 1 : Nat) : Int) := by rw [wrap64_of (by omega) (by omega)]; omega
  unfold goodAt at bad
  rw [hsg] at bad
  by_cases h1 : s = []
  · subst h1
    simp (disch := omega) only [go_sem, lc, q1, q2, e0, bs_toList, beq_self_eq_true]
    exact bad rfl
  have h1' : (s == []) = false := by simp [h1]
  by_cases h2 : s.length > 64
  · simp (disch := omega) only [go_sem, lc, q1, q2, e0, bs_toList, h1']
    exact bad (by simp [h1]; omega)
  by_cases h3 : k = 0
  · subst h3
    simp (disch := omega) only [go_sem, lc, q1, q2, e0, bs_toList, h1', ew]
    refine next_keep (keys.length - 1) (by omega) (Nat.le_refl _) ⟨1, by omega, rfl, rfl, ?_, rfl⟩
    intro j hj
    have : j = 0 := by omega
    subst this
    unfold goodAt
    rw [hsg]
    simp [h1]
    omega
  obtain ⟨u, hu⟩ : ∃ u, keys[k - 1]? = some u := ⟨_, List.getElem?_eq_getElem (by omega)⟩
  have hug : keys.getD (k - 1) [] = u := by rw [List.getD_eq_getElem?_getD, hu]; rfl
  obtain ⟨p, p1, p2⟩ := strAt ha hu
  have ek : ((k - 1 : Nat) : Int) = (k : Int) - 1 := by omega
  have e3 : IntKind.i64.wrap ((k : Int) - 1) = (k : Int) - 1 := wrap64_of (by omega) (by omega)
  rw [ek] at p1
  rw [hug] at bad
  cases hb : Op.bytesLess u s with
  | false =>
    simp (disch := omega) only [go_sem, lc, q1, q2, e0, bs_toList, h1', ew, e3, p1, p2, hb]
    exact bad (by simp [h1, h3, hb])
  | true =>
    simp (disch := omega) only [go_sem, lc, q1, q2, e0, bs_toList, h1', ew, e3, p1, p2, hb]
    refine next_keep (keys.length - (k + 1)) (by omega) (Nat.le_refl _) ⟨k + 1, by omega, rfl, rfl, ?_, rfl⟩
    intro j hj
    by_cases hjk : j = k
    · subst hjk
      unfold goodAt
      rw [hsg, hug]
      simp [h1, hb]
      omega
    · exact hgood j (by omega)
theorem isNaN1_call (G : Nat → Option AV) (s : List UInt8) (h : AH) (K : AV → AH → Prop) (hk : K (.v (.bool false)) h) : SCall Tryd.prog G 156 [.v (.string (bs s))] h K := by
  refine Tryd.c156 G _ h K fun hlow => ?_
  unfold Tryd.r156
  simp (disch := omega) only [go_sem, beq_self_eq_true]
  exact ret_same hk
theorem isNaN2_call (G : Nat → Option AV) (s : List UInt8) (h : AH) (K : AV → AH → Prop) (hk : K (.v (.bool false)) h) : SCall Tryd.prog G 122 [.v (.string (bs s))] h K := by
  refine Tryd.c122 G _ h K fun hlow => ?_
  unfold Tryd.r122
  simp (disch := omega) only [go_sem, beq_self_eq_true]
  exact ret_same hk
theorem Less_call (G : Nat → Option AV) (a b : List UInt8) (h : AH) (K : AV → AH → Prop) (hk : K (.v (.bool (Op.bytesLess a b))) h) : SCall Tryd.prog G 121 [.v (.string (bs a)), .v (.string (bs b))] h K := by
  refine Tryd.c121 G _ _ h K fun hlow => ?_
  unfold Tryd.r121
  simp (disch := omega) only [go_sem]
  refine ⟨isNaN1_call G a _ _ ?_⟩
  simp (disch := omega) only [go_sem, bs_toList]
  exact ret_same hk
/-- Where a key would lie. -/
structure LbAt (keys : List (List UInt8)) (cur : List UInt8) (k : Nat) : Prop where
  le : k ≤ keys.length
  lo : ∀ j, j < k → Op.bytesLess (keys.getD j []) cur = true
  hi : ∀ j, k ≤ j → j < keys.length → Op.bytesLess (keys.getD j []) cur = false
theorem bsearch_call (G : Nat → Option AV) (a : AV) (keys : List (List UInt8)) (cur : List UInt8) (h : AH) (K : AV → AH → Prop) (ha : Sees h 1 a (keys.map srow)) (hl : keys.length ≤ 17592186044415) (hr : riseB keys = true)
    (hk : ∀ k b, LbAt keys cur k → K (.tup [.v (.int .i64 (k : Nat)), .v (.bool b)]) h) : SCall Tryd.prog G 88 [a, .v (.string (bs cur))] h K := by
  refine Tryd.c88 G _ _ h K fun hlow => ?_
  unfold Tryd.r88
  have lc : aLen Tryd.prog h 23 a = some (.v (.int .i64 keys.length)) := by
    have := ha.len (P := Tryd.prog) (t := 23) Tryd.und23
    rw [List.length_map] at this
    exact this
  simp (disch := omega) only [go_sem, lc]
  unfold Tryd.r88_l3_1
  refine ⟨fun m vs h' => ∃ i j : Nat, i ≤ j ∧ j ≤ keys.length ∧ m = j - i ∧ h' = h ∧ (∀ k, k < i → Op.bytesLess (keys.getD k []) cur = true) ∧ (∀ k, j ≤ k → k < keys.length → Op.bytesLess (keys.getD k []) cur = false) ∧ vs = [.v (.int .i64 i), .v (.int .i64 j)], keys.length, ⟨0, keys.length, by omega, by omega, rfl, rfl, by simp, (by intro k hk hp; omega), rfl⟩, ?_⟩
  rintro m h' hl1 hlow2 n n' ⟨i, j, hij, hj, rfl, rfl, hlo, hhi, hvs⟩
  simp only [List.cons.injEq, AV.v.injEq, Value.int.injEq, true_and, and_true] at hvs
  obtain ⟨rfl, rfl⟩ := hvs
  by_cases hlt : i < j
  · have e1 : IntKind.i64.wrap ((i : Int) + (j : Int)) = ((i + j : Nat) : Int) := by rw [wrap64_of (by omega) (by omega)]; omega
    have e2 : IntKind.u64.wrap ((i + j : Nat) : Int) = ((i + j : Nat) : Int) := by
      simp [IntKind.wrap, IntKind.bits, IntKind.signed]; omega
    have e3 : (((i + j : Nat) : Int)).fdiv 2 = (((i + j) / 2 : Nat) : Int) := by
      rw [Int.fdiv_eq_ediv_of_nonneg _ (by omega)]; omega
    have e4 : IntKind.i64.wrap ((((i + j) / 2 : Nat)) : Int) = (((i + j) / 2 : Nat) : Int) := wrap64_of (by omega) (by omega)
    have hmid : (i + j) / 2 < keys.length := by omega
    obtain ⟨p, hp⟩ : ∃ p, keys[(i + j) / 2]? = some p := ⟨_, List.getElem?_eq_getElem hmid⟩
    have hpg : keys.getD ((i + j) / 2) [] = p := by rw [List.getD_eq_getElem?_getD, hp]; rfl
    obtain ⟨q, q1, q2⟩ := strAt ha hp
    simp (disch := omega) only [go_sem, e1, e2, ↓shr_half, e3, e4, q1, q2]
    refine ⟨Less_call G p cur _ _ ?_⟩
    cases hc : Op.bytesLess p cur with
    | true =>
      simp (disch := omega) only [go_sem, e4]
      have e5 : (((i + j) / 2 : Nat) : Int) + 1 = (((i + j) / 2 + 1 : Nat) : Int) := by omega
      rw [e5]
      refine next_keep (j - ((i + j) / 2 + 1)) (by omega) (Nat.le_refl _) ⟨(i + j) / 2 + 1, j, by omega, hj, rfl, rfl, ?_, hhi, rfl⟩
      intro k hk'
      by_cases he : k = (i + j) / 2
      · subst he; rw [hpg]; exact hc
      · have := rise_less hr (i := k) (j := (i + j) / 2) (by omega) hmid
        rw [hpg] at this
        exact less_trans this hc
    | false =>
      simp (disch := omega) only [go_sem, e4]
      refine next_keep ((i + j) / 2 - i) (by omega) (Nat.le_refl _) ⟨i, (i + j) / 2, by omega, by omega, rfl, rfl, hlo, ?_, rfl⟩
      intro k hk' hkl
      by_cases he : k = (i + j) / 2
      · subst he; rw [hpg]; exact hc
      · have := rise_less hr (i := (i + j) / 2) (j := k) (by omega) hkl
        rw [hpg] at this
        cases hd : Op.bytesLess (keys.getD k []) cur with
        | false => rfl
        | true => rw [less_trans this hd] at hc; cases hc
  · have hij2 : i = j := by omega
    subst hij2
    have lb : LbAt keys cur i := ⟨hj, hlo, hhi⟩
    by_cases hin : i < keys.length
    · obtain ⟨p, hp⟩ : ∃ p, keys[i]? = some p := ⟨_, List.getElem?_eq_getElem hin⟩
      obtain ⟨q, q1, q2⟩ := strAt ha hp
      by_cases he : p = cur
      · simp (disch := omega) only [go_sem, q1, q2, bs_toList, he, beq_self_eq_true]
        exact ret_same (hk _ _ lb)
      · have he' : (p == cur) = false := by simp [he]
        simp (disch := omega) only [go_sem, q1, q2, bs_toList, he']
        refine ⟨isNaN2_call G p _ _ ?_⟩
        simp (disch := omega) only [go_sem, q1, q2, bs_toList, he']
        exact ret_same (hk _ _ lb)
    · simp (disch := omega) only [go_sem]
      exact ret_same (hk _ _ lb)
end Go.Proofs

/-
  Contracts: which keys move next.
-/
namespace Go.Proofs
open Go Go.Abs
set_option maxRecDepth 100000
set_option linter.unusedSimpArgs false
theorem LbAt.uniq {keys : List (List UInt8)} {cur : List UInt8} {k k' : Nat} (a : LbAt keys cur k) (b : LbAt keys cur k') : k = k' := by
  rcases Nat.lt_trichotomy k k' with h | h | h
  · have h1 := b.lo k h
    have := b.le
    rw [a.hi k (Nat.le_refl _) (by omega)] at h1; cases h1
  · exact h
  · have h1 := a.lo k' h
    have := a.le
    rw [b.hi k' (Nat.le_refl _) (by omega)] at h1; cases h1
/-- Which keys move, of those from a place on. -/
def mvFrom (f g : List UInt8 → Int) (keys : List (List UInt8)) (lo : Nat) : Nat → List Int
  | 0 => []
  | k + 1 => mvFrom f g keys lo k ++ if f (keys.getD (lo + k) []) ≠ g (keys.getD (lo + k) []) then [((lo + k : Nat) : Int)] else []
theorem mvFrom_len (f g : List UInt8 → Int) (keys : List (List UInt8)) (lo : Nat) : ∀ k, (mvFrom f g keys lo k).length ≤ k
  | 0 => by simp [mvFrom]
  | k + 1 => by
    have := mvFrom_len f g keys lo k
    simp only [mvFrom, List.length_append]
    split <;> simp <;> omega
theorem getD_cut {keys : List (List UInt8)} {lo m k : Nat} (hk : k < m) : ((keys.drop lo).take m).getD k [] = keys.getD (lo + k) [] := by
  rw [List.getD_eq_getElem?_getD, List.getD_eq_getElem?_getD, List.getElem?_take_of_lt hk, List.getElem?_drop]
theorem movedTo_cut (f g : List UInt8 → Int) (keys : List (List UInt8)) (lo m : Nat) : ∀ k, k ≤ m → (movedTo f g ((keys.drop lo).take m) k).map (fun x => (lo : Int) + x) = mvFrom f g keys lo k
  | 0, _ => rfl
  | k + 1, hk => by
    simp only [movedTo, mvFrom, List.map_append, movedTo_cut f g keys lo m k (by omega), getD_cut (keys := keys) (lo := lo) (show k < m by omega)]
    congr 1
    split
    · simp
    · rfl
/-- What Next answers: the place behind. -/
def nextM (keys : List (List UInt8)) (most : Int) (f : Nat) : Nat := min most.toNat (keys.length - f)
theorem lowNext (n : Nat) (s : ByteArray) (d : Bool) (e : Int) : Low n (.tup [.v (.string s), .v (.slice none 0 0), .v (.bool d), .v (.int .i64 e)]) := .tup (by intro v hv; simp at hv; rcases hv with rfl | rfl | rfl | rfl <;> exact .v)
theorem next_loop (G : Nat → Option AV) (a1 v32 : AV) (keys : List (List UInt8)) (f m : Nat) (L : List Int) (h H : AH) (K : AV → AH → Prop) (ha : Sees H 1 a1 (keys.map srow)) (hs : Ints H v32 L) (hL : L.length ≤ m) (hLm : ∀ x ∈ L, 0 ≤ x ∧ x < m) (hfm : f + m ≤ keys.length) (hl : keys.length ≤ 8796093022207)
    (hk : ∀ v h', AccR 3 1 H v h' ((L.map (fun x => (f : Int) + x)).map irow) → K (.tup [.v (.string (bs (keys.getD (f + m) []))), v, .v (.bool (!decide (f + m < keys.length))), .v (.int .i64 0)]) h') : Tryd.r49_l12_35 K h a1 (f : Nat) (m : Nat) H v32 L.length (.v (.slice none 0 0)) 0 := by
  unfold Tryd.r49_l12_35
  have e0 : (ByteArray.mk #[]) = bs [] := rfl
  refine ⟨fun mm vs h' => ∃ (k : Nat) (v : AV), k ≤ L.length ∧ mm = L.length - k ∧ AccR 3 1 H v h' (((L.take k).map (fun x => (f : Int) + x)).map irow) ∧ vs = [v, .v (.int .i64 k)], L.length, ⟨0, _, by omega, rfl, (by have := AccR.nil (e := 3) (n := 1) (h := H) (t := []); rw [List.append_nil] at this; exact this), rfl⟩, ?_⟩
  rintro mm h' hl1 hlow2 v n ⟨k, v', hk1', rfl, acc, hvs⟩
  simp only [List.cons.injEq, AV.v.injEq, Value.int.injEq, true_and, and_true] at hvs
  obtain ⟨rfl, rfl⟩ := hvs
  have up : ∀ {n : Nat} {a : AV} {rows : List (List AV)}, Sees H n a rows → Sees h' n a rows := by
    obtain ⟨tl, rfl⟩ := acc.tail
    exact fun s => s.app tl
  have ewm : IntKind.i64.wrap ((f : Int) + (m : Int)) = ((f + m : Nat) : Int) := by rw [wrap64_of (by omega) (by omega)]; omega
  by_cases hkk : k < L.length
  · obtain ⟨x, hx⟩ : ∃ x, L[k]? = some x := ⟨_, List.getElem?_eq_getElem hkk⟩
    have hxm := hLm x (List.mem_of_getElem? hx)
    obtain ⟨q, q1, q2, _⟩ := (up hs).iaAll (P := Tryd.prog) (ty := 22) (k := .i64) (i := k) (r := irow x) Tryd.und22 Tryd.siz3 (by omega) (by simp [hx])
    have q1 := q1 []
    have q2 := q2 []
    rw [List.append_nil] at q1 q2
    have ew : IntKind.i64.wrap ((k : Int) + 1) = ((k + 1 : Nat) : Int) := by rw [wrap64_of (by omega) (by omega)]; omega
    have ex : IntKind.i64.wrap ((f : Int) + x) = (f : Int) + x := wrap64_of (by omega) (by omega)
    simp (disch := omega) only [go_sem, q1, q2, ex, ew]
    refine acc.push rfl Tryd.und22 Tryd.azero3 Tryd.byt3 (by exact Tryd.plainSrc22) rfl ?_ ?_ ?_
    · simp; omega
    · simp; omega
    intro x' h'' acc3 hle3 _
    rw [ew]
    refine next_keep (L.length - (k + 1)) (by omega) (by omega) ⟨k + 1, x', by omega, rfl, ?_, rfl⟩
    rw [List.take_add_one, hx]
    simpa using acc3
  · have hke : k = L.length := by omega
    subst hke
    rw [List.take_length] at acc
    have lc : aLen Tryd.prog h' 23 a1 = some (.v (.int .i64 keys.length)) := by
      have := (up ha).len (P := Tryd.prog) (t := 23) Tryd.und23
      rw [List.length_map] at this
      exact this
    have hk := hk _ _ acc
    by_cases hb : f + m < keys.length
    · obtain ⟨s, hs⟩ : ∃ s, keys[f + m]? = some s := ⟨_, List.getElem?_eq_getElem hb⟩
      have hsg : keys.getD (f + m) [] = s := by rw [List.getD_eq_getElem?_getD, hs]; rfl
      obtain ⟨q, q1, q2⟩ := strAt (up ha) hs
      rw [hsg, decide_eq_true hb] at hk
      simp (disch := omega) only [go_sem, ewm, lc, q1, q2]
      exact ret_keep hk
    · have hsg : keys.getD (f + m) [] = [] := by rw [List.getD_eq_getElem?_getD, List.getElem?_eq_none (by omega)]; rfl
      rw [hsg, decide_eq_false hb] at hk
      simp (disch := omega) only [go_sem, ewm, lc, e0]
      exact ret_keep hk
theorem Next_call (G : Nat → Option AV) (hG : GTab G) (c : Chg) (W1 W2 a1 : AV) (keys : List (List UInt8)) (most : Int) (h : AH) (K : AV → AH → Prop) (k1 : ∀ h, Wt h W1 c.was.wts) (k2 : ∀ h, Wt h W2 c.will.wts) (l1 : c.was.wts.length ≤ 17592186044415) (l2 : c.will.wts.length ≤ 17592186044415) (lcu : c.cur.length ≤ 4611686018427387904) (ha : Sees h 1 a1 (keys.map srow)) (hl : keys.length ≤ 8796093022207) (hkl : ∀ k ∈ keys, k.length ≤ 4611686018427387904)
    (hm1 : -9223372036854775808 ≤ most) (hm2 : most ≤ 9223372036854775807)
    (hk0 : c.ok = false → K (.tup [.v (.string (bs [])), .v (.slice none 0 0), .v (.bool false), .v (.int .i64 70)]) h)
    (hk1 : c.ok = true → (most < 1 ∨ riseB keys = false) → K (.tup [.v (.string (bs [])), .v (.slice none 0 0), .v (.bool false), .v (.int .i64 1)]) h)
    (hk2 : c.ok = true → 1 ≤ most → riseB keys = true → c.fin = true → K (.tup [.v (.string (bs [])), .v (.slice none 0 0), .v (.bool true), .v (.int .i64 0)]) h)
    (hk3 : c.ok = true → 1 ≤ most → riseB keys = true → c.fin = false → ∀ f v h', LbAt keys c.cur f → AccR 3 1 h v h' ((mvFrom (ofK Lib.itoa c.was.wts) (ofK Lib.itoa c.will.wts) keys f (nextM keys most f)).map irow) →
      K (.tup [.v (.string (bs (keys.getD (f + nextM keys most f) []))), v, .v (.bool (!decide (f + nextM keys most f < keys.length))), .v (.int .i64 0)]) h') : SCall Tryd.prog G 49 [.agg (c.cells W1 W2), a1, .v (.int .i64 most)] h K := by
  refine Tryd.c49 G _ _ _ h K fun hlow => ?_
  unfold Tryd.r49
  have n1 := (k1 h).one
  have n2 := (k2 h).one
  have c1 := (k1 h).cells
  have c2 := (k2 h).cells
  have e0 : (ByteArray.mk #[]) = bs [] := rfl
  have lc : ∀ t, aLen Tryd.prog (h ++ t) 23 a1 = some (.v (.int .i64 keys.length)) := fun t => by
    have := (ha.app t).len (P := Tryd.prog) (t := 23) Tryd.und23
    rw [List.length_map] at this
    exact this
  simp (disch := omega) only [go_sem, n1, n2, c1, c2, Nat.reduceAdd]
  refine ⟨chgCheck_call G c W1 W2 _ _ (k1 _) (k2 _) (by omega) (by omega) (by omega) ?_⟩
  cases ho : c.ok with
  | false =>
    simp (disch := omega) only [go_sem, if_false, Bool.false_eq_true, e0]
    exact ret_tail hlow (lowNext _ _ _ _) (hk0 ho)
  | true =>
  by_cases hm : most < 1
  · simp (disch := omega) only [go_sem, if_true, e0]
    exact ret_tail hlow (lowNext _ _ _ _) (hk1 ho (.inl hm))
  simp (disch := omega) only [go_sem, if_true, e0]
  refine ⟨rise_call G a1 keys _ _ (ha.app _) (by omega) hkl ?_⟩
  cases hr : riseB keys with
  | false =>
    simp (disch := omega) only [go_sem]
    exact ret_tail hlow (lowNext _ _ _ _) (hk1 ho (.inr hr))
  | true =>
  cases hf : c.fin with
  | true =>
    simp (disch := omega) only [go_sem, hf]
    exact ret_tail hlow (lowNext _ _ _ _) (hk2 ho (by omega) hr hf)
  | false =>
  simp (disch := omega) only [go_sem, hf]
  refine ⟨bsearch_call G a1 keys c.cur _ _ (ha.app _) (by omega) hr fun f b lb => ?_⟩
  have hfl := lb.le
  have ew : IntKind.i64.wrap ((keys.length : Int) - (f : Int)) = ((keys.length - f : Nat) : Int) := by rw [wrap64_of (by omega) (by omega)]; omega
  have emin : aMinMax false [some (.v (.int .i64 most)), some (.v (.int .i64 ((keys.length - f : Nat) : Int)))] = some (.v (.int .i64 (nextM keys most f : Nat))) := by
    have : (nextM keys most f : Int) = if ((keys.length - f : Nat) : Int) < most then ((keys.length - f : Nat) : Int) else most := by unfold nextM; omega
    rw [this]
    rfl
  have hml : nextM keys most f ≤ keys.length - f := by unfold nextM; omega
  have ewm : IntKind.i64.wrap ((f : Int) + (nextM keys most f : Nat)) = ((f + nextM keys most f : Nat) : Int) := by rw [wrap64_of (by omega) (by omega)]; omega
  obtain ⟨a', sl1, sl2⟩ := (ha.app [some (AO.cells 48 6 [c.cells W1 W2] 0)]).cut (P := Tryd.prog) (ty := 23) (k := .i64) (k' := .i64) (lo := f) (hi := f + nextM keys most f) Tryd.und23 Tryd.siz9 (by omega) (by simp; omega)
  have sl1 := sl1 []
  rw [List.append_nil] at sl1
  rw [Nat.add_sub_cancel_left, ← List.map_drop, ← List.map_take] at sl2
  simp (disch := omega) only [go_sem, lc, ew, emin, ewm, sl1, n1, n2, c1, c2]
  obtain ⟨o1, o2, _⟩ := chgOk_out ho
  have r1 := (layVer o1).2.2
  have r2 := (layVer o2).2.2
  have hlen : ((keys.drop f).take (nextM keys most f)).length = nextM keys most f := by simp; omega
  refine ⟨Moved_call G hG W1 W2 a' c.was.wts c.will.wts ((keys.drop f).take (nextM keys most f)) _ _ (k1 _).ints (k2 _).ints sl2 (by omega) (by omega) (by omega) (fun k hk => hkl k (List.mem_of_mem_drop (List.mem_of_mem_take hk))) (fun h => by rw [r1, r2] at h; cases h) fun _ v h' acc => ?_⟩
  have lv : aLen Tryd.prog h' 22 v = some (.v (.int .i64 (movedI (ofK Lib.itoa c.was.wts) (ofK Lib.itoa c.will.wts) ((keys.drop f).take (nextM keys most f))).length)) := by
    have := acc.len (P := Tryd.prog) (t := 22) Tryd.und22
    rw [List.length_map] at this
    exact this
  simp (disch := omega) only [go_sem, lv]
  have ha' : Sees h' 1 a1 (keys.map srow) := by obtain ⟨t, rfl⟩ := acc.tail; exact (ha.app _).app t
  have hml2 := movedTo_len (ofK Lib.itoa c.was.wts) (ofK Lib.itoa c.will.wts) ((keys.drop f).take (nextM keys most f)) ((keys.drop f).take (nextM keys most f)).length
  refine next_loop G a1 v keys f (nextM keys most f) _ h h' K ha' acc.sees (by unfold movedI; omega) (fun x hx => ?_) (by omega) hl fun v2 h2 acc2 => ?_
  · obtain ⟨i, rfl, hi, _⟩ := mem_movedTo.mp hx
    omega
  · have e1 : (movedI (ofK Lib.itoa c.was.wts) (ofK Lib.itoa c.will.wts) ((keys.drop f).take (nextM keys most f))).map (fun x => (f : Int) + x) = mvFrom (ofK Lib.itoa c.was.wts) (ofK Lib.itoa c.will.wts) keys f (nextM keys most f) := by
      unfold movedI
      rw [hlen]
      exact movedTo_cut _ _ keys f _ _ (Nat.le_refl _)
    rw [e1] at acc2
    obtain ⟨t, et⟩ := acc.tail
    rw [et, List.append_assoc] at acc2
    exact hk3 ho (by omega) hr hf f v2 h2 lb acc2.base
theorem Key_call (G : Nat → Option AV) (s : List UInt8) (h : AH) (K : AV → AH → Prop) (hsl : s.length ≤ 4611686018427387904) (hk : K (.v (.bool (!(s == []) && decide (s.length ≤ 64)))) h) : SCall Tryd.prog G 89 [.v (.string (bs s))] h K := by
  refine Tryd.c89 G _ h K fun hlow => ?_
  unfold Tryd.r89
  have e0 : (ByteArray.mk #[]) = bs [] := rfl
  by_cases h1 : s = []
  · subst h1
    simp (disch := omega) only [go_sem, e0, bs_toList, beq_self_eq_true]
    exact ret_same hk
  · have h1' : (s == []) = false := by simp [h1]
    have e : decide ((s.length : Int) ≤ 64) = decide (s.length ≤ 64) := by by_cases h : s.length ≤ 64 <;> simp [h] <;> omega
    rw [h1', Bool.not_false, Bool.true_and, ← e] at hk
    simp (disch := omega) only [go_sem, e0, bs_toList, h1']
    exact ret_same hk
theorem refNext_loop (G : Nat → Option AV) (c : Chg) (W1 W2 a1 : AV) (keys : List (List UInt8)) (most : Int) (f i0 : Nat) (h H : AH) (K : AV → AH → Prop) (k1 : ∀ h, Wt h W1 c.was.wts) (k2 : ∀ h, Wt h W2 c.will.wts) (l1 : c.was.wts.length ≤ 17592186044415) (l2 : c.will.wts.length ≤ 17592186044415) (ha : ∀ h, Sees h 1 a1 (keys.map srow)) (hl : keys.length ≤ 8796093022207) (hkl : ∀ k ∈ keys, k.length ≤ 4611686018427387904)
    (hm1 : 1 ≤ most) (hm2 : most ≤ 9223372036854775807) (ho : c.ok = true) (g0 : H[i0]? = some (some (.cells 50 6 [c.cells W1 W2] 0))) (hHl : h.length ≤ H.length)
    (hlb : c.fin = false → LbAt keys c.cur f)
    (hk2 : c.fin = true → ∀ v h', AccR 3 1 H v h' ([] : List (List AV)) → K (.tup [.v (.string (bs [])), v, .v (.bool true), .v (.int .i64 0)]) h')
    (hk3 : c.fin = false → ∀ v h', AccR 3 1 H v h' ((mvFrom (ofK Lib.itoa c.was.wts) (ofK Lib.itoa c.will.wts) keys f (nextM keys most f)).map irow) →
      K (.tup [.v (.string (bs (keys.getD (f + nextM keys most f) []))), v, .v (.bool (!decide (f + nextM keys most f < keys.length))), .v (.int .i64 0)]) h') : Tryd.r50_l13_48 K h G a1 (.v (.int .i64 most)) i0 H (.v (.slice none 0 0)) 0 0 := by
  unfold Tryd.r50_l13_48
  have n1 := (k1 h).one
  have n2 := (k2 h).one
  have c1 := (k1 h).cells
  have c2 := (k2 h).cells
  have e0 : (ByteArray.mk #[]) = bs [] := rfl
  have lc : ∀ h, aLen Tryd.prog h 23 a1 = some (.v (.int .i64 keys.length)) := fun h => by
    have := (ha h).len (P := Tryd.prog) (t := 23) Tryd.und23
    rw [List.length_map] at this
    exact this
  have nilAcc : AccR 3 1 H (.v (.slice none 0 0)) H ([] : List (List AV)) := by have := AccR.nil (e := 3) (n := 1) (h := H) (t := []); rw [List.append_nil] at this; exact this
  obtain ⟨o1, o2, _⟩ := chgOk_out ho
  have r1 := (layVer o1).2.2
  have r2 := (layVer o2).2.2
  refine ⟨fun mm vs h' => ∃ (i : Nat) (v : AV), i ≤ keys.length ∧ mm = keys.length - i ∧ (c.fin = true → i = 0) ∧ ((i - f : Nat) : Int) ≤ most ∧ AccR 3 1 H v h' ((mvFrom (ofK Lib.itoa c.was.wts) (ofK Lib.itoa c.will.wts) keys f (i - f)).map irow) ∧ vs = [v, .v (.int .i64 (i - f : Nat)), .v (.int .i64 i)], keys.length, ⟨0, _, by omega, rfl, fun _ => rfl, by omega, (by rw [Nat.zero_sub]; exact nilAcc), by rw [Nat.zero_sub]; rfl⟩, ?_⟩
  rintro mm h' hl1 hlow2 v n n' ⟨i, v', hi, rfl, hfin, him, acc, hvs⟩
  simp only [List.cons.injEq, AV.v.injEq, Value.int.injEq, true_and, and_true] at hvs
  obtain ⟨rfl, rfl, rfl⟩ := hvs
  have g1 : h'[i0]? = some (some (.cells 50 6 [c.cells W1 W2] 0)) := by
    obtain ⟨tl, rfl⟩ := acc.tail
    rw [List.getElem?_append_left (List.getElem?_eq_some_iff.mp g0).1]
    exact g0
  cases hf : c.fin with
  | true =>
    obtain rfl := hfin hf
    rw [Nat.zero_sub] at acc
    have hk := hk2 hf v h' acc
    by_cases hkk : 0 < keys.length
    · simp (disch := omega) only [go_sem, lc, g1, hf, e0]
      exact ret_keep hk
    · simp (disch := omega) only [go_sem, lc, g1, hf, e0]
      exact ret_keep hk
  | false =>
  have lb := hlb hf
  have hfl := lb.le
  by_cases hkk : i < keys.length
  rotate_left
  · have hil : i = keys.length := by omega
    subst hil
    have hnm : nextM keys most f = keys.length - f := by unfold nextM; omega
    have hk := hk3 hf v h' (by rw [hnm]; exact acc)
    have hsg : keys.getD (f + nextM keys most f) [] = [] := by rw [List.getD_eq_getElem?_getD, List.getElem?_eq_none (by omega)]; rfl
    rw [hsg, decide_eq_false (by omega)] at hk
    simp (disch := omega) only [go_sem, lc, g1, hf, e0]
    exact ret_keep hk
  obtain ⟨s, hs⟩ : ∃ s, keys[i]? = some s := ⟨_, List.getElem?_eq_getElem hkk⟩
  have hsg : keys.getD i [] = s := by rw [List.getD_eq_getElem?_getD, hs]; rfl
  have hsl := hkl s (List.mem_of_getElem? hs)
  obtain ⟨q, q1, q2⟩ := strAt (ha h') hs
  have ew : IntKind.i64.wrap ((i : Int) + 1) = ((i + 1 : Nat) : Int) := by rw [wrap64_of (by omega) (by omega)]; omega
  by_cases hif : i < f
  · have hb := lb.lo i hif
    rw [hsg] at hb
    simp (disch := omega) only [go_sem, lc, g1, hf, e0, q1, q2, bs_toList, hb, ew]
    have z0 : i - f = 0 := by omega
    have z1 : i + 1 - f = 0 := by omega
    rw [z0] at acc
    refine next_keep (keys.length - (i + 1)) (by omega) hl1 ⟨i + 1, v, by omega, rfl, (fun h => by cases h), by omega, (by rw [z1]; exact acc), by rw [z0, z1]⟩
  have hb := lb.hi i (by omega) hkk
  rw [hsg] at hb
  by_cases him2 : ((i - f : Nat) : Int) = most
  · have hnm : nextM keys most f = i - f := by unfold nextM; omega
    have hk := hk3 hf v h' (by rw [hnm]; exact acc)
    have hfi : f + nextM keys most f = i := by omega
    rw [hfi, hsg, decide_eq_true hkk] at hk
    simp (disch := omega) only [go_sem, lc, g1, hf, e0, q1, q2, bs_toList, hb, ew, him2]
    exact ret_keep hk
  have ew2 : IntKind.i64.wrap (((i - f : Nat) : Int) + 1) = ((i + 1 - f : Nat) : Int) := by rw [wrap64_of (by omega) (by omega)]; omega
  have hml := mvFrom_len (ofK Lib.itoa c.was.wts) (ofK Lib.itoa c.will.wts) keys f (i - f)
  simp (disch := omega) only [go_sem, lc, g1, hf, e0, q1, q2, bs_toList, hb, ew, n1, n2, c1, c2]
  refine ⟨refOf_call G W1 c.was.wts s _ _ (k1 _).ints (by omega) hsl ?_⟩
  simp (disch := omega) only [go_sem, r1, if_true, g1, q1, q2, n1, n2, c1, c2]
  refine ⟨refOf_call G W2 c.will.wts s _ _ (k2 _).ints (by omega) hsl ?_⟩
  have es : i + 1 - f = (i - f) + 1 := by omega
  have ei : f + (i - f) = i := by omega
  by_cases hne : ofK Lib.itoa c.was.wts s = ofK Lib.itoa c.will.wts s
  · simp (disch := omega) only [go_sem, r2, if_true, hne, ew, ew2]
    refine next_keep (keys.length - (i + 1)) (by omega) hl1 ⟨i + 1, v, by omega, rfl, (fun h => by cases h), by omega, ?_, rfl⟩
    rw [es]
    simp only [mvFrom, ei, hsg, hne, ne_eq, not_true_eq_false, if_false, List.append_nil]
    exact acc
  · simp (disch := omega) only [go_sem, r2, if_true, hne, ew, ew2]
    refine acc.push rfl Tryd.und22 Tryd.azero3 Tryd.byt3 (by exact Tryd.plainSrc22) rfl ?_ ?_ ?_
    · simp; omega
    · simp; omega
    intro x' h'' acc3 hle3 _
    rw [ew2, ew]
    refine next_keep (keys.length - (i + 1)) (by omega) (by omega) ⟨i + 1, x', by omega, rfl, (fun h => by cases h), by omega, ?_, rfl⟩
    rw [es]
    simp only [mvFrom, ei, hsg, hne, ne_eq, not_false_eq_true, if_true, List.map_append, List.map_cons, List.map_nil]
    exact acc3
theorem refNext_call (G : Nat → Option AV) (c : Chg) (W1 W2 a1 : AV) (keys : List (List UInt8)) (most : Int) (f : Nat) (h : AH) (K : AV → AH → Prop) (k1 : ∀ h, Wt h W1 c.was.wts) (k2 : ∀ h, Wt h W2 c.will.wts) (l1 : c.was.wts.length ≤ 17592186044415) (l2 : c.will.wts.length ≤ 17592186044415) (lcu : c.cur.length ≤ 4611686018427387904) (ha : ∀ h, Sees h 1 a1 (keys.map srow)) (hl : keys.length ≤ 8796093022207) (hkl : ∀ k ∈ keys, k.length ≤ 4611686018427387904)
    (hm2 : most ≤ 9223372036854775807)
    (hlb : c.ok = true → 1 ≤ most → riseB keys = true → c.fin = false → LbAt keys c.cur f)
    (hk0 : c.ok = false → K (.tup [.v (.string (bs [])), .v (.slice none 0 0), .v (.bool false), .v (.int .i64 70)]) h)
    (hk1 : c.ok = true → (most < 1 ∨ riseB keys = false) → K (.tup [.v (.string (bs [])), .v (.slice none 0 0), .v (.bool false), .v (.int .i64 1)]) h)
    (hk2 : c.ok = true → 1 ≤ most → riseB keys = true → c.fin = true → ∀ v h', AccR 3 1 h v h' ([] : List (List AV)) → K (.tup [.v (.string (bs [])), v, .v (.bool true), .v (.int .i64 0)]) h')
    (hk3 : c.ok = true → 1 ≤ most → riseB keys = true → c.fin = false → ∀ v h', AccR 3 1 h v h' ((mvFrom (ofK Lib.itoa c.was.wts) (ofK Lib.itoa c.will.wts) keys f (nextM keys most f)).map irow) →
      K (.tup [.v (.string (bs (keys.getD (f + nextM keys most f) []))), v, .v (.bool (!decide (f + nextM keys most f < keys.length))), .v (.int .i64 0)]) h') : SCall Tryd.prog G 50 [.agg (c.cells W1 W2), a1, .v (.int .i64 most)] h K := by
  refine Tryd.c50 G _ _ _ h K fun hlow => ?_
  unfold Tryd.r50
  have n1 := (k1 h).one
  have n2 := (k2 h).one
  have c1 := (k1 h).cells
  have c2 := (k2 h).cells
  have e0 : (ByteArray.mk #[]) = bs [] := rfl
  have lc : ∀ h, aLen Tryd.prog h 23 a1 = some (.v (.int .i64 keys.length)) := fun h => by
    have := (ha h).len (P := Tryd.prog) (t := 23) Tryd.und23
    rw [List.length_map] at this
    exact this
  simp (disch := omega) only [go_sem, n1, n2, c1, c2, Nat.reduceAdd]
  refine ⟨refChgMay_call G c W1 W2 _ _ (k1 _) (k2 _) (by omega) (by omega) (by omega) ?_⟩
  cases ho : c.ok with
  | false =>
    simp (disch := omega) only [go_sem, e0]
    exact ret_tail hlow (lowNext _ _ _ _) (hk0 ho)
  | true =>
  by_cases hm : most < 1
  · simp (disch := omega) only [go_sem, e0]
    exact ret_tail hlow (lowNext _ _ _ _) (hk1 ho (.inl hm))
  simp (disch := omega) only [go_sem, e0]
  generalize hH : h ++ [some (AO.cells 50 6 [c.cells W1 W2] 0)] = H
  have g0 : H[h.length]? = some (some (.cells 50 6 [c.cells W1 W2] 0)) := by rw [← hH]; simp
  unfold Tryd.r50_l6_7
  refine ⟨fun m vs h' => ∃ k : Nat, k ≤ keys.length ∧ m = keys.length - k ∧ h' = H ∧ (∀ j, j < k → goodAt keys j = true) ∧ vs = [.v (.int .i64 k)], keys.length, ⟨0, by omega, rfl, rfl, by simp, rfl⟩, ?_⟩
  rintro m h' hl1 hlow2 n ⟨k, hkk1, rfl, rfl, hgood, hvs⟩
  simp only [List.cons.injEq, AV.v.injEq, Value.int.injEq, true_and, and_true] at hvs
  obtain rfl := hvs
  by_cases hkk : k < keys.length
  rotate_left
  · have hr : riseB keys = true := riseB_iff.mpr fun j hj => hgood j (by omega)
    simp (disch := omega) only [go_sem, lc]
    refine refNext_loop G c W1 W2 a1 keys most f h.length h h' K k1 k2 l1 l2 ha hl hkl (by omega) hm2 ho g0 (by rw [← hH]; simp) (fun hf => hlb ho (by omega) hr hf) (fun hf v h2 acc => ?_) (fun hf v h2 acc => ?_)
    · rw [← hH] at acc
      exact hk2 ho (by omega) hr hf v h2 acc.base
    · rw [← hH] at acc
      exact hk3 ho (by omega) hr hf v h2 acc.base
  obtain ⟨s, hs⟩ : ∃ s, keys[k]? = some s := ⟨_, List.getElem?_eq_getElem hkk⟩
  have hsg : keys.getD k [] = s := by rw [List.getD_eq_getElem?_getD, hs]; rfl
  have hsl := hkl s (List.mem_of_getElem? hs)
  obtain ⟨q, q1, q2⟩ := strAt (ha h') hs
  have bad : goodAt keys k = false → RetR h K (.tup [.v (.string (bs [])), .v (.slice none 0 0), .v (.bool false), .v (.int .i64 1)]) h' := fun hg => by
    have hr : riseB keys = false := by
      cases hr : riseB keys with
      | false => rfl
      | true => rw [riseB_iff.mp hr k hkk] at hg; cases hg
    rw [← hH]
    exact ret_tail hlow (lowNext _ _ _ _) (hk1 ho (.inr hr))
  have ew : IntKind.i64.wrap ((k : Int) + 1) = ((k + 1 : Nat) : Int) := by rw [wrap64_of (by omega) (by omega)]; omega
  simp (disch := omega) only [go_sem, lc, q1, q2, e0]
  refine ⟨Key_call G s _ _ hsl ?_⟩
  have hgk : goodAt keys k = ((!(s == []) && decide (s.length ≤ 64)) && (decide (k = 0) || Op.bytesLess (keys.getD (k - 1) []) s)) := by unfold goodAt; rw [hsg]
  cases hkey : (!(s == []) && decide (s.length ≤ 64)) with
  | false =>
    rw [hkey, Bool.false_and] at hgk
    simp (disch := omega) only [go_sem, lc, q1, q2, e0]
    exact bad hgk
  | true =>
  rw [hkey, Bool.true_and] at hgk
  by_cases h3 : k = 0
  · subst h3
    simp (disch := omega) only [go_sem, lc, q1, q2, e0, bs_toList, ew]
    refine next_keep (keys.length - 1) (by omega) (Nat.le_refl _) ⟨1, by omega, rfl, rfl, ?_, rfl⟩
    intro j hj
    have : j = 0 := by omega
    subst this
    rw [hgk]; rfl
  obtain ⟨u, hu⟩ : ∃ u, keys[k - 1]? = some u := ⟨_, List.getElem?_eq_getElem (by omega)⟩
  have hug : keys.getD (k - 1) [] = u := by rw [List.getD_eq_getElem?_getD, hu]; rfl
  obtain ⟨p, p1, p2⟩ := strAt (ha h') hu
  have ek : ((k - 1 : Nat) : Int) = (k : Int) - 1 := by omega
  have e3 : IntKind.i64.wrap ((k : Int) - 1) = (k : Int) - 1 := wrap64_of (by omega) (by omega)
  rw [ek] at p1
  rw [hug, decide_eq_false h3, Bool.false_or] at hgk
  cases hb : Op.bytesLess u s with
  | false =>
    simp (disch := omega) only [go_sem, lc, q1, q2, e0, bs_toList, ew, e3, p1, p2, hb]
    exact bad (by rw [hgk, hb])
  | true =>
    simp (disch := omega) only [go_sem, lc, q1, q2, e0, bs_toList, ew, e3, p1, p2, hb]
    refine next_keep (keys.length - (k + 1)) (by omega) (Nat.le_refl _) ⟨k + 1, by omega, rfl, rfl, ?_, rfl⟩
    intro j hj
    by_cases hjk : j = k
    · subst hjk; rw [hgk, hb]
    · exact hgood j (by omega)
end Go.Proofs

/-
  The law: which keys move next is as the document has it.
-/
namespace Go.Proofs
open Go Go.Abs
set_option maxRecDepth 100000
set_option linter.unusedSimpArgs false
theorem lawNext (G : Nat → Option AV) (hG : GTab G) (c : Chg) (W1 W2 a1 : AV) (keys : List (List UInt8)) (most : Int) (h : AH) (K : AV → AH → Prop) (k1 : ∀ h, Wt h W1 c.was.wts) (k2 : ∀ h, Wt h W2 c.will.wts) (l1 : c.was.wts.length ≤ 17592186044415) (l2 : c.will.wts.length ≤ 17592186044415) (lcu : c.cur.length ≤ 140737488351232) (hc : ∀ h, Sees h 1 a1 (keys.map srow)) (hl3 : keys.length ≤ 8796093022207) (hkl : ∀ k ∈ keys, k.length ≤ 4611686018427387904)
    (hm1 : -9223372036854775808 ≤ most) (hm2 : most ≤ 9223372036854775807)
    (hk : ∀ h', K (.v (.bool true)) h') : SCall Tryd.prog G 11 [.agg (c.cells W1 W2), a1, .v (.int .i64 most)] h K := by
  refine Tryd.c11 G _ _ _ h K fun hlow => ?_
  unfold Tryd.r11
  have n1 := (k1 h).one
  have n2 := (k2 h).one
  have c1 := (k1 h).cells
  have c2 := (k2 h).cells
  have lc : ∀ h, aLen Tryd.prog h 23 a1 = some (.v (.int .i64 keys.length)) := fun h => by
    have := (hc h).len (P := Tryd.prog) (t := 23) Tryd.und23
    rw [List.length_map] at this
    exact this
  by_cases h60 : keys.length > 60
  · simp (disch := omega) only [go_sem, n1, n2, c1, c2, Nat.reduceAdd, lc]
    refine ⟨lyWorks_call G hG _ _ ?_⟩
    simp (disch := omega) only [go_sem]
    exact ret_keep (hk _)
  simp (disch := omega) only [go_sem, n1, n2, c1, c2, Nat.reduceAdd, lc]
  generalize hH : h ++ [some (AO.cells 47 6 [c.cells W1 W2] 0)] = H
  have hHx : ∀ x, h ++ [some (AO.cells 47 6 [c.cells W1 W2] 0), x] = H ++ [x] := fun x => by rw [← hH]; simp
  have hHl : h.length + 1 = H.length := by rw [← hH]; simp
  have g0 : H[h.length]? = some (some (.cells 47 6 [c.cells W1 W2] 0)) := by rw [← hH]; simp
  have ghl : h.length ≤ H.length := by omega
  simp only [hHx, hHl]
  have s0 : AccR 9 1 H (.sl H.length 0 0 0 none) (H ++ [some (.cells 9 1 [] 0)]) [] := @AccR.obj 9 1 H [] [] 0 [] (by simp)
  refine s0.append (new := keys.map srow) Tryd.und23 Tryd.azero9 Tryd.byt9 (by exact Tryd.plainSrc23) (hc _).src (by simp) (by
    rintro ⟨s, rfl⟩
    obtain ⟨_, ⟨h1, _⟩ | ⟨_, _, h1⟩ | ⟨_, _, _, _, _, _, h1, _⟩⟩ := hc h <;> cases h1) (by simp; omega) (by simp; omega) ?_
  intro x1 h1 s1 _ _
  rw [List.nil_append] at s1
  obtain ⟨t1, et1⟩ := s1.tail
  have gr1 : Grew H h1 := ⟨t1, et1⟩
  have sx : Sees h1 1 x1 (keys.map srow) := s1.sees
  have g1 := gr1.get g0
  have gl1 := gr1.lt g0
  simp (disch := omega) only [go_sem, n1, n2, c1, c2, g1]
  refine ⟨theirs_call G c W1 W2 _ _ k1 k2 fun t => ?_⟩
  generalize hH2 : h1 ++ t = H2
  have gr2 : Grew h1 H2 := ⟨t, hH2.symm⟩
  have sx2 : Sees H2 1 x1 (keys.map srow) := by rw [← hH2]; exact sx.app t
  have g2 := gr2.get g1
  simp (disch := omega) only [go_sem]
  -- from both answers on
  have tail : ∀ (v w : AV) (d : Bool) (e : Int) (l : List Int) (H3 : AH), Ints H3 v l → Ints H3 w l → l.length ≤ 4611686018427387904 → Sees H3 1 x1 (keys.map srow) →
      callR Tryd.prog G 24 [v, w] H3 fun v38 h39 =>
        okBool (pickR (some (.v (.bool true))) (some v38) (some (.v (.bool false)))) fun b40 =>
        rGq b40 true (some (.v (.bool d))) fun b41 v42 => rGq b41 true (some (.v (.bool d))) fun b43 v44 => rGq b43 true (aBin Tryd.prog .eql 4 v42 v44) fun b45 v46 =>
        okBool (pickR (some (.v (.bool b45))) (some v46) (some (.v (.bool false)))) fun b47 =>
        rGq b47 true (some (.v (.int .i64 e))) fun b48 v49 => rGq b48 true (some (.v (.int .i64 e))) fun b50 v51 => rGq b50 true (aBin Tryd.prog .eql 25 v49 v51) fun b52 v53 =>
        okBool (pickR (some (.v (.bool b52))) (some v53) (some (.v (.bool false)))) fun b54 =>
        rGq b54 true (some x1) fun b55 v56 => rGq b55 true (some a1) fun b57 v58 =>
        rGe b57 true (fun k59 => callR Tryd.prog G 32 [v56, v58] h39 (fun v60 h61 => k59 v60 h61)) h39 fun b62 v63 h64 =>
        okBool (pickR (some (.v (.bool b62))) (some v63) (some (.v (.bool false)))) fun b65 =>
        rGe b65 true (fun k66 => callR Tryd.prog G 48 [] h64 (fun v67 h68 => k66 v67 h68)) h64 fun b69 v70 h71 =>
        okBool (pickR (some (.v (.bool b69))) (some v70) (some (.v (.bool false)))) fun b72 => RetR h K (.v (.bool b72)) h71 := by
    intro v w d e l H3 i1 i2 hll sx
    have eb : ∀ b, aBin Tryd.prog .eql 4 (.v (.bool b)) (.v (.bool b)) = some (.v (.bool true)) := by intro b; cases b <;> kernel_rfl
    refine ⟨SameInts_call G v w l l _ _ i1 i2 hll ?_⟩
    simp (disch := omega) only [go_sem, beq_self_eq_true, eb]
    refine ⟨SameTexts_call G x1 a1 keys keys _ _ sx (hc _) (by omega) ?_⟩
    simp (disch := omega) only [go_sem, beq_self_eq_true]
    refine ⟨lyWorks_call G hG _ _ ?_⟩
    simp (disch := omega) only [go_sem]
    exact ret_keep (hk _)
  have nilI : ∀ H, Ints H (.v (.slice none 0 0)) [] := fun _ => Sees.nil
  -- the other answer
  have ref : ∀ (f : Nat) (K' : AV → AH → Prop) (H3 : AH), (∀ t, SCall Tryd.prog G 50 [.agg (c.cells W1 W2), a1, .v (.int .i64 most)] (H3 ++ t) K') →
      callR Tryd.prog G 35 [.agg (c.cells W1 W2)] H3 fun v21 h22 => okInt .i64 (some (.v (.int .i64 most))) fun n23 => callR Tryd.prog G 50 [v21, a1, .v (.int .i64 n23)] h22 K' := by
    intro f K' H3 hc3
    refine ⟨ours_call G c W1 W2 _ _ k1 k2 fun t => ?_⟩
    simp (disch := omega) only [go_sem]
    exact ⟨hc3 t⟩
  have lkc : c.cur.length ≤ 4611686018427387904 := by omega
  refine ⟨Next_call G hG c W1 W2 x1 keys most _ _ k1 k2 l1 l2 lkc sx2 hl3 hkl hm1 hm2 (fun ho => ?_) (fun ho hm => ?_) (fun ho hm hr hf => ?_) (fun ho hm hr hf f v H3 lb acc => ?_)⟩
  · simp (disch := omega) only [go_sem, g2, n1, n2, c1, c2]
    refine ref 0 _ H2 fun t => ?_
    refine refNext_call G c W1 W2 a1 keys most 0 _ _ k1 k2 l1 l2 lkc hc hl3 hkl hm2 (fun h => by rw [ho] at h; cases h) (fun _ => ?_) (fun h => by rw [ho] at h; cases h) (fun h => by rw [ho] at h; cases h) (fun h => by rw [ho] at h; cases h)
    simp (disch := omega) only [go_sem, beq_self_eq_true]
    exact tail _ _ false 70 [] _ (nilI _) (nilI _) (by simp) (sx2.app t)
  · simp (disch := omega) only [go_sem, g2, n1, n2, c1, c2]
    refine ref 0 _ H2 fun t => ?_
    have bad : 1 ≤ most → riseB keys = true → False := by
      intro a b
      rcases hm with h | h
      · omega
      · rw [h] at b; cases b
    refine refNext_call G c W1 W2 a1 keys most 0 _ _ k1 k2 l1 l2 lkc hc hl3 hkl hm2 (fun _ a b => (bad a b).elim) (fun h => by rw [ho] at h; cases h) (fun _ _ => ?_) (fun _ a b => (bad a b).elim) (fun _ a b => (bad a b).elim)
    simp (disch := omega) only [go_sem, beq_self_eq_true]
    exact tail _ _ false 1 [] _ (nilI _) (nilI _) (by simp) (sx2.app t)
  · simp (disch := omega) only [go_sem, g2, n1, n2, c1, c2]
    refine ref 0 _ H2 fun t => ?_
    have bad : most < 1 ∨ riseB keys = false → False := by
      rintro (h | h)
      · omega
      · rw [h] at hr; cases hr
    refine refNext_call G c W1 W2 a1 keys most 0 _ _ k1 k2 l1 l2 lkc hc hl3 hkl hm2 (fun _ _ _ h => by rw [hf] at h; cases h) (fun h => by rw [ho] at h; cases h) (fun _ a => (bad a).elim) (fun _ _ _ _ v H3 acc => ?_) (fun _ _ _ h => by rw [hf] at h; cases h)
    simp (disch := omega) only [go_sem, beq_self_eq_true]
    exact tail _ v true 0 [] _ (nilI _) acc.sees (by simp) (by obtain ⟨u, rfl⟩ := acc.tail; exact (sx2.app t).app u)
  · have g3 : H3[h.length]? = some (some (.cells 47 6 [c.cells W1 W2] 0)) := by
      obtain ⟨u, rfl⟩ := acc.tail
      exact (Grew.app u).get g2
    have sx3 : Sees H3 1 x1 (keys.map srow) := by obtain ⟨u, rfl⟩ := acc.tail; exact sx2.app u
    simp (disch := omega) only [go_sem, g3, n1, n2, c1, c2]
    refine ref 0 _ H3 fun t => ?_
    have bad : most < 1 ∨ riseB keys = false → False := by
      rintro (h | h)
      · omega
      · rw [h] at hr; cases hr
    refine refNext_call G c W1 W2 a1 keys most f _ _ k1 k2 l1 l2 lkc hc hl3 hkl hm2 (fun _ _ _ _ => lb) (fun h => by rw [ho] at h; cases h) (fun _ a => (bad a).elim) (fun _ _ _ h => by rw [hf] at h; cases h) (fun _ _ _ _ w H4 acc4 => ?_)
    simp (disch := omega) only [go_sem, beq_self_eq_true]
    obtain ⟨u, eu⟩ := acc4.tail
    have hml := mvFrom_len (ofK Lib.itoa c.was.wts) (ofK Lib.itoa c.will.wts) keys f (nextM keys most f)
    have : nextM keys most f ≤ keys.length := by unfold nextM; omega
    exact tail v w _ 0 _ _ (by rw [eu]; exact (acc.sees.app t).app u) acc4.sees (by omega) (by rw [eu]; exact (sx3.app t).app u)
theorem int_range {n : Int} (h : (Lit.int .i64 n).wf = true) : -9223372036854775808 ≤ n ∧ n ≤ 9223372036854775807 := by
  simp only [Lit.wf, Bool.and_eq_true, decide_eq_true_eq] at h
  have e1 : IntKind.i64.min = -9223372036854775808 := by decide
  have e2 : IntKind.i64.max = 9223372036854775807 := by decide
  rw [e1, e2] at h
  exact h
theorem Tryd.lawLayoutNext {G : Nat → Option AV} (hG : GTab G) (xs ys zs : List AV) (hx : In Tryd.prog 47 xs) (hy : In Tryd.prog 23 ys) (hz : In Tryd.prog 3 zs) : SCall Tryd.prog G 11 [argA Tryd.prog 47 xs, argA Tryd.prog 23 ys, argA Tryd.prog 3 zs] [] fun v _ => v = .v (.bool true) := by
  obtain ⟨c, W1, W2, rfl, k1, k2, l1, l2, l3⟩ := in_chg hx
  obtain ⟨b, keys, rfl, _, _, b1, b2, b3, _⟩ := in_texts hy
  obtain ⟨n, rfl, hn⟩ := in_int Tryd.und3 hz
  have hn2 := int_range hn
  rw [argChg, argTexts, argInt]
  exact lawNext G hG c W1 W2 b keys n [] _ k1 k2 l1 l2 l3 b1 (by omega) (fun k hk => Nat.le_trans (b3 k hk) (by omega)) hn2.1 hn2.2 fun _ => rfl
end Go.Proofs

/-
  What was told, in a map; which keys were told.
-/
namespace Go.Proofs
open Go Go.Abs
set_option maxRecDepth 100000
set_option linter.unusedSimpArgs false
def toldFrom : Nat → List Int → List AE
  | _, [] => []
  | i, b :: l => ⟨.v (.int .i64 b), .v (.bool true), i⟩ :: toldFrom (i + 1) l
theorem told_snoc : ∀ (l : List Int) (i : Nat) (b : Int), toldFrom i (l ++ [b]) = toldFrom i l ++ [⟨.v (.int .i64 b), .v (.bool true), i + l.length⟩]
  | [], i, b => rfl
  | x :: l, i, b => by
    simp only [List.cons_append, toldFrom, told_snoc l (i + 1) b, List.length_cons]
    rw [show i + 1 + l.length = i + (l.length + 1) by omega]
theorem told_none : ∀ (l : List Int) (i j : Nat) (b : Int), b ∉ l → aFind (.int .i64) (.v (.int .i64 b)) (toldFrom i l) j = some none
  | [], i, j, b, _ => rfl
  | x :: l, i, j, b, h => by
    have h1 : b ≠ x := fun e => h (by simp [e])
    have h2 : b ∉ l := fun e => h (by simp [e])
    have h3 : (b == x) = false := by simp [h1]
    simp only [toldFrom, aFind, aSame, if_true, h3]
    exact told_none l (i + 1) (j + 1) b h2
theorem told_some : ∀ (l : List Int) (i j : Nat) (b : Int), b ∈ l → ∃ k, aFind (.int .i64) (.v (.int .i64 b)) (toldFrom i l) j = some (some (k, .v (.bool true)))
  | [], i, j, b, h => by cases h
  | x :: l, i, j, b, h => by
    by_cases h1 : b = x
    · subst h1
      exact ⟨j, by simp only [toldFrom, aFind, aSame, if_true, beq_self_eq_true]⟩
    · have h2 : b ∈ l := by simpa [h1] using h
      have h3 : (b == x) = false := by simp [h1]
      obtain ⟨k, hk⟩ := told_some l (i + 1) (j + 1) b h2
      exact ⟨k, by simp only [toldFrom, aFind, aSame, if_true, h3]; exact hk⟩
abbrev toldO (l : List Int) : Option AO := some (.map (toldFrom 0 l) l.length)
theorem told_look {h : AH} {i : Nat} {l : List Int} {b : Int} (s : h[i]? = some (toldO l)) : aLookup Tryd.prog h 67 false (.mp i) (.v (.int .i64 b)) = some (.v (.bool (decide (b ∈ l)))) := by
  unfold aLookup
  rw [Tryd.und67]
  have hz : zer Tryd.prog 4 = some (.v (.bool false)) := by kernel_rfl
  by_cases hb : b ∈ l
  · obtain ⟨k, hk⟩ := told_some l 0 0 b hb
    simp only [Tryd.und3, entsOf, s, hk, hz, keyT, chk, if_true, hb, decide_true]
    rfl
  · simp only [Tryd.und3, entsOf, s, told_none l 0 0 b hb, hz, keyT, chk, if_true, Option.map_some, hb, decide_false]
    rfl
theorem told_put {h : AH} {i : Nat} {l : List Int} {b : Int} {K : AV → AH → Prop} (s : h[i]? = some (toldO l)) (hb : b ∉ l) (hk : K (.tup []) (h.set i (toldO (l ++ [b])))) : mapR Tryd.prog h K 67 (.mp i) (.v (.int .i64 b)) (.v (.bool true)) := by
  refine ⟨?_⟩
  unfold aMapUp
  rw [Tryd.und67]
  simp only [Tryd.und3, s, told_none l 0 0 b hb]
  refine ⟨rfl, ?_⟩
  unfold toldO at hk
  rw [told_snoc, List.length_append, List.length_singleton, Nat.zero_add] at hk
  exact hk
theorem mem_mvFrom {f g : List UInt8 → Int} {keys : List (List UInt8)} {lo : Nat} {x : Int} : ∀ {k : Nat}, x ∈ mvFrom f g keys lo k ↔ ∃ i : Nat, x = i ∧ lo ≤ i ∧ i < lo + k ∧ f (keys.getD i []) ≠ g (keys.getD i [])
  | 0 => by
    simp only [mvFrom, List.not_mem_nil, false_iff]
    rintro ⟨i, _, h1, h2, _⟩
    omega
  | k + 1 => by
    simp only [mvFrom, List.mem_append, mem_mvFrom (k := k)]
    constructor
    · rintro (⟨i, h1, h0, h2, h3⟩ | h1)
      · exact ⟨i, h1, h0, by omega, h3⟩
      · split at h1
        · rename_i h2
          simp only [List.mem_singleton] at h1
          exact ⟨lo + k, h1, by omega, by omega, h2⟩
        · cases h1
    · rintro ⟨i, h1, h0, h2, h3⟩
      by_cases hik : i = lo + k
      · subst hik
        rw [if_pos h3]
        exact .inr (by simp [h1])
      · exact .inl ⟨i, h1, h0, by omega, h3⟩
theorem mvFrom_nodup (f g : List UInt8 → Int) (keys : List (List UInt8)) (lo : Nat) : ∀ k, (mvFrom f g keys lo k).Nodup
  | 0 => by simp [mvFrom]
  | k + 1 => by
    unfold mvFrom
    rw [List.nodup_append]
    refine ⟨mvFrom_nodup f g keys lo k, by split <;> simp, ?_⟩
    intro a ha b hb
    obtain ⟨i, h1, _, h2, _⟩ := mem_mvFrom.mp ha
    split at hb
    · simp only [List.mem_singleton] at hb
      omega
    · cases hb
theorem mvFrom_add (f g : List UInt8 → Int) (keys : List (List UInt8)) (p : Nat) : ∀ m, mvFrom f g keys 0 p ++ mvFrom f g keys p m = mvFrom f g keys 0 (p + m)
  | 0 => by simp [mvFrom]
  | m + 1 => by
    rw [← Nat.add_assoc]
    simp only [mvFrom, ← mvFrom_add f g keys p m, List.append_assoc, Nat.zero_add]
theorem nodup_take {l : List Int} (h : l.Nodup) {k : Nat} {x : Int} (hx : l[k]? = some x) : x ∉ l.take k := by
  have h2 : (l.take (k + 1)).Nodup := h.sublist (List.take_sublist _ _)
  rw [List.take_add_one, hx, Option.toList_some, List.nodup_append] at h2
  intro hm
  exact h2.2.2 x hm x (by simp) rfl
/-- The law's state. -/
structure OnceAt (h : AH) (i0 i8 i27 : Nat) (c x : Chg) (W1 W2 : AV) (l : List Int) : Prop where
  g0 : h[i0]? = some (some (.cells 47 6 [c.cells W1 W2] 0))
  g8 : h[i8]? = some (some (.cells 48 6 [x.cells W1 W2] 0))
  g27 : h[i27]? = some (toldO l)
  ok : x.ok = true
  was : x.was = c.was
  will : x.will = c.will
theorem OnceAt.grew {h h' : AH} {i0 i8 i27 : Nat} {c x : Chg} {W1 W2 : AV} {l : List Int} (a : OnceAt h i0 i8 i27 c x W1 W2 l) (g : Grew h h') : OnceAt h' i0 i8 i27 c x W1 W2 l :=
  ⟨g.get a.g0, g.get a.g8, g.get a.g27, a.ok, a.was, a.will⟩
theorem OnceAt.ne {h : AH} {i0 i8 i27 : Nat} {c x : Chg} {W1 W2 : AV} {l : List Int} (a : OnceAt h i0 i8 i27 c x W1 W2 l) : i0 ≠ i8 ∧ i0 ≠ i27 ∧ i8 ≠ i27 := by
  refine ⟨?_, ?_, ?_⟩
  · rintro rfl; have := a.g0.symm.trans a.g8; cases this
  · rintro rfl; have := a.g0.symm.trans a.g27; cases this
  · rintro rfl; have := a.g8.symm.trans a.g27; cases this
theorem OnceAt.setMap {h : AH} {i0 i8 i27 : Nat} {c x : Chg} {W1 W2 : AV} {l l' : List Int} (a : OnceAt h i0 i8 i27 c x W1 W2 l) : OnceAt (h.set i27 (toldO l')) i0 i8 i27 c x W1 W2 l' := by
  obtain ⟨n1, n2, n3⟩ := a.ne
  exact ⟨by rw [List.getElem?_set_ne (Ne.symm n2)]; exact a.g0, by rw [List.getElem?_set_ne (Ne.symm n3)]; exact a.g8, by rw [List.getElem?_set_self (List.getElem?_eq_some_iff.mp a.g27).1], a.ok, a.was, a.will⟩
theorem OnceAt.setChg {h : AH} {i0 i8 i27 : Nat} {c x y : Chg} {W1 W2 : AV} {l : List Int} (a : OnceAt h i0 i8 i27 c x W1 W2 l) (ok : y.ok = true) (was : y.was = c.was) (will : y.will = c.will) : OnceAt (h.set i8 (some (.cells 48 6 [y.cells W1 W2] 0))) i0 i8 i27 c y W1 W2 l := by
  obtain ⟨n1, n2, n3⟩ := a.ne
  exact ⟨by rw [List.getElem?_set_ne (Ne.symm n1)]; exact a.g0, by rw [List.getElem?_set_self (List.getElem?_eq_some_iff.mp a.g8).1], by rw [List.getElem?_set_ne n3]; exact a.g27, ok, was, will⟩
theorem once_keys (G : Nat → Option AV) (hG : GTab G) (c x : Chg) (W1 W2 a1 a2 : AV) (keys : List (List UInt8)) (l : List Int) (i0 i8 i27 m31 : Nat) (I29 : Nat → List AV → AH → Prop) (r : Nat) (b41 : Bool) (h H28 H : AH) (K : AV → AH → Prop) (k1 : ∀ h, Wt h W1 c.was.wts) (k2 : ∀ h, Wt h W2 c.will.wts) (l1 : c.was.wts.length ≤ 17592186044415) (l2 : c.will.wts.length ≤ 17592186044415) (hc : ∀ h, Sees h 1 a1 (keys.map srow)) (hl3 : keys.length ≤ 40) (hkl : ∀ k ∈ keys, k.length ≤ 4611686018427387904)
    (a : OnceAt H i0 i8 i27 c x W1 W2 l) (hfin : x.fin = b41) (htold : ∀ j, j < keys.length → ((j : Int) ∈ l ↔ (b41 = true ∨ Op.bytesLess (keys.getD j []) x.cur = true) ∧ ofK Lib.itoa c.was.wts (keys.getD j []) ≠ ofK Lib.itoa c.will.wts (keys.getD j [])))
    (hr : r ≤ 40) (hk1 : b41 = true → RetR h K (.v (.bool true)) H)
    (hk2 : b41 = false → ∀ ks, nextR H28 I29 m31 ks ks [.v (.int .i64 (r + 1 : Nat))] H) :
    Tryd.r12_j129 G h K a1 a2 i0 i8 i27 H28 I29 m31 r b41 H := by
  unfold Tryd.r12_j129
  have n1 := (k1 h).one
  have n2 := (k2 h).one
  have c1 := (k1 h).cells
  have c2 := (k2 h).cells
  have lc : ∀ h, aLen Tryd.prog h 23 a1 = some (.v (.int .i64 keys.length)) := fun h => by
    have := (hc h).len (P := Tryd.prog) (t := 23) Tryd.und23
    rw [List.length_map] at this
    exact this
  have kx1 : ∀ h, Wt h W1 x.was.wts := fun h => by rw [a.was]; exact k1 h
  have kx2 : ∀ h, Wt h W2 x.will.wts := fun h => by rw [a.will]; exact k2 h
  have lx1 : x.was.wts.length ≤ 17592186044415 := by rw [a.was]; exact l1
  have lx2 : x.will.wts.length ≤ 17592186044415 := by rw [a.will]; exact l2
  obtain ⟨o1, o2, _, _, o5, _⟩ := chgOk_out a.ok
  rw [a.was] at o1
  rw [a.will] at o2
  have r1 := (layVer o1).2.2
  have r2 := (layVer o2).2.2
  have g0 := a.g0
  have g8 := a.g8
  have xo := a.ok
  have nb : ∀ b b' : Bool, aBin Tryd.prog .neq 4 (.v (.bool b)) (.v (.bool b')) = some (.v (.bool (!(b == b')))) := by intro b b'; cases b <;> cases b' <;> kernel_rfl
  simp (disch := omega) only [go_sem, lc]
  unfold Tryd.r12_l30_130
  refine ⟨fun m vs h' => ∃ k : Nat, k ≤ keys.length ∧ m = keys.length - k ∧ h' = H ∧ vs = [.v (.int .i64 k)], keys.length, ⟨0, by omega, rfl, rfl, rfl⟩, ?_⟩
  rintro m h' hl1 hlow2 n ⟨k, hk1', rfl, rfl, hvs⟩
  simp only [List.cons.injEq, AV.v.injEq, Value.int.injEq, true_and, and_true] at hvs
  obtain rfl := hvs
  have gl8 : i8 < h'.length := (List.getElem?_eq_some_iff.mp g8).1
  by_cases hkk : k < keys.length
  rotate_left
  · cases b41 with
    | true =>
      simp (disch := omega) only [go_sem]
      exact hk1 rfl
    | false =>
      have ew : IntKind.i64.wrap ((r : Int) + 1) = ((r + 1 : Nat) : Int) := by rw [wrap64_of (by omega) (by omega)]; omega
      simp (disch := omega) only [go_sem, ew]
      exact hk2 rfl _
  obtain ⟨s, hs⟩ : ∃ s, keys[k]? = some s := ⟨_, List.getElem?_eq_getElem hkk⟩
  have hsg : keys.getD k [] = s := by rw [List.getD_eq_getElem?_getD, hs]; rfl
  have hsl := hkl s (List.mem_of_getElem? hs)
  obtain ⟨q, q1, q2⟩ := strAt (hc h') hs
  have hlk := told_look (b := (k : Int)) a.g27
  have htold := htold k hkk
  rw [hsg] at htold
  have ew : IntKind.i64.wrap ((k : Int) + 1) = ((k + 1 : Nat) : Int) := by rw [wrap64_of (by omega) (by omega)]; omega
  have nxt : ∀ ks, nextR h' (fun m vs h'' => ∃ k : Nat, k ≤ keys.length ∧ m = keys.length - k ∧ h'' = h' ∧ vs = [.v (.int .i64 k)]) (keys.length - k) ks ks [.v (.int .i64 (k + 1 : Nat))] h' := fun ks =>
    next_keep (keys.length - (k + 1)) (by omega) (Nat.le_refl _) ⟨k + 1, by omega, rfl, rfl, rfl⟩
  simp (disch := omega) only [go_sem, lc, q1, q2, g0, n1, n2, c1, c2]
  refine ⟨Of_call G hG W1 c.was.wts s _ _ (k1 _).ints (by omega) hsl ?_⟩
  simp (disch := omega) only [go_sem, r1, if_true, g0, n1, n2, c1, c2]
  refine ⟨Of_call G hG W2 c.will.wts s _ _ (k2 _).ints (by omega) hsl ?_⟩
  have hown : x.owner s = if b41 = true ∨ Op.bytesLess s x.cur = true then ofK Lib.itoa c.will.wts s else ofK Lib.itoa c.was.wts s := by
    unfold Chg.owner
    rw [hfin, a.was, a.will]
  cases hb41 : b41 with
  | true =>
    have hp : b41 = true ∨ Op.bytesLess s x.cur = true := .inl hb41
    rw [if_pos hp] at hown
    simp (disch := omega) only [go_sem, r2, if_true, g8, n1, n2, c1, c2]
    refine ⟨Owner_call G hG x s W1 W2 _ _ (kx1 _) (kx2 _) (by omega) (by omega) (by omega) hsl ?_⟩
    by_cases hfg : ofK Lib.itoa c.was.wts s = ofK Lib.itoa c.will.wts s
    · have hd : decide ((k : Int) ∈ l) = false := decide_eq_false fun h => (htold.mp h).2 hfg
      have dn : decide (ofK Lib.itoa c.will.wts s ≠ ofK Lib.itoa c.will.wts s) = false := by simp
      rw [hd] at hlk
      simp (disch := omega) only [go_sem, xo, if_true, hown, hlk, hfg, dn, nb, ew, beq_self_eq_true]
      exact nxt _
    · have hd : decide ((k : Int) ∈ l) = true := decide_eq_true (htold.mpr ⟨hp, hfg⟩)
      have dn : decide (ofK Lib.itoa c.was.wts s ≠ ofK Lib.itoa c.will.wts s) = true := decide_eq_true hfg
      rw [hd] at hlk
      simp (disch := omega) only [go_sem, xo, if_true, hown, hlk, hfg, dn, nb, ew, beq_self_eq_true]
      exact nxt _
  | false =>
    cases hb : Op.bytesLess s x.cur with
    | true =>
      have hp : b41 = true ∨ Op.bytesLess s x.cur = true := .inr hb
      rw [if_pos hp] at hown
      simp (disch := omega) only [go_sem, r2, if_true, g8, n1, n2, c1, c2, bs_toList, hb]
      refine ⟨Owner_call G hG x s W1 W2 _ _ (kx1 _) (kx2 _) (by omega) (by omega) (by omega) hsl ?_⟩
      by_cases hfg : ofK Lib.itoa c.was.wts s = ofK Lib.itoa c.will.wts s
      · have hd : decide ((k : Int) ∈ l) = false := decide_eq_false fun h => (htold.mp h).2 hfg
        have dn : decide (ofK Lib.itoa c.will.wts s ≠ ofK Lib.itoa c.will.wts s) = false := by simp
        rw [hd] at hlk
        simp (disch := omega) only [go_sem, xo, if_true, hown, hlk, hfg, dn, nb, ew, beq_self_eq_true]
        exact nxt _
      · have hd : decide ((k : Int) ∈ l) = true := decide_eq_true (htold.mpr ⟨hp, hfg⟩)
        have dn : decide (ofK Lib.itoa c.was.wts s ≠ ofK Lib.itoa c.will.wts s) = true := decide_eq_true hfg
        rw [hd] at hlk
        simp (disch := omega) only [go_sem, xo, if_true, hown, hlk, hfg, dn, nb, ew, beq_self_eq_true]
        exact nxt _
    | false =>
      have hp : ¬ (b41 = true ∨ Op.bytesLess s x.cur = true) := by rw [hb41, hb]; decide
      rw [if_neg hp] at hown
      have hd : decide ((k : Int) ∈ l) = false := decide_eq_false fun h => hp (htold.mp h).1
      rw [hd] at hlk
      simp (disch := omega) only [go_sem, r2, if_true, g8, n1, n2, c1, c2, bs_toList, hb]
      refine ⟨Owner_call G hG x s W1 W2 _ _ (kx1 _) (kx2 _) (by omega) (by omega) (by omega) hsl ?_⟩
      simp (disch := omega) only [go_sem, xo, if_true, hown, hlk, nb, ew, beq_self_eq_true]
      exact nxt _
end Go.Proofs

/-
  The law: one owner.
-/
namespace Go.Proofs
open Go Go.Abs
set_option maxRecDepth 100000
set_option linter.unusedSimpArgs false
theorem once_moves (G : Nat → Option AV) (hG : GTab G) (c x : Chg) (W1 W2 a1 a2 v40 : AV) (keys : List (List UInt8)) (p m : Nat) (i0 i8 i27 m31 : Nat) (I29 : Nat → List AV → AH → Prop) (r : Nat) (h H28 H : AH) (K : AV → AH → Prop) (k1 : ∀ h, Wt h W1 c.was.wts) (k2 : ∀ h, Wt h W2 c.will.wts) (l1 : c.was.wts.length ≤ 17592186044415) (l2 : c.will.wts.length ≤ 17592186044415) (hc : ∀ h, Sees h 1 a1 (keys.map srow)) (hl3 : keys.length ≤ 40) (hkl : ∀ k ∈ keys, k.length ≤ 4611686018427387904)
    (hri : riseB keys = true) (lb : LbAt keys x.cur p) (hm : p + m ≤ keys.length) (hxf : x.fin = false)
    (a : OnceAt H i0 i8 i27 c x W1 W2 (mvFrom (ofK Lib.itoa c.was.wts) (ofK Lib.itoa c.will.wts) keys 0 p))
    (hs : ∀ o, Ints (H.set i27 o) v40 (mvFrom (ofK Lib.itoa c.was.wts) (ofK Lib.itoa c.will.wts) keys p m))
    (hHH : H28.length ≤ H.length) (hr : r ≤ p) (hhH : h.length ≤ H.length)
    (hk1 : ∀ H', h.length ≤ H'.length → RetR h K (.v (.bool true)) H')
    (hk2 : ∀ y H', H28.length ≤ H'.length → 1 ≤ m → OnceAt H' i0 i8 i27 c y W1 W2 (mvFrom (ofK Lib.itoa c.was.wts) (ofK Lib.itoa c.will.wts) keys 0 (p + m)) → y.fin = false → LbAt keys y.cur (p + m) → ∀ ks, nextR H28 I29 m31 ks ks [.v (.int .i64 (r + 1 : Nat))] H') (hm1 : p + m < keys.length → 1 ≤ m) :
    Tryd.r12_l17_66 K h G a1 a2 i0 i8 i27 H28 I29 m31 r H (bs (keys.getD (p + m) [])) v40 (!decide (p + m < keys.length)) (mvFrom (ofK Lib.itoa c.was.wts) (ofK Lib.itoa c.will.wts) keys p m).length 0 := by
  unfold Tryd.r12_l17_66
  have n1 := (k1 h).one
  have n2 := (k2 h).one
  have c1 := (k1 h).cells
  have c2 := (k2 h).cells
  have e0 : (ByteArray.mk #[]) = bs [] := rfl
  have lc : ∀ h, aLen Tryd.prog h 23 a1 = some (.v (.int .i64 keys.length)) := fun h => by
    have := (hc h).len (P := Tryd.prog) (t := 23) Tryd.und23
    rw [List.length_map] at this
    exact this
  generalize hL : mvFrom (ofK Lib.itoa c.was.wts) (ofK Lib.itoa c.will.wts) keys 0 p = l at a
  generalize hM : mvFrom (ofK Lib.itoa c.was.wts) (ofK Lib.itoa c.will.wts) keys p m = mv at hs
  have hMl : mv.length ≤ m := by rw [← hM]; exact mvFrom_len _ _ _ _ _
  have hnd : (l ++ mv).Nodup := by rw [← hL, ← hM, mvFrom_add]; exact mvFrom_nodup _ _ _ _ _
  have hself : H = H.set i27 (toldO (l ++ mv.take 0)) := by
    have := a.g27
    rw [List.take_zero, List.append_nil]
    obtain ⟨hlt, hget⟩ := List.getElem?_eq_some_iff.mp this
    rw [← hget, List.set_getElem_self]
  refine ⟨fun mm vs h' => ∃ k : Nat, k ≤ mv.length ∧ mm = mv.length - k ∧ h' = H.set i27 (toldO (l ++ mv.take k)) ∧ vs = [.v (.int .i64 k)], mv.length, ⟨0, by omega, rfl, hself, rfl⟩, ?_⟩
  rintro mm h' hl1 hlow2 n ⟨k, hk1', rfl, hh', hvs⟩
  simp only [List.cons.injEq, AV.v.injEq, Value.int.injEq, true_and, and_true] at hvs
  obtain rfl := hvs
  have a' : OnceAt h' i0 i8 i27 c x W1 W2 (l ++ mv.take k) := by rw [hh']; exact a.setMap
  have hs' : Ints h' v40 mv := by rw [hh']; exact hs _
  have hlen : h'.length = H.length := by rw [hh', List.length_set]
  have g8 := a'.g8
  have gl8 : i8 < h'.length := (List.getElem?_eq_some_iff.mp g8).1
  by_cases hkk : k < mv.length
  · obtain ⟨z, hz⟩ : ∃ z, mv[k]? = some z := ⟨_, List.getElem?_eq_getElem hkk⟩
    have hzm := List.mem_of_getElem? hz
    rw [← hM] at hzm
    obtain ⟨i, rfl, hi1, hi2, _⟩ := mem_mvFrom.mp hzm
    obtain ⟨q, q1, q2, _⟩ := hs'.iaAll (P := Tryd.prog) (ty := 22) (k := .i64) (i := k) (r := irow i) Tryd.und22 Tryd.siz3 (by omega) (by simp [hz])
    have q1 := q1 []
    have q2 := q2 []
    rw [List.append_nil] at q1 q2
    obtain ⟨s, hs⟩ : ∃ s, keys[i]? = some s := ⟨_, List.getElem?_eq_getElem (by omega)⟩
    have hsg : keys.getD i [] = s := by rw [List.getD_eq_getElem?_getD, hs]; rfl
    obtain ⟨w, w1, w2⟩ := strAt (hc h') hs
    have hnot : (i : Int) ∉ l ++ mv.take k := by
      intro hmem
      rw [List.mem_append] at hmem
      rcases hmem with h1 | h1
      · rw [← hL] at h1
        obtain ⟨j, hj, _, hj2, _⟩ := mem_mvFrom.mp h1
        omega
      · exact nodup_take (hnd.sublist (List.sublist_append_right _ _)) hz h1
    have hlk := told_look (b := (i : Int)) a'.g27
    rw [decide_eq_false hnot] at hlk
    have hb1 : Op.bytesLess s x.cur = false := by have := lb.hi i (by omega) (by omega); rw [hsg] at this; exact this
    have ew : IntKind.i64.wrap ((k : Int) + 1) = ((k + 1 : Nat) : Int) := by rw [wrap64_of (by omega) (by omega)]; omega
    have fin : mapR Tryd.prog h' (fun v126 h127 => nextR H (fun mm vs h' => ∃ k : Nat, k ≤ mv.length ∧ mm = mv.length - k ∧ h' = H.set i27 (toldO (l ++ mv.take k)) ∧ vs = [.v (.int .i64 k)]) (mv.length - k) [some a1, some a2, some (.ptr i0 0 0 0), some (.ptr i8 0 0 0), some (.mp i27), some (.v (.int .i64 r)), some (.v (.string (bs (keys.getD (p + m) [])))), some (.v (.bool (!decide (p + m < keys.length)))), some v40, some (.v (.int .i64 mv.length))] [some a1, some a2, some (.ptr i0 0 0 0), some (.ptr i8 0 0 0), some (.mp i27), some (.v (.int .i64 r)), some (.v (.string (bs (keys.getD (p + m) [])))), some (.v (.bool (!decide (p + m < keys.length)))), some v40, some (.v (.int .i64 mv.length))] [(.v (.int .i64 (IntKind.wrap .i64 (k + 1))))] h127) 67 (.mp i27) (.v (.int .i64 i)) (.v (.bool true)) := by
      refine told_put a'.g27 hnot ?_
      rw [ew]
      refine next_keep (mv.length - (k + 1)) (by omega) (by rw [List.length_set]; omega) ⟨k + 1, by omega, rfl, ?_, rfl⟩
      rw [hh', List.set_set, List.take_add_one, hz, Option.toList_some, List.append_assoc]
    by_cases hd : p + m < keys.length
    · have e1 : decide (p + m < keys.length) = true := decide_eq_true hd
      have hb2 : Op.bytesLess s (keys.getD (p + m) []) = true := by have := rise_less hri (i := i) (j := p + m) (by omega) hd; rw [hsg] at this; exact this
      rw [e1] at fin ⊢
      simp (disch := omega) only [go_sem, lc, q1, q2, w1, w2, hlk, bs_toList, hb1, hb2, g8]
      exact fin
    · have e1 : decide (p + m < keys.length) = false := decide_eq_false hd
      rw [e1] at fin ⊢
      simp (disch := omega) only [go_sem, lc, q1, q2, w1, w2, hlk, bs_toList, hb1, g8]
      exact fin
  have hke : k = mv.length := by omega
  subst hke
  rw [List.take_length] at a'
  have hlm : l ++ mv = mvFrom (ofK Lib.itoa c.was.wts) (ofK Lib.itoa c.will.wts) keys 0 (p + m) := by rw [← hL, ← hM]; exact mvFrom_add _ _ _ _ _
  rw [hlm] at a'
  have kx1 : ∀ h, Wt h W1 x.was.wts := fun h => by rw [a.was]; exact k1 h
  have kx2 : ∀ h, Wt h W2 x.will.wts := fun h => by rw [a.will]; exact k2 h
  have lx1 : x.was.wts.length ≤ 17592186044415 := by rw [a.was]; exact l1
  have lx2 : x.will.wts.length ≤ 17592186044415 := by rw [a.will]; exact l2
  obtain ⟨o1, o2, o3, o4, o5, _⟩ := chgOk_out a.ok
  by_cases hd : p + m < keys.length
  · have e1 : decide (p + m < keys.length) = true := decide_eq_true hd
    obtain ⟨s, hs⟩ : ∃ s, keys[p + m]? = some s := ⟨_, List.getElem?_eq_getElem hd⟩
    have hsg : keys.getD (p + m) [] = s := by rw [List.getD_eq_getElem?_getD, hs]; rfl
    have hsl := hkl s (List.mem_of_getElem? hs)
    have hg := riseB_iff.mp hri (p + m) hd
    unfold goodAt at hg
    rw [hsg] at hg
    simp only [Bool.and_eq_true, decide_eq_true_eq] at hg
    have hb1 : Op.bytesLess s x.cur = false := by have := lb.hi (p + m) (by omega) hd; rw [hsg] at this; exact this
    have ht : x.to s = (0, some { x with cur := s }) := by
      unfold Chg.to
      rw [if_neg (by rw [a.ok]; decide), if_neg (by rw [hxf, hb1]; simp; omega)]
    have yo : ({ x with cur := s } : Chg).ok = true := by
      unfold Chg.ok
      simp only [o1, o2, o3, o4, decide_true, Bool.and_true, hxf, Bool.false_and, Bool.not_false, show s.length ≤ 64 by omega, Bool.and_self]
    have lb' : LbAt keys s (p + m) := ⟨by omega, fun j hj => by rw [← hsg]; exact rise_less hri hj hd, fun j hj1 hj2 => by
      by_cases he : j = p + m
      · subst he; rw [hsg]
        cases hx : Op.bytesLess s s with
        | false => rfl
        | true => rw [bytesLess_eq] at hx; exact absurd (of_decide_eq_true hx) (List.lt_irrefl _)
      · have h1 := rise_less hri (i := p + m) (j := j) (by omega) hj2
        rw [hsg] at h1
        cases hx : Op.bytesLess (keys.getD j []) s with
        | false => rfl
        | true =>
          have := less_trans h1 hx
          rw [bytesLess_eq] at this; exact absurd (of_decide_eq_true this) (List.lt_irrefl _)⟩
    rw [hsg, e1]
    simp (disch := omega) only [go_sem, g8, n1, n2, c1, c2]
    refine ⟨To_call G x s W1 W2 _ _ (kx1 _) (kx2 _) (by omega) (by omega) (by omega) hsl (fun e t h1 h2 => by rw [ht] at h1; cases h1) (fun c' t h1 => ?_)⟩
    rw [ht] at h1
    obtain rfl := Option.some.inj (Prod.mk.inj h1).2
    generalize hH2 : _ ++ t = H2
    have g : Grew h' H2 := ⟨t, hH2.symm⟩
    have g42 := g.get g8
    have gl2 := g.lt g8
    have al := a'.grew g
    have hgl := g.len
    simp (disch := omega) only [go_sem, g42, n1, n2, c1, c2]
    have al2 := al.setChg (y := { x with cur := s }) yo al.was al.will
    refine once_keys G hG c { x with cur := s } W1 W2 a1 a2 keys _ i0 i8 i27 m31 I29 r false h H28 _ K k1 k2 l1 l2 hc hl3 hkl al2 hxf (fun j hj => ?_) (by omega) (fun h => by cases h) (fun _ ks => ?_)
    · rw [mem_mvFrom]
      constructor
      · rintro ⟨i, hi, _, hi2, hi3⟩
        obtain rfl : j = i := by omega
        exact ⟨.inr (lb'.lo j (by omega)), hi3⟩
      · rintro ⟨h1, h2⟩
        refine ⟨j, rfl, by omega, ?_, h2⟩
        rcases h1 with h1 | h1
        · cases h1
        · rcases Nat.lt_or_ge j (p + m) with h3 | h3
          · omega
          · have h4 := lb'.hi j h3 hj
            simp only at h1
            rw [h4] at h1; cases h1
    · exact hk2 { x with cur := s } _ (by rw [List.length_set]; omega) (hm1 hd) al2 hxf lb' ks
  · have e1 : decide (p + m < keys.length) = false := decide_eq_false hd
    have yo : ({ was := x.was, will := x.will, cur := [], fin := true } : Chg).ok = true := by
      unfold Chg.ok
      simp only [o1, o2, o3, o4, decide_true, Bool.and_true, Bool.true_and, List.length_nil, Nat.zero_le, ne_eq, not_true_eq_false, decide_false, Bool.not_false, Bool.and_self]
    have al2 := a'.setChg (y := { was := x.was, will := x.will, cur := [], fin := true }) yo a'.was a'.will
    rw [e1]
    simp (disch := omega) only [go_sem, g8, e0, n1, n2, c1, c2, List.getElem?_set_self gl8, List.set_set]
    refine once_keys G hG c { was := x.was, will := x.will, cur := [], fin := true } W1 W2 a1 a2 keys _ i0 i8 i27 m31 I29 r true h H28 _ K k1 k2 l1 l2 hc hl3 hkl al2 rfl (fun j hj => ?_) (by omega) (fun _ => ?_) (fun h => by cases h)
    · rw [mem_mvFrom]
      constructor
      · rintro ⟨i, hi, _, hi2, hi3⟩
        obtain rfl : j = i := by omega
        exact ⟨.inl rfl, hi3⟩
      · rintro ⟨_, h2⟩
        exact ⟨j, rfl, by omega, by omega, h2⟩
    · exact hk1 _ (by rw [List.length_set]; omega)
theorem once_round (G : Nat → Option AV) (hG : GTab G) (c x : Chg) (W1 W2 a1 a2 : AV) (keys : List (List UInt8)) (l : List Int) (p : Nat) (i0 i8 i27 m31 : Nat) (I29 : Nat → List AV → AH → Prop) (r : Nat) (most : Int) (h H28 H : AH) (K : AV → AH → Prop) (k1 : ∀ h, Wt h W1 c.was.wts) (k2 : ∀ h, Wt h W2 c.will.wts) (l1 : c.was.wts.length ≤ 17592186044415) (l2 : c.will.wts.length ≤ 17592186044415) (hc : ∀ h, Sees h 1 a1 (keys.map srow)) (hl3 : keys.length ≤ 40) (hkl : ∀ k ∈ keys, k.length ≤ 4611686018427387904)
    (hri0 : riseB keys = false → r = 0) (lb : riseB keys = true → LbAt keys x.cur p) (hxf : x.fin = false) (hl : riseB keys = true → l = mvFrom (ofK Lib.itoa c.was.wts) (ofK Lib.itoa c.will.wts) keys 0 p)
    (a : OnceAt H i0 i8 i27 c x W1 W2 l) (hm1 : 1 ≤ most) (hm2 : most ≤ 5)
    (hHH : H28.length ≤ H.length) (hr : r ≤ p) (hhH : h.length ≤ H.length)
    (hk1 : ∀ H', h.length ≤ H'.length → RetR h K (.v (.bool true)) H')
    (hk2 : riseB keys = true → ∀ y H' p', H28.length ≤ H'.length → r + 1 ≤ p' → OnceAt H' i0 i8 i27 c y W1 W2 (mvFrom (ofK Lib.itoa c.was.wts) (ofK Lib.itoa c.will.wts) keys 0 p') → y.fin = false → LbAt keys y.cur p' → ∀ ks, nextR H28 I29 m31 ks ks [.v (.int .i64 (r + 1 : Nat))] H') :
    Tryd.r12_j36 G h K a1 a2 i0 i8 i27 H28 I29 m31 r most H := by
  unfold Tryd.r12_j36
  have n1 := (k1 h).one
  have n2 := (k2 h).one
  have c1 := (k1 h).cells
  have c2 := (k2 h).cells
  have e0 : (ByteArray.mk #[]) = bs [] := rfl
  have kx1 : ∀ h, Wt h W1 x.was.wts := fun h => by rw [a.was]; exact k1 h
  have kx2 : ∀ h, Wt h W2 x.will.wts := fun h => by rw [a.will]; exact k2 h
  have lx1 : x.was.wts.length ≤ 17592186044415 := by rw [a.was]; exact l1
  have lx2 : x.will.wts.length ≤ 17592186044415 := by rw [a.will]; exact l2
  obtain ⟨o1, o2, o3, o4, o5, _⟩ := chgOk_out a.ok
  have g8 := a.g8
  have ho := a.ok
  simp (disch := omega) only [go_sem, g8, n1, n2, c1, c2]
  refine ⟨Next_call G hG x W1 W2 a1 keys most _ _ kx1 kx2 lx1 lx2 (by omega) (hc _) (by omega) hkl (by omega) (by omega) (fun h => by rw [ho] at h; cases h) (fun _ hbad => ?_) (fun _ _ _ h => by rw [hxf] at h; cases h) (fun _ _ hri _ f v H3 lbf acc => ?_)⟩
  · have hri : riseB keys = false := by
      rcases hbad with h | h
      · omega
      · exact h
    obtain rfl := hri0 hri
    have ln : ∀ h, aLen Tryd.prog h 22 (.v (.slice none 0 0)) = some (.v (.int .i64 0)) := fun h => by
      have := (Sees.nil (h := h) (n := 1)).len (P := Tryd.prog) (t := 22) Tryd.und22
      exact this
    simp (disch := omega) only [go_sem, e0, ln, bs_toList, beq_self_eq_true]
    exact hk1 _ hhH
  · obtain rfl := lbf.uniq (lb hri)
    have hl := hl hri
    subst hl
    rw [a.was, a.will] at acc
    have lv : aLen Tryd.prog H3 22 v = some (.v (.int .i64 (mvFrom (ofK Lib.itoa c.was.wts) (ofK Lib.itoa c.will.wts) keys f (nextM keys most f)).length)) := by
      have := acc.len (P := Tryd.prog) (t := 22) Tryd.und22
      rw [List.length_map] at this
      exact this
    have gl27 : i27 < H.length := (List.getElem?_eq_some_iff.mp a.g27).1
    have hfl := lbf.le
    have hml : nextM keys most f ≤ keys.length - f := by unfold nextM; omega
    have g : Grew H H3 := by obtain ⟨t, rfl⟩ := acc.tail; exact .app t
    have hgl := g.len
    simp (disch := omega) only [go_sem, lv]
    rw [show (decide ¬ (f + nextM keys most f < keys.length)) = !decide (f + nextM keys most f < keys.length) from decide_not]
    refine once_moves G hG c x W1 W2 a1 a2 v keys f (nextM keys most f) i0 i8 i27 m31 I29 r h H28 H3 K k1 k2 l1 l2 hc hl3 hkl hri lbf (by omega) hxf (a.grew g) (fun o => (acc.setBase gl27).sees) (by omega) hr (by omega) hk1 (fun y H' h1 h2 h3 h4 h5 ks => ?_) (fun h => by unfold nextM; omega)
    exact hk2 hri y H' _ h1 (by omega) h3 h4 h5 ks
theorem lawOnce (G : Nat → Option AV) (hG : GTab G) (c : Chg) (W1 W2 a1 a2 : AV) (keys : List (List UInt8)) (steps : List Int) (h : AH) (K : AV → AH → Prop) (k1 : ∀ h, Wt h W1 c.was.wts) (k2 : ∀ h, Wt h W2 c.will.wts) (l1 : c.was.wts.length ≤ 17592186044415) (l2 : c.will.wts.length ≤ 17592186044415) (lcu : c.cur.length ≤ 140737488351232) (hc : ∀ h, Sees h 1 a1 (keys.map srow)) (hs : ∀ h, Ints h a2 steps) (hl3 : keys.length ≤ 8796093022207) (hl4 : steps.length ≤ 17592186044415) (hkl : ∀ k ∈ keys, k.length ≤ 4611686018427387904)
    (hk : ∀ h', K (.v (.bool true)) h') : SCall Tryd.prog G 12 [.agg (c.cells W1 W2), a1, a2] h K := by
  refine Tryd.c12 G _ _ _ h K fun hlow => ?_
  unfold Tryd.r12
  have n1 := (k1 h).one
  have n2 := (k2 h).one
  have c1 := (k1 h).cells
  have c2 := (k2 h).cells
  have e0 : (ByteArray.mk #[]) = bs [] := rfl
  have lc : ∀ h, aLen Tryd.prog h 23 a1 = some (.v (.int .i64 keys.length)) := fun h => by
    have := (hc h).len (P := Tryd.prog) (t := 23) Tryd.und23
    rw [List.length_map] at this
    exact this
  have ls : ∀ h, aLen Tryd.prog h 22 a2 = some (.v (.int .i64 steps.length)) := fun h => by
    have := (hs h).len (P := Tryd.prog) (t := 22) Tryd.und22
    rw [List.length_map] at this
    exact this
  simp (disch := omega) only [go_sem, n1, n2, c1, c2, Nat.reduceAdd]
  refine ⟨lyWorks_call G hG _ _ ?_⟩
  simp (disch := omega) only [go_sem, n1, n2, c1, c2, Nat.reduceAdd]
  refine ⟨theirs_call G c W1 W2 _ _ k1 k2 fun t => ?_⟩
  let x : Chg := ⟨c.was, c.will, [], false⟩
  generalize hH : _ ++ t = H
  have g : Grew (h ++ [some (.cells 47 6 [c.cells W1 W2] 0)]) H := ⟨t, by rw [← hH]⟩
  have g0 := g.get (i := h.length) (o := some (.cells 47 6 [c.cells W1 W2] 0)) (by simp)
  have gl0 := g.lt (i := h.length) (o := some (.cells 47 6 [c.cells W1 W2] 0)) (by simp)
  simp (disch := omega) only [go_sem, n1, n2, c1, c2, Nat.reduceAdd, e0]
  refine ⟨chgCheck_call G x W1 W2 _ _ (k1 _) (k2 _) (by simp only [x]; omega) (by simp only [x]; omega) (by simp [x]) ?_⟩
  cases ho : x.ok with
  | false =>
    simp (disch := omega) only [go_sem, Bool.false_eq_true, if_false]
    exact ret_keep (hk _)
  | true =>
  by_cases h40 : keys.length > 40
  · simp (disch := omega) only [go_sem, if_true, lc]
    exact ret_keep (hk _)
  simp (disch := omega) only [go_sem, if_true, lc]
  have hret : ∀ H', h.length ≤ H'.length → RetR h K (.v (.bool true)) H' := fun H' _ => ret_keep (hk _)
  unfold Tryd.r12_l10_29
  generalize hS : H ++ [some (AO.cells 48 6 [[AV.v (Value.int IntKind.i64 c.was.ver), W1, AV.v (Value.int IntKind.i64 c.will.ver), W2, AV.v (Value.string (bs [])), AV.v (Value.bool false)]] 0), some (AO.map [] 0)] = S
  have a0 : OnceAt S h.length H.length (H.length + 1) c x W1 W2 [] :=
    ⟨by rw [← hS, List.getElem?_append_left gl0]; exact g0, by rw [← hS]; simp [x], by rw [← hS]; simp [toldFrom], ho, rfl, rfl⟩
  have hSl : h.length ≤ S.length := by rw [← hS]; simp; omega
  refine ⟨fun m vs h' => ∃ (r p : Nat) (y : Chg) (l : List Int), vs = [.v (.int .i64 r)] ∧ m = 41 - r ∧ r ≤ p ∧ OnceAt h' h.length H.length (H.length + 1) c y W1 W2 l ∧ y.fin = false ∧ (riseB keys = true → LbAt keys y.cur p) ∧ (riseB keys = true → l = mvFrom (ofK Lib.itoa c.was.wts) (ofK Lib.itoa c.will.wts) keys 0 p) ∧ (riseB keys = false → r = 0), 41, ⟨0, 0, x, [], rfl, rfl, Nat.le_refl _, a0, rfl, fun _ => ⟨Nat.zero_le _, (fun j hj => by omega), fun j _ _ => ?_⟩, fun _ => rfl, fun _ => rfl⟩, ?_⟩
  · show Op.bytesLess (keys.getD j []) [] = false
    cases keys.getD j [] <;> rfl
  rintro m h' hl1 hlow2 n ⟨r, p, y, l, hvs, rfl, hrp, a, hyf, lb, hl, hr0⟩
  simp only [List.cons.injEq, AV.v.injEq, Value.int.injEq, true_and, and_true] at hvs
  obtain rfl := hvs
  have round : ∀ most : Int, 1 ≤ most → most ≤ 5 → Tryd.r12_j36 G h K a1 a2 h.length H.length (H.length + 1) S (fun m vs h' => ∃ (r p : Nat) (y : Chg) (l : List Int), vs = [.v (.int .i64 r)] ∧ m = 41 - r ∧ r ≤ p ∧ OnceAt h' h.length H.length (H.length + 1) c y W1 W2 l ∧ y.fin = false ∧ (riseB keys = true → LbAt keys y.cur p) ∧ (riseB keys = true → l = mvFrom (ofK Lib.itoa c.was.wts) (ofK Lib.itoa c.will.wts) keys 0 p) ∧ (riseB keys = false → r = 0)) (41 - r) r most h' := by
    intro most hm1 hm2
    refine once_round G hG c y W1 W2 a1 a2 keys l p h.length H.length (H.length + 1) (41 - r) _ r most h S h' K k1 k2 l1 l2 hc (by omega) hkl hr0 lb hyf hl a hm1 hm2 hl1 hrp (by omega) hret ?_
    intro hri y' H' p' h1 h2 h3 h4 h5 ks
    have := (lb hri).le
    exact next_keep (41 - (r + 1)) (by omega) h1 ⟨r + 1, p', y', _, rfl, rfl, h2, h3, h4, fun _ => h5, fun _ => rfl, fun h => by rw [hri] at h; cases h⟩
  by_cases hrs : r < steps.length
  · obtain ⟨z, hz⟩ : ∃ z, steps[r]? = some z := ⟨_, List.getElem?_eq_getElem hrs⟩
    obtain ⟨q, q1, q2, _⟩ := (hs h').iaAll (P := Tryd.prog) (ty := 22) (k := .i64) (i := r) (r := irow z) Tryd.und22 Tryd.siz3 (by omega) (by simp [hz])
    have q1 := q1 []
    have q2 := q2 []
    rw [List.append_nil] at q1 q2
    have ht : 0 ≤ (IntKind.u64.wrap z).tmod 5 ∧ (IntKind.u64.wrap z).tmod 5 ≤ 4 := by
      have h0 : 0 ≤ IntKind.u64.wrap z := by simp [IntKind.wrap, IntKind.bits, IntKind.signed]; omega
      rw [Int.tmod_eq_emod_of_nonneg h0]
      omega
    have e1 : IntKind.i64.wrap ((IntKind.u64.wrap z).tmod 5) = (IntKind.u64.wrap z).tmod 5 := wrap64_of (by omega) (by omega)
    have e2 : IntKind.i64.wrap (1 + (IntKind.u64.wrap z).tmod 5) = 1 + (IntKind.u64.wrap z).tmod 5 := wrap64_of (by omega) (by omega)
    simp (disch := omega) only [go_sem, ls, q1, q2, e1, e2]
    exact round _ (by omega) (by omega)
  · simp (disch := omega) only [go_sem, ls]
    exact round 1 (by omega) (by omega)
theorem Tryd.lawLayoutOnce {G : Nat → Option AV} (hG : GTab G) (xs ys zs : List AV) (hx : In Tryd.prog 47 xs) (hy : In Tryd.prog 23 ys) (hz : In Tryd.prog 22 zs) : SCall Tryd.prog G 12 [argA Tryd.prog 47 xs, argA Tryd.prog 23 ys, argA Tryd.prog 22 zs] [] fun v _ => v = .v (.bool true) := by
  obtain ⟨c, W1, W2, rfl, k1, k2, l1, l2, l3⟩ := in_chg hx
  obtain ⟨b, keys, rfl, _, _, b1, b2, b3, _⟩ := in_texts hy
  obtain ⟨d, steps, rfl, _, _, d1, d2, _⟩ := in_weights hz
  rw [argChg, argTexts, argInts]
  exact lawOnce G hG c W1 W2 b d keys steps [] _ k1 k2 l1 l2 l3 b1 d1 b2 d2 (fun k hk => Nat.le_trans (b3 k hk) (by omega)) fun _ => rfl
end Go.Proofs
