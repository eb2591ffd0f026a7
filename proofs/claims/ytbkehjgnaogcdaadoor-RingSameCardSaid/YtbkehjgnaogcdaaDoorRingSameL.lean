/-
  The law: with the same weights no key moves, nor with a chain more that weighs nothing.
-/
import Derived.Test.YtbkehjgnaogcdaaDoorRy
set_option linter.all false
namespace Go.Proofs
open Go Go.Abs
set_option maxRecDepth 100000
set_option linter.unusedSimpArgs false
theorem ringOk_in {ws : List Int} (h1 : 1 ≤ ws.length) (h2 : ws.length ≤ 8) (h3 : ∀ w ∈ ws, 0 ≤ w ∧ w ≤ 128) {a : Nat} (h4 : 0 < ws.getD a 0) : ringOk ws = true := by
  cases ws with
  | nil => simp at h1
  | cons x xs =>
    obtain ⟨m1, m2⟩ := foldl_min (xs := xs) x
    obtain ⟨n1, n2, n3⟩ := foldl_max (xs := xs) x
    have hmem : ∀ y, y ∈ x :: xs → xs.foldl (fun a b => if b < a then b else a) x ≤ y ∧ y ≤ xs.foldl (fun a b => if a < b then b else a) x := by
      intro y hy
      rcases List.mem_cons.mp hy with rfl | hy
      · exact ⟨m1, n1⟩
      · exact ⟨m2 y hy, n2 y hy⟩
    have hmin : 0 ≤ xs.foldl (fun a b => if b < a then b else a) x := by
      have key : ∀ (xs : List Int) (x : Int), xs.foldl (fun a b => if b < a then b else a) x ∈ x :: xs := by
        intro xs
        induction xs with
        | nil => intro x; simp
        | cons y ys ih =>
          intro x
          rw [List.foldl_cons]
          have := ih (if y < x then y else x)
          rcases List.mem_cons.mp this with h | h
          · rw [h]; split <;> simp
          · exact List.mem_cons_of_mem _ (List.mem_cons_of_mem _ h)
      exact (h3 _ (key xs x)).1
    have hmax : xs.foldl (fun a b => if a < b then b else a) x ≤ 128 := by
      rcases n3 with n3 | n3
      · rw [n3]; exact (h3 x (by simp)).2
      · exact (h3 _ (List.mem_cons_of_mem _ n3)).2
    have hpos : 0 < xs.foldl (fun a b => if a < b then b else a) x := by
      have ha : (x :: xs).getD a 0 ∈ x :: xs := by
        by_cases hal : a < (x :: xs).length
        · rw [List.getD_eq_getElem?_getD, List.getElem?_eq_getElem hal]
          exact List.getElem_mem _
        · rw [List.getD_eq_getElem?_getD, List.getElem?_eq_none (by omega)] at h4
          simp at h4
      have := (hmem _ ha).2
      omega
    unfold ringOk leastI mostI
    simp only [Bool.and_eq_true, decide_eq_true_eq]
    exact ⟨⟨⟨⟨h1, h2⟩, hmin⟩, hmax⟩, by omega⟩
theorem ptsTo_app {dig : Int → List UInt8} {ws vs : List Int} : ∀ c, c ≤ ws.length → ptsTo dig (ws ++ vs) c = ptsTo dig ws c
  | 0, _ => rfl
  | c + 1, hc => by
    have e : (ws ++ vs).getD c 0 = ws.getD c 0 := by
      rw [List.getD_eq_getElem?_getD, List.getD_eq_getElem?_getD, List.getElem?_append_left (by omega)]
    have ih := ptsTo_app (dig := dig) (ws := ws) (vs := vs) c (by omega)
    simp only [ptsTo, ih, e]
theorem ring_zero {dig : Int → List UInt8} (ws : List Int) : ring dig (ws ++ [0]) = ring dig ws := by
  unfold ring pts
  rw [List.length_append, List.length_singleton]
  have e : (ws ++ [(0 : Int)]).getD ws.length 0 = 0 := by
    rw [List.getD_eq_getElem?_getD, List.getElem?_append_right (Nat.le_refl _)]; simp
  simp only [ptsTo, e, ptsTo_app ws.length (Nat.le_refl _), ptsOf, Int.toNat_zero, List.range_zero, List.map_nil, List.append_nil]
theorem ringOk_zero {ws : List Int} (h : ringOk ws = true) (h8 : ws.length ≠ 8) : ringOk (ws ++ [0]) = true := by
  obtain ⟨o1, o2, o3, a, o4, o5⟩ := ringOk_out h
  refine ringOk_in (by simp) (by simp; omega) ?_ (a := a) ?_
  · intro w hw
    rcases List.mem_append.mp hw with hw | hw
    · exact o3 w hw
    · simp at hw; omega
  · rw [List.getD_eq_getElem?_getD, List.getElem?_append_left o4, ← List.getD_eq_getElem?_getD]
    exact o5
theorem movedI_same {f g : List UInt8 → Int} {keys : List (List UInt8)} (h : ∀ s, f s = g s) : movedI f g keys = [] := movedTo_none h _
theorem same_tail (G : Nat → Option AV) (hG : GTab G) (a0 a1 : AV) (ws : List Int) (keys : List (List UInt8)) (h0 h : AH) (K : AV → AH → Prop) (ha : ∀ h, Ints h a0 ws) (hb : ∀ h, Sees h 1 a1 (keys.map srow)) (hl : ws.length ≤ 17592186044415) (hl2 : keys.length ≤ 17592186044415) (hkl : ∀ k ∈ keys, k.length ≤ 4611686018427387904) (hok : ringOk ws = true)
    (hk : ∀ h', K (.v (.bool true)) h') : Tryd.r8_j8 K h0 G a0 a1 h := by
  unfold Tryd.r8_j8
  obtain ⟨o1, o2, _, _⟩ := ringOk_out hok
  have la : ∀ h, aLen Tryd.prog h 22 a0 = some (.v (.int .i64 ws.length)) := fun h => by
    have := (ha h).len (P := Tryd.prog) (t := 22) Tryd.und22
    rw [List.length_map] at this
    exact this
  refine ⟨Moved_call G hG a0 a0 a1 ws ws keys h _ (ha _) (ha _) (hb _) (by omega) (by omega) hl2 hkl (fun h => by rw [hok] at h; cases h) fun _ v h' acc => ?_⟩
  rw [movedI_same (fun _ => rfl)] at acc
  have lv : aLen Tryd.prog h' 22 v = some (.v (.int .i64 0)) := acc.len Tryd.und22
  by_cases h8 : ws.length = 8
  · simp (disch := omega) only [go_sem, lv, la, h8]
    exact ret_keep (hk _)
  · simp (disch := omega) only [go_sem, lv, la, h8]
    have s0 : AccR 3 1 h' (.sl h'.length 0 0 0 none) (h' ++ [some (.cells 3 1 [] 0)]) [] := @AccR.obj 3 1 h' [] [] 0 [] (by simp)
    refine s0.append (new := ws.map irow) Tryd.und22 Tryd.azero3 Tryd.byt3 (by exact Tryd.plainSrc22) (ha _).src (by simp) (by
      rintro ⟨s, rfl⟩
      obtain ⟨_, ⟨h1, _⟩ | ⟨_, _, h1⟩ | ⟨_, _, _, _, _, _, h1, _⟩⟩ := ha h <;> cases h1) (by simp; omega) (by simp; omega) ?_
    intro x1 h1 s1 _ _
    simp (disch := omega) only [go_sem]
    rw [List.nil_append] at s1
    refine s1.push rfl Tryd.und22 Tryd.azero3 Tryd.byt3 (by exact Tryd.plainSrc22) rfl (by simp; omega) (by simp; omega) ?_
    intro x2 h2 s2 _ _
    have hs2 : Ints h2 x2 (ws ++ [0]) := by
      have := s2.sees
      rw [show (ws.map irow ++ [[AV.v (.int .i64 0)]]) = (ws ++ [0]).map irow by simp] at this
      exact this
    refine ⟨Moved_call G hG a0 x2 a1 ws (ws ++ [0]) keys h2 _ (ha _) hs2 (hb _) (by omega) (by simp; omega) hl2 hkl (fun h => by rw [hok, ringOk_zero hok h8] at h; cases h) fun _ v3 h3 acc3 => ?_⟩
    rw [movedI_same (fun s => by unfold ofK; rw [ring_zero])] at acc3
    have lv3 : aLen Tryd.prog h3 22 v3 = some (.v (.int .i64 0)) := acc3.len Tryd.und22
    simp (disch := omega) only [go_sem, lv3]
    exact ret_keep (hk _)
/-- Keys, cut off behind. -/
theorem cut_texts (h : AH) (n : Nat) {a1 : AV} {keys : List (List UInt8)} (hb : ∀ h, Sees h 1 a1 (keys.map srow)) (hnn : a1 = .v (.slice none 0 0) ∨ ∃ rows f nn, a1 = .lst rows f nn) (hn : n < keys.length) :
    ∃ a', aSlice Tryd.prog h 23 a1 none (some (some (.v (.int .i64 (n : Int))))) none = some a' ∧ ∀ h, Sees h 1 a' ((keys.take n).map srow) := by
  rcases hnn with rfl | ⟨rows, f, nn, rfl⟩
  · rcases (hb h).2 with ⟨_, h2⟩ | ⟨_, _, h1⟩ | ⟨_, _, _, _, _, _, h1, _⟩
    · have := congrArg List.length h2
      rw [List.length_map, List.length_nil] at this
      omega
    · cases h1
    · cases h1
  · have hrows : rows = keys.map srow := by
      rcases (hb h).2 with ⟨h1, _⟩ | ⟨_, _, h1⟩ | ⟨_, _, _, _, _, _, h1, _⟩
      · cases h1
      · cases h1; rfl
      · cases h1
    subst hrows
    refine ⟨.lst ((keys.map srow).take n) (f && ((n : Int) == ((keys.map srow).length : Int))) nn, ?_, fun h => ?_⟩
    · simp only [aSlice, Tryd.und23, Tryd.siz9, bnd, chk]
      rw [if_pos ⟨by omega, by omega, by simp; omega, by simp⟩]
      simp
    · rw [List.map_take]
      exact Sees.lst fun r hm => by have := List.mem_of_mem_take hm; simp at this; obtain ⟨k, _, rfl⟩ := this; rfl
theorem lawSame (G : Nat → Option AV) (hG : GTab G) (a0 a1 : AV) (ws : List Int) (keys : List (List UInt8)) (h : AH) (K : AV → AH → Prop) (ha : ∀ h, Ints h a0 ws) (hb : ∀ h, Sees h 1 a1 (keys.map srow)) (hl : ws.length ≤ 17592186044415) (hl2 : keys.length ≤ 17592186044415) (hkl : ∀ k ∈ keys, k.length ≤ 4611686018427387904) (hnn : a1 = .v (.slice none 0 0) ∨ ∃ rows f nn, a1 = .lst rows f nn)
    (hk : ∀ h', K (.v (.bool true)) h') : SCall Tryd.prog G 8 [a0, a1] h K := by
  refine Tryd.c8 G _ _ h K fun hlow => ?_
  unfold Tryd.r8
  refine ⟨ringWorks_call G hG h _ ?_⟩
  simp (disch := omega) only [go_sem, Bool.not_true]
  refine ⟨ringCheck_call G a0 ws h _ (ha _) (by omega) ?_⟩
  by_cases hok : ringOk ws = true
  · have lk : aLen Tryd.prog h 23 a1 = some (.v (.int .i64 keys.length)) := by
      have := (hb h).len (P := Tryd.prog) (t := 23) Tryd.und23
      rw [List.length_map] at this
      exact this
    simp (disch := omega) only [go_sem, hok, if_true, lk]
    by_cases h40 : keys.length > 40
    · have hs := cut_texts h 40 hb hnn (by omega)
      obtain ⟨a', e1, e2⟩ := hs
      have e1 : aSlice Tryd.prog h 23 a1 none (some (some (.v (.int .i64 40)))) none = some a' := e1
      simp (disch := omega) only [go_sem, e1]
      exact same_tail G hG a0 a' ws (keys.take 40) h h K ha e2 hl (by simp; omega) (fun k hk => hkl k (List.mem_of_mem_take hk)) hok hk
    · simp (disch := omega) only [go_sem]
      exact same_tail G hG a0 a1 ws keys h h K ha hb hl hl2 hkl hok hk
  · simp only [Bool.not_eq_true] at hok
    simp (disch := omega) only [go_sem, hok, Bool.false_eq_true, if_false]
    exact ret_same (hk _)
end Go.Proofs

/-
  The law RingSame, for whatever weights and keys.
-/
namespace Go.Proofs
open Go Go.Abs
set_option maxRecDepth 100000
theorem Tryd.lawRingSame {G : Nat → Option AV} (hG : GTab G) (xs ys : List AV) (hx : In Tryd.prog 22 xs) (hy : In Tryd.prog 23 ys) : SCall Tryd.prog G 8 [argA Tryd.prog 22 xs, argA Tryd.prog 23 ys] [] fun v _ => v = .v (.bool true) := by
  obtain ⟨a, ws, rfl, _, _, a1, a2, _⟩ := in_weights hx
  obtain ⟨b, keys, rfl, _, _, b1, b2, b3, _⟩ := in_texts hy
  have hs := shape_texts hy
  rw [argInts, argTexts]
  exact lawSame G hG a b ws keys [] _ a1 b1 (by omega) (by omega) (fun k hk => Nat.le_trans (b3 k hk) (by omega)) hs fun _ => rfl
end Go.Proofs
