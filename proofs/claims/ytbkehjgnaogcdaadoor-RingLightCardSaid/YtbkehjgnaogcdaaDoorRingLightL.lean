/-
  The law: a chain without weight has no key.
-/
import Derived.Test.YtbkehjgnaogcdaaDoorRy
set_option linter.all false
namespace Go.Proofs
open Go Go.Abs
set_option maxRecDepth 100000
set_option linter.unusedSimpArgs false
theorem lawLight (G : Nat → Option AV) (hG : GTab G) (a0 a1 : AV) (ws : List Int) (keys : List (List UInt8)) (h : AH) (K : AV → AH → Prop) (ha : ∀ h, Ints h a0 ws) (hb : ∀ h, Sees h 1 a1 (keys.map srow)) (hl : ws.length ≤ 4611686018427387904) (hl2 : keys.length ≤ 4611686018427387904) (hkl : ∀ k ∈ keys, k.length ≤ 4611686018427387904)
    (hk : ∀ h', K (.v (.bool true)) h') : SCall Tryd.prog G 3 [a0, a1] h K := by
  refine Tryd.c3 G _ _ h K fun hlow => ?_
  unfold Tryd.r3
  refine ⟨ringWorks_call G hG h _ ?_⟩
  simp (disch := omega) only [go_sem, Bool.not_true]
  unfold Tryd.r3_l4_3
  refine ⟨fun m vs h' => ∃ k : Nat, k ≤ keys.length ∧ m = keys.length - k ∧ h' = h ∧ vs = [.v (.int .i64 k)], keys.length, ⟨0, by omega, rfl, rfl, rfl⟩, ?_⟩
  rintro m h' hl1 hlow2 n ⟨k, hk1, rfl, rfl, hvs⟩
  simp only [List.cons.injEq, AV.v.injEq, Value.int.injEq, true_and, and_true] at hvs
  obtain rfl := hvs
  have la0 : aLen Tryd.prog h' 22 a0 = some (.v (.int .i64 ws.length)) := by
    have := (ha h').len (P := Tryd.prog) (t := 22) Tryd.und22
    rw [List.length_map] at this
    exact this
  have la1 : aLen Tryd.prog h' 23 a1 = some (.v (.int .i64 keys.length)) := by
    have := (hb h').len (P := Tryd.prog) (t := 23) Tryd.und23
    rw [List.length_map] at this
    exact this
  by_cases hkk : k < keys.length
  · by_cases h40 : k < 40
    · obtain ⟨s, hs⟩ : ∃ s, keys[k]? = some s := ⟨_, List.getElem?_eq_getElem hkk⟩
      obtain ⟨q, q1, q2⟩ := strAt (hb h') hs
      simp (disch := omega) only [go_sem, la1, q1, q2]
      refine ⟨Of_call G hG a0 ws s h' _ (ha _) hl (hkl s (List.mem_of_getElem? hs)) ?_⟩
      by_cases hok : ringOk ws = true
      · obtain ⟨c, hc1, hc2, hc3⟩ := ofK_at (dig := Lib.itoa) (key := s) hok
        have hg : ws.getD c 0 = ws[c] := by simp [List.getD_eq_getElem?_getD, List.getElem?_eq_getElem hc1]
        obtain ⟨r, r1, r2, _⟩ := (ha h').iaAll (P := Tryd.prog) (ty := 22) (k := .i64) (i := c) (r := irow ws[c]) Tryd.und22 Tryd.siz3 (by omega) (by simp [hc1])
        have r1 := r1 []
        have r2 := r2 []
        rw [List.append_nil] at r1 r2
        rw [hg] at hc2
        simp (disch := omega) only [go_sem, hok, if_true, hc3, la0, r1, r2]
        exact next_keep (keys.length - (k + 1)) (by omega) (Nat.le_refl _) ⟨k + 1, by omega, rfl, rfl, by simp⟩
      · simp only [Bool.not_eq_true] at hok
        simp (disch := omega) only [go_sem, hok, Bool.false_eq_true, if_false]
        refine ⟨ringCheck_call G a0 ws h' _ (ha _) hl ?_⟩
        simp (disch := omega) only [go_sem, hok, Bool.false_eq_true, if_false]
        exact ret_same (hk _)
    · simp (disch := omega) only [go_sem, la1]
      exact ret_same (hk _)
  · simp (disch := omega) only [go_sem, la1]
    exact ret_same (hk _)
end Go.Proofs

/-
  The law RingLight, for whatever weights and keys.
-/
namespace Go.Proofs
open Go Go.Abs
set_option maxRecDepth 100000
theorem Tryd.lawRingLight {G : Nat → Option AV} (hG : GTab G) (xs ys : List AV) (hx : In Tryd.prog 22 xs) (hy : In Tryd.prog 23 ys) : SCall Tryd.prog G 3 [argA Tryd.prog 22 xs, argA Tryd.prog 23 ys] [] fun v _ => v = .v (.bool true) := by
  obtain ⟨a, ws, rfl, _, _, a1, a2, _⟩ := in_weights hx
  obtain ⟨b, keys, rfl, _, _, b1, b2, b3, _⟩ := in_texts hy
  rw [argInts, argTexts]
  exact lawLight G hG a b ws keys [] _ a1 b1 (by omega) (by omega) (fun k hk => Nat.le_trans (b3 k hk) (by omega)) fun _ => rfl
end Go.Proofs
