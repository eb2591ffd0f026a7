/-
  The law MoveKeeps, whole.
-/
import Derived.Test.YtekaeegjohanjaaGreatDoorGAH
set_option linter.all false
namespace Go.Proofs
open Go Go.Abs
set_option maxRecDepth 100000
set_option linter.unusedSimpArgs false
theorem keepLaw (G : Nat → Option AV) (hG : GTab G) (cP : Chg) (W1 W2 R a1 a2 : AV) (rows : List RowA) (steps : List Int) (h : AH) (K : AV → AH → Prop) (k1 : ∀ h, Wt h W1 cP.was.wts) (k2 : ∀ h, Wt h W2 cP.will.wts) (l1 : cP.was.wts.length ≤ 17592186044415) (l2 : cP.will.wts.length ≤ 17592186044415)
    (r1 : R.one = true) (r2 : R.cells = [R]) (ha : ∀ h, Sees h 3 a1 (rows.map RowA.cells)) (hns : ¬ ∃ s, a1 = .v (.string s)) (hrl : rows.length ≤ 8796093022207) (hkl : ∀ r ∈ rows, r.key.length ≤ 140737488351232 ∧ r.val.length ≤ 140737488351232) (hb : ∀ h, Ints h a2 steps) (hsl : steps.length ≤ 17592186044416) (hk : ∀ H, K (.v (.bool true)) H) :
    SCall Tryz.prog G 4 [.agg (planCells cP W1 W2 R), a1, a2] h K := by
  refine Tryz.c4 G _ _ _ h K fun hlow => ?_
  unfold Tryz.r4
  have w11 := (k1 h).one
  have w12 := (k1 h).cells
  have w21 := (k2 h).one
  have w22 := (k2 h).cells
  have e0 : (ByteArray.mk #[]) = bs [] := rfl
  simp (disch := omega) only [go_sem, w11, w12, w21, w22, r1, r2, Nat.reduceAdd]
  refine ⟨mvWorks_call G hG _ _ fun H gW => ?_⟩
  have oP : H[h.length]? = some (some (.cells 46 7 [planCells cP W1 W2 R] 0)) := gW.get (by simp)
  simp (disch := omega) only [go_sem, w11, w12, w21, w22, r1, r2, oP, Nat.reduceAdd]
  refine ⟨plTheirs_call G cP W1 W2 R _ _ w11 w12 w21 w22 r1 r2 fun t => ?_⟩
  generalize hH1 : H ++ t = H1
  have g1 : Grew H H1 := ⟨t, hH1.symm⟩
  have oP1 := g1.get oP
  simp (disch := omega) only [go_sem, w11, w12, w21, w22, r1, r2, e0, Nat.reduceAdd]
  generalize hH2 : H1 ++ [some (AO.cells 49 6 [[AV.v (.int .i64 cP.was.ver), W1, AV.v (.int .i64 cP.will.ver), W2, AV.v (.string (bs [])), AV.v (.bool false)]] 0)] = H2
  have g2 : Grew H1 H2 := by rw [← hH2]; exact Grew.app _
  let c0 : Chg := { cP with cur := [], fin := false }
  have oC2 : H2[H1.length]? = some (some (.cells 49 6 [c0.cells W1 W2] 0)) := by rw [← hH2]; simp [c0]
  refine ⟨mvApart_call G hG c0 W1 W2 a1 rows H2 _ k1 k2 l1 l2 (by simp [c0]) ha hns hrl (fun r hr => by have := hkl r hr; omega) (fun t => ?_) (fun v ps S H3 ok v1 v2 T hnd hpb hS hSm hSl h60 g3 => ?_)⟩
  · simp (disch := omega) only [go_sem]
    exact ret_keep (hk _)
  have rng : ∀ r ∈ S, 0 ≤ c0.owner r.key ∧ c0.owner r.key < c0.will.wts.length := fun r _ => owner_rng ok r.key
  obtain ⟨_, ro2, _, _⟩ := ok_rings ok
  have hl2' := (ringOk_out ro2).2.1
  simp (disch := omega) only [go_sem, v1, v2]
  refine ⟨all_call G v ps _ H3 _ T (by rw [splitK_len]; omega) (by rw [split_flat_len hS rng]; omega) fun SD v36 H4 pS sS mS g4 offS => ?_⟩
  have hSD : fst SD = S := all_split hS rng ⟨SD, pS, sS, rfl⟩
  rw [hSD] at mS
  have g34 := g3.trans g4
  refine keepLoop G c0 cP W1 W2 R a1 a2 v v36 h.length H1.length ps S rows steps h H4 K hG k1 k2 hnd hS hSm (by omega) hSl h60 rfl ha hb hsl c0 ⟨(g2.trans g34).get oP1, g34.get oC2, T.grew g4, mineOwn mS, ok, rfl, rfl⟩ (.inr ⟨rfl, 0, lb_zero _, Nat.le_refl _⟩) hk
theorem Tryz.lawMoveKeeps {G : Nat → Option AV} (hG : GTab G) (xs ys zs : List AV) (hx : In Tryz.prog 46 xs) (hy : In Tryz.prog 47 ys) (hz : In Tryz.prog 31 zs) : SCall Tryz.prog G 4 [argA Tryz.prog 46 xs, argA Tryz.prog 47 ys, argA Tryz.prog 31 zs] [] fun v _ => v = .v (.bool true) := by
  obtain ⟨c, W1, W2, R, rfl, k1, k2, l1, l2, l3, hR⟩ := in_plan hx
  obtain ⟨r, rs, ls, hr0, r1, r2, _⟩ := in_rowss hR
  obtain rfl : R = r := by simpa using hr0
  obtain ⟨a, rows, rfl, _, _, a1, a2, a3, a4, _⟩ := in_rows hy
  obtain ⟨b, ws, rfl, _, _, b1, b2, _⟩ := in_weights hz
  rw [argPlan, argRows, argInts]
  exact keepLaw G hG c W1 W2 R a b rows ws [] _ k1 k2 l1 l2 r1 r2 a1 a4 a2 a3 b1 (by omega) fun _ => rfl
end Go.Proofs
