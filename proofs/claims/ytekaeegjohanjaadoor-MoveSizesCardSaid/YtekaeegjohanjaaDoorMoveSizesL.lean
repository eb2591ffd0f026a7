/-
  The law MoveSizes.
-/
import Derived.Test.YtekaeegjohanjaaDoorGAG
set_option linter.all false
namespace Go.Proofs
open Go Go.Abs
set_option maxRecDepth 100000
set_option linter.unusedSimpArgs false
/-- Tables stay where others are changed. -/
theorem TabsAt.buts {h h' : AH} {a b : AV} {ps qs : List Nat} {ls ms : List (List RowA)} (T : TabsAt h a ps ls) (U : TabsAt h b qs ms) (bq : Buts qs h h') (hd : ∀ p ∈ ps, p ∉ qs) : TabsAt h' a ps ls := by
  refine ⟨T.own.keep fun id r g hi => U.keepO bq (by decide) hi, T.len, fun i p l hp hl => ?_⟩
  have Tp := T.tab i p l hp hl
  exact Tp.keep (bq.2 p Tp.lt (hd p (List.mem_of_getElem? hp))) ⟨bq.1, fun j r g hj => U.keepO bq (by decide) hj⟩
/-- What the law holds between steps. -/
structure SizeSt (H : AH) (c0 : Chg) (W1 W2 v19 v24 : AV) (i8 : Nat) (ps qs : List Nat) (S : List RowA) (d c : Chg) : Prop where
  oC : H[i8]? = some (some (.cells 31 6 [c.cells W1 W2] 0))
  T : TabsAt H v19 ps (splitK c.owner c0.will.wts.length S)
  U : TabsAt H v24 qs (splitK d.owner c0.will.wts.length S)
  ok : c.ok = true
  w1 : c.was = c0.was
  w2 : c.will = c0.will
section
variable (G : Nat → Option AV) (c0 d : Chg) (W1 W2 a1 a2 v19 v24 : AV) (i8 : Nat) (ps qs : List Nat) (S rows : List RowA) (steps : List Int) (h h40 : AH) (K : AV → AH → Prop)
theorem sizeJoin (hG : GTab G) (k1 : ∀ h, Wt h W1 c0.was.wts) (k2 : ∀ h, Wt h W2 c0.will.wts) (hnd : ps.Nodup) (hd : ∀ p ∈ qs, p ∉ ps) (hS : Rise S) (hSm : ∀ r ∈ S, r.may = true) (hS60 : S.length ≤ 60) (hr60 : rows.length ≤ 60) (ha : ∀ h, Sees h 3 a1 (rows.map RowA.cells)) (I48 : Nat → List AV → AH → Prop) (m50 n : Nat) (most : Nat) (hm : 1 ≤ most ∧ most ≤ 9) (hn : n ≤ rows.length) (H : AH) (c : Chg) (st : SizeSt H c0 W1 W2 v19 v24 i8 ps qs S d c) (hc : Came S c n) (hnf : c.fin = false) (hle : h40.length ≤ H.length)
    (hnext : ∀ H' c' ks, SizeSt H' c0 W1 W2 v19 v24 i8 ps qs S d c' → Came S c' (n + 1) → H.length ≤ H'.length → nextR h40 I48 m50 ks ks [.v (.int .i64 ((n + 1 : Nat) : Int))] H') :
    Tryd.r3_j56 K h G a1 a2 i8 v19 v24 h40 I48 m50 (n : Int) (most : Int) H := by
  unfold Tryd.r3_j56
  have w11 := (k1 H).one
  have w12 := (k1 H).cells
  have w21 := (k2 H).one
  have w22 := (k2 H).cells
  have e0 : (ByteArray.mk #[]) = bs [] := rfl
  have oC := st.oC
  have la : ∀ H, aLen Tryd.prog H 28 a1 = some (.v (.int .i64 rows.length)) := fun H => by
    have := (ha H).len (P := Tryd.prog) (t := 28) Tryd.und28
    rw [List.length_map] at this
    exact this
  have k1' : ∀ H, Wt H W1 c.was.wts := fun H => by rw [st.w1]; exact k1 H
  have k2' : ∀ H, Wt H W2 c.will.wts := fun H => by rw [st.w2]; exact k2 H
  obtain ⟨ro1, ro2, _, hcur⟩ := ok_rings st.ok
  have hl1 := (ringOk_out ro1).2.1
  have hl2 := (ringOk_out ro2).2.1
  have hn2 : c0.will.wts.length = c.will.wts.length := by rw [st.w2]
  have rng : ∀ r ∈ S, 0 ≤ c.owner r.key ∧ c.owner r.key < c0.will.wts.length := fun r _ => by
    have := owner_rng st.ok r.key
    rw [hn2]; exact this
  have ew : IntKind.i64.wrap ((n : Int) + 1) = ((n + 1 : Nat) : Int) := by rw [wrap64_of (by omega) (by omega)]; omega
  have ewr : IntKind.i64.wrap ((rows.length : Int) + 2) = ((rows.length + 2 : Nat) : Int) := by rw [wrap64_of (by omega) (by omega)]; omega
  simp (disch := omega) only [go_sem, oC, w11, w12, w21, w22]
  refine ⟨mvStep_call G hG c W1 W2 v19 ps _ most H _ (fun H _ => k1' H) (fun H _ => k2' H) (by omega) (by omega) (by omega) (by omega) (by omega) st.T hnd (by rw [splitK_len]; omega) (split_may hSm) (by rw [split_flat_len hS rng]; omega) (fun e t hbad => ?_) (fun _ _ _ _ _ S' aS f lb H1 T1 b1 => ?_)⟩
  · exfalso
    unfold StepErr at hbad
    rcases hbad with ⟨hx, _⟩ | ⟨_, hx, _⟩ | ⟨_, _, hx, _⟩ | ⟨_, _, _, hx, _⟩
    · rw [st.ok] at hx; cases hx
    · exact hx (by rw [splitK_len]; exact hn2)
    · exact hx (splitK_apart _ _ _)
    · rcases hx with hx | hx
      · rw [hnf] at hx; cases hx
      · omega
  have hS' : S' = S := all_split hS rng aS
  subst hS'
  rw [splitK_len] at T1
  have ok1 := step_ok (c := c) (f := f) (most := (most : Int)) hSm st.ok
  have came1 : Came S' (c.step S' f most) (n + 1) := by
    rcases hc with hc | ⟨_, f', lb', hk⟩
    · rw [hnf] at hc; cases hc
    · obtain rfl := lb.uniq lb'
      exact step_came hS lb hk (by omega)
  have was1 : (c.step S' f most).was = c.was := rfl
  have will1 : (c.step S' f most).will = c.will := rfl
  have hcnt : (mvN (ofK Lib.itoa c.was.wts) (ofK Lib.itoa c.will.wts) S' f (nextM (S'.map RowA.key) most f)).length ≤ most := by
    have := mvN_len (f := ofK Lib.itoa c.was.wts) (g := ofK Lib.itoa c.will.wts) (S := S') (lo := f) (nextM (S'.map RowA.key) most f)
    have h2 : nextM (S'.map RowA.key) most f ≤ most := by unfold nextM; omega
    omega
  generalize c.step S' f most = c1 at T1 ok1 came1 was1 will1
  generalize (mvN (ofK Lib.itoa c.was.wts) (ofK Lib.itoa c.will.wts) S' f (nextM (S'.map RowA.key) most f)).length = cnt at hcnt
  have oC1 := st.T.keepO b1 (by decide) st.oC
  have U1 := st.U.buts st.T b1 hd
  have oC1' : ∀ t, (H1 ++ t)[i8]? = some (some (.cells 31 6 [c.cells W1 W2] 0)) := fun t => by
    rw [List.getElem?_append_left (List.getElem?_eq_some_iff.mp oC1).1]; exact oC1
  have last : ∀ ks, nextR h40 I48 m50 ks ks [.v (.int .i64 ((n + 1 : Nat) : Int))] ((H1 ++ [some (AO.cells 31 6 [c1.cells W1 W2] 0)]).set i8 (some (AO.cells 31 6 [c1.cells W1 W2] 0))) := fun ks => by
    have g1 : Grew H1 (H1 ++ [some (AO.cells 31 6 [c1.cells W1 W2] 0)]) := Grew.app _
    have oCb := oC1' [some (AO.cells 31 6 [c1.cells W1 W2] 0)]
    exact hnext _ c1 ks ⟨List.getElem?_set_self (List.getElem?_eq_some_iff.mp oCb).1, (T1.grew g1).put oCb (by decide) (by decide) (by decide), (U1.grew g1).put oCb (by decide) (by decide) (by decide), ok1, was1.trans st.w1, will1.trans st.w2⟩ came1 (by rw [List.length_set]; have := b1.1; have := g1.len; omega)
  simp (disch := omega) only [go_sem, extV, w11, w12, w21, w22, Nat.reduceAdd, oC1', la, ewr, ew]
  exact last _
theorem sizeLoop (hG : GTab G) (k1 : ∀ h, Wt h W1 c0.was.wts) (k2 : ∀ h, Wt h W2 c0.will.wts) (hnd : ps.Nodup) (hd : ∀ p ∈ qs, p ∉ ps) (hS : Rise S) (hSm : ∀ r ∈ S, r.may = true) (hS60 : S.length ≤ 60) (hSr : S.length ≤ rows.length) (hr60 : rows.length ≤ 60) (ha : ∀ h, Sees h 3 a1 (rows.map RowA.cells)) (hb : ∀ h, Ints h a2 steps) (hsl : steps.length ≤ 17592186044416) (hdf : d.fin = true) (hdw : d.will = c0.will) (hn8 : c0.will.wts.length ≤ 8)
    (c : Chg) (st : SizeSt h40 c0 W1 W2 v19 v24 i8 ps qs S d c) (hc : Came S c 0) (hk : ∀ H, K (.v (.bool true)) H) :
    Tryd.r3_l13_48 G h K a1 a2 i8 v19 v24 h40 0 := by
  unfold Tryd.r3_l13_48
  have e0 : (ByteArray.mk #[]) = bs [] := rfl
  have lb : ∀ H, aLen Tryd.prog H 22 a2 = some (.v (.int .i64 steps.length)) := fun H => by
    have := (hb H).len (P := Tryd.prog) (t := 22) Tryd.und22
    rw [List.length_map] at this
    exact this
  refine ⟨fun m vs H => ∃ (n : Nat) (c : Chg), n ≤ rows.length + 1 ∧ m = rows.length + 2 - n ∧ SizeSt H c0 W1 W2 v19 v24 i8 ps qs S d c ∧ Came S c n ∧ vs = [.v (.int .i64 n)], rows.length + 2, ⟨0, c, by omega, rfl, st, hc, rfl⟩, ?_⟩
  rintro m H hl1 hlow2 x ⟨n, c, hn, rfl, st, hc, hvs⟩
  simp only [List.cons.injEq, AV.v.injEq, Value.int.injEq, true_and, and_true] at hvs
  subst hvs
  have oC := st.oC
  cases hf : c.fin with
  | false =>
    have hnr : n ≤ rows.length := by
      rcases hc with hx | ⟨_, f, lbf, hx⟩
      · rw [hf] at hx; cases hx
      · have := lbf.le
        rw [List.length_map] at this
        omega
    by_cases hs : n < steps.length
    · obtain ⟨x, hx⟩ : ∃ x, steps[n]? = some x := ⟨_, List.getElem?_eq_getElem hs⟩
      obtain ⟨q, q1, q2⟩ := (hb H).ia (P := Tryd.prog) (t := 22) (k := .i64) (i := (n : Int)) (r := irow x) Tryd.und22 Tryd.siz3 (by omega) (by simp [hx])
      obtain ⟨N, hN, eN⟩ := nineN x
      simp (disch := omega) only [go_sem, oC, hf, lb, q1, q2, eN, Bool.not_false]
      exact sizeJoin G c0 d W1 W2 a1 a2 v19 v24 i8 ps qs S rows h h40 K hG k1 k2 hnd hd hS hSm hS60 hr60 ha _ _ n N hN hnr H c st hc hf hl1 fun H' c' ks st' hc' hle => next_keep (rows.length + 2 - (n + 1)) (by omega) (by omega) ⟨n + 1, c', by omega, rfl, st', hc', rfl⟩
    · simp (disch := omega) only [go_sem, oC, hf, lb, Bool.not_false]
      exact sizeJoin G c0 d W1 W2 a1 a2 v19 v24 i8 ps qs S rows h h40 K hG k1 k2 hnd hd hS hSm hS60 hr60 ha _ _ n 1 (by omega) hnr H c st hc hf hl1 fun H' c' ks st' hc' hle => next_keep (rows.length + 2 - (n + 1)) (by omega) (by omega) ⟨n + 1, c', by omega, rfl, st', hc', rfl⟩
  | true =>
    have hown : ∀ k, c.owner k = d.owner k := fun k => by
      unfold Chg.owner
      rw [if_pos (.inl hf), if_pos (.inl hdf), st.w2, hdw]
    have hsp : splitK c.owner c0.will.wts.length S = splitK d.owner c0.will.wts.length S := by
      unfold splitK
      simp only [hown]
    have T := st.T
    have U := st.U
    rw [hsp] at T
    generalize hls : splitK d.owner c0.will.wts.length S = ls at T U
    have hlsl : ls.length = c0.will.wts.length := by rw [← hls, splitK_len]
    have hpl := T.len
    have hql := U.len
    have lp := T.own.sees.len (P := Tryd.prog) (t := 33) Tryd.und33
    rw [List.length_map] at lp
    simp (disch := omega) only [go_sem, oC, hf, lp, Bool.not_true]
    unfold Tryd.r3_l23_91
    refine ⟨fun m vs H' => ∃ k : Nat, k ≤ ps.length ∧ m = ps.length - k ∧ Grew H H' ∧ vs = [.v (.int .i64 k)], ps.length, ⟨0, by omega, rfl, ⟨[], by simp⟩, rfl⟩, ?_⟩
    rintro m H1 hl3 hlow3 x ⟨k, hkk, rfl, g, hvs⟩
    simp only [List.cons.injEq, AV.v.injEq, Value.int.injEq, true_and, and_true] at hvs
    subst hvs
    by_cases hkl : k < ps.length
    rotate_left
    · simp (disch := omega) only [go_sem]
      exact ret_keep (hk _)
    obtain ⟨l, hl⟩ : ∃ l, ls[k]? = some l := ⟨_, List.getElem?_eq_getElem (by omega)⟩
    obtain ⟨p, hp⟩ : ∃ p, ps[k]? = some p := ⟨_, List.getElem?_eq_getElem hkl⟩
    obtain ⟨q, hq⟩ : ∃ q, qs[k]? = some q := ⟨_, List.getElem?_eq_getElem (by omega)⟩
    have T1 := T.grew g
    have U1 := U.grew g
    have ewk : IntKind.i64.wrap ((k : Int) + 1) = ((k + 1 : Nat) : Int) := by rw [wrap64_of (by omega) (by omega)]; omega
    obtain ⟨x, x1, x2, _⟩ := T1.own.sees.iaAll (P := Tryd.prog) (ty := 33) (k := .i64) (i := (k : Int)) (r := prow p) Tryd.und33 Tryd.siz41 (by omega) (by simp [hp])
    obtain ⟨y, y1, y2, _⟩ := U1.own.sees.iaAll (P := Tryd.prog) (ty := 33) (k := .i64) (i := (k : Int)) (r := prow q) Tryd.und33 Tryd.siz41 (by omega) (by simp [hq])
    have x1' := x1 []
    have x2' := x2 []
    have y1' := y1 []
    have y2' := y2 []
    rw [List.append_nil] at x1' x2' y1' y2'
    simp (disch := omega) only [go_sem, x1', x2', y1', y2', e0]
    refine ⟨tbRows_call G p l [] [] H1 _ (T1.tab k p l hp hl) fun v H2 acc => ?_⟩
    rw [endsK_nil] at acc
    simp only [List.drop_zero, Nat.sub_zero, List.take_length] at acc
    obtain ⟨t2, rfl⟩ := acc.tail
    simp (disch := omega) only [go_sem, y1, y2, e0]
    refine ⟨tbRows_call G q l [] [] _ _ ((U1.tab k q l hq hl).grew (Grew.app _)) fun w H3 acc2 => ?_⟩
    rw [endsK_nil] at acc2
    simp only [List.drop_zero, Nat.sub_zero, List.take_length] at acc2
    obtain ⟨t3, rfl⟩ := acc2.tail
    have hll : l.length ≤ 60 := by
      have := filter_le (own := d.owner) (n := c0.will.wts.length) (S := S) (l := l) (by rw [hls]; exact List.mem_of_getElem? hl)
      omega
    simp (disch := omega) only [go_sem]
    refine ⟨sameRows_call G v w l _ _ (by have := acc.sees.app t3; rwa [List.append_assoc] at this) (by have := acc2.sees; rwa [List.append_assoc] at this) (by omega) ?_⟩
    simp (disch := omega) only [go_sem, Bool.not_true, ewk]
    exact next_keep (ps.length - (k + 1)) (by omega) (by have := g.len; simp; omega) ⟨k + 1, by omega, rfl, g.trans (Grew.app _), rfl⟩
end
theorem TabsAt.lt {h : AH} {a : AV} {ps : List Nat} {ls : List (List RowA)} (T : TabsAt h a ps ls) : ∀ p ∈ ps, p < h.length := fun p hp => by
  obtain ⟨i, hi⟩ := List.mem_iff_getElem?.mp hp
  have hil := (List.getElem?_eq_some_iff.mp hi).1
  have hlen := T.len
  obtain ⟨l, hl⟩ : ∃ l, ls[i]? = some l := ⟨_, List.getElem?_eq_getElem (by omega)⟩
  exact (T.tab i p l hi hl).lt
theorem sizeLaw (G : Nat → Option AV) (hG : GTab G) (cP : Chg) (W1 W2 R a1 a2 : AV) (rows : List RowA) (steps : List Int) (h : AH) (K : AV → AH → Prop) (k1 : ∀ h, Wt h W1 cP.was.wts) (k2 : ∀ h, Wt h W2 cP.will.wts) (l1 : cP.was.wts.length ≤ 17592186044415) (l2 : cP.will.wts.length ≤ 17592186044415)
    (r1 : R.one = true) (r2 : R.cells = [R]) (ha : ∀ h, Sees h 3 a1 (rows.map RowA.cells)) (hns : ¬ ∃ s, a1 = .v (.string s)) (hrl : rows.length ≤ 8796093022207) (hkl : ∀ r ∈ rows, r.key.length ≤ 140737488351232 ∧ r.val.length ≤ 140737488351232) (hb : ∀ h, Ints h a2 steps) (hsl : steps.length ≤ 17592186044416) (hk : ∀ H, K (.v (.bool true)) H) :
    SCall Tryd.prog G 3 [.agg (planCells cP W1 W2 R), a1, a2] h K := by
  refine Tryd.c3 G _ _ _ h K fun hlow => ?_
  unfold Tryd.r3
  have w11 := (k1 h).one
  have w12 := (k1 h).cells
  have w21 := (k2 h).one
  have w22 := (k2 h).cells
  have e0 : (ByteArray.mk #[]) = bs [] := rfl
  simp (disch := omega) only [go_sem, w11, w12, w21, w22, r1, r2, Nat.reduceAdd]
  refine ⟨mvWorks_call G hG _ _ fun H gW => ?_⟩
  have oP : H[h.length]? = some (some (.cells 27 7 [planCells cP W1 W2 R] 0)) := gW.get (by simp)
  simp (disch := omega) only [go_sem, w11, w12, w21, w22, r1, r2, oP, Nat.reduceAdd]
  refine ⟨plTheirs_call G cP W1 W2 R _ _ w11 w12 w21 w22 r1 r2 fun t => ?_⟩
  generalize hH1 : H ++ t = H1
  simp (disch := omega) only [go_sem, w11, w12, w21, w22, r1, r2, e0, Nat.reduceAdd]
  generalize hH2 : H1 ++ [some (AO.cells 31 6 [[AV.v (.int .i64 cP.was.ver), W1, AV.v (.int .i64 cP.will.ver), W2, AV.v (.string (bs [])), AV.v (.bool false)]] 0)] = H2
  let c0 : Chg := { cP with cur := [], fin := false }
  have oC2 : H2[H1.length]? = some (some (.cells 31 6 [c0.cells W1 W2] 0)) := by rw [← hH2]; simp [c0]
  have hkl' : ∀ r ∈ rows, r.key.length ≤ 4611686018427387904 ∧ r.val.length ≤ 4611686018427387904 := fun r hr => by have := hkl r hr; omega
  refine ⟨mvApart_call G hG c0 W1 W2 a1 rows H2 _ k1 k2 l1 l2 (by simp [c0]) ha hns hrl hkl' (fun t => ?_) (fun v ps S H3 ok v1 v2 T hnd hpb hS hSm hSl h60 hSe g3 => ?_)⟩
  · have oCt : (H2 ++ t)[H1.length]? = some (some (.cells 31 6 [c0.cells W1 W2] 0)) := (Grew.app t).get oC2
    simp (disch := omega) only [go_sem, extV, oCt, w11, w12, w21, w22]
    refine ⟨mvApart_call G hG c0 W1 W2 a1 rows _ _ k1 k2 l1 l2 (by simp [c0]) ha hns hrl hkl' (fun t => ?_) (fun v ps S H3 ok v1 v2 T hnd hpb hS hSm hSl h60 hSe g3 => ?_)⟩
    · simp (disch := omega) only [go_sem, extV, Bool.not_false]
      exact ret_keep (hk _)
    · simp (disch := omega) only [go_sem, extV, Bool.not_false, v1, v2]
      exact ret_keep (hk _)
  have oC3 := g3.get oC2
  simp (disch := omega) only [go_sem, extV, oC3, w11, w12, w21, w22, v1, v2]
  refine ⟨mvApart_call G hG c0 W1 W2 a1 rows H3 _ k1 k2 l1 l2 (by simp [c0]) ha hns hrl hkl' (fun t => ?_) (fun u qs S2 H4 _ u1 u2 U hnd2 hqb _ _ _ _ hSe2 g4 => ?_)⟩
  · simp (disch := omega) only [go_sem, extV, Bool.not_true, Bool.not_false]
    exact ret_keep (hk _)
  have hSS : S2 = S := by rw [hSe2, hSe]
  subst hSS
  have oC4 := g4.get oC3
  have rng : ∀ r ∈ S2, 0 ≤ c0.owner r.key ∧ c0.owner r.key < c0.will.wts.length := fun r _ => owner_rng ok r.key
  obtain ⟨_, ro2, _, _⟩ := ok_rings ok
  have hl2' := (ringOk_out ro2).2.1
  have hl1' := (ringOk_out (ok_rings ok).1).2.1
  have hdis : ∀ p ∈ ps, p ∉ qs := fun p hp hq => by
    have h1 := T.lt p hp
    have h2 := hqb p hq
    omega
  simp (disch := omega) only [go_sem, extV, Bool.not_true, oC4, w11, w12, w21, w22, u1, u2]
  refine ⟨mvStep_call G hG c0 W1 W2 u qs _ 4096 H4 _ (fun H _ => k1 H) (fun H _ => k2 H) (by omega) (by omega) (by simp [c0]) (by omega) (by omega) U hnd2 (by rw [splitK_len]; omega) (split_may hSm) (by rw [split_flat_len hS rng]; omega) (fun e t hbad => ?_) (fun _ _ _ _ _ S' aS f lb H5 U5 b5 => ?_)⟩
  · exfalso
    unfold StepErr at hbad
    rcases hbad with ⟨hx, _⟩ | ⟨_, hx, _⟩ | ⟨_, _, hx, _⟩ | ⟨_, _, _, hx, _⟩
    · rw [ok] at hx; cases hx
    · exact hx (by rw [splitK_len])
    · exact hx (splitK_apart _ _ _)
    · rcases hx with hx | hx
      · cases hx
      · omega
  have hS' : S' = S2 := all_split hS rng aS
  subst hS'
  rw [splitK_len] at U5
  have hfin : (c0.step S' f 4096).fin = true := by
    unfold Chg.step nextM
    simp only [List.length_map]
    have : ¬ (f + min (4096 : Int).toNat (S'.length - f) < S'.length) := by omega
    rw [decide_eq_false this]
    rfl
  have hdw : (c0.step S' f 4096).will = c0.will := rfl
  generalize c0.step S' f 4096 = d at U5 hfin hdw
  generalize (mvN (ofK Lib.itoa c0.was.wts) (ofK Lib.itoa c0.will.wts) S' f (nextM (S'.map RowA.key) 4096 f)).length = cnt
  have T5 := (T.grew g4).buts U b5 hdis
  have oC5 := U.keepO b5 (by decide) oC4
  simp (disch := omega) only [go_sem, extV, w11, w12, w21, w22, hfin, Bool.not_true, Nat.reduceAdd]
  have g6 : Grew H5 (H5 ++ [some (AO.cells 31 6 [[.v (.int .i64 d.was.ver), W1, .v (.int .i64 d.will.ver), W2, .v (.string (bs d.cur)), .v (.bool true)]] 0)]) := Grew.app _
  refine sizeLoop G c0 d W1 W2 a1 a2 v u H1.length ps qs S' rows steps h _ K hG k1 k2 hnd (fun q hq hp => hdis q hp hq) hS hSm (by omega) hSl h60 ha hb hsl hfin hdw (by omega) c0 ⟨g6.get oC5, T5.grew g6, U5.grew g6, ok, rfl, rfl⟩ (.inr ⟨rfl, 0, lb_zero _, Nat.le_refl _⟩) hk
theorem Tryd.lawMoveSizes {G : Nat → Option AV} (hG : GTab G) (xs ys zs : List AV) (hx : In Tryd.prog 27 xs) (hy : In Tryd.prog 28 ys) (hz : In Tryd.prog 22 zs) : SCall Tryd.prog G 3 [argA Tryd.prog 27 xs, argA Tryd.prog 28 ys, argA Tryd.prog 22 zs] [] fun v _ => v = .v (.bool true) := by
  obtain ⟨c, W1, W2, R, rfl, k1, k2, l1, l2, l3, hR⟩ := in_plan hx
  obtain ⟨r, rs, ls, hr0, r1, r2, _⟩ := in_rowss hR
  obtain rfl : R = r := by simpa using hr0
  obtain ⟨a, rows, rfl, _, _, a1, a2, a3, a4, _⟩ := in_rows hy
  obtain ⟨b, ws, rfl, _, _, b1, b2, _⟩ := in_weights hz
  rw [argPlan, argRows, argInts]
  exact sizeLaw G hG c W1 W2 R a b rows ws [] _ k1 k2 l1 l2 r1 r2 a1 a4 a2 a3 b1 (by omega) fun _ => rfl
end Go.Proofs
