/-
  The law MoveAnswers: its loop.
-/
import Derived.Test.YtekaeegjohanjaaGreatDoorGAH
set_option linter.all false
namespace Go.Proofs
open Go Go.Abs
set_option maxRecDepth 100000
set_option linter.unusedSimpArgs false
theorem TabsAt.butT {h h' : AH} {a : AV} {ps : List Nat} {ls : List (List RowA)} {q : Nat} {m : List RowA} (T : TabsAt h a ps ls) (U : TabAt h q m) (b : But q h h') (hq : q ∉ ps) : TabsAt h' a ps ls := by
  obtain ⟨y, hy, _⟩ := U.ex
  refine ⟨T.own.keep fun id r g hi => ?_, T.len, fun i p l hp hl => (T.tab i p l hp hl).but U b fun e => hq (e ▸ List.mem_of_getElem? hp)⟩
  rw [b.2 id (List.getElem?_eq_some_iff.mp hi).1 ?_]
  · exact hi
  · rintro rfl
    rw [hy] at hi
    cases hi
theorem TabAt.butsT {h h' : AH} {a : AV} {ps : List Nat} {ls : List (List RowA)} {q : Nat} {m : List RowA} (U : TabAt h q m) (T : TabsAt h a ps ls) (b : Buts ps h h') (hq : q ∉ ps) : TabAt h' q m :=
  U.keep (b.2 q U.lt hq) ⟨b.1, fun _ _ _ hj => T.keepO b (by decide) hj⟩
theorem neqFault (a b a' b' : Int) : aBin Tryz.prog .neq 80 (.agg [.v (.int .i64 a), .v (.int .i64 b)]) (.agg [.v (.int .i64 a'), .v (.int .i64 b')]) = some (.v (.bool (!(a == a' && (b == b' && true))))) := by kernel_rfl
/-- What the law holds between acts. -/
structure AnsSt (H : AH) (c0 : Chg) (W1 W2 v19 : AV) (u i8 : Nat) (ps : List Nat) (S : List RowA) (c : Chg) : Prop where
  oC : H[i8]? = some (some (.cells 49 6 [c.cells W1 W2] 0))
  T : TabsAt H v19 ps (splitK c.owner c0.will.wts.length S)
  U : TabAt H u S
  ok : c.ok = true
  w1 : c.was = c0.was
  w2 : c.will = c0.will
  may : ∀ r ∈ S, r.may = true
theorem AnsSt.grew {H H' : AH} {c0 c : Chg} {W1 W2 v19 : AV} {u i8 : Nat} {ps : List Nat} {S : List RowA} (k : AnsSt H c0 W1 W2 v19 u i8 ps S c) (g : Grew H H') : AnsSt H' c0 W1 W2 v19 u i8 ps S c :=
  ⟨g.get k.oC, k.T.grew g, k.U.grew g, k.ok, k.w1, k.w2, k.may⟩
section
variable (G : Nat → Option AV) (c0 : Chg) (W1 W2 a2 v19 : AV) (u i8 : Nat) (ps : List Nat) (acts : List ActA) (h h32 : AH) (K : AV → AH → Prop)
theorem ansJoin (hG : GTab G) (k1 : ∀ h, Wt h W1 c0.was.wts) (k2 : ∀ h, Wt h W2 c0.will.wts) (hnd : ps.Nodup) (hu : u ∉ ps) (ha : ∀ h, Sees h 2 a2 (acts.map ActA.cells)) (haok : ∀ x ∈ acts, x.Ok) (I34 : Nat → List AV → AH → Prop) (m36 n : Nat) (x : ActA) (hx : acts[n]? = some x) (hn : n ≤ 40) (H : AH) (S : List RowA) (c : Chg) (st : AnsSt H c0 W1 W2 v19 u i8 ps S c) (hS : S.length ≤ 1900)
    (hnext : ∀ H' S' ks, AnsSt H' c0 W1 W2 v19 u i8 ps S' c → S'.length ≤ S.length + 32 → H.length ≤ H'.length → nextR h32 I34 m36 ks ks [.v (.int .i64 ((n + 1 : Nat) : Int))] H') :
    Tryz.r7_j46 K h G a2 i8 v19 (.ptr u 0 0 0) h32 I34 m36 (n : Int) H := by
  unfold Tryz.r7_j46
  have w11 := (k1 H).one
  have w12 := (k1 H).cells
  have w21 := (k2 H).one
  have w22 := (k2 H).cells
  have e0 : (ByteArray.mk #[]) = bs [] := rfl
  have xok := haok x (List.mem_of_getElem? hx)
  have x1 := xok.one
  have x2 := xok.cel
  have hrise := st.U.rise
  have k1' : ∀ H, Wt H W1 c.was.wts := fun H => by rw [st.w1]; exact k1 H
  have k2' : ∀ H, Wt H W2 c.will.wts := fun H => by rw [st.w2]; exact k2 H
  obtain ⟨ro1, ro2, _, hcur⟩ := ok_rings st.ok
  have hl1 := (ringOk_out ro1).2.1
  have hl2 := (ringOk_out ro2).2.1
  have hn2 : c0.will.wts.length = c.will.wts.length := by rw [st.w2]
  have rng : ∀ S' : List RowA, ∀ r ∈ S', 0 ≤ c.owner r.key ∧ c.owner r.key < c0.will.wts.length := fun S' r _ => by
    have := owner_rng st.ok r.key
    rw [hn2]; exact this
  have ew : IntKind.i64.wrap ((n : Int) + 1) = ((n + 1 : Nat) : Int) := by rw [wrap64_of (by omega) (by omega)]; omega
  obtain ⟨q, q1, q2, q3⟩ := (ha []).iaAll (P := Tryz.prog) (ty := 64) (k := .i64) (i := (n : Int)) (r := x.cells) Tryz.und64 Tryz.siz74 (by omega) (by simp [hx])
  obtain ⟨v, v1, v2⟩ := q3 74 1 1 1 false Tryz.fld74_1 (by decide)
  have q1 : ∀ H, aIA Tryz.prog H 64 a2 (.v (.int .i64 (n : Int))) = some q := fun H => q1 H
  have v2 : ∀ H, aLoad Tryz.prog H 72 v = some x.av := fun H => by
    have := v2 H
    rw [List.nil_append] at this
    simp (disch := omega) only [go_sem, this]
  have oC := st.oC
  have oC' : ∀ t, (H ++ t)[i8]? = some (some (.cells 49 6 [c.cells W1 W2] 0)) := fun t => by
    rw [List.getElem?_append_left (List.getElem?_eq_some_iff.mp oC).1]; exact oC
  simp (disch := omega) only [go_sem, oC, w11, w12, w21, w22, q1, v1, v2]
  refine ⟨mvDoK_call G hG c W1 W2 v19 x.av ps _ x.ops H _ (fun H _ => k1' H) (fun H _ => k2' H) (by omega) (by omega) (by omega) st.T hnd (by rw [splitK_len]; omega) (fun l hl r hr => by have := (may_len (split_may st.may l hl r hr)).2.1; omega) (fun l hl => by have := filter_le hl; omega) st.ok (by rw [splitK_len]; exact hn2) xok.sees xok.len (fun o ho => by have := xok.kl o ho; omega)
    (fun _ t => ?_) (fun _ _ i y _ _ _ t => ?_) (fun _ i y z _ _ _ _ t => ?_) (fun oo o l hlo how v50 H1 T1 b1 mv1 => ?_)⟩
  · simp (disch := omega) only [go_sem, extV, oC', w11, w12, w21, w22, q1, v1, v2, ew, Nat.reduceAdd]
    exact hnext _ S _ (st.grew (Grew.app _)) (by omega) (by simp)
  · simp (disch := omega) only [go_sem, extV, oC', w11, w12, w21, w22, q1, v1, v2, ew, Nat.reduceAdd]
    exact hnext _ S _ (st.grew (Grew.app _)) (by omega) (by simp)
  · simp (disch := omega) only [go_sem, extV, oC', w11, w12, w21, w22, q1, v1, v2, ew, Nat.reduceAdd]
    exact hnext _ S _ (st.grew (Grew.app _)) (by omega) (by simp)
  · obtain ⟨hon, rfl⟩ := splitK_at hlo
    have hol : S.length + x.ops.length ≤ 4096 := by have := oo.most; omega
    have hsp := split_do hon x.ops hrise hol how
    have hpd := part_do x.ops hrise hol how
    unfold partK at hsp hpd
    rw [hsp] at T1
    rw [hpd] at mv1 ⊢
    simp only at mv1 ⊢
    have hcode := doK_code x.ops S
    have may1 := doK_may x.ops hrise st.may (fun y hy => ⟨oo.ok y hy, oo.k6 y hy⟩)
    have rise1 := doK_rise x.ops hrise
    have len1 := doK_len x.ops S
    have len2 := doK_resl x.ops S
    have om := oo.most
    have U1 := st.U.butsT st.T b1 hu
    have oC1 := st.T.keepO b1 (by decide) oC
    have oC1' : ∀ t, (H1 ++ t)[i8]? = some (some (.cells 49 6 [c.cells W1 W2] 0)) := fun t => by
      rw [List.getElem?_append_left (List.getElem?_eq_some_iff.mp oC1).1]; exact oC1
    generalize hD : doK S x.ops = D at *
    obtain ⟨⟨f1, f2⟩, rs, S'⟩ := D
    simp only at T1 mv1 hcode may1 rise1 len1 len2 ⊢
    have c220 : (f2 == 220) = false := by simpa using hcode.1
    have c80 : (f2 == 80) = false := by simpa using hcode.2
    have m1 := mv1.one
    have m2 := mv1.cells
    simp (disch := omega) only [go_sem, extV, oC1', w11, w12, w21, w22, q1, v1, v2, m1, m2, c220, c80, Nat.reduceAdd]
    have noT : ∀ {H H' : AH} {b : List RowA} (_ : TabAt H u b) (_ : But u H H') {j : Nat} {e : TypeId} {n' g : Nat} {r : List (List AV)}, e ≠ 160 → H[j]? = some (some (.cells e n' r g)) → H'[j]? = some (some (.cells e n' r g)) := fun {H H' b} U bb {j e n' g r} he hj => by
      obtain ⟨y, hy, _⟩ := U.ex
      rw [bb.2 j (List.getElem?_eq_some_iff.mp hj).1 ?_]
      · exact hj
      · rintro rfl
        rw [hy] at hj
        cases hj
        exact he rfl
    refine ⟨tbDoK_call G u S x.av x.ops _ _ (U1.grew (Grew.app _)) (by omega) xok.sees oo fun v69 H3 U3 b3 mv3 => ?_⟩
    rw [hD] at U3 mv3 ⊢
    simp only at U3 mv3 ⊢
    generalize hH2 : H1 ++ [some (AO.cells 80 2 [[AV.v (.int .i64 f1), AV.v (.int .i64 f2)]] 0)] = H2 at b3
    have g2 : Grew H1 H2 := by rw [← hH2]; exact Grew.app _
    have oF2 : H2[H1.length]? = some (some (.cells 80 2 [[.v (.int .i64 f1), .v (.int .i64 f2)]] 0)) := by rw [← hH2]; simp
    have U2 := U1.grew g2
    have T3 := (T1.grew g2).butT U2 b3 hu
    have oC3 := noT U2 b3 (by decide) (g2.get oC1)
    have oF3 := noT U2 b3 (by decide) oF2
    have mv13 : Mine 157 4 H3 v50 (rs.map ResA.cells) := (show Mine 157 4 H2 v50 (rs.map ResA.cells) from by rw [← hH2]; exact mv1.more _).keep fun id r g hi _ => noT U2 b3 (by decide) hi
    have oF3' : ∀ t, (H3 ++ t)[H1.length]? = some (some (.cells 80 2 [[.v (.int .i64 f1), .v (.int .i64 f2)]] 0)) := fun t => by
      rw [List.getElem?_append_left (List.getElem?_eq_some_iff.mp oF3).1]; exact oF3
    have n1 := mv3.one
    have n2 := mv3.cells
    simp (disch := omega) only [go_sem, extV, n1, n2, oF3', neqFault, beq_self_eq_true, Bool.and_true, Bool.not_true, Nat.reduceAdd]
    generalize hH4 : H3 ++ [some (AO.cells 80 2 [[AV.v (.int .i64 f1), AV.v (.int .i64 f2)]] 0)] = H4
    have g4 : Grew H3 H4 := by rw [← hH4]; exact Grew.app _
    refine ⟨sameRes_call G v50 v69 rs H4 _ (by rw [← hH4]; exact mv13.sees.app _) (by rw [← hH4]; exact mv3.sees.app _) (by omega) ?_⟩
    simp (disch := omega) only [go_sem, Bool.not_true]
    have T4 := T3.grew g4
    have U4 := U3.grew g4
    refine ⟨all_call G v19 ps _ H4 _ T4 (by rw [splitK_len]; omega) (by rw [split_flat_len rise1 (rng S')]; omega) fun SD v99 H5 pS sS mS g5 offS => ?_⟩
    have hSD : fst SD = S' := all_split rise1 (rng S') ⟨SD, pS, sS, rfl⟩
    rw [hSD] at mS
    simp (disch := omega) only [go_sem, e0]
    refine ⟨tbRows_call G u S' [] [] H5 _ (U4.grew g5) fun v109 H6 acc => ?_⟩
    rw [endsK_nil] at acc
    simp only [List.drop_zero, Nat.sub_zero, List.take_length] at acc
    obtain ⟨t6, rfl⟩ := acc.tail
    simp (disch := omega) only [go_sem]
    refine ⟨sameRows_call G v99 v109 S' _ _ (mS.sees.app t6) acc.sees (by omega) ?_⟩
    have g46 : Grew H3 (H5 ++ t6) := (g4.trans g5).trans (Grew.app t6)
    have oC6 := g46.get oC3
    have T6 := T3.grew g46
    simp (disch := omega) only [go_sem, Bool.not_true, oC6, w11, w12, w21, w22]
    have hap : ApartT c (splitK c.owner c0.will.wts.length S') := splitK_apart _ _ _
    have hln : (splitK c.owner c0.will.wts.length S').length = c.will.wts.length := by rw [splitK_len]; exact hn2
    refine ⟨mvCheck_call G hG c W1 W2 v19 ps _ _ _ (k1' _) (k2' _) (by omega) (by omega) (by omega) T6 (by omega) hnd (fun l hl r hr => by have := (may_len (split_may may1 l hl r hr)).2.1; omega) (fun hx => by rw [st.ok] at hx; cases hx) (fun _ hx => absurd hln hx) (fun _ _ hx => absurd hap hx) (fun _ _ _ => ?_)⟩
    simp (disch := omega) only [go_sem, ew]
    exact hnext _ S' _ ⟨oC6, T6, U3.grew g46, st.ok, st.w1, st.w2, may1⟩ (by omega) (by have := b1.1; have := g2.len; have := b3.1; have := g46.len; omega)
theorem ansLoop (hG : GTab G) (k1 : ∀ h, Wt h W1 c0.was.wts) (k2 : ∀ h, Wt h W2 c0.will.wts) (hnd : ps.Nodup) (hu : u ∉ ps) (ha : ∀ h, Sees h 2 a2 (acts.map ActA.cells)) (hal : acts.length ≤ 8796093022207) (haok : ∀ x ∈ acts, x.Ok) (S : List RowA) (c : Chg) (st : AnsSt h32 c0 W1 W2 v19 u i8 ps S c) (hS : S.length ≤ 60) (hk : ∀ H, K (.v (.bool true)) H) :
    Tryz.r7_l12_34 K h G a2 i8 v19 (.ptr u 0 0 0) h32 0 := by
  unfold Tryz.r7_l12_34
  have e0 : (ByteArray.mk #[]) = bs [] := rfl
  have la : ∀ H, aLen Tryz.prog H 64 a2 = some (.v (.int .i64 acts.length)) := fun H => by
    have := (ha H).len (P := Tryz.prog) (t := 64) Tryz.und64
    rw [List.length_map] at this
    exact this
  refine ⟨fun m vs H => ∃ (n : Nat) (S : List RowA) (c : Chg), n ≤ 40 ∧ n ≤ acts.length ∧ m = 40 - n ∧ AnsSt H c0 W1 W2 v19 u i8 ps S c ∧ S.length ≤ 60 + 32 * n ∧ vs = [.v (.int .i64 n)], 40, ⟨0, S, c, by omega, by omega, rfl, st, by omega, rfl⟩, ?_⟩
  rintro m H hl1 hlow2 y ⟨n, S, c, hn, hna, rfl, st, hSl, hvs⟩
  simp only [List.cons.injEq, AV.v.injEq, Value.int.injEq, true_and, and_true] at hvs
  subst hvs
  by_cases hlt : n < acts.length
  rotate_left
  · simp (disch := omega) only [go_sem, la]
    exact ret_keep (hk _)
  by_cases h40 : n < 40
  rotate_left
  · simp (disch := omega) only [go_sem, la]
    exact ret_keep (hk _)
  obtain ⟨x, hx⟩ : ∃ x, acts[n]? = some x := ⟨_, List.getElem?_eq_getElem hlt⟩
  have xok := haok x (List.mem_of_getElem? hx)
  have x1 := xok.one
  have x2 := xok.cel
  have w11 := (k1 H).one
  have w12 := (k1 H).cells
  have w21 := (k2 H).one
  have w22 := (k2 H).cells
  obtain ⟨q, q1, q2, q3⟩ := (ha []).iaAll (P := Tryz.prog) (ty := 64) (k := .i64) (i := (n : Int)) (r := x.cells) Tryz.und64 Tryz.siz74 (by omega) (by simp [hx])
  obtain ⟨v, v1, v2⟩ := q3 74 0 0 1 false Tryz.fld74_0 (by decide)
  have q1 : ∀ H, aIA Tryz.prog H 64 a2 (.v (.int .i64 (n : Int))) = some q := fun H => q1 H
  have v2 : ∀ H, aLoad Tryz.prog H 3 v = some (.v (.int .i64 x.n)) := fun H => by
    have := v2 H
    rw [List.nil_append] at this
    simp (disch := omega) only [go_sem, this]
  have oC := st.oC
  have join : ∀ (I34 : Nat → List AV → AH → Prop) (H' : AH) (c' : Chg), AnsSt H' c0 W1 W2 v19 u i8 ps S c' → (∀ H'' S' ks, AnsSt H'' c0 W1 W2 v19 u i8 ps S' c' → S'.length ≤ S.length + 32 → H'.length ≤ H''.length → nextR h32 I34 (40 - n) ks ks [.v (.int .i64 ((n + 1 : Nat) : Int))] H'') → Tryz.r7_j46 K h G a2 i8 v19 (.ptr u 0 0 0) h32 I34 (40 - n) (n : Int) H' := fun I34 H' c' st' hnext =>
    ansJoin G c0 W1 W2 a2 v19 u i8 ps acts h h32 K hG k1 k2 hnd hu ha haok I34 (40 - n) n x hx (by omega) H' S c' st' (by omega) hnext
  have skip : ∀ (I34 : Nat → List AV → AH → Prop), (∀ H'' S' ks, AnsSt H'' c0 W1 W2 v19 u i8 ps S' c → S'.length ≤ S.length + 32 → H.length ≤ H''.length → nextR h32 I34 (40 - n) ks ks [.v (.int .i64 ((n + 1 : Nat) : Int))] H'') → Tryz.r7_j46 K h G a2 i8 v19 (.ptr u 0 0 0) h32 I34 (40 - n) (n : Int) H := fun I34 hnext => join I34 H c st hnext
  by_cases hpos : x.n > 0
  rotate_left
  · simp (disch := omega) only [go_sem, la, q1, v1, v2]
    exact skip _ fun H'' S' ks st' hl' hle => next_keep (40 - (n + 1)) (by omega) (by omega) ⟨n + 1, S', c, by omega, by omega, rfl, st', by omega, rfl⟩
  cases hf : c.fin with
  | true =>
    simp (disch := omega) only [go_sem, la, q1, v1, v2, oC, hf, Bool.not_true]
    exact skip _ fun H'' S' ks st' hl' hle => next_keep (40 - (n + 1)) (by omega) (by omega) ⟨n + 1, S', c, by omega, by omega, rfl, st', by omega, rfl⟩
  | false =>
    have k1' : ∀ H, Wt H W1 c.was.wts := fun H => by rw [st.w1]; exact k1 H
    have k2' : ∀ H, Wt H W2 c.will.wts := fun H => by rw [st.w2]; exact k2 H
    obtain ⟨ro1, ro2, _, hcur⟩ := ok_rings st.ok
    have hl1' := (ringOk_out ro1).2.1
    have hl2' := (ringOk_out ro2).2.1
    have hn2 : c0.will.wts.length = c.will.wts.length := by rw [st.w2]
    have rng : ∀ r ∈ S, 0 ≤ c.owner r.key ∧ c.owner r.key < c0.will.wts.length := fun r _ => by
      have := owner_rng st.ok r.key
      rw [hn2]; exact this
    have hrise := st.U.rise
    have hrg := xok.rng
    simp (disch := omega) only [go_sem, la, q1, v1, v2, oC, hf, Bool.not_false, w11, w12, w21, w22]
    have hstep := fun K hE h0 => mvStep_call G hG c W1 W2 v19 ps (splitK c.owner c0.will.wts.length S) x.n H K (fun H _ => k1' H) (fun H _ => k2' H) (by omega) (by omega) (by omega) hrg.1 hrg.2 st.T hnd (by rw [splitK_len]; omega) (split_may st.may) (by rw [split_flat_len hrise rng]; omega) hE h0
    unfold Chg.cells at hstep
    rw [hf] at hstep
    refine ⟨hstep _ (fun e t hbad => ?_) (fun _ _ _ _ _ S' aS f lb H1 T1 b1 => ?_)⟩
    · exfalso
      unfold StepErr at hbad
      rcases hbad with ⟨hx, _⟩ | ⟨_, hx, _⟩ | ⟨_, _, hx, _⟩ | ⟨_, _, _, hx, _⟩
      · rw [st.ok] at hx; cases hx
      · exact hx (by rw [splitK_len]; exact hn2)
      · exact hx (splitK_apart _ _ _)
      · rcases hx with hx | hx
        · rw [hf] at hx; cases hx
        · omega
    have hS' : S' = S := all_split hrise rng aS
    subst hS'
    rw [splitK_len] at T1
    have ok1 := step_ok (c := c) (f := f) (most := x.n) st.may st.ok
    have was1 : (c.step S' f x.n).was = c.was := rfl
    have will1 : (c.step S' f x.n).will = c.will := rfl
    generalize c.step S' f x.n = c1 at T1 ok1 was1 will1
    generalize (mvN (ofK Lib.itoa c.was.wts) (ofK Lib.itoa c.will.wts) S' f (nextM (S'.map RowA.key) x.n f)).length = cnt
    have oC1 := st.T.keepO b1 (by decide) st.oC
    have U1 := st.U.butsT st.T b1 hu
    have oC1' : ∀ t, (H1 ++ t)[i8]? = some (some (.cells 49 6 [c.cells W1 W2] 0)) := fun t => by
      rw [List.getElem?_append_left (List.getElem?_eq_some_iff.mp oC1).1]; exact oC1
    have oC1f := oC1'
    unfold Chg.cells at oC1f
    rw [hf] at oC1f
    simp (disch := omega) only [go_sem, extV, oC1f, q1, v1, v2, w11, w12, w21, w22, Nat.reduceAdd]
    have g1 : Grew H1 (H1 ++ [some (AO.cells 49 6 [c1.cells W1 W2] 0)]) := Grew.app _
    have oCb := oC1' [some (AO.cells 49 6 [c1.cells W1 W2] 0)]
    refine join _ _ c1 ⟨List.getElem?_set_self (List.getElem?_eq_some_iff.mp oCb).1, (T1.grew g1).put oCb (by decide) (by decide) (by decide), (U1.grew g1).setO oCb (by decide) (by decide), ok1, was1.trans st.w1, will1.trans st.w2, st.may⟩ ?_
    have hb1 := b1.1
    exact fun H'' S'' ks st' hl' hle => next_keep (40 - (n + 1)) (by omega) (by simp only [List.length_set, List.length_append, List.length_cons, List.length_nil] at hle; omega) ⟨n + 1, S'', c1, by omega, by omega, rfl, st', by omega, rfl⟩
end
theorem ansLaw (G : Nat → Option AV) (hG : GTab G) (cP : Chg) (W1 W2 R a1 a2 : AV) (rows : List RowA) (acts : List ActA) (h : AH) (K : AV → AH → Prop) (k1 : ∀ h, Wt h W1 cP.was.wts) (k2 : ∀ h, Wt h W2 cP.will.wts) (l1 : cP.was.wts.length ≤ 17592186044415) (l2 : cP.will.wts.length ≤ 17592186044415)
    (r1 : R.one = true) (r2 : R.cells = [R]) (ha : ∀ h, Sees h 3 a1 (rows.map RowA.cells)) (hns : ¬ ∃ s, a1 = .v (.string s)) (hrl : rows.length ≤ 8796093022207) (hkl : ∀ r ∈ rows, r.key.length ≤ 140737488351232 ∧ r.val.length ≤ 140737488351232) (hb : ∀ h, Sees h 2 a2 (acts.map ActA.cells)) (hal : acts.length ≤ 8796093022207) (haok : ∀ x ∈ acts, x.Ok) (hk : ∀ H, K (.v (.bool true)) H) :
    SCall Tryz.prog G 7 [.agg (planCells cP W1 W2 R), a1, a2] h K := by
  refine Tryz.c7 G _ _ _ h K fun hlow => ?_
  unfold Tryz.r7
  have w11 := (k1 h).one
  have w12 := (k1 h).cells
  have w21 := (k2 h).one
  have w22 := (k2 h).cells
  have e0 : (ByteArray.mk #[]) = bs [] := rfl
  simp (disch := omega) only [go_sem, w11, w12, w21, w22, r1, r2, Nat.reduceAdd]
  refine ⟨mvWorks_call G hG _ _ fun H gW => ?_⟩
  have oP : H[h.length]? = some (some (.cells 46 7 [planCells cP W1 W2 R] 0)) := gW.get (by simp)
  simp (disch := omega) only [go_sem, w11, w12, w21, w22, r1, r2, oP, Nat.reduceAdd]
  refine ⟨plTheirs_call G cP W1 W2 R _ _ w11 w12 w21 w22 r1 r2 fun t => ?_⟩
  generalize hH1 : H ++ t = H1
  simp (disch := omega) only [go_sem, w11, w12, w21, w22, r1, r2, e0, Nat.reduceAdd]
  generalize hH2 : H1 ++ [some (AO.cells 49 6 [[AV.v (.int .i64 cP.was.ver), W1, AV.v (.int .i64 cP.will.ver), W2, AV.v (.string (bs [])), AV.v (.bool false)]] 0)] = H2
  let c0 : Chg := { cP with cur := [], fin := false }
  have oC2 : H2[H1.length]? = some (some (.cells 49 6 [c0.cells W1 W2] 0)) := by rw [← hH2]; simp [c0]
  refine ⟨mvApart_call G hG c0 W1 W2 a1 rows H2 _ k1 k2 l1 l2 (by simp [c0]) ha hns hrl (fun r hr => by have := hkl r hr; omega) (fun t => ?_) (fun v ps S H3 ok v1 v2 T hnd hpb hS hSm hSl h60 _ g3 => ?_)⟩
  · simp (disch := omega) only [go_sem, extV]
    refine ⟨tbNew_call G _ _ fun T0 => ?_⟩
    simp (disch := omega) only [go_sem, Bool.not_false, ptrNeq]
    exact ret_keep (hk _)
  simp (disch := omega) only [go_sem, extV, v1, v2]
  refine ⟨tbNew_call G H3 _ fun T0 => ?_⟩
  generalize hH4 : H3 ++ [some (AO.cells 160 1 [[AV.v (.slice none 0 0)]] 0)] = H4 at T0
  have g4 : Grew H3 H4 := by rw [← hH4]; exact Grew.app _
  have hu : H3.length ∉ ps := fun hp => by
    obtain ⟨i, hi⟩ := List.mem_iff_getElem?.mp hp
    have hil := (List.getElem?_eq_some_iff.mp hi).1
    have hlen := T.len
    obtain ⟨l, hl⟩ : ∃ l, (splitK c0.owner c0.will.wts.length S)[i]? = some l := ⟨_, List.getElem?_eq_getElem (by omega)⟩
    have := (T.tab i _ l hi hl).lt
    omega
  have rng : ∀ r ∈ S, 0 ≤ c0.owner r.key ∧ c0.owner r.key < c0.will.wts.length := fun r _ => owner_rng ok r.key
  obtain ⟨_, ro2, _, _⟩ := ok_rings ok
  have hl2' := (ringOk_out ro2).2.1
  simp (disch := omega) only [go_sem, Bool.not_true, ptrEq0]
  refine ⟨all_call G v ps _ H4 _ (T.grew g4) (by rw [splitK_len]; omega) (by rw [split_flat_len hS rng]; omega) fun SD v29 H5 pS sS mS g5 offS => ?_⟩
  have hSD : fst SD = S := all_split hS rng ⟨SD, pS, sS, rfl⟩
  rw [hSD] at mS
  have U5 := T0.grew g5
  have T5 := T.grew (g4.trans g5)
  have oC5 := (g3.trans (g4.trans g5)).get oC2
  simp (disch := omega) only [go_sem]
  refine ⟨tbTake_call G H3.length [] S v29 H5 _ U5 (fun H' kt => ((mineOwn mS).keep kt.2).sees) (by omega) (fun r hr => by have := may_len (hSm r hr); omega) (fun hbad => ?_) (fun _ hbad => absurd hS hbad) (fun _ _ hbad => ?_) (fun _ _ _ H6 U6 b6 => ?_)⟩
  · rw [List.any_eq_true] at hbad
    obtain ⟨r, hr, hr2⟩ := hbad
    simp [hSm r hr] at hr2
  · rw [takeM_nil] at hbad; omega
  rw [takeM_nil] at U6
  have T6 := T5.butT U5 b6 hu
  have oC6 : H6[H1.length]? = some (some (.cells 49 6 [c0.cells W1 W2] 0)) := by
    obtain ⟨y, hy, _⟩ := U5.ex
    rw [b6.2 _ (List.getElem?_eq_some_iff.mp oC5).1 ?_]
    · exact oC5
    · intro e
      rw [e] at oC5
      rw [hy] at oC5
      cases oC5
  simp (disch := omega) only [go_sem]
  exact ansLoop G c0 W1 W2 a2 v H3.length H1.length ps acts h H6 K hG k1 k2 hnd hu hb hal haok S c0 ⟨oC6, T6, U6, ok, rfl, rfl, hSm⟩ (by omega) hk
theorem Tryz.lawMoveAnswers {G : Nat → Option AV} (hG : GTab G) (xs ys zs : List AV) (hx : In Tryz.prog 46 xs) (hy : In Tryz.prog 47 ys) (hz : In Tryz.prog 64 zs) : SCall Tryz.prog G 7 [argA Tryz.prog 46 xs, argA Tryz.prog 47 ys, argA Tryz.prog 64 zs] [] fun v _ => v = .v (.bool true) := by
  obtain ⟨c, W1, W2, R, rfl, k1, k2, l1, l2, l3, hR⟩ := in_plan hx
  obtain ⟨r, rs, ls, hr0, r1, r2, _⟩ := in_rowss hR
  obtain rfl : R = r := by simpa using hr0
  obtain ⟨a, rows, rfl, _, _, a1, a2, a3, a4, _⟩ := in_rows hy
  obtain ⟨b, acts, rfl, b1, b2, b3⟩ := in_acts hz
  have argActs : argA Tryz.prog 64 [b] = b := by unfold argA; rw [Tryz.und64]
  rw [argPlan, argRows, argActs]
  exact ansLaw G hG c W1 W2 R a b rows acts [] _ k1 k2 l1 l2 r1 r2 a1 a4 a2 a3 b1 b2 b3 fun _ => rfl
end Go.Proofs
