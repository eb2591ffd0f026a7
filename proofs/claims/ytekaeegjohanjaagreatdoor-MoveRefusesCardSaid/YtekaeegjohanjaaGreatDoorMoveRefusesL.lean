/-
  The law MoveRefuses.
-/
import Derived.Test.YtekaeegjohanjaaGreatDoorGAH
import Derived.Test.YtekaeegjohanjaaGreatDoorGAI
set_option linter.all false
namespace Go.Proofs
open Go Go.Abs
set_option maxRecDepth 100000
set_option linter.unusedSimpArgs false
theorem oneIA {P : Program} {t e : TypeId} {h : AH} {i g k n : Nat} {rows : List (List AV)} (hu : und P t = .slice e) (hs : siz P e = some 1) (o : h[i]? = some (some (.cells e 1 rows g))) (hn : n = rows.length) (hk : k < n) : aIA P h t (.sl i g 0 n none) (.v (.int .i64 (k : Int))) = some (.ptr i g k 0) := by
  subst hn
  unfold aIA
  rw [hu]
  simp only [hs, o, chk]
  rw [if_pos ⟨trivial, trivial, by omega, by omega⟩]
  simp
theorem modN (n : Int) (len : Nat) (h1 : 1 ≤ len) (h2 : len ≤ 1000) : ∃ N : Nat, N < len ∧ Int.tmod (IntKind.wrap .u64 n) (len : Int) = N := by
  have hr : 0 ≤ IntKind.wrap .u64 n := by
    simp [IntKind.wrap, IntKind.bits, IntKind.signed]; omega
  obtain ⟨k, hk⟩ : ∃ k : Nat, IntKind.wrap .u64 n = k := ⟨(IntKind.wrap .u64 n).toNat, by omega⟩
  rw [hk]
  exact ⟨k % len, Nat.mod_lt _ (by omega), by rw [Int.ofNat_tmod]⟩
theorem refuseLaw (G : Nat → Option AV) (hG : GTab G) (c : Chg) (W1 W2 R : AV) (rs : List AV) (ls : List (List RowA)) (tw : Int) (h : AH) (K : AV → AH → Prop) (k1 : ∀ h, Wt h W1 c.was.wts) (k2 : ∀ h, Wt h W2 c.will.wts) (l1 : c.was.wts.length ≤ 17592186044415) (l2 : c.will.wts.length ≤ 17592186044415) (hcl : c.cur.length ≤ 140737488351232)
    (T : RowsAt R rs ls) (hk : ∀ H, K (.v (.bool true)) H) :
    SCall Tryz.prog G 6 [.agg (planCells c W1 W2 R), .v (.int .i64 tw)] h K := by
  refine Tryz.c6 G _ _ h K fun hlow => ?_
  unfold Tryz.r6
  have w11 := (k1 h).one
  have w12 := (k1 h).cells
  have w21 := (k2 h).one
  have w22 := (k2 h).cells
  have n3 := T.one
  have c3 := T.cel
  have e0 : (ByteArray.mk #[]) = bs [] := rfl
  have lw : ∀ H, aLen Tryz.prog H 31 W2 = some (.v (.int .i64 c.will.wts.length)) := fun H => by
    have := (k2 H).ints.len (P := Tryz.prog) (t := 31) Tryz.und31
    rw [List.length_map] at this
    exact this
  simp (disch := omega) only [go_sem, w11, w12, w21, w22, n3, c3, Nat.reduceAdd]
  refine ⟨small_call G c W1 W2 R rs ls _ _ w11 w12 w21 w22 T ?_⟩
  cases hsm : smallB ls with
  | false =>
    simp (disch := omega) only [go_sem, Bool.not_false]
    refine ⟨mvWorks_call G hG _ _ fun H g => ?_⟩
    simp (disch := omega) only [go_sem]
    exact ret_keep (hk _)
  | true =>
  have hs12 : ls.length ≤ 12 := by unfold smallB at hsm; simp only [Bool.and_eq_true, decide_eq_true_eq] at hsm; exact hsm.1
  have hs60 : ∀ l ∈ ls, l.length ≤ 60 := fun l hl => by
    unfold smallB at hsm
    simp only [Bool.and_eq_true, List.all_eq_true, decide_eq_true_eq] at hsm
    exact hsm.2 l hl
  simp (disch := omega) only [go_sem, w11, w12, w21, w22, n3, c3, Bool.not_true, Nat.reduceAdd]
  refine ⟨tables_call G c W1 W2 R rs ls _ _ w11 w12 w21 w22 T hs60 (fun t => ?_) (fun x y ps qs H pok mx my TS RS hps hqs hpb hqb g offx offy => ?_)⟩
  · simp (disch := omega) only [go_sem, extV, Bool.not_false]
    refine ⟨mvWorks_call G hG _ _ fun H g => ?_⟩
    simp (disch := omega) only [go_sem]
    exact ret_keep (hk _)
  have oP : H[h.length]? = some (some (.cells 46 7 [planCells c W1 W2 R] 0)) := g.get (by simp)
  have lx := mx.sees.len (P := Tryz.prog) (t := 51) Tryz.und51
  rw [List.length_map] at lx
  have x1 := mx.one
  have x2 := mx.cells
  have y1 := my.one
  have y2 := my.cells
  have hpl := TS.len
  by_cases h0 : ps.length = 0
  · have h0' : ((ps.length : Int) == 0) = true := by simp [h0]
    simp (disch := omega) only [go_sem, extV, Bool.not_true, x1, x2, y1, y2, lx, h0']
    refine ⟨mvWorks_call G hG _ _ fun H g => ?_⟩
    simp (disch := omega) only [go_sem]
    exact ret_keep (hk _)
  have h0' : ((ps.length : Int) == 0) = false := by
    rw [beq_eq_false_iff_ne]
    omega
  by_cases hw : ps.length = c.will.wts.length
  rotate_left
  · have hne : aBin Tryz.prog .neq 3 (.v (.int .i64 (ps.length : Int))) (.v (.int .i64 (c.will.wts.length : Int))) = some (.v (.bool true)) := by
      have : ((ps.length : Int) != (c.will.wts.length : Int)) = true := by simp; omega
      simp only [aBin, aInt, chk, if_true, this]
    simp (disch := omega) only [go_sem, extV, Bool.not_true, x1, x2, y1, y2, lx, h0', oP, w11, w12, w21, w22, n3, c3, lw, hne]
    refine ⟨mvWorks_call G hG _ _ fun H g => ?_⟩
    simp (disch := omega) only [go_sem]
    exact ret_keep (hk _)
  have hne : aBin Tryz.prog .neq 3 (.v (.int .i64 (ps.length : Int))) (.v (.int .i64 (c.will.wts.length : Int))) = some (.v (.bool false)) := by
    have : ((ps.length : Int) != (c.will.wts.length : Int)) = false := by simp; omega
    simp only [aBin, aInt, chk, if_true, this]
  simp (disch := omega) only [go_sem, extV, Bool.not_true, x1, x2, y1, y2, lx, h0', oP, w11, w12, w21, w22, n3, c3, lw, hne]
  refine ⟨plOurs_call G c W1 W2 R _ _ w11 w12 w21 w22 n3 c3 fun t => ?_⟩
  simp (disch := omega) only [go_sem]
  refine ⟨refChgMay_call G c W1 W2 _ _ (k1 _) (k2 _) (by omega) (by omega) (by omega) ?_⟩
  cases hok : c.ok with
  | false =>
    simp (disch := omega) only [go_sem, Bool.not_false]
    refine ⟨mvWorks_call G hG _ _ fun H g => ?_⟩
    simp (disch := omega) only [go_sem]
    exact ret_keep (hk _)
  | true =>
  generalize hH1 : H ++ t = H1
  have g1 : Grew H H1 := ⟨t, hH1.symm⟩
  have mx1 : Mine 87 1 H1 x (ps.map prow) := by rw [← hH1]; exact mx.more t
  have TS1 := TS.grew g1
  have oP1 := g1.get oP
  have lx1 := mx1.sees.len (P := Tryz.prog) (t := 51) Tryz.und51
  rw [List.length_map] at lx1
  have ewl : IntKind.wrap .u64 (ps.length : Int) = (ps.length : Int) := by
    simp [IntKind.wrap, IntKind.bits, IntKind.signed]; omega
  obtain ⟨N, hN, eN⟩ := modN tw ps.length (by omega) (by omega)
  have erem : aBin Tryz.prog .rem 60 (.v (.int .u64 (IntKind.wrap .u64 tw))) (.v (.int .u64 (ps.length : Int))) = some (.v (.int .u64 (N : Int))) := by
    simp only [aBin, aInt, chk, if_true, eN]
    rw [if_pos (by omega)]
  have ewN : IntKind.wrap .i64 (N : Int) = (N : Int) := wrap64_of (by omega) (by omega)
  simp (disch := omega) only [go_sem, Bool.not_true, lx1, ewl, erem, ewN]
  refine (Mine.obj (rows := []) (id := H1.length) (g := 0) (by simp) (by simp : (H1 ++ [some (AO.cells 87 1 [] 0)])[H1.length]? = _) : Mine 87 1 (H1 ++ [some (AO.cells 87 1 [] 0)]) (.sl H1.length 0 0 0 none) []).append (new := ps.map prow) Tryz.und51 Tryz.azero87 Tryz.byt87 (by exact Tryz.plainSrc51) (mx1.more _).sees.src (by simp) (by rintro ⟨s, rfl⟩; cases mx1) (by simp; omega) (by simp; omega) fun w H2 m2 hle2 st2 => ?_
  simp only [List.length_append, List.length_cons, List.length_nil, List.nil_append] at hle2 m2
  have b2 : ∀ j, j < H1.length → H2[j]? = H1[j]? ∧ Off w j := fun j hj => by
    obtain ⟨e1, e2⟩ := st2 j (by simp; omega) (fun id g o l c hx hid => by simp only [AV.sl.injEq] at hx; omega)
    rw [e1, List.getElem?_append_left hj]
    exact ⟨rfl, e2⟩
  have g2 : Grew H1 H2 := Grew.mk (ext_of (by omega) fun j hj => (b2 j hj).1)
  generalize hR : ps.map prow = prs at m2
  have hprs : prs.length = ps.length := by rw [← hR, List.length_map]
  cases m2 with
  | nil => simp at hprs; omega
  | @obj id gw _ hrl ho =>
  have hid : H1.length ≤ id := by
    by_cases hlt : id < H1.length
    · exact absurd rfl ((b2 id hlt).2 id gw 0 _ none rfl)
    · omega
  have ilt := (List.getElem?_eq_some_iff.mp ho).1
  have hL : ∀ (L : List (Option Nat)) (H' : AH) (g' : Nat), (∀ p, some p ∈ L → p ∈ ps) → L.length = ps.length → (∀ j, j < H1.length → H'[j]? = H1[j]?) → H'[id]? = some (some (.cells 87 1 (L.map oprow) g')) → PtrsAt H' (.sl id g' 0 prs.length none) L := fun L H' g' hm hLl hs hi => by
    refine ⟨?_, fun p hp => ?_⟩
    · have := @Own.sl 87 1 H' id g' 0 none (L.map oprow) (L.map oprow) (by intro r hr; obtain ⟨z, _, rfl⟩ := List.mem_map.mp hr; rfl) hi (by simp) (by rw [List.drop_zero, List.take_length]) (fun c hc => by cases hc)
      rw [List.length_map, hLl, ← hprs] at this
      exact this
    · obtain ⟨i, hpi⟩ := List.mem_iff_getElem?.mp (hm p hp)
      have hil := (List.getElem?_eq_some_iff.mp hpi).1
      obtain ⟨l, hl⟩ : ∃ l, ls[i]? = some l := ⟨_, List.getElem?_eq_getElem (by omega)⟩
      obtain ⟨z, hz, _⟩ := (TS1.tab i p l hpi hl).ex
      exact ⟨z, by rw [hs p (List.getElem?_eq_some_iff.mp hz).1]; exact hz⟩
  have mapS : (ps.map some).map oprow = ps.map prow := by rw [List.map_map]; rfl
  obtain ⟨pN, hpN⟩ : ∃ p, ps[N]? = some p := ⟨_, List.getElem?_eq_getElem hN⟩
  have iaN : ∀ H' rows', H'[id]? = some (some (.cells 87 1 rows' gw)) → rows'.length = ps.length → aIA Tryz.prog H' 51 (.sl id gw 0 prs.length none) (.v (.int .i64 (N : Int))) = some (.ptr id gw N 0) := fun H' rows' hi hr => oneIA Tryz.und51 Tryz.siz87 hi (by omega) (by omega)
  have ia1 := iaN H2 prs ho (by omega)
  have hpr : prs[N]? = some [AV.ptr pN 0 0 0] := by rw [← hR]; simp [hpN]
  simp (disch := omega) only [go_sem, ewN, ia1, ho, hpr]
  obtain ⟨H3, hH3⟩ : ∃ X, H2.set id (some (AO.cells 87 1 (prs.set N [AV.v (.pointer none)]) gw)) = X := ⟨_, rfl⟩
  obtain ⟨ro1, ro2, _, _⟩ := ok_rings hok
  have hl1' := (ringOk_out ro1).2.1
  have hl2' := (ringOk_out ro2).2.1
  have hl3 : H3.length = H2.length := by rw [← hH3, List.length_set]
  have b3 : ∀ j, j < H1.length → H3[j]? = H1[j]? := fun j hj => by
    rw [← hH3, List.getElem?_set_ne (by omega)]
    exact (b2 j hj).1
  have o3 : H3[id]? = some (some (.cells 87 1 (((ps.map some).set N none).map oprow) gw)) := by
    rw [← hH3, List.getElem?_set_self ilt, List.map_set, mapS, hR]; rfl
  have P3 : PtrsAt H3 (.sl id gw 0 prs.length none) ((ps.map some).set N none) := hL _ H3 gw (fun p hp => by
    rcases List.mem_or_eq_of_mem_set hp with hp | hp
    · obtain ⟨q, hq, he⟩ := List.mem_map.mp hp
      rw [← Option.some.inj he]; exact hq
    · cases hp) (by simp) b3 o3
  have bad1 : ∃ k, BadL ((ps.map some).set N none) k := ⟨N, .inl (by rw [List.getElem?_set_self (by simpa using hN)])⟩
  have lL1 : ((ps.map some).set N none).length ≤ 1000 := by simp; omega
  have hlt1 : h.length < H1.length := (List.getElem?_eq_some_iff.mp oP1).1
  have oP3 : H3[h.length]? = some (some (.cells 46 7 [planCells c W1 W2 R] 0)) := by rw [b3 _ hlt1]; exact oP1
  simp (disch := omega) only [go_sem, hH3, oP3, w11, w12, w21, w22, n3, c3, Nat.reduceAdd]
  refine ⟨plTheirs_call G c W1 W2 R _ _ w11 w12 w21 w22 n3 c3 fun t4 => ?_⟩
  generalize hH4 : H3 ++ t4 = H4
  simp (disch := omega) only [go_sem, w11, w12, w21, w22, Nat.reduceAdd]
  have g34 : Grew H3 H4 := ⟨t4, hH4.symm⟩
  generalize hH5 : H4 ++ [some (AO.cells 49 6 [c.cells W1 W2] 0)] = H5
  have g5 : Grew H3 H5 := by rw [← hH5]; exact g34.trans (Grew.app _)
  have oC5 : H5[H4.length]? = some (some (.cells 49 6 [c.cells W1 W2] 0)) := by rw [← hH5]; simp
  have lt5 := (List.getElem?_eq_some_iff.mp oC5).1
  refine ⟨mvCheckBad_call G c W1 W2 _ _ H5 _ (k1 _) (k2 _) (by omega) (by omega) (by omega) (P3.grew g5) lL1 bad1 hok ?_⟩
  simp (disch := omega) only [go_sem, oC5, w11, w12, w21, w22, Nat.reduceAdd]
  refine ⟨mvStepBad_call G c W1 W2 _ _ 1 H5 _ (k1 _) (k2 _) (by omega) (by omega) (by omega) (P3.grew g5) lL1 bad1 hok fun t6 => ?_⟩
  have oC6 : ∀ t, (H5 ++ t)[H4.length]? = some (some (.cells 49 6 [c.cells W1 W2] 0)) := fun t => (Grew.app t).get oC5
  simp (disch := omega) only [go_sem, extV, oC6, w11, w12, w21, w22, Nat.reduceAdd]
  generalize hH6 : H5 ++ _ = H6
  have g6 : Grew H5 H6 := ⟨_, hH6.symm⟩
  refine ⟨mvDoBad_call G c W1 W2 _ _ _ H6 _ (k1 _) (k2 _) (by omega) (by omega) (by omega) (P3.grew (g5.trans g6)) lL1 bad1 hok fun t7 => ?_⟩
  have lxx : ∀ H, aLen Tryz.prog H 51 x = some (.v (.int .i64 ps.length)) := fun H => by
    have := mineLen mx (P := Tryz.prog) (t := 51) Tryz.und51 H
    rw [List.length_map] at this
    exact this
  have nf : aBin Tryz.prog .neq 80 (.agg [.v (.int .i64 0), .v (.int .i64 4)]) (.agg [.v (.int .i64 0), .v (.int .i64 4)]) = some (.v (.bool false)) := by kernel_rfl
  simp (disch := omega) only [go_sem, extV, lxx, nf, bne_self_eq_false, Nat.reduceAdd]
  obtain ⟨H8, hH8⟩ : ∃ X, H6 ++ (t7 ++ [some (AO.cells 80 2 [[AV.v (.int .i64 0), AV.v (.int .i64 4)]] 0)]) = X := ⟨_, rfl⟩
  have g8 : Grew H6 H8 := ⟨_, hH8.symm⟩
  by_cases h1 : (ps.length : Int) > 1
  rotate_left
  · simp (disch := omega) only [go_sem]
    refine ⟨mvWorks_call G hG _ _ fun H g => ?_⟩
    simp (disch := omega) only [go_sem]
    exact ret_keep (hk _)
  have g38 := g5.trans (g6.trans g8)
  have eM : Int.tmod ((N + 1 : Nat) : Int) (ps.length : Int) = (((N + 1) % ps.length : Nat) : Int) := by rw [Int.ofNat_tmod]
  have hM : (N + 1) % ps.length < ps.length := Nat.mod_lt _ (by omega)
  have ewN1 : IntKind.wrap .i64 ((N : Int) + 1) = ((N + 1 : Nat) : Int) := by rw [wrap64_of (by omega) (by omega)]; omega
  have erem2 : aBin Tryz.prog .rem 3 (.v (.int .i64 ((N + 1 : Nat) : Int))) (.v (.int .i64 (ps.length : Int))) = some (.v (.int .i64 (((N + 1) % ps.length : Nat) : Int))) := by
    simp only [aBin, aInt, chk, if_true, eM]
    rw [if_pos (by omega)]
  generalize hMM : (N + 1) % ps.length = M at hM eM erem2
  obtain ⟨pM, hpM⟩ : ∃ p, ps[M]? = some p := ⟨_, List.getElem?_eq_getElem hM⟩
  have mx6 : Mine 87 1 H6 x (ps.map prow) := mx1.keep fun id' r' g' hi _ => (g5.trans g6).get (by rw [b3 id' (List.getElem?_eq_some_iff.mp hi).1]; exact hi)
  obtain ⟨q, q1, q2, _⟩ := mx6.sees.iaAll (P := Tryz.prog) (ty := 51) (k := .i64) (i := (M : Int)) (r := prow pM) Tryz.und51 Tryz.siz87 (by omega) (by simp [hpM])
  have o8 := g38.get o3
  have o8' : ∀ t, (H6 ++ t)[id]? = _ := fun t => ((g5.trans g6).trans (Grew.app t)).get o3
  have ia8 := fun t => iaN (H6 ++ t) _ (o8' t) (by simp)
  have hpr2 : (((ps.map some).set N none).map oprow)[N]? = some [AV.v (.pointer none)] := by rw [List.getElem?_map, List.getElem?_set_self (by simpa using hN)]; rfl
  simp (disch := omega) only [go_sem, lxx, ewN, ewN1, erem2, q1, q2, ia8, o8', hpr2]
  have ilt8 := (List.getElem?_eq_some_iff.mp o8).1
  obtain ⟨H9, hH9⟩ : ∃ X, H8.set id (some (AO.cells 87 1 ((((ps.map some).set N none).map oprow).set N [AV.ptr pM 0 0 0]) gw)) = X := ⟨_, rfl⟩
  have b9 : ∀ j, j < H1.length → H9[j]? = H1[j]? := fun j hj => by
    rw [← hH9, List.getElem?_set_ne (by omega)]
    obtain ⟨t, ht⟩ := g38.ex
    rw [ht, List.getElem?_append_left (by omega)]
    exact b3 j hj
  have o9 : H9[id]? = some (some (.cells 87 1 (((ps.map some).set N (some pM)).map oprow) gw)) := by
    rw [← hH9, List.getElem?_set_self ilt8]
    have e1 : (((ps.map some).set N none).map oprow).set N [AV.ptr pM 0 0 0] = ((ps.map some).set N (some pM)).map oprow := by
      rw [List.map_set, List.map_set, List.set_set]; rfl
    rw [e1]
  have P9 : PtrsAt H9 (.sl id gw 0 prs.length none) ((ps.map some).set N (some pM)) := hL _ H9 gw (fun p hp => by
    rcases List.mem_or_eq_of_mem_set hp with hp | hp
    · obtain ⟨q, hq, he⟩ := List.mem_map.mp hp
      rw [← Option.some.inj he]; exact hq
    · obtain rfl := Option.some.inj hp
      exact List.mem_of_getElem? hpM) (by simp) b9 o9
  have bad2 : ∃ k, BadL ((ps.map some).set N (some pM)) k := by
    by_cases hN1 : N + 1 < ps.length
    · have hMe : M = N + 1 := by rw [← hMM]; exact Nat.mod_eq_of_lt hN1
      subst hMe
      refine ⟨N + 1, .inr ⟨pM, by rw [List.getElem?_set_ne (by omega), List.getElem?_map, hpM]; rfl, List.mem_iff_getElem?.mpr ⟨N, ?_⟩⟩⟩
      rw [List.getElem?_take_of_lt (by omega), List.getElem?_set_self (by simpa using hN)]
    · have hMe : M = 0 := by
        have : N + 1 = ps.length := by omega
        rw [← hMM, this, Nat.mod_self]
      subst hMe
      refine ⟨N, .inr ⟨pM, by rw [List.getElem?_set_self (by simpa using hN)], List.mem_iff_getElem?.mpr ⟨0, ?_⟩⟩⟩
      rw [List.getElem?_take_of_lt (by omega), List.getElem?_set_ne (by omega), List.getElem?_map, hpM]; rfl
  have oC9 : H9[H4.length]? = some (some (.cells 49 6 [c.cells W1 W2] 0)) := by
    rw [← hH9, List.getElem?_set_ne]
    · exact (g6.trans g8).get oC5
    · intro e
      have := g34.len
      rw [← e] at oC5
      rw [g5.get o3] at oC5
      cases oC5
  simp (disch := omega) only [go_sem, hH8, hH9, oC9, w11, w12, w21, w22, Nat.reduceAdd]
  refine ⟨mvCheckBad_call G c W1 W2 _ _ H9 _ (k1 _) (k2 _) (by omega) (by omega) (by omega) P9 (by simp; omega) bad2 hok ?_⟩
  simp (disch := omega) only [go_sem]
  refine ⟨mvWorks_call G hG _ _ fun H g => ?_⟩
  simp (disch := omega) only [go_sem]
  exact ret_keep (hk _)
theorem Tryz.lawMoveRefuses {G : Nat → Option AV} (hG : GTab G) (xs ys : List AV) (hx : In Tryz.prog 46 xs) (hy : In Tryz.prog 3 ys) : SCall Tryz.prog G 6 [argA Tryz.prog 46 xs, argA Tryz.prog 3 ys] [] fun v _ => v = .v (.bool true) := by
  obtain ⟨c, W1, W2, R, rfl, k1, k2, l1, l2, l3, hR⟩ := in_plan hx
  obtain ⟨r, rs, ls, hr0, r1, r2, r3, r4, r5, _, r6⟩ := in_rowss hR
  obtain rfl : R = r := by simpa using hr0
  obtain ⟨n, rfl, _⟩ := in_int Tryz.und3 hy
  rw [argPlan, argInt]
  exact refuseLaw G hG c W1 W2 R rs ls n [] _ k1 k2 l1 l2 l3 ⟨r1, r2, r3, r4, r5, r6⟩ fun _ => rfl
end Go.Proofs
