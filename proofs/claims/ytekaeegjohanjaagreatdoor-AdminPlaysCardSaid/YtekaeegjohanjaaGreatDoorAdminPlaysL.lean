/-
  The law: an admin and the reference's, command by command.
-/
import Derived.Test.YtekaeegjohanjaaGreatDoorGAI
set_option linter.all false
namespace Go.Proofs
open Go Go.Abs
set_option maxRecDepth 100000
set_option linter.unusedSimpArgs false
theorem in_cmdsC {xs : List AV} (hx : In Tryz.prog 22 xs) : ∃ a rows, xs = [a] ∧ (∀ h, Sees h 6 a rows) ∧ rows.length ≤ 2000000000000 ∧
    (∀ r ∈ rows, ∃ c la, r = CmdA.cells c la ∧ (∀ h, Ints h la c.list) ∧ la.one = true ∧ la.cells = [la] ∧ (∀ r f, la ≠ .lst r f false) ∧ c.list.length ≤ 17592186043904 ∧ c.cur.length ≤ 4611686018427387904) := by
  rcases in_slice Tryz.und22 hx with rfl | ⟨rows, rfl, h1, h2, h3, h4⟩
  · exact ⟨_, [], rfl, fun h => Sees.nil, by simp, by simp⟩
  · have hb : Tryz.prog.bytesOf 33 = 72 := by kernel_rfl
    have hr : reachBytes = 140737488351232 + 0 := by decide
    rw [hb] at h3
    refine ⟨_, rows, rfl, fun h => Sees.lst fun r hm => ?_, by omega, fun r hm => ?_⟩
    · rw [h1 r hm]; kernel_rfl
    · obtain ⟨hl, hf⟩ := in_struct Tryz.und33 (h2 r hm)
      rw [show Tryz.prog.cellsOf 33 = 6 by kernel_rfl] at hl
      have c3 : Tryz.prog.cellsOf 3 = 1 := by kernel_rfl
      have c31 : Tryz.prog.cellsOf 31 = 1 := by kernel_rfl
      have c9 : Tryz.prog.cellsOf 9 = 1 := by kernel_rfl
      have b3 : Tryz.prog.bytesOf 3 = 8 := by kernel_rfl
      match r, hl with
      | [x0, x1, x2, x3, x4, x5], _ =>
        simp only [List.mem_cons, List.not_mem_nil, or_false, forall_eq_or_imp, forall_eq, c3, c31, c9, List.drop_zero, List.drop_succ_cons, List.take_succ_cons, List.take_zero] at hf
        obtain ⟨f0, f1, f2, f3, f4, f5⟩ := hf
        obtain ⟨n0, h0, _⟩ := in_int Tryz.und3 f0
        obtain ⟨n1, h1, _⟩ := in_int Tryz.und3 f1
        obtain ⟨n2, h2, _⟩ := in_int Tryz.und3 f2
        obtain ⟨n3, h3, _⟩ := in_int Tryz.und3 f3
        obtain ⟨a, l, h4, g1, g2, h5, h6, g3, g4⟩ := in_intsB Tryz.und31 Tryz.und3 f4
        obtain ⟨s, h7, h8⟩ := in_str Tryz.und9 f5
        simp only [List.cons.injEq, and_true] at h0 h1 h2 h3 h4 h7
        have h9 : s.data.toList.length = s.size := rfl
        rw [b3] at g3
        exact ⟨⟨n0, n1, n2, n3, l, s.data.toList⟩, a, by rw [h0, h1, h2, h3, h4, h7], h5, g1, g2, g4, (by simp only; omega), (by simp only; omega)⟩
/-- A lent list. -/
abbrev lentRows (l : List Int) : List (List AV) := (l ++ [-77]).map irow
theorem lent_kept {h : AH} {id g : Nat} {l : List Int} (ho : h[id]? = some (some (.cells 3 1 (lentRows l) g))) : Kept h (.sl id g 0 l.length none) l :=
  .inr ⟨id, g, _, rfl, ho, by simp, by simp⟩
theorem lent_sh {h : AH} {id g : Nat} {l : List Int} (ho : h[id]? = some (some (.cells 3 1 (lentRows l) g))) : Sh h (h.set id none) (.sl id g 0 l.length none) (.lst (l.map irow) false true) := by
  have hidl := (List.getElem?_eq_some_iff.mp ho).1
  refine Sh.frzN (Drop.one h id) ho (fun o => by rw [List.getElem?_set_self hidl]; simp) (by simp) (by simp) (by simp) fun i r r' h1 h2 => ?_
  have hi : i < l.length := by simpa using (List.getElem?_eq_some_iff.mp h2).1
  have e : r = r' := by
    simp only [Nat.zero_add, lentRows, List.map_append] at h1
    rw [List.getElem?_append_left (by simpa using hi)] at h1
    rw [h1] at h2
    exact Option.some.inj h2
  subst e
  exact ⟨rfl, fun k v v' q1 q2 => by rw [q1] at q2; cases q2; exact Sh.same (Drop.one h id) (by simp)⟩
theorem neB (b : Bool) : aBin Tryz.prog .neq 4 (.v (.bool b)) (.v (.bool b)) = some (.v (.bool false)) := by cases b <;> kernel_rfl
theorem play_round (G : Nat → Option AV) (hG : GTab G) (a1 : AV) (rows : List (List AV)) (key : List UInt8) (p1 p2 : Nat) (h h11 h' : AH) (K : AV → AH → Prop) (ha : ∀ h, Sees h 6 a1 rows) (hrl : rows.length ≤ 2000000000000)
    (hr : ∀ r ∈ rows, ∃ c la, r = CmdA.cells c la ∧ (∀ h, Ints h la c.list) ∧ la.one = true ∧ la.cells = [la] ∧ (∀ r f, la ≠ .lst r f false) ∧ c.list.length ≤ 17592186043904 ∧ c.cur.length ≤ 4611686018427387904)
    (hkl : key.length ≤ 4611686018427387904) (s : Adm) (duo : Duo h11 p1 p2 s s) (ok : s.Ok) (hk : ∀ h', K (.v (.bool true)) h') :
    Tryz.r3_l6_31 K h G a1 (.v (.string (bs key))) (.ptr p1 0 0 0) (.ptr p2 0 0 0) h11 0 := by
  unfold Tryz.r3_l6_31
  have lr : ∀ h, aLen Tryz.prog h 22 a1 = some (.v (.int .i64 rows.length)) := fun h => (ha h).len (P := Tryz.prog) (t := 22) Tryz.und22
  refine ⟨fun m vs h' => ∃ (i : Nat) (s : Adm), vs = [.v (.int .i64 i)] ∧ m = 120 - i ∧ Duo h' p1 p2 s s ∧ s.Ok, 120, ⟨0, s, rfl, rfl, duo, ok⟩, ?_⟩
  clear duo ok s h'
  rintro m h' hl1 hlow2 n ⟨i, s, hvs, rfl, duo, ok⟩
  simp only [List.cons.injEq, AV.v.injEq, Value.int.injEq, true_and, and_true] at hvs
  obtain rfl := hvs
  by_cases hi : i < rows.length
  rotate_left
  · simp (disch := omega) only [go_sem, Nat.one_ne_zero, two0, if_false, lr, pn1 Tryz.und23]
    refine ⟨works18_call G _ _ ?_⟩
    simp (disch := omega) only [go_sem]
    exact ret_keep (hk _)
  by_cases hi2 : i < 120
  rotate_left
  · simp (disch := omega) only [go_sem, Nat.one_ne_zero, two0, if_false, lr, pn1 Tryz.und23]
    refine ⟨works18_call G _ _ ?_⟩
    simp (disch := omega) only [go_sem]
    exact ret_keep (hk _)
  obtain ⟨row, hrow⟩ : ∃ row, rows[i]? = some row := ⟨_, List.getElem?_eq_getElem hi⟩
  obtain ⟨c, la, rfl, l0, l1, l2, l3, l4, l5⟩ := hr row (List.mem_of_getElem? hrow)
  obtain ⟨q, q1, q2, q3⟩ := (ha []).iaAll (P := Tryz.prog) (ty := 22) (k := .i64) (i := i) (r := c.cells la) Tryz.und22 Tryz.siz33 (by omega) (by simpa using hrow)
  obtain ⟨u, u1, u2⟩ := q3 33 4 4 1 false Tryz.fld33_4 (by decide)
  simp only [List.nil_append] at q1 q2 u2
  simp (disch := omega) only [go_sem, Nat.one_ne_zero, two0, if_false, lr, q1, q2, u1, u2, l1, l2, pn1 Tryz.und23]
  refine ⟨lendInts_call G la c.list _ _ (l0 _) (by omega) (Ints.noStr (l0 [])) fun id g H ho gr hid => ?_⟩
  obtain ⟨t, rfl⟩ := gr.ex
  simp only [List.length_append, List.length_cons, List.length_nil] at hid
  simp (disch := omega) only [go_sem, Nat.one_ne_zero, two0, if_false, q1, q2, u1, u2, l1, l2]
  have eH : Ext h' (h' ++ some (AO.cells 33 6 [c.cells (.sl id g 0 c.list.length none)] 0) :: t) := Ext.app _
  have oid : (h' ++ some (AO.cells 33 6 [c.cells (.sl id g 0 c.list.length none)] 0) :: t)[id]? = some (some (.cells 3 1 (lentRows c.list) g)) := by
    rw [← ho, List.append_assoc, List.getElem?_append_right (by omega), List.getElem?_append_right (by omega)]
    obtain ⟨d, hd⟩ : ∃ d, id - h'.length = d + 1 := ⟨id - h'.length - 1, by omega⟩
    rw [hd]
    rfl
  have ocm : (h' ++ some (AO.cells 33 6 [c.cells (.sl id g 0 c.list.length none)] 0) :: t)[h'.length]? = some (some (AO.cells 33 6 [c.cells (.sl id g 0 c.list.length none)] 0)) := by simp
  clear ho gr
  generalize h' ++ some (AO.cells 33 6 [c.cells (.sl id g 0 c.list.length none)] 0) :: t = HH at *
  have hidl := (List.getElem?_eq_some_iff.mp oid).1
  have len0 := eH.len
  have plain : ∀ r ∈ lentRows c.list, ∀ v ∈ r, ∃ y, v = .v y := by
    intro r hr v hv
    obtain ⟨x, _, rfl⟩ := List.mem_map.mp hr
    simp only [irow, List.mem_cons, List.not_mem_nil, or_false] at hv
    exact ⟨_, hv⟩
  have cmcl : ∀ r ∈ [c.cells (.sl id g 0 c.list.length none)], ∀ v ∈ r, clV id g v = true := by
    intro r hr v hv
    simp only [List.mem_cons, List.not_mem_nil, or_false] at hr
    subst hr
    simp only [List.mem_cons, List.not_mem_nil, or_false] at hv
    rcases hv with rfl | rfl | rfl | rfl | rfl | rfl <;> simp [clV]
  have duo0 : Duo (HH.set id none) p1 p2 s s := duo.sub fun j o hj => by
    have hjl := (List.getElem?_eq_some_iff.mp hj).1
    rw [List.getElem?_set_ne (by omega)]
    exact (eH.get j hjl).trans hj
  have oc0 : (HH.set id none)[h'.length]? = some (some (AO.cells 33 6 [c.cells (.sl id g 0 c.list.length none)] 0)) := by rw [List.getElem?_set_ne (by omega)]; exact ocm
  obtain ⟨bid, C, rws, W, CH, bid2, gb, C2, rws2, W2, V1, V2, A, B, dis⟩ := duo0
  refine ⟨SCall.lend oid plain (args' := [.ptr p1 0 0 0, .agg (c.cells (.lst (c.list.map irow) false true))]) rfl (fun k a a' h1 h2 => ?_) ?_⟩
  · match k with
    | 0 => simp at h1 h2; subst h1 h2; exact Sh.same (Drop.one _ _) (by simp)
    | 1 =>
      simp at h1 h2; subst h1 h2
      refine Sh.agg rfl fun k v v' g1 g2 => ?_
      match k with
      | 0 => simp at g1 g2; subst g1 g2; exact Sh.same (Drop.one _ _) (by simp)
      | 1 => simp at g1 g2; subst g1 g2; exact Sh.same (Drop.one _ _) (by simp)
      | 2 => simp at g1 g2; subst g1 g2; exact Sh.same (Drop.one _ _) (by simp)
      | 3 => simp at g1 g2; subst g1 g2; exact Sh.same (Drop.one _ _) (by simp)
      | 4 => simp at g1 g2; subst g1 g2; exact lent_sh oid
      | 5 => simp at g1 g2; subst g1 g2; exact Sh.same (Drop.one _ _) (by simp)
      | k + 6 => simp at g1
    | k + 2 => simp at h1
  refine Do_call G _ _ p1 _ s c (.lst (c.list.map irow) false true) ⟨bid, C, rws, W, CH, A, fun _ h => h⟩ ok (Sees.lst (by intro r hr; obtain ⟨_, _, rfl⟩ := List.mem_map.mp hr; rfl)) rfl rfl (by intro r f hx; cases hx) (by omega) l5 fun er s' H1 hst post => ?_
  have mv := step_moves ok c
  rw [hst] at mv
  have ok' := mv.ok
  have n1 : H1[id]? = some none := by
    rw [post.fr id (by simpa using hidl)]
    · exact List.getElem?_set_self hidl
    · intro hw
      obtain ⟨_, _, _, _, h3, _⟩ := A.own hw
      rw [List.getElem?_set_self hidl] at h3
      simp at h3
  refine ⟨n1, ⟨_, rfl⟩, ?_⟩
  have D1 := (Duo.doA A B dis post).cl (g := g) n1
  have oc1 := clH_keep (id := id) (g := g) (post.stay A oc0 (by decide)) cmcl
  have len1 := post.len
  simp only [List.length_set] at len1
  have n1' := clH_none (id := id) (g := g) n1
  have hidl1 := (List.getElem?_eq_some_iff.mp n1').1
  clear n1 post A B dis oc0
  have cl1 : (clH id g H1).length = H1.length := clH_length
  generalize clH id g H1 = L1 at *
  have oid1 : (L1.set id (some (AO.cells 3 1 (lentRows c.list) g)))[id]? = some (some (.cells 3 1 (lentRows c.list) g)) := List.getElem?_set_self hidl1
  have set1 : (L1.set id (some (AO.cells 3 1 (lentRows c.list) g))).set id none = L1 := by
    rw [List.set_set]
    apply List.ext_getElem?
    intro j
    by_cases hj : j = id
    · subst hj; rw [List.getElem?_set_self hidl1, n1']
    · rw [List.getElem?_set_ne (Ne.symm hj)]
  simp (disch := omega) only [go_sem, Nat.one_ne_zero, two0, if_false, q1, q2, u1, u2, l1, l2]
  refine ⟨SCall.lend oid1 plain (args' := [.ptr p2 0 0 0, .agg (c.cells la)]) rfl (fun k a a' h1 h2 => by rw [h1] at h2; cases h2; exact Sh.same (Drop.one _ _) (by simp)) ?_⟩
  rw [set1]
  obtain ⟨bid, C, rws, W, CH, bid2, gb, C2, rws2, W2, V1, V2, A, B, dis⟩ := D1
  refine Do18_call G _ _ p2 _ s c la ⟨bid2, gb, C2, rws2, W2, V1, V2, B, fun _ h => h⟩ ok (l0 _) l1 l2 (by omega) l5 fun er2 s2 H2 hst2 post => ?_
  rw [hst] at hst2
  obtain ⟨rfl, rfl⟩ := Prod.mk.inj hst2
  have n2 : H2[id]? = some none := by
    rw [post.fr id hidl1]
    · exact n1'
    · intro hw
      obtain ⟨_, _, _, _, h3, _⟩ := B.own hw
      rw [n1'] at h3
      cases h3
  refine ⟨n2, ⟨_, rfl⟩, ?_⟩
  have D2 := (Duo.doR A B dis post).cl (g := g) n2
  have oc2 := clH_keep (id := id) (g := g) (post.stay B oc1 (by decide)) cmcl
  have len2 := post.len
  have n2' := clH_none (id := id) (g := g) n2
  have hidl2 := (List.getElem?_eq_some_iff.mp n2').1
  clear n2 post A B dis oc1
  have cl2 : (clH id g H2).length = H2.length := clH_length
  generalize clH id g H2 = L2 at *
  have oid2 : (L2.set id (some (AO.cells 3 1 (lentRows c.list) g)))[id]? = some (some (.cells 3 1 (lentRows c.list) g)) := List.getElem?_set_self hidl2
  have oc3 : (L2.set id (some (AO.cells 3 1 (lentRows c.list) g)))[h'.length]? = some (some (AO.cells 33 6 [c.cells (.sl id g 0 c.list.length none)] 0)) := by rw [List.getElem?_set_ne (by omega)]; exact oc2
  simp (disch := omega) only [go_sem, Nat.one_ne_zero, two0, if_false, q1, q2, u1, u2, l1, l2, oc3, bne_self_eq_false']
  refine ⟨keptInts_call G id g la c.list _ _ oid2 (l0 _) (by omega) ?_⟩
  simp (disch := omega) only [go_sem, Nat.one_ne_zero, two0, if_false, q1, q2, u1, u2, l1, l2, oc3]
  refine ⟨spoilInts_call G (.sl id g 0 c.list.length none) c.list (-7) _ _ (lent_kept oid2) fun H3 hl3 hs3 => ?_⟩
  have D3 : Duo H3 p1 p2 s' s' := D2.sub fun j o hj => by
    have hne : j ≠ id := by rintro rfl; rw [n2'] at hj; cases hj
    rw [hs3 j (fun id' g' o' l' c' hx => by cases hx; exact Ne.symm hne), List.getElem?_set_ne (Ne.symm hne)]
    exact hj
  simp only [List.length_set] at hl3
  simp (disch := omega) only [go_sem, Nat.one_ne_zero, two0, if_false]
  refine ⟨adOwner_call G hG p1 _ s' key H3 _ D3.fst ok' hkl ?_⟩
  simp (disch := omega) only [go_sem, Nat.one_ne_zero, two0, if_false]
  refine ⟨Owner18_call G p2 _ s' key H3 _ D3.snd ok' hkl ?_⟩
  simp (disch := omega) only [go_sem, Nat.one_ne_zero, two0, if_false]
  refine ⟨same18_call G p1 p2 _ _ s' H3 _ D3.fst D3.snd ok' fun H4 e4 => ?_⟩
  have len4 := e4.len
  simp (disch := omega) only [go_sem, Nat.one_ne_zero, two0, if_false, bne_self_eq_false']
  refine next_keep (120 - (i + 1)) (by omega) (by omega) ⟨i + 1, s', ?_, rfl, D3.sub (fun j o hj => (e4.get j (List.getElem?_eq_some_iff.mp hj).1).trans hj), ok'⟩
  rfl
theorem lawPlays (G : Nat → Option AV) (hG : GTab G) (n : Int) (a1 : AV) (rows : List (List AV)) (key : List UInt8) (h : AH) (K : AV → AH → Prop) (ha : ∀ h, Sees h 6 a1 rows) (hrl : rows.length ≤ 2000000000000)
    (hr : ∀ r ∈ rows, ∃ c la, r = CmdA.cells c la ∧ (∀ h, Ints h la c.list) ∧ la.one = true ∧ la.cells = [la] ∧ (∀ r f, la ≠ .lst r f false) ∧ c.list.length ≤ 17592186043904 ∧ c.cur.length ≤ 4611686018427387904)
    (hkl : key.length ≤ 4611686018427387904) (hk : ∀ h', K (.v (.bool true)) h') : SCall Tryz.prog G 3 [.v (.int .i64 n), a1, .v (.string (bs key))] h K := by
  refine Tryz.c3 G _ _ _ h K fun hlow => ?_
  unfold Tryz.r3
  simp (disch := omega) only [go_sem]
  by_cases hn : 1 ≤ n ∧ n ≤ 16
  · obtain ⟨k, rfl⟩ : ∃ k : Nat, n = k := ⟨n.toNat, by omega⟩
    refine ⟨New_call G k (by omega) h _ fun p1 h5 e5 hp1 A => ?_⟩
    simp (disch := omega) only [go_sem]
    refine ⟨New18_call G k (by omega) h5 _ fun p2 h7 e7 hp2 B => ?_⟩
    simp (disch := omega) only [go_sem]
    have duo : Duo h7 p1 p2 (Adm.new k) (Adm.new k) := by
      obtain ⟨bid, C, rws, W, CH, A1, own1⟩ := A
      obtain ⟨bid2, gb, C2, rws2, W2, V1, V2, B1, own2⟩ := B
      refine ⟨bid, C, rws, W, CH, bid2, gb, C2, rws2, W2, V1, V2, A1.ext e7, B1, fun i h1 h2 => ?_⟩
      obtain ⟨_, _, _, _, h3, _⟩ := A1.own h1
      have := (List.getElem?_eq_some_iff.mp h3).1
      have := own2 i h2
      omega
    refine ⟨Tryz.c10 G h7 _ fun _ => ?_⟩
    unfold Tryz.r10
    refine ret_same ?_
    simp (disch := omega) only [go_sem, Nat.one_ne_zero, two0, if_false, pe1 Tryz.und23, pe1 Tryz.und27, neB, bne_self_eq_false']
    exact play_round G hG a1 rows key p1 p2 h h7 h7 K ha hrl hr hkl _ duo (New_ok k (by omega)) hk
  · refine ⟨New_bad G n (by omega) h _ ?_⟩
    simp (disch := omega) only [go_sem]
    refine ⟨New18_bad G n (by omega) h _ ?_⟩
    simp (disch := omega) only [go_sem]
    refine ⟨Tryz.c10 G h _ fun _ => ?_⟩
    unfold Tryz.r10
    refine ret_same ?_
    simp (disch := omega) only [go_sem, Nat.one_ne_zero, two0, if_false, pe2 Tryz.und23, pe2 Tryz.und27, neB, bne_self_eq_false']
    unfold Tryz.r3_l6_31
    refine ⟨fun m vs h' => h' = h ∧ vs = [.v (.int .i64 0)], 0, ⟨rfl, rfl⟩, ?_⟩
    rintro m h' hl1 hlow2 n ⟨rfl, hvs⟩
    simp only [List.cons.injEq, AV.v.injEq, Value.int.injEq, true_and, and_true] at hvs
    subst hvs
    simp (disch := omega) only [go_sem, Nat.one_ne_zero, two0, if_false, pn2 Tryz.und23]
    refine ⟨works18_call G _ _ ?_⟩
    simp (disch := omega) only [go_sem]
    exact ret_keep (hk _)
theorem Tryz.lawAdminPlays {G : Nat → Option AV} (hG : GTab G) (xs ys zs : List AV) (hx : In Tryz.prog 3 xs) (hy : In Tryz.prog 22 ys) (hz : In Tryz.prog 9 zs) : SCall Tryz.prog G 3 [argA Tryz.prog 3 xs, argA Tryz.prog 22 ys, argA Tryz.prog 9 zs] [] fun v _ => v = .v (.bool true) := by
  obtain ⟨n, rfl, _⟩ := in_int Tryz.und3 hx
  obtain ⟨a, rows, rfl, h1, h2, h3⟩ := in_cmdsC hy
  obtain ⟨s, rfl, h4⟩ := in_str Tryz.und9 hz
  have e1 : argA Tryz.prog 3 [.v (.int .i64 n)] = .v (.int .i64 n) := by unfold argA; rw [Tryz.und3]
  have e2 : argA Tryz.prog 22 [a] = a := by unfold argA; rw [Tryz.und22]
  have e3 : argA Tryz.prog 9 [.v (.string s)] = .v (.string (bs s.data.toList)) := by unfold argA; rw [Tryz.und9]
  have hr : reachBytes = 140737488351232 + 0 := by decide
  have h9 : s.data.toList.length = s.size := rfl
  rw [e1, e2, e3]
  exact lawPlays G hG n a rows s.data.toList [] _ h1 h2 h3 (by omega) fun _ => rfl
end Go.Proofs
