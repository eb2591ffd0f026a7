/-
  The law: one owner.
-/
import Derived.Test.YtbkehjgnaogcdaaDoorSd
import Derived.Test.YtbkehjgnaogcdaaDoorSe
import Derived.Test.YtbkehjgnaogcdaaDoorRy
set_option linter.all false
namespace Go.Proofs
open Go Go.Abs
set_option maxRecDepth 100000
set_option linter.unusedSimpArgs false
theorem in_cmds {xs : List AV} (hx : In Tryd.prog 90 xs) : ∃ a rows, xs = [a] ∧ (∀ h, Sees h 6 a rows) ∧ rows.length ≤ 2000000000000 ∧
    (∀ r ∈ rows, ∃ c la, r = CmdA.cells c la ∧ (∀ h, Ints h la c.list) ∧ la.one = true ∧ la.cells = [la] ∧ (∀ r f, la ≠ .lst r f false) ∧ c.list.length ≤ 17592186044416 ∧ c.cur.length ≤ 4611686018427387904) := by
  rcases in_slice Tryd.und90 hx with rfl | ⟨rows, rfl, h1, h2, h3, h4⟩
  · exact ⟨_, [], rfl, fun h => Sees.nil, by simp, by simp⟩
  · have hb : Tryd.prog.bytesOf 96 = 72 := by kernel_rfl
    have hr : reachBytes = 140737488351232 + 0 := by decide
    rw [hb] at h3
    refine ⟨_, rows, rfl, fun h => Sees.lst fun r hm => ?_, by omega, fun r hm => ?_⟩
    · rw [h1 r hm]; kernel_rfl
    · obtain ⟨c, la, g1, g2, g3, g4, g5, g6, g7, _⟩ := in_cmdB (h2 r hm)
      exact ⟨c, la, g1, g2, g3, g4, g5, g6, g7⟩
theorem argCmds {a : AV} : argA Tryd.prog 90 [a] = a := by unfold argA; rw [Tryd.und90]
theorem own_keys (G : Nat → Option AV) (hG : GTab G) (p : Nat) (O : Nat → Prop) (s : Adm) (a0 a1 : AV) (keys : List (List UInt8)) (i36 : Nat) (g : Chg) (v w : AV) (b35 : Bool) (m15 n17 : Nat) (I13 : Nat → List AV → AH → Prop) (h h4 H : AH) (K : AV → AH → Prop) (a : AdmOf H p O s) (ok : s.Ok) (r : s.Ring)
    (hc : ∀ h, Sees h 1 a1 (keys.map srow)) (hl3 : keys.length ≤ 8796093022207) (hkl : ∀ k ∈ keys, k.length ≤ 4611686018427387904) (go : H[i36]? = some (some (.cells 48 6 [g.cells v w] 0)))
    (hb : b35 = true → s.chg = some g ∧ Kept H v g.was.wts ∧ Kept H w g.will.wts) (hn : n17 ≤ 60) (hk2 : ∀ ks, nextR h4 I13 m15 ks ks [.v (.int .i64 (n17 + 1 : Nat))] H) :
    Tryd.r14_l13_40 K h G a0 a1 h4 (.ptr p 0 0 0) I13 m15 n17 s.chains.length b35 i36 H 0 := by
  unfold Tryd.r14_l13_40
  have lc : ∀ h, aLen Tryd.prog h 23 a1 = some (.v (.int .i64 keys.length)) := fun h => by
    have := (hc h).len (P := Tryd.prog) (t := 23) Tryd.und23
    rw [List.length_map] at this
    exact this
  have gl := (List.getElem?_eq_some_iff.mp go).1
  refine ⟨fun m vs h' => ∃ k : Nat, k ≤ keys.length ∧ m = keys.length - k ∧ h' = H ∧ vs = [.v (.int .i64 k)], keys.length, ⟨0, by omega, rfl, rfl, rfl⟩, ?_⟩
  rintro m h' hl1 hlow2 n ⟨k, hk1', rfl, rfl, hvs⟩
  simp only [List.cons.injEq, AV.v.injEq, Value.int.injEq, true_and, and_true] at hvs
  obtain rfl := hvs
  have ew : IntKind.i64.wrap ((n17 : Int) + 1) = ((n17 + 1 : Nat) : Int) := by rw [wrap64_of (by omega) (by omega)]; omega
  by_cases hkk : k < keys.length
  rotate_left
  · simp (disch := omega) only [go_sem, lc, ew]
    exact hk2 _
  by_cases hk5 : k < 5
  rotate_left
  · simp (disch := omega) only [go_sem, lc, ew]
    exact hk2 _
  obtain ⟨s1, hs⟩ : ∃ s, keys[k]? = some s := ⟨_, List.getElem?_eq_getElem hkk⟩
  have hsl := hkl s1 (List.mem_of_getElem? hs)
  obtain ⟨q, q1, q2⟩ := strAt (hc h') hs
  have ew2 : IntKind.i64.wrap ((k : Int) + 1) = ((k + 1 : Nat) : Int) := by rw [wrap64_of (by omega) (by omega)]; omega
  have nxt : ∀ ks, nextR h' (fun m vs h'' => ∃ k : Nat, k ≤ keys.length ∧ m = keys.length - k ∧ h'' = h' ∧ vs = [.v (.int .i64 k)]) (keys.length - k) ks ks [.v (.int .i64 (k + 1 : Nat))] h' := fun ks =>
    next_keep (keys.length - (k + 1)) (by omega) (Nat.le_refl _) ⟨k + 1, by omega, rfl, rfl, rfl⟩
  simp (disch := omega) only [go_sem, lc, q1, q2]
  refine ⟨adOwner_call G hG p O s s1 _ _ a ok hsl ?_⟩
  by_cases hz : s.chains.length = 0
  · have h2 := ownerOf_none r hz s1
    have hz' : ((s.chains.length : Nat) : Int) = 0 := by omega
    simp (disch := omega) only [go_sem, h2, ew2]
    exact nxt _
  obtain ⟨e1, e2, e3⟩ := ownerOf_at ok r (by omega) s1
  cases b35 with
  | false =>
    simp (disch := omega) only [go_sem, e1, ew2]
    exact nxt _
  | true =>
    obtain ⟨hg, kv, kw⟩ := hb rfl
    obtain ⟨p1, p2, p3, p4, p5, p6⟩ := ok.chg g hg
    have hwl := ok.wts
    have hnc := ok.nc
    have hgo := r.c g hg
    have hlv := (layVer (r.l (by omega))).1
    have hown : (s.ownerOf s1).1 = g.owner s1 := by
      unfold Adm.ownerOf
      rw [if_neg (by omega), hg]
      simp only [hgo, if_true]
    simp (disch := omega) only [go_sem, e1, go, q1, q2, kv.one, kw.one, kv.cells, kw.cells]
    refine ⟨Owner_call G hG g s1 v w _ _ kv.wt kw.wt (by rw [p1]; omega) (by omega) (by omega) hsl ?_⟩
    simp (disch := omega) only [go_sem, hgo, if_true, hown, ew2]
    exact nxt _
theorem lawOwns (G : Nat → Option AV) (hG : GTab G) (a0 a1 : AV) (rows : List (List AV)) (keys : List (List UInt8)) (h : AH) (K : AV → AH → Prop) (ha : ∀ h, Sees h 6 a0 rows) (hrl : rows.length ≤ 2000000000000)
    (hr : ∀ r ∈ rows, ∃ c la, r = CmdA.cells c la ∧ (∀ h, Ints h la c.list) ∧ la.one = true ∧ la.cells = [la] ∧ (∀ r f, la ≠ .lst r f false) ∧ c.list.length ≤ 17592186044416 ∧ c.cur.length ≤ 4611686018427387904)
    (hc : ∀ h, Sees h 1 a1 (keys.map srow)) (hl3 : keys.length ≤ 8796093022207) (hkl : ∀ k ∈ keys, k.length ≤ 4611686018427387904)
    (hk : ∀ h', K (.v (.bool true)) h') : SCall Tryd.prog G 14 [a0, a1] h K := by
  refine Tryd.c14 G _ _ h K fun hlow => ?_
  unfold Tryd.r14
  have lr : ∀ h, aLen Tryd.prog h 90 a0 = some (.v (.int .i64 rows.length)) := fun h => (ha h).len (P := Tryd.prog) (t := 90) Tryd.und90
  refine ⟨works18_call G h _ ?_⟩
  simp (disch := omega) only [go_sem]
  refine ⟨New_call G 16 (by omega) h _ ?_⟩
  intro p h5 e hp A
  simp (disch := omega) only [go_sem, pe1 Tryd.und91]
  unfold Tryd.r14_l7_13
  refine ⟨fun m vs h' => ∃ (i : Nat) (s : Adm) (O : Nat → Prop), vs = [.v (.int .i64 i)] ∧ m = 60 - i ∧ AdmOf h' p O s ∧ s.Ok ∧ s.Ring, 60, ⟨0, _, _, rfl, rfl, A, New_ok 16 (by omega), new_ring 16⟩, ?_⟩
  rintro m h' hl1 hlow2 n ⟨i, s, O, hvs, rfl, A, ok, ri⟩
  simp only [List.cons.injEq, AV.v.injEq, Value.int.injEq, true_and, and_true] at hvs
  obtain rfl := hvs
  by_cases hi : i < rows.length
  rotate_left
  · simp (disch := omega) only [go_sem, lr]
    exact ret_keep (hk _)
  by_cases hi2 : i < 60
  rotate_left
  · simp (disch := omega) only [go_sem, lr]
    exact ret_keep (hk _)
  obtain ⟨row, hrow⟩ : ∃ row, rows[i]? = some row := ⟨_, List.getElem?_eq_getElem hi⟩
  obtain ⟨c, la, rfl, l0, l1, l2, l3, l4, l5⟩ := hr row (List.mem_of_getElem? hrow)
  obtain ⟨q, q1, q2, _⟩ := (ha h').iaAll (P := Tryd.prog) (ty := 90) (k := .i64) (i := i) (r := c.cells la) Tryd.und90 Tryd.siz96 (by omega) (by simpa using hrow)
  have q1 := q1 []
  have q2 := q2 []
  rw [List.append_nil] at q1 q2
  simp (disch := omega) only [go_sem, lr, q1, q2, l1, l2]
  refine ⟨Do_call G h' _ p O s c la A ok (l0 _) l1 l2 l3 l4 l5 fun er s' h2 hst post => ?_⟩
  have mv := step_moves ok c
  have ri' := step_ring ok ri c
  rw [hst] at mv ri'
  have A2 := post.adm
  have hl2 := post.len
  simp (disch := omega) only [go_sem]
  refine ⟨Chains_call G p _ s' h2 _ A2 mv.ok fun v h3 rws acc chr => ?_⟩
  have lv := acc.len (P := Tryd.prog) (t := 97) Tryd.und97
  rw [chr.1] at lv
  obtain ⟨t, rfl⟩ := acc.tail
  have A3 := A2.app t
  simp (disch := omega) only [go_sem, lv]
  have step : ∀ (b : Bool) (g : Chg) (v w : AV) (H : AH), Grew (h2 ++ t) H → (b = true → s'.chg = some g ∧ Kept H v g.was.wts ∧ Kept H w g.will.wts) →
      Tryd.r14_l13_40 K h G a0 a1 h5 (.ptr p 0 0 0) (fun m vs h' => ∃ (i : Nat) (s : Adm) (O : Nat → Prop), vs = [.v (.int .i64 i)] ∧ m = 60 - i ∧ AdmOf h' p O s ∧ s.Ok ∧ s.Ring) (60 - i) i s'.chains.length b H.length (H ++ [some (.cells 48 6 [g.cells v w] 0)]) 0 := by
    intro b g v w H hG2 hb
    obtain ⟨u, rfl⟩ := hG2.ex
    have A4 := (A3.app u).app [some (.cells 48 6 [g.cells v w] 0)]
    refine own_keys G hG p _ s' a0 a1 keys _ g v w b (60 - i) i _ h h5 _ K A4 mv.ok ri' hc hl3 hkl (by simp) (fun hbt => ?_) (by omega) (fun ks => ?_)
    · obtain ⟨x1, x2, x3⟩ := hb hbt
      exact ⟨x1, x2.app _, x3.app _⟩
    · exact next_keep (60 - (i + 1)) (by omega) (by simp; omega) ⟨i + 1, s', _, rfl, rfl, A4, mv.ok, ri'⟩
  refine ⟨Change_call G p _ s' _ _ A3 mv.ok (fun hn h4 g4 => ?_) (fun g hg v w h4 g4 kv kw => ?_)⟩
  · simp (disch := omega) only [go_sem]
    exact step false zeroChg nilA nilA h4 g4 (fun h => by cases h)
  · simp (disch := omega) only [go_sem, kv.one, kw.one, kv.cells, kw.cells]
    exact step true g v w h4 g4 (fun _ => ⟨hg, kv, kw⟩)
theorem Tryd.lawAdminOwns {G : Nat → Option AV} (hG : GTab G) (xs ys : List AV) (hx : In Tryd.prog 90 xs) (hy : In Tryd.prog 23 ys) : SCall Tryd.prog G 14 [argA Tryd.prog 90 xs, argA Tryd.prog 23 ys] [] fun v _ => v = .v (.bool true) := by
  obtain ⟨a, rows, rfl, h1, h2, h3⟩ := in_cmds hx
  obtain ⟨b, keys, rfl, _, _, b1, b2, b3, _⟩ := in_texts hy
  rw [argCmds, argTexts]
  exact lawOwns G hG a b rows keys [] _ h1 h2 h3 b1 (by omega) (fun k hk => Nat.le_trans (b3 k hk) (by omega)) fun _ => rfl
end Go.Proofs
