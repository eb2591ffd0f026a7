/-
  The law: one owner.
-/
import Derived.Test.YtbkehjgnaogcdaaDoorSd
import Derived.Test.YtbkehjgnaogcdaaDoorSe
import Derived.Test.YtbkehjgnaogcdaaDoorRy
import Derived.Test.YtbkehjgnaogcdaaDoorSf
set_option linter.all false
namespace Go.Proofs
open Go Go.Abs
set_option maxRecDepth 100000
set_option linter.unusedSimpArgs false
theorem in_cmds {xs : List AV} (hx : In Tryd.prog 90 xs) : ∃ a rows, xs = [a] ∧ (∀ h, Sees h 6 a rows) ∧ rows.length ≤ 2000000000000 ∧
    (∀ r ∈ rows, ∃ c la, r = CmdA.cells c la ∧ (∀ h, Ints h la c.list) ∧ la.one = true ∧ la.cells = [la] ∧ (∀ r f, la ≠ .lst r f false) ∧ c.list.length ≤ 17592186044416 ∧ c.cur.length ≤ 4611686018427387904) := by
  rcases in_slice Tryd.und90 hx with rfl | ⟨rows, rfl, h1, h2, h3, h4⟩
  · exact ⟨_, [], rfl, fun h => Sees.nil, by simp, by simp⟩
  · have hb : Tryd.prog.bytesOf 96 = 72 := by kernel_rfl
    have hr : reachBytes = 140737488351232 + 0 := by decide
    rw [hb] at h3
    refine ⟨_, rows, rfl, fun h => Sees.lst fun r hm => ?_, by omega, fun r hm => ?_⟩
    · rw [h1 r hm]; kernel_rfl
    · obtain ⟨c, la, g1, g2, g3, g4, g5, g6, g7, _⟩ := in_cmdB (h2 r hm)
      exact ⟨c, la, g1, g2, g3, g4, g5, g6, g7⟩
theorem argCmds {a : AV} : argA Tryd.prog 90 [a] = a := by unfold argA; rw [Tryd.und90]
theorem own_keys (G : Nat → Option AV) (hG : GTab G) (p : Nat) (O : Nat → Prop) (s : Adm) (a0 a1 : AV) (keys : List (List UInt8)) (i36 : Nat) (g : Chg) (v w : AV) (b35 : Bool) (m15 n17 : Nat) (I13 : Nat → List AV → AH → Prop) (h h4 H : AH) (K : AV → AH → Prop) (a : AdmOf H p O s) (ok : s.Ok) (r : s.Ring)
    (hc : ∀ h, Sees h 1 a1 (keys.map srow)) (hl3 : keys.length ≤ 8796093022207) (hkl : ∀ k ∈ keys, k.length ≤ 4611686018427387904) (go : H[i36]? = some (some (.cells 48 6 [g.cells v w] 0)))
    (hb : b35 = true → s.chg = some g ∧ Kept H v g.was.wts ∧ Kept H w g.will.wts) (hn : n17 ≤ 60) (hk2 : ∀ ks, nextR h4 I13 m15 ks ks [.v (.int .i64 (n17 + 1 : Nat))] H) :
    Tryd.r14_l13_40 K h G a0 a1 h4 (.ptr p 0 0 0) I13 m15 n17 s.chains.length b35 i36 H 0 := by
  unfold Tryd.r14_l13_40
  have lc : ∀ h, aLen Tryd.prog h 23 a1 = some (.v (.int .i64 keys.length)) := fun h => by
    have := (hc h).len (P := Tryd.prog) (t := 23) Tryd.und23
    rw [List.length_map] at this
    exact this
  have gl := (List.getElem?_eq_some_iff.mp go).1
  refine ⟨fun m vs h' => ∃ k : Nat, k ≤ keys.length ∧ m = keys.length - k ∧ h' = H ∧ vs = [.v (.int .i64 k)], keys.length, ⟨0, by omega, rfl, rfl, rfl⟩, ?_⟩
  rintro m h' hl1 hlow2 n ⟨k, hk1', rfl, rfl, hvs⟩
  simp only [List.cons.injEq, AV.v.injEq, Value.int.injEq, true_and, and_true] at hvs
  obtain rfl := hvs
  have ew : IntKind.i64.wrap ((n17 : Int) + 1) = ((n17 + 1 : Nat) : Int) := by rw [wrap64_of (by omega) (by omega)]; omega
  by_cases hkk : k < keys.length
  rotate_left
  · simp (disch := omega) only [go_sem, lc, ew]
    exact hk2 _
  by_cases hk5 : k < 5
  rotate_left
  · simp (disch := omega) only [go_sem, lc, ew]
    exact hk2 _
  obtain ⟨s1, hs⟩ : ∃ s, keys[k]? = some s := ⟨_, List.getElem?_eq_getElem hkk⟩
  have hsl := hkl s1 (List.mem_of_getElem? hs)
  obtain ⟨q, q1, q2⟩ := strAt (hc h') hs
  have ew2 : IntKind.i64.wrap ((k : Int) + 1) = ((k + 1 : Nat) : Int) := by rw [wrap64_of (by omega) (by omega)]; omega
  have nxt : ∀ ks, nextR h' (fun m vs h'' => ∃ k : Nat, k ≤ keys.length ∧ m = keys.length - k ∧ h'' = h' ∧ vs = [.v (.int .i64 k)]) (keys.length - k) ks ks [.v (.int .i64 (k + 1 : Nat))] h' := fun ks =>
    next_keep (keys.length - (k + 1)) (by omega) (Nat.le_refl _) ⟨k + 1, by omega, rfl, rfl, rfl⟩
  simp (disch := omega) only [go_sem, lc, q1, q2]
  refine ⟨adOwner_call G hG p O s s1 _ _ a ok hsl ?_⟩
  by_cases hz : s.chains.length = 0
  · have h2 := ownerOf_none r hz s1
    have hz' : ((s.chains.length : Nat) : Int) = 0 := by omega
    simp (disch := omega) only [go_sem, h2, ew2]
    exact nxt _
  obtain ⟨e1, e2, e3⟩ := ownerOf_at ok r (by omega) s1
  cases b35 with
  | false =>
    simp (disch := omega) only [go_sem, e1, ew2]
    exact nxt _
  | true =>
    obtain ⟨hg, kv, kw⟩ := hb rfl
    obtain ⟨p1, p2, p3, p4, p5, p6⟩ := ok.chg g hg
    have hwl := ok.wts
    have hnc := ok.nc
    have hgo := r.c g hg
    have hlv := (layVer (r.l (by omega))).1
    have hown : (s.ownerOf s1).1 = g.owner s1 := by
      unfold Adm.ownerOf
      rw [if_neg (by omega), hg]
      simp only [hgo, if_true]
    simp (disch := omega) only [go_sem, e1, go, q1, q2, kv.one, kw.one, kv.cells, kw.cells]
    refine ⟨Owner_call G hG g s1 v w _ _ kv.wt kw.wt (by rw [p1]; omega) (by omega) (by omega) hsl ?_⟩
    simp (disch := omega) only [go_sem, hgo, if_true, hown, ew2]
    exact nxt _
theorem lawOwns (G : Nat → Option AV) (hG : GTab G) (a0 a1 : AV) (rows : List (List AV)) (keys : List (List UInt8)) (h : AH) (K : AV → AH → Prop) (ha : ∀ h, Sees h 6 a0 rows) (hrl : rows.length ≤ 2000000000000)
    (hr : ∀ r ∈ rows, ∃ c la, r = CmdA.cells c la ∧ (∀ h, Ints h la c.list) ∧ la.one = true ∧ la.cells = [la] ∧ (∀ r f, la ≠ .lst r f false) ∧ c.list.length ≤ 17592186044416 ∧ c.cur.length ≤ 4611686018427387904)
    (hc : ∀ h, Sees h 1 a1 (keys.map srow)) (hl3 : keys.length ≤ 8796093022207) (hkl : ∀ k ∈ keys, k.length ≤ 4611686018427387904)
    (hk : ∀ h', K (.v (.bool true)) h') : SCall Tryd.prog G 14 [a0, a1] h K := by
  refine Tryd.c14 G _ _ h K fun hlow => ?_
  unfold Tryd.r14
  have lr : ∀ h, aLen Tryd.prog h 90 a0 = some (.v (.int .i64 rows.length)) := fun h => (ha h).len (P := Tryd.prog) (t := 90) Tryd.und90
  refine ⟨works18_call G h _ ?_⟩
  simp (disch := omega) only [go_sem]
  refine ⟨New_call G 16 (by omega) h _ ?_⟩
  intro p h5 e hp A
  simp (disch := omega) only [go_sem, pe1 Tryd.und91]
  unfold Tryd.r14_l7_13
  refine ⟨fun m vs h' => ∃ (i : Nat) (s : Adm) (O : Nat → Prop), vs = [.v (.int .i64 i)] ∧ m = 60 - i ∧ AdmOf h' p O s ∧ s.Ok ∧ s.Ring, 60, ⟨0, _, _, rfl, rfl, A, New_ok 16 (by omega), new_ring 16⟩, ?_⟩
  rintro m h' hl1 hlow2 n ⟨i, s, O, hvs, rfl, A, ok, ri⟩
  simp only [List.cons.injEq, AV.v.injEq, Value.int.injEq, true_and, and_true] at hvs
  obtain rfl := hvs
  by_cases hi : i < rows.length
  rotate_left
  · simp (disch := omega) only [go_sem, lr]
    exact ret_keep (hk _)
  by_cases hi2 : i < 60
  rotate_left
  · simp (disch := omega) only [go_sem, lr]
    exact ret_keep (hk _)
  obtain ⟨row, hrow⟩ : ∃ row, rows[i]? = some row := ⟨_, List.getElem?_eq_getElem hi⟩
  obtain ⟨c, la, rfl, l0, l1, l2, l3, l4, l5⟩ := hr row (List.mem_of_getElem? hrow)
  obtain ⟨q, q1, q2, _⟩ := (ha h').iaAll (P := Tryd.prog) (ty := 90) (k := .i64) (i := i) (r := c.cells la) Tryd.und90 Tryd.siz96 (by omega) (by simpa using hrow)
  have q1 := q1 []
  have q2 := q2 []
  rw [List.append_nil] at q1 q2
  simp (disch := omega) only [go_sem, lr, q1, q2, l1, l2]
  refine ⟨Do_call G h' _ p O s c la A ok (l0 _) l1 l2 l3 l4 l5 fun er s' h2 hst post => ?_⟩
  have mv := step_moves ok c
  have ri' := step_ring ok ri c
  rw [hst] at mv ri'
  have A2 := post.adm
  have hl2 := post.len
  simp (disch := omega) only [go_sem]
  refine ⟨Chains_call G p _ s' h2 _ A2 mv.ok fun v h3 rws acc chr => ?_⟩
  have lv := acc.len (P := Tryd.prog) (t := 97) Tryd.und97
  rw [chr.1] at lv
  obtain ⟨t, rfl⟩ := acc.tail
  have A3 := A2.app t
  simp (disch := omega) only [go_sem, lv]
  have step : ∀ (b : Bool) (g : Chg) (v w : AV) (H : AH), Grew (h2 ++ t) H → (b = true → s'.chg = some g ∧ Kept H v g.was.wts ∧ Kept H w g.will.wts) →
      Tryd.r14_l13_40 K h G a0 a1 h5 (.ptr p 0 0 0) (fun m vs h' => ∃ (i : Nat) (s : Adm) (O : Nat → Prop), vs = [.v (.int .i64 i)] ∧ m = 60 - i ∧ AdmOf h' p O s ∧ s.Ok ∧ s.Ring) (60 - i) i s'.chains.length b H.length (H ++ [some (.cells 48 6 [g.cells v w] 0)]) 0 := by
    intro b g v w H hG2 hb
    obtain ⟨u, rfl⟩ := hG2.ex
    have A4 := (A3.app u).app [some (.cells 48 6 [g.cells v w] 0)]
    refine own_keys G hG p _ s' a0 a1 keys _ g v w b (60 - i) i _ h h5 _ K A4 mv.ok ri' hc hl3 hkl (by simp) (fun hbt => ?_) (by omega) (fun ks => ?_)
    · obtain ⟨x1, x2, x3⟩ := hb hbt
      exact ⟨x1, x2.app _, x3.app _⟩
    · exact next_keep (60 - (i + 1)) (by omega) (by simp; omega) ⟨i + 1, s', _, rfl, rfl, A4, mv.ok, ri'⟩
  refine ⟨Change_call G p _ s' _ _ A3 mv.ok (fun hn h4 g4 => ?_) (fun g hg v w h4 g4 kv kw => ?_)⟩
  · simp (disch := omega) only [go_sem]
    exact step false zeroChg nilA nilA h4 g4 (fun h => by cases h)
  · simp (disch := omega) only [go_sem, kv.one, kw.one, kv.cells, kw.cells]
    exact step true g v w h4 g4 (fun _ => ⟨hg, kv, kw⟩)
theorem Tryd.lawAdminOwns {G : Nat → Option AV} (hG : GTab G) (xs ys : List AV) (hx : In Tryd.prog 90 xs) (hy : In Tryd.prog 23 ys) : SCall Tryd.prog G 14 [argA Tryd.prog 90 xs, argA Tryd.prog 23 ys] [] fun v _ => v = .v (.bool true) := by
  obtain ⟨a, rows, rfl, h1, h2, h3⟩ := in_cmds hx
  obtain ⟨b, keys, rfl, _, _, b1, b2, b3, _⟩ := in_texts hy
  rw [argCmds, argTexts]
  exact lawOwns G hG a b rows keys [] _ h1 h2 h3 b1 (by omega) (fun k hk => Nat.le_trans (b3 k hk) (by omega)) fun _ => rfl
end Go.Proofs

/-
  The law: a command that is refused changes nothing that is told.
-/
namespace Go.Proofs
open Go Go.Abs
set_option maxRecDepth 100000
set_option linter.unusedSimpArgs false
/-- A chain's row, by its cells. -/
theorem chRow {h : AH} {v : AV} {rows : List (List AV)} (sl : Sees h 3 v rows) {k : Nat} {c : Chn} {o r : AV} (hr : rows[k]? = some (crow c o r)) :
    ∃ q q0 q1 q2, aIA Tryd.prog h 97 v (.v (.int .i64 (k : Int))) = some q ∧ aFA Tryd.prog 105 0 q = some q0 ∧ Go.Abs.rowAt h q0 = some (crow c o r, 0) ∧ aFA Tryd.prog 105 1 q = some q1 ∧ Go.Abs.rowAt h q1 = some (crow c o r, 1) ∧ aFA Tryd.prog 105 2 q = some q2 ∧ Go.Abs.rowAt h q2 = some (crow c o r, 2) := by
  obtain ⟨q, q1, q2, q3⟩ := sl.iaAll (P := Tryd.prog) (ty := 97) (k := .i64) (i := (k : Int)) (r := crow c o r) Tryd.und97 Tryd.siz105 (by omega) (by simpa using hr)
  obtain ⟨u0, a0, b0⟩ := q3 105 0 0 1 false Tryd.fld105_0 (by decide)
  obtain ⟨u1, a1, b1⟩ := q3 105 1 1 1 false Tryd.fld105_1 (by decide)
  obtain ⟨u2, a2, b2⟩ := q3 105 2 2 1 false Tryd.fld105_2 (by decide)
  have q1 := q1 []
  have b0 := b0 []
  have b1 := b1 []
  have b2 := b2 []
  rw [List.append_nil] at q1 b0 b1 b2
  exact ⟨q, u0, u1, u2, q1, a0, b0, a1, b1, a2, b2⟩
/-- What a command leaves as it is. -/
theorem Post.keeps {h h' : AH} {p bid : Nat} {C W CH : AV} {rows : List (List AV)} {s s' : Adm} (A : AdmAt h p bid C rows W CH s) (hp : Post h p (Own p bid C) s' h') {i : Nat} {e : TypeId} {n g : Nat} {r : List (List AV)} (hi : h[i]? = some (some (AO.cells e n r g))) (h1 : e ≠ 173) (h2 : e ≠ 170) (h3 : e ≠ 105) : h'[i]? = some (some (AO.cells e n r g)) := by
  have ho : ¬ Own p bid C i := by
    intro ho
    rcases ho with rfl | rfl | ⟨g', o', l', c', rfl⟩
    · exact apart hi A.obj h1 rfl
    · exact apart hi A.bri h2 rfl
    · rcases A.sl with ⟨x1, _⟩ | ⟨id, g2, x1, x3⟩
      · cases x1
      · cases x1
        exact apart hi x3 h3 rfl
  rw [hp.fr i (List.getElem?_eq_some_iff.mp hi).1 ho]; exact hi
theorem same_chains (G : Nat → Option AV) (a1 a2 v6 v25 v53 : AV) (rw1 rw2 : List (List AV)) (s : Adm) (ok : s.Ok) (m16 n18 : Nat) (I14 : Nat → List AV → AH → Prop) (h h5 H : AH) (K : AV → AH → Prop) (c1 : ChSl H v53 rw1) (d1 : ChRows H rw1 s.chains) (c2 : ChSl H v25 rw2) (d2 : ChRows H rw2 s.chains) (hn : n18 ≤ 80)
    (hk2 : ∀ ks, nextR h5 I14 m16 ks ks [.v (.int .i64 (n18 + 1 : Nat))] H) :
    Tryd.r15_l22_113 K h G a1 a2 h5 v6 I14 m16 n18 v25 v53 H s.chains.length 0 := by
  unfold Tryd.r15_l22_113
  refine ⟨fun m vs h' => ∃ k : Nat, k ≤ s.chains.length ∧ m = s.chains.length - k ∧ h' = H ∧ vs = [.v (.int .i64 k)], s.chains.length, ⟨0, by omega, rfl, rfl, rfl⟩, ?_⟩
  rintro m h' hl1 hlow2 n ⟨k, hk1', rfl, rfl, hvs⟩
  simp only [List.cons.injEq, AV.v.injEq, Value.int.injEq, true_and, and_true] at hvs
  obtain rfl := hvs
  have hnc := ok.nc
  have ew : IntKind.i64.wrap ((n18 : Int) + 1) = ((n18 + 1 : Nat) : Int) := by rw [wrap64_of (by omega) (by omega)]; omega
  by_cases hkk : k < s.chains.length
  rotate_left
  · simp (disch := omega) only [go_sem, ew]
    exact hk2 _
  obtain ⟨c, hc⟩ : ∃ c, s.chains[k]? = some c := ⟨_, List.getElem?_eq_getElem hkk⟩
  obtain ⟨o, r, g1, g2, g3⟩ := d1.2 k c hc
  obtain ⟨o', r', g1', g2', g3'⟩ := d2.2 k c hc
  obtain ⟨q, q0, q1, q2, e1, e2, e3, e4, e5, e6, e7⟩ := chRow (c1.sees d1) g1
  obtain ⟨p, p0, p1, p2, f1, f2, f3, f4, f5, f6, f7⟩ := chRow (c2.sees d2) g1'
  have ew2 : IntKind.i64.wrap ((k : Int) + 1) = ((k + 1 : Nat) : Int) := by rw [wrap64_of (by omega) (by omega)]; omega
  have hln := chain_len ok hc
  have hep := ok.ep c (List.mem_of_getElem? hc)
  simp (disch := omega) only [go_sem, e1, e2, e3, e4, e5, e6, e7, f1, f2, f3, f4, f5, f6, f7]
  refine ⟨SameInts_call G o o' c.ord c.ord _ _ g2.ints g2'.ints (by omega) ?_⟩
  simp (disch := omega) only [go_sem, beq_self_eq_true, e1, e2, e3, e4, e5, e6, e7, f1, f2, f3, f4, f5, f6, f7]
  refine ⟨SameInts_call G r r' c.rep c.rep _ _ g3.ints g3'.ints (by omega) ?_⟩
  simp (disch := omega) only [go_sem, beq_self_eq_true, ew2]
  exact next_keep (s.chains.length - (k + 1)) (by omega) (Nat.le_refl _) ⟨k + 1, by omega, rfl, rfl, rfl⟩
theorem Change_callB (G : Nat → Option AV) (p : Nat) (O : Nat → Prop) (s : Adm) (h : AH) (K : AV → AH → Prop) (a : AdmOf h p O s) (ok : s.Ok)
    (hk : ∀ g v w h', Grew h h' → v.one = true → v.cells = [v] → w.one = true → w.cells = [w] → K (.tup [.agg (Chg.cells g v w), .v (.bool s.chg.isSome)]) h') : SCall Tryd.prog G 64 [.ptr p 0 0 0] h K := by
  refine Change_call G p O s h K a ok (fun hn h' g => ?_) (fun c hc v w h' g kv kw => ?_)
  · have := hk zeroChg nilA nilA h' g rfl rfl rfl rfl
    rw [hn] at this
    exact this
  · have := hk c v w h' g kv.one kv.cells kw.one kw.cells
    rw [hc] at this
    exact this
theorem lawRefuses (G : Nat → Option AV) (hG : GTab G) (n : Int) (a1 : AV) (rows : List (List AV)) (key : List UInt8) (h : AH) (K : AV → AH → Prop) (ha : ∀ h, Sees h 6 a1 rows) (hrl : rows.length ≤ 2000000000000)
    (hr : ∀ r ∈ rows, ∃ c la, r = CmdA.cells c la ∧ (∀ h, Ints h la c.list) ∧ la.one = true ∧ la.cells = [la] ∧ (∀ r f, la ≠ .lst r f false) ∧ c.list.length ≤ 17592186044416 ∧ c.cur.length ≤ 4611686018427387904)
    (hkl : key.length ≤ 4611686018427387904)
    (hk : ∀ h', K (.v (.bool true)) h') (N : Nat) (hN : 1 ≤ N ∧ N ≤ 16) (eN : IntKind.wrap .i64 (1 + IntKind.wrap .i64 (Int.tmod (IntKind.wrap .u64 n) 16)) = N) : SCall Tryd.prog G 15 [.v (.int .i64 n), a1, .v (.string (bs key))] h K := by
  refine Tryd.c15 G _ _ _ h K fun hlow => ?_
  unfold Tryd.r15
  have lr : ∀ h, aLen Tryd.prog h 90 a1 = some (.v (.int .i64 rows.length)) := fun h => (ha h).len (P := Tryd.prog) (t := 90) Tryd.und90
  refine ⟨works18_call G h _ ?_⟩
  simp (disch := omega) only [go_sem]
  rw [eN]
  refine ⟨New_call G N hN h _ ?_⟩
  intro p h5 e hp A
  simp (disch := omega) only [go_sem, pe1 Tryd.und91]
  unfold Tryd.r15_l8_14
  refine ⟨fun m vs h' => ∃ (i : Nat) (s : Adm) (O : Nat → Prop), vs = [.v (.int .i64 i)] ∧ m = 80 - i ∧ AdmOf h' p O s ∧ s.Ok, 80, ⟨0, _, _, rfl, rfl, A, New_ok N hN⟩, ?_⟩
  rintro m h' hl1 hlow2 n' ⟨i, s, O, hvs, rfl, A, ok⟩
  simp only [List.cons.injEq, AV.v.injEq, Value.int.injEq, true_and, and_true] at hvs
  obtain rfl := hvs
  by_cases hi : i < rows.length
  rotate_left
  · simp (disch := omega) only [go_sem, lr]
    exact ret_keep (hk _)
  by_cases hi2 : i < 80
  rotate_left
  · simp (disch := omega) only [go_sem, lr]
    exact ret_keep (hk _)
  obtain ⟨row, hrow⟩ : ∃ row, rows[i]? = some row := ⟨_, List.getElem?_eq_getElem hi⟩
  obtain ⟨c, la, rfl, l0, l1, l2, l3, l4, l5⟩ := hr row (List.mem_of_getElem? hrow)
  have hwl := ok.wts
  have hnc := ok.nc
  obtain ⟨bid, C, crows, W, CH, A0, _⟩ := A
  have AO : ∀ {H : AH}, Grew h' H → AdmOf H p (Own p bid C) s := fun g => by obtain ⟨t, rfl⟩ := g.ex; exact ⟨bid, C, crows, W, CH, A0.app t, fun _ h => h⟩
  have ew : IntKind.i64.wrap ((i : Int) + 1) = ((i + 1 : Nat) : Int) := by rw [wrap64_of (by omega) (by omega)]; omega
  simp (disch := omega) only [go_sem, lr]
  -- what is told ahead
  refine ⟨Chains_call G p _ s h' _ (AO ⟨[], by simp⟩) ok fun v25 H1 rws1 acc1 chr1 => ?_⟩
  have g1 : Grew h' H1 := by obtain ⟨t, rfl⟩ := acc1.tail; exact .app t
  obtain ⟨S1, id1⟩ := AccR.chSl acc1
  simp (disch := omega) only [go_sem]
  refine ⟨Layout_call G p _ s H1 _ (AO g1) ok fun v27 H2 g2 kv27 => ?_⟩
  simp (disch := omega) only [go_sem, kv27.one, kv27.cells]
  have g3 : Grew h' (H2 ++ [some (.cells 45 2 [s.lay.cells v27] 0)]) := (g1.trans g2).trans (.app _)
  refine ⟨Change_callB G p _ s _ _ (AO g3) ok fun x1 y1 z1 H4 g4 o1 o2 o3 o4 => ?_⟩
  simp (disch := omega) only [go_sem, o1, o2, o3, o4]
  have g5 : Grew h' (H4 ++ [some (.cells 48 6 [x1.cells y1 z1] 0)]) := (g3.trans g4).trans (.app _)
  have i31 := (g4.trans (.app [some (.cells 48 6 [x1.cells y1 z1] 0)])).get (i := H2.length) (o := some (.cells 45 2 [s.lay.cells v27] 0)) (by simp)
  have k27 := ((kv27.app [some (.cells 45 2 [s.lay.cells v27] 0)]).grew g4).app [some (.cells 48 6 [x1.cells y1 z1] 0)]
  have gS : Grew H1 (H4 ++ [some (.cells 48 6 [x1.cells y1 z1] 0)]) := ((g2.trans (.app _)).trans g4).trans (.app _)
  refine ⟨adOwner_call G hG p _ s key _ _ (AO g5) ok hkl ?_⟩
  generalize hH5 : H4 ++ [some (.cells 48 6 [x1.cells y1 z1] 0)] = H5 at *
  obtain ⟨q, q1, q2, _⟩ := (ha H5).iaAll (P := Tryd.prog) (ty := 90) (k := .i64) (i := i) (r := c.cells la) Tryd.und90 Tryd.siz96 (by omega) (by simpa using hrow)
  have q1 := q1 []
  have q2 := q2 []
  rw [List.append_nil] at q1 q2
  simp (disch := omega) only [go_sem, q1, q2, l1, l2]
  have A5 : AdmAt H5 p bid C crows W CH s := by obtain ⟨t, rfl⟩ := g5.ex; exact A0.app t
  refine ⟨Do_call G H5 _ p _ s c la (AO g5) ok (l0 _) l1 l2 l3 l4 l5 fun er s' H6 hst post => ?_⟩
  have mv := step_moves ok c
  rw [hst] at mv
  have hl5 := g5.len
  have hl6 := post.len
  by_cases he : er = 0
  · simp (disch := omega) only [go_sem, ew]
    exact next_keep (80 - (i + 1)) (by omega) (by omega) ⟨i + 1, s', _, rfl, rfl, post.adm, mv.ok⟩
  obtain rfl : s' = s := mv.same he
  obtain ⟨bid6, C6, crows6, W6, CH6, A6, _⟩ := post.adm
  have AO6 : ∀ {H : AH}, Grew H6 H → AdmOf H p (Own p bid6 C6) s' := fun g => by obtain ⟨t, rfl⟩ := g.ex; exact ⟨bid6, C6, crows6, W6, CH6, A6.app t, fun _ h => h⟩
  have kp6 : Kp H5 H6 := fun j r g hj => Post.keeps A5 post hj (by decide) (by decide) (by decide)
  have S6 : ChSl H6 v25 rws1 := by
    rcases S1 with h1 | ⟨id, g, h1, h3⟩
    · exact .inl h1
    · have h4 := gS.get h3
      refine .inr ⟨id, g, h1, ?_⟩
      rw [post.fr id (List.getElem?_eq_some_iff.mp h4).1 fun ho => ?_]
      · exact h4
      · have x1 := ownLt A0 ho
        have x2 := id1 _ _ _ _ _ h1
        omega
  have R6 : ChRows H6 rws1 s'.chains := by
    have : ChRows H5 rws1 s'.chains := by obtain ⟨t, rfl⟩ := gS.ex; exact chr1.keep (Kp.app t)
    exact this.keep kp6
  have i31' := Post.keeps A5 post i31 (by decide) (by decide) (by decide)
  have k27' := k27.keep kp6
  simp (disch := omega) only [go_sem]
  -- what is told behind
  refine ⟨Chains_call G p _ s' H6 _ (AO6 ⟨[], by simp⟩) ok fun v53 H7 rws2 acc2 chr2 => ?_⟩
  have g7 : Grew H6 H7 := by obtain ⟨t, rfl⟩ := acc2.tail; exact .app t
  obtain ⟨S7, id7⟩ := AccR.chSl acc2
  simp (disch := omega) only [go_sem]
  refine ⟨Layout_call G p _ s' H7 _ (AO6 g7) ok fun v55 H8 g8 kv55 => ?_⟩
  simp (disch := omega) only [go_sem, kv55.one, kv55.cells]
  have g9 : Grew H6 (H8 ++ [some (.cells 45 2 [s'.lay.cells v55] 0)]) := (g7.trans g8).trans (.app _)
  refine ⟨Change_callB G p _ s' _ _ (AO6 g9) ok fun x2 y2 z2 H10 g10 u1 u2 u3 u4 => ?_⟩
  simp (disch := omega) only [go_sem, u1, u2, u3, u4]
  have g11 : Grew H6 (H10 ++ [some (.cells 48 6 [x2.cells y2 z2] 0)]) := (g9.trans g10).trans (.app _)
  refine ⟨adOwner_call G hG p _ s' key _ _ (AO6 g11) ok hkl ?_⟩
  have i59 := (g10.trans (.app [some (.cells 48 6 [x2.cells y2 z2] 0)])).get (i := H8.length) (o := some (.cells 45 2 [s'.lay.cells v55] 0)) (by simp)
  have k55 := ((kv55.app [some (.cells 45 2 [s'.lay.cells v55] 0)]).grew g10).app [some (.cells 48 6 [x2.cells y2 z2] 0)]
  have gT : Grew H7 (H10 ++ [some (.cells 48 6 [x2.cells y2 z2] 0)]) := ((g8.trans (.app _)).trans g10).trans (.app _)
  have i31'' := g11.get i31'
  have k27'' := k27'.grew g11
  generalize hH11 : H10 ++ [some (.cells 48 6 [x2.cells y2 z2] 0)] = H11 at *
  have S11 : ChSl H11 v25 rws1 := by
    rcases S6 with h1 | ⟨id, g, h1, h3⟩
    · exact .inl h1
    · exact .inr ⟨id, g, h1, g11.get h3⟩
  have R11 : ChRows H11 rws1 s'.chains := by obtain ⟨t, rfl⟩ := g11.ex; exact R6.keep (Kp.app t)
  have S12 : ChSl H11 v53 rws2 := by
    rcases S7 with h1 | ⟨id, g, h1, h3⟩
    · exact .inl h1
    · exact .inr ⟨id, g, h1, gT.get h3⟩
  have R12 : ChRows H11 rws2 s'.chains := by obtain ⟨t, rfl⟩ := gT.ex; exact chr2.keep (Kp.app t)
  have lv1 := (S11.sees R11).len (P := Tryd.prog) (t := 97) Tryd.und97
  rw [R11.1] at lv1
  have lv2 := (S12.sees R12).len (P := Tryd.prog) (t := 97) Tryd.und97
  rw [R12.1] at lv2
  have gl31 := (List.getElem?_eq_some_iff.mp i31'').1
  have gl59 := (List.getElem?_eq_some_iff.mp i59).1
  have nb : ∀ b, aBin Tryd.prog .neq 4 (.v (.bool b)) (.v (.bool b)) = some (.v (.bool false)) := by intro b; cases b <;> kernel_rfl
  simp (disch := omega) only [go_sem, lv1, lv2, i31'', i59, k27''.one, k27''.cells, k55.one, k55.cells]
  refine ⟨sameLayout_call G s'.lay s'.lay v27 v55 _ _ k27''.wt k55.wt (by omega) ?_⟩
  have hsame : s'.lay.same s'.lay = true := by unfold Lay.same; simp
  rw [hsame]
  generalize s'.chg.isSome = bb
  simp (disch := omega) only [go_sem, lv1, lv2, nb]
  refine same_chains G a1 _ _ v25 v53 rws2 rws1 s' ok (80 - i) i _ h h5 H11 K S12 R12 S11 R11 (by omega) fun ks => ?_
  have hl11 := g11.len
  exact next_keep (80 - (i + 1)) (by omega) (by omega) ⟨i + 1, s', _, rfl, rfl, AO6 g11, ok⟩
/-- The number of bricks that the laws take. -/
theorem bricksN (n : Int) : ∃ N : Nat, (1 ≤ N ∧ N ≤ 16) ∧ IntKind.wrap .i64 (1 + IntKind.wrap .i64 (Int.tmod (IntKind.wrap .u64 n) 16)) = N := by
  have hu0 : 0 ≤ IntKind.wrap .u64 n := by simp [IntKind.wrap, IntKind.bits, IntKind.signed]; omega
  obtain ⟨k, hk⟩ : ∃ k : Nat, IntKind.wrap .u64 n = k := ⟨(IntKind.wrap .u64 n).toNat, by omega⟩
  have hm : Int.tmod (k : Int) 16 = ((k % 16 : Nat) : Int) := by rw [Int.ofNat_tmod]; rfl
  have w1 : IntKind.wrap .i64 (Int.tmod (k : Int) 16) = ((k % 16 : Nat) : Int) := by rw [hm]; exact wrap64_of (by omega) (by omega)
  refine ⟨1 + k % 16, by omega, ?_⟩
  rw [hk, w1, wrap64_of (by omega) (by omega)]
  omega
theorem Tryd.lawAdminRefuses {G : Nat → Option AV} (hG : GTab G) (xs ys zs : List AV) (hx : In Tryd.prog 3 xs) (hy : In Tryd.prog 90 ys) (hz : In Tryd.prog 9 zs) : SCall Tryd.prog G 15 [argA Tryd.prog 3 xs, argA Tryd.prog 90 ys, argA Tryd.prog 9 zs] [] fun v _ => v = .v (.bool true) := by
  obtain ⟨n, rfl, _⟩ := in_int Tryd.und3 hx
  obtain ⟨a, rows, rfl, h1, h2, h3⟩ := in_cmds hy
  obtain ⟨s, rfl, hs⟩ := in_str Tryd.und9 hz
  have hr : reachBytes = 140737488351232 + 0 := by decide
  have h9 : s.data.toList.length = s.size := rfl
  obtain ⟨N, hN, eN⟩ := bricksN n
  rw [argInt, argCmds, argText]
  exact lawRefuses G hG n a rows s.data.toList [] _ h1 h2 h3 (by omega) (fun _ => rfl) N hN eN
end Go.Proofs

/-
  The law: two admins that do the same commands are alike.
-/
namespace Go.Proofs
open Go Go.Abs
set_option maxRecDepth 100000
set_option linter.unusedSimpArgs false
theorem wf64 {n : Int} (h : (Lit.int .i64 n).wf = true) : I64 n := by
  simp only [Lit.wf, Bool.and_eq_true, decide_eq_true_eq] at h
  have e1 : IntKind.i64.min = -9223372036854775808 := by decide
  have e2 : IntKind.i64.max = 9223372036854775807 := by decide
  rw [e1, e2] at h
  exact h
theorem in64 {n : Int} (h : In Tryd.prog 3 [.v (.int .i64 n)]) : I64 n := by
  obtain ⟨m, h1, h2⟩ := in_int Tryd.und3 h
  simp only [List.cons.injEq, AV.v.injEq, Value.int.injEq, true_and, and_true] at h1
  rw [h1]; exact wf64 h2
theorem ints_range {la : AV} {l : List Int} (hx : In Tryd.prog 22 [la]) (hl : ∀ h, Ints h la l) : ∀ x ∈ l, I64 x := by
  intro x hm
  rcases in_slice Tryd.und22 hx with h | ⟨rows, h, _, h2, _⟩
  · simp only [List.cons.injEq, and_true] at h
    subst h
    rcases (hl []).2 with ⟨_, h2⟩ | ⟨_, _, h1⟩ | ⟨_, _, _, _, _, _, h1, _⟩
    · simp at h2; subst h2; cases hm
    · cases h1
    · cases h1
  · simp only [List.cons.injEq, and_true] at h
    subst h
    rcases (hl []).2 with ⟨h1, _⟩ | ⟨_, _, h1⟩ | ⟨_, _, _, _, _, _, h1, _⟩
    · cases h1
    · cases h1
      exact in64 (h2 (irow x) (List.mem_map.mpr ⟨x, hm, rfl⟩))
    · cases h1
theorem cmd_range {c : CmdA} {la : AV} (hx : In Tryd.prog 96 (CmdA.cells c la)) (hl : ∀ h, Ints h la c.list) : (I64 c.kind ∧ I64 c.chain ∧ I64 c.brick ∧ I64 c.epoch) ∧ ∀ x ∈ c.list, I64 x := by
  obtain ⟨_, hf⟩ := in_struct Tryd.und96 hx
  have c3 : Tryd.prog.cellsOf 3 = 1 := by kernel_rfl
  have c31 : Tryd.prog.cellsOf 22 = 1 := by kernel_rfl
  have c9 : Tryd.prog.cellsOf 9 = 1 := by kernel_rfl
  simp only [List.mem_cons, List.not_mem_nil, or_false, forall_eq_or_imp, forall_eq, c3, c31, c9, List.drop_zero, List.drop_succ_cons, List.take_succ_cons, List.take_zero] at hf
  obtain ⟨f0, f1, f2, f3, f4, f5⟩ := hf
  exact ⟨⟨in64 f0, in64 f1, in64 f2, in64 f3⟩, ints_range f4 hl⟩
theorem in_cmds64 {xs : List AV} (hx : In Tryd.prog 90 xs) : ∃ a rows, xs = [a] ∧ (∀ h, Sees h 6 a rows) ∧ rows.length ≤ 2000000000000 ∧
    (∀ r ∈ rows, ∃ c la, r = CmdA.cells c la ∧ (∀ h, Ints h la c.list) ∧ la.one = true ∧ la.cells = [la] ∧ (∀ r f, la ≠ .lst r f false) ∧ c.list.length ≤ 17592186044416 ∧ c.cur.length ≤ 4611686018427387904 ∧ (I64 c.kind ∧ I64 c.chain ∧ I64 c.brick ∧ I64 c.epoch) ∧ ∀ x ∈ c.list, I64 x) := by
  rcases in_slice Tryd.und90 hx with rfl | ⟨rows, rfl, h1, h2, h3, h4⟩
  · exact ⟨_, [], rfl, fun h => Sees.nil, by simp, by simp⟩
  · have hb : Tryd.prog.bytesOf 96 = 72 := by kernel_rfl
    have hr : reachBytes = 140737488351232 + 0 := by decide
    rw [hb] at h3
    refine ⟨_, rows, rfl, fun h => Sees.lst fun r hm => ?_, by omega, fun r hm => ?_⟩
    · rw [h1 r hm]; kernel_rfl
    · have hI := h2 r hm
      obtain ⟨c, la, g1, g2, g3, g4, g5, g6, g7, _⟩ := in_cmdB hI
      subst g1
      obtain ⟨k1, k2⟩ := cmd_range hI g2
      exact ⟨c, la, rfl, g2, g3, g4, g5, g6, g7, k1, k2⟩
theorem Post.keeps1 {h h' : AH} {p bid : Nat} {C W CH : AV} {rows : List (List AV)} {s s' : Adm} (A : AdmAt h p bid C rows W CH s) (hp : Post h p (Own p bid C) s' h') {i : Nat} {e : TypeId} {g : Nat} {r : List (List AV)} (hi : h[i]? = some (some (AO.cells e 1 r g))) : h'[i]? = some (some (AO.cells e 1 r g)) := by
  have ho : ¬ Own p bid C i := by
    intro ho
    rcases ho with rfl | rfl | ⟨g', o', l', c', rfl⟩
    · have := A.obj.symm.trans hi; simp at this
    · have := A.bri.symm.trans hi; simp at this
    · rcases A.sl with ⟨x1, _⟩ | ⟨id, g2, x1, x3⟩
      · cases x1
      · cases x1
        have := x3.symm.trans hi; simp at this
  rw [hp.fr i (List.getElem?_eq_some_iff.mp hi).1 ho]; exact hi
theorem AdmAt.frame {h h' : AH} {p1 bid1 p2 bid2 : Nat} {C1 W1 CH1 C2 W2 CH2 : AV} {r1 r2 : List (List AV)} {s1 s' s2 : Adm} (A1 : AdmAt h p1 bid1 C1 r1 W1 CH1 s1) (hp : Post h p1 (Own p1 bid1 C1) s' h') (A2 : AdmAt h p2 bid2 C2 r2 W2 CH2 s2) (dis : ∀ i, Own p1 bid1 C1 i → ¬ Own p2 bid2 C2 i) : AdmAt h' p2 bid2 C2 r2 W2 CH2 s2 := by
  have kp : Kp h h' := fun j r g hj => Post.keeps A1 hp hj (by decide) (by decide) (by decide)
  refine ⟨?_, ?_, ?_, A2.ch.keep kp, A2.wts.keep kp, ?_⟩
  · rw [hp.fr p2 (List.getElem?_eq_some_iff.mp A2.obj).1 fun o => dis _ o (.inl rfl)]; exact A2.obj
  · rw [hp.fr bid2 (List.getElem?_eq_some_iff.mp A2.bri).1 fun o => dis _ o (.inr (.inl rfl))]; exact A2.bri
  · rcases A2.sl with h1 | ⟨id, g, h1, h2⟩
    · exact .inl h1
    · refine .inr ⟨id, g, h1, ?_⟩
      rw [hp.fr id (List.getElem?_eq_some_iff.mp h2).1 fun o => dis _ o (.inr (.inr ⟨_, _, _, _, h1⟩))]; exact h2
  · have hc := A2.chg
    cases hs : s2.chg with
    | none => rw [hs] at hc; exact hc
    | some c =>
      rw [hs] at hc
      obtain ⟨x, V1, V2, g1, g2, g3, g4⟩ := hc
      exact ⟨x, V1, V2, g1, Post.keeps A1 hp g2 (by decide) (by decide) (by decide), g3.keep kp, g4.keep kp⟩
/-- Two admins that are alike, apart. -/
def Two (h : AH) (p1 p2 : Nat) (s : Adm) : Prop := ∃ bid1 C1 r1 W1 CH1 bid2 C2 r2 W2 CH2, AdmAt h p1 bid1 C1 r1 W1 CH1 s ∧ AdmAt h p2 bid2 C2 r2 W2 CH2 s ∧ ∀ i, Own p1 bid1 C1 i → ¬ Own p2 bid2 C2 i
theorem Two.grew {h h' : AH} {p1 p2 : Nat} {s : Adm} (t : Two h p1 p2 s) (g : Grew h h') : Two h' p1 p2 s := by
  obtain ⟨b1, C1, r1, W1, CH1, b2, C2, r2, W2, CH2, A1, A2, d⟩ := t
  obtain ⟨u, rfl⟩ := g.ex
  exact ⟨b1, C1, r1, W1, CH1, b2, C2, r2, W2, CH2, A1.app u, A2.app u, d⟩
theorem Two.fst {h : AH} {p1 p2 : Nat} {s : Adm} (t : Two h p1 p2 s) : AdmOf h p1 (fun _ => True) s := by
  obtain ⟨b1, C1, r1, W1, CH1, b2, C2, r2, W2, CH2, A1, A2, d⟩ := t
  exact ⟨b1, C1, r1, W1, CH1, A1, fun _ _ => trivial⟩
theorem Two.snd {h : AH} {p1 p2 : Nat} {s : Adm} (t : Two h p1 p2 s) : AdmOf h p2 (fun _ => True) s := by
  obtain ⟨b1, C1, r1, W1, CH1, b2, C2, r2, W2, CH2, A1, A2, d⟩ := t
  exact ⟨b2, C2, r2, W2, CH2, A2, fun _ _ => trivial⟩
theorem alike_chains (G : Nat → Option AV) (a1 a2 v6 v10 v71 v73 : AV) (rw1 rw2 : List (List AV)) (s : Adm) (ok : s.Ok) (m30 n32 : Nat) (I28 : Nat → List AV → AH → Prop) (h h9 H : AH) (K : AV → AH → Prop) (c1 : ChSl H v71 rw1) (d1 : ChRows H rw1 s.chains) (c2 : ChSl H v73 rw2) (d2 : ChRows H rw2 s.chains) (hn : n32 ≤ 80)
    (hk2 : ∀ ks, nextR h9 I28 m30 ks ks [.v (.int .i64 (n32 + 1 : Nat))] H) :
    Tryd.r16_l25_94 K h G a1 a2 v6 h9 v10 I28 m30 n32 v71 v73 H s.chains.length 0 := by
  unfold Tryd.r16_l25_94
  refine ⟨fun m vs h' => ∃ k : Nat, k ≤ s.chains.length ∧ m = s.chains.length - k ∧ h' = H ∧ vs = [.v (.int .i64 k)], s.chains.length, ⟨0, by omega, rfl, rfl, rfl⟩, ?_⟩
  rintro m h' hl1 hlow2 n ⟨k, hk1', rfl, rfl, hvs⟩
  simp only [List.cons.injEq, AV.v.injEq, Value.int.injEq, true_and, and_true] at hvs
  obtain rfl := hvs
  have hnc := ok.nc
  have ew : IntKind.i64.wrap ((n32 : Int) + 1) = ((n32 + 1 : Nat) : Int) := by rw [wrap64_of (by omega) (by omega)]; omega
  by_cases hkk : k < s.chains.length
  rotate_left
  · simp (disch := omega) only [go_sem, ew]
    exact hk2 _
  obtain ⟨c, hc⟩ : ∃ c, s.chains[k]? = some c := ⟨_, List.getElem?_eq_getElem hkk⟩
  obtain ⟨o, r, g1, g2, g3⟩ := d1.2 k c hc
  obtain ⟨o', r', g1', g2', g3'⟩ := d2.2 k c hc
  obtain ⟨q, q0, q1, q2, e1, e2, e3, e4, e5, e6, e7⟩ := chRow (c1.sees d1) g1
  obtain ⟨p, p0, p1, p2, f1, f2, f3, f4, f5, f6, f7⟩ := chRow (c2.sees d2) g1'
  have ew2 : IntKind.i64.wrap ((k : Int) + 1) = ((k + 1 : Nat) : Int) := by rw [wrap64_of (by omega) (by omega)]; omega
  have hln := chain_len ok hc
  simp (disch := omega) only [go_sem, e1, e2, e3, e4, e5, e6, e7, f1, f2, f3, f4, f5, f6, f7]
  refine ⟨SameInts_call G o o' c.ord c.ord _ _ g2.ints g2'.ints (by omega) ?_⟩
  simp (disch := omega) only [go_sem, beq_self_eq_true, e1, e2, e3, e4, e5, e6, e7, f1, f2, f3, f4, f5, f6, f7]
  refine ⟨SameInts_call G r r' c.rep c.rep _ _ g3.ints g3'.ints (by omega) ?_⟩
  simp (disch := omega) only [go_sem, beq_self_eq_true, ew2]
  exact next_keep (s.chains.length - (k + 1)) (by omega) (Nat.le_refl _) ⟨k + 1, by omega, rfl, rfl, rfl⟩
theorem alike_do (G : Nat → Option AV) (hG : GTab G) (a1 : AV) (rows : List (List AV)) (key : List UInt8) (p1 p2 : Nat) (s : Adm) (c : CmdA) (la lb : AV) (i47 : Nat) (m30 n32 : Nat) (I28 : Nat → List AV → AH → Prop) (h h9 H : AH) (K : AV → AH → Prop) (ha : ∀ h, Sees h 6 a1 rows) (hrow : rows[n32]? = some (c.cells la)) (hkl : key.length ≤ 4611686018427387904)
    (l0 : ∀ h, Ints h la c.list) (l1 : la.one = true) (l2 : la.cells = [la]) (l3 : ∀ r f, la ≠ .lst r f false) (l4 : c.list.length ≤ 17592186044416) (l5 : c.cur.length ≤ 4611686018427387904)
    (go : H[i47]? = some (some (.cells 96 6 [c.cells lb] 0))) (b0 : Ints H lb c.list) (b1 : lb.one = true) (b2 : lb.cells = [lb]) (b3 : ∀ r f, lb ≠ .lst r f false)
    (two : Two H p1 p2 s) (ok : s.Ok) (hn : n32 ≤ 80)
    (hk2 : ∀ s' H', H.length ≤ H'.length → Two H' p1 p2 s' → s'.Ok → ∀ ks, nextR h9 I28 m30 ks ks [.v (.int .i64 (n32 + 1 : Nat))] H') :
    Tryd.r16_j52 G h K a1 (.v (.string (bs key))) (.ptr p1 0 0 0) h9 (.ptr p2 0 0 0) I28 m30 n32 i47 H := by
  unfold Tryd.r16_j52
  obtain ⟨bid1, C1, r1, W1, CH1, bid2, C2, r2, W2, CH2, A1, A2, dis⟩ := two
  obtain ⟨q, q1, q2, _⟩ := (ha H).iaAll (P := Tryd.prog) (ty := 90) (k := .i64) (i := n32) (r := c.cells la) Tryd.und90 Tryd.siz96 (by omega) (by simpa using hrow)
  have q1 := q1 []
  have q2 := q2 []
  rw [List.append_nil] at q1 q2
  simp (disch := omega) only [go_sem, q1, q2, l1, l2, go, b1, b2]
  refine ⟨Do_call G H _ p1 _ s c la ⟨bid1, C1, r1, W1, CH1, A1, fun _ h => h⟩ ok (l0 _) l1 l2 l3 l4 l5 fun er s' H1 hst post => ?_⟩
  have mv := step_moves ok c
  rw [hst] at mv
  have A2' := A1.frame post A2 dis
  have go' := Post.keeps A1 post go (by decide) (by decide) (by decide)
  have b0' : Ints H1 lb c.list := Ints.keep1 (fun i e rs g hi => Post.keeps1 A1 post hi) b0
  have hl1 := post.len
  simp (disch := omega) only [go_sem, go', b1, b2]
  refine ⟨Do_call G H1 _ p2 _ s c lb ⟨bid2, C2, r2, W2, CH2, A2', fun _ h => h⟩ ok b0' b1 b2 b3 l4 l5 fun er2 s2 H2 hst2 post2 => ?_⟩
  rw [hst] at hst2
  obtain ⟨rfl, rfl⟩ := Prod.mk.inj hst2
  have hl2 := post2.len
  obtain ⟨bid1', C1', r1', W1', CH1', A1', own1⟩ := post.adm
  have dis2 : ∀ i, Own p2 bid2 C2 i → ¬ Own p1 bid1' C1' i := by
    intro i h1 h2
    rcases own1 i h2 with h3 | h3
    · exact dis i h3 h1
    · have := ownLt A2 h1; omega
  have A1'' := A2'.frame post2 A1' dis2
  obtain ⟨bid2', C2', r2', W2', CH2', A2'', own2⟩ := post2.adm
  have two2 : Two H2 p1 p2 s' := ⟨bid1', C1', r1', W1', CH1', bid2', C2', r2', W2', CH2', A1'', A2'', fun i h1 h2 => by
    rcases own2 i h2 with h3 | h3
    · exact dis2 i h3 h1
    · have := ownLt A1' h1; omega⟩
  simp (disch := omega) only [go_sem]
  refine ⟨adOwner_call G hG p1 _ s' key _ _ two2.fst mv.ok hkl ?_⟩
  simp (disch := omega) only [go_sem]
  refine ⟨adOwner_call G hG p2 _ s' key _ _ two2.snd mv.ok hkl ?_⟩
  simp (disch := omega) only [go_sem]
  refine ⟨Chains_call G p1 _ s' H2 _ two2.fst mv.ok fun v71 H3 rws1 acc1 chr1 => ?_⟩
  have g1 : Grew H2 H3 := by obtain ⟨t, rfl⟩ := acc1.tail; exact .app t
  obtain ⟨S1, _⟩ := AccR.chSl acc1
  simp (disch := omega) only [go_sem]
  refine ⟨Chains_call G p2 _ s' H3 _ (two2.grew g1).snd mv.ok fun v73 H4 rws2 acc2 chr2 => ?_⟩
  have g2 : Grew H3 H4 := by obtain ⟨t, rfl⟩ := acc2.tail; exact .app t
  obtain ⟨S2, _⟩ := AccR.chSl acc2
  have S1' : ChSl H4 v71 rws1 := by
    rcases S1 with h1 | ⟨id, g, h1, h3⟩
    · exact .inl h1
    · exact .inr ⟨id, g, h1, g2.get h3⟩
  have R1' : ChRows H4 rws1 s'.chains := by obtain ⟨t, rfl⟩ := g2.ex; exact chr1.keep (Kp.app t)
  have lv1 := (S1'.sees R1').len (P := Tryd.prog) (t := 97) Tryd.und97
  rw [R1'.1] at lv1
  have lv2 := (S2.sees chr2).len (P := Tryd.prog) (t := 97) Tryd.und97
  rw [chr2.1] at lv2
  simp (disch := omega) only [go_sem, lv1, lv2]
  have gl := (g1.trans g2).len
  exact alike_chains G a1 _ _ _ v71 v73 rws1 rws2 s' mv.ok m30 n32 I28 h h9 H4 K S1' R1' S2 chr2 hn fun ks => hk2 s' H4 (by omega) (two2.grew (g1.trans g2)) mv.ok ks
theorem lawAlike (G : Nat → Option AV) (hG : GTab G) (n : Int) (a1 : AV) (rows : List (List AV)) (key : List UInt8) (h : AH) (K : AV → AH → Prop) (ha : ∀ h, Sees h 6 a1 rows) (hrl : rows.length ≤ 2000000000000)
    (hr : ∀ r ∈ rows, ∃ c la, r = CmdA.cells c la ∧ (∀ h, Ints h la c.list) ∧ la.one = true ∧ la.cells = [la] ∧ (∀ r f, la ≠ .lst r f false) ∧ c.list.length ≤ 17592186044416 ∧ c.cur.length ≤ 4611686018427387904 ∧ (I64 c.kind ∧ I64 c.chain ∧ I64 c.brick ∧ I64 c.epoch) ∧ ∀ x ∈ c.list, I64 x)
    (hkl : key.length ≤ 4611686018427387904)
    (hk : ∀ h', K (.v (.bool true)) h') (N : Nat) (hN : 1 ≤ N ∧ N ≤ 16) (eN : IntKind.wrap .i64 (1 + IntKind.wrap .i64 (Int.tmod (IntKind.wrap .u64 n) 16)) = N) : SCall Tryd.prog G 16 [.v (.int .i64 n), a1, .v (.string (bs key))] h K := by
  refine Tryd.c16 G _ _ _ h K fun hlow => ?_
  unfold Tryd.r16
  have lr : ∀ h, aLen Tryd.prog h 90 a1 = some (.v (.int .i64 rows.length)) := fun h => (ha h).len (P := Tryd.prog) (t := 90) Tryd.und90
  refine ⟨works18_call G h _ ?_⟩
  simp (disch := omega) only [go_sem]
  rw [eN]
  refine ⟨New_call G N hN h _ ?_⟩
  intro p1 h5 e5 hp1 B1
  simp (disch := omega) only [go_sem]
  refine ⟨New_call G N hN h5 _ ?_⟩
  intro p2 h9 e9 hp2 B2
  have two0 : Two h9 p1 p2 (Adm.new N) := by
    obtain ⟨bid1, C1, r1, W1, CH1, A1, _⟩ := B1
    obtain ⟨bid2, C2, r2, W2, CH2, A2, o2⟩ := B2
    exact ⟨bid1, C1, r1, W1, CH1, bid2, C2, r2, W2, CH2, A1.ext e9, A2, fun i h1 h2 => by have := ownLt A1 h1; have := o2 i h2; omega⟩
  simp (disch := omega) only [go_sem, pe1 Tryd.und91]
  unfold Tryd.r16_l9_28
  refine ⟨fun m vs h' => ∃ (i : Nat) (s : Adm), vs = [.v (.int .i64 i)] ∧ m = 80 - i ∧ Two h' p1 p2 s ∧ s.Ok, 80, ⟨0, _, rfl, rfl, two0, New_ok N hN⟩, ?_⟩
  rintro m h' hl1 hlow2 n' ⟨i, s, hvs, rfl, two, ok⟩
  simp only [List.cons.injEq, AV.v.injEq, Value.int.injEq, true_and, and_true] at hvs
  obtain rfl := hvs
  by_cases hi : i < rows.length
  rotate_left
  · simp (disch := omega) only [go_sem, lr]
    exact ret_keep (hk _)
  by_cases hi2 : i < 80
  rotate_left
  · simp (disch := omega) only [go_sem, lr]
    exact ret_keep (hk _)
  obtain ⟨row, hrow⟩ : ∃ row, rows[i]? = some row := ⟨_, List.getElem?_eq_getElem hi⟩
  obtain ⟨c, la, rfl, l0, l1, l2, l3, l4, l5, n64, x64⟩ := hr row (List.mem_of_getElem? hrow)
  obtain ⟨q, q1, q2, _⟩ := (ha h').iaAll (P := Tryd.prog) (ty := 90) (k := .i64) (i := i) (r := c.cells la) Tryd.und90 Tryd.siz96 (by omega) (by simpa using hrow)
  have q10 := q1 []
  have q20 := q2 []
  rw [List.append_nil] at q10 q20
  simp (disch := omega) only [go_sem, lr, q10, q20, l1, l2]
  refine ⟨adEncode_call G c la h' _ (l0 _) ?_⟩
  have nxt : ∀ s' H', h'.length ≤ H'.length → Two H' p1 p2 s' → s'.Ok → ∀ ks, nextR h9 (fun m vs h' => ∃ (i : Nat) (s : Adm), vs = [.v (.int .i64 i)] ∧ m = 80 - i ∧ Two h' p1 p2 s ∧ s.Ok) (80 - i) ks ks [.v (.int .i64 (i + 1 : Nat))] H' := fun s' H' hl t o ks =>
    next_keep (80 - (i + 1)) (by omega) (by omega) ⟨i + 1, s', rfl, rfl, t, o⟩
  unfold encRes
  by_cases hbig : c.list.length > 16 ∨ c.cur.length > 64
  · rw [if_pos hbig]
    simp (disch := omega) only [go_sem, q10, q20, l1, l2]
    exact alike_do G hG a1 rows key p1 p2 s c la la h'.length (80 - i) i _ h h9 _ K ha hrow hkl l0 l1 l2 l3 l4 l5 (by simp) (l0 _) l1 l2 l3 (two.grew (.app _)) ok (by omega) fun s' H' hl t o ks => nxt s' H' (by simp at hl; omega) t o ks
  · rw [if_neg hbig]
    have hdec := decA_enc (c := c) (by omega) (by omega) n64 x64
    have hbl := fields_len c (by omega) (by omega)
    simp (disch := omega) only [go_sem, q10, q20, l1, l2]
    refine ⟨adDecode_call G (allBytes c.fields) _ _ (by omega) ?_⟩
    rintro v H2 ⟨⟨t, rfl⟩, hres⟩
    rw [hdec] at hres
    obtain ⟨lb, b0, b1, b2, b3, rfl⟩ := hres
    have b0' : Ints (h' ++ some (AO.cells 96 6 [c.cells lb] 0) :: t) lb c.list := by
      refine Ints.keep1 (fun j e rs g hj => ?_) b0
      by_cases hjl : j < h'.length
      · rw [List.append_assoc, List.getElem?_append_left hjl] at hj
        rw [List.getElem?_append_left hjl]; exact hj
      · obtain ⟨k, rfl⟩ : ∃ k, j = h'.length + k := ⟨j - h'.length, by omega⟩
        rw [List.append_assoc, Go.Abs.get_add] at hj
        rw [Go.Abs.get_add]
        cases k with
        | zero => simp at hj
        | succ k => simpa using hj
    simp (disch := omega) only [go_sem, extV, q1, q2, l1, l2, b1, b2]
    refine ⟨sameCmd_call G c lb la _ _ b0' (l0 _) (by omega) ?_⟩
    simp (disch := omega) only [go_sem]
    exact alike_do G hG a1 rows key p1 p2 s c la lb h'.length (80 - i) i _ h h9 _ K ha hrow hkl l0 l1 l2 l3 l4 l5 (by simp) b0' b1 b2 b3 (two.grew .cons) ok (by omega) fun s' H' hl t o ks => nxt s' H' (by simp at hl; omega) t o ks
theorem Tryd.lawAdminAlike {G : Nat → Option AV} (hG : GTab G) (xs ys zs : List AV) (hx : In Tryd.prog 3 xs) (hy : In Tryd.prog 90 ys) (hz : In Tryd.prog 9 zs) : SCall Tryd.prog G 16 [argA Tryd.prog 3 xs, argA Tryd.prog 90 ys, argA Tryd.prog 9 zs] [] fun v _ => v = .v (.bool true) := by
  obtain ⟨n, rfl, _⟩ := in_int Tryd.und3 hx
  obtain ⟨a, rows, rfl, h1, h2, h3⟩ := in_cmds64 hy
  obtain ⟨s, rfl, hs⟩ := in_str Tryd.und9 hz
  have hr : reachBytes = 140737488351232 + 0 := by decide
  have h9 : s.data.toList.length = s.size := rfl
  obtain ⟨N, hN, eN⟩ := bricksN n
  rw [argInt, argCmds, argText]
  exact lawAlike G hG n a rows s.data.toList [] _ h1 h2 h3 (by omega) (fun _ => rfl) N hN eN
end Go.Proofs
