/-
  Contracts: a command on a brick.
-/
import Derived.Test.YtmfaafdkpahjlaaEpoP
set_option linter.all false
namespace Go.Proofs
open Go Go.Abs
set_option maxRecDepth 100000
set_option linter.unusedSimpArgs false
def Adm.to (kind : Int) (al : Bool) (n : Int) : Int × Int :=
  if kind = 3 then (0, -1) else if kind = 4 then (3, n) else if kind = 6 then (2, n) else if kind = 5 then (if al then (2, n) else (1, n)) else (1, n)
def rm (b : Int) (l : List Int) : List Int := l.filter (fun x => !decide (x = b))
def Chn.turn (c : Chn) (al : Bool) (to : Int × Int) (b : Int) : Chn :=
  ⟨c.ep + 1, rm b c.ord ++ (if al || decide (to.1 = 2) then [b] else []), rm b c.rep ++ (if !(al || decide (to.1 = 2)) && decide (to.1 = 1) then [b] else [])⟩
def Adm.turn (s : Adm) (c : CmdA) (k n : Nat) : Int × Adm :=
  if c.kind = 6 ∧ c.epoch ≠ (s.cn n).ep then (150, s)
  else if (s.cn n).ep ≥ 1073741824 then (2, s)
  else (0, s.put n ((s.cn n).turn (decide (c.kind ≠ 2) && s.alone k) (Adm.to c.kind (decide (c.kind ≠ 2) && s.alone k) n) k) k (Adm.to c.kind (decide (c.kind ≠ 2) && s.alone k) n))

theorem AdmOf.ext {h h' : AH} {p : Nat} {O : Nat → Prop} {s : Adm} (a : AdmOf h p O s) (e : Ext h h') : AdmOf h' p O s := by
  obtain ⟨bid, C, rows, W, CH, h1, h2⟩ := a
  exact ⟨bid, C, rows, W, CH, h1.ext e, h2⟩
theorem is_call (G : Nat → Option AV) (i : Nat) (k x : Int) (h : AH) (K : AV → AH → Prop) (hi : h[i]? = some (some (.cells 3 1 [irow k] 0))) (hk : K (.v (.bool (decide (x = k)))) h) : SCall Try.prog G 60 [.v (.int .i64 x), .ptr i 0 0 0] h K := by
  refine Try.c60 G _ _ h K fun hlow => ?_
  unfold Try.r60
  simp (disch := omega) only [go_sem, hi]
  exact ret_same hk

theorem turn_call (G : Nat → Option AV) (h H : AH) (K : AV → AH → Prop) (p i0 i3 k n : Nat) (O : Nat → Prop) (s : Adm) (c : CmdA) (la : AV) (c0 : Chn) (x : Int × Int) (a : AdmOf h p O s) (ok : s.Ok) (hH : Ext h H)
    (hi0 : H[i0]? = some (some (.cells 33 6 [c.cells la] 0))) (hi3 : H[i3]? = some (some (.cells 3 1 [irow k] 0))) (hx : s.bricks[k]? = some x) (hc : s.chains[n]? = some c0) (hxn : c.kind ≠ 2 → x.2 = n)
    (hk : ∀ e s' h', s.turn c k n = (e, s') → Post h p O s' h' → K (.v (.int .i64 e)) h') : Try.r40_j72 K h G (.ptr p 0 0 0) i0 i3 n H := by
  unfold Try.r40_j72
  have aO := a.ext hH
  obtain ⟨bid, C, rows, W, CH, ha', hown⟩ := a
  have ha := ha'.ext hH
  obtain ⟨f1, f2, f3⟩ := ha.at
  have g1 := f1 []
  have g2 := f2 []
  rw [List.append_nil] at g1 g2
  obtain ⟨o, r, q, c1, c2, c3, c4, c5, q1, c6, c7⟩ := ha.chain hc
  have d4 := c4 []
  have d5 := c5 []
  rw [List.append_nil] at d4 d5
  have e0 : ∀ t : AH, (H ++ t)[i0]? = some (some (.cells 33 6 [c.cells la] 0)) := fun t => by rw [List.getElem?_append_left (List.getElem?_eq_some_iff.mp hi0).1]; exact hi0
  have e3 : ∀ t : AH, (H ++ t)[i3]? = some (some (.cells 3 1 [irow k] 0)) := fun t => by rw [List.getElem?_append_left (List.getElem?_eq_some_iff.mp hi3).1]; exact hi3
  have hps : ∀ t, Post h p O s (H ++ t) := fun t => ⟨by have := hH.len; simp; omega, fun i hi _ => by rw [List.getElem?_append_left (by have := hH.len; omega)]; exact hH.get i hi, by
    obtain ⟨bid, C, rows, W, CH, h1, h2⟩ := aO
    exact ⟨bid, C, rows, W, CH, h1.app t, fun i hi => .inl (h2 i hi)⟩⟩
  unfold Adm.turn at hk
  rw [cn_eq hc] at hk
  have hep := ok.ep c0 (List.mem_of_getElem? hc)
  have hln := chain_len ok hc
  have ne1 : ∀ k : Nat, H.length + k = H.length + k := fun _ => rfl
  by_cases h6 : c.kind = 6 ∧ c.epoch ≠ c0.ep
  · rw [if_pos h6] at hk
    obtain ⟨h6, h7⟩ := h6
    simp (disch := omega) only [go_sem, g1, d4, d5, e0, c1.one, c2.one, c1.cells, c2.cells, h6, h7]
    exact ret_keep (hk _ _ _ rfl (hps _))
  · rw [if_neg h6] at hk
    by_cases hbig : c0.ep ≥ 1073741824
    · rw [if_pos hbig] at hk
      by_cases h7 : c.kind = 6
      · have h8 : c.epoch = c0.ep := by omega
        simp (disch := omega) only [go_sem, g1, d4, d5, e0, c1.one, c2.one, c1.cells, c2.cells, h7, h8]
        exact ret_keep (hk _ _ _ rfl (hps _))
      · simp (disch := omega) only [go_sem, g1, d4, d5, e0, c1.one, c2.one, c1.cells, c2.cells, h7]
        exact ret_keep (hk _ _ _ rfl (hps _))
    rw [if_neg hbig] at hk
    have main : ∀ al : Bool, al = (decide (c.kind ≠ 2) && s.alone k) → 
      (callR Try.prog G 28 [o] (H ++ [some (.cells 37 3 [crow c0 o r] 0)]) (fun v109 h110 =>
        (aLoad Try.prog h110 31 (.ptr H.length 0 0 2) = some r) ∧ (aLoad Try.prog h110 3 (.ptr H.length 0 0 0) = some (.v (.int .i64 c0.ep))) ∧ callR Try.prog G 62 [v109, (.fn (.func 60) [] [(.ptr i3 0 0 0)])] h110 (fun v111 h112 =>
        (aLoad Try.prog h112 31 (.ptr H.length 0 0 2) = some r) ∧ (aLoad Try.prog h112 3 (.ptr H.length 0 0 0) = some (.v (.int .i64 c0.ep))) ∧ callR Try.prog G 28 [r] h112 (fun v113 h114 =>
        (aLoad Try.prog h114 3 (.ptr H.length 0 0 0) = some (.v (.int .i64 c0.ep))) ∧ callR Try.prog G 62 [v113, (.fn (.func 60) [] [(.ptr i3 0 0 0)])] h114 (fun v115 h116 =>
        (aLoad Try.prog h116 3 (.ptr H.length 0 0 0) = some (.v (.int .i64 c0.ep))) ∧ okV (aBuild Try.prog 37 [(0, some (.v (.int .i64 (IntKind.wrap .i64 (c0.ep + 1))))), (1, some v111), (2, some v115)]) fun v117 =>
        newO (.cells 37 3 [[(.v (.int .i64 0)), (.v (.slice none 0 0)), (.v (.slice none 0 0))]] 0) h116 fun i118 h119 =>
        (aLoad Try.prog h119 31 (.ptr H.length 0 0 2) = some r) ∧ (aLoad Try.prog h119 31 (.ptr H.length 0 0 1) = some o) ∧ (aLoad Try.prog h119 3 (.ptr H.length 0 0 0) = some (.v (.int .i64 c0.ep))) ∧ storeR Try.prog h119 (fun v120 h121 =>
        newO (.cells 75 2 [[(.v (.int .i64 0)), (.v (.int .i64 0))]] 0) h121 fun i122 h123 =>
        storeR Try.prog h123 (fun v124 h125 =>
        okInt .i64 (aLoad Try.prog h125 3 (.ptr i0 0 0 0)) fun n167 =>
        condB (n167 == 3)
        (storeR Try.prog h125 (fun v168 h169 =>
        Try.r40_j127 h K (.ptr p 0 0 0) i3 n al i118 i122 h169) 75 (.agg [(.v (.int .i64 0)), (.v (.int .i64 (-1)))]) (.ptr i122 0 0 0))
        (condB (n167 == 4)
        (storeR Try.prog h125 (fun v170 h171 =>
        Try.r40_j127 h K (.ptr p 0 0 0) i3 n al i118 i122 h171) 3 (.v (.int .i64 3)) (.ptr i122 0 0 0))
        (condB (n167 == 6)
        (storeR Try.prog h125 (fun v172 h173 =>
        Try.r40_j127 h K (.ptr p 0 0 0) i3 n al i118 i122 h173) 3 (.v (.int .i64 2)) (.ptr i122 0 0 0))
        (condB (n167 == 5)
        (condB al
        (storeR Try.prog h125 (fun v174 h175 =>
        Try.r40_j127 h K (.ptr p 0 0 0) i3 n al i118 i122 h175) 3 (.v (.int .i64 2)) (.ptr i122 0 0 0))
        (Try.r40_j127 h K (.ptr p 0 0 0) i3 n al i118 i122 h125))
        (Try.r40_j127 h K (.ptr p 0 0 0) i3 n al i118 i122 h125))))) 75 (.agg [(.v (.int .i64 1)), (.v (.int .i64 n))]) (.ptr i122 0 0 0)) 37 v117 (.ptr i118 0 0 0)))))) := by
      intro al hal
      rw [← hal] at hk
      refine ⟨Clone_call G o c0.ord _ _ (c1.app _).ints c1.nn (by omega) ?_⟩
      intro v1 h1 A1
      obtain ⟨t1, rfl⟩ := A1.tail
      simp (disch := omega) only [go_sem, c1.one, c2.one]
      rw [List.append_assoc, List.cons_append, List.nil_append] at A1
      refine ⟨DeleteFunc_call G v1 c0.ord 60 [] [.ptr i3 0 0 0] (fun x => decide (x = (k : Int))) _ _ _ A1 (by omega) ?_ ?_⟩
      · intro h' x K' hl hf hK
        refine is_call G i3 k x h' K' ?_ hK
        rw [hf i3 (by have := (List.getElem?_eq_some_iff.mp hi3).1; simp; omega) (A1.toX.offLow (by have := (List.getElem?_eq_some_iff.mp hi3).1; simp; omega))]
        exact e3 _
      intro x1 h2 X1 hl2 st2
      obtain ⟨t2, rfl⟩ := X1.tail
      simp (disch := omega) only [go_sem, c1.one, c2.one]
      rw [List.append_assoc, List.cons_append, List.nil_append] at X1
      refine ⟨Clone_call G r c0.rep _ _ (c2.app _).ints c2.nn (by omega) ?_⟩
      intro v3 h3 A3
      obtain ⟨t3, rfl⟩ := A3.tail
      simp (disch := omega) only [go_sem, c1.one, c2.one]
      rw [List.append_assoc, List.cons_append] at A3
      refine ⟨DeleteFunc_call G v3 c0.rep 60 [] [.ptr i3 0 0 0] (fun x => decide (x = (k : Int))) _ _ _ A3 (by omega) ?_ ?_⟩
      · intro h' x K' hl hf hK
        refine is_call G i3 k x h' K' ?_ hK
        rw [hf i3 (by have := (List.getElem?_eq_some_iff.mp hi3).1; simp; omega) (A3.toX.offLow (by have := (List.getElem?_eq_some_iff.mp hi3).1; simp; omega))]
        exact e3 _
      intro x3 h4 X3 hl4 st4
      obtain ⟨t4, rfl⟩ := X3.tail
      have bd := build37 (a := .v (.int .i64 (c0.ep + 1))) rfl rfl X1.one X1.cells X3.one X3.cells
      have m7 : ∀ t, ((H ++ some (.cells 37 3 [crow c0 o r] 0) :: t2 ++ t4) ++ t)[H.length]? = some (some (.cells 37 3 [crow c0 o r] 0)) := fun t => by simp
      have m0 : ∀ t, ((H ++ some (.cells 37 3 [crow c0 o r] 0) :: t2 ++ t4) ++ t)[i0]? = some (some (.cells 33 6 [c.cells la] 0)) := fun t => by rw [List.append_assoc, List.append_assoc]; exact e0 _
      have ta := turn_app h (H ++ [some (.cells 37 3 [crow c0 o r] 0)]) t2 t4 K (.ptr p 0 0 0) i3 n k al (c0.ep + 1) x1 x3 (rm k c0.ord) (rm k c0.rep) (Adm.to c.kind al n) (by rw [List.append_assoc, List.cons_append, List.nil_append]; exact X1) (by rw [show H ++ [some (AO.cells 37 3 [crow c0 o r] 0)] ++ t2 = H ++ some (AO.cells 37 3 [crow c0 o r] 0) :: t2 by simp]; exact X3) (e3 _)
        (by have := List.length_filter_le (fun x => !decide (x = (k : Int))) c0.ord; unfold rm; omega) (by have := List.length_filter_le (fun x => !decide (x = (k : Int))) c0.rep; unfold rm; omega)
      have eM : H ++ [some (.cells 37 3 [crow c0 o r] 0)] ++ t2 ++ t4 = H ++ some (.cells 37 3 [crow c0 o r] 0) :: t2 ++ t4 := by simp
      rw [eM] at ta
      have lM : H.length < (H ++ some (.cells 37 3 [crow c0 o r] 0) :: t2 ++ t4).length := by simp
      clear st2 st4 hl2 hl4 A1 A3 X1 X3 
      generalize (H ++ some (.cells 37 3 [crow c0 o r] 0) :: t2 ++ t4) = M at *
      have m7' := m7 []
      have m0' := m0 []
      rw [List.append_nil] at m7' m0'
      have ta := ta (by
        intro H' o' r' hE h118 h122 ko kr
        have hE2 : Ext H H' := ⟨by have := hE.len; simp at this; omega, fun i hi => by rw [hE.get i (by simp; omega), List.getElem?_append_left hi]⟩
        have hn : n < s.chains.length := (List.getElem?_eq_some_iff.mp hc).1
        refine turn_end h H' K p bid i3 _ _ n k 0 0 O C W CH rows s _ o' r' _ ⟨by have := hE2.len; have := hH.len; omega, fun i hi => by rw [hE2.get i (by have := hH.len; omega), hH.get i hi]⟩ (ha.ext hE2) hown (hE2.some hi3) h118 h122 rfl rfl hn (List.getElem?_eq_some_iff.mp hx).1 ko kr (by have := hH.len; omega) ?_ ?_
        · exact fun i hi => ownLt ha' hi
        · intro h' hp
          exact hk _ _ _ rfl hp)
      unfold Adm.to at ta
      by_cases k3 : c.kind = 3
      · simp (disch := omega) only [go_sem, bd, m7, m7', m0, m0', k3]
        rw [if_pos k3] at ta
        exact ta
      by_cases k4 : c.kind = 4
      · simp (disch := omega) only [go_sem, bd, m7, m7', m0, m0', k4]
        rw [if_neg k3, if_pos k4] at ta
        exact ta
      by_cases k6 : c.kind = 6
      · simp (disch := omega) only [go_sem, bd, m7, m7', m0, m0', k6]
        rw [if_neg k3, if_neg k4, if_pos k6] at ta
        exact ta
      by_cases k5 : c.kind = 5
      · rw [if_neg k3, if_neg k4, if_neg k6, if_pos k5] at ta
        cases al
        · simp (disch := omega) only [go_sem, bd, m7, m7', m0, m0', k5]
          exact ta
        · simp (disch := omega) only [go_sem, bd, m7, m7', m0, m0', k5]
          exact ta
      simp (disch := omega) only [go_sem, bd, m7, m7', m0, m0', k3, k4, k5, k6]
      rw [if_neg k3, if_neg k4, if_neg k6, if_neg k5] at ta
      exact ta
    by_cases h2 : c.kind = 2
    · simp (disch := omega) only [go_sem, g1, d4, d5, e0, c1.one, c2.one, c1.cells, c2.cells, h2]
      exact main false (by simp [h2])
    · have al := alone_call G p O s k n x c0 (H ++ [some (.cells 37 3 [crow c0 o r] 0)]) 
      by_cases h7 : c.kind = 6
      · have h8 : c.epoch = c0.ep := by omega
        simp (disch := omega) only [go_sem, g1, d4, d5, e0, e3, c1.one, c2.one, c1.cells, c2.cells, h7, h8]
        refine ⟨al _ (aO.app _) hx (hxn h2) hc hln.1 ?_⟩
        simp (disch := omega) only [go_sem, g1, d4, d5, e0, c1.one, c2.one, c1.cells, c2.cells]
        refine main _ ?_
        unfold Adm.alone
        rw [bk_eq hx, hxn h2, cn_eq hc]
        simp [h2]
      · simp (disch := omega) only [go_sem, g1, d4, d5, e0, e3, c1.one, c2.one, c1.cells, c2.cells, h7, h2]
        refine ⟨al _ (aO.app _) hx (hxn h2) hc hln.1 ?_⟩
        simp (disch := omega) only [go_sem, g1, d4, d5, e0, c1.one, c2.one, c1.cells, c2.cells]
        refine main _ ?_
        unfold Adm.alone
        rw [bk_eq hx, hxn h2, cn_eq hc]
        simp [h2]
end Go.Proofs

/-
  Contracts: a command on a brick, whole.
-/
namespace Go.Proofs
open Go Go.Abs
set_option maxRecDepth 100000
set_option linter.unusedSimpArgs false
def Adm.onBrick (s : Adm) (c : CmdA) : Int × Adm :=
  if c.brick < 0 ∨ c.brick ≥ s.bricks.length ∨ c.chain < 0 ∨ (c.kind = 2 ∧ c.chain ≥ s.chains.length) then (1, s)
  else if s.may c.kind c.brick = false then (180, s)
  else s.turn c c.brick.toNat (if c.kind = 2 then c.chain else (s.bk c.brick).2).toNat

theorem onBrick_call (G : Nat → Option AV) (h : AH) (K : AV → AH → Prop) (p : Nat) (O : Nat → Prop) (s : Adm) (c : CmdA) (la : AV) (a : AdmOf h p O s) (ok : s.Ok) (hkd : 2 ≤ c.kind ∧ c.kind ≤ 6) (l1 : la.one = true) (l2 : la.cells = [la])
    (hk : ∀ e s' h', s.onBrick c = (e, s') → Post h p O s' h' → K (.v (.int .i64 e)) h') : SCall Try.prog G 40 [.ptr p 0 0 0, .agg (c.cells la)] h K := by
  refine Try.c40 G _ _ h K fun hlow => ?_
  unfold Try.r40
  have aO := a
  obtain ⟨bid, C, rows, W, CH, ha, hown⟩ := a
  obtain ⟨f1, f2, f3⟩ := ha.at
  unfold Adm.onBrick at hk
  have f1' : ∀ (x : Option AO) (t : AH), (h ++ x :: t)[p]? = _ := fun x t => f1 (x :: t)
  by_cases hr : c.brick < 0 ∨ c.brick ≥ s.bricks.length ∨ c.chain < 0 ∨ (c.kind = 2 ∧ c.chain ≥ s.chains.length)
  · rw [if_pos hr] at hk
    by_cases r1 : c.brick < 0
    · simp (disch := omega) only [go_sem, l1, l2, f1, f2, f3, r1]
      exact ret_keep (hk _ _ _ rfl (Post.same aO _))
    by_cases r2 : c.brick ≥ s.bricks.length
    · simp (disch := omega) only [go_sem, l1, l2, f1, f2, f3, r1, r2]
      exact ret_keep (hk _ _ _ rfl (Post.same aO _))
    by_cases r3 : c.chain < 0
    · simp (disch := omega) only [go_sem, l1, l2, f1, f2, f3, r1, r2, r3]
      exact ret_keep (hk _ _ _ rfl (Post.same aO _))
    obtain ⟨r4, r5⟩ : c.kind = 2 ∧ c.chain ≥ s.chains.length := by omega
    simp (disch := omega) only [go_sem, l1, l2, f1, f2, f3, r1, r2, r3, r4, r5]
    exact ret_keep (hk _ _ _ rfl (Post.same aO _))
  · rw [if_neg hr] at hk
    obtain ⟨k, hkk⟩ : ∃ k : Nat, c.brick = k := ⟨c.brick.toNat, by omega⟩
    have hkl : k < s.bricks.length := by omega
    obtain ⟨x, hx⟩ : ∃ x, s.bricks[k]? = some x := ⟨s.bricks[k], List.getElem?_eq_getElem hkl⟩
    have main : callR Try.prog G 59 [.ptr p 0 0 0, .v (.int .i64 c.kind), .v (.int .i64 k)] (h ++ [some (.cells 33 6 [c.cells la] 0), some (.cells 3 1 [irow k] 0)]) (fun v60 h61 =>
  okBool (some v60) fun b62 =>
  condB (!b62)
  (RetR h K (.v (.int .i64 180)) h61)
  (okV (aNil (.ptr p 0 0 0)) fun v63 =>
  okV (aFA Try.prog 80 0 v63) fun v64 =>
  okV (aLoad Try.prog h61 72 v64) fun v65 =>
  okInt .i64 (aLoad Try.prog h61 3 (.ptr (h ++ [some (AO.cells 33 6 [c.cells la] 0)]).length 0 0 0)) fun n66 =>
  okV (aIA Try.prog h61 72 v65 (.v (.int .i64 n66))) fun v67 =>
  okV (aFA Try.prog 75 1 v67) fun v68 =>
  okInt .i64 (aLoad Try.prog h61 3 v68) fun n69 =>
  okInt .i64 (aLoad Try.prog h61 3 (.ptr h.length 0 0 0)) fun n176 =>
  condB (n176 == 2)
  (okInt .i64 (aLoad Try.prog h61 3 (.ptr h.length 0 0 1)) fun n177 =>
  Try.r40_j72 K h G (.ptr p 0 0 0) h.length (h ++ [some (AO.cells 33 6 [c.cells la] 0)]).length n177 h61)
  (Try.r40_j72 K h G (.ptr p 0 0 0) h.length (h ++ [some (AO.cells 33 6 [c.cells la] 0)]).length n69 h61))) := by
  
      simp only [List.length_append, List.length_singleton]
      refine ⟨may_call G p O s k x c.kind _ _ (aO.app _) ok hx ?_⟩
      rw [hkk] at hk
      cases hm : s.may c.kind k with
      | false =>
        rw [if_pos hm] at hk
        simp (disch := omega) only [go_sem]
        exact ret_keep (hk _ _ _ rfl (Post.same aO _))
      | true =>
        rw [if_neg (by simp [hm])] at hk
        have hbr : (s.bricks.map bkrow)[k]? = some (bkrow x) := by rw [List.getElem?_map, hx]; rfl
        rw [bk_eq hx] at hk
        obtain ⟨b1, b2, b3⟩ := ok.bk k x hx
        have tc := fun n c0 hc hxn => turn_call G h (h ++ [some (.cells 33 6 [c.cells la] 0), some (.cells 3 1 [irow k] 0)]) K p h.length (h.length + 1) k n O s c la c0 x aO ok (Ext.app _) (by simp) (by simp) hx hc hxn
        by_cases k2 : c.kind = 2
        · obtain ⟨n, hn⟩ : ∃ n : Nat, c.chain = n := ⟨c.chain.toNat, by omega⟩
          have hnl : n < s.chains.length := by omega
          have tc := tc n _ (List.getElem?_eq_getElem hnl) (fun h => absurd k2 h)
          rw [if_pos k2, hn] at hk
          simp (disch := omega) only [go_sem, f1, f2, hbr, k2, hn]
          exact tc hk
        · have hx0 : x.1 ≠ 0 := by
            intro h0
            unfold Adm.may at hm
            rw [bk_eq hx, h0, if_neg k2] at hm
            split at hm
            · simp at hm
            split at hm
            · simp at hm
            split at hm
            · simp at hm
            · simp at hm
          obtain ⟨n, hn, hnl⟩ := b3 hx0
          have tc := tc n _ (List.getElem?_eq_getElem hnl) (fun _ => hn)
          rw [if_neg k2, hn] at hk
          simp (disch := omega) only [go_sem, f1, f2, hbr, k2, hn]
          exact tc hk
    by_cases k2 : c.kind = 2
    · have k3 : c.chain < s.chains.length := by omega
      simp (disch := omega) only [go_sem, l1, l2, f1, f2, f3, hkk, k2, k3]
      rw [if_neg (by decide), if_neg (by decide)]
      rw [k2] at main
      exact main
    · simp (disch := omega) only [go_sem, l1, l2, f1, f2, f3, hkk, k2]
      exact main
end Go.Proofs

/-
  Contracts: the least, the greatest; which weights may be.
-/
namespace Go.Proofs
open Go Go.Abs
set_option maxRecDepth 100000
set_option linter.unusedSimpArgs false
def leastI : List Int → Int
  | [] => 0
  | x :: xs => xs.foldl (fun a b => if b < a then b else a) x
def mostI : List Int → Int
  | [] => 0
  | x :: xs => xs.foldl (fun a b => if a < b then b else a) x
theorem least_take {x : Int} {xs : List Int} {k : Nat} {y : Int} (h : (x :: xs)[k + 1]? = some y) : leastI ((x :: xs).take (k + 2)) = if y < leastI ((x :: xs).take (k + 1)) then y else leastI ((x :: xs).take (k + 1)) := by
  simp only [List.take_succ_cons, leastI]
  rw [List.take_add_one, show xs[k]? = some y by simpa using h, Option.toList_some, List.foldl_append]
  rfl
theorem most_take {x : Int} {xs : List Int} {k : Nat} {y : Int} (h : (x :: xs)[k + 1]? = some y) : mostI ((x :: xs).take (k + 2)) = if mostI ((x :: xs).take (k + 1)) < y then y else mostI ((x :: xs).take (k + 1)) := by
  simp only [List.take_succ_cons, mostI]
  rw [List.take_add_one, show xs[k]? = some y by simpa using h, Option.toList_some, List.foldl_append]
  rfl
theorem min2 (a b : Int) : aMinMax false [some (.v (.int .i64 a)), some (.v (.int .i64 b))] = some (.v (.int .i64 (if b < a then b else a))) := rfl
theorem max2 (a b : Int) : aMinMax true [some (.v (.int .i64 a)), some (.v (.int .i64 b))] = some (.v (.int .i64 (if a < b then b else a))) := rfl
theorem Min_call (G : Nat → Option AV) (a : AV) (xs : List Int) (h : AH) (K : AV → AH → Prop) (ha : Ints h a xs) (hl : xs.length ≤ 4611686018427387904) (h1 : 1 ≤ xs.length)
    (hk : K (.v (.int .i64 (leastI xs))) h) : SCall Try.prog G 109 [a] h K := by
  refine Try.c109 G _ h K fun hlow => ?_
  unfold Try.r109 Try.r109_j1
  have la := ha.len (P := Try.prog) (t := 31) Try.und31
  rw [List.length_map] at la
  obtain ⟨x, xt, rfl⟩ : ∃ x xt, xs = x :: xt := by
    cases xs with
    | nil => simp at h1
    | cons x xt => exact ⟨x, xt, rfl⟩
  generalize hxs : x :: xt = xs at *
  have hx0 : xs[0]? = some x := by rw [← hxs]; rfl
  obtain ⟨q, q1, q2⟩ := Ints.at ha hx0
  have q1 := q1 []
  have q2 := q2 []
  rw [List.append_nil] at q1 q2
  simp only [Int.natCast_zero] at q1
  simp (disch := omega) only [go_sem, la, q1, q2]
  unfold Try.r109_l5_3
  refine ⟨fun m vs h' => ∃ k : Nat, k + 1 ≤ xs.length ∧ m = xs.length - k ∧ h' = h ∧ vs = [.v (.int .i64 (leastI (xs.take (k + 1)))), .v (.int .i64 (k + 1))], xs.length, ⟨0, by omega, rfl, rfl, by rw [← hxs]; simp [leastI]⟩, ?_⟩
  rintro m h' hl1 hlow2 n n' ⟨k, hk1, rfl, rfl, hvs⟩
  simp only [List.cons.injEq, AV.v.injEq, Value.int.injEq, true_and, and_true] at hvs
  obtain ⟨rfl, rfl⟩ := hvs
  by_cases hkl : k + 1 < xs.length
  · obtain ⟨y, hy⟩ := getI hkl
    obtain ⟨r, r1, r2⟩ := Ints.at ha hy
    have r1 := r1 []
    have r2 := r2 []
    rw [List.append_nil] at r1 r2
    simp only [Int.natCast_add, Int.natCast_one] at r1
    simp (disch := omega) only [go_sem, la, r1, r2]
    rw [min2]
    simp (disch := omega) only [go_sem]
    refine next_keep (xs.length - (k + 1)) ?_ (Nat.le_refl _) ?_
    · omega
    refine ⟨k + 1, by omega, rfl, rfl, ?_⟩
    rw [← hxs] at hy ⊢
    rw [least_take hy]
    rfl
  · simp (disch := omega) only [go_sem, la]
    rw [List.take_of_length_le (by omega)]
    exact ret_same hk
theorem Max_call (G : Nat → Option AV) (a : AV) (xs : List Int) (h : AH) (K : AV → AH → Prop) (ha : Ints h a xs) (hl : xs.length ≤ 4611686018427387904) (h1 : 1 ≤ xs.length)
    (hk : K (.v (.int .i64 (mostI xs))) h) : SCall Try.prog G 110 [a] h K := by
  refine Try.c110 G _ h K fun hlow => ?_
  unfold Try.r110 Try.r110_j1
  have la := ha.len (P := Try.prog) (t := 31) Try.und31
  rw [List.length_map] at la
  obtain ⟨x, xt, rfl⟩ : ∃ x xt, xs = x :: xt := by
    cases xs with
    | nil => simp at h1
    | cons x xt => exact ⟨x, xt, rfl⟩
  generalize hxs : x :: xt = xs at *
  have hx0 : xs[0]? = some x := by rw [← hxs]; rfl
  obtain ⟨q, q1, q2⟩ := Ints.at ha hx0
  have q1 := q1 []
  have q2 := q2 []
  rw [List.append_nil] at q1 q2
  simp only [Int.natCast_zero] at q1
  simp (disch := omega) only [go_sem, la, q1, q2]
  unfold Try.r110_l5_3
  refine ⟨fun m vs h' => ∃ k : Nat, k + 1 ≤ xs.length ∧ m = xs.length - k ∧ h' = h ∧ vs = [.v (.int .i64 (mostI (xs.take (k + 1)))), .v (.int .i64 (k + 1))], xs.length, ⟨0, by omega, rfl, rfl, by rw [← hxs]; simp [mostI]⟩, ?_⟩
  rintro m h' hl1 hlow2 n n' ⟨k, hk1, rfl, rfl, hvs⟩
  simp only [List.cons.injEq, AV.v.injEq, Value.int.injEq, true_and, and_true] at hvs
  obtain ⟨rfl, rfl⟩ := hvs
  by_cases hkl : k + 1 < xs.length
  · obtain ⟨y, hy⟩ := getI hkl
    obtain ⟨r, r1, r2⟩ := Ints.at ha hy
    have r1 := r1 []
    have r2 := r2 []
    rw [List.append_nil] at r1 r2
    simp only [Int.natCast_add, Int.natCast_one] at r1
    simp (disch := omega) only [go_sem, la, r1, r2]
    rw [max2]
    simp (disch := omega) only [go_sem]
    refine next_keep (xs.length - (k + 1)) ?_ (Nat.le_refl _) ?_
    · omega
    refine ⟨k + 1, by omega, rfl, rfl, ?_⟩
    rw [← hxs] at hy ⊢
    rw [most_take hy]
    rfl
  · simp (disch := omega) only [go_sem, la]
    rw [List.take_of_length_le (by omega)]
    exact ret_same hk

/-- Which weights may be. -/
def ringOk (xs : List Int) : Bool := decide (1 ≤ xs.length) && decide (xs.length ≤ 8) && decide (0 ≤ leastI xs) && decide (mostI xs ≤ 128) && decide (mostI xs ≠ 0)
theorem ringCheck_call (G : Nat → Option AV) (a : AV) (xs : List Int) (h : AH) (K : AV → AH → Prop) (ha : Ints h a xs) (hl : xs.length ≤ 4611686018427387904)
    (hk : K (.v (.int .i64 (if ringOk xs then 0 else 1))) h) : SCall Try.prog G 100 [a] h K := by
  refine Try.c100 G _ h K fun hlow => ?_
  unfold Try.r100
  have la := ha.len (P := Try.prog) (t := 31) Try.und31
  rw [List.length_map] at la
  unfold ringOk at hk
  by_cases h1 : xs.length < 1
  · simp (disch := omega) only [go_sem, la, h1]
    simp only [show ¬ 1 ≤ xs.length by omega, decide_false, Bool.false_and, Bool.false_eq_true, if_false] at hk
    exact ret_same hk
  by_cases h2 : xs.length > 8
  · simp (disch := omega) only [go_sem, la, h1, h2]
    simp only [show ¬ xs.length ≤ 8 by omega, decide_false, Bool.and_false, Bool.false_and, Bool.false_eq_true, if_false] at hk
    exact ret_same hk
  simp only [show 1 ≤ xs.length by omega, show xs.length ≤ 8 by omega, decide_true, Bool.true_and] at hk
  simp (disch := omega) only [go_sem, la]
  refine ⟨Min_call G a xs h _ ha hl (by omega) ?_⟩
  by_cases h3 : leastI xs < 0
  · simp (disch := omega) only [go_sem, h3]
    simp only [show ¬ 0 ≤ leastI xs by omega, decide_false, Bool.and_false, Bool.false_and, Bool.false_eq_true, if_false] at hk
    exact ret_same hk
  simp only [show 0 ≤ leastI xs by omega, decide_true, Bool.true_and] at hk
  simp (disch := omega) only [go_sem, h3]
  refine ⟨Max_call G a xs h _ ha hl (by omega) ?_⟩
  by_cases h4 : mostI xs > 128
  · simp (disch := omega) only [go_sem, h4]
    simp only [show ¬ mostI xs ≤ 128 by omega, decide_false, Bool.and_false, Bool.false_and, Bool.false_eq_true, if_false] at hk
    exact ret_same hk
  simp only [show mostI xs ≤ 128 by omega, decide_true, Bool.true_and] at hk
  simp (disch := omega) only [go_sem, h4]
  refine ⟨Max_call G a xs h _ ha hl (by omega) ?_⟩
  by_cases h5 : mostI xs = 0
  · simp (disch := omega) only [go_sem, h5]
    simp only [h5, ne_eq, not_true_eq_false, decide_false, Bool.false_eq_true, if_false] at hk
    exact ret_same hk
  · simp (disch := omega) only [go_sem, h5]
    simp only [h5, ne_eq, not_false_eq_true, decide_true, if_true] at hk
    exact ret_same hk
end Go.Proofs

/-
  Contracts: which layouts and changes may be, and how the cursor moves.
-/
namespace Go.Proofs
open Go Go.Abs
set_option maxRecDepth 100000
set_option linter.unusedSimpArgs false
def Lay.ok (l : Lay) : Bool := decide (1 ≤ l.ver) && decide (l.ver ≤ 1073741824) && ringOk l.wts
theorem layCheck_call (G : Nat → Option AV) (l : Lay) (W : AV) (h : AH) (K : AV → AH → Prop) (ha : Ints h W l.wts) (w1 : W.one = true) (w2 : W.cells = [W]) (hl : l.wts.length ≤ 4611686018427387904)
    (hk : K (.v (.int .i64 (if l.ok then 0 else 70))) h) : SCall Try.prog G 80 [.agg [.v (.int .i64 l.ver), W]] h K := by
  refine Try.c80 G _ h K fun hlow => ?_
  unfold Try.r80
  unfold Lay.ok at hk
  by_cases h1 : l.ver < 1
  · simp (disch := omega) only [go_sem, w1, w2, h1]
    simp only [show ¬ 1 ≤ l.ver by omega, decide_false, Bool.false_and, Bool.false_eq_true, if_false] at hk
    exact ret_tail hlow .v hk
  by_cases h2 : l.ver > 1073741824
  · simp (disch := omega) only [go_sem, w1, w2, h1, h2]
    simp only [show ¬ l.ver ≤ 1073741824 by omega, decide_false, Bool.and_false, Bool.false_and, Bool.false_eq_true, if_false] at hk
    exact ret_tail hlow .v hk
  simp only [show 1 ≤ l.ver by omega, show l.ver ≤ 1073741824 by omega, decide_true, Bool.true_and] at hk
  simp (disch := omega) only [go_sem, w1, w2, h1, h2]
  refine ⟨ringCheck_call G W l.wts _ _ (ha.app _) hl ?_⟩
  cases hr : ringOk l.wts with
  | true =>
    rw [hr] at hk
    simp (disch := omega) only [go_sem, if_true]
    exact ret_tail hlow .v hk
  | false =>
    rw [hr] at hk
    simp (disch := omega) only [go_sem, if_false, Bool.false_eq_true]
    exact ret_tail hlow .v hk
def Chg.ok (c : Chg) : Bool := c.was.ok && c.will.ok && decide (c.will.ver = c.was.ver + 1) && decide (c.was.wts.length ≤ c.will.wts.length) && decide (c.cur.length ≤ 64) && !(c.fin && decide (c.cur ≠ []))
abbrev Chg.cells (c : Chg) (W1 W2 : AV) : List AV := [.v (.int .i64 c.was.ver), W1, .v (.int .i64 c.will.ver), W2, .v (.string (bs c.cur)), .v (.bool c.fin)]
theorem chgCheck_call (G : Nat → Option AV) (c : Chg) (W1 W2 : AV) (h : AH) (K : AV → AH → Prop) (k1 : Kept h W1 c.was.wts) (k2 : Kept h W2 c.will.wts) (hl1 : c.was.wts.length ≤ 2000000000) (hl2 : c.will.wts.length ≤ 2000000000) (hcl : c.cur.length ≤ 2000000000) (hv : 0 ≤ c.was.ver ∧ c.was.ver ≤ 2000000000) (hf : c.fin = false)
    (hk : K (.v (.int .i64 (if c.ok then 0 else 70))) h) : SCall Try.prog G 66 [.agg (c.cells W1 W2)] h K := by
  refine Try.c66 G _ h K fun hlow => ?_
  unfold Try.r66
  unfold Chg.ok at hk
  simp (disch := omega) only [go_sem, k1.one, k2.one, k1.cells, k2.cells]
  refine ⟨layCheck_call G c.was W1 _ _ (k1.app _).ints k1.one k1.cells (by omega) ?_⟩
  cases h1 : c.was.ok with
  | false =>
    simp (disch := omega) only [go_sem, if_false, Bool.false_eq_true]
    simp only [h1, Bool.false_and, Bool.false_eq_true, if_false] at hk
    exact ret_tail hlow .v hk
  | true =>
  simp (disch := omega) only [go_sem, if_true]
  refine ⟨layCheck_call G c.will W2 _ _ (k2.app _).ints k2.one k2.cells (by omega) ?_⟩
  cases h2 : c.will.ok with
  | false =>
    simp (disch := omega) only [go_sem, if_false, Bool.false_eq_true]
    simp only [h1, h2, Bool.false_and, Bool.and_false, Bool.false_eq_true, if_false] at hk
    exact ret_tail hlow .v hk
  | true =>
  have m1 : ∀ t, aLen Try.prog (h ++ t) 31 W1 = some (.v (.int .i64 c.was.wts.length)) := fun t => by
    have := ((k1.app t).ints).len (P := Try.prog) (t := 31) Try.und31
    rw [List.length_map] at this
    exact this
  have m2 : ∀ t, aLen Try.prog (h ++ t) 31 W2 = some (.v (.int .i64 c.will.wts.length)) := fun t => by
    have := ((k2.app t).ints).len (P := Try.prog) (t := 31) Try.und31
    rw [List.length_map] at this
    exact this
  simp only [h1, h2, Bool.true_and] at hk
  by_cases h3 : c.will.ver = c.was.ver + 1
  rotate_left
  · simp (disch := omega) only [go_sem, if_true, Nat.one_ne_zero, if_false, h3, m1, m2]
    simp only [h3, decide_false, Bool.false_and, Bool.false_eq_true, if_false] at hk
    exact ret_tail hlow .v hk
  by_cases h4 : c.was.wts.length ≤ c.will.wts.length
  rotate_left
  · simp (disch := omega) only [go_sem, if_true, Nat.one_ne_zero, if_false, h3, m1, m2]
    simp only [h4, decide_false, Bool.false_and, Bool.and_false, Bool.false_eq_true, if_false] at hk
    exact ret_tail hlow .v hk
  simp only [h3, h4, decide_true, Bool.true_and] at hk
  by_cases h5 : c.cur.length ≤ 64
  rotate_left
  · simp (disch := omega) only [go_sem, if_true, Nat.one_ne_zero, if_false, h3, m1, m2]
    simp only [h5, decide_false, Bool.false_and, Bool.and_false, Bool.false_eq_true, if_false] at hk
    exact ret_tail hlow .v hk
  simp only [h5, decide_true, Bool.true_and] at hk
  simp (disch := omega) only [go_sem, if_true, Nat.one_ne_zero, if_false, h3, m1, m2, hf]
  simp only [hf, Bool.false_and, Bool.not_false, if_true] at hk
  exact ret_tail hlow .v hk

/-- A change with another cursor. -/
def Chg.to (c : Chg) (s : List UInt8) : Int × Option Chg :=
  if c.ok = false then (70, none) else if Op.bytesLess s c.cur = true ∨ s.length > 64 then (1, none) else (0, some { c with cur := s })
theorem To_call (G : Nat → Option AV) (c : Chg) (s : List UInt8) (W1 W2 : AV) (h : AH) (K : AV → AH → Prop) (k1 : Kept h W1 c.was.wts) (k2 : Kept h W2 c.will.wts) (hl1 : c.was.wts.length ≤ 2000000000) (hl2 : c.will.wts.length ≤ 2000000000) (hcl : c.cur.length ≤ 2000000000) (hv : 0 ≤ c.was.ver ∧ c.was.ver ≤ 2000000000) (hf : c.fin = false)
    (hsl : s.length ≤ 4611686018427387904)
    (hk1 : ∀ e h', (∃ t, h' = h ++ t) → c.to s = (e, none) → e ≠ 0 → K (.tup [.agg [.v (.int .i64 0), .v (.slice none 0 0), .v (.int .i64 0), .v (.slice none 0 0), .v (.string (ByteArray.mk #[])), .v (.bool false)], .v (.int .i64 e)]) h')
    (hk2 : ∀ h' c', (∃ t, h' = h ++ t) → c.to s = (0, some c') → K (.tup [.agg (c'.cells W1 W2), .v (.int .i64 0)]) h') : SCall Try.prog G 67 [.agg (c.cells W1 W2), .v (.string (bs s))] h K := by
  refine Try.c67 G _ _ h K fun hlow => ?_
  unfold Try.r67
  simp (disch := omega) only [go_sem, k1.one, k2.one, k1.cells, k2.cells]
  refine ⟨chgCheck_call G c W1 W2 _ _ (k1.app _) (k2.app _) hl1 hl2 hcl hv hf ?_⟩
  unfold Chg.to at hk1 hk2
  cases ho : c.ok with
  | false =>
    rw [ho] at hk1
    simp (disch := omega) only [go_sem, if_false, Bool.false_eq_true]
    exact ret_keep (hk1 _ _ ⟨_, rfl⟩ rfl (by decide))
  | true =>
    rw [ho] at hk1 hk2
    simp only [Bool.true_eq_false, if_false] at hk1 hk2
    cases hb : Op.bytesLess s c.cur with
    | true =>
      rw [if_pos (.inl hb)] at hk1
      simp (disch := omega) only [go_sem, if_true, hf, Nat.one_ne_zero, if_false, bs_toList, hb]
      exact ret_keep (hk1 _ _ ⟨_, rfl⟩ rfl (by decide))
    | false =>
    by_cases h64 : s.length > 64
    · rw [if_pos (.inr h64)] at hk1
      simp (disch := omega) only [go_sem, if_true, hf, Nat.one_ne_zero, if_false, bs_toList, hb]
      exact ret_keep (hk1 _ _ ⟨_, rfl⟩ rfl (by decide))
    · rw [if_neg (by simp [hb, h64])] at hk2
      simp (disch := omega) only [go_sem, if_true, hf, Nat.one_ne_zero, if_false, bs_toList, hb]
      have := hk2 (h ++ [some (.cells 138 6 [Chg.cells { c with cur := s } W1 W2] 0), some (.cells 138 6 [Chg.cells { c with cur := s } W1 W2] 0)]) _ ⟨_, rfl⟩ rfl
      unfold Chg.cells at this
      rw [hf] at this
      exact ret_keep this
end Go.Proofs

/-
  Contracts: commands on a change.
-/
namespace Go.Proofs
open Go Go.Abs
set_option maxRecDepth 100000
set_option linter.unusedSimpArgs false
theorem two0 : ((2 : Nat) = 0) = False := by simp
theorem pe1 {t e : TypeId} (hu : und Try.prog t = .pointer e) {i g r c : Nat} : aBin Try.prog .eql t (.ptr i g r c) (.v (.pointer none)) = some (.v (.bool false)) := by simp [aBin, aEq, hu, chk]
theorem pe2 {t e : TypeId} (hu : und Try.prog t = .pointer e) : aBin Try.prog .eql t (.v (.pointer none)) (.v (.pointer none)) = some (.v (.bool true)) := by simp [aBin, aEq, hu, chk]
theorem pn1 {t e : TypeId} (hu : und Try.prog t = .pointer e) {i g r c : Nat} : aBin Try.prog .neq t (.ptr i g r c) (.v (.pointer none)) = some (.v (.bool true)) := by simp [aBin, aEq, hu, chk]
theorem pn2 {t e : TypeId} (hu : und Try.prog t = .pointer e) : aBin Try.prog .neq t (.v (.pointer none)) (.v (.pointer none)) = some (.v (.bool false)) := by simp [aBin, aEq, hu, chk]
/-- The admin's own object is written. -/
theorem AdmAt.setP {h : AH} {p bid : Nat} {C W CH C' W' CH' : AV} {rows rows' : List (List AV)} {s s' : Adm} (a : AdmAt h p bid C rows W CH s) (hb : s'.bricks = s.bricks) (hs : ChSl h C' rows') (hr : ChRows h rows' s'.chains) (hw : Kept h W' s'.lay.wts) (hc : ChgAt h CH' s'.chg) :
    AdmAt (h.set p (some (.cells 80 5 [[.sl bid 0 0 s.bricks.length none, C', .v (.int .i64 s'.lay.ver), W', CH']] 0))) p bid C' rows' W' CH' s' := by
  have kp : Kp h (h.set p (some (.cells 80 5 [[.sl bid 0 0 s.bricks.length none, C', .v (.int .i64 s'.lay.ver), W', CH']] 0))) := Kp.set a.obj (by decide)
  refine ⟨?_, ?_, ?_, hr.keep kp, hw.keep kp, ?_⟩
  · rw [List.getElem?_set_self (List.getElem?_eq_some_iff.mp a.obj).1, hb]
  · rw [List.getElem?_set_ne (apart a.obj a.bri (by decide)), hb]; exact a.bri
  · rcases hs with h1 | ⟨id, g, h1, h2⟩
    · exact .inl h1
    · exact .inr ⟨id, g, h1, by rw [List.getElem?_set_ne (apart a.obj h2 (by decide))]; exact h2⟩
  · cases hcc : s'.chg with
    | none => rw [hcc] at hc; exact hc
    | some c =>
      rw [hcc] at hc
      obtain ⟨x, W1, W2, h1, h2, h3, h4⟩ := hc
      exact ⟨x, W1, W2, h1, by rw [List.getElem?_set_ne (apart a.obj h2 (by decide))]; exact h2, h3.keep kp, h4.keep kp⟩
/-- Of a heap that grew and whose admin is written in its own object. -/
theorem Post.setP {h H : AH} {p bid : Nat} {O : Nat → Prop} {C C' : AV} {s' : Adm} {o : Option AO} (e : Ext h H) (hown : ∀ i, Own p bid C i → O i) (hC : ∀ i, Own p bid C' i → O i ∨ h.length ≤ i) (W' CH' : AV) (rows' : List (List AV))
    (a : AdmAt (H.set p o) p bid C' rows' W' CH' s') : Post h p O s' (H.set p o) := by
  refine ⟨by have := e.len; simpa using this, fun i hi hO => ?_, bid, C', rows', W', CH', a, hC⟩
  rw [List.getElem?_set_ne (by rintro rfl; exact hO (hown _ (.inl rfl)))]
  exact e.get i hi

def Adm.done (s : Adm) : Int × Adm := match s.chg with
  | none => (180, s)
  | some c => (0, { s with lay := c.will, chg := none })
theorem done_call (G : Nat → Option AV) (h : AH) (K : AV → AH → Prop) (p : Nat) (O : Nat → Prop) (s : Adm) (c : CmdA) (la : AV) (a : AdmOf h p O s) (l1 : la.one = true) (l2 : la.cells = [la])
    (hk : ∀ e s' h', s.done = (e, s') → Post h p O s' h' → K (.v (.int .i64 e)) h') : SCall Try.prog G 44 [.ptr p 0 0 0, .agg (c.cells la)] h K := by
  refine Try.c44 G _ _ h K fun hlow => ?_
  unfold Try.r44
  have aO := a
  obtain ⟨bid, C, rows, W, CH, ha, hown⟩ := a
  obtain ⟨f1, f2, f3⟩ := ha.at
  unfold Adm.done at hk
  have hc := ha.chg
  cases hs : s.chg with
  | none =>
    rw [hs] at hc hk
    obtain rfl : CH = .v (.pointer none) := hc
    simp (disch := omega) only [go_sem, f1, pe2 Try.und78, Nat.one_ne_zero, if_false]
    exact ret_keep (hk _ _ _ rfl (Post.same aO _))
  | some g =>
    rw [hs] at hc hk
    obtain ⟨x, W1, W2, rfl, h2, h3, h4⟩ := hc
    have e2 : ∀ t : AH, (h ++ t)[x]? = _ := fun t => (List.getElem?_append_left (List.getElem?_eq_some_iff.mp h2).1).trans h2
    have hpl : p < (h ++ [some (AO.cells 33 6 [c.cells la] 0)]).length := Nat.lt_of_lt_of_le (List.getElem?_eq_some_iff.mp ha.obj).1 (by simp)
    have s1 : ∀ o, ((h ++ [some (AO.cells 33 6 [c.cells la] 0)]).set p o)[p]? = some o := fun o => List.getElem?_set_self hpl
    have s2 : ∀ (o o' : Option AO) (l : AH), (l.set p o).set p o' = l.set p o' := fun o o' l => List.set_set ..
    simp (disch := omega) only [go_sem, f1, e2, h2, pe1 Try.und78, h4.one, h4.cells, s1, s2, Nat.one_ne_zero, two0, if_false]
    have := (ha.app [some (AO.cells 33 6 [c.cells la] 0)]).setP (s' := { s with lay := g.will, chg := none }) (CH' := .v (.pointer none)) rfl (ha.app [some (AO.cells 33 6 [c.cells la] 0)]).sl (ha.app [some (AO.cells 33 6 [c.cells la] 0)]).ch (h4.app _) rfl
    exact ret_keep (hk _ _ _ rfl (Post.setP (Ext.app _) hown (fun i hi => .inl (hown i hi)) _ _ _ this))

def Adm.moved (s : Adm) (c : CmdA) : Int × Adm := match s.chg with
  | none => (180, s)
  | some g => match g.to c.cur with
    | (_, some g') => (0, { s with chg := some g' })
    | (e, none) => (e, s)
theorem to_some {g c' : Chg} {l : List UInt8} {e : Int} (h : g.to l = (e, some c')) : c' = { g with cur := l } := by
  unfold Chg.to at h
  split at h
  · cases h
  · split at h
    · cases h
    · cases h; rfl
theorem moved_call (G : Nat → Option AV) (h : AH) (K : AV → AH → Prop) (p : Nat) (O : Nat → Prop) (s : Adm) (c : CmdA) (la : AV) (a : AdmOf h p O s) (ok : s.Ok) (hcl : c.cur.length ≤ 4611686018427387904)
    (hk : ∀ e s' h', s.moved c = (e, s') → Post h p O s' h' → K (.v (.int .i64 e)) h') : SCall Try.prog G 43 [.ptr p 0 0 0, .agg (c.cells la)] h K := by
  refine Try.c43 G _ _ h K fun hlow => ?_
  unfold Try.r43
  have aO := a
  obtain ⟨bid, C, rows, W, CH, ha, hown⟩ := a
  obtain ⟨f1, f2, f3⟩ := ha.at
  unfold Adm.moved at hk
  have hc := ha.chg
  cases hs : s.chg with
  | none =>
    rw [hs] at hc hk
    obtain rfl : CH = .v (.pointer none) := hc
    simp (disch := omega) only [go_sem, f1, pe2 Try.und78, Nat.one_ne_zero, if_false]
    exact ret_keep (hk _ _ _ rfl (Post.same aO _))
  | some g =>
    rw [hs] at hc hk
    simp only at hk
    obtain ⟨x, W1, W2, rfl, h2, h3, h4⟩ := hc
    have e2 : ∀ t : AH, (h ++ t)[x]? = _ := fun t => (List.getElem?_append_left (List.getElem?_eq_some_iff.mp h2).1).trans h2
    obtain ⟨q1, q2, q3, q4, q5, q6⟩ := ok.chg g hs
    have hw := ok.wts
    have hnc := ok.nc
    have hvr := ok.ver
    simp (disch := omega) only [go_sem, f1, e2, h2, pe1 Try.und78, Nat.one_ne_zero, two0, if_false]
    refine ⟨To_call G g c.cur W1 W2 _ _ (h3.app _) (h4.app _) (by rw [q1]; omega) (by omega) (by omega) (by rw [q1]; omega) q6 hcl ?_ ?_⟩
    · rintro e h' ⟨t, rfl⟩ hto hne
      rw [hto] at hk
      simp (disch := omega) only [go_sem, f1, e2, h2, h3.one, h4.one, Nat.one_ne_zero, two0, if_false]
      exact ret_keep (hk e s _ rfl (Post.same aO _))
    · rintro h' c' ⟨t, rfl⟩ hto
      rw [hto] at hk
      obtain rfl := to_some hto
      simp (disch := omega) only [go_sem, f1, e2, h2, h3.one, h4.one, h3.cells, h4.cells, Nat.one_ne_zero, two0, if_false]
      have HA := ha.app (some (.cells 33 6 [c.cells la] 0) :: (t ++ [some (.cells 138 6 [Chg.cells { g with cur := c.cur } W1 W2] 0)]))
      have := HA.setP (s' := { s with chg := some { g with cur := c.cur } }) (CH' := .ptr (h.length + (t.length + 1)) 0 0 0) rfl HA.sl HA.ch HA.wts ⟨_, W1, W2, rfl, by rw [Go.Abs.get_add]; simp, h3.app _, h4.app _⟩
      exact ret_keep (hk _ _ _ rfl (Post.setP (Ext.app _) hown (fun i hi => .inl (hown i hi)) _ _ _ this))
end Go.Proofs

/-
  Contracts: a change begins.
-/
namespace Go.Proofs
open Go Go.Abs
set_option maxRecDepth 100000
set_option linter.unusedSimpArgs false
def Adm.begin (s : Adm) (c : CmdA) : Int × Adm := match s.chg with
  | some _ => (180, s)
  | none => if s.lay.ver ≥ 1073741824 then (2, s) else
    if c.list.length ≠ s.chains.length ∨ (Chg.ok ⟨s.lay, ⟨s.lay.ver + 1, c.list⟩, [], false⟩) = false then (70, s) else (0, { s with chg := some ⟨s.lay, ⟨s.lay.ver + 1, c.list⟩, [], false⟩ })
theorem begin_call (G : Nat → Option AV) (h : AH) (K : AV → AH → Prop) (p : Nat) (O : Nat → Prop) (s : Adm) (c : CmdA) (la : AV) (a : AdmOf h p O s) (ok : s.Ok) (l0 : Ints h la c.list) (l1 : la.one = true) (l2 : la.cells = [la]) (l3 : ∀ r f, la ≠ .lst r f false) (hll : c.list.length ≤ 17592186044416)
    (hk : ∀ e s' h', s.begin c = (e, s') → Post h p O s' h' → K (.v (.int .i64 e)) h') : SCall Try.prog G 42 [.ptr p 0 0 0, .agg (c.cells la)] h K := by
  refine Try.c42 G _ _ h K fun hlow => ?_
  unfold Try.r42
  have aO := a
  obtain ⟨bid, C, rows, W, CH, ha, hown⟩ := a
  obtain ⟨f1, f2, f3⟩ := ha.at
  unfold Adm.begin at hk
  have hc := ha.chg
  cases hs : s.chg with
  | some g =>
    rw [hs] at hc hk
    obtain ⟨x, W1, W2, rfl, h2, h3, h4⟩ := hc
    simp (disch := omega) only [go_sem, f1, pn1 Try.und78, Nat.one_ne_zero, if_false]
    exact ret_keep (hk _ _ _ rfl (Post.same aO _))
  | none =>
    rw [hs] at hc hk
    simp only at hk
    obtain rfl : CH = .v (.pointer none) := hc
    by_cases hbig : s.lay.ver ≥ 1073741824
    · rw [if_pos hbig] at hk
      simp (disch := omega) only [go_sem, f1, pn2 Try.und78, Nat.one_ne_zero, if_false]
      exact ret_keep (hk _ _ _ rfl (Post.same aO _))
    rw [if_neg hbig] at hk
    have w := ha.wts
    have hvr := ok.ver
    have hnc := ok.nc
    have hwl := ok.wts
    simp (disch := omega) only [go_sem, f1, pn2 Try.und78, Nat.one_ne_zero, two0, if_false, w.one, w.cells, l1, l2]
    refine ⟨Clone_call G la c.list _ _ (l0.app _) l3 (by omega) ?_⟩
    intro v h' A
    obtain ⟨t, rfl⟩ := A.tail
    have kv := A.kept
    have hlen : ∀ t, aLen Try.prog (h ++ t) 31 la = some (.v (.int .i64 c.list.length)) := fun t => by
      have := (l0.app t).len (P := Try.prog) (t := 31) Try.und31
      rw [List.length_map] at this
      exact this
    have b1 := build77 (a := .v (.int .i64 (s.lay.ver + 1))) rfl rfl A.one A.cells
    have b2 := build138 (a := .v (.int .i64 s.lay.ver)) (b := W) (c := .v (.int .i64 (s.lay.ver + 1))) (d := v)
    by_cases hll2 : c.list.length = s.chains.length
    · simp (disch := omega) only [go_sem, f1, w.one, w.cells, l1, l2, A.one, A.cells, b1, b2, two0, Nat.one_ne_zero, if_false, hlen, f3, hll2]
      have w' : Kept (h ++ some (AO.cells 33 6 [c.cells la] 0) :: (t ++ [some (.cells 138 6 [[.v (.int .i64 s.lay.ver), W, .v (.int .i64 (s.lay.ver + 1)), v, .v (.string (ByteArray.mk #[])), .v (.bool false)]] 0)])) W s.lay.wts := w.app _
      have kv' : Kept (h ++ some (AO.cells 33 6 [c.cells la] 0) :: (t ++ [some (.cells 138 6 [[.v (.int .i64 s.lay.ver), W, .v (.int .i64 (s.lay.ver + 1)), v, .v (.string (ByteArray.mk #[])), .v (.bool false)]] 0)])) v c.list := by
        have := kv.app [some (.cells 138 6 [[.v (.int .i64 s.lay.ver), W, .v (.int .i64 (s.lay.ver + 1)), v, .v (.string (ByteArray.mk #[])), .v (.bool false)]] 0)]
        simpa using this
      refine ⟨chgCheck_call G ⟨s.lay, ⟨s.lay.ver + 1, c.list⟩, [], false⟩ W v _ _ w' kv' (by simp only; omega) (by simp only; omega) (by simp) (by simp only; omega) rfl ?_⟩
      cases hok : Chg.ok ⟨s.lay, ⟨s.lay.ver + 1, c.list⟩, [], false⟩ with
      | false =>
        rw [if_pos (.inr hok)] at hk
        simp (disch := omega) only [go_sem, Bool.false_eq_true, if_false]
        exact ret_keep (hk _ _ _ rfl (Post.same aO _))
      | true =>
        rw [if_neg (by simp [hll2, hok])] at hk
        simp (disch := omega) only [go_sem, if_true, f1, w.one, w.cells, A.one, A.cells]
        have HA := ha.app (some (AO.cells 33 6 [c.cells la] 0) :: (t ++ [some (.cells 138 6 [[.v (.int .i64 s.lay.ver), W, .v (.int .i64 (s.lay.ver + 1)), v, .v (.string (ByteArray.mk #[])), .v (.bool false)]] 0)]))
        have := HA.setP (s' := { s with chg := some ⟨s.lay, ⟨s.lay.ver + 1, c.list⟩, [], false⟩ }) (CH' := .ptr (h.length + (t.length + 1)) 0 0 0) rfl HA.sl HA.ch HA.wts ⟨_, W, v, rfl, by rw [Go.Abs.get_add]; simp, w', kv'⟩
        exact ret_keep (hk _ _ _ rfl (Post.setP (Ext.app _) hown (fun i hi => .inl (hown i hi)) _ _ _ this))
    · rw [if_pos (.inl hll2)] at hk
      simp (disch := omega) only [go_sem, f1, w.one, w.cells, l1, l2, A.one, A.cells, b1, b2, two0, Nat.one_ne_zero, if_false, hlen, f3, hll2]
      exact ret_keep (hk _ _ _ rfl (Post.same aO _))
end Go.Proofs

/-
  What is written when a chain is made.
-/
namespace Go.Proofs
open Go Go.Abs
set_option maxRecDepth 100000
set_option linter.unusedSimpArgs false
structure Fr (O : Nat → Prop) (h h' : AH) : Prop where
  len : h.length ≤ h'.length
  get : ∀ i, i < h.length → ¬ O i → h'[i]? = h[i]?
section
variable {h h' h'' : AH} {O : Nat → Prop}
theorem Fr.refl : Fr O h h := ⟨Nat.le_refl _, fun _ _ _ => rfl⟩
theorem Fr.ext (e : Ext h h') : Fr O h h' := ⟨e.len, fun i hi _ => e.get i hi⟩
theorem Fr.trans (a : Fr O h h') (b : Fr O h' h'') : Fr O h h'' := ⟨Nat.le_trans a.len b.len, fun i hi hO => (b.get i (Nat.lt_of_lt_of_le hi a.len) hO).trans (a.get i hi hO)⟩
theorem Fr.set {j : Nat} {o : Option AO} (hj : O j) : Fr O h (h.set j o) := ⟨by simp, fun i _ hO => List.getElem?_set_ne (by rintro rfl; exact hO hj)⟩
end
/-- The admin's own object is written. -/
theorem setObj {h : AH} {p bid : Nat} {rs : List (List AV)} {C' W' CH' : AV} {rows' : List (List AV)} {s' : Adm} (ho : h[p]? = some (some (.cells 80 5 rs 0))) (hb : h[bid]? = some (some (.cells 75 2 (s'.bricks.map bkrow) 0))) (hs : ChSl h C' rows') (hr : ChRows h rows' s'.chains) (hw : Kept h W' s'.lay.wts) (hc : ChgAt h CH' s'.chg) :
    AdmAt (h.set p (some (.cells 80 5 [[.sl bid 0 0 s'.bricks.length none, C', .v (.int .i64 s'.lay.ver), W', CH']] 0))) p bid C' rows' W' CH' s' := by
  have kp : Kp h (h.set p (some (.cells 80 5 [[.sl bid 0 0 s'.bricks.length none, C', .v (.int .i64 s'.lay.ver), W', CH']] 0))) := Kp.set ho (by decide)
  refine ⟨?_, ?_, ?_, hr.keep kp, hw.keep kp, ?_⟩
  · rw [List.getElem?_set_self (List.getElem?_eq_some_iff.mp ho).1]
  · rw [List.getElem?_set_ne (apart ho hb (by decide))]; exact hb
  · rcases hs with h1 | ⟨id, g, h1, h2⟩
    · exact .inl h1
    · exact .inr ⟨id, g, h1, by rw [List.getElem?_set_ne (apart ho h2 (by decide))]; exact h2⟩
  · cases hcc : s'.chg with
    | none => rw [hcc] at hc; exact hc
    | some c =>
      rw [hcc] at hc
      obtain ⟨x, W1, W2, h1, h2, h3, h4⟩ := hc
      exact ⟨x, W1, W2, h1, by rw [List.getElem?_set_ne (apart ho h2 (by decide))]; exact h2, h3.keep kp, h4.keep kp⟩
/-- Bricks are written. -/
theorem AdmAt.setB {h : AH} {p bid : Nat} {C W CH : AV} {rows : List (List AV)} {s : Adm} (a : AdmAt h p bid C rows W CH s) (bl : List (Int × Int)) (hl : bl.length = s.bricks.length) :
    AdmAt (h.set bid (some (.cells 75 2 (bl.map bkrow) 0))) p bid C rows W CH { s with bricks := bl } := by
  have kp : Kp h (h.set bid (some (.cells 75 2 (bl.map bkrow) 0))) := Kp.set a.bri (by decide)
  refine ⟨?_, ?_, ?_, a.ch.keep kp, a.wts.keep kp, ?_⟩
  · rw [List.getElem?_set_ne (apart a.bri a.obj (by decide)), a.obj]; simp [hl]
  · rw [List.getElem?_set_self (List.getElem?_eq_some_iff.mp a.bri).1]
  · rcases a.sl with h1 | ⟨id, g, h1, h2⟩
    · exact .inl h1
    · exact .inr ⟨id, g, h1, by rw [List.getElem?_set_ne (apart a.bri h2 (by decide))]; exact h2⟩
  · have hc := a.chg
    cases hcc : s.chg with
    | none => rw [hcc] at hc; exact hc
    | some c =>
      rw [hcc] at hc
      obtain ⟨x, W1, W2, h1, h2, h3, h4⟩ := hc
      exact ⟨x, W1, W2, h1, by rw [List.getElem?_set_ne (apart a.bri h2 (by decide))]; exact h2, h3.keep kp, h4.keep kp⟩
/-- A chain more. -/
theorem chain_app {H : AH} {C : AV} {rows : List (List AV)} {row : List AV} {i : Nat} {K : AV → AH → Prop} (hs : ChSl H C rows) (hl : rows.length ≤ 100) (hi : H[i]? = some (some (.cells 37 3 [row] 0))) (hrow : row.length = 3)
    (hrl : ∀ r ∈ rows, r.length = 3)
    (hk : ∀ C' H', H.length ≤ H'.length → (∀ j, j < H.length → Off C j → H'[j]? = H[j]?) → Kp H H' → ChSl H' C' (rows ++ [row]) → C'.one = true → C'.cells = [C'] → (∀ id g o l c, C' = .sl id g o l c → (∃ g o l c, C = .sl id g o l c) ∨ H.length ≤ id) → K C' H') :
    appR Try.prog H 29 29 C (.sl i 0 0 1 none) K := by
  have hy : srcRows H (.sl i 0 0 1 none) = some [row] := by simp [srcRows, rowsOf, hi, chk]
  rcases hs with ⟨rfl, rfl⟩ | ⟨id, g, rfl, h1⟩
  · refine ⟨?_⟩
    refine app_nil Try.und29 Try.azero37 Try.byt37 (by exact Try.plainSrc29) hy (by simpa using hrow) (by rintro ⟨s, hs⟩; cases hs) (by simp) (by simp) ?_
    refine hk _ _ (by simp) (fun j hj _ => by rw [List.getElem?_append_left hj]) (Kp.app _) (.inr ⟨H.length, 0, rfl, by simp⟩) rfl rfl ?_
    intro id g o l c hx
    cases hx
    exact .inr (Nat.le_refl _)
  · refine ⟨?_⟩
    refine app_sl Try.und29 Try.azero37 Try.byt37 (by exact Try.plainSrc29) h1 rfl hy (by simpa using hrow) (by rintro ⟨s, hs⟩; cases hs) (by simp; omega) (by simp; omega) ?_
    refine hk _ _ (by simp) (fun j hj ho => List.getElem?_set_ne (ho _ _ _ _ _ rfl)) (Kp.set h1 (by decide)) (.inr ⟨id, g + 1, by simp, by rw [List.getElem?_set_self (List.getElem?_eq_some_iff.mp h1).1]⟩) rfl rfl ?_
    intro id' g o l c hx
    cases hx
    exact .inl ⟨_, _, _, _, rfl⟩
end Go.Proofs

/-
  Contracts: a chain is made.
-/
namespace Go.Abs
section
variable {P : Program} {h : AH} {ty e : TypeId} {n : Nat} {a : AV} {rows : List (List AV)}
/-- Cut off behind. -/
theorem Sees.upto (s : Sees h n a rows) (hu : und P ty = .slice e) (hn : siz P e = some n) {k : IntKind} {hi : Nat} (hhi : hi ≤ rows.length) :
    ∃ a', (∀ t, aSlice P (h ++ t) ty a none (some (some (.v (.int k hi)))) none = some a') ∧ Sees h n a' (rows.take hi) := by
  obtain ⟨hr, ⟨rfl, rfl⟩ | ⟨f, nn, rfl⟩ | ⟨id, gen, off, cap, e', rs, rfl, h1, h2, h3, h5⟩⟩ := s
  · have : hi = 0 := by simpa using hhi
    subst this
    refine ⟨.v (.slice none 0 0), fun t => ?_, ⟨by simp, .inl ⟨rfl, by simp⟩⟩⟩
    simp [aSlice, hu, hn, bnd, chk]
  · refine ⟨.lst (rows.take hi) (f && ((hi : Int) == (rows.length : Int))) nn, fun t => ?_, Sees.lst fun r hm => hr r (List.mem_of_mem_take hm)⟩
    simp only [aSlice, hu, hn, bnd, chk]
    rw [if_pos ⟨by omega, by omega, by omega, hr⟩]
    simp
  · have h1' : ∀ t : AH, (h ++ t)[id]? = some (some (.cells e' n rs gen)) := fun t => by rw [List.getElem?_append_left (List.getElem?_eq_some_iff.mp h1).1]; exact h1
    refine ⟨.sl id gen off hi cap, fun t => ?_, ?_⟩
    · have hroom : (hi : Int) ≤ roomOf rs off rows.length cap := by
        cases cap with
        | none => simp only [roomOf]; omega
        | some c => simp only [roomOf]; have := h5 c rfl; omega
      simp only [aSlice, hu, hn, bnd, h1', chk]
      rw [if_pos ⟨trivial, trivial, by omega, by omega, hroom⟩]
      simp
    · refine ⟨fun r hm => hr r (List.mem_of_mem_take hm), .inr (.inr ⟨id, gen, off, cap, e', rs, by rw [List.length_take, Nat.min_eq_left hhi], h1, by rw [List.length_take]; omega, ?_, ?_⟩)⟩
      · have e : rows.take hi = ((rs.drop off).take rows.length).take hi := by rw [h3]
        rw [List.length_take, Nat.min_eq_left hhi, e, List.take_take, Nat.min_eq_left hhi]
      · intro c hc
        rw [List.length_take]
        have := h5 c hc
        omega
end
end Go.Abs
namespace Go.Proofs
open Go Go.Abs
set_option maxRecDepth 100000
set_option linter.unusedSimpArgs false
theorem out_call (G : Nat → Option AV) (i p : Nat) (O : Nat → Prop) (s : Adm) (x : Int) (h : AH) (K : AV → AH → Prop) (a : AdmOf h p O s) (hi : h[i]? = some (some (.cells 25 1 [[.ptr p 0 0 0]] 0)))
    (hk : K (.v (.bool (decide (x < 0 ∨ x ≥ s.bricks.length)))) h) : SCall Try.prog G 64 [.v (.int .i64 x), .ptr i 0 0 0] h K := by
  refine Try.c64 G _ _ h K fun hlow => ?_
  unfold Try.r64
  obtain ⟨bid, C, rows, W, CH, ha, hown⟩ := a
  obtain ⟨f1, f2, f3⟩ := ha.at
  have g1 := f1 []
  have g2 := f2 []
  rw [List.append_nil] at g1 g2
  by_cases h1 : x < 0
  · simp (disch := omega) only [go_sem, hi, g1, h1]
    rw [decide_eq_true (.inl h1)] at hk
    exact ret_same hk
  · simp (disch := omega) only [go_sem, hi, g1, h1, Nat.one_ne_zero, if_false]
    by_cases h2 : x ≥ s.bricks.length
    · rw [decide_eq_true (.inr h2)] at hk
      rw [decide_eq_true h2]
      exact ret_same hk
    · rw [decide_eq_false (by omega)] at hk
      rw [decide_eq_false h2]
      exact ret_same hk
def Adm.fresh (s : Adm) (l : List Int) : Prop := (∀ b ∈ l, (s.bk b).1 = 0) ∧ l.Nodup
instance (s : Adm) (l : List Int) : Decidable (s.fresh l) := by unfold Adm.fresh; infer_instance
def Adm.taken (s : Adm) (l : List Int) : List (Int × Int) := l.foldl (fun bs b => bs.set b.toNat (2, s.chains.length)) s.bricks
def Adm.make (s : Adm) (c : CmdA) : Int × Adm :=
  if c.list.any (fun x => decide (x < 0 ∨ x ≥ s.bricks.length)) then (1, s)
  else if c.list.length < 1 ∨ c.list.length > 8 then (180, s)
  else if ¬ s.fresh c.list then (180, s)
  else if s.chains.length ≥ 8 ∨ s.chg.isSome ∨ s.lay.ver ≥ 1073741824 then (2, s)
  else (0, ⟨s.taken c.list, s.chains ++ [⟨1, c.list, []⟩], ⟨s.lay.ver + 1, s.lay.wts ++ [16]⟩, none⟩)
theorem Ints.keep1 {h h' : AH} {a : AV} {xs : List Int} (k : ∀ (i : Nat) e rs g, h[i]? = some (some (AO.cells e 1 rs g)) → h'[i]? = some (some (AO.cells e 1 rs g))) (ha : Ints h a xs) : Ints h' a xs := by
  obtain ⟨h0, h1 | h1 | ⟨id, gen, off, cap, e, rs, rfl, h2, h3⟩⟩ := ha
  · exact ⟨h0, .inl h1⟩
  · exact ⟨h0, .inr (.inl h1)⟩
  · exact ⟨h0, .inr (.inr ⟨id, gen, off, cap, e, rs, rfl, k _ _ _ _ h2, h3⟩)⟩
theorem taken_len (s : Adm) (l : List Int) : (s.taken l).length = s.bricks.length := by
  unfold Adm.taken
  have : ∀ (l : List Int) (bs : List (Int × Int)), (l.foldl (fun bs b => bs.set b.toNat (2, (s.chains.length : Int))) bs).length = bs.length := by
    intro l
    induction l with
    | nil => intro bs; rfl
    | cons b l ih => intro bs; rw [List.foldl_cons, ih, List.length_set]
  exact this l s.bricks
theorem ChRows.snoc {h : AH} {rows : List (List AV)} {l : List Chn} {y : Chn} {o r : AV} (a : ChRows h rows l) (ho : Kept h o y.ord) (hr : Kept h r y.rep) : ChRows h (rows ++ [crow y o r]) (l ++ [y]) := by
  refine ⟨by simp [a.1], ?_⟩
  intro i c hc
  by_cases hi : i < l.length
  · rw [List.getElem?_append_left hi] at hc
    obtain ⟨o', r', h1, h2, h3⟩ := a.2 i c hc
    exact ⟨o', r', by rw [List.getElem?_append_left (by rw [a.1]; exact hi)]; exact h1, h2, h3⟩
  · have hil : i = l.length := by
      have := (List.getElem?_eq_some_iff.mp hc).1
      simp at this; omega
    subst hil
    simp at hc
    subst hc
    exact ⟨o, r, by rw [← a.1]; simp, ho, hr⟩
theorem make_end (G : Nat → Option AV) (h H : AH) (K : AV → AH → Prop) (p bid : Nat) (O : Nat → Prop) (C W : AV) (rows : List (List AV)) (s : Adm) (c : CmdA) (la : AV) (aO : AdmOf h p O s) (a : AdmAt H p bid C rows W (.v (.pointer none)) s) (eH : Ext h H) (hown : ∀ i, Own p bid C i → O i)
    (hin : ∀ b ∈ c.list, 0 ≤ b ∧ b < s.bricks.length) (l0 : Ints H la c.list) (l1 : la.one = true) (l3 : ∀ r f, la ≠ .lst r f false) (hll : c.list.length ≤ 17592186044416) (i0 : H[h.length]? = some (some (.cells 25 1 [[.ptr p 0 0 0]] 0))) (i2 : H[h.length + 1]? = some (some (.cells 33 6 [c.cells la] 0)))
    (hc8 : s.chains.length < 8) (hs : s.chg = none) (ok : s.Ok)
    (hk : ∀ h', Post h p O ⟨s.taken c.list, s.chains ++ [⟨1, c.list, []⟩], ⟨s.lay.ver + 1, s.lay.wts ++ [16]⟩, none⟩ h' → K (.v (.int .i64 0)) h') : Try.r41_l14_83 K h G h.length (h.length + 1) H la c.list.length 0 := by
  unfold Try.r41_l14_83
  refine ⟨fun m vs h2 => ∃ k : Nat, k ≤ c.list.length ∧ m = c.list.length - k ∧ vs = [.v (.int .i64 k)] ∧ h2.length = H.length ∧ (∀ j, j ≠ bid → h2[j]? = H[j]?) ∧ AdmAt h2 p bid C rows W (.v (.pointer none)) { s with bricks := s.taken (c.list.take k) }, c.list.length, ⟨0, by omega, rfl, rfl, rfl, fun _ _ => rfl, a⟩, ?_⟩
  rintro m h2 hl1 hlow2 n ⟨k, hk1, rfl, hvs, e1, e2, A⟩
  simp only [List.cons.injEq, AV.v.injEq, Value.int.injEq, true_and, and_true] at hvs
  subst hvs
  have j0 : h2[h.length]? = some (some (.cells 25 1 [[.ptr p 0 0 0]] 0)) := by rw [e2 _ (apart i0 a.bri (by decide))]; exact i0
  have j2 : h2[h.length + 1]? = some (some (.cells 33 6 [c.cells la] 0)) := by rw [e2 _ (apart i2 a.bri (by decide))]; exact i2
  have L2 : Ints h2 la c.list := Ints.keep1 (fun i e rs g hi => by
    rw [e2]
    · exact hi
    · rintro rfl
      rw [a.bri] at hi
      cases hi) l0
  obtain ⟨F1, F2, F3⟩ := A.at
  have G1 := F1 []
  have G2 := F2 []
  have G3 := F3 []
  rw [List.append_nil] at G1 G2 G3
  simp only [taken_len] at F1 G1
  by_cases hkl : k < c.list.length
  · obtain ⟨b, hb⟩ := getI hkl
    obtain ⟨q, q1, q2⟩ := Ints.at L2 hb
    have q1 := q1 []
    have q2 := q2 []
    rw [List.append_nil] at q1 q2
    obtain ⟨hb0, hb1⟩ := hin b (List.mem_of_getElem? hb)
    obtain ⟨kb, rfl⟩ : ∃ kb : Nat, b = kb := ⟨b.toNat, by omega⟩
    have hkb : kb < (s.taken (c.list.take k)).length := by rw [taken_len]; omega
    have hbr : ((s.taken (c.list.take k)).map bkrow)[kb]? = some (bkrow (s.taken (c.list.take k))[kb]) := by rw [List.getElem?_map, List.getElem?_eq_getElem hkb]; rfl
    have etake : s.taken (c.list.take (k + 1)) = (s.taken (c.list.take k)).set kb (2, s.chains.length) := by
      unfold Adm.taken
      rw [List.take_add_one, hb]
      simp [List.foldl_append]
    simp (disch := omega) only [go_sem, q1, q2, j0, G1, G2, G3, hbr, two0, Nat.one_ne_zero, if_false]
    refine next_keep (c.list.length - (k + 1)) ?_ (by rw [List.length_set]; exact hl1) ?_
    · omega
    have := A.setB ((s.taken (c.list.take k)).set kb (2, s.chains.length)) (by simp)
    rw [List.map_set] at this
    refine ⟨k + 1, by omega, rfl, rfl, by rw [List.length_set, e1], fun j hj => (List.getElem?_set_ne hj.symm).trans (e2 j hj), ?_⟩
    rw [etake]
    exact this
  · have hkk : k = c.list.length := by omega
    subst hkk
    rw [List.take_length] at *
    simp (disch := omega) only [go_sem, j0, j2, G1, two0, Nat.one_ne_zero, if_false, l1]
    refine ⟨Clone_call G la c.list _ _ L2 l3 (by omega) ?_⟩
    intro v h3 A1
    obtain ⟨t, rfl⟩ := A1.tail
    have j0' : ∀ t : AH, (h2 ++ t)[h.length]? = some (some (.cells 25 1 [[.ptr p 0 0 0]] 0)) := fun t => by rw [List.getElem?_append_left (List.getElem?_eq_some_iff.mp j0).1]; exact j0
    have b1 := build37b (a := .v (.int .i64 1)) rfl rfl A1.one A1.cells
    have wo := A.wts.one
    have wc := A.wts.cells
    simp (disch := omega) only [go_sem, j0', F1, b1, two0, Nat.one_ne_zero, if_false, A1.one, A1.cells, wo, wc]
    have AX := A.app (t ++ [some (.cells 37 3 [[.v (.int .i64 1), v, .v (.slice none 0 0)]] 0)])
    refine chain_app (row := [.v (.int .i64 1), v, .v (.slice none 0 0)]) AX.sl (by rw [A.ch.1]; simp only; omega) (by rw [Go.Abs.get_add]; simp) rfl (AX.sl.sees AX.ch).1 ?_
    intro C' H3 hl3 hf3 kp3 sl3 c1 c2 own3
    generalize hHX : h2 ++ (t ++ [some (AO.cells 37 3 [[AV.v (.int .i64 1), v, AV.v (.slice none 0 0)]] 0)]) = HX at *
    have offC : ∀ {j : Nat} {e : TypeId} {n g : Nat} {r : List (List AV)}, HX[j]? = some (some (.cells e n r g)) → e ≠ 37 → Off C j := by
      intro j e n g r hj he id g' o l c' hx
      rcases AX.sl with ⟨h1, _⟩ | ⟨cid, g2, h1, h3⟩
      · rw [h1] at hx; cases hx
      · rw [h1] at hx
        cases hx
        exact (apart hj h3 he).symm
    have k0 : HX[h.length]? = some (some (.cells 25 1 [[.ptr p 0 0 0]] 0)) := by rw [← hHX]; exact j0' _
    have lt : ∀ {j : Nat} {o : Option AO}, HX[j]? = some o → j < HX.length := fun hj => (List.getElem?_eq_some_iff.mp hj).1
    have g0 : H3[h.length]? = some (some (.cells 25 1 [[.ptr p 0 0 0]] 0)) := by rw [hf3 _ (lt k0) (offC k0 (by decide))]; exact k0
    have gp := (hf3 _ (lt AX.obj) (offC AX.obj (by decide))).trans AX.obj
    have gb := (hf3 _ (lt AX.bri) (offC AX.bri (by decide))).trans AX.bri
    simp only [taken_len] at gp
    have s0 : ∀ o, (H3.set p o)[h.length]? = some (some (.cells 25 1 [[.ptr p 0 0 0]] 0)) := fun o => by rw [List.getElem?_set_ne (apart gp g0 (by decide))]; exact g0
    have sp : ∀ o, (H3.set p o)[p]? = some o := fun o => List.getElem?_set_self (List.getElem?_eq_some_iff.mp gp).1
    simp (disch := omega) only [go_sem, g0, gp, s0, sp, c1, c2, wo, wc, two0, Nat.one_ne_zero, if_false]
    have kv : Kept HX v c.list := by rw [← hHX, ← List.append_assoc]; exact A1.kept.app _
    have A4 := setObj (s' := ⟨s.taken c.list, s.chains ++ [⟨1, c.list, []⟩], s.lay, none⟩) (CH' := .v (.pointer none)) gp gb sl3 ((AX.ch.keep kp3).snoc (y := ⟨1, c.list, []⟩) (kv.keep kp3) (.inl ⟨rfl, rfl⟩)) (AX.wts.keep kp3) rfl
    simp only [taken_len] at A4
    have fr1 : Fr O h H3 := by
      refine ((Fr.ext eH).trans (h'' := h2) ⟨by omega, fun i _ hO => e2 i (by rintro rfl; exact hO (hown _ (.inr (.inl rfl))))⟩).trans ?_
      refine (Fr.ext (h' := HX) (by rw [← hHX]; exact Ext.app _)).trans ⟨hl3, fun i hi hO => hf3 i hi ?_⟩
      rintro id g o l c' hx rfl
      exact hO (hown _ (.inr (.inr ⟨_, _, _, _, hx⟩)))
    have fr2 := fr1.trans (Fr.set (h := H3) (j := p) (o := some (AO.cells 80 5 [[AV.sl bid 0 0 s.bricks.length none, C', AV.v (.int .i64 s.lay.ver), W, AV.v (.pointer none)]] 0)) (hown _ (.inl rfl)))
    have s0 := s0 (some (AO.cells 80 5 [[AV.sl bid 0 0 s.bricks.length none, C', AV.v (.int .i64 s.lay.ver), W, AV.v (.pointer none)]] 0))
    generalize H3.set p (some (AO.cells 80 5 [[AV.sl bid 0 0 s.bricks.length none, C', AV.v (.int .i64 s.lay.ver), W, AV.v (.pointer none)]] 0)) = H4 at *
    obtain ⟨E1, E2, E3⟩ := A4.at
    simp only [taken_len] at E1
    have s0' : ∀ t : AH, (H4 ++ t)[h.length]? = some (some (.cells 25 1 [[.ptr p 0 0 0]] 0)) := fun t => by rw [List.getElem?_append_left (List.getElem?_eq_some_iff.mp s0).1]; exact s0
    have hwl := ok.wts
    refine ⟨Clone_call G W s.lay.wts _ _ A4.wts.ints A4.wts.nn (by omega) ?_⟩
    intro v2 h5 A2
    obtain ⟨t2, rfl⟩ := A2.tail
    have hvr := ok.ver
    simp (disch := omega) only [go_sem, E1, s0', two0, Nat.one_ne_zero, if_false, wo, wc]
    refine A2.pushAt [some (.cells 3 1 [irow 16] 0)] (by rw [List.append_assoc]) (row := irow 16) (e' := 3) (i := H4.length + t2.length) (g := 0) (by rw [Go.Abs.get_add]; simp) Try.und31 Try.azero3 Try.byt3 (by exact Try.plainSrc31) rfl (by simp; omega) (by simp; omega) ?_
    intro w' h6 A6 hl6 st6
    obtain ⟨t6, rfl⟩ := A6.tail
    have b7 := build77 (a := .v (.int .i64 (s.lay.ver + 1))) rfl rfl A6.one A6.cells
    have A6' : AccR 3 1 H4 w' (H4 ++ t6) ((s.lay.wts ++ [16]).map irow) := by rw [List.map_append]; exact A6
    simp (disch := omega) only [go_sem, E1, s0', b7, A6.one, A6.cells, two0, Nat.one_ne_zero, if_false]
    have A7 := setObj (s' := ⟨s.taken c.list, s.chains ++ [⟨1, c.list, []⟩], ⟨s.lay.ver + 1, s.lay.wts ++ [16]⟩, none⟩) (CH' := .v (.pointer none)) (A4.app t6).obj (A4.app t6).bri (A4.app t6).sl (A4.app t6).ch A6'.kept rfl
    simp only [taken_len] at A7
    have fr3 := (fr2.trans (Fr.ext (Ext.app t6))).trans (Fr.set (h := H4 ++ t6) (j := p) (o := some (AO.cells 80 5 [[AV.sl bid 0 0 s.bricks.length none, C', AV.v (.int .i64 (s.lay.ver + 1)), w', AV.v (.pointer none)]] 0)) (hown _ (.inl rfl)))
    refine ret_keep (hk _ ⟨fr3.len, fr3.get, bid, C', _, _, _, A7, ?_⟩)
    intro i hi
    rcases hi with h1 | h1 | ⟨g, o, l, c', h1⟩
    · exact .inl (hown _ (.inl h1))
    · exact .inl (hown _ (.inr (.inl h1)))
    · rcases own3 _ _ _ _ _ h1 with ⟨g2, o2, l2, c2, hq⟩ | hq
      · exact .inl (hown _ (.inr (.inr ⟨_, _, _, _, hq⟩)))
      · right
        have := eH.len
        have : HX.length ≥ h2.length := by rw [← hHX]; simp
        omega
theorem make_call (G : Nat → Option AV) (h : AH) (K : AV → AH → Prop) (p : Nat) (O : Nat → Prop) (s : Adm) (c : CmdA) (la : AV) (a : AdmOf h p O s) (ok : s.Ok) (l0 : Ints h la c.list) (l1 : la.one = true) (l2 : la.cells = [la]) (l3 : ∀ r f, la ≠ .lst r f false) (hll : c.list.length ≤ 17592186044416)
    (hk : ∀ e s' h', s.make c = (e, s') → Post h p O s' h' → K (.v (.int .i64 e)) h') : SCall Try.prog G 41 [.ptr p 0 0 0, .agg (c.cells la)] h K := by
  refine Try.c41 G _ _ h K fun hlow => ?_
  unfold Try.r41
  have aO := a
  obtain ⟨bid, C, rows, W, CH, ha, hown⟩ := a
  obtain ⟨f1, f2, f3⟩ := ha.at
  unfold Adm.make at hk
  have hlen : ∀ t, aLen Try.prog (h ++ t) 31 la = some (.v (.int .i64 c.list.length)) := fun t => by
    have := (l0.app t).len (P := Try.prog) (t := 31) Try.und31
    rw [List.length_map] at this
    exact this
  simp (disch := omega) only [go_sem, l1, l2]
  refine ⟨ContainsFunc_call G la c.list 64 [] [.ptr h.length 0 0 0] (fun x => decide (x < 0 ∨ x ≥ s.bricks.length)) _ _ (l0.app _) (by omega) (fun x K hK => out_call G h.length p O s x _ K (aO.app _) (by simp) hK) ?_⟩
  cases hout : c.list.any (fun x => decide (x < 0 ∨ x ≥ s.bricks.length)) with
  | true =>
    rw [if_pos hout] at hk
    simp (disch := omega) only [go_sem]
    exact ret_keep (hk _ _ _ rfl (Post.same aO _))
  | false =>
  simp only [hout, Bool.false_eq_true, if_false] at hk
  by_cases hl8 : c.list.length < 1 ∨ c.list.length > 8
  · rw [if_pos hl8] at hk
    by_cases hl1 : c.list.length < 1
    · simp (disch := omega) only [go_sem, l1, l2, hlen, hl1]
      exact ret_keep (hk _ _ _ rfl (Post.same aO _))
    · have hl9 : c.list.length > 8 := by omega
      simp (disch := omega) only [go_sem, l1, l2, hlen, hl1, hl9]
      exact ret_keep (hk _ _ _ rfl (Post.same aO _))
  rw [if_neg hl8] at hk
  simp (disch := omega) only [go_sem, l1, l2, hlen]
  have hin : ∀ b ∈ c.list, 0 ≤ b ∧ b < s.bricks.length := by
    intro b hb
    have := (List.any_eq_false.mp hout) b hb
    simp only [decide_eq_true_eq] at this
    omega
  have hi0 : ∀ t : AH, (h ++ some (AO.cells 25 1 [[.ptr p 0 0 0]] 0) :: t)[h.length]? = some (some (.cells 25 1 [[.ptr p 0 0 0]] 0)) := fun t => by simp
  generalize hH : h ++ [some (AO.cells 25 1 [[AV.ptr p 0 0 0]] 0), some (AO.cells 33 (1 + 1 + 1 + 1 + 1 + 1) [c.cells la] 0)] = H
  have eH : Ext h H := by rw [← hH]; exact Ext.app _
  have aH := aO.ext eH
  have haH := ha.ext eH
  obtain ⟨F1, F2, F3⟩ := haH.at
  have G1 := F1 []
  have G2 := F2 []
  have G3 := F3 []
  rw [List.append_nil] at G1 G2 G3
  have i0 : H[h.length]? = some (some (.cells 25 1 [[.ptr p 0 0 0]] 0)) := by rw [← hH]; simp
  have i2 : H[h.length + 1]? = some (some (.cells 33 6 [c.cells la] 0)) := by rw [← hH]; simp
  have L0 : Ints H la c.list := by rw [← hH]; exact l0.app _
  have hps : ∀ t, Post h p O s (H ++ t) := fun t => by rw [← hH, List.append_assoc]; exact Post.same aO _
  unfold Try.r41_l6_21
  refine ⟨fun m vs h' => ∃ k : Nat, k ≤ c.list.length ∧ m = c.list.length - k ∧ h' = H ∧ s.fresh (c.list.take k) ∧ vs = [.v (.int .i64 k)], c.list.length, ⟨0, by omega, rfl, rfl, by simp [Adm.fresh], rfl⟩, ?_⟩
  rintro m h' hl1 hlow2 n ⟨k, hk1, rfl, rfl, hfr, hvs⟩
  simp only [List.cons.injEq, AV.v.injEq, Value.int.injEq, true_and, and_true] at hvs
  subst hvs
  by_cases hkl : k < c.list.length
  · obtain ⟨b, hb⟩ := getI hkl
    obtain ⟨q, q1, q2⟩ := Ints.at L0 hb
    have q1 := q1 []
    have q2 := q2 []
    rw [List.append_nil] at q1 q2
    have hbm := List.mem_of_getElem? hb
    obtain ⟨hb0, hb1⟩ := hin b hbm
    obtain ⟨kb, rfl⟩ : ∃ kb : Nat, b = kb := ⟨b.toNat, by omega⟩
    obtain ⟨x, hx⟩ : ∃ x, s.bricks[kb]? = some x := ⟨s.bricks[kb]'(by omega), by simp⟩
    have hbr : (s.bricks.map bkrow)[kb]? = some (bkrow x) := by rw [List.getElem?_map, hx]; rfl
    have etake : c.list.take (k + 1) = c.list.take k ++ [(kb : Int)] := by rw [List.take_add_one, hb]; rfl
    by_cases hx0 : x.1 = 0
    · obtain ⟨sl, s1, s2⟩ := L0.upto (P := Try.prog) (ty := 31) (k := .i64) (hi := k) Try.und31 Try.siz3 (by simpa using hk1)
      have s1 := s1 []
      rw [List.append_nil] at s1
      rw [← List.map_take] at s2
      simp (disch := omega) only [go_sem, q1, q2, i0, i2, G1, G2, hbr, hx0, s1, l1]
      refine ⟨Contains_call G sl (c.list.take k) kb _ _ s2 (by simp; omega) ?_⟩
      by_cases hmem : (kb : Int) ∈ c.list.take k
      · simp (disch := omega) only [go_sem, decide_eq_true hmem]
        rw [if_pos] at hk
        · have := hps []
          rw [List.append_nil] at this
          exact ret_keep (hk _ _ _ rfl this)
        · rintro ⟨_, hnd⟩
          rw [← List.take_append_drop (k + 1) c.list, etake] at hnd
          have := (List.nodup_append.mp (List.nodup_append.mp hnd).1).2.2 _ hmem _ (List.mem_singleton.mpr rfl)
          exact this rfl
      · simp (disch := omega) only [go_sem, decide_eq_false hmem]
        refine next_keep (c.list.length - (k + 1)) ?_ (Nat.le_refl _) ?_
        · omega
        refine ⟨k + 1, by omega, rfl, rfl, ?_, rfl⟩
        rw [etake]
        refine ⟨?_, ?_⟩
        · intro y hy
          rcases List.mem_append.mp hy with hy | hy
          · exact hfr.1 y hy
          · rw [List.mem_singleton.mp hy, bk_eq hx]; exact hx0
        · refine List.nodup_append.mpr ⟨hfr.2, by simp, ?_⟩
          intro y hy z hz
          rw [List.mem_singleton.mp hz]
          rintro rfl
          exact hmem hy
    · simp (disch := omega) only [go_sem, q1, q2, i0, i2, G1, G2, hbr, hx0, l1]
      rw [if_pos] at hk
      · have := hps []
        rw [List.append_nil] at this
        exact ret_keep (hk _ _ _ rfl this)
      · rintro ⟨hall, _⟩
        have := hall kb hbm
        rw [bk_eq hx] at this
        exact hx0 this
  · rw [List.take_of_length_le (by omega)] at hfr
    rw [if_neg (by simpa using hfr)] at hk
    have cH := haH.chg
    by_cases hc8 : s.chains.length ≥ 8
    · rw [if_pos (.inl hc8)] at hk
      simp (disch := omega) only [go_sem, G1, G3, i0, i2, Nat.one_ne_zero, if_false]
      have := hps []
      rw [List.append_nil] at this
      exact ret_keep (hk _ _ _ rfl this)
    cases hs : s.chg with
    | some g =>
      rw [if_pos (.inr (.inl (by rw [hs]; rfl)))] at hk
      rw [hs] at cH
      obtain ⟨x, W1, W2, rfl, h2, h3, h4⟩ := cH
      simp (disch := omega) only [go_sem, G1, G3, i0, i2, Nat.one_ne_zero, if_false, pn1 Try.und78]
      have := hps []
      rw [List.append_nil] at this
      exact ret_keep (hk _ _ _ rfl this)
    | none =>
    rw [hs] at cH hk
    obtain rfl : CH = .v (.pointer none) := cH
    by_cases hbig : s.lay.ver ≥ 1073741824
    · rw [if_pos (.inr (.inr hbig))] at hk
      simp (disch := omega) only [go_sem, G1, G3, i0, i2, Nat.one_ne_zero, if_false, pn2 Try.und78]
      have := hps []
      rw [List.append_nil] at this
      exact ret_keep (hk _ _ _ rfl this)
    rw [if_neg (by simp; omega)] at hk
    simp (disch := omega) only [go_sem, G1, G3, i0, i2, Nat.one_ne_zero, if_false, pn2 Try.und78, l1]
    have hlenH : aLen Try.prog h' 31 la = some (.v (.int .i64 c.list.length)) := by
      have := L0.len (P := Try.prog) (t := 31) Try.und31
      rw [List.length_map] at this
      exact this
    simp (disch := omega) only [go_sem, hlenH, two0, if_false]
    clear hfr hk1 hkl hl1 hlow2 hps i2 F1 F2 F3 G1 G2 G3 hlenH
    refine make_end G h h' K p bid O C W rows s c la aO haH eH hown hin L0 l1 l3 hll (by rw [← hH]; simp) (by rw [← hH]; simp) (by omega) hs ok ?_
    intro h9 hp
    exact hk _ _ _ rfl hp
end Go.Proofs
