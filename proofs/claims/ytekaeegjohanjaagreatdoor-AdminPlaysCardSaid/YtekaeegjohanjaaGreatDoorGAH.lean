/-
  Contracts: a command on a brick.
-/
import Derived.Test.YtekaeegjohanjaaGreatDoorGAG
import Derived.KernelRfl
import Derived.Test.YtekaeegjohanjaaGreatDoorGAD
import Derived.Test.YtekaeegjohanjaaGreatDoorGAE
set_option linter.all false
namespace Go.Proofs
open Go Go.Abs
set_option maxRecDepth 100000
set_option linter.unusedSimpArgs false
def Adm.to (kind : Int) (al : Bool) (n : Int) : Int × Int :=
  if kind = 3 then (0, -1) else if kind = 4 then (3, n) else if kind = 6 then (2, n) else if kind = 5 then (if al then (2, n) else (1, n)) else (1, n)
def rm (b : Int) (l : List Int) : List Int := l.filter (fun x => !decide (x = b))
def Chn.turn (c : Chn) (al : Bool) (to : Int × Int) (b : Int) : Chn :=
  ⟨c.ep + 1, rm b c.ord ++ (if al || decide (to.1 = 2) then [b] else []), rm b c.rep ++ (if !(al || decide (to.1 = 2)) && decide (to.1 = 1) then [b] else [])⟩
def Adm.turn (s : Adm) (c : CmdA) (k n : Nat) : Int × Adm :=
  if c.kind = 6 ∧ c.epoch ≠ (s.cn n).ep then (150, s)
  else if (s.cn n).ep ≥ 1073741824 then (2, s)
  else (0, s.put n ((s.cn n).turn (decide (c.kind ≠ 2) && s.alone k) (Adm.to c.kind (decide (c.kind ≠ 2) && s.alone k) n) k) k (Adm.to c.kind (decide (c.kind ≠ 2) && s.alone k) n))

theorem AdmOf.ext {h h' : AH} {p : Nat} {O : Nat → Prop} {s : Adm} (a : AdmOf h p O s) (e : Ext h h') : AdmOf h' p O s := by
  obtain ⟨bid, C, rows, W, CH, h1, h2⟩ := a
  exact ⟨bid, C, rows, W, CH, h1.ext e, h2⟩
theorem is_call (G : Nat → Option AV) (i : Nat) (k x : Int) (h : AH) (K : AV → AH → Prop) (hi : h[i]? = some (some (.cells 3 1 [irow k] 0))) (hk : K (.v (.bool (decide (x = k)))) h) : SCall Tryz.prog G 138 [.v (.int .i64 x), .ptr i 0 0 0] h K := by
  refine Tryz.c138 G _ _ h K fun hlow => ?_
  unfold Tryz.r138
  simp (disch := omega) only [go_sem, hi]
  exact ret_same hk

theorem turn_call (G : Nat → Option AV) (h H : AH) (K : AV → AH → Prop) (p i0 i3 k n : Nat) (O : Nat → Prop) (s : Adm) (c : CmdA) (la : AV) (c0 : Chn) (x : Int × Int) (a : AdmOf h p O s) (ok : s.Ok) (hH : Ext h H)
    (hi0 : H[i0]? = some (some (.cells 33 6 [c.cells la] 0))) (hi3 : H[i3]? = some (some (.cells 3 1 [irow k] 0))) (hx : s.bricks[k]? = some x) (hc : s.chains[n]? = some c0) (hxn : c.kind ≠ 2 → x.2 = n)
    (hk : ∀ e s' h', s.turn c k n = (e, s') → Post h p O s' h' → K (.v (.int .i64 e)) h') : Tryz.r97_j72 K h G (.ptr p 0 0 0) i0 i3 n H := by
  unfold Tryz.r97_j72
  have aO := a.ext hH
  obtain ⟨bid, C, rows, W, CH, ha', hown⟩ := a
  have ha := ha'.ext hH
  obtain ⟨f1, f2, f3⟩ := ha.at
  have g1 := f1 []
  have g2 := f2 []
  rw [List.append_nil] at g1 g2
  obtain ⟨o, r, q, c1, c2, c3, c4, c5, q1, c6, c7⟩ := ha.chain hc
  have d4 := c4 []
  have d5 := c5 []
  rw [List.append_nil] at d4 d5
  have e0 : ∀ t : AH, (H ++ t)[i0]? = some (some (.cells 33 6 [c.cells la] 0)) := fun t => by rw [List.getElem?_append_left (List.getElem?_eq_some_iff.mp hi0).1]; exact hi0
  have e3 : ∀ t : AH, (H ++ t)[i3]? = some (some (.cells 3 1 [irow k] 0)) := fun t => by rw [List.getElem?_append_left (List.getElem?_eq_some_iff.mp hi3).1]; exact hi3
  have hps : ∀ t, Post h p O s (H ++ t) := fun t => ⟨by have := hH.len; simp; omega, fun i hi _ => by rw [List.getElem?_append_left (by have := hH.len; omega)]; exact hH.get i hi, by
    obtain ⟨bid, C, rows, W, CH, h1, h2⟩ := aO
    exact ⟨bid, C, rows, W, CH, h1.app t, fun i hi => .inl (h2 i hi)⟩⟩
  unfold Adm.turn at hk
  rw [cn_eq hc] at hk
  have hep := ok.ep c0 (List.mem_of_getElem? hc)
  have hln := chain_len ok hc
  have ne1 : ∀ k : Nat, H.length + k = H.length + k := fun _ => rfl
  by_cases h6 : c.kind = 6 ∧ c.epoch ≠ c0.ep
  · rw [if_pos h6] at hk
    obtain ⟨h6, h7⟩ := h6
    simp (disch := omega) only [go_sem, g1, d4, d5, e0, c1.one, c2.one, c1.cells, c2.cells, h6, h7]
    exact ret_keep (hk _ _ _ rfl (hps _))
  · rw [if_neg h6] at hk
    by_cases hbig : c0.ep ≥ 1073741824
    · rw [if_pos hbig] at hk
      by_cases h7 : c.kind = 6
      · have h8 : c.epoch = c0.ep := by omega
        simp (disch := omega) only [go_sem, g1, d4, d5, e0, c1.one, c2.one, c1.cells, c2.cells, h7, h8]
        exact ret_keep (hk _ _ _ rfl (hps _))
      · simp (disch := omega) only [go_sem, g1, d4, d5, e0, c1.one, c2.one, c1.cells, c2.cells, h7]
        exact ret_keep (hk _ _ _ rfl (hps _))
    rw [if_neg hbig] at hk
    have main : ∀ al : Bool, al = (decide (c.kind ≠ 2) && s.alone k) → 
      (callR Tryz.prog G 112 [o] (H ++ [some (.cells 121 3 [crow c0 o r] 0)]) (fun v109 h110 =>
        (aLoad Tryz.prog h110 31 (.ptr H.length 0 0 2) = some r) ∧ (aLoad Tryz.prog h110 3 (.ptr H.length 0 0 0) = some (.v (.int .i64 c0.ep))) ∧ callR Tryz.prog G 140 [v109, (.fn (.func 138) [] [(.ptr i3 0 0 0)])] h110 (fun v111 h112 =>
        (aLoad Tryz.prog h112 31 (.ptr H.length 0 0 2) = some r) ∧ (aLoad Tryz.prog h112 3 (.ptr H.length 0 0 0) = some (.v (.int .i64 c0.ep))) ∧ callR Tryz.prog G 112 [r] h112 (fun v113 h114 =>
        (aLoad Tryz.prog h114 3 (.ptr H.length 0 0 0) = some (.v (.int .i64 c0.ep))) ∧ callR Tryz.prog G 140 [v113, (.fn (.func 138) [] [(.ptr i3 0 0 0)])] h114 (fun v115 h116 =>
        (aLoad Tryz.prog h116 3 (.ptr H.length 0 0 0) = some (.v (.int .i64 c0.ep))) ∧ okV (aBuild Tryz.prog 121 [(0, some (.v (.int .i64 (IntKind.wrap .i64 (c0.ep + 1))))), (1, some v111), (2, some v115)]) fun v117 =>
        newO (.cells 121 3 [[(.v (.int .i64 0)), (.v (.slice none 0 0)), (.v (.slice none 0 0))]] 0) h116 fun i118 h119 =>
        (aLoad Tryz.prog h119 31 (.ptr H.length 0 0 2) = some r) ∧ (aLoad Tryz.prog h119 31 (.ptr H.length 0 0 1) = some o) ∧ (aLoad Tryz.prog h119 3 (.ptr H.length 0 0 0) = some (.v (.int .i64 c0.ep))) ∧ storeR Tryz.prog h119 (fun v120 h121 =>
        newO (.cells 101 2 [[(.v (.int .i64 0)), (.v (.int .i64 0))]] 0) h121 fun i122 h123 =>
        storeR Tryz.prog h123 (fun v124 h125 =>
        okInt .i64 (aLoad Tryz.prog h125 3 (.ptr i0 0 0 0)) fun n167 =>
        condB (n167 == 3)
        (storeR Tryz.prog h125 (fun v168 h169 =>
        Tryz.r97_j127 h K (.ptr p 0 0 0) i3 n al i118 i122 h169) 101 (.agg [(.v (.int .i64 0)), (.v (.int .i64 (-1)))]) (.ptr i122 0 0 0))
        (condB (n167 == 4)
        (storeR Tryz.prog h125 (fun v170 h171 =>
        Tryz.r97_j127 h K (.ptr p 0 0 0) i3 n al i118 i122 h171) 3 (.v (.int .i64 3)) (.ptr i122 0 0 0))
        (condB (n167 == 6)
        (storeR Tryz.prog h125 (fun v172 h173 =>
        Tryz.r97_j127 h K (.ptr p 0 0 0) i3 n al i118 i122 h173) 3 (.v (.int .i64 2)) (.ptr i122 0 0 0))
        (condB (n167 == 5)
        (condB al
        (storeR Tryz.prog h125 (fun v174 h175 =>
        Tryz.r97_j127 h K (.ptr p 0 0 0) i3 n al i118 i122 h175) 3 (.v (.int .i64 2)) (.ptr i122 0 0 0))
        (Tryz.r97_j127 h K (.ptr p 0 0 0) i3 n al i118 i122 h125))
        (Tryz.r97_j127 h K (.ptr p 0 0 0) i3 n al i118 i122 h125))))) 101 (.agg [(.v (.int .i64 1)), (.v (.int .i64 n))]) (.ptr i122 0 0 0)) 121 v117 (.ptr i118 0 0 0)))))) := by
      intro al hal
      rw [← hal] at hk
      refine ⟨Clone_call G o c0.ord _ _ (c1.app _).ints c1.nn (by omega) ?_⟩
      intro v1 h1 A1
      obtain ⟨t1, rfl⟩ := A1.tail
      simp (disch := omega) only [go_sem, c1.one, c2.one]
      rw [List.append_assoc, List.cons_append, List.nil_append] at A1
      refine ⟨DeleteFunc_call G v1 c0.ord 138 [] [.ptr i3 0 0 0] (fun x => decide (x = (k : Int))) _ _ _ A1 (by omega) ?_ ?_⟩
      · intro h' x K' hl hf hK
        refine is_call G i3 k x h' K' ?_ hK
        rw [hf i3 (by have := (List.getElem?_eq_some_iff.mp hi3).1; simp; omega) (A1.toX.offLow (by have := (List.getElem?_eq_some_iff.mp hi3).1; simp; omega))]
        exact e3 _
      intro x1 h2 X1 hl2 st2
      obtain ⟨t2, rfl⟩ := X1.tail
      simp (disch := omega) only [go_sem, c1.one, c2.one]
      rw [List.append_assoc, List.cons_append, List.nil_append] at X1
      refine ⟨Clone_call G r c0.rep _ _ (c2.app _).ints c2.nn (by omega) ?_⟩
      intro v3 h3 A3
      obtain ⟨t3, rfl⟩ := A3.tail
      simp (disch := omega) only [go_sem, c1.one, c2.one]
      rw [List.append_assoc, List.cons_append] at A3
      refine ⟨DeleteFunc_call G v3 c0.rep 138 [] [.ptr i3 0 0 0] (fun x => decide (x = (k : Int))) _ _ _ A3 (by omega) ?_ ?_⟩
      · intro h' x K' hl hf hK
        refine is_call G i3 k x h' K' ?_ hK
        rw [hf i3 (by have := (List.getElem?_eq_some_iff.mp hi3).1; simp; omega) (A3.toX.offLow (by have := (List.getElem?_eq_some_iff.mp hi3).1; simp; omega))]
        exact e3 _
      intro x3 h4 X3 hl4 st4
      obtain ⟨t4, rfl⟩ := X3.tail
      have bd := build37 (a := .v (.int .i64 (c0.ep + 1))) rfl rfl X1.one X1.cells X3.one X3.cells
      have m7 : ∀ t, ((H ++ some (.cells 121 3 [crow c0 o r] 0) :: t2 ++ t4) ++ t)[H.length]? = some (some (.cells 121 3 [crow c0 o r] 0)) := fun t => by simp
      have m0 : ∀ t, ((H ++ some (.cells 121 3 [crow c0 o r] 0) :: t2 ++ t4) ++ t)[i0]? = some (some (.cells 33 6 [c.cells la] 0)) := fun t => by rw [List.append_assoc, List.append_assoc]; exact e0 _
      have ta := turn_app h (H ++ [some (.cells 121 3 [crow c0 o r] 0)]) t2 t4 K (.ptr p 0 0 0) i3 n k al (c0.ep + 1) x1 x3 (rm k c0.ord) (rm k c0.rep) (Adm.to c.kind al n) (by rw [List.append_assoc, List.cons_append, List.nil_append]; exact X1) (by rw [show H ++ [some (AO.cells 121 3 [crow c0 o r] 0)] ++ t2 = H ++ some (AO.cells 121 3 [crow c0 o r] 0) :: t2 by simp]; exact X3) (e3 _)
        (by have := List.length_filter_le (fun x => !decide (x = (k : Int))) c0.ord; unfold rm; omega) (by have := List.length_filter_le (fun x => !decide (x = (k : Int))) c0.rep; unfold rm; omega)
      have eM : H ++ [some (.cells 121 3 [crow c0 o r] 0)] ++ t2 ++ t4 = H ++ some (.cells 121 3 [crow c0 o r] 0) :: t2 ++ t4 := by simp
      rw [eM] at ta
      have lM : H.length < (H ++ some (.cells 121 3 [crow c0 o r] 0) :: t2 ++ t4).length := by simp
      clear st2 st4 hl2 hl4 A1 A3 X1 X3 
      generalize (H ++ some (.cells 121 3 [crow c0 o r] 0) :: t2 ++ t4) = M at *
      have m7' := m7 []
      have m0' := m0 []
      rw [List.append_nil] at m7' m0'
      have ta := ta (by
        intro H' o' r' hE h118 h122 ko kr
        have hE2 : Ext H H' := ⟨by have := hE.len; simp at this; omega, fun i hi => by rw [hE.get i (by simp; omega), List.getElem?_append_left hi]⟩
        have hn : n < s.chains.length := (List.getElem?_eq_some_iff.mp hc).1
        refine turn_end h H' K p bid i3 _ _ n k 0 0 O C W CH rows s _ o' r' _ ⟨by have := hE2.len; have := hH.len; omega, fun i hi => by rw [hE2.get i (by have := hH.len; omega), hH.get i hi]⟩ (ha.ext hE2) hown (hE2.some hi3) h118 h122 rfl rfl hn (List.getElem?_eq_some_iff.mp hx).1 ko kr (by have := hH.len; omega) ?_ ?_
        · exact fun i hi => ownLt ha' hi
        · intro h' hp
          exact hk _ _ _ rfl hp)
      unfold Adm.to at ta
      by_cases k3 : c.kind = 3
      · simp (disch := omega) only [go_sem, bd, m7, m7', m0, m0', k3]
        rw [if_pos k3] at ta
        exact ta
      by_cases k4 : c.kind = 4
      · simp (disch := omega) only [go_sem, bd, m7, m7', m0, m0', k4]
        rw [if_neg k3, if_pos k4] at ta
        exact ta
      by_cases k6 : c.kind = 6
      · simp (disch := omega) only [go_sem, bd, m7, m7', m0, m0', k6]
        rw [if_neg k3, if_neg k4, if_pos k6] at ta
        exact ta
      by_cases k5 : c.kind = 5
      · rw [if_neg k3, if_neg k4, if_neg k6, if_pos k5] at ta
        cases al
        · simp (disch := omega) only [go_sem, bd, m7, m7', m0, m0', k5]
          exact ta
        · simp (disch := omega) only [go_sem, bd, m7, m7', m0, m0', k5]
          exact ta
      simp (disch := omega) only [go_sem, bd, m7, m7', m0, m0', k3, k4, k5, k6]
      rw [if_neg k3, if_neg k4, if_neg k6, if_neg k5] at ta
      exact ta
    by_cases h2 : c.kind = 2
    · simp (disch := omega) only [go_sem, g1, d4, d5, e0, c1.one, c2.one, c1.cells, c2.cells, h2]
      exact main false (by simp [h2])
    · have al := alone_call G p O s k n x c0 (H ++ [some (.cells 121 3 [crow c0 o r] 0)]) 
      by_cases h7 : c.kind = 6
      · have h8 : c.epoch = c0.ep := by omega
        simp (disch := omega) only [go_sem, g1, d4, d5, e0, e3, c1.one, c2.one, c1.cells, c2.cells, h7, h8]
        refine ⟨al _ (aO.app _) hx (hxn h2) hc hln.1 ?_⟩
        simp (disch := omega) only [go_sem, g1, d4, d5, e0, c1.one, c2.one, c1.cells, c2.cells]
        refine main _ ?_
        unfold Adm.alone
        rw [bk_eq hx, hxn h2, cn_eq hc]
        simp [h2]
      · simp (disch := omega) only [go_sem, g1, d4, d5, e0, e3, c1.one, c2.one, c1.cells, c2.cells, h7, h2]
        refine ⟨al _ (aO.app _) hx (hxn h2) hc hln.1 ?_⟩
        simp (disch := omega) only [go_sem, g1, d4, d5, e0, c1.one, c2.one, c1.cells, c2.cells]
        refine main _ ?_
        unfold Adm.alone
        rw [bk_eq hx, hxn h2, cn_eq hc]
        simp [h2]
end Go.Proofs

/-
  Contracts: a command on a brick, whole.
-/
namespace Go.Proofs
open Go Go.Abs
set_option maxRecDepth 100000
set_option linter.unusedSimpArgs false
def Adm.onBrick (s : Adm) (c : CmdA) : Int × Adm :=
  if c.brick < 0 ∨ c.brick ≥ s.bricks.length ∨ c.chain < 0 ∨ (c.kind = 2 ∧ c.chain ≥ s.chains.length) then (1, s)
  else if s.may c.kind c.brick = false then (180, s)
  else s.turn c c.brick.toNat (if c.kind = 2 then c.chain else (s.bk c.brick).2).toNat

theorem onBrick_call (G : Nat → Option AV) (h : AH) (K : AV → AH → Prop) (p : Nat) (O : Nat → Prop) (s : Adm) (c : CmdA) (la : AV) (a : AdmOf h p O s) (ok : s.Ok) (hkd : 2 ≤ c.kind ∧ c.kind ≤ 6) (l1 : la.one = true) (l2 : la.cells = [la])
    (hk : ∀ e s' h', s.onBrick c = (e, s') → Post h p O s' h' → K (.v (.int .i64 e)) h') : SCall Tryz.prog G 97 [.ptr p 0 0 0, .agg (c.cells la)] h K := by
  refine Tryz.c97 G _ _ h K fun hlow => ?_
  unfold Tryz.r97
  have aO := a
  obtain ⟨bid, C, rows, W, CH, ha, hown⟩ := a
  obtain ⟨f1, f2, f3⟩ := ha.at
  unfold Adm.onBrick at hk
  have f1' : ∀ (x : Option AO) (t : AH), (h ++ x :: t)[p]? = _ := fun x t => f1 (x :: t)
  by_cases hr : c.brick < 0 ∨ c.brick ≥ s.bricks.length ∨ c.chain < 0 ∨ (c.kind = 2 ∧ c.chain ≥ s.chains.length)
  · rw [if_pos hr] at hk
    by_cases r1 : c.brick < 0
    · simp (disch := omega) only [go_sem, l1, l2, f1, f2, f3, r1]
      exact ret_keep (hk _ _ _ rfl (Post.same aO _))
    by_cases r2 : c.brick ≥ s.bricks.length
    · simp (disch := omega) only [go_sem, l1, l2, f1, f2, f3, r1, r2]
      exact ret_keep (hk _ _ _ rfl (Post.same aO _))
    by_cases r3 : c.chain < 0
    · simp (disch := omega) only [go_sem, l1, l2, f1, f2, f3, r1, r2, r3]
      exact ret_keep (hk _ _ _ rfl (Post.same aO _))
    obtain ⟨r4, r5⟩ : c.kind = 2 ∧ c.chain ≥ s.chains.length := by omega
    simp (disch := omega) only [go_sem, l1, l2, f1, f2, f3, r1, r2, r3, r4, r5]
    exact ret_keep (hk _ _ _ rfl (Post.same aO _))
  · rw [if_neg hr] at hk
    obtain ⟨k, hkk⟩ : ∃ k : Nat, c.brick = k := ⟨c.brick.toNat, by omega⟩
    have hkl : k < s.bricks.length := by omega
    obtain ⟨x, hx⟩ : ∃ x, s.bricks[k]? = some x := ⟨s.bricks[k], List.getElem?_eq_getElem hkl⟩
    have main : callR Tryz.prog G 137 [.ptr p 0 0 0, .v (.int .i64 c.kind), .v (.int .i64 k)] (h ++ [some (.cells 33 6 [c.cells la] 0), some (.cells 3 1 [irow k] 0)]) (fun v60 h61 =>
  okBool (some v60) fun b62 =>
  condB (!b62)
  (RetR h K (.v (.int .i64 180)) h61)
  (okV (aNil (.ptr p 0 0 0)) fun v63 =>
  okV (aFA Tryz.prog 105 0 v63) fun v64 =>
  okV (aLoad Tryz.prog h61 98 v64) fun v65 =>
  okInt .i64 (aLoad Tryz.prog h61 3 (.ptr (h ++ [some (AO.cells 33 6 [c.cells la] 0)]).length 0 0 0)) fun n66 =>
  okV (aIA Tryz.prog h61 98 v65 (.v (.int .i64 n66))) fun v67 =>
  okV (aFA Tryz.prog 101 1 v67) fun v68 =>
  okInt .i64 (aLoad Tryz.prog h61 3 v68) fun n69 =>
  okInt .i64 (aLoad Tryz.prog h61 3 (.ptr h.length 0 0 0)) fun n176 =>
  condB (n176 == 2)
  (okInt .i64 (aLoad Tryz.prog h61 3 (.ptr h.length 0 0 1)) fun n177 =>
  Tryz.r97_j72 K h G (.ptr p 0 0 0) h.length (h ++ [some (AO.cells 33 6 [c.cells la] 0)]).length n177 h61)
  (Tryz.r97_j72 K h G (.ptr p 0 0 0) h.length (h ++ [some (AO.cells 33 6 [c.cells la] 0)]).length n69 h61))) := by
  
      simp only [List.length_append, List.length_singleton]
      refine ⟨may_call G p O s k x c.kind _ _ (aO.app _) ok hx ?_⟩
      rw [hkk] at hk
      cases hm : s.may c.kind k with
      | false =>
        rw [if_pos hm] at hk
        simp (disch := omega) only [go_sem]
        exact ret_keep (hk _ _ _ rfl (Post.same aO _))
      | true =>
        rw [if_neg (by simp [hm])] at hk
        have hbr : (s.bricks.map bkrow)[k]? = some (bkrow x) := by rw [List.getElem?_map, hx]; rfl
        rw [bk_eq hx] at hk
        obtain ⟨b1, b2, b3⟩ := ok.bk k x hx
        have tc := fun n c0 hc hxn => turn_call G h (h ++ [some (.cells 33 6 [c.cells la] 0), some (.cells 3 1 [irow k] 0)]) K p h.length (h.length + 1) k n O s c la c0 x aO ok (Ext.app _) (by simp) (by simp) hx hc hxn
        by_cases k2 : c.kind = 2
        · obtain ⟨n, hn⟩ : ∃ n : Nat, c.chain = n := ⟨c.chain.toNat, by omega⟩
          have hnl : n < s.chains.length := by omega
          have tc := tc n _ (List.getElem?_eq_getElem hnl) (fun h => absurd k2 h)
          rw [if_pos k2, hn] at hk
          simp (disch := omega) only [go_sem, f1, f2, hbr, k2, hn]
          exact tc hk
        · have hx0 : x.1 ≠ 0 := by
            intro h0
            unfold Adm.may at hm
            rw [bk_eq hx, h0, if_neg k2] at hm
            split at hm
            · simp at hm
            split at hm
            · simp at hm
            split at hm
            · simp at hm
            · simp at hm
          obtain ⟨n, hn, hnl⟩ := b3 hx0
          have tc := tc n _ (List.getElem?_eq_getElem hnl) (fun _ => hn)
          rw [if_neg k2, hn] at hk
          simp (disch := omega) only [go_sem, f1, f2, hbr, k2, hn]
          exact tc hk
    by_cases k2 : c.kind = 2
    · have k3 : c.chain < s.chains.length := by omega
      simp (disch := omega) only [go_sem, l1, l2, f1, f2, f3, hkk, k2, k3]
      rw [if_neg (by decide), if_neg (by decide)]
      rw [k2] at main
      exact main
    · simp (disch := omega) only [go_sem, l1, l2, f1, f2, f3, hkk, k2]
      exact main
end Go.Proofs

/-
  Contracts: commands on a change.
-/
namespace Go.Proofs
open Go Go.Abs
set_option maxRecDepth 100000
set_option linter.unusedSimpArgs false
theorem Kept.wt {h : AH} {a : AV} {xs : List Int} (k : Kept h a xs) : Wt h a xs := ⟨k.ints, k.one, k.cells⟩
theorem To_callK (G : Nat → Option AV) (c : Chg) (s : List UInt8) (W1 W2 : AV) (h : AH) (K : AV → AH → Prop) (k1 : Kept h W1 c.was.wts) (k2 : Kept h W2 c.will.wts) (hl1 : c.was.wts.length ≤ 2000000000) (hl2 : c.will.wts.length ≤ 2000000000) (hcl : c.cur.length ≤ 2000000000)
    (hsl : s.length ≤ 4611686018427387904)
    (hk1 : ∀ e h', (∃ t, h' = h ++ t) → c.to s = (e, none) → e ≠ 0 → K (.tup [.agg [.v (.int .i64 0), .v (.slice none 0 0), .v (.int .i64 0), .v (.slice none 0 0), .v (.string (ByteArray.mk #[])), .v (.bool false)], .v (.int .i64 e)]) h')
    (hk2 : ∀ h' c', (∃ t, h' = h ++ t) → c.to s = (0, some c') → K (.tup [.agg (c'.cells W1 W2), .v (.int .i64 0)]) h') : SCall Tryz.prog G 144 [.agg (c.cells W1 W2), .v (.string (bs s))] h K :=
  To_call G c s W1 W2 h K k1.wt k2.wt (by omega) (by omega) (by omega) hsl (fun e t h1 h2 => hk1 e _ ⟨t, rfl⟩ h1 h2) (fun c' t h1 => hk2 _ c' ⟨t, rfl⟩ h1)
theorem two0 : ((2 : Nat) = 0) = False := by simp
theorem pe1 {t e : TypeId} (hu : und Tryz.prog t = .pointer e) {i g r c : Nat} : aBin Tryz.prog .eql t (.ptr i g r c) (.v (.pointer none)) = some (.v (.bool false)) := by simp [aBin, aEq, hu, chk]
theorem pe2 {t e : TypeId} (hu : und Tryz.prog t = .pointer e) : aBin Tryz.prog .eql t (.v (.pointer none)) (.v (.pointer none)) = some (.v (.bool true)) := by simp [aBin, aEq, hu, chk]
theorem pn1 {t e : TypeId} (hu : und Tryz.prog t = .pointer e) {i g r c : Nat} : aBin Tryz.prog .neq t (.ptr i g r c) (.v (.pointer none)) = some (.v (.bool true)) := by simp [aBin, aEq, hu, chk]
theorem pn2 {t e : TypeId} (hu : und Tryz.prog t = .pointer e) : aBin Tryz.prog .neq t (.v (.pointer none)) (.v (.pointer none)) = some (.v (.bool false)) := by simp [aBin, aEq, hu, chk]
/-- The admin's own object is written. -/
theorem AdmAt.setP {h : AH} {p bid : Nat} {C W CH C' W' CH' : AV} {rows rows' : List (List AV)} {s s' : Adm} (a : AdmAt h p bid C rows W CH s) (hb : s'.bricks = s.bricks) (hs : ChSl h C' rows') (hr : ChRows h rows' s'.chains) (hw : Kept h W' s'.lay.wts) (hc : ChgAt h CH' s'.chg) :
    AdmAt (h.set p (some (.cells 105 5 [[.sl bid 0 0 s.bricks.length none, C', .v (.int .i64 s'.lay.ver), W', CH']] 0))) p bid C' rows' W' CH' s' := by
  have kp : Kp h (h.set p (some (.cells 105 5 [[.sl bid 0 0 s.bricks.length none, C', .v (.int .i64 s'.lay.ver), W', CH']] 0))) := Kp.set a.obj (by decide)
  refine ⟨?_, ?_, ?_, hr.keep kp, hw.keep kp, ?_⟩
  · rw [List.getElem?_set_self (List.getElem?_eq_some_iff.mp a.obj).1, hb]
  · rw [List.getElem?_set_ne (apart a.obj a.bri (by decide)), hb]; exact a.bri
  · rcases hs with h1 | ⟨id, g, h1, h2⟩
    · exact .inl h1
    · exact .inr ⟨id, g, h1, by rw [List.getElem?_set_ne (apart a.obj h2 (by decide))]; exact h2⟩
  · cases hcc : s'.chg with
    | none => rw [hcc] at hc; exact hc
    | some c =>
      rw [hcc] at hc
      obtain ⟨x, W1, W2, h1, h2, h3, h4⟩ := hc
      exact ⟨x, W1, W2, h1, by rw [List.getElem?_set_ne (apart a.obj h2 (by decide))]; exact h2, h3.keep kp, h4.keep kp⟩
/-- Of a heap that grew and whose admin is written in its own object. -/
theorem Post.setP {h H : AH} {p bid : Nat} {O : Nat → Prop} {C C' : AV} {s' : Adm} {o : Option AO} (e : Ext h H) (hown : ∀ i, Own p bid C i → O i) (hC : ∀ i, Own p bid C' i → O i ∨ h.length ≤ i) (W' CH' : AV) (rows' : List (List AV))
    (a : AdmAt (H.set p o) p bid C' rows' W' CH' s') : Post h p O s' (H.set p o) := by
  refine ⟨by have := e.len; simpa using this, fun i hi hO => ?_, bid, C', rows', W', CH', a, hC⟩
  rw [List.getElem?_set_ne (by rintro rfl; exact hO (hown _ (.inl rfl)))]
  exact e.get i hi

def Adm.done (s : Adm) : Int × Adm := match s.chg with
  | none => (180, s)
  | some c => (0, { s with lay := c.will, chg := none })
theorem done_call (G : Nat → Option AV) (h : AH) (K : AV → AH → Prop) (p : Nat) (O : Nat → Prop) (s : Adm) (c : CmdA) (la : AV) (a : AdmOf h p O s) (l1 : la.one = true) (l2 : la.cells = [la])
    (hk : ∀ e s' h', s.done = (e, s') → Post h p O s' h' → K (.v (.int .i64 e)) h') : SCall Tryz.prog G 101 [.ptr p 0 0 0, .agg (c.cells la)] h K := by
  refine Tryz.c101 G _ _ h K fun hlow => ?_
  unfold Tryz.r101
  have aO := a
  obtain ⟨bid, C, rows, W, CH, ha, hown⟩ := a
  obtain ⟨f1, f2, f3⟩ := ha.at
  unfold Adm.done at hk
  have hc := ha.chg
  cases hs : s.chg with
  | none =>
    rw [hs] at hc hk
    obtain rfl : CH = .v (.pointer none) := hc
    simp (disch := omega) only [go_sem, f1, pe2 Tryz.und103, Nat.one_ne_zero, if_false]
    exact ret_keep (hk _ _ _ rfl (Post.same aO _))
  | some g =>
    rw [hs] at hc hk
    obtain ⟨x, W1, W2, rfl, h2, h3, h4⟩ := hc
    have e2 : ∀ t : AH, (h ++ t)[x]? = _ := fun t => (List.getElem?_append_left (List.getElem?_eq_some_iff.mp h2).1).trans h2
    have hpl : p < (h ++ [some (AO.cells 33 6 [c.cells la] 0)]).length := Nat.lt_of_lt_of_le (List.getElem?_eq_some_iff.mp ha.obj).1 (by simp)
    have s1 : ∀ o, ((h ++ [some (AO.cells 33 6 [c.cells la] 0)]).set p o)[p]? = some o := fun o => List.getElem?_set_self hpl
    have s2 : ∀ (o o' : Option AO) (l : AH), (l.set p o).set p o' = l.set p o' := fun o o' l => List.set_set ..
    simp (disch := omega) only [go_sem, f1, e2, h2, pe1 Tryz.und103, h4.one, h4.cells, s1, s2, Nat.one_ne_zero, two0, if_false]
    have := (ha.app [some (AO.cells 33 6 [c.cells la] 0)]).setP (s' := { s with lay := g.will, chg := none }) (CH' := .v (.pointer none)) rfl (ha.app [some (AO.cells 33 6 [c.cells la] 0)]).sl (ha.app [some (AO.cells 33 6 [c.cells la] 0)]).ch (h4.app _) rfl
    exact ret_keep (hk _ _ _ rfl (Post.setP (Ext.app _) hown (fun i hi => .inl (hown i hi)) _ _ _ this))

def Adm.moved (s : Adm) (c : CmdA) : Int × Adm := match s.chg with
  | none => (180, s)
  | some g => match g.to c.cur with
    | (_, some g') => (0, { s with chg := some g' })
    | (e, none) => (e, s)
theorem to_some {g c' : Chg} {l : List UInt8} {e : Int} (h : g.to l = (e, some c')) : c' = { g with cur := l } := by
  unfold Chg.to at h
  split at h
  · cases h
  · split at h
    · cases h
    · cases h; rfl
theorem moved_call (G : Nat → Option AV) (h : AH) (K : AV → AH → Prop) (p : Nat) (O : Nat → Prop) (s : Adm) (c : CmdA) (la : AV) (a : AdmOf h p O s) (ok : s.Ok) (hcl : c.cur.length ≤ 4611686018427387904)
    (hk : ∀ e s' h', s.moved c = (e, s') → Post h p O s' h' → K (.v (.int .i64 e)) h') : SCall Tryz.prog G 100 [.ptr p 0 0 0, .agg (c.cells la)] h K := by
  refine Tryz.c100 G _ _ h K fun hlow => ?_
  unfold Tryz.r100
  have aO := a
  obtain ⟨bid, C, rows, W, CH, ha, hown⟩ := a
  obtain ⟨f1, f2, f3⟩ := ha.at
  unfold Adm.moved at hk
  have hc := ha.chg
  cases hs : s.chg with
  | none =>
    rw [hs] at hc hk
    obtain rfl : CH = .v (.pointer none) := hc
    simp (disch := omega) only [go_sem, f1, pe2 Tryz.und103, Nat.one_ne_zero, if_false]
    exact ret_keep (hk _ _ _ rfl (Post.same aO _))
  | some g =>
    rw [hs] at hc hk
    simp only at hk
    obtain ⟨x, W1, W2, rfl, h2, h3, h4⟩ := hc
    have e2 : ∀ t : AH, (h ++ t)[x]? = _ := fun t => (List.getElem?_append_left (List.getElem?_eq_some_iff.mp h2).1).trans h2
    obtain ⟨q1, q2, q3, q4, q5, q6⟩ := ok.chg g hs
    have hw := ok.wts
    have hnc := ok.nc
    have hvr := ok.ver
    simp (disch := omega) only [go_sem, f1, e2, h2, pe1 Tryz.und103, Nat.one_ne_zero, two0, if_false]
    refine ⟨To_callK G g c.cur W1 W2 _ _ (h3.app _) (h4.app _) (by rw [q1]; omega) (by omega) (by omega) hcl ?_ ?_⟩
    · rintro e h' ⟨t, rfl⟩ hto hne
      rw [hto] at hk
      simp (disch := omega) only [go_sem, f1, e2, h2, h3.one, h4.one, Nat.one_ne_zero, two0, if_false]
      exact ret_keep (hk e s _ rfl (Post.same aO _))
    · rintro h' c' ⟨t, rfl⟩ hto
      rw [hto] at hk
      obtain rfl := to_some hto
      simp (disch := omega) only [go_sem, f1, e2, h2, h3.one, h4.one, h3.cells, h4.cells, Nat.one_ne_zero, two0, if_false]
      have HA := ha.app (some (.cells 33 6 [c.cells la] 0) :: (t ++ [some (.cells 49 6 [Chg.cells { g with cur := c.cur } W1 W2] 0)]))
      have := HA.setP (s' := { s with chg := some { g with cur := c.cur } }) (CH' := .ptr (h.length + (t.length + 1)) 0 0 0) rfl HA.sl HA.ch HA.wts ⟨_, W1, W2, rfl, by rw [Go.Abs.get_add]; simp, h3.app _, h4.app _⟩
      exact ret_keep (hk _ _ _ rfl (Post.setP (Ext.app _) hown (fun i hi => .inl (hown i hi)) _ _ _ this))
end Go.Proofs

/-
  Contracts: a change begins.
-/
namespace Go.Proofs
open Go Go.Abs
set_option maxRecDepth 100000
set_option linter.unusedSimpArgs false
def Adm.begin (s : Adm) (c : CmdA) : Int × Adm := match s.chg with
  | some _ => (180, s)
  | none => if s.lay.ver ≥ 1073741824 then (2, s) else
    if c.list.length ≠ s.chains.length ∨ (Chg.ok ⟨s.lay, ⟨s.lay.ver + 1, c.list⟩, [], false⟩) = false then (70, s) else (0, { s with chg := some ⟨s.lay, ⟨s.lay.ver + 1, c.list⟩, [], false⟩ })
theorem begin_call (G : Nat → Option AV) (h : AH) (K : AV → AH → Prop) (p : Nat) (O : Nat → Prop) (s : Adm) (c : CmdA) (la : AV) (a : AdmOf h p O s) (ok : s.Ok) (l0 : Ints h la c.list) (l1 : la.one = true) (l2 : la.cells = [la]) (l3 : ∀ r f, la ≠ .lst r f false) (hll : c.list.length ≤ 17592186044416)
    (hk : ∀ e s' h', s.begin c = (e, s') → Post h p O s' h' → K (.v (.int .i64 e)) h') : SCall Tryz.prog G 99 [.ptr p 0 0 0, .agg (c.cells la)] h K := by
  refine Tryz.c99 G _ _ h K fun hlow => ?_
  unfold Tryz.r99
  have aO := a
  obtain ⟨bid, C, rows, W, CH, ha, hown⟩ := a
  obtain ⟨f1, f2, f3⟩ := ha.at
  unfold Adm.begin at hk
  have hc := ha.chg
  cases hs : s.chg with
  | some g =>
    rw [hs] at hc hk
    obtain ⟨x, W1, W2, rfl, h2, h3, h4⟩ := hc
    simp (disch := omega) only [go_sem, f1, pn1 Tryz.und103, Nat.one_ne_zero, if_false]
    exact ret_keep (hk _ _ _ rfl (Post.same aO _))
  | none =>
    rw [hs] at hc hk
    simp only at hk
    obtain rfl : CH = .v (.pointer none) := hc
    by_cases hbig : s.lay.ver ≥ 1073741824
    · rw [if_pos hbig] at hk
      simp (disch := omega) only [go_sem, f1, pn2 Tryz.und103, Nat.one_ne_zero, if_false]
      exact ret_keep (hk _ _ _ rfl (Post.same aO _))
    rw [if_neg hbig] at hk
    have w := ha.wts
    have hvr := ok.ver
    have hnc := ok.nc
    have hwl := ok.wts
    simp (disch := omega) only [go_sem, f1, pn2 Tryz.und103, Nat.one_ne_zero, two0, if_false, w.one, w.cells, l1, l2]
    refine ⟨Clone_call G la c.list _ _ (l0.app _) l3 (by omega) ?_⟩
    intro v h' A
    obtain ⟨t, rfl⟩ := A.tail
    have kv := A.kept
    have hlen : ∀ t, aLen Tryz.prog (h ++ t) 31 la = some (.v (.int .i64 c.list.length)) := fun t => by
      have := (l0.app t).len (P := Tryz.prog) (t := 31) Tryz.und31
      rw [List.length_map] at this
      exact this
    have b1 := build77 (a := .v (.int .i64 (s.lay.ver + 1))) rfl rfl A.one A.cells
    have b2 := build138 (a := .v (.int .i64 s.lay.ver)) (b := W) (c := .v (.int .i64 (s.lay.ver + 1))) (d := v)
    by_cases hll2 : c.list.length = s.chains.length
    · simp (disch := omega) only [go_sem, f1, w.one, w.cells, l1, l2, A.one, A.cells, b1, b2, two0, Nat.one_ne_zero, if_false, hlen, f3, hll2]
      have w' : Kept (h ++ some (AO.cells 33 6 [c.cells la] 0) :: (t ++ [some (.cells 49 6 [[.v (.int .i64 s.lay.ver), W, .v (.int .i64 (s.lay.ver + 1)), v, .v (.string (ByteArray.mk #[])), .v (.bool false)]] 0)])) W s.lay.wts := w.app _
      have kv' : Kept (h ++ some (AO.cells 33 6 [c.cells la] 0) :: (t ++ [some (.cells 49 6 [[.v (.int .i64 s.lay.ver), W, .v (.int .i64 (s.lay.ver + 1)), v, .v (.string (ByteArray.mk #[])), .v (.bool false)]] 0)])) v c.list := by
        have := kv.app [some (.cells 49 6 [[.v (.int .i64 s.lay.ver), W, .v (.int .i64 (s.lay.ver + 1)), v, .v (.string (ByteArray.mk #[])), .v (.bool false)]] 0)]
        simpa using this
      refine ⟨chgCheck_call G ⟨s.lay, ⟨s.lay.ver + 1, c.list⟩, [], false⟩ W v _ _ w'.wt kv'.wt (by simp only; omega) (by simp only; omega) (by simp) ?_⟩
      cases hok : Chg.ok ⟨s.lay, ⟨s.lay.ver + 1, c.list⟩, [], false⟩ with
      | false =>
        rw [if_pos (.inr hok)] at hk
        simp (disch := omega) only [go_sem, Bool.false_eq_true, if_false]
        exact ret_keep (hk _ _ _ rfl (Post.same aO _))
      | true =>
        rw [if_neg (by simp [hll2, hok])] at hk
        simp (disch := omega) only [go_sem, if_true, f1, w.one, w.cells, A.one, A.cells]
        have HA := ha.app (some (AO.cells 33 6 [c.cells la] 0) :: (t ++ [some (.cells 49 6 [[.v (.int .i64 s.lay.ver), W, .v (.int .i64 (s.lay.ver + 1)), v, .v (.string (ByteArray.mk #[])), .v (.bool false)]] 0)]))
        have := HA.setP (s' := { s with chg := some ⟨s.lay, ⟨s.lay.ver + 1, c.list⟩, [], false⟩ }) (CH' := .ptr (h.length + (t.length + 1)) 0 0 0) rfl HA.sl HA.ch HA.wts ⟨_, W, v, rfl, by rw [Go.Abs.get_add]; simp, w', kv'⟩
        exact ret_keep (hk _ _ _ rfl (Post.setP (Ext.app _) hown (fun i hi => .inl (hown i hi)) _ _ _ this))
    · rw [if_pos (.inl hll2)] at hk
      simp (disch := omega) only [go_sem, f1, w.one, w.cells, l1, l2, A.one, A.cells, b1, b2, two0, Nat.one_ne_zero, if_false, hlen, f3, hll2]
      exact ret_keep (hk _ _ _ rfl (Post.same aO _))
end Go.Proofs

/-
  What is written when a chain is made.
-/
namespace Go.Proofs
open Go Go.Abs
set_option maxRecDepth 100000
set_option linter.unusedSimpArgs false
structure Fr (O : Nat → Prop) (h h' : AH) : Prop where
  len : h.length ≤ h'.length
  get : ∀ i, i < h.length → ¬ O i → h'[i]? = h[i]?
section
variable {h h' h'' : AH} {O : Nat → Prop}
theorem Fr.refl : Fr O h h := ⟨Nat.le_refl _, fun _ _ _ => rfl⟩
theorem Fr.ext (e : Ext h h') : Fr O h h' := ⟨e.len, fun i hi _ => e.get i hi⟩
theorem Fr.trans (a : Fr O h h') (b : Fr O h' h'') : Fr O h h'' := ⟨Nat.le_trans a.len b.len, fun i hi hO => (b.get i (Nat.lt_of_lt_of_le hi a.len) hO).trans (a.get i hi hO)⟩
theorem Fr.set {j : Nat} {o : Option AO} (hj : O j) : Fr O h (h.set j o) := ⟨by simp, fun i _ hO => List.getElem?_set_ne (by rintro rfl; exact hO hj)⟩
end
/-- The admin's own object is written. -/
theorem setObj {h : AH} {p bid : Nat} {rs : List (List AV)} {C' W' CH' : AV} {rows' : List (List AV)} {s' : Adm} (ho : h[p]? = some (some (.cells 105 5 rs 0))) (hb : h[bid]? = some (some (.cells 101 2 (s'.bricks.map bkrow) 0))) (hs : ChSl h C' rows') (hr : ChRows h rows' s'.chains) (hw : Kept h W' s'.lay.wts) (hc : ChgAt h CH' s'.chg) :
    AdmAt (h.set p (some (.cells 105 5 [[.sl bid 0 0 s'.bricks.length none, C', .v (.int .i64 s'.lay.ver), W', CH']] 0))) p bid C' rows' W' CH' s' := by
  have kp : Kp h (h.set p (some (.cells 105 5 [[.sl bid 0 0 s'.bricks.length none, C', .v (.int .i64 s'.lay.ver), W', CH']] 0))) := Kp.set ho (by decide)
  refine ⟨?_, ?_, ?_, hr.keep kp, hw.keep kp, ?_⟩
  · rw [List.getElem?_set_self (List.getElem?_eq_some_iff.mp ho).1]
  · rw [List.getElem?_set_ne (apart ho hb (by decide))]; exact hb
  · rcases hs with h1 | ⟨id, g, h1, h2⟩
    · exact .inl h1
    · exact .inr ⟨id, g, h1, by rw [List.getElem?_set_ne (apart ho h2 (by decide))]; exact h2⟩
  · cases hcc : s'.chg with
    | none => rw [hcc] at hc; exact hc
    | some c =>
      rw [hcc] at hc
      obtain ⟨x, W1, W2, h1, h2, h3, h4⟩ := hc
      exact ⟨x, W1, W2, h1, by rw [List.getElem?_set_ne (apart ho h2 (by decide))]; exact h2, h3.keep kp, h4.keep kp⟩
/-- Bricks are written. -/
theorem AdmAt.setB {h : AH} {p bid : Nat} {C W CH : AV} {rows : List (List AV)} {s : Adm} (a : AdmAt h p bid C rows W CH s) (bl : List (Int × Int)) (hl : bl.length = s.bricks.length) :
    AdmAt (h.set bid (some (.cells 101 2 (bl.map bkrow) 0))) p bid C rows W CH { s with bricks := bl } := by
  have kp : Kp h (h.set bid (some (.cells 101 2 (bl.map bkrow) 0))) := Kp.set a.bri (by decide)
  refine ⟨?_, ?_, ?_, a.ch.keep kp, a.wts.keep kp, ?_⟩
  · rw [List.getElem?_set_ne (apart a.bri a.obj (by decide)), a.obj]; simp [hl]
  · rw [List.getElem?_set_self (List.getElem?_eq_some_iff.mp a.bri).1]
  · rcases a.sl with h1 | ⟨id, g, h1, h2⟩
    · exact .inl h1
    · exact .inr ⟨id, g, h1, by rw [List.getElem?_set_ne (apart a.bri h2 (by decide))]; exact h2⟩
  · have hc := a.chg
    cases hcc : s.chg with
    | none => rw [hcc] at hc; exact hc
    | some c =>
      rw [hcc] at hc
      obtain ⟨x, W1, W2, h1, h2, h3, h4⟩ := hc
      exact ⟨x, W1, W2, h1, by rw [List.getElem?_set_ne (apart a.bri h2 (by decide))]; exact h2, h3.keep kp, h4.keep kp⟩
/-- A chain more. -/
theorem chain_app {H : AH} {C : AV} {rows : List (List AV)} {row : List AV} {i : Nat} {K : AV → AH → Prop} (hs : ChSl H C rows) (hl : rows.length ≤ 100) (hi : H[i]? = some (some (.cells 121 3 [row] 0))) (hrow : row.length = 3)
    (hrl : ∀ r ∈ rows, r.length = 3)
    (hk : ∀ C' H', H.length ≤ H'.length → (∀ j, j < H.length → Off C j → H'[j]? = H[j]?) → Kp H H' → ChSl H' C' (rows ++ [row]) → C'.one = true → C'.cells = [C'] → (∀ id g o l c, C' = .sl id g o l c → (∃ g o l c, C = .sl id g o l c) ∨ H.length ≤ id) → K C' H') :
    appR Tryz.prog H 102 102 C (.sl i 0 0 1 none) K := by
  have hy : srcRows H (.sl i 0 0 1 none) = some [row] := by simp [srcRows, rowsOf, hi, chk]
  rcases hs with ⟨rfl, rfl⟩ | ⟨id, g, rfl, h1⟩
  · refine ⟨?_⟩
    refine app_nil Tryz.und102 Tryz.azero121 Tryz.byt121 (by exact Tryz.plainSrc102) hy (by simpa using hrow) (by rintro ⟨s, hs⟩; cases hs) (by simp) (by simp) ?_
    refine hk _ _ (by simp) (fun j hj _ => by rw [List.getElem?_append_left hj]) (Kp.app _) (.inr ⟨H.length, 0, rfl, by simp⟩) rfl rfl ?_
    intro id g o l c hx
    cases hx
    exact .inr (Nat.le_refl _)
  · refine ⟨?_⟩
    refine app_sl Tryz.und102 Tryz.azero121 Tryz.byt121 (by exact Tryz.plainSrc102) h1 rfl hy (by simpa using hrow) (by rintro ⟨s, hs⟩; cases hs) (by simp; omega) (by simp; omega) ?_
    refine hk _ _ (by simp) (fun j hj ho => List.getElem?_set_ne (ho _ _ _ _ _ rfl)) (Kp.set h1 (by decide)) (.inr ⟨id, g + 1, by simp, by rw [List.getElem?_set_self (List.getElem?_eq_some_iff.mp h1).1]⟩) rfl rfl ?_
    intro id' g o l c hx
    cases hx
    exact .inl ⟨_, _, _, _, rfl⟩
end Go.Proofs

/-
  Contracts: a chain is made.
-/
namespace Go.Proofs
open Go Go.Abs
set_option maxRecDepth 100000
set_option linter.unusedSimpArgs false
theorem out_call (G : Nat → Option AV) (i p : Nat) (O : Nat → Prop) (s : Adm) (x : Int) (h : AH) (K : AV → AH → Prop) (a : AdmOf h p O s) (hi : h[i]? = some (some (.cells 23 1 [[.ptr p 0 0 0]] 0)))
    (hk : K (.v (.bool (decide (x < 0 ∨ x ≥ s.bricks.length)))) h) : SCall Tryz.prog G 142 [.v (.int .i64 x), .ptr i 0 0 0] h K := by
  refine Tryz.c142 G _ _ h K fun hlow => ?_
  unfold Tryz.r142
  obtain ⟨bid, C, rows, W, CH, ha, hown⟩ := a
  obtain ⟨f1, f2, f3⟩ := ha.at
  have g1 := f1 []
  have g2 := f2 []
  rw [List.append_nil] at g1 g2
  by_cases h1 : x < 0
  · simp (disch := omega) only [go_sem, hi, g1, h1]
    rw [decide_eq_true (.inl h1)] at hk
    exact ret_same hk
  · simp (disch := omega) only [go_sem, hi, g1, h1, Nat.one_ne_zero, if_false]
    by_cases h2 : x ≥ s.bricks.length
    · rw [decide_eq_true (.inr h2)] at hk
      rw [decide_eq_true h2]
      exact ret_same hk
    · rw [decide_eq_false (by omega)] at hk
      rw [decide_eq_false h2]
      exact ret_same hk
def Adm.fresh (s : Adm) (l : List Int) : Prop := (∀ b ∈ l, (s.bk b).1 = 0) ∧ l.Nodup
instance (s : Adm) (l : List Int) : Decidable (s.fresh l) := by unfold Adm.fresh; infer_instance
def Adm.taken (s : Adm) (l : List Int) : List (Int × Int) := l.foldl (fun bs b => bs.set b.toNat (2, s.chains.length)) s.bricks
def Adm.make (s : Adm) (c : CmdA) : Int × Adm :=
  if c.list.any (fun x => decide (x < 0 ∨ x ≥ s.bricks.length)) then (1, s)
  else if c.list.length < 1 ∨ c.list.length > 8 then (180, s)
  else if ¬ s.fresh c.list then (180, s)
  else if s.chains.length ≥ 8 ∨ s.chg.isSome ∨ s.lay.ver ≥ 1073741824 then (2, s)
  else (0, ⟨s.taken c.list, s.chains ++ [⟨1, c.list, []⟩], ⟨s.lay.ver + 1, s.lay.wts ++ [16]⟩, none⟩)
theorem Ints.keep1 {h h' : AH} {a : AV} {xs : List Int} (k : ∀ (i : Nat) e rs g, h[i]? = some (some (AO.cells e 1 rs g)) → h'[i]? = some (some (AO.cells e 1 rs g))) (ha : Ints h a xs) : Ints h' a xs := by
  obtain ⟨h0, h1 | h1 | ⟨id, gen, off, cap, e, rs, rfl, h2, h3⟩⟩ := ha
  · exact ⟨h0, .inl h1⟩
  · exact ⟨h0, .inr (.inl h1)⟩
  · exact ⟨h0, .inr (.inr ⟨id, gen, off, cap, e, rs, rfl, k _ _ _ _ h2, h3⟩)⟩
theorem taken_len (s : Adm) (l : List Int) : (s.taken l).length = s.bricks.length := by
  unfold Adm.taken
  have : ∀ (l : List Int) (bs : List (Int × Int)), (l.foldl (fun bs b => bs.set b.toNat (2, (s.chains.length : Int))) bs).length = bs.length := by
    intro l
    induction l with
    | nil => intro bs; rfl
    | cons b l ih => intro bs; rw [List.foldl_cons, ih, List.length_set]
  exact this l s.bricks
theorem ChRows.snoc {h : AH} {rows : List (List AV)} {l : List Chn} {y : Chn} {o r : AV} (a : ChRows h rows l) (ho : Kept h o y.ord) (hr : Kept h r y.rep) : ChRows h (rows ++ [crow y o r]) (l ++ [y]) := by
  refine ⟨by simp [a.1], ?_⟩
  intro i c hc
  by_cases hi : i < l.length
  · rw [List.getElem?_append_left hi] at hc
    obtain ⟨o', r', h1, h2, h3⟩ := a.2 i c hc
    exact ⟨o', r', by rw [List.getElem?_append_left (by rw [a.1]; exact hi)]; exact h1, h2, h3⟩
  · have hil : i = l.length := by
      have := (List.getElem?_eq_some_iff.mp hc).1
      simp at this; omega
    subst hil
    simp at hc
    subst hc
    exact ⟨o, r, by rw [← a.1]; simp, ho, hr⟩
theorem make_end (G : Nat → Option AV) (h H : AH) (K : AV → AH → Prop) (p bid : Nat) (O : Nat → Prop) (C W : AV) (rows : List (List AV)) (s : Adm) (c : CmdA) (la : AV) (aO : AdmOf h p O s) (a : AdmAt H p bid C rows W (.v (.pointer none)) s) (eH : Ext h H) (hown : ∀ i, Own p bid C i → O i)
    (hin : ∀ b ∈ c.list, 0 ≤ b ∧ b < s.bricks.length) (l0 : Ints H la c.list) (l1 : la.one = true) (l3 : ∀ r f, la ≠ .lst r f false) (hll : c.list.length ≤ 17592186044416) (i0 : H[h.length]? = some (some (.cells 23 1 [[.ptr p 0 0 0]] 0))) (i2 : H[h.length + 1]? = some (some (.cells 33 6 [c.cells la] 0)))
    (hc8 : s.chains.length < 8) (hs : s.chg = none) (ok : s.Ok)
    (hk : ∀ h', Post h p O ⟨s.taken c.list, s.chains ++ [⟨1, c.list, []⟩], ⟨s.lay.ver + 1, s.lay.wts ++ [16]⟩, none⟩ h' → K (.v (.int .i64 0)) h') : Tryz.r98_l14_83 K h G h.length (h.length + 1) H la c.list.length 0 := by
  unfold Tryz.r98_l14_83
  refine ⟨fun m vs h2 => ∃ k : Nat, k ≤ c.list.length ∧ m = c.list.length - k ∧ vs = [.v (.int .i64 k)] ∧ h2.length = H.length ∧ (∀ j, j ≠ bid → h2[j]? = H[j]?) ∧ AdmAt h2 p bid C rows W (.v (.pointer none)) { s with bricks := s.taken (c.list.take k) }, c.list.length, ⟨0, by omega, rfl, rfl, rfl, fun _ _ => rfl, a⟩, ?_⟩
  rintro m h2 hl1 hlow2 n ⟨k, hk1, rfl, hvs, e1, e2, A⟩
  simp only [List.cons.injEq, AV.v.injEq, Value.int.injEq, true_and, and_true] at hvs
  subst hvs
  have j0 : h2[h.length]? = some (some (.cells 23 1 [[.ptr p 0 0 0]] 0)) := by rw [e2 _ (apart i0 a.bri (by decide))]; exact i0
  have j2 : h2[h.length + 1]? = some (some (.cells 33 6 [c.cells la] 0)) := by rw [e2 _ (apart i2 a.bri (by decide))]; exact i2
  have L2 : Ints h2 la c.list := Ints.keep1 (fun i e rs g hi => by
    rw [e2]
    · exact hi
    · rintro rfl
      rw [a.bri] at hi
      cases hi) l0
  obtain ⟨F1, F2, F3⟩ := A.at
  have G1 := F1 []
  have G2 := F2 []
  have G3 := F3 []
  rw [List.append_nil] at G1 G2 G3
  simp only [taken_len] at F1 G1
  by_cases hkl : k < c.list.length
  · obtain ⟨b, hb⟩ := getI hkl
    obtain ⟨q, q1, q2⟩ := Ints.at L2 hb
    have q1 := q1 []
    have q2 := q2 []
    rw [List.append_nil] at q1 q2
    obtain ⟨hb0, hb1⟩ := hin b (List.mem_of_getElem? hb)
    obtain ⟨kb, rfl⟩ : ∃ kb : Nat, b = kb := ⟨b.toNat, by omega⟩
    have hkb : kb < (s.taken (c.list.take k)).length := by rw [taken_len]; omega
    have hbr : ((s.taken (c.list.take k)).map bkrow)[kb]? = some (bkrow (s.taken (c.list.take k))[kb]) := by rw [List.getElem?_map, List.getElem?_eq_getElem hkb]; rfl
    have etake : s.taken (c.list.take (k + 1)) = (s.taken (c.list.take k)).set kb (2, s.chains.length) := by
      unfold Adm.taken
      rw [List.take_add_one, hb]
      simp [List.foldl_append]
    simp (disch := omega) only [go_sem, q1, q2, j0, G1, G2, G3, hbr, two0, Nat.one_ne_zero, if_false]
    refine next_keep (c.list.length - (k + 1)) ?_ (by rw [List.length_set]; exact hl1) ?_
    · omega
    have := A.setB ((s.taken (c.list.take k)).set kb (2, s.chains.length)) (by simp)
    rw [List.map_set] at this
    refine ⟨k + 1, by omega, rfl, rfl, by rw [List.length_set, e1], fun j hj => (List.getElem?_set_ne hj.symm).trans (e2 j hj), ?_⟩
    rw [etake]
    exact this
  · have hkk : k = c.list.length := by omega
    subst hkk
    rw [List.take_length] at *
    simp (disch := omega) only [go_sem, j0, j2, G1, two0, Nat.one_ne_zero, if_false, l1]
    refine ⟨Clone_call G la c.list _ _ L2 l3 (by omega) ?_⟩
    intro v h3 A1
    obtain ⟨t, rfl⟩ := A1.tail
    have j0' : ∀ t : AH, (h2 ++ t)[h.length]? = some (some (.cells 23 1 [[.ptr p 0 0 0]] 0)) := fun t => by rw [List.getElem?_append_left (List.getElem?_eq_some_iff.mp j0).1]; exact j0
    have b1 := build37b (a := .v (.int .i64 1)) rfl rfl A1.one A1.cells
    have wo := A.wts.one
    have wc := A.wts.cells
    simp (disch := omega) only [go_sem, j0', F1, b1, two0, Nat.one_ne_zero, if_false, A1.one, A1.cells, wo, wc]
    have AX := A.app (t ++ [some (.cells 121 3 [[.v (.int .i64 1), v, .v (.slice none 0 0)]] 0)])
    refine chain_app (row := [.v (.int .i64 1), v, .v (.slice none 0 0)]) AX.sl (by rw [A.ch.1]; simp only; omega) (by rw [Go.Abs.get_add]; simp) rfl (AX.sl.sees AX.ch).1 ?_
    intro C' H3 hl3 hf3 kp3 sl3 c1 c2 own3
    generalize hHX : h2 ++ (t ++ [some (AO.cells 121 3 [[AV.v (.int .i64 1), v, AV.v (.slice none 0 0)]] 0)]) = HX at *
    have offC : ∀ {j : Nat} {e : TypeId} {n g : Nat} {r : List (List AV)}, HX[j]? = some (some (.cells e n r g)) → e ≠ 121 → Off C j := by
      intro j e n g r hj he id g' o l c' hx
      rcases AX.sl with ⟨h1, _⟩ | ⟨cid, g2, h1, h3⟩
      · rw [h1] at hx; cases hx
      · rw [h1] at hx
        cases hx
        exact (apart hj h3 he).symm
    have k0 : HX[h.length]? = some (some (.cells 23 1 [[.ptr p 0 0 0]] 0)) := by rw [← hHX]; exact j0' _
    have lt : ∀ {j : Nat} {o : Option AO}, HX[j]? = some o → j < HX.length := fun hj => (List.getElem?_eq_some_iff.mp hj).1
    have g0 : H3[h.length]? = some (some (.cells 23 1 [[.ptr p 0 0 0]] 0)) := by rw [hf3 _ (lt k0) (offC k0 (by decide))]; exact k0
    have gp := (hf3 _ (lt AX.obj) (offC AX.obj (by decide))).trans AX.obj
    have gb := (hf3 _ (lt AX.bri) (offC AX.bri (by decide))).trans AX.bri
    simp only [taken_len] at gp
    have s0 : ∀ o, (H3.set p o)[h.length]? = some (some (.cells 23 1 [[.ptr p 0 0 0]] 0)) := fun o => by rw [List.getElem?_set_ne (apart gp g0 (by decide))]; exact g0
    have sp : ∀ o, (H3.set p o)[p]? = some o := fun o => List.getElem?_set_self (List.getElem?_eq_some_iff.mp gp).1
    simp (disch := omega) only [go_sem, g0, gp, s0, sp, c1, c2, wo, wc, two0, Nat.one_ne_zero, if_false]
    have kv : Kept HX v c.list := by rw [← hHX, ← List.append_assoc]; exact A1.kept.app _
    have A4 := setObj (s' := ⟨s.taken c.list, s.chains ++ [⟨1, c.list, []⟩], s.lay, none⟩) (CH' := .v (.pointer none)) gp gb sl3 ((AX.ch.keep kp3).snoc (y := ⟨1, c.list, []⟩) (kv.keep kp3) (.inl ⟨rfl, rfl⟩)) (AX.wts.keep kp3) rfl
    simp only [taken_len] at A4
    have fr1 : Fr O h H3 := by
      refine ((Fr.ext eH).trans (h'' := h2) ⟨by omega, fun i _ hO => e2 i (by rintro rfl; exact hO (hown _ (.inr (.inl rfl))))⟩).trans ?_
      refine (Fr.ext (h' := HX) (by rw [← hHX]; exact Ext.app _)).trans ⟨hl3, fun i hi hO => hf3 i hi ?_⟩
      rintro id g o l c' hx rfl
      exact hO (hown _ (.inr (.inr ⟨_, _, _, _, hx⟩)))
    have fr2 := fr1.trans (Fr.set (h := H3) (j := p) (o := some (AO.cells 105 5 [[AV.sl bid 0 0 s.bricks.length none, C', AV.v (.int .i64 s.lay.ver), W, AV.v (.pointer none)]] 0)) (hown _ (.inl rfl)))
    have s0 := s0 (some (AO.cells 105 5 [[AV.sl bid 0 0 s.bricks.length none, C', AV.v (.int .i64 s.lay.ver), W, AV.v (.pointer none)]] 0))
    generalize H3.set p (some (AO.cells 105 5 [[AV.sl bid 0 0 s.bricks.length none, C', AV.v (.int .i64 s.lay.ver), W, AV.v (.pointer none)]] 0)) = H4 at *
    obtain ⟨E1, E2, E3⟩ := A4.at
    simp only [taken_len] at E1
    have s0' : ∀ t : AH, (H4 ++ t)[h.length]? = some (some (.cells 23 1 [[.ptr p 0 0 0]] 0)) := fun t => by rw [List.getElem?_append_left (List.getElem?_eq_some_iff.mp s0).1]; exact s0
    have hwl := ok.wts
    refine ⟨Clone_call G W s.lay.wts _ _ A4.wts.ints A4.wts.nn (by omega) ?_⟩
    intro v2 h5 A2
    obtain ⟨t2, rfl⟩ := A2.tail
    have hvr := ok.ver
    simp (disch := omega) only [go_sem, E1, s0', two0, Nat.one_ne_zero, if_false, wo, wc]
    refine A2.pushAt [some (.cells 3 1 [irow 16] 0)] (by rw [List.append_assoc]) (row := irow 16) (e' := 3) (i := H4.length + t2.length) (g := 0) (by rw [Go.Abs.get_add]; simp) Tryz.und31 Tryz.azero3 Tryz.byt3 (by exact Tryz.plainSrc31) rfl (by simp; omega) (by simp; omega) ?_
    intro w' h6 A6 hl6 st6
    obtain ⟨t6, rfl⟩ := A6.tail
    have b7 := build77 (a := .v (.int .i64 (s.lay.ver + 1))) rfl rfl A6.one A6.cells
    have A6' : AccR 3 1 H4 w' (H4 ++ t6) ((s.lay.wts ++ [16]).map irow) := by rw [List.map_append]; exact A6
    simp (disch := omega) only [go_sem, E1, s0', b7, A6.one, A6.cells, two0, Nat.one_ne_zero, if_false]
    have A7 := setObj (s' := ⟨s.taken c.list, s.chains ++ [⟨1, c.list, []⟩], ⟨s.lay.ver + 1, s.lay.wts ++ [16]⟩, none⟩) (CH' := .v (.pointer none)) (A4.app t6).obj (A4.app t6).bri (A4.app t6).sl (A4.app t6).ch A6'.kept rfl
    simp only [taken_len] at A7
    have fr3 := (fr2.trans (Fr.ext (Ext.app t6))).trans (Fr.set (h := H4 ++ t6) (j := p) (o := some (AO.cells 105 5 [[AV.sl bid 0 0 s.bricks.length none, C', AV.v (.int .i64 (s.lay.ver + 1)), w', AV.v (.pointer none)]] 0)) (hown _ (.inl rfl)))
    refine ret_keep (hk _ ⟨fr3.len, fr3.get, bid, C', _, _, _, A7, ?_⟩)
    intro i hi
    rcases hi with h1 | h1 | ⟨g, o, l, c', h1⟩
    · exact .inl (hown _ (.inl h1))
    · exact .inl (hown _ (.inr (.inl h1)))
    · rcases own3 _ _ _ _ _ h1 with ⟨g2, o2, l2, c2, hq⟩ | hq
      · exact .inl (hown _ (.inr (.inr ⟨_, _, _, _, hq⟩)))
      · right
        have := eH.len
        have : HX.length ≥ h2.length := by rw [← hHX]; simp
        omega
theorem make_call (G : Nat → Option AV) (h : AH) (K : AV → AH → Prop) (p : Nat) (O : Nat → Prop) (s : Adm) (c : CmdA) (la : AV) (a : AdmOf h p O s) (ok : s.Ok) (l0 : Ints h la c.list) (l1 : la.one = true) (l2 : la.cells = [la]) (l3 : ∀ r f, la ≠ .lst r f false) (hll : c.list.length ≤ 17592186044416)
    (hk : ∀ e s' h', s.make c = (e, s') → Post h p O s' h' → K (.v (.int .i64 e)) h') : SCall Tryz.prog G 98 [.ptr p 0 0 0, .agg (c.cells la)] h K := by
  refine Tryz.c98 G _ _ h K fun hlow => ?_
  unfold Tryz.r98
  have aO := a
  obtain ⟨bid, C, rows, W, CH, ha, hown⟩ := a
  obtain ⟨f1, f2, f3⟩ := ha.at
  unfold Adm.make at hk
  have hlen : ∀ t, aLen Tryz.prog (h ++ t) 31 la = some (.v (.int .i64 c.list.length)) := fun t => by
    have := (l0.app t).len (P := Tryz.prog) (t := 31) Tryz.und31
    rw [List.length_map] at this
    exact this
  simp (disch := omega) only [go_sem, l1, l2]
  refine ⟨ContainsFunc_call G la c.list 142 [] [.ptr h.length 0 0 0] (fun x => decide (x < 0 ∨ x ≥ s.bricks.length)) _ _ (l0.app _) (by omega) (fun x K hK => out_call G h.length p O s x _ K (aO.app _) (by simp) hK) ?_⟩
  cases hout : c.list.any (fun x => decide (x < 0 ∨ x ≥ s.bricks.length)) with
  | true =>
    rw [if_pos hout] at hk
    simp (disch := omega) only [go_sem]
    exact ret_keep (hk _ _ _ rfl (Post.same aO _))
  | false =>
  simp only [hout, Bool.false_eq_true, if_false] at hk
  by_cases hl8 : c.list.length < 1 ∨ c.list.length > 8
  · rw [if_pos hl8] at hk
    by_cases hl1 : c.list.length < 1
    · simp (disch := omega) only [go_sem, l1, l2, hlen, hl1]
      exact ret_keep (hk _ _ _ rfl (Post.same aO _))
    · have hl9 : c.list.length > 8 := by omega
      simp (disch := omega) only [go_sem, l1, l2, hlen, hl1, hl9]
      exact ret_keep (hk _ _ _ rfl (Post.same aO _))
  rw [if_neg hl8] at hk
  simp (disch := omega) only [go_sem, l1, l2, hlen]
  have hin : ∀ b ∈ c.list, 0 ≤ b ∧ b < s.bricks.length := by
    intro b hb
    have := (List.any_eq_false.mp hout) b hb
    simp only [decide_eq_true_eq] at this
    omega
  have hi0 : ∀ t : AH, (h ++ some (AO.cells 23 1 [[.ptr p 0 0 0]] 0) :: t)[h.length]? = some (some (.cells 23 1 [[.ptr p 0 0 0]] 0)) := fun t => by simp
  generalize hH : h ++ [some (AO.cells 23 1 [[AV.ptr p 0 0 0]] 0), some (AO.cells 33 (1 + 1 + 1 + 1 + 1 + 1) [c.cells la] 0)] = H
  have eH : Ext h H := by rw [← hH]; exact Ext.app _
  have aH := aO.ext eH
  have haH := ha.ext eH
  obtain ⟨F1, F2, F3⟩ := haH.at
  have G1 := F1 []
  have G2 := F2 []
  have G3 := F3 []
  rw [List.append_nil] at G1 G2 G3
  have i0 : H[h.length]? = some (some (.cells 23 1 [[.ptr p 0 0 0]] 0)) := by rw [← hH]; simp
  have i2 : H[h.length + 1]? = some (some (.cells 33 6 [c.cells la] 0)) := by rw [← hH]; simp
  have L0 : Ints H la c.list := by rw [← hH]; exact l0.app _
  have hps : ∀ t, Post h p O s (H ++ t) := fun t => by rw [← hH, List.append_assoc]; exact Post.same aO _
  unfold Tryz.r98_l6_21
  refine ⟨fun m vs h' => ∃ k : Nat, k ≤ c.list.length ∧ m = c.list.length - k ∧ h' = H ∧ s.fresh (c.list.take k) ∧ vs = [.v (.int .i64 k)], c.list.length, ⟨0, by omega, rfl, rfl, by simp [Adm.fresh], rfl⟩, ?_⟩
  rintro m h' hl1 hlow2 n ⟨k, hk1, rfl, rfl, hfr, hvs⟩
  simp only [List.cons.injEq, AV.v.injEq, Value.int.injEq, true_and, and_true] at hvs
  subst hvs
  by_cases hkl : k < c.list.length
  · obtain ⟨b, hb⟩ := getI hkl
    obtain ⟨q, q1, q2⟩ := Ints.at L0 hb
    have q1 := q1 []
    have q2 := q2 []
    rw [List.append_nil] at q1 q2
    have hbm := List.mem_of_getElem? hb
    obtain ⟨hb0, hb1⟩ := hin b hbm
    obtain ⟨kb, rfl⟩ : ∃ kb : Nat, b = kb := ⟨b.toNat, by omega⟩
    obtain ⟨x, hx⟩ : ∃ x, s.bricks[kb]? = some x := ⟨s.bricks[kb]'(by omega), by simp⟩
    have hbr : (s.bricks.map bkrow)[kb]? = some (bkrow x) := by rw [List.getElem?_map, hx]; rfl
    have etake : c.list.take (k + 1) = c.list.take k ++ [(kb : Int)] := by rw [List.take_add_one, hb]; rfl
    by_cases hx0 : x.1 = 0
    · obtain ⟨sl, s1, s2⟩ := L0.upto (P := Tryz.prog) (ty := 31) (k := .i64) (hi := k) Tryz.und31 Tryz.siz3 (by simpa using hk1)
      have s1 := s1 []
      rw [List.append_nil] at s1
      rw [← List.map_take] at s2
      simp (disch := omega) only [go_sem, q1, q2, i0, i2, G1, G2, hbr, hx0, s1, l1]
      refine ⟨Contains_call G sl (c.list.take k) kb _ _ s2 (by simp; omega) ?_⟩
      by_cases hmem : (kb : Int) ∈ c.list.take k
      · simp (disch := omega) only [go_sem, decide_eq_true hmem]
        rw [if_pos] at hk
        · have := hps []
          rw [List.append_nil] at this
          exact ret_keep (hk _ _ _ rfl this)
        · rintro ⟨_, hnd⟩
          rw [← List.take_append_drop (k + 1) c.list, etake] at hnd
          have := (List.nodup_append.mp (List.nodup_append.mp hnd).1).2.2 _ hmem _ (List.mem_singleton.mpr rfl)
          exact this rfl
      · simp (disch := omega) only [go_sem, decide_eq_false hmem]
        refine next_keep (c.list.length - (k + 1)) ?_ (Nat.le_refl _) ?_
        · omega
        refine ⟨k + 1, by omega, rfl, rfl, ?_, rfl⟩
        rw [etake]
        refine ⟨?_, ?_⟩
        · intro y hy
          rcases List.mem_append.mp hy with hy | hy
          · exact hfr.1 y hy
          · rw [List.mem_singleton.mp hy, bk_eq hx]; exact hx0
        · refine List.nodup_append.mpr ⟨hfr.2, by simp, ?_⟩
          intro y hy z hz
          rw [List.mem_singleton.mp hz]
          rintro rfl
          exact hmem hy
    · simp (disch := omega) only [go_sem, q1, q2, i0, i2, G1, G2, hbr, hx0, l1]
      rw [if_pos] at hk
      · have := hps []
        rw [List.append_nil] at this
        exact ret_keep (hk _ _ _ rfl this)
      · rintro ⟨hall, _⟩
        have := hall kb hbm
        rw [bk_eq hx] at this
        exact hx0 this
  · rw [List.take_of_length_le (by omega)] at hfr
    rw [if_neg (by simpa using hfr)] at hk
    have cH := haH.chg
    by_cases hc8 : s.chains.length ≥ 8
    · rw [if_pos (.inl hc8)] at hk
      simp (disch := omega) only [go_sem, G1, G3, i0, i2, Nat.one_ne_zero, if_false]
      have := hps []
      rw [List.append_nil] at this
      exact ret_keep (hk _ _ _ rfl this)
    cases hs : s.chg with
    | some g =>
      rw [if_pos (.inr (.inl (by rw [hs]; rfl)))] at hk
      rw [hs] at cH
      obtain ⟨x, W1, W2, rfl, h2, h3, h4⟩ := cH
      simp (disch := omega) only [go_sem, G1, G3, i0, i2, Nat.one_ne_zero, if_false, pn1 Tryz.und103]
      have := hps []
      rw [List.append_nil] at this
      exact ret_keep (hk _ _ _ rfl this)
    | none =>
    rw [hs] at cH hk
    obtain rfl : CH = .v (.pointer none) := cH
    by_cases hbig : s.lay.ver ≥ 1073741824
    · rw [if_pos (.inr (.inr hbig))] at hk
      simp (disch := omega) only [go_sem, G1, G3, i0, i2, Nat.one_ne_zero, if_false, pn2 Tryz.und103]
      have := hps []
      rw [List.append_nil] at this
      exact ret_keep (hk _ _ _ rfl this)
    rw [if_neg (by simp; omega)] at hk
    simp (disch := omega) only [go_sem, G1, G3, i0, i2, Nat.one_ne_zero, if_false, pn2 Tryz.und103, l1]
    have hlenH : aLen Tryz.prog h' 31 la = some (.v (.int .i64 c.list.length)) := by
      have := L0.len (P := Tryz.prog) (t := 31) Tryz.und31
      rw [List.length_map] at this
      exact this
    simp (disch := omega) only [go_sem, hlenH, two0, if_false]
    clear hfr hk1 hkl hl1 hlow2 hps i2 F1 F2 F3 G1 G2 G3 hlenH
    refine make_end G h h' K p bid O C W rows s c la aO haH eH hown hin L0 l1 l3 hll (by rw [← hH]; simp) (by rw [← hH]; simp) (by omega) hs ok ?_
    intro h9 hp
    exact hk _ _ _ rfl hp
end Go.Proofs

/-
  Contracts: which commands name what they may. (Printed.)
-/
namespace Go.Proofs
open Go Go.Abs
set_option maxRecDepth 100000
set_option linter.unusedSimpArgs false
def bareOk (b0 b1 b2 b3 b4 : Bool) (c : CmdA) : Bool := (b0 || decide (c.chain = 0)) && (b1 || decide (c.brick = 0)) && (b2 || decide (c.epoch = 0)) && (b3 || decide (c.list.length = 0)) && (b4 || decide (c.cur = []))
theorem noStr : (bs []) = ByteArray.mk #[] := rfl
theorem bare_FFFTF (G : Nat → Option AV) (c : CmdA) (la f : AV) (h : AH) (K : AV → AH → Prop) (f1 : f.one = true) (f2 : f.cells = [f]) (l0 : Ints h la c.list) (l1 : la.one = true) (l2 : la.cells = [la]) (hll : c.list.length ≤ 17592186044416)
    (hk : ∀ t, K (.v (.bool (bareOk false false false true false c))) (h ++ t)) : SCall Tryz.prog G 47 [.agg [.v (.bool false), .v (.bool false), .v (.bool false), .v (.bool true), .v (.bool false), f], .agg (c.cells la)] h K := by
  refine Tryz.c47 G _ _ h K fun hlow => ?_
  unfold Tryz.r47
  have hlen : ∀ t, aLen Tryz.prog (h ++ t) 31 la = some (.v (.int .i64 c.list.length)) := fun t => by
    have := (l0.app t).len (P := Tryz.prog) (t := 31) Tryz.und31
    rw [List.length_map] at this
    exact this
  have hse : ∀ l : List UInt8, aBin Tryz.prog .eql 9 (.v (.string (bs l))) (.v (.string (ByteArray.mk #[]))) = some (.v (.bool (decide (l = [])))) := fun l => by
    rw [← noStr]
    simp only [go_sem]
  unfold bareOk at hk
  by_cases z0 : c.chain = 0
  rotate_left
  · simp (disch := omega) only [go_sem, f1, f2, l1, l2, hlen, hse, decide_false, decide_true, z0]
    simp only [z0, decide_false, decide_true, Bool.or_false, Bool.or_true, Bool.false_or, Bool.true_or, Bool.and_false, Bool.false_and, Bool.and_true, Bool.true_and] at hk
    exact ret_keep (hk _)
  by_cases z1 : c.brick = 0
  rotate_left
  · simp (disch := omega) only [go_sem, f1, f2, l1, l2, hlen, hse, decide_false, decide_true, z0, z1]
    simp only [z0, z1, decide_false, decide_true, Bool.or_false, Bool.or_true, Bool.false_or, Bool.true_or, Bool.and_false, Bool.false_and, Bool.and_true, Bool.true_and] at hk
    exact ret_keep (hk _)
  by_cases z2 : c.epoch = 0
  rotate_left
  · simp (disch := omega) only [go_sem, f1, f2, l1, l2, hlen, hse, decide_false, decide_true, z0, z1, z2]
    simp only [z0, z1, z2, decide_false, decide_true, Bool.or_false, Bool.or_true, Bool.false_or, Bool.true_or, Bool.and_false, Bool.false_and, Bool.and_true, Bool.true_and] at hk
    exact ret_keep (hk _)
  by_cases z4 : c.cur = []
  rotate_left
  · simp (disch := omega) only [go_sem, f1, f2, l1, l2, hlen, hse, decide_false, decide_true, z0, z1, z2, z4]
    simp only [z0, z1, z2, z4, decide_false, decide_true, Bool.or_false, Bool.or_true, Bool.false_or, Bool.true_or, Bool.and_false, Bool.false_and, Bool.and_true, Bool.true_and] at hk
    exact ret_keep (hk _)
  simp (disch := omega) only [go_sem, f1, f2, l1, l2, hlen, hse, decide_false, decide_true, z0, z1, z2, z4]
  simp only [z0, z1, z2, z4, decide_false, decide_true, Bool.or_false, Bool.or_true, Bool.false_or, Bool.true_or, Bool.and_false, Bool.false_and, Bool.and_true, Bool.true_and] at hk
  exact ret_keep (hk _)
theorem bare_TTFFF (G : Nat → Option AV) (c : CmdA) (la f : AV) (h : AH) (K : AV → AH → Prop) (f1 : f.one = true) (f2 : f.cells = [f]) (l0 : Ints h la c.list) (l1 : la.one = true) (l2 : la.cells = [la]) (hll : c.list.length ≤ 17592186044416)
    (hk : ∀ t, K (.v (.bool (bareOk true true false false false c))) (h ++ t)) : SCall Tryz.prog G 47 [.agg [.v (.bool true), .v (.bool true), .v (.bool false), .v (.bool false), .v (.bool false), f], .agg (c.cells la)] h K := by
  refine Tryz.c47 G _ _ h K fun hlow => ?_
  unfold Tryz.r47
  have hlen : ∀ t, aLen Tryz.prog (h ++ t) 31 la = some (.v (.int .i64 c.list.length)) := fun t => by
    have := (l0.app t).len (P := Tryz.prog) (t := 31) Tryz.und31
    rw [List.length_map] at this
    exact this
  have hse : ∀ l : List UInt8, aBin Tryz.prog .eql 9 (.v (.string (bs l))) (.v (.string (ByteArray.mk #[]))) = some (.v (.bool (decide (l = [])))) := fun l => by
    rw [← noStr]
    simp only [go_sem]
  unfold bareOk at hk
  by_cases z2 : c.epoch = 0
  rotate_left
  · simp (disch := omega) only [go_sem, f1, f2, l1, l2, hlen, hse, decide_false, decide_true, z2]
    simp only [z2, decide_false, decide_true, Bool.or_false, Bool.or_true, Bool.false_or, Bool.true_or, Bool.and_false, Bool.false_and, Bool.and_true, Bool.true_and] at hk
    exact ret_keep (hk _)
  by_cases z3 : c.list.length = 0
  rotate_left
  · simp (disch := omega) only [go_sem, f1, f2, l1, l2, hlen, hse, decide_false, decide_true, z2, z3]
    simp only [z2, z3, decide_false, decide_true, Bool.or_false, Bool.or_true, Bool.false_or, Bool.true_or, Bool.and_false, Bool.false_and, Bool.and_true, Bool.true_and] at hk
    exact ret_keep (hk _)
  by_cases z4 : c.cur = []
  rotate_left
  · simp (disch := omega) only [go_sem, f1, f2, l1, l2, hlen, hse, decide_false, decide_true, z2, z3, z4]
    simp only [z2, z3, z4, decide_false, decide_true, Bool.or_false, Bool.or_true, Bool.false_or, Bool.true_or, Bool.and_false, Bool.false_and, Bool.and_true, Bool.true_and] at hk
    exact ret_keep (hk _)
  simp (disch := omega) only [go_sem, f1, f2, l1, l2, hlen, hse, decide_false, decide_true, z2, z3, z4]
  simp only [z2, z3, z4, decide_false, decide_true, Bool.or_false, Bool.or_true, Bool.false_or, Bool.true_or, Bool.and_false, Bool.false_and, Bool.and_true, Bool.true_and] at hk
  exact ret_keep (hk _)
theorem bare_FTFFF (G : Nat → Option AV) (c : CmdA) (la f : AV) (h : AH) (K : AV → AH → Prop) (f1 : f.one = true) (f2 : f.cells = [f]) (l0 : Ints h la c.list) (l1 : la.one = true) (l2 : la.cells = [la]) (hll : c.list.length ≤ 17592186044416)
    (hk : ∀ t, K (.v (.bool (bareOk false true false false false c))) (h ++ t)) : SCall Tryz.prog G 47 [.agg [.v (.bool false), .v (.bool true), .v (.bool false), .v (.bool false), .v (.bool false), f], .agg (c.cells la)] h K := by
  refine Tryz.c47 G _ _ h K fun hlow => ?_
  unfold Tryz.r47
  have hlen : ∀ t, aLen Tryz.prog (h ++ t) 31 la = some (.v (.int .i64 c.list.length)) := fun t => by
    have := (l0.app t).len (P := Tryz.prog) (t := 31) Tryz.und31
    rw [List.length_map] at this
    exact this
  have hse : ∀ l : List UInt8, aBin Tryz.prog .eql 9 (.v (.string (bs l))) (.v (.string (ByteArray.mk #[]))) = some (.v (.bool (decide (l = [])))) := fun l => by
    rw [← noStr]
    simp only [go_sem]
  unfold bareOk at hk
  by_cases z0 : c.chain = 0
  rotate_left
  · simp (disch := omega) only [go_sem, f1, f2, l1, l2, hlen, hse, decide_false, decide_true, z0]
    simp only [z0, decide_false, decide_true, Bool.or_false, Bool.or_true, Bool.false_or, Bool.true_or, Bool.and_false, Bool.false_and, Bool.and_true, Bool.true_and] at hk
    exact ret_keep (hk _)
  by_cases z2 : c.epoch = 0
  rotate_left
  · simp (disch := omega) only [go_sem, f1, f2, l1, l2, hlen, hse, decide_false, decide_true, z0, z2]
    simp only [z0, z2, decide_false, decide_true, Bool.or_false, Bool.or_true, Bool.false_or, Bool.true_or, Bool.and_false, Bool.false_and, Bool.and_true, Bool.true_and] at hk
    exact ret_keep (hk _)
  by_cases z3 : c.list.length = 0
  rotate_left
  · simp (disch := omega) only [go_sem, f1, f2, l1, l2, hlen, hse, decide_false, decide_true, z0, z2, z3]
    simp only [z0, z2, z3, decide_false, decide_true, Bool.or_false, Bool.or_true, Bool.false_or, Bool.true_or, Bool.and_false, Bool.false_and, Bool.and_true, Bool.true_and] at hk
    exact ret_keep (hk _)
  by_cases z4 : c.cur = []
  rotate_left
  · simp (disch := omega) only [go_sem, f1, f2, l1, l2, hlen, hse, decide_false, decide_true, z0, z2, z3, z4]
    simp only [z0, z2, z3, z4, decide_false, decide_true, Bool.or_false, Bool.or_true, Bool.false_or, Bool.true_or, Bool.and_false, Bool.false_and, Bool.and_true, Bool.true_and] at hk
    exact ret_keep (hk _)
  simp (disch := omega) only [go_sem, f1, f2, l1, l2, hlen, hse, decide_false, decide_true, z0, z2, z3, z4]
  simp only [z0, z2, z3, z4, decide_false, decide_true, Bool.or_false, Bool.or_true, Bool.false_or, Bool.true_or, Bool.and_false, Bool.false_and, Bool.and_true, Bool.true_and] at hk
  exact ret_keep (hk _)
theorem bare_FTTFF (G : Nat → Option AV) (c : CmdA) (la f : AV) (h : AH) (K : AV → AH → Prop) (f1 : f.one = true) (f2 : f.cells = [f]) (l0 : Ints h la c.list) (l1 : la.one = true) (l2 : la.cells = [la]) (hll : c.list.length ≤ 17592186044416)
    (hk : ∀ t, K (.v (.bool (bareOk false true true false false c))) (h ++ t)) : SCall Tryz.prog G 47 [.agg [.v (.bool false), .v (.bool true), .v (.bool true), .v (.bool false), .v (.bool false), f], .agg (c.cells la)] h K := by
  refine Tryz.c47 G _ _ h K fun hlow => ?_
  unfold Tryz.r47
  have hlen : ∀ t, aLen Tryz.prog (h ++ t) 31 la = some (.v (.int .i64 c.list.length)) := fun t => by
    have := (l0.app t).len (P := Tryz.prog) (t := 31) Tryz.und31
    rw [List.length_map] at this
    exact this
  have hse : ∀ l : List UInt8, aBin Tryz.prog .eql 9 (.v (.string (bs l))) (.v (.string (ByteArray.mk #[]))) = some (.v (.bool (decide (l = [])))) := fun l => by
    rw [← noStr]
    simp only [go_sem]
  unfold bareOk at hk
  by_cases z0 : c.chain = 0
  rotate_left
  · simp (disch := omega) only [go_sem, f1, f2, l1, l2, hlen, hse, decide_false, decide_true, z0]
    simp only [z0, decide_false, decide_true, Bool.or_false, Bool.or_true, Bool.false_or, Bool.true_or, Bool.and_false, Bool.false_and, Bool.and_true, Bool.true_and] at hk
    exact ret_keep (hk _)
  by_cases z3 : c.list.length = 0
  rotate_left
  · simp (disch := omega) only [go_sem, f1, f2, l1, l2, hlen, hse, decide_false, decide_true, z0, z3]
    simp only [z0, z3, decide_false, decide_true, Bool.or_false, Bool.or_true, Bool.false_or, Bool.true_or, Bool.and_false, Bool.false_and, Bool.and_true, Bool.true_and] at hk
    exact ret_keep (hk _)
  by_cases z4 : c.cur = []
  rotate_left
  · simp (disch := omega) only [go_sem, f1, f2, l1, l2, hlen, hse, decide_false, decide_true, z0, z3, z4]
    simp only [z0, z3, z4, decide_false, decide_true, Bool.or_false, Bool.or_true, Bool.false_or, Bool.true_or, Bool.and_false, Bool.false_and, Bool.and_true, Bool.true_and] at hk
    exact ret_keep (hk _)
  simp (disch := omega) only [go_sem, f1, f2, l1, l2, hlen, hse, decide_false, decide_true, z0, z3, z4]
  simp only [z0, z3, z4, decide_false, decide_true, Bool.or_false, Bool.or_true, Bool.false_or, Bool.true_or, Bool.and_false, Bool.false_and, Bool.and_true, Bool.true_and] at hk
  exact ret_keep (hk _)
theorem bare_FFFFT (G : Nat → Option AV) (c : CmdA) (la f : AV) (h : AH) (K : AV → AH → Prop) (f1 : f.one = true) (f2 : f.cells = [f]) (l0 : Ints h la c.list) (l1 : la.one = true) (l2 : la.cells = [la]) (hll : c.list.length ≤ 17592186044416)
    (hk : ∀ t, K (.v (.bool (bareOk false false false false true c))) (h ++ t)) : SCall Tryz.prog G 47 [.agg [.v (.bool false), .v (.bool false), .v (.bool false), .v (.bool false), .v (.bool true), f], .agg (c.cells la)] h K := by
  refine Tryz.c47 G _ _ h K fun hlow => ?_
  unfold Tryz.r47
  have hlen : ∀ t, aLen Tryz.prog (h ++ t) 31 la = some (.v (.int .i64 c.list.length)) := fun t => by
    have := (l0.app t).len (P := Tryz.prog) (t := 31) Tryz.und31
    rw [List.length_map] at this
    exact this
  have hse : ∀ l : List UInt8, aBin Tryz.prog .eql 9 (.v (.string (bs l))) (.v (.string (ByteArray.mk #[]))) = some (.v (.bool (decide (l = [])))) := fun l => by
    rw [← noStr]
    simp only [go_sem]
  unfold bareOk at hk
  by_cases z0 : c.chain = 0
  rotate_left
  · simp (disch := omega) only [go_sem, f1, f2, l1, l2, hlen, hse, decide_false, decide_true, z0]
    simp only [z0, decide_false, decide_true, Bool.or_false, Bool.or_true, Bool.false_or, Bool.true_or, Bool.and_false, Bool.false_and, Bool.and_true, Bool.true_and] at hk
    exact ret_keep (hk _)
  by_cases z1 : c.brick = 0
  rotate_left
  · simp (disch := omega) only [go_sem, f1, f2, l1, l2, hlen, hse, decide_false, decide_true, z0, z1]
    simp only [z0, z1, decide_false, decide_true, Bool.or_false, Bool.or_true, Bool.false_or, Bool.true_or, Bool.and_false, Bool.false_and, Bool.and_true, Bool.true_and] at hk
    exact ret_keep (hk _)
  by_cases z2 : c.epoch = 0
  rotate_left
  · simp (disch := omega) only [go_sem, f1, f2, l1, l2, hlen, hse, decide_false, decide_true, z0, z1, z2]
    simp only [z0, z1, z2, decide_false, decide_true, Bool.or_false, Bool.or_true, Bool.false_or, Bool.true_or, Bool.and_false, Bool.false_and, Bool.and_true, Bool.true_and] at hk
    exact ret_keep (hk _)
  by_cases z3 : c.list.length = 0
  rotate_left
  · simp (disch := omega) only [go_sem, f1, f2, l1, l2, hlen, hse, decide_false, decide_true, z0, z1, z2, z3]
    simp only [z0, z1, z2, z3, decide_false, decide_true, Bool.or_false, Bool.or_true, Bool.false_or, Bool.true_or, Bool.and_false, Bool.false_and, Bool.and_true, Bool.true_and] at hk
    exact ret_keep (hk _)
  simp (disch := omega) only [go_sem, f1, f2, l1, l2, hlen, hse, decide_false, decide_true, z0, z1, z2, z3]
  simp only [z0, z1, z2, z3, decide_false, decide_true, Bool.or_false, Bool.or_true, Bool.false_or, Bool.true_or, Bool.and_false, Bool.false_and, Bool.and_true, Bool.true_and] at hk
  exact ret_keep (hk _)
theorem bare_FFFFF (G : Nat → Option AV) (c : CmdA) (la f : AV) (h : AH) (K : AV → AH → Prop) (f1 : f.one = true) (f2 : f.cells = [f]) (l0 : Ints h la c.list) (l1 : la.one = true) (l2 : la.cells = [la]) (hll : c.list.length ≤ 17592186044416)
    (hk : ∀ t, K (.v (.bool (bareOk false false false false false c))) (h ++ t)) : SCall Tryz.prog G 47 [.agg [.v (.bool false), .v (.bool false), .v (.bool false), .v (.bool false), .v (.bool false), f], .agg (c.cells la)] h K := by
  refine Tryz.c47 G _ _ h K fun hlow => ?_
  unfold Tryz.r47
  have hlen : ∀ t, aLen Tryz.prog (h ++ t) 31 la = some (.v (.int .i64 c.list.length)) := fun t => by
    have := (l0.app t).len (P := Tryz.prog) (t := 31) Tryz.und31
    rw [List.length_map] at this
    exact this
  have hse : ∀ l : List UInt8, aBin Tryz.prog .eql 9 (.v (.string (bs l))) (.v (.string (ByteArray.mk #[]))) = some (.v (.bool (decide (l = [])))) := fun l => by
    rw [← noStr]
    simp only [go_sem]
  unfold bareOk at hk
  by_cases z0 : c.chain = 0
  rotate_left
  · simp (disch := omega) only [go_sem, f1, f2, l1, l2, hlen, hse, decide_false, decide_true, z0]
    simp only [z0, decide_false, decide_true, Bool.or_false, Bool.or_true, Bool.false_or, Bool.true_or, Bool.and_false, Bool.false_and, Bool.and_true, Bool.true_and] at hk
    exact ret_keep (hk _)
  by_cases z1 : c.brick = 0
  rotate_left
  · simp (disch := omega) only [go_sem, f1, f2, l1, l2, hlen, hse, decide_false, decide_true, z0, z1]
    simp only [z0, z1, decide_false, decide_true, Bool.or_false, Bool.or_true, Bool.false_or, Bool.true_or, Bool.and_false, Bool.false_and, Bool.and_true, Bool.true_and] at hk
    exact ret_keep (hk _)
  by_cases z2 : c.epoch = 0
  rotate_left
  · simp (disch := omega) only [go_sem, f1, f2, l1, l2, hlen, hse, decide_false, decide_true, z0, z1, z2]
    simp only [z0, z1, z2, decide_false, decide_true, Bool.or_false, Bool.or_true, Bool.false_or, Bool.true_or, Bool.and_false, Bool.false_and, Bool.and_true, Bool.true_and] at hk
    exact ret_keep (hk _)
  by_cases z3 : c.list.length = 0
  rotate_left
  · simp (disch := omega) only [go_sem, f1, f2, l1, l2, hlen, hse, decide_false, decide_true, z0, z1, z2, z3]
    simp only [z0, z1, z2, z3, decide_false, decide_true, Bool.or_false, Bool.or_true, Bool.false_or, Bool.true_or, Bool.and_false, Bool.false_and, Bool.and_true, Bool.true_and] at hk
    exact ret_keep (hk _)
  by_cases z4 : c.cur = []
  rotate_left
  · simp (disch := omega) only [go_sem, f1, f2, l1, l2, hlen, hse, decide_false, decide_true, z0, z1, z2, z3, z4]
    simp only [z0, z1, z2, z3, z4, decide_false, decide_true, Bool.or_false, Bool.or_true, Bool.false_or, Bool.true_or, Bool.and_false, Bool.false_and, Bool.and_true, Bool.true_and] at hk
    exact ret_keep (hk _)
  simp (disch := omega) only [go_sem, f1, f2, l1, l2, hlen, hse, decide_false, decide_true, z0, z1, z2, z3, z4]
  simp only [z0, z1, z2, z3, z4, decide_false, decide_true, Bool.or_false, Bool.or_true, Bool.false_or, Bool.true_or, Bool.and_false, Bool.false_and, Bool.and_true, Bool.true_and] at hk
  exact ret_keep (hk _)
end Go.Proofs

/-
  Contracts: the reference's bare.
-/
namespace Go.Proofs
open Go Go.Abs
set_option maxRecDepth 100000
set_option linter.unusedSimpArgs false
/-- Is nothing set that the kind does not name? -/
def CmdA.bare18 (c : CmdA) : Bool := (decide (1 ≤ c.kind) && decide (c.kind ≤ 9)) && bareOk (decide (c.kind = 2)) (decide (2 ≤ c.kind) && decide (c.kind ≤ 6)) (decide (c.kind = 6)) (decide (c.kind = 1) || decide (c.kind = 7)) (decide (c.kind = 8)) c
set_option maxHeartbeats 8000000 in
theorem refBare_call (G : Nat → Option AV) (c : CmdA) (la : AV) (h : AH) (K : AV → AH → Prop) (l0 : Ints h la c.list) (l1 : la.one = true) (l2 : la.cells = [la]) (hll : c.list.length ≤ 17592186044416)
    (hk : ∀ t, K (.v (.bool c.bare18)) (h ++ t)) : SCall Tryz.prog G 48 [.agg (c.cells la)] h K := by
  refine Tryz.c48 G _ h K fun hlow => ?_
  unfold Tryz.r48
  have hlen : ∀ t, aLen Tryz.prog (h ++ t) 31 la = some (.v (.int .i64 c.list.length)) := fun t => by
    have := (l0.app t).len (P := Tryz.prog) (t := 31) Tryz.und31
    rw [List.length_map] at this
    exact this
  have hse : ∀ l : List UInt8, aBin Tryz.prog .eql 9 (.v (.string (bs l))) (.v (.string (ByteArray.mk #[]))) = some (.v (.bool (decide (l = [])))) := fun l => by
    rw [← noStr]
    simp only [go_sem]
  unfold CmdA.bare18 bareOk at hk
  by_cases h1 : c.kind < 1
  · simp (disch := omega) only [go_sem, l1, l2]
    rw [decide_eq_false (by omega)] at hk
    exact ret_keep (hk _)
  by_cases h9 : 9 < c.kind
  · simp (disch := omega) only [go_sem, l1, l2]
    rw [decide_eq_true (show 1 ≤ c.kind by omega), decide_eq_false (show ¬ c.kind ≤ 9 by omega)] at hk
    exact ret_keep (hk _)
  have hkk : c.kind = 1 ∨ c.kind = 2 ∨ c.kind = 3 ∨ c.kind = 4 ∨ c.kind = 5 ∨ c.kind = 6 ∨ c.kind = 7 ∨ c.kind = 8 ∨ c.kind = 9 := by omega
  have e0 : ∀ x : Int, (x == 0) = decide (x = 0) := fun x => by by_cases hx : x = 0 <;> simp [hx]
  rcases hkk with k | k | k | k | k | k | k | k | k <;> rw [k] at hk <;> by_cases z0 : c.chain = 0 <;> by_cases z1 : c.brick = 0 <;> by_cases z2 : c.epoch = 0 <;> by_cases z3 : c.list.length = 0 <;> by_cases z4 : c.cur = [] <;>
    (simp (disch := omega) only [go_sem, l1, l2, hlen, hse, k, z0, z1, z2, z3, z4, e0, decide_true, decide_false]
     simp [z0, z1, z2, z3, z4] at hk
     exact ret_keep (hk _))
end Go.Proofs

/-
  Contracts: a command is done.
-/
namespace Go.Proofs
open Go Go.Abs
set_option maxRecDepth 100000
set_option linter.unusedSimpArgs false
theorem on_call (G : Nat → Option AV) (b0 b1 b2 b3 b4 : Bool) (h : AH) (K : AV → AH → Prop)
    (hk : ∀ t, K (.agg [.v (.bool b0), .v (.bool true), .v (.bool b2), .v (.bool b3), .v (.bool b4), .fn (.func 97) [] []]) (h ++ t)) : SCall Tryz.prog G 96 [.agg [.v (.bool b0), .v (.bool b1), .v (.bool b2), .v (.bool b3), .v (.bool b4), .v .nilFunc]] h K := by
  refine Tryz.c96 G _ h K fun hlow => ?_
  unfold Tryz.r96
  have s83 : siz Tryz.prog 113 = some 1 := by kernel_rfl
  simp (disch := omega) only [go_sem, Nat.one_ne_zero, two0, if_false, s83]
  exact ret_keep (hk _)
abbrev cmdRow (b0 b1 b2 b3 b4 : Bool) (f : Nat) : List AV := [.v (.bool b0), .v (.bool b1), .v (.bool b2), .v (.bool b3), .v (.bool b4), .fn (.func f) [] []]
def cmdRows : List (List AV) := [cmdRow false false false true false 98, cmdRow true true false false false 97, cmdRow false true false false false 97, cmdRow false true false false false 97, cmdRow false true false false false 97, cmdRow false true true false false 97, cmdRow false false false true false 99, cmdRow false false false false true 100, cmdRow false false false false false 101]
theorem commands_call (G : Nat → Option AV) (h : AH) (K : AV → AH → Prop)
    (hk : ∀ t, K (.sl (h.length + t.length) 0 0 9 none) (h ++ (t ++ [some (.cells 115 6 cmdRows 0)]))) : SCall Tryz.prog G 46 [] h K := by
  refine Tryz.c46 G h K fun hlow => ?_
  unfold Tryz.r46
  refine ⟨on_call G _ _ _ _ _ _ _ fun t1 => ?_⟩
  refine ⟨on_call G _ _ _ _ _ _ _ fun t2 => ?_⟩
  refine ⟨on_call G _ _ _ _ _ _ _ fun t3 => ?_⟩
  refine ⟨on_call G _ _ _ _ _ _ _ fun t4 => ?_⟩
  refine ⟨on_call G _ _ _ _ _ _ _ fun t5 => ?_⟩
  have e : rowsFill 6 (List.replicate 9 [(.v (.bool false)), (.v (.bool false)), (.v (.bool false)), (.v (.bool false)), (.v (.bool false)), (.v .nilFunc)]) [(0, some (.agg [(.v (.bool false)), (.v (.bool false)), (.v (.bool false)), (.v (.bool true)), (.v (.bool false)), (.fn (.func 98) [] [])])), (1, some (.agg (cmdRow true true false false false 97))), (2, some (.agg (cmdRow false true false false false 97))), (3, some (.agg (cmdRow false true false false false 97))), (4, some (.agg (cmdRow false true false false false 97))), (5, some (.agg (cmdRow false true true false false 97))), (6, some (.agg [(.v (.bool false)), (.v (.bool false)), (.v (.bool false)), (.v (.bool true)), (.v (.bool false)), (.fn (.func 99) [] [])])), (7, some (.agg [(.v (.bool false)), (.v (.bool false)), (.v (.bool false)), (.v (.bool false)), (.v (.bool true)), (.fn (.func 100) [] [])])), (8, some (.agg [(.v (.bool false)), (.v (.bool false)), (.v (.bool false)), (.v (.bool false)), (.v (.bool false)), (.fn (.func 101) [] [])]))] = some cmdRows := rfl
  rw [e]
  simp (disch := omega) only [go_sem]
  have := hk (t1 ++ t2 ++ t3 ++ t4 ++ t5)
  simp only [List.append_assoc, List.length_append] at this ⊢
  have e2 : h.length + (t1.length + (t2.length + (t3.length + (t4.length + t5.length)))) = h.length + t1.length + t2.length + t3.length + t4.length + t5.length := by omega
  exact ret_keep this
def Adm.step (s : Adm) (c : CmdA) : Int × Adm :=
  if c.kind = 1 then (if bareOk false false false true false c then s.make c else (80, s)) else
  if c.kind = 2 then (if bareOk true true false false false c then s.onBrick c else (80, s)) else
  if c.kind = 3 then (if bareOk false true false false false c then s.onBrick c else (80, s)) else
  if c.kind = 4 then (if bareOk false true false false false c then s.onBrick c else (80, s)) else
  if c.kind = 5 then (if bareOk false true false false false c then s.onBrick c else (80, s)) else
  if c.kind = 6 then (if bareOk false true true false false c then s.onBrick c else (80, s)) else
  if c.kind = 7 then (if bareOk false false false true false c then s.begin c else (80, s)) else
  if c.kind = 8 then (if bareOk false false false false true c then s.moved c else (80, s)) else
  if c.kind = 9 then (if bareOk false false false false false c then s.done else (80, s)) else
  (80, s)
theorem Post.base {h H h' : AH} {p : Nat} {O : Nat → Prop} {s : Adm} (q : Post H p O s h') (e : Ext h H) : Post h p O s h' := by
  refine ⟨Nat.le_trans e.len q.len, fun i hi hO => (q.fr i (Nat.lt_of_lt_of_le hi e.len) hO).trans (e.get i hi), ?_⟩
  obtain ⟨bid, C, rows, W, CH, h1, h2⟩ := q.adm
  exact ⟨bid, C, rows, W, CH, h1, fun i hi => (h2 i hi).imp id fun h => Nat.le_trans e.len h⟩
theorem und83 : ∃ a b c, und Tryz.prog 113 = .func a b c := by
  have t : (match und Tryz.prog 113 with | .func .. => true | _ => false) = true := by kernel_rfl
  cases hu : und Tryz.prog 113 with
  | func a b c => exact ⟨a, b, c, rfl⟩
  | _ => rw [hu] at t; cases t
theorem Do_call (G : Nat → Option AV) (h : AH) (K : AV → AH → Prop) (p : Nat) (O : Nat → Prop) (s : Adm) (c : CmdA) (la : AV) (aO : AdmOf h p O s) (ok : s.Ok) (l0 : Ints h la c.list) (l1 : la.one = true) (l2 : la.cells = [la]) (l3 : ∀ r f, la ≠ .lst r f false) (hll : c.list.length ≤ 17592186044416) (hcl : c.cur.length ≤ 4611686018427387904)
    (hk : ∀ e s' h', s.step c = (e, s') → Post h p O s' h' → K (.v (.int .i64 e)) h') : SCall Tryz.prog G 12 [.ptr p 0 0 0, .agg (c.cells la)] h K := by
  refine Tryz.c12 G _ _ h K fun hlow => ?_
  unfold Tryz.r12
  have s83 : siz Tryz.prog 113 = some 1 := by kernel_rfl
  obtain ⟨u1, u2, u3, u83⟩ := und83
  simp (disch := omega) only [go_sem, l1, l2]
  refine ⟨commands_call G _ _ fun t1 => ?_⟩
  unfold Adm.step at hk
  have eX : h ++ [some (AO.cells 33 (1 + 1 + 1 + 1 + 1 + 1) [c.cells la] 0)] ++ (t1 ++ [some (.cells 115 6 cmdRows 0)]) = h ++ some (AO.cells 33 6 [c.cells la] 0) :: (t1 ++ [some (.cells 115 6 cmdRows 0)]) := by simp
  have m0 : ∀ t, (h ++ some (AO.cells 33 6 [c.cells la] 0) :: (t1 ++ [some (.cells 115 6 cmdRows 0)]) ++ t)[h.length]? = some (some (.cells 33 6 [c.cells la] 0)) := fun t => by simp
  have m1 : ∀ t, (h ++ some (AO.cells 33 6 [c.cells la] 0) :: (t1 ++ [some (.cells 115 6 cmdRows 0)]) ++ t)[(h ++ [some (AO.cells 33 (1 + 1 + 1 + 1 + 1 + 1) [c.cells la] 0)]).length + t1.length]? = some (some (.cells 115 6 cmdRows 0)) := fun t => by
    rw [List.append_assoc, List.length_append, List.length_singleton, Nat.add_assoc, Go.Abs.get_add]
    simp [Nat.add_comm]
  have eE : Ext h (h ++ some (AO.cells 33 6 [c.cells la] 0) :: (t1 ++ [some (.cells 115 6 cmdRows 0)])) := Ext.app _
  have hq : ∀ t, Post h p O s (h ++ some (AO.cells 33 6 [c.cells la] 0) :: (t1 ++ [some (.cells 115 6 cmdRows 0)]) ++ t) := fun t => by rw [List.append_assoc]; exact Post.same aO _
  have lX : Ints (h ++ some (AO.cells 33 6 [c.cells la] 0) :: (t1 ++ [some (.cells 115 6 cmdRows 0)])) la c.list := l0.app _
  rw [eX]
  generalize (h ++ some (AO.cells 33 6 [c.cells la] 0) :: (t1 ++ [some (.cells 115 6 cmdRows 0)])) = X at *
  generalize (h ++ [some (AO.cells 33 (1 + 1 + 1 + 1 + 1 + 1) [c.cells la] 0)]).length + t1.length = ic at *
  have n0 := m0 []
  have n1 := m1 []
  have hq0 := hq []
  rw [List.append_nil] at n0 n1 hq0
  by_cases r1 : c.kind < 1
  · rw [if_neg (show ¬ c.kind = 1 by omega), if_neg (show ¬ c.kind = 2 by omega), if_neg (show ¬ c.kind = 3 by omega), if_neg (show ¬ c.kind = 4 by omega), if_neg (show ¬ c.kind = 5 by omega), if_neg (show ¬ c.kind = 6 by omega), if_neg (show ¬ c.kind = 7 by omega), if_neg (show ¬ c.kind = 8 by omega), if_neg (show ¬ c.kind = 9 by omega)] at hk
    simp (disch := omega) only [go_sem, l1, l2, n0, n1, m0, m1, r1]
    exact ret_keep (hk _ _ _ rfl hq0)
  by_cases r2 : c.kind > 9
  · rw [if_neg (show ¬ c.kind = 1 by omega), if_neg (show ¬ c.kind = 2 by omega), if_neg (show ¬ c.kind = 3 by omega), if_neg (show ¬ c.kind = 4 by omega), if_neg (show ¬ c.kind = 5 by omega), if_neg (show ¬ c.kind = 6 by omega), if_neg (show ¬ c.kind = 7 by omega), if_neg (show ¬ c.kind = 8 by omega), if_neg (show ¬ c.kind = 9 by omega)] at hk
    simp (disch := omega) only [go_sem, l1, l2, n0, n1, m0, m1, r1, r2]
    exact ret_keep (hk _ _ _ rfl hq0)
  have cmd1 : cmdRows[((1 : Int) - 1).toNat]? = some (cmdRow false false false true false 98) := rfl
  have cmd2 : cmdRows[((2 : Int) - 1).toNat]? = some (cmdRow true true false false false 97) := rfl
  have cmd3 : cmdRows[((3 : Int) - 1).toNat]? = some (cmdRow false true false false false 97) := rfl
  have cmd4 : cmdRows[((4 : Int) - 1).toNat]? = some (cmdRow false true false false false 97) := rfl
  have cmd5 : cmdRows[((5 : Int) - 1).toNat]? = some (cmdRow false true false false false 97) := rfl
  have cmd6 : cmdRows[((6 : Int) - 1).toNat]? = some (cmdRow false true true false false 97) := rfl
  have cmd7 : cmdRows[((7 : Int) - 1).toNat]? = some (cmdRow false false false true false 99) := rfl
  have cmd8 : cmdRows[((8 : Int) - 1).toNat]? = some (cmdRow false false false false true 100) := rfl
  have cmd9 : cmdRows[((9 : Int) - 1).toNat]? = some (cmdRow false false false false false 101) := rfl
  by_cases k1 : c.kind = 1
  · rw [if_pos k1] at hk
    have ec : ([.v (.int .i64 1), .v (.int .i64 c.chain), .v (.int .i64 c.brick), .v (.int .i64 c.epoch), la, .v (.string (bs c.cur))] : List AV) = c.cells la := by simp only [CmdA.cells, k1]
    simp (disch := omega) only [go_sem, List.drop_zero, List.take_succ_cons, List.take_zero, eq_self, if_true, if_false, Bool.true_eq_false, Bool.false_eq_true, n0, n1, m0, m1, k1, l1, l2, cmd1]
    rw [ec]
    refine ⟨bare_FFFTF G c la (.fn (.func 98) [] []) _ _ rfl rfl lX l1 l2 hll fun t2 => ?_⟩
    cases hb : bareOk false false false true false c with
    | false =>
      simp only [hb, Bool.false_eq_true, if_false] at hk
      simp (disch := omega) only [go_sem]
      exact ret_keep (hk _ _ _ rfl (hq _))
    | true =>
      simp only [hb, if_true] at hk
      simp (disch := omega) only [go_sem, List.drop_zero, List.take_succ_cons, List.take_zero, eq_self, if_true, if_false, Bool.true_eq_false, Bool.false_eq_true, n0, n1, m0, m1, k1, l1, l2, s83, u83, Nat.one_ne_zero, if_false, cmd1]
      rw [ec]
      refine ⟨make_call G _ _ p O s c la ((aO.ext eE).app t2) ok (lX.app _) l1 l2 l3 hll fun e s' h' he hp => ?_⟩
      simp (disch := omega) only [go_sem]
      exact ret_keep (hk e s' h' he (hp.base ⟨by have := eE.len; simp; omega, fun i hi => by rw [List.getElem?_append_left (by have := eE.len; omega)]; exact eE.get i hi⟩))
  by_cases k2 : c.kind = 2
  · rw [if_neg k1, if_pos k2] at hk
    have ec : ([.v (.int .i64 2), .v (.int .i64 c.chain), .v (.int .i64 c.brick), .v (.int .i64 c.epoch), la, .v (.string (bs c.cur))] : List AV) = c.cells la := by simp only [CmdA.cells, k2]
    simp (disch := omega) only [go_sem, List.drop_zero, List.take_succ_cons, List.take_zero, eq_self, if_true, if_false, Bool.true_eq_false, Bool.false_eq_true, n0, n1, m0, m1, k2, l1, l2, cmd2]
    rw [ec]
    refine ⟨bare_TTFFF G c la (.fn (.func 97) [] []) _ _ rfl rfl lX l1 l2 hll fun t2 => ?_⟩
    cases hb : bareOk true true false false false c with
    | false =>
      simp only [hb, Bool.false_eq_true, if_false] at hk
      simp (disch := omega) only [go_sem]
      exact ret_keep (hk _ _ _ rfl (hq _))
    | true =>
      simp only [hb, if_true] at hk
      simp (disch := omega) only [go_sem, List.drop_zero, List.take_succ_cons, List.take_zero, eq_self, if_true, if_false, Bool.true_eq_false, Bool.false_eq_true, n0, n1, m0, m1, k2, l1, l2, s83, u83, Nat.one_ne_zero, if_false, cmd2]
      rw [ec]
      refine ⟨onBrick_call G _ _ p O s c la ((aO.ext eE).app t2) ok (by omega) l1 l2 fun e s' h' he hp => ?_⟩
      simp (disch := omega) only [go_sem]
      exact ret_keep (hk e s' h' he (hp.base ⟨by have := eE.len; simp; omega, fun i hi => by rw [List.getElem?_append_left (by have := eE.len; omega)]; exact eE.get i hi⟩))
  by_cases k3 : c.kind = 3
  · rw [if_neg k1, if_neg k2, if_pos k3] at hk
    have ec : ([.v (.int .i64 3), .v (.int .i64 c.chain), .v (.int .i64 c.brick), .v (.int .i64 c.epoch), la, .v (.string (bs c.cur))] : List AV) = c.cells la := by simp only [CmdA.cells, k3]
    simp (disch := omega) only [go_sem, List.drop_zero, List.take_succ_cons, List.take_zero, eq_self, if_true, if_false, Bool.true_eq_false, Bool.false_eq_true, n0, n1, m0, m1, k3, l1, l2, cmd3]
    rw [ec]
    refine ⟨bare_FTFFF G c la (.fn (.func 97) [] []) _ _ rfl rfl lX l1 l2 hll fun t2 => ?_⟩
    cases hb : bareOk false true false false false c with
    | false =>
      simp only [hb, Bool.false_eq_true, if_false] at hk
      simp (disch := omega) only [go_sem]
      exact ret_keep (hk _ _ _ rfl (hq _))
    | true =>
      simp only [hb, if_true] at hk
      simp (disch := omega) only [go_sem, List.drop_zero, List.take_succ_cons, List.take_zero, eq_self, if_true, if_false, Bool.true_eq_false, Bool.false_eq_true, n0, n1, m0, m1, k3, l1, l2, s83, u83, Nat.one_ne_zero, if_false, cmd3]
      rw [ec]
      refine ⟨onBrick_call G _ _ p O s c la ((aO.ext eE).app t2) ok (by omega) l1 l2 fun e s' h' he hp => ?_⟩
      simp (disch := omega) only [go_sem]
      exact ret_keep (hk e s' h' he (hp.base ⟨by have := eE.len; simp; omega, fun i hi => by rw [List.getElem?_append_left (by have := eE.len; omega)]; exact eE.get i hi⟩))
  by_cases k4 : c.kind = 4
  · rw [if_neg k1, if_neg k2, if_neg k3, if_pos k4] at hk
    have ec : ([.v (.int .i64 4), .v (.int .i64 c.chain), .v (.int .i64 c.brick), .v (.int .i64 c.epoch), la, .v (.string (bs c.cur))] : List AV) = c.cells la := by simp only [CmdA.cells, k4]
    simp (disch := omega) only [go_sem, List.drop_zero, List.take_succ_cons, List.take_zero, eq_self, if_true, if_false, Bool.true_eq_false, Bool.false_eq_true, n0, n1, m0, m1, k4, l1, l2, cmd4]
    rw [ec]
    refine ⟨bare_FTFFF G c la (.fn (.func 97) [] []) _ _ rfl rfl lX l1 l2 hll fun t2 => ?_⟩
    cases hb : bareOk false true false false false c with
    | false =>
      simp only [hb, Bool.false_eq_true, if_false] at hk
      simp (disch := omega) only [go_sem]
      exact ret_keep (hk _ _ _ rfl (hq _))
    | true =>
      simp only [hb, if_true] at hk
      simp (disch := omega) only [go_sem, List.drop_zero, List.take_succ_cons, List.take_zero, eq_self, if_true, if_false, Bool.true_eq_false, Bool.false_eq_true, n0, n1, m0, m1, k4, l1, l2, s83, u83, Nat.one_ne_zero, if_false, cmd4]
      rw [ec]
      refine ⟨onBrick_call G _ _ p O s c la ((aO.ext eE).app t2) ok (by omega) l1 l2 fun e s' h' he hp => ?_⟩
      simp (disch := omega) only [go_sem]
      exact ret_keep (hk e s' h' he (hp.base ⟨by have := eE.len; simp; omega, fun i hi => by rw [List.getElem?_append_left (by have := eE.len; omega)]; exact eE.get i hi⟩))
  by_cases k5 : c.kind = 5
  · rw [if_neg k1, if_neg k2, if_neg k3, if_neg k4, if_pos k5] at hk
    have ec : ([.v (.int .i64 5), .v (.int .i64 c.chain), .v (.int .i64 c.brick), .v (.int .i64 c.epoch), la, .v (.string (bs c.cur))] : List AV) = c.cells la := by simp only [CmdA.cells, k5]
    simp (disch := omega) only [go_sem, List.drop_zero, List.take_succ_cons, List.take_zero, eq_self, if_true, if_false, Bool.true_eq_false, Bool.false_eq_true, n0, n1, m0, m1, k5, l1, l2, cmd5]
    rw [ec]
    refine ⟨bare_FTFFF G c la (.fn (.func 97) [] []) _ _ rfl rfl lX l1 l2 hll fun t2 => ?_⟩
    cases hb : bareOk false true false false false c with
    | false =>
      simp only [hb, Bool.false_eq_true, if_false] at hk
      simp (disch := omega) only [go_sem]
      exact ret_keep (hk _ _ _ rfl (hq _))
    | true =>
      simp only [hb, if_true] at hk
      simp (disch := omega) only [go_sem, List.drop_zero, List.take_succ_cons, List.take_zero, eq_self, if_true, if_false, Bool.true_eq_false, Bool.false_eq_true, n0, n1, m0, m1, k5, l1, l2, s83, u83, Nat.one_ne_zero, if_false, cmd5]
      rw [ec]
      refine ⟨onBrick_call G _ _ p O s c la ((aO.ext eE).app t2) ok (by omega) l1 l2 fun e s' h' he hp => ?_⟩
      simp (disch := omega) only [go_sem]
      exact ret_keep (hk e s' h' he (hp.base ⟨by have := eE.len; simp; omega, fun i hi => by rw [List.getElem?_append_left (by have := eE.len; omega)]; exact eE.get i hi⟩))
  by_cases k6 : c.kind = 6
  · rw [if_neg k1, if_neg k2, if_neg k3, if_neg k4, if_neg k5, if_pos k6] at hk
    have ec : ([.v (.int .i64 6), .v (.int .i64 c.chain), .v (.int .i64 c.brick), .v (.int .i64 c.epoch), la, .v (.string (bs c.cur))] : List AV) = c.cells la := by simp only [CmdA.cells, k6]
    simp (disch := omega) only [go_sem, List.drop_zero, List.take_succ_cons, List.take_zero, eq_self, if_true, if_false, Bool.true_eq_false, Bool.false_eq_true, n0, n1, m0, m1, k6, l1, l2, cmd6]
    rw [ec]
    refine ⟨bare_FTTFF G c la (.fn (.func 97) [] []) _ _ rfl rfl lX l1 l2 hll fun t2 => ?_⟩
    cases hb : bareOk false true true false false c with
    | false =>
      simp only [hb, Bool.false_eq_true, if_false] at hk
      simp (disch := omega) only [go_sem]
      exact ret_keep (hk _ _ _ rfl (hq _))
    | true =>
      simp only [hb, if_true] at hk
      simp (disch := omega) only [go_sem, List.drop_zero, List.take_succ_cons, List.take_zero, eq_self, if_true, if_false, Bool.true_eq_false, Bool.false_eq_true, n0, n1, m0, m1, k6, l1, l2, s83, u83, Nat.one_ne_zero, if_false, cmd6]
      rw [ec]
      refine ⟨onBrick_call G _ _ p O s c la ((aO.ext eE).app t2) ok (by omega) l1 l2 fun e s' h' he hp => ?_⟩
      simp (disch := omega) only [go_sem]
      exact ret_keep (hk e s' h' he (hp.base ⟨by have := eE.len; simp; omega, fun i hi => by rw [List.getElem?_append_left (by have := eE.len; omega)]; exact eE.get i hi⟩))
  by_cases k7 : c.kind = 7
  · rw [if_neg k1, if_neg k2, if_neg k3, if_neg k4, if_neg k5, if_neg k6, if_pos k7] at hk
    have ec : ([.v (.int .i64 7), .v (.int .i64 c.chain), .v (.int .i64 c.brick), .v (.int .i64 c.epoch), la, .v (.string (bs c.cur))] : List AV) = c.cells la := by simp only [CmdA.cells, k7]
    simp (disch := omega) only [go_sem, List.drop_zero, List.take_succ_cons, List.take_zero, eq_self, if_true, if_false, Bool.true_eq_false, Bool.false_eq_true, n0, n1, m0, m1, k7, l1, l2, cmd7]
    rw [ec]
    refine ⟨bare_FFFTF G c la (.fn (.func 99) [] []) _ _ rfl rfl lX l1 l2 hll fun t2 => ?_⟩
    cases hb : bareOk false false false true false c with
    | false =>
      simp only [hb, Bool.false_eq_true, if_false] at hk
      simp (disch := omega) only [go_sem]
      exact ret_keep (hk _ _ _ rfl (hq _))
    | true =>
      simp only [hb, if_true] at hk
      simp (disch := omega) only [go_sem, List.drop_zero, List.take_succ_cons, List.take_zero, eq_self, if_true, if_false, Bool.true_eq_false, Bool.false_eq_true, n0, n1, m0, m1, k7, l1, l2, s83, u83, Nat.one_ne_zero, if_false, cmd7]
      rw [ec]
      refine ⟨begin_call G _ _ p O s c la ((aO.ext eE).app t2) ok (lX.app _) l1 l2 l3 hll fun e s' h' he hp => ?_⟩
      simp (disch := omega) only [go_sem]
      exact ret_keep (hk e s' h' he (hp.base ⟨by have := eE.len; simp; omega, fun i hi => by rw [List.getElem?_append_left (by have := eE.len; omega)]; exact eE.get i hi⟩))
  by_cases k8 : c.kind = 8
  · rw [if_neg k1, if_neg k2, if_neg k3, if_neg k4, if_neg k5, if_neg k6, if_neg k7, if_pos k8] at hk
    have ec : ([.v (.int .i64 8), .v (.int .i64 c.chain), .v (.int .i64 c.brick), .v (.int .i64 c.epoch), la, .v (.string (bs c.cur))] : List AV) = c.cells la := by simp only [CmdA.cells, k8]
    simp (disch := omega) only [go_sem, List.drop_zero, List.take_succ_cons, List.take_zero, eq_self, if_true, if_false, Bool.true_eq_false, Bool.false_eq_true, n0, n1, m0, m1, k8, l1, l2, cmd8]
    rw [ec]
    refine ⟨bare_FFFFT G c la (.fn (.func 100) [] []) _ _ rfl rfl lX l1 l2 hll fun t2 => ?_⟩
    cases hb : bareOk false false false false true c with
    | false =>
      simp only [hb, Bool.false_eq_true, if_false] at hk
      simp (disch := omega) only [go_sem]
      exact ret_keep (hk _ _ _ rfl (hq _))
    | true =>
      simp only [hb, if_true] at hk
      simp (disch := omega) only [go_sem, List.drop_zero, List.take_succ_cons, List.take_zero, eq_self, if_true, if_false, Bool.true_eq_false, Bool.false_eq_true, n0, n1, m0, m1, k8, l1, l2, s83, u83, Nat.one_ne_zero, if_false, cmd8]
      rw [ec]
      refine ⟨moved_call G _ _ p O s c la ((aO.ext eE).app t2) ok hcl fun e s' h' he hp => ?_⟩
      simp (disch := omega) only [go_sem]
      exact ret_keep (hk e s' h' he (hp.base ⟨by have := eE.len; simp; omega, fun i hi => by rw [List.getElem?_append_left (by have := eE.len; omega)]; exact eE.get i hi⟩))
  by_cases k9 : c.kind = 9
  · rw [if_neg k1, if_neg k2, if_neg k3, if_neg k4, if_neg k5, if_neg k6, if_neg k7, if_neg k8, if_pos k9] at hk
    have ec : ([.v (.int .i64 9), .v (.int .i64 c.chain), .v (.int .i64 c.brick), .v (.int .i64 c.epoch), la, .v (.string (bs c.cur))] : List AV) = c.cells la := by simp only [CmdA.cells, k9]
    simp (disch := omega) only [go_sem, List.drop_zero, List.take_succ_cons, List.take_zero, eq_self, if_true, if_false, Bool.true_eq_false, Bool.false_eq_true, n0, n1, m0, m1, k9, l1, l2, cmd9]
    rw [ec]
    refine ⟨bare_FFFFF G c la (.fn (.func 101) [] []) _ _ rfl rfl lX l1 l2 hll fun t2 => ?_⟩
    cases hb : bareOk false false false false false c with
    | false =>
      simp only [hb, Bool.false_eq_true, if_false] at hk
      simp (disch := omega) only [go_sem]
      exact ret_keep (hk _ _ _ rfl (hq _))
    | true =>
      simp only [hb, if_true] at hk
      simp (disch := omega) only [go_sem, List.drop_zero, List.take_succ_cons, List.take_zero, eq_self, if_true, if_false, Bool.true_eq_false, Bool.false_eq_true, n0, n1, m0, m1, k9, l1, l2, s83, u83, Nat.one_ne_zero, if_false, cmd9]
      rw [ec]
      refine ⟨done_call G _ _ p O s c la ((aO.ext eE).app t2) l1 l2 fun e s' h' he hp => ?_⟩
      simp (disch := omega) only [go_sem]
      exact ret_keep (hk e s' h' he (hp.base ⟨by have := eE.len; simp; omega, fun i hi => by rw [List.getElem?_append_left (by have := eE.len; omega)]; exact eE.get i hi⟩))
  omega
end Go.Proofs

/-
  What always holds of an admin holds behind each command.
-/
namespace Go.Proofs
open Go Go.Abs
theorem taken_get (s : Adm) : ∀ (l : List Int) (bs : List (Int × Int)) (k : Nat), (∀ b ∈ l, 0 ≤ b) → k < bs.length → (l.foldl (fun bs b => bs.set b.toNat (2, (s.chains.length : Int))) bs)[k]? = if (k : Int) ∈ l then some (2, (s.chains.length : Int)) else bs[k]?
  | [], bs, k, _, _ => by simp
  | b :: l, bs, k, h, hk => by
    rw [List.foldl_cons, taken_get s l _ k (fun b hb => h b (by simp [hb])) (by simpa using hk)]
    have h0 := h b (by simp)
    by_cases hm : (k : Int) ∈ l
    · rw [if_pos hm, if_pos (by simp [hm])]
    · rw [if_neg hm]
      by_cases hb : (k : Int) = b
      · subst hb
        rw [if_pos (by simp)]
        simp [hk]
      · rw [if_neg (by simp [hm, hb]), List.getElem?_set_ne (by omega)]
theorem done_ok {s : Adm} (ok : s.Ok) {c : Chg} (hc : s.chg = some c) : Adm.Ok { s with lay := c.will, chg := none } := by
  obtain ⟨q1, q2, q3, q4, q5, q6⟩ := ok.chg c hc
  have hv := ok.ver
  exact { nb := ok.nb, nc := ok.nc, ver := ⟨by simp only; omega, by simp only; omega⟩, wts := q4, chg := by simp, ep := ok.ep, len := ok.len, ne := ok.ne, nod := ok.nod, ord := ok.ord, rep := ok.rep, bk := ok.bk, inrep := ok.inrep }
theorem chg_ok {s : Adm} (ok : s.Ok) {c : Chg} (h1 : c.was = s.lay) (h2 : c.will.ver = s.lay.ver + 1) (h3 : s.lay.ver + 1 ≤ 1073741824) (h4 : c.will.wts.length = s.chains.length) (h5 : c.cur.length ≤ 64) (h6 : c.fin = false) : Adm.Ok { s with chg := some c } :=
  { nb := ok.nb, nc := ok.nc, ver := ok.ver, wts := ok.wts, chg := by intro c' hc; cases hc; exact ⟨h1, h2, h3, h4, h5, h6⟩, ep := ok.ep, len := ok.len, ne := ok.ne, nod := ok.nod, ord := ok.ord, rep := ok.rep, bk := ok.bk, inrep := ok.inrep }
theorem make_ok {s : Adm} (ok : s.Ok) {l : List Int} (hin : ∀ b ∈ l, 0 ≤ b ∧ b < s.bricks.length) (hl : 1 ≤ l.length ∧ l.length ≤ 8) (hf : s.fresh l) (hc : s.chains.length < 8) (hv : s.lay.ver < 1073741824) :
    Adm.Ok ⟨s.taken l, s.chains ++ [⟨1, l, []⟩], ⟨s.lay.ver + 1, s.lay.wts ++ [16]⟩, none⟩ := by
  have hver := ok.ver
  have tg : ∀ k, k < s.bricks.length → (s.taken l)[k]? = if (k : Int) ∈ l then some (2, (s.chains.length : Int)) else s.bricks[k]? := fun k hk => taken_get s l s.bricks k (fun b hb => (hin b hb).1) hk
  have mem : ∀ {P : Chn → Prop}, (∀ c ∈ s.chains, P c) → P ⟨1, l, []⟩ → ∀ c ∈ s.chains ++ [⟨1, l, []⟩], P c := by
    intro P h1 h2 c hm
    rcases List.mem_append.mp hm with hm | hm
    · exact h1 c hm
    · rw [List.mem_singleton.mp hm]; exact h2
  have keep : ∀ (k : Nat) (x : Int × Int), s.bricks[k]? = some x → x.1 ≠ 0 → (s.taken l)[k]? = some x := by
    intro k x hx h0
    rw [tg k (List.getElem?_eq_some_iff.mp hx).1, if_neg]
    · exact hx
    · intro hm
      have := hf.1 _ hm
      rw [bk_eq hx] at this
      exact h0 this
  have old : ∀ (n : Nat) (c : Chn), (s.chains ++ [⟨1, l, []⟩])[n]? = some c → (s.chains[n]? = some c ∧ n < s.chains.length) ∨ (n = s.chains.length ∧ c = ⟨1, l, []⟩) := by
    intro n c hn
    by_cases h1 : n < s.chains.length
    · rw [List.getElem?_append_left h1] at hn; exact .inl ⟨hn, h1⟩
    · have h2 := (List.getElem?_eq_some_iff.mp hn).1
      simp at h2
      have h3 : n = s.chains.length := by omega
      subst h3
      simp at hn
      exact .inr ⟨rfl, hn.symm⟩
  refine { nb := by simp only [taken_len]; exact ok.nb, nc := by simp; omega, ver := ⟨by simp only; omega, by simp only; omega⟩, wts := by simp [ok.wts], chg := by simp, ep := mem ok.ep (by simp), len := mem ok.len (by simp; omega), ne := mem ok.ne ?_, nod := mem ok.nod ⟨hf.2, by simp⟩, ord := ?_, rep := ?_, bk := ?_, inrep := ?_ }
  · simp only
    rintro rfl
    simp at hl
  · intro n c hn b hb
    rcases old n c hn with ⟨h1, h2⟩ | ⟨rfl, rfl⟩
    · obtain ⟨k, x, h3, h4, h5, h6⟩ := ok.ord n c h1 b hb
      exact ⟨k, x, h3, keep k x h4 (by omega), h5, h6⟩
    · obtain ⟨h3, h4⟩ := hin b hb
      refine ⟨b.toNat, (2, s.chains.length), by omega, ?_, rfl, .inl rfl⟩
      simp only
      rw [tg _ (by omega), if_pos (by rw [Int.toNat_of_nonneg h3]; exact hb)]
  · intro n c hn b hb
    rcases old n c hn with ⟨h1, h2⟩ | ⟨rfl, rfl⟩
    · obtain ⟨k, x, h3, h4, h5, h6⟩ := ok.rep n c h1 b hb
      exact ⟨k, x, h3, keep k x h4 (by omega), h5, h6⟩
    · simp at hb
  · intro k x hx
    have hkl : k < s.bricks.length := by
      have := (List.getElem?_eq_some_iff.mp hx).1
      simpa only [taken_len] using this
    simp only at hx
    rw [tg k hkl] at hx
    split at hx
    · cases hx
      exact ⟨by simp, by simp, fun _ => ⟨s.chains.length, rfl, by simp⟩⟩
    · obtain ⟨h1, h2, h3⟩ := ok.bk k x hx
      refine ⟨h1, h2, fun h0 => ?_⟩
      obtain ⟨n, h4, h5⟩ := h3 h0
      exact ⟨n, h4, by simp; omega⟩
  · intro k x hx h1 n c hn hcn
    have hkl : k < s.bricks.length := by
      have := (List.getElem?_eq_some_iff.mp hx).1
      simpa only [taken_len] using this
    simp only at hx
    rw [tg k hkl] at hx
    split at hx
    · cases hx; simp at h1
    · rcases old n c hcn with ⟨h2, h3⟩ | ⟨rfl, rfl⟩
      · exact ok.inrep k x hx h1 n c hn h2
      · obtain ⟨_, _, h5⟩ := ok.bk k x hx
        obtain ⟨m, h6, h7⟩ := h5 (by omega)
        omega
end Go.Proofs

/-
  What always holds of an admin holds behind a command on a brick.
-/
namespace Go.Proofs
open Go Go.Abs
theorem mem_rm {b y : Int} {l : List Int} : y ∈ rm b l ↔ y ∈ l ∧ y ≠ b := by
  unfold rm
  rw [List.mem_filter]
  simp
theorem rm_nodup {b : Int} {l : List Int} (h : l.Nodup) : (rm b l).Nodup := h.filter _
theorem rm_snoc {b : Int} {l : List Int} (h : l.Nodup) : (rm b l ++ [b]).Nodup := by
  refine List.nodup_append.mpr ⟨rm_nodup h, by simp, ?_⟩
  intro y hy z hz
  rw [List.mem_singleton.mp hz]
  exact (mem_rm.mp hy).2
theorem rm_le (b : Int) (l : List Int) : (rm b l).length ≤ l.length := List.length_filter_le _ _
theorem rm_nil {b : Int} {l : List Int} (hne : l ≠ []) (hnd : l.Nodup) (h : rm b l = []) : l = [b] := by
  have all : ∀ y ∈ l, y = b := by
    intro y hy
    by_cases e : y = b
    · exact e
    · have : y ∈ rm b l := mem_rm.mpr ⟨hy, e⟩
      rw [h] at this
      cases this
  match l, hne with
  | [y], _ => rw [all y (by simp)]
  | y :: z :: l, _ =>
    have h1 := all y (by simp)
    have h2 := all z (by simp)
    rw [h1, h2] at hnd
    simp at hnd
/-- What may brings. -/
theorem may_facts {s : Adm} {kind : Int} {k : Nat} {x : Int × Int} (hx : s.bricks[k]? = some x) (hk : 2 ≤ kind ∧ kind ≤ 6) (hm : s.may kind k = true) :
    (kind = 2 → x.1 = 0) ∧ (kind ≠ 2 → x.1 ≠ 0) ∧ (kind = 3 → s.alone k = false) ∧ (kind = 6 → x.1 = 1 ∧ (s.bk ((s.cn x.2).ord.getD 0 0)).1 ≠ 3) := by
  unfold Adm.may at hm
  rw [bk_eq hx] at hm
  refine ⟨fun h => ?_, fun h => ?_, fun h => ?_, fun h => ?_⟩
  · subst h; simpa using hm
  · rw [if_neg h] at hm
    split at hm
    · simp at hm; exact hm.1
    split at hm
    · simp at hm; omega
    split at hm
    · simp at hm; omega
    · simp at hm; omega
  · subst h; simp at hm; exact hm.2
  · subst h; simp at hm; exact hm
theorem turn_ok {s : Adm} (ok : s.Ok) {kind : Int} {k n : Nat} {x : Int × Int} {c0 : Chn} (hx : s.bricks[k]? = some x) (hc : s.chains[n]? = some c0) (hkd : 2 ≤ kind ∧ kind ≤ 6) (hm : s.may kind k = true) (hxn : kind ≠ 2 → x.2 = n) (hep : c0.ep < 1073741824) :
    Adm.Ok (s.put n (c0.turn (decide (kind ≠ 2) && s.alone k) (Adm.to kind (decide (kind ≠ 2) && s.alone k) n) k) k (Adm.to kind (decide (kind ≠ 2) && s.alone k) n)) := by
  obtain ⟨m2, m0, m3, m6⟩ := may_facts hx hkd hm
  have hkl := (List.getElem?_eq_some_iff.mp hx).1
  have hnl := (List.getElem?_eq_some_iff.mp hc).1
  have hc0 := List.mem_of_getElem? hc
  -- alone is what it says
  have hal : (decide (kind ≠ 2) && s.alone k) = true → kind ≠ 2 ∧ c0.ord = [(k : Int)] := by
    intro h
    simp only [Bool.and_eq_true, decide_eq_true_eq] at h
    obtain ⟨h1, h2⟩ := h
    refine ⟨h1, ?_⟩
    unfold Adm.alone at h2
    rw [bk_eq hx, hxn h1, cn_eq hc] at h2
    exact of_decide_eq_true h2
  have hal2 : kind ≠ 2 → c0.ord = [(k : Int)] → (decide (kind ≠ 2) && s.alone k) = true := by
    intro h1 h2
    unfold Adm.alone
    rw [bk_eq hx, hxn h1, cn_eq hc]
    simp [h1, h2]
  have hal3 : kind = 3 → (decide (kind ≠ 2) && s.alone k) = false := by
    intro h
    rw [m3 h]; simp
  generalize (decide (kind ≠ 2) && s.alone k) = al at *
  have hto : (kind = 3 ∧ Adm.to kind al n = (0, -1)) ∨ (kind = 4 ∧ Adm.to kind al n = (3, (n : Int))) ∨ (kind = 6 ∧ Adm.to kind al n = (2, (n : Int))) ∨ (kind = 5 ∧ al = true ∧ Adm.to kind al n = (2, (n : Int))) ∨ (kind = 5 ∧ al = false ∧ Adm.to kind al n = (1, (n : Int))) ∨ (kind = 2 ∧ Adm.to kind al n = (1, (n : Int))) := by
    unfold Adm.to
    have : kind = 2 ∨ kind = 3 ∨ kind = 4 ∨ kind = 5 ∨ kind = 6 := by omega
    rcases this with rfl | rfl | rfl | rfl | rfl
    · simp
    · simp
    · simp
    · cases al <;> simp
    · simp
  generalize Adm.to kind al n = to at *
  -- where k is
  have other : ∀ (m : Nat) (c : Chn), s.chains[m]? = some c → m ≠ n → (k : Int) ∉ c.ord ∧ (k : Int) ∉ c.rep := by
    intro m c hcm hmn
    refine ⟨fun hb => ?_, fun hb => ?_⟩
    · obtain ⟨k', x', h1, h2, h3, h4⟩ := ok.ord m c hcm _ hb
      have : k' = k := by omega
      subst this
      rw [hx] at h2; cases h2
      by_cases h5 : kind = 2
      · have := m2 h5; omega
      · have := hxn h5; omega
    · obtain ⟨k', x', h1, h2, h3, h4⟩ := ok.rep m c hcm _ hb
      have : k' = k := by omega
      subst this
      rw [hx] at h2; cases h2
      by_cases h5 : kind = 2
      · have := m2 h5; omega
      · have := hxn h5; omega
  have stays : ∀ (k' : Nat) (x' : Int × Int), k' ≠ k → s.bricks[k']? = some x' → (s.bricks.set k to)[k']? = some x' := fun k' x' h1 h2 => by rw [List.getElem?_set_ne (Ne.symm h1)]; exact h2
  have self : (s.bricks.set k to)[k]? = some to := by rw [List.getElem?_set_self hkl]
  have mem : ∀ {P : Chn → Prop}, (∀ c ∈ s.chains, P c) → P (c0.turn al to k) → ∀ c ∈ s.chains.set n (c0.turn al to k), P c := by
    intro P h1 h2 c hm
    rcases List.mem_or_eq_of_mem_set hm with hm | rfl
    · exact h1 c hm
    · exact h2
  have at' : ∀ (m : Nat) (c : Chn), (s.chains.set n (c0.turn al to k))[m]? = some c → (m = n ∧ c = c0.turn al to k) ∨ (m ≠ n ∧ s.chains[m]? = some c) := by
    intro m c hcm
    by_cases e : m = n
    · subst e
      rw [List.getElem?_set_self hnl] at hcm
      exact .inl ⟨rfl, (Option.some.inj hcm).symm⟩
    · rw [List.getElem?_set_ne (Ne.symm e)] at hcm
      exact .inr ⟨e, hcm⟩
  have h1 := ok.ep c0 hc0
  have h2 := ok.len c0 hc0
  have h3 := ok.nod c0 hc0
  have h4 := ok.ne c0 hc0
  have l1 := rm_le k c0.ord
  have l2 := rm_le k c0.rep
  refine { nb := by simp only [Adm.put, List.length_set]; exact ok.nb, nc := by simp only [Adm.put, List.length_set]; exact ok.nc, ver := ok.ver, wts := by simp only [Adm.put, List.length_set]; exact ok.wts, chg := by simp only [Adm.put, List.length_set]; exact ok.chg, ep := mem ok.ep ⟨by simp only [Chn.turn]; omega, by simp only [Chn.turn]; omega⟩, len := mem ok.len ?_, ne := mem ok.ne ?_, nod := mem ok.nod ⟨?_, ?_⟩, ord := ?_, rep := ?_, bk := ?_, inrep := ?_ }
  · simp only [Chn.turn]
    cases hA : (al || decide (to.1 = 2)) with
    | true => simp; omega
    | false => cases hB : decide (to.1 = 1) <;> simp <;> omega
  · simp only [Chn.turn]
    intro h
    obtain ⟨h5, h6⟩ := List.append_eq_nil_iff.mp h
    have h7 := rm_nil h4 h3.1 h5
    have hk2 : kind ≠ 2 := by
      intro e
      obtain ⟨k', x', g1, g2, g3, g4⟩ := ok.ord n c0 hc k (by rw [h7]; simp)
      have : k' = k := by omega
      subst this
      rw [hx] at g2; cases g2
      have := m2 e; omega
    rw [hal2 hk2 h7] at h6
    simp at h6
  · simp only [Chn.turn]
    split
    · exact rm_snoc h3.1
    · rw [List.append_nil]; exact rm_nodup h3.1
  · simp only [Chn.turn]
    split
    · exact rm_snoc h3.2
    · rw [List.append_nil]; exact rm_nodup h3.2
  · intro m c hcm b hb
    rcases at' m c hcm with ⟨rfl, rfl⟩ | ⟨hmn, hcq⟩
    · simp only [Chn.turn] at hb ⊢
      rcases List.mem_append.mp hb with hb | hb
      · obtain ⟨b1, b2⟩ := mem_rm.mp hb
        obtain ⟨k', x', g1, g2, g3, g4⟩ := ok.ord m c0 hc b b1
        have hkk : k' ≠ k := by rintro rfl; exact b2 g1
        refine ⟨k', x', g1, stays k' x' hkk g2, g3, g4.imp id fun ⟨g5, g6⟩ => ⟨g5, ?_⟩⟩
        have hA : (al || decide (to.1 = 2)) = false := by
          cases hal' : al with
          | true =>
            have := (hal hal').2
            rw [g6] at this
            simp at this
            exact absurd this b2
          | false =>
            simp only [Bool.false_or, decide_eq_false_iff_not]
            intro h2'
            rcases hto with ⟨_, e⟩ | ⟨_, e⟩ | ⟨e6, e⟩ | ⟨_, e5, e⟩ | ⟨_, _, e⟩ | ⟨_, e⟩
            · rw [e] at h2'; simp at h2'
            · rw [e] at h2'; simp at h2'
            · obtain ⟨_, q⟩ := m6 e6
              rw [hxn (by omega), cn_eq hc, g6] at q
              simp only [List.getD_cons_zero, g1, bk_eq g2] at q
              exact q g5
            · rw [hal'] at e5; cases e5
            · rw [e] at h2'; simp at h2'
            · rw [e] at h2'; simp at h2'
        rw [hA]
        have e : rm k [b] = [b] := by unfold rm; simp [b2]
        rw [g6, e]; simp
      · split at hb
        · rename_i hA
          have hbk := List.mem_singleton.mp hb
          subst hbk
          rw [if_pos hA]
          refine ⟨k, to, rfl, self, ?_, ?_⟩
          · rcases hto with ⟨e3, e⟩ | ⟨_, e⟩ | ⟨_, e⟩ | ⟨_, _, e⟩ | ⟨_, _, e⟩ | ⟨_, e⟩
            · rw [hal3 e3, e] at hA; simp at hA
            all_goals rw [e]
          · rcases hto with ⟨e3, e⟩ | ⟨_, e⟩ | ⟨_, e⟩ | ⟨_, _, e⟩ | ⟨_, e5, e⟩ | ⟨e2, e⟩
            · rw [hal3 e3, e] at hA; simp at hA
            · right
              rw [e] at hA ⊢
              have : al = true := by simpa using hA
              rw [(hal this).2]
              refine ⟨rfl, ?_⟩
              unfold rm; simp
            · left; rw [e]
            · left; rw [e]
            · rw [e5, e] at hA; simp at hA
            · rw [e] at hA
              have : al = true := by simpa using hA
              exact absurd e2 (hal this).1
        · cases hb
    · obtain ⟨k', x', g1, g2, g3, g4⟩ := ok.ord m c hcq b hb
      have hkk : k' ≠ k := by rintro rfl; exact (other m c hcq hmn).1 (g1 ▸ hb)
      exact ⟨k', x', g1, stays k' x' hkk g2, g3, g4⟩
  · intro m c hcm b hb
    rcases at' m c hcm with ⟨rfl, rfl⟩ | ⟨hmn, hcq⟩
    · simp only [Chn.turn] at hb
      rcases List.mem_append.mp hb with hb | hb
      · obtain ⟨b1, b2⟩ := mem_rm.mp hb
        obtain ⟨k', x', g1, g2, g3, g4⟩ := ok.rep m c0 hc b b1
        have hkk : k' ≠ k := by rintro rfl; exact b2 g1
        exact ⟨k', x', g1, stays k' x' hkk g2, g3, g4⟩
      · split at hb
        · rename_i hB
          have hbk := List.mem_singleton.mp hb
          subst hbk
          simp only [Bool.and_eq_true, decide_eq_true_eq] at hB
          refine ⟨k, to, rfl, self, ?_, hB.2⟩
          rcases hto with ⟨e3, e⟩ | ⟨_, e⟩ | ⟨_, e⟩ | ⟨_, _, e⟩ | ⟨_, _, e⟩ | ⟨_, e⟩
          · rw [e] at hB; simp at hB
          all_goals rw [e]
        · cases hb
    · obtain ⟨k', x', g1, g2, g3, g4⟩ := ok.rep m c hcq b hb
      have hkk : k' ≠ k := by rintro rfl; exact (other m c hcq hmn).2 (g1 ▸ hb)
      exact ⟨k', x', g1, stays k' x' hkk g2, g3, g4⟩
  · intro k' x' hx'
    simp only [Adm.put] at hx' ⊢
    by_cases e : k' = k
    · subst e
      rw [self] at hx'
      cases hx'
      rw [List.length_set]
      rcases hto with ⟨_, e⟩ | ⟨_, e⟩ | ⟨_, e⟩ | ⟨_, _, e⟩ | ⟨_, _, e⟩ | ⟨_, e⟩ <;> rw [e] <;> first | (simp; done) | (refine ⟨by simp, by simp, fun _ => ⟨n, rfl, hnl⟩⟩)
    · rw [List.getElem?_set_ne (Ne.symm e)] at hx'
      rw [List.length_set]
      exact ok.bk k' x' hx'
  · intro k' x' hx' g1 m c hm' hcm
    simp only [Adm.put] at hx' hcm
    by_cases e : k' = k
    · subst e
      rw [self] at hx'
      cases hx'
      rcases at' m c hcm with ⟨rfl, rfl⟩ | ⟨hmn, hcq⟩
      · simp only [Chn.turn]
        refine List.mem_append_right _ ?_
        rcases hto with ⟨_, e⟩ | ⟨_, e⟩ | ⟨_, e⟩ | ⟨_, _, e⟩ | ⟨_, e5, e⟩ | ⟨e2, e⟩
        · rw [e] at g1; simp at g1
        · rw [e] at g1; simp at g1
        · rw [e] at g1; simp at g1
        · rw [e] at g1; simp at g1
        · rw [e5, e]; simp
        · have : al = false := by
            cases hal' : al with
            | false => rfl
            | true => exact absurd e2 (hal hal').1
          rw [this, e]; simp
      · rcases hto with ⟨_, e⟩ | ⟨_, e⟩ | ⟨_, e⟩ | ⟨_, _, e⟩ | ⟨_, e5, e⟩ | ⟨e2, e⟩
        all_goals rw [e] at g1 hm'
        all_goals simp at g1
        all_goals (simp at hm'; omega)
    · rw [List.getElem?_set_ne (Ne.symm e)] at hx'
      rcases at' m c hcm with ⟨rfl, rfl⟩ | ⟨hmn, hcq⟩
      · have := ok.inrep k' x' hx' g1 m c0 hm' hc
        simp only [Chn.turn]
        exact List.mem_append_left _ (mem_rm.mpr ⟨this, by omega⟩)
      · exact ok.inrep k' x' hx' g1 m c hm' hcq
end Go.Proofs

/-
  Contracts: a new admin.
-/
namespace Go.Proofs
open Go Go.Abs
set_option maxRecDepth 100000
set_option linter.unusedSimpArgs false
theorem mul1 (n : Int) (hn : 1 ≤ n ∧ n ≤ 16) (h : AH) (K : AV → AH → Prop) : Tryz.r136 (.v (.int .u64 1)) (.v (.int .u64 n)) h K = RetR h K (.tup [.v (.int .u64 0), .v (.int .u64 n)]) h := by
  have : n = 1 ∨ n = 2 ∨ n = 3 ∨ n = 4 ∨ n = 5 ∨ n = 6 ∨ n = 7 ∨ n = 8 ∨ n = 9 ∨ n = 10 ∨ n = 11 ∨ n = 12 ∨ n = 13 ∨ n = 14 ∨ n = 15 ∨ n = 16 := by omega
  rcases this with rfl | rfl | rfl | rfl | rfl | rfl | rfl | rfl | rfl | rfl | rfl | rfl | rfl | rfl | rfl | rfl <;> (clear hn; rfl)
theorem Mul_call (G : Nat → Option AV) (n : Int) (hn : 1 ≤ n ∧ n ≤ 16) (h : AH) (K : AV → AH → Prop) (hk : K (.tup [.v (.int .u64 0), .v (.int .u64 n)]) h) : SCall Tryz.prog G 95 [.v (.int .u64 1), .v (.int .u64 n)] h K := by
  refine Tryz.c95 G _ _ h K fun hlow => ?_
  unfold Tryz.r95
  simp (disch := omega) only [go_sem]
  refine ⟨Tryz.c136 G _ _ h _ fun hlow => ?_⟩
  rw [mul1 n hn]
  refine ret_keep ?_
  simp (disch := omega) only [go_sem]
  exact ret_same hk
/-- Rows that are filled so far. -/
def rowsAt (n k : Nat) (r : Int × Int) : List (List AV) := List.replicate k (bkrow r) ++ List.replicate (n - k) [.v (.int .i64 0), .v (.int .i64 0)]
theorem copy_end {h : AH} {rows new : List (List AV)} {off len j gy oy ly : Nat} {cy cap : Option Nat} {K : AV → AH → Prop} (hy : srcRows (h ++ [some (.cells 101 2 rows 0)]) (.sl j gy oy ly cy) = some new) (hnn : ∀ r ∈ new, r.length = 2) (hl : off + len ≤ rows.length)
    (hk : K (.v (.int .i64 (new.take len).length)) (h ++ [some (.cells 101 2 (putRows rows off (new.take len)) 0)])) : copyR Tryz.prog (h ++ [some (.cells 101 2 rows 0)]) 98 (.sl h.length 0 off len cap) (.sl j gy oy ly cy) K := by
  refine ⟨?_⟩
  unfold aCopy
  rw [Tryz.und98]
  have e : (h ++ [some (AO.cells 101 2 rows 0)])[h.length]? = some (some (.cells 101 2 rows 0)) := by simp
  simp only [Tryz.siz101, hy, e]
  refine ⟨hnn, trivial, ⟨trivial, trivial, hl, trivial⟩, ?_⟩
  have e2 : (h ++ [some (AO.cells 101 2 rows 0)]).set h.length (some (.cells 101 2 (putRows rows off (new.take len)) 0)) = h ++ [some (.cells 101 2 (putRows rows off (new.take len)) 0)] := by simp
  rw [e2]
  exact hk
theorem Repeat_call (G : Nat → Option AV) (n : Nat) (hn : 1 ≤ n ∧ n ≤ 16) (i : Nat) (r : Int × Int) (h : AH) (K : AV → AH → Prop) (hi : h[i]? = some (some (.cells 101 2 [bkrow r] 0))) 
    (hk : K (.sl h.length 0 0 n none) (h ++ [some (.cells 101 2 ((List.replicate n r).map bkrow) 0)])) : SCall Tryz.prog G 45 [.sl i 0 0 1 none, .v (.int .i64 n)] h K := by
  refine Tryz.c45 G _ _ h K fun hlow => ?_
  unfold Tryz.r45 Tryz.r45_j1 Tryz.r45_j8
  have w1 : IntKind.u64.wrap ((1 : Nat) : Int) = 1 := rfl
  have w2 : IntKind.u64.wrap (n : Int) = n := wrapu64_nat (by have : (256 ^ 8 : Nat) = 18446744073709551616 := by decide
                                                              omega)
  simp (disch := omega) only [go_sem, w1, w2]
  refine ⟨Mul_call G n (by omega) _ _ ?_⟩
  have ei : IntKind.i64.wrap (n : Int) = n := wrap64_of (by omega) (by omega)
  simp (disch := omega) only [go_sem, ei, Int.toNat_natCast]
  have hil : i < h.length := (List.getElem?_eq_some_iff.mp hi).1
  refine copy_end (new := [bkrow r]) ?_ (by simp) (by simp) ?_
  · simp only [srcRows, rowsOf]
    rw [List.getElem?_append_left hil, hi]
    simp [chk]
  have hput : putRows (List.replicate n [AV.v (.int .i64 0), AV.v (.int .i64 0)]) 0 (List.take n [bkrow r]) = rowsAt n 1 r := by
    rw [List.take_of_length_le (by simp; omega)]
    simp [putRows, rowsAt]
  rw [hput, List.take_of_length_le (by simp; omega)]
  simp (disch := omega) only [go_sem]
  unfold Tryz.r45_l8_13
  refine ⟨fun m vs h' => ∃ k : Nat, 1 ≤ k ∧ k ≤ n ∧ m = n - k ∧ h' = h ++ [some (.cells 101 2 (rowsAt n k r) 0)] ∧ vs = [.v (.int .i64 k)], n - 1, ⟨1, by omega, by omega, by omega, rfl, rfl⟩, ?_⟩
  rintro m h' hl1 hlow2 n' ⟨k, hk0, hk1, rfl, rfl, hvs⟩
  simp only [List.cons.injEq, AV.v.injEq, Value.int.injEq, true_and, and_true] at hvs
  subst hvs
  have hrl : (rowsAt n k r).length = n := by simp [rowsAt]; omega
  by_cases hkn : k < n
  · simp (disch := omega) only [go_sem, ei, Int.toNat_natCast, hrl, roomOf, Option.map_none]
    refine copy_end (new := List.replicate k (bkrow r)) ?_ (by intro x hx; rw [List.eq_of_mem_replicate hx]; rfl) (by rw [hrl]; omega) ?_
    · have e : (h ++ [some (AO.cells 101 2 (rowsAt n k r) 0)])[h.length]? = some (some (.cells 101 2 (rowsAt n k r) 0)) := by simp
      simp only [srcRows, rowsOf, e, chk]
      simp [hrl, rowsAt]
    · have e1 : ((List.replicate k (bkrow r)).take (n - k)).length = min (n - k) k := by simp
      have e2 : putRows (rowsAt n k r) k ((List.replicate k (bkrow r)).take (n - k)) = rowsAt n (k + min (n - k) k) r := by
        unfold putRows rowsAt
        rw [e1, List.take_replicate, List.take_left' (by simp), List.drop_append, List.drop_of_length_le (by simp), List.nil_append, List.drop_replicate, ← List.append_assoc, List.replicate_append_replicate]
        congr 2
        simp
        omega
      rw [e1, e2]
      simp (disch := omega) only [go_sem]
      refine next_keep (n - (k + min (n - k) k)) ?_ (by simp) ?_
      · omega
      refine ⟨k + min (n - k) k, by omega, by omega, rfl, rfl, ?_⟩
      rw [Int.natCast_add]
  · have : k = n := by omega
    subst this
    simp (disch := omega) only [go_sem, ei, Int.toNat_natCast]
    have e : rowsAt k k r = (List.replicate k r).map bkrow := by simp [rowsAt]
    rw [e]
    exact ret_keep hk

def Adm.new (n : Nat) : Adm := ⟨List.replicate n (0, -1), [], ⟨0, []⟩, none⟩
theorem New_call (G : Nat → Option AV) (n : Nat) (hn : 1 ≤ n ∧ n ≤ 16) (h : AH) (K : AV → AH → Prop)
    (hk : ∀ p h', Ext h h' → h.length ≤ p → AdmOf h' p (fun i => h.length ≤ i) (Adm.new n) → K (.tup [.ptr p 0 0 0, .v (.int .i64 0)]) h') : SCall Tryz.prog G 8 [.v (.int .i64 n)] h K := by
  refine Tryz.c8 G _ h K fun hlow => ?_
  unfold Tryz.r8
  simp (disch := omega) only [go_sem]
  refine ⟨Repeat_call G n hn h.length (0, -1) _ _ (by simp) ?_⟩
  have b8 := build80 (x := .sl (h.length + 1) 0 0 n none) rfl rfl
  simp (disch := omega) only [go_sem, b8]
  refine ret_keep (hk _ _ (Ext.app _) (by omega) ?_)
  refine ⟨h.length + 1, .v (.slice none 0 0), [], .v (.slice none 0 0), .v (.pointer none), ⟨?_, ?_, .inl ⟨rfl, rfl⟩, ⟨rfl, by intro i c hc; simp [Adm.new] at hc⟩, .inl ⟨rfl, rfl⟩, rfl⟩, ?_⟩
  · rw [Go.Abs.get_add]; simp [Adm.new]
  · rw [Go.Abs.get_add]; simp [Adm.new]
  · rintro i (rfl | rfl | ⟨g, o, l, c, hx⟩)
    · omega
    · omega
    · cases hx
theorem New_ok (n : Nat) (hn : 1 ≤ n ∧ n ≤ 16) : (Adm.new n).Ok where
  nb := by simp [Adm.new]; omega
  nc := by simp [Adm.new]
  ver := by simp [Adm.new]
  wts := rfl
  chg := by simp [Adm.new]
  ep := by simp [Adm.new]
  len := by simp [Adm.new]
  ne := by simp [Adm.new]
  nod := by simp [Adm.new]
  ord := by simp [Adm.new]
  rep := by simp [Adm.new]
  inrep := by
    intro k x hx h1 n c hn hc
    simp [Adm.new] at hc
  bk := by
    intro k x hx
    simp only [Adm.new] at hx
    rw [List.getElem?_replicate] at hx
    split at hx
    · cases hx; simp
    · cases hx
end Go.Proofs

/-
  What a command does to an admin.
-/
namespace Go.Proofs
open Go Go.Abs
structure Moves (s : Adm) (e : Int) (s' : Adm) : Prop where
  ok : s'.Ok
  same : e ≠ 0 → s' = s
  len : s.chains.length ≤ s'.chains.length
  old : ∀ (n : Nat) c0, s.chains[n]? = some c0 → ∃ c1, s'.chains[n]? = some c1 ∧ (c1 = c0 ∨ (c1.ep = c0.ep + 1 ∧ ∀ b ∈ c1.ord, b ∈ c0.ord ∨ b ∈ c0.rep))
  new : ∀ (n : Nat) c1, s'.chains[n]? = some c1 → s.chains.length ≤ n → c1.ep = 1
theorem Moves.refl {s : Adm} (ok : s.Ok) (e : Int) : Moves s e s :=
  ⟨ok, fun _ => rfl, Nat.le_refl _, fun n c0 h => ⟨c0, h, .inl rfl⟩, fun n c1 h hn => by have := (List.getElem?_eq_some_iff.mp h).1; omega⟩
theorem Moves.chains {s s' : Adm} (ok : s'.Ok) (e : Int) (he : e = 0) (h : s'.chains = s.chains) : Moves s e s' :=
  ⟨ok, fun h => absurd he h, by rw [h]; exact Nat.le_refl _, fun n c0 hc => ⟨c0, by rw [h]; exact hc, .inl rfl⟩, fun n c1 hc hn => by rw [h] at hc; have := (List.getElem?_eq_some_iff.mp hc).1; omega⟩
theorem make_moves {s : Adm} (ok : s.Ok) (c : CmdA) : Moves s (s.make c).1 (s.make c).2 := by
  unfold Adm.make
  split
  · exact Moves.refl ok _
  rename_i hout
  split
  · exact Moves.refl ok _
  rename_i hl
  split
  · exact Moves.refl ok _
  rename_i hf
  split
  · exact Moves.refl ok _
  rename_i hb
  have hin : ∀ b ∈ c.list, 0 ≤ b ∧ b < s.bricks.length := by
    simpa using hout
  have hb1 : s.chains.length < 8 := by omega
  have hb2 : s.lay.ver < 1073741824 := by omega
  refine ⟨make_ok ok hin (by omega) (Classical.not_not.mp hf) hb1 hb2, fun h => absurd rfl h, by simp, ?_, ?_⟩
  · intro n c0 hc
    exact ⟨c0, by simp only; rw [List.getElem?_append_left (List.getElem?_eq_some_iff.mp hc).1]; exact hc, .inl rfl⟩
  · intro n c1 hc hn
    simp only at hc
    have h2 := (List.getElem?_eq_some_iff.mp hc).1
    simp at h2
    have h3 : n = s.chains.length := by omega
    subst h3
    simp at hc
    rw [← hc]
theorem turn_moves {s : Adm} (ok : s.Ok) (c : CmdA) {k n : Nat} {x : Int × Int} {c0 : Chn} (hx : s.bricks[k]? = some x) (hc : s.chains[n]? = some c0) (hkd : 2 ≤ c.kind ∧ c.kind ≤ 6) (hm : s.may c.kind k = true) (hxn : c.kind ≠ 2 → x.2 = n) :
    Moves s (s.turn c k n).1 (s.turn c k n).2 := by
  unfold Adm.turn
  rw [cn_eq hc]
  split
  · exact Moves.refl ok _
  split
  · exact Moves.refl ok _
  rename_i hep
  have hto := turn_ok ok hx hc hkd hm hxn (by omega)
  obtain ⟨m2, m0, m3, m6⟩ := may_facts hx hkd hm
  have hnl := (List.getElem?_eq_some_iff.mp hc).1
  refine ⟨hto, fun h => absurd rfl h, by simp [Adm.put], ?_, ?_⟩
  · intro m c1 hc1
    by_cases e : m = n
    · subst e
      rw [hc] at hc1
      cases hc1
      refine ⟨_, by simp only [Adm.put]; rw [List.getElem?_set_self hnl], .inr ⟨rfl, ?_⟩⟩
      intro b hb
      simp only [Chn.turn] at hb
      rcases List.mem_append.mp hb with hb | hb
      · exact .inl (mem_rm.mp hb).1
      · split at hb
        · rename_i hA
          have hbk := List.mem_singleton.mp hb
          subst hbk
          have alone : (decide (c.kind ≠ 2) && s.alone k) = true → (k : Int) ∈ c0.ord := by
            intro h
            simp only [Bool.and_eq_true, decide_eq_true_eq] at h
            obtain ⟨h1, h2⟩ := h
            unfold Adm.alone at h2
            rw [bk_eq hx, hxn h1, cn_eq hc] at h2
            rw [of_decide_eq_true h2]; simp
          cases hal : (decide (c.kind ≠ 2) && s.alone k) with
          | true => exact .inl (alone hal)
          | false =>
            rw [hal] at hA
            simp only [Bool.false_or, decide_eq_true_eq] at hA
            unfold Adm.to at hA
            by_cases k6 : c.kind = 6
            · exact .inr (ok.inrep k x hx (m6 k6).1 m c0 (hxn (by omega)) hc)
            · exfalso
              rw [if_neg k6] at hA
              split at hA
              · simp at hA
              split at hA
              · simp at hA
              split at hA
              · simp at hA
              · simp at hA
        · cases hb
    · exact ⟨c1, by simp only [Adm.put]; rw [List.getElem?_set_ne (Ne.symm e)]; exact hc1, .inl rfl⟩
  · intro m c1 hc1 hm'
    have := (List.getElem?_eq_some_iff.mp hc1).1
    simp [Adm.put] at this
    omega
theorem onBrick_moves {s : Adm} (ok : s.Ok) (c : CmdA) (hkd : 2 ≤ c.kind ∧ c.kind ≤ 6) : Moves s (s.onBrick c).1 (s.onBrick c).2 := by
  unfold Adm.onBrick
  split
  · exact Moves.refl ok _
  rename_i hr
  split
  · exact Moves.refl ok _
  rename_i hm
  obtain ⟨k, hkk⟩ : ∃ k : Nat, c.brick = k := ⟨c.brick.toNat, by omega⟩
  have hkl : k < s.bricks.length := by omega
  obtain ⟨x, hx⟩ : ∃ x, s.bricks[k]? = some x := ⟨s.bricks[k], List.getElem?_eq_getElem hkl⟩
  rw [hkk] at hm ⊢
  have hm : s.may c.kind k = true := by simpa using hm
  rw [bk_eq hx, Int.toNat_natCast]
  obtain ⟨m2, m0, _⟩ := may_facts hx hkd hm
  by_cases k2 : c.kind = 2
  · rw [if_pos k2]
    have hnl : c.chain.toNat < s.chains.length := by omega
    exact turn_moves ok c hx (List.getElem?_eq_getElem hnl) hkd hm (fun h => absurd k2 h)
  · rw [if_neg k2]
    obtain ⟨_, _, h3⟩ := ok.bk k x hx
    obtain ⟨n, hn, hnl⟩ := h3 (m0 k2)
    rw [hn, Int.toNat_natCast]
    exact turn_moves ok c hx (List.getElem?_eq_getElem hnl) hkd hm (fun _ => hn)
theorem begin_moves {s : Adm} (ok : s.Ok) (c : CmdA) : Moves s (s.begin c).1 (s.begin c).2 := by
  unfold Adm.begin
  split
  · exact Moves.refl ok _
  split
  · exact Moves.refl ok _
  rename_i hv
  split
  · exact Moves.refl ok _
  rename_i hb
  refine Moves.chains (chg_ok ok rfl rfl (by omega) ?_ (by simp) rfl) _ rfl rfl
  simp only
  omega
theorem moved_moves {s : Adm} (ok : s.Ok) (c : CmdA) : Moves s (s.moved c).1 (s.moved c).2 := by
  unfold Adm.moved
  split
  · exact Moves.refl ok _
  rename_i g hg
  split
  · rename_i e g' hto
    obtain rfl := to_some hto
    obtain ⟨q1, q2, q3, q4, q5, q6⟩ := ok.chg g hg
    refine Moves.chains (s := s) (s' := { s with chg := some { g with cur := c.cur } }) (chg_ok (c := { g with cur := c.cur }) ok q1 q2 q3 q4 ?_ q6) _ rfl rfl
    unfold Chg.to at hto
    split at hto
    · cases hto
    split at hto
    · cases hto
    · simp only
      omega
  · exact Moves.refl ok _
theorem done_moves {s : Adm} (ok : s.Ok) : Moves s s.done.1 s.done.2 := by
  unfold Adm.done
  split
  · exact Moves.refl ok _
  · rename_i g hg
    exact Moves.chains (done_ok ok hg) _ rfl rfl
theorem step_moves {s : Adm} (ok : s.Ok) (c : CmdA) : Moves s (s.step c).1 (s.step c).2 := by
  unfold Adm.step
  split
  · split
    · exact make_moves ok c
    · exact Moves.refl ok _
  split
  · split
    · exact onBrick_moves ok c (by omega)
    · exact Moves.refl ok _
  split
  · split
    · exact onBrick_moves ok c (by omega)
    · exact Moves.refl ok _
  split
  · split
    · exact onBrick_moves ok c (by omega)
    · exact Moves.refl ok _
  split
  · split
    · exact onBrick_moves ok c (by omega)
    · exact Moves.refl ok _
  split
  · split
    · exact onBrick_moves ok c (by omega)
    · exact Moves.refl ok _
  split
  · split
    · exact begin_moves ok c
    · exact Moves.refl ok _
  split
  · split
    · exact moved_moves ok c
    · exact Moves.refl ok _
  split
  · split
    · exact done_moves ok
    · exact Moves.refl ok _
  exact Moves.refl ok _
end Go.Proofs

/-
  Contracts: an admin's chains.
-/
namespace Go.Proofs
open Go Go.Abs
set_option maxRecDepth 100000
set_option linter.unusedSimpArgs false
theorem stay_kp {h h0 h'' : AH} {x x' : AV} {rows : List (List AV)} {tl : AH} (c : AccR 121 3 h x h0 rows) (st : Stay x (h0 ++ tl) x' h'') : Kp (h0 ++ tl) h'' := by
  intro i r g hi
  rw [(st i (List.getElem?_eq_some_iff.mp hi).1 ?_).1]
  · exact hi
  · rintro id g' o l c' hx rfl
    cases c with
    | nil => cases hx
    | @obj t1 t2 g2 rows hr =>
      cases hx
      rw [List.append_assoc, List.append_assoc, List.cons_append, Go.Abs.get_at] at hi
      cases hi
theorem AccR.chSl {h h' : AH} {x : AV} {rows : List (List AV)} (c : AccR 121 3 h x h' rows) : ChSl h' x rows ∧ ∀ id g o l k, x = .sl id g o l k → h.length ≤ id := by
  cases c with
  | nil => exact ⟨.inl ⟨rfl, rfl⟩, by intro id g o l k hx; cases hx⟩
  | @obj t1 t2 g rows hr => exact ⟨.inr ⟨_, g, rfl, Go.Abs.get_at⟩, by intro id g o l k hx; cases hx; omega⟩
end Go.Proofs

/-
  Contracts: what an admin tells.
-/
namespace Go.Proofs
open Go Go.Abs
set_option maxRecDepth 100000
set_option linter.unusedSimpArgs false
theorem sameLayout_call (G : Nat → Option AV) (a b : Lay) (A B : AV) (h : AH) (K : AV → AH → Prop) (k1 : Wt h A a.wts) (k2 : Wt h B b.wts) (hl1 : a.wts.length ≤ 4611686018427387904) (hk : K (.v (.bool (a.same b))) h) : SCall Tryz.prog G 61 [.agg (a.cells A), .agg (b.cells B)] h K := by
  refine Tryz.c61 G _ _ h K fun hlow => ?_
  unfold Tryz.r61
  unfold Lay.same at hk
  by_cases hv : a.ver = b.ver
  · simp (disch := omega) only [go_sem, k1.one, k2.one, k1.cells, k2.cells, hv, Nat.reduceAdd]
    refine ⟨SameInts_call G A B a.wts b.wts _ _ (k1.app _).ints (k2.app _).ints hl1 ?_⟩
    simp (disch := omega) only [go_sem]
    rw [decide_eq_true hv, Bool.true_and] at hk
    exact ret_tail hlow .v hk
  · simp (disch := omega) only [go_sem, k1.one, k2.one, k1.cells, k2.cells, hv, Nat.reduceAdd]
    rw [decide_eq_false hv, Bool.false_and] at hk
    exact ret_tail hlow .v hk
/-- Whose a key is. -/
def Adm.ownerOf (s : Adm) (key : List UInt8) : Int × Int :=
  if s.lay.ver = 0 then (0, 180) else match s.chg with
    | some c => (if c.ok then c.owner key else 0, if c.ok then 0 else 70)
    | none => (if ringOk s.lay.wts then ofK Lib.itoa s.lay.wts key else 0, if ringOk s.lay.wts then 0 else 1)
theorem adOwner_call (G : Nat → Option AV) (hG : GTab G) (p : Nat) (O : Nat → Prop) (s : Adm) (key : List UInt8) (h : AH) (K : AV → AH → Prop) (a : AdmOf h p O s) (ok : s.Ok) (hkl : key.length ≤ 4611686018427387904)
    (hk : K (.tup [.v (.int .i64 (s.ownerOf key).1), .v (.int .i64 (s.ownerOf key).2)]) h) : SCall Tryz.prog G 16 [.ptr p 0 0 0, .v (.string (bs key))] h K := by
  refine Tryz.c16 G _ _ h K fun hlow => ?_
  unfold Tryz.r16
  obtain ⟨bid, C, rows, W, CH, ha, hown⟩ := a
  obtain ⟨f1, f2, f3⟩ := ha.at
  have f1 := f1 []
  rw [List.append_nil] at f1
  have hpl := (List.getElem?_eq_some_iff.mp ha.obj).1
  have w1 := ha.wts.one
  have w2 := ha.wts.cells
  have hwl := ok.wts
  have hnc := ok.nc
  unfold Adm.ownerOf at hk
  by_cases hv : s.lay.ver = 0
  · rw [if_pos hv] at hk
    simp (disch := omega) only [go_sem, f1, w1, w2]
    exact ret_same hk
  rw [if_neg hv] at hk
  have hc := ha.chg
  cases hs : s.chg with
  | none =>
    rw [hs] at hc hk
    obtain rfl : CH = .v (.pointer none) := hc
    simp (disch := omega) only [go_sem, f1, w1, w2, pn2 Tryz.und103]
    refine ⟨Of_call G hG W s.lay.wts key _ _ ha.wts.ints (by omega) hkl ?_⟩
    simp (disch := omega) only [go_sem]
    exact ret_same hk
  | some c =>
    rw [hs] at hc hk
    obtain ⟨x, W1, W2, rfl, h2, h3, h4⟩ := hc
    obtain ⟨q1, q2, q3, q4, q5, q6⟩ := ok.chg c hs
    simp (disch := omega) only [go_sem, f1, h2, w1, w2, pn1 Tryz.und103, h3.one, h4.one, h3.cells, h4.cells]
    refine ⟨Owner_call G hG c key W1 W2 _ _ h3.wt h4.wt (by rw [q1]; omega) (by omega) (by omega) hkl ?_⟩
    simp (disch := omega) only [go_sem]
    exact ret_same hk
end Go.Proofs

/-
  An admin's layout is one that may be, as soon as there is a chain.
-/
namespace Go.Proofs
open Go Go.Abs
set_option maxRecDepth 100000
structure Adm.Ring (s : Adm) : Prop where
  z : s.chains.length = 0 → s.lay.ver = 0
  l : 0 < s.chains.length → s.lay.ok = true
  c : ∀ c, s.chg = some c → c.ok = true
end Go.Proofs
