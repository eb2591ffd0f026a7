import Derived.Test.YtekaeegjohanjaaGreatDoorAbF
import Derived.Test.YtekaeegjohanjaaGreatDoorProg
import Derived.KernelRfl
import Derived.Test.YtekaeegjohanjaaGreatDoorAbG
import Derived.Test.YtekaeegjohanjaaGreatDoorGAH
import Derived.Test.YtekaeegjohanjaaGreatDoorGAE
import Derived.Test.YtekaeegjohanjaaGreatDoorGAG
import Derived.Test.YtekaeegjohanjaaGreatDoorAbI
set_option linter.all false
namespace Go.Proofs
open Go.Abs
def Tryz.ftab : Go.Abs.FTab := [(8, [], [0, 2, 3], [9]),
 (12, [(2, [0, 1, 2, 3, 4, 5, 6, 7, 8, 9, 10, 11, 12, 13, 14, 15, 16, 17, 18, 19, 20], [(18, [1, 5, 7, 13, 15, 16, 17])]), (4, [0, 1, 2, 3, 4, 5, 6, 7, 8, 9, 10], [(9, [2, 4, 6, 8]), (10, [2, 4, 6, 8])])], [0, 1, 3, 4, 5], [27]),
 (19, [(10, [0, 1, 2, 3, 4, 5, 6, 7, 8, 9, 10, 11, 12, 13, 14, 15, 16, 17, 18, 19, 20, 21, 22, 23, 24, 25, 26, 27, 28, 29, 30, 31], [(19, [1, 5, 7, 14, 16, 18]), (29, [1, 5, 7, 14, 16, 18, 24, 26, 28])])], [0, 1, 2, 3, 4, 5, 30, 31, 32], [15, 33, 41, 75]),
 (45, [(9, [0, 1, 2, 3, 4, 5, 6, 7, 8, 9], [(7, [3, 6]), (9, [3, 6])])], [0, 1, 4, 5, 6, 7, 8], [10, 26, 37]),
 (46, [], [0, 1], []),
 (47, [], [0, 1, 2, 3, 4], []),
 (52, [(6, [0, 1, 2, 3, 4, 5, 6, 7, 8], [])], [0, 1, 4, 5], [10, 14, 25]),
 (57, [(5, [0, 1, 2, 3, 4, 6, 7, 5, 8, 9, 10, 11, 12], [(5, [4]), (8, [4, 7]), (10, [2, 4, 7]), (11, [2, 4, 7]), (12, [2, 4, 7])])], [0, 2, 3, 5, 9, 10, 11], [12]),
 (63, [], [0, 1, 2, 3, 9, 20, 40], []),
 (68, [(6, [0, 1, 2, 3, 4, 5, 6, 7, 8], [])], [0, 1, 4, 5, 12, 13], [10, 14, 24]),
 (70, [], [0, 2, 3, 4], [7, 15]),
 (95, [], [0, 1, 4, 5, 6, 7, 8, 9], []),
 (96, [], [0, 1, 2], []),
 (97, [(2, [0, 1, 2, 3, 4, 5, 6, 7, 8, 9, 10, 11, 12, 13, 14, 15, 16, 17, 18, 19, 20, 21, 22, 23, 24, 25, 26, 27, 28, 29, 30], []), (6, [0, 1, 2, 3, 4, 5, 6, 7, 8], [(8, [3, 4, 5, 7])]), (16, [0, 1, 2, 3, 4, 6, 8, 9, 11, 5, 7, 10, 12, 13, 14, 15], [(5, [4]), (7, [4]), (10, [4, 9]), (12, [4, 9]), (15, [1, 4, 9])]), (32, [0, 1, 2, 3, 4, 5, 6, 7, 8, 9, 10, 11, 12, 13, 14, 15], [(13, [3, 8, 10, 12]), (15, [3, 8, 9, 10, 11, 12, 14])])], [0, 1, 3, 4, 5, 6, 7, 8, 9, 10, 11, 71, 82, 112, 113, 116, 119, 122, 126, 139], [44, 50, 61, 124]),
 (98, [(16, [0, 1, 2, 3, 4, 5, 6, 7, 8, 9, 10, 11, 12], [(12, [0, 3, 5, 8, 9, 11])]), (18, [0, 1, 2, 3, 4, 5, 6, 7, 8, 9, 10, 11, 12, 13], [(7, [6]), (9, [6]), (10, [1, 4, 6]), (13, [0, 1, 4, 6])]), (19, [0, 1, 2, 3, 4, 5, 6, 7, 8, 9, 10, 11, 12, 13, 14, 15, 16, 17, 18], [(12, [7, 11]), (14, [7, 11]), (18, [0, 1, 5, 7, 11])])], [0, 1, 2, 3, 4, 5, 6, 8, 24, 25, 26, 71, 72, 73], [12, 22, 27, 47, 69, 74]),
 (99, [(5, [0, 1, 2, 3, 4, 5, 6, 7, 8, 9, 10, 11, 12, 13, 14, 15, 16], [(12, [11]), (16, [3, 8, 11])]), (6, [0, 1, 2, 3, 4, 5, 6, 7, 8, 9, 10, 11, 12, 13], [(11, [1, 2, 6, 7, 10])])], [0, 1, 3, 4, 5, 6, 12], [47]),
 (100, [(3, [0, 1, 2, 3, 4, 5, 6, 7, 8, 9, 10, 11, 12, 13, 14], [(8, [3, 5, 7]), (13, [3, 5, 7]), (14, [3, 5, 7])])], [0, 1, 3, 4, 5, 6], [11, 25]),
 (101, [], [0, 1, 4], [9]),
 (112, [], [0, 2], [4]),
 (114, [], [0, 1, 2], [16]),
 (135, [], [0, 1, 4, 5, 6], []),
 (136, [], [0, 1, 4, 5, 6, 7, 8, 9, 10, 11, 12, 13], []),
 (137, [(11, [0, 1, 2, 3, 4, 5, 6, 7, 8, 9, 10, 11, 12, 13, 14, 15, 16, 17, 18, 19, 20, 21, 22, 23, 24, 25, 26, 27, 28, 29], [(29, [6, 10, 14, 16, 18, 19, 21, 22, 23, 24, 26])])], [0, 1, 2, 6, 7, 16, 17, 21, 31, 39], []),
 (138, [], [0, 1, 3], []),
 (139, [(1, [0, 1, 2, 3, 4, 5, 6, 7, 8, 9, 10, 11, 12, 13, 14, 15, 16, 17, 18], [(17, [3, 7, 9, 11, 12, 14]), (18, [3, 7, 9, 11, 12, 14])])], [0, 1, 4], []),
 (140, [], [0, 1, 4, 5, 6, 7], [12, 19, 29]),
 (141, [], [0, 1, 4], []),
 (142, [], [0, 1, 3], []),
 (143, [], [0, 1, 4], []),
 (144, [], [0, 1, 2, 4, 5, 6], [10, 25]),
 (146, [], [0, 2], [25]),
 (165, [], [0, 1, 4, 5, 7, 8], [9, 16]),
 (166, [], [0, 1, 4, 5, 7, 8], [9, 16]),
 (167, [], [0, 2, 3, 4], [7, 15])]
set_option maxRecDepth 100000 in
theorem Tryz.okT : Go.Abs.okTab Tryz.prog Tryz.ftab = true := by kernel_rfl
end Go.Proofs

/-
  The chapter's example of the admin, run.
-/
namespace Go.Proofs
open Go.Abs
set_option maxRecDepth 1000000 in
theorem works18 : bCall Tryz.prog (fun _ => none) Tryz.ftab 1000 20 19 [] [] (fun v _ => eqA 3 v (.v (.bool true))) = true := by kernel_rfl
theorem works18_call (G : Nat → Option AV) (h : AH) (K : AV → AH → Prop) (hk : K (.v (.bool true)) h) : SCall Tryz.prog G 19 [] h K := by
  have h0 : SCall Tryz.prog (fun _ => none) 19 [] [] fun v _ => v = .v (.bool true) :=
    bCall_sound (P := Tryz.prog) (G := fun _ => none) Tryz.okT 1000 20 19 [] [] _ _ works18 fun v h hv => eqA_eq _ _ _ hv
  refine (SCall.closed (G := G) (h := h) h0 (by simp) (by rintro v h' rfl; rfl)).mono ?_
  rintro v h' ⟨⟨_, rfl⟩, rfl⟩
  exact hk
end Go.Proofs

/-
  The law: one owner.
-/
namespace Go.Proofs
open Go Go.Abs
set_option maxRecDepth 100000
set_option linter.unusedSimpArgs false
end Go.Proofs

/-
  The law: a command that is refused changes nothing that is told.
-/
namespace Go.Proofs
open Go Go.Abs
set_option maxRecDepth 100000
set_option linter.unusedSimpArgs false
/-- A chain's row, by its cells. -/
theorem chRow {h : AH} {v : AV} {rows : List (List AV)} (sl : Sees h 3 v rows) {k : Nat} {c : Chn} {o r : AV} (hr : rows[k]? = some (crow c o r)) :
    ∃ q q0 q1 q2, aIA Tryz.prog h 102 v (.v (.int .i64 (k : Int))) = some q ∧ aFA Tryz.prog 121 0 q = some q0 ∧ Go.Abs.rowAt h q0 = some (crow c o r, 0) ∧ aFA Tryz.prog 121 1 q = some q1 ∧ Go.Abs.rowAt h q1 = some (crow c o r, 1) ∧ aFA Tryz.prog 121 2 q = some q2 ∧ Go.Abs.rowAt h q2 = some (crow c o r, 2) := by
  obtain ⟨q, q1, q2, q3⟩ := sl.iaAll (P := Tryz.prog) (ty := 102) (k := .i64) (i := (k : Int)) (r := crow c o r) Tryz.und102 Tryz.siz121 (by omega) (by simpa using hr)
  obtain ⟨u0, a0, b0⟩ := q3 121 0 0 1 false Tryz.fld121_0 (by decide)
  obtain ⟨u1, a1, b1⟩ := q3 121 1 1 1 false Tryz.fld121_1 (by decide)
  obtain ⟨u2, a2, b2⟩ := q3 121 2 2 1 false Tryz.fld121_2 (by decide)
  have q1 := q1 []
  have b0 := b0 []
  have b1 := b1 []
  have b2 := b2 []
  rw [List.append_nil] at q1 b0 b1 b2
  exact ⟨q, u0, u1, u2, q1, a0, b0, a1, b1, a2, b2⟩
end Go.Proofs

/-
  The reference's admin in the heap; what it looks at.
-/
namespace Go.Proofs
open Go Go.Abs
set_option maxRecDepth 100000
set_option linter.unusedSimpArgs false
/-- The change of which the reference's admin holds the parts, or nothing of one. -/
def Adm.ch (s : Adm) : Chg := s.chg.getD zeroChg
abbrev rfrow (s : Adm) (B C W V1 V2 : AV) : List AV := [B, C, .v (.int .i64 s.lay.ver), W, .v (.bool s.chg.isSome), .v (.int .i64 s.ch.was.ver), V1, .v (.int .i64 s.ch.will.ver), V2, .v (.string (bs s.ch.cur)), .v (.bool s.ch.fin)]
structure RefAt (h : AH) (p bid gb : Nat) (C : AV) (rows : List (List AV)) (W V1 V2 : AV) (s : Adm) : Prop where
  obj : h[p]? = some (some (AO.cells 108 11 [rfrow s (.sl bid gb 0 s.bricks.length none) C W V1 V2] 0))
  bri : h[bid]? = some (some (AO.cells 110 2 (s.bricks.map bkrow) gb))
  sl : ChSl h C rows
  ch : ChRows h rows s.chains
  wts : Kept h W s.lay.wts
  c1 : Kept h V1 s.ch.was.wts
  c2 : Kept h V2 s.ch.will.wts
def RefOf (h : AH) (p : Nat) (O : Nat → Prop) (s : Adm) : Prop := ∃ bid gb C rows W V1 V2, RefAt h p bid gb C rows W V1 V2 s ∧ ∀ i, Own p bid C i → O i
/-- What a command leaves. -/
structure RPost (h : AH) (p : Nat) (O : Nat → Prop) (s : Adm) (h' : AH) : Prop where
  len : h.length ≤ h'.length
  fr : ∀ i, i < h.length → ¬ O i → h'[i]? = h[i]?
  adm : RefOf h' p (fun i => O i ∨ h.length ≤ i) s
section
variable {h h' : AH} {p bid gb : Nat} {C W V1 V2 : AV} {rows : List (List AV)} {s : Adm} {O : Nat → Prop}
theorem RefAt.ext (a : RefAt h p bid gb C rows W V1 V2 s) (e : Ext h h') : RefAt h' p bid gb C rows W V1 V2 s where
  obj := e.some a.obj
  bri := e.some a.bri
  sl := by
    rcases a.sl with h1 | ⟨id, g, h1, h2⟩
    · exact .inl h1
    · exact .inr ⟨id, g, h1, e.some h2⟩
  ch := a.ch.keep e.kp
  wts := a.wts.keep e.kp
  c1 := a.c1.keep e.kp
  c2 := a.c2.keep e.kp
theorem RefAt.app (a : RefAt h p bid gb C rows W V1 V2 s) (t : AH) : RefAt (h ++ t) p bid gb C rows W V1 V2 s := a.ext (Ext.app t)
theorem RefOf.ext (a : RefOf h p O s) (e : Ext h h') : RefOf h' p O s := by
  obtain ⟨bid, gb, C, rows, W, V1, V2, h1, h2⟩ := a
  exact ⟨bid, gb, C, rows, W, V1, V2, h1.ext e, h2⟩
theorem RPost.same (a : RefOf h p O s) (t : AH) : RPost h p O s (h ++ t) := by
  refine ⟨by simp, fun i hi _ => by rw [List.getElem?_append_left hi], ?_⟩
  obtain ⟨bid, gb, C, rows, W, V1, V2, h1, h2⟩ := a
  exact ⟨bid, gb, C, rows, W, V1, V2, h1.app t, fun i hi => .inl (h2 i hi)⟩
theorem RPost.ext (a : RefOf h p O s) (e : Ext h h') : RPost h p O s h' := by
  refine ⟨e.len, fun i hi _ => e.get i hi, ?_⟩
  obtain ⟨bid, gb, C, rows, W, V1, V2, h1, h2⟩ := a
  exact ⟨bid, gb, C, rows, W, V1, V2, h1.ext e, fun i hi => .inl (h2 i hi)⟩
theorem Ext.tr {h'' : AH} (a : Ext h h') (b : Ext h' h'') : Ext h h'' := ⟨Nat.le_trans a.len b.len, fun i hi => (b.get i (Nat.lt_of_lt_of_le hi a.len)).trans (a.get i hi)⟩
/-- Facts for the walk. -/
theorem RefAt.at (a : RefAt h p bid gb C rows W V1 V2 s) : (∀ t, (h ++ t)[p]? = some (some (AO.cells 108 11 [rfrow s (.sl bid gb 0 s.bricks.length none) C W V1 V2] 0))) ∧ (∀ t, (h ++ t)[bid]? = some (some (AO.cells 110 2 (s.bricks.map bkrow) gb))) ∧
    (∀ t, aLen Tryz.prog (h ++ t) 102 C = some (.v (.int .i64 s.chains.length))) := by
  refine ⟨fun t => (a.app t).obj, fun t => (a.app t).bri, fun t => ?_⟩
  have := ((a.sl.sees a.ch).app t).len Tryz.und102
  rw [a.ch.1] at this
  exact this
theorem RefAt.at0 (a : RefAt h p bid gb C rows W V1 V2 s) : h[p]? = some (some (AO.cells 108 11 [rfrow s (.sl bid gb 0 s.bricks.length none) C W V1 V2] 0)) ∧ h[bid]? = some (some (AO.cells 110 2 (s.bricks.map bkrow) gb)) ∧
    aLen Tryz.prog h 102 C = some (.v (.int .i64 s.chains.length)) := by
  obtain ⟨f1, f2, f3⟩ := a.at
  have f3 := f3 []
  rw [List.append_nil] at f3
  exact ⟨a.obj, a.bri, f3⟩
theorem RefAt.chain (a : RefAt h p bid gb C rows W V1 V2 s) {i : Nat} {c : Chn} (hc : s.chains[i]? = some c) : ∃ o r q q0 q1 q2, rows[i]? = some (crow c o r) ∧ Kept h o c.ord ∧ Kept h r c.rep ∧ aIA Tryz.prog h 102 C (.v (.int .i64 (i : Int))) = some q ∧ aFA Tryz.prog 121 0 q = some q0 ∧ Go.Abs.rowAt h q0 = some (crow c o r, 0) ∧ aFA Tryz.prog 121 1 q = some q1 ∧ Go.Abs.rowAt h q1 = some (crow c o r, 1) ∧ aFA Tryz.prog 121 2 q = some q2 ∧ Go.Abs.rowAt h q2 = some (crow c o r, 2) := by
  obtain ⟨o, r, h1, h2, h3⟩ := a.ch.2 i c hc
  obtain ⟨q, q0, q1, q2, e1, e2, e3, e4, e5, e6, e7⟩ := chRow (a.sl.sees a.ch) h1
  exact ⟨o, r, q, q0, q1, q2, h1, h2, h3, e1, e2, e3, e4, e5, e6, e7⟩
end
theorem leave18_call (G : Nat → Option AV) (p : Nat) (O : Nat → Prop) (s : Adm) (k : Nat) (x : Int × Int) (h : AH) (K : AV → AH → Prop) (a : RefOf h p O s) (ok : s.Ok) (hx : s.bricks[k]? = some x)
    (hk : K (.v (.bool (s.may 3 k))) h) : SCall Tryz.prog G 145 [.ptr p 0 0 0, .v (.int .i64 k)] h K := by
  refine Tryz.c145 G _ _ h K fun hlow => ?_
  unfold Tryz.r145
  obtain ⟨bid, gb, C, rows, W, V1, V2, ha, _⟩ := a
  obtain ⟨g1, g2, g3⟩ := ha.at0
  have hr : (s.bricks.map bkrow)[k]? = some (bkrow x) := by rw [List.getElem?_map, hx]; rfl
  have hkl : k < s.bricks.length := (List.getElem?_eq_some_iff.mp hx).1
  obtain ⟨b1, b2, b3⟩ := ok.bk k x hx
  unfold Adm.may at hk
  rw [if_neg (by omega), if_pos rfl, bk_eq hx] at hk
  by_cases hz : x.1 = 0
  · simp (disch := omega) only [go_sem, g1, g2, hr, hz]
    simp only [hz, ne_eq, not_true_eq_false, decide_false, Bool.false_and] at hk
    exact ret_same hk
  obtain ⟨n, hn, hnl⟩ := b3 hz
  have hc := List.getElem?_eq_getElem hnl
  generalize s.chains[n] = c at hc
  obtain ⟨o, r, q, q0, q1, q2, c0, k1, k2, e1, e2, e3, e4, e5, e6, e7⟩ := ha.chain hc
  have hln := chain_len ok hc
  have lo : aLen Tryz.prog h 31 o = some (.v (.int .i64 c.ord.length)) := by
    have := k1.ints.len (P := Tryz.prog) (t := 31) Tryz.und31
    rw [List.length_map] at this
    exact this
  unfold Adm.alone at hk
  rw [bk_eq hx, hn, cn_eq hc] at hk
  simp only [hz, ne_eq, not_false_eq_true, decide_true, Bool.true_and] at hk
  have hne := ok.ne c (List.mem_of_getElem? hc)
  obtain ⟨y, ys, hys⟩ : ∃ y ys, c.ord = y :: ys := by
    cases hcs : c.ord with
    | nil => exact absurd hcs hne
    | cons y ys => exact ⟨y, ys, rfl⟩
  by_cases h1 : c.ord.length = 1
  · obtain ⟨u, u1, u2⟩ := Ints.at (k := 0) (x := y) k1.ints (by rw [hys]; rfl)
    have u1 := u1 []
    have u2 := u2 []
    rw [List.append_nil] at u1 u2
    simp only [Int.natCast_zero] at u1
    have hy0 : ys = [] := by rw [hys] at h1; exact List.eq_nil_of_length_eq_zero (by simpa using h1)
    have e : (!decide (c.ord = [(k : Int)])) = decide (¬ y = (k : Int)) := by
      rw [hys, hy0]
      by_cases hyk : y = k <;> simp [hyk]
    rw [e] at hk
    simp (disch := omega) only [go_sem, g1, g2, hr, hz, hn, e1, e4, e5, k1.one, lo, h1, u1, u2]
    exact ret_same hk
  · have e : c.ord ≠ [(k : Int)] := by intro e; rw [e] at h1; simp at h1
    simp (disch := omega) only [go_sem, g1, g2, hr, hz, hn, e1, e4, e5, k1.one, lo, h1]
    simp only [e, decide_false, Bool.not_false] at hk
    exact ret_same hk
theorem may18_call (G : Nat → Option AV) (p : Nat) (O : Nat → Prop) (s : Adm) (k : Nat) (x : Int × Int) (kind : Int) (h : AH) (K : AV → AH → Prop) (a : RefOf h p O s) (ok : s.Ok) (hx : s.bricks[k]? = some x)
    (hk : K (.v (.bool (s.may kind k))) h) : SCall Tryz.prog G 104 [.ptr p 0 0 0, .v (.int .i64 kind), .v (.int .i64 k)] h K := by
  refine Tryz.c104 G _ _ _ h K fun hlow => ?_
  unfold Tryz.r104
  have a0 := a
  obtain ⟨bid, gb, C, rows, W, V1, V2, ha, _⟩ := a
  obtain ⟨g1, g2, g3⟩ := ha.at0
  have hr : (s.bricks.map bkrow)[k]? = some (bkrow x) := by rw [List.getElem?_map, hx]; rfl
  have hkl : k < s.bricks.length := (List.getElem?_eq_some_iff.mp hx).1
  obtain ⟨b1, b2, b3⟩ := ok.bk k x hx
  simp (disch := omega) only [go_sem, g1, g2, hr]
  by_cases h3 : kind = 3
  · simp (disch := omega) only [go_sem, h3]
    refine ⟨leave18_call G p O s k x h _ a0 ok hx ?_⟩
    simp (disch := omega) only [go_sem]
    rw [h3] at hk
    exact ret_same hk
  unfold Adm.may at hk
  rw [bk_eq hx] at hk
  by_cases h2 : kind = 2
  · simp (disch := omega) only [go_sem, h2]
    rw [if_pos h2] at hk
    simp only [beq_iff_eq, ← Bool.beq_eq_decide_eq] at hk ⊢
    exact ret_same hk
  by_cases h4 : kind = 4
  · rw [if_neg h2, if_neg h3, if_pos h4] at hk
    by_cases hz : x.1 = 2
    · simp (disch := omega) only [go_sem, h4, hz]
      simp only [hz, decide_true, Bool.true_or] at hk
      exact ret_same hk
    · simp (disch := omega) only [go_sem, h4, hz]
      simp only [hz, decide_false, Bool.false_or] at hk
      exact ret_same hk
  by_cases h5 : kind = 5
  · rw [if_neg h2, if_neg h3, if_neg h4, if_pos h5] at hk
    simp (disch := omega) only [go_sem, h5]
    exact ret_same hk
  rw [if_neg h2, if_neg h3, if_neg h4, if_neg h5] at hk
  by_cases hz : x.1 = 1
  · obtain ⟨n, hn, hnl⟩ := b3 (by omega)
    have hc := List.getElem?_eq_getElem hnl
    generalize hcc : s.chains[n] = c at hc
    have hne := ok.ne c (List.mem_of_getElem? hc)
    obtain ⟨y, ys, hys⟩ : ∃ y ys, c.ord = y :: ys := by
      cases hcs : c.ord with
      | nil => exact absurd hcs hne
      | cons y ys => exact ⟨y, ys, rfl⟩
    obtain ⟨ky, xy, hy1, hy2, _⟩ := ok.ord n c hc y (by rw [hys]; simp)
    obtain ⟨o, r, q, q0, q1, q2, c0, k1, k2, d1, d2, d3, d4, d5, d6, d7⟩ := ha.chain hc
    have hkyl : ky < s.bricks.length := (List.getElem?_eq_some_iff.mp hy2).1
    have hry : (s.bricks.map bkrow)[ky]? = some (bkrow xy) := by rw [List.getElem?_map, hy2]; rfl
    obtain ⟨u, e1, e2⟩ := Ints.at (k := 0) (x := y) k1.ints (by rw [hys]; rfl)
    have e1 := e1 []
    have e2 := e2 []
    rw [List.append_nil] at e1 e2
    simp only [Int.natCast_zero] at e1
    simp (disch := omega) only [go_sem, h2, h3, h4, h5, hz, g1, g2, hr, hn, d1, d4, d5, k1.one, e1, e2, hy1, hry]
    rw [hn, cn_eq hc, hys, hy1] at hk
    simp only [List.getD_cons_zero, bk_eq hy2, hz, decide_true, Bool.true_and, ne_eq, decide_not] at hk
    simp only [decide_not, ne_eq]
    exact ret_same hk
  · simp (disch := omega) only [go_sem, h2, h3, h4, h5, hz]
    simp only [hz, decide_false, Bool.false_and] at hk
    exact ret_same hk
end Go.Proofs

/-
  The reference's admin: a command on a brick.
-/
namespace Go.Proofs
open Go Go.Abs
set_option maxRecDepth 100000
set_option linter.unusedSimpArgs false
/-- A chain and a brick are written. -/
theorem RefAt.put {h : AH} {p bid gb id g n k : Nat} {rows : List (List AV)} {W V1 V2 o r : AV} {s : Adm} {y : Chn} {to : Int × Int} (a : RefAt h p bid gb (.sl id g 0 rows.length none) rows W V1 V2 s) (hid : h[id]? = some (some (.cells 121 3 rows g)))
    (hn : n < s.chains.length) (ho : Kept h o y.ord) (hr : Kept h r y.rep) :
    RefAt ((h.set id (some (.cells 121 3 (rows.set n (crow y o r)) g))).set bid (some (.cells 110 2 ((s.bricks.set k to).map bkrow) gb))) p bid gb (.sl id g 0 (rows.set n (crow y o r)).length none) (rows.set n (crow y o r)) W V1 V2 (s.put n y k to) := by
  have n1 := apart hid a.bri (by decide)
  have n2 := apart hid a.obj (by decide)
  have n3 := apart a.bri a.obj (by decide)
  have hidl : id < h.length := (List.getElem?_eq_some_iff.mp hid).1
  have hbl : bid < h.length := (List.getElem?_eq_some_iff.mp a.bri).1
  have k1 : Kp h (h.set id (some (.cells 121 3 (rows.set n (crow y o r)) g))) := Kp.set hid (by decide)
  have hb1 : (h.set id (some (AO.cells 121 3 (rows.set n (crow y o r)) g)))[bid]? = some (some (.cells 110 2 (s.bricks.map bkrow) gb)) := by rw [List.getElem?_set_ne n1]; exact a.bri
  have k2 : Kp h ((h.set id (some (.cells 121 3 (rows.set n (crow y o r)) g))).set bid (some (.cells 110 2 ((s.bricks.set k to).map bkrow) gb))) := k1.trans (Kp.set hb1 (by decide))
  refine ⟨?_, ?_, ?_, ?_, a.wts.keep k2, a.c1.keep k2, a.c2.keep k2⟩
  · rw [List.getElem?_set_ne n3, List.getElem?_set_ne n2, a.obj]
    simp [Adm.put, Adm.ch]
  · rw [List.getElem?_set_self (by simpa using hbl)]
    simp [Adm.put]
  · refine .inr ⟨id, g, rfl, ?_⟩
    rw [List.getElem?_set_ne n1.symm, List.getElem?_set_self hidl]
  · refine ⟨by simp [Adm.put, a.ch.1], ?_⟩
    intro i c hc
    by_cases hi : i = n
    · subst hi
      have : (s.put i y k to).chains[i]? = some y := by simp [Adm.put, hn]
      rw [this] at hc
      cases hc
      exact ⟨o, r, by rw [List.getElem?_set_self (by rw [a.ch.1]; exact hn)], ho.keep k2, hr.keep k2⟩
    · have : (s.put n y k to).chains[i]? = s.chains[i]? := by simp only [Adm.put]; rw [List.getElem?_set_ne (Ne.symm hi)]
      rw [this] at hc
      obtain ⟨o', r', h1, h2, h3⟩ := a.ch.2 i c hc
      exact ⟨o', r', by rw [List.getElem?_set_ne (Ne.symm hi)]; exact h1, h2.keep k2, h3.keep k2⟩
theorem set18_call (G : Nat → Option AV) (p bid gb id g n : Nat) (rows : List (List AV)) (W V1 V2 : AV) (s : Adm) (c : Chn) (o r : AV) (h : AH) (K : AV → AH → Prop) (a : RefAt h p bid gb (.sl id g 0 rows.length none) rows W V1 V2 s) (hid : h[id]? = some (some (.cells 121 3 rows g)))
    (hc : s.chains[n]? = some c) (hep : 1 ≤ c.ep ∧ c.ep ≤ 1073741824) (hnc : s.chains.length ≤ 8) (o1 : o.one = true) (o2 : o.cells = [o]) (r1 : r.one = true) (r2 : r.cells = [r])
    (hk : K (.tup []) (h.set id (some (.cells 121 3 (rows.set n [.v (.int .i64 (c.ep + 1)), o, r]) g)))) : SCall Tryz.prog G 106 [.ptr p 0 0 0, .v (.int .i64 n), o, r] h K := by
  refine Tryz.c106 G _ _ _ _ h K fun hlow => ?_
  unfold Tryz.r106
  obtain ⟨hc1, hc2⟩ := a.ch
  obtain ⟨o0, r0, hr0, _, _⟩ := hc2 n c hc
  have hnl : n < s.chains.length := (List.getElem?_eq_some_iff.mp hc).1
  have b3 := build37 (a := .v (.int .i64 (c.ep + 1))) rfl rfl o1 o2 r1 r2
  simp (disch := omega) only [go_sem, a.obj, hid, hr0, b3, hc1]
  exact ret_keep hk
theorem turn18_end (G : Nat → Option AV) (h H : AH) (K : AV → AH → Prop) (p bid gb k n : Nat) (O : Nat → Prop) (C W V1 V2 : AV) (rows : List (List AV)) (s : Adm) (c0 : Chn) (x : Int × Int) (n93 st : Int) (o r : AV) (l1 l3 : List Int) (hH : Ext h H) (a : RefAt H p bid gb C rows W V1 V2 s) (own : ∀ i, Own p bid C i → O i) (ok : s.Ok)
    (hx : s.bricks[k]? = some x) (hc : s.chains[n]? = some c0) (hn : n93 = n ∨ (n93 = -1 ∧ x.2 = n)) (ho : Kept H o l1) (hr : Kept H r l3)
    (hk : ∀ h', RPost h p O (s.put n ⟨c0.ep + 1, l1, l3⟩ k (st, n93)) h' → K (.v (.int .i64 0)) h') : Tryz.r51_j98 h K G (.ptr p 0 0 0) k n93 o r st H := by
  unfold Tryz.r51_j98
  have hnl : n < s.chains.length := (List.getElem?_eq_some_iff.mp hc).1
  have hkl : k < s.bricks.length := (List.getElem?_eq_some_iff.mp hx).1
  have hep := ok.ep c0 (List.mem_of_getElem? hc)
  have hnc := ok.nc
  have hnb := ok.nb
  have hbr : (s.bricks.map bkrow)[k]? = some (bkrow x) := by rw [List.getElem?_map, hx]; rfl
  rcases a.sl with ⟨rfl, h0⟩ | ⟨id, g, rfl, hid⟩
  · have := a.ch.1; rw [h0] at this; simp at this; omega
  have n1 := apart hid a.bri (by decide)
  have n2 := apart hid a.obj (by decide)
  have fin : Tryz.r51_j99 K h (.ptr p 0 0 0) k n93 st (H.set id (some (.cells 121 3 (rows.set n (crow ⟨c0.ep + 1, l1, l3⟩ o r)) g))) := by
    unfold Tryz.r51_j99
    have m1 : ∀ o, (H.set id o)[p]? = H[p]? := fun o => List.getElem?_set_ne n2
    have m2 : ∀ o, (H.set id o)[bid]? = H[bid]? := fun o => List.getElem?_set_ne n1
    simp (disch := omega) only [go_sem, m1, m2, a.obj, a.bri, hbr, List.length_map]
    have e3 : (List.map bkrow s.bricks).set k (bkrow (st, n93)) = (s.bricks.set k (st, n93)).map bkrow := by rw [List.map_set]
    have A := a.put (k := k) (to := (st, n93)) hid hnl (y := ⟨c0.ep + 1, l1, l3⟩) ho hr
    rw [← e3] at A
    refine ret_keep (hk _ ⟨?_, ?_, ?_⟩)
    · have := hH.len
      simpa using this
    · intro i hi hO
      have e1 : id ≠ i := by rintro rfl; exact hO (own _ (.inr (.inr ⟨_, _, _, _, rfl⟩)))
      have e2 : bid ≠ i := by rintro rfl; exact hO (own _ (.inr (.inl rfl)))
      rw [List.getElem?_set_ne e2, List.getElem?_set_ne e1]
      exact hH.get i hi
    · refine ⟨bid, gb, _, _, W, V1, V2, A, ?_⟩
      intro i hi
      left
      apply own
      rcases hi with h1 | h1 | ⟨g', o', l', c', h1⟩
      · exact .inl h1
      · exact .inr (.inl h1)
      · cases h1
        exact .inr (.inr ⟨_, _, _, _, rfl⟩)
  rcases hn with rfl | ⟨rfl, hx2⟩
  · have hge : (n : Int) ≥ 0 := by omega
    simp (disch := omega) only [go_sem, hge, decide_true]
    refine ⟨set18_call G p bid gb id g n rows W V1 V2 s c0 o r H _ a hid hc hep hnc ho.one ho.cells hr.one hr.cells ?_⟩
    exact fin
  · simp (disch := omega) only [go_sem, a.obj, a.bri, hbr, List.length_map, hx2]
    refine ⟨set18_call G p bid gb id g n rows W V1 V2 s c0 o r H _ a hid hc hep hnc ho.one ho.cells hr.one hr.cells ?_⟩
    exact fin
end Go.Proofs

/-
  The reference's admin: a brick turns.
-/
namespace Go.Proofs
open Go Go.Abs
set_option maxRecDepth 100000
set_option linter.unusedSimpArgs false
theorem ne_rm (b : Int) (l : List Int) : (l.filter fun w => w != b) = rm b l := by
  unfold rm
  refine congrArg (fun p => List.filter p l) (funext fun x => ?_)
  by_cases hx : x = b <;> simp [hx]
theorem rm_self (b : Int) : rm b [b] = [] := by simp [rm]
theorem any_mem (b : Int) (l : List Int) : (l.any fun w => w == b) = decide (b ∈ l) := by
  by_cases h : b ∈ l
  · rw [decide_eq_true h]; simpa using h
  · rw [decide_eq_false h]
    rw [List.any_eq_false]
    intro x hx
    simp only [beq_iff_eq]
    rintro rfl
    exact h hx
theorem AccX.apart {e : TypeId} {n : Nat} {h h1 h2 : AH} {x y : AV} {r1 r2 : List (List AV)} (a : AccX e n h x h1 r1) (b : AccX e n h1 y h2 r2) : (∀ id g o l c, y = .sl id g o l c → Off x id) ∧ (∀ id g o l c, x = .sl id g o l c → Off y id) := by
  refine ⟨fun id g o l c hy => a.off (b.lo hy).1, fun id g o l c hx => b.offLow (a.lo hx).2⟩
theorem turn18 (G : Nat → Option AV) (h H : AH) (K : AV → AH → Prop) (p i0 k n : Nat) (O : Nat → Prop) (s : Adm) (c : CmdA) (la : AV) (c0 : Chn) (x : Int × Int) (a : RefOf h p O s) (ok : s.Ok) (hH : Ext h H)
    (hi0 : H[i0]? = some (some (.cells 33 6 [c.cells la] 0))) (hx : s.bricks[k]? = some x) (hc : s.chains[n]? = some c0) (hkd : 2 ≤ c.kind ∧ c.kind ≤ 6) (hm : s.may c.kind k = true) (hxn : c.kind ≠ 2 → x.2 = n)
    (hk : ∀ e s' h', s.turn c k n = (e, s') → RPost h p O s' h' → K (.v (.int .i64 e)) h') : Tryz.r51_j65 G K h (.ptr p 0 0 0) i0 k n H := by
  unfold Tryz.r51_j65
  have aO := a.ext hH
  obtain ⟨bid, gb, C, rows, W, V1, V2, ha, own⟩ := aO
  obtain ⟨f1, f2, f3⟩ := ha.at
  obtain ⟨g1, g2, g3⟩ := ha.at0
  have hnl : n < s.chains.length := (List.getElem?_eq_some_iff.mp hc).1
  have hkl : k < s.bricks.length := (List.getElem?_eq_some_iff.mp hx).1
  have hep := ok.ep c0 (List.mem_of_getElem? hc)
  have hln := chain_len ok hc
  have hne := ok.ne c0 (List.mem_of_getElem? hc)
  have hnd := (ok.nod c0 (List.mem_of_getElem? hc)).1
  have hnc := ok.nc
  have hnb := ok.nb
  obtain ⟨m1, m2, m3, m4⟩ := may_facts hx hkd hm
  obtain ⟨b1, b2, b3⟩ := ok.bk k x hx
  obtain ⟨hc1, hc2⟩ := ha.ch
  obtain ⟨o0, r0, hr0, k1, k2⟩ := hc2 n c0 hc
  rcases ha.sl with ⟨rfl, h0⟩ | ⟨id, g, rfl, hid⟩
  · rw [h0] at hc1; simp at hc1; omega
  have fid : ∀ t, (H ++ t)[id]? = some (some (.cells 121 3 rows g)) := fun t => by rw [List.getElem?_append_left (List.getElem?_eq_some_iff.mp hid).1]; exact hid
  have fi0 : ∀ t, (H ++ t)[i0]? = some (some (.cells 33 6 [c.cells la] 0)) := fun t => by rw [List.getElem?_append_left (List.getElem?_eq_some_iff.mp hi0).1]; exact hi0
  simp (disch := omega) only [go_sem, Nat.one_ne_zero, two0, if_false, g1, hid, fid, fi0, f1, hr0, hc1, k1.one, k2.one, k1.cells, k2.cells]
  unfold Adm.turn at hk
  rw [cn_eq hc] at hk
  have stay : ∀ t, RPost h p O s (H ++ t) := fun t => RPost.ext a ⟨by have := hH.len; simp; omega, fun i hi => by rw [List.getElem?_append_left (by have := hH.len; omega)]; exact hH.get i hi⟩
  by_cases e6 : c.kind = 6 ∧ c.epoch ≠ c0.ep
  · rw [if_pos e6] at hk
    obtain ⟨e1, e2⟩ := e6
    simp (disch := omega) only [go_sem, Nat.one_ne_zero, two0, if_false, fi0, e1, e2]
    exact ret_keep (hk _ _ _ rfl (stay _))
  rw [if_neg e6] at hk
  by_cases hbig : c0.ep ≥ 1073741824
  · rw [if_pos hbig] at hk
    by_cases k6 : c.kind = 6
    · have e2 : c.epoch = c0.ep := by rcases Classical.em (c.epoch = c0.ep) with h | h; · exact h
                                      · exact absurd ⟨k6, h⟩ e6
      simp (disch := omega) only [go_sem, Nat.one_ne_zero, two0, if_false, fi0, k6, e2, hbig]
      exact ret_keep (hk _ _ _ rfl (stay _))
    · simp (disch := omega) only [go_sem, Nat.one_ne_zero, two0, if_false, fi0, k6, hbig]
      exact ret_keep (hk _ _ _ rfl (stay _))
  rw [if_neg hbig] at hk
  have al : c.kind ≠ 2 → s.alone k = decide (c0.ord = [(k : Int)]) := fun h2 => by unfold Adm.alone; rw [bk_eq hx, hxn h2, cn_eq hc]
  have hkk : c.kind = 2 ∨ c.kind = 3 ∨ c.kind = 4 ∨ c.kind = 5 ∨ c.kind = 6 := by omega
  have hrm1 := rm_le k c0.ord
  have hrm2 := rm_le k c0.rep
  rcases hkk with kk | kk | kk | kk | kk
  · simp (disch := omega) only [go_sem, Nat.one_ne_zero, two0, if_false, fi0, kk]
    refine ⟨refWithout_call G o0 c0.ord k _ _ (k1.app _).ints (by omega) fun v89 H2 A1 => ?_⟩
    rw [ne_rm] at A1
    obtain ⟨t1, rfl⟩ := A1.tail
    simp (disch := omega) only [go_sem, Nat.one_ne_zero, two0, if_false, fi0, A1.one, k2.one, k2.cells]
    refine ⟨refWithout_call G r0 c0.rep k _ _ (k2.app _).ints (by omega) fun v91 H3 A3 => ?_⟩
    rw [ne_rm] at A3
    obtain ⟨t3, rfl⟩ := A3.tail
    have X1 := A1.toX
    have X3 := A3.toX
    simp only [List.append_assoc, List.cons_append, List.nil_append] at X1 X3 ⊢
    obtain ⟨ap1, ap2⟩ := AccX.apart X1 X3
    have K1 := X1.kept.app t3
    have K3 := X3.kept
    simp only [List.append_assoc, List.cons_append, List.nil_append] at K1
    generalize hM : H ++ some (AO.cells 121 3 [crow c0 o0 r0] 0) :: (t1 ++ t3) = M at *
    have eM : Ext H M := by rw [← hM]; exact Ext.app _
    have A := ha.ext eM
    have Mi0 : ∀ t, (M ++ t)[i0]? = some (some (.cells 33 6 [c.cells la] 0)) := fun t => by rw [← hM, List.append_assoc]; exact fi0 _
    have Mi00 : M[i0]? = some (some (.cells 33 6 [c.cells la] 0)) := by have := Mi0 []; rwa [List.append_nil] at this
    have eHM := Ext.tr hH eM
    simp (disch := omega) only [go_sem, Nat.one_ne_zero, two0, if_false, fi0, Mi00, kk]
    refine X3.pushAt (h' := M ++ [some (.cells 3 1 [[.v (.int .i64 k)]] 0)]) [some (.cells 3 1 [[.v (.int .i64 k)]] 0)] rfl (row := irow k) (e' := 3) (i := M.length) (g := 0) (by simp) Tryz.und31 Tryz.azero3 Tryz.byt3 (by exact Tryz.plainSrc31) rfl (by rw [List.length_map]; omega) (by rw [List.length_map]; omega) fun x' H4 R hl4 st4 => ?_
    have kx : Kept H4 x' (rm k c0.rep ++ [(k : Int)]) := by
      have R' := R
      rw [show (rm k c0.rep).map irow ++ [irow (k : Int)] = (rm k c0.rep ++ [(k : Int)]).map irow from by simp] at R'
      exact R'.kept
    have kz : Kept H4 v89 (rm k c0.ord) := (K1.app _).stay st4 (fun id g o l c hx => ap2 _ _ _ _ _ hx)
    have e4 : Ext H H4 := ⟨by have := eM.len; simp at hl4; omega, fun j hj => by rw [(st4 j (by have := eM.len; simp; omega) (X3.offLow (by simp; omega))).1, List.getElem?_append_left (by have := eM.len; omega)]; exact eM.get j hj⟩
    exact turn18_end G h H4 K p bid gb k n O _ W V1 V2 rows s c0 x n 1 _ _ _ _ (Ext.tr hH e4) (ha.ext e4) own ok hx hc (.inl rfl) kz kx fun h' hp => hk _ _ _ (by simp [kk, Adm.to, Chn.turn]) hp
  · have al := al (by omega)
    have m3 := m3 kk
    simp (disch := omega) only [go_sem, Nat.one_ne_zero, two0, if_false, fi0, kk]
    refine ⟨refWithout_call G o0 c0.ord k _ _ (k1.app _).ints (by omega) fun v89 H2 A1 => ?_⟩
    rw [ne_rm] at A1
    obtain ⟨t1, rfl⟩ := A1.tail
    simp (disch := omega) only [go_sem, Nat.one_ne_zero, two0, if_false, fi0, A1.one, k2.one, k2.cells]
    refine ⟨refWithout_call G r0 c0.rep k _ _ (k2.app _).ints (by omega) fun v91 H3 A3 => ?_⟩
    rw [ne_rm] at A3
    obtain ⟨t3, rfl⟩ := A3.tail
    have X1 := A1.toX
    have X3 := A3.toX
    simp only [List.append_assoc, List.cons_append, List.nil_append] at X1 X3 ⊢
    obtain ⟨ap1, ap2⟩ := AccX.apart X1 X3
    have K1 := X1.kept.app t3
    have K3 := X3.kept
    simp only [List.append_assoc, List.cons_append, List.nil_append] at K1
    generalize hM : H ++ some (AO.cells 121 3 [crow c0 o0 r0] 0) :: (t1 ++ t3) = M at *
    have eM : Ext H M := by rw [← hM]; exact Ext.app _
    have A := ha.ext eM
    have Mi0 : ∀ t, (M ++ t)[i0]? = some (some (.cells 33 6 [c.cells la] 0)) := fun t => by rw [← hM, List.append_assoc]; exact fi0 _
    have Mi00 : M[i0]? = some (some (.cells 33 6 [c.cells la] 0)) := by have := Mi0 []; rwa [List.append_nil] at this
    have eHM := Ext.tr hH eM
    simp (disch := omega) only [go_sem, Nat.one_ne_zero, two0, if_false, fi0, Mi00, kk]
    exact turn18_end G h M K p bid gb k n O _ W V1 V2 rows s c0 x (-1) 0 _ _ _ _ eHM A own ok hx hc (.inr ⟨rfl, hxn (by omega)⟩) K1 K3 fun h' hp => hk _ _ _ (by simp [kk, m3, Adm.to, Chn.turn]) hp
  · have al := al (by omega)
    simp (disch := omega) only [go_sem, Nat.one_ne_zero, two0, if_false, fi0, kk]
    refine ⟨refWithout_call G o0 c0.ord k _ _ (k1.app _).ints (by omega) fun v89 H2 A1 => ?_⟩
    rw [ne_rm] at A1
    obtain ⟨t1, rfl⟩ := A1.tail
    simp (disch := omega) only [go_sem, Nat.one_ne_zero, two0, if_false, fi0, A1.one, k2.one, k2.cells]
    refine ⟨refWithout_call G r0 c0.rep k _ _ (k2.app _).ints (by omega) fun v91 H3 A3 => ?_⟩
    rw [ne_rm] at A3
    obtain ⟨t3, rfl⟩ := A3.tail
    have X1 := A1.toX
    have X3 := A3.toX
    simp only [List.append_assoc, List.cons_append, List.nil_append] at X1 X3 ⊢
    obtain ⟨ap1, ap2⟩ := AccX.apart X1 X3
    have K1 := X1.kept.app t3
    have K3 := X3.kept
    simp only [List.append_assoc, List.cons_append, List.nil_append] at K1
    generalize hM : H ++ some (AO.cells 121 3 [crow c0 o0 r0] 0) :: (t1 ++ t3) = M at *
    have eM : Ext H M := by rw [← hM]; exact Ext.app _
    have A := ha.ext eM
    have Mi0 : ∀ t, (M ++ t)[i0]? = some (some (.cells 33 6 [c.cells la] 0)) := fun t => by rw [← hM, List.append_assoc]; exact fi0 _
    have Mi00 : M[i0]? = some (some (.cells 33 6 [c.cells la] 0)) := by have := Mi0 []; rwa [List.append_nil] at this
    have eHM := Ext.tr hH eM
    have lo : aLen Tryz.prog M 31 v89 = some (.v (.int .i64 (rm k c0.ord).length)) := by
      have := K1.ints.len (P := Tryz.prog) (t := 31) Tryz.und31
      rw [List.length_map] at this
      exact this
    by_cases hz : (rm (k : Int) c0.ord).length = 0
    · have hor := rm_nil hne hnd (List.eq_nil_of_length_eq_zero hz)
      have al : s.alone k = true := by rw [al, hor]; simp
      simp (disch := omega) only [go_sem, Nat.one_ne_zero, two0, if_false, fi0, Mi00, kk, lo, hz]
      refine X1.pushAt (h' := M ++ [some (.cells 3 1 [[.v (.int .i64 k)]] 0)]) (t3 ++ [some (.cells 3 1 [[.v (.int .i64 k)]] 0)]) (by rw [← hM]; simp) (row := irow k) (e' := 3) (i := M.length) (g := 0) (by simp) Tryz.und31 Tryz.azero3 Tryz.byt3 (by exact Tryz.plainSrc31) rfl (by rw [List.length_map]; omega) (by rw [List.length_map]; omega) fun x' H4 R hl4 st4 => ?_
      have kx : Kept H4 x' (rm k c0.ord ++ [(k : Int)]) := by
        have R' := R
        rw [show (rm k c0.ord).map irow ++ [irow (k : Int)] = (rm k c0.ord ++ [(k : Int)]).map irow from by simp] at R'
        exact R'.kept
      have kz : Kept H4 v91 (rm k c0.rep) := (K3.app _).stay st4 (fun id g o l c hx => ap1 _ _ _ _ _ hx)
      have e4 : Ext H H4 := ⟨by have := eM.len; simp at hl4; omega, fun j hj => by rw [(st4 j (by have := eM.len; simp; omega) (X1.offLow (by simp; omega))).1, List.getElem?_append_left (by have := eM.len; omega)]; exact eM.get j hj⟩
      exact turn18_end G h H4 K p bid gb k n O _ W V1 V2 rows s c0 x n 3 _ _ _ _ (Ext.tr hH e4) (ha.ext e4) own ok hx hc (.inl rfl) kx kz fun h' hp => hk _ _ _ (by simp [kk, al, Adm.to, Chn.turn]) hp
    · have al : s.alone k = false := by
        rw [al]
        refine decide_eq_false fun e => hz ?_
        rw [e, rm_self]; rfl
      simp (disch := omega) only [go_sem, Nat.one_ne_zero, two0, if_false, fi0, Mi00, kk, lo, hz]
      exact turn18_end G h M K p bid gb k n O _ W V1 V2 rows s c0 x n 3 _ _ _ _ eHM A own ok hx hc (.inl rfl) K1 K3 fun h' hp => hk _ _ _ (by simp [kk, al, Adm.to, Chn.turn]) hp
  · have al := al (by omega)
    have hx3 : x.1 = 3 := by unfold Adm.may at hm; rw [bk_eq hx, kk] at hm; simpa using hm
    simp (disch := omega) only [go_sem, Nat.one_ne_zero, two0, if_false, fi0, kk]
    refine ⟨refWithout_call G o0 c0.ord k _ _ (k1.app _).ints (by omega) fun v89 H2 A1 => ?_⟩
    rw [ne_rm] at A1
    obtain ⟨t1, rfl⟩ := A1.tail
    simp (disch := omega) only [go_sem, Nat.one_ne_zero, two0, if_false, fi0, A1.one, k2.one, k2.cells]
    refine ⟨refWithout_call G r0 c0.rep k _ _ (k2.app _).ints (by omega) fun v91 H3 A3 => ?_⟩
    rw [ne_rm] at A3
    obtain ⟨t3, rfl⟩ := A3.tail
    have X1 := A1.toX
    have X3 := A3.toX
    simp only [List.append_assoc, List.cons_append, List.nil_append] at X1 X3 ⊢
    obtain ⟨ap1, ap2⟩ := AccX.apart X1 X3
    have K1 := X1.kept.app t3
    have K3 := X3.kept
    simp only [List.append_assoc, List.cons_append, List.nil_append] at K1
    generalize hM : H ++ some (AO.cells 121 3 [crow c0 o0 r0] 0) :: (t1 ++ t3) = M at *
    have eM : Ext H M := by rw [← hM]; exact Ext.app _
    have A := ha.ext eM
    have Mi0 : ∀ t, (M ++ t)[i0]? = some (some (.cells 33 6 [c.cells la] 0)) := fun t => by rw [← hM, List.append_assoc]; exact fi0 _
    have Mi00 : M[i0]? = some (some (.cells 33 6 [c.cells la] 0)) := by have := Mi0 []; rwa [List.append_nil] at this
    have eHM := Ext.tr hH eM
    have Mc : ∀ t, (M ++ t)[H.length]? = some (some (AO.cells 121 3 [crow c0 o0 r0] 0)) := fun t => by rw [← hM]; simp
    have Mc0 : M[H.length]? = some (some (AO.cells 121 3 [crow c0 o0 r0] 0)) := by have := Mc []; rwa [List.append_nil] at this
    have ka : Kept M o0 c0.ord := k1.keep eM.kp
    simp (disch := omega) only [go_sem, Nat.one_ne_zero, two0, if_false, fi0, Mi00, Mc0, kk, k1.one, k1.cells]
    refine ⟨refAmong_call G o0 c0.ord k M _ ka.ints (by omega) ?_⟩
    rw [any_mem]
    by_cases hmem : (k : Int) ∈ c0.ord
    · have hor : c0.ord = [(k : Int)] := by
        obtain ⟨k', x', e1, e2, e3, e4⟩ := ok.ord n c0 hc k hmem
        have : k = k' := by omega
        subst this
        rw [hx] at e2
        cases e2
        rcases e4 with e4 | ⟨_, e4⟩
        · omega
        · exact e4
      have al : s.alone k = true := by rw [al, hor]; simp
      simp (disch := omega) only [go_sem, Nat.one_ne_zero, two0, if_false, fi0, hmem, decide_true]
      refine X1.pushAt (h' := M ++ [some (.cells 3 1 [[.v (.int .i64 k)]] 0)]) (t3 ++ [some (.cells 3 1 [[.v (.int .i64 k)]] 0)]) (by rw [← hM]; simp) (row := irow k) (e' := 3) (i := M.length) (g := 0) (by simp) Tryz.und31 Tryz.azero3 Tryz.byt3 (by exact Tryz.plainSrc31) rfl (by rw [List.length_map]; omega) (by rw [List.length_map]; omega) fun x' H4 R hl4 st4 => ?_
      have kx : Kept H4 x' (rm k c0.ord ++ [(k : Int)]) := by
        have R' := R
        rw [show (rm k c0.ord).map irow ++ [irow (k : Int)] = (rm k c0.ord ++ [(k : Int)]).map irow from by simp] at R'
        exact R'.kept
      have kz : Kept H4 v91 (rm k c0.rep) := (K3.app _).stay st4 (fun id g o l c hx => ap1 _ _ _ _ _ hx)
      have e4 : Ext H H4 := ⟨by have := eM.len; simp at hl4; omega, fun j hj => by rw [(st4 j (by have := eM.len; simp; omega) (X1.offLow (by simp; omega))).1, List.getElem?_append_left (by have := eM.len; omega)]; exact eM.get j hj⟩
      exact turn18_end G h H4 K p bid gb k n O _ W V1 V2 rows s c0 x n 2 _ _ _ _ (Ext.tr hH e4) (ha.ext e4) own ok hx hc (.inl rfl) kx kz fun h' hp => hk _ _ _ (by simp [kk, al, Adm.to, Chn.turn]) hp
    · have al : s.alone k = false := by
        rw [al]
        refine decide_eq_false fun e => hmem ?_
        rw [e]; simp
      simp (disch := omega) only [go_sem, Nat.one_ne_zero, two0, if_false, fi0, hmem, decide_false]
      refine X3.pushAt (h' := M ++ [some (.cells 3 1 [[.v (.int .i64 k)]] 0)]) [some (.cells 3 1 [[.v (.int .i64 k)]] 0)] rfl (row := irow k) (e' := 3) (i := M.length) (g := 0) (by simp) Tryz.und31 Tryz.azero3 Tryz.byt3 (by exact Tryz.plainSrc31) rfl (by rw [List.length_map]; omega) (by rw [List.length_map]; omega) fun x' H4 R hl4 st4 => ?_
      have kx : Kept H4 x' (rm k c0.rep ++ [(k : Int)]) := by
        have R' := R
        rw [show (rm k c0.rep).map irow ++ [irow (k : Int)] = (rm k c0.rep ++ [(k : Int)]).map irow from by simp] at R'
        exact R'.kept
      have kz : Kept H4 v89 (rm k c0.ord) := (K1.app _).stay st4 (fun id g o l c hx => ap2 _ _ _ _ _ hx)
      have e4 : Ext H H4 := ⟨by have := eM.len; simp at hl4; omega, fun j hj => by rw [(st4 j (by have := eM.len; simp; omega) (X3.offLow (by simp; omega))).1, List.getElem?_append_left (by have := eM.len; omega)]; exact eM.get j hj⟩
      exact turn18_end G h H4 K p bid gb k n O _ W V1 V2 rows s c0 x n 1 _ _ _ _ (Ext.tr hH e4) (ha.ext e4) own ok hx hc (.inl rfl) kz kx fun h' hp => hk _ _ _ (by simp [kk, al, Adm.to, Chn.turn]) hp
  · have e2 : c.epoch = c0.ep := by rcases Classical.em (c.epoch = c0.ep) with h | h; · exact h
                                    · exact absurd ⟨kk, h⟩ e6
    simp (disch := omega) only [go_sem, Nat.one_ne_zero, two0, if_false, fi0, kk, e2]
    refine ⟨refWithout_call G o0 c0.ord k _ _ (k1.app _).ints (by omega) fun v89 H2 A1 => ?_⟩
    rw [ne_rm] at A1
    obtain ⟨t1, rfl⟩ := A1.tail
    simp (disch := omega) only [go_sem, Nat.one_ne_zero, two0, if_false, fi0, A1.one, k2.one, k2.cells]
    refine ⟨refWithout_call G r0 c0.rep k _ _ (k2.app _).ints (by omega) fun v91 H3 A3 => ?_⟩
    rw [ne_rm] at A3
    obtain ⟨t3, rfl⟩ := A3.tail
    have X1 := A1.toX
    have X3 := A3.toX
    simp only [List.append_assoc, List.cons_append, List.nil_append] at X1 X3 ⊢
    obtain ⟨ap1, ap2⟩ := AccX.apart X1 X3
    have K1 := X1.kept.app t3
    have K3 := X3.kept
    simp only [List.append_assoc, List.cons_append, List.nil_append] at K1
    generalize hM : H ++ some (AO.cells 121 3 [crow c0 o0 r0] 0) :: (t1 ++ t3) = M at *
    have eM : Ext H M := by rw [← hM]; exact Ext.app _
    have A := ha.ext eM
    have Mi0 : ∀ t, (M ++ t)[i0]? = some (some (.cells 33 6 [c.cells la] 0)) := fun t => by rw [← hM, List.append_assoc]; exact fi0 _
    have Mi00 : M[i0]? = some (some (.cells 33 6 [c.cells la] 0)) := by have := Mi0 []; rwa [List.append_nil] at this
    have eHM := Ext.tr hH eM
    simp (disch := omega) only [go_sem, Nat.one_ne_zero, two0, if_false, fi0, Mi00, kk]
    refine X1.pushAt (h' := M ++ [some (.cells 3 1 [[.v (.int .i64 k)]] 0)]) (t3 ++ [some (.cells 3 1 [[.v (.int .i64 k)]] 0)]) (by rw [← hM]; simp) (row := irow k) (e' := 3) (i := M.length) (g := 0) (by simp) Tryz.und31 Tryz.azero3 Tryz.byt3 (by exact Tryz.plainSrc31) rfl (by rw [List.length_map]; omega) (by rw [List.length_map]; omega) fun x' H4 R hl4 st4 => ?_
    have kx : Kept H4 x' (rm k c0.ord ++ [(k : Int)]) := by
      have R' := R
      rw [show (rm k c0.ord).map irow ++ [irow (k : Int)] = (rm k c0.ord ++ [(k : Int)]).map irow from by simp] at R'
      exact R'.kept
    have kz : Kept H4 v91 (rm k c0.rep) := (K3.app _).stay st4 (fun id g o l c hx => ap1 _ _ _ _ _ hx)
    have e4 : Ext H H4 := ⟨by have := eM.len; simp at hl4; omega, fun j hj => by rw [(st4 j (by have := eM.len; simp; omega) (X1.offLow (by simp; omega))).1, List.getElem?_append_left (by have := eM.len; omega)]; exact eM.get j hj⟩
    exact turn18_end G h H4 K p bid gb k n O _ W V1 V2 rows s c0 x n 2 _ _ _ _ (Ext.tr hH e4) (ha.ext e4) own ok hx hc (.inl rfl) kx kz fun h' hp => hk _ _ _ (by simp [kk, Adm.to, Chn.turn]) hp
theorem brick18_call (G : Nat → Option AV) (h : AH) (K : AV → AH → Prop) (p : Nat) (O : Nat → Prop) (s : Adm) (c : CmdA) (la : AV) (a : RefOf h p O s) (ok : s.Ok) (hkd : 2 ≤ c.kind ∧ c.kind ≤ 6) (l1 : la.one = true) (l2 : la.cells = [la])
    (hk : ∀ e s' h', s.onBrick c = (e, s') → RPost h p O s' h' → K (.v (.int .i64 e)) h') : SCall Tryz.prog G 51 [.ptr p 0 0 0, .agg (c.cells la)] h K := by
  refine Tryz.c51 G _ _ h K fun hlow => ?_
  unfold Tryz.r51
  have aO := a
  obtain ⟨bid, gb, C, rows, W, V1, V2, ha, hown⟩ := a
  obtain ⟨f1, f2, f3⟩ := ha.at
  unfold Adm.onBrick at hk
  by_cases hr : c.brick < 0 ∨ c.brick ≥ s.bricks.length ∨ c.chain < 0 ∨ (c.kind = 2 ∧ c.chain ≥ s.chains.length)
  · rw [if_pos hr] at hk
    by_cases r1 : c.brick < 0
    · simp (disch := omega) only [go_sem, Nat.one_ne_zero, two0, if_false, l1, l2, f1, f2, f3, r1]
      exact ret_keep (hk _ _ _ rfl (RPost.same aO _))
    by_cases r2 : c.brick ≥ s.bricks.length
    · simp (disch := omega) only [go_sem, Nat.one_ne_zero, two0, if_false, l1, l2, f1, f2, f3, r1, r2]
      exact ret_keep (hk _ _ _ rfl (RPost.same aO _))
    by_cases r3 : c.chain < 0
    · simp (disch := omega) only [go_sem, Nat.one_ne_zero, two0, if_false, l1, l2, f1, f2, f3, r1, r2, r3]
      exact ret_keep (hk _ _ _ rfl (RPost.same aO _))
    obtain ⟨r4, r5⟩ : c.kind = 2 ∧ c.chain ≥ s.chains.length := by omega
    simp (disch := omega) only [go_sem, Nat.one_ne_zero, two0, if_false, l1, l2, f1, f2, f3, r1, r2, r3, r4, r5]
    exact ret_keep (hk _ _ _ rfl (RPost.same aO _))
  · rw [if_neg hr] at hk
    obtain ⟨k, hkk⟩ : ∃ k : Nat, c.brick = k := ⟨c.brick.toNat, by omega⟩
    have hkl : k < s.bricks.length := by omega
    obtain ⟨x, hx⟩ : ∃ x, s.bricks[k]? = some x := ⟨s.bricks[k], List.getElem?_eq_getElem hkl⟩
    have main : callR Tryz.prog G 104 [.ptr p 0 0 0, .v (.int .i64 c.kind), .v (.int .i64 k)] (h ++ [some (.cells 33 6 [c.cells la] 0)]) (fun v54 h55 =>
  okBool (some v54) fun b56 =>
  condB (!b56)
  (RetR h K (.v (.int .i64 180)) h55)
  (okV (aNil (.ptr p 0 0 0)) fun v57 =>
  okV (aFA Tryz.prog 108 0 v57) fun v58 =>
  okV (aLoad Tryz.prog h55 106 v58) fun v59 =>
  okV (aIA Tryz.prog h55 106 v59 (.v (.int .i64 k))) fun v60 =>
  okV (aFA Tryz.prog 110 1 v60) fun v61 =>
  okInt .i64 (aLoad Tryz.prog h55 3 v61) fun n62 =>
  okInt .i64 (aLoad Tryz.prog h55 3 (.ptr h.length 0 0 0)) fun n141 =>
  condB (n141 == 2)
  (okInt .i64 (aLoad Tryz.prog h55 3 (.ptr h.length 0 0 1)) fun n142 =>
  Tryz.r51_j65 G K h (.ptr p 0 0 0) h.length k n142 h55)
  (Tryz.r51_j65 G K h (.ptr p 0 0 0) h.length k n62 h55))) := by
      refine ⟨may18_call G p O s k x c.kind _ _ (aO.ext (Ext.app _)) ok hx ?_⟩
      rw [hkk] at hk
      cases hm : s.may c.kind k with
      | false =>
        rw [if_pos hm] at hk
        simp (disch := omega) only [go_sem, Nat.one_ne_zero, two0, if_false]
        exact ret_keep (hk _ _ _ rfl (RPost.same aO _))
      | true =>
        rw [if_neg (by simp [hm])] at hk
        have hbr : (s.bricks.map bkrow)[k]? = some (bkrow x) := by rw [List.getElem?_map, hx]; rfl
        rw [bk_eq hx] at hk
        obtain ⟨b1, b2, b3⟩ := ok.bk k x hx
        have tc := fun n c0 hc hxn => turn18 G h (h ++ [some (.cells 33 6 [c.cells la] 0)]) K p h.length k n O s c la c0 x aO ok (Ext.app _) (by simp) hx hc hkd hm hxn
        by_cases k2 : c.kind = 2
        · obtain ⟨n, hn⟩ : ∃ n : Nat, c.chain = n := ⟨c.chain.toNat, by omega⟩
          have hnl : n < s.chains.length := by omega
          have tc := tc n _ (List.getElem?_eq_getElem hnl) (fun h => absurd k2 h)
          rw [if_pos k2, hn] at hk
          simp (disch := omega) only [go_sem, Nat.one_ne_zero, two0, if_false, f1, f2, hbr, k2, hn, List.length_map]
          exact tc hk
        · have hx0 : x.1 ≠ 0 := (may_facts hx hkd hm).2.1 k2
          obtain ⟨n, hn, hnl⟩ := b3 hx0
          have tc := tc n _ (List.getElem?_eq_getElem hnl) (fun _ => hn)
          rw [if_neg k2, hn] at hk
          simp (disch := omega) only [go_sem, Nat.one_ne_zero, two0, if_false, f1, f2, hbr, k2, hn, List.length_map]
          exact tc hk
    by_cases k2 : c.kind = 2
    · have r5 : ¬ (c.chain ≥ s.chains.length) := fun h5 => hr (.inr (.inr (.inr ⟨k2, h5⟩)))
      have r3 : ¬ (c.chain < 0) := fun h5 => hr (.inr (.inr (.inl h5)))
      simp (disch := omega) only [go_sem, Nat.one_ne_zero, two0, if_false, l1, l2, f1, f2, f3, hkk, k2, r3, r5, List.length_map]
      rw [k2] at main
      exact main
    · have r3 : ¬ (c.chain < 0) := fun h5 => hr (.inr (.inr (.inl h5)))
      simp (disch := omega) only [go_sem, Nat.one_ne_zero, two0, if_false, l1, l2, f1, f2, f3, hkk, k2, r3, List.length_map]
      exact main
end Go.Proofs

/-
  The reference's admin: a chain is made.
-/
namespace Go.Proofs
open Go Go.Abs
set_option maxRecDepth 100000
set_option linter.unusedSimpArgs false
theorem _root_.Go.Abs.Mine.kept {h : AH} {x : AV} {xs : List Int} (m : Mine 3 1 h x (xs.map irow)) : Kept h x xs := by
  generalize hr : xs.map irow = rows at m
  cases m with
  | nil => exact .inl ⟨rfl, by simpa using hr⟩
  | @obj id g rows hrl ho =>
    subst hr
    exact .inr ⟨id, g, xs.map irow, by rw [List.length_map], ho, by simp, by rw [List.take_of_length_le (by simp)]⟩
theorem Ints.noStr {h : AH} {a : AV} {xs : List Int} (k : Ints h a xs) : ¬ ∃ s, a = .v (.string s) := by
  rintro ⟨s, rfl⟩
  rcases k.2 with ⟨h1, _⟩ | ⟨_, _, h1⟩ | ⟨_, _, _, _, _, _, h1, _⟩ <;> cases h1
/-- The reference's own object is written. -/
theorem refObj {h : AH} {p bid gb : Nat} {rs : List (List AV)} {C W V1 V2 : AV} {rows : List (List AV)} {s : Adm} (ho : h[p]? = some (some (.cells 108 11 rs 0))) (hb : h[bid]? = some (some (.cells 110 2 (s.bricks.map bkrow) gb))) (hs : ChSl h C rows) (hr : ChRows h rows s.chains) (hw : Kept h W s.lay.wts) (h1 : Kept h V1 s.ch.was.wts) (h2 : Kept h V2 s.ch.will.wts) :
    RefAt (h.set p (some (.cells 108 11 [rfrow s (.sl bid gb 0 s.bricks.length none) C W V1 V2] 0))) p bid gb C rows W V1 V2 s := by
  have kp : Kp h (h.set p (some (.cells 108 11 [rfrow s (.sl bid gb 0 s.bricks.length none) C W V1 V2] 0))) := Kp.set ho (by decide)
  refine ⟨?_, ?_, ?_, hr.keep kp, hw.keep kp, h1.keep kp, h2.keep kp⟩
  · rw [List.getElem?_set_self (List.getElem?_eq_some_iff.mp ho).1]
  · rw [List.getElem?_set_ne (apart ho hb (by decide))]; exact hb
  · rcases hs with h1 | ⟨id, g, h1, h2⟩
    · exact .inl h1
    · exact .inr ⟨id, g, h1, by rw [List.getElem?_set_ne (apart ho h2 (by decide))]; exact h2⟩
/-- Bricks are written. -/
theorem RefAt.setB {h : AH} {p bid gb : Nat} {C W V1 V2 : AV} {rows : List (List AV)} {s : Adm} (a : RefAt h p bid gb C rows W V1 V2 s) (bl : List (Int × Int)) (hl : bl.length = s.bricks.length) :
    RefAt (h.set bid (some (.cells 110 2 (bl.map bkrow) gb))) p bid gb C rows W V1 V2 { s with bricks := bl } := by
  have kp : Kp h (h.set bid (some (.cells 110 2 (bl.map bkrow) gb))) := Kp.set a.bri (by decide)
  refine ⟨?_, ?_, ?_, a.ch.keep kp, a.wts.keep kp, a.c1.keep kp, a.c2.keep kp⟩
  · rw [List.getElem?_set_ne (apart a.bri a.obj (by decide)), a.obj]; simp [hl, Adm.ch]
  · rw [List.getElem?_set_self (List.getElem?_eq_some_iff.mp a.bri).1]
  · rcases a.sl with h1 | ⟨id, g, h1, h2⟩
    · exact .inl h1
    · exact .inr ⟨id, g, h1, by rw [List.getElem?_set_ne (apart a.bri h2 (by decide))]; exact h2⟩
theorem copy_app {la : AV} {l : List Int} {H : AH} {K : AV → AH → Prop} (l0 : Ints H la l) (hll : l.length ≤ 17592186044415)
    (hk : ∀ v t, Kept (H ++ t) v l → (∀ id g o l c, v = .sl id g o l c → H.length ≤ id) → Mine 3 1 (H ++ t) v (l.map irow) → K v (H ++ t)) :
    appR Tryz.prog (H ++ [some (AO.cells 3 1 [] 0)]) 31 31 (.sl H.length 0 0 0 none) la K := by
  refine (Mine.obj (rows := []) (id := H.length) (g := 0) (by simp) (by simp : (H ++ [some (AO.cells 3 1 [] 0)])[H.length]? = _) : Mine 3 1 (H ++ [some (AO.cells 3 1 [] 0)]) (.sl H.length 0 0 0 none) []).append (new := l.map irow) Tryz.und31 Tryz.azero3 Tryz.byt3 (by exact Tryz.plainSrc31) (l0.app _).src (by simp) (fun hs => absurd hs (Ints.noStr l0)) (by simp; omega) (by simp; omega) fun v2 H1 m1 hle1 st1 => ?_
  simp only [List.length_append, List.length_cons, List.length_nil, List.nil_append] at hle1 m1
  have b1 : ∀ j, j < H.length → H1[j]? = H[j]? ∧ Off v2 j := fun j hj => by
    obtain ⟨e1, e2⟩ := st1 j (by simp; omega) (fun id g o l c hx hid => by simp only [AV.sl.injEq] at hx; omega)
    rw [e1, List.getElem?_append_left hj]
    exact ⟨rfl, e2⟩
  obtain ⟨t, rfl⟩ := ext_of (by omega) fun j hj => (b1 j hj).1
  refine hk v2 t m1.kept ?_ m1
  intro id g o l' c hx
  rcases Nat.lt_or_ge id H.length with hlt | hge
  · exact absurd rfl ((b1 id hlt).2 id g o l' c hx)
  · exact hge
end Go.Proofs

/-
  The reference's admin: a chain is made, the end and the whole.
-/
namespace Go.Proofs
open Go Go.Abs
set_option maxRecDepth 100000
set_option linter.unusedSimpArgs false
theorem make18_tail (h h2 : AH) (K : AV → AH → Prop) (p bid gb : Nat) (O : Nat → Prop) (C W V1 V2 : AV) (rows : List (List AV)) (s : Adm) (l : List Int) (la : AV) (A : RefAt h2 p bid gb C rows W V1 V2 s) (hlen : h.length ≤ h2.length) (hfr : ∀ j, j < h.length → ¬ O j → h2[j]? = h[j]?) (own : ∀ i, Own p bid C i → O i)
    (l0 : Ints h2 la l) (l1 : la.one = true) (hll : l.length ≤ 8) (hc8 : s.chains.length < 8) (hs : s.chg = none) (hw : s.lay.wts.length = s.chains.length) (hv : 0 ≤ s.lay.ver ∧ s.lay.ver ≤ 1073741824)
    (hk : ∀ h', RPost h p O ⟨s.bricks, s.chains ++ [⟨1, l, []⟩], ⟨s.lay.ver + 1, s.lay.wts ++ [16]⟩, none⟩ h' → K (.v (.int .i64 0)) h') (I : Nat → List AV → AH → Prop) (m : Nat) : 
  (okV (aNil (.ptr p 0 0 0)) fun v116 =>
  okV (aFA Tryz.prog 108 1 v116) fun v117 =>
  okV (aLoad Tryz.prog h2 102 v117) fun v118 =>
  newO (.cells 3 1 [] 0) h2 fun i119 h120 =>
  (aLoad Tryz.prog h120 102 v117 = some v118) ∧ appR Tryz.prog h120 31 31 (.sl i119 0 0 0 none) la (fun v121 h122 =>
  (aLoad Tryz.prog h122 102 v117 = some v118) ∧ okV (aBuild Tryz.prog 121 [(0, some (.v (.int .i64 1))), (1, some v121)]) fun v123 =>
  okP (rowsFill 3 (List.replicate 1 [(.v (.int .i64 0)), (.v (.slice none 0 0)), (.v (.slice none 0 0))]) [(0, some v123)]) fun r124 => newO (.cells 121 3 r124 0) h122 fun i125 h126 =>
  (aLoad Tryz.prog h126 102 v117 = some v118) ∧ appR Tryz.prog h126 102 102 v118 (.sl i125 0 0 1 none) (fun v127 h128 =>
  okV (aNil (.ptr p 0 0 0)) fun v129 =>
  okV (aFA Tryz.prog 108 1 v129) fun v130 =>
  storeR Tryz.prog h128 (fun v131 h132 =>
  okV (aNil (.ptr p 0 0 0)) fun v133 =>
  okV (aFA Tryz.prog 108 2 v133) fun v134 =>
  okV (aFA Tryz.prog 43 0 v134) fun v135 =>
  okInt .i64 (aLoad Tryz.prog h132 3 v135) fun n136 =>
  okV (aNil (.ptr p 0 0 0)) fun v137 =>
  okV (aFA Tryz.prog 108 2 v137) fun v138 =>
  okV (aFA Tryz.prog 43 1 v138) fun v139 =>
  okV (aLoad Tryz.prog h132 31 v139) fun v140 =>
  newO (.cells 3 1 [] 0) h132 fun i141 h142 =>
  (aLoad Tryz.prog h142 31 v139 = some v140) ∧ (aLoad Tryz.prog h142 3 v135 = some (.v (.int .i64 n136))) ∧ appR Tryz.prog h142 31 31 (.sl i141 0 0 0 none) v140 (fun v143 h144 =>
  (aLoad Tryz.prog h144 3 v135 = some (.v (.int .i64 n136))) ∧ newO (.cells 3 1 [[(.v (.int .i64 16))]] 0) h144 fun i145 h146 =>
  (aLoad Tryz.prog h146 31 v139 = some v140) ∧ (aLoad Tryz.prog h146 3 v135 = some (.v (.int .i64 n136))) ∧ appR Tryz.prog h146 31 31 v143 (.sl i145 0 0 1 none) (fun v147 h148 =>
  (aLoad Tryz.prog h148 3 v135 = some (.v (.int .i64 n136))) ∧ okV (aBuild Tryz.prog 43 [(0, some (.v (.int .i64 (IntKind.wrap .i64 (n136 + 1))))), (1, some v147)]) fun v149 =>
  okV (aNil (.ptr p 0 0 0)) fun v150 =>
  okV (aFA Tryz.prog 108 2 v150) fun v151 =>
  storeR Tryz.prog h148 (fun v152 h153 =>
  RetR h K (.v (.int .i64 0)) h153) 43 v149 v151))) 102 v127 v130))) := by
  obtain ⟨F1, F2, F3⟩ := A.at
  obtain ⟨G1, G2, G3⟩ := A.at0
  have c1 := A.c1
  have c2 := A.c2
  simp only [rfrow, Adm.ch, hs, Option.getD_none, Option.isSome_none] at F1 G1 c1 c2
  have wo := A.wts.one
  have wc := A.wts.cells
  simp (disch := omega) only [go_sem, Nat.one_ne_zero, two0, if_false, F1, G1, l1]
  refine copy_app (l := l) l0 (by omega) fun v t kv vlo mv => ?_
  have b1 := build37b (a := .v (.int .i64 1)) rfl rfl mv.one mv.cells
  simp (disch := omega) only [go_sem, Nat.one_ne_zero, two0, if_false, F1, b1, mv.one, mv.cells]
  have AX := A.app (t ++ [some (.cells 121 3 [[.v (.int .i64 1), v, .v (.slice none 0 0)]] 0)])
  have kvX := kv.app [some (.cells 121 3 [[.v (.int .i64 1), v, .v (.slice none 0 0)]] 0)]
  refine chain_app (row := [.v (.int .i64 1), v, .v (.slice none 0 0)]) AX.sl (by rw [A.ch.1]; omega) (by rw [Go.Abs.get_add]; simp) rfl (AX.sl.sees AX.ch).1 ?_
  intro C' H3 hl3 hf3 kp3 sl3 d1 d2 own3
  rw [List.append_assoc] at kvX
  generalize hHX : h2 ++ (t ++ [some (AO.cells 121 3 [[AV.v (.int .i64 1), v, AV.v (.slice none 0 0)]] 0)]) = HX at *
  have eX : Ext h2 HX := by rw [← hHX]; exact Ext.app _
  have offC : ∀ {j : Nat} {e : TypeId} {n g : Nat} {r : List (List AV)}, HX[j]? = some (some (.cells e n r g)) → e ≠ 121 → Off C j := by
    intro j e n g r hj he id g' o l c' hx
    rcases AX.sl with ⟨h1, _⟩ | ⟨cid, g2, h1, h3⟩
    · rw [h1] at hx; cases hx
    · rw [h1] at hx
      cases hx
      exact (apart hj h3 he).symm
  have lt : ∀ {j : Nat} {o : Option AO}, HX[j]? = some o → j < HX.length := fun hj => (List.getElem?_eq_some_iff.mp hj).1
  have gp : H3[p]? = some (some (AO.cells 108 11 [rfrow s (.sl bid gb 0 s.bricks.length none) C W V1 V2] 0)) := (hf3 _ (lt AX.obj) (offC AX.obj (by decide))).trans AX.obj
  have gb' := (hf3 _ (lt AX.bri) (offC AX.bri (by decide))).trans AX.bri
  simp only [rfrow, Adm.ch, hs, Option.getD_none, Option.isSome_none] at gp
  have gpl := (List.getElem?_eq_some_iff.mp gp).1
  have s1 : ∀ o, (H3.set p o)[p]? = some o := fun o => List.getElem?_set_self gpl
  have s1t : ∀ o (t : AH), (H3.set p o ++ t)[p]? = some o := fun o t => by rw [List.getElem?_append_left (by simpa using gpl)]; exact s1 o
  have s2 : ∀ (o o' : Option AO) (l : AH), (l.set p o).set p o' = l.set p o' := fun o o' l => List.set_set ..
  simp (disch := omega) only [go_sem, Nat.one_ne_zero, two0, if_false, gp, d1, d2, s1, s1t, wo, wc]
  have kp4 : Kp H3 (H3.set p (some (.cells 108 11 [[.sl bid gb 0 s.bricks.length none, C', .v (.int .i64 s.lay.ver), W, .v (.bool false), .v (.int .i64 zeroChg.was.ver), V1, .v (.int .i64 zeroChg.will.ver), V2, .v (.string (bs zeroChg.cur)), .v (.bool zeroChg.fin)]] 0))) := Kp.set gp (by decide)
  have wk : Kept (H3.set p (some (.cells 108 11 [[.sl bid gb 0 s.bricks.length none, C', .v (.int .i64 s.lay.ver), W, .v (.bool false), .v (.int .i64 zeroChg.was.ver), V1, .v (.int .i64 zeroChg.will.ver), V2, .v (.string (bs zeroChg.cur)), .v (.bool zeroChg.fin)]] 0))) W s.lay.wts := (AX.wts.keep kp3).keep kp4
  refine copy_app (l := s.lay.wts) wk.ints (by omega) fun v2 t2 kv2 vlo2 mv2 => ?_
  simp (disch := omega) only [go_sem, Nat.one_ne_zero, two0, if_false, s1t, wo, wc]
  have mv3 := mv2.more [some (AO.cells 3 1 [irow 16] 0)]
  rw [List.append_assoc] at mv3
  refine mv3.pushAt (g := 0) (row := irow 16) (e' := 3) (by rw [Go.Abs.get_add]; simp) Tryz.und31 Tryz.azero3 Tryz.byt3 (by exact Tryz.plainSrc31) rfl (by rw [List.length_map]; omega) (by rw [List.length_map]; omega) fun w H6 m6 hl6 st6 => ?_
  have m6' : Mine 3 1 H6 w ((s.lay.wts ++ [16]).map irow) := by rw [List.map_append]; exact m6
  generalize hB : H3.set p (some (AO.cells 108 11 [[AV.sl bid gb 0 s.bricks.length none, C', AV.v (.int .i64 s.lay.ver), W, AV.v (.bool false), AV.v (.int .i64 zeroChg.was.ver), V1, AV.v (.int .i64 zeroChg.will.ver), V2, AV.v (.string (bs zeroChg.cur)), AV.v (.bool zeroChg.fin)]] 0)) = HB at *
  have hBl : HB.length = H3.length := by rw [← hB]; simp
  have e6 : Ext HB H6 := ⟨by simp at hl6; omega, fun j hj => by
    rw [(st6 j (by simp; omega) (fun id g o l c hx => by have := vlo2 _ _ _ _ _ hx; omega)).1, List.getElem?_append_left hj]⟩
  have g0 := s1 (some (AO.cells 108 11 [[AV.sl bid gb 0 s.bricks.length none, C', AV.v (.int .i64 s.lay.ver), W, AV.v (.bool false), AV.v (.int .i64 zeroChg.was.ver), V1, AV.v (.int .i64 zeroChg.will.ver), V2, AV.v (.string (bs zeroChg.cur)), AV.v (.bool zeroChg.fin)]] 0))
  rw [hB] at g0
  have g6 := e6.some g0
  have b6 : HB[bid]? = some (some (.cells 110 2 (s.bricks.map bkrow) gb)) := by rw [← hB, List.getElem?_set_ne (apart gp gb' (by decide))]; exact gb'
  have b7 := build77 (a := .v (.int .i64 (s.lay.ver + 1))) rfl rfl m6.one m6.cells
  simp (disch := omega) only [go_sem, Nat.one_ne_zero, two0, if_false, g6, b7, m6.one, m6.cells]
  have sl6 : ChSl H6 C' (rows ++ [[.v (.int .i64 1), v, .v (.slice none 0 0)]]) := by
    rcases sl3 with ⟨q1, q2⟩ | ⟨id, g, q1, q2⟩
    · exact .inl ⟨q1, q2⟩
    · refine .inr ⟨id, g, q1, e6.some ?_⟩
      rw [← hB, List.getElem?_set_ne (apart gp q2 (by decide))]; exact q2
  have kpT : Kp HX H6 := (kp3.trans kp4).trans e6.kp
  have ch6 : ChRows H6 (rows ++ [[.v (.int .i64 1), v, .v (.slice none 0 0)]]) (s.chains ++ [⟨1, l, []⟩]) := (AX.ch.keep kpT).snoc (y := ⟨1, l, []⟩) (kvX.keep kpT) (.inl ⟨rfl, rfl⟩)
  have R := refObj (s := ⟨s.bricks, s.chains ++ [⟨1, l, []⟩], ⟨s.lay.ver + 1, s.lay.wts ++ [16]⟩, none⟩) g6 (e6.some b6) sl6 ch6 m6'.kept (V1 := V1) (V2 := V2) ((AX.c1.keep kpT : Kept H6 V1 s.ch.was.wts) |> fun k => by simpa only [Adm.ch, hs, Option.getD_none] using k) ((AX.c2.keep kpT : Kept H6 V2 s.ch.will.wts) |> fun k => by simpa only [Adm.ch, hs, Option.getD_none] using k)
  simp only [rfrow, Adm.ch, Option.getD_none, Option.isSome_none] at R
  have lenX := eX.len
  have len6 := e6.len
  refine ret_keep (hk _ ⟨?_, ?_, bid, gb, C', _, w, V1, V2, R, ?_⟩)
  · simp; omega
  · intro i hi hO
    have i1 : i ≠ p := by rintro rfl; exact hO (own _ (.inl rfl))
    have i2 : Off C i := fun id g o l c hx => by rintro rfl; exact hO (own _ (.inr (.inr ⟨_, _, _, _, hx⟩)))
    rw [List.getElem?_set_ne i1.symm, e6.get i (by omega), ← hB, List.getElem?_set_ne i1.symm, hf3 i (by omega) i2, eX.get i (by omega)]
    exact hfr i hi hO
  · intro i hi
    rcases hi with h1 | h1 | ⟨g, o, l', c', h1⟩
    · exact .inl (own _ (.inl h1))
    · exact .inl (own _ (.inr (.inl h1)))
    · rcases own3 _ _ _ _ _ h1 with ⟨g2, o2, l2, c2, hq⟩ | hq
      · exact .inl (own _ (.inr (.inr ⟨_, _, _, _, hq⟩)))
      · right; omega
end Go.Proofs

/-
  The reference's admin: a change; New, Do, Owner.
-/
namespace Go.Proofs
open Go Go.Abs
set_option maxRecDepth 100000
set_option linter.unusedSimpArgs false
theorem copy_app2 {la : AV} {l : List Int} {H H' : AH} {i : Nat} {K : AV → AH → Prop} (hH : H' = H ++ [some (AO.cells 3 1 [] 0)]) (hi : i = H.length) (l0 : Ints H la l) (hll : l.length ≤ 17592186044415)
    (hk : ∀ v t, Kept (H ++ t) v l → (∀ id g o l c, v = .sl id g o l c → H.length ≤ id) → Mine 3 1 (H ++ t) v (l.map irow) → K v (H ++ t)) :
    appR Tryz.prog H' 31 31 (.sl i 0 0 0 none) la K := by
  subst hH hi
  exact copy_app l0 hll hk
theorem build68 {a b c d : AV} :
    aBuild Tryz.prog 68 [(0, some (.agg [a, b])), (1, some (.agg [c, d]))] = some (.agg [a, b, c, d, .v (.string (ByteArray.mk #[])), .v (.bool false)]) := by
  unfold aBuild
  have hz : zer Tryz.prog 68 = some (.agg [.v (.int .i64 0), .v (.slice none 0 0), .v (.int .i64 0), .v (.slice none 0 0), .v (.string (ByteArray.mk #[])), .v (.bool false)]) := by kernel_rfl
  rw [hz, Tryz.und68]
  simp [aFill, placeOf, setAt, chk, AV.one, AV.cells, Tryz.siz43, Tryz.siz4, Tryz.siz9]
/-- Of a heap that grew and whose admin is written in its own object. -/
theorem RPost.setP {h H : AH} {p bid gb : Nat} {O : Nat → Prop} {C W V1 V2 : AV} {s' : Adm} {o : Option AO} {rows : List (List AV)} (e : Ext h H) (own : ∀ i, Own p bid C i → O i)
    (a : RefAt (H.set p o) p bid gb C rows W V1 V2 s') : RPost h p O s' (H.set p o) := by
  refine ⟨by have := e.len; simpa using this, fun i hi hO => ?_, bid, gb, C, rows, W, V1, V2, a, fun i hi => .inl (own i hi)⟩
  rw [List.getElem?_set_ne (by rintro rfl; exact hO (own _ (.inl rfl)))]
  exact e.get i hi
theorem change18_call (G : Nat → Option AV) (h : AH) (K : AV → AH → Prop) (p : Nat) (O : Nat → Prop) (s : Adm) (c : CmdA) (la : AV) (a : RefOf h p O s) (ok : s.Ok) (hkd : 7 ≤ c.kind ∧ c.kind ≤ 9) (l0 : Ints h la c.list) (l1 : la.one = true) (l2 : la.cells = [la]) (hll : c.list.length ≤ 17592186044415) (hcl : c.cur.length ≤ 4611686018427387904)
    (hk : ∀ e s' h', (if c.kind = 7 then s.begin c else if c.kind = 8 then s.moved c else s.done) = (e, s') → RPost h p O s' h' → K (.v (.int .i64 e)) h') : SCall Tryz.prog G 50 [.ptr p 0 0 0, .agg (c.cells la)] h K := by
  refine Tryz.c50 G _ _ h K fun hlow => ?_
  unfold Tryz.r50
  have aO := a
  obtain ⟨bid, gb, C, rows, W, V1, V2, ha, own⟩ := a
  obtain ⟨f1, f2, f3⟩ := ha.at
  have w := ha.wts
  have k1 := ha.c1
  have k2 := ha.c2
  have hpl : p < h.length := (List.getElem?_eq_some_iff.mp ha.obj).1
  have hvr := ok.ver
  have hnc := ok.nc
  have hwl := ok.wts
  have s2 : ∀ (o o' : Option AO) (l : AH), (l.set p o).set p o' = l.set p o' := fun o o' l => List.set_set ..
  have s1 : ∀ (t : AH) (o : Option AO), ((h ++ t).set p o)[p]? = some o := fun t o => List.getElem?_set_self (by simp; omega)
  have s3 : ∀ (t : AH) (o : Option AO) (j : Nat), ((h ++ t).set p o)[h.length + j]? = (h ++ t)[h.length + j]? := fun t o j => List.getElem?_set_ne (by omega)
  have hkk : c.kind = 7 ∨ c.kind = 8 ∨ c.kind = 9 := by omega
  rcases hkk with kk | kk | kk
  · rw [if_pos kk] at hk
    unfold Adm.begin at hk
    cases hs : s.chg with
    | some g =>
      have hch : s.ch = g := by simp [Adm.ch, hs]
      rw [hs] at hk
      simp only [rfrow, hs, hch, Option.isSome_some] at f1
      simp (disch := omega) only [go_sem, Nat.one_ne_zero, two0, if_false, f1, l1, l2, kk]
      exact ret_keep (hk _ _ _ rfl (RPost.same aO _))
    | none =>
    have hch : s.ch = zeroChg := by simp [Adm.ch, hs]
    rw [hs] at hk
    simp only at hk
    simp only [rfrow, hs, hch, Option.isSome_none] at f1
    simp (disch := omega) only [go_sem, Nat.one_ne_zero, two0, if_false, f1, l1, l2, kk, w.one, w.cells]
    refine copy_app2 (H := h ++ [some (AO.cells 33 6 [c.cells la] 0)]) (l := c.list) (by simp) (by simp) (l0.app _) hll fun v t kv vlo mv => ?_
    simp only [List.append_assoc, List.cons_append, List.nil_append] at kv ⊢
    have b1 := build77 (a := .v (.int .i64 (s.lay.ver + 1))) rfl rfl mv.one mv.cells
    have b2 := build68 (a := .v (.int .i64 s.lay.ver)) (b := W) (c := .v (.int .i64 (s.lay.ver + 1))) (d := v)
    have hlen : ∀ t, aLen Tryz.prog (h ++ t) 31 la = some (.v (.int .i64 c.list.length)) := fun t => by
      have := (l0.app t).len (P := Tryz.prog) (t := 31) Tryz.und31
      rw [List.length_map] at this
      exact this
    simp (disch := omega) only [go_sem, Nat.one_ne_zero, two0, if_false, f1, b1, b2, w.one, w.cells, mv.one, mv.cells]
    by_cases hbig : s.lay.ver ≥ 1073741824
    · rw [if_pos hbig] at hk
      simp (disch := omega) only [go_sem, Nat.one_ne_zero, two0, if_false, f1, hbig]
      exact ret_keep (hk _ _ _ rfl (RPost.same aO _))
    rw [if_neg hbig] at hk
    by_cases hll2 : c.list.length = s.chains.length
    · have w' := w.app (some (AO.cells 33 6 [c.cells la] 0) :: (t ++ [some (.cells 68 6 [[.v (.int .i64 s.lay.ver), W, .v (.int .i64 (s.lay.ver + 1)), v, .v (.string (ByteArray.mk #[])), .v (.bool false)]] 0)]))
      have kv' : Kept (h ++ some (AO.cells 33 6 [c.cells la] 0) :: (t ++ [some (.cells 68 6 [[.v (.int .i64 s.lay.ver), W, .v (.int .i64 (s.lay.ver + 1)), v, .v (.string (ByteArray.mk #[])), .v (.bool false)]] 0)])) v c.list := by
        have := kv.app [some (.cells 68 6 [[.v (.int .i64 s.lay.ver), W, .v (.int .i64 (s.lay.ver + 1)), v, .v (.string (ByteArray.mk #[])), .v (.bool false)]] 0)]
        simpa using this
      simp (disch := omega) only [go_sem, Nat.one_ne_zero, two0, if_false, f1, f3, hlen, hbig, hll2, w.one, w.cells, mv.one, mv.cells, l1]
      refine ⟨refChgMay_call G ⟨s.lay, ⟨s.lay.ver + 1, c.list⟩, [], false⟩ W v _ _ w'.wt kv'.wt (by simp only; omega) (by simp only; omega) (by simp) ?_⟩
      cases hok : Chg.ok ⟨s.lay, ⟨s.lay.ver + 1, c.list⟩, [], false⟩ with
      | false =>
        rw [if_pos (.inr hok)] at hk
        simp (disch := omega) only [go_sem, Nat.one_ne_zero, two0, if_false]
        exact ret_keep (hk _ _ _ rfl (RPost.same aO _))
      | true =>
        rw [if_neg (by simp [hll2, hok])] at hk
        simp (disch := omega) only [go_sem, Nat.one_ne_zero, two0, if_false, f1, s1, s2, s3, w.one, w.cells, mv.one, mv.cells]
        have HA := ha.app (some (AO.cells 33 6 [c.cells la] 0) :: (t ++ [some (.cells 68 6 [[.v (.int .i64 s.lay.ver), W, .v (.int .i64 (s.lay.ver + 1)), v, .v (.string (ByteArray.mk #[])), .v (.bool false)]] 0)]))
        have := refObj (s := { s with chg := some ⟨s.lay, ⟨s.lay.ver + 1, c.list⟩, [], false⟩ }) HA.obj HA.bri HA.sl HA.ch HA.wts w' kv'
        exact ret_keep (hk _ _ _ rfl (RPost.setP (Ext.app _) own this))
    · rw [if_pos (.inl hll2)] at hk
      simp (disch := omega) only [go_sem, Nat.one_ne_zero, two0, if_false, f1, f3, hlen, hbig, hll2, l1]
      exact ret_keep (hk _ _ _ rfl (RPost.same aO _))
  · rw [if_neg (by omega), if_pos kk] at hk
    unfold Adm.moved at hk
    cases hs : s.chg with
    | none =>
      have hch : s.ch = zeroChg := by simp [Adm.ch, hs]
      rw [hs] at hk
      simp only [rfrow, hs, hch, Option.isSome_none] at f1
      simp (disch := omega) only [go_sem, Nat.one_ne_zero, two0, if_false, f1, l1, l2, kk]
      exact ret_keep (hk _ _ _ rfl (RPost.same aO _))
    | some g =>
    have hch : s.ch = g := by simp [Adm.ch, hs]
    rw [hs] at hk
    simp only at hk
    rw [hch] at k1 k2
    simp only [rfrow, hs, hch, Option.isSome_some] at f1
    obtain ⟨q1, q2, q3, q4, q5, q6⟩ := ok.chg g hs
    simp (disch := omega) only [go_sem, Nat.one_ne_zero, two0, if_false, f1, l1, l2, kk, k1.one, k2.one, k1.cells, k2.cells]
    refine ⟨refTo_call G g c.cur V1 V2 _ _ (k1.app _).wt (k2.app _).wt (by rw [q1]; omega) (by omega) (by omega) hcl ?_ ?_⟩
    · intro e t hto hne
      rw [hto] at hk
      simp (disch := omega) only [go_sem, Nat.one_ne_zero, two0, if_false, f1, hne]
      exact ret_keep (hk e s _ rfl (RPost.same aO _))
    · intro c' t hto
      rw [hto] at hk
      obtain rfl := to_some hto
      simp (disch := omega) only [go_sem, Nat.one_ne_zero, two0, if_false, f1, s1, s2, s3, k1.one, k2.one, k1.cells, k2.cells]
      have HA := ha.app (some (AO.cells 33 6 [c.cells la] 0) :: (t ++ [some (.cells 68 6 [Chg.cells { g with cur := c.cur } V1 V2] 0)]))
      have := refObj (s := { s with chg := some { g with cur := c.cur } }) HA.obj HA.bri HA.sl HA.ch HA.wts (k1.app _) (k2.app _)
      exact ret_keep (hk _ _ _ rfl (RPost.setP (Ext.app _) own this))
  · rw [if_neg (by omega), if_neg (by omega)] at hk
    unfold Adm.done at hk
    cases hs : s.chg with
    | none =>
      have hch : s.ch = zeroChg := by simp [Adm.ch, hs]
      rw [hs] at hk
      simp only [rfrow, hs, hch, Option.isSome_none] at f1
      simp (disch := omega) only [go_sem, Nat.one_ne_zero, two0, if_false, f1, l1, l2, kk]
      exact ret_keep (hk _ _ _ rfl (RPost.same aO _))
    | some g =>
    have hch : s.ch = g := by simp [Adm.ch, hs]
    rw [hs] at hk
    simp only at hk
    rw [hch] at k1 k2
    simp only [rfrow, hs, hch, Option.isSome_some] at f1
    simp (disch := omega) only [go_sem, Nat.one_ne_zero, two0, if_false, f1, s1, s2, s3, l1, l2, kk, k1.one, k2.one, k1.cells, k2.cells]
    have HA := ha.app [some (AO.cells 33 6 [c.cells la] 0)]
    have := refObj (s := { s with lay := g.will, chg := none }) HA.obj HA.bri HA.sl HA.ch (k2.app _) (V1 := nilA) (V2 := nilA) (.inl ⟨rfl, rfl⟩) (.inl ⟨rfl, rfl⟩)
    exact ret_keep (hk _ _ _ rfl (RPost.setP (Ext.app _) own this))
end Go.Proofs

/-
  The reference's admin: make; New, Do, Owner.
-/
namespace Go.Proofs
open Go Go.Abs
set_option maxRecDepth 100000
set_option linter.unusedSimpArgs false
theorem RefOf.at0 {h : AH} {p : Nat} {O : Nat → Prop} {s : Adm} (a : RefOf h p O s) : RPost h p O s h := by
  have := RPost.same a []
  rwa [List.append_nil] at this
theorem make18_call (G : Nat → Option AV) (h : AH) (K : AV → AH → Prop) (p : Nat) (O : Nat → Prop) (s : Adm) (c : CmdA) (la : AV) (a : RefOf h p O s) (ok : s.Ok) (l0 : Ints h la c.list) (l1 : la.one = true) (hll : c.list.length ≤ 17592186044415)
    (hk : ∀ e s' h', s.make c = (e, s') → RPost h p O s' h' → K (.v (.int .i64 e)) h') : SCall Tryz.prog G 49 [.ptr p 0 0 0, la] h K := by
  refine Tryz.c49 G _ _ h K fun hlow => ?_
  unfold Tryz.r49
  unfold Tryz.r49_l2_0
  have aO := a
  obtain ⟨bid, gb, C, rows, W, V1, V2, ha, own⟩ := a
  obtain ⟨G1, G2, G3⟩ := ha.at0
  have hnb := ok.nb
  have hnc := ok.nc
  have hvr := ok.ver
  have hlen : aLen Tryz.prog h 31 la = some (.v (.int .i64 c.list.length)) := by
    have := l0.len (P := Tryz.prog) (t := 31) Tryz.und31
    rw [List.length_map] at this
    exact this
  unfold Adm.make at hk
  refine ⟨fun m vs h' => ∃ k : Nat, k ≤ c.list.length ∧ m = c.list.length - k ∧ h' = h ∧ (∀ b ∈ c.list.take k, 0 ≤ b ∧ b < s.bricks.length) ∧ vs = [.v (.int .i64 k)], c.list.length, ⟨0, by omega, rfl, rfl, by simp, rfl⟩, ?_⟩
  rintro m h' hl1 hlow2 n ⟨k, hk1, rfl, rfl, hin, hvs⟩
  simp only [List.cons.injEq, AV.v.injEq, Value.int.injEq, true_and, and_true] at hvs
  subst hvs
  by_cases hkl : k < c.list.length
  · obtain ⟨b, hb⟩ := getI hkl
    obtain ⟨q, q1, q2⟩ := Ints.at l0 hb
    have q1 := q1 []
    have q2 := q2 []
    rw [List.append_nil] at q1 q2
    have hbm := List.mem_of_getElem? hb
    by_cases hb0 : b < 0
    · rw [if_pos (List.any_eq_true.mpr ⟨b, hbm, by simp [hb0]⟩)] at hk
      simp (disch := omega) only [go_sem, Nat.one_ne_zero, two0, if_false, hlen, q1, q2, G1, hb0]
      exact ret_same (hk _ _ _ rfl aO.at0)
    by_cases hb1 : b ≥ s.bricks.length
    · rw [if_pos (List.any_eq_true.mpr ⟨b, hbm, by simp [hb1]⟩)] at hk
      simp (disch := omega) only [go_sem, Nat.one_ne_zero, two0, if_false, hlen, q1, q2, G1, hb0, hb1]
      exact ret_same (hk _ _ _ rfl aO.at0)
    simp (disch := omega) only [go_sem, Nat.one_ne_zero, two0, if_false, hlen, q1, q2, G1, hb0, hb1]
    refine next_keep (c.list.length - (k + 1)) (by omega) (Nat.le_refl _) ⟨k + 1, by omega, rfl, rfl, ?_, rfl⟩
    intro y hy
    rw [List.take_add_one, hb] at hy
    rcases List.mem_append.mp hy with hy | hy
    · exact hin y hy
    · simp at hy; subst hy; omega
  rw [List.take_of_length_le (by omega)] at hin
  have hany : (c.list.any fun x => decide (x < 0 ∨ x ≥ s.bricks.length)) = false := by
    rw [List.any_eq_false]
    intro x hx
    have := hin x hx
    simp only [decide_eq_true_eq]
    omega
  simp only [hany, Bool.false_eq_true, if_false] at hk
  by_cases hl1 : c.list.length < 1
  · rw [if_pos (.inl hl1)] at hk
    simp (disch := omega) only [go_sem, Nat.one_ne_zero, two0, if_false, hlen, hkl, hl1]
    exact ret_same (hk _ _ _ rfl aO.at0)
  by_cases hl8 : c.list.length > 8
  · rw [if_pos (.inr hl8)] at hk
    simp (disch := omega) only [go_sem, Nat.one_ne_zero, two0, if_false, hlen, hkl, hl1, hl8]
    exact ret_same (hk _ _ _ rfl aO.at0)
  rw [if_neg (by omega)] at hk
  simp (disch := omega) only [go_sem, Nat.one_ne_zero, two0, if_false, hlen, hkl, hl1, hl8]
  clear hkl hk1 k hlow2
  unfold Tryz.r49_l9_37
  refine ⟨fun m vs h'' => ∃ k : Nat, k ≤ c.list.length ∧ m = c.list.length - k ∧ h'' = h' ∧ s.fresh (c.list.take k) ∧ vs = [.v (.int .i64 k)], c.list.length, ⟨0, by omega, rfl, rfl, by simp [Adm.fresh], rfl⟩, ?_⟩
  rintro m h'' hl2 hlow2 n ⟨k, hk1, rfl, rfl, hfr, hvs⟩
  simp only [List.cons.injEq, AV.v.injEq, Value.int.injEq, true_and, and_true] at hvs
  subst hvs
  by_cases hkl : k < c.list.length
  · obtain ⟨b, hb⟩ := getI hkl
    obtain ⟨q, q1, q2⟩ := Ints.at l0 hb
    have q1 := q1 []
    have q2 := q2 []
    rw [List.append_nil] at q1 q2
    have hbm := List.mem_of_getElem? hb
    obtain ⟨hb0, hb1⟩ := hin b hbm
    obtain ⟨kb, rfl⟩ : ∃ kb : Nat, b = kb := ⟨b.toNat, by omega⟩
    obtain ⟨x, hx⟩ : ∃ x, s.bricks[kb]? = some x := ⟨s.bricks[kb]'(by omega), by simp⟩
    have hbr : (s.bricks.map bkrow)[kb]? = some (bkrow x) := by rw [List.getElem?_map, hx]; rfl
    have etake : c.list.take (k + 1) = c.list.take k ++ [(kb : Int)] := by rw [List.take_add_one, hb]; rfl
    by_cases hx0 : x.1 = 0
    · obtain ⟨sl, s1, s2⟩ := l0.upto (P := Tryz.prog) (ty := 31) (k := .i64) (hi := k) Tryz.und31 Tryz.siz3 (by simpa using hk1)
      have s1 := s1 []
      rw [List.append_nil] at s1
      rw [← List.map_take] at s2
      simp (disch := omega) only [go_sem, Nat.one_ne_zero, two0, if_false, hlen, q1, q2, G1, G2, hbr, hx0, s1, l1, List.length_map]
      refine ⟨refAmong_call G sl (c.list.take k) kb _ _ s2 (by simp; omega) ?_⟩
      rw [any_mem]
      by_cases hmem : (kb : Int) ∈ c.list.take k
      · simp (disch := omega) only [go_sem, Nat.one_ne_zero, two0, if_false, hmem, decide_true]
        rw [if_pos] at hk
        · exact ret_same (hk _ _ _ rfl aO.at0)
        · rintro ⟨_, hnd⟩
          rw [← List.take_append_drop (k + 1) c.list, etake] at hnd
          have := (List.nodup_append.mp (List.nodup_append.mp hnd).1).2.2 _ hmem _ (List.mem_singleton.mpr rfl)
          exact this rfl
      · simp (disch := omega) only [go_sem, Nat.one_ne_zero, two0, if_false, hmem, decide_false]
        refine next_keep (c.list.length - (k + 1)) (by omega) (Nat.le_refl _) ⟨k + 1, by omega, rfl, rfl, ?_, rfl⟩
        rw [etake]
        refine ⟨?_, ?_⟩
        · intro y hy
          rcases List.mem_append.mp hy with hy | hy
          · exact hfr.1 y hy
          · rw [List.mem_singleton.mp hy, bk_eq hx]; exact hx0
        · refine List.nodup_append.mpr ⟨hfr.2, by simp, ?_⟩
          intro y hy z hz
          rw [List.mem_singleton.mp hz]
          rintro rfl
          exact hmem hy
    · simp (disch := omega) only [go_sem, Nat.one_ne_zero, two0, if_false, hlen, q1, q2, G1, G2, hbr, hx0, l1, List.length_map]
      rw [if_pos] at hk
      · exact ret_same (hk _ _ _ rfl aO.at0)
      · rintro ⟨hall, _⟩
        have := hall kb hbm
        rw [bk_eq hx] at this
        exact hx0 this
  rw [List.take_of_length_le (by omega)] at hfr
  rw [if_neg (by simpa using hfr)] at hk
  by_cases hc8 : s.chains.length ≥ 8
  · rw [if_pos (.inl hc8)] at hk
    simp (disch := omega) only [go_sem, Nat.one_ne_zero, two0, if_false, hlen, hkl, G1, G3, hc8]
    exact ret_same (hk _ _ _ rfl aO.at0)
  cases hs : s.chg with
  | some g =>
    rw [if_pos (.inr (.inl (by rw [hs]; rfl)))] at hk
    simp only [rfrow, hs, Option.isSome_some] at G1
    simp (disch := omega) only [go_sem, Nat.one_ne_zero, two0, if_false, hlen, hkl, G1, G3, hc8]
    exact ret_same (hk _ _ _ rfl aO.at0)
  | none =>
  rw [hs] at hk
  simp only [rfrow, hs, Option.isSome_none] at G1
  by_cases hbig : s.lay.ver ≥ 1073741824
  · rw [if_pos (.inr (.inr hbig))] at hk
    simp (disch := omega) only [go_sem, Nat.one_ne_zero, two0, if_false, hlen, hkl, G1, G3, hc8, hbig]
    exact ret_same (hk _ _ _ rfl aO.at0)
  rw [if_neg (by simp; omega)] at hk
  simp (disch := omega) only [go_sem, Nat.one_ne_zero, two0, if_false, hlen, hkl, G1, G3, hc8, hbig]
  clear hfr hk1 hkl k hlow2 hl2 G1 G2 G3
  unfold Tryz.r49_l16_98
  refine ⟨fun m vs h2 => ∃ k : Nat, k ≤ c.list.length ∧ m = c.list.length - k ∧ vs = [.v (.int .i64 k)] ∧ h2.length = h''.length ∧ (∀ j, j ≠ bid → h2[j]? = h''[j]?) ∧ RefAt h2 p bid gb C rows W V1 V2 { s with bricks := s.taken (c.list.take k) }, c.list.length, ⟨0, by omega, rfl, rfl, rfl, fun _ _ => rfl, ha⟩, ?_⟩
  rintro m h2 hl3 hlow2 n ⟨k, hk1, rfl, hvs, e1, e2, A⟩
  simp only [List.cons.injEq, AV.v.injEq, Value.int.injEq, true_and, and_true] at hvs
  subst hvs
  have L2 : Ints h2 la c.list := Ints.keep1 (fun i e rs g hi => by
    rw [e2]
    · exact hi
    · rintro rfl
      rw [ha.bri] at hi
      cases hi) l0
  have hlen2 : aLen Tryz.prog h2 31 la = some (.v (.int .i64 c.list.length)) := by
    have := L2.len (P := Tryz.prog) (t := 31) Tryz.und31
    rw [List.length_map] at this
    exact this
  obtain ⟨G1, G2, G3⟩ := A.at0
  simp only [taken_len] at G1
  by_cases hkl : k < c.list.length
  · obtain ⟨b, hb⟩ := getI hkl
    obtain ⟨q, q1, q2⟩ := Ints.at L2 hb
    have q1 := q1 []
    have q2 := q2 []
    rw [List.append_nil] at q1 q2
    obtain ⟨hb0, hb1⟩ := hin b (List.mem_of_getElem? hb)
    obtain ⟨kb, rfl⟩ : ∃ kb : Nat, b = kb := ⟨b.toNat, by omega⟩
    have hkb : kb < (s.taken (c.list.take k)).length := by rw [taken_len]; omega
    have hbr : ((s.taken (c.list.take k)).map bkrow)[kb]? = some (bkrow (s.taken (c.list.take k))[kb]) := by rw [List.getElem?_map, List.getElem?_eq_getElem hkb]; rfl
    have etake : s.taken (c.list.take (k + 1)) = (s.taken (c.list.take k)).set kb (2, s.chains.length) := by
      unfold Adm.taken
      rw [List.take_add_one, hb]
      simp [List.foldl_append]
    simp (disch := omega) only [go_sem, Nat.one_ne_zero, two0, if_false, hlen2, q1, q2, G1, G2, G3, hbr, List.length_map, taken_len]
    refine next_keep (c.list.length - (k + 1)) (by omega) (by rw [List.length_set]; exact hl3) ?_
    have := A.setB ((s.taken (c.list.take k)).set kb (2, s.chains.length)) (by simp)
    rw [List.map_set] at this
    refine ⟨k + 1, by omega, rfl, rfl, by rw [List.length_set, e1], fun j hj => (List.getElem?_set_ne hj.symm).trans (e2 j hj), ?_⟩
    rw [etake]
    exact this
  · have hkk : k = c.list.length := by omega
    subst hkk
    rw [List.take_length] at *
    simp (disch := omega) only [go_sem, Nat.one_ne_zero, two0, if_false, hlen2]
    have := make18_tail h'' h2 K p bid gb O C W V1 V2 rows _ c.list la A (by omega) (fun j hj hO => e2 j fun e => hO (own _ (.inr (.inl e)))) own L2 l1 (by omega) (by simp only; omega) hs ok.wts ok.ver (fun h' hp => hk _ _ _ rfl hp) (fun _ _ _ => True) 0
    simp (disch := omega) only [go_sem, Nat.one_ne_zero, two0, if_false] at this
    exact this
theorem Owner18_call (G : Nat → Option AV) (p : Nat) (O : Nat → Prop) (s : Adm) (key : List UInt8) (h : AH) (K : AV → AH → Prop) (a : RefOf h p O s) (ok : s.Ok) (hkl : key.length ≤ 4611686018427387904)
    (hk : K (.tup [.v (.int .i64 (s.ownerOf key).1), .v (.int .i64 (s.ownerOf key).2)]) h) : SCall Tryz.prog G 17 [.ptr p 0 0 0, .v (.string (bs key))] h K := by
  refine Tryz.c17 G _ _ h K fun hlow => ?_
  unfold Tryz.r17
  obtain ⟨bid, gb, C, rows, W, V1, V2, ha, own⟩ := a
  obtain ⟨f1, f2, f3⟩ := ha.at0
  have w := ha.wts
  have k1 := ha.c1
  have k2 := ha.c2
  have hwl := ok.wts
  have hnc := ok.nc
  unfold Adm.ownerOf at hk
  by_cases hv : s.lay.ver = 0
  · rw [if_pos hv] at hk
    simp (disch := omega) only [go_sem, Nat.one_ne_zero, two0, if_false, f1, hv]
    exact ret_same hk
  rw [if_neg hv] at hk
  cases hs : s.chg with
  | none =>
    rw [hs] at hk
    simp only [rfrow, hs, Option.isSome_none] at f1
    simp (disch := omega) only [go_sem, Nat.one_ne_zero, two0, if_false, f1, hv, w.one, w.cells]
    refine ⟨refOf_call G W s.lay.wts key _ _ w.ints (by omega) hkl ?_⟩
    simp (disch := omega) only [go_sem, Nat.one_ne_zero, two0, if_false]
    exact ret_same hk
  | some c =>
    have hch : s.ch = c := by simp [Adm.ch, hs]
    rw [hs] at hk
    rw [hch] at k1 k2
    simp only [rfrow, hs, hch, Option.isSome_some] at f1
    obtain ⟨q1, q2, q3, q4, q5, q6⟩ := ok.chg c hs
    simp (disch := omega) only [go_sem, Nat.one_ne_zero, two0, if_false, f1, hv, k1.one, k2.one, k1.cells, k2.cells]
    refine ⟨refOwner_call G c key V1 V2 _ _ k1.wt k2.wt (by rw [q1]; omega) (by omega) (by omega) hkl ?_⟩
    simp (disch := omega) only [go_sem, Nat.one_ne_zero, two0, if_false]
    exact ret_same hk
theorem step18 (s : Adm) (c : CmdA) : s.step c = if c.bare18 = false then (80, s) else if c.kind = 1 then s.make c else if c.kind ≥ 7 then (if c.kind = 7 then s.begin c else if c.kind = 8 then s.moved c else s.done) else s.onBrick c := by
  by_cases h1 : c.kind < 1
  · have hb : c.bare18 = false := by unfold CmdA.bare18; rw [decide_eq_false (by omega)]; rfl
    rw [if_pos hb]
    unfold Adm.step
    repeat rw [if_neg (by omega)]
  by_cases h9 : 9 < c.kind
  · have hb : c.bare18 = false := by unfold CmdA.bare18; rw [decide_eq_false (show ¬ c.kind ≤ 9 by omega), Bool.and_false]; rfl
    rw [if_pos hb]
    unfold Adm.step
    repeat rw [if_neg (by omega)]
  have hkk : c.kind = 1 ∨ c.kind = 2 ∨ c.kind = 3 ∨ c.kind = 4 ∨ c.kind = 5 ∨ c.kind = 6 ∨ c.kind = 7 ∨ c.kind = 8 ∨ c.kind = 9 := by omega
  rcases hkk with k | k | k | k | k | k | k | k | k <;>
    (unfold Adm.step CmdA.bare18
     simp only [k, decide_true, decide_false, Bool.true_and, Bool.and_true, Bool.false_and, Bool.or_true, Bool.true_or, Bool.or_false, Bool.false_or, if_true, if_false, show ((1 : Int) ≤ 1) = True by simp, show ((1 : Int) ≤ 9) = True by simp, Int.reduceLE, Int.reduceEq, Int.reduceGE, ge_iff_le]
     split <;> rename_i hb <;> simp [hb])
theorem Do18_call (G : Nat → Option AV) (h : AH) (K : AV → AH → Prop) (p : Nat) (O : Nat → Prop) (s : Adm) (c : CmdA) (la : AV) (aO : RefOf h p O s) (ok : s.Ok) (l0 : Ints h la c.list) (l1 : la.one = true) (l2 : la.cells = [la]) (hll : c.list.length ≤ 17592186044415) (hcl : c.cur.length ≤ 4611686018427387904)
    (hk : ∀ e s' h', s.step c = (e, s') → RPost h p O s' h' → K (.v (.int .i64 e)) h') : SCall Tryz.prog G 13 [.ptr p 0 0 0, .agg (c.cells la)] h K := by
  refine Tryz.c13 G _ _ h K fun hlow => ?_
  unfold Tryz.r13
  rw [step18] at hk
  have base : ∀ {t : AH} {s' : Adm} {h' : AH}, RPost (h ++ t) p O s' h' → RPost h p O s' h' := fun {t s' h'} q => by
    refine ⟨by have := q.len; simp at this; omega, fun i hi hO => (q.fr i (by simp; omega) hO).trans (by rw [List.getElem?_append_left hi]), ?_⟩
    obtain ⟨bid, gb, C, rows, W, V1, V2, h1, h2⟩ := q.adm
    exact ⟨bid, gb, C, rows, W, V1, V2, h1, fun i hi => (h2 i hi).imp id fun h => by simp at h; omega⟩
  simp (disch := omega) only [go_sem, Nat.one_ne_zero, two0, if_false, l1, l2]
  refine ⟨refBare_call G c la _ _ (l0.app _) l1 l2 (by omega) fun t => ?_⟩
  cases hb : c.bare18 with
  | false =>
    rw [if_pos hb] at hk
    simp (disch := omega) only [go_sem, Nat.one_ne_zero, two0, if_false]
    exact ret_keep (hk _ _ _ rfl (RPost.same aO _))
  | true =>
  rw [if_neg (by simp [hb])] at hk
  have hrange : 1 ≤ c.kind ∧ c.kind ≤ 9 := by
    unfold CmdA.bare18 at hb
    simp only [Bool.and_eq_true, decide_eq_true_eq] at hb
    exact hb.1
  by_cases k1 : c.kind = 1
  · rw [if_pos k1] at hk
    simp (disch := omega) only [go_sem, Nat.one_ne_zero, two0, if_false, l1, l2, k1]
    refine ⟨make18_call G _ _ p O s c la (aO.ext (Ext.app _)) ok (l0.app _) l1 hll fun e s' h' he hp => ?_⟩
    simp (disch := omega) only [go_sem, Nat.one_ne_zero, two0, if_false]
    exact ret_keep (hk _ _ _ he (base hp))
  rw [if_neg k1] at hk
  by_cases k7 : c.kind ≥ 7
  · rw [if_pos k7] at hk
    simp (disch := omega) only [go_sem, Nat.one_ne_zero, two0, if_false, l1, l2, k1, k7]
    refine ⟨change18_call G _ _ p O s c la (aO.ext (Ext.app _)) ok (by omega) (l0.app _) l1 l2 hll hcl fun e s' h' he hp => ?_⟩
    simp (disch := omega) only [go_sem, Nat.one_ne_zero, two0, if_false]
    exact ret_keep (hk _ _ _ he (base hp))
  · rw [if_neg k7] at hk
    simp (disch := omega) only [go_sem, Nat.one_ne_zero, two0, if_false, l1, l2, k1, k7]
    refine ⟨brick18_call G _ _ p O s c la (aO.ext (Ext.app _)) ok (by omega) l1 l2 fun e s' h' he hp => ?_⟩
    simp (disch := omega) only [go_sem, Nat.one_ne_zero, two0, if_false]
    exact ret_keep (hk _ _ _ he (base hp))
end Go.Proofs

/-
  New admins; a list that is spoilt.
-/
namespace Go.Proofs
open Go Go.Abs
set_option maxRecDepth 100000
set_option linter.unusedSimpArgs false
theorem New_bad (G : Nat → Option AV) (n : Int) (hn : n < 1 ∨ n > 16) (h : AH) (K : AV → AH → Prop) (hk : K (.tup [.v (.pointer none), .v (.int .i64 1)]) h) : SCall Tryz.prog G 8 [.v (.int .i64 n)] h K := by
  refine Tryz.c8 G _ h K fun hlow => ?_
  unfold Tryz.r8
  by_cases h1 : n < 1
  · simp (disch := omega) only [go_sem, Nat.one_ne_zero, two0, if_false, h1]
    exact ret_same hk
  · have h2 : n > 16 := by omega
    simp (disch := omega) only [go_sem, Nat.one_ne_zero, two0, if_false, h1, h2]
    exact ret_same hk
theorem New18_bad (G : Nat → Option AV) (n : Int) (hn : n < 1 ∨ n > 16) (h : AH) (K : AV → AH → Prop) (hk : K (.tup [.v (.pointer none), .v (.int .i64 1)]) h) : SCall Tryz.prog G 9 [.v (.int .i64 n)] h K := by
  refine Tryz.c9 G _ h K fun hlow => ?_
  unfold Tryz.r9
  by_cases h1 : n < 1
  · simp (disch := omega) only [go_sem, Nat.one_ne_zero, two0, if_false, h1]
    exact ret_same hk
  · have h2 : n > 16 := by omega
    simp (disch := omega) only [go_sem, Nat.one_ne_zero, two0, if_false, h1, h2]
    exact ret_same hk
theorem New18_call (G : Nat → Option AV) (n : Nat) (hn : 1 ≤ n ∧ n ≤ 16) (h : AH) (K : AV → AH → Prop)
    (hk : ∀ p h', Ext h h' → h.length ≤ p → RefOf h' p (fun i => h.length ≤ i) (Adm.new n) → K (.tup [.ptr p 0 0 0, .v (.int .i64 0)]) h') : SCall Tryz.prog G 9 [.v (.int .i64 n)] h K := by
  refine Tryz.c9 G _ h K fun hlow => ?_
  unfold Tryz.r9
  simp (disch := omega) only [go_sem, Nat.one_ne_zero, two0, if_false]
  unfold Tryz.r9_l5_8
  refine ⟨fun m vs h' => ∃ (k : Nat) (B : AV), k ≤ n ∧ m = n - k ∧ h'[h.length]? = some (some (.cells 108 11 [[B, nilA, .v (.int .i64 0), nilA, .v (.bool false), .v (.int .i64 0), nilA, .v (.int .i64 0), nilA, .v (.string (ByteArray.mk #[])), .v (.bool false)]] 0)) ∧
    Mine 110 2 h' B (List.replicate k (bkrow (0, -1))) ∧ (∀ j, j ≤ h.length → Off B j) ∧ Ext h h' ∧ vs = [.v (.int .i64 k)], n, ⟨0, nilA, by omega, rfl, by simp, .nil, (fun j _ id g o l c hx => by cases hx), Ext.app _, rfl⟩, ?_⟩
  rintro m h' hl1 hlow2 n' ⟨k, B, hk1, rfl, ho, M, hB, eH, hvs⟩
  simp only [List.cons.injEq, AV.v.injEq, Value.int.injEq, true_and, and_true] at hvs
  subst hvs
  have hlt := (List.getElem?_eq_some_iff.mp ho).1
  have ho' : ∀ t, (h' ++ t)[h.length]? = _ := fun t => (List.getElem?_append_left hlt).trans ho
  by_cases hkn : k < n
  · simp (disch := omega) only [go_sem, Nat.one_ne_zero, two0, if_false, ho, ho', M.one, M.cells]
    refine (M.more _).pushAt (i := h'.length) (g := 0) (row := bkrow (0, -1)) (e' := 110) (by simp) Tryz.und106 Tryz.azero110 Tryz.byt110 (by exact Tryz.plainSrc106) rfl (by rw [List.length_replicate]; omega) (by rw [List.length_replicate]; omega) fun x' H m' hl st => ?_
    simp at hl
    have st0 := fun j hj => st j (by simp; omega) (hB j hj)
    have oH : H[h.length]? = _ := (st0 h.length (Nat.le_refl _)).1.trans (ho' _)
    have hx' : ∀ j, j ≤ h.length → Off x' j := fun j hj => (st0 j hj).2
    simp (disch := omega) only [go_sem, Nat.one_ne_zero, two0, if_false, oH, m'.one, m'.cells]
    refine next_keep (n - (k + 1)) (by omega) (by simp; omega) ⟨k + 1, x', by omega, rfl, ?_, ?_, hx', ?_, ?_⟩
    · rw [List.getElem?_set_self (by omega)]
    · rw [List.replicate_succ']
      exact m'.set (hx' _ (Nat.le_refl _))
    · refine ⟨by have := eH.len; simp; omega, fun i hi => ?_⟩
      rw [List.getElem?_set_ne (by omega), (st0 i (by omega)).1, List.getElem?_append_left (by have := eH.len; omega)]
      exact eH.get i hi
    · rfl
  · have : k = n := by omega
    subst this
    simp (disch := omega) only [go_sem, Nat.one_ne_zero, two0, if_false]
    refine ret_keep (hk _ _ eH (Nat.le_refl _) ?_)
    generalize hr : List.replicate k (bkrow (0, -1)) = rows at M
    cases M with
    | nil => have := congrArg List.length hr; simp at this; omega
    | @obj bid g rows hrl hid =>
      subst hr
      rw [List.length_replicate] at ho
      refine ⟨bid, g, nilA, [], nilA, nilA, nilA, ⟨?_, ?_, .inl ⟨rfl, rfl⟩, ⟨rfl, by intro i c hc; simp [Adm.new] at hc⟩, .inl ⟨rfl, rfl⟩, .inl ⟨rfl, rfl⟩, .inl ⟨rfl, rfl⟩⟩, ?_⟩
      · rw [ho]; simp [Adm.new, Adm.ch, zeroChg]
      · rw [hid]; simp [Adm.new]
      · rintro i (rfl | rfl | ⟨g', o, l, c, hx⟩)
        · exact Nat.le_refl _
        · rcases Nat.lt_or_ge i h.length with hlt2 | hge
          · exact absurd rfl (hB i (by omega) i g 0 _ none rfl)
          · exact hge
        · cases hx
/-- A list is written over, the room behind too. -/
theorem spoilInts_call (G : Nat → Option AV) (v : AV) (xs : List Int) (z : Int) (h : AH) (K : AV → AH → Prop) (kv : Kept h v xs) (hk : ∀ h', h'.length = h.length → (∀ i, Off v i → h'[i]? = h[i]?) → K (.tup []) h') : SCall Tryz.prog G 15 [v, .v (.int .i64 z)] h K := by
  refine Tryz.c15 G _ _ h K fun hlow => ?_
  unfold Tryz.r15
  rcases kv with ⟨rfl, rfl⟩ | ⟨id, g, rs, rfl, ho, hle, htk⟩
  · refine ⟨?_⟩
    unfold aCap
    rw [Tryz.und31]
    simp only
    simp (disch := omega) only [go_sem, Nat.one_ne_zero, two0, if_false]
    unfold Tryz.r15_l2_4
    refine ⟨fun m vs h' => h' = h ∧ vs = [.v (.int .i64 0)], 0, ⟨rfl, rfl⟩, ?_⟩
    rintro m h' hl1 hlow2 n ⟨rfl, hvs⟩
    simp only [List.cons.injEq, AV.v.injEq, Value.int.injEq, true_and, and_true] at hvs
    subst hvs
    simp (disch := omega) only [go_sem, Nat.one_ne_zero, two0, if_false]
    exact ret_same (hk _ rfl fun _ _ => rfl)
  · refine ⟨?_⟩
    unfold aCap
    rw [Tryz.und31]
    simp only [ho]
    refine ⟨⟨trivial, by omega, by simpa using hle⟩, fun extra hx hsm => ?_⟩
    have hidl := (List.getElem?_eq_some_iff.mp ho).1
    have e1 : (h.set id (some (AO.cells 3 1 (rs ++ extra) g)))[id]? = some (some (.cells 3 1 (rs ++ extra) g)) := List.getElem?_set_self hidl
    have eT : rs.length + extra.length - 0 = rs.length + extra.length := rfl
    simp only [eT]
    generalize hT : rs.length + extra.length = T at *
    have hl0 : (rs ++ extra).length = T := by simp [hT]
    simp (disch := omega) only [go_sem, Nat.one_ne_zero, two0, if_false, e1, hl0]
    unfold Tryz.r15_l2_4
    refine ⟨fun m vs h' => ∃ (k : Nat) (rows : List (List AV)), k ≤ T ∧ m = T - k ∧ rows.length = T ∧ h' = h.set id (some (.cells 3 1 rows g)) ∧ vs = [.v (.int .i64 k)], T, ⟨0, _, by omega, rfl, hl0, rfl, rfl⟩, ?_⟩
    rintro m h' hl1 hlow2 n ⟨k, rows, hk1, rfl, hrl, rfl, hvs⟩
    simp only [List.cons.injEq, AV.v.injEq, Value.int.injEq, true_and, and_true] at hvs
    subst hvs
    have e2 : (h.set id (some (AO.cells 3 1 rows g)))[id]? = some (some (.cells 3 1 rows g)) := List.getElem?_set_self hidl
    by_cases hkl : k < T
    · have hrk : rows[k]? = some rows[k] := List.getElem?_eq_getElem (by omega)
      simp (disch := omega) only [go_sem, Nat.one_ne_zero, two0, if_false, e2, hrk, hrl]
      refine next_keep (T - (k + 1)) (by omega) (by simp) ⟨k + 1, _, by omega, rfl, ?_, List.set_set .., ?_⟩
      · rw [List.length_set]; exact hrl
      · rfl
    · simp (disch := omega) only [go_sem, Nat.one_ne_zero, two0, if_false, e2, hrl]
      exact ret_keep (hk _ (by simp) fun i hi => List.getElem?_set_ne (hi _ _ _ _ _ rfl))
end Go.Proofs

/-
  What an admin tells, in slices of their own.
-/
namespace Go.Proofs
open Go Go.Abs
set_option maxRecDepth 100000
set_option linter.unusedSimpArgs false
/-- A slice's object is not below; two slices have no object in common. -/
def Above (n : Nat) (v : AV) : Prop := ∀ id g o l c, v = .sl id g o l c → n ≤ id
def Apart (v w : AV) : Prop := ∀ id g o l c, v = .sl id g o l c → Off w id
theorem Above.le {n m : Nat} {v : AV} (a : Above n v) (h : m ≤ n) : Above m v := fun id g o l c hx => Nat.le_trans h (a id g o l c hx)
theorem Above.off {n i : Nat} {v : AV} (a : Above n v) (h : i < n) : Off v i := fun id g o l c hx => by have := a id g o l c hx; omega
theorem Apart.symm {v w : AV} (a : Apart v w) : Apart w v := fun id g o l c hx id' g' o' l' c' hy he => a id' g' o' l' c' hy id g o l c hx he.symm
theorem Kept.lt {h : AH} {v : AV} {xs : List Int} (k : Kept h v xs) : ∀ id g o l c, v = .sl id g o l c → id < h.length := by
  intro id g o l c hx
  rcases k with ⟨rfl, _⟩ | ⟨id', g', rs, rfl, h1, _⟩
  · cases hx
  · cases hx; exact (List.getElem?_eq_some_iff.mp h1).1
theorem Kept.apart {h : AH} {v w : AV} {xs : List Int} (k : Kept h v xs) (a : Above h.length w) : Apart v w := fun id g o l c hx => a.off (k.lt id g o l c hx)
theorem _root_.Go.Abs.AccR.above {e : TypeId} {n : Nat} {h h' : AH} {x : AV} {rows : List (List AV)} (c : AccR e n h x h' rows) : Above h.length x := fun id g o l c' hx => (c.toX.lo hx).1
theorem Kept.offSet {h h' : AH} {v w : AV} {xs : List Int} (k : Kept h w xs) (a : Apart w v) (hs : ∀ i, Off v i → h'[i]? = h[i]?) : Kept h' w xs := by
  rcases k with ⟨rfl, rfl⟩ | ⟨id, g, rs, rfl, h1, h2⟩
  · exact .inl ⟨rfl, rfl⟩
  · exact .inr ⟨id, g, rs, rfl, by rw [hs id (a _ _ _ _ _ rfl)]; exact h1, h2⟩
/-- Rows of chains of which no two have a slice in common. -/
structure Sep (n : Nat) (rows : List (List AV)) : Prop where
  lo : ∀ (i : Nat) e o r, rows[i]? = some [e, o, r] → Above n o ∧ Above n r ∧ Apart o r
  ap : ∀ (i j : Nat) e o r e' o' r', i < j → rows[i]? = some [e, o, r] → rows[j]? = some [e', o', r'] → Apart o o' ∧ Apart o r' ∧ Apart r o' ∧ Apart r r'
theorem Sep.snoc {n m : Nat} {rows : List (List AV)} {e o r : AV} (s : Sep n rows) (hn : n ≤ m) (hb : ∀ (i : Nat) e o r, rows[i]? = some [e, o, r] → (∀ id g a l c, o = .sl id g a l c → id < m) ∧ ∀ id g a l c, r = .sl id g a l c → id < m) (ho : Above m o) (hr : Above m r) (hx : Apart o r) : Sep n (rows ++ [[e, o, r]]) := by
  have at' : ∀ (i : Nat) (x : List AV), (rows ++ [[e, o, r]])[i]? = some x → (i < rows.length ∧ rows[i]? = some x) ∨ (i = rows.length ∧ x = [e, o, r]) := by
    intro i x h
    by_cases hi : i < rows.length
    · rw [List.getElem?_append_left hi] at h; exact .inl ⟨hi, h⟩
    · have := (List.getElem?_eq_some_iff.mp h).1
      simp at this
      have hi2 : i = rows.length := by omega
      subst hi2
      simp at h
      exact .inr ⟨rfl, h.symm⟩
  refine ⟨fun i e' o' r' h => ?_, fun i j e1 o1 r1 e2 o2 r2 hij h1 h2 => ?_⟩
  · rcases at' i _ h with ⟨_, h⟩ | ⟨_, h⟩
    · exact s.lo i _ _ _ h
    · simp only [List.cons.injEq, and_true] at h
      obtain ⟨_, rfl, rfl⟩ := h
      exact ⟨ho.le hn, hr.le hn, hx⟩
  · rcases at' j _ h2 with ⟨_, h2⟩ | ⟨hj, h2⟩
    · rcases at' i _ h1 with ⟨_, h1⟩ | ⟨hi, _⟩
      · exact s.ap i j _ _ _ _ _ _ hij h1 h2
      · have := (List.getElem?_eq_some_iff.mp h2).1; omega
    · rcases at' i _ h1 with ⟨_, g1⟩ | ⟨hi, _⟩
      · simp only [List.cons.injEq, and_true] at h2
        obtain ⟨_, rfl, rfl⟩ := h2
        obtain ⟨b1, b2⟩ := hb i _ _ _ g1
        have up : ∀ {v w : AV}, (∀ id g a l c, v = .sl id g a l c → id < m) → Above m w → Apart v w := fun hv hw id g a l c hx => hw.off (hv id g a l c hx)
        exact ⟨up b1 ho, up b1 hr, up b2 ho, up b2 hr⟩
      · omega
theorem ChainsF_call (G : Nat → Option AV) (p : Nat) (O : Nat → Prop) (s : Adm) (h : AH) (K : AV → AH → Prop) (a : AdmOf h p O s) (ok : s.Ok)
    (hk : ∀ v h' rows, AccR 121 3 h v h' rows → ChRows h' rows s.chains → Sep h.length rows → K v h') : SCall Tryz.prog G 57 [.ptr p 0 0 0] h K := by
  refine Tryz.c57 G _ h K fun hlow => ?_
  unfold Tryz.r57
  obtain ⟨bid, C, rows, W, CH, ha, hown⟩ := a
  obtain ⟨f1, f2, f3⟩ := ha.at
  have g1 := f1 []
  have g3 := f3 []
  rw [List.append_nil] at g1 g3
  simp (disch := omega) only [go_sem, Nat.one_ne_zero, two0, if_false, g1, g3]
  unfold Tryz.r57_l3_4
  refine ⟨fun m vs h' => ∃ (k : Nat) (v : AV) (rs : List (List AV)), k ≤ s.chains.length ∧ m = s.chains.length - k ∧ AccR 121 3 h v h' rs ∧ ChRows h' rs (s.chains.take k) ∧ Sep h.length rs ∧ vs = [v, .v (.int .i64 k)], s.chains.length, ⟨0, _, [], by omega, rfl, by simpa using AccR.nil (e := 121) (n := 3) (h := h) (t := []), ⟨rfl, by simp⟩, ⟨by simp, by simp⟩, rfl⟩, ?_⟩
  rintro m h' hl1 hlow2 v n' ⟨k, v', rs, hk1, rfl, A, hR, hS, hvs⟩
  simp only [List.cons.injEq, AV.v.injEq, Value.int.injEq, true_and, and_true] at hvs
  obtain ⟨rfl, rfl⟩ := hvs
  have hnc := ok.nc
  by_cases hkl : k < s.chains.length
  · have hc := List.getElem?_eq_getElem hkl
    generalize s.chains[k] = c at hc
    obtain ⟨tt, htt⟩ := A.tail
    have ha' : AdmAt h' p bid C rows W CH s := by rw [htt]; exact ha.app _
    obtain ⟨o, r, q, c1, c2, c3, c4, c5, q1, c6, c7⟩ := ha'.chain hc
    have d4 := c4 []
    have d5 := c5 []
    rw [List.append_nil] at d4 d5
    have hcl := chain_len ok hc
    simp (disch := omega) only [go_sem, Nat.one_ne_zero, two0, if_false, d4, d5, c1.one, c2.one, c1.cells, c2.cells, Nat.one_ne_zero, if_false]
    refine ⟨Clone_call G o c.ord _ _ (c1.app _).ints c1.nn (by omega) ?_⟩
    intro v1 h1 A1
    obtain ⟨t1, rfl⟩ := A1.tail
    simp (disch := omega) only [go_sem, Nat.one_ne_zero, two0, if_false, c1.one, c2.one, c1.cells, c2.cells, Nat.one_ne_zero, if_false]
    refine ⟨Clone_call G r c.rep _ _ (c2.app _).ints c2.nn (by omega) ?_⟩
    intro v3 h3 A3
    obtain ⟨t3, rfl⟩ := A3.tail
    have bd := build37 (a := .v (.int .i64 c.ep)) rfl rfl A1.one A1.cells A3.one A3.cells
    simp (disch := omega) only [go_sem, Nat.one_ne_zero, two0, if_false, c1.one, c2.one, c1.cells, c2.cells, bd, Nat.one_ne_zero, if_false]
    have kv1 : Kept (h' ++ (some (AO.cells 121 3 [[AV.v (.int .i64 c.ep), o, r]] 0) :: (t1 ++ (t3 ++ [some (.cells 121 3 [[.v (.int .i64 c.ep), v1, v3]] 0)])))) v1 c.ord := by
      have := A1.kept.app (t3 ++ [some (.cells 121 3 [[.v (.int .i64 c.ep), v1, v3]] 0)])
      simpa only [List.append_assoc, List.cons_append, List.nil_append] using this
    have kv3 : Kept (h' ++ (some (AO.cells 121 3 [[AV.v (.int .i64 c.ep), o, r]] 0) :: (t1 ++ (t3 ++ [some (.cells 121 3 [[.v (.int .i64 c.ep), v1, v3]] 0)])))) v3 c.rep := by
      have := A3.kept.app [some (.cells 121 3 [[.v (.int .i64 c.ep), v1, v3]] 0)]
      simpa only [List.append_assoc, List.cons_append, List.nil_append] using this
    have hrs : rs.length ≤ 8 := by rw [hR.1]; simp; omega
    have hi : (h' ++ (some (AO.cells 121 3 [[AV.v (.int .i64 c.ep), o, r]] 0) :: (t1 ++ (t3 ++ [some (.cells 121 3 [[.v (.int .i64 c.ep), v1, v3]] 0)]))))[h'.length + (t1.length + t3.length + 1)]? = some (some (.cells 121 3 [[.v (.int .i64 c.ep), v1, v3]] 0)) := by
      rw [Go.Abs.get_add, List.getElem?_cons_succ, Go.Abs.get_add, Go.Abs.get_len]
    refine A.pushAt (some (AO.cells 121 3 [[AV.v (.int .i64 c.ep), o, r]] 0) :: (t1 ++ (t3 ++ [some (.cells 121 3 [[.v (.int .i64 c.ep), v1, v3]] 0)]))) rfl (row := crow c v1 v3) (e' := 121) (g := 0) hi Tryz.und102 Tryz.azero121 Tryz.byt121 (by exact Tryz.plainSrc102) rfl (by omega) (by omega) ?_
    intro x' h'' R hl st
    have kp := stay_kp A st
    simp (disch := omega) only [go_sem, Nat.one_ne_zero, two0, if_false]
    have hll : h'.length ≤ h''.length := by simp at hl; omega
    refine next_keep (s.chains.length - (k + 1)) ?_ (by omega) ?_
    · omega
    have hS2 := hS.snoc (m := h'.length) (e := .v (.int .i64 c.ep)) (o := v1) (r := v3) (by rw [htt]; simp) (fun i e o r hi => by
      obtain ⟨y, hy⟩ : ∃ y, (s.chains.take k)[i]? = some y := ⟨_, List.getElem?_eq_getElem (by rw [← hR.1]; exact (List.getElem?_eq_some_iff.mp hi).1)⟩
      obtain ⟨o', r', g1, g2, g3⟩ := hR.2 i y hy
      rw [hi] at g1
      simp only [Option.some.injEq, List.cons.injEq, and_true] at g1
      obtain ⟨_, rfl, rfl⟩ := g1
      exact ⟨g2.lt, g3.lt⟩) (A1.above.le (by simp)) (A3.above.le (by simp)) (fun id g o l c hx => A3.above.off (by have := (A1.toX.lo hx).2; simp at this ⊢; omega))
    refine ⟨k + 1, x', _, by omega, rfl, R, ?_, hS2, rfl⟩
    rw [List.take_add_one, hc]
    exact (hR.keep ((Kp.app _).trans kp)).snoc (kv1.keep kp) (kv3.keep kp)
  · simp (disch := omega) only [go_sem, Nat.one_ne_zero, two0, if_false]
    rw [List.take_of_length_le (by omega)] at hR
    exact ret_keep (hk _ _ _ A hR hS)
theorem copiedF_call (G : Nat → Option AV) (l : Lay) (W : AV) (h : AH) (K : AV → AH → Prop) (k1 : Kept h W l.wts) (hl : l.wts.length ≤ 1000)
    (hk : ∀ v h', Grew h h' → Kept h' v l.wts → Above h.length v → K (.agg (l.cells v)) h') : SCall Tryz.prog G 113 [.agg (l.cells W)] h K := by
  refine Tryz.c113 G _ h K fun hlow => ?_
  unfold Tryz.r113
  have n1 := k1.one
  have c1 := k1.cells
  simp (disch := omega) only [go_sem, Nat.one_ne_zero, two0, if_false, n1, c1, Nat.reduceAdd]
  refine ⟨Clone_call G W l.wts _ _ ((k1.app _).ints) (k1.nn) (by omega) fun v h' acc => ?_⟩
  obtain ⟨t, rfl⟩ := acc.tail
  have v1 := acc.one
  have v2 := acc.cells
  have e : h.length + 1 < (h ++ [some (AO.cells 43 2 [l.cells W] 0), some (AO.cells 43 2 [[(.v (.int .i64 0)), (.v (.slice none 0 0))]] 0)]).length := by simp
  have acc2 := acc.setBase (i := h.length + 1) (o := some (.cells 43 2 [l.cells v] 0)) e
  have k2 : Kept _ v l.wts := acc2.kept
  simp (disch := omega) only [go_sem, Nat.one_ne_zero, two0, if_false, v1, v2, Nat.reduceAdd]
  rw [build77 rfl rfl v1 v2]
  simp (disch := omega) only [go_sem, Nat.one_ne_zero, two0, if_false, v1, v2, Nat.reduceAdd] at k2 ⊢
  exact ret_keep (hk v _ (.app _) k2 (acc.above.le (by simp)))
theorem LayoutF_call (G : Nat → Option AV) (p : Nat) (O : Nat → Prop) (s : Adm) (h : AH) (K : AV → AH → Prop) (a : AdmOf h p O s) (ok : s.Ok)
    (hk : ∀ v h', Grew h h' → Kept h' v s.lay.wts → Above h.length v → K (.tup [.agg (s.lay.cells v), .v (.bool (decide (s.lay.ver > 0)))]) h') : SCall Tryz.prog G 59 [.ptr p 0 0 0] h K := by
  refine Tryz.c59 G _ h K fun hlow => ?_
  unfold Tryz.r59
  obtain ⟨bid, C, rows, W, CH, ha, hown⟩ := a
  obtain ⟨f1, f2, f3⟩ := ha.at
  have hpl := (List.getElem?_eq_some_iff.mp ha.obj).1
  have w1 := ha.wts.one
  have w2 := ha.wts.cells
  have hwl := ok.wts
  have hnc := ok.nc
  simp (disch := omega) only [go_sem, Nat.one_ne_zero, two0, if_false, f1, w1, w2]
  refine ⟨copiedF_call G s.lay W _ _ (ha.wts.app _) (by omega) fun v h' g kv av => ?_⟩
  obtain ⟨t, rfl⟩ := g.ex
  have v1 := kv.one
  have v2 := kv.cells
  have kv2 : Kept ((h ++ [some (AO.cells 43 2 [[(.v (.int .i64 0)), (.v (.slice none 0 0))]] 0)] ++ t).set h.length (some (AO.cells 43 2 [s.lay.cells v] 0))) v s.lay.wts := kv.keep (Kp.set (e := 43) (n := 2) (rows := [[(.v (.int .i64 0)), (.v (.slice none 0 0))]]) (g := 0) (by simp) (by decide))
  simp (disch := omega) only [go_sem, Nat.one_ne_zero, two0, if_false, f1, v1, v2] at kv2 ⊢
  exact ret_keep (hk v _ (.app _) kv2 (av.le (by simp)))
theorem ChangeF_call (G : Nat → Option AV) (p : Nat) (O : Nat → Prop) (s : Adm) (h : AH) (K : AV → AH → Prop) (a : AdmOf h p O s) (ok : s.Ok)
    (hk1 : s.chg = none → ∀ h', Grew h h' → K (.tup [.agg (zeroChg.cells nilA nilA), .v (.bool false)]) h')
    (hk2 : ∀ c, s.chg = some c → ∀ v w h', Grew h h' → Kept h' v c.was.wts → Kept h' w c.will.wts → Above h.length w → K (.tup [.agg (c.cells v w), .v (.bool true)]) h') : SCall Tryz.prog G 60 [.ptr p 0 0 0] h K := by
  refine Tryz.c60 G _ h K fun hlow => ?_
  unfold Tryz.r60
  obtain ⟨bid, C, rows, W, CH, ha, hown⟩ := a
  obtain ⟨f1, f2, f3⟩ := ha.at
  have hpl := (List.getElem?_eq_some_iff.mp ha.obj).1
  have w1 := ha.wts.one
  have w2 := ha.wts.cells
  have hwl := ok.wts
  have hnc := ok.nc
  have hc := ha.chg
  cases hs : s.chg with
  | none =>
    rw [hs] at hc
    obtain rfl : CH = .v (.pointer none) := hc
    simp (disch := omega) only [go_sem, Nat.one_ne_zero, two0, if_false, f1, w1, w2, pe2 Tryz.und103]
    exact ret_keep (hk1 hs _ (.app _))
  | some c =>
    rw [hs] at hc
    obtain ⟨x, W1, W2, rfl, h2, h3, h4⟩ := hc
    obtain ⟨q1, q2, q3, q4, q5, q6⟩ := ok.chg c hs
    have e2 : ∀ t : AH, (h ++ t)[x]? = _ := fun t => (List.getElem?_append_left (List.getElem?_eq_some_iff.mp h2).1).trans h2
    have hxl := (List.getElem?_eq_some_iff.mp h2).1
    simp (disch := omega) only [go_sem, Nat.one_ne_zero, two0, if_false, f1, e2, w1, w2, pe1 Tryz.und103, h3.one, h4.one, h3.cells, h4.cells]
    refine ⟨copiedF_call G c.was W1 _ _ (h3.app _) (by rw [q1]; omega) fun v h' g kv av => ?_⟩
    obtain ⟨t, rfl⟩ := g.ex
    have v1 := kv.one
    have v2 := kv.cells
    simp (disch := omega) only [go_sem, Nat.one_ne_zero, two0, if_false, f1, e2, w1, w2, v1, v2, h3.one, h4.one, h3.cells, h4.cells]
    refine ⟨copiedF_call G c.will W2 _ _ (h4.app _) (by omega) fun w h' g kw aw => ?_⟩
    obtain ⟨u, rfl⟩ := g.ex
    have x1 := kw.one
    have x2 := kw.cells
    have fin : ∀ {y : AV} {ws : List Int} {X Y : Option AO}, Kept (h ++ some (AO.cells 49 6 [[(.v (.int .i64 0)), (.v (.slice none 0 0)), (.v (.int .i64 0)), (.v (.slice none 0 0)), (.v (.string (ByteArray.mk #[]))), (.v (.bool false))]] 0) :: some (AO.cells 49 6 [c.cells W1 W2] 0) :: t ++ u) y ws → Kept (h ++ Y :: X :: (t ++ u)) y ws := by
      intro y ws X Y k
      have k1 := k.keep (Kp.set (i := h.length) (e := 49) (n := 6) (rows := [[(.v (.int .i64 0)), (.v (.slice none 0 0)), (.v (.int .i64 0)), (.v (.slice none 0 0)), (.v (.string (ByteArray.mk #[]))), (.v (.bool false))]]) (g := 0) (o := Y) (by simp) (by decide))
      have k2 := k1.keep (Kp.set (i := h.length + 1) (e := 49) (n := 6) (rows := [c.cells W1 W2]) (g := 0) (o := X) (by simp) (by decide))
      simpa (disch := omega) only [go_sem] using k2
    have kvu : Kept (h ++ some (AO.cells 49 6 [[(.v (.int .i64 0)), (.v (.slice none 0 0)), (.v (.int .i64 0)), (.v (.slice none 0 0)), (.v (.string (ByteArray.mk #[]))), (.v (.bool false))]] 0) :: some (AO.cells 49 6 [c.cells W1 W2] 0) :: t ++ u) v c.was.wts := by
      have := kv.app u
      simpa using this
    have hk := hk2 c hs v w
    simp (disch := omega) only [go_sem, Nat.one_ne_zero, two0, if_false, f1, e2, w1, w2, v1, v2, x1, x2, h3.one, h4.one, h3.cells, h4.cells]
    exact ret_keep (hk _ (.app _) (fin kvu) (fin kw) (aw.le (by simp)))
end Go.Proofs

/-
  Contracts of the seats that reach them: Brick, has.
-/
namespace Go.Proofs
open Go Go.Abs
set_option maxRecDepth 100000
set_option linter.unusedSimpArgs false
theorem Brick_call (G : Nat → Option AV) (p : Nat) (O : Nat → Prop) (s : Adm) (b : Int) (h : AH) (K : AV → AH → Prop) (a : AdmOf h p O s) 
    (hk1 : ∀ (k : Nat) (x : Int × Int), b = k → s.bricks[k]? = some x → K (.tup [.v (.int .i64 x.1), .v (.int .i64 x.2), .v (.int .i64 0)]) h)
    (hk2 : b < 0 ∨ b ≥ s.bricks.length → K (.tup [.v (.int .i64 0), .v (.int .i64 0), .v (.int .i64 1)]) h) : SCall Tryz.prog G 58 [.ptr p 0 0 0, .v (.int .i64 b)] h K := by
  refine Tryz.c58 G _ _ h K fun hlow => ?_
  unfold Tryz.r58
  obtain ⟨bid, C, rows, W, CH, ha, _⟩ := a
  obtain ⟨f1, f2, f3⟩ := ha.at
  have f1 := f1 []
  have f2 := f2 []
  rw [List.append_nil] at f1 f2
  by_cases hb : 0 ≤ b ∧ b < s.bricks.length
  · obtain ⟨k, rfl⟩ : ∃ k : Nat, b = k := ⟨b.toNat, by omega⟩
    obtain ⟨x, hx⟩ : ∃ x, s.bricks[k]? = some x := ⟨s.bricks[k]'(by omega), by simp⟩
    have hr : (s.bricks.map bkrow)[k]? = some (bkrow x) := by rw [List.getElem?_map, hx]; rfl
    simp (disch := omega) only [go_sem, f1, f2, hr]
    exact ret_same (hk1 k x rfl hx)
  · by_cases hb2 : b < 0
    · simp (disch := omega) only [go_sem, f1, f2]
      exact ret_same (hk2 (.inl hb2))
    · simp (disch := omega) only [go_sem, f1, f2]
      exact ret_same (hk2 (.inr (by omega)))
end Go.Proofs

/-
  The same state: an admin and the reference's.
-/
namespace Go.Proofs
open Go Go.Abs
set_option maxRecDepth 100000
set_option linter.unusedSimpArgs false
theorem Kept.offTy {h : AH} {v : AV} {xs : List Int} {j : Nat} {e : TypeId} {n g : Nat} {r : List (List AV)} (k : Kept h v xs) (hj : h[j]? = some (some (.cells e n r g))) (he : e ≠ 3) : Off v j := by
  intro id g' o l c hx
  rcases k with ⟨rfl, _⟩ | ⟨id', g2, rs, rfl, h1, _⟩
  · cases hx
  · cases hx
    rintro rfl
    rw [h1] at hj
    cases hj
    exact he rfl
theorem chSees {h : AH} {C : AV} {rows : List (List AV)} (k : ChSl h C rows) (hrl : ∀ r ∈ rows, r.length = 3) : Sees h 3 C rows := by
  rcases k with ⟨rfl, rfl⟩ | ⟨id, g, rfl, h1⟩
  · exact Sees.nil
  · exact Sees.all hrl h1
theorem Ext.spoil {h H H' : AH} {v : AV} (e : Ext h H) (a : Above h.length v) (hl : H'.length = H.length) (hs : ∀ i, Off v i → H'[i]? = H[i]?) : Ext h H' :=
  ⟨by have := e.len; omega, fun i hi => (hs i (a.off hi)).trans (e.get i hi)⟩
theorem ChangeG_call (G : Nat → Option AV) (p : Nat) (O : Nat → Prop) (s : Adm) (h : AH) (K : AV → AH → Prop) (a : AdmOf h p O s) (ok : s.Ok)
    (hk : ∀ v w h', Grew h h' → Kept h' v s.ch.was.wts → Kept h' w s.ch.will.wts → Above h.length w → K (.tup [.agg (s.ch.cells v w), .v (.bool s.chg.isSome)]) h') : SCall Tryz.prog G 60 [.ptr p 0 0 0] h K := by
  refine ChangeF_call G p O s h K a ok (fun hn h' g => ?_) (fun c hc v w h' g kv kw aw => ?_)
  · have hch : s.ch = zeroChg := by simp [Adm.ch, hn]
    have := hk nilA nilA h' g (by rw [hch]; exact .inl ⟨rfl, rfl⟩) (by rw [hch]; exact .inl ⟨rfl, rfl⟩) (fun id g o l c hx => by cases hx)
    rw [hch, hn] at this
    exact this
  · have hch : s.ch = c := by simp [Adm.ch, hc]
    have := hk v w h' g (by rw [hch]; exact kv) (by rw [hch]; exact kw) aw
    rw [hch, hc] at this
    exact this
theorem Lay.same_self (l : Lay) : l.same l = true := by simp [Lay.same]
theorem eqB (b : Bool) : aBin Tryz.prog .eql 4 (.v (.bool b)) (.v (.bool b)) = some (.v (.bool true)) := by cases b <;> kernel_rfl
theorem ch_len {s : Adm} (ok : s.Ok) : s.ch.was.wts.length ≤ 8 ∧ s.ch.will.wts.length ≤ 8 := by
  have hnc := ok.nc
  have hwl := ok.wts
  cases hs : s.chg with
  | none => simp [Adm.ch, hs, zeroChg]
  | some c =>
    obtain ⟨q1, q2, q3, q4, q5, q6⟩ := ok.chg c hs
    have hch : s.ch = c := by simp [Adm.ch, hs]
    rw [hch, q1]
    omega
theorem same18_bricks (G : Nat → Option AV) (p r : Nat) (O O' : Nat → Prop) (s : Adm) (h H : AH) (K : AV → AH → Prop) (a : AdmOf h p O s) (b : RefOf h r O' s) (ok : s.Ok) (eH : Ext h H) (hk : ∀ h', Ext h h' → K (.v (.bool true)) h') :
    Tryz.r18_l12_102 K h G (.ptr p 0 0 0) (.ptr r 0 0 0) H (-1) := by
  unfold Tryz.r18_l12_102
  have A := a.ext eH
  obtain ⟨bid, gb, C, rows, W, V1, V2, hb, own⟩ := b.ext eH
  obtain ⟨f1, f2, f3⟩ := hb.at
  obtain ⟨g1, g2, g3⟩ := hb.at0
  have hnb := ok.nb
  have hwl := ok.wts
  have hnc := ok.nc
  refine ⟨fun m vs h' => ∃ i : Nat, i ≤ s.bricks.length + 2 ∧ m = s.bricks.length + 2 - i ∧ h' = H ∧ vs = [.v (.int .i64 ((i : Int) - 1))], s.bricks.length + 2, ⟨0, by omega, rfl, rfl, rfl⟩, ?_⟩
  rintro m h' hl1 hlow2 n ⟨i, hi, rfl, rfl, hvs⟩
  simp only [List.cons.injEq, AV.v.injEq, Value.int.injEq, true_and, and_true] at hvs
  subst hvs
  have ew : IntKind.i64.wrap ((i : Int) - 1 + 1) = ((i + 1 : Nat) : Int) - 1 := by rw [wrap64_of (by omega) (by omega)]; omega
  by_cases hle : ((i : Int) - 1) ≤ s.bricks.length
  · have nxt : ∀ (I : Nat → List AV → AH → Prop) (ks : List (Option AV)) (z : Int), z = ((i + 1 : Nat) : Int) - 1 → (I = fun m vs h'' => ∃ i : Nat, i ≤ s.bricks.length + 2 ∧ m = s.bricks.length + 2 - i ∧ h'' = h' ∧ vs = [.v (.int .i64 ((i : Int) - 1))]) → nextR h' I (s.bricks.length + 2 - i) ks ks [.v (.int .i64 z)] h' := fun I ks z hz hI => by
      subst hI hz
      exact next_keep (s.bricks.length + 2 - (i + 1)) (by omega) (Nat.le_refl _) ⟨i + 1, by omega, rfl, rfl, rfl⟩
    simp (disch := omega) only [go_sem, Nat.one_ne_zero, two0, if_false, g1, g2, hle, decide_true, List.length_map]
    refine ⟨Brick_call G p O s _ _ _ A (fun k x hbk hx => ?_) (fun hout => ?_)⟩
    · have hkl : k < s.bricks.length := (List.getElem?_eq_some_iff.mp hx).1
      have hbr : (s.bricks.map bkrow)[k]? = some (bkrow x) := by rw [List.getElem?_map, hx]; rfl
      rw [hbk]
      simp (disch := omega) only [go_sem, Nat.one_ne_zero, two0, if_false, g1, g2, hbr, List.length_map]
      exact nxt _ _ _ (by omega) rfl
    · by_cases h0 : ((i : Int) - 1) < 0
      · simp (disch := omega) only [go_sem, Nat.one_ne_zero, two0, if_false, g1, g2, h0, List.length_map]
        exact nxt _ _ _ (by omega) rfl
      · have h1 : ((i : Int) - 1) ≥ s.bricks.length := by omega
        simp (disch := omega) only [go_sem, Nat.one_ne_zero, two0, if_false, g1, g2, h0, h1, List.length_map]
        exact nxt _ _ _ (by omega) rfl
  · simp (disch := omega) only [go_sem, Nat.one_ne_zero, two0, if_false, g1, g2, hle, decide_false, List.length_map]
    refine ⟨LayoutF_call G p O s _ _ A ok fun v h1 gr1 kv av => ?_⟩
    obtain ⟨t1, rfl⟩ := gr1.ex
    simp (disch := omega) only [go_sem, Nat.one_ne_zero, two0, if_false, kv.one, kv.cells]
    have A2 := A.ext (Ext.app (t1 ++ [some (AO.cells 43 2 [s.lay.cells v] 0)]))
    refine ⟨ChangeG_call G p O s _ _ A2 ok fun v2 w2 h2 gr2 k1 k2 aw => ?_⟩
    obtain ⟨t2, rfl⟩ := gr2.ex
    simp (disch := omega) only [go_sem, Nat.one_ne_zero, two0, if_false, kv.one, kv.cells, k1.one, k1.cells, k2.one, k2.cells, f1]
    obtain ⟨w1, w2'⟩ := ch_len ok
    have kvX : Kept (h' ++ (t1 ++ some (AO.cells 43 2 [[.v (.int .i64 s.lay.ver), v]] 0) :: (t2 ++ [some (AO.cells 49 6 [[.v (.int .i64 s.ch.was.ver), v2, .v (.int .i64 s.ch.will.ver), w2, .v (.string (bs s.ch.cur)), .v (.bool s.ch.fin)]] 0)]))) v s.lay.wts := by
      have := kv.app (some (AO.cells 43 2 [[.v (.int .i64 s.lay.ver), v]] 0) :: (t2 ++ [some (AO.cells 49 6 [[.v (.int .i64 s.ch.was.ver), v2, .v (.int .i64 s.ch.will.ver), w2, .v (.string (bs s.ch.cur)), .v (.bool s.ch.fin)]] 0)]))
      rwa [List.append_assoc] at this
    have k1X := k1.app [some (AO.cells 49 6 [[.v (.int .i64 s.ch.was.ver), v2, .v (.int .i64 s.ch.will.ver), w2, .v (.string (bs s.ch.cur)), .v (.bool s.ch.fin)]] 0)]
    have k2X := k2.app [some (AO.cells 49 6 [[.v (.int .i64 s.ch.was.ver), v2, .v (.int .i64 s.ch.will.ver), w2, .v (.string (bs s.ch.cur)), .v (.bool s.ch.fin)]] 0)]
    simp only [List.append_assoc, List.cons_append, List.nil_append] at k1X k2X
    have av2 : Apart w2 v := (kv.apart (aw.le (by simp))).symm
    generalize hHX : h' ++ (t1 ++ some (AO.cells 43 2 [[.v (.int .i64 s.lay.ver), v]] 0) :: (t2 ++ [some (AO.cells 49 6 [[.v (.int .i64 s.ch.was.ver), v2, .v (.int .i64 s.ch.will.ver), w2, .v (.string (bs s.ch.cur)), .v (.bool s.ch.fin)]] 0)])) = HX at *
    have eX : Ext h' HX := by rw [← hHX]; exact Ext.app _
    have bX := hb.ext eX
    obtain ⟨x1, x2, x3⟩ := bX.at0
    have o1 : HX[(h' ++ t1).length]? = some (some (AO.cells 43 2 [[.v (.int .i64 s.lay.ver), v]] 0)) := by rw [← hHX]; simp
    have o2 : HX[(h' ++ (t1 ++ some (AO.cells 43 2 [[.v (.int .i64 s.lay.ver), v]] 0) :: t2)).length]? = some (some (AO.cells 49 6 [[.v (.int .i64 s.ch.was.ver), v2, .v (.int .i64 s.ch.will.ver), w2, .v (.string (bs s.ch.cur)), .v (.bool s.ch.fin)]] 0)) := by rw [← hHX]; simp [Nat.add_assoc]
    have o1' : HX[h'.length + t1.length]? = some (some (AO.cells 43 2 [[.v (.int .i64 s.lay.ver), v]] 0)) := by rw [← o1, List.length_append]
    have o2' : HX[h'.length + (t1.length + (t2.length + 1))]? = some (some (AO.cells 49 6 [[.v (.int .i64 s.ch.was.ver), v2, .v (.int .i64 s.ch.will.ver), w2, .v (.string (bs s.ch.cur)), .v (.bool s.ch.fin)]] 0)) := by rw [← o2]; simp
    refine ⟨sameLayout_call G s.lay s.lay v W _ _ kvX.wt bX.wts.wt (by omega) ?_⟩
    rw [Lay.same_self]
    simp (disch := omega) only [go_sem, Nat.one_ne_zero, two0, if_false, x1, o1, o2, o1', o2', kvX.one, kvX.cells, k1X.one, k1X.cells, k2X.one, k2X.cells, bX.wts.one, bX.wts.cells, bX.c1.one, bX.c1.cells, bX.c2.one, bX.c2.cells]
    simp (disch := omega) only [go_sem, Nat.one_ne_zero, two0, if_false, x1, o1, o2, o1', o2', eqB]
    refine ⟨sameLayout_call G s.ch.was s.ch.was v2 V1 _ _ k1X.wt bX.c1.wt (by omega) ?_⟩
    rw [Lay.same_self]
    simp (disch := omega) only [go_sem, Nat.one_ne_zero, two0, if_false, x1, o1, o2, o1', o2', eqB, k1X.one, k1X.cells, k2X.one, k2X.cells, bX.wts.one, bX.wts.cells, bX.c1.one, bX.c1.cells, bX.c2.one, bX.c2.cells]
    refine ⟨sameLayout_call G s.ch.will s.ch.will w2 V2 _ _ k2X.wt bX.c2.wt (by omega) ?_⟩
    rw [Lay.same_self]
    simp (disch := omega) only [go_sem, Nat.one_ne_zero, two0, if_false, x1, o1, o2, o1', o2', eqB, kvX.one, kvX.cells, k1X.one, k1X.cells, k2X.one, k2X.cells, bX.wts.one, bX.wts.cells, bX.c1.one, bX.c1.cells, bX.c2.one, bX.c2.cells]
    refine ⟨spoilInts_call G v s.lay.wts (-7) _ _ kvX fun h3 hl3 hs3 => ?_⟩
    have o3 := (hs3 _ (kvX.offTy o2 (by decide))).trans o2
    have o3' := (hs3 _ (kvX.offTy o2' (by decide))).trans o2'
    have k3 : Kept h3 w2 s.ch.will.wts := k2X.offSet av2 hs3
    simp (disch := omega) only [go_sem, Nat.one_ne_zero, two0, if_false, o3, o3', k3.one, k3.cells]
    refine ⟨spoilInts_call G w2 s.ch.will.wts (-7) _ _ k3 fun h4 hl4 hs4 => ?_⟩
    simp (disch := omega) only [go_sem]
    have el := eH.len
    have e4 : Ext h h4 := ((eH.tr eX).spoil (av.le el) hl3 hs3).spoil (aw.le (by simp; omega)) hl4 hs4
    exact ret_keep (hk _ e4)
end Go.Proofs

/-
  The same state: chains, and the whole.
-/
namespace Go.Proofs
open Go Go.Abs
set_option maxRecDepth 100000
set_option linter.unusedSimpArgs false
theorem same18_chains (G : Nat → Option AV) (p r : Nat) (O O' : Nat → Prop) (s : Adm) (v : AV) (rows : List (List AV)) (h H : AH) (K : AV → AH → Prop) (a : AdmOf h p O s) (b : RefOf h r O' s) (ok : s.Ok) (eH : Ext h H) (hsl : ChSl H v rows) (hch : ChRows H rows s.chains) (sep : Sep h.length rows) (hk : ∀ h', Ext h h' → K (.v (.bool true)) h') :
    Tryz.r18_l5_7 G h K (.ptr p 0 0 0) (.ptr r 0 0 0) v H 0 := by
  unfold Tryz.r18_l5_7
  have hnc := ok.nc
  have hrl : ∀ x ∈ rows, x.length = 3 := by
    intro x hx
    obtain ⟨i, hi⟩ := List.mem_iff_getElem?.mp hx
    obtain ⟨c, hc⟩ : ∃ c, s.chains[i]? = some c := ⟨_, List.getElem?_eq_getElem (by rw [← hch.1]; exact (List.getElem?_eq_some_iff.mp hi).1)⟩
    obtain ⟨o, r, h1, _⟩ := hch.2 i c hc
    rw [hi] at h1
    cases h1
    rfl
  refine ⟨fun m vs h' => ∃ k : Nat, k ≤ s.chains.length ∧ m = s.chains.length - k ∧ Ext h h' ∧ H.length ≤ h'.length ∧ ChSl h' v rows ∧ (∀ (i : Nat) (c : Chn), k ≤ i → s.chains[i]? = some c → ∃ o r, rows[i]? = some (crow c o r) ∧ Kept h' o c.ord ∧ Kept h' r c.rep) ∧ vs = [.v (.int .i64 k)], s.chains.length, ⟨0, by omega, rfl, eH, Nat.le_refl _, hsl, fun i c _ hc => hch.2 i c hc, rfl⟩, ?_⟩
  rintro m h' hl1 hlow2 n ⟨k, hk1, rfl, eh, hle, sl, kp, hvs⟩
  simp only [List.cons.injEq, AV.v.injEq, Value.int.injEq, true_and, and_true] at hvs
  subst hvs
  have se := chSees sl hrl
  have lv : aLen Tryz.prog h' 102 v = some (.v (.int .i64 s.chains.length)) := by
    have := se.len (P := Tryz.prog) (t := 102) Tryz.und102
    rw [hch.1] at this
    exact this
  by_cases hkl : k < s.chains.length
  · obtain ⟨c, hc⟩ : ∃ c, s.chains[k]? = some c := ⟨_, List.getElem?_eq_getElem hkl⟩
    obtain ⟨o, rr, hr0, ko, kr⟩ := kp k c (Nat.le_refl _) hc
    obtain ⟨bid, gb, C, rws, W, V1, V2, hb, own⟩ := b.ext eh
    obtain ⟨g1, g2, g3⟩ := hb.at0
    obtain ⟨o', r', q, q0, q1, q2, w0, ko', kr', e1, e2, e3, e4, e5, e6, e7⟩ := hb.chain hc
    obtain ⟨u, u0, u1, u2, d1, d2, d3, d4, d5, d6, d7⟩ := chRow se hr0
    have hln := chain_len ok hc
    obtain ⟨s1, s2, s3⟩ := sep.lo k _ _ _ hr0
    simp (disch := omega) only [go_sem, Nat.one_ne_zero, two0, if_false, lv, g1, e1, e2, e3, e4, e5, e6, e7, d1, d2, d3, d4, d5, d6, d7, ko.one, ko.cells, kr.one, kr.cells, ko'.one, ko'.cells, kr'.one, kr'.cells]
    refine ⟨SameInts_call G o o' c.ord c.ord _ _ ko.ints ko'.ints (by omega) ?_⟩
    simp (disch := omega) only [go_sem, Nat.one_ne_zero, two0, if_false, beq_self_eq_true, lv, g1, e1, e2, e3, e4, e5, e6, e7, d1, d2, d3, d4, d5, d6, d7, ko.one, ko.cells, kr.one, kr.cells, ko'.one, ko'.cells, kr'.one, kr'.cells]
    refine ⟨SameInts_call G rr r' c.rep c.rep _ _ kr.ints kr'.ints (by omega) ?_⟩
    simp (disch := omega) only [go_sem, Nat.one_ne_zero, two0, if_false, beq_self_eq_true, d1, d2, d3, d4, d5, d6, d7, ko.one, ko.cells, kr.one, kr.cells]
    refine ⟨spoilInts_call G o c.ord (-7) _ _ ko fun h3 hl3 hs3 => ?_⟩
    have sl3 : ChSl h3 v rows := by
      rcases sl with h1 | ⟨id, g, h1, h2⟩
      · exact .inl h1
      · exact .inr ⟨id, g, h1, (hs3 _ (ko.offTy h2 (by decide))).trans h2⟩
    have kr3 : Kept h3 rr c.rep := kr.offSet s3.symm hs3
    have se3 := chSees sl3 hrl
    obtain ⟨u, u0, u1, u2, d1, d2, d3, d4, d5, d6, d7⟩ := chRow se3 hr0
    simp (disch := omega) only [go_sem, Nat.one_ne_zero, two0, if_false, d1, d2, d3, d4, d5, d6, d7, kr3.one, kr3.cells]
    refine ⟨spoilInts_call G rr c.rep (-7) _ _ kr3 fun h4 hl4 hs4 => ?_⟩
    have sl4 : ChSl h4 v rows := by
      rcases sl3 with h1 | ⟨id, g, h1, h2⟩
      · exact .inl h1
      · exact .inr ⟨id, g, h1, (hs4 _ (kr3.offTy h2 (by decide))).trans h2⟩
    simp (disch := omega) only [go_sem]
    refine next_keep (s.chains.length - (k + 1)) (by omega) (by omega) ⟨k + 1, by omega, rfl, (eh.spoil s1 hl3 hs3).spoil s2 hl4 hs4, by omega, sl4, fun i y hi hy => ?_, rfl⟩
    obtain ⟨o2, r2, t0, t1, t2⟩ := kp i y (by omega) hy
    obtain ⟨p1, p2, p3, p4⟩ := sep.ap k i _ _ _ _ _ _ (by omega) hr0 t0
    exact ⟨o2, r2, t0, (t1.offSet p1.symm hs3).offSet p3.symm hs4, (t2.offSet p2.symm hs3).offSet p4.symm hs4⟩
  · simp (disch := omega) only [go_sem, lv]
    exact same18_bricks G p r O O' s h h' K a b ok eh hk
theorem same18_call (G : Nat → Option AV) (p r : Nat) (O O' : Nat → Prop) (s : Adm) (h : AH) (K : AV → AH → Prop) (a : AdmOf h p O s) (b : RefOf h r O' s) (ok : s.Ok) (hk : ∀ h', Ext h h' → K (.v (.bool true)) h') : SCall Tryz.prog G 18 [.ptr p 0 0 0, .ptr r 0 0 0] h K := by
  refine Tryz.c18 G _ _ h K fun hlow => ?_
  unfold Tryz.r18
  refine ⟨ChainsF_call G p O s h _ a ok fun v h1 rows acc hch sep => ?_⟩
  obtain ⟨t, rfl⟩ := acc.tail
  obtain ⟨bid, gb, C, rws, W, V1, V2, hb, own⟩ := b.ext (Ext.app t)
  obtain ⟨g1, g2, g3⟩ := hb.at0
  have lv := acc.len (P := Tryz.prog) (t := 102) Tryz.und102
  rw [hch.1] at lv
  simp (disch := omega) only [go_sem, Nat.one_ne_zero, two0, if_false, lv, g1, g3]
  exact same18_chains G p r O O' s v rows h (h ++ t) K a b ok (Ext.app t) (AccR.chSl acc).1 hch sep hk
end Go.Proofs

/-
  An admin and the reference's, apart, in one heap; a list that is lent.
-/
namespace Go.Proofs
open Go Go.Abs
set_option maxRecDepth 100000
set_option linter.unusedSimpArgs false
/-- What is there is there, too. -/
def Sub (h h' : AH) : Prop := ∀ (i : Nat) (o : AO), h[i]? = some (some o) → h'[i]? = some (some o)
theorem Kept.sub {h h' : AH} {v : AV} {xs : List Int} (k : Kept h v xs) (s : Sub h h') : Kept h' v xs := k.keep fun i r g hi => s i _ hi
theorem ChSl.sub {h h' : AH} {C : AV} {rows : List (List AV)} (k : ChSl h C rows) (s : Sub h h') : ChSl h' C rows := by
  rcases k with h1 | ⟨id, g, h1, h2⟩
  · exact .inl h1
  · exact .inr ⟨id, g, h1, s _ _ h2⟩
theorem AdmAt.sub {h h' : AH} {p bid : Nat} {C W CH : AV} {rows : List (List AV)} {s : Adm} (a : AdmAt h p bid C rows W CH s) (hs : Sub h h') : AdmAt h' p bid C rows W CH s := by
  refine ⟨hs _ _ a.obj, hs _ _ a.bri, a.sl.sub hs, a.ch.keep fun i r g hi => hs i _ hi, a.wts.sub hs, ?_⟩
  have hc := a.chg
  cases hcc : s.chg with
  | none => rw [hcc] at hc; exact hc
  | some c =>
    rw [hcc] at hc
    obtain ⟨x, W1, W2, h1, h2, h3, h4⟩ := hc
    exact ⟨x, W1, W2, h1, hs _ _ h2, h3.sub hs, h4.sub hs⟩
theorem RefAt.sub {h h' : AH} {p bid gb : Nat} {C W V1 V2 : AV} {rows : List (List AV)} {s : Adm} (a : RefAt h p bid gb C rows W V1 V2 s) (hs : Sub h h') : RefAt h' p bid gb C rows W V1 V2 s :=
  ⟨hs _ _ a.obj, hs _ _ a.bri, a.sl.sub hs, a.ch.keep fun i r g hi => hs i _ hi, a.wts.sub hs, a.c1.sub hs, a.c2.sub hs⟩
section
variable {H : AH} {id g : Nat}
theorem cl_ne {i : Nat} {o : AO} (hid : H[id]? = some none) (hi : H[i]? = some (some o)) : i ≠ id := by
  rintro rfl
  rw [hid] at hi
  cases hi
theorem Kept.cl {v : AV} {xs : List Int} (k : Kept H v xs) (hid : H[id]? = some none) : Kept (clH id g H) v xs ∧ clV id g v = true := by
  rcases k with ⟨rfl, rfl⟩ | ⟨i, k, rs, rfl, h1, h2, h3⟩
  · exact ⟨.inl ⟨rfl, rfl⟩, rfl⟩
  · have hne := cl_ne hid h1
    obtain ⟨t1, t2⟩ := takeWhile_take (p := fun r => r.all (clV id g)) h2 (by
      intro x hx
      rw [h3] at hx
      obtain ⟨y, _, rfl⟩ := List.mem_map.mp hx
      rfl)
    exact ⟨.inr ⟨i, k, _, rfl, clH_cells h1, t1, by rw [t2, h3]⟩, by simp [clV, hne]⟩
theorem ChRows.cl {rows : List (List AV)} {l : List Chn} (k : ChRows H rows l) (hid : H[id]? = some none) : ChRows (clH id g H) rows l ∧ ∀ r ∈ rows, ∀ v ∈ r, clV id g v = true := by
  refine ⟨⟨k.1, fun i c hc => ?_⟩, fun r hr v hv => ?_⟩
  · obtain ⟨o, r, h1, h2, h3⟩ := k.2 i c hc
    exact ⟨o, r, h1, (h2.cl hid).1, (h3.cl hid).1⟩
  · obtain ⟨i, hi⟩ := List.mem_iff_getElem?.mp hr
    obtain ⟨c, hc⟩ : ∃ c, l[i]? = some c := ⟨_, List.getElem?_eq_getElem (by rw [← k.1]; exact (List.getElem?_eq_some_iff.mp hi).1)⟩
    obtain ⟨o, r', h1, h2, h3⟩ := k.2 i c hc
    rw [hi] at h1
    cases h1
    simp only [List.mem_cons, List.not_mem_nil, or_false] at hv
    rcases hv with rfl | rfl | rfl
    · rfl
    · exact (h2.cl hid).2
    · exact (h3.cl hid).2
theorem ChSl.cl {C : AV} {rows : List (List AV)} {l : List Chn} (k : ChSl H C rows) (hr : ChRows H rows l) (hid : H[id]? = some none) : ChSl (clH id g H) C rows ∧ clV id g C = true := by
  rcases k with ⟨rfl, rfl⟩ | ⟨i, k, rfl, h1⟩
  · exact ⟨.inl ⟨rfl, rfl⟩, rfl⟩
  · have hne := cl_ne hid h1
    exact ⟨.inr ⟨i, k, rfl, clH_keep h1 (hr.cl hid).2⟩, by simp [clV, hne]⟩
theorem bk_cl {l : List (Int × Int)} : ∀ r ∈ l.map bkrow, ∀ v ∈ r, clV id g v = true := by
  intro r hr v hv
  obtain ⟨b, _, rfl⟩ := List.mem_map.mp hr
  simp only [List.mem_cons, List.not_mem_nil, or_false] at hv
  rcases hv with rfl | rfl <;> rfl
theorem AdmAt.cl {p bid : Nat} {C W CH : AV} {rows : List (List AV)} {s : Adm} (a : AdmAt H p bid C rows W CH s) (hid : H[id]? = some none) : AdmAt (clH id g H) p bid C rows W CH s := by
  have hb := cl_ne hid a.bri
  obtain ⟨c1, c2⟩ := a.sl.cl (g := g) a.ch hid
  obtain ⟨w1, w2⟩ := a.wts.cl (g := g) hid
  have hch : clV id g CH = true ∧ ChgAt (clH id g H) CH s.chg := by
    have hc := a.chg
    cases hcc : s.chg with
    | none => rw [hcc] at hc; obtain rfl : CH = .v (.pointer none) := hc; exact ⟨rfl, rfl⟩
    | some c =>
      rw [hcc] at hc
      obtain ⟨x, W1, W2, rfl, h2, h3, h4⟩ := hc
      have hx := cl_ne hid h2
      refine ⟨by simp [clV, hx], x, W1, W2, rfl, clH_keep h2 ?_, (h3.cl hid).1, (h4.cl hid).1⟩
      intro r hr v hv
      simp only [List.mem_cons, List.not_mem_nil, or_false] at hr
      subst hr
      simp only [List.mem_cons, List.not_mem_nil, or_false] at hv
      rcases hv with rfl | rfl | rfl | rfl | rfl | rfl
      · rfl
      · exact (h3.cl hid).2
      · rfl
      · exact (h4.cl hid).2
      · rfl
      · rfl
  refine ⟨clH_keep a.obj ?_, clH_keep a.bri bk_cl, c1, (a.ch.cl hid).1, w1, hch.2⟩
  intro r hr v hv
  simp only [List.mem_cons, List.not_mem_nil, or_false] at hr
  subst hr
  simp only [List.mem_cons, List.not_mem_nil, or_false] at hv
  rcases hv with rfl | rfl | rfl | rfl | rfl
  · simp [clV, hb]
  · exact c2
  · rfl
  · exact w2
  · exact hch.1
theorem RefAt.cl {p bid gb : Nat} {C W V1 V2 : AV} {rows : List (List AV)} {s : Adm} (a : RefAt H p bid gb C rows W V1 V2 s) (hid : H[id]? = some none) : RefAt (clH id g H) p bid gb C rows W V1 V2 s := by
  have hb := cl_ne hid a.bri
  obtain ⟨c1, c2⟩ := a.sl.cl (g := g) a.ch hid
  obtain ⟨w1, w2⟩ := a.wts.cl (g := g) hid
  obtain ⟨x1, x2⟩ := a.c1.cl (g := g) hid
  obtain ⟨y1, y2⟩ := a.c2.cl (g := g) hid
  refine ⟨clH_keep a.obj ?_, clH_keep a.bri bk_cl, c1, (a.ch.cl hid).1, w1, x1, y1⟩
  intro r hr v hv
  simp only [List.mem_cons, List.not_mem_nil, or_false] at hr
  subst hr
  simp only [rfrow, List.mem_cons, List.not_mem_nil, or_false] at hv
  rcases hv with rfl | rfl | rfl | rfl | rfl | rfl | rfl | rfl | rfl | rfl | rfl
  · simp [clV, hb]
  · exact c2
  · rfl
  · exact w2
  · rfl
  · rfl
  · exact x2
  · rfl
  · exact y2
  · rfl
  · rfl
end
/-- An admin and the reference's, apart. -/
def Duo (h : AH) (p r : Nat) (s s2 : Adm) : Prop := ∃ bid C rows W CH bid2 gb C2 rows2 W2 V1 V2, AdmAt h p bid C rows W CH s ∧ RefAt h r bid2 gb C2 rows2 W2 V1 V2 s2 ∧ ∀ i, Own p bid C i → ¬ Own r bid2 C2 i
theorem Duo.sub {h h' : AH} {p r : Nat} {s s2 : Adm} (d : Duo h p r s s2) (hs : Sub h h') : Duo h' p r s s2 := by
  obtain ⟨bid, C, rows, W, CH, bid2, gb, C2, rows2, W2, V1, V2, A, B, dis⟩ := d
  exact ⟨bid, C, rows, W, CH, bid2, gb, C2, rows2, W2, V1, V2, A.sub hs, B.sub hs, dis⟩
theorem Duo.cl {H : AH} {id g p r : Nat} {s s2 : Adm} (d : Duo H p r s s2) (hid : H[id]? = some none) : Duo (clH id g H) p r s s2 := by
  obtain ⟨bid, C, rows, W, CH, bid2, gb, C2, rows2, W2, V1, V2, A, B, dis⟩ := d
  exact ⟨bid, C, rows, W, CH, bid2, gb, C2, rows2, W2, V1, V2, A.cl hid, B.cl hid, dis⟩
theorem Duo.fst {h : AH} {p r : Nat} {s s2 : Adm} (d : Duo h p r s s2) : AdmOf h p (fun _ => True) s := by
  obtain ⟨bid, C, rows, W, CH, bid2, gb, C2, rows2, W2, V1, V2, A, B, dis⟩ := d
  exact ⟨bid, C, rows, W, CH, A, fun _ _ => trivial⟩
theorem Duo.snd {h : AH} {p r : Nat} {s s2 : Adm} (d : Duo h p r s s2) : RefOf h r (fun _ => True) s2 := by
  obtain ⟨bid, C, rows, W, CH, bid2, gb, C2, rows2, W2, V1, V2, A, B, dis⟩ := d
  exact ⟨bid2, gb, C2, rows2, W2, V1, V2, B, fun _ _ => trivial⟩
theorem AdmAt.own {h : AH} {p bid : Nat} {C W CH : AV} {rows : List (List AV)} {s : Adm} (a : AdmAt h p bid C rows W CH s) {i : Nat} (hi : Own p bid C i) : ∃ e n rs k, h[i]? = some (some (.cells e n rs k)) ∧ (e = 105 ∨ e = 101 ∨ e = 121) := by
  rcases hi with rfl | rfl | ⟨g, o, l, c, rfl⟩
  · exact ⟨_, _, _, _, a.obj, .inl rfl⟩
  · exact ⟨_, _, _, _, a.bri, .inr (.inl rfl)⟩
  · rcases a.sl with ⟨h1, _⟩ | ⟨id, g', h1, h2⟩
    · cases h1
    · cases h1
      exact ⟨_, _, _, _, h2, .inr (.inr rfl)⟩
theorem RefAt.own {h : AH} {p bid gb : Nat} {C W V1 V2 : AV} {rows : List (List AV)} {s : Adm} (a : RefAt h p bid gb C rows W V1 V2 s) {i : Nat} (hi : Own p bid C i) : ∃ e n rs k, h[i]? = some (some (.cells e n rs k)) ∧ (e = 108 ∨ e = 110 ∨ e = 121) := by
  rcases hi with rfl | rfl | ⟨g, o, l, c, rfl⟩
  · exact ⟨_, _, _, _, a.obj, .inl rfl⟩
  · exact ⟨_, _, _, _, a.bri, .inr (.inl rfl)⟩
  · rcases a.sl with ⟨h1, _⟩ | ⟨id, g', h1, h2⟩
    · cases h1
    · cases h1
      exact ⟨_, _, _, _, h2, .inr (.inr rfl)⟩
theorem Post.stay {h h' : AH} {p bid : Nat} {C W CH : AV} {rows : List (List AV)} {s s' : Adm} (A : AdmAt h p bid C rows W CH s) (hp : Post h p (Own p bid C) s' h') {i : Nat} {e : TypeId} {n k : Nat} {rs : List (List AV)} (hi : h[i]? = some (some (.cells e n rs k))) (he : e ≠ 105 ∧ e ≠ 101 ∧ e ≠ 121) : h'[i]? = some (some (.cells e n rs k)) := by
  rw [hp.fr i (List.getElem?_eq_some_iff.mp hi).1]
  · exact hi
  · intro ho
    obtain ⟨e', n', rs', k', h1, h2⟩ := A.own ho
    rw [hi] at h1
    cases h1
    rcases h2 with h2 | h2 | h2
    · exact he.1 h2
    · exact he.2.1 h2
    · exact he.2.2 h2
theorem RPost.stay {h h' : AH} {p bid gb : Nat} {C W V1 V2 : AV} {rows : List (List AV)} {s s' : Adm} (A : RefAt h p bid gb C rows W V1 V2 s) (hp : RPost h p (Own p bid C) s' h') {i : Nat} {e : TypeId} {n k : Nat} {rs : List (List AV)} (hi : h[i]? = some (some (.cells e n rs k))) (he : e ≠ 108 ∧ e ≠ 110 ∧ e ≠ 121) : h'[i]? = some (some (.cells e n rs k)) := by
  rw [hp.fr i (List.getElem?_eq_some_iff.mp hi).1]
  · exact hi
  · intro ho
    obtain ⟨e', n', rs', k', h1, h2⟩ := A.own ho
    rw [hi] at h1
    cases h1
    rcases h2 with h2 | h2 | h2
    · exact he.1 h2
    · exact he.2.1 h2
    · exact he.2.2 h2
theorem Duo.doA {h h' : AH} {p r bid bid2 gb : Nat} {C W CH C2 W2 V1 V2 : AV} {rows rows2 : List (List AV)} {s s2 s' : Adm} (A : AdmAt h p bid C rows W CH s) (B : RefAt h r bid2 gb C2 rows2 W2 V1 V2 s2) (dis : ∀ i, Own p bid C i → ¬ Own r bid2 C2 i) (hp : Post h p (Own p bid C) s' h') : Duo h' p r s' s2 := by
  have kp : Kp h h' := fun i rs k hi => hp.stay A hi (by decide)
  have B' : RefAt h' r bid2 gb C2 rows2 W2 V1 V2 s2 := by
    refine ⟨hp.stay A B.obj (by decide), hp.stay A B.bri (by decide), ?_, B.ch.keep kp, B.wts.keep kp, B.c1.keep kp, B.c2.keep kp⟩
    rcases B.sl with h1 | ⟨id, k, h1, h2⟩
    · exact .inl h1
    · exact .inr ⟨id, k, h1, by rw [hp.fr id (List.getElem?_eq_some_iff.mp h2).1 fun o => dis _ o (.inr (.inr ⟨_, _, _, _, h1⟩))]; exact h2⟩
  obtain ⟨bid', C', rows', W', CH', A', own⟩ := hp.adm
  refine ⟨bid', C', rows', W', CH', bid2, gb, C2, rows2, W2, V1, V2, A', B', fun i hi h2 => ?_⟩
  rcases own i hi with h1 | h1
  · exact dis i h1 h2
  · obtain ⟨e, n, rs, k, h3, _⟩ := B.own h2
    have := (List.getElem?_eq_some_iff.mp h3).1
    omega
theorem Duo.doR {h h' : AH} {p r bid bid2 gb : Nat} {C W CH C2 W2 V1 V2 : AV} {rows rows2 : List (List AV)} {s s2 s' : Adm} (A : AdmAt h p bid C rows W CH s) (B : RefAt h r bid2 gb C2 rows2 W2 V1 V2 s2) (dis : ∀ i, Own p bid C i → ¬ Own r bid2 C2 i) (hp : RPost h r (Own r bid2 C2) s' h') : Duo h' p r s s' := by
  have kp : Kp h h' := fun i rs k hi => hp.stay B hi (by decide)
  have A' : AdmAt h' p bid C rows W CH s := by
    refine ⟨hp.stay B A.obj (by decide), hp.stay B A.bri (by decide), ?_, A.ch.keep kp, A.wts.keep kp, ?_⟩
    · rcases A.sl with h1 | ⟨id, k, h1, h2⟩
      · exact .inl h1
      · exact .inr ⟨id, k, h1, by rw [hp.fr id (List.getElem?_eq_some_iff.mp h2).1 fun o => dis _ (.inr (.inr ⟨_, _, _, _, h1⟩)) o]; exact h2⟩
    · have hc := A.chg
      cases hcc : s.chg with
      | none => rw [hcc] at hc; exact hc
      | some c =>
        rw [hcc] at hc
        obtain ⟨x, W1, W2, h1, h2, h3, h4⟩ := hc
        exact ⟨x, W1, W2, h1, hp.stay B h2 (by decide), h3.keep kp, h4.keep kp⟩
  obtain ⟨bid', gb', C', rows', W', V1', V2', B', own⟩ := hp.adm
  refine ⟨bid, C, rows, W, CH, bid', gb', C', rows', W', V1', V2', A', B', fun i h2 hi => ?_⟩
  rcases own i hi with h1 | h1
  · exact dis i h2 h1
  · obtain ⟨e, n, rs, k, h3, _⟩ := A.own h2
    have := (List.getElem?_eq_some_iff.mp h3).1
    omega
end Go.Proofs
