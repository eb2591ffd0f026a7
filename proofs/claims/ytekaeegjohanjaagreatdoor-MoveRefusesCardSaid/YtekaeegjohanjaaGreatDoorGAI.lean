/-
  Contracts: tables that are none, or there twice, are refused.
-/
import Derived.Test.YtekaeegjohanjaaGreatDoorGAH
set_option linter.all false
namespace Go.Proofs
open Go Go.Abs
set_option maxRecDepth 100000
set_option linter.unusedSimpArgs false
def optP : Option Nat → AV
  | none => .v (.pointer none)
  | some p => .ptr p 0 0 0
abbrev oprow (o : Option Nat) : List AV := [optP o]
/-- Tables in a list, of which some may be none. -/
structure PtrsAt (h : AH) (a : AV) (L : List (Option Nat)) : Prop where
  own : Own 87 1 h a (L.map oprow)
  obj : ∀ p, some p ∈ L → ∃ x, h[p]? = some (some (.cells 160 1 [[x]] 0))
theorem PtrsAt.grew {h h' : AH} {a : AV} {L : List (Option Nat)} (P : PtrsAt h a L) (g : Grew h h') : PtrsAt h' a L :=
  ⟨by obtain ⟨t, rfl⟩ := g.ex; exact P.own.more t, fun p hp => by obtain ⟨x, hx⟩ := P.obj p hp; exact ⟨x, g.get hx⟩⟩
/-- One is none, or there already. -/
def BadL (L : List (Option Nat)) (k : Nat) : Prop := L[k]? = some none ∨ ∃ p, L[k]? = some (some p) ∧ some p ∈ L.take k
theorem ptrEqNil : aBin Tryz.prog .eql 87 (.v (.pointer none)) (.v (.pointer none)) = some (.v (.bool true)) := by kernel_rfl
theorem shelvesBad_call (G : Nat → Option AV) (a : AV) (L : List (Option Nat)) (h : AH) (K : AV → AH → Prop) (T : PtrsAt h a L) (hl : L.length ≤ 1000) (hbad : ∃ k, BadL L k)
    (hk : ∀ t, K (.tup [.v (.slice none 0 0), .v (.bool false)]) (h ++ t)) : SCall Tryz.prog G 67 [a] h K := by
  refine Tryz.c67 G _ h K fun hlow => ?_
  unfold Tryz.r67
  have la := T.own.sees.len (P := Tryz.prog) (t := 51) Tryz.und51
  rw [List.length_map] at la
  simp (disch := omega) only [go_sem, la]
  unfold Tryz.r67_l3_1
  refine ⟨fun m vs H => ∃ (k : Nat) (x : AV) (qs : List Nat), k ≤ L.length ∧ m = L.length - k ∧ L.take k = qs.map some ∧ qs.Nodup ∧ Mine 141 1 H x (qs.map irowS) ∧ Grew h H ∧ (∀ j, j < h.length → Off x j) ∧ vs = [x, .v (.int .i64 k)], L.length, ⟨0, _, [], by omega, rfl, by simp, List.nodup_nil, by simpa using Mine.nil, ⟨[], by simp⟩, (fun id _ _ g o l c hx => by cases hx), rfl⟩, ?_⟩
  rintro m H hl1 hlow2 x' n ⟨k, x, qs, hkk, rfl, hqs, hqn, mi, g, offs, hvs⟩
  simp only [List.cons.injEq, AV.v.injEq, Value.int.injEq, true_and, and_true] at hvs
  obtain ⟨rfl, rfl⟩ := hvs
  have gl := g.len
  have hql : qs.length = k := by
    have := congrArg List.length hqs
    simp at this
    omega
  have fin : ∀ t, RetR h K (.tup [.v (.slice none 0 0), .v (.bool false)]) (H ++ t) := fun t => by
    obtain ⟨u, hu⟩ := (g.trans (Grew.app t)).ex
    rw [hu]
    exact ret_keep (hk u)
  have fin0 : RetR h K (.tup [.v (.slice none 0 0), .v (.bool false)]) H := by
    have := fin []
    rwa [List.append_nil] at this
  by_cases hkl : k < L.length
  rotate_left
  · exfalso
    have hke : k = L.length := by omega
    rw [List.take_of_length_le (by omega)] at hqs
    obtain ⟨j, hj⟩ := hbad
    rw [hqs] at hj
    rcases hj with hj | ⟨p, hj, hm⟩
    · rw [List.getElem?_map] at hj
      cases h : qs[j]? with
      | none => rw [h] at hj; cases hj
      | some q => rw [h] at hj; cases hj
    · rw [List.getElem?_map] at hj
      rw [← List.map_take, List.mem_map] at hm
      obtain ⟨q, hq, hqp⟩ := hm
      obtain rfl : q = p := Option.some.inj hqp
      cases h : qs[j]? with
      | none => rw [h] at hj; cases hj
      | some q' =>
        rw [h] at hj
        obtain rfl : q' = q := Option.some.inj (Option.some.inj hj)
        obtain ⟨i, hi⟩ := List.mem_iff_getElem?.mp hq
        rw [List.getElem?_take] at hi
        split at hi
        · rename_i hij
          obtain ⟨a1, a2⟩ := List.getElem?_eq_some_iff.mp hi
          obtain ⟨b1, b2⟩ := List.getElem?_eq_some_iff.mp h
          have := (List.pairwise_iff_getElem.mp hqn) i j a1 b1 hij
          rw [a2, b2] at this
          exact this rfl
        · cases hi
  obtain ⟨o, hok⟩ : ∃ o, L[k]? = some o := ⟨_, List.getElem?_eq_getElem hkl⟩
  have TG := T.grew g
  have ew : IntKind.i64.wrap ((k : Int) + 1) = ((k + 1 : Nat) : Int) := by rw [wrap64_of (by omega) (by omega)]; omega
  obtain ⟨q, q1, q2, _⟩ := TG.own.sees.iaAll (P := Tryz.prog) (ty := 51) (k := .i64) (i := (k : Int)) (r := oprow o) Tryz.und51 Tryz.siz87 (by omega) (by simp [hok])
  have q1 := q1 []
  have q2 := q2 []
  rw [List.append_nil] at q1 q2
  cases o with
  | none =>
    have q2 : Go.Abs.rowAt H q = some ([.v (.pointer none)], 0) := q2
    simp (disch := omega) only [go_sem, ptrEqNil, q1, q2]
    exact fin0
  | some p =>
    have q2 : Go.Abs.rowAt H q = some ([.ptr p 0 0 0], 0) := q2
    obtain ⟨c, c1, c2⟩ := TG.own.upto (P := Tryz.prog) (t := 51) (k := .i64) Tryz.und51 Tryz.siz87 (m := k) (by simp; omega)
    have c1 := c1 []
    rw [List.append_nil] at c1
    have c2 : Own 87 1 H c (qs.map prow) := by
      have := c2
      rw [← List.map_take, hqs, List.map_map] at this
      exact this
    have hmem : ∀ q ∈ qs, some q ∈ L := fun q hq => List.mem_of_mem_take (by rw [hqs]; exact List.mem_map.mpr ⟨q, hq, rfl⟩)
    simp (disch := omega) only [go_sem, ↓ptrEq0, ptrEq0, q1, q2, c1]
    refine ⟨tabContains_call G c qs p H _ c2.sees (by omega) (TG.obj p (List.mem_of_getElem? hok)) (fun q hq => TG.obj q (hmem q hq)) ?_⟩
    by_cases hpm : p ∈ qs
    · rw [decide_eq_true hpm]
      simp (disch := omega) only [go_sem]
      exact fin0
    · rw [decide_eq_false hpm]
      simp (disch := omega) only [go_sem]
      refine (mi.more _).pushAt (i := H.length) (g := 0) (row := irowS p) (e' := 141) (by simp) Tryz.und137 shelfZero shelfByt shelfPlain rfl (by rw [List.length_map]; omega) (by rw [List.length_map]; omega) fun v' H' m' hle st => ?_
      simp only [List.length_append, List.length_cons, List.length_nil] at hle
      have below : ∀ j, j < h.length → H'[j]? = H[j]? ∧ Off v' j := fun j hj => by
        obtain ⟨e1, e2⟩ := st j (by simp; omega) (offs j hj)
        rw [e1, List.getElem?_append_left (by omega)]
        exact ⟨rfl, e2⟩
      obtain ⟨t2, ht2⟩ := g.ex
      refine next_keep (L.length - (k + 1)) (by omega) (by omega) ⟨k + 1, v', qs ++ [p], by omega, rfl, ?_, ?_, ?_, Grew.mk (ext_of (h := h) (h' := H') (by omega) fun j hj => by rw [(below j hj).1, ht2, List.getElem?_append_left hj]), fun j hj => (below j hj).2, by simp [ew]⟩
      · rw [List.take_add_one, hok, hqs]; simp
      · rw [List.nodup_append]
        refine ⟨hqn, by simp, fun a ha b hb => ?_⟩
        rw [List.mem_singleton] at hb
        rw [hb]
        exact fun e => hpm (e ▸ ha)
      · rw [List.map_append]
        exact m'
theorem mvCheckBad_call (G : Nat → Option AV) (c : Chg) (W1 W2 a : AV) (L : List (Option Nat)) (h : AH) (K : AV → AH → Prop) (k1 : Wt h W1 c.was.wts) (k2 : Wt h W2 c.will.wts) (hl1 : c.was.wts.length ≤ 1000000) (hl2 : c.will.wts.length ≤ 1000000) (hcl : c.cur.length ≤ 4611686018427387904) (T : PtrsAt h a L) (hl : L.length ≤ 1000) (hbad : ∃ k, BadL L k) (hok : c.ok = true)
    (hk : K (.v (.int .i64 4)) h) : SCall Tryz.prog G 24 [.agg (c.cells W1 W2), a] h K := by
  refine Tryz.c24 G _ _ h K fun hlow => ?_
  unfold Tryz.r24
  have w11 := k1.one
  have w12 := k1.cells
  have w21 := k2.one
  have w22 := k2.cells
  simp (disch := omega) only [go_sem, w11, w12, w21, w22, Nat.reduceAdd]
  refine ⟨chgCheck_call G c W1 W2 _ _ (k1.app _) (k2.app _) (by omega) (by omega) hcl ?_⟩
  rw [hok]
  simp (disch := omega) only [go_sem, if_true]
  refine ⟨shelvesBad_call G a L _ _ (T.grew (Grew.app _)) hl hbad fun t => ?_⟩
  simp (disch := omega) only [go_sem, extV, Bool.not_false]
  exact ret_tail hlow .v hk
theorem mvStepBad_call (G : Nat → Option AV) (c : Chg) (W1 W2 a : AV) (L : List (Option Nat)) (most : Int) (h : AH) (K : AV → AH → Prop) (k1 : Wt h W1 c.was.wts) (k2 : Wt h W2 c.will.wts) (hl1 : c.was.wts.length ≤ 1000000) (hl2 : c.will.wts.length ≤ 1000000) (hcl : c.cur.length ≤ 4611686018427387904) (T : PtrsAt h a L) (hl : L.length ≤ 1000) (hbad : ∃ k, BadL L k) (hok : c.ok = true)
    (hk : ∀ t, K (.tup [.agg (zeroChg.cells nilA nilA), .v (.int .i64 0), .v (.int .i64 4)]) (h ++ t)) : SCall Tryz.prog G 28 [.agg (c.cells W1 W2), a, .v (.int .i64 most)] h K := by
  refine Tryz.c28 G _ _ _ h K fun hlow => ?_
  unfold Tryz.r28
  have w11 := k1.one
  have w12 := k1.cells
  have w21 := k2.one
  have w22 := k2.cells
  simp (disch := omega) only [go_sem, w11, w12, w21, w22, Nat.reduceAdd]
  refine ⟨mvCheckBad_call G c W1 W2 a L _ _ (k1.app _) (k2.app _) hl1 hl2 hcl (T.grew (Grew.app _)) hl hbad hok ?_⟩
  simp (disch := omega) only [go_sem, w11, w12, w21, w22, Nat.reduceAdd]
  exact ret_keep (hk _)
theorem mvDoBad_call (G : Nat → Option AV) (c : Chg) (W1 W2 a a2 : AV) (L : List (Option Nat)) (h : AH) (K : AV → AH → Prop) (k1 : Wt h W1 c.was.wts) (k2 : Wt h W2 c.will.wts) (hl1 : c.was.wts.length ≤ 1000000) (hl2 : c.will.wts.length ≤ 1000000) (hcl : c.cur.length ≤ 4611686018427387904) (T : PtrsAt h a L) (hl : L.length ≤ 1000) (hbad : ∃ k, BadL L k) (hok : c.ok = true)
    (hk : ∀ t, K (.tup [nilA, .agg [.v (.int .i64 0), .v (.int .i64 4)]]) (h ++ t)) : SCall Tryz.prog G 36 [.agg (c.cells W1 W2), a, a2] h K := by
  refine Tryz.c36 G _ _ _ h K fun hlow => ?_
  unfold Tryz.r36
  have w11 := k1.one
  have w12 := k1.cells
  have w21 := k2.one
  have w22 := k2.cells
  simp (disch := omega) only [go_sem, w11, w12, w21, w22, Nat.reduceAdd]
  refine ⟨mvCheckBad_call G c W1 W2 a L _ _ (k1.app _) (k2.app _) hl1 hl2 hcl (T.grew (Grew.app _)) hl hbad hok ?_⟩
  simp (disch := omega) only [go_sem, w11, w12, w21, w22, Nat.reduceAdd]
  exact ret_keep (hk _)
end Go.Proofs
