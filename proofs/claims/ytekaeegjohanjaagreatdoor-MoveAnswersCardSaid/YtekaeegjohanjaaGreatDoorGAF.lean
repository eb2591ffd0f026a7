/-
  Contracts: operations that may be.
-/
import Derived.Test.YtekaeegjohanjaaGreatDoorGAE
import Derived.KernelRfl
import Derived.Test.YtekaeegjohanjaaGreatDoorAbH
import Derived.Shelf.Small.Strs
import Derived.Test.YtekaeegjohanjaaGreatDoorProg
import Derived.Test.YtekaeegjohanjaaGreatDoorGAA
import Derived.Test.YtekaeegjohanjaaGreatDoorAbI
import Derived.Test.YtekaeegjohanjaaGreatDoorGAD
set_option linter.all false
namespace Go.Proofs
open Go Go.Abs
set_option maxRecDepth 100000
set_option linter.unusedSimpArgs false
structure OpA where
  kind : Int
  key : List UInt8
  val : List UInt8
  stamp : Int
  test : Int
  most : Int
abbrev OpA.cells (x : OpA) : List AV := [.v (.int .i64 x.kind), .v (.string (bs x.key)), .v (.string (bs x.val)), .v (.int .i64 x.stamp), .v (.int .i64 x.test), .v (.int .i64 x.most)]
theorem opIn_call (G : Nat → Option AV) (n a b : Int) (h : AH) (K : AV → AH → Prop) (hk : K (.v (.bool (decide (a ≤ n) && decide (n ≤ b)))) h) : SCall Tryz.prog G 126 [.v (.int .i64 n), .v (.int .i64 a), .v (.int .i64 b)] h K := by
  refine Tryz.c126 G _ _ _ h K fun hlow => ?_
  unfold Tryz.r126
  by_cases h1 : a ≤ n
  · rw [decide_eq_true h1, Bool.true_and] at hk
    simp (disch := omega) only [go_sem]
    exact ret_same hk
  · rw [decide_eq_false h1, Bool.false_and] at hk
    simp (disch := omega) only [go_sem]
    exact ret_same hk
def keyOk (s : List UInt8) : Bool := decide (1 ≤ (s.length : Int)) && decide ((s.length : Int) ≤ 64)
theorem opKey_call (G : Nat → Option AV) (s : List UInt8) (h : AH) (K : AV → AH → Prop) (hk : K (.v (.bool (keyOk s))) h) : SCall Tryz.prog G 125 [.v (.string (bs s))] h K := by
  refine Tryz.c125 G _ h K fun hlow => ?_
  unfold Tryz.r125
  simp (disch := omega) only [go_sem]
  refine ⟨opIn_call G _ _ _ _ _ ?_⟩
  have e : keyOk s = decide (1 ≤ (s.length : Int) ∧ (s.length : Int) ≤ 64) := by unfold keyOk; simp
  rw [e] at hk
  simp (disch := omega) only [go_sem]
  exact ret_same hk
theorem neqOp (k : Int) (a b : ByteArray) (s t m : Int) : aBin Tryz.prog .neq 89 (.agg [.v (.int .i64 k), .v (.string a), .v (.string b), .v (.int .i64 s), .v (.int .i64 t), .v (.int .i64 m)]) (.agg [.v (.int .i64 0), .v (.string (ByteArray.mk #[])), .v (.string (ByteArray.mk #[])), .v (.int .i64 0), .v (.int .i64 0), .v (.int .i64 0)]) =
    some (.v (.bool (!(k == 0 && (a.toList == (ByteArray.mk #[]).toList && (b.toList == (ByteArray.mk #[]).toList && (s == 0 && (t == 0 && (m == 0 && true))))))))) := by kernel_rfl
def OpA.base (x : OpA) : Bool := keyOk x.key && (decide (0 ≤ x.test) && decide (x.test ≤ 1099511627776))
def OpA.ok (x : OpA) : Bool :=
  if x.kind = 1 ∨ x.kind = 2 ∨ x.kind = 3 then x.base && decide ((x.val.length : Int) ≤ 8192) && (decide (1 ≤ x.stamp) && decide (x.stamp ≤ 1099511627776)) && (decide (x.kind ≠ 1) || x.test == 0) && x.most == 0
  else if x.kind = 4 ∨ x.kind = 5 then x.base && x.val == [] && x.stamp == 0 && x.most == 0
  else if x.kind = 6 then decide ((x.key.length : Int) ≤ 64) && (decide (1 ≤ x.most) && decide (x.most ≤ 100)) && x.val == [] && x.stamp == 0 && x.test == 0
  else false
/-- Nothing is left. -/
def OpA.zero (y : OpA) : Bool := y.kind == 0 && (y.key == [] && (y.val == [] && (y.stamp == 0 && (y.test == 0 && (y.most == 0 && true)))))
theorem op_j28 (x y : OpA) (h : AH) (K : AV → AH → Prop) (hlow : LowH h.length h) (b : Bool) (hk : K (.v (.int .i64 (if b && y.zero then 0 else 80))) h) :
    Tryz.r78_j28 K h (h.length + 1) b (h ++ [some (.cells 89 6 [x.cells] 0), some (.cells 89 6 [y.cells] 0)]) := by
  unfold Tryz.r78_j28
  cases b with
  | false =>
    simp (disch := omega) only [go_sem]
    exact ret_tail hlow .v hk
  | true =>
    have e := neqOp y.kind (bs y.key) (bs y.val) y.stamp y.test y.most
    simp only [bs_toList, show (ByteArray.mk #[]).toList = [] from bs_toList []] at e
    have e2 : (y.kind == 0 && (y.key == [] && (y.val == [] && (y.stamp == 0 && (y.test == 0 && (y.most == 0 && true)))))) = y.zero := rfl
    rw [e2] at e
    cases hz : y.zero with
    | false =>
      rw [hz] at e hk
      simp (disch := omega) only [go_sem, e, Bool.not_false]
      exact ret_tail hlow .v hk
    | true =>
      rw [hz] at e hk
      simp (disch := omega) only [go_sem, e, Bool.not_true]
      exact ret_tail hlow .v hk
theorem op_j38 (G : Nat → Option AV) (x : OpA) (h : AH) (K : AV → AH → Prop) (hlow : LowH h.length h) (hvl : x.val.length ≤ 4611686018427387904) (b16 : Bool) (hb : b16 = x.base) (h3 : x.kind = 1 ∨ x.kind = 2 ∨ x.kind = 3) (hk : K (.v (.int .i64 (if x.ok then 0 else 80))) h) :
    Tryz.r78_j38 G h K h.length b16 (h.length + 1) x.kind true (h ++ [some (.cells 89 6 [x.cells] 0), some (.cells 89 6 [OpA.cells ⟨0, [], x.val, x.stamp, x.test, x.most⟩] 0)]) := by
  unfold Tryz.r78_j38
  have e0 : (ByteArray.mk #[]) = bs [] := rfl
  have hok : x.ok = (x.base && decide ((x.val.length : Int) ≤ 8192) && (decide (1 ≤ x.stamp) && decide (x.stamp ≤ 1099511627776)) && (decide (x.kind ≠ 1) || x.test == 0) && x.most == 0) := by
    unfold OpA.ok
    rw [if_pos h3]
  rw [← hb] at hok
  have leaf : ∀ b57 : Bool, b57 = (b16 && decide ((x.val.length : Int) ≤ 8192) && (decide (1 ≤ x.stamp) && decide (x.stamp ≤ 1099511627776))) →
      Tryz.r78_j28 K h (h.length + 1) b57 (h ++ [some (.cells 89 6 [x.cells] 0), some (.cells 89 6 [OpA.cells ⟨0, [], [], 0, if x.kind = 1 then x.test else 0, x.most⟩] 0)]) := by
    intro b57 h57
    rw [← h57] at hok
    refine op_j28 x ⟨0, [], [], 0, if x.kind = 1 then x.test else 0, x.most⟩ h K hlow b57 ?_
    rw [hok] at hk
    have : (b57 && (decide (x.kind ≠ 1) || x.test == 0) && x.most == 0) = (b57 && OpA.zero ⟨0, [], [], 0, if x.kind = 1 then x.test else 0, x.most⟩) := by
      by_cases h1 : x.kind = 1 <;> simp [OpA.zero, h1, Bool.and_assoc]
    rw [this] at hk
    exact hk
  by_cases h1 : x.kind = 1
  all_goals
    simp only [h1, if_true, if_false] at leaf
    cases b16 with
    | false =>
      have l := leaf false rfl
      simp (disch := omega) only [go_sem, e0]
      exact l
    | true =>
      by_cases hv : (x.val.length : Int) ≤ 8192
      · simp (disch := omega) only [go_sem, e0]
        refine ⟨opIn_call G _ _ _ _ _ ?_⟩
        have l := leaf (decide (1 ≤ x.stamp) && decide (x.stamp ≤ 1099511627776)) (by rw [decide_eq_true hv]; rfl)
        generalize (decide (1 ≤ x.stamp) && decide (x.stamp ≤ 1099511627776)) = b57 at l ⊢
        simp (disch := omega) only [go_sem, e0]
        exact l
      · have l := leaf false (by rw [decide_eq_false hv]; rfl)
        simp (disch := omega) only [go_sem, e0]
        exact l
theorem op_j67 (G : Nat → Option AV) (x : OpA) (h : AH) (K : AV → AH → Prop) (hlow : LowH h.length h) (hkl : x.key.length ≤ 4611686018427387904) (b16 b65 : Bool) (hb : b16 = x.base) (h3 : ¬ (x.kind = 1 ∨ x.kind = 2 ∨ x.kind = 3)) (hb65 : b65 = decide (x.kind = 4 ∨ x.kind = 5)) (hk : K (.v (.int .i64 (if x.ok then 0 else 80))) h) :
    Tryz.r78_j67 K h G h.length b16 (h.length + 1) x.kind b65 (h ++ [some (.cells 89 6 [x.cells] 0), some (.cells 89 6 [OpA.cells ⟨0, [], x.val, x.stamp, x.test, x.most⟩] 0)]) := by
  unfold Tryz.r78_j67
  unfold OpA.ok at hk
  rw [if_neg h3] at hk
  by_cases h45 : x.kind = 4 ∨ x.kind = 5
  · rw [decide_eq_true h45] at hb65
    rw [if_pos h45, ← hb] at hk
    subst hb65
    have l := op_j28 x ⟨0, [], x.val, x.stamp, 0, x.most⟩ h K hlow b16 (by
      have : (b16 && OpA.zero ⟨0, [], x.val, x.stamp, 0, x.most⟩) = (b16 && x.val == [] && x.stamp == 0 && x.most == 0) := by simp [OpA.zero, Bool.and_assoc]
      rw [this]; exact hk)
    simp (disch := omega) only [go_sem]
    exact l
  · rw [decide_eq_false h45] at hb65
    rw [if_neg h45] at hk
    subst hb65
    by_cases h6 : x.kind = 6
    · rw [if_pos h6] at hk
      have leaf : ∀ b80 : Bool, b80 = (decide ((x.key.length : Int) ≤ 64) && (decide (1 ≤ x.most) && decide (x.most ≤ 100))) →
          Tryz.r78_j28 K h (h.length + 1) b80 (h ++ [some (.cells 89 6 [x.cells] 0), some (.cells 89 6 [OpA.cells ⟨0, [], x.val, x.stamp, x.test, 0⟩] 0)]) := by
        intro b80 h80
        refine op_j28 x ⟨0, [], x.val, x.stamp, x.test, 0⟩ h K hlow b80 ?_
        rw [← h80] at hk
        have : (b80 && OpA.zero ⟨0, [], x.val, x.stamp, x.test, 0⟩) = (b80 && x.val == [] && x.stamp == 0 && x.test == 0) := by simp [OpA.zero, Bool.and_assoc]
        rw [this]; exact hk
      by_cases hl : (x.key.length : Int) ≤ 64
      · simp (disch := omega) only [go_sem]
        refine ⟨opIn_call G _ _ _ _ _ ?_⟩
        have l := leaf (decide (1 ≤ x.most) && decide (x.most ≤ 100)) (by rw [decide_eq_true hl]; rfl)
        generalize (decide (1 ≤ x.most) && decide (x.most ≤ 100)) = b80 at l ⊢
        simp (disch := omega) only [go_sem]
        exact l
      · have l := leaf false (by rw [decide_eq_false hl]; rfl)
        simp (disch := omega) only [go_sem]
        exact l
    · rw [if_neg h6] at hk
      simp (disch := omega) only [go_sem]
      exact ret_tail hlow .v hk
theorem opCheck_call (G : Nat → Option AV) (x : OpA) (h : AH) (K : AV → AH → Prop) (hkl : x.key.length ≤ 4611686018427387904) (hvl : x.val.length ≤ 4611686018427387904)
    (hk : K (.v (.int .i64 (if x.ok then 0 else 80))) h) : SCall Tryz.prog G 78 [.agg x.cells] h K := by
  refine Tryz.c78 G _ h K fun hlow => ?_
  unfold Tryz.r78
  have e0 : (ByteArray.mk #[]) = bs [] := rfl
  simp (disch := omega) only [go_sem, Nat.reduceAdd]
  refine ⟨opKey_call G x.key _ _ ?_⟩
  have hb : OpA.base x = (keyOk x.key && (decide (0 ≤ x.test) && decide (x.test ≤ 1099511627776))) := rfl
  -- behind both tests
  have j38 : ∀ (b16 b : Bool), b16 = x.base → b = decide (x.kind = 1 ∨ x.kind = 2 ∨ x.kind = 3) → Tryz.r78_j38 G h K h.length b16 (h.length + 1) x.kind b (h ++ [some (.cells 89 6 [x.cells] 0), some (.cells 89 6 [OpA.cells ⟨0, [], x.val, x.stamp, x.test, x.most⟩] 0)]) := by
    intro b16 b h16 hbb
    by_cases h3 : x.kind = 1 ∨ x.kind = 2 ∨ x.kind = 3
    · rw [hbb, decide_eq_true h3]
      exact op_j38 G x h K hlow hvl b16 h16 h3 hk
    · rw [hbb, decide_eq_false h3]
      unfold Tryz.r78_j38
      by_cases h4 : x.kind = 4
      · have l := op_j67 G x h K hlow hkl b16 true h16 h3 (by rw [decide_eq_true (.inl h4)]) hk
        simp (disch := omega) only [go_sem]
        rw [decide_eq_true h4]
        exact l
      · have l := op_j67 G x h K hlow hkl b16 (decide (x.kind = 5)) h16 h3 (by by_cases h5 : x.kind = 5 <;> simp [h4, h5]) hk
        simp (disch := omega) only [go_sem]
        exact l
  have go : ∀ b16 : Bool, b16 = x.base → condB (x.kind == 1) (Tryz.r78_j38 G h K h.length b16 (h.length + 1) x.kind (x.kind == 1) (h ++ [some (.cells 89 6 [x.cells] 0), some (.cells 89 6 [OpA.cells ⟨0, [], x.val, x.stamp, x.test, x.most⟩] 0)]))
        (condB (x.kind == 2) (Tryz.r78_j38 G h K h.length b16 (h.length + 1) x.kind (x.kind == 2) (h ++ [some (.cells 89 6 [x.cells] 0), some (.cells 89 6 [OpA.cells ⟨0, [], x.val, x.stamp, x.test, x.most⟩] 0)]))
        (Tryz.r78_j38 G h K h.length b16 (h.length + 1) x.kind (x.kind == 3) (h ++ [some (.cells 89 6 [x.cells] 0), some (.cells 89 6 [OpA.cells ⟨0, [], x.val, x.stamp, x.test, x.most⟩] 0)]))) := by
    intro b16 h16
    by_cases h1 : x.kind = 1
    · have l := j38 b16 true h16 (by rw [decide_eq_true (.inl h1)])
      rw [show (x.kind == 1) = true by simp [h1], condB_true]
      exact l
    · by_cases h2 : x.kind = 2
      · have l := j38 b16 true h16 (by rw [decide_eq_true (.inr (.inl h2))])
        rw [show (x.kind == 1) = false by simp [h1], condB_false, show (x.kind == 2) = true by simp [h2], condB_true]
        exact l
      · have l := j38 b16 (x.kind == 3) h16 (by by_cases h3 : x.kind = 3 <;> simp [h1, h2, h3])
        rw [show (x.kind == 1) = false by simp [h1], condB_false, show (x.kind == 2) = false by simp [h2], condB_false]
        exact l
  -- the walk to there
  have walk : ∀ b16 : Bool, b16 = x.base →
      okV (aLoad Tryz.prog (h ++ [some (.cells 89 6 [x.cells] 0)]) 89 (.ptr h.length 0 0 0)) fun v17 =>
      newO (.cells 89 6 [[(.v (.int .i64 0)), (.v (.string (ByteArray.mk #[]))), (.v (.string (ByteArray.mk #[]))), (.v (.int .i64 0)), (.v (.int .i64 0)), (.v (.int .i64 0))]] 0) (h ++ [some (.cells 89 6 [x.cells] 0)]) fun i18 h19 =>
      storeR Tryz.prog h19 (fun v20 h21 => storeR Tryz.prog h21 (fun v22 h23 => storeR Tryz.prog h23 (fun v24 h25 =>
        okInt .i64 (aLoad Tryz.prog h25 3 (.ptr h.length 0 0 0)) fun n35 =>
        condB (n35 == 1) (Tryz.r78_j38 G h K h.length b16 i18 n35 (n35 == 1) h25)
        (condB (n35 == 2) (Tryz.r78_j38 G h K h.length b16 i18 n35 (n35 == 2) h25)
        (Tryz.r78_j38 G h K h.length b16 i18 n35 (n35 == 3) h25))) 3 (.v (.int .i64 0)) (.ptr i18 0 0 0)) 9 (.v (.string (ByteArray.mk #[]))) (.ptr i18 0 0 1)) 89 v17 (.ptr i18 0 0 0) := by
    intro b16 h16
    have l := go b16 h16
    generalize hA : Tryz.r78_j38 G h K h.length b16 = A at l ⊢
    by_cases h1 : x.kind = 1
    · rw [show (x.kind == 1) = true by simp [h1], condB_true] at l
      simp (disch := omega) only [go_sem, e0, Nat.reduceAdd, show (x.kind == 1) = true by simp [h1]]
      exact l
    · rw [show (x.kind == 1) = false by simp [h1], condB_false] at l
      by_cases h2 : x.kind = 2
      · rw [show (x.kind == 2) = true by simp [h2], condB_true] at l
        simp (disch := omega) only [go_sem, e0, Nat.reduceAdd, show (x.kind == 1) = false by simp [h1], show (x.kind == 2) = true by simp [h2]]
        exact l
      · rw [show (x.kind == 2) = false by simp [h2], condB_false] at l
        rw [show (x.kind == 3) = decide (x.kind = 3) by by_cases h : x.kind = 3 <;> simp [h]] at l
        simp (disch := omega) only [go_sem, e0, Nat.reduceAdd, show (x.kind == 1) = false by simp [h1], show (x.kind == 2) = false by simp [h2]]
        exact l
  cases hkey : keyOk x.key with
  | false =>
    have l := walk false (by rw [hb, hkey]; rfl)
    simp (disch := omega) only [okBool_mk, rGq_ft, rGe_ft, pickR_bool, cond_false]
    exact l
  | true =>
    simp (disch := omega) only [go_sem, Nat.reduceAdd]
    refine ⟨opIn_call G _ _ _ _ _ ?_⟩
    have hb2 : (decide (0 ≤ x.test) && decide (x.test ≤ 1099511627776)) = x.base := by rw [hb, hkey, Bool.true_and]
    generalize (decide (0 ≤ x.test) && decide (x.test ≤ 1099511627776)) = b16 at hb2 ⊢
    have l := walk b16 hb2
    simp (disch := omega) only [okBool_mk, pickR_bool, cond_true]
    exact l
end Go.Proofs

/-
  Contracts: requests that may be.
-/
namespace Go.Proofs
open Go Go.Abs
set_option maxRecDepth 100000
set_option linter.unusedSimpArgs false
theorem opIndex_call (G : Nat → Option AV) (a : AV) (ops : List OpA) (g : FuncId) (fi ca : List AV) (p : OpA → Bool) (h : AH) (K : AV → AH → Prop) (ha : Sees h 6 a (ops.map OpA.cells)) (hl : ops.length ≤ 1000000000000)
    (hc : ∀ x ∈ ops, ∀ (K : AV → AH → Prop), K (.v (.bool (p x))) h → SCall Tryz.prog G g (fi ++ .agg x.cells :: ca) h K)
    (hk1 : ∀ (k : Nat) x, ops[k]? = some x → p x = true → (∀ y ∈ ops.take k, p y = false) → K (.v (.int .i64 k)) h)
    (hk2 : (∀ x ∈ ops, p x = false) → K (.v (.int .i64 (-1))) h) : SCall Tryz.prog G 76 [a, .fn (.func g) fi ca] h K := by
  refine Tryz.c76 G _ _ h K fun hlow => ?_
  unfold Tryz.r76
  have la := ha.len (P := Tryz.prog) (t := 72) Tryz.und72
  rw [List.length_map] at la
  simp (disch := omega) only [go_sem, la]
  unfold Tryz.r76_l2_1
  refine ⟨fun m vs h' => ∃ k : Nat, k ≤ ops.length ∧ m = ops.length - k ∧ h' = h ∧ (∀ y ∈ ops.take k, p y = false) ∧ vs = [.v (.int .i64 k)], ops.length, ⟨0, by omega, rfl, rfl, by simp, rfl⟩, ?_⟩
  rintro m h' hl1 hlow2 n ⟨k, hkk, rfl, rfl, hno, hvs⟩
  simp only [List.cons.injEq, AV.v.injEq, Value.int.injEq, true_and, and_true] at hvs
  subst hvs
  by_cases hkl : k < ops.length
  · obtain ⟨x, hx⟩ : ∃ x, ops[k]? = some x := ⟨_, List.getElem?_eq_getElem hkl⟩
    obtain ⟨q, q1, q2, _⟩ := ha.iaAll (P := Tryz.prog) (ty := 72) (k := .i64) (i := k) (r := x.cells) Tryz.und72 Tryz.siz89 (by omega) (by simp [hx])
    have q1 := q1 []
    have q2 := q2 []
    rw [List.append_nil] at q1 q2
    have ew : IntKind.i64.wrap ((k : Int) + 1) = ((k + 1 : Nat) : Int) := by rw [wrap64_of (by omega) (by omega)]; omega
    simp (disch := omega) only [go_sem, q1, q2]
    refine ⟨hc x (List.mem_of_getElem? hx) _ ?_⟩
    cases hp : p x with
    | true =>
      simp (disch := omega) only [go_sem]
      exact ret_same (hk1 k x hx hp hno)
    | false =>
      simp (disch := omega) only [go_sem, ew]
      refine next_keep (ops.length - (k + 1)) (by omega) (Nat.le_refl _) ⟨k + 1, by omega, rfl, rfl, ?_, rfl⟩
      intro y hy
      rw [List.take_add_one, hx] at hy
      simp only [Option.toList_some, List.mem_append, List.mem_singleton] at hy
      rcases hy with hy | rfl
      · exact hno y hy
      · exact hp
  · simp (disch := omega) only [go_sem]
    have : k = ops.length := by omega
    subst this
    rw [List.take_length] at hno
    exact ret_same (hk2 hno)
/-- A request. -/
structure ReqA where
  client : Int
  seq : Int
  ops : List OpA
abbrev ReqA.cells (r : ReqA) (a : AV) : List AV := [.v (.int .i64 r.client), .v (.int .i64 r.seq), a]
def ReqA.ok (r : ReqA) : Bool := (decide (0 ≤ r.client) && decide (r.client ≤ 1000)) && ((decide (1 ≤ r.seq) && decide (r.seq ≤ 1048576)) && ((decide (1 ≤ (r.ops.length : Int)) && decide ((r.ops.length : Int) ≤ 32)) && !r.ops.any fun x => !x.ok))
end Go.Proofs

/-
  Contracts: a writer of fields.
-/
namespace Go.Proofs
open Go Go.Abs
set_option maxRecDepth 100000
set_option linter.unusedSimpArgs false
/-- A slice lies in no object of another type. -/
theorem AccR.offType {e e' : TypeId} {n n' : Nat} {h h' : AH} {x : AV} {rows r : List (List AV)} {j g : Nat} (c : AccR e n h x h' rows) (hj : h'[j]? = some (some (.cells e' n' r g))) (he : e' ≠ e) : Off x j := by
  intro id g' o l k hx hid
  subst hid
  cases c with
  | nil => cases hx
  | obj hr =>
    cases hx
    rw [Go.Abs.get_at] at hj
    cases hj
    exact he rfl
/-- A text as a field. -/
abbrev Fld.txt (s : List UInt8) : Fld := ⟨true, 0, s⟩
end Go.Proofs

/-
  Contracts: a request is written.
-/
namespace Go.Proofs
open Go Go.Abs
set_option maxRecDepth 100000
set_option linter.unusedSimpArgs false
def OpA.fields (x : OpA) : List Fld := [.num x.kind] ++ [.txt x.key, .txt x.val] ++ [.num x.stamp, .num x.test, .num x.most]
def ReqA.fields (r : ReqA) : List Fld := [.num r.client, .num r.seq, .num r.ops.length] ++ r.ops.flatMap OpA.fields
end Go.Proofs

/-
  Contracts: a reader of fields.
-/
namespace Go.Proofs
open Go Go.Abs
set_option maxRecDepth 100000
set_option linter.unusedSimpArgs false
/-- Objects but one stay. -/
def But (i : Nat) (h h' : AH) : Prop := h.length ≤ h'.length ∧ ∀ j, j < h.length → j ≠ i → h'[j]? = h[j]?
theorem But.refl {i : Nat} {h : AH} : But i h h := ⟨Nat.le_refl _, fun _ _ _ => rfl⟩
theorem But.trans {i : Nat} {a b c : AH} (x : But i a b) (y : But i b c) : But i a c := ⟨Nat.le_trans x.1 y.1, fun j hj hi => by
  have := x.1
  rw [y.2 j (by omega) hi, x.2 j hj hi]⟩
theorem But.app {i : Nat} {h : AH} (t : AH) : But i h (h ++ t) := ⟨by simp, fun j hj _ => List.getElem?_append_left hj⟩
theorem But.set {i : Nat} {h : AH} {o : Option AO} : But i h (h.set i o) := ⟨by simp, fun j _ hi => List.getElem?_set_ne (Ne.symm hi)⟩
theorem But.grew {h h' : AH} {i : Nat} (b : But i h h') {h0 : AH} (g : Grew h0 h) (hi : h0.length ≤ i) : Grew h0 h' := by
  obtain ⟨t, rfl⟩ := g.ex
  have hl := b.1
  rw [List.length_append] at hl
  refine ⟨h'.drop h0.length, ?_⟩
  conv => lhs; rw [← List.take_append_drop h0.length h']
  congr 1
  refine List.ext_getElem? fun j => ?_
  rw [List.getElem?_take]
  split
  · rename_i hj
    rw [b.2 j (by simp; omega) (by omega), List.getElem?_append_left hj]
  · rename_i hj; rw [List.getElem?_eq_none (by omega)]
end Go.Proofs

/-
  DERIVED: THE SHELF's CONTRACTS AT THIS DUMP, IN PLAIN WORDS (tools/lay-plain.mjs out of 'ZLayCS.lean', which tools/lay-shelf.mjs wrote): THE SAME DECLARATIONS UNDER THE SAME NAMES: 'import', 'namespace', 'open', 'def', 'theorem' AND NOTHING ELSE: no command of the shelf's: FOR A HAND-IN. Each laying: the table of numbers ('.._ren') and one theorem, a field a fact of the dump's own or the kernel's comparison; each contract: ONE APPLICATION.
-/
namespace Go.Proofs
open Go.Shelf
def Tryz.layCompare_ren : Go.Shelf.Ren := ⟨fun | 106 => 66 | 213 => 116 | 265 => 158 | n => n, fun | 9 => 9 | 3 => 3 | n => n, fun | n => n⟩
theorem Tryz.layCompare : Go.Proofs.Lays.n106 Tryz.prog Tryz.layCompare_ren := {
  mixed := by kernel_rfl
  f106 := Tryz.func66.trans (congrArg some (by kernel_rfl))
  f213 := Tryz.func116.trans (congrArg some (by kernel_rfl))
  f265 := Tryz.func158.trans (congrArg some (by kernel_rfl))
  t3 := Tryz.underlying3
  a3 := Tryz.isAgg3
  z3 := Tryz.sizeOf3
  v3 := Tryz.zeroValue3
  t9 := Tryz.underlying9
  a9 := Tryz.isAgg9
  z9 := Tryz.sizeOf9
  v9 := Tryz.zeroValue9 }
end Go.Proofs

/-
  Contracts: texts in order; a row's place; a table in the heap.
-/
namespace Go.Proofs
open Go Go.Abs
set_option maxRecDepth 100000
set_option linter.unusedSimpArgs false
theorem Compare_call (G : Nat → Option AV) (a b : List UInt8) (h : AH) (K : AV → AH → Prop) (hk : K (.v (.int .i64 (if bl a b = true then -1 else if a = b then 0 else 1))) h) : SCall Tryz.prog G 66 [.v (.string (bs a)), .v (.string (bs b))] h K := by
  rw [← cmpB] at hk
  refine scall_grown (xs := [.string (bs a), .string (bs b)]) (by kernel_rfl) (y := .int .i64 (Lib.compareBytes a b)) rfl ?_ hk
  rintro w ⟨ρ, hr⟩
  refine (Any.strings_Compare Tryz.layCompare (bs a) (bs b) w).mono ?_
  rintro e w' ⟨rfl, rfl⟩
  exact ⟨by simp [bs], 0, #[], rfl⟩
abbrev RowA.cells (r : RowA) : List AV := [.v (.string (bs r.key)), .v (.int .i64 r.stamp), .v (.string (bs r.val))]
theorem atCmp_call (G : Nat → Option AV) (r : RowA) (k : List UInt8) (h : AH) (K : AV → AH → Prop) (hk : ∀ t, K (.v (.int .i64 (if bl r.key k = true then -1 else if r.key = k then 0 else 1))) (h ++ t)) : SCall Tryz.prog G 131 [.agg r.cells, .v (.string (bs k))] h K := by
  refine Tryz.c131 G _ _ h K fun hlow => ?_
  unfold Tryz.r131
  simp (disch := omega) only [go_sem, Nat.reduceAdd]
  refine ⟨Compare_call G _ _ _ _ ?_⟩
  simp (disch := omega) only [go_sem, Nat.reduceAdd]
  exact ret_keep (hk _)
theorem tbSearch_call (G : Nat → Option AV) (v : AV) (l : List RowA) (k : List UInt8) (h : AH) (K : AV → AH → Prop) (hs : Sees h 3 v (l.map RowA.cells)) (hr : Rise l) (hl : l.length ≤ 1000000000)
    (hk : K (.tup [.v (.int .i64 (lbK l k)), .v (.bool (hasK l k))]) h) : SCall Tryz.prog G 130 [v, .v (.string (bs k)), .fn (.func 131) [] []] h K := by
  refine Tryz.c130 G _ _ _ h K fun hlow => ?_
  unfold Tryz.r130
  have la : aLen Tryz.prog h 47 v = some (.v (.int .i64 l.length)) := by
    have := hs.len (P := Tryz.prog) (t := 47) Tryz.und47
    rw [List.length_map] at this
    exact this
  simp (disch := omega) only [go_sem, la]
  unfold Tryz.r130_l3_1
  refine ⟨fun m vs h' => ∃ i j : Nat, i ≤ j ∧ j ≤ l.length ∧ m = j - i ∧ h' = h ∧ (∀ q r, q < i → l[q]? = some r → bl r.key k = true) ∧ (∀ q r, j ≤ q → l[q]? = some r → bl r.key k = false) ∧ vs = [.v (.int .i64 i), .v (.int .i64 j)], l.length, ⟨0, l.length, by omega, by omega, rfl, rfl, by simp, (by intro q p hq hp; rw [List.getElem?_eq_none hq] at hp; cases hp), rfl⟩, ?_⟩
  rintro m h' hl1 hlow2 n n' ⟨i, j, hij, hj, rfl, rfl, hlo, hhi, hvs⟩
  simp only [List.cons.injEq, AV.v.injEq, Value.int.injEq, true_and, and_true] at hvs
  obtain ⟨rfl, rfl⟩ := hvs
  have row : ∀ {q : Nat} {r : RowA}, l[q]? = some r → ∃ w, aIA Tryz.prog h' 47 v (.v (.int .i64 (q : Int))) = some w ∧ Go.Abs.rowAt h' w = some (r.cells, 0) := fun {q r} hq => hs.ia (P := Tryz.prog) (t := 47) (k := .i64) (i := (q : Int)) (r := r.cells) Tryz.und47 Tryz.siz131 (by omega) (by simp [hq])
  by_cases hlt : i < j
  · have e1 : IntKind.i64.wrap ((i : Int) + (j : Int)) = ((i + j : Nat) : Int) := by rw [wrap64_of (by omega) (by omega)]; omega
    have e2 : IntKind.u64.wrap ((i + j : Nat) : Int) = ((i + j : Nat) : Int) := by
      simp [IntKind.wrap, IntKind.bits, IntKind.signed]; omega
    have e3 : (((i + j : Nat) : Int)).fdiv 2 = (((i + j) / 2 : Nat) : Int) := by
      rw [Int.fdiv_eq_ediv_of_nonneg _ (by omega)]; omega
    have e4 : IntKind.i64.wrap ((((i + j) / 2 : Nat)) : Int) = (((i + j) / 2 : Nat) : Int) := wrap64_of (by omega) (by omega)
    have hmid : (i + j) / 2 < l.length := by omega
    obtain ⟨p, hp⟩ : ∃ p, l[(i + j) / 2]? = some p := ⟨_, List.getElem?_eq_getElem hmid⟩
    obtain ⟨q, q1, q2⟩ := row hp
    have hlow3 : ∀ a b : Nat, ∀ v ∈ [AV.v (.int .i64 (a : Int)), AV.v (.int .i64 (b : Int))], Low h'.length v := by
      intro a b v hv
      simp at hv
      rcases hv with rfl | rfl <;> exact .v
    simp (disch := omega) only [go_sem, e1, e2, ↓shr_half, e3, e4, q1, q2]
    refine ⟨atCmp_call G p k _ _ fun t => ?_⟩
    obtain ⟨m1, m2⟩ := List.getElem?_eq_some_iff.mp hp
    cases hc : bl p.key k with
    | true =>
      simp (disch := omega) only [go_sem, e4, if_true]
      have e5 : (((i + j) / 2 : Nat) : Int) + 1 = (((i + j) / 2 + 1 : Nat) : Int) := by omega
      rw [e5]
      refine next_drop (j - ((i + j) / 2 + 1)) (by omega) (Nat.le_refl _) hlow (hlow3 _ _) ⟨(i + j) / 2 + 1, j, by omega, hj, rfl, rfl, ?_, hhi, rfl⟩
      intro q r hq hrq
      by_cases he : q = (i + j) / 2
      · subst he; rw [hp] at hrq; cases hrq; exact hc
      · obtain ⟨k1, k2⟩ := List.getElem?_eq_some_iff.mp hrq
        have := List.pairwise_iff_getElem.mp hr q ((i + j) / 2) k1 m1 (by omega)
        rw [k2, m2] at this
        exact bl_trans this hc
    | false =>
      have ec : ¬ (if p.key = k then (0 : Int) else 1) < 0 := by split <;> omega
      simp (disch := omega) only [go_sem, e4, if_false, Bool.false_eq_true, ec, decide_false]
      refine next_drop ((i + j) / 2 - i) (by omega) (Nat.le_refl _) hlow (hlow3 _ _) ⟨i, (i + j) / 2, by omega, by omega, rfl, rfl, hlo, ?_, rfl⟩
      intro q r hq hrq
      by_cases he : q = (i + j) / 2
      · subst he; rw [hp] at hrq; cases hrq; exact hc
      · obtain ⟨k1, k2⟩ := List.getElem?_eq_some_iff.mp hrq
        have := List.pairwise_iff_getElem.mp hr ((i + j) / 2) q m1 k1 (by omega)
        rw [k2, m2] at this
        cases hd : bl r.key k with
        | false => rfl
        | true => rw [bl_trans this hd] at hc; cases hc
  · have hij' : i = j := by omega
    subst hij'
    have hlb : lbK l k = i := lbK_eq hj hlo (fun r hr => hhi i r (Nat.le_refl _) hr)
    unfold hasK at hk
    rw [hlb] at hk
    by_cases hir : i < l.length
    · obtain ⟨p, hp⟩ : ∃ p, l[i]? = some p := ⟨_, List.getElem?_eq_getElem hir⟩
      obtain ⟨q, q1, q2⟩ := row hp
      rw [hp] at hk
      simp (disch := omega) only [go_sem, q1, q2]
      refine ⟨atCmp_call G p k _ _ fun t => ?_⟩
      have hne := hhi i p (Nat.le_refl _) hp
      simp only [hne, Bool.false_eq_true, if_false]
      by_cases he : p.key = k
      · simp only [he, Option.any_some, decide_true] at hk
        simp (disch := omega) only [go_sem, he, if_true]
        exact ret_tail hlow (by simp [low_tup, low_v]) hk
      · simp only [he, Option.any_some, decide_false] at hk
        simp (disch := omega) only [go_sem, he, if_false]
        exact ret_tail hlow (by simp [low_tup, low_v]) hk
    · have hn : l[i]? = none := List.getElem?_eq_none (by omega)
      rw [hn] at hk
      simp (disch := omega) only [go_sem]
      exact ret_same hk
end Go.Proofs

/-
  A table in the heap; contracts: New, at, Len, splice, ends, Rows, Drop, Fork.
-/
namespace Go.Proofs
open Go Go.Abs
set_option maxRecDepth 100000
set_option linter.unusedSimpArgs false
/-- Rows stay. -/
def KeepT (h H : AH) : Prop := h.length ≤ H.length ∧ ∀ (j : Nat) (r : List (List AV)) (g : Nat), h[j]? = some (some (.cells 131 3 r g)) → H[j]? = some (some (.cells 131 3 r g))
theorem KeepT.refl (h : AH) : KeepT h h := ⟨Nat.le_refl _, fun _ _ _ h => h⟩
theorem KeepT.trans {a b c : AH} (x : KeepT a b) (y : KeepT b c) : KeepT a c := ⟨Nat.le_trans x.1 y.1, fun j r g h => y.2 j r g (x.2 j r g h)⟩
theorem KeepT.app (a t : AH) : KeepT a (a ++ t) := ⟨by simp, fun j r g h => by rw [List.getElem?_append_left (List.getElem?_eq_some_iff.mp h).1]; exact h⟩
theorem KeepT.grew {a b : AH} (g : Grew a b) : KeepT a b := by obtain ⟨t, rfl⟩ := g.ex; exact .app _ _
structure TabAt (h : AH) (p : Nat) (l : List RowA) : Prop where
  ex : ∃ a, h[p]? = some (some (.cells 160 1 [[a]] 0)) ∧ Own 131 3 h a (l.map RowA.cells)
  rise : Rise l
  len : l.length ≤ 1000000
theorem TabAt.lt {h : AH} {p : Nat} {l : List RowA} (T : TabAt h p l) : p < h.length := by
  obtain ⟨a, ho, _⟩ := T.ex
  exact (List.getElem?_eq_some_iff.mp ho).1
theorem TabAt.keep {h h' : AH} {p : Nat} {l : List RowA} (T : TabAt h p l) (hp : h'[p]? = h[p]?) (k : KeepT h h') : TabAt h' p l := by
  obtain ⟨a, ho, s⟩ := T.ex
  exact ⟨⟨a, hp.trans ho, s.keep k.2⟩, T.rise, T.len⟩
theorem TabAt.grew {h h' : AH} {p : Nat} {l : List RowA} (T : TabAt h p l) (g : Grew h h') : TabAt h' p l := by
  have hl := T.lt
  obtain ⟨t, rfl⟩ := g.ex
  exact T.keep (List.getElem?_append_left hl) (KeepT.app _ _)
theorem TabAt.wKeep {h h' : AH} {p : Nat} {l : List RowA} (T : TabAt h p l) (b : But p h h') : KeepT h h' := by
  obtain ⟨a, ho, _⟩ := T.ex
  refine ⟨b.1, fun j r g hj => ?_⟩
  rw [b.2 j (List.getElem?_eq_some_iff.mp hj).1 ?_]
  · exact hj
  · rintro rfl
    rw [ho] at hj
    cases hj
/-- Another table stays. -/
theorem TabAt.but {h h' : AH} {p q : Nat} {l m : List RowA} (T : TabAt h p l) (U : TabAt h q m) (b : But q h h') (hne : p ≠ q) : TabAt h' p l :=
  T.keep (b.2 p T.lt hne) (U.wKeep b)
theorem tbNew_call (G : Nat → Option AV) (h : AH) (K : AV → AH → Prop) (hk : TabAt (h ++ [some (.cells 160 1 [[.v (.slice none 0 0)]] 0)]) h.length [] → K (.ptr h.length 0 0 0) (h ++ [some (.cells 160 1 [[.v (.slice none 0 0)]] 0)])) : SCall Tryz.prog G 41 [] h K := by
  refine Tryz.c41 G h K fun hlow => ?_
  unfold Tryz.r41
  simp (disch := omega) only [go_sem]
  exact ret_keep (hk ⟨⟨_, by simp, .nil⟩, List.Pairwise.nil, by simp⟩)
theorem tbAt_call (G : Nat → Option AV) (p : Nat) (l : List RowA) (k : List UInt8) (h : AH) (K : AV → AH → Prop) (T : TabAt h p l)
    (hk : K (.tup [.v (.int .i64 (lbK l k)), .v (.bool (hasK l k))]) h) : SCall Tryz.prog G 89 [.ptr p 0 0 0, .v (.string (bs k))] h K := by
  refine Tryz.c89 G _ _ h K fun hlow => ?_
  unfold Tryz.r89
  obtain ⟨a, ho, s⟩ := T.ex
  have hl := T.len
  have a1 := s.one
  have a2 := s.cells
  simp (disch := omega) only [go_sem, ho, a1, a2]
  refine ⟨tbSearch_call G a l k h _ s.sees T.rise (by omega) ?_⟩
  simp (disch := omega) only [go_sem, extV]
  exact ret_same hk
theorem tbLen_call (G : Nat → Option AV) (p : Nat) (l : List RowA) (h : AH) (K : AV → AH → Prop) (T : TabAt h p l) (hk : K (.v (.int .i64 l.length)) h) : SCall Tryz.prog G 62 [.ptr p 0 0 0] h K := by
  refine Tryz.c62 G _ h K fun hlow => ?_
  unfold Tryz.r62
  obtain ⟨a, ho, s⟩ := T.ex
  have a1 := s.one
  have a2 := s.cells
  have la := s.sees.len (P := Tryz.prog) (t := 47) Tryz.und47
  rw [List.length_map] at la
  simp (disch := omega) only [go_sem, ho, a1, a2, la]
  exact ret_same hk
theorem tbSplice_call (G : Nat → Option AV) (p : Nat) (l new : List RowA) (m n : Nat) (x : AV) (h : AH) (K : AV → AH → Prop) (T : TabAt h p l) (hm : m ≤ l.length) (hn : n ≤ l.length) (hx : Sees h 3 x (new.map RowA.cells)) (hxs : ¬ ∃ s, x = .v (.string s)) (hnl : new.length ≤ 1000000)
    (hr : Rise (l.take m ++ new ++ l.drop n)) (hlen : (l.take m ++ new ++ l.drop n).length ≤ 1000000)
    (hk : ∀ h', TabAt h' p (l.take m ++ new ++ l.drop n) → But p h h' → K (.tup []) h') : SCall Tryz.prog G 134 [.ptr p 0 0 0, .v (.int .i64 m), .v (.int .i64 n), x] h K := by
  refine Tryz.c134 G _ _ _ _ h K fun hlow => ?_
  unfold Tryz.r134
  obtain ⟨a, ho, s⟩ := T.ex
  have pl := T.lt
  have hl := T.len
  have a1 := s.one
  have a2 := s.cells
  obtain ⟨x1, e1, hf⟩ := s.full (h0 := h) (P := Tryz.prog) (t := 47) (k := .i64) (k' := .i64) Tryz.und47 Tryz.siz131 (m := m) (by simpa using hm)
  obtain ⟨x2, e2, ht⟩ := s.from (P := Tryz.prog) (t := 47) (k := .i64) Tryz.und47 Tryz.siz131 (m := n) (by simpa using hn)
  have e2' := e2 []
  rw [List.append_nil] at e2'
  simp (disch := omega) only [go_sem, ho, a1, a2, e1, e2']
  have tl : (l.map RowA.cells |>.take m).length ≤ 1000000 := by simp; omega
  refine hf.append (Nat.le_refl _) Tryz.und47 Tryz.azero131 Tryz.byt131 (by exact Tryz.plainSrc47) hx.src (by simp) hxs (by simp; omega) (by simp; omega) fun v11 h12 hf2 hle st ty => ?_
  obtain ⟨t1, rfl⟩ := ext_of hle st
  have ho' : ∀ t : AH, (h ++ t)[p]? = _ := fun t => (List.getElem?_append_left pl).trans ho
  simp (disch := omega) only [go_sem, ho', a1, a2, e2]
  refine hf2.append hle Tryz.und47 Tryz.azero131 Tryz.byt131 (by exact Tryz.plainSrc47) (ht.more t1).sees.src ht.rowsLen (by
    rintro ⟨s, rfl⟩
    cases ht) (by simp; omega) (by simp; omega) fun v13 h14 hf3 hle2 st2 ty2 => ?_
  obtain ⟨t2, rfl⟩ := ext_of (h := h) (by omega) (fun j hj => (st2 j hj).trans (List.getElem?_append_left hj))
  have v1 := hf3.one
  have v2 := hf3.cells
  simp (disch := omega) only [go_sem, ho', v1, v2, Nat.one_ne_zero, if_false]
  refine ret_keep (hk _ ⟨⟨v13, by rw [List.getElem?_set_self (by simp; omega)], ?_⟩, hr, hlen⟩ ⟨by simp, fun j hj hne => ?_⟩)
  · have eR : (l.take m ++ new ++ l.drop n).map RowA.cells = (l.map RowA.cells).take m ++ new.map RowA.cells ++ (l.map RowA.cells).drop n := by simp
    rw [eR]
    refine hf3.own.keep fun id r g hi => ?_
    rw [List.getElem?_set_ne]
    · exact hi
    · rintro rfl
      rw [ho'] at hi
      cases hi
  · rw [List.getElem?_set_ne (Ne.symm hne), List.getElem?_append_left hj]
end Go.Proofs

/-
  Contracts: ends, Rows, Drop, Fork.
-/
namespace Go.Proofs
open Go Go.Abs
set_option maxRecDepth 100000
set_option linter.unusedSimpArgs false
theorem rowClone_call (G : Nat → Option AV) (a : AV) (l : List RowA) (h : AH) (K : AV → AH → Prop) (ha : Own 131 3 h a (l.map RowA.cells)) (hl : l.length ≤ 1000000000)
    (hk : ∀ v h', AccR 131 3 h v h' (l.map RowA.cells) → K v h') : SCall Tryz.prog G 94 [a] h K := by
  refine Tryz.c94 G _ h K fun hlow => ?_
  unfold Tryz.r94
  refine ha.sees.isNil Tryz.und47 ha.nn ?_ ?_
  · intro hx
    simp (disch := omega) only [go_sem]
    refine ret_keep (hk _ _ ?_)
    have := AccR.nil (e := 131) (n := 3) (h := h) (t := [])
    rw [List.append_nil] at this
    rw [hx]
    exact this
  · intro _
    simp (disch := omega) only [go_sem]
    have h0 : AccR 131 3 h (.sl h.length 0 0 0 none) (h ++ [some (.cells 131 3 [] 0)]) [] := @AccR.obj 131 3 h [] [] 0 [] (by simp)
    refine h0.append (new := l.map RowA.cells) Tryz.und47 Tryz.azero131 Tryz.byt131 (by exact Tryz.plainSrc47) (ha.more _).sees.src (by simp) (by
      rintro ⟨s, rfl⟩
      cases ha) (by simp; omega) (by simp; omega) ?_
    intro x' h'' hc _ _
    exact ret_keep (hk _ _ hc)
/-- Where a span's rows begin and end. -/
def endsK (l : List RowA) (a b : List UInt8) : Nat × Nat := (lbK l a, max (lbK l a) (if b = [] then l.length else lbK l b))
theorem endsK_le (l : List RowA) (a b : List UInt8) : (endsK l a b).1 ≤ (endsK l a b).2 ∧ (endsK l a b).2 ≤ l.length := by
  have h1 := lbK_le l a
  have h2 := lbK_le l b
  unfold endsK
  simp only
  split <;> omega
theorem tbEnds_call (G : Nat → Option AV) (p : Nat) (l : List RowA) (a b : List UInt8) (h : AH) (K : AV → AH → Prop) (T : TabAt h p l)
    (hk : K (.tup [.v (.int .i64 (endsK l a b).1), .v (.int .i64 (endsK l a b).2)]) h) : SCall Tryz.prog G 93 [.ptr p 0 0 0, .agg [.v (.string (bs a)), .v (.string (bs b))]] h K := by
  refine Tryz.c93 G _ _ h K fun hlow => ?_
  unfold Tryz.r93
  obtain ⟨x, ho, s⟩ := T.ex
  have pl := T.lt
  have hl := T.len
  have a1 := s.one
  have a2 := s.cells
  have ho' : ∀ t : AH, (h ++ t)[p]? = _ := fun t => (List.getElem?_append_left pl).trans ho
  have la : ∀ t, aLen Tryz.prog (h ++ t) 47 x = some (.v (.int .i64 l.length)) := fun t => by
    have := (s.more t).sees.len (P := Tryz.prog) (t := 47) Tryz.und47
    rw [List.length_map] at this
    exact this
  have hmax : ∀ x y : Nat, (if (x : Int) < (y : Int) then (y : Int) else (x : Int)) = ((max x y : Nat) : Int) := fun x y => by split <;> omega
  have hmax2 : ∀ x y : Nat, (if (y : Int) > (x : Int) then (y : Int) else (x : Int)) = ((max x y : Nat) : Int) := fun x y => by split <;> omega
  simp (disch := omega) only [go_sem, Nat.reduceAdd]
  refine ⟨tbAt_call G p l a _ _ (T.grew (Grew.app _)) ?_⟩
  unfold endsK at hk
  have hbe : (b == []) = decide (b = []) := by cases b <;> rfl
  by_cases hb : b = []
  · subst hb
    simp only [if_true] at hk
    simp (disch := omega) only [go_sem, extV, ho', a1, a2, la, Nat.reduceAdd, bs_toList, show (ByteArray.mk #[]).toList = [] from bs_toList [], beq_self_eq_true, Bool.not_true, aMinMax, if_true, hmax, hmax2]
    exact ret_tail hlow (by simp [low_tup, low_v]) hk
  · rw [if_neg hb] at hk
    have hbf : (b == []) = false := by rw [hbe]; simp [hb]
    simp (disch := omega) only [go_sem, extV, ho', a1, a2, la, Nat.reduceAdd, bs_toList, show (ByteArray.mk #[]).toList = [] from bs_toList [], hbf, Bool.not_false]
    refine ⟨tbAt_call G p l b _ _ (T.grew (Grew.app _)) ?_⟩
    simp (disch := omega) only [go_sem, extV, aMinMax, if_true, hmax, hmax2]
    exact ret_tail hlow (by simp [low_tup, low_v]) hk
theorem tbRows_call (G : Nat → Option AV) (p : Nat) (l : List RowA) (a b : List UInt8) (h : AH) (K : AV → AH → Prop) (T : TabAt h p l)
    (hk : ∀ v h', AccR 131 3 h v h' (((l.drop (endsK l a b).1).take ((endsK l a b).2 - (endsK l a b).1)).map RowA.cells) → K v h') : SCall Tryz.prog G 44 [.ptr p 0 0 0, .agg [.v (.string (bs a)), .v (.string (bs b))]] h K := by
  refine Tryz.c44 G _ _ h K fun hlow => ?_
  unfold Tryz.r44
  obtain ⟨x, ho, s⟩ := T.ex
  have pl := T.lt
  have hl := T.len
  have a1 := s.one
  have a2 := s.cells
  have hel := endsK_le l a b
  have ho' : ∀ t : AH, (h ++ t)[p]? = _ := fun t => (List.getElem?_append_left pl).trans ho
  simp (disch := omega) only [go_sem, Nat.reduceAdd]
  refine ⟨tbEnds_call G p l a b _ _ (T.grew (Grew.app _)) ?_⟩
  generalize endsK l a b = ft at hel hk
  obtain ⟨f, t⟩ := ft
  obtain ⟨x', e', so⟩ := s.cut (P := Tryz.prog) (t := 47) (k := .i64) (k' := .i64) Tryz.und47 Tryz.siz131 (lo := f) (hi := t) hel.1 (by simpa using hel.2)
  simp (disch := omega) only [go_sem, extV, ho', a1, a2, Nat.reduceAdd, e']
  have so2 : Own 131 3 h x' (((l.drop f).take (t - f)).map RowA.cells) := by simpa using so
  refine ⟨rowClone_call G x' _ _ _ (so2.more _) (by simp; omega) fun v h' acc => ?_⟩
  simp (disch := omega) only [go_sem]
  exact ret_keep (hk v h' acc.base)
theorem tbDrop_call (G : Nat → Option AV) (p : Nat) (l : List RowA) (a b : List UInt8) (h : AH) (K : AV → AH → Prop) (T : TabAt h p l)
    (hk : ∀ h', TabAt h' p (l.take (endsK l a b).1 ++ l.drop (endsK l a b).2) → But p h h' → K (.v (.int .i64 (((endsK l a b).2 - (endsK l a b).1 : Nat) : Int))) h') : SCall Tryz.prog G 223 [.ptr p 0 0 0, .agg [.v (.string (bs a)), .v (.string (bs b))]] h K := by
  refine Tryz.c223 G _ _ h K fun hlow => ?_
  unfold Tryz.r223
  have hl := T.len
  have hel := endsK_le l a b
  simp (disch := omega) only [go_sem, Nat.reduceAdd]
  refine ⟨tbEnds_call G p l a b _ _ (T.grew (Grew.app _)) ?_⟩
  generalize endsK l a b = ft at hel hk
  obtain ⟨f, t⟩ := ft
  simp only at hel hk
  simp (disch := omega) only [go_sem, extV, Nat.reduceAdd]
  have hsub : List.Sublist (l.take f ++ [] ++ l.drop t) l := by
    have h1 : l.drop t = (l.drop f).drop (t - f) := by rw [List.drop_drop]; congr 1; omega
    have h2 := List.Sublist.append (List.Sublist.refl (l.take f)) (List.drop_sublist (t - f) (l.drop f))
    rw [List.take_append_drop] at h2
    rw [List.append_nil, h1]
    exact h2
  refine ⟨tbSplice_call G p l [] f t _ _ _ (T.grew (Grew.app _)) (by omega) hel.2 Sees.nil (by simp) (by simp) (List.Pairwise.sublist hsub T.rise) (Nat.le_trans hsub.length_le T.len) fun h' T' b' => ?_⟩
  rw [List.append_nil] at T'
  have ew : IntKind.i64.wrap ((t : Int) - (f : Int)) = ((t - f : Nat) : Int) := by rw [wrap64_of (by omega) (by omega)]; omega
  simp (disch := omega) only [go_sem, ew]
  exact ret_keep (hk h' T' ((But.app _).trans b'))
end Go.Proofs

/-
  Contracts: rows are taken in.
-/
namespace Go.Proofs
open Go Go.Abs
set_option maxRecDepth 100000
set_option linter.unusedSimpArgs false
theorem rowIndex_call (G : Nat → Option AV) (a : AV) (ops : List RowA) (g : FuncId) (fi ca : List AV) (p : RowA → Bool) (h : AH) (K : AV → AH → Prop) (ha : Sees h 3 a (ops.map RowA.cells)) (hl : ops.length ≤ 1000000000000)
    (hc : ∀ x ∈ ops, ∀ (K : AV → AH → Prop), K (.v (.bool (p x))) h → SCall Tryz.prog G g (fi ++ .agg x.cells :: ca) h K)
    (hk1 : ∀ (k : Nat) x, ops[k]? = some x → p x = true → (∀ y ∈ ops.take k, p y = false) → K (.v (.int .i64 k)) h)
    (hk2 : (∀ x ∈ ops, p x = false) → K (.v (.int .i64 (-1))) h) : SCall Tryz.prog G 129 [a, .fn (.func g) fi ca] h K := by
  refine Tryz.c129 G _ _ h K fun hlow => ?_
  unfold Tryz.r129
  have la := ha.len (P := Tryz.prog) (t := 47) Tryz.und47
  rw [List.length_map] at la
  simp (disch := omega) only [go_sem, la]
  unfold Tryz.r129_l2_1
  refine ⟨fun m vs h' => ∃ k : Nat, k ≤ ops.length ∧ m = ops.length - k ∧ h' = h ∧ (∀ y ∈ ops.take k, p y = false) ∧ vs = [.v (.int .i64 k)], ops.length, ⟨0, by omega, rfl, rfl, by simp, rfl⟩, ?_⟩
  rintro m h' hl1 hlow2 n ⟨k, hkk, rfl, rfl, hno, hvs⟩
  simp only [List.cons.injEq, AV.v.injEq, Value.int.injEq, true_and, and_true] at hvs
  subst hvs
  by_cases hkl : k < ops.length
  · obtain ⟨x, hx⟩ : ∃ x, ops[k]? = some x := ⟨_, List.getElem?_eq_getElem hkl⟩
    obtain ⟨q, q1, q2, _⟩ := ha.iaAll (P := Tryz.prog) (ty := 47) (k := .i64) (i := k) (r := x.cells) Tryz.und47 Tryz.siz131 (by omega) (by simp [hx])
    have q1 := q1 []
    have q2 := q2 []
    rw [List.append_nil] at q1 q2
    have ew : IntKind.i64.wrap ((k : Int) + 1) = ((k + 1 : Nat) : Int) := by rw [wrap64_of (by omega) (by omega)]; omega
    simp (disch := omega) only [go_sem, q1, q2]
    refine ⟨hc x (List.mem_of_getElem? hx) _ ?_⟩
    cases hp : p x with
    | true =>
      simp (disch := omega) only [go_sem]
      exact ret_same (hk1 k x hx hp hno)
    | false =>
      simp (disch := omega) only [go_sem, ew]
      refine next_keep (ops.length - (k + 1)) (by omega) (Nat.le_refl _) ⟨k + 1, by omega, rfl, rfl, ?_, rfl⟩
      intro y hy
      rw [List.take_add_one, hx] at hy
      simp only [Option.toList_some, List.mem_append, List.mem_singleton] at hy
      rcases hy with hy | rfl
      · exact hno y hy
      · exact hp
  · simp (disch := omega) only [go_sem]
    have : k = ops.length := by omega
    subst this
    rw [List.take_length] at hno
    exact ret_same (hk2 hno)
theorem rowContains_call (G : Nat → Option AV) (a : AV) (ops : List RowA) (g : FuncId) (fi ca : List AV) (p : RowA → Bool) (h : AH) (K : AV → AH → Prop) (ha : Sees h 3 a (ops.map RowA.cells)) (hl : ops.length ≤ 1000000000000)
    (hc : ∀ x ∈ ops, ∀ (K : AV → AH → Prop), K (.v (.bool (p x))) h → SCall Tryz.prog G g (fi ++ .agg x.cells :: ca) h K)
    (hk : K (.v (.bool (ops.any p))) h) : SCall Tryz.prog G 83 [a, .fn (.func g) fi ca] h K := by
  refine Tryz.c83 G _ _ h K fun hlow => ?_
  unfold Tryz.r83
  refine ⟨rowIndex_call G a ops g fi ca p h _ ha hl hc (fun k x hx hp _ => ?_) (fun hno => ?_)⟩
  · have : ops.any p = true := List.any_eq_true.mpr ⟨x, List.mem_of_getElem? hx, hp⟩
    rw [this] at hk
    simp (disch := omega) only [go_sem]
    exact ret_same hk
  · have : ops.any p = false := by rw [List.any_eq_false]; intro x hx; rw [hno x hx]; decide
    rw [this] at hk
    simp (disch := omega) only [go_sem]
    exact ret_same hk
theorem row_call (G : Nat → Option AV) (r : RowA) (h : AH) (K : AV → AH → Prop) (hkl : r.key.length ≤ 4611686018427387904) (hvl : r.val.length ≤ 4611686018427387904) (hk : K (.v (.bool r.may)) h) : SCall Tryz.prog G 85 [.agg r.cells] h K := by
  refine Tryz.c85 G _ h K fun hlow => ?_
  unfold Tryz.r85
  have e0 : (ByteArray.mk #[]).toList = [] := bs_toList []
  unfold RowA.may at hk
  by_cases h1 : r.key = []
  · have hb : (r.key == []) = true := by simp [h1]
    rw [show decide (r.key ≠ []) = false by simp [h1], Bool.false_and] at hk
    simp (disch := omega) only [go_sem, Nat.reduceAdd, bs_toList, e0, hb, Bool.not_true]
    exact ret_tail hlow .v hk
  have hb : (r.key == []) = false := by simpa using h1
  rw [show decide (r.key ≠ []) = true by simp [h1], Bool.true_and] at hk
  by_cases h2 : (r.key.length : Int) ≤ 64
  · rw [decide_eq_true h2, Bool.true_and] at hk
    by_cases h3 : 1 ≤ r.stamp
    · rw [decide_eq_true h3, Bool.true_and] at hk
      by_cases h4 : r.stamp ≤ 1099511627776
      · rw [decide_eq_true h4, Bool.true_and] at hk
        simp (disch := omega) only [go_sem, Nat.reduceAdd, bs_toList, e0, hb, Bool.not_false]
        exact ret_tail hlow .v hk
      · rw [decide_eq_false h4, Bool.false_and] at hk
        simp (disch := omega) only [go_sem, Nat.reduceAdd, bs_toList, e0, hb, Bool.not_false]
        exact ret_tail hlow .v hk
    · rw [decide_eq_false h3, Bool.false_and] at hk
      simp (disch := omega) only [go_sem, Nat.reduceAdd, bs_toList, e0, hb, Bool.not_false]
      exact ret_tail hlow .v hk
  · rw [decide_eq_false h2, Bool.false_and] at hk
    simp (disch := omega) only [go_sem, Nat.reduceAdd, bs_toList, e0, hb, Bool.not_false]
    exact ret_tail hlow .v hk
theorem take1_call (G : Nat → Option AV) (r : RowA) (h : AH) (K : AV → AH → Prop) (hkl : r.key.length ≤ 4611686018427387904) (hvl : r.val.length ≤ 4611686018427387904) (hk : K (.v (.bool (!r.may))) h) : SCall Tryz.prog G 84 [.agg r.cells] h K := by
  refine Tryz.c84 G _ h K fun hlow => ?_
  unfold Tryz.r84
  simp (disch := omega) only [go_sem, Nat.reduceAdd]
  refine ⟨row_call G r _ _ hkl hvl ?_⟩
  simp (disch := omega) only [go_sem, Nat.reduceAdd]
  exact ret_tail hlow .v hk
theorem cmpOr_call (G : Nat → Option AV) (i : Nat) (x y : Int) (h : AH) (K : AV → AH → Prop) (ho : h[i]? = some (some (.cells 3 1 [[.v (.int .i64 x)], [.v (.int .i64 y)]] 0))) (hy : y ≠ 0) (hk : K (.v (.int .i64 (if x ≠ 0 then x else y))) h) : SCall Tryz.prog G 88 [.sl i 0 0 2 none] h K := by
  refine Tryz.c88 G _ h K fun hlow => ?_
  unfold Tryz.r88
  simp (disch := omega) only [go_sem]
  unfold Tryz.r88_l3_1
  refine ⟨fun m vs h' => ∃ k : Nat, k ≤ 1 ∧ m = 1 - k ∧ h' = h ∧ (k = 1 → x = 0) ∧ vs = [.v (.int .i64 k)], 1, ⟨0, by omega, rfl, rfl, by simp, rfl⟩, ?_⟩
  rintro m h' hl1 hlow2 n ⟨k, hkk, rfl, rfl, hx, hvs⟩
  simp only [List.cons.injEq, AV.v.injEq, Value.int.injEq, true_and, and_true] at hvs
  subst hvs
  have e1 : IntKind.i64.wrap ((0 : Int) + 1) = 1 := rfl
  by_cases h0 : k = 0
  · subst h0
    simp only [Int.natCast_zero, Int.ofNat_zero]
    by_cases hx0 : x = 0
    · simp (disch := omega) only [go_sem, ho, hx0]
      exact next_keep 0 (by omega) (Nat.le_refl _) ⟨1, by omega, rfl, rfl, fun _ => hx0, by simp⟩
    · rw [if_pos hx0] at hk
      simp (disch := omega) only [go_sem, ho]
      exact ret_same hk
  · have : k = 1 := by omega
    subst this
    rw [if_neg (by simp [hx rfl])] at hk
    simp only [Int.natCast_one]
    simp (disch := omega) only [go_sem, ho]
    exact ret_same hk
theorem take2_call (G : Nat → Option AV) (a b : RowA) (h : AH) (K : AV → AH → Prop) (hk : ∀ n t, (decide (n < 0) = !bl b.key a.key) → K (.v (.int .i64 n)) (h ++ t)) : SCall Tryz.prog G 87 [.agg a.cells, .agg b.cells] h K := by
  refine Tryz.c87 G _ _ h K fun hlow => ?_
  unfold Tryz.r87
  simp (disch := omega) only [go_sem, Nat.reduceAdd]
  refine ⟨Compare_call G _ _ _ _ ?_⟩
  simp (disch := omega) only [go_sem, Nat.reduceAdd]
  refine ⟨cmpOr_call G (h.length + 2) (if bl a.key b.key = true then -1 else if a.key = b.key then 0 else 1) (-1) _ _ (by simp) (by omega) ?_⟩
  simp (disch := omega) only [go_sem, Nat.reduceAdd]
  refine ret_keep (hk _ _ ?_)
  rcases bl_total a.key b.key with h1 | h1 | h1
  · rw [if_pos h1, bl_asymm h1]; rfl
  · rw [h1, bl_irrefl]; simp
  · rw [bl_asymm h1, h1]
    have : a.key ≠ b.key := fun e => by rw [e, bl_irrefl] at h1; cases h1
    simp [this]
theorem rowSorted_call (G : Nat → Option AV) (x : AV) (l : List RowA) (h : AH) (K : AV → AH → Prop) (hx : Sees h 3 x (l.map RowA.cells)) (hl : l.length ≤ 1000000000)
    (hk1 : Rise l → K (.v (.bool true)) h) (hk2 : ¬ Rise l → K (.v (.bool false)) h) : SCall Tryz.prog G 86 [x, .fn (.func 87) [] []] h K := by
  refine Tryz.c86 G _ _ h K fun hlow => ?_
  unfold Tryz.r86
  have la := hx.len (P := Tryz.prog) (t := 47) Tryz.und47
  rw [List.length_map] at la
  have e0 : IntKind.i64.wrap ((l.length : Int) - 1) = (l.length : Int) - 1 := wrap64_of (by omega) (by omega)
  simp (disch := omega) only [go_sem, la, e0]
  unfold Tryz.r86_l2_1
  refine ⟨fun m vs h' => ∃ k : Int, -1 ≤ k ∧ k ≤ (l.length : Int) - 1 ∧ m = (k + 1).toNat ∧ h' = h ∧ (∀ (i : Nat) (a b : RowA), k ≤ (i : Int) → l[i]? = some a → l[i + 1]? = some b → bl a.key b.key = true) ∧ vs = [.v (.int .i64 k)], l.length, ⟨(l.length : Int) - 1, by omega, by omega, by omega, rfl, ?_, rfl⟩, ?_⟩
  · intro i a b hi ha hb
    have := (List.getElem?_eq_some_iff.mp hb).1
    omega
  rintro m h' hl1 hlow2 k ⟨n, hk0, hkl, rfl, rfl, hno, hvs⟩
  simp only [List.cons.injEq, AV.v.injEq, Value.int.injEq, true_and, and_true] at hvs
  subst hvs
  have row : ∀ {q : Int} {r : RowA}, 0 ≤ q → l[q.toNat]? = some r → ∃ w, aIA Tryz.prog h' 47 x (.v (.int .i64 q)) = some w ∧ Go.Abs.rowAt h' w = some (r.cells, 0) := fun {q r} h0 hq => hx.ia (P := Tryz.prog) (t := 47) (k := .i64) (i := q) (r := r.cells) Tryz.und47 Tryz.siz131 h0 (by simp [hq])
  by_cases hpos : 0 < k
  · have ew : IntKind.i64.wrap (k - 1) = k - 1 := wrap64_of (by omega) (by omega)
    obtain ⟨b, hb⟩ : ∃ b, l[k.toNat]? = some b := ⟨_, List.getElem?_eq_getElem (by omega)⟩
    obtain ⟨a, ha⟩ : ∃ a, l[(k - 1).toNat]? = some a := ⟨_, List.getElem?_eq_getElem (by omega)⟩
    obtain ⟨q, q1, q2⟩ := row (by omega) hb
    obtain ⟨w, w1, w2⟩ := row (by omega) ha
    simp (disch := omega) only [go_sem, q1, q2, w1, w2, ew]
    refine ⟨take2_call G b a _ _ fun n t hn => ?_⟩
    cases hc : bl a.key b.key with
    | true =>
      rw [hc] at hn
      have hn : ¬ n < 0 := by simpa using hn
      simp (disch := omega) only [go_sem]
      refine next_drop (k - 1 + 1).toNat (by omega) (Nat.le_refl _) hlow (by simp [low_v]) ⟨k - 1, by omega, by omega, rfl, rfl, ?_, rfl⟩
      intro i a' b' hi ha' hb'
      by_cases he : (i : Int) = k - 1
      · have e1 : (k - 1).toNat = i := by omega
        have e2 : k.toNat = i + 1 := by omega
        rw [e1, ha'] at ha
        rw [e2, hb'] at hb
        obtain rfl := Option.some.inj ha
        obtain rfl := Option.some.inj hb
        exact hc
      · exact hno i a' b' (by omega) ha' hb'
    | false =>
      rw [hc] at hn
      have hn : n < 0 := by simpa using hn
      simp (disch := omega) only [go_sem]
      refine ret_tail hlow .v (hk2 fun hr => ?_)
      have := rise_adj.mp hr (k - 1).toNat a b ha (by rw [show (k - 1).toNat + 1 = k.toNat by omega]; exact hb)
      rw [hc] at this
      cases this
  · simp (disch := omega) only [go_sem]
    exact ret_same (hk1 (rise_adj.mpr fun i a b ha hb => hno i a b (by omega) ha hb))
end Go.Proofs

/-
  Contracts: Take.
-/
namespace Go.Proofs
open Go Go.Abs
set_option maxRecDepth 100000
set_option linter.unusedSimpArgs false
theorem buildTab {a : AV} (a1 : a.one = true) (a2 : a.cells = [a]) : aBuild Tryz.prog 160 [(0, some a)] = some (.agg [a]) := by
  unfold aBuild
  have hz : zer Tryz.prog 160 = some (.agg [.v (.slice none 0 0)]) := by kernel_rfl
  rw [hz, Tryz.und160]
  simp [aFill, placeOf, setAt, chk, a1, a2, Tryz.siz47]
theorem fillRow {r : RowA} {x y : ByteArray} : rowsFill 3 (List.replicate 1 [.v (.string x), .v (.int .i64 0), .v (.string y)]) [(0, some (.agg r.cells))] = some [r.cells] := by
  simp [rowsFill, AV.one, AV.cells, chk]
theorem tbTake_call (G : Nat → Option AV) (p : Nat) (l new : List RowA) (x : AV) (h : AH) (K : AV → AH → Prop) (T : TabAt h p l) (hx : ∀ H, KeepT h H → Sees H 3 x (new.map RowA.cells)) (hnl : new.length ≤ 1000000) (hb : ∀ r ∈ new, r.key.length ≤ 4611686018427387904 ∧ r.val.length ≤ 4611686018427387904)
    (hk80 : (new.any fun r => !r.may) = true → K (.v (.int .i64 80)) h)
    (hk4 : (new.any fun r => !r.may) = false → ¬ Rise new → K (.v (.int .i64 4)) h)
    (hk22 : (new.any fun r => !r.may) = false → Rise new → 4096 < (takeM l new).length → K (.v (.int .i64 22)) h)
    (hk0 : (new.any fun r => !r.may) = false → Rise new → (takeM l new).length ≤ 4096 → ∀ h', TabAt h' p (takeM l new) → But p h h' → K (.v (.int .i64 0)) h') : SCall Tryz.prog G 42 [.ptr p 0 0 0, x] h K := by
  refine Tryz.c42 G _ _ h K fun hlow => ?_
  unfold Tryz.r42
  obtain ⟨a, ho, s⟩ := T.ex
  have pl := T.lt
  have hl := T.len
  have a1 := s.one
  have a2 := s.cells
  have e0 : (ByteArray.mk #[]) = bs [] := rfl
  refine ⟨rowContains_call G x new _ [] [] (fun r => !r.may) h _ (hx h (KeepT.refl h)) (by omega) (fun r hr K hK => take1_call G r _ K (hb r hr).1 (hb r hr).2 hK) ?_⟩
  cases hany : new.any fun r => !r.may with
  | true =>
    simp (disch := omega) only [go_sem]
    exact ret_same (hk80 hany)
  | false =>
  simp (disch := omega) only [go_sem]
  refine ⟨rowSorted_call G x new h _ (hx h (KeepT.refl h)) (by omega) (fun hr => ?_) (fun hr => ?_)⟩
  rotate_left
  · simp (disch := omega) only [go_sem, Bool.not_false]
    exact ret_same (hk4 hany hr)
  have la := s.sees.len (P := Tryz.prog) (t := 47) Tryz.und47
  rw [List.length_map] at la
  have lx : ∀ H, KeepT h H → aLen Tryz.prog H 47 x = some (.v (.int .i64 new.length)) := fun H k => by
    have := (hx H k).len (P := Tryz.prog) (t := 47) Tryz.und47
    rw [List.length_map] at this
    exact this
  have lx0 := lx h (KeepT.refl h)
  have lxt : ∀ t, aLen Tryz.prog (h ++ t) 47 x = some (.v (.int .i64 new.length)) := fun t => lx _ (KeepT.app _ _)
  have ho' : ∀ t : AH, (h ++ t)[p]? = _ := fun t => (List.getElem?_append_left pl).trans ho
  have ew : IntKind.i64.wrap ((l.length : Int) + (new.length : Int)) = ((l.length + new.length : Nat) : Int) := by rw [wrap64_of (by omega) (by omega)]; omega
  simp (disch := omega) only [go_sem, Bool.not_true, ho, ho', a1, a2, la, lx0, lxt, ew, e0, Nat.one_ne_zero, if_false]
  unfold Tryz.r42_l8_17
  have m0 : Half 131 3 h (h ++ [some (.cells 131 3 (List.replicate (l.length + new.length) [.v (.string (bs [])), .v (.int .i64 0), .v (.string (bs []))]) 0)]) (.sl h.length 0 0 0 none) [] := @Half.mine 131 3 h _ h.length 0 [] _ (Nat.le_refl _) (by simp) (by simp; rfl)
  refine ⟨fun m vs H => ∃ (k : Nat) (v21 v22 : AV) (rest out : List RowA), k ≤ new.length ∧ m = new.length - k ∧ Half 131 3 h H v21 (out.map RowA.cells) ∧ Grew h H ∧ Own 131 3 h v22 (rest.map RowA.cells) ∧ out ++ takeM rest (new.drop k) = takeM l new ∧ (out.length + rest.length ≤ l.length + k ∧ rest.length ≤ l.length) ∧ Rise rest ∧ vs = [v21, v22, .v (.int .i64 k)], new.length, ⟨0, _, _, l, [], by omega, by simp, by simpa using m0, Grew.app _, s, by simp, ⟨by simp, by simp⟩, T.rise, rfl⟩, ?_⟩
  rintro m H hl1 hlow2 v21' v22' n ⟨k, v21, v22, rest, out, hkk, rfl, mi, g, so, hq, ⟨hlen, hrl⟩, hrise, hvs⟩
  simp only [List.cons.injEq, AV.v.injEq, Value.int.injEq, true_and, and_true] at hvs
  obtain ⟨rfl, rfl, rfl⟩ := hvs
  have gl := g.len
  obtain ⟨tt, htt⟩ := g.ex
  have soH : ∀ t, Own 131 3 (H ++ t) v22' (rest.map RowA.cells) := fun t => by rw [htt, List.append_assoc]; exact so.more _
  have r1 := so.one
  have r2 := so.cells
  by_cases hkl : k < new.length
  rotate_left
  · have : k = new.length := by omega
    subst this
    rw [List.drop_length] at hq
    simp only [takeM] at hq
    simp (disch := omega) only [go_sem]
    have soH0 := soH []
    rw [List.append_nil] at soH0
    refine mi.append gl Tryz.und47 Tryz.azero131 Tryz.byt131 (by exact Tryz.plainSrc47) soH0.sees.src so.rowsLen (by
      rintro ⟨s, rfl⟩
      cases so) (by simp; omega) (by simp; omega) fun v60 h61 hf3 hle st _ => ?_
    have hf3 : Half 131 3 h h61 v60 ((takeM l new).map RowA.cells) := by rw [← hq]; simpa using hf3
    obtain ⟨t2, rfl⟩ := ext_of (h := h) (h' := h61) (by omega) (fun j hj => by rw [st j hj, htt, List.getElem?_append_left hj])
    have v1 := hf3.one
    have v2 := hf3.cells
    have lo := hf3.own.sees.len (P := Tryz.prog) (t := 47) Tryz.und47
    rw [List.length_map] at lo
    by_cases hbig : 4096 < (takeM l new).length
    · simp (disch := omega) only [go_sem, lo]
      exact ret_tail hlow .v (hk22 hany hr hbig)
    · simp (disch := omega) only [go_sem, lo, ho', v1, v2, Nat.one_ne_zero, if_false]
      refine ret_keep (hk0 hany hr (by omega) _ ⟨⟨v60, by rw [List.getElem?_set_self (by simp; omega)], ?_⟩, takeM_rise T.rise hr, by omega⟩ ⟨by simp, fun j hj hne => ?_⟩)
      · refine hf3.own.keep fun id r g hi => ?_
        rw [List.getElem?_set_ne]
        · exact hi
        · rintro rfl
          rw [ho'] at hi
          cases hi
      · rw [List.getElem?_set_ne (Ne.symm hne), List.getElem?_append_left hj]
  obtain ⟨r, hrk⟩ : ∃ r, new[k]? = some r := ⟨_, List.getElem?_eq_getElem hkl⟩
  have kH : KeepT h H := KeepT.grew g
  obtain ⟨q, q1, q2⟩ := (hx H kH).ia (P := Tryz.prog) (t := 47) (k := .i64) (i := (k : Int)) (r := r.cells) Tryz.und47 Tryz.siz131 (by omega) (by simp [hrk])
  have hdrop : new.drop k = r :: new.drop (k + 1) := by
    obtain ⟨h1, h2⟩ := List.getElem?_eq_some_iff.mp hrk
    rw [← h2, List.getElem_cons_drop]
  rw [hdrop] at hq
  simp only [takeM] at hq
  have hlb := lbK_le rest r.key
  have hhi := hiK_le rest r.key
  have ewk : IntKind.i64.wrap ((k : Int) + 1) = ((k + 1 : Nat) : Int) := by rw [wrap64_of (by omega) (by omega)]; omega
  have ewl : IntKind.i64.wrap ((lbK rest r.key : Int) + 1) = ((lbK rest r.key + 1 : Nat) : Int) := by rw [wrap64_of (by omega) (by omega)]; omega
  simp (disch := omega) only [go_sem, q1, q2, e0, Nat.reduceAdd, Nat.one_ne_zero, if_false, buildTab r1 r2, r1, r2]
  have last : ∀ v H', Half 131 3 h H' v ((out ++ rest.take (lbK rest r.key) ++ [r]).map RowA.cells) → H.length ≤ H'.length → (∀ j, j < h.length → H'[j]? = H[j]?) → Tryz.r42_j40 (.ptr p 0 0 0) x (h ++ [some (AO.cells 131 3 (List.replicate (l.length + new.length) [.v (.string (bs [])), .v (.int .i64 0), .v (.string (bs []))]) 0)]) new.length (fun m vs H => ∃ (k : Nat) (v21 v22 : AV) (rest out : List RowA), k ≤ new.length ∧ m = new.length - k ∧ Half 131 3 h H v21 (out.map RowA.cells) ∧ Grew h H ∧ Own 131 3 h v22 (rest.map RowA.cells) ∧ out ++ takeM rest (new.drop k) = takeM l new ∧ (out.length + rest.length ≤ l.length + k ∧ rest.length ≤ l.length) ∧ Rise rest ∧ vs = [v21, v22, .v (.int .i64 k)]) (new.length - k) v22' k (lbK rest r.key) (hasK rest r.key) v H' := by
    intro v H' hf hle st
    obtain ⟨t2, ht2⟩ := ext_of (h := h) (h' := H') (by omega) (fun j hj => by rw [st j hj, htt, List.getElem?_append_left hj])
    have h1le : (h ++ [some (AO.cells 131 3 (List.replicate (l.length + new.length) [.v (.string (bs [])), .v (.int .i64 0), .v (.string (bs []))]) 0)]).length ≤ H'.length := Nat.le_trans hl1 hle
    unfold Tryz.r42_j40
    have fin : ∀ (d : Nat) (w : AV), d = hiK rest r.key → Own 131 3 h w ((rest.map RowA.cells).drop d) → nextR (h ++ [some (AO.cells 131 3 (List.replicate (l.length + new.length) [.v (.string (bs [])), .v (.int .i64 0), .v (.string (bs []))]) 0)]) (fun m vs H => ∃ (k : Nat) (v21 v22 : AV) (rest out : List RowA), k ≤ new.length ∧ m = new.length - k ∧ Half 131 3 h H v21 (out.map RowA.cells) ∧ Grew h H ∧ Own 131 3 h v22 (rest.map RowA.cells) ∧ out ++ takeM rest (new.drop k) = takeM l new ∧ (out.length + rest.length ≤ l.length + k ∧ rest.length ≤ l.length) ∧ Rise rest ∧ vs = [v21, v22, .v (.int .i64 k)]) (new.length - k) [some (.ptr p 0 0 0), some x, some (.v (.int .i64 new.length))] [some (.ptr p 0 0 0), some x, some (.v (.int .i64 new.length))] [v, w, .v (.int .i64 ((k + 1 : Nat) : Int))] H' := by
      rintro d w rfl hw
      refine next_keep (new.length - (k + 1)) (by omega) h1le ⟨k + 1, v, w, rest.drop (hiK rest r.key), out ++ rest.take (lbK rest r.key) ++ [r], by omega, rfl, hf, ⟨t2, ht2⟩, by simpa using hw, ?_, ?_, hrise.drop _, rfl⟩
      · rw [← hq]; simp
      · have : lbK rest r.key ≤ hiK rest r.key := by unfold hiK; omega
        refine ⟨?_, by rw [List.length_drop]; omega⟩
        simp only [List.length_append, List.length_take, List.length_drop, List.length_cons, List.length_nil]
        omega
    cases hh : hasK rest r.key with
    | true =>
      have e1 : hiK rest r.key = lbK rest r.key + 1 := by unfold hiK; rw [hh]; rfl
      obtain ⟨w, w1, w2⟩ := so.from (P := Tryz.prog) (t := 47) (k := .i64) Tryz.und47 Tryz.siz131 (m := lbK rest r.key + 1) (by simp; omega)
      have w1 := w1 t2
      rw [← ht2] at w1
      simp (disch := omega) only [go_sem, ewl, ewk, w1]
      exact fin _ w e1.symm w2
    | false =>
      have e1 : hiK rest r.key = lbK rest r.key := by unfold hiK; rw [hh]; rfl
      obtain ⟨w, w1, w2⟩ := so.from (P := Tryz.prog) (t := 47) (k := .i64) Tryz.und47 Tryz.siz131 (m := lbK rest r.key) (by simp; omega)
      have w1 := w1 t2
      rw [← ht2] at w1
      simp (disch := omega) only [go_sem, ewk, w1]
      exact fin _ w e1.symm w2
  have rlen : rest.length ≤ 2000000 := by omega
  refine ⟨tbAt_call G (H.length + 1) rest r.key _ _ ⟨⟨v22', by simp, soH _⟩, hrise, by omega⟩ ?_⟩
  obtain ⟨x1, eU, sU⟩ := (soH [some (AO.cells 131 3 [r.cells] 0), some (AO.cells 160 1 [[v22']] 0)]).upto (P := Tryz.prog) (t := 47) (k := .i64) Tryz.und47 Tryz.siz131 (m := lbK rest r.key) (by simp; omega)
  have eU0 := eU []
  rw [List.append_nil] at eU0
  have m2 : Half 131 3 h (H ++ [some (AO.cells 131 3 [r.cells] 0), some (AO.cells 160 1 [[v22']] 0)]) v21' (out.map RowA.cells) := mi.more _
  have oi : (H ++ [some (AO.cells 131 3 [r.cells] 0), some (AO.cells 160 1 [[v22']] 0)])[H.length]? = some (some (AO.cells 131 3 [r.cells] 0)) := by simp
  have offi : Off v21' H.length := mi.off (Nat.le_refl _)
  have st2 : ∀ j, j < h.length → (H ++ [some (AO.cells 131 3 [r.cells] 0), some (AO.cells 160 1 [[v22']] 0)])[j]? = H[j]? := fun j hj => List.getElem?_append_left (by omega)
  have hH2 : H.length + 2 = (H ++ [some (AO.cells 131 3 [r.cells] 0), some (AO.cells 160 1 [[v22']] 0)]).length := by simp
  simp (disch := omega) only [go_sem, extV]
  generalize (H ++ [some (AO.cells 131 3 [r.cells] 0), some (AO.cells 160 1 [[v22']] 0)]) = H2 at eU eU0 sU m2 oi st2 hH2 ⊢
  have oi' : ∀ t : AH, (H2 ++ t)[H.length]? = _ := fun t => (List.getElem?_append_left (List.getElem?_eq_some_iff.mp oi).1).trans oi
  refine ⟨?_, ?_⟩
  · simp (disch := omega) only [go_sem, eU0, oi, Nat.reduceAdd]
    refine m2.append (by omega) Tryz.und47 Tryz.azero131 Tryz.byt131 (by exact Tryz.plainSrc47) sU.sees.src sU.rowsLen (by
      rintro ⟨s, rfl⟩
      cases sU) (by simp; omega) (by simp; omega) fun v44 h45 hf2 hle st so2 => ?_
    obtain ⟨g45, _⟩ := so2 H.length (by omega) offi
    rw [oi] at g45
    simp (disch := omega) only [go_sem, g45, Nat.reduceAdd, fillRow]
    refine (hf2.more _).append (new := [r.cells]) (by simp; omega) Tryz.und47 Tryz.azero131 Tryz.byt131 (by exact Tryz.plainSrc47) (by simp [srcRows, rowsOf, chk]) (by simp) (by rintro ⟨s, hs⟩; cases hs) (by simp; omega) (by simp; omega) fun v49 h50 hf3 hle3 st3 _ => ?_
    simp only [List.length_append, List.length_cons, List.length_nil] at hle3
    refine last v49 h50 (by simpa using hf3) (by omega) fun j hj => ?_
    rw [st3 j hj, List.getElem?_append_left (by omega), st j hj, st2 j hj]
  · simp (disch := omega) only [go_sem, eU0, eU, oi, Nat.reduceAdd, fillRow]
    refine (m2.more _).append (by simp; omega) Tryz.und47 Tryz.azero131 Tryz.byt131 (by exact Tryz.plainSrc47) (sU.more _).sees.src sU.rowsLen (by
      rintro ⟨s, rfl⟩
      cases sU) (by simp; omega) (by simp; omega) fun v56 h57 hf2 hle st so2 => ?_
    simp only [List.length_append, List.length_cons, List.length_nil] at hle
    obtain ⟨g57, _⟩ := so2 H.length (by simp; omega) offi
    rw [oi'] at g57
    obtain ⟨gr57, _⟩ := so2 H2.length (by simp) (m2.off (Nat.le_refl _))
    rw [List.getElem?_append_right (Nat.le_refl _), Nat.sub_self, List.getElem?_cons_zero] at gr57
    simp (disch := omega) only [go_sem, g57, Nat.reduceAdd]
    refine hf2.append (new := [r.cells]) (by omega) Tryz.und47 Tryz.azero131 Tryz.byt131 (by exact Tryz.plainSrc47) (by simp [srcRows, rowsOf, chk, gr57]) (by simp) (by rintro ⟨s, hs⟩; cases hs) (by simp; omega) (by simp; omega) fun v58 h59 hf3 hle3 st3 _ => ?_
    refine last v58 h59 (by simpa using hf3) (by omega) fun j hj => ?_
    rw [st3 j hj, st j hj, List.getElem?_append_left (by omega), st2 j hj]
end Go.Proofs

/-
  Contracts: rows in a slice are swapped.
-/
namespace Go.Proofs
open Go Go.Abs
set_option maxRecDepth 100000
set_option linter.unusedSimpArgs false
theorem all1_call (G : Nat → Option AV) (a b : RowA) (h : AH) (K : AV → AH → Prop) (hk : ∀ n t, (decide (n < 0) = bl a.key b.key) → K (.v (.int .i64 n)) (h ++ t)) : SCall Tryz.prog G 65 [.agg a.cells, .agg b.cells] h K := by
  refine Tryz.c65 G _ _ h K fun hlow => ?_
  unfold Tryz.r65
  simp (disch := omega) only [go_sem, Nat.reduceAdd]
  refine ⟨Compare_call G _ _ _ _ ?_⟩
  simp (disch := omega) only [go_sem, Nat.reduceAdd]
  refine ret_keep (hk _ _ ?_)
  rcases bl_total a.key b.key with h1 | h1 | h1
  · rw [if_pos h1, h1]; rfl
  · rw [h1, bl_irrefl]; simp
  · rw [bl_asymm h1]
    have : a.key ≠ b.key := fun e => by rw [e, bl_irrefl] at h1; cases h1
    simp [this]
/-- Rows in a whole object. -/
abbrev RowsIn (h : AH) (id g : Nat) (l : List RowA) : Prop := h[id]? = some (some (.cells 131 3 (l.map RowA.cells) g))
abbrev dat (id g : Nat) (n : Nat) : AV := .sl id g 0 n none
theorem RowsIn.ia {h : AH} {id g : Nat} {l : List RowA} (o : RowsIn h id g l) {k : Nat} (hk : k < l.length) {n : Nat} (hn : n = l.length) : aIA Tryz.prog h 47 (dat id g n) (.v (.int .i64 (k : Int))) = some (.ptr id g k 0) := by
  subst hn
  unfold aIA
  rw [Tryz.und47]
  simp only [Tryz.siz131, o, chk]
  rw [if_pos ⟨trivial, trivial, by omega, by omega⟩]
  simp
theorem RowsIn.ld {h : AH} {id g : Nat} {l : List RowA} (o : RowsIn h id g l) {k : Nat} {r : RowA} (hr : l[k]? = some r) : Go.Abs.rowAt h (.ptr id g k 0) = some (r.cells, 0) := by
  unfold Go.Abs.rowAt
  simp only [o, chk]
  simp [hr]
theorem RowsIn.st {h : AH} {id g : Nat} {l : List RowA} (o : RowsIn h id g l) {k : Nat} (hk : k < l.length) {r : RowA} {K : AV → AH → Prop} (hK : K (.tup []) (h.set id (some (.cells 131 3 ((l.set k r).map RowA.cells) g)))) : storeC Tryz.prog h K 131 (.agg r.cells) id g k 0 h[id]? := by
  obtain ⟨x, hx⟩ : ∃ x, l[k]? = some x := ⟨_, List.getElem?_eq_getElem hk⟩
  have hx' : (l.map RowA.cells)[k]? = some x.cells := by simp [hx]
  rw [o]
  simp only [storeC, hx', okP]
  refine ⟨⟨trivial, rfl, Tryz.siz131, Nat.le_refl 3⟩, ?_⟩
  rw [List.map_set] at hK
  exact hK
theorem set_same {h : AH} {id : Nat} {o : Option AO} (ho : h[id]? = some o) : h.set id o = h := by
  refine List.ext_getElem? fun j => ?_
  by_cases hj : id = j
  · subst hj
    rw [List.getElem?_set_self (List.getElem?_eq_some_iff.mp ho).1, ho]
  · rw [List.getElem?_set_ne hj]
theorem swapRange_call (G : Nat → Option AV) (f : AV) (id g : Nat) (T A M B U : List RowA) (h : AH) (K : AV → AH → Prop) (o : RowsIn h id g (T ++ A ++ M ++ B ++ U)) (hab : A.length = B.length) (hl : (T ++ A ++ M ++ B ++ U).length ≤ 1000000000)
    {n i j k : Nat} (hn : n = (T ++ A ++ M ++ B ++ U).length) (hi : i = T.length) (hj : j = T.length + A.length + M.length) (hk' : k = A.length)
    (hk : K (.tup []) (h.set id (some (.cells 131 3 ((T ++ B ++ M ++ A ++ U).map RowA.cells) g)))) : SCall Tryz.prog G 180 [dat id g n, .v (.int .i64 i), .v (.int .i64 j), .v (.int .i64 k), f] h K := by
  subst hi hj hk'
  refine Tryz.c180 G _ _ _ _ _ h K fun hlow => ?_
  unfold Tryz.r180
  unfold Tryz.r180_l1_0
  have il := (List.getElem?_eq_some_iff.mp o).1
  simp only [List.length_append] at hl hn
  refine ⟨fun m vs h' => ∃ q : Nat, q ≤ A.length ∧ m = A.length - q ∧ h' = h.set id (some (.cells 131 3 ((T ++ (B.take q ++ A.drop q) ++ M ++ (A.take q ++ B.drop q) ++ U).map RowA.cells) g)) ∧ vs = [.v (.int .i64 q)], A.length, ⟨0, by omega, rfl, ?_, rfl⟩, ?_⟩
  · simp only [List.take_zero, List.drop_zero, List.nil_append]
    exact (set_same o).symm
  rintro m h' hl1 hlow2 n4 ⟨q, hq, rfl, rfl, hvs⟩
  simp only [List.cons.injEq, AV.v.injEq, Value.int.injEq, true_and, and_true] at hvs
  obtain rfl := hvs
  by_cases hlt : q < A.length
  · obtain ⟨a, ha⟩ : ∃ a, A[q]? = some a := ⟨_, List.getElem?_eq_getElem hlt⟩
    obtain ⟨b, hb⟩ : ∃ b, B[q]? = some b := ⟨_, List.getElem?_eq_getElem (by omega)⟩
    have hcl : (T ++ (B.take q ++ A.drop q) ++ M ++ (A.take q ++ B.drop q) ++ U).length = n := by
      simp only [List.length_append, List.length_take, List.length_drop]; omega
    have c1 : (T ++ (B.take q ++ A.drop q) ++ M ++ (A.take q ++ B.drop q) ++ U)[T.length + q]? = some a := by
      have e : T ++ (B.take q ++ A.drop q) ++ M ++ (A.take q ++ B.drop q) ++ U = (T ++ B.take q) ++ (A.drop q ++ (M ++ (A.take q ++ B.drop q) ++ U)) := by simp
      rw [e, List.getElem?_append_right (by simp; omega), List.getElem?_append_left (by simp; omega), List.getElem?_drop]
      rw [show q + (T.length + q - (T ++ B.take q).length) = q by simp; omega]
      exact ha
    have c2 : (T ++ (B.take q ++ A.drop q) ++ M ++ (A.take q ++ B.drop q) ++ U)[T.length + A.length + M.length + q]? = some b := by
      have e : T ++ (B.take q ++ A.drop q) ++ M ++ (A.take q ++ B.drop q) ++ U = (T ++ (B.take q ++ A.drop q) ++ M ++ A.take q) ++ (B.drop q ++ U) := by simp
      rw [e, List.getElem?_append_right (by simp; omega), List.getElem?_append_left (by simp; omega), List.getElem?_drop]
      rw [show q + (T.length + A.length + M.length + q - (T ++ (B.take q ++ A.drop q) ++ M ++ A.take q).length) = q by simp; omega]
      exact hb
    have nx : ((T ++ (B.take q ++ A.drop q) ++ M ++ (A.take q ++ B.drop q) ++ U).set (T.length + q) b).set (T.length + A.length + M.length + q) a = T ++ (B.take (q + 1) ++ A.drop (q + 1)) ++ M ++ (A.take (q + 1) ++ B.drop (q + 1)) ++ U := by
      have dA : A.drop q = a :: A.drop (q + 1) := by
        obtain ⟨h1, h2⟩ := List.getElem?_eq_some_iff.mp ha
        rw [← h2, List.getElem_cons_drop]
      have dB : B.drop q = b :: B.drop (q + 1) := by
        obtain ⟨h1, h2⟩ := List.getElem?_eq_some_iff.mp hb
        rw [← h2, List.getElem_cons_drop]
      have tA : A.take (q + 1) = A.take q ++ [a] := by rw [List.take_add_one, ha]; rfl
      have tB : B.take (q + 1) = B.take q ++ [b] := by rw [List.take_add_one, hb]; rfl
      rw [dA, dB, tA, tB]
      have e1 : T ++ (B.take q ++ a :: A.drop (q + 1)) ++ M ++ (A.take q ++ b :: B.drop (q + 1)) ++ U = (T ++ B.take q) ++ a :: (A.drop (q + 1) ++ M ++ (A.take q ++ b :: B.drop (q + 1)) ++ U) := by simp
      have e2 : (T ++ B.take q) ++ b :: (A.drop (q + 1) ++ M ++ (A.take q ++ b :: B.drop (q + 1)) ++ U) = (T ++ B.take q ++ b :: (A.drop (q + 1) ++ M ++ A.take q)) ++ b :: (B.drop (q + 1) ++ U) := by simp
      rw [e1, List.set_append_right _ _ (by simp; omega), show T.length + q - (T ++ B.take q).length = 0 by simp; omega, List.set_cons_zero, e2, List.set_append_right _ _ (by simp; omega)]
      rw [show T.length + A.length + M.length + q - (T ++ B.take q ++ b :: (A.drop (q + 1) ++ M ++ A.take q)).length = 0 by simp; omega, List.set_cons_zero]
      simp
    generalize hcur : T ++ (B.take q ++ A.drop q) ++ M ++ (A.take q ++ B.drop q) ++ U = cur at hcl c1 c2 nx
    have o1 : RowsIn (h.set id (some (.cells 131 3 (cur.map RowA.cells) g))) id g cur := List.getElem?_set_self il
    have ia1 := o1.ia (k := T.length + q) (n := n) (by omega) hcl.symm
    have ia2 := o1.ia (k := T.length + A.length + M.length + q) (n := n) (by omega) hcl.symm
    have ld1 := o1.ld c1
    have ld2 := o1.ld c2
    have w1 : IntKind.i64.wrap (((T.length + A.length + M.length : Nat) : Int) + (q : Int)) = ((T.length + A.length + M.length + q : Nat) : Int) := by rw [wrap64_of (by omega) (by omega)]; omega
    have w2 : IntKind.i64.wrap ((T.length : Int) + (q : Int)) = ((T.length + q : Nat) : Int) := by rw [wrap64_of (by omega) (by omega)]; omega
    simp (disch := omega) only [go_sem, w1, w2, ia1, ia2, ld1, ld2]
    refine o1.st (k := T.length + q) (r := b) (by omega) ?_
    have o2 : RowsIn ((h.set id (some (.cells 131 3 (cur.map RowA.cells) g))).set id (some (.cells 131 3 ((cur.set (T.length + q) b).map RowA.cells) g))) id g (cur.set (T.length + q) b) := List.getElem?_set_self (by simp; omega)
    have ia3 := o2.ia (k := T.length + A.length + M.length + q) (n := n) (by simp; omega) (by simp; omega)
    simp (disch := omega) only [go_sem, w1, w2, ia3]
    refine o2.st (k := T.length + A.length + M.length + q) (r := a) (by simp; omega) ?_
    have ew : IntKind.i64.wrap ((q : Int) + 1) = ((q + 1 : Nat) : Int) := by rw [wrap64_of (by omega) (by omega)]; omega
    rw [List.set_set, List.set_set, nx, ew]
    refine next_keep (A.length - (q + 1)) (by omega) (by simp) ⟨q + 1, by omega, rfl, rfl, rfl⟩
  · have : q = A.length := by omega
    subst this
    simp (disch := omega) only [go_sem]
    refine ret_keep ?_
    have e : T ++ (B.take A.length ++ A.drop A.length) ++ M ++ (A.take A.length ++ B.drop A.length) ++ U = T ++ B ++ M ++ A ++ U := by
      rw [List.take_length, List.drop_length, hab, List.take_length, List.drop_length, List.append_nil, List.append_nil]
    rw [← e] at hk
    simpa using hk
end Go.Proofs

/-
  Contracts: rows in a slice are rotated.
-/
namespace Go.Proofs
open Go Go.Abs
set_option maxRecDepth 100000
set_option linter.unusedSimpArgs false
theorem rotate_call (G : Nat → Option AV) (f : AV) (id g : Nat) (T A B U : List RowA) (h : AH) (K : AV → AH → Prop) (o : RowsIn h id g (T ++ A ++ B ++ U)) (hA : A ≠ []) (hB : B ≠ []) (hl : (T ++ A ++ B ++ U).length ≤ 1000000000)
    {n a m b : Nat} (hn : n = (T ++ A ++ B ++ U).length) (ha : a = T.length) (hm : m = T.length + A.length) (hb : b = T.length + A.length + B.length)
    (hk : K (.tup []) (h.set id (some (.cells 131 3 ((T ++ B ++ A ++ U).map RowA.cells) g)))) : SCall Tryz.prog G 172 [dat id g n, .v (.int .i64 a), .v (.int .i64 m), .v (.int .i64 b), f] h K := by
  subst ha hm hb
  refine Tryz.c172 G _ _ _ _ _ h K fun hlow => ?_
  unfold Tryz.r172
  have il := (List.getElem?_eq_some_iff.mp o).1
  have hA1 : 0 < A.length := List.length_pos_iff.mpr hA
  have hB1 : 0 < B.length := List.length_pos_iff.mpr hB
  simp only [List.length_append] at hl hn
  have w1 : IntKind.i64.wrap (((T.length + A.length : Nat) : Int) - (T.length : Int)) = (A.length : Int) := by rw [wrap64_of (by omega) (by omega)]; omega
  have w2 : IntKind.i64.wrap (((T.length + A.length + B.length : Nat) : Int) - ((T.length + A.length : Nat) : Int)) = (B.length : Int) := by rw [wrap64_of (by omega) (by omega)]; omega
  simp (disch := omega) only [go_sem, w1, w2]
  unfold Tryz.r172_l2_4
  refine ⟨fun q vs h' => ∃ P A' B' Q : List RowA, q = A'.length + B'.length ∧ 0 < A'.length ∧ 0 < B'.length ∧ P.length + A'.length = A.length ∧ P ++ B' ++ A' ++ Q = B ++ A ∧ h' = h.set id (some (.cells 131 3 ((T ++ P ++ A' ++ B' ++ Q ++ U).map RowA.cells) g)) ∧ vs = [.v (.int .i64 A'.length), .v (.int .i64 B'.length)], A.length + B.length, ⟨[], A, B, [], rfl, hA1, hB1, by simp, by simp, ?_, rfl⟩, ?_⟩
  · have e : T ++ [] ++ A ++ B ++ [] ++ U = T ++ A ++ B ++ U := by simp
    rw [e]; exact (set_same o).symm
  rintro q h' hl1 hlow2 n8 n9 ⟨P, A', B', Q, rfl, ha', hb', hP, hq, hH, hvs⟩
  simp only [List.cons.injEq, AV.v.injEq, Value.int.injEq, true_and, and_true] at hvs
  obtain ⟨rfl, rfl⟩ := hvs
  have hql := congrArg List.length hq
  simp only [List.length_append] at hql
  have wm : IntKind.i64.wrap (((T.length + A.length : Nat) : Int) - (A'.length : Int)) = (((T ++ P).length : Nat) : Int) := by rw [wrap64_of (by omega) (by omega), List.length_append]; omega
  have o1 : RowsIn h' id g (T ++ P ++ A' ++ B' ++ Q ++ U) := by rw [hH]; exact List.getElem?_set_self il
  have sH : ∀ x : Option AO, h'.set id x = h.set id x := fun x => by rw [hH, List.set_set]
  clear hH
  by_cases he : A'.length = B'.length
  · have hz : ((A'.length : Int) != (B'.length : Int)) = false := by simp [he]
    simp (disch := omega) only [go_sem, hz, wm]
    refine ⟨swapRange_call G f id g (T ++ P) A' [] B' (Q ++ U) _ _ (by
      have e : T ++ P ++ A' ++ [] ++ B' ++ (Q ++ U) = T ++ P ++ A' ++ B' ++ Q ++ U := by simp
      rw [e]; exact o1) he (by simp; omega) (by simp; omega) (by simp) (by simp; omega) rfl ?_⟩
    rw [sH]
    refine ret_keep ?_
    have e : T ++ P ++ B' ++ [] ++ A' ++ (Q ++ U) = T ++ B ++ A ++ U := by
      have : T ++ P ++ B' ++ [] ++ A' ++ (Q ++ U) = T ++ (P ++ B' ++ A' ++ Q) ++ U := by simp
      rw [this, hq]; simp
    rw [e]
    exact hk
  · have hz : ((A'.length : Int) != (B'.length : Int)) = true := by simp; omega
    by_cases hgt : A'.length > B'.length
    · have wd : IntKind.i64.wrap ((A'.length : Int) - (B'.length : Int)) = (((A'.drop B'.length).length : Nat) : Int) := by rw [wrap64_of (by omega) (by omega), List.length_drop]; omega
      simp (disch := omega) only [go_sem, hz, wm, wd]
      have eA : A'.take B'.length ++ A'.drop B'.length = A' := List.take_append_drop _ _
      have tl : (A'.take B'.length).length = B'.length := by simp; omega
      refine ⟨swapRange_call G f id g (T ++ P) (A'.take B'.length) (A'.drop B'.length) B' (Q ++ U) _ _ (by
        have e : T ++ P ++ A'.take B'.length ++ A'.drop B'.length ++ B' ++ (Q ++ U) = T ++ P ++ A' ++ B' ++ Q ++ U := by
          rw [show T ++ P ++ A'.take B'.length ++ A'.drop B'.length ++ B' ++ (Q ++ U) = T ++ P ++ (A'.take B'.length ++ A'.drop B'.length) ++ B' ++ Q ++ U by simp, eA]
        rw [e]; exact o1) tl (by simp; omega) (by simp; omega) (by simp) (by simp; omega) tl.symm ?_⟩
      rw [sH]
      refine next_keep ((A'.drop B'.length).length + (A'.take B'.length).length) (by simp; omega) (by simp) ⟨P ++ B', A'.drop B'.length, A'.take B'.length, Q, rfl, by simp; omega, by omega, by simp; omega, ?_, ?_, by rw [tl, wd]⟩
      · rw [← hq, show P ++ B' ++ A'.take B'.length ++ A'.drop B'.length ++ Q = P ++ B' ++ (A'.take B'.length ++ A'.drop B'.length) ++ Q by simp, eA]
      · have e : T ++ P ++ B' ++ A'.drop B'.length ++ A'.take B'.length ++ (Q ++ U) = T ++ (P ++ B') ++ A'.drop B'.length ++ A'.take B'.length ++ Q ++ U := by simp
        rw [e]
    · have wd : IntKind.i64.wrap ((B'.length : Int) - (A'.length : Int)) = (((B'.take (B'.length - A'.length)).length : Nat) : Int) := by rw [wrap64_of (by omega) (by omega), List.length_take]; omega
      have w3 : IntKind.i64.wrap (((T.length + A.length : Nat) : Int) + (B'.length : Int)) = ((T.length + A.length + B'.length : Nat) : Int) := by rw [wrap64_of (by omega) (by omega)]; omega
      have w4 : IntKind.i64.wrap (((T.length + A.length + B'.length : Nat) : Int) - (A'.length : Int)) = (((T ++ P).length + A'.length + (B'.take (B'.length - A'.length)).length : Nat) : Int) := by rw [wrap64_of (by omega) (by omega), List.length_append, List.length_take]; omega
      simp (disch := omega) only [go_sem, hz, wm, wd, w3, w4]
      have eB : B'.take (B'.length - A'.length) ++ B'.drop (B'.length - A'.length) = B' := List.take_append_drop _ _
      have dl : (B'.drop (B'.length - A'.length)).length = A'.length := by simp; omega
      refine ⟨swapRange_call G f id g (T ++ P) A' (B'.take (B'.length - A'.length)) (B'.drop (B'.length - A'.length)) (Q ++ U) _ _ (by
        have e : T ++ P ++ A' ++ B'.take (B'.length - A'.length) ++ B'.drop (B'.length - A'.length) ++ (Q ++ U) = T ++ P ++ A' ++ B' ++ Q ++ U := by
          rw [show T ++ P ++ A' ++ B'.take (B'.length - A'.length) ++ B'.drop (B'.length - A'.length) ++ (Q ++ U) = T ++ P ++ A' ++ (B'.take (B'.length - A'.length) ++ B'.drop (B'.length - A'.length)) ++ Q ++ U by simp, eB]
        rw [e]; exact o1) dl.symm (by simp; omega) (by simp; omega) (by simp) (by simp) rfl ?_⟩
      rw [sH]
      refine next_keep ((B'.drop (B'.length - A'.length)).length + (B'.take (B'.length - A'.length)).length) (by simp; omega) (by simp) ⟨P, B'.drop (B'.length - A'.length), B'.take (B'.length - A'.length), A' ++ Q, rfl, by omega, by simp; omega, by omega, ?_, ?_, by rw [dl, wd]⟩
      · rw [← hq, show P ++ B'.take (B'.length - A'.length) ++ B'.drop (B'.length - A'.length) ++ (A' ++ Q) = P ++ (B'.take (B'.length - A'.length) ++ B'.drop (B'.length - A'.length)) ++ A' ++ Q by simp, eB]
      · have e : T ++ P ++ B'.drop (B'.length - A'.length) ++ B'.take (B'.length - A'.length) ++ A' ++ (Q ++ U) = T ++ P ++ B'.drop (B'.length - A'.length) ++ B'.take (B'.length - A'.length) ++ (A' ++ Q) ++ U := by simp
        rw [e]
end Go.Proofs

/-
  Contracts: one row is carried over others.
-/
namespace Go.Proofs
open Go Go.Abs
set_option maxRecDepth 100000
set_option linter.unusedSimpArgs false
theorem swap2 {X Y : List RowA} {u v : RowA} : ((X ++ u :: v :: Y).set X.length v).set (X.length + 1) u = X ++ v :: u :: Y := by
  rw [List.set_append_right _ _ (Nat.le_refl _), Nat.sub_self, List.set_cons_zero, List.set_append_right _ _ (by omega), show X.length + 1 - X.length = 1 by omega]
  rfl
theorem swap2' {X Y : List RowA} {u v : RowA} : ((X ++ u :: v :: Y).set (X.length + 1) u).set X.length v = X ++ v :: u :: Y := by
  rw [List.set_append_right _ _ (by omega), show X.length + 1 - X.length = 1 by omega, List.set_append_right _ _ (Nat.le_refl _), Nat.sub_self]
  rfl
theorem at0 {X Y : List RowA} {u v : RowA} : (X ++ u :: v :: Y)[X.length]? = some u := by simp
theorem at1 {X Y : List RowA} {u v : RowA} : (X ++ u :: v :: Y)[X.length + 1]? = some v := by
  rw [List.getElem?_append_right (by omega), show X.length + 1 - X.length = 1 by omega]; rfl
theorem shiftR (id g : Nat) (P R1 Q : List RowA) (x : RowA) (h h7 : AH) (K : AV → AH → Prop) (o : RowsIn h7 id g (P ++ x :: (R1 ++ Q))) (hl : (P ++ x :: (R1 ++ Q)).length ≤ 1000000000) {n a i : Nat} (hn : n = (P ++ x :: (R1 ++ Q)).length) (ha : a = P.length) (hi : i = P.length + 1 + R1.length)
    (hk : K (.tup []) (h7.set id (some (.cells 131 3 ((P ++ R1 ++ x :: Q).map RowA.cells) g)))) : Tryz.r157_l9_20 K h (dat id g n) h7 i a := by
  subst ha hi
  unfold Tryz.r157_l9_20
  have il := (List.getElem?_eq_some_iff.mp o).1
  simp only [List.length_append, List.length_cons] at hl hn
  refine ⟨fun m vs h' => ∃ q : Nat, q ≤ R1.length ∧ m = R1.length - q ∧ h' = h7.set id (some (.cells 131 3 ((P ++ R1.take q ++ x :: (R1.drop q ++ Q)).map RowA.cells) g)) ∧ vs = [.v (.int .i64 ((P.length + q : Nat) : Int))], R1.length, ⟨0, by omega, rfl, ?_, rfl⟩, ?_⟩
  · simp only [List.take_zero, List.drop_zero, List.append_nil]
    exact (set_same o).symm
  rintro m h' hl1 hlow2 n4 ⟨q, hq, rfl, hH, hvs⟩
  simp only [List.cons.injEq, AV.v.injEq, Value.int.injEq, true_and, and_true] at hvs
  subst hvs
  have oH : RowsIn h' id g (P ++ R1.take q ++ x :: (R1.drop q ++ Q)) := by rw [hH]; exact List.getElem?_set_self il
  have sH : ∀ z : Option AO, h'.set id z = h7.set id z := fun z => by rw [hH, List.set_set]
  have w0 : IntKind.i64.wrap (((P.length + 1 + R1.length : Nat) : Int) - 1) = ((P.length + R1.length : Nat) : Int) := by rw [wrap64_of (by omega) (by omega)]; omega
  have w1 : IntKind.i64.wrap (((P.length + q : Nat) : Int) + 1) = ((P.length + q + 1 : Nat) : Int) := by rw [wrap64_of (by omega) (by omega)]; omega
  by_cases hlt : q < R1.length
  · obtain ⟨y, hy⟩ : ∃ y, R1[q]? = some y := ⟨_, List.getElem?_eq_getElem hlt⟩
    have dR : R1.drop q = y :: R1.drop (q + 1) := by
      obtain ⟨h1, h2⟩ := List.getElem?_eq_some_iff.mp hy
      rw [← h2, List.getElem_cons_drop]
    have tR : R1.take (q + 1) = R1.take q ++ [y] := by rw [List.take_add_one, hy]; rfl
    have eX : (P ++ R1.take q).length = P.length + q := by simp; omega
    rw [dR] at oH
    have oH : RowsIn h' id g ((P ++ R1.take q) ++ x :: y :: (R1.drop (q + 1) ++ Q)) := oH
    have ln : ((P ++ R1.take q) ++ x :: y :: (R1.drop (q + 1) ++ Q)).length = n := by
      simp only [List.length_append, List.length_cons, List.length_take, List.length_drop]; omega
    have i0 := oH.ia (k := P.length + q) (n := n) (by omega) ln.symm
    have i1 := oH.ia (k := P.length + q + 1) (n := n) (by omega) ln.symm
    have l0 := oH.ld (k := P.length + q) (r := x) (by rw [← eX]; exact at0)
    have l1 := oH.ld (k := P.length + q + 1) (r := y) (by rw [← eX]; exact at1)
    simp (disch := omega) only [go_sem, w0, w1, i0, i1, l0, l1]
    refine oH.st (k := P.length + q) (r := y) (by omega) ?_
    have o2 : RowsIn (h'.set id (some (.cells 131 3 ((((P ++ R1.take q) ++ x :: y :: (R1.drop (q + 1) ++ Q)).set (P.length + q) y).map RowA.cells) g))) id g (((P ++ R1.take q) ++ x :: y :: (R1.drop (q + 1) ++ Q)).set (P.length + q) y) := List.getElem?_set_self (List.getElem?_eq_some_iff.mp oH).1
    have i3 := o2.ia (k := P.length + q + 1) (n := n) (by rw [List.length_set]; omega) (by rw [List.length_set]; exact ln.symm)
    simp (disch := omega) only [okV_some, w1, i3, storeR_eq, storeV_ptr]
    refine o2.st (k := P.length + q + 1) (r := x) (by rw [List.length_set]; omega) ?_
    have sw := swap2 (X := P ++ R1.take q) (Y := R1.drop (q + 1) ++ Q) (u := x) (v := y)
    rw [eX] at sw
    rw [List.set_set, sH, sw]
    refine next_keep (R1.length - (q + 1)) (by omega) (by simp) ⟨q + 1, by omega, rfl, ?_, rfl⟩
    rw [tR]
    simp
  · have : q = R1.length := by omega
    subst this
    simp (disch := omega) only [go_sem, w0]
    refine ret_keep ?_
    rw [hH]
    simpa using hk
theorem shiftL (id g : Nat) (P L2 Q : List RowA) (y : RowA) (h h7 : AH) (K : AV → AH → Prop) (o : RowsIn h7 id g (P ++ L2 ++ y :: Q)) (hl : (P ++ L2 ++ y :: Q).length ≤ 1000000000) {n a i : Nat} (hn : n = (P ++ L2 ++ y :: Q).length) (ha : a = P.length + L2.length) (hi : i = P.length)
    (hk : K (.tup []) (h7.set id (some (.cells 131 3 ((P ++ y :: (L2 ++ Q)).map RowA.cells) g)))) : Tryz.r157_l21_58 K h (dat id g n) h7 i a := by
  subst ha hi
  unfold Tryz.r157_l21_58
  have il := (List.getElem?_eq_some_iff.mp o).1
  simp only [List.length_append, List.length_cons] at hl hn
  refine ⟨fun m vs h' => ∃ q : Nat, q ≤ L2.length ∧ m = q ∧ h' = h7.set id (some (.cells 131 3 ((P ++ L2.take q ++ y :: (L2.drop q ++ Q)).map RowA.cells) g)) ∧ vs = [.v (.int .i64 ((P.length + q : Nat) : Int))], L2.length, ⟨L2.length, by omega, rfl, ?_, rfl⟩, ?_⟩
  · simp only [List.take_length, List.drop_length, List.nil_append]
    exact (set_same o).symm
  rintro m h' hl1 hlow2 n4 ⟨q, hq, rfl, hH, hvs⟩
  simp only [List.cons.injEq, AV.v.injEq, Value.int.injEq, true_and, and_true] at hvs
  subst hvs
  have oH : RowsIn h' id g (P ++ L2.take m ++ y :: (L2.drop m ++ Q)) := by rw [hH]; exact List.getElem?_set_self il
  have sH : ∀ z : Option AO, h'.set id z = h7.set id z := fun z => by rw [hH, List.set_set]
  by_cases hlt : 0 < m
  · obtain ⟨q, rfl⟩ : ∃ q, m = q + 1 := ⟨m - 1, by omega⟩
    have w1 : IntKind.i64.wrap (((P.length + (q + 1) : Nat) : Int) - 1) = ((P.length + q : Nat) : Int) := by rw [wrap64_of (by omega) (by omega)]; omega
    obtain ⟨x, hx⟩ : ∃ x, L2[q]? = some x := ⟨_, List.getElem?_eq_getElem (by omega)⟩
    have dL : L2.drop q = x :: L2.drop (q + 1) := by
      obtain ⟨h1, h2⟩ := List.getElem?_eq_some_iff.mp hx
      rw [← h2, List.getElem_cons_drop]
    have tL : L2.take (q + 1) = L2.take q ++ [x] := by rw [List.take_add_one, hx]; rfl
    have eX : (P ++ L2.take q).length = P.length + q := by simp; omega
    rw [tL] at oH
    have oH : RowsIn h' id g ((P ++ L2.take q) ++ x :: y :: (L2.drop (q + 1) ++ Q)) := by simpa using oH
    have ln : ((P ++ L2.take q) ++ x :: y :: (L2.drop (q + 1) ++ Q)).length = n := by
      simp only [List.length_append, List.length_cons, List.length_take, List.length_drop]; omega
    have i0 := oH.ia (k := P.length + q) (n := n) (by omega) ln.symm
    have i1 := oH.ia (k := P.length + (q + 1)) (n := n) (by omega) ln.symm
    have l0 := oH.ld (k := P.length + q) (r := x) (by rw [← eX]; exact at0)
    have l1 := oH.ld (k := P.length + (q + 1)) (r := y) (by rw [← Nat.add_assoc, ← eX]; exact at1)
    simp (disch := omega) only [go_sem, w1, i0, i1, l0, l1]
    refine oH.st (k := P.length + (q + 1)) (r := x) (by omega) ?_
    have o2 : RowsIn (h'.set id (some (.cells 131 3 ((((P ++ L2.take q) ++ x :: y :: (L2.drop (q + 1) ++ Q)).set (P.length + (q + 1)) x).map RowA.cells) g))) id g (((P ++ L2.take q) ++ x :: y :: (L2.drop (q + 1) ++ Q)).set (P.length + (q + 1)) x) := List.getElem?_set_self (List.getElem?_eq_some_iff.mp oH).1
    have i3 := o2.ia (k := P.length + q) (n := n) (by rw [List.length_set]; omega) (by rw [List.length_set]; exact ln.symm)
    simp (disch := omega) only [okV_some, w1, i3, storeR_eq, storeV_ptr]
    refine o2.st (k := P.length + q) (r := y) (by rw [List.length_set]; omega) ?_
    have sw := swap2' (X := P ++ L2.take q) (Y := L2.drop (q + 1) ++ Q) (u := x) (v := y)
    rw [eX] at sw
    rw [List.set_set, sH, ← Nat.add_assoc, sw]
    refine next_keep q (by omega) (by simp) ⟨q, by omega, rfl, ?_, rfl⟩
    rw [dL]
    simp
  · have : m = 0 := by omega
    subst this
    simp (disch := omega) only [go_sem]
    refine ret_keep ?_
    rw [hH]
    simpa using hk
end Go.Proofs

/-
  Contracts: a merge where one side has just one row.
-/
namespace Go.Proofs
open Go Go.Abs
set_option maxRecDepth 100000
set_option linter.unusedSimpArgs false
abbrev fnA : AV := .fn (.func 65) [] []
abbrev fst (l : List Deco) : List RowA := l.map (·.1)
theorem half_e {i j : Nat} (h : i + j ≤ 2000000000) : IntKind.i64.wrap ((i : Int) + (j : Int)) = ((i + j : Nat) : Int) ∧ IntKind.u64.wrap ((i + j : Nat) : Int) = ((i + j : Nat) : Int) ∧ (((i + j : Nat) : Int)).fdiv 2 = (((i + j) / 2 : Nat) : Int) ∧ IntKind.i64.wrap ((((i + j) / 2 : Nat)) : Int) = (((i + j) / 2 : Nat) : Int) := by
  refine ⟨by rw [wrap64_of (by omega) (by omega)]; omega, ?_, ?_, wrap64_of (by omega) (by omega)⟩
  · simp [IntKind.wrap, IntKind.bits, IntKind.signed]; omega
  · rw [Int.fdiv_eq_ediv_of_nonneg _ (by omega)]; omega
theorem low2 {h : AH} (a b : Int) : ∀ v ∈ [AV.v (.int .i64 a), AV.v (.int .i64 b)], Low h.length v := by
  intro v hv
  simp at hv
  rcases hv with rfl | rfl <;> exact .v
theorem searchR (G : Nat → Option AV) (id g : Nat) (T U : List RowA) (x : Deco) (R : List Deco) (h : AH) (K : AV → AH → Prop) (hlow : LowH h.length h) (sR : SortedD R) (hlt : ∀ y ∈ R, x.2 < y.2) (o : RowsIn h id g (T ++ x.1 :: (fst R ++ U))) (hl : (T ++ x.1 :: (fst R ++ U)).length ≤ 1000000000)
    {n a m b : Nat} (hn : n = (T ++ x.1 :: (fst R ++ U)).length) (ha : a = T.length) (hm : m = T.length + 1) (hb : b = T.length + 1 + R.length)
    (hk : ∀ S : List Deco, S.Perm (x :: R) → SortedD S → K (.tup []) (h.set id (some (.cells 131 3 ((T ++ fst S ++ U).map RowA.cells) g)))) : Tryz.r157_l3_4 h K G (dat id g n) (.v (.int .i64 a)) fnA m b := by
  subst ha hm hb
  unfold Tryz.r157_l3_4
  have hl0 := hl
  simp only [List.length_append, List.length_cons, List.length_map] at hl hn
  refine ⟨fun q vs h' => ∃ i j : Nat, i ≤ j ∧ j ≤ R.length ∧ q = j - i ∧ h' = h ∧ (∀ k y, k < i → R[k]? = some y → dlt y x) ∧ (∀ k y, j ≤ k → R[k]? = some y → dlt x y) ∧ vs = [.v (.int .i64 ((T.length + 1 + i : Nat) : Int)), .v (.int .i64 ((T.length + 1 + j : Nat) : Int))], R.length, ⟨0, R.length, by omega, by omega, rfl, rfl, by omega, (by intro k y hk' hy; rw [List.getElem?_eq_none hk'] at hy; cases hy), rfl⟩, ?_⟩
  rintro q h' hl1 hlow2 n8 n9 ⟨i, j, hij, hj, rfl, rfl, hlo, hhi, hvs⟩
  simp only [List.cons.injEq, AV.v.injEq, Value.int.injEq, true_and, and_true] at hvs
  obtain ⟨rfl, rfl⟩ := hvs
  by_cases hc : i < j
  · obtain ⟨e1, e2, e3, e4⟩ := half_e (i := T.length + 1 + i) (j := T.length + 1 + j) (by omega)
    have emid : (T.length + 1 + i + (T.length + 1 + j)) / 2 = T.length + 1 + (i + j) / 2 := by omega
    rw [emid] at e3 e4
    obtain ⟨y, hy⟩ : ∃ y, R[(i + j) / 2]? = some y := ⟨_, List.getElem?_eq_getElem (by omega)⟩
    have c0 : (T ++ x.1 :: (fst R ++ U))[T.length]? = some x.1 := by simp
    have c1 : (T ++ x.1 :: (fst R ++ U))[T.length + 1 + (i + j) / 2]? = some y.1 := by
      rw [List.getElem?_append_right (by omega), show T.length + 1 + (i + j) / 2 - T.length = (i + j) / 2 + 1 by omega, List.getElem?_cons_succ, List.getElem?_append_left (by simp; omega), List.getElem?_map, hy]; rfl
    have i0 := o.ia (k := T.length) (n := n) (by simp) (by simp; omega)
    have i1 := o.ia (k := T.length + 1 + (i + j) / 2) (n := n) (by simp; omega) (by simp; omega)
    have l0 := o.ld c0
    have l1 := o.ld c1
    have e5 : IntKind.i64.wrap (((T.length + 1 + (i + j) / 2 : Nat) : Int) + 1) = ((T.length + 1 + ((i + j) / 2 + 1) : Nat) : Int) := by rw [wrap64_of (by omega) (by omega)]; omega
    generalize dat id g n = D at i0 i1 ⊢
    simp (disch := omega) only [go_sem, e1, e2, ↓shr_half, e3, e4, i0, i1, l0, l1]
    refine ⟨all1_call G y.1 x.1 _ _ fun z t hz => ?_⟩
    have hyx := hlt y (List.mem_of_getElem? hy)
    cases hbl : bl y.1.key x.1.key with
    | true =>
      rw [hbl] at hz
      have hz : z < 0 := by simpa using hz
      simp (disch := omega) only [go_sem, e4, e5]
      refine next_drop (j - ((i + j) / 2 + 1)) (by omega) (Nat.le_refl _) hlow2 (low2 _ _) ⟨(i + j) / 2 + 1, j, by omega, hj, rfl, rfl, ?_, hhi, rfl⟩
      intro k w hk' hw
      by_cases he : k = (i + j) / 2
      · subst he; rw [hy] at hw; obtain rfl := Option.some.inj hw; exact dlt_right hyx hbl
      · exact dlt_trans (sR.at (by omega) hw hy) (dlt_right hyx hbl)
    | false =>
      rw [hbl] at hz
      have hz : ¬ z < 0 := by simpa using hz
      simp (disch := omega) only [go_sem, e4]
      refine next_drop ((i + j) / 2 - i) (by omega) (Nat.le_refl _) hlow2 (low2 _ _) ⟨i, (i + j) / 2, by omega, by omega, rfl, rfl, hlo, ?_, rfl⟩
      intro k w hk' hw
      by_cases he : k = (i + j) / 2
      · subst he; rw [hy] at hw; obtain rfl := Option.some.inj hw; exact dlt_left hyx hbl
      · exact dlt_trans (dlt_left hyx hbl) (sR.at (by omega) hy hw)
  · have : j = i := by omega
    subst this
    have hk := hk (R.take j ++ x :: R.drop j) put_perm (put_sorted sR hlo hhi)
    simp (disch := omega) only [go_sem]
    have eR : fst R = (fst R).take j ++ (fst R).drop j := (List.take_append_drop _ _).symm
    have eo : T ++ x.1 :: ((fst R).take j ++ ((fst R).drop j ++ U)) = T ++ x.1 :: (fst R ++ U) := by
      rw [← List.append_assoc ((fst R).take j), ← eR]
    refine shiftR id g T ((fst R).take j) ((fst R).drop j ++ U) x.1 h' h' K (by rw [eo]; exact o) (by rw [eo]; exact hl0) (by rw [eo]; simp; omega) rfl (by simp; omega) ?_
    have e : T ++ (fst R).take j ++ x.1 :: ((fst R).drop j ++ U) = T ++ fst (R.take j ++ x :: R.drop j) ++ U := by simp [fst]
    rw [e]
    exact hk
theorem searchL (G : Nat → Option AV) (id g : Nat) (T U : List RowA) (y : Deco) (L : List Deco) (h : AH) (K : AV → AH → Prop) (hlow : LowH h.length h) (sL : SortedD L) (hlt : ∀ x ∈ L, x.2 < y.2) (o : RowsIn h id g (T ++ fst L ++ y.1 :: U)) (hl : (T ++ fst L ++ y.1 :: U).length ≤ 1000000000)
    {n a m : Nat} (hn : n = (T ++ fst L ++ y.1 :: U).length) (ha : a = T.length) (hm : m = T.length + L.length)
    (hk : ∀ S : List Deco, S.Perm (L ++ [y]) → SortedD S → K (.tup []) (h.set id (some (.cells 131 3 ((T ++ fst S ++ U).map RowA.cells) g)))) : Tryz.r157_l15_42 h K G (dat id g n) (.v (.int .i64 m)) fnA a m := by
  subst ha hm
  unfold Tryz.r157_l15_42
  have hl0 := hl
  simp only [List.length_append, List.length_cons, List.length_map] at hl hn
  refine ⟨fun q vs h' => ∃ i j : Nat, i ≤ j ∧ j ≤ L.length ∧ q = j - i ∧ h' = h ∧ (∀ k x, k < i → L[k]? = some x → dlt x y) ∧ (∀ k x, j ≤ k → L[k]? = some x → dlt y x) ∧ vs = [.v (.int .i64 ((T.length + i : Nat) : Int)), .v (.int .i64 ((T.length + j : Nat) : Int))], L.length, ⟨0, L.length, by omega, by omega, rfl, rfl, by omega, (by intro k x hk' hx; rw [List.getElem?_eq_none hk'] at hx; cases hx), rfl⟩, ?_⟩
  rintro q h' hl1 hlow2 n8 n9 ⟨i, j, hij, hj, rfl, rfl, hlo, hhi, hvs⟩
  simp only [List.cons.injEq, AV.v.injEq, Value.int.injEq, true_and, and_true] at hvs
  obtain ⟨rfl, rfl⟩ := hvs
  by_cases hc : i < j
  · obtain ⟨e1, e2, e3, e4⟩ := half_e (i := T.length + i) (j := T.length + j) (by omega)
    have emid : (T.length + i + (T.length + j)) / 2 = T.length + (i + j) / 2 := by omega
    rw [emid] at e3 e4
    obtain ⟨x, hx⟩ : ∃ x, L[(i + j) / 2]? = some x := ⟨_, List.getElem?_eq_getElem (by omega)⟩
    have c0 : (T ++ fst L ++ y.1 :: U)[T.length + L.length]? = some y.1 := by
      rw [List.getElem?_append_right (by simp), show T.length + L.length - (T ++ fst L).length = 0 by simp]; rfl
    have c1 : (T ++ fst L ++ y.1 :: U)[T.length + (i + j) / 2]? = some x.1 := by
      rw [List.getElem?_append_left (by simp; omega), List.getElem?_append_right (by omega), show T.length + (i + j) / 2 - T.length = (i + j) / 2 by omega, List.getElem?_map, hx]; rfl
    have i0 := o.ia (k := T.length + L.length) (n := n) (by simp) (by simp; omega)
    have i1 := o.ia (k := T.length + (i + j) / 2) (n := n) (by simp; omega) (by simp; omega)
    have l0 := o.ld c0
    have l1 := o.ld c1
    have e5 : IntKind.i64.wrap (((T.length + (i + j) / 2 : Nat) : Int) + 1) = ((T.length + ((i + j) / 2 + 1) : Nat) : Int) := by rw [wrap64_of (by omega) (by omega)]; omega
    generalize dat id g n = D at i0 i1 ⊢
    simp (disch := omega) only [go_sem, e1, e2, ↓shr_half, e3, e4, i0, i1, l0, l1]
    refine ⟨all1_call G y.1 x.1 _ _ fun z t hz => ?_⟩
    have hyx := hlt x (List.mem_of_getElem? hx)
    cases hbl : bl y.1.key x.1.key with
    | false =>
      rw [hbl] at hz
      have hz : ¬ z < 0 := by simpa using hz
      simp (disch := omega) only [go_sem, e4, e5, Bool.not_false]
      refine next_drop (j - ((i + j) / 2 + 1)) (by omega) (Nat.le_refl _) hlow2 (low2 _ _) ⟨(i + j) / 2 + 1, j, by omega, hj, rfl, rfl, ?_, hhi, rfl⟩
      intro k w hk' hw
      by_cases he : k = (i + j) / 2
      · subst he; rw [hx] at hw; obtain rfl := Option.some.inj hw; exact dlt_left hyx hbl
      · exact dlt_trans (sL.at (by omega) hw hx) (dlt_left hyx hbl)
    | true =>
      rw [hbl] at hz
      have hz : z < 0 := by simpa using hz
      simp (disch := omega) only [go_sem, e4, Bool.not_true]
      refine next_drop ((i + j) / 2 - i) (by omega) (Nat.le_refl _) hlow2 (low2 _ _) ⟨i, (i + j) / 2, by omega, by omega, rfl, rfl, hlo, ?_, rfl⟩
      intro k w hk' hw
      by_cases he : k = (i + j) / 2
      · subst he; rw [hx] at hw; obtain rfl := Option.some.inj hw; exact dlt_right hyx hbl
      · exact dlt_trans (dlt_right hyx hbl) (sL.at (by omega) hx hw)
  · have : j = i := by omega
    subst this
    have hk := hk (L.take j ++ y :: L.drop j) (put_perm.trans (List.perm_append_comm (l₁ := [y]) (l₂ := L))) (put_sorted sL hlo hhi)
    simp (disch := omega) only [go_sem]
    have eL : fst L = (fst L).take j ++ (fst L).drop j := (List.take_append_drop _ _).symm
    have eo : (T ++ (fst L).take j) ++ (fst L).drop j ++ y.1 :: U = T ++ fst L ++ y.1 :: U := by
      rw [List.append_assoc T, ← eL]
    refine shiftL id g (T ++ (fst L).take j) ((fst L).drop j) U y.1 h' h' K (by rw [eo]; exact o) (by rw [eo]; exact hl0) (by rw [eo]; simp; omega) (by simp; omega) (by simp; omega) ?_
    have e : T ++ (fst L).take j ++ y.1 :: ((fst L).drop j ++ U) = T ++ fst (L.take j ++ y :: L.drop j) ++ U := by simp [fst]
    rw [e]
    exact hk
end Go.Proofs

/-
  Contracts: a merge.
-/
namespace Go.Proofs
open Go Go.Abs
set_option maxRecDepth 100000
set_option linter.unusedSimpArgs false
theorem fst_len {l : List Deco} : (fst l).length = l.length := List.length_map _
theorem fst_nil {l : List Deco} : fst l = [] ↔ l = [] := List.map_eq_nil_iff
/-- What a merge does, of so many rows. -/
def MergeOk (G : Nat → Option AV) (id g N : Nat) : Prop := ∀ (L R : List Deco) (T U : List RowA) (h : AH) (K : AV → AH → Prop), L.length + R.length ≤ N → L ≠ [] → R ≠ [] → SortedD L → SortedD R → (∀ x ∈ L, ∀ y ∈ R, x.2 < y.2) → RowsIn h id g (T ++ fst L ++ fst R ++ U) → (T ++ fst L ++ fst R ++ U).length ≤ 1000000000 → ∀ n a m b : Nat, n = (T ++ fst L ++ fst R ++ U).length → a = T.length → m = T.length + L.length → b = T.length + L.length + R.length →
    (∀ S : List Deco, S.Perm (L ++ R) → SortedD S → K (.tup []) (h.set id (some (.cells 131 3 ((T ++ fst S ++ U).map RowA.cells) g)))) → SCall Tryz.prog G 157 [dat id g n, .v (.int .i64 a), .v (.int .i64 m), .v (.int .i64 b), fnA] h K
theorem symFin (G : Nat → Option AV) (id g N : Nat) (ih : MergeOk G id g N) (L1 L2 R1 R2 S1 : List Deco) (T U : List RowA) (h H : AH) (K : AV → AH → Prop) (n a m b mid r : Nat)
    (sLR1 : SortedD (L1 ++ L2)) (sLR2 : SortedD (R1 ++ R2)) (b1 : ∀ x ∈ L1, ∀ y ∈ R2, dlt x y) (b2 : ∀ y ∈ R1, ∀ x ∈ L2, dlt y x) (q22 : ∀ x ∈ L2, ∀ y ∈ R2, x.2 < y.2) (hN : L2.length + R2.length ≤ N)
    (hn : n = T.length + L1.length + L2.length + R1.length + R2.length + U.length) (hn9 : n ≤ 1000000000) (ha : a = T.length) (hr : r = a + L1.length) (hm : m = a + L1.length + L2.length) (hmid : mid = r + R1.length) (hb : b = m + R1.length + R2.length)
    (p1 : S1.Perm (L1 ++ R1)) (s1 : SortedD S1) (oH : RowsIn H id g (T ++ fst S1 ++ fst L2 ++ fst R2 ++ U)) (sH : ∀ z : Option AO, H.set id z = h.set id z)
    (hk : ∀ S : List Deco, S.Perm ((L1 ++ L2) ++ (R1 ++ R2)) → SortedD S → K (.tup []) (h.set id (some (.cells 131 3 ((T ++ fst S ++ U).map RowA.cells) g)))) :
    Tryz.r157_j99 K h G (dat id g n) (.v (.int .i64 b)) fnA mid m r H := by
  unfold Tryz.r157_j99
  have lS := p1.length_eq
  rw [List.length_append] at lS
  have e4 : IntKind.i64.wrap (mid : Int) = (mid : Int) := wrap64_of (by omega) (by omega)
  have wn : IntKind.i64.wrap ((mid : Int) + (m : Int)) = ((mid + m : Nat) : Int) := by rw [wrap64_of (by omega) (by omega)]; omega
  have we : IntKind.i64.wrap (((mid + m : Nat) : Int) - (r : Int)) = ((m + (mid - r) : Nat) : Int) := by rw [wrap64_of (by omega) (by omega)]; omega
  by_cases hcond : 0 < L2.length ∧ 0 < R2.length
  · have cc : callR Tryz.prog G 157 [dat id g n, .v (.int .i64 (mid : Int)), .v (.int .i64 ((m + (mid - r) : Nat) : Int)), .v (.int .i64 (b : Int)), fnA] H (fun v h' => RetR h K (.tup []) h') := by
      refine ⟨ih L2 R2 (T ++ fst S1) U H _ hN (List.length_pos_iff.mp hcond.1) (List.length_pos_iff.mp hcond.2) (List.pairwise_append.mp sLR1).2.1 (List.pairwise_append.mp sLR2).2.1 q22 oH (by simp only [List.length_append, fst_len]; omega) n mid (m + (mid - r)) b (by simp only [List.length_append, fst_len]; omega) (by simp only [List.length_append, fst_len]; omega) (by simp only [List.length_append, fst_len]; omega) (by simp only [List.length_append, fst_len]; omega) fun S2 p2 s2 => ?_⟩
      obtain ⟨m1, m2⟩ := merge_sorted sLR1 sLR2 b1 b2 p1 s1 p2 s2
      rw [sH]
      refine ret_keep ?_
      have e : T ++ fst S1 ++ fst S2 ++ U = T ++ fst (S1 ++ S2) ++ U := by simp [fst]
      rw [e]
      exact hk _ m2 m1
    generalize dat id g n = D at cc ⊢
    simp (disch := omega) only [go_sem, e4, wn, we]
    exact cc
  · have s2 : SortedD (L2 ++ R2) := by
      by_cases h0 : 0 < L2.length
      · have : R2 = [] := List.length_eq_zero_iff.mp (by omega)
        subst this; rw [List.append_nil]; exact (List.pairwise_append.mp sLR1).2.1
      · have : L2 = [] := List.length_eq_zero_iff.mp (by omega)
        subst this; exact (List.pairwise_append.mp sLR2).2.1
    obtain ⟨m1, m2⟩ := merge_sorted sLR1 sLR2 b1 b2 p1 s1 (List.Perm.refl _) s2
    have e : T ++ fst S1 ++ fst L2 ++ fst R2 ++ U = T ++ fst (S1 ++ (L2 ++ R2)) ++ U := by simp [fst]
    have hfin : K (.tup []) H := by
      have := hk _ m2 m1
      rw [← e, ← sH, set_same oH] at this
      exact this
    by_cases h0 : 0 < L2.length
    · simp (disch := omega) only [go_sem, e4, wn, we]
      exact ret_keep hfin
    · simp (disch := omega) only [go_sem, e4, wn, we]
      exact ret_keep hfin
theorem symRest (G : Nat → Option AV) (id g N : Nat) (ih : MergeOk G id g N) (L1 L2 R1 R2 : List Deco) (T U : List RowA) (h H : AH) (K : AV → AH → Prop) (n a m b mid r : Nat)
    (sLR1 : SortedD (L1 ++ L2)) (sLR2 : SortedD (R1 ++ R2)) (b1 : ∀ x ∈ L1, ∀ y ∈ R2, dlt x y) (b2 : ∀ y ∈ R1, ∀ x ∈ L2, dlt y x) (q11 : ∀ x ∈ L1, ∀ y ∈ R1, x.2 < y.2) (q22 : ∀ x ∈ L2, ∀ y ∈ R2, x.2 < y.2) (hN1 : L1.length + R1.length ≤ N) (hN : L2.length + R2.length ≤ N)
    (hn : n = T.length + L1.length + L2.length + R1.length + R2.length + U.length) (hn9 : n ≤ 1000000000) (ha : a = T.length) (hr : r = a + L1.length) (hm : m = a + L1.length + L2.length) (hmid : mid = r + R1.length) (hb : b = m + R1.length + R2.length)
    (oH : RowsIn H id g (T ++ fst L1 ++ fst R1 ++ (fst L2 ++ fst R2 ++ U))) (sH : ∀ z : Option AO, H.set id z = h.set id z)
    (hk : ∀ S : List Deco, S.Perm ((L1 ++ L2) ++ (R1 ++ R2)) → SortedD S → K (.tup []) (h.set id (some (.cells 131 3 ((T ++ fst S ++ U).map RowA.cells) g)))) :
    Tryz.r157_j98 G h K (dat id g n) (.v (.int .i64 a)) (.v (.int .i64 b)) fnA mid m r H := by
  unfold Tryz.r157_j98
  have e4 : IntKind.i64.wrap (mid : Int) = (mid : Int) := wrap64_of (by omega) (by omega)
  have fin := fun S1 p1 s1 H oH sH => symFin G id g N ih L1 L2 R1 R2 S1 T U h H K n a m b mid r sLR1 sLR2 b1 b2 q22 hN hn hn9 ha hr hm hmid hb p1 s1 oH sH hk
  by_cases hcond : 0 < L1.length ∧ 0 < R1.length
  · have cc : callR Tryz.prog G 157 [dat id g n, .v (.int .i64 (a : Int)), .v (.int .i64 (r : Int)), .v (.int .i64 (mid : Int)), fnA] H (fun v h' => Tryz.r157_j99 K h G (dat id g n) (.v (.int .i64 b)) fnA mid m r h') := by
      refine ⟨ih L1 R1 T (fst L2 ++ fst R2 ++ U) H _ hN1 (List.length_pos_iff.mp hcond.1) (List.length_pos_iff.mp hcond.2) (List.pairwise_append.mp sLR1).1 (List.pairwise_append.mp sLR2).1 q11 oH (by simp only [List.length_append, fst_len]; omega) n a r mid (by simp only [List.length_append, fst_len]; omega) ha (by omega) (by omega) fun S1 p1 s1 => ?_⟩
      have ilH := (List.getElem?_eq_some_iff.mp oH).1
      have e : T ++ fst S1 ++ (fst L2 ++ fst R2 ++ U) = T ++ fst S1 ++ fst L2 ++ fst R2 ++ U := by simp
      rw [e]
      exact fin S1 p1 s1 _ (List.getElem?_set_self ilH) (fun z => by rw [List.set_set, sH])
    generalize dat id g n = D at cc ⊢
    simp (disch := omega) only [go_sem, e4]
    exact cc
  · have s1 : SortedD (L1 ++ R1) := by
      by_cases h0 : 0 < L1.length
      · have : R1 = [] := List.length_eq_zero_iff.mp (by omega)
        subst this; rw [List.append_nil]; exact (List.pairwise_append.mp sLR1).1
      · have : L1 = [] := List.length_eq_zero_iff.mp (by omega)
        subst this; exact (List.pairwise_append.mp sLR2).1
    have e : T ++ fst L1 ++ fst R1 ++ (fst L2 ++ fst R2 ++ U) = T ++ fst (L1 ++ R1) ++ fst L2 ++ fst R2 ++ U := by simp [fst]
    rw [e] at oH
    have f := fin (L1 ++ R1) (List.Perm.refl _) s1 H oH sH
    by_cases h0 : 0 < L1.length
    · simp (disch := omega) only [go_sem, e4]
      exact f
    · simp (disch := omega) only [go_sem, e4]
      exact f
end Go.Proofs

/-
  Contracts: a merge, whole.
-/
namespace Go.Proofs
open Go Go.Abs
set_option maxRecDepth 100000
set_option linter.unusedSimpArgs false
/-- Where the two sides part. -/
structure PartAt (L R : List Deco) (a mid s0 r0 s : Nat) : Prop where
  lo : s = s0 ∨ ∃ x y, L[s - 1 - a]? = some x ∧ R[mid - s]? = some y ∧ dlt x y
  hi : s = r0 ∨ ∃ x y, L[s - a]? = some x ∧ R[mid - 1 - s]? = some y ∧ dlt y x
theorem symLoop (G : Nat → Option AV) (id g : Nat) (L R : List Deco) (T U : List RowA) (h : AH) (K : AV → AH → Prop) (hlr : ∀ x ∈ L, ∀ y ∈ R, x.2 < y.2) (o : RowsIn h id g (T ++ fst L ++ fst R ++ U)) (n a m b mid s0 r0 : Nat) (hn0 : n = (T ++ fst L ++ fst R ++ U).length) (hn : n = T.length + L.length + R.length + U.length) (hn9 : n ≤ 1000000000) (ha : a = T.length) (hm : m = T.length + L.length) (hb : b = T.length + L.length + R.length)
    (hs0 : a ≤ s0) (hsr : s0 ≤ r0) (hrm : r0 ≤ m) (hrmid : r0 ≤ mid) (hsb : mid ≤ s0 + R.length) (hmb : mid ≤ b)
    (hrot : ∀ s, s0 ≤ s → s ≤ r0 → PartAt L R a mid s0 r0 s → s < m → s < mid → callR Tryz.prog G 172 [dat id g n, .v (.int .i64 (s : Int)), .v (.int .i64 (m : Int)), .v (.int .i64 ((m + (mid - s) : Nat) : Int)), fnA] h (fun _ H => Tryz.r157_j98 G h K (dat id g n) (.v (.int .i64 a)) (.v (.int .i64 b)) fnA mid m s H))
    (hno : ∀ s, s0 ≤ s → s ≤ r0 → PartAt L R a mid s0 r0 s → ¬ (s < m ∧ s < mid) → Tryz.r157_j98 G h K (dat id g n) (.v (.int .i64 a)) (.v (.int .i64 b)) fnA mid m s h) :
    Tryz.r157_l33_83 K h G (dat id g n) (.v (.int .i64 a)) (.v (.int .i64 m)) (.v (.int .i64 b)) fnA mid m h s0 r0 := by
  unfold Tryz.r157_l33_83
  have e4 : IntKind.i64.wrap (mid : Int) = (mid : Int) := wrap64_of (by omega) (by omega)
  have wn : IntKind.i64.wrap ((mid : Int) + (m : Int)) = ((mid + m : Nat) : Int) := by rw [wrap64_of (by omega) (by omega)]; omega
  refine ⟨fun q vs h' => ∃ s r : Nat, s0 ≤ s ∧ s ≤ r ∧ r ≤ r0 ∧ q = r - s ∧ h' = h ∧ (s = s0 ∨ ∃ x y, L[s - 1 - a]? = some x ∧ R[mid - s]? = some y ∧ dlt x y) ∧ (r = r0 ∨ ∃ x y, L[r - a]? = some x ∧ R[mid - 1 - r]? = some y ∧ dlt y x) ∧ vs = [.v (.int .i64 s), .v (.int .i64 r)], r0 - s0, ⟨s0, r0, by omega, hsr, by omega, rfl, rfl, .inl rfl, .inl rfl, rfl⟩, ?_⟩
  rintro q h' hl1' hlow2 n87 n88 ⟨s, r, hss, hsr', hrr, rfl, rfl, hlo, hhi, hvs⟩
  simp only [List.cons.injEq, AV.v.injEq, Value.int.injEq, true_and, and_true] at hvs
  obtain ⟨rfl, rfl⟩ := hvs
  by_cases hc : s < r
  · clear hrot hno
    obtain ⟨f1, f2, f3, f4⟩ := half_e (i := s) (j := r) (by omega)
    obtain ⟨c, hcm⟩ : ∃ c, (s + r) / 2 = c := ⟨_, rfl⟩
    rw [hcm] at f3 f4
    have hcs : s ≤ c := by omega
    have hcr : c < r := by omega
    clear hcm
    have wp : IntKind.i64.wrap (((mid + m : Nat) : Int) - 1) = ((mid + m - 1 : Nat) : Int) := by rw [wrap64_of (by omega) (by omega)]; omega
    have wc : IntKind.i64.wrap (((mid + m - 1 : Nat) : Int) - (c : Int)) = ((m + (mid - 1 - c) : Nat) : Int) := by rw [wrap64_of (by omega) (by omega)]; omega
    have f5 : IntKind.i64.wrap ((c : Int) + 1) = ((c + 1 : Nat) : Int) := by rw [wrap64_of (by omega) (by omega)]; omega
    obtain ⟨x, hx⟩ : ∃ x, L[c - a]? = some x := ⟨_, List.getElem?_eq_getElem (by omega)⟩
    obtain ⟨y, hy⟩ : ∃ y, R[mid - 1 - c]? = some y := ⟨_, List.getElem?_eq_getElem (by omega)⟩
    have c0 : (T ++ fst L ++ fst R ++ U)[c]? = some x.1 := by
      rw [List.append_assoc, List.append_assoc, List.getElem?_append_right (by omega), List.getElem?_append_left (by rw [fst_len]; omega), List.getElem?_map, ← ha, hx]; rfl
    have c1 : (T ++ fst L ++ fst R ++ U)[m + (mid - 1 - c)]? = some y.1 := by
      rw [List.append_assoc, List.getElem?_append_right (by rw [List.length_append, fst_len]; omega), List.getElem?_append_left (by rw [List.length_append, fst_len, fst_len]; omega), List.getElem?_map, show m + (mid - 1 - c) - (T ++ fst L).length = mid - 1 - c by rw [List.length_append, fst_len]; omega, hy]; rfl
    have i0 := o.ia (k := c) (n := n) (by simp only [List.length_append, fst_len]; omega) hn0
    have i1 := o.ia (k := m + (mid - 1 - c)) (n := n) (by simp only [List.length_append, fst_len]; omega) hn0
    have l0 := o.ld c0
    have l1 := o.ld c1
    have hyx := hlr x (List.mem_of_getElem? hx) y (List.mem_of_getElem? hy)
    have lt1 : ((s : Int) < (r : Int)) := by omega
    generalize dat id g n = D at i0 i1 ⊢
    clear c0 c1 hn0 hlr o
    simp (disch := omega) only [go_sem, f1, f2, ↓shr_half, f3, f4, e4, wn, wp, wc, i0, i1, l0, l1]
    refine ⟨all1_call G y.1 x.1 _ _ fun z t hz => ?_⟩
    cases hbl : bl y.1.key x.1.key with
    | false =>
      rw [hbl] at hz
      have hz : ¬ z < 0 := by simpa using hz
      simp (disch := omega) only [go_sem, f4, f5, Bool.not_false]
      exact next_drop (r - (c + 1)) (by omega) (Nat.le_refl _) hlow2 (low2 _ _) ⟨c + 1, r, by omega, by omega, by omega, rfl, rfl, .inr ⟨x, y, by rw [show c + 1 - 1 - a = c - a by omega]; exact hx, by rw [show mid - (c + 1) = mid - 1 - c by omega]; exact hy, dlt_left hyx hbl⟩, hhi, rfl⟩
    | true =>
      rw [hbl] at hz
      have hz : z < 0 := by simpa using hz
      simp (disch := omega) only [go_sem, f4, Bool.not_true]
      exact next_drop (c - s) (by omega) (Nat.le_refl _) hlow2 (low2 _ _) ⟨s, c, by omega, by omega, by omega, rfl, rfl, hlo, .inr ⟨x, y, hx, hy, dlt_right hyx hbl⟩, rfl⟩
  · have : r = s := by omega
    subst this
    have we : IntKind.i64.wrap (((mid + m : Nat) : Int) - (r : Int)) = ((m + (mid - r) : Nat) : Int) := by rw [wrap64_of (by omega) (by omega)]; omega
    by_cases h1 : r < m
    · by_cases h2 : r < mid
      · have c := hrot r hss hrr ⟨hlo, hhi⟩ h1 h2
        clear hrot hno o hlr
        generalize dat id g n = D at c ⊢
        simp (disch := omega) only [go_sem, e4, wn, we]
        exact c
      · have c := hno r hss hrr ⟨hlo, hhi⟩ (fun h => h2 h.2)
        clear hrot hno o hlr
        generalize dat id g n = D at c ⊢
        simp (disch := omega) only [go_sem, e4, wn, we]
        exact c
    · have c := hno r hss hrr ⟨hlo, hhi⟩ (fun h => h1 h.1)
      clear hrot hno o hlr
      generalize dat id g n = D at c ⊢
      simp (disch := omega) only [go_sem, e4, wn, we]
      exact c
/-- What lies on either side of where they part. -/
theorem part_below {L R : List Deco} {a m mid s0 r0 s : Nat} (sL : SortedD L) (sR : SortedD R) (p : PartAt L R a mid s0 r0 s) (h0 : s0 ≤ s) (h1 : s ≤ r0) (hs0 : a ≤ s0) (hm : m = a + L.length) (hrm : r0 ≤ m) (hrmid : r0 ≤ mid) (hs1 : s0 = a ∨ mid = s0 + R.length) (hr1 : r0 = m ∨ r0 = mid) :
    (∀ x ∈ L.take (s - a), ∀ y ∈ R.drop (mid - s), dlt x y) ∧ (∀ y ∈ R.take (mid - s), ∀ x ∈ L.drop (s - a), dlt y x) := by
  refine ⟨all_below (sL.take _) (sR.drop _) fun x y hx hy => ?_, all_below (sR.take _) (sL.drop _) fun y x hy hx => ?_⟩
  · rw [List.getElem?_drop, Nat.add_zero] at hy
    rw [List.length_take, List.getElem?_take] at hx
    have hyl := (List.getElem?_eq_some_iff.mp hy).1
    split at hx
    · rename_i hlt
      rcases p.lo with rfl | ⟨x', y', hx', hy', hd⟩
      · rcases hs1 with hs1 | hs1 <;> omega
      · rw [show min (s - a) L.length - 1 = s - 1 - a by omega, hx'] at hx
        rw [hy'] at hy
        obtain rfl := Option.some.inj hx
        obtain rfl := Option.some.inj hy
        exact hd
    · cases hx
  · rw [List.getElem?_drop, Nat.add_zero] at hx
    have hxl := (List.getElem?_eq_some_iff.mp hx).1
    rw [List.length_take, List.getElem?_take] at hy
    split at hy
    · rename_i hlt
      have hyl := (List.getElem?_eq_some_iff.mp hy).1
      rcases p.hi with rfl | ⟨x', y', hx', hy', hd⟩
      · rcases hr1 with hr1 | hr1 <;> omega
      · have hyl' := (List.getElem?_eq_some_iff.mp hy').1
        by_cases hle : mid - s ≤ R.length
        · rw [show min (mid - s) R.length - 1 = mid - 1 - s by omega, hy'] at hy
          rw [hx'] at hx
          obtain rfl := Option.some.inj hx
          obtain rfl := Option.some.inj hy
          exact hd
        · omega
    · cases hy
end Go.Proofs

/-
  Contracts: symMerge.
-/
namespace Go.Proofs
open Go Go.Abs
set_option maxRecDepth 100000
set_option linter.unusedSimpArgs false
theorem symGen (G : Nat → Option AV) (id g N : Nat) (ih : MergeOk G id g N) (L R : List Deco) (T U : List RowA) (h : AH) (K : AV → AH → Prop) (n a m b mid s0 r0 : Nat) (hN : L.length + R.length ≤ N + 1) (hL : 2 ≤ L.length) (hR : 2 ≤ R.length) (sL : SortedD L) (sR : SortedD R) (hlr : ∀ x ∈ L, ∀ y ∈ R, x.2 < y.2) (o : RowsIn h id g (T ++ fst L ++ fst R ++ U)) (hn0 : n = (T ++ fst L ++ fst R ++ U).length) (hn9 : n ≤ 1000000000) (ha : a = T.length) (hm : m = T.length + L.length) (hb : b = T.length + L.length + R.length)
    (hk : ∀ S : List Deco, S.Perm (L ++ R) → SortedD S → K (.tup []) (h.set id (some (.cells 131 3 ((T ++ fst S ++ U).map RowA.cells) g))))
    (hmid : (a + b) / 2 = mid) (hs0 : a ≤ s0) (hsr : s0 ≤ r0) (hrm : r0 ≤ m) (hrmid : r0 ≤ mid) (hsb : mid ≤ s0 + R.length) (hs1 : s0 = a ∨ mid = s0 + R.length) (hr1 : r0 = m ∨ r0 = mid) :
    Tryz.r157_l33_83 K h G (dat id g n) (.v (.int .i64 a)) (.v (.int .i64 m)) (.v (.int .i64 b)) fnA mid m h s0 r0 := by
  have hn : n = T.length + L.length + R.length + U.length := by rw [hn0]; simp only [List.length_append, fst_len]
  have il := (List.getElem?_eq_some_iff.mp o).1
  have rest : ∀ s, s0 ≤ s → s ≤ r0 → PartAt L R a mid s0 r0 s → ∀ H, RowsIn H id g (T ++ fst (L.take (s - a)) ++ fst (R.take (mid - s)) ++ (fst (L.drop (s - a)) ++ fst (R.drop (mid - s)) ++ U)) → (∀ z : Option AO, H.set id z = h.set id z) → Tryz.r157_j98 G h K (dat id g n) (.v (.int .i64 a)) (.v (.int .i64 b)) fnA mid m s H := by
    intro s h0 h1 p H oH sH
    obtain ⟨b1, b2⟩ := part_below sL sR p h0 h1 hs0 (by omega) hrm hrmid hs1 hr1
    have eL : L.take (s - a) ++ L.drop (s - a) = L := List.take_append_drop _ _
    have eR : R.take (mid - s) ++ R.drop (mid - s) = R := List.take_append_drop _ _
    have lL1 : (L.take (s - a)).length = s - a := by rw [List.length_take]; omega
    have lL2 : (L.drop (s - a)).length = m - s := by rw [List.length_drop]; omega
    have lR1 : (R.take (mid - s)).length = mid - s := by rw [List.length_take]; omega
    have lR2 : (R.drop (mid - s)).length = R.length - (mid - s) := List.length_drop
    exact symRest G id g N ih (L.take (s - a)) (L.drop (s - a)) (R.take (mid - s)) (R.drop (mid - s)) T U h H K n a m b mid s (by rw [eL]; exact sL) (by rw [eR]; exact sR) b1 b2 (fun x hx y hy => hlr x (List.mem_of_mem_take hx) y (List.mem_of_mem_take hy)) (fun x hx y hy => hlr x (List.mem_of_mem_drop hx) y (List.mem_of_mem_drop hy)) (by omega) (by omega) (by omega) hn9 ha (by omega) (by omega) (by omega) (by omega) oH sH (fun S p s => hk S (by rw [eL, eR] at p; exact p) s)
  refine symLoop G id g L R T U h K hlr o n a m b mid s0 r0 hn0 hn hn9 ha hm hb hs0 hsr hrm hrmid hsb (by omega) (fun s h0 h1 p hm1 hm2 => ?_) (fun s h0 h1 p hnot => ?_)
  · have eL : fst L = fst (L.take (s - a)) ++ fst (L.drop (s - a)) := by rw [← List.map_append, List.take_append_drop]
    have eR : fst R = fst (R.take (mid - s)) ++ fst (R.drop (mid - s)) := by rw [← List.map_append, List.take_append_drop]
    have lL1 : (L.take (s - a)).length = s - a := by rw [List.length_take]; omega
    have lL2 : (L.drop (s - a)).length = m - s := by rw [List.length_drop]; omega
    have lR1 : (R.take (mid - s)).length = mid - s := by rw [List.length_take]; omega
    have lR2 : (R.drop (mid - s)).length = R.length - (mid - s) := List.length_drop
    refine ⟨rotate_call G fnA id g (T ++ fst (L.take (s - a))) (fst (L.drop (s - a))) (fst (R.take (mid - s))) (fst (R.drop (mid - s)) ++ U) h _ ?_ ?_ ?_ ?_ ?_ ?_ ?_ ?_ ?_⟩
    · have e : T ++ fst (L.take (s - a)) ++ fst (L.drop (s - a)) ++ fst (R.take (mid - s)) ++ (fst (R.drop (mid - s)) ++ U) = T ++ fst L ++ fst R ++ U := by
        rw [eL, eR]; simp only [List.append_assoc]
      rw [e]; exact o
    · rw [Ne, fst_nil]; exact List.length_pos_iff.mp (by omega)
    · rw [Ne, fst_nil]; exact List.length_pos_iff.mp (by omega)
    · simp only [List.length_append, fst_len]; omega
    · simp only [List.length_append, fst_len]; omega
    · simp only [List.length_append, fst_len]; omega
    · simp only [List.length_append, fst_len]; omega
    · simp only [List.length_append, fst_len]; omega
    · have e : T ++ fst (L.take (s - a)) ++ fst (R.take (mid - s)) ++ fst (L.drop (s - a)) ++ (fst (R.drop (mid - s)) ++ U) = T ++ fst (L.take (s - a)) ++ fst (R.take (mid - s)) ++ (fst (L.drop (s - a)) ++ fst (R.drop (mid - s)) ++ U) := by simp only [List.append_assoc]
      rw [e]
      exact rest s h0 h1 p _ (List.getElem?_set_self il) (fun z => by rw [List.set_set])
  · have eL : fst L = fst (L.take (s - a)) ++ fst (L.drop (s - a)) := by rw [← List.map_append, List.take_append_drop]
    have eR : fst R = fst (R.take (mid - s)) ++ fst (R.drop (mid - s)) := by rw [← List.map_append, List.take_append_drop]
    refine rest s h0 h1 p h ?_ (fun _ => rfl)
    have e : T ++ fst L ++ fst R ++ U = T ++ fst (L.take (s - a)) ++ fst (R.take (mid - s)) ++ (fst (L.drop (s - a)) ++ fst (R.drop (mid - s)) ++ U) := by
      by_cases hc : s < m
      · have : R.take (mid - s) = [] := by rw [show mid - s = 0 by omega]; rfl
        rw [eL, eR, this]
        simp only [fst, List.map_nil, List.append_nil, List.nil_append, List.append_assoc]
      · have : L.drop (s - a) = [] := List.drop_eq_nil_of_le (by omega)
        rw [eL, eR, this]
        simp only [fst, List.map_nil, List.append_nil, List.nil_append, List.append_assoc]
    rw [← e]
    exact o
theorem symMerge_ok (G : Nat → Option AV) (id g : Nat) : ∀ N : Nat, MergeOk G id g N
  | 0 => by
    intro L R T U h K hN hL
    have := List.length_pos_iff.mpr hL
    omega
  | N + 1 => by
    intro L R T U h K hN hL hR sL sR hlr o hl n a m b hn0 ha hm hb hk
    have ih := symMerge_ok G id g N
    refine Tryz.c157 G _ _ _ _ _ h K fun hlow => ?_
    unfold Tryz.r157
    have hL1 := List.length_pos_iff.mpr hL
    have hR1 := List.length_pos_iff.mpr hR
    have hl0 := hl
    have hn : n = T.length + L.length + R.length + U.length := by rw [hn0]; simp only [List.length_append, fst_len]
    have hn9 : n ≤ 1000000000 := by rw [hn0]; exact hl
    have w1 : IntKind.i64.wrap ((m : Int) - (a : Int)) = (L.length : Int) := by rw [wrap64_of (by omega) (by omega)]; omega
    have w2 : IntKind.i64.wrap ((b : Int) - (m : Int)) = (R.length : Int) := by rw [wrap64_of (by omega) (by omega)]; omega
    by_cases hl1 : L.length = 1
    · have z0 : ((L.length : Int) == 1) = true := by simp [hl1]
      obtain ⟨x, rfl⟩ := List.length_eq_one_iff.mp hl1
      have e : T ++ fst [x] ++ fst R ++ U = T ++ x.1 :: (fst R ++ U) := by simp [fst]
      rw [e] at o hl0 hn0
      have c := searchR G id g T U x R h K hlow sR (fun y hy => hlr x (by simp) y hy) o hl0 hn0 ha (by simpa using hm) (by simpa using hb) (fun S p s => hk S (by simpa using p) s)
      generalize dat id g n = D at c ⊢
      simp only [okInt_mk, w1, z0, condB_true]
      exact c
    have z1 : ((L.length : Int) == 1) = false := by simp; omega
    by_cases hr1 : R.length = 1
    · have z0 : ((R.length : Int) == 1) = true := by simp [hr1]
      obtain ⟨y, rfl⟩ := List.length_eq_one_iff.mp hr1
      have e : T ++ fst L ++ fst [y] ++ U = T ++ fst L ++ y.1 :: U := by simp [fst]
      rw [e] at o hl0 hn0
      have c := searchL G id g T U y L h K hlow sL (fun x hx => hlr x hx y (by simp)) o hl0 hn0 ha hm (fun S p s => hk S p s)
      generalize dat id g n = D at c ⊢
      simp only [okInt_mk, w1, w2, z1, z0, condB_true, condB_false]
      exact c
    have z2 : ((R.length : Int) == 1) = false := by simp; omega
    obtain ⟨e1, e2, e3, e4⟩ := half_e (i := a) (j := b) (by omega)
    obtain ⟨mid, hmid⟩ : ∃ mid, (a + b) / 2 = mid := ⟨_, rfl⟩
    rw [hmid] at e3 e4
    have wn : IntKind.i64.wrap ((mid : Int) + (m : Int)) = ((mid + m : Nat) : Int) := by rw [wrap64_of (by omega) (by omega)]; omega
    have gen := fun s0 r0 => symGen G id g N ih L R T U h K n a m b mid s0 r0 hN (by omega) (by omega) sL sR hlr o hn0 hn9 ha hm hb hk hmid
    by_cases hbig : m > mid
    · have ws : IntKind.i64.wrap (((mid + m : Nat) : Int) - (b : Int)) = ((mid + m - b : Nat) : Int) := by rw [wrap64_of (by omega) (by omega)]; omega
      have c := gen (mid + m - b) mid (by omega) (by omega) (by omega) (by omega) (by omega) (.inr (by omega)) (.inr rfl)
      clear gen ih hk o hlr sL sR
      generalize dat id g n = D at c ⊢
      simp (disch := omega) only [go_sem, w1, w2, z1, z2, e1, e2, ↓shr_half, e3, e4, wn, ws]
      exact c
    · have c := gen a m (by omega) (by omega) (by omega) (by omega) (by omega) (.inl rfl) (.inl rfl)
      clear gen ih hk o hlr sL sR
      generalize dat id g n = D at c ⊢
      simp (disch := omega) only [go_sem, w1, w2, z1, z2, e1, e2, ↓shr_half, e3, e4, wn]
      exact c
end Go.Proofs

/-
  Contracts: insertionSort.
-/
namespace Go.Proofs
open Go Go.Abs
set_option maxRecDepth 100000
set_option linter.unusedSimpArgs false
theorem RowsIn.app {h : AH} {id g : Nat} {l : List RowA} (o : RowsIn h id g l) (t : AH) : RowsIn (h ++ t) id g l := (List.getElem?_append_left (List.getElem?_eq_some_iff.mp o).1).trans o
theorem insIn (G : Nat → Option AV) (id g : Nat) (T V : List RowA) (S : List Deco) (y : Deco) (h h4 : AH) (I1 : Nat → List AV → AH → Prop) (m3 : Nat) (sS : SortedD S) (hlt : ∀ x ∈ S, x.2 < y.2) (o : RowsIn h4 id g (T ++ fst S ++ y.1 :: V)) {n a i : Nat} {b : AV} (hn0 : n = (T ++ fst S ++ y.1 :: V).length) (hn9 : n ≤ 1000000000) (ha : a = T.length) (hi : i = T.length + S.length)
    (hk : ∀ S' : List Deco, S'.Perm (y :: S) → SortedD S' → ∀ H, RowsIn H id g (T ++ fst S' ++ V) → But id h4 H → nextR h I1 m3 [some (dat id g n), some (.v (.int .i64 a)), some b, some fnA] [some (dat id g n), some (.v (.int .i64 a)), some b, some fnA] [.v (.int .i64 ((i : Int) + 1))] H) :
    Tryz.r156_l4_7 h G (dat id g n) (.v (.int .i64 a)) b fnA I1 m3 h4 i i := by
  unfold Tryz.r156_l4_7
  have hn : n = T.length + S.length + 1 + V.length := by rw [hn0]; simp only [List.length_append, fst_len, List.length_cons]; omega
  refine ⟨fun q vs H => ∃ j : Nat, j ≤ S.length ∧ q = j ∧ RowsIn H id g (T ++ fst (S.take j) ++ y.1 :: (fst (S.drop j) ++ V)) ∧ But id h4 H ∧ (∀ k x, j ≤ k → S[k]? = some x → dlt y x) ∧ vs = [.v (.int .i64 ((T.length + j : Nat) : Int))], S.length, ⟨S.length, by omega, rfl, ?_, But.refl, (by intro k x hk' hx; rw [List.getElem?_eq_none hk'] at hx; cases hx), by rw [hi]⟩, ?_⟩
  · rw [List.take_length, List.drop_length]; exact o
  rintro q H hl1 hlow2 n11 ⟨j, hj, rfl, oH, bH, hhi, hvs⟩
  simp only [List.cons.injEq, AV.v.injEq, Value.int.injEq, true_and, and_true] at hvs
  subst hvs
  -- it has come to its place
  have stop : ∀ H', RowsIn H' id g (T ++ fst (S.take q) ++ y.1 :: (fst (S.drop q) ++ V)) → But id h4 H' → (∀ k x, k < q → S[k]? = some x → dlt x y) → nextR h I1 m3 [some (dat id g n), some (.v (.int .i64 a)), some b, some fnA] [some (dat id g n), some (.v (.int .i64 a)), some b, some fnA] [.v (.int .i64 ((i : Int) + 1))] H' := fun H' oH' bH' hlo => by
    refine hk (S.take q ++ y :: S.drop q) put_perm (put_sorted sS hlo hhi) H' ?_ bH'
    have e : T ++ fst (S.take q ++ y :: S.drop q) ++ V = T ++ fst (S.take q) ++ y.1 :: (fst (S.drop q) ++ V) := by simp [fst]
    rw [e]; exact oH'
  by_cases h0 : 0 < q
  · obtain ⟨p, rfl⟩ : ∃ p, q = p + 1 := ⟨q - 1, by omega⟩
    obtain ⟨x, hx⟩ : ∃ x, S[p]? = some x := ⟨_, List.getElem?_eq_getElem (by omega)⟩
    have tS : fst (S.take (p + 1)) = fst (S.take p) ++ [x.1] := by rw [List.take_add_one, hx]; simp [fst]
    have dS : fst (S.drop p) = x.1 :: fst (S.drop (p + 1)) := by
      obtain ⟨h1, h2⟩ := List.getElem?_eq_some_iff.mp hx
      rw [← List.getElem_cons_drop (h := h1), h2]; rfl
    have lX : (T ++ fst (S.take p)).length = T.length + p := by rw [List.length_append, fst_len, List.length_take]; omega
    have eo : T ++ fst (S.take (p + 1)) ++ y.1 :: (fst (S.drop (p + 1)) ++ V) = (T ++ fst (S.take p)) ++ x.1 :: y.1 :: (fst (S.drop (p + 1)) ++ V) := by rw [tS]; simp
    have oH2 := oH
    rw [eo] at oH2
    have ln : ((T ++ fst (S.take p)) ++ x.1 :: y.1 :: (fst (S.drop (p + 1)) ++ V)).length = n := by
      simp only [List.length_append, List.length_cons, fst_len, List.length_take, List.length_drop]; omega
    have w1 : IntKind.i64.wrap (((T.length + (p + 1) : Nat) : Int) - 1) = ((T.length + p : Nat) : Int) := by rw [wrap64_of (by omega) (by omega)]; omega
    have w2 : aBin Tryz.prog .sub 3 (.v (.int .i64 ((T.length + (p + 1) : Nat) : Int))) (.v (.int .i64 1)) = some (.v (.int .i64 ((T.length + p : Nat) : Int))) := by
      simp only [aBin, aInt, chk, if_true, w1]
    have ev : ∀ t, aIA Tryz.prog (H ++ t) 47 (dat id g n) (.v (.int .i64 ((T.length + p : Nat) : Int))) = some (.ptr id g (T.length + p) 0) := fun t => (oH2.app t).ia (by omega) ln.symm
    have ew : ∀ t, aIA Tryz.prog (H ++ t) 47 (dat id g n) (.v (.int .i64 ((T.length + (p + 1) : Nat) : Int))) = some (.ptr id g (T.length + (p + 1)) 0) := fun t => (oH2.app t).ia (by omega) ln.symm
    have ev0 := ev []
    have ew0 := ew []
    rw [List.append_nil] at ev0 ew0
    have lv : ∀ t, Go.Abs.rowAt (H ++ t) (.ptr id g (T.length + p) 0) = some (x.1.cells, 0) := fun t => (oH2.app t).ld (by rw [← lX]; exact at0)
    have lw : ∀ t, Go.Abs.rowAt (H ++ t) (.ptr id g (T.length + (p + 1)) 0) = some (y.1.cells, 0) := fun t => (oH2.app t).ld (by rw [← Nat.add_assoc, ← lX]; exact at1)
    have lv0 := lv []
    have lw0 := lw []
    rw [List.append_nil] at lv0 lw0
    have o3 : ∀ t : AH, RowsIn (H ++ t) id g ((T ++ fst (S.take p)) ++ x.1 :: y.1 :: (fst (S.drop (p + 1)) ++ V)) := fun t => oH2.app t
    have hxy := hlt x (List.mem_of_getElem? hx)
    have ei : ∀ (H2 : AH) (l : List RowA), RowsIn H2 id g l → l.length = n → aIA Tryz.prog H2 47 (dat id g n) (.v (.int .i64 ((T.length + p : Nat) : Int))) = some (.ptr id g (T.length + p) 0) := fun H2 l ho hl => ho.ia (by omega) hl.symm
    generalize dat id g n = D at ev ew ev0 ew0 ei stop ⊢
    simp (disch := omega) only [go_sem, ↓w2, w1, ev0, ew0, lv0, lw0]
    refine ⟨all1_call G y.1 x.1 _ _ fun z t hz => ?_⟩
    cases hbl : bl y.1.key x.1.key with
    | false =>
      rw [hbl] at hz
      have hz : ¬ z < 0 := by simpa using hz
      simp (disch := omega) only [go_sem]
      refine stop _ (oH.app t) (bH.trans (But.app t)) fun k u hk' hu => ?_
      by_cases he : k = p
      · subst he; rw [hx] at hu; obtain rfl := Option.some.inj hu; exact dlt_left hxy hbl
      · exact dlt_trans (sS.at (by omega) hu hx) (dlt_left hxy hbl)
    | true =>
      rw [hbl] at hz
      have hz : z < 0 := by simpa using hz
      simp (disch := omega) only [go_sem, w1, ev, ew, lv, lw]
      refine (o3 t).st (k := T.length + (p + 1)) (r := x.1) (by omega) ?_
      have o4 : RowsIn ((H ++ t).set id (some (.cells 131 3 ((((T ++ fst (S.take p)) ++ x.1 :: y.1 :: (fst (S.drop (p + 1)) ++ V)).set (T.length + (p + 1)) x.1).map RowA.cells) g))) id g (((T ++ fst (S.take p)) ++ x.1 :: y.1 :: (fst (S.drop (p + 1)) ++ V)).set (T.length + (p + 1)) x.1) := List.getElem?_set_self (List.getElem?_eq_some_iff.mp (o3 t)).1
      have i4 := ei _ _ o4 (by rw [List.length_set]; exact ln)
      simp (disch := omega) only [okV_some, w1, i4, storeR_eq, storeV_ptr]
      refine o4.st (k := T.length + p) (r := y.1) (by rw [List.length_set]; omega) ?_
      have sw := swap2' (X := T ++ fst (S.take p)) (Y := fst (S.drop (p + 1)) ++ V) (u := x.1) (v := y.1)
      rw [lX] at sw
      rw [List.set_set, ← Nat.add_assoc, sw]
      refine next_keep p (by omega) (by simp; omega) ⟨p, by omega, rfl, ?_, (bH.trans (But.app t)).trans But.set, ?_, rfl⟩
      · rw [dS]
        exact List.getElem?_set_self (List.getElem?_eq_some_iff.mp (o3 t)).1
      · intro k u hk' hu
        by_cases he : k = p
        · subst he; rw [hx] at hu; obtain rfl := Option.some.inj hu; exact dlt_right hxy hbl
        · exact hhi k u (by omega) hu
  · have : q = 0 := by omega
    subst this
    have s0 := stop H oH bH (by omega)
    generalize dat id g n = D at s0 ⊢
    simp (disch := omega) only [go_sem]
    exact s0
end Go.Proofs

/-
  Contracts: insertionSort, whole.
-/
namespace Go.Proofs
open Go Go.Abs
set_option maxRecDepth 100000
set_option linter.unusedSimpArgs false
theorem insSort_call (G : Nat → Option AV) (id g : Nat) (T U : List RowA) (X : List Deco) (h : AH) (K : AV → AH → Prop) (hX : X.Pairwise fun x y => x.2 < y.2) (o : RowsIn h id g (T ++ fst X ++ U)) {n a b : Nat} (hn0 : n = (T ++ fst X ++ U).length) (hn9 : n ≤ 1000000000) (ha : a = T.length) (hb : b = T.length + X.length)
    (hk : ∀ (S : List Deco) h', S.Perm X → SortedD S → RowsIn h' id g (T ++ fst S ++ U) → But id h h' → K (.tup []) h') : SCall Tryz.prog G 156 [dat id g n, .v (.int .i64 a), .v (.int .i64 b), fnA] h K := by
  refine Tryz.c156 G _ _ _ _ h K fun hlow => ?_
  unfold Tryz.r156
  have hn : n = T.length + X.length + U.length := by rw [hn0]; simp only [List.length_append, fst_len]
  have w0 : IntKind.i64.wrap ((a : Int) + 1) = ((T.length + 1 : Nat) : Int) := by rw [wrap64_of (by omega) (by omega)]; omega
  simp only [okInt_mk, w0]
  unfold Tryz.r156_l1_1
  by_cases hz : X = []
  · subst hz
    refine ⟨fun q vs H => q = 0 ∧ H = h ∧ vs = [.v (.int .i64 ((T.length + 1 : Nat) : Int))], 0, ⟨rfl, rfl, rfl⟩, ?_⟩
    rintro q H hl1 hlow2 n5 ⟨rfl, rfl, hvs⟩
    simp only [List.cons.injEq, AV.v.injEq, Value.int.injEq, true_and, and_true] at hvs
    subst hvs
    have c := hk [] H (List.Perm.refl _) List.Pairwise.nil o But.refl
    simp only [List.length_nil, Nat.add_zero] at hb
    have hlt : decide (((T.length + 1 : Nat) : Int) < (b : Int)) = false := decide_eq_false (by omega)
    simp only [okInt_mk, hlt, condB_false]
    exact ret_keep c
  have hX1 := List.length_pos_iff.mpr hz
  refine ⟨fun q vs H => ∃ (p : Nat) (S : List Deco), 1 ≤ p ∧ p ≤ X.length ∧ q = X.length - p ∧ S.Perm (X.take p) ∧ SortedD S ∧ RowsIn H id g (T ++ fst S ++ (fst (X.drop p) ++ U)) ∧ But id h H ∧ vs = [.v (.int .i64 ((T.length + p : Nat) : Int))], X.length - 1, ⟨1, X.take 1, by omega, by omega, rfl, List.Perm.refl _, ?_, ?_, But.refl, rfl⟩, ?_⟩
  · match X, hX1 with
    | x :: _, _ => exact List.pairwise_singleton _ _
  · have e : T ++ fst (X.take 1) ++ (fst (X.drop 1) ++ U) = T ++ fst X ++ U := by
      have : fst X = fst (X.take 1) ++ fst (X.drop 1) := by rw [← List.map_append, List.take_append_drop]
      rw [this]; simp only [List.append_assoc]
    rw [e]; exact o
  rintro q H hl1 hlow2 n5 ⟨p, S, hp1, hp, rfl, pS, sS, oH, bH, hvs⟩
  simp only [List.cons.injEq, AV.v.injEq, Value.int.injEq, true_and, and_true] at hvs
  subst hvs
  have lS := pS.length_eq
  rw [List.length_take] at lS
  by_cases hlt : p < X.length
  · obtain ⟨y, hy⟩ : ∃ y, X[p]? = some y := ⟨_, List.getElem?_eq_getElem hlt⟩
    have dX : X.drop p = y :: X.drop (p + 1) := by
      obtain ⟨h1, h2⟩ := List.getElem?_eq_some_iff.mp hy
      rw [← h2, List.getElem_cons_drop]
    have tX : X.take (p + 1) = X.take p ++ [y] := by rw [List.take_add_one, hy]; rfl
    have hlo : ∀ x ∈ S, x.2 < y.2 := by
      intro x hx
      have hx := (List.Perm.mem_iff pS).mp hx
      obtain ⟨i, hi⟩ := List.mem_iff_getElem?.mp hx
      rw [List.getElem?_take] at hi
      split at hi
      · rename_i hip
        obtain ⟨a1, a2⟩ := List.getElem?_eq_some_iff.mp hi
        obtain ⟨b1, b2⟩ := List.getElem?_eq_some_iff.mp hy
        have := List.pairwise_iff_getElem.mp hX i p a1 b1 hip
        rw [a2, b2] at this
        exact this
      · cases hi
    have eo : T ++ fst S ++ (fst (X.drop p) ++ U) = T ++ fst S ++ y.1 :: (fst (X.drop (p + 1)) ++ U) := by rw [dX]; rfl
    rw [eo] at oH
    have hd : decide (((T.length + p : Nat) : Int) < (b : Int)) = true := decide_eq_true (by omega)
    simp only [okInt_mk, hd, condB_true]
    refine insIn G id g T (fst (X.drop (p + 1)) ++ U) S y h H _ _ sS hlo oH (by simp only [List.length_append, List.length_cons, fst_len, List.length_drop]; omega) hn9 ha (by omega) fun S' p' s' H' oH' bH' => ?_
    have en : ((T.length + p : Nat) : Int) + 1 = ((T.length + (p + 1) : Nat) : Int) := by omega
    rw [en]
    have hle : h.length ≤ H'.length := Nat.le_trans hl1 bH'.1
    refine next_keep (X.length - (p + 1)) (by omega) hle ⟨p + 1, S', by omega, by omega, rfl, ?_, s', oH', bH.trans bH', rfl⟩
    rw [tX]
    exact p'.trans ((List.Perm.cons y pS).trans (List.perm_append_comm (l₁ := [y]) (l₂ := X.take p)))
  · have : p = X.length := by omega
    subst this
    rw [List.take_length] at pS
    rw [List.drop_length] at oH
    have c := hk S H pS sS oH bH
    have hd : decide (((T.length + X.length : Nat) : Int) < (b : Int)) = false := decide_eq_false (by omega)
    simp only [okInt_mk, hd, condB_false]
    exact ret_keep c
end Go.Proofs

/-
  Contracts: a pass of merges.
-/
namespace Go.Proofs
open Go Go.Abs
set_option maxRecDepth 100000
set_option linter.unusedSimpArgs false
theorem stablePass (G : Nat → Option AV) (id g : Nat) (O : List Deco) (F : List (List Deco)) (Lt : List Deco) (k n : Nat) (h11 h15 : AH) (I12 : Nat → List AV → AH → Prop) (m14 : Nat) (hO : O.length = n) (hn9 : n ≤ 1000000000) (hk0 : 0 < k) (hkn : k < n) (b : Blk O k F Lt) (o : RowsIn h15 id g (fst (F.flatten ++ Lt)))
    (hk : ∀ F' Lt' H', Blk O (2 * k) F' Lt' → RowsIn H' id g (fst (F'.flatten ++ Lt')) → But id h15 H' → nextR h11 I12 m14 [some (dat id g n), some (.v (.int .i64 n)), some fnA] [some (dat id g n), some (.v (.int .i64 n)), some fnA] [.v (.int .i64 ((2 * k : Nat) : Int))] H') :
    Tryz.r115_l9_18 G (dat id g n) (.v (.int .i64 n)) fnA h11 I12 m14 h15 k 0 ((2 * k : Nat) : Int) := by
  unfold Tryz.r115_l9_18
  refine ⟨fun q vs H => ∃ (F1 F2 : List (List Deco)) (Lt : List Deco), Pass O k F1 F2 Lt ∧ q = n - 2 * k * F1.length ∧ RowsIn H id g (fst (F1.flatten ++ (F2.flatten ++ Lt))) ∧ But id h15 H ∧ vs = [.v (.int .i64 ((2 * k * F1.length : Nat) : Int)), .v (.int .i64 ((2 * k * F1.length + 2 * k : Nat) : Int))], n, ⟨[], F, Lt, Pass.start b, by simp, by simpa using o, But.refl, by simp⟩, ?_⟩
  rintro q H hl1 hlow2 n22 n23 ⟨F1, F2, Lt, p, rfl, oH, bH, hvs⟩
  simp only [List.cons.injEq, AV.v.injEq, Value.int.injEq, true_and, and_true] at hvs
  obtain ⟨rfl, rfl⟩ := hvs
  have len := p.perm.length_eq
  rw [List.length_append, List.length_append, full_len (fun B hB => (p.done B hB).1), full_len (fun B hB => (p.full B hB).1), hO] at len
  have l1 : F1.flatten.length = 2 * k * F1.length := full_len fun B hB => (p.done B hB).1
  generalize hA : 2 * k * F1.length = A at *
  have hlast := p.last.1
  have wa : IntKind.i64.wrap ((A : Int) + (k : Int)) = ((A + k : Nat) : Int) := by rw [wrap64_of (by omega) (by omega)]; omega
  have w2 : IntKind.i64.wrap (2 * (k : Int)) = ((2 * k : Nat) : Int) := by rw [wrap64_of (by omega) (by omega)]; omega
  have wb : IntKind.i64.wrap (((A + 2 * k : Nat) : Int) + ((2 * k : Nat) : Int)) = ((A + 2 * k + 2 * k : Nat) : Int) := by rw [wrap64_of (by omega) (by omega)]; omega
  have wk : IntKind.i64.wrap ((k : Int) * 2) = ((2 * k : Nat) : Int) := by rw [wrap64_of (by omega) (by omega)]; omega
  -- two blocks are merged
  have two : ∀ (B C : List Deco) (F2 : List (List Deco)) (Lt : List Deco), Pass O k F1 (B :: C :: F2) Lt → RowsIn H id g (fst (F1.flatten ++ ((B :: C :: F2).flatten ++ Lt))) → ∀ K : AV → AH → Prop, (∀ (S : List Deco) (H' : AH), Pass O k (F1 ++ [S]) F2 Lt → RowsIn H' id g (fst ((F1 ++ [S]).flatten ++ (F2.flatten ++ Lt))) → But id H H' → K (.tup []) H') → callR Tryz.prog G 157 [dat id g n, .v (.int .i64 (A : Int)), .v (.int .i64 ((A + k : Nat) : Int)), .v (.int .i64 ((A + 2 * k : Nat) : Int)), fnA] H K := by
    intro B C F2 Lt p oH K hK
    have hB := p.full B (by simp)
    have hC := p.full C (by simp)
    have len := p.perm.length_eq
    rw [List.length_append, List.length_append, full_len (fun B hB => (p.full B hB).1), hO, l1] at len
    simp only [List.length_cons, Nat.mul_succ] at len
    have hap : Ahead B C := by
      have := (List.pairwise_append.mp p.apart).2.1
      simp only [List.cons_append, List.pairwise_cons] at this
      exact this.1 C (by simp)
    have e : fst (F1.flatten ++ ((B :: C :: F2).flatten ++ Lt)) = fst F1.flatten ++ fst B ++ fst C ++ fst (F2.flatten ++ Lt) := by simp [fst]
    rw [e] at oH
    have il := (List.getElem?_eq_some_iff.mp oH).1
    have ln : (fst F1.flatten ++ fst B ++ fst C ++ fst (F2.flatten ++ Lt)).length = n := by
      simp only [List.length_append, fst_len, full_len (fun B hB => (p.full B (List.mem_cons_of_mem _ (List.mem_cons_of_mem _ hB))).1)]; omega
    refine ⟨symMerge_ok G id g (B.length + C.length) B C (fst F1.flatten) (fst (F2.flatten ++ Lt)) H _ (Nat.le_refl _) (List.length_pos_iff.mp (by omega)) (List.length_pos_iff.mp (by omega)) hB.2 hC.2 hap oH (by omega) n A (A + k) (A + 2 * k) ln.symm (by rw [fst_len]; omega) (by rw [fst_len]; omega) (by rw [fst_len]; omega) fun S pS sS => ?_⟩
    refine hK S _ (p.step pS sS) ?_ But.set
    have e2 : fst ((F1 ++ [S]).flatten ++ (F2.flatten ++ Lt)) = fst F1.flatten ++ fst S ++ fst (F2.flatten ++ Lt) := by simp [fst]
    rw [e2]
    exact List.getElem?_set_self il
  have nxt : ∀ (S : List Deco) (F2 : List (List Deco)) (Lt : List Deco) (H' : AH), Pass O k (F1 ++ [S]) F2 Lt → RowsIn H' id g (fst ((F1 ++ [S]).flatten ++ (F2.flatten ++ Lt))) → But id H H' → A + 2 * k ≤ n → ∀ ks, nextR h15 (fun q vs H => ∃ (F1 F2 : List (List Deco)) (Lt : List Deco), Pass O k F1 F2 Lt ∧ q = n - 2 * k * F1.length ∧ RowsIn H id g (fst (F1.flatten ++ (F2.flatten ++ Lt))) ∧ But id h15 H ∧ vs = [.v (.int .i64 ((2 * k * F1.length : Nat) : Int)), .v (.int .i64 ((2 * k * F1.length + 2 * k : Nat) : Int))]) (n - A) ks ks [.v (.int .i64 ((A + 2 * k : Nat) : Int)), .v (.int .i64 ((A + 2 * k + 2 * k : Nat) : Int))] H' := by
    intro S F2 Lt H' p' o' b' hle ks
    have e : 2 * k * (F1 ++ [S]).length = A + 2 * k := by rw [List.length_append, List.length_cons, List.length_nil, Nat.mul_add, hA]; omega
    exact next_keep (n - (A + 2 * k)) (by omega) (Nat.le_trans hl1 b'.1) ⟨F1 ++ [S], F2, Lt, p', by rw [e], o', bH.trans b', by rw [e]⟩
  by_cases hc : A + 2 * k ≤ n
  · have hd : decide (((A + 2 * k : Nat) : Int) ≤ (n : Int)) = true := decide_eq_true (by omega)
    match F2, p, oH, len with
    | [], p, oH, len => simp only [List.length_nil, Nat.mul_zero] at len; omega
    | [B], p, oH, len =>
      simp only [List.length_cons, List.length_nil, Nat.zero_add, Nat.mul_one] at len
      have hl : Lt.length = k := by omega
      simp only [okInt_mk, hd, condB_true, wa, w2, wb]
      exact two B Lt [] [] (p.lift hl) (by simpa using oH) _ (fun S H' p' o' b' => nxt S [] [] H' p' o' b' hc _)
    | B :: C :: F2, p, oH, len =>
      simp only [okInt_mk, hd, condB_true, wa, w2, wb]
      exact two B C F2 Lt p oH _ (fun S H' p' o' b' => nxt S F2 Lt H' p' o' b' hc _)
  · have hd : decide (((A + 2 * k : Nat) : Int) ≤ (n : Int)) = false := decide_eq_false (by omega)
    match F2, p, oH, len with
    | [], p, oH, len =>
      simp only [List.length_nil, Nat.mul_zero] at len
      have hd2 : decide (((A + k : Nat) : Int) < (n : Int)) = false := decide_eq_false (by omega)
      have c := hk F1 Lt H p.stop (by simpa using oH) bH
      simp only [okInt_mk, hd, condB_false, wa, hd2, wk]
      exact c
    | [B], p, oH, len =>
      simp only [List.length_cons, List.length_nil, Nat.zero_add, Nat.mul_one] at len
      have hB := p.full B (by simp)
      by_cases hz : Lt = []
      · subst hz
        have hd2 : decide (((A + k : Nat) : Int) < (n : Int)) = false := decide_eq_false (by simp only [List.length_nil] at len; omega)
        have c := hk F1 B H (p.stepLast (S := B) (by simp) hB.2) (by simpa using oH) bH
        simp only [okInt_mk, hd, condB_false, wa, hd2, wk]
        exact c
      · have hz1 := List.length_pos_iff.mpr hz
        have hd2 : decide (((A + k : Nat) : Int) < (n : Int)) = true := decide_eq_true (by omega)
        have hap : Ahead B Lt := by
          have := (List.pairwise_append.mp p.apart).2.1
          simp only [List.cons_append, List.nil_append, List.pairwise_cons] at this
          exact this.1 Lt (by simp)
        have e : fst (F1.flatten ++ ([B].flatten ++ Lt)) = fst F1.flatten ++ fst B ++ fst Lt ++ [] := by simp [fst]
        rw [e] at oH
        have il := (List.getElem?_eq_some_iff.mp oH).1
        have ln : (fst F1.flatten ++ fst B ++ fst Lt ++ []).length = n := by simp only [List.length_append, fst_len, List.length_nil]; omega
        have c : callR Tryz.prog G 157 [dat id g n, .v (.int .i64 (A : Int)), .v (.int .i64 ((A + k : Nat) : Int)), .v (.int .i64 (n : Int)), fnA] H (fun _ H' => nextR h11 I12 m14 [some (dat id g n), some (.v (.int .i64 n)), some fnA] [some (dat id g n), some (.v (.int .i64 n)), some fnA] [.v (.int .i64 ((2 * k : Nat) : Int))] H') := by
          refine ⟨symMerge_ok G id g (B.length + Lt.length) B Lt (fst F1.flatten) [] H _ (Nat.le_refl _) (List.length_pos_iff.mp (by omega)) hz hB.2 p.last.2 hap oH (by omega) n A (A + k) n ln.symm (by rw [fst_len]; omega) (by rw [fst_len]; omega) (by rw [fst_len]; omega) fun S pS sS => ?_⟩
          refine hk F1 S _ (p.stepLast pS sS) ?_ (bH.trans But.set)
          have e2 : fst (F1.flatten ++ S) = fst F1.flatten ++ fst S ++ [] := by simp [fst]
          rw [e2]
          exact List.getElem?_set_self il
        simp only [okInt_mk, hd, condB_false, wa, hd2, condB_true, wk]
        exact c
    | B :: C :: F2, p, oH, len => simp only [List.length_cons, Nat.mul_succ] at len; omega
end Go.Proofs
