/-
  Of each function its body as a plain statement, and that a call follows from it: printed by wip/gen/Res.lean.
-/
import Derived.Test.YtpoeicdhlhhimaaGAC
import Derived.Test.YtpoeicdhlhhimaaAbH
import Derived.KernelRfl
set_option linter.all false
namespace Go.Proofs
open Go Go.Abs
set_option linter.unusedVariables false
set_option maxRecDepth 100000
-- 3 skylark/skylarklaw12.SweepLess
def Try.r3_l20_75 (K : AV → AH → Prop) (h : AH) (G : Nat → Option AV) (i0 : Nat) (v40 : AV) (h51 : AH) (v73 : AV) (n74 : Int) (n99 : Int) : Prop :=
  ∃ (I75 : Nat → List AV → AH → Prop) (m76 : Nat), I75 m76 [(.v (.int .i64 n99))] h51 ∧ ∀ (m77 : Nat) (h78 : AH), h51.length ≤ h78.length → LowH h78.length h78 → ∀ (n79 : Int), I75 m77 [(.v (.int .i64 n79))] h78 →
  condB (decide (n79 < n74))
  (okV (aIA Try.prog h78 22 v73 (.v (.int .i64 n79))) fun v80 =>
  okV (aLoad Try.prog h78 34 v80) fun v81 =>
  newO (.cells 34 2 [[(.v (.int .i64 0)), (.v (.int .i64 0))]] 0) h78 fun i82 h83 =>
  storeR Try.prog h83 (fun v84 h85 =>
  okInt .i64 (aLoad Try.prog h85 3 (.ptr i82 0 0 0)) fun n86 =>
  okV (aLoad Try.prog h85 22 (.ptr i0 0 0 0)) fun v87 =>
  okInt .i64 (aLen Try.prog h85 22 v87) fun n88 =>
  callR Try.prog G 8 [v40, (.v (.int .i64 n86))] h85 (fun v89 h90 =>
  okBool (some v89) fun b91 =>
  (aLen Try.prog h90 22 v87 = some (.v (.int .i64 n88))) ∧ (aLoad Try.prog h90 22 (.ptr i0 0 0 0) = some v87) ∧ rGq (decide ((IntKind.wrap .i64 (n79 + 1)) < n88)) true (some (.ptr i82 0 0 1)) fun b92 v93 =>
  rGq b92 true (aLoad Try.prog h90 3 v93) fun b94 v95 =>
  rGq b94 true (aBin Try.prog .gtr 3 v95 (.v (.int .i64 0))) fun b96 v97 =>
  okBool (pickR (some (.v (.bool b96))) (some v97) (some (.v (.bool false)))) fun b98 =>
  condB (!(b91 == b98))
  (RetR h K (.v (.bool false)) h90)
  (nextR h51 I75 m77 [some (.ptr i0 0 0 0), some v40, some (.fn (.func 8) [] []), some v73, some (.v (.int .i64 n74))] [some (.ptr i0 0 0 0), some v40, some (.fn (.func 8) [] []), some v73, some (.v (.int .i64 n74))] [(.v (.int .i64 (IntKind.wrap .i64 (n79 + 1))))] h90))) 34 v81 (.ptr i82 0 0 0))
  (RetR h K (.v (.bool true)) h78)
def Try.r3_l14_48 (G : Nat → Option AV) (h : AH) (K : AV → AH → Prop) (i0 : Nat) (v21 : AV) (v34 : AV) (h39 : AH) (v40 : AV) (n47 : Int) (n100 : Int) : Prop :=
  ∃ (I48 : Nat → List AV → AH → Prop) (m49 : Nat), I48 m49 [(.v (.int .i64 n100))] h39 ∧ ∀ (m50 : Nat) (h51 : AH), h39.length ≤ h51.length → LowH h51.length h51 → ∀ (n52 : Int), I48 m50 [(.v (.int .i64 n52))] h51 →
  condB (decide (n52 < n47))
  (okV (aIA Try.prog h51 27 v21 (.v (.int .i64 n52))) fun v53 =>
  okInt .i64 (aLoad Try.prog h51 3 v53) fun n54 =>
  callR Try.prog G 8 [v34, (.v (.int .i64 n54))] h51 (fun v55 h56 =>
  okBool (some v55) fun b57 =>
  rGq (!b57) false (some (.fn (.func 8) [] [])) fun b58 v59 =>
  rGq b58 false (some v40) fun b60 v61 =>
  rGq b60 false (some (.v (.int .i64 n54))) fun b62 v63 =>
  rGe b62 false (fun k64 => callU Try.prog G h56 (fun v65 h66 =>
  k64 v65 h66) [v61, v63] v59) h56 fun b67 v68 h69 =>
  rGq b67 false (aUn .not v68) fun b70 v71 =>
  okBool (pickR (some (.v (.bool b70))) (some (.v (.bool true))) (some v71)) fun b72 =>
  condB b72
  (RetR h K (.v (.bool false)) h69)
  (nextR h39 I48 m50 [some (.ptr i0 0 0 0), some v34, some v40, some (.fn (.func 8) [] []), some v21, some (.v (.int .i64 n47))] [some (.ptr i0 0 0 0), some v34, some v40, some (.fn (.func 8) [] []), some v21, some (.v (.int .i64 n47))] [(.v (.int .i64 (IntKind.wrap .i64 (n52 + 1))))] h69)))
  (okV (aLoad Try.prog h51 22 (.ptr i0 0 0 0)) fun v73 =>
  okInt .i64 (aLen Try.prog h51 22 v73) fun n74 =>
  Try.r3_l20_75 K h G i0 v40 h51 v73 n74 0)
def Try.r3 (G : Nat → Option AV) (a0 a1 : AV) (h : AH) (K : AV → AH → Prop) : Prop :=
  onlyB (AV.one a0) (newO (.cells 25 (AV.cells a0).length [AV.cells a0] 0) h fun i0 h1 =>
  callR Try.prog G 5 [] h1 (fun v2 h3 =>
  okBool (some v2) fun b4 =>
  condB (!b4)
  (RetR h K (.v (.bool false)) h3)
  (okV (aLoad Try.prog h3 23 (.ptr i0 0 0 1)) fun v5 =>
  okInt .i64 (aLen Try.prog h3 23 v5) fun n6 =>
  rGq (decide (n6 > 300)) false (some (.ptr i0 0 0 0)) fun b7 v8 =>
  rGq b7 false (aLoad Try.prog h3 22 v8) fun b9 v10 =>
  rGq b9 false (aLen Try.prog h3 22 v10) fun b11 v12 =>
  rGq b11 false (aBin Try.prog .gtr 3 v12 (.v (.int .i64 300))) fun b13 v14 =>
  okBool (pickR (some (.v (.bool b13))) (some (.v (.bool true))) (some v14)) fun b15 =>
  condB b15
  (RetR h K (.v (.bool true)) h3)
  (okV (aLoad Try.prog h3 22 (.ptr i0 0 0 0)) fun v16 =>
  okV (aLoad Try.prog h3 23 (.ptr i0 0 0 1)) fun v17 =>
  okInt .i64 (aLoad Try.prog h3 3 (.ptr i0 0 0 2)) fun n18 =>
  callR Try.prog G 6 [v16, v17, (.v (.int .i64 n18))] h3 (fun v19 h20 =>
  okV (extV 0 v19) fun v21 =>
  okInt .i64 (extV 1 v19) fun n22 =>
  condB (n22 != 0)
  (okInt .i64 (aLen Try.prog h20 27 v21) fun n23 =>
  RetR h K (.v (.bool (n23 == 0))) h20)
  (okV (aLoad Try.prog h20 22 (.ptr i0 0 0 0)) fun v24 =>
  okV (aLoad Try.prog h20 23 (.ptr i0 0 0 1)) fun v25 =>
  okInt .i64 (aLoad Try.prog h20 3 (.ptr i0 0 0 2)) fun n26 =>
  okInt .i64 (some a1) fun n27 =>
  callR Try.prog G 7 [(.v (.int .i64 n27)), (.v (.int .i64 50))] h20 (fun v28 h29 =>
  okInt .i64 (some v28) fun n30 =>
  (aLoad Try.prog h29 3 (.ptr i0 0 0 2) = some (.v (.int .i64 n26))) ∧ (aLoad Try.prog h29 23 (.ptr i0 0 0 1) = some v25) ∧ (aLoad Try.prog h29 22 (.ptr i0 0 0 0) = some v24) ∧ okInt .i64 (aMinMax false [some (.v (.int .i64 100)), some (.v (.int .i64 (IntKind.wrap .i64 (n26 + n30))))]) fun n31 =>
  callR Try.prog G 6 [v24, v25, (.v (.int .i64 n31))] h29 (fun v32 h33 =>
  okV (extV 0 v32) fun v34 =>
  okInt .i64 (extV 1 v32) fun n35 =>
  okV (aLoad Try.prog h33 22 (.ptr i0 0 0 0)) fun v36 =>
  okInt .i64 (aLoad Try.prog h33 3 (.ptr i0 0 0 2)) fun n37 =>
  callR Try.prog G 6 [v36, (.v (.slice none 0 0)), (.v (.int .i64 n37))] h33 (fun v38 h39 =>
  okV (extV 0 v38) fun v40 =>
  okInt .i64 (extV 1 v38) fun n41 =>
  rGq (n35 != 0) false (some (.v (.int .i64 n41))) fun b42 v43 =>
  rGq b42 false (aBin Try.prog .neq 28 v43 (.v (.int .i64 0))) fun b44 v45 =>
  okBool (pickR (some (.v (.bool b44))) (some (.v (.bool true))) (some v45)) fun b46 =>
  condB b46
  (RetR h K (.v (.bool false)) h39)
  (okInt .i64 (aLen Try.prog h39 27 v21) fun n47 =>
  Try.r3_l14_48 G h K i0 v21 v34 h39 v40 n47 0))))))))))
theorem Try.c3 (G : Nat → Option AV) (a0 a1 : AV) (h : AH) (K : AV → AH → Prop) (hk : LowH h.length h → Try.r3 G a0 a1 h K) : SCall Try.prog G 3 [a0, a1] h K :=
  scall_of_rwp Try.tab3 [(14, [(73, (.int .i64))], [2, 7, 9, 11, 71, 72]), (20, [(93, (.int .i64))], [2, 9, 11, 91, 92])] Try.func3 rfl Try.ntmps3 (by kernel_rfl) (by show 2 ≤ 116; decide) (by kernel_rfl) (by kernel_rfl) hk
-- 6 skylark/sweep.Plan
def Try.r6_l17_42 (K : AV → AH → Prop) (h : AH) (a0 : AV) (a2 : AV) (v39 : AV) (h40 : AH) (n41 : Int) (v81 : AV) (n82 : Int) : Prop :=
  ∃ (I42 : Nat → List AV → AH → Prop) (m43 : Nat), I42 m43 [v81, (.v (.int .i64 n82))] h40 ∧ ∀ (m44 : Nat) (h45 : AH), h40.length ≤ h45.length → LowH h45.length h45 → ∀ (v46 : AV) (n47 : Int), I42 m44 [v46, (.v (.int .i64 n47))] h45 →
  condB (decide (n47 < n41))
  (okV (aIA Try.prog h45 22 a0 (.v (.int .i64 n47))) fun v48 =>
  okV (aLoad Try.prog h45 34 v48) fun v49 =>
  newO (.cells 34 2 [[(.v (.int .i64 0)), (.v (.int .i64 0))]] 0) h45 fun i50 h51 =>
  storeR Try.prog h51 (fun v52 h53 =>
  okInt .i64 (aLen Try.prog h53 22 a0) fun n54 =>
  rGq (decide (n47 < (IntKind.wrap .i64 (n54 - 1)))) true (some v39) fun b55 v56 =>
  rGq b55 true (some (.ptr i50 0 0 0)) fun b57 v58 =>
  rGq b57 true (aLoad Try.prog h53 3 v58) fun b59 v60 =>
  rGq b59 true (aLookup Try.prog h53 53 false v56 v60) fun b61 v62 =>
  rGq b61 true (aBin Try.prog .mul 3 v62 (.v (.int .i64 100))) fun b63 v64 =>
  rGq b63 true (some a2) fun b65 v66 =>
  rGq b65 true (some (.ptr i50 0 0 1)) fun b67 v68 =>
  rGq b67 true (aLoad Try.prog h53 3 v68) fun b69 v70 =>
  rGq b69 true (aBin Try.prog .mul 3 v66 v70) fun b71 v72 =>
  rGq b71 true (aBin Try.prog .lss 3 v64 v72) fun b73 v74 =>
  okBool (pickR (some (.v (.bool b73))) (some v74) (some (.v (.bool false)))) fun b75 =>
  condB b75
  (okInt .i64 (aLoad Try.prog h53 3 (.ptr i50 0 0 0)) fun n76 =>
  newO (.cells 3 1 [[(.v (.int .i64 n76))]] 0) h53 fun i77 h78 =>
  appR Try.prog h78 27 27 v46 (.sl i77 0 0 1 none) (fun v79 h80 =>
  nextR h40 I42 m44 [some a0, some a2, some v39, some a0, some (.v (.int .i64 n41))] [some a0, some a2, some v39, some a0, some (.v (.int .i64 n41))] [v79, (.v (.int .i64 (IntKind.wrap .i64 (n47 + 1))))] h80))
  (nextR h40 I42 m44 [some a0, some a2, some v39, some a0, some (.v (.int .i64 n41))] [some a0, some a2, some v39, some a0, some (.v (.int .i64 n41))] [v46, (.v (.int .i64 (IntKind.wrap .i64 (n47 + 1))))] h53)) 34 v49 (.ptr i50 0 0 0))
  (RetR h K (.tup [v46, (.v (.int .i64 0))]) h45)
def Try.r6_l6_5 (h : AH) (K : AV → AH → Prop) (G : Nat → Option AV) (a0 : AV) (a2 : AV) (h1 : AH) (v2 : AV) (n4 : Int) (n83 : Int) (n84 : Int) : Prop :=
  ∃ (I5 : Nat → List AV → AH → Prop) (m6 : Nat), I5 m6 [(.v (.int .i64 n83)), (.v (.int .i64 n84))] h1 ∧ ∀ (m7 : Nat) (h8 : AH), h1.length ≤ h8.length → LowH h8.length h8 → ∀ (n9 : Int) (n10 : Int), I5 m7 [(.v (.int .i64 n9)), (.v (.int .i64 n10))] h8 →
  condB (decide (n10 < n4))
  (okV (aIA Try.prog h8 22 a0 (.v (.int .i64 n10))) fun v11 =>
  okV (aLoad Try.prog h8 34 v11) fun v12 =>
  newO (.cells 34 2 [[(.v (.int .i64 0)), (.v (.int .i64 0))]] 0) h8 fun i13 h14 =>
  storeR Try.prog h14 (fun v15 h16 =>
  okInt .i64 (aLoad Try.prog h16 3 (.ptr i13 0 0 0)) fun n17 =>
  rGq (decide (n17 ≤ n9)) false (some (.ptr i13 0 0 1)) fun b18 v19 =>
  rGq b18 false (aLoad Try.prog h16 3 v19) fun b20 v21 =>
  rGq b20 false (aBin Try.prog .lss 3 v21 (.v (.int .i64 0))) fun b22 v23 =>
  okBool (pickR (some (.v (.bool b22))) (some (.v (.bool true))) (some v23)) fun b24 =>
  rGq b24 false (some (.ptr i13 0 0 1)) fun b25 v26 =>
  rGq b25 false (aLoad Try.prog h16 3 v26) fun b27 v28 =>
  rGq b27 false (aBin Try.prog .gtr 3 v28 (.v (.int .i64 262144))) fun b29 v30 =>
  okBool (pickR (some (.v (.bool b29))) (some (.v (.bool true))) (some v30)) fun b31 =>
  condB b31
  (RetR h K (.tup [(.v (.slice none 0 0)), (.v (.int .i64 1))]) h16)
  (okInt .i64 (aLoad Try.prog h16 3 (.ptr i13 0 0 0)) fun n32 =>
  nextR h1 I5 m7 [some a0, some a2, some v2, some a0, some (.v (.int .i64 n4))] [some a0, some a2, some v2, some a0, some (.v (.int .i64 n4))] [(.v (.int .i64 n32)), (.v (.int .i64 (IntKind.wrap .i64 (n10 + 1))))] h16)) 34 v12 (.ptr i13 0 0 0))
  (okInt .i64 (some a2) fun n33 =>
  rGq (decide (n33 < 1)) false (some a2) fun b34 v35 =>
  rGq b34 false (aBin Try.prog .gtr 3 v35 (.v (.int .i64 100))) fun b36 v37 =>
  okBool (pickR (some (.v (.bool b36))) (some (.v (.bool true))) (some v37)) fun b38 =>
  condB b38
  (RetR h K (.tup [(.v (.slice none 0 0)), (.v (.int .i64 1))]) h8)
  (callR Try.prog G 14 [v2] h8 (fun v39 h40 =>
  okInt .i64 (aLen Try.prog h40 22 a0) fun n41 =>
  Try.r6_l17_42 K h a0 a2 v39 h40 n41 (.v (.slice none 0 0)) 0)))
def Try.r6 (G : Nat → Option AV) (a0 a1 a2 : AV) (h : AH) (K : AV → AH → Prop) : Prop :=
  callR Try.prog G 13 [a1] h (fun v0 h1 =>
  okV (extV 0 v0) fun v2 =>
  okInt .i64 (extV 1 v0) fun n3 =>
  condB (n3 != 0)
  (RetR h K (.tup [(.v (.slice none 0 0)), (.v (.int .i64 n3))]) h1)
  (okInt .i64 (aLen Try.prog h1 22 a0) fun n4 =>
  Try.r6_l6_5 h K G a0 a2 h1 v2 n4 0 0))
theorem Try.c6 (G : Nat → Option AV) (a0 a1 a2 : AV) (h : AH) (K : AV → AH → Prop) (hk : LowH h.length h → Try.r6 G a0 a1 a2 h K) : SCall Try.prog G 6 [a0, a1, a2] h K :=
  scall_of_rwp Try.tab6 [(6, [(10, (.int .i64)), (27, (.int .i64))], [0, 2, 8, 25, 26]), (17, [(14, .any), (58, (.int .i64))], [0, 2, 13, 56, 57])] Try.func6 rfl Try.ntmps6 (by kernel_rfl) (by show 3 ≤ 87; decide) (by kernel_rfl) (by kernel_rfl) hk
-- 7 skylark/skylarklaw12.among
def Try.r7 (a0 a1 : AV) (h : AH) (K : AV → AH → Prop) : Prop :=
  okInt .i64 (some a0) fun n0 =>
  okInt .i64 (some a1) fun n1 =>
  okInt .i64 (aBin Try.prog .rem 3 (.v (.int .i64 n0)) (.v (.int .i64 n1))) fun n2 =>
  okInt .i64 (some a1) fun n3 =>
  okInt .i64 (some a1) fun n4 =>
  okInt .i64 (aBin Try.prog .rem 3 (.v (.int .i64 (IntKind.wrap .i64 (n2 + n3)))) (.v (.int .i64 n4))) fun n5 =>
  RetR h K (.v (.int .i64 n5)) h
theorem Try.c7 (G : Nat → Option AV) (a0 a1 : AV) (h : AH) (K : AV → AH → Prop) (hk : LowH h.length h → Try.r7 a0 a1 h K) : SCall Try.prog G 7 [a0, a1] h K :=
  scall_of_rwp Try.tab7 [] Try.func7 rfl Try.ntmps7 (by kernel_rfl) (by show 2 ≤ 12; decide) (by kernel_rfl) (by kernel_rfl) hk
-- 8 skylark/skylarklaw12.SweepLess$1
def Try.r8_l2_1 (K : AV → AH → Prop) (h : AH) (a0 : AV) (a1 : AV) (n0 : Int) (n9 : Int) : Prop :=
  ∃ (I1 : Nat → List AV → AH → Prop) (m2 : Nat), I1 m2 [(.v (.int .i64 n9))] h ∧ ∀ (m3 : Nat) (h4 : AH), h.length ≤ h4.length → LowH h4.length h4 → ∀ (n5 : Int), I1 m3 [(.v (.int .i64 n5))] h4 →
  condB (decide (n5 < n0))
  (okV (aIA Try.prog h4 27 a0 (.v (.int .i64 n5))) fun v6 =>
  okInt .i64 (aLoad Try.prog h4 3 v6) fun n7 =>
  okInt .i64 (some a1) fun n8 =>
  condB (n7 == n8)
  (RetR h K (.v (.bool true)) h4)
  (nextR h I1 m3 [some a1, some a0, some (.v (.int .i64 n0))] [some a1, some a0, some (.v (.int .i64 n0))] [(.v (.int .i64 (IntKind.wrap .i64 (n5 + 1))))] h4))
  (RetR h K (.v (.bool false)) h4)
def Try.r8 (a0 a1 : AV) (h : AH) (K : AV → AH → Prop) : Prop :=
  okInt .i64 (aLen Try.prog h 27 a0) fun n0 =>
  Try.r8_l2_1 K h a0 a1 n0 0
theorem Try.c8 (G : Nat → Option AV) (a0 a1 : AV) (h : AH) (K : AV → AH → Prop) (hk : LowH h.length h → Try.r8 a0 a1 h K) : SCall Try.prog G 8 [a0, a1] h K :=
  scall_of_rwp Try.tab8 [(2, [(9, (.int .i64))], [1, 7, 8])] Try.func8 rfl Try.ntmps8 (by kernel_rfl) (by show 2 ≤ 17; decide) (by kernel_rfl) (by kernel_rfl) hk
-- 13 skylark/sweep.once
def Try.r13_l5_2 (K : AV → AH → Prop) (h : AH) (G : Nat → Option AV) (a0 : AV) (n1 : Int) (v24 : AV) (n25 : Int) : Prop :=
  ∃ (I2 : Nat → List AV → AH → Prop) (m3 : Nat), I2 m3 [v24, (.v (.int .i64 n25))] h ∧ ∀ (m4 : Nat) (h5 : AH), h.length ≤ h5.length → LowH h5.length h5 → ∀ (v6 : AV) (n7 : Int), I2 m4 [v6, (.v (.int .i64 n7))] h5 →
  condB (decide (n7 < n1))
  (okV (aIA Try.prog h5 23 a0 (.v (.int .i64 n7))) fun v8 =>
  okV (aLoad Try.prog h5 42 v8) fun v9 =>
  newO (.cells 42 3 [[(.v (.int .i64 0)), (.v (.int .i64 0)), (.v (.int .i64 0))]] 0) h5 fun i10 h11 =>
  storeR Try.prog h11 (fun v12 h13 =>
  okV (aLoad Try.prog h13 42 (.ptr i10 0 0 0)) fun v14 =>
  okP (rowsFill 3 (List.replicate 1 [(.v (.int .i64 0)), (.v (.int .i64 0)), (.v (.int .i64 0))]) [(0, some v14)]) fun r15 => newO (.cells 60 3 r15 0) h13 fun i16 h17 =>
  appR Try.prog h17 50 50 v6 (.sl i16 0 0 1 none) (fun v18 h19 =>
  nextR h I2 m4 [some a0, some (.v (.int .i64 n1))] [some a0, some (.v (.int .i64 n1))] [v18, (.v (.int .i64 (IntKind.wrap .i64 (n7 + 1))))] h19)) 42 v9 (.ptr i10 0 0 0))
  (callR Try.prog G 19 [v6, (.fn (.func 20) [] [])] h5 (fun v20 h21 =>
  callR Try.prog G 21 [v6] h21 (fun v22 h23 =>
  RetR h K (.tup [v22, (.v (.int .i64 0))]) h23)))
def Try.r13 (G : Nat → Option AV) (a0 : AV) (h : AH) (K : AV → AH → Prop) : Prop :=
  okInt .i64 (aLen Try.prog h 23 a0) fun n0 =>
  condB (decide (n0 > 4096))
  (RetR h K (.tup [(.v (.slice none 0 0)), (.v (.int .i64 2))]) h)
  (okInt .i64 (aLen Try.prog h 23 a0) fun n1 =>
  Try.r13_l5_2 K h G a0 n1 (.v (.slice none 0 0)) 0)
theorem Try.c13 (G : Nat → Option AV) (a0 : AV) (h : AH) (K : AV → AH → Prop) (hk : LowH h.length h → Try.r13 G a0 h K) : SCall Try.prog G 13 [a0] h K :=
  scall_of_rwp Try.tab13 [(5, [(4, .any), (12, (.int .i64))], [10, 11])] Try.func13 rfl Try.ntmps13 (by kernel_rfl) (by show 1 ≤ 25; decide) (by kernel_rfl) (by kernel_rfl) hk
-- 14 skylark/sweep.bytes
def Try.r14_l3_3 (K : AV → AH → Prop) (h : AH) (a0 : AV) (i0 : Nat) (h1 : AH) (n2 : Int) (n27 : Int) : Prop :=
  ∃ (I3 : Nat → List AV → AH → Prop) (m4 : Nat), I3 m4 [(.v (.int .i64 n27))] h1 ∧ ∀ (m5 : Nat) (h6 : AH), h1.length ≤ h6.length → LowH h6.length h6 → ∀ (n7 : Int), I3 m5 [(.v (.int .i64 n7))] h6 →
  condB (decide (n7 < n2))
  (okV (aIA Try.prog h6 50 a0 (.v (.int .i64 n7))) fun v8 =>
  okV (aLoad Try.prog h6 60 v8) fun v9 =>
  newO (.cells 60 3 [[(.v (.int .i64 0)), (.v (.int .i64 0)), (.v (.int .i64 0))]] 0) h6 fun i10 h11 =>
  storeR Try.prog h11 (fun v12 h13 =>
  okInt .i64 (aLoad Try.prog h13 3 (.ptr i10 0 0 2)) fun n14 =>
  rGq (decide (n14 ≥ 0)) true (some (.ptr i10 0 0 2)) fun b15 v16 =>
  rGq b15 true (aLoad Try.prog h13 3 v16) fun b17 v18 =>
  rGq b17 true (aBin Try.prog .leq 3 v18 (.v (.int .i64 65536))) fun b19 v20 =>
  okBool (pickR (some (.v (.bool b19))) (some v20) (some (.v (.bool false)))) fun b21 =>
  condB b21
  (okInt .i64 (aLoad Try.prog h13 3 (.ptr i10 0 0 0)) fun n22 =>
  okInt .i64 (aLookup Try.prog h13 53 false (.mp i0) (.v (.int .i64 n22))) fun n23 =>
  okInt .i64 (aLoad Try.prog h13 3 (.ptr i10 0 0 2)) fun n24 =>
  mapR Try.prog h13 (fun v25 h26 =>
  nextR h1 I3 m5 [some (.mp i0), some a0, some (.v (.int .i64 n2))] [some (.mp i0), some a0, some (.v (.int .i64 n2))] [(.v (.int .i64 (IntKind.wrap .i64 (n7 + 1))))] h26) 53 (.mp i0) (.v (.int .i64 n22)) (.v (.int .i64 (IntKind.wrap .i64 (n23 + (IntKind.wrap .i64 (n24 + 8)))))))
  (nextR h1 I3 m5 [some (.mp i0), some a0, some (.v (.int .i64 n2))] [some (.mp i0), some a0, some (.v (.int .i64 n2))] [(.v (.int .i64 (IntKind.wrap .i64 (n7 + 1))))] h13)) 60 v9 (.ptr i10 0 0 0))
  (RetR h K (.mp i0) h6)
def Try.r14 (a0 : AV) (h : AH) (K : AV → AH → Prop) : Prop :=
  newO (.map [] 0) h fun i0 h1 =>
  okInt .i64 (aLen Try.prog h1 50 a0) fun n2 =>
  Try.r14_l3_3 K h a0 i0 h1 n2 0
theorem Try.c14 (G : Nat → Option AV) (a0 : AV) (h : AH) (K : AV → AH → Prop) (hk : LowH h.length h → Try.r14 a0 h K) : SCall Try.prog G 14 [a0] h K :=
  scall_of_rwp Try.tab14 [(3, [(9, (.int .i64))], [3, 7, 8])] Try.func14 rfl Try.ntmps14 (by kernel_rfl) (by show 1 ≤ 31; decide) (by kernel_rfl) (by kernel_rfl) hk
-- 18 cmp.Compare[int]
def Try.r18 (G : Nat → Option AV) (a0 a1 : AV) (h : AH) (K : AV → AH → Prop) : Prop :=
  okInt .i64 (some a0) fun n0 =>
  callR Try.prog G 25 [(.v (.int .i64 n0))] h (fun v1 h2 =>
  okBool (some v1) fun b3 =>
  okInt .i64 (some a1) fun n4 =>
  callR Try.prog G 25 [(.v (.int .i64 n4))] h2 (fun v5 h6 =>
  okBool (some v5) fun b7 =>
  condB b3
  (condB b7
  (RetR h K (.v (.int .i64 0)) h6)
  (RetR h K (.v (.int .i64 (-1))) h6))
  (condB b7
  (RetR h K (.v (.int .i64 1)) h6)
  (okInt .i64 (some a0) fun n8 =>
  okInt .i64 (some a1) fun n9 =>
  condB (decide (n8 < n9))
  (RetR h K (.v (.int .i64 (-1))) h6)
  (okInt .i64 (some a0) fun n10 =>
  okInt .i64 (some a1) fun n11 =>
  condB (decide (n10 > n11))
  (RetR h K (.v (.int .i64 1)) h6)
  (RetR h K (.v (.int .i64 0)) h6))))))
theorem Try.c18 (G : Nat → Option AV) (a0 a1 : AV) (h : AH) (K : AV → AH → Prop) (hk : LowH h.length h → Try.r18 G a0 a1 h K) : SCall Try.prog G 18 [a0, a1] h K :=
  scall_of_rwp Try.tab18 [] Try.func18 rfl Try.ntmps18 (by kernel_rfl) (by show 2 ≤ 20; decide) (by kernel_rfl) (by kernel_rfl) hk
-- 19 slices.SortFunc[[]skylark/sweep.place,skylark/sweep.place]
def Try.r19 (G : Nat → Option AV) (a0 a1 : AV) (h : AH) (K : AV → AH → Prop) : Prop :=
  okInt .i64 (aLen Try.prog h 50 a0) fun n0 =>
  callR Try.prog G 24 [(.v (.int .u64 (IntKind.wrap .u64 n0)))] h (fun v1 h2 =>
  okInt .i64 (some v1) fun n3 =>
  callR Try.prog G 26 [a0, (.v (.int .i64 0)), (.v (.int .i64 n0)), (.v (.int .i64 n3)), a1] h2 (fun v4 h5 =>
  RetR h K (.tup []) h5))
theorem Try.c19 (G : Nat → Option AV) (a0 a1 : AV) (h : AH) (K : AV → AH → Prop) (hk : LowH h.length h → Try.r19 G a0 a1 h K) : SCall Try.prog G 19 [a0, a1] h K :=
  scall_of_rwp Try.tab19 [] Try.func19 rfl Try.ntmps19 (by kernel_rfl) (by show 2 ≤ 14; decide) (by kernel_rfl) (by kernel_rfl) hk
-- 20 (skylark/sweep.place).compare
def Try.r20 (G : Nat → Option AV) (a0 a1 : AV) (h : AH) (K : AV → AH → Prop) : Prop :=
  onlyB (AV.one a0) (newO (.cells 60 (AV.cells a0).length [AV.cells a0] 0) h fun i0 h1 =>
  onlyB (AV.one a1) (newO (.cells 60 (AV.cells a1).length [AV.cells a1] 0) h1 fun i2 h3 =>
  okInt .i64 (aLoad Try.prog h3 3 (.ptr i0 0 0 0)) fun n4 =>
  okInt .i64 (aLoad Try.prog h3 3 (.ptr i2 0 0 0)) fun n5 =>
  okInt .i64 (aLoad Try.prog h3 3 (.ptr i0 0 0 1)) fun n6 =>
  okInt .i64 (aLoad Try.prog h3 3 (.ptr i2 0 0 1)) fun n7 =>
  okInt .i64 (aLoad Try.prog h3 3 (.ptr i0 0 0 2)) fun n8 =>
  okInt .i64 (aLoad Try.prog h3 3 (.ptr i2 0 0 2)) fun n9 =>
  callR Try.prog G 18 [(.v (.int .i64 n4)), (.v (.int .i64 n5))] h3 (fun v10 h11 =>
  okInt .i64 (some v10) fun n12 =>
  (aLoad Try.prog h11 3 (.ptr i2 0 0 2) = some (.v (.int .i64 n9))) ∧ (aLoad Try.prog h11 3 (.ptr i0 0 0 2) = some (.v (.int .i64 n8))) ∧ (aLoad Try.prog h11 3 (.ptr i2 0 0 1) = some (.v (.int .i64 n7))) ∧ (aLoad Try.prog h11 3 (.ptr i0 0 0 1) = some (.v (.int .i64 n6))) ∧ callR Try.prog G 18 [(.v (.int .i64 n6)), (.v (.int .i64 n7))] h11 (fun v13 h14 =>
  okInt .i64 (some v13) fun n15 =>
  (aLoad Try.prog h14 3 (.ptr i2 0 0 2) = some (.v (.int .i64 n9))) ∧ (aLoad Try.prog h14 3 (.ptr i0 0 0 2) = some (.v (.int .i64 n8))) ∧ callR Try.prog G 18 [(.v (.int .i64 n8)), (.v (.int .i64 n9))] h14 (fun v16 h17 =>
  okInt .i64 (some v16) fun n18 =>
  newO (.cells 3 1 [[(.v (.int .i64 n12))], [(.v (.int .i64 n15))], [(.v (.int .i64 n18))]] 0) h17 fun i19 h20 =>
  callR Try.prog G 27 [(.sl i19 0 0 3 none)] h20 (fun v21 h22 =>
  okInt .i64 (some v21) fun n23 =>
  RetR h K (.v (.int .i64 n23)) h22))))))
theorem Try.c20 (G : Nat → Option AV) (a0 a1 : AV) (h : AH) (K : AV → AH → Prop) (hk : LowH h.length h → Try.r20 G a0 a1 h K) : SCall Try.prog G 20 [a0, a1] h K :=
  scall_of_rwp Try.tab20 [] Try.func20 rfl Try.ntmps20 (by kernel_rfl) (by show 2 ≤ 22; decide) (by kernel_rfl) (by kernel_rfl) hk
-- 21 slices.Compact[[]skylark/sweep.place,skylark/sweep.place]
def Try.r21_l9_13 (K : AV → AH → Prop) (h : AH) (a0 : AV) (h4 : AH) (v12 : AV) (n34 : Int) (n35 : Int) : Prop :=
  ∃ (I13 : Nat → List AV → AH → Prop) (m14 : Nat), I13 m14 [(.v (.int .i64 n34)), (.v (.int .i64 n35))] h4 ∧ ∀ (m15 : Nat) (h16 : AH), h4.length ≤ h16.length → LowH h16.length h16 → ∀ (n17 : Int) (n18 : Int), I13 m15 [(.v (.int .i64 n17)), (.v (.int .i64 n18))] h16 →
  okInt .i64 (aLen Try.prog h16 50 v12) fun n19 =>
  condB (decide (n18 < n19))
  (okV (aIA Try.prog h16 50 v12 (.v (.int .i64 n18))) fun v20 =>
  okV (aLoad Try.prog h16 60 v20) fun v21 =>
  okV (aIA Try.prog h16 50 v12 (.v (.int .i64 (IntKind.wrap .i64 (n18 - 1))))) fun v22 =>
  okV (aLoad Try.prog h16 60 v22) fun v23 =>
  okBool (aBin Try.prog .neq 60 v21 v23) fun b24 =>
  condB b24
  (okV (aIA Try.prog h16 50 v12 (.v (.int .i64 n18))) fun v25 =>
  okV (aLoad Try.prog h16 60 v25) fun v26 =>
  okV (aIA Try.prog h16 50 a0 (.v (.int .i64 n17))) fun v27 =>
  storeR Try.prog h16 (fun v28 h29 =>
  nextR h4 I13 m15 [some a0, some v12] [some a0, some v12] [(.v (.int .i64 (IntKind.wrap .i64 (n17 + 1)))), (.v (.int .i64 (IntKind.wrap .i64 (n18 + 1))))] h29) 60 v26 v27)
  (nextR h4 I13 m15 [some a0, some v12] [some a0, some v12] [(.v (.int .i64 n17)), (.v (.int .i64 (IntKind.wrap .i64 (n18 + 1))))] h16))
  (okV (aSlice Try.prog h16 50 a0 (some (some (.v (.int .i64 n17)))) none none) fun v30 =>
  clearR Try.prog h16 50 v30 (fun v31 h32 =>
  okV (aSlice Try.prog h32 50 a0 none (some (some (.v (.int .i64 n17)))) none) fun v33 =>
  RetR h K v33 h32))
def Try.r21_l4_1 (K : AV → AH → Prop) (h : AH) (a0 : AV) (n36 : Int) : Prop :=
  ∃ (I1 : Nat → List AV → AH → Prop) (m2 : Nat), I1 m2 [(.v (.int .i64 n36))] h ∧ ∀ (m3 : Nat) (h4 : AH), h.length ≤ h4.length → LowH h4.length h4 → ∀ (n5 : Int), I1 m3 [(.v (.int .i64 n5))] h4 →
  okInt .i64 (aLen Try.prog h4 50 a0) fun n6 =>
  condB (decide (n5 < n6))
  (okV (aIA Try.prog h4 50 a0 (.v (.int .i64 n5))) fun v7 =>
  okV (aLoad Try.prog h4 60 v7) fun v8 =>
  okV (aIA Try.prog h4 50 a0 (.v (.int .i64 (IntKind.wrap .i64 (n5 - 1))))) fun v9 =>
  okV (aLoad Try.prog h4 60 v9) fun v10 =>
  okBool (aBin Try.prog .eql 60 v8 v10) fun b11 =>
  condB b11
  (okV (aSlice Try.prog h4 50 a0 (some (some (.v (.int .i64 n5)))) none none) fun v12 =>
  Try.r21_l9_13 K h a0 h4 v12 n5 1)
  (nextR h I1 m3 [some a0] [some a0] [(.v (.int .i64 (IntKind.wrap .i64 (n5 + 1))))] h4))
  (RetR h K a0 h4)
def Try.r21 (a0 : AV) (h : AH) (K : AV → AH → Prop) : Prop :=
  okInt .i64 (aLen Try.prog h 50 a0) fun n0 =>
  condB (decide (n0 < 2))
  (RetR h K a0 h)
  (Try.r21_l4_1 K h a0 1)
theorem Try.c21 (G : Nat → Option AV) (a0 : AV) (h : AH) (K : AV → AH → Prop) (hk : LowH h.length h → Try.r21 a0 h K) : SCall Try.prog G 21 [a0] h K :=
  scall_of_rwp Try.tab21 [(4, [(3, (.int .i64))], [0]), (9, [(3, (.int .i64)), (5, (.int .i64))], [0, 4])] Try.func21 rfl Try.ntmps21 (by kernel_rfl) (by show 1 ≤ 61; decide) (by kernel_rfl) (by kernel_rfl) hk
-- 25 cmp.isNaN[int]
def Try.r25 (a0 : AV) (h : AH) (K : AV → AH → Prop) : Prop :=
  okInt .i64 (some a0) fun n0 =>
  okInt .i64 (some a0) fun n1 =>
  RetR h K (.v (.bool (n0 != n1))) h
theorem Try.c25 (G : Nat → Option AV) (a0 : AV) (h : AH) (K : AV → AH → Prop) (hk : LowH h.length h → Try.r25 a0 h K) : SCall Try.prog G 25 [a0] h K :=
  scall_of_rwp Try.tab25 [] Try.func25 rfl Try.ntmps25 (by kernel_rfl) (by show 1 ≤ 6; decide) (by kernel_rfl) (by kernel_rfl) hk
-- 26 slices.pdqsortCmpFunc[skylark/sweep.place]
def Try.r26_j26 (h : AH) (G : Nat → Option AV) (a0 : AV) (a4 : AV) (I3 : Nat → List AV → AH → Prop) (m5 : Nat) (n7 : Int) (n8 : Int) (b10 : Bool) (b11 : Bool) (n16 : Int) (n22 : Int) (h25 : AH) : Prop :=
  rGq (decide (n7 > 0)) true (some a4) fun b26 v27 =>
  rGq b26 true (some a0) fun b28 v29 =>
  rGq b28 true (some (.v (.int .i64 n7))) fun b30 v31 =>
  rGq b30 true (aBin Try.prog .sub 3 v31 (.v (.int .i64 1))) fun b32 v33 =>
  rGq b32 true (aIA Try.prog h25 50 v29 v33) fun b34 v35 =>
  rGq b34 true (aLoad Try.prog h25 60 v35) fun b36 v37 =>
  rGq b36 true (some a0) fun b38 v39 =>
  rGq b38 true (some (.v (.int .i64 n22))) fun b40 v41 =>
  rGq b40 true (aIA Try.prog h25 50 v39 v41) fun b42 v43 =>
  rGq b42 true (aLoad Try.prog h25 60 v43) fun b44 v45 =>
  rGe b44 true (fun k46 => callU Try.prog G h25 (fun v47 h48 =>
  k46 v47 h48) [v37, v45] v27) h25 fun b49 v50 h51 =>
  rGq b49 true (aBin Try.prog .lss 3 v50 (.v (.int .i64 0))) fun b52 v53 =>
  rGq b52 true (aUn .not v53) fun b54 v55 =>
  okBool (pickR (some (.v (.bool b54))) (some v55) (some (.v (.bool false)))) fun b56 =>
  condB b56
  (callR Try.prog G 44 [a0, (.v (.int .i64 n7)), (.v (.int .i64 n8)), (.v (.int .i64 n22)), a4] h51 (fun v57 h58 =>
  okInt .i64 (some v57) fun n59 =>
  nextR h I3 m5 [some a0, some a4] [some a0, some a4] [(.v (.int .i64 n59)), (.v (.int .i64 n8)), (.v (.int .i64 n16)), (.v (.bool b10)), (.v (.bool b11))] h58))
  (callR Try.prog G 45 [a0, (.v (.int .i64 n7)), (.v (.int .i64 n8)), (.v (.int .i64 n22)), a4] h51 (fun v60 h61 =>
  okInt .i64 (extV 0 v60) fun n62 =>
  okBool (extV 1 v60) fun b63 =>
  condB (decide ((IntKind.wrap .i64 (n62 - n7)) < (IntKind.wrap .i64 (n8 - n62))))
  (callR Try.prog G 26 [a0, (.v (.int .i64 n7)), (.v (.int .i64 n62)), (.v (.int .i64 n16)), a4] h61 (fun v64 h65 =>
  nextR h I3 m5 [some a0, some a4] [some a0, some a4] [(.v (.int .i64 (IntKind.wrap .i64 (n62 + 1)))), (.v (.int .i64 n8)), (.v (.int .i64 n16)), (.v (.bool (decide ((IntKind.wrap .i64 (n62 - n7)) ≥ (IntKind.wrap .i64 (Int.tdiv (IntKind.wrap .i64 (n8 - n7)) 8)))))), (.v (.bool b63))] h65))
  (callR Try.prog G 26 [a0, (.v (.int .i64 (IntKind.wrap .i64 (n62 + 1)))), (.v (.int .i64 n8)), (.v (.int .i64 n16)), a4] h61 (fun v66 h67 =>
  nextR h I3 m5 [some a0, some a4] [some a0, some a4] [(.v (.int .i64 n7)), (.v (.int .i64 n62)), (.v (.int .i64 n16)), (.v (.bool (decide ((IntKind.wrap .i64 (n8 - n62)) ≥ (IntKind.wrap .i64 (Int.tdiv (IntKind.wrap .i64 (n8 - n7)) 8)))))), (.v (.bool b63))] h67))))
def Try.r26_j25 (G : Nat → Option AV) (h : AH) (K : AV → AH → Prop) (a0 : AV) (a4 : AV) (I3 : Nat → List AV → AH → Prop) (m5 : Nat) (n7 : Int) (n8 : Int) (b10 : Bool) (b11 : Bool) (n16 : Int) (n22 : Int) (n23 : Int) (h24 : AH) : Prop :=
  rGq b10 true (some (.v (.bool b11))) fun b68 v69 =>
  okBool (pickR (some (.v (.bool b68))) (some v69) (some (.v (.bool false)))) fun b70 =>
  rGq b70 true (some (.v (.int .i64 n23))) fun b71 v72 =>
  rGq b71 true (aBin Try.prog .eql 73 v72 (.v (.int .i64 1))) fun b73 v74 =>
  okBool (pickR (some (.v (.bool b73))) (some v74) (some (.v (.bool false)))) fun b75 =>
  condB b75
  (callR Try.prog G 43 [a0, (.v (.int .i64 n7)), (.v (.int .i64 n8)), a4] h24 (fun v76 h77 =>
  okBool (some v76) fun b78 =>
  condB b78
  (RetR h K (.tup []) h77)
  (Try.r26_j26 h G a0 a4 I3 m5 n7 n8 b10 b11 n16 n22 h77)))
  (Try.r26_j26 h G a0 a4 I3 m5 n7 n8 b10 b11 n16 n22 h24)
def Try.r26_j18 (K : AV → AH → Prop) (h : AH) (G : Nat → Option AV) (a0 : AV) (a4 : AV) (I3 : Nat → List AV → AH → Prop) (m5 : Nat) (n7 : Int) (n8 : Int) (b10 : Bool) (b11 : Bool) (n16 : Int) (h17 : AH) : Prop :=
  callR Try.prog G 41 [a0, (.v (.int .i64 n7)), (.v (.int .i64 n8)), a4] h17 (fun v18 h19 =>
  okInt .i64 (extV 0 v18) fun n20 =>
  okInt .i64 (extV 1 v18) fun n21 =>
  condB (n21 == 2)
  (callR Try.prog G 42 [a0, (.v (.int .i64 n7)), (.v (.int .i64 n8)), a4] h19 (fun v79 h80 =>
  Try.r26_j25 G h K a0 a4 I3 m5 n7 n8 b10 b11 n16 (IntKind.wrap .i64 ((IntKind.wrap .i64 (n8 - 1)) - (IntKind.wrap .i64 (n20 - n7)))) 1 h80))
  (Try.r26_j25 G h K a0 a4 I3 m5 n7 n8 b10 b11 n16 n20 n21 h19))
def Try.r26_l2_3 (G : Nat → Option AV) (h : AH) (K : AV → AH → Prop) (a0 : AV) (a4 : AV) (n83 : Int) (n84 : Int) (n85 : Int) (b86 : Bool) (b87 : Bool) : Prop :=
  ∃ (I3 : Nat → List AV → AH → Prop) (m4 : Nat), I3 m4 [(.v (.int .i64 n83)), (.v (.int .i64 n84)), (.v (.int .i64 n85)), (.v (.bool b86)), (.v (.bool b87))] h ∧ ∀ (m5 : Nat) (h6 : AH), h.length ≤ h6.length → LowH h6.length h6 → ∀ (n7 : Int) (n8 : Int) (n9 : Int) (b10 : Bool) (b11 : Bool), I3 m5 [(.v (.int .i64 n7)), (.v (.int .i64 n8)), (.v (.int .i64 n9)), (.v (.bool b10)), (.v (.bool b11))] h6 →
  condB (decide ((IntKind.wrap .i64 (n8 - n7)) ≤ 12))
  (callR Try.prog G 38 [a0, (.v (.int .i64 n7)), (.v (.int .i64 n8)), a4] h6 (fun v12 h13 =>
  RetR h K (.tup []) h13))
  (condB (n9 == 0)
  (callR Try.prog G 39 [a0, (.v (.int .i64 n7)), (.v (.int .i64 n8)), a4] h6 (fun v14 h15 =>
  RetR h K (.tup []) h15))
  (condB (!b10)
  (callR Try.prog G 40 [a0, (.v (.int .i64 n7)), (.v (.int .i64 n8)), a4] h6 (fun v81 h82 =>
  Try.r26_j18 K h G a0 a4 I3 m5 n7 n8 b10 b11 (IntKind.wrap .i64 (n9 - 1)) h82))
  (Try.r26_j18 K h G a0 a4 I3 m5 n7 n8 b10 b11 n9 h6)))
def Try.r26 (G : Nat → Option AV) (a0 a1 a2 a3 a4 : AV) (h : AH) (K : AV → AH → Prop) : Prop :=
  okInt .i64 (some a1) fun n0 =>
  okInt .i64 (some a2) fun n1 =>
  okInt .i64 (some a3) fun n2 =>
  Try.r26_l2_3 G h K a0 a4 n0 n1 n2 true true
theorem Try.c26 (G : Nat → Option AV) (a0 a1 a2 a3 a4 : AV) (h : AH) (K : AV → AH → Prop) (hk : LowH h.length h → Try.r26 G a0 a1 a2 a3 a4 h K) : SCall Try.prog G 26 [a0, a1, a2, a3, a4] h K :=
  scall_of_rwp Try.tab26 [(2, [(1, (.int .i64)), (2, (.int .i64)), (3, (.int .i64)), (10, .bool), (11, .bool)], [0, 4])] Try.func26 rfl Try.ntmps26 (by kernel_rfl) (by show 5 ≤ 148; decide) (by kernel_rfl) (by kernel_rfl) hk
-- 27 cmp.Or[int]
def Try.r27_l3_1 (K : AV → AH → Prop) (h : AH) (a0 : AV) (n0 : Int) (n8 : Int) : Prop :=
  ∃ (I1 : Nat → List AV → AH → Prop) (m2 : Nat), I1 m2 [(.v (.int .i64 n8))] h ∧ ∀ (m3 : Nat) (h4 : AH), h.length ≤ h4.length → LowH h4.length h4 → ∀ (n5 : Int), I1 m3 [(.v (.int .i64 n5))] h4 →
  condB (decide (n5 < n0))
  (okV (aIA Try.prog h4 27 a0 (.v (.int .i64 n5))) fun v6 =>
  okInt .i64 (aLoad Try.prog h4 3 v6) fun n7 =>
  condB (n7 != 0)
  (RetR h K (.v (.int .i64 n7)) h4)
  (nextR h I1 m3 [some (.v (.int .i64 0)), some a0, some (.v (.int .i64 n0))] [some (.v (.int .i64 0)), some a0, some (.v (.int .i64 n0))] [(.v (.int .i64 (IntKind.wrap .i64 (n5 + 1))))] h4))
  (RetR h K (.v (.int .i64 0)) h4)
def Try.r27 (a0 : AV) (h : AH) (K : AV → AH → Prop) : Prop :=
  okInt .i64 (aLen Try.prog h 27 a0) fun n0 =>
  Try.r27_l3_1 K h a0 n0 0
theorem Try.c27 (G : Nat → Option AV) (a0 : AV) (h : AH) (K : AV → AH → Prop) (hk : LowH h.length h → Try.r27 a0 h K) : SCall Try.prog G 27 [a0] h K :=
  scall_of_rwp Try.tab27 [(3, [(8, (.int .i64))], [3, 6, 7])] Try.func27 rfl Try.ntmps27 (by kernel_rfl) (by show 1 ≤ 18; decide) (by kernel_rfl) (by kernel_rfl) hk
-- 38 slices.insertionSortCmpFunc[skylark/sweep.place]
def Try.r38_l4_7 (h : AH) (G : Nat → Option AV) (a0 : AV) (a1 : AV) (a2 : AV) (a3 : AV) (I1 : Nat → List AV → AH → Prop) (m3 : Nat) (h4 : AH) (n5 : Int) (n52 : Int) : Prop :=
  ∃ (I7 : Nat → List AV → AH → Prop) (m8 : Nat), I7 m8 [(.v (.int .i64 n52))] h4 ∧ ∀ (m9 : Nat) (h10 : AH), h4.length ≤ h10.length → LowH h10.length h10 → ∀ (n11 : Int), I7 m9 [(.v (.int .i64 n11))] h10 →
  okInt .i64 (some a1) fun n12 =>
  rGq (decide (n11 > n12)) true (some a3) fun b13 v14 =>
  rGq b13 true (some a0) fun b15 v16 =>
  rGq b15 true (some (.v (.int .i64 n11))) fun b17 v18 =>
  rGq b17 true (aIA Try.prog h10 50 v16 v18) fun b19 v20 =>
  rGq b19 true (aLoad Try.prog h10 60 v20) fun b21 v22 =>
  rGq b21 true (some a0) fun b23 v24 =>
  rGq b23 true (some (.v (.int .i64 n11))) fun b25 v26 =>
  rGq b25 true (aBin Try.prog .sub 3 v26 (.v (.int .i64 1))) fun b27 v28 =>
  rGq b27 true (aIA Try.prog h10 50 v24 v28) fun b29 v30 =>
  rGq b29 true (aLoad Try.prog h10 60 v30) fun b31 v32 =>
  rGe b31 true (fun k33 => callU Try.prog G h10 (fun v34 h35 =>
  k33 v34 h35) [v22, v32] v14) h10 fun b36 v37 h38 =>
  rGq b36 true (aBin Try.prog .lss 3 v37 (.v (.int .i64 0))) fun b39 v40 =>
  okBool (pickR (some (.v (.bool b39))) (some v40) (some (.v (.bool false)))) fun b41 =>
  condB b41
  (okV (aIA Try.prog h38 50 a0 (.v (.int .i64 (IntKind.wrap .i64 (n11 - 1))))) fun v42 =>
  okV (aLoad Try.prog h38 60 v42) fun v43 =>
  okV (aIA Try.prog h38 50 a0 (.v (.int .i64 n11))) fun v44 =>
  okV (aLoad Try.prog h38 60 v44) fun v45 =>
  okV (aIA Try.prog h38 50 a0 (.v (.int .i64 n11))) fun v46 =>
  storeR Try.prog h38 (fun v47 h48 =>
  okV (aIA Try.prog h48 50 a0 (.v (.int .i64 (IntKind.wrap .i64 (n11 - 1))))) fun v49 =>
  storeR Try.prog h48 (fun v50 h51 =>
  nextR h4 I7 m9 [some a0, some a1, some a2, some a3, some (.v (.int .i64 n5))] [some a0, some a1, some a2, some a3, some (.v (.int .i64 n5))] [(.v (.int .i64 (IntKind.wrap .i64 (n11 - 1))))] h51) 60 v45 v49) 60 v43 v46)
  (nextR h I1 m3 [some a0, some a1, some a2, some a3] [some a0, some a1, some a2, some a3] [(.v (.int .i64 (IntKind.wrap .i64 (n5 + 1))))] h38)
def Try.r38_l1_1 (K : AV → AH → Prop) (h : AH) (G : Nat → Option AV) (a0 : AV) (a1 : AV) (a2 : AV) (a3 : AV) (n53 : Int) : Prop :=
  ∃ (I1 : Nat → List AV → AH → Prop) (m2 : Nat), I1 m2 [(.v (.int .i64 n53))] h ∧ ∀ (m3 : Nat) (h4 : AH), h.length ≤ h4.length → LowH h4.length h4 → ∀ (n5 : Int), I1 m3 [(.v (.int .i64 n5))] h4 →
  okInt .i64 (some a2) fun n6 =>
  condB (decide (n5 < n6))
  (Try.r38_l4_7 h G a0 a1 a2 a3 I1 m3 h4 n5 n5)
  (RetR h K (.tup []) h4)
def Try.r38 (G : Nat → Option AV) (a0 a1 a2 a3 : AV) (h : AH) (K : AV → AH → Prop) : Prop :=
  okInt .i64 (some a1) fun n0 =>
  Try.r38_l1_1 K h G a0 a1 a2 a3 (IntKind.wrap .i64 (n0 + 1))
theorem Try.c38 (G : Nat → Option AV) (a0 a1 a2 a3 : AV) (h : AH) (K : AV → AH → Prop) (hk : LowH h.length h → Try.r38 G a0 a1 a2 a3 h K) : SCall Try.prog G 38 [a0, a1, a2, a3] h K :=
  scall_of_rwp Try.tab38 [(1, [(8, (.int .i64))], [0, 1, 2, 3]), (4, [(9, (.int .i64))], [0, 1, 2, 3, 8])] Try.func38 rfl Try.ntmps38 (by kernel_rfl) (by show 4 ≤ 53; decide) (by kernel_rfl) (by kernel_rfl) hk
end Go.Proofs


