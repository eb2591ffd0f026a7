/-
  Of each function its body as a plain statement, and that a call follows from it: printed by wip/gen/Res.lean.
-/
import Derived.Test.YtmfaafdkpahjlaaBytFn
import Derived.Test.YtmfaafdkpahjlaaAbH
import Derived.KernelRfl
set_option linter.all false
namespace Go.Proofs
open Go Go.Abs
set_option linter.unusedVariables false
set_option maxRecDepth 100000
-- 4 skylark/skylarklaw18.AdminBytes
def Try.r4 (G : Nat → Option AV) (a0 a1 : AV) (h : AH) (K : AV → AH → Prop) : Prop :=
  onlyB (AV.one a0) (newO (.cells 33 (AV.cells a0).length [AV.cells a0] 0) h fun i0 h1 =>
  okV (aLoad Try.prog h1 33 (.ptr i0 0 0 0)) fun v2 =>
  callR Try.prog G 14 [v2] h1 (fun v3 h4 =>
  okStr (extV 0 v3) fun s5 =>
  okInt .i64 (extV 1 v3) fun n6 =>
  okV (aLoad Try.prog h4 33 (.ptr i0 0 0 0)) fun v7 =>
  callR Try.prog G 15 [v7] h4 (fun v8 h9 =>
  okStr (extV 0 v8) fun s10 =>
  okInt .i64 (extV 1 v8) fun n11 =>
  okStr (some a1) fun s12 =>
  callR Try.prog G 16 [(.v (.string s12))] h9 (fun v13 h14 =>
  okV (extV 0 v13) fun v15 =>
  okInt .i64 (extV 1 v13) fun n16 =>
  newO (.cells 33 6 [[(.v (.int .i64 0)), (.v (.int .i64 0)), (.v (.int .i64 0)), (.v (.int .i64 0)), (.v (.slice none 0 0)), (.v (.string (ByteArray.mk #[])))]] 0) h14 fun i17 h18 =>
  storeR Try.prog h18 (fun v19 h20 =>
  okStr (some a1) fun s21 =>
  callR Try.prog G 17 [(.v (.string s21))] h20 (fun v22 h23 =>
  okV (extV 0 v22) fun v24 =>
  okInt .i64 (extV 1 v22) fun n25 =>
  newO (.cells 33 6 [[(.v (.int .i64 0)), (.v (.int .i64 0)), (.v (.int .i64 0)), (.v (.int .i64 0)), (.v (.slice none 0 0)), (.v (.string (ByteArray.mk #[])))]] 0) h23 fun i26 h27 =>
  storeR Try.prog h27 (fun v28 h29 =>
  rGq (ByteArray.toList s5 == ByteArray.toList s10) true (some (.v (.int .i64 n6))) fun b30 v31 =>
  rGq b30 true (some (.v (.int .i64 n11))) fun b32 v33 =>
  rGq b32 true (aBin Try.prog .eql 26 v31 v33) fun b34 v35 =>
  okBool (pickR (some (.v (.bool b34))) (some v35) (some (.v (.bool false)))) fun b36 =>
  rGq b36 true (aLoad Try.prog h29 33 (.ptr i17 0 0 0)) fun b37 v38 =>
  rGq b37 true (aLoad Try.prog h29 33 (.ptr i26 0 0 0)) fun b39 v40 =>
  rGe b39 true (fun k41 => callR Try.prog G 18 [v38, v40] h29 (fun v42 h43 =>
  k41 v42 h43)) h29 fun b44 v45 h46 =>
  okBool (pickR (some (.v (.bool b44))) (some v45) (some (.v (.bool false)))) fun b47 =>
  rGq b47 true (some (.v (.int .i64 n16))) fun b48 v49 =>
  rGq b48 true (some (.v (.int .i64 n25))) fun b50 v51 =>
  rGq b50 true (aBin Try.prog .eql 26 v49 v51) fun b52 v53 =>
  okBool (pickR (some (.v (.bool b52))) (some v53) (some (.v (.bool false)))) fun b54 =>
  rGe b54 true (fun k55 => callR Try.prog G 7 [] h46 (fun v56 h57 =>
  k55 v56 h57)) h46 fun b58 v59 h60 =>
  okBool (pickR (some (.v (.bool b58))) (some v59) (some (.v (.bool false)))) fun b61 =>
  RetR h K (.v (.bool b61)) h60) 33 v24 (.ptr i26 0 0 0))) 33 v15 (.ptr i17 0 0 0)))))
theorem Try.c4 (G : Nat → Option AV) (a0 a1 : AV) (h : AH) (K : AV → AH → Prop) (hk : LowH h.length h → Try.r4 G a0 a1 h K) : SCall Try.prog G 4 [a0, a1] h K :=
  scall_of_rwp Try.tab4 [] Try.func4 rfl Try.ntmps4 (by kernel_rfl) (by show 2 ≤ 54; decide) (by kernel_rfl) (by kernel_rfl) hk
-- 14 skylark/admin.Encode
def Try.r14_l5_22 (K : AV → AH → Prop) (h : AH) (G : Nat → Option AV) (h19 : AH) (v20 : AV) (n21 : Int) (v38 : AV) (n39 : Int) : Prop :=
  ∃ (I22 : Nat → List AV → AH → Prop) (m23 : Nat), I22 m23 [v38, (.v (.int .i64 n39))] h19 ∧ ∀ (m24 : Nat) (h25 : AH), h19.length ≤ h25.length → LowH h25.length h25 → ∀ (v26 : AV) (n27 : Int), I22 m24 [v26, (.v (.int .i64 n27))] h25 →
  condB (decide (n27 < n21))
  (okV (aIA Try.prog h25 31 v20 (.v (.int .i64 n27))) fun v28 =>
  okInt .i64 (aLoad Try.prog h25 3 v28) fun n29 =>
  newO (.cells 89 3 [[(.v (.bool false)), (.v (.int .i64 n29)), (.v (.string (ByteArray.mk #[])))]] 0) h25 fun i30 h31 =>
  appR Try.prog h31 90 90 v26 (.sl i30 0 0 1 none) (fun v32 h33 =>
  nextR h19 I22 m24 [some v20, some (.v (.int .i64 n21))] [some v20, some (.v (.int .i64 n21))] [v32, (.v (.int .i64 (IntKind.wrap .i64 (n27 + 1))))] h33))
  (callR Try.prog G 29 [v26] h25 (fun v34 h35 =>
  okStr (extV 0 v34) fun s36 =>
  okInt .i64 (extV 1 v34) fun n37 =>
  RetR h K (.tup [(.v (.string s36)), (.v (.int .i64 n37))]) h35))
def Try.r14 (G : Nat → Option AV) (a0 : AV) (h : AH) (K : AV → AH → Prop) : Prop :=
  onlyB (AV.one a0) (newO (.cells 33 (AV.cells a0).length [AV.cells a0] 0) h fun i0 h1 =>
  okV (aLoad Try.prog h1 31 (.ptr i0 0 0 4)) fun v2 =>
  okInt .i64 (aLen Try.prog h1 31 v2) fun n3 =>
  rGq (decide (n3 > 16)) false (some (.ptr i0 0 0 5)) fun b4 v5 =>
  rGq b4 false (aLoad Try.prog h1 9 v5) fun b6 v7 =>
  rGq b6 false (aLen Try.prog h1 9 v7) fun b8 v9 =>
  rGq b8 false (aBin Try.prog .gtr 3 v9 (.v (.int .i64 64))) fun b10 v11 =>
  okBool (pickR (some (.v (.bool b10))) (some (.v (.bool true))) (some v11)) fun b12 =>
  condB b12
  (RetR h K (.tup [(.v (.string (ByteArray.mk #[]))), (.v (.int .i64 2))]) h1)
  (okInt .i64 (aLoad Try.prog h1 3 (.ptr i0 0 0 0)) fun n13 =>
  okInt .i64 (aLoad Try.prog h1 3 (.ptr i0 0 0 1)) fun n14 =>
  okInt .i64 (aLoad Try.prog h1 3 (.ptr i0 0 0 2)) fun n15 =>
  okInt .i64 (aLoad Try.prog h1 3 (.ptr i0 0 0 3)) fun n16 =>
  okStr (aLoad Try.prog h1 9 (.ptr i0 0 0 5)) fun s17 =>
  newO (.cells 89 3 [[(.v (.bool false)), (.v (.int .i64 n13)), (.v (.string (ByteArray.mk #[])))], [(.v (.bool false)), (.v (.int .i64 n14)), (.v (.string (ByteArray.mk #[])))], [(.v (.bool false)), (.v (.int .i64 n15)), (.v (.string (ByteArray.mk #[])))], [(.v (.bool false)), (.v (.int .i64 n16)), (.v (.string (ByteArray.mk #[])))], [(.v (.bool true)), (.v (.int .i64 0)), (.v (.string s17))]] 0) h1 fun i18 h19 =>
  okV (aLoad Try.prog h19 31 (.ptr i0 0 0 4)) fun v20 =>
  okInt .i64 (aLen Try.prog h19 31 v20) fun n21 =>
  Try.r14_l5_22 K h G h19 v20 n21 (.sl i18 0 0 5 none) 0))
theorem Try.c14 (G : Nat → Option AV) (a0 : AV) (h : AH) (K : AV → AH → Prop) (hk : LowH h.length h → Try.r14 G a0 h K) : SCall Try.prog G 14 [a0] h K :=
  scall_of_rwp Try.tab14 [(5, [(4, .any), (36, (.int .i64))], [34, 35])] Try.func14 rfl Try.ntmps14 (by kernel_rfl) (by show 1 ≤ 50; decide) (by kernel_rfl) (by kernel_rfl) hk
-- 15 skylark/skylarkref18.Encode
def Try.r15_l5_20 (K : AV → AH → Prop) (h : AH) (G : Nat → Option AV) (i0 : Nat) (h19 : AH) (v38 : AV) (n39 : Int) : Prop :=
  ∃ (I20 : Nat → List AV → AH → Prop) (m21 : Nat), I20 m21 [v38, (.v (.int .i64 n39))] h19 ∧ ∀ (m22 : Nat) (h23 : AH), h19.length ≤ h23.length → LowH h23.length h23 → ∀ (v24 : AV) (n25 : Int), I20 m22 [v24, (.v (.int .i64 n25))] h23 →
  okV (aLoad Try.prog h23 31 (.ptr i0 0 0 4)) fun v26 =>
  okInt .i64 (aLen Try.prog h23 31 v26) fun n27 =>
  condB (decide (n25 < n27))
  (okV (aLoad Try.prog h23 31 (.ptr i0 0 0 4)) fun v28 =>
  okV (aIA Try.prog h23 31 v28 (.v (.int .i64 n25))) fun v29 =>
  okInt .i64 (aLoad Try.prog h23 3 v29) fun n30 =>
  newO (.cells 89 3 [[(.v (.bool false)), (.v (.int .i64 n30)), (.v (.string (ByteArray.mk #[])))]] 0) h23 fun i31 h32 =>
  appR Try.prog h32 90 90 v24 (.sl i31 0 0 1 none) (fun v33 h34 =>
  nextR h19 I20 m22 [some (.ptr i0 0 0 0)] [some (.ptr i0 0 0 0)] [v33, (.v (.int .i64 (IntKind.wrap .i64 (n25 + 1))))] h34))
  (callR Try.prog G 30 [v24] h23 (fun v35 h36 =>
  okStr (some v35) fun s37 =>
  RetR h K (.tup [(.v (.string s37)), (.v (.int .i64 0))]) h36))
def Try.r15 (G : Nat → Option AV) (a0 : AV) (h : AH) (K : AV → AH → Prop) : Prop :=
  onlyB (AV.one a0) (newO (.cells 33 (AV.cells a0).length [AV.cells a0] 0) h fun i0 h1 =>
  okV (aLoad Try.prog h1 31 (.ptr i0 0 0 4)) fun v2 =>
  okInt .i64 (aLen Try.prog h1 31 v2) fun n3 =>
  rGq (decide (n3 > 16)) false (some (.ptr i0 0 0 5)) fun b4 v5 =>
  rGq b4 false (aLoad Try.prog h1 9 v5) fun b6 v7 =>
  rGq b6 false (aLen Try.prog h1 9 v7) fun b8 v9 =>
  rGq b8 false (aBin Try.prog .gtr 3 v9 (.v (.int .i64 64))) fun b10 v11 =>
  okBool (pickR (some (.v (.bool b10))) (some (.v (.bool true))) (some v11)) fun b12 =>
  condB b12
  (RetR h K (.tup [(.v (.string (ByteArray.mk #[]))), (.v (.int .i64 2))]) h1)
  (okInt .i64 (aLoad Try.prog h1 3 (.ptr i0 0 0 0)) fun n13 =>
  okInt .i64 (aLoad Try.prog h1 3 (.ptr i0 0 0 1)) fun n14 =>
  okInt .i64 (aLoad Try.prog h1 3 (.ptr i0 0 0 2)) fun n15 =>
  okInt .i64 (aLoad Try.prog h1 3 (.ptr i0 0 0 3)) fun n16 =>
  okStr (aLoad Try.prog h1 9 (.ptr i0 0 0 5)) fun s17 =>
  newO (.cells 89 3 [[(.v (.bool false)), (.v (.int .i64 n13)), (.v (.string (ByteArray.mk #[])))], [(.v (.bool false)), (.v (.int .i64 n14)), (.v (.string (ByteArray.mk #[])))], [(.v (.bool false)), (.v (.int .i64 n15)), (.v (.string (ByteArray.mk #[])))], [(.v (.bool false)), (.v (.int .i64 n16)), (.v (.string (ByteArray.mk #[])))], [(.v (.bool true)), (.v (.int .i64 0)), (.v (.string s17))]] 0) h1 fun i18 h19 =>
  Try.r15_l5_20 K h G i0 h19 (.sl i18 0 0 5 none) 0))
theorem Try.c15 (G : Nat → Option AV) (a0 : AV) (h : AH) (K : AV → AH → Prop) (hk : LowH h.length h → Try.r15 G a0 h K) : SCall Try.prog G 15 [a0] h K :=
  scall_of_rwp Try.tab15 [(5, [(4, .any), (5, (.int .i64))], [1])] Try.func15 rfl Try.ntmps15 (by kernel_rfl) (by show 1 ≤ 50; decide) (by kernel_rfl) (by kernel_rfl) hk
-- 16 skylark/admin.Decode
def Try.r16_l6_44 (K : AV → AH → Prop) (h : AH) (G : Nat → Option AV) (a0 : AV) (i0 : Nat) (i38 : Nat) (h41 : AH) (v42 : AV) (n43 : Int) (n82 : Int) : Prop :=
  ∃ (I44 : Nat → List AV → AH → Prop) (m45 : Nat), I44 m45 [(.v (.int .i64 n82))] h41 ∧ ∀ (m46 : Nat) (h47 : AH), h41.length ≤ h47.length → LowH h47.length h47 → ∀ (n48 : Int), I44 m46 [(.v (.int .i64 n48))] h47 →
  condB (decide (n48 < n43))
  (okV (aIA Try.prog h47 90 v42 (.v (.int .i64 n48))) fun v49 =>
  okV (aLoad Try.prog h47 89 v49) fun v50 =>
  newO (.cells 89 3 [[(.v (.bool false)), (.v (.int .i64 0)), (.v (.string (ByteArray.mk #[])))]] 0) h47 fun i51 h52 =>
  storeR Try.prog h52 (fun v53 h54 =>
  okV (aLoad Try.prog h54 31 (.ptr i38 0 0 4)) fun v55 =>
  okInt .i64 (aLoad Try.prog h54 2 (.ptr i51 0 0 1)) fun n56 =>
  newO (.cells 3 1 [[(.v (.int .i64 n56))]] 0) h54 fun i57 h58 =>
  appR Try.prog h58 31 31 v55 (.sl i57 0 0 1 none) (fun v59 h60 =>
  storeR Try.prog h60 (fun v61 h62 =>
  nextR h41 I44 m46 [some a0, some (.ptr i0 0 0 0), some (.ptr i38 0 0 0), some v42, some (.v (.int .i64 n43))] [some a0, some (.ptr i0 0 0 0), some (.ptr i38 0 0 0), some v42, some (.v (.int .i64 n43))] [(.v (.int .i64 (IntKind.wrap .i64 (n48 + 1))))] h62) 31 v59 (.ptr i38 0 0 4))) 89 v50 (.ptr i51 0 0 0))
  (okV (aLoad Try.prog h47 33 (.ptr i38 0 0 0)) fun v63 =>
  callR Try.prog G 14 [v63] h47 (fun v64 h65 =>
  okStr (extV 0 v64) fun s66 =>
  okInt .i64 (extV 1 v64) fun n67 =>
  rGq (n67 != 0) false (some (.v (.string s66))) fun b68 v69 =>
  rGq b68 false (some a0) fun b70 v71 =>
  rGq b70 false (aBin Try.prog .neq 9 v69 v71) fun b72 v73 =>
  okBool (pickR (some (.v (.bool b72))) (some (.v (.bool true))) (some v73)) fun b74 =>
  condB b74
  (storeR Try.prog h65 (fun v75 h76 =>
  okV (aLoad Try.prog h76 33 (.ptr i0 0 0 0)) fun v77 =>
  RetR h K (.tup [v77, (.v (.int .i64 80))]) h76) 33 (.agg [(.v (.int .i64 0)), (.v (.int .i64 0)), (.v (.int .i64 0)), (.v (.int .i64 0)), (.v (.slice none 0 0)), (.v (.string (ByteArray.mk #[])))]) (.ptr i0 0 0 0))
  (okV (aLoad Try.prog h65 33 (.ptr i38 0 0 0)) fun v78 =>
  storeR Try.prog h65 (fun v79 h80 =>
  okV (aLoad Try.prog h80 33 (.ptr i0 0 0 0)) fun v81 =>
  RetR h K (.tup [v81, (.v (.int .i64 0))]) h80) 33 v78 (.ptr i0 0 0 0))))
def Try.r16 (G : Nat → Option AV) (a0 : AV) (h : AH) (K : AV → AH → Prop) : Prop :=
  newO (.cells 33 6 [[(.v (.int .i64 0)), (.v (.int .i64 0)), (.v (.int .i64 0)), (.v (.int .i64 0)), (.v (.slice none 0 0)), (.v (.string (ByteArray.mk #[])))]] 0) h fun i0 h1 =>
  okStr (some a0) fun s2 =>
  callR Try.prog G 31 [(.v (.string s2))] h1 (fun v3 h4 =>
  okV (extV 0 v3) fun v5 =>
  okV (extV 1 v3) fun v6 =>
  newO (.cells 94 2 [[(.v (.int .i64 0)), (.v (.int .i64 0))]] 0) h4 fun i7 h8 =>
  storeR Try.prog h8 (fun v9 h10 =>
  okV (aLoad Try.prog h10 94 (.ptr i7 0 0 0)) fun v11 =>
  okBool (aBin Try.prog .neq 94 v11 (.agg [(.v (.int .i64 0)), (.v (.int .i64 0))])) fun b12 =>
  rGq b12 false (some v5) fun b13 v14 =>
  rGq b13 false (aLen Try.prog h10 90 v14) fun b15 v16 =>
  rGq b15 false (aBin Try.prog .lss 3 v16 (.v (.int .i64 5))) fun b17 v18 =>
  okBool (pickR (some (.v (.bool b17))) (some (.v (.bool true))) (some v18)) fun b19 =>
  condB b19
  (storeR Try.prog h10 (fun v20 h21 =>
  okV (aLoad Try.prog h21 33 (.ptr i0 0 0 0)) fun v22 =>
  RetR h K (.tup [v22, (.v (.int .i64 80))]) h21) 33 (.agg [(.v (.int .i64 0)), (.v (.int .i64 0)), (.v (.int .i64 0)), (.v (.int .i64 0)), (.v (.slice none 0 0)), (.v (.string (ByteArray.mk #[])))]) (.ptr i0 0 0 0))
  (okV (aIA Try.prog h10 90 v5 (.v (.int .i64 0))) fun v23 =>
  okV (aFA Try.prog 89 1 v23) fun v24 =>
  okInt .i64 (aLoad Try.prog h10 2 v24) fun n25 =>
  okV (aIA Try.prog h10 90 v5 (.v (.int .i64 1))) fun v26 =>
  okV (aFA Try.prog 89 1 v26) fun v27 =>
  okInt .i64 (aLoad Try.prog h10 2 v27) fun n28 =>
  okV (aIA Try.prog h10 90 v5 (.v (.int .i64 2))) fun v29 =>
  okV (aFA Try.prog 89 1 v29) fun v30 =>
  okInt .i64 (aLoad Try.prog h10 2 v30) fun n31 =>
  okV (aIA Try.prog h10 90 v5 (.v (.int .i64 3))) fun v32 =>
  okV (aFA Try.prog 89 1 v32) fun v33 =>
  okInt .i64 (aLoad Try.prog h10 2 v33) fun n34 =>
  okV (aIA Try.prog h10 90 v5 (.v (.int .i64 4))) fun v35 =>
  okV (aFA Try.prog 89 2 v35) fun v36 =>
  okStr (aLoad Try.prog h10 9 v36) fun s37 =>
  newO (.cells 33 6 [[(.v (.int .i64 0)), (.v (.int .i64 0)), (.v (.int .i64 0)), (.v (.int .i64 0)), (.v (.slice none 0 0)), (.v (.string (ByteArray.mk #[])))]] 0) h10 fun i38 h39 =>
  (aLoad Try.prog h39 9 v36 = some (.v (.string s37))) ∧ (aIA Try.prog h39 90 v5 (.v (.int .i64 4)) = some v35) ∧ (aLoad Try.prog h39 2 v33 = some (.v (.int .i64 n34))) ∧ (aIA Try.prog h39 90 v5 (.v (.int .i64 3)) = some v32) ∧ (aLoad Try.prog h39 2 v30 = some (.v (.int .i64 n31))) ∧ (aIA Try.prog h39 90 v5 (.v (.int .i64 2)) = some v29) ∧ (aLoad Try.prog h39 2 v27 = some (.v (.int .i64 n28))) ∧ (aIA Try.prog h39 90 v5 (.v (.int .i64 1)) = some v26) ∧ (aLoad Try.prog h39 2 v24 = some (.v (.int .i64 n25))) ∧ (aIA Try.prog h39 90 v5 (.v (.int .i64 0)) = some v23) ∧ storeR Try.prog h39 (fun v40 h41 =>
  okV (aSlice Try.prog h41 90 v5 (some (some (.v (.int .i64 5)))) none none) fun v42 =>
  okInt .i64 (aLen Try.prog h41 90 v42) fun n43 =>
  Try.r16_l6_44 K h G a0 i0 i38 h41 v42 n43 0) 33 (.agg [(.v (.int .i64 n25)), (.v (.int .i64 n28)), (.v (.int .i64 n31)), (.v (.int .i64 n34)), (.v (.slice none 0 0)), (.v (.string s37))]) (.ptr i38 0 0 0))) 94 v6 (.ptr i7 0 0 0))
theorem Try.c16 (G : Nat → Option AV) (a0 : AV) (h : AH) (K : AV → AH → Prop) (hk : LowH h.length h → Try.r16 G a0 h K) : SCall Try.prog G 16 [a0] h K :=
  scall_of_rwp Try.tab16 [(6, [(49, (.int .i64))], [0, 2, 6, 47, 48])] Try.func16 rfl Try.ntmps16 (by kernel_rfl) (by show 1 ≤ 75; decide) (by kernel_rfl) (by kernel_rfl) hk
-- 17 skylark/skylarkref18.Decode
def Try.r17_l6_72 (K : AV → AH → Prop) (h : AH) (i0 : Nat) (v5 : AV) (i68 : Nat) (h71 : AH) (n98 : Int) : Prop :=
  ∃ (I72 : Nat → List AV → AH → Prop) (m73 : Nat), I72 m73 [(.v (.int .i64 n98))] h71 ∧ ∀ (m74 : Nat) (h75 : AH), h71.length ≤ h75.length → LowH h75.length h75 → ∀ (n76 : Int), I72 m74 [(.v (.int .i64 n76))] h75 →
  okInt .i64 (aLen Try.prog h75 90 v5) fun n77 =>
  condB (decide (n76 < n77))
  (okV (aIA Try.prog h75 90 v5 (.v (.int .i64 n76))) fun v78 =>
  okV (aFA Try.prog 89 0 v78) fun v79 =>
  okBool (aLoad Try.prog h75 4 v79) fun b80 =>
  condB (!(b80 == (n76 == 4)))
  (storeR Try.prog h75 (fun v81 h82 =>
  okV (aLoad Try.prog h82 33 (.ptr i0 0 0 0)) fun v83 =>
  RetR h K (.tup [v83, (.v (.int .i64 80))]) h82) 33 (.agg [(.v (.int .i64 0)), (.v (.int .i64 0)), (.v (.int .i64 0)), (.v (.int .i64 0)), (.v (.slice none 0 0)), (.v (.string (ByteArray.mk #[])))]) (.ptr i0 0 0 0))
  (condB (decide (n76 > 4))
  (okV (aLoad Try.prog h75 31 (.ptr i68 0 0 4)) fun v84 =>
  okV (aIA Try.prog h75 90 v5 (.v (.int .i64 n76))) fun v85 =>
  okV (aFA Try.prog 89 1 v85) fun v86 =>
  okInt .i64 (aLoad Try.prog h75 2 v86) fun n87 =>
  newO (.cells 3 1 [[(.v (.int .i64 n87))]] 0) h75 fun i88 h89 =>
  (aLoad Try.prog h89 31 (.ptr i68 0 0 4) = some v84) ∧ appR Try.prog h89 31 31 v84 (.sl i88 0 0 1 none) (fun v90 h91 =>
  storeR Try.prog h91 (fun v92 h93 =>
  nextR h71 I72 m74 [some (.ptr i0 0 0 0), some v5, some (.ptr i68 0 0 0)] [some (.ptr i0 0 0 0), some v5, some (.ptr i68 0 0 0)] [(.v (.int .i64 (IntKind.wrap .i64 (n76 + 1))))] h93) 31 v90 (.ptr i68 0 0 4)))
  (nextR h71 I72 m74 [some (.ptr i0 0 0 0), some v5, some (.ptr i68 0 0 0)] [some (.ptr i0 0 0 0), some v5, some (.ptr i68 0 0 0)] [(.v (.int .i64 (IntKind.wrap .i64 (n76 + 1))))] h75)))
  (okV (aLoad Try.prog h75 33 (.ptr i68 0 0 0)) fun v94 =>
  storeR Try.prog h75 (fun v95 h96 =>
  okV (aLoad Try.prog h96 33 (.ptr i0 0 0 0)) fun v97 =>
  RetR h K (.tup [v97, (.v (.int .i64 0))]) h96) 33 v94 (.ptr i0 0 0 0))
def Try.r17 (G : Nat → Option AV) (a0 : AV) (h : AH) (K : AV → AH → Prop) : Prop :=
  newO (.cells 33 6 [[(.v (.int .i64 0)), (.v (.int .i64 0)), (.v (.int .i64 0)), (.v (.int .i64 0)), (.v (.slice none 0 0)), (.v (.string (ByteArray.mk #[])))]] 0) h fun i0 h1 =>
  okStr (some a0) fun s2 =>
  callR Try.prog G 32 [(.v (.string s2))] h1 (fun v3 h4 =>
  okV (extV 0 v3) fun v5 =>
  okV (extV 1 v3) fun v6 =>
  newO (.cells 94 2 [[(.v (.int .i64 0)), (.v (.int .i64 0))]] 0) h4 fun i7 h8 =>
  storeR Try.prog h8 (fun v9 h10 =>
  okInt .i64 (aLoad Try.prog h10 26 (.ptr i7 0 0 1)) fun n11 =>
  rGq (n11 != 0) false (some v5) fun b12 v13 =>
  rGq b12 false (aLen Try.prog h10 90 v13) fun b14 v15 =>
  rGq b14 false (aBin Try.prog .lss 3 v15 (.v (.int .i64 5))) fun b16 v17 =>
  okBool (pickR (some (.v (.bool b16))) (some (.v (.bool true))) (some v17)) fun b18 =>
  rGq b18 false (some v5) fun b19 v20 =>
  rGq b19 false (aLen Try.prog h10 90 v20) fun b21 v22 =>
  rGq b21 false (aBin Try.prog .gtr 3 v22 (.v (.int .i64 21))) fun b23 v24 =>
  okBool (pickR (some (.v (.bool b23))) (some (.v (.bool true))) (some v24)) fun b25 =>
  rGq b25 false (some v5) fun b26 v27 =>
  rGq b26 false (aIA Try.prog h10 90 v27 (.v (.int .i64 4))) fun b28 v29 =>
  rGq b28 false (aFA Try.prog 89 0 v29) fun b30 v31 =>
  rGq b30 false (aLoad Try.prog h10 4 v31) fun b32 v33 =>
  rGq b32 false (aUn .not v33) fun b34 v35 =>
  okBool (pickR (some (.v (.bool b34))) (some (.v (.bool true))) (some v35)) fun b36 =>
  rGq b36 false (some v5) fun b37 v38 =>
  rGq b37 false (aIA Try.prog h10 90 v38 (.v (.int .i64 4))) fun b39 v40 =>
  rGq b39 false (aFA Try.prog 89 2 v40) fun b41 v42 =>
  rGq b41 false (aLoad Try.prog h10 9 v42) fun b43 v44 =>
  rGq b43 false (aLen Try.prog h10 9 v44) fun b45 v46 =>
  rGq b45 false (aBin Try.prog .gtr 3 v46 (.v (.int .i64 64))) fun b47 v48 =>
  okBool (pickR (some (.v (.bool b47))) (some (.v (.bool true))) (some v48)) fun b49 =>
  condB b49
  (storeR Try.prog h10 (fun v50 h51 =>
  okV (aLoad Try.prog h51 33 (.ptr i0 0 0 0)) fun v52 =>
  RetR h K (.tup [v52, (.v (.int .i64 80))]) h51) 33 (.agg [(.v (.int .i64 0)), (.v (.int .i64 0)), (.v (.int .i64 0)), (.v (.int .i64 0)), (.v (.slice none 0 0)), (.v (.string (ByteArray.mk #[])))]) (.ptr i0 0 0 0))
  (okV (aIA Try.prog h10 90 v5 (.v (.int .i64 0))) fun v53 =>
  okV (aFA Try.prog 89 1 v53) fun v54 =>
  okInt .i64 (aLoad Try.prog h10 2 v54) fun n55 =>
  okV (aIA Try.prog h10 90 v5 (.v (.int .i64 1))) fun v56 =>
  okV (aFA Try.prog 89 1 v56) fun v57 =>
  okInt .i64 (aLoad Try.prog h10 2 v57) fun n58 =>
  okV (aIA Try.prog h10 90 v5 (.v (.int .i64 2))) fun v59 =>
  okV (aFA Try.prog 89 1 v59) fun v60 =>
  okInt .i64 (aLoad Try.prog h10 2 v60) fun n61 =>
  okV (aIA Try.prog h10 90 v5 (.v (.int .i64 3))) fun v62 =>
  okV (aFA Try.prog 89 1 v62) fun v63 =>
  okInt .i64 (aLoad Try.prog h10 2 v63) fun n64 =>
  okV (aIA Try.prog h10 90 v5 (.v (.int .i64 4))) fun v65 =>
  okV (aFA Try.prog 89 2 v65) fun v66 =>
  okStr (aLoad Try.prog h10 9 v66) fun s67 =>
  newO (.cells 33 6 [[(.v (.int .i64 0)), (.v (.int .i64 0)), (.v (.int .i64 0)), (.v (.int .i64 0)), (.v (.slice none 0 0)), (.v (.string (ByteArray.mk #[])))]] 0) h10 fun i68 h69 =>
  (aLoad Try.prog h69 9 v66 = some (.v (.string s67))) ∧ (aIA Try.prog h69 90 v5 (.v (.int .i64 4)) = some v65) ∧ (aLoad Try.prog h69 2 v63 = some (.v (.int .i64 n64))) ∧ (aIA Try.prog h69 90 v5 (.v (.int .i64 3)) = some v62) ∧ (aLoad Try.prog h69 2 v60 = some (.v (.int .i64 n61))) ∧ (aIA Try.prog h69 90 v5 (.v (.int .i64 2)) = some v59) ∧ (aLoad Try.prog h69 2 v57 = some (.v (.int .i64 n58))) ∧ (aIA Try.prog h69 90 v5 (.v (.int .i64 1)) = some v56) ∧ (aLoad Try.prog h69 2 v54 = some (.v (.int .i64 n55))) ∧ (aIA Try.prog h69 90 v5 (.v (.int .i64 0)) = some v53) ∧ storeR Try.prog h69 (fun v70 h71 =>
  Try.r17_l6_72 K h i0 v5 i68 h71 0) 33 (.agg [(.v (.int .i64 n55)), (.v (.int .i64 n58)), (.v (.int .i64 n61)), (.v (.int .i64 n64)), (.v (.slice none 0 0)), (.v (.string s67))]) (.ptr i68 0 0 0))) 94 v6 (.ptr i7 0 0 0))
theorem Try.c17 (G : Nat → Option AV) (a0 : AV) (h : AH) (K : AV → AH → Prop) (hk : LowH h.length h → Try.r17 G a0 h K) : SCall Try.prog G 17 [a0] h K :=
  scall_of_rwp Try.tab17 [(6, [(7, (.int .i64))], [2, 4, 6])] Try.func17 rfl Try.ntmps17 (by kernel_rfl) (by show 1 ≤ 91; decide) (by kernel_rfl) (by kernel_rfl) hk
-- 18 skylark/skylarklaw18.sameCmd
def Try.r18 (G : Nat → Option AV) (a0 a1 : AV) (h : AH) (K : AV → AH → Prop) : Prop :=
  onlyB (AV.one a0) (newO (.cells 33 (AV.cells a0).length [AV.cells a0] 0) h fun i0 h1 =>
  onlyB (AV.one a1) (newO (.cells 33 (AV.cells a1).length [AV.cells a1] 0) h1 fun i2 h3 =>
  okInt .i64 (aLoad Try.prog h3 3 (.ptr i0 0 0 0)) fun n4 =>
  okInt .i64 (aLoad Try.prog h3 3 (.ptr i2 0 0 0)) fun n5 =>
  rGq (n4 == n5) true (some (.ptr i0 0 0 1)) fun b6 v7 =>
  rGq b6 true (aLoad Try.prog h3 3 v7) fun b8 v9 =>
  rGq b8 true (some (.ptr i2 0 0 1)) fun b10 v11 =>
  rGq b10 true (aLoad Try.prog h3 3 v11) fun b12 v13 =>
  rGq b12 true (aBin Try.prog .eql 3 v9 v13) fun b14 v15 =>
  okBool (pickR (some (.v (.bool b14))) (some v15) (some (.v (.bool false)))) fun b16 =>
  rGq b16 true (some (.ptr i0 0 0 2)) fun b17 v18 =>
  rGq b17 true (aLoad Try.prog h3 3 v18) fun b19 v20 =>
  rGq b19 true (some (.ptr i2 0 0 2)) fun b21 v22 =>
  rGq b21 true (aLoad Try.prog h3 3 v22) fun b23 v24 =>
  rGq b23 true (aBin Try.prog .eql 3 v20 v24) fun b25 v26 =>
  okBool (pickR (some (.v (.bool b25))) (some v26) (some (.v (.bool false)))) fun b27 =>
  rGq b27 true (some (.ptr i0 0 0 3)) fun b28 v29 =>
  rGq b28 true (aLoad Try.prog h3 3 v29) fun b30 v31 =>
  rGq b30 true (some (.ptr i2 0 0 3)) fun b32 v33 =>
  rGq b32 true (aLoad Try.prog h3 3 v33) fun b34 v35 =>
  rGq b34 true (aBin Try.prog .eql 3 v31 v35) fun b36 v37 =>
  okBool (pickR (some (.v (.bool b36))) (some v37) (some (.v (.bool false)))) fun b38 =>
  rGq b38 true (some (.ptr i0 0 0 5)) fun b39 v40 =>
  rGq b39 true (aLoad Try.prog h3 9 v40) fun b41 v42 =>
  rGq b41 true (some (.ptr i2 0 0 5)) fun b43 v44 =>
  rGq b43 true (aLoad Try.prog h3 9 v44) fun b45 v46 =>
  rGq b45 true (aBin Try.prog .eql 9 v42 v46) fun b47 v48 =>
  okBool (pickR (some (.v (.bool b47))) (some v48) (some (.v (.bool false)))) fun b49 =>
  rGq b49 true (some (.ptr i0 0 0 4)) fun b50 v51 =>
  rGq b50 true (aLoad Try.prog h3 31 v51) fun b52 v53 =>
  rGq b52 true (some (.ptr i2 0 0 4)) fun b54 v55 =>
  rGq b54 true (aLoad Try.prog h3 31 v55) fun b56 v57 =>
  rGe b56 true (fun k58 => callR Try.prog G 12 [v53, v57] h3 (fun v59 h60 =>
  k58 v59 h60)) h3 fun b61 v62 h63 =>
  okBool (pickR (some (.v (.bool b61))) (some v62) (some (.v (.bool false)))) fun b64 =>
  RetR h K (.v (.bool b64)) h63))
theorem Try.c18 (G : Nat → Option AV) (a0 a1 : AV) (h : AH) (K : AV → AH → Prop) (hk : LowH h.length h → Try.r18 G a0 a1 h K) : SCall Try.prog G 18 [a0, a1] h K :=
  scall_of_rwp Try.tab18 [] Try.func18 rfl Try.ntmps18 (by kernel_rfl) (by show 2 ≤ 45; decide) (by kernel_rfl) (by kernel_rfl) hk
-- 29 skylark/code.Encode
def Try.r29_l11_40 (K : AV → AH → Prop) (h : AH) (G : Nat → Option AV) (a0 : AV) (h5 : AH) (n39 : Int) (v73 : AV) (n74 : Int) : Prop :=
  ∃ (I40 : Nat → List AV → AH → Prop) (m41 : Nat), I40 m41 [v73, (.v (.int .i64 n74))] h5 ∧ ∀ (m42 : Nat) (h43 : AH), h5.length ≤ h43.length → LowH h43.length h43 → ∀ (v44 : AV) (n45 : Int), I40 m42 [v44, (.v (.int .i64 n45))] h43 →
  condB (decide (n45 < n39))
  (okV (aIA Try.prog h43 90 a0 (.v (.int .i64 n45))) fun v46 =>
  okV (aLoad Try.prog h43 89 v46) fun v47 =>
  newO (.cells 89 3 [[(.v (.bool false)), (.v (.int .i64 0)), (.v (.string (ByteArray.mk #[])))]] 0) h43 fun i48 h49 =>
  storeR Try.prog h49 (fun v50 h51 =>
  okBool (aLoad Try.prog h51 4 (.ptr i48 0 0 0)) fun b52 =>
  condB b52
  (okStr (aLoad Try.prog h51 9 (.ptr i48 0 0 2)) fun s53 =>
  okStr (aLoad Try.prog h51 9 (.ptr i48 0 0 2)) fun s54 =>
  newO (.cells 5 1 [[(.v (.int .u8 84))]] 0) h51 fun i55 h56 =>
  (aLoad Try.prog h56 9 (.ptr i48 0 0 2) = some (.v (.string s54))) ∧ ((some (.v (.int .i64 ((ByteArray.size s53 : Nat) : Int))) : Option AV) = some (.v (.int .i64 ((ByteArray.size s53 : Nat) : Int)))) ∧ (aLoad Try.prog h56 9 (.ptr i48 0 0 2) = some (.v (.string s53))) ∧ appR Try.prog h56 112 112 v44 (.sl i55 0 0 1 none) (fun v57 h58 =>
  (aLoad Try.prog h58 9 (.ptr i48 0 0 2) = some (.v (.string s54))) ∧ ((some (.v (.int .i64 ((ByteArray.size s53 : Nat) : Int))) : Option AV) = some (.v (.int .i64 ((ByteArray.size s53 : Nat) : Int)))) ∧ (aLoad Try.prog h58 9 (.ptr i48 0 0 2) = some (.v (.string s53))) ∧ callR Try.prog G 45 [v57, (.v (.int .i64 ((ByteArray.size s53 : Nat) : Int)))] h58 (fun v59 h60 =>
  (aLoad Try.prog h60 9 (.ptr i48 0 0 2) = some (.v (.string s54))) ∧ appR Try.prog h60 112 9 v59 (.v (.string s54)) (fun v61 h62 =>
  okInt .i64 (aLen Try.prog h62 112 v61) fun n63 =>
  condB (decide (n63 > 262144))
  (RetR h K (.tup [(.v (.string (ByteArray.mk #[]))), (.v (.int .i64 2))]) h62)
  (nextR h5 I40 m42 [some a0, some (.v (.int .i64 n39))] [some a0, some (.v (.int .i64 n39))] [v61, (.v (.int .i64 (IntKind.wrap .i64 (n45 + 1))))] h62)))))
  (okInt .i64 (aLoad Try.prog h51 2 (.ptr i48 0 0 1)) fun n64 =>
  newO (.cells 5 1 [[(.v (.int .u8 78))]] 0) h51 fun i65 h66 =>
  (aLoad Try.prog h66 2 (.ptr i48 0 0 1) = some (.v (.int .i64 n64))) ∧ appR Try.prog h66 112 112 v44 (.sl i65 0 0 1 none) (fun v67 h68 =>
  (aLoad Try.prog h68 2 (.ptr i48 0 0 1) = some (.v (.int .i64 n64))) ∧ callR Try.prog G 45 [v67, (.v (.int .i64 n64))] h68 (fun v69 h70 =>
  okInt .i64 (aLen Try.prog h70 112 v69) fun n71 =>
  condB (decide (n71 > 262144))
  (RetR h K (.tup [(.v (.string (ByteArray.mk #[]))), (.v (.int .i64 2))]) h70)
  (nextR h5 I40 m42 [some a0, some (.v (.int .i64 n39))] [some a0, some (.v (.int .i64 n39))] [v69, (.v (.int .i64 (IntKind.wrap .i64 (n45 + 1))))] h70))))) 89 v47 (.ptr i48 0 0 0))
  (okStr (aConv Try.prog h43 112 9 v44) fun s72 =>
  RetR h K (.tup [(.v (.string s72)), (.v (.int .i64 0))]) h43)
def Try.r29_l4_2 (G : Nat → Option AV) (h : AH) (K : AV → AH → Prop) (a0 : AV) (n1 : Int) (n75 : Int) : Prop :=
  ∃ (I2 : Nat → List AV → AH → Prop) (m3 : Nat), I2 m3 [(.v (.int .i64 n75))] h ∧ ∀ (m4 : Nat) (h5 : AH), h.length ≤ h5.length → LowH h5.length h5 → ∀ (n6 : Int), I2 m4 [(.v (.int .i64 n6))] h5 →
  condB (decide (n6 < n1))
  (okV (aIA Try.prog h5 90 a0 (.v (.int .i64 n6))) fun v7 =>
  okV (aLoad Try.prog h5 89 v7) fun v8 =>
  newO (.cells 89 3 [[(.v (.bool false)), (.v (.int .i64 0)), (.v (.string (ByteArray.mk #[])))]] 0) h5 fun i9 h10 =>
  storeR Try.prog h10 (fun v11 h12 =>
  okBool (aLoad Try.prog h12 4 (.ptr i9 0 0 0)) fun b13 =>
  rGq b13 true (some (.ptr i9 0 0 1)) fun b14 v15 =>
  rGq b14 true (aLoad Try.prog h12 2 v15) fun b16 v17 =>
  rGq b16 true (aBin Try.prog .neq 2 v17 (.v (.int .i64 0))) fun b18 v19 =>
  okBool (pickR (some (.v (.bool b18))) (some v19) (some (.v (.bool false)))) fun b20 =>
  rGq b20 false (some (.ptr i9 0 0 0)) fun b21 v22 =>
  rGq b21 false (aLoad Try.prog h12 4 v22) fun b23 v24 =>
  rGq b23 false (aUn .not v24) fun b25 v26 =>
  rGq b25 false (some v26) fun b27 v28 =>
  okBool (some v28) fun b29 =>
  rGq b29 true (some (.ptr i9 0 0 2)) fun b30 v31 =>
  rGq b30 true (aLoad Try.prog h12 9 v31) fun b32 v33 =>
  rGq b32 true (aBin Try.prog .neq 9 v33 (.v (.string (ByteArray.mk #[])))) fun b34 v35 =>
  rGq b27 false (pickR (some (.v (.bool b34))) (some v35) (some (.v (.bool false)))) fun b36 v37 =>
  okBool (pickR (some (.v (.bool b36))) (some (.v (.bool true))) (some v37)) fun b38 =>
  condB b38
  (RetR h K (.tup [(.v (.string (ByteArray.mk #[]))), (.v (.int .i64 4))]) h12)
  (nextR h I2 m4 [some a0, some a0, some (.v (.int .i64 n1))] [some a0, some a0, some (.v (.int .i64 n1))] [(.v (.int .i64 (IntKind.wrap .i64 (n6 + 1))))] h12)) 89 v8 (.ptr i9 0 0 0))
  (okInt .i64 (aLen Try.prog h5 90 a0) fun n39 =>
  Try.r29_l11_40 K h G a0 h5 n39 (.v (.slice none 0 0)) 0)
def Try.r29 (G : Nat → Option AV) (a0 : AV) (h : AH) (K : AV → AH → Prop) : Prop :=
  okInt .i64 (aLen Try.prog h 90 a0) fun n0 =>
  condB (decide (n0 > 4096))
  (RetR h K (.tup [(.v (.string (ByteArray.mk #[]))), (.v (.int .i64 2))]) h)
  (okInt .i64 (aLen Try.prog h 90 a0) fun n1 =>
  Try.r29_l4_2 G h K a0 n1 0)
theorem Try.c29 (G : Nat → Option AV) (a0 : AV) (h : AH) (K : AV → AH → Prop) (hk : LowH h.length h → Try.r29 G a0 h K) : SCall Try.prog G 29 [a0] h K :=
  scall_of_rwp Try.tab29 [(4, [(14, (.int .i64))], [0, 12, 13]), (11, [(6, .any), (38, (.int .i64))], [36, 37])] Try.func29 rfl Try.ntmps29 (by kernel_rfl) (by show 1 ≤ 66; decide) (by kernel_rfl) (by kernel_rfl) hk
-- 31 skylark/code.Decode
def Try.r31_l5_7 (K : AV → AH → Prop) (h : AH) (G : Nat → Option AV) (a0 : AV) (i0 : Nat) (h1 : AH) (v39 : AV) (s40 : ByteArray) : Prop :=
  ∃ (I7 : Nat → List AV → AH → Prop) (m8 : Nat), I7 m8 [v39, (.v (.string s40))] h1 ∧ ∀ (m9 : Nat) (h10 : AH), h1.length ≤ h10.length → LowH h10.length h10 → ∀ (v11 : AV) (s12 : ByteArray), I7 m9 [v11, (.v (.string s12))] h10 →
  condB (!(ByteArray.toList s12 == ByteArray.toList (ByteArray.mk #[])))
  (okStr (some a0) fun s13 =>
  okInt .i64 (aLen Try.prog h10 90 v11) fun n14 =>
  condB (n14 == 4096)
  (storeR Try.prog h10 (fun v15 h16 =>
  okV (aLoad Try.prog h16 94 (.ptr i0 0 0 0)) fun v17 =>
  RetR h K (.tup [(.v (.slice none 0 0)), v17]) h16) 94 (.agg [(.v (.int .i64 (IntKind.wrap .i64 (((ByteArray.size s13 : Nat) : Int) - ((ByteArray.size s12 : Nat) : Int))))), (.v (.int .i64 2))]) (.ptr i0 0 0 0))
  (callR Try.prog G 47 [(.v (.string s12))] h10 (fun v18 h19 =>
  okV (extV 0 v18) fun v20 =>
  okStr (extV 1 v18) fun s21 =>
  okInt .i64 (extV 2 v18) fun n22 =>
  newO (.cells 89 3 [[(.v (.bool false)), (.v (.int .i64 0)), (.v (.string (ByteArray.mk #[])))]] 0) h19 fun i23 h24 =>
  storeR Try.prog h24 (fun v25 h26 =>
  condB (n22 != 0)
  (storeR Try.prog h26 (fun v27 h28 =>
  okV (aLoad Try.prog h28 94 (.ptr i0 0 0 0)) fun v29 =>
  RetR h K (.tup [(.v (.slice none 0 0)), v29]) h28) 94 (.agg [(.v (.int .i64 (IntKind.wrap .i64 (((ByteArray.size s13 : Nat) : Int) - ((ByteArray.size s12 : Nat) : Int))))), (.v (.int .i64 n22))]) (.ptr i0 0 0 0))
  (okV (aLoad Try.prog h26 89 (.ptr i23 0 0 0)) fun v30 =>
  okP (rowsFill 3 (List.replicate 1 [(.v (.bool false)), (.v (.int .i64 0)), (.v (.string (ByteArray.mk #[])))]) [(0, some v30)]) fun r31 => newO (.cells 89 3 r31 0) h26 fun i32 h33 =>
  appR Try.prog h33 90 90 v11 (.sl i32 0 0 1 none) (fun v34 h35 =>
  nextR h1 I7 m9 [some a0, some (.ptr i0 0 0 0)] [some a0, some (.ptr i0 0 0 0)] [v34, (.v (.string s21))] h35))) 89 v20 (.ptr i23 0 0 0))))
  (storeR Try.prog h10 (fun v36 h37 =>
  okV (aLoad Try.prog h37 94 (.ptr i0 0 0 0)) fun v38 =>
  RetR h K (.tup [v11, v38]) h37) 94 (.agg [(.v (.int .i64 0)), (.v (.int .i64 0))]) (.ptr i0 0 0 0))
def Try.r31 (G : Nat → Option AV) (a0 : AV) (h : AH) (K : AV → AH → Prop) : Prop :=
  newO (.cells 94 2 [[(.v (.int .i64 0)), (.v (.int .i64 0))]] 0) h fun i0 h1 =>
  okStr (some a0) fun s2 =>
  condB (decide (((ByteArray.size s2 : Nat) : Int) > 262144))
  (storeR Try.prog h1 (fun v3 h4 =>
  okV (aLoad Try.prog h4 94 (.ptr i0 0 0 0)) fun v5 =>
  RetR h K (.tup [(.v (.slice none 0 0)), v5]) h4) 94 (.agg [(.v (.int .i64 0)), (.v (.int .i64 2))]) (.ptr i0 0 0 0))
  (okStr (some a0) fun s6 =>
  Try.r31_l5_7 K h G a0 i0 h1 (.v (.slice none 0 0)) s6)
theorem Try.c31 (G : Nat → Option AV) (a0 : AV) (h : AH) (K : AV → AH → Prop) (hk : LowH h.length h → Try.r31 G a0 h K) : SCall Try.prog G 31 [a0] h K :=
  scall_of_rwp Try.tab31 [(5, [(4, .any), (5, .str)], [0, 3])] Try.func31 rfl Try.ntmps31 (by kernel_rfl) (by show 1 ≤ 45; decide) (by kernel_rfl) (by kernel_rfl) hk
-- 32 skylark/skylarkref01.Decode
def Try.r32_l5_8 (K : AV → AH → Prop) (h : AH) (G : Nat → Option AV) (a0 : AV) (i0 : Nat) (h1 : AH) (v45 : AV) (n46 : Int) : Prop :=
  ∃ (I8 : Nat → List AV → AH → Prop) (m9 : Nat), I8 m9 [v45, (.v (.int .i64 n46))] h1 ∧ ∀ (m10 : Nat) (h11 : AH), h1.length ≤ h11.length → LowH h11.length h11 → ∀ (v12 : AV) (n13 : Int), I8 m10 [v12, (.v (.int .i64 n13))] h11 →
  okStr (some a0) fun s14 =>
  condB (decide (n13 < ((ByteArray.size s14 : Nat) : Int)))
  (okInt .i64 (aLen Try.prog h11 90 v12) fun n15 =>
  condB (n15 == 4096)
  (callR Try.prog G 48 [(.v (.int .i64 n13)), (.v (.int .i64 2))] h11 (fun v16 h17 =>
  storeR Try.prog h17 (fun v18 h19 =>
  okV (aLoad Try.prog h19 94 (.ptr i0 0 0 0)) fun v20 =>
  RetR h K (.tup [(.v (.slice none 0 0)), v20]) h19) 94 v16 (.ptr i0 0 0 0)))
  (okStr (some a0) fun s21 =>
  callR Try.prog G 49 [(.v (.string s21)), (.v (.int .i64 n13))] h11 (fun v22 h23 =>
  okV (extV 0 v22) fun v24 =>
  okInt .i64 (extV 1 v22) fun n25 =>
  okInt .i64 (extV 2 v22) fun n26 =>
  newO (.cells 89 3 [[(.v (.bool false)), (.v (.int .i64 0)), (.v (.string (ByteArray.mk #[])))]] 0) h23 fun i27 h28 =>
  storeR Try.prog h28 (fun v29 h30 =>
  condB (n26 != 0)
  (callR Try.prog G 48 [(.v (.int .i64 n13)), (.v (.int .i64 n26))] h30 (fun v31 h32 =>
  storeR Try.prog h32 (fun v33 h34 =>
  okV (aLoad Try.prog h34 94 (.ptr i0 0 0 0)) fun v35 =>
  RetR h K (.tup [(.v (.slice none 0 0)), v35]) h34) 94 v31 (.ptr i0 0 0 0)))
  (okV (aLoad Try.prog h30 89 (.ptr i27 0 0 0)) fun v36 =>
  okP (rowsFill 3 (List.replicate 1 [(.v (.bool false)), (.v (.int .i64 0)), (.v (.string (ByteArray.mk #[])))]) [(0, some v36)]) fun r37 => newO (.cells 89 3 r37 0) h30 fun i38 h39 =>
  appR Try.prog h39 90 90 v12 (.sl i38 0 0 1 none) (fun v40 h41 =>
  nextR h1 I8 m10 [some a0, some (.ptr i0 0 0 0)] [some a0, some (.ptr i0 0 0 0)] [v40, (.v (.int .i64 n25))] h41))) 89 v24 (.ptr i27 0 0 0))))
  (storeR Try.prog h11 (fun v42 h43 =>
  okV (aLoad Try.prog h43 94 (.ptr i0 0 0 0)) fun v44 =>
  RetR h K (.tup [v12, v44]) h43) 94 (.agg [(.v (.int .i64 0)), (.v (.int .i64 0))]) (.ptr i0 0 0 0))
def Try.r32 (G : Nat → Option AV) (a0 : AV) (h : AH) (K : AV → AH → Prop) : Prop :=
  newO (.cells 94 2 [[(.v (.int .i64 0)), (.v (.int .i64 0))]] 0) h fun i0 h1 =>
  okStr (some a0) fun s2 =>
  condB (decide (((ByteArray.size s2 : Nat) : Int) > 262144))
  (callR Try.prog G 48 [(.v (.int .i64 0)), (.v (.int .i64 2))] h1 (fun v3 h4 =>
  storeR Try.prog h4 (fun v5 h6 =>
  okV (aLoad Try.prog h6 94 (.ptr i0 0 0 0)) fun v7 =>
  RetR h K (.tup [(.v (.slice none 0 0)), v7]) h6) 94 v3 (.ptr i0 0 0 0)))
  (Try.r32_l5_8 K h G a0 i0 h1 (.v (.slice none 0 0)) 0)
theorem Try.c32 (G : Nat → Option AV) (a0 : AV) (h : AH) (K : AV → AH → Prop) (hk : LowH h.length h → Try.r32 G a0 h K) : SCall Try.prog G 32 [a0] h K :=
  scall_of_rwp Try.tab32 [(5, [(4, .any), (5, (.int .i64))], [0, 3])] Try.func32 rfl Try.ntmps32 (by kernel_rfl) (by show 1 ≤ 41; decide) (by kernel_rfl) (by kernel_rfl) hk
-- 47 skylark/code.field
def Try.r47 (G : Nat → Option AV) (a0 : AV) (h : AH) (K : AV → AH → Prop) : Prop :=
  newO (.cells 89 3 [[(.v (.bool false)), (.v (.int .i64 0)), (.v (.string (ByteArray.mk #[])))]] 0) h fun i0 h1 =>
  okStr (some a0) fun s2 =>
  okInt .u8 (aIndex Try.prog 9 (.v (.string s2)) (.v (.int .i64 0))) fun n3 =>
  rGq (n3 != 78) true (some (.v (.int .u8 n3))) fun b4 v5 =>
  rGq b4 true (aBin Try.prog .neq 5 v5 (.v (.int .u8 84))) fun b6 v7 =>
  okBool (pickR (some (.v (.bool b6))) (some v7) (some (.v (.bool false)))) fun b8 =>
  condB b8
  (okV (aLoad Try.prog h1 89 (.ptr i0 0 0 0)) fun v9 =>
  storeR Try.prog h1 (fun v10 h11 =>
  okV (aLoad Try.prog h11 89 (.ptr i0 0 0 0)) fun v12 =>
  RetR h K (.tup [v12, (.v (.string (ByteArray.mk #[]))), (.v (.int .i64 3))]) h11) 89 v9 (.ptr i0 0 0 0))
  (okStr (some a0) fun s13 =>
  condB (decide (((ByteArray.size s13 : Nat) : Int) < 2))
  (okV (aLoad Try.prog h1 89 (.ptr i0 0 0 0)) fun v14 =>
  storeR Try.prog h1 (fun v15 h16 =>
  okV (aLoad Try.prog h16 89 (.ptr i0 0 0 0)) fun v17 =>
  RetR h K (.tup [v17, (.v (.string (ByteArray.mk #[]))), (.v (.int .i64 11))]) h16) 89 v14 (.ptr i0 0 0 0))
  (okStr (some a0) fun s18 =>
  okInt .u8 (aIndex Try.prog 9 (.v (.string s18)) (.v (.int .i64 1))) fun n19 =>
  okStr (some a0) fun s20 =>
  okStr (aSlice Try.prog h1 9 (.v (.string s20)) (some (some (.v (.int .i64 2)))) none none) fun s21 =>
  condB (decide ((IntKind.wrap .i64 n19) > 8))
  (okV (aLoad Try.prog h1 89 (.ptr i0 0 0 0)) fun v22 =>
  storeR Try.prog h1 (fun v23 h24 =>
  okV (aLoad Try.prog h24 89 (.ptr i0 0 0 0)) fun v25 =>
  RetR h K (.tup [v25, (.v (.string (ByteArray.mk #[]))), (.v (.int .i64 3))]) h24) 89 v22 (.ptr i0 0 0 0))
  (condB (decide (((ByteArray.size s21 : Nat) : Int) < (IntKind.wrap .i64 n19)))
  (okV (aLoad Try.prog h1 89 (.ptr i0 0 0 0)) fun v26 =>
  storeR Try.prog h1 (fun v27 h28 =>
  okV (aLoad Try.prog h28 89 (.ptr i0 0 0 0)) fun v29 =>
  RetR h K (.tup [v29, (.v (.string (ByteArray.mk #[]))), (.v (.int .i64 11))]) h28) 89 v26 (.ptr i0 0 0 0))
  (rGq (decide ((IntKind.wrap .i64 n19) > 0)) true (some (.v (.string s21))) fun b30 v31 =>
  rGq b30 true (some (.v (.int .i64 (IntKind.wrap .i64 n19)))) fun b32 v33 =>
  rGq b32 true (aBin Try.prog .sub 3 v33 (.v (.int .i64 1))) fun b34 v35 =>
  rGq b34 true (aIndex Try.prog 9 v31 v35) fun b36 v37 =>
  rGq b36 true (aBin Try.prog .eql 5 v37 (.v (.int .u8 0))) fun b38 v39 =>
  okBool (pickR (some (.v (.bool b38))) (some v39) (some (.v (.bool false)))) fun b40 =>
  condB b40
  (okV (aLoad Try.prog h1 89 (.ptr i0 0 0 0)) fun v41 =>
  storeR Try.prog h1 (fun v42 h43 =>
  okV (aLoad Try.prog h43 89 (.ptr i0 0 0 0)) fun v44 =>
  RetR h K (.tup [v44, (.v (.string (ByteArray.mk #[]))), (.v (.int .i64 3))]) h43) 89 v41 (.ptr i0 0 0 0))
  (okStr (aSlice Try.prog h1 9 (.v (.string s21)) none (some (some (.v (.int .i64 (IntKind.wrap .i64 n19))))) none) fun s45 =>
  callR Try.prog G 70 [(.v (.string s45))] h1 (fun v46 h47 =>
  okInt .u64 (some v46) fun n48 =>
  okStr (aSlice Try.prog h47 9 (.v (.string s21)) (some (some (.v (.int .i64 (IntKind.wrap .i64 n19))))) none none) fun s49 =>
  condB (n3 == 78)
  (storeR Try.prog h47 (fun v50 h51 =>
  okV (aLoad Try.prog h51 89 (.ptr i0 0 0 0)) fun v52 =>
  RetR h K (.tup [v52, (.v (.string s49)), (.v (.int .i64 0))]) h51) 89 (.agg [(.v (.bool false)), (.v (.int .i64 (IntKind.wrap .i64 n48))), (.v (.string (ByteArray.mk #[])))]) (.ptr i0 0 0 0))
  (rGq (decide ((IntKind.wrap .i64 n48) < 0)) false (some (.v (.int .i64 (IntKind.wrap .i64 n48)))) fun b53 v54 =>
  rGq b53 false (aBin Try.prog .gtr 2 v54 (.v (.int .i64 262144))) fun b55 v56 =>
  okBool (pickR (some (.v (.bool b55))) (some (.v (.bool true))) (some v56)) fun b57 =>
  condB b57
  (okV (aLoad Try.prog h47 89 (.ptr i0 0 0 0)) fun v58 =>
  storeR Try.prog h47 (fun v59 h60 =>
  okV (aLoad Try.prog h60 89 (.ptr i0 0 0 0)) fun v61 =>
  RetR h K (.tup [v61, (.v (.string (ByteArray.mk #[]))), (.v (.int .i64 3))]) h60) 89 v58 (.ptr i0 0 0 0))
  (condB (decide (((ByteArray.size s49 : Nat) : Int) < (IntKind.wrap .i64 n48)))
  (okV (aLoad Try.prog h47 89 (.ptr i0 0 0 0)) fun v62 =>
  storeR Try.prog h47 (fun v63 h64 =>
  okV (aLoad Try.prog h64 89 (.ptr i0 0 0 0)) fun v65 =>
  RetR h K (.tup [v65, (.v (.string (ByteArray.mk #[]))), (.v (.int .i64 11))]) h64) 89 v62 (.ptr i0 0 0 0))
  (okStr (aSlice Try.prog h47 9 (.v (.string s49)) none (some (some (.v (.int .i64 (IntKind.wrap .i64 n48))))) none) fun s66 =>
  okStr (aSlice Try.prog h47 9 (.v (.string s49)) (some (some (.v (.int .i64 (IntKind.wrap .i64 n48))))) none none) fun s67 =>
  storeR Try.prog h47 (fun v68 h69 =>
  (aSlice Try.prog h69 9 (.v (.string s49)) (some (some (.v (.int .i64 (IntKind.wrap .i64 n48))))) none none = some (.v (.string s67))) ∧ okV (aLoad Try.prog h69 89 (.ptr i0 0 0 0)) fun v70 =>
  RetR h K (.tup [v70, (.v (.string s67)), (.v (.int .i64 0))]) h69) 89 (.agg [(.v (.bool true)), (.v (.int .i64 0)), (.v (.string s66))]) (.ptr i0 0 0 0))))))))))
theorem Try.c47 (G : Nat → Option AV) (a0 : AV) (h : AH) (K : AV → AH → Prop) (hk : LowH h.length h → Try.r47 G a0 h K) : SCall Try.prog G 47 [a0] h K :=
  scall_of_rwp Try.tab47 [] Try.func47 rfl Try.ntmps47 (by kernel_rfl) (by show 1 ≤ 84; decide) (by kernel_rfl) (by kernel_rfl) hk
-- 48 skylark/skylarkref01.Fault
def Try.r48 (a0 a1 : AV) (h : AH) (K : AV → AH → Prop) : Prop :=
  newO (.cells 94 2 [[(.v (.int .i64 0)), (.v (.int .i64 0))]] 0) h fun i0 h1 =>
  okInt .i64 (some a0) fun n2 =>
  okInt .i64 (some a1) fun n3 =>
  storeR Try.prog h1 (fun v4 h5 =>
  okV (aLoad Try.prog h5 94 (.ptr i0 0 0 0)) fun v6 =>
  RetR h K v6 h5) 94 (.agg [(.v (.int .i64 n2)), (.v (.int .i64 n3))]) (.ptr i0 0 0 0)
theorem Try.c48 (G : Nat → Option AV) (a0 a1 : AV) (h : AH) (K : AV → AH → Prop) (hk : LowH h.length h → Try.r48 a0 a1 h K) : SCall Try.prog G 48 [a0, a1] h K :=
  scall_of_rwp Try.tab48 [] Try.func48 rfl Try.ntmps48 (by kernel_rfl) (by show 2 ≤ 8; decide) (by kernel_rfl) (by kernel_rfl) hk
-- 49 skylark/skylarkref01.field
def Try.r49 (G : Nat → Option AV) (a0 a1 : AV) (h : AH) (K : AV → AH → Prop) : Prop :=
  newO (.cells 89 3 [[(.v (.bool false)), (.v (.int .i64 0)), (.v (.string (ByteArray.mk #[])))]] 0) h fun i0 h1 =>
  okStr (some a0) fun s2 =>
  okInt .i64 (some a1) fun n3 =>
  okInt .u8 (aIndex Try.prog 9 (.v (.string s2)) (.v (.int .i64 n3))) fun n4 =>
  rGq (n4 != 78) true (some a0) fun b5 v6 =>
  rGq b5 true (some a1) fun b7 v8 =>
  rGq b7 true (aIndex Try.prog 9 v6 v8) fun b9 v10 =>
  rGq b9 true (aBin Try.prog .neq 5 v10 (.v (.int .u8 84))) fun b11 v12 =>
  okBool (pickR (some (.v (.bool b11))) (some v12) (some (.v (.bool false)))) fun b13 =>
  condB b13
  (storeR Try.prog h1 (fun v14 h15 =>
  okV (aLoad Try.prog h15 89 (.ptr i0 0 0 0)) fun v16 =>
  RetR h K (.tup [v16, (.v (.int .i64 0)), (.v (.int .i64 3))]) h15) 89 (.agg [(.v (.bool false)), (.v (.int .i64 0)), (.v (.string (ByteArray.mk #[])))]) (.ptr i0 0 0 0))
  (okStr (some a0) fun s17 =>
  okInt .i64 (some a1) fun n18 =>
  callR Try.prog G 71 [(.v (.string s17)), (.v (.int .i64 (IntKind.wrap .i64 (n18 + 1))))] h1 (fun v19 h20 =>
  okInt .i64 (extV 0 v19) fun n21 =>
  okInt .i64 (extV 1 v19) fun n22 =>
  okInt .i64 (extV 2 v19) fun n23 =>
  condB (n23 != 0)
  (storeR Try.prog h20 (fun v24 h25 =>
  okV (aLoad Try.prog h25 89 (.ptr i0 0 0 0)) fun v26 =>
  RetR h K (.tup [v26, (.v (.int .i64 0)), (.v (.int .i64 n23))]) h25) 89 (.agg [(.v (.bool false)), (.v (.int .i64 0)), (.v (.string (ByteArray.mk #[])))]) (.ptr i0 0 0 0))
  (okStr (some a0) fun s27 =>
  okInt .i64 (some a1) fun n28 =>
  okInt .u8 (aIndex Try.prog 9 (.v (.string s27)) (.v (.int .i64 n28))) fun n29 =>
  condB (n29 == 78)
  (storeR Try.prog h20 (fun v30 h31 =>
  okV (aLoad Try.prog h31 89 (.ptr i0 0 0 0)) fun v32 =>
  RetR h K (.tup [v32, (.v (.int .i64 n22)), (.v (.int .i64 0))]) h31) 89 (.agg [(.v (.bool false)), (.v (.int .i64 n21)), (.v (.string (ByteArray.mk #[])))]) (.ptr i0 0 0 0))
  (rGq (decide (n21 < 0)) false (some (.v (.int .i64 n21))) fun b33 v34 =>
  rGq b33 false (aBin Try.prog .gtr 2 v34 (.v (.int .i64 262144))) fun b35 v36 =>
  okBool (pickR (some (.v (.bool b35))) (some (.v (.bool true))) (some v36)) fun b37 =>
  condB b37
  (storeR Try.prog h20 (fun v38 h39 =>
  okV (aLoad Try.prog h39 89 (.ptr i0 0 0 0)) fun v40 =>
  RetR h K (.tup [v40, (.v (.int .i64 0)), (.v (.int .i64 3))]) h39) 89 (.agg [(.v (.bool false)), (.v (.int .i64 0)), (.v (.string (ByteArray.mk #[])))]) (.ptr i0 0 0 0))
  (okStr (some a0) fun s41 =>
  condB (decide ((IntKind.wrap .i64 (((ByteArray.size s41 : Nat) : Int) - n22)) < n21))
  (storeR Try.prog h20 (fun v42 h43 =>
  okV (aLoad Try.prog h43 89 (.ptr i0 0 0 0)) fun v44 =>
  RetR h K (.tup [v44, (.v (.int .i64 0)), (.v (.int .i64 11))]) h43) 89 (.agg [(.v (.bool false)), (.v (.int .i64 0)), (.v (.string (ByteArray.mk #[])))]) (.ptr i0 0 0 0))
  (okStr (some a0) fun s45 =>
  okStr (aSlice Try.prog h20 9 (.v (.string s45)) (some (some (.v (.int .i64 n22)))) (some (some (.v (.int .i64 (IntKind.wrap .i64 (n22 + n21)))))) none) fun s46 =>
  storeR Try.prog h20 (fun v47 h48 =>
  okV (aLoad Try.prog h48 89 (.ptr i0 0 0 0)) fun v49 =>
  RetR h K (.tup [v49, (.v (.int .i64 (IntKind.wrap .i64 (n22 + n21)))), (.v (.int .i64 0))]) h48) 89 (.agg [(.v (.bool true)), (.v (.int .i64 0)), (.v (.string s46))]) (.ptr i0 0 0 0)))))))
theorem Try.c49 (G : Nat → Option AV) (a0 a1 : AV) (h : AH) (K : AV → AH → Prop) (hk : LowH h.length h → Try.r49 G a0 a1 h K) : SCall Try.prog G 49 [a0, a1] h K :=
  scall_of_rwp Try.tab49 [] Try.func49 rfl Try.ntmps49 (by kernel_rfl) (by show 2 ≤ 64; decide) (by kernel_rfl) (by kernel_rfl) hk
-- 70 skylark/code.unlow[uint64]
def Try.r70_l2_1 (K : AV → AH → Prop) (h : AH) (a0 : AV) (n11 : Int) (n12 : Int) : Prop :=
  ∃ (I1 : Nat → List AV → AH → Prop) (m2 : Nat), I1 m2 [(.v (.int .u64 n11)), (.v (.int .i64 n12))] h ∧ ∀ (m3 : Nat) (h4 : AH), h.length ≤ h4.length → LowH h4.length h4 → ∀ (n5 : Int) (n6 : Int), I1 m3 [(.v (.int .u64 n5)), (.v (.int .i64 n6))] h4 →
  condB (decide (n6 ≥ 0))
  (okInt .u64 (aBin Try.prog .shl 24 (.v (.int .u64 n5)) (.v (.int .u64 8))) fun n7 =>
  okStr (some a0) fun s8 =>
  okInt .u8 (aIndex Try.prog 9 (.v (.string s8)) (.v (.int .i64 n6))) fun n9 =>
  okInt .u64 (aBin Try.prog .or 24 (.v (.int .u64 n7)) (.v (.int .u64 (IntKind.wrap .u64 n9)))) fun n10 =>
  nextR h I1 m3 [some a0] [some a0] [(.v (.int .u64 n10)), (.v (.int .i64 (IntKind.wrap .i64 (n6 - 1))))] h4)
  (RetR h K (.v (.int .u64 n5)) h4)
def Try.r70 (a0 : AV) (h : AH) (K : AV → AH → Prop) : Prop :=
  okStr (some a0) fun s0 =>
  Try.r70_l2_1 K h a0 0 (IntKind.wrap .i64 (((ByteArray.size s0 : Nat) : Int) - 1))
theorem Try.c70 (G : Nat → Option AV) (a0 : AV) (h : AH) (K : AV → AH → Prop) (hk : LowH h.length h → Try.r70 a0 h K) : SCall Try.prog G 70 [a0] h K :=
  scall_of_rwp Try.tab70 [(2, [(2, (.int .u64)), (3, (.int .i64))], [0])] Try.func70 rfl Try.ntmps70 (by kernel_rfl) (by show 1 ≤ 19; decide) (by kernel_rfl) (by kernel_rfl) hk
-- 71 skylark/skylarkref01.number
def Try.r71_l8_5 (K : AV → AH → Prop) (h : AH) (a0 : AV) (a1 : AV) (n4 : Int) (n30 : Int) (n31 : Int) : Prop :=
  ∃ (I5 : Nat → List AV → AH → Prop) (m6 : Nat), I5 m6 [(.v (.int .u64 n30)), (.v (.int .i64 n31))] h ∧ ∀ (m7 : Nat) (h8 : AH), h.length ≤ h8.length → LowH h8.length h8 → ∀ (n9 : Int) (n10 : Int), I5 m7 [(.v (.int .u64 n9)), (.v (.int .i64 n10))] h8 →
  condB (decide (n10 > 0))
  (okInt .i64 (some a1) fun n11 =>
  okStr (some a0) fun s12 =>
  condB (decide ((IntKind.wrap .i64 (n11 + n10)) ≥ ((ByteArray.size s12 : Nat) : Int)))
  (RetR h K (.tup [(.v (.int .i64 0)), (.v (.int .i64 0)), (.v (.int .i64 11))]) h8)
  (rGq (n10 == (IntKind.wrap .i64 n4)) true (some a0) fun b13 v14 =>
  rGq b13 true (some a1) fun b15 v16 =>
  rGq b15 true (some (.v (.int .i64 n10))) fun b17 v18 =>
  rGq b17 true (aBin Try.prog .add 3 v16 v18) fun b19 v20 =>
  rGq b19 true (aIndex Try.prog 9 v14 v20) fun b21 v22 =>
  rGq b21 true (aBin Try.prog .eql 5 v22 (.v (.int .u8 0))) fun b23 v24 =>
  okBool (pickR (some (.v (.bool b23))) (some v24) (some (.v (.bool false)))) fun b25 =>
  condB b25
  (RetR h K (.tup [(.v (.int .i64 0)), (.v (.int .i64 0)), (.v (.int .i64 3))]) h8)
  (okStr (some a0) fun s26 =>
  okInt .i64 (some a1) fun n27 =>
  okInt .u8 (aIndex Try.prog 9 (.v (.string s26)) (.v (.int .i64 (IntKind.wrap .i64 (n27 + n10))))) fun n28 =>
  nextR h I5 m7 [some a0, some a1, some (.v (.int .i64 (IntKind.wrap .i64 n4)))] [some a0, some a1, some (.v (.int .i64 (IntKind.wrap .i64 n4)))] [(.v (.int .u64 (IntKind.wrap .u64 ((IntKind.wrap .u64 (n9 * 256)) + (IntKind.wrap .u64 n28))))), (.v (.int .i64 (IntKind.wrap .i64 (n10 - 1))))] h8)))
  (okInt .i64 (some a1) fun n29 =>
  RetR h K (.tup [(.v (.int .i64 (IntKind.wrap .i64 n9))), (.v (.int .i64 (IntKind.wrap .i64 ((IntKind.wrap .i64 (n29 + 1)) + (IntKind.wrap .i64 n4))))), (.v (.int .i64 0))]) h8)
def Try.r71 (a0 a1 : AV) (h : AH) (K : AV → AH → Prop) : Prop :=
  okInt .i64 (some a1) fun n0 =>
  okStr (some a0) fun s1 =>
  condB (decide (n0 ≥ ((ByteArray.size s1 : Nat) : Int)))
  (RetR h K (.tup [(.v (.int .i64 0)), (.v (.int .i64 0)), (.v (.int .i64 11))]) h)
  (okStr (some a0) fun s2 =>
  okInt .i64 (some a1) fun n3 =>
  okInt .u8 (aIndex Try.prog 9 (.v (.string s2)) (.v (.int .i64 n3))) fun n4 =>
  condB (decide ((IntKind.wrap .i64 n4) > 8))
  (RetR h K (.tup [(.v (.int .i64 0)), (.v (.int .i64 0)), (.v (.int .i64 3))]) h)
  (Try.r71_l8_5 K h a0 a1 n4 0 (IntKind.wrap .i64 n4)))
theorem Try.c71 (G : Nat → Option AV) (a0 a1 : AV) (h : AH) (K : AV → AH → Prop) (hk : LowH h.length h → Try.r71 a0 a1 h K) : SCall Try.prog G 71 [a0, a1] h K :=
  scall_of_rwp Try.tab71 [(8, [(8, (.int .u64)), (9, (.int .i64))], [0, 1, 7])] Try.func71 rfl Try.ntmps71 (by kernel_rfl) (by show 2 ≤ 57; decide) (by kernel_rfl) (by kernel_rfl) hk
end Go.Proofs
