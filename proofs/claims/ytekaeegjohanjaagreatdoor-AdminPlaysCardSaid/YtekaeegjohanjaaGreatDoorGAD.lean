/-
  Of each function its body as a plain statement, and that a call follows from it: printed by wip/gen/Res.lean.
-/
import Derived.Test.YtekaeegjohanjaaGreatDoorGAC
import Derived.Test.YtekaeegjohanjaaGreatDoorAbH
import Derived.KernelRfl
set_option linter.all false
namespace Go.Proofs
open Go Go.Abs
set_option linter.unusedVariables false
set_option maxRecDepth 100000
-- 3 skylark/skylarklaw18.AdminPlays
def Tryz.r3_l6_31 (K : AV → AH → Prop) (h : AH) (G : Nat → Option AV) (a1 : AV) (a2 : AV) (v3 : AV) (v8 : AV) (h11 : AH) (n129 : Int) : Prop :=
  ∃ (I31 : Nat → List AV → AH → Prop) (m32 : Nat), I31 m32 [(.v (.int .i64 n129))] h11 ∧ ∀ (m33 : Nat) (h34 : AH), h11.length ≤ h34.length → LowH h34.length h34 → ∀ (n35 : Int), I31 m33 [(.v (.int .i64 n35))] h34 →
  okBool (aBin Tryz.prog .neq 23 v3 (.v (.pointer none))) fun b36 =>
  rGq b36 true (some (.v (.int .i64 n35))) fun b37 v38 =>
  rGq b37 true (some a1) fun b39 v40 =>
  rGq b39 true (aLen Tryz.prog h34 22 v40) fun b41 v42 =>
  rGq b41 true (aBin Tryz.prog .lss 3 v38 v42) fun b43 v44 =>
  okBool (pickR (some (.v (.bool b43))) (some v44) (some (.v (.bool false)))) fun b45 =>
  rGq b45 true (some (.v (.int .i64 n35))) fun b46 v47 =>
  rGq b46 true (aBin Tryz.prog .lss 3 v47 (.v (.int .i64 120))) fun b48 v49 =>
  okBool (pickR (some (.v (.bool b48))) (some v49) (some (.v (.bool false)))) fun b50 =>
  condB b50
  (okV (aIA Tryz.prog h34 22 a1 (.v (.int .i64 n35))) fun v51 =>
  okV (aLoad Tryz.prog h34 33 v51) fun v52 =>
  newO (.cells 33 6 [[(.v (.int .i64 0)), (.v (.int .i64 0)), (.v (.int .i64 0)), (.v (.int .i64 0)), (.v (.slice none 0 0)), (.v (.string (ByteArray.mk #[])))]] 0) h34 fun i53 h54 =>
  storeR Tryz.prog h54 (fun v55 h56 =>
  okV (aIA Tryz.prog h56 22 a1 (.v (.int .i64 n35))) fun v57 =>
  okV (aFA Tryz.prog 33 4 v57) fun v58 =>
  okV (aLoad Tryz.prog h56 31 v58) fun v59 =>
  callR Tryz.prog G 11 [v59] h56 (fun v60 h61 =>
  storeR Tryz.prog h61 (fun v62 h63 =>
  okV (aLoad Tryz.prog h63 33 (.ptr i53 0 0 0)) fun v64 =>
  okV (aIA Tryz.prog h63 22 a1 (.v (.int .i64 n35))) fun v65 =>
  okV (aLoad Tryz.prog h63 33 v65) fun v66 =>
  callR Tryz.prog G 12 [v3, v64] h63 (fun v67 h68 =>
  okInt .i64 (some v67) fun n69 =>
  (aLoad Tryz.prog h68 33 v65 = some v66) ∧ (aIA Tryz.prog h68 22 a1 (.v (.int .i64 n35)) = some v65) ∧ callR Tryz.prog G 13 [v8, v66] h68 (fun v70 h71 =>
  okInt .i64 (some v70) fun n72 =>
  rGq (n69 != n72) false (some (.ptr i53 0 0 4)) fun b73 v74 =>
  rGq b73 false (aLoad Tryz.prog h71 31 v74) fun b75 v76 =>
  rGq b75 false (some a1) fun b77 v78 =>
  rGq b77 false (some (.v (.int .i64 n35))) fun b79 v80 =>
  rGq b79 false (aIA Tryz.prog h71 22 v78 v80) fun b81 v82 =>
  rGq b81 false (aFA Tryz.prog 33 4 v82) fun b83 v84 =>
  rGq b83 false (aLoad Tryz.prog h71 31 v84) fun b85 v86 =>
  rGe b85 false (fun k87 => callR Tryz.prog G 14 [v76, v86] h71 (fun v88 h89 =>
  k87 v88 h89)) h71 fun b90 v91 h92 =>
  rGq b90 false (aUn .not v91) fun b93 v94 =>
  okBool (pickR (some (.v (.bool b93))) (some (.v (.bool true))) (some v94)) fun b95 =>
  condB b95
  (RetR h K (.v (.bool false)) h92)
  (okV (aLoad Tryz.prog h92 31 (.ptr i53 0 0 4)) fun v96 =>
  callR Tryz.prog G 15 [v96, (.v (.int .i64 (-7)))] h92 (fun v97 h98 =>
  okStr (some a2) fun s99 =>
  callR Tryz.prog G 16 [v3, (.v (.string s99))] h98 (fun v100 h101 =>
  okInt .i64 (extV 0 v100) fun n102 =>
  okInt .i64 (extV 1 v100) fun n103 =>
  okStr (some a2) fun s104 =>
  callR Tryz.prog G 17 [v8, (.v (.string s104))] h101 (fun v105 h106 =>
  okInt .i64 (extV 0 v105) fun n107 =>
  okInt .i64 (extV 1 v105) fun n108 =>
  callR Tryz.prog G 18 [v3, v8] h106 (fun v109 h110 =>
  okBool (some v109) fun b111 =>
  rGq (!b111) false (some (.v (.int .i64 n102))) fun b112 v113 =>
  rGq b112 false (some (.v (.int .i64 n107))) fun b114 v115 =>
  rGq b114 false (aBin Tryz.prog .neq 3 v113 v115) fun b116 v117 =>
  okBool (pickR (some (.v (.bool b116))) (some (.v (.bool true))) (some v117)) fun b118 =>
  rGq b118 false (some (.v (.int .i64 n103))) fun b119 v120 =>
  rGq b119 false (some (.v (.int .i64 n108))) fun b121 v122 =>
  rGq b121 false (aBin Tryz.prog .neq 24 v120 v122) fun b123 v124 =>
  okBool (pickR (some (.v (.bool b123))) (some (.v (.bool true))) (some v124)) fun b125 =>
  condB b125
  (RetR h K (.v (.bool false)) h110)
  (nextR h11 I31 m33 [some a1, some a2, some v3, some v8] [some a1, some a2, some v3, some v8] [(.v (.int .i64 (IntKind.wrap .i64 (n35 + 1))))] h110))))))))) 31 v60 (.ptr i53 0 0 4))) 33 v52 (.ptr i53 0 0 0))
  (callR Tryz.prog G 19 [] h34 (fun v126 h127 =>
  okBool (some v126) fun b128 =>
  RetR h K (.v (.bool b128)) h127))
def Tryz.r3 (G : Nat → Option AV) (a0 a1 a2 : AV) (h : AH) (K : AV → AH → Prop) : Prop :=
  okInt .i64 (some a0) fun n0 =>
  callR Tryz.prog G 8 [(.v (.int .i64 n0))] h (fun v1 h2 =>
  okV (extV 0 v1) fun v3 =>
  okInt .i64 (extV 1 v1) fun n4 =>
  okInt .i64 (some a0) fun n5 =>
  callR Tryz.prog G 9 [(.v (.int .i64 n5))] h2 (fun v6 h7 =>
  okV (extV 0 v6) fun v8 =>
  okInt .i64 (extV 1 v6) fun n9 =>
  callR Tryz.prog G 10 [] h7 (fun v10 h11 =>
  okBool (some v10) fun b12 =>
  rGq (!b12) false (some (.v (.int .i64 n4))) fun b13 v14 =>
  rGq b13 false (some (.v (.int .i64 n9))) fun b15 v16 =>
  rGq b15 false (aBin Tryz.prog .neq 24 v14 v16) fun b17 v18 =>
  okBool (pickR (some (.v (.bool b17))) (some (.v (.bool true))) (some v18)) fun b19 =>
  rGq b19 false (some v3) fun b20 v21 =>
  rGq b20 false (aBin Tryz.prog .eql 23 v21 (.v (.pointer none))) fun b22 v23 =>
  rGq b22 false (some v8) fun b24 v25 =>
  rGq b24 false (aBin Tryz.prog .eql 27 v25 (.v (.pointer none))) fun b26 v27 =>
  rGq b26 false (aBin Tryz.prog .neq 4 v23 v27) fun b28 v29 =>
  okBool (pickR (some (.v (.bool b28))) (some (.v (.bool true))) (some v29)) fun b30 =>
  condB b30
  (RetR h K (.v (.bool false)) h11)
  (Tryz.r3_l6_31 K h G a1 a2 v3 v8 h11 0))))
theorem Tryz.c3 (G : Nat → Option AV) (a0 a1 a2 : AV) (h : AH) (K : AV → AH → Prop) (hk : LowH h.length h → Tryz.r3 G a0 a1 a2 h K) : SCall Tryz.prog G 3 [a0, a1, a2] h K :=
  scall_of_rwp Tryz.tab3 [(6, [(11, (.int .i64))], [1, 2, 7, 9])] Tryz.func3 rfl Tryz.ntmps3 (by kernel_rfl) (by show 3 ≤ 117; decide) (by kernel_rfl) (by kernel_rfl) hk
-- 8 skylark/admin.New
def Tryz.r8 (G : Nat → Option AV) (a0 : AV) (h : AH) (K : AV → AH → Prop) : Prop :=
  okInt .i64 (some a0) fun n0 =>
  rGq (decide (n0 < 1)) false (some a0) fun b1 v2 =>
  rGq b1 false (aBin Tryz.prog .gtr 3 v2 (.v (.int .i64 16))) fun b3 v4 =>
  okBool (pickR (some (.v (.bool b3))) (some (.v (.bool true))) (some v4)) fun b5 =>
  condB b5
  (RetR h K (.tup [(.v (.pointer none)), (.v (.int .i64 1))]) h)
  (newO (.cells 101 2 [[(.v (.int .i64 0)), (.v (.int .i64 (-1)))]] 0) h fun i6 h7 =>
  okInt .i64 (some a0) fun n8 =>
  callR Tryz.prog G 45 [(.sl i6 0 0 1 none), (.v (.int .i64 n8))] h7 (fun v9 h10 =>
  okV (aBuild Tryz.prog 105 [(0, some v9)]) fun v11 =>
  onlyB (AV.one v11) (newO (.cells 105 (AV.cells v11).length [AV.cells v11] 0) h10 fun i12 h13 =>
  RetR h K (.tup [(.ptr i12 0 0 0), (.v (.int .i64 0))]) h13)))
theorem Tryz.c8 (G : Nat → Option AV) (a0 : AV) (h : AH) (K : AV → AH → Prop) (hk : LowH h.length h → Tryz.r8 G a0 h K) : SCall Tryz.prog G 8 [a0] h K :=
  scall_of_rwp Tryz.tab8 [] Tryz.func8 rfl Tryz.ntmps8 (by kernel_rfl) (by show 1 ≤ 16; decide) (by kernel_rfl) (by kernel_rfl) hk
-- 9 skylark/skylarkref18.New
def Tryz.r9_l5_8 (K : AV → AH → Prop) (h : AH) (a0 : AV) (i6 : Nat) (h7 : AH) (n21 : Int) : Prop :=
  ∃ (I8 : Nat → List AV → AH → Prop) (m9 : Nat), I8 m9 [(.v (.int .i64 n21))] h7 ∧ ∀ (m10 : Nat) (h11 : AH), h7.length ≤ h11.length → LowH h11.length h11 → ∀ (n12 : Int), I8 m10 [(.v (.int .i64 n12))] h11 →
  okInt .i64 (some a0) fun n13 =>
  condB (decide (n12 < n13))
  (okV (aLoad Tryz.prog h11 106 (.ptr i6 0 0 0)) fun v14 =>
  newO (.cells 110 2 [[(.v (.int .i64 0)), (.v (.int .i64 (-1)))]] 0) h11 fun i15 h16 =>
  appR Tryz.prog h16 106 106 v14 (.sl i15 0 0 1 none) (fun v17 h18 =>
  storeR Tryz.prog h18 (fun v19 h20 =>
  nextR h7 I8 m10 [some a0, some (.ptr i6 0 0 0)] [some a0, some (.ptr i6 0 0 0)] [(.v (.int .i64 (IntKind.wrap .i64 (n12 + 1))))] h20) 106 v17 (.ptr i6 0 0 0)))
  (RetR h K (.tup [(.ptr i6 0 0 0), (.v (.int .i64 0))]) h11)
def Tryz.r9 (a0 : AV) (h : AH) (K : AV → AH → Prop) : Prop :=
  okInt .i64 (some a0) fun n0 =>
  rGq (decide (n0 < 1)) false (some a0) fun b1 v2 =>
  rGq b1 false (aBin Tryz.prog .gtr 3 v2 (.v (.int .i64 16))) fun b3 v4 =>
  okBool (pickR (some (.v (.bool b3))) (some (.v (.bool true))) (some v4)) fun b5 =>
  condB b5
  (RetR h K (.tup [(.v (.pointer none)), (.v (.int .i64 1))]) h)
  (newO (.cells 108 11 [[(.v (.slice none 0 0)), (.v (.slice none 0 0)), (.v (.int .i64 0)), (.v (.slice none 0 0)), (.v (.bool false)), (.v (.int .i64 0)), (.v (.slice none 0 0)), (.v (.int .i64 0)), (.v (.slice none 0 0)), (.v (.string (ByteArray.mk #[]))), (.v (.bool false))]] 0) h fun i6 h7 =>
  Tryz.r9_l5_8 K h a0 i6 h7 0)
theorem Tryz.c9 (G : Nat → Option AV) (a0 : AV) (h : AH) (K : AV → AH → Prop) (hk : LowH h.length h → Tryz.r9 a0 h K) : SCall Tryz.prog G 9 [a0] h K :=
  scall_of_rwp Tryz.tab9 [(5, [(5, (.int .i64))], [0, 4])] Tryz.func9 rfl Tryz.ntmps9 (by kernel_rfl) (by show 1 ≤ 30; decide) (by kernel_rfl) (by kernel_rfl) hk
-- 10 skylark/skylarklaw18.names
def Tryz.r10 (h : AH) (K : AV → AH → Prop) : Prop :=
  RetR h K (.v (.bool true)) h
theorem Tryz.c10 (G : Nat → Option AV) (h : AH) (K : AV → AH → Prop) (hk : LowH h.length h → Tryz.r10 h K) : SCall Tryz.prog G 10 [] h K :=
  scall_of_rwp Tryz.tab10 [] Tryz.func10 rfl Tryz.ntmps10 (by kernel_rfl) (by show 0 ≤ 1; decide) (by kernel_rfl) (by kernel_rfl) hk
-- 11 skylark/skylarkbook.LendInts
def Tryz.r11 (a0 : AV) (h : AH) (K : AV → AH → Prop) : Prop :=
  newO (.cells 3 1 [] 0) h fun i0 h1 =>
  appR Tryz.prog h1 31 31 (.sl i0 0 0 0 none) a0 (fun v2 h3 =>
  newO (.cells 3 1 [[(.v (.int .i64 (-77)))]] 0) h3 fun i4 h5 =>
  appR Tryz.prog h5 31 31 v2 (.sl i4 0 0 1 none) (fun v6 h7 =>
  okInt .i64 (aLen Tryz.prog h7 31 a0) fun n8 =>
  okV (aSlice Tryz.prog h7 31 v6 none (some (some (.v (.int .i64 n8)))) none) fun v9 =>
  RetR h K v9 h7))
theorem Tryz.c11 (G : Nat → Option AV) (a0 : AV) (h : AH) (K : AV → AH → Prop) (hk : LowH h.length h → Tryz.r11 a0 h K) : SCall Tryz.prog G 11 [a0] h K :=
  scall_of_rwp Tryz.tab11 [] Tryz.func11 rfl Tryz.ntmps11 (by kernel_rfl) (by show 1 ≤ 14; decide) (by kernel_rfl) (by kernel_rfl) hk
-- 12 (*skylark/admin.Admin).Do
def Tryz.r12 (G : Nat → Option AV) (a0 a1 : AV) (h : AH) (K : AV → AH → Prop) : Prop :=
  onlyB (AV.one a1) (newO (.cells 33 (AV.cells a1).length [AV.cells a1] 0) h fun i0 h1 =>
  callR Tryz.prog G 46 [] h1 (fun v2 h3 =>
  okInt .i64 (aLoad Tryz.prog h3 3 (.ptr i0 0 0 0)) fun n4 =>
  rGq (decide (n4 < 1)) false (some (.ptr i0 0 0 0)) fun b5 v6 =>
  rGq b5 false (aLoad Tryz.prog h3 3 v6) fun b7 v8 =>
  rGq b7 false (some v2) fun b9 v10 =>
  rGq b9 false (aLen Tryz.prog h3 111 v10) fun b11 v12 =>
  rGq b11 false (aBin Tryz.prog .gtr 3 v8 v12) fun b13 v14 =>
  okBool (pickR (some (.v (.bool b13))) (some (.v (.bool true))) (some v14)) fun b15 =>
  rGq b15 false (some v2) fun b16 v17 =>
  rGq b16 false (some (.ptr i0 0 0 0)) fun b18 v19 =>
  rGq b18 false (aLoad Tryz.prog h3 3 v19) fun b20 v21 =>
  rGq b20 false (aBin Tryz.prog .sub 3 v21 (.v (.int .i64 1))) fun b22 v23 =>
  rGq b22 false (aIA Tryz.prog h3 111 v17 v23) fun b24 v25 =>
  rGq b24 false (aLoad Tryz.prog h3 115 v25) fun b26 v27 =>
  rGq b26 false (aLoad Tryz.prog h3 33 (.ptr i0 0 0 0)) fun b28 v29 =>
  rGe b28 false (fun k30 => callR Tryz.prog G 47 [v27, v29] h3 (fun v31 h32 =>
  k30 v31 h32)) h3 fun b33 v34 h35 =>
  rGq b33 false (aUn .not v34) fun b36 v37 =>
  okBool (pickR (some (.v (.bool b36))) (some (.v (.bool true))) (some v37)) fun b38 =>
  condB b38
  (RetR h K (.v (.int .i64 80)) h35)
  (okInt .i64 (aLoad Tryz.prog h35 3 (.ptr i0 0 0 0)) fun n39 =>
  okV (aIA Tryz.prog h35 111 v2 (.v (.int .i64 (IntKind.wrap .i64 (n39 - 1))))) fun v40 =>
  okV (aFA Tryz.prog 115 5 v40) fun v41 =>
  okV (aLoad Tryz.prog h35 113 v41) fun v42 =>
  okV (aLoad Tryz.prog h35 33 (.ptr i0 0 0 0)) fun v43 =>
  callU Tryz.prog G h35 (fun v44 h45 =>
  okInt .i64 (some v44) fun n46 =>
  RetR h K (.v (.int .i64 n46)) h45) [a0, v43] v42)))
theorem Tryz.c12 (G : Nat → Option AV) (a0 a1 : AV) (h : AH) (K : AV → AH → Prop) (hk : LowH h.length h → Tryz.r12 G a0 a1 h K) : SCall Tryz.prog G 12 [a0, a1] h K :=
  scall_of_rwp Tryz.tab12 [] Tryz.func12 rfl Tryz.ntmps12 (by kernel_rfl) (by show 2 ≤ 38; decide) (by kernel_rfl) (by kernel_rfl) hk
-- 13 (*skylark/skylarkref18.Admin).Do
def Tryz.r13 (G : Nat → Option AV) (a0 a1 : AV) (h : AH) (K : AV → AH → Prop) : Prop :=
  onlyB (AV.one a1) (newO (.cells 33 (AV.cells a1).length [AV.cells a1] 0) h fun i0 h1 =>
  okV (aLoad Tryz.prog h1 33 (.ptr i0 0 0 0)) fun v2 =>
  callR Tryz.prog G 48 [v2] h1 (fun v3 h4 =>
  okBool (some v3) fun b5 =>
  condB (!b5)
  (RetR h K (.v (.int .i64 80)) h4)
  (okInt .i64 (aLoad Tryz.prog h4 3 (.ptr i0 0 0 0)) fun n6 =>
  condB (n6 == 1)
  (okV (aLoad Tryz.prog h4 31 (.ptr i0 0 0 4)) fun v7 =>
  callR Tryz.prog G 49 [a0, v7] h4 (fun v8 h9 =>
  okInt .i64 (some v8) fun n10 =>
  RetR h K (.v (.int .i64 n10)) h9))
  (okInt .i64 (aLoad Tryz.prog h4 3 (.ptr i0 0 0 0)) fun n11 =>
  condB (decide (n11 ≥ 7))
  (okV (aLoad Tryz.prog h4 33 (.ptr i0 0 0 0)) fun v12 =>
  callR Tryz.prog G 50 [a0, v12] h4 (fun v13 h14 =>
  okInt .i64 (some v13) fun n15 =>
  RetR h K (.v (.int .i64 n15)) h14))
  (okV (aLoad Tryz.prog h4 33 (.ptr i0 0 0 0)) fun v16 =>
  callR Tryz.prog G 51 [a0, v16] h4 (fun v17 h18 =>
  okInt .i64 (some v17) fun n19 =>
  RetR h K (.v (.int .i64 n19)) h18))))))
theorem Tryz.c13 (G : Nat → Option AV) (a0 a1 : AV) (h : AH) (K : AV → AH → Prop) (hk : LowH h.length h → Tryz.r13 G a0 a1 h K) : SCall Tryz.prog G 13 [a0, a1] h K :=
  scall_of_rwp Tryz.tab13 [] Tryz.func13 rfl Tryz.ntmps13 (by kernel_rfl) (by show 2 ≤ 24; decide) (by kernel_rfl) (by kernel_rfl) hk
-- 14 skylark/skylarkbook.KeptInts
def Tryz.r14 (G : Nat → Option AV) (a0 a1 : AV) (h : AH) (K : AV → AH → Prop) : Prop :=
  callR Tryz.prog G 52 [a0, a1] h (fun v0 h1 =>
  okBool (some v0) fun b2 =>
  rGq b2 true (some a0) fun b3 v4 =>
  rGq b3 true (some a1) fun b5 v6 =>
  rGq b5 true (aLen Tryz.prog h1 31 v6) fun b7 v8 =>
  rGq b7 true (aBin Tryz.prog .add 3 v8 (.v (.int .i64 1))) fun b9 v10 =>
  rGq b9 true (aSlice Tryz.prog h1 31 v4 none (some (some v10)) none) fun b11 v12 =>
  rGq b11 true (some a1) fun b13 v14 =>
  rGq b13 true (aLen Tryz.prog h1 31 v14) fun b15 v16 =>
  rGq b15 true (aIA Tryz.prog h1 31 v12 v16) fun b17 v18 =>
  rGq b17 true (aLoad Tryz.prog h1 3 v18) fun b19 v20 =>
  rGq b19 true (aBin Tryz.prog .eql 3 v20 (.v (.int .i64 (-77)))) fun b21 v22 =>
  okBool (pickR (some (.v (.bool b21))) (some v22) (some (.v (.bool false)))) fun b23 =>
  RetR h K (.v (.bool b23)) h1)
theorem Tryz.c14 (G : Nat → Option AV) (a0 a1 : AV) (h : AH) (K : AV → AH → Prop) (hk : LowH h.length h → Tryz.r14 G a0 a1 h K) : SCall Tryz.prog G 14 [a0, a1] h K :=
  scall_of_rwp Tryz.tab14 [] Tryz.func14 rfl Tryz.ntmps14 (by kernel_rfl) (by show 2 ≤ 20; decide) (by kernel_rfl) (by kernel_rfl) hk
-- 15 skylark/skylarkbook.SpoilInts
def Tryz.r15_l2_4 (K : AV → AH → Prop) (h : AH) (a1 : AV) (h1 : AH) (v3 : AV) (n14 : Int) : Prop :=
  ∃ (I4 : Nat → List AV → AH → Prop) (m5 : Nat), I4 m5 [(.v (.int .i64 n14))] h1 ∧ ∀ (m6 : Nat) (h7 : AH), h1.length ≤ h7.length → LowH h7.length h7 → ∀ (n8 : Int), I4 m6 [(.v (.int .i64 n8))] h7 →
  okInt .i64 (aLen Tryz.prog h7 31 v3) fun n9 =>
  condB (decide (n8 < n9))
  (okInt .i64 (some a1) fun n10 =>
  okV (aIA Tryz.prog h7 31 v3 (.v (.int .i64 n8))) fun v11 =>
  storeR Tryz.prog h7 (fun v12 h13 =>
  nextR h1 I4 m6 [some v3, some a1] [some v3, some a1] [(.v (.int .i64 (IntKind.wrap .i64 (n8 + 1))))] h13) 3 (.v (.int .i64 n10)) v11)
  (RetR h K (.tup []) h7)
def Tryz.r15 (a0 a1 : AV) (h : AH) (K : AV → AH → Prop) : Prop :=
  capR Tryz.prog h 31 a0 (fun v0 h1 =>
  okInt .i64 (some v0) fun n2 =>
  okV (aSlice Tryz.prog h1 31 a0 none (some (some (.v (.int .i64 n2)))) none) fun v3 =>
  Tryz.r15_l2_4 K h a1 h1 v3 0)
theorem Tryz.c15 (G : Nat → Option AV) (a0 a1 : AV) (h : AH) (K : AV → AH → Prop) (hk : LowH h.length h → Tryz.r15 a0 a1 h K) : SCall Tryz.prog G 15 [a0, a1] h K :=
  scall_of_rwp Tryz.tab15 [(2, [(4, (.int .i64))], [0, 1])] Tryz.func15 rfl Tryz.ntmps15 (by kernel_rfl) (by show 2 ≤ 19; decide) (by kernel_rfl) (by kernel_rfl) hk
-- 16 (*skylark/admin.Admin).Owner
def Tryz.r16 (G : Nat → Option AV) (a0 a1 : AV) (h : AH) (K : AV → AH → Prop) : Prop :=
  okV (aNil a0) fun v0 =>
  okV (aFA Tryz.prog 105 2 v0) fun v1 =>
  okV (aFA Tryz.prog 43 0 v1) fun v2 =>
  okInt .i64 (aLoad Tryz.prog h 3 v2) fun n3 =>
  condB (n3 == 0)
  (RetR h K (.tup [(.v (.int .i64 0)), (.v (.int .i64 180))]) h)
  (okV (aNil a0) fun v4 =>
  okV (aFA Tryz.prog 105 3 v4) fun v5 =>
  okV (aLoad Tryz.prog h 103 v5) fun v6 =>
  okBool (aBin Tryz.prog .neq 103 v6 (.v (.pointer none))) fun b7 =>
  condB b7
  (okV (aNil a0) fun v8 =>
  okV (aFA Tryz.prog 105 3 v8) fun v9 =>
  okV (aLoad Tryz.prog h 103 v9) fun v10 =>
  okV (aNil v10) fun v11 =>
  okV (aLoad Tryz.prog h 49 v11) fun v12 =>
  okStr (some a1) fun s13 =>
  callR Tryz.prog G 53 [v12, (.v (.string s13))] h (fun v14 h15 =>
  okInt .i64 (extV 0 v14) fun n16 =>
  okInt .i64 (extV 1 v14) fun n17 =>
  RetR h K (.tup [(.v (.int .i64 n16)), (.v (.int .i64 n17))]) h15))
  (okV (aNil a0) fun v18 =>
  okV (aFA Tryz.prog 105 2 v18) fun v19 =>
  okV (aFA Tryz.prog 43 1 v19) fun v20 =>
  okV (aLoad Tryz.prog h 31 v20) fun v21 =>
  okStr (some a1) fun s22 =>
  callR Tryz.prog G 54 [v21, (.v (.string s22))] h (fun v23 h24 =>
  okInt .i64 (extV 0 v23) fun n25 =>
  okInt .i64 (extV 1 v23) fun n26 =>
  RetR h K (.tup [(.v (.int .i64 n25)), (.v (.int .i64 n26))]) h24)))
theorem Tryz.c16 (G : Nat → Option AV) (a0 a1 : AV) (h : AH) (K : AV → AH → Prop) (hk : LowH h.length h → Tryz.r16 G a0 a1 h K) : SCall Tryz.prog G 16 [a0, a1] h K :=
  scall_of_rwp Tryz.tab16 [] Tryz.func16 rfl Tryz.ntmps16 (by kernel_rfl) (by show 2 ≤ 38; decide) (by kernel_rfl) (by kernel_rfl) hk
-- 17 (*skylark/skylarkref18.Admin).Owner
def Tryz.r17 (G : Nat → Option AV) (a0 a1 : AV) (h : AH) (K : AV → AH → Prop) : Prop :=
  okV (aNil a0) fun v0 =>
  okV (aFA Tryz.prog 108 2 v0) fun v1 =>
  okV (aFA Tryz.prog 43 0 v1) fun v2 =>
  okInt .i64 (aLoad Tryz.prog h 3 v2) fun n3 =>
  condB (n3 == 0)
  (RetR h K (.tup [(.v (.int .i64 0)), (.v (.int .i64 180))]) h)
  (okV (aNil a0) fun v4 =>
  okV (aFA Tryz.prog 108 3 v4) fun v5 =>
  okBool (aLoad Tryz.prog h 4 v5) fun b6 =>
  condB b6
  (okV (aNil a0) fun v7 =>
  okV (aFA Tryz.prog 108 4 v7) fun v8 =>
  okV (aLoad Tryz.prog h 68 v8) fun v9 =>
  okStr (some a1) fun s10 =>
  callR Tryz.prog G 55 [v9, (.v (.string s10))] h (fun v11 h12 =>
  okInt .i64 (extV 0 v11) fun n13 =>
  okInt .i64 (extV 1 v11) fun n14 =>
  RetR h K (.tup [(.v (.int .i64 n13)), (.v (.int .i64 n14))]) h12))
  (okV (aNil a0) fun v15 =>
  okV (aFA Tryz.prog 108 2 v15) fun v16 =>
  okV (aFA Tryz.prog 43 1 v16) fun v17 =>
  okV (aLoad Tryz.prog h 31 v17) fun v18 =>
  okStr (some a1) fun s19 =>
  callR Tryz.prog G 56 [v18, (.v (.string s19))] h (fun v20 h21 =>
  okInt .i64 (extV 0 v20) fun n22 =>
  okInt .i64 (extV 1 v20) fun n23 =>
  RetR h K (.tup [(.v (.int .i64 n22)), (.v (.int .i64 n23))]) h21)))
theorem Tryz.c17 (G : Nat → Option AV) (a0 a1 : AV) (h : AH) (K : AV → AH → Prop) (hk : LowH h.length h → Tryz.r17 G a0 a1 h K) : SCall Tryz.prog G 17 [a0, a1] h K :=
  scall_of_rwp Tryz.tab17 [] Tryz.func17 rfl Tryz.ntmps17 (by kernel_rfl) (by show 2 ≤ 33; decide) (by kernel_rfl) (by kernel_rfl) hk
-- 18 skylark/skylarklaw18.same
def Tryz.r18_l12_102 (K : AV → AH → Prop) (h : AH) (G : Nat → Option AV) (a0 : AV) (a1 : AV) (h10 : AH) (n318 : Int) : Prop :=
  ∃ (I102 : Nat → List AV → AH → Prop) (m103 : Nat), I102 m103 [(.v (.int .i64 n318))] h10 ∧ ∀ (m104 : Nat) (h105 : AH), h10.length ≤ h105.length → LowH h105.length h105 → ∀ (n106 : Int), I102 m104 [(.v (.int .i64 n106))] h105 →
  okV (aNil a1) fun v107 =>
  okV (aFA Tryz.prog 108 0 v107) fun v108 =>
  okV (aLoad Tryz.prog h105 106 v108) fun v109 =>
  okInt .i64 (aLen Tryz.prog h105 106 v109) fun n110 =>
  condB (decide (n106 ≤ n110))
  (callR Tryz.prog G 58 [a0, (.v (.int .i64 n106))] h105 (fun v111 h112 =>
  okInt .i64 (extV 0 v111) fun n113 =>
  okInt .i64 (extV 1 v111) fun n114 =>
  okInt .i64 (extV 2 v111) fun n115 =>
  rGq (decide (n106 < 0)) false (some (.v (.int .i64 n106))) fun b116 v117 =>
  rGq b116 false (some a1) fun b118 v119 =>
  rGq b118 false (aNil v119) fun b120 v121 =>
  rGq b120 false (aFA Tryz.prog 108 0 v121) fun b122 v123 =>
  rGq b122 false (aLoad Tryz.prog h112 106 v123) fun b124 v125 =>
  rGq b124 false (aLen Tryz.prog h112 106 v125) fun b126 v127 =>
  rGq b126 false (aBin Tryz.prog .geq 3 v117 v127) fun b128 v129 =>
  okBool (pickR (some (.v (.bool b128))) (some (.v (.bool true))) (some v129)) fun b130 =>
  condB b130
  (rGq (n115 != 1) false (some (.v (.int .i64 n113))) fun b131 v132 =>
  rGq b131 false (aBin Tryz.prog .neq 3 v132 (.v (.int .i64 0))) fun b133 v134 =>
  okBool (pickR (some (.v (.bool b133))) (some (.v (.bool true))) (some v134)) fun b135 =>
  rGq b135 false (some (.v (.int .i64 n114))) fun b136 v137 =>
  rGq b136 false (aBin Tryz.prog .neq 3 v137 (.v (.int .i64 0))) fun b138 v139 =>
  okBool (pickR (some (.v (.bool b138))) (some (.v (.bool true))) (some v139)) fun b140 =>
  condB b140
  (RetR h K (.v (.bool false)) h112)
  (nextR h10 I102 m104 [some a0, some a1] [some a0, some a1] [(.v (.int .i64 (IntKind.wrap .i64 (n106 + 1))))] h112))
  (rGq (n115 != 0) false (some (.v (.int .i64 n113))) fun b141 v142 =>
  rGq b141 false (some a1) fun b143 v144 =>
  rGq b143 false (aNil v144) fun b145 v146 =>
  rGq b145 false (aFA Tryz.prog 108 0 v146) fun b147 v148 =>
  rGq b147 false (aLoad Tryz.prog h112 106 v148) fun b149 v150 =>
  rGq b149 false (some (.v (.int .i64 n106))) fun b151 v152 =>
  rGq b151 false (aIA Tryz.prog h112 106 v150 v152) fun b153 v154 =>
  rGq b153 false (aFA Tryz.prog 110 0 v154) fun b155 v156 =>
  rGq b155 false (aLoad Tryz.prog h112 3 v156) fun b157 v158 =>
  rGq b157 false (aBin Tryz.prog .neq 3 v142 v158) fun b159 v160 =>
  okBool (pickR (some (.v (.bool b159))) (some (.v (.bool true))) (some v160)) fun b161 =>
  rGq b161 false (some (.v (.int .i64 n114))) fun b162 v163 =>
  rGq b162 false (some a1) fun b164 v165 =>
  rGq b164 false (aNil v165) fun b166 v167 =>
  rGq b166 false (aFA Tryz.prog 108 0 v167) fun b168 v169 =>
  rGq b168 false (aLoad Tryz.prog h112 106 v169) fun b170 v171 =>
  rGq b170 false (some (.v (.int .i64 n106))) fun b172 v173 =>
  rGq b172 false (aIA Tryz.prog h112 106 v171 v173) fun b174 v175 =>
  rGq b174 false (aFA Tryz.prog 110 1 v175) fun b176 v177 =>
  rGq b176 false (aLoad Tryz.prog h112 3 v177) fun b178 v179 =>
  rGq b178 false (aBin Tryz.prog .neq 3 v163 v179) fun b180 v181 =>
  okBool (pickR (some (.v (.bool b180))) (some (.v (.bool true))) (some v181)) fun b182 =>
  condB b182
  (RetR h K (.v (.bool false)) h112)
  (nextR h10 I102 m104 [some a0, some a1] [some a0, some a1] [(.v (.int .i64 (IntKind.wrap .i64 (n106 + 1))))] h112))))
  (callR Tryz.prog G 59 [a0] h105 (fun v183 h184 =>
  okV (extV 0 v183) fun v185 =>
  okBool (extV 1 v183) fun b186 =>
  newO (.cells 43 2 [[(.v (.int .i64 0)), (.v (.slice none 0 0))]] 0) h184 fun i187 h188 =>
  storeR Tryz.prog h188 (fun v189 h190 =>
  callR Tryz.prog G 60 [a0] h190 (fun v191 h192 =>
  okV (extV 0 v191) fun v193 =>
  okBool (extV 1 v191) fun b194 =>
  newO (.cells 49 6 [[(.v (.int .i64 0)), (.v (.slice none 0 0)), (.v (.int .i64 0)), (.v (.slice none 0 0)), (.v (.string (ByteArray.mk #[]))), (.v (.bool false))]] 0) h192 fun i195 h196 =>
  storeR Tryz.prog h196 (fun v197 h198 =>
  okV (aLoad Tryz.prog h198 43 (.ptr i187 0 0 0)) fun v199 =>
  okV (aNil a1) fun v200 =>
  okV (aFA Tryz.prog 108 2 v200) fun v201 =>
  okV (aLoad Tryz.prog h198 43 v201) fun v202 =>
  callR Tryz.prog G 61 [v199, v202] h198 (fun v203 h204 =>
  okBool (some v203) fun b205 =>
  rGq b205 true (some (.v (.bool b186))) fun b206 v207 =>
  rGq b206 true (some a1) fun b208 v209 =>
  rGq b208 true (aNil v209) fun b210 v211 =>
  rGq b210 true (aFA Tryz.prog 108 2 v211) fun b212 v213 =>
  rGq b212 true (aFA Tryz.prog 43 0 v213) fun b214 v215 =>
  rGq b214 true (aLoad Tryz.prog h204 3 v215) fun b216 v217 =>
  rGq b216 true (aBin Tryz.prog .gtr 3 v217 (.v (.int .i64 0))) fun b218 v219 =>
  rGq b218 true (aBin Tryz.prog .eql 4 v207 v219) fun b220 v221 =>
  okBool (pickR (some (.v (.bool b220))) (some v221) (some (.v (.bool false)))) fun b222 =>
  rGq b222 true (some (.v (.bool b194))) fun b223 v224 =>
  rGq b223 true (some a1) fun b225 v226 =>
  rGq b225 true (aNil v226) fun b227 v228 =>
  rGq b227 true (aFA Tryz.prog 108 3 v228) fun b229 v230 =>
  rGq b229 true (aLoad Tryz.prog h204 4 v230) fun b231 v232 =>
  rGq b231 true (aBin Tryz.prog .eql 4 v224 v232) fun b233 v234 =>
  okBool (pickR (some (.v (.bool b233))) (some v234) (some (.v (.bool false)))) fun b235 =>
  rGq b235 true (some (.ptr i195 0 0 0)) fun b236 v237 =>
  rGq b236 true (aLoad Tryz.prog h204 43 v237) fun b238 v239 =>
  rGq b238 true (some a1) fun b240 v241 =>
  rGq b240 true (aNil v241) fun b242 v243 =>
  rGq b242 true (aFA Tryz.prog 108 4 v243) fun b244 v245 =>
  rGq b244 true (aFA Tryz.prog 68 0 v245) fun b246 v247 =>
  rGq b246 true (aLoad Tryz.prog h204 43 v247) fun b248 v249 =>
  rGe b248 true (fun k250 => callR Tryz.prog G 61 [v239, v249] h204 (fun v251 h252 =>
  k250 v251 h252)) h204 fun b253 v254 h255 =>
  okBool (pickR (some (.v (.bool b253))) (some v254) (some (.v (.bool false)))) fun b256 =>
  rGq b256 true (some (.ptr i195 0 0 2)) fun b257 v258 =>
  rGq b257 true (aLoad Tryz.prog h255 43 v258) fun b259 v260 =>
  rGq b259 true (some a1) fun b261 v262 =>
  rGq b261 true (aNil v262) fun b263 v264 =>
  rGq b263 true (aFA Tryz.prog 108 4 v264) fun b265 v266 =>
  rGq b265 true (aFA Tryz.prog 68 1 v266) fun b267 v268 =>
  rGq b267 true (aLoad Tryz.prog h255 43 v268) fun b269 v270 =>
  rGe b269 true (fun k271 => callR Tryz.prog G 61 [v260, v270] h255 (fun v272 h273 =>
  k271 v272 h273)) h255 fun b274 v275 h276 =>
  okBool (pickR (some (.v (.bool b274))) (some v275) (some (.v (.bool false)))) fun b277 =>
  rGq b277 true (some (.ptr i195 0 0 4)) fun b278 v279 =>
  rGq b278 true (aLoad Tryz.prog h276 9 v279) fun b280 v281 =>
  rGq b280 true (some a1) fun b282 v283 =>
  rGq b282 true (aNil v283) fun b284 v285 =>
  rGq b284 true (aFA Tryz.prog 108 4 v285) fun b286 v287 =>
  rGq b286 true (aFA Tryz.prog 68 2 v287) fun b288 v289 =>
  rGq b288 true (aLoad Tryz.prog h276 9 v289) fun b290 v291 =>
  rGq b290 true (aBin Tryz.prog .eql 9 v281 v291) fun b292 v293 =>
  okBool (pickR (some (.v (.bool b292))) (some v293) (some (.v (.bool false)))) fun b294 =>
  rGq b294 true (some (.ptr i195 0 0 5)) fun b295 v296 =>
  rGq b295 true (aLoad Tryz.prog h276 4 v296) fun b297 v298 =>
  rGq b297 true (some a1) fun b299 v300 =>
  rGq b299 true (aNil v300) fun b301 v302 =>
  rGq b301 true (aFA Tryz.prog 108 4 v302) fun b303 v304 =>
  rGq b303 true (aFA Tryz.prog 68 3 v304) fun b305 v306 =>
  rGq b305 true (aLoad Tryz.prog h276 4 v306) fun b307 v308 =>
  rGq b307 true (aBin Tryz.prog .eql 4 v298 v308) fun b309 v310 =>
  okBool (pickR (some (.v (.bool b309))) (some v310) (some (.v (.bool false)))) fun b311 =>
  okV (aLoad Tryz.prog h276 31 (.ptr i187 0 0 1)) fun v312 =>
  callR Tryz.prog G 15 [v312, (.v (.int .i64 (-7)))] h276 (fun v313 h314 =>
  okV (aLoad Tryz.prog h314 31 (.ptr i195 0 0 3)) fun v315 =>
  callR Tryz.prog G 15 [v315, (.v (.int .i64 (-7)))] h314 (fun v316 h317 =>
  RetR h K (.v (.bool b311)) h317)))) 49 v193 (.ptr i195 0 0 0))) 43 v185 (.ptr i187 0 0 0)))
def Tryz.r18_l5_7 (G : Nat → Option AV) (h : AH) (K : AV → AH → Prop) (a0 : AV) (a1 : AV) (v0 : AV) (h1 : AH) (n319 : Int) : Prop :=
  ∃ (I7 : Nat → List AV → AH → Prop) (m8 : Nat), I7 m8 [(.v (.int .i64 n319))] h1 ∧ ∀ (m9 : Nat) (h10 : AH), h1.length ≤ h10.length → LowH h10.length h10 → ∀ (n11 : Int), I7 m9 [(.v (.int .i64 n11))] h10 →
  okInt .i64 (aLen Tryz.prog h10 102 v0) fun n12 =>
  condB (decide (n11 < n12))
  (okV (aIA Tryz.prog h10 102 v0 (.v (.int .i64 n11))) fun v13 =>
  okV (aFA Tryz.prog 121 0 v13) fun v14 =>
  okInt .i64 (aLoad Tryz.prog h10 3 v14) fun n15 =>
  okV (aNil a1) fun v16 =>
  okV (aFA Tryz.prog 108 1 v16) fun v17 =>
  okV (aLoad Tryz.prog h10 102 v17) fun v18 =>
  okV (aIA Tryz.prog h10 102 v18 (.v (.int .i64 n11))) fun v19 =>
  okV (aFA Tryz.prog 121 0 v19) fun v20 =>
  okInt .i64 (aLoad Tryz.prog h10 3 v20) fun n21 =>
  rGq (n15 != n21) false (some v0) fun b22 v23 =>
  rGq b22 false (some (.v (.int .i64 n11))) fun b24 v25 =>
  rGq b24 false (aIA Tryz.prog h10 102 v23 v25) fun b26 v27 =>
  rGq b26 false (aFA Tryz.prog 121 1 v27) fun b28 v29 =>
  rGq b28 false (aLoad Tryz.prog h10 31 v29) fun b30 v31 =>
  rGq b30 false (some a1) fun b32 v33 =>
  rGq b32 false (aNil v33) fun b34 v35 =>
  rGq b34 false (aFA Tryz.prog 108 1 v35) fun b36 v37 =>
  rGq b36 false (aLoad Tryz.prog h10 102 v37) fun b38 v39 =>
  rGq b38 false (some (.v (.int .i64 n11))) fun b40 v41 =>
  rGq b40 false (aIA Tryz.prog h10 102 v39 v41) fun b42 v43 =>
  rGq b42 false (aFA Tryz.prog 121 1 v43) fun b44 v45 =>
  rGq b44 false (aLoad Tryz.prog h10 31 v45) fun b46 v47 =>
  rGe b46 false (fun k48 => callR Tryz.prog G 52 [v31, v47] h10 (fun v49 h50 =>
  k48 v49 h50)) h10 fun b51 v52 h53 =>
  rGq b51 false (aUn .not v52) fun b54 v55 =>
  okBool (pickR (some (.v (.bool b54))) (some (.v (.bool true))) (some v55)) fun b56 =>
  rGq b56 false (some v0) fun b57 v58 =>
  rGq b57 false (some (.v (.int .i64 n11))) fun b59 v60 =>
  rGq b59 false (aIA Tryz.prog h53 102 v58 v60) fun b61 v62 =>
  rGq b61 false (aFA Tryz.prog 121 2 v62) fun b63 v64 =>
  rGq b63 false (aLoad Tryz.prog h53 31 v64) fun b65 v66 =>
  rGq b65 false (some a1) fun b67 v68 =>
  rGq b67 false (aNil v68) fun b69 v70 =>
  rGq b69 false (aFA Tryz.prog 108 1 v70) fun b71 v72 =>
  rGq b71 false (aLoad Tryz.prog h53 102 v72) fun b73 v74 =>
  rGq b73 false (some (.v (.int .i64 n11))) fun b75 v76 =>
  rGq b75 false (aIA Tryz.prog h53 102 v74 v76) fun b77 v78 =>
  rGq b77 false (aFA Tryz.prog 121 2 v78) fun b79 v80 =>
  rGq b79 false (aLoad Tryz.prog h53 31 v80) fun b81 v82 =>
  rGe b81 false (fun k83 => callR Tryz.prog G 52 [v66, v82] h53 (fun v84 h85 =>
  k83 v84 h85)) h53 fun b86 v87 h88 =>
  rGq b86 false (aUn .not v87) fun b89 v90 =>
  okBool (pickR (some (.v (.bool b89))) (some (.v (.bool true))) (some v90)) fun b91 =>
  condB b91
  (RetR h K (.v (.bool false)) h88)
  (okV (aIA Tryz.prog h88 102 v0 (.v (.int .i64 n11))) fun v92 =>
  okV (aFA Tryz.prog 121 1 v92) fun v93 =>
  okV (aLoad Tryz.prog h88 31 v93) fun v94 =>
  callR Tryz.prog G 15 [v94, (.v (.int .i64 (-7)))] h88 (fun v95 h96 =>
  okV (aIA Tryz.prog h96 102 v0 (.v (.int .i64 n11))) fun v97 =>
  okV (aFA Tryz.prog 121 2 v97) fun v98 =>
  okV (aLoad Tryz.prog h96 31 v98) fun v99 =>
  callR Tryz.prog G 15 [v99, (.v (.int .i64 (-7)))] h96 (fun v100 h101 =>
  nextR h1 I7 m9 [some a0, some a1, some v0] [some a0, some a1, some v0] [(.v (.int .i64 (IntKind.wrap .i64 (n11 + 1))))] h101))))
  (Tryz.r18_l12_102 K h G a0 a1 h10 (-1))
def Tryz.r18 (G : Nat → Option AV) (a0 a1 : AV) (h : AH) (K : AV → AH → Prop) : Prop :=
  callR Tryz.prog G 57 [a0] h (fun v0 h1 =>
  okInt .i64 (aLen Tryz.prog h1 102 v0) fun n2 =>
  okV (aNil a1) fun v3 =>
  okV (aFA Tryz.prog 108 1 v3) fun v4 =>
  okV (aLoad Tryz.prog h1 102 v4) fun v5 =>
  okInt .i64 (aLen Tryz.prog h1 102 v5) fun n6 =>
  condB (n2 != n6)
  (RetR h K (.v (.bool false)) h1)
  (Tryz.r18_l5_7 G h K a0 a1 v0 h1 0))
theorem Tryz.c18 (G : Nat → Option AV) (a0 a1 : AV) (h : AH) (K : AV → AH → Prop) (hk : LowH h.length h → Tryz.r18 G a0 a1 h K) : SCall Tryz.prog G 18 [a0, a1] h K :=
  scall_of_rwp Tryz.tab18 [(5, [(6, (.int .i64))], [0, 1, 5]), (12, [(7, (.int .i64))], [0, 1])] Tryz.func18 rfl Tryz.ntmps18 (by kernel_rfl) (by show 2 ≤ 237; decide) (by kernel_rfl) (by kernel_rfl) hk
-- 23 skylark/move.All
def Tryz.r24_l11_36 (K : AV → AH → Prop) (h : AH) (G : Nat → Option AV) (i0 : Nat) (h7 : AH) (v8 : AV) (n25 : Int) (I26 : Nat → List AV → AH → Prop) (m28 : Nat) (n30 : Int) (v33 : AV) (h34 : AH) (n35 : Int) (n53 : Int) : Prop :=
  ∃ (I36 : Nat → List AV → AH → Prop) (m37 : Nat), I36 m37 [(.v (.int .i64 n53))] h34 ∧ ∀ (m38 : Nat) (h39 : AH), h34.length ≤ h39.length → LowH h39.length h39 → ∀ (n40 : Int), I36 m38 [(.v (.int .i64 n40))] h39 →
  condB (decide (n40 < n35))
  (okV (aIA Tryz.prog h39 47 v33 (.v (.int .i64 n40))) fun v41 =>
  okV (aLoad Tryz.prog h39 131 v41) fun v42 =>
  newO (.cells 131 3 [[(.v (.string (ByteArray.mk #[]))), (.v (.int .i64 0)), (.v (.string (ByteArray.mk #[])))]] 0) h39 fun i43 h44 =>
  storeR Tryz.prog h44 (fun v45 h46 =>
  okV (aLoad Tryz.prog h46 49 (.ptr i0 0 0 0)) fun v47 =>
  okStr (aLoad Tryz.prog h46 9 (.ptr i43 0 0 0)) fun s48 =>
  callR Tryz.prog G 53 [v47, (.v (.string s48))] h46 (fun v49 h50 =>
  okInt .i64 (extV 0 v49) fun n51 =>
  okInt .i64 (extV 1 v49) fun n52 =>
  condB (n51 != n30)
  (RetR h K (.v (.int .i64 220)) h50)
  (nextR h34 I36 m38 [some (.ptr i0 0 0 0), some (.v (.int .i64 n30)), some v8, some (.v (.int .i64 n25)), some (.v (.int .i64 n30)), some v33, some (.v (.int .i64 n35))] [some (.ptr i0 0 0 0), some (.v (.int .i64 n30)), some v8, some (.v (.int .i64 n25)), some (.v (.int .i64 n30)), some v33, some (.v (.int .i64 n35))] [(.v (.int .i64 (IntKind.wrap .i64 (n40 + 1))))] h50))) 131 v42 (.ptr i43 0 0 0))
  (nextR h7 I26 m28 [some (.ptr i0 0 0 0), some v8, some (.v (.int .i64 n25))] [some (.ptr i0 0 0 0), some v8, some (.v (.int .i64 n25))] [(.v (.int .i64 (IntKind.wrap .i64 (n30 + 1))))] h39)
def Tryz.r24_l8_26 (K : AV → AH → Prop) (h : AH) (G : Nat → Option AV) (i0 : Nat) (h7 : AH) (v8 : AV) (n25 : Int) (n54 : Int) : Prop :=
  ∃ (I26 : Nat → List AV → AH → Prop) (m27 : Nat), I26 m27 [(.v (.int .i64 n54))] h7 ∧ ∀ (m28 : Nat) (h29 : AH), h7.length ≤ h29.length → LowH h29.length h29 → ∀ (n30 : Int), I26 m28 [(.v (.int .i64 n30))] h29 →
  condB (decide (n30 < n25))
  (okV (aIA Tryz.prog h29 137 v8 (.v (.int .i64 n30))) fun v31 =>
  okV (aLoad Tryz.prog h29 141 v31) fun v32 =>
  callI Tryz.prog G h29 (fun v33 h34 =>
  okInt .i64 (aLen Tryz.prog h34 47 v33) fun n35 =>
  Tryz.r24_l11_36 K h G i0 h7 v8 n25 I26 m28 n30 v33 h34 n35 0) [(.agg [(.v (.string (ByteArray.mk #[]))), (.v (.string (ByteArray.mk #[])))])] "Rows" v32)
  (RetR h K (.v (.int .i64 0)) h29)
def Tryz.r24 (G : Nat → Option AV) (a0 a1 : AV) (h : AH) (K : AV → AH → Prop) : Prop :=
  onlyB (AV.one a0) (newO (.cells 49 (AV.cells a0).length [AV.cells a0] 0) h fun i0 h1 =>
  okV (aLoad Tryz.prog h1 49 (.ptr i0 0 0 0)) fun v2 =>
  callR Tryz.prog G 63 [v2] h1 (fun v3 h4 =>
  okInt .i64 (some v3) fun n5 =>
  condB (n5 != 0)
  (RetR h K (.v (.int .i64 n5)) h4)
  (callR Tryz.prog G 67 [a1] h4 (fun v6 h7 =>
  okV (extV 0 v6) fun v8 =>
  okBool (extV 1 v6) fun b9 =>
  rGq (!b9) false (some v8) fun b10 v11 =>
  rGq b10 false (aLen Tryz.prog h7 137 v11) fun b12 v13 =>
  rGq b12 false (some (.ptr i0 0 0 2)) fun b14 v15 =>
  rGq b14 false (aFA Tryz.prog 43 1 v15) fun b16 v17 =>
  rGq b16 false (aLoad Tryz.prog h7 31 v17) fun b18 v19 =>
  rGq b18 false (aLen Tryz.prog h7 31 v19) fun b20 v21 =>
  rGq b20 false (aBin Tryz.prog .neq 3 v13 v21) fun b22 v23 =>
  okBool (pickR (some (.v (.bool b22))) (some (.v (.bool true))) (some v23)) fun b24 =>
  condB b24
  (RetR h K (.v (.int .i64 4)) h7)
  (okInt .i64 (aLen Tryz.prog h7 137 v8) fun n25 =>
  Tryz.r24_l8_26 K h G i0 h7 v8 n25 0)))))
def Tryz.r40 (G : Nat → Option AV) (a0 : AV) (h : AH) (K : AV → AH → Prop) : Prop :=
  onlyB (AV.one a0) (newO (.cells 68 (AV.cells a0).length [AV.cells a0] 0) h fun i0 h1 =>
  okV (aLoad Tryz.prog h1 43 (.ptr i0 0 0 0)) fun v2 =>
  callR Tryz.prog G 82 [v2] h1 (fun v3 h4 =>
  okBool (some v3) fun b5 =>
  rGq b5 true (some (.ptr i0 0 0 2)) fun b6 v7 =>
  rGq b6 true (aLoad Tryz.prog h4 43 v7) fun b8 v9 =>
  rGe b8 true (fun k10 => callR Tryz.prog G 82 [v9] h4 (fun v11 h12 =>
  k10 v11 h12)) h4 fun b13 v14 h15 =>
  okBool (pickR (some (.v (.bool b13))) (some v14) (some (.v (.bool false)))) fun b16 =>
  rGq b16 true (some (.ptr i0 0 0 2)) fun b17 v18 =>
  rGq b17 true (aFA Tryz.prog 43 0 v18) fun b19 v20 =>
  rGq b19 true (aLoad Tryz.prog h15 3 v20) fun b21 v22 =>
  rGq b21 true (some (.ptr i0 0 0 0)) fun b23 v24 =>
  rGq b23 true (aFA Tryz.prog 43 0 v24) fun b25 v26 =>
  rGq b25 true (aLoad Tryz.prog h15 3 v26) fun b27 v28 =>
  rGq b27 true (aBin Tryz.prog .add 3 v28 (.v (.int .i64 1))) fun b29 v30 =>
  rGq b29 true (aBin Tryz.prog .eql 3 v22 v30) fun b31 v32 =>
  okBool (pickR (some (.v (.bool b31))) (some v32) (some (.v (.bool false)))) fun b33 =>
  rGq b33 true (some (.ptr i0 0 0 2)) fun b34 v35 =>
  rGq b34 true (aFA Tryz.prog 43 1 v35) fun b36 v37 =>
  rGq b36 true (aLoad Tryz.prog h15 31 v37) fun b38 v39 =>
  rGq b38 true (aLen Tryz.prog h15 31 v39) fun b40 v41 =>
  rGq b40 true (some (.ptr i0 0 0 0)) fun b42 v43 =>
  rGq b42 true (aFA Tryz.prog 43 1 v43) fun b44 v45 =>
  rGq b44 true (aLoad Tryz.prog h15 31 v45) fun b46 v47 =>
  rGq b46 true (aLen Tryz.prog h15 31 v47) fun b48 v49 =>
  rGq b48 true (aBin Tryz.prog .geq 3 v41 v49) fun b50 v51 =>
  okBool (pickR (some (.v (.bool b50))) (some v51) (some (.v (.bool false)))) fun b52 =>
  rGq b52 true (some (.ptr i0 0 0 4)) fun b53 v54 =>
  rGq b53 true (aLoad Tryz.prog h15 9 v54) fun b55 v56 =>
  rGq b55 true (aLen Tryz.prog h15 9 v56) fun b57 v58 =>
  rGq b57 true (aBin Tryz.prog .leq 3 v58 (.v (.int .i64 64))) fun b59 v60 =>
  okBool (pickR (some (.v (.bool b59))) (some v60) (some (.v (.bool false)))) fun b61 =>
  rGq b61 true (some (.ptr i0 0 0 5)) fun b62 v63 =>
  rGq b62 true (aLoad Tryz.prog h15 4 v63) fun b64 v65 =>
  rGq b64 true (some v65) fun b66 v67 =>
  okG (some v67) true fun b68 g0 =>
  rGq b68 true (some (.ptr i0 0 0 4)) fun b69 v70 =>
  okG (some (g0 b69)) true fun c1 g2 =>
  rGq c1 true (aLoad Tryz.prog h15 9 v70) fun b71 v72 =>
  okG (some (g2 b71)) true fun c3 g4 =>
  rGq c3 true (aBin Tryz.prog .neq 9 v72 (.v (.string (ByteArray.mk #[])))) fun b73 v74 =>
  rGq b66 true (pickR (some (g4 b73)) (some v74) (some (.v (.bool false)))) fun b75 v76 =>
  rGq b75 true (aUn .not v76) fun b77 v78 =>
  okBool (pickR (some (.v (.bool b77))) (some v78) (some (.v (.bool false)))) fun b79 =>
  RetR h K (.v (.bool b79)) h15))
theorem Tryz.c40 (G : Nat → Option AV) (a0 : AV) (h : AH) (K : AV → AH → Prop) (hk : LowH h.length h → Tryz.r40 G a0 h K) : SCall Tryz.prog G 40 [a0] h K :=
  scall_of_rwp Tryz.tab40 [] Tryz.func40 rfl Tryz.ntmps40 (by kernel_rfl) (by show 1 ≤ 48; decide) (by kernel_rfl) (by kernel_rfl) hk
-- 41 skylark/table.New
def Tryz.r45_l8_13 (K : AV → AH → Prop) (h : AH) (n6 : Int) (i8 : Nat) (h11 : AH) (n24 : Int) : Prop :=
  ∃ (I13 : Nat → List AV → AH → Prop) (m14 : Nat), I13 m14 [(.v (.int .i64 n24))] h11 ∧ ∀ (m15 : Nat) (h16 : AH), h11.length ≤ h16.length → LowH h16.length h16 → ∀ (n17 : Int), I13 m15 [(.v (.int .i64 n17))] h16 →
  okInt .i64 (aLen Tryz.prog h16 98 (.sl i8 0 0 (Int.toNat (IntKind.wrap .i64 n6)) none)) fun n18 =>
  condB (decide (n17 < n18))
  (okV (aSlice Tryz.prog h16 98 (.sl i8 0 0 (Int.toNat (IntKind.wrap .i64 n6)) none) (some (some (.v (.int .i64 n17)))) none none) fun v19 =>
  okV (aSlice Tryz.prog h16 98 (.sl i8 0 0 (Int.toNat (IntKind.wrap .i64 n6)) none) none (some (some (.v (.int .i64 n17)))) none) fun v20 =>
  copyR Tryz.prog h16 98 v19 v20 (fun v21 h22 =>
  okInt .i64 (some v21) fun n23 =>
  nextR h11 I13 m15 [some (.sl i8 0 0 (Int.toNat (IntKind.wrap .i64 n6)) none)] [some (.sl i8 0 0 (Int.toNat (IntKind.wrap .i64 n6)) none)] [(.v (.int .i64 (IntKind.wrap .i64 (n17 + n23))))] h22))
  (RetR h K (.sl i8 0 0 (Int.toNat (IntKind.wrap .i64 n6)) none) h16)
def Tryz.r45_j8 (h : AH) (K : AV → AH → Prop) (a0 : AV) (n6 : Int) (h7 : AH) : Prop :=
  ((0 : Int) ≤ (IntKind.wrap .i64 n6) ∧ (IntKind.wrap .i64 n6) ≤ (IntKind.wrap .i64 n6) ∧ (((16 : Nat) : Int)) * (IntKind.wrap .i64 n6) ≤ 281474976710656 ∧ (IntKind.wrap .i64 n6) ≤ 4611686018427387904) ∧ newO (.cells 101 2 (List.replicate (Int.toNat (IntKind.wrap .i64 n6)) [(.v (.int .i64 0)), (.v (.int .i64 0))]) 0) h7 fun i8 h9 =>
  copyR Tryz.prog h9 98 (.sl i8 0 0 (Int.toNat (IntKind.wrap .i64 n6)) none) a0 (fun v10 h11 =>
  okInt .i64 (some v10) fun n12 =>
  Tryz.r45_l8_13 K h n6 i8 h11 n12)
def Tryz.r45_j1 (K : AV → AH → Prop) (h : AH) (G : Nat → Option AV) (a0 : AV) (a1 : AV) (h0 : AH) : Prop :=
  okInt .i64 (aLen Tryz.prog h0 98 a0) fun n1 =>
  okInt .i64 (some a1) fun n2 =>
  callR Tryz.prog G 95 [(.v (.int .u64 (IntKind.wrap .u64 n1))), (.v (.int .u64 (IntKind.wrap .u64 n2)))] h0 (fun v3 h4 =>
  okInt .u64 (extV 0 v3) fun n5 =>
  okInt .u64 (extV 1 v3) fun n6 =>
  rGq (decide (n5 > 0)) false (some (.v (.int .u64 n6))) fun b25 v26 =>
  rGq b25 false (aBin Tryz.prog .gtr 171 v26 (.v (.int .u64 9223372036854775807))) fun b27 v28 =>
  okBool (pickR (some (.v (.bool b27))) (some (.v (.bool true))) (some v28)) fun b29 =>
  condB b29
  (okV (aMkI Tryz.prog 9 (.v (.string (ByteArray.mk #[116, 104, 101, 32, 114, 101, 115, 117, 108, 116, 32, 111, 102, 32, 40, 108, 101, 110, 40, 120, 41, 32, 42, 32, 99, 111, 117, 110, 116, 41, 32, 111, 118, 101, 114, 102, 108, 111, 119, 115])))) fun v30 =>
  False)
  (Tryz.r45_j8 h K a0 n6 h4))
def Tryz.r45 (G : Nat → Option AV) (a0 a1 : AV) (h : AH) (K : AV → AH → Prop) : Prop :=
  okInt .i64 (some a1) fun n31 =>
  condB (decide (n31 < 0))
  (okV (aMkI Tryz.prog 9 (.v (.string (ByteArray.mk #[99, 97, 110, 110, 111, 116, 32, 98, 101, 32, 110, 101, 103, 97, 116, 105, 118, 101])))) fun v32 =>
  False)
  (Tryz.r45_j1 K h G a0 a1 h)
theorem Tryz.c45 (G : Nat → Option AV) (a0 a1 : AV) (h : AH) (K : AV → AH → Prop) (hk : LowH h.length h → Tryz.r45 G a0 a1 h K) : SCall Tryz.prog G 45 [a0, a1] h K :=
  scall_of_rwp Tryz.tab45 [(8, [(8, (.int .i64))], [7])] Tryz.func45 rfl Tryz.ntmps45 (by kernel_rfl) (by show 2 ≤ 48; decide) (by kernel_rfl) (by kernel_rfl) hk
-- 46 skylark/admin.commands
def Tryz.r46 (G : Nat → Option AV) (h : AH) (K : AV → AH → Prop) : Prop :=
  callR Tryz.prog G 96 [(.agg [(.v (.bool true)), (.v (.bool false)), (.v (.bool false)), (.v (.bool false)), (.v (.bool false)), (.v .nilFunc)])] h (fun v0 h1 =>
  callR Tryz.prog G 96 [(.agg [(.v (.bool false)), (.v (.bool false)), (.v (.bool false)), (.v (.bool false)), (.v (.bool false)), (.v .nilFunc)])] h1 (fun v2 h3 =>
  callR Tryz.prog G 96 [(.agg [(.v (.bool false)), (.v (.bool false)), (.v (.bool false)), (.v (.bool false)), (.v (.bool false)), (.v .nilFunc)])] h3 (fun v4 h5 =>
  callR Tryz.prog G 96 [(.agg [(.v (.bool false)), (.v (.bool false)), (.v (.bool false)), (.v (.bool false)), (.v (.bool false)), (.v .nilFunc)])] h5 (fun v6 h7 =>
  callR Tryz.prog G 96 [(.agg [(.v (.bool false)), (.v (.bool false)), (.v (.bool true)), (.v (.bool false)), (.v (.bool false)), (.v .nilFunc)])] h7 (fun v8 h9 =>
  okP (rowsFill 6 (List.replicate 9 [(.v (.bool false)), (.v (.bool false)), (.v (.bool false)), (.v (.bool false)), (.v (.bool false)), (.v .nilFunc)]) [(0, some (.agg [(.v (.bool false)), (.v (.bool false)), (.v (.bool false)), (.v (.bool true)), (.v (.bool false)), (.fn (.func 98) [] [])])), (1, some v0), (2, some v2), (3, some v4), (4, some v6), (5, some v8), (6, some (.agg [(.v (.bool false)), (.v (.bool false)), (.v (.bool false)), (.v (.bool true)), (.v (.bool false)), (.fn (.func 99) [] [])])), (7, some (.agg [(.v (.bool false)), (.v (.bool false)), (.v (.bool false)), (.v (.bool false)), (.v (.bool true)), (.fn (.func 100) [] [])])), (8, some (.agg [(.v (.bool false)), (.v (.bool false)), (.v (.bool false)), (.v (.bool false)), (.v (.bool false)), (.fn (.func 101) [] [])]))]) fun r10 => newO (.cells 115 6 r10 0) h9 fun i11 h12 =>
  RetR h K (.sl i11 0 0 9 none) h12)))))
theorem Tryz.c46 (G : Nat → Option AV) (h : AH) (K : AV → AH → Prop) (hk : LowH h.length h → Tryz.r46 G h K) : SCall Tryz.prog G 46 [] h K :=
  scall_of_rwp Tryz.tab46 [] Tryz.func46 rfl Tryz.ntmps46 (by kernel_rfl) (by show 0 ≤ 22; decide) (by kernel_rfl) (by kernel_rfl) hk
-- 47 (skylark/admin.command).bare
def Tryz.r47 (a0 a1 : AV) (h : AH) (K : AV → AH → Prop) : Prop :=
  onlyB (AV.one a0) (newO (.cells 115 (AV.cells a0).length [AV.cells a0] 0) h fun i0 h1 =>
  onlyB (AV.one a1) (newO (.cells 33 (AV.cells a1).length [AV.cells a1] 0) h1 fun i2 h3 =>
  okBool (aLoad Tryz.prog h3 4 (.ptr i0 0 0 0)) fun b4 =>
  rGq b4 false (some (.ptr i2 0 0 1)) fun b5 v6 =>
  rGq b5 false (aLoad Tryz.prog h3 3 v6) fun b7 v8 =>
  rGq b7 false (aBin Tryz.prog .eql 3 v8 (.v (.int .i64 0))) fun b9 v10 =>
  okBool (pickR (some (.v (.bool b9))) (some (.v (.bool true))) (some v10)) fun b11 =>
  rGq b11 true (some (.ptr i0 0 0 1)) fun b12 v13 =>
  rGq b12 true (aLoad Tryz.prog h3 4 v13) fun b14 v15 =>
  rGq b14 true (some v15) fun b16 v17 =>
  okG (some v17) false fun b18 g0 =>
  rGq b18 false (some (.ptr i2 0 0 2)) fun b19 v20 =>
  okG (some (g0 b19)) false fun c1 g2 =>
  rGq c1 false (aLoad Tryz.prog h3 3 v20) fun b21 v22 =>
  okG (some (g2 b21)) false fun c3 g4 =>
  rGq c3 false (aBin Tryz.prog .eql 3 v22 (.v (.int .i64 0))) fun b23 v24 =>
  rGq b16 true (pickR (some (g4 b23)) (some (.v (.bool true))) (some v24)) fun b25 v26 =>
  okBool (pickR (some (.v (.bool b25))) (some v26) (some (.v (.bool false)))) fun b27 =>
  rGq b27 true (some (.ptr i0 0 0 2)) fun b28 v29 =>
  rGq b28 true (aLoad Tryz.prog h3 4 v29) fun b30 v31 =>
  rGq b30 true (some v31) fun b32 v33 =>
  okG (some v33) false fun b34 g5 =>
  rGq b34 false (some (.ptr i2 0 0 3)) fun b35 v36 =>
  okG (some (g5 b35)) false fun c6 g7 =>
  rGq c6 false (aLoad Tryz.prog h3 3 v36) fun b37 v38 =>
  okG (some (g7 b37)) false fun c8 g9 =>
  rGq c8 false (aBin Tryz.prog .eql 3 v38 (.v (.int .i64 0))) fun b39 v40 =>
  rGq b32 true (pickR (some (g9 b39)) (some (.v (.bool true))) (some v40)) fun b41 v42 =>
  okBool (pickR (some (.v (.bool b41))) (some v42) (some (.v (.bool false)))) fun b43 =>
  rGq b43 true (some (.ptr i0 0 0 3)) fun b44 v45 =>
  rGq b44 true (aLoad Tryz.prog h3 4 v45) fun b46 v47 =>
  rGq b46 true (some v47) fun b48 v49 =>
  okG (some v49) false fun b50 g10 =>
  rGq b50 false (some (.ptr i2 0 0 4)) fun b51 v52 =>
  okG (some (g10 b51)) false fun c11 g12 =>
  rGq c11 false (aLoad Tryz.prog h3 31 v52) fun b53 v54 =>
  okG (some (g12 b53)) false fun c13 g14 =>
  rGq c13 false (aLen Tryz.prog h3 31 v54) fun b55 v56 =>
  okG (some (g14 b55)) false fun c15 g16 =>
  rGq c15 false (aBin Tryz.prog .eql 3 v56 (.v (.int .i64 0))) fun b57 v58 =>
  rGq b48 true (pickR (some (g16 b57)) (some (.v (.bool true))) (some v58)) fun b59 v60 =>
  okBool (pickR (some (.v (.bool b59))) (some v60) (some (.v (.bool false)))) fun b61 =>
  rGq b61 true (some (.ptr i0 0 0 4)) fun b62 v63 =>
  rGq b62 true (aLoad Tryz.prog h3 4 v63) fun b64 v65 =>
  rGq b64 true (some v65) fun b66 v67 =>
  okG (some v67) false fun b68 g17 =>
  rGq b68 false (some (.ptr i2 0 0 5)) fun b69 v70 =>
  okG (some (g17 b69)) false fun c18 g19 =>
  rGq c18 false (aLoad Tryz.prog h3 9 v70) fun b71 v72 =>
  okG (some (g19 b71)) false fun c20 g21 =>
  rGq c20 false (aBin Tryz.prog .eql 9 v72 (.v (.string (ByteArray.mk #[])))) fun b73 v74 =>
  rGq b66 true (pickR (some (g21 b73)) (some (.v (.bool true))) (some v74)) fun b75 v76 =>
  okBool (pickR (some (.v (.bool b75))) (some v76) (some (.v (.bool false)))) fun b77 =>
  RetR h K (.v (.bool b77)) h3))
theorem Tryz.c47 (G : Nat → Option AV) (a0 a1 : AV) (h : AH) (K : AV → AH → Prop) (hk : LowH h.length h → Tryz.r47 a0 a1 h K) : SCall Tryz.prog G 47 [a0, a1] h K :=
  scall_of_rwp Tryz.tab47 [] Tryz.func47 rfl Tryz.ntmps47 (by kernel_rfl) (by show 2 ≤ 49; decide) (by kernel_rfl) (by kernel_rfl) hk
-- 48 skylark/skylarkref18.bare
def Tryz.r48 (a0 : AV) (h : AH) (K : AV → AH → Prop) : Prop :=
  onlyB (AV.one a0) (newO (.cells 33 (AV.cells a0).length [AV.cells a0] 0) h fun i0 h1 =>
  okInt .i64 (aLoad Tryz.prog h1 3 (.ptr i0 0 0 0)) fun n2 =>
  rGq (decide (n2 < 1)) false (some (.v (.int .i64 n2))) fun b3 v4 =>
  rGq b3 false (aBin Tryz.prog .gtr 3 v4 (.v (.int .i64 9))) fun b5 v6 =>
  okBool (pickR (some (.v (.bool b5))) (some (.v (.bool true))) (some v6)) fun b7 =>
  condB b7
  (RetR h K (.v (.bool false)) h1)
  (rGq (decide (n2 ≥ 2)) true (some (.v (.int .i64 n2))) fun b8 v9 =>
  rGq b8 true (aBin Tryz.prog .leq 3 v9 (.v (.int .i64 6))) fun b10 v11 =>
  okBool (pickR (some (.v (.bool b10))) (some v11) (some (.v (.bool false)))) fun b12 =>
  rGq (n2 == 1) false (some (.v (.int .i64 n2))) fun b13 v14 =>
  rGq b13 false (aBin Tryz.prog .eql 3 v14 (.v (.int .i64 7))) fun b15 v16 =>
  okBool (pickR (some (.v (.bool b15))) (some (.v (.bool true))) (some v16)) fun b17 =>
  rGq (n2 == 2) false (some (.ptr i0 0 0 1)) fun b18 v19 =>
  rGq b18 false (aLoad Tryz.prog h1 3 v19) fun b20 v21 =>
  rGq b20 false (aBin Tryz.prog .eql 3 v21 (.v (.int .i64 0))) fun b22 v23 =>
  okBool (pickR (some (.v (.bool b22))) (some (.v (.bool true))) (some v23)) fun b24 =>
  rGq b24 true (some (.v (.bool b12))) fun b25 v26 =>
  rGq b25 true (some v26) fun b27 v28 =>
  okG (some v28) false fun b29 g0 =>
  rGq b29 false (some (.ptr i0 0 0 2)) fun b30 v31 =>
  okG (some (g0 b30)) false fun c1 g2 =>
  rGq c1 false (aLoad Tryz.prog h1 3 v31) fun b32 v33 =>
  okG (some (g2 b32)) false fun c3 g4 =>
  rGq c3 false (aBin Tryz.prog .eql 3 v33 (.v (.int .i64 0))) fun b34 v35 =>
  rGq b27 true (pickR (some (g4 b34)) (some (.v (.bool true))) (some v35)) fun b36 v37 =>
  okBool (pickR (some (.v (.bool b36))) (some v37) (some (.v (.bool false)))) fun b38 =>
  rGq b38 true (some (.v (.int .i64 n2))) fun b39 v40 =>
  rGq b39 true (aBin Tryz.prog .eql 3 v40 (.v (.int .i64 6))) fun b41 v42 =>
  rGq b41 true (some v42) fun b43 v44 =>
  okG (some v44) false fun b45 g5 =>
  rGq b45 false (some (.ptr i0 0 0 3)) fun b46 v47 =>
  okG (some (g5 b46)) false fun c6 g7 =>
  rGq c6 false (aLoad Tryz.prog h1 3 v47) fun b48 v49 =>
  okG (some (g7 b48)) false fun c8 g9 =>
  rGq c8 false (aBin Tryz.prog .eql 3 v49 (.v (.int .i64 0))) fun b50 v51 =>
  rGq b43 true (pickR (some (g9 b50)) (some (.v (.bool true))) (some v51)) fun b52 v53 =>
  okBool (pickR (some (.v (.bool b52))) (some v53) (some (.v (.bool false)))) fun b54 =>
  rGq b54 true (some (.v (.bool b17))) fun b55 v56 =>
  rGq b55 true (some v56) fun b57 v58 =>
  okG (some v58) false fun b59 g10 =>
  rGq b59 false (some (.ptr i0 0 0 4)) fun b60 v61 =>
  okG (some (g10 b60)) false fun c11 g12 =>
  rGq c11 false (aLoad Tryz.prog h1 31 v61) fun b62 v63 =>
  okG (some (g12 b62)) false fun c13 g14 =>
  rGq c13 false (aLen Tryz.prog h1 31 v63) fun b64 v65 =>
  okG (some (g14 b64)) false fun c15 g16 =>
  rGq c15 false (aBin Tryz.prog .eql 3 v65 (.v (.int .i64 0))) fun b66 v67 =>
  rGq b57 true (pickR (some (g16 b66)) (some (.v (.bool true))) (some v67)) fun b68 v69 =>
  okBool (pickR (some (.v (.bool b68))) (some v69) (some (.v (.bool false)))) fun b70 =>
  rGq b70 true (some (.v (.int .i64 n2))) fun b71 v72 =>
  rGq b71 true (aBin Tryz.prog .eql 3 v72 (.v (.int .i64 8))) fun b73 v74 =>
  rGq b73 true (some v74) fun b75 v76 =>
  okG (some v76) false fun b77 g17 =>
  rGq b77 false (some (.ptr i0 0 0 5)) fun b78 v79 =>
  okG (some (g17 b78)) false fun c18 g19 =>
  rGq c18 false (aLoad Tryz.prog h1 9 v79) fun b80 v81 =>
  okG (some (g19 b80)) false fun c20 g21 =>
  rGq c20 false (aBin Tryz.prog .eql 9 v81 (.v (.string (ByteArray.mk #[])))) fun b82 v83 =>
  rGq b75 true (pickR (some (g21 b82)) (some (.v (.bool true))) (some v83)) fun b84 v85 =>
  okBool (pickR (some (.v (.bool b84))) (some v85) (some (.v (.bool false)))) fun b86 =>
  RetR h K (.v (.bool b86)) h1))
theorem Tryz.c48 (G : Nat → Option AV) (a0 : AV) (h : AH) (K : AV → AH → Prop) (hk : LowH h.length h → Tryz.r48 a0 h K) : SCall Tryz.prog G 48 [a0] h K :=
  scall_of_rwp Tryz.tab48 [] Tryz.func48 rfl Tryz.ntmps48 (by kernel_rfl) (by show 1 ≤ 70; decide) (by kernel_rfl) (by kernel_rfl) hk
-- 49 (*skylark/skylarkref18.Admin).make
def Tryz.r49_l16_98 (K : AV → AH → Prop) (h : AH) (a0 : AV) (a1 : AV) (h40 : AH) (n154 : Int) : Prop :=
  ∃ (I98 : Nat → List AV → AH → Prop) (m99 : Nat), I98 m99 [(.v (.int .i64 n154))] h40 ∧ ∀ (m100 : Nat) (h101 : AH), h40.length ≤ h101.length → LowH h101.length h101 → ∀ (n102 : Int), I98 m100 [(.v (.int .i64 n102))] h101 →
  okInt .i64 (aLen Tryz.prog h101 31 a1) fun n103 =>
  condB (decide (n102 < n103))
  (okV (aNil a0) fun v104 =>
  okV (aFA Tryz.prog 108 0 v104) fun v105 =>
  okV (aLoad Tryz.prog h101 106 v105) fun v106 =>
  okV (aIA Tryz.prog h101 31 a1 (.v (.int .i64 n102))) fun v107 =>
  okInt .i64 (aLoad Tryz.prog h101 3 v107) fun n108 =>
  okV (aNil a0) fun v109 =>
  okV (aFA Tryz.prog 108 1 v109) fun v110 =>
  okV (aLoad Tryz.prog h101 102 v110) fun v111 =>
  okInt .i64 (aLen Tryz.prog h101 102 v111) fun n112 =>
  okV (aIA Tryz.prog h101 106 v106 (.v (.int .i64 n108))) fun v113 =>
  storeR Tryz.prog h101 (fun v114 h115 =>
  nextR h40 I98 m100 [some a0, some a1] [some a0, some a1] [(.v (.int .i64 (IntKind.wrap .i64 (n102 + 1))))] h115) 110 (.agg [(.v (.int .i64 2)), (.v (.int .i64 n112))]) v113)
  (okV (aNil a0) fun v116 =>
  okV (aFA Tryz.prog 108 1 v116) fun v117 =>
  okV (aLoad Tryz.prog h101 102 v117) fun v118 =>
  newO (.cells 3 1 [] 0) h101 fun i119 h120 =>
  (aLoad Tryz.prog h120 102 v117 = some v118) ∧ appR Tryz.prog h120 31 31 (.sl i119 0 0 0 none) a1 (fun v121 h122 =>
  (aLoad Tryz.prog h122 102 v117 = some v118) ∧ okV (aBuild Tryz.prog 121 [(0, some (.v (.int .i64 1))), (1, some v121)]) fun v123 =>
  okP (rowsFill 3 (List.replicate 1 [(.v (.int .i64 0)), (.v (.slice none 0 0)), (.v (.slice none 0 0))]) [(0, some v123)]) fun r124 => newO (.cells 121 3 r124 0) h122 fun i125 h126 =>
  (aLoad Tryz.prog h126 102 v117 = some v118) ∧ appR Tryz.prog h126 102 102 v118 (.sl i125 0 0 1 none) (fun v127 h128 =>
  okV (aNil a0) fun v129 =>
  okV (aFA Tryz.prog 108 1 v129) fun v130 =>
  storeR Tryz.prog h128 (fun v131 h132 =>
  okV (aNil a0) fun v133 =>
  okV (aFA Tryz.prog 108 2 v133) fun v134 =>
  okV (aFA Tryz.prog 43 0 v134) fun v135 =>
  okInt .i64 (aLoad Tryz.prog h132 3 v135) fun n136 =>
  okV (aNil a0) fun v137 =>
  okV (aFA Tryz.prog 108 2 v137) fun v138 =>
  okV (aFA Tryz.prog 43 1 v138) fun v139 =>
  okV (aLoad Tryz.prog h132 31 v139) fun v140 =>
  newO (.cells 3 1 [] 0) h132 fun i141 h142 =>
  (aLoad Tryz.prog h142 31 v139 = some v140) ∧ (aLoad Tryz.prog h142 3 v135 = some (.v (.int .i64 n136))) ∧ appR Tryz.prog h142 31 31 (.sl i141 0 0 0 none) v140 (fun v143 h144 =>
  (aLoad Tryz.prog h144 3 v135 = some (.v (.int .i64 n136))) ∧ newO (.cells 3 1 [[(.v (.int .i64 16))]] 0) h144 fun i145 h146 =>
  (aLoad Tryz.prog h146 31 v139 = some v140) ∧ (aLoad Tryz.prog h146 3 v135 = some (.v (.int .i64 n136))) ∧ appR Tryz.prog h146 31 31 v143 (.sl i145 0 0 1 none) (fun v147 h148 =>
  (aLoad Tryz.prog h148 3 v135 = some (.v (.int .i64 n136))) ∧ okV (aBuild Tryz.prog 43 [(0, some (.v (.int .i64 (IntKind.wrap .i64 (n136 + 1))))), (1, some v147)]) fun v149 =>
  okV (aNil a0) fun v150 =>
  okV (aFA Tryz.prog 108 2 v150) fun v151 =>
  storeR Tryz.prog h148 (fun v152 h153 =>
  RetR h K (.v (.int .i64 0)) h153) 43 v149 v151))) 102 v127 v130)))
def Tryz.r49_l9_37 (h : AH) (K : AV → AH → Prop) (G : Nat → Option AV) (a0 : AV) (a1 : AV) (h3 : AH) (n155 : Int) : Prop :=
  ∃ (I37 : Nat → List AV → AH → Prop) (m38 : Nat), I37 m38 [(.v (.int .i64 n155))] h3 ∧ ∀ (m39 : Nat) (h40 : AH), h3.length ≤ h40.length → LowH h40.length h40 → ∀ (n41 : Int), I37 m39 [(.v (.int .i64 n41))] h40 →
  okInt .i64 (aLen Tryz.prog h40 31 a1) fun n42 =>
  condB (decide (n41 < n42))
  (okV (aNil a0) fun v43 =>
  okV (aFA Tryz.prog 108 0 v43) fun v44 =>
  okV (aLoad Tryz.prog h40 106 v44) fun v45 =>
  okV (aIA Tryz.prog h40 31 a1 (.v (.int .i64 n41))) fun v46 =>
  okInt .i64 (aLoad Tryz.prog h40 3 v46) fun n47 =>
  okV (aIA Tryz.prog h40 106 v45 (.v (.int .i64 n47))) fun v48 =>
  okV (aFA Tryz.prog 110 0 v48) fun v49 =>
  okInt .i64 (aLoad Tryz.prog h40 3 v49) fun n50 =>
  rGq (n50 != 0) false (some a1) fun b51 v52 =>
  rGq b51 false (some (.v (.int .i64 n41))) fun b53 v54 =>
  rGq b53 false (aSlice Tryz.prog h40 31 v52 none (some (some v54)) none) fun b55 v56 =>
  rGq b55 false (some a1) fun b57 v58 =>
  rGq b57 false (some (.v (.int .i64 n41))) fun b59 v60 =>
  rGq b59 false (aIA Tryz.prog h40 31 v58 v60) fun b61 v62 =>
  rGq b61 false (aLoad Tryz.prog h40 3 v62) fun b63 v64 =>
  rGe b63 false (fun k65 => callR Tryz.prog G 102 [v56, v64] h40 (fun v66 h67 =>
  k65 v66 h67)) h40 fun b68 v69 h70 =>
  okBool (pickR (some (.v (.bool b68))) (some (.v (.bool true))) (some v69)) fun b71 =>
  condB b71
  (RetR h K (.v (.int .i64 180)) h70)
  (nextR h3 I37 m39 [some a0, some a1] [some a0, some a1] [(.v (.int .i64 (IntKind.wrap .i64 (n41 + 1))))] h70))
  (okV (aNil a0) fun v72 =>
  okV (aFA Tryz.prog 108 1 v72) fun v73 =>
  okV (aLoad Tryz.prog h40 102 v73) fun v74 =>
  okInt .i64 (aLen Tryz.prog h40 102 v74) fun n75 =>
  rGq (decide (n75 ≥ 8)) false (some a0) fun b76 v77 =>
  rGq b76 false (aNil v77) fun b78 v79 =>
  rGq b78 false (aFA Tryz.prog 108 3 v79) fun b80 v81 =>
  rGq b80 false (aLoad Tryz.prog h40 4 v81) fun b82 v83 =>
  okBool (pickR (some (.v (.bool b82))) (some (.v (.bool true))) (some v83)) fun b84 =>
  rGq b84 false (some a0) fun b85 v86 =>
  rGq b85 false (aNil v86) fun b87 v88 =>
  rGq b87 false (aFA Tryz.prog 108 2 v88) fun b89 v90 =>
  rGq b89 false (aFA Tryz.prog 43 0 v90) fun b91 v92 =>
  rGq b91 false (aLoad Tryz.prog h40 3 v92) fun b93 v94 =>
  rGq b93 false (aBin Tryz.prog .geq 3 v94 (.v (.int .i64 1073741824))) fun b95 v96 =>
  okBool (pickR (some (.v (.bool b95))) (some (.v (.bool true))) (some v96)) fun b97 =>
  condB b97
  (RetR h K (.v (.int .i64 2)) h40)
  (Tryz.r49_l16_98 K h a0 a1 h40 0))
def Tryz.r49_l2_0 (G : Nat → Option AV) (K : AV → AH → Prop) (h : AH) (a0 : AV) (a1 : AV) (n156 : Int) : Prop :=
  ∃ (I0 : Nat → List AV → AH → Prop) (m1 : Nat), I0 m1 [(.v (.int .i64 n156))] h ∧ ∀ (m2 : Nat) (h3 : AH), h.length ≤ h3.length → LowH h3.length h3 → ∀ (n4 : Int), I0 m2 [(.v (.int .i64 n4))] h3 →
  okInt .i64 (aLen Tryz.prog h3 31 a1) fun n5 =>
  condB (decide (n4 < n5))
  (okV (aIA Tryz.prog h3 31 a1 (.v (.int .i64 n4))) fun v6 =>
  okInt .i64 (aLoad Tryz.prog h3 3 v6) fun n7 =>
  rGq (decide (n7 < 0)) false (some a1) fun b8 v9 =>
  rGq b8 false (some (.v (.int .i64 n4))) fun b10 v11 =>
  rGq b10 false (aIA Tryz.prog h3 31 v9 v11) fun b12 v13 =>
  rGq b12 false (aLoad Tryz.prog h3 3 v13) fun b14 v15 =>
  rGq b14 false (some a0) fun b16 v17 =>
  rGq b16 false (aNil v17) fun b18 v19 =>
  rGq b18 false (aFA Tryz.prog 108 0 v19) fun b20 v21 =>
  rGq b20 false (aLoad Tryz.prog h3 106 v21) fun b22 v23 =>
  rGq b22 false (aLen Tryz.prog h3 106 v23) fun b24 v25 =>
  rGq b24 false (aBin Tryz.prog .geq 3 v15 v25) fun b26 v27 =>
  okBool (pickR (some (.v (.bool b26))) (some (.v (.bool true))) (some v27)) fun b28 =>
  condB b28
  (RetR h K (.v (.int .i64 1)) h3)
  (nextR h I0 m2 [some a0, some a1] [some a0, some a1] [(.v (.int .i64 (IntKind.wrap .i64 (n4 + 1))))] h3))
  (okInt .i64 (aLen Tryz.prog h3 31 a1) fun n29 =>
  rGq (decide (n29 < 1)) false (some a1) fun b30 v31 =>
  rGq b30 false (aLen Tryz.prog h3 31 v31) fun b32 v33 =>
  rGq b32 false (aBin Tryz.prog .gtr 3 v33 (.v (.int .i64 8))) fun b34 v35 =>
  okBool (pickR (some (.v (.bool b34))) (some (.v (.bool true))) (some v35)) fun b36 =>
  condB b36
  (RetR h K (.v (.int .i64 180)) h3)
  (Tryz.r49_l9_37 h K G a0 a1 h3 0))
def Tryz.r49 (G : Nat → Option AV) (a0 a1 : AV) (h : AH) (K : AV → AH → Prop) : Prop :=
  Tryz.r49_l2_0 G K h a0 a1 0
theorem Tryz.c49 (G : Nat → Option AV) (a0 a1 : AV) (h : AH) (K : AV → AH → Prop) (hk : LowH h.length h → Tryz.r49 G a0 a1 h K) : SCall Tryz.prog G 49 [a0, a1] h K :=
  scall_of_rwp Tryz.tab49 [(2, [(5, (.int .i64))], [0, 1]), (9, [(6, (.int .i64))], [0, 1]), (16, [(7, (.int .i64))], [0, 1])] Tryz.func49 rfl Tryz.ntmps49 (by kernel_rfl) (by show 2 ≤ 140; decide) (by kernel_rfl) (by kernel_rfl) hk
-- 50 (*skylark/skylarkref18.Admin).change
def Tryz.r50 (G : Nat → Option AV) (a0 a1 : AV) (h : AH) (K : AV → AH → Prop) : Prop :=
  onlyB (AV.one a1) (newO (.cells 33 (AV.cells a1).length [AV.cells a1] 0) h fun i0 h1 =>
  okInt .i64 (aLoad Tryz.prog h1 3 (.ptr i0 0 0 0)) fun n2 =>
  condB (n2 == 7)
  (okV (aNil a0) fun v3 =>
  okV (aFA Tryz.prog 108 3 v3) fun v4 =>
  okBool (aLoad Tryz.prog h1 4 v4) fun b5 =>
  condB b5
  (RetR h K (.v (.int .i64 180)) h1)
  (okV (aNil a0) fun v6 =>
  okV (aFA Tryz.prog 108 2 v6) fun v7 =>
  okV (aLoad Tryz.prog h1 43 v7) fun v8 =>
  okV (aNil a0) fun v9 =>
  okV (aFA Tryz.prog 108 2 v9) fun v10 =>
  okV (aFA Tryz.prog 43 0 v10) fun v11 =>
  okInt .i64 (aLoad Tryz.prog h1 3 v11) fun n12 =>
  okV (aLoad Tryz.prog h1 31 (.ptr i0 0 0 4)) fun v13 =>
  newO (.cells 3 1 [] 0) h1 fun i14 h15 =>
  (aLoad Tryz.prog h15 31 (.ptr i0 0 0 4) = some v13) ∧ (aLoad Tryz.prog h15 3 v11 = some (.v (.int .i64 n12))) ∧ (aLoad Tryz.prog h15 43 v7 = some v8) ∧ appR Tryz.prog h15 31 31 (.sl i14 0 0 0 none) v13 (fun v16 h17 =>
  (aLoad Tryz.prog h17 3 v11 = some (.v (.int .i64 n12))) ∧ (aLoad Tryz.prog h17 43 v7 = some v8) ∧ okV (aBuild Tryz.prog 43 [(0, some (.v (.int .i64 (IntKind.wrap .i64 (n12 + 1))))), (1, some v16)]) fun v18 =>
  okV (aBuild Tryz.prog 68 [(0, some v8), (1, some v18)]) fun v19 =>
  newO (.cells 68 6 [[(.v (.int .i64 0)), (.v (.slice none 0 0)), (.v (.int .i64 0)), (.v (.slice none 0 0)), (.v (.string (ByteArray.mk #[]))), (.v (.bool false))]] 0) h17 fun i20 h21 =>
  (aLoad Tryz.prog h21 31 (.ptr i0 0 0 4) = some v13) ∧ (aLoad Tryz.prog h21 3 v11 = some (.v (.int .i64 n12))) ∧ (aLoad Tryz.prog h21 43 v7 = some v8) ∧ storeR Tryz.prog h21 (fun v22 h23 =>
  okV (aNil a0) fun v24 =>
  okV (aFA Tryz.prog 108 2 v24) fun v25 =>
  okV (aFA Tryz.prog 43 0 v25) fun v26 =>
  okInt .i64 (aLoad Tryz.prog h23 3 v26) fun n27 =>
  condB (decide (n27 ≥ 1073741824))
  (RetR h K (.v (.int .i64 2)) h23)
  (okV (aLoad Tryz.prog h23 31 (.ptr i0 0 0 4)) fun v28 =>
  okInt .i64 (aLen Tryz.prog h23 31 v28) fun n29 =>
  okV (aNil a0) fun v30 =>
  okV (aFA Tryz.prog 108 1 v30) fun v31 =>
  okV (aLoad Tryz.prog h23 102 v31) fun v32 =>
  okInt .i64 (aLen Tryz.prog h23 102 v32) fun n33 =>
  rGq (n29 != n33) false (aLoad Tryz.prog h23 68 (.ptr i20 0 0 0)) fun b34 v35 =>
  rGe b34 false (fun k36 => callR Tryz.prog G 40 [v35] h23 (fun v37 h38 =>
  k36 v37 h38)) h23 fun b39 v40 h41 =>
  rGq b39 false (aUn .not v40) fun b42 v43 =>
  okBool (pickR (some (.v (.bool b42))) (some (.v (.bool true))) (some v43)) fun b44 =>
  condB b44
  (RetR h K (.v (.int .i64 70)) h41)
  (okV (aNil a0) fun v45 =>
  okV (aFA Tryz.prog 108 3 v45) fun v46 =>
  storeR Tryz.prog h41 (fun v47 h48 =>
  okV (aLoad Tryz.prog h48 68 (.ptr i20 0 0 0)) fun v49 =>
  okV (aNil a0) fun v50 =>
  okV (aFA Tryz.prog 108 4 v50) fun v51 =>
  storeR Tryz.prog h48 (fun v52 h53 =>
  RetR h K (.v (.int .i64 0)) h53) 68 v49 v51) 4 (.v (.bool true)) v46))) 68 v19 (.ptr i20 0 0 0))))
  (okV (aNil a0) fun v54 =>
  okV (aFA Tryz.prog 108 3 v54) fun v55 =>
  okBool (aLoad Tryz.prog h1 4 v55) fun b56 =>
  condB (!b56)
  (RetR h K (.v (.int .i64 180)) h1)
  (okInt .i64 (aLoad Tryz.prog h1 3 (.ptr i0 0 0 0)) fun n57 =>
  condB (n57 == 8)
  (okV (aNil a0) fun v58 =>
  okV (aFA Tryz.prog 108 4 v58) fun v59 =>
  okV (aLoad Tryz.prog h1 68 v59) fun v60 =>
  okStr (aLoad Tryz.prog h1 9 (.ptr i0 0 0 5)) fun s61 =>
  callR Tryz.prog G 103 [v60, (.v (.string s61))] h1 (fun v62 h63 =>
  okV (extV 0 v62) fun v64 =>
  okInt .i64 (extV 1 v62) fun n65 =>
  newO (.cells 68 6 [[(.v (.int .i64 0)), (.v (.slice none 0 0)), (.v (.int .i64 0)), (.v (.slice none 0 0)), (.v (.string (ByteArray.mk #[]))), (.v (.bool false))]] 0) h63 fun i66 h67 =>
  (aLoad Tryz.prog h67 9 (.ptr i0 0 0 5) = some (.v (.string s61))) ∧ (aLoad Tryz.prog h67 68 v59 = some v60) ∧ storeR Tryz.prog h67 (fun v68 h69 =>
  condB (n65 != 0)
  (RetR h K (.v (.int .i64 n65)) h69)
  (okV (aLoad Tryz.prog h69 68 (.ptr i66 0 0 0)) fun v70 =>
  okV (aNil a0) fun v71 =>
  okV (aFA Tryz.prog 108 4 v71) fun v72 =>
  storeR Tryz.prog h69 (fun v73 h74 =>
  RetR h K (.v (.int .i64 0)) h74) 68 v70 v72)) 68 v64 (.ptr i66 0 0 0)))
  (okV (aNil a0) fun v75 =>
  okV (aFA Tryz.prog 108 4 v75) fun v76 =>
  okV (aFA Tryz.prog 68 1 v76) fun v77 =>
  okV (aLoad Tryz.prog h1 43 v77) fun v78 =>
  okV (aNil a0) fun v79 =>
  okV (aFA Tryz.prog 108 2 v79) fun v80 =>
  storeR Tryz.prog h1 (fun v81 h82 =>
  okV (aNil a0) fun v83 =>
  okV (aFA Tryz.prog 108 3 v83) fun v84 =>
  storeR Tryz.prog h82 (fun v85 h86 =>
  okV (aNil a0) fun v87 =>
  okV (aFA Tryz.prog 108 4 v87) fun v88 =>
  storeR Tryz.prog h86 (fun v89 h90 =>
  RetR h K (.v (.int .i64 0)) h90) 68 (.agg [(.v (.int .i64 0)), (.v (.slice none 0 0)), (.v (.int .i64 0)), (.v (.slice none 0 0)), (.v (.string (ByteArray.mk #[]))), (.v (.bool false))]) v88) 4 (.v (.bool false)) v84) 43 v78 v80))))
theorem Tryz.c50 (G : Nat → Option AV) (a0 a1 : AV) (h : AH) (K : AV → AH → Prop) (hk : LowH h.length h → Tryz.r50 G a0 a1 h K) : SCall Tryz.prog G 50 [a0, a1] h K :=
  scall_of_rwp Tryz.tab50 [] Tryz.func50 rfl Tryz.ntmps50 (by kernel_rfl) (by show 2 ≤ 98; decide) (by kernel_rfl) (by kernel_rfl) hk
-- 51 (*skylark/skylarkref18.Admin).brick
def Tryz.r51_j99 (K : AV → AH → Prop) (h : AH) (a0 : AV) (n2 : Int) (n93 : Int) (n96 : Int) (h98 : AH) : Prop :=
  okV (aNil a0) fun v99 =>
  okV (aFA Tryz.prog 108 0 v99) fun v100 =>
  okV (aLoad Tryz.prog h98 106 v100) fun v101 =>
  okV (aIA Tryz.prog h98 106 v101 (.v (.int .i64 n2))) fun v102 =>
  storeR Tryz.prog h98 (fun v103 h104 =>
  RetR h K (.v (.int .i64 0)) h104) 110 (.agg [(.v (.int .i64 n96)), (.v (.int .i64 n93))]) v102
def Tryz.r51_j98 (h : AH) (K : AV → AH → Prop) (G : Nat → Option AV) (a0 : AV) (n2 : Int) (n93 : Int) (v94 : AV) (v95 : AV) (n96 : Int) (h97 : AH) : Prop :=
  condB (decide (n93 ≥ 0))
  (callR Tryz.prog G 106 [a0, (.v (.int .i64 n93)), v94, v95] h97 (fun v105 h106 =>
  Tryz.r51_j99 K h a0 n2 n93 n96 h106))
  (okV (aNil a0) fun v107 =>
  okV (aFA Tryz.prog 108 0 v107) fun v108 =>
  okV (aLoad Tryz.prog h97 106 v108) fun v109 =>
  okV (aIA Tryz.prog h97 106 v109 (.v (.int .i64 n2))) fun v110 =>
  okV (aFA Tryz.prog 110 1 v110) fun v111 =>
  okInt .i64 (aLoad Tryz.prog h97 3 v111) fun n112 =>
  callR Tryz.prog G 106 [a0, (.v (.int .i64 n112)), v94, v95] h97 (fun v113 h114 =>
  Tryz.r51_j99 K h a0 n2 n93 n96 h114))
def Tryz.r51_j65 (G : Nat → Option AV) (K : AV → AH → Prop) (h : AH) (a0 : AV) (i0 : Nat) (n2 : Int) (n63 : Int) (h64 : AH) : Prop :=
  okV (aNil a0) fun v65 =>
  okV (aFA Tryz.prog 108 1 v65) fun v66 =>
  okV (aLoad Tryz.prog h64 102 v66) fun v67 =>
  okV (aIA Tryz.prog h64 102 v67 (.v (.int .i64 n63))) fun v68 =>
  okV (aLoad Tryz.prog h64 121 v68) fun v69 =>
  newO (.cells 121 3 [[(.v (.int .i64 0)), (.v (.slice none 0 0)), (.v (.slice none 0 0))]] 0) h64 fun i70 h71 =>
  storeR Tryz.prog h71 (fun v72 h73 =>
  okInt .i64 (aLoad Tryz.prog h73 3 (.ptr i0 0 0 0)) fun n74 =>
  rGq (n74 == 6) true (some (.ptr i0 0 0 3)) fun b75 v76 =>
  rGq b75 true (aLoad Tryz.prog h73 3 v76) fun b77 v78 =>
  rGq b77 true (some (.ptr i70 0 0 0)) fun b79 v80 =>
  rGq b79 true (aLoad Tryz.prog h73 3 v80) fun b81 v82 =>
  rGq b81 true (aBin Tryz.prog .neq 3 v78 v82) fun b83 v84 =>
  okBool (pickR (some (.v (.bool b83))) (some v84) (some (.v (.bool false)))) fun b85 =>
  condB b85
  (RetR h K (.v (.int .i64 150)) h73)
  (okInt .i64 (aLoad Tryz.prog h73 3 (.ptr i70 0 0 0)) fun n86 =>
  condB (decide (n86 ≥ 1073741824))
  (RetR h K (.v (.int .i64 2)) h73)
  (okV (aLoad Tryz.prog h73 31 (.ptr i70 0 0 1)) fun v87 =>
  okV (aLoad Tryz.prog h73 31 (.ptr i70 0 0 2)) fun v88 =>
  callR Tryz.prog G 105 [v87, (.v (.int .i64 n2))] h73 (fun v89 h90 =>
  (aLoad Tryz.prog h90 31 (.ptr i70 0 0 2) = some v88) ∧ callR Tryz.prog G 105 [v88, (.v (.int .i64 n2))] h90 (fun v91 h92 =>
  okInt .i64 (aLoad Tryz.prog h92 3 (.ptr i0 0 0 0)) fun n115 =>
  condB (n115 == 2)
  (newO (.cells 3 1 [[(.v (.int .i64 n2))]] 0) h92 fun i116 h117 =>
  appR Tryz.prog h117 31 31 v91 (.sl i116 0 0 1 none) (fun v118 h119 =>
  Tryz.r51_j98 h K G a0 n2 n63 v89 v118 1 h119))
  (condB (n115 == 3)
  (Tryz.r51_j98 h K G a0 n2 (-1) v89 v91 0 h92)
  (condB (n115 == 4)
  (okInt .i64 (aLen Tryz.prog h92 31 v89) fun n120 =>
  condB (n120 == 0)
  (newO (.cells 3 1 [[(.v (.int .i64 n2))]] 0) h92 fun i121 h122 =>
  appR Tryz.prog h122 31 31 v89 (.sl i121 0 0 1 none) (fun v123 h124 =>
  Tryz.r51_j98 h K G a0 n2 n63 v123 v91 3 h124))
  (Tryz.r51_j98 h K G a0 n2 n63 v89 v91 3 h92))
  (condB (n115 == 5)
  (okV (aLoad Tryz.prog h92 31 (.ptr i70 0 0 1)) fun v125 =>
  callR Tryz.prog G 102 [v125, (.v (.int .i64 n2))] h92 (fun v126 h127 =>
  okBool (some v126) fun b128 =>
  condB b128
  (newO (.cells 3 1 [[(.v (.int .i64 n2))]] 0) h127 fun i129 h130 =>
  appR Tryz.prog h130 31 31 v89 (.sl i129 0 0 1 none) (fun v131 h132 =>
  Tryz.r51_j98 h K G a0 n2 n63 v131 v91 2 h132))
  (newO (.cells 3 1 [[(.v (.int .i64 n2))]] 0) h127 fun i133 h134 =>
  appR Tryz.prog h134 31 31 v91 (.sl i133 0 0 1 none) (fun v135 h136 =>
  Tryz.r51_j98 h K G a0 n2 n63 v89 v135 1 h136))))
  (newO (.cells 3 1 [[(.v (.int .i64 n2))]] 0) h92 fun i137 h138 =>
  appR Tryz.prog h138 31 31 v89 (.sl i137 0 0 1 none) (fun v139 h140 =>
  Tryz.r51_j98 h K G a0 n2 n63 v139 v91 2 h140)))))))))) 121 v69 (.ptr i70 0 0 0)
def Tryz.r51 (G : Nat → Option AV) (a0 a1 : AV) (h : AH) (K : AV → AH → Prop) : Prop :=
  onlyB (AV.one a1) (newO (.cells 33 (AV.cells a1).length [AV.cells a1] 0) h fun i0 h1 =>
  okInt .i64 (aLoad Tryz.prog h1 3 (.ptr i0 0 0 2)) fun n2 =>
  rGq (decide (n2 < 0)) false (some (.v (.int .i64 n2))) fun b3 v4 =>
  rGq b3 false (some a0) fun b5 v6 =>
  rGq b5 false (aNil v6) fun b7 v8 =>
  rGq b7 false (aFA Tryz.prog 108 0 v8) fun b9 v10 =>
  rGq b9 false (aLoad Tryz.prog h1 106 v10) fun b11 v12 =>
  rGq b11 false (aLen Tryz.prog h1 106 v12) fun b13 v14 =>
  rGq b13 false (aBin Tryz.prog .geq 3 v4 v14) fun b15 v16 =>
  okBool (pickR (some (.v (.bool b15))) (some (.v (.bool true))) (some v16)) fun b17 =>
  rGq b17 false (some (.ptr i0 0 0 1)) fun b18 v19 =>
  rGq b18 false (aLoad Tryz.prog h1 3 v19) fun b20 v21 =>
  rGq b20 false (aBin Tryz.prog .lss 3 v21 (.v (.int .i64 0))) fun b22 v23 =>
  okBool (pickR (some (.v (.bool b22))) (some (.v (.bool true))) (some v23)) fun b24 =>
  rGq b24 false (some (.ptr i0 0 0 0)) fun b25 v26 =>
  rGq b25 false (aLoad Tryz.prog h1 3 v26) fun b27 v28 =>
  rGq b27 false (aBin Tryz.prog .eql 3 v28 (.v (.int .i64 2))) fun b29 v30 =>
  rGq b29 false (some v30) fun b31 v32 =>
  okG (some v32) true fun b33 g0 =>
  rGq b33 true (some (.ptr i0 0 0 1)) fun b34 v35 =>
  okG (some (g0 b34)) true fun c1 g2 =>
  rGq c1 true (aLoad Tryz.prog h1 3 v35) fun b36 v37 =>
  okG (some (g2 b36)) true fun c3 g4 =>
  rGq c3 true (some a0) fun b38 v39 =>
  okG (some (g4 b38)) true fun c5 g6 =>
  rGq c5 true (aNil v39) fun b40 v41 =>
  okG (some (g6 b40)) true fun c7 g8 =>
  rGq c7 true (aFA Tryz.prog 108 1 v41) fun b42 v43 =>
  okG (some (g8 b42)) true fun c9 g10 =>
  rGq c9 true (aLoad Tryz.prog h1 102 v43) fun b44 v45 =>
  okG (some (g10 b44)) true fun c11 g12 =>
  rGq c11 true (aLen Tryz.prog h1 102 v45) fun b46 v47 =>
  okG (some (g12 b46)) true fun c13 g14 =>
  rGq c13 true (aBin Tryz.prog .geq 3 v37 v47) fun b48 v49 =>
  rGq b31 false (pickR (some (g14 b48)) (some v49) (some (.v (.bool false)))) fun b50 v51 =>
  okBool (pickR (some (.v (.bool b50))) (some (.v (.bool true))) (some v51)) fun b52 =>
  condB b52
  (RetR h K (.v (.int .i64 1)) h1)
  (okInt .i64 (aLoad Tryz.prog h1 3 (.ptr i0 0 0 0)) fun n53 =>
  callR Tryz.prog G 104 [a0, (.v (.int .i64 n53)), (.v (.int .i64 n2))] h1 (fun v54 h55 =>
  okBool (some v54) fun b56 =>
  condB (!b56)
  (RetR h K (.v (.int .i64 180)) h55)
  (okV (aNil a0) fun v57 =>
  okV (aFA Tryz.prog 108 0 v57) fun v58 =>
  okV (aLoad Tryz.prog h55 106 v58) fun v59 =>
  okV (aIA Tryz.prog h55 106 v59 (.v (.int .i64 n2))) fun v60 =>
  okV (aFA Tryz.prog 110 1 v60) fun v61 =>
  okInt .i64 (aLoad Tryz.prog h55 3 v61) fun n62 =>
  okInt .i64 (aLoad Tryz.prog h55 3 (.ptr i0 0 0 0)) fun n141 =>
  condB (n141 == 2)
  (okInt .i64 (aLoad Tryz.prog h55 3 (.ptr i0 0 0 1)) fun n142 =>
  Tryz.r51_j65 G K h a0 i0 n2 n142 h55)
  (Tryz.r51_j65 G K h a0 i0 n2 n62 h55)))))
theorem Tryz.c51 (G : Nat → Option AV) (a0 a1 : AV) (h : AH) (K : AV → AH → Prop) (hk : LowH h.length h → Tryz.r51 G a0 a1 h K) : SCall Tryz.prog G 51 [a0, a1] h K :=
  scall_of_rwp Tryz.tab51 [] Tryz.func51 rfl Tryz.ntmps51 (by kernel_rfl) (by show 2 ≤ 156; decide) (by kernel_rfl) (by kernel_rfl) hk
-- 52 skylark/skylarkbook.SameInts
def Tryz.r52_l4_2 (K : AV → AH → Prop) (h : AH) (a0 : AV) (a1 : AV) (n12 : Int) : Prop :=
  ∃ (I2 : Nat → List AV → AH → Prop) (m3 : Nat), I2 m3 [(.v (.int .i64 n12))] h ∧ ∀ (m4 : Nat) (h5 : AH), h.length ≤ h5.length → LowH h5.length h5 → ∀ (n6 : Int), I2 m4 [(.v (.int .i64 n6))] h5 →
  okInt .i64 (aLen Tryz.prog h5 31 a0) fun n7 =>
  condB (decide (n6 < n7))
  (okV (aIA Tryz.prog h5 31 a0 (.v (.int .i64 n6))) fun v8 =>
  okInt .i64 (aLoad Tryz.prog h5 3 v8) fun n9 =>
  okV (aIA Tryz.prog h5 31 a1 (.v (.int .i64 n6))) fun v10 =>
  okInt .i64 (aLoad Tryz.prog h5 3 v10) fun n11 =>
  condB (n9 != n11)
  (RetR h K (.v (.bool false)) h5)
  (nextR h I2 m4 [some a0, some a1] [some a0, some a1] [(.v (.int .i64 (IntKind.wrap .i64 (n6 + 1))))] h5))
  (RetR h K (.v (.bool true)) h5)
def Tryz.r52 (a0 a1 : AV) (h : AH) (K : AV → AH → Prop) : Prop :=
  okInt .i64 (aLen Tryz.prog h 31 a0) fun n0 =>
  okInt .i64 (aLen Tryz.prog h 31 a1) fun n1 =>
  condB (n0 != n1)
  (RetR h K (.v (.bool false)) h)
  (Tryz.r52_l4_2 K h a0 a1 0)
theorem Tryz.c52 (G : Nat → Option AV) (a0 a1 : AV) (h : AH) (K : AV → AH → Prop) (hk : LowH h.length h → Tryz.r52 a0 a1 h K) : SCall Tryz.prog G 52 [a0, a1] h K :=
  scall_of_rwp Tryz.tab52 [(4, [(5, (.int .i64))], [0, 1])] Tryz.func52 rfl Tryz.ntmps52 (by kernel_rfl) (by show 2 ≤ 26; decide) (by kernel_rfl) (by kernel_rfl) hk
-- 53 (skylark/layout.Change).Owner
def Tryz.r53_j12 (K : AV → AH → Prop) (h : AH) (G : Nat → Option AV) (a1 : AV) (i7 : Nat) (h11 : AH) : Prop :=
  okV (aLoad Tryz.prog h11 31 (.ptr i7 0 0 1)) fun v12 =>
  okStr (some a1) fun s13 =>
  callR Tryz.prog G 54 [v12, (.v (.string s13))] h11 (fun v14 h15 =>
  okInt .i64 (extV 0 v14) fun n16 =>
  okInt .i64 (extV 1 v14) fun n17 =>
  RetR h K (.tup [(.v (.int .i64 n16)), (.v (.int .i64 n17))]) h15)
def Tryz.r53 (G : Nat → Option AV) (a0 a1 : AV) (h : AH) (K : AV → AH → Prop) : Prop :=
  onlyB (AV.one a0) (newO (.cells 49 (AV.cells a0).length [AV.cells a0] 0) h fun i0 h1 =>
  okV (aLoad Tryz.prog h1 49 (.ptr i0 0 0 0)) fun v2 =>
  callR Tryz.prog G 63 [v2] h1 (fun v3 h4 =>
  okInt .i64 (some v3) fun n5 =>
  condB (n5 != 0)
  (RetR h K (.tup [(.v (.int .i64 0)), (.v (.int .i64 n5))]) h4)
  (okV (aLoad Tryz.prog h4 43 (.ptr i0 0 0 0)) fun v6 =>
  newO (.cells 43 2 [[(.v (.int .i64 0)), (.v (.slice none 0 0))]] 0) h4 fun i7 h8 =>
  storeR Tryz.prog h8 (fun v9 h10 =>
  okBool (aLoad Tryz.prog h10 4 (.ptr i0 0 0 5)) fun b18 =>
  rGq b18 false (some a1) fun b19 v20 =>
  rGq b19 false (some (.ptr i0 0 0 4)) fun b21 v22 =>
  rGq b21 false (aLoad Tryz.prog h10 9 v22) fun b23 v24 =>
  rGq b23 false (aBin Tryz.prog .lss 9 v20 v24) fun b25 v26 =>
  okBool (pickR (some (.v (.bool b25))) (some (.v (.bool true))) (some v26)) fun b27 =>
  condB b27
  (okV (aLoad Tryz.prog h10 43 (.ptr i0 0 0 2)) fun v28 =>
  storeR Tryz.prog h10 (fun v29 h30 =>
  Tryz.r53_j12 K h G a1 i7 h30) 43 v28 (.ptr i7 0 0 0))
  (Tryz.r53_j12 K h G a1 i7 h10)) 43 v6 (.ptr i7 0 0 0))))
theorem Tryz.c53 (G : Nat → Option AV) (a0 a1 : AV) (h : AH) (K : AV → AH → Prop) (hk : LowH h.length h → Tryz.r53 G a0 a1 h K) : SCall Tryz.prog G 53 [a0, a1] h K :=
  scall_of_rwp Tryz.tab53 [] Tryz.func53 rfl Tryz.ntmps53 (by kernel_rfl) (by show 2 ≤ 31; decide) (by kernel_rfl) (by kernel_rfl) hk
-- 54 skylark/ring.Of
def Tryz.r54 (G : Nat → Option AV) (a0 a1 : AV) (h : AH) (K : AV → AH → Prop) : Prop :=
  callR Tryz.prog G 107 [a0] h (fun v0 h1 =>
  okV (extV 0 v0) fun v2 =>
  okInt .i64 (extV 1 v0) fun n3 =>
  condB (n3 != 0)
  (RetR h K (.tup [(.v (.int .i64 0)), (.v (.int .i64 n3))]) h1)
  (okStr (some a1) fun s4 =>
  callR Tryz.prog G 108 [v2, (.v (.string s4))] h1 (fun v5 h6 =>
  okInt .i64 (some v5) fun n7 =>
  RetR h K (.tup [(.v (.int .i64 n7)), (.v (.int .i64 0))]) h6)))
theorem Tryz.c54 (G : Nat → Option AV) (a0 a1 : AV) (h : AH) (K : AV → AH → Prop) (hk : LowH h.length h → Tryz.r54 G a0 a1 h K) : SCall Tryz.prog G 54 [a0, a1] h K :=
  scall_of_rwp Tryz.tab54 [] Tryz.func54 rfl Tryz.ntmps54 (by kernel_rfl) (by show 2 ≤ 19; decide) (by kernel_rfl) (by kernel_rfl) hk
-- 55 (skylark/skylarkref07.Change).Owner
def Tryz.r55 (G : Nat → Option AV) (a0 a1 : AV) (h : AH) (K : AV → AH → Prop) : Prop :=
  onlyB (AV.one a0) (newO (.cells 68 (AV.cells a0).length [AV.cells a0] 0) h fun i0 h1 =>
  okV (aLoad Tryz.prog h1 68 (.ptr i0 0 0 0)) fun v2 =>
  callR Tryz.prog G 40 [v2] h1 (fun v3 h4 =>
  okBool (some v3) fun b5 =>
  condB (!b5)
  (RetR h K (.tup [(.v (.int .i64 0)), (.v (.int .i64 70))]) h4)
  (okBool (aLoad Tryz.prog h4 4 (.ptr i0 0 0 5)) fun b6 =>
  rGq b6 false (some a1) fun b7 v8 =>
  rGq b7 false (some (.ptr i0 0 0 4)) fun b9 v10 =>
  rGq b9 false (aLoad Tryz.prog h4 9 v10) fun b11 v12 =>
  rGq b11 false (aBin Tryz.prog .lss 9 v8 v12) fun b13 v14 =>
  okBool (pickR (some (.v (.bool b13))) (some (.v (.bool true))) (some v14)) fun b15 =>
  condB b15
  (okV (aLoad Tryz.prog h4 31 (.ptr i0 0 0 3)) fun v16 =>
  okStr (some a1) fun s17 =>
  callR Tryz.prog G 56 [v16, (.v (.string s17))] h4 (fun v18 h19 =>
  okInt .i64 (extV 0 v18) fun n20 =>
  okInt .i64 (extV 1 v18) fun n21 =>
  RetR h K (.tup [(.v (.int .i64 n20)), (.v (.int .i64 n21))]) h19))
  (okV (aLoad Tryz.prog h4 31 (.ptr i0 0 0 1)) fun v22 =>
  okStr (some a1) fun s23 =>
  callR Tryz.prog G 56 [v22, (.v (.string s23))] h4 (fun v24 h25 =>
  okInt .i64 (extV 0 v24) fun n26 =>
  okInt .i64 (extV 1 v24) fun n27 =>
  RetR h K (.tup [(.v (.int .i64 n26)), (.v (.int .i64 n27))]) h25)))))
theorem Tryz.c55 (G : Nat → Option AV) (a0 a1 : AV) (h : AH) (K : AV → AH → Prop) (hk : LowH h.length h → Tryz.r55 G a0 a1 h K) : SCall Tryz.prog G 55 [a0, a1] h K :=
  scall_of_rwp Tryz.tab55 [] Tryz.func55 rfl Tryz.ntmps55 (by kernel_rfl) (by show 2 ≤ 31; decide) (by kernel_rfl) (by kernel_rfl) hk
-- 56 skylark/skylarkref06.Of
def Tryz.r56 (G : Nat → Option AV) (a0 a1 : AV) (h : AH) (K : AV → AH → Prop) : Prop :=
  callR Tryz.prog G 109 [a0] h (fun v0 h1 =>
  okBool (some v0) fun b2 =>
  condB (!b2)
  (RetR h K (.tup [(.v (.int .i64 0)), (.v (.int .i64 1))]) h1)
  (callR Tryz.prog G 111 [a0] h1 (fun v3 h4 =>
  okStr (some a1) fun s5 =>
  callR Tryz.prog G 110 [v3, (.v (.string s5))] h4 (fun v6 h7 =>
  okInt .i64 (some v6) fun n8 =>
  RetR h K (.tup [(.v (.int .i64 n8)), (.v (.int .i64 0))]) h7))))
theorem Tryz.c56 (G : Nat → Option AV) (a0 a1 : AV) (h : AH) (K : AV → AH → Prop) (hk : LowH h.length h → Tryz.r56 G a0 a1 h K) : SCall Tryz.prog G 56 [a0, a1] h K :=
  scall_of_rwp Tryz.tab56 [] Tryz.func56 rfl Tryz.ntmps56 (by kernel_rfl) (by show 2 ≤ 13; decide) (by kernel_rfl) (by kernel_rfl) hk
-- 57 (*skylark/admin.Admin).Chains
def Tryz.r57_l3_4 (K : AV → AH → Prop) (h : AH) (G : Nat → Option AV) (v2 : AV) (n3 : Int) (v29 : AV) (n30 : Int) : Prop :=
  ∃ (I4 : Nat → List AV → AH → Prop) (m5 : Nat), I4 m5 [v29, (.v (.int .i64 n30))] h ∧ ∀ (m6 : Nat) (h7 : AH), h.length ≤ h7.length → LowH h7.length h7 → ∀ (v8 : AV) (n9 : Int), I4 m6 [v8, (.v (.int .i64 n9))] h7 →
  condB (decide (n9 < n3))
  (okV (aIA Tryz.prog h7 102 v2 (.v (.int .i64 n9))) fun v10 =>
  okV (aLoad Tryz.prog h7 121 v10) fun v11 =>
  newO (.cells 121 3 [[(.v (.int .i64 0)), (.v (.slice none 0 0)), (.v (.slice none 0 0))]] 0) h7 fun i12 h13 =>
  storeR Tryz.prog h13 (fun v14 h15 =>
  okInt .i64 (aLoad Tryz.prog h15 3 (.ptr i12 0 0 0)) fun n16 =>
  okV (aLoad Tryz.prog h15 31 (.ptr i12 0 0 1)) fun v17 =>
  okV (aLoad Tryz.prog h15 31 (.ptr i12 0 0 2)) fun v18 =>
  callR Tryz.prog G 112 [v17] h15 (fun v19 h20 =>
  (aLoad Tryz.prog h20 31 (.ptr i12 0 0 2) = some v18) ∧ (aLoad Tryz.prog h20 3 (.ptr i12 0 0 0) = some (.v (.int .i64 n16))) ∧ callR Tryz.prog G 112 [v18] h20 (fun v21 h22 =>
  (aLoad Tryz.prog h22 3 (.ptr i12 0 0 0) = some (.v (.int .i64 n16))) ∧ okV (aBuild Tryz.prog 121 [(0, some (.v (.int .i64 n16))), (1, some v19), (2, some v21)]) fun v23 =>
  okP (rowsFill 3 (List.replicate 1 [(.v (.int .i64 0)), (.v (.slice none 0 0)), (.v (.slice none 0 0))]) [(0, some v23)]) fun r24 => newO (.cells 121 3 r24 0) h22 fun i25 h26 =>
  appR Tryz.prog h26 102 102 v8 (.sl i25 0 0 1 none) (fun v27 h28 =>
  nextR h I4 m6 [some v2, some (.v (.int .i64 n3))] [some v2, some (.v (.int .i64 n3))] [v27, (.v (.int .i64 (IntKind.wrap .i64 (n9 + 1))))] h28)))) 121 v11 (.ptr i12 0 0 0))
  (RetR h K v8 h7)
def Tryz.r57 (G : Nat → Option AV) (a0 : AV) (h : AH) (K : AV → AH → Prop) : Prop :=
  okV (aNil a0) fun v0 =>
  okV (aFA Tryz.prog 105 1 v0) fun v1 =>
  okV (aLoad Tryz.prog h 102 v1) fun v2 =>
  okInt .i64 (aLen Tryz.prog h 102 v2) fun n3 =>
  Tryz.r57_l3_4 K h G v2 n3 (.v (.slice none 0 0)) 0
theorem Tryz.c57 (G : Nat → Option AV) (a0 : AV) (h : AH) (K : AV → AH → Prop) (hk : LowH h.length h → Tryz.r57 G a0 h K) : SCall Tryz.prog G 57 [a0] h K :=
  scall_of_rwp Tryz.tab57 [(3, [(3, .any), (11, (.int .i64))], [9, 10])] Tryz.func57 rfl Tryz.ntmps57 (by kernel_rfl) (by show 1 ≤ 29; decide) (by kernel_rfl) (by kernel_rfl) hk
-- 58 (*skylark/admin.Admin).Brick
def Tryz.r58 (a0 a1 : AV) (h : AH) (K : AV → AH → Prop) : Prop :=
  okInt .i64 (some a1) fun n0 =>
  rGq (decide (n0 < 0)) false (some a1) fun b1 v2 =>
  rGq b1 false (some a0) fun b3 v4 =>
  rGq b3 false (aNil v4) fun b5 v6 =>
  rGq b5 false (aFA Tryz.prog 105 0 v6) fun b7 v8 =>
  rGq b7 false (aLoad Tryz.prog h 98 v8) fun b9 v10 =>
  rGq b9 false (aLen Tryz.prog h 98 v10) fun b11 v12 =>
  rGq b11 false (aBin Tryz.prog .geq 3 v2 v12) fun b13 v14 =>
  okBool (pickR (some (.v (.bool b13))) (some (.v (.bool true))) (some v14)) fun b15 =>
  condB b15
  (RetR h K (.tup [(.v (.int .i64 0)), (.v (.int .i64 0)), (.v (.int .i64 1))]) h)
  (okV (aNil a0) fun v16 =>
  okV (aFA Tryz.prog 105 0 v16) fun v17 =>
  okV (aLoad Tryz.prog h 98 v17) fun v18 =>
  okInt .i64 (some a1) fun n19 =>
  okV (aIA Tryz.prog h 98 v18 (.v (.int .i64 n19))) fun v20 =>
  okV (aFA Tryz.prog 101 0 v20) fun v21 =>
  okInt .i64 (aLoad Tryz.prog h 3 v21) fun n22 =>
  okV (aNil a0) fun v23 =>
  okV (aFA Tryz.prog 105 0 v23) fun v24 =>
  okV (aLoad Tryz.prog h 98 v24) fun v25 =>
  okInt .i64 (some a1) fun n26 =>
  okV (aIA Tryz.prog h 98 v25 (.v (.int .i64 n26))) fun v27 =>
  okV (aFA Tryz.prog 101 1 v27) fun v28 =>
  okInt .i64 (aLoad Tryz.prog h 3 v28) fun n29 =>
  (aLoad Tryz.prog h 3 v28 = some (.v (.int .i64 n29))) ∧ (aIA Tryz.prog h 98 v25 (.v (.int .i64 n26)) = some v27) ∧ (aLoad Tryz.prog h 98 v24 = some v25) ∧ RetR h K (.tup [(.v (.int .i64 n22)), (.v (.int .i64 n29)), (.v (.int .i64 0))]) h)
theorem Tryz.c58 (G : Nat → Option AV) (a0 a1 : AV) (h : AH) (K : AV → AH → Prop) (hk : LowH h.length h → Tryz.r58 a0 a1 h K) : SCall Tryz.prog G 58 [a0, a1] h K :=
  scall_of_rwp Tryz.tab58 [] Tryz.func58 rfl Tryz.ntmps58 (by kernel_rfl) (by show 2 ≤ 34; decide) (by kernel_rfl) (by kernel_rfl) hk
-- 59 (*skylark/admin.Admin).Layout
def Tryz.r59 (G : Nat → Option AV) (a0 : AV) (h : AH) (K : AV → AH → Prop) : Prop :=
  newO (.cells 43 2 [[(.v (.int .i64 0)), (.v (.slice none 0 0))]] 0) h fun i0 h1 =>
  okV (aNil a0) fun v2 =>
  okV (aFA Tryz.prog 105 2 v2) fun v3 =>
  okV (aLoad Tryz.prog h1 43 v3) fun v4 =>
  okV (aNil a0) fun v5 =>
  okV (aFA Tryz.prog 105 2 v5) fun v6 =>
  okV (aFA Tryz.prog 43 0 v6) fun v7 =>
  okInt .i64 (aLoad Tryz.prog h1 3 v7) fun n8 =>
  callR Tryz.prog G 113 [v4] h1 (fun v9 h10 =>
  (aLoad Tryz.prog h10 3 v7 = some (.v (.int .i64 n8))) ∧ storeR Tryz.prog h10 (fun v11 h12 =>
  (aLoad Tryz.prog h12 3 v7 = some (.v (.int .i64 n8))) ∧ okV (aLoad Tryz.prog h12 43 (.ptr i0 0 0 0)) fun v13 =>
  RetR h K (.tup [v13, (.v (.bool (decide (n8 > 0))))]) h12) 43 v9 (.ptr i0 0 0 0))
theorem Tryz.c59 (G : Nat → Option AV) (a0 : AV) (h : AH) (K : AV → AH → Prop) (hk : LowH h.length h → Tryz.r59 G a0 h K) : SCall Tryz.prog G 59 [a0] h K :=
  scall_of_rwp Tryz.tab59 [] Tryz.func59 rfl Tryz.ntmps59 (by kernel_rfl) (by show 1 ≤ 15; decide) (by kernel_rfl) (by kernel_rfl) hk
-- 60 (*skylark/admin.Admin).Change
def Tryz.r60 (G : Nat → Option AV) (a0 : AV) (h : AH) (K : AV → AH → Prop) : Prop :=
  newO (.cells 49 6 [[(.v (.int .i64 0)), (.v (.slice none 0 0)), (.v (.int .i64 0)), (.v (.slice none 0 0)), (.v (.string (ByteArray.mk #[]))), (.v (.bool false))]] 0) h fun i0 h1 =>
  okV (aNil a0) fun v2 =>
  okV (aFA Tryz.prog 105 3 v2) fun v3 =>
  okV (aLoad Tryz.prog h1 103 v3) fun v4 =>
  okBool (aBin Tryz.prog .eql 103 v4 (.v (.pointer none))) fun b5 =>
  condB b5
  (storeR Tryz.prog h1 (fun v6 h7 =>
  okV (aLoad Tryz.prog h7 49 (.ptr i0 0 0 0)) fun v8 =>
  RetR h K (.tup [v8, (.v (.bool false))]) h7) 49 (.agg [(.v (.int .i64 0)), (.v (.slice none 0 0)), (.v (.int .i64 0)), (.v (.slice none 0 0)), (.v (.string (ByteArray.mk #[]))), (.v (.bool false))]) (.ptr i0 0 0 0))
  (okV (aNil a0) fun v9 =>
  okV (aFA Tryz.prog 105 3 v9) fun v10 =>
  okV (aLoad Tryz.prog h1 103 v10) fun v11 =>
  okV (aNil v11) fun v12 =>
  okV (aLoad Tryz.prog h1 49 v12) fun v13 =>
  newO (.cells 49 6 [[(.v (.int .i64 0)), (.v (.slice none 0 0)), (.v (.int .i64 0)), (.v (.slice none 0 0)), (.v (.string (ByteArray.mk #[]))), (.v (.bool false))]] 0) h1 fun i14 h15 =>
  storeR Tryz.prog h15 (fun v16 h17 =>
  okV (aLoad Tryz.prog h17 43 (.ptr i14 0 0 0)) fun v18 =>
  okV (aLoad Tryz.prog h17 43 (.ptr i14 0 0 2)) fun v19 =>
  callR Tryz.prog G 113 [v18] h17 (fun v20 h21 =>
  (aLoad Tryz.prog h21 43 (.ptr i14 0 0 2) = some v19) ∧ callR Tryz.prog G 113 [v19] h21 (fun v22 h23 =>
  storeR Tryz.prog h23 (fun v24 h25 =>
  storeR Tryz.prog h25 (fun v26 h27 =>
  okV (aLoad Tryz.prog h27 49 (.ptr i14 0 0 0)) fun v28 =>
  storeR Tryz.prog h27 (fun v29 h30 =>
  okV (aLoad Tryz.prog h30 49 (.ptr i0 0 0 0)) fun v31 =>
  RetR h K (.tup [v31, (.v (.bool true))]) h30) 49 v28 (.ptr i0 0 0 0)) 43 v22 (.ptr i14 0 0 2)) 43 v20 (.ptr i14 0 0 0)))) 49 v13 (.ptr i14 0 0 0))
theorem Tryz.c60 (G : Nat → Option AV) (a0 : AV) (h : AH) (K : AV → AH → Prop) (hk : LowH h.length h → Tryz.r60 G a0 h K) : SCall Tryz.prog G 60 [a0] h K :=
  scall_of_rwp Tryz.tab60 [] Tryz.func60 rfl Tryz.ntmps60 (by kernel_rfl) (by show 1 ≤ 26; decide) (by kernel_rfl) (by kernel_rfl) hk
-- 61 skylark/skylarklaw18.sameLayout
def Tryz.r61 (G : Nat → Option AV) (a0 a1 : AV) (h : AH) (K : AV → AH → Prop) : Prop :=
  onlyB (AV.one a0) (newO (.cells 43 (AV.cells a0).length [AV.cells a0] 0) h fun i0 h1 =>
  onlyB (AV.one a1) (newO (.cells 43 (AV.cells a1).length [AV.cells a1] 0) h1 fun i2 h3 =>
  okInt .i64 (aLoad Tryz.prog h3 3 (.ptr i0 0 0 0)) fun n4 =>
  okInt .i64 (aLoad Tryz.prog h3 3 (.ptr i2 0 0 0)) fun n5 =>
  rGq (n4 == n5) true (some (.ptr i0 0 0 1)) fun b6 v7 =>
  rGq b6 true (aLoad Tryz.prog h3 31 v7) fun b8 v9 =>
  rGq b8 true (some (.ptr i2 0 0 1)) fun b10 v11 =>
  rGq b10 true (aLoad Tryz.prog h3 31 v11) fun b12 v13 =>
  rGe b12 true (fun k14 => callR Tryz.prog G 52 [v9, v13] h3 (fun v15 h16 =>
  k14 v15 h16)) h3 fun b17 v18 h19 =>
  okBool (pickR (some (.v (.bool b17))) (some v18) (some (.v (.bool false)))) fun b20 =>
  RetR h K (.v (.bool b20)) h19))
theorem Tryz.c61 (G : Nat → Option AV) (a0 a1 : AV) (h : AH) (K : AV → AH → Prop) (hk : LowH h.length h → Tryz.r61 G a0 a1 h K) : SCall Tryz.prog G 61 [a0, a1] h K :=
  scall_of_rwp Tryz.tab61 [] Tryz.func61 rfl Tryz.ntmps61 (by kernel_rfl) (by show 2 ≤ 17; decide) (by kernel_rfl) (by kernel_rfl) hk
-- 62 (*skylark/table.Table).Len
def Tryz.r63 (G : Nat → Option AV) (a0 : AV) (h : AH) (K : AV → AH → Prop) : Prop :=
  onlyB (AV.one a0) (newO (.cells 49 (AV.cells a0).length [AV.cells a0] 0) h fun i0 h1 =>
  okStr (aLoad Tryz.prog h1 9 (.ptr i0 0 0 4)) fun s2 =>
  okBool (aLoad Tryz.prog h1 4 (.ptr i0 0 0 5)) fun b3 =>
  newO (.cells 192 2 [[(.v (.string (ByteArray.mk #[]))), (.v (.bool false))]] 0) h1 fun i4 h5 =>
  storeR Tryz.prog h5 (fun v6 h7 =>
  okV (aLoad Tryz.prog h7 43 (.ptr i0 0 0 0)) fun v8 =>
  callR Tryz.prog G 114 [v8] h7 (fun v9 h10 =>
  okInt .i64 (some v9) fun n11 =>
  rGq (n11 != 0) false (some (.ptr i0 0 0 2)) fun b12 v13 =>
  rGq b12 false (aLoad Tryz.prog h10 43 v13) fun b14 v15 =>
  rGe b14 false (fun k16 => callR Tryz.prog G 114 [v15] h10 (fun v17 h18 =>
  k16 v17 h18)) h10 fun b19 v20 h21 =>
  rGq b19 false (aBin Tryz.prog .neq 24 v20 (.v (.int .i64 0))) fun b22 v23 =>
  okBool (pickR (some (.v (.bool b22))) (some (.v (.bool true))) (some v23)) fun b24 =>
  condB b24
  (RetR h K (.v (.int .i64 70)) h21)
  (okInt .i64 (aLoad Tryz.prog h21 3 (.ptr i0 0 0 2)) fun n25 =>
  okInt .i64 (aLoad Tryz.prog h21 3 (.ptr i0 0 0 0)) fun n26 =>
  rGq (n25 != (IntKind.wrap .i64 (n26 + 1))) false (some (.ptr i0 0 0 2)) fun b27 v28 =>
  rGq b27 false (aFA Tryz.prog 43 1 v28) fun b29 v30 =>
  rGq b29 false (aLoad Tryz.prog h21 31 v30) fun b31 v32 =>
  rGq b31 false (aLen Tryz.prog h21 31 v32) fun b33 v34 =>
  rGq b33 false (some (.ptr i0 0 0 0)) fun b35 v36 =>
  rGq b35 false (aFA Tryz.prog 43 1 v36) fun b37 v38 =>
  rGq b37 false (aLoad Tryz.prog h21 31 v38) fun b39 v40 =>
  rGq b39 false (aLen Tryz.prog h21 31 v40) fun b41 v42 =>
  rGq b41 false (aBin Tryz.prog .lss 3 v34 v42) fun b43 v44 =>
  okBool (pickR (some (.v (.bool b43))) (some (.v (.bool true))) (some v44)) fun b45 =>
  condB b45
  (RetR h K (.v (.int .i64 70)) h21)
  (okStr (aLoad Tryz.prog h21 9 (.ptr i4 0 0 0)) fun s46 =>
  rGq (decide (((ByteArray.size s46 : Nat) : Int) > 64)) false (some (.ptr i4 0 0 1)) fun b47 v48 =>
  rGq b47 false (aLoad Tryz.prog h21 4 v48) fun b49 v50 =>
  rGq b49 false (some v50) fun b51 v52 =>
  okG (some v52) true fun b53 g0 =>
  rGq b53 true (aLoad Tryz.prog h21 192 (.ptr i4 0 0 0)) fun b54 v55 =>
  okG (some (g0 b54)) true fun c1 g2 =>
  rGq c1 true (some (.agg [(.v (.string (ByteArray.mk #[]))), (.v (.bool true))])) fun b56 v57 =>
  okG (some (g2 b56)) true fun c3 g4 =>
  rGq c3 true (aBin Tryz.prog .neq 192 v55 v57) fun b58 v59 =>
  rGq b51 false (pickR (some (g4 b58)) (some v59) (some (.v (.bool false)))) fun b60 v61 =>
  okBool (pickR (some (.v (.bool b60))) (some (.v (.bool true))) (some v61)) fun b62 =>
  condB b62
  (RetR h K (.v (.int .i64 70)) h21)
  (RetR h K (.v (.int .i64 0)) h21))))) 192 (.agg [(.v (.string s2)), (.v (.bool b3))]) (.ptr i4 0 0 0))
theorem Tryz.c63 (G : Nat → Option AV) (a0 : AV) (h : AH) (K : AV → AH → Prop) (hk : LowH h.length h → Tryz.r63 G a0 h K) : SCall Tryz.prog G 63 [a0] h K :=
  scall_of_rwp Tryz.tab63 [] Tryz.func63 rfl Tryz.ntmps63 (by kernel_rfl) (by show 1 ≤ 54; decide) (by kernel_rfl) (by kernel_rfl) hk
-- 64 slices.SortStableFunc[[]skylark/api.Row,skylark/api.Row]
def Tryz.r68_l4_3 (K : AV → AH → Prop) (h : AH) (a0 : AV) (a1 : AV) (n2 : Int) (n12 : Int) : Prop :=
  ∃ (I3 : Nat → List AV → AH → Prop) (m4 : Nat), I3 m4 [(.v (.int .i64 n12))] h ∧ ∀ (m5 : Nat) (h6 : AH), h.length ≤ h6.length → LowH h6.length h6 → ∀ (n7 : Int), I3 m5 [(.v (.int .i64 n7))] h6 →
  condB (decide (n7 < n2))
  (okV (aIA Tryz.prog h6 31 a0 (.v (.int .i64 n7))) fun v8 =>
  okInt .i64 (aLoad Tryz.prog h6 3 v8) fun n9 =>
  okV (aIA Tryz.prog h6 31 a1 (.v (.int .i64 n7))) fun v10 =>
  okInt .i64 (aLoad Tryz.prog h6 3 v10) fun n11 =>
  condB (n9 != n11)
  (RetR h K (.v (.bool false)) h6)
  (nextR h I3 m5 [some a0, some a1, some (.v (.int .i64 n2))] [some a0, some a1, some (.v (.int .i64 n2))] [(.v (.int .i64 (IntKind.wrap .i64 (n7 + 1))))] h6))
  (RetR h K (.v (.bool true)) h6)
def Tryz.r68 (a0 a1 : AV) (h : AH) (K : AV → AH → Prop) : Prop :=
  okInt .i64 (aLen Tryz.prog h 31 a0) fun n0 =>
  okInt .i64 (aLen Tryz.prog h 31 a1) fun n1 =>
  condB (n0 != n1)
  (RetR h K (.v (.bool false)) h)
  (okInt .i64 (aLen Tryz.prog h 31 a0) fun n2 =>
  Tryz.r68_l4_3 K h a0 a1 n2 0)
theorem Tryz.c68 (G : Nat → Option AV) (a0 a1 : AV) (h : AH) (K : AV → AH → Prop) (hk : LowH h.length h → Tryz.r68 a0 a1 h K) : SCall Tryz.prog G 68 [a0, a1] h K :=
  scall_of_rwp Tryz.tab68 [(4, [(13, (.int .i64))], [0, 1, 12])] Tryz.func68 rfl Tryz.ntmps68 (by kernel_rfl) (by show 2 ≤ 26; decide) (by kernel_rfl) (by kernel_rfl) hk
-- 69 (skylark/layout.Change).Next
def Tryz.r70_l5_3 (K : AV → AH → Prop) (h : AH) (a0 : AV) (h0 : AH) (n13 : Int) (n14 : Int) : Prop :=
  ∃ (I3 : Nat → List AV → AH → Prop) (m4 : Nat), I3 m4 [(.v (.int .i64 n13)), (.v (.int .i64 n14))] h0 ∧ ∀ (m5 : Nat) (h6 : AH), h0.length ≤ h6.length → LowH h6.length h6 → ∀ (n7 : Int) (n8 : Int), I3 m5 [(.v (.int .i64 n7)), (.v (.int .i64 n8))] h6 →
  okInt .i64 (aLen Tryz.prog h6 31 a0) fun n9 =>
  condB (decide (n8 < n9))
  (okV (aIA Tryz.prog h6 31 a0 (.v (.int .i64 n8))) fun v10 =>
  okInt .i64 (aLoad Tryz.prog h6 3 v10) fun n11 =>
  okInt .i64 (aMinMax true [some (.v (.int .i64 n7)), some (.v (.int .i64 n11))]) fun n12 =>
  nextR h0 I3 m5 [some a0] [some a0] [(.v (.int .i64 n12)), (.v (.int .i64 (IntKind.wrap .i64 (n8 + 1))))] h6)
  (RetR h K (.v (.int .i64 n7)) h6)
def Tryz.r70_j1 (h : AH) (K : AV → AH → Prop) (a0 : AV) (h0 : AH) : Prop :=
  okV (aIA Tryz.prog h0 31 a0 (.v (.int .i64 0))) fun v1 =>
  okInt .i64 (aLoad Tryz.prog h0 3 v1) fun n2 =>
  Tryz.r70_l5_3 K h a0 h0 n2 1
def Tryz.r70 (a0 : AV) (h : AH) (K : AV → AH → Prop) : Prop :=
  okInt .i64 (aLen Tryz.prog h 31 a0) fun n15 =>
  condB (decide (n15 < 1))
  (okV (aMkI Tryz.prog 9 (.v (.string (ByteArray.mk #[115, 108, 105, 99, 101, 115, 46, 77, 97, 120, 58, 32, 101, 109, 112, 116, 121, 32, 108, 105, 115, 116])))) fun v16 =>
  False)
  (Tryz.r70_j1 h K a0 h)
theorem Tryz.c70 (G : Nat → Option AV) (a0 : AV) (h : AH) (K : AV → AH → Prop) (hk : LowH h.length h → Tryz.r70 a0 h K) : SCall Tryz.prog G 70 [a0] h K :=
  scall_of_rwp Tryz.tab70 [(5, [(3, (.int .i64)), (4, (.int .i64))], [0])] Tryz.func70 rfl Tryz.ntmps70 (by kernel_rfl) (by show 1 ≤ 25; decide) (by kernel_rfl) (by kernel_rfl) hk
-- 72 (skylark/skylarkref07.Change).Next
def Tryz.r82 (G : Nat → Option AV) (a0 : AV) (h : AH) (K : AV → AH → Prop) : Prop :=
  onlyB (AV.one a0) (newO (.cells 43 (AV.cells a0).length [AV.cells a0] 0) h fun i0 h1 =>
  okInt .i64 (aLoad Tryz.prog h1 3 (.ptr i0 0 0 0)) fun n2 =>
  rGq (decide (n2 ≥ 1)) true (some (.ptr i0 0 0 0)) fun b3 v4 =>
  rGq b3 true (aLoad Tryz.prog h1 3 v4) fun b5 v6 =>
  rGq b5 true (aBin Tryz.prog .leq 3 v6 (.v (.int .i64 1073741824))) fun b7 v8 =>
  okBool (pickR (some (.v (.bool b7))) (some v8) (some (.v (.bool false)))) fun b9 =>
  rGq b9 true (some (.ptr i0 0 0 1)) fun b10 v11 =>
  rGq b10 true (aLoad Tryz.prog h1 31 v11) fun b12 v13 =>
  rGe b12 true (fun k14 => callR Tryz.prog G 109 [v13] h1 (fun v15 h16 =>
  k14 v15 h16)) h1 fun b17 v18 h19 =>
  okBool (pickR (some (.v (.bool b17))) (some v18) (some (.v (.bool false)))) fun b20 =>
  RetR h K (.v (.bool b20)) h19)
theorem Tryz.c82 (G : Nat → Option AV) (a0 : AV) (h : AH) (K : AV → AH → Prop) (hk : LowH h.length h → Tryz.r82 G a0 h K) : SCall Tryz.prog G 82 [a0] h K :=
  scall_of_rwp Tryz.tab82 [] Tryz.func82 rfl Tryz.ntmps82 (by kernel_rfl) (by show 1 ≤ 16; decide) (by kernel_rfl) (by kernel_rfl) hk
-- 83 slices.ContainsFunc[[]skylark/api.Row,skylark/api.Row]
def Tryz.r88_l3_1 (K : AV → AH → Prop) (h : AH) (a0 : AV) (n0 : Int) (n8 : Int) : Prop :=
  ∃ (I1 : Nat → List AV → AH → Prop) (m2 : Nat), I1 m2 [(.v (.int .i64 n8))] h ∧ ∀ (m3 : Nat) (h4 : AH), h.length ≤ h4.length → LowH h4.length h4 → ∀ (n5 : Int), I1 m3 [(.v (.int .i64 n5))] h4 →
  condB (decide (n5 < n0))
  (okV (aIA Tryz.prog h4 31 a0 (.v (.int .i64 n5))) fun v6 =>
  okInt .i64 (aLoad Tryz.prog h4 3 v6) fun n7 =>
  condB (n7 != 0)
  (RetR h K (.v (.int .i64 n7)) h4)
  (nextR h I1 m3 [some (.v (.int .i64 0)), some a0, some (.v (.int .i64 n0))] [some (.v (.int .i64 0)), some a0, some (.v (.int .i64 n0))] [(.v (.int .i64 (IntKind.wrap .i64 (n5 + 1))))] h4))
  (RetR h K (.v (.int .i64 0)) h4)
def Tryz.r88 (a0 : AV) (h : AH) (K : AV → AH → Prop) : Prop :=
  okInt .i64 (aLen Tryz.prog h 31 a0) fun n0 =>
  Tryz.r88_l3_1 K h a0 n0 0
theorem Tryz.c88 (G : Nat → Option AV) (a0 : AV) (h : AH) (K : AV → AH → Prop) (hk : LowH h.length h → Tryz.r88 a0 h K) : SCall Tryz.prog G 88 [a0] h K :=
  scall_of_rwp Tryz.tab88 [(3, [(8, (.int .i64))], [3, 6, 7])] Tryz.func88 rfl Tryz.ntmps88 (by kernel_rfl) (by show 1 ≤ 18; decide) (by kernel_rfl) (by kernel_rfl) hk
-- 89 (*skylark/table.Table).at
def Tryz.r95 (G : Nat → Option AV) (a0 a1 : AV) (h : AH) (K : AV → AH → Prop) : Prop :=
  condB false
  (okInt .u64 (some a0) fun n0 =>
  okInt .u64 (some a1) fun n1 =>
  callR Tryz.prog G 135 [(.v (.int .u32 (IntKind.wrap .u32 n0))), (.v (.int .u32 (IntKind.wrap .u32 n1)))] h (fun v2 h3 =>
  okInt .u32 (extV 0 v2) fun n4 =>
  okInt .u32 (extV 1 v2) fun n5 =>
  RetR h K (.tup [(.v (.int .u64 (IntKind.wrap .u64 n4))), (.v (.int .u64 (IntKind.wrap .u64 n5)))]) h3))
  (okInt .u64 (some a0) fun n6 =>
  okInt .u64 (some a1) fun n7 =>
  callR Tryz.prog G 136 [(.v (.int .u64 n6)), (.v (.int .u64 n7))] h (fun v8 h9 =>
  okInt .u64 (extV 0 v8) fun n10 =>
  okInt .u64 (extV 1 v8) fun n11 =>
  RetR h K (.tup [(.v (.int .u64 n10)), (.v (.int .u64 n11))]) h9))
theorem Tryz.c95 (G : Nat → Option AV) (a0 a1 : AV) (h : AH) (K : AV → AH → Prop) (hk : LowH h.length h → Tryz.r95 G a0 a1 h K) : SCall Tryz.prog G 95 [a0, a1] h K :=
  scall_of_rwp Tryz.tab95 [] Tryz.func95 rfl Tryz.ntmps95 (by kernel_rfl) (by show 2 ≤ 30; decide) (by kernel_rfl) (by kernel_rfl) hk
-- 96 skylark/admin.commands$1
def Tryz.r96 (a0 : AV) (h : AH) (K : AV → AH → Prop) : Prop :=
  onlyB (AV.one a0) (newO (.cells 115 (AV.cells a0).length [AV.cells a0] 0) h fun i0 h1 =>
  newO (.cells 115 6 [[(.v (.bool false)), (.v (.bool false)), (.v (.bool false)), (.v (.bool false)), (.v (.bool false)), (.v .nilFunc)]] 0) h1 fun i2 h3 =>
  storeR Tryz.prog h3 (fun v4 h5 =>
  storeR Tryz.prog h5 (fun v6 h7 =>
  okV (aLoad Tryz.prog h7 115 (.ptr i0 0 0 0)) fun v8 =>
  storeR Tryz.prog h7 (fun v9 h10 =>
  okV (aLoad Tryz.prog h10 115 (.ptr i2 0 0 0)) fun v11 =>
  RetR h K v11 h10) 115 v8 (.ptr i2 0 0 0)) 113 (.fn (.func 97) [] []) (.ptr i0 0 0 5)) 4 (.v (.bool true)) (.ptr i0 0 0 1))
theorem Tryz.c96 (G : Nat → Option AV) (a0 : AV) (h : AH) (K : AV → AH → Prop) (hk : LowH h.length h → Tryz.r96 a0 h K) : SCall Tryz.prog G 96 [a0] h K :=
  scall_of_rwp Tryz.tab96 [] Tryz.func96 rfl Tryz.ntmps96 (by kernel_rfl) (by show 1 ≤ 6; decide) (by kernel_rfl) (by kernel_rfl) hk
-- 97 (*skylark/admin.Admin).onBrick
def Tryz.r97_j128 (K : AV → AH → Prop) (h : AH) (a0 : AV) (i3 : Nat) (n70 : Int) (i118 : Nat) (i122 : Nat) (h127 : AH) : Prop :=
  okV (aNil a0) fun v128 =>
  okV (aFA Tryz.prog 105 1 v128) fun v129 =>
  okV (aLoad Tryz.prog h127 102 v129) fun v130 =>
  okV (aNil a0) fun v131 =>
  okV (aFA Tryz.prog 105 0 v131) fun v132 =>
  okV (aLoad Tryz.prog h127 98 v132) fun v133 =>
  okInt .i64 (aLoad Tryz.prog h127 3 (.ptr i3 0 0 0)) fun n134 =>
  okV (aLoad Tryz.prog h127 121 (.ptr i118 0 0 0)) fun v135 =>
  okV (aLoad Tryz.prog h127 101 (.ptr i122 0 0 0)) fun v136 =>
  okV (aIA Tryz.prog h127 102 v130 (.v (.int .i64 n70))) fun v137 =>
  storeR Tryz.prog h127 (fun v138 h139 =>
  (aLoad Tryz.prog h139 101 (.ptr i122 0 0 0) = some v136) ∧ (aLoad Tryz.prog h139 3 (.ptr i3 0 0 0) = some (.v (.int .i64 n134))) ∧ okV (aIA Tryz.prog h139 98 v133 (.v (.int .i64 n134))) fun v140 =>
  storeR Tryz.prog h139 (fun v141 h142 =>
  RetR h K (.v (.int .i64 0)) h142) 101 v136 v140) 121 v135 v137
def Tryz.r97_j127 (h : AH) (K : AV → AH → Prop) (a0 : AV) (i3 : Nat) (n70 : Int) (b105 : Bool) (i118 : Nat) (i122 : Nat) (h126 : AH) : Prop :=
  rGq b105 false (some (.ptr i122 0 0 0)) fun b143 v144 =>
  rGq b143 false (aLoad Tryz.prog h126 3 v144) fun b145 v146 =>
  rGq b145 false (aBin Tryz.prog .eql 3 v146 (.v (.int .i64 2))) fun b147 v148 =>
  okBool (pickR (some (.v (.bool b147))) (some (.v (.bool true))) (some v148)) fun b149 =>
  condB b149
  (okV (aLoad Tryz.prog h126 31 (.ptr i118 0 0 1)) fun v150 =>
  okInt .i64 (aLoad Tryz.prog h126 3 (.ptr i3 0 0 0)) fun n151 =>
  newO (.cells 3 1 [[(.v (.int .i64 n151))]] 0) h126 fun i152 h153 =>
  appR Tryz.prog h153 31 31 v150 (.sl i152 0 0 1 none) (fun v154 h155 =>
  storeR Tryz.prog h155 (fun v156 h157 =>
  Tryz.r97_j128 K h a0 i3 n70 i118 i122 h157) 31 v154 (.ptr i118 0 0 1)))
  (okInt .i64 (aLoad Tryz.prog h126 3 (.ptr i122 0 0 0)) fun n158 =>
  condB (n158 == 1)
  (okV (aLoad Tryz.prog h126 31 (.ptr i118 0 0 2)) fun v159 =>
  okInt .i64 (aLoad Tryz.prog h126 3 (.ptr i3 0 0 0)) fun n160 =>
  newO (.cells 3 1 [[(.v (.int .i64 n160))]] 0) h126 fun i161 h162 =>
  appR Tryz.prog h162 31 31 v159 (.sl i161 0 0 1 none) (fun v163 h164 =>
  storeR Tryz.prog h164 (fun v165 h166 =>
  Tryz.r97_j128 K h a0 i3 n70 i118 i122 h166) 31 v163 (.ptr i118 0 0 2)))
  (Tryz.r97_j128 K h a0 i3 n70 i118 i122 h126))
def Tryz.r97_j72 (K : AV → AH → Prop) (h : AH) (G : Nat → Option AV) (a0 : AV) (i0 : Nat) (i3 : Nat) (n70 : Int) (h71 : AH) : Prop :=
  okV (aNil a0) fun v72 =>
  okV (aFA Tryz.prog 105 1 v72) fun v73 =>
  okV (aLoad Tryz.prog h71 102 v73) fun v74 =>
  okV (aIA Tryz.prog h71 102 v74 (.v (.int .i64 n70))) fun v75 =>
  okV (aLoad Tryz.prog h71 121 v75) fun v76 =>
  newO (.cells 121 3 [[(.v (.int .i64 0)), (.v (.slice none 0 0)), (.v (.slice none 0 0))]] 0) h71 fun i77 h78 =>
  storeR Tryz.prog h78 (fun v79 h80 =>
  okInt .i64 (aLoad Tryz.prog h80 3 (.ptr i0 0 0 0)) fun n81 =>
  rGq (n81 == 6) true (some (.ptr i0 0 0 3)) fun b82 v83 =>
  rGq b82 true (aLoad Tryz.prog h80 3 v83) fun b84 v85 =>
  rGq b84 true (some (.ptr i77 0 0 0)) fun b86 v87 =>
  rGq b86 true (aLoad Tryz.prog h80 3 v87) fun b88 v89 =>
  rGq b88 true (aBin Tryz.prog .neq 3 v85 v89) fun b90 v91 =>
  okBool (pickR (some (.v (.bool b90))) (some v91) (some (.v (.bool false)))) fun b92 =>
  condB b92
  (RetR h K (.v (.int .i64 150)) h80)
  (okInt .i64 (aLoad Tryz.prog h80 3 (.ptr i77 0 0 0)) fun n93 =>
  condB (decide (n93 ≥ 1073741824))
  (RetR h K (.v (.int .i64 2)) h80)
  (okInt .i64 (aLoad Tryz.prog h80 3 (.ptr i0 0 0 0)) fun n94 =>
  rGq (n94 != 2) true (some a0) fun b95 v96 =>
  rGq b95 true (aLoad Tryz.prog h80 3 (.ptr i3 0 0 0)) fun b97 v98 =>
  rGe b97 true (fun k99 => callR Tryz.prog G 139 [v96, v98] h80 (fun v100 h101 =>
  k99 v100 h101)) h80 fun b102 v103 h104 =>
  okBool (pickR (some (.v (.bool b102))) (some v103) (some (.v (.bool false)))) fun b105 =>
  okInt .i64 (aLoad Tryz.prog h104 3 (.ptr i77 0 0 0)) fun n106 =>
  okV (aLoad Tryz.prog h104 31 (.ptr i77 0 0 1)) fun v107 =>
  okV (aLoad Tryz.prog h104 31 (.ptr i77 0 0 2)) fun v108 =>
  callR Tryz.prog G 112 [v107] h104 (fun v109 h110 =>
  (aLoad Tryz.prog h110 31 (.ptr i77 0 0 2) = some v108) ∧ (aLoad Tryz.prog h110 3 (.ptr i77 0 0 0) = some (.v (.int .i64 n106))) ∧ callR Tryz.prog G 140 [v109, (.fn (.func 138) [] [(.ptr i3 0 0 0)])] h110 (fun v111 h112 =>
  (aLoad Tryz.prog h112 31 (.ptr i77 0 0 2) = some v108) ∧ (aLoad Tryz.prog h112 3 (.ptr i77 0 0 0) = some (.v (.int .i64 n106))) ∧ callR Tryz.prog G 112 [v108] h112 (fun v113 h114 =>
  (aLoad Tryz.prog h114 3 (.ptr i77 0 0 0) = some (.v (.int .i64 n106))) ∧ callR Tryz.prog G 140 [v113, (.fn (.func 138) [] [(.ptr i3 0 0 0)])] h114 (fun v115 h116 =>
  (aLoad Tryz.prog h116 3 (.ptr i77 0 0 0) = some (.v (.int .i64 n106))) ∧ okV (aBuild Tryz.prog 121 [(0, some (.v (.int .i64 (IntKind.wrap .i64 (n106 + 1))))), (1, some v111), (2, some v115)]) fun v117 =>
  newO (.cells 121 3 [[(.v (.int .i64 0)), (.v (.slice none 0 0)), (.v (.slice none 0 0))]] 0) h116 fun i118 h119 =>
  (aLoad Tryz.prog h119 31 (.ptr i77 0 0 2) = some v108) ∧ (aLoad Tryz.prog h119 31 (.ptr i77 0 0 1) = some v107) ∧ (aLoad Tryz.prog h119 3 (.ptr i77 0 0 0) = some (.v (.int .i64 n106))) ∧ storeR Tryz.prog h119 (fun v120 h121 =>
  newO (.cells 101 2 [[(.v (.int .i64 0)), (.v (.int .i64 0))]] 0) h121 fun i122 h123 =>
  storeR Tryz.prog h123 (fun v124 h125 =>
  okInt .i64 (aLoad Tryz.prog h125 3 (.ptr i0 0 0 0)) fun n167 =>
  condB (n167 == 3)
  (storeR Tryz.prog h125 (fun v168 h169 =>
  Tryz.r97_j127 h K a0 i3 n70 b105 i118 i122 h169) 101 (.agg [(.v (.int .i64 0)), (.v (.int .i64 (-1)))]) (.ptr i122 0 0 0))
  (condB (n167 == 4)
  (storeR Tryz.prog h125 (fun v170 h171 =>
  Tryz.r97_j127 h K a0 i3 n70 b105 i118 i122 h171) 3 (.v (.int .i64 3)) (.ptr i122 0 0 0))
  (condB (n167 == 6)
  (storeR Tryz.prog h125 (fun v172 h173 =>
  Tryz.r97_j127 h K a0 i3 n70 b105 i118 i122 h173) 3 (.v (.int .i64 2)) (.ptr i122 0 0 0))
  (condB (n167 == 5)
  (condB b105
  (storeR Tryz.prog h125 (fun v174 h175 =>
  Tryz.r97_j127 h K a0 i3 n70 b105 i118 i122 h175) 3 (.v (.int .i64 2)) (.ptr i122 0 0 0))
  (Tryz.r97_j127 h K a0 i3 n70 b105 i118 i122 h125))
  (Tryz.r97_j127 h K a0 i3 n70 b105 i118 i122 h125))))) 101 (.agg [(.v (.int .i64 1)), (.v (.int .i64 n70))]) (.ptr i122 0 0 0)) 121 v117 (.ptr i118 0 0 0)))))))) 121 v76 (.ptr i77 0 0 0)
def Tryz.r97 (G : Nat → Option AV) (a0 a1 : AV) (h : AH) (K : AV → AH → Prop) : Prop :=
  onlyB (AV.one a1) (newO (.cells 33 (AV.cells a1).length [AV.cells a1] 0) h fun i0 h1 =>
  okInt .i64 (aLoad Tryz.prog h1 3 (.ptr i0 0 0 2)) fun n2 =>
  newO (.cells 3 1 [[(.v (.int .i64 0))]] 0) h1 fun i3 h4 =>
  storeR Tryz.prog h4 (fun v5 h6 =>
  okInt .i64 (aLoad Tryz.prog h6 3 (.ptr i3 0 0 0)) fun n7 =>
  rGq (decide (n7 < 0)) false (aLoad Tryz.prog h6 3 (.ptr i3 0 0 0)) fun b8 v9 =>
  rGq b8 false (some a0) fun b10 v11 =>
  rGq b10 false (aNil v11) fun b12 v13 =>
  rGq b12 false (aFA Tryz.prog 105 0 v13) fun b14 v15 =>
  rGq b14 false (aLoad Tryz.prog h6 98 v15) fun b16 v17 =>
  rGq b16 false (aLen Tryz.prog h6 98 v17) fun b18 v19 =>
  rGq b18 false (aBin Tryz.prog .geq 3 v9 v19) fun b20 v21 =>
  okBool (pickR (some (.v (.bool b20))) (some (.v (.bool true))) (some v21)) fun b22 =>
  rGq b22 false (some (.ptr i0 0 0 1)) fun b23 v24 =>
  rGq b23 false (aLoad Tryz.prog h6 3 v24) fun b25 v26 =>
  rGq b25 false (aBin Tryz.prog .lss 3 v26 (.v (.int .i64 0))) fun b27 v28 =>
  okBool (pickR (some (.v (.bool b27))) (some (.v (.bool true))) (some v28)) fun b29 =>
  rGq b29 false (some (.ptr i0 0 0 0)) fun b30 v31 =>
  rGq b30 false (aLoad Tryz.prog h6 3 v31) fun b32 v33 =>
  rGq b32 false (aBin Tryz.prog .eql 3 v33 (.v (.int .i64 2))) fun b34 v35 =>
  rGq b34 false (some v35) fun b36 v37 =>
  okG (some v37) true fun b38 g0 =>
  rGq b38 true (some (.ptr i0 0 0 1)) fun b39 v40 =>
  okG (some (g0 b39)) true fun c1 g2 =>
  rGq c1 true (aLoad Tryz.prog h6 3 v40) fun b41 v42 =>
  okG (some (g2 b41)) true fun c3 g4 =>
  rGq c3 true (some a0) fun b43 v44 =>
  okG (some (g4 b43)) true fun c5 g6 =>
  rGq c5 true (aNil v44) fun b45 v46 =>
  okG (some (g6 b45)) true fun c7 g8 =>
  rGq c7 true (aFA Tryz.prog 105 1 v46) fun b47 v48 =>
  okG (some (g8 b47)) true fun c9 g10 =>
  rGq c9 true (aLoad Tryz.prog h6 102 v48) fun b49 v50 =>
  okG (some (g10 b49)) true fun c11 g12 =>
  rGq c11 true (aLen Tryz.prog h6 102 v50) fun b51 v52 =>
  okG (some (g12 b51)) true fun c13 g14 =>
  rGq c13 true (aBin Tryz.prog .geq 3 v42 v52) fun b53 v54 =>
  rGq b36 false (pickR (some (g14 b53)) (some v54) (some (.v (.bool false)))) fun b55 v56 =>
  okBool (pickR (some (.v (.bool b55))) (some (.v (.bool true))) (some v56)) fun b57 =>
  condB b57
  (RetR h K (.v (.int .i64 1)) h6)
  (okInt .i64 (aLoad Tryz.prog h6 3 (.ptr i0 0 0 0)) fun n58 =>
  okInt .i64 (aLoad Tryz.prog h6 3 (.ptr i3 0 0 0)) fun n59 =>
  callR Tryz.prog G 137 [a0, (.v (.int .i64 n58)), (.v (.int .i64 n59))] h6 (fun v60 h61 =>
  okBool (some v60) fun b62 =>
  condB (!b62)
  (RetR h K (.v (.int .i64 180)) h61)
  (okV (aNil a0) fun v63 =>
  okV (aFA Tryz.prog 105 0 v63) fun v64 =>
  okV (aLoad Tryz.prog h61 98 v64) fun v65 =>
  okInt .i64 (aLoad Tryz.prog h61 3 (.ptr i3 0 0 0)) fun n66 =>
  okV (aIA Tryz.prog h61 98 v65 (.v (.int .i64 n66))) fun v67 =>
  okV (aFA Tryz.prog 101 1 v67) fun v68 =>
  okInt .i64 (aLoad Tryz.prog h61 3 v68) fun n69 =>
  okInt .i64 (aLoad Tryz.prog h61 3 (.ptr i0 0 0 0)) fun n176 =>
  condB (n176 == 2)
  (okInt .i64 (aLoad Tryz.prog h61 3 (.ptr i0 0 0 1)) fun n177 =>
  Tryz.r97_j72 K h G a0 i0 i3 n177 h61)
  (Tryz.r97_j72 K h G a0 i0 i3 n69 h61))))) 3 (.v (.int .i64 n2)) (.ptr i3 0 0 0))
theorem Tryz.c97 (G : Nat → Option AV) (a0 a1 : AV) (h : AH) (K : AV → AH → Prop) (hk : LowH h.length h → Tryz.r97 G a0 a1 h K) : SCall Tryz.prog G 97 [a0, a1] h K :=
  scall_of_rwp Tryz.tab97 [] Tryz.func97 rfl Tryz.ntmps97 (by kernel_rfl) (by show 2 ≤ 163; decide) (by kernel_rfl) (by kernel_rfl) hk
-- 98 (*skylark/admin.Admin).make
def Tryz.r98_l14_83 (K : AV → AH → Prop) (h : AH) (G : Nat → Option AV) (i0 : Nat) (i2 : Nat) (h24 : AH) (v81 : AV) (n82 : Int) (n142 : Int) : Prop :=
  ∃ (I83 : Nat → List AV → AH → Prop) (m84 : Nat), I83 m84 [(.v (.int .i64 n142))] h24 ∧ ∀ (m85 : Nat) (h86 : AH), h24.length ≤ h86.length → LowH h86.length h86 → ∀ (n87 : Int), I83 m85 [(.v (.int .i64 n87))] h86 →
  condB (decide (n87 < n82))
  (okV (aIA Tryz.prog h86 31 v81 (.v (.int .i64 n87))) fun v88 =>
  okInt .i64 (aLoad Tryz.prog h86 3 v88) fun n89 =>
  okV (aLoad Tryz.prog h86 23 (.ptr i0 0 0 0)) fun v90 =>
  okV (aNil v90) fun v91 =>
  okV (aFA Tryz.prog 105 0 v91) fun v92 =>
  okV (aLoad Tryz.prog h86 98 v92) fun v93 =>
  okV (aLoad Tryz.prog h86 23 (.ptr i0 0 0 0)) fun v94 =>
  okV (aNil v94) fun v95 =>
  okV (aFA Tryz.prog 105 1 v95) fun v96 =>
  okV (aLoad Tryz.prog h86 102 v96) fun v97 =>
  okInt .i64 (aLen Tryz.prog h86 102 v97) fun n98 =>
  okV (aIA Tryz.prog h86 98 v93 (.v (.int .i64 n89))) fun v99 =>
  storeR Tryz.prog h86 (fun v100 h101 =>
  nextR h24 I83 m85 [some (.ptr i0 0 0 0), some (.ptr i2 0 0 0), some v81, some (.v (.int .i64 n82))] [some (.ptr i0 0 0 0), some (.ptr i2 0 0 0), some v81, some (.v (.int .i64 n82))] [(.v (.int .i64 (IntKind.wrap .i64 (n87 + 1))))] h101) 101 (.agg [(.v (.int .i64 2)), (.v (.int .i64 n98))]) v99)
  (okV (aLoad Tryz.prog h86 23 (.ptr i0 0 0 0)) fun v102 =>
  okV (aLoad Tryz.prog h86 23 (.ptr i0 0 0 0)) fun v103 =>
  okV (aNil v103) fun v104 =>
  okV (aFA Tryz.prog 105 1 v104) fun v105 =>
  okV (aLoad Tryz.prog h86 102 v105) fun v106 =>
  okV (aLoad Tryz.prog h86 31 (.ptr i2 0 0 4)) fun v107 =>
  callR Tryz.prog G 112 [v107] h86 (fun v108 h109 =>
  (aLoad Tryz.prog h109 102 v105 = some v106) ∧ (aLoad Tryz.prog h109 23 (.ptr i0 0 0 0) = some v103) ∧ (aLoad Tryz.prog h109 23 (.ptr i0 0 0 0) = some v102) ∧ okV (aBuild Tryz.prog 121 [(0, some (.v (.int .i64 1))), (1, some v108)]) fun v110 =>
  okP (rowsFill 3 (List.replicate 1 [(.v (.int .i64 0)), (.v (.slice none 0 0)), (.v (.slice none 0 0))]) [(0, some v110)]) fun r111 => newO (.cells 121 3 r111 0) h109 fun i112 h113 =>
  (aLoad Tryz.prog h113 102 v105 = some v106) ∧ (aLoad Tryz.prog h113 23 (.ptr i0 0 0 0) = some v103) ∧ (aLoad Tryz.prog h113 23 (.ptr i0 0 0 0) = some v102) ∧ appR Tryz.prog h113 102 102 v106 (.sl i112 0 0 1 none) (fun v114 h115 =>
  (aLoad Tryz.prog h115 23 (.ptr i0 0 0 0) = some v102) ∧ okV (aNil v102) fun v116 =>
  okV (aFA Tryz.prog 105 1 v116) fun v117 =>
  storeR Tryz.prog h115 (fun v118 h119 =>
  okV (aLoad Tryz.prog h119 23 (.ptr i0 0 0 0)) fun v120 =>
  okV (aLoad Tryz.prog h119 23 (.ptr i0 0 0 0)) fun v121 =>
  okV (aNil v121) fun v122 =>
  okV (aFA Tryz.prog 105 2 v122) fun v123 =>
  okV (aFA Tryz.prog 43 0 v123) fun v124 =>
  okInt .i64 (aLoad Tryz.prog h119 3 v124) fun n125 =>
  okV (aLoad Tryz.prog h119 23 (.ptr i0 0 0 0)) fun v126 =>
  okV (aNil v126) fun v127 =>
  okV (aFA Tryz.prog 105 2 v127) fun v128 =>
  okV (aFA Tryz.prog 43 1 v128) fun v129 =>
  okV (aLoad Tryz.prog h119 31 v129) fun v130 =>
  callR Tryz.prog G 112 [v130] h119 (fun v131 h132 =>
  (aLoad Tryz.prog h132 3 v124 = some (.v (.int .i64 n125))) ∧ (aLoad Tryz.prog h132 23 (.ptr i0 0 0 0) = some v121) ∧ (aLoad Tryz.prog h132 23 (.ptr i0 0 0 0) = some v120) ∧ newO (.cells 3 1 [[(.v (.int .i64 16))]] 0) h132 fun i133 h134 =>
  (aLoad Tryz.prog h134 31 v129 = some v130) ∧ (aLoad Tryz.prog h134 23 (.ptr i0 0 0 0) = some v126) ∧ (aLoad Tryz.prog h134 3 v124 = some (.v (.int .i64 n125))) ∧ (aLoad Tryz.prog h134 23 (.ptr i0 0 0 0) = some v121) ∧ (aLoad Tryz.prog h134 23 (.ptr i0 0 0 0) = some v120) ∧ appR Tryz.prog h134 31 31 v131 (.sl i133 0 0 1 none) (fun v135 h136 =>
  (aLoad Tryz.prog h136 3 v124 = some (.v (.int .i64 n125))) ∧ (aLoad Tryz.prog h136 23 (.ptr i0 0 0 0) = some v121) ∧ (aLoad Tryz.prog h136 23 (.ptr i0 0 0 0) = some v120) ∧ okV (aBuild Tryz.prog 43 [(0, some (.v (.int .i64 (IntKind.wrap .i64 (n125 + 1))))), (1, some v135)]) fun v137 =>
  okV (aNil v120) fun v138 =>
  okV (aFA Tryz.prog 105 2 v138) fun v139 =>
  storeR Tryz.prog h136 (fun v140 h141 =>
  RetR h K (.v (.int .i64 0)) h141) 43 v137 v139))) 102 v114 v117)))
def Tryz.r98_l6_21 (G : Nat → Option AV) (h : AH) (K : AV → AH → Prop) (i0 : Nat) (i2 : Nat) (h6 : AH) (v19 : AV) (n20 : Int) (n143 : Int) : Prop :=
  ∃ (I21 : Nat → List AV → AH → Prop) (m22 : Nat), I21 m22 [(.v (.int .i64 n143))] h6 ∧ ∀ (m23 : Nat) (h24 : AH), h6.length ≤ h24.length → LowH h24.length h24 → ∀ (n25 : Int), I21 m23 [(.v (.int .i64 n25))] h24 →
  condB (decide (n25 < n20))
  (okV (aIA Tryz.prog h24 31 v19 (.v (.int .i64 n25))) fun v26 =>
  okInt .i64 (aLoad Tryz.prog h24 3 v26) fun n27 =>
  okV (aLoad Tryz.prog h24 23 (.ptr i0 0 0 0)) fun v28 =>
  okV (aNil v28) fun v29 =>
  okV (aFA Tryz.prog 105 0 v29) fun v30 =>
  okV (aLoad Tryz.prog h24 98 v30) fun v31 =>
  okV (aIA Tryz.prog h24 98 v31 (.v (.int .i64 n27))) fun v32 =>
  okV (aFA Tryz.prog 101 0 v32) fun v33 =>
  okInt .i64 (aLoad Tryz.prog h24 3 v33) fun n34 =>
  rGq (n34 != 0) false (some (.ptr i2 0 0 4)) fun b35 v36 =>
  rGq b35 false (aLoad Tryz.prog h24 31 v36) fun b37 v38 =>
  rGq b37 false (some (.v (.int .i64 n25))) fun b39 v40 =>
  rGq b39 false (aSlice Tryz.prog h24 31 v38 none (some (some v40)) none) fun b41 v42 =>
  rGq b41 false (some (.v (.int .i64 n27))) fun b43 v44 =>
  rGe b43 false (fun k45 => callR Tryz.prog G 143 [v42, v44] h24 (fun v46 h47 =>
  k45 v46 h47)) h24 fun b48 v49 h50 =>
  okBool (pickR (some (.v (.bool b48))) (some (.v (.bool true))) (some v49)) fun b51 =>
  condB b51
  (RetR h K (.v (.int .i64 180)) h50)
  (nextR h6 I21 m23 [some (.ptr i0 0 0 0), some (.ptr i2 0 0 0), some v19, some (.v (.int .i64 n20))] [some (.ptr i0 0 0 0), some (.ptr i2 0 0 0), some v19, some (.v (.int .i64 n20))] [(.v (.int .i64 (IntKind.wrap .i64 (n25 + 1))))] h50))
  (okV (aLoad Tryz.prog h24 23 (.ptr i0 0 0 0)) fun v52 =>
  okV (aNil v52) fun v53 =>
  okV (aFA Tryz.prog 105 1 v53) fun v54 =>
  okV (aLoad Tryz.prog h24 102 v54) fun v55 =>
  okInt .i64 (aLen Tryz.prog h24 102 v55) fun n56 =>
  rGq (decide (n56 ≥ 8)) false (aLoad Tryz.prog h24 23 (.ptr i0 0 0 0)) fun b57 v58 =>
  rGq b57 false (aNil v58) fun b59 v60 =>
  rGq b59 false (aFA Tryz.prog 105 3 v60) fun b61 v62 =>
  rGq b61 false (aLoad Tryz.prog h24 103 v62) fun b63 v64 =>
  rGq b63 false (aBin Tryz.prog .neq 103 v64 (.v (.pointer none))) fun b65 v66 =>
  okBool (pickR (some (.v (.bool b65))) (some (.v (.bool true))) (some v66)) fun b67 =>
  rGq b67 false (aLoad Tryz.prog h24 23 (.ptr i0 0 0 0)) fun b68 v69 =>
  rGq b68 false (aNil v69) fun b70 v71 =>
  rGq b70 false (aFA Tryz.prog 105 2 v71) fun b72 v73 =>
  rGq b72 false (aFA Tryz.prog 43 0 v73) fun b74 v75 =>
  rGq b74 false (aLoad Tryz.prog h24 3 v75) fun b76 v77 =>
  rGq b76 false (aBin Tryz.prog .geq 3 v77 (.v (.int .i64 1073741824))) fun b78 v79 =>
  okBool (pickR (some (.v (.bool b78))) (some (.v (.bool true))) (some v79)) fun b80 =>
  condB b80
  (RetR h K (.v (.int .i64 2)) h24)
  (okV (aLoad Tryz.prog h24 31 (.ptr i2 0 0 4)) fun v81 =>
  okInt .i64 (aLen Tryz.prog h24 31 v81) fun n82 =>
  Tryz.r98_l14_83 K h G i0 i2 h24 v81 n82 0))
def Tryz.r98 (G : Nat → Option AV) (a0 a1 : AV) (h : AH) (K : AV → AH → Prop) : Prop :=
  onlyB (AV.one a0) (newO (.cells 23 (AV.cells a0).length [AV.cells a0] 0) h fun i0 h1 =>
  onlyB (AV.one a1) (newO (.cells 33 (AV.cells a1).length [AV.cells a1] 0) h1 fun i2 h3 =>
  okV (aLoad Tryz.prog h3 31 (.ptr i2 0 0 4)) fun v4 =>
  callR Tryz.prog G 141 [v4, (.fn (.func 142) [] [(.ptr i0 0 0 0)])] h3 (fun v5 h6 =>
  okBool (some v5) fun b7 =>
  condB b7
  (RetR h K (.v (.int .i64 1)) h6)
  (okV (aLoad Tryz.prog h6 31 (.ptr i2 0 0 4)) fun v8 =>
  okInt .i64 (aLen Tryz.prog h6 31 v8) fun n9 =>
  rGq (decide (n9 < 1)) false (some (.ptr i2 0 0 4)) fun b10 v11 =>
  rGq b10 false (aLoad Tryz.prog h6 31 v11) fun b12 v13 =>
  rGq b12 false (aLen Tryz.prog h6 31 v13) fun b14 v15 =>
  rGq b14 false (aBin Tryz.prog .gtr 3 v15 (.v (.int .i64 8))) fun b16 v17 =>
  okBool (pickR (some (.v (.bool b16))) (some (.v (.bool true))) (some v17)) fun b18 =>
  condB b18
  (RetR h K (.v (.int .i64 180)) h6)
  (okV (aLoad Tryz.prog h6 31 (.ptr i2 0 0 4)) fun v19 =>
  okInt .i64 (aLen Tryz.prog h6 31 v19) fun n20 =>
  Tryz.r98_l6_21 G h K i0 i2 h6 v19 n20 0)))))
theorem Tryz.c98 (G : Nat → Option AV) (a0 a1 : AV) (h : AH) (K : AV → AH → Prop) (hk : LowH h.length h → Tryz.r98 G a0 a1 h K) : SCall Tryz.prog G 98 [a0, a1] h K :=
  scall_of_rwp Tryz.tab98 [(6, [(26, (.int .i64))], [2, 3, 24, 25]), (14, [(73, (.int .i64))], [2, 3, 71, 72])] Tryz.func98 rfl Tryz.ntmps98 (by kernel_rfl) (by show 2 ≤ 121; decide) (by kernel_rfl) (by kernel_rfl) hk
-- 99 (*skylark/admin.Admin).begin
def Tryz.r99 (G : Nat → Option AV) (a0 a1 : AV) (h : AH) (K : AV → AH → Prop) : Prop :=
  onlyB (AV.one a1) (newO (.cells 33 (AV.cells a1).length [AV.cells a1] 0) h fun i0 h1 =>
  okV (aNil a0) fun v2 =>
  okV (aFA Tryz.prog 105 3 v2) fun v3 =>
  okV (aLoad Tryz.prog h1 103 v3) fun v4 =>
  okBool (aBin Tryz.prog .neq 103 v4 (.v (.pointer none))) fun b5 =>
  condB b5
  (RetR h K (.v (.int .i64 180)) h1)
  (okV (aNil a0) fun v6 =>
  okV (aFA Tryz.prog 105 2 v6) fun v7 =>
  okV (aFA Tryz.prog 43 0 v7) fun v8 =>
  okInt .i64 (aLoad Tryz.prog h1 3 v8) fun n9 =>
  condB (decide (n9 ≥ 1073741824))
  (RetR h K (.v (.int .i64 2)) h1)
  (okV (aNil a0) fun v10 =>
  okV (aFA Tryz.prog 105 2 v10) fun v11 =>
  okV (aLoad Tryz.prog h1 43 v11) fun v12 =>
  okV (aNil a0) fun v13 =>
  okV (aFA Tryz.prog 105 2 v13) fun v14 =>
  okV (aFA Tryz.prog 43 0 v14) fun v15 =>
  okInt .i64 (aLoad Tryz.prog h1 3 v15) fun n16 =>
  okV (aLoad Tryz.prog h1 31 (.ptr i0 0 0 4)) fun v17 =>
  callR Tryz.prog G 112 [v17] h1 (fun v18 h19 =>
  (aLoad Tryz.prog h19 3 v15 = some (.v (.int .i64 n16))) ∧ (aLoad Tryz.prog h19 43 v11 = some v12) ∧ okV (aBuild Tryz.prog 43 [(0, some (.v (.int .i64 (IntKind.wrap .i64 (n16 + 1))))), (1, some v18)]) fun v20 =>
  okV (aBuild Tryz.prog 49 [(0, some v12), (1, some v20)]) fun v21 =>
  newO (.cells 49 6 [[(.v (.int .i64 0)), (.v (.slice none 0 0)), (.v (.int .i64 0)), (.v (.slice none 0 0)), (.v (.string (ByteArray.mk #[]))), (.v (.bool false))]] 0) h19 fun i22 h23 =>
  (aLoad Tryz.prog h23 31 (.ptr i0 0 0 4) = some v17) ∧ (aLoad Tryz.prog h23 3 v15 = some (.v (.int .i64 n16))) ∧ (aLoad Tryz.prog h23 43 v11 = some v12) ∧ storeR Tryz.prog h23 (fun v24 h25 =>
  okV (aLoad Tryz.prog h25 31 (.ptr i0 0 0 4)) fun v26 =>
  okInt .i64 (aLen Tryz.prog h25 31 v26) fun n27 =>
  okV (aNil a0) fun v28 =>
  okV (aFA Tryz.prog 105 1 v28) fun v29 =>
  okV (aLoad Tryz.prog h25 102 v29) fun v30 =>
  okInt .i64 (aLen Tryz.prog h25 102 v30) fun n31 =>
  rGq (n27 != n31) false (aLoad Tryz.prog h25 49 (.ptr i22 0 0 0)) fun b32 v33 =>
  rGe b32 false (fun k34 => callR Tryz.prog G 63 [v33] h25 (fun v35 h36 =>
  k34 v35 h36)) h25 fun b37 v38 h39 =>
  rGq b37 false (aBin Tryz.prog .neq 24 v38 (.v (.int .i64 0))) fun b40 v41 =>
  okBool (pickR (some (.v (.bool b40))) (some (.v (.bool true))) (some v41)) fun b42 =>
  condB b42
  (RetR h K (.v (.int .i64 70)) h39)
  (okV (aNil a0) fun v43 =>
  okV (aFA Tryz.prog 105 3 v43) fun v44 =>
  storeR Tryz.prog h39 (fun v45 h46 =>
  RetR h K (.v (.int .i64 0)) h46) 103 (.ptr i22 0 0 0) v44)) 49 v21 (.ptr i22 0 0 0)))))
theorem Tryz.c99 (G : Nat → Option AV) (a0 a1 : AV) (h : AH) (K : AV → AH → Prop) (hk : LowH h.length h → Tryz.r99 G a0 a1 h K) : SCall Tryz.prog G 99 [a0, a1] h K :=
  scall_of_rwp Tryz.tab99 [] Tryz.func99 rfl Tryz.ntmps99 (by kernel_rfl) (by show 2 ≤ 51; decide) (by kernel_rfl) (by kernel_rfl) hk
-- 100 (*skylark/admin.Admin).moved
def Tryz.r100 (G : Nat → Option AV) (a0 a1 : AV) (h : AH) (K : AV → AH → Prop) : Prop :=
  onlyB (AV.one a1) (newO (.cells 33 (AV.cells a1).length [AV.cells a1] 0) h fun i0 h1 =>
  okV (aNil a0) fun v2 =>
  okV (aFA Tryz.prog 105 3 v2) fun v3 =>
  okV (aLoad Tryz.prog h1 103 v3) fun v4 =>
  okBool (aBin Tryz.prog .eql 103 v4 (.v (.pointer none))) fun b5 =>
  condB b5
  (RetR h K (.v (.int .i64 180)) h1)
  (okV (aNil a0) fun v6 =>
  okV (aFA Tryz.prog 105 3 v6) fun v7 =>
  okV (aLoad Tryz.prog h1 103 v7) fun v8 =>
  okV (aNil v8) fun v9 =>
  okV (aLoad Tryz.prog h1 49 v9) fun v10 =>
  okStr (aLoad Tryz.prog h1 9 (.ptr i0 0 0 5)) fun s11 =>
  callR Tryz.prog G 144 [v10, (.v (.string s11))] h1 (fun v12 h13 =>
  okV (extV 0 v12) fun v14 =>
  okInt .i64 (extV 1 v12) fun n15 =>
  newO (.cells 49 6 [[(.v (.int .i64 0)), (.v (.slice none 0 0)), (.v (.int .i64 0)), (.v (.slice none 0 0)), (.v (.string (ByteArray.mk #[]))), (.v (.bool false))]] 0) h13 fun i16 h17 =>
  (aLoad Tryz.prog h17 9 (.ptr i0 0 0 5) = some (.v (.string s11))) ∧ (aLoad Tryz.prog h17 49 v9 = some v10) ∧ (aLoad Tryz.prog h17 103 v7 = some v8) ∧ storeR Tryz.prog h17 (fun v18 h19 =>
  condB (n15 == 0)
  (okV (aNil a0) fun v20 =>
  okV (aFA Tryz.prog 105 3 v20) fun v21 =>
  storeR Tryz.prog h19 (fun v22 h23 =>
  RetR h K (.v (.int .i64 n15)) h23) 103 (.ptr i16 0 0 0) v21)
  (RetR h K (.v (.int .i64 n15)) h19)) 49 v14 (.ptr i16 0 0 0))))
theorem Tryz.c100 (G : Nat → Option AV) (a0 a1 : AV) (h : AH) (K : AV → AH → Prop) (hk : LowH h.length h → Tryz.r100 G a0 a1 h K) : SCall Tryz.prog G 100 [a0, a1] h K :=
  scall_of_rwp Tryz.tab100 [] Tryz.func100 rfl Tryz.ntmps100 (by kernel_rfl) (by show 2 ≤ 30; decide) (by kernel_rfl) (by kernel_rfl) hk
-- 101 (*skylark/admin.Admin).done
def Tryz.r101 (a0 a1 : AV) (h : AH) (K : AV → AH → Prop) : Prop :=
  onlyB (AV.one a1) (newO (.cells 33 (AV.cells a1).length [AV.cells a1] 0) h fun i0 h1 =>
  okV (aNil a0) fun v2 =>
  okV (aFA Tryz.prog 105 3 v2) fun v3 =>
  okV (aLoad Tryz.prog h1 103 v3) fun v4 =>
  okBool (aBin Tryz.prog .eql 103 v4 (.v (.pointer none))) fun b5 =>
  condB b5
  (RetR h K (.v (.int .i64 180)) h1)
  (okV (aNil a0) fun v6 =>
  okV (aFA Tryz.prog 105 3 v6) fun v7 =>
  okV (aLoad Tryz.prog h1 103 v7) fun v8 =>
  okV (aNil v8) fun v9 =>
  okV (aFA Tryz.prog 49 1 v9) fun v10 =>
  okV (aLoad Tryz.prog h1 43 v10) fun v11 =>
  okV (aNil a0) fun v12 =>
  okV (aFA Tryz.prog 105 2 v12) fun v13 =>
  storeR Tryz.prog h1 (fun v14 h15 =>
  okV (aNil a0) fun v16 =>
  okV (aFA Tryz.prog 105 3 v16) fun v17 =>
  storeR Tryz.prog h15 (fun v18 h19 =>
  RetR h K (.v (.int .i64 0)) h19) 103 (.v (.pointer none)) v17) 43 v11 v13))
theorem Tryz.c101 (G : Nat → Option AV) (a0 a1 : AV) (h : AH) (K : AV → AH → Prop) (hk : LowH h.length h → Tryz.r101 a0 a1 h K) : SCall Tryz.prog G 101 [a0, a1] h K :=
  scall_of_rwp Tryz.tab101 [] Tryz.func101 rfl Tryz.ntmps101 (by kernel_rfl) (by show 2 ≤ 23; decide) (by kernel_rfl) (by kernel_rfl) hk
-- 102 skylark/skylarkref18.among
def Tryz.r102_l2_0 (K : AV → AH → Prop) (h : AH) (a0 : AV) (a1 : AV) (n9 : Int) : Prop :=
  ∃ (I0 : Nat → List AV → AH → Prop) (m1 : Nat), I0 m1 [(.v (.int .i64 n9))] h ∧ ∀ (m2 : Nat) (h3 : AH), h.length ≤ h3.length → LowH h3.length h3 → ∀ (n4 : Int), I0 m2 [(.v (.int .i64 n4))] h3 →
  okInt .i64 (aLen Tryz.prog h3 31 a0) fun n5 =>
  condB (decide (n4 < n5))
  (okV (aIA Tryz.prog h3 31 a0 (.v (.int .i64 n4))) fun v6 =>
  okInt .i64 (aLoad Tryz.prog h3 3 v6) fun n7 =>
  okInt .i64 (some a1) fun n8 =>
  condB (n7 == n8)
  (RetR h K (.v (.bool true)) h3)
  (nextR h I0 m2 [some a0, some a1] [some a0, some a1] [(.v (.int .i64 (IntKind.wrap .i64 (n4 + 1))))] h3))
  (RetR h K (.v (.bool false)) h3)
def Tryz.r102 (a0 a1 : AV) (h : AH) (K : AV → AH → Prop) : Prop :=
  Tryz.r102_l2_0 K h a0 a1 0
theorem Tryz.c102 (G : Nat → Option AV) (a0 a1 : AV) (h : AH) (K : AV → AH → Prop) (hk : LowH h.length h → Tryz.r102 a0 a1 h K) : SCall Tryz.prog G 102 [a0, a1] h K :=
  scall_of_rwp Tryz.tab102 [(2, [(5, (.int .i64))], [0, 1])] Tryz.func102 rfl Tryz.ntmps102 (by kernel_rfl) (by show 2 ≤ 18; decide) (by kernel_rfl) (by kernel_rfl) hk
-- 103 (skylark/skylarkref07.Change).To
def Tryz.r103 (G : Nat → Option AV) (a0 a1 : AV) (h : AH) (K : AV → AH → Prop) : Prop :=
  onlyB (AV.one a0) (newO (.cells 68 (AV.cells a0).length [AV.cells a0] 0) h fun i0 h1 =>
  newO (.cells 68 6 [[(.v (.int .i64 0)), (.v (.slice none 0 0)), (.v (.int .i64 0)), (.v (.slice none 0 0)), (.v (.string (ByteArray.mk #[]))), (.v (.bool false))]] 0) h1 fun i2 h3 =>
  okV (aLoad Tryz.prog h3 68 (.ptr i0 0 0 0)) fun v4 =>
  callR Tryz.prog G 40 [v4] h3 (fun v5 h6 =>
  okBool (some v5) fun b7 =>
  condB (!b7)
  (storeR Tryz.prog h6 (fun v8 h9 =>
  okV (aLoad Tryz.prog h9 68 (.ptr i2 0 0 0)) fun v10 =>
  RetR h K (.tup [v10, (.v (.int .i64 70))]) h9) 68 (.agg [(.v (.int .i64 0)), (.v (.slice none 0 0)), (.v (.int .i64 0)), (.v (.slice none 0 0)), (.v (.string (ByteArray.mk #[]))), (.v (.bool false))]) (.ptr i2 0 0 0))
  (okBool (aLoad Tryz.prog h6 4 (.ptr i0 0 0 5)) fun b11 =>
  rGq b11 false (some a1) fun b12 v13 =>
  rGq b12 false (some (.ptr i0 0 0 4)) fun b14 v15 =>
  rGq b14 false (aLoad Tryz.prog h6 9 v15) fun b16 v17 =>
  rGq b16 false (aBin Tryz.prog .lss 9 v13 v17) fun b18 v19 =>
  okBool (pickR (some (.v (.bool b18))) (some (.v (.bool true))) (some v19)) fun b20 =>
  rGq b20 false (some a1) fun b21 v22 =>
  rGq b21 false (aLen Tryz.prog h6 9 v22) fun b23 v24 =>
  rGq b23 false (aBin Tryz.prog .gtr 3 v24 (.v (.int .i64 64))) fun b25 v26 =>
  okBool (pickR (some (.v (.bool b25))) (some (.v (.bool true))) (some v26)) fun b27 =>
  condB b27
  (storeR Tryz.prog h6 (fun v28 h29 =>
  okV (aLoad Tryz.prog h29 68 (.ptr i2 0 0 0)) fun v30 =>
  RetR h K (.tup [v30, (.v (.int .i64 1))]) h29) 68 (.agg [(.v (.int .i64 0)), (.v (.slice none 0 0)), (.v (.int .i64 0)), (.v (.slice none 0 0)), (.v (.string (ByteArray.mk #[]))), (.v (.bool false))]) (.ptr i2 0 0 0))
  (okStr (some a1) fun s31 =>
  storeR Tryz.prog h6 (fun v32 h33 =>
  okV (aLoad Tryz.prog h33 68 (.ptr i0 0 0 0)) fun v34 =>
  storeR Tryz.prog h33 (fun v35 h36 =>
  okV (aLoad Tryz.prog h36 68 (.ptr i2 0 0 0)) fun v37 =>
  RetR h K (.tup [v37, (.v (.int .i64 0))]) h36) 68 v34 (.ptr i2 0 0 0)) 9 (.v (.string s31)) (.ptr i0 0 0 4)))))
theorem Tryz.c103 (G : Nat → Option AV) (a0 a1 : AV) (h : AH) (K : AV → AH → Prop) (hk : LowH h.length h → Tryz.r103 G a0 a1 h K) : SCall Tryz.prog G 103 [a0, a1] h K :=
  scall_of_rwp Tryz.tab103 [] Tryz.func103 rfl Tryz.ntmps103 (by kernel_rfl) (by show 2 ≤ 27; decide) (by kernel_rfl) (by kernel_rfl) hk
-- 104 (*skylark/skylarkref18.Admin).may
def Tryz.r104 (G : Nat → Option AV) (a0 a1 a2 : AV) (h : AH) (K : AV → AH → Prop) : Prop :=
  okV (aNil a0) fun v0 =>
  okV (aFA Tryz.prog 108 0 v0) fun v1 =>
  okV (aLoad Tryz.prog h 106 v1) fun v2 =>
  okInt .i64 (some a2) fun n3 =>
  okV (aIA Tryz.prog h 106 v2 (.v (.int .i64 n3))) fun v4 =>
  okV (aFA Tryz.prog 110 0 v4) fun v5 =>
  okInt .i64 (aLoad Tryz.prog h 3 v5) fun n6 =>
  okInt .i64 (some a1) fun n7 =>
  condB (n7 == 2)
  (RetR h K (.v (.bool (n6 == 0))) h)
  (condB (n7 == 3)
  (okInt .i64 (some a2) fun n8 =>
  callR Tryz.prog G 145 [a0, (.v (.int .i64 n8))] h (fun v9 h10 =>
  okBool (some v9) fun b11 =>
  RetR h K (.v (.bool b11)) h10))
  (condB (n7 == 4)
  (rGq (n6 == 2) false (some (.v (.int .i64 n6))) fun b12 v13 =>
  rGq b12 false (aBin Tryz.prog .eql 3 v13 (.v (.int .i64 1))) fun b14 v15 =>
  okBool (pickR (some (.v (.bool b14))) (some (.v (.bool true))) (some v15)) fun b16 =>
  RetR h K (.v (.bool b16)) h)
  (condB (n7 == 5)
  (RetR h K (.v (.bool (n6 == 3))) h)
  (rGq (n6 == 1) true (some a0) fun b17 v18 =>
  rGq b17 true (aNil v18) fun b19 v20 =>
  rGq b19 true (aFA Tryz.prog 108 0 v20) fun b21 v22 =>
  rGq b21 true (aLoad Tryz.prog h 106 v22) fun b23 v24 =>
  rGq b23 true (some a0) fun b25 v26 =>
  rGq b25 true (aNil v26) fun b27 v28 =>
  rGq b27 true (aFA Tryz.prog 108 1 v28) fun b29 v30 =>
  rGq b29 true (aLoad Tryz.prog h 102 v30) fun b31 v32 =>
  rGq b31 true (some a0) fun b33 v34 =>
  rGq b33 true (aNil v34) fun b35 v36 =>
  rGq b35 true (aFA Tryz.prog 108 0 v36) fun b37 v38 =>
  rGq b37 true (aLoad Tryz.prog h 106 v38) fun b39 v40 =>
  rGq b39 true (some a2) fun b41 v42 =>
  rGq b41 true (aIA Tryz.prog h 106 v40 v42) fun b43 v44 =>
  rGq b43 true (aFA Tryz.prog 110 1 v44) fun b45 v46 =>
  rGq b45 true (aLoad Tryz.prog h 3 v46) fun b47 v48 =>
  rGq b47 true (aIA Tryz.prog h 102 v32 v48) fun b49 v50 =>
  rGq b49 true (aFA Tryz.prog 121 1 v50) fun b51 v52 =>
  rGq b51 true (aLoad Tryz.prog h 31 v52) fun b53 v54 =>
  rGq b53 true (aIA Tryz.prog h 31 v54 (.v (.int .i64 0))) fun b55 v56 =>
  rGq b55 true (aLoad Tryz.prog h 3 v56) fun b57 v58 =>
  rGq b57 true (aIA Tryz.prog h 106 v24 v58) fun b59 v60 =>
  rGq b59 true (aFA Tryz.prog 110 0 v60) fun b61 v62 =>
  rGq b61 true (aLoad Tryz.prog h 3 v62) fun b63 v64 =>
  rGq b63 true (aBin Tryz.prog .neq 3 v64 (.v (.int .i64 3))) fun b65 v66 =>
  okBool (pickR (some (.v (.bool b65))) (some v66) (some (.v (.bool false)))) fun b67 =>
  RetR h K (.v (.bool b67)) h))))
theorem Tryz.c104 (G : Nat → Option AV) (a0 a1 a2 : AV) (h : AH) (K : AV → AH → Prop) (hk : LowH h.length h → Tryz.r104 G a0 a1 a2 h K) : SCall Tryz.prog G 104 [a0, a1, a2] h K :=
  scall_of_rwp Tryz.tab104 [] Tryz.func104 rfl Tryz.ntmps104 (by kernel_rfl) (by show 3 ≤ 67; decide) (by kernel_rfl) (by kernel_rfl) hk
-- 105 skylark/skylarkref18.without
def Tryz.r105_l3_0 (K : AV → AH → Prop) (h : AH) (a0 : AV) (a1 : AV) (v16 : AV) (n17 : Int) : Prop :=
  ∃ (I0 : Nat → List AV → AH → Prop) (m1 : Nat), I0 m1 [v16, (.v (.int .i64 n17))] h ∧ ∀ (m2 : Nat) (h3 : AH), h.length ≤ h3.length → LowH h3.length h3 → ∀ (v4 : AV) (n5 : Int), I0 m2 [v4, (.v (.int .i64 n5))] h3 →
  okInt .i64 (aLen Tryz.prog h3 31 a0) fun n6 =>
  condB (decide (n5 < n6))
  (okV (aIA Tryz.prog h3 31 a0 (.v (.int .i64 n5))) fun v7 =>
  okInt .i64 (aLoad Tryz.prog h3 3 v7) fun n8 =>
  okInt .i64 (some a1) fun n9 =>
  condB (n8 != n9)
  (okV (aIA Tryz.prog h3 31 a0 (.v (.int .i64 n5))) fun v10 =>
  okInt .i64 (aLoad Tryz.prog h3 3 v10) fun n11 =>
  newO (.cells 3 1 [[(.v (.int .i64 n11))]] 0) h3 fun i12 h13 =>
  appR Tryz.prog h13 31 31 v4 (.sl i12 0 0 1 none) (fun v14 h15 =>
  nextR h I0 m2 [some a0, some a1] [some a0, some a1] [v14, (.v (.int .i64 (IntKind.wrap .i64 (n5 + 1))))] h15))
  (nextR h I0 m2 [some a0, some a1] [some a0, some a1] [v4, (.v (.int .i64 (IntKind.wrap .i64 (n5 + 1))))] h3))
  (RetR h K v4 h3)
def Tryz.r105 (a0 a1 : AV) (h : AH) (K : AV → AH → Prop) : Prop :=
  Tryz.r105_l3_0 K h a0 a1 (.v (.slice none 0 0)) 0
theorem Tryz.c105 (G : Nat → Option AV) (a0 a1 : AV) (h : AH) (K : AV → AH → Prop) (hk : LowH h.length h → Tryz.r105 a0 a1 h K) : SCall Tryz.prog G 105 [a0, a1] h K :=
  scall_of_rwp Tryz.tab105 [(3, [(5, .any), (6, (.int .i64))], [0, 1])] Tryz.func105 rfl Tryz.ntmps105 (by kernel_rfl) (by show 2 ≤ 27; decide) (by kernel_rfl) (by kernel_rfl) hk
-- 106 (*skylark/skylarkref18.Admin).set
def Tryz.r106 (a0 a1 a2 a3 : AV) (h : AH) (K : AV → AH → Prop) : Prop :=
  okV (aNil a0) fun v0 =>
  okV (aFA Tryz.prog 108 1 v0) fun v1 =>
  okV (aLoad Tryz.prog h 102 v1) fun v2 =>
  okInt .i64 (some a1) fun n3 =>
  okV (aNil a0) fun v4 =>
  okV (aFA Tryz.prog 108 1 v4) fun v5 =>
  okV (aLoad Tryz.prog h 102 v5) fun v6 =>
  okInt .i64 (some a1) fun n7 =>
  okV (aIA Tryz.prog h 102 v6 (.v (.int .i64 n7))) fun v8 =>
  okV (aFA Tryz.prog 121 0 v8) fun v9 =>
  okInt .i64 (aLoad Tryz.prog h 3 v9) fun n10 =>
  okV (aBuild Tryz.prog 121 [(0, some (.v (.int .i64 (IntKind.wrap .i64 (n10 + 1))))), (1, some a2), (2, some a3)]) fun v11 =>
  okV (aIA Tryz.prog h 102 v2 (.v (.int .i64 n3))) fun v12 =>
  storeR Tryz.prog h (fun v13 h14 =>
  RetR h K (.tup []) h14) 121 v11 v12
theorem Tryz.c106 (G : Nat → Option AV) (a0 a1 a2 a3 : AV) (h : AH) (K : AV → AH → Prop) (hk : LowH h.length h → Tryz.r106 a0 a1 a2 a3 h K) : SCall Tryz.prog G 106 [a0, a1, a2, a3] h K :=
  scall_of_rwp Tryz.tab106 [] Tryz.func106 rfl Tryz.ntmps106 (by kernel_rfl) (by show 4 ≤ 26; decide) (by kernel_rfl) (by kernel_rfl) hk
-- 107 skylark/ring.made
def Tryz.r107_l9_12 (G : Nat → Option AV) (a0 : AV) (h1 : AH) (n3 : Int) (I4 : Nat → List AV → AH → Prop) (m6 : Nat) (h7 : AH) (n9 : Int) (n11 : Int) (v33 : AV) (n34 : Int) : Prop :=
  ∃ (I12 : Nat → List AV → AH → Prop) (m13 : Nat), I12 m13 [v33, (.v (.int .i64 n34))] h7 ∧ ∀ (m14 : Nat) (h15 : AH), h7.length ≤ h15.length → LowH h15.length h15 → ∀ (v16 : AV) (n17 : Int), I12 m14 [v16, (.v (.int .i64 n17))] h15 →
  condB (decide (n17 < n11))
  (callR Tryz.prog G 148 [(.v (.int .i64 n9))] h15 (fun v18 h19 =>
  okStr (some v18) fun s20 =>
  okStr (aBin Tryz.prog .add 9 (.v (.string s20)) (.v (.string (ByteArray.mk #[46])))) fun s21 =>
  callR Tryz.prog G 148 [(.v (.int .i64 n17))] h19 (fun v22 h23 =>
  okStr (some v22) fun s24 =>
  okStr (aBin Tryz.prog .add 9 (.v (.string s21)) (.v (.string s24))) fun s25 =>
  callR Tryz.prog G 147 [(.v (.string s25))] h23 (fun v26 h27 =>
  okInt .u64 (some v26) fun n28 =>
  newO (.cells 220 3 [[(.v (.int .u64 n28)), (.v (.int .i64 n9)), (.v (.int .i64 n17))]] 0) h27 fun i29 h30 =>
  appR Tryz.prog h30 182 182 v16 (.sl i29 0 0 1 none) (fun v31 h32 =>
  nextR h7 I12 m14 [some (.v (.int .i64 n9)), some a0, some (.v (.int .i64 n3)), some (.v (.int .i64 n9)), some (.v (.int .i64 n11))] [some (.v (.int .i64 n9)), some a0, some (.v (.int .i64 n3)), some (.v (.int .i64 n9)), some (.v (.int .i64 n11))] [v31, (.v (.int .i64 (IntKind.wrap .i64 (n17 + 1))))] h32)))))
  (nextR h1 I4 m6 [some a0, some (.v (.int .i64 n3))] [some a0, some (.v (.int .i64 n3))] [v16, (.v (.int .i64 (IntKind.wrap .i64 (n9 + 1))))] h15)
def Tryz.r107_l6_4 (K : AV → AH → Prop) (h : AH) (G : Nat → Option AV) (a0 : AV) (h1 : AH) (n3 : Int) (v37 : AV) (n38 : Int) : Prop :=
  ∃ (I4 : Nat → List AV → AH → Prop) (m5 : Nat), I4 m5 [v37, (.v (.int .i64 n38))] h1 ∧ ∀ (m6 : Nat) (h7 : AH), h1.length ≤ h7.length → LowH h7.length h7 → ∀ (v8 : AV) (n9 : Int), I4 m6 [v8, (.v (.int .i64 n9))] h7 →
  condB (decide (n9 < n3))
  (okV (aIA Tryz.prog h7 31 a0 (.v (.int .i64 n9))) fun v10 =>
  okInt .i64 (aLoad Tryz.prog h7 3 v10) fun n11 =>
  Tryz.r107_l9_12 G a0 h1 n3 I4 m6 h7 n9 n11 v8 0)
  (callR Tryz.prog G 149 [v8, (.fn (.func 150) [] [])] h7 (fun v35 h36 =>
  RetR h K (.tup [v8, (.v (.int .i64 0))]) h36))
def Tryz.r107 (G : Nat → Option AV) (a0 : AV) (h : AH) (K : AV → AH → Prop) : Prop :=
  callR Tryz.prog G 146 [a0] h (fun v0 h1 =>
  okInt .i64 (some v0) fun n2 =>
  condB (n2 != 0)
  (RetR h K (.tup [(.v (.slice none 0 0)), (.v (.int .i64 n2))]) h1)
  (okInt .i64 (aLen Tryz.prog h1 31 a0) fun n3 =>
  Tryz.r107_l6_4 K h G a0 h1 n3 (.v (.slice none 0 0)) 0))
theorem Tryz.c107 (G : Nat → Option AV) (a0 : AV) (h : AH) (K : AV → AH → Prop) (hk : LowH h.length h → Tryz.r107 G a0 h K) : SCall Tryz.prog G 107 [a0] h K :=
  scall_of_rwp Tryz.tab107 [(6, [(5, .any), (17, (.int .i64))], [15, 16]), (9, [(5, .any), (23, (.int .i64))], [6, 15, 16, 17, 22])] Tryz.func107 rfl Tryz.ntmps107 (by kernel_rfl) (by show 1 ≤ 46; decide) (by kernel_rfl) (by kernel_rfl) hk
-- 108 (skylark/ring.ring).of
def Tryz.r108 (G : Nat → Option AV) (a0 a1 : AV) (h : AH) (K : AV → AH → Prop) : Prop :=
  okStr (some a1) fun s0 =>
  callR Tryz.prog G 147 [(.v (.string s0))] h (fun v1 h2 =>
  okInt .u64 (some v1) fun n3 =>
  callR Tryz.prog G 151 [a0, (.v (.int .u64 n3)), (.fn (.func 152) [] [])] h2 (fun v4 h5 =>
  okInt .i64 (extV 0 v4) fun n6 =>
  okBool (extV 1 v4) fun b7 =>
  okInt .i64 (aLen Tryz.prog h5 182 a0) fun n8 =>
  okInt .i64 (aBin Tryz.prog .rem 3 (.v (.int .i64 n6)) (.v (.int .i64 n8))) fun n9 =>
  okV (aIA Tryz.prog h5 182 a0 (.v (.int .i64 n9))) fun v10 =>
  okV (aFA Tryz.prog 220 1 v10) fun v11 =>
  okInt .i64 (aLoad Tryz.prog h5 3 v11) fun n12 =>
  RetR h K (.v (.int .i64 n12)) h5))
theorem Tryz.c108 (G : Nat → Option AV) (a0 a1 : AV) (h : AH) (K : AV → AH → Prop) (hk : LowH h.length h → Tryz.r108 G a0 a1 h K) : SCall Tryz.prog G 108 [a0, a1] h K :=
  scall_of_rwp Tryz.tab108 [] Tryz.func108 rfl Tryz.ntmps108 (by kernel_rfl) (by show 2 ≤ 24; decide) (by kernel_rfl) (by kernel_rfl) hk
-- 109 skylark/skylarkref06.May
def Tryz.r109_l5_8 (K : AV → AH → Prop) (h : AH) (a0 : AV) (b39 : Bool) (n40 : Int) : Prop :=
  ∃ (I8 : Nat → List AV → AH → Prop) (m9 : Nat), I8 m9 [(.v (.bool b39)), (.v (.int .i64 n40))] h ∧ ∀ (m10 : Nat) (h11 : AH), h.length ≤ h11.length → LowH h11.length h11 → ∀ (b12 : Bool) (n13 : Int), I8 m10 [(.v (.bool b12)), (.v (.int .i64 n13))] h11 →
  okInt .i64 (aLen Tryz.prog h11 31 a0) fun n14 =>
  condB (decide (n13 < n14))
  (okV (aIA Tryz.prog h11 31 a0 (.v (.int .i64 n13))) fun v15 =>
  okInt .i64 (aLoad Tryz.prog h11 3 v15) fun n16 =>
  rGq (decide (n16 < 0)) false (some a0) fun b17 v18 =>
  rGq b17 false (some (.v (.int .i64 n13))) fun b19 v20 =>
  rGq b19 false (aIA Tryz.prog h11 31 v18 v20) fun b21 v22 =>
  rGq b21 false (aLoad Tryz.prog h11 3 v22) fun b23 v24 =>
  rGq b23 false (aBin Tryz.prog .gtr 3 v24 (.v (.int .i64 128))) fun b25 v26 =>
  okBool (pickR (some (.v (.bool b25))) (some (.v (.bool true))) (some v26)) fun b27 =>
  condB b27
  (RetR h K (.v (.bool false)) h11)
  (rGq b12 false (some a0) fun b28 v29 =>
  rGq b28 false (some (.v (.int .i64 n13))) fun b30 v31 =>
  rGq b30 false (aIA Tryz.prog h11 31 v29 v31) fun b32 v33 =>
  rGq b32 false (aLoad Tryz.prog h11 3 v33) fun b34 v35 =>
  rGq b34 false (aBin Tryz.prog .gtr 3 v35 (.v (.int .i64 0))) fun b36 v37 =>
  okBool (pickR (some (.v (.bool b36))) (some (.v (.bool true))) (some v37)) fun b38 =>
  nextR h I8 m10 [some a0] [some a0] [(.v (.bool b38)), (.v (.int .i64 (IntKind.wrap .i64 (n13 + 1))))] h11))
  (RetR h K (.v (.bool b12)) h11)
def Tryz.r109 (a0 : AV) (h : AH) (K : AV → AH → Prop) : Prop :=
  okInt .i64 (aLen Tryz.prog h 31 a0) fun n0 =>
  rGq (decide (n0 < 1)) false (some a0) fun b1 v2 =>
  rGq b1 false (aLen Tryz.prog h 31 v2) fun b3 v4 =>
  rGq b3 false (aBin Tryz.prog .gtr 3 v4 (.v (.int .i64 8))) fun b5 v6 =>
  okBool (pickR (some (.v (.bool b5))) (some (.v (.bool true))) (some v6)) fun b7 =>
  condB b7
  (RetR h K (.v (.bool false)) h)
  (Tryz.r109_l5_8 K h a0 false 0)
theorem Tryz.c109 (G : Nat → Option AV) (a0 : AV) (h : AH) (K : AV → AH → Prop) (hk : LowH h.length h → Tryz.r109 a0 h K) : SCall Tryz.prog G 109 [a0] h K :=
  scall_of_rwp Tryz.tab109 [(5, [(3, .bool), (4, (.int .i64))], [0])] Tryz.func109 rfl Tryz.ntmps109 (by kernel_rfl) (by show 1 ≤ 40; decide) (by kernel_rfl) (by kernel_rfl) hk
-- 110 skylark/skylarkref06.find
def Tryz.r110_l3_4 (K : AV → AH → Prop) (h : AH) (a0 : AV) (h2 : AH) (n3 : Int) (n19 : Int) : Prop :=
  ∃ (I4 : Nat → List AV → AH → Prop) (m5 : Nat), I4 m5 [(.v (.int .i64 n19))] h2 ∧ ∀ (m6 : Nat) (h7 : AH), h2.length ≤ h7.length → LowH h7.length h7 → ∀ (n8 : Int), I4 m6 [(.v (.int .i64 n8))] h7 →
  okInt .i64 (aLen Tryz.prog h7 188 a0) fun n9 =>
  condB (decide (n8 < n9))
  (okV (aIA Tryz.prog h7 188 a0 (.v (.int .i64 n8))) fun v10 =>
  okV (aFA Tryz.prog 228 0 v10) fun v11 =>
  okInt .u64 (aLoad Tryz.prog h7 60 v11) fun n12 =>
  condB (decide (n12 ≥ n3))
  (okV (aIA Tryz.prog h7 188 a0 (.v (.int .i64 n8))) fun v13 =>
  okV (aFA Tryz.prog 228 1 v13) fun v14 =>
  okInt .i64 (aLoad Tryz.prog h7 3 v14) fun n15 =>
  RetR h K (.v (.int .i64 n15)) h7)
  (nextR h2 I4 m6 [some a0, some (.v (.int .u64 n3))] [some a0, some (.v (.int .u64 n3))] [(.v (.int .i64 (IntKind.wrap .i64 (n8 + 1))))] h7))
  (okV (aIA Tryz.prog h7 188 a0 (.v (.int .i64 0))) fun v16 =>
  okV (aFA Tryz.prog 228 1 v16) fun v17 =>
  okInt .i64 (aLoad Tryz.prog h7 3 v17) fun n18 =>
  RetR h K (.v (.int .i64 n18)) h7)
def Tryz.r110 (G : Nat → Option AV) (a0 a1 : AV) (h : AH) (K : AV → AH → Prop) : Prop :=
  okStr (some a1) fun s0 =>
  callR Tryz.prog G 154 [(.v (.string s0))] h (fun v1 h2 =>
  okInt .u64 (some v1) fun n3 =>
  Tryz.r110_l3_4 K h a0 h2 n3 0)
theorem Tryz.c110 (G : Nat → Option AV) (a0 a1 : AV) (h : AH) (K : AV → AH → Prop) (hk : LowH h.length h → Tryz.r110 G a0 a1 h K) : SCall Tryz.prog G 110 [a0, a1] h K :=
  scall_of_rwp Tryz.tab110 [(3, [(6, (.int .i64))], [0, 5])] Tryz.func110 rfl Tryz.ntmps110 (by kernel_rfl) (by show 2 ≤ 31; decide) (by kernel_rfl) (by kernel_rfl) hk
-- 111 skylark/skylarkref06.All
def Tryz.r111_l10_30 (a0 : AV) (h3 : AH) (n5 : Int) (I7 : Nat → List AV → AH → Prop) (m9 : Nat) (v11 : AV) (n12 : Int) (i26 : Nat) (h29 : AH) (n65 : Int) : Prop :=
  ∃ (I30 : Nat → List AV → AH → Prop) (m31 : Nat), I30 m31 [(.v (.int .i64 n65))] h29 ∧ ∀ (m32 : Nat) (h33 : AH), h29.length ≤ h33.length → LowH h33.length h33 → ∀ (n34 : Int), I30 m32 [(.v (.int .i64 n34))] h33 →
  okInt .i64 (aLen Tryz.prog h33 188 v11) fun n35 =>
  rGq (decide (n34 < n35)) true (some v11) fun b36 v37 =>
  rGq b36 true (some (.v (.int .i64 n34))) fun b38 v39 =>
  rGq b38 true (aIA Tryz.prog h33 188 v37 v39) fun b40 v41 =>
  rGq b40 true (aFA Tryz.prog 228 0 v41) fun b42 v43 =>
  rGq b42 true (aLoad Tryz.prog h33 60 v43) fun b44 v45 =>
  rGq b44 true (some (.ptr i26 0 0 0)) fun b46 v47 =>
  rGq b46 true (aLoad Tryz.prog h33 60 v47) fun b48 v49 =>
  rGq b48 true (aBin Tryz.prog .leq 60 v45 v49) fun b50 v51 =>
  okBool (pickR (some (.v (.bool b50))) (some v51) (some (.v (.bool false)))) fun b52 =>
  condB b52
  (nextR h29 I30 m32 [some a0, some v11, some (.v (.int .i64 n5)), some (.v (.int .i64 n12)), some (.ptr i26 0 0 0)] [some a0, some v11, some (.v (.int .i64 n5)), some (.v (.int .i64 n12)), some (.ptr i26 0 0 0)] [(.v (.int .i64 (IntKind.wrap .i64 (n34 + 1))))] h33)
  (okV (aSlice Tryz.prog h33 188 v11 none (some (some (.v (.int .i64 n34)))) none) fun v53 =>
  appR Tryz.prog h33 188 188 (.v (.slice none 0 0)) v53 (fun v54 h55 =>
  okV (aLoad Tryz.prog h55 228 (.ptr i26 0 0 0)) fun v56 =>
  okP (rowsFill 2 (List.replicate 1 [(.v (.int .u64 0)), (.v (.int .i64 0))]) [(0, some v56)]) fun r57 => newO (.cells 228 2 r57 0) h55 fun i58 h59 =>
  appR Tryz.prog h59 188 188 v54 (.sl i58 0 0 1 none) (fun v60 h61 =>
  okV (aSlice Tryz.prog h61 188 v11 (some (some (.v (.int .i64 n34)))) none none) fun v62 =>
  appR Tryz.prog h61 188 188 v60 v62 (fun v63 h64 =>
  nextR h3 I7 m9 [some a0, some (.v (.int .i64 n5))] [some a0, some (.v (.int .i64 n5))] [v63, (.v (.int .i64 (IntKind.wrap .i64 (n12 + 1))))] h64))))
def Tryz.r111_l6_7 (h : AH) (G : Nat → Option AV) (a0 : AV) (I0 : Nat → List AV → AH → Prop) (m2 : Nat) (h3 : AH) (n5 : Int) (v66 : AV) (n67 : Int) : Prop :=
  ∃ (I7 : Nat → List AV → AH → Prop) (m8 : Nat), I7 m8 [v66, (.v (.int .i64 n67))] h3 ∧ ∀ (m9 : Nat) (h10 : AH), h3.length ≤ h10.length → LowH h10.length h10 → ∀ (v11 : AV) (n12 : Int), I7 m9 [v11, (.v (.int .i64 n12))] h10 →
  okV (aIA Tryz.prog h10 31 a0 (.v (.int .i64 n5))) fun v13 =>
  okInt .i64 (aLoad Tryz.prog h10 3 v13) fun n14 =>
  condB (decide (n12 < n14))
  (callR Tryz.prog G 155 [(.v (.int .i64 n5))] h10 (fun v15 h16 =>
  okStr (some v15) fun s17 =>
  okStr (aBin Tryz.prog .add 9 (.v (.string s17)) (.v (.string (ByteArray.mk #[46])))) fun s18 =>
  callR Tryz.prog G 155 [(.v (.int .i64 n12))] h16 (fun v19 h20 =>
  okStr (some v19) fun s21 =>
  okStr (aBin Tryz.prog .add 9 (.v (.string s18)) (.v (.string s21))) fun s22 =>
  callR Tryz.prog G 154 [(.v (.string s22))] h20 (fun v23 h24 =>
  okInt .u64 (some v23) fun n25 =>
  newO (.cells 228 2 [[(.v (.int .u64 0)), (.v (.int .i64 0))]] 0) h24 fun i26 h27 =>
  storeR Tryz.prog h27 (fun v28 h29 =>
  Tryz.r111_l10_30 a0 h3 n5 I7 m9 v11 n12 i26 h29 0) 228 (.agg [(.v (.int .u64 n25)), (.v (.int .i64 n5))]) (.ptr i26 0 0 0)))))
  (nextR h I0 m2 [some a0] [some a0] [v11, (.v (.int .i64 (IntKind.wrap .i64 (n5 + 1))))] h10)
def Tryz.r111_l3_0 (K : AV → AH → Prop) (h : AH) (G : Nat → Option AV) (a0 : AV) (v68 : AV) (n69 : Int) : Prop :=
  ∃ (I0 : Nat → List AV → AH → Prop) (m1 : Nat), I0 m1 [v68, (.v (.int .i64 n69))] h ∧ ∀ (m2 : Nat) (h3 : AH), h.length ≤ h3.length → LowH h3.length h3 → ∀ (v4 : AV) (n5 : Int), I0 m2 [v4, (.v (.int .i64 n5))] h3 →
  okInt .i64 (aLen Tryz.prog h3 31 a0) fun n6 =>
  condB (decide (n5 < n6))
  (Tryz.r111_l6_7 h G a0 I0 m2 h3 n5 v4 0)
  (RetR h K v4 h3)
def Tryz.r111 (G : Nat → Option AV) (a0 : AV) (h : AH) (K : AV → AH → Prop) : Prop :=
  Tryz.r111_l3_0 K h G a0 (.v (.slice none 0 0)) 0
theorem Tryz.c111 (G : Nat → Option AV) (a0 : AV) (h : AH) (K : AV → AH → Prop) (hk : LowH h.length h → Tryz.r111 G a0 h K) : SCall Tryz.prog G 111 [a0] h K :=
  scall_of_rwp Tryz.tab111 [(3, [(3, .any), (4, (.int .i64))], [0]), (6, [(3, .any), (5, (.int .i64))], [0, 4]), (10, [(7, (.int .i64))], [0, 3, 4, 5, 6])] Tryz.func111 rfl Tryz.ntmps111 (by kernel_rfl) (by show 1 ≤ 63; decide) (by kernel_rfl) (by kernel_rfl) hk
-- 112 slices.Clone[[]int,int]
def Tryz.r112 (a0 : AV) (h : AH) (K : AV → AH → Prop) : Prop :=
  binR Tryz.prog h (fun v0 h1 =>
  okBool (some v0) fun b2 =>
  condB b2
  (RetR h K (.v (.slice none 0 0)) h1)
  (newO (.cells 3 1 [] 0) h1 fun i3 h4 =>
  appR Tryz.prog h4 31 31 (.sl i3 0 0 0 none) a0 (fun v5 h6 =>
  RetR h K v5 h6))) .eql 31 a0 (.v (.slice none 0 0))
theorem Tryz.c112 (G : Nat → Option AV) (a0 : AV) (h : AH) (K : AV → AH → Prop) (hk : LowH h.length h → Tryz.r112 a0 h K) : SCall Tryz.prog G 112 [a0] h K :=
  scall_of_rwp Tryz.tab112 [] Tryz.func112 rfl Tryz.ntmps112 (by kernel_rfl) (by show 1 ≤ 8; decide) (by kernel_rfl) (by kernel_rfl) hk
-- 113 skylark/admin.copied
def Tryz.r113 (G : Nat → Option AV) (a0 : AV) (h : AH) (K : AV → AH → Prop) : Prop :=
  onlyB (AV.one a0) (newO (.cells 43 (AV.cells a0).length [AV.cells a0] 0) h fun i0 h1 =>
  newO (.cells 43 2 [[(.v (.int .i64 0)), (.v (.slice none 0 0))]] 0) h1 fun i2 h3 =>
  okInt .i64 (aLoad Tryz.prog h3 3 (.ptr i0 0 0 0)) fun n4 =>
  okV (aLoad Tryz.prog h3 31 (.ptr i0 0 0 1)) fun v5 =>
  callR Tryz.prog G 112 [v5] h3 (fun v6 h7 =>
  (aLoad Tryz.prog h7 3 (.ptr i0 0 0 0) = some (.v (.int .i64 n4))) ∧ okV (aBuild Tryz.prog 43 [(0, some (.v (.int .i64 n4))), (1, some v6)]) fun v8 =>
  storeR Tryz.prog h7 (fun v9 h10 =>
  okV (aLoad Tryz.prog h10 43 (.ptr i2 0 0 0)) fun v11 =>
  RetR h K v11 h10) 43 v8 (.ptr i2 0 0 0)))
theorem Tryz.c113 (G : Nat → Option AV) (a0 : AV) (h : AH) (K : AV → AH → Prop) (hk : LowH h.length h → Tryz.r113 G a0 h K) : SCall Tryz.prog G 113 [a0] h K :=
  scall_of_rwp Tryz.tab113 [] Tryz.func113 rfl Tryz.ntmps113 (by kernel_rfl) (by show 1 ≤ 9; decide) (by kernel_rfl) (by kernel_rfl) hk
-- 114 skylark/layout.Check
def Tryz.r114 (G : Nat → Option AV) (a0 : AV) (h : AH) (K : AV → AH → Prop) : Prop :=
  onlyB (AV.one a0) (newO (.cells 43 (AV.cells a0).length [AV.cells a0] 0) h fun i0 h1 =>
  okInt .i64 (aLoad Tryz.prog h1 3 (.ptr i0 0 0 0)) fun n2 =>
  rGq (decide (n2 < 1)) false (some (.ptr i0 0 0 0)) fun b3 v4 =>
  rGq b3 false (aLoad Tryz.prog h1 3 v4) fun b5 v6 =>
  rGq b5 false (aBin Tryz.prog .gtr 3 v6 (.v (.int .i64 1073741824))) fun b7 v8 =>
  okBool (pickR (some (.v (.bool b7))) (some (.v (.bool true))) (some v8)) fun b9 =>
  rGq b9 false (some (.ptr i0 0 0 1)) fun b10 v11 =>
  rGq b10 false (aLoad Tryz.prog h1 31 v11) fun b12 v13 =>
  rGe b12 false (fun k14 => callR Tryz.prog G 146 [v13] h1 (fun v15 h16 =>
  k14 v15 h16)) h1 fun b17 v18 h19 =>
  rGq b17 false (aBin Tryz.prog .neq 24 v18 (.v (.int .i64 0))) fun b20 v21 =>
  okBool (pickR (some (.v (.bool b20))) (some (.v (.bool true))) (some v21)) fun b22 =>
  condB b22
  (RetR h K (.v (.int .i64 70)) h19)
  (RetR h K (.v (.int .i64 0)) h19))
theorem Tryz.c114 (G : Nat → Option AV) (a0 : AV) (h : AH) (K : AV → AH → Prop) (hk : LowH h.length h → Tryz.r114 G a0 h K) : SCall Tryz.prog G 114 [a0] h K :=
  scall_of_rwp Tryz.tab114 [] Tryz.func114 rfl Tryz.ntmps114 (by kernel_rfl) (by show 1 ≤ 17; decide) (by kernel_rfl) (by kernel_rfl) hk
-- 115 slices.stableCmpFunc[skylark/api.Row]
def Tryz.r124 (a0 : AV) (h : AH) (K : AV → AH → Prop) : Prop :=
  okStr (some a0) fun s0 =>
  rGq (!(ByteArray.toList s0 == ByteArray.toList (ByteArray.mk #[]))) true (some a0) fun b1 v2 =>
  rGq b1 true (aLen Tryz.prog h 9 v2) fun b3 v4 =>
  rGq b3 true (aBin Tryz.prog .leq 3 v4 (.v (.int .i64 64))) fun b5 v6 =>
  okBool (pickR (some (.v (.bool b5))) (some v6) (some (.v (.bool false)))) fun b7 =>
  RetR h K (.v (.bool b7)) h
def Tryz.r136 (a0 a1 : AV) (h : AH) (K : AV → AH → Prop) : Prop :=
  okInt .u64 (some a0) fun n0 =>
  okInt .u64 (aBin Tryz.prog .and 60 (.v (.int .u64 n0)) (.v (.int .u64 4294967295))) fun n1 =>
  okInt .u64 (some a0) fun n2 =>
  okInt .u64 (aBin Tryz.prog .shr 60 (.v (.int .u64 n2)) (.v (.int .u64 32))) fun n3 =>
  okInt .u64 (some a1) fun n4 =>
  okInt .u64 (aBin Tryz.prog .and 60 (.v (.int .u64 n4)) (.v (.int .u64 4294967295))) fun n5 =>
  okInt .u64 (some a1) fun n6 =>
  okInt .u64 (aBin Tryz.prog .shr 60 (.v (.int .u64 n6)) (.v (.int .u64 32))) fun n7 =>
  okInt .u64 (aBin Tryz.prog .shr 60 (.v (.int .u64 (IntKind.wrap .u64 (n1 * n5)))) (.v (.int .u64 32))) fun n8 =>
  okInt .u64 (aBin Tryz.prog .and 60 (.v (.int .u64 (IntKind.wrap .u64 ((IntKind.wrap .u64 (n3 * n5)) + n8)))) (.v (.int .u64 4294967295))) fun n9 =>
  okInt .u64 (aBin Tryz.prog .shr 60 (.v (.int .u64 (IntKind.wrap .u64 ((IntKind.wrap .u64 (n3 * n5)) + n8)))) (.v (.int .u64 32))) fun n10 =>
  okInt .u64 (aBin Tryz.prog .shr 60 (.v (.int .u64 (IntKind.wrap .u64 (n9 + (IntKind.wrap .u64 (n1 * n7)))))) (.v (.int .u64 32))) fun n11 =>
  okInt .u64 (some a0) fun n12 =>
  okInt .u64 (some a1) fun n13 =>
  RetR h K (.tup [(.v (.int .u64 (IntKind.wrap .u64 ((IntKind.wrap .u64 ((IntKind.wrap .u64 (n3 * n7)) + n10)) + n11)))), (.v (.int .u64 (IntKind.wrap .u64 (n12 * n13))))]) h
theorem Tryz.c136 (G : Nat → Option AV) (a0 a1 : AV) (h : AH) (K : AV → AH → Prop) (hk : LowH h.length h → Tryz.r136 a0 a1 h K) : SCall Tryz.prog G 136 [a0, a1] h K :=
  scall_of_rwp Tryz.tab136 [] Tryz.func136 rfl Tryz.ntmps136 (by kernel_rfl) (by show 2 ≤ 51; decide) (by kernel_rfl) (by kernel_rfl) hk
-- 137 (*skylark/admin.Admin).may
def Tryz.r137 (G : Nat → Option AV) (a0 a1 a2 : AV) (h : AH) (K : AV → AH → Prop) : Prop :=
  okV (aNil a0) fun v0 =>
  okV (aFA Tryz.prog 105 0 v0) fun v1 =>
  okV (aLoad Tryz.prog h 98 v1) fun v2 =>
  okInt .i64 (some a2) fun n3 =>
  okV (aIA Tryz.prog h 98 v2 (.v (.int .i64 n3))) fun v4 =>
  okV (aFA Tryz.prog 101 0 v4) fun v5 =>
  okInt .i64 (aLoad Tryz.prog h 3 v5) fun n6 =>
  okInt .i64 (some a1) fun n7 =>
  condB (n7 == 2)
  (RetR h K (.v (.bool (n6 == 0))) h)
  (condB (n7 == 3)
  (rGq (n6 != 0) true (some a0) fun b8 v9 =>
  rGq b8 true (some a2) fun b10 v11 =>
  rGe b10 true (fun k12 => callR Tryz.prog G 139 [v9, v11] h (fun v13 h14 =>
  k12 v13 h14)) h fun b15 v16 h17 =>
  rGq b15 true (aUn .not v16) fun b18 v19 =>
  okBool (pickR (some (.v (.bool b18))) (some v19) (some (.v (.bool false)))) fun b20 =>
  RetR h K (.v (.bool b20)) h17)
  (condB (n7 == 4)
  (rGq (n6 == 2) false (some (.v (.int .i64 n6))) fun b21 v22 =>
  rGq b21 false (aBin Tryz.prog .eql 3 v22 (.v (.int .i64 1))) fun b23 v24 =>
  okBool (pickR (some (.v (.bool b23))) (some (.v (.bool true))) (some v24)) fun b25 =>
  RetR h K (.v (.bool b25)) h)
  (condB (n7 == 5)
  (RetR h K (.v (.bool (n6 == 3))) h)
  (rGq (n6 == 1) true (some a0) fun b26 v27 =>
  rGq b26 true (aNil v27) fun b28 v29 =>
  rGq b28 true (aFA Tryz.prog 105 0 v29) fun b30 v31 =>
  rGq b30 true (aLoad Tryz.prog h 98 v31) fun b32 v33 =>
  rGq b32 true (some a0) fun b34 v35 =>
  rGq b34 true (aNil v35) fun b36 v37 =>
  rGq b36 true (aFA Tryz.prog 105 1 v37) fun b38 v39 =>
  rGq b38 true (aLoad Tryz.prog h 102 v39) fun b40 v41 =>
  rGq b40 true (some a0) fun b42 v43 =>
  rGq b42 true (aNil v43) fun b44 v45 =>
  rGq b44 true (aFA Tryz.prog 105 0 v45) fun b46 v47 =>
  rGq b46 true (aLoad Tryz.prog h 98 v47) fun b48 v49 =>
  rGq b48 true (some a2) fun b50 v51 =>
  rGq b50 true (aIA Tryz.prog h 98 v49 v51) fun b52 v53 =>
  rGq b52 true (aFA Tryz.prog 101 1 v53) fun b54 v55 =>
  rGq b54 true (aLoad Tryz.prog h 3 v55) fun b56 v57 =>
  rGq b56 true (aIA Tryz.prog h 102 v41 v57) fun b58 v59 =>
  rGq b58 true (aFA Tryz.prog 121 1 v59) fun b60 v61 =>
  rGq b60 true (aLoad Tryz.prog h 31 v61) fun b62 v63 =>
  rGq b62 true (aIA Tryz.prog h 31 v63 (.v (.int .i64 0))) fun b64 v65 =>
  rGq b64 true (aLoad Tryz.prog h 3 v65) fun b66 v67 =>
  rGq b66 true (aIA Tryz.prog h 98 v33 v67) fun b68 v69 =>
  rGq b68 true (aFA Tryz.prog 101 0 v69) fun b70 v71 =>
  rGq b70 true (aLoad Tryz.prog h 3 v71) fun b72 v73 =>
  rGq b72 true (aBin Tryz.prog .neq 3 v73 (.v (.int .i64 3))) fun b74 v75 =>
  okBool (pickR (some (.v (.bool b74))) (some v75) (some (.v (.bool false)))) fun b76 =>
  RetR h K (.v (.bool b76)) h))))
theorem Tryz.c137 (G : Nat → Option AV) (a0 a1 a2 : AV) (h : AH) (K : AV → AH → Prop) (hk : LowH h.length h → Tryz.r137 G a0 a1 a2 h K) : SCall Tryz.prog G 137 [a0, a1, a2] h K :=
  scall_of_rwp Tryz.tab137 [] Tryz.func137 rfl Tryz.ntmps137 (by kernel_rfl) (by show 3 ≤ 72; decide) (by kernel_rfl) (by kernel_rfl) hk
-- 138 (*skylark/admin.Admin).onBrick$1
def Tryz.r138 (a0 a1 : AV) (h : AH) (K : AV → AH → Prop) : Prop :=
  okInt .i64 (some a0) fun n0 =>
  okInt .i64 (aLoad Tryz.prog h 3 a1) fun n1 =>
  RetR h K (.v (.bool (n0 == n1))) h
theorem Tryz.c138 (G : Nat → Option AV) (a0 a1 : AV) (h : AH) (K : AV → AH → Prop) (hk : LowH h.length h → Tryz.r138 a0 a1 h K) : SCall Tryz.prog G 138 [a0, a1] h K :=
  scall_of_rwp Tryz.tab138 [] Tryz.func138 rfl Tryz.ntmps138 (by kernel_rfl) (by show 2 ≤ 7; decide) (by kernel_rfl) (by kernel_rfl) hk
-- 139 (*skylark/admin.Admin).alone
def Tryz.r139 (G : Nat → Option AV) (a0 a1 : AV) (h : AH) (K : AV → AH → Prop) : Prop :=
  okV (aNil a0) fun v0 =>
  okV (aFA Tryz.prog 105 1 v0) fun v1 =>
  okV (aLoad Tryz.prog h 102 v1) fun v2 =>
  okV (aNil a0) fun v3 =>
  okV (aFA Tryz.prog 105 0 v3) fun v4 =>
  okV (aLoad Tryz.prog h 98 v4) fun v5 =>
  okInt .i64 (some a1) fun n6 =>
  okV (aIA Tryz.prog h 98 v5 (.v (.int .i64 n6))) fun v7 =>
  okV (aFA Tryz.prog 101 1 v7) fun v8 =>
  okInt .i64 (aLoad Tryz.prog h 3 v8) fun n9 =>
  okV (aIA Tryz.prog h 102 v2 (.v (.int .i64 n9))) fun v10 =>
  okV (aFA Tryz.prog 121 1 v10) fun v11 =>
  okV (aLoad Tryz.prog h 31 v11) fun v12 =>
  okInt .i64 (some a1) fun n13 =>
  newO (.cells 3 1 [[(.v (.int .i64 n13))]] 0) h fun i14 h15 =>
  (aLoad Tryz.prog h15 31 v11 = some v12) ∧ (aIA Tryz.prog h15 102 v2 (.v (.int .i64 n9)) = some v10) ∧ (aLoad Tryz.prog h15 3 v8 = some (.v (.int .i64 n9))) ∧ (aIA Tryz.prog h15 98 v5 (.v (.int .i64 n6)) = some v7) ∧ (aLoad Tryz.prog h15 98 v4 = some v5) ∧ (aLoad Tryz.prog h15 102 v1 = some v2) ∧ callR Tryz.prog G 68 [v12, (.sl i14 0 0 1 none)] h15 (fun v16 h17 =>
  okBool (some v16) fun b18 =>
  RetR h K (.v (.bool b18)) h17)
theorem Tryz.c139 (G : Nat → Option AV) (a0 a1 : AV) (h : AH) (K : AV → AH → Prop) (hk : LowH h.length h → Tryz.r139 G a0 a1 h K) : SCall Tryz.prog G 139 [a0, a1] h K :=
  scall_of_rwp Tryz.tab139 [] Tryz.func139 rfl Tryz.ntmps139 (by kernel_rfl) (by show 2 ≤ 23; decide) (by kernel_rfl) (by kernel_rfl) hk
-- 140 slices.DeleteFunc[[]int,int]
def Tryz.r140_l5_3 (K : AV → AH → Prop) (h : AH) (G : Nat → Option AV) (a0 : AV) (a1 : AV) (h1 : AH) (n22 : Int) (n23 : Int) : Prop :=
  ∃ (I3 : Nat → List AV → AH → Prop) (m4 : Nat), I3 m4 [(.v (.int .i64 n22)), (.v (.int .i64 n23))] h1 ∧ ∀ (m5 : Nat) (h6 : AH), h1.length ≤ h6.length → LowH h6.length h6 → ∀ (n7 : Int) (n8 : Int), I3 m5 [(.v (.int .i64 n7)), (.v (.int .i64 n8))] h6 →
  okInt .i64 (aLen Tryz.prog h6 31 a0) fun n9 =>
  condB (decide (n8 < n9))
  (okV (aIA Tryz.prog h6 31 a0 (.v (.int .i64 n8))) fun v10 =>
  okInt .i64 (aLoad Tryz.prog h6 3 v10) fun n11 =>
  callU Tryz.prog G h6 (fun v12 h13 =>
  okBool (some v12) fun b14 =>
  condB (!b14)
  (okV (aIA Tryz.prog h13 31 a0 (.v (.int .i64 n7))) fun v15 =>
  storeR Tryz.prog h13 (fun v16 h17 =>
  nextR h1 I3 m5 [some a0, some a1] [some a0, some a1] [(.v (.int .i64 (IntKind.wrap .i64 (n7 + 1)))), (.v (.int .i64 (IntKind.wrap .i64 (n8 + 1))))] h17) 3 (.v (.int .i64 n11)) v15)
  (nextR h1 I3 m5 [some a0, some a1] [some a0, some a1] [(.v (.int .i64 n7)), (.v (.int .i64 (IntKind.wrap .i64 (n8 + 1))))] h13)) [(.v (.int .i64 n11))] a1)
  (okV (aSlice Tryz.prog h6 31 a0 (some (some (.v (.int .i64 n7)))) none none) fun v18 =>
  clearR Tryz.prog h6 31 v18 (fun v19 h20 =>
  okV (aSlice Tryz.prog h20 31 a0 none (some (some (.v (.int .i64 n7)))) none) fun v21 =>
  RetR h K v21 h20))
def Tryz.r140 (G : Nat → Option AV) (a0 a1 : AV) (h : AH) (K : AV → AH → Prop) : Prop :=
  callR Tryz.prog G 165 [a0, a1] h (fun v0 h1 =>
  okInt .i64 (some v0) fun n2 =>
  condB (n2 == (-1))
  (RetR h K a0 h1)
  (Tryz.r140_l5_3 K h G a0 a1 h1 n2 (IntKind.wrap .i64 (n2 + 1))))
theorem Tryz.c140 (G : Nat → Option AV) (a0 a1 : AV) (h : AH) (K : AV → AH → Prop) (hk : LowH h.length h → Tryz.r140 G a0 a1 h K) : SCall Tryz.prog G 140 [a0, a1] h K :=
  scall_of_rwp Tryz.tab140 [(5, [(5, (.int .i64)), (6, (.int .i64))], [0, 1])] Tryz.func140 rfl Tryz.ntmps140 (by kernel_rfl) (by show 2 ≤ 42; decide) (by kernel_rfl) (by kernel_rfl) hk
-- 141 slices.ContainsFunc[[]int,int]
def Tryz.r141 (G : Nat → Option AV) (a0 a1 : AV) (h : AH) (K : AV → AH → Prop) : Prop :=
  callR Tryz.prog G 165 [a0, a1] h (fun v0 h1 =>
  okInt .i64 (some v0) fun n2 =>
  RetR h K (.v (.bool (decide (n2 ≥ 0)))) h1)
theorem Tryz.c141 (G : Nat → Option AV) (a0 a1 : AV) (h : AH) (K : AV → AH → Prop) (hk : LowH h.length h → Tryz.r141 G a0 a1 h K) : SCall Tryz.prog G 141 [a0, a1] h K :=
  scall_of_rwp Tryz.tab141 [] Tryz.func141 rfl Tryz.ntmps141 (by kernel_rfl) (by show 2 ≤ 9; decide) (by kernel_rfl) (by kernel_rfl) hk
-- 142 (*skylark/admin.Admin).make$1
def Tryz.r142 (a0 a1 : AV) (h : AH) (K : AV → AH → Prop) : Prop :=
  okInt .i64 (some a0) fun n0 =>
  rGq (decide (n0 < 0)) false (some a0) fun b1 v2 =>
  rGq b1 false (aLoad Tryz.prog h 23 a1) fun b3 v4 =>
  rGq b3 false (aNil v4) fun b5 v6 =>
  rGq b5 false (aFA Tryz.prog 105 0 v6) fun b7 v8 =>
  rGq b7 false (aLoad Tryz.prog h 98 v8) fun b9 v10 =>
  rGq b9 false (aLen Tryz.prog h 98 v10) fun b11 v12 =>
  rGq b11 false (aBin Tryz.prog .geq 3 v2 v12) fun b13 v14 =>
  okBool (pickR (some (.v (.bool b13))) (some (.v (.bool true))) (some v14)) fun b15 =>
  RetR h K (.v (.bool b15)) h
theorem Tryz.c142 (G : Nat → Option AV) (a0 a1 : AV) (h : AH) (K : AV → AH → Prop) (hk : LowH h.length h → Tryz.r142 a0 a1 h K) : SCall Tryz.prog G 142 [a0, a1] h K :=
  scall_of_rwp Tryz.tab142 [] Tryz.func142 rfl Tryz.ntmps142 (by kernel_rfl) (by show 2 ≤ 15; decide) (by kernel_rfl) (by kernel_rfl) hk
-- 143 slices.Contains[[]int,int]
def Tryz.r143 (G : Nat → Option AV) (a0 a1 : AV) (h : AH) (K : AV → AH → Prop) : Prop :=
  okInt .i64 (some a1) fun n0 =>
  callR Tryz.prog G 166 [a0, (.v (.int .i64 n0))] h (fun v1 h2 =>
  okInt .i64 (some v1) fun n3 =>
  RetR h K (.v (.bool (decide (n3 ≥ 0)))) h2)
theorem Tryz.c143 (G : Nat → Option AV) (a0 a1 : AV) (h : AH) (K : AV → AH → Prop) (hk : LowH h.length h → Tryz.r143 G a0 a1 h K) : SCall Tryz.prog G 143 [a0, a1] h K :=
  scall_of_rwp Tryz.tab143 [] Tryz.func143 rfl Tryz.ntmps143 (by kernel_rfl) (by show 2 ≤ 9; decide) (by kernel_rfl) (by kernel_rfl) hk
-- 144 (skylark/layout.Change).To
def Tryz.r144 (G : Nat → Option AV) (a0 a1 : AV) (h : AH) (K : AV → AH → Prop) : Prop :=
  onlyB (AV.one a0) (newO (.cells 49 (AV.cells a0).length [AV.cells a0] 0) h fun i0 h1 =>
  newO (.cells 49 6 [[(.v (.int .i64 0)), (.v (.slice none 0 0)), (.v (.int .i64 0)), (.v (.slice none 0 0)), (.v (.string (ByteArray.mk #[]))), (.v (.bool false))]] 0) h1 fun i2 h3 =>
  okV (aLoad Tryz.prog h3 49 (.ptr i0 0 0 0)) fun v4 =>
  callR Tryz.prog G 63 [v4] h3 (fun v5 h6 =>
  okInt .i64 (some v5) fun n7 =>
  condB (n7 != 0)
  (storeR Tryz.prog h6 (fun v8 h9 =>
  okV (aLoad Tryz.prog h9 49 (.ptr i2 0 0 0)) fun v10 =>
  RetR h K (.tup [v10, (.v (.int .i64 n7))]) h9) 49 (.agg [(.v (.int .i64 0)), (.v (.slice none 0 0)), (.v (.int .i64 0)), (.v (.slice none 0 0)), (.v (.string (ByteArray.mk #[]))), (.v (.bool false))]) (.ptr i2 0 0 0))
  (okBool (aLoad Tryz.prog h6 4 (.ptr i0 0 0 5)) fun b11 =>
  rGq b11 false (some a1) fun b12 v13 =>
  rGq b12 false (some (.ptr i0 0 0 4)) fun b14 v15 =>
  rGq b14 false (aLoad Tryz.prog h6 9 v15) fun b16 v17 =>
  rGq b16 false (aBin Tryz.prog .lss 9 v13 v17) fun b18 v19 =>
  okBool (pickR (some (.v (.bool b18))) (some (.v (.bool true))) (some v19)) fun b20 =>
  rGq b20 false (some a1) fun b21 v22 =>
  rGq b21 false (aLen Tryz.prog h6 9 v22) fun b23 v24 =>
  rGq b23 false (aBin Tryz.prog .gtr 3 v24 (.v (.int .i64 64))) fun b25 v26 =>
  okBool (pickR (some (.v (.bool b25))) (some (.v (.bool true))) (some v26)) fun b27 =>
  condB b27
  (storeR Tryz.prog h6 (fun v28 h29 =>
  okV (aLoad Tryz.prog h29 49 (.ptr i2 0 0 0)) fun v30 =>
  RetR h K (.tup [v30, (.v (.int .i64 1))]) h29) 49 (.agg [(.v (.int .i64 0)), (.v (.slice none 0 0)), (.v (.int .i64 0)), (.v (.slice none 0 0)), (.v (.string (ByteArray.mk #[]))), (.v (.bool false))]) (.ptr i2 0 0 0))
  (okStr (some a1) fun s31 =>
  storeR Tryz.prog h6 (fun v32 h33 =>
  okV (aLoad Tryz.prog h33 49 (.ptr i0 0 0 0)) fun v34 =>
  storeR Tryz.prog h33 (fun v35 h36 =>
  okV (aLoad Tryz.prog h36 49 (.ptr i2 0 0 0)) fun v37 =>
  RetR h K (.tup [v37, (.v (.int .i64 0))]) h36) 49 v34 (.ptr i2 0 0 0)) 9 (.v (.string s31)) (.ptr i0 0 0 4)))))
theorem Tryz.c144 (G : Nat → Option AV) (a0 a1 : AV) (h : AH) (K : AV → AH → Prop) (hk : LowH h.length h → Tryz.r144 G a0 a1 h K) : SCall Tryz.prog G 144 [a0, a1] h K :=
  scall_of_rwp Tryz.tab144 [] Tryz.func144 rfl Tryz.ntmps144 (by kernel_rfl) (by show 2 ≤ 30; decide) (by kernel_rfl) (by kernel_rfl) hk
-- 145 (*skylark/skylarkref18.Admin).leave
def Tryz.r145 (a0 a1 : AV) (h : AH) (K : AV → AH → Prop) : Prop :=
  okV (aNil a0) fun v0 =>
  okV (aFA Tryz.prog 108 0 v0) fun v1 =>
  okV (aLoad Tryz.prog h 106 v1) fun v2 =>
  okInt .i64 (some a1) fun n3 =>
  okV (aIA Tryz.prog h 106 v2 (.v (.int .i64 n3))) fun v4 =>
  okV (aFA Tryz.prog 110 0 v4) fun v5 =>
  okInt .i64 (aLoad Tryz.prog h 3 v5) fun n6 =>
  condB (n6 == 0)
  (RetR h K (.v (.bool false)) h)
  (okV (aNil a0) fun v7 =>
  okV (aFA Tryz.prog 108 1 v7) fun v8 =>
  okV (aLoad Tryz.prog h 102 v8) fun v9 =>
  okV (aNil a0) fun v10 =>
  okV (aFA Tryz.prog 108 0 v10) fun v11 =>
  okV (aLoad Tryz.prog h 106 v11) fun v12 =>
  okInt .i64 (some a1) fun n13 =>
  okV (aIA Tryz.prog h 106 v12 (.v (.int .i64 n13))) fun v14 =>
  okV (aFA Tryz.prog 110 1 v14) fun v15 =>
  okInt .i64 (aLoad Tryz.prog h 3 v15) fun n16 =>
  okV (aIA Tryz.prog h 102 v9 (.v (.int .i64 n16))) fun v17 =>
  okV (aFA Tryz.prog 121 1 v17) fun v18 =>
  okV (aLoad Tryz.prog h 31 v18) fun v19 =>
  okInt .i64 (aLen Tryz.prog h 31 v19) fun n20 =>
  rGq (n20 == 1) true (some v19) fun b21 v22 =>
  rGq b21 true (aIA Tryz.prog h 31 v22 (.v (.int .i64 0))) fun b23 v24 =>
  rGq b23 true (aLoad Tryz.prog h 3 v24) fun b25 v26 =>
  rGq b25 true (some a1) fun b27 v28 =>
  rGq b27 true (aBin Tryz.prog .eql 3 v26 v28) fun b29 v30 =>
  okBool (pickR (some (.v (.bool b29))) (some v30) (some (.v (.bool false)))) fun b31 =>
  RetR h K (.v (.bool (!b31))) h)
theorem Tryz.c145 (G : Nat → Option AV) (a0 a1 : AV) (h : AH) (K : AV → AH → Prop) (hk : LowH h.length h → Tryz.r145 a0 a1 h K) : SCall Tryz.prog G 145 [a0, a1] h K :=
  scall_of_rwp Tryz.tab145 [] Tryz.func145 rfl Tryz.ntmps145 (by kernel_rfl) (by show 2 ≤ 43; decide) (by kernel_rfl) (by kernel_rfl) hk
-- 146 skylark/ring.Check
def Tryz.r146 (G : Nat → Option AV) (a0 : AV) (h : AH) (K : AV → AH → Prop) : Prop :=
  okInt .i64 (aLen Tryz.prog h 31 a0) fun n0 =>
  rGq (decide (n0 < 1)) false (some a0) fun b1 v2 =>
  rGq b1 false (aLen Tryz.prog h 31 v2) fun b3 v4 =>
  rGq b3 false (aBin Tryz.prog .gtr 3 v4 (.v (.int .i64 8))) fun b5 v6 =>
  okBool (pickR (some (.v (.bool b5))) (some (.v (.bool true))) (some v6)) fun b7 =>
  rGq b7 false (some a0) fun b8 v9 =>
  rGe b8 false (fun k10 => callR Tryz.prog G 167 [v9] h (fun v11 h12 =>
  k10 v11 h12)) h fun b13 v14 h15 =>
  rGq b13 false (aBin Tryz.prog .lss 3 v14 (.v (.int .i64 0))) fun b16 v17 =>
  okBool (pickR (some (.v (.bool b16))) (some (.v (.bool true))) (some v17)) fun b18 =>
  rGq b18 false (some a0) fun b19 v20 =>
  rGe b19 false (fun k21 => callR Tryz.prog G 70 [v20] h15 (fun v22 h23 =>
  k21 v22 h23)) h15 fun b24 v25 h26 =>
  rGq b24 false (aBin Tryz.prog .gtr 3 v25 (.v (.int .i64 128))) fun b27 v28 =>
  okBool (pickR (some (.v (.bool b27))) (some (.v (.bool true))) (some v28)) fun b29 =>
  rGq b29 false (some a0) fun b30 v31 =>
  rGe b30 false (fun k32 => callR Tryz.prog G 70 [v31] h26 (fun v33 h34 =>
  k32 v33 h34)) h26 fun b35 v36 h37 =>
  rGq b35 false (aBin Tryz.prog .eql 3 v36 (.v (.int .i64 0))) fun b38 v39 =>
  okBool (pickR (some (.v (.bool b38))) (some (.v (.bool true))) (some v39)) fun b40 =>
  condB b40
  (RetR h K (.v (.int .i64 1)) h37)
  (RetR h K (.v (.int .i64 0)) h37)
theorem Tryz.c146 (G : Nat → Option AV) (a0 : AV) (h : AH) (K : AV → AH → Prop) (hk : LowH h.length h → Tryz.r146 G a0 h K) : SCall Tryz.prog G 146 [a0] h K :=
  scall_of_rwp Tryz.tab146 [] Tryz.func146 rfl Tryz.ntmps146 (by kernel_rfl) (by show 1 ≤ 26; decide) (by kernel_rfl) (by kernel_rfl) hk
-- 147 skylark/ring.Hash
def Tryz.r147_l3_1 (K : AV → AH → Prop) (h : AH) (a0 : AV) (s0 : ByteArray) (n14 : Int) (n15 : Int) : Prop :=
  ∃ (I1 : Nat → List AV → AH → Prop) (m2 : Nat), I1 m2 [(.v (.int .u64 n14)), (.v (.int .i64 n15))] h ∧ ∀ (m3 : Nat) (h4 : AH), h.length ≤ h4.length → LowH h4.length h4 → ∀ (n5 : Int) (n6 : Int), I1 m3 [(.v (.int .u64 n5)), (.v (.int .i64 n6))] h4 →
  condB (decide (n6 < ((ByteArray.size s0 : Nat) : Int)))
  (okStr (some a0) fun s7 =>
  okInt .u8 (aIndex Tryz.prog 9 (.v (.string s7)) (.v (.int .i64 n6))) fun n8 =>
  okInt .u64 (aBin Tryz.prog .xor 60 (.v (.int .u64 n5)) (.v (.int .u64 (IntKind.wrap .u64 n8)))) fun n9 =>
  nextR h I1 m3 [some a0, some (.v (.int .i64 ((ByteArray.size s0 : Nat) : Int)))] [some a0, some (.v (.int .i64 ((ByteArray.size s0 : Nat) : Int)))] [(.v (.int .u64 (IntKind.wrap .u64 (n9 * 1099511628211)))), (.v (.int .i64 (IntKind.wrap .i64 (n6 + 1))))] h4)
  (okInt .u64 (aBin Tryz.prog .shr 60 (.v (.int .u64 n5)) (.v (.int .u64 33))) fun n10 =>
  okInt .u64 (aBin Tryz.prog .xor 60 (.v (.int .u64 n5)) (.v (.int .u64 n10))) fun n11 =>
  okInt .u64 (aBin Tryz.prog .shr 60 (.v (.int .u64 (IntKind.wrap .u64 (n11 * 18397679294719823053)))) (.v (.int .u64 33))) fun n12 =>
  okInt .u64 (aBin Tryz.prog .xor 60 (.v (.int .u64 (IntKind.wrap .u64 (n11 * 18397679294719823053)))) (.v (.int .u64 n12))) fun n13 =>
  RetR h K (.v (.int .u64 n13)) h4)
def Tryz.r147 (a0 : AV) (h : AH) (K : AV → AH → Prop) : Prop :=
  okStr (some a0) fun s0 =>
  Tryz.r147_l3_1 K h a0 s0 14695981039346656037 0
theorem Tryz.c147 (G : Nat → Option AV) (a0 : AV) (h : AH) (K : AV → AH → Prop) (hk : LowH h.length h → Tryz.r147 a0 h K) : SCall Tryz.prog G 147 [a0] h K :=
  scall_of_rwp Tryz.tab147 [(3, [(3, (.int .u64)), (7, (.int .i64))], [0, 6])] Tryz.func147 rfl Tryz.ntmps147 (by kernel_rfl) (by show 1 ≤ 27; decide) (by kernel_rfl) (by kernel_rfl) hk
-- 149 (skylark/ring.ring).sort
def Tryz.r149 (G : Nat → Option AV) (a0 a1 : AV) (h : AH) (K : AV → AH → Prop) : Prop :=
  callR Tryz.prog G 169 [a0, a1] h (fun v0 h1 =>
  RetR h K (.tup []) h1)
theorem Tryz.c149 (G : Nat → Option AV) (a0 a1 : AV) (h : AH) (K : AV → AH → Prop) (hk : LowH h.length h → Tryz.r149 G a0 a1 h K) : SCall Tryz.prog G 149 [a0, a1] h K :=
  scall_of_rwp Tryz.tab149 [] Tryz.func149 rfl Tryz.ntmps149 (by kernel_rfl) (by show 2 ≤ 7; decide) (by kernel_rfl) (by kernel_rfl) hk
-- 150 (skylark/ring.point).compare
def Tryz.r150 (G : Nat → Option AV) (a0 a1 : AV) (h : AH) (K : AV → AH → Prop) : Prop :=
  onlyB (AV.one a0) (newO (.cells 220 (AV.cells a0).length [AV.cells a0] 0) h fun i0 h1 =>
  onlyB (AV.one a1) (newO (.cells 220 (AV.cells a1).length [AV.cells a1] 0) h1 fun i2 h3 =>
  okInt .u64 (aLoad Tryz.prog h3 60 (.ptr i0 0 0 0)) fun n4 =>
  okInt .u64 (aLoad Tryz.prog h3 60 (.ptr i2 0 0 0)) fun n5 =>
  okInt .i64 (aLoad Tryz.prog h3 3 (.ptr i0 0 0 1)) fun n6 =>
  okInt .i64 (aLoad Tryz.prog h3 3 (.ptr i2 0 0 1)) fun n7 =>
  okInt .i64 (aLoad Tryz.prog h3 3 (.ptr i0 0 0 2)) fun n8 =>
  okInt .i64 (aLoad Tryz.prog h3 3 (.ptr i2 0 0 2)) fun n9 =>
  callR Tryz.prog G 153 [(.v (.int .u64 n4)), (.v (.int .u64 n5))] h3 (fun v10 h11 =>
  okInt .i64 (some v10) fun n12 =>
  (aLoad Tryz.prog h11 3 (.ptr i2 0 0 2) = some (.v (.int .i64 n9))) ∧ (aLoad Tryz.prog h11 3 (.ptr i0 0 0 2) = some (.v (.int .i64 n8))) ∧ (aLoad Tryz.prog h11 3 (.ptr i2 0 0 1) = some (.v (.int .i64 n7))) ∧ (aLoad Tryz.prog h11 3 (.ptr i0 0 0 1) = some (.v (.int .i64 n6))) ∧ callR Tryz.prog G 170 [(.v (.int .i64 n6)), (.v (.int .i64 n7))] h11 (fun v13 h14 =>
  okInt .i64 (some v13) fun n15 =>
  (aLoad Tryz.prog h14 3 (.ptr i2 0 0 2) = some (.v (.int .i64 n9))) ∧ (aLoad Tryz.prog h14 3 (.ptr i0 0 0 2) = some (.v (.int .i64 n8))) ∧ callR Tryz.prog G 170 [(.v (.int .i64 n8)), (.v (.int .i64 n9))] h14 (fun v16 h17 =>
  okInt .i64 (some v16) fun n18 =>
  newO (.cells 3 1 [[(.v (.int .i64 n12))], [(.v (.int .i64 n15))], [(.v (.int .i64 n18))]] 0) h17 fun i19 h20 =>
  callR Tryz.prog G 88 [(.sl i19 0 0 3 none)] h20 (fun v21 h22 =>
  okInt .i64 (some v21) fun n23 =>
  RetR h K (.v (.int .i64 n23)) h22))))))
theorem Tryz.c150 (G : Nat → Option AV) (a0 a1 : AV) (h : AH) (K : AV → AH → Prop) (hk : LowH h.length h → Tryz.r150 G a0 a1 h K) : SCall Tryz.prog G 150 [a0, a1] h K :=
  scall_of_rwp Tryz.tab150 [] Tryz.func150 rfl Tryz.ntmps150 (by kernel_rfl) (by show 2 ≤ 22; decide) (by kernel_rfl) (by kernel_rfl) hk
-- 151 slices.BinarySearchFunc[skylark/ring.ring,skylark/ring.point,uint64]
def Tryz.r151_l3_1 (K : AV → AH → Prop) (h : AH) (G : Nat → Option AV) (a0 : AV) (a1 : AV) (a2 : AV) (n0 : Int) (n35 : Int) (n36 : Int) : Prop :=
  ∃ (I1 : Nat → List AV → AH → Prop) (m2 : Nat), I1 m2 [(.v (.int .i64 n35)), (.v (.int .i64 n36))] h ∧ ∀ (m3 : Nat) (h4 : AH), h.length ≤ h4.length → LowH h4.length h4 → ∀ (n5 : Int) (n6 : Int), I1 m3 [(.v (.int .i64 n5)), (.v (.int .i64 n6))] h4 →
  condB (decide (n5 < n6))
  (okInt .u64 (aBin Tryz.prog .shr 171 (.v (.int .u64 (IntKind.wrap .u64 (IntKind.wrap .i64 (n5 + n6))))) (.v (.int .u64 1))) fun n7 =>
  okV (aIA Tryz.prog h4 182 a0 (.v (.int .i64 (IntKind.wrap .i64 n7)))) fun v8 =>
  okV (aLoad Tryz.prog h4 220 v8) fun v9 =>
  okInt .u64 (some a1) fun n10 =>
  callU Tryz.prog G h4 (fun v11 h12 =>
  okInt .i64 (some v11) fun n13 =>
  condB (decide (n13 < 0))
  (nextR h I1 m3 [some a0, some a1, some a2, some (.v (.int .i64 n0))] [some a0, some a1, some a2, some (.v (.int .i64 n0))] [(.v (.int .i64 (IntKind.wrap .i64 ((IntKind.wrap .i64 n7) + 1)))), (.v (.int .i64 n6))] h12)
  (nextR h I1 m3 [some a0, some a1, some a2, some (.v (.int .i64 n0))] [some a0, some a1, some a2, some (.v (.int .i64 n0))] [(.v (.int .i64 n5)), (.v (.int .i64 (IntKind.wrap .i64 n7)))] h12)) [v9, (.v (.int .u64 n10))] a2)
  (rGq (decide (n5 < n0)) true (some a2) fun b14 v15 =>
  rGq b14 true (some a0) fun b16 v17 =>
  rGq b16 true (some (.v (.int .i64 n5))) fun b18 v19 =>
  rGq b18 true (aIA Tryz.prog h4 182 v17 v19) fun b20 v21 =>
  rGq b20 true (aLoad Tryz.prog h4 220 v21) fun b22 v23 =>
  rGq b22 true (some a1) fun b24 v25 =>
  rGe b24 true (fun k26 => callU Tryz.prog G h4 (fun v27 h28 =>
  k26 v27 h28) [v23, v25] v15) h4 fun b29 v30 h31 =>
  rGq b29 true (aBin Tryz.prog .eql 3 v30 (.v (.int .i64 0))) fun b32 v33 =>
  okBool (pickR (some (.v (.bool b32))) (some v33) (some (.v (.bool false)))) fun b34 =>
  RetR h K (.tup [(.v (.int .i64 n5)), (.v (.bool b34))]) h31)
def Tryz.r151 (G : Nat → Option AV) (a0 a1 a2 : AV) (h : AH) (K : AV → AH → Prop) : Prop :=
  okInt .i64 (aLen Tryz.prog h 182 a0) fun n0 =>
  Tryz.r151_l3_1 K h G a0 a1 a2 n0 0 n0
theorem Tryz.c151 (G : Nat → Option AV) (a0 a1 a2 : AV) (h : AH) (K : AV → AH → Prop) (hk : LowH h.length h → Tryz.r151 G a0 a1 a2 h K) : SCall Tryz.prog G 151 [a0, a1, a2] h K :=
  scall_of_rwp Tryz.tab151 [(3, [(9, (.int .i64)), (10, (.int .i64))], [0, 1, 2, 8])] Tryz.func151 rfl Tryz.ntmps151 (by kernel_rfl) (by show 3 ≤ 49; decide) (by kernel_rfl) (by kernel_rfl) hk
-- 152 (skylark/ring.ring).of$1
def Tryz.r152 (G : Nat → Option AV) (a0 a1 : AV) (h : AH) (K : AV → AH → Prop) : Prop :=
  onlyB (AV.one a0) (newO (.cells 220 (AV.cells a0).length [AV.cells a0] 0) h fun i0 h1 =>
  okInt .u64 (aLoad Tryz.prog h1 60 (.ptr i0 0 0 0)) fun n2 =>
  okInt .u64 (some a1) fun n3 =>
  callR Tryz.prog G 153 [(.v (.int .u64 n2)), (.v (.int .u64 n3))] h1 (fun v4 h5 =>
  okInt .i64 (some v4) fun n6 =>
  RetR h K (.v (.int .i64 n6)) h5))
theorem Tryz.c152 (G : Nat → Option AV) (a0 a1 : AV) (h : AH) (K : AV → AH → Prop) (hk : LowH h.length h → Tryz.r152 G a0 a1 h K) : SCall Tryz.prog G 152 [a0, a1] h K :=
  scall_of_rwp Tryz.tab152 [] Tryz.func152 rfl Tryz.ntmps152 (by kernel_rfl) (by show 2 ≤ 9; decide) (by kernel_rfl) (by kernel_rfl) hk
-- 153 cmp.Compare[uint64]
def Tryz.r153 (G : Nat → Option AV) (a0 a1 : AV) (h : AH) (K : AV → AH → Prop) : Prop :=
  okInt .u64 (some a0) fun n0 =>
  callR Tryz.prog G 171 [(.v (.int .u64 n0))] h (fun v1 h2 =>
  okBool (some v1) fun b3 =>
  okInt .u64 (some a1) fun n4 =>
  callR Tryz.prog G 171 [(.v (.int .u64 n4))] h2 (fun v5 h6 =>
  okBool (some v5) fun b7 =>
  condB b3
  (condB b7
  (RetR h K (.v (.int .i64 0)) h6)
  (RetR h K (.v (.int .i64 (-1))) h6))
  (condB b7
  (RetR h K (.v (.int .i64 1)) h6)
  (okInt .u64 (some a0) fun n8 =>
  okInt .u64 (some a1) fun n9 =>
  condB (decide (n8 < n9))
  (RetR h K (.v (.int .i64 (-1))) h6)
  (okInt .u64 (some a0) fun n10 =>
  okInt .u64 (some a1) fun n11 =>
  condB (decide (n10 > n11))
  (RetR h K (.v (.int .i64 1)) h6)
  (RetR h K (.v (.int .i64 0)) h6))))))
theorem Tryz.c153 (G : Nat → Option AV) (a0 a1 : AV) (h : AH) (K : AV → AH → Prop) (hk : LowH h.length h → Tryz.r153 G a0 a1 h K) : SCall Tryz.prog G 153 [a0, a1] h K :=
  scall_of_rwp Tryz.tab153 [] Tryz.func153 rfl Tryz.ntmps153 (by kernel_rfl) (by show 2 ≤ 20; decide) (by kernel_rfl) (by kernel_rfl) hk
-- 154 skylark/skylarkref06.Hash
def Tryz.r154_l3_0 (K : AV → AH → Prop) (h : AH) (a0 : AV) (n14 : Int) (n15 : Int) : Prop :=
  ∃ (I0 : Nat → List AV → AH → Prop) (m1 : Nat), I0 m1 [(.v (.int .u64 n14)), (.v (.int .i64 n15))] h ∧ ∀ (m2 : Nat) (h3 : AH), h.length ≤ h3.length → LowH h3.length h3 → ∀ (n4 : Int) (n5 : Int), I0 m2 [(.v (.int .u64 n4)), (.v (.int .i64 n5))] h3 →
  okStr (some a0) fun s6 =>
  condB (decide (n5 < ((ByteArray.size s6 : Nat) : Int)))
  (okStr (some a0) fun s7 =>
  okInt .u8 (aIndex Tryz.prog 9 (.v (.string s7)) (.v (.int .i64 n5))) fun n8 =>
  okInt .u64 (aBin Tryz.prog .xor 60 (.v (.int .u64 n4)) (.v (.int .u64 (IntKind.wrap .u64 n8)))) fun n9 =>
  nextR h I0 m2 [some a0] [some a0] [(.v (.int .u64 (IntKind.wrap .u64 (n9 * 1099511628211)))), (.v (.int .i64 (IntKind.wrap .i64 (n5 + 1))))] h3)
  (okInt .u64 (aBin Tryz.prog .shr 60 (.v (.int .u64 n4)) (.v (.int .u64 33))) fun n10 =>
  okInt .u64 (aBin Tryz.prog .xor 60 (.v (.int .u64 n4)) (.v (.int .u64 n10))) fun n11 =>
  okInt .u64 (aBin Tryz.prog .shr 60 (.v (.int .u64 (IntKind.wrap .u64 (n11 * 18397679294719823053)))) (.v (.int .u64 33))) fun n12 =>
  okInt .u64 (aBin Tryz.prog .xor 60 (.v (.int .u64 (IntKind.wrap .u64 (n11 * 18397679294719823053)))) (.v (.int .u64 n12))) fun n13 =>
  RetR h K (.v (.int .u64 n13)) h3)
def Tryz.r154 (a0 : AV) (h : AH) (K : AV → AH → Prop) : Prop :=
  Tryz.r154_l3_0 K h a0 14695981039346656037 0
theorem Tryz.c154 (G : Nat → Option AV) (a0 : AV) (h : AH) (K : AV → AH → Prop) (hk : LowH h.length h → Tryz.r154 a0 h K) : SCall Tryz.prog G 154 [a0] h K :=
  scall_of_rwp Tryz.tab154 [(3, [(3, (.int .u64)), (4, (.int .i64))], [0])] Tryz.func154 rfl Tryz.ntmps154 (by kernel_rfl) (by show 1 ≤ 27; decide) (by kernel_rfl) (by kernel_rfl) hk
-- 155 skylark/skylarkref06.Digits
def Tryz.r155_l2_1 (h : AH) (K : AV → AH → Prop) (n11 : Int) (s12 : ByteArray) : Prop :=
  ∃ (I1 : Nat → List AV → AH → Prop) (m2 : Nat), I1 m2 [(.v (.int .i64 n11)), (.v (.string s12))] h ∧ ∀ (m3 : Nat) (h4 : AH), h.length ≤ h4.length → LowH h4.length h4 → ∀ (n5 : Int) (s6 : ByteArray), I1 m3 [(.v (.int .i64 n5)), (.v (.string s6))] h4 →
  newO (.cells 5 1 [[(.v (.int .u8 (IntKind.wrap .u8 (IntKind.wrap .i64 (48 + (Int.tmod n5 10))))))]] 0) h4 fun i7 h8 =>
  okStr (aConv Tryz.prog h8 240 9 (.sl i7 0 0 1 none)) fun s9 =>
  okStr (aBin Tryz.prog .add 9 (.v (.string s9)) (.v (.string s6))) fun s10 =>
  condB ((IntKind.wrap .i64 (Int.tdiv n5 10)) == 0)
  (RetR h K (.v (.string s10)) h8)
  (nextR h I1 m3 [] [] [(.v (.int .i64 (IntKind.wrap .i64 (Int.tdiv n5 10)))), (.v (.string s10))] h8)
def Tryz.r155 (a0 : AV) (h : AH) (K : AV → AH → Prop) : Prop :=
  okInt .i64 (some a0) fun n0 =>
  Tryz.r155_l2_1 h K n0 (ByteArray.mk #[])
theorem Tryz.c155 (G : Nat → Option AV) (a0 : AV) (h : AH) (K : AV → AH → Prop) (hk : LowH h.length h → Tryz.r155 a0 h K) : SCall Tryz.prog G 155 [a0] h K :=
  scall_of_rwp Tryz.tab155 [(2, [(0, (.int .i64)), (3, .str)], [])] Tryz.func155 rfl Tryz.ntmps155 (by kernel_rfl) (by show 1 ≤ 17; decide) (by kernel_rfl) (by kernel_rfl) hk
-- 156 slices.insertionSortCmpFunc[skylark/api.Row]
def Tryz.r165_l2_1 (K : AV → AH → Prop) (h : AH) (G : Nat → Option AV) (a0 : AV) (a1 : AV) (n0 : Int) (n11 : Int) : Prop :=
  ∃ (I1 : Nat → List AV → AH → Prop) (m2 : Nat), I1 m2 [(.v (.int .i64 n11))] h ∧ ∀ (m3 : Nat) (h4 : AH), h.length ≤ h4.length → LowH h4.length h4 → ∀ (n5 : Int), I1 m3 [(.v (.int .i64 n5))] h4 →
  condB (decide (n5 < n0))
  (okV (aIA Tryz.prog h4 31 a0 (.v (.int .i64 n5))) fun v6 =>
  okInt .i64 (aLoad Tryz.prog h4 3 v6) fun n7 =>
  callU Tryz.prog G h4 (fun v8 h9 =>
  okBool (some v8) fun b10 =>
  condB b10
  (RetR h K (.v (.int .i64 n5)) h9)
  (nextR h I1 m3 [some a0, some a1, some (.v (.int .i64 n0))] [some a0, some a1, some (.v (.int .i64 n0))] [(.v (.int .i64 (IntKind.wrap .i64 (n5 + 1))))] h9)) [(.v (.int .i64 n7))] a1)
  (RetR h K (.v (.int .i64 (-1))) h4)
def Tryz.r165 (G : Nat → Option AV) (a0 a1 : AV) (h : AH) (K : AV → AH → Prop) : Prop :=
  okInt .i64 (aLen Tryz.prog h 31 a0) fun n0 =>
  Tryz.r165_l2_1 K h G a0 a1 n0 0
theorem Tryz.c165 (G : Nat → Option AV) (a0 a1 : AV) (h : AH) (K : AV → AH → Prop) (hk : LowH h.length h → Tryz.r165 G a0 a1 h K) : SCall Tryz.prog G 165 [a0, a1] h K :=
  scall_of_rwp Tryz.tab165 [(2, [(8, (.int .i64))], [0, 1, 7])] Tryz.func165 rfl Tryz.ntmps165 (by kernel_rfl) (by show 2 ≤ 19; decide) (by kernel_rfl) (by kernel_rfl) hk
-- 166 slices.Index[[]int,int]
def Tryz.r166_l2_1 (K : AV → AH → Prop) (h : AH) (a0 : AV) (a1 : AV) (n0 : Int) (n9 : Int) : Prop :=
  ∃ (I1 : Nat → List AV → AH → Prop) (m2 : Nat), I1 m2 [(.v (.int .i64 n9))] h ∧ ∀ (m3 : Nat) (h4 : AH), h.length ≤ h4.length → LowH h4.length h4 → ∀ (n5 : Int), I1 m3 [(.v (.int .i64 n5))] h4 →
  condB (decide (n5 < n0))
  (okInt .i64 (some a1) fun n6 =>
  okV (aIA Tryz.prog h4 31 a0 (.v (.int .i64 n5))) fun v7 =>
  okInt .i64 (aLoad Tryz.prog h4 3 v7) fun n8 =>
  condB (n6 == n8)
  (RetR h K (.v (.int .i64 n5)) h4)
  (nextR h I1 m3 [some a0, some a1, some (.v (.int .i64 n0))] [some a0, some a1, some (.v (.int .i64 n0))] [(.v (.int .i64 (IntKind.wrap .i64 (n5 + 1))))] h4))
  (RetR h K (.v (.int .i64 (-1))) h4)
def Tryz.r166 (a0 a1 : AV) (h : AH) (K : AV → AH → Prop) : Prop :=
  okInt .i64 (aLen Tryz.prog h 31 a0) fun n0 =>
  Tryz.r166_l2_1 K h a0 a1 n0 0
theorem Tryz.c166 (G : Nat → Option AV) (a0 a1 : AV) (h : AH) (K : AV → AH → Prop) (hk : LowH h.length h → Tryz.r166 a0 a1 h K) : SCall Tryz.prog G 166 [a0, a1] h K :=
  scall_of_rwp Tryz.tab166 [(2, [(8, (.int .i64))], [0, 1, 7])] Tryz.func166 rfl Tryz.ntmps166 (by kernel_rfl) (by show 2 ≤ 19; decide) (by kernel_rfl) (by kernel_rfl) hk
-- 167 slices.Min[[]int,int]
def Tryz.r167_l5_3 (K : AV → AH → Prop) (h : AH) (a0 : AV) (h0 : AH) (n13 : Int) (n14 : Int) : Prop :=
  ∃ (I3 : Nat → List AV → AH → Prop) (m4 : Nat), I3 m4 [(.v (.int .i64 n13)), (.v (.int .i64 n14))] h0 ∧ ∀ (m5 : Nat) (h6 : AH), h0.length ≤ h6.length → LowH h6.length h6 → ∀ (n7 : Int) (n8 : Int), I3 m5 [(.v (.int .i64 n7)), (.v (.int .i64 n8))] h6 →
  okInt .i64 (aLen Tryz.prog h6 31 a0) fun n9 =>
  condB (decide (n8 < n9))
  (okV (aIA Tryz.prog h6 31 a0 (.v (.int .i64 n8))) fun v10 =>
  okInt .i64 (aLoad Tryz.prog h6 3 v10) fun n11 =>
  okInt .i64 (aMinMax false [some (.v (.int .i64 n7)), some (.v (.int .i64 n11))]) fun n12 =>
  nextR h0 I3 m5 [some a0] [some a0] [(.v (.int .i64 n12)), (.v (.int .i64 (IntKind.wrap .i64 (n8 + 1))))] h6)
  (RetR h K (.v (.int .i64 n7)) h6)
def Tryz.r167_j1 (h : AH) (K : AV → AH → Prop) (a0 : AV) (h0 : AH) : Prop :=
  okV (aIA Tryz.prog h0 31 a0 (.v (.int .i64 0))) fun v1 =>
  okInt .i64 (aLoad Tryz.prog h0 3 v1) fun n2 =>
  Tryz.r167_l5_3 K h a0 h0 n2 1
def Tryz.r167 (a0 : AV) (h : AH) (K : AV → AH → Prop) : Prop :=
  okInt .i64 (aLen Tryz.prog h 31 a0) fun n15 =>
  condB (decide (n15 < 1))
  (okV (aMkI Tryz.prog 9 (.v (.string (ByteArray.mk #[115, 108, 105, 99, 101, 115, 46, 77, 105, 110, 58, 32, 101, 109, 112, 116, 121, 32, 108, 105, 115, 116])))) fun v16 =>
  False)
  (Tryz.r167_j1 h K a0 h)
theorem Tryz.c167 (G : Nat → Option AV) (a0 : AV) (h : AH) (K : AV → AH → Prop) (hk : LowH h.length h → Tryz.r167 a0 h K) : SCall Tryz.prog G 167 [a0] h K :=
  scall_of_rwp Tryz.tab167 [(5, [(3, (.int .i64)), (4, (.int .i64))], [0])] Tryz.func167 rfl Tryz.ntmps167 (by kernel_rfl) (by show 1 ≤ 25; decide) (by kernel_rfl) (by kernel_rfl) hk
-- 169 slices.SortFunc[skylark/ring.ring,skylark/ring.point]
def Tryz.r169 (G : Nat → Option AV) (a0 a1 : AV) (h : AH) (K : AV → AH → Prop) : Prop :=
  okInt .i64 (aLen Tryz.prog h 182 a0) fun n0 =>
  callR Tryz.prog G 178 [(.v (.int .u64 (IntKind.wrap .u64 n0)))] h (fun v1 h2 =>
  okInt .i64 (some v1) fun n3 =>
  callR Tryz.prog G 177 [a0, (.v (.int .i64 0)), (.v (.int .i64 n0)), (.v (.int .i64 n3)), a1] h2 (fun v4 h5 =>
  RetR h K (.tup []) h5))
theorem Tryz.c169 (G : Nat → Option AV) (a0 a1 : AV) (h : AH) (K : AV → AH → Prop) (hk : LowH h.length h → Tryz.r169 G a0 a1 h K) : SCall Tryz.prog G 169 [a0, a1] h K :=
  scall_of_rwp Tryz.tab169 [] Tryz.func169 rfl Tryz.ntmps169 (by kernel_rfl) (by show 2 ≤ 14; decide) (by kernel_rfl) (by kernel_rfl) hk
-- 170 cmp.Compare[int]
def Tryz.r170 (G : Nat → Option AV) (a0 a1 : AV) (h : AH) (K : AV → AH → Prop) : Prop :=
  okInt .i64 (some a0) fun n0 =>
  callR Tryz.prog G 179 [(.v (.int .i64 n0))] h (fun v1 h2 =>
  okBool (some v1) fun b3 =>
  okInt .i64 (some a1) fun n4 =>
  callR Tryz.prog G 179 [(.v (.int .i64 n4))] h2 (fun v5 h6 =>
  okBool (some v5) fun b7 =>
  condB b3
  (condB b7
  (RetR h K (.v (.int .i64 0)) h6)
  (RetR h K (.v (.int .i64 (-1))) h6))
  (condB b7
  (RetR h K (.v (.int .i64 1)) h6)
  (okInt .i64 (some a0) fun n8 =>
  okInt .i64 (some a1) fun n9 =>
  condB (decide (n8 < n9))
  (RetR h K (.v (.int .i64 (-1))) h6)
  (okInt .i64 (some a0) fun n10 =>
  okInt .i64 (some a1) fun n11 =>
  condB (decide (n10 > n11))
  (RetR h K (.v (.int .i64 1)) h6)
  (RetR h K (.v (.int .i64 0)) h6))))))
theorem Tryz.c170 (G : Nat → Option AV) (a0 a1 : AV) (h : AH) (K : AV → AH → Prop) (hk : LowH h.length h → Tryz.r170 G a0 a1 h K) : SCall Tryz.prog G 170 [a0, a1] h K :=
  scall_of_rwp Tryz.tab170 [] Tryz.func170 rfl Tryz.ntmps170 (by kernel_rfl) (by show 2 ≤ 20; decide) (by kernel_rfl) (by kernel_rfl) hk
-- 171 cmp.isNaN[uint64]
def Tryz.r171 (a0 : AV) (h : AH) (K : AV → AH → Prop) : Prop :=
  okInt .u64 (some a0) fun n0 =>
  okInt .u64 (some a0) fun n1 =>
  RetR h K (.v (.bool (n0 != n1))) h
theorem Tryz.c171 (G : Nat → Option AV) (a0 : AV) (h : AH) (K : AV → AH → Prop) (hk : LowH h.length h → Tryz.r171 a0 h K) : SCall Tryz.prog G 171 [a0] h K :=
  scall_of_rwp Tryz.tab171 [] Tryz.func171 rfl Tryz.ntmps171 (by kernel_rfl) (by show 1 ≤ 6; decide) (by kernel_rfl) (by kernel_rfl) hk
-- 172 slices.rotateCmpFunc[skylark/api.Row]
def Tryz.r179 (a0 : AV) (h : AH) (K : AV → AH → Prop) : Prop :=
  okInt .i64 (some a0) fun n0 =>
  okInt .i64 (some a0) fun n1 =>
  RetR h K (.v (.bool (n0 != n1))) h
theorem Tryz.c179 (G : Nat → Option AV) (a0 : AV) (h : AH) (K : AV → AH → Prop) (hk : LowH h.length h → Tryz.r179 a0 h K) : SCall Tryz.prog G 179 [a0] h K :=
  scall_of_rwp Tryz.tab179 [] Tryz.func179 rfl Tryz.ntmps179 (by kernel_rfl) (by show 1 ≤ 6; decide) (by kernel_rfl) (by kernel_rfl) hk
-- 180 slices.swapRangeCmpFunc[skylark/api.Row]
end Go.Proofs




