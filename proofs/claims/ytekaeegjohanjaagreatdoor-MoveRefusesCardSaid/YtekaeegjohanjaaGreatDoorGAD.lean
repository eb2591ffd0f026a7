/-
  Of each function its body as a plain statement, and that a call follows from it: printed by wip/gen/Res.lean.
-/
import Derived.Test.YtekaeegjohanjaaGreatDoorGAC
import Derived.Test.YtekaeegjohanjaaGreatDoorAbH
import Derived.KernelRfl
set_option linter.all false
namespace Go.Proofs
open Go Go.Abs
set_option linter.unusedVariables false
set_option maxRecDepth 100000
-- 6 skylark/skylarklaw22.MoveRefuses
def Tryz.r6 (G : Nat → Option AV) (a0 a1 : AV) (h : AH) (K : AV → AH → Prop) : Prop :=
  onlyB (AV.one a0) (newO (.cells 46 (AV.cells a0).length [AV.cells a0] 0) h fun i0 h1 =>
  okV (aLoad Tryz.prog h1 46 (.ptr i0 0 0 0)) fun v2 =>
  callR Tryz.prog G 29 [v2] h1 (fun v3 h4 =>
  okBool (some v3) fun b5 =>
  condB (!b5)
  (callR Tryz.prog G 20 [] h4 (fun v6 h7 =>
  okBool (some v6) fun b8 =>
  RetR h K (.v (.bool b8)) h7))
  (okV (aLoad Tryz.prog h4 46 (.ptr i0 0 0 0)) fun v9 =>
  callR Tryz.prog G 30 [v9] h4 (fun v10 h11 =>
  okV (extV 0 v10) fun v12 =>
  okV (extV 1 v10) fun v13 =>
  okBool (extV 2 v10) fun b14 =>
  rGq (!b14) false (some v12) fun b15 v16 =>
  rGq b15 false (aLen Tryz.prog h11 51 v16) fun b17 v18 =>
  rGq b17 false (aBin Tryz.prog .eql 3 v18 (.v (.int .i64 0))) fun b19 v20 =>
  okBool (pickR (some (.v (.bool b19))) (some (.v (.bool true))) (some v20)) fun b21 =>
  rGq b21 false (some v12) fun b22 v23 =>
  rGq b22 false (aLen Tryz.prog h11 51 v23) fun b24 v25 =>
  rGq b24 false (some (.ptr i0 0 0 2)) fun b26 v27 =>
  rGq b26 false (aFA Tryz.prog 43 1 v27) fun b28 v29 =>
  rGq b28 false (aLoad Tryz.prog h11 31 v29) fun b30 v31 =>
  rGq b30 false (aLen Tryz.prog h11 31 v31) fun b32 v33 =>
  rGq b32 false (aBin Tryz.prog .neq 3 v25 v33) fun b34 v35 =>
  okBool (pickR (some (.v (.bool b34))) (some (.v (.bool true))) (some v35)) fun b36 =>
  rGq b36 false (aLoad Tryz.prog h11 46 (.ptr i0 0 0 0)) fun b37 v38 =>
  rGe b37 false (fun k39 => callR Tryz.prog G 31 [v38] h11 (fun v40 h41 =>
  k39 v40 h41)) h11 fun b42 v43 h44 =>
  rGe b42 false (fun k45 => callR Tryz.prog G 40 [v43] h44 (fun v46 h47 =>
  k45 v46 h47)) h44 fun b48 v49 h50 =>
  rGq b48 false (aUn .not v49) fun b51 v52 =>
  okBool (pickR (some (.v (.bool b51))) (some (.v (.bool true))) (some v52)) fun b53 =>
  condB b53
  (callR Tryz.prog G 20 [] h50 (fun v54 h55 =>
  okBool (some v54) fun b56 =>
  RetR h K (.v (.bool b56)) h55))
  (okInt .i64 (some a1) fun n57 =>
  okInt .i64 (aLen Tryz.prog h50 51 v12) fun n58 =>
  okInt .u64 (aBin Tryz.prog .rem 60 (.v (.int .u64 (IntKind.wrap .u64 n57))) (.v (.int .u64 (IntKind.wrap .u64 n58)))) fun n59 =>
  newO (.cells 87 1 [] 0) h50 fun i60 h61 =>
  appR Tryz.prog h61 51 51 (.sl i60 0 0 0 none) v12 (fun v62 h63 =>
  okV (aIA Tryz.prog h63 51 v62 (.v (.int .i64 (IntKind.wrap .i64 n59)))) fun v64 =>
  storeR Tryz.prog h63 (fun v65 h66 =>
  okV (aLoad Tryz.prog h66 46 (.ptr i0 0 0 0)) fun v67 =>
  callR Tryz.prog G 21 [v67] h66 (fun v68 h69 =>
  newO (.cells 49 6 [[(.v (.int .i64 0)), (.v (.slice none 0 0)), (.v (.int .i64 0)), (.v (.slice none 0 0)), (.v (.string (ByteArray.mk #[]))), (.v (.bool false))]] 0) h69 fun i70 h71 =>
  storeR Tryz.prog h71 (fun v72 h73 =>
  okV (aLoad Tryz.prog h73 49 (.ptr i70 0 0 0)) fun v74 =>
  callR Tryz.prog G 24 [v74, v62] h73 (fun v75 h76 =>
  okInt .i64 (some v75) fun n77 =>
  condB (n77 != 4)
  (RetR h K (.v (.bool false)) h76)
  (okV (aLoad Tryz.prog h76 49 (.ptr i70 0 0 0)) fun v78 =>
  callR Tryz.prog G 28 [v78, v62, (.v (.int .i64 1))] h76 (fun v79 h80 =>
  okV (extV 0 v79) fun v81 =>
  okInt .i64 (extV 1 v79) fun n82 =>
  okInt .i64 (extV 2 v79) fun n83 =>
  newO (.cells 49 6 [[(.v (.int .i64 0)), (.v (.slice none 0 0)), (.v (.int .i64 0)), (.v (.slice none 0 0)), (.v (.string (ByteArray.mk #[]))), (.v (.bool false))]] 0) h80 fun i84 h85 =>
  storeR Tryz.prog h85 (fun v86 h87 =>
  okV (aLoad Tryz.prog h87 49 (.ptr i70 0 0 0)) fun v88 =>
  newO (.cells 89 6 [[(.v (.int .i64 5)), (.v (.string (ByteArray.mk #[107]))), (.v (.string (ByteArray.mk #[]))), (.v (.int .i64 0)), (.v (.int .i64 0)), (.v (.int .i64 0))]] 0) h87 fun i89 h90 =>
  callR Tryz.prog G 36 [v88, v62, (.sl i89 0 0 1 none)] h90 (fun v91 h92 =>
  okV (extV 0 v91) fun v93 =>
  okV (extV 1 v91) fun v94 =>
  newO (.cells 80 2 [[(.v (.int .i64 0)), (.v (.int .i64 0))]] 0) h92 fun i95 h96 =>
  storeR Tryz.prog h96 (fun v97 h98 =>
  rGq (n83 != 4) false (aLoad Tryz.prog h98 80 (.ptr i95 0 0 0)) fun b99 v100 =>
  rGq b99 false (some (.agg [(.v (.int .i64 0)), (.v (.int .i64 4))])) fun b101 v102 =>
  rGq b101 false (aBin Tryz.prog .neq 80 v100 v102) fun b103 v104 =>
  okBool (pickR (some (.v (.bool b103))) (some (.v (.bool true))) (some v104)) fun b105 =>
  condB b105
  (RetR h K (.v (.bool false)) h98)
  (okInt .i64 (aLen Tryz.prog h98 51 v12) fun n106 =>
  condB (decide (n106 > 1))
  (okInt .i64 (aLen Tryz.prog h98 51 v12) fun n107 =>
  okInt .i64 (aBin Tryz.prog .rem 3 (.v (.int .i64 (IntKind.wrap .i64 ((IntKind.wrap .i64 n59) + 1)))) (.v (.int .i64 n107))) fun n108 =>
  okV (aIA Tryz.prog h98 51 v12 (.v (.int .i64 n108))) fun v109 =>
  okV (aLoad Tryz.prog h98 87 v109) fun v110 =>
  okV (aIA Tryz.prog h98 51 v62 (.v (.int .i64 (IntKind.wrap .i64 n59)))) fun v111 =>
  storeR Tryz.prog h98 (fun v112 h113 =>
  okV (aLoad Tryz.prog h113 49 (.ptr i70 0 0 0)) fun v114 =>
  callR Tryz.prog G 24 [v114, v62] h113 (fun v115 h116 =>
  okInt .i64 (some v115) fun n117 =>
  condB (n117 != 4)
  (RetR h K (.v (.bool false)) h116)
  (callR Tryz.prog G 20 [] h116 (fun v118 h119 =>
  okBool (some v118) fun b120 =>
  RetR h K (.v (.bool b120)) h119)))) 87 v110 v111)
  (callR Tryz.prog G 20 [] h98 (fun v121 h122 =>
  okBool (some v121) fun b123 =>
  RetR h K (.v (.bool b123)) h122)))) 80 v94 (.ptr i95 0 0 0))) 49 v81 (.ptr i84 0 0 0))))) 49 v68 (.ptr i70 0 0 0))) 87 (.v (.pointer none)) v64))))))
theorem Tryz.c6 (G : Nat → Option AV) (a0 a1 : AV) (h : AH) (K : AV → AH → Prop) (hk : LowH h.length h → Tryz.r6 G a0 a1 h K) : SCall Tryz.prog G 6 [a0, a1] h K :=
  scall_of_rwp Tryz.tab6 [] Tryz.func6 rfl Tryz.ntmps6 (by kernel_rfl) (by show 2 ≤ 109; decide) (by kernel_rfl) (by kernel_rfl) hk
-- 20 skylark/skylarklaw22.works
def Tryz.r20 (G : Nat → Option AV) (h : AH) (K : AV → AH → Prop) : Prop :=
  newO (.cells 3 1 [[(.v (.int .i64 1))], [(.v (.int .i64 0))]] 0) h fun i0 h1 =>
  newO (.cells 3 1 [[(.v (.int .i64 0))], [(.v (.int .i64 1))]] 0) h1 fun i2 h3 =>
  newO (.cells 49 6 [[(.v (.int .i64 0)), (.v (.slice none 0 0)), (.v (.int .i64 0)), (.v (.slice none 0 0)), (.v (.string (ByteArray.mk #[]))), (.v (.bool false))]] 0) h3 fun i4 h5 =>
  storeR Tryz.prog h5 (fun v6 h7 =>
  callR Tryz.prog G 41 [] h7 (fun v8 h9 =>
  callR Tryz.prog G 41 [] h9 (fun v10 h11 =>
  okP (rowsFill 1 (List.replicate 2 [(.v (.pointer none))]) [(0, some v8), (1, some v10)]) fun r12 => newO (.cells 87 1 r12 0) h11 fun i13 h14 =>
  okV (aIA Tryz.prog h14 51 (.sl i13 0 0 2 none) (.v (.int .i64 0))) fun v15 =>
  okV (aLoad Tryz.prog h14 87 v15) fun v16 =>
  okBool (aBin Tryz.prog .eql 87 v16 (.v (.pointer none))) fun b17 =>
  rGq b17 false (some (.sl i13 0 0 2 none)) fun b18 v19 =>
  rGq b18 false (aIA Tryz.prog h14 51 v19 (.v (.int .i64 0))) fun b20 v21 =>
  rGq b20 false (aLoad Tryz.prog h14 87 v21) fun b22 v23 =>
  rGq b22 false (some (.agg [(.v (.string (ByteArray.mk #[97]))), (.v (.int .i64 1)), (.v (.string (ByteArray.mk #[])))])) fun b24 v25 =>
  rGq b24 false (some (.agg [(.v (.string (ByteArray.mk #[98]))), (.v (.int .i64 1)), (.v (.string (ByteArray.mk #[])))])) fun b26 v27 =>
  rGq b26 false (some (.agg [(.v (.string (ByteArray.mk #[99]))), (.v (.int .i64 1)), (.v (.string (ByteArray.mk #[])))])) fun b28 v29 =>
  rGe b28 false (fun k30 => okP (rowsFill 3 (List.replicate 3 [(.v (.string (ByteArray.mk #[]))), (.v (.int .i64 0)), (.v (.string (ByteArray.mk #[])))]) [(0, some v25), (1, some v27), (2, some v29)]) fun r31 => newO (.cells 131 3 r31 0) h14 fun i32 h33 =>
  k30 (.sl i32 0 0 3 none) h33) h14 fun b34 v35 h36 =>
  rGe b34 false (fun k37 => callR Tryz.prog G 42 [v23, v35] h36 (fun v38 h39 =>
  k37 v38 h39)) h36 fun b40 v41 h42 =>
  rGq b40 false (aBin Tryz.prog .neq 24 v41 (.v (.int .i64 0))) fun b43 v44 =>
  okBool (pickR (some (.v (.bool b43))) (some (.v (.bool true))) (some v44)) fun b45 =>
  condB b45
  (RetR h K (.v (.bool false)) h42)
  (okV (aLoad Tryz.prog h42 49 (.ptr i4 0 0 0)) fun v46 =>
  callR Tryz.prog G 28 [v46, (.sl i13 0 0 2 none), (.v (.int .i64 2))] h42 (fun v47 h48 =>
  okV (extV 0 v47) fun v49 =>
  okInt .i64 (extV 1 v47) fun n50 =>
  okInt .i64 (extV 2 v47) fun n51 =>
  storeR Tryz.prog h48 (fun v52 h53 =>
  rGq (n50 != 2) false (some (.v (.int .i64 n51))) fun b54 v55 =>
  rGq b54 false (aBin Tryz.prog .neq 24 v55 (.v (.int .i64 0))) fun b56 v57 =>
  okBool (pickR (some (.v (.bool b56))) (some (.v (.bool true))) (some v57)) fun b58 =>
  rGq b58 false (some (.ptr i4 0 0 4)) fun b59 v60 =>
  rGq b59 false (aLoad Tryz.prog h53 9 v60) fun b61 v62 =>
  rGq b61 false (aBin Tryz.prog .neq 9 v62 (.v (.string (ByteArray.mk #[99])))) fun b63 v64 =>
  okBool (pickR (some (.v (.bool b63))) (some (.v (.bool true))) (some v64)) fun b65 =>
  rGq b65 false (some (.ptr i4 0 0 5)) fun b66 v67 =>
  rGq b66 false (aLoad Tryz.prog h53 4 v67) fun b68 v69 =>
  okBool (pickR (some (.v (.bool b68))) (some (.v (.bool true))) (some v69)) fun b70 =>
  rGq b70 false (some (.sl i13 0 0 2 none)) fun b71 v72 =>
  rGq b71 false (aIA Tryz.prog h53 51 v72 (.v (.int .i64 0))) fun b73 v74 =>
  rGq b73 false (aLoad Tryz.prog h53 87 v74) fun b75 v76 =>
  rGe b75 false (fun k77 => callR Tryz.prog G 62 [v76] h53 (fun v78 h79 =>
  k77 v78 h79)) h53 fun b80 v81 h82 =>
  rGq b80 false (aBin Tryz.prog .neq 3 v81 (.v (.int .i64 1))) fun b83 v84 =>
  okBool (pickR (some (.v (.bool b83))) (some (.v (.bool true))) (some v84)) fun b85 =>
  condB b85
  (RetR h K (.v (.bool false)) h82)
  (okV (aLoad Tryz.prog h82 49 (.ptr i4 0 0 0)) fun v86 =>
  callR Tryz.prog G 28 [v86, (.sl i13 0 0 2 none), (.v (.int .i64 2))] h82 (fun v87 h88 =>
  okV (extV 0 v87) fun v89 =>
  okInt .i64 (extV 1 v87) fun n90 =>
  okInt .i64 (extV 2 v87) fun n91 =>
  storeR Tryz.prog h88 (fun v92 h93 =>
  rGq (n90 == 1) true (some (.v (.int .i64 n91))) fun b94 v95 =>
  rGq b94 true (aBin Tryz.prog .eql 24 v95 (.v (.int .i64 0))) fun b96 v97 =>
  okBool (pickR (some (.v (.bool b96))) (some v97) (some (.v (.bool false)))) fun b98 =>
  rGq b98 true (some (.ptr i4 0 0 5)) fun b99 v100 =>
  rGq b99 true (aLoad Tryz.prog h93 4 v100) fun b101 v102 =>
  okBool (pickR (some (.v (.bool b101))) (some v102) (some (.v (.bool false)))) fun b103 =>
  rGq b103 true (some (.sl i13 0 0 2 none)) fun b104 v105 =>
  rGq b104 true (aIA Tryz.prog h93 51 v105 (.v (.int .i64 1))) fun b106 v107 =>
  rGq b106 true (aLoad Tryz.prog h93 87 v107) fun b108 v109 =>
  rGe b108 true (fun k110 => callR Tryz.prog G 62 [v109] h93 (fun v111 h112 =>
  k110 v111 h112)) h93 fun b113 v114 h115 =>
  rGq b113 true (aBin Tryz.prog .eql 3 v114 (.v (.int .i64 3))) fun b116 v117 =>
  okBool (pickR (some (.v (.bool b116))) (some v117) (some (.v (.bool false)))) fun b118 =>
  RetR h K (.v (.bool b118)) h115) 49 v89 (.ptr i4 0 0 0)))) 49 v49 (.ptr i4 0 0 0)))))) 49 (.agg [(.v (.int .i64 1)), (.sl i0 0 0 2 none), (.v (.int .i64 2)), (.sl i2 0 0 2 none), (.v (.string (ByteArray.mk #[]))), (.v (.bool false))]) (.ptr i4 0 0 0)
theorem Tryz.c20 (G : Nat → Option AV) (h : AH) (K : AV → AH → Prop) (hk : LowH h.length h → Tryz.r20 G h K) : SCall Tryz.prog G 20 [] h K :=
  scall_of_rwp Tryz.tab20 [] Tryz.func20 rfl Tryz.ntmps20 (by kernel_rfl) (by show 0 ≤ 81; decide) (by kernel_rfl) (by kernel_rfl) hk
-- 21 (skylark/skylarklaw22.Plan).theirs
def Tryz.r21 (a0 : AV) (h : AH) (K : AV → AH → Prop) : Prop :=
  onlyB (AV.one a0) (newO (.cells 46 (AV.cells a0).length [AV.cells a0] 0) h fun i0 h1 =>
  newO (.cells 49 6 [[(.v (.int .i64 0)), (.v (.slice none 0 0)), (.v (.int .i64 0)), (.v (.slice none 0 0)), (.v (.string (ByteArray.mk #[]))), (.v (.bool false))]] 0) h1 fun i2 h3 =>
  okV (aLoad Tryz.prog h3 43 (.ptr i0 0 0 0)) fun v4 =>
  okV (aLoad Tryz.prog h3 43 (.ptr i0 0 0 2)) fun v5 =>
  okStr (aLoad Tryz.prog h3 9 (.ptr i0 0 0 4)) fun s6 =>
  okBool (aLoad Tryz.prog h3 4 (.ptr i0 0 0 5)) fun b7 =>
  okV (aBuild Tryz.prog 49 [(0, some v4), (1, some v5), (2, some (.v (.string s6))), (3, some (.v (.bool b7)))]) fun v8 =>
  storeR Tryz.prog h3 (fun v9 h10 =>
  okV (aLoad Tryz.prog h10 49 (.ptr i2 0 0 0)) fun v11 =>
  RetR h K v11 h10) 49 v8 (.ptr i2 0 0 0))
theorem Tryz.c21 (G : Nat → Option AV) (a0 : AV) (h : AH) (K : AV → AH → Prop) (hk : LowH h.length h → Tryz.r21 a0 h K) : SCall Tryz.prog G 21 [a0] h K :=
  scall_of_rwp Tryz.tab21 [] Tryz.func21 rfl Tryz.ntmps21 (by kernel_rfl) (by show 1 ≤ 12; decide) (by kernel_rfl) (by kernel_rfl) hk
-- 22 skylark/skylarklaw22.apart
def Tryz.r23_l3_1 (K : AV → AH → Prop) (h : AH) (G : Nat → Option AV) (a0 : AV) (n0 : Int) (v16 : AV) (n17 : Int) : Prop :=
  ∃ (I1 : Nat → List AV → AH → Prop) (m2 : Nat), I1 m2 [v16, (.v (.int .i64 n17))] h ∧ ∀ (m3 : Nat) (h4 : AH), h.length ≤ h4.length → LowH h4.length h4 → ∀ (v5 : AV) (n6 : Int), I1 m3 [v5, (.v (.int .i64 n6))] h4 →
  condB (decide (n6 < n0))
  (okV (aIA Tryz.prog h4 51 a0 (.v (.int .i64 n6))) fun v7 =>
  okV (aLoad Tryz.prog h4 87 v7) fun v8 =>
  okBool (aBin Tryz.prog .neq 87 v8 (.v (.pointer none))) fun b9 =>
  condB b9
  (callR Tryz.prog G 44 [v8, (.agg [(.v (.string (ByteArray.mk #[]))), (.v (.string (ByteArray.mk #[])))])] h4 (fun v10 h11 =>
  appR Tryz.prog h11 47 47 v5 v10 (fun v12 h13 =>
  nextR h I1 m3 [some a0, some (.v (.int .i64 n0))] [some a0, some (.v (.int .i64 n0))] [v12, (.v (.int .i64 (IntKind.wrap .i64 (n6 + 1))))] h13)))
  (nextR h I1 m3 [some a0, some (.v (.int .i64 n0))] [some a0, some (.v (.int .i64 n0))] [v5, (.v (.int .i64 (IntKind.wrap .i64 (n6 + 1))))] h4))
  (callR Tryz.prog G 64 [v5, (.fn (.func 65) [] [])] h4 (fun v14 h15 =>
  RetR h K v5 h15))
def Tryz.r23 (G : Nat → Option AV) (a0 : AV) (h : AH) (K : AV → AH → Prop) : Prop :=
  okInt .i64 (aLen Tryz.prog h 51 a0) fun n0 =>
  Tryz.r23_l3_1 K h G a0 n0 (.v (.slice none 0 0)) 0
theorem Tryz.c23 (G : Nat → Option AV) (a0 : AV) (h : AH) (K : AV → AH → Prop) (hk : LowH h.length h → Tryz.r23 G a0 h K) : SCall Tryz.prog G 23 [a0] h K :=
  scall_of_rwp Tryz.tab23 [(3, [(3, .any), (8, (.int .i64))], [6, 7])] Tryz.func23 rfl Tryz.ntmps23 (by kernel_rfl) (by show 1 ≤ 23; decide) (by kernel_rfl) (by kernel_rfl) hk
-- 24 skylark/move.Check
def Tryz.r24_l11_36 (K : AV → AH → Prop) (h : AH) (G : Nat → Option AV) (i0 : Nat) (h7 : AH) (v8 : AV) (n25 : Int) (I26 : Nat → List AV → AH → Prop) (m28 : Nat) (n30 : Int) (v33 : AV) (h34 : AH) (n35 : Int) (n53 : Int) : Prop :=
  ∃ (I36 : Nat → List AV → AH → Prop) (m37 : Nat), I36 m37 [(.v (.int .i64 n53))] h34 ∧ ∀ (m38 : Nat) (h39 : AH), h34.length ≤ h39.length → LowH h39.length h39 → ∀ (n40 : Int), I36 m38 [(.v (.int .i64 n40))] h39 →
  condB (decide (n40 < n35))
  (okV (aIA Tryz.prog h39 47 v33 (.v (.int .i64 n40))) fun v41 =>
  okV (aLoad Tryz.prog h39 131 v41) fun v42 =>
  newO (.cells 131 3 [[(.v (.string (ByteArray.mk #[]))), (.v (.int .i64 0)), (.v (.string (ByteArray.mk #[])))]] 0) h39 fun i43 h44 =>
  storeR Tryz.prog h44 (fun v45 h46 =>
  okV (aLoad Tryz.prog h46 49 (.ptr i0 0 0 0)) fun v47 =>
  okStr (aLoad Tryz.prog h46 9 (.ptr i43 0 0 0)) fun s48 =>
  callR Tryz.prog G 53 [v47, (.v (.string s48))] h46 (fun v49 h50 =>
  okInt .i64 (extV 0 v49) fun n51 =>
  okInt .i64 (extV 1 v49) fun n52 =>
  condB (n51 != n30)
  (RetR h K (.v (.int .i64 220)) h50)
  (nextR h34 I36 m38 [some (.ptr i0 0 0 0), some (.v (.int .i64 n30)), some v8, some (.v (.int .i64 n25)), some (.v (.int .i64 n30)), some v33, some (.v (.int .i64 n35))] [some (.ptr i0 0 0 0), some (.v (.int .i64 n30)), some v8, some (.v (.int .i64 n25)), some (.v (.int .i64 n30)), some v33, some (.v (.int .i64 n35))] [(.v (.int .i64 (IntKind.wrap .i64 (n40 + 1))))] h50))) 131 v42 (.ptr i43 0 0 0))
  (nextR h7 I26 m28 [some (.ptr i0 0 0 0), some v8, some (.v (.int .i64 n25))] [some (.ptr i0 0 0 0), some v8, some (.v (.int .i64 n25))] [(.v (.int .i64 (IntKind.wrap .i64 (n30 + 1))))] h39)
def Tryz.r24_l8_26 (K : AV → AH → Prop) (h : AH) (G : Nat → Option AV) (i0 : Nat) (h7 : AH) (v8 : AV) (n25 : Int) (n54 : Int) : Prop :=
  ∃ (I26 : Nat → List AV → AH → Prop) (m27 : Nat), I26 m27 [(.v (.int .i64 n54))] h7 ∧ ∀ (m28 : Nat) (h29 : AH), h7.length ≤ h29.length → LowH h29.length h29 → ∀ (n30 : Int), I26 m28 [(.v (.int .i64 n30))] h29 →
  condB (decide (n30 < n25))
  (okV (aIA Tryz.prog h29 137 v8 (.v (.int .i64 n30))) fun v31 =>
  okV (aLoad Tryz.prog h29 141 v31) fun v32 =>
  callI Tryz.prog G h29 (fun v33 h34 =>
  okInt .i64 (aLen Tryz.prog h34 47 v33) fun n35 =>
  Tryz.r24_l11_36 K h G i0 h7 v8 n25 I26 m28 n30 v33 h34 n35 0) [(.agg [(.v (.string (ByteArray.mk #[]))), (.v (.string (ByteArray.mk #[])))])] "Rows" v32)
  (RetR h K (.v (.int .i64 0)) h29)
def Tryz.r24 (G : Nat → Option AV) (a0 a1 : AV) (h : AH) (K : AV → AH → Prop) : Prop :=
  onlyB (AV.one a0) (newO (.cells 49 (AV.cells a0).length [AV.cells a0] 0) h fun i0 h1 =>
  okV (aLoad Tryz.prog h1 49 (.ptr i0 0 0 0)) fun v2 =>
  callR Tryz.prog G 63 [v2] h1 (fun v3 h4 =>
  okInt .i64 (some v3) fun n5 =>
  condB (n5 != 0)
  (RetR h K (.v (.int .i64 n5)) h4)
  (callR Tryz.prog G 67 [a1] h4 (fun v6 h7 =>
  okV (extV 0 v6) fun v8 =>
  okBool (extV 1 v6) fun b9 =>
  rGq (!b9) false (some v8) fun b10 v11 =>
  rGq b10 false (aLen Tryz.prog h7 137 v11) fun b12 v13 =>
  rGq b12 false (some (.ptr i0 0 0 2)) fun b14 v15 =>
  rGq b14 false (aFA Tryz.prog 43 1 v15) fun b16 v17 =>
  rGq b16 false (aLoad Tryz.prog h7 31 v17) fun b18 v19 =>
  rGq b18 false (aLen Tryz.prog h7 31 v19) fun b20 v21 =>
  rGq b20 false (aBin Tryz.prog .neq 3 v13 v21) fun b22 v23 =>
  okBool (pickR (some (.v (.bool b22))) (some (.v (.bool true))) (some v23)) fun b24 =>
  condB b24
  (RetR h K (.v (.int .i64 4)) h7)
  (okInt .i64 (aLen Tryz.prog h7 137 v8) fun n25 =>
  Tryz.r24_l8_26 K h G i0 h7 v8 n25 0)))))
theorem Tryz.c24 (G : Nat → Option AV) (a0 a1 : AV) (h : AH) (K : AV → AH → Prop) (hk : LowH h.length h → Tryz.r24 G a0 a1 h K) : SCall Tryz.prog G 24 [a0, a1] h K :=
  scall_of_rwp Tryz.tab24 [(8, [(37, (.int .i64))], [2, 35, 36]), (11, [(46, (.int .i64))], [2, 8, 35, 36, 37, 44, 45])] Tryz.func24 rfl Tryz.ntmps24 (by kernel_rfl) (by show 2 ≤ 62; decide) (by kernel_rfl) (by kernel_rfl) hk
-- 25 skylark/skylarkbook.SameRows
def Tryz.r26 (G : Nat → Option AV) (a0 : AV) (h : AH) (K : AV → AH → Prop) : Prop :=
  onlyB (AV.one a0) (newO (.cells 49 (AV.cells a0).length [AV.cells a0] 0) h fun i0 h1 =>
  newO (.cells 43 2 [[(.v (.int .i64 0)), (.v (.slice none 0 0))]] 0) h1 fun i2 h3 =>
  okV (aLoad Tryz.prog h3 49 (.ptr i0 0 0 0)) fun v4 =>
  callR Tryz.prog G 63 [v4] h3 (fun v5 h6 =>
  okInt .i64 (some v5) fun n7 =>
  condB (n7 != 0)
  (storeR Tryz.prog h6 (fun v8 h9 =>
  okV (aLoad Tryz.prog h9 43 (.ptr i2 0 0 0)) fun v10 =>
  RetR h K (.tup [v10, (.v (.int .i64 70))]) h9) 43 (.agg [(.v (.int .i64 0)), (.v (.slice none 0 0))]) (.ptr i2 0 0 0))
  (okBool (aLoad Tryz.prog h6 4 (.ptr i0 0 0 5)) fun b11 =>
  condB (!b11)
  (storeR Tryz.prog h6 (fun v12 h13 =>
  okV (aLoad Tryz.prog h13 43 (.ptr i2 0 0 0)) fun v14 =>
  RetR h K (.tup [v14, (.v (.int .i64 1))]) h13) 43 (.agg [(.v (.int .i64 0)), (.v (.slice none 0 0))]) (.ptr i2 0 0 0))
  (okV (aLoad Tryz.prog h6 43 (.ptr i0 0 0 2)) fun v15 =>
  storeR Tryz.prog h6 (fun v16 h17 =>
  okV (aLoad Tryz.prog h17 43 (.ptr i2 0 0 0)) fun v18 =>
  RetR h K (.tup [v18, (.v (.int .i64 0))]) h17) 43 v15 (.ptr i2 0 0 0)))))
def Tryz.r28_l41_142 (K : AV → AH → Prop) (h : AH) (G : Nat → Option AV) (i0 : Nat) (i2 : Nat) (v20 : AV) (s44 : ByteArray) (v45 : AV) (b46 : Bool) (v53 : AV) (v78 : AV) (h124 : AH) (n141 : Int) (n167 : Int) : Prop :=
  ∃ (I142 : Nat → List AV → AH → Prop) (m143 : Nat), I142 m143 [(.v (.int .i64 n167))] h124 ∧ ∀ (m144 : Nat) (h145 : AH), h124.length ≤ h145.length → LowH h145.length h145 → ∀ (n146 : Int), I142 m144 [(.v (.int .i64 n146))] h145 →
  condB (decide (n146 < n141))
  (okV (aIA Tryz.prog h145 31 v45 (.v (.int .i64 n146))) fun v147 =>
  okInt .i64 (aLoad Tryz.prog h145 3 v147) fun n148 =>
  okV (aIA Tryz.prog h145 31 v78 (.v (.int .i64 n146))) fun v149 =>
  okInt .i64 (aLoad Tryz.prog h145 3 v149) fun n150 =>
  okV (aIA Tryz.prog h145 137 v53 (.v (.int .i64 n150))) fun v151 =>
  okV (aLoad Tryz.prog h145 141 v151) fun v152 =>
  okV (aSlice Tryz.prog h145 47 v20 (some (some (.v (.int .i64 n148)))) (some (some (.v (.int .i64 (IntKind.wrap .i64 (n148 + 1)))))) none) fun v153 =>
  okV (aNil v152) fun v154 =>
  callI Tryz.prog G h145 (fun v155 h156 =>
  okInt .i64 (some v155) fun n157 =>
  nextR h124 I142 m144 [some (.ptr i0 0 0 0), some (.ptr i2 0 0 0), some v20, some (.v (.string s44)), some v45, some (.v (.bool b46)), some v53, some v78, some v45, some (.v (.int .i64 n141))] [some (.ptr i0 0 0 0), some (.ptr i2 0 0 0), some v20, some (.v (.string s44)), some v45, some (.v (.bool b46)), some v53, some v78, some v45, some (.v (.int .i64 n141))] [(.v (.int .i64 (IntKind.wrap .i64 (n146 + 1))))] h156) [v153] "Take" v152)
  (storeR Tryz.prog h145 (fun v158 h159 =>
  storeR Tryz.prog h159 (fun v160 h161 =>
  okV (aLoad Tryz.prog h161 49 (.ptr i0 0 0 0)) fun v162 =>
  okInt .i64 (aLen Tryz.prog h161 31 v45) fun n163 =>
  storeR Tryz.prog h161 (fun v164 h165 =>
  okV (aLoad Tryz.prog h165 49 (.ptr i2 0 0 0)) fun v166 =>
  RetR h K (.tup [v166, (.v (.int .i64 n163)), (.v (.int .i64 0))]) h165) 49 v162 (.ptr i2 0 0 0)) 4 (.v (.bool b46)) (.ptr i0 0 0 5)) 9 (.v (.string s44)) (.ptr i0 0 0 4))
def Tryz.r28_l36_121 (G : Nat → Option AV) (h : AH) (K : AV → AH → Prop) (i0 : Nat) (i2 : Nat) (v20 : AV) (v27 : AV) (s44 : ByteArray) (v45 : AV) (b46 : Bool) (v53 : AV) (v77 : AV) (v78 : AV) (h115 : AH) (n120 : Int) (n168 : Int) : Prop :=
  ∃ (I121 : Nat → List AV → AH → Prop) (m122 : Nat), I121 m122 [(.v (.int .i64 n168))] h115 ∧ ∀ (m123 : Nat) (h124 : AH), h115.length ≤ h124.length → LowH h124.length h124 → ∀ (n125 : Int), I121 m123 [(.v (.int .i64 n125))] h124 →
  condB (decide (n125 < n120))
  (okV (aIA Tryz.prog h124 31 v45 (.v (.int .i64 n125))) fun v126 =>
  okInt .i64 (aLoad Tryz.prog h124 3 v126) fun n127 =>
  okV (aIA Tryz.prog h124 31 v77 (.v (.int .i64 n125))) fun v128 =>
  okInt .i64 (aLoad Tryz.prog h124 3 v128) fun n129 =>
  okV (aIA Tryz.prog h124 137 v53 (.v (.int .i64 n129))) fun v130 =>
  okV (aLoad Tryz.prog h124 141 v130) fun v131 =>
  okV (aIA Tryz.prog h124 142 v27 (.v (.int .i64 n127))) fun v132 =>
  okStr (aLoad Tryz.prog h124 9 v132) fun s133 =>
  okV (aIA Tryz.prog h124 142 v27 (.v (.int .i64 n127))) fun v134 =>
  okStr (aLoad Tryz.prog h124 9 v134) fun s135 =>
  okStr (aBin Tryz.prog .add 9 (.v (.string s135)) (.v (.string (ByteArray.mk #[0])))) fun s136 =>
  okV (aNil v131) fun v137 =>
  callI Tryz.prog G h124 (fun v138 h139 =>
  okInt .i64 (some v138) fun n140 =>
  nextR h115 I121 m123 [some (.ptr i0 0 0 0), some (.ptr i2 0 0 0), some v20, some v27, some (.v (.string s44)), some v45, some (.v (.bool b46)), some v53, some v77, some v78, some v45, some (.v (.int .i64 n120))] [some (.ptr i0 0 0 0), some (.ptr i2 0 0 0), some v20, some v27, some (.v (.string s44)), some v45, some (.v (.bool b46)), some v53, some v77, some v78, some v45, some (.v (.int .i64 n120))] [(.v (.int .i64 (IntKind.wrap .i64 (n125 + 1))))] h139) [(.agg [(.v (.string s133)), (.v (.string s136))])] "Drop" v131)
  (okInt .i64 (aLen Tryz.prog h124 31 v45) fun n141 =>
  Tryz.r28_l41_142 K h G i0 i2 v20 s44 v45 b46 v53 v78 h124 n141 0)
def Tryz.r28_l25_73 (K : AV → AH → Prop) (h : AH) (G : Nat → Option AV) (i0 : Nat) (i2 : Nat) (v20 : AV) (v27 : AV) (s44 : ByteArray) (v45 : AV) (b46 : Bool) (v53 : AV) (n55 : Int) (i56 : Nat) (h62 : AH) (n72 : Int) (v169 : AV) (v170 : AV) (n171 : Int) : Prop :=
  ∃ (I73 : Nat → List AV → AH → Prop) (m74 : Nat), I73 m74 [v169, v170, (.v (.int .i64 n171))] h62 ∧ ∀ (m75 : Nat) (h76 : AH), h62.length ≤ h76.length → LowH h76.length h76 → ∀ (v77 : AV) (v78 : AV) (n79 : Int), I73 m75 [v77, v78, (.v (.int .i64 n79))] h76 →
  condB (decide (n79 < n72))
  (okV (aIA Tryz.prog h76 31 v45 (.v (.int .i64 n79))) fun v80 =>
  okInt .i64 (aLoad Tryz.prog h76 3 v80) fun n81 =>
  okV (aLoad Tryz.prog h76 31 (.ptr i0 0 0 1)) fun v82 =>
  okV (aIA Tryz.prog h76 142 v27 (.v (.int .i64 n81))) fun v83 =>
  okStr (aLoad Tryz.prog h76 9 v83) fun s84 =>
  callR Tryz.prog G 54 [v82, (.v (.string s84))] h76 (fun v85 h86 =>
  okInt .i64 (extV 0 v85) fun n87 =>
  okInt .i64 (extV 1 v85) fun n88 =>
  okV (aLoad Tryz.prog h86 31 (.ptr i0 0 0 3)) fun v89 =>
  okV (aIA Tryz.prog h86 142 v27 (.v (.int .i64 n81))) fun v90 =>
  okStr (aLoad Tryz.prog h86 9 v90) fun s91 =>
  callR Tryz.prog G 54 [v89, (.v (.string s91))] h86 (fun v92 h93 =>
  okInt .i64 (extV 0 v92) fun n94 =>
  okInt .i64 (extV 1 v92) fun n95 =>
  newO (.cells 3 1 [[(.v (.int .i64 n87))]] 0) h93 fun i96 h97 =>
  appR Tryz.prog h97 31 31 v77 (.sl i96 0 0 1 none) (fun v98 h99 =>
  newO (.cells 3 1 [[(.v (.int .i64 n94))]] 0) h99 fun i100 h101 =>
  appR Tryz.prog h101 31 31 v78 (.sl i100 0 0 1 none) (fun v102 h103 =>
  okV (aIA Tryz.prog h103 31 (.sl i56 0 0 (Int.toNat n55) none) (.v (.int .i64 n87))) fun v104 =>
  okInt .i64 (aLoad Tryz.prog h103 3 v104) fun n105 =>
  okV (aIA Tryz.prog h103 31 (.sl i56 0 0 (Int.toNat n55) none) (.v (.int .i64 n87))) fun v106 =>
  storeR Tryz.prog h103 (fun v107 h108 =>
  okV (aIA Tryz.prog h108 31 (.sl i56 0 0 (Int.toNat n55) none) (.v (.int .i64 n94))) fun v109 =>
  okInt .i64 (aLoad Tryz.prog h108 3 v109) fun n110 =>
  okV (aIA Tryz.prog h108 31 (.sl i56 0 0 (Int.toNat n55) none) (.v (.int .i64 n94))) fun v111 =>
  storeR Tryz.prog h108 (fun v112 h113 =>
  nextR h62 I73 m75 [some (.ptr i0 0 0 0), some (.ptr i2 0 0 0), some v20, some v27, some (.v (.string s44)), some v45, some (.v (.bool b46)), some v53, some (.sl i56 0 0 (Int.toNat n55) none), some v45, some (.v (.int .i64 n72))] [some (.ptr i0 0 0 0), some (.ptr i2 0 0 0), some v20, some v27, some (.v (.string s44)), some v45, some (.v (.bool b46)), some v53, some (.sl i56 0 0 (Int.toNat n55) none), some v45, some (.v (.int .i64 n72))] [v98, v102, (.v (.int .i64 (IntKind.wrap .i64 (n79 + 1))))] h113) 3 (.v (.int .i64 (IntKind.wrap .i64 (n110 + 1)))) v111) 3 (.v (.int .i64 (IntKind.wrap .i64 (n105 - 1)))) v106)))))
  (callR Tryz.prog G 70 [(.sl i56 0 0 (Int.toNat n55) none)] h76 (fun v114 h115 =>
  okInt .i64 (some v114) fun n116 =>
  condB (decide (n116 > 4096))
  (storeR Tryz.prog h115 (fun v117 h118 =>
  okV (aLoad Tryz.prog h118 49 (.ptr i2 0 0 0)) fun v119 =>
  RetR h K (.tup [v119, (.v (.int .i64 0)), (.v (.int .i64 22))]) h118) 49 (.agg [(.v (.int .i64 0)), (.v (.slice none 0 0)), (.v (.int .i64 0)), (.v (.slice none 0 0)), (.v (.string (ByteArray.mk #[]))), (.v (.bool false))]) (.ptr i2 0 0 0))
  (okInt .i64 (aLen Tryz.prog h115 31 v45) fun n120 =>
  Tryz.r28_l36_121 G h K i0 i2 v20 v27 s44 v45 b46 v53 v77 v78 h115 n120 0)))
def Tryz.r28_l19_59 (G : Nat → Option AV) (h : AH) (K : AV → AH → Prop) (i0 : Nat) (i2 : Nat) (v20 : AV) (v27 : AV) (s44 : ByteArray) (v45 : AV) (b46 : Bool) (v53 : AV) (n55 : Int) (i56 : Nat) (h57 : AH) (n58 : Int) (n172 : Int) : Prop :=
  ∃ (I59 : Nat → List AV → AH → Prop) (m60 : Nat), I59 m60 [(.v (.int .i64 n172))] h57 ∧ ∀ (m61 : Nat) (h62 : AH), h57.length ≤ h62.length → LowH h62.length h62 → ∀ (n63 : Int), I59 m61 [(.v (.int .i64 n63))] h62 →
  condB (decide (n63 < n58))
  (okV (aIA Tryz.prog h62 137 v53 (.v (.int .i64 n63))) fun v64 =>
  okV (aLoad Tryz.prog h62 141 v64) fun v65 =>
  callI Tryz.prog G h62 (fun v66 h67 =>
  okInt .i64 (some v66) fun n68 =>
  okV (aIA Tryz.prog h67 31 (.sl i56 0 0 (Int.toNat n55) none) (.v (.int .i64 n63))) fun v69 =>
  storeR Tryz.prog h67 (fun v70 h71 =>
  nextR h57 I59 m61 [some (.ptr i0 0 0 0), some (.ptr i2 0 0 0), some v20, some v27, some (.v (.string s44)), some v45, some (.v (.bool b46)), some v53, some (.sl i56 0 0 (Int.toNat n55) none), some v53, some (.v (.int .i64 n58))] [some (.ptr i0 0 0 0), some (.ptr i2 0 0 0), some v20, some v27, some (.v (.string s44)), some v45, some (.v (.bool b46)), some v53, some (.sl i56 0 0 (Int.toNat n55) none), some v53, some (.v (.int .i64 n58))] [(.v (.int .i64 (IntKind.wrap .i64 (n63 + 1))))] h71) 3 (.v (.int .i64 n68)) v69) [] "Len" v65)
  (okInt .i64 (aLen Tryz.prog h62 31 v45) fun n72 =>
  Tryz.r28_l25_73 K h G i0 i2 v20 v27 s44 v45 b46 v53 n55 i56 h62 n72 (.v (.slice none 0 0)) (.v (.slice none 0 0)) 0)
def Tryz.r28_l9_23 (K : AV → AH → Prop) (h : AH) (G : Nat → Option AV) (a1 : AV) (a2 : AV) (i0 : Nat) (i2 : Nat) (v20 : AV) (h21 : AH) (n22 : Int) (v173 : AV) (n174 : Int) : Prop :=
  ∃ (I23 : Nat → List AV → AH → Prop) (m24 : Nat), I23 m24 [v173, (.v (.int .i64 n174))] h21 ∧ ∀ (m25 : Nat) (h26 : AH), h21.length ≤ h26.length → LowH h26.length h26 → ∀ (v27 : AV) (n28 : Int), I23 m25 [v27, (.v (.int .i64 n28))] h26 →
  condB (decide (n28 < n22))
  (okV (aIA Tryz.prog h26 47 v20 (.v (.int .i64 n28))) fun v29 =>
  okV (aLoad Tryz.prog h26 131 v29) fun v30 =>
  newO (.cells 131 3 [[(.v (.string (ByteArray.mk #[]))), (.v (.int .i64 0)), (.v (.string (ByteArray.mk #[])))]] 0) h26 fun i31 h32 =>
  storeR Tryz.prog h32 (fun v33 h34 =>
  okStr (aLoad Tryz.prog h34 9 (.ptr i31 0 0 0)) fun s35 =>
  newO (.cells 9 1 [[(.v (.string s35))]] 0) h34 fun i36 h37 =>
  appR Tryz.prog h37 142 142 v27 (.sl i36 0 0 1 none) (fun v38 h39 =>
  nextR h21 I23 m25 [some a1, some a2, some (.ptr i0 0 0 0), some (.ptr i2 0 0 0), some v20, some v20, some (.v (.int .i64 n22))] [some a1, some a2, some (.ptr i0 0 0 0), some (.ptr i2 0 0 0), some v20, some v20, some (.v (.int .i64 n22))] [v38, (.v (.int .i64 (IntKind.wrap .i64 (n28 + 1))))] h39)) 131 v30 (.ptr i31 0 0 0))
  (okV (aLoad Tryz.prog h26 49 (.ptr i0 0 0 0)) fun v40 =>
  okInt .i64 (some a2) fun n41 =>
  callR Tryz.prog G 69 [v40, v27, (.v (.int .i64 n41))] h26 (fun v42 h43 =>
  okStr (extV 0 v42) fun s44 =>
  okV (extV 1 v42) fun v45 =>
  okBool (extV 2 v42) fun b46 =>
  okInt .i64 (extV 3 v42) fun n47 =>
  condB (n47 != 0)
  (storeR Tryz.prog h43 (fun v48 h49 =>
  okV (aLoad Tryz.prog h49 49 (.ptr i2 0 0 0)) fun v50 =>
  RetR h K (.tup [v50, (.v (.int .i64 0)), (.v (.int .i64 n47))]) h49) 49 (.agg [(.v (.int .i64 0)), (.v (.slice none 0 0)), (.v (.int .i64 0)), (.v (.slice none 0 0)), (.v (.string (ByteArray.mk #[]))), (.v (.bool false))]) (.ptr i2 0 0 0))
  (callR Tryz.prog G 67 [a1] h43 (fun v51 h52 =>
  okV (extV 0 v51) fun v53 =>
  okBool (extV 1 v51) fun b54 =>
  okInt .i64 (aLen Tryz.prog h52 137 v53) fun n55 =>
  ((0 : Int) ≤ n55 ∧ n55 ≤ n55 ∧ (((8 : Nat) : Int)) * n55 ≤ 281474976710656 ∧ n55 ≤ 4611686018427387904) ∧ newO (.cells 3 1 (List.replicate (Int.toNat n55) [(.v (.int .i64 0))]) 0) h52 fun i56 h57 =>
  okInt .i64 (aLen Tryz.prog h57 137 v53) fun n58 =>
  Tryz.r28_l19_59 G h K i0 i2 v20 v27 s44 v45 b46 v53 n55 i56 h57 n58 0))))
def Tryz.r28 (G : Nat → Option AV) (a0 a1 a2 : AV) (h : AH) (K : AV → AH → Prop) : Prop :=
  onlyB (AV.one a0) (newO (.cells 49 (AV.cells a0).length [AV.cells a0] 0) h fun i0 h1 =>
  newO (.cells 49 6 [[(.v (.int .i64 0)), (.v (.slice none 0 0)), (.v (.int .i64 0)), (.v (.slice none 0 0)), (.v (.string (ByteArray.mk #[]))), (.v (.bool false))]] 0) h1 fun i2 h3 =>
  okV (aLoad Tryz.prog h3 49 (.ptr i0 0 0 0)) fun v4 =>
  callR Tryz.prog G 24 [v4, a1] h3 (fun v5 h6 =>
  okInt .i64 (some v5) fun n7 =>
  condB (n7 != 0)
  (storeR Tryz.prog h6 (fun v8 h9 =>
  okV (aLoad Tryz.prog h9 49 (.ptr i2 0 0 0)) fun v10 =>
  RetR h K (.tup [v10, (.v (.int .i64 0)), (.v (.int .i64 n7))]) h9) 49 (.agg [(.v (.int .i64 0)), (.v (.slice none 0 0)), (.v (.int .i64 0)), (.v (.slice none 0 0)), (.v (.string (ByteArray.mk #[]))), (.v (.bool false))]) (.ptr i2 0 0 0))
  (okBool (aLoad Tryz.prog h6 4 (.ptr i0 0 0 5)) fun b11 =>
  rGq b11 false (some a2) fun b12 v13 =>
  rGq b12 false (aBin Tryz.prog .lss 3 v13 (.v (.int .i64 1))) fun b14 v15 =>
  okBool (pickR (some (.v (.bool b14))) (some (.v (.bool true))) (some v15)) fun b16 =>
  condB b16
  (storeR Tryz.prog h6 (fun v17 h18 =>
  okV (aLoad Tryz.prog h18 49 (.ptr i2 0 0 0)) fun v19 =>
  RetR h K (.tup [v19, (.v (.int .i64 0)), (.v (.int .i64 1))]) h18) 49 (.agg [(.v (.int .i64 0)), (.v (.slice none 0 0)), (.v (.int .i64 0)), (.v (.slice none 0 0)), (.v (.string (ByteArray.mk #[]))), (.v (.bool false))]) (.ptr i2 0 0 0))
  (callR Tryz.prog G 23 [a1] h6 (fun v20 h21 =>
  okInt .i64 (aLen Tryz.prog h21 47 v20) fun n22 =>
  Tryz.r28_l9_23 K h G a1 a2 i0 i2 v20 h21 n22 (.v (.slice none 0 0)) 0)))))
theorem Tryz.c28 (G : Nat → Option AV) (a0 a1 a2 : AV) (h : AH) (K : AV → AH → Prop) (hk : LowH h.length h → Tryz.r28 G a0 a1 a2 h K) : SCall Tryz.prog G 28 [a0, a1, a2] h K :=
  scall_of_rwp Tryz.tab28 [(9, [(11, .any), (53, (.int .i64))], [1, 2, 3, 6, 10, 51, 52]), (19, [(86, (.int .i64))], [3, 6, 10, 11, 14, 15, 16, 18, 20, 84, 85]), (25, [(23, .any), (24, .any), (99, (.int .i64))], [3, 6, 10, 11, 14, 15, 16, 18, 20, 97, 98]), (36, [(152, (.int .i64))], [3, 6, 10, 11, 14, 15, 16, 18, 23, 24, 150, 151]), (41, [(180, (.int .i64))], [3, 6, 10, 14, 15, 16, 18, 24, 178, 179])] Tryz.func28 rfl Tryz.ntmps28 (by kernel_rfl) (by show 3 ≤ 208; decide) (by kernel_rfl) (by kernel_rfl) hk
-- 29 (skylark/skylarklaw22.Plan).small
def Tryz.r29_l4_4 (K : AV → AH → Prop) (h : AH) (i0 : Nat) (h1 : AH) (n15 : Int) : Prop :=
  ∃ (I4 : Nat → List AV → AH → Prop) (m5 : Nat), I4 m5 [(.v (.int .i64 n15))] h1 ∧ ∀ (m6 : Nat) (h7 : AH), h1.length ≤ h7.length → LowH h7.length h7 → ∀ (n8 : Int), I4 m6 [(.v (.int .i64 n8))] h7 →
  okV (aLoad Tryz.prog h7 44 (.ptr i0 0 0 6)) fun v9 =>
  okInt .i64 (aLen Tryz.prog h7 44 v9) fun n10 =>
  condB (decide (n8 < n10))
  (okV (aLoad Tryz.prog h7 44 (.ptr i0 0 0 6)) fun v11 =>
  okV (aIA Tryz.prog h7 44 v11 (.v (.int .i64 n8))) fun v12 =>
  okV (aLoad Tryz.prog h7 47 v12) fun v13 =>
  okInt .i64 (aLen Tryz.prog h7 47 v13) fun n14 =>
  condB (decide (n14 > 60))
  (RetR h K (.v (.bool false)) h7)
  (nextR h1 I4 m6 [some (.ptr i0 0 0 0)] [some (.ptr i0 0 0 0)] [(.v (.int .i64 (IntKind.wrap .i64 (n8 + 1))))] h7))
  (RetR h K (.v (.bool true)) h7)
def Tryz.r29 (a0 : AV) (h : AH) (K : AV → AH → Prop) : Prop :=
  onlyB (AV.one a0) (newO (.cells 46 (AV.cells a0).length [AV.cells a0] 0) h fun i0 h1 =>
  okV (aLoad Tryz.prog h1 44 (.ptr i0 0 0 6)) fun v2 =>
  okInt .i64 (aLen Tryz.prog h1 44 v2) fun n3 =>
  condB (decide (n3 > 12))
  (RetR h K (.v (.bool false)) h1)
  (Tryz.r29_l4_4 K h i0 h1 0))
theorem Tryz.c29 (G : Nat → Option AV) (a0 : AV) (h : AH) (K : AV → AH → Prop) (hk : LowH h.length h → Tryz.r29 a0 h K) : SCall Tryz.prog G 29 [a0] h K :=
  scall_of_rwp Tryz.tab29 [(4, [(3, (.int .i64))], [1])] Tryz.func29 rfl Tryz.ntmps29 (by kernel_rfl) (by show 1 ≤ 22; decide) (by kernel_rfl) (by kernel_rfl) hk
-- 30 (skylark/skylarklaw22.Plan).tables
def Tryz.r30_l4_2 (K : AV → AH → Prop) (h : AH) (G : Nat → Option AV) (i0 : Nat) (h1 : AH) (v67 : AV) (v68 : AV) (n69 : Int) : Prop :=
  ∃ (I2 : Nat → List AV → AH → Prop) (m3 : Nat), I2 m3 [v67, v68, (.v (.int .i64 n69))] h1 ∧ ∀ (m4 : Nat) (h5 : AH), h1.length ≤ h5.length → LowH h5.length h5 → ∀ (v6 : AV) (v7 : AV) (n8 : Int), I2 m4 [v6, v7, (.v (.int .i64 n8))] h5 →
  okV (aLoad Tryz.prog h5 44 (.ptr i0 0 0 6)) fun v9 =>
  okInt .i64 (aLen Tryz.prog h5 44 v9) fun n10 =>
  condB (decide (n8 < n10))
  (callR Tryz.prog G 41 [] h5 (fun v11 h12 =>
  newO (.cells 149 1 [[(.v (.slice none 0 0))]] 0) h12 fun i13 h14 =>
  okBool (aBin Tryz.prog .eql 87 v11 (.v (.pointer none))) fun b15 =>
  rGq b15 false (some v11) fun b16 v17 =>
  rGq b16 false (some (.ptr i0 0 0 6)) fun b18 v19 =>
  rGq b18 false (aLoad Tryz.prog h14 44 v19) fun b20 v21 =>
  rGq b20 false (some (.v (.int .i64 n8))) fun b22 v23 =>
  rGq b22 false (aIA Tryz.prog h14 44 v21 v23) fun b24 v25 =>
  rGq b24 false (aLoad Tryz.prog h14 47 v25) fun b26 v27 =>
  rGe b26 false (fun k28 => callR Tryz.prog G 42 [v17, v27] h14 (fun v29 h30 =>
  k28 v29 h30)) h14 fun b31 v32 h33 =>
  rGq b31 false (aBin Tryz.prog .neq 24 v32 (.v (.int .i64 0))) fun b34 v35 =>
  okBool (pickR (some (.v (.bool b34))) (some (.v (.bool true))) (some v35)) fun b36 =>
  rGq b36 false (some (.ptr i13 0 0 0)) fun b37 v38 =>
  rGq b37 false (some (.ptr i0 0 0 6)) fun b39 v40 =>
  rGq b39 false (aLoad Tryz.prog h33 44 v40) fun b41 v42 =>
  rGq b41 false (some (.v (.int .i64 n8))) fun b43 v44 =>
  rGq b43 false (aIA Tryz.prog h33 44 v42 v44) fun b45 v46 =>
  rGq b45 false (aLoad Tryz.prog h33 47 v46) fun b47 v48 =>
  rGe b47 false (fun k49 => callR Tryz.prog G 71 [v38, v48] h33 (fun v50 h51 =>
  k49 v50 h51)) h33 fun b52 v53 h54 =>
  rGq b52 false (aBin Tryz.prog .neq 24 v53 (.v (.int .i64 0))) fun b55 v56 =>
  okBool (pickR (some (.v (.bool b55))) (some (.v (.bool true))) (some v56)) fun b57 =>
  condB b57
  (RetR h K (.tup [(.v (.slice none 0 0)), (.v (.slice none 0 0)), (.v (.bool false))]) h54)
  (okP (rowsFill 1 (List.replicate 1 [(.v (.pointer none))]) [(0, some v11)]) fun r58 => newO (.cells 87 1 r58 0) h54 fun i59 h60 =>
  appR Tryz.prog h60 51 51 v6 (.sl i59 0 0 1 none) (fun v61 h62 =>
  newO (.cells 147 1 [[(.ptr i13 0 0 0)]] 0) h62 fun i63 h64 =>
  appR Tryz.prog h64 65 65 v7 (.sl i63 0 0 1 none) (fun v65 h66 =>
  nextR h1 I2 m4 [some (.ptr i0 0 0 0)] [some (.ptr i0 0 0 0)] [v61, v65, (.v (.int .i64 (IntKind.wrap .i64 (n8 + 1))))] h66)))))
  (RetR h K (.tup [v6, v7, (.v (.bool true))]) h5)
def Tryz.r30 (G : Nat → Option AV) (a0 : AV) (h : AH) (K : AV → AH → Prop) : Prop :=
  onlyB (AV.one a0) (newO (.cells 46 (AV.cells a0).length [AV.cells a0] 0) h fun i0 h1 =>
  Tryz.r30_l4_2 K h G i0 h1 (.v (.slice none 0 0)) (.v (.slice none 0 0)) 0)
theorem Tryz.c30 (G : Nat → Option AV) (a0 : AV) (h : AH) (K : AV → AH → Prop) (hk : LowH h.length h → Tryz.r30 G a0 h K) : SCall Tryz.prog G 30 [a0] h K :=
  scall_of_rwp Tryz.tab30 [(4, [(5, .any), (6, .any), (7, (.int .i64))], [1])] Tryz.func30 rfl Tryz.ntmps30 (by kernel_rfl) (by show 1 ≤ 52; decide) (by kernel_rfl) (by kernel_rfl) hk
-- 31 (skylark/skylarklaw22.Plan).ours
def Tryz.r31 (a0 : AV) (h : AH) (K : AV → AH → Prop) : Prop :=
  onlyB (AV.one a0) (newO (.cells 46 (AV.cells a0).length [AV.cells a0] 0) h fun i0 h1 =>
  newO (.cells 68 6 [[(.v (.int .i64 0)), (.v (.slice none 0 0)), (.v (.int .i64 0)), (.v (.slice none 0 0)), (.v (.string (ByteArray.mk #[]))), (.v (.bool false))]] 0) h1 fun i2 h3 =>
  okV (aLoad Tryz.prog h3 43 (.ptr i0 0 0 0)) fun v4 =>
  okV (aLoad Tryz.prog h3 43 (.ptr i0 0 0 2)) fun v5 =>
  okStr (aLoad Tryz.prog h3 9 (.ptr i0 0 0 4)) fun s6 =>
  okBool (aLoad Tryz.prog h3 4 (.ptr i0 0 0 5)) fun b7 =>
  okV (aBuild Tryz.prog 68 [(0, some v4), (1, some v5), (2, some (.v (.string s6))), (3, some (.v (.bool b7)))]) fun v8 =>
  storeR Tryz.prog h3 (fun v9 h10 =>
  okV (aLoad Tryz.prog h10 68 (.ptr i2 0 0 0)) fun v11 =>
  RetR h K v11 h10) 68 v8 (.ptr i2 0 0 0))
theorem Tryz.c31 (G : Nat → Option AV) (a0 : AV) (h : AH) (K : AV → AH → Prop) (hk : LowH h.length h → Tryz.r31 a0 h K) : SCall Tryz.prog G 31 [a0] h K :=
  scall_of_rwp Tryz.tab31 [] Tryz.func31 rfl Tryz.ntmps31 (by kernel_rfl) (by show 1 ≤ 12; decide) (by kernel_rfl) (by kernel_rfl) hk
-- 36 skylark/move.Do
def Tryz.r36_l11_42 (K : AV → AH → Prop) (h : AH) (G : Nat → Option AV) (a1 : AV) (a2 : AV) (i0 : Nat) (i2 : Nat) (h38 : AH) (n39 : Int) (n41 : Int) (n71 : Int) : Prop :=
  ∃ (I42 : Nat → List AV → AH → Prop) (m43 : Nat), I42 m43 [(.v (.int .i64 n71))] h38 ∧ ∀ (m44 : Nat) (h45 : AH), h38.length ≤ h45.length → LowH h45.length h45 → ∀ (n46 : Int), I42 m44 [(.v (.int .i64 n46))] h45 →
  condB (decide (n46 < n41))
  (okV (aIA Tryz.prog h45 72 a2 (.v (.int .i64 n46))) fun v47 =>
  okV (aLoad Tryz.prog h45 89 v47) fun v48 =>
  newO (.cells 89 6 [[(.v (.int .i64 0)), (.v (.string (ByteArray.mk #[]))), (.v (.string (ByteArray.mk #[]))), (.v (.int .i64 0)), (.v (.int .i64 0)), (.v (.int .i64 0))]] 0) h45 fun i49 h50 =>
  storeR Tryz.prog h50 (fun v51 h52 =>
  okV (aLoad Tryz.prog h52 49 (.ptr i0 0 0 0)) fun v53 =>
  okStr (aLoad Tryz.prog h52 9 (.ptr i49 0 0 1)) fun s54 =>
  callR Tryz.prog G 53 [v53, (.v (.string s54))] h52 (fun v55 h56 =>
  okInt .i64 (extV 0 v55) fun n57 =>
  okInt .i64 (extV 1 v55) fun n58 =>
  condB (n57 != n39)
  (storeR Tryz.prog h56 (fun v59 h60 =>
  okV (aLoad Tryz.prog h60 80 (.ptr i2 0 0 0)) fun v61 =>
  RetR h K (.tup [(.v (.slice none 0 0)), v61]) h60) 80 (.agg [(.v (.int .i64 n46)), (.v (.int .i64 220))]) (.ptr i2 0 0 0))
  (nextR h38 I42 m44 [some a1, some a2, some (.ptr i0 0 0 0), some (.ptr i2 0 0 0), some (.v (.int .i64 n39)), some a2, some (.v (.int .i64 n41))] [some a1, some a2, some (.ptr i0 0 0 0), some (.ptr i2 0 0 0), some (.v (.int .i64 n39)), some a2, some (.v (.int .i64 n41))] [(.v (.int .i64 (IntKind.wrap .i64 (n46 + 1))))] h56))) 89 v48 (.ptr i49 0 0 0))
  (okV (aIA Tryz.prog h45 51 a1 (.v (.int .i64 n39))) fun v62 =>
  okV (aLoad Tryz.prog h45 87 v62) fun v63 =>
  callR Tryz.prog G 43 [v63, a2] h45 (fun v64 h65 =>
  okV (extV 0 v64) fun v66 =>
  okV (extV 1 v64) fun v67 =>
  storeR Tryz.prog h65 (fun v68 h69 =>
  okV (aLoad Tryz.prog h69 80 (.ptr i2 0 0 0)) fun v70 =>
  RetR h K (.tup [v66, v70]) h69) 80 v67 (.ptr i2 0 0 0)))
def Tryz.r36 (G : Nat → Option AV) (a0 a1 a2 : AV) (h : AH) (K : AV → AH → Prop) : Prop :=
  onlyB (AV.one a0) (newO (.cells 49 (AV.cells a0).length [AV.cells a0] 0) h fun i0 h1 =>
  newO (.cells 80 2 [[(.v (.int .i64 0)), (.v (.int .i64 0))]] 0) h1 fun i2 h3 =>
  okV (aLoad Tryz.prog h3 49 (.ptr i0 0 0 0)) fun v4 =>
  callR Tryz.prog G 24 [v4, a1] h3 (fun v5 h6 =>
  okInt .i64 (some v5) fun n7 =>
  rGq (n7 == 70) false (some (.v (.int .i64 n7))) fun b8 v9 =>
  rGq b8 false (aBin Tryz.prog .eql 24 v9 (.v (.int .i64 4))) fun b10 v11 =>
  okBool (pickR (some (.v (.bool b10))) (some (.v (.bool true))) (some v11)) fun b12 =>
  condB b12
  (storeR Tryz.prog h6 (fun v13 h14 =>
  okV (aLoad Tryz.prog h14 80 (.ptr i2 0 0 0)) fun v15 =>
  RetR h K (.tup [(.v (.slice none 0 0)), v15]) h14) 80 (.agg [(.v (.int .i64 0)), (.v (.int .i64 n7))]) (.ptr i2 0 0 0))
  (okInt .i64 (aLen Tryz.prog h6 72 a2) fun n16 =>
  rGq (decide (n16 < 1)) false (some a2) fun b17 v18 =>
  rGq b17 false (aLen Tryz.prog h6 72 v18) fun b19 v20 =>
  rGq b19 false (aBin Tryz.prog .gtr 3 v20 (.v (.int .i64 32))) fun b21 v22 =>
  okBool (pickR (some (.v (.bool b21))) (some (.v (.bool true))) (some v22)) fun b23 =>
  condB b23
  (storeR Tryz.prog h6 (fun v24 h25 =>
  okV (aLoad Tryz.prog h25 80 (.ptr i2 0 0 0)) fun v26 =>
  RetR h K (.tup [(.v (.slice none 0 0)), v26]) h25) 80 (.agg [(.v (.int .i64 0)), (.v (.int .i64 80))]) (.ptr i2 0 0 0))
  (callR Tryz.prog G 76 [a2, (.fn (.func 77) [] [])] h6 (fun v27 h28 =>
  okInt .i64 (some v27) fun n29 =>
  condB (decide (n29 ≥ 0))
  (storeR Tryz.prog h28 (fun v30 h31 =>
  okV (aLoad Tryz.prog h31 80 (.ptr i2 0 0 0)) fun v32 =>
  RetR h K (.tup [(.v (.slice none 0 0)), v32]) h31) 80 (.agg [(.v (.int .i64 n29)), (.v (.int .i64 80))]) (.ptr i2 0 0 0))
  (okV (aLoad Tryz.prog h28 49 (.ptr i0 0 0 0)) fun v33 =>
  okV (aIA Tryz.prog h28 72 a2 (.v (.int .i64 0))) fun v34 =>
  okV (aFA Tryz.prog 89 1 v34) fun v35 =>
  okStr (aLoad Tryz.prog h28 9 v35) fun s36 =>
  callR Tryz.prog G 53 [v33, (.v (.string s36))] h28 (fun v37 h38 =>
  okInt .i64 (extV 0 v37) fun n39 =>
  okInt .i64 (extV 1 v37) fun n40 =>
  okInt .i64 (aLen Tryz.prog h38 72 a2) fun n41 =>
  Tryz.r36_l11_42 K h G a1 a2 i0 i2 h38 n39 n41 0)))))))
theorem Tryz.c36 (G : Nat → Option AV) (a0 a1 a2 : AV) (h : AH) (K : AV → AH → Prop) (hk : LowH h.length h → Tryz.r36 G a0 a1 a2 h K) : SCall Tryz.prog G 36 [a0, a1, a2] h K :=
  scall_of_rwp Tryz.tab36 [(11, [(53, (.int .i64))], [1, 2, 3, 7, 10, 51, 52])] Tryz.func36 rfl Tryz.ntmps36 (by kernel_rfl) (by show 3 ≤ 79; decide) (by kernel_rfl) (by kernel_rfl) hk
-- 40 (skylark/skylarkref07.Change).May
def Tryz.r40 (G : Nat → Option AV) (a0 : AV) (h : AH) (K : AV → AH → Prop) : Prop :=
  onlyB (AV.one a0) (newO (.cells 68 (AV.cells a0).length [AV.cells a0] 0) h fun i0 h1 =>
  okV (aLoad Tryz.prog h1 43 (.ptr i0 0 0 0)) fun v2 =>
  callR Tryz.prog G 82 [v2] h1 (fun v3 h4 =>
  okBool (some v3) fun b5 =>
  rGq b5 true (some (.ptr i0 0 0 2)) fun b6 v7 =>
  rGq b6 true (aLoad Tryz.prog h4 43 v7) fun b8 v9 =>
  rGe b8 true (fun k10 => callR Tryz.prog G 82 [v9] h4 (fun v11 h12 =>
  k10 v11 h12)) h4 fun b13 v14 h15 =>
  okBool (pickR (some (.v (.bool b13))) (some v14) (some (.v (.bool false)))) fun b16 =>
  rGq b16 true (some (.ptr i0 0 0 2)) fun b17 v18 =>
  rGq b17 true (aFA Tryz.prog 43 0 v18) fun b19 v20 =>
  rGq b19 true (aLoad Tryz.prog h15 3 v20) fun b21 v22 =>
  rGq b21 true (some (.ptr i0 0 0 0)) fun b23 v24 =>
  rGq b23 true (aFA Tryz.prog 43 0 v24) fun b25 v26 =>
  rGq b25 true (aLoad Tryz.prog h15 3 v26) fun b27 v28 =>
  rGq b27 true (aBin Tryz.prog .add 3 v28 (.v (.int .i64 1))) fun b29 v30 =>
  rGq b29 true (aBin Tryz.prog .eql 3 v22 v30) fun b31 v32 =>
  okBool (pickR (some (.v (.bool b31))) (some v32) (some (.v (.bool false)))) fun b33 =>
  rGq b33 true (some (.ptr i0 0 0 2)) fun b34 v35 =>
  rGq b34 true (aFA Tryz.prog 43 1 v35) fun b36 v37 =>
  rGq b36 true (aLoad Tryz.prog h15 31 v37) fun b38 v39 =>
  rGq b38 true (aLen Tryz.prog h15 31 v39) fun b40 v41 =>
  rGq b40 true (some (.ptr i0 0 0 0)) fun b42 v43 =>
  rGq b42 true (aFA Tryz.prog 43 1 v43) fun b44 v45 =>
  rGq b44 true (aLoad Tryz.prog h15 31 v45) fun b46 v47 =>
  rGq b46 true (aLen Tryz.prog h15 31 v47) fun b48 v49 =>
  rGq b48 true (aBin Tryz.prog .geq 3 v41 v49) fun b50 v51 =>
  okBool (pickR (some (.v (.bool b50))) (some v51) (some (.v (.bool false)))) fun b52 =>
  rGq b52 true (some (.ptr i0 0 0 4)) fun b53 v54 =>
  rGq b53 true (aLoad Tryz.prog h15 9 v54) fun b55 v56 =>
  rGq b55 true (aLen Tryz.prog h15 9 v56) fun b57 v58 =>
  rGq b57 true (aBin Tryz.prog .leq 3 v58 (.v (.int .i64 64))) fun b59 v60 =>
  okBool (pickR (some (.v (.bool b59))) (some v60) (some (.v (.bool false)))) fun b61 =>
  rGq b61 true (some (.ptr i0 0 0 5)) fun b62 v63 =>
  rGq b62 true (aLoad Tryz.prog h15 4 v63) fun b64 v65 =>
  rGq b64 true (some v65) fun b66 v67 =>
  okG (some v67) true fun b68 g0 =>
  rGq b68 true (some (.ptr i0 0 0 4)) fun b69 v70 =>
  okG (some (g0 b69)) true fun c1 g2 =>
  rGq c1 true (aLoad Tryz.prog h15 9 v70) fun b71 v72 =>
  okG (some (g2 b71)) true fun c3 g4 =>
  rGq c3 true (aBin Tryz.prog .neq 9 v72 (.v (.string (ByteArray.mk #[])))) fun b73 v74 =>
  rGq b66 true (pickR (some (g4 b73)) (some v74) (some (.v (.bool false)))) fun b75 v76 =>
  rGq b75 true (aUn .not v76) fun b77 v78 =>
  okBool (pickR (some (.v (.bool b77))) (some v78) (some (.v (.bool false)))) fun b79 =>
  RetR h K (.v (.bool b79)) h15))
theorem Tryz.c40 (G : Nat → Option AV) (a0 : AV) (h : AH) (K : AV → AH → Prop) (hk : LowH h.length h → Tryz.r40 G a0 h K) : SCall Tryz.prog G 40 [a0] h K :=
  scall_of_rwp Tryz.tab40 [] Tryz.func40 rfl Tryz.ntmps40 (by kernel_rfl) (by show 1 ≤ 48; decide) (by kernel_rfl) (by kernel_rfl) hk
-- 41 skylark/table.New
def Tryz.r41 (h : AH) (K : AV → AH → Prop) : Prop :=
  newO (.cells 160 1 [[(.v (.slice none 0 0))]] 0) h fun i0 h1 =>
  RetR h K (.ptr i0 0 0 0) h1
theorem Tryz.c41 (G : Nat → Option AV) (h : AH) (K : AV → AH → Prop) (hk : LowH h.length h → Tryz.r41 h K) : SCall Tryz.prog G 41 [] h K :=
  scall_of_rwp Tryz.tab41 [] Tryz.func41 rfl Tryz.ntmps41 (by kernel_rfl) (by show 0 ≤ 3; decide) (by kernel_rfl) (by kernel_rfl) hk
-- 42 (*skylark/table.Table).Take
def Tryz.r42_j40 (a0 : AV) (a1 : AV) (h12 : AH) (n16 : Int) (I17 : Nat → List AV → AH → Prop) (m19 : Nat) (v22 : AV) (n23 : Int) (n36 : Int) (b37 : Bool) (v38 : AV) (h39 : AH) : Prop :=
  condB b37
  (okV (aSlice Tryz.prog h39 47 v22 (some (some (.v (.int .i64 (IntKind.wrap .i64 (n36 + 1)))))) none none) fun v40 =>
  nextR h12 I17 m19 [some a0, some a1, some (.v (.int .i64 n16))] [some a0, some a1, some (.v (.int .i64 n16))] [v38, v40, (.v (.int .i64 (IntKind.wrap .i64 (n23 + 1))))] h39)
  (okV (aSlice Tryz.prog h39 47 v22 (some (some (.v (.int .i64 n36)))) none none) fun v41 =>
  nextR h12 I17 m19 [some a0, some a1, some (.v (.int .i64 n16))] [some a0, some a1, some (.v (.int .i64 n16))] [v38, v41, (.v (.int .i64 (IntKind.wrap .i64 (n23 + 1))))] h39)
def Tryz.r42_l8_17 (K : AV → AH → Prop) (h : AH) (G : Nat → Option AV) (a0 : AV) (a1 : AV) (h12 : AH) (n16 : Int) (v67 : AV) (v68 : AV) (n69 : Int) : Prop :=
  ∃ (I17 : Nat → List AV → AH → Prop) (m18 : Nat), I17 m18 [v67, v68, (.v (.int .i64 n69))] h12 ∧ ∀ (m19 : Nat) (h20 : AH), h12.length ≤ h20.length → LowH h20.length h20 → ∀ (v21 : AV) (v22 : AV) (n23 : Int), I17 m19 [v21, v22, (.v (.int .i64 n23))] h20 →
  condB (decide (n23 < n16))
  (okV (aIA Tryz.prog h20 47 a1 (.v (.int .i64 n23))) fun v24 =>
  okV (aLoad Tryz.prog h20 131 v24) fun v25 =>
  newO (.cells 131 3 [[(.v (.string (ByteArray.mk #[]))), (.v (.int .i64 0)), (.v (.string (ByteArray.mk #[])))]] 0) h20 fun i26 h27 =>
  storeR Tryz.prog h27 (fun v28 h29 =>
  okV (aBuild Tryz.prog 160 [(0, some v22)]) fun v30 =>
  onlyB (AV.one v30) (newO (.cells 160 (AV.cells v30).length [AV.cells v30] 0) h29 fun i31 h32 =>
  okStr (aLoad Tryz.prog h32 9 (.ptr i26 0 0 0)) fun s33 =>
  callR Tryz.prog G 89 [(.ptr i31 0 0 0), (.v (.string s33))] h32 (fun v34 h35 =>
  okInt .i64 (extV 0 v34) fun n36 =>
  okBool (extV 1 v34) fun b37 =>
  (okV (aSlice Tryz.prog h35 47 v22 none (some (some (.v (.int .i64 n36)))) none) fun v42 =>
  okV (aLoad Tryz.prog h35 131 (.ptr i26 0 0 0)) fun v43 =>
  appR Tryz.prog h35 47 47 v21 v42 (fun v44 h45 =>
  (aLoad Tryz.prog h45 131 (.ptr i26 0 0 0) = some v43) ∧ okP (rowsFill 3 (List.replicate 1 [(.v (.string (ByteArray.mk #[]))), (.v (.int .i64 0)), (.v (.string (ByteArray.mk #[])))]) [(0, some v43)]) fun r46 => newO (.cells 131 3 r46 0) h45 fun i47 h48 =>
  appR Tryz.prog h48 47 47 v44 (.sl i47 0 0 1 none) (fun v49 h50 =>
  Tryz.r42_j40 a0 a1 h12 n16 I17 m19 v22 n23 n36 b37 v49 h50)))
  ∧ (okV (aSlice Tryz.prog h35 47 v22 none (some (some (.v (.int .i64 n36)))) none) fun v51 =>
  okV (aLoad Tryz.prog h35 131 (.ptr i26 0 0 0)) fun v52 =>
  okP (rowsFill 3 (List.replicate 1 [(.v (.string (ByteArray.mk #[]))), (.v (.int .i64 0)), (.v (.string (ByteArray.mk #[])))]) [(0, some v52)]) fun r53 => newO (.cells 131 3 r53 0) h35 fun i54 h55 =>
  (aSlice Tryz.prog h55 47 v22 none (some (some (.v (.int .i64 n36)))) none = some v51) ∧ appR Tryz.prog h55 47 47 v21 v51 (fun v56 h57 =>
  (aLoad Tryz.prog h57 131 (.ptr i26 0 0 0) = some v52) ∧ appR Tryz.prog h57 47 47 v56 (.sl i54 0 0 1 none) (fun v58 h59 =>
  Tryz.r42_j40 a0 a1 h12 n16 I17 m19 v22 n23 n36 b37 v58 h59)))))) 131 v25 (.ptr i26 0 0 0))
  (appR Tryz.prog h20 47 47 v21 v22 (fun v60 h61 =>
  okInt .i64 (aLen Tryz.prog h61 47 v60) fun n62 =>
  condB (decide (n62 > 4096))
  (RetR h K (.v (.int .i64 22)) h61)
  (okV (aNil a0) fun v63 =>
  okV (aFA Tryz.prog 160 0 v63) fun v64 =>
  storeR Tryz.prog h61 (fun v65 h66 =>
  RetR h K (.v (.int .i64 0)) h66) 47 v60 v64)))
def Tryz.r42 (G : Nat → Option AV) (a0 a1 : AV) (h : AH) (K : AV → AH → Prop) : Prop :=
  callR Tryz.prog G 83 [a1, (.fn (.func 84) [] [])] h (fun v0 h1 =>
  okBool (some v0) fun b2 =>
  condB b2
  (RetR h K (.v (.int .i64 80)) h1)
  (callR Tryz.prog G 86 [a1, (.fn (.func 87) [] [])] h1 (fun v3 h4 =>
  okBool (some v3) fun b5 =>
  condB (!b5)
  (RetR h K (.v (.int .i64 4)) h4)
  (okV (aNil a0) fun v6 =>
  okV (aFA Tryz.prog 160 0 v6) fun v7 =>
  okV (aLoad Tryz.prog h4 47 v7) fun v8 =>
  okInt .i64 (aLen Tryz.prog h4 47 v8) fun n9 =>
  okInt .i64 (aLen Tryz.prog h4 47 a1) fun n10 =>
  ((0 : Int) ≤ 0 ∧ 0 ≤ (IntKind.wrap .i64 (n9 + n10)) ∧ (((40 : Nat) : Int)) * (IntKind.wrap .i64 (n9 + n10)) ≤ 281474976710656 ∧ (IntKind.wrap .i64 (n9 + n10)) ≤ 4611686018427387904) ∧ newO (.cells 131 3 (List.replicate (Int.toNat (IntKind.wrap .i64 (n9 + n10))) [(.v (.string (ByteArray.mk #[]))), (.v (.int .i64 0)), (.v (.string (ByteArray.mk #[])))]) 0) h4 fun i11 h12 =>
  okV (aNil a0) fun v13 =>
  okV (aFA Tryz.prog 160 0 v13) fun v14 =>
  okV (aLoad Tryz.prog h12 47 v14) fun v15 =>
  okInt .i64 (aLen Tryz.prog h12 47 a1) fun n16 =>
  Tryz.r42_l8_17 K h G a0 a1 h12 n16 (.sl i11 0 0 (Int.toNat 0) none) v15 0))))
theorem Tryz.c42 (G : Nat → Option AV) (a0 a1 : AV) (h : AH) (K : AV → AH → Prop) (hk : LowH h.length h → Tryz.r42 G a0 a1 h K) : SCall Tryz.prog G 42 [a0, a1] h K :=
  scall_of_rwp Tryz.tab42 [(8, [(5, .any), (6, .any), (31, (.int .i64))], [0, 29, 30])] Tryz.func42 rfl Tryz.ntmps42 (by kernel_rfl) (by show 2 ≤ 69; decide) (by kernel_rfl) (by kernel_rfl) hk
-- 43 (*skylark/table.Table).Do
def Tryz.r44 (G : Nat → Option AV) (a0 a1 : AV) (h : AH) (K : AV → AH → Prop) : Prop :=
  onlyB (AV.one a1) (newO (.cells 96 (AV.cells a1).length [AV.cells a1] 0) h fun i0 h1 =>
  okV (aLoad Tryz.prog h1 96 (.ptr i0 0 0 0)) fun v2 =>
  callR Tryz.prog G 93 [a0, v2] h1 (fun v3 h4 =>
  okInt .i64 (extV 0 v3) fun n5 =>
  okInt .i64 (extV 1 v3) fun n6 =>
  okV (aNil a0) fun v7 =>
  okV (aFA Tryz.prog 160 0 v7) fun v8 =>
  okV (aLoad Tryz.prog h4 47 v8) fun v9 =>
  okV (aSlice Tryz.prog h4 47 v9 (some (some (.v (.int .i64 n5)))) (some (some (.v (.int .i64 n6)))) none) fun v10 =>
  callR Tryz.prog G 94 [v10] h4 (fun v11 h12 =>
  RetR h K v11 h12)))
theorem Tryz.c44 (G : Nat → Option AV) (a0 a1 : AV) (h : AH) (K : AV → AH → Prop) (hk : LowH h.length h → Tryz.r44 G a0 a1 h K) : SCall Tryz.prog G 44 [a0, a1] h K :=
  scall_of_rwp Tryz.tab44 [] Tryz.func44 rfl Tryz.ntmps44 (by kernel_rfl) (by show 2 ≤ 21; decide) (by kernel_rfl) (by kernel_rfl) hk
-- 52 skylark/skylarkbook.SameInts
def Tryz.r53_j12 (K : AV → AH → Prop) (h : AH) (G : Nat → Option AV) (a1 : AV) (i7 : Nat) (h11 : AH) : Prop :=
  okV (aLoad Tryz.prog h11 31 (.ptr i7 0 0 1)) fun v12 =>
  okStr (some a1) fun s13 =>
  callR Tryz.prog G 54 [v12, (.v (.string s13))] h11 (fun v14 h15 =>
  okInt .i64 (extV 0 v14) fun n16 =>
  okInt .i64 (extV 1 v14) fun n17 =>
  RetR h K (.tup [(.v (.int .i64 n16)), (.v (.int .i64 n17))]) h15)
def Tryz.r53 (G : Nat → Option AV) (a0 a1 : AV) (h : AH) (K : AV → AH → Prop) : Prop :=
  onlyB (AV.one a0) (newO (.cells 49 (AV.cells a0).length [AV.cells a0] 0) h fun i0 h1 =>
  okV (aLoad Tryz.prog h1 49 (.ptr i0 0 0 0)) fun v2 =>
  callR Tryz.prog G 63 [v2] h1 (fun v3 h4 =>
  okInt .i64 (some v3) fun n5 =>
  condB (n5 != 0)
  (RetR h K (.tup [(.v (.int .i64 0)), (.v (.int .i64 n5))]) h4)
  (okV (aLoad Tryz.prog h4 43 (.ptr i0 0 0 0)) fun v6 =>
  newO (.cells 43 2 [[(.v (.int .i64 0)), (.v (.slice none 0 0))]] 0) h4 fun i7 h8 =>
  storeR Tryz.prog h8 (fun v9 h10 =>
  okBool (aLoad Tryz.prog h10 4 (.ptr i0 0 0 5)) fun b18 =>
  rGq b18 false (some a1) fun b19 v20 =>
  rGq b19 false (some (.ptr i0 0 0 4)) fun b21 v22 =>
  rGq b21 false (aLoad Tryz.prog h10 9 v22) fun b23 v24 =>
  rGq b23 false (aBin Tryz.prog .lss 9 v20 v24) fun b25 v26 =>
  okBool (pickR (some (.v (.bool b25))) (some (.v (.bool true))) (some v26)) fun b27 =>
  condB b27
  (okV (aLoad Tryz.prog h10 43 (.ptr i0 0 0 2)) fun v28 =>
  storeR Tryz.prog h10 (fun v29 h30 =>
  Tryz.r53_j12 K h G a1 i7 h30) 43 v28 (.ptr i7 0 0 0))
  (Tryz.r53_j12 K h G a1 i7 h10)) 43 v6 (.ptr i7 0 0 0))))
theorem Tryz.c53 (G : Nat → Option AV) (a0 a1 : AV) (h : AH) (K : AV → AH → Prop) (hk : LowH h.length h → Tryz.r53 G a0 a1 h K) : SCall Tryz.prog G 53 [a0, a1] h K :=
  scall_of_rwp Tryz.tab53 [] Tryz.func53 rfl Tryz.ntmps53 (by kernel_rfl) (by show 2 ≤ 31; decide) (by kernel_rfl) (by kernel_rfl) hk
-- 54 skylark/ring.Of
def Tryz.r54 (G : Nat → Option AV) (a0 a1 : AV) (h : AH) (K : AV → AH → Prop) : Prop :=
  callR Tryz.prog G 107 [a0] h (fun v0 h1 =>
  okV (extV 0 v0) fun v2 =>
  okInt .i64 (extV 1 v0) fun n3 =>
  condB (n3 != 0)
  (RetR h K (.tup [(.v (.int .i64 0)), (.v (.int .i64 n3))]) h1)
  (okStr (some a1) fun s4 =>
  callR Tryz.prog G 108 [v2, (.v (.string s4))] h1 (fun v5 h6 =>
  okInt .i64 (some v5) fun n7 =>
  RetR h K (.tup [(.v (.int .i64 n7)), (.v (.int .i64 0))]) h6)))
theorem Tryz.c54 (G : Nat → Option AV) (a0 a1 : AV) (h : AH) (K : AV → AH → Prop) (hk : LowH h.length h → Tryz.r54 G a0 a1 h K) : SCall Tryz.prog G 54 [a0, a1] h K :=
  scall_of_rwp Tryz.tab54 [] Tryz.func54 rfl Tryz.ntmps54 (by kernel_rfl) (by show 2 ≤ 19; decide) (by kernel_rfl) (by kernel_rfl) hk
-- 55 (skylark/skylarkref07.Change).Owner
def Tryz.r62 (a0 : AV) (h : AH) (K : AV → AH → Prop) : Prop :=
  okV (aNil a0) fun v0 =>
  okV (aFA Tryz.prog 160 0 v0) fun v1 =>
  okV (aLoad Tryz.prog h 47 v1) fun v2 =>
  okInt .i64 (aLen Tryz.prog h 47 v2) fun n3 =>
  RetR h K (.v (.int .i64 n3)) h
theorem Tryz.c62 (G : Nat → Option AV) (a0 : AV) (h : AH) (K : AV → AH → Prop) (hk : LowH h.length h → Tryz.r62 a0 h K) : SCall Tryz.prog G 62 [a0] h K :=
  scall_of_rwp Tryz.tab62 [] Tryz.func62 rfl Tryz.ntmps62 (by kernel_rfl) (by show 1 ≤ 8; decide) (by kernel_rfl) (by kernel_rfl) hk
-- 63 (skylark/layout.Change).Check
def Tryz.r63 (G : Nat → Option AV) (a0 : AV) (h : AH) (K : AV → AH → Prop) : Prop :=
  onlyB (AV.one a0) (newO (.cells 49 (AV.cells a0).length [AV.cells a0] 0) h fun i0 h1 =>
  okStr (aLoad Tryz.prog h1 9 (.ptr i0 0 0 4)) fun s2 =>
  okBool (aLoad Tryz.prog h1 4 (.ptr i0 0 0 5)) fun b3 =>
  newO (.cells 192 2 [[(.v (.string (ByteArray.mk #[]))), (.v (.bool false))]] 0) h1 fun i4 h5 =>
  storeR Tryz.prog h5 (fun v6 h7 =>
  okV (aLoad Tryz.prog h7 43 (.ptr i0 0 0 0)) fun v8 =>
  callR Tryz.prog G 114 [v8] h7 (fun v9 h10 =>
  okInt .i64 (some v9) fun n11 =>
  rGq (n11 != 0) false (some (.ptr i0 0 0 2)) fun b12 v13 =>
  rGq b12 false (aLoad Tryz.prog h10 43 v13) fun b14 v15 =>
  rGe b14 false (fun k16 => callR Tryz.prog G 114 [v15] h10 (fun v17 h18 =>
  k16 v17 h18)) h10 fun b19 v20 h21 =>
  rGq b19 false (aBin Tryz.prog .neq 24 v20 (.v (.int .i64 0))) fun b22 v23 =>
  okBool (pickR (some (.v (.bool b22))) (some (.v (.bool true))) (some v23)) fun b24 =>
  condB b24
  (RetR h K (.v (.int .i64 70)) h21)
  (okInt .i64 (aLoad Tryz.prog h21 3 (.ptr i0 0 0 2)) fun n25 =>
  okInt .i64 (aLoad Tryz.prog h21 3 (.ptr i0 0 0 0)) fun n26 =>
  rGq (n25 != (IntKind.wrap .i64 (n26 + 1))) false (some (.ptr i0 0 0 2)) fun b27 v28 =>
  rGq b27 false (aFA Tryz.prog 43 1 v28) fun b29 v30 =>
  rGq b29 false (aLoad Tryz.prog h21 31 v30) fun b31 v32 =>
  rGq b31 false (aLen Tryz.prog h21 31 v32) fun b33 v34 =>
  rGq b33 false (some (.ptr i0 0 0 0)) fun b35 v36 =>
  rGq b35 false (aFA Tryz.prog 43 1 v36) fun b37 v38 =>
  rGq b37 false (aLoad Tryz.prog h21 31 v38) fun b39 v40 =>
  rGq b39 false (aLen Tryz.prog h21 31 v40) fun b41 v42 =>
  rGq b41 false (aBin Tryz.prog .lss 3 v34 v42) fun b43 v44 =>
  okBool (pickR (some (.v (.bool b43))) (some (.v (.bool true))) (some v44)) fun b45 =>
  condB b45
  (RetR h K (.v (.int .i64 70)) h21)
  (okStr (aLoad Tryz.prog h21 9 (.ptr i4 0 0 0)) fun s46 =>
  rGq (decide (((ByteArray.size s46 : Nat) : Int) > 64)) false (some (.ptr i4 0 0 1)) fun b47 v48 =>
  rGq b47 false (aLoad Tryz.prog h21 4 v48) fun b49 v50 =>
  rGq b49 false (some v50) fun b51 v52 =>
  okG (some v52) true fun b53 g0 =>
  rGq b53 true (aLoad Tryz.prog h21 192 (.ptr i4 0 0 0)) fun b54 v55 =>
  okG (some (g0 b54)) true fun c1 g2 =>
  rGq c1 true (some (.agg [(.v (.string (ByteArray.mk #[]))), (.v (.bool true))])) fun b56 v57 =>
  okG (some (g2 b56)) true fun c3 g4 =>
  rGq c3 true (aBin Tryz.prog .neq 192 v55 v57) fun b58 v59 =>
  rGq b51 false (pickR (some (g4 b58)) (some v59) (some (.v (.bool false)))) fun b60 v61 =>
  okBool (pickR (some (.v (.bool b60))) (some (.v (.bool true))) (some v61)) fun b62 =>
  condB b62
  (RetR h K (.v (.int .i64 70)) h21)
  (RetR h K (.v (.int .i64 0)) h21))))) 192 (.agg [(.v (.string s2)), (.v (.bool b3))]) (.ptr i4 0 0 0))
theorem Tryz.c63 (G : Nat → Option AV) (a0 : AV) (h : AH) (K : AV → AH → Prop) (hk : LowH h.length h → Tryz.r63 G a0 h K) : SCall Tryz.prog G 63 [a0] h K :=
  scall_of_rwp Tryz.tab63 [] Tryz.func63 rfl Tryz.ntmps63 (by kernel_rfl) (by show 1 ≤ 54; decide) (by kernel_rfl) (by kernel_rfl) hk
-- 64 slices.SortStableFunc[[]skylark/api.Row,skylark/api.Row]
def Tryz.r64 (G : Nat → Option AV) (a0 a1 : AV) (h : AH) (K : AV → AH → Prop) : Prop :=
  okInt .i64 (aLen Tryz.prog h 47 a0) fun n0 =>
  callR Tryz.prog G 115 [a0, (.v (.int .i64 n0)), a1] h (fun v1 h2 =>
  RetR h K (.tup []) h2)
theorem Tryz.c64 (G : Nat → Option AV) (a0 a1 : AV) (h : AH) (K : AV → AH → Prop) (hk : LowH h.length h → Tryz.r64 G a0 a1 h K) : SCall Tryz.prog G 64 [a0, a1] h K :=
  scall_of_rwp Tryz.tab64 [] Tryz.func64 rfl Tryz.ntmps64 (by kernel_rfl) (by show 2 ≤ 9; decide) (by kernel_rfl) (by kernel_rfl) hk
-- 65 skylark/move.All$1
def Tryz.r65 (G : Nat → Option AV) (a0 a1 : AV) (h : AH) (K : AV → AH → Prop) : Prop :=
  onlyB (AV.one a0) (newO (.cells 131 (AV.cells a0).length [AV.cells a0] 0) h fun i0 h1 =>
  onlyB (AV.one a1) (newO (.cells 131 (AV.cells a1).length [AV.cells a1] 0) h1 fun i2 h3 =>
  okStr (aLoad Tryz.prog h3 9 (.ptr i0 0 0 0)) fun s4 =>
  okStr (aLoad Tryz.prog h3 9 (.ptr i2 0 0 0)) fun s5 =>
  callR Tryz.prog G 66 [(.v (.string s4)), (.v (.string s5))] h3 (fun v6 h7 =>
  okInt .i64 (some v6) fun n8 =>
  RetR h K (.v (.int .i64 n8)) h7)))
theorem Tryz.c65 (G : Nat → Option AV) (a0 a1 : AV) (h : AH) (K : AV → AH → Prop) (hk : LowH h.length h → Tryz.r65 G a0 a1 h K) : SCall Tryz.prog G 65 [a0, a1] h K :=
  scall_of_rwp Tryz.tab65 [] Tryz.func65 rfl Tryz.ntmps65 (by kernel_rfl) (by show 2 ≤ 10; decide) (by kernel_rfl) (by kernel_rfl) hk
-- 67 skylark/move.shelves
def Tryz.r67_l3_1 (K : AV → AH → Prop) (h : AH) (G : Nat → Option AV) (a0 : AV) (n0 : Int) (v31 : AV) (n32 : Int) : Prop :=
  ∃ (I1 : Nat → List AV → AH → Prop) (m2 : Nat), I1 m2 [v31, (.v (.int .i64 n32))] h ∧ ∀ (m3 : Nat) (h4 : AH), h.length ≤ h4.length → LowH h4.length h4 → ∀ (v5 : AV) (n6 : Int), I1 m3 [v5, (.v (.int .i64 n6))] h4 →
  condB (decide (n6 < n0))
  (okV (aIA Tryz.prog h4 51 a0 (.v (.int .i64 n6))) fun v7 =>
  okV (aLoad Tryz.prog h4 87 v7) fun v8 =>
  okBool (aBin Tryz.prog .eql 87 v8 (.v (.pointer none))) fun b9 =>
  rGq b9 false (some a0) fun b10 v11 =>
  rGq b10 false (some (.v (.int .i64 n6))) fun b12 v13 =>
  rGq b12 false (aSlice Tryz.prog h4 51 v11 none (some (some v13)) none) fun b14 v15 =>
  rGq b14 false (some v8) fun b16 v17 =>
  rGe b16 false (fun k18 => callR Tryz.prog G 117 [v15, v17] h4 (fun v19 h20 =>
  k18 v19 h20)) h4 fun b21 v22 h23 =>
  okBool (pickR (some (.v (.bool b21))) (some (.v (.bool true))) (some v22)) fun b24 =>
  condB b24
  (RetR h K (.tup [(.v (.slice none 0 0)), (.v (.bool false))]) h23)
  (okV (aMkI Tryz.prog 87 v8) fun v25 =>
  okP (rowsFill 1 (List.replicate 1 [(.v .nilIface)]) [(0, some v25)]) fun r26 => newO (.cells 141 1 r26 0) h23 fun i27 h28 =>
  appR Tryz.prog h28 137 137 v5 (.sl i27 0 0 1 none) (fun v29 h30 =>
  nextR h I1 m3 [some a0, some a0, some (.v (.int .i64 n0))] [some a0, some a0, some (.v (.int .i64 n0))] [v29, (.v (.int .i64 (IntKind.wrap .i64 (n6 + 1))))] h30)))
  (RetR h K (.tup [v5, (.v (.bool true))]) h4)
def Tryz.r67 (G : Nat → Option AV) (a0 : AV) (h : AH) (K : AV → AH → Prop) : Prop :=
  okInt .i64 (aLen Tryz.prog h 51 a0) fun n0 =>
  Tryz.r67_l3_1 K h G a0 n0 (.v (.slice none 0 0)) 0
theorem Tryz.c67 (G : Nat → Option AV) (a0 : AV) (h : AH) (K : AV → AH → Prop) (hk : LowH h.length h → Tryz.r67 G a0 h K) : SCall Tryz.prog G 67 [a0] h K :=
  scall_of_rwp Tryz.tab67 [(3, [(4, .any), (9, (.int .i64))], [0, 7, 8])] Tryz.func67 rfl Tryz.ntmps67 (by kernel_rfl) (by show 1 ≤ 30; decide) (by kernel_rfl) (by kernel_rfl) hk
-- 68 slices.Equal[[]int,int]
def Tryz.r69_l12_35 (K : AV → AH → Prop) (h : AH) (a1 : AV) (n22 : Int) (n26 : Int) (h31 : AH) (v32 : AV) (n34 : Int) (v50 : AV) (n51 : Int) : Prop :=
  ∃ (I35 : Nat → List AV → AH → Prop) (m36 : Nat), I35 m36 [v50, (.v (.int .i64 n51))] h31 ∧ ∀ (m37 : Nat) (h38 : AH), h31.length ≤ h38.length → LowH h38.length h38 → ∀ (v39 : AV) (n40 : Int), I35 m37 [v39, (.v (.int .i64 n40))] h38 →
  condB (decide (n40 < n34))
  (okV (aIA Tryz.prog h38 31 v32 (.v (.int .i64 n40))) fun v41 =>
  okInt .i64 (aLoad Tryz.prog h38 3 v41) fun n42 =>
  newO (.cells 3 1 [[(.v (.int .i64 (IntKind.wrap .i64 (n22 + n42))))]] 0) h38 fun i43 h44 =>
  appR Tryz.prog h44 31 31 v39 (.sl i43 0 0 1 none) (fun v45 h46 =>
  nextR h31 I35 m37 [some a1, some (.v (.int .i64 n22)), some (.v (.int .i64 (IntKind.wrap .i64 (n22 + n26)))), some v32, some (.v (.int .i64 n34))] [some a1, some (.v (.int .i64 n22)), some (.v (.int .i64 (IntKind.wrap .i64 (n22 + n26)))), some v32, some (.v (.int .i64 n34))] [v45, (.v (.int .i64 (IntKind.wrap .i64 (n40 + 1))))] h46))
  (okInt .i64 (aLen Tryz.prog h38 142 a1) fun n47 =>
  condB (decide ((IntKind.wrap .i64 (n22 + n26)) < n47))
  (okV (aIA Tryz.prog h38 142 a1 (.v (.int .i64 (IntKind.wrap .i64 (n22 + n26))))) fun v48 =>
  okStr (aLoad Tryz.prog h38 9 v48) fun s49 =>
  RetR h K (.tup [(.v (.string s49)), v39, (.v (.bool false)), (.v (.int .i64 0))]) h38)
  (RetR h K (.tup [(.v (.string (ByteArray.mk #[]))), v39, (.v (.bool true)), (.v (.int .i64 0))]) h38))
def Tryz.r69 (G : Nat → Option AV) (a0 a1 a2 : AV) (h : AH) (K : AV → AH → Prop) : Prop :=
  onlyB (AV.one a0) (newO (.cells 49 (AV.cells a0).length [AV.cells a0] 0) h fun i0 h1 =>
  okV (aLoad Tryz.prog h1 49 (.ptr i0 0 0 0)) fun v2 =>
  callR Tryz.prog G 63 [v2] h1 (fun v3 h4 =>
  okInt .i64 (some v3) fun n5 =>
  condB (n5 != 0)
  (RetR h K (.tup [(.v (.string (ByteArray.mk #[]))), (.v (.slice none 0 0)), (.v (.bool false)), (.v (.int .i64 n5))]) h4)
  (okInt .i64 (some a2) fun n6 =>
  rGq (decide (n6 < 1)) false (some a1) fun b7 v8 =>
  rGe b7 false (fun k9 => callR Tryz.prog G 118 [v8] h4 (fun v10 h11 =>
  k9 v10 h11)) h4 fun b12 v13 h14 =>
  rGq b12 false (aUn .not v13) fun b15 v16 =>
  okBool (pickR (some (.v (.bool b15))) (some (.v (.bool true))) (some v16)) fun b17 =>
  condB b17
  (RetR h K (.tup [(.v (.string (ByteArray.mk #[]))), (.v (.slice none 0 0)), (.v (.bool false)), (.v (.int .i64 1))]) h14)
  (okBool (aLoad Tryz.prog h14 4 (.ptr i0 0 0 5)) fun b18 =>
  condB b18
  (RetR h K (.tup [(.v (.string (ByteArray.mk #[]))), (.v (.slice none 0 0)), (.v (.bool true)), (.v (.int .i64 0))]) h14)
  (okStr (aLoad Tryz.prog h14 9 (.ptr i0 0 0 4)) fun s19 =>
  callR Tryz.prog G 119 [a1, (.v (.string s19))] h14 (fun v20 h21 =>
  okInt .i64 (extV 0 v20) fun n22 =>
  okBool (extV 1 v20) fun b23 =>
  okInt .i64 (some a2) fun n24 =>
  okInt .i64 (aLen Tryz.prog h21 142 a1) fun n25 =>
  okInt .i64 (aMinMax false [some (.v (.int .i64 n24)), some (.v (.int .i64 (IntKind.wrap .i64 (n25 - n22))))]) fun n26 =>
  okV (aLoad Tryz.prog h21 31 (.ptr i0 0 0 1)) fun v27 =>
  okV (aLoad Tryz.prog h21 31 (.ptr i0 0 0 3)) fun v28 =>
  okV (aSlice Tryz.prog h21 142 a1 (some (some (.v (.int .i64 n22)))) (some (some (.v (.int .i64 (IntKind.wrap .i64 (n22 + n26)))))) none) fun v29 =>
  callR Tryz.prog G 120 [v27, v28, v29] h21 (fun v30 h31 =>
  okV (extV 0 v30) fun v32 =>
  okInt .i64 (extV 1 v30) fun n33 =>
  okInt .i64 (aLen Tryz.prog h31 31 v32) fun n34 =>
  Tryz.r69_l12_35 K h a1 n22 n26 h31 v32 n34 (.v (.slice none 0 0)) 0)))))))
theorem Tryz.c69 (G : Nat → Option AV) (a0 a1 a2 : AV) (h : AH) (K : AV → AH → Prop) (hk : LowH h.length h → Tryz.r69 G a0 a1 a2 h K) : SCall Tryz.prog G 69 [a0, a1, a2] h K :=
  scall_of_rwp Tryz.tab69 [(12, [(7, .any), (63, (.int .i64))], [1, 11, 13, 61, 62])] Tryz.func69 rfl Tryz.ntmps69 (by kernel_rfl) (by show 3 ≤ 84; decide) (by kernel_rfl) (by kernel_rfl) hk
-- 70 slices.Max[[]int,int]
def Tryz.r70_l5_3 (K : AV → AH → Prop) (h : AH) (a0 : AV) (h0 : AH) (n13 : Int) (n14 : Int) : Prop :=
  ∃ (I3 : Nat → List AV → AH → Prop) (m4 : Nat), I3 m4 [(.v (.int .i64 n13)), (.v (.int .i64 n14))] h0 ∧ ∀ (m5 : Nat) (h6 : AH), h0.length ≤ h6.length → LowH h6.length h6 → ∀ (n7 : Int) (n8 : Int), I3 m5 [(.v (.int .i64 n7)), (.v (.int .i64 n8))] h6 →
  okInt .i64 (aLen Tryz.prog h6 31 a0) fun n9 =>
  condB (decide (n8 < n9))
  (okV (aIA Tryz.prog h6 31 a0 (.v (.int .i64 n8))) fun v10 =>
  okInt .i64 (aLoad Tryz.prog h6 3 v10) fun n11 =>
  okInt .i64 (aMinMax true [some (.v (.int .i64 n7)), some (.v (.int .i64 n11))]) fun n12 =>
  nextR h0 I3 m5 [some a0] [some a0] [(.v (.int .i64 n12)), (.v (.int .i64 (IntKind.wrap .i64 (n8 + 1))))] h6)
  (RetR h K (.v (.int .i64 n7)) h6)
def Tryz.r70_j1 (h : AH) (K : AV → AH → Prop) (a0 : AV) (h0 : AH) : Prop :=
  okV (aIA Tryz.prog h0 31 a0 (.v (.int .i64 0))) fun v1 =>
  okInt .i64 (aLoad Tryz.prog h0 3 v1) fun n2 =>
  Tryz.r70_l5_3 K h a0 h0 n2 1
def Tryz.r70 (a0 : AV) (h : AH) (K : AV → AH → Prop) : Prop :=
  okInt .i64 (aLen Tryz.prog h 31 a0) fun n15 =>
  condB (decide (n15 < 1))
  (okV (aMkI Tryz.prog 9 (.v (.string (ByteArray.mk #[115, 108, 105, 99, 101, 115, 46, 77, 97, 120, 58, 32, 101, 109, 112, 116, 121, 32, 108, 105, 115, 116])))) fun v16 =>
  False)
  (Tryz.r70_j1 h K a0 h)
theorem Tryz.c70 (G : Nat → Option AV) (a0 : AV) (h : AH) (K : AV → AH → Prop) (hk : LowH h.length h → Tryz.r70 a0 h K) : SCall Tryz.prog G 70 [a0] h K :=
  scall_of_rwp Tryz.tab70 [(5, [(3, (.int .i64)), (4, (.int .i64))], [0])] Tryz.func70 rfl Tryz.ntmps70 (by kernel_rfl) (by show 1 ≤ 25; decide) (by kernel_rfl) (by kernel_rfl) hk
-- 71 (*skylark/skylarkref09.Table).Take
def Tryz.r71_l18_54 (K : AV → AH → Prop) (h : AH) (G : Nat → Option AV) (a0 : AV) (a1 : AV) (h14 : AH) (n64 : Int) : Prop :=
  ∃ (I54 : Nat → List AV → AH → Prop) (m55 : Nat), I54 m55 [(.v (.int .i64 n64))] h14 ∧ ∀ (m56 : Nat) (h57 : AH), h14.length ≤ h57.length → LowH h57.length h57 → ∀ (n58 : Int), I54 m56 [(.v (.int .i64 n58))] h57 →
  okInt .i64 (aLen Tryz.prog h57 47 a1) fun n59 =>
  condB (decide (n58 < n59))
  (okV (aIA Tryz.prog h57 47 a1 (.v (.int .i64 n58))) fun v60 =>
  okV (aLoad Tryz.prog h57 131 v60) fun v61 =>
  callR Tryz.prog G 123 [a0, v61] h57 (fun v62 h63 =>
  nextR h14 I54 m56 [some a0, some a1] [some a0, some a1] [(.v (.int .i64 (IntKind.wrap .i64 (n58 + 1))))] h63))
  (RetR h K (.v (.int .i64 0)) h57)
def Tryz.r71_l8_11 (G : Nat → Option AV) (h : AH) (K : AV → AH → Prop) (a0 : AV) (a1 : AV) (h3 : AH) (n65 : Int) (n66 : Int) : Prop :=
  ∃ (I11 : Nat → List AV → AH → Prop) (m12 : Nat), I11 m12 [(.v (.int .i64 n65)), (.v (.int .i64 n66))] h3 ∧ ∀ (m13 : Nat) (h14 : AH), h3.length ≤ h14.length → LowH h14.length h14 → ∀ (n15 : Int) (n16 : Int), I11 m13 [(.v (.int .i64 n15)), (.v (.int .i64 n16))] h14 →
  okInt .i64 (aLen Tryz.prog h14 47 a1) fun n17 =>
  condB (decide (n16 < n17))
  (rGq (decide (n16 > 0)) true (some a1) fun b18 v19 =>
  rGq b18 true (some (.v (.int .i64 n16))) fun b20 v21 =>
  rGq b20 true (aBin Tryz.prog .sub 3 v21 (.v (.int .i64 1))) fun b22 v23 =>
  rGq b22 true (aIA Tryz.prog h14 47 v19 v23) fun b24 v25 =>
  rGq b24 true (aFA Tryz.prog 131 0 v25) fun b26 v27 =>
  rGq b26 true (aLoad Tryz.prog h14 9 v27) fun b28 v29 =>
  rGq b28 true (some a1) fun b30 v31 =>
  rGq b30 true (some (.v (.int .i64 n16))) fun b32 v33 =>
  rGq b32 true (aIA Tryz.prog h14 47 v31 v33) fun b34 v35 =>
  rGq b34 true (aFA Tryz.prog 131 0 v35) fun b36 v37 =>
  rGq b36 true (aLoad Tryz.prog h14 9 v37) fun b38 v39 =>
  rGq b38 true (aBin Tryz.prog .geq 9 v29 v39) fun b40 v41 =>
  okBool (pickR (some (.v (.bool b40))) (some v41) (some (.v (.bool false)))) fun b42 =>
  condB b42
  (RetR h K (.v (.int .i64 4)) h14)
  (okV (aIA Tryz.prog h14 47 a1 (.v (.int .i64 n16))) fun v43 =>
  okV (aFA Tryz.prog 131 0 v43) fun v44 =>
  okStr (aLoad Tryz.prog h14 9 v44) fun s45 =>
  callR Tryz.prog G 122 [a0, (.v (.string s45))] h14 (fun v46 h47 =>
  okInt .i64 (extV 0 v46) fun n48 =>
  okBool (extV 1 v46) fun b49 =>
  condB (!b49)
  (nextR h3 I11 m13 [some a0, some a1] [some a0, some a1] [(.v (.int .i64 (IntKind.wrap .i64 (n15 + 1)))), (.v (.int .i64 (IntKind.wrap .i64 (n16 + 1))))] h47)
  (nextR h3 I11 m13 [some a0, some a1] [some a0, some a1] [(.v (.int .i64 n15)), (.v (.int .i64 (IntKind.wrap .i64 (n16 + 1))))] h47))))
  (okV (aNil a0) fun v50 =>
  okV (aFA Tryz.prog 149 0 v50) fun v51 =>
  okV (aLoad Tryz.prog h14 47 v51) fun v52 =>
  okInt .i64 (aLen Tryz.prog h14 47 v52) fun n53 =>
  condB (decide ((IntKind.wrap .i64 (n53 + n15)) > 4096))
  (RetR h K (.v (.int .i64 22)) h14)
  (Tryz.r71_l18_54 K h G a0 a1 h14 0))
def Tryz.r71_l2_0 (K : AV → AH → Prop) (h : AH) (G : Nat → Option AV) (a0 : AV) (a1 : AV) (n67 : Int) : Prop :=
  ∃ (I0 : Nat → List AV → AH → Prop) (m1 : Nat), I0 m1 [(.v (.int .i64 n67))] h ∧ ∀ (m2 : Nat) (h3 : AH), h.length ≤ h3.length → LowH h3.length h3 → ∀ (n4 : Int), I0 m2 [(.v (.int .i64 n4))] h3 →
  okInt .i64 (aLen Tryz.prog h3 47 a1) fun n5 =>
  condB (decide (n4 < n5))
  (okV (aIA Tryz.prog h3 47 a1 (.v (.int .i64 n4))) fun v6 =>
  okV (aLoad Tryz.prog h3 131 v6) fun v7 =>
  callR Tryz.prog G 121 [v7] h3 (fun v8 h9 =>
  okBool (some v8) fun b10 =>
  condB (!b10)
  (RetR h K (.v (.int .i64 80)) h9)
  (nextR h I0 m2 [some a0, some a1] [some a0, some a1] [(.v (.int .i64 (IntKind.wrap .i64 (n4 + 1))))] h9)))
  (Tryz.r71_l8_11 G h K a0 a1 h3 0 0)
def Tryz.r71 (G : Nat → Option AV) (a0 a1 : AV) (h : AH) (K : AV → AH → Prop) : Prop :=
  Tryz.r71_l2_0 K h G a0 a1 0
theorem Tryz.c71 (G : Nat → Option AV) (a0 a1 : AV) (h : AH) (K : AV → AH → Prop) (hk : LowH h.length h → Tryz.r71 G a0 a1 h K) : SCall Tryz.prog G 71 [a0, a1] h K :=
  scall_of_rwp Tryz.tab71 [(2, [(5, (.int .i64))], [0, 1]), (8, [(6, (.int .i64)), (7, (.int .i64))], [0, 1]), (18, [(10, (.int .i64))], [0, 1])] Tryz.func71 rfl Tryz.ntmps71 (by kernel_rfl) (by show 2 ≤ 79; decide) (by kernel_rfl) (by kernel_rfl) hk
-- 72 (skylark/skylarkref07.Change).Next
def Tryz.r82 (G : Nat → Option AV) (a0 : AV) (h : AH) (K : AV → AH → Prop) : Prop :=
  onlyB (AV.one a0) (newO (.cells 43 (AV.cells a0).length [AV.cells a0] 0) h fun i0 h1 =>
  okInt .i64 (aLoad Tryz.prog h1 3 (.ptr i0 0 0 0)) fun n2 =>
  rGq (decide (n2 ≥ 1)) true (some (.ptr i0 0 0 0)) fun b3 v4 =>
  rGq b3 true (aLoad Tryz.prog h1 3 v4) fun b5 v6 =>
  rGq b5 true (aBin Tryz.prog .leq 3 v6 (.v (.int .i64 1073741824))) fun b7 v8 =>
  okBool (pickR (some (.v (.bool b7))) (some v8) (some (.v (.bool false)))) fun b9 =>
  rGq b9 true (some (.ptr i0 0 0 1)) fun b10 v11 =>
  rGq b10 true (aLoad Tryz.prog h1 31 v11) fun b12 v13 =>
  rGe b12 true (fun k14 => callR Tryz.prog G 109 [v13] h1 (fun v15 h16 =>
  k14 v15 h16)) h1 fun b17 v18 h19 =>
  okBool (pickR (some (.v (.bool b17))) (some v18) (some (.v (.bool false)))) fun b20 =>
  RetR h K (.v (.bool b20)) h19)
theorem Tryz.c82 (G : Nat → Option AV) (a0 : AV) (h : AH) (K : AV → AH → Prop) (hk : LowH h.length h → Tryz.r82 G a0 h K) : SCall Tryz.prog G 82 [a0] h K :=
  scall_of_rwp Tryz.tab82 [] Tryz.func82 rfl Tryz.ntmps82 (by kernel_rfl) (by show 1 ≤ 16; decide) (by kernel_rfl) (by kernel_rfl) hk
-- 83 slices.ContainsFunc[[]skylark/api.Row,skylark/api.Row]
def Tryz.r83 (G : Nat → Option AV) (a0 a1 : AV) (h : AH) (K : AV → AH → Prop) : Prop :=
  callR Tryz.prog G 129 [a0, a1] h (fun v0 h1 =>
  okInt .i64 (some v0) fun n2 =>
  RetR h K (.v (.bool (decide (n2 ≥ 0)))) h1)
theorem Tryz.c83 (G : Nat → Option AV) (a0 a1 : AV) (h : AH) (K : AV → AH → Prop) (hk : LowH h.length h → Tryz.r83 G a0 a1 h K) : SCall Tryz.prog G 83 [a0, a1] h K :=
  scall_of_rwp Tryz.tab83 [] Tryz.func83 rfl Tryz.ntmps83 (by kernel_rfl) (by show 2 ≤ 9; decide) (by kernel_rfl) (by kernel_rfl) hk
-- 84 (*skylark/table.Table).Take$1
def Tryz.r84 (G : Nat → Option AV) (a0 : AV) (h : AH) (K : AV → AH → Prop) : Prop :=
  onlyB (AV.one a0) (newO (.cells 131 (AV.cells a0).length [AV.cells a0] 0) h fun i0 h1 =>
  okV (aLoad Tryz.prog h1 131 (.ptr i0 0 0 0)) fun v2 =>
  callR Tryz.prog G 85 [v2] h1 (fun v3 h4 =>
  okBool (some v3) fun b5 =>
  RetR h K (.v (.bool (!b5))) h4))
theorem Tryz.c84 (G : Nat → Option AV) (a0 : AV) (h : AH) (K : AV → AH → Prop) (hk : LowH h.length h → Tryz.r84 G a0 h K) : SCall Tryz.prog G 84 [a0] h K :=
  scall_of_rwp Tryz.tab84 [] Tryz.func84 rfl Tryz.ntmps84 (by kernel_rfl) (by show 1 ≤ 6; decide) (by kernel_rfl) (by kernel_rfl) hk
-- 85 skylark/table.row
def Tryz.r85 (a0 : AV) (h : AH) (K : AV → AH → Prop) : Prop :=
  onlyB (AV.one a0) (newO (.cells 131 (AV.cells a0).length [AV.cells a0] 0) h fun i0 h1 =>
  okStr (aLoad Tryz.prog h1 9 (.ptr i0 0 0 0)) fun s2 =>
  rGq (!(ByteArray.toList s2 == ByteArray.toList (ByteArray.mk #[]))) true (some (.ptr i0 0 0 0)) fun b3 v4 =>
  rGq b3 true (aLoad Tryz.prog h1 9 v4) fun b5 v6 =>
  rGq b5 true (aLen Tryz.prog h1 9 v6) fun b7 v8 =>
  rGq b7 true (aBin Tryz.prog .leq 3 v8 (.v (.int .i64 64))) fun b9 v10 =>
  okBool (pickR (some (.v (.bool b9))) (some v10) (some (.v (.bool false)))) fun b11 =>
  rGq b11 true (some (.ptr i0 0 0 1)) fun b12 v13 =>
  rGq b12 true (aLoad Tryz.prog h1 3 v13) fun b14 v15 =>
  rGq b14 true (aBin Tryz.prog .geq 3 v15 (.v (.int .i64 1))) fun b16 v17 =>
  okBool (pickR (some (.v (.bool b16))) (some v17) (some (.v (.bool false)))) fun b18 =>
  rGq b18 true (some (.ptr i0 0 0 1)) fun b19 v20 =>
  rGq b19 true (aLoad Tryz.prog h1 3 v20) fun b21 v22 =>
  rGq b21 true (aBin Tryz.prog .leq 3 v22 (.v (.int .i64 1099511627776))) fun b23 v24 =>
  okBool (pickR (some (.v (.bool b23))) (some v24) (some (.v (.bool false)))) fun b25 =>
  rGq b25 true (some (.ptr i0 0 0 2)) fun b26 v27 =>
  rGq b26 true (aLoad Tryz.prog h1 9 v27) fun b28 v29 =>
  rGq b28 true (aLen Tryz.prog h1 9 v29) fun b30 v31 =>
  rGq b30 true (aBin Tryz.prog .leq 3 v31 (.v (.int .i64 4096))) fun b32 v33 =>
  okBool (pickR (some (.v (.bool b32))) (some v33) (some (.v (.bool false)))) fun b34 =>
  RetR h K (.v (.bool b34)) h1)
theorem Tryz.c85 (G : Nat → Option AV) (a0 : AV) (h : AH) (K : AV → AH → Prop) (hk : LowH h.length h → Tryz.r85 a0 h K) : SCall Tryz.prog G 85 [a0] h K :=
  scall_of_rwp Tryz.tab85 [] Tryz.func85 rfl Tryz.ntmps85 (by kernel_rfl) (by show 1 ≤ 28; decide) (by kernel_rfl) (by kernel_rfl) hk
-- 86 slices.IsSortedFunc[[]skylark/api.Row,skylark/api.Row]
def Tryz.r86_l2_1 (K : AV → AH → Prop) (h : AH) (G : Nat → Option AV) (a0 : AV) (a1 : AV) (n13 : Int) : Prop :=
  ∃ (I1 : Nat → List AV → AH → Prop) (m2 : Nat), I1 m2 [(.v (.int .i64 n13))] h ∧ ∀ (m3 : Nat) (h4 : AH), h.length ≤ h4.length → LowH h4.length h4 → ∀ (n5 : Int), I1 m3 [(.v (.int .i64 n5))] h4 →
  condB (decide (n5 > 0))
  (okV (aIA Tryz.prog h4 47 a0 (.v (.int .i64 n5))) fun v6 =>
  okV (aLoad Tryz.prog h4 131 v6) fun v7 =>
  okV (aIA Tryz.prog h4 47 a0 (.v (.int .i64 (IntKind.wrap .i64 (n5 - 1))))) fun v8 =>
  okV (aLoad Tryz.prog h4 131 v8) fun v9 =>
  callU Tryz.prog G h4 (fun v10 h11 =>
  okInt .i64 (some v10) fun n12 =>
  condB (decide (n12 < 0))
  (RetR h K (.v (.bool false)) h11)
  (nextR h I1 m3 [some a0, some a1] [some a0, some a1] [(.v (.int .i64 (IntKind.wrap .i64 (n5 - 1))))] h11)) [v7, v9] a1)
  (RetR h K (.v (.bool true)) h4)
def Tryz.r86 (G : Nat → Option AV) (a0 a1 : AV) (h : AH) (K : AV → AH → Prop) : Prop :=
  okInt .i64 (aLen Tryz.prog h 47 a0) fun n0 =>
  Tryz.r86_l2_1 K h G a0 a1 (IntKind.wrap .i64 (n0 - 1))
theorem Tryz.c86 (G : Nat → Option AV) (a0 a1 : AV) (h : AH) (K : AV → AH → Prop) (hk : LowH h.length h → Tryz.r86 G a0 a1 h K) : SCall Tryz.prog G 86 [a0, a1] h K :=
  scall_of_rwp Tryz.tab86 [(2, [(5, (.int .i64))], [0, 1])] Tryz.func86 rfl Tryz.ntmps86 (by kernel_rfl) (by show 2 ≤ 25; decide) (by kernel_rfl) (by kernel_rfl) hk
-- 87 (*skylark/table.Table).Take$2
def Tryz.r87 (G : Nat → Option AV) (a0 a1 : AV) (h : AH) (K : AV → AH → Prop) : Prop :=
  onlyB (AV.one a0) (newO (.cells 131 (AV.cells a0).length [AV.cells a0] 0) h fun i0 h1 =>
  onlyB (AV.one a1) (newO (.cells 131 (AV.cells a1).length [AV.cells a1] 0) h1 fun i2 h3 =>
  okStr (aLoad Tryz.prog h3 9 (.ptr i0 0 0 0)) fun s4 =>
  okStr (aLoad Tryz.prog h3 9 (.ptr i2 0 0 0)) fun s5 =>
  callR Tryz.prog G 66 [(.v (.string s4)), (.v (.string s5))] h3 (fun v6 h7 =>
  okInt .i64 (some v6) fun n8 =>
  newO (.cells 3 1 [[(.v (.int .i64 n8))], [(.v (.int .i64 (-1)))]] 0) h7 fun i9 h10 =>
  callR Tryz.prog G 88 [(.sl i9 0 0 2 none)] h10 (fun v11 h12 =>
  okInt .i64 (some v11) fun n13 =>
  RetR h K (.v (.int .i64 n13)) h12))))
theorem Tryz.c87 (G : Nat → Option AV) (a0 a1 : AV) (h : AH) (K : AV → AH → Prop) (hk : LowH h.length h → Tryz.r87 G a0 a1 h K) : SCall Tryz.prog G 87 [a0, a1] h K :=
  scall_of_rwp Tryz.tab87 [] Tryz.func87 rfl Tryz.ntmps87 (by kernel_rfl) (by show 2 ≤ 12; decide) (by kernel_rfl) (by kernel_rfl) hk
-- 88 cmp.Or[int]
def Tryz.r88_l3_1 (K : AV → AH → Prop) (h : AH) (a0 : AV) (n0 : Int) (n8 : Int) : Prop :=
  ∃ (I1 : Nat → List AV → AH → Prop) (m2 : Nat), I1 m2 [(.v (.int .i64 n8))] h ∧ ∀ (m3 : Nat) (h4 : AH), h.length ≤ h4.length → LowH h4.length h4 → ∀ (n5 : Int), I1 m3 [(.v (.int .i64 n5))] h4 →
  condB (decide (n5 < n0))
  (okV (aIA Tryz.prog h4 31 a0 (.v (.int .i64 n5))) fun v6 =>
  okInt .i64 (aLoad Tryz.prog h4 3 v6) fun n7 =>
  condB (n7 != 0)
  (RetR h K (.v (.int .i64 n7)) h4)
  (nextR h I1 m3 [some (.v (.int .i64 0)), some a0, some (.v (.int .i64 n0))] [some (.v (.int .i64 0)), some a0, some (.v (.int .i64 n0))] [(.v (.int .i64 (IntKind.wrap .i64 (n5 + 1))))] h4))
  (RetR h K (.v (.int .i64 0)) h4)
def Tryz.r88 (a0 : AV) (h : AH) (K : AV → AH → Prop) : Prop :=
  okInt .i64 (aLen Tryz.prog h 31 a0) fun n0 =>
  Tryz.r88_l3_1 K h a0 n0 0
theorem Tryz.c88 (G : Nat → Option AV) (a0 : AV) (h : AH) (K : AV → AH → Prop) (hk : LowH h.length h → Tryz.r88 a0 h K) : SCall Tryz.prog G 88 [a0] h K :=
  scall_of_rwp Tryz.tab88 [(3, [(8, (.int .i64))], [3, 6, 7])] Tryz.func88 rfl Tryz.ntmps88 (by kernel_rfl) (by show 1 ≤ 18; decide) (by kernel_rfl) (by kernel_rfl) hk
-- 89 (*skylark/table.Table).at
def Tryz.r89 (G : Nat → Option AV) (a0 a1 : AV) (h : AH) (K : AV → AH → Prop) : Prop :=
  okV (aNil a0) fun v0 =>
  okV (aFA Tryz.prog 160 0 v0) fun v1 =>
  okV (aLoad Tryz.prog h 47 v1) fun v2 =>
  okStr (some a1) fun s3 =>
  callR Tryz.prog G 130 [v2, (.v (.string s3)), (.fn (.func 131) [] [])] h (fun v4 h5 =>
  okInt .i64 (extV 0 v4) fun n6 =>
  okBool (extV 1 v4) fun b7 =>
  RetR h K (.tup [(.v (.int .i64 n6)), (.v (.bool b7))]) h5)
theorem Tryz.c89 (G : Nat → Option AV) (a0 a1 : AV) (h : AH) (K : AV → AH → Prop) (hk : LowH h.length h → Tryz.r89 G a0 a1 h K) : SCall Tryz.prog G 89 [a0, a1] h K :=
  scall_of_rwp Tryz.tab89 [] Tryz.func89 rfl Tryz.ntmps89 (by kernel_rfl) (by show 2 ≤ 14; decide) (by kernel_rfl) (by kernel_rfl) hk
-- 90 (*skylark/table.Table).Do$1
def Tryz.r93 (G : Nat → Option AV) (a0 a1 : AV) (h : AH) (K : AV → AH → Prop) : Prop :=
  onlyB (AV.one a1) (newO (.cells 96 (AV.cells a1).length [AV.cells a1] 0) h fun i0 h1 =>
  okStr (aLoad Tryz.prog h1 9 (.ptr i0 0 0 0)) fun s2 =>
  callR Tryz.prog G 89 [a0, (.v (.string s2))] h1 (fun v3 h4 =>
  okInt .i64 (extV 0 v3) fun n5 =>
  okBool (extV 1 v3) fun b6 =>
  okV (aNil a0) fun v7 =>
  okV (aFA Tryz.prog 160 0 v7) fun v8 =>
  okV (aLoad Tryz.prog h4 47 v8) fun v9 =>
  okInt .i64 (aLen Tryz.prog h4 47 v9) fun n10 =>
  okStr (aLoad Tryz.prog h4 9 (.ptr i0 0 0 1)) fun s11 =>
  condB (!(ByteArray.toList s11 == ByteArray.toList (ByteArray.mk #[])))
  (okStr (aLoad Tryz.prog h4 9 (.ptr i0 0 0 1)) fun s12 =>
  callR Tryz.prog G 89 [a0, (.v (.string s12))] h4 (fun v13 h14 =>
  okInt .i64 (extV 0 v13) fun n15 =>
  okBool (extV 1 v13) fun b16 =>
  okInt .i64 (aMinMax true [some (.v (.int .i64 n5)), some (.v (.int .i64 n15))]) fun n17 =>
  RetR h K (.tup [(.v (.int .i64 n5)), (.v (.int .i64 n17))]) h14))
  (okInt .i64 (aMinMax true [some (.v (.int .i64 n5)), some (.v (.int .i64 n10))]) fun n18 =>
  RetR h K (.tup [(.v (.int .i64 n5)), (.v (.int .i64 n18))]) h4)))
theorem Tryz.c93 (G : Nat → Option AV) (a0 a1 : AV) (h : AH) (K : AV → AH → Prop) (hk : LowH h.length h → Tryz.r93 G a0 a1 h K) : SCall Tryz.prog G 93 [a0, a1] h K :=
  scall_of_rwp Tryz.tab93 [] Tryz.func93 rfl Tryz.ntmps93 (by kernel_rfl) (by show 2 ≤ 32; decide) (by kernel_rfl) (by kernel_rfl) hk
-- 94 slices.Clone[[]skylark/api.Row,skylark/api.Row]
def Tryz.r94 (a0 : AV) (h : AH) (K : AV → AH → Prop) : Prop :=
  binR Tryz.prog h (fun v0 h1 =>
  okBool (some v0) fun b2 =>
  condB b2
  (RetR h K (.v (.slice none 0 0)) h1)
  (newO (.cells 131 3 [] 0) h1 fun i3 h4 =>
  appR Tryz.prog h4 47 47 (.sl i3 0 0 0 none) a0 (fun v5 h6 =>
  RetR h K v5 h6))) .eql 47 a0 (.v (.slice none 0 0))
theorem Tryz.c94 (G : Nat → Option AV) (a0 : AV) (h : AH) (K : AV → AH → Prop) (hk : LowH h.length h → Tryz.r94 a0 h K) : SCall Tryz.prog G 94 [a0] h K :=
  scall_of_rwp Tryz.tab94 [] Tryz.func94 rfl Tryz.ntmps94 (by kernel_rfl) (by show 1 ≤ 8; decide) (by kernel_rfl) (by kernel_rfl) hk
-- 103 (skylark/skylarkref07.Change).To
def Tryz.r107_l9_12 (G : Nat → Option AV) (a0 : AV) (h1 : AH) (n3 : Int) (I4 : Nat → List AV → AH → Prop) (m6 : Nat) (h7 : AH) (n9 : Int) (n11 : Int) (v33 : AV) (n34 : Int) : Prop :=
  ∃ (I12 : Nat → List AV → AH → Prop) (m13 : Nat), I12 m13 [v33, (.v (.int .i64 n34))] h7 ∧ ∀ (m14 : Nat) (h15 : AH), h7.length ≤ h15.length → LowH h15.length h15 → ∀ (v16 : AV) (n17 : Int), I12 m14 [v16, (.v (.int .i64 n17))] h15 →
  condB (decide (n17 < n11))
  (callR Tryz.prog G 148 [(.v (.int .i64 n9))] h15 (fun v18 h19 =>
  okStr (some v18) fun s20 =>
  okStr (aBin Tryz.prog .add 9 (.v (.string s20)) (.v (.string (ByteArray.mk #[46])))) fun s21 =>
  callR Tryz.prog G 148 [(.v (.int .i64 n17))] h19 (fun v22 h23 =>
  okStr (some v22) fun s24 =>
  okStr (aBin Tryz.prog .add 9 (.v (.string s21)) (.v (.string s24))) fun s25 =>
  callR Tryz.prog G 147 [(.v (.string s25))] h23 (fun v26 h27 =>
  okInt .u64 (some v26) fun n28 =>
  newO (.cells 220 3 [[(.v (.int .u64 n28)), (.v (.int .i64 n9)), (.v (.int .i64 n17))]] 0) h27 fun i29 h30 =>
  appR Tryz.prog h30 182 182 v16 (.sl i29 0 0 1 none) (fun v31 h32 =>
  nextR h7 I12 m14 [some (.v (.int .i64 n9)), some a0, some (.v (.int .i64 n3)), some (.v (.int .i64 n9)), some (.v (.int .i64 n11))] [some (.v (.int .i64 n9)), some a0, some (.v (.int .i64 n3)), some (.v (.int .i64 n9)), some (.v (.int .i64 n11))] [v31, (.v (.int .i64 (IntKind.wrap .i64 (n17 + 1))))] h32)))))
  (nextR h1 I4 m6 [some a0, some (.v (.int .i64 n3))] [some a0, some (.v (.int .i64 n3))] [v16, (.v (.int .i64 (IntKind.wrap .i64 (n9 + 1))))] h15)
def Tryz.r107_l6_4 (K : AV → AH → Prop) (h : AH) (G : Nat → Option AV) (a0 : AV) (h1 : AH) (n3 : Int) (v37 : AV) (n38 : Int) : Prop :=
  ∃ (I4 : Nat → List AV → AH → Prop) (m5 : Nat), I4 m5 [v37, (.v (.int .i64 n38))] h1 ∧ ∀ (m6 : Nat) (h7 : AH), h1.length ≤ h7.length → LowH h7.length h7 → ∀ (v8 : AV) (n9 : Int), I4 m6 [v8, (.v (.int .i64 n9))] h7 →
  condB (decide (n9 < n3))
  (okV (aIA Tryz.prog h7 31 a0 (.v (.int .i64 n9))) fun v10 =>
  okInt .i64 (aLoad Tryz.prog h7 3 v10) fun n11 =>
  Tryz.r107_l9_12 G a0 h1 n3 I4 m6 h7 n9 n11 v8 0)
  (callR Tryz.prog G 149 [v8, (.fn (.func 150) [] [])] h7 (fun v35 h36 =>
  RetR h K (.tup [v8, (.v (.int .i64 0))]) h36))
def Tryz.r107 (G : Nat → Option AV) (a0 : AV) (h : AH) (K : AV → AH → Prop) : Prop :=
  callR Tryz.prog G 146 [a0] h (fun v0 h1 =>
  okInt .i64 (some v0) fun n2 =>
  condB (n2 != 0)
  (RetR h K (.tup [(.v (.slice none 0 0)), (.v (.int .i64 n2))]) h1)
  (okInt .i64 (aLen Tryz.prog h1 31 a0) fun n3 =>
  Tryz.r107_l6_4 K h G a0 h1 n3 (.v (.slice none 0 0)) 0))
theorem Tryz.c107 (G : Nat → Option AV) (a0 : AV) (h : AH) (K : AV → AH → Prop) (hk : LowH h.length h → Tryz.r107 G a0 h K) : SCall Tryz.prog G 107 [a0] h K :=
  scall_of_rwp Tryz.tab107 [(6, [(5, .any), (17, (.int .i64))], [15, 16]), (9, [(5, .any), (23, (.int .i64))], [6, 15, 16, 17, 22])] Tryz.func107 rfl Tryz.ntmps107 (by kernel_rfl) (by show 1 ≤ 46; decide) (by kernel_rfl) (by kernel_rfl) hk
-- 108 (skylark/ring.ring).of
def Tryz.r108 (G : Nat → Option AV) (a0 a1 : AV) (h : AH) (K : AV → AH → Prop) : Prop :=
  okStr (some a1) fun s0 =>
  callR Tryz.prog G 147 [(.v (.string s0))] h (fun v1 h2 =>
  okInt .u64 (some v1) fun n3 =>
  callR Tryz.prog G 151 [a0, (.v (.int .u64 n3)), (.fn (.func 152) [] [])] h2 (fun v4 h5 =>
  okInt .i64 (extV 0 v4) fun n6 =>
  okBool (extV 1 v4) fun b7 =>
  okInt .i64 (aLen Tryz.prog h5 182 a0) fun n8 =>
  okInt .i64 (aBin Tryz.prog .rem 3 (.v (.int .i64 n6)) (.v (.int .i64 n8))) fun n9 =>
  okV (aIA Tryz.prog h5 182 a0 (.v (.int .i64 n9))) fun v10 =>
  okV (aFA Tryz.prog 220 1 v10) fun v11 =>
  okInt .i64 (aLoad Tryz.prog h5 3 v11) fun n12 =>
  RetR h K (.v (.int .i64 n12)) h5))
theorem Tryz.c108 (G : Nat → Option AV) (a0 a1 : AV) (h : AH) (K : AV → AH → Prop) (hk : LowH h.length h → Tryz.r108 G a0 a1 h K) : SCall Tryz.prog G 108 [a0, a1] h K :=
  scall_of_rwp Tryz.tab108 [] Tryz.func108 rfl Tryz.ntmps108 (by kernel_rfl) (by show 2 ≤ 24; decide) (by kernel_rfl) (by kernel_rfl) hk
-- 109 skylark/skylarkref06.May
def Tryz.r109_l5_8 (K : AV → AH → Prop) (h : AH) (a0 : AV) (b39 : Bool) (n40 : Int) : Prop :=
  ∃ (I8 : Nat → List AV → AH → Prop) (m9 : Nat), I8 m9 [(.v (.bool b39)), (.v (.int .i64 n40))] h ∧ ∀ (m10 : Nat) (h11 : AH), h.length ≤ h11.length → LowH h11.length h11 → ∀ (b12 : Bool) (n13 : Int), I8 m10 [(.v (.bool b12)), (.v (.int .i64 n13))] h11 →
  okInt .i64 (aLen Tryz.prog h11 31 a0) fun n14 =>
  condB (decide (n13 < n14))
  (okV (aIA Tryz.prog h11 31 a0 (.v (.int .i64 n13))) fun v15 =>
  okInt .i64 (aLoad Tryz.prog h11 3 v15) fun n16 =>
  rGq (decide (n16 < 0)) false (some a0) fun b17 v18 =>
  rGq b17 false (some (.v (.int .i64 n13))) fun b19 v20 =>
  rGq b19 false (aIA Tryz.prog h11 31 v18 v20) fun b21 v22 =>
  rGq b21 false (aLoad Tryz.prog h11 3 v22) fun b23 v24 =>
  rGq b23 false (aBin Tryz.prog .gtr 3 v24 (.v (.int .i64 128))) fun b25 v26 =>
  okBool (pickR (some (.v (.bool b25))) (some (.v (.bool true))) (some v26)) fun b27 =>
  condB b27
  (RetR h K (.v (.bool false)) h11)
  (rGq b12 false (some a0) fun b28 v29 =>
  rGq b28 false (some (.v (.int .i64 n13))) fun b30 v31 =>
  rGq b30 false (aIA Tryz.prog h11 31 v29 v31) fun b32 v33 =>
  rGq b32 false (aLoad Tryz.prog h11 3 v33) fun b34 v35 =>
  rGq b34 false (aBin Tryz.prog .gtr 3 v35 (.v (.int .i64 0))) fun b36 v37 =>
  okBool (pickR (some (.v (.bool b36))) (some (.v (.bool true))) (some v37)) fun b38 =>
  nextR h I8 m10 [some a0] [some a0] [(.v (.bool b38)), (.v (.int .i64 (IntKind.wrap .i64 (n13 + 1))))] h11))
  (RetR h K (.v (.bool b12)) h11)
def Tryz.r109 (a0 : AV) (h : AH) (K : AV → AH → Prop) : Prop :=
  okInt .i64 (aLen Tryz.prog h 31 a0) fun n0 =>
  rGq (decide (n0 < 1)) false (some a0) fun b1 v2 =>
  rGq b1 false (aLen Tryz.prog h 31 v2) fun b3 v4 =>
  rGq b3 false (aBin Tryz.prog .gtr 3 v4 (.v (.int .i64 8))) fun b5 v6 =>
  okBool (pickR (some (.v (.bool b5))) (some (.v (.bool true))) (some v6)) fun b7 =>
  condB b7
  (RetR h K (.v (.bool false)) h)
  (Tryz.r109_l5_8 K h a0 false 0)
theorem Tryz.c109 (G : Nat → Option AV) (a0 : AV) (h : AH) (K : AV → AH → Prop) (hk : LowH h.length h → Tryz.r109 a0 h K) : SCall Tryz.prog G 109 [a0] h K :=
  scall_of_rwp Tryz.tab109 [(5, [(3, .bool), (4, (.int .i64))], [0])] Tryz.func109 rfl Tryz.ntmps109 (by kernel_rfl) (by show 1 ≤ 40; decide) (by kernel_rfl) (by kernel_rfl) hk
-- 110 skylark/skylarkref06.find
def Tryz.r114 (G : Nat → Option AV) (a0 : AV) (h : AH) (K : AV → AH → Prop) : Prop :=
  onlyB (AV.one a0) (newO (.cells 43 (AV.cells a0).length [AV.cells a0] 0) h fun i0 h1 =>
  okInt .i64 (aLoad Tryz.prog h1 3 (.ptr i0 0 0 0)) fun n2 =>
  rGq (decide (n2 < 1)) false (some (.ptr i0 0 0 0)) fun b3 v4 =>
  rGq b3 false (aLoad Tryz.prog h1 3 v4) fun b5 v6 =>
  rGq b5 false (aBin Tryz.prog .gtr 3 v6 (.v (.int .i64 1073741824))) fun b7 v8 =>
  okBool (pickR (some (.v (.bool b7))) (some (.v (.bool true))) (some v8)) fun b9 =>
  rGq b9 false (some (.ptr i0 0 0 1)) fun b10 v11 =>
  rGq b10 false (aLoad Tryz.prog h1 31 v11) fun b12 v13 =>
  rGe b12 false (fun k14 => callR Tryz.prog G 146 [v13] h1 (fun v15 h16 =>
  k14 v15 h16)) h1 fun b17 v18 h19 =>
  rGq b17 false (aBin Tryz.prog .neq 24 v18 (.v (.int .i64 0))) fun b20 v21 =>
  okBool (pickR (some (.v (.bool b20))) (some (.v (.bool true))) (some v21)) fun b22 =>
  condB b22
  (RetR h K (.v (.int .i64 70)) h19)
  (RetR h K (.v (.int .i64 0)) h19))
theorem Tryz.c114 (G : Nat → Option AV) (a0 : AV) (h : AH) (K : AV → AH → Prop) (hk : LowH h.length h → Tryz.r114 G a0 h K) : SCall Tryz.prog G 114 [a0] h K :=
  scall_of_rwp Tryz.tab114 [] Tryz.func114 rfl Tryz.ntmps114 (by kernel_rfl) (by show 1 ≤ 17; decide) (by kernel_rfl) (by kernel_rfl) hk
-- 115 slices.stableCmpFunc[skylark/api.Row]
def Tryz.r115_l9_18 (G : Nat → Option AV) (a0 : AV) (a1 : AV) (a2 : AV) (h11 : AH) (I12 : Nat → List AV → AH → Prop) (m14 : Nat) (h15 : AH) (n16 : Int) (n31 : Int) (n32 : Int) : Prop :=
  ∃ (I18 : Nat → List AV → AH → Prop) (m19 : Nat), I18 m19 [(.v (.int .i64 n31)), (.v (.int .i64 n32))] h15 ∧ ∀ (m20 : Nat) (h21 : AH), h15.length ≤ h21.length → LowH h21.length h21 → ∀ (n22 : Int) (n23 : Int), I18 m20 [(.v (.int .i64 n22)), (.v (.int .i64 n23))] h21 →
  okInt .i64 (some a1) fun n24 =>
  condB (decide (n23 ≤ n24))
  (callR Tryz.prog G 157 [a0, (.v (.int .i64 n22)), (.v (.int .i64 (IntKind.wrap .i64 (n22 + n16)))), (.v (.int .i64 n23)), a2] h21 (fun v25 h26 =>
  nextR h15 I18 m20 [some a0, some a1, some a2, some (.v (.int .i64 n16))] [some a0, some a1, some a2, some (.v (.int .i64 n16))] [(.v (.int .i64 n23)), (.v (.int .i64 (IntKind.wrap .i64 (n23 + (IntKind.wrap .i64 (2 * n16))))))] h26))
  (okInt .i64 (some a1) fun n27 =>
  condB (decide ((IntKind.wrap .i64 (n22 + n16)) < n27))
  (okInt .i64 (some a1) fun n28 =>
  callR Tryz.prog G 157 [a0, (.v (.int .i64 n22)), (.v (.int .i64 (IntKind.wrap .i64 (n22 + n16)))), (.v (.int .i64 n28)), a2] h21 (fun v29 h30 =>
  nextR h11 I12 m14 [some a0, some a1, some a2] [some a0, some a1, some a2] [(.v (.int .i64 (IntKind.wrap .i64 (n16 * 2))))] h30))
  (nextR h11 I12 m14 [some a0, some a1, some a2] [some a0, some a1, some a2] [(.v (.int .i64 (IntKind.wrap .i64 (n16 * 2))))] h21))
def Tryz.r115_l7_12 (K : AV → AH → Prop) (h : AH) (G : Nat → Option AV) (a0 : AV) (a1 : AV) (a2 : AV) (h11 : AH) (n33 : Int) : Prop :=
  ∃ (I12 : Nat → List AV → AH → Prop) (m13 : Nat), I12 m13 [(.v (.int .i64 n33))] h11 ∧ ∀ (m14 : Nat) (h15 : AH), h11.length ≤ h15.length → LowH h15.length h15 → ∀ (n16 : Int), I12 m14 [(.v (.int .i64 n16))] h15 →
  okInt .i64 (some a1) fun n17 =>
  condB (decide (n16 < n17))
  (Tryz.r115_l9_18 G a0 a1 a2 h11 I12 m14 h15 n16 0 (IntKind.wrap .i64 (2 * n16)))
  (RetR h K (.tup []) h15)
def Tryz.r115_l2_0 (G : Nat → Option AV) (h : AH) (K : AV → AH → Prop) (a0 : AV) (a1 : AV) (a2 : AV) (n34 : Int) (n35 : Int) : Prop :=
  ∃ (I0 : Nat → List AV → AH → Prop) (m1 : Nat), I0 m1 [(.v (.int .i64 n34)), (.v (.int .i64 n35))] h ∧ ∀ (m2 : Nat) (h3 : AH), h.length ≤ h3.length → LowH h3.length h3 → ∀ (n4 : Int) (n5 : Int), I0 m2 [(.v (.int .i64 n4)), (.v (.int .i64 n5))] h3 →
  okInt .i64 (some a1) fun n6 =>
  condB (decide (n5 ≤ n6))
  (callR Tryz.prog G 156 [a0, (.v (.int .i64 n4)), (.v (.int .i64 n5)), a2] h3 (fun v7 h8 =>
  nextR h I0 m2 [some a0, some a1, some a2, some (.v (.int .i64 20))] [some a0, some a1, some a2, some (.v (.int .i64 20))] [(.v (.int .i64 n5)), (.v (.int .i64 (IntKind.wrap .i64 (n5 + 20))))] h8))
  (okInt .i64 (some a1) fun n9 =>
  callR Tryz.prog G 156 [a0, (.v (.int .i64 n4)), (.v (.int .i64 n9)), a2] h3 (fun v10 h11 =>
  Tryz.r115_l7_12 K h G a0 a1 a2 h11 20))
def Tryz.r115 (G : Nat → Option AV) (a0 a1 a2 : AV) (h : AH) (K : AV → AH → Prop) : Prop :=
  Tryz.r115_l2_0 G h K a0 a1 a2 0 20
theorem Tryz.c115 (G : Nat → Option AV) (a0 a1 a2 : AV) (h : AH) (K : AV → AH → Prop) (hk : LowH h.length h → Tryz.r115 G a0 a1 a2 h K) : SCall Tryz.prog G 115 [a0, a1, a2] h K :=
  scall_of_rwp Tryz.tab115 [(2, [(7, (.int .i64)), (8, (.int .i64))], [0, 1, 2, 6]), (7, [(6, (.int .i64))], [0, 1, 2]), (9, [(7, (.int .i64)), (8, (.int .i64))], [0, 1, 2, 6])] Tryz.func115 rfl Tryz.ntmps115 (by kernel_rfl) (by show 3 ≤ 63; decide) (by kernel_rfl) (by kernel_rfl) hk
-- 117 slices.Contains[[]*skylark/table.Table,*skylark/table.Table]
def Tryz.r117 (G : Nat → Option AV) (a0 a1 : AV) (h : AH) (K : AV → AH → Prop) : Prop :=
  callR Tryz.prog G 159 [a0, a1] h (fun v0 h1 =>
  okInt .i64 (some v0) fun n2 =>
  RetR h K (.v (.bool (decide (n2 ≥ 0)))) h1)
theorem Tryz.c117 (G : Nat → Option AV) (a0 a1 : AV) (h : AH) (K : AV → AH → Prop) (hk : LowH h.length h → Tryz.r117 G a0 a1 h K) : SCall Tryz.prog G 117 [a0, a1] h K :=
  scall_of_rwp Tryz.tab117 [] Tryz.func117 rfl Tryz.ntmps117 (by kernel_rfl) (by show 2 ≤ 9; decide) (by kernel_rfl) (by kernel_rfl) hk
-- 118 skylark/layout.rise
def Tryz.r118_l2_1 (K : AV → AH → Prop) (h : AH) (a0 : AV) (n0 : Int) (n39 : Int) : Prop :=
  ∃ (I1 : Nat → List AV → AH → Prop) (m2 : Nat), I1 m2 [(.v (.int .i64 n39))] h ∧ ∀ (m3 : Nat) (h4 : AH), h.length ≤ h4.length → LowH h4.length h4 → ∀ (n5 : Int), I1 m3 [(.v (.int .i64 n5))] h4 →
  condB (decide (n5 < n0))
  (okV (aIA Tryz.prog h4 142 a0 (.v (.int .i64 n5))) fun v6 =>
  okStr (aLoad Tryz.prog h4 9 v6) fun s7 =>
  rGq (ByteArray.toList s7 == ByteArray.toList (ByteArray.mk #[])) false (some (.v (.string s7))) fun b8 v9 =>
  rGq b8 false (aLen Tryz.prog h4 9 v9) fun b10 v11 =>
  rGq b10 false (aBin Tryz.prog .gtr 3 v11 (.v (.int .i64 64))) fun b12 v13 =>
  okBool (pickR (some (.v (.bool b12))) (some (.v (.bool true))) (some v13)) fun b14 =>
  rGq b14 false (some (.v (.int .i64 n5))) fun b15 v16 =>
  rGq b15 false (aBin Tryz.prog .gtr 3 v16 (.v (.int .i64 0))) fun b17 v18 =>
  rGq b17 false (some v18) fun b19 v20 =>
  okG (some v20) true fun b21 g0 =>
  rGq b21 true (some a0) fun b22 v23 =>
  okG (some (g0 b22)) true fun c1 g2 =>
  rGq c1 true (some (.v (.int .i64 n5))) fun b24 v25 =>
  okG (some (g2 b24)) true fun c3 g4 =>
  rGq c3 true (aBin Tryz.prog .sub 3 v25 (.v (.int .i64 1))) fun b26 v27 =>
  okG (some (g4 b26)) true fun c5 g6 =>
  rGq c5 true (aIA Tryz.prog h4 142 v23 v27) fun b28 v29 =>
  okG (some (g6 b28)) true fun c7 g8 =>
  rGq c7 true (aLoad Tryz.prog h4 9 v29) fun b30 v31 =>
  okG (some (g8 b30)) true fun c9 g10 =>
  rGq c9 true (some (.v (.string s7))) fun b32 v33 =>
  okG (some (g10 b32)) true fun c11 g12 =>
  rGq c11 true (aBin Tryz.prog .geq 9 v31 v33) fun b34 v35 =>
  rGq b19 false (pickR (some (g12 b34)) (some v35) (some (.v (.bool false)))) fun b36 v37 =>
  okBool (pickR (some (.v (.bool b36))) (some (.v (.bool true))) (some v37)) fun b38 =>
  condB b38
  (RetR h K (.v (.bool false)) h4)
  (nextR h I1 m3 [some a0, some a0, some (.v (.int .i64 n0))] [some a0, some a0, some (.v (.int .i64 n0))] [(.v (.int .i64 (IntKind.wrap .i64 (n5 + 1))))] h4))
  (RetR h K (.v (.bool true)) h4)
def Tryz.r118 (a0 : AV) (h : AH) (K : AV → AH → Prop) : Prop :=
  okInt .i64 (aLen Tryz.prog h 142 a0) fun n0 =>
  Tryz.r118_l2_1 K h a0 n0 0
theorem Tryz.c118 (G : Nat → Option AV) (a0 : AV) (h : AH) (K : AV → AH → Prop) (hk : LowH h.length h → Tryz.r118 a0 h K) : SCall Tryz.prog G 118 [a0] h K :=
  scall_of_rwp Tryz.tab118 [(2, [(7, (.int .i64))], [0, 5, 6])] Tryz.func118 rfl Tryz.ntmps118 (by kernel_rfl) (by show 1 ≤ 33; decide) (by kernel_rfl) (by kernel_rfl) hk
-- 119 slices.BinarySearch[[]string,string]
def Tryz.r119_l3_1 (K : AV → AH → Prop) (h : AH) (G : Nat → Option AV) (a0 : AV) (a1 : AV) (n0 : Int) (n59 : Int) (n60 : Int) : Prop :=
  ∃ (I1 : Nat → List AV → AH → Prop) (m2 : Nat), I1 m2 [(.v (.int .i64 n59)), (.v (.int .i64 n60))] h ∧ ∀ (m3 : Nat) (h4 : AH), h.length ≤ h4.length → LowH h4.length h4 → ∀ (n5 : Int) (n6 : Int), I1 m3 [(.v (.int .i64 n5)), (.v (.int .i64 n6))] h4 →
  condB (decide (n5 < n6))
  (okInt .u64 (aBin Tryz.prog .shr 171 (.v (.int .u64 (IntKind.wrap .u64 (IntKind.wrap .i64 (n5 + n6))))) (.v (.int .u64 1))) fun n7 =>
  okV (aIA Tryz.prog h4 142 a0 (.v (.int .i64 (IntKind.wrap .i64 n7)))) fun v8 =>
  okStr (aLoad Tryz.prog h4 9 v8) fun s9 =>
  okStr (some a1) fun s10 =>
  callR Tryz.prog G 160 [(.v (.string s9)), (.v (.string s10))] h4 (fun v11 h12 =>
  okBool (some v11) fun b13 =>
  condB b13
  (nextR h I1 m3 [some a0, some a1, some (.v (.int .i64 n0))] [some a0, some a1, some (.v (.int .i64 n0))] [(.v (.int .i64 (IntKind.wrap .i64 ((IntKind.wrap .i64 n7) + 1)))), (.v (.int .i64 n6))] h12)
  (nextR h I1 m3 [some a0, some a1, some (.v (.int .i64 n0))] [some a0, some a1, some (.v (.int .i64 n0))] [(.v (.int .i64 n5)), (.v (.int .i64 (IntKind.wrap .i64 n7)))] h12)))
  (rGq (decide (n5 < n0)) true (some a0) fun b14 v15 =>
  rGq b14 true (some (.v (.int .i64 n5))) fun b16 v17 =>
  rGq b16 true (aIA Tryz.prog h4 142 v15 v17) fun b18 v19 =>
  rGq b18 true (aLoad Tryz.prog h4 9 v19) fun b20 v21 =>
  rGq b20 true (some a1) fun b22 v23 =>
  rGq b22 true (aBin Tryz.prog .eql 9 v21 v23) fun b24 v25 =>
  rGq b24 true (some v25) fun b26 v27 =>
  okG (some v27) false fun b28 g0 =>
  rGq b28 false (some a0) fun b29 v30 =>
  okG (some (g0 b29)) false fun c1 g2 =>
  rGq c1 false (some (.v (.int .i64 n5))) fun b31 v32 =>
  okG (some (g2 b31)) false fun c3 g4 =>
  rGq c3 false (aIA Tryz.prog h4 142 v30 v32) fun b33 v34 =>
  okG (some (g4 b33)) false fun c5 g6 =>
  rGq c5 false (aLoad Tryz.prog h4 9 v34) fun b35 v36 =>
  okG (some (g6 b35)) false fun c7 g8 =>
  rGe c7 false (fun k37 => callR Tryz.prog G 161 [v36] h4 (fun v38 h39 =>
  k37 v38 h39)) h4 fun b40 v41 h42 =>
  okG (some (g8 b40)) false fun c9 g10 =>
  rGq c9 false (some v41) fun b43 v44 =>
  okG (some v44) true fun b45 g11 =>
  rGq b45 true (some a1) fun b46 v47 =>
  okG (some (g11 b46)) true fun c12 g13 =>
  rGe c12 true (fun k48 => callR Tryz.prog G 161 [v47] h42 (fun v49 h50 =>
  k48 v49 h50)) h42 fun b51 v52 h53 =>
  okG (some (g10 b43)) false fun c14 g15 =>
  rGq c14 false (pickR (some (g13 b51)) (some v52) (some (.v (.bool false)))) fun b54 v55 =>
  rGq b26 true (pickR (some (g15 b54)) (some (.v (.bool true))) (some v55)) fun b56 v57 =>
  okBool (pickR (some (.v (.bool b56))) (some v57) (some (.v (.bool false)))) fun b58 =>
  RetR h K (.tup [(.v (.int .i64 n5)), (.v (.bool b58))]) h53)
def Tryz.r119 (G : Nat → Option AV) (a0 a1 : AV) (h : AH) (K : AV → AH → Prop) : Prop :=
  okInt .i64 (aLen Tryz.prog h 142 a0) fun n0 =>
  Tryz.r119_l3_1 K h G a0 a1 n0 0 n0
theorem Tryz.c119 (G : Nat → Option AV) (a0 a1 : AV) (h : AH) (K : AV → AH → Prop) (hk : LowH h.length h → Tryz.r119 G a0 a1 h K) : SCall Tryz.prog G 119 [a0, a1] h K :=
  scall_of_rwp Tryz.tab119 [(3, [(7, (.int .i64)), (8, (.int .i64))], [0, 1, 6])] Tryz.func119 rfl Tryz.ntmps119 (by kernel_rfl) (by show 2 ≤ 54; decide) (by kernel_rfl) (by kernel_rfl) hk
-- 120 skylark/ring.Moved
def Tryz.r120_l8_14 (K : AV → AH → Prop) (h : AH) (G : Nat → Option AV) (a2 : AV) (v2 : AV) (v6 : AV) (h11 : AH) (n13 : Int) (v32 : AV) (n33 : Int) : Prop :=
  ∃ (I14 : Nat → List AV → AH → Prop) (m15 : Nat), I14 m15 [v32, (.v (.int .i64 n33))] h11 ∧ ∀ (m16 : Nat) (h17 : AH), h11.length ≤ h17.length → LowH h17.length h17 → ∀ (v18 : AV) (n19 : Int), I14 m16 [v18, (.v (.int .i64 n19))] h17 →
  condB (decide (n19 < n13))
  (okV (aIA Tryz.prog h17 142 a2 (.v (.int .i64 n19))) fun v20 =>
  okStr (aLoad Tryz.prog h17 9 v20) fun s21 =>
  callR Tryz.prog G 108 [v2, (.v (.string s21))] h17 (fun v22 h23 =>
  okInt .i64 (some v22) fun n24 =>
  callR Tryz.prog G 108 [v6, (.v (.string s21))] h23 (fun v25 h26 =>
  okInt .i64 (some v25) fun n27 =>
  condB (n24 != n27)
  (newO (.cells 3 1 [[(.v (.int .i64 n19))]] 0) h26 fun i28 h29 =>
  appR Tryz.prog h29 31 31 v18 (.sl i28 0 0 1 none) (fun v30 h31 =>
  nextR h11 I14 m16 [some v2, some v6, some a2, some (.v (.int .i64 n13))] [some v2, some v6, some a2, some (.v (.int .i64 n13))] [v30, (.v (.int .i64 (IntKind.wrap .i64 (n19 + 1))))] h31))
  (nextR h11 I14 m16 [some v2, some v6, some a2, some (.v (.int .i64 n13))] [some v2, some v6, some a2, some (.v (.int .i64 n13))] [v18, (.v (.int .i64 (IntKind.wrap .i64 (n19 + 1))))] h26))))
  (RetR h K (.tup [v18, (.v (.int .i64 0))]) h17)
def Tryz.r120 (G : Nat → Option AV) (a0 a1 a2 : AV) (h : AH) (K : AV → AH → Prop) : Prop :=
  callR Tryz.prog G 107 [a0] h (fun v0 h1 =>
  okV (extV 0 v0) fun v2 =>
  okInt .i64 (extV 1 v0) fun n3 =>
  callR Tryz.prog G 107 [a1] h1 (fun v4 h5 =>
  okV (extV 0 v4) fun v6 =>
  okInt .i64 (extV 1 v4) fun n7 =>
  newO (.cells 24 1 [[(.v (.int .i64 n3))], [(.v (.int .i64 n7))]] 0) h5 fun i8 h9 =>
  callR Tryz.prog G 162 [(.sl i8 0 0 2 none)] h9 (fun v10 h11 =>
  okInt .i64 (some v10) fun n12 =>
  condB (n12 != 0)
  (RetR h K (.tup [(.v (.slice none 0 0)), (.v (.int .i64 n12))]) h11)
  (okInt .i64 (aLen Tryz.prog h11 142 a2) fun n13 =>
  Tryz.r120_l8_14 K h G a2 v2 v6 h11 n13 (.v (.slice none 0 0)) 0))))
theorem Tryz.c120 (G : Nat → Option AV) (a0 a1 a2 : AV) (h : AH) (K : AV → AH → Prop) (hk : LowH h.length h → Tryz.r120 G a0 a1 a2 h K) : SCall Tryz.prog G 120 [a0, a1, a2] h K :=
  scall_of_rwp Tryz.tab120 [(8, [(13, .any), (35, (.int .i64))], [8, 10, 33, 34])] Tryz.func120 rfl Tryz.ntmps120 (by kernel_rfl) (by show 3 ≤ 53; decide) (by kernel_rfl) (by kernel_rfl) hk
-- 121 skylark/skylarkref09.MayRow
def Tryz.r121 (G : Nat → Option AV) (a0 : AV) (h : AH) (K : AV → AH → Prop) : Prop :=
  onlyB (AV.one a0) (newO (.cells 131 (AV.cells a0).length [AV.cells a0] 0) h fun i0 h1 =>
  okStr (aLoad Tryz.prog h1 9 (.ptr i0 0 0 0)) fun s2 =>
  callR Tryz.prog G 124 [(.v (.string s2))] h1 (fun v3 h4 =>
  okBool (some v3) fun b5 =>
  rGq b5 true (some (.ptr i0 0 0 1)) fun b6 v7 =>
  rGq b6 true (aLoad Tryz.prog h4 3 v7) fun b8 v9 =>
  rGq b8 true (aBin Tryz.prog .geq 3 v9 (.v (.int .i64 1))) fun b10 v11 =>
  okBool (pickR (some (.v (.bool b10))) (some v11) (some (.v (.bool false)))) fun b12 =>
  rGq b12 true (some (.ptr i0 0 0 1)) fun b13 v14 =>
  rGq b13 true (aLoad Tryz.prog h4 3 v14) fun b15 v16 =>
  rGq b15 true (aBin Tryz.prog .leq 3 v16 (.v (.int .i64 1099511627776))) fun b17 v18 =>
  okBool (pickR (some (.v (.bool b17))) (some v18) (some (.v (.bool false)))) fun b19 =>
  rGq b19 true (some (.ptr i0 0 0 2)) fun b20 v21 =>
  rGq b20 true (aLoad Tryz.prog h4 9 v21) fun b22 v23 =>
  rGq b22 true (aLen Tryz.prog h4 9 v23) fun b24 v25 =>
  rGq b24 true (aBin Tryz.prog .leq 3 v25 (.v (.int .i64 4096))) fun b26 v27 =>
  okBool (pickR (some (.v (.bool b26))) (some v27) (some (.v (.bool false)))) fun b28 =>
  RetR h K (.v (.bool b28)) h4))
theorem Tryz.c121 (G : Nat → Option AV) (a0 : AV) (h : AH) (K : AV → AH → Prop) (hk : LowH h.length h → Tryz.r121 G a0 h K) : SCall Tryz.prog G 121 [a0] h K :=
  scall_of_rwp Tryz.tab121 [] Tryz.func121 rfl Tryz.ntmps121 (by kernel_rfl) (by show 1 ≤ 22; decide) (by kernel_rfl) (by kernel_rfl) hk
-- 122 (*skylark/skylarkref09.Table).Find
def Tryz.r122_l2_0 (K : AV → AH → Prop) (h : AH) (a0 : AV) (a1 : AV) (n99 : Int) : Prop :=
  ∃ (I0 : Nat → List AV → AH → Prop) (m1 : Nat), I0 m1 [(.v (.int .i64 n99))] h ∧ ∀ (m2 : Nat) (h3 : AH), h.length ≤ h3.length → LowH h3.length h3 → ∀ (n4 : Int), I0 m2 [(.v (.int .i64 n4))] h3 →
  okV (aNil a0) fun v5 =>
  okV (aFA Tryz.prog 149 0 v5) fun v6 =>
  okV (aLoad Tryz.prog h3 47 v6) fun v7 =>
  okInt .i64 (aLen Tryz.prog h3 47 v7) fun n8 =>
  rGq (decide (n4 < n8)) true (some a0) fun b9 v10 =>
  rGq b9 true (aNil v10) fun b11 v12 =>
  rGq b11 true (aFA Tryz.prog 149 0 v12) fun b13 v14 =>
  rGq b13 true (aLoad Tryz.prog h3 47 v14) fun b15 v16 =>
  rGq b15 true (some (.v (.int .i64 n4))) fun b17 v18 =>
  rGq b17 true (aIA Tryz.prog h3 47 v16 v18) fun b19 v20 =>
  rGq b19 true (aFA Tryz.prog 131 0 v20) fun b21 v22 =>
  rGq b21 true (aLoad Tryz.prog h3 9 v22) fun b23 v24 =>
  rGq b23 true (some a1) fun b25 v26 =>
  rGq b25 true (aBin Tryz.prog .lss 9 v24 v26) fun b27 v28 =>
  okBool (pickR (some (.v (.bool b27))) (some v28) (some (.v (.bool false)))) fun b29 =>
  condB b29
  (nextR h I0 m2 [some a0, some a1] [some a0, some a1] [(.v (.int .i64 (IntKind.wrap .i64 (n4 + 1))))] h3)
  (okV (aNil a0) fun v30 =>
  okV (aFA Tryz.prog 149 0 v30) fun v31 =>
  okV (aLoad Tryz.prog h3 47 v31) fun v32 =>
  okInt .i64 (aLen Tryz.prog h3 47 v32) fun n33 =>
  rGq (decide (n4 < n33)) true (some a0) fun b34 v35 =>
  rGq b34 true (aNil v35) fun b36 v37 =>
  rGq b36 true (aFA Tryz.prog 149 0 v37) fun b38 v39 =>
  if b38 = true then okV (aLoad Tryz.prog h3 47 v39) fun v40 =>
  rGq true true (some (.v (.int .i64 n4))) fun b41 v42 =>
  if b41 = true then okV (aIA Tryz.prog h3 47 v40 v42) fun v43 =>
  rGq true true (aFA Tryz.prog 131 0 v43) fun b44 v45 =>
  if b44 = true then okV (aLoad Tryz.prog h3 9 v45) fun v46 =>
  rGq true true (some a1) fun b47 v48 =>
  rGq b47 true (aBin Tryz.prog .eql 9 v46 v48) fun b49 v50 =>
  okBool (pickR (some (.v (.bool b49))) (some v50) (some (.v (.bool false)))) fun b51 =>
  (aLoad Tryz.prog h3 9 v45 = some v46) ∧ (aIA Tryz.prog h3 47 v40 v42 = some v43) ∧ (aLoad Tryz.prog h3 47 v39 = some v40) ∧ RetR h K (.tup [(.v (.int .i64 n4)), (.v (.bool b51))]) h3
  else rGq false true (some a1) fun b52 v53 =>
  rGq b52 true (aBin Tryz.prog .eql 9 (.tup []) v53) fun b54 v55 =>
  okBool (pickR (some (.v (.bool b54))) (some v55) (some (.v (.bool false)))) fun b56 =>
  (aIA Tryz.prog h3 47 v40 v42 = some v43) ∧ (aLoad Tryz.prog h3 47 v39 = some v40) ∧ RetR h K (.tup [(.v (.int .i64 n4)), (.v (.bool b56))]) h3
  else rGq false true (aFA Tryz.prog 131 0 (.tup [])) fun b57 v58 =>
  if b57 = true then okV (aLoad Tryz.prog h3 9 v58) fun v59 =>
  rGq true true (some a1) fun b60 v61 =>
  rGq b60 true (aBin Tryz.prog .eql 9 v59 v61) fun b62 v63 =>
  okBool (pickR (some (.v (.bool b62))) (some v63) (some (.v (.bool false)))) fun b64 =>
  (aLoad Tryz.prog h3 9 v58 = some v59) ∧ (aLoad Tryz.prog h3 47 v39 = some v40) ∧ RetR h K (.tup [(.v (.int .i64 n4)), (.v (.bool b64))]) h3
  else rGq false true (some a1) fun b65 v66 =>
  rGq b65 true (aBin Tryz.prog .eql 9 (.tup []) v66) fun b67 v68 =>
  okBool (pickR (some (.v (.bool b67))) (some v68) (some (.v (.bool false)))) fun b69 =>
  (aLoad Tryz.prog h3 47 v39 = some v40) ∧ RetR h K (.tup [(.v (.int .i64 n4)), (.v (.bool b69))]) h3
  else rGq false true (some (.v (.int .i64 n4))) fun b70 v71 =>
  if b70 = true then okV (aIA Tryz.prog h3 47 (.tup []) v71) fun v72 =>
  rGq true true (aFA Tryz.prog 131 0 v72) fun b73 v74 =>
  if b73 = true then okV (aLoad Tryz.prog h3 9 v74) fun v75 =>
  rGq true true (some a1) fun b76 v77 =>
  rGq b76 true (aBin Tryz.prog .eql 9 v75 v77) fun b78 v79 =>
  okBool (pickR (some (.v (.bool b78))) (some v79) (some (.v (.bool false)))) fun b80 =>
  (aLoad Tryz.prog h3 9 v74 = some v75) ∧ (aIA Tryz.prog h3 47 (.tup []) v71 = some v72) ∧ RetR h K (.tup [(.v (.int .i64 n4)), (.v (.bool b80))]) h3
  else rGq false true (some a1) fun b81 v82 =>
  rGq b81 true (aBin Tryz.prog .eql 9 (.tup []) v82) fun b83 v84 =>
  okBool (pickR (some (.v (.bool b83))) (some v84) (some (.v (.bool false)))) fun b85 =>
  (aIA Tryz.prog h3 47 (.tup []) v71 = some v72) ∧ RetR h K (.tup [(.v (.int .i64 n4)), (.v (.bool b85))]) h3
  else rGq false true (aFA Tryz.prog 131 0 (.tup [])) fun b86 v87 =>
  if b86 = true then okV (aLoad Tryz.prog h3 9 v87) fun v88 =>
  rGq true true (some a1) fun b89 v90 =>
  rGq b89 true (aBin Tryz.prog .eql 9 v88 v90) fun b91 v92 =>
  okBool (pickR (some (.v (.bool b91))) (some v92) (some (.v (.bool false)))) fun b93 =>
  (aLoad Tryz.prog h3 9 v87 = some v88) ∧ RetR h K (.tup [(.v (.int .i64 n4)), (.v (.bool b93))]) h3
  else rGq false true (some a1) fun b94 v95 =>
  rGq b94 true (aBin Tryz.prog .eql 9 (.tup []) v95) fun b96 v97 =>
  okBool (pickR (some (.v (.bool b96))) (some v97) (some (.v (.bool false)))) fun b98 =>
  RetR h K (.tup [(.v (.int .i64 n4)), (.v (.bool b98))]) h3)
def Tryz.r122 (a0 a1 : AV) (h : AH) (K : AV → AH → Prop) : Prop :=
  Tryz.r122_l2_0 K h a0 a1 0
theorem Tryz.c122 (G : Nat → Option AV) (a0 a1 : AV) (h : AH) (K : AV → AH → Prop) (hk : LowH h.length h → Tryz.r122 a0 a1 h K) : SCall Tryz.prog G 122 [a0, a1] h K :=
  scall_of_rwp Tryz.tab122 [(2, [(6, (.int .i64))], [0, 1])] Tryz.func122 rfl Tryz.ntmps122 (by kernel_rfl) (by show 2 ≤ 48; decide) (by kernel_rfl) (by kernel_rfl) hk
-- 123 (*skylark/skylarkref09.Table).put
def Tryz.r123_j21 (K : AV → AH → Prop) (h : AH) (a0 : AV) (v17 : AV) (n19 : Int) (h20 : AH) : Prop :=
  okV (aNil a0) fun v21 =>
  okV (aFA Tryz.prog 149 0 v21) fun v22 =>
  okV (aLoad Tryz.prog h20 47 v22) fun v23 =>
  okV (aSlice Tryz.prog h20 47 v23 (some (some (.v (.int .i64 n19)))) none none) fun v24 =>
  appR Tryz.prog h20 47 47 v17 v24 (fun v25 h26 =>
  okV (aNil a0) fun v27 =>
  okV (aFA Tryz.prog 149 0 v27) fun v28 =>
  storeR Tryz.prog h26 (fun v29 h30 =>
  RetR h K (.tup []) h30) 47 v25 v28)
def Tryz.r123 (G : Nat → Option AV) (a0 a1 : AV) (h : AH) (K : AV → AH → Prop) : Prop :=
  onlyB (AV.one a1) (newO (.cells 131 (AV.cells a1).length [AV.cells a1] 0) h fun i0 h1 =>
  okStr (aLoad Tryz.prog h1 9 (.ptr i0 0 0 0)) fun s2 =>
  callR Tryz.prog G 122 [a0, (.v (.string s2))] h1 (fun v3 h4 =>
  okInt .i64 (extV 0 v3) fun n5 =>
  okBool (extV 1 v3) fun b6 =>
  okV (aNil a0) fun v7 =>
  okV (aFA Tryz.prog 149 0 v7) fun v8 =>
  okV (aLoad Tryz.prog h4 47 v8) fun v9 =>
  okV (aSlice Tryz.prog h4 47 v9 none (some (some (.v (.int .i64 n5)))) none) fun v10 =>
  appR Tryz.prog h4 47 47 (.v (.slice none 0 0)) v10 (fun v11 h12 =>
  okV (aLoad Tryz.prog h12 131 (.ptr i0 0 0 0)) fun v13 =>
  okP (rowsFill 3 (List.replicate 1 [(.v (.string (ByteArray.mk #[]))), (.v (.int .i64 0)), (.v (.string (ByteArray.mk #[])))]) [(0, some v13)]) fun r14 => newO (.cells 131 3 r14 0) h12 fun i15 h16 =>
  appR Tryz.prog h16 47 47 v11 (.sl i15 0 0 1 none) (fun v17 h18 =>
  condB b6
  (Tryz.r123_j21 K h a0 v17 (IntKind.wrap .i64 (n5 + 1)) h18)
  (Tryz.r123_j21 K h a0 v17 n5 h18)))))
theorem Tryz.c123 (G : Nat → Option AV) (a0 a1 : AV) (h : AH) (K : AV → AH → Prop) (hk : LowH h.length h → Tryz.r123 G a0 a1 h K) : SCall Tryz.prog G 123 [a0, a1] h K :=
  scall_of_rwp Tryz.tab123 [] Tryz.func123 rfl Tryz.ntmps123 (by kernel_rfl) (by show 2 ≤ 40; decide) (by kernel_rfl) (by kernel_rfl) hk
-- 124 skylark/skylarkref07.Key
def Tryz.r124 (a0 : AV) (h : AH) (K : AV → AH → Prop) : Prop :=
  okStr (some a0) fun s0 =>
  rGq (!(ByteArray.toList s0 == ByteArray.toList (ByteArray.mk #[]))) true (some a0) fun b1 v2 =>
  rGq b1 true (aLen Tryz.prog h 9 v2) fun b3 v4 =>
  rGq b3 true (aBin Tryz.prog .leq 3 v4 (.v (.int .i64 64))) fun b5 v6 =>
  okBool (pickR (some (.v (.bool b5))) (some v6) (some (.v (.bool false)))) fun b7 =>
  RetR h K (.v (.bool b7)) h
theorem Tryz.c124 (G : Nat → Option AV) (a0 : AV) (h : AH) (K : AV → AH → Prop) (hk : LowH h.length h → Tryz.r124 a0 h K) : SCall Tryz.prog G 124 [a0] h K :=
  scall_of_rwp Tryz.tab124 [] Tryz.func124 rfl Tryz.ntmps124 (by kernel_rfl) (by show 1 ≤ 10; decide) (by kernel_rfl) (by kernel_rfl) hk
-- 125 skylark/op.key
def Tryz.r129_l2_1 (K : AV → AH → Prop) (h : AH) (G : Nat → Option AV) (a0 : AV) (a1 : AV) (n0 : Int) (n11 : Int) : Prop :=
  ∃ (I1 : Nat → List AV → AH → Prop) (m2 : Nat), I1 m2 [(.v (.int .i64 n11))] h ∧ ∀ (m3 : Nat) (h4 : AH), h.length ≤ h4.length → LowH h4.length h4 → ∀ (n5 : Int), I1 m3 [(.v (.int .i64 n5))] h4 →
  condB (decide (n5 < n0))
  (okV (aIA Tryz.prog h4 47 a0 (.v (.int .i64 n5))) fun v6 =>
  okV (aLoad Tryz.prog h4 131 v6) fun v7 =>
  callU Tryz.prog G h4 (fun v8 h9 =>
  okBool (some v8) fun b10 =>
  condB b10
  (RetR h K (.v (.int .i64 n5)) h9)
  (nextR h I1 m3 [some a0, some a1, some (.v (.int .i64 n0))] [some a0, some a1, some (.v (.int .i64 n0))] [(.v (.int .i64 (IntKind.wrap .i64 (n5 + 1))))] h9)) [v7] a1)
  (RetR h K (.v (.int .i64 (-1))) h4)
def Tryz.r129 (G : Nat → Option AV) (a0 a1 : AV) (h : AH) (K : AV → AH → Prop) : Prop :=
  okInt .i64 (aLen Tryz.prog h 47 a0) fun n0 =>
  Tryz.r129_l2_1 K h G a0 a1 n0 0
theorem Tryz.c129 (G : Nat → Option AV) (a0 a1 : AV) (h : AH) (K : AV → AH → Prop) (hk : LowH h.length h → Tryz.r129 G a0 a1 h K) : SCall Tryz.prog G 129 [a0, a1] h K :=
  scall_of_rwp Tryz.tab129 [(2, [(8, (.int .i64))], [0, 1, 7])] Tryz.func129 rfl Tryz.ntmps129 (by kernel_rfl) (by show 2 ≤ 19; decide) (by kernel_rfl) (by kernel_rfl) hk
-- 130 slices.BinarySearchFunc[[]skylark/api.Row,skylark/api.Row,string]
def Tryz.r130_l3_1 (K : AV → AH → Prop) (h : AH) (G : Nat → Option AV) (a0 : AV) (a1 : AV) (a2 : AV) (n0 : Int) (n35 : Int) (n36 : Int) : Prop :=
  ∃ (I1 : Nat → List AV → AH → Prop) (m2 : Nat), I1 m2 [(.v (.int .i64 n35)), (.v (.int .i64 n36))] h ∧ ∀ (m3 : Nat) (h4 : AH), h.length ≤ h4.length → LowH h4.length h4 → ∀ (n5 : Int) (n6 : Int), I1 m3 [(.v (.int .i64 n5)), (.v (.int .i64 n6))] h4 →
  condB (decide (n5 < n6))
  (okInt .u64 (aBin Tryz.prog .shr 171 (.v (.int .u64 (IntKind.wrap .u64 (IntKind.wrap .i64 (n5 + n6))))) (.v (.int .u64 1))) fun n7 =>
  okV (aIA Tryz.prog h4 47 a0 (.v (.int .i64 (IntKind.wrap .i64 n7)))) fun v8 =>
  okV (aLoad Tryz.prog h4 131 v8) fun v9 =>
  okStr (some a1) fun s10 =>
  callU Tryz.prog G h4 (fun v11 h12 =>
  okInt .i64 (some v11) fun n13 =>
  condB (decide (n13 < 0))
  (nextR h I1 m3 [some a0, some a1, some a2, some (.v (.int .i64 n0))] [some a0, some a1, some a2, some (.v (.int .i64 n0))] [(.v (.int .i64 (IntKind.wrap .i64 ((IntKind.wrap .i64 n7) + 1)))), (.v (.int .i64 n6))] h12)
  (nextR h I1 m3 [some a0, some a1, some a2, some (.v (.int .i64 n0))] [some a0, some a1, some a2, some (.v (.int .i64 n0))] [(.v (.int .i64 n5)), (.v (.int .i64 (IntKind.wrap .i64 n7)))] h12)) [v9, (.v (.string s10))] a2)
  (rGq (decide (n5 < n0)) true (some a2) fun b14 v15 =>
  rGq b14 true (some a0) fun b16 v17 =>
  rGq b16 true (some (.v (.int .i64 n5))) fun b18 v19 =>
  rGq b18 true (aIA Tryz.prog h4 47 v17 v19) fun b20 v21 =>
  rGq b20 true (aLoad Tryz.prog h4 131 v21) fun b22 v23 =>
  rGq b22 true (some a1) fun b24 v25 =>
  rGe b24 true (fun k26 => callU Tryz.prog G h4 (fun v27 h28 =>
  k26 v27 h28) [v23, v25] v15) h4 fun b29 v30 h31 =>
  rGq b29 true (aBin Tryz.prog .eql 3 v30 (.v (.int .i64 0))) fun b32 v33 =>
  okBool (pickR (some (.v (.bool b32))) (some v33) (some (.v (.bool false)))) fun b34 =>
  RetR h K (.tup [(.v (.int .i64 n5)), (.v (.bool b34))]) h31)
def Tryz.r130 (G : Nat → Option AV) (a0 a1 a2 : AV) (h : AH) (K : AV → AH → Prop) : Prop :=
  okInt .i64 (aLen Tryz.prog h 47 a0) fun n0 =>
  Tryz.r130_l3_1 K h G a0 a1 a2 n0 0 n0
theorem Tryz.c130 (G : Nat → Option AV) (a0 a1 a2 : AV) (h : AH) (K : AV → AH → Prop) (hk : LowH h.length h → Tryz.r130 G a0 a1 a2 h K) : SCall Tryz.prog G 130 [a0, a1, a2] h K :=
  scall_of_rwp Tryz.tab130 [(3, [(9, (.int .i64)), (10, (.int .i64))], [0, 1, 2, 8])] Tryz.func130 rfl Tryz.ntmps130 (by kernel_rfl) (by show 3 ≤ 49; decide) (by kernel_rfl) (by kernel_rfl) hk
-- 131 (*skylark/table.Table).at$1
def Tryz.r131 (G : Nat → Option AV) (a0 a1 : AV) (h : AH) (K : AV → AH → Prop) : Prop :=
  onlyB (AV.one a0) (newO (.cells 131 (AV.cells a0).length [AV.cells a0] 0) h fun i0 h1 =>
  okStr (aLoad Tryz.prog h1 9 (.ptr i0 0 0 0)) fun s2 =>
  okStr (some a1) fun s3 =>
  callR Tryz.prog G 66 [(.v (.string s2)), (.v (.string s3))] h1 (fun v4 h5 =>
  okInt .i64 (some v4) fun n6 =>
  RetR h K (.v (.int .i64 n6)) h5))
theorem Tryz.c131 (G : Nat → Option AV) (a0 a1 : AV) (h : AH) (K : AV → AH → Prop) (hk : LowH h.length h → Tryz.r131 G a0 a1 h K) : SCall Tryz.prog G 131 [a0, a1] h K :=
  scall_of_rwp Tryz.tab131 [] Tryz.func131 rfl Tryz.ntmps131 (by kernel_rfl) (by show 2 ≤ 9; decide) (by kernel_rfl) (by kernel_rfl) hk
-- 132 (*skylark/table.Table).write
def Tryz.r134 (a0 a1 a2 a3 : AV) (h : AH) (K : AV → AH → Prop) : Prop :=
  okV (aNil a0) fun v0 =>
  okV (aFA Tryz.prog 160 0 v0) fun v1 =>
  okV (aLoad Tryz.prog h 47 v1) fun v2 =>
  okInt .i64 (some a1) fun n3 =>
  okInt .i64 (some a1) fun n4 =>
  okV (aSlice Tryz.prog h 47 v2 none (some (some (.v (.int .i64 n3)))) (some (some (.v (.int .i64 n4))))) fun v5 =>
  okV (aNil a0) fun v6 =>
  okV (aFA Tryz.prog 160 0 v6) fun v7 =>
  okV (aLoad Tryz.prog h 47 v7) fun v8 =>
  okInt .i64 (some a2) fun n9 =>
  okV (aSlice Tryz.prog h 47 v8 (some (some (.v (.int .i64 n9)))) none none) fun v10 =>
  appR Tryz.prog h 47 47 v5 a3 (fun v11 h12 =>
  (aSlice Tryz.prog h12 47 v8 (some (some (.v (.int .i64 n9)))) none none = some v10) ∧ (aLoad Tryz.prog h12 47 v7 = some v8) ∧ appR Tryz.prog h12 47 47 v11 v10 (fun v13 h14 =>
  okV (aNil a0) fun v15 =>
  okV (aFA Tryz.prog 160 0 v15) fun v16 =>
  storeR Tryz.prog h14 (fun v17 h18 =>
  RetR h K (.tup []) h18) 47 v13 v16))
theorem Tryz.c134 (G : Nat → Option AV) (a0 a1 a2 a3 : AV) (h : AH) (K : AV → AH → Prop) (hk : LowH h.length h → Tryz.r134 a0 a1 a2 a3 h K) : SCall Tryz.prog G 134 [a0, a1, a2, a3] h K :=
  scall_of_rwp Tryz.tab134 [] Tryz.func134 rfl Tryz.ntmps134 (by kernel_rfl) (by show 4 ≤ 27; decide) (by kernel_rfl) (by kernel_rfl) hk
-- 141 slices.ContainsFunc[[]int,int]
def Tryz.r146 (G : Nat → Option AV) (a0 : AV) (h : AH) (K : AV → AH → Prop) : Prop :=
  okInt .i64 (aLen Tryz.prog h 31 a0) fun n0 =>
  rGq (decide (n0 < 1)) false (some a0) fun b1 v2 =>
  rGq b1 false (aLen Tryz.prog h 31 v2) fun b3 v4 =>
  rGq b3 false (aBin Tryz.prog .gtr 3 v4 (.v (.int .i64 8))) fun b5 v6 =>
  okBool (pickR (some (.v (.bool b5))) (some (.v (.bool true))) (some v6)) fun b7 =>
  rGq b7 false (some a0) fun b8 v9 =>
  rGe b8 false (fun k10 => callR Tryz.prog G 167 [v9] h (fun v11 h12 =>
  k10 v11 h12)) h fun b13 v14 h15 =>
  rGq b13 false (aBin Tryz.prog .lss 3 v14 (.v (.int .i64 0))) fun b16 v17 =>
  okBool (pickR (some (.v (.bool b16))) (some (.v (.bool true))) (some v17)) fun b18 =>
  rGq b18 false (some a0) fun b19 v20 =>
  rGe b19 false (fun k21 => callR Tryz.prog G 70 [v20] h15 (fun v22 h23 =>
  k21 v22 h23)) h15 fun b24 v25 h26 =>
  rGq b24 false (aBin Tryz.prog .gtr 3 v25 (.v (.int .i64 128))) fun b27 v28 =>
  okBool (pickR (some (.v (.bool b27))) (some (.v (.bool true))) (some v28)) fun b29 =>
  rGq b29 false (some a0) fun b30 v31 =>
  rGe b30 false (fun k32 => callR Tryz.prog G 70 [v31] h26 (fun v33 h34 =>
  k32 v33 h34)) h26 fun b35 v36 h37 =>
  rGq b35 false (aBin Tryz.prog .eql 3 v36 (.v (.int .i64 0))) fun b38 v39 =>
  okBool (pickR (some (.v (.bool b38))) (some (.v (.bool true))) (some v39)) fun b40 =>
  condB b40
  (RetR h K (.v (.int .i64 1)) h37)
  (RetR h K (.v (.int .i64 0)) h37)
theorem Tryz.c146 (G : Nat → Option AV) (a0 : AV) (h : AH) (K : AV → AH → Prop) (hk : LowH h.length h → Tryz.r146 G a0 h K) : SCall Tryz.prog G 146 [a0] h K :=
  scall_of_rwp Tryz.tab146 [] Tryz.func146 rfl Tryz.ntmps146 (by kernel_rfl) (by show 1 ≤ 26; decide) (by kernel_rfl) (by kernel_rfl) hk
-- 147 skylark/ring.Hash
def Tryz.r147_l3_1 (K : AV → AH → Prop) (h : AH) (a0 : AV) (s0 : ByteArray) (n14 : Int) (n15 : Int) : Prop :=
  ∃ (I1 : Nat → List AV → AH → Prop) (m2 : Nat), I1 m2 [(.v (.int .u64 n14)), (.v (.int .i64 n15))] h ∧ ∀ (m3 : Nat) (h4 : AH), h.length ≤ h4.length → LowH h4.length h4 → ∀ (n5 : Int) (n6 : Int), I1 m3 [(.v (.int .u64 n5)), (.v (.int .i64 n6))] h4 →
  condB (decide (n6 < ((ByteArray.size s0 : Nat) : Int)))
  (okStr (some a0) fun s7 =>
  okInt .u8 (aIndex Tryz.prog 9 (.v (.string s7)) (.v (.int .i64 n6))) fun n8 =>
  okInt .u64 (aBin Tryz.prog .xor 60 (.v (.int .u64 n5)) (.v (.int .u64 (IntKind.wrap .u64 n8)))) fun n9 =>
  nextR h I1 m3 [some a0, some (.v (.int .i64 ((ByteArray.size s0 : Nat) : Int)))] [some a0, some (.v (.int .i64 ((ByteArray.size s0 : Nat) : Int)))] [(.v (.int .u64 (IntKind.wrap .u64 (n9 * 1099511628211)))), (.v (.int .i64 (IntKind.wrap .i64 (n6 + 1))))] h4)
  (okInt .u64 (aBin Tryz.prog .shr 60 (.v (.int .u64 n5)) (.v (.int .u64 33))) fun n10 =>
  okInt .u64 (aBin Tryz.prog .xor 60 (.v (.int .u64 n5)) (.v (.int .u64 n10))) fun n11 =>
  okInt .u64 (aBin Tryz.prog .shr 60 (.v (.int .u64 (IntKind.wrap .u64 (n11 * 18397679294719823053)))) (.v (.int .u64 33))) fun n12 =>
  okInt .u64 (aBin Tryz.prog .xor 60 (.v (.int .u64 (IntKind.wrap .u64 (n11 * 18397679294719823053)))) (.v (.int .u64 n12))) fun n13 =>
  RetR h K (.v (.int .u64 n13)) h4)
def Tryz.r147 (a0 : AV) (h : AH) (K : AV → AH → Prop) : Prop :=
  okStr (some a0) fun s0 =>
  Tryz.r147_l3_1 K h a0 s0 14695981039346656037 0
theorem Tryz.c147 (G : Nat → Option AV) (a0 : AV) (h : AH) (K : AV → AH → Prop) (hk : LowH h.length h → Tryz.r147 a0 h K) : SCall Tryz.prog G 147 [a0] h K :=
  scall_of_rwp Tryz.tab147 [(3, [(3, (.int .u64)), (7, (.int .i64))], [0, 6])] Tryz.func147 rfl Tryz.ntmps147 (by kernel_rfl) (by show 1 ≤ 27; decide) (by kernel_rfl) (by kernel_rfl) hk
-- 149 (skylark/ring.ring).sort
def Tryz.r149 (G : Nat → Option AV) (a0 a1 : AV) (h : AH) (K : AV → AH → Prop) : Prop :=
  callR Tryz.prog G 169 [a0, a1] h (fun v0 h1 =>
  RetR h K (.tup []) h1)
theorem Tryz.c149 (G : Nat → Option AV) (a0 a1 : AV) (h : AH) (K : AV → AH → Prop) (hk : LowH h.length h → Tryz.r149 G a0 a1 h K) : SCall Tryz.prog G 149 [a0, a1] h K :=
  scall_of_rwp Tryz.tab149 [] Tryz.func149 rfl Tryz.ntmps149 (by kernel_rfl) (by show 2 ≤ 7; decide) (by kernel_rfl) (by kernel_rfl) hk
-- 150 (skylark/ring.point).compare
def Tryz.r150 (G : Nat → Option AV) (a0 a1 : AV) (h : AH) (K : AV → AH → Prop) : Prop :=
  onlyB (AV.one a0) (newO (.cells 220 (AV.cells a0).length [AV.cells a0] 0) h fun i0 h1 =>
  onlyB (AV.one a1) (newO (.cells 220 (AV.cells a1).length [AV.cells a1] 0) h1 fun i2 h3 =>
  okInt .u64 (aLoad Tryz.prog h3 60 (.ptr i0 0 0 0)) fun n4 =>
  okInt .u64 (aLoad Tryz.prog h3 60 (.ptr i2 0 0 0)) fun n5 =>
  okInt .i64 (aLoad Tryz.prog h3 3 (.ptr i0 0 0 1)) fun n6 =>
  okInt .i64 (aLoad Tryz.prog h3 3 (.ptr i2 0 0 1)) fun n7 =>
  okInt .i64 (aLoad Tryz.prog h3 3 (.ptr i0 0 0 2)) fun n8 =>
  okInt .i64 (aLoad Tryz.prog h3 3 (.ptr i2 0 0 2)) fun n9 =>
  callR Tryz.prog G 153 [(.v (.int .u64 n4)), (.v (.int .u64 n5))] h3 (fun v10 h11 =>
  okInt .i64 (some v10) fun n12 =>
  (aLoad Tryz.prog h11 3 (.ptr i2 0 0 2) = some (.v (.int .i64 n9))) ∧ (aLoad Tryz.prog h11 3 (.ptr i0 0 0 2) = some (.v (.int .i64 n8))) ∧ (aLoad Tryz.prog h11 3 (.ptr i2 0 0 1) = some (.v (.int .i64 n7))) ∧ (aLoad Tryz.prog h11 3 (.ptr i0 0 0 1) = some (.v (.int .i64 n6))) ∧ callR Tryz.prog G 170 [(.v (.int .i64 n6)), (.v (.int .i64 n7))] h11 (fun v13 h14 =>
  okInt .i64 (some v13) fun n15 =>
  (aLoad Tryz.prog h14 3 (.ptr i2 0 0 2) = some (.v (.int .i64 n9))) ∧ (aLoad Tryz.prog h14 3 (.ptr i0 0 0 2) = some (.v (.int .i64 n8))) ∧ callR Tryz.prog G 170 [(.v (.int .i64 n8)), (.v (.int .i64 n9))] h14 (fun v16 h17 =>
  okInt .i64 (some v16) fun n18 =>
  newO (.cells 3 1 [[(.v (.int .i64 n12))], [(.v (.int .i64 n15))], [(.v (.int .i64 n18))]] 0) h17 fun i19 h20 =>
  callR Tryz.prog G 88 [(.sl i19 0 0 3 none)] h20 (fun v21 h22 =>
  okInt .i64 (some v21) fun n23 =>
  RetR h K (.v (.int .i64 n23)) h22))))))
theorem Tryz.c150 (G : Nat → Option AV) (a0 a1 : AV) (h : AH) (K : AV → AH → Prop) (hk : LowH h.length h → Tryz.r150 G a0 a1 h K) : SCall Tryz.prog G 150 [a0, a1] h K :=
  scall_of_rwp Tryz.tab150 [] Tryz.func150 rfl Tryz.ntmps150 (by kernel_rfl) (by show 2 ≤ 22; decide) (by kernel_rfl) (by kernel_rfl) hk
-- 151 slices.BinarySearchFunc[skylark/ring.ring,skylark/ring.point,uint64]
def Tryz.r151_l3_1 (K : AV → AH → Prop) (h : AH) (G : Nat → Option AV) (a0 : AV) (a1 : AV) (a2 : AV) (n0 : Int) (n35 : Int) (n36 : Int) : Prop :=
  ∃ (I1 : Nat → List AV → AH → Prop) (m2 : Nat), I1 m2 [(.v (.int .i64 n35)), (.v (.int .i64 n36))] h ∧ ∀ (m3 : Nat) (h4 : AH), h.length ≤ h4.length → LowH h4.length h4 → ∀ (n5 : Int) (n6 : Int), I1 m3 [(.v (.int .i64 n5)), (.v (.int .i64 n6))] h4 →
  condB (decide (n5 < n6))
  (okInt .u64 (aBin Tryz.prog .shr 171 (.v (.int .u64 (IntKind.wrap .u64 (IntKind.wrap .i64 (n5 + n6))))) (.v (.int .u64 1))) fun n7 =>
  okV (aIA Tryz.prog h4 182 a0 (.v (.int .i64 (IntKind.wrap .i64 n7)))) fun v8 =>
  okV (aLoad Tryz.prog h4 220 v8) fun v9 =>
  okInt .u64 (some a1) fun n10 =>
  callU Tryz.prog G h4 (fun v11 h12 =>
  okInt .i64 (some v11) fun n13 =>
  condB (decide (n13 < 0))
  (nextR h I1 m3 [some a0, some a1, some a2, some (.v (.int .i64 n0))] [some a0, some a1, some a2, some (.v (.int .i64 n0))] [(.v (.int .i64 (IntKind.wrap .i64 ((IntKind.wrap .i64 n7) + 1)))), (.v (.int .i64 n6))] h12)
  (nextR h I1 m3 [some a0, some a1, some a2, some (.v (.int .i64 n0))] [some a0, some a1, some a2, some (.v (.int .i64 n0))] [(.v (.int .i64 n5)), (.v (.int .i64 (IntKind.wrap .i64 n7)))] h12)) [v9, (.v (.int .u64 n10))] a2)
  (rGq (decide (n5 < n0)) true (some a2) fun b14 v15 =>
  rGq b14 true (some a0) fun b16 v17 =>
  rGq b16 true (some (.v (.int .i64 n5))) fun b18 v19 =>
  rGq b18 true (aIA Tryz.prog h4 182 v17 v19) fun b20 v21 =>
  rGq b20 true (aLoad Tryz.prog h4 220 v21) fun b22 v23 =>
  rGq b22 true (some a1) fun b24 v25 =>
  rGe b24 true (fun k26 => callU Tryz.prog G h4 (fun v27 h28 =>
  k26 v27 h28) [v23, v25] v15) h4 fun b29 v30 h31 =>
  rGq b29 true (aBin Tryz.prog .eql 3 v30 (.v (.int .i64 0))) fun b32 v33 =>
  okBool (pickR (some (.v (.bool b32))) (some v33) (some (.v (.bool false)))) fun b34 =>
  RetR h K (.tup [(.v (.int .i64 n5)), (.v (.bool b34))]) h31)
def Tryz.r151 (G : Nat → Option AV) (a0 a1 a2 : AV) (h : AH) (K : AV → AH → Prop) : Prop :=
  okInt .i64 (aLen Tryz.prog h 182 a0) fun n0 =>
  Tryz.r151_l3_1 K h G a0 a1 a2 n0 0 n0
theorem Tryz.c151 (G : Nat → Option AV) (a0 a1 a2 : AV) (h : AH) (K : AV → AH → Prop) (hk : LowH h.length h → Tryz.r151 G a0 a1 a2 h K) : SCall Tryz.prog G 151 [a0, a1, a2] h K :=
  scall_of_rwp Tryz.tab151 [(3, [(9, (.int .i64)), (10, (.int .i64))], [0, 1, 2, 8])] Tryz.func151 rfl Tryz.ntmps151 (by kernel_rfl) (by show 3 ≤ 49; decide) (by kernel_rfl) (by kernel_rfl) hk
-- 152 (skylark/ring.ring).of$1
def Tryz.r152 (G : Nat → Option AV) (a0 a1 : AV) (h : AH) (K : AV → AH → Prop) : Prop :=
  onlyB (AV.one a0) (newO (.cells 220 (AV.cells a0).length [AV.cells a0] 0) h fun i0 h1 =>
  okInt .u64 (aLoad Tryz.prog h1 60 (.ptr i0 0 0 0)) fun n2 =>
  okInt .u64 (some a1) fun n3 =>
  callR Tryz.prog G 153 [(.v (.int .u64 n2)), (.v (.int .u64 n3))] h1 (fun v4 h5 =>
  okInt .i64 (some v4) fun n6 =>
  RetR h K (.v (.int .i64 n6)) h5))
theorem Tryz.c152 (G : Nat → Option AV) (a0 a1 : AV) (h : AH) (K : AV → AH → Prop) (hk : LowH h.length h → Tryz.r152 G a0 a1 h K) : SCall Tryz.prog G 152 [a0, a1] h K :=
  scall_of_rwp Tryz.tab152 [] Tryz.func152 rfl Tryz.ntmps152 (by kernel_rfl) (by show 2 ≤ 9; decide) (by kernel_rfl) (by kernel_rfl) hk
-- 153 cmp.Compare[uint64]
def Tryz.r153 (G : Nat → Option AV) (a0 a1 : AV) (h : AH) (K : AV → AH → Prop) : Prop :=
  okInt .u64 (some a0) fun n0 =>
  callR Tryz.prog G 171 [(.v (.int .u64 n0))] h (fun v1 h2 =>
  okBool (some v1) fun b3 =>
  okInt .u64 (some a1) fun n4 =>
  callR Tryz.prog G 171 [(.v (.int .u64 n4))] h2 (fun v5 h6 =>
  okBool (some v5) fun b7 =>
  condB b3
  (condB b7
  (RetR h K (.v (.int .i64 0)) h6)
  (RetR h K (.v (.int .i64 (-1))) h6))
  (condB b7
  (RetR h K (.v (.int .i64 1)) h6)
  (okInt .u64 (some a0) fun n8 =>
  okInt .u64 (some a1) fun n9 =>
  condB (decide (n8 < n9))
  (RetR h K (.v (.int .i64 (-1))) h6)
  (okInt .u64 (some a0) fun n10 =>
  okInt .u64 (some a1) fun n11 =>
  condB (decide (n10 > n11))
  (RetR h K (.v (.int .i64 1)) h6)
  (RetR h K (.v (.int .i64 0)) h6))))))
theorem Tryz.c153 (G : Nat → Option AV) (a0 a1 : AV) (h : AH) (K : AV → AH → Prop) (hk : LowH h.length h → Tryz.r153 G a0 a1 h K) : SCall Tryz.prog G 153 [a0, a1] h K :=
  scall_of_rwp Tryz.tab153 [] Tryz.func153 rfl Tryz.ntmps153 (by kernel_rfl) (by show 2 ≤ 20; decide) (by kernel_rfl) (by kernel_rfl) hk
-- 154 skylark/skylarkref06.Hash
def Tryz.r156_l4_7 (h : AH) (G : Nat → Option AV) (a0 : AV) (a1 : AV) (a2 : AV) (a3 : AV) (I1 : Nat → List AV → AH → Prop) (m3 : Nat) (h4 : AH) (n5 : Int) (n52 : Int) : Prop :=
  ∃ (I7 : Nat → List AV → AH → Prop) (m8 : Nat), I7 m8 [(.v (.int .i64 n52))] h4 ∧ ∀ (m9 : Nat) (h10 : AH), h4.length ≤ h10.length → LowH h10.length h10 → ∀ (n11 : Int), I7 m9 [(.v (.int .i64 n11))] h10 →
  okInt .i64 (some a1) fun n12 =>
  rGq (decide (n11 > n12)) true (some a3) fun b13 v14 =>
  rGq b13 true (some a0) fun b15 v16 =>
  rGq b15 true (some (.v (.int .i64 n11))) fun b17 v18 =>
  rGq b17 true (aIA Tryz.prog h10 47 v16 v18) fun b19 v20 =>
  rGq b19 true (aLoad Tryz.prog h10 131 v20) fun b21 v22 =>
  rGq b21 true (some a0) fun b23 v24 =>
  rGq b23 true (some (.v (.int .i64 n11))) fun b25 v26 =>
  rGq b25 true (aBin Tryz.prog .sub 3 v26 (.v (.int .i64 1))) fun b27 v28 =>
  rGq b27 true (aIA Tryz.prog h10 47 v24 v28) fun b29 v30 =>
  rGq b29 true (aLoad Tryz.prog h10 131 v30) fun b31 v32 =>
  rGe b31 true (fun k33 => callU Tryz.prog G h10 (fun v34 h35 =>
  k33 v34 h35) [v22, v32] v14) h10 fun b36 v37 h38 =>
  rGq b36 true (aBin Tryz.prog .lss 3 v37 (.v (.int .i64 0))) fun b39 v40 =>
  okBool (pickR (some (.v (.bool b39))) (some v40) (some (.v (.bool false)))) fun b41 =>
  condB b41
  (okV (aIA Tryz.prog h38 47 a0 (.v (.int .i64 (IntKind.wrap .i64 (n11 - 1))))) fun v42 =>
  okV (aLoad Tryz.prog h38 131 v42) fun v43 =>
  okV (aIA Tryz.prog h38 47 a0 (.v (.int .i64 n11))) fun v44 =>
  okV (aLoad Tryz.prog h38 131 v44) fun v45 =>
  okV (aIA Tryz.prog h38 47 a0 (.v (.int .i64 n11))) fun v46 =>
  storeR Tryz.prog h38 (fun v47 h48 =>
  okV (aIA Tryz.prog h48 47 a0 (.v (.int .i64 (IntKind.wrap .i64 (n11 - 1))))) fun v49 =>
  storeR Tryz.prog h48 (fun v50 h51 =>
  nextR h4 I7 m9 [some a0, some a1, some a2, some a3, some (.v (.int .i64 n5))] [some a0, some a1, some a2, some a3, some (.v (.int .i64 n5))] [(.v (.int .i64 (IntKind.wrap .i64 (n11 - 1))))] h51) 131 v45 v49) 131 v43 v46)
  (nextR h I1 m3 [some a0, some a1, some a2, some a3] [some a0, some a1, some a2, some a3] [(.v (.int .i64 (IntKind.wrap .i64 (n5 + 1))))] h38)
def Tryz.r156_l1_1 (K : AV → AH → Prop) (h : AH) (G : Nat → Option AV) (a0 : AV) (a1 : AV) (a2 : AV) (a3 : AV) (n53 : Int) : Prop :=
  ∃ (I1 : Nat → List AV → AH → Prop) (m2 : Nat), I1 m2 [(.v (.int .i64 n53))] h ∧ ∀ (m3 : Nat) (h4 : AH), h.length ≤ h4.length → LowH h4.length h4 → ∀ (n5 : Int), I1 m3 [(.v (.int .i64 n5))] h4 →
  okInt .i64 (some a2) fun n6 =>
  condB (decide (n5 < n6))
  (Tryz.r156_l4_7 h G a0 a1 a2 a3 I1 m3 h4 n5 n5)
  (RetR h K (.tup []) h4)
def Tryz.r156 (G : Nat → Option AV) (a0 a1 a2 a3 : AV) (h : AH) (K : AV → AH → Prop) : Prop :=
  okInt .i64 (some a1) fun n0 =>
  Tryz.r156_l1_1 K h G a0 a1 a2 a3 (IntKind.wrap .i64 (n0 + 1))
theorem Tryz.c156 (G : Nat → Option AV) (a0 a1 a2 a3 : AV) (h : AH) (K : AV → AH → Prop) (hk : LowH h.length h → Tryz.r156 G a0 a1 a2 a3 h K) : SCall Tryz.prog G 156 [a0, a1, a2, a3] h K :=
  scall_of_rwp Tryz.tab156 [(1, [(8, (.int .i64))], [0, 1, 2, 3]), (4, [(9, (.int .i64))], [0, 1, 2, 3, 8])] Tryz.func156 rfl Tryz.ntmps156 (by kernel_rfl) (by show 4 ≤ 53; decide) (by kernel_rfl) (by kernel_rfl) hk
-- 157 slices.symMergeCmpFunc[skylark/api.Row]
def Tryz.r157_l9_20 (K : AV → AH → Prop) (h : AH) (a0 : AV) (h7 : AH) (n8 : Int) (n35 : Int) : Prop :=
  ∃ (I20 : Nat → List AV → AH → Prop) (m21 : Nat), I20 m21 [(.v (.int .i64 n35))] h7 ∧ ∀ (m22 : Nat) (h23 : AH), h7.length ≤ h23.length → LowH h23.length h23 → ∀ (n24 : Int), I20 m22 [(.v (.int .i64 n24))] h23 →
  condB (decide (n24 < (IntKind.wrap .i64 (n8 - 1))))
  (okV (aIA Tryz.prog h23 47 a0 (.v (.int .i64 (IntKind.wrap .i64 (n24 + 1))))) fun v25 =>
  okV (aLoad Tryz.prog h23 131 v25) fun v26 =>
  okV (aIA Tryz.prog h23 47 a0 (.v (.int .i64 n24))) fun v27 =>
  okV (aLoad Tryz.prog h23 131 v27) fun v28 =>
  okV (aIA Tryz.prog h23 47 a0 (.v (.int .i64 n24))) fun v29 =>
  storeR Tryz.prog h23 (fun v30 h31 =>
  okV (aIA Tryz.prog h31 47 a0 (.v (.int .i64 (IntKind.wrap .i64 (n24 + 1))))) fun v32 =>
  storeR Tryz.prog h31 (fun v33 h34 =>
  nextR h7 I20 m22 [some a0, some (.v (.int .i64 n8))] [some a0, some (.v (.int .i64 n8))] [(.v (.int .i64 (IntKind.wrap .i64 (n24 + 1))))] h34) 131 v28 v32) 131 v26 v29)
  (RetR h K (.tup []) h23)
def Tryz.r157_l3_4 (h : AH) (K : AV → AH → Prop) (G : Nat → Option AV) (a0 : AV) (a1 : AV) (a4 : AV) (n36 : Int) (n37 : Int) : Prop :=
  ∃ (I4 : Nat → List AV → AH → Prop) (m5 : Nat), I4 m5 [(.v (.int .i64 n36)), (.v (.int .i64 n37))] h ∧ ∀ (m6 : Nat) (h7 : AH), h.length ≤ h7.length → LowH h7.length h7 → ∀ (n8 : Int) (n9 : Int), I4 m6 [(.v (.int .i64 n8)), (.v (.int .i64 n9))] h7 →
  condB (decide (n8 < n9))
  (okInt .u64 (aBin Tryz.prog .shr 171 (.v (.int .u64 (IntKind.wrap .u64 (IntKind.wrap .i64 (n8 + n9))))) (.v (.int .u64 1))) fun n10 =>
  okV (aIA Tryz.prog h7 47 a0 (.v (.int .i64 (IntKind.wrap .i64 n10)))) fun v11 =>
  okV (aLoad Tryz.prog h7 131 v11) fun v12 =>
  okInt .i64 (some a1) fun n13 =>
  okV (aIA Tryz.prog h7 47 a0 (.v (.int .i64 n13))) fun v14 =>
  okV (aLoad Tryz.prog h7 131 v14) fun v15 =>
  callU Tryz.prog G h7 (fun v16 h17 =>
  okInt .i64 (some v16) fun n18 =>
  condB (decide (n18 < 0))
  (nextR h I4 m6 [some a0, some a1, some a4] [some a0, some a1, some a4] [(.v (.int .i64 (IntKind.wrap .i64 ((IntKind.wrap .i64 n10) + 1)))), (.v (.int .i64 n9))] h17)
  (nextR h I4 m6 [some a0, some a1, some a4] [some a0, some a1, some a4] [(.v (.int .i64 n8)), (.v (.int .i64 (IntKind.wrap .i64 n10)))] h17)) [v12, v15] a4)
  (okInt .i64 (some a1) fun n19 =>
  Tryz.r157_l9_20 K h a0 h7 n8 n19)
def Tryz.r157_l21_58 (K : AV → AH → Prop) (h : AH) (a0 : AV) (h45 : AH) (n46 : Int) (n73 : Int) : Prop :=
  ∃ (I58 : Nat → List AV → AH → Prop) (m59 : Nat), I58 m59 [(.v (.int .i64 n73))] h45 ∧ ∀ (m60 : Nat) (h61 : AH), h45.length ≤ h61.length → LowH h61.length h61 → ∀ (n62 : Int), I58 m60 [(.v (.int .i64 n62))] h61 →
  condB (decide (n62 > n46))
  (okV (aIA Tryz.prog h61 47 a0 (.v (.int .i64 (IntKind.wrap .i64 (n62 - 1))))) fun v63 =>
  okV (aLoad Tryz.prog h61 131 v63) fun v64 =>
  okV (aIA Tryz.prog h61 47 a0 (.v (.int .i64 n62))) fun v65 =>
  okV (aLoad Tryz.prog h61 131 v65) fun v66 =>
  okV (aIA Tryz.prog h61 47 a0 (.v (.int .i64 n62))) fun v67 =>
  storeR Tryz.prog h61 (fun v68 h69 =>
  okV (aIA Tryz.prog h69 47 a0 (.v (.int .i64 (IntKind.wrap .i64 (n62 - 1))))) fun v70 =>
  storeR Tryz.prog h69 (fun v71 h72 =>
  nextR h45 I58 m60 [some a0, some (.v (.int .i64 n46))] [some a0, some (.v (.int .i64 n46))] [(.v (.int .i64 (IntKind.wrap .i64 (n62 - 1))))] h72) 131 v66 v70) 131 v64 v67)
  (RetR h K (.tup []) h61)
def Tryz.r157_l15_42 (h : AH) (K : AV → AH → Prop) (G : Nat → Option AV) (a0 : AV) (a2 : AV) (a4 : AV) (n74 : Int) (n75 : Int) : Prop :=
  ∃ (I42 : Nat → List AV → AH → Prop) (m43 : Nat), I42 m43 [(.v (.int .i64 n74)), (.v (.int .i64 n75))] h ∧ ∀ (m44 : Nat) (h45 : AH), h.length ≤ h45.length → LowH h45.length h45 → ∀ (n46 : Int) (n47 : Int), I42 m44 [(.v (.int .i64 n46)), (.v (.int .i64 n47))] h45 →
  condB (decide (n46 < n47))
  (okInt .u64 (aBin Tryz.prog .shr 171 (.v (.int .u64 (IntKind.wrap .u64 (IntKind.wrap .i64 (n46 + n47))))) (.v (.int .u64 1))) fun n48 =>
  okInt .i64 (some a2) fun n49 =>
  okV (aIA Tryz.prog h45 47 a0 (.v (.int .i64 n49))) fun v50 =>
  okV (aLoad Tryz.prog h45 131 v50) fun v51 =>
  okV (aIA Tryz.prog h45 47 a0 (.v (.int .i64 (IntKind.wrap .i64 n48)))) fun v52 =>
  okV (aLoad Tryz.prog h45 131 v52) fun v53 =>
  callU Tryz.prog G h45 (fun v54 h55 =>
  okInt .i64 (some v54) fun n56 =>
  condB (!(decide (n56 < 0)))
  (nextR h I42 m44 [some a0, some a2, some a4] [some a0, some a2, some a4] [(.v (.int .i64 (IntKind.wrap .i64 ((IntKind.wrap .i64 n48) + 1)))), (.v (.int .i64 n47))] h55)
  (nextR h I42 m44 [some a0, some a2, some a4] [some a0, some a2, some a4] [(.v (.int .i64 n46)), (.v (.int .i64 (IntKind.wrap .i64 n48)))] h55)) [v51, v53] a4)
  (okInt .i64 (some a2) fun n57 =>
  Tryz.r157_l21_58 K h a0 h45 n46 n57)
def Tryz.r157_j99 (K : AV → AH → Prop) (h : AH) (G : Nat → Option AV) (a0 : AV) (a3 : AV) (a4 : AV) (n78 : Int) (n79 : Int) (n87 : Int) (h98 : AH) : Prop :=
  rGq (decide ((IntKind.wrap .i64 n78) < (IntKind.wrap .i64 ((IntKind.wrap .i64 ((IntKind.wrap .i64 n78) + n79)) - n87)))) true (some (.v (.int .i64 (IntKind.wrap .i64 ((IntKind.wrap .i64 ((IntKind.wrap .i64 n78) + n79)) - n87))))) fun b99 v100 =>
  rGq b99 true (some a3) fun b101 v102 =>
  rGq b101 true (aBin Tryz.prog .lss 3 v100 v102) fun b103 v104 =>
  okBool (pickR (some (.v (.bool b103))) (some v104) (some (.v (.bool false)))) fun b105 =>
  condB b105
  (okInt .i64 (some a3) fun n106 =>
  callR Tryz.prog G 157 [a0, (.v (.int .i64 (IntKind.wrap .i64 n78))), (.v (.int .i64 (IntKind.wrap .i64 ((IntKind.wrap .i64 ((IntKind.wrap .i64 n78) + n79)) - n87)))), (.v (.int .i64 n106)), a4] h98 (fun v107 h108 =>
  RetR h K (.tup []) h108))
  (RetR h K (.tup []) h98)
def Tryz.r157_j98 (G : Nat → Option AV) (h : AH) (K : AV → AH → Prop) (a0 : AV) (a1 : AV) (a3 : AV) (a4 : AV) (n78 : Int) (n79 : Int) (n87 : Int) (h97 : AH) : Prop :=
  okInt .i64 (some a1) fun n109 =>
  rGq (decide (n109 < n87)) true (some (.v (.int .i64 n87))) fun b110 v111 =>
  rGq b110 true (some (.v (.int .i64 (IntKind.wrap .i64 n78)))) fun b112 v113 =>
  rGq b112 true (aBin Tryz.prog .lss 3 v111 v113) fun b114 v115 =>
  okBool (pickR (some (.v (.bool b114))) (some v115) (some (.v (.bool false)))) fun b116 =>
  condB b116
  (okInt .i64 (some a1) fun n117 =>
  callR Tryz.prog G 157 [a0, (.v (.int .i64 n117)), (.v (.int .i64 n87)), (.v (.int .i64 (IntKind.wrap .i64 n78))), a4] h97 (fun v118 h119 =>
  Tryz.r157_j99 K h G a0 a3 a4 n78 n79 n87 h119))
  (Tryz.r157_j99 K h G a0 a3 a4 n78 n79 n87 h97)
def Tryz.r157_l33_83 (K : AV → AH → Prop) (h : AH) (G : Nat → Option AV) (a0 : AV) (a1 : AV) (a2 : AV) (a3 : AV) (a4 : AV) (n78 : Int) (n79 : Int) (h82 : AH) (n131 : Int) (n132 : Int) : Prop :=
  ∃ (I83 : Nat → List AV → AH → Prop) (m84 : Nat), I83 m84 [(.v (.int .i64 n131)), (.v (.int .i64 n132))] h82 ∧ ∀ (m85 : Nat) (h86 : AH), h82.length ≤ h86.length → LowH h86.length h86 → ∀ (n87 : Int) (n88 : Int), I83 m85 [(.v (.int .i64 n87)), (.v (.int .i64 n88))] h86 →
  condB (decide (n87 < n88))
  (okInt .u64 (aBin Tryz.prog .shr 171 (.v (.int .u64 (IntKind.wrap .u64 (IntKind.wrap .i64 (n87 + n88))))) (.v (.int .u64 1))) fun n89 =>
  okV (aIA Tryz.prog h86 47 a0 (.v (.int .i64 (IntKind.wrap .i64 ((IntKind.wrap .i64 ((IntKind.wrap .i64 ((IntKind.wrap .i64 n78) + n79)) - 1)) - (IntKind.wrap .i64 n89)))))) fun v90 =>
  okV (aLoad Tryz.prog h86 131 v90) fun v91 =>
  okV (aIA Tryz.prog h86 47 a0 (.v (.int .i64 (IntKind.wrap .i64 n89)))) fun v92 =>
  okV (aLoad Tryz.prog h86 131 v92) fun v93 =>
  callU Tryz.prog G h86 (fun v94 h95 =>
  okInt .i64 (some v94) fun n96 =>
  condB (!(decide (n96 < 0)))
  (nextR h82 I83 m85 [some a0, some a1, some a2, some a3, some a4, some (.v (.int .i64 (IntKind.wrap .i64 n78))), some (.v (.int .i64 (IntKind.wrap .i64 ((IntKind.wrap .i64 n78) + n79)))), some (.v (.int .i64 (IntKind.wrap .i64 ((IntKind.wrap .i64 ((IntKind.wrap .i64 n78) + n79)) - 1))))] [some a0, some a1, some a2, some a3, some a4, some (.v (.int .i64 (IntKind.wrap .i64 n78))), some (.v (.int .i64 (IntKind.wrap .i64 ((IntKind.wrap .i64 n78) + n79)))), some (.v (.int .i64 (IntKind.wrap .i64 ((IntKind.wrap .i64 ((IntKind.wrap .i64 n78) + n79)) - 1))))] [(.v (.int .i64 (IntKind.wrap .i64 ((IntKind.wrap .i64 n89) + 1)))), (.v (.int .i64 n88))] h95)
  (nextR h82 I83 m85 [some a0, some a1, some a2, some a3, some a4, some (.v (.int .i64 (IntKind.wrap .i64 n78))), some (.v (.int .i64 (IntKind.wrap .i64 ((IntKind.wrap .i64 n78) + n79)))), some (.v (.int .i64 (IntKind.wrap .i64 ((IntKind.wrap .i64 ((IntKind.wrap .i64 n78) + n79)) - 1))))] [some a0, some a1, some a2, some a3, some a4, some (.v (.int .i64 (IntKind.wrap .i64 n78))), some (.v (.int .i64 (IntKind.wrap .i64 ((IntKind.wrap .i64 n78) + n79)))), some (.v (.int .i64 (IntKind.wrap .i64 ((IntKind.wrap .i64 ((IntKind.wrap .i64 n78) + n79)) - 1))))] [(.v (.int .i64 n87)), (.v (.int .i64 (IntKind.wrap .i64 n89)))] h95)) [v91, v93] a4)
  (okInt .i64 (some a2) fun n120 =>
  rGq (decide (n87 < n120)) true (some a2) fun b121 v122 =>
  rGq b121 true (some (.v (.int .i64 (IntKind.wrap .i64 ((IntKind.wrap .i64 ((IntKind.wrap .i64 n78) + n79)) - n87))))) fun b123 v124 =>
  rGq b123 true (aBin Tryz.prog .lss 3 v122 v124) fun b125 v126 =>
  okBool (pickR (some (.v (.bool b125))) (some v126) (some (.v (.bool false)))) fun b127 =>
  condB b127
  (okInt .i64 (some a2) fun n128 =>
  callR Tryz.prog G 172 [a0, (.v (.int .i64 n87)), (.v (.int .i64 n128)), (.v (.int .i64 (IntKind.wrap .i64 ((IntKind.wrap .i64 ((IntKind.wrap .i64 n78) + n79)) - n87)))), a4] h86 (fun v129 h130 =>
  Tryz.r157_j98 G h K a0 a1 a3 a4 n78 n79 n87 h130))
  (Tryz.r157_j98 G h K a0 a1 a3 a4 n78 n79 n87 h86))
def Tryz.r157_j83 (G : Nat → Option AV) (h : AH) (K : AV → AH → Prop) (a0 : AV) (a1 : AV) (a2 : AV) (a3 : AV) (a4 : AV) (n78 : Int) (n79 : Int) (n80 : Int) (n81 : Int) (h82 : AH) : Prop :=
  Tryz.r157_l33_83 K h G a0 a1 a2 a3 a4 n78 n79 h82 n80 n81
def Tryz.r157 (G : Nat → Option AV) (a0 a1 a2 a3 a4 : AV) (h : AH) (K : AV → AH → Prop) : Prop :=
  okInt .i64 (some a2) fun n0 =>
  okInt .i64 (some a1) fun n1 =>
  condB ((IntKind.wrap .i64 (n0 - n1)) == 1)
  (okInt .i64 (some a2) fun n2 =>
  okInt .i64 (some a3) fun n3 =>
  Tryz.r157_l3_4 h K G a0 a1 a4 n2 n3)
  (okInt .i64 (some a3) fun n38 =>
  okInt .i64 (some a2) fun n39 =>
  condB ((IntKind.wrap .i64 (n38 - n39)) == 1)
  (okInt .i64 (some a1) fun n40 =>
  okInt .i64 (some a2) fun n41 =>
  Tryz.r157_l15_42 h K G a0 a2 a4 n40 n41)
  (okInt .i64 (some a1) fun n76 =>
  okInt .i64 (some a3) fun n77 =>
  okInt .u64 (aBin Tryz.prog .shr 171 (.v (.int .u64 (IntKind.wrap .u64 (IntKind.wrap .i64 (n76 + n77))))) (.v (.int .u64 1))) fun n78 =>
  okInt .i64 (some a2) fun n79 =>
  okInt .i64 (some a2) fun n133 =>
  condB (decide (n133 > (IntKind.wrap .i64 n78)))
  (okInt .i64 (some a3) fun n134 =>
  Tryz.r157_j83 G h K a0 a1 a2 a3 a4 n78 n79 (IntKind.wrap .i64 ((IntKind.wrap .i64 ((IntKind.wrap .i64 n78) + n79)) - n134)) (IntKind.wrap .i64 n78) h)
  (okInt .i64 (some a1) fun n135 =>
  okInt .i64 (some a2) fun n136 =>
  Tryz.r157_j83 G h K a0 a1 a2 a3 a4 n78 n79 n135 n136 h)))
theorem Tryz.c157 (G : Nat → Option AV) (a0 a1 a2 a3 a4 : AV) (h : AH) (K : AV → AH → Prop) (hk : LowH h.length h → Tryz.r157 G a0 a1 a2 a3 a4 h K) : SCall Tryz.prog G 157 [a0, a1, a2, a3, a4] h K :=
  scall_of_rwp Tryz.tab157 [(3, [(10, (.int .i64)), (11, (.int .i64))], [0, 1, 4]), (9, [(13, (.int .i64))], [0, 10]), (15, [(14, (.int .i64)), (15, (.int .i64))], [0, 2, 4]), (21, [(17, (.int .i64))], [0, 14]), (33, [(20, (.int .i64)), (21, (.int .i64))], [0, 1, 2, 3, 4, 18, 19, 22])] Tryz.func157 rfl Tryz.ntmps157 (by kernel_rfl) (by show 5 ≤ 220; decide) (by kernel_rfl) (by kernel_rfl) hk
-- 159 slices.Index[[]*skylark/table.Table,*skylark/table.Table]
def Tryz.r159_l2_1 (K : AV → AH → Prop) (h : AH) (a0 : AV) (a1 : AV) (n0 : Int) (n11 : Int) : Prop :=
  ∃ (I1 : Nat → List AV → AH → Prop) (m2 : Nat), I1 m2 [(.v (.int .i64 n11))] h ∧ ∀ (m3 : Nat) (h4 : AH), h.length ≤ h4.length → LowH h4.length h4 → ∀ (n5 : Int), I1 m3 [(.v (.int .i64 n5))] h4 →
  condB (decide (n5 < n0))
  (okV (aIA Tryz.prog h4 51 a0 (.v (.int .i64 n5))) fun v6 =>
  okV (aLoad Tryz.prog h4 87 v6) fun v7 =>
  binR Tryz.prog h4 (fun v8 h9 =>
  okBool (some v8) fun b10 =>
  condB b10
  (RetR h K (.v (.int .i64 n5)) h9)
  (nextR h I1 m3 [some a0, some a1, some (.v (.int .i64 n0))] [some a0, some a1, some (.v (.int .i64 n0))] [(.v (.int .i64 (IntKind.wrap .i64 (n5 + 1))))] h9)) .eql 87 a1 v7)
  (RetR h K (.v (.int .i64 (-1))) h4)
def Tryz.r159 (a0 a1 : AV) (h : AH) (K : AV → AH → Prop) : Prop :=
  okInt .i64 (aLen Tryz.prog h 51 a0) fun n0 =>
  Tryz.r159_l2_1 K h a0 a1 n0 0
theorem Tryz.c159 (G : Nat → Option AV) (a0 a1 : AV) (h : AH) (K : AV → AH → Prop) (hk : LowH h.length h → Tryz.r159 a0 a1 h K) : SCall Tryz.prog G 159 [a0, a1] h K :=
  scall_of_rwp Tryz.tab159 [(2, [(8, (.int .i64))], [0, 1, 7])] Tryz.func159 rfl Tryz.ntmps159 (by kernel_rfl) (by show 2 ≤ 19; decide) (by kernel_rfl) (by kernel_rfl) hk
-- 160 cmp.Less[string]
def Tryz.r160 (G : Nat → Option AV) (a0 a1 : AV) (h : AH) (K : AV → AH → Prop) : Prop :=
  okStr (some a0) fun s0 =>
  callR Tryz.prog G 173 [(.v (.string s0))] h (fun v1 h2 =>
  okBool (some v1) fun b3 =>
  rGq b3 true (some a1) fun b4 v5 =>
  rGe b4 true (fun k6 => callR Tryz.prog G 173 [v5] h2 (fun v7 h8 =>
  k6 v7 h8)) h2 fun b9 v10 h11 =>
  rGq b9 true (aUn .not v10) fun b12 v13 =>
  okBool (pickR (some (.v (.bool b12))) (some v13) (some (.v (.bool false)))) fun b14 =>
  rGq b14 false (some a0) fun b15 v16 =>
  rGq b15 false (some a1) fun b17 v18 =>
  rGq b17 false (aBin Tryz.prog .lss 9 v16 v18) fun b19 v20 =>
  okBool (pickR (some (.v (.bool b19))) (some (.v (.bool true))) (some v20)) fun b21 =>
  RetR h K (.v (.bool b21)) h11)
theorem Tryz.c160 (G : Nat → Option AV) (a0 a1 : AV) (h : AH) (K : AV → AH → Prop) (hk : LowH h.length h → Tryz.r160 G a0 a1 h K) : SCall Tryz.prog G 160 [a0, a1] h K :=
  scall_of_rwp Tryz.tab160 [] Tryz.func160 rfl Tryz.ntmps160 (by kernel_rfl) (by show 2 ≤ 17; decide) (by kernel_rfl) (by kernel_rfl) hk
-- 161 slices.isNaN[string]
def Tryz.r161 (a0 : AV) (h : AH) (K : AV → AH → Prop) : Prop :=
  okStr (some a0) fun s0 =>
  okStr (some a0) fun s1 =>
  RetR h K (.v (.bool (!(ByteArray.toList s0 == ByteArray.toList s1)))) h
theorem Tryz.c161 (G : Nat → Option AV) (a0 : AV) (h : AH) (K : AV → AH → Prop) (hk : LowH h.length h → Tryz.r161 a0 h K) : SCall Tryz.prog G 161 [a0] h K :=
  scall_of_rwp Tryz.tab161 [] Tryz.func161 rfl Tryz.ntmps161 (by kernel_rfl) (by show 1 ≤ 6; decide) (by kernel_rfl) (by kernel_rfl) hk
-- 162 cmp.Or[skylark/api.Errno]
def Tryz.r162_l3_1 (K : AV → AH → Prop) (h : AH) (a0 : AV) (n0 : Int) (n8 : Int) : Prop :=
  ∃ (I1 : Nat → List AV → AH → Prop) (m2 : Nat), I1 m2 [(.v (.int .i64 n8))] h ∧ ∀ (m3 : Nat) (h4 : AH), h.length ≤ h4.length → LowH h4.length h4 → ∀ (n5 : Int), I1 m3 [(.v (.int .i64 n5))] h4 →
  condB (decide (n5 < n0))
  (okV (aIA Tryz.prog h4 241 a0 (.v (.int .i64 n5))) fun v6 =>
  okInt .i64 (aLoad Tryz.prog h4 24 v6) fun n7 =>
  condB (n7 != 0)
  (RetR h K (.v (.int .i64 n7)) h4)
  (nextR h I1 m3 [some (.v (.int .i64 0)), some a0, some (.v (.int .i64 n0))] [some (.v (.int .i64 0)), some a0, some (.v (.int .i64 n0))] [(.v (.int .i64 (IntKind.wrap .i64 (n5 + 1))))] h4))
  (RetR h K (.v (.int .i64 0)) h4)
def Tryz.r162 (a0 : AV) (h : AH) (K : AV → AH → Prop) : Prop :=
  okInt .i64 (aLen Tryz.prog h 241 a0) fun n0 =>
  Tryz.r162_l3_1 K h a0 n0 0
theorem Tryz.c162 (G : Nat → Option AV) (a0 : AV) (h : AH) (K : AV → AH → Prop) (hk : LowH h.length h → Tryz.r162 a0 h K) : SCall Tryz.prog G 162 [a0] h K :=
  scall_of_rwp Tryz.tab162 [(3, [(8, (.int .i64))], [3, 6, 7])] Tryz.func162 rfl Tryz.ntmps162 (by kernel_rfl) (by show 1 ≤ 18; decide) (by kernel_rfl) (by kernel_rfl) hk
-- 165 slices.IndexFunc[[]int,int]
def Tryz.r167_l5_3 (K : AV → AH → Prop) (h : AH) (a0 : AV) (h0 : AH) (n13 : Int) (n14 : Int) : Prop :=
  ∃ (I3 : Nat → List AV → AH → Prop) (m4 : Nat), I3 m4 [(.v (.int .i64 n13)), (.v (.int .i64 n14))] h0 ∧ ∀ (m5 : Nat) (h6 : AH), h0.length ≤ h6.length → LowH h6.length h6 → ∀ (n7 : Int) (n8 : Int), I3 m5 [(.v (.int .i64 n7)), (.v (.int .i64 n8))] h6 →
  okInt .i64 (aLen Tryz.prog h6 31 a0) fun n9 =>
  condB (decide (n8 < n9))
  (okV (aIA Tryz.prog h6 31 a0 (.v (.int .i64 n8))) fun v10 =>
  okInt .i64 (aLoad Tryz.prog h6 3 v10) fun n11 =>
  okInt .i64 (aMinMax false [some (.v (.int .i64 n7)), some (.v (.int .i64 n11))]) fun n12 =>
  nextR h0 I3 m5 [some a0] [some a0] [(.v (.int .i64 n12)), (.v (.int .i64 (IntKind.wrap .i64 (n8 + 1))))] h6)
  (RetR h K (.v (.int .i64 n7)) h6)
def Tryz.r167_j1 (h : AH) (K : AV → AH → Prop) (a0 : AV) (h0 : AH) : Prop :=
  okV (aIA Tryz.prog h0 31 a0 (.v (.int .i64 0))) fun v1 =>
  okInt .i64 (aLoad Tryz.prog h0 3 v1) fun n2 =>
  Tryz.r167_l5_3 K h a0 h0 n2 1
def Tryz.r167 (a0 : AV) (h : AH) (K : AV → AH → Prop) : Prop :=
  okInt .i64 (aLen Tryz.prog h 31 a0) fun n15 =>
  condB (decide (n15 < 1))
  (okV (aMkI Tryz.prog 9 (.v (.string (ByteArray.mk #[115, 108, 105, 99, 101, 115, 46, 77, 105, 110, 58, 32, 101, 109, 112, 116, 121, 32, 108, 105, 115, 116])))) fun v16 =>
  False)
  (Tryz.r167_j1 h K a0 h)
theorem Tryz.c167 (G : Nat → Option AV) (a0 : AV) (h : AH) (K : AV → AH → Prop) (hk : LowH h.length h → Tryz.r167 a0 h K) : SCall Tryz.prog G 167 [a0] h K :=
  scall_of_rwp Tryz.tab167 [(5, [(3, (.int .i64)), (4, (.int .i64))], [0])] Tryz.func167 rfl Tryz.ntmps167 (by kernel_rfl) (by show 1 ≤ 25; decide) (by kernel_rfl) (by kernel_rfl) hk
-- 169 slices.SortFunc[skylark/ring.ring,skylark/ring.point]
def Tryz.r169 (G : Nat → Option AV) (a0 a1 : AV) (h : AH) (K : AV → AH → Prop) : Prop :=
  okInt .i64 (aLen Tryz.prog h 182 a0) fun n0 =>
  callR Tryz.prog G 178 [(.v (.int .u64 (IntKind.wrap .u64 n0)))] h (fun v1 h2 =>
  okInt .i64 (some v1) fun n3 =>
  callR Tryz.prog G 177 [a0, (.v (.int .i64 0)), (.v (.int .i64 n0)), (.v (.int .i64 n3)), a1] h2 (fun v4 h5 =>
  RetR h K (.tup []) h5))
theorem Tryz.c169 (G : Nat → Option AV) (a0 a1 : AV) (h : AH) (K : AV → AH → Prop) (hk : LowH h.length h → Tryz.r169 G a0 a1 h K) : SCall Tryz.prog G 169 [a0, a1] h K :=
  scall_of_rwp Tryz.tab169 [] Tryz.func169 rfl Tryz.ntmps169 (by kernel_rfl) (by show 2 ≤ 14; decide) (by kernel_rfl) (by kernel_rfl) hk
-- 170 cmp.Compare[int]
def Tryz.r170 (G : Nat → Option AV) (a0 a1 : AV) (h : AH) (K : AV → AH → Prop) : Prop :=
  okInt .i64 (some a0) fun n0 =>
  callR Tryz.prog G 179 [(.v (.int .i64 n0))] h (fun v1 h2 =>
  okBool (some v1) fun b3 =>
  okInt .i64 (some a1) fun n4 =>
  callR Tryz.prog G 179 [(.v (.int .i64 n4))] h2 (fun v5 h6 =>
  okBool (some v5) fun b7 =>
  condB b3
  (condB b7
  (RetR h K (.v (.int .i64 0)) h6)
  (RetR h K (.v (.int .i64 (-1))) h6))
  (condB b7
  (RetR h K (.v (.int .i64 1)) h6)
  (okInt .i64 (some a0) fun n8 =>
  okInt .i64 (some a1) fun n9 =>
  condB (decide (n8 < n9))
  (RetR h K (.v (.int .i64 (-1))) h6)
  (okInt .i64 (some a0) fun n10 =>
  okInt .i64 (some a1) fun n11 =>
  condB (decide (n10 > n11))
  (RetR h K (.v (.int .i64 1)) h6)
  (RetR h K (.v (.int .i64 0)) h6))))))
theorem Tryz.c170 (G : Nat → Option AV) (a0 a1 : AV) (h : AH) (K : AV → AH → Prop) (hk : LowH h.length h → Tryz.r170 G a0 a1 h K) : SCall Tryz.prog G 170 [a0, a1] h K :=
  scall_of_rwp Tryz.tab170 [] Tryz.func170 rfl Tryz.ntmps170 (by kernel_rfl) (by show 2 ≤ 20; decide) (by kernel_rfl) (by kernel_rfl) hk
-- 171 cmp.isNaN[uint64]
def Tryz.r171 (a0 : AV) (h : AH) (K : AV → AH → Prop) : Prop :=
  okInt .u64 (some a0) fun n0 =>
  okInt .u64 (some a0) fun n1 =>
  RetR h K (.v (.bool (n0 != n1))) h
theorem Tryz.c171 (G : Nat → Option AV) (a0 : AV) (h : AH) (K : AV → AH → Prop) (hk : LowH h.length h → Tryz.r171 a0 h K) : SCall Tryz.prog G 171 [a0] h K :=
  scall_of_rwp Tryz.tab171 [] Tryz.func171 rfl Tryz.ntmps171 (by kernel_rfl) (by show 1 ≤ 6; decide) (by kernel_rfl) (by kernel_rfl) hk
-- 172 slices.rotateCmpFunc[skylark/api.Row]
def Tryz.r172_l2_4 (K : AV → AH → Prop) (h : AH) (G : Nat → Option AV) (a0 : AV) (a2 : AV) (a4 : AV) (n22 : Int) (n23 : Int) : Prop :=
  ∃ (I4 : Nat → List AV → AH → Prop) (m5 : Nat), I4 m5 [(.v (.int .i64 n22)), (.v (.int .i64 n23))] h ∧ ∀ (m6 : Nat) (h7 : AH), h.length ≤ h7.length → LowH h7.length h7 → ∀ (n8 : Int) (n9 : Int), I4 m6 [(.v (.int .i64 n8)), (.v (.int .i64 n9))] h7 →
  condB (n8 != n9)
  (condB (decide (n8 > n9))
  (okInt .i64 (some a2) fun n10 =>
  okInt .i64 (some a2) fun n11 =>
  callR Tryz.prog G 180 [a0, (.v (.int .i64 (IntKind.wrap .i64 (n10 - n8)))), (.v (.int .i64 n11)), (.v (.int .i64 n9)), a4] h7 (fun v12 h13 =>
  nextR h I4 m6 [some a0, some a2, some a4] [some a0, some a2, some a4] [(.v (.int .i64 (IntKind.wrap .i64 (n8 - n9)))), (.v (.int .i64 n9))] h13))
  (okInt .i64 (some a2) fun n14 =>
  okInt .i64 (some a2) fun n15 =>
  callR Tryz.prog G 180 [a0, (.v (.int .i64 (IntKind.wrap .i64 (n14 - n8)))), (.v (.int .i64 (IntKind.wrap .i64 ((IntKind.wrap .i64 (n15 + n9)) - n8)))), (.v (.int .i64 n8)), a4] h7 (fun v16 h17 =>
  nextR h I4 m6 [some a0, some a2, some a4] [some a0, some a2, some a4] [(.v (.int .i64 n8)), (.v (.int .i64 (IntKind.wrap .i64 (n9 - n8))))] h17)))
  (okInt .i64 (some a2) fun n18 =>
  okInt .i64 (some a2) fun n19 =>
  callR Tryz.prog G 180 [a0, (.v (.int .i64 (IntKind.wrap .i64 (n18 - n8)))), (.v (.int .i64 n19)), (.v (.int .i64 n8)), a4] h7 (fun v20 h21 =>
  RetR h K (.tup []) h21))
def Tryz.r172 (G : Nat → Option AV) (a0 a1 a2 a3 a4 : AV) (h : AH) (K : AV → AH → Prop) : Prop :=
  okInt .i64 (some a2) fun n0 =>
  okInt .i64 (some a1) fun n1 =>
  okInt .i64 (some a3) fun n2 =>
  okInt .i64 (some a2) fun n3 =>
  Tryz.r172_l2_4 K h G a0 a2 a4 (IntKind.wrap .i64 (n0 - n1)) (IntKind.wrap .i64 (n2 - n3))
theorem Tryz.c172 (G : Nat → Option AV) (a0 a1 a2 a3 a4 : AV) (h : AH) (K : AV → AH → Prop) (hk : LowH h.length h → Tryz.r172 G a0 a1 a2 a3 a4 h K) : SCall Tryz.prog G 172 [a0, a1, a2, a3, a4] h K :=
  scall_of_rwp Tryz.tab172 [(2, [(10, (.int .i64)), (11, (.int .i64))], [0, 2, 4])] Tryz.func172 rfl Tryz.ntmps172 (by kernel_rfl) (by show 5 ≤ 58; decide) (by kernel_rfl) (by kernel_rfl) hk
-- 173 cmp.isNaN[string]
def Tryz.r173 (a0 : AV) (h : AH) (K : AV → AH → Prop) : Prop :=
  okStr (some a0) fun s0 =>
  okStr (some a0) fun s1 =>
  RetR h K (.v (.bool (!(ByteArray.toList s0 == ByteArray.toList s1)))) h
theorem Tryz.c173 (G : Nat → Option AV) (a0 : AV) (h : AH) (K : AV → AH → Prop) (hk : LowH h.length h → Tryz.r173 a0 h K) : SCall Tryz.prog G 173 [a0] h K :=
  scall_of_rwp Tryz.tab173 [] Tryz.func173 rfl Tryz.ntmps173 (by kernel_rfl) (by show 1 ≤ 6; decide) (by kernel_rfl) (by kernel_rfl) hk
-- 179 cmp.isNaN[int]
def Tryz.r179 (a0 : AV) (h : AH) (K : AV → AH → Prop) : Prop :=
  okInt .i64 (some a0) fun n0 =>
  okInt .i64 (some a0) fun n1 =>
  RetR h K (.v (.bool (n0 != n1))) h
theorem Tryz.c179 (G : Nat → Option AV) (a0 : AV) (h : AH) (K : AV → AH → Prop) (hk : LowH h.length h → Tryz.r179 a0 h K) : SCall Tryz.prog G 179 [a0] h K :=
  scall_of_rwp Tryz.tab179 [] Tryz.func179 rfl Tryz.ntmps179 (by kernel_rfl) (by show 1 ≤ 6; decide) (by kernel_rfl) (by kernel_rfl) hk
-- 180 slices.swapRangeCmpFunc[skylark/api.Row]
def Tryz.r180_l1_0 (K : AV → AH → Prop) (h : AH) (a0 : AV) (a1 : AV) (a2 : AV) (a3 : AV) (n20 : Int) : Prop :=
  ∃ (I0 : Nat → List AV → AH → Prop) (m1 : Nat), I0 m1 [(.v (.int .i64 n20))] h ∧ ∀ (m2 : Nat) (h3 : AH), h.length ≤ h3.length → LowH h3.length h3 → ∀ (n4 : Int), I0 m2 [(.v (.int .i64 n4))] h3 →
  okInt .i64 (some a3) fun n5 =>
  condB (decide (n4 < n5))
  (okInt .i64 (some a1) fun n6 =>
  okInt .i64 (some a2) fun n7 =>
  okInt .i64 (some a2) fun n8 =>
  okV (aIA Tryz.prog h3 47 a0 (.v (.int .i64 (IntKind.wrap .i64 (n8 + n4))))) fun v9 =>
  okV (aLoad Tryz.prog h3 131 v9) fun v10 =>
  okInt .i64 (some a1) fun n11 =>
  okV (aIA Tryz.prog h3 47 a0 (.v (.int .i64 (IntKind.wrap .i64 (n11 + n4))))) fun v12 =>
  okV (aLoad Tryz.prog h3 131 v12) fun v13 =>
  okV (aIA Tryz.prog h3 47 a0 (.v (.int .i64 (IntKind.wrap .i64 (n6 + n4))))) fun v14 =>
  storeR Tryz.prog h3 (fun v15 h16 =>
  okV (aIA Tryz.prog h16 47 a0 (.v (.int .i64 (IntKind.wrap .i64 (n7 + n4))))) fun v17 =>
  storeR Tryz.prog h16 (fun v18 h19 =>
  nextR h I0 m2 [some a0, some a1, some a2, some a3] [some a0, some a1, some a2, some a3] [(.v (.int .i64 (IntKind.wrap .i64 (n4 + 1))))] h19) 131 v13 v17) 131 v10 v14)
  (RetR h K (.tup []) h3)
def Tryz.r180 (a0 a1 a2 a3 a4 : AV) (h : AH) (K : AV → AH → Prop) : Prop :=
  Tryz.r180_l1_0 K h a0 a1 a2 a3 0
theorem Tryz.c180 (G : Nat → Option AV) (a0 a1 a2 a3 a4 : AV) (h : AH) (K : AV → AH → Prop) (hk : LowH h.length h → Tryz.r180 a0 a1 a2 a3 a4 h K) : SCall Tryz.prog G 180 [a0, a1, a2, a3, a4] h K :=
  scall_of_rwp Tryz.tab180 [(1, [(10, (.int .i64))], [0, 1, 2, 3])] Tryz.func180 rfl Tryz.ntmps180 (by kernel_rfl) (by show 5 ≤ 38; decide) (by kernel_rfl) (by kernel_rfl) hk
-- 223 (*skylark/table.Table).Drop
def Tryz.r223 (G : Nat → Option AV) (a0 a1 : AV) (h : AH) (K : AV → AH → Prop) : Prop :=
  onlyB (AV.one a1) (newO (.cells 96 (AV.cells a1).length [AV.cells a1] 0) h fun i0 h1 =>
  okV (aLoad Tryz.prog h1 96 (.ptr i0 0 0 0)) fun v2 =>
  callR Tryz.prog G 93 [a0, v2] h1 (fun v3 h4 =>
  okInt .i64 (extV 0 v3) fun n5 =>
  okInt .i64 (extV 1 v3) fun n6 =>
  callR Tryz.prog G 134 [a0, (.v (.int .i64 n5)), (.v (.int .i64 n6)), (.v (.slice none 0 0))] h4 (fun v7 h8 =>
  RetR h K (.v (.int .i64 (IntKind.wrap .i64 (n6 - n5)))) h8)))
theorem Tryz.c223 (G : Nat → Option AV) (a0 a1 : AV) (h : AH) (K : AV → AH → Prop) (hk : LowH h.length h → Tryz.r223 G a0 a1 h K) : SCall Tryz.prog G 223 [a0, a1] h K :=
  scall_of_rwp Tryz.tab223 [] Tryz.func223 rfl Tryz.ntmps223 (by kernel_rfl) (by show 2 ≤ 20; decide) (by kernel_rfl) (by kernel_rfl) hk
end Go.Proofs


