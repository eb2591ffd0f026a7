/-
  Of each function its body as a plain statement, and that a call follows from it: printed by wip/gen/Res.lean.
-/
import Derived.Test.YtekaeegjohanjaaDoorGAC
import Derived.Test.YtekaeegjohanjaaDoorAbH
import Derived.KernelRfl
set_option linter.all false
namespace Go.Proofs
open Go Go.Abs
set_option linter.unusedVariables false
set_option maxRecDepth 100000
-- 3 skylark/skylarklaw22.MoveSizes
def Tryd.r3_j56 (K : AV → AH → Prop) (h : AH) (G : Nat → Option AV) (a1 : AV) (a2 : AV) (i8 : Nat) (v19 : AV) (v24 : AV) (h40 : AH) (I48 : Nat → List AV → AH → Prop) (m50 : Nat) (n52 : Int) (n54 : Int) (h55 : AH) : Prop :=
  okV (aLoad Tryd.prog h55 31 (.ptr i8 0 0 0)) fun v56 =>
  callR Tryd.prog G 7 [v56, v19, (.v (.int .i64 n54))] h55 (fun v57 h58 =>
  okV (extV 0 v57) fun v59 =>
  okInt .i64 (extV 1 v57) fun n60 =>
  okInt .i64 (extV 2 v57) fun n61 =>
  newO (.cells 31 6 [[(.v (.int .i64 0)), (.v (.slice none 0 0)), (.v (.int .i64 0)), (.v (.slice none 0 0)), (.v (.string (ByteArray.mk #[]))), (.v (.bool false))]] 0) h58 fun i62 h63 =>
  storeR Tryd.prog h63 (fun v64 h65 =>
  rGq (n61 != 0) false (some (.v (.int .i64 n60))) fun b66 v67 =>
  rGq b66 false (some (.v (.int .i64 n54))) fun b68 v69 =>
  rGq b68 false (aBin Tryd.prog .gtr 3 v67 v69) fun b70 v71 =>
  okBool (pickR (some (.v (.bool b70))) (some (.v (.bool true))) (some v71)) fun b72 =>
  rGq b72 false (some (.v (.int .i64 n52))) fun b73 v74 =>
  rGq b73 false (some a1) fun b75 v76 =>
  rGq b75 false (aLen Tryd.prog h65 28 v76) fun b77 v78 =>
  rGq b77 false (aBin Tryd.prog .add 3 v78 (.v (.int .i64 2))) fun b79 v80 =>
  rGq b79 false (aBin Tryd.prog .gtr 3 v74 v80) fun b81 v82 =>
  okBool (pickR (some (.v (.bool b81))) (some (.v (.bool true))) (some v82)) fun b83 =>
  condB b83
  (RetR h K (.v (.bool false)) h65)
  (okV (aLoad Tryd.prog h65 31 (.ptr i62 0 0 0)) fun v84 =>
  storeR Tryd.prog h65 (fun v85 h86 =>
  nextR h40 I48 m50 [some a1, some a2, some (.ptr i8 0 0 0), some v19, some v24] [some a1, some a2, some (.ptr i8 0 0 0), some v19, some v24] [(.v (.int .i64 (IntKind.wrap .i64 (n52 + 1))))] h86) 31 v84 (.ptr i8 0 0 0))) 31 v59 (.ptr i62 0 0 0))
def Tryd.r3_l23_91 (K : AV → AH → Prop) (h : AH) (G : Nat → Option AV) (v19 : AV) (v24 : AV) (h51 : AH) (n90 : Int) (n107 : Int) : Prop :=
  ∃ (I91 : Nat → List AV → AH → Prop) (m92 : Nat), I91 m92 [(.v (.int .i64 n107))] h51 ∧ ∀ (m93 : Nat) (h94 : AH), h51.length ≤ h94.length → LowH h94.length h94 → ∀ (n95 : Int), I91 m93 [(.v (.int .i64 n95))] h94 →
  condB (decide (n95 < n90))
  (okV (aIA Tryd.prog h94 33 v19 (.v (.int .i64 n95))) fun v96 =>
  okV (aLoad Tryd.prog h94 41 v96) fun v97 =>
  okV (aIA Tryd.prog h94 33 v24 (.v (.int .i64 n95))) fun v98 =>
  okV (aLoad Tryd.prog h94 41 v98) fun v99 =>
  callR Tryd.prog G 9 [v97, (.agg [(.v (.string (ByteArray.mk #[]))), (.v (.string (ByteArray.mk #[])))])] h94 (fun v100 h101 =>
  (aLoad Tryd.prog h101 41 v98 = some v99) ∧ (aIA Tryd.prog h101 33 v24 (.v (.int .i64 n95)) = some v98) ∧ callR Tryd.prog G 9 [v99, (.agg [(.v (.string (ByteArray.mk #[]))), (.v (.string (ByteArray.mk #[])))])] h101 (fun v102 h103 =>
  callR Tryd.prog G 8 [v100, v102] h103 (fun v104 h105 =>
  okBool (some v104) fun b106 =>
  condB (!b106)
  (RetR h K (.v (.bool false)) h105)
  (nextR h51 I91 m93 [some v19, some v24, some (.v (.int .i64 n90))] [some v19, some v24, some (.v (.int .i64 n90))] [(.v (.int .i64 (IntKind.wrap .i64 (n95 + 1))))] h105)))))
  (RetR h K (.v (.bool true)) h94)
def Tryd.r3_l13_48 (G : Nat → Option AV) (h : AH) (K : AV → AH → Prop) (a1 : AV) (a2 : AV) (i8 : Nat) (v19 : AV) (v24 : AV) (h40 : AH) (n108 : Int) : Prop :=
  ∃ (I48 : Nat → List AV → AH → Prop) (m49 : Nat), I48 m49 [(.v (.int .i64 n108))] h40 ∧ ∀ (m50 : Nat) (h51 : AH), h40.length ≤ h51.length → LowH h51.length h51 → ∀ (n52 : Int), I48 m50 [(.v (.int .i64 n52))] h51 →
  okBool (aLoad Tryd.prog h51 4 (.ptr i8 0 0 5)) fun b53 =>
  condB (!b53)
  (okInt .i64 (aLen Tryd.prog h51 22 a2) fun n87 =>
  condB (decide (n52 < n87))
  (okV (aIA Tryd.prog h51 22 a2 (.v (.int .i64 n52))) fun v88 =>
  okInt .i64 (aLoad Tryd.prog h51 3 v88) fun n89 =>
  Tryd.r3_j56 K h G a1 a2 i8 v19 v24 h40 I48 m50 n52 (IntKind.wrap .i64 (1 + (IntKind.wrap .i64 (Int.tmod (IntKind.wrap .u64 n89) 9)))) h51)
  (Tryd.r3_j56 K h G a1 a2 i8 v19 v24 h40 I48 m50 n52 1 h51))
  (okInt .i64 (aLen Tryd.prog h51 33 v19) fun n90 =>
  Tryd.r3_l23_91 K h G v19 v24 h51 n90 0)
def Tryd.r3 (G : Nat → Option AV) (a0 a1 a2 : AV) (h : AH) (K : AV → AH → Prop) : Prop :=
  onlyB (AV.one a0) (newO (.cells 27 (AV.cells a0).length [AV.cells a0] 0) h fun i0 h1 =>
  callR Tryd.prog G 4 [] h1 (fun v2 h3 =>
  okBool (some v2) fun b4 =>
  condB (!b4)
  (RetR h K (.v (.bool false)) h3)
  (okV (aLoad Tryd.prog h3 27 (.ptr i0 0 0 0)) fun v5 =>
  callR Tryd.prog G 5 [v5] h3 (fun v6 h7 =>
  newO (.cells 31 6 [[(.v (.int .i64 0)), (.v (.slice none 0 0)), (.v (.int .i64 0)), (.v (.slice none 0 0)), (.v (.string (ByteArray.mk #[]))), (.v (.bool false))]] 0) h7 fun i8 h9 =>
  storeR Tryd.prog h9 (fun v10 h11 =>
  storeR Tryd.prog h11 (fun v12 h13 =>
  storeR Tryd.prog h13 (fun v14 h15 =>
  okV (aLoad Tryd.prog h15 31 (.ptr i8 0 0 0)) fun v16 =>
  callR Tryd.prog G 6 [v16, a1] h15 (fun v17 h18 =>
  okV (extV 0 v17) fun v19 =>
  okBool (extV 1 v17) fun b20 =>
  okV (aLoad Tryd.prog h18 31 (.ptr i8 0 0 0)) fun v21 =>
  callR Tryd.prog G 6 [v21, a1] h18 (fun v22 h23 =>
  okV (extV 0 v22) fun v24 =>
  okBool (extV 1 v22) fun b25 =>
  rGq (!b20) false (some (.v (.bool b25))) fun b26 v27 =>
  rGq b26 false (aUn .not v27) fun b28 v29 =>
  okBool (pickR (some (.v (.bool b28))) (some (.v (.bool true))) (some v29)) fun b30 =>
  condB b30
  (RetR h K (.v (.bool true)) h23)
  (okV (aLoad Tryd.prog h23 31 (.ptr i8 0 0 0)) fun v31 =>
  callR Tryd.prog G 7 [v31, v24, (.v (.int .i64 4096))] h23 (fun v32 h33 =>
  okV (extV 0 v32) fun v34 =>
  okInt .i64 (extV 1 v32) fun n35 =>
  okInt .i64 (extV 2 v32) fun n36 =>
  newO (.cells 31 6 [[(.v (.int .i64 0)), (.v (.slice none 0 0)), (.v (.int .i64 0)), (.v (.slice none 0 0)), (.v (.string (ByteArray.mk #[]))), (.v (.bool false))]] 0) h33 fun i37 h38 =>
  storeR Tryd.prog h38 (fun v39 h40 =>
  rGq (n36 != 0) false (some (.ptr i37 0 0 5)) fun b41 v42 =>
  rGq b41 false (aLoad Tryd.prog h40 4 v42) fun b43 v44 =>
  rGq b43 false (aUn .not v44) fun b45 v46 =>
  okBool (pickR (some (.v (.bool b45))) (some (.v (.bool true))) (some v46)) fun b47 =>
  condB b47
  (RetR h K (.v (.bool false)) h40)
  (Tryd.r3_l13_48 G h K a1 a2 i8 v19 v24 h40 0)) 31 v34 (.ptr i37 0 0 0)))))) 4 (.v (.bool false)) (.ptr i8 0 0 5)) 9 (.v (.string (ByteArray.mk #[]))) (.ptr i8 0 0 4)) 31 v6 (.ptr i8 0 0 0)))))
theorem Tryd.c3 (G : Nat → Option AV) (a0 a1 a2 : AV) (h : AH) (K : AV → AH → Prop) (hk : LowH h.length h → Tryd.r3 G a0 a1 a2 h K) : SCall Tryd.prog G 3 [a0, a1, a2] h K :=
  scall_of_rwp Tryd.tab3 [(13, [(15, (.int .i64))], [1, 2, 7, 8, 10]), (23, [(101, (.int .i64))], [8, 10, 100])] Tryd.func3 rfl Tryd.ntmps3 (by kernel_rfl) (by show 3 ≤ 119; decide) (by kernel_rfl) (by kernel_rfl) hk
-- 4 skylark/skylarklaw22.works
def Tryd.r4 (G : Nat → Option AV) (h : AH) (K : AV → AH → Prop) : Prop :=
  newO (.cells 3 1 [[(.v (.int .i64 1))], [(.v (.int .i64 0))]] 0) h fun i0 h1 =>
  newO (.cells 3 1 [[(.v (.int .i64 0))], [(.v (.int .i64 1))]] 0) h1 fun i2 h3 =>
  newO (.cells 31 6 [[(.v (.int .i64 0)), (.v (.slice none 0 0)), (.v (.int .i64 0)), (.v (.slice none 0 0)), (.v (.string (ByteArray.mk #[]))), (.v (.bool false))]] 0) h3 fun i4 h5 =>
  storeR Tryd.prog h5 (fun v6 h7 =>
  callR Tryd.prog G 10 [] h7 (fun v8 h9 =>
  callR Tryd.prog G 10 [] h9 (fun v10 h11 =>
  okP (rowsFill 1 (List.replicate 2 [(.v (.pointer none))]) [(0, some v8), (1, some v10)]) fun r12 => newO (.cells 41 1 r12 0) h11 fun i13 h14 =>
  okV (aIA Tryd.prog h14 33 (.sl i13 0 0 2 none) (.v (.int .i64 0))) fun v15 =>
  okV (aLoad Tryd.prog h14 41 v15) fun v16 =>
  okBool (aBin Tryd.prog .eql 41 v16 (.v (.pointer none))) fun b17 =>
  rGq b17 false (some (.sl i13 0 0 2 none)) fun b18 v19 =>
  rGq b18 false (aIA Tryd.prog h14 33 v19 (.v (.int .i64 0))) fun b20 v21 =>
  rGq b20 false (aLoad Tryd.prog h14 41 v21) fun b22 v23 =>
  rGq b22 false (some (.agg [(.v (.string (ByteArray.mk #[97]))), (.v (.int .i64 1)), (.v (.string (ByteArray.mk #[])))])) fun b24 v25 =>
  rGq b24 false (some (.agg [(.v (.string (ByteArray.mk #[98]))), (.v (.int .i64 1)), (.v (.string (ByteArray.mk #[])))])) fun b26 v27 =>
  rGq b26 false (some (.agg [(.v (.string (ByteArray.mk #[99]))), (.v (.int .i64 1)), (.v (.string (ByteArray.mk #[])))])) fun b28 v29 =>
  rGe b28 false (fun k30 => okP (rowsFill 3 (List.replicate 3 [(.v (.string (ByteArray.mk #[]))), (.v (.int .i64 0)), (.v (.string (ByteArray.mk #[])))]) [(0, some v25), (1, some v27), (2, some v29)]) fun r31 => newO (.cells 49 3 r31 0) h14 fun i32 h33 =>
  k30 (.sl i32 0 0 3 none) h33) h14 fun b34 v35 h36 =>
  rGe b34 false (fun k37 => callR Tryd.prog G 11 [v23, v35] h36 (fun v38 h39 =>
  k37 v38 h39)) h36 fun b40 v41 h42 =>
  rGq b40 false (aBin Tryd.prog .neq 36 v41 (.v (.int .i64 0))) fun b43 v44 =>
  okBool (pickR (some (.v (.bool b43))) (some (.v (.bool true))) (some v44)) fun b45 =>
  condB b45
  (RetR h K (.v (.bool false)) h42)
  (okV (aLoad Tryd.prog h42 31 (.ptr i4 0 0 0)) fun v46 =>
  callR Tryd.prog G 7 [v46, (.sl i13 0 0 2 none), (.v (.int .i64 2))] h42 (fun v47 h48 =>
  okV (extV 0 v47) fun v49 =>
  okInt .i64 (extV 1 v47) fun n50 =>
  okInt .i64 (extV 2 v47) fun n51 =>
  storeR Tryd.prog h48 (fun v52 h53 =>
  rGq (n50 != 2) false (some (.v (.int .i64 n51))) fun b54 v55 =>
  rGq b54 false (aBin Tryd.prog .neq 36 v55 (.v (.int .i64 0))) fun b56 v57 =>
  okBool (pickR (some (.v (.bool b56))) (some (.v (.bool true))) (some v57)) fun b58 =>
  rGq b58 false (some (.ptr i4 0 0 4)) fun b59 v60 =>
  rGq b59 false (aLoad Tryd.prog h53 9 v60) fun b61 v62 =>
  rGq b61 false (aBin Tryd.prog .neq 9 v62 (.v (.string (ByteArray.mk #[99])))) fun b63 v64 =>
  okBool (pickR (some (.v (.bool b63))) (some (.v (.bool true))) (some v64)) fun b65 =>
  rGq b65 false (some (.ptr i4 0 0 5)) fun b66 v67 =>
  rGq b66 false (aLoad Tryd.prog h53 4 v67) fun b68 v69 =>
  okBool (pickR (some (.v (.bool b68))) (some (.v (.bool true))) (some v69)) fun b70 =>
  rGq b70 false (some (.sl i13 0 0 2 none)) fun b71 v72 =>
  rGq b71 false (aIA Tryd.prog h53 33 v72 (.v (.int .i64 0))) fun b73 v74 =>
  rGq b73 false (aLoad Tryd.prog h53 41 v74) fun b75 v76 =>
  rGe b75 false (fun k77 => callR Tryd.prog G 12 [v76] h53 (fun v78 h79 =>
  k77 v78 h79)) h53 fun b80 v81 h82 =>
  rGq b80 false (aBin Tryd.prog .neq 3 v81 (.v (.int .i64 1))) fun b83 v84 =>
  okBool (pickR (some (.v (.bool b83))) (some (.v (.bool true))) (some v84)) fun b85 =>
  condB b85
  (RetR h K (.v (.bool false)) h82)
  (okV (aLoad Tryd.prog h82 31 (.ptr i4 0 0 0)) fun v86 =>
  callR Tryd.prog G 7 [v86, (.sl i13 0 0 2 none), (.v (.int .i64 2))] h82 (fun v87 h88 =>
  okV (extV 0 v87) fun v89 =>
  okInt .i64 (extV 1 v87) fun n90 =>
  okInt .i64 (extV 2 v87) fun n91 =>
  storeR Tryd.prog h88 (fun v92 h93 =>
  rGq (n90 == 1) true (some (.v (.int .i64 n91))) fun b94 v95 =>
  rGq b94 true (aBin Tryd.prog .eql 36 v95 (.v (.int .i64 0))) fun b96 v97 =>
  okBool (pickR (some (.v (.bool b96))) (some v97) (some (.v (.bool false)))) fun b98 =>
  rGq b98 true (some (.ptr i4 0 0 5)) fun b99 v100 =>
  rGq b99 true (aLoad Tryd.prog h93 4 v100) fun b101 v102 =>
  okBool (pickR (some (.v (.bool b101))) (some v102) (some (.v (.bool false)))) fun b103 =>
  rGq b103 true (some (.sl i13 0 0 2 none)) fun b104 v105 =>
  rGq b104 true (aIA Tryd.prog h93 33 v105 (.v (.int .i64 1))) fun b106 v107 =>
  rGq b106 true (aLoad Tryd.prog h93 41 v107) fun b108 v109 =>
  rGe b108 true (fun k110 => callR Tryd.prog G 12 [v109] h93 (fun v111 h112 =>
  k110 v111 h112)) h93 fun b113 v114 h115 =>
  rGq b113 true (aBin Tryd.prog .eql 3 v114 (.v (.int .i64 3))) fun b116 v117 =>
  okBool (pickR (some (.v (.bool b116))) (some v117) (some (.v (.bool false)))) fun b118 =>
  RetR h K (.v (.bool b118)) h115) 31 v89 (.ptr i4 0 0 0)))) 31 v49 (.ptr i4 0 0 0)))))) 31 (.agg [(.v (.int .i64 1)), (.sl i0 0 0 2 none), (.v (.int .i64 2)), (.sl i2 0 0 2 none), (.v (.string (ByteArray.mk #[]))), (.v (.bool false))]) (.ptr i4 0 0 0)
theorem Tryd.c4 (G : Nat → Option AV) (h : AH) (K : AV → AH → Prop) (hk : LowH h.length h → Tryd.r4 G h K) : SCall Tryd.prog G 4 [] h K :=
  scall_of_rwp Tryd.tab4 [] Tryd.func4 rfl Tryd.ntmps4 (by kernel_rfl) (by show 0 ≤ 81; decide) (by kernel_rfl) (by kernel_rfl) hk
-- 5 (skylark/skylarklaw22.Plan).theirs
def Tryd.r5 (a0 : AV) (h : AH) (K : AV → AH → Prop) : Prop :=
  onlyB (AV.one a0) (newO (.cells 27 (AV.cells a0).length [AV.cells a0] 0) h fun i0 h1 =>
  newO (.cells 31 6 [[(.v (.int .i64 0)), (.v (.slice none 0 0)), (.v (.int .i64 0)), (.v (.slice none 0 0)), (.v (.string (ByteArray.mk #[]))), (.v (.bool false))]] 0) h1 fun i2 h3 =>
  okV (aLoad Tryd.prog h3 24 (.ptr i0 0 0 0)) fun v4 =>
  okV (aLoad Tryd.prog h3 24 (.ptr i0 0 0 2)) fun v5 =>
  okStr (aLoad Tryd.prog h3 9 (.ptr i0 0 0 4)) fun s6 =>
  okBool (aLoad Tryd.prog h3 4 (.ptr i0 0 0 5)) fun b7 =>
  okV (aBuild Tryd.prog 31 [(0, some v4), (1, some v5), (2, some (.v (.string s6))), (3, some (.v (.bool b7)))]) fun v8 =>
  storeR Tryd.prog h3 (fun v9 h10 =>
  okV (aLoad Tryd.prog h10 31 (.ptr i2 0 0 0)) fun v11 =>
  RetR h K v11 h10) 31 v8 (.ptr i2 0 0 0))
theorem Tryd.c5 (G : Nat → Option AV) (a0 : AV) (h : AH) (K : AV → AH → Prop) (hk : LowH h.length h → Tryd.r5 a0 h K) : SCall Tryd.prog G 5 [a0] h K :=
  scall_of_rwp Tryd.tab5 [] Tryd.func5 rfl Tryd.ntmps5 (by kernel_rfl) (by show 1 ≤ 12; decide) (by kernel_rfl) (by kernel_rfl) hk
-- 6 skylark/skylarklaw22.apart
def Tryd.r6_l9_29 (K : AV → AH → Prop) (h : AH) (G : Nat → Option AV) (a1 : AV) (i0 : Nat) (h18 : AH) (v19 : AV) (n28 : Int) (n98 : Int) : Prop :=
  ∃ (I29 : Nat → List AV → AH → Prop) (m30 : Nat), I29 m30 [(.v (.int .i64 n98))] h18 ∧ ∀ (m31 : Nat) (h32 : AH), h18.length ≤ h32.length → LowH h32.length h32 → ∀ (n33 : Int), I29 m31 [(.v (.int .i64 n33))] h32 →
  condB (decide (n33 < n28))
  (okV (aIA Tryd.prog h32 28 a1 (.v (.int .i64 n33))) fun v34 =>
  okV (aLoad Tryd.prog h32 49 v34) fun v35 =>
  newO (.cells 49 3 [[(.v (.string (ByteArray.mk #[]))), (.v (.int .i64 0)), (.v (.string (ByteArray.mk #[])))]] 0) h32 fun i36 h37 =>
  storeR Tryd.prog h37 (fun v38 h39 =>
  okV (aLoad Tryd.prog h39 31 (.ptr i0 0 0 0)) fun v40 =>
  okStr (aLoad Tryd.prog h39 9 (.ptr i36 0 0 0)) fun s41 =>
  callR Tryd.prog G 14 [v40, (.v (.string s41))] h39 (fun v42 h43 =>
  okInt .i64 (extV 0 v42) fun n44 =>
  okInt .i64 (extV 1 v42) fun n45 =>
  rGq (n45 != 0) false (some (.v (.int .i64 n44))) fun b46 v47 =>
  rGq b46 false (aBin Tryd.prog .lss 3 v47 (.v (.int .i64 0))) fun b48 v49 =>
  okBool (pickR (some (.v (.bool b48))) (some (.v (.bool true))) (some v49)) fun b50 =>
  rGq b50 false (some (.v (.int .i64 n44))) fun b51 v52 =>
  rGq b51 false (some v19) fun b53 v54 =>
  rGq b53 false (aLen Tryd.prog h43 33 v54) fun b55 v56 =>
  rGq b55 false (aBin Tryd.prog .geq 3 v52 v56) fun b57 v58 =>
  okBool (pickR (some (.v (.bool b57))) (some (.v (.bool true))) (some v58)) fun b59 =>
  rGq b59 false (some v19) fun b60 v61 =>
  rGq b60 false (some (.v (.int .i64 n44))) fun b62 v63 =>
  rGq b62 false (aIA Tryd.prog h43 33 v61 v63) fun b64 v65 =>
  rGq b64 false (aLoad Tryd.prog h43 41 v65) fun b66 v67 =>
  rGq b66 false (aBin Tryd.prog .eql 41 v67 (.v (.pointer none))) fun b68 v69 =>
  okBool (pickR (some (.v (.bool b68))) (some (.v (.bool true))) (some v69)) fun b70 =>
  rGq b70 false (some v19) fun b71 v72 =>
  rGq b71 false (some (.v (.int .i64 n44))) fun b73 v74 =>
  rGq b73 false (aIA Tryd.prog h43 33 v72 v74) fun b75 v76 =>
  rGq b75 false (aLoad Tryd.prog h43 41 v76) fun b77 v78 =>
  rGq b77 false (some a1) fun b79 v80 =>
  rGq b79 false (some (.v (.int .i64 n33))) fun b81 v82 =>
  rGq b81 false (some (.v (.int .i64 n33))) fun b83 v84 =>
  rGq b83 false (aBin Tryd.prog .add 3 v84 (.v (.int .i64 1))) fun b85 v86 =>
  rGq b85 false (aSlice Tryd.prog h43 28 v80 (some (some v82)) (some (some v86)) none) fun b87 v88 =>
  rGe b87 false (fun k89 => callR Tryd.prog G 11 [v78, v88] h43 (fun v90 h91 =>
  k89 v90 h91)) h43 fun b92 v93 h94 =>
  rGq b92 false (aBin Tryd.prog .neq 36 v93 (.v (.int .i64 0))) fun b95 v96 =>
  okBool (pickR (some (.v (.bool b95))) (some (.v (.bool true))) (some v96)) fun b97 =>
  condB b97
  (RetR h K (.tup [(.v (.slice none 0 0)), (.v (.bool false))]) h94)
  (nextR h18 I29 m31 [some a1, some (.ptr i0 0 0 0), some v19, some a1, some (.v (.int .i64 n28))] [some a1, some (.ptr i0 0 0 0), some v19, some a1, some (.v (.int .i64 n28))] [(.v (.int .i64 (IntKind.wrap .i64 (n33 + 1))))] h94))) 49 v35 (.ptr i36 0 0 0))
  (RetR h K (.tup [v19, (.v (.bool true))]) h32)
def Tryd.r6_l5_15 (G : Nat → Option AV) (h : AH) (K : AV → AH → Prop) (a1 : AV) (i0 : Nat) (h4 : AH) (n14 : Int) (v99 : AV) (n100 : Int) : Prop :=
  ∃ (I15 : Nat → List AV → AH → Prop) (m16 : Nat), I15 m16 [v99, (.v (.int .i64 n100))] h4 ∧ ∀ (m17 : Nat) (h18 : AH), h4.length ≤ h18.length → LowH h18.length h18 → ∀ (v19 : AV) (n20 : Int), I15 m17 [v19, (.v (.int .i64 n20))] h18 →
  condB (decide (n20 < n14))
  (callR Tryd.prog G 10 [] h18 (fun v21 h22 =>
  okP (rowsFill 1 (List.replicate 1 [(.v (.pointer none))]) [(0, some v21)]) fun r23 => newO (.cells 41 1 r23 0) h22 fun i24 h25 =>
  appR Tryd.prog h25 33 33 v19 (.sl i24 0 0 1 none) (fun v26 h27 =>
  nextR h4 I15 m17 [some a1, some (.ptr i0 0 0 0), some (.v (.int .i64 n14))] [some a1, some (.ptr i0 0 0 0), some (.v (.int .i64 n14))] [v26, (.v (.int .i64 (IntKind.wrap .i64 (n20 + 1))))] h27)))
  (okInt .i64 (aLen Tryd.prog h18 28 a1) fun n28 =>
  Tryd.r6_l9_29 K h G a1 i0 h18 v19 n28 0)
def Tryd.r6 (G : Nat → Option AV) (a0 a1 : AV) (h : AH) (K : AV → AH → Prop) : Prop :=
  onlyB (AV.one a0) (newO (.cells 31 (AV.cells a0).length [AV.cells a0] 0) h fun i0 h1 =>
  okV (aLoad Tryd.prog h1 31 (.ptr i0 0 0 0)) fun v2 =>
  callR Tryd.prog G 13 [v2] h1 (fun v3 h4 =>
  okInt .i64 (some v3) fun n5 =>
  rGq (n5 != 0) false (some a1) fun b6 v7 =>
  rGq b6 false (aLen Tryd.prog h4 28 v7) fun b8 v9 =>
  rGq b8 false (aBin Tryd.prog .gtr 3 v9 (.v (.int .i64 60))) fun b10 v11 =>
  okBool (pickR (some (.v (.bool b10))) (some (.v (.bool true))) (some v11)) fun b12 =>
  condB b12
  (RetR h K (.tup [(.v (.slice none 0 0)), (.v (.bool false))]) h4)
  (okV (aLoad Tryd.prog h4 22 (.ptr i0 0 0 3)) fun v13 =>
  okInt .i64 (aLen Tryd.prog h4 22 v13) fun n14 =>
  Tryd.r6_l5_15 G h K a1 i0 h4 n14 (.v (.slice none 0 0)) 0)))
theorem Tryd.c6 (G : Nat → Option AV) (a0 a1 : AV) (h : AH) (K : AV → AH → Prop) (hk : LowH h.length h → Tryd.r6 G a0 a1 h K) : SCall Tryd.prog G 6 [a0, a1] h K :=
  scall_of_rwp Tryd.tab6 [(5, [(6, .any), (23, (.int .i64))], [1, 2, 22]), (9, [(32, (.int .i64))], [1, 2, 6, 30, 31])] Tryd.func6 rfl Tryd.ntmps6 (by kernel_rfl) (by show 2 ≤ 78; decide) (by kernel_rfl) (by kernel_rfl) hk
-- 7 skylark/move.Step
def Tryd.r7_l41_142 (K : AV → AH → Prop) (h : AH) (G : Nat → Option AV) (i0 : Nat) (i2 : Nat) (v20 : AV) (s44 : ByteArray) (v45 : AV) (b46 : Bool) (v53 : AV) (v78 : AV) (h124 : AH) (n141 : Int) (n167 : Int) : Prop :=
  ∃ (I142 : Nat → List AV → AH → Prop) (m143 : Nat), I142 m143 [(.v (.int .i64 n167))] h124 ∧ ∀ (m144 : Nat) (h145 : AH), h124.length ≤ h145.length → LowH h145.length h145 → ∀ (n146 : Int), I142 m144 [(.v (.int .i64 n146))] h145 →
  condB (decide (n146 < n141))
  (okV (aIA Tryd.prog h145 22 v45 (.v (.int .i64 n146))) fun v147 =>
  okInt .i64 (aLoad Tryd.prog h145 3 v147) fun n148 =>
  okV (aIA Tryd.prog h145 22 v78 (.v (.int .i64 n146))) fun v149 =>
  okInt .i64 (aLoad Tryd.prog h145 3 v149) fun n150 =>
  okV (aIA Tryd.prog h145 59 v53 (.v (.int .i64 n150))) fun v151 =>
  okV (aLoad Tryd.prog h145 63 v151) fun v152 =>
  okV (aSlice Tryd.prog h145 28 v20 (some (some (.v (.int .i64 n148)))) (some (some (.v (.int .i64 (IntKind.wrap .i64 (n148 + 1)))))) none) fun v153 =>
  okV (aNil v152) fun v154 =>
  callI Tryd.prog G h145 (fun v155 h156 =>
  okInt .i64 (some v155) fun n157 =>
  nextR h124 I142 m144 [some (.ptr i0 0 0 0), some (.ptr i2 0 0 0), some v20, some (.v (.string s44)), some v45, some (.v (.bool b46)), some v53, some v78, some v45, some (.v (.int .i64 n141))] [some (.ptr i0 0 0 0), some (.ptr i2 0 0 0), some v20, some (.v (.string s44)), some v45, some (.v (.bool b46)), some v53, some v78, some v45, some (.v (.int .i64 n141))] [(.v (.int .i64 (IntKind.wrap .i64 (n146 + 1))))] h156) [v153] "Take" v152)
  (storeR Tryd.prog h145 (fun v158 h159 =>
  storeR Tryd.prog h159 (fun v160 h161 =>
  okV (aLoad Tryd.prog h161 31 (.ptr i0 0 0 0)) fun v162 =>
  okInt .i64 (aLen Tryd.prog h161 22 v45) fun n163 =>
  storeR Tryd.prog h161 (fun v164 h165 =>
  okV (aLoad Tryd.prog h165 31 (.ptr i2 0 0 0)) fun v166 =>
  RetR h K (.tup [v166, (.v (.int .i64 n163)), (.v (.int .i64 0))]) h165) 31 v162 (.ptr i2 0 0 0)) 4 (.v (.bool b46)) (.ptr i0 0 0 5)) 9 (.v (.string s44)) (.ptr i0 0 0 4))
def Tryd.r7_l36_121 (G : Nat → Option AV) (h : AH) (K : AV → AH → Prop) (i0 : Nat) (i2 : Nat) (v20 : AV) (v27 : AV) (s44 : ByteArray) (v45 : AV) (b46 : Bool) (v53 : AV) (v77 : AV) (v78 : AV) (h115 : AH) (n120 : Int) (n168 : Int) : Prop :=
  ∃ (I121 : Nat → List AV → AH → Prop) (m122 : Nat), I121 m122 [(.v (.int .i64 n168))] h115 ∧ ∀ (m123 : Nat) (h124 : AH), h115.length ≤ h124.length → LowH h124.length h124 → ∀ (n125 : Int), I121 m123 [(.v (.int .i64 n125))] h124 →
  condB (decide (n125 < n120))
  (okV (aIA Tryd.prog h124 22 v45 (.v (.int .i64 n125))) fun v126 =>
  okInt .i64 (aLoad Tryd.prog h124 3 v126) fun n127 =>
  okV (aIA Tryd.prog h124 22 v77 (.v (.int .i64 n125))) fun v128 =>
  okInt .i64 (aLoad Tryd.prog h124 3 v128) fun n129 =>
  okV (aIA Tryd.prog h124 59 v53 (.v (.int .i64 n129))) fun v130 =>
  okV (aLoad Tryd.prog h124 63 v130) fun v131 =>
  okV (aIA Tryd.prog h124 56 v27 (.v (.int .i64 n127))) fun v132 =>
  okStr (aLoad Tryd.prog h124 9 v132) fun s133 =>
  okV (aIA Tryd.prog h124 56 v27 (.v (.int .i64 n127))) fun v134 =>
  okStr (aLoad Tryd.prog h124 9 v134) fun s135 =>
  okStr (aBin Tryd.prog .add 9 (.v (.string s135)) (.v (.string (ByteArray.mk #[0])))) fun s136 =>
  okV (aNil v131) fun v137 =>
  callI Tryd.prog G h124 (fun v138 h139 =>
  okInt .i64 (some v138) fun n140 =>
  nextR h115 I121 m123 [some (.ptr i0 0 0 0), some (.ptr i2 0 0 0), some v20, some v27, some (.v (.string s44)), some v45, some (.v (.bool b46)), some v53, some v77, some v78, some v45, some (.v (.int .i64 n120))] [some (.ptr i0 0 0 0), some (.ptr i2 0 0 0), some v20, some v27, some (.v (.string s44)), some v45, some (.v (.bool b46)), some v53, some v77, some v78, some v45, some (.v (.int .i64 n120))] [(.v (.int .i64 (IntKind.wrap .i64 (n125 + 1))))] h139) [(.agg [(.v (.string s133)), (.v (.string s136))])] "Drop" v131)
  (okInt .i64 (aLen Tryd.prog h124 22 v45) fun n141 =>
  Tryd.r7_l41_142 K h G i0 i2 v20 s44 v45 b46 v53 v78 h124 n141 0)
def Tryd.r7_l25_73 (K : AV → AH → Prop) (h : AH) (G : Nat → Option AV) (i0 : Nat) (i2 : Nat) (v20 : AV) (v27 : AV) (s44 : ByteArray) (v45 : AV) (b46 : Bool) (v53 : AV) (n55 : Int) (i56 : Nat) (h62 : AH) (n72 : Int) (v169 : AV) (v170 : AV) (n171 : Int) : Prop :=
  ∃ (I73 : Nat → List AV → AH → Prop) (m74 : Nat), I73 m74 [v169, v170, (.v (.int .i64 n171))] h62 ∧ ∀ (m75 : Nat) (h76 : AH), h62.length ≤ h76.length → LowH h76.length h76 → ∀ (v77 : AV) (v78 : AV) (n79 : Int), I73 m75 [v77, v78, (.v (.int .i64 n79))] h76 →
  condB (decide (n79 < n72))
  (okV (aIA Tryd.prog h76 22 v45 (.v (.int .i64 n79))) fun v80 =>
  okInt .i64 (aLoad Tryd.prog h76 3 v80) fun n81 =>
  okV (aLoad Tryd.prog h76 22 (.ptr i0 0 0 1)) fun v82 =>
  okV (aIA Tryd.prog h76 56 v27 (.v (.int .i64 n81))) fun v83 =>
  okStr (aLoad Tryd.prog h76 9 v83) fun s84 =>
  callR Tryd.prog G 19 [v82, (.v (.string s84))] h76 (fun v85 h86 =>
  okInt .i64 (extV 0 v85) fun n87 =>
  okInt .i64 (extV 1 v85) fun n88 =>
  okV (aLoad Tryd.prog h86 22 (.ptr i0 0 0 3)) fun v89 =>
  okV (aIA Tryd.prog h86 56 v27 (.v (.int .i64 n81))) fun v90 =>
  okStr (aLoad Tryd.prog h86 9 v90) fun s91 =>
  callR Tryd.prog G 19 [v89, (.v (.string s91))] h86 (fun v92 h93 =>
  okInt .i64 (extV 0 v92) fun n94 =>
  okInt .i64 (extV 1 v92) fun n95 =>
  newO (.cells 3 1 [[(.v (.int .i64 n87))]] 0) h93 fun i96 h97 =>
  appR Tryd.prog h97 22 22 v77 (.sl i96 0 0 1 none) (fun v98 h99 =>
  newO (.cells 3 1 [[(.v (.int .i64 n94))]] 0) h99 fun i100 h101 =>
  appR Tryd.prog h101 22 22 v78 (.sl i100 0 0 1 none) (fun v102 h103 =>
  okV (aIA Tryd.prog h103 22 (.sl i56 0 0 (Int.toNat n55) none) (.v (.int .i64 n87))) fun v104 =>
  okInt .i64 (aLoad Tryd.prog h103 3 v104) fun n105 =>
  okV (aIA Tryd.prog h103 22 (.sl i56 0 0 (Int.toNat n55) none) (.v (.int .i64 n87))) fun v106 =>
  storeR Tryd.prog h103 (fun v107 h108 =>
  okV (aIA Tryd.prog h108 22 (.sl i56 0 0 (Int.toNat n55) none) (.v (.int .i64 n94))) fun v109 =>
  okInt .i64 (aLoad Tryd.prog h108 3 v109) fun n110 =>
  okV (aIA Tryd.prog h108 22 (.sl i56 0 0 (Int.toNat n55) none) (.v (.int .i64 n94))) fun v111 =>
  storeR Tryd.prog h108 (fun v112 h113 =>
  nextR h62 I73 m75 [some (.ptr i0 0 0 0), some (.ptr i2 0 0 0), some v20, some v27, some (.v (.string s44)), some v45, some (.v (.bool b46)), some v53, some (.sl i56 0 0 (Int.toNat n55) none), some v45, some (.v (.int .i64 n72))] [some (.ptr i0 0 0 0), some (.ptr i2 0 0 0), some v20, some v27, some (.v (.string s44)), some v45, some (.v (.bool b46)), some v53, some (.sl i56 0 0 (Int.toNat n55) none), some v45, some (.v (.int .i64 n72))] [v98, v102, (.v (.int .i64 (IntKind.wrap .i64 (n79 + 1))))] h113) 3 (.v (.int .i64 (IntKind.wrap .i64 (n110 + 1)))) v111) 3 (.v (.int .i64 (IntKind.wrap .i64 (n105 - 1)))) v106)))))
  (callR Tryd.prog G 20 [(.sl i56 0 0 (Int.toNat n55) none)] h76 (fun v114 h115 =>
  okInt .i64 (some v114) fun n116 =>
  condB (decide (n116 > 4096))
  (storeR Tryd.prog h115 (fun v117 h118 =>
  okV (aLoad Tryd.prog h118 31 (.ptr i2 0 0 0)) fun v119 =>
  RetR h K (.tup [v119, (.v (.int .i64 0)), (.v (.int .i64 22))]) h118) 31 (.agg [(.v (.int .i64 0)), (.v (.slice none 0 0)), (.v (.int .i64 0)), (.v (.slice none 0 0)), (.v (.string (ByteArray.mk #[]))), (.v (.bool false))]) (.ptr i2 0 0 0))
  (okInt .i64 (aLen Tryd.prog h115 22 v45) fun n120 =>
  Tryd.r7_l36_121 G h K i0 i2 v20 v27 s44 v45 b46 v53 v77 v78 h115 n120 0)))
def Tryd.r7_l19_59 (G : Nat → Option AV) (h : AH) (K : AV → AH → Prop) (i0 : Nat) (i2 : Nat) (v20 : AV) (v27 : AV) (s44 : ByteArray) (v45 : AV) (b46 : Bool) (v53 : AV) (n55 : Int) (i56 : Nat) (h57 : AH) (n58 : Int) (n172 : Int) : Prop :=
  ∃ (I59 : Nat → List AV → AH → Prop) (m60 : Nat), I59 m60 [(.v (.int .i64 n172))] h57 ∧ ∀ (m61 : Nat) (h62 : AH), h57.length ≤ h62.length → LowH h62.length h62 → ∀ (n63 : Int), I59 m61 [(.v (.int .i64 n63))] h62 →
  condB (decide (n63 < n58))
  (okV (aIA Tryd.prog h62 59 v53 (.v (.int .i64 n63))) fun v64 =>
  okV (aLoad Tryd.prog h62 63 v64) fun v65 =>
  callI Tryd.prog G h62 (fun v66 h67 =>
  okInt .i64 (some v66) fun n68 =>
  okV (aIA Tryd.prog h67 22 (.sl i56 0 0 (Int.toNat n55) none) (.v (.int .i64 n63))) fun v69 =>
  storeR Tryd.prog h67 (fun v70 h71 =>
  nextR h57 I59 m61 [some (.ptr i0 0 0 0), some (.ptr i2 0 0 0), some v20, some v27, some (.v (.string s44)), some v45, some (.v (.bool b46)), some v53, some (.sl i56 0 0 (Int.toNat n55) none), some v53, some (.v (.int .i64 n58))] [some (.ptr i0 0 0 0), some (.ptr i2 0 0 0), some v20, some v27, some (.v (.string s44)), some v45, some (.v (.bool b46)), some v53, some (.sl i56 0 0 (Int.toNat n55) none), some v53, some (.v (.int .i64 n58))] [(.v (.int .i64 (IntKind.wrap .i64 (n63 + 1))))] h71) 3 (.v (.int .i64 n68)) v69) [] "Len" v65)
  (okInt .i64 (aLen Tryd.prog h62 22 v45) fun n72 =>
  Tryd.r7_l25_73 K h G i0 i2 v20 v27 s44 v45 b46 v53 n55 i56 h62 n72 (.v (.slice none 0 0)) (.v (.slice none 0 0)) 0)
def Tryd.r7_l9_23 (K : AV → AH → Prop) (h : AH) (G : Nat → Option AV) (a1 : AV) (a2 : AV) (i0 : Nat) (i2 : Nat) (v20 : AV) (h21 : AH) (n22 : Int) (v173 : AV) (n174 : Int) : Prop :=
  ∃ (I23 : Nat → List AV → AH → Prop) (m24 : Nat), I23 m24 [v173, (.v (.int .i64 n174))] h21 ∧ ∀ (m25 : Nat) (h26 : AH), h21.length ≤ h26.length → LowH h26.length h26 → ∀ (v27 : AV) (n28 : Int), I23 m25 [v27, (.v (.int .i64 n28))] h26 →
  condB (decide (n28 < n22))
  (okV (aIA Tryd.prog h26 28 v20 (.v (.int .i64 n28))) fun v29 =>
  okV (aLoad Tryd.prog h26 49 v29) fun v30 =>
  newO (.cells 49 3 [[(.v (.string (ByteArray.mk #[]))), (.v (.int .i64 0)), (.v (.string (ByteArray.mk #[])))]] 0) h26 fun i31 h32 =>
  storeR Tryd.prog h32 (fun v33 h34 =>
  okStr (aLoad Tryd.prog h34 9 (.ptr i31 0 0 0)) fun s35 =>
  newO (.cells 9 1 [[(.v (.string s35))]] 0) h34 fun i36 h37 =>
  appR Tryd.prog h37 56 56 v27 (.sl i36 0 0 1 none) (fun v38 h39 =>
  nextR h21 I23 m25 [some a1, some a2, some (.ptr i0 0 0 0), some (.ptr i2 0 0 0), some v20, some v20, some (.v (.int .i64 n22))] [some a1, some a2, some (.ptr i0 0 0 0), some (.ptr i2 0 0 0), some v20, some v20, some (.v (.int .i64 n22))] [v38, (.v (.int .i64 (IntKind.wrap .i64 (n28 + 1))))] h39)) 49 v30 (.ptr i31 0 0 0))
  (okV (aLoad Tryd.prog h26 31 (.ptr i0 0 0 0)) fun v40 =>
  okInt .i64 (some a2) fun n41 =>
  callR Tryd.prog G 17 [v40, v27, (.v (.int .i64 n41))] h26 (fun v42 h43 =>
  okStr (extV 0 v42) fun s44 =>
  okV (extV 1 v42) fun v45 =>
  okBool (extV 2 v42) fun b46 =>
  okInt .i64 (extV 3 v42) fun n47 =>
  condB (n47 != 0)
  (storeR Tryd.prog h43 (fun v48 h49 =>
  okV (aLoad Tryd.prog h49 31 (.ptr i2 0 0 0)) fun v50 =>
  RetR h K (.tup [v50, (.v (.int .i64 0)), (.v (.int .i64 n47))]) h49) 31 (.agg [(.v (.int .i64 0)), (.v (.slice none 0 0)), (.v (.int .i64 0)), (.v (.slice none 0 0)), (.v (.string (ByteArray.mk #[]))), (.v (.bool false))]) (.ptr i2 0 0 0))
  (callR Tryd.prog G 18 [a1] h43 (fun v51 h52 =>
  okV (extV 0 v51) fun v53 =>
  okBool (extV 1 v51) fun b54 =>
  okInt .i64 (aLen Tryd.prog h52 59 v53) fun n55 =>
  ((0 : Int) ≤ n55 ∧ n55 ≤ n55 ∧ (((8 : Nat) : Int)) * n55 ≤ 281474976710656 ∧ n55 ≤ 4611686018427387904) ∧ newO (.cells 3 1 (List.replicate (Int.toNat n55) [(.v (.int .i64 0))]) 0) h52 fun i56 h57 =>
  okInt .i64 (aLen Tryd.prog h57 59 v53) fun n58 =>
  Tryd.r7_l19_59 G h K i0 i2 v20 v27 s44 v45 b46 v53 n55 i56 h57 n58 0))))
def Tryd.r7 (G : Nat → Option AV) (a0 a1 a2 : AV) (h : AH) (K : AV → AH → Prop) : Prop :=
  onlyB (AV.one a0) (newO (.cells 31 (AV.cells a0).length [AV.cells a0] 0) h fun i0 h1 =>
  newO (.cells 31 6 [[(.v (.int .i64 0)), (.v (.slice none 0 0)), (.v (.int .i64 0)), (.v (.slice none 0 0)), (.v (.string (ByteArray.mk #[]))), (.v (.bool false))]] 0) h1 fun i2 h3 =>
  okV (aLoad Tryd.prog h3 31 (.ptr i0 0 0 0)) fun v4 =>
  callR Tryd.prog G 15 [v4, a1] h3 (fun v5 h6 =>
  okInt .i64 (some v5) fun n7 =>
  condB (n7 != 0)
  (storeR Tryd.prog h6 (fun v8 h9 =>
  okV (aLoad Tryd.prog h9 31 (.ptr i2 0 0 0)) fun v10 =>
  RetR h K (.tup [v10, (.v (.int .i64 0)), (.v (.int .i64 n7))]) h9) 31 (.agg [(.v (.int .i64 0)), (.v (.slice none 0 0)), (.v (.int .i64 0)), (.v (.slice none 0 0)), (.v (.string (ByteArray.mk #[]))), (.v (.bool false))]) (.ptr i2 0 0 0))
  (okBool (aLoad Tryd.prog h6 4 (.ptr i0 0 0 5)) fun b11 =>
  rGq b11 false (some a2) fun b12 v13 =>
  rGq b12 false (aBin Tryd.prog .lss 3 v13 (.v (.int .i64 1))) fun b14 v15 =>
  okBool (pickR (some (.v (.bool b14))) (some (.v (.bool true))) (some v15)) fun b16 =>
  condB b16
  (storeR Tryd.prog h6 (fun v17 h18 =>
  okV (aLoad Tryd.prog h18 31 (.ptr i2 0 0 0)) fun v19 =>
  RetR h K (.tup [v19, (.v (.int .i64 0)), (.v (.int .i64 1))]) h18) 31 (.agg [(.v (.int .i64 0)), (.v (.slice none 0 0)), (.v (.int .i64 0)), (.v (.slice none 0 0)), (.v (.string (ByteArray.mk #[]))), (.v (.bool false))]) (.ptr i2 0 0 0))
  (callR Tryd.prog G 16 [a1] h6 (fun v20 h21 =>
  okInt .i64 (aLen Tryd.prog h21 28 v20) fun n22 =>
  Tryd.r7_l9_23 K h G a1 a2 i0 i2 v20 h21 n22 (.v (.slice none 0 0)) 0)))))
theorem Tryd.c7 (G : Nat → Option AV) (a0 a1 a2 : AV) (h : AH) (K : AV → AH → Prop) (hk : LowH h.length h → Tryd.r7 G a0 a1 a2 h K) : SCall Tryd.prog G 7 [a0, a1, a2] h K :=
  scall_of_rwp Tryd.tab7 [(9, [(11, .any), (53, (.int .i64))], [1, 2, 3, 6, 10, 51, 52]), (19, [(86, (.int .i64))], [3, 6, 10, 11, 14, 15, 16, 18, 20, 84, 85]), (25, [(23, .any), (24, .any), (99, (.int .i64))], [3, 6, 10, 11, 14, 15, 16, 18, 20, 97, 98]), (36, [(152, (.int .i64))], [3, 6, 10, 11, 14, 15, 16, 18, 23, 24, 150, 151]), (41, [(180, (.int .i64))], [3, 6, 10, 14, 15, 16, 18, 24, 178, 179])] Tryd.func7 rfl Tryd.ntmps7 (by kernel_rfl) (by show 3 ≤ 208; decide) (by kernel_rfl) (by kernel_rfl) hk
-- 8 skylark/skylarkbook.SameRows
def Tryd.r8_l4_2 (K : AV → AH → Prop) (h : AH) (a0 : AV) (a1 : AV) (n13 : Int) : Prop :=
  ∃ (I2 : Nat → List AV → AH → Prop) (m3 : Nat), I2 m3 [(.v (.int .i64 n13))] h ∧ ∀ (m4 : Nat) (h5 : AH), h.length ≤ h5.length → LowH h5.length h5 → ∀ (n6 : Int), I2 m4 [(.v (.int .i64 n6))] h5 →
  okInt .i64 (aLen Tryd.prog h5 28 a0) fun n7 =>
  condB (decide (n6 < n7))
  (okV (aIA Tryd.prog h5 28 a0 (.v (.int .i64 n6))) fun v8 =>
  okV (aLoad Tryd.prog h5 49 v8) fun v9 =>
  okV (aIA Tryd.prog h5 28 a1 (.v (.int .i64 n6))) fun v10 =>
  okV (aLoad Tryd.prog h5 49 v10) fun v11 =>
  okBool (aBin Tryd.prog .neq 49 v9 v11) fun b12 =>
  condB b12
  (RetR h K (.v (.bool false)) h5)
  (nextR h I2 m4 [some a0, some a1] [some a0, some a1] [(.v (.int .i64 (IntKind.wrap .i64 (n6 + 1))))] h5))
  (RetR h K (.v (.bool true)) h5)
def Tryd.r8 (a0 a1 : AV) (h : AH) (K : AV → AH → Prop) : Prop :=
  okInt .i64 (aLen Tryd.prog h 28 a0) fun n0 =>
  okInt .i64 (aLen Tryd.prog h 28 a1) fun n1 =>
  condB (n0 != n1)
  (RetR h K (.v (.bool false)) h)
  (Tryd.r8_l4_2 K h a0 a1 0)
theorem Tryd.c8 (G : Nat → Option AV) (a0 a1 : AV) (h : AH) (K : AV → AH → Prop) (hk : LowH h.length h → Tryd.r8 a0 a1 h K) : SCall Tryd.prog G 8 [a0, a1] h K :=
  scall_of_rwp Tryd.tab8 [(4, [(5, (.int .i64))], [0, 1])] Tryd.func8 rfl Tryd.ntmps8 (by kernel_rfl) (by show 2 ≤ 26; decide) (by kernel_rfl) (by kernel_rfl) hk
-- 9 (*skylark/table.Table).Rows
def Tryd.r9 (G : Nat → Option AV) (a0 a1 : AV) (h : AH) (K : AV → AH → Prop) : Prop :=
  onlyB (AV.one a1) (newO (.cells 44 (AV.cells a1).length [AV.cells a1] 0) h fun i0 h1 =>
  okV (aLoad Tryd.prog h1 44 (.ptr i0 0 0 0)) fun v2 =>
  callR Tryd.prog G 21 [a0, v2] h1 (fun v3 h4 =>
  okInt .i64 (extV 0 v3) fun n5 =>
  okInt .i64 (extV 1 v3) fun n6 =>
  okV (aNil a0) fun v7 =>
  okV (aFA Tryd.prog 71 0 v7) fun v8 =>
  okV (aLoad Tryd.prog h4 28 v8) fun v9 =>
  okV (aSlice Tryd.prog h4 28 v9 (some (some (.v (.int .i64 n5)))) (some (some (.v (.int .i64 n6)))) none) fun v10 =>
  callR Tryd.prog G 22 [v10] h4 (fun v11 h12 =>
  RetR h K v11 h12)))
theorem Tryd.c9 (G : Nat → Option AV) (a0 a1 : AV) (h : AH) (K : AV → AH → Prop) (hk : LowH h.length h → Tryd.r9 G a0 a1 h K) : SCall Tryd.prog G 9 [a0, a1] h K :=
  scall_of_rwp Tryd.tab9 [] Tryd.func9 rfl Tryd.ntmps9 (by kernel_rfl) (by show 2 ≤ 21; decide) (by kernel_rfl) (by kernel_rfl) hk
-- 10 skylark/table.New
def Tryd.r10 (h : AH) (K : AV → AH → Prop) : Prop :=
  newO (.cells 71 1 [[(.v (.slice none 0 0))]] 0) h fun i0 h1 =>
  RetR h K (.ptr i0 0 0 0) h1
theorem Tryd.c10 (G : Nat → Option AV) (h : AH) (K : AV → AH → Prop) (hk : LowH h.length h → Tryd.r10 h K) : SCall Tryd.prog G 10 [] h K :=
  scall_of_rwp Tryd.tab10 [] Tryd.func10 rfl Tryd.ntmps10 (by kernel_rfl) (by show 0 ≤ 3; decide) (by kernel_rfl) (by kernel_rfl) hk
-- 11 (*skylark/table.Table).Take
def Tryd.r11_j40 (a0 : AV) (a1 : AV) (h12 : AH) (n16 : Int) (I17 : Nat → List AV → AH → Prop) (m19 : Nat) (v22 : AV) (n23 : Int) (n36 : Int) (b37 : Bool) (v38 : AV) (h39 : AH) : Prop :=
  condB b37
  (okV (aSlice Tryd.prog h39 28 v22 (some (some (.v (.int .i64 (IntKind.wrap .i64 (n36 + 1)))))) none none) fun v40 =>
  nextR h12 I17 m19 [some a0, some a1, some (.v (.int .i64 n16))] [some a0, some a1, some (.v (.int .i64 n16))] [v38, v40, (.v (.int .i64 (IntKind.wrap .i64 (n23 + 1))))] h39)
  (okV (aSlice Tryd.prog h39 28 v22 (some (some (.v (.int .i64 n36)))) none none) fun v41 =>
  nextR h12 I17 m19 [some a0, some a1, some (.v (.int .i64 n16))] [some a0, some a1, some (.v (.int .i64 n16))] [v38, v41, (.v (.int .i64 (IntKind.wrap .i64 (n23 + 1))))] h39)
def Tryd.r11_l8_17 (K : AV → AH → Prop) (h : AH) (G : Nat → Option AV) (a0 : AV) (a1 : AV) (h12 : AH) (n16 : Int) (v67 : AV) (v68 : AV) (n69 : Int) : Prop :=
  ∃ (I17 : Nat → List AV → AH → Prop) (m18 : Nat), I17 m18 [v67, v68, (.v (.int .i64 n69))] h12 ∧ ∀ (m19 : Nat) (h20 : AH), h12.length ≤ h20.length → LowH h20.length h20 → ∀ (v21 : AV) (v22 : AV) (n23 : Int), I17 m19 [v21, v22, (.v (.int .i64 n23))] h20 →
  condB (decide (n23 < n16))
  (okV (aIA Tryd.prog h20 28 a1 (.v (.int .i64 n23))) fun v24 =>
  okV (aLoad Tryd.prog h20 49 v24) fun v25 =>
  newO (.cells 49 3 [[(.v (.string (ByteArray.mk #[]))), (.v (.int .i64 0)), (.v (.string (ByteArray.mk #[])))]] 0) h20 fun i26 h27 =>
  storeR Tryd.prog h27 (fun v28 h29 =>
  okV (aBuild Tryd.prog 71 [(0, some v22)]) fun v30 =>
  onlyB (AV.one v30) (newO (.cells 71 (AV.cells v30).length [AV.cells v30] 0) h29 fun i31 h32 =>
  okStr (aLoad Tryd.prog h32 9 (.ptr i26 0 0 0)) fun s33 =>
  callR Tryd.prog G 30 [(.ptr i31 0 0 0), (.v (.string s33))] h32 (fun v34 h35 =>
  okInt .i64 (extV 0 v34) fun n36 =>
  okBool (extV 1 v34) fun b37 =>
  (okV (aSlice Tryd.prog h35 28 v22 none (some (some (.v (.int .i64 n36)))) none) fun v42 =>
  okV (aLoad Tryd.prog h35 49 (.ptr i26 0 0 0)) fun v43 =>
  appR Tryd.prog h35 28 28 v21 v42 (fun v44 h45 =>
  (aLoad Tryd.prog h45 49 (.ptr i26 0 0 0) = some v43) ∧ okP (rowsFill 3 (List.replicate 1 [(.v (.string (ByteArray.mk #[]))), (.v (.int .i64 0)), (.v (.string (ByteArray.mk #[])))]) [(0, some v43)]) fun r46 => newO (.cells 49 3 r46 0) h45 fun i47 h48 =>
  appR Tryd.prog h48 28 28 v44 (.sl i47 0 0 1 none) (fun v49 h50 =>
  Tryd.r11_j40 a0 a1 h12 n16 I17 m19 v22 n23 n36 b37 v49 h50)))
  ∧ (okV (aSlice Tryd.prog h35 28 v22 none (some (some (.v (.int .i64 n36)))) none) fun v51 =>
  okV (aLoad Tryd.prog h35 49 (.ptr i26 0 0 0)) fun v52 =>
  okP (rowsFill 3 (List.replicate 1 [(.v (.string (ByteArray.mk #[]))), (.v (.int .i64 0)), (.v (.string (ByteArray.mk #[])))]) [(0, some v52)]) fun r53 => newO (.cells 49 3 r53 0) h35 fun i54 h55 =>
  (aSlice Tryd.prog h55 28 v22 none (some (some (.v (.int .i64 n36)))) none = some v51) ∧ appR Tryd.prog h55 28 28 v21 v51 (fun v56 h57 =>
  (aLoad Tryd.prog h57 49 (.ptr i26 0 0 0) = some v52) ∧ appR Tryd.prog h57 28 28 v56 (.sl i54 0 0 1 none) (fun v58 h59 =>
  Tryd.r11_j40 a0 a1 h12 n16 I17 m19 v22 n23 n36 b37 v58 h59)))))) 49 v25 (.ptr i26 0 0 0))
  (appR Tryd.prog h20 28 28 v21 v22 (fun v60 h61 =>
  okInt .i64 (aLen Tryd.prog h61 28 v60) fun n62 =>
  condB (decide (n62 > 4096))
  (RetR h K (.v (.int .i64 22)) h61)
  (okV (aNil a0) fun v63 =>
  okV (aFA Tryd.prog 71 0 v63) fun v64 =>
  storeR Tryd.prog h61 (fun v65 h66 =>
  RetR h K (.v (.int .i64 0)) h66) 28 v60 v64)))
def Tryd.r11 (G : Nat → Option AV) (a0 a1 : AV) (h : AH) (K : AV → AH → Prop) : Prop :=
  callR Tryd.prog G 23 [a1, (.fn (.func 24) [] [])] h (fun v0 h1 =>
  okBool (some v0) fun b2 =>
  condB b2
  (RetR h K (.v (.int .i64 80)) h1)
  (callR Tryd.prog G 26 [a1, (.fn (.func 27) [] [])] h1 (fun v3 h4 =>
  okBool (some v3) fun b5 =>
  condB (!b5)
  (RetR h K (.v (.int .i64 4)) h4)
  (okV (aNil a0) fun v6 =>
  okV (aFA Tryd.prog 71 0 v6) fun v7 =>
  okV (aLoad Tryd.prog h4 28 v7) fun v8 =>
  okInt .i64 (aLen Tryd.prog h4 28 v8) fun n9 =>
  okInt .i64 (aLen Tryd.prog h4 28 a1) fun n10 =>
  ((0 : Int) ≤ 0 ∧ 0 ≤ (IntKind.wrap .i64 (n9 + n10)) ∧ (((40 : Nat) : Int)) * (IntKind.wrap .i64 (n9 + n10)) ≤ 281474976710656 ∧ (IntKind.wrap .i64 (n9 + n10)) ≤ 4611686018427387904) ∧ newO (.cells 49 3 (List.replicate (Int.toNat (IntKind.wrap .i64 (n9 + n10))) [(.v (.string (ByteArray.mk #[]))), (.v (.int .i64 0)), (.v (.string (ByteArray.mk #[])))]) 0) h4 fun i11 h12 =>
  okV (aNil a0) fun v13 =>
  okV (aFA Tryd.prog 71 0 v13) fun v14 =>
  okV (aLoad Tryd.prog h12 28 v14) fun v15 =>
  okInt .i64 (aLen Tryd.prog h12 28 a1) fun n16 =>
  Tryd.r11_l8_17 K h G a0 a1 h12 n16 (.sl i11 0 0 (Int.toNat 0) none) v15 0))))
theorem Tryd.c11 (G : Nat → Option AV) (a0 a1 : AV) (h : AH) (K : AV → AH → Prop) (hk : LowH h.length h → Tryd.r11 G a0 a1 h K) : SCall Tryd.prog G 11 [a0, a1] h K :=
  scall_of_rwp Tryd.tab11 [(8, [(5, .any), (6, .any), (31, (.int .i64))], [0, 29, 30])] Tryd.func11 rfl Tryd.ntmps11 (by kernel_rfl) (by show 2 ≤ 69; decide) (by kernel_rfl) (by kernel_rfl) hk
-- 12 (*skylark/table.Table).Len
def Tryd.r12 (a0 : AV) (h : AH) (K : AV → AH → Prop) : Prop :=
  okV (aNil a0) fun v0 =>
  okV (aFA Tryd.prog 71 0 v0) fun v1 =>
  okV (aLoad Tryd.prog h 28 v1) fun v2 =>
  okInt .i64 (aLen Tryd.prog h 28 v2) fun n3 =>
  RetR h K (.v (.int .i64 n3)) h
theorem Tryd.c12 (G : Nat → Option AV) (a0 : AV) (h : AH) (K : AV → AH → Prop) (hk : LowH h.length h → Tryd.r12 a0 h K) : SCall Tryd.prog G 12 [a0] h K :=
  scall_of_rwp Tryd.tab12 [] Tryd.func12 rfl Tryd.ntmps12 (by kernel_rfl) (by show 1 ≤ 8; decide) (by kernel_rfl) (by kernel_rfl) hk
-- 13 (skylark/layout.Change).Check
def Tryd.r13 (G : Nat → Option AV) (a0 : AV) (h : AH) (K : AV → AH → Prop) : Prop :=
  onlyB (AV.one a0) (newO (.cells 31 (AV.cells a0).length [AV.cells a0] 0) h fun i0 h1 =>
  okStr (aLoad Tryd.prog h1 9 (.ptr i0 0 0 4)) fun s2 =>
  okBool (aLoad Tryd.prog h1 4 (.ptr i0 0 0 5)) fun b3 =>
  newO (.cells 81 2 [[(.v (.string (ByteArray.mk #[]))), (.v (.bool false))]] 0) h1 fun i4 h5 =>
  storeR Tryd.prog h5 (fun v6 h7 =>
  okV (aLoad Tryd.prog h7 24 (.ptr i0 0 0 0)) fun v8 =>
  callR Tryd.prog G 31 [v8] h7 (fun v9 h10 =>
  okInt .i64 (some v9) fun n11 =>
  rGq (n11 != 0) false (some (.ptr i0 0 0 2)) fun b12 v13 =>
  rGq b12 false (aLoad Tryd.prog h10 24 v13) fun b14 v15 =>
  rGe b14 false (fun k16 => callR Tryd.prog G 31 [v15] h10 (fun v17 h18 =>
  k16 v17 h18)) h10 fun b19 v20 h21 =>
  rGq b19 false (aBin Tryd.prog .neq 36 v20 (.v (.int .i64 0))) fun b22 v23 =>
  okBool (pickR (some (.v (.bool b22))) (some (.v (.bool true))) (some v23)) fun b24 =>
  condB b24
  (RetR h K (.v (.int .i64 70)) h21)
  (okInt .i64 (aLoad Tryd.prog h21 3 (.ptr i0 0 0 2)) fun n25 =>
  okInt .i64 (aLoad Tryd.prog h21 3 (.ptr i0 0 0 0)) fun n26 =>
  rGq (n25 != (IntKind.wrap .i64 (n26 + 1))) false (some (.ptr i0 0 0 2)) fun b27 v28 =>
  rGq b27 false (aFA Tryd.prog 24 1 v28) fun b29 v30 =>
  rGq b29 false (aLoad Tryd.prog h21 22 v30) fun b31 v32 =>
  rGq b31 false (aLen Tryd.prog h21 22 v32) fun b33 v34 =>
  rGq b33 false (some (.ptr i0 0 0 0)) fun b35 v36 =>
  rGq b35 false (aFA Tryd.prog 24 1 v36) fun b37 v38 =>
  rGq b37 false (aLoad Tryd.prog h21 22 v38) fun b39 v40 =>
  rGq b39 false (aLen Tryd.prog h21 22 v40) fun b41 v42 =>
  rGq b41 false (aBin Tryd.prog .lss 3 v34 v42) fun b43 v44 =>
  okBool (pickR (some (.v (.bool b43))) (some (.v (.bool true))) (some v44)) fun b45 =>
  condB b45
  (RetR h K (.v (.int .i64 70)) h21)
  (okStr (aLoad Tryd.prog h21 9 (.ptr i4 0 0 0)) fun s46 =>
  rGq (decide (((ByteArray.size s46 : Nat) : Int) > 64)) false (some (.ptr i4 0 0 1)) fun b47 v48 =>
  rGq b47 false (aLoad Tryd.prog h21 4 v48) fun b49 v50 =>
  rGq b49 false (some v50) fun b51 v52 =>
  okG (some v52) true fun b53 g0 =>
  rGq b53 true (aLoad Tryd.prog h21 81 (.ptr i4 0 0 0)) fun b54 v55 =>
  okG (some (g0 b54)) true fun c1 g2 =>
  rGq c1 true (some (.agg [(.v (.string (ByteArray.mk #[]))), (.v (.bool true))])) fun b56 v57 =>
  okG (some (g2 b56)) true fun c3 g4 =>
  rGq c3 true (aBin Tryd.prog .neq 81 v55 v57) fun b58 v59 =>
  rGq b51 false (pickR (some (g4 b58)) (some v59) (some (.v (.bool false)))) fun b60 v61 =>
  okBool (pickR (some (.v (.bool b60))) (some (.v (.bool true))) (some v61)) fun b62 =>
  condB b62
  (RetR h K (.v (.int .i64 70)) h21)
  (RetR h K (.v (.int .i64 0)) h21))))) 81 (.agg [(.v (.string s2)), (.v (.bool b3))]) (.ptr i4 0 0 0))
theorem Tryd.c13 (G : Nat → Option AV) (a0 : AV) (h : AH) (K : AV → AH → Prop) (hk : LowH h.length h → Tryd.r13 G a0 h K) : SCall Tryd.prog G 13 [a0] h K :=
  scall_of_rwp Tryd.tab13 [] Tryd.func13 rfl Tryd.ntmps13 (by kernel_rfl) (by show 1 ≤ 54; decide) (by kernel_rfl) (by kernel_rfl) hk
-- 14 (skylark/layout.Change).Owner
def Tryd.r14_j12 (K : AV → AH → Prop) (h : AH) (G : Nat → Option AV) (a1 : AV) (i7 : Nat) (h11 : AH) : Prop :=
  okV (aLoad Tryd.prog h11 22 (.ptr i7 0 0 1)) fun v12 =>
  okStr (some a1) fun s13 =>
  callR Tryd.prog G 19 [v12, (.v (.string s13))] h11 (fun v14 h15 =>
  okInt .i64 (extV 0 v14) fun n16 =>
  okInt .i64 (extV 1 v14) fun n17 =>
  RetR h K (.tup [(.v (.int .i64 n16)), (.v (.int .i64 n17))]) h15)
def Tryd.r14 (G : Nat → Option AV) (a0 a1 : AV) (h : AH) (K : AV → AH → Prop) : Prop :=
  onlyB (AV.one a0) (newO (.cells 31 (AV.cells a0).length [AV.cells a0] 0) h fun i0 h1 =>
  okV (aLoad Tryd.prog h1 31 (.ptr i0 0 0 0)) fun v2 =>
  callR Tryd.prog G 13 [v2] h1 (fun v3 h4 =>
  okInt .i64 (some v3) fun n5 =>
  condB (n5 != 0)
  (RetR h K (.tup [(.v (.int .i64 0)), (.v (.int .i64 n5))]) h4)
  (okV (aLoad Tryd.prog h4 24 (.ptr i0 0 0 0)) fun v6 =>
  newO (.cells 24 2 [[(.v (.int .i64 0)), (.v (.slice none 0 0))]] 0) h4 fun i7 h8 =>
  storeR Tryd.prog h8 (fun v9 h10 =>
  okBool (aLoad Tryd.prog h10 4 (.ptr i0 0 0 5)) fun b18 =>
  rGq b18 false (some a1) fun b19 v20 =>
  rGq b19 false (some (.ptr i0 0 0 4)) fun b21 v22 =>
  rGq b21 false (aLoad Tryd.prog h10 9 v22) fun b23 v24 =>
  rGq b23 false (aBin Tryd.prog .lss 9 v20 v24) fun b25 v26 =>
  okBool (pickR (some (.v (.bool b25))) (some (.v (.bool true))) (some v26)) fun b27 =>
  condB b27
  (okV (aLoad Tryd.prog h10 24 (.ptr i0 0 0 2)) fun v28 =>
  storeR Tryd.prog h10 (fun v29 h30 =>
  Tryd.r14_j12 K h G a1 i7 h30) 24 v28 (.ptr i7 0 0 0))
  (Tryd.r14_j12 K h G a1 i7 h10)) 24 v6 (.ptr i7 0 0 0))))
theorem Tryd.c14 (G : Nat → Option AV) (a0 a1 : AV) (h : AH) (K : AV → AH → Prop) (hk : LowH h.length h → Tryd.r14 G a0 a1 h K) : SCall Tryd.prog G 14 [a0, a1] h K :=
  scall_of_rwp Tryd.tab14 [] Tryd.func14 rfl Tryd.ntmps14 (by kernel_rfl) (by show 2 ≤ 31; decide) (by kernel_rfl) (by kernel_rfl) hk
-- 15 skylark/move.Check
def Tryd.r15_l11_36 (K : AV → AH → Prop) (h : AH) (G : Nat → Option AV) (i0 : Nat) (h7 : AH) (v8 : AV) (n25 : Int) (I26 : Nat → List AV → AH → Prop) (m28 : Nat) (n30 : Int) (v33 : AV) (h34 : AH) (n35 : Int) (n53 : Int) : Prop :=
  ∃ (I36 : Nat → List AV → AH → Prop) (m37 : Nat), I36 m37 [(.v (.int .i64 n53))] h34 ∧ ∀ (m38 : Nat) (h39 : AH), h34.length ≤ h39.length → LowH h39.length h39 → ∀ (n40 : Int), I36 m38 [(.v (.int .i64 n40))] h39 →
  condB (decide (n40 < n35))
  (okV (aIA Tryd.prog h39 28 v33 (.v (.int .i64 n40))) fun v41 =>
  okV (aLoad Tryd.prog h39 49 v41) fun v42 =>
  newO (.cells 49 3 [[(.v (.string (ByteArray.mk #[]))), (.v (.int .i64 0)), (.v (.string (ByteArray.mk #[])))]] 0) h39 fun i43 h44 =>
  storeR Tryd.prog h44 (fun v45 h46 =>
  okV (aLoad Tryd.prog h46 31 (.ptr i0 0 0 0)) fun v47 =>
  okStr (aLoad Tryd.prog h46 9 (.ptr i43 0 0 0)) fun s48 =>
  callR Tryd.prog G 14 [v47, (.v (.string s48))] h46 (fun v49 h50 =>
  okInt .i64 (extV 0 v49) fun n51 =>
  okInt .i64 (extV 1 v49) fun n52 =>
  condB (n51 != n30)
  (RetR h K (.v (.int .i64 220)) h50)
  (nextR h34 I36 m38 [some (.ptr i0 0 0 0), some (.v (.int .i64 n30)), some v8, some (.v (.int .i64 n25)), some (.v (.int .i64 n30)), some v33, some (.v (.int .i64 n35))] [some (.ptr i0 0 0 0), some (.v (.int .i64 n30)), some v8, some (.v (.int .i64 n25)), some (.v (.int .i64 n30)), some v33, some (.v (.int .i64 n35))] [(.v (.int .i64 (IntKind.wrap .i64 (n40 + 1))))] h50))) 49 v42 (.ptr i43 0 0 0))
  (nextR h7 I26 m28 [some (.ptr i0 0 0 0), some v8, some (.v (.int .i64 n25))] [some (.ptr i0 0 0 0), some v8, some (.v (.int .i64 n25))] [(.v (.int .i64 (IntKind.wrap .i64 (n30 + 1))))] h39)
def Tryd.r15_l8_26 (K : AV → AH → Prop) (h : AH) (G : Nat → Option AV) (i0 : Nat) (h7 : AH) (v8 : AV) (n25 : Int) (n54 : Int) : Prop :=
  ∃ (I26 : Nat → List AV → AH → Prop) (m27 : Nat), I26 m27 [(.v (.int .i64 n54))] h7 ∧ ∀ (m28 : Nat) (h29 : AH), h7.length ≤ h29.length → LowH h29.length h29 → ∀ (n30 : Int), I26 m28 [(.v (.int .i64 n30))] h29 →
  condB (decide (n30 < n25))
  (okV (aIA Tryd.prog h29 59 v8 (.v (.int .i64 n30))) fun v31 =>
  okV (aLoad Tryd.prog h29 63 v31) fun v32 =>
  callI Tryd.prog G h29 (fun v33 h34 =>
  okInt .i64 (aLen Tryd.prog h34 28 v33) fun n35 =>
  Tryd.r15_l11_36 K h G i0 h7 v8 n25 I26 m28 n30 v33 h34 n35 0) [(.agg [(.v (.string (ByteArray.mk #[]))), (.v (.string (ByteArray.mk #[])))])] "Rows" v32)
  (RetR h K (.v (.int .i64 0)) h29)
def Tryd.r15 (G : Nat → Option AV) (a0 a1 : AV) (h : AH) (K : AV → AH → Prop) : Prop :=
  onlyB (AV.one a0) (newO (.cells 31 (AV.cells a0).length [AV.cells a0] 0) h fun i0 h1 =>
  okV (aLoad Tryd.prog h1 31 (.ptr i0 0 0 0)) fun v2 =>
  callR Tryd.prog G 13 [v2] h1 (fun v3 h4 =>
  okInt .i64 (some v3) fun n5 =>
  condB (n5 != 0)
  (RetR h K (.v (.int .i64 n5)) h4)
  (callR Tryd.prog G 18 [a1] h4 (fun v6 h7 =>
  okV (extV 0 v6) fun v8 =>
  okBool (extV 1 v6) fun b9 =>
  rGq (!b9) false (some v8) fun b10 v11 =>
  rGq b10 false (aLen Tryd.prog h7 59 v11) fun b12 v13 =>
  rGq b12 false (some (.ptr i0 0 0 2)) fun b14 v15 =>
  rGq b14 false (aFA Tryd.prog 24 1 v15) fun b16 v17 =>
  rGq b16 false (aLoad Tryd.prog h7 22 v17) fun b18 v19 =>
  rGq b18 false (aLen Tryd.prog h7 22 v19) fun b20 v21 =>
  rGq b20 false (aBin Tryd.prog .neq 3 v13 v21) fun b22 v23 =>
  okBool (pickR (some (.v (.bool b22))) (some (.v (.bool true))) (some v23)) fun b24 =>
  condB b24
  (RetR h K (.v (.int .i64 4)) h7)
  (okInt .i64 (aLen Tryd.prog h7 59 v8) fun n25 =>
  Tryd.r15_l8_26 K h G i0 h7 v8 n25 0)))))
theorem Tryd.c15 (G : Nat → Option AV) (a0 a1 : AV) (h : AH) (K : AV → AH → Prop) (hk : LowH h.length h → Tryd.r15 G a0 a1 h K) : SCall Tryd.prog G 15 [a0, a1] h K :=
  scall_of_rwp Tryd.tab15 [(8, [(37, (.int .i64))], [2, 35, 36]), (11, [(46, (.int .i64))], [2, 8, 35, 36, 37, 44, 45])] Tryd.func15 rfl Tryd.ntmps15 (by kernel_rfl) (by show 2 ≤ 62; decide) (by kernel_rfl) (by kernel_rfl) hk
-- 16 skylark/move.All
def Tryd.r16_l3_1 (K : AV → AH → Prop) (h : AH) (G : Nat → Option AV) (a0 : AV) (n0 : Int) (v16 : AV) (n17 : Int) : Prop :=
  ∃ (I1 : Nat → List AV → AH → Prop) (m2 : Nat), I1 m2 [v16, (.v (.int .i64 n17))] h ∧ ∀ (m3 : Nat) (h4 : AH), h.length ≤ h4.length → LowH h4.length h4 → ∀ (v5 : AV) (n6 : Int), I1 m3 [v5, (.v (.int .i64 n6))] h4 →
  condB (decide (n6 < n0))
  (okV (aIA Tryd.prog h4 33 a0 (.v (.int .i64 n6))) fun v7 =>
  okV (aLoad Tryd.prog h4 41 v7) fun v8 =>
  okBool (aBin Tryd.prog .neq 41 v8 (.v (.pointer none))) fun b9 =>
  condB b9
  (callR Tryd.prog G 9 [v8, (.agg [(.v (.string (ByteArray.mk #[]))), (.v (.string (ByteArray.mk #[])))])] h4 (fun v10 h11 =>
  appR Tryd.prog h11 28 28 v5 v10 (fun v12 h13 =>
  nextR h I1 m3 [some a0, some (.v (.int .i64 n0))] [some a0, some (.v (.int .i64 n0))] [v12, (.v (.int .i64 (IntKind.wrap .i64 (n6 + 1))))] h13)))
  (nextR h I1 m3 [some a0, some (.v (.int .i64 n0))] [some a0, some (.v (.int .i64 n0))] [v5, (.v (.int .i64 (IntKind.wrap .i64 (n6 + 1))))] h4))
  (callR Tryd.prog G 32 [v5, (.fn (.func 33) [] [])] h4 (fun v14 h15 =>
  RetR h K v5 h15))
def Tryd.r16 (G : Nat → Option AV) (a0 : AV) (h : AH) (K : AV → AH → Prop) : Prop :=
  okInt .i64 (aLen Tryd.prog h 33 a0) fun n0 =>
  Tryd.r16_l3_1 K h G a0 n0 (.v (.slice none 0 0)) 0
theorem Tryd.c16 (G : Nat → Option AV) (a0 : AV) (h : AH) (K : AV → AH → Prop) (hk : LowH h.length h → Tryd.r16 G a0 h K) : SCall Tryd.prog G 16 [a0] h K :=
  scall_of_rwp Tryd.tab16 [(3, [(3, .any), (8, (.int .i64))], [6, 7])] Tryd.func16 rfl Tryd.ntmps16 (by kernel_rfl) (by show 1 ≤ 23; decide) (by kernel_rfl) (by kernel_rfl) hk
-- 17 (skylark/layout.Change).Next
def Tryd.r17_l12_35 (K : AV → AH → Prop) (h : AH) (a1 : AV) (n22 : Int) (n26 : Int) (h31 : AH) (v32 : AV) (n34 : Int) (v50 : AV) (n51 : Int) : Prop :=
  ∃ (I35 : Nat → List AV → AH → Prop) (m36 : Nat), I35 m36 [v50, (.v (.int .i64 n51))] h31 ∧ ∀ (m37 : Nat) (h38 : AH), h31.length ≤ h38.length → LowH h38.length h38 → ∀ (v39 : AV) (n40 : Int), I35 m37 [v39, (.v (.int .i64 n40))] h38 →
  condB (decide (n40 < n34))
  (okV (aIA Tryd.prog h38 22 v32 (.v (.int .i64 n40))) fun v41 =>
  okInt .i64 (aLoad Tryd.prog h38 3 v41) fun n42 =>
  newO (.cells 3 1 [[(.v (.int .i64 (IntKind.wrap .i64 (n22 + n42))))]] 0) h38 fun i43 h44 =>
  appR Tryd.prog h44 22 22 v39 (.sl i43 0 0 1 none) (fun v45 h46 =>
  nextR h31 I35 m37 [some a1, some (.v (.int .i64 n22)), some (.v (.int .i64 (IntKind.wrap .i64 (n22 + n26)))), some v32, some (.v (.int .i64 n34))] [some a1, some (.v (.int .i64 n22)), some (.v (.int .i64 (IntKind.wrap .i64 (n22 + n26)))), some v32, some (.v (.int .i64 n34))] [v45, (.v (.int .i64 (IntKind.wrap .i64 (n40 + 1))))] h46))
  (okInt .i64 (aLen Tryd.prog h38 56 a1) fun n47 =>
  condB (decide ((IntKind.wrap .i64 (n22 + n26)) < n47))
  (okV (aIA Tryd.prog h38 56 a1 (.v (.int .i64 (IntKind.wrap .i64 (n22 + n26))))) fun v48 =>
  okStr (aLoad Tryd.prog h38 9 v48) fun s49 =>
  RetR h K (.tup [(.v (.string s49)), v39, (.v (.bool false)), (.v (.int .i64 0))]) h38)
  (RetR h K (.tup [(.v (.string (ByteArray.mk #[]))), v39, (.v (.bool true)), (.v (.int .i64 0))]) h38))
def Tryd.r17 (G : Nat → Option AV) (a0 a1 a2 : AV) (h : AH) (K : AV → AH → Prop) : Prop :=
  onlyB (AV.one a0) (newO (.cells 31 (AV.cells a0).length [AV.cells a0] 0) h fun i0 h1 =>
  okV (aLoad Tryd.prog h1 31 (.ptr i0 0 0 0)) fun v2 =>
  callR Tryd.prog G 13 [v2] h1 (fun v3 h4 =>
  okInt .i64 (some v3) fun n5 =>
  condB (n5 != 0)
  (RetR h K (.tup [(.v (.string (ByteArray.mk #[]))), (.v (.slice none 0 0)), (.v (.bool false)), (.v (.int .i64 n5))]) h4)
  (okInt .i64 (some a2) fun n6 =>
  rGq (decide (n6 < 1)) false (some a1) fun b7 v8 =>
  rGe b7 false (fun k9 => callR Tryd.prog G 34 [v8] h4 (fun v10 h11 =>
  k9 v10 h11)) h4 fun b12 v13 h14 =>
  rGq b12 false (aUn .not v13) fun b15 v16 =>
  okBool (pickR (some (.v (.bool b15))) (some (.v (.bool true))) (some v16)) fun b17 =>
  condB b17
  (RetR h K (.tup [(.v (.string (ByteArray.mk #[]))), (.v (.slice none 0 0)), (.v (.bool false)), (.v (.int .i64 1))]) h14)
  (okBool (aLoad Tryd.prog h14 4 (.ptr i0 0 0 5)) fun b18 =>
  condB b18
  (RetR h K (.tup [(.v (.string (ByteArray.mk #[]))), (.v (.slice none 0 0)), (.v (.bool true)), (.v (.int .i64 0))]) h14)
  (okStr (aLoad Tryd.prog h14 9 (.ptr i0 0 0 4)) fun s19 =>
  callR Tryd.prog G 35 [a1, (.v (.string s19))] h14 (fun v20 h21 =>
  okInt .i64 (extV 0 v20) fun n22 =>
  okBool (extV 1 v20) fun b23 =>
  okInt .i64 (some a2) fun n24 =>
  okInt .i64 (aLen Tryd.prog h21 56 a1) fun n25 =>
  okInt .i64 (aMinMax false [some (.v (.int .i64 n24)), some (.v (.int .i64 (IntKind.wrap .i64 (n25 - n22))))]) fun n26 =>
  okV (aLoad Tryd.prog h21 22 (.ptr i0 0 0 1)) fun v27 =>
  okV (aLoad Tryd.prog h21 22 (.ptr i0 0 0 3)) fun v28 =>
  okV (aSlice Tryd.prog h21 56 a1 (some (some (.v (.int .i64 n22)))) (some (some (.v (.int .i64 (IntKind.wrap .i64 (n22 + n26)))))) none) fun v29 =>
  callR Tryd.prog G 36 [v27, v28, v29] h21 (fun v30 h31 =>
  okV (extV 0 v30) fun v32 =>
  okInt .i64 (extV 1 v30) fun n33 =>
  okInt .i64 (aLen Tryd.prog h31 22 v32) fun n34 =>
  Tryd.r17_l12_35 K h a1 n22 n26 h31 v32 n34 (.v (.slice none 0 0)) 0)))))))
theorem Tryd.c17 (G : Nat → Option AV) (a0 a1 a2 : AV) (h : AH) (K : AV → AH → Prop) (hk : LowH h.length h → Tryd.r17 G a0 a1 a2 h K) : SCall Tryd.prog G 17 [a0, a1, a2] h K :=
  scall_of_rwp Tryd.tab17 [(12, [(7, .any), (63, (.int .i64))], [1, 11, 13, 61, 62])] Tryd.func17 rfl Tryd.ntmps17 (by kernel_rfl) (by show 3 ≤ 84; decide) (by kernel_rfl) (by kernel_rfl) hk
-- 18 skylark/move.shelves
def Tryd.r18_l3_1 (K : AV → AH → Prop) (h : AH) (G : Nat → Option AV) (a0 : AV) (n0 : Int) (v31 : AV) (n32 : Int) : Prop :=
  ∃ (I1 : Nat → List AV → AH → Prop) (m2 : Nat), I1 m2 [v31, (.v (.int .i64 n32))] h ∧ ∀ (m3 : Nat) (h4 : AH), h.length ≤ h4.length → LowH h4.length h4 → ∀ (v5 : AV) (n6 : Int), I1 m3 [v5, (.v (.int .i64 n6))] h4 →
  condB (decide (n6 < n0))
  (okV (aIA Tryd.prog h4 33 a0 (.v (.int .i64 n6))) fun v7 =>
  okV (aLoad Tryd.prog h4 41 v7) fun v8 =>
  okBool (aBin Tryd.prog .eql 41 v8 (.v (.pointer none))) fun b9 =>
  rGq b9 false (some a0) fun b10 v11 =>
  rGq b10 false (some (.v (.int .i64 n6))) fun b12 v13 =>
  rGq b12 false (aSlice Tryd.prog h4 33 v11 none (some (some v13)) none) fun b14 v15 =>
  rGq b14 false (some v8) fun b16 v17 =>
  rGe b16 false (fun k18 => callR Tryd.prog G 37 [v15, v17] h4 (fun v19 h20 =>
  k18 v19 h20)) h4 fun b21 v22 h23 =>
  okBool (pickR (some (.v (.bool b21))) (some (.v (.bool true))) (some v22)) fun b24 =>
  condB b24
  (RetR h K (.tup [(.v (.slice none 0 0)), (.v (.bool false))]) h23)
  (okV (aMkI Tryd.prog 41 v8) fun v25 =>
  okP (rowsFill 1 (List.replicate 1 [(.v .nilIface)]) [(0, some v25)]) fun r26 => newO (.cells 63 1 r26 0) h23 fun i27 h28 =>
  appR Tryd.prog h28 59 59 v5 (.sl i27 0 0 1 none) (fun v29 h30 =>
  nextR h I1 m3 [some a0, some a0, some (.v (.int .i64 n0))] [some a0, some a0, some (.v (.int .i64 n0))] [v29, (.v (.int .i64 (IntKind.wrap .i64 (n6 + 1))))] h30)))
  (RetR h K (.tup [v5, (.v (.bool true))]) h4)
def Tryd.r18 (G : Nat → Option AV) (a0 : AV) (h : AH) (K : AV → AH → Prop) : Prop :=
  okInt .i64 (aLen Tryd.prog h 33 a0) fun n0 =>
  Tryd.r18_l3_1 K h G a0 n0 (.v (.slice none 0 0)) 0
theorem Tryd.c18 (G : Nat → Option AV) (a0 : AV) (h : AH) (K : AV → AH → Prop) (hk : LowH h.length h → Tryd.r18 G a0 h K) : SCall Tryd.prog G 18 [a0] h K :=
  scall_of_rwp Tryd.tab18 [(3, [(4, .any), (9, (.int .i64))], [0, 7, 8])] Tryd.func18 rfl Tryd.ntmps18 (by kernel_rfl) (by show 1 ≤ 30; decide) (by kernel_rfl) (by kernel_rfl) hk
-- 19 skylark/ring.Of
def Tryd.r19 (G : Nat → Option AV) (a0 a1 : AV) (h : AH) (K : AV → AH → Prop) : Prop :=
  callR Tryd.prog G 38 [a0] h (fun v0 h1 =>
  okV (extV 0 v0) fun v2 =>
  okInt .i64 (extV 1 v0) fun n3 =>
  condB (n3 != 0)
  (RetR h K (.tup [(.v (.int .i64 0)), (.v (.int .i64 n3))]) h1)
  (okStr (some a1) fun s4 =>
  callR Tryd.prog G 39 [v2, (.v (.string s4))] h1 (fun v5 h6 =>
  okInt .i64 (some v5) fun n7 =>
  RetR h K (.tup [(.v (.int .i64 n7)), (.v (.int .i64 0))]) h6)))
theorem Tryd.c19 (G : Nat → Option AV) (a0 a1 : AV) (h : AH) (K : AV → AH → Prop) (hk : LowH h.length h → Tryd.r19 G a0 a1 h K) : SCall Tryd.prog G 19 [a0, a1] h K :=
  scall_of_rwp Tryd.tab19 [] Tryd.func19 rfl Tryd.ntmps19 (by kernel_rfl) (by show 2 ≤ 19; decide) (by kernel_rfl) (by kernel_rfl) hk
-- 20 slices.Max[[]int,int]
def Tryd.r20_l5_3 (K : AV → AH → Prop) (h : AH) (a0 : AV) (h0 : AH) (n13 : Int) (n14 : Int) : Prop :=
  ∃ (I3 : Nat → List AV → AH → Prop) (m4 : Nat), I3 m4 [(.v (.int .i64 n13)), (.v (.int .i64 n14))] h0 ∧ ∀ (m5 : Nat) (h6 : AH), h0.length ≤ h6.length → LowH h6.length h6 → ∀ (n7 : Int) (n8 : Int), I3 m5 [(.v (.int .i64 n7)), (.v (.int .i64 n8))] h6 →
  okInt .i64 (aLen Tryd.prog h6 22 a0) fun n9 =>
  condB (decide (n8 < n9))
  (okV (aIA Tryd.prog h6 22 a0 (.v (.int .i64 n8))) fun v10 =>
  okInt .i64 (aLoad Tryd.prog h6 3 v10) fun n11 =>
  okInt .i64 (aMinMax true [some (.v (.int .i64 n7)), some (.v (.int .i64 n11))]) fun n12 =>
  nextR h0 I3 m5 [some a0] [some a0] [(.v (.int .i64 n12)), (.v (.int .i64 (IntKind.wrap .i64 (n8 + 1))))] h6)
  (RetR h K (.v (.int .i64 n7)) h6)
def Tryd.r20_j1 (h : AH) (K : AV → AH → Prop) (a0 : AV) (h0 : AH) : Prop :=
  okV (aIA Tryd.prog h0 22 a0 (.v (.int .i64 0))) fun v1 =>
  okInt .i64 (aLoad Tryd.prog h0 3 v1) fun n2 =>
  Tryd.r20_l5_3 K h a0 h0 n2 1
def Tryd.r20 (a0 : AV) (h : AH) (K : AV → AH → Prop) : Prop :=
  okInt .i64 (aLen Tryd.prog h 22 a0) fun n15 =>
  condB (decide (n15 < 1))
  (okV (aMkI Tryd.prog 9 (.v (.string (ByteArray.mk #[115, 108, 105, 99, 101, 115, 46, 77, 97, 120, 58, 32, 101, 109, 112, 116, 121, 32, 108, 105, 115, 116])))) fun v16 =>
  False)
  (Tryd.r20_j1 h K a0 h)
theorem Tryd.c20 (G : Nat → Option AV) (a0 : AV) (h : AH) (K : AV → AH → Prop) (hk : LowH h.length h → Tryd.r20 a0 h K) : SCall Tryd.prog G 20 [a0] h K :=
  scall_of_rwp Tryd.tab20 [(5, [(3, (.int .i64)), (4, (.int .i64))], [0])] Tryd.func20 rfl Tryd.ntmps20 (by kernel_rfl) (by show 1 ≤ 25; decide) (by kernel_rfl) (by kernel_rfl) hk
-- 21 (*skylark/table.Table).ends
def Tryd.r21 (G : Nat → Option AV) (a0 a1 : AV) (h : AH) (K : AV → AH → Prop) : Prop :=
  onlyB (AV.one a1) (newO (.cells 44 (AV.cells a1).length [AV.cells a1] 0) h fun i0 h1 =>
  okStr (aLoad Tryd.prog h1 9 (.ptr i0 0 0 0)) fun s2 =>
  callR Tryd.prog G 30 [a0, (.v (.string s2))] h1 (fun v3 h4 =>
  okInt .i64 (extV 0 v3) fun n5 =>
  okBool (extV 1 v3) fun b6 =>
  okV (aNil a0) fun v7 =>
  okV (aFA Tryd.prog 71 0 v7) fun v8 =>
  okV (aLoad Tryd.prog h4 28 v8) fun v9 =>
  okInt .i64 (aLen Tryd.prog h4 28 v9) fun n10 =>
  okStr (aLoad Tryd.prog h4 9 (.ptr i0 0 0 1)) fun s11 =>
  condB (!(ByteArray.toList s11 == ByteArray.toList (ByteArray.mk #[])))
  (okStr (aLoad Tryd.prog h4 9 (.ptr i0 0 0 1)) fun s12 =>
  callR Tryd.prog G 30 [a0, (.v (.string s12))] h4 (fun v13 h14 =>
  okInt .i64 (extV 0 v13) fun n15 =>
  okBool (extV 1 v13) fun b16 =>
  okInt .i64 (aMinMax true [some (.v (.int .i64 n5)), some (.v (.int .i64 n15))]) fun n17 =>
  RetR h K (.tup [(.v (.int .i64 n5)), (.v (.int .i64 n17))]) h14))
  (okInt .i64 (aMinMax true [some (.v (.int .i64 n5)), some (.v (.int .i64 n10))]) fun n18 =>
  RetR h K (.tup [(.v (.int .i64 n5)), (.v (.int .i64 n18))]) h4)))
theorem Tryd.c21 (G : Nat → Option AV) (a0 a1 : AV) (h : AH) (K : AV → AH → Prop) (hk : LowH h.length h → Tryd.r21 G a0 a1 h K) : SCall Tryd.prog G 21 [a0, a1] h K :=
  scall_of_rwp Tryd.tab21 [] Tryd.func21 rfl Tryd.ntmps21 (by kernel_rfl) (by show 2 ≤ 32; decide) (by kernel_rfl) (by kernel_rfl) hk
-- 22 slices.Clone[[]skylark/api.Row,skylark/api.Row]
def Tryd.r22 (a0 : AV) (h : AH) (K : AV → AH → Prop) : Prop :=
  binR Tryd.prog h (fun v0 h1 =>
  okBool (some v0) fun b2 =>
  condB b2
  (RetR h K (.v (.slice none 0 0)) h1)
  (newO (.cells 49 3 [] 0) h1 fun i3 h4 =>
  appR Tryd.prog h4 28 28 (.sl i3 0 0 0 none) a0 (fun v5 h6 =>
  RetR h K v5 h6))) .eql 28 a0 (.v (.slice none 0 0))
theorem Tryd.c22 (G : Nat → Option AV) (a0 : AV) (h : AH) (K : AV → AH → Prop) (hk : LowH h.length h → Tryd.r22 a0 h K) : SCall Tryd.prog G 22 [a0] h K :=
  scall_of_rwp Tryd.tab22 [] Tryd.func22 rfl Tryd.ntmps22 (by kernel_rfl) (by show 1 ≤ 8; decide) (by kernel_rfl) (by kernel_rfl) hk
-- 23 slices.ContainsFunc[[]skylark/api.Row,skylark/api.Row]
def Tryd.r23 (G : Nat → Option AV) (a0 a1 : AV) (h : AH) (K : AV → AH → Prop) : Prop :=
  callR Tryd.prog G 40 [a0, a1] h (fun v0 h1 =>
  okInt .i64 (some v0) fun n2 =>
  RetR h K (.v (.bool (decide (n2 ≥ 0)))) h1)
theorem Tryd.c23 (G : Nat → Option AV) (a0 a1 : AV) (h : AH) (K : AV → AH → Prop) (hk : LowH h.length h → Tryd.r23 G a0 a1 h K) : SCall Tryd.prog G 23 [a0, a1] h K :=
  scall_of_rwp Tryd.tab23 [] Tryd.func23 rfl Tryd.ntmps23 (by kernel_rfl) (by show 2 ≤ 9; decide) (by kernel_rfl) (by kernel_rfl) hk
-- 24 (*skylark/table.Table).Take$1
def Tryd.r24 (G : Nat → Option AV) (a0 : AV) (h : AH) (K : AV → AH → Prop) : Prop :=
  onlyB (AV.one a0) (newO (.cells 49 (AV.cells a0).length [AV.cells a0] 0) h fun i0 h1 =>
  okV (aLoad Tryd.prog h1 49 (.ptr i0 0 0 0)) fun v2 =>
  callR Tryd.prog G 25 [v2] h1 (fun v3 h4 =>
  okBool (some v3) fun b5 =>
  RetR h K (.v (.bool (!b5))) h4))
theorem Tryd.c24 (G : Nat → Option AV) (a0 : AV) (h : AH) (K : AV → AH → Prop) (hk : LowH h.length h → Tryd.r24 G a0 h K) : SCall Tryd.prog G 24 [a0] h K :=
  scall_of_rwp Tryd.tab24 [] Tryd.func24 rfl Tryd.ntmps24 (by kernel_rfl) (by show 1 ≤ 6; decide) (by kernel_rfl) (by kernel_rfl) hk
-- 25 skylark/table.row
def Tryd.r25 (a0 : AV) (h : AH) (K : AV → AH → Prop) : Prop :=
  onlyB (AV.one a0) (newO (.cells 49 (AV.cells a0).length [AV.cells a0] 0) h fun i0 h1 =>
  okStr (aLoad Tryd.prog h1 9 (.ptr i0 0 0 0)) fun s2 =>
  rGq (!(ByteArray.toList s2 == ByteArray.toList (ByteArray.mk #[]))) true (some (.ptr i0 0 0 0)) fun b3 v4 =>
  rGq b3 true (aLoad Tryd.prog h1 9 v4) fun b5 v6 =>
  rGq b5 true (aLen Tryd.prog h1 9 v6) fun b7 v8 =>
  rGq b7 true (aBin Tryd.prog .leq 3 v8 (.v (.int .i64 64))) fun b9 v10 =>
  okBool (pickR (some (.v (.bool b9))) (some v10) (some (.v (.bool false)))) fun b11 =>
  rGq b11 true (some (.ptr i0 0 0 1)) fun b12 v13 =>
  rGq b12 true (aLoad Tryd.prog h1 3 v13) fun b14 v15 =>
  rGq b14 true (aBin Tryd.prog .geq 3 v15 (.v (.int .i64 1))) fun b16 v17 =>
  okBool (pickR (some (.v (.bool b16))) (some v17) (some (.v (.bool false)))) fun b18 =>
  rGq b18 true (some (.ptr i0 0 0 1)) fun b19 v20 =>
  rGq b19 true (aLoad Tryd.prog h1 3 v20) fun b21 v22 =>
  rGq b21 true (aBin Tryd.prog .leq 3 v22 (.v (.int .i64 1099511627776))) fun b23 v24 =>
  okBool (pickR (some (.v (.bool b23))) (some v24) (some (.v (.bool false)))) fun b25 =>
  rGq b25 true (some (.ptr i0 0 0 2)) fun b26 v27 =>
  rGq b26 true (aLoad Tryd.prog h1 9 v27) fun b28 v29 =>
  rGq b28 true (aLen Tryd.prog h1 9 v29) fun b30 v31 =>
  rGq b30 true (aBin Tryd.prog .leq 3 v31 (.v (.int .i64 4096))) fun b32 v33 =>
  okBool (pickR (some (.v (.bool b32))) (some v33) (some (.v (.bool false)))) fun b34 =>
  RetR h K (.v (.bool b34)) h1)
theorem Tryd.c25 (G : Nat → Option AV) (a0 : AV) (h : AH) (K : AV → AH → Prop) (hk : LowH h.length h → Tryd.r25 a0 h K) : SCall Tryd.prog G 25 [a0] h K :=
  scall_of_rwp Tryd.tab25 [] Tryd.func25 rfl Tryd.ntmps25 (by kernel_rfl) (by show 1 ≤ 28; decide) (by kernel_rfl) (by kernel_rfl) hk
-- 26 slices.IsSortedFunc[[]skylark/api.Row,skylark/api.Row]
def Tryd.r26_l2_1 (K : AV → AH → Prop) (h : AH) (G : Nat → Option AV) (a0 : AV) (a1 : AV) (n13 : Int) : Prop :=
  ∃ (I1 : Nat → List AV → AH → Prop) (m2 : Nat), I1 m2 [(.v (.int .i64 n13))] h ∧ ∀ (m3 : Nat) (h4 : AH), h.length ≤ h4.length → LowH h4.length h4 → ∀ (n5 : Int), I1 m3 [(.v (.int .i64 n5))] h4 →
  condB (decide (n5 > 0))
  (okV (aIA Tryd.prog h4 28 a0 (.v (.int .i64 n5))) fun v6 =>
  okV (aLoad Tryd.prog h4 49 v6) fun v7 =>
  okV (aIA Tryd.prog h4 28 a0 (.v (.int .i64 (IntKind.wrap .i64 (n5 - 1))))) fun v8 =>
  okV (aLoad Tryd.prog h4 49 v8) fun v9 =>
  callU Tryd.prog G h4 (fun v10 h11 =>
  okInt .i64 (some v10) fun n12 =>
  condB (decide (n12 < 0))
  (RetR h K (.v (.bool false)) h11)
  (nextR h I1 m3 [some a0, some a1] [some a0, some a1] [(.v (.int .i64 (IntKind.wrap .i64 (n5 - 1))))] h11)) [v7, v9] a1)
  (RetR h K (.v (.bool true)) h4)
def Tryd.r26 (G : Nat → Option AV) (a0 a1 : AV) (h : AH) (K : AV → AH → Prop) : Prop :=
  okInt .i64 (aLen Tryd.prog h 28 a0) fun n0 =>
  Tryd.r26_l2_1 K h G a0 a1 (IntKind.wrap .i64 (n0 - 1))
theorem Tryd.c26 (G : Nat → Option AV) (a0 a1 : AV) (h : AH) (K : AV → AH → Prop) (hk : LowH h.length h → Tryd.r26 G a0 a1 h K) : SCall Tryd.prog G 26 [a0, a1] h K :=
  scall_of_rwp Tryd.tab26 [(2, [(5, (.int .i64))], [0, 1])] Tryd.func26 rfl Tryd.ntmps26 (by kernel_rfl) (by show 2 ≤ 25; decide) (by kernel_rfl) (by kernel_rfl) hk
-- 27 (*skylark/table.Table).Take$2
def Tryd.r27 (G : Nat → Option AV) (a0 a1 : AV) (h : AH) (K : AV → AH → Prop) : Prop :=
  onlyB (AV.one a0) (newO (.cells 49 (AV.cells a0).length [AV.cells a0] 0) h fun i0 h1 =>
  onlyB (AV.one a1) (newO (.cells 49 (AV.cells a1).length [AV.cells a1] 0) h1 fun i2 h3 =>
  okStr (aLoad Tryd.prog h3 9 (.ptr i0 0 0 0)) fun s4 =>
  okStr (aLoad Tryd.prog h3 9 (.ptr i2 0 0 0)) fun s5 =>
  callR Tryd.prog G 29 [(.v (.string s4)), (.v (.string s5))] h3 (fun v6 h7 =>
  okInt .i64 (some v6) fun n8 =>
  newO (.cells 3 1 [[(.v (.int .i64 n8))], [(.v (.int .i64 (-1)))]] 0) h7 fun i9 h10 =>
  callR Tryd.prog G 28 [(.sl i9 0 0 2 none)] h10 (fun v11 h12 =>
  okInt .i64 (some v11) fun n13 =>
  RetR h K (.v (.int .i64 n13)) h12))))
theorem Tryd.c27 (G : Nat → Option AV) (a0 a1 : AV) (h : AH) (K : AV → AH → Prop) (hk : LowH h.length h → Tryd.r27 G a0 a1 h K) : SCall Tryd.prog G 27 [a0, a1] h K :=
  scall_of_rwp Tryd.tab27 [] Tryd.func27 rfl Tryd.ntmps27 (by kernel_rfl) (by show 2 ≤ 12; decide) (by kernel_rfl) (by kernel_rfl) hk
-- 28 cmp.Or[int]
def Tryd.r28_l3_1 (K : AV → AH → Prop) (h : AH) (a0 : AV) (n0 : Int) (n8 : Int) : Prop :=
  ∃ (I1 : Nat → List AV → AH → Prop) (m2 : Nat), I1 m2 [(.v (.int .i64 n8))] h ∧ ∀ (m3 : Nat) (h4 : AH), h.length ≤ h4.length → LowH h4.length h4 → ∀ (n5 : Int), I1 m3 [(.v (.int .i64 n5))] h4 →
  condB (decide (n5 < n0))
  (okV (aIA Tryd.prog h4 22 a0 (.v (.int .i64 n5))) fun v6 =>
  okInt .i64 (aLoad Tryd.prog h4 3 v6) fun n7 =>
  condB (n7 != 0)
  (RetR h K (.v (.int .i64 n7)) h4)
  (nextR h I1 m3 [some (.v (.int .i64 0)), some a0, some (.v (.int .i64 n0))] [some (.v (.int .i64 0)), some a0, some (.v (.int .i64 n0))] [(.v (.int .i64 (IntKind.wrap .i64 (n5 + 1))))] h4))
  (RetR h K (.v (.int .i64 0)) h4)
def Tryd.r28 (a0 : AV) (h : AH) (K : AV → AH → Prop) : Prop :=
  okInt .i64 (aLen Tryd.prog h 22 a0) fun n0 =>
  Tryd.r28_l3_1 K h a0 n0 0
theorem Tryd.c28 (G : Nat → Option AV) (a0 : AV) (h : AH) (K : AV → AH → Prop) (hk : LowH h.length h → Tryd.r28 a0 h K) : SCall Tryd.prog G 28 [a0] h K :=
  scall_of_rwp Tryd.tab28 [(3, [(8, (.int .i64))], [3, 6, 7])] Tryd.func28 rfl Tryd.ntmps28 (by kernel_rfl) (by show 1 ≤ 18; decide) (by kernel_rfl) (by kernel_rfl) hk
-- 30 (*skylark/table.Table).at
def Tryd.r30 (G : Nat → Option AV) (a0 a1 : AV) (h : AH) (K : AV → AH → Prop) : Prop :=
  okV (aNil a0) fun v0 =>
  okV (aFA Tryd.prog 71 0 v0) fun v1 =>
  okV (aLoad Tryd.prog h 28 v1) fun v2 =>
  okStr (some a1) fun s3 =>
  callR Tryd.prog G 42 [v2, (.v (.string s3)), (.fn (.func 43) [] [])] h (fun v4 h5 =>
  okInt .i64 (extV 0 v4) fun n6 =>
  okBool (extV 1 v4) fun b7 =>
  RetR h K (.tup [(.v (.int .i64 n6)), (.v (.bool b7))]) h5)
theorem Tryd.c30 (G : Nat → Option AV) (a0 a1 : AV) (h : AH) (K : AV → AH → Prop) (hk : LowH h.length h → Tryd.r30 G a0 a1 h K) : SCall Tryd.prog G 30 [a0, a1] h K :=
  scall_of_rwp Tryd.tab30 [] Tryd.func30 rfl Tryd.ntmps30 (by kernel_rfl) (by show 2 ≤ 14; decide) (by kernel_rfl) (by kernel_rfl) hk
-- 31 skylark/layout.Check
def Tryd.r31 (G : Nat → Option AV) (a0 : AV) (h : AH) (K : AV → AH → Prop) : Prop :=
  onlyB (AV.one a0) (newO (.cells 24 (AV.cells a0).length [AV.cells a0] 0) h fun i0 h1 =>
  okInt .i64 (aLoad Tryd.prog h1 3 (.ptr i0 0 0 0)) fun n2 =>
  rGq (decide (n2 < 1)) false (some (.ptr i0 0 0 0)) fun b3 v4 =>
  rGq b3 false (aLoad Tryd.prog h1 3 v4) fun b5 v6 =>
  rGq b5 false (aBin Tryd.prog .gtr 3 v6 (.v (.int .i64 1073741824))) fun b7 v8 =>
  okBool (pickR (some (.v (.bool b7))) (some (.v (.bool true))) (some v8)) fun b9 =>
  rGq b9 false (some (.ptr i0 0 0 1)) fun b10 v11 =>
  rGq b10 false (aLoad Tryd.prog h1 22 v11) fun b12 v13 =>
  rGe b12 false (fun k14 => callR Tryd.prog G 44 [v13] h1 (fun v15 h16 =>
  k14 v15 h16)) h1 fun b17 v18 h19 =>
  rGq b17 false (aBin Tryd.prog .neq 36 v18 (.v (.int .i64 0))) fun b20 v21 =>
  okBool (pickR (some (.v (.bool b20))) (some (.v (.bool true))) (some v21)) fun b22 =>
  condB b22
  (RetR h K (.v (.int .i64 70)) h19)
  (RetR h K (.v (.int .i64 0)) h19))
theorem Tryd.c31 (G : Nat → Option AV) (a0 : AV) (h : AH) (K : AV → AH → Prop) (hk : LowH h.length h → Tryd.r31 G a0 h K) : SCall Tryd.prog G 31 [a0] h K :=
  scall_of_rwp Tryd.tab31 [] Tryd.func31 rfl Tryd.ntmps31 (by kernel_rfl) (by show 1 ≤ 17; decide) (by kernel_rfl) (by kernel_rfl) hk
-- 32 slices.SortStableFunc[[]skylark/api.Row,skylark/api.Row]
def Tryd.r32 (G : Nat → Option AV) (a0 a1 : AV) (h : AH) (K : AV → AH → Prop) : Prop :=
  okInt .i64 (aLen Tryd.prog h 28 a0) fun n0 =>
  callR Tryd.prog G 45 [a0, (.v (.int .i64 n0)), a1] h (fun v1 h2 =>
  RetR h K (.tup []) h2)
theorem Tryd.c32 (G : Nat → Option AV) (a0 a1 : AV) (h : AH) (K : AV → AH → Prop) (hk : LowH h.length h → Tryd.r32 G a0 a1 h K) : SCall Tryd.prog G 32 [a0, a1] h K :=
  scall_of_rwp Tryd.tab32 [] Tryd.func32 rfl Tryd.ntmps32 (by kernel_rfl) (by show 2 ≤ 9; decide) (by kernel_rfl) (by kernel_rfl) hk
-- 33 skylark/move.All$1
def Tryd.r33 (G : Nat → Option AV) (a0 a1 : AV) (h : AH) (K : AV → AH → Prop) : Prop :=
  onlyB (AV.one a0) (newO (.cells 49 (AV.cells a0).length [AV.cells a0] 0) h fun i0 h1 =>
  onlyB (AV.one a1) (newO (.cells 49 (AV.cells a1).length [AV.cells a1] 0) h1 fun i2 h3 =>
  okStr (aLoad Tryd.prog h3 9 (.ptr i0 0 0 0)) fun s4 =>
  okStr (aLoad Tryd.prog h3 9 (.ptr i2 0 0 0)) fun s5 =>
  callR Tryd.prog G 29 [(.v (.string s4)), (.v (.string s5))] h3 (fun v6 h7 =>
  okInt .i64 (some v6) fun n8 =>
  RetR h K (.v (.int .i64 n8)) h7)))
theorem Tryd.c33 (G : Nat → Option AV) (a0 a1 : AV) (h : AH) (K : AV → AH → Prop) (hk : LowH h.length h → Tryd.r33 G a0 a1 h K) : SCall Tryd.prog G 33 [a0, a1] h K :=
  scall_of_rwp Tryd.tab33 [] Tryd.func33 rfl Tryd.ntmps33 (by kernel_rfl) (by show 2 ≤ 10; decide) (by kernel_rfl) (by kernel_rfl) hk
-- 34 skylark/layout.rise
def Tryd.r34_l2_1 (K : AV → AH → Prop) (h : AH) (a0 : AV) (n0 : Int) (n39 : Int) : Prop :=
  ∃ (I1 : Nat → List AV → AH → Prop) (m2 : Nat), I1 m2 [(.v (.int .i64 n39))] h ∧ ∀ (m3 : Nat) (h4 : AH), h.length ≤ h4.length → LowH h4.length h4 → ∀ (n5 : Int), I1 m3 [(.v (.int .i64 n5))] h4 →
  condB (decide (n5 < n0))
  (okV (aIA Tryd.prog h4 56 a0 (.v (.int .i64 n5))) fun v6 =>
  okStr (aLoad Tryd.prog h4 9 v6) fun s7 =>
  rGq (ByteArray.toList s7 == ByteArray.toList (ByteArray.mk #[])) false (some (.v (.string s7))) fun b8 v9 =>
  rGq b8 false (aLen Tryd.prog h4 9 v9) fun b10 v11 =>
  rGq b10 false (aBin Tryd.prog .gtr 3 v11 (.v (.int .i64 64))) fun b12 v13 =>
  okBool (pickR (some (.v (.bool b12))) (some (.v (.bool true))) (some v13)) fun b14 =>
  rGq b14 false (some (.v (.int .i64 n5))) fun b15 v16 =>
  rGq b15 false (aBin Tryd.prog .gtr 3 v16 (.v (.int .i64 0))) fun b17 v18 =>
  rGq b17 false (some v18) fun b19 v20 =>
  okG (some v20) true fun b21 g0 =>
  rGq b21 true (some a0) fun b22 v23 =>
  okG (some (g0 b22)) true fun c1 g2 =>
  rGq c1 true (some (.v (.int .i64 n5))) fun b24 v25 =>
  okG (some (g2 b24)) true fun c3 g4 =>
  rGq c3 true (aBin Tryd.prog .sub 3 v25 (.v (.int .i64 1))) fun b26 v27 =>
  okG (some (g4 b26)) true fun c5 g6 =>
  rGq c5 true (aIA Tryd.prog h4 56 v23 v27) fun b28 v29 =>
  okG (some (g6 b28)) true fun c7 g8 =>
  rGq c7 true (aLoad Tryd.prog h4 9 v29) fun b30 v31 =>
  okG (some (g8 b30)) true fun c9 g10 =>
  rGq c9 true (some (.v (.string s7))) fun b32 v33 =>
  okG (some (g10 b32)) true fun c11 g12 =>
  rGq c11 true (aBin Tryd.prog .geq 9 v31 v33) fun b34 v35 =>
  rGq b19 false (pickR (some (g12 b34)) (some v35) (some (.v (.bool false)))) fun b36 v37 =>
  okBool (pickR (some (.v (.bool b36))) (some (.v (.bool true))) (some v37)) fun b38 =>
  condB b38
  (RetR h K (.v (.bool false)) h4)
  (nextR h I1 m3 [some a0, some a0, some (.v (.int .i64 n0))] [some a0, some a0, some (.v (.int .i64 n0))] [(.v (.int .i64 (IntKind.wrap .i64 (n5 + 1))))] h4))
  (RetR h K (.v (.bool true)) h4)
def Tryd.r34 (a0 : AV) (h : AH) (K : AV → AH → Prop) : Prop :=
  okInt .i64 (aLen Tryd.prog h 56 a0) fun n0 =>
  Tryd.r34_l2_1 K h a0 n0 0
theorem Tryd.c34 (G : Nat → Option AV) (a0 : AV) (h : AH) (K : AV → AH → Prop) (hk : LowH h.length h → Tryd.r34 a0 h K) : SCall Tryd.prog G 34 [a0] h K :=
  scall_of_rwp Tryd.tab34 [(2, [(7, (.int .i64))], [0, 5, 6])] Tryd.func34 rfl Tryd.ntmps34 (by kernel_rfl) (by show 1 ≤ 33; decide) (by kernel_rfl) (by kernel_rfl) hk
-- 35 slices.BinarySearch[[]string,string]
def Tryd.r35_l3_1 (K : AV → AH → Prop) (h : AH) (G : Nat → Option AV) (a0 : AV) (a1 : AV) (n0 : Int) (n59 : Int) (n60 : Int) : Prop :=
  ∃ (I1 : Nat → List AV → AH → Prop) (m2 : Nat), I1 m2 [(.v (.int .i64 n59)), (.v (.int .i64 n60))] h ∧ ∀ (m3 : Nat) (h4 : AH), h.length ≤ h4.length → LowH h4.length h4 → ∀ (n5 : Int) (n6 : Int), I1 m3 [(.v (.int .i64 n5)), (.v (.int .i64 n6))] h4 →
  condB (decide (n5 < n6))
  (okInt .u64 (aBin Tryd.prog .shr 99 (.v (.int .u64 (IntKind.wrap .u64 (IntKind.wrap .i64 (n5 + n6))))) (.v (.int .u64 1))) fun n7 =>
  okV (aIA Tryd.prog h4 56 a0 (.v (.int .i64 (IntKind.wrap .i64 n7)))) fun v8 =>
  okStr (aLoad Tryd.prog h4 9 v8) fun s9 =>
  okStr (some a1) fun s10 =>
  callR Tryd.prog G 46 [(.v (.string s9)), (.v (.string s10))] h4 (fun v11 h12 =>
  okBool (some v11) fun b13 =>
  condB b13
  (nextR h I1 m3 [some a0, some a1, some (.v (.int .i64 n0))] [some a0, some a1, some (.v (.int .i64 n0))] [(.v (.int .i64 (IntKind.wrap .i64 ((IntKind.wrap .i64 n7) + 1)))), (.v (.int .i64 n6))] h12)
  (nextR h I1 m3 [some a0, some a1, some (.v (.int .i64 n0))] [some a0, some a1, some (.v (.int .i64 n0))] [(.v (.int .i64 n5)), (.v (.int .i64 (IntKind.wrap .i64 n7)))] h12)))
  (rGq (decide (n5 < n0)) true (some a0) fun b14 v15 =>
  rGq b14 true (some (.v (.int .i64 n5))) fun b16 v17 =>
  rGq b16 true (aIA Tryd.prog h4 56 v15 v17) fun b18 v19 =>
  rGq b18 true (aLoad Tryd.prog h4 9 v19) fun b20 v21 =>
  rGq b20 true (some a1) fun b22 v23 =>
  rGq b22 true (aBin Tryd.prog .eql 9 v21 v23) fun b24 v25 =>
  rGq b24 true (some v25) fun b26 v27 =>
  okG (some v27) false fun b28 g0 =>
  rGq b28 false (some a0) fun b29 v30 =>
  okG (some (g0 b29)) false fun c1 g2 =>
  rGq c1 false (some (.v (.int .i64 n5))) fun b31 v32 =>
  okG (some (g2 b31)) false fun c3 g4 =>
  rGq c3 false (aIA Tryd.prog h4 56 v30 v32) fun b33 v34 =>
  okG (some (g4 b33)) false fun c5 g6 =>
  rGq c5 false (aLoad Tryd.prog h4 9 v34) fun b35 v36 =>
  okG (some (g6 b35)) false fun c7 g8 =>
  rGe c7 false (fun k37 => callR Tryd.prog G 47 [v36] h4 (fun v38 h39 =>
  k37 v38 h39)) h4 fun b40 v41 h42 =>
  okG (some (g8 b40)) false fun c9 g10 =>
  rGq c9 false (some v41) fun b43 v44 =>
  okG (some v44) true fun b45 g11 =>
  rGq b45 true (some a1) fun b46 v47 =>
  okG (some (g11 b46)) true fun c12 g13 =>
  rGe c12 true (fun k48 => callR Tryd.prog G 47 [v47] h42 (fun v49 h50 =>
  k48 v49 h50)) h42 fun b51 v52 h53 =>
  okG (some (g10 b43)) false fun c14 g15 =>
  rGq c14 false (pickR (some (g13 b51)) (some v52) (some (.v (.bool false)))) fun b54 v55 =>
  rGq b26 true (pickR (some (g15 b54)) (some (.v (.bool true))) (some v55)) fun b56 v57 =>
  okBool (pickR (some (.v (.bool b56))) (some v57) (some (.v (.bool false)))) fun b58 =>
  RetR h K (.tup [(.v (.int .i64 n5)), (.v (.bool b58))]) h53)
def Tryd.r35 (G : Nat → Option AV) (a0 a1 : AV) (h : AH) (K : AV → AH → Prop) : Prop :=
  okInt .i64 (aLen Tryd.prog h 56 a0) fun n0 =>
  Tryd.r35_l3_1 K h G a0 a1 n0 0 n0
theorem Tryd.c35 (G : Nat → Option AV) (a0 a1 : AV) (h : AH) (K : AV → AH → Prop) (hk : LowH h.length h → Tryd.r35 G a0 a1 h K) : SCall Tryd.prog G 35 [a0, a1] h K :=
  scall_of_rwp Tryd.tab35 [(3, [(7, (.int .i64)), (8, (.int .i64))], [0, 1, 6])] Tryd.func35 rfl Tryd.ntmps35 (by kernel_rfl) (by show 2 ≤ 54; decide) (by kernel_rfl) (by kernel_rfl) hk
-- 36 skylark/ring.Moved
def Tryd.r36_l8_14 (K : AV → AH → Prop) (h : AH) (G : Nat → Option AV) (a2 : AV) (v2 : AV) (v6 : AV) (h11 : AH) (n13 : Int) (v32 : AV) (n33 : Int) : Prop :=
  ∃ (I14 : Nat → List AV → AH → Prop) (m15 : Nat), I14 m15 [v32, (.v (.int .i64 n33))] h11 ∧ ∀ (m16 : Nat) (h17 : AH), h11.length ≤ h17.length → LowH h17.length h17 → ∀ (v18 : AV) (n19 : Int), I14 m16 [v18, (.v (.int .i64 n19))] h17 →
  condB (decide (n19 < n13))
  (okV (aIA Tryd.prog h17 56 a2 (.v (.int .i64 n19))) fun v20 =>
  okStr (aLoad Tryd.prog h17 9 v20) fun s21 =>
  callR Tryd.prog G 39 [v2, (.v (.string s21))] h17 (fun v22 h23 =>
  okInt .i64 (some v22) fun n24 =>
  callR Tryd.prog G 39 [v6, (.v (.string s21))] h23 (fun v25 h26 =>
  okInt .i64 (some v25) fun n27 =>
  condB (n24 != n27)
  (newO (.cells 3 1 [[(.v (.int .i64 n19))]] 0) h26 fun i28 h29 =>
  appR Tryd.prog h29 22 22 v18 (.sl i28 0 0 1 none) (fun v30 h31 =>
  nextR h11 I14 m16 [some v2, some v6, some a2, some (.v (.int .i64 n13))] [some v2, some v6, some a2, some (.v (.int .i64 n13))] [v30, (.v (.int .i64 (IntKind.wrap .i64 (n19 + 1))))] h31))
  (nextR h11 I14 m16 [some v2, some v6, some a2, some (.v (.int .i64 n13))] [some v2, some v6, some a2, some (.v (.int .i64 n13))] [v18, (.v (.int .i64 (IntKind.wrap .i64 (n19 + 1))))] h26))))
  (RetR h K (.tup [v18, (.v (.int .i64 0))]) h17)
def Tryd.r36 (G : Nat → Option AV) (a0 a1 a2 : AV) (h : AH) (K : AV → AH → Prop) : Prop :=
  callR Tryd.prog G 38 [a0] h (fun v0 h1 =>
  okV (extV 0 v0) fun v2 =>
  okInt .i64 (extV 1 v0) fun n3 =>
  callR Tryd.prog G 38 [a1] h1 (fun v4 h5 =>
  okV (extV 0 v4) fun v6 =>
  okInt .i64 (extV 1 v4) fun n7 =>
  newO (.cells 36 1 [[(.v (.int .i64 n3))], [(.v (.int .i64 n7))]] 0) h5 fun i8 h9 =>
  callR Tryd.prog G 48 [(.sl i8 0 0 2 none)] h9 (fun v10 h11 =>
  okInt .i64 (some v10) fun n12 =>
  condB (n12 != 0)
  (RetR h K (.tup [(.v (.slice none 0 0)), (.v (.int .i64 n12))]) h11)
  (okInt .i64 (aLen Tryd.prog h11 56 a2) fun n13 =>
  Tryd.r36_l8_14 K h G a2 v2 v6 h11 n13 (.v (.slice none 0 0)) 0))))
theorem Tryd.c36 (G : Nat → Option AV) (a0 a1 a2 : AV) (h : AH) (K : AV → AH → Prop) (hk : LowH h.length h → Tryd.r36 G a0 a1 a2 h K) : SCall Tryd.prog G 36 [a0, a1, a2] h K :=
  scall_of_rwp Tryd.tab36 [(8, [(13, .any), (35, (.int .i64))], [8, 10, 33, 34])] Tryd.func36 rfl Tryd.ntmps36 (by kernel_rfl) (by show 3 ≤ 53; decide) (by kernel_rfl) (by kernel_rfl) hk
-- 37 slices.Contains[[]*skylark/table.Table,*skylark/table.Table]
def Tryd.r37 (G : Nat → Option AV) (a0 a1 : AV) (h : AH) (K : AV → AH → Prop) : Prop :=
  callR Tryd.prog G 49 [a0, a1] h (fun v0 h1 =>
  okInt .i64 (some v0) fun n2 =>
  RetR h K (.v (.bool (decide (n2 ≥ 0)))) h1)
theorem Tryd.c37 (G : Nat → Option AV) (a0 a1 : AV) (h : AH) (K : AV → AH → Prop) (hk : LowH h.length h → Tryd.r37 G a0 a1 h K) : SCall Tryd.prog G 37 [a0, a1] h K :=
  scall_of_rwp Tryd.tab37 [] Tryd.func37 rfl Tryd.ntmps37 (by kernel_rfl) (by show 2 ≤ 9; decide) (by kernel_rfl) (by kernel_rfl) hk
-- 38 skylark/ring.made
def Tryd.r38_l9_12 (G : Nat → Option AV) (a0 : AV) (h1 : AH) (n3 : Int) (I4 : Nat → List AV → AH → Prop) (m6 : Nat) (h7 : AH) (n9 : Int) (n11 : Int) (v33 : AV) (n34 : Int) : Prop :=
  ∃ (I12 : Nat → List AV → AH → Prop) (m13 : Nat), I12 m13 [v33, (.v (.int .i64 n34))] h7 ∧ ∀ (m14 : Nat) (h15 : AH), h7.length ≤ h15.length → LowH h15.length h15 → ∀ (v16 : AV) (n17 : Int), I12 m14 [v16, (.v (.int .i64 n17))] h15 →
  condB (decide (n17 < n11))
  (callR Tryd.prog G 51 [(.v (.int .i64 n9))] h15 (fun v18 h19 =>
  okStr (some v18) fun s20 =>
  okStr (aBin Tryd.prog .add 9 (.v (.string s20)) (.v (.string (ByteArray.mk #[46])))) fun s21 =>
  callR Tryd.prog G 51 [(.v (.int .i64 n17))] h19 (fun v22 h23 =>
  okStr (some v22) fun s24 =>
  okStr (aBin Tryd.prog .add 9 (.v (.string s21)) (.v (.string s24))) fun s25 =>
  callR Tryd.prog G 50 [(.v (.string s25))] h23 (fun v26 h27 =>
  okInt .u64 (some v26) fun n28 =>
  newO (.cells 107 3 [[(.v (.int .u64 n28)), (.v (.int .i64 n9)), (.v (.int .i64 n17))]] 0) h27 fun i29 h30 =>
  appR Tryd.prog h30 90 90 v16 (.sl i29 0 0 1 none) (fun v31 h32 =>
  nextR h7 I12 m14 [some (.v (.int .i64 n9)), some a0, some (.v (.int .i64 n3)), some (.v (.int .i64 n9)), some (.v (.int .i64 n11))] [some (.v (.int .i64 n9)), some a0, some (.v (.int .i64 n3)), some (.v (.int .i64 n9)), some (.v (.int .i64 n11))] [v31, (.v (.int .i64 (IntKind.wrap .i64 (n17 + 1))))] h32)))))
  (nextR h1 I4 m6 [some a0, some (.v (.int .i64 n3))] [some a0, some (.v (.int .i64 n3))] [v16, (.v (.int .i64 (IntKind.wrap .i64 (n9 + 1))))] h15)
def Tryd.r38_l6_4 (K : AV → AH → Prop) (h : AH) (G : Nat → Option AV) (a0 : AV) (h1 : AH) (n3 : Int) (v37 : AV) (n38 : Int) : Prop :=
  ∃ (I4 : Nat → List AV → AH → Prop) (m5 : Nat), I4 m5 [v37, (.v (.int .i64 n38))] h1 ∧ ∀ (m6 : Nat) (h7 : AH), h1.length ≤ h7.length → LowH h7.length h7 → ∀ (v8 : AV) (n9 : Int), I4 m6 [v8, (.v (.int .i64 n9))] h7 →
  condB (decide (n9 < n3))
  (okV (aIA Tryd.prog h7 22 a0 (.v (.int .i64 n9))) fun v10 =>
  okInt .i64 (aLoad Tryd.prog h7 3 v10) fun n11 =>
  Tryd.r38_l9_12 G a0 h1 n3 I4 m6 h7 n9 n11 v8 0)
  (callR Tryd.prog G 52 [v8, (.fn (.func 53) [] [])] h7 (fun v35 h36 =>
  RetR h K (.tup [v8, (.v (.int .i64 0))]) h36))
def Tryd.r38 (G : Nat → Option AV) (a0 : AV) (h : AH) (K : AV → AH → Prop) : Prop :=
  callR Tryd.prog G 44 [a0] h (fun v0 h1 =>
  okInt .i64 (some v0) fun n2 =>
  condB (n2 != 0)
  (RetR h K (.tup [(.v (.slice none 0 0)), (.v (.int .i64 n2))]) h1)
  (okInt .i64 (aLen Tryd.prog h1 22 a0) fun n3 =>
  Tryd.r38_l6_4 K h G a0 h1 n3 (.v (.slice none 0 0)) 0))
theorem Tryd.c38 (G : Nat → Option AV) (a0 : AV) (h : AH) (K : AV → AH → Prop) (hk : LowH h.length h → Tryd.r38 G a0 h K) : SCall Tryd.prog G 38 [a0] h K :=
  scall_of_rwp Tryd.tab38 [(6, [(5, .any), (17, (.int .i64))], [15, 16]), (9, [(5, .any), (23, (.int .i64))], [6, 15, 16, 17, 22])] Tryd.func38 rfl Tryd.ntmps38 (by kernel_rfl) (by show 1 ≤ 46; decide) (by kernel_rfl) (by kernel_rfl) hk
-- 39 (skylark/ring.ring).of
def Tryd.r39 (G : Nat → Option AV) (a0 a1 : AV) (h : AH) (K : AV → AH → Prop) : Prop :=
  okStr (some a1) fun s0 =>
  callR Tryd.prog G 50 [(.v (.string s0))] h (fun v1 h2 =>
  okInt .u64 (some v1) fun n3 =>
  callR Tryd.prog G 54 [a0, (.v (.int .u64 n3)), (.fn (.func 55) [] [])] h2 (fun v4 h5 =>
  okInt .i64 (extV 0 v4) fun n6 =>
  okBool (extV 1 v4) fun b7 =>
  okInt .i64 (aLen Tryd.prog h5 90 a0) fun n8 =>
  okInt .i64 (aBin Tryd.prog .rem 3 (.v (.int .i64 n6)) (.v (.int .i64 n8))) fun n9 =>
  okV (aIA Tryd.prog h5 90 a0 (.v (.int .i64 n9))) fun v10 =>
  okV (aFA Tryd.prog 107 1 v10) fun v11 =>
  okInt .i64 (aLoad Tryd.prog h5 3 v11) fun n12 =>
  RetR h K (.v (.int .i64 n12)) h5))
theorem Tryd.c39 (G : Nat → Option AV) (a0 a1 : AV) (h : AH) (K : AV → AH → Prop) (hk : LowH h.length h → Tryd.r39 G a0 a1 h K) : SCall Tryd.prog G 39 [a0, a1] h K :=
  scall_of_rwp Tryd.tab39 [] Tryd.func39 rfl Tryd.ntmps39 (by kernel_rfl) (by show 2 ≤ 24; decide) (by kernel_rfl) (by kernel_rfl) hk
-- 40 slices.IndexFunc[[]skylark/api.Row,skylark/api.Row]
def Tryd.r40_l2_1 (K : AV → AH → Prop) (h : AH) (G : Nat → Option AV) (a0 : AV) (a1 : AV) (n0 : Int) (n11 : Int) : Prop :=
  ∃ (I1 : Nat → List AV → AH → Prop) (m2 : Nat), I1 m2 [(.v (.int .i64 n11))] h ∧ ∀ (m3 : Nat) (h4 : AH), h.length ≤ h4.length → LowH h4.length h4 → ∀ (n5 : Int), I1 m3 [(.v (.int .i64 n5))] h4 →
  condB (decide (n5 < n0))
  (okV (aIA Tryd.prog h4 28 a0 (.v (.int .i64 n5))) fun v6 =>
  okV (aLoad Tryd.prog h4 49 v6) fun v7 =>
  callU Tryd.prog G h4 (fun v8 h9 =>
  okBool (some v8) fun b10 =>
  condB b10
  (RetR h K (.v (.int .i64 n5)) h9)
  (nextR h I1 m3 [some a0, some a1, some (.v (.int .i64 n0))] [some a0, some a1, some (.v (.int .i64 n0))] [(.v (.int .i64 (IntKind.wrap .i64 (n5 + 1))))] h9)) [v7] a1)
  (RetR h K (.v (.int .i64 (-1))) h4)
def Tryd.r40 (G : Nat → Option AV) (a0 a1 : AV) (h : AH) (K : AV → AH → Prop) : Prop :=
  okInt .i64 (aLen Tryd.prog h 28 a0) fun n0 =>
  Tryd.r40_l2_1 K h G a0 a1 n0 0
theorem Tryd.c40 (G : Nat → Option AV) (a0 a1 : AV) (h : AH) (K : AV → AH → Prop) (hk : LowH h.length h → Tryd.r40 G a0 a1 h K) : SCall Tryd.prog G 40 [a0, a1] h K :=
  scall_of_rwp Tryd.tab40 [(2, [(8, (.int .i64))], [0, 1, 7])] Tryd.func40 rfl Tryd.ntmps40 (by kernel_rfl) (by show 2 ≤ 19; decide) (by kernel_rfl) (by kernel_rfl) hk
-- 42 slices.BinarySearchFunc[[]skylark/api.Row,skylark/api.Row,string]
def Tryd.r42_l3_1 (K : AV → AH → Prop) (h : AH) (G : Nat → Option AV) (a0 : AV) (a1 : AV) (a2 : AV) (n0 : Int) (n35 : Int) (n36 : Int) : Prop :=
  ∃ (I1 : Nat → List AV → AH → Prop) (m2 : Nat), I1 m2 [(.v (.int .i64 n35)), (.v (.int .i64 n36))] h ∧ ∀ (m3 : Nat) (h4 : AH), h.length ≤ h4.length → LowH h4.length h4 → ∀ (n5 : Int) (n6 : Int), I1 m3 [(.v (.int .i64 n5)), (.v (.int .i64 n6))] h4 →
  condB (decide (n5 < n6))
  (okInt .u64 (aBin Tryd.prog .shr 99 (.v (.int .u64 (IntKind.wrap .u64 (IntKind.wrap .i64 (n5 + n6))))) (.v (.int .u64 1))) fun n7 =>
  okV (aIA Tryd.prog h4 28 a0 (.v (.int .i64 (IntKind.wrap .i64 n7)))) fun v8 =>
  okV (aLoad Tryd.prog h4 49 v8) fun v9 =>
  okStr (some a1) fun s10 =>
  callU Tryd.prog G h4 (fun v11 h12 =>
  okInt .i64 (some v11) fun n13 =>
  condB (decide (n13 < 0))
  (nextR h I1 m3 [some a0, some a1, some a2, some (.v (.int .i64 n0))] [some a0, some a1, some a2, some (.v (.int .i64 n0))] [(.v (.int .i64 (IntKind.wrap .i64 ((IntKind.wrap .i64 n7) + 1)))), (.v (.int .i64 n6))] h12)
  (nextR h I1 m3 [some a0, some a1, some a2, some (.v (.int .i64 n0))] [some a0, some a1, some a2, some (.v (.int .i64 n0))] [(.v (.int .i64 n5)), (.v (.int .i64 (IntKind.wrap .i64 n7)))] h12)) [v9, (.v (.string s10))] a2)
  (rGq (decide (n5 < n0)) true (some a2) fun b14 v15 =>
  rGq b14 true (some a0) fun b16 v17 =>
  rGq b16 true (some (.v (.int .i64 n5))) fun b18 v19 =>
  rGq b18 true (aIA Tryd.prog h4 28 v17 v19) fun b20 v21 =>
  rGq b20 true (aLoad Tryd.prog h4 49 v21) fun b22 v23 =>
  rGq b22 true (some a1) fun b24 v25 =>
  rGe b24 true (fun k26 => callU Tryd.prog G h4 (fun v27 h28 =>
  k26 v27 h28) [v23, v25] v15) h4 fun b29 v30 h31 =>
  rGq b29 true (aBin Tryd.prog .eql 3 v30 (.v (.int .i64 0))) fun b32 v33 =>
  okBool (pickR (some (.v (.bool b32))) (some v33) (some (.v (.bool false)))) fun b34 =>
  RetR h K (.tup [(.v (.int .i64 n5)), (.v (.bool b34))]) h31)
def Tryd.r42 (G : Nat → Option AV) (a0 a1 a2 : AV) (h : AH) (K : AV → AH → Prop) : Prop :=
  okInt .i64 (aLen Tryd.prog h 28 a0) fun n0 =>
  Tryd.r42_l3_1 K h G a0 a1 a2 n0 0 n0
theorem Tryd.c42 (G : Nat → Option AV) (a0 a1 a2 : AV) (h : AH) (K : AV → AH → Prop) (hk : LowH h.length h → Tryd.r42 G a0 a1 a2 h K) : SCall Tryd.prog G 42 [a0, a1, a2] h K :=
  scall_of_rwp Tryd.tab42 [(3, [(9, (.int .i64)), (10, (.int .i64))], [0, 1, 2, 8])] Tryd.func42 rfl Tryd.ntmps42 (by kernel_rfl) (by show 3 ≤ 49; decide) (by kernel_rfl) (by kernel_rfl) hk
-- 43 (*skylark/table.Table).at$1
def Tryd.r43 (G : Nat → Option AV) (a0 a1 : AV) (h : AH) (K : AV → AH → Prop) : Prop :=
  onlyB (AV.one a0) (newO (.cells 49 (AV.cells a0).length [AV.cells a0] 0) h fun i0 h1 =>
  okStr (aLoad Tryd.prog h1 9 (.ptr i0 0 0 0)) fun s2 =>
  okStr (some a1) fun s3 =>
  callR Tryd.prog G 29 [(.v (.string s2)), (.v (.string s3))] h1 (fun v4 h5 =>
  okInt .i64 (some v4) fun n6 =>
  RetR h K (.v (.int .i64 n6)) h5))
theorem Tryd.c43 (G : Nat → Option AV) (a0 a1 : AV) (h : AH) (K : AV → AH → Prop) (hk : LowH h.length h → Tryd.r43 G a0 a1 h K) : SCall Tryd.prog G 43 [a0, a1] h K :=
  scall_of_rwp Tryd.tab43 [] Tryd.func43 rfl Tryd.ntmps43 (by kernel_rfl) (by show 2 ≤ 9; decide) (by kernel_rfl) (by kernel_rfl) hk
-- 44 skylark/ring.Check
def Tryd.r44 (G : Nat → Option AV) (a0 : AV) (h : AH) (K : AV → AH → Prop) : Prop :=
  okInt .i64 (aLen Tryd.prog h 22 a0) fun n0 =>
  rGq (decide (n0 < 1)) false (some a0) fun b1 v2 =>
  rGq b1 false (aLen Tryd.prog h 22 v2) fun b3 v4 =>
  rGq b3 false (aBin Tryd.prog .gtr 3 v4 (.v (.int .i64 8))) fun b5 v6 =>
  okBool (pickR (some (.v (.bool b5))) (some (.v (.bool true))) (some v6)) fun b7 =>
  rGq b7 false (some a0) fun b8 v9 =>
  rGe b8 false (fun k10 => callR Tryd.prog G 58 [v9] h (fun v11 h12 =>
  k10 v11 h12)) h fun b13 v14 h15 =>
  rGq b13 false (aBin Tryd.prog .lss 3 v14 (.v (.int .i64 0))) fun b16 v17 =>
  okBool (pickR (some (.v (.bool b16))) (some (.v (.bool true))) (some v17)) fun b18 =>
  rGq b18 false (some a0) fun b19 v20 =>
  rGe b19 false (fun k21 => callR Tryd.prog G 20 [v20] h15 (fun v22 h23 =>
  k21 v22 h23)) h15 fun b24 v25 h26 =>
  rGq b24 false (aBin Tryd.prog .gtr 3 v25 (.v (.int .i64 128))) fun b27 v28 =>
  okBool (pickR (some (.v (.bool b27))) (some (.v (.bool true))) (some v28)) fun b29 =>
  rGq b29 false (some a0) fun b30 v31 =>
  rGe b30 false (fun k32 => callR Tryd.prog G 20 [v31] h26 (fun v33 h34 =>
  k32 v33 h34)) h26 fun b35 v36 h37 =>
  rGq b35 false (aBin Tryd.prog .eql 3 v36 (.v (.int .i64 0))) fun b38 v39 =>
  okBool (pickR (some (.v (.bool b38))) (some (.v (.bool true))) (some v39)) fun b40 =>
  condB b40
  (RetR h K (.v (.int .i64 1)) h37)
  (RetR h K (.v (.int .i64 0)) h37)
theorem Tryd.c44 (G : Nat → Option AV) (a0 : AV) (h : AH) (K : AV → AH → Prop) (hk : LowH h.length h → Tryd.r44 G a0 h K) : SCall Tryd.prog G 44 [a0] h K :=
  scall_of_rwp Tryd.tab44 [] Tryd.func44 rfl Tryd.ntmps44 (by kernel_rfl) (by show 1 ≤ 26; decide) (by kernel_rfl) (by kernel_rfl) hk
-- 45 slices.stableCmpFunc[skylark/api.Row]
def Tryd.r45_l9_18 (G : Nat → Option AV) (a0 : AV) (a1 : AV) (a2 : AV) (h11 : AH) (I12 : Nat → List AV → AH → Prop) (m14 : Nat) (h15 : AH) (n16 : Int) (n31 : Int) (n32 : Int) : Prop :=
  ∃ (I18 : Nat → List AV → AH → Prop) (m19 : Nat), I18 m19 [(.v (.int .i64 n31)), (.v (.int .i64 n32))] h15 ∧ ∀ (m20 : Nat) (h21 : AH), h15.length ≤ h21.length → LowH h21.length h21 → ∀ (n22 : Int) (n23 : Int), I18 m20 [(.v (.int .i64 n22)), (.v (.int .i64 n23))] h21 →
  okInt .i64 (some a1) fun n24 =>
  condB (decide (n23 ≤ n24))
  (callR Tryd.prog G 60 [a0, (.v (.int .i64 n22)), (.v (.int .i64 (IntKind.wrap .i64 (n22 + n16)))), (.v (.int .i64 n23)), a2] h21 (fun v25 h26 =>
  nextR h15 I18 m20 [some a0, some a1, some a2, some (.v (.int .i64 n16))] [some a0, some a1, some a2, some (.v (.int .i64 n16))] [(.v (.int .i64 n23)), (.v (.int .i64 (IntKind.wrap .i64 (n23 + (IntKind.wrap .i64 (2 * n16))))))] h26))
  (okInt .i64 (some a1) fun n27 =>
  condB (decide ((IntKind.wrap .i64 (n22 + n16)) < n27))
  (okInt .i64 (some a1) fun n28 =>
  callR Tryd.prog G 60 [a0, (.v (.int .i64 n22)), (.v (.int .i64 (IntKind.wrap .i64 (n22 + n16)))), (.v (.int .i64 n28)), a2] h21 (fun v29 h30 =>
  nextR h11 I12 m14 [some a0, some a1, some a2] [some a0, some a1, some a2] [(.v (.int .i64 (IntKind.wrap .i64 (n16 * 2))))] h30))
  (nextR h11 I12 m14 [some a0, some a1, some a2] [some a0, some a1, some a2] [(.v (.int .i64 (IntKind.wrap .i64 (n16 * 2))))] h21))
def Tryd.r45_l7_12 (K : AV → AH → Prop) (h : AH) (G : Nat → Option AV) (a0 : AV) (a1 : AV) (a2 : AV) (h11 : AH) (n33 : Int) : Prop :=
  ∃ (I12 : Nat → List AV → AH → Prop) (m13 : Nat), I12 m13 [(.v (.int .i64 n33))] h11 ∧ ∀ (m14 : Nat) (h15 : AH), h11.length ≤ h15.length → LowH h15.length h15 → ∀ (n16 : Int), I12 m14 [(.v (.int .i64 n16))] h15 →
  okInt .i64 (some a1) fun n17 =>
  condB (decide (n16 < n17))
  (Tryd.r45_l9_18 G a0 a1 a2 h11 I12 m14 h15 n16 0 (IntKind.wrap .i64 (2 * n16)))
  (RetR h K (.tup []) h15)
def Tryd.r45_l2_0 (G : Nat → Option AV) (h : AH) (K : AV → AH → Prop) (a0 : AV) (a1 : AV) (a2 : AV) (n34 : Int) (n35 : Int) : Prop :=
  ∃ (I0 : Nat → List AV → AH → Prop) (m1 : Nat), I0 m1 [(.v (.int .i64 n34)), (.v (.int .i64 n35))] h ∧ ∀ (m2 : Nat) (h3 : AH), h.length ≤ h3.length → LowH h3.length h3 → ∀ (n4 : Int) (n5 : Int), I0 m2 [(.v (.int .i64 n4)), (.v (.int .i64 n5))] h3 →
  okInt .i64 (some a1) fun n6 =>
  condB (decide (n5 ≤ n6))
  (callR Tryd.prog G 59 [a0, (.v (.int .i64 n4)), (.v (.int .i64 n5)), a2] h3 (fun v7 h8 =>
  nextR h I0 m2 [some a0, some a1, some a2, some (.v (.int .i64 20))] [some a0, some a1, some a2, some (.v (.int .i64 20))] [(.v (.int .i64 n5)), (.v (.int .i64 (IntKind.wrap .i64 (n5 + 20))))] h8))
  (okInt .i64 (some a1) fun n9 =>
  callR Tryd.prog G 59 [a0, (.v (.int .i64 n4)), (.v (.int .i64 n9)), a2] h3 (fun v10 h11 =>
  Tryd.r45_l7_12 K h G a0 a1 a2 h11 20))
def Tryd.r45 (G : Nat → Option AV) (a0 a1 a2 : AV) (h : AH) (K : AV → AH → Prop) : Prop :=
  Tryd.r45_l2_0 G h K a0 a1 a2 0 20
theorem Tryd.c45 (G : Nat → Option AV) (a0 a1 a2 : AV) (h : AH) (K : AV → AH → Prop) (hk : LowH h.length h → Tryd.r45 G a0 a1 a2 h K) : SCall Tryd.prog G 45 [a0, a1, a2] h K :=
  scall_of_rwp Tryd.tab45 [(2, [(7, (.int .i64)), (8, (.int .i64))], [0, 1, 2, 6]), (7, [(6, (.int .i64))], [0, 1, 2]), (9, [(7, (.int .i64)), (8, (.int .i64))], [0, 1, 2, 6])] Tryd.func45 rfl Tryd.ntmps45 (by kernel_rfl) (by show 3 ≤ 63; decide) (by kernel_rfl) (by kernel_rfl) hk
-- 46 cmp.Less[string]
def Tryd.r46 (G : Nat → Option AV) (a0 a1 : AV) (h : AH) (K : AV → AH → Prop) : Prop :=
  okStr (some a0) fun s0 =>
  callR Tryd.prog G 61 [(.v (.string s0))] h (fun v1 h2 =>
  okBool (some v1) fun b3 =>
  rGq b3 true (some a1) fun b4 v5 =>
  rGe b4 true (fun k6 => callR Tryd.prog G 61 [v5] h2 (fun v7 h8 =>
  k6 v7 h8)) h2 fun b9 v10 h11 =>
  rGq b9 true (aUn .not v10) fun b12 v13 =>
  okBool (pickR (some (.v (.bool b12))) (some v13) (some (.v (.bool false)))) fun b14 =>
  rGq b14 false (some a0) fun b15 v16 =>
  rGq b15 false (some a1) fun b17 v18 =>
  rGq b17 false (aBin Tryd.prog .lss 9 v16 v18) fun b19 v20 =>
  okBool (pickR (some (.v (.bool b19))) (some (.v (.bool true))) (some v20)) fun b21 =>
  RetR h K (.v (.bool b21)) h11)
theorem Tryd.c46 (G : Nat → Option AV) (a0 a1 : AV) (h : AH) (K : AV → AH → Prop) (hk : LowH h.length h → Tryd.r46 G a0 a1 h K) : SCall Tryd.prog G 46 [a0, a1] h K :=
  scall_of_rwp Tryd.tab46 [] Tryd.func46 rfl Tryd.ntmps46 (by kernel_rfl) (by show 2 ≤ 17; decide) (by kernel_rfl) (by kernel_rfl) hk
-- 47 slices.isNaN[string]
def Tryd.r47 (a0 : AV) (h : AH) (K : AV → AH → Prop) : Prop :=
  okStr (some a0) fun s0 =>
  okStr (some a0) fun s1 =>
  RetR h K (.v (.bool (!(ByteArray.toList s0 == ByteArray.toList s1)))) h
theorem Tryd.c47 (G : Nat → Option AV) (a0 : AV) (h : AH) (K : AV → AH → Prop) (hk : LowH h.length h → Tryd.r47 a0 h K) : SCall Tryd.prog G 47 [a0] h K :=
  scall_of_rwp Tryd.tab47 [] Tryd.func47 rfl Tryd.ntmps47 (by kernel_rfl) (by show 1 ≤ 6; decide) (by kernel_rfl) (by kernel_rfl) hk
-- 48 cmp.Or[skylark/api.Errno]
def Tryd.r48_l3_1 (K : AV → AH → Prop) (h : AH) (a0 : AV) (n0 : Int) (n8 : Int) : Prop :=
  ∃ (I1 : Nat → List AV → AH → Prop) (m2 : Nat), I1 m2 [(.v (.int .i64 n8))] h ∧ ∀ (m3 : Nat) (h4 : AH), h.length ≤ h4.length → LowH h4.length h4 → ∀ (n5 : Int), I1 m3 [(.v (.int .i64 n5))] h4 →
  condB (decide (n5 < n0))
  (okV (aIA Tryd.prog h4 116 a0 (.v (.int .i64 n5))) fun v6 =>
  okInt .i64 (aLoad Tryd.prog h4 36 v6) fun n7 =>
  condB (n7 != 0)
  (RetR h K (.v (.int .i64 n7)) h4)
  (nextR h I1 m3 [some (.v (.int .i64 0)), some a0, some (.v (.int .i64 n0))] [some (.v (.int .i64 0)), some a0, some (.v (.int .i64 n0))] [(.v (.int .i64 (IntKind.wrap .i64 (n5 + 1))))] h4))
  (RetR h K (.v (.int .i64 0)) h4)
def Tryd.r48 (a0 : AV) (h : AH) (K : AV → AH → Prop) : Prop :=
  okInt .i64 (aLen Tryd.prog h 116 a0) fun n0 =>
  Tryd.r48_l3_1 K h a0 n0 0
theorem Tryd.c48 (G : Nat → Option AV) (a0 : AV) (h : AH) (K : AV → AH → Prop) (hk : LowH h.length h → Tryd.r48 a0 h K) : SCall Tryd.prog G 48 [a0] h K :=
  scall_of_rwp Tryd.tab48 [(3, [(8, (.int .i64))], [3, 6, 7])] Tryd.func48 rfl Tryd.ntmps48 (by kernel_rfl) (by show 1 ≤ 18; decide) (by kernel_rfl) (by kernel_rfl) hk
-- 49 slices.Index[[]*skylark/table.Table,*skylark/table.Table]
def Tryd.r49_l2_1 (K : AV → AH → Prop) (h : AH) (a0 : AV) (a1 : AV) (n0 : Int) (n11 : Int) : Prop :=
  ∃ (I1 : Nat → List AV → AH → Prop) (m2 : Nat), I1 m2 [(.v (.int .i64 n11))] h ∧ ∀ (m3 : Nat) (h4 : AH), h.length ≤ h4.length → LowH h4.length h4 → ∀ (n5 : Int), I1 m3 [(.v (.int .i64 n5))] h4 →
  condB (decide (n5 < n0))
  (okV (aIA Tryd.prog h4 33 a0 (.v (.int .i64 n5))) fun v6 =>
  okV (aLoad Tryd.prog h4 41 v6) fun v7 =>
  binR Tryd.prog h4 (fun v8 h9 =>
  okBool (some v8) fun b10 =>
  condB b10
  (RetR h K (.v (.int .i64 n5)) h9)
  (nextR h I1 m3 [some a0, some a1, some (.v (.int .i64 n0))] [some a0, some a1, some (.v (.int .i64 n0))] [(.v (.int .i64 (IntKind.wrap .i64 (n5 + 1))))] h9)) .eql 41 a1 v7)
  (RetR h K (.v (.int .i64 (-1))) h4)
def Tryd.r49 (a0 a1 : AV) (h : AH) (K : AV → AH → Prop) : Prop :=
  okInt .i64 (aLen Tryd.prog h 33 a0) fun n0 =>
  Tryd.r49_l2_1 K h a0 a1 n0 0
theorem Tryd.c49 (G : Nat → Option AV) (a0 a1 : AV) (h : AH) (K : AV → AH → Prop) (hk : LowH h.length h → Tryd.r49 a0 a1 h K) : SCall Tryd.prog G 49 [a0, a1] h K :=
  scall_of_rwp Tryd.tab49 [(2, [(8, (.int .i64))], [0, 1, 7])] Tryd.func49 rfl Tryd.ntmps49 (by kernel_rfl) (by show 2 ≤ 19; decide) (by kernel_rfl) (by kernel_rfl) hk
-- 50 skylark/ring.Hash
def Tryd.r50_l3_1 (K : AV → AH → Prop) (h : AH) (a0 : AV) (s0 : ByteArray) (n14 : Int) (n15 : Int) : Prop :=
  ∃ (I1 : Nat → List AV → AH → Prop) (m2 : Nat), I1 m2 [(.v (.int .u64 n14)), (.v (.int .i64 n15))] h ∧ ∀ (m3 : Nat) (h4 : AH), h.length ≤ h4.length → LowH h4.length h4 → ∀ (n5 : Int) (n6 : Int), I1 m3 [(.v (.int .u64 n5)), (.v (.int .i64 n6))] h4 →
  condB (decide (n6 < ((ByteArray.size s0 : Nat) : Int)))
  (okStr (some a0) fun s7 =>
  okInt .u8 (aIndex Tryd.prog 9 (.v (.string s7)) (.v (.int .i64 n6))) fun n8 =>
  okInt .u64 (aBin Tryd.prog .xor 39 (.v (.int .u64 n5)) (.v (.int .u64 (IntKind.wrap .u64 n8)))) fun n9 =>
  nextR h I1 m3 [some a0, some (.v (.int .i64 ((ByteArray.size s0 : Nat) : Int)))] [some a0, some (.v (.int .i64 ((ByteArray.size s0 : Nat) : Int)))] [(.v (.int .u64 (IntKind.wrap .u64 (n9 * 1099511628211)))), (.v (.int .i64 (IntKind.wrap .i64 (n6 + 1))))] h4)
  (okInt .u64 (aBin Tryd.prog .shr 39 (.v (.int .u64 n5)) (.v (.int .u64 33))) fun n10 =>
  okInt .u64 (aBin Tryd.prog .xor 39 (.v (.int .u64 n5)) (.v (.int .u64 n10))) fun n11 =>
  okInt .u64 (aBin Tryd.prog .shr 39 (.v (.int .u64 (IntKind.wrap .u64 (n11 * 18397679294719823053)))) (.v (.int .u64 33))) fun n12 =>
  okInt .u64 (aBin Tryd.prog .xor 39 (.v (.int .u64 (IntKind.wrap .u64 (n11 * 18397679294719823053)))) (.v (.int .u64 n12))) fun n13 =>
  RetR h K (.v (.int .u64 n13)) h4)
def Tryd.r50 (a0 : AV) (h : AH) (K : AV → AH → Prop) : Prop :=
  okStr (some a0) fun s0 =>
  Tryd.r50_l3_1 K h a0 s0 14695981039346656037 0
theorem Tryd.c50 (G : Nat → Option AV) (a0 : AV) (h : AH) (K : AV → AH → Prop) (hk : LowH h.length h → Tryd.r50 a0 h K) : SCall Tryd.prog G 50 [a0] h K :=
  scall_of_rwp Tryd.tab50 [(3, [(3, (.int .u64)), (7, (.int .i64))], [0, 6])] Tryd.func50 rfl Tryd.ntmps50 (by kernel_rfl) (by show 1 ≤ 27; decide) (by kernel_rfl) (by kernel_rfl) hk
-- 52 (skylark/ring.ring).sort
def Tryd.r52 (G : Nat → Option AV) (a0 a1 : AV) (h : AH) (K : AV → AH → Prop) : Prop :=
  callR Tryd.prog G 63 [a0, a1] h (fun v0 h1 =>
  RetR h K (.tup []) h1)
theorem Tryd.c52 (G : Nat → Option AV) (a0 a1 : AV) (h : AH) (K : AV → AH → Prop) (hk : LowH h.length h → Tryd.r52 G a0 a1 h K) : SCall Tryd.prog G 52 [a0, a1] h K :=
  scall_of_rwp Tryd.tab52 [] Tryd.func52 rfl Tryd.ntmps52 (by kernel_rfl) (by show 2 ≤ 7; decide) (by kernel_rfl) (by kernel_rfl) hk
-- 53 (skylark/ring.point).compare
def Tryd.r53 (G : Nat → Option AV) (a0 a1 : AV) (h : AH) (K : AV → AH → Prop) : Prop :=
  onlyB (AV.one a0) (newO (.cells 107 (AV.cells a0).length [AV.cells a0] 0) h fun i0 h1 =>
  onlyB (AV.one a1) (newO (.cells 107 (AV.cells a1).length [AV.cells a1] 0) h1 fun i2 h3 =>
  okInt .u64 (aLoad Tryd.prog h3 39 (.ptr i0 0 0 0)) fun n4 =>
  okInt .u64 (aLoad Tryd.prog h3 39 (.ptr i2 0 0 0)) fun n5 =>
  okInt .i64 (aLoad Tryd.prog h3 3 (.ptr i0 0 0 1)) fun n6 =>
  okInt .i64 (aLoad Tryd.prog h3 3 (.ptr i2 0 0 1)) fun n7 =>
  okInt .i64 (aLoad Tryd.prog h3 3 (.ptr i0 0 0 2)) fun n8 =>
  okInt .i64 (aLoad Tryd.prog h3 3 (.ptr i2 0 0 2)) fun n9 =>
  callR Tryd.prog G 56 [(.v (.int .u64 n4)), (.v (.int .u64 n5))] h3 (fun v10 h11 =>
  okInt .i64 (some v10) fun n12 =>
  (aLoad Tryd.prog h11 3 (.ptr i2 0 0 2) = some (.v (.int .i64 n9))) ∧ (aLoad Tryd.prog h11 3 (.ptr i0 0 0 2) = some (.v (.int .i64 n8))) ∧ (aLoad Tryd.prog h11 3 (.ptr i2 0 0 1) = some (.v (.int .i64 n7))) ∧ (aLoad Tryd.prog h11 3 (.ptr i0 0 0 1) = some (.v (.int .i64 n6))) ∧ callR Tryd.prog G 64 [(.v (.int .i64 n6)), (.v (.int .i64 n7))] h11 (fun v13 h14 =>
  okInt .i64 (some v13) fun n15 =>
  (aLoad Tryd.prog h14 3 (.ptr i2 0 0 2) = some (.v (.int .i64 n9))) ∧ (aLoad Tryd.prog h14 3 (.ptr i0 0 0 2) = some (.v (.int .i64 n8))) ∧ callR Tryd.prog G 64 [(.v (.int .i64 n8)), (.v (.int .i64 n9))] h14 (fun v16 h17 =>
  okInt .i64 (some v16) fun n18 =>
  newO (.cells 3 1 [[(.v (.int .i64 n12))], [(.v (.int .i64 n15))], [(.v (.int .i64 n18))]] 0) h17 fun i19 h20 =>
  callR Tryd.prog G 28 [(.sl i19 0 0 3 none)] h20 (fun v21 h22 =>
  okInt .i64 (some v21) fun n23 =>
  RetR h K (.v (.int .i64 n23)) h22))))))
theorem Tryd.c53 (G : Nat → Option AV) (a0 a1 : AV) (h : AH) (K : AV → AH → Prop) (hk : LowH h.length h → Tryd.r53 G a0 a1 h K) : SCall Tryd.prog G 53 [a0, a1] h K :=
  scall_of_rwp Tryd.tab53 [] Tryd.func53 rfl Tryd.ntmps53 (by kernel_rfl) (by show 2 ≤ 22; decide) (by kernel_rfl) (by kernel_rfl) hk
-- 54 slices.BinarySearchFunc[skylark/ring.ring,skylark/ring.point,uint64]
def Tryd.r54_l3_1 (K : AV → AH → Prop) (h : AH) (G : Nat → Option AV) (a0 : AV) (a1 : AV) (a2 : AV) (n0 : Int) (n35 : Int) (n36 : Int) : Prop :=
  ∃ (I1 : Nat → List AV → AH → Prop) (m2 : Nat), I1 m2 [(.v (.int .i64 n35)), (.v (.int .i64 n36))] h ∧ ∀ (m3 : Nat) (h4 : AH), h.length ≤ h4.length → LowH h4.length h4 → ∀ (n5 : Int) (n6 : Int), I1 m3 [(.v (.int .i64 n5)), (.v (.int .i64 n6))] h4 →
  condB (decide (n5 < n6))
  (okInt .u64 (aBin Tryd.prog .shr 99 (.v (.int .u64 (IntKind.wrap .u64 (IntKind.wrap .i64 (n5 + n6))))) (.v (.int .u64 1))) fun n7 =>
  okV (aIA Tryd.prog h4 90 a0 (.v (.int .i64 (IntKind.wrap .i64 n7)))) fun v8 =>
  okV (aLoad Tryd.prog h4 107 v8) fun v9 =>
  okInt .u64 (some a1) fun n10 =>
  callU Tryd.prog G h4 (fun v11 h12 =>
  okInt .i64 (some v11) fun n13 =>
  condB (decide (n13 < 0))
  (nextR h I1 m3 [some a0, some a1, some a2, some (.v (.int .i64 n0))] [some a0, some a1, some a2, some (.v (.int .i64 n0))] [(.v (.int .i64 (IntKind.wrap .i64 ((IntKind.wrap .i64 n7) + 1)))), (.v (.int .i64 n6))] h12)
  (nextR h I1 m3 [some a0, some a1, some a2, some (.v (.int .i64 n0))] [some a0, some a1, some a2, some (.v (.int .i64 n0))] [(.v (.int .i64 n5)), (.v (.int .i64 (IntKind.wrap .i64 n7)))] h12)) [v9, (.v (.int .u64 n10))] a2)
  (rGq (decide (n5 < n0)) true (some a2) fun b14 v15 =>
  rGq b14 true (some a0) fun b16 v17 =>
  rGq b16 true (some (.v (.int .i64 n5))) fun b18 v19 =>
  rGq b18 true (aIA Tryd.prog h4 90 v17 v19) fun b20 v21 =>
  rGq b20 true (aLoad Tryd.prog h4 107 v21) fun b22 v23 =>
  rGq b22 true (some a1) fun b24 v25 =>
  rGe b24 true (fun k26 => callU Tryd.prog G h4 (fun v27 h28 =>
  k26 v27 h28) [v23, v25] v15) h4 fun b29 v30 h31 =>
  rGq b29 true (aBin Tryd.prog .eql 3 v30 (.v (.int .i64 0))) fun b32 v33 =>
  okBool (pickR (some (.v (.bool b32))) (some v33) (some (.v (.bool false)))) fun b34 =>
  RetR h K (.tup [(.v (.int .i64 n5)), (.v (.bool b34))]) h31)
def Tryd.r54 (G : Nat → Option AV) (a0 a1 a2 : AV) (h : AH) (K : AV → AH → Prop) : Prop :=
  okInt .i64 (aLen Tryd.prog h 90 a0) fun n0 =>
  Tryd.r54_l3_1 K h G a0 a1 a2 n0 0 n0
theorem Tryd.c54 (G : Nat → Option AV) (a0 a1 a2 : AV) (h : AH) (K : AV → AH → Prop) (hk : LowH h.length h → Tryd.r54 G a0 a1 a2 h K) : SCall Tryd.prog G 54 [a0, a1, a2] h K :=
  scall_of_rwp Tryd.tab54 [(3, [(9, (.int .i64)), (10, (.int .i64))], [0, 1, 2, 8])] Tryd.func54 rfl Tryd.ntmps54 (by kernel_rfl) (by show 3 ≤ 49; decide) (by kernel_rfl) (by kernel_rfl) hk
-- 55 (skylark/ring.ring).of$1
def Tryd.r55 (G : Nat → Option AV) (a0 a1 : AV) (h : AH) (K : AV → AH → Prop) : Prop :=
  onlyB (AV.one a0) (newO (.cells 107 (AV.cells a0).length [AV.cells a0] 0) h fun i0 h1 =>
  okInt .u64 (aLoad Tryd.prog h1 39 (.ptr i0 0 0 0)) fun n2 =>
  okInt .u64 (some a1) fun n3 =>
  callR Tryd.prog G 56 [(.v (.int .u64 n2)), (.v (.int .u64 n3))] h1 (fun v4 h5 =>
  okInt .i64 (some v4) fun n6 =>
  RetR h K (.v (.int .i64 n6)) h5))
theorem Tryd.c55 (G : Nat → Option AV) (a0 a1 : AV) (h : AH) (K : AV → AH → Prop) (hk : LowH h.length h → Tryd.r55 G a0 a1 h K) : SCall Tryd.prog G 55 [a0, a1] h K :=
  scall_of_rwp Tryd.tab55 [] Tryd.func55 rfl Tryd.ntmps55 (by kernel_rfl) (by show 2 ≤ 9; decide) (by kernel_rfl) (by kernel_rfl) hk
-- 56 cmp.Compare[uint64]
def Tryd.r56 (G : Nat → Option AV) (a0 a1 : AV) (h : AH) (K : AV → AH → Prop) : Prop :=
  okInt .u64 (some a0) fun n0 =>
  callR Tryd.prog G 65 [(.v (.int .u64 n0))] h (fun v1 h2 =>
  okBool (some v1) fun b3 =>
  okInt .u64 (some a1) fun n4 =>
  callR Tryd.prog G 65 [(.v (.int .u64 n4))] h2 (fun v5 h6 =>
  okBool (some v5) fun b7 =>
  condB b3
  (condB b7
  (RetR h K (.v (.int .i64 0)) h6)
  (RetR h K (.v (.int .i64 (-1))) h6))
  (condB b7
  (RetR h K (.v (.int .i64 1)) h6)
  (okInt .u64 (some a0) fun n8 =>
  okInt .u64 (some a1) fun n9 =>
  condB (decide (n8 < n9))
  (RetR h K (.v (.int .i64 (-1))) h6)
  (okInt .u64 (some a0) fun n10 =>
  okInt .u64 (some a1) fun n11 =>
  condB (decide (n10 > n11))
  (RetR h K (.v (.int .i64 1)) h6)
  (RetR h K (.v (.int .i64 0)) h6))))))
theorem Tryd.c56 (G : Nat → Option AV) (a0 a1 : AV) (h : AH) (K : AV → AH → Prop) (hk : LowH h.length h → Tryd.r56 G a0 a1 h K) : SCall Tryd.prog G 56 [a0, a1] h K :=
  scall_of_rwp Tryd.tab56 [] Tryd.func56 rfl Tryd.ntmps56 (by kernel_rfl) (by show 2 ≤ 20; decide) (by kernel_rfl) (by kernel_rfl) hk
-- 58 slices.Min[[]int,int]
def Tryd.r58_l5_3 (K : AV → AH → Prop) (h : AH) (a0 : AV) (h0 : AH) (n13 : Int) (n14 : Int) : Prop :=
  ∃ (I3 : Nat → List AV → AH → Prop) (m4 : Nat), I3 m4 [(.v (.int .i64 n13)), (.v (.int .i64 n14))] h0 ∧ ∀ (m5 : Nat) (h6 : AH), h0.length ≤ h6.length → LowH h6.length h6 → ∀ (n7 : Int) (n8 : Int), I3 m5 [(.v (.int .i64 n7)), (.v (.int .i64 n8))] h6 →
  okInt .i64 (aLen Tryd.prog h6 22 a0) fun n9 =>
  condB (decide (n8 < n9))
  (okV (aIA Tryd.prog h6 22 a0 (.v (.int .i64 n8))) fun v10 =>
  okInt .i64 (aLoad Tryd.prog h6 3 v10) fun n11 =>
  okInt .i64 (aMinMax false [some (.v (.int .i64 n7)), some (.v (.int .i64 n11))]) fun n12 =>
  nextR h0 I3 m5 [some a0] [some a0] [(.v (.int .i64 n12)), (.v (.int .i64 (IntKind.wrap .i64 (n8 + 1))))] h6)
  (RetR h K (.v (.int .i64 n7)) h6)
def Tryd.r58_j1 (h : AH) (K : AV → AH → Prop) (a0 : AV) (h0 : AH) : Prop :=
  okV (aIA Tryd.prog h0 22 a0 (.v (.int .i64 0))) fun v1 =>
  okInt .i64 (aLoad Tryd.prog h0 3 v1) fun n2 =>
  Tryd.r58_l5_3 K h a0 h0 n2 1
def Tryd.r58 (a0 : AV) (h : AH) (K : AV → AH → Prop) : Prop :=
  okInt .i64 (aLen Tryd.prog h 22 a0) fun n15 =>
  condB (decide (n15 < 1))
  (okV (aMkI Tryd.prog 9 (.v (.string (ByteArray.mk #[115, 108, 105, 99, 101, 115, 46, 77, 105, 110, 58, 32, 101, 109, 112, 116, 121, 32, 108, 105, 115, 116])))) fun v16 =>
  False)
  (Tryd.r58_j1 h K a0 h)
theorem Tryd.c58 (G : Nat → Option AV) (a0 : AV) (h : AH) (K : AV → AH → Prop) (hk : LowH h.length h → Tryd.r58 a0 h K) : SCall Tryd.prog G 58 [a0] h K :=
  scall_of_rwp Tryd.tab58 [(5, [(3, (.int .i64)), (4, (.int .i64))], [0])] Tryd.func58 rfl Tryd.ntmps58 (by kernel_rfl) (by show 1 ≤ 25; decide) (by kernel_rfl) (by kernel_rfl) hk
-- 59 slices.insertionSortCmpFunc[skylark/api.Row]
def Tryd.r59_l4_7 (h : AH) (G : Nat → Option AV) (a0 : AV) (a1 : AV) (a2 : AV) (a3 : AV) (I1 : Nat → List AV → AH → Prop) (m3 : Nat) (h4 : AH) (n5 : Int) (n52 : Int) : Prop :=
  ∃ (I7 : Nat → List AV → AH → Prop) (m8 : Nat), I7 m8 [(.v (.int .i64 n52))] h4 ∧ ∀ (m9 : Nat) (h10 : AH), h4.length ≤ h10.length → LowH h10.length h10 → ∀ (n11 : Int), I7 m9 [(.v (.int .i64 n11))] h10 →
  okInt .i64 (some a1) fun n12 =>
  rGq (decide (n11 > n12)) true (some a3) fun b13 v14 =>
  rGq b13 true (some a0) fun b15 v16 =>
  rGq b15 true (some (.v (.int .i64 n11))) fun b17 v18 =>
  rGq b17 true (aIA Tryd.prog h10 28 v16 v18) fun b19 v20 =>
  rGq b19 true (aLoad Tryd.prog h10 49 v20) fun b21 v22 =>
  rGq b21 true (some a0) fun b23 v24 =>
  rGq b23 true (some (.v (.int .i64 n11))) fun b25 v26 =>
  rGq b25 true (aBin Tryd.prog .sub 3 v26 (.v (.int .i64 1))) fun b27 v28 =>
  rGq b27 true (aIA Tryd.prog h10 28 v24 v28) fun b29 v30 =>
  rGq b29 true (aLoad Tryd.prog h10 49 v30) fun b31 v32 =>
  rGe b31 true (fun k33 => callU Tryd.prog G h10 (fun v34 h35 =>
  k33 v34 h35) [v22, v32] v14) h10 fun b36 v37 h38 =>
  rGq b36 true (aBin Tryd.prog .lss 3 v37 (.v (.int .i64 0))) fun b39 v40 =>
  okBool (pickR (some (.v (.bool b39))) (some v40) (some (.v (.bool false)))) fun b41 =>
  condB b41
  (okV (aIA Tryd.prog h38 28 a0 (.v (.int .i64 (IntKind.wrap .i64 (n11 - 1))))) fun v42 =>
  okV (aLoad Tryd.prog h38 49 v42) fun v43 =>
  okV (aIA Tryd.prog h38 28 a0 (.v (.int .i64 n11))) fun v44 =>
  okV (aLoad Tryd.prog h38 49 v44) fun v45 =>
  okV (aIA Tryd.prog h38 28 a0 (.v (.int .i64 n11))) fun v46 =>
  storeR Tryd.prog h38 (fun v47 h48 =>
  okV (aIA Tryd.prog h48 28 a0 (.v (.int .i64 (IntKind.wrap .i64 (n11 - 1))))) fun v49 =>
  storeR Tryd.prog h48 (fun v50 h51 =>
  nextR h4 I7 m9 [some a0, some a1, some a2, some a3, some (.v (.int .i64 n5))] [some a0, some a1, some a2, some a3, some (.v (.int .i64 n5))] [(.v (.int .i64 (IntKind.wrap .i64 (n11 - 1))))] h51) 49 v45 v49) 49 v43 v46)
  (nextR h I1 m3 [some a0, some a1, some a2, some a3] [some a0, some a1, some a2, some a3] [(.v (.int .i64 (IntKind.wrap .i64 (n5 + 1))))] h38)
def Tryd.r59_l1_1 (K : AV → AH → Prop) (h : AH) (G : Nat → Option AV) (a0 : AV) (a1 : AV) (a2 : AV) (a3 : AV) (n53 : Int) : Prop :=
  ∃ (I1 : Nat → List AV → AH → Prop) (m2 : Nat), I1 m2 [(.v (.int .i64 n53))] h ∧ ∀ (m3 : Nat) (h4 : AH), h.length ≤ h4.length → LowH h4.length h4 → ∀ (n5 : Int), I1 m3 [(.v (.int .i64 n5))] h4 →
  okInt .i64 (some a2) fun n6 =>
  condB (decide (n5 < n6))
  (Tryd.r59_l4_7 h G a0 a1 a2 a3 I1 m3 h4 n5 n5)
  (RetR h K (.tup []) h4)
def Tryd.r59 (G : Nat → Option AV) (a0 a1 a2 a3 : AV) (h : AH) (K : AV → AH → Prop) : Prop :=
  okInt .i64 (some a1) fun n0 =>
  Tryd.r59_l1_1 K h G a0 a1 a2 a3 (IntKind.wrap .i64 (n0 + 1))
theorem Tryd.c59 (G : Nat → Option AV) (a0 a1 a2 a3 : AV) (h : AH) (K : AV → AH → Prop) (hk : LowH h.length h → Tryd.r59 G a0 a1 a2 a3 h K) : SCall Tryd.prog G 59 [a0, a1, a2, a3] h K :=
  scall_of_rwp Tryd.tab59 [(1, [(8, (.int .i64))], [0, 1, 2, 3]), (4, [(9, (.int .i64))], [0, 1, 2, 3, 8])] Tryd.func59 rfl Tryd.ntmps59 (by kernel_rfl) (by show 4 ≤ 53; decide) (by kernel_rfl) (by kernel_rfl) hk
-- 60 slices.symMergeCmpFunc[skylark/api.Row]
def Tryd.r60_l9_20 (K : AV → AH → Prop) (h : AH) (a0 : AV) (h7 : AH) (n8 : Int) (n35 : Int) : Prop :=
  ∃ (I20 : Nat → List AV → AH → Prop) (m21 : Nat), I20 m21 [(.v (.int .i64 n35))] h7 ∧ ∀ (m22 : Nat) (h23 : AH), h7.length ≤ h23.length → LowH h23.length h23 → ∀ (n24 : Int), I20 m22 [(.v (.int .i64 n24))] h23 →
  condB (decide (n24 < (IntKind.wrap .i64 (n8 - 1))))
  (okV (aIA Tryd.prog h23 28 a0 (.v (.int .i64 (IntKind.wrap .i64 (n24 + 1))))) fun v25 =>
  okV (aLoad Tryd.prog h23 49 v25) fun v26 =>
  okV (aIA Tryd.prog h23 28 a0 (.v (.int .i64 n24))) fun v27 =>
  okV (aLoad Tryd.prog h23 49 v27) fun v28 =>
  okV (aIA Tryd.prog h23 28 a0 (.v (.int .i64 n24))) fun v29 =>
  storeR Tryd.prog h23 (fun v30 h31 =>
  okV (aIA Tryd.prog h31 28 a0 (.v (.int .i64 (IntKind.wrap .i64 (n24 + 1))))) fun v32 =>
  storeR Tryd.prog h31 (fun v33 h34 =>
  nextR h7 I20 m22 [some a0, some (.v (.int .i64 n8))] [some a0, some (.v (.int .i64 n8))] [(.v (.int .i64 (IntKind.wrap .i64 (n24 + 1))))] h34) 49 v28 v32) 49 v26 v29)
  (RetR h K (.tup []) h23)
def Tryd.r60_l3_4 (h : AH) (K : AV → AH → Prop) (G : Nat → Option AV) (a0 : AV) (a1 : AV) (a4 : AV) (n36 : Int) (n37 : Int) : Prop :=
  ∃ (I4 : Nat → List AV → AH → Prop) (m5 : Nat), I4 m5 [(.v (.int .i64 n36)), (.v (.int .i64 n37))] h ∧ ∀ (m6 : Nat) (h7 : AH), h.length ≤ h7.length → LowH h7.length h7 → ∀ (n8 : Int) (n9 : Int), I4 m6 [(.v (.int .i64 n8)), (.v (.int .i64 n9))] h7 →
  condB (decide (n8 < n9))
  (okInt .u64 (aBin Tryd.prog .shr 99 (.v (.int .u64 (IntKind.wrap .u64 (IntKind.wrap .i64 (n8 + n9))))) (.v (.int .u64 1))) fun n10 =>
  okV (aIA Tryd.prog h7 28 a0 (.v (.int .i64 (IntKind.wrap .i64 n10)))) fun v11 =>
  okV (aLoad Tryd.prog h7 49 v11) fun v12 =>
  okInt .i64 (some a1) fun n13 =>
  okV (aIA Tryd.prog h7 28 a0 (.v (.int .i64 n13))) fun v14 =>
  okV (aLoad Tryd.prog h7 49 v14) fun v15 =>
  callU Tryd.prog G h7 (fun v16 h17 =>
  okInt .i64 (some v16) fun n18 =>
  condB (decide (n18 < 0))
  (nextR h I4 m6 [some a0, some a1, some a4] [some a0, some a1, some a4] [(.v (.int .i64 (IntKind.wrap .i64 ((IntKind.wrap .i64 n10) + 1)))), (.v (.int .i64 n9))] h17)
  (nextR h I4 m6 [some a0, some a1, some a4] [some a0, some a1, some a4] [(.v (.int .i64 n8)), (.v (.int .i64 (IntKind.wrap .i64 n10)))] h17)) [v12, v15] a4)
  (okInt .i64 (some a1) fun n19 =>
  Tryd.r60_l9_20 K h a0 h7 n8 n19)
def Tryd.r60_l21_58 (K : AV → AH → Prop) (h : AH) (a0 : AV) (h45 : AH) (n46 : Int) (n73 : Int) : Prop :=
  ∃ (I58 : Nat → List AV → AH → Prop) (m59 : Nat), I58 m59 [(.v (.int .i64 n73))] h45 ∧ ∀ (m60 : Nat) (h61 : AH), h45.length ≤ h61.length → LowH h61.length h61 → ∀ (n62 : Int), I58 m60 [(.v (.int .i64 n62))] h61 →
  condB (decide (n62 > n46))
  (okV (aIA Tryd.prog h61 28 a0 (.v (.int .i64 (IntKind.wrap .i64 (n62 - 1))))) fun v63 =>
  okV (aLoad Tryd.prog h61 49 v63) fun v64 =>
  okV (aIA Tryd.prog h61 28 a0 (.v (.int .i64 n62))) fun v65 =>
  okV (aLoad Tryd.prog h61 49 v65) fun v66 =>
  okV (aIA Tryd.prog h61 28 a0 (.v (.int .i64 n62))) fun v67 =>
  storeR Tryd.prog h61 (fun v68 h69 =>
  okV (aIA Tryd.prog h69 28 a0 (.v (.int .i64 (IntKind.wrap .i64 (n62 - 1))))) fun v70 =>
  storeR Tryd.prog h69 (fun v71 h72 =>
  nextR h45 I58 m60 [some a0, some (.v (.int .i64 n46))] [some a0, some (.v (.int .i64 n46))] [(.v (.int .i64 (IntKind.wrap .i64 (n62 - 1))))] h72) 49 v66 v70) 49 v64 v67)
  (RetR h K (.tup []) h61)
def Tryd.r60_l15_42 (h : AH) (K : AV → AH → Prop) (G : Nat → Option AV) (a0 : AV) (a2 : AV) (a4 : AV) (n74 : Int) (n75 : Int) : Prop :=
  ∃ (I42 : Nat → List AV → AH → Prop) (m43 : Nat), I42 m43 [(.v (.int .i64 n74)), (.v (.int .i64 n75))] h ∧ ∀ (m44 : Nat) (h45 : AH), h.length ≤ h45.length → LowH h45.length h45 → ∀ (n46 : Int) (n47 : Int), I42 m44 [(.v (.int .i64 n46)), (.v (.int .i64 n47))] h45 →
  condB (decide (n46 < n47))
  (okInt .u64 (aBin Tryd.prog .shr 99 (.v (.int .u64 (IntKind.wrap .u64 (IntKind.wrap .i64 (n46 + n47))))) (.v (.int .u64 1))) fun n48 =>
  okInt .i64 (some a2) fun n49 =>
  okV (aIA Tryd.prog h45 28 a0 (.v (.int .i64 n49))) fun v50 =>
  okV (aLoad Tryd.prog h45 49 v50) fun v51 =>
  okV (aIA Tryd.prog h45 28 a0 (.v (.int .i64 (IntKind.wrap .i64 n48)))) fun v52 =>
  okV (aLoad Tryd.prog h45 49 v52) fun v53 =>
  callU Tryd.prog G h45 (fun v54 h55 =>
  okInt .i64 (some v54) fun n56 =>
  condB (!(decide (n56 < 0)))
  (nextR h I42 m44 [some a0, some a2, some a4] [some a0, some a2, some a4] [(.v (.int .i64 (IntKind.wrap .i64 ((IntKind.wrap .i64 n48) + 1)))), (.v (.int .i64 n47))] h55)
  (nextR h I42 m44 [some a0, some a2, some a4] [some a0, some a2, some a4] [(.v (.int .i64 n46)), (.v (.int .i64 (IntKind.wrap .i64 n48)))] h55)) [v51, v53] a4)
  (okInt .i64 (some a2) fun n57 =>
  Tryd.r60_l21_58 K h a0 h45 n46 n57)
def Tryd.r60_j99 (K : AV → AH → Prop) (h : AH) (G : Nat → Option AV) (a0 : AV) (a3 : AV) (a4 : AV) (n78 : Int) (n79 : Int) (n87 : Int) (h98 : AH) : Prop :=
  rGq (decide ((IntKind.wrap .i64 n78) < (IntKind.wrap .i64 ((IntKind.wrap .i64 ((IntKind.wrap .i64 n78) + n79)) - n87)))) true (some (.v (.int .i64 (IntKind.wrap .i64 ((IntKind.wrap .i64 ((IntKind.wrap .i64 n78) + n79)) - n87))))) fun b99 v100 =>
  rGq b99 true (some a3) fun b101 v102 =>
  rGq b101 true (aBin Tryd.prog .lss 3 v100 v102) fun b103 v104 =>
  okBool (pickR (some (.v (.bool b103))) (some v104) (some (.v (.bool false)))) fun b105 =>
  condB b105
  (okInt .i64 (some a3) fun n106 =>
  callR Tryd.prog G 60 [a0, (.v (.int .i64 (IntKind.wrap .i64 n78))), (.v (.int .i64 (IntKind.wrap .i64 ((IntKind.wrap .i64 ((IntKind.wrap .i64 n78) + n79)) - n87)))), (.v (.int .i64 n106)), a4] h98 (fun v107 h108 =>
  RetR h K (.tup []) h108))
  (RetR h K (.tup []) h98)
def Tryd.r60_j98 (G : Nat → Option AV) (h : AH) (K : AV → AH → Prop) (a0 : AV) (a1 : AV) (a3 : AV) (a4 : AV) (n78 : Int) (n79 : Int) (n87 : Int) (h97 : AH) : Prop :=
  okInt .i64 (some a1) fun n109 =>
  rGq (decide (n109 < n87)) true (some (.v (.int .i64 n87))) fun b110 v111 =>
  rGq b110 true (some (.v (.int .i64 (IntKind.wrap .i64 n78)))) fun b112 v113 =>
  rGq b112 true (aBin Tryd.prog .lss 3 v111 v113) fun b114 v115 =>
  okBool (pickR (some (.v (.bool b114))) (some v115) (some (.v (.bool false)))) fun b116 =>
  condB b116
  (okInt .i64 (some a1) fun n117 =>
  callR Tryd.prog G 60 [a0, (.v (.int .i64 n117)), (.v (.int .i64 n87)), (.v (.int .i64 (IntKind.wrap .i64 n78))), a4] h97 (fun v118 h119 =>
  Tryd.r60_j99 K h G a0 a3 a4 n78 n79 n87 h119))
  (Tryd.r60_j99 K h G a0 a3 a4 n78 n79 n87 h97)
def Tryd.r60_l33_83 (K : AV → AH → Prop) (h : AH) (G : Nat → Option AV) (a0 : AV) (a1 : AV) (a2 : AV) (a3 : AV) (a4 : AV) (n78 : Int) (n79 : Int) (h82 : AH) (n131 : Int) (n132 : Int) : Prop :=
  ∃ (I83 : Nat → List AV → AH → Prop) (m84 : Nat), I83 m84 [(.v (.int .i64 n131)), (.v (.int .i64 n132))] h82 ∧ ∀ (m85 : Nat) (h86 : AH), h82.length ≤ h86.length → LowH h86.length h86 → ∀ (n87 : Int) (n88 : Int), I83 m85 [(.v (.int .i64 n87)), (.v (.int .i64 n88))] h86 →
  condB (decide (n87 < n88))
  (okInt .u64 (aBin Tryd.prog .shr 99 (.v (.int .u64 (IntKind.wrap .u64 (IntKind.wrap .i64 (n87 + n88))))) (.v (.int .u64 1))) fun n89 =>
  okV (aIA Tryd.prog h86 28 a0 (.v (.int .i64 (IntKind.wrap .i64 ((IntKind.wrap .i64 ((IntKind.wrap .i64 ((IntKind.wrap .i64 n78) + n79)) - 1)) - (IntKind.wrap .i64 n89)))))) fun v90 =>
  okV (aLoad Tryd.prog h86 49 v90) fun v91 =>
  okV (aIA Tryd.prog h86 28 a0 (.v (.int .i64 (IntKind.wrap .i64 n89)))) fun v92 =>
  okV (aLoad Tryd.prog h86 49 v92) fun v93 =>
  callU Tryd.prog G h86 (fun v94 h95 =>
  okInt .i64 (some v94) fun n96 =>
  condB (!(decide (n96 < 0)))
  (nextR h82 I83 m85 [some a0, some a1, some a2, some a3, some a4, some (.v (.int .i64 (IntKind.wrap .i64 n78))), some (.v (.int .i64 (IntKind.wrap .i64 ((IntKind.wrap .i64 n78) + n79)))), some (.v (.int .i64 (IntKind.wrap .i64 ((IntKind.wrap .i64 ((IntKind.wrap .i64 n78) + n79)) - 1))))] [some a0, some a1, some a2, some a3, some a4, some (.v (.int .i64 (IntKind.wrap .i64 n78))), some (.v (.int .i64 (IntKind.wrap .i64 ((IntKind.wrap .i64 n78) + n79)))), some (.v (.int .i64 (IntKind.wrap .i64 ((IntKind.wrap .i64 ((IntKind.wrap .i64 n78) + n79)) - 1))))] [(.v (.int .i64 (IntKind.wrap .i64 ((IntKind.wrap .i64 n89) + 1)))), (.v (.int .i64 n88))] h95)
  (nextR h82 I83 m85 [some a0, some a1, some a2, some a3, some a4, some (.v (.int .i64 (IntKind.wrap .i64 n78))), some (.v (.int .i64 (IntKind.wrap .i64 ((IntKind.wrap .i64 n78) + n79)))), some (.v (.int .i64 (IntKind.wrap .i64 ((IntKind.wrap .i64 ((IntKind.wrap .i64 n78) + n79)) - 1))))] [some a0, some a1, some a2, some a3, some a4, some (.v (.int .i64 (IntKind.wrap .i64 n78))), some (.v (.int .i64 (IntKind.wrap .i64 ((IntKind.wrap .i64 n78) + n79)))), some (.v (.int .i64 (IntKind.wrap .i64 ((IntKind.wrap .i64 ((IntKind.wrap .i64 n78) + n79)) - 1))))] [(.v (.int .i64 n87)), (.v (.int .i64 (IntKind.wrap .i64 n89)))] h95)) [v91, v93] a4)
  (okInt .i64 (some a2) fun n120 =>
  rGq (decide (n87 < n120)) true (some a2) fun b121 v122 =>
  rGq b121 true (some (.v (.int .i64 (IntKind.wrap .i64 ((IntKind.wrap .i64 ((IntKind.wrap .i64 n78) + n79)) - n87))))) fun b123 v124 =>
  rGq b123 true (aBin Tryd.prog .lss 3 v122 v124) fun b125 v126 =>
  okBool (pickR (some (.v (.bool b125))) (some v126) (some (.v (.bool false)))) fun b127 =>
  condB b127
  (okInt .i64 (some a2) fun n128 =>
  callR Tryd.prog G 66 [a0, (.v (.int .i64 n87)), (.v (.int .i64 n128)), (.v (.int .i64 (IntKind.wrap .i64 ((IntKind.wrap .i64 ((IntKind.wrap .i64 n78) + n79)) - n87)))), a4] h86 (fun v129 h130 =>
  Tryd.r60_j98 G h K a0 a1 a3 a4 n78 n79 n87 h130))
  (Tryd.r60_j98 G h K a0 a1 a3 a4 n78 n79 n87 h86))
def Tryd.r60_j83 (G : Nat → Option AV) (h : AH) (K : AV → AH → Prop) (a0 : AV) (a1 : AV) (a2 : AV) (a3 : AV) (a4 : AV) (n78 : Int) (n79 : Int) (n80 : Int) (n81 : Int) (h82 : AH) : Prop :=
  Tryd.r60_l33_83 K h G a0 a1 a2 a3 a4 n78 n79 h82 n80 n81
def Tryd.r60 (G : Nat → Option AV) (a0 a1 a2 a3 a4 : AV) (h : AH) (K : AV → AH → Prop) : Prop :=
  okInt .i64 (some a2) fun n0 =>
  okInt .i64 (some a1) fun n1 =>
  condB ((IntKind.wrap .i64 (n0 - n1)) == 1)
  (okInt .i64 (some a2) fun n2 =>
  okInt .i64 (some a3) fun n3 =>
  Tryd.r60_l3_4 h K G a0 a1 a4 n2 n3)
  (okInt .i64 (some a3) fun n38 =>
  okInt .i64 (some a2) fun n39 =>
  condB ((IntKind.wrap .i64 (n38 - n39)) == 1)
  (okInt .i64 (some a1) fun n40 =>
  okInt .i64 (some a2) fun n41 =>
  Tryd.r60_l15_42 h K G a0 a2 a4 n40 n41)
  (okInt .i64 (some a1) fun n76 =>
  okInt .i64 (some a3) fun n77 =>
  okInt .u64 (aBin Tryd.prog .shr 99 (.v (.int .u64 (IntKind.wrap .u64 (IntKind.wrap .i64 (n76 + n77))))) (.v (.int .u64 1))) fun n78 =>
  okInt .i64 (some a2) fun n79 =>
  okInt .i64 (some a2) fun n133 =>
  condB (decide (n133 > (IntKind.wrap .i64 n78)))
  (okInt .i64 (some a3) fun n134 =>
  Tryd.r60_j83 G h K a0 a1 a2 a3 a4 n78 n79 (IntKind.wrap .i64 ((IntKind.wrap .i64 ((IntKind.wrap .i64 n78) + n79)) - n134)) (IntKind.wrap .i64 n78) h)
  (okInt .i64 (some a1) fun n135 =>
  okInt .i64 (some a2) fun n136 =>
  Tryd.r60_j83 G h K a0 a1 a2 a3 a4 n78 n79 n135 n136 h)))
theorem Tryd.c60 (G : Nat → Option AV) (a0 a1 a2 a3 a4 : AV) (h : AH) (K : AV → AH → Prop) (hk : LowH h.length h → Tryd.r60 G a0 a1 a2 a3 a4 h K) : SCall Tryd.prog G 60 [a0, a1, a2, a3, a4] h K :=
  scall_of_rwp Tryd.tab60 [(3, [(10, (.int .i64)), (11, (.int .i64))], [0, 1, 4]), (9, [(13, (.int .i64))], [0, 10]), (15, [(14, (.int .i64)), (15, (.int .i64))], [0, 2, 4]), (21, [(17, (.int .i64))], [0, 14]), (33, [(20, (.int .i64)), (21, (.int .i64))], [0, 1, 2, 3, 4, 18, 19, 22])] Tryd.func60 rfl Tryd.ntmps60 (by kernel_rfl) (by show 5 ≤ 220; decide) (by kernel_rfl) (by kernel_rfl) hk
-- 61 cmp.isNaN[string]
def Tryd.r61 (a0 : AV) (h : AH) (K : AV → AH → Prop) : Prop :=
  okStr (some a0) fun s0 =>
  okStr (some a0) fun s1 =>
  RetR h K (.v (.bool (!(ByteArray.toList s0 == ByteArray.toList s1)))) h
theorem Tryd.c61 (G : Nat → Option AV) (a0 : AV) (h : AH) (K : AV → AH → Prop) (hk : LowH h.length h → Tryd.r61 a0 h K) : SCall Tryd.prog G 61 [a0] h K :=
  scall_of_rwp Tryd.tab61 [] Tryd.func61 rfl Tryd.ntmps61 (by kernel_rfl) (by show 1 ≤ 6; decide) (by kernel_rfl) (by kernel_rfl) hk
-- 63 slices.SortFunc[skylark/ring.ring,skylark/ring.point]
def Tryd.r63 (G : Nat → Option AV) (a0 a1 : AV) (h : AH) (K : AV → AH → Prop) : Prop :=
  okInt .i64 (aLen Tryd.prog h 90 a0) fun n0 =>
  callR Tryd.prog G 69 [(.v (.int .u64 (IntKind.wrap .u64 n0)))] h (fun v1 h2 =>
  okInt .i64 (some v1) fun n3 =>
  callR Tryd.prog G 68 [a0, (.v (.int .i64 0)), (.v (.int .i64 n0)), (.v (.int .i64 n3)), a1] h2 (fun v4 h5 =>
  RetR h K (.tup []) h5))
theorem Tryd.c63 (G : Nat → Option AV) (a0 a1 : AV) (h : AH) (K : AV → AH → Prop) (hk : LowH h.length h → Tryd.r63 G a0 a1 h K) : SCall Tryd.prog G 63 [a0, a1] h K :=
  scall_of_rwp Tryd.tab63 [] Tryd.func63 rfl Tryd.ntmps63 (by kernel_rfl) (by show 2 ≤ 14; decide) (by kernel_rfl) (by kernel_rfl) hk
-- 64 cmp.Compare[int]
def Tryd.r64 (G : Nat → Option AV) (a0 a1 : AV) (h : AH) (K : AV → AH → Prop) : Prop :=
  okInt .i64 (some a0) fun n0 =>
  callR Tryd.prog G 70 [(.v (.int .i64 n0))] h (fun v1 h2 =>
  okBool (some v1) fun b3 =>
  okInt .i64 (some a1) fun n4 =>
  callR Tryd.prog G 70 [(.v (.int .i64 n4))] h2 (fun v5 h6 =>
  okBool (some v5) fun b7 =>
  condB b3
  (condB b7
  (RetR h K (.v (.int .i64 0)) h6)
  (RetR h K (.v (.int .i64 (-1))) h6))
  (condB b7
  (RetR h K (.v (.int .i64 1)) h6)
  (okInt .i64 (some a0) fun n8 =>
  okInt .i64 (some a1) fun n9 =>
  condB (decide (n8 < n9))
  (RetR h K (.v (.int .i64 (-1))) h6)
  (okInt .i64 (some a0) fun n10 =>
  okInt .i64 (some a1) fun n11 =>
  condB (decide (n10 > n11))
  (RetR h K (.v (.int .i64 1)) h6)
  (RetR h K (.v (.int .i64 0)) h6))))))
theorem Tryd.c64 (G : Nat → Option AV) (a0 a1 : AV) (h : AH) (K : AV → AH → Prop) (hk : LowH h.length h → Tryd.r64 G a0 a1 h K) : SCall Tryd.prog G 64 [a0, a1] h K :=
  scall_of_rwp Tryd.tab64 [] Tryd.func64 rfl Tryd.ntmps64 (by kernel_rfl) (by show 2 ≤ 20; decide) (by kernel_rfl) (by kernel_rfl) hk
-- 65 cmp.isNaN[uint64]
def Tryd.r65 (a0 : AV) (h : AH) (K : AV → AH → Prop) : Prop :=
  okInt .u64 (some a0) fun n0 =>
  okInt .u64 (some a0) fun n1 =>
  RetR h K (.v (.bool (n0 != n1))) h
theorem Tryd.c65 (G : Nat → Option AV) (a0 : AV) (h : AH) (K : AV → AH → Prop) (hk : LowH h.length h → Tryd.r65 a0 h K) : SCall Tryd.prog G 65 [a0] h K :=
  scall_of_rwp Tryd.tab65 [] Tryd.func65 rfl Tryd.ntmps65 (by kernel_rfl) (by show 1 ≤ 6; decide) (by kernel_rfl) (by kernel_rfl) hk
-- 66 slices.rotateCmpFunc[skylark/api.Row]
def Tryd.r66_l2_4 (K : AV → AH → Prop) (h : AH) (G : Nat → Option AV) (a0 : AV) (a2 : AV) (a4 : AV) (n22 : Int) (n23 : Int) : Prop :=
  ∃ (I4 : Nat → List AV → AH → Prop) (m5 : Nat), I4 m5 [(.v (.int .i64 n22)), (.v (.int .i64 n23))] h ∧ ∀ (m6 : Nat) (h7 : AH), h.length ≤ h7.length → LowH h7.length h7 → ∀ (n8 : Int) (n9 : Int), I4 m6 [(.v (.int .i64 n8)), (.v (.int .i64 n9))] h7 →
  condB (n8 != n9)
  (condB (decide (n8 > n9))
  (okInt .i64 (some a2) fun n10 =>
  okInt .i64 (some a2) fun n11 =>
  callR Tryd.prog G 71 [a0, (.v (.int .i64 (IntKind.wrap .i64 (n10 - n8)))), (.v (.int .i64 n11)), (.v (.int .i64 n9)), a4] h7 (fun v12 h13 =>
  nextR h I4 m6 [some a0, some a2, some a4] [some a0, some a2, some a4] [(.v (.int .i64 (IntKind.wrap .i64 (n8 - n9)))), (.v (.int .i64 n9))] h13))
  (okInt .i64 (some a2) fun n14 =>
  okInt .i64 (some a2) fun n15 =>
  callR Tryd.prog G 71 [a0, (.v (.int .i64 (IntKind.wrap .i64 (n14 - n8)))), (.v (.int .i64 (IntKind.wrap .i64 ((IntKind.wrap .i64 (n15 + n9)) - n8)))), (.v (.int .i64 n8)), a4] h7 (fun v16 h17 =>
  nextR h I4 m6 [some a0, some a2, some a4] [some a0, some a2, some a4] [(.v (.int .i64 n8)), (.v (.int .i64 (IntKind.wrap .i64 (n9 - n8))))] h17)))
  (okInt .i64 (some a2) fun n18 =>
  okInt .i64 (some a2) fun n19 =>
  callR Tryd.prog G 71 [a0, (.v (.int .i64 (IntKind.wrap .i64 (n18 - n8)))), (.v (.int .i64 n19)), (.v (.int .i64 n8)), a4] h7 (fun v20 h21 =>
  RetR h K (.tup []) h21))
def Tryd.r66 (G : Nat → Option AV) (a0 a1 a2 a3 a4 : AV) (h : AH) (K : AV → AH → Prop) : Prop :=
  okInt .i64 (some a2) fun n0 =>
  okInt .i64 (some a1) fun n1 =>
  okInt .i64 (some a3) fun n2 =>
  okInt .i64 (some a2) fun n3 =>
  Tryd.r66_l2_4 K h G a0 a2 a4 (IntKind.wrap .i64 (n0 - n1)) (IntKind.wrap .i64 (n2 - n3))
theorem Tryd.c66 (G : Nat → Option AV) (a0 a1 a2 a3 a4 : AV) (h : AH) (K : AV → AH → Prop) (hk : LowH h.length h → Tryd.r66 G a0 a1 a2 a3 a4 h K) : SCall Tryd.prog G 66 [a0, a1, a2, a3, a4] h K :=
  scall_of_rwp Tryd.tab66 [(2, [(10, (.int .i64)), (11, (.int .i64))], [0, 2, 4])] Tryd.func66 rfl Tryd.ntmps66 (by kernel_rfl) (by show 5 ≤ 58; decide) (by kernel_rfl) (by kernel_rfl) hk
-- 70 cmp.isNaN[int]
def Tryd.r70 (a0 : AV) (h : AH) (K : AV → AH → Prop) : Prop :=
  okInt .i64 (some a0) fun n0 =>
  okInt .i64 (some a0) fun n1 =>
  RetR h K (.v (.bool (n0 != n1))) h
theorem Tryd.c70 (G : Nat → Option AV) (a0 : AV) (h : AH) (K : AV → AH → Prop) (hk : LowH h.length h → Tryd.r70 a0 h K) : SCall Tryd.prog G 70 [a0] h K :=
  scall_of_rwp Tryd.tab70 [] Tryd.func70 rfl Tryd.ntmps70 (by kernel_rfl) (by show 1 ≤ 6; decide) (by kernel_rfl) (by kernel_rfl) hk
-- 71 slices.swapRangeCmpFunc[skylark/api.Row]
def Tryd.r71_l1_0 (K : AV → AH → Prop) (h : AH) (a0 : AV) (a1 : AV) (a2 : AV) (a3 : AV) (n20 : Int) : Prop :=
  ∃ (I0 : Nat → List AV → AH → Prop) (m1 : Nat), I0 m1 [(.v (.int .i64 n20))] h ∧ ∀ (m2 : Nat) (h3 : AH), h.length ≤ h3.length → LowH h3.length h3 → ∀ (n4 : Int), I0 m2 [(.v (.int .i64 n4))] h3 →
  okInt .i64 (some a3) fun n5 =>
  condB (decide (n4 < n5))
  (okInt .i64 (some a1) fun n6 =>
  okInt .i64 (some a2) fun n7 =>
  okInt .i64 (some a2) fun n8 =>
  okV (aIA Tryd.prog h3 28 a0 (.v (.int .i64 (IntKind.wrap .i64 (n8 + n4))))) fun v9 =>
  okV (aLoad Tryd.prog h3 49 v9) fun v10 =>
  okInt .i64 (some a1) fun n11 =>
  okV (aIA Tryd.prog h3 28 a0 (.v (.int .i64 (IntKind.wrap .i64 (n11 + n4))))) fun v12 =>
  okV (aLoad Tryd.prog h3 49 v12) fun v13 =>
  okV (aIA Tryd.prog h3 28 a0 (.v (.int .i64 (IntKind.wrap .i64 (n6 + n4))))) fun v14 =>
  storeR Tryd.prog h3 (fun v15 h16 =>
  okV (aIA Tryd.prog h16 28 a0 (.v (.int .i64 (IntKind.wrap .i64 (n7 + n4))))) fun v17 =>
  storeR Tryd.prog h16 (fun v18 h19 =>
  nextR h I0 m2 [some a0, some a1, some a2, some a3] [some a0, some a1, some a2, some a3] [(.v (.int .i64 (IntKind.wrap .i64 (n4 + 1))))] h19) 49 v13 v17) 49 v10 v14)
  (RetR h K (.tup []) h3)
def Tryd.r71 (a0 a1 a2 a3 a4 : AV) (h : AH) (K : AV → AH → Prop) : Prop :=
  Tryd.r71_l1_0 K h a0 a1 a2 a3 0
theorem Tryd.c71 (G : Nat → Option AV) (a0 a1 a2 a3 a4 : AV) (h : AH) (K : AV → AH → Prop) (hk : LowH h.length h → Tryd.r71 a0 a1 a2 a3 a4 h K) : SCall Tryd.prog G 71 [a0, a1, a2, a3, a4] h K :=
  scall_of_rwp Tryd.tab71 [(1, [(10, (.int .i64))], [0, 1, 2, 3])] Tryd.func71 rfl Tryd.ntmps71 (by kernel_rfl) (by show 5 ≤ 38; decide) (by kernel_rfl) (by kernel_rfl) hk
-- 115 (*skylark/table.Table).Drop
def Tryd.r115 (G : Nat → Option AV) (a0 a1 : AV) (h : AH) (K : AV → AH → Prop) : Prop :=
  onlyB (AV.one a1) (newO (.cells 44 (AV.cells a1).length [AV.cells a1] 0) h fun i0 h1 =>
  okV (aLoad Tryd.prog h1 44 (.ptr i0 0 0 0)) fun v2 =>
  callR Tryd.prog G 21 [a0, v2] h1 (fun v3 h4 =>
  okInt .i64 (extV 0 v3) fun n5 =>
  okInt .i64 (extV 1 v3) fun n6 =>
  callR Tryd.prog G 116 [a0, (.v (.int .i64 n5)), (.v (.int .i64 n6)), (.v (.slice none 0 0))] h4 (fun v7 h8 =>
  RetR h K (.v (.int .i64 (IntKind.wrap .i64 (n6 - n5)))) h8)))
theorem Tryd.c115 (G : Nat → Option AV) (a0 a1 : AV) (h : AH) (K : AV → AH → Prop) (hk : LowH h.length h → Tryd.r115 G a0 a1 h K) : SCall Tryd.prog G 115 [a0, a1] h K :=
  scall_of_rwp Tryd.tab115 [] Tryd.func115 rfl Tryd.ntmps115 (by kernel_rfl) (by show 2 ≤ 20; decide) (by kernel_rfl) (by kernel_rfl) hk
-- 116 (*skylark/table.Table).splice
def Tryd.r116 (a0 a1 a2 a3 : AV) (h : AH) (K : AV → AH → Prop) : Prop :=
  okV (aNil a0) fun v0 =>
  okV (aFA Tryd.prog 71 0 v0) fun v1 =>
  okV (aLoad Tryd.prog h 28 v1) fun v2 =>
  okInt .i64 (some a1) fun n3 =>
  okInt .i64 (some a1) fun n4 =>
  okV (aSlice Tryd.prog h 28 v2 none (some (some (.v (.int .i64 n3)))) (some (some (.v (.int .i64 n4))))) fun v5 =>
  okV (aNil a0) fun v6 =>
  okV (aFA Tryd.prog 71 0 v6) fun v7 =>
  okV (aLoad Tryd.prog h 28 v7) fun v8 =>
  okInt .i64 (some a2) fun n9 =>
  okV (aSlice Tryd.prog h 28 v8 (some (some (.v (.int .i64 n9)))) none none) fun v10 =>
  appR Tryd.prog h 28 28 v5 a3 (fun v11 h12 =>
  (aSlice Tryd.prog h12 28 v8 (some (some (.v (.int .i64 n9)))) none none = some v10) ∧ (aLoad Tryd.prog h12 28 v7 = some v8) ∧ appR Tryd.prog h12 28 28 v11 v10 (fun v13 h14 =>
  okV (aNil a0) fun v15 =>
  okV (aFA Tryd.prog 71 0 v15) fun v16 =>
  storeR Tryd.prog h14 (fun v17 h18 =>
  RetR h K (.tup []) h18) 28 v13 v16))
theorem Tryd.c116 (G : Nat → Option AV) (a0 a1 a2 a3 : AV) (h : AH) (K : AV → AH → Prop) (hk : LowH h.length h → Tryd.r116 a0 a1 a2 a3 h K) : SCall Tryd.prog G 116 [a0, a1, a2, a3] h K :=
  scall_of_rwp Tryd.tab116 [] Tryd.func116 rfl Tryd.ntmps116 (by kernel_rfl) (by show 4 ≤ 27; decide) (by kernel_rfl) (by kernel_rfl) hk
end Go.Proofs


