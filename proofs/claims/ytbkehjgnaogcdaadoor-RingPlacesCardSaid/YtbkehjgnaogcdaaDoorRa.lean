/-
  Of each function its body as a plain statement, and that a call follows from it: printed by wip/gen/Res.lean.
-/
import Derived.Test.YtbkehjgnaogcdaaDoorFn
import Derived.Test.YtbkehjgnaogcdaaDoorAbH
import Derived.KernelRfl
set_option linter.all false
namespace Go.Proofs
open Go Go.Abs
set_option linter.unusedVariables false
set_option maxRecDepth 100000
-- 5 skylark/skylarklaw06.RingPlaces
def Tryd.r5_l20_103 (K : AV → AH → Prop) (h : AH) (G : Nat → Option AV) (a0 : AV) (a1 : AV) (n16 : Int) (i17 : Nat) (h29 : AH) (n30 : Int) (n102 : Int) (n122 : Int) : Prop :=
  ∃ (I103 : Nat → List AV → AH → Prop) (m104 : Nat), I103 m104 [(.v (.int .i64 n122))] h29 ∧ ∀ (m105 : Nat) (h106 : AH), h29.length ≤ h106.length → LowH h106.length h106 → ∀ (n107 : Int), I103 m105 [(.v (.int .i64 n107))] h106 →
  condB (decide (n107 < n102))
  (okV (aIA Tryd.prog h106 22 (.sl i17 0 0 (Int.toNat n16) none) (.v (.int .i64 n107))) fun v108 =>
  okInt .i64 (aLoad Tryd.prog h106 3 v108) fun n109 =>
  okV (aIA Tryd.prog h106 22 a0 (.v (.int .i64 n107))) fun v110 =>
  okInt .i64 (aLoad Tryd.prog h106 3 v110) fun n111 =>
  condB (n109 != n111)
  (RetR h K (.v (.bool false)) h106)
  (nextR h29 I103 m105 [some a0, some a1, some (.sl i17 0 0 (Int.toNat n16) none), some (.v (.int .i64 n30)), some (.v (.int .i64 n102))] [some a0, some a1, some (.sl i17 0 0 (Int.toNat n16) none), some (.v (.int .i64 n30)), some (.v (.int .i64 n102))] [(.v (.int .i64 (IntKind.wrap .i64 (n107 + 1))))] h106))
  (okStr (some a1) fun s112 =>
  callR Tryd.prog G 19 [a0, (.v (.string s112))] h106 (fun v113 h114 =>
  okInt .i64 (extV 0 v113) fun n115 =>
  okInt .i64 (extV 1 v113) fun n116 =>
  rGq (n115 == n30) true (some (.v (.int .i64 n116))) fun b117 v118 =>
  rGq b117 true (aBin Tryd.prog .eql 25 v118 (.v (.int .i64 0))) fun b119 v120 =>
  okBool (pickR (some (.v (.bool b119))) (some v120) (some (.v (.bool false)))) fun b121 =>
  RetR h K (.v (.bool b121)) h114))
def Tryd.r5_l11_26 (G : Nat → Option AV) (h : AH) (K : AV → AH → Prop) (a0 : AV) (a1 : AV) (v5 : AV) (v6 : AV) (n16 : Int) (i17 : Nat) (h23 : AH) (n24 : Int) (n25 : Int) (n123 : Int) (b124 : Bool) (n125 : Int) : Prop :=
  ∃ (I26 : Nat → List AV → AH → Prop) (m27 : Nat), I26 m27 [(.v (.int .i64 n123)), (.v (.bool b124)), (.v (.int .i64 n125))] h23 ∧ ∀ (m28 : Nat) (h29 : AH), h23.length ≤ h29.length → LowH h29.length h29 → ∀ (n30 : Int) (b31 : Bool) (n32 : Int), I26 m28 [(.v (.int .i64 n30)), (.v (.bool b31)), (.v (.int .i64 n32))] h29 →
  condB (decide (n32 < n25))
  (rGq (decide (n32 > 0)) true (some v5) fun b33 v34 =>
  rGq b33 true (some (.v (.int .i64 n32))) fun b35 v36 =>
  rGq b35 true (aBin Tryd.prog .sub 3 v36 (.v (.int .i64 1))) fun b37 v38 =>
  rGq b37 true (aIA Tryd.prog h29 31 v34 v38) fun b39 v40 =>
  rGq b39 true (aLoad Tryd.prog h29 35 v40) fun b41 v42 =>
  rGq b41 true (some v5) fun b43 v44 =>
  rGq b43 true (some (.v (.int .i64 n32))) fun b45 v46 =>
  rGq b45 true (aIA Tryd.prog h29 31 v44 v46) fun b47 v48 =>
  rGq b47 true (aLoad Tryd.prog h29 35 v48) fun b49 v50 =>
  rGq b49 true (aBin Tryd.prog .gtr 35 v42 v50) fun b51 v52 =>
  okBool (pickR (some (.v (.bool b51))) (some v52) (some (.v (.bool false)))) fun b53 =>
  rGq b53 false (some v6) fun b54 v55 =>
  rGq b54 false (some (.v (.int .i64 n32))) fun b56 v57 =>
  rGq b56 false (aIA Tryd.prog h29 22 v55 v57) fun b58 v59 =>
  rGq b58 false (aLoad Tryd.prog h29 3 v59) fun b60 v61 =>
  rGq b60 false (aBin Tryd.prog .lss 3 v61 (.v (.int .i64 0))) fun b62 v63 =>
  okBool (pickR (some (.v (.bool b62))) (some (.v (.bool true))) (some v63)) fun b64 =>
  rGq b64 false (some v6) fun b65 v66 =>
  rGq b65 false (some (.v (.int .i64 n32))) fun b67 v68 =>
  rGq b67 false (aIA Tryd.prog h29 22 v66 v68) fun b69 v70 =>
  rGq b69 false (aLoad Tryd.prog h29 3 v70) fun b71 v72 =>
  rGq b71 false (some a0) fun b73 v74 =>
  rGq b73 false (aLen Tryd.prog h29 22 v74) fun b75 v76 =>
  rGq b75 false (aBin Tryd.prog .geq 3 v72 v76) fun b77 v78 =>
  okBool (pickR (some (.v (.bool b77))) (some (.v (.bool true))) (some v78)) fun b79 =>
  condB b79
  (RetR h K (.v (.bool false)) h29)
  (okV (aIA Tryd.prog h29 22 v6 (.v (.int .i64 n32))) fun v80 =>
  okInt .i64 (aLoad Tryd.prog h29 3 v80) fun n81 =>
  okV (aIA Tryd.prog h29 22 (.sl i17 0 0 (Int.toNat n16) none) (.v (.int .i64 n81))) fun v82 =>
  okInt .i64 (aLoad Tryd.prog h29 3 v82) fun n83 =>
  okV (aIA Tryd.prog h29 22 (.sl i17 0 0 (Int.toNat n16) none) (.v (.int .i64 n81))) fun v84 =>
  storeR Tryd.prog h29 (fun v85 h86 =>
  rGq (!b31) true (some v5) fun b87 v88 =>
  rGq b87 true (some (.v (.int .i64 n32))) fun b89 v90 =>
  rGq b89 true (aIA Tryd.prog h86 31 v88 v90) fun b91 v92 =>
  rGq b91 true (aLoad Tryd.prog h86 35 v92) fun b93 v94 =>
  rGq b93 true (some (.v (.int .u64 n24))) fun b95 v96 =>
  rGq b95 true (aBin Tryd.prog .geq 35 v94 v96) fun b97 v98 =>
  okBool (pickR (some (.v (.bool b97))) (some v98) (some (.v (.bool false)))) fun b99 =>
  condB b99
  (okV (aIA Tryd.prog h86 22 v6 (.v (.int .i64 n32))) fun v100 =>
  okInt .i64 (aLoad Tryd.prog h86 3 v100) fun n101 =>
  nextR h23 I26 m28 [some a0, some a1, some v5, some v6, some (.sl i17 0 0 (Int.toNat n16) none), some (.v (.int .u64 n24)), some (.v (.int .i64 n25))] [some a0, some a1, some v5, some v6, some (.sl i17 0 0 (Int.toNat n16) none), some (.v (.int .u64 n24)), some (.v (.int .i64 n25))] [(.v (.int .i64 n101)), (.v (.bool true)), (.v (.int .i64 (IntKind.wrap .i64 (n32 + 1))))] h86)
  (nextR h23 I26 m28 [some a0, some a1, some v5, some v6, some (.sl i17 0 0 (Int.toNat n16) none), some (.v (.int .u64 n24)), some (.v (.int .i64 n25))] [some a0, some a1, some v5, some v6, some (.sl i17 0 0 (Int.toNat n16) none), some (.v (.int .u64 n24)), some (.v (.int .i64 n25))] [(.v (.int .i64 n30)), (.v (.bool b31)), (.v (.int .i64 (IntKind.wrap .i64 (n32 + 1))))] h86)) 3 (.v (.int .i64 (IntKind.wrap .i64 (n83 + 1)))) v84))
  (okInt .i64 (aLen Tryd.prog h29 22 a0) fun n102 =>
  Tryd.r5_l20_103 K h G a0 a1 n16 i17 h29 n30 n102 0)
def Tryd.r5 (G : Nat → Option AV) (a0 a1 : AV) (h : AH) (K : AV → AH → Prop) : Prop :=
  callR Tryd.prog G 18 [] h (fun v0 h1 =>
  okBool (some v0) fun b2 =>
  condB (!b2)
  (RetR h K (.v (.bool false)) h1)
  (callR Tryd.prog G 22 [a0] h1 (fun v3 h4 =>
  okV (extV 0 v3) fun v5 =>
  okV (extV 1 v3) fun v6 =>
  okInt .i64 (extV 2 v3) fun n7 =>
  condB (n7 != 0)
  (okInt .i64 (aLen Tryd.prog h4 31 v5) fun n8 =>
  rGq (n8 == 0) true (some v6) fun b9 v10 =>
  rGq b9 true (aLen Tryd.prog h4 22 v10) fun b11 v12 =>
  rGq b11 true (aBin Tryd.prog .eql 3 v12 (.v (.int .i64 0))) fun b13 v14 =>
  okBool (pickR (some (.v (.bool b13))) (some v14) (some (.v (.bool false)))) fun b15 =>
  RetR h K (.v (.bool b15)) h4)
  (okInt .i64 (aLen Tryd.prog h4 22 a0) fun n16 =>
  ((0 : Int) ≤ n16 ∧ n16 ≤ n16 ∧ (((8 : Nat) : Int)) * n16 ≤ 281474976710656 ∧ n16 ≤ 4611686018427387904) ∧ newO (.cells 3 1 (List.replicate (Int.toNat n16) [(.v (.int .i64 0))]) 0) h4 fun i17 h18 =>
  okV (aIA Tryd.prog h18 22 v6 (.v (.int .i64 0))) fun v19 =>
  okInt .i64 (aLoad Tryd.prog h18 3 v19) fun n20 =>
  okStr (some a1) fun s21 =>
  callR Tryd.prog G 25 [(.v (.string s21))] h18 (fun v22 h23 =>
  okInt .u64 (some v22) fun n24 =>
  okInt .i64 (aLen Tryd.prog h23 31 v5) fun n25 =>
  Tryd.r5_l11_26 G h K a0 a1 v5 v6 n16 i17 h23 n24 n25 n20 false 0)))))
theorem Tryd.c5 (G : Nat → Option AV) (a0 a1 : AV) (h : AH) (K : AV → AH → Prop) (hk : LowH h.length h → Tryd.r5 G a0 a1 h K) : SCall Tryd.prog G 5 [a0, a1] h K :=
  scall_of_rwp Tryd.tab5 [(11, [(9, (.int .i64)), (10, .bool), (43, (.int .i64))], [0, 1, 5, 6, 8, 11, 42]), (20, [(102, (.int .i64))], [0, 1, 8, 9, 101])] Tryd.func5 rfl Tryd.ntmps5 (by kernel_rfl) (by show 2 ≤ 128; decide) (by kernel_rfl) (by kernel_rfl) hk
-- 8 skylark/skylarklaw06.RingSame
def Tryd.r8_j8 (K : AV → AH → Prop) (h : AH) (G : Nat → Option AV) (a0 : AV) (v6 : AV) (h7 : AH) : Prop :=
  callR Tryd.prog G 29 [a0, a0, v6] h7 (fun v8 h9 =>
  okV (extV 0 v8) fun v10 =>
  okInt .i64 (extV 1 v8) fun n11 =>
  okInt .i64 (aLen Tryd.prog h9 22 v10) fun n12 =>
  rGq (n12 != 0) false (some (.v (.int .i64 n11))) fun b13 v14 =>
  rGq b13 false (aBin Tryd.prog .neq 25 v14 (.v (.int .i64 0))) fun b15 v16 =>
  okBool (pickR (some (.v (.bool b15))) (some (.v (.bool true))) (some v16)) fun b17 =>
  rGq b17 false (some a0) fun b18 v19 =>
  rGq b18 false (aLen Tryd.prog h9 22 v19) fun b20 v21 =>
  rGq b20 false (aBin Tryd.prog .eql 3 v21 (.v (.int .i64 8))) fun b22 v23 =>
  okBool (pickR (some (.v (.bool b22))) (some (.v (.bool true))) (some v23)) fun b24 =>
  condB b24
  (okInt .i64 (aLen Tryd.prog h9 22 v10) fun n25 =>
  rGq (n25 == 0) true (some (.v (.int .i64 n11))) fun b26 v27 =>
  rGq b26 true (aBin Tryd.prog .eql 25 v27 (.v (.int .i64 0))) fun b28 v29 =>
  okBool (pickR (some (.v (.bool b28))) (some v29) (some (.v (.bool false)))) fun b30 =>
  RetR h K (.v (.bool b30)) h9)
  (newO (.cells 3 1 [] 0) h9 fun i31 h32 =>
  appR Tryd.prog h32 22 22 (.sl i31 0 0 0 none) a0 (fun v33 h34 =>
  newO (.cells 3 1 [[(.v (.int .i64 0))]] 0) h34 fun i35 h36 =>
  appR Tryd.prog h36 22 22 v33 (.sl i35 0 0 1 none) (fun v37 h38 =>
  callR Tryd.prog G 29 [a0, v37, v6] h38 (fun v39 h40 =>
  okV (extV 0 v39) fun v41 =>
  okInt .i64 (extV 1 v39) fun n42 =>
  okInt .i64 (aLen Tryd.prog h40 22 v41) fun n43 =>
  rGq (n43 == 0) true (some (.v (.int .i64 n42))) fun b44 v45 =>
  rGq b44 true (aBin Tryd.prog .eql 25 v45 (.v (.int .i64 0))) fun b46 v47 =>
  okBool (pickR (some (.v (.bool b46))) (some v47) (some (.v (.bool false)))) fun b48 =>
  RetR h K (.v (.bool b48)) h40)))))
def Tryd.r8 (G : Nat → Option AV) (a0 a1 : AV) (h : AH) (K : AV → AH → Prop) : Prop :=
  callR Tryd.prog G 18 [] h (fun v0 h1 =>
  okBool (some v0) fun b2 =>
  condB (!b2)
  (RetR h K (.v (.bool false)) h1)
  (callR Tryd.prog G 20 [a0] h1 (fun v3 h4 =>
  okInt .i64 (some v3) fun n5 =>
  condB (n5 != 0)
  (RetR h K (.v (.bool true)) h4)
  (okInt .i64 (aLen Tryd.prog h4 23 a1) fun n49 =>
  condB (decide (n49 > 40))
  (okV (aSlice Tryd.prog h4 23 a1 none (some (some (.v (.int .i64 40)))) none) fun v50 =>
  Tryd.r8_j8 K h G a0 v50 h4)
  (Tryd.r8_j8 K h G a0 a1 h4)))))
theorem Tryd.c8 (G : Nat → Option AV) (a0 a1 : AV) (h : AH) (K : AV → AH → Prop) (hk : LowH h.length h → Tryd.r8 G a0 a1 h K) : SCall Tryd.prog G 8 [a0, a1] h K :=
  scall_of_rwp Tryd.tab8 [] Tryd.func8 rfl Tryd.ntmps8 (by kernel_rfl) (by show 2 ≤ 63; decide) (by kernel_rfl) (by kernel_rfl) hk
-- 18 skylark/skylarklaw06.works
def Tryd.r18 (G : Nat → Option AV) (h : AH) (K : AV → AH → Prop) : Prop :=
  newO (.cells 3 1 [[(.v (.int .i64 1))]] 0) h fun i0 h1 =>
  callR Tryd.prog G 19 [(.sl i0 0 0 1 none), (.v (.string (ByteArray.mk #[107])))] h1 (fun v2 h3 =>
  okInt .i64 (extV 0 v2) fun n4 =>
  okInt .i64 (extV 1 v2) fun n5 =>
  newO (.cells 3 1 [[(.v (.int .i64 0))], [(.v (.int .i64 3))]] 0) h3 fun i6 h7 =>
  callR Tryd.prog G 19 [(.sl i6 0 0 2 none), (.v (.string (ByteArray.mk #[107])))] h7 (fun v8 h9 =>
  okInt .i64 (extV 0 v8) fun n10 =>
  okInt .i64 (extV 1 v8) fun n11 =>
  rGq (n4 == 0) true (some (.v (.int .i64 n5))) fun b12 v13 =>
  rGq b12 true (aBin Tryd.prog .eql 25 v13 (.v (.int .i64 0))) fun b14 v15 =>
  okBool (pickR (some (.v (.bool b14))) (some v15) (some (.v (.bool false)))) fun b16 =>
  rGq b16 true (some (.v (.int .i64 n10))) fun b17 v18 =>
  rGq b17 true (aBin Tryd.prog .eql 3 v18 (.v (.int .i64 1))) fun b19 v20 =>
  okBool (pickR (some (.v (.bool b19))) (some v20) (some (.v (.bool false)))) fun b21 =>
  rGq b21 true (some (.v (.int .i64 n11))) fun b22 v23 =>
  rGq b22 true (aBin Tryd.prog .eql 25 v23 (.v (.int .i64 0))) fun b24 v25 =>
  okBool (pickR (some (.v (.bool b24))) (some v25) (some (.v (.bool false)))) fun b26 =>
  rGe b26 true (fun k27 => newO (.cells 3 1 [[(.v (.int .i64 0))], [(.v (.int .i64 0))]] 0) h9 fun i28 h29 =>
  k27 (.sl i28 0 0 2 none) h29) h9 fun b30 v31 h32 =>
  rGe b30 true (fun k33 => callR Tryd.prog G 20 [v31] h32 (fun v34 h35 =>
  k33 v34 h35)) h32 fun b36 v37 h38 =>
  rGq b36 true (aBin Tryd.prog .eql 25 v37 (.v (.int .i64 1))) fun b39 v40 =>
  okBool (pickR (some (.v (.bool b39))) (some v40) (some (.v (.bool false)))) fun b41 =>
  rGe b41 true (fun k42 => callR Tryd.prog G 25 [(.v (.string (ByteArray.mk #[])))] h38 (fun v43 h44 =>
  k42 v43 h44)) h38 fun b45 v46 h47 =>
  rGe b45 true (fun k48 => callR Tryd.prog G 25 [(.v (.string (ByteArray.mk #[97])))] h47 (fun v49 h50 =>
  k48 v49 h50)) h47 fun b51 v52 h53 =>
  rGq b51 true (aBin Tryd.prog .neq 35 v46 v52) fun b54 v55 =>
  okBool (pickR (some (.v (.bool b54))) (some v55) (some (.v (.bool false)))) fun b56 =>
  RetR h K (.v (.bool b56)) h53))
theorem Tryd.c18 (G : Nat → Option AV) (h : AH) (K : AV → AH → Prop) (hk : LowH h.length h → Tryd.r18 G h K) : SCall Tryd.prog G 18 [] h K :=
  scall_of_rwp Tryd.tab18 [] Tryd.func18 rfl Tryd.ntmps18 (by kernel_rfl) (by show 0 ≤ 39; decide) (by kernel_rfl) (by kernel_rfl) hk
-- 19 skylark/ring.Of
def Tryd.r19 (G : Nat → Option AV) (a0 a1 : AV) (h : AH) (K : AV → AH → Prop) : Prop :=
  callR Tryd.prog G 77 [a0] h (fun v0 h1 =>
  okV (extV 0 v0) fun v2 =>
  okInt .i64 (extV 1 v0) fun n3 =>
  condB (n3 != 0)
  (RetR h K (.tup [(.v (.int .i64 0)), (.v (.int .i64 n3))]) h1)
  (okStr (some a1) fun s4 =>
  callR Tryd.prog G 78 [v2, (.v (.string s4))] h1 (fun v5 h6 =>
  okInt .i64 (some v5) fun n7 =>
  RetR h K (.tup [(.v (.int .i64 n7)), (.v (.int .i64 0))]) h6)))
theorem Tryd.c19 (G : Nat → Option AV) (a0 a1 : AV) (h : AH) (K : AV → AH → Prop) (hk : LowH h.length h → Tryd.r19 G a0 a1 h K) : SCall Tryd.prog G 19 [a0, a1] h K :=
  scall_of_rwp Tryd.tab19 [] Tryd.func19 rfl Tryd.ntmps19 (by kernel_rfl) (by show 2 ≤ 19; decide) (by kernel_rfl) (by kernel_rfl) hk
-- 20 skylark/ring.Check
def Tryd.r20 (G : Nat → Option AV) (a0 : AV) (h : AH) (K : AV → AH → Prop) : Prop :=
  okInt .i64 (aLen Tryd.prog h 22 a0) fun n0 =>
  rGq (decide (n0 < 1)) false (some a0) fun b1 v2 =>
  rGq b1 false (aLen Tryd.prog h 22 v2) fun b3 v4 =>
  rGq b3 false (aBin Tryd.prog .gtr 3 v4 (.v (.int .i64 8))) fun b5 v6 =>
  okBool (pickR (some (.v (.bool b5))) (some (.v (.bool true))) (some v6)) fun b7 =>
  rGq b7 false (some a0) fun b8 v9 =>
  rGe b8 false (fun k10 => callR Tryd.prog G 79 [v9] h (fun v11 h12 =>
  k10 v11 h12)) h fun b13 v14 h15 =>
  rGq b13 false (aBin Tryd.prog .lss 3 v14 (.v (.int .i64 0))) fun b16 v17 =>
  okBool (pickR (some (.v (.bool b16))) (some (.v (.bool true))) (some v17)) fun b18 =>
  rGq b18 false (some a0) fun b19 v20 =>
  rGe b19 false (fun k21 => callR Tryd.prog G 80 [v20] h15 (fun v22 h23 =>
  k21 v22 h23)) h15 fun b24 v25 h26 =>
  rGq b24 false (aBin Tryd.prog .gtr 3 v25 (.v (.int .i64 128))) fun b27 v28 =>
  okBool (pickR (some (.v (.bool b27))) (some (.v (.bool true))) (some v28)) fun b29 =>
  rGq b29 false (some a0) fun b30 v31 =>
  rGe b30 false (fun k32 => callR Tryd.prog G 80 [v31] h26 (fun v33 h34 =>
  k32 v33 h34)) h26 fun b35 v36 h37 =>
  rGq b35 false (aBin Tryd.prog .eql 3 v36 (.v (.int .i64 0))) fun b38 v39 =>
  okBool (pickR (some (.v (.bool b38))) (some (.v (.bool true))) (some v39)) fun b40 =>
  condB b40
  (RetR h K (.v (.int .i64 1)) h37)
  (RetR h K (.v (.int .i64 0)) h37)
theorem Tryd.c20 (G : Nat → Option AV) (a0 : AV) (h : AH) (K : AV → AH → Prop) (hk : LowH h.length h → Tryd.r20 G a0 h K) : SCall Tryd.prog G 20 [a0] h K :=
  scall_of_rwp Tryd.tab20 [] Tryd.func20 rfl Tryd.ntmps20 (by kernel_rfl) (by show 1 ≤ 26; decide) (by kernel_rfl) (by kernel_rfl) hk
-- 21 skylark/skylarkbook.LendInts
def Tryd.r21 (a0 : AV) (h : AH) (K : AV → AH → Prop) : Prop :=
  newO (.cells 3 1 [] 0) h fun i0 h1 =>
  appR Tryd.prog h1 22 22 (.sl i0 0 0 0 none) a0 (fun v2 h3 =>
  newO (.cells 3 1 [[(.v (.int .i64 (-77)))]] 0) h3 fun i4 h5 =>
  appR Tryd.prog h5 22 22 v2 (.sl i4 0 0 1 none) (fun v6 h7 =>
  okInt .i64 (aLen Tryd.prog h7 22 a0) fun n8 =>
  okV (aSlice Tryd.prog h7 22 v6 none (some (some (.v (.int .i64 n8)))) none) fun v9 =>
  RetR h K v9 h7))
theorem Tryd.c21 (G : Nat → Option AV) (a0 : AV) (h : AH) (K : AV → AH → Prop) (hk : LowH h.length h → Tryd.r21 a0 h K) : SCall Tryd.prog G 21 [a0] h K :=
  scall_of_rwp Tryd.tab21 [] Tryd.func21 rfl Tryd.ntmps21 (by kernel_rfl) (by show 1 ≤ 14; decide) (by kernel_rfl) (by kernel_rfl) hk
-- 22 skylark/ring.Points
def Tryd.r22_l3_5 (K : AV → AH → Prop) (h : AH) (h1 : AH) (v2 : AV) (n3 : Int) (n4 : Int) (v48 : AV) (v49 : AV) (n50 : Int) : Prop :=
  ∃ (I5 : Nat → List AV → AH → Prop) (m6 : Nat), I5 m6 [v48, v49, (.v (.int .i64 n50))] h1 ∧ ∀ (m7 : Nat) (h8 : AH), h1.length ≤ h8.length → LowH h8.length h8 → ∀ (v9 : AV) (v10 : AV) (n11 : Int), I5 m7 [v9, v10, (.v (.int .i64 n11))] h8 →
  condB (decide (n11 < n4))
  (okV (aIA Tryd.prog h8 128 v2 (.v (.int .i64 n11))) fun v12 =>
  okV (aLoad Tryd.prog h8 134 v12) fun v13 =>
  newO (.cells 134 3 [[(.v (.int .u64 0)), (.v (.int .i64 0)), (.v (.int .i64 0))]] 0) h8 fun i14 h15 =>
  storeR Tryd.prog h15 (fun v16 h17 =>
  ((okInt .u64 (aLoad Tryd.prog h17 35 (.ptr i14 0 0 0)) fun n18 =>
  okInt .i64 (aLoad Tryd.prog h17 3 (.ptr i14 0 0 1)) fun n19 =>
  newO (.cells 35 1 [[(.v (.int .u64 n18))]] 0) h17 fun i20 h21 =>
  (aLoad Tryd.prog h21 3 (.ptr i14 0 0 1) = some (.v (.int .i64 n19))) ∧ appR Tryd.prog h21 31 31 v9 (.sl i20 0 0 1 none) (fun v22 h23 =>
  (aLoad Tryd.prog h23 3 (.ptr i14 0 0 1) = some (.v (.int .i64 n19))) ∧ newO (.cells 3 1 [[(.v (.int .i64 n19))]] 0) h23 fun i24 h25 =>
  appR Tryd.prog h25 22 22 v10 (.sl i24 0 0 1 none) (fun v26 h27 =>
  nextR h1 I5 m7 [some (.v (.int .i64 n3)), some v2, some (.v (.int .i64 n4))] [some (.v (.int .i64 n3)), some v2, some (.v (.int .i64 n4))] [v22, v26, (.v (.int .i64 (IntKind.wrap .i64 (n11 + 1))))] h27)))
  ∧ (okInt .u64 (aLoad Tryd.prog h17 35 (.ptr i14 0 0 0)) fun n28 =>
  okInt .i64 (aLoad Tryd.prog h17 3 (.ptr i14 0 0 1)) fun n29 =>
  newO (.cells 35 1 [[(.v (.int .u64 n28))]] 0) h17 fun i30 h31 =>
  (aLoad Tryd.prog h31 3 (.ptr i14 0 0 1) = some (.v (.int .i64 n29))) ∧ newO (.cells 3 1 [[(.v (.int .i64 n29))]] 0) h31 fun i32 h33 =>
  appR Tryd.prog h33 31 31 v9 (.sl i30 0 0 1 none) (fun v34 h35 =>
  (aLoad Tryd.prog h35 3 (.ptr i14 0 0 1) = some (.v (.int .i64 n29))) ∧ appR Tryd.prog h35 22 22 v10 (.sl i32 0 0 1 none) (fun v36 h37 =>
  nextR h1 I5 m7 [some (.v (.int .i64 n3)), some v2, some (.v (.int .i64 n4))] [some (.v (.int .i64 n3)), some v2, some (.v (.int .i64 n4))] [v34, v36, (.v (.int .i64 (IntKind.wrap .i64 (n11 + 1))))] h37))))
  ∧ (okInt .u64 (aLoad Tryd.prog h17 35 (.ptr i14 0 0 0)) fun n38 =>
  okInt .i64 (aLoad Tryd.prog h17 3 (.ptr i14 0 0 1)) fun n39 =>
  newO (.cells 3 1 [[(.v (.int .i64 n39))]] 0) h17 fun i40 h41 =>
  (aLoad Tryd.prog h41 35 (.ptr i14 0 0 0) = some (.v (.int .u64 n38))) ∧ newO (.cells 35 1 [[(.v (.int .u64 n38))]] 0) h41 fun i42 h43 =>
  (aLoad Tryd.prog h43 3 (.ptr i14 0 0 1) = some (.v (.int .i64 n39))) ∧ appR Tryd.prog h43 31 31 v9 (.sl i42 0 0 1 none) (fun v44 h45 =>
  (aLoad Tryd.prog h45 3 (.ptr i14 0 0 1) = some (.v (.int .i64 n39))) ∧ appR Tryd.prog h45 22 22 v10 (.sl i40 0 0 1 none) (fun v46 h47 =>
  nextR h1 I5 m7 [some (.v (.int .i64 n3)), some v2, some (.v (.int .i64 n4))] [some (.v (.int .i64 n3)), some v2, some (.v (.int .i64 n4))] [v44, v46, (.v (.int .i64 (IntKind.wrap .i64 (n11 + 1))))] h47)))) 134 v13 (.ptr i14 0 0 0))
  (RetR h K (.tup [v9, v10, (.v (.int .i64 n3))]) h8)
def Tryd.r22 (G : Nat → Option AV) (a0 : AV) (h : AH) (K : AV → AH → Prop) : Prop :=
  callR Tryd.prog G 77 [a0] h (fun v0 h1 =>
  okV (extV 0 v0) fun v2 =>
  okInt .i64 (extV 1 v0) fun n3 =>
  okInt .i64 (aLen Tryd.prog h1 128 v2) fun n4 =>
  Tryd.r22_l3_5 K h h1 v2 n3 n4 (.v (.slice none 0 0)) (.v (.slice none 0 0)) 0)
theorem Tryd.c22 (G : Nat → Option AV) (a0 : AV) (h : AH) (K : AV → AH → Prop) (hk : LowH h.length h → Tryd.r22 G a0 h K) : SCall Tryd.prog G 22 [a0] h K :=
  scall_of_rwp Tryd.tab22 [(3, [(2, .any), (3, .any), (15, (.int .i64))], [4, 13, 14])] Tryd.func22 rfl Tryd.ntmps22 (by kernel_rfl) (by show 1 ≤ 33; decide) (by kernel_rfl) (by kernel_rfl) hk
-- 23 skylark/skylarkref06.Points
def Tryd.r23_l7_5 (K : AV → AH → Prop) (h : AH) (v3 : AV) (h4 : AH) (v27 : AV) (v28 : AV) (n29 : Int) : Prop :=
  ∃ (I5 : Nat → List AV → AH → Prop) (m6 : Nat), I5 m6 [v27, v28, (.v (.int .i64 n29))] h4 ∧ ∀ (m7 : Nat) (h8 : AH), h4.length ≤ h8.length → LowH h8.length h8 → ∀ (v9 : AV) (v10 : AV) (n11 : Int), I5 m7 [v9, v10, (.v (.int .i64 n11))] h8 →
  okInt .i64 (aLen Tryd.prog h8 136 v3) fun n12 =>
  condB (decide (n11 < n12))
  (okV (aIA Tryd.prog h8 136 v3 (.v (.int .i64 n11))) fun v13 =>
  okV (aFA Tryd.prog 139 0 v13) fun v14 =>
  okInt .u64 (aLoad Tryd.prog h8 35 v14) fun n15 =>
  newO (.cells 35 1 [[(.v (.int .u64 n15))]] 0) h8 fun i16 h17 =>
  appR Tryd.prog h17 31 31 v9 (.sl i16 0 0 1 none) (fun v18 h19 =>
  okV (aIA Tryd.prog h19 136 v3 (.v (.int .i64 n11))) fun v20 =>
  okV (aFA Tryd.prog 139 1 v20) fun v21 =>
  okInt .i64 (aLoad Tryd.prog h19 3 v21) fun n22 =>
  newO (.cells 3 1 [[(.v (.int .i64 n22))]] 0) h19 fun i23 h24 =>
  appR Tryd.prog h24 22 22 v10 (.sl i23 0 0 1 none) (fun v25 h26 =>
  nextR h4 I5 m7 [some v3] [some v3] [v18, v25, (.v (.int .i64 (IntKind.wrap .i64 (n11 + 1))))] h26)))
  (RetR h K (.tup [v9, v10, (.v (.int .i64 0))]) h8)
def Tryd.r23 (G : Nat → Option AV) (a0 : AV) (h : AH) (K : AV → AH → Prop) : Prop :=
  callR Tryd.prog G 81 [a0] h (fun v0 h1 =>
  okBool (some v0) fun b2 =>
  condB (!b2)
  (RetR h K (.tup [(.v (.slice none 0 0)), (.v (.slice none 0 0)), (.v (.int .i64 1))]) h1)
  (callR Tryd.prog G 82 [a0] h1 (fun v3 h4 =>
  Tryd.r23_l7_5 K h v3 h4 (.v (.slice none 0 0)) (.v (.slice none 0 0)) 0)))
theorem Tryd.c23 (G : Nat → Option AV) (a0 : AV) (h : AH) (K : AV → AH → Prop) (hk : LowH h.length h → Tryd.r23 G a0 h K) : SCall Tryd.prog G 23 [a0] h K :=
  scall_of_rwp Tryd.tab23 [(7, [(5, .any), (6, .any), (8, (.int .i64))], [7])] Tryd.func23 rfl Tryd.ntmps23 (by kernel_rfl) (by show 1 ≤ 38; decide) (by kernel_rfl) (by kernel_rfl) hk
-- 24 skylark/skylarkbook.SameInts
def Tryd.r24_l4_2 (K : AV → AH → Prop) (h : AH) (a0 : AV) (a1 : AV) (n12 : Int) : Prop :=
  ∃ (I2 : Nat → List AV → AH → Prop) (m3 : Nat), I2 m3 [(.v (.int .i64 n12))] h ∧ ∀ (m4 : Nat) (h5 : AH), h.length ≤ h5.length → LowH h5.length h5 → ∀ (n6 : Int), I2 m4 [(.v (.int .i64 n6))] h5 →
  okInt .i64 (aLen Tryd.prog h5 22 a0) fun n7 =>
  condB (decide (n6 < n7))
  (okV (aIA Tryd.prog h5 22 a0 (.v (.int .i64 n6))) fun v8 =>
  okInt .i64 (aLoad Tryd.prog h5 3 v8) fun n9 =>
  okV (aIA Tryd.prog h5 22 a1 (.v (.int .i64 n6))) fun v10 =>
  okInt .i64 (aLoad Tryd.prog h5 3 v10) fun n11 =>
  condB (n9 != n11)
  (RetR h K (.v (.bool false)) h5)
  (nextR h I2 m4 [some a0, some a1] [some a0, some a1] [(.v (.int .i64 (IntKind.wrap .i64 (n6 + 1))))] h5))
  (RetR h K (.v (.bool true)) h5)
def Tryd.r24 (a0 a1 : AV) (h : AH) (K : AV → AH → Prop) : Prop :=
  okInt .i64 (aLen Tryd.prog h 22 a0) fun n0 =>
  okInt .i64 (aLen Tryd.prog h 22 a1) fun n1 =>
  condB (n0 != n1)
  (RetR h K (.v (.bool false)) h)
  (Tryd.r24_l4_2 K h a0 a1 0)
theorem Tryd.c24 (G : Nat → Option AV) (a0 a1 : AV) (h : AH) (K : AV → AH → Prop) (hk : LowH h.length h → Tryd.r24 a0 a1 h K) : SCall Tryd.prog G 24 [a0, a1] h K :=
  scall_of_rwp Tryd.tab24 [(4, [(5, (.int .i64))], [0, 1])] Tryd.func24 rfl Tryd.ntmps24 (by kernel_rfl) (by show 2 ≤ 26; decide) (by kernel_rfl) (by kernel_rfl) hk
-- 25 skylark/ring.Hash
def Tryd.r25_l3_1 (K : AV → AH → Prop) (h : AH) (a0 : AV) (s0 : ByteArray) (n14 : Int) (n15 : Int) : Prop :=
  ∃ (I1 : Nat → List AV → AH → Prop) (m2 : Nat), I1 m2 [(.v (.int .u64 n14)), (.v (.int .i64 n15))] h ∧ ∀ (m3 : Nat) (h4 : AH), h.length ≤ h4.length → LowH h4.length h4 → ∀ (n5 : Int) (n6 : Int), I1 m3 [(.v (.int .u64 n5)), (.v (.int .i64 n6))] h4 →
  condB (decide (n6 < ((ByteArray.size s0 : Nat) : Int)))
  (okStr (some a0) fun s7 =>
  okInt .u8 (aIndex Tryd.prog 9 (.v (.string s7)) (.v (.int .i64 n6))) fun n8 =>
  okInt .u64 (aBin Tryd.prog .xor 35 (.v (.int .u64 n5)) (.v (.int .u64 (IntKind.wrap .u64 n8)))) fun n9 =>
  nextR h I1 m3 [some a0, some (.v (.int .i64 ((ByteArray.size s0 : Nat) : Int)))] [some a0, some (.v (.int .i64 ((ByteArray.size s0 : Nat) : Int)))] [(.v (.int .u64 (IntKind.wrap .u64 (n9 * 1099511628211)))), (.v (.int .i64 (IntKind.wrap .i64 (n6 + 1))))] h4)
  (okInt .u64 (aBin Tryd.prog .shr 35 (.v (.int .u64 n5)) (.v (.int .u64 33))) fun n10 =>
  okInt .u64 (aBin Tryd.prog .xor 35 (.v (.int .u64 n5)) (.v (.int .u64 n10))) fun n11 =>
  okInt .u64 (aBin Tryd.prog .shr 35 (.v (.int .u64 (IntKind.wrap .u64 (n11 * 18397679294719823053)))) (.v (.int .u64 33))) fun n12 =>
  okInt .u64 (aBin Tryd.prog .xor 35 (.v (.int .u64 (IntKind.wrap .u64 (n11 * 18397679294719823053)))) (.v (.int .u64 n12))) fun n13 =>
  RetR h K (.v (.int .u64 n13)) h4)
def Tryd.r25 (a0 : AV) (h : AH) (K : AV → AH → Prop) : Prop :=
  okStr (some a0) fun s0 =>
  Tryd.r25_l3_1 K h a0 s0 14695981039346656037 0
theorem Tryd.c25 (G : Nat → Option AV) (a0 : AV) (h : AH) (K : AV → AH → Prop) (hk : LowH h.length h → Tryd.r25 a0 h K) : SCall Tryd.prog G 25 [a0] h K :=
  scall_of_rwp Tryd.tab25 [(3, [(3, (.int .u64)), (7, (.int .i64))], [0, 6])] Tryd.func25 rfl Tryd.ntmps25 (by kernel_rfl) (by show 1 ≤ 27; decide) (by kernel_rfl) (by kernel_rfl) hk
-- 26 skylark/skylarkref06.Hash
def Tryd.r26_l3_0 (K : AV → AH → Prop) (h : AH) (a0 : AV) (n14 : Int) (n15 : Int) : Prop :=
  ∃ (I0 : Nat → List AV → AH → Prop) (m1 : Nat), I0 m1 [(.v (.int .u64 n14)), (.v (.int .i64 n15))] h ∧ ∀ (m2 : Nat) (h3 : AH), h.length ≤ h3.length → LowH h3.length h3 → ∀ (n4 : Int) (n5 : Int), I0 m2 [(.v (.int .u64 n4)), (.v (.int .i64 n5))] h3 →
  okStr (some a0) fun s6 =>
  condB (decide (n5 < ((ByteArray.size s6 : Nat) : Int)))
  (okStr (some a0) fun s7 =>
  okInt .u8 (aIndex Tryd.prog 9 (.v (.string s7)) (.v (.int .i64 n5))) fun n8 =>
  okInt .u64 (aBin Tryd.prog .xor 35 (.v (.int .u64 n4)) (.v (.int .u64 (IntKind.wrap .u64 n8)))) fun n9 =>
  nextR h I0 m2 [some a0] [some a0] [(.v (.int .u64 (IntKind.wrap .u64 (n9 * 1099511628211)))), (.v (.int .i64 (IntKind.wrap .i64 (n5 + 1))))] h3)
  (okInt .u64 (aBin Tryd.prog .shr 35 (.v (.int .u64 n4)) (.v (.int .u64 33))) fun n10 =>
  okInt .u64 (aBin Tryd.prog .xor 35 (.v (.int .u64 n4)) (.v (.int .u64 n10))) fun n11 =>
  okInt .u64 (aBin Tryd.prog .shr 35 (.v (.int .u64 (IntKind.wrap .u64 (n11 * 18397679294719823053)))) (.v (.int .u64 33))) fun n12 =>
  okInt .u64 (aBin Tryd.prog .xor 35 (.v (.int .u64 (IntKind.wrap .u64 (n11 * 18397679294719823053)))) (.v (.int .u64 n12))) fun n13 =>
  RetR h K (.v (.int .u64 n13)) h3)
def Tryd.r26 (a0 : AV) (h : AH) (K : AV → AH → Prop) : Prop :=
  Tryd.r26_l3_0 K h a0 14695981039346656037 0
theorem Tryd.c26 (G : Nat → Option AV) (a0 : AV) (h : AH) (K : AV → AH → Prop) (hk : LowH h.length h → Tryd.r26 a0 h K) : SCall Tryd.prog G 26 [a0] h K :=
  scall_of_rwp Tryd.tab26 [(3, [(3, (.int .u64)), (4, (.int .i64))], [0])] Tryd.func26 rfl Tryd.ntmps26 (by kernel_rfl) (by show 1 ≤ 27; decide) (by kernel_rfl) (by kernel_rfl) hk
-- 27 skylark/skylarkref06.Check
def Tryd.r27 (G : Nat → Option AV) (a0 : AV) (h : AH) (K : AV → AH → Prop) : Prop :=
  callR Tryd.prog G 81 [a0] h (fun v0 h1 =>
  okBool (some v0) fun b2 =>
  condB (!b2)
  (RetR h K (.v (.int .i64 1)) h1)
  (RetR h K (.v (.int .i64 0)) h1))
theorem Tryd.c27 (G : Nat → Option AV) (a0 : AV) (h : AH) (K : AV → AH → Prop) (hk : LowH h.length h → Tryd.r27 G a0 h K) : SCall Tryd.prog G 27 [a0] h K :=
  scall_of_rwp Tryd.tab27 [] Tryd.func27 rfl Tryd.ntmps27 (by kernel_rfl) (by show 1 ≤ 6; decide) (by kernel_rfl) (by kernel_rfl) hk
-- 28 skylark/skylarkbook.KeptInts
def Tryd.r28 (G : Nat → Option AV) (a0 a1 : AV) (h : AH) (K : AV → AH → Prop) : Prop :=
  callR Tryd.prog G 24 [a0, a1] h (fun v0 h1 =>
  okBool (some v0) fun b2 =>
  rGq b2 true (some a0) fun b3 v4 =>
  rGq b3 true (some a1) fun b5 v6 =>
  rGq b5 true (aLen Tryd.prog h1 22 v6) fun b7 v8 =>
  rGq b7 true (aBin Tryd.prog .add 3 v8 (.v (.int .i64 1))) fun b9 v10 =>
  rGq b9 true (aSlice Tryd.prog h1 22 v4 none (some (some v10)) none) fun b11 v12 =>
  rGq b11 true (some a1) fun b13 v14 =>
  rGq b13 true (aLen Tryd.prog h1 22 v14) fun b15 v16 =>
  rGq b15 true (aIA Tryd.prog h1 22 v12 v16) fun b17 v18 =>
  rGq b17 true (aLoad Tryd.prog h1 3 v18) fun b19 v20 =>
  rGq b19 true (aBin Tryd.prog .eql 3 v20 (.v (.int .i64 (-77)))) fun b21 v22 =>
  okBool (pickR (some (.v (.bool b21))) (some v22) (some (.v (.bool false)))) fun b23 =>
  RetR h K (.v (.bool b23)) h1)
theorem Tryd.c28 (G : Nat → Option AV) (a0 a1 : AV) (h : AH) (K : AV → AH → Prop) (hk : LowH h.length h → Tryd.r28 G a0 a1 h K) : SCall Tryd.prog G 28 [a0, a1] h K :=
  scall_of_rwp Tryd.tab28 [] Tryd.func28 rfl Tryd.ntmps28 (by kernel_rfl) (by show 2 ≤ 20; decide) (by kernel_rfl) (by kernel_rfl) hk
-- 29 skylark/ring.Moved
def Tryd.r29_l8_14 (K : AV → AH → Prop) (h : AH) (G : Nat → Option AV) (a2 : AV) (v2 : AV) (v6 : AV) (h11 : AH) (n13 : Int) (v32 : AV) (n33 : Int) : Prop :=
  ∃ (I14 : Nat → List AV → AH → Prop) (m15 : Nat), I14 m15 [v32, (.v (.int .i64 n33))] h11 ∧ ∀ (m16 : Nat) (h17 : AH), h11.length ≤ h17.length → LowH h17.length h17 → ∀ (v18 : AV) (n19 : Int), I14 m16 [v18, (.v (.int .i64 n19))] h17 →
  condB (decide (n19 < n13))
  (okV (aIA Tryd.prog h17 23 a2 (.v (.int .i64 n19))) fun v20 =>
  okStr (aLoad Tryd.prog h17 9 v20) fun s21 =>
  callR Tryd.prog G 78 [v2, (.v (.string s21))] h17 (fun v22 h23 =>
  okInt .i64 (some v22) fun n24 =>
  callR Tryd.prog G 78 [v6, (.v (.string s21))] h23 (fun v25 h26 =>
  okInt .i64 (some v25) fun n27 =>
  condB (n24 != n27)
  (newO (.cells 3 1 [[(.v (.int .i64 n19))]] 0) h26 fun i28 h29 =>
  appR Tryd.prog h29 22 22 v18 (.sl i28 0 0 1 none) (fun v30 h31 =>
  nextR h11 I14 m16 [some v2, some v6, some a2, some (.v (.int .i64 n13))] [some v2, some v6, some a2, some (.v (.int .i64 n13))] [v30, (.v (.int .i64 (IntKind.wrap .i64 (n19 + 1))))] h31))
  (nextR h11 I14 m16 [some v2, some v6, some a2, some (.v (.int .i64 n13))] [some v2, some v6, some a2, some (.v (.int .i64 n13))] [v18, (.v (.int .i64 (IntKind.wrap .i64 (n19 + 1))))] h26))))
  (RetR h K (.tup [v18, (.v (.int .i64 0))]) h17)
def Tryd.r29 (G : Nat → Option AV) (a0 a1 a2 : AV) (h : AH) (K : AV → AH → Prop) : Prop :=
  callR Tryd.prog G 77 [a0] h (fun v0 h1 =>
  okV (extV 0 v0) fun v2 =>
  okInt .i64 (extV 1 v0) fun n3 =>
  callR Tryd.prog G 77 [a1] h1 (fun v4 h5 =>
  okV (extV 0 v4) fun v6 =>
  okInt .i64 (extV 1 v4) fun n7 =>
  newO (.cells 25 1 [[(.v (.int .i64 n3))], [(.v (.int .i64 n7))]] 0) h5 fun i8 h9 =>
  callR Tryd.prog G 83 [(.sl i8 0 0 2 none)] h9 (fun v10 h11 =>
  okInt .i64 (some v10) fun n12 =>
  condB (n12 != 0)
  (RetR h K (.tup [(.v (.slice none 0 0)), (.v (.int .i64 n12))]) h11)
  (okInt .i64 (aLen Tryd.prog h11 23 a2) fun n13 =>
  Tryd.r29_l8_14 K h G a2 v2 v6 h11 n13 (.v (.slice none 0 0)) 0))))
theorem Tryd.c29 (G : Nat → Option AV) (a0 a1 a2 : AV) (h : AH) (K : AV → AH → Prop) (hk : LowH h.length h → Tryd.r29 G a0 a1 a2 h K) : SCall Tryd.prog G 29 [a0, a1, a2] h K :=
  scall_of_rwp Tryd.tab29 [(8, [(13, .any), (35, (.int .i64))], [8, 10, 33, 34])] Tryd.func29 rfl Tryd.ntmps29 (by kernel_rfl) (by show 3 ≤ 53; decide) (by kernel_rfl) (by kernel_rfl) hk
-- 30 skylark/skylarkref06.Moved
def Tryd.r30_l6_18 (K : AV → AH → Prop) (h : AH) (G : Nat → Option AV) (a2 : AV) (v14 : AV) (v16 : AV) (h17 : AH) (v39 : AV) (n40 : Int) : Prop :=
  ∃ (I18 : Nat → List AV → AH → Prop) (m19 : Nat), I18 m19 [v39, (.v (.int .i64 n40))] h17 ∧ ∀ (m20 : Nat) (h21 : AH), h17.length ≤ h21.length → LowH h21.length h21 → ∀ (v22 : AV) (n23 : Int), I18 m20 [v22, (.v (.int .i64 n23))] h21 →
  okInt .i64 (aLen Tryd.prog h21 23 a2) fun n24 =>
  condB (decide (n23 < n24))
  (okV (aIA Tryd.prog h21 23 a2 (.v (.int .i64 n23))) fun v25 =>
  okStr (aLoad Tryd.prog h21 9 v25) fun s26 =>
  okV (aIA Tryd.prog h21 23 a2 (.v (.int .i64 n23))) fun v27 =>
  okStr (aLoad Tryd.prog h21 9 v27) fun s28 =>
  callR Tryd.prog G 84 [v14, (.v (.string s26))] h21 (fun v29 h30 =>
  okInt .i64 (some v29) fun n31 =>
  (aLoad Tryd.prog h30 9 v27 = some (.v (.string s28))) ∧ (aIA Tryd.prog h30 23 a2 (.v (.int .i64 n23)) = some v27) ∧ callR Tryd.prog G 84 [v16, (.v (.string s28))] h30 (fun v32 h33 =>
  okInt .i64 (some v32) fun n34 =>
  condB (n31 != n34)
  (newO (.cells 3 1 [[(.v (.int .i64 n23))]] 0) h33 fun i35 h36 =>
  appR Tryd.prog h36 22 22 v22 (.sl i35 0 0 1 none) (fun v37 h38 =>
  nextR h17 I18 m20 [some a2, some v14, some v16] [some a2, some v14, some v16] [v37, (.v (.int .i64 (IntKind.wrap .i64 (n23 + 1))))] h38))
  (nextR h17 I18 m20 [some a2, some v14, some v16] [some a2, some v14, some v16] [v22, (.v (.int .i64 (IntKind.wrap .i64 (n23 + 1))))] h33))))
  (RetR h K (.tup [v22, (.v (.int .i64 0))]) h21)
def Tryd.r30 (G : Nat → Option AV) (a0 a1 a2 : AV) (h : AH) (K : AV → AH → Prop) : Prop :=
  callR Tryd.prog G 81 [a0] h (fun v0 h1 =>
  okBool (some v0) fun b2 =>
  rGq (!b2) false (some a1) fun b3 v4 =>
  rGe b3 false (fun k5 => callR Tryd.prog G 81 [v4] h1 (fun v6 h7 =>
  k5 v6 h7)) h1 fun b8 v9 h10 =>
  rGq b8 false (aUn .not v9) fun b11 v12 =>
  okBool (pickR (some (.v (.bool b11))) (some (.v (.bool true))) (some v12)) fun b13 =>
  condB b13
  (RetR h K (.tup [(.v (.slice none 0 0)), (.v (.int .i64 1))]) h10)
  (callR Tryd.prog G 82 [a0] h10 (fun v14 h15 =>
  callR Tryd.prog G 82 [a1] h15 (fun v16 h17 =>
  Tryd.r30_l6_18 K h G a2 v14 v16 h17 (.v (.slice none 0 0)) 0))))
theorem Tryd.c30 (G : Nat → Option AV) (a0 a1 a2 : AV) (h : AH) (K : AV → AH → Prop) (hk : LowH h.length h → Tryd.r30 G a0 a1 a2 h K) : SCall Tryd.prog G 30 [a0, a1, a2] h K :=
  scall_of_rwp Tryd.tab30 [(6, [(10, .any), (11, (.int .i64))], [2, 8, 9])] Tryd.func30 rfl Tryd.ntmps30 (by kernel_rfl) (by show 3 ≤ 48; decide) (by kernel_rfl) (by kernel_rfl) hk
-- 31 skylark/skylarkref06.Of
def Tryd.r31 (G : Nat → Option AV) (a0 a1 : AV) (h : AH) (K : AV → AH → Prop) : Prop :=
  callR Tryd.prog G 81 [a0] h (fun v0 h1 =>
  okBool (some v0) fun b2 =>
  condB (!b2)
  (RetR h K (.tup [(.v (.int .i64 0)), (.v (.int .i64 1))]) h1)
  (callR Tryd.prog G 82 [a0] h1 (fun v3 h4 =>
  okStr (some a1) fun s5 =>
  callR Tryd.prog G 84 [v3, (.v (.string s5))] h4 (fun v6 h7 =>
  okInt .i64 (some v6) fun n8 =>
  RetR h K (.tup [(.v (.int .i64 n8)), (.v (.int .i64 0))]) h7))))
theorem Tryd.c31 (G : Nat → Option AV) (a0 a1 : AV) (h : AH) (K : AV → AH → Prop) (hk : LowH h.length h → Tryd.r31 G a0 a1 h K) : SCall Tryd.prog G 31 [a0, a1] h K :=
  scall_of_rwp Tryd.tab31 [] Tryd.func31 rfl Tryd.ntmps31 (by kernel_rfl) (by show 2 ≤ 13; decide) (by kernel_rfl) (by kernel_rfl) hk
-- 32 skylark/skylarkbook.SameTexts
def Tryd.r32_l4_2 (K : AV → AH → Prop) (h : AH) (a0 : AV) (a1 : AV) (n12 : Int) : Prop :=
  ∃ (I2 : Nat → List AV → AH → Prop) (m3 : Nat), I2 m3 [(.v (.int .i64 n12))] h ∧ ∀ (m4 : Nat) (h5 : AH), h.length ≤ h5.length → LowH h5.length h5 → ∀ (n6 : Int), I2 m4 [(.v (.int .i64 n6))] h5 →
  okInt .i64 (aLen Tryd.prog h5 23 a0) fun n7 =>
  condB (decide (n6 < n7))
  (okV (aIA Tryd.prog h5 23 a0 (.v (.int .i64 n6))) fun v8 =>
  okStr (aLoad Tryd.prog h5 9 v8) fun s9 =>
  okV (aIA Tryd.prog h5 23 a1 (.v (.int .i64 n6))) fun v10 =>
  okStr (aLoad Tryd.prog h5 9 v10) fun s11 =>
  condB (!(ByteArray.toList s9 == ByteArray.toList s11))
  (RetR h K (.v (.bool false)) h5)
  (nextR h I2 m4 [some a0, some a1] [some a0, some a1] [(.v (.int .i64 (IntKind.wrap .i64 (n6 + 1))))] h5))
  (RetR h K (.v (.bool true)) h5)
def Tryd.r32 (a0 a1 : AV) (h : AH) (K : AV → AH → Prop) : Prop :=
  okInt .i64 (aLen Tryd.prog h 23 a0) fun n0 =>
  okInt .i64 (aLen Tryd.prog h 23 a1) fun n1 =>
  condB (n0 != n1)
  (RetR h K (.v (.bool false)) h)
  (Tryd.r32_l4_2 K h a0 a1 0)
theorem Tryd.c32 (G : Nat → Option AV) (a0 a1 : AV) (h : AH) (K : AV → AH → Prop) (hk : LowH h.length h → Tryd.r32 a0 a1 h K) : SCall Tryd.prog G 32 [a0, a1] h K :=
  scall_of_rwp Tryd.tab32 [(4, [(5, (.int .i64))], [0, 1])] Tryd.func32 rfl Tryd.ntmps32 (by kernel_rfl) (by show 2 ≤ 26; decide) (by kernel_rfl) (by kernel_rfl) hk
-- 34 (skylark/skylarklaw07.Change).theirs
def Tryd.r34 (a0 : AV) (h : AH) (K : AV → AH → Prop) : Prop :=
  onlyB (AV.one a0) (newO (.cells 47 (AV.cells a0).length [AV.cells a0] 0) h fun i0 h1 =>
  newO (.cells 48 6 [[(.v (.int .i64 0)), (.v (.slice none 0 0)), (.v (.int .i64 0)), (.v (.slice none 0 0)), (.v (.string (ByteArray.mk #[]))), (.v (.bool false))]] 0) h1 fun i2 h3 =>
  okV (aLoad Tryd.prog h3 45 (.ptr i0 0 0 0)) fun v4 =>
  okV (aLoad Tryd.prog h3 45 (.ptr i0 0 0 2)) fun v5 =>
  okStr (aLoad Tryd.prog h3 9 (.ptr i0 0 0 4)) fun s6 =>
  okBool (aLoad Tryd.prog h3 4 (.ptr i0 0 0 5)) fun b7 =>
  okV (aBuild Tryd.prog 48 [(0, some v4), (1, some v5), (2, some (.v (.string s6))), (3, some (.v (.bool b7)))]) fun v8 =>
  storeR Tryd.prog h3 (fun v9 h10 =>
  okV (aLoad Tryd.prog h10 48 (.ptr i2 0 0 0)) fun v11 =>
  RetR h K v11 h10) 48 v8 (.ptr i2 0 0 0))
theorem Tryd.c34 (G : Nat → Option AV) (a0 : AV) (h : AH) (K : AV → AH → Prop) (hk : LowH h.length h → Tryd.r34 a0 h K) : SCall Tryd.prog G 34 [a0] h K :=
  scall_of_rwp Tryd.tab34 [] Tryd.func34 rfl Tryd.ntmps34 (by kernel_rfl) (by show 1 ≤ 12; decide) (by kernel_rfl) (by kernel_rfl) hk
-- 35 (skylark/skylarklaw07.Change).ours
def Tryd.r35 (a0 : AV) (h : AH) (K : AV → AH → Prop) : Prop :=
  onlyB (AV.one a0) (newO (.cells 47 (AV.cells a0).length [AV.cells a0] 0) h fun i0 h1 =>
  newO (.cells 50 6 [[(.v (.int .i64 0)), (.v (.slice none 0 0)), (.v (.int .i64 0)), (.v (.slice none 0 0)), (.v (.string (ByteArray.mk #[]))), (.v (.bool false))]] 0) h1 fun i2 h3 =>
  okV (aLoad Tryd.prog h3 45 (.ptr i0 0 0 0)) fun v4 =>
  okV (aLoad Tryd.prog h3 45 (.ptr i0 0 0 2)) fun v5 =>
  okStr (aLoad Tryd.prog h3 9 (.ptr i0 0 0 4)) fun s6 =>
  okBool (aLoad Tryd.prog h3 4 (.ptr i0 0 0 5)) fun b7 =>
  okV (aBuild Tryd.prog 50 [(0, some v4), (1, some v5), (2, some (.v (.string s6))), (3, some (.v (.bool b7)))]) fun v8 =>
  storeR Tryd.prog h3 (fun v9 h10 =>
  okV (aLoad Tryd.prog h10 50 (.ptr i2 0 0 0)) fun v11 =>
  RetR h K v11 h10) 50 v8 (.ptr i2 0 0 0))
theorem Tryd.c35 (G : Nat → Option AV) (a0 : AV) (h : AH) (K : AV → AH → Prop) (hk : LowH h.length h → Tryd.r35 a0 h K) : SCall Tryd.prog G 35 [a0] h K :=
  scall_of_rwp Tryd.tab35 [] Tryd.func35 rfl Tryd.ntmps35 (by kernel_rfl) (by show 1 ≤ 12; decide) (by kernel_rfl) (by kernel_rfl) hk
-- 36 (skylark/layout.Change).Owner
def Tryd.r36_j12 (K : AV → AH → Prop) (h : AH) (G : Nat → Option AV) (a1 : AV) (i7 : Nat) (h11 : AH) : Prop :=
  okV (aLoad Tryd.prog h11 22 (.ptr i7 0 0 1)) fun v12 =>
  okStr (some a1) fun s13 =>
  callR Tryd.prog G 19 [v12, (.v (.string s13))] h11 (fun v14 h15 =>
  okInt .i64 (extV 0 v14) fun n16 =>
  okInt .i64 (extV 1 v14) fun n17 =>
  RetR h K (.tup [(.v (.int .i64 n16)), (.v (.int .i64 n17))]) h15)
def Tryd.r36 (G : Nat → Option AV) (a0 a1 : AV) (h : AH) (K : AV → AH → Prop) : Prop :=
  onlyB (AV.one a0) (newO (.cells 48 (AV.cells a0).length [AV.cells a0] 0) h fun i0 h1 =>
  okV (aLoad Tryd.prog h1 48 (.ptr i0 0 0 0)) fun v2 =>
  callR Tryd.prog G 44 [v2] h1 (fun v3 h4 =>
  okInt .i64 (some v3) fun n5 =>
  condB (n5 != 0)
  (RetR h K (.tup [(.v (.int .i64 0)), (.v (.int .i64 n5))]) h4)
  (okV (aLoad Tryd.prog h4 45 (.ptr i0 0 0 0)) fun v6 =>
  newO (.cells 45 2 [[(.v (.int .i64 0)), (.v (.slice none 0 0))]] 0) h4 fun i7 h8 =>
  storeR Tryd.prog h8 (fun v9 h10 =>
  okBool (aLoad Tryd.prog h10 4 (.ptr i0 0 0 5)) fun b18 =>
  rGq b18 false (some a1) fun b19 v20 =>
  rGq b19 false (some (.ptr i0 0 0 4)) fun b21 v22 =>
  rGq b21 false (aLoad Tryd.prog h10 9 v22) fun b23 v24 =>
  rGq b23 false (aBin Tryd.prog .lss 9 v20 v24) fun b25 v26 =>
  okBool (pickR (some (.v (.bool b25))) (some (.v (.bool true))) (some v26)) fun b27 =>
  condB b27
  (okV (aLoad Tryd.prog h10 45 (.ptr i0 0 0 2)) fun v28 =>
  storeR Tryd.prog h10 (fun v29 h30 =>
  Tryd.r36_j12 K h G a1 i7 h30) 45 v28 (.ptr i7 0 0 0))
  (Tryd.r36_j12 K h G a1 i7 h10)) 45 v6 (.ptr i7 0 0 0))))
theorem Tryd.c36 (G : Nat → Option AV) (a0 a1 : AV) (h : AH) (K : AV → AH → Prop) (hk : LowH h.length h → Tryd.r36 G a0 a1 h K) : SCall Tryd.prog G 36 [a0, a1] h K :=
  scall_of_rwp Tryd.tab36 [] Tryd.func36 rfl Tryd.ntmps36 (by kernel_rfl) (by show 2 ≤ 31; decide) (by kernel_rfl) (by kernel_rfl) hk
-- 37 (skylark/skylarkref07.Change).Owner
def Tryd.r37 (G : Nat → Option AV) (a0 a1 : AV) (h : AH) (K : AV → AH → Prop) : Prop :=
  onlyB (AV.one a0) (newO (.cells 50 (AV.cells a0).length [AV.cells a0] 0) h fun i0 h1 =>
  okV (aLoad Tryd.prog h1 50 (.ptr i0 0 0 0)) fun v2 =>
  callR Tryd.prog G 45 [v2] h1 (fun v3 h4 =>
  okBool (some v3) fun b5 =>
  condB (!b5)
  (RetR h K (.tup [(.v (.int .i64 0)), (.v (.int .i64 70))]) h4)
  (okBool (aLoad Tryd.prog h4 4 (.ptr i0 0 0 5)) fun b6 =>
  rGq b6 false (some a1) fun b7 v8 =>
  rGq b7 false (some (.ptr i0 0 0 4)) fun b9 v10 =>
  rGq b9 false (aLoad Tryd.prog h4 9 v10) fun b11 v12 =>
  rGq b11 false (aBin Tryd.prog .lss 9 v8 v12) fun b13 v14 =>
  okBool (pickR (some (.v (.bool b13))) (some (.v (.bool true))) (some v14)) fun b15 =>
  condB b15
  (okV (aLoad Tryd.prog h4 22 (.ptr i0 0 0 3)) fun v16 =>
  okStr (some a1) fun s17 =>
  callR Tryd.prog G 31 [v16, (.v (.string s17))] h4 (fun v18 h19 =>
  okInt .i64 (extV 0 v18) fun n20 =>
  okInt .i64 (extV 1 v18) fun n21 =>
  RetR h K (.tup [(.v (.int .i64 n20)), (.v (.int .i64 n21))]) h19))
  (okV (aLoad Tryd.prog h4 22 (.ptr i0 0 0 1)) fun v22 =>
  okStr (some a1) fun s23 =>
  callR Tryd.prog G 31 [v22, (.v (.string s23))] h4 (fun v24 h25 =>
  okInt .i64 (extV 0 v24) fun n26 =>
  okInt .i64 (extV 1 v24) fun n27 =>
  RetR h K (.tup [(.v (.int .i64 n26)), (.v (.int .i64 n27))]) h25)))))
theorem Tryd.c37 (G : Nat → Option AV) (a0 a1 : AV) (h : AH) (K : AV → AH → Prop) (hk : LowH h.length h → Tryd.r37 G a0 a1 h K) : SCall Tryd.prog G 37 [a0, a1] h K :=
  scall_of_rwp Tryd.tab37 [] Tryd.func37 rfl Tryd.ntmps37 (by kernel_rfl) (by show 2 ≤ 31; decide) (by kernel_rfl) (by kernel_rfl) hk
-- 38 (skylark/layout.Change).To
def Tryd.r38 (G : Nat → Option AV) (a0 a1 : AV) (h : AH) (K : AV → AH → Prop) : Prop :=
  onlyB (AV.one a0) (newO (.cells 48 (AV.cells a0).length [AV.cells a0] 0) h fun i0 h1 =>
  newO (.cells 48 6 [[(.v (.int .i64 0)), (.v (.slice none 0 0)), (.v (.int .i64 0)), (.v (.slice none 0 0)), (.v (.string (ByteArray.mk #[]))), (.v (.bool false))]] 0) h1 fun i2 h3 =>
  okV (aLoad Tryd.prog h3 48 (.ptr i0 0 0 0)) fun v4 =>
  callR Tryd.prog G 44 [v4] h3 (fun v5 h6 =>
  okInt .i64 (some v5) fun n7 =>
  condB (n7 != 0)
  (storeR Tryd.prog h6 (fun v8 h9 =>
  okV (aLoad Tryd.prog h9 48 (.ptr i2 0 0 0)) fun v10 =>
  RetR h K (.tup [v10, (.v (.int .i64 n7))]) h9) 48 (.agg [(.v (.int .i64 0)), (.v (.slice none 0 0)), (.v (.int .i64 0)), (.v (.slice none 0 0)), (.v (.string (ByteArray.mk #[]))), (.v (.bool false))]) (.ptr i2 0 0 0))
  (okBool (aLoad Tryd.prog h6 4 (.ptr i0 0 0 5)) fun b11 =>
  rGq b11 false (some a1) fun b12 v13 =>
  rGq b12 false (some (.ptr i0 0 0 4)) fun b14 v15 =>
  rGq b14 false (aLoad Tryd.prog h6 9 v15) fun b16 v17 =>
  rGq b16 false (aBin Tryd.prog .lss 9 v13 v17) fun b18 v19 =>
  okBool (pickR (some (.v (.bool b18))) (some (.v (.bool true))) (some v19)) fun b20 =>
  rGq b20 false (some a1) fun b21 v22 =>
  rGq b21 false (aLen Tryd.prog h6 9 v22) fun b23 v24 =>
  rGq b23 false (aBin Tryd.prog .gtr 3 v24 (.v (.int .i64 64))) fun b25 v26 =>
  okBool (pickR (some (.v (.bool b25))) (some (.v (.bool true))) (some v26)) fun b27 =>
  condB b27
  (storeR Tryd.prog h6 (fun v28 h29 =>
  okV (aLoad Tryd.prog h29 48 (.ptr i2 0 0 0)) fun v30 =>
  RetR h K (.tup [v30, (.v (.int .i64 1))]) h29) 48 (.agg [(.v (.int .i64 0)), (.v (.slice none 0 0)), (.v (.int .i64 0)), (.v (.slice none 0 0)), (.v (.string (ByteArray.mk #[]))), (.v (.bool false))]) (.ptr i2 0 0 0))
  (okStr (some a1) fun s31 =>
  storeR Tryd.prog h6 (fun v32 h33 =>
  okV (aLoad Tryd.prog h33 48 (.ptr i0 0 0 0)) fun v34 =>
  storeR Tryd.prog h33 (fun v35 h36 =>
  okV (aLoad Tryd.prog h36 48 (.ptr i2 0 0 0)) fun v37 =>
  RetR h K (.tup [v37, (.v (.int .i64 0))]) h36) 48 v34 (.ptr i2 0 0 0)) 9 (.v (.string s31)) (.ptr i0 0 0 4)))))
theorem Tryd.c38 (G : Nat → Option AV) (a0 a1 : AV) (h : AH) (K : AV → AH → Prop) (hk : LowH h.length h → Tryd.r38 G a0 a1 h K) : SCall Tryd.prog G 38 [a0, a1] h K :=
  scall_of_rwp Tryd.tab38 [] Tryd.func38 rfl Tryd.ntmps38 (by kernel_rfl) (by show 2 ≤ 30; decide) (by kernel_rfl) (by kernel_rfl) hk
-- 39 (skylark/skylarkref07.Change).To
def Tryd.r39 (G : Nat → Option AV) (a0 a1 : AV) (h : AH) (K : AV → AH → Prop) : Prop :=
  onlyB (AV.one a0) (newO (.cells 50 (AV.cells a0).length [AV.cells a0] 0) h fun i0 h1 =>
  newO (.cells 50 6 [[(.v (.int .i64 0)), (.v (.slice none 0 0)), (.v (.int .i64 0)), (.v (.slice none 0 0)), (.v (.string (ByteArray.mk #[]))), (.v (.bool false))]] 0) h1 fun i2 h3 =>
  okV (aLoad Tryd.prog h3 50 (.ptr i0 0 0 0)) fun v4 =>
  callR Tryd.prog G 45 [v4] h3 (fun v5 h6 =>
  okBool (some v5) fun b7 =>
  condB (!b7)
  (storeR Tryd.prog h6 (fun v8 h9 =>
  okV (aLoad Tryd.prog h9 50 (.ptr i2 0 0 0)) fun v10 =>
  RetR h K (.tup [v10, (.v (.int .i64 70))]) h9) 50 (.agg [(.v (.int .i64 0)), (.v (.slice none 0 0)), (.v (.int .i64 0)), (.v (.slice none 0 0)), (.v (.string (ByteArray.mk #[]))), (.v (.bool false))]) (.ptr i2 0 0 0))
  (okBool (aLoad Tryd.prog h6 4 (.ptr i0 0 0 5)) fun b11 =>
  rGq b11 false (some a1) fun b12 v13 =>
  rGq b12 false (some (.ptr i0 0 0 4)) fun b14 v15 =>
  rGq b14 false (aLoad Tryd.prog h6 9 v15) fun b16 v17 =>
  rGq b16 false (aBin Tryd.prog .lss 9 v13 v17) fun b18 v19 =>
  okBool (pickR (some (.v (.bool b18))) (some (.v (.bool true))) (some v19)) fun b20 =>
  rGq b20 false (some a1) fun b21 v22 =>
  rGq b21 false (aLen Tryd.prog h6 9 v22) fun b23 v24 =>
  rGq b23 false (aBin Tryd.prog .gtr 3 v24 (.v (.int .i64 64))) fun b25 v26 =>
  okBool (pickR (some (.v (.bool b25))) (some (.v (.bool true))) (some v26)) fun b27 =>
  condB b27
  (storeR Tryd.prog h6 (fun v28 h29 =>
  okV (aLoad Tryd.prog h29 50 (.ptr i2 0 0 0)) fun v30 =>
  RetR h K (.tup [v30, (.v (.int .i64 1))]) h29) 50 (.agg [(.v (.int .i64 0)), (.v (.slice none 0 0)), (.v (.int .i64 0)), (.v (.slice none 0 0)), (.v (.string (ByteArray.mk #[]))), (.v (.bool false))]) (.ptr i2 0 0 0))
  (okStr (some a1) fun s31 =>
  storeR Tryd.prog h6 (fun v32 h33 =>
  okV (aLoad Tryd.prog h33 50 (.ptr i0 0 0 0)) fun v34 =>
  storeR Tryd.prog h33 (fun v35 h36 =>
  okV (aLoad Tryd.prog h36 50 (.ptr i2 0 0 0)) fun v37 =>
  RetR h K (.tup [v37, (.v (.int .i64 0))]) h36) 50 v34 (.ptr i2 0 0 0)) 9 (.v (.string s31)) (.ptr i0 0 0 4)))))
theorem Tryd.c39 (G : Nat → Option AV) (a0 a1 : AV) (h : AH) (K : AV → AH → Prop) (hk : LowH h.length h → Tryd.r39 G a0 a1 h K) : SCall Tryd.prog G 39 [a0, a1] h K :=
  scall_of_rwp Tryd.tab39 [] Tryd.func39 rfl Tryd.ntmps39 (by kernel_rfl) (by show 2 ≤ 27; decide) (by kernel_rfl) (by kernel_rfl) hk
-- 40 (skylark/layout.Change).End
def Tryd.r40 (G : Nat → Option AV) (a0 : AV) (h : AH) (K : AV → AH → Prop) : Prop :=
  onlyB (AV.one a0) (newO (.cells 48 (AV.cells a0).length [AV.cells a0] 0) h fun i0 h1 =>
  newO (.cells 45 2 [[(.v (.int .i64 0)), (.v (.slice none 0 0))]] 0) h1 fun i2 h3 =>
  okV (aLoad Tryd.prog h3 48 (.ptr i0 0 0 0)) fun v4 =>
  callR Tryd.prog G 44 [v4] h3 (fun v5 h6 =>
  okInt .i64 (some v5) fun n7 =>
  condB (n7 != 0)
  (storeR Tryd.prog h6 (fun v8 h9 =>
  okV (aLoad Tryd.prog h9 45 (.ptr i2 0 0 0)) fun v10 =>
  RetR h K (.tup [v10, (.v (.int .i64 70))]) h9) 45 (.agg [(.v (.int .i64 0)), (.v (.slice none 0 0))]) (.ptr i2 0 0 0))
  (okBool (aLoad Tryd.prog h6 4 (.ptr i0 0 0 5)) fun b11 =>
  condB (!b11)
  (storeR Tryd.prog h6 (fun v12 h13 =>
  okV (aLoad Tryd.prog h13 45 (.ptr i2 0 0 0)) fun v14 =>
  RetR h K (.tup [v14, (.v (.int .i64 1))]) h13) 45 (.agg [(.v (.int .i64 0)), (.v (.slice none 0 0))]) (.ptr i2 0 0 0))
  (okV (aLoad Tryd.prog h6 45 (.ptr i0 0 0 2)) fun v15 =>
  storeR Tryd.prog h6 (fun v16 h17 =>
  okV (aLoad Tryd.prog h17 45 (.ptr i2 0 0 0)) fun v18 =>
  RetR h K (.tup [v18, (.v (.int .i64 0))]) h17) 45 v15 (.ptr i2 0 0 0)))))
theorem Tryd.c40 (G : Nat → Option AV) (a0 : AV) (h : AH) (K : AV → AH → Prop) (hk : LowH h.length h → Tryd.r40 G a0 h K) : SCall Tryd.prog G 40 [a0] h K :=
  scall_of_rwp Tryd.tab40 [] Tryd.func40 rfl Tryd.ntmps40 (by kernel_rfl) (by show 1 ≤ 16; decide) (by kernel_rfl) (by kernel_rfl) hk
-- 41 (skylark/skylarkref07.Change).End
def Tryd.r41 (G : Nat → Option AV) (a0 : AV) (h : AH) (K : AV → AH → Prop) : Prop :=
  onlyB (AV.one a0) (newO (.cells 50 (AV.cells a0).length [AV.cells a0] 0) h fun i0 h1 =>
  newO (.cells 45 2 [[(.v (.int .i64 0)), (.v (.slice none 0 0))]] 0) h1 fun i2 h3 =>
  okV (aLoad Tryd.prog h3 50 (.ptr i0 0 0 0)) fun v4 =>
  callR Tryd.prog G 45 [v4] h3 (fun v5 h6 =>
  okBool (some v5) fun b7 =>
  condB (!b7)
  (storeR Tryd.prog h6 (fun v8 h9 =>
  okV (aLoad Tryd.prog h9 45 (.ptr i2 0 0 0)) fun v10 =>
  RetR h K (.tup [v10, (.v (.int .i64 70))]) h9) 45 (.agg [(.v (.int .i64 0)), (.v (.slice none 0 0))]) (.ptr i2 0 0 0))
  (okBool (aLoad Tryd.prog h6 4 (.ptr i0 0 0 5)) fun b11 =>
  condB (!b11)
  (storeR Tryd.prog h6 (fun v12 h13 =>
  okV (aLoad Tryd.prog h13 45 (.ptr i2 0 0 0)) fun v14 =>
  RetR h K (.tup [v14, (.v (.int .i64 1))]) h13) 45 (.agg [(.v (.int .i64 0)), (.v (.slice none 0 0))]) (.ptr i2 0 0 0))
  (okV (aLoad Tryd.prog h6 45 (.ptr i0 0 0 2)) fun v15 =>
  storeR Tryd.prog h6 (fun v16 h17 =>
  okV (aLoad Tryd.prog h17 45 (.ptr i2 0 0 0)) fun v18 =>
  RetR h K (.tup [v18, (.v (.int .i64 0))]) h17) 45 v15 (.ptr i2 0 0 0)))))
theorem Tryd.c41 (G : Nat → Option AV) (a0 : AV) (h : AH) (K : AV → AH → Prop) (hk : LowH h.length h → Tryd.r41 G a0 h K) : SCall Tryd.prog G 41 [a0] h K :=
  scall_of_rwp Tryd.tab41 [] Tryd.func41 rfl Tryd.ntmps41 (by kernel_rfl) (by show 1 ≤ 14; decide) (by kernel_rfl) (by kernel_rfl) hk
-- 42 skylark/layout.Check
def Tryd.r42 (G : Nat → Option AV) (a0 : AV) (h : AH) (K : AV → AH → Prop) : Prop :=
  onlyB (AV.one a0) (newO (.cells 45 (AV.cells a0).length [AV.cells a0] 0) h fun i0 h1 =>
  okInt .i64 (aLoad Tryd.prog h1 3 (.ptr i0 0 0 0)) fun n2 =>
  rGq (decide (n2 < 1)) false (some (.ptr i0 0 0 0)) fun b3 v4 =>
  rGq b3 false (aLoad Tryd.prog h1 3 v4) fun b5 v6 =>
  rGq b5 false (aBin Tryd.prog .gtr 3 v6 (.v (.int .i64 1073741824))) fun b7 v8 =>
  okBool (pickR (some (.v (.bool b7))) (some (.v (.bool true))) (some v8)) fun b9 =>
  rGq b9 false (some (.ptr i0 0 0 1)) fun b10 v11 =>
  rGq b10 false (aLoad Tryd.prog h1 22 v11) fun b12 v13 =>
  rGe b12 false (fun k14 => callR Tryd.prog G 20 [v13] h1 (fun v15 h16 =>
  k14 v15 h16)) h1 fun b17 v18 h19 =>
  rGq b17 false (aBin Tryd.prog .neq 25 v18 (.v (.int .i64 0))) fun b20 v21 =>
  okBool (pickR (some (.v (.bool b20))) (some (.v (.bool true))) (some v21)) fun b22 =>
  condB b22
  (RetR h K (.v (.int .i64 70)) h19)
  (RetR h K (.v (.int .i64 0)) h19))
theorem Tryd.c42 (G : Nat → Option AV) (a0 : AV) (h : AH) (K : AV → AH → Prop) (hk : LowH h.length h → Tryd.r42 G a0 h K) : SCall Tryd.prog G 42 [a0] h K :=
  scall_of_rwp Tryd.tab42 [] Tryd.func42 rfl Tryd.ntmps42 (by kernel_rfl) (by show 1 ≤ 17; decide) (by kernel_rfl) (by kernel_rfl) hk
-- 43 skylark/skylarkref07.Check
def Tryd.r43 (G : Nat → Option AV) (a0 : AV) (h : AH) (K : AV → AH → Prop) : Prop :=
  onlyB (AV.one a0) (newO (.cells 45 (AV.cells a0).length [AV.cells a0] 0) h fun i0 h1 =>
  okV (aLoad Tryd.prog h1 45 (.ptr i0 0 0 0)) fun v2 =>
  callR Tryd.prog G 85 [v2] h1 (fun v3 h4 =>
  okBool (some v3) fun b5 =>
  condB (!b5)
  (RetR h K (.v (.int .i64 70)) h4)
  (RetR h K (.v (.int .i64 0)) h4)))
theorem Tryd.c43 (G : Nat → Option AV) (a0 : AV) (h : AH) (K : AV → AH → Prop) (hk : LowH h.length h → Tryd.r43 G a0 h K) : SCall Tryd.prog G 43 [a0] h K :=
  scall_of_rwp Tryd.tab43 [] Tryd.func43 rfl Tryd.ntmps43 (by kernel_rfl) (by show 1 ≤ 6; decide) (by kernel_rfl) (by kernel_rfl) hk
-- 44 (skylark/layout.Change).Check
def Tryd.r44 (G : Nat → Option AV) (a0 : AV) (h : AH) (K : AV → AH → Prop) : Prop :=
  onlyB (AV.one a0) (newO (.cells 48 (AV.cells a0).length [AV.cells a0] 0) h fun i0 h1 =>
  okStr (aLoad Tryd.prog h1 9 (.ptr i0 0 0 4)) fun s2 =>
  okBool (aLoad Tryd.prog h1 4 (.ptr i0 0 0 5)) fun b3 =>
  newO (.cells 145 2 [[(.v (.string (ByteArray.mk #[]))), (.v (.bool false))]] 0) h1 fun i4 h5 =>
  storeR Tryd.prog h5 (fun v6 h7 =>
  okV (aLoad Tryd.prog h7 45 (.ptr i0 0 0 0)) fun v8 =>
  callR Tryd.prog G 42 [v8] h7 (fun v9 h10 =>
  okInt .i64 (some v9) fun n11 =>
  rGq (n11 != 0) false (some (.ptr i0 0 0 2)) fun b12 v13 =>
  rGq b12 false (aLoad Tryd.prog h10 45 v13) fun b14 v15 =>
  rGe b14 false (fun k16 => callR Tryd.prog G 42 [v15] h10 (fun v17 h18 =>
  k16 v17 h18)) h10 fun b19 v20 h21 =>
  rGq b19 false (aBin Tryd.prog .neq 25 v20 (.v (.int .i64 0))) fun b22 v23 =>
  okBool (pickR (some (.v (.bool b22))) (some (.v (.bool true))) (some v23)) fun b24 =>
  condB b24
  (RetR h K (.v (.int .i64 70)) h21)
  (okInt .i64 (aLoad Tryd.prog h21 3 (.ptr i0 0 0 2)) fun n25 =>
  okInt .i64 (aLoad Tryd.prog h21 3 (.ptr i0 0 0 0)) fun n26 =>
  rGq (n25 != (IntKind.wrap .i64 (n26 + 1))) false (some (.ptr i0 0 0 2)) fun b27 v28 =>
  rGq b27 false (aFA Tryd.prog 45 1 v28) fun b29 v30 =>
  rGq b29 false (aLoad Tryd.prog h21 22 v30) fun b31 v32 =>
  rGq b31 false (aLen Tryd.prog h21 22 v32) fun b33 v34 =>
  rGq b33 false (some (.ptr i0 0 0 0)) fun b35 v36 =>
  rGq b35 false (aFA Tryd.prog 45 1 v36) fun b37 v38 =>
  rGq b37 false (aLoad Tryd.prog h21 22 v38) fun b39 v40 =>
  rGq b39 false (aLen Tryd.prog h21 22 v40) fun b41 v42 =>
  rGq b41 false (aBin Tryd.prog .lss 3 v34 v42) fun b43 v44 =>
  okBool (pickR (some (.v (.bool b43))) (some (.v (.bool true))) (some v44)) fun b45 =>
  condB b45
  (RetR h K (.v (.int .i64 70)) h21)
  (okStr (aLoad Tryd.prog h21 9 (.ptr i4 0 0 0)) fun s46 =>
  rGq (decide (((ByteArray.size s46 : Nat) : Int) > 64)) false (some (.ptr i4 0 0 1)) fun b47 v48 =>
  rGq b47 false (aLoad Tryd.prog h21 4 v48) fun b49 v50 =>
  rGq b49 false (some v50) fun b51 v52 =>
  okG (some v52) true fun b53 g0 =>
  rGq b53 true (aLoad Tryd.prog h21 145 (.ptr i4 0 0 0)) fun b54 v55 =>
  okG (some (g0 b54)) true fun c1 g2 =>
  rGq c1 true (some (.agg [(.v (.string (ByteArray.mk #[]))), (.v (.bool true))])) fun b56 v57 =>
  okG (some (g2 b56)) true fun c3 g4 =>
  rGq c3 true (aBin Tryd.prog .neq 145 v55 v57) fun b58 v59 =>
  rGq b51 false (pickR (some (g4 b58)) (some v59) (some (.v (.bool false)))) fun b60 v61 =>
  okBool (pickR (some (.v (.bool b60))) (some (.v (.bool true))) (some v61)) fun b62 =>
  condB b62
  (RetR h K (.v (.int .i64 70)) h21)
  (RetR h K (.v (.int .i64 0)) h21))))) 145 (.agg [(.v (.string s2)), (.v (.bool b3))]) (.ptr i4 0 0 0))
theorem Tryd.c44 (G : Nat → Option AV) (a0 : AV) (h : AH) (K : AV → AH → Prop) (hk : LowH h.length h → Tryd.r44 G a0 h K) : SCall Tryd.prog G 44 [a0] h K :=
  scall_of_rwp Tryd.tab44 [] Tryd.func44 rfl Tryd.ntmps44 (by kernel_rfl) (by show 1 ≤ 54; decide) (by kernel_rfl) (by kernel_rfl) hk
-- 45 (skylark/skylarkref07.Change).May
def Tryd.r45 (G : Nat → Option AV) (a0 : AV) (h : AH) (K : AV → AH → Prop) : Prop :=
  onlyB (AV.one a0) (newO (.cells 50 (AV.cells a0).length [AV.cells a0] 0) h fun i0 h1 =>
  okV (aLoad Tryd.prog h1 45 (.ptr i0 0 0 0)) fun v2 =>
  callR Tryd.prog G 85 [v2] h1 (fun v3 h4 =>
  okBool (some v3) fun b5 =>
  rGq b5 true (some (.ptr i0 0 0 2)) fun b6 v7 =>
  rGq b6 true (aLoad Tryd.prog h4 45 v7) fun b8 v9 =>
  rGe b8 true (fun k10 => callR Tryd.prog G 85 [v9] h4 (fun v11 h12 =>
  k10 v11 h12)) h4 fun b13 v14 h15 =>
  okBool (pickR (some (.v (.bool b13))) (some v14) (some (.v (.bool false)))) fun b16 =>
  rGq b16 true (some (.ptr i0 0 0 2)) fun b17 v18 =>
  rGq b17 true (aFA Tryd.prog 45 0 v18) fun b19 v20 =>
  rGq b19 true (aLoad Tryd.prog h15 3 v20) fun b21 v22 =>
  rGq b21 true (some (.ptr i0 0 0 0)) fun b23 v24 =>
  rGq b23 true (aFA Tryd.prog 45 0 v24) fun b25 v26 =>
  rGq b25 true (aLoad Tryd.prog h15 3 v26) fun b27 v28 =>
  rGq b27 true (aBin Tryd.prog .add 3 v28 (.v (.int .i64 1))) fun b29 v30 =>
  rGq b29 true (aBin Tryd.prog .eql 3 v22 v30) fun b31 v32 =>
  okBool (pickR (some (.v (.bool b31))) (some v32) (some (.v (.bool false)))) fun b33 =>
  rGq b33 true (some (.ptr i0 0 0 2)) fun b34 v35 =>
  rGq b34 true (aFA Tryd.prog 45 1 v35) fun b36 v37 =>
  rGq b36 true (aLoad Tryd.prog h15 22 v37) fun b38 v39 =>
  rGq b38 true (aLen Tryd.prog h15 22 v39) fun b40 v41 =>
  rGq b40 true (some (.ptr i0 0 0 0)) fun b42 v43 =>
  rGq b42 true (aFA Tryd.prog 45 1 v43) fun b44 v45 =>
  rGq b44 true (aLoad Tryd.prog h15 22 v45) fun b46 v47 =>
  rGq b46 true (aLen Tryd.prog h15 22 v47) fun b48 v49 =>
  rGq b48 true (aBin Tryd.prog .geq 3 v41 v49) fun b50 v51 =>
  okBool (pickR (some (.v (.bool b50))) (some v51) (some (.v (.bool false)))) fun b52 =>
  rGq b52 true (some (.ptr i0 0 0 4)) fun b53 v54 =>
  rGq b53 true (aLoad Tryd.prog h15 9 v54) fun b55 v56 =>
  rGq b55 true (aLen Tryd.prog h15 9 v56) fun b57 v58 =>
  rGq b57 true (aBin Tryd.prog .leq 3 v58 (.v (.int .i64 64))) fun b59 v60 =>
  okBool (pickR (some (.v (.bool b59))) (some v60) (some (.v (.bool false)))) fun b61 =>
  rGq b61 true (some (.ptr i0 0 0 5)) fun b62 v63 =>
  rGq b62 true (aLoad Tryd.prog h15 4 v63) fun b64 v65 =>
  rGq b64 true (some v65) fun b66 v67 =>
  okG (some v67) true fun b68 g0 =>
  rGq b68 true (some (.ptr i0 0 0 4)) fun b69 v70 =>
  okG (some (g0 b69)) true fun c1 g2 =>
  rGq c1 true (aLoad Tryd.prog h15 9 v70) fun b71 v72 =>
  okG (some (g2 b71)) true fun c3 g4 =>
  rGq c3 true (aBin Tryd.prog .neq 9 v72 (.v (.string (ByteArray.mk #[])))) fun b73 v74 =>
  rGq b66 true (pickR (some (g4 b73)) (some v74) (some (.v (.bool false)))) fun b75 v76 =>
  rGq b75 true (aUn .not v76) fun b77 v78 =>
  okBool (pickR (some (.v (.bool b77))) (some v78) (some (.v (.bool false)))) fun b79 =>
  RetR h K (.v (.bool b79)) h15))
theorem Tryd.c45 (G : Nat → Option AV) (a0 : AV) (h : AH) (K : AV → AH → Prop) (hk : LowH h.length h → Tryd.r45 G a0 h K) : SCall Tryd.prog G 45 [a0] h K :=
  scall_of_rwp Tryd.tab45 [] Tryd.func45 rfl Tryd.ntmps45 (by kernel_rfl) (by show 1 ≤ 48; decide) (by kernel_rfl) (by kernel_rfl) hk
-- 46 skylark/skylarkref07.Equal
def Tryd.r46_l4_21 (K : AV → AH → Prop) (h : AH) (i0 : Nat) (i2 : Nat) (h3 : AH) (n34 : Int) : Prop :=
  ∃ (I21 : Nat → List AV → AH → Prop) (m22 : Nat), I21 m22 [(.v (.int .i64 n34))] h3 ∧ ∀ (m23 : Nat) (h24 : AH), h3.length ≤ h24.length → LowH h24.length h24 → ∀ (n25 : Int), I21 m23 [(.v (.int .i64 n25))] h24 →
  okV (aLoad Tryd.prog h24 22 (.ptr i0 0 0 1)) fun v26 =>
  okInt .i64 (aLen Tryd.prog h24 22 v26) fun n27 =>
  condB (decide (n25 < n27))
  (okV (aLoad Tryd.prog h24 22 (.ptr i0 0 0 1)) fun v28 =>
  okV (aIA Tryd.prog h24 22 v28 (.v (.int .i64 n25))) fun v29 =>
  okInt .i64 (aLoad Tryd.prog h24 3 v29) fun n30 =>
  okV (aLoad Tryd.prog h24 22 (.ptr i2 0 0 1)) fun v31 =>
  okV (aIA Tryd.prog h24 22 v31 (.v (.int .i64 n25))) fun v32 =>
  okInt .i64 (aLoad Tryd.prog h24 3 v32) fun n33 =>
  condB (n30 != n33)
  (RetR h K (.v (.bool false)) h24)
  (nextR h3 I21 m23 [some (.ptr i0 0 0 0), some (.ptr i2 0 0 0)] [some (.ptr i0 0 0 0), some (.ptr i2 0 0 0)] [(.v (.int .i64 (IntKind.wrap .i64 (n25 + 1))))] h24))
  (RetR h K (.v (.bool true)) h24)
def Tryd.r46 (a0 a1 : AV) (h : AH) (K : AV → AH → Prop) : Prop :=
  onlyB (AV.one a0) (newO (.cells 45 (AV.cells a0).length [AV.cells a0] 0) h fun i0 h1 =>
  onlyB (AV.one a1) (newO (.cells 45 (AV.cells a1).length [AV.cells a1] 0) h1 fun i2 h3 =>
  okInt .i64 (aLoad Tryd.prog h3 3 (.ptr i0 0 0 0)) fun n4 =>
  okInt .i64 (aLoad Tryd.prog h3 3 (.ptr i2 0 0 0)) fun n5 =>
  rGq (n4 != n5) false (some (.ptr i0 0 0 1)) fun b6 v7 =>
  rGq b6 false (aLoad Tryd.prog h3 22 v7) fun b8 v9 =>
  rGq b8 false (aLen Tryd.prog h3 22 v9) fun b10 v11 =>
  rGq b10 false (some (.ptr i2 0 0 1)) fun b12 v13 =>
  rGq b12 false (aLoad Tryd.prog h3 22 v13) fun b14 v15 =>
  rGq b14 false (aLen Tryd.prog h3 22 v15) fun b16 v17 =>
  rGq b16 false (aBin Tryd.prog .neq 3 v11 v17) fun b18 v19 =>
  okBool (pickR (some (.v (.bool b18))) (some (.v (.bool true))) (some v19)) fun b20 =>
  condB b20
  (RetR h K (.v (.bool false)) h3)
  (Tryd.r46_l4_21 K h i0 i2 h3 0)))
theorem Tryd.c46 (G : Nat → Option AV) (a0 a1 : AV) (h : AH) (K : AV → AH → Prop) (hk : LowH h.length h → Tryd.r46 a0 a1 h K) : SCall Tryd.prog G 46 [a0, a1] h K :=
  scall_of_rwp Tryd.tab46 [(4, [(5, (.int .i64))], [2, 3])] Tryd.func46 rfl Tryd.ntmps46 (by kernel_rfl) (by show 2 ≤ 38; decide) (by kernel_rfl) (by kernel_rfl) hk
-- 47 skylark/layout.Equal
def Tryd.r47 (G : Nat → Option AV) (a0 a1 : AV) (h : AH) (K : AV → AH → Prop) : Prop :=
  onlyB (AV.one a0) (newO (.cells 45 (AV.cells a0).length [AV.cells a0] 0) h fun i0 h1 =>
  onlyB (AV.one a1) (newO (.cells 45 (AV.cells a1).length [AV.cells a1] 0) h1 fun i2 h3 =>
  okInt .i64 (aLoad Tryd.prog h3 3 (.ptr i0 0 0 0)) fun n4 =>
  okInt .i64 (aLoad Tryd.prog h3 3 (.ptr i2 0 0 0)) fun n5 =>
  rGq (n4 == n5) true (some (.ptr i0 0 0 1)) fun b6 v7 =>
  rGq b6 true (aLoad Tryd.prog h3 22 v7) fun b8 v9 =>
  rGq b8 true (some (.ptr i2 0 0 1)) fun b10 v11 =>
  rGq b10 true (aLoad Tryd.prog h3 22 v11) fun b12 v13 =>
  rGe b12 true (fun k14 => callR Tryd.prog G 86 [v9, v13] h3 (fun v15 h16 =>
  k14 v15 h16)) h3 fun b17 v18 h19 =>
  okBool (pickR (some (.v (.bool b17))) (some v18) (some (.v (.bool false)))) fun b20 =>
  RetR h K (.v (.bool b20)) h19))
theorem Tryd.c47 (G : Nat → Option AV) (a0 a1 : AV) (h : AH) (K : AV → AH → Prop) (hk : LowH h.length h → Tryd.r47 G a0 a1 h K) : SCall Tryd.prog G 47 [a0, a1] h K :=
  scall_of_rwp Tryd.tab47 [] Tryd.func47 rfl Tryd.ntmps47 (by kernel_rfl) (by show 2 ≤ 17; decide) (by kernel_rfl) (by kernel_rfl) hk
-- 48 skylark/skylarklaw07.works
def Tryd.r48 (G : Nat → Option AV) (h : AH) (K : AV → AH → Prop) : Prop :=
  newO (.cells 3 1 [[(.v (.int .i64 1))]] 0) h fun i0 h1 =>
  newO (.cells 3 1 [[(.v (.int .i64 0))], [(.v (.int .i64 1))]] 0) h1 fun i2 h3 =>
  newO (.cells 48 6 [[(.v (.int .i64 0)), (.v (.slice none 0 0)), (.v (.int .i64 0)), (.v (.slice none 0 0)), (.v (.string (ByteArray.mk #[]))), (.v (.bool false))]] 0) h3 fun i4 h5 =>
  storeR Tryd.prog h5 (fun v6 h7 =>
  okV (aLoad Tryd.prog h7 48 (.ptr i4 0 0 0)) fun v8 =>
  callR Tryd.prog G 36 [v8, (.v (.string (ByteArray.mk #[97])))] h7 (fun v9 h10 =>
  okInt .i64 (extV 0 v9) fun n11 =>
  okInt .i64 (extV 1 v9) fun n12 =>
  okV (aLoad Tryd.prog h10 48 (.ptr i4 0 0 0)) fun v13 =>
  callR Tryd.prog G 36 [v13, (.v (.string (ByteArray.mk #[122])))] h10 (fun v14 h15 =>
  okInt .i64 (extV 0 v14) fun n16 =>
  okInt .i64 (extV 1 v14) fun n17 =>
  storeR Tryd.prog h15 (fun v18 h19 =>
  storeR Tryd.prog h19 (fun v20 h21 =>
  okV (aLoad Tryd.prog h21 48 (.ptr i4 0 0 0)) fun v22 =>
  callR Tryd.prog G 40 [v22] h21 (fun v23 h24 =>
  okV (extV 0 v23) fun v25 =>
  okInt .i64 (extV 1 v23) fun n26 =>
  newO (.cells 45 2 [[(.v (.int .i64 0)), (.v (.slice none 0 0))]] 0) h24 fun i27 h28 =>
  storeR Tryd.prog h28 (fun v29 h30 =>
  rGq (n11 == 1) true (some (.v (.int .i64 n12))) fun b31 v32 =>
  rGq b31 true (aBin Tryd.prog .eql 25 v32 (.v (.int .i64 0))) fun b33 v34 =>
  okBool (pickR (some (.v (.bool b33))) (some v34) (some (.v (.bool false)))) fun b35 =>
  rGq b35 true (some (.v (.int .i64 n16))) fun b36 v37 =>
  rGq b36 true (aBin Tryd.prog .eql 3 v37 (.v (.int .i64 0))) fun b38 v39 =>
  okBool (pickR (some (.v (.bool b38))) (some v39) (some (.v (.bool false)))) fun b40 =>
  rGq b40 true (some (.v (.int .i64 n17))) fun b41 v42 =>
  rGq b41 true (aBin Tryd.prog .eql 25 v42 (.v (.int .i64 0))) fun b43 v44 =>
  okBool (pickR (some (.v (.bool b43))) (some v44) (some (.v (.bool false)))) fun b45 =>
  rGq b45 true (some (.v (.int .i64 n26))) fun b46 v47 =>
  rGq b46 true (aBin Tryd.prog .eql 25 v47 (.v (.int .i64 0))) fun b48 v49 =>
  okBool (pickR (some (.v (.bool b48))) (some v49) (some (.v (.bool false)))) fun b50 =>
  rGq b50 true (some (.ptr i27 0 0 0)) fun b51 v52 =>
  rGq b51 true (aLoad Tryd.prog h30 3 v52) fun b53 v54 =>
  rGq b53 true (aBin Tryd.prog .eql 3 v54 (.v (.int .i64 2))) fun b55 v56 =>
  okBool (pickR (some (.v (.bool b55))) (some v56) (some (.v (.bool false)))) fun b57 =>
  rGq b57 true (aLoad Tryd.prog h30 45 (.ptr i27 0 0 0)) fun b58 v59 =>
  rGq b58 true (some (.ptr i4 0 0 2)) fun b60 v61 =>
  rGq b60 true (aLoad Tryd.prog h30 45 v61) fun b62 v63 =>
  rGe b62 true (fun k64 => callR Tryd.prog G 47 [v59, v63] h30 (fun v65 h66 =>
  k64 v65 h66)) h30 fun b67 v68 h69 =>
  okBool (pickR (some (.v (.bool b67))) (some v68) (some (.v (.bool false)))) fun b70 =>
  RetR h K (.v (.bool b70)) h69) 45 v25 (.ptr i27 0 0 0))) 4 (.v (.bool true)) (.ptr i4 0 0 5)) 9 (.v (.string (ByteArray.mk #[]))) (.ptr i4 0 0 4)))) 48 (.agg [(.v (.int .i64 1)), (.sl i0 0 0 1 none), (.v (.int .i64 2)), (.sl i2 0 0 2 none), (.v (.string (ByteArray.mk #[109]))), (.v (.bool false))]) (.ptr i4 0 0 0)
theorem Tryd.c48 (G : Nat → Option AV) (h : AH) (K : AV → AH → Prop) (hk : LowH h.length h → Tryd.r48 G h K) : SCall Tryd.prog G 48 [] h K :=
  scall_of_rwp Tryd.tab48 [] Tryd.func48 rfl Tryd.ntmps48 (by kernel_rfl) (by show 0 ≤ 59; decide) (by kernel_rfl) (by kernel_rfl) hk
-- 77 skylark/ring.made
def Tryd.r77_l9_12 (G : Nat → Option AV) (a0 : AV) (h1 : AH) (n3 : Int) (I4 : Nat → List AV → AH → Prop) (m6 : Nat) (h7 : AH) (n9 : Int) (n11 : Int) (v33 : AV) (n34 : Int) : Prop :=
  ∃ (I12 : Nat → List AV → AH → Prop) (m13 : Nat), I12 m13 [v33, (.v (.int .i64 n34))] h7 ∧ ∀ (m14 : Nat) (h15 : AH), h7.length ≤ h15.length → LowH h15.length h15 → ∀ (v16 : AV) (n17 : Int), I12 m14 [v16, (.v (.int .i64 n17))] h15 →
  condB (decide (n17 < n11))
  (callR Tryd.prog G 114 [(.v (.int .i64 n9))] h15 (fun v18 h19 =>
  okStr (some v18) fun s20 =>
  okStr (aBin Tryd.prog .add 9 (.v (.string s20)) (.v (.string (ByteArray.mk #[46])))) fun s21 =>
  callR Tryd.prog G 114 [(.v (.int .i64 n17))] h19 (fun v22 h23 =>
  okStr (some v22) fun s24 =>
  okStr (aBin Tryd.prog .add 9 (.v (.string s21)) (.v (.string s24))) fun s25 =>
  callR Tryd.prog G 25 [(.v (.string s25))] h23 (fun v26 h27 =>
  okInt .u64 (some v26) fun n28 =>
  newO (.cells 134 3 [[(.v (.int .u64 n28)), (.v (.int .i64 n9)), (.v (.int .i64 n17))]] 0) h27 fun i29 h30 =>
  appR Tryd.prog h30 128 128 v16 (.sl i29 0 0 1 none) (fun v31 h32 =>
  nextR h7 I12 m14 [some (.v (.int .i64 n9)), some a0, some (.v (.int .i64 n3)), some (.v (.int .i64 n9)), some (.v (.int .i64 n11))] [some (.v (.int .i64 n9)), some a0, some (.v (.int .i64 n3)), some (.v (.int .i64 n9)), some (.v (.int .i64 n11))] [v31, (.v (.int .i64 (IntKind.wrap .i64 (n17 + 1))))] h32)))))
  (nextR h1 I4 m6 [some a0, some (.v (.int .i64 n3))] [some a0, some (.v (.int .i64 n3))] [v16, (.v (.int .i64 (IntKind.wrap .i64 (n9 + 1))))] h15)
def Tryd.r77_l6_4 (K : AV → AH → Prop) (h : AH) (G : Nat → Option AV) (a0 : AV) (h1 : AH) (n3 : Int) (v37 : AV) (n38 : Int) : Prop :=
  ∃ (I4 : Nat → List AV → AH → Prop) (m5 : Nat), I4 m5 [v37, (.v (.int .i64 n38))] h1 ∧ ∀ (m6 : Nat) (h7 : AH), h1.length ≤ h7.length → LowH h7.length h7 → ∀ (v8 : AV) (n9 : Int), I4 m6 [v8, (.v (.int .i64 n9))] h7 →
  condB (decide (n9 < n3))
  (okV (aIA Tryd.prog h7 22 a0 (.v (.int .i64 n9))) fun v10 =>
  okInt .i64 (aLoad Tryd.prog h7 3 v10) fun n11 =>
  Tryd.r77_l9_12 G a0 h1 n3 I4 m6 h7 n9 n11 v8 0)
  (callR Tryd.prog G 115 [v8, (.fn (.func 116) [] [])] h7 (fun v35 h36 =>
  RetR h K (.tup [v8, (.v (.int .i64 0))]) h36))
def Tryd.r77 (G : Nat → Option AV) (a0 : AV) (h : AH) (K : AV → AH → Prop) : Prop :=
  callR Tryd.prog G 20 [a0] h (fun v0 h1 =>
  okInt .i64 (some v0) fun n2 =>
  condB (n2 != 0)
  (RetR h K (.tup [(.v (.slice none 0 0)), (.v (.int .i64 n2))]) h1)
  (okInt .i64 (aLen Tryd.prog h1 22 a0) fun n3 =>
  Tryd.r77_l6_4 K h G a0 h1 n3 (.v (.slice none 0 0)) 0))
theorem Tryd.c77 (G : Nat → Option AV) (a0 : AV) (h : AH) (K : AV → AH → Prop) (hk : LowH h.length h → Tryd.r77 G a0 h K) : SCall Tryd.prog G 77 [a0] h K :=
  scall_of_rwp Tryd.tab77 [(6, [(5, .any), (17, (.int .i64))], [15, 16]), (9, [(5, .any), (23, (.int .i64))], [6, 15, 16, 17, 22])] Tryd.func77 rfl Tryd.ntmps77 (by kernel_rfl) (by show 1 ≤ 46; decide) (by kernel_rfl) (by kernel_rfl) hk
-- 78 (skylark/ring.ring).of
def Tryd.r78 (G : Nat → Option AV) (a0 a1 : AV) (h : AH) (K : AV → AH → Prop) : Prop :=
  okStr (some a1) fun s0 =>
  callR Tryd.prog G 25 [(.v (.string s0))] h (fun v1 h2 =>
  okInt .u64 (some v1) fun n3 =>
  callR Tryd.prog G 117 [a0, (.v (.int .u64 n3)), (.fn (.func 118) [] [])] h2 (fun v4 h5 =>
  okInt .i64 (extV 0 v4) fun n6 =>
  okBool (extV 1 v4) fun b7 =>
  okInt .i64 (aLen Tryd.prog h5 128 a0) fun n8 =>
  okInt .i64 (aBin Tryd.prog .rem 3 (.v (.int .i64 n6)) (.v (.int .i64 n8))) fun n9 =>
  okV (aIA Tryd.prog h5 128 a0 (.v (.int .i64 n9))) fun v10 =>
  okV (aFA Tryd.prog 134 1 v10) fun v11 =>
  okInt .i64 (aLoad Tryd.prog h5 3 v11) fun n12 =>
  RetR h K (.v (.int .i64 n12)) h5))
theorem Tryd.c78 (G : Nat → Option AV) (a0 a1 : AV) (h : AH) (K : AV → AH → Prop) (hk : LowH h.length h → Tryd.r78 G a0 a1 h K) : SCall Tryd.prog G 78 [a0, a1] h K :=
  scall_of_rwp Tryd.tab78 [] Tryd.func78 rfl Tryd.ntmps78 (by kernel_rfl) (by show 2 ≤ 24; decide) (by kernel_rfl) (by kernel_rfl) hk
-- 79 slices.Min[[]int,int]
def Tryd.r79_l5_3 (K : AV → AH → Prop) (h : AH) (a0 : AV) (h0 : AH) (n13 : Int) (n14 : Int) : Prop :=
  ∃ (I3 : Nat → List AV → AH → Prop) (m4 : Nat), I3 m4 [(.v (.int .i64 n13)), (.v (.int .i64 n14))] h0 ∧ ∀ (m5 : Nat) (h6 : AH), h0.length ≤ h6.length → LowH h6.length h6 → ∀ (n7 : Int) (n8 : Int), I3 m5 [(.v (.int .i64 n7)), (.v (.int .i64 n8))] h6 →
  okInt .i64 (aLen Tryd.prog h6 22 a0) fun n9 =>
  condB (decide (n8 < n9))
  (okV (aIA Tryd.prog h6 22 a0 (.v (.int .i64 n8))) fun v10 =>
  okInt .i64 (aLoad Tryd.prog h6 3 v10) fun n11 =>
  okInt .i64 (aMinMax false [some (.v (.int .i64 n7)), some (.v (.int .i64 n11))]) fun n12 =>
  nextR h0 I3 m5 [some a0] [some a0] [(.v (.int .i64 n12)), (.v (.int .i64 (IntKind.wrap .i64 (n8 + 1))))] h6)
  (RetR h K (.v (.int .i64 n7)) h6)
def Tryd.r79_j1 (h : AH) (K : AV → AH → Prop) (a0 : AV) (h0 : AH) : Prop :=
  okV (aIA Tryd.prog h0 22 a0 (.v (.int .i64 0))) fun v1 =>
  okInt .i64 (aLoad Tryd.prog h0 3 v1) fun n2 =>
  Tryd.r79_l5_3 K h a0 h0 n2 1
def Tryd.r79 (a0 : AV) (h : AH) (K : AV → AH → Prop) : Prop :=
  okInt .i64 (aLen Tryd.prog h 22 a0) fun n15 =>
  condB (decide (n15 < 1))
  (okV (aMkI Tryd.prog 9 (.v (.string (ByteArray.mk #[115, 108, 105, 99, 101, 115, 46, 77, 105, 110, 58, 32, 101, 109, 112, 116, 121, 32, 108, 105, 115, 116])))) fun v16 =>
  False)
  (Tryd.r79_j1 h K a0 h)
theorem Tryd.c79 (G : Nat → Option AV) (a0 : AV) (h : AH) (K : AV → AH → Prop) (hk : LowH h.length h → Tryd.r79 a0 h K) : SCall Tryd.prog G 79 [a0] h K :=
  scall_of_rwp Tryd.tab79 [(5, [(3, (.int .i64)), (4, (.int .i64))], [0])] Tryd.func79 rfl Tryd.ntmps79 (by kernel_rfl) (by show 1 ≤ 25; decide) (by kernel_rfl) (by kernel_rfl) hk
-- 80 slices.Max[[]int,int]
def Tryd.r80_l5_3 (K : AV → AH → Prop) (h : AH) (a0 : AV) (h0 : AH) (n13 : Int) (n14 : Int) : Prop :=
  ∃ (I3 : Nat → List AV → AH → Prop) (m4 : Nat), I3 m4 [(.v (.int .i64 n13)), (.v (.int .i64 n14))] h0 ∧ ∀ (m5 : Nat) (h6 : AH), h0.length ≤ h6.length → LowH h6.length h6 → ∀ (n7 : Int) (n8 : Int), I3 m5 [(.v (.int .i64 n7)), (.v (.int .i64 n8))] h6 →
  okInt .i64 (aLen Tryd.prog h6 22 a0) fun n9 =>
  condB (decide (n8 < n9))
  (okV (aIA Tryd.prog h6 22 a0 (.v (.int .i64 n8))) fun v10 =>
  okInt .i64 (aLoad Tryd.prog h6 3 v10) fun n11 =>
  okInt .i64 (aMinMax true [some (.v (.int .i64 n7)), some (.v (.int .i64 n11))]) fun n12 =>
  nextR h0 I3 m5 [some a0] [some a0] [(.v (.int .i64 n12)), (.v (.int .i64 (IntKind.wrap .i64 (n8 + 1))))] h6)
  (RetR h K (.v (.int .i64 n7)) h6)
def Tryd.r80_j1 (h : AH) (K : AV → AH → Prop) (a0 : AV) (h0 : AH) : Prop :=
  okV (aIA Tryd.prog h0 22 a0 (.v (.int .i64 0))) fun v1 =>
  okInt .i64 (aLoad Tryd.prog h0 3 v1) fun n2 =>
  Tryd.r80_l5_3 K h a0 h0 n2 1
def Tryd.r80 (a0 : AV) (h : AH) (K : AV → AH → Prop) : Prop :=
  okInt .i64 (aLen Tryd.prog h 22 a0) fun n15 =>
  condB (decide (n15 < 1))
  (okV (aMkI Tryd.prog 9 (.v (.string (ByteArray.mk #[115, 108, 105, 99, 101, 115, 46, 77, 97, 120, 58, 32, 101, 109, 112, 116, 121, 32, 108, 105, 115, 116])))) fun v16 =>
  False)
  (Tryd.r80_j1 h K a0 h)
theorem Tryd.c80 (G : Nat → Option AV) (a0 : AV) (h : AH) (K : AV → AH → Prop) (hk : LowH h.length h → Tryd.r80 a0 h K) : SCall Tryd.prog G 80 [a0] h K :=
  scall_of_rwp Tryd.tab80 [(5, [(3, (.int .i64)), (4, (.int .i64))], [0])] Tryd.func80 rfl Tryd.ntmps80 (by kernel_rfl) (by show 1 ≤ 25; decide) (by kernel_rfl) (by kernel_rfl) hk
-- 81 skylark/skylarkref06.May
def Tryd.r81_l5_8 (K : AV → AH → Prop) (h : AH) (a0 : AV) (b39 : Bool) (n40 : Int) : Prop :=
  ∃ (I8 : Nat → List AV → AH → Prop) (m9 : Nat), I8 m9 [(.v (.bool b39)), (.v (.int .i64 n40))] h ∧ ∀ (m10 : Nat) (h11 : AH), h.length ≤ h11.length → LowH h11.length h11 → ∀ (b12 : Bool) (n13 : Int), I8 m10 [(.v (.bool b12)), (.v (.int .i64 n13))] h11 →
  okInt .i64 (aLen Tryd.prog h11 22 a0) fun n14 =>
  condB (decide (n13 < n14))
  (okV (aIA Tryd.prog h11 22 a0 (.v (.int .i64 n13))) fun v15 =>
  okInt .i64 (aLoad Tryd.prog h11 3 v15) fun n16 =>
  rGq (decide (n16 < 0)) false (some a0) fun b17 v18 =>
  rGq b17 false (some (.v (.int .i64 n13))) fun b19 v20 =>
  rGq b19 false (aIA Tryd.prog h11 22 v18 v20) fun b21 v22 =>
  rGq b21 false (aLoad Tryd.prog h11 3 v22) fun b23 v24 =>
  rGq b23 false (aBin Tryd.prog .gtr 3 v24 (.v (.int .i64 128))) fun b25 v26 =>
  okBool (pickR (some (.v (.bool b25))) (some (.v (.bool true))) (some v26)) fun b27 =>
  condB b27
  (RetR h K (.v (.bool false)) h11)
  (rGq b12 false (some a0) fun b28 v29 =>
  rGq b28 false (some (.v (.int .i64 n13))) fun b30 v31 =>
  rGq b30 false (aIA Tryd.prog h11 22 v29 v31) fun b32 v33 =>
  rGq b32 false (aLoad Tryd.prog h11 3 v33) fun b34 v35 =>
  rGq b34 false (aBin Tryd.prog .gtr 3 v35 (.v (.int .i64 0))) fun b36 v37 =>
  okBool (pickR (some (.v (.bool b36))) (some (.v (.bool true))) (some v37)) fun b38 =>
  nextR h I8 m10 [some a0] [some a0] [(.v (.bool b38)), (.v (.int .i64 (IntKind.wrap .i64 (n13 + 1))))] h11))
  (RetR h K (.v (.bool b12)) h11)
def Tryd.r81 (a0 : AV) (h : AH) (K : AV → AH → Prop) : Prop :=
  okInt .i64 (aLen Tryd.prog h 22 a0) fun n0 =>
  rGq (decide (n0 < 1)) false (some a0) fun b1 v2 =>
  rGq b1 false (aLen Tryd.prog h 22 v2) fun b3 v4 =>
  rGq b3 false (aBin Tryd.prog .gtr 3 v4 (.v (.int .i64 8))) fun b5 v6 =>
  okBool (pickR (some (.v (.bool b5))) (some (.v (.bool true))) (some v6)) fun b7 =>
  condB b7
  (RetR h K (.v (.bool false)) h)
  (Tryd.r81_l5_8 K h a0 false 0)
theorem Tryd.c81 (G : Nat → Option AV) (a0 : AV) (h : AH) (K : AV → AH → Prop) (hk : LowH h.length h → Tryd.r81 a0 h K) : SCall Tryd.prog G 81 [a0] h K :=
  scall_of_rwp Tryd.tab81 [(5, [(3, .bool), (4, (.int .i64))], [0])] Tryd.func81 rfl Tryd.ntmps81 (by kernel_rfl) (by show 1 ≤ 40; decide) (by kernel_rfl) (by kernel_rfl) hk
-- 82 skylark/skylarkref06.All
def Tryd.r82_l10_30 (a0 : AV) (h3 : AH) (n5 : Int) (I7 : Nat → List AV → AH → Prop) (m9 : Nat) (v11 : AV) (n12 : Int) (i26 : Nat) (h29 : AH) (n65 : Int) : Prop :=
  ∃ (I30 : Nat → List AV → AH → Prop) (m31 : Nat), I30 m31 [(.v (.int .i64 n65))] h29 ∧ ∀ (m32 : Nat) (h33 : AH), h29.length ≤ h33.length → LowH h33.length h33 → ∀ (n34 : Int), I30 m32 [(.v (.int .i64 n34))] h33 →
  okInt .i64 (aLen Tryd.prog h33 136 v11) fun n35 =>
  rGq (decide (n34 < n35)) true (some v11) fun b36 v37 =>
  rGq b36 true (some (.v (.int .i64 n34))) fun b38 v39 =>
  rGq b38 true (aIA Tryd.prog h33 136 v37 v39) fun b40 v41 =>
  rGq b40 true (aFA Tryd.prog 139 0 v41) fun b42 v43 =>
  rGq b42 true (aLoad Tryd.prog h33 35 v43) fun b44 v45 =>
  rGq b44 true (some (.ptr i26 0 0 0)) fun b46 v47 =>
  rGq b46 true (aLoad Tryd.prog h33 35 v47) fun b48 v49 =>
  rGq b48 true (aBin Tryd.prog .leq 35 v45 v49) fun b50 v51 =>
  okBool (pickR (some (.v (.bool b50))) (some v51) (some (.v (.bool false)))) fun b52 =>
  condB b52
  (nextR h29 I30 m32 [some a0, some v11, some (.v (.int .i64 n5)), some (.v (.int .i64 n12)), some (.ptr i26 0 0 0)] [some a0, some v11, some (.v (.int .i64 n5)), some (.v (.int .i64 n12)), some (.ptr i26 0 0 0)] [(.v (.int .i64 (IntKind.wrap .i64 (n34 + 1))))] h33)
  (okV (aSlice Tryd.prog h33 136 v11 none (some (some (.v (.int .i64 n34)))) none) fun v53 =>
  appR Tryd.prog h33 136 136 (.v (.slice none 0 0)) v53 (fun v54 h55 =>
  okV (aLoad Tryd.prog h55 139 (.ptr i26 0 0 0)) fun v56 =>
  okP (rowsFill 2 (List.replicate 1 [(.v (.int .u64 0)), (.v (.int .i64 0))]) [(0, some v56)]) fun r57 => newO (.cells 139 2 r57 0) h55 fun i58 h59 =>
  appR Tryd.prog h59 136 136 v54 (.sl i58 0 0 1 none) (fun v60 h61 =>
  okV (aSlice Tryd.prog h61 136 v11 (some (some (.v (.int .i64 n34)))) none none) fun v62 =>
  appR Tryd.prog h61 136 136 v60 v62 (fun v63 h64 =>
  nextR h3 I7 m9 [some a0, some (.v (.int .i64 n5))] [some a0, some (.v (.int .i64 n5))] [v63, (.v (.int .i64 (IntKind.wrap .i64 (n12 + 1))))] h64))))
def Tryd.r82_l6_7 (h : AH) (G : Nat → Option AV) (a0 : AV) (I0 : Nat → List AV → AH → Prop) (m2 : Nat) (h3 : AH) (n5 : Int) (v66 : AV) (n67 : Int) : Prop :=
  ∃ (I7 : Nat → List AV → AH → Prop) (m8 : Nat), I7 m8 [v66, (.v (.int .i64 n67))] h3 ∧ ∀ (m9 : Nat) (h10 : AH), h3.length ≤ h10.length → LowH h10.length h10 → ∀ (v11 : AV) (n12 : Int), I7 m9 [v11, (.v (.int .i64 n12))] h10 →
  okV (aIA Tryd.prog h10 22 a0 (.v (.int .i64 n5))) fun v13 =>
  okInt .i64 (aLoad Tryd.prog h10 3 v13) fun n14 =>
  condB (decide (n12 < n14))
  (callR Tryd.prog G 120 [(.v (.int .i64 n5))] h10 (fun v15 h16 =>
  okStr (some v15) fun s17 =>
  okStr (aBin Tryd.prog .add 9 (.v (.string s17)) (.v (.string (ByteArray.mk #[46])))) fun s18 =>
  callR Tryd.prog G 120 [(.v (.int .i64 n12))] h16 (fun v19 h20 =>
  okStr (some v19) fun s21 =>
  okStr (aBin Tryd.prog .add 9 (.v (.string s18)) (.v (.string s21))) fun s22 =>
  callR Tryd.prog G 26 [(.v (.string s22))] h20 (fun v23 h24 =>
  okInt .u64 (some v23) fun n25 =>
  newO (.cells 139 2 [[(.v (.int .u64 0)), (.v (.int .i64 0))]] 0) h24 fun i26 h27 =>
  storeR Tryd.prog h27 (fun v28 h29 =>
  Tryd.r82_l10_30 a0 h3 n5 I7 m9 v11 n12 i26 h29 0) 139 (.agg [(.v (.int .u64 n25)), (.v (.int .i64 n5))]) (.ptr i26 0 0 0)))))
  (nextR h I0 m2 [some a0] [some a0] [v11, (.v (.int .i64 (IntKind.wrap .i64 (n5 + 1))))] h10)
def Tryd.r82_l3_0 (K : AV → AH → Prop) (h : AH) (G : Nat → Option AV) (a0 : AV) (v68 : AV) (n69 : Int) : Prop :=
  ∃ (I0 : Nat → List AV → AH → Prop) (m1 : Nat), I0 m1 [v68, (.v (.int .i64 n69))] h ∧ ∀ (m2 : Nat) (h3 : AH), h.length ≤ h3.length → LowH h3.length h3 → ∀ (v4 : AV) (n5 : Int), I0 m2 [v4, (.v (.int .i64 n5))] h3 →
  okInt .i64 (aLen Tryd.prog h3 22 a0) fun n6 =>
  condB (decide (n5 < n6))
  (Tryd.r82_l6_7 h G a0 I0 m2 h3 n5 v4 0)
  (RetR h K v4 h3)
def Tryd.r82 (G : Nat → Option AV) (a0 : AV) (h : AH) (K : AV → AH → Prop) : Prop :=
  Tryd.r82_l3_0 K h G a0 (.v (.slice none 0 0)) 0
theorem Tryd.c82 (G : Nat → Option AV) (a0 : AV) (h : AH) (K : AV → AH → Prop) (hk : LowH h.length h → Tryd.r82 G a0 h K) : SCall Tryd.prog G 82 [a0] h K :=
  scall_of_rwp Tryd.tab82 [(3, [(3, .any), (4, (.int .i64))], [0]), (6, [(3, .any), (5, (.int .i64))], [0, 4]), (10, [(7, (.int .i64))], [0, 3, 4, 5, 6])] Tryd.func82 rfl Tryd.ntmps82 (by kernel_rfl) (by show 1 ≤ 63; decide) (by kernel_rfl) (by kernel_rfl) hk
-- 83 cmp.Or[skylark/api.Errno]
def Tryd.r83_l3_1 (K : AV → AH → Prop) (h : AH) (a0 : AV) (n0 : Int) (n8 : Int) : Prop :=
  ∃ (I1 : Nat → List AV → AH → Prop) (m2 : Nat), I1 m2 [(.v (.int .i64 n8))] h ∧ ∀ (m3 : Nat) (h4 : AH), h.length ≤ h4.length → LowH h4.length h4 → ∀ (n5 : Int), I1 m3 [(.v (.int .i64 n5))] h4 →
  condB (decide (n5 < n0))
  (okV (aIA Tryd.prog h4 212 a0 (.v (.int .i64 n5))) fun v6 =>
  okInt .i64 (aLoad Tryd.prog h4 25 v6) fun n7 =>
  condB (n7 != 0)
  (RetR h K (.v (.int .i64 n7)) h4)
  (nextR h I1 m3 [some (.v (.int .i64 0)), some a0, some (.v (.int .i64 n0))] [some (.v (.int .i64 0)), some a0, some (.v (.int .i64 n0))] [(.v (.int .i64 (IntKind.wrap .i64 (n5 + 1))))] h4))
  (RetR h K (.v (.int .i64 0)) h4)
def Tryd.r83 (a0 : AV) (h : AH) (K : AV → AH → Prop) : Prop :=
  okInt .i64 (aLen Tryd.prog h 212 a0) fun n0 =>
  Tryd.r83_l3_1 K h a0 n0 0
theorem Tryd.c83 (G : Nat → Option AV) (a0 : AV) (h : AH) (K : AV → AH → Prop) (hk : LowH h.length h → Tryd.r83 a0 h K) : SCall Tryd.prog G 83 [a0] h K :=
  scall_of_rwp Tryd.tab83 [(3, [(8, (.int .i64))], [3, 6, 7])] Tryd.func83 rfl Tryd.ntmps83 (by kernel_rfl) (by show 1 ≤ 18; decide) (by kernel_rfl) (by kernel_rfl) hk
-- 84 skylark/skylarkref06.find
def Tryd.r84_l3_4 (K : AV → AH → Prop) (h : AH) (a0 : AV) (h2 : AH) (n3 : Int) (n19 : Int) : Prop :=
  ∃ (I4 : Nat → List AV → AH → Prop) (m5 : Nat), I4 m5 [(.v (.int .i64 n19))] h2 ∧ ∀ (m6 : Nat) (h7 : AH), h2.length ≤ h7.length → LowH h7.length h7 → ∀ (n8 : Int), I4 m6 [(.v (.int .i64 n8))] h7 →
  okInt .i64 (aLen Tryd.prog h7 136 a0) fun n9 =>
  condB (decide (n8 < n9))
  (okV (aIA Tryd.prog h7 136 a0 (.v (.int .i64 n8))) fun v10 =>
  okV (aFA Tryd.prog 139 0 v10) fun v11 =>
  okInt .u64 (aLoad Tryd.prog h7 35 v11) fun n12 =>
  condB (decide (n12 ≥ n3))
  (okV (aIA Tryd.prog h7 136 a0 (.v (.int .i64 n8))) fun v13 =>
  okV (aFA Tryd.prog 139 1 v13) fun v14 =>
  okInt .i64 (aLoad Tryd.prog h7 3 v14) fun n15 =>
  RetR h K (.v (.int .i64 n15)) h7)
  (nextR h2 I4 m6 [some a0, some (.v (.int .u64 n3))] [some a0, some (.v (.int .u64 n3))] [(.v (.int .i64 (IntKind.wrap .i64 (n8 + 1))))] h7))
  (okV (aIA Tryd.prog h7 136 a0 (.v (.int .i64 0))) fun v16 =>
  okV (aFA Tryd.prog 139 1 v16) fun v17 =>
  okInt .i64 (aLoad Tryd.prog h7 3 v17) fun n18 =>
  RetR h K (.v (.int .i64 n18)) h7)
def Tryd.r84 (G : Nat → Option AV) (a0 a1 : AV) (h : AH) (K : AV → AH → Prop) : Prop :=
  okStr (some a1) fun s0 =>
  callR Tryd.prog G 26 [(.v (.string s0))] h (fun v1 h2 =>
  okInt .u64 (some v1) fun n3 =>
  Tryd.r84_l3_4 K h a0 h2 n3 0)
theorem Tryd.c84 (G : Nat → Option AV) (a0 a1 : AV) (h : AH) (K : AV → AH → Prop) (hk : LowH h.length h → Tryd.r84 G a0 a1 h K) : SCall Tryd.prog G 84 [a0, a1] h K :=
  scall_of_rwp Tryd.tab84 [(3, [(6, (.int .i64))], [0, 5])] Tryd.func84 rfl Tryd.ntmps84 (by kernel_rfl) (by show 2 ≤ 31; decide) (by kernel_rfl) (by kernel_rfl) hk
-- 85 skylark/skylarkref07.May
def Tryd.r85 (G : Nat → Option AV) (a0 : AV) (h : AH) (K : AV → AH → Prop) : Prop :=
  onlyB (AV.one a0) (newO (.cells 45 (AV.cells a0).length [AV.cells a0] 0) h fun i0 h1 =>
  okInt .i64 (aLoad Tryd.prog h1 3 (.ptr i0 0 0 0)) fun n2 =>
  rGq (decide (n2 ≥ 1)) true (some (.ptr i0 0 0 0)) fun b3 v4 =>
  rGq b3 true (aLoad Tryd.prog h1 3 v4) fun b5 v6 =>
  rGq b5 true (aBin Tryd.prog .leq 3 v6 (.v (.int .i64 1073741824))) fun b7 v8 =>
  okBool (pickR (some (.v (.bool b7))) (some v8) (some (.v (.bool false)))) fun b9 =>
  rGq b9 true (some (.ptr i0 0 0 1)) fun b10 v11 =>
  rGq b10 true (aLoad Tryd.prog h1 22 v11) fun b12 v13 =>
  rGe b12 true (fun k14 => callR Tryd.prog G 81 [v13] h1 (fun v15 h16 =>
  k14 v15 h16)) h1 fun b17 v18 h19 =>
  okBool (pickR (some (.v (.bool b17))) (some v18) (some (.v (.bool false)))) fun b20 =>
  RetR h K (.v (.bool b20)) h19)
theorem Tryd.c85 (G : Nat → Option AV) (a0 : AV) (h : AH) (K : AV → AH → Prop) (hk : LowH h.length h → Tryd.r85 G a0 h K) : SCall Tryd.prog G 85 [a0] h K :=
  scall_of_rwp Tryd.tab85 [] Tryd.func85 rfl Tryd.ntmps85 (by kernel_rfl) (by show 1 ≤ 16; decide) (by kernel_rfl) (by kernel_rfl) hk
-- 86 slices.Equal[[]int,int]
def Tryd.r86_l4_3 (K : AV → AH → Prop) (h : AH) (a0 : AV) (a1 : AV) (n2 : Int) (n12 : Int) : Prop :=
  ∃ (I3 : Nat → List AV → AH → Prop) (m4 : Nat), I3 m4 [(.v (.int .i64 n12))] h ∧ ∀ (m5 : Nat) (h6 : AH), h.length ≤ h6.length → LowH h6.length h6 → ∀ (n7 : Int), I3 m5 [(.v (.int .i64 n7))] h6 →
  condB (decide (n7 < n2))
  (okV (aIA Tryd.prog h6 22 a0 (.v (.int .i64 n7))) fun v8 =>
  okInt .i64 (aLoad Tryd.prog h6 3 v8) fun n9 =>
  okV (aIA Tryd.prog h6 22 a1 (.v (.int .i64 n7))) fun v10 =>
  okInt .i64 (aLoad Tryd.prog h6 3 v10) fun n11 =>
  condB (n9 != n11)
  (RetR h K (.v (.bool false)) h6)
  (nextR h I3 m5 [some a0, some a1, some (.v (.int .i64 n2))] [some a0, some a1, some (.v (.int .i64 n2))] [(.v (.int .i64 (IntKind.wrap .i64 (n7 + 1))))] h6))
  (RetR h K (.v (.bool true)) h6)
def Tryd.r86 (a0 a1 : AV) (h : AH) (K : AV → AH → Prop) : Prop :=
  okInt .i64 (aLen Tryd.prog h 22 a0) fun n0 =>
  okInt .i64 (aLen Tryd.prog h 22 a1) fun n1 =>
  condB (n0 != n1)
  (RetR h K (.v (.bool false)) h)
  (okInt .i64 (aLen Tryd.prog h 22 a0) fun n2 =>
  Tryd.r86_l4_3 K h a0 a1 n2 0)
theorem Tryd.c86 (G : Nat → Option AV) (a0 a1 : AV) (h : AH) (K : AV → AH → Prop) (hk : LowH h.length h → Tryd.r86 a0 a1 h K) : SCall Tryd.prog G 86 [a0, a1] h K :=
  scall_of_rwp Tryd.tab86 [(4, [(13, (.int .i64))], [0, 1, 12])] Tryd.func86 rfl Tryd.ntmps86 (by kernel_rfl) (by show 2 ≤ 26; decide) (by kernel_rfl) (by kernel_rfl) hk
-- 90 slices.Clone[[]int,int]
def Tryd.r90 (a0 : AV) (h : AH) (K : AV → AH → Prop) : Prop :=
  binR Tryd.prog h (fun v0 h1 =>
  okBool (some v0) fun b2 =>
  condB b2
  (RetR h K (.v (.slice none 0 0)) h1)
  (newO (.cells 3 1 [] 0) h1 fun i3 h4 =>
  appR Tryd.prog h4 22 22 (.sl i3 0 0 0 none) a0 (fun v5 h6 =>
  RetR h K v5 h6))) .eql 22 a0 (.v (.slice none 0 0))
theorem Tryd.c90 (G : Nat → Option AV) (a0 : AV) (h : AH) (K : AV → AH → Prop) (hk : LowH h.length h → Tryd.r90 a0 h K) : SCall Tryd.prog G 90 [a0] h K :=
  scall_of_rwp Tryd.tab90 [] Tryd.func90 rfl Tryd.ntmps90 (by kernel_rfl) (by show 1 ≤ 8; decide) (by kernel_rfl) (by kernel_rfl) hk
-- 115 (skylark/ring.ring).sort
def Tryd.r115 (G : Nat → Option AV) (a0 a1 : AV) (h : AH) (K : AV → AH → Prop) : Prop :=
  callR Tryd.prog G 153 [a0, a1] h (fun v0 h1 =>
  RetR h K (.tup []) h1)
theorem Tryd.c115 (G : Nat → Option AV) (a0 a1 : AV) (h : AH) (K : AV → AH → Prop) (hk : LowH h.length h → Tryd.r115 G a0 a1 h K) : SCall Tryd.prog G 115 [a0, a1] h K :=
  scall_of_rwp Tryd.tab115 [] Tryd.func115 rfl Tryd.ntmps115 (by kernel_rfl) (by show 2 ≤ 7; decide) (by kernel_rfl) (by kernel_rfl) hk
-- 116 (skylark/ring.point).compare
def Tryd.r116 (G : Nat → Option AV) (a0 a1 : AV) (h : AH) (K : AV → AH → Prop) : Prop :=
  onlyB (AV.one a0) (newO (.cells 134 (AV.cells a0).length [AV.cells a0] 0) h fun i0 h1 =>
  onlyB (AV.one a1) (newO (.cells 134 (AV.cells a1).length [AV.cells a1] 0) h1 fun i2 h3 =>
  okInt .u64 (aLoad Tryd.prog h3 35 (.ptr i0 0 0 0)) fun n4 =>
  okInt .u64 (aLoad Tryd.prog h3 35 (.ptr i2 0 0 0)) fun n5 =>
  okInt .i64 (aLoad Tryd.prog h3 3 (.ptr i0 0 0 1)) fun n6 =>
  okInt .i64 (aLoad Tryd.prog h3 3 (.ptr i2 0 0 1)) fun n7 =>
  okInt .i64 (aLoad Tryd.prog h3 3 (.ptr i0 0 0 2)) fun n8 =>
  okInt .i64 (aLoad Tryd.prog h3 3 (.ptr i2 0 0 2)) fun n9 =>
  callR Tryd.prog G 119 [(.v (.int .u64 n4)), (.v (.int .u64 n5))] h3 (fun v10 h11 =>
  okInt .i64 (some v10) fun n12 =>
  (aLoad Tryd.prog h11 3 (.ptr i2 0 0 2) = some (.v (.int .i64 n9))) ∧ (aLoad Tryd.prog h11 3 (.ptr i0 0 0 2) = some (.v (.int .i64 n8))) ∧ (aLoad Tryd.prog h11 3 (.ptr i2 0 0 1) = some (.v (.int .i64 n7))) ∧ (aLoad Tryd.prog h11 3 (.ptr i0 0 0 1) = some (.v (.int .i64 n6))) ∧ callR Tryd.prog G 154 [(.v (.int .i64 n6)), (.v (.int .i64 n7))] h11 (fun v13 h14 =>
  okInt .i64 (some v13) fun n15 =>
  (aLoad Tryd.prog h14 3 (.ptr i2 0 0 2) = some (.v (.int .i64 n9))) ∧ (aLoad Tryd.prog h14 3 (.ptr i0 0 0 2) = some (.v (.int .i64 n8))) ∧ callR Tryd.prog G 154 [(.v (.int .i64 n8)), (.v (.int .i64 n9))] h14 (fun v16 h17 =>
  okInt .i64 (some v16) fun n18 =>
  newO (.cells 3 1 [[(.v (.int .i64 n12))], [(.v (.int .i64 n15))], [(.v (.int .i64 n18))]] 0) h17 fun i19 h20 =>
  callR Tryd.prog G 146 [(.sl i19 0 0 3 none)] h20 (fun v21 h22 =>
  okInt .i64 (some v21) fun n23 =>
  RetR h K (.v (.int .i64 n23)) h22))))))
theorem Tryd.c116 (G : Nat → Option AV) (a0 a1 : AV) (h : AH) (K : AV → AH → Prop) (hk : LowH h.length h → Tryd.r116 G a0 a1 h K) : SCall Tryd.prog G 116 [a0, a1] h K :=
  scall_of_rwp Tryd.tab116 [] Tryd.func116 rfl Tryd.ntmps116 (by kernel_rfl) (by show 2 ≤ 22; decide) (by kernel_rfl) (by kernel_rfl) hk
-- 117 slices.BinarySearchFunc[skylark/ring.ring,skylark/ring.point,uint64]
def Tryd.r117_l3_1 (K : AV → AH → Prop) (h : AH) (G : Nat → Option AV) (a0 : AV) (a1 : AV) (a2 : AV) (n0 : Int) (n35 : Int) (n36 : Int) : Prop :=
  ∃ (I1 : Nat → List AV → AH → Prop) (m2 : Nat), I1 m2 [(.v (.int .i64 n35)), (.v (.int .i64 n36))] h ∧ ∀ (m3 : Nat) (h4 : AH), h.length ≤ h4.length → LowH h4.length h4 → ∀ (n5 : Int) (n6 : Int), I1 m3 [(.v (.int .i64 n5)), (.v (.int .i64 n6))] h4 →
  condB (decide (n5 < n6))
  (okInt .u64 (aBin Tryd.prog .shr 140 (.v (.int .u64 (IntKind.wrap .u64 (IntKind.wrap .i64 (n5 + n6))))) (.v (.int .u64 1))) fun n7 =>
  okV (aIA Tryd.prog h4 128 a0 (.v (.int .i64 (IntKind.wrap .i64 n7)))) fun v8 =>
  okV (aLoad Tryd.prog h4 134 v8) fun v9 =>
  okInt .u64 (some a1) fun n10 =>
  callU Tryd.prog G h4 (fun v11 h12 =>
  okInt .i64 (some v11) fun n13 =>
  condB (decide (n13 < 0))
  (nextR h I1 m3 [some a0, some a1, some a2, some (.v (.int .i64 n0))] [some a0, some a1, some a2, some (.v (.int .i64 n0))] [(.v (.int .i64 (IntKind.wrap .i64 ((IntKind.wrap .i64 n7) + 1)))), (.v (.int .i64 n6))] h12)
  (nextR h I1 m3 [some a0, some a1, some a2, some (.v (.int .i64 n0))] [some a0, some a1, some a2, some (.v (.int .i64 n0))] [(.v (.int .i64 n5)), (.v (.int .i64 (IntKind.wrap .i64 n7)))] h12)) [v9, (.v (.int .u64 n10))] a2)
  (rGq (decide (n5 < n0)) true (some a2) fun b14 v15 =>
  rGq b14 true (some a0) fun b16 v17 =>
  rGq b16 true (some (.v (.int .i64 n5))) fun b18 v19 =>
  rGq b18 true (aIA Tryd.prog h4 128 v17 v19) fun b20 v21 =>
  rGq b20 true (aLoad Tryd.prog h4 134 v21) fun b22 v23 =>
  rGq b22 true (some a1) fun b24 v25 =>
  rGe b24 true (fun k26 => callU Tryd.prog G h4 (fun v27 h28 =>
  k26 v27 h28) [v23, v25] v15) h4 fun b29 v30 h31 =>
  rGq b29 true (aBin Tryd.prog .eql 3 v30 (.v (.int .i64 0))) fun b32 v33 =>
  okBool (pickR (some (.v (.bool b32))) (some v33) (some (.v (.bool false)))) fun b34 =>
  RetR h K (.tup [(.v (.int .i64 n5)), (.v (.bool b34))]) h31)
def Tryd.r117 (G : Nat → Option AV) (a0 a1 a2 : AV) (h : AH) (K : AV → AH → Prop) : Prop :=
  okInt .i64 (aLen Tryd.prog h 128 a0) fun n0 =>
  Tryd.r117_l3_1 K h G a0 a1 a2 n0 0 n0
theorem Tryd.c117 (G : Nat → Option AV) (a0 a1 a2 : AV) (h : AH) (K : AV → AH → Prop) (hk : LowH h.length h → Tryd.r117 G a0 a1 a2 h K) : SCall Tryd.prog G 117 [a0, a1, a2] h K :=
  scall_of_rwp Tryd.tab117 [(3, [(9, (.int .i64)), (10, (.int .i64))], [0, 1, 2, 8])] Tryd.func117 rfl Tryd.ntmps117 (by kernel_rfl) (by show 3 ≤ 49; decide) (by kernel_rfl) (by kernel_rfl) hk
-- 118 (skylark/ring.ring).of$1
def Tryd.r118 (G : Nat → Option AV) (a0 a1 : AV) (h : AH) (K : AV → AH → Prop) : Prop :=
  onlyB (AV.one a0) (newO (.cells 134 (AV.cells a0).length [AV.cells a0] 0) h fun i0 h1 =>
  okInt .u64 (aLoad Tryd.prog h1 35 (.ptr i0 0 0 0)) fun n2 =>
  okInt .u64 (some a1) fun n3 =>
  callR Tryd.prog G 119 [(.v (.int .u64 n2)), (.v (.int .u64 n3))] h1 (fun v4 h5 =>
  okInt .i64 (some v4) fun n6 =>
  RetR h K (.v (.int .i64 n6)) h5))
theorem Tryd.c118 (G : Nat → Option AV) (a0 a1 : AV) (h : AH) (K : AV → AH → Prop) (hk : LowH h.length h → Tryd.r118 G a0 a1 h K) : SCall Tryd.prog G 118 [a0, a1] h K :=
  scall_of_rwp Tryd.tab118 [] Tryd.func118 rfl Tryd.ntmps118 (by kernel_rfl) (by show 2 ≤ 9; decide) (by kernel_rfl) (by kernel_rfl) hk
-- 119 cmp.Compare[uint64]
def Tryd.r119 (G : Nat → Option AV) (a0 a1 : AV) (h : AH) (K : AV → AH → Prop) : Prop :=
  okInt .u64 (some a0) fun n0 =>
  callR Tryd.prog G 155 [(.v (.int .u64 n0))] h (fun v1 h2 =>
  okBool (some v1) fun b3 =>
  okInt .u64 (some a1) fun n4 =>
  callR Tryd.prog G 155 [(.v (.int .u64 n4))] h2 (fun v5 h6 =>
  okBool (some v5) fun b7 =>
  condB b3
  (condB b7
  (RetR h K (.v (.int .i64 0)) h6)
  (RetR h K (.v (.int .i64 (-1))) h6))
  (condB b7
  (RetR h K (.v (.int .i64 1)) h6)
  (okInt .u64 (some a0) fun n8 =>
  okInt .u64 (some a1) fun n9 =>
  condB (decide (n8 < n9))
  (RetR h K (.v (.int .i64 (-1))) h6)
  (okInt .u64 (some a0) fun n10 =>
  okInt .u64 (some a1) fun n11 =>
  condB (decide (n10 > n11))
  (RetR h K (.v (.int .i64 1)) h6)
  (RetR h K (.v (.int .i64 0)) h6))))))
theorem Tryd.c119 (G : Nat → Option AV) (a0 a1 : AV) (h : AH) (K : AV → AH → Prop) (hk : LowH h.length h → Tryd.r119 G a0 a1 h K) : SCall Tryd.prog G 119 [a0, a1] h K :=
  scall_of_rwp Tryd.tab119 [] Tryd.func119 rfl Tryd.ntmps119 (by kernel_rfl) (by show 2 ≤ 20; decide) (by kernel_rfl) (by kernel_rfl) hk
-- 120 skylark/skylarkref06.Digits
def Tryd.r120_l2_1 (h : AH) (K : AV → AH → Prop) (n11 : Int) (s12 : ByteArray) : Prop :=
  ∃ (I1 : Nat → List AV → AH → Prop) (m2 : Nat), I1 m2 [(.v (.int .i64 n11)), (.v (.string s12))] h ∧ ∀ (m3 : Nat) (h4 : AH), h.length ≤ h4.length → LowH h4.length h4 → ∀ (n5 : Int) (s6 : ByteArray), I1 m3 [(.v (.int .i64 n5)), (.v (.string s6))] h4 →
  newO (.cells 5 1 [[(.v (.int .u8 (IntKind.wrap .u8 (IntKind.wrap .i64 (48 + (Int.tmod n5 10))))))]] 0) h4 fun i7 h8 =>
  okStr (aConv Tryd.prog h8 227 9 (.sl i7 0 0 1 none)) fun s9 =>
  okStr (aBin Tryd.prog .add 9 (.v (.string s9)) (.v (.string s6))) fun s10 =>
  condB ((IntKind.wrap .i64 (Int.tdiv n5 10)) == 0)
  (RetR h K (.v (.string s10)) h8)
  (nextR h I1 m3 [] [] [(.v (.int .i64 (IntKind.wrap .i64 (Int.tdiv n5 10)))), (.v (.string s10))] h8)
def Tryd.r120 (a0 : AV) (h : AH) (K : AV → AH → Prop) : Prop :=
  okInt .i64 (some a0) fun n0 =>
  Tryd.r120_l2_1 h K n0 (ByteArray.mk #[])
theorem Tryd.c120 (G : Nat → Option AV) (a0 : AV) (h : AH) (K : AV → AH → Prop) (hk : LowH h.length h → Tryd.r120 a0 h K) : SCall Tryd.prog G 120 [a0] h K :=
  scall_of_rwp Tryd.tab120 [(2, [(0, (.int .i64)), (3, .str)], [])] Tryd.func120 rfl Tryd.ntmps120 (by kernel_rfl) (by show 1 ≤ 17; decide) (by kernel_rfl) (by kernel_rfl) hk
-- 146 cmp.Or[int]
def Tryd.r146_l3_1 (K : AV → AH → Prop) (h : AH) (a0 : AV) (n0 : Int) (n8 : Int) : Prop :=
  ∃ (I1 : Nat → List AV → AH → Prop) (m2 : Nat), I1 m2 [(.v (.int .i64 n8))] h ∧ ∀ (m3 : Nat) (h4 : AH), h.length ≤ h4.length → LowH h4.length h4 → ∀ (n5 : Int), I1 m3 [(.v (.int .i64 n5))] h4 →
  condB (decide (n5 < n0))
  (okV (aIA Tryd.prog h4 22 a0 (.v (.int .i64 n5))) fun v6 =>
  okInt .i64 (aLoad Tryd.prog h4 3 v6) fun n7 =>
  condB (n7 != 0)
  (RetR h K (.v (.int .i64 n7)) h4)
  (nextR h I1 m3 [some (.v (.int .i64 0)), some a0, some (.v (.int .i64 n0))] [some (.v (.int .i64 0)), some a0, some (.v (.int .i64 n0))] [(.v (.int .i64 (IntKind.wrap .i64 (n5 + 1))))] h4))
  (RetR h K (.v (.int .i64 0)) h4)
def Tryd.r146 (a0 : AV) (h : AH) (K : AV → AH → Prop) : Prop :=
  okInt .i64 (aLen Tryd.prog h 22 a0) fun n0 =>
  Tryd.r146_l3_1 K h a0 n0 0
theorem Tryd.c146 (G : Nat → Option AV) (a0 : AV) (h : AH) (K : AV → AH → Prop) (hk : LowH h.length h → Tryd.r146 a0 h K) : SCall Tryd.prog G 146 [a0] h K :=
  scall_of_rwp Tryd.tab146 [(3, [(8, (.int .i64))], [3, 6, 7])] Tryd.func146 rfl Tryd.ntmps146 (by kernel_rfl) (by show 1 ≤ 18; decide) (by kernel_rfl) (by kernel_rfl) hk
-- 153 slices.SortFunc[skylark/ring.ring,skylark/ring.point]
def Tryd.r153 (G : Nat → Option AV) (a0 a1 : AV) (h : AH) (K : AV → AH → Prop) : Prop :=
  okInt .i64 (aLen Tryd.prog h 128 a0) fun n0 =>
  callR Tryd.prog G 177 [(.v (.int .u64 (IntKind.wrap .u64 n0)))] h (fun v1 h2 =>
  okInt .i64 (some v1) fun n3 =>
  callR Tryd.prog G 176 [a0, (.v (.int .i64 0)), (.v (.int .i64 n0)), (.v (.int .i64 n3)), a1] h2 (fun v4 h5 =>
  RetR h K (.tup []) h5))
theorem Tryd.c153 (G : Nat → Option AV) (a0 a1 : AV) (h : AH) (K : AV → AH → Prop) (hk : LowH h.length h → Tryd.r153 G a0 a1 h K) : SCall Tryd.prog G 153 [a0, a1] h K :=
  scall_of_rwp Tryd.tab153 [] Tryd.func153 rfl Tryd.ntmps153 (by kernel_rfl) (by show 2 ≤ 14; decide) (by kernel_rfl) (by kernel_rfl) hk
-- 154 cmp.Compare[int]
def Tryd.r154 (G : Nat → Option AV) (a0 a1 : AV) (h : AH) (K : AV → AH → Prop) : Prop :=
  okInt .i64 (some a0) fun n0 =>
  callR Tryd.prog G 178 [(.v (.int .i64 n0))] h (fun v1 h2 =>
  okBool (some v1) fun b3 =>
  okInt .i64 (some a1) fun n4 =>
  callR Tryd.prog G 178 [(.v (.int .i64 n4))] h2 (fun v5 h6 =>
  okBool (some v5) fun b7 =>
  condB b3
  (condB b7
  (RetR h K (.v (.int .i64 0)) h6)
  (RetR h K (.v (.int .i64 (-1))) h6))
  (condB b7
  (RetR h K (.v (.int .i64 1)) h6)
  (okInt .i64 (some a0) fun n8 =>
  okInt .i64 (some a1) fun n9 =>
  condB (decide (n8 < n9))
  (RetR h K (.v (.int .i64 (-1))) h6)
  (okInt .i64 (some a0) fun n10 =>
  okInt .i64 (some a1) fun n11 =>
  condB (decide (n10 > n11))
  (RetR h K (.v (.int .i64 1)) h6)
  (RetR h K (.v (.int .i64 0)) h6))))))
theorem Tryd.c154 (G : Nat → Option AV) (a0 a1 : AV) (h : AH) (K : AV → AH → Prop) (hk : LowH h.length h → Tryd.r154 G a0 a1 h K) : SCall Tryd.prog G 154 [a0, a1] h K :=
  scall_of_rwp Tryd.tab154 [] Tryd.func154 rfl Tryd.ntmps154 (by kernel_rfl) (by show 2 ≤ 20; decide) (by kernel_rfl) (by kernel_rfl) hk
-- 155 cmp.isNaN[uint64]
def Tryd.r155 (a0 : AV) (h : AH) (K : AV → AH → Prop) : Prop :=
  okInt .u64 (some a0) fun n0 =>
  okInt .u64 (some a0) fun n1 =>
  RetR h K (.v (.bool (n0 != n1))) h
theorem Tryd.c155 (G : Nat → Option AV) (a0 : AV) (h : AH) (K : AV → AH → Prop) (hk : LowH h.length h → Tryd.r155 a0 h K) : SCall Tryd.prog G 155 [a0] h K :=
  scall_of_rwp Tryd.tab155 [] Tryd.func155 rfl Tryd.ntmps155 (by kernel_rfl) (by show 1 ≤ 6; decide) (by kernel_rfl) (by kernel_rfl) hk
-- 164 slices.ContainsFunc[[]int,int]
def Tryd.r164 (G : Nat → Option AV) (a0 a1 : AV) (h : AH) (K : AV → AH → Prop) : Prop :=
  callR Tryd.prog G 179 [a0, a1] h (fun v0 h1 =>
  okInt .i64 (some v0) fun n2 =>
  RetR h K (.v (.bool (decide (n2 ≥ 0)))) h1)
theorem Tryd.c164 (G : Nat → Option AV) (a0 a1 : AV) (h : AH) (K : AV → AH → Prop) (hk : LowH h.length h → Tryd.r164 G a0 a1 h K) : SCall Tryd.prog G 164 [a0, a1] h K :=
  scall_of_rwp Tryd.tab164 [] Tryd.func164 rfl Tryd.ntmps164 (by kernel_rfl) (by show 2 ≤ 9; decide) (by kernel_rfl) (by kernel_rfl) hk
-- 166 slices.Contains[[]int,int]
def Tryd.r166 (G : Nat → Option AV) (a0 a1 : AV) (h : AH) (K : AV → AH → Prop) : Prop :=
  okInt .i64 (some a1) fun n0 =>
  callR Tryd.prog G 180 [a0, (.v (.int .i64 n0))] h (fun v1 h2 =>
  okInt .i64 (some v1) fun n3 =>
  RetR h K (.v (.bool (decide (n3 ≥ 0)))) h2)
theorem Tryd.c166 (G : Nat → Option AV) (a0 a1 : AV) (h : AH) (K : AV → AH → Prop) (hk : LowH h.length h → Tryd.r166 G a0 a1 h K) : SCall Tryd.prog G 166 [a0, a1] h K :=
  scall_of_rwp Tryd.tab166 [] Tryd.func166 rfl Tryd.ntmps166 (by kernel_rfl) (by show 2 ≤ 9; decide) (by kernel_rfl) (by kernel_rfl) hk
-- 178 cmp.isNaN[int]
def Tryd.r178 (a0 : AV) (h : AH) (K : AV → AH → Prop) : Prop :=
  okInt .i64 (some a0) fun n0 =>
  okInt .i64 (some a0) fun n1 =>
  RetR h K (.v (.bool (n0 != n1))) h
theorem Tryd.c178 (G : Nat → Option AV) (a0 : AV) (h : AH) (K : AV → AH → Prop) (hk : LowH h.length h → Tryd.r178 a0 h K) : SCall Tryd.prog G 178 [a0] h K :=
  scall_of_rwp Tryd.tab178 [] Tryd.func178 rfl Tryd.ntmps178 (by kernel_rfl) (by show 1 ≤ 6; decide) (by kernel_rfl) (by kernel_rfl) hk
-- 179 slices.IndexFunc[[]int,int]
def Tryd.r179_l2_1 (K : AV → AH → Prop) (h : AH) (G : Nat → Option AV) (a0 : AV) (a1 : AV) (n0 : Int) (n11 : Int) : Prop :=
  ∃ (I1 : Nat → List AV → AH → Prop) (m2 : Nat), I1 m2 [(.v (.int .i64 n11))] h ∧ ∀ (m3 : Nat) (h4 : AH), h.length ≤ h4.length → LowH h4.length h4 → ∀ (n5 : Int), I1 m3 [(.v (.int .i64 n5))] h4 →
  condB (decide (n5 < n0))
  (okV (aIA Tryd.prog h4 22 a0 (.v (.int .i64 n5))) fun v6 =>
  okInt .i64 (aLoad Tryd.prog h4 3 v6) fun n7 =>
  callU Tryd.prog G h4 (fun v8 h9 =>
  okBool (some v8) fun b10 =>
  condB b10
  (RetR h K (.v (.int .i64 n5)) h9)
  (nextR h I1 m3 [some a0, some a1, some (.v (.int .i64 n0))] [some a0, some a1, some (.v (.int .i64 n0))] [(.v (.int .i64 (IntKind.wrap .i64 (n5 + 1))))] h9)) [(.v (.int .i64 n7))] a1)
  (RetR h K (.v (.int .i64 (-1))) h4)
def Tryd.r179 (G : Nat → Option AV) (a0 a1 : AV) (h : AH) (K : AV → AH → Prop) : Prop :=
  okInt .i64 (aLen Tryd.prog h 22 a0) fun n0 =>
  Tryd.r179_l2_1 K h G a0 a1 n0 0
theorem Tryd.c179 (G : Nat → Option AV) (a0 a1 : AV) (h : AH) (K : AV → AH → Prop) (hk : LowH h.length h → Tryd.r179 G a0 a1 h K) : SCall Tryd.prog G 179 [a0, a1] h K :=
  scall_of_rwp Tryd.tab179 [(2, [(8, (.int .i64))], [0, 1, 7])] Tryd.func179 rfl Tryd.ntmps179 (by kernel_rfl) (by show 2 ≤ 19; decide) (by kernel_rfl) (by kernel_rfl) hk
-- 180 slices.Index[[]int,int]
def Tryd.r180_l2_1 (K : AV → AH → Prop) (h : AH) (a0 : AV) (a1 : AV) (n0 : Int) (n9 : Int) : Prop :=
  ∃ (I1 : Nat → List AV → AH → Prop) (m2 : Nat), I1 m2 [(.v (.int .i64 n9))] h ∧ ∀ (m3 : Nat) (h4 : AH), h.length ≤ h4.length → LowH h4.length h4 → ∀ (n5 : Int), I1 m3 [(.v (.int .i64 n5))] h4 →
  condB (decide (n5 < n0))
  (okInt .i64 (some a1) fun n6 =>
  okV (aIA Tryd.prog h4 22 a0 (.v (.int .i64 n5))) fun v7 =>
  okInt .i64 (aLoad Tryd.prog h4 3 v7) fun n8 =>
  condB (n6 == n8)
  (RetR h K (.v (.int .i64 n5)) h4)
  (nextR h I1 m3 [some a0, some a1, some (.v (.int .i64 n0))] [some a0, some a1, some (.v (.int .i64 n0))] [(.v (.int .i64 (IntKind.wrap .i64 (n5 + 1))))] h4))
  (RetR h K (.v (.int .i64 (-1))) h4)
def Tryd.r180 (a0 a1 : AV) (h : AH) (K : AV → AH → Prop) : Prop :=
  okInt .i64 (aLen Tryd.prog h 22 a0) fun n0 =>
  Tryd.r180_l2_1 K h a0 a1 n0 0
theorem Tryd.c180 (G : Nat → Option AV) (a0 a1 : AV) (h : AH) (K : AV → AH → Prop) (hk : LowH h.length h → Tryd.r180 a0 a1 h K) : SCall Tryd.prog G 180 [a0, a1] h K :=
  scall_of_rwp Tryd.tab180 [(2, [(8, (.int .i64))], [0, 1, 7])] Tryd.func180 rfl Tryd.ntmps180 (by kernel_rfl) (by show 2 ≤ 19; decide) (by kernel_rfl) (by kernel_rfl) hk
end Go.Proofs


