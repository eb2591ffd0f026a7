/-
  Of each function its body as a plain statement, and that a call follows from it: printed by wip/gen/Res.lean.
-/
import Derived.Test.YtbkehjgnaogcdaaDoorFn
import Derived.Test.YtbkehjgnaogcdaaDoorAbH
import Derived.KernelRfl
set_option linter.all false
namespace Go.Proofs
open Go Go.Abs
set_option linter.unusedVariables false
set_option maxRecDepth 100000
-- 3 skylark/skylarklaw06.RingLight
def Tryd.r3_l4_3 (K : AV → AH → Prop) (h : AH) (G : Nat → Option AV) (a0 : AV) (a1 : AV) (h1 : AH) (n48 : Int) : Prop :=
  ∃ (I3 : Nat → List AV → AH → Prop) (m4 : Nat), I3 m4 [(.v (.int .i64 n48))] h1 ∧ ∀ (m5 : Nat) (h6 : AH), h1.length ≤ h6.length → LowH h6.length h6 → ∀ (n7 : Int), I3 m5 [(.v (.int .i64 n7))] h6 →
  okInt .i64 (aLen Tryd.prog h6 23 a1) fun n8 =>
  rGq (decide (n7 < n8)) true (some (.v (.int .i64 n7))) fun b9 v10 =>
  rGq b9 true (aBin Tryd.prog .lss 3 v10 (.v (.int .i64 40))) fun b11 v12 =>
  okBool (pickR (some (.v (.bool b11))) (some v12) (some (.v (.bool false)))) fun b13 =>
  condB b13
  (okV (aIA Tryd.prog h6 23 a1 (.v (.int .i64 n7))) fun v14 =>
  okStr (aLoad Tryd.prog h6 9 v14) fun s15 =>
  callR Tryd.prog G 19 [a0, (.v (.string s15))] h6 (fun v16 h17 =>
  okInt .i64 (extV 0 v16) fun n18 =>
  okInt .i64 (extV 1 v16) fun n19 =>
  condB (n19 != 0)
  (callR Tryd.prog G 20 [a0] h17 (fun v20 h21 =>
  okInt .i64 (some v20) fun n22 =>
  rGq (n22 == 1) true (some (.v (.int .i64 n18))) fun b23 v24 =>
  rGq b23 true (aBin Tryd.prog .eql 3 v24 (.v (.int .i64 0))) fun b25 v26 =>
  okBool (pickR (some (.v (.bool b25))) (some v26) (some (.v (.bool false)))) fun b27 =>
  RetR h K (.v (.bool b27)) h21))
  (rGq (decide (n18 < 0)) false (some (.v (.int .i64 n18))) fun b28 v29 =>
  rGq b28 false (some a0) fun b30 v31 =>
  rGq b30 false (aLen Tryd.prog h17 22 v31) fun b32 v33 =>
  rGq b32 false (aBin Tryd.prog .geq 3 v29 v33) fun b34 v35 =>
  okBool (pickR (some (.v (.bool b34))) (some (.v (.bool true))) (some v35)) fun b36 =>
  rGq b36 false (some a0) fun b37 v38 =>
  rGq b37 false (some (.v (.int .i64 n18))) fun b39 v40 =>
  rGq b39 false (aIA Tryd.prog h17 22 v38 v40) fun b41 v42 =>
  rGq b41 false (aLoad Tryd.prog h17 3 v42) fun b43 v44 =>
  rGq b43 false (aBin Tryd.prog .lss 3 v44 (.v (.int .i64 1))) fun b45 v46 =>
  okBool (pickR (some (.v (.bool b45))) (some (.v (.bool true))) (some v46)) fun b47 =>
  condB b47
  (RetR h K (.v (.bool false)) h17)
  (nextR h1 I3 m5 [some a0, some a1] [some a0, some a1] [(.v (.int .i64 (IntKind.wrap .i64 (n7 + 1))))] h17))))
  (RetR h K (.v (.bool true)) h6)
def Tryd.r3 (G : Nat → Option AV) (a0 a1 : AV) (h : AH) (K : AV → AH → Prop) : Prop :=
  callR Tryd.prog G 18 [] h (fun v0 h1 =>
  okBool (some v0) fun b2 =>
  condB (!b2)
  (RetR h K (.v (.bool false)) h1)
  (Tryd.r3_l4_3 K h G a0 a1 h1 0))
theorem Tryd.c3 (G : Nat → Option AV) (a0 a1 : AV) (h : AH) (K : AV → AH → Prop) (hk : LowH h.length h → Tryd.r3 G a0 a1 h K) : SCall Tryd.prog G 3 [a0, a1] h K :=
  scall_of_rwp Tryd.tab3 [(4, [(5, (.int .i64))], [0, 1])] Tryd.func3 rfl Tryd.ntmps3 (by kernel_rfl) (by show 2 ≤ 53; decide) (by kernel_rfl) (by kernel_rfl) hk
-- 4 skylark/skylarklaw06.RingPoints
def Tryd.r4_l7_34 (K : AV → AH → Prop) (h : AH) (G : Nat → Option AV) (a0 : AV) (a1 : AV) (v0 : AV) (v4 : AV) (v9 : AV) (h23 : AH) (n89 : Int) : Prop :=
  ∃ (I34 : Nat → List AV → AH → Prop) (m35 : Nat), I34 m35 [(.v (.int .i64 n89))] h23 ∧ ∀ (m36 : Nat) (h37 : AH), h23.length ≤ h37.length → LowH h37.length h37 → ∀ (n38 : Int), I34 m36 [(.v (.int .i64 n38))] h37 →
  okInt .i64 (aLen Tryd.prog h37 31 v4) fun n39 =>
  condB (decide (n38 < n39))
  (okV (aIA Tryd.prog h37 31 v4 (.v (.int .i64 n38))) fun v40 =>
  okInt .u64 (aLoad Tryd.prog h37 35 v40) fun n41 =>
  okV (aIA Tryd.prog h37 31 v9 (.v (.int .i64 n38))) fun v42 =>
  okInt .u64 (aLoad Tryd.prog h37 35 v42) fun n43 =>
  condB (n41 != n43)
  (RetR h K (.v (.bool false)) h37)
  (nextR h23 I34 m36 [some a0, some a1, some v0, some v4, some v9] [some a0, some a1, some v0, some v4, some v9] [(.v (.int .i64 (IntKind.wrap .i64 (n38 + 1))))] h37))
  (okStr (some a1) fun s44 =>
  callR Tryd.prog G 25 [(.v (.string s44))] h37 (fun v45 h46 =>
  okInt .u64 (some v45) fun n47 =>
  okStr (some a1) fun s48 =>
  callR Tryd.prog G 26 [(.v (.string s48))] h46 (fun v49 h50 =>
  okInt .u64 (some v49) fun n51 =>
  rGq (n47 == n51) true (some v0) fun b52 v53 =>
  rGe b52 true (fun k54 => callR Tryd.prog G 20 [v53] h50 (fun v55 h56 =>
  k54 v55 h56)) h50 fun b57 v58 h59 =>
  rGq b57 true (some a0) fun b60 v61 =>
  rGe b60 true (fun k62 => callR Tryd.prog G 27 [v61] h59 (fun v63 h64 =>
  k62 v63 h64)) h59 fun b65 v66 h67 =>
  rGq b65 true (aBin Tryd.prog .eql 25 v58 v66) fun b68 v69 =>
  okBool (pickR (some (.v (.bool b68))) (some v69) (some (.v (.bool false)))) fun b70 =>
  rGq b70 true (some v0) fun b71 v72 =>
  rGq b71 true (some a0) fun b73 v74 =>
  rGe b73 true (fun k75 => callR Tryd.prog G 28 [v72, v74] h67 (fun v76 h77 =>
  k75 v76 h77)) h67 fun b78 v79 h80 =>
  okBool (pickR (some (.v (.bool b78))) (some v79) (some (.v (.bool false)))) fun b81 =>
  rGe b81 true (fun k82 => callR Tryd.prog G 18 [] h80 (fun v83 h84 =>
  k82 v83 h84)) h80 fun b85 v86 h87 =>
  okBool (pickR (some (.v (.bool b85))) (some v86) (some (.v (.bool false)))) fun b88 =>
  RetR h K (.v (.bool b88)) h87)))
def Tryd.r4 (G : Nat → Option AV) (a0 a1 : AV) (h : AH) (K : AV → AH → Prop) : Prop :=
  callR Tryd.prog G 21 [a0] h (fun v0 h1 =>
  callR Tryd.prog G 22 [v0] h1 (fun v2 h3 =>
  okV (extV 0 v2) fun v4 =>
  okV (extV 1 v2) fun v5 =>
  okInt .i64 (extV 2 v2) fun n6 =>
  callR Tryd.prog G 23 [a0] h3 (fun v7 h8 =>
  okV (extV 0 v7) fun v9 =>
  okV (extV 1 v7) fun v10 =>
  okInt .i64 (extV 2 v7) fun n11 =>
  okInt .i64 (aLen Tryd.prog h8 31 v4) fun n12 =>
  okInt .i64 (aLen Tryd.prog h8 31 v9) fun n13 =>
  rGq (n12 != n13) false (some v5) fun b14 v15 =>
  rGq b14 false (some v10) fun b16 v17 =>
  rGe b16 false (fun k18 => callR Tryd.prog G 24 [v15, v17] h8 (fun v19 h20 =>
  k18 v19 h20)) h8 fun b21 v22 h23 =>
  rGq b21 false (aUn .not v22) fun b24 v25 =>
  okBool (pickR (some (.v (.bool b24))) (some (.v (.bool true))) (some v25)) fun b26 =>
  rGq b26 false (some (.v (.int .i64 n6))) fun b27 v28 =>
  rGq b27 false (some (.v (.int .i64 n11))) fun b29 v30 =>
  rGq b29 false (aBin Tryd.prog .neq 25 v28 v30) fun b31 v32 =>
  okBool (pickR (some (.v (.bool b31))) (some (.v (.bool true))) (some v32)) fun b33 =>
  condB b33
  (RetR h K (.v (.bool false)) h23)
  (Tryd.r4_l7_34 K h G a0 a1 v0 v4 v9 h23 0))))
theorem Tryd.c4 (G : Nat → Option AV) (a0 a1 : AV) (h : AH) (K : AV → AH → Prop) (hk : LowH h.length h → Tryd.r4 G a0 a1 h K) : SCall Tryd.prog G 4 [a0, a1] h K :=
  scall_of_rwp Tryd.tab4 [(7, [(12, (.int .i64))], [0, 1, 5, 6, 9])] Tryd.func4 rfl Tryd.ntmps4 (by kernel_rfl) (by show 2 ≤ 78; decide) (by kernel_rfl) (by kernel_rfl) hk
-- 5 skylark/skylarklaw06.RingPlaces
def Tryd.r5_l20_103 (K : AV → AH → Prop) (h : AH) (G : Nat → Option AV) (a0 : AV) (a1 : AV) (n16 : Int) (i17 : Nat) (h29 : AH) (n30 : Int) (n102 : Int) (n122 : Int) : Prop :=
  ∃ (I103 : Nat → List AV → AH → Prop) (m104 : Nat), I103 m104 [(.v (.int .i64 n122))] h29 ∧ ∀ (m105 : Nat) (h106 : AH), h29.length ≤ h106.length → LowH h106.length h106 → ∀ (n107 : Int), I103 m105 [(.v (.int .i64 n107))] h106 →
  condB (decide (n107 < n102))
  (okV (aIA Tryd.prog h106 22 (.sl i17 0 0 (Int.toNat n16) none) (.v (.int .i64 n107))) fun v108 =>
  okInt .i64 (aLoad Tryd.prog h106 3 v108) fun n109 =>
  okV (aIA Tryd.prog h106 22 a0 (.v (.int .i64 n107))) fun v110 =>
  okInt .i64 (aLoad Tryd.prog h106 3 v110) fun n111 =>
  condB (n109 != n111)
  (RetR h K (.v (.bool false)) h106)
  (nextR h29 I103 m105 [some a0, some a1, some (.sl i17 0 0 (Int.toNat n16) none), some (.v (.int .i64 n30)), some (.v (.int .i64 n102))] [some a0, some a1, some (.sl i17 0 0 (Int.toNat n16) none), some (.v (.int .i64 n30)), some (.v (.int .i64 n102))] [(.v (.int .i64 (IntKind.wrap .i64 (n107 + 1))))] h106))
  (okStr (some a1) fun s112 =>
  callR Tryd.prog G 19 [a0, (.v (.string s112))] h106 (fun v113 h114 =>
  okInt .i64 (extV 0 v113) fun n115 =>
  okInt .i64 (extV 1 v113) fun n116 =>
  rGq (n115 == n30) true (some (.v (.int .i64 n116))) fun b117 v118 =>
  rGq b117 true (aBin Tryd.prog .eql 25 v118 (.v (.int .i64 0))) fun b119 v120 =>
  okBool (pickR (some (.v (.bool b119))) (some v120) (some (.v (.bool false)))) fun b121 =>
  RetR h K (.v (.bool b121)) h114))
def Tryd.r5_l11_26 (G : Nat → Option AV) (h : AH) (K : AV → AH → Prop) (a0 : AV) (a1 : AV) (v5 : AV) (v6 : AV) (n16 : Int) (i17 : Nat) (h23 : AH) (n24 : Int) (n25 : Int) (n123 : Int) (b124 : Bool) (n125 : Int) : Prop :=
  ∃ (I26 : Nat → List AV → AH → Prop) (m27 : Nat), I26 m27 [(.v (.int .i64 n123)), (.v (.bool b124)), (.v (.int .i64 n125))] h23 ∧ ∀ (m28 : Nat) (h29 : AH), h23.length ≤ h29.length → LowH h29.length h29 → ∀ (n30 : Int) (b31 : Bool) (n32 : Int), I26 m28 [(.v (.int .i64 n30)), (.v (.bool b31)), (.v (.int .i64 n32))] h29 →
  condB (decide (n32 < n25))
  (rGq (decide (n32 > 0)) true (some v5) fun b33 v34 =>
  rGq b33 true (some (.v (.int .i64 n32))) fun b35 v36 =>
  rGq b35 true (aBin Tryd.prog .sub 3 v36 (.v (.int .i64 1))) fun b37 v38 =>
  rGq b37 true (aIA Tryd.prog h29 31 v34 v38) fun b39 v40 =>
  rGq b39 true (aLoad Tryd.prog h29 35 v40) fun b41 v42 =>
  rGq b41 true (some v5) fun b43 v44 =>
  rGq b43 true (some (.v (.int .i64 n32))) fun b45 v46 =>
  rGq b45 true (aIA Tryd.prog h29 31 v44 v46) fun b47 v48 =>
  rGq b47 true (aLoad Tryd.prog h29 35 v48) fun b49 v50 =>
  rGq b49 true (aBin Tryd.prog .gtr 35 v42 v50) fun b51 v52 =>
  okBool (pickR (some (.v (.bool b51))) (some v52) (some (.v (.bool false)))) fun b53 =>
  rGq b53 false (some v6) fun b54 v55 =>
  rGq b54 false (some (.v (.int .i64 n32))) fun b56 v57 =>
  rGq b56 false (aIA Tryd.prog h29 22 v55 v57) fun b58 v59 =>
  rGq b58 false (aLoad Tryd.prog h29 3 v59) fun b60 v61 =>
  rGq b60 false (aBin Tryd.prog .lss 3 v61 (.v (.int .i64 0))) fun b62 v63 =>
  okBool (pickR (some (.v (.bool b62))) (some (.v (.bool true))) (some v63)) fun b64 =>
  rGq b64 false (some v6) fun b65 v66 =>
  rGq b65 false (some (.v (.int .i64 n32))) fun b67 v68 =>
  rGq b67 false (aIA Tryd.prog h29 22 v66 v68) fun b69 v70 =>
  rGq b69 false (aLoad Tryd.prog h29 3 v70) fun b71 v72 =>
  rGq b71 false (some a0) fun b73 v74 =>
  rGq b73 false (aLen Tryd.prog h29 22 v74) fun b75 v76 =>
  rGq b75 false (aBin Tryd.prog .geq 3 v72 v76) fun b77 v78 =>
  okBool (pickR (some (.v (.bool b77))) (some (.v (.bool true))) (some v78)) fun b79 =>
  condB b79
  (RetR h K (.v (.bool false)) h29)
  (okV (aIA Tryd.prog h29 22 v6 (.v (.int .i64 n32))) fun v80 =>
  okInt .i64 (aLoad Tryd.prog h29 3 v80) fun n81 =>
  okV (aIA Tryd.prog h29 22 (.sl i17 0 0 (Int.toNat n16) none) (.v (.int .i64 n81))) fun v82 =>
  okInt .i64 (aLoad Tryd.prog h29 3 v82) fun n83 =>
  okV (aIA Tryd.prog h29 22 (.sl i17 0 0 (Int.toNat n16) none) (.v (.int .i64 n81))) fun v84 =>
  storeR Tryd.prog h29 (fun v85 h86 =>
  rGq (!b31) true (some v5) fun b87 v88 =>
  rGq b87 true (some (.v (.int .i64 n32))) fun b89 v90 =>
  rGq b89 true (aIA Tryd.prog h86 31 v88 v90) fun b91 v92 =>
  rGq b91 true (aLoad Tryd.prog h86 35 v92) fun b93 v94 =>
  rGq b93 true (some (.v (.int .u64 n24))) fun b95 v96 =>
  rGq b95 true (aBin Tryd.prog .geq 35 v94 v96) fun b97 v98 =>
  okBool (pickR (some (.v (.bool b97))) (some v98) (some (.v (.bool false)))) fun b99 =>
  condB b99
  (okV (aIA Tryd.prog h86 22 v6 (.v (.int .i64 n32))) fun v100 =>
  okInt .i64 (aLoad Tryd.prog h86 3 v100) fun n101 =>
  nextR h23 I26 m28 [some a0, some a1, some v5, some v6, some (.sl i17 0 0 (Int.toNat n16) none), some (.v (.int .u64 n24)), some (.v (.int .i64 n25))] [some a0, some a1, some v5, some v6, some (.sl i17 0 0 (Int.toNat n16) none), some (.v (.int .u64 n24)), some (.v (.int .i64 n25))] [(.v (.int .i64 n101)), (.v (.bool true)), (.v (.int .i64 (IntKind.wrap .i64 (n32 + 1))))] h86)
  (nextR h23 I26 m28 [some a0, some a1, some v5, some v6, some (.sl i17 0 0 (Int.toNat n16) none), some (.v (.int .u64 n24)), some (.v (.int .i64 n25))] [some a0, some a1, some v5, some v6, some (.sl i17 0 0 (Int.toNat n16) none), some (.v (.int .u64 n24)), some (.v (.int .i64 n25))] [(.v (.int .i64 n30)), (.v (.bool b31)), (.v (.int .i64 (IntKind.wrap .i64 (n32 + 1))))] h86)) 3 (.v (.int .i64 (IntKind.wrap .i64 (n83 + 1)))) v84))
  (okInt .i64 (aLen Tryd.prog h29 22 a0) fun n102 =>
  Tryd.r5_l20_103 K h G a0 a1 n16 i17 h29 n30 n102 0)
def Tryd.r5 (G : Nat → Option AV) (a0 a1 : AV) (h : AH) (K : AV → AH → Prop) : Prop :=
  callR Tryd.prog G 18 [] h (fun v0 h1 =>
  okBool (some v0) fun b2 =>
  condB (!b2)
  (RetR h K (.v (.bool false)) h1)
  (callR Tryd.prog G 22 [a0] h1 (fun v3 h4 =>
  okV (extV 0 v3) fun v5 =>
  okV (extV 1 v3) fun v6 =>
  okInt .i64 (extV 2 v3) fun n7 =>
  condB (n7 != 0)
  (okInt .i64 (aLen Tryd.prog h4 31 v5) fun n8 =>
  rGq (n8 == 0) true (some v6) fun b9 v10 =>
  rGq b9 true (aLen Tryd.prog h4 22 v10) fun b11 v12 =>
  rGq b11 true (aBin Tryd.prog .eql 3 v12 (.v (.int .i64 0))) fun b13 v14 =>
  okBool (pickR (some (.v (.bool b13))) (some v14) (some (.v (.bool false)))) fun b15 =>
  RetR h K (.v (.bool b15)) h4)
  (okInt .i64 (aLen Tryd.prog h4 22 a0) fun n16 =>
  (0 ≤ n16 ∧ n16 ≤ n16 ∧ (((8 : Nat) : Int)) * n16 ≤ 281474976710656 ∧ n16 ≤ 4611686018427387904) ∧ newO (.cells 3 1 (List.replicate (Int.toNat n16) [(.v (.int .i64 0))]) 0) h4 fun i17 h18 =>
  okV (aIA Tryd.prog h18 22 v6 (.v (.int .i64 0))) fun v19 =>
  okInt .i64 (aLoad Tryd.prog h18 3 v19) fun n20 =>
  okStr (some a1) fun s21 =>
  callR Tryd.prog G 25 [(.v (.string s21))] h18 (fun v22 h23 =>
  okInt .u64 (some v22) fun n24 =>
  okInt .i64 (aLen Tryd.prog h23 31 v5) fun n25 =>
  Tryd.r5_l11_26 G h K a0 a1 v5 v6 n16 i17 h23 n24 n25 n20 false 0)))))
theorem Tryd.c5 (G : Nat → Option AV) (a0 a1 : AV) (h : AH) (K : AV → AH → Prop) (hk : LowH h.length h → Tryd.r5 G a0 a1 h K) : SCall Tryd.prog G 5 [a0, a1] h K :=
  scall_of_rwp Tryd.tab5 [(11, [(9, (.int .i64)), (10, .bool), (43, (.int .i64))], [0, 1, 5, 6, 8, 11, 42]), (20, [(102, (.int .i64))], [0, 1, 8, 9, 101])] Tryd.func5 rfl Tryd.ntmps5 (by kernel_rfl) (by show 2 ≤ 128; decide) (by kernel_rfl) (by kernel_rfl) hk
-- 6 skylark/skylarklaw06.RingKeys
def Tryd.r6_l9_26 (K : AV → AH → Prop) (h : AH) (G : Nat → Option AV) (a0 : AV) (a2 : AV) (v6 : AV) (h17 : AH) (n61 : Int) : Prop :=
  ∃ (I26 : Nat → List AV → AH → Prop) (m27 : Nat), I26 m27 [(.v (.int .i64 n61))] h17 ∧ ∀ (m28 : Nat) (h29 : AH), h17.length ≤ h29.length → LowH h29.length h29 → ∀ (n30 : Int), I26 m28 [(.v (.int .i64 n30))] h29 →
  okInt .i64 (aLen Tryd.prog h29 23 a2) fun n31 =>
  condB (decide (n30 < n31))
  (okV (aIA Tryd.prog h29 23 a2 (.v (.int .i64 n30))) fun v32 =>
  okStr (aLoad Tryd.prog h29 9 v32) fun s33 =>
  callR Tryd.prog G 19 [a0, (.v (.string s33))] h29 (fun v34 h35 =>
  okInt .i64 (extV 0 v34) fun n36 =>
  okInt .i64 (extV 1 v34) fun n37 =>
  okV (aIA Tryd.prog h35 23 a2 (.v (.int .i64 n30))) fun v38 =>
  okStr (aLoad Tryd.prog h35 9 v38) fun s39 =>
  callR Tryd.prog G 31 [a0, (.v (.string s39))] h35 (fun v40 h41 =>
  okInt .i64 (extV 0 v40) fun n42 =>
  okInt .i64 (extV 1 v40) fun n43 =>
  rGq (n36 != n42) false (some (.v (.int .i64 n37))) fun b44 v45 =>
  rGq b44 false (some (.v (.int .i64 n43))) fun b46 v47 =>
  rGq b46 false (aBin Tryd.prog .neq 25 v45 v47) fun b48 v49 =>
  okBool (pickR (some (.v (.bool b48))) (some (.v (.bool true))) (some v49)) fun b50 =>
  condB b50
  (RetR h K (.v (.bool false)) h41)
  (nextR h17 I26 m28 [some a0, some a2, some v6] [some a0, some a2, some v6] [(.v (.int .i64 (IntKind.wrap .i64 (n30 + 1))))] h41))))
  (callR Tryd.prog G 32 [v6, a2] h29 (fun v51 h52 =>
  okBool (some v51) fun b53 =>
  rGe b53 true (fun k54 => callR Tryd.prog G 18 [] h52 (fun v55 h56 =>
  k54 v55 h56)) h52 fun b57 v58 h59 =>
  okBool (pickR (some (.v (.bool b57))) (some v58) (some (.v (.bool false)))) fun b60 =>
  RetR h K (.v (.bool b60)) h59))
def Tryd.r6 (G : Nat → Option AV) (a0 a1 a2 : AV) (h : AH) (K : AV → AH → Prop) : Prop :=
  okInt .i64 (aLen Tryd.prog h 23 a2) fun n0 =>
  condB (decide (n0 > 60))
  (callR Tryd.prog G 18 [] h (fun v1 h2 =>
  okBool (some v1) fun b3 =>
  RetR h K (.v (.bool b3)) h2))
  (newO (.cells 9 1 [] 0) h fun i4 h5 =>
  appR Tryd.prog h5 23 23 (.sl i4 0 0 0 none) a2 (fun v6 h7 =>
  callR Tryd.prog G 29 [a0, a1, v6] h7 (fun v8 h9 =>
  okV (extV 0 v8) fun v10 =>
  okInt .i64 (extV 1 v8) fun n11 =>
  callR Tryd.prog G 30 [a0, a1, a2] h9 (fun v12 h13 =>
  okV (extV 0 v12) fun v14 =>
  okInt .i64 (extV 1 v12) fun n15 =>
  callR Tryd.prog G 24 [v10, v14] h13 (fun v16 h17 =>
  okBool (some v16) fun b18 =>
  rGq (!b18) false (some (.v (.int .i64 n11))) fun b19 v20 =>
  rGq b19 false (some (.v (.int .i64 n15))) fun b21 v22 =>
  rGq b21 false (aBin Tryd.prog .neq 25 v20 v22) fun b23 v24 =>
  okBool (pickR (some (.v (.bool b23))) (some (.v (.bool true))) (some v24)) fun b25 =>
  condB b25
  (RetR h K (.v (.bool false)) h17)
  (Tryd.r6_l9_26 K h G a0 a2 v6 h17 0))))))
theorem Tryd.c6 (G : Nat → Option AV) (a0 a1 a2 : AV) (h : AH) (K : AV → AH → Prop) (hk : LowH h.length h → Tryd.r6 G a0 a1 a2 h K) : SCall Tryd.prog G 6 [a0, a1, a2] h K :=
  scall_of_rwp Tryd.tab6 [(9, [(12, (.int .i64))], [0, 2, 7])] Tryd.func6 rfl Tryd.ntmps6 (by kernel_rfl) (by show 3 ≤ 85; decide) (by kernel_rfl) (by kernel_rfl) hk
-- 7 skylark/skylarklaw06.RingGrows
def Tryd.r7_l17_49 (K : AV → AH → Prop) (h : AH) (G : Nat → Option AV) (a0 : AV) (n10 : Int) (v13 : AV) (v22 : AV) (v26 : AV) (h29 : AH) (v30 : AV) (n48 : Int) (n94 : Int) : Prop :=
  ∃ (I49 : Nat → List AV → AH → Prop) (m50 : Nat), I49 m50 [(.v (.int .i64 n94))] h29 ∧ ∀ (m51 : Nat) (h52 : AH), h29.length ≤ h52.length → LowH h52.length h52 → ∀ (n53 : Int), I49 m51 [(.v (.int .i64 n53))] h52 →
  condB (decide (n53 < n48))
  (okV (aIA Tryd.prog h52 22 v26 (.v (.int .i64 n53))) fun v54 =>
  okInt .i64 (aLoad Tryd.prog h52 3 v54) fun n55 =>
  okV (aIA Tryd.prog h52 23 v22 (.v (.int .i64 n55))) fun v56 =>
  okStr (aLoad Tryd.prog h52 9 v56) fun s57 =>
  callR Tryd.prog G 19 [v13, (.v (.string s57))] h52 (fun v58 h59 =>
  okInt .i64 (extV 0 v58) fun n60 =>
  okInt .i64 (extV 1 v58) fun n61 =>
  okV (aIA Tryd.prog h59 23 v22 (.v (.int .i64 n55))) fun v62 =>
  okStr (aLoad Tryd.prog h59 9 v62) fun s63 =>
  callR Tryd.prog G 19 [a0, (.v (.string s63))] h59 (fun v64 h65 =>
  okInt .i64 (extV 0 v64) fun n66 =>
  okInt .i64 (extV 1 v64) fun n67 =>
  okV (aIA Tryd.prog h65 22 v30 (.v (.int .i64 n53))) fun v68 =>
  okInt .i64 (aLoad Tryd.prog h65 3 v68) fun n69 =>
  rGq (n69 != n55) false (some (.v (.int .i64 n60))) fun b70 v71 =>
  rGq b70 false (some (.v (.int .i64 n10))) fun b72 v73 =>
  rGq b72 false (aBin Tryd.prog .neq 3 v71 v73) fun b74 v75 =>
  okBool (pickR (some (.v (.bool b74))) (some (.v (.bool true))) (some v75)) fun b76 =>
  rGq b76 false (some (.v (.int .i64 n61))) fun b77 v78 =>
  rGq b77 false (aBin Tryd.prog .neq 25 v78 (.v (.int .i64 0))) fun b79 v80 =>
  okBool (pickR (some (.v (.bool b79))) (some (.v (.bool true))) (some v80)) fun b81 =>
  rGq b81 false (some (.v (.int .i64 n66))) fun b82 v83 =>
  rGq b82 false (some (.v (.int .i64 n10))) fun b84 v85 =>
  rGq b84 false (aBin Tryd.prog .eql 3 v83 v85) fun b86 v87 =>
  okBool (pickR (some (.v (.bool b86))) (some (.v (.bool true))) (some v87)) fun b88 =>
  rGq b88 false (some (.v (.int .i64 n67))) fun b89 v90 =>
  rGq b89 false (aBin Tryd.prog .neq 25 v90 (.v (.int .i64 0))) fun b91 v92 =>
  okBool (pickR (some (.v (.bool b91))) (some (.v (.bool true))) (some v92)) fun b93 =>
  condB b93
  (RetR h K (.v (.bool false)) h65)
  (nextR h29 I49 m51 [some a0, some (.v (.int .i64 n10)), some v22, some v13, some v30, some v26, some (.v (.int .i64 n48))] [some a0, some (.v (.int .i64 n10)), some v22, some v13, some v30, some v26, some (.v (.int .i64 n48))] [(.v (.int .i64 (IntKind.wrap .i64 (n53 + 1))))] h65))))
  (RetR h K (.v (.bool true)) h52)
def Tryd.r7_j24 (G : Nat → Option AV) (h : AH) (K : AV → AH → Prop) (a0 : AV) (n10 : Int) (v13 : AV) (v22 : AV) (h23 : AH) : Prop :=
  callR Tryd.prog G 29 [a0, v13, v22] h23 (fun v24 h25 =>
  okV (extV 0 v24) fun v26 =>
  okInt .i64 (extV 1 v24) fun n27 =>
  callR Tryd.prog G 29 [v13, a0, v22] h25 (fun v28 h29 =>
  okV (extV 0 v28) fun v30 =>
  okInt .i64 (extV 1 v28) fun n31 =>
  rGq (n27 != 0) false (some (.v (.int .i64 n31))) fun b32 v33 =>
  rGq b32 false (aBin Tryd.prog .neq 25 v33 (.v (.int .i64 0))) fun b34 v35 =>
  okBool (pickR (some (.v (.bool b34))) (some (.v (.bool true))) (some v35)) fun b36 =>
  rGq b36 false (some v26) fun b37 v38 =>
  rGq b37 false (aLen Tryd.prog h29 22 v38) fun b39 v40 =>
  rGq b39 false (some v30) fun b41 v42 =>
  rGq b41 false (aLen Tryd.prog h29 22 v42) fun b43 v44 =>
  rGq b43 false (aBin Tryd.prog .neq 3 v40 v44) fun b45 v46 =>
  okBool (pickR (some (.v (.bool b45))) (some (.v (.bool true))) (some v46)) fun b47 =>
  condB b47
  (RetR h K (.v (.bool false)) h29)
  (okInt .i64 (aLen Tryd.prog h29 22 v26) fun n48 =>
  Tryd.r7_l17_49 K h G a0 n10 v13 v22 v26 h29 v30 n48 0)))
def Tryd.r7 (G : Nat → Option AV) (a0 a1 a2 : AV) (h : AH) (K : AV → AH → Prop) : Prop :=
  callR Tryd.prog G 18 [] h (fun v0 h1 =>
  okBool (some v0) fun b2 =>
  condB (!b2)
  (RetR h K (.v (.bool false)) h1)
  (callR Tryd.prog G 20 [a0] h1 (fun v3 h4 =>
  okInt .i64 (some v3) fun n5 =>
  condB (n5 != 0)
  (RetR h K (.v (.bool true)) h4)
  (okInt .i64 (some a1) fun n6 =>
  okInt .i64 (aLen Tryd.prog h4 22 a0) fun n7 =>
  callR Tryd.prog G 33 [(.v (.int .i64 n6)), (.v (.int .i64 n7))] h4 (fun v8 h9 =>
  okInt .i64 (some v8) fun n10 =>
  newO (.cells 3 1 [] 0) h9 fun i11 h12 =>
  appR Tryd.prog h12 22 22 (.sl i11 0 0 0 none) a0 (fun v13 h14 =>
  okV (aIA Tryd.prog h14 22 v13 (.v (.int .i64 n10))) fun v15 =>
  okInt .i64 (aLoad Tryd.prog h14 3 v15) fun n16 =>
  condB (decide (n16 > 120))
  (RetR h K (.v (.bool true)) h14)
  (okV (aIA Tryd.prog h14 22 v13 (.v (.int .i64 n10))) fun v17 =>
  okInt .i64 (aLoad Tryd.prog h14 3 v17) fun n18 =>
  okV (aIA Tryd.prog h14 22 v13 (.v (.int .i64 n10))) fun v19 =>
  storeR Tryd.prog h14 (fun v20 h21 =>
  okInt .i64 (aLen Tryd.prog h21 23 a2) fun n95 =>
  condB (decide (n95 > 60))
  (okV (aSlice Tryd.prog h21 23 a2 none (some (some (.v (.int .i64 60)))) none) fun v96 =>
  Tryd.r7_j24 G h K a0 n10 v13 v96 h21)
  (Tryd.r7_j24 G h K a0 n10 v13 a2 h21)) 3 (.v (.int .i64 (IntKind.wrap .i64 (n18 + 5)))) v19)))))))
theorem Tryd.c7 (G : Nat → Option AV) (a0 a1 a2 : AV) (h : AH) (K : AV → AH → Prop) (hk : LowH h.length h → Tryd.r7 G a0 a1 a2 h K) : SCall Tryd.prog G 7 [a0, a1, a2] h K :=
  scall_of_rwp Tryd.tab7 [(17, [(75, (.int .i64))], [0, 1, 2, 7, 10, 73, 74])] Tryd.func7 rfl Tryd.ntmps7 (by kernel_rfl) (by show 3 ≤ 123; decide) (by kernel_rfl) (by kernel_rfl) hk
-- 8 skylark/skylarklaw06.RingSame
def Tryd.r8_j8 (K : AV → AH → Prop) (h : AH) (G : Nat → Option AV) (a0 : AV) (v6 : AV) (h7 : AH) : Prop :=
  callR Tryd.prog G 29 [a0, a0, v6] h7 (fun v8 h9 =>
  okV (extV 0 v8) fun v10 =>
  okInt .i64 (extV 1 v8) fun n11 =>
  okInt .i64 (aLen Tryd.prog h9 22 v10) fun n12 =>
  rGq (n12 != 0) false (some (.v (.int .i64 n11))) fun b13 v14 =>
  rGq b13 false (aBin Tryd.prog .neq 25 v14 (.v (.int .i64 0))) fun b15 v16 =>
  okBool (pickR (some (.v (.bool b15))) (some (.v (.bool true))) (some v16)) fun b17 =>
  rGq b17 false (some a0) fun b18 v19 =>
  rGq b18 false (aLen Tryd.prog h9 22 v19) fun b20 v21 =>
  rGq b20 false (aBin Tryd.prog .eql 3 v21 (.v (.int .i64 8))) fun b22 v23 =>
  okBool (pickR (some (.v (.bool b22))) (some (.v (.bool true))) (some v23)) fun b24 =>
  condB b24
  (okInt .i64 (aLen Tryd.prog h9 22 v10) fun n25 =>
  rGq (n25 == 0) true (some (.v (.int .i64 n11))) fun b26 v27 =>
  rGq b26 true (aBin Tryd.prog .eql 25 v27 (.v (.int .i64 0))) fun b28 v29 =>
  okBool (pickR (some (.v (.bool b28))) (some v29) (some (.v (.bool false)))) fun b30 =>
  RetR h K (.v (.bool b30)) h9)
  (newO (.cells 3 1 [] 0) h9 fun i31 h32 =>
  appR Tryd.prog h32 22 22 (.sl i31 0 0 0 none) a0 (fun v33 h34 =>
  newO (.cells 3 1 [[(.v (.int .i64 0))]] 0) h34 fun i35 h36 =>
  appR Tryd.prog h36 22 22 v33 (.sl i35 0 0 1 none) (fun v37 h38 =>
  callR Tryd.prog G 29 [a0, v37, v6] h38 (fun v39 h40 =>
  okV (extV 0 v39) fun v41 =>
  okInt .i64 (extV 1 v39) fun n42 =>
  okInt .i64 (aLen Tryd.prog h40 22 v41) fun n43 =>
  rGq (n43 == 0) true (some (.v (.int .i64 n42))) fun b44 v45 =>
  rGq b44 true (aBin Tryd.prog .eql 25 v45 (.v (.int .i64 0))) fun b46 v47 =>
  okBool (pickR (some (.v (.bool b46))) (some v47) (some (.v (.bool false)))) fun b48 =>
  RetR h K (.v (.bool b48)) h40)))))
def Tryd.r8 (G : Nat → Option AV) (a0 a1 : AV) (h : AH) (K : AV → AH → Prop) : Prop :=
  callR Tryd.prog G 18 [] h (fun v0 h1 =>
  okBool (some v0) fun b2 =>
  condB (!b2)
  (RetR h K (.v (.bool false)) h1)
  (callR Tryd.prog G 20 [a0] h1 (fun v3 h4 =>
  okInt .i64 (some v3) fun n5 =>
  condB (n5 != 0)
  (RetR h K (.v (.bool true)) h4)
  (okInt .i64 (aLen Tryd.prog h4 23 a1) fun n49 =>
  condB (decide (n49 > 40))
  (okV (aSlice Tryd.prog h4 23 a1 none (some (some (.v (.int .i64 40)))) none) fun v50 =>
  Tryd.r8_j8 K h G a0 v50 h4)
  (Tryd.r8_j8 K h G a0 a1 h4)))))
theorem Tryd.c8 (G : Nat → Option AV) (a0 a1 : AV) (h : AH) (K : AV → AH → Prop) (hk : LowH h.length h → Tryd.r8 G a0 a1 h K) : SCall Tryd.prog G 8 [a0, a1] h K :=
  scall_of_rwp Tryd.tab8 [] Tryd.func8 rfl Tryd.ntmps8 (by kernel_rfl) (by show 2 ≤ 63; decide) (by kernel_rfl) (by kernel_rfl) hk
-- 9 skylark/skylarklaw07.LayoutChanges
def Tryd.r9 (G : Nat → Option AV) (a0 a1 a2 : AV) (h : AH) (K : AV → AH → Prop) : Prop :=
  onlyB (AV.one a0) (newO (.cells 47 (AV.cells a0).length [AV.cells a0] 0) h fun i0 h1 =>
  okV (aLoad Tryd.prog h1 47 (.ptr i0 0 0 0)) fun v2 =>
  okV (aLoad Tryd.prog h1 47 (.ptr i0 0 0 0)) fun v3 =>
  callR Tryd.prog G 34 [v2] h1 (fun v4 h5 =>
  (aLoad Tryd.prog h5 47 (.ptr i0 0 0 0) = some v3) ∧ callR Tryd.prog G 35 [v3] h5 (fun v6 h7 =>
  newO (.cells 48 6 [[(.v (.int .i64 0)), (.v (.slice none 0 0)), (.v (.int .i64 0)), (.v (.slice none 0 0)), (.v (.string (ByteArray.mk #[]))), (.v (.bool false))]] 0) h7 fun i8 h9 =>
  (aLoad Tryd.prog h9 47 (.ptr i0 0 0 0) = some v3) ∧ (aLoad Tryd.prog h9 47 (.ptr i0 0 0 0) = some v2) ∧ newO (.cells 50 6 [[(.v (.int .i64 0)), (.v (.slice none 0 0)), (.v (.int .i64 0)), (.v (.slice none 0 0)), (.v (.string (ByteArray.mk #[]))), (.v (.bool false))]] 0) h9 fun i10 h11 =>
  (aLoad Tryd.prog h11 47 (.ptr i0 0 0 0) = some v3) ∧ (aLoad Tryd.prog h11 47 (.ptr i0 0 0 0) = some v2) ∧ storeR Tryd.prog h11 (fun v12 h13 =>
  storeR Tryd.prog h13 (fun v14 h15 =>
  okV (aLoad Tryd.prog h15 48 (.ptr i8 0 0 0)) fun v16 =>
  okStr (some a1) fun s17 =>
  callR Tryd.prog G 36 [v16, (.v (.string s17))] h15 (fun v18 h19 =>
  okInt .i64 (extV 0 v18) fun n20 =>
  okInt .i64 (extV 1 v18) fun n21 =>
  okV (aLoad Tryd.prog h19 50 (.ptr i10 0 0 0)) fun v22 =>
  okStr (some a1) fun s23 =>
  callR Tryd.prog G 37 [v22, (.v (.string s23))] h19 (fun v24 h25 =>
  okInt .i64 (extV 0 v24) fun n26 =>
  okInt .i64 (extV 1 v24) fun n27 =>
  okV (aLoad Tryd.prog h25 48 (.ptr i8 0 0 0)) fun v28 =>
  okStr (some a2) fun s29 =>
  callR Tryd.prog G 38 [v28, (.v (.string s29))] h25 (fun v30 h31 =>
  okV (extV 0 v30) fun v32 =>
  okInt .i64 (extV 1 v30) fun n33 =>
  newO (.cells 48 6 [[(.v (.int .i64 0)), (.v (.slice none 0 0)), (.v (.int .i64 0)), (.v (.slice none 0 0)), (.v (.string (ByteArray.mk #[]))), (.v (.bool false))]] 0) h31 fun i34 h35 =>
  storeR Tryd.prog h35 (fun v36 h37 =>
  okV (aLoad Tryd.prog h37 50 (.ptr i10 0 0 0)) fun v38 =>
  okStr (some a2) fun s39 =>
  callR Tryd.prog G 39 [v38, (.v (.string s39))] h37 (fun v40 h41 =>
  okV (extV 0 v40) fun v42 =>
  okInt .i64 (extV 1 v40) fun n43 =>
  newO (.cells 50 6 [[(.v (.int .i64 0)), (.v (.slice none 0 0)), (.v (.int .i64 0)), (.v (.slice none 0 0)), (.v (.string (ByteArray.mk #[]))), (.v (.bool false))]] 0) h41 fun i44 h45 =>
  storeR Tryd.prog h45 (fun v46 h47 =>
  okV (aLoad Tryd.prog h47 48 (.ptr i8 0 0 0)) fun v48 =>
  callR Tryd.prog G 40 [v48] h47 (fun v49 h50 =>
  okV (extV 0 v49) fun v51 =>
  okInt .i64 (extV 1 v49) fun n52 =>
  newO (.cells 45 2 [[(.v (.int .i64 0)), (.v (.slice none 0 0))]] 0) h50 fun i53 h54 =>
  storeR Tryd.prog h54 (fun v55 h56 =>
  okV (aLoad Tryd.prog h56 50 (.ptr i10 0 0 0)) fun v57 =>
  callR Tryd.prog G 41 [v57] h56 (fun v58 h59 =>
  okV (extV 0 v58) fun v60 =>
  okInt .i64 (extV 1 v58) fun n61 =>
  newO (.cells 45 2 [[(.v (.int .i64 0)), (.v (.slice none 0 0))]] 0) h59 fun i62 h63 =>
  storeR Tryd.prog h63 (fun v64 h65 =>
  rGq false false (some (.ptr i0 0 0 0)) fun b66 v67 =>
  rGq b66 false (aLoad Tryd.prog h65 45 v67) fun b68 v69 =>
  rGq b68 false (some (.ptr i0 0 0 0)) fun b70 v71 =>
  if b70 = false then okV (aLoad Tryd.prog h65 45 v71) fun v72 =>
  rGe false false (fun k73 => callR Tryd.prog G 42 [v69] h65 (fun v74 h75 =>
  (aLoad Tryd.prog h75 45 v71 = some v72) ∧ k73 v74 h75)) h65 fun b76 v77 h78 =>
  rGe b76 false (fun k79 => callR Tryd.prog G 43 [v72] h78 (fun v80 h81 =>
  k79 v80 h81)) h78 fun b82 v83 h84 =>
  rGq b82 false (aBin Tryd.prog .neq 25 v77 v83) fun b85 v86 =>
  okBool (pickR (some (.v (.bool b85))) (some (.v (.bool true))) (some v86)) fun b87 =>
  rGq b87 false (aLoad Tryd.prog h84 48 (.ptr i8 0 0 0)) fun b88 v89 =>
  if b88 = false then okV (aLoad Tryd.prog h84 50 (.ptr i10 0 0 0)) fun v90 =>
  rGe false false (fun k91 => callR Tryd.prog G 44 [v89] h84 (fun v92 h93 =>
  (aLoad Tryd.prog h93 50 (.ptr i10 0 0 0) = some v90) ∧ k91 v92 h93)) h84 fun b94 v95 h96 =>
  rGq b94 false (aBin Tryd.prog .eql 25 v95 (.v (.int .i64 0))) fun b97 v98 =>
  rGe b97 false (fun k99 => callR Tryd.prog G 45 [v90] h96 (fun v100 h101 =>
  k99 v100 h101)) h96 fun b102 v103 h104 =>
  rGq b102 false (aBin Tryd.prog .neq 4 v98 v103) fun b105 v106 =>
  okBool (pickR (some (.v (.bool b105))) (some (.v (.bool true))) (some v106)) fun b107 =>
  rGq b107 false (some (.v (.int .i64 n20))) fun b108 v109 =>
  rGq b108 false (some (.v (.int .i64 n26))) fun b110 v111 =>
  rGq b110 false (aBin Tryd.prog .neq 3 v109 v111) fun b112 v113 =>
  okBool (pickR (some (.v (.bool b112))) (some (.v (.bool true))) (some v113)) fun b114 =>
  rGq b114 false (some (.v (.int .i64 n21))) fun b115 v116 =>
  rGq b115 false (some (.v (.int .i64 n27))) fun b117 v118 =>
  rGq b117 false (aBin Tryd.prog .neq 25 v116 v118) fun b119 v120 =>
  okBool (pickR (some (.v (.bool b119))) (some (.v (.bool true))) (some v120)) fun b121 =>
  rGq b121 false (some (.v (.int .i64 n33))) fun b122 v123 =>
  rGq b122 false (some (.v (.int .i64 n43))) fun b124 v125 =>
  rGq b124 false (aBin Tryd.prog .neq 25 v123 v125) fun b126 v127 =>
  okBool (pickR (some (.v (.bool b126))) (some (.v (.bool true))) (some v127)) fun b128 =>
  rGq b128 false (some (.v (.int .i64 n52))) fun b129 v130 =>
  rGq b129 false (some (.v (.int .i64 n61))) fun b131 v132 =>
  rGq b131 false (aBin Tryd.prog .neq 25 v130 v132) fun b133 v134 =>
  okBool (pickR (some (.v (.bool b133))) (some (.v (.bool true))) (some v134)) fun b135 =>
  condB b135
  (RetR h K (.v (.bool false)) h104)
  (okStr (aLoad Tryd.prog h104 9 (.ptr i34 0 0 4)) fun s136 =>
  okStr (aLoad Tryd.prog h104 9 (.ptr i44 0 0 4)) fun s137 =>
  rGq (ByteArray.toList s136 == ByteArray.toList s137) true (some (.ptr i34 0 0 5)) fun b138 v139 =>
  rGq b138 true (aLoad Tryd.prog h104 4 v139) fun b140 v141 =>
  rGq b140 true (some (.ptr i44 0 0 5)) fun b142 v143 =>
  rGq b142 true (aLoad Tryd.prog h104 4 v143) fun b144 v145 =>
  rGq b144 true (aBin Tryd.prog .eql 4 v141 v145) fun b146 v147 =>
  okBool (pickR (some (.v (.bool b146))) (some v147) (some (.v (.bool false)))) fun b148 =>
  rGq b148 true (some (.ptr i34 0 0 0)) fun b149 v150 =>
  rGq b149 true (aLoad Tryd.prog h104 45 v150) fun b151 v152 =>
  rGq b151 true (some (.ptr i44 0 0 0)) fun b153 v154 =>
  rGq b153 true (aLoad Tryd.prog h104 45 v154) fun b155 v156 =>
  rGe b155 true (fun k157 => callR Tryd.prog G 46 [v152, v156] h104 (fun v158 h159 =>
  k157 v158 h159)) h104 fun b160 v161 h162 =>
  okBool (pickR (some (.v (.bool b160))) (some v161) (some (.v (.bool false)))) fun b163 =>
  rGq b163 true (some (.ptr i34 0 0 2)) fun b164 v165 =>
  rGq b164 true (aLoad Tryd.prog h162 45 v165) fun b166 v167 =>
  rGq b166 true (some (.ptr i44 0 0 2)) fun b168 v169 =>
  rGq b168 true (aLoad Tryd.prog h162 45 v169) fun b170 v171 =>
  rGe b170 true (fun k172 => callR Tryd.prog G 46 [v167, v171] h162 (fun v173 h174 =>
  k172 v173 h174)) h162 fun b175 v176 h177 =>
  okBool (pickR (some (.v (.bool b175))) (some v176) (some (.v (.bool false)))) fun b178 =>
  rGq b178 true (aLoad Tryd.prog h177 45 (.ptr i53 0 0 0)) fun b179 v180 =>
  rGq b179 true (aLoad Tryd.prog h177 45 (.ptr i62 0 0 0)) fun b181 v182 =>
  rGe b181 true (fun k183 => callR Tryd.prog G 46 [v180, v182] h177 (fun v184 h185 =>
  k183 v184 h185)) h177 fun b186 v187 h188 =>
  okBool (pickR (some (.v (.bool b186))) (some v187) (some (.v (.bool false)))) fun b189 =>
  rGq b189 true (some (.ptr i0 0 0 0)) fun b190 v191 =>
  rGq b190 true (aLoad Tryd.prog h188 45 v191) fun b192 v193 =>
  rGq b192 true (some (.ptr i0 0 0 2)) fun b194 v195 =>
  rGq b194 true (aLoad Tryd.prog h188 45 v195) fun b196 v197 =>
  rGq b196 true (some (.ptr i0 0 0 0)) fun b198 v199 =>
  if b198 = true then okV (aLoad Tryd.prog h188 45 v199) fun v200 =>
  rGq true true (some (.ptr i0 0 0 2)) fun b201 v202 =>
  if b201 = true then okV (aLoad Tryd.prog h188 45 v202) fun v203 =>
  rGe true true (fun k204 => callR Tryd.prog G 47 [v193, v197] h188 (fun v205 h206 =>
  (aLoad Tryd.prog h206 45 v202 = some v203) ∧ (aLoad Tryd.prog h206 45 v199 = some v200) ∧ k204 v205 h206)) h188 fun b207 v208 h209 =>
  rGe b207 true (fun k210 => callR Tryd.prog G 46 [v200, v203] h209 (fun v211 h212 =>
  k210 v211 h212)) h209 fun b213 v214 h215 =>
  rGq b213 true (aBin Tryd.prog .eql 4 v208 v214) fun b216 v217 =>
  okBool (pickR (some (.v (.bool b216))) (some v217) (some (.v (.bool false)))) fun b218 =>
  rGe b218 true (fun k219 => callR Tryd.prog G 48 [] h215 (fun v220 h221 =>
  k219 v220 h221)) h215 fun b222 v223 h224 =>
  okBool (pickR (some (.v (.bool b222))) (some v223) (some (.v (.bool false)))) fun b225 =>
  RetR h K (.v (.bool b225)) h224
  else rGe false true (fun k226 => callR Tryd.prog G 47 [v193, v197] h188 (fun v227 h228 =>
  (aLoad Tryd.prog h228 45 v199 = some v200) ∧ k226 v227 h228)) h188 fun b229 v230 h231 =>
  rGe b229 true (fun k232 => callR Tryd.prog G 46 [v200, (.tup [])] h231 (fun v233 h234 =>
  k232 v233 h234)) h231 fun b235 v236 h237 =>
  rGq b235 true (aBin Tryd.prog .eql 4 v230 v236) fun b238 v239 =>
  okBool (pickR (some (.v (.bool b238))) (some v239) (some (.v (.bool false)))) fun b240 =>
  rGe b240 true (fun k241 => callR Tryd.prog G 48 [] h237 (fun v242 h243 =>
  k241 v242 h243)) h237 fun b244 v245 h246 =>
  okBool (pickR (some (.v (.bool b244))) (some v245) (some (.v (.bool false)))) fun b247 =>
  RetR h K (.v (.bool b247)) h246
  else rGq false true (some (.ptr i0 0 0 2)) fun b248 v249 =>
  if b248 = true then okV (aLoad Tryd.prog h188 45 v249) fun v250 =>
  rGe true true (fun k251 => callR Tryd.prog G 47 [v193, v197] h188 (fun v252 h253 =>
  (aLoad Tryd.prog h253 45 v249 = some v250) ∧ k251 v252 h253)) h188 fun b254 v255 h256 =>
  rGe b254 true (fun k257 => callR Tryd.prog G 46 [(.tup []), v250] h256 (fun v258 h259 =>
  k257 v258 h259)) h256 fun b260 v261 h262 =>
  rGq b260 true (aBin Tryd.prog .eql 4 v255 v261) fun b263 v264 =>
  okBool (pickR (some (.v (.bool b263))) (some v264) (some (.v (.bool false)))) fun b265 =>
  rGe b265 true (fun k266 => callR Tryd.prog G 48 [] h262 (fun v267 h268 =>
  k266 v267 h268)) h262 fun b269 v270 h271 =>
  okBool (pickR (some (.v (.bool b269))) (some v270) (some (.v (.bool false)))) fun b272 =>
  RetR h K (.v (.bool b272)) h271
  else rGe false true (fun k273 => callR Tryd.prog G 47 [v193, v197] h188 (fun v274 h275 =>
  k273 v274 h275)) h188 fun b276 v277 h278 =>
  rGe b276 true (fun k279 => callR Tryd.prog G 46 [(.tup []), (.tup [])] h278 (fun v280 h281 =>
  k279 v280 h281)) h278 fun b282 v283 h284 =>
  rGq b282 true (aBin Tryd.prog .eql 4 v277 v283) fun b285 v286 =>
  okBool (pickR (some (.v (.bool b285))) (some v286) (some (.v (.bool false)))) fun b287 =>
  rGe b287 true (fun k288 => callR Tryd.prog G 48 [] h284 (fun v289 h290 =>
  k288 v289 h290)) h284 fun b291 v292 h293 =>
  okBool (pickR (some (.v (.bool b291))) (some v292) (some (.v (.bool false)))) fun b294 =>
  RetR h K (.v (.bool b294)) h293)
  else rGe true false (fun k295 => callR Tryd.prog G 44 [v89] h84 (fun v296 h297 =>
  k295 v296 h297)) h84 fun b298 v299 h300 =>
  rGq b298 false (aBin Tryd.prog .eql 25 v299 (.v (.int .i64 0))) fun b301 v302 =>
  rGe b301 false (fun k303 => callR Tryd.prog G 45 [(.tup [])] h300 (fun v304 h305 =>
  k303 v304 h305)) h300 fun b306 v307 h308 =>
  rGq b306 false (aBin Tryd.prog .neq 4 v302 v307) fun b309 v310 =>
  okBool (pickR (some (.v (.bool b309))) (some (.v (.bool true))) (some v310)) fun b311 =>
  rGq b311 false (some (.v (.int .i64 n20))) fun b312 v313 =>
  rGq b312 false (some (.v (.int .i64 n26))) fun b314 v315 =>
  rGq b314 false (aBin Tryd.prog .neq 3 v313 v315) fun b316 v317 =>
  okBool (pickR (some (.v (.bool b316))) (some (.v (.bool true))) (some v317)) fun b318 =>
  rGq b318 false (some (.v (.int .i64 n21))) fun b319 v320 =>
  rGq b319 false (some (.v (.int .i64 n27))) fun b321 v322 =>
  rGq b321 false (aBin Tryd.prog .neq 25 v320 v322) fun b323 v324 =>
  okBool (pickR (some (.v (.bool b323))) (some (.v (.bool true))) (some v324)) fun b325 =>
  rGq b325 false (some (.v (.int .i64 n33))) fun b326 v327 =>
  rGq b326 false (some (.v (.int .i64 n43))) fun b328 v329 =>
  rGq b328 false (aBin Tryd.prog .neq 25 v327 v329) fun b330 v331 =>
  okBool (pickR (some (.v (.bool b330))) (some (.v (.bool true))) (some v331)) fun b332 =>
  rGq b332 false (some (.v (.int .i64 n52))) fun b333 v334 =>
  rGq b333 false (some (.v (.int .i64 n61))) fun b335 v336 =>
  rGq b335 false (aBin Tryd.prog .neq 25 v334 v336) fun b337 v338 =>
  okBool (pickR (some (.v (.bool b337))) (some (.v (.bool true))) (some v338)) fun b339 =>
  condB b339
  (RetR h K (.v (.bool false)) h308)
  (okStr (aLoad Tryd.prog h308 9 (.ptr i34 0 0 4)) fun s340 =>
  okStr (aLoad Tryd.prog h308 9 (.ptr i44 0 0 4)) fun s341 =>
  rGq (ByteArray.toList s340 == ByteArray.toList s341) true (some (.ptr i34 0 0 5)) fun b342 v343 =>
  rGq b342 true (aLoad Tryd.prog h308 4 v343) fun b344 v345 =>
  rGq b344 true (some (.ptr i44 0 0 5)) fun b346 v347 =>
  rGq b346 true (aLoad Tryd.prog h308 4 v347) fun b348 v349 =>
  rGq b348 true (aBin Tryd.prog .eql 4 v345 v349) fun b350 v351 =>
  okBool (pickR (some (.v (.bool b350))) (some v351) (some (.v (.bool false)))) fun b352 =>
  rGq b352 true (some (.ptr i34 0 0 0)) fun b353 v354 =>
  rGq b353 true (aLoad Tryd.prog h308 45 v354) fun b355 v356 =>
  rGq b355 true (some (.ptr i44 0 0 0)) fun b357 v358 =>
  rGq b357 true (aLoad Tryd.prog h308 45 v358) fun b359 v360 =>
  rGe b359 true (fun k361 => callR Tryd.prog G 46 [v356, v360] h308 (fun v362 h363 =>
  k361 v362 h363)) h308 fun b364 v365 h366 =>
  okBool (pickR (some (.v (.bool b364))) (some v365) (some (.v (.bool false)))) fun b367 =>
  rGq b367 true (some (.ptr i34 0 0 2)) fun b368 v369 =>
  rGq b368 true (aLoad Tryd.prog h366 45 v369) fun b370 v371 =>
  rGq b370 true (some (.ptr i44 0 0 2)) fun b372 v373 =>
  rGq b372 true (aLoad Tryd.prog h366 45 v373) fun b374 v375 =>
  rGe b374 true (fun k376 => callR Tryd.prog G 46 [v371, v375] h366 (fun v377 h378 =>
  k376 v377 h378)) h366 fun b379 v380 h381 =>
  okBool (pickR (some (.v (.bool b379))) (some v380) (some (.v (.bool false)))) fun b382 =>
  rGq b382 true (aLoad Tryd.prog h381 45 (.ptr i53 0 0 0)) fun b383 v384 =>
  rGq b383 true (aLoad Tryd.prog h381 45 (.ptr i62 0 0 0)) fun b385 v386 =>
  rGe b385 true (fun k387 => callR Tryd.prog G 46 [v384, v386] h381 (fun v388 h389 =>
  k387 v388 h389)) h381 fun b390 v391 h392 =>
  okBool (pickR (some (.v (.bool b390))) (some v391) (some (.v (.bool false)))) fun b393 =>
  rGq b393 true (some (.ptr i0 0 0 0)) fun b394 v395 =>
  rGq b394 true (aLoad Tryd.prog h392 45 v395) fun b396 v397 =>
  rGq b396 true (some (.ptr i0 0 0 2)) fun b398 v399 =>
  rGq b398 true (aLoad Tryd.prog h392 45 v399) fun b400 v401 =>
  rGq b400 true (some (.ptr i0 0 0 0)) fun b402 v403 =>
  if b402 = true then okV (aLoad Tryd.prog h392 45 v403) fun v404 =>
  rGq true true (some (.ptr i0 0 0 2)) fun b405 v406 =>
  if b405 = true then okV (aLoad Tryd.prog h392 45 v406) fun v407 =>
  rGe true true (fun k408 => callR Tryd.prog G 47 [v397, v401] h392 (fun v409 h410 =>
  (aLoad Tryd.prog h410 45 v406 = some v407) ∧ (aLoad Tryd.prog h410 45 v403 = some v404) ∧ k408 v409 h410)) h392 fun b411 v412 h413 =>
  rGe b411 true (fun k414 => callR Tryd.prog G 46 [v404, v407] h413 (fun v415 h416 =>
  k414 v415 h416)) h413 fun b417 v418 h419 =>
  rGq b417 true (aBin Tryd.prog .eql 4 v412 v418) fun b420 v421 =>
  okBool (pickR (some (.v (.bool b420))) (some v421) (some (.v (.bool false)))) fun b422 =>
  rGe b422 true (fun k423 => callR Tryd.prog G 48 [] h419 (fun v424 h425 =>
  k423 v424 h425)) h419 fun b426 v427 h428 =>
  okBool (pickR (some (.v (.bool b426))) (some v427) (some (.v (.bool false)))) fun b429 =>
  RetR h K (.v (.bool b429)) h428
  else rGe false true (fun k430 => callR Tryd.prog G 47 [v397, v401] h392 (fun v431 h432 =>
  (aLoad Tryd.prog h432 45 v403 = some v404) ∧ k430 v431 h432)) h392 fun b433 v434 h435 =>
  rGe b433 true (fun k436 => callR Tryd.prog G 46 [v404, (.tup [])] h435 (fun v437 h438 =>
  k436 v437 h438)) h435 fun b439 v440 h441 =>
  rGq b439 true (aBin Tryd.prog .eql 4 v434 v440) fun b442 v443 =>
  okBool (pickR (some (.v (.bool b442))) (some v443) (some (.v (.bool false)))) fun b444 =>
  rGe b444 true (fun k445 => callR Tryd.prog G 48 [] h441 (fun v446 h447 =>
  k445 v446 h447)) h441 fun b448 v449 h450 =>
  okBool (pickR (some (.v (.bool b448))) (some v449) (some (.v (.bool false)))) fun b451 =>
  RetR h K (.v (.bool b451)) h450
  else rGq false true (some (.ptr i0 0 0 2)) fun b452 v453 =>
  if b452 = true then okV (aLoad Tryd.prog h392 45 v453) fun v454 =>
  rGe true true (fun k455 => callR Tryd.prog G 47 [v397, v401] h392 (fun v456 h457 =>
  (aLoad Tryd.prog h457 45 v453 = some v454) ∧ k455 v456 h457)) h392 fun b458 v459 h460 =>
  rGe b458 true (fun k461 => callR Tryd.prog G 46 [(.tup []), v454] h460 (fun v462 h463 =>
  k461 v462 h463)) h460 fun b464 v465 h466 =>
  rGq b464 true (aBin Tryd.prog .eql 4 v459 v465) fun b467 v468 =>
  okBool (pickR (some (.v (.bool b467))) (some v468) (some (.v (.bool false)))) fun b469 =>
  rGe b469 true (fun k470 => callR Tryd.prog G 48 [] h466 (fun v471 h472 =>
  k470 v471 h472)) h466 fun b473 v474 h475 =>
  okBool (pickR (some (.v (.bool b473))) (some v474) (some (.v (.bool false)))) fun b476 =>
  RetR h K (.v (.bool b476)) h475
  else rGe false true (fun k477 => callR Tryd.prog G 47 [v397, v401] h392 (fun v478 h479 =>
  k477 v478 h479)) h392 fun b480 v481 h482 =>
  rGe b480 true (fun k483 => callR Tryd.prog G 46 [(.tup []), (.tup [])] h482 (fun v484 h485 =>
  k483 v484 h485)) h482 fun b486 v487 h488 =>
  rGq b486 true (aBin Tryd.prog .eql 4 v481 v487) fun b489 v490 =>
  okBool (pickR (some (.v (.bool b489))) (some v490) (some (.v (.bool false)))) fun b491 =>
  rGe b491 true (fun k492 => callR Tryd.prog G 48 [] h488 (fun v493 h494 =>
  k492 v493 h494)) h488 fun b495 v496 h497 =>
  okBool (pickR (some (.v (.bool b495))) (some v496) (some (.v (.bool false)))) fun b498 =>
  RetR h K (.v (.bool b498)) h497)
  else rGe true false (fun k499 => callR Tryd.prog G 42 [v69] h65 (fun v500 h501 =>
  k499 v500 h501)) h65 fun b502 v503 h504 =>
  rGe b502 false (fun k505 => callR Tryd.prog G 43 [(.tup [])] h504 (fun v506 h507 =>
  k505 v506 h507)) h504 fun b508 v509 h510 =>
  rGq b508 false (aBin Tryd.prog .neq 25 v503 v509) fun b511 v512 =>
  okBool (pickR (some (.v (.bool b511))) (some (.v (.bool true))) (some v512)) fun b513 =>
  rGq b513 false (aLoad Tryd.prog h510 48 (.ptr i8 0 0 0)) fun b514 v515 =>
  if b514 = false then okV (aLoad Tryd.prog h510 50 (.ptr i10 0 0 0)) fun v516 =>
  rGe false false (fun k517 => callR Tryd.prog G 44 [v515] h510 (fun v518 h519 =>
  (aLoad Tryd.prog h519 50 (.ptr i10 0 0 0) = some v516) ∧ k517 v518 h519)) h510 fun b520 v521 h522 =>
  rGq b520 false (aBin Tryd.prog .eql 25 v521 (.v (.int .i64 0))) fun b523 v524 =>
  rGe b523 false (fun k525 => callR Tryd.prog G 45 [v516] h522 (fun v526 h527 =>
  k525 v526 h527)) h522 fun b528 v529 h530 =>
  rGq b528 false (aBin Tryd.prog .neq 4 v524 v529) fun b531 v532 =>
  okBool (pickR (some (.v (.bool b531))) (some (.v (.bool true))) (some v532)) fun b533 =>
  rGq b533 false (some (.v (.int .i64 n20))) fun b534 v535 =>
  rGq b534 false (some (.v (.int .i64 n26))) fun b536 v537 =>
  rGq b536 false (aBin Tryd.prog .neq 3 v535 v537) fun b538 v539 =>
  okBool (pickR (some (.v (.bool b538))) (some (.v (.bool true))) (some v539)) fun b540 =>
  rGq b540 false (some (.v (.int .i64 n21))) fun b541 v542 =>
  rGq b541 false (some (.v (.int .i64 n27))) fun b543 v544 =>
  rGq b543 false (aBin Tryd.prog .neq 25 v542 v544) fun b545 v546 =>
  okBool (pickR (some (.v (.bool b545))) (some (.v (.bool true))) (some v546)) fun b547 =>
  rGq b547 false (some (.v (.int .i64 n33))) fun b548 v549 =>
  rGq b548 false (some (.v (.int .i64 n43))) fun b550 v551 =>
  rGq b550 false (aBin Tryd.prog .neq 25 v549 v551) fun b552 v553 =>
  okBool (pickR (some (.v (.bool b552))) (some (.v (.bool true))) (some v553)) fun b554 =>
  rGq b554 false (some (.v (.int .i64 n52))) fun b555 v556 =>
  rGq b555 false (some (.v (.int .i64 n61))) fun b557 v558 =>
  rGq b557 false (aBin Tryd.prog .neq 25 v556 v558) fun b559 v560 =>
  okBool (pickR (some (.v (.bool b559))) (some (.v (.bool true))) (some v560)) fun b561 =>
  condB b561
  (RetR h K (.v (.bool false)) h530)
  (okStr (aLoad Tryd.prog h530 9 (.ptr i34 0 0 4)) fun s562 =>
  okStr (aLoad Tryd.prog h530 9 (.ptr i44 0 0 4)) fun s563 =>
  rGq (ByteArray.toList s562 == ByteArray.toList s563) true (some (.ptr i34 0 0 5)) fun b564 v565 =>
  rGq b564 true (aLoad Tryd.prog h530 4 v565) fun b566 v567 =>
  rGq b566 true (some (.ptr i44 0 0 5)) fun b568 v569 =>
  rGq b568 true (aLoad Tryd.prog h530 4 v569) fun b570 v571 =>
  rGq b570 true (aBin Tryd.prog .eql 4 v567 v571) fun b572 v573 =>
  okBool (pickR (some (.v (.bool b572))) (some v573) (some (.v (.bool false)))) fun b574 =>
  rGq b574 true (some (.ptr i34 0 0 0)) fun b575 v576 =>
  rGq b575 true (aLoad Tryd.prog h530 45 v576) fun b577 v578 =>
  rGq b577 true (some (.ptr i44 0 0 0)) fun b579 v580 =>
  rGq b579 true (aLoad Tryd.prog h530 45 v580) fun b581 v582 =>
  rGe b581 true (fun k583 => callR Tryd.prog G 46 [v578, v582] h530 (fun v584 h585 =>
  k583 v584 h585)) h530 fun b586 v587 h588 =>
  okBool (pickR (some (.v (.bool b586))) (some v587) (some (.v (.bool false)))) fun b589 =>
  rGq b589 true (some (.ptr i34 0 0 2)) fun b590 v591 =>
  rGq b590 true (aLoad Tryd.prog h588 45 v591) fun b592 v593 =>
  rGq b592 true (some (.ptr i44 0 0 2)) fun b594 v595 =>
  rGq b594 true (aLoad Tryd.prog h588 45 v595) fun b596 v597 =>
  rGe b596 true (fun k598 => callR Tryd.prog G 46 [v593, v597] h588 (fun v599 h600 =>
  k598 v599 h600)) h588 fun b601 v602 h603 =>
  okBool (pickR (some (.v (.bool b601))) (some v602) (some (.v (.bool false)))) fun b604 =>
  rGq b604 true (aLoad Tryd.prog h603 45 (.ptr i53 0 0 0)) fun b605 v606 =>
  rGq b605 true (aLoad Tryd.prog h603 45 (.ptr i62 0 0 0)) fun b607 v608 =>
  rGe b607 true (fun k609 => callR Tryd.prog G 46 [v606, v608] h603 (fun v610 h611 =>
  k609 v610 h611)) h603 fun b612 v613 h614 =>
  okBool (pickR (some (.v (.bool b612))) (some v613) (some (.v (.bool false)))) fun b615 =>
  rGq b615 true (some (.ptr i0 0 0 0)) fun b616 v617 =>
  rGq b616 true (aLoad Tryd.prog h614 45 v617) fun b618 v619 =>
  rGq b618 true (some (.ptr i0 0 0 2)) fun b620 v621 =>
  rGq b620 true (aLoad Tryd.prog h614 45 v621) fun b622 v623 =>
  rGq b622 true (some (.ptr i0 0 0 0)) fun b624 v625 =>
  if b624 = true then okV (aLoad Tryd.prog h614 45 v625) fun v626 =>
  rGq true true (some (.ptr i0 0 0 2)) fun b627 v628 =>
  if b627 = true then okV (aLoad Tryd.prog h614 45 v628) fun v629 =>
  rGe true true (fun k630 => callR Tryd.prog G 47 [v619, v623] h614 (fun v631 h632 =>
  (aLoad Tryd.prog h632 45 v628 = some v629) ∧ (aLoad Tryd.prog h632 45 v625 = some v626) ∧ k630 v631 h632)) h614 fun b633 v634 h635 =>
  rGe b633 true (fun k636 => callR Tryd.prog G 46 [v626, v629] h635 (fun v637 h638 =>
  k636 v637 h638)) h635 fun b639 v640 h641 =>
  rGq b639 true (aBin Tryd.prog .eql 4 v634 v640) fun b642 v643 =>
  okBool (pickR (some (.v (.bool b642))) (some v643) (some (.v (.bool false)))) fun b644 =>
  rGe b644 true (fun k645 => callR Tryd.prog G 48 [] h641 (fun v646 h647 =>
  k645 v646 h647)) h641 fun b648 v649 h650 =>
  okBool (pickR (some (.v (.bool b648))) (some v649) (some (.v (.bool false)))) fun b651 =>
  RetR h K (.v (.bool b651)) h650
  else rGe false true (fun k652 => callR Tryd.prog G 47 [v619, v623] h614 (fun v653 h654 =>
  (aLoad Tryd.prog h654 45 v625 = some v626) ∧ k652 v653 h654)) h614 fun b655 v656 h657 =>
  rGe b655 true (fun k658 => callR Tryd.prog G 46 [v626, (.tup [])] h657 (fun v659 h660 =>
  k658 v659 h660)) h657 fun b661 v662 h663 =>
  rGq b661 true (aBin Tryd.prog .eql 4 v656 v662) fun b664 v665 =>
  okBool (pickR (some (.v (.bool b664))) (some v665) (some (.v (.bool false)))) fun b666 =>
  rGe b666 true (fun k667 => callR Tryd.prog G 48 [] h663 (fun v668 h669 =>
  k667 v668 h669)) h663 fun b670 v671 h672 =>
  okBool (pickR (some (.v (.bool b670))) (some v671) (some (.v (.bool false)))) fun b673 =>
  RetR h K (.v (.bool b673)) h672
  else rGq false true (some (.ptr i0 0 0 2)) fun b674 v675 =>
  if b674 = true then okV (aLoad Tryd.prog h614 45 v675) fun v676 =>
  rGe true true (fun k677 => callR Tryd.prog G 47 [v619, v623] h614 (fun v678 h679 =>
  (aLoad Tryd.prog h679 45 v675 = some v676) ∧ k677 v678 h679)) h614 fun b680 v681 h682 =>
  rGe b680 true (fun k683 => callR Tryd.prog G 46 [(.tup []), v676] h682 (fun v684 h685 =>
  k683 v684 h685)) h682 fun b686 v687 h688 =>
  rGq b686 true (aBin Tryd.prog .eql 4 v681 v687) fun b689 v690 =>
  okBool (pickR (some (.v (.bool b689))) (some v690) (some (.v (.bool false)))) fun b691 =>
  rGe b691 true (fun k692 => callR Tryd.prog G 48 [] h688 (fun v693 h694 =>
  k692 v693 h694)) h688 fun b695 v696 h697 =>
  okBool (pickR (some (.v (.bool b695))) (some v696) (some (.v (.bool false)))) fun b698 =>
  RetR h K (.v (.bool b698)) h697
  else rGe false true (fun k699 => callR Tryd.prog G 47 [v619, v623] h614 (fun v700 h701 =>
  k699 v700 h701)) h614 fun b702 v703 h704 =>
  rGe b702 true (fun k705 => callR Tryd.prog G 46 [(.tup []), (.tup [])] h704 (fun v706 h707 =>
  k705 v706 h707)) h704 fun b708 v709 h710 =>
  rGq b708 true (aBin Tryd.prog .eql 4 v703 v709) fun b711 v712 =>
  okBool (pickR (some (.v (.bool b711))) (some v712) (some (.v (.bool false)))) fun b713 =>
  rGe b713 true (fun k714 => callR Tryd.prog G 48 [] h710 (fun v715 h716 =>
  k714 v715 h716)) h710 fun b717 v718 h719 =>
  okBool (pickR (some (.v (.bool b717))) (some v718) (some (.v (.bool false)))) fun b720 =>
  RetR h K (.v (.bool b720)) h719)
  else rGe true false (fun k721 => callR Tryd.prog G 44 [v515] h510 (fun v722 h723 =>
  k721 v722 h723)) h510 fun b724 v725 h726 =>
  rGq b724 false (aBin Tryd.prog .eql 25 v725 (.v (.int .i64 0))) fun b727 v728 =>
  rGe b727 false (fun k729 => callR Tryd.prog G 45 [(.tup [])] h726 (fun v730 h731 =>
  k729 v730 h731)) h726 fun b732 v733 h734 =>
  rGq b732 false (aBin Tryd.prog .neq 4 v728 v733) fun b735 v736 =>
  okBool (pickR (some (.v (.bool b735))) (some (.v (.bool true))) (some v736)) fun b737 =>
  rGq b737 false (some (.v (.int .i64 n20))) fun b738 v739 =>
  rGq b738 false (some (.v (.int .i64 n26))) fun b740 v741 =>
  rGq b740 false (aBin Tryd.prog .neq 3 v739 v741) fun b742 v743 =>
  okBool (pickR (some (.v (.bool b742))) (some (.v (.bool true))) (some v743)) fun b744 =>
  rGq b744 false (some (.v (.int .i64 n21))) fun b745 v746 =>
  rGq b745 false (some (.v (.int .i64 n27))) fun b747 v748 =>
  rGq b747 false (aBin Tryd.prog .neq 25 v746 v748) fun b749 v750 =>
  okBool (pickR (some (.v (.bool b749))) (some (.v (.bool true))) (some v750)) fun b751 =>
  rGq b751 false (some (.v (.int .i64 n33))) fun b752 v753 =>
  rGq b752 false (some (.v (.int .i64 n43))) fun b754 v755 =>
  rGq b754 false (aBin Tryd.prog .neq 25 v753 v755) fun b756 v757 =>
  okBool (pickR (some (.v (.bool b756))) (some (.v (.bool true))) (some v757)) fun b758 =>
  rGq b758 false (some (.v (.int .i64 n52))) fun b759 v760 =>
  rGq b759 false (some (.v (.int .i64 n61))) fun b761 v762 =>
  rGq b761 false (aBin Tryd.prog .neq 25 v760 v762) fun b763 v764 =>
  okBool (pickR (some (.v (.bool b763))) (some (.v (.bool true))) (some v764)) fun b765 =>
  condB b765
  (RetR h K (.v (.bool false)) h734)
  (okStr (aLoad Tryd.prog h734 9 (.ptr i34 0 0 4)) fun s766 =>
  okStr (aLoad Tryd.prog h734 9 (.ptr i44 0 0 4)) fun s767 =>
  rGq (ByteArray.toList s766 == ByteArray.toList s767) true (some (.ptr i34 0 0 5)) fun b768 v769 =>
  rGq b768 true (aLoad Tryd.prog h734 4 v769) fun b770 v771 =>
  rGq b770 true (some (.ptr i44 0 0 5)) fun b772 v773 =>
  rGq b772 true (aLoad Tryd.prog h734 4 v773) fun b774 v775 =>
  rGq b774 true (aBin Tryd.prog .eql 4 v771 v775) fun b776 v777 =>
  okBool (pickR (some (.v (.bool b776))) (some v777) (some (.v (.bool false)))) fun b778 =>
  rGq b778 true (some (.ptr i34 0 0 0)) fun b779 v780 =>
  rGq b779 true (aLoad Tryd.prog h734 45 v780) fun b781 v782 =>
  rGq b781 true (some (.ptr i44 0 0 0)) fun b783 v784 =>
  rGq b783 true (aLoad Tryd.prog h734 45 v784) fun b785 v786 =>
  rGe b785 true (fun k787 => callR Tryd.prog G 46 [v782, v786] h734 (fun v788 h789 =>
  k787 v788 h789)) h734 fun b790 v791 h792 =>
  okBool (pickR (some (.v (.bool b790))) (some v791) (some (.v (.bool false)))) fun b793 =>
  rGq b793 true (some (.ptr i34 0 0 2)) fun b794 v795 =>
  rGq b794 true (aLoad Tryd.prog h792 45 v795) fun b796 v797 =>
  rGq b796 true (some (.ptr i44 0 0 2)) fun b798 v799 =>
  rGq b798 true (aLoad Tryd.prog h792 45 v799) fun b800 v801 =>
  rGe b800 true (fun k802 => callR Tryd.prog G 46 [v797, v801] h792 (fun v803 h804 =>
  k802 v803 h804)) h792 fun b805 v806 h807 =>
  okBool (pickR (some (.v (.bool b805))) (some v806) (some (.v (.bool false)))) fun b808 =>
  rGq b808 true (aLoad Tryd.prog h807 45 (.ptr i53 0 0 0)) fun b809 v810 =>
  rGq b809 true (aLoad Tryd.prog h807 45 (.ptr i62 0 0 0)) fun b811 v812 =>
  rGe b811 true (fun k813 => callR Tryd.prog G 46 [v810, v812] h807 (fun v814 h815 =>
  k813 v814 h815)) h807 fun b816 v817 h818 =>
  okBool (pickR (some (.v (.bool b816))) (some v817) (some (.v (.bool false)))) fun b819 =>
  rGq b819 true (some (.ptr i0 0 0 0)) fun b820 v821 =>
  rGq b820 true (aLoad Tryd.prog h818 45 v821) fun b822 v823 =>
  rGq b822 true (some (.ptr i0 0 0 2)) fun b824 v825 =>
  rGq b824 true (aLoad Tryd.prog h818 45 v825) fun b826 v827 =>
  rGq b826 true (some (.ptr i0 0 0 0)) fun b828 v829 =>
  if b828 = true then okV (aLoad Tryd.prog h818 45 v829) fun v830 =>
  rGq true true (some (.ptr i0 0 0 2)) fun b831 v832 =>
  if b831 = true then okV (aLoad Tryd.prog h818 45 v832) fun v833 =>
  rGe true true (fun k834 => callR Tryd.prog G 47 [v823, v827] h818 (fun v835 h836 =>
  (aLoad Tryd.prog h836 45 v832 = some v833) ∧ (aLoad Tryd.prog h836 45 v829 = some v830) ∧ k834 v835 h836)) h818 fun b837 v838 h839 =>
  rGe b837 true (fun k840 => callR Tryd.prog G 46 [v830, v833] h839 (fun v841 h842 =>
  k840 v841 h842)) h839 fun b843 v844 h845 =>
  rGq b843 true (aBin Tryd.prog .eql 4 v838 v844) fun b846 v847 =>
  okBool (pickR (some (.v (.bool b846))) (some v847) (some (.v (.bool false)))) fun b848 =>
  rGe b848 true (fun k849 => callR Tryd.prog G 48 [] h845 (fun v850 h851 =>
  k849 v850 h851)) h845 fun b852 v853 h854 =>
  okBool (pickR (some (.v (.bool b852))) (some v853) (some (.v (.bool false)))) fun b855 =>
  RetR h K (.v (.bool b855)) h854
  else rGe false true (fun k856 => callR Tryd.prog G 47 [v823, v827] h818 (fun v857 h858 =>
  (aLoad Tryd.prog h858 45 v829 = some v830) ∧ k856 v857 h858)) h818 fun b859 v860 h861 =>
  rGe b859 true (fun k862 => callR Tryd.prog G 46 [v830, (.tup [])] h861 (fun v863 h864 =>
  k862 v863 h864)) h861 fun b865 v866 h867 =>
  rGq b865 true (aBin Tryd.prog .eql 4 v860 v866) fun b868 v869 =>
  okBool (pickR (some (.v (.bool b868))) (some v869) (some (.v (.bool false)))) fun b870 =>
  rGe b870 true (fun k871 => callR Tryd.prog G 48 [] h867 (fun v872 h873 =>
  k871 v872 h873)) h867 fun b874 v875 h876 =>
  okBool (pickR (some (.v (.bool b874))) (some v875) (some (.v (.bool false)))) fun b877 =>
  RetR h K (.v (.bool b877)) h876
  else rGq false true (some (.ptr i0 0 0 2)) fun b878 v879 =>
  if b878 = true then okV (aLoad Tryd.prog h818 45 v879) fun v880 =>
  rGe true true (fun k881 => callR Tryd.prog G 47 [v823, v827] h818 (fun v882 h883 =>
  (aLoad Tryd.prog h883 45 v879 = some v880) ∧ k881 v882 h883)) h818 fun b884 v885 h886 =>
  rGe b884 true (fun k887 => callR Tryd.prog G 46 [(.tup []), v880] h886 (fun v888 h889 =>
  k887 v888 h889)) h886 fun b890 v891 h892 =>
  rGq b890 true (aBin Tryd.prog .eql 4 v885 v891) fun b893 v894 =>
  okBool (pickR (some (.v (.bool b893))) (some v894) (some (.v (.bool false)))) fun b895 =>
  rGe b895 true (fun k896 => callR Tryd.prog G 48 [] h892 (fun v897 h898 =>
  k896 v897 h898)) h892 fun b899 v900 h901 =>
  okBool (pickR (some (.v (.bool b899))) (some v900) (some (.v (.bool false)))) fun b902 =>
  RetR h K (.v (.bool b902)) h901
  else rGe false true (fun k903 => callR Tryd.prog G 47 [v823, v827] h818 (fun v904 h905 =>
  k903 v904 h905)) h818 fun b906 v907 h908 =>
  rGe b906 true (fun k909 => callR Tryd.prog G 46 [(.tup []), (.tup [])] h908 (fun v910 h911 =>
  k909 v910 h911)) h908 fun b912 v913 h914 =>
  rGq b912 true (aBin Tryd.prog .eql 4 v907 v913) fun b915 v916 =>
  okBool (pickR (some (.v (.bool b915))) (some v916) (some (.v (.bool false)))) fun b917 =>
  rGe b917 true (fun k918 => callR Tryd.prog G 48 [] h914 (fun v919 h920 =>
  k918 v919 h920)) h914 fun b921 v922 h923 =>
  okBool (pickR (some (.v (.bool b921))) (some v922) (some (.v (.bool false)))) fun b924 =>
  RetR h K (.v (.bool b924)) h923)) 45 v60 (.ptr i62 0 0 0))) 45 v51 (.ptr i53 0 0 0))) 50 v42 (.ptr i44 0 0 0))) 48 v32 (.ptr i34 0 0 0))))) 50 v6 (.ptr i10 0 0 0)) 48 v4 (.ptr i8 0 0 0))))
theorem Tryd.c9 (G : Nat → Option AV) (a0 a1 a2 : AV) (h : AH) (K : AV → AH → Prop) (hk : LowH h.length h → Tryd.r9 G a0 a1 a2 h K) : SCall Tryd.prog G 9 [a0, a1, a2] h K :=
  scall_of_rwp Tryd.tab9 [] Tryd.func9 rfl Tryd.ntmps9 (by kernel_rfl) (by show 3 ≤ 143; decide) (by kernel_rfl) (by kernel_rfl) hk
-- 10 skylark/skylarklaw07.LayoutCursor
def Tryd.r10_l9_39 (K : AV → AH → Prop) (h : AH) (G : Nat → Option AV) (a1 : AV) (i8 : Nat) (h14 : AH) (n168 : Int) : Prop :=
  ∃ (I39 : Nat → List AV → AH → Prop) (m40 : Nat), I39 m40 [(.v (.int .i64 n168))] h14 ∧ ∀ (m41 : Nat) (h42 : AH), h14.length ≤ h42.length → LowH h42.length h42 → ∀ (n43 : Int), I39 m41 [(.v (.int .i64 n43))] h42 →
  okInt .i64 (aLen Tryd.prog h42 23 a1) fun n44 =>
  rGq (decide (n43 < n44)) true (some (.v (.int .i64 n43))) fun b45 v46 =>
  rGq b45 true (aBin Tryd.prog .lss 3 v46 (.v (.int .i64 50))) fun b47 v48 =>
  okBool (pickR (some (.v (.bool b47))) (some v48) (some (.v (.bool false)))) fun b49 =>
  condB b49
  (okV (aLoad Tryd.prog h42 48 (.ptr i8 0 0 0)) fun v50 =>
  okV (aIA Tryd.prog h42 23 a1 (.v (.int .i64 n43))) fun v51 =>
  okStr (aLoad Tryd.prog h42 9 v51) fun s52 =>
  callR Tryd.prog G 38 [v50, (.v (.string s52))] h42 (fun v53 h54 =>
  okV (extV 0 v53) fun v55 =>
  okInt .i64 (extV 1 v53) fun n56 =>
  newO (.cells 48 6 [[(.v (.int .i64 0)), (.v (.slice none 0 0)), (.v (.int .i64 0)), (.v (.slice none 0 0)), (.v (.string (ByteArray.mk #[]))), (.v (.bool false))]] 0) h54 fun i57 h58 =>
  (aLoad Tryd.prog h58 9 v51 = some (.v (.string s52))) ∧ (aIA Tryd.prog h58 23 a1 (.v (.int .i64 n43)) = some v51) ∧ (aLoad Tryd.prog h58 48 (.ptr i8 0 0 0) = some v50) ∧ storeR Tryd.prog h58 (fun v59 h60 =>
  okBool (aLoad Tryd.prog h60 4 (.ptr i8 0 0 5)) fun b61 =>
  rGq b61 false (some a1) fun b62 v63 =>
  rGq b62 false (some (.v (.int .i64 n43))) fun b64 v65 =>
  rGq b64 false (aIA Tryd.prog h60 23 v63 v65) fun b66 v67 =>
  rGq b66 false (aLoad Tryd.prog h60 9 v67) fun b68 v69 =>
  rGq b68 false (some (.ptr i8 0 0 4)) fun b70 v71 =>
  rGq b70 false (aLoad Tryd.prog h60 9 v71) fun b72 v73 =>
  rGq b72 false (aBin Tryd.prog .lss 9 v69 v73) fun b74 v75 =>
  okBool (pickR (some (.v (.bool b74))) (some (.v (.bool true))) (some v75)) fun b76 =>
  rGq b76 false (some a1) fun b77 v78 =>
  rGq b77 false (some (.v (.int .i64 n43))) fun b79 v80 =>
  rGq b79 false (aIA Tryd.prog h60 23 v78 v80) fun b81 v82 =>
  rGq b81 false (aLoad Tryd.prog h60 9 v82) fun b83 v84 =>
  rGq b83 false (aLen Tryd.prog h60 9 v84) fun b85 v86 =>
  rGq b85 false (aBin Tryd.prog .gtr 3 v86 (.v (.int .i64 64))) fun b87 v88 =>
  okBool (pickR (some (.v (.bool b87))) (some (.v (.bool true))) (some v88)) fun b89 =>
  condB b89
  (condB (n56 != 1)
  (RetR h K (.v (.bool false)) h60)
  (nextR h14 I39 m41 [some a1, some (.ptr i8 0 0 0)] [some a1, some (.ptr i8 0 0 0)] [(.v (.int .i64 (IntKind.wrap .i64 (n43 + 1))))] h60))
  (rGq (n56 != 0) false (some (.ptr i57 0 0 4)) fun b90 v91 =>
  rGq b90 false (aLoad Tryd.prog h60 9 v91) fun b92 v93 =>
  rGq b92 false (some a1) fun b94 v95 =>
  rGq b94 false (some (.v (.int .i64 n43))) fun b96 v97 =>
  rGq b96 false (aIA Tryd.prog h60 23 v95 v97) fun b98 v99 =>
  rGq b98 false (aLoad Tryd.prog h60 9 v99) fun b100 v101 =>
  rGq b100 false (aBin Tryd.prog .neq 9 v93 v101) fun b102 v103 =>
  okBool (pickR (some (.v (.bool b102))) (some (.v (.bool true))) (some v103)) fun b104 =>
  rGq b104 false (some (.ptr i57 0 0 5)) fun b105 v106 =>
  rGq b105 false (aLoad Tryd.prog h60 4 v106) fun b107 v108 =>
  okBool (pickR (some (.v (.bool b107))) (some (.v (.bool true))) (some v108)) fun b109 =>
  rGq b109 false (some (.ptr i57 0 0 0)) fun b110 v111 =>
  rGq b110 false (aLoad Tryd.prog h60 45 v111) fun b112 v113 =>
  rGq b112 false (some (.ptr i8 0 0 0)) fun b114 v115 =>
  rGq b114 false (aLoad Tryd.prog h60 45 v115) fun b116 v117 =>
  rGe b116 false (fun k118 => callR Tryd.prog G 47 [v113, v117] h60 (fun v119 h120 =>
  k118 v119 h120)) h60 fun b121 v122 h123 =>
  rGq b121 false (aUn .not v122) fun b124 v125 =>
  okBool (pickR (some (.v (.bool b124))) (some (.v (.bool true))) (some v125)) fun b126 =>
  rGq b126 false (some (.ptr i57 0 0 2)) fun b127 v128 =>
  rGq b127 false (aLoad Tryd.prog h123 45 v128) fun b129 v130 =>
  rGq b129 false (some (.ptr i8 0 0 2)) fun b131 v132 =>
  rGq b131 false (aLoad Tryd.prog h123 45 v132) fun b133 v134 =>
  rGe b133 false (fun k135 => callR Tryd.prog G 47 [v130, v134] h123 (fun v136 h137 =>
  k135 v136 h137)) h123 fun b138 v139 h140 =>
  rGq b138 false (aUn .not v139) fun b141 v142 =>
  okBool (pickR (some (.v (.bool b141))) (some (.v (.bool true))) (some v142)) fun b143 =>
  rGq b143 false (aLoad Tryd.prog h140 48 (.ptr i57 0 0 0)) fun b144 v145 =>
  rGe b144 false (fun k146 => callR Tryd.prog G 44 [v145] h140 (fun v147 h148 =>
  k146 v147 h148)) h140 fun b149 v150 h151 =>
  rGq b149 false (aBin Tryd.prog .neq 25 v150 (.v (.int .i64 0))) fun b152 v153 =>
  okBool (pickR (some (.v (.bool b152))) (some (.v (.bool true))) (some v153)) fun b154 =>
  condB b154
  (RetR h K (.v (.bool false)) h151)
  (okV (aLoad Tryd.prog h151 48 (.ptr i57 0 0 0)) fun v155 =>
  storeR Tryd.prog h151 (fun v156 h157 =>
  nextR h14 I39 m41 [some a1, some (.ptr i8 0 0 0)] [some a1, some (.ptr i8 0 0 0)] [(.v (.int .i64 (IntKind.wrap .i64 (n43 + 1))))] h157) 48 v155 (.ptr i8 0 0 0)))) 48 v55 (.ptr i57 0 0 0)))
  (okV (aLoad Tryd.prog h42 48 (.ptr i8 0 0 0)) fun v158 =>
  callR Tryd.prog G 40 [v158] h42 (fun v159 h160 =>
  okV (extV 0 v159) fun v161 =>
  okInt .i64 (extV 1 v159) fun n162 =>
  newO (.cells 45 2 [[(.v (.int .i64 0)), (.v (.slice none 0 0))]] 0) h160 fun i163 h164 =>
  storeR Tryd.prog h164 (fun v165 h166 =>
  okBool (aLoad Tryd.prog h166 4 (.ptr i8 0 0 5)) fun b167 =>
  RetR h K (.v (.bool ((n162 == 0) == b167))) h166) 45 v161 (.ptr i163 0 0 0)))
def Tryd.r10 (G : Nat → Option AV) (a0 a1 : AV) (h : AH) (K : AV → AH → Prop) : Prop :=
  onlyB (AV.one a0) (newO (.cells 47 (AV.cells a0).length [AV.cells a0] 0) h fun i0 h1 =>
  callR Tryd.prog G 48 [] h1 (fun v2 h3 =>
  okBool (some v2) fun b4 =>
  condB (!b4)
  (RetR h K (.v (.bool false)) h3)
  (okV (aLoad Tryd.prog h3 47 (.ptr i0 0 0 0)) fun v5 =>
  callR Tryd.prog G 34 [v5] h3 (fun v6 h7 =>
  newO (.cells 48 6 [[(.v (.int .i64 0)), (.v (.slice none 0 0)), (.v (.int .i64 0)), (.v (.slice none 0 0)), (.v (.string (ByteArray.mk #[]))), (.v (.bool false))]] 0) h7 fun i8 h9 =>
  storeR Tryd.prog h9 (fun v10 h11 =>
  okV (aLoad Tryd.prog h11 48 (.ptr i8 0 0 0)) fun v12 =>
  callR Tryd.prog G 44 [v12] h11 (fun v13 h14 =>
  okInt .i64 (some v13) fun n15 =>
  condB (n15 != 0)
  (okV (aLoad Tryd.prog h14 48 (.ptr i8 0 0 0)) fun v16 =>
  callR Tryd.prog G 38 [v16, (.v (.string (ByteArray.mk #[])))] h14 (fun v17 h18 =>
  okV (extV 0 v17) fun v19 =>
  okInt .i64 (extV 1 v17) fun n20 =>
  newO (.cells 48 6 [[(.v (.int .i64 0)), (.v (.slice none 0 0)), (.v (.int .i64 0)), (.v (.slice none 0 0)), (.v (.string (ByteArray.mk #[]))), (.v (.bool false))]] 0) h18 fun i21 h22 =>
  storeR Tryd.prog h22 (fun v23 h24 =>
  okV (aLoad Tryd.prog h24 48 (.ptr i8 0 0 0)) fun v25 =>
  callR Tryd.prog G 40 [v25] h24 (fun v26 h27 =>
  okV (extV 0 v26) fun v28 =>
  okInt .i64 (extV 1 v26) fun n29 =>
  newO (.cells 45 2 [[(.v (.int .i64 0)), (.v (.slice none 0 0))]] 0) h27 fun i30 h31 =>
  storeR Tryd.prog h31 (fun v32 h33 =>
  rGq (n20 == 70) true (some (.v (.int .i64 n29))) fun b34 v35 =>
  rGq b34 true (aBin Tryd.prog .eql 25 v35 (.v (.int .i64 70))) fun b36 v37 =>
  okBool (pickR (some (.v (.bool b36))) (some v37) (some (.v (.bool false)))) fun b38 =>
  RetR h K (.v (.bool b38)) h33) 45 v28 (.ptr i30 0 0 0))) 48 v19 (.ptr i21 0 0 0)))
  (Tryd.r10_l9_39 K h G a1 i8 h14 0))) 48 v6 (.ptr i8 0 0 0)))))
theorem Tryd.c10 (G : Nat → Option AV) (a0 a1 : AV) (h : AH) (K : AV → AH → Prop) (hk : LowH h.length h → Tryd.r10 G a0 a1 h K) : SCall Tryd.prog G 10 [a0, a1] h K :=
  scall_of_rwp Tryd.tab10 [(9, [(10, (.int .i64))], [1, 5])] Tryd.func10 rfl Tryd.ntmps10 (by kernel_rfl) (by show 2 ≤ 125; decide) (by kernel_rfl) (by kernel_rfl) hk
-- 11 skylark/skylarklaw07.LayoutNext
def Tryd.r11 (G : Nat → Option AV) (a0 a1 a2 : AV) (h : AH) (K : AV → AH → Prop) : Prop :=
  onlyB (AV.one a0) (newO (.cells 47 (AV.cells a0).length [AV.cells a0] 0) h fun i0 h1 =>
  okInt .i64 (aLen Tryd.prog h1 23 a1) fun n2 =>
  condB (decide (n2 > 60))
  (callR Tryd.prog G 48 [] h1 (fun v3 h4 =>
  okBool (some v3) fun b5 =>
  RetR h K (.v (.bool b5)) h4))
  (newO (.cells 9 1 [] 0) h1 fun i6 h7 =>
  appR Tryd.prog h7 23 23 (.sl i6 0 0 0 none) a1 (fun v8 h9 =>
  okV (aLoad Tryd.prog h9 47 (.ptr i0 0 0 0)) fun v10 =>
  callR Tryd.prog G 34 [v10] h9 (fun v11 h12 =>
  okInt .i64 (some a2) fun n13 =>
  callR Tryd.prog G 49 [v11, v8, (.v (.int .i64 n13))] h12 (fun v14 h15 =>
  okStr (extV 0 v14) fun s16 =>
  okV (extV 1 v14) fun v17 =>
  okBool (extV 2 v14) fun b18 =>
  okInt .i64 (extV 3 v14) fun n19 =>
  okV (aLoad Tryd.prog h15 47 (.ptr i0 0 0 0)) fun v20 =>
  callR Tryd.prog G 35 [v20] h15 (fun v21 h22 =>
  okInt .i64 (some a2) fun n23 =>
  callR Tryd.prog G 50 [v21, a1, (.v (.int .i64 n23))] h22 (fun v24 h25 =>
  okStr (extV 0 v24) fun s26 =>
  okV (extV 1 v24) fun v27 =>
  okBool (extV 2 v24) fun b28 =>
  okInt .i64 (extV 3 v24) fun n29 =>
  rGq (ByteArray.toList s16 == ByteArray.toList s26) true (some v17) fun b30 v31 =>
  rGq b30 true (some v27) fun b32 v33 =>
  rGe b32 true (fun k34 => callR Tryd.prog G 24 [v31, v33] h25 (fun v35 h36 =>
  k34 v35 h36)) h25 fun b37 v38 h39 =>
  okBool (pickR (some (.v (.bool b37))) (some v38) (some (.v (.bool false)))) fun b40 =>
  rGq b40 true (some (.v (.bool b18))) fun b41 v42 =>
  rGq b41 true (some (.v (.bool b28))) fun b43 v44 =>
  rGq b43 true (aBin Tryd.prog .eql 4 v42 v44) fun b45 v46 =>
  okBool (pickR (some (.v (.bool b45))) (some v46) (some (.v (.bool false)))) fun b47 =>
  rGq b47 true (some (.v (.int .i64 n19))) fun b48 v49 =>
  rGq b48 true (some (.v (.int .i64 n29))) fun b50 v51 =>
  rGq b50 true (aBin Tryd.prog .eql 25 v49 v51) fun b52 v53 =>
  okBool (pickR (some (.v (.bool b52))) (some v53) (some (.v (.bool false)))) fun b54 =>
  rGq b54 true (some v8) fun b55 v56 =>
  rGq b55 true (some a1) fun b57 v58 =>
  rGe b57 true (fun k59 => callR Tryd.prog G 32 [v56, v58] h39 (fun v60 h61 =>
  k59 v60 h61)) h39 fun b62 v63 h64 =>
  okBool (pickR (some (.v (.bool b62))) (some v63) (some (.v (.bool false)))) fun b65 =>
  rGe b65 true (fun k66 => callR Tryd.prog G 48 [] h64 (fun v67 h68 =>
  k66 v67 h68)) h64 fun b69 v70 h71 =>
  okBool (pickR (some (.v (.bool b69))) (some v70) (some (.v (.bool false)))) fun b72 =>
  RetR h K (.v (.bool b72)) h71)))))))
theorem Tryd.c11 (G : Nat → Option AV) (a0 a1 a2 : AV) (h : AH) (K : AV → AH → Prop) (hk : LowH h.length h → Tryd.r11 G a0 a1 a2 h K) : SCall Tryd.prog G 11 [a0, a1, a2] h K :=
  scall_of_rwp Tryd.tab11 [] Tryd.func11 rfl Tryd.ntmps11 (by kernel_rfl) (by show 3 ≤ 69; decide) (by kernel_rfl) (by kernel_rfl) hk
-- 12 skylark/skylarklaw07.LayoutOnce
def Tryd.r12_l30_130 (K : AV → AH → Prop) (h : AH) (G : Nat → Option AV) (a1 : AV) (a2 : AV) (i0 : Nat) (i8 : Nat) (i27 : Nat) (h28 : AH) (I29 : Nat → List AV → AH → Prop) (m31 : Nat) (n33 : Int) (b41 : Bool) (h128 : AH) (n129 : Int) (n213 : Int) : Prop :=
  ∃ (I130 : Nat → List AV → AH → Prop) (m131 : Nat), I130 m131 [(.v (.int .i64 n213))] h128 ∧ ∀ (m132 : Nat) (h133 : AH), h128.length ≤ h133.length → LowH h133.length h133 → ∀ (n134 : Int), I130 m132 [(.v (.int .i64 n134))] h133 →
  condB (decide (n134 < n129))
  (okV (aIA Tryd.prog h133 23 a1 (.v (.int .i64 n134))) fun v135 =>
  okStr (aLoad Tryd.prog h133 9 v135) fun s136 =>
  okV (aLoad Tryd.prog h133 22 (.ptr i0 0 0 1)) fun v137 =>
  callR Tryd.prog G 19 [v137, (.v (.string s136))] h133 (fun v138 h139 =>
  okInt .i64 (extV 0 v138) fun n140 =>
  okInt .i64 (extV 1 v138) fun n141 =>
  okV (aLoad Tryd.prog h139 22 (.ptr i0 0 0 3)) fun v142 =>
  callR Tryd.prog G 19 [v142, (.v (.string s136))] h139 (fun v143 h144 =>
  okInt .i64 (extV 0 v143) fun n145 =>
  okInt .i64 (extV 1 v143) fun n146 =>
  rGq b41 false (some (.v (.string s136))) fun b147 v148 =>
  rGq b147 false (some (.ptr i8 0 0 4)) fun b149 v150 =>
  rGq b149 false (aLoad Tryd.prog h144 9 v150) fun b151 v152 =>
  rGq b151 false (aBin Tryd.prog .lss 9 v148 v152) fun b153 v154 =>
  okBool (pickR (some (.v (.bool b153))) (some (.v (.bool true))) (some v154)) fun b155 =>
  okV (aLoad Tryd.prog h144 48 (.ptr i8 0 0 0)) fun v156 =>
  callR Tryd.prog G 36 [v156, (.v (.string s136))] h144 (fun v157 h158 =>
  okInt .i64 (extV 0 v157) fun n159 =>
  okInt .i64 (extV 1 v157) fun n160 =>
  rGq (n160 != 0) false (some (.v (.bool b155))) fun b161 v162 =>
  rGq b161 false (some v162) fun b163 v164 =>
  okG (some v164) true fun b165 g11 =>
  rGq b165 true (some (.v (.int .i64 n159))) fun b166 v167 =>
  okG (some (g11 b166)) true fun c12 g13 =>
  rGq c12 true (some (.v (.int .i64 n145))) fun b168 v169 =>
  okG (some (g13 b168)) true fun c14 g15 =>
  rGq c14 true (aBin Tryd.prog .neq 3 v167 v169) fun b170 v171 =>
  rGq b163 false (pickR (some (g15 b170)) (some v171) (some (.v (.bool false)))) fun b172 v173 =>
  okBool (pickR (some (.v (.bool b172))) (some (.v (.bool true))) (some v173)) fun b174 =>
  rGq b174 false (some (.v (.bool b155))) fun b175 v176 =>
  rGq b175 false (aUn .not v176) fun b177 v178 =>
  rGq b177 false (some v178) fun b179 v180 =>
  okG (some v180) true fun b181 g16 =>
  rGq b181 true (some (.v (.int .i64 n159))) fun b182 v183 =>
  okG (some (g16 b182)) true fun c17 g18 =>
  rGq c17 true (some (.v (.int .i64 n140))) fun b184 v185 =>
  okG (some (g18 b184)) true fun c19 g20 =>
  rGq c19 true (aBin Tryd.prog .neq 3 v183 v185) fun b186 v187 =>
  rGq b179 false (pickR (some (g20 b186)) (some v187) (some (.v (.bool false)))) fun b188 v189 =>
  okBool (pickR (some (.v (.bool b188))) (some (.v (.bool true))) (some v189)) fun b190 =>
  rGq b190 false (some (.mp i27)) fun b191 v192 =>
  rGq b191 false (some (.v (.int .i64 n134))) fun b193 v194 =>
  rGq b193 false (aLookup Tryd.prog h158 67 false v192 v194) fun b195 v196 =>
  rGq b195 false (some (.v (.bool b155))) fun b197 v198 =>
  rGq b197 false (some v198) fun b199 v200 =>
  okG (some v200) true fun b201 g21 =>
  rGq b201 true (some (.v (.int .i64 n140))) fun b202 v203 =>
  okG (some (g21 b202)) true fun c22 g23 =>
  rGq c22 true (some (.v (.int .i64 n145))) fun b204 v205 =>
  okG (some (g23 b204)) true fun c24 g25 =>
  rGq c24 true (aBin Tryd.prog .neq 3 v203 v205) fun b206 v207 =>
  rGq b199 false (pickR (some (g25 b206)) (some v207) (some (.v (.bool false)))) fun b208 v209 =>
  rGq b208 false (aBin Tryd.prog .neq 4 v196 v209) fun b210 v211 =>
  okBool (pickR (some (.v (.bool b210))) (some (.v (.bool true))) (some v211)) fun b212 =>
  condB b212
  (RetR h K (.v (.bool false)) h158)
  (nextR h128 I130 m132 [some a1, some a2, some (.ptr i0 0 0 0), some (.ptr i8 0 0 0), some (.mp i27), some (.v (.int .i64 n33)), some (.v (.bool b41)), some a1, some (.v (.int .i64 n129))] [some a1, some a2, some (.ptr i0 0 0 0), some (.ptr i8 0 0 0), some (.mp i27), some (.v (.int .i64 n33)), some (.v (.bool b41)), some a1, some (.v (.int .i64 n129))] [(.v (.int .i64 (IntKind.wrap .i64 (n134 + 1))))] h158)))))
  (condB b41
  (RetR h K (.v (.bool true)) h133)
  (condB (decide (n33 > 50))
  (RetR h K (.v (.bool false)) h133)
  (nextR h28 I29 m31 [some a1, some a2, some (.ptr i0 0 0 0), some (.ptr i8 0 0 0), some (.mp i27)] [some a1, some a2, some (.ptr i0 0 0 0), some (.ptr i8 0 0 0), some (.mp i27)] [(.v (.int .i64 (IntKind.wrap .i64 (n33 + 1))))] h133)))
def Tryd.r12_j129 (G : Nat → Option AV) (h : AH) (K : AV → AH → Prop) (a1 : AV) (a2 : AV) (i0 : Nat) (i8 : Nat) (i27 : Nat) (h28 : AH) (I29 : Nat → List AV → AH → Prop) (m31 : Nat) (n33 : Int) (b41 : Bool) (h128 : AH) : Prop :=
  okInt .i64 (aLen Tryd.prog h128 23 a1) fun n129 =>
  Tryd.r12_l30_130 K h G a1 a2 i0 i8 i27 h28 I29 m31 n33 b41 h128 n129 0
def Tryd.r12_l17_66 (K : AV → AH → Prop) (h : AH) (G : Nat → Option AV) (a1 : AV) (a2 : AV) (i0 : Nat) (i8 : Nat) (i27 : Nat) (h28 : AH) (I29 : Nat → List AV → AH → Prop) (m31 : Nat) (n33 : Int) (h38 : AH) (s39 : ByteArray) (v40 : AV) (b41 : Bool) (n65 : Int) (n225 : Int) : Prop :=
  ∃ (I66 : Nat → List AV → AH → Prop) (m67 : Nat), I66 m67 [(.v (.int .i64 n225))] h38 ∧ ∀ (m68 : Nat) (h69 : AH), h38.length ≤ h69.length → LowH h69.length h69 → ∀ (n70 : Int), I66 m68 [(.v (.int .i64 n70))] h69 →
  condB (decide (n70 < n65))
  (okV (aIA Tryd.prog h69 22 v40 (.v (.int .i64 n70))) fun v71 =>
  okInt .i64 (aLoad Tryd.prog h69 3 v71) fun n72 =>
  rGq (decide (n72 < 0)) false (some (.v (.int .i64 n72))) fun b73 v74 =>
  rGq b73 false (some a1) fun b75 v76 =>
  rGq b75 false (aLen Tryd.prog h69 23 v76) fun b77 v78 =>
  rGq b77 false (aBin Tryd.prog .geq 3 v74 v78) fun b79 v80 =>
  okBool (pickR (some (.v (.bool b79))) (some (.v (.bool true))) (some v80)) fun b81 =>
  rGq b81 false (some (.mp i27)) fun b82 v83 =>
  rGq b82 false (some (.v (.int .i64 n72))) fun b84 v85 =>
  rGq b84 false (aLookup Tryd.prog h69 67 false v83 v85) fun b86 v87 =>
  okBool (pickR (some (.v (.bool b86))) (some (.v (.bool true))) (some v87)) fun b88 =>
  rGq b88 false (some a1) fun b89 v90 =>
  rGq b89 false (some (.v (.int .i64 n72))) fun b91 v92 =>
  rGq b91 false (aIA Tryd.prog h69 23 v90 v92) fun b93 v94 =>
  rGq b93 false (aLoad Tryd.prog h69 9 v94) fun b95 v96 =>
  rGq b95 false (some (.ptr i8 0 0 4)) fun b97 v98 =>
  rGq b97 false (aLoad Tryd.prog h69 9 v98) fun b99 v100 =>
  rGq b99 false (aBin Tryd.prog .lss 9 v96 v100) fun b101 v102 =>
  okBool (pickR (some (.v (.bool b101))) (some (.v (.bool true))) (some v102)) fun b103 =>
  rGq b103 false (some (.v (.bool b41))) fun b104 v105 =>
  rGq b104 false (aUn .not v105) fun b106 v107 =>
  rGq b106 false (some v107) fun b108 v109 =>
  okG (some v109) true fun b110 g0 =>
  rGq b110 true (some a1) fun b111 v112 =>
  okG (some (g0 b111)) true fun c1 g2 =>
  rGq c1 true (some (.v (.int .i64 n72))) fun b113 v114 =>
  okG (some (g2 b113)) true fun c3 g4 =>
  rGq c3 true (aIA Tryd.prog h69 23 v112 v114) fun b115 v116 =>
  okG (some (g4 b115)) true fun c5 g6 =>
  rGq c5 true (aLoad Tryd.prog h69 9 v116) fun b117 v118 =>
  okG (some (g6 b117)) true fun c7 g8 =>
  rGq c7 true (some (.v (.string s39))) fun b119 v120 =>
  okG (some (g8 b119)) true fun c9 g10 =>
  rGq c9 true (aBin Tryd.prog .geq 9 v118 v120) fun b121 v122 =>
  rGq b108 false (pickR (some (g10 b121)) (some v122) (some (.v (.bool false)))) fun b123 v124 =>
  okBool (pickR (some (.v (.bool b123))) (some (.v (.bool true))) (some v124)) fun b125 =>
  condB b125
  (RetR h K (.v (.bool false)) h69)
  (mapR Tryd.prog h69 (fun v126 h127 =>
  nextR h38 I66 m68 [some a1, some a2, some (.ptr i0 0 0 0), some (.ptr i8 0 0 0), some (.mp i27), some (.v (.int .i64 n33)), some (.v (.string s39)), some (.v (.bool b41)), some v40, some (.v (.int .i64 n65))] [some a1, some a2, some (.ptr i0 0 0 0), some (.ptr i8 0 0 0), some (.mp i27), some (.v (.int .i64 n33)), some (.v (.string s39)), some (.v (.bool b41)), some v40, some (.v (.int .i64 n65))] [(.v (.int .i64 (IntKind.wrap .i64 (n70 + 1))))] h127) 67 (.mp i27) (.v (.int .i64 n72)) (.v (.bool true))))
  (condB b41
  (storeR Tryd.prog h69 (fun v214 h215 =>
  storeR Tryd.prog h215 (fun v216 h217 =>
  Tryd.r12_j129 G h K a1 a2 i0 i8 i27 h28 I29 m31 n33 b41 h217) 4 (.v (.bool true)) (.ptr i8 0 0 5)) 9 (.v (.string (ByteArray.mk #[]))) (.ptr i8 0 0 4))
  (okV (aLoad Tryd.prog h69 48 (.ptr i8 0 0 0)) fun v218 =>
  callR Tryd.prog G 38 [v218, (.v (.string s39))] h69 (fun v219 h220 =>
  okV (extV 0 v219) fun v221 =>
  okInt .i64 (extV 1 v219) fun n222 =>
  storeR Tryd.prog h220 (fun v223 h224 =>
  condB (n222 != 0)
  (RetR h K (.v (.bool false)) h224)
  (Tryd.r12_j129 G h K a1 a2 i0 i8 i27 h28 I29 m31 n33 b41 h224)) 48 v221 (.ptr i8 0 0 0))))
def Tryd.r12_j36 (G : Nat → Option AV) (h : AH) (K : AV → AH → Prop) (a1 : AV) (a2 : AV) (i0 : Nat) (i8 : Nat) (i27 : Nat) (h28 : AH) (I29 : Nat → List AV → AH → Prop) (m31 : Nat) (n33 : Int) (n34 : Int) (h35 : AH) : Prop :=
  okV (aLoad Tryd.prog h35 48 (.ptr i8 0 0 0)) fun v36 =>
  callR Tryd.prog G 49 [v36, a1, (.v (.int .i64 n34))] h35 (fun v37 h38 =>
  okStr (extV 0 v37) fun s39 =>
  okV (extV 1 v37) fun v40 =>
  okBool (extV 2 v37) fun b41 =>
  okInt .i64 (extV 3 v37) fun n42 =>
  condB (n42 != 0)
  (rGq (n42 == 1) true (some (.v (.int .i64 n33))) fun b43 v44 =>
  rGq b43 true (aBin Tryd.prog .eql 3 v44 (.v (.int .i64 0))) fun b45 v46 =>
  okBool (pickR (some (.v (.bool b45))) (some v46) (some (.v (.bool false)))) fun b47 =>
  rGq b47 true (some (.v (.string s39))) fun b48 v49 =>
  rGq b48 true (aBin Tryd.prog .eql 9 v49 (.v (.string (ByteArray.mk #[])))) fun b50 v51 =>
  okBool (pickR (some (.v (.bool b50))) (some v51) (some (.v (.bool false)))) fun b52 =>
  rGq b52 true (some v40) fun b53 v54 =>
  rGq b53 true (aLen Tryd.prog h38 22 v54) fun b55 v56 =>
  rGq b55 true (aBin Tryd.prog .eql 3 v56 (.v (.int .i64 0))) fun b57 v58 =>
  okBool (pickR (some (.v (.bool b57))) (some v58) (some (.v (.bool false)))) fun b59 =>
  rGq b59 true (some (.v (.bool b41))) fun b60 v61 =>
  rGq b60 true (aUn .not v61) fun b62 v63 =>
  okBool (pickR (some (.v (.bool b62))) (some v63) (some (.v (.bool false)))) fun b64 =>
  RetR h K (.v (.bool b64)) h38)
  (okInt .i64 (aLen Tryd.prog h38 22 v40) fun n65 =>
  Tryd.r12_l17_66 K h G a1 a2 i0 i8 i27 h28 I29 m31 n33 h38 s39 v40 b41 n65 0))
def Tryd.r12_l10_29 (K : AV → AH → Prop) (h : AH) (G : Nat → Option AV) (a1 : AV) (a2 : AV) (i0 : Nat) (i8 : Nat) (i27 : Nat) (h28 : AH) (n229 : Int) : Prop :=
  ∃ (I29 : Nat → List AV → AH → Prop) (m30 : Nat), I29 m30 [(.v (.int .i64 n229))] h28 ∧ ∀ (m31 : Nat) (h32 : AH), h28.length ≤ h32.length → LowH h32.length h32 → ∀ (n33 : Int), I29 m31 [(.v (.int .i64 n33))] h32 →
  okInt .i64 (aLen Tryd.prog h32 22 a2) fun n226 =>
  condB (decide (n33 < n226))
  (okV (aIA Tryd.prog h32 22 a2 (.v (.int .i64 n33))) fun v227 =>
  okInt .i64 (aLoad Tryd.prog h32 3 v227) fun n228 =>
  Tryd.r12_j36 G h K a1 a2 i0 i8 i27 h28 I29 m31 n33 (IntKind.wrap .i64 (1 + (IntKind.wrap .i64 (Int.tmod (IntKind.wrap .u64 n228) 5)))) h32)
  (Tryd.r12_j36 G h K a1 a2 i0 i8 i27 h28 I29 m31 n33 1 h32)
def Tryd.r12 (G : Nat → Option AV) (a0 a1 a2 : AV) (h : AH) (K : AV → AH → Prop) : Prop :=
  onlyB (AV.one a0) (newO (.cells 47 (AV.cells a0).length [AV.cells a0] 0) h fun i0 h1 =>
  callR Tryd.prog G 48 [] h1 (fun v2 h3 =>
  okBool (some v2) fun b4 =>
  condB (!b4)
  (RetR h K (.v (.bool false)) h3)
  (okV (aLoad Tryd.prog h3 47 (.ptr i0 0 0 0)) fun v5 =>
  callR Tryd.prog G 34 [v5] h3 (fun v6 h7 =>
  newO (.cells 48 6 [[(.v (.int .i64 0)), (.v (.slice none 0 0)), (.v (.int .i64 0)), (.v (.slice none 0 0)), (.v (.string (ByteArray.mk #[]))), (.v (.bool false))]] 0) h7 fun i8 h9 =>
  storeR Tryd.prog h9 (fun v10 h11 =>
  storeR Tryd.prog h11 (fun v12 h13 =>
  storeR Tryd.prog h13 (fun v14 h15 =>
  okV (aLoad Tryd.prog h15 48 (.ptr i8 0 0 0)) fun v16 =>
  callR Tryd.prog G 44 [v16] h15 (fun v17 h18 =>
  okInt .i64 (some v17) fun n19 =>
  rGq (n19 != 0) false (some a1) fun b20 v21 =>
  rGq b20 false (aLen Tryd.prog h18 23 v21) fun b22 v23 =>
  rGq b22 false (aBin Tryd.prog .gtr 3 v23 (.v (.int .i64 40))) fun b24 v25 =>
  okBool (pickR (some (.v (.bool b24))) (some (.v (.bool true))) (some v25)) fun b26 =>
  condB b26
  (RetR h K (.v (.bool true)) h18)
  (newO (.map [] 0) h18 fun i27 h28 =>
  Tryd.r12_l10_29 K h G a1 a2 i0 i8 i27 h28 0))) 4 (.v (.bool false)) (.ptr i8 0 0 5)) 9 (.v (.string (ByteArray.mk #[]))) (.ptr i8 0 0 4)) 48 v6 (.ptr i8 0 0 0)))))
theorem Tryd.c12 (G : Nat → Option AV) (a0 a1 a2 : AV) (h : AH) (K : AV → AH → Prop) (hk : LowH h.length h → Tryd.r12 G a0 a1 a2 h K) : SCall Tryd.prog G 12 [a0, a1, a2] h K :=
  scall_of_rwp Tryd.tab12 [(10, [(9, (.int .i64))], [1, 2, 3, 7, 8]), (17, [(88, (.int .i64))], [1, 2, 3, 7, 8, 9, 11, 13, 86, 87]), (30, [(142, (.int .i64))], [1, 2, 3, 7, 8, 9, 13, 140, 141])] Tryd.func12 rfl Tryd.ntmps12 (by kernel_rfl) (by show 3 ≤ 211; decide) (by kernel_rfl) (by kernel_rfl) hk
end Go.Proofs

/-
  Of each function its body as a plain statement, and that a call follows from it: printed by wip/gen/Res.lean.
-/
namespace Go.Proofs
open Go Go.Abs
set_option linter.unusedVariables false
set_option maxRecDepth 100000
-- 13 skylark/skylarklaw24.ClientEnds
def Tryd.r13_l24_90 (K : AV → AH → Prop) (h : AH) (n6 : Int) (n10 : Int) (v15 : AV) (n49 : Int) (i56 : Nat) (h59 : AH) (I60 : Nat → List AV → AH → Prop) (m62 : Nat) (n65 : Int) (v87 : AV) (h88 : AH) (n89 : Int) (n105 : Int) (n106 : Int) : Prop :=
  ∃ (I90 : Nat → List AV → AH → Prop) (m91 : Nat), I90 m91 [(.v (.int .i64 n105)), (.v (.int .i64 n106))] h88 ∧ ∀ (m92 : Nat) (h93 : AH), h88.length ≤ h93.length → LowH h93.length h93 → ∀ (n94 : Int) (n95 : Int), I90 m92 [(.v (.int .i64 n94)), (.v (.int .i64 n95))] h93 →
  condB (decide (n95 < n89))
  (okV (aIA Tryd.prog h93 75 v87 (.v (.int .i64 n95))) fun v96 =>
  okV (aLoad Tryd.prog h93 78 v96) fun v97 =>
  newO (.cells 78 2 [[(.v (.int .i64 0)), (.v (.string (ByteArray.mk #[])))]] 0) h93 fun i98 h99 =>
  storeR Tryd.prog h99 (fun v100 h101 =>
  okV (aLoad Tryd.prog h101 78 (.ptr i98 0 0 0)) fun v102 =>
  okV (aLoad Tryd.prog h101 78 (.ptr i56 0 0 0)) fun v103 =>
  okBool (aBin Tryd.prog .neq 78 v102 v103) fun b104 =>
  condB b104
  (RetR h K (.v (.bool false)) h101)
  (nextR h88 I90 m92 [some (.v (.int .i64 (IntKind.wrap .i64 (1 + n6)))), some (.v (.int .i64 (IntKind.wrap .i64 (1 + n10)))), some v15, some (.v (.int .i64 n49)), some (.ptr i56 0 0 0), some (.v (.int .i64 n65)), some v87, some (.v (.int .i64 n89))] [some (.v (.int .i64 (IntKind.wrap .i64 (1 + n6)))), some (.v (.int .i64 (IntKind.wrap .i64 (1 + n10)))), some v15, some (.v (.int .i64 n49)), some (.ptr i56 0 0 0), some (.v (.int .i64 n65)), some v87, some (.v (.int .i64 n89))] [(.v (.int .i64 (IntKind.wrap .i64 (n94 + 1)))), (.v (.int .i64 (IntKind.wrap .i64 (n95 + 1))))] h101)) 78 v97 (.ptr i98 0 0 0))
  (nextR h59 I60 m62 [some (.v (.int .i64 (IntKind.wrap .i64 (1 + n6)))), some (.v (.int .i64 (IntKind.wrap .i64 (1 + n10)))), some v15, some (.v (.int .i64 n49)), some (.ptr i56 0 0 0)] [some (.v (.int .i64 (IntKind.wrap .i64 (1 + n6)))), some (.v (.int .i64 (IntKind.wrap .i64 (1 + n10)))), some v15, some (.v (.int .i64 n49)), some (.ptr i56 0 0 0)] [(.v (.int .i64 n94)), (.v (.int .i64 (IntKind.wrap .i64 (n65 + 1))))] h93)
def Tryd.r13_l18_60 (K : AV → AH → Prop) (h : AH) (G : Nat → Option AV) (n6 : Int) (n10 : Int) (v15 : AV) (n49 : Int) (i56 : Nat) (h59 : AH) (n155 : Int) (n156 : Int) : Prop :=
  ∃ (I60 : Nat → List AV → AH → Prop) (m61 : Nat), I60 m61 [(.v (.int .i64 n155)), (.v (.int .i64 n156))] h59 ∧ ∀ (m62 : Nat) (h63 : AH), h59.length ≤ h63.length → LowH h63.length h63 → ∀ (n64 : Int) (n65 : Int), I60 m62 [(.v (.int .i64 n64)), (.v (.int .i64 n65))] h63 →
  condB (decide (n65 ≤ (IntKind.wrap .i64 ((IntKind.wrap .i64 (1 + n6)) * (IntKind.wrap .i64 (1 + n10))))))
  (callR Tryd.prog G 57 [v15] h63 (fun v66 h67 =>
  okV (extV 0 v66) fun v68 =>
  okInt .i64 (extV 1 v66) fun n69 =>
  newO (.cells 83 5 [[(.v (.int .i64 0)), (.v (.int .i64 0)), (.v (.slice none 0 0)), (.v (.int .i64 0)), (.v (.int .i64 0))]] 0) h67 fun i70 h71 =>
  storeR Tryd.prog h71 (fun v72 h73 =>
  rGq (n69 != 5) false (some v15) fun b74 v75 =>
  rGq b74 false (some (.v (.int .i64 n65))) fun b76 v77 =>
  rGe b76 false (fun k78 => callR Tryd.prog G 58 [v75, v77] h73 (fun v79 h80 =>
  k78 v79 h80)) h73 fun b81 v82 h83 =>
  rGq b81 false (aBin Tryd.prog .neq 25 v82 (.v (.int .i64 0))) fun b84 v85 =>
  okBool (pickR (some (.v (.bool b84))) (some (.v (.bool true))) (some v85)) fun b86 =>
  condB b86
  (RetR h K (.v (.bool false)) h83)
  (callR Tryd.prog G 56 [v15] h83 (fun v87 h88 =>
  okInt .i64 (aLen Tryd.prog h88 75 v87) fun n89 =>
  Tryd.r13_l24_90 K h n6 n10 v15 n49 i56 h59 I60 m62 n65 v87 h88 n89 n64 0))) 83 v68 (.ptr i70 0 0 0)))
  (callR Tryd.prog G 57 [v15] h63 (fun v107 h108 =>
  okV (extV 0 v107) fun v109 =>
  okInt .i64 (extV 1 v107) fun n110 =>
  newO (.cells 83 5 [[(.v (.int .i64 0)), (.v (.int .i64 0)), (.v (.slice none 0 0)), (.v (.int .i64 0)), (.v (.int .i64 0))]] 0) h108 fun i111 h112 =>
  storeR Tryd.prog h112 (fun v113 h114 =>
  callR Tryd.prog G 59 [v15] h114 (fun v115 h116 =>
  okInt .i64 (extV 0 v115) fun n117 =>
  okInt .i64 (extV 1 v115) fun n118 =>
  okInt .i64 (extV 2 v115) fun n119 =>
  okBool (extV 3 v115) fun b120 =>
  okInt .i64 (aLoad Tryd.prog h116 3 (.ptr i56 0 0 0)) fun n121 =>
  rGq (n121 == n49) true (some (.v (.int .i64 n64))) fun b122 v123 =>
  rGq b122 true (some (.v (.int .i64 (IntKind.wrap .i64 (1 + n10))))) fun b124 v125 =>
  rGq b124 true (aBin Tryd.prog .eql 3 v123 v125) fun b126 v127 =>
  okBool (pickR (some (.v (.bool b126))) (some v127) (some (.v (.bool false)))) fun b128 =>
  rGq b128 true (some (.v (.int .i64 n110))) fun b129 v130 =>
  rGq b129 true (aBin Tryd.prog .eql 25 v130 (.v (.int .i64 0))) fun b131 v132 =>
  okBool (pickR (some (.v (.bool b131))) (some v132) (some (.v (.bool false)))) fun b133 =>
  rGq b133 true (some (.ptr i111 0 0 3)) fun b134 v135 =>
  rGq b134 true (aLoad Tryd.prog h116 81 v135) fun b136 v137 =>
  rGq b136 true (some (.agg [(.v (.int .i64 0)), (.v (.int .i64 241))])) fun b138 v139 =>
  rGq b138 true (aBin Tryd.prog .eql 81 v137 v139) fun b140 v141 =>
  okBool (pickR (some (.v (.bool b140))) (some v141) (some (.v (.bool false)))) fun b142 =>
  rGq b142 true (some (.v (.int .i64 n118))) fun b143 v144 =>
  rGq b143 true (some (.v (.int .i64 (IntKind.wrap .i64 (1 + n10))))) fun b145 v146 =>
  rGq b145 true (aBin Tryd.prog .eql 3 v144 v146) fun b147 v148 =>
  okBool (pickR (some (.v (.bool b147))) (some v148) (some (.v (.bool false)))) fun b149 =>
  rGq b149 true (some (.v (.bool b120))) fun b150 v151 =>
  rGq b150 true (aUn .not v151) fun b152 v153 =>
  okBool (pickR (some (.v (.bool b152))) (some v153) (some (.v (.bool false)))) fun b154 =>
  RetR h K (.v (.bool b154)) h116)) 83 v109 (.ptr i111 0 0 0)))
def Tryd.r13 (G : Nat → Option AV) (a0 a1 a2 : AV) (h : AH) (K : AV → AH → Prop) : Prop :=
  callR Tryd.prog G 51 [] h (fun v0 h1 =>
  okBool (some v0) fun b2 =>
  condB (!b2)
  (RetR h K (.v (.bool false)) h1)
  (okInt .i64 (some a0) fun n3 =>
  callR Tryd.prog G 52 [(.v (.int .i64 n3)), (.v (.int .i64 20))] h1 (fun v4 h5 =>
  okInt .i64 (some v4) fun n6 =>
  okInt .i64 (some a1) fun n7 =>
  callR Tryd.prog G 52 [(.v (.int .i64 n7)), (.v (.int .i64 10))] h5 (fun v8 h9 =>
  okInt .i64 (some v8) fun n10 =>
  newO (.cells 3 1 [[(.v (.int .i64 3))], [(.v (.int .i64 0))], [(.v (.int .i64 5))]] 0) h9 fun i11 h12 =>
  callR Tryd.prog G 53 [(.v (.int .i64 1)), (.v (.int .i64 (IntKind.wrap .i64 (1 + n6)))), (.v (.int .i64 (IntKind.wrap .i64 (1 + n10)))), (.agg [(.v (.int .i64 1)), (.sl i11 0 0 3 none)])] h12 (fun v13 h14 =>
  okV (extV 0 v13) fun v15 =>
  okInt .i64 (extV 1 v13) fun n16 =>
  okBool (aBin Tryd.prog .eql 69 v15 (.v (.pointer none))) fun b17 =>
  rGq b17 false (some (.v (.int .i64 n16))) fun b18 v19 =>
  rGq b18 false (aBin Tryd.prog .neq 25 v19 (.v (.int .i64 0))) fun b20 v21 =>
  okBool (pickR (some (.v (.bool b20))) (some (.v (.bool true))) (some v21)) fun b22 =>
  condB b22
  (RetR h K (.v (.bool false)) h14)
  (okStr (some a2) fun s23 =>
  callR Tryd.prog G 55 [(.v (.string s23))] h14 (fun v24 h25 =>
  callR Tryd.prog G 54 [v15, v24, (.v (.int .i64 0))] h25 (fun v26 h27 =>
  okInt .i64 (extV 0 v26) fun n28 =>
  okInt .i64 (extV 1 v26) fun n29 =>
  condB (n29 != 0)
  (rGq (n29 == 80) true (some a2) fun b30 v31 =>
  rGq b30 true (aBin Tryd.prog .eql 9 v31 (.v (.string (ByteArray.mk #[])))) fun b32 v33 =>
  rGq b32 true (some v33) fun b34 v35 =>
  okG (some v35) false fun b36 g0 =>
  rGq b36 false (some a2) fun b37 v38 =>
  okG (some (g0 b37)) false fun c1 g2 =>
  rGq c1 false (aLen Tryd.prog h27 9 v38) fun b39 v40 =>
  okG (some (g2 b39)) false fun c3 g4 =>
  rGq c3 false (aBin Tryd.prog .gtr 3 v40 (.v (.int .i64 64))) fun b41 v42 =>
  rGq b34 true (pickR (some (g4 b41)) (some (.v (.bool true))) (some v42)) fun b43 v44 =>
  okBool (pickR (some (.v (.bool b43))) (some v44) (some (.v (.bool false)))) fun b45 =>
  RetR h K (.v (.bool b45)) h27)
  (okStr (some a2) fun s46 =>
  callR Tryd.prog G 19 [(.sl i11 0 0 3 none), (.v (.string s46))] h27 (fun v47 h48 =>
  okInt .i64 (extV 0 v47) fun n49 =>
  okInt .i64 (extV 1 v47) fun n50 =>
  callR Tryd.prog G 56 [v15] h48 (fun v51 h52 =>
  okInt .i64 (aLen Tryd.prog h52 75 v51) fun n53 =>
  condB (n53 != 1)
  (RetR h K (.v (.bool false)) h52)
  (okV (aIA Tryd.prog h52 75 v51 (.v (.int .i64 0))) fun v54 =>
  okV (aLoad Tryd.prog h52 78 v54) fun v55 =>
  newO (.cells 78 2 [[(.v (.int .i64 0)), (.v (.string (ByteArray.mk #[])))]] 0) h52 fun i56 h57 =>
  storeR Tryd.prog h57 (fun v58 h59 =>
  Tryd.r13_l18_60 K h G n6 n10 v15 n49 i56 h59 1 1) 78 v55 (.ptr i56 0 0 0)))))))))))))
theorem Tryd.c13 (G : Nat → Option AV) (a0 a1 a2 : AV) (h : AH) (K : AV → AH → Prop) (hk : LowH h.length h → Tryd.r13 G a0 a1 a2 h K) : SCall Tryd.prog G 13 [a0, a1, a2] h K :=
  scall_of_rwp Tryd.tab13 [(18, [(16, (.int .i64)), (17, (.int .i64))], [0, 1, 8, 12, 15]), (24, [(16, (.int .i64)), (107, (.int .i64))], [0, 1, 8, 12, 15, 17, 105, 106])] Tryd.func13 rfl Tryd.ntmps13 (by kernel_rfl) (by show 3 ≤ 157; decide) (by kernel_rfl) (by kernel_rfl) hk
-- 14 skylark/skylarklaw18.AdminOwns
def Tryd.r14_l13_40 (K : AV → AH → Prop) (h : AH) (G : Nat → Option AV) (a0 : AV) (a1 : AV) (h4 : AH) (v5 : AV) (I13 : Nat → List AV → AH → Prop) (m15 : Nat) (n17 : Int) (n31 : Int) (b35 : Bool) (i36 : Nat) (h39 : AH) (n81 : Int) : Prop :=
  ∃ (I40 : Nat → List AV → AH → Prop) (m41 : Nat), I40 m41 [(.v (.int .i64 n81))] h39 ∧ ∀ (m42 : Nat) (h43 : AH), h39.length ≤ h43.length → LowH h43.length h43 → ∀ (n44 : Int), I40 m42 [(.v (.int .i64 n44))] h43 →
  okInt .i64 (aLen Tryd.prog h43 23 a1) fun n45 =>
  rGq (decide (n44 < n45)) true (some (.v (.int .i64 n44))) fun b46 v47 =>
  rGq b46 true (aBin Tryd.prog .lss 3 v47 (.v (.int .i64 5))) fun b48 v49 =>
  okBool (pickR (some (.v (.bool b48))) (some v49) (some (.v (.bool false)))) fun b50 =>
  condB b50
  (okV (aIA Tryd.prog h43 23 a1 (.v (.int .i64 n44))) fun v51 =>
  okStr (aLoad Tryd.prog h43 9 v51) fun s52 =>
  callR Tryd.prog G 65 [v5, (.v (.string s52))] h43 (fun v53 h54 =>
  okInt .i64 (extV 0 v53) fun n55 =>
  okInt .i64 (extV 1 v53) fun n56 =>
  condB (n31 == 0)
  (condB (n56 != 180)
  (RetR h K (.v (.bool false)) h54)
  (nextR h39 I40 m42 [some a0, some a1, some v5, some (.v (.int .i64 n17)), some (.v (.int .i64 n31)), some (.ptr i36 0 0 0), some (.v (.bool b35))] [some a0, some a1, some v5, some (.v (.int .i64 n17)), some (.v (.int .i64 n31)), some (.ptr i36 0 0 0), some (.v (.bool b35))] [(.v (.int .i64 (IntKind.wrap .i64 (n44 + 1))))] h54))
  (rGq (n56 != 0) false (some (.v (.int .i64 n55))) fun b57 v58 =>
  rGq b57 false (aBin Tryd.prog .lss 3 v58 (.v (.int .i64 0))) fun b59 v60 =>
  okBool (pickR (some (.v (.bool b59))) (some (.v (.bool true))) (some v60)) fun b61 =>
  rGq b61 false (some (.v (.int .i64 n55))) fun b62 v63 =>
  rGq b62 false (some (.v (.int .i64 n31))) fun b64 v65 =>
  rGq b64 false (aBin Tryd.prog .geq 3 v63 v65) fun b66 v67 =>
  okBool (pickR (some (.v (.bool b66))) (some (.v (.bool true))) (some v67)) fun b68 =>
  condB b68
  (RetR h K (.v (.bool false)) h54)
  (condB b35
  (okV (aLoad Tryd.prog h54 48 (.ptr i36 0 0 0)) fun v69 =>
  okV (aIA Tryd.prog h54 23 a1 (.v (.int .i64 n44))) fun v70 =>
  okStr (aLoad Tryd.prog h54 9 v70) fun s71 =>
  callR Tryd.prog G 36 [v69, (.v (.string s71))] h54 (fun v72 h73 =>
  okInt .i64 (extV 0 v72) fun n74 =>
  okInt .i64 (extV 1 v72) fun n75 =>
  rGq (n74 != n55) false (some (.v (.int .i64 n75))) fun b76 v77 =>
  rGq b76 false (aBin Tryd.prog .neq 25 v77 (.v (.int .i64 0))) fun b78 v79 =>
  okBool (pickR (some (.v (.bool b78))) (some (.v (.bool true))) (some v79)) fun b80 =>
  condB b80
  (RetR h K (.v (.bool false)) h73)
  (nextR h39 I40 m42 [some a0, some a1, some v5, some (.v (.int .i64 n17)), some (.v (.int .i64 n31)), some (.ptr i36 0 0 0), some (.v (.bool b35))] [some a0, some a1, some v5, some (.v (.int .i64 n17)), some (.v (.int .i64 n31)), some (.ptr i36 0 0 0), some (.v (.bool b35))] [(.v (.int .i64 (IntKind.wrap .i64 (n44 + 1))))] h73)))
  (nextR h39 I40 m42 [some a0, some a1, some v5, some (.v (.int .i64 n17)), some (.v (.int .i64 n31)), some (.ptr i36 0 0 0), some (.v (.bool b35))] [some a0, some a1, some v5, some (.v (.int .i64 n17)), some (.v (.int .i64 n31)), some (.ptr i36 0 0 0), some (.v (.bool b35))] [(.v (.int .i64 (IntKind.wrap .i64 (n44 + 1))))] h54)))))
  (nextR h4 I13 m15 [some a0, some a1, some v5] [some a0, some a1, some v5] [(.v (.int .i64 (IntKind.wrap .i64 (n17 + 1))))] h43)
def Tryd.r14_l7_13 (K : AV → AH → Prop) (h : AH) (G : Nat → Option AV) (a0 : AV) (a1 : AV) (h4 : AH) (v5 : AV) (n82 : Int) : Prop :=
  ∃ (I13 : Nat → List AV → AH → Prop) (m14 : Nat), I13 m14 [(.v (.int .i64 n82))] h4 ∧ ∀ (m15 : Nat) (h16 : AH), h4.length ≤ h16.length → LowH h16.length h16 → ∀ (n17 : Int), I13 m15 [(.v (.int .i64 n17))] h16 →
  okInt .i64 (aLen Tryd.prog h16 90 a0) fun n18 =>
  rGq (decide (n17 < n18)) true (some (.v (.int .i64 n17))) fun b19 v20 =>
  rGq b19 true (aBin Tryd.prog .lss 3 v20 (.v (.int .i64 60))) fun b21 v22 =>
  okBool (pickR (some (.v (.bool b21))) (some v22) (some (.v (.bool false)))) fun b23 =>
  condB b23
  (okV (aIA Tryd.prog h16 90 a0 (.v (.int .i64 n17))) fun v24 =>
  okV (aLoad Tryd.prog h16 96 v24) fun v25 =>
  callR Tryd.prog G 62 [v5, v25] h16 (fun v26 h27 =>
  okInt .i64 (some v26) fun n28 =>
  callR Tryd.prog G 63 [v5] h27 (fun v29 h30 =>
  okInt .i64 (aLen Tryd.prog h30 97 v29) fun n31 =>
  callR Tryd.prog G 64 [v5] h30 (fun v32 h33 =>
  okV (extV 0 v32) fun v34 =>
  okBool (extV 1 v32) fun b35 =>
  newO (.cells 48 6 [[(.v (.int .i64 0)), (.v (.slice none 0 0)), (.v (.int .i64 0)), (.v (.slice none 0 0)), (.v (.string (ByteArray.mk #[]))), (.v (.bool false))]] 0) h33 fun i36 h37 =>
  storeR Tryd.prog h37 (fun v38 h39 =>
  Tryd.r14_l13_40 K h G a0 a1 h4 v5 I13 m15 n17 n31 b35 i36 h39 0) 48 v34 (.ptr i36 0 0 0)))))
  (RetR h K (.v (.bool true)) h16)
def Tryd.r14 (G : Nat → Option AV) (a0 a1 : AV) (h : AH) (K : AV → AH → Prop) : Prop :=
  callR Tryd.prog G 60 [] h (fun v0 h1 =>
  okBool (some v0) fun b2 =>
  condB (!b2)
  (RetR h K (.v (.bool false)) h1)
  (callR Tryd.prog G 61 [(.v (.int .i64 16))] h1 (fun v3 h4 =>
  okV (extV 0 v3) fun v5 =>
  okInt .i64 (extV 1 v3) fun n6 =>
  okBool (aBin Tryd.prog .eql 91 v5 (.v (.pointer none))) fun b7 =>
  rGq b7 false (some (.v (.int .i64 n6))) fun b8 v9 =>
  rGq b8 false (aBin Tryd.prog .neq 25 v9 (.v (.int .i64 0))) fun b10 v11 =>
  okBool (pickR (some (.v (.bool b10))) (some (.v (.bool true))) (some v11)) fun b12 =>
  condB b12
  (RetR h K (.v (.bool false)) h4)
  (Tryd.r14_l7_13 K h G a0 a1 h4 v5 0))))
theorem Tryd.c14 (G : Nat → Option AV) (a0 a1 : AV) (h : AH) (K : AV → AH → Prop) (hk : LowH h.length h → Tryd.r14 G a0 a1 h K) : SCall Tryd.prog G 14 [a0, a1] h K :=
  scall_of_rwp Tryd.tab14 [(7, [(7, (.int .i64))], [0, 1, 5]), (13, [(11, (.int .i64))], [0, 1, 5, 7, 8, 9, 10])] Tryd.func14 rfl Tryd.ntmps14 (by kernel_rfl) (by show 2 ≤ 103; decide) (by kernel_rfl) (by kernel_rfl) hk
-- 15 skylark/skylarklaw18.AdminRefuses
def Tryd.r15_l22_113 (K : AV → AH → Prop) (h : AH) (G : Nat → Option AV) (a1 : AV) (a2 : AV) (h5 : AH) (v6 : AV) (I14 : Nat → List AV → AH → Prop) (m16 : Nat) (n18 : Int) (v25 : AV) (v53 : AV) (h87 : AH) (n112 : Int) (n182 : Int) : Prop :=
  ∃ (I113 : Nat → List AV → AH → Prop) (m114 : Nat), I113 m114 [(.v (.int .i64 n182))] h87 ∧ ∀ (m115 : Nat) (h116 : AH), h87.length ≤ h116.length → LowH h116.length h116 → ∀ (n117 : Int), I113 m115 [(.v (.int .i64 n117))] h116 →
  condB (decide (n117 < n112))
  (okV (aIA Tryd.prog h116 97 v53 (.v (.int .i64 n117))) fun v118 =>
  okV (aFA Tryd.prog 105 0 v118) fun v119 =>
  okInt .i64 (aLoad Tryd.prog h116 3 v119) fun n120 =>
  okV (aIA Tryd.prog h116 97 v25 (.v (.int .i64 n117))) fun v121 =>
  okV (aFA Tryd.prog 105 0 v121) fun v122 =>
  okInt .i64 (aLoad Tryd.prog h116 3 v122) fun n123 =>
  rGq (n120 != n123) false (some v53) fun b124 v125 =>
  rGq b124 false (some (.v (.int .i64 n117))) fun b126 v127 =>
  rGq b126 false (aIA Tryd.prog h116 97 v125 v127) fun b128 v129 =>
  rGq b128 false (aFA Tryd.prog 105 1 v129) fun b130 v131 =>
  rGq b130 false (aLoad Tryd.prog h116 22 v131) fun b132 v133 =>
  rGq b132 false (some v25) fun b134 v135 =>
  rGq b134 false (some (.v (.int .i64 n117))) fun b136 v137 =>
  rGq b136 false (aIA Tryd.prog h116 97 v135 v137) fun b138 v139 =>
  rGq b138 false (aFA Tryd.prog 105 1 v139) fun b140 v141 =>
  rGq b140 false (aLoad Tryd.prog h116 22 v141) fun b142 v143 =>
  rGe b142 false (fun k144 => callR Tryd.prog G 24 [v133, v143] h116 (fun v145 h146 =>
  k144 v145 h146)) h116 fun b147 v148 h149 =>
  rGq b147 false (aUn .not v148) fun b150 v151 =>
  okBool (pickR (some (.v (.bool b150))) (some (.v (.bool true))) (some v151)) fun b152 =>
  rGq b152 false (some v53) fun b153 v154 =>
  rGq b153 false (some (.v (.int .i64 n117))) fun b155 v156 =>
  rGq b155 false (aIA Tryd.prog h149 97 v154 v156) fun b157 v158 =>
  rGq b157 false (aFA Tryd.prog 105 2 v158) fun b159 v160 =>
  rGq b159 false (aLoad Tryd.prog h149 22 v160) fun b161 v162 =>
  rGq b161 false (some v25) fun b163 v164 =>
  rGq b163 false (some (.v (.int .i64 n117))) fun b165 v166 =>
  rGq b165 false (aIA Tryd.prog h149 97 v164 v166) fun b167 v168 =>
  rGq b167 false (aFA Tryd.prog 105 2 v168) fun b169 v170 =>
  rGq b169 false (aLoad Tryd.prog h149 22 v170) fun b171 v172 =>
  rGe b171 false (fun k173 => callR Tryd.prog G 24 [v162, v172] h149 (fun v174 h175 =>
  k173 v174 h175)) h149 fun b176 v177 h178 =>
  rGq b176 false (aUn .not v177) fun b179 v180 =>
  okBool (pickR (some (.v (.bool b179))) (some (.v (.bool true))) (some v180)) fun b181 =>
  condB b181
  (RetR h K (.v (.bool false)) h178)
  (nextR h87 I113 m115 [some a1, some a2, some v6, some (.v (.int .i64 n18)), some v25, some v53, some (.v (.int .i64 n112))] [some a1, some a2, some v6, some (.v (.int .i64 n18)), some v25, some v53, some (.v (.int .i64 n112))] [(.v (.int .i64 (IntKind.wrap .i64 (n117 + 1))))] h178))
  (nextR h5 I14 m16 [some a1, some a2, some v6] [some a1, some a2, some v6] [(.v (.int .i64 (IntKind.wrap .i64 (n18 + 1))))] h116)
def Tryd.r15_l8_14 (K : AV → AH → Prop) (h : AH) (G : Nat → Option AV) (a1 : AV) (a2 : AV) (h5 : AH) (v6 : AV) (n183 : Int) : Prop :=
  ∃ (I14 : Nat → List AV → AH → Prop) (m15 : Nat), I14 m15 [(.v (.int .i64 n183))] h5 ∧ ∀ (m16 : Nat) (h17 : AH), h5.length ≤ h17.length → LowH h17.length h17 → ∀ (n18 : Int), I14 m16 [(.v (.int .i64 n18))] h17 →
  okInt .i64 (aLen Tryd.prog h17 90 a1) fun n19 =>
  rGq (decide (n18 < n19)) true (some (.v (.int .i64 n18))) fun b20 v21 =>
  rGq b20 true (aBin Tryd.prog .lss 3 v21 (.v (.int .i64 80))) fun b22 v23 =>
  okBool (pickR (some (.v (.bool b22))) (some v23) (some (.v (.bool false)))) fun b24 =>
  condB b24
  (callR Tryd.prog G 63 [v6] h17 (fun v25 h26 =>
  callR Tryd.prog G 66 [v6] h26 (fun v27 h28 =>
  okV (extV 0 v27) fun v29 =>
  okBool (extV 1 v27) fun b30 =>
  newO (.cells 45 2 [[(.v (.int .i64 0)), (.v (.slice none 0 0))]] 0) h28 fun i31 h32 =>
  storeR Tryd.prog h32 (fun v33 h34 =>
  callR Tryd.prog G 64 [v6] h34 (fun v35 h36 =>
  okV (extV 0 v35) fun v37 =>
  okBool (extV 1 v35) fun b38 =>
  newO (.cells 48 6 [[(.v (.int .i64 0)), (.v (.slice none 0 0)), (.v (.int .i64 0)), (.v (.slice none 0 0)), (.v (.string (ByteArray.mk #[]))), (.v (.bool false))]] 0) h36 fun i39 h40 =>
  storeR Tryd.prog h40 (fun v41 h42 =>
  okStr (some a2) fun s43 =>
  callR Tryd.prog G 65 [v6, (.v (.string s43))] h42 (fun v44 h45 =>
  okInt .i64 (extV 0 v44) fun n46 =>
  okInt .i64 (extV 1 v44) fun n47 =>
  okV (aIA Tryd.prog h45 90 a1 (.v (.int .i64 n18))) fun v48 =>
  okV (aLoad Tryd.prog h45 96 v48) fun v49 =>
  callR Tryd.prog G 62 [v6, v49] h45 (fun v50 h51 =>
  okInt .i64 (some v50) fun n52 =>
  condB (n52 == 0)
  (nextR h5 I14 m16 [some a1, some a2, some v6] [some a1, some a2, some v6] [(.v (.int .i64 (IntKind.wrap .i64 (n18 + 1))))] h51)
  (callR Tryd.prog G 63 [v6] h51 (fun v53 h54 =>
  callR Tryd.prog G 66 [v6] h54 (fun v55 h56 =>
  okV (extV 0 v55) fun v57 =>
  okBool (extV 1 v55) fun b58 =>
  newO (.cells 45 2 [[(.v (.int .i64 0)), (.v (.slice none 0 0))]] 0) h56 fun i59 h60 =>
  storeR Tryd.prog h60 (fun v61 h62 =>
  callR Tryd.prog G 64 [v6] h62 (fun v63 h64 =>
  okV (extV 0 v63) fun v65 =>
  okBool (extV 1 v63) fun b66 =>
  newO (.cells 48 6 [[(.v (.int .i64 0)), (.v (.slice none 0 0)), (.v (.int .i64 0)), (.v (.slice none 0 0)), (.v (.string (ByteArray.mk #[]))), (.v (.bool false))]] 0) h64 fun i67 h68 =>
  storeR Tryd.prog h68 (fun v69 h70 =>
  okStr (some a2) fun s71 =>
  callR Tryd.prog G 65 [v6, (.v (.string s71))] h70 (fun v72 h73 =>
  okInt .i64 (extV 0 v72) fun n74 =>
  okInt .i64 (extV 1 v72) fun n75 =>
  okInt .i64 (aLen Tryd.prog h73 97 v53) fun n76 =>
  okInt .i64 (aLen Tryd.prog h73 97 v25) fun n77 =>
  rGq (n76 != n77) false (aLoad Tryd.prog h73 45 (.ptr i31 0 0 0)) fun b78 v79 =>
  rGq b78 false (aLoad Tryd.prog h73 45 (.ptr i59 0 0 0)) fun b80 v81 =>
  rGe b80 false (fun k82 => callR Tryd.prog G 67 [v79, v81] h73 (fun v83 h84 =>
  k82 v83 h84)) h73 fun b85 v86 h87 =>
  rGq b85 false (aUn .not v86) fun b88 v89 =>
  okBool (pickR (some (.v (.bool b88))) (some (.v (.bool true))) (some v89)) fun b90 =>
  rGq b90 false (some (.v (.bool b38))) fun b91 v92 =>
  rGq b91 false (some (.v (.bool b66))) fun b93 v94 =>
  rGq b93 false (aBin Tryd.prog .neq 4 v92 v94) fun b95 v96 =>
  okBool (pickR (some (.v (.bool b95))) (some (.v (.bool true))) (some v96)) fun b97 =>
  rGq b97 false (some (.v (.int .i64 n46))) fun b98 v99 =>
  rGq b98 false (some (.v (.int .i64 n74))) fun b100 v101 =>
  rGq b100 false (aBin Tryd.prog .neq 3 v99 v101) fun b102 v103 =>
  okBool (pickR (some (.v (.bool b102))) (some (.v (.bool true))) (some v103)) fun b104 =>
  rGq b104 false (some (.v (.int .i64 n47))) fun b105 v106 =>
  rGq b105 false (some (.v (.int .i64 n75))) fun b107 v108 =>
  rGq b107 false (aBin Tryd.prog .neq 25 v106 v108) fun b109 v110 =>
  okBool (pickR (some (.v (.bool b109))) (some (.v (.bool true))) (some v110)) fun b111 =>
  condB b111
  (RetR h K (.v (.bool false)) h87)
  (okInt .i64 (aLen Tryd.prog h87 97 v53) fun n112 =>
  Tryd.r15_l22_113 K h G a1 a2 h5 v6 I14 m16 n18 v25 v53 h87 n112 0))) 48 v65 (.ptr i67 0 0 0))) 45 v57 (.ptr i59 0 0 0))))))) 48 v37 (.ptr i39 0 0 0))) 45 v29 (.ptr i31 0 0 0))))
  (RetR h K (.v (.bool true)) h17)
def Tryd.r15 (G : Nat → Option AV) (a0 a1 a2 : AV) (h : AH) (K : AV → AH → Prop) : Prop :=
  callR Tryd.prog G 60 [] h (fun v0 h1 =>
  okBool (some v0) fun b2 =>
  condB (!b2)
  (RetR h K (.v (.bool false)) h1)
  (okInt .i64 (some a0) fun n3 =>
  callR Tryd.prog G 61 [(.v (.int .i64 (IntKind.wrap .i64 (1 + (IntKind.wrap .i64 (Int.tmod (IntKind.wrap .u64 n3) 16))))))] h1 (fun v4 h5 =>
  okV (extV 0 v4) fun v6 =>
  okInt .i64 (extV 1 v4) fun n7 =>
  okBool (aBin Tryd.prog .eql 91 v6 (.v (.pointer none))) fun b8 =>
  rGq b8 false (some (.v (.int .i64 n7))) fun b9 v10 =>
  rGq b9 false (aBin Tryd.prog .neq 25 v10 (.v (.int .i64 0))) fun b11 v12 =>
  okBool (pickR (some (.v (.bool b11))) (some (.v (.bool true))) (some v12)) fun b13 =>
  condB b13
  (RetR h K (.v (.bool false)) h5)
  (Tryd.r15_l8_14 K h G a1 a2 h5 v6 0))))
theorem Tryd.c15 (G : Nat → Option AV) (a0 a1 a2 : AV) (h : AH) (K : AV → AH → Prop) (hk : LowH h.length h → Tryd.r15 G a0 a1 a2 h K) : SCall Tryd.prog G 15 [a0, a1, a2] h K :=
  scall_of_rwp Tryd.tab15 [(8, [(9, (.int .i64))], [1, 2, 7]), (22, [(124, (.int .i64))], [1, 2, 7, 9, 10, 17, 123])] Tryd.func15 rfl Tryd.ntmps15 (by kernel_rfl) (by show 3 ≤ 167; decide) (by kernel_rfl) (by kernel_rfl) hk
-- 16 skylark/skylarklaw18.AdminAlike
def Tryd.r16_l25_94 (K : AV → AH → Prop) (h : AH) (G : Nat → Option AV) (a1 : AV) (a2 : AV) (v6 : AV) (h9 : AH) (v10 : AV) (I28 : Nat → List AV → AH → Prop) (m30 : Nat) (n32 : Int) (v71 : AV) (v73 : AV) (h74 : AH) (n93 : Int) (n163 : Int) : Prop :=
  ∃ (I94 : Nat → List AV → AH → Prop) (m95 : Nat), I94 m95 [(.v (.int .i64 n163))] h74 ∧ ∀ (m96 : Nat) (h97 : AH), h74.length ≤ h97.length → LowH h97.length h97 → ∀ (n98 : Int), I94 m96 [(.v (.int .i64 n98))] h97 →
  condB (decide (n98 < n93))
  (okV (aIA Tryd.prog h97 97 v71 (.v (.int .i64 n98))) fun v99 =>
  okV (aFA Tryd.prog 105 0 v99) fun v100 =>
  okInt .i64 (aLoad Tryd.prog h97 3 v100) fun n101 =>
  okV (aIA Tryd.prog h97 97 v73 (.v (.int .i64 n98))) fun v102 =>
  okV (aFA Tryd.prog 105 0 v102) fun v103 =>
  okInt .i64 (aLoad Tryd.prog h97 3 v103) fun n104 =>
  rGq (n101 != n104) false (some v71) fun b105 v106 =>
  rGq b105 false (some (.v (.int .i64 n98))) fun b107 v108 =>
  rGq b107 false (aIA Tryd.prog h97 97 v106 v108) fun b109 v110 =>
  rGq b109 false (aFA Tryd.prog 105 1 v110) fun b111 v112 =>
  rGq b111 false (aLoad Tryd.prog h97 22 v112) fun b113 v114 =>
  rGq b113 false (some v73) fun b115 v116 =>
  rGq b115 false (some (.v (.int .i64 n98))) fun b117 v118 =>
  rGq b117 false (aIA Tryd.prog h97 97 v116 v118) fun b119 v120 =>
  rGq b119 false (aFA Tryd.prog 105 1 v120) fun b121 v122 =>
  rGq b121 false (aLoad Tryd.prog h97 22 v122) fun b123 v124 =>
  rGe b123 false (fun k125 => callR Tryd.prog G 24 [v114, v124] h97 (fun v126 h127 =>
  k125 v126 h127)) h97 fun b128 v129 h130 =>
  rGq b128 false (aUn .not v129) fun b131 v132 =>
  okBool (pickR (some (.v (.bool b131))) (some (.v (.bool true))) (some v132)) fun b133 =>
  rGq b133 false (some v71) fun b134 v135 =>
  rGq b134 false (some (.v (.int .i64 n98))) fun b136 v137 =>
  rGq b136 false (aIA Tryd.prog h130 97 v135 v137) fun b138 v139 =>
  rGq b138 false (aFA Tryd.prog 105 2 v139) fun b140 v141 =>
  rGq b140 false (aLoad Tryd.prog h130 22 v141) fun b142 v143 =>
  rGq b142 false (some v73) fun b144 v145 =>
  rGq b144 false (some (.v (.int .i64 n98))) fun b146 v147 =>
  rGq b146 false (aIA Tryd.prog h130 97 v145 v147) fun b148 v149 =>
  rGq b148 false (aFA Tryd.prog 105 2 v149) fun b150 v151 =>
  rGq b150 false (aLoad Tryd.prog h130 22 v151) fun b152 v153 =>
  rGe b152 false (fun k154 => callR Tryd.prog G 24 [v143, v153] h130 (fun v155 h156 =>
  k154 v155 h156)) h130 fun b157 v158 h159 =>
  rGq b157 false (aUn .not v158) fun b160 v161 =>
  okBool (pickR (some (.v (.bool b160))) (some (.v (.bool true))) (some v161)) fun b162 =>
  condB b162
  (RetR h K (.v (.bool false)) h159)
  (nextR h74 I94 m96 [some a1, some a2, some v6, some v10, some (.v (.int .i64 n32)), some v71, some v73, some (.v (.int .i64 n93))] [some a1, some a2, some v6, some v10, some (.v (.int .i64 n32)), some v71, some v73, some (.v (.int .i64 n93))] [(.v (.int .i64 (IntKind.wrap .i64 (n98 + 1))))] h159))
  (nextR h9 I28 m30 [some a1, some a2, some v6, some v10] [some a1, some a2, some v6, some v10] [(.v (.int .i64 (IntKind.wrap .i64 (n32 + 1))))] h97)
def Tryd.r16_j52 (G : Nat → Option AV) (h : AH) (K : AV → AH → Prop) (a1 : AV) (a2 : AV) (v6 : AV) (h9 : AH) (v10 : AV) (I28 : Nat → List AV → AH → Prop) (m30 : Nat) (n32 : Int) (i47 : Nat) (h51 : AH) : Prop :=
  okV (aIA Tryd.prog h51 90 a1 (.v (.int .i64 n32))) fun v52 =>
  okV (aLoad Tryd.prog h51 96 v52) fun v53 =>
  okV (aLoad Tryd.prog h51 96 (.ptr i47 0 0 0)) fun v54 =>
  callR Tryd.prog G 62 [v6, v53] h51 (fun v55 h56 =>
  okInt .i64 (some v55) fun n57 =>
  (aLoad Tryd.prog h56 96 (.ptr i47 0 0 0) = some v54) ∧ callR Tryd.prog G 62 [v10, v54] h56 (fun v58 h59 =>
  okInt .i64 (some v58) fun n60 =>
  condB (n57 != n60)
  (RetR h K (.v (.bool false)) h59)
  (okStr (some a2) fun s61 =>
  callR Tryd.prog G 65 [v6, (.v (.string s61))] h59 (fun v62 h63 =>
  okInt .i64 (extV 0 v62) fun n64 =>
  okInt .i64 (extV 1 v62) fun n65 =>
  okStr (some a2) fun s66 =>
  callR Tryd.prog G 65 [v10, (.v (.string s66))] h63 (fun v67 h68 =>
  okInt .i64 (extV 0 v67) fun n69 =>
  okInt .i64 (extV 1 v67) fun n70 =>
  callR Tryd.prog G 63 [v6] h68 (fun v71 h72 =>
  callR Tryd.prog G 63 [v10] h72 (fun v73 h74 =>
  rGq (n64 != n69) false (some (.v (.int .i64 n65))) fun b75 v76 =>
  rGq b75 false (some (.v (.int .i64 n70))) fun b77 v78 =>
  rGq b77 false (aBin Tryd.prog .neq 25 v76 v78) fun b79 v80 =>
  okBool (pickR (some (.v (.bool b79))) (some (.v (.bool true))) (some v80)) fun b81 =>
  rGq b81 false (some v71) fun b82 v83 =>
  rGq b82 false (aLen Tryd.prog h74 97 v83) fun b84 v85 =>
  rGq b84 false (some v73) fun b86 v87 =>
  rGq b86 false (aLen Tryd.prog h74 97 v87) fun b88 v89 =>
  rGq b88 false (aBin Tryd.prog .neq 3 v85 v89) fun b90 v91 =>
  okBool (pickR (some (.v (.bool b90))) (some (.v (.bool true))) (some v91)) fun b92 =>
  condB b92
  (RetR h K (.v (.bool false)) h74)
  (okInt .i64 (aLen Tryd.prog h74 97 v71) fun n93 =>
  Tryd.r16_l25_94 K h G a1 a2 v6 h9 v10 I28 m30 n32 v71 v73 h74 n93 0))))))))
def Tryd.r16_l9_28 (K : AV → AH → Prop) (h : AH) (G : Nat → Option AV) (a1 : AV) (a2 : AV) (v6 : AV) (h9 : AH) (v10 : AV) (n189 : Int) : Prop :=
  ∃ (I28 : Nat → List AV → AH → Prop) (m29 : Nat), I28 m29 [(.v (.int .i64 n189))] h9 ∧ ∀ (m30 : Nat) (h31 : AH), h9.length ≤ h31.length → LowH h31.length h31 → ∀ (n32 : Int), I28 m30 [(.v (.int .i64 n32))] h31 →
  okInt .i64 (aLen Tryd.prog h31 90 a1) fun n33 =>
  rGq (decide (n32 < n33)) true (some (.v (.int .i64 n32))) fun b34 v35 =>
  rGq b34 true (aBin Tryd.prog .lss 3 v35 (.v (.int .i64 80))) fun b36 v37 =>
  okBool (pickR (some (.v (.bool b36))) (some v37) (some (.v (.bool false)))) fun b38 =>
  condB b38
  (okV (aIA Tryd.prog h31 90 a1 (.v (.int .i64 n32))) fun v39 =>
  okV (aLoad Tryd.prog h31 96 v39) fun v40 =>
  callR Tryd.prog G 68 [v40] h31 (fun v41 h42 =>
  okStr (extV 0 v41) fun s43 =>
  okInt .i64 (extV 1 v41) fun n44 =>
  okV (aIA Tryd.prog h42 90 a1 (.v (.int .i64 n32))) fun v45 =>
  okV (aLoad Tryd.prog h42 96 v45) fun v46 =>
  newO (.cells 96 6 [[(.v (.int .i64 0)), (.v (.int .i64 0)), (.v (.int .i64 0)), (.v (.int .i64 0)), (.v (.slice none 0 0)), (.v (.string (ByteArray.mk #[])))]] 0) h42 fun i47 h48 =>
  storeR Tryd.prog h48 (fun v49 h50 =>
  condB (n44 == 0)
  (callR Tryd.prog G 69 [(.v (.string s43))] h50 (fun v164 h165 =>
  okV (extV 0 v164) fun v166 =>
  okInt .i64 (extV 1 v164) fun n167 =>
  storeR Tryd.prog h165 (fun v168 h169 =>
  rGq (n167 != 0) false (aLoad Tryd.prog h169 96 (.ptr i47 0 0 0)) fun b170 v171 =>
  rGq b170 false (some a1) fun b172 v173 =>
  rGq b172 false (some (.v (.int .i64 n32))) fun b174 v175 =>
  rGq b174 false (aIA Tryd.prog h169 90 v173 v175) fun b176 v177 =>
  rGq b176 false (aLoad Tryd.prog h169 96 v177) fun b178 v179 =>
  rGe b178 false (fun k180 => callR Tryd.prog G 70 [v171, v179] h169 (fun v181 h182 =>
  k180 v181 h182)) h169 fun b183 v184 h185 =>
  rGq b183 false (aUn .not v184) fun b186 v187 =>
  okBool (pickR (some (.v (.bool b186))) (some (.v (.bool true))) (some v187)) fun b188 =>
  condB b188
  (RetR h K (.v (.bool false)) h185)
  (Tryd.r16_j52 G h K a1 a2 v6 h9 v10 I28 m30 n32 i47 h185)) 96 v166 (.ptr i47 0 0 0)))
  (Tryd.r16_j52 G h K a1 a2 v6 h9 v10 I28 m30 n32 i47 h50)) 96 v46 (.ptr i47 0 0 0)))
  (RetR h K (.v (.bool true)) h31)
def Tryd.r16 (G : Nat → Option AV) (a0 a1 a2 : AV) (h : AH) (K : AV → AH → Prop) : Prop :=
  callR Tryd.prog G 60 [] h (fun v0 h1 =>
  okBool (some v0) fun b2 =>
  condB (!b2)
  (RetR h K (.v (.bool false)) h1)
  (okInt .i64 (some a0) fun n3 =>
  callR Tryd.prog G 61 [(.v (.int .i64 (IntKind.wrap .i64 (1 + (IntKind.wrap .i64 (Int.tmod (IntKind.wrap .u64 n3) 16))))))] h1 (fun v4 h5 =>
  okV (extV 0 v4) fun v6 =>
  okInt .i64 (extV 1 v4) fun n7 =>
  callR Tryd.prog G 61 [(.v (.int .i64 (IntKind.wrap .i64 (1 + (IntKind.wrap .i64 (Int.tmod (IntKind.wrap .u64 n3) 16))))))] h5 (fun v8 h9 =>
  okV (extV 0 v8) fun v10 =>
  okInt .i64 (extV 1 v8) fun n11 =>
  okBool (aBin Tryd.prog .eql 91 v6 (.v (.pointer none))) fun b12 =>
  rGq b12 false (some (.v (.int .i64 n7))) fun b13 v14 =>
  rGq b13 false (aBin Tryd.prog .neq 25 v14 (.v (.int .i64 0))) fun b15 v16 =>
  okBool (pickR (some (.v (.bool b15))) (some (.v (.bool true))) (some v16)) fun b17 =>
  rGq b17 false (some v10) fun b18 v19 =>
  rGq b18 false (aBin Tryd.prog .eql 91 v19 (.v (.pointer none))) fun b20 v21 =>
  okBool (pickR (some (.v (.bool b20))) (some (.v (.bool true))) (some v21)) fun b22 =>
  rGq b22 false (some (.v (.int .i64 n11))) fun b23 v24 =>
  rGq b23 false (aBin Tryd.prog .neq 25 v24 (.v (.int .i64 0))) fun b25 v26 =>
  okBool (pickR (some (.v (.bool b25))) (some (.v (.bool true))) (some v26)) fun b27 =>
  condB b27
  (RetR h K (.v (.bool false)) h9)
  (Tryd.r16_l9_28 K h G a1 a2 v6 h9 v10 0)))))
theorem Tryd.c16 (G : Nat → Option AV) (a0 a1 a2 : AV) (h : AH) (K : AV → AH → Prop) (hk : LowH h.length h → Tryd.r16 G a0 a1 a2 h K) : SCall Tryd.prog G 16 [a0, a1, a2] h K :=
  scall_of_rwp Tryd.tab16 [(9, [(11, (.int .i64))], [1, 2, 7, 9]), (25, [(136, (.int .i64))], [1, 2, 7, 9, 11, 19, 20, 135])] Tryd.func16 rfl Tryd.ntmps16 (by kernel_rfl) (by show 3 ≤ 179; decide) (by kernel_rfl) (by kernel_rfl) hk
-- 17 skylark/skylarklaw22.MoveSizes
def Tryd.r17_j56 (K : AV → AH → Prop) (h : AH) (G : Nat → Option AV) (a1 : AV) (a2 : AV) (i8 : Nat) (v19 : AV) (v24 : AV) (h40 : AH) (I48 : Nat → List AV → AH → Prop) (m50 : Nat) (n52 : Int) (n54 : Int) (h55 : AH) : Prop :=
  okV (aLoad Tryd.prog h55 48 (.ptr i8 0 0 0)) fun v56 =>
  callR Tryd.prog G 74 [v56, v19, (.v (.int .i64 n54))] h55 (fun v57 h58 =>
  okV (extV 0 v57) fun v59 =>
  okInt .i64 (extV 1 v57) fun n60 =>
  okInt .i64 (extV 2 v57) fun n61 =>
  newO (.cells 48 6 [[(.v (.int .i64 0)), (.v (.slice none 0 0)), (.v (.int .i64 0)), (.v (.slice none 0 0)), (.v (.string (ByteArray.mk #[]))), (.v (.bool false))]] 0) h58 fun i62 h63 =>
  storeR Tryd.prog h63 (fun v64 h65 =>
  rGq (n61 != 0) false (some (.v (.int .i64 n60))) fun b66 v67 =>
  rGq b66 false (some (.v (.int .i64 n54))) fun b68 v69 =>
  rGq b68 false (aBin Tryd.prog .gtr 3 v67 v69) fun b70 v71 =>
  okBool (pickR (some (.v (.bool b70))) (some (.v (.bool true))) (some v71)) fun b72 =>
  rGq b72 false (some (.v (.int .i64 n52))) fun b73 v74 =>
  rGq b73 false (some a1) fun b75 v76 =>
  rGq b75 false (aLen Tryd.prog h65 115 v76) fun b77 v78 =>
  rGq b77 false (aBin Tryd.prog .add 3 v78 (.v (.int .i64 2))) fun b79 v80 =>
  rGq b79 false (aBin Tryd.prog .gtr 3 v74 v80) fun b81 v82 =>
  okBool (pickR (some (.v (.bool b81))) (some (.v (.bool true))) (some v82)) fun b83 =>
  condB b83
  (RetR h K (.v (.bool false)) h65)
  (okV (aLoad Tryd.prog h65 48 (.ptr i62 0 0 0)) fun v84 =>
  storeR Tryd.prog h65 (fun v85 h86 =>
  nextR h40 I48 m50 [some a1, some a2, some (.ptr i8 0 0 0), some v19, some v24] [some a1, some a2, some (.ptr i8 0 0 0), some v19, some v24] [(.v (.int .i64 (IntKind.wrap .i64 (n52 + 1))))] h86) 48 v84 (.ptr i8 0 0 0))) 48 v59 (.ptr i62 0 0 0))
def Tryd.r17_l23_91 (K : AV → AH → Prop) (h : AH) (G : Nat → Option AV) (v19 : AV) (v24 : AV) (h51 : AH) (n90 : Int) (n107 : Int) : Prop :=
  ∃ (I91 : Nat → List AV → AH → Prop) (m92 : Nat), I91 m92 [(.v (.int .i64 n107))] h51 ∧ ∀ (m93 : Nat) (h94 : AH), h51.length ≤ h94.length → LowH h94.length h94 → ∀ (n95 : Int), I91 m93 [(.v (.int .i64 n95))] h94 →
  condB (decide (n95 < n90))
  (okV (aIA Tryd.prog h94 116 v19 (.v (.int .i64 n95))) fun v96 =>
  okV (aLoad Tryd.prog h94 122 v96) fun v97 =>
  okV (aIA Tryd.prog h94 116 v24 (.v (.int .i64 n95))) fun v98 =>
  okV (aLoad Tryd.prog h94 122 v98) fun v99 =>
  callR Tryd.prog G 76 [v97, (.agg [(.v (.string (ByteArray.mk #[]))), (.v (.string (ByteArray.mk #[])))])] h94 (fun v100 h101 =>
  (aLoad Tryd.prog h101 122 v98 = some v99) ∧ (aIA Tryd.prog h101 116 v24 (.v (.int .i64 n95)) = some v98) ∧ callR Tryd.prog G 76 [v99, (.agg [(.v (.string (ByteArray.mk #[]))), (.v (.string (ByteArray.mk #[])))])] h101 (fun v102 h103 =>
  callR Tryd.prog G 75 [v100, v102] h103 (fun v104 h105 =>
  okBool (some v104) fun b106 =>
  condB (!b106)
  (RetR h K (.v (.bool false)) h105)
  (nextR h51 I91 m93 [some v19, some v24, some (.v (.int .i64 n90))] [some v19, some v24, some (.v (.int .i64 n90))] [(.v (.int .i64 (IntKind.wrap .i64 (n95 + 1))))] h105)))))
  (RetR h K (.v (.bool true)) h94)
def Tryd.r17_l13_48 (G : Nat → Option AV) (h : AH) (K : AV → AH → Prop) (a1 : AV) (a2 : AV) (i8 : Nat) (v19 : AV) (v24 : AV) (h40 : AH) (n108 : Int) : Prop :=
  ∃ (I48 : Nat → List AV → AH → Prop) (m49 : Nat), I48 m49 [(.v (.int .i64 n108))] h40 ∧ ∀ (m50 : Nat) (h51 : AH), h40.length ≤ h51.length → LowH h51.length h51 → ∀ (n52 : Int), I48 m50 [(.v (.int .i64 n52))] h51 →
  okBool (aLoad Tryd.prog h51 4 (.ptr i8 0 0 5)) fun b53 =>
  condB (!b53)
  (okInt .i64 (aLen Tryd.prog h51 22 a2) fun n87 =>
  condB (decide (n52 < n87))
  (okV (aIA Tryd.prog h51 22 a2 (.v (.int .i64 n52))) fun v88 =>
  okInt .i64 (aLoad Tryd.prog h51 3 v88) fun n89 =>
  Tryd.r17_j56 K h G a1 a2 i8 v19 v24 h40 I48 m50 n52 (IntKind.wrap .i64 (1 + (IntKind.wrap .i64 (Int.tmod (IntKind.wrap .u64 n89) 9)))) h51)
  (Tryd.r17_j56 K h G a1 a2 i8 v19 v24 h40 I48 m50 n52 1 h51))
  (okInt .i64 (aLen Tryd.prog h51 116 v19) fun n90 =>
  Tryd.r17_l23_91 K h G v19 v24 h51 n90 0)
def Tryd.r17 (G : Nat → Option AV) (a0 a1 a2 : AV) (h : AH) (K : AV → AH → Prop) : Prop :=
  onlyB (AV.one a0) (newO (.cells 114 (AV.cells a0).length [AV.cells a0] 0) h fun i0 h1 =>
  callR Tryd.prog G 71 [] h1 (fun v2 h3 =>
  okBool (some v2) fun b4 =>
  condB (!b4)
  (RetR h K (.v (.bool false)) h3)
  (okV (aLoad Tryd.prog h3 114 (.ptr i0 0 0 0)) fun v5 =>
  callR Tryd.prog G 72 [v5] h3 (fun v6 h7 =>
  newO (.cells 48 6 [[(.v (.int .i64 0)), (.v (.slice none 0 0)), (.v (.int .i64 0)), (.v (.slice none 0 0)), (.v (.string (ByteArray.mk #[]))), (.v (.bool false))]] 0) h7 fun i8 h9 =>
  storeR Tryd.prog h9 (fun v10 h11 =>
  storeR Tryd.prog h11 (fun v12 h13 =>
  storeR Tryd.prog h13 (fun v14 h15 =>
  okV (aLoad Tryd.prog h15 48 (.ptr i8 0 0 0)) fun v16 =>
  callR Tryd.prog G 73 [v16, a1] h15 (fun v17 h18 =>
  okV (extV 0 v17) fun v19 =>
  okBool (extV 1 v17) fun b20 =>
  okV (aLoad Tryd.prog h18 48 (.ptr i8 0 0 0)) fun v21 =>
  callR Tryd.prog G 73 [v21, a1] h18 (fun v22 h23 =>
  okV (extV 0 v22) fun v24 =>
  okBool (extV 1 v22) fun b25 =>
  rGq (!b20) false (some (.v (.bool b25))) fun b26 v27 =>
  rGq b26 false (aUn .not v27) fun b28 v29 =>
  okBool (pickR (some (.v (.bool b28))) (some (.v (.bool true))) (some v29)) fun b30 =>
  condB b30
  (RetR h K (.v (.bool true)) h23)
  (okV (aLoad Tryd.prog h23 48 (.ptr i8 0 0 0)) fun v31 =>
  callR Tryd.prog G 74 [v31, v24, (.v (.int .i64 4096))] h23 (fun v32 h33 =>
  okV (extV 0 v32) fun v34 =>
  okInt .i64 (extV 1 v32) fun n35 =>
  okInt .i64 (extV 2 v32) fun n36 =>
  newO (.cells 48 6 [[(.v (.int .i64 0)), (.v (.slice none 0 0)), (.v (.int .i64 0)), (.v (.slice none 0 0)), (.v (.string (ByteArray.mk #[]))), (.v (.bool false))]] 0) h33 fun i37 h38 =>
  storeR Tryd.prog h38 (fun v39 h40 =>
  rGq (n36 != 0) false (some (.ptr i37 0 0 5)) fun b41 v42 =>
  rGq b41 false (aLoad Tryd.prog h40 4 v42) fun b43 v44 =>
  rGq b43 false (aUn .not v44) fun b45 v46 =>
  okBool (pickR (some (.v (.bool b45))) (some (.v (.bool true))) (some v46)) fun b47 =>
  condB b47
  (RetR h K (.v (.bool false)) h40)
  (Tryd.r17_l13_48 G h K a1 a2 i8 v19 v24 h40 0)) 48 v34 (.ptr i37 0 0 0)))))) 4 (.v (.bool false)) (.ptr i8 0 0 5)) 9 (.v (.string (ByteArray.mk #[]))) (.ptr i8 0 0 4)) 48 v6 (.ptr i8 0 0 0)))))
theorem Tryd.c17 (G : Nat → Option AV) (a0 a1 a2 : AV) (h : AH) (K : AV → AH → Prop) (hk : LowH h.length h → Tryd.r17 G a0 a1 a2 h K) : SCall Tryd.prog G 17 [a0, a1, a2] h K :=
  scall_of_rwp Tryd.tab17 [(13, [(15, (.int .i64))], [1, 2, 7, 8, 10]), (23, [(101, (.int .i64))], [8, 10, 100])] Tryd.func17 rfl Tryd.ntmps17 (by kernel_rfl) (by show 3 ≤ 119; decide) (by kernel_rfl) (by kernel_rfl) hk
-- 18 skylark/skylarklaw06.works
def Tryd.r18 (G : Nat → Option AV) (h : AH) (K : AV → AH → Prop) : Prop :=
  newO (.cells 3 1 [[(.v (.int .i64 1))]] 0) h fun i0 h1 =>
  callR Tryd.prog G 19 [(.sl i0 0 0 1 none), (.v (.string (ByteArray.mk #[107])))] h1 (fun v2 h3 =>
  okInt .i64 (extV 0 v2) fun n4 =>
  okInt .i64 (extV 1 v2) fun n5 =>
  newO (.cells 3 1 [[(.v (.int .i64 0))], [(.v (.int .i64 3))]] 0) h3 fun i6 h7 =>
  callR Tryd.prog G 19 [(.sl i6 0 0 2 none), (.v (.string (ByteArray.mk #[107])))] h7 (fun v8 h9 =>
  okInt .i64 (extV 0 v8) fun n10 =>
  okInt .i64 (extV 1 v8) fun n11 =>
  rGq (n4 == 0) true (some (.v (.int .i64 n5))) fun b12 v13 =>
  rGq b12 true (aBin Tryd.prog .eql 25 v13 (.v (.int .i64 0))) fun b14 v15 =>
  okBool (pickR (some (.v (.bool b14))) (some v15) (some (.v (.bool false)))) fun b16 =>
  rGq b16 true (some (.v (.int .i64 n10))) fun b17 v18 =>
  rGq b17 true (aBin Tryd.prog .eql 3 v18 (.v (.int .i64 1))) fun b19 v20 =>
  okBool (pickR (some (.v (.bool b19))) (some v20) (some (.v (.bool false)))) fun b21 =>
  rGq b21 true (some (.v (.int .i64 n11))) fun b22 v23 =>
  rGq b22 true (aBin Tryd.prog .eql 25 v23 (.v (.int .i64 0))) fun b24 v25 =>
  okBool (pickR (some (.v (.bool b24))) (some v25) (some (.v (.bool false)))) fun b26 =>
  rGe b26 true (fun k27 => newO (.cells 3 1 [[(.v (.int .i64 0))], [(.v (.int .i64 0))]] 0) h9 fun i28 h29 =>
  k27 (.sl i28 0 0 2 none) h29) h9 fun b30 v31 h32 =>
  rGe b30 true (fun k33 => callR Tryd.prog G 20 [v31] h32 (fun v34 h35 =>
  k33 v34 h35)) h32 fun b36 v37 h38 =>
  rGq b36 true (aBin Tryd.prog .eql 25 v37 (.v (.int .i64 1))) fun b39 v40 =>
  okBool (pickR (some (.v (.bool b39))) (some v40) (some (.v (.bool false)))) fun b41 =>
  rGe b41 true (fun k42 => callR Tryd.prog G 25 [(.v (.string (ByteArray.mk #[])))] h38 (fun v43 h44 =>
  k42 v43 h44)) h38 fun b45 v46 h47 =>
  rGe b45 true (fun k48 => callR Tryd.prog G 25 [(.v (.string (ByteArray.mk #[97])))] h47 (fun v49 h50 =>
  k48 v49 h50)) h47 fun b51 v52 h53 =>
  rGq b51 true (aBin Tryd.prog .neq 35 v46 v52) fun b54 v55 =>
  okBool (pickR (some (.v (.bool b54))) (some v55) (some (.v (.bool false)))) fun b56 =>
  RetR h K (.v (.bool b56)) h53))
theorem Tryd.c18 (G : Nat → Option AV) (h : AH) (K : AV → AH → Prop) (hk : LowH h.length h → Tryd.r18 G h K) : SCall Tryd.prog G 18 [] h K :=
  scall_of_rwp Tryd.tab18 [] Tryd.func18 rfl Tryd.ntmps18 (by kernel_rfl) (by show 0 ≤ 39; decide) (by kernel_rfl) (by kernel_rfl) hk
-- 19 skylark/ring.Of
def Tryd.r19 (G : Nat → Option AV) (a0 a1 : AV) (h : AH) (K : AV → AH → Prop) : Prop :=
  callR Tryd.prog G 77 [a0] h (fun v0 h1 =>
  okV (extV 0 v0) fun v2 =>
  okInt .i64 (extV 1 v0) fun n3 =>
  condB (n3 != 0)
  (RetR h K (.tup [(.v (.int .i64 0)), (.v (.int .i64 n3))]) h1)
  (okStr (some a1) fun s4 =>
  callR Tryd.prog G 78 [v2, (.v (.string s4))] h1 (fun v5 h6 =>
  okInt .i64 (some v5) fun n7 =>
  RetR h K (.tup [(.v (.int .i64 n7)), (.v (.int .i64 0))]) h6)))
theorem Tryd.c19 (G : Nat → Option AV) (a0 a1 : AV) (h : AH) (K : AV → AH → Prop) (hk : LowH h.length h → Tryd.r19 G a0 a1 h K) : SCall Tryd.prog G 19 [a0, a1] h K :=
  scall_of_rwp Tryd.tab19 [] Tryd.func19 rfl Tryd.ntmps19 (by kernel_rfl) (by show 2 ≤ 19; decide) (by kernel_rfl) (by kernel_rfl) hk
-- 20 skylark/ring.Check
def Tryd.r20 (G : Nat → Option AV) (a0 : AV) (h : AH) (K : AV → AH → Prop) : Prop :=
  okInt .i64 (aLen Tryd.prog h 22 a0) fun n0 =>
  rGq (decide (n0 < 1)) false (some a0) fun b1 v2 =>
  rGq b1 false (aLen Tryd.prog h 22 v2) fun b3 v4 =>
  rGq b3 false (aBin Tryd.prog .gtr 3 v4 (.v (.int .i64 8))) fun b5 v6 =>
  okBool (pickR (some (.v (.bool b5))) (some (.v (.bool true))) (some v6)) fun b7 =>
  rGq b7 false (some a0) fun b8 v9 =>
  rGe b8 false (fun k10 => callR Tryd.prog G 79 [v9] h (fun v11 h12 =>
  k10 v11 h12)) h fun b13 v14 h15 =>
  rGq b13 false (aBin Tryd.prog .lss 3 v14 (.v (.int .i64 0))) fun b16 v17 =>
  okBool (pickR (some (.v (.bool b16))) (some (.v (.bool true))) (some v17)) fun b18 =>
  rGq b18 false (some a0) fun b19 v20 =>
  rGe b19 false (fun k21 => callR Tryd.prog G 80 [v20] h15 (fun v22 h23 =>
  k21 v22 h23)) h15 fun b24 v25 h26 =>
  rGq b24 false (aBin Tryd.prog .gtr 3 v25 (.v (.int .i64 128))) fun b27 v28 =>
  okBool (pickR (some (.v (.bool b27))) (some (.v (.bool true))) (some v28)) fun b29 =>
  rGq b29 false (some a0) fun b30 v31 =>
  rGe b30 false (fun k32 => callR Tryd.prog G 80 [v31] h26 (fun v33 h34 =>
  k32 v33 h34)) h26 fun b35 v36 h37 =>
  rGq b35 false (aBin Tryd.prog .eql 3 v36 (.v (.int .i64 0))) fun b38 v39 =>
  okBool (pickR (some (.v (.bool b38))) (some (.v (.bool true))) (some v39)) fun b40 =>
  condB b40
  (RetR h K (.v (.int .i64 1)) h37)
  (RetR h K (.v (.int .i64 0)) h37)
theorem Tryd.c20 (G : Nat → Option AV) (a0 : AV) (h : AH) (K : AV → AH → Prop) (hk : LowH h.length h → Tryd.r20 G a0 h K) : SCall Tryd.prog G 20 [a0] h K :=
  scall_of_rwp Tryd.tab20 [] Tryd.func20 rfl Tryd.ntmps20 (by kernel_rfl) (by show 1 ≤ 26; decide) (by kernel_rfl) (by kernel_rfl) hk
-- 21 skylark/skylarkbook.LendInts
def Tryd.r21 (a0 : AV) (h : AH) (K : AV → AH → Prop) : Prop :=
  newO (.cells 3 1 [] 0) h fun i0 h1 =>
  appR Tryd.prog h1 22 22 (.sl i0 0 0 0 none) a0 (fun v2 h3 =>
  newO (.cells 3 1 [[(.v (.int .i64 (-77)))]] 0) h3 fun i4 h5 =>
  appR Tryd.prog h5 22 22 v2 (.sl i4 0 0 1 none) (fun v6 h7 =>
  okInt .i64 (aLen Tryd.prog h7 22 a0) fun n8 =>
  okV (aSlice Tryd.prog h7 22 v6 none (some (some (.v (.int .i64 n8)))) none) fun v9 =>
  RetR h K v9 h7))
theorem Tryd.c21 (G : Nat → Option AV) (a0 : AV) (h : AH) (K : AV → AH → Prop) (hk : LowH h.length h → Tryd.r21 a0 h K) : SCall Tryd.prog G 21 [a0] h K :=
  scall_of_rwp Tryd.tab21 [] Tryd.func21 rfl Tryd.ntmps21 (by kernel_rfl) (by show 1 ≤ 14; decide) (by kernel_rfl) (by kernel_rfl) hk
-- 23 skylark/skylarkref06.Points
def Tryd.r23_l7_5 (K : AV → AH → Prop) (h : AH) (v3 : AV) (h4 : AH) (v27 : AV) (v28 : AV) (n29 : Int) : Prop :=
  ∃ (I5 : Nat → List AV → AH → Prop) (m6 : Nat), I5 m6 [v27, v28, (.v (.int .i64 n29))] h4 ∧ ∀ (m7 : Nat) (h8 : AH), h4.length ≤ h8.length → LowH h8.length h8 → ∀ (v9 : AV) (v10 : AV) (n11 : Int), I5 m7 [v9, v10, (.v (.int .i64 n11))] h8 →
  okInt .i64 (aLen Tryd.prog h8 136 v3) fun n12 =>
  condB (decide (n11 < n12))
  (okV (aIA Tryd.prog h8 136 v3 (.v (.int .i64 n11))) fun v13 =>
  okV (aFA Tryd.prog 139 0 v13) fun v14 =>
  okInt .u64 (aLoad Tryd.prog h8 35 v14) fun n15 =>
  newO (.cells 35 1 [[(.v (.int .u64 n15))]] 0) h8 fun i16 h17 =>
  appR Tryd.prog h17 31 31 v9 (.sl i16 0 0 1 none) (fun v18 h19 =>
  okV (aIA Tryd.prog h19 136 v3 (.v (.int .i64 n11))) fun v20 =>
  okV (aFA Tryd.prog 139 1 v20) fun v21 =>
  okInt .i64 (aLoad Tryd.prog h19 3 v21) fun n22 =>
  newO (.cells 3 1 [[(.v (.int .i64 n22))]] 0) h19 fun i23 h24 =>
  appR Tryd.prog h24 22 22 v10 (.sl i23 0 0 1 none) (fun v25 h26 =>
  nextR h4 I5 m7 [some v3] [some v3] [v18, v25, (.v (.int .i64 (IntKind.wrap .i64 (n11 + 1))))] h26)))
  (RetR h K (.tup [v9, v10, (.v (.int .i64 0))]) h8)
def Tryd.r23 (G : Nat → Option AV) (a0 : AV) (h : AH) (K : AV → AH → Prop) : Prop :=
  callR Tryd.prog G 81 [a0] h (fun v0 h1 =>
  okBool (some v0) fun b2 =>
  condB (!b2)
  (RetR h K (.tup [(.v (.slice none 0 0)), (.v (.slice none 0 0)), (.v (.int .i64 1))]) h1)
  (callR Tryd.prog G 82 [a0] h1 (fun v3 h4 =>
  Tryd.r23_l7_5 K h v3 h4 (.v (.slice none 0 0)) (.v (.slice none 0 0)) 0)))
theorem Tryd.c23 (G : Nat → Option AV) (a0 : AV) (h : AH) (K : AV → AH → Prop) (hk : LowH h.length h → Tryd.r23 G a0 h K) : SCall Tryd.prog G 23 [a0] h K :=
  scall_of_rwp Tryd.tab23 [(7, [(5, .any), (6, .any), (8, (.int .i64))], [7])] Tryd.func23 rfl Tryd.ntmps23 (by kernel_rfl) (by show 1 ≤ 38; decide) (by kernel_rfl) (by kernel_rfl) hk
-- 24 skylark/skylarkbook.SameInts
def Tryd.r24_l4_2 (K : AV → AH → Prop) (h : AH) (a0 : AV) (a1 : AV) (n12 : Int) : Prop :=
  ∃ (I2 : Nat → List AV → AH → Prop) (m3 : Nat), I2 m3 [(.v (.int .i64 n12))] h ∧ ∀ (m4 : Nat) (h5 : AH), h.length ≤ h5.length → LowH h5.length h5 → ∀ (n6 : Int), I2 m4 [(.v (.int .i64 n6))] h5 →
  okInt .i64 (aLen Tryd.prog h5 22 a0) fun n7 =>
  condB (decide (n6 < n7))
  (okV (aIA Tryd.prog h5 22 a0 (.v (.int .i64 n6))) fun v8 =>
  okInt .i64 (aLoad Tryd.prog h5 3 v8) fun n9 =>
  okV (aIA Tryd.prog h5 22 a1 (.v (.int .i64 n6))) fun v10 =>
  okInt .i64 (aLoad Tryd.prog h5 3 v10) fun n11 =>
  condB (n9 != n11)
  (RetR h K (.v (.bool false)) h5)
  (nextR h I2 m4 [some a0, some a1] [some a0, some a1] [(.v (.int .i64 (IntKind.wrap .i64 (n6 + 1))))] h5))
  (RetR h K (.v (.bool true)) h5)
def Tryd.r24 (a0 a1 : AV) (h : AH) (K : AV → AH → Prop) : Prop :=
  okInt .i64 (aLen Tryd.prog h 22 a0) fun n0 =>
  okInt .i64 (aLen Tryd.prog h 22 a1) fun n1 =>
  condB (n0 != n1)
  (RetR h K (.v (.bool false)) h)
  (Tryd.r24_l4_2 K h a0 a1 0)
theorem Tryd.c24 (G : Nat → Option AV) (a0 a1 : AV) (h : AH) (K : AV → AH → Prop) (hk : LowH h.length h → Tryd.r24 a0 a1 h K) : SCall Tryd.prog G 24 [a0, a1] h K :=
  scall_of_rwp Tryd.tab24 [(4, [(5, (.int .i64))], [0, 1])] Tryd.func24 rfl Tryd.ntmps24 (by kernel_rfl) (by show 2 ≤ 26; decide) (by kernel_rfl) (by kernel_rfl) hk
-- 25 skylark/ring.Hash
def Tryd.r25_l3_1 (K : AV → AH → Prop) (h : AH) (a0 : AV) (s0 : ByteArray) (n14 : Int) (n15 : Int) : Prop :=
  ∃ (I1 : Nat → List AV → AH → Prop) (m2 : Nat), I1 m2 [(.v (.int .u64 n14)), (.v (.int .i64 n15))] h ∧ ∀ (m3 : Nat) (h4 : AH), h.length ≤ h4.length → LowH h4.length h4 → ∀ (n5 : Int) (n6 : Int), I1 m3 [(.v (.int .u64 n5)), (.v (.int .i64 n6))] h4 →
  condB (decide (n6 < ((ByteArray.size s0 : Nat) : Int)))
  (okStr (some a0) fun s7 =>
  okInt .u8 (aIndex Tryd.prog 9 (.v (.string s7)) (.v (.int .i64 n6))) fun n8 =>
  okInt .u64 (aBin Tryd.prog .xor 35 (.v (.int .u64 n5)) (.v (.int .u64 (IntKind.wrap .u64 n8)))) fun n9 =>
  nextR h I1 m3 [some a0, some (.v (.int .i64 ((ByteArray.size s0 : Nat) : Int)))] [some a0, some (.v (.int .i64 ((ByteArray.size s0 : Nat) : Int)))] [(.v (.int .u64 (IntKind.wrap .u64 (n9 * 1099511628211)))), (.v (.int .i64 (IntKind.wrap .i64 (n6 + 1))))] h4)
  (okInt .u64 (aBin Tryd.prog .shr 35 (.v (.int .u64 n5)) (.v (.int .u64 33))) fun n10 =>
  okInt .u64 (aBin Tryd.prog .xor 35 (.v (.int .u64 n5)) (.v (.int .u64 n10))) fun n11 =>
  okInt .u64 (aBin Tryd.prog .shr 35 (.v (.int .u64 (IntKind.wrap .u64 (n11 * 18397679294719823053)))) (.v (.int .u64 33))) fun n12 =>
  okInt .u64 (aBin Tryd.prog .xor 35 (.v (.int .u64 (IntKind.wrap .u64 (n11 * 18397679294719823053)))) (.v (.int .u64 n12))) fun n13 =>
  RetR h K (.v (.int .u64 n13)) h4)
def Tryd.r25 (a0 : AV) (h : AH) (K : AV → AH → Prop) : Prop :=
  okStr (some a0) fun s0 =>
  Tryd.r25_l3_1 K h a0 s0 14695981039346656037 0
theorem Tryd.c25 (G : Nat → Option AV) (a0 : AV) (h : AH) (K : AV → AH → Prop) (hk : LowH h.length h → Tryd.r25 a0 h K) : SCall Tryd.prog G 25 [a0] h K :=
  scall_of_rwp Tryd.tab25 [(3, [(3, (.int .u64)), (7, (.int .i64))], [0, 6])] Tryd.func25 rfl Tryd.ntmps25 (by kernel_rfl) (by show 1 ≤ 27; decide) (by kernel_rfl) (by kernel_rfl) hk
-- 26 skylark/skylarkref06.Hash
def Tryd.r26_l3_0 (K : AV → AH → Prop) (h : AH) (a0 : AV) (n14 : Int) (n15 : Int) : Prop :=
  ∃ (I0 : Nat → List AV → AH → Prop) (m1 : Nat), I0 m1 [(.v (.int .u64 n14)), (.v (.int .i64 n15))] h ∧ ∀ (m2 : Nat) (h3 : AH), h.length ≤ h3.length → LowH h3.length h3 → ∀ (n4 : Int) (n5 : Int), I0 m2 [(.v (.int .u64 n4)), (.v (.int .i64 n5))] h3 →
  okStr (some a0) fun s6 =>
  condB (decide (n5 < ((ByteArray.size s6 : Nat) : Int)))
  (okStr (some a0) fun s7 =>
  okInt .u8 (aIndex Tryd.prog 9 (.v (.string s7)) (.v (.int .i64 n5))) fun n8 =>
  okInt .u64 (aBin Tryd.prog .xor 35 (.v (.int .u64 n4)) (.v (.int .u64 (IntKind.wrap .u64 n8)))) fun n9 =>
  nextR h I0 m2 [some a0] [some a0] [(.v (.int .u64 (IntKind.wrap .u64 (n9 * 1099511628211)))), (.v (.int .i64 (IntKind.wrap .i64 (n5 + 1))))] h3)
  (okInt .u64 (aBin Tryd.prog .shr 35 (.v (.int .u64 n4)) (.v (.int .u64 33))) fun n10 =>
  okInt .u64 (aBin Tryd.prog .xor 35 (.v (.int .u64 n4)) (.v (.int .u64 n10))) fun n11 =>
  okInt .u64 (aBin Tryd.prog .shr 35 (.v (.int .u64 (IntKind.wrap .u64 (n11 * 18397679294719823053)))) (.v (.int .u64 33))) fun n12 =>
  okInt .u64 (aBin Tryd.prog .xor 35 (.v (.int .u64 (IntKind.wrap .u64 (n11 * 18397679294719823053)))) (.v (.int .u64 n12))) fun n13 =>
  RetR h K (.v (.int .u64 n13)) h3)
def Tryd.r26 (a0 : AV) (h : AH) (K : AV → AH → Prop) : Prop :=
  Tryd.r26_l3_0 K h a0 14695981039346656037 0
theorem Tryd.c26 (G : Nat → Option AV) (a0 : AV) (h : AH) (K : AV → AH → Prop) (hk : LowH h.length h → Tryd.r26 a0 h K) : SCall Tryd.prog G 26 [a0] h K :=
  scall_of_rwp Tryd.tab26 [(3, [(3, (.int .u64)), (4, (.int .i64))], [0])] Tryd.func26 rfl Tryd.ntmps26 (by kernel_rfl) (by show 1 ≤ 27; decide) (by kernel_rfl) (by kernel_rfl) hk
-- 27 skylark/skylarkref06.Check
def Tryd.r27 (G : Nat → Option AV) (a0 : AV) (h : AH) (K : AV → AH → Prop) : Prop :=
  callR Tryd.prog G 81 [a0] h (fun v0 h1 =>
  okBool (some v0) fun b2 =>
  condB (!b2)
  (RetR h K (.v (.int .i64 1)) h1)
  (RetR h K (.v (.int .i64 0)) h1))
theorem Tryd.c27 (G : Nat → Option AV) (a0 : AV) (h : AH) (K : AV → AH → Prop) (hk : LowH h.length h → Tryd.r27 G a0 h K) : SCall Tryd.prog G 27 [a0] h K :=
  scall_of_rwp Tryd.tab27 [] Tryd.func27 rfl Tryd.ntmps27 (by kernel_rfl) (by show 1 ≤ 6; decide) (by kernel_rfl) (by kernel_rfl) hk
-- 28 skylark/skylarkbook.KeptInts
def Tryd.r28 (G : Nat → Option AV) (a0 a1 : AV) (h : AH) (K : AV → AH → Prop) : Prop :=
  callR Tryd.prog G 24 [a0, a1] h (fun v0 h1 =>
  okBool (some v0) fun b2 =>
  rGq b2 true (some a0) fun b3 v4 =>
  rGq b3 true (some a1) fun b5 v6 =>
  rGq b5 true (aLen Tryd.prog h1 22 v6) fun b7 v8 =>
  rGq b7 true (aBin Tryd.prog .add 3 v8 (.v (.int .i64 1))) fun b9 v10 =>
  rGq b9 true (aSlice Tryd.prog h1 22 v4 none (some (some v10)) none) fun b11 v12 =>
  rGq b11 true (some a1) fun b13 v14 =>
  rGq b13 true (aLen Tryd.prog h1 22 v14) fun b15 v16 =>
  rGq b15 true (aIA Tryd.prog h1 22 v12 v16) fun b17 v18 =>
  rGq b17 true (aLoad Tryd.prog h1 3 v18) fun b19 v20 =>
  rGq b19 true (aBin Tryd.prog .eql 3 v20 (.v (.int .i64 (-77)))) fun b21 v22 =>
  okBool (pickR (some (.v (.bool b21))) (some v22) (some (.v (.bool false)))) fun b23 =>
  RetR h K (.v (.bool b23)) h1)
theorem Tryd.c28 (G : Nat → Option AV) (a0 a1 : AV) (h : AH) (K : AV → AH → Prop) (hk : LowH h.length h → Tryd.r28 G a0 a1 h K) : SCall Tryd.prog G 28 [a0, a1] h K :=
  scall_of_rwp Tryd.tab28 [] Tryd.func28 rfl Tryd.ntmps28 (by kernel_rfl) (by show 2 ≤ 20; decide) (by kernel_rfl) (by kernel_rfl) hk
-- 29 skylark/ring.Moved
def Tryd.r29_l8_14 (K : AV → AH → Prop) (h : AH) (G : Nat → Option AV) (a2 : AV) (v2 : AV) (v6 : AV) (h11 : AH) (n13 : Int) (v32 : AV) (n33 : Int) : Prop :=
  ∃ (I14 : Nat → List AV → AH → Prop) (m15 : Nat), I14 m15 [v32, (.v (.int .i64 n33))] h11 ∧ ∀ (m16 : Nat) (h17 : AH), h11.length ≤ h17.length → LowH h17.length h17 → ∀ (v18 : AV) (n19 : Int), I14 m16 [v18, (.v (.int .i64 n19))] h17 →
  condB (decide (n19 < n13))
  (okV (aIA Tryd.prog h17 23 a2 (.v (.int .i64 n19))) fun v20 =>
  okStr (aLoad Tryd.prog h17 9 v20) fun s21 =>
  callR Tryd.prog G 78 [v2, (.v (.string s21))] h17 (fun v22 h23 =>
  okInt .i64 (some v22) fun n24 =>
  callR Tryd.prog G 78 [v6, (.v (.string s21))] h23 (fun v25 h26 =>
  okInt .i64 (some v25) fun n27 =>
  condB (n24 != n27)
  (newO (.cells 3 1 [[(.v (.int .i64 n19))]] 0) h26 fun i28 h29 =>
  appR Tryd.prog h29 22 22 v18 (.sl i28 0 0 1 none) (fun v30 h31 =>
  nextR h11 I14 m16 [some v2, some v6, some a2, some (.v (.int .i64 n13))] [some v2, some v6, some a2, some (.v (.int .i64 n13))] [v30, (.v (.int .i64 (IntKind.wrap .i64 (n19 + 1))))] h31))
  (nextR h11 I14 m16 [some v2, some v6, some a2, some (.v (.int .i64 n13))] [some v2, some v6, some a2, some (.v (.int .i64 n13))] [v18, (.v (.int .i64 (IntKind.wrap .i64 (n19 + 1))))] h26))))
  (RetR h K (.tup [v18, (.v (.int .i64 0))]) h17)
def Tryd.r29 (G : Nat → Option AV) (a0 a1 a2 : AV) (h : AH) (K : AV → AH → Prop) : Prop :=
  callR Tryd.prog G 77 [a0] h (fun v0 h1 =>
  okV (extV 0 v0) fun v2 =>
  okInt .i64 (extV 1 v0) fun n3 =>
  callR Tryd.prog G 77 [a1] h1 (fun v4 h5 =>
  okV (extV 0 v4) fun v6 =>
  okInt .i64 (extV 1 v4) fun n7 =>
  newO (.cells 25 1 [[(.v (.int .i64 n3))], [(.v (.int .i64 n7))]] 0) h5 fun i8 h9 =>
  callR Tryd.prog G 83 [(.sl i8 0 0 2 none)] h9 (fun v10 h11 =>
  okInt .i64 (some v10) fun n12 =>
  condB (n12 != 0)
  (RetR h K (.tup [(.v (.slice none 0 0)), (.v (.int .i64 n12))]) h11)
  (okInt .i64 (aLen Tryd.prog h11 23 a2) fun n13 =>
  Tryd.r29_l8_14 K h G a2 v2 v6 h11 n13 (.v (.slice none 0 0)) 0))))
theorem Tryd.c29 (G : Nat → Option AV) (a0 a1 a2 : AV) (h : AH) (K : AV → AH → Prop) (hk : LowH h.length h → Tryd.r29 G a0 a1 a2 h K) : SCall Tryd.prog G 29 [a0, a1, a2] h K :=
  scall_of_rwp Tryd.tab29 [(8, [(13, .any), (35, (.int .i64))], [8, 10, 33, 34])] Tryd.func29 rfl Tryd.ntmps29 (by kernel_rfl) (by show 3 ≤ 53; decide) (by kernel_rfl) (by kernel_rfl) hk
-- 30 skylark/skylarkref06.Moved
def Tryd.r30_l6_18 (K : AV → AH → Prop) (h : AH) (G : Nat → Option AV) (a2 : AV) (v14 : AV) (v16 : AV) (h17 : AH) (v39 : AV) (n40 : Int) : Prop :=
  ∃ (I18 : Nat → List AV → AH → Prop) (m19 : Nat), I18 m19 [v39, (.v (.int .i64 n40))] h17 ∧ ∀ (m20 : Nat) (h21 : AH), h17.length ≤ h21.length → LowH h21.length h21 → ∀ (v22 : AV) (n23 : Int), I18 m20 [v22, (.v (.int .i64 n23))] h21 →
  okInt .i64 (aLen Tryd.prog h21 23 a2) fun n24 =>
  condB (decide (n23 < n24))
  (okV (aIA Tryd.prog h21 23 a2 (.v (.int .i64 n23))) fun v25 =>
  okStr (aLoad Tryd.prog h21 9 v25) fun s26 =>
  okV (aIA Tryd.prog h21 23 a2 (.v (.int .i64 n23))) fun v27 =>
  okStr (aLoad Tryd.prog h21 9 v27) fun s28 =>
  callR Tryd.prog G 84 [v14, (.v (.string s26))] h21 (fun v29 h30 =>
  okInt .i64 (some v29) fun n31 =>
  (aLoad Tryd.prog h30 9 v27 = some (.v (.string s28))) ∧ (aIA Tryd.prog h30 23 a2 (.v (.int .i64 n23)) = some v27) ∧ callR Tryd.prog G 84 [v16, (.v (.string s28))] h30 (fun v32 h33 =>
  okInt .i64 (some v32) fun n34 =>
  condB (n31 != n34)
  (newO (.cells 3 1 [[(.v (.int .i64 n23))]] 0) h33 fun i35 h36 =>
  appR Tryd.prog h36 22 22 v22 (.sl i35 0 0 1 none) (fun v37 h38 =>
  nextR h17 I18 m20 [some a2, some v14, some v16] [some a2, some v14, some v16] [v37, (.v (.int .i64 (IntKind.wrap .i64 (n23 + 1))))] h38))
  (nextR h17 I18 m20 [some a2, some v14, some v16] [some a2, some v14, some v16] [v22, (.v (.int .i64 (IntKind.wrap .i64 (n23 + 1))))] h33))))
  (RetR h K (.tup [v22, (.v (.int .i64 0))]) h21)
def Tryd.r30 (G : Nat → Option AV) (a0 a1 a2 : AV) (h : AH) (K : AV → AH → Prop) : Prop :=
  callR Tryd.prog G 81 [a0] h (fun v0 h1 =>
  okBool (some v0) fun b2 =>
  rGq (!b2) false (some a1) fun b3 v4 =>
  rGe b3 false (fun k5 => callR Tryd.prog G 81 [v4] h1 (fun v6 h7 =>
  k5 v6 h7)) h1 fun b8 v9 h10 =>
  rGq b8 false (aUn .not v9) fun b11 v12 =>
  okBool (pickR (some (.v (.bool b11))) (some (.v (.bool true))) (some v12)) fun b13 =>
  condB b13
  (RetR h K (.tup [(.v (.slice none 0 0)), (.v (.int .i64 1))]) h10)
  (callR Tryd.prog G 82 [a0] h10 (fun v14 h15 =>
  callR Tryd.prog G 82 [a1] h15 (fun v16 h17 =>
  Tryd.r30_l6_18 K h G a2 v14 v16 h17 (.v (.slice none 0 0)) 0))))
theorem Tryd.c30 (G : Nat → Option AV) (a0 a1 a2 : AV) (h : AH) (K : AV → AH → Prop) (hk : LowH h.length h → Tryd.r30 G a0 a1 a2 h K) : SCall Tryd.prog G 30 [a0, a1, a2] h K :=
  scall_of_rwp Tryd.tab30 [(6, [(10, .any), (11, (.int .i64))], [2, 8, 9])] Tryd.func30 rfl Tryd.ntmps30 (by kernel_rfl) (by show 3 ≤ 48; decide) (by kernel_rfl) (by kernel_rfl) hk
-- 31 skylark/skylarkref06.Of
def Tryd.r31 (G : Nat → Option AV) (a0 a1 : AV) (h : AH) (K : AV → AH → Prop) : Prop :=
  callR Tryd.prog G 81 [a0] h (fun v0 h1 =>
  okBool (some v0) fun b2 =>
  condB (!b2)
  (RetR h K (.tup [(.v (.int .i64 0)), (.v (.int .i64 1))]) h1)
  (callR Tryd.prog G 82 [a0] h1 (fun v3 h4 =>
  okStr (some a1) fun s5 =>
  callR Tryd.prog G 84 [v3, (.v (.string s5))] h4 (fun v6 h7 =>
  okInt .i64 (some v6) fun n8 =>
  RetR h K (.tup [(.v (.int .i64 n8)), (.v (.int .i64 0))]) h7))))
theorem Tryd.c31 (G : Nat → Option AV) (a0 a1 : AV) (h : AH) (K : AV → AH → Prop) (hk : LowH h.length h → Tryd.r31 G a0 a1 h K) : SCall Tryd.prog G 31 [a0, a1] h K :=
  scall_of_rwp Tryd.tab31 [] Tryd.func31 rfl Tryd.ntmps31 (by kernel_rfl) (by show 2 ≤ 13; decide) (by kernel_rfl) (by kernel_rfl) hk
end Go.Proofs

/-
  Of each function its body as a plain statement, and that a call follows from it: printed by wip/gen/Res.lean.
-/
namespace Go.Proofs
open Go Go.Abs
set_option linter.unusedVariables false
set_option maxRecDepth 100000
-- 32 skylark/skylarkbook.SameTexts
def Tryd.r32_l4_2 (K : AV → AH → Prop) (h : AH) (a0 : AV) (a1 : AV) (n12 : Int) : Prop :=
  ∃ (I2 : Nat → List AV → AH → Prop) (m3 : Nat), I2 m3 [(.v (.int .i64 n12))] h ∧ ∀ (m4 : Nat) (h5 : AH), h.length ≤ h5.length → LowH h5.length h5 → ∀ (n6 : Int), I2 m4 [(.v (.int .i64 n6))] h5 →
  okInt .i64 (aLen Tryd.prog h5 23 a0) fun n7 =>
  condB (decide (n6 < n7))
  (okV (aIA Tryd.prog h5 23 a0 (.v (.int .i64 n6))) fun v8 =>
  okStr (aLoad Tryd.prog h5 9 v8) fun s9 =>
  okV (aIA Tryd.prog h5 23 a1 (.v (.int .i64 n6))) fun v10 =>
  okStr (aLoad Tryd.prog h5 9 v10) fun s11 =>
  condB (!(ByteArray.toList s9 == ByteArray.toList s11))
  (RetR h K (.v (.bool false)) h5)
  (nextR h I2 m4 [some a0, some a1] [some a0, some a1] [(.v (.int .i64 (IntKind.wrap .i64 (n6 + 1))))] h5))
  (RetR h K (.v (.bool true)) h5)
def Tryd.r32 (a0 a1 : AV) (h : AH) (K : AV → AH → Prop) : Prop :=
  okInt .i64 (aLen Tryd.prog h 23 a0) fun n0 =>
  okInt .i64 (aLen Tryd.prog h 23 a1) fun n1 =>
  condB (n0 != n1)
  (RetR h K (.v (.bool false)) h)
  (Tryd.r32_l4_2 K h a0 a1 0)
theorem Tryd.c32 (G : Nat → Option AV) (a0 a1 : AV) (h : AH) (K : AV → AH → Prop) (hk : LowH h.length h → Tryd.r32 a0 a1 h K) : SCall Tryd.prog G 32 [a0, a1] h K :=
  scall_of_rwp Tryd.tab32 [(4, [(5, (.int .i64))], [0, 1])] Tryd.func32 rfl Tryd.ntmps32 (by kernel_rfl) (by show 2 ≤ 26; decide) (by kernel_rfl) (by kernel_rfl) hk
-- 33 skylark/skylarklaw06.among
def Tryd.r33 (a0 a1 : AV) (h : AH) (K : AV → AH → Prop) : Prop :=
  okInt .i64 (some a0) fun n0 =>
  okInt .i64 (some a1) fun n1 =>
  okInt .i64 (aBin Tryd.prog .rem 3 (.v (.int .i64 n0)) (.v (.int .i64 n1))) fun n2 =>
  okInt .i64 (some a1) fun n3 =>
  okInt .i64 (some a1) fun n4 =>
  okInt .i64 (aBin Tryd.prog .rem 3 (.v (.int .i64 (IntKind.wrap .i64 (n2 + n3)))) (.v (.int .i64 n4))) fun n5 =>
  RetR h K (.v (.int .i64 n5)) h
theorem Tryd.c33 (G : Nat → Option AV) (a0 a1 : AV) (h : AH) (K : AV → AH → Prop) (hk : LowH h.length h → Tryd.r33 a0 a1 h K) : SCall Tryd.prog G 33 [a0, a1] h K :=
  scall_of_rwp Tryd.tab33 [] Tryd.func33 rfl Tryd.ntmps33 (by kernel_rfl) (by show 2 ≤ 12; decide) (by kernel_rfl) (by kernel_rfl) hk
-- 34 (skylark/skylarklaw07.Change).theirs
def Tryd.r34 (a0 : AV) (h : AH) (K : AV → AH → Prop) : Prop :=
  onlyB (AV.one a0) (newO (.cells 47 (AV.cells a0).length [AV.cells a0] 0) h fun i0 h1 =>
  newO (.cells 48 6 [[(.v (.int .i64 0)), (.v (.slice none 0 0)), (.v (.int .i64 0)), (.v (.slice none 0 0)), (.v (.string (ByteArray.mk #[]))), (.v (.bool false))]] 0) h1 fun i2 h3 =>
  okV (aLoad Tryd.prog h3 45 (.ptr i0 0 0 0)) fun v4 =>
  okV (aLoad Tryd.prog h3 45 (.ptr i0 0 0 2)) fun v5 =>
  okStr (aLoad Tryd.prog h3 9 (.ptr i0 0 0 4)) fun s6 =>
  okBool (aLoad Tryd.prog h3 4 (.ptr i0 0 0 5)) fun b7 =>
  okV (aBuild Tryd.prog 48 [(0, some v4), (1, some v5), (2, some (.v (.string s6))), (3, some (.v (.bool b7)))]) fun v8 =>
  storeR Tryd.prog h3 (fun v9 h10 =>
  okV (aLoad Tryd.prog h10 48 (.ptr i2 0 0 0)) fun v11 =>
  RetR h K v11 h10) 48 v8 (.ptr i2 0 0 0))
theorem Tryd.c34 (G : Nat → Option AV) (a0 : AV) (h : AH) (K : AV → AH → Prop) (hk : LowH h.length h → Tryd.r34 a0 h K) : SCall Tryd.prog G 34 [a0] h K :=
  scall_of_rwp Tryd.tab34 [] Tryd.func34 rfl Tryd.ntmps34 (by kernel_rfl) (by show 1 ≤ 12; decide) (by kernel_rfl) (by kernel_rfl) hk
-- 35 (skylark/skylarklaw07.Change).ours
def Tryd.r35 (a0 : AV) (h : AH) (K : AV → AH → Prop) : Prop :=
  onlyB (AV.one a0) (newO (.cells 47 (AV.cells a0).length [AV.cells a0] 0) h fun i0 h1 =>
  newO (.cells 50 6 [[(.v (.int .i64 0)), (.v (.slice none 0 0)), (.v (.int .i64 0)), (.v (.slice none 0 0)), (.v (.string (ByteArray.mk #[]))), (.v (.bool false))]] 0) h1 fun i2 h3 =>
  okV (aLoad Tryd.prog h3 45 (.ptr i0 0 0 0)) fun v4 =>
  okV (aLoad Tryd.prog h3 45 (.ptr i0 0 0 2)) fun v5 =>
  okStr (aLoad Tryd.prog h3 9 (.ptr i0 0 0 4)) fun s6 =>
  okBool (aLoad Tryd.prog h3 4 (.ptr i0 0 0 5)) fun b7 =>
  okV (aBuild Tryd.prog 50 [(0, some v4), (1, some v5), (2, some (.v (.string s6))), (3, some (.v (.bool b7)))]) fun v8 =>
  storeR Tryd.prog h3 (fun v9 h10 =>
  okV (aLoad Tryd.prog h10 50 (.ptr i2 0 0 0)) fun v11 =>
  RetR h K v11 h10) 50 v8 (.ptr i2 0 0 0))
theorem Tryd.c35 (G : Nat → Option AV) (a0 : AV) (h : AH) (K : AV → AH → Prop) (hk : LowH h.length h → Tryd.r35 a0 h K) : SCall Tryd.prog G 35 [a0] h K :=
  scall_of_rwp Tryd.tab35 [] Tryd.func35 rfl Tryd.ntmps35 (by kernel_rfl) (by show 1 ≤ 12; decide) (by kernel_rfl) (by kernel_rfl) hk
-- 36 (skylark/layout.Change).Owner
def Tryd.r36_j12 (K : AV → AH → Prop) (h : AH) (G : Nat → Option AV) (a1 : AV) (i7 : Nat) (h11 : AH) : Prop :=
  okV (aLoad Tryd.prog h11 22 (.ptr i7 0 0 1)) fun v12 =>
  okStr (some a1) fun s13 =>
  callR Tryd.prog G 19 [v12, (.v (.string s13))] h11 (fun v14 h15 =>
  okInt .i64 (extV 0 v14) fun n16 =>
  okInt .i64 (extV 1 v14) fun n17 =>
  RetR h K (.tup [(.v (.int .i64 n16)), (.v (.int .i64 n17))]) h15)
def Tryd.r36 (G : Nat → Option AV) (a0 a1 : AV) (h : AH) (K : AV → AH → Prop) : Prop :=
  onlyB (AV.one a0) (newO (.cells 48 (AV.cells a0).length [AV.cells a0] 0) h fun i0 h1 =>
  okV (aLoad Tryd.prog h1 48 (.ptr i0 0 0 0)) fun v2 =>
  callR Tryd.prog G 44 [v2] h1 (fun v3 h4 =>
  okInt .i64 (some v3) fun n5 =>
  condB (n5 != 0)
  (RetR h K (.tup [(.v (.int .i64 0)), (.v (.int .i64 n5))]) h4)
  (okV (aLoad Tryd.prog h4 45 (.ptr i0 0 0 0)) fun v6 =>
  newO (.cells 45 2 [[(.v (.int .i64 0)), (.v (.slice none 0 0))]] 0) h4 fun i7 h8 =>
  storeR Tryd.prog h8 (fun v9 h10 =>
  okBool (aLoad Tryd.prog h10 4 (.ptr i0 0 0 5)) fun b18 =>
  rGq b18 false (some a1) fun b19 v20 =>
  rGq b19 false (some (.ptr i0 0 0 4)) fun b21 v22 =>
  rGq b21 false (aLoad Tryd.prog h10 9 v22) fun b23 v24 =>
  rGq b23 false (aBin Tryd.prog .lss 9 v20 v24) fun b25 v26 =>
  okBool (pickR (some (.v (.bool b25))) (some (.v (.bool true))) (some v26)) fun b27 =>
  condB b27
  (okV (aLoad Tryd.prog h10 45 (.ptr i0 0 0 2)) fun v28 =>
  storeR Tryd.prog h10 (fun v29 h30 =>
  Tryd.r36_j12 K h G a1 i7 h30) 45 v28 (.ptr i7 0 0 0))
  (Tryd.r36_j12 K h G a1 i7 h10)) 45 v6 (.ptr i7 0 0 0))))
theorem Tryd.c36 (G : Nat → Option AV) (a0 a1 : AV) (h : AH) (K : AV → AH → Prop) (hk : LowH h.length h → Tryd.r36 G a0 a1 h K) : SCall Tryd.prog G 36 [a0, a1] h K :=
  scall_of_rwp Tryd.tab36 [] Tryd.func36 rfl Tryd.ntmps36 (by kernel_rfl) (by show 2 ≤ 31; decide) (by kernel_rfl) (by kernel_rfl) hk
-- 37 (skylark/skylarkref07.Change).Owner
def Tryd.r37 (G : Nat → Option AV) (a0 a1 : AV) (h : AH) (K : AV → AH → Prop) : Prop :=
  onlyB (AV.one a0) (newO (.cells 50 (AV.cells a0).length [AV.cells a0] 0) h fun i0 h1 =>
  okV (aLoad Tryd.prog h1 50 (.ptr i0 0 0 0)) fun v2 =>
  callR Tryd.prog G 45 [v2] h1 (fun v3 h4 =>
  okBool (some v3) fun b5 =>
  condB (!b5)
  (RetR h K (.tup [(.v (.int .i64 0)), (.v (.int .i64 70))]) h4)
  (okBool (aLoad Tryd.prog h4 4 (.ptr i0 0 0 5)) fun b6 =>
  rGq b6 false (some a1) fun b7 v8 =>
  rGq b7 false (some (.ptr i0 0 0 4)) fun b9 v10 =>
  rGq b9 false (aLoad Tryd.prog h4 9 v10) fun b11 v12 =>
  rGq b11 false (aBin Tryd.prog .lss 9 v8 v12) fun b13 v14 =>
  okBool (pickR (some (.v (.bool b13))) (some (.v (.bool true))) (some v14)) fun b15 =>
  condB b15
  (okV (aLoad Tryd.prog h4 22 (.ptr i0 0 0 3)) fun v16 =>
  okStr (some a1) fun s17 =>
  callR Tryd.prog G 31 [v16, (.v (.string s17))] h4 (fun v18 h19 =>
  okInt .i64 (extV 0 v18) fun n20 =>
  okInt .i64 (extV 1 v18) fun n21 =>
  RetR h K (.tup [(.v (.int .i64 n20)), (.v (.int .i64 n21))]) h19))
  (okV (aLoad Tryd.prog h4 22 (.ptr i0 0 0 1)) fun v22 =>
  okStr (some a1) fun s23 =>
  callR Tryd.prog G 31 [v22, (.v (.string s23))] h4 (fun v24 h25 =>
  okInt .i64 (extV 0 v24) fun n26 =>
  okInt .i64 (extV 1 v24) fun n27 =>
  RetR h K (.tup [(.v (.int .i64 n26)), (.v (.int .i64 n27))]) h25)))))
theorem Tryd.c37 (G : Nat → Option AV) (a0 a1 : AV) (h : AH) (K : AV → AH → Prop) (hk : LowH h.length h → Tryd.r37 G a0 a1 h K) : SCall Tryd.prog G 37 [a0, a1] h K :=
  scall_of_rwp Tryd.tab37 [] Tryd.func37 rfl Tryd.ntmps37 (by kernel_rfl) (by show 2 ≤ 31; decide) (by kernel_rfl) (by kernel_rfl) hk
-- 38 (skylark/layout.Change).To
def Tryd.r38 (G : Nat → Option AV) (a0 a1 : AV) (h : AH) (K : AV → AH → Prop) : Prop :=
  onlyB (AV.one a0) (newO (.cells 48 (AV.cells a0).length [AV.cells a0] 0) h fun i0 h1 =>
  newO (.cells 48 6 [[(.v (.int .i64 0)), (.v (.slice none 0 0)), (.v (.int .i64 0)), (.v (.slice none 0 0)), (.v (.string (ByteArray.mk #[]))), (.v (.bool false))]] 0) h1 fun i2 h3 =>
  okV (aLoad Tryd.prog h3 48 (.ptr i0 0 0 0)) fun v4 =>
  callR Tryd.prog G 44 [v4] h3 (fun v5 h6 =>
  okInt .i64 (some v5) fun n7 =>
  condB (n7 != 0)
  (storeR Tryd.prog h6 (fun v8 h9 =>
  okV (aLoad Tryd.prog h9 48 (.ptr i2 0 0 0)) fun v10 =>
  RetR h K (.tup [v10, (.v (.int .i64 n7))]) h9) 48 (.agg [(.v (.int .i64 0)), (.v (.slice none 0 0)), (.v (.int .i64 0)), (.v (.slice none 0 0)), (.v (.string (ByteArray.mk #[]))), (.v (.bool false))]) (.ptr i2 0 0 0))
  (okBool (aLoad Tryd.prog h6 4 (.ptr i0 0 0 5)) fun b11 =>
  rGq b11 false (some a1) fun b12 v13 =>
  rGq b12 false (some (.ptr i0 0 0 4)) fun b14 v15 =>
  rGq b14 false (aLoad Tryd.prog h6 9 v15) fun b16 v17 =>
  rGq b16 false (aBin Tryd.prog .lss 9 v13 v17) fun b18 v19 =>
  okBool (pickR (some (.v (.bool b18))) (some (.v (.bool true))) (some v19)) fun b20 =>
  rGq b20 false (some a1) fun b21 v22 =>
  rGq b21 false (aLen Tryd.prog h6 9 v22) fun b23 v24 =>
  rGq b23 false (aBin Tryd.prog .gtr 3 v24 (.v (.int .i64 64))) fun b25 v26 =>
  okBool (pickR (some (.v (.bool b25))) (some (.v (.bool true))) (some v26)) fun b27 =>
  condB b27
  (storeR Tryd.prog h6 (fun v28 h29 =>
  okV (aLoad Tryd.prog h29 48 (.ptr i2 0 0 0)) fun v30 =>
  RetR h K (.tup [v30, (.v (.int .i64 1))]) h29) 48 (.agg [(.v (.int .i64 0)), (.v (.slice none 0 0)), (.v (.int .i64 0)), (.v (.slice none 0 0)), (.v (.string (ByteArray.mk #[]))), (.v (.bool false))]) (.ptr i2 0 0 0))
  (okStr (some a1) fun s31 =>
  storeR Tryd.prog h6 (fun v32 h33 =>
  okV (aLoad Tryd.prog h33 48 (.ptr i0 0 0 0)) fun v34 =>
  storeR Tryd.prog h33 (fun v35 h36 =>
  okV (aLoad Tryd.prog h36 48 (.ptr i2 0 0 0)) fun v37 =>
  RetR h K (.tup [v37, (.v (.int .i64 0))]) h36) 48 v34 (.ptr i2 0 0 0)) 9 (.v (.string s31)) (.ptr i0 0 0 4)))))
theorem Tryd.c38 (G : Nat → Option AV) (a0 a1 : AV) (h : AH) (K : AV → AH → Prop) (hk : LowH h.length h → Tryd.r38 G a0 a1 h K) : SCall Tryd.prog G 38 [a0, a1] h K :=
  scall_of_rwp Tryd.tab38 [] Tryd.func38 rfl Tryd.ntmps38 (by kernel_rfl) (by show 2 ≤ 30; decide) (by kernel_rfl) (by kernel_rfl) hk
-- 39 (skylark/skylarkref07.Change).To
def Tryd.r39 (G : Nat → Option AV) (a0 a1 : AV) (h : AH) (K : AV → AH → Prop) : Prop :=
  onlyB (AV.one a0) (newO (.cells 50 (AV.cells a0).length [AV.cells a0] 0) h fun i0 h1 =>
  newO (.cells 50 6 [[(.v (.int .i64 0)), (.v (.slice none 0 0)), (.v (.int .i64 0)), (.v (.slice none 0 0)), (.v (.string (ByteArray.mk #[]))), (.v (.bool false))]] 0) h1 fun i2 h3 =>
  okV (aLoad Tryd.prog h3 50 (.ptr i0 0 0 0)) fun v4 =>
  callR Tryd.prog G 45 [v4] h3 (fun v5 h6 =>
  okBool (some v5) fun b7 =>
  condB (!b7)
  (storeR Tryd.prog h6 (fun v8 h9 =>
  okV (aLoad Tryd.prog h9 50 (.ptr i2 0 0 0)) fun v10 =>
  RetR h K (.tup [v10, (.v (.int .i64 70))]) h9) 50 (.agg [(.v (.int .i64 0)), (.v (.slice none 0 0)), (.v (.int .i64 0)), (.v (.slice none 0 0)), (.v (.string (ByteArray.mk #[]))), (.v (.bool false))]) (.ptr i2 0 0 0))
  (okBool (aLoad Tryd.prog h6 4 (.ptr i0 0 0 5)) fun b11 =>
  rGq b11 false (some a1) fun b12 v13 =>
  rGq b12 false (some (.ptr i0 0 0 4)) fun b14 v15 =>
  rGq b14 false (aLoad Tryd.prog h6 9 v15) fun b16 v17 =>
  rGq b16 false (aBin Tryd.prog .lss 9 v13 v17) fun b18 v19 =>
  okBool (pickR (some (.v (.bool b18))) (some (.v (.bool true))) (some v19)) fun b20 =>
  rGq b20 false (some a1) fun b21 v22 =>
  rGq b21 false (aLen Tryd.prog h6 9 v22) fun b23 v24 =>
  rGq b23 false (aBin Tryd.prog .gtr 3 v24 (.v (.int .i64 64))) fun b25 v26 =>
  okBool (pickR (some (.v (.bool b25))) (some (.v (.bool true))) (some v26)) fun b27 =>
  condB b27
  (storeR Tryd.prog h6 (fun v28 h29 =>
  okV (aLoad Tryd.prog h29 50 (.ptr i2 0 0 0)) fun v30 =>
  RetR h K (.tup [v30, (.v (.int .i64 1))]) h29) 50 (.agg [(.v (.int .i64 0)), (.v (.slice none 0 0)), (.v (.int .i64 0)), (.v (.slice none 0 0)), (.v (.string (ByteArray.mk #[]))), (.v (.bool false))]) (.ptr i2 0 0 0))
  (okStr (some a1) fun s31 =>
  storeR Tryd.prog h6 (fun v32 h33 =>
  okV (aLoad Tryd.prog h33 50 (.ptr i0 0 0 0)) fun v34 =>
  storeR Tryd.prog h33 (fun v35 h36 =>
  okV (aLoad Tryd.prog h36 50 (.ptr i2 0 0 0)) fun v37 =>
  RetR h K (.tup [v37, (.v (.int .i64 0))]) h36) 50 v34 (.ptr i2 0 0 0)) 9 (.v (.string s31)) (.ptr i0 0 0 4)))))
theorem Tryd.c39 (G : Nat → Option AV) (a0 a1 : AV) (h : AH) (K : AV → AH → Prop) (hk : LowH h.length h → Tryd.r39 G a0 a1 h K) : SCall Tryd.prog G 39 [a0, a1] h K :=
  scall_of_rwp Tryd.tab39 [] Tryd.func39 rfl Tryd.ntmps39 (by kernel_rfl) (by show 2 ≤ 27; decide) (by kernel_rfl) (by kernel_rfl) hk
-- 40 (skylark/layout.Change).End
def Tryd.r40 (G : Nat → Option AV) (a0 : AV) (h : AH) (K : AV → AH → Prop) : Prop :=
  onlyB (AV.one a0) (newO (.cells 48 (AV.cells a0).length [AV.cells a0] 0) h fun i0 h1 =>
  newO (.cells 45 2 [[(.v (.int .i64 0)), (.v (.slice none 0 0))]] 0) h1 fun i2 h3 =>
  okV (aLoad Tryd.prog h3 48 (.ptr i0 0 0 0)) fun v4 =>
  callR Tryd.prog G 44 [v4] h3 (fun v5 h6 =>
  okInt .i64 (some v5) fun n7 =>
  condB (n7 != 0)
  (storeR Tryd.prog h6 (fun v8 h9 =>
  okV (aLoad Tryd.prog h9 45 (.ptr i2 0 0 0)) fun v10 =>
  RetR h K (.tup [v10, (.v (.int .i64 70))]) h9) 45 (.agg [(.v (.int .i64 0)), (.v (.slice none 0 0))]) (.ptr i2 0 0 0))
  (okBool (aLoad Tryd.prog h6 4 (.ptr i0 0 0 5)) fun b11 =>
  condB (!b11)
  (storeR Tryd.prog h6 (fun v12 h13 =>
  okV (aLoad Tryd.prog h13 45 (.ptr i2 0 0 0)) fun v14 =>
  RetR h K (.tup [v14, (.v (.int .i64 1))]) h13) 45 (.agg [(.v (.int .i64 0)), (.v (.slice none 0 0))]) (.ptr i2 0 0 0))
  (okV (aLoad Tryd.prog h6 45 (.ptr i0 0 0 2)) fun v15 =>
  storeR Tryd.prog h6 (fun v16 h17 =>
  okV (aLoad Tryd.prog h17 45 (.ptr i2 0 0 0)) fun v18 =>
  RetR h K (.tup [v18, (.v (.int .i64 0))]) h17) 45 v15 (.ptr i2 0 0 0)))))
theorem Tryd.c40 (G : Nat → Option AV) (a0 : AV) (h : AH) (K : AV → AH → Prop) (hk : LowH h.length h → Tryd.r40 G a0 h K) : SCall Tryd.prog G 40 [a0] h K :=
  scall_of_rwp Tryd.tab40 [] Tryd.func40 rfl Tryd.ntmps40 (by kernel_rfl) (by show 1 ≤ 16; decide) (by kernel_rfl) (by kernel_rfl) hk
-- 41 (skylark/skylarkref07.Change).End
def Tryd.r41 (G : Nat → Option AV) (a0 : AV) (h : AH) (K : AV → AH → Prop) : Prop :=
  onlyB (AV.one a0) (newO (.cells 50 (AV.cells a0).length [AV.cells a0] 0) h fun i0 h1 =>
  newO (.cells 45 2 [[(.v (.int .i64 0)), (.v (.slice none 0 0))]] 0) h1 fun i2 h3 =>
  okV (aLoad Tryd.prog h3 50 (.ptr i0 0 0 0)) fun v4 =>
  callR Tryd.prog G 45 [v4] h3 (fun v5 h6 =>
  okBool (some v5) fun b7 =>
  condB (!b7)
  (storeR Tryd.prog h6 (fun v8 h9 =>
  okV (aLoad Tryd.prog h9 45 (.ptr i2 0 0 0)) fun v10 =>
  RetR h K (.tup [v10, (.v (.int .i64 70))]) h9) 45 (.agg [(.v (.int .i64 0)), (.v (.slice none 0 0))]) (.ptr i2 0 0 0))
  (okBool (aLoad Tryd.prog h6 4 (.ptr i0 0 0 5)) fun b11 =>
  condB (!b11)
  (storeR Tryd.prog h6 (fun v12 h13 =>
  okV (aLoad Tryd.prog h13 45 (.ptr i2 0 0 0)) fun v14 =>
  RetR h K (.tup [v14, (.v (.int .i64 1))]) h13) 45 (.agg [(.v (.int .i64 0)), (.v (.slice none 0 0))]) (.ptr i2 0 0 0))
  (okV (aLoad Tryd.prog h6 45 (.ptr i0 0 0 2)) fun v15 =>
  storeR Tryd.prog h6 (fun v16 h17 =>
  okV (aLoad Tryd.prog h17 45 (.ptr i2 0 0 0)) fun v18 =>
  RetR h K (.tup [v18, (.v (.int .i64 0))]) h17) 45 v15 (.ptr i2 0 0 0)))))
theorem Tryd.c41 (G : Nat → Option AV) (a0 : AV) (h : AH) (K : AV → AH → Prop) (hk : LowH h.length h → Tryd.r41 G a0 h K) : SCall Tryd.prog G 41 [a0] h K :=
  scall_of_rwp Tryd.tab41 [] Tryd.func41 rfl Tryd.ntmps41 (by kernel_rfl) (by show 1 ≤ 14; decide) (by kernel_rfl) (by kernel_rfl) hk
-- 42 skylark/layout.Check
def Tryd.r42 (G : Nat → Option AV) (a0 : AV) (h : AH) (K : AV → AH → Prop) : Prop :=
  onlyB (AV.one a0) (newO (.cells 45 (AV.cells a0).length [AV.cells a0] 0) h fun i0 h1 =>
  okInt .i64 (aLoad Tryd.prog h1 3 (.ptr i0 0 0 0)) fun n2 =>
  rGq (decide (n2 < 1)) false (some (.ptr i0 0 0 0)) fun b3 v4 =>
  rGq b3 false (aLoad Tryd.prog h1 3 v4) fun b5 v6 =>
  rGq b5 false (aBin Tryd.prog .gtr 3 v6 (.v (.int .i64 1073741824))) fun b7 v8 =>
  okBool (pickR (some (.v (.bool b7))) (some (.v (.bool true))) (some v8)) fun b9 =>
  rGq b9 false (some (.ptr i0 0 0 1)) fun b10 v11 =>
  rGq b10 false (aLoad Tryd.prog h1 22 v11) fun b12 v13 =>
  rGe b12 false (fun k14 => callR Tryd.prog G 20 [v13] h1 (fun v15 h16 =>
  k14 v15 h16)) h1 fun b17 v18 h19 =>
  rGq b17 false (aBin Tryd.prog .neq 25 v18 (.v (.int .i64 0))) fun b20 v21 =>
  okBool (pickR (some (.v (.bool b20))) (some (.v (.bool true))) (some v21)) fun b22 =>
  condB b22
  (RetR h K (.v (.int .i64 70)) h19)
  (RetR h K (.v (.int .i64 0)) h19))
theorem Tryd.c42 (G : Nat → Option AV) (a0 : AV) (h : AH) (K : AV → AH → Prop) (hk : LowH h.length h → Tryd.r42 G a0 h K) : SCall Tryd.prog G 42 [a0] h K :=
  scall_of_rwp Tryd.tab42 [] Tryd.func42 rfl Tryd.ntmps42 (by kernel_rfl) (by show 1 ≤ 17; decide) (by kernel_rfl) (by kernel_rfl) hk
-- 43 skylark/skylarkref07.Check
def Tryd.r43 (G : Nat → Option AV) (a0 : AV) (h : AH) (K : AV → AH → Prop) : Prop :=
  onlyB (AV.one a0) (newO (.cells 45 (AV.cells a0).length [AV.cells a0] 0) h fun i0 h1 =>
  okV (aLoad Tryd.prog h1 45 (.ptr i0 0 0 0)) fun v2 =>
  callR Tryd.prog G 85 [v2] h1 (fun v3 h4 =>
  okBool (some v3) fun b5 =>
  condB (!b5)
  (RetR h K (.v (.int .i64 70)) h4)
  (RetR h K (.v (.int .i64 0)) h4)))
theorem Tryd.c43 (G : Nat → Option AV) (a0 : AV) (h : AH) (K : AV → AH → Prop) (hk : LowH h.length h → Tryd.r43 G a0 h K) : SCall Tryd.prog G 43 [a0] h K :=
  scall_of_rwp Tryd.tab43 [] Tryd.func43 rfl Tryd.ntmps43 (by kernel_rfl) (by show 1 ≤ 6; decide) (by kernel_rfl) (by kernel_rfl) hk
-- 44 (skylark/layout.Change).Check
def Tryd.r44 (G : Nat → Option AV) (a0 : AV) (h : AH) (K : AV → AH → Prop) : Prop :=
  onlyB (AV.one a0) (newO (.cells 48 (AV.cells a0).length [AV.cells a0] 0) h fun i0 h1 =>
  okStr (aLoad Tryd.prog h1 9 (.ptr i0 0 0 4)) fun s2 =>
  okBool (aLoad Tryd.prog h1 4 (.ptr i0 0 0 5)) fun b3 =>
  newO (.cells 145 2 [[(.v (.string (ByteArray.mk #[]))), (.v (.bool false))]] 0) h1 fun i4 h5 =>
  storeR Tryd.prog h5 (fun v6 h7 =>
  okV (aLoad Tryd.prog h7 45 (.ptr i0 0 0 0)) fun v8 =>
  callR Tryd.prog G 42 [v8] h7 (fun v9 h10 =>
  okInt .i64 (some v9) fun n11 =>
  rGq (n11 != 0) false (some (.ptr i0 0 0 2)) fun b12 v13 =>
  rGq b12 false (aLoad Tryd.prog h10 45 v13) fun b14 v15 =>
  rGe b14 false (fun k16 => callR Tryd.prog G 42 [v15] h10 (fun v17 h18 =>
  k16 v17 h18)) h10 fun b19 v20 h21 =>
  rGq b19 false (aBin Tryd.prog .neq 25 v20 (.v (.int .i64 0))) fun b22 v23 =>
  okBool (pickR (some (.v (.bool b22))) (some (.v (.bool true))) (some v23)) fun b24 =>
  condB b24
  (RetR h K (.v (.int .i64 70)) h21)
  (okInt .i64 (aLoad Tryd.prog h21 3 (.ptr i0 0 0 2)) fun n25 =>
  okInt .i64 (aLoad Tryd.prog h21 3 (.ptr i0 0 0 0)) fun n26 =>
  rGq (n25 != (IntKind.wrap .i64 (n26 + 1))) false (some (.ptr i0 0 0 2)) fun b27 v28 =>
  rGq b27 false (aFA Tryd.prog 45 1 v28) fun b29 v30 =>
  rGq b29 false (aLoad Tryd.prog h21 22 v30) fun b31 v32 =>
  rGq b31 false (aLen Tryd.prog h21 22 v32) fun b33 v34 =>
  rGq b33 false (some (.ptr i0 0 0 0)) fun b35 v36 =>
  rGq b35 false (aFA Tryd.prog 45 1 v36) fun b37 v38 =>
  rGq b37 false (aLoad Tryd.prog h21 22 v38) fun b39 v40 =>
  rGq b39 false (aLen Tryd.prog h21 22 v40) fun b41 v42 =>
  rGq b41 false (aBin Tryd.prog .lss 3 v34 v42) fun b43 v44 =>
  okBool (pickR (some (.v (.bool b43))) (some (.v (.bool true))) (some v44)) fun b45 =>
  condB b45
  (RetR h K (.v (.int .i64 70)) h21)
  (okStr (aLoad Tryd.prog h21 9 (.ptr i4 0 0 0)) fun s46 =>
  rGq (decide (((ByteArray.size s46 : Nat) : Int) > 64)) false (some (.ptr i4 0 0 1)) fun b47 v48 =>
  rGq b47 false (aLoad Tryd.prog h21 4 v48) fun b49 v50 =>
  rGq b49 false (some v50) fun b51 v52 =>
  okG (some v52) true fun b53 g0 =>
  rGq b53 true (aLoad Tryd.prog h21 145 (.ptr i4 0 0 0)) fun b54 v55 =>
  okG (some (g0 b54)) true fun c1 g2 =>
  rGq c1 true (some (.agg [(.v (.string (ByteArray.mk #[]))), (.v (.bool true))])) fun b56 v57 =>
  okG (some (g2 b56)) true fun c3 g4 =>
  rGq c3 true (aBin Tryd.prog .neq 145 v55 v57) fun b58 v59 =>
  rGq b51 false (pickR (some (g4 b58)) (some v59) (some (.v (.bool false)))) fun b60 v61 =>
  okBool (pickR (some (.v (.bool b60))) (some (.v (.bool true))) (some v61)) fun b62 =>
  condB b62
  (RetR h K (.v (.int .i64 70)) h21)
  (RetR h K (.v (.int .i64 0)) h21))))) 145 (.agg [(.v (.string s2)), (.v (.bool b3))]) (.ptr i4 0 0 0))
theorem Tryd.c44 (G : Nat → Option AV) (a0 : AV) (h : AH) (K : AV → AH → Prop) (hk : LowH h.length h → Tryd.r44 G a0 h K) : SCall Tryd.prog G 44 [a0] h K :=
  scall_of_rwp Tryd.tab44 [] Tryd.func44 rfl Tryd.ntmps44 (by kernel_rfl) (by show 1 ≤ 54; decide) (by kernel_rfl) (by kernel_rfl) hk
-- 45 (skylark/skylarkref07.Change).May
def Tryd.r45 (G : Nat → Option AV) (a0 : AV) (h : AH) (K : AV → AH → Prop) : Prop :=
  onlyB (AV.one a0) (newO (.cells 50 (AV.cells a0).length [AV.cells a0] 0) h fun i0 h1 =>
  okV (aLoad Tryd.prog h1 45 (.ptr i0 0 0 0)) fun v2 =>
  callR Tryd.prog G 85 [v2] h1 (fun v3 h4 =>
  okBool (some v3) fun b5 =>
  rGq b5 true (some (.ptr i0 0 0 2)) fun b6 v7 =>
  rGq b6 true (aLoad Tryd.prog h4 45 v7) fun b8 v9 =>
  rGe b8 true (fun k10 => callR Tryd.prog G 85 [v9] h4 (fun v11 h12 =>
  k10 v11 h12)) h4 fun b13 v14 h15 =>
  okBool (pickR (some (.v (.bool b13))) (some v14) (some (.v (.bool false)))) fun b16 =>
  rGq b16 true (some (.ptr i0 0 0 2)) fun b17 v18 =>
  rGq b17 true (aFA Tryd.prog 45 0 v18) fun b19 v20 =>
  rGq b19 true (aLoad Tryd.prog h15 3 v20) fun b21 v22 =>
  rGq b21 true (some (.ptr i0 0 0 0)) fun b23 v24 =>
  rGq b23 true (aFA Tryd.prog 45 0 v24) fun b25 v26 =>
  rGq b25 true (aLoad Tryd.prog h15 3 v26) fun b27 v28 =>
  rGq b27 true (aBin Tryd.prog .add 3 v28 (.v (.int .i64 1))) fun b29 v30 =>
  rGq b29 true (aBin Tryd.prog .eql 3 v22 v30) fun b31 v32 =>
  okBool (pickR (some (.v (.bool b31))) (some v32) (some (.v (.bool false)))) fun b33 =>
  rGq b33 true (some (.ptr i0 0 0 2)) fun b34 v35 =>
  rGq b34 true (aFA Tryd.prog 45 1 v35) fun b36 v37 =>
  rGq b36 true (aLoad Tryd.prog h15 22 v37) fun b38 v39 =>
  rGq b38 true (aLen Tryd.prog h15 22 v39) fun b40 v41 =>
  rGq b40 true (some (.ptr i0 0 0 0)) fun b42 v43 =>
  rGq b42 true (aFA Tryd.prog 45 1 v43) fun b44 v45 =>
  rGq b44 true (aLoad Tryd.prog h15 22 v45) fun b46 v47 =>
  rGq b46 true (aLen Tryd.prog h15 22 v47) fun b48 v49 =>
  rGq b48 true (aBin Tryd.prog .geq 3 v41 v49) fun b50 v51 =>
  okBool (pickR (some (.v (.bool b50))) (some v51) (some (.v (.bool false)))) fun b52 =>
  rGq b52 true (some (.ptr i0 0 0 4)) fun b53 v54 =>
  rGq b53 true (aLoad Tryd.prog h15 9 v54) fun b55 v56 =>
  rGq b55 true (aLen Tryd.prog h15 9 v56) fun b57 v58 =>
  rGq b57 true (aBin Tryd.prog .leq 3 v58 (.v (.int .i64 64))) fun b59 v60 =>
  okBool (pickR (some (.v (.bool b59))) (some v60) (some (.v (.bool false)))) fun b61 =>
  rGq b61 true (some (.ptr i0 0 0 5)) fun b62 v63 =>
  rGq b62 true (aLoad Tryd.prog h15 4 v63) fun b64 v65 =>
  rGq b64 true (some v65) fun b66 v67 =>
  okG (some v67) true fun b68 g0 =>
  rGq b68 true (some (.ptr i0 0 0 4)) fun b69 v70 =>
  okG (some (g0 b69)) true fun c1 g2 =>
  rGq c1 true (aLoad Tryd.prog h15 9 v70) fun b71 v72 =>
  okG (some (g2 b71)) true fun c3 g4 =>
  rGq c3 true (aBin Tryd.prog .neq 9 v72 (.v (.string (ByteArray.mk #[])))) fun b73 v74 =>
  rGq b66 true (pickR (some (g4 b73)) (some v74) (some (.v (.bool false)))) fun b75 v76 =>
  rGq b75 true (aUn .not v76) fun b77 v78 =>
  okBool (pickR (some (.v (.bool b77))) (some v78) (some (.v (.bool false)))) fun b79 =>
  RetR h K (.v (.bool b79)) h15))
theorem Tryd.c45 (G : Nat → Option AV) (a0 : AV) (h : AH) (K : AV → AH → Prop) (hk : LowH h.length h → Tryd.r45 G a0 h K) : SCall Tryd.prog G 45 [a0] h K :=
  scall_of_rwp Tryd.tab45 [] Tryd.func45 rfl Tryd.ntmps45 (by kernel_rfl) (by show 1 ≤ 48; decide) (by kernel_rfl) (by kernel_rfl) hk
-- 46 skylark/skylarkref07.Equal
def Tryd.r46_l4_21 (K : AV → AH → Prop) (h : AH) (i0 : Nat) (i2 : Nat) (h3 : AH) (n34 : Int) : Prop :=
  ∃ (I21 : Nat → List AV → AH → Prop) (m22 : Nat), I21 m22 [(.v (.int .i64 n34))] h3 ∧ ∀ (m23 : Nat) (h24 : AH), h3.length ≤ h24.length → LowH h24.length h24 → ∀ (n25 : Int), I21 m23 [(.v (.int .i64 n25))] h24 →
  okV (aLoad Tryd.prog h24 22 (.ptr i0 0 0 1)) fun v26 =>
  okInt .i64 (aLen Tryd.prog h24 22 v26) fun n27 =>
  condB (decide (n25 < n27))
  (okV (aLoad Tryd.prog h24 22 (.ptr i0 0 0 1)) fun v28 =>
  okV (aIA Tryd.prog h24 22 v28 (.v (.int .i64 n25))) fun v29 =>
  okInt .i64 (aLoad Tryd.prog h24 3 v29) fun n30 =>
  okV (aLoad Tryd.prog h24 22 (.ptr i2 0 0 1)) fun v31 =>
  okV (aIA Tryd.prog h24 22 v31 (.v (.int .i64 n25))) fun v32 =>
  okInt .i64 (aLoad Tryd.prog h24 3 v32) fun n33 =>
  condB (n30 != n33)
  (RetR h K (.v (.bool false)) h24)
  (nextR h3 I21 m23 [some (.ptr i0 0 0 0), some (.ptr i2 0 0 0)] [some (.ptr i0 0 0 0), some (.ptr i2 0 0 0)] [(.v (.int .i64 (IntKind.wrap .i64 (n25 + 1))))] h24))
  (RetR h K (.v (.bool true)) h24)
def Tryd.r46 (a0 a1 : AV) (h : AH) (K : AV → AH → Prop) : Prop :=
  onlyB (AV.one a0) (newO (.cells 45 (AV.cells a0).length [AV.cells a0] 0) h fun i0 h1 =>
  onlyB (AV.one a1) (newO (.cells 45 (AV.cells a1).length [AV.cells a1] 0) h1 fun i2 h3 =>
  okInt .i64 (aLoad Tryd.prog h3 3 (.ptr i0 0 0 0)) fun n4 =>
  okInt .i64 (aLoad Tryd.prog h3 3 (.ptr i2 0 0 0)) fun n5 =>
  rGq (n4 != n5) false (some (.ptr i0 0 0 1)) fun b6 v7 =>
  rGq b6 false (aLoad Tryd.prog h3 22 v7) fun b8 v9 =>
  rGq b8 false (aLen Tryd.prog h3 22 v9) fun b10 v11 =>
  rGq b10 false (some (.ptr i2 0 0 1)) fun b12 v13 =>
  rGq b12 false (aLoad Tryd.prog h3 22 v13) fun b14 v15 =>
  rGq b14 false (aLen Tryd.prog h3 22 v15) fun b16 v17 =>
  rGq b16 false (aBin Tryd.prog .neq 3 v11 v17) fun b18 v19 =>
  okBool (pickR (some (.v (.bool b18))) (some (.v (.bool true))) (some v19)) fun b20 =>
  condB b20
  (RetR h K (.v (.bool false)) h3)
  (Tryd.r46_l4_21 K h i0 i2 h3 0)))
theorem Tryd.c46 (G : Nat → Option AV) (a0 a1 : AV) (h : AH) (K : AV → AH → Prop) (hk : LowH h.length h → Tryd.r46 a0 a1 h K) : SCall Tryd.prog G 46 [a0, a1] h K :=
  scall_of_rwp Tryd.tab46 [(4, [(5, (.int .i64))], [2, 3])] Tryd.func46 rfl Tryd.ntmps46 (by kernel_rfl) (by show 2 ≤ 38; decide) (by kernel_rfl) (by kernel_rfl) hk
-- 47 skylark/layout.Equal
def Tryd.r47 (G : Nat → Option AV) (a0 a1 : AV) (h : AH) (K : AV → AH → Prop) : Prop :=
  onlyB (AV.one a0) (newO (.cells 45 (AV.cells a0).length [AV.cells a0] 0) h fun i0 h1 =>
  onlyB (AV.one a1) (newO (.cells 45 (AV.cells a1).length [AV.cells a1] 0) h1 fun i2 h3 =>
  okInt .i64 (aLoad Tryd.prog h3 3 (.ptr i0 0 0 0)) fun n4 =>
  okInt .i64 (aLoad Tryd.prog h3 3 (.ptr i2 0 0 0)) fun n5 =>
  rGq (n4 == n5) true (some (.ptr i0 0 0 1)) fun b6 v7 =>
  rGq b6 true (aLoad Tryd.prog h3 22 v7) fun b8 v9 =>
  rGq b8 true (some (.ptr i2 0 0 1)) fun b10 v11 =>
  rGq b10 true (aLoad Tryd.prog h3 22 v11) fun b12 v13 =>
  rGe b12 true (fun k14 => callR Tryd.prog G 86 [v9, v13] h3 (fun v15 h16 =>
  k14 v15 h16)) h3 fun b17 v18 h19 =>
  okBool (pickR (some (.v (.bool b17))) (some v18) (some (.v (.bool false)))) fun b20 =>
  RetR h K (.v (.bool b20)) h19))
theorem Tryd.c47 (G : Nat → Option AV) (a0 a1 : AV) (h : AH) (K : AV → AH → Prop) (hk : LowH h.length h → Tryd.r47 G a0 a1 h K) : SCall Tryd.prog G 47 [a0, a1] h K :=
  scall_of_rwp Tryd.tab47 [] Tryd.func47 rfl Tryd.ntmps47 (by kernel_rfl) (by show 2 ≤ 17; decide) (by kernel_rfl) (by kernel_rfl) hk
-- 48 skylark/skylarklaw07.works
def Tryd.r48 (G : Nat → Option AV) (h : AH) (K : AV → AH → Prop) : Prop :=
  newO (.cells 3 1 [[(.v (.int .i64 1))]] 0) h fun i0 h1 =>
  newO (.cells 3 1 [[(.v (.int .i64 0))], [(.v (.int .i64 1))]] 0) h1 fun i2 h3 =>
  newO (.cells 48 6 [[(.v (.int .i64 0)), (.v (.slice none 0 0)), (.v (.int .i64 0)), (.v (.slice none 0 0)), (.v (.string (ByteArray.mk #[]))), (.v (.bool false))]] 0) h3 fun i4 h5 =>
  storeR Tryd.prog h5 (fun v6 h7 =>
  okV (aLoad Tryd.prog h7 48 (.ptr i4 0 0 0)) fun v8 =>
  callR Tryd.prog G 36 [v8, (.v (.string (ByteArray.mk #[97])))] h7 (fun v9 h10 =>
  okInt .i64 (extV 0 v9) fun n11 =>
  okInt .i64 (extV 1 v9) fun n12 =>
  okV (aLoad Tryd.prog h10 48 (.ptr i4 0 0 0)) fun v13 =>
  callR Tryd.prog G 36 [v13, (.v (.string (ByteArray.mk #[122])))] h10 (fun v14 h15 =>
  okInt .i64 (extV 0 v14) fun n16 =>
  okInt .i64 (extV 1 v14) fun n17 =>
  storeR Tryd.prog h15 (fun v18 h19 =>
  storeR Tryd.prog h19 (fun v20 h21 =>
  okV (aLoad Tryd.prog h21 48 (.ptr i4 0 0 0)) fun v22 =>
  callR Tryd.prog G 40 [v22] h21 (fun v23 h24 =>
  okV (extV 0 v23) fun v25 =>
  okInt .i64 (extV 1 v23) fun n26 =>
  newO (.cells 45 2 [[(.v (.int .i64 0)), (.v (.slice none 0 0))]] 0) h24 fun i27 h28 =>
  storeR Tryd.prog h28 (fun v29 h30 =>
  rGq (n11 == 1) true (some (.v (.int .i64 n12))) fun b31 v32 =>
  rGq b31 true (aBin Tryd.prog .eql 25 v32 (.v (.int .i64 0))) fun b33 v34 =>
  okBool (pickR (some (.v (.bool b33))) (some v34) (some (.v (.bool false)))) fun b35 =>
  rGq b35 true (some (.v (.int .i64 n16))) fun b36 v37 =>
  rGq b36 true (aBin Tryd.prog .eql 3 v37 (.v (.int .i64 0))) fun b38 v39 =>
  okBool (pickR (some (.v (.bool b38))) (some v39) (some (.v (.bool false)))) fun b40 =>
  rGq b40 true (some (.v (.int .i64 n17))) fun b41 v42 =>
  rGq b41 true (aBin Tryd.prog .eql 25 v42 (.v (.int .i64 0))) fun b43 v44 =>
  okBool (pickR (some (.v (.bool b43))) (some v44) (some (.v (.bool false)))) fun b45 =>
  rGq b45 true (some (.v (.int .i64 n26))) fun b46 v47 =>
  rGq b46 true (aBin Tryd.prog .eql 25 v47 (.v (.int .i64 0))) fun b48 v49 =>
  okBool (pickR (some (.v (.bool b48))) (some v49) (some (.v (.bool false)))) fun b50 =>
  rGq b50 true (some (.ptr i27 0 0 0)) fun b51 v52 =>
  rGq b51 true (aLoad Tryd.prog h30 3 v52) fun b53 v54 =>
  rGq b53 true (aBin Tryd.prog .eql 3 v54 (.v (.int .i64 2))) fun b55 v56 =>
  okBool (pickR (some (.v (.bool b55))) (some v56) (some (.v (.bool false)))) fun b57 =>
  rGq b57 true (aLoad Tryd.prog h30 45 (.ptr i27 0 0 0)) fun b58 v59 =>
  rGq b58 true (some (.ptr i4 0 0 2)) fun b60 v61 =>
  rGq b60 true (aLoad Tryd.prog h30 45 v61) fun b62 v63 =>
  rGe b62 true (fun k64 => callR Tryd.prog G 47 [v59, v63] h30 (fun v65 h66 =>
  k64 v65 h66)) h30 fun b67 v68 h69 =>
  okBool (pickR (some (.v (.bool b67))) (some v68) (some (.v (.bool false)))) fun b70 =>
  RetR h K (.v (.bool b70)) h69) 45 v25 (.ptr i27 0 0 0))) 4 (.v (.bool true)) (.ptr i4 0 0 5)) 9 (.v (.string (ByteArray.mk #[]))) (.ptr i4 0 0 4)))) 48 (.agg [(.v (.int .i64 1)), (.sl i0 0 0 1 none), (.v (.int .i64 2)), (.sl i2 0 0 2 none), (.v (.string (ByteArray.mk #[109]))), (.v (.bool false))]) (.ptr i4 0 0 0)
theorem Tryd.c48 (G : Nat → Option AV) (h : AH) (K : AV → AH → Prop) (hk : LowH h.length h → Tryd.r48 G h K) : SCall Tryd.prog G 48 [] h K :=
  scall_of_rwp Tryd.tab48 [] Tryd.func48 rfl Tryd.ntmps48 (by kernel_rfl) (by show 0 ≤ 59; decide) (by kernel_rfl) (by kernel_rfl) hk
-- 49 (skylark/layout.Change).Next
def Tryd.r49_l12_35 (K : AV → AH → Prop) (h : AH) (a1 : AV) (n22 : Int) (n26 : Int) (h31 : AH) (v32 : AV) (n34 : Int) (v50 : AV) (n51 : Int) : Prop :=
  ∃ (I35 : Nat → List AV → AH → Prop) (m36 : Nat), I35 m36 [v50, (.v (.int .i64 n51))] h31 ∧ ∀ (m37 : Nat) (h38 : AH), h31.length ≤ h38.length → LowH h38.length h38 → ∀ (v39 : AV) (n40 : Int), I35 m37 [v39, (.v (.int .i64 n40))] h38 →
  condB (decide (n40 < n34))
  (okV (aIA Tryd.prog h38 22 v32 (.v (.int .i64 n40))) fun v41 =>
  okInt .i64 (aLoad Tryd.prog h38 3 v41) fun n42 =>
  newO (.cells 3 1 [[(.v (.int .i64 (IntKind.wrap .i64 (n22 + n42))))]] 0) h38 fun i43 h44 =>
  appR Tryd.prog h44 22 22 v39 (.sl i43 0 0 1 none) (fun v45 h46 =>
  nextR h31 I35 m37 [some a1, some (.v (.int .i64 n22)), some (.v (.int .i64 (IntKind.wrap .i64 (n22 + n26)))), some v32, some (.v (.int .i64 n34))] [some a1, some (.v (.int .i64 n22)), some (.v (.int .i64 (IntKind.wrap .i64 (n22 + n26)))), some v32, some (.v (.int .i64 n34))] [v45, (.v (.int .i64 (IntKind.wrap .i64 (n40 + 1))))] h46))
  (okInt .i64 (aLen Tryd.prog h38 23 a1) fun n47 =>
  condB (decide ((IntKind.wrap .i64 (n22 + n26)) < n47))
  (okV (aIA Tryd.prog h38 23 a1 (.v (.int .i64 (IntKind.wrap .i64 (n22 + n26))))) fun v48 =>
  okStr (aLoad Tryd.prog h38 9 v48) fun s49 =>
  RetR h K (.tup [(.v (.string s49)), v39, (.v (.bool false)), (.v (.int .i64 0))]) h38)
  (RetR h K (.tup [(.v (.string (ByteArray.mk #[]))), v39, (.v (.bool true)), (.v (.int .i64 0))]) h38))
def Tryd.r49 (G : Nat → Option AV) (a0 a1 a2 : AV) (h : AH) (K : AV → AH → Prop) : Prop :=
  onlyB (AV.one a0) (newO (.cells 48 (AV.cells a0).length [AV.cells a0] 0) h fun i0 h1 =>
  okV (aLoad Tryd.prog h1 48 (.ptr i0 0 0 0)) fun v2 =>
  callR Tryd.prog G 44 [v2] h1 (fun v3 h4 =>
  okInt .i64 (some v3) fun n5 =>
  condB (n5 != 0)
  (RetR h K (.tup [(.v (.string (ByteArray.mk #[]))), (.v (.slice none 0 0)), (.v (.bool false)), (.v (.int .i64 n5))]) h4)
  (okInt .i64 (some a2) fun n6 =>
  rGq (decide (n6 < 1)) false (some a1) fun b7 v8 =>
  rGe b7 false (fun k9 => callR Tryd.prog G 87 [v8] h4 (fun v10 h11 =>
  k9 v10 h11)) h4 fun b12 v13 h14 =>
  rGq b12 false (aUn .not v13) fun b15 v16 =>
  okBool (pickR (some (.v (.bool b15))) (some (.v (.bool true))) (some v16)) fun b17 =>
  condB b17
  (RetR h K (.tup [(.v (.string (ByteArray.mk #[]))), (.v (.slice none 0 0)), (.v (.bool false)), (.v (.int .i64 1))]) h14)
  (okBool (aLoad Tryd.prog h14 4 (.ptr i0 0 0 5)) fun b18 =>
  condB b18
  (RetR h K (.tup [(.v (.string (ByteArray.mk #[]))), (.v (.slice none 0 0)), (.v (.bool true)), (.v (.int .i64 0))]) h14)
  (okStr (aLoad Tryd.prog h14 9 (.ptr i0 0 0 4)) fun s19 =>
  callR Tryd.prog G 88 [a1, (.v (.string s19))] h14 (fun v20 h21 =>
  okInt .i64 (extV 0 v20) fun n22 =>
  okBool (extV 1 v20) fun b23 =>
  okInt .i64 (some a2) fun n24 =>
  okInt .i64 (aLen Tryd.prog h21 23 a1) fun n25 =>
  okInt .i64 (aMinMax false [some (.v (.int .i64 n24)), some (.v (.int .i64 (IntKind.wrap .i64 (n25 - n22))))]) fun n26 =>
  okV (aLoad Tryd.prog h21 22 (.ptr i0 0 0 1)) fun v27 =>
  okV (aLoad Tryd.prog h21 22 (.ptr i0 0 0 3)) fun v28 =>
  okV (aSlice Tryd.prog h21 23 a1 (some (some (.v (.int .i64 n22)))) (some (some (.v (.int .i64 (IntKind.wrap .i64 (n22 + n26)))))) none) fun v29 =>
  callR Tryd.prog G 29 [v27, v28, v29] h21 (fun v30 h31 =>
  okV (extV 0 v30) fun v32 =>
  okInt .i64 (extV 1 v30) fun n33 =>
  okInt .i64 (aLen Tryd.prog h31 22 v32) fun n34 =>
  Tryd.r49_l12_35 K h a1 n22 n26 h31 v32 n34 (.v (.slice none 0 0)) 0)))))))
theorem Tryd.c49 (G : Nat → Option AV) (a0 a1 a2 : AV) (h : AH) (K : AV → AH → Prop) (hk : LowH h.length h → Tryd.r49 G a0 a1 a2 h K) : SCall Tryd.prog G 49 [a0, a1, a2] h K :=
  scall_of_rwp Tryd.tab49 [(12, [(7, .any), (63, (.int .i64))], [1, 11, 13, 61, 62])] Tryd.func49 rfl Tryd.ntmps49 (by kernel_rfl) (by show 3 ≤ 84; decide) (by kernel_rfl) (by kernel_rfl) hk
-- 50 (skylark/skylarkref07.Change).Next
def Tryd.r50_l13_48 (K : AV → AH → Prop) (h : AH) (G : Nat → Option AV) (a1 : AV) (a2 : AV) (i0 : Nat) (h10 : AH) (v87 : AV) (n88 : Int) (n89 : Int) : Prop :=
  ∃ (I48 : Nat → List AV → AH → Prop) (m49 : Nat), I48 m49 [v87, (.v (.int .i64 n88)), (.v (.int .i64 n89))] h10 ∧ ∀ (m50 : Nat) (h51 : AH), h10.length ≤ h51.length → LowH h51.length h51 → ∀ (v52 : AV) (n53 : Int) (n54 : Int), I48 m50 [v52, (.v (.int .i64 n53)), (.v (.int .i64 n54))] h51 →
  okInt .i64 (aLen Tryd.prog h51 23 a1) fun n55 =>
  rGq (decide (n54 < n55)) true (some (.ptr i0 0 0 5)) fun b56 v57 =>
  rGq b56 true (aLoad Tryd.prog h51 4 v57) fun b58 v59 =>
  rGq b58 true (aUn .not v59) fun b60 v61 =>
  okBool (pickR (some (.v (.bool b60))) (some v61) (some (.v (.bool false)))) fun b62 =>
  condB b62
  (okV (aIA Tryd.prog h51 23 a1 (.v (.int .i64 n54))) fun v63 =>
  okStr (aLoad Tryd.prog h51 9 v63) fun s64 =>
  okStr (aLoad Tryd.prog h51 9 (.ptr i0 0 0 4)) fun s65 =>
  condB (Op.bytesLess (ByteArray.toList s64) (ByteArray.toList s65))
  (nextR h10 I48 m50 [some a1, some a2, some (.ptr i0 0 0 0)] [some a1, some a2, some (.ptr i0 0 0 0)] [v52, (.v (.int .i64 n53)), (.v (.int .i64 (IntKind.wrap .i64 (n54 + 1))))] h51)
  (okInt .i64 (some a2) fun n66 =>
  condB (n53 == n66)
  (okV (aIA Tryd.prog h51 23 a1 (.v (.int .i64 n54))) fun v67 =>
  okStr (aLoad Tryd.prog h51 9 v67) fun s68 =>
  RetR h K (.tup [(.v (.string s68)), v52, (.v (.bool false)), (.v (.int .i64 0))]) h51)
  (okV (aLoad Tryd.prog h51 22 (.ptr i0 0 0 1)) fun v69 =>
  okV (aIA Tryd.prog h51 23 a1 (.v (.int .i64 n54))) fun v70 =>
  okStr (aLoad Tryd.prog h51 9 v70) fun s71 =>
  callR Tryd.prog G 31 [v69, (.v (.string s71))] h51 (fun v72 h73 =>
  okInt .i64 (extV 0 v72) fun n74 =>
  okInt .i64 (extV 1 v72) fun n75 =>
  okV (aLoad Tryd.prog h73 22 (.ptr i0 0 0 3)) fun v76 =>
  okV (aIA Tryd.prog h73 23 a1 (.v (.int .i64 n54))) fun v77 =>
  okStr (aLoad Tryd.prog h73 9 v77) fun s78 =>
  callR Tryd.prog G 31 [v76, (.v (.string s78))] h73 (fun v79 h80 =>
  okInt .i64 (extV 0 v79) fun n81 =>
  okInt .i64 (extV 1 v79) fun n82 =>
  condB (n74 != n81)
  (newO (.cells 3 1 [[(.v (.int .i64 n54))]] 0) h80 fun i83 h84 =>
  appR Tryd.prog h84 22 22 v52 (.sl i83 0 0 1 none) (fun v85 h86 =>
  nextR h10 I48 m50 [some a1, some a2, some (.ptr i0 0 0 0)] [some a1, some a2, some (.ptr i0 0 0 0)] [v85, (.v (.int .i64 (IntKind.wrap .i64 (n53 + 1)))), (.v (.int .i64 (IntKind.wrap .i64 (n54 + 1))))] h86))
  (nextR h10 I48 m50 [some a1, some a2, some (.ptr i0 0 0 0)] [some a1, some a2, some (.ptr i0 0 0 0)] [v52, (.v (.int .i64 (IntKind.wrap .i64 (n53 + 1)))), (.v (.int .i64 (IntKind.wrap .i64 (n54 + 1))))] h80))))))
  (RetR h K (.tup [(.v (.string (ByteArray.mk #[]))), v52, (.v (.bool true)), (.v (.int .i64 0))]) h51)
def Tryd.r50_l6_7 (G : Nat → Option AV) (h : AH) (K : AV → AH → Prop) (a1 : AV) (a2 : AV) (i0 : Nat) (h4 : AH) (n90 : Int) : Prop :=
  ∃ (I7 : Nat → List AV → AH → Prop) (m8 : Nat), I7 m8 [(.v (.int .i64 n90))] h4 ∧ ∀ (m9 : Nat) (h10 : AH), h4.length ≤ h10.length → LowH h10.length h10 → ∀ (n11 : Int), I7 m9 [(.v (.int .i64 n11))] h10 →
  okInt .i64 (aLen Tryd.prog h10 23 a1) fun n12 =>
  condB (decide (n11 < n12))
  (okV (aIA Tryd.prog h10 23 a1 (.v (.int .i64 n11))) fun v13 =>
  okStr (aLoad Tryd.prog h10 9 v13) fun s14 =>
  callR Tryd.prog G 89 [(.v (.string s14))] h10 (fun v15 h16 =>
  okBool (some v15) fun b17 =>
  rGq (!b17) false (some (.v (.int .i64 n11))) fun b18 v19 =>
  rGq b18 false (aBin Tryd.prog .gtr 3 v19 (.v (.int .i64 0))) fun b20 v21 =>
  rGq b20 false (some v21) fun b22 v23 =>
  okG (some v23) true fun b24 g0 =>
  rGq b24 true (some a1) fun b25 v26 =>
  okG (some (g0 b25)) true fun c1 g2 =>
  rGq c1 true (some (.v (.int .i64 n11))) fun b27 v28 =>
  okG (some (g2 b27)) true fun c3 g4 =>
  rGq c3 true (aBin Tryd.prog .sub 3 v28 (.v (.int .i64 1))) fun b29 v30 =>
  okG (some (g4 b29)) true fun c5 g6 =>
  rGq c5 true (aIA Tryd.prog h16 23 v26 v30) fun b31 v32 =>
  okG (some (g6 b31)) true fun c7 g8 =>
  rGq c7 true (aLoad Tryd.prog h16 9 v32) fun b33 v34 =>
  okG (some (g8 b33)) true fun c9 g10 =>
  rGq c9 true (some a1) fun b35 v36 =>
  okG (some (g10 b35)) true fun c11 g12 =>
  rGq c11 true (some (.v (.int .i64 n11))) fun b37 v38 =>
  okG (some (g12 b37)) true fun c13 g14 =>
  rGq c13 true (aIA Tryd.prog h16 23 v36 v38) fun b39 v40 =>
  okG (some (g14 b39)) true fun c15 g16 =>
  rGq c15 true (aLoad Tryd.prog h16 9 v40) fun b41 v42 =>
  okG (some (g16 b41)) true fun c17 g18 =>
  rGq c17 true (aBin Tryd.prog .geq 9 v34 v42) fun b43 v44 =>
  rGq b22 false (pickR (some (g18 b43)) (some v44) (some (.v (.bool false)))) fun b45 v46 =>
  okBool (pickR (some (.v (.bool b45))) (some (.v (.bool true))) (some v46)) fun b47 =>
  condB b47
  (RetR h K (.tup [(.v (.string (ByteArray.mk #[]))), (.v (.slice none 0 0)), (.v (.bool false)), (.v (.int .i64 1))]) h16)
  (nextR h4 I7 m9 [some a1, some a2, some (.ptr i0 0 0 0)] [some a1, some a2, some (.ptr i0 0 0 0)] [(.v (.int .i64 (IntKind.wrap .i64 (n11 + 1))))] h16)))
  (Tryd.r50_l13_48 K h G a1 a2 i0 h10 (.v (.slice none 0 0)) 0 0)
def Tryd.r50 (G : Nat → Option AV) (a0 a1 a2 : AV) (h : AH) (K : AV → AH → Prop) : Prop :=
  onlyB (AV.one a0) (newO (.cells 50 (AV.cells a0).length [AV.cells a0] 0) h fun i0 h1 =>
  okV (aLoad Tryd.prog h1 50 (.ptr i0 0 0 0)) fun v2 =>
  callR Tryd.prog G 45 [v2] h1 (fun v3 h4 =>
  okBool (some v3) fun b5 =>
  condB (!b5)
  (RetR h K (.tup [(.v (.string (ByteArray.mk #[]))), (.v (.slice none 0 0)), (.v (.bool false)), (.v (.int .i64 70))]) h4)
  (okInt .i64 (some a2) fun n6 =>
  condB (decide (n6 < 1))
  (RetR h K (.tup [(.v (.string (ByteArray.mk #[]))), (.v (.slice none 0 0)), (.v (.bool false)), (.v (.int .i64 1))]) h4)
  (Tryd.r50_l6_7 G h K a1 a2 i0 h4 0))))
theorem Tryd.c50 (G : Nat → Option AV) (a0 a1 a2 : AV) (h : AH) (K : AV → AH → Prop) (hk : LowH h.length h → Tryd.r50 G a0 a1 a2 h K) : SCall Tryd.prog G 50 [a0, a1, a2] h K :=
  scall_of_rwp Tryd.tab50 [(6, [(10, (.int .i64))], [1, 2, 3]), (13, [(11, .any), (12, (.int .i64)), (13, (.int .i64))], [1, 2, 3])] Tryd.func50 rfl Tryd.ntmps50 (by kernel_rfl) (by show 3 ≤ 109; decide) (by kernel_rfl) (by kernel_rfl) hk
-- 51 skylark/skylarklaw24.works
def Tryd.r51 (G : Nat → Option AV) (h : AH) (K : AV → AH → Prop) : Prop :=
  newO (.cells 3 1 [[(.v (.int .i64 1))]] 0) h fun i0 h1 =>
  callR Tryd.prog G 53 [(.v (.int .i64 7)), (.v (.int .i64 2)), (.v (.int .i64 2)), (.agg [(.v (.int .i64 1)), (.sl i0 0 0 1 none)])] h1 (fun v2 h3 =>
  okV (extV 0 v2) fun v4 =>
  okInt .i64 (extV 1 v2) fun n5 =>
  okBool (aBin Tryd.prog .eql 69 v4 (.v (.pointer none))) fun b6 =>
  rGq b6 false (some (.v (.int .i64 n5))) fun b7 v8 =>
  rGq b7 false (aBin Tryd.prog .neq 25 v8 (.v (.int .i64 0))) fun b9 v10 =>
  okBool (pickR (some (.v (.bool b9))) (some (.v (.bool true))) (some v10)) fun b11 =>
  condB b11
  (RetR h K (.v (.bool false)) h3)
  (callR Tryd.prog G 55 [(.v (.string (ByteArray.mk #[107])))] h3 (fun v12 h13 =>
  callR Tryd.prog G 54 [v4, v12, (.v (.int .i64 0))] h13 (fun v14 h15 =>
  okInt .i64 (extV 0 v14) fun n16 =>
  okInt .i64 (extV 1 v14) fun n17 =>
  callR Tryd.prog G 56 [v4] h15 (fun v18 h19 =>
  okInt .i64 (aLen Tryd.prog h19 75 v18) fun n20 =>
  rGq (n16 != 1) false (some (.v (.int .i64 n17))) fun b21 v22 =>
  rGq b21 false (aBin Tryd.prog .neq 25 v22 (.v (.int .i64 0))) fun b23 v24 =>
  okBool (pickR (some (.v (.bool b23))) (some (.v (.bool true))) (some v24)) fun b25 =>
  rGq b25 false (some (.v (.int .i64 n20))) fun b26 v27 =>
  rGq b26 false (aBin Tryd.prog .neq 3 v27 (.v (.int .i64 1))) fun b28 v29 =>
  okBool (pickR (some (.v (.bool b28))) (some (.v (.bool true))) (some v29)) fun b30 =>
  rGq b30 false (some v4) fun b31 v32 =>
  rGe b31 false (fun k33 => callR Tryd.prog G 58 [v32, (.v (.int .i64 1))] h19 (fun v34 h35 =>
  k33 v34 h35)) h19 fun b36 v37 h38 =>
  rGq b36 false (aBin Tryd.prog .neq 25 v37 (.v (.int .i64 0))) fun b39 v40 =>
  okBool (pickR (some (.v (.bool b39))) (some (.v (.bool true))) (some v40)) fun b41 =>
  rGq b41 false (some v4) fun b42 v43 =>
  rGe b42 false (fun k44 => callR Tryd.prog G 56 [v43] h38 (fun v45 h46 =>
  k44 v45 h46)) h38 fun b47 v48 h49 =>
  rGq b47 false (aLen Tryd.prog h49 75 v48) fun b50 v51 =>
  rGq b50 false (aBin Tryd.prog .neq 3 v51 (.v (.int .i64 0))) fun b52 v53 =>
  okBool (pickR (some (.v (.bool b52))) (some (.v (.bool true))) (some v53)) fun b54 =>
  rGq b54 false (some v4) fun b55 v56 =>
  rGe b55 false (fun k57 => callR Tryd.prog G 58 [v56, (.v (.int .i64 2))] h49 (fun v58 h59 =>
  k57 v58 h59)) h49 fun b60 v61 h62 =>
  rGq b60 false (aBin Tryd.prog .neq 25 v61 (.v (.int .i64 0))) fun b63 v64 =>
  okBool (pickR (some (.v (.bool b63))) (some (.v (.bool true))) (some v64)) fun b65 =>
  rGq b65 false (some v4) fun b66 v67 =>
  rGe b66 false (fun k68 => callR Tryd.prog G 56 [v67] h62 (fun v69 h70 =>
  k68 v69 h70)) h62 fun b71 v72 h73 =>
  rGq b71 false (aLen Tryd.prog h73 75 v72) fun b74 v75 =>
  rGq b74 false (aBin Tryd.prog .neq 3 v75 (.v (.int .i64 1))) fun b76 v77 =>
  okBool (pickR (some (.v (.bool b76))) (some (.v (.bool true))) (some v77)) fun b78 =>
  rGq b78 false (some v4) fun b79 v80 =>
  rGe b79 false (fun k81 => callR Tryd.prog G 58 [v80, (.v (.int .i64 4))] h73 (fun v82 h83 =>
  k81 v82 h83)) h73 fun b84 v85 h86 =>
  rGq b84 false (aBin Tryd.prog .neq 25 v85 (.v (.int .i64 0))) fun b87 v88 =>
  okBool (pickR (some (.v (.bool b87))) (some (.v (.bool true))) (some v88)) fun b89 =>
  condB b89
  (RetR h K (.v (.bool false)) h86)
  (callR Tryd.prog G 57 [v4] h86 (fun v90 h91 =>
  okV (extV 0 v90) fun v92 =>
  okInt .i64 (extV 1 v90) fun n93 =>
  newO (.cells 83 5 [[(.v (.int .i64 0)), (.v (.int .i64 0)), (.v (.slice none 0 0)), (.v (.int .i64 0)), (.v (.int .i64 0))]] 0) h91 fun i94 h95 =>
  storeR Tryd.prog h95 (fun v96 h97 =>
  rGq (n93 == 0) true (some (.ptr i94 0 0 0)) fun b98 v99 =>
  rGq b98 true (aLoad Tryd.prog h97 3 v99) fun b100 v101 =>
  rGq b100 true (aBin Tryd.prog .eql 3 v101 (.v (.int .i64 7))) fun b102 v103 =>
  okBool (pickR (some (.v (.bool b102))) (some v103) (some (.v (.bool false)))) fun b104 =>
  rGq b104 true (some (.ptr i94 0 0 1)) fun b105 v106 =>
  rGq b105 true (aLoad Tryd.prog h97 3 v106) fun b107 v108 =>
  rGq b107 true (aBin Tryd.prog .eql 3 v108 (.v (.int .i64 1))) fun b109 v110 =>
  okBool (pickR (some (.v (.bool b109))) (some v110) (some (.v (.bool false)))) fun b111 =>
  rGq b111 true (some (.ptr i94 0 0 3)) fun b112 v113 =>
  rGq b112 true (aLoad Tryd.prog h97 81 v113) fun b114 v115 =>
  rGq b114 true (some (.agg [(.v (.int .i64 0)), (.v (.int .i64 241))])) fun b116 v117 =>
  rGq b116 true (aBin Tryd.prog .eql 81 v115 v117) fun b118 v119 =>
  okBool (pickR (some (.v (.bool b118))) (some v119) (some (.v (.bool false)))) fun b120 =>
  rGq b120 true (some v4) fun b121 v122 =>
  rGe b121 true (fun k123 => callR Tryd.prog G 56 [v122] h97 (fun v124 h125 =>
  k123 v124 h125)) h97 fun b126 v127 h128 =>
  rGq b126 true (aLen Tryd.prog h128 75 v127) fun b129 v130 =>
  rGq b129 true (aBin Tryd.prog .eql 3 v130 (.v (.int .i64 0))) fun b131 v132 =>
  okBool (pickR (some (.v (.bool b131))) (some v132) (some (.v (.bool false)))) fun b133 =>
  RetR h K (.v (.bool b133)) h128) 83 v92 (.ptr i94 0 0 0))))))))
theorem Tryd.c51 (G : Nat → Option AV) (h : AH) (K : AV → AH → Prop) (hk : LowH h.length h → Tryd.r51 G h K) : SCall Tryd.prog G 51 [] h K :=
  scall_of_rwp Tryd.tab51 [] Tryd.func51 rfl Tryd.ntmps51 (by kernel_rfl) (by show 0 ≤ 94; decide) (by kernel_rfl) (by kernel_rfl) hk
-- 52 skylark/skylarklaw24.among
def Tryd.r52 (a0 a1 : AV) (h : AH) (K : AV → AH → Prop) : Prop :=
  okInt .i64 (some a0) fun n0 =>
  okInt .i64 (some a1) fun n1 =>
  okInt .i64 (aBin Tryd.prog .rem 3 (.v (.int .i64 n0)) (.v (.int .i64 n1))) fun n2 =>
  okInt .i64 (some a1) fun n3 =>
  okInt .i64 (some a1) fun n4 =>
  okInt .i64 (aBin Tryd.prog .rem 3 (.v (.int .i64 (IntKind.wrap .i64 (n2 + n3)))) (.v (.int .i64 n4))) fun n5 =>
  RetR h K (.v (.int .i64 n5)) h
theorem Tryd.c52 (G : Nat → Option AV) (a0 a1 : AV) (h : AH) (K : AV → AH → Prop) (hk : LowH h.length h → Tryd.r52 a0 a1 h K) : SCall Tryd.prog G 52 [a0, a1] h K :=
  scall_of_rwp Tryd.tab52 [] Tryd.func52 rfl Tryd.ntmps52 (by kernel_rfl) (by show 2 ≤ 12; decide) (by kernel_rfl) (by kernel_rfl) hk
-- 53 skylark/client.New
def Tryd.r53 (G : Nat → Option AV) (a0 a1 a2 a3 : AV) (h : AH) (K : AV → AH → Prop) : Prop :=
  onlyB (AV.one a3) (newO (.cells 45 (AV.cells a3).length [AV.cells a3] 0) h fun i0 h1 =>
  okInt .i64 (some a0) fun n2 =>
  rGq (decide (n2 < 0)) false (some a0) fun b3 v4 =>
  rGq b3 false (aBin Tryd.prog .gtr 3 v4 (.v (.int .i64 1000))) fun b5 v6 =>
  okBool (pickR (some (.v (.bool b5))) (some (.v (.bool true))) (some v6)) fun b7 =>
  rGq b7 false (some a1) fun b8 v9 =>
  rGq b8 false (aBin Tryd.prog .lss 3 v9 (.v (.int .i64 1))) fun b10 v11 =>
  okBool (pickR (some (.v (.bool b10))) (some (.v (.bool true))) (some v11)) fun b12 =>
  rGq b12 false (some a1) fun b13 v14 =>
  rGq b13 false (aBin Tryd.prog .gtr 3 v14 (.v (.int .i64 1000))) fun b15 v16 =>
  okBool (pickR (some (.v (.bool b15))) (some (.v (.bool true))) (some v16)) fun b17 =>
  rGq b17 false (some a2) fun b18 v19 =>
  rGq b18 false (aBin Tryd.prog .lss 3 v19 (.v (.int .i64 1))) fun b20 v21 =>
  okBool (pickR (some (.v (.bool b20))) (some (.v (.bool true))) (some v21)) fun b22 =>
  rGq b22 false (some a2) fun b23 v24 =>
  rGq b23 false (aBin Tryd.prog .gtr 3 v24 (.v (.int .i64 100))) fun b25 v26 =>
  okBool (pickR (some (.v (.bool b25))) (some (.v (.bool true))) (some v26)) fun b27 =>
  condB b27
  (RetR h K (.tup [(.v (.pointer none)), (.v (.int .i64 1))]) h1)
  (okV (aLoad Tryd.prog h1 45 (.ptr i0 0 0 0)) fun v28 =>
  callR Tryd.prog G 42 [v28] h1 (fun v29 h30 =>
  okInt .i64 (some v29) fun n31 =>
  condB (n31 != 0)
  (RetR h K (.tup [(.v (.pointer none)), (.v (.int .i64 n31))]) h30)
  (okV (aLoad Tryd.prog h30 22 (.ptr i0 0 0 1)) fun v32 =>
  callR Tryd.prog G 90 [v32] h30 (fun v33 h34 =>
  storeR Tryd.prog h34 (fun v35 h36 =>
  okInt .i64 (some a0) fun n37 =>
  okInt .i64 (some a1) fun n38 =>
  okInt .i64 (some a2) fun n39 =>
  okV (aLoad Tryd.prog h36 45 (.ptr i0 0 0 0)) fun v40 =>
  okV (aBuild Tryd.prog 155 [(0, some (.v (.int .i64 n37))), (1, some (.v (.int .i64 n38))), (2, some (.v (.int .i64 n39))), (3, some v40)]) fun v41 =>
  onlyB (AV.one v41) (newO (.cells 155 (AV.cells v41).length [AV.cells v41] 0) h36 fun i42 h43 =>
  RetR h K (.tup [(.ptr i42 0 0 0), (.v (.int .i64 0))]) h43)) 22 v33 (.ptr i0 0 0 1))))))
theorem Tryd.c53 (G : Nat → Option AV) (a0 a1 a2 a3 : AV) (h : AH) (K : AV → AH → Prop) (hk : LowH h.length h → Tryd.r53 G a0 a1 a2 a3 h K) : SCall Tryd.prog G 53 [a0, a1, a2, a3] h K :=
  scall_of_rwp Tryd.tab53 [] Tryd.func53 rfl Tryd.ntmps53 (by kernel_rfl) (by show 4 ≤ 48; decide) (by kernel_rfl) (by kernel_rfl) hk
-- 54 (*skylark/client.Client).Ask
def Tryd.r54 (G : Nat → Option AV) (a0 a1 a2 : AV) (h : AH) (K : AV → AH → Prop) : Prop :=
  okInt .i64 (some a2) fun n0 =>
  callR Tryd.prog G 91 [a0, (.v (.int .i64 n0))] h (fun v1 h2 =>
  okInt .i64 (some v1) fun n3 =>
  condB (n3 != 0)
  (RetR h K (.tup [(.v (.int .i64 0)), (.v (.int .i64 n3))]) h2)
  (okV (aNil a0) fun v4 =>
  okV (aFA Tryd.prog 155 0 v4) fun v5 =>
  okInt .i64 (aLoad Tryd.prog h2 3 v5) fun n6 =>
  okV (aNil a0) fun v7 =>
  okV (aFA Tryd.prog 155 5 v7) fun v8 =>
  okInt .i64 (aLoad Tryd.prog h2 3 v8) fun n9 =>
  okInt .i64 (aMinMax false [some (.v (.int .i64 (IntKind.wrap .i64 (n9 + 1)))), some (.v (.int .i64 1048576))]) fun n10 =>
  callR Tryd.prog G 92 [a1] h2 (fun v11 h12 =>
  (aLoad Tryd.prog h12 3 v8 = some (.v (.int .i64 n9))) ∧ (aLoad Tryd.prog h12 3 v5 = some (.v (.int .i64 n6))) ∧ okV (aBuild Tryd.prog 153 [(0, some (.v (.int .i64 n6))), (1, some (.v (.int .i64 n10))), (2, some v11)]) fun v13 =>
  newO (.cells 153 3 [[(.v (.int .i64 0)), (.v (.int .i64 0)), (.v (.slice none 0 0))]] 0) h12 fun i14 h15 =>
  (aLoad Tryd.prog h15 3 v8 = some (.v (.int .i64 n9))) ∧ (aLoad Tryd.prog h15 3 v5 = some (.v (.int .i64 n6))) ∧ storeR Tryd.prog h15 (fun v16 h17 =>
  okV (aNil a0) fun v18 =>
  okV (aFA Tryd.prog 155 8 v18) fun v19 =>
  okV (aLoad Tryd.prog h17 151 v19) fun v20 =>
  okBool (aBin Tryd.prog .neq 151 v20 (.agg [(.v (.bool false)), (.v (.bool false))])) fun b21 =>
  condB b21
  (RetR h K (.tup [(.v (.int .i64 0)), (.v (.int .i64 240))]) h17)
  (okV (aLoad Tryd.prog h17 153 (.ptr i14 0 0 0)) fun v22 =>
  callR Tryd.prog G 93 [v22] h17 (fun v23 h24 =>
  okInt .i64 (some v23) fun n25 =>
  rGq (n25 != 0) false (some a1) fun b26 v27 =>
  rGe b26 false (fun k28 => callR Tryd.prog G 94 [v27, (.fn (.func 95) [] [])] h24 (fun v29 h30 =>
  k28 v29 h30)) h24 fun b31 v32 h33 =>
  okBool (pickR (some (.v (.bool b31))) (some (.v (.bool true))) (some v32)) fun b34 =>
  condB b34
  (RetR h K (.tup [(.v (.int .i64 0)), (.v (.int .i64 80))]) h33)
  (callR Tryd.prog G 96 [a0, a1] h33 (fun v35 h36 =>
  okInt .i64 (some v35) fun n37 =>
  condB (decide (n37 ≥ 0))
  (RetR h K (.tup [(.v (.int .i64 0)), (.v (.int .i64 220))]) h36)
  (okV (aNil a0) fun v38 =>
  okV (aFA Tryd.prog 155 5 v38) fun v39 =>
  okInt .i64 (aLoad Tryd.prog h36 3 v39) fun n40 =>
  condB (decide (n40 ≥ 1048576))
  (RetR h K (.tup [(.v (.int .i64 0)), (.v (.int .i64 2))]) h36)
  (okV (aLoad Tryd.prog h36 153 (.ptr i14 0 0 0)) fun v41 =>
  callR Tryd.prog G 97 [v41] h36 (fun v42 h43 =>
  okStr (extV 0 v42) fun s44 =>
  okInt .i64 (extV 1 v42) fun n45 =>
  rGq (n45 != 0) false (some (.v (.string s44))) fun b46 v47 =>
  rGq b46 false (aLen Tryd.prog h43 9 v47) fun b48 v49 =>
  rGq b48 false (aBin Tryd.prog .gtr 3 v49 (.v (.int .i64 60000))) fun b50 v51 =>
  okBool (pickR (some (.v (.bool b50))) (some (.v (.bool true))) (some v51)) fun b52 =>
  condB b52
  (RetR h K (.tup [(.v (.int .i64 0)), (.v (.int .i64 2))]) h43)
  (okInt .i64 (aLoad Tryd.prog h43 3 (.ptr i14 0 0 1)) fun n53 =>
  okV (aLoad Tryd.prog h43 153 (.ptr i14 0 0 0)) fun v54 =>
  okV (aNil a0) fun v55 =>
  okV (aFA Tryd.prog 155 5 v55) fun v56 =>
  storeR Tryd.prog h43 (fun v57 h58 =>
  (aLoad Tryd.prog h58 153 (.ptr i14 0 0 0) = some v54) ∧ okV (aNil a0) fun v59 =>
  okV (aFA Tryd.prog 155 9 v59) fun v60 =>
  storeR Tryd.prog h58 (fun v61 h62 =>
  okV (aNil a0) fun v63 =>
  okV (aFA Tryd.prog 155 6 v63) fun v64 =>
  storeR Tryd.prog h62 (fun v65 h66 =>
  okV (aNil a0) fun v67 =>
  okV (aFA Tryd.prog 155 8 v67) fun v68 =>
  storeR Tryd.prog h66 (fun v69 h70 =>
  callR Tryd.prog G 98 [a0] h70 (fun v71 h72 =>
  okV (aNil a0) fun v73 =>
  okV (aFA Tryd.prog 155 5 v73) fun v74 =>
  okInt .i64 (aLoad Tryd.prog h72 3 v74) fun n75 =>
  RetR h K (.tup [(.v (.int .i64 n75)), (.v (.int .i64 0))]) h72)) 151 (.agg [(.v (.bool true)), (.v (.bool false))]) v68) 3 (.v (.int .i64 0)) v64) 153 v54 v60) 3 (.v (.int .i64 n53)) v56))))))))) 153 v13 (.ptr i14 0 0 0))))
theorem Tryd.c54 (G : Nat → Option AV) (a0 a1 a2 : AV) (h : AH) (K : AV → AH → Prop) (hk : LowH h.length h → Tryd.r54 G a0 a1 a2 h K) : SCall Tryd.prog G 54 [a0, a1, a2] h K :=
  scall_of_rwp Tryd.tab54 [] Tryd.func54 rfl Tryd.ntmps54 (by kernel_rfl) (by show 3 ≤ 91; decide) (by kernel_rfl) (by kernel_rfl) hk
-- 55 skylark/skylarklaw24.get
def Tryd.r55 (a0 : AV) (h : AH) (K : AV → AH → Prop) : Prop :=
  okStr (some a0) fun s0 =>
  newO (.cells 158 6 [[(.v (.int .i64 5)), (.v (.string s0)), (.v (.string (ByteArray.mk #[]))), (.v (.int .i64 0)), (.v (.int .i64 0)), (.v (.int .i64 0))]] 0) h fun i1 h2 =>
  RetR h K (.sl i1 0 0 1 none) h2
theorem Tryd.c55 (G : Nat → Option AV) (a0 : AV) (h : AH) (K : AV → AH → Prop) (hk : LowH h.length h → Tryd.r55 a0 h K) : SCall Tryd.prog G 55 [a0] h K :=
  scall_of_rwp Tryd.tab55 [] Tryd.func55 rfl Tryd.ntmps55 (by kernel_rfl) (by show 1 ≤ 6; decide) (by kernel_rfl) (by kernel_rfl) hk
-- 56 (*skylark/client.Client).Letters
def Tryd.r56 (a0 : AV) (h : AH) (K : AV → AH → Prop) : Prop :=
  okV (aNil a0) fun v0 =>
  okV (aFA Tryd.prog 155 11 v0) fun v1 =>
  okV (aLoad Tryd.prog h 75 v1) fun v2 =>
  okV (aNil a0) fun v3 =>
  okV (aFA Tryd.prog 155 11 v3) fun v4 =>
  storeR Tryd.prog h (fun v5 h6 =>
  RetR h K v2 h6) 75 (.v (.slice none 0 0)) v4
theorem Tryd.c56 (G : Nat → Option AV) (a0 : AV) (h : AH) (K : AV → AH → Prop) (hk : LowH h.length h → Tryd.r56 a0 h K) : SCall Tryd.prog G 56 [a0] h K :=
  scall_of_rwp Tryd.tab56 [] Tryd.func56 rfl Tryd.ntmps56 (by kernel_rfl) (by show 1 ≤ 12; decide) (by kernel_rfl) (by kernel_rfl) hk
-- 57 (*skylark/client.Client).Take
def Tryd.r57 (a0 : AV) (h : AH) (K : AV → AH → Prop) : Prop :=
  newO (.cells 83 5 [[(.v (.int .i64 0)), (.v (.int .i64 0)), (.v (.slice none 0 0)), (.v (.int .i64 0)), (.v (.int .i64 0))]] 0) h fun i0 h1 =>
  okV (aNil a0) fun v2 =>
  okV (aFA Tryd.prog 155 8 v2) fun v3 =>
  okV (aFA Tryd.prog 151 1 v3) fun v4 =>
  okBool (aLoad Tryd.prog h1 4 v4) fun b5 =>
  condB (!b5)
  (storeR Tryd.prog h1 (fun v6 h7 =>
  okV (aLoad Tryd.prog h7 83 (.ptr i0 0 0 0)) fun v8 =>
  RetR h K (.tup [v8, (.v (.int .i64 5))]) h7) 83 (.agg [(.v (.int .i64 0)), (.v (.int .i64 0)), (.v (.slice none 0 0)), (.v (.int .i64 0)), (.v (.int .i64 0))]) (.ptr i0 0 0 0))
  (okV (aNil a0) fun v9 =>
  okV (aFA Tryd.prog 155 8 v9) fun v10 =>
  storeR Tryd.prog h1 (fun v11 h12 =>
  okV (aNil a0) fun v13 =>
  okV (aFA Tryd.prog 155 10 v13) fun v14 =>
  okV (aLoad Tryd.prog h12 83 v14) fun v15 =>
  storeR Tryd.prog h12 (fun v16 h17 =>
  okV (aLoad Tryd.prog h17 83 (.ptr i0 0 0 0)) fun v18 =>
  RetR h K (.tup [v18, (.v (.int .i64 0))]) h17) 83 v15 (.ptr i0 0 0 0)) 151 (.agg [(.v (.bool false)), (.v (.bool false))]) v10)
theorem Tryd.c57 (G : Nat → Option AV) (a0 : AV) (h : AH) (K : AV → AH → Prop) (hk : LowH h.length h → Tryd.r57 a0 h K) : SCall Tryd.prog G 57 [a0] h K :=
  scall_of_rwp Tryd.tab57 [] Tryd.func57 rfl Tryd.ntmps57 (by kernel_rfl) (by show 1 ≤ 19; decide) (by kernel_rfl) (by kernel_rfl) hk
-- 58 (*skylark/client.Client).Tick
def Tryd.r58 (G : Nat → Option AV) (a0 a1 : AV) (h : AH) (K : AV → AH → Prop) : Prop :=
  okInt .i64 (some a1) fun n0 =>
  callR Tryd.prog G 91 [a0, (.v (.int .i64 n0))] h (fun v1 h2 =>
  okInt .i64 (some v1) fun n3 =>
  condB (n3 != 0)
  (RetR h K (.v (.int .i64 n3)) h2)
  (okV (aNil a0) fun v4 =>
  okV (aFA Tryd.prog 155 8 v4) fun v5 =>
  okV (aFA Tryd.prog 151 0 v5) fun v6 =>
  okBool (aLoad Tryd.prog h2 4 v6) fun b7 =>
  rGq (!b7) false (some a1) fun b8 v9 =>
  rGq b8 false (some a0) fun b10 v11 =>
  rGq b10 false (aNil v11) fun b12 v13 =>
  rGq b12 false (aFA Tryd.prog 155 7 v13) fun b14 v15 =>
  rGq b14 false (aLoad Tryd.prog h2 3 v15) fun b16 v17 =>
  rGq b16 false (aBin Tryd.prog .sub 3 v9 v17) fun b18 v19 =>
  rGq b18 false (some a0) fun b20 v21 =>
  rGq b20 false (aNil v21) fun b22 v23 =>
  rGq b22 false (aFA Tryd.prog 155 1 v23) fun b24 v25 =>
  rGq b24 false (aLoad Tryd.prog h2 3 v25) fun b26 v27 =>
  rGq b26 false (aBin Tryd.prog .lss 3 v19 v27) fun b28 v29 =>
  okBool (pickR (some (.v (.bool b28))) (some (.v (.bool true))) (some v29)) fun b30 =>
  condB b30
  (RetR h K (.v (.int .i64 0)) h2)
  (okV (aNil a0) fun v31 =>
  okV (aFA Tryd.prog 155 6 v31) fun v32 =>
  okInt .i64 (aLoad Tryd.prog h2 3 v32) fun n33 =>
  okV (aNil a0) fun v34 =>
  okV (aFA Tryd.prog 155 2 v34) fun v35 =>
  okInt .i64 (aLoad Tryd.prog h2 3 v35) fun n36 =>
  condB (decide (n33 ≥ n36))
  (callR Tryd.prog G 99 [a0, (.v (.int .i64 0)), (.v (.int .i64 241))] h2 (fun v37 h38 =>
  RetR h K (.v (.int .i64 0)) h38))
  (callR Tryd.prog G 98 [a0] h2 (fun v39 h40 =>
  RetR h K (.v (.int .i64 0)) h40)))))
theorem Tryd.c58 (G : Nat → Option AV) (a0 a1 : AV) (h : AH) (K : AV → AH → Prop) (hk : LowH h.length h → Tryd.r58 G a0 a1 h K) : SCall Tryd.prog G 58 [a0, a1] h K :=
  scall_of_rwp Tryd.tab58 [] Tryd.func58 rfl Tryd.ntmps58 (by kernel_rfl) (by show 2 ≤ 46; decide) (by kernel_rfl) (by kernel_rfl) hk
-- 59 (*skylark/client.Client).State
def Tryd.r59 (a0 : AV) (h : AH) (K : AV → AH → Prop) : Prop :=
  okV (aNil a0) fun v0 =>
  okV (aFA Tryd.prog 155 5 v0) fun v1 =>
  okInt .i64 (aLoad Tryd.prog h 3 v1) fun n2 =>
  okV (aNil a0) fun v3 =>
  okV (aFA Tryd.prog 155 6 v3) fun v4 =>
  okInt .i64 (aLoad Tryd.prog h 3 v4) fun n5 =>
  okV (aNil a0) fun v6 =>
  okV (aFA Tryd.prog 155 3 v6) fun v7 =>
  okV (aFA Tryd.prog 45 0 v7) fun v8 =>
  okInt .i64 (aLoad Tryd.prog h 3 v8) fun n9 =>
  okV (aNil a0) fun v10 =>
  okV (aFA Tryd.prog 155 8 v10) fun v11 =>
  okV (aFA Tryd.prog 151 0 v11) fun v12 =>
  okBool (aLoad Tryd.prog h 4 v12) fun b13 =>
  (aLoad Tryd.prog h 4 v12 = some (.v (.bool b13))) ∧ (aLoad Tryd.prog h 3 v8 = some (.v (.int .i64 n9))) ∧ (aLoad Tryd.prog h 3 v4 = some (.v (.int .i64 n5))) ∧ (aLoad Tryd.prog h 4 v12 = some (.v (.bool b13))) ∧ (aLoad Tryd.prog h 3 v8 = some (.v (.int .i64 n9))) ∧ (aLoad Tryd.prog h 4 v12 = some (.v (.bool b13))) ∧ RetR h K (.tup [(.v (.int .i64 n2)), (.v (.int .i64 n5)), (.v (.int .i64 n9)), (.v (.bool b13))]) h
theorem Tryd.c59 (G : Nat → Option AV) (a0 : AV) (h : AH) (K : AV → AH → Prop) (hk : LowH h.length h → Tryd.r59 a0 h K) : SCall Tryd.prog G 59 [a0] h K :=
  scall_of_rwp Tryd.tab59 [] Tryd.func59 rfl Tryd.ntmps59 (by kernel_rfl) (by show 1 ≤ 24; decide) (by kernel_rfl) (by kernel_rfl) hk
-- 60 skylark/skylarklaw18.works
def Tryd.r60_l5_25 (K : AV → AH → Prop) (h : AH) (G : Nat → Option AV) (v2 : AV) (i22 : Nat) (h23 : AH) (n24 : Int) (n100 : Int) : Prop :=
  ∃ (I25 : Nat → List AV → AH → Prop) (m26 : Nat), I25 m26 [(.v (.int .i64 n100))] h23 ∧ ∀ (m27 : Nat) (h28 : AH), h23.length ≤ h28.length → LowH h28.length h28 → ∀ (n29 : Int), I25 m27 [(.v (.int .i64 n29))] h28 →
  condB (decide (n29 < n24))
  (okV (aIA Tryd.prog h28 166 (.sl i22 0 0 4 none) (.v (.int .i64 n29))) fun v30 =>
  okV (aLoad Tryd.prog h28 165 v30) fun v31 =>
  newO (.cells 165 8 [[(.v (.int .i64 0)), (.v (.int .i64 0)), (.v (.int .i64 0)), (.v (.int .i64 0)), (.v (.slice none 0 0)), (.v (.string (ByteArray.mk #[]))), (.v (.slice none 0 0)), (.v (.slice none 0 0))]] 0) h28 fun i32 h33 =>
  storeR Tryd.prog h33 (fun v34 h35 =>
  okV (aLoad Tryd.prog h35 96 (.ptr i32 0 0 0)) fun v36 =>
  callR Tryd.prog G 62 [v2, v36] h35 (fun v37 h38 =>
  okInt .i64 (some v37) fun n39 =>
  condB (n39 != 0)
  (RetR h K (.v (.bool false)) h38)
  (callR Tryd.prog G 63 [v2] h38 (fun v40 h41 =>
  okInt .i64 (aLen Tryd.prog h41 97 v40) fun n42 =>
  rGq (n42 != 1) false (some v40) fun b43 v44 =>
  rGq b43 false (aIA Tryd.prog h41 97 v44 (.v (.int .i64 0))) fun b45 v46 =>
  rGq b45 false (aFA Tryd.prog 105 0 v46) fun b47 v48 =>
  rGq b47 false (aLoad Tryd.prog h41 3 v48) fun b49 v50 =>
  rGq b49 false (some (.v (.int .i64 n29))) fun b51 v52 =>
  rGq b51 false (aBin Tryd.prog .add 3 v52 (.v (.int .i64 1))) fun b53 v54 =>
  rGq b53 false (aBin Tryd.prog .neq 3 v50 v54) fun b55 v56 =>
  okBool (pickR (some (.v (.bool b55))) (some (.v (.bool true))) (some v56)) fun b57 =>
  rGq b57 false (some v40) fun b58 v59 =>
  rGq b58 false (aIA Tryd.prog h41 97 v59 (.v (.int .i64 0))) fun b60 v61 =>
  rGq b60 false (aFA Tryd.prog 105 1 v61) fun b62 v63 =>
  rGq b62 false (aLoad Tryd.prog h41 22 v63) fun b64 v65 =>
  rGq b64 false (some (.ptr i32 0 0 6)) fun b66 v67 =>
  rGq b66 false (aLoad Tryd.prog h41 22 v67) fun b68 v69 =>
  rGe b68 false (fun k70 => callR Tryd.prog G 24 [v65, v69] h41 (fun v71 h72 =>
  k70 v71 h72)) h41 fun b73 v74 h75 =>
  rGq b73 false (aUn .not v74) fun b76 v77 =>
  okBool (pickR (some (.v (.bool b76))) (some (.v (.bool true))) (some v77)) fun b78 =>
  rGq b78 false (some v40) fun b79 v80 =>
  rGq b79 false (aIA Tryd.prog h75 97 v80 (.v (.int .i64 0))) fun b81 v82 =>
  rGq b81 false (aFA Tryd.prog 105 2 v82) fun b83 v84 =>
  rGq b83 false (aLoad Tryd.prog h75 22 v84) fun b85 v86 =>
  rGq b85 false (some (.ptr i32 0 0 7)) fun b87 v88 =>
  rGq b87 false (aLoad Tryd.prog h75 22 v88) fun b89 v90 =>
  rGe b89 false (fun k91 => callR Tryd.prog G 24 [v86, v90] h75 (fun v92 h93 =>
  k91 v92 h93)) h75 fun b94 v95 h96 =>
  rGq b94 false (aUn .not v95) fun b97 v98 =>
  okBool (pickR (some (.v (.bool b97))) (some (.v (.bool true))) (some v98)) fun b99 =>
  condB b99
  (RetR h K (.v (.bool false)) h96)
  (nextR h23 I25 m27 [some v2, some (.sl i22 0 0 4 none), some (.v (.int .i64 n24))] [some v2, some (.sl i22 0 0 4 none), some (.v (.int .i64 n24))] [(.v (.int .i64 (IntKind.wrap .i64 (n29 + 1))))] h96))))) 165 v31 (.ptr i32 0 0 0))
  (RetR h K (.v (.bool true)) h28)
def Tryd.r60 (G : Nat → Option AV) (h : AH) (K : AV → AH → Prop) : Prop :=
  callR Tryd.prog G 61 [(.v (.int .i64 5))] h (fun v0 h1 =>
  okV (extV 0 v0) fun v2 =>
  okInt .i64 (extV 1 v0) fun n3 =>
  okBool (aBin Tryd.prog .eql 91 v2 (.v (.pointer none))) fun b4 =>
  rGq b4 false (some (.v (.int .i64 n3))) fun b5 v6 =>
  rGq b5 false (aBin Tryd.prog .neq 25 v6 (.v (.int .i64 0))) fun b7 v8 =>
  okBool (pickR (some (.v (.bool b7))) (some (.v (.bool true))) (some v8)) fun b9 =>
  condB b9
  (RetR h K (.v (.bool false)) h1)
  (newO (.cells 3 1 [[(.v (.int .i64 0))], [(.v (.int .i64 1))], [(.v (.int .i64 2))]] 0) h1 fun i10 h11 =>
  newO (.cells 3 1 [[(.v (.int .i64 0))], [(.v (.int .i64 1))], [(.v (.int .i64 2))]] 0) h11 fun i12 h13 =>
  newO (.cells 3 1 [[(.v (.int .i64 0))], [(.v (.int .i64 2))]] 0) h13 fun i14 h15 =>
  newO (.cells 3 1 [[(.v (.int .i64 0))], [(.v (.int .i64 2))]] 0) h15 fun i16 h17 =>
  newO (.cells 3 1 [[(.v (.int .i64 1))]] 0) h17 fun i18 h19 =>
  newO (.cells 3 1 [[(.v (.int .i64 0))], [(.v (.int .i64 2))], [(.v (.int .i64 1))]] 0) h19 fun i20 h21 =>
  newO (.cells 165 8 [[(.v (.int .i64 1)), (.v (.int .i64 0)), (.v (.int .i64 0)), (.v (.int .i64 0)), (.sl i10 0 0 3 none), (.v (.string (ByteArray.mk #[]))), (.sl i12 0 0 3 none), (.v (.slice none 0 0))], [(.v (.int .i64 4)), (.v (.int .i64 0)), (.v (.int .i64 1)), (.v (.int .i64 0)), (.v (.slice none 0 0)), (.v (.string (ByteArray.mk #[]))), (.sl i14 0 0 2 none), (.v (.slice none 0 0))], [(.v (.int .i64 5)), (.v (.int .i64 0)), (.v (.int .i64 1)), (.v (.int .i64 0)), (.v (.slice none 0 0)), (.v (.string (ByteArray.mk #[]))), (.sl i16 0 0 2 none), (.sl i18 0 0 1 none)], [(.v (.int .i64 6)), (.v (.int .i64 0)), (.v (.int .i64 1)), (.v (.int .i64 3)), (.v (.slice none 0 0)), (.v (.string (ByteArray.mk #[]))), (.sl i20 0 0 3 none), (.v (.slice none 0 0))]] 0) h21 fun i22 h23 =>
  okInt .i64 (aLen Tryd.prog h23 166 (.sl i22 0 0 4 none)) fun n24 =>
  Tryd.r60_l5_25 K h G v2 i22 h23 n24 0))
theorem Tryd.c60 (G : Nat → Option AV) (h : AH) (K : AV → AH → Prop) (hk : LowH h.length h → Tryd.r60 G h K) : SCall Tryd.prog G 60 [] h K :=
  scall_of_rwp Tryd.tab60 [(5, [(32, (.int .i64))], [1, 30, 31])] Tryd.func60 rfl Tryd.ntmps60 (by kernel_rfl) (by show 0 ≤ 77; decide) (by kernel_rfl) (by kernel_rfl) hk
-- 61 skylark/admin.New
def Tryd.r61 (G : Nat → Option AV) (a0 : AV) (h : AH) (K : AV → AH → Prop) : Prop :=
  okInt .i64 (some a0) fun n0 =>
  rGq (decide (n0 < 1)) false (some a0) fun b1 v2 =>
  rGq b1 false (aBin Tryd.prog .gtr 3 v2 (.v (.int .i64 16))) fun b3 v4 =>
  okBool (pickR (some (.v (.bool b3))) (some (.v (.bool true))) (some v4)) fun b5 =>
  condB b5
  (RetR h K (.tup [(.v (.pointer none)), (.v (.int .i64 1))]) h)
  (newO (.cells 170 2 [[(.v (.int .i64 0)), (.v (.int .i64 (-1)))]] 0) h fun i6 h7 =>
  okInt .i64 (some a0) fun n8 =>
  callR Tryd.prog G 100 [(.sl i6 0 0 1 none), (.v (.int .i64 n8))] h7 (fun v9 h10 =>
  okV (aBuild Tryd.prog 173 [(0, some v9)]) fun v11 =>
  onlyB (AV.one v11) (newO (.cells 173 (AV.cells v11).length [AV.cells v11] 0) h10 fun i12 h13 =>
  RetR h K (.tup [(.ptr i12 0 0 0), (.v (.int .i64 0))]) h13)))
theorem Tryd.c61 (G : Nat → Option AV) (a0 : AV) (h : AH) (K : AV → AH → Prop) (hk : LowH h.length h → Tryd.r61 G a0 h K) : SCall Tryd.prog G 61 [a0] h K :=
  scall_of_rwp Tryd.tab61 [] Tryd.func61 rfl Tryd.ntmps61 (by kernel_rfl) (by show 1 ≤ 16; decide) (by kernel_rfl) (by kernel_rfl) hk
-- 62 (*skylark/admin.Admin).Do
def Tryd.r62 (G : Nat → Option AV) (a0 a1 : AV) (h : AH) (K : AV → AH → Prop) : Prop :=
  onlyB (AV.one a1) (newO (.cells 96 (AV.cells a1).length [AV.cells a1] 0) h fun i0 h1 =>
  callR Tryd.prog G 101 [] h1 (fun v2 h3 =>
  okInt .i64 (aLoad Tryd.prog h3 3 (.ptr i0 0 0 0)) fun n4 =>
  rGq (decide (n4 < 1)) false (some (.ptr i0 0 0 0)) fun b5 v6 =>
  rGq b5 false (aLoad Tryd.prog h3 3 v6) fun b7 v8 =>
  rGq b7 false (some v2) fun b9 v10 =>
  rGq b9 false (aLen Tryd.prog h3 174 v10) fun b11 v12 =>
  rGq b11 false (aBin Tryd.prog .gtr 3 v8 v12) fun b13 v14 =>
  okBool (pickR (some (.v (.bool b13))) (some (.v (.bool true))) (some v14)) fun b15 =>
  rGq b15 false (some v2) fun b16 v17 =>
  rGq b16 false (some (.ptr i0 0 0 0)) fun b18 v19 =>
  rGq b18 false (aLoad Tryd.prog h3 3 v19) fun b20 v21 =>
  rGq b20 false (aBin Tryd.prog .sub 3 v21 (.v (.int .i64 1))) fun b22 v23 =>
  rGq b22 false (aIA Tryd.prog h3 174 v17 v23) fun b24 v25 =>
  rGq b24 false (aLoad Tryd.prog h3 178 v25) fun b26 v27 =>
  rGq b26 false (aLoad Tryd.prog h3 96 (.ptr i0 0 0 0)) fun b28 v29 =>
  rGe b28 false (fun k30 => callR Tryd.prog G 102 [v27, v29] h3 (fun v31 h32 =>
  k30 v31 h32)) h3 fun b33 v34 h35 =>
  rGq b33 false (aUn .not v34) fun b36 v37 =>
  okBool (pickR (some (.v (.bool b36))) (some (.v (.bool true))) (some v37)) fun b38 =>
  condB b38
  (RetR h K (.v (.int .i64 80)) h35)
  (okInt .i64 (aLoad Tryd.prog h35 3 (.ptr i0 0 0 0)) fun n39 =>
  okV (aIA Tryd.prog h35 174 v2 (.v (.int .i64 (IntKind.wrap .i64 (n39 - 1))))) fun v40 =>
  okV (aFA Tryd.prog 178 5 v40) fun v41 =>
  okV (aLoad Tryd.prog h35 176 v41) fun v42 =>
  okV (aLoad Tryd.prog h35 96 (.ptr i0 0 0 0)) fun v43 =>
  callU Tryd.prog G h35 (fun v44 h45 =>
  okInt .i64 (some v44) fun n46 =>
  RetR h K (.v (.int .i64 n46)) h45) [a0, v43] v42)))
theorem Tryd.c62 (G : Nat → Option AV) (a0 a1 : AV) (h : AH) (K : AV → AH → Prop) (hk : LowH h.length h → Tryd.r62 G a0 a1 h K) : SCall Tryd.prog G 62 [a0, a1] h K :=
  scall_of_rwp Tryd.tab62 [] Tryd.func62 rfl Tryd.ntmps62 (by kernel_rfl) (by show 2 ≤ 38; decide) (by kernel_rfl) (by kernel_rfl) hk
-- 63 (*skylark/admin.Admin).Chains
def Tryd.r63_l3_4 (K : AV → AH → Prop) (h : AH) (G : Nat → Option AV) (v2 : AV) (n3 : Int) (v29 : AV) (n30 : Int) : Prop :=
  ∃ (I4 : Nat → List AV → AH → Prop) (m5 : Nat), I4 m5 [v29, (.v (.int .i64 n30))] h ∧ ∀ (m6 : Nat) (h7 : AH), h.length ≤ h7.length → LowH h7.length h7 → ∀ (v8 : AV) (n9 : Int), I4 m6 [v8, (.v (.int .i64 n9))] h7 →
  condB (decide (n9 < n3))
  (okV (aIA Tryd.prog h7 97 v2 (.v (.int .i64 n9))) fun v10 =>
  okV (aLoad Tryd.prog h7 105 v10) fun v11 =>
  newO (.cells 105 3 [[(.v (.int .i64 0)), (.v (.slice none 0 0)), (.v (.slice none 0 0))]] 0) h7 fun i12 h13 =>
  storeR Tryd.prog h13 (fun v14 h15 =>
  okInt .i64 (aLoad Tryd.prog h15 3 (.ptr i12 0 0 0)) fun n16 =>
  okV (aLoad Tryd.prog h15 22 (.ptr i12 0 0 1)) fun v17 =>
  okV (aLoad Tryd.prog h15 22 (.ptr i12 0 0 2)) fun v18 =>
  callR Tryd.prog G 90 [v17] h15 (fun v19 h20 =>
  (aLoad Tryd.prog h20 22 (.ptr i12 0 0 2) = some v18) ∧ (aLoad Tryd.prog h20 3 (.ptr i12 0 0 0) = some (.v (.int .i64 n16))) ∧ callR Tryd.prog G 90 [v18] h20 (fun v21 h22 =>
  (aLoad Tryd.prog h22 3 (.ptr i12 0 0 0) = some (.v (.int .i64 n16))) ∧ okV (aBuild Tryd.prog 105 [(0, some (.v (.int .i64 n16))), (1, some v19), (2, some v21)]) fun v23 =>
  okP (rowsFill 3 (List.replicate 1 [(.v (.int .i64 0)), (.v (.slice none 0 0)), (.v (.slice none 0 0))]) [(0, some v23)]) fun r24 => newO (.cells 105 3 r24 0) h22 fun i25 h26 =>
  appR Tryd.prog h26 97 97 v8 (.sl i25 0 0 1 none) (fun v27 h28 =>
  nextR h I4 m6 [some v2, some (.v (.int .i64 n3))] [some v2, some (.v (.int .i64 n3))] [v27, (.v (.int .i64 (IntKind.wrap .i64 (n9 + 1))))] h28)))) 105 v11 (.ptr i12 0 0 0))
  (RetR h K v8 h7)
def Tryd.r63 (G : Nat → Option AV) (a0 : AV) (h : AH) (K : AV → AH → Prop) : Prop :=
  okV (aNil a0) fun v0 =>
  okV (aFA Tryd.prog 173 1 v0) fun v1 =>
  okV (aLoad Tryd.prog h 97 v1) fun v2 =>
  okInt .i64 (aLen Tryd.prog h 97 v2) fun n3 =>
  Tryd.r63_l3_4 K h G v2 n3 (.v (.slice none 0 0)) 0
theorem Tryd.c63 (G : Nat → Option AV) (a0 : AV) (h : AH) (K : AV → AH → Prop) (hk : LowH h.length h → Tryd.r63 G a0 h K) : SCall Tryd.prog G 63 [a0] h K :=
  scall_of_rwp Tryd.tab63 [(3, [(3, .any), (11, (.int .i64))], [9, 10])] Tryd.func63 rfl Tryd.ntmps63 (by kernel_rfl) (by show 1 ≤ 29; decide) (by kernel_rfl) (by kernel_rfl) hk
end Go.Proofs
