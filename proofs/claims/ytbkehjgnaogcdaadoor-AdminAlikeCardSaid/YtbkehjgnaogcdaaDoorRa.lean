/-
  Of each function its body as a plain statement, and that a call follows from it: printed by wip/gen/Res.lean.
-/
import Derived.Test.YtbkehjgnaogcdaaDoorFn
import Derived.Test.YtbkehjgnaogcdaaDoorAbH
import Derived.KernelRfl
set_option linter.all false
namespace Go.Proofs
open Go Go.Abs
set_option linter.unusedVariables false
set_option maxRecDepth 100000
-- 8 skylark/skylarklaw06.RingSame
def Tryd.r8_j8 (K : AV → AH → Prop) (h : AH) (G : Nat → Option AV) (a0 : AV) (v6 : AV) (h7 : AH) : Prop :=
  callR Tryd.prog G 29 [a0, a0, v6] h7 (fun v8 h9 =>
  okV (extV 0 v8) fun v10 =>
  okInt .i64 (extV 1 v8) fun n11 =>
  okInt .i64 (aLen Tryd.prog h9 22 v10) fun n12 =>
  rGq (n12 != 0) false (some (.v (.int .i64 n11))) fun b13 v14 =>
  rGq b13 false (aBin Tryd.prog .neq 25 v14 (.v (.int .i64 0))) fun b15 v16 =>
  okBool (pickR (some (.v (.bool b15))) (some (.v (.bool true))) (some v16)) fun b17 =>
  rGq b17 false (some a0) fun b18 v19 =>
  rGq b18 false (aLen Tryd.prog h9 22 v19) fun b20 v21 =>
  rGq b20 false (aBin Tryd.prog .eql 3 v21 (.v (.int .i64 8))) fun b22 v23 =>
  okBool (pickR (some (.v (.bool b22))) (some (.v (.bool true))) (some v23)) fun b24 =>
  condB b24
  (okInt .i64 (aLen Tryd.prog h9 22 v10) fun n25 =>
  rGq (n25 == 0) true (some (.v (.int .i64 n11))) fun b26 v27 =>
  rGq b26 true (aBin Tryd.prog .eql 25 v27 (.v (.int .i64 0))) fun b28 v29 =>
  okBool (pickR (some (.v (.bool b28))) (some v29) (some (.v (.bool false)))) fun b30 =>
  RetR h K (.v (.bool b30)) h9)
  (newO (.cells 3 1 [] 0) h9 fun i31 h32 =>
  appR Tryd.prog h32 22 22 (.sl i31 0 0 0 none) a0 (fun v33 h34 =>
  newO (.cells 3 1 [[(.v (.int .i64 0))]] 0) h34 fun i35 h36 =>
  appR Tryd.prog h36 22 22 v33 (.sl i35 0 0 1 none) (fun v37 h38 =>
  callR Tryd.prog G 29 [a0, v37, v6] h38 (fun v39 h40 =>
  okV (extV 0 v39) fun v41 =>
  okInt .i64 (extV 1 v39) fun n42 =>
  okInt .i64 (aLen Tryd.prog h40 22 v41) fun n43 =>
  rGq (n43 == 0) true (some (.v (.int .i64 n42))) fun b44 v45 =>
  rGq b44 true (aBin Tryd.prog .eql 25 v45 (.v (.int .i64 0))) fun b46 v47 =>
  okBool (pickR (some (.v (.bool b46))) (some v47) (some (.v (.bool false)))) fun b48 =>
  RetR h K (.v (.bool b48)) h40)))))
def Tryd.r8 (G : Nat → Option AV) (a0 a1 : AV) (h : AH) (K : AV → AH → Prop) : Prop :=
  callR Tryd.prog G 18 [] h (fun v0 h1 =>
  okBool (some v0) fun b2 =>
  condB (!b2)
  (RetR h K (.v (.bool false)) h1)
  (callR Tryd.prog G 20 [a0] h1 (fun v3 h4 =>
  okInt .i64 (some v3) fun n5 =>
  condB (n5 != 0)
  (RetR h K (.v (.bool true)) h4)
  (okInt .i64 (aLen Tryd.prog h4 23 a1) fun n49 =>
  condB (decide (n49 > 40))
  (okV (aSlice Tryd.prog h4 23 a1 none (some (some (.v (.int .i64 40)))) none) fun v50 =>
  Tryd.r8_j8 K h G a0 v50 h4)
  (Tryd.r8_j8 K h G a0 a1 h4)))))
theorem Tryd.c8 (G : Nat → Option AV) (a0 a1 : AV) (h : AH) (K : AV → AH → Prop) (hk : LowH h.length h → Tryd.r8 G a0 a1 h K) : SCall Tryd.prog G 8 [a0, a1] h K :=
  scall_of_rwp Tryd.tab8 [] Tryd.func8 rfl Tryd.ntmps8 (by kernel_rfl) (by show 2 ≤ 63; decide) (by kernel_rfl) (by kernel_rfl) hk
-- 14 skylark/skylarklaw18.AdminOwns
def Tryd.r14_l13_40 (K : AV → AH → Prop) (h : AH) (G : Nat → Option AV) (a0 : AV) (a1 : AV) (h4 : AH) (v5 : AV) (I13 : Nat → List AV → AH → Prop) (m15 : Nat) (n17 : Int) (n31 : Int) (b35 : Bool) (i36 : Nat) (h39 : AH) (n81 : Int) : Prop :=
  ∃ (I40 : Nat → List AV → AH → Prop) (m41 : Nat), I40 m41 [(.v (.int .i64 n81))] h39 ∧ ∀ (m42 : Nat) (h43 : AH), h39.length ≤ h43.length → LowH h43.length h43 → ∀ (n44 : Int), I40 m42 [(.v (.int .i64 n44))] h43 →
  okInt .i64 (aLen Tryd.prog h43 23 a1) fun n45 =>
  rGq (decide (n44 < n45)) true (some (.v (.int .i64 n44))) fun b46 v47 =>
  rGq b46 true (aBin Tryd.prog .lss 3 v47 (.v (.int .i64 5))) fun b48 v49 =>
  okBool (pickR (some (.v (.bool b48))) (some v49) (some (.v (.bool false)))) fun b50 =>
  condB b50
  (okV (aIA Tryd.prog h43 23 a1 (.v (.int .i64 n44))) fun v51 =>
  okStr (aLoad Tryd.prog h43 9 v51) fun s52 =>
  callR Tryd.prog G 65 [v5, (.v (.string s52))] h43 (fun v53 h54 =>
  okInt .i64 (extV 0 v53) fun n55 =>
  okInt .i64 (extV 1 v53) fun n56 =>
  condB (n31 == 0)
  (condB (n56 != 180)
  (RetR h K (.v (.bool false)) h54)
  (nextR h39 I40 m42 [some a0, some a1, some v5, some (.v (.int .i64 n17)), some (.v (.int .i64 n31)), some (.ptr i36 0 0 0), some (.v (.bool b35))] [some a0, some a1, some v5, some (.v (.int .i64 n17)), some (.v (.int .i64 n31)), some (.ptr i36 0 0 0), some (.v (.bool b35))] [(.v (.int .i64 (IntKind.wrap .i64 (n44 + 1))))] h54))
  (rGq (n56 != 0) false (some (.v (.int .i64 n55))) fun b57 v58 =>
  rGq b57 false (aBin Tryd.prog .lss 3 v58 (.v (.int .i64 0))) fun b59 v60 =>
  okBool (pickR (some (.v (.bool b59))) (some (.v (.bool true))) (some v60)) fun b61 =>
  rGq b61 false (some (.v (.int .i64 n55))) fun b62 v63 =>
  rGq b62 false (some (.v (.int .i64 n31))) fun b64 v65 =>
  rGq b64 false (aBin Tryd.prog .geq 3 v63 v65) fun b66 v67 =>
  okBool (pickR (some (.v (.bool b66))) (some (.v (.bool true))) (some v67)) fun b68 =>
  condB b68
  (RetR h K (.v (.bool false)) h54)
  (condB b35
  (okV (aLoad Tryd.prog h54 48 (.ptr i36 0 0 0)) fun v69 =>
  okV (aIA Tryd.prog h54 23 a1 (.v (.int .i64 n44))) fun v70 =>
  okStr (aLoad Tryd.prog h54 9 v70) fun s71 =>
  callR Tryd.prog G 36 [v69, (.v (.string s71))] h54 (fun v72 h73 =>
  okInt .i64 (extV 0 v72) fun n74 =>
  okInt .i64 (extV 1 v72) fun n75 =>
  rGq (n74 != n55) false (some (.v (.int .i64 n75))) fun b76 v77 =>
  rGq b76 false (aBin Tryd.prog .neq 25 v77 (.v (.int .i64 0))) fun b78 v79 =>
  okBool (pickR (some (.v (.bool b78))) (some (.v (.bool true))) (some v79)) fun b80 =>
  condB b80
  (RetR h K (.v (.bool false)) h73)
  (nextR h39 I40 m42 [some a0, some a1, some v5, some (.v (.int .i64 n17)), some (.v (.int .i64 n31)), some (.ptr i36 0 0 0), some (.v (.bool b35))] [some a0, some a1, some v5, some (.v (.int .i64 n17)), some (.v (.int .i64 n31)), some (.ptr i36 0 0 0), some (.v (.bool b35))] [(.v (.int .i64 (IntKind.wrap .i64 (n44 + 1))))] h73)))
  (nextR h39 I40 m42 [some a0, some a1, some v5, some (.v (.int .i64 n17)), some (.v (.int .i64 n31)), some (.ptr i36 0 0 0), some (.v (.bool b35))] [some a0, some a1, some v5, some (.v (.int .i64 n17)), some (.v (.int .i64 n31)), some (.ptr i36 0 0 0), some (.v (.bool b35))] [(.v (.int .i64 (IntKind.wrap .i64 (n44 + 1))))] h54)))))
  (nextR h4 I13 m15 [some a0, some a1, some v5] [some a0, some a1, some v5] [(.v (.int .i64 (IntKind.wrap .i64 (n17 + 1))))] h43)
def Tryd.r14_l7_13 (K : AV → AH → Prop) (h : AH) (G : Nat → Option AV) (a0 : AV) (a1 : AV) (h4 : AH) (v5 : AV) (n82 : Int) : Prop :=
  ∃ (I13 : Nat → List AV → AH → Prop) (m14 : Nat), I13 m14 [(.v (.int .i64 n82))] h4 ∧ ∀ (m15 : Nat) (h16 : AH), h4.length ≤ h16.length → LowH h16.length h16 → ∀ (n17 : Int), I13 m15 [(.v (.int .i64 n17))] h16 →
  okInt .i64 (aLen Tryd.prog h16 90 a0) fun n18 =>
  rGq (decide (n17 < n18)) true (some (.v (.int .i64 n17))) fun b19 v20 =>
  rGq b19 true (aBin Tryd.prog .lss 3 v20 (.v (.int .i64 60))) fun b21 v22 =>
  okBool (pickR (some (.v (.bool b21))) (some v22) (some (.v (.bool false)))) fun b23 =>
  condB b23
  (okV (aIA Tryd.prog h16 90 a0 (.v (.int .i64 n17))) fun v24 =>
  okV (aLoad Tryd.prog h16 96 v24) fun v25 =>
  callR Tryd.prog G 62 [v5, v25] h16 (fun v26 h27 =>
  okInt .i64 (some v26) fun n28 =>
  callR Tryd.prog G 63 [v5] h27 (fun v29 h30 =>
  okInt .i64 (aLen Tryd.prog h30 97 v29) fun n31 =>
  callR Tryd.prog G 64 [v5] h30 (fun v32 h33 =>
  okV (extV 0 v32) fun v34 =>
  okBool (extV 1 v32) fun b35 =>
  newO (.cells 48 6 [[(.v (.int .i64 0)), (.v (.slice none 0 0)), (.v (.int .i64 0)), (.v (.slice none 0 0)), (.v (.string (ByteArray.mk #[]))), (.v (.bool false))]] 0) h33 fun i36 h37 =>
  storeR Tryd.prog h37 (fun v38 h39 =>
  Tryd.r14_l13_40 K h G a0 a1 h4 v5 I13 m15 n17 n31 b35 i36 h39 0) 48 v34 (.ptr i36 0 0 0)))))
  (RetR h K (.v (.bool true)) h16)
def Tryd.r14 (G : Nat → Option AV) (a0 a1 : AV) (h : AH) (K : AV → AH → Prop) : Prop :=
  callR Tryd.prog G 60 [] h (fun v0 h1 =>
  okBool (some v0) fun b2 =>
  condB (!b2)
  (RetR h K (.v (.bool false)) h1)
  (callR Tryd.prog G 61 [(.v (.int .i64 16))] h1 (fun v3 h4 =>
  okV (extV 0 v3) fun v5 =>
  okInt .i64 (extV 1 v3) fun n6 =>
  okBool (aBin Tryd.prog .eql 91 v5 (.v (.pointer none))) fun b7 =>
  rGq b7 false (some (.v (.int .i64 n6))) fun b8 v9 =>
  rGq b8 false (aBin Tryd.prog .neq 25 v9 (.v (.int .i64 0))) fun b10 v11 =>
  okBool (pickR (some (.v (.bool b10))) (some (.v (.bool true))) (some v11)) fun b12 =>
  condB b12
  (RetR h K (.v (.bool false)) h4)
  (Tryd.r14_l7_13 K h G a0 a1 h4 v5 0))))
theorem Tryd.c14 (G : Nat → Option AV) (a0 a1 : AV) (h : AH) (K : AV → AH → Prop) (hk : LowH h.length h → Tryd.r14 G a0 a1 h K) : SCall Tryd.prog G 14 [a0, a1] h K :=
  scall_of_rwp Tryd.tab14 [(7, [(7, (.int .i64))], [0, 1, 5]), (13, [(11, (.int .i64))], [0, 1, 5, 7, 8, 9, 10])] Tryd.func14 rfl Tryd.ntmps14 (by kernel_rfl) (by show 2 ≤ 103; decide) (by kernel_rfl) (by kernel_rfl) hk
-- 15 skylark/skylarklaw18.AdminRefuses
def Tryd.r15_l22_113 (K : AV → AH → Prop) (h : AH) (G : Nat → Option AV) (a1 : AV) (a2 : AV) (h5 : AH) (v6 : AV) (I14 : Nat → List AV → AH → Prop) (m16 : Nat) (n18 : Int) (v25 : AV) (v53 : AV) (h87 : AH) (n112 : Int) (n182 : Int) : Prop :=
  ∃ (I113 : Nat → List AV → AH → Prop) (m114 : Nat), I113 m114 [(.v (.int .i64 n182))] h87 ∧ ∀ (m115 : Nat) (h116 : AH), h87.length ≤ h116.length → LowH h116.length h116 → ∀ (n117 : Int), I113 m115 [(.v (.int .i64 n117))] h116 →
  condB (decide (n117 < n112))
  (okV (aIA Tryd.prog h116 97 v53 (.v (.int .i64 n117))) fun v118 =>
  okV (aFA Tryd.prog 105 0 v118) fun v119 =>
  okInt .i64 (aLoad Tryd.prog h116 3 v119) fun n120 =>
  okV (aIA Tryd.prog h116 97 v25 (.v (.int .i64 n117))) fun v121 =>
  okV (aFA Tryd.prog 105 0 v121) fun v122 =>
  okInt .i64 (aLoad Tryd.prog h116 3 v122) fun n123 =>
  rGq (n120 != n123) false (some v53) fun b124 v125 =>
  rGq b124 false (some (.v (.int .i64 n117))) fun b126 v127 =>
  rGq b126 false (aIA Tryd.prog h116 97 v125 v127) fun b128 v129 =>
  rGq b128 false (aFA Tryd.prog 105 1 v129) fun b130 v131 =>
  rGq b130 false (aLoad Tryd.prog h116 22 v131) fun b132 v133 =>
  rGq b132 false (some v25) fun b134 v135 =>
  rGq b134 false (some (.v (.int .i64 n117))) fun b136 v137 =>
  rGq b136 false (aIA Tryd.prog h116 97 v135 v137) fun b138 v139 =>
  rGq b138 false (aFA Tryd.prog 105 1 v139) fun b140 v141 =>
  rGq b140 false (aLoad Tryd.prog h116 22 v141) fun b142 v143 =>
  rGe b142 false (fun k144 => callR Tryd.prog G 24 [v133, v143] h116 (fun v145 h146 =>
  k144 v145 h146)) h116 fun b147 v148 h149 =>
  rGq b147 false (aUn .not v148) fun b150 v151 =>
  okBool (pickR (some (.v (.bool b150))) (some (.v (.bool true))) (some v151)) fun b152 =>
  rGq b152 false (some v53) fun b153 v154 =>
  rGq b153 false (some (.v (.int .i64 n117))) fun b155 v156 =>
  rGq b155 false (aIA Tryd.prog h149 97 v154 v156) fun b157 v158 =>
  rGq b157 false (aFA Tryd.prog 105 2 v158) fun b159 v160 =>
  rGq b159 false (aLoad Tryd.prog h149 22 v160) fun b161 v162 =>
  rGq b161 false (some v25) fun b163 v164 =>
  rGq b163 false (some (.v (.int .i64 n117))) fun b165 v166 =>
  rGq b165 false (aIA Tryd.prog h149 97 v164 v166) fun b167 v168 =>
  rGq b167 false (aFA Tryd.prog 105 2 v168) fun b169 v170 =>
  rGq b169 false (aLoad Tryd.prog h149 22 v170) fun b171 v172 =>
  rGe b171 false (fun k173 => callR Tryd.prog G 24 [v162, v172] h149 (fun v174 h175 =>
  k173 v174 h175)) h149 fun b176 v177 h178 =>
  rGq b176 false (aUn .not v177) fun b179 v180 =>
  okBool (pickR (some (.v (.bool b179))) (some (.v (.bool true))) (some v180)) fun b181 =>
  condB b181
  (RetR h K (.v (.bool false)) h178)
  (nextR h87 I113 m115 [some a1, some a2, some v6, some (.v (.int .i64 n18)), some v25, some v53, some (.v (.int .i64 n112))] [some a1, some a2, some v6, some (.v (.int .i64 n18)), some v25, some v53, some (.v (.int .i64 n112))] [(.v (.int .i64 (IntKind.wrap .i64 (n117 + 1))))] h178))
  (nextR h5 I14 m16 [some a1, some a2, some v6] [some a1, some a2, some v6] [(.v (.int .i64 (IntKind.wrap .i64 (n18 + 1))))] h116)
def Tryd.r15_l8_14 (K : AV → AH → Prop) (h : AH) (G : Nat → Option AV) (a1 : AV) (a2 : AV) (h5 : AH) (v6 : AV) (n183 : Int) : Prop :=
  ∃ (I14 : Nat → List AV → AH → Prop) (m15 : Nat), I14 m15 [(.v (.int .i64 n183))] h5 ∧ ∀ (m16 : Nat) (h17 : AH), h5.length ≤ h17.length → LowH h17.length h17 → ∀ (n18 : Int), I14 m16 [(.v (.int .i64 n18))] h17 →
  okInt .i64 (aLen Tryd.prog h17 90 a1) fun n19 =>
  rGq (decide (n18 < n19)) true (some (.v (.int .i64 n18))) fun b20 v21 =>
  rGq b20 true (aBin Tryd.prog .lss 3 v21 (.v (.int .i64 80))) fun b22 v23 =>
  okBool (pickR (some (.v (.bool b22))) (some v23) (some (.v (.bool false)))) fun b24 =>
  condB b24
  (callR Tryd.prog G 63 [v6] h17 (fun v25 h26 =>
  callR Tryd.prog G 66 [v6] h26 (fun v27 h28 =>
  okV (extV 0 v27) fun v29 =>
  okBool (extV 1 v27) fun b30 =>
  newO (.cells 45 2 [[(.v (.int .i64 0)), (.v (.slice none 0 0))]] 0) h28 fun i31 h32 =>
  storeR Tryd.prog h32 (fun v33 h34 =>
  callR Tryd.prog G 64 [v6] h34 (fun v35 h36 =>
  okV (extV 0 v35) fun v37 =>
  okBool (extV 1 v35) fun b38 =>
  newO (.cells 48 6 [[(.v (.int .i64 0)), (.v (.slice none 0 0)), (.v (.int .i64 0)), (.v (.slice none 0 0)), (.v (.string (ByteArray.mk #[]))), (.v (.bool false))]] 0) h36 fun i39 h40 =>
  storeR Tryd.prog h40 (fun v41 h42 =>
  okStr (some a2) fun s43 =>
  callR Tryd.prog G 65 [v6, (.v (.string s43))] h42 (fun v44 h45 =>
  okInt .i64 (extV 0 v44) fun n46 =>
  okInt .i64 (extV 1 v44) fun n47 =>
  okV (aIA Tryd.prog h45 90 a1 (.v (.int .i64 n18))) fun v48 =>
  okV (aLoad Tryd.prog h45 96 v48) fun v49 =>
  callR Tryd.prog G 62 [v6, v49] h45 (fun v50 h51 =>
  okInt .i64 (some v50) fun n52 =>
  condB (n52 == 0)
  (nextR h5 I14 m16 [some a1, some a2, some v6] [some a1, some a2, some v6] [(.v (.int .i64 (IntKind.wrap .i64 (n18 + 1))))] h51)
  (callR Tryd.prog G 63 [v6] h51 (fun v53 h54 =>
  callR Tryd.prog G 66 [v6] h54 (fun v55 h56 =>
  okV (extV 0 v55) fun v57 =>
  okBool (extV 1 v55) fun b58 =>
  newO (.cells 45 2 [[(.v (.int .i64 0)), (.v (.slice none 0 0))]] 0) h56 fun i59 h60 =>
  storeR Tryd.prog h60 (fun v61 h62 =>
  callR Tryd.prog G 64 [v6] h62 (fun v63 h64 =>
  okV (extV 0 v63) fun v65 =>
  okBool (extV 1 v63) fun b66 =>
  newO (.cells 48 6 [[(.v (.int .i64 0)), (.v (.slice none 0 0)), (.v (.int .i64 0)), (.v (.slice none 0 0)), (.v (.string (ByteArray.mk #[]))), (.v (.bool false))]] 0) h64 fun i67 h68 =>
  storeR Tryd.prog h68 (fun v69 h70 =>
  okStr (some a2) fun s71 =>
  callR Tryd.prog G 65 [v6, (.v (.string s71))] h70 (fun v72 h73 =>
  okInt .i64 (extV 0 v72) fun n74 =>
  okInt .i64 (extV 1 v72) fun n75 =>
  okInt .i64 (aLen Tryd.prog h73 97 v53) fun n76 =>
  okInt .i64 (aLen Tryd.prog h73 97 v25) fun n77 =>
  rGq (n76 != n77) false (aLoad Tryd.prog h73 45 (.ptr i31 0 0 0)) fun b78 v79 =>
  rGq b78 false (aLoad Tryd.prog h73 45 (.ptr i59 0 0 0)) fun b80 v81 =>
  rGe b80 false (fun k82 => callR Tryd.prog G 67 [v79, v81] h73 (fun v83 h84 =>
  k82 v83 h84)) h73 fun b85 v86 h87 =>
  rGq b85 false (aUn .not v86) fun b88 v89 =>
  okBool (pickR (some (.v (.bool b88))) (some (.v (.bool true))) (some v89)) fun b90 =>
  rGq b90 false (some (.v (.bool b38))) fun b91 v92 =>
  rGq b91 false (some (.v (.bool b66))) fun b93 v94 =>
  rGq b93 false (aBin Tryd.prog .neq 4 v92 v94) fun b95 v96 =>
  okBool (pickR (some (.v (.bool b95))) (some (.v (.bool true))) (some v96)) fun b97 =>
  rGq b97 false (some (.v (.int .i64 n46))) fun b98 v99 =>
  rGq b98 false (some (.v (.int .i64 n74))) fun b100 v101 =>
  rGq b100 false (aBin Tryd.prog .neq 3 v99 v101) fun b102 v103 =>
  okBool (pickR (some (.v (.bool b102))) (some (.v (.bool true))) (some v103)) fun b104 =>
  rGq b104 false (some (.v (.int .i64 n47))) fun b105 v106 =>
  rGq b105 false (some (.v (.int .i64 n75))) fun b107 v108 =>
  rGq b107 false (aBin Tryd.prog .neq 25 v106 v108) fun b109 v110 =>
  okBool (pickR (some (.v (.bool b109))) (some (.v (.bool true))) (some v110)) fun b111 =>
  condB b111
  (RetR h K (.v (.bool false)) h87)
  (okInt .i64 (aLen Tryd.prog h87 97 v53) fun n112 =>
  Tryd.r15_l22_113 K h G a1 a2 h5 v6 I14 m16 n18 v25 v53 h87 n112 0))) 48 v65 (.ptr i67 0 0 0))) 45 v57 (.ptr i59 0 0 0))))))) 48 v37 (.ptr i39 0 0 0))) 45 v29 (.ptr i31 0 0 0))))
  (RetR h K (.v (.bool true)) h17)
def Tryd.r15 (G : Nat → Option AV) (a0 a1 a2 : AV) (h : AH) (K : AV → AH → Prop) : Prop :=
  callR Tryd.prog G 60 [] h (fun v0 h1 =>
  okBool (some v0) fun b2 =>
  condB (!b2)
  (RetR h K (.v (.bool false)) h1)
  (okInt .i64 (some a0) fun n3 =>
  callR Tryd.prog G 61 [(.v (.int .i64 (IntKind.wrap .i64 (1 + (IntKind.wrap .i64 (Int.tmod (IntKind.wrap .u64 n3) 16))))))] h1 (fun v4 h5 =>
  okV (extV 0 v4) fun v6 =>
  okInt .i64 (extV 1 v4) fun n7 =>
  okBool (aBin Tryd.prog .eql 91 v6 (.v (.pointer none))) fun b8 =>
  rGq b8 false (some (.v (.int .i64 n7))) fun b9 v10 =>
  rGq b9 false (aBin Tryd.prog .neq 25 v10 (.v (.int .i64 0))) fun b11 v12 =>
  okBool (pickR (some (.v (.bool b11))) (some (.v (.bool true))) (some v12)) fun b13 =>
  condB b13
  (RetR h K (.v (.bool false)) h5)
  (Tryd.r15_l8_14 K h G a1 a2 h5 v6 0))))
theorem Tryd.c15 (G : Nat → Option AV) (a0 a1 a2 : AV) (h : AH) (K : AV → AH → Prop) (hk : LowH h.length h → Tryd.r15 G a0 a1 a2 h K) : SCall Tryd.prog G 15 [a0, a1, a2] h K :=
  scall_of_rwp Tryd.tab15 [(8, [(9, (.int .i64))], [1, 2, 7]), (22, [(124, (.int .i64))], [1, 2, 7, 9, 10, 17, 123])] Tryd.func15 rfl Tryd.ntmps15 (by kernel_rfl) (by show 3 ≤ 167; decide) (by kernel_rfl) (by kernel_rfl) hk
-- 16 skylark/skylarklaw18.AdminAlike
def Tryd.r16_l25_94 (K : AV → AH → Prop) (h : AH) (G : Nat → Option AV) (a1 : AV) (a2 : AV) (v6 : AV) (h9 : AH) (v10 : AV) (I28 : Nat → List AV → AH → Prop) (m30 : Nat) (n32 : Int) (v71 : AV) (v73 : AV) (h74 : AH) (n93 : Int) (n163 : Int) : Prop :=
  ∃ (I94 : Nat → List AV → AH → Prop) (m95 : Nat), I94 m95 [(.v (.int .i64 n163))] h74 ∧ ∀ (m96 : Nat) (h97 : AH), h74.length ≤ h97.length → LowH h97.length h97 → ∀ (n98 : Int), I94 m96 [(.v (.int .i64 n98))] h97 →
  condB (decide (n98 < n93))
  (okV (aIA Tryd.prog h97 97 v71 (.v (.int .i64 n98))) fun v99 =>
  okV (aFA Tryd.prog 105 0 v99) fun v100 =>
  okInt .i64 (aLoad Tryd.prog h97 3 v100) fun n101 =>
  okV (aIA Tryd.prog h97 97 v73 (.v (.int .i64 n98))) fun v102 =>
  okV (aFA Tryd.prog 105 0 v102) fun v103 =>
  okInt .i64 (aLoad Tryd.prog h97 3 v103) fun n104 =>
  rGq (n101 != n104) false (some v71) fun b105 v106 =>
  rGq b105 false (some (.v (.int .i64 n98))) fun b107 v108 =>
  rGq b107 false (aIA Tryd.prog h97 97 v106 v108) fun b109 v110 =>
  rGq b109 false (aFA Tryd.prog 105 1 v110) fun b111 v112 =>
  rGq b111 false (aLoad Tryd.prog h97 22 v112) fun b113 v114 =>
  rGq b113 false (some v73) fun b115 v116 =>
  rGq b115 false (some (.v (.int .i64 n98))) fun b117 v118 =>
  rGq b117 false (aIA Tryd.prog h97 97 v116 v118) fun b119 v120 =>
  rGq b119 false (aFA Tryd.prog 105 1 v120) fun b121 v122 =>
  rGq b121 false (aLoad Tryd.prog h97 22 v122) fun b123 v124 =>
  rGe b123 false (fun k125 => callR Tryd.prog G 24 [v114, v124] h97 (fun v126 h127 =>
  k125 v126 h127)) h97 fun b128 v129 h130 =>
  rGq b128 false (aUn .not v129) fun b131 v132 =>
  okBool (pickR (some (.v (.bool b131))) (some (.v (.bool true))) (some v132)) fun b133 =>
  rGq b133 false (some v71) fun b134 v135 =>
  rGq b134 false (some (.v (.int .i64 n98))) fun b136 v137 =>
  rGq b136 false (aIA Tryd.prog h130 97 v135 v137) fun b138 v139 =>
  rGq b138 false (aFA Tryd.prog 105 2 v139) fun b140 v141 =>
  rGq b140 false (aLoad Tryd.prog h130 22 v141) fun b142 v143 =>
  rGq b142 false (some v73) fun b144 v145 =>
  rGq b144 false (some (.v (.int .i64 n98))) fun b146 v147 =>
  rGq b146 false (aIA Tryd.prog h130 97 v145 v147) fun b148 v149 =>
  rGq b148 false (aFA Tryd.prog 105 2 v149) fun b150 v151 =>
  rGq b150 false (aLoad Tryd.prog h130 22 v151) fun b152 v153 =>
  rGe b152 false (fun k154 => callR Tryd.prog G 24 [v143, v153] h130 (fun v155 h156 =>
  k154 v155 h156)) h130 fun b157 v158 h159 =>
  rGq b157 false (aUn .not v158) fun b160 v161 =>
  okBool (pickR (some (.v (.bool b160))) (some (.v (.bool true))) (some v161)) fun b162 =>
  condB b162
  (RetR h K (.v (.bool false)) h159)
  (nextR h74 I94 m96 [some a1, some a2, some v6, some v10, some (.v (.int .i64 n32)), some v71, some v73, some (.v (.int .i64 n93))] [some a1, some a2, some v6, some v10, some (.v (.int .i64 n32)), some v71, some v73, some (.v (.int .i64 n93))] [(.v (.int .i64 (IntKind.wrap .i64 (n98 + 1))))] h159))
  (nextR h9 I28 m30 [some a1, some a2, some v6, some v10] [some a1, some a2, some v6, some v10] [(.v (.int .i64 (IntKind.wrap .i64 (n32 + 1))))] h97)
def Tryd.r16_j52 (G : Nat → Option AV) (h : AH) (K : AV → AH → Prop) (a1 : AV) (a2 : AV) (v6 : AV) (h9 : AH) (v10 : AV) (I28 : Nat → List AV → AH → Prop) (m30 : Nat) (n32 : Int) (i47 : Nat) (h51 : AH) : Prop :=
  okV (aIA Tryd.prog h51 90 a1 (.v (.int .i64 n32))) fun v52 =>
  okV (aLoad Tryd.prog h51 96 v52) fun v53 =>
  okV (aLoad Tryd.prog h51 96 (.ptr i47 0 0 0)) fun v54 =>
  callR Tryd.prog G 62 [v6, v53] h51 (fun v55 h56 =>
  okInt .i64 (some v55) fun n57 =>
  (aLoad Tryd.prog h56 96 (.ptr i47 0 0 0) = some v54) ∧ callR Tryd.prog G 62 [v10, v54] h56 (fun v58 h59 =>
  okInt .i64 (some v58) fun n60 =>
  condB (n57 != n60)
  (RetR h K (.v (.bool false)) h59)
  (okStr (some a2) fun s61 =>
  callR Tryd.prog G 65 [v6, (.v (.string s61))] h59 (fun v62 h63 =>
  okInt .i64 (extV 0 v62) fun n64 =>
  okInt .i64 (extV 1 v62) fun n65 =>
  okStr (some a2) fun s66 =>
  callR Tryd.prog G 65 [v10, (.v (.string s66))] h63 (fun v67 h68 =>
  okInt .i64 (extV 0 v67) fun n69 =>
  okInt .i64 (extV 1 v67) fun n70 =>
  callR Tryd.prog G 63 [v6] h68 (fun v71 h72 =>
  callR Tryd.prog G 63 [v10] h72 (fun v73 h74 =>
  rGq (n64 != n69) false (some (.v (.int .i64 n65))) fun b75 v76 =>
  rGq b75 false (some (.v (.int .i64 n70))) fun b77 v78 =>
  rGq b77 false (aBin Tryd.prog .neq 25 v76 v78) fun b79 v80 =>
  okBool (pickR (some (.v (.bool b79))) (some (.v (.bool true))) (some v80)) fun b81 =>
  rGq b81 false (some v71) fun b82 v83 =>
  rGq b82 false (aLen Tryd.prog h74 97 v83) fun b84 v85 =>
  rGq b84 false (some v73) fun b86 v87 =>
  rGq b86 false (aLen Tryd.prog h74 97 v87) fun b88 v89 =>
  rGq b88 false (aBin Tryd.prog .neq 3 v85 v89) fun b90 v91 =>
  okBool (pickR (some (.v (.bool b90))) (some (.v (.bool true))) (some v91)) fun b92 =>
  condB b92
  (RetR h K (.v (.bool false)) h74)
  (okInt .i64 (aLen Tryd.prog h74 97 v71) fun n93 =>
  Tryd.r16_l25_94 K h G a1 a2 v6 h9 v10 I28 m30 n32 v71 v73 h74 n93 0))))))))
def Tryd.r16_l9_28 (K : AV → AH → Prop) (h : AH) (G : Nat → Option AV) (a1 : AV) (a2 : AV) (v6 : AV) (h9 : AH) (v10 : AV) (n189 : Int) : Prop :=
  ∃ (I28 : Nat → List AV → AH → Prop) (m29 : Nat), I28 m29 [(.v (.int .i64 n189))] h9 ∧ ∀ (m30 : Nat) (h31 : AH), h9.length ≤ h31.length → LowH h31.length h31 → ∀ (n32 : Int), I28 m30 [(.v (.int .i64 n32))] h31 →
  okInt .i64 (aLen Tryd.prog h31 90 a1) fun n33 =>
  rGq (decide (n32 < n33)) true (some (.v (.int .i64 n32))) fun b34 v35 =>
  rGq b34 true (aBin Tryd.prog .lss 3 v35 (.v (.int .i64 80))) fun b36 v37 =>
  okBool (pickR (some (.v (.bool b36))) (some v37) (some (.v (.bool false)))) fun b38 =>
  condB b38
  (okV (aIA Tryd.prog h31 90 a1 (.v (.int .i64 n32))) fun v39 =>
  okV (aLoad Tryd.prog h31 96 v39) fun v40 =>
  callR Tryd.prog G 68 [v40] h31 (fun v41 h42 =>
  okStr (extV 0 v41) fun s43 =>
  okInt .i64 (extV 1 v41) fun n44 =>
  okV (aIA Tryd.prog h42 90 a1 (.v (.int .i64 n32))) fun v45 =>
  okV (aLoad Tryd.prog h42 96 v45) fun v46 =>
  newO (.cells 96 6 [[(.v (.int .i64 0)), (.v (.int .i64 0)), (.v (.int .i64 0)), (.v (.int .i64 0)), (.v (.slice none 0 0)), (.v (.string (ByteArray.mk #[])))]] 0) h42 fun i47 h48 =>
  storeR Tryd.prog h48 (fun v49 h50 =>
  condB (n44 == 0)
  (callR Tryd.prog G 69 [(.v (.string s43))] h50 (fun v164 h165 =>
  okV (extV 0 v164) fun v166 =>
  okInt .i64 (extV 1 v164) fun n167 =>
  storeR Tryd.prog h165 (fun v168 h169 =>
  rGq (n167 != 0) false (aLoad Tryd.prog h169 96 (.ptr i47 0 0 0)) fun b170 v171 =>
  rGq b170 false (some a1) fun b172 v173 =>
  rGq b172 false (some (.v (.int .i64 n32))) fun b174 v175 =>
  rGq b174 false (aIA Tryd.prog h169 90 v173 v175) fun b176 v177 =>
  rGq b176 false (aLoad Tryd.prog h169 96 v177) fun b178 v179 =>
  rGe b178 false (fun k180 => callR Tryd.prog G 70 [v171, v179] h169 (fun v181 h182 =>
  k180 v181 h182)) h169 fun b183 v184 h185 =>
  rGq b183 false (aUn .not v184) fun b186 v187 =>
  okBool (pickR (some (.v (.bool b186))) (some (.v (.bool true))) (some v187)) fun b188 =>
  condB b188
  (RetR h K (.v (.bool false)) h185)
  (Tryd.r16_j52 G h K a1 a2 v6 h9 v10 I28 m30 n32 i47 h185)) 96 v166 (.ptr i47 0 0 0)))
  (Tryd.r16_j52 G h K a1 a2 v6 h9 v10 I28 m30 n32 i47 h50)) 96 v46 (.ptr i47 0 0 0)))
  (RetR h K (.v (.bool true)) h31)
def Tryd.r16 (G : Nat → Option AV) (a0 a1 a2 : AV) (h : AH) (K : AV → AH → Prop) : Prop :=
  callR Tryd.prog G 60 [] h (fun v0 h1 =>
  okBool (some v0) fun b2 =>
  condB (!b2)
  (RetR h K (.v (.bool false)) h1)
  (okInt .i64 (some a0) fun n3 =>
  callR Tryd.prog G 61 [(.v (.int .i64 (IntKind.wrap .i64 (1 + (IntKind.wrap .i64 (Int.tmod (IntKind.wrap .u64 n3) 16))))))] h1 (fun v4 h5 =>
  okV (extV 0 v4) fun v6 =>
  okInt .i64 (extV 1 v4) fun n7 =>
  callR Tryd.prog G 61 [(.v (.int .i64 (IntKind.wrap .i64 (1 + (IntKind.wrap .i64 (Int.tmod (IntKind.wrap .u64 n3) 16))))))] h5 (fun v8 h9 =>
  okV (extV 0 v8) fun v10 =>
  okInt .i64 (extV 1 v8) fun n11 =>
  okBool (aBin Tryd.prog .eql 91 v6 (.v (.pointer none))) fun b12 =>
  rGq b12 false (some (.v (.int .i64 n7))) fun b13 v14 =>
  rGq b13 false (aBin Tryd.prog .neq 25 v14 (.v (.int .i64 0))) fun b15 v16 =>
  okBool (pickR (some (.v (.bool b15))) (some (.v (.bool true))) (some v16)) fun b17 =>
  rGq b17 false (some v10) fun b18 v19 =>
  rGq b18 false (aBin Tryd.prog .eql 91 v19 (.v (.pointer none))) fun b20 v21 =>
  okBool (pickR (some (.v (.bool b20))) (some (.v (.bool true))) (some v21)) fun b22 =>
  rGq b22 false (some (.v (.int .i64 n11))) fun b23 v24 =>
  rGq b23 false (aBin Tryd.prog .neq 25 v24 (.v (.int .i64 0))) fun b25 v26 =>
  okBool (pickR (some (.v (.bool b25))) (some (.v (.bool true))) (some v26)) fun b27 =>
  condB b27
  (RetR h K (.v (.bool false)) h9)
  (Tryd.r16_l9_28 K h G a1 a2 v6 h9 v10 0)))))
theorem Tryd.c16 (G : Nat → Option AV) (a0 a1 a2 : AV) (h : AH) (K : AV → AH → Prop) (hk : LowH h.length h → Tryd.r16 G a0 a1 a2 h K) : SCall Tryd.prog G 16 [a0, a1, a2] h K :=
  scall_of_rwp Tryd.tab16 [(9, [(11, (.int .i64))], [1, 2, 7, 9]), (25, [(136, (.int .i64))], [1, 2, 7, 9, 11, 19, 20, 135])] Tryd.func16 rfl Tryd.ntmps16 (by kernel_rfl) (by show 3 ≤ 179; decide) (by kernel_rfl) (by kernel_rfl) hk
-- 18 skylark/skylarklaw06.works
def Tryd.r18 (G : Nat → Option AV) (h : AH) (K : AV → AH → Prop) : Prop :=
  newO (.cells 3 1 [[(.v (.int .i64 1))]] 0) h fun i0 h1 =>
  callR Tryd.prog G 19 [(.sl i0 0 0 1 none), (.v (.string (ByteArray.mk #[107])))] h1 (fun v2 h3 =>
  okInt .i64 (extV 0 v2) fun n4 =>
  okInt .i64 (extV 1 v2) fun n5 =>
  newO (.cells 3 1 [[(.v (.int .i64 0))], [(.v (.int .i64 3))]] 0) h3 fun i6 h7 =>
  callR Tryd.prog G 19 [(.sl i6 0 0 2 none), (.v (.string (ByteArray.mk #[107])))] h7 (fun v8 h9 =>
  okInt .i64 (extV 0 v8) fun n10 =>
  okInt .i64 (extV 1 v8) fun n11 =>
  rGq (n4 == 0) true (some (.v (.int .i64 n5))) fun b12 v13 =>
  rGq b12 true (aBin Tryd.prog .eql 25 v13 (.v (.int .i64 0))) fun b14 v15 =>
  okBool (pickR (some (.v (.bool b14))) (some v15) (some (.v (.bool false)))) fun b16 =>
  rGq b16 true (some (.v (.int .i64 n10))) fun b17 v18 =>
  rGq b17 true (aBin Tryd.prog .eql 3 v18 (.v (.int .i64 1))) fun b19 v20 =>
  okBool (pickR (some (.v (.bool b19))) (some v20) (some (.v (.bool false)))) fun b21 =>
  rGq b21 true (some (.v (.int .i64 n11))) fun b22 v23 =>
  rGq b22 true (aBin Tryd.prog .eql 25 v23 (.v (.int .i64 0))) fun b24 v25 =>
  okBool (pickR (some (.v (.bool b24))) (some v25) (some (.v (.bool false)))) fun b26 =>
  rGe b26 true (fun k27 => newO (.cells 3 1 [[(.v (.int .i64 0))], [(.v (.int .i64 0))]] 0) h9 fun i28 h29 =>
  k27 (.sl i28 0 0 2 none) h29) h9 fun b30 v31 h32 =>
  rGe b30 true (fun k33 => callR Tryd.prog G 20 [v31] h32 (fun v34 h35 =>
  k33 v34 h35)) h32 fun b36 v37 h38 =>
  rGq b36 true (aBin Tryd.prog .eql 25 v37 (.v (.int .i64 1))) fun b39 v40 =>
  okBool (pickR (some (.v (.bool b39))) (some v40) (some (.v (.bool false)))) fun b41 =>
  rGe b41 true (fun k42 => callR Tryd.prog G 25 [(.v (.string (ByteArray.mk #[])))] h38 (fun v43 h44 =>
  k42 v43 h44)) h38 fun b45 v46 h47 =>
  rGe b45 true (fun k48 => callR Tryd.prog G 25 [(.v (.string (ByteArray.mk #[97])))] h47 (fun v49 h50 =>
  k48 v49 h50)) h47 fun b51 v52 h53 =>
  rGq b51 true (aBin Tryd.prog .neq 35 v46 v52) fun b54 v55 =>
  okBool (pickR (some (.v (.bool b54))) (some v55) (some (.v (.bool false)))) fun b56 =>
  RetR h K (.v (.bool b56)) h53))
theorem Tryd.c18 (G : Nat → Option AV) (h : AH) (K : AV → AH → Prop) (hk : LowH h.length h → Tryd.r18 G h K) : SCall Tryd.prog G 18 [] h K :=
  scall_of_rwp Tryd.tab18 [] Tryd.func18 rfl Tryd.ntmps18 (by kernel_rfl) (by show 0 ≤ 39; decide) (by kernel_rfl) (by kernel_rfl) hk
-- 19 skylark/ring.Of
def Tryd.r19 (G : Nat → Option AV) (a0 a1 : AV) (h : AH) (K : AV → AH → Prop) : Prop :=
  callR Tryd.prog G 77 [a0] h (fun v0 h1 =>
  okV (extV 0 v0) fun v2 =>
  okInt .i64 (extV 1 v0) fun n3 =>
  condB (n3 != 0)
  (RetR h K (.tup [(.v (.int .i64 0)), (.v (.int .i64 n3))]) h1)
  (okStr (some a1) fun s4 =>
  callR Tryd.prog G 78 [v2, (.v (.string s4))] h1 (fun v5 h6 =>
  okInt .i64 (some v5) fun n7 =>
  RetR h K (.tup [(.v (.int .i64 n7)), (.v (.int .i64 0))]) h6)))
theorem Tryd.c19 (G : Nat → Option AV) (a0 a1 : AV) (h : AH) (K : AV → AH → Prop) (hk : LowH h.length h → Tryd.r19 G a0 a1 h K) : SCall Tryd.prog G 19 [a0, a1] h K :=
  scall_of_rwp Tryd.tab19 [] Tryd.func19 rfl Tryd.ntmps19 (by kernel_rfl) (by show 2 ≤ 19; decide) (by kernel_rfl) (by kernel_rfl) hk
-- 20 skylark/ring.Check
def Tryd.r20 (G : Nat → Option AV) (a0 : AV) (h : AH) (K : AV → AH → Prop) : Prop :=
  okInt .i64 (aLen Tryd.prog h 22 a0) fun n0 =>
  rGq (decide (n0 < 1)) false (some a0) fun b1 v2 =>
  rGq b1 false (aLen Tryd.prog h 22 v2) fun b3 v4 =>
  rGq b3 false (aBin Tryd.prog .gtr 3 v4 (.v (.int .i64 8))) fun b5 v6 =>
  okBool (pickR (some (.v (.bool b5))) (some (.v (.bool true))) (some v6)) fun b7 =>
  rGq b7 false (some a0) fun b8 v9 =>
  rGe b8 false (fun k10 => callR Tryd.prog G 79 [v9] h (fun v11 h12 =>
  k10 v11 h12)) h fun b13 v14 h15 =>
  rGq b13 false (aBin Tryd.prog .lss 3 v14 (.v (.int .i64 0))) fun b16 v17 =>
  okBool (pickR (some (.v (.bool b16))) (some (.v (.bool true))) (some v17)) fun b18 =>
  rGq b18 false (some a0) fun b19 v20 =>
  rGe b19 false (fun k21 => callR Tryd.prog G 80 [v20] h15 (fun v22 h23 =>
  k21 v22 h23)) h15 fun b24 v25 h26 =>
  rGq b24 false (aBin Tryd.prog .gtr 3 v25 (.v (.int .i64 128))) fun b27 v28 =>
  okBool (pickR (some (.v (.bool b27))) (some (.v (.bool true))) (some v28)) fun b29 =>
  rGq b29 false (some a0) fun b30 v31 =>
  rGe b30 false (fun k32 => callR Tryd.prog G 80 [v31] h26 (fun v33 h34 =>
  k32 v33 h34)) h26 fun b35 v36 h37 =>
  rGq b35 false (aBin Tryd.prog .eql 3 v36 (.v (.int .i64 0))) fun b38 v39 =>
  okBool (pickR (some (.v (.bool b38))) (some (.v (.bool true))) (some v39)) fun b40 =>
  condB b40
  (RetR h K (.v (.int .i64 1)) h37)
  (RetR h K (.v (.int .i64 0)) h37)
theorem Tryd.c20 (G : Nat → Option AV) (a0 : AV) (h : AH) (K : AV → AH → Prop) (hk : LowH h.length h → Tryd.r20 G a0 h K) : SCall Tryd.prog G 20 [a0] h K :=
  scall_of_rwp Tryd.tab20 [] Tryd.func20 rfl Tryd.ntmps20 (by kernel_rfl) (by show 1 ≤ 26; decide) (by kernel_rfl) (by kernel_rfl) hk
-- 24 skylark/skylarkbook.SameInts
def Tryd.r24_l4_2 (K : AV → AH → Prop) (h : AH) (a0 : AV) (a1 : AV) (n12 : Int) : Prop :=
  ∃ (I2 : Nat → List AV → AH → Prop) (m3 : Nat), I2 m3 [(.v (.int .i64 n12))] h ∧ ∀ (m4 : Nat) (h5 : AH), h.length ≤ h5.length → LowH h5.length h5 → ∀ (n6 : Int), I2 m4 [(.v (.int .i64 n6))] h5 →
  okInt .i64 (aLen Tryd.prog h5 22 a0) fun n7 =>
  condB (decide (n6 < n7))
  (okV (aIA Tryd.prog h5 22 a0 (.v (.int .i64 n6))) fun v8 =>
  okInt .i64 (aLoad Tryd.prog h5 3 v8) fun n9 =>
  okV (aIA Tryd.prog h5 22 a1 (.v (.int .i64 n6))) fun v10 =>
  okInt .i64 (aLoad Tryd.prog h5 3 v10) fun n11 =>
  condB (n9 != n11)
  (RetR h K (.v (.bool false)) h5)
  (nextR h I2 m4 [some a0, some a1] [some a0, some a1] [(.v (.int .i64 (IntKind.wrap .i64 (n6 + 1))))] h5))
  (RetR h K (.v (.bool true)) h5)
def Tryd.r24 (a0 a1 : AV) (h : AH) (K : AV → AH → Prop) : Prop :=
  okInt .i64 (aLen Tryd.prog h 22 a0) fun n0 =>
  okInt .i64 (aLen Tryd.prog h 22 a1) fun n1 =>
  condB (n0 != n1)
  (RetR h K (.v (.bool false)) h)
  (Tryd.r24_l4_2 K h a0 a1 0)
theorem Tryd.c24 (G : Nat → Option AV) (a0 a1 : AV) (h : AH) (K : AV → AH → Prop) (hk : LowH h.length h → Tryd.r24 a0 a1 h K) : SCall Tryd.prog G 24 [a0, a1] h K :=
  scall_of_rwp Tryd.tab24 [(4, [(5, (.int .i64))], [0, 1])] Tryd.func24 rfl Tryd.ntmps24 (by kernel_rfl) (by show 2 ≤ 26; decide) (by kernel_rfl) (by kernel_rfl) hk
-- 25 skylark/ring.Hash
def Tryd.r25_l3_1 (K : AV → AH → Prop) (h : AH) (a0 : AV) (s0 : ByteArray) (n14 : Int) (n15 : Int) : Prop :=
  ∃ (I1 : Nat → List AV → AH → Prop) (m2 : Nat), I1 m2 [(.v (.int .u64 n14)), (.v (.int .i64 n15))] h ∧ ∀ (m3 : Nat) (h4 : AH), h.length ≤ h4.length → LowH h4.length h4 → ∀ (n5 : Int) (n6 : Int), I1 m3 [(.v (.int .u64 n5)), (.v (.int .i64 n6))] h4 →
  condB (decide (n6 < ((ByteArray.size s0 : Nat) : Int)))
  (okStr (some a0) fun s7 =>
  okInt .u8 (aIndex Tryd.prog 9 (.v (.string s7)) (.v (.int .i64 n6))) fun n8 =>
  okInt .u64 (aBin Tryd.prog .xor 35 (.v (.int .u64 n5)) (.v (.int .u64 (IntKind.wrap .u64 n8)))) fun n9 =>
  nextR h I1 m3 [some a0, some (.v (.int .i64 ((ByteArray.size s0 : Nat) : Int)))] [some a0, some (.v (.int .i64 ((ByteArray.size s0 : Nat) : Int)))] [(.v (.int .u64 (IntKind.wrap .u64 (n9 * 1099511628211)))), (.v (.int .i64 (IntKind.wrap .i64 (n6 + 1))))] h4)
  (okInt .u64 (aBin Tryd.prog .shr 35 (.v (.int .u64 n5)) (.v (.int .u64 33))) fun n10 =>
  okInt .u64 (aBin Tryd.prog .xor 35 (.v (.int .u64 n5)) (.v (.int .u64 n10))) fun n11 =>
  okInt .u64 (aBin Tryd.prog .shr 35 (.v (.int .u64 (IntKind.wrap .u64 (n11 * 18397679294719823053)))) (.v (.int .u64 33))) fun n12 =>
  okInt .u64 (aBin Tryd.prog .xor 35 (.v (.int .u64 (IntKind.wrap .u64 (n11 * 18397679294719823053)))) (.v (.int .u64 n12))) fun n13 =>
  RetR h K (.v (.int .u64 n13)) h4)
def Tryd.r25 (a0 : AV) (h : AH) (K : AV → AH → Prop) : Prop :=
  okStr (some a0) fun s0 =>
  Tryd.r25_l3_1 K h a0 s0 14695981039346656037 0
theorem Tryd.c25 (G : Nat → Option AV) (a0 : AV) (h : AH) (K : AV → AH → Prop) (hk : LowH h.length h → Tryd.r25 a0 h K) : SCall Tryd.prog G 25 [a0] h K :=
  scall_of_rwp Tryd.tab25 [(3, [(3, (.int .u64)), (7, (.int .i64))], [0, 6])] Tryd.func25 rfl Tryd.ntmps25 (by kernel_rfl) (by show 1 ≤ 27; decide) (by kernel_rfl) (by kernel_rfl) hk
-- 26 skylark/skylarkref06.Hash
def Tryd.r26_l3_0 (K : AV → AH → Prop) (h : AH) (a0 : AV) (n14 : Int) (n15 : Int) : Prop :=
  ∃ (I0 : Nat → List AV → AH → Prop) (m1 : Nat), I0 m1 [(.v (.int .u64 n14)), (.v (.int .i64 n15))] h ∧ ∀ (m2 : Nat) (h3 : AH), h.length ≤ h3.length → LowH h3.length h3 → ∀ (n4 : Int) (n5 : Int), I0 m2 [(.v (.int .u64 n4)), (.v (.int .i64 n5))] h3 →
  okStr (some a0) fun s6 =>
  condB (decide (n5 < ((ByteArray.size s6 : Nat) : Int)))
  (okStr (some a0) fun s7 =>
  okInt .u8 (aIndex Tryd.prog 9 (.v (.string s7)) (.v (.int .i64 n5))) fun n8 =>
  okInt .u64 (aBin Tryd.prog .xor 35 (.v (.int .u64 n4)) (.v (.int .u64 (IntKind.wrap .u64 n8)))) fun n9 =>
  nextR h I0 m2 [some a0] [some a0] [(.v (.int .u64 (IntKind.wrap .u64 (n9 * 1099511628211)))), (.v (.int .i64 (IntKind.wrap .i64 (n5 + 1))))] h3)
  (okInt .u64 (aBin Tryd.prog .shr 35 (.v (.int .u64 n4)) (.v (.int .u64 33))) fun n10 =>
  okInt .u64 (aBin Tryd.prog .xor 35 (.v (.int .u64 n4)) (.v (.int .u64 n10))) fun n11 =>
  okInt .u64 (aBin Tryd.prog .shr 35 (.v (.int .u64 (IntKind.wrap .u64 (n11 * 18397679294719823053)))) (.v (.int .u64 33))) fun n12 =>
  okInt .u64 (aBin Tryd.prog .xor 35 (.v (.int .u64 (IntKind.wrap .u64 (n11 * 18397679294719823053)))) (.v (.int .u64 n12))) fun n13 =>
  RetR h K (.v (.int .u64 n13)) h3)
def Tryd.r26 (a0 : AV) (h : AH) (K : AV → AH → Prop) : Prop :=
  Tryd.r26_l3_0 K h a0 14695981039346656037 0
theorem Tryd.c26 (G : Nat → Option AV) (a0 : AV) (h : AH) (K : AV → AH → Prop) (hk : LowH h.length h → Tryd.r26 a0 h K) : SCall Tryd.prog G 26 [a0] h K :=
  scall_of_rwp Tryd.tab26 [(3, [(3, (.int .u64)), (4, (.int .i64))], [0])] Tryd.func26 rfl Tryd.ntmps26 (by kernel_rfl) (by show 1 ≤ 27; decide) (by kernel_rfl) (by kernel_rfl) hk
-- 29 skylark/ring.Moved
def Tryd.r29_l8_14 (K : AV → AH → Prop) (h : AH) (G : Nat → Option AV) (a2 : AV) (v2 : AV) (v6 : AV) (h11 : AH) (n13 : Int) (v32 : AV) (n33 : Int) : Prop :=
  ∃ (I14 : Nat → List AV → AH → Prop) (m15 : Nat), I14 m15 [v32, (.v (.int .i64 n33))] h11 ∧ ∀ (m16 : Nat) (h17 : AH), h11.length ≤ h17.length → LowH h17.length h17 → ∀ (v18 : AV) (n19 : Int), I14 m16 [v18, (.v (.int .i64 n19))] h17 →
  condB (decide (n19 < n13))
  (okV (aIA Tryd.prog h17 23 a2 (.v (.int .i64 n19))) fun v20 =>
  okStr (aLoad Tryd.prog h17 9 v20) fun s21 =>
  callR Tryd.prog G 78 [v2, (.v (.string s21))] h17 (fun v22 h23 =>
  okInt .i64 (some v22) fun n24 =>
  callR Tryd.prog G 78 [v6, (.v (.string s21))] h23 (fun v25 h26 =>
  okInt .i64 (some v25) fun n27 =>
  condB (n24 != n27)
  (newO (.cells 3 1 [[(.v (.int .i64 n19))]] 0) h26 fun i28 h29 =>
  appR Tryd.prog h29 22 22 v18 (.sl i28 0 0 1 none) (fun v30 h31 =>
  nextR h11 I14 m16 [some v2, some v6, some a2, some (.v (.int .i64 n13))] [some v2, some v6, some a2, some (.v (.int .i64 n13))] [v30, (.v (.int .i64 (IntKind.wrap .i64 (n19 + 1))))] h31))
  (nextR h11 I14 m16 [some v2, some v6, some a2, some (.v (.int .i64 n13))] [some v2, some v6, some a2, some (.v (.int .i64 n13))] [v18, (.v (.int .i64 (IntKind.wrap .i64 (n19 + 1))))] h26))))
  (RetR h K (.tup [v18, (.v (.int .i64 0))]) h17)
def Tryd.r29 (G : Nat → Option AV) (a0 a1 a2 : AV) (h : AH) (K : AV → AH → Prop) : Prop :=
  callR Tryd.prog G 77 [a0] h (fun v0 h1 =>
  okV (extV 0 v0) fun v2 =>
  okInt .i64 (extV 1 v0) fun n3 =>
  callR Tryd.prog G 77 [a1] h1 (fun v4 h5 =>
  okV (extV 0 v4) fun v6 =>
  okInt .i64 (extV 1 v4) fun n7 =>
  newO (.cells 25 1 [[(.v (.int .i64 n3))], [(.v (.int .i64 n7))]] 0) h5 fun i8 h9 =>
  callR Tryd.prog G 83 [(.sl i8 0 0 2 none)] h9 (fun v10 h11 =>
  okInt .i64 (some v10) fun n12 =>
  condB (n12 != 0)
  (RetR h K (.tup [(.v (.slice none 0 0)), (.v (.int .i64 n12))]) h11)
  (okInt .i64 (aLen Tryd.prog h11 23 a2) fun n13 =>
  Tryd.r29_l8_14 K h G a2 v2 v6 h11 n13 (.v (.slice none 0 0)) 0))))
theorem Tryd.c29 (G : Nat → Option AV) (a0 a1 a2 : AV) (h : AH) (K : AV → AH → Prop) (hk : LowH h.length h → Tryd.r29 G a0 a1 a2 h K) : SCall Tryd.prog G 29 [a0, a1, a2] h K :=
  scall_of_rwp Tryd.tab29 [(8, [(13, .any), (35, (.int .i64))], [8, 10, 33, 34])] Tryd.func29 rfl Tryd.ntmps29 (by kernel_rfl) (by show 3 ≤ 53; decide) (by kernel_rfl) (by kernel_rfl) hk
-- 30 skylark/skylarkref06.Moved
def Tryd.r30_l6_18 (K : AV → AH → Prop) (h : AH) (G : Nat → Option AV) (a2 : AV) (v14 : AV) (v16 : AV) (h17 : AH) (v39 : AV) (n40 : Int) : Prop :=
  ∃ (I18 : Nat → List AV → AH → Prop) (m19 : Nat), I18 m19 [v39, (.v (.int .i64 n40))] h17 ∧ ∀ (m20 : Nat) (h21 : AH), h17.length ≤ h21.length → LowH h21.length h21 → ∀ (v22 : AV) (n23 : Int), I18 m20 [v22, (.v (.int .i64 n23))] h21 →
  okInt .i64 (aLen Tryd.prog h21 23 a2) fun n24 =>
  condB (decide (n23 < n24))
  (okV (aIA Tryd.prog h21 23 a2 (.v (.int .i64 n23))) fun v25 =>
  okStr (aLoad Tryd.prog h21 9 v25) fun s26 =>
  okV (aIA Tryd.prog h21 23 a2 (.v (.int .i64 n23))) fun v27 =>
  okStr (aLoad Tryd.prog h21 9 v27) fun s28 =>
  callR Tryd.prog G 84 [v14, (.v (.string s26))] h21 (fun v29 h30 =>
  okInt .i64 (some v29) fun n31 =>
  (aLoad Tryd.prog h30 9 v27 = some (.v (.string s28))) ∧ (aIA Tryd.prog h30 23 a2 (.v (.int .i64 n23)) = some v27) ∧ callR Tryd.prog G 84 [v16, (.v (.string s28))] h30 (fun v32 h33 =>
  okInt .i64 (some v32) fun n34 =>
  condB (n31 != n34)
  (newO (.cells 3 1 [[(.v (.int .i64 n23))]] 0) h33 fun i35 h36 =>
  appR Tryd.prog h36 22 22 v22 (.sl i35 0 0 1 none) (fun v37 h38 =>
  nextR h17 I18 m20 [some a2, some v14, some v16] [some a2, some v14, some v16] [v37, (.v (.int .i64 (IntKind.wrap .i64 (n23 + 1))))] h38))
  (nextR h17 I18 m20 [some a2, some v14, some v16] [some a2, some v14, some v16] [v22, (.v (.int .i64 (IntKind.wrap .i64 (n23 + 1))))] h33))))
  (RetR h K (.tup [v22, (.v (.int .i64 0))]) h21)
def Tryd.r30 (G : Nat → Option AV) (a0 a1 a2 : AV) (h : AH) (K : AV → AH → Prop) : Prop :=
  callR Tryd.prog G 81 [a0] h (fun v0 h1 =>
  okBool (some v0) fun b2 =>
  rGq (!b2) false (some a1) fun b3 v4 =>
  rGe b3 false (fun k5 => callR Tryd.prog G 81 [v4] h1 (fun v6 h7 =>
  k5 v6 h7)) h1 fun b8 v9 h10 =>
  rGq b8 false (aUn .not v9) fun b11 v12 =>
  okBool (pickR (some (.v (.bool b11))) (some (.v (.bool true))) (some v12)) fun b13 =>
  condB b13
  (RetR h K (.tup [(.v (.slice none 0 0)), (.v (.int .i64 1))]) h10)
  (callR Tryd.prog G 82 [a0] h10 (fun v14 h15 =>
  callR Tryd.prog G 82 [a1] h15 (fun v16 h17 =>
  Tryd.r30_l6_18 K h G a2 v14 v16 h17 (.v (.slice none 0 0)) 0))))
theorem Tryd.c30 (G : Nat → Option AV) (a0 a1 a2 : AV) (h : AH) (K : AV → AH → Prop) (hk : LowH h.length h → Tryd.r30 G a0 a1 a2 h K) : SCall Tryd.prog G 30 [a0, a1, a2] h K :=
  scall_of_rwp Tryd.tab30 [(6, [(10, .any), (11, (.int .i64))], [2, 8, 9])] Tryd.func30 rfl Tryd.ntmps30 (by kernel_rfl) (by show 3 ≤ 48; decide) (by kernel_rfl) (by kernel_rfl) hk
-- 31 skylark/skylarkref06.Of
def Tryd.r31 (G : Nat → Option AV) (a0 a1 : AV) (h : AH) (K : AV → AH → Prop) : Prop :=
  callR Tryd.prog G 81 [a0] h (fun v0 h1 =>
  okBool (some v0) fun b2 =>
  condB (!b2)
  (RetR h K (.tup [(.v (.int .i64 0)), (.v (.int .i64 1))]) h1)
  (callR Tryd.prog G 82 [a0] h1 (fun v3 h4 =>
  okStr (some a1) fun s5 =>
  callR Tryd.prog G 84 [v3, (.v (.string s5))] h4 (fun v6 h7 =>
  okInt .i64 (some v6) fun n8 =>
  RetR h K (.tup [(.v (.int .i64 n8)), (.v (.int .i64 0))]) h7))))
theorem Tryd.c31 (G : Nat → Option AV) (a0 a1 : AV) (h : AH) (K : AV → AH → Prop) (hk : LowH h.length h → Tryd.r31 G a0 a1 h K) : SCall Tryd.prog G 31 [a0, a1] h K :=
  scall_of_rwp Tryd.tab31 [] Tryd.func31 rfl Tryd.ntmps31 (by kernel_rfl) (by show 2 ≤ 13; decide) (by kernel_rfl) (by kernel_rfl) hk
-- 32 skylark/skylarkbook.SameTexts
def Tryd.r32_l4_2 (K : AV → AH → Prop) (h : AH) (a0 : AV) (a1 : AV) (n12 : Int) : Prop :=
  ∃ (I2 : Nat → List AV → AH → Prop) (m3 : Nat), I2 m3 [(.v (.int .i64 n12))] h ∧ ∀ (m4 : Nat) (h5 : AH), h.length ≤ h5.length → LowH h5.length h5 → ∀ (n6 : Int), I2 m4 [(.v (.int .i64 n6))] h5 →
  okInt .i64 (aLen Tryd.prog h5 23 a0) fun n7 =>
  condB (decide (n6 < n7))
  (okV (aIA Tryd.prog h5 23 a0 (.v (.int .i64 n6))) fun v8 =>
  okStr (aLoad Tryd.prog h5 9 v8) fun s9 =>
  okV (aIA Tryd.prog h5 23 a1 (.v (.int .i64 n6))) fun v10 =>
  okStr (aLoad Tryd.prog h5 9 v10) fun s11 =>
  condB (!(ByteArray.toList s9 == ByteArray.toList s11))
  (RetR h K (.v (.bool false)) h5)
  (nextR h I2 m4 [some a0, some a1] [some a0, some a1] [(.v (.int .i64 (IntKind.wrap .i64 (n6 + 1))))] h5))
  (RetR h K (.v (.bool true)) h5)
def Tryd.r32 (a0 a1 : AV) (h : AH) (K : AV → AH → Prop) : Prop :=
  okInt .i64 (aLen Tryd.prog h 23 a0) fun n0 =>
  okInt .i64 (aLen Tryd.prog h 23 a1) fun n1 =>
  condB (n0 != n1)
  (RetR h K (.v (.bool false)) h)
  (Tryd.r32_l4_2 K h a0 a1 0)
theorem Tryd.c32 (G : Nat → Option AV) (a0 a1 : AV) (h : AH) (K : AV → AH → Prop) (hk : LowH h.length h → Tryd.r32 a0 a1 h K) : SCall Tryd.prog G 32 [a0, a1] h K :=
  scall_of_rwp Tryd.tab32 [(4, [(5, (.int .i64))], [0, 1])] Tryd.func32 rfl Tryd.ntmps32 (by kernel_rfl) (by show 2 ≤ 26; decide) (by kernel_rfl) (by kernel_rfl) hk
-- 34 (skylark/skylarklaw07.Change).theirs
def Tryd.r34 (a0 : AV) (h : AH) (K : AV → AH → Prop) : Prop :=
  onlyB (AV.one a0) (newO (.cells 47 (AV.cells a0).length [AV.cells a0] 0) h fun i0 h1 =>
  newO (.cells 48 6 [[(.v (.int .i64 0)), (.v (.slice none 0 0)), (.v (.int .i64 0)), (.v (.slice none 0 0)), (.v (.string (ByteArray.mk #[]))), (.v (.bool false))]] 0) h1 fun i2 h3 =>
  okV (aLoad Tryd.prog h3 45 (.ptr i0 0 0 0)) fun v4 =>
  okV (aLoad Tryd.prog h3 45 (.ptr i0 0 0 2)) fun v5 =>
  okStr (aLoad Tryd.prog h3 9 (.ptr i0 0 0 4)) fun s6 =>
  okBool (aLoad Tryd.prog h3 4 (.ptr i0 0 0 5)) fun b7 =>
  okV (aBuild Tryd.prog 48 [(0, some v4), (1, some v5), (2, some (.v (.string s6))), (3, some (.v (.bool b7)))]) fun v8 =>
  storeR Tryd.prog h3 (fun v9 h10 =>
  okV (aLoad Tryd.prog h10 48 (.ptr i2 0 0 0)) fun v11 =>
  RetR h K v11 h10) 48 v8 (.ptr i2 0 0 0))
theorem Tryd.c34 (G : Nat → Option AV) (a0 : AV) (h : AH) (K : AV → AH → Prop) (hk : LowH h.length h → Tryd.r34 a0 h K) : SCall Tryd.prog G 34 [a0] h K :=
  scall_of_rwp Tryd.tab34 [] Tryd.func34 rfl Tryd.ntmps34 (by kernel_rfl) (by show 1 ≤ 12; decide) (by kernel_rfl) (by kernel_rfl) hk
-- 35 (skylark/skylarklaw07.Change).ours
def Tryd.r35 (a0 : AV) (h : AH) (K : AV → AH → Prop) : Prop :=
  onlyB (AV.one a0) (newO (.cells 47 (AV.cells a0).length [AV.cells a0] 0) h fun i0 h1 =>
  newO (.cells 50 6 [[(.v (.int .i64 0)), (.v (.slice none 0 0)), (.v (.int .i64 0)), (.v (.slice none 0 0)), (.v (.string (ByteArray.mk #[]))), (.v (.bool false))]] 0) h1 fun i2 h3 =>
  okV (aLoad Tryd.prog h3 45 (.ptr i0 0 0 0)) fun v4 =>
  okV (aLoad Tryd.prog h3 45 (.ptr i0 0 0 2)) fun v5 =>
  okStr (aLoad Tryd.prog h3 9 (.ptr i0 0 0 4)) fun s6 =>
  okBool (aLoad Tryd.prog h3 4 (.ptr i0 0 0 5)) fun b7 =>
  okV (aBuild Tryd.prog 50 [(0, some v4), (1, some v5), (2, some (.v (.string s6))), (3, some (.v (.bool b7)))]) fun v8 =>
  storeR Tryd.prog h3 (fun v9 h10 =>
  okV (aLoad Tryd.prog h10 50 (.ptr i2 0 0 0)) fun v11 =>
  RetR h K v11 h10) 50 v8 (.ptr i2 0 0 0))
theorem Tryd.c35 (G : Nat → Option AV) (a0 : AV) (h : AH) (K : AV → AH → Prop) (hk : LowH h.length h → Tryd.r35 a0 h K) : SCall Tryd.prog G 35 [a0] h K :=
  scall_of_rwp Tryd.tab35 [] Tryd.func35 rfl Tryd.ntmps35 (by kernel_rfl) (by show 1 ≤ 12; decide) (by kernel_rfl) (by kernel_rfl) hk
-- 36 (skylark/layout.Change).Owner
def Tryd.r36_j12 (K : AV → AH → Prop) (h : AH) (G : Nat → Option AV) (a1 : AV) (i7 : Nat) (h11 : AH) : Prop :=
  okV (aLoad Tryd.prog h11 22 (.ptr i7 0 0 1)) fun v12 =>
  okStr (some a1) fun s13 =>
  callR Tryd.prog G 19 [v12, (.v (.string s13))] h11 (fun v14 h15 =>
  okInt .i64 (extV 0 v14) fun n16 =>
  okInt .i64 (extV 1 v14) fun n17 =>
  RetR h K (.tup [(.v (.int .i64 n16)), (.v (.int .i64 n17))]) h15)
def Tryd.r36 (G : Nat → Option AV) (a0 a1 : AV) (h : AH) (K : AV → AH → Prop) : Prop :=
  onlyB (AV.one a0) (newO (.cells 48 (AV.cells a0).length [AV.cells a0] 0) h fun i0 h1 =>
  okV (aLoad Tryd.prog h1 48 (.ptr i0 0 0 0)) fun v2 =>
  callR Tryd.prog G 44 [v2] h1 (fun v3 h4 =>
  okInt .i64 (some v3) fun n5 =>
  condB (n5 != 0)
  (RetR h K (.tup [(.v (.int .i64 0)), (.v (.int .i64 n5))]) h4)
  (okV (aLoad Tryd.prog h4 45 (.ptr i0 0 0 0)) fun v6 =>
  newO (.cells 45 2 [[(.v (.int .i64 0)), (.v (.slice none 0 0))]] 0) h4 fun i7 h8 =>
  storeR Tryd.prog h8 (fun v9 h10 =>
  okBool (aLoad Tryd.prog h10 4 (.ptr i0 0 0 5)) fun b18 =>
  rGq b18 false (some a1) fun b19 v20 =>
  rGq b19 false (some (.ptr i0 0 0 4)) fun b21 v22 =>
  rGq b21 false (aLoad Tryd.prog h10 9 v22) fun b23 v24 =>
  rGq b23 false (aBin Tryd.prog .lss 9 v20 v24) fun b25 v26 =>
  okBool (pickR (some (.v (.bool b25))) (some (.v (.bool true))) (some v26)) fun b27 =>
  condB b27
  (okV (aLoad Tryd.prog h10 45 (.ptr i0 0 0 2)) fun v28 =>
  storeR Tryd.prog h10 (fun v29 h30 =>
  Tryd.r36_j12 K h G a1 i7 h30) 45 v28 (.ptr i7 0 0 0))
  (Tryd.r36_j12 K h G a1 i7 h10)) 45 v6 (.ptr i7 0 0 0))))
theorem Tryd.c36 (G : Nat → Option AV) (a0 a1 : AV) (h : AH) (K : AV → AH → Prop) (hk : LowH h.length h → Tryd.r36 G a0 a1 h K) : SCall Tryd.prog G 36 [a0, a1] h K :=
  scall_of_rwp Tryd.tab36 [] Tryd.func36 rfl Tryd.ntmps36 (by kernel_rfl) (by show 2 ≤ 31; decide) (by kernel_rfl) (by kernel_rfl) hk
-- 37 (skylark/skylarkref07.Change).Owner
def Tryd.r37 (G : Nat → Option AV) (a0 a1 : AV) (h : AH) (K : AV → AH → Prop) : Prop :=
  onlyB (AV.one a0) (newO (.cells 50 (AV.cells a0).length [AV.cells a0] 0) h fun i0 h1 =>
  okV (aLoad Tryd.prog h1 50 (.ptr i0 0 0 0)) fun v2 =>
  callR Tryd.prog G 45 [v2] h1 (fun v3 h4 =>
  okBool (some v3) fun b5 =>
  condB (!b5)
  (RetR h K (.tup [(.v (.int .i64 0)), (.v (.int .i64 70))]) h4)
  (okBool (aLoad Tryd.prog h4 4 (.ptr i0 0 0 5)) fun b6 =>
  rGq b6 false (some a1) fun b7 v8 =>
  rGq b7 false (some (.ptr i0 0 0 4)) fun b9 v10 =>
  rGq b9 false (aLoad Tryd.prog h4 9 v10) fun b11 v12 =>
  rGq b11 false (aBin Tryd.prog .lss 9 v8 v12) fun b13 v14 =>
  okBool (pickR (some (.v (.bool b13))) (some (.v (.bool true))) (some v14)) fun b15 =>
  condB b15
  (okV (aLoad Tryd.prog h4 22 (.ptr i0 0 0 3)) fun v16 =>
  okStr (some a1) fun s17 =>
  callR Tryd.prog G 31 [v16, (.v (.string s17))] h4 (fun v18 h19 =>
  okInt .i64 (extV 0 v18) fun n20 =>
  okInt .i64 (extV 1 v18) fun n21 =>
  RetR h K (.tup [(.v (.int .i64 n20)), (.v (.int .i64 n21))]) h19))
  (okV (aLoad Tryd.prog h4 22 (.ptr i0 0 0 1)) fun v22 =>
  okStr (some a1) fun s23 =>
  callR Tryd.prog G 31 [v22, (.v (.string s23))] h4 (fun v24 h25 =>
  okInt .i64 (extV 0 v24) fun n26 =>
  okInt .i64 (extV 1 v24) fun n27 =>
  RetR h K (.tup [(.v (.int .i64 n26)), (.v (.int .i64 n27))]) h25)))))
theorem Tryd.c37 (G : Nat → Option AV) (a0 a1 : AV) (h : AH) (K : AV → AH → Prop) (hk : LowH h.length h → Tryd.r37 G a0 a1 h K) : SCall Tryd.prog G 37 [a0, a1] h K :=
  scall_of_rwp Tryd.tab37 [] Tryd.func37 rfl Tryd.ntmps37 (by kernel_rfl) (by show 2 ≤ 31; decide) (by kernel_rfl) (by kernel_rfl) hk
-- 38 (skylark/layout.Change).To
def Tryd.r38 (G : Nat → Option AV) (a0 a1 : AV) (h : AH) (K : AV → AH → Prop) : Prop :=
  onlyB (AV.one a0) (newO (.cells 48 (AV.cells a0).length [AV.cells a0] 0) h fun i0 h1 =>
  newO (.cells 48 6 [[(.v (.int .i64 0)), (.v (.slice none 0 0)), (.v (.int .i64 0)), (.v (.slice none 0 0)), (.v (.string (ByteArray.mk #[]))), (.v (.bool false))]] 0) h1 fun i2 h3 =>
  okV (aLoad Tryd.prog h3 48 (.ptr i0 0 0 0)) fun v4 =>
  callR Tryd.prog G 44 [v4] h3 (fun v5 h6 =>
  okInt .i64 (some v5) fun n7 =>
  condB (n7 != 0)
  (storeR Tryd.prog h6 (fun v8 h9 =>
  okV (aLoad Tryd.prog h9 48 (.ptr i2 0 0 0)) fun v10 =>
  RetR h K (.tup [v10, (.v (.int .i64 n7))]) h9) 48 (.agg [(.v (.int .i64 0)), (.v (.slice none 0 0)), (.v (.int .i64 0)), (.v (.slice none 0 0)), (.v (.string (ByteArray.mk #[]))), (.v (.bool false))]) (.ptr i2 0 0 0))
  (okBool (aLoad Tryd.prog h6 4 (.ptr i0 0 0 5)) fun b11 =>
  rGq b11 false (some a1) fun b12 v13 =>
  rGq b12 false (some (.ptr i0 0 0 4)) fun b14 v15 =>
  rGq b14 false (aLoad Tryd.prog h6 9 v15) fun b16 v17 =>
  rGq b16 false (aBin Tryd.prog .lss 9 v13 v17) fun b18 v19 =>
  okBool (pickR (some (.v (.bool b18))) (some (.v (.bool true))) (some v19)) fun b20 =>
  rGq b20 false (some a1) fun b21 v22 =>
  rGq b21 false (aLen Tryd.prog h6 9 v22) fun b23 v24 =>
  rGq b23 false (aBin Tryd.prog .gtr 3 v24 (.v (.int .i64 64))) fun b25 v26 =>
  okBool (pickR (some (.v (.bool b25))) (some (.v (.bool true))) (some v26)) fun b27 =>
  condB b27
  (storeR Tryd.prog h6 (fun v28 h29 =>
  okV (aLoad Tryd.prog h29 48 (.ptr i2 0 0 0)) fun v30 =>
  RetR h K (.tup [v30, (.v (.int .i64 1))]) h29) 48 (.agg [(.v (.int .i64 0)), (.v (.slice none 0 0)), (.v (.int .i64 0)), (.v (.slice none 0 0)), (.v (.string (ByteArray.mk #[]))), (.v (.bool false))]) (.ptr i2 0 0 0))
  (okStr (some a1) fun s31 =>
  storeR Tryd.prog h6 (fun v32 h33 =>
  okV (aLoad Tryd.prog h33 48 (.ptr i0 0 0 0)) fun v34 =>
  storeR Tryd.prog h33 (fun v35 h36 =>
  okV (aLoad Tryd.prog h36 48 (.ptr i2 0 0 0)) fun v37 =>
  RetR h K (.tup [v37, (.v (.int .i64 0))]) h36) 48 v34 (.ptr i2 0 0 0)) 9 (.v (.string s31)) (.ptr i0 0 0 4)))))
theorem Tryd.c38 (G : Nat → Option AV) (a0 a1 : AV) (h : AH) (K : AV → AH → Prop) (hk : LowH h.length h → Tryd.r38 G a0 a1 h K) : SCall Tryd.prog G 38 [a0, a1] h K :=
  scall_of_rwp Tryd.tab38 [] Tryd.func38 rfl Tryd.ntmps38 (by kernel_rfl) (by show 2 ≤ 30; decide) (by kernel_rfl) (by kernel_rfl) hk
-- 39 (skylark/skylarkref07.Change).To
def Tryd.r39 (G : Nat → Option AV) (a0 a1 : AV) (h : AH) (K : AV → AH → Prop) : Prop :=
  onlyB (AV.one a0) (newO (.cells 50 (AV.cells a0).length [AV.cells a0] 0) h fun i0 h1 =>
  newO (.cells 50 6 [[(.v (.int .i64 0)), (.v (.slice none 0 0)), (.v (.int .i64 0)), (.v (.slice none 0 0)), (.v (.string (ByteArray.mk #[]))), (.v (.bool false))]] 0) h1 fun i2 h3 =>
  okV (aLoad Tryd.prog h3 50 (.ptr i0 0 0 0)) fun v4 =>
  callR Tryd.prog G 45 [v4] h3 (fun v5 h6 =>
  okBool (some v5) fun b7 =>
  condB (!b7)
  (storeR Tryd.prog h6 (fun v8 h9 =>
  okV (aLoad Tryd.prog h9 50 (.ptr i2 0 0 0)) fun v10 =>
  RetR h K (.tup [v10, (.v (.int .i64 70))]) h9) 50 (.agg [(.v (.int .i64 0)), (.v (.slice none 0 0)), (.v (.int .i64 0)), (.v (.slice none 0 0)), (.v (.string (ByteArray.mk #[]))), (.v (.bool false))]) (.ptr i2 0 0 0))
  (okBool (aLoad Tryd.prog h6 4 (.ptr i0 0 0 5)) fun b11 =>
  rGq b11 false (some a1) fun b12 v13 =>
  rGq b12 false (some (.ptr i0 0 0 4)) fun b14 v15 =>
  rGq b14 false (aLoad Tryd.prog h6 9 v15) fun b16 v17 =>
  rGq b16 false (aBin Tryd.prog .lss 9 v13 v17) fun b18 v19 =>
  okBool (pickR (some (.v (.bool b18))) (some (.v (.bool true))) (some v19)) fun b20 =>
  rGq b20 false (some a1) fun b21 v22 =>
  rGq b21 false (aLen Tryd.prog h6 9 v22) fun b23 v24 =>
  rGq b23 false (aBin Tryd.prog .gtr 3 v24 (.v (.int .i64 64))) fun b25 v26 =>
  okBool (pickR (some (.v (.bool b25))) (some (.v (.bool true))) (some v26)) fun b27 =>
  condB b27
  (storeR Tryd.prog h6 (fun v28 h29 =>
  okV (aLoad Tryd.prog h29 50 (.ptr i2 0 0 0)) fun v30 =>
  RetR h K (.tup [v30, (.v (.int .i64 1))]) h29) 50 (.agg [(.v (.int .i64 0)), (.v (.slice none 0 0)), (.v (.int .i64 0)), (.v (.slice none 0 0)), (.v (.string (ByteArray.mk #[]))), (.v (.bool false))]) (.ptr i2 0 0 0))
  (okStr (some a1) fun s31 =>
  storeR Tryd.prog h6 (fun v32 h33 =>
  okV (aLoad Tryd.prog h33 50 (.ptr i0 0 0 0)) fun v34 =>
  storeR Tryd.prog h33 (fun v35 h36 =>
  okV (aLoad Tryd.prog h36 50 (.ptr i2 0 0 0)) fun v37 =>
  RetR h K (.tup [v37, (.v (.int .i64 0))]) h36) 50 v34 (.ptr i2 0 0 0)) 9 (.v (.string s31)) (.ptr i0 0 0 4)))))
theorem Tryd.c39 (G : Nat → Option AV) (a0 a1 : AV) (h : AH) (K : AV → AH → Prop) (hk : LowH h.length h → Tryd.r39 G a0 a1 h K) : SCall Tryd.prog G 39 [a0, a1] h K :=
  scall_of_rwp Tryd.tab39 [] Tryd.func39 rfl Tryd.ntmps39 (by kernel_rfl) (by show 2 ≤ 27; decide) (by kernel_rfl) (by kernel_rfl) hk
-- 40 (skylark/layout.Change).End
def Tryd.r40 (G : Nat → Option AV) (a0 : AV) (h : AH) (K : AV → AH → Prop) : Prop :=
  onlyB (AV.one a0) (newO (.cells 48 (AV.cells a0).length [AV.cells a0] 0) h fun i0 h1 =>
  newO (.cells 45 2 [[(.v (.int .i64 0)), (.v (.slice none 0 0))]] 0) h1 fun i2 h3 =>
  okV (aLoad Tryd.prog h3 48 (.ptr i0 0 0 0)) fun v4 =>
  callR Tryd.prog G 44 [v4] h3 (fun v5 h6 =>
  okInt .i64 (some v5) fun n7 =>
  condB (n7 != 0)
  (storeR Tryd.prog h6 (fun v8 h9 =>
  okV (aLoad Tryd.prog h9 45 (.ptr i2 0 0 0)) fun v10 =>
  RetR h K (.tup [v10, (.v (.int .i64 70))]) h9) 45 (.agg [(.v (.int .i64 0)), (.v (.slice none 0 0))]) (.ptr i2 0 0 0))
  (okBool (aLoad Tryd.prog h6 4 (.ptr i0 0 0 5)) fun b11 =>
  condB (!b11)
  (storeR Tryd.prog h6 (fun v12 h13 =>
  okV (aLoad Tryd.prog h13 45 (.ptr i2 0 0 0)) fun v14 =>
  RetR h K (.tup [v14, (.v (.int .i64 1))]) h13) 45 (.agg [(.v (.int .i64 0)), (.v (.slice none 0 0))]) (.ptr i2 0 0 0))
  (okV (aLoad Tryd.prog h6 45 (.ptr i0 0 0 2)) fun v15 =>
  storeR Tryd.prog h6 (fun v16 h17 =>
  okV (aLoad Tryd.prog h17 45 (.ptr i2 0 0 0)) fun v18 =>
  RetR h K (.tup [v18, (.v (.int .i64 0))]) h17) 45 v15 (.ptr i2 0 0 0)))))
theorem Tryd.c40 (G : Nat → Option AV) (a0 : AV) (h : AH) (K : AV → AH → Prop) (hk : LowH h.length h → Tryd.r40 G a0 h K) : SCall Tryd.prog G 40 [a0] h K :=
  scall_of_rwp Tryd.tab40 [] Tryd.func40 rfl Tryd.ntmps40 (by kernel_rfl) (by show 1 ≤ 16; decide) (by kernel_rfl) (by kernel_rfl) hk
-- 41 (skylark/skylarkref07.Change).End
def Tryd.r41 (G : Nat → Option AV) (a0 : AV) (h : AH) (K : AV → AH → Prop) : Prop :=
  onlyB (AV.one a0) (newO (.cells 50 (AV.cells a0).length [AV.cells a0] 0) h fun i0 h1 =>
  newO (.cells 45 2 [[(.v (.int .i64 0)), (.v (.slice none 0 0))]] 0) h1 fun i2 h3 =>
  okV (aLoad Tryd.prog h3 50 (.ptr i0 0 0 0)) fun v4 =>
  callR Tryd.prog G 45 [v4] h3 (fun v5 h6 =>
  okBool (some v5) fun b7 =>
  condB (!b7)
  (storeR Tryd.prog h6 (fun v8 h9 =>
  okV (aLoad Tryd.prog h9 45 (.ptr i2 0 0 0)) fun v10 =>
  RetR h K (.tup [v10, (.v (.int .i64 70))]) h9) 45 (.agg [(.v (.int .i64 0)), (.v (.slice none 0 0))]) (.ptr i2 0 0 0))
  (okBool (aLoad Tryd.prog h6 4 (.ptr i0 0 0 5)) fun b11 =>
  condB (!b11)
  (storeR Tryd.prog h6 (fun v12 h13 =>
  okV (aLoad Tryd.prog h13 45 (.ptr i2 0 0 0)) fun v14 =>
  RetR h K (.tup [v14, (.v (.int .i64 1))]) h13) 45 (.agg [(.v (.int .i64 0)), (.v (.slice none 0 0))]) (.ptr i2 0 0 0))
  (okV (aLoad Tryd.prog h6 45 (.ptr i0 0 0 2)) fun v15 =>
  storeR Tryd.prog h6 (fun v16 h17 =>
  okV (aLoad Tryd.prog h17 45 (.ptr i2 0 0 0)) fun v18 =>
  RetR h K (.tup [v18, (.v (.int .i64 0))]) h17) 45 v15 (.ptr i2 0 0 0)))))
theorem Tryd.c41 (G : Nat → Option AV) (a0 : AV) (h : AH) (K : AV → AH → Prop) (hk : LowH h.length h → Tryd.r41 G a0 h K) : SCall Tryd.prog G 41 [a0] h K :=
  scall_of_rwp Tryd.tab41 [] Tryd.func41 rfl Tryd.ntmps41 (by kernel_rfl) (by show 1 ≤ 14; decide) (by kernel_rfl) (by kernel_rfl) hk
-- 42 skylark/layout.Check
def Tryd.r42 (G : Nat → Option AV) (a0 : AV) (h : AH) (K : AV → AH → Prop) : Prop :=
  onlyB (AV.one a0) (newO (.cells 45 (AV.cells a0).length [AV.cells a0] 0) h fun i0 h1 =>
  okInt .i64 (aLoad Tryd.prog h1 3 (.ptr i0 0 0 0)) fun n2 =>
  rGq (decide (n2 < 1)) false (some (.ptr i0 0 0 0)) fun b3 v4 =>
  rGq b3 false (aLoad Tryd.prog h1 3 v4) fun b5 v6 =>
  rGq b5 false (aBin Tryd.prog .gtr 3 v6 (.v (.int .i64 1073741824))) fun b7 v8 =>
  okBool (pickR (some (.v (.bool b7))) (some (.v (.bool true))) (some v8)) fun b9 =>
  rGq b9 false (some (.ptr i0 0 0 1)) fun b10 v11 =>
  rGq b10 false (aLoad Tryd.prog h1 22 v11) fun b12 v13 =>
  rGe b12 false (fun k14 => callR Tryd.prog G 20 [v13] h1 (fun v15 h16 =>
  k14 v15 h16)) h1 fun b17 v18 h19 =>
  rGq b17 false (aBin Tryd.prog .neq 25 v18 (.v (.int .i64 0))) fun b20 v21 =>
  okBool (pickR (some (.v (.bool b20))) (some (.v (.bool true))) (some v21)) fun b22 =>
  condB b22
  (RetR h K (.v (.int .i64 70)) h19)
  (RetR h K (.v (.int .i64 0)) h19))
theorem Tryd.c42 (G : Nat → Option AV) (a0 : AV) (h : AH) (K : AV → AH → Prop) (hk : LowH h.length h → Tryd.r42 G a0 h K) : SCall Tryd.prog G 42 [a0] h K :=
  scall_of_rwp Tryd.tab42 [] Tryd.func42 rfl Tryd.ntmps42 (by kernel_rfl) (by show 1 ≤ 17; decide) (by kernel_rfl) (by kernel_rfl) hk
-- 43 skylark/skylarkref07.Check
def Tryd.r43 (G : Nat → Option AV) (a0 : AV) (h : AH) (K : AV → AH → Prop) : Prop :=
  onlyB (AV.one a0) (newO (.cells 45 (AV.cells a0).length [AV.cells a0] 0) h fun i0 h1 =>
  okV (aLoad Tryd.prog h1 45 (.ptr i0 0 0 0)) fun v2 =>
  callR Tryd.prog G 85 [v2] h1 (fun v3 h4 =>
  okBool (some v3) fun b5 =>
  condB (!b5)
  (RetR h K (.v (.int .i64 70)) h4)
  (RetR h K (.v (.int .i64 0)) h4)))
theorem Tryd.c43 (G : Nat → Option AV) (a0 : AV) (h : AH) (K : AV → AH → Prop) (hk : LowH h.length h → Tryd.r43 G a0 h K) : SCall Tryd.prog G 43 [a0] h K :=
  scall_of_rwp Tryd.tab43 [] Tryd.func43 rfl Tryd.ntmps43 (by kernel_rfl) (by show 1 ≤ 6; decide) (by kernel_rfl) (by kernel_rfl) hk
-- 44 (skylark/layout.Change).Check
def Tryd.r44 (G : Nat → Option AV) (a0 : AV) (h : AH) (K : AV → AH → Prop) : Prop :=
  onlyB (AV.one a0) (newO (.cells 48 (AV.cells a0).length [AV.cells a0] 0) h fun i0 h1 =>
  okStr (aLoad Tryd.prog h1 9 (.ptr i0 0 0 4)) fun s2 =>
  okBool (aLoad Tryd.prog h1 4 (.ptr i0 0 0 5)) fun b3 =>
  newO (.cells 145 2 [[(.v (.string (ByteArray.mk #[]))), (.v (.bool false))]] 0) h1 fun i4 h5 =>
  storeR Tryd.prog h5 (fun v6 h7 =>
  okV (aLoad Tryd.prog h7 45 (.ptr i0 0 0 0)) fun v8 =>
  callR Tryd.prog G 42 [v8] h7 (fun v9 h10 =>
  okInt .i64 (some v9) fun n11 =>
  rGq (n11 != 0) false (some (.ptr i0 0 0 2)) fun b12 v13 =>
  rGq b12 false (aLoad Tryd.prog h10 45 v13) fun b14 v15 =>
  rGe b14 false (fun k16 => callR Tryd.prog G 42 [v15] h10 (fun v17 h18 =>
  k16 v17 h18)) h10 fun b19 v20 h21 =>
  rGq b19 false (aBin Tryd.prog .neq 25 v20 (.v (.int .i64 0))) fun b22 v23 =>
  okBool (pickR (some (.v (.bool b22))) (some (.v (.bool true))) (some v23)) fun b24 =>
  condB b24
  (RetR h K (.v (.int .i64 70)) h21)
  (okInt .i64 (aLoad Tryd.prog h21 3 (.ptr i0 0 0 2)) fun n25 =>
  okInt .i64 (aLoad Tryd.prog h21 3 (.ptr i0 0 0 0)) fun n26 =>
  rGq (n25 != (IntKind.wrap .i64 (n26 + 1))) false (some (.ptr i0 0 0 2)) fun b27 v28 =>
  rGq b27 false (aFA Tryd.prog 45 1 v28) fun b29 v30 =>
  rGq b29 false (aLoad Tryd.prog h21 22 v30) fun b31 v32 =>
  rGq b31 false (aLen Tryd.prog h21 22 v32) fun b33 v34 =>
  rGq b33 false (some (.ptr i0 0 0 0)) fun b35 v36 =>
  rGq b35 false (aFA Tryd.prog 45 1 v36) fun b37 v38 =>
  rGq b37 false (aLoad Tryd.prog h21 22 v38) fun b39 v40 =>
  rGq b39 false (aLen Tryd.prog h21 22 v40) fun b41 v42 =>
  rGq b41 false (aBin Tryd.prog .lss 3 v34 v42) fun b43 v44 =>
  okBool (pickR (some (.v (.bool b43))) (some (.v (.bool true))) (some v44)) fun b45 =>
  condB b45
  (RetR h K (.v (.int .i64 70)) h21)
  (okStr (aLoad Tryd.prog h21 9 (.ptr i4 0 0 0)) fun s46 =>
  rGq (decide (((ByteArray.size s46 : Nat) : Int) > 64)) false (some (.ptr i4 0 0 1)) fun b47 v48 =>
  rGq b47 false (aLoad Tryd.prog h21 4 v48) fun b49 v50 =>
  rGq b49 false (some v50) fun b51 v52 =>
  okG (some v52) true fun b53 g0 =>
  rGq b53 true (aLoad Tryd.prog h21 145 (.ptr i4 0 0 0)) fun b54 v55 =>
  okG (some (g0 b54)) true fun c1 g2 =>
  rGq c1 true (some (.agg [(.v (.string (ByteArray.mk #[]))), (.v (.bool true))])) fun b56 v57 =>
  okG (some (g2 b56)) true fun c3 g4 =>
  rGq c3 true (aBin Tryd.prog .neq 145 v55 v57) fun b58 v59 =>
  rGq b51 false (pickR (some (g4 b58)) (some v59) (some (.v (.bool false)))) fun b60 v61 =>
  okBool (pickR (some (.v (.bool b60))) (some (.v (.bool true))) (some v61)) fun b62 =>
  condB b62
  (RetR h K (.v (.int .i64 70)) h21)
  (RetR h K (.v (.int .i64 0)) h21))))) 145 (.agg [(.v (.string s2)), (.v (.bool b3))]) (.ptr i4 0 0 0))
theorem Tryd.c44 (G : Nat → Option AV) (a0 : AV) (h : AH) (K : AV → AH → Prop) (hk : LowH h.length h → Tryd.r44 G a0 h K) : SCall Tryd.prog G 44 [a0] h K :=
  scall_of_rwp Tryd.tab44 [] Tryd.func44 rfl Tryd.ntmps44 (by kernel_rfl) (by show 1 ≤ 54; decide) (by kernel_rfl) (by kernel_rfl) hk
-- 45 (skylark/skylarkref07.Change).May
def Tryd.r45 (G : Nat → Option AV) (a0 : AV) (h : AH) (K : AV → AH → Prop) : Prop :=
  onlyB (AV.one a0) (newO (.cells 50 (AV.cells a0).length [AV.cells a0] 0) h fun i0 h1 =>
  okV (aLoad Tryd.prog h1 45 (.ptr i0 0 0 0)) fun v2 =>
  callR Tryd.prog G 85 [v2] h1 (fun v3 h4 =>
  okBool (some v3) fun b5 =>
  rGq b5 true (some (.ptr i0 0 0 2)) fun b6 v7 =>
  rGq b6 true (aLoad Tryd.prog h4 45 v7) fun b8 v9 =>
  rGe b8 true (fun k10 => callR Tryd.prog G 85 [v9] h4 (fun v11 h12 =>
  k10 v11 h12)) h4 fun b13 v14 h15 =>
  okBool (pickR (some (.v (.bool b13))) (some v14) (some (.v (.bool false)))) fun b16 =>
  rGq b16 true (some (.ptr i0 0 0 2)) fun b17 v18 =>
  rGq b17 true (aFA Tryd.prog 45 0 v18) fun b19 v20 =>
  rGq b19 true (aLoad Tryd.prog h15 3 v20) fun b21 v22 =>
  rGq b21 true (some (.ptr i0 0 0 0)) fun b23 v24 =>
  rGq b23 true (aFA Tryd.prog 45 0 v24) fun b25 v26 =>
  rGq b25 true (aLoad Tryd.prog h15 3 v26) fun b27 v28 =>
  rGq b27 true (aBin Tryd.prog .add 3 v28 (.v (.int .i64 1))) fun b29 v30 =>
  rGq b29 true (aBin Tryd.prog .eql 3 v22 v30) fun b31 v32 =>
  okBool (pickR (some (.v (.bool b31))) (some v32) (some (.v (.bool false)))) fun b33 =>
  rGq b33 true (some (.ptr i0 0 0 2)) fun b34 v35 =>
  rGq b34 true (aFA Tryd.prog 45 1 v35) fun b36 v37 =>
  rGq b36 true (aLoad Tryd.prog h15 22 v37) fun b38 v39 =>
  rGq b38 true (aLen Tryd.prog h15 22 v39) fun b40 v41 =>
  rGq b40 true (some (.ptr i0 0 0 0)) fun b42 v43 =>
  rGq b42 true (aFA Tryd.prog 45 1 v43) fun b44 v45 =>
  rGq b44 true (aLoad Tryd.prog h15 22 v45) fun b46 v47 =>
  rGq b46 true (aLen Tryd.prog h15 22 v47) fun b48 v49 =>
  rGq b48 true (aBin Tryd.prog .geq 3 v41 v49) fun b50 v51 =>
  okBool (pickR (some (.v (.bool b50))) (some v51) (some (.v (.bool false)))) fun b52 =>
  rGq b52 true (some (.ptr i0 0 0 4)) fun b53 v54 =>
  rGq b53 true (aLoad Tryd.prog h15 9 v54) fun b55 v56 =>
  rGq b55 true (aLen Tryd.prog h15 9 v56) fun b57 v58 =>
  rGq b57 true (aBin Tryd.prog .leq 3 v58 (.v (.int .i64 64))) fun b59 v60 =>
  okBool (pickR (some (.v (.bool b59))) (some v60) (some (.v (.bool false)))) fun b61 =>
  rGq b61 true (some (.ptr i0 0 0 5)) fun b62 v63 =>
  rGq b62 true (aLoad Tryd.prog h15 4 v63) fun b64 v65 =>
  rGq b64 true (some v65) fun b66 v67 =>
  okG (some v67) true fun b68 g0 =>
  rGq b68 true (some (.ptr i0 0 0 4)) fun b69 v70 =>
  okG (some (g0 b69)) true fun c1 g2 =>
  rGq c1 true (aLoad Tryd.prog h15 9 v70) fun b71 v72 =>
  okG (some (g2 b71)) true fun c3 g4 =>
  rGq c3 true (aBin Tryd.prog .neq 9 v72 (.v (.string (ByteArray.mk #[])))) fun b73 v74 =>
  rGq b66 true (pickR (some (g4 b73)) (some v74) (some (.v (.bool false)))) fun b75 v76 =>
  rGq b75 true (aUn .not v76) fun b77 v78 =>
  okBool (pickR (some (.v (.bool b77))) (some v78) (some (.v (.bool false)))) fun b79 =>
  RetR h K (.v (.bool b79)) h15))
theorem Tryd.c45 (G : Nat → Option AV) (a0 : AV) (h : AH) (K : AV → AH → Prop) (hk : LowH h.length h → Tryd.r45 G a0 h K) : SCall Tryd.prog G 45 [a0] h K :=
  scall_of_rwp Tryd.tab45 [] Tryd.func45 rfl Tryd.ntmps45 (by kernel_rfl) (by show 1 ≤ 48; decide) (by kernel_rfl) (by kernel_rfl) hk
-- 46 skylark/skylarkref07.Equal
def Tryd.r46_l4_21 (K : AV → AH → Prop) (h : AH) (i0 : Nat) (i2 : Nat) (h3 : AH) (n34 : Int) : Prop :=
  ∃ (I21 : Nat → List AV → AH → Prop) (m22 : Nat), I21 m22 [(.v (.int .i64 n34))] h3 ∧ ∀ (m23 : Nat) (h24 : AH), h3.length ≤ h24.length → LowH h24.length h24 → ∀ (n25 : Int), I21 m23 [(.v (.int .i64 n25))] h24 →
  okV (aLoad Tryd.prog h24 22 (.ptr i0 0 0 1)) fun v26 =>
  okInt .i64 (aLen Tryd.prog h24 22 v26) fun n27 =>
  condB (decide (n25 < n27))
  (okV (aLoad Tryd.prog h24 22 (.ptr i0 0 0 1)) fun v28 =>
  okV (aIA Tryd.prog h24 22 v28 (.v (.int .i64 n25))) fun v29 =>
  okInt .i64 (aLoad Tryd.prog h24 3 v29) fun n30 =>
  okV (aLoad Tryd.prog h24 22 (.ptr i2 0 0 1)) fun v31 =>
  okV (aIA Tryd.prog h24 22 v31 (.v (.int .i64 n25))) fun v32 =>
  okInt .i64 (aLoad Tryd.prog h24 3 v32) fun n33 =>
  condB (n30 != n33)
  (RetR h K (.v (.bool false)) h24)
  (nextR h3 I21 m23 [some (.ptr i0 0 0 0), some (.ptr i2 0 0 0)] [some (.ptr i0 0 0 0), some (.ptr i2 0 0 0)] [(.v (.int .i64 (IntKind.wrap .i64 (n25 + 1))))] h24))
  (RetR h K (.v (.bool true)) h24)
def Tryd.r46 (a0 a1 : AV) (h : AH) (K : AV → AH → Prop) : Prop :=
  onlyB (AV.one a0) (newO (.cells 45 (AV.cells a0).length [AV.cells a0] 0) h fun i0 h1 =>
  onlyB (AV.one a1) (newO (.cells 45 (AV.cells a1).length [AV.cells a1] 0) h1 fun i2 h3 =>
  okInt .i64 (aLoad Tryd.prog h3 3 (.ptr i0 0 0 0)) fun n4 =>
  okInt .i64 (aLoad Tryd.prog h3 3 (.ptr i2 0 0 0)) fun n5 =>
  rGq (n4 != n5) false (some (.ptr i0 0 0 1)) fun b6 v7 =>
  rGq b6 false (aLoad Tryd.prog h3 22 v7) fun b8 v9 =>
  rGq b8 false (aLen Tryd.prog h3 22 v9) fun b10 v11 =>
  rGq b10 false (some (.ptr i2 0 0 1)) fun b12 v13 =>
  rGq b12 false (aLoad Tryd.prog h3 22 v13) fun b14 v15 =>
  rGq b14 false (aLen Tryd.prog h3 22 v15) fun b16 v17 =>
  rGq b16 false (aBin Tryd.prog .neq 3 v11 v17) fun b18 v19 =>
  okBool (pickR (some (.v (.bool b18))) (some (.v (.bool true))) (some v19)) fun b20 =>
  condB b20
  (RetR h K (.v (.bool false)) h3)
  (Tryd.r46_l4_21 K h i0 i2 h3 0)))
theorem Tryd.c46 (G : Nat → Option AV) (a0 a1 : AV) (h : AH) (K : AV → AH → Prop) (hk : LowH h.length h → Tryd.r46 a0 a1 h K) : SCall Tryd.prog G 46 [a0, a1] h K :=
  scall_of_rwp Tryd.tab46 [(4, [(5, (.int .i64))], [2, 3])] Tryd.func46 rfl Tryd.ntmps46 (by kernel_rfl) (by show 2 ≤ 38; decide) (by kernel_rfl) (by kernel_rfl) hk
-- 47 skylark/layout.Equal
def Tryd.r47 (G : Nat → Option AV) (a0 a1 : AV) (h : AH) (K : AV → AH → Prop) : Prop :=
  onlyB (AV.one a0) (newO (.cells 45 (AV.cells a0).length [AV.cells a0] 0) h fun i0 h1 =>
  onlyB (AV.one a1) (newO (.cells 45 (AV.cells a1).length [AV.cells a1] 0) h1 fun i2 h3 =>
  okInt .i64 (aLoad Tryd.prog h3 3 (.ptr i0 0 0 0)) fun n4 =>
  okInt .i64 (aLoad Tryd.prog h3 3 (.ptr i2 0 0 0)) fun n5 =>
  rGq (n4 == n5) true (some (.ptr i0 0 0 1)) fun b6 v7 =>
  rGq b6 true (aLoad Tryd.prog h3 22 v7) fun b8 v9 =>
  rGq b8 true (some (.ptr i2 0 0 1)) fun b10 v11 =>
  rGq b10 true (aLoad Tryd.prog h3 22 v11) fun b12 v13 =>
  rGe b12 true (fun k14 => callR Tryd.prog G 86 [v9, v13] h3 (fun v15 h16 =>
  k14 v15 h16)) h3 fun b17 v18 h19 =>
  okBool (pickR (some (.v (.bool b17))) (some v18) (some (.v (.bool false)))) fun b20 =>
  RetR h K (.v (.bool b20)) h19))
theorem Tryd.c47 (G : Nat → Option AV) (a0 a1 : AV) (h : AH) (K : AV → AH → Prop) (hk : LowH h.length h → Tryd.r47 G a0 a1 h K) : SCall Tryd.prog G 47 [a0, a1] h K :=
  scall_of_rwp Tryd.tab47 [] Tryd.func47 rfl Tryd.ntmps47 (by kernel_rfl) (by show 2 ≤ 17; decide) (by kernel_rfl) (by kernel_rfl) hk
-- 48 skylark/skylarklaw07.works
def Tryd.r48 (G : Nat → Option AV) (h : AH) (K : AV → AH → Prop) : Prop :=
  newO (.cells 3 1 [[(.v (.int .i64 1))]] 0) h fun i0 h1 =>
  newO (.cells 3 1 [[(.v (.int .i64 0))], [(.v (.int .i64 1))]] 0) h1 fun i2 h3 =>
  newO (.cells 48 6 [[(.v (.int .i64 0)), (.v (.slice none 0 0)), (.v (.int .i64 0)), (.v (.slice none 0 0)), (.v (.string (ByteArray.mk #[]))), (.v (.bool false))]] 0) h3 fun i4 h5 =>
  storeR Tryd.prog h5 (fun v6 h7 =>
  okV (aLoad Tryd.prog h7 48 (.ptr i4 0 0 0)) fun v8 =>
  callR Tryd.prog G 36 [v8, (.v (.string (ByteArray.mk #[97])))] h7 (fun v9 h10 =>
  okInt .i64 (extV 0 v9) fun n11 =>
  okInt .i64 (extV 1 v9) fun n12 =>
  okV (aLoad Tryd.prog h10 48 (.ptr i4 0 0 0)) fun v13 =>
  callR Tryd.prog G 36 [v13, (.v (.string (ByteArray.mk #[122])))] h10 (fun v14 h15 =>
  okInt .i64 (extV 0 v14) fun n16 =>
  okInt .i64 (extV 1 v14) fun n17 =>
  storeR Tryd.prog h15 (fun v18 h19 =>
  storeR Tryd.prog h19 (fun v20 h21 =>
  okV (aLoad Tryd.prog h21 48 (.ptr i4 0 0 0)) fun v22 =>
  callR Tryd.prog G 40 [v22] h21 (fun v23 h24 =>
  okV (extV 0 v23) fun v25 =>
  okInt .i64 (extV 1 v23) fun n26 =>
  newO (.cells 45 2 [[(.v (.int .i64 0)), (.v (.slice none 0 0))]] 0) h24 fun i27 h28 =>
  storeR Tryd.prog h28 (fun v29 h30 =>
  rGq (n11 == 1) true (some (.v (.int .i64 n12))) fun b31 v32 =>
  rGq b31 true (aBin Tryd.prog .eql 25 v32 (.v (.int .i64 0))) fun b33 v34 =>
  okBool (pickR (some (.v (.bool b33))) (some v34) (some (.v (.bool false)))) fun b35 =>
  rGq b35 true (some (.v (.int .i64 n16))) fun b36 v37 =>
  rGq b36 true (aBin Tryd.prog .eql 3 v37 (.v (.int .i64 0))) fun b38 v39 =>
  okBool (pickR (some (.v (.bool b38))) (some v39) (some (.v (.bool false)))) fun b40 =>
  rGq b40 true (some (.v (.int .i64 n17))) fun b41 v42 =>
  rGq b41 true (aBin Tryd.prog .eql 25 v42 (.v (.int .i64 0))) fun b43 v44 =>
  okBool (pickR (some (.v (.bool b43))) (some v44) (some (.v (.bool false)))) fun b45 =>
  rGq b45 true (some (.v (.int .i64 n26))) fun b46 v47 =>
  rGq b46 true (aBin Tryd.prog .eql 25 v47 (.v (.int .i64 0))) fun b48 v49 =>
  okBool (pickR (some (.v (.bool b48))) (some v49) (some (.v (.bool false)))) fun b50 =>
  rGq b50 true (some (.ptr i27 0 0 0)) fun b51 v52 =>
  rGq b51 true (aLoad Tryd.prog h30 3 v52) fun b53 v54 =>
  rGq b53 true (aBin Tryd.prog .eql 3 v54 (.v (.int .i64 2))) fun b55 v56 =>
  okBool (pickR (some (.v (.bool b55))) (some v56) (some (.v (.bool false)))) fun b57 =>
  rGq b57 true (aLoad Tryd.prog h30 45 (.ptr i27 0 0 0)) fun b58 v59 =>
  rGq b58 true (some (.ptr i4 0 0 2)) fun b60 v61 =>
  rGq b60 true (aLoad Tryd.prog h30 45 v61) fun b62 v63 =>
  rGe b62 true (fun k64 => callR Tryd.prog G 47 [v59, v63] h30 (fun v65 h66 =>
  k64 v65 h66)) h30 fun b67 v68 h69 =>
  okBool (pickR (some (.v (.bool b67))) (some v68) (some (.v (.bool false)))) fun b70 =>
  RetR h K (.v (.bool b70)) h69) 45 v25 (.ptr i27 0 0 0))) 4 (.v (.bool true)) (.ptr i4 0 0 5)) 9 (.v (.string (ByteArray.mk #[]))) (.ptr i4 0 0 4)))) 48 (.agg [(.v (.int .i64 1)), (.sl i0 0 0 1 none), (.v (.int .i64 2)), (.sl i2 0 0 2 none), (.v (.string (ByteArray.mk #[109]))), (.v (.bool false))]) (.ptr i4 0 0 0)
theorem Tryd.c48 (G : Nat → Option AV) (h : AH) (K : AV → AH → Prop) (hk : LowH h.length h → Tryd.r48 G h K) : SCall Tryd.prog G 48 [] h K :=
  scall_of_rwp Tryd.tab48 [] Tryd.func48 rfl Tryd.ntmps48 (by kernel_rfl) (by show 0 ≤ 59; decide) (by kernel_rfl) (by kernel_rfl) hk
-- 61 skylark/admin.New
def Tryd.r61 (G : Nat → Option AV) (a0 : AV) (h : AH) (K : AV → AH → Prop) : Prop :=
  okInt .i64 (some a0) fun n0 =>
  rGq (decide (n0 < 1)) false (some a0) fun b1 v2 =>
  rGq b1 false (aBin Tryd.prog .gtr 3 v2 (.v (.int .i64 16))) fun b3 v4 =>
  okBool (pickR (some (.v (.bool b3))) (some (.v (.bool true))) (some v4)) fun b5 =>
  condB b5
  (RetR h K (.tup [(.v (.pointer none)), (.v (.int .i64 1))]) h)
  (newO (.cells 170 2 [[(.v (.int .i64 0)), (.v (.int .i64 (-1)))]] 0) h fun i6 h7 =>
  okInt .i64 (some a0) fun n8 =>
  callR Tryd.prog G 100 [(.sl i6 0 0 1 none), (.v (.int .i64 n8))] h7 (fun v9 h10 =>
  okV (aBuild Tryd.prog 173 [(0, some v9)]) fun v11 =>
  onlyB (AV.one v11) (newO (.cells 173 (AV.cells v11).length [AV.cells v11] 0) h10 fun i12 h13 =>
  RetR h K (.tup [(.ptr i12 0 0 0), (.v (.int .i64 0))]) h13)))
theorem Tryd.c61 (G : Nat → Option AV) (a0 : AV) (h : AH) (K : AV → AH → Prop) (hk : LowH h.length h → Tryd.r61 G a0 h K) : SCall Tryd.prog G 61 [a0] h K :=
  scall_of_rwp Tryd.tab61 [] Tryd.func61 rfl Tryd.ntmps61 (by kernel_rfl) (by show 1 ≤ 16; decide) (by kernel_rfl) (by kernel_rfl) hk
-- 62 (*skylark/admin.Admin).Do
def Tryd.r62 (G : Nat → Option AV) (a0 a1 : AV) (h : AH) (K : AV → AH → Prop) : Prop :=
  onlyB (AV.one a1) (newO (.cells 96 (AV.cells a1).length [AV.cells a1] 0) h fun i0 h1 =>
  callR Tryd.prog G 101 [] h1 (fun v2 h3 =>
  okInt .i64 (aLoad Tryd.prog h3 3 (.ptr i0 0 0 0)) fun n4 =>
  rGq (decide (n4 < 1)) false (some (.ptr i0 0 0 0)) fun b5 v6 =>
  rGq b5 false (aLoad Tryd.prog h3 3 v6) fun b7 v8 =>
  rGq b7 false (some v2) fun b9 v10 =>
  rGq b9 false (aLen Tryd.prog h3 174 v10) fun b11 v12 =>
  rGq b11 false (aBin Tryd.prog .gtr 3 v8 v12) fun b13 v14 =>
  okBool (pickR (some (.v (.bool b13))) (some (.v (.bool true))) (some v14)) fun b15 =>
  rGq b15 false (some v2) fun b16 v17 =>
  rGq b16 false (some (.ptr i0 0 0 0)) fun b18 v19 =>
  rGq b18 false (aLoad Tryd.prog h3 3 v19) fun b20 v21 =>
  rGq b20 false (aBin Tryd.prog .sub 3 v21 (.v (.int .i64 1))) fun b22 v23 =>
  rGq b22 false (aIA Tryd.prog h3 174 v17 v23) fun b24 v25 =>
  rGq b24 false (aLoad Tryd.prog h3 178 v25) fun b26 v27 =>
  rGq b26 false (aLoad Tryd.prog h3 96 (.ptr i0 0 0 0)) fun b28 v29 =>
  rGe b28 false (fun k30 => callR Tryd.prog G 102 [v27, v29] h3 (fun v31 h32 =>
  k30 v31 h32)) h3 fun b33 v34 h35 =>
  rGq b33 false (aUn .not v34) fun b36 v37 =>
  okBool (pickR (some (.v (.bool b36))) (some (.v (.bool true))) (some v37)) fun b38 =>
  condB b38
  (RetR h K (.v (.int .i64 80)) h35)
  (okInt .i64 (aLoad Tryd.prog h35 3 (.ptr i0 0 0 0)) fun n39 =>
  okV (aIA Tryd.prog h35 174 v2 (.v (.int .i64 (IntKind.wrap .i64 (n39 - 1))))) fun v40 =>
  okV (aFA Tryd.prog 178 5 v40) fun v41 =>
  okV (aLoad Tryd.prog h35 176 v41) fun v42 =>
  okV (aLoad Tryd.prog h35 96 (.ptr i0 0 0 0)) fun v43 =>
  callU Tryd.prog G h35 (fun v44 h45 =>
  okInt .i64 (some v44) fun n46 =>
  RetR h K (.v (.int .i64 n46)) h45) [a0, v43] v42)))
theorem Tryd.c62 (G : Nat → Option AV) (a0 a1 : AV) (h : AH) (K : AV → AH → Prop) (hk : LowH h.length h → Tryd.r62 G a0 a1 h K) : SCall Tryd.prog G 62 [a0, a1] h K :=
  scall_of_rwp Tryd.tab62 [] Tryd.func62 rfl Tryd.ntmps62 (by kernel_rfl) (by show 2 ≤ 38; decide) (by kernel_rfl) (by kernel_rfl) hk
-- 63 (*skylark/admin.Admin).Chains
def Tryd.r63_l3_4 (K : AV → AH → Prop) (h : AH) (G : Nat → Option AV) (v2 : AV) (n3 : Int) (v29 : AV) (n30 : Int) : Prop :=
  ∃ (I4 : Nat → List AV → AH → Prop) (m5 : Nat), I4 m5 [v29, (.v (.int .i64 n30))] h ∧ ∀ (m6 : Nat) (h7 : AH), h.length ≤ h7.length → LowH h7.length h7 → ∀ (v8 : AV) (n9 : Int), I4 m6 [v8, (.v (.int .i64 n9))] h7 →
  condB (decide (n9 < n3))
  (okV (aIA Tryd.prog h7 97 v2 (.v (.int .i64 n9))) fun v10 =>
  okV (aLoad Tryd.prog h7 105 v10) fun v11 =>
  newO (.cells 105 3 [[(.v (.int .i64 0)), (.v (.slice none 0 0)), (.v (.slice none 0 0))]] 0) h7 fun i12 h13 =>
  storeR Tryd.prog h13 (fun v14 h15 =>
  okInt .i64 (aLoad Tryd.prog h15 3 (.ptr i12 0 0 0)) fun n16 =>
  okV (aLoad Tryd.prog h15 22 (.ptr i12 0 0 1)) fun v17 =>
  okV (aLoad Tryd.prog h15 22 (.ptr i12 0 0 2)) fun v18 =>
  callR Tryd.prog G 90 [v17] h15 (fun v19 h20 =>
  (aLoad Tryd.prog h20 22 (.ptr i12 0 0 2) = some v18) ∧ (aLoad Tryd.prog h20 3 (.ptr i12 0 0 0) = some (.v (.int .i64 n16))) ∧ callR Tryd.prog G 90 [v18] h20 (fun v21 h22 =>
  (aLoad Tryd.prog h22 3 (.ptr i12 0 0 0) = some (.v (.int .i64 n16))) ∧ okV (aBuild Tryd.prog 105 [(0, some (.v (.int .i64 n16))), (1, some v19), (2, some v21)]) fun v23 =>
  okP (rowsFill 3 (List.replicate 1 [(.v (.int .i64 0)), (.v (.slice none 0 0)), (.v (.slice none 0 0))]) [(0, some v23)]) fun r24 => newO (.cells 105 3 r24 0) h22 fun i25 h26 =>
  appR Tryd.prog h26 97 97 v8 (.sl i25 0 0 1 none) (fun v27 h28 =>
  nextR h I4 m6 [some v2, some (.v (.int .i64 n3))] [some v2, some (.v (.int .i64 n3))] [v27, (.v (.int .i64 (IntKind.wrap .i64 (n9 + 1))))] h28)))) 105 v11 (.ptr i12 0 0 0))
  (RetR h K v8 h7)
def Tryd.r63 (G : Nat → Option AV) (a0 : AV) (h : AH) (K : AV → AH → Prop) : Prop :=
  okV (aNil a0) fun v0 =>
  okV (aFA Tryd.prog 173 1 v0) fun v1 =>
  okV (aLoad Tryd.prog h 97 v1) fun v2 =>
  okInt .i64 (aLen Tryd.prog h 97 v2) fun n3 =>
  Tryd.r63_l3_4 K h G v2 n3 (.v (.slice none 0 0)) 0
theorem Tryd.c63 (G : Nat → Option AV) (a0 : AV) (h : AH) (K : AV → AH → Prop) (hk : LowH h.length h → Tryd.r63 G a0 h K) : SCall Tryd.prog G 63 [a0] h K :=
  scall_of_rwp Tryd.tab63 [(3, [(3, .any), (11, (.int .i64))], [9, 10])] Tryd.func63 rfl Tryd.ntmps63 (by kernel_rfl) (by show 1 ≤ 29; decide) (by kernel_rfl) (by kernel_rfl) hk
-- 64 (*skylark/admin.Admin).Change
def Tryd.r64 (G : Nat → Option AV) (a0 : AV) (h : AH) (K : AV → AH → Prop) : Prop :=
  newO (.cells 48 6 [[(.v (.int .i64 0)), (.v (.slice none 0 0)), (.v (.int .i64 0)), (.v (.slice none 0 0)), (.v (.string (ByteArray.mk #[]))), (.v (.bool false))]] 0) h fun i0 h1 =>
  okV (aNil a0) fun v2 =>
  okV (aFA Tryd.prog 173 3 v2) fun v3 =>
  okV (aLoad Tryd.prog h1 171 v3) fun v4 =>
  okBool (aBin Tryd.prog .eql 171 v4 (.v (.pointer none))) fun b5 =>
  condB b5
  (storeR Tryd.prog h1 (fun v6 h7 =>
  okV (aLoad Tryd.prog h7 48 (.ptr i0 0 0 0)) fun v8 =>
  RetR h K (.tup [v8, (.v (.bool false))]) h7) 48 (.agg [(.v (.int .i64 0)), (.v (.slice none 0 0)), (.v (.int .i64 0)), (.v (.slice none 0 0)), (.v (.string (ByteArray.mk #[]))), (.v (.bool false))]) (.ptr i0 0 0 0))
  (okV (aNil a0) fun v9 =>
  okV (aFA Tryd.prog 173 3 v9) fun v10 =>
  okV (aLoad Tryd.prog h1 171 v10) fun v11 =>
  okV (aNil v11) fun v12 =>
  okV (aLoad Tryd.prog h1 48 v12) fun v13 =>
  newO (.cells 48 6 [[(.v (.int .i64 0)), (.v (.slice none 0 0)), (.v (.int .i64 0)), (.v (.slice none 0 0)), (.v (.string (ByteArray.mk #[]))), (.v (.bool false))]] 0) h1 fun i14 h15 =>
  storeR Tryd.prog h15 (fun v16 h17 =>
  okV (aLoad Tryd.prog h17 45 (.ptr i14 0 0 0)) fun v18 =>
  okV (aLoad Tryd.prog h17 45 (.ptr i14 0 0 2)) fun v19 =>
  callR Tryd.prog G 103 [v18] h17 (fun v20 h21 =>
  (aLoad Tryd.prog h21 45 (.ptr i14 0 0 2) = some v19) ∧ callR Tryd.prog G 103 [v19] h21 (fun v22 h23 =>
  storeR Tryd.prog h23 (fun v24 h25 =>
  storeR Tryd.prog h25 (fun v26 h27 =>
  okV (aLoad Tryd.prog h27 48 (.ptr i14 0 0 0)) fun v28 =>
  storeR Tryd.prog h27 (fun v29 h30 =>
  okV (aLoad Tryd.prog h30 48 (.ptr i0 0 0 0)) fun v31 =>
  RetR h K (.tup [v31, (.v (.bool true))]) h30) 48 v28 (.ptr i0 0 0 0)) 45 v22 (.ptr i14 0 0 2)) 45 v20 (.ptr i14 0 0 0)))) 48 v13 (.ptr i14 0 0 0))
theorem Tryd.c64 (G : Nat → Option AV) (a0 : AV) (h : AH) (K : AV → AH → Prop) (hk : LowH h.length h → Tryd.r64 G a0 h K) : SCall Tryd.prog G 64 [a0] h K :=
  scall_of_rwp Tryd.tab64 [] Tryd.func64 rfl Tryd.ntmps64 (by kernel_rfl) (by show 1 ≤ 26; decide) (by kernel_rfl) (by kernel_rfl) hk
-- 65 (*skylark/admin.Admin).Owner
def Tryd.r65 (G : Nat → Option AV) (a0 a1 : AV) (h : AH) (K : AV → AH → Prop) : Prop :=
  okV (aNil a0) fun v0 =>
  okV (aFA Tryd.prog 173 2 v0) fun v1 =>
  okV (aFA Tryd.prog 45 0 v1) fun v2 =>
  okInt .i64 (aLoad Tryd.prog h 3 v2) fun n3 =>
  condB (n3 == 0)
  (RetR h K (.tup [(.v (.int .i64 0)), (.v (.int .i64 180))]) h)
  (okV (aNil a0) fun v4 =>
  okV (aFA Tryd.prog 173 3 v4) fun v5 =>
  okV (aLoad Tryd.prog h 171 v5) fun v6 =>
  okBool (aBin Tryd.prog .neq 171 v6 (.v (.pointer none))) fun b7 =>
  condB b7
  (okV (aNil a0) fun v8 =>
  okV (aFA Tryd.prog 173 3 v8) fun v9 =>
  okV (aLoad Tryd.prog h 171 v9) fun v10 =>
  okV (aNil v10) fun v11 =>
  okV (aLoad Tryd.prog h 48 v11) fun v12 =>
  okStr (some a1) fun s13 =>
  callR Tryd.prog G 36 [v12, (.v (.string s13))] h (fun v14 h15 =>
  okInt .i64 (extV 0 v14) fun n16 =>
  okInt .i64 (extV 1 v14) fun n17 =>
  RetR h K (.tup [(.v (.int .i64 n16)), (.v (.int .i64 n17))]) h15))
  (okV (aNil a0) fun v18 =>
  okV (aFA Tryd.prog 173 2 v18) fun v19 =>
  okV (aFA Tryd.prog 45 1 v19) fun v20 =>
  okV (aLoad Tryd.prog h 22 v20) fun v21 =>
  okStr (some a1) fun s22 =>
  callR Tryd.prog G 19 [v21, (.v (.string s22))] h (fun v23 h24 =>
  okInt .i64 (extV 0 v23) fun n25 =>
  okInt .i64 (extV 1 v23) fun n26 =>
  RetR h K (.tup [(.v (.int .i64 n25)), (.v (.int .i64 n26))]) h24)))
theorem Tryd.c65 (G : Nat → Option AV) (a0 a1 : AV) (h : AH) (K : AV → AH → Prop) (hk : LowH h.length h → Tryd.r65 G a0 a1 h K) : SCall Tryd.prog G 65 [a0, a1] h K :=
  scall_of_rwp Tryd.tab65 [] Tryd.func65 rfl Tryd.ntmps65 (by kernel_rfl) (by show 2 ≤ 38; decide) (by kernel_rfl) (by kernel_rfl) hk
-- 66 (*skylark/admin.Admin).Layout
def Tryd.r66 (G : Nat → Option AV) (a0 : AV) (h : AH) (K : AV → AH → Prop) : Prop :=
  newO (.cells 45 2 [[(.v (.int .i64 0)), (.v (.slice none 0 0))]] 0) h fun i0 h1 =>
  okV (aNil a0) fun v2 =>
  okV (aFA Tryd.prog 173 2 v2) fun v3 =>
  okV (aLoad Tryd.prog h1 45 v3) fun v4 =>
  okV (aNil a0) fun v5 =>
  okV (aFA Tryd.prog 173 2 v5) fun v6 =>
  okV (aFA Tryd.prog 45 0 v6) fun v7 =>
  okInt .i64 (aLoad Tryd.prog h1 3 v7) fun n8 =>
  callR Tryd.prog G 103 [v4] h1 (fun v9 h10 =>
  (aLoad Tryd.prog h10 3 v7 = some (.v (.int .i64 n8))) ∧ storeR Tryd.prog h10 (fun v11 h12 =>
  (aLoad Tryd.prog h12 3 v7 = some (.v (.int .i64 n8))) ∧ okV (aLoad Tryd.prog h12 45 (.ptr i0 0 0 0)) fun v13 =>
  RetR h K (.tup [v13, (.v (.bool (decide (n8 > 0))))]) h12) 45 v9 (.ptr i0 0 0 0))
theorem Tryd.c66 (G : Nat → Option AV) (a0 : AV) (h : AH) (K : AV → AH → Prop) (hk : LowH h.length h → Tryd.r66 G a0 h K) : SCall Tryd.prog G 66 [a0] h K :=
  scall_of_rwp Tryd.tab66 [] Tryd.func66 rfl Tryd.ntmps66 (by kernel_rfl) (by show 1 ≤ 15; decide) (by kernel_rfl) (by kernel_rfl) hk
-- 67 skylark/skylarklaw18.sameLayout
def Tryd.r67 (G : Nat → Option AV) (a0 a1 : AV) (h : AH) (K : AV → AH → Prop) : Prop :=
  onlyB (AV.one a0) (newO (.cells 45 (AV.cells a0).length [AV.cells a0] 0) h fun i0 h1 =>
  onlyB (AV.one a1) (newO (.cells 45 (AV.cells a1).length [AV.cells a1] 0) h1 fun i2 h3 =>
  okInt .i64 (aLoad Tryd.prog h3 3 (.ptr i0 0 0 0)) fun n4 =>
  okInt .i64 (aLoad Tryd.prog h3 3 (.ptr i2 0 0 0)) fun n5 =>
  rGq (n4 == n5) true (some (.ptr i0 0 0 1)) fun b6 v7 =>
  rGq b6 true (aLoad Tryd.prog h3 22 v7) fun b8 v9 =>
  rGq b8 true (some (.ptr i2 0 0 1)) fun b10 v11 =>
  rGq b10 true (aLoad Tryd.prog h3 22 v11) fun b12 v13 =>
  rGe b12 true (fun k14 => callR Tryd.prog G 24 [v9, v13] h3 (fun v15 h16 =>
  k14 v15 h16)) h3 fun b17 v18 h19 =>
  okBool (pickR (some (.v (.bool b17))) (some v18) (some (.v (.bool false)))) fun b20 =>
  RetR h K (.v (.bool b20)) h19))
theorem Tryd.c67 (G : Nat → Option AV) (a0 a1 : AV) (h : AH) (K : AV → AH → Prop) (hk : LowH h.length h → Tryd.r67 G a0 a1 h K) : SCall Tryd.prog G 67 [a0, a1] h K :=
  scall_of_rwp Tryd.tab67 [] Tryd.func67 rfl Tryd.ntmps67 (by kernel_rfl) (by show 2 ≤ 17; decide) (by kernel_rfl) (by kernel_rfl) hk
-- 68 skylark/admin.Encode
def Tryd.r68_l5_22 (K : AV → AH → Prop) (h : AH) (G : Nat → Option AV) (h19 : AH) (v20 : AV) (n21 : Int) (v38 : AV) (n39 : Int) : Prop :=
  ∃ (I22 : Nat → List AV → AH → Prop) (m23 : Nat), I22 m23 [v38, (.v (.int .i64 n39))] h19 ∧ ∀ (m24 : Nat) (h25 : AH), h19.length ≤ h25.length → LowH h25.length h25 → ∀ (v26 : AV) (n27 : Int), I22 m24 [v26, (.v (.int .i64 n27))] h25 →
  condB (decide (n27 < n21))
  (okV (aIA Tryd.prog h25 22 v20 (.v (.int .i64 n27))) fun v28 =>
  okInt .i64 (aLoad Tryd.prog h25 3 v28) fun n29 =>
  newO (.cells 182 3 [[(.v (.bool false)), (.v (.int .i64 n29)), (.v (.string (ByteArray.mk #[])))]] 0) h25 fun i30 h31 =>
  appR Tryd.prog h31 183 183 v26 (.sl i30 0 0 1 none) (fun v32 h33 =>
  nextR h19 I22 m24 [some v20, some (.v (.int .i64 n21))] [some v20, some (.v (.int .i64 n21))] [v32, (.v (.int .i64 (IntKind.wrap .i64 (n27 + 1))))] h33))
  (callR Tryd.prog G 104 [v26] h25 (fun v34 h35 =>
  okStr (extV 0 v34) fun s36 =>
  okInt .i64 (extV 1 v34) fun n37 =>
  RetR h K (.tup [(.v (.string s36)), (.v (.int .i64 n37))]) h35))
def Tryd.r68 (G : Nat → Option AV) (a0 : AV) (h : AH) (K : AV → AH → Prop) : Prop :=
  onlyB (AV.one a0) (newO (.cells 96 (AV.cells a0).length [AV.cells a0] 0) h fun i0 h1 =>
  okV (aLoad Tryd.prog h1 22 (.ptr i0 0 0 4)) fun v2 =>
  okInt .i64 (aLen Tryd.prog h1 22 v2) fun n3 =>
  rGq (decide (n3 > 16)) false (some (.ptr i0 0 0 5)) fun b4 v5 =>
  rGq b4 false (aLoad Tryd.prog h1 9 v5) fun b6 v7 =>
  rGq b6 false (aLen Tryd.prog h1 9 v7) fun b8 v9 =>
  rGq b8 false (aBin Tryd.prog .gtr 3 v9 (.v (.int .i64 64))) fun b10 v11 =>
  okBool (pickR (some (.v (.bool b10))) (some (.v (.bool true))) (some v11)) fun b12 =>
  condB b12
  (RetR h K (.tup [(.v (.string (ByteArray.mk #[]))), (.v (.int .i64 2))]) h1)
  (okInt .i64 (aLoad Tryd.prog h1 3 (.ptr i0 0 0 0)) fun n13 =>
  okInt .i64 (aLoad Tryd.prog h1 3 (.ptr i0 0 0 1)) fun n14 =>
  okInt .i64 (aLoad Tryd.prog h1 3 (.ptr i0 0 0 2)) fun n15 =>
  okInt .i64 (aLoad Tryd.prog h1 3 (.ptr i0 0 0 3)) fun n16 =>
  okStr (aLoad Tryd.prog h1 9 (.ptr i0 0 0 5)) fun s17 =>
  newO (.cells 182 3 [[(.v (.bool false)), (.v (.int .i64 n13)), (.v (.string (ByteArray.mk #[])))], [(.v (.bool false)), (.v (.int .i64 n14)), (.v (.string (ByteArray.mk #[])))], [(.v (.bool false)), (.v (.int .i64 n15)), (.v (.string (ByteArray.mk #[])))], [(.v (.bool false)), (.v (.int .i64 n16)), (.v (.string (ByteArray.mk #[])))], [(.v (.bool true)), (.v (.int .i64 0)), (.v (.string s17))]] 0) h1 fun i18 h19 =>
  okV (aLoad Tryd.prog h19 22 (.ptr i0 0 0 4)) fun v20 =>
  okInt .i64 (aLen Tryd.prog h19 22 v20) fun n21 =>
  Tryd.r68_l5_22 K h G h19 v20 n21 (.sl i18 0 0 5 none) 0))
theorem Tryd.c68 (G : Nat → Option AV) (a0 : AV) (h : AH) (K : AV → AH → Prop) (hk : LowH h.length h → Tryd.r68 G a0 h K) : SCall Tryd.prog G 68 [a0] h K :=
  scall_of_rwp Tryd.tab68 [(5, [(4, .any), (36, (.int .i64))], [34, 35])] Tryd.func68 rfl Tryd.ntmps68 (by kernel_rfl) (by show 1 ≤ 50; decide) (by kernel_rfl) (by kernel_rfl) hk
-- 69 skylark/admin.Decode
def Tryd.r69_l6_44 (K : AV → AH → Prop) (h : AH) (G : Nat → Option AV) (a0 : AV) (i0 : Nat) (i38 : Nat) (h41 : AH) (v42 : AV) (n43 : Int) (n82 : Int) : Prop :=
  ∃ (I44 : Nat → List AV → AH → Prop) (m45 : Nat), I44 m45 [(.v (.int .i64 n82))] h41 ∧ ∀ (m46 : Nat) (h47 : AH), h41.length ≤ h47.length → LowH h47.length h47 → ∀ (n48 : Int), I44 m46 [(.v (.int .i64 n48))] h47 →
  condB (decide (n48 < n43))
  (okV (aIA Tryd.prog h47 183 v42 (.v (.int .i64 n48))) fun v49 =>
  okV (aLoad Tryd.prog h47 182 v49) fun v50 =>
  newO (.cells 182 3 [[(.v (.bool false)), (.v (.int .i64 0)), (.v (.string (ByteArray.mk #[])))]] 0) h47 fun i51 h52 =>
  storeR Tryd.prog h52 (fun v53 h54 =>
  okV (aLoad Tryd.prog h54 22 (.ptr i38 0 0 4)) fun v55 =>
  okInt .i64 (aLoad Tryd.prog h54 2 (.ptr i51 0 0 1)) fun n56 =>
  newO (.cells 3 1 [[(.v (.int .i64 n56))]] 0) h54 fun i57 h58 =>
  appR Tryd.prog h58 22 22 v55 (.sl i57 0 0 1 none) (fun v59 h60 =>
  storeR Tryd.prog h60 (fun v61 h62 =>
  nextR h41 I44 m46 [some a0, some (.ptr i0 0 0 0), some (.ptr i38 0 0 0), some v42, some (.v (.int .i64 n43))] [some a0, some (.ptr i0 0 0 0), some (.ptr i38 0 0 0), some v42, some (.v (.int .i64 n43))] [(.v (.int .i64 (IntKind.wrap .i64 (n48 + 1))))] h62) 22 v59 (.ptr i38 0 0 4))) 182 v50 (.ptr i51 0 0 0))
  (okV (aLoad Tryd.prog h47 96 (.ptr i38 0 0 0)) fun v63 =>
  callR Tryd.prog G 68 [v63] h47 (fun v64 h65 =>
  okStr (extV 0 v64) fun s66 =>
  okInt .i64 (extV 1 v64) fun n67 =>
  rGq (n67 != 0) false (some (.v (.string s66))) fun b68 v69 =>
  rGq b68 false (some a0) fun b70 v71 =>
  rGq b70 false (aBin Tryd.prog .neq 9 v69 v71) fun b72 v73 =>
  okBool (pickR (some (.v (.bool b72))) (some (.v (.bool true))) (some v73)) fun b74 =>
  condB b74
  (storeR Tryd.prog h65 (fun v75 h76 =>
  okV (aLoad Tryd.prog h76 96 (.ptr i0 0 0 0)) fun v77 =>
  RetR h K (.tup [v77, (.v (.int .i64 80))]) h76) 96 (.agg [(.v (.int .i64 0)), (.v (.int .i64 0)), (.v (.int .i64 0)), (.v (.int .i64 0)), (.v (.slice none 0 0)), (.v (.string (ByteArray.mk #[])))]) (.ptr i0 0 0 0))
  (okV (aLoad Tryd.prog h65 96 (.ptr i38 0 0 0)) fun v78 =>
  storeR Tryd.prog h65 (fun v79 h80 =>
  okV (aLoad Tryd.prog h80 96 (.ptr i0 0 0 0)) fun v81 =>
  RetR h K (.tup [v81, (.v (.int .i64 0))]) h80) 96 v78 (.ptr i0 0 0 0))))
def Tryd.r69 (G : Nat → Option AV) (a0 : AV) (h : AH) (K : AV → AH → Prop) : Prop :=
  newO (.cells 96 6 [[(.v (.int .i64 0)), (.v (.int .i64 0)), (.v (.int .i64 0)), (.v (.int .i64 0)), (.v (.slice none 0 0)), (.v (.string (ByteArray.mk #[])))]] 0) h fun i0 h1 =>
  okStr (some a0) fun s2 =>
  callR Tryd.prog G 105 [(.v (.string s2))] h1 (fun v3 h4 =>
  okV (extV 0 v3) fun v5 =>
  okV (extV 1 v3) fun v6 =>
  newO (.cells 81 2 [[(.v (.int .i64 0)), (.v (.int .i64 0))]] 0) h4 fun i7 h8 =>
  storeR Tryd.prog h8 (fun v9 h10 =>
  okV (aLoad Tryd.prog h10 81 (.ptr i7 0 0 0)) fun v11 =>
  okBool (aBin Tryd.prog .neq 81 v11 (.agg [(.v (.int .i64 0)), (.v (.int .i64 0))])) fun b12 =>
  rGq b12 false (some v5) fun b13 v14 =>
  rGq b13 false (aLen Tryd.prog h10 183 v14) fun b15 v16 =>
  rGq b15 false (aBin Tryd.prog .lss 3 v16 (.v (.int .i64 5))) fun b17 v18 =>
  okBool (pickR (some (.v (.bool b17))) (some (.v (.bool true))) (some v18)) fun b19 =>
  condB b19
  (storeR Tryd.prog h10 (fun v20 h21 =>
  okV (aLoad Tryd.prog h21 96 (.ptr i0 0 0 0)) fun v22 =>
  RetR h K (.tup [v22, (.v (.int .i64 80))]) h21) 96 (.agg [(.v (.int .i64 0)), (.v (.int .i64 0)), (.v (.int .i64 0)), (.v (.int .i64 0)), (.v (.slice none 0 0)), (.v (.string (ByteArray.mk #[])))]) (.ptr i0 0 0 0))
  (okV (aIA Tryd.prog h10 183 v5 (.v (.int .i64 0))) fun v23 =>
  okV (aFA Tryd.prog 182 1 v23) fun v24 =>
  okInt .i64 (aLoad Tryd.prog h10 2 v24) fun n25 =>
  okV (aIA Tryd.prog h10 183 v5 (.v (.int .i64 1))) fun v26 =>
  okV (aFA Tryd.prog 182 1 v26) fun v27 =>
  okInt .i64 (aLoad Tryd.prog h10 2 v27) fun n28 =>
  okV (aIA Tryd.prog h10 183 v5 (.v (.int .i64 2))) fun v29 =>
  okV (aFA Tryd.prog 182 1 v29) fun v30 =>
  okInt .i64 (aLoad Tryd.prog h10 2 v30) fun n31 =>
  okV (aIA Tryd.prog h10 183 v5 (.v (.int .i64 3))) fun v32 =>
  okV (aFA Tryd.prog 182 1 v32) fun v33 =>
  okInt .i64 (aLoad Tryd.prog h10 2 v33) fun n34 =>
  okV (aIA Tryd.prog h10 183 v5 (.v (.int .i64 4))) fun v35 =>
  okV (aFA Tryd.prog 182 2 v35) fun v36 =>
  okStr (aLoad Tryd.prog h10 9 v36) fun s37 =>
  newO (.cells 96 6 [[(.v (.int .i64 0)), (.v (.int .i64 0)), (.v (.int .i64 0)), (.v (.int .i64 0)), (.v (.slice none 0 0)), (.v (.string (ByteArray.mk #[])))]] 0) h10 fun i38 h39 =>
  (aLoad Tryd.prog h39 9 v36 = some (.v (.string s37))) ∧ (aIA Tryd.prog h39 183 v5 (.v (.int .i64 4)) = some v35) ∧ (aLoad Tryd.prog h39 2 v33 = some (.v (.int .i64 n34))) ∧ (aIA Tryd.prog h39 183 v5 (.v (.int .i64 3)) = some v32) ∧ (aLoad Tryd.prog h39 2 v30 = some (.v (.int .i64 n31))) ∧ (aIA Tryd.prog h39 183 v5 (.v (.int .i64 2)) = some v29) ∧ (aLoad Tryd.prog h39 2 v27 = some (.v (.int .i64 n28))) ∧ (aIA Tryd.prog h39 183 v5 (.v (.int .i64 1)) = some v26) ∧ (aLoad Tryd.prog h39 2 v24 = some (.v (.int .i64 n25))) ∧ (aIA Tryd.prog h39 183 v5 (.v (.int .i64 0)) = some v23) ∧ storeR Tryd.prog h39 (fun v40 h41 =>
  okV (aSlice Tryd.prog h41 183 v5 (some (some (.v (.int .i64 5)))) none none) fun v42 =>
  okInt .i64 (aLen Tryd.prog h41 183 v42) fun n43 =>
  Tryd.r69_l6_44 K h G a0 i0 i38 h41 v42 n43 0) 96 (.agg [(.v (.int .i64 n25)), (.v (.int .i64 n28)), (.v (.int .i64 n31)), (.v (.int .i64 n34)), (.v (.slice none 0 0)), (.v (.string s37))]) (.ptr i38 0 0 0))) 81 v6 (.ptr i7 0 0 0))
theorem Tryd.c69 (G : Nat → Option AV) (a0 : AV) (h : AH) (K : AV → AH → Prop) (hk : LowH h.length h → Tryd.r69 G a0 h K) : SCall Tryd.prog G 69 [a0] h K :=
  scall_of_rwp Tryd.tab69 [(6, [(49, (.int .i64))], [0, 2, 6, 47, 48])] Tryd.func69 rfl Tryd.ntmps69 (by kernel_rfl) (by show 1 ≤ 75; decide) (by kernel_rfl) (by kernel_rfl) hk
-- 70 skylark/skylarklaw18.sameCmd
def Tryd.r70 (G : Nat → Option AV) (a0 a1 : AV) (h : AH) (K : AV → AH → Prop) : Prop :=
  onlyB (AV.one a0) (newO (.cells 96 (AV.cells a0).length [AV.cells a0] 0) h fun i0 h1 =>
  onlyB (AV.one a1) (newO (.cells 96 (AV.cells a1).length [AV.cells a1] 0) h1 fun i2 h3 =>
  okInt .i64 (aLoad Tryd.prog h3 3 (.ptr i0 0 0 0)) fun n4 =>
  okInt .i64 (aLoad Tryd.prog h3 3 (.ptr i2 0 0 0)) fun n5 =>
  rGq (n4 == n5) true (some (.ptr i0 0 0 1)) fun b6 v7 =>
  rGq b6 true (aLoad Tryd.prog h3 3 v7) fun b8 v9 =>
  rGq b8 true (some (.ptr i2 0 0 1)) fun b10 v11 =>
  rGq b10 true (aLoad Tryd.prog h3 3 v11) fun b12 v13 =>
  rGq b12 true (aBin Tryd.prog .eql 3 v9 v13) fun b14 v15 =>
  okBool (pickR (some (.v (.bool b14))) (some v15) (some (.v (.bool false)))) fun b16 =>
  rGq b16 true (some (.ptr i0 0 0 2)) fun b17 v18 =>
  rGq b17 true (aLoad Tryd.prog h3 3 v18) fun b19 v20 =>
  rGq b19 true (some (.ptr i2 0 0 2)) fun b21 v22 =>
  rGq b21 true (aLoad Tryd.prog h3 3 v22) fun b23 v24 =>
  rGq b23 true (aBin Tryd.prog .eql 3 v20 v24) fun b25 v26 =>
  okBool (pickR (some (.v (.bool b25))) (some v26) (some (.v (.bool false)))) fun b27 =>
  rGq b27 true (some (.ptr i0 0 0 3)) fun b28 v29 =>
  rGq b28 true (aLoad Tryd.prog h3 3 v29) fun b30 v31 =>
  rGq b30 true (some (.ptr i2 0 0 3)) fun b32 v33 =>
  rGq b32 true (aLoad Tryd.prog h3 3 v33) fun b34 v35 =>
  rGq b34 true (aBin Tryd.prog .eql 3 v31 v35) fun b36 v37 =>
  okBool (pickR (some (.v (.bool b36))) (some v37) (some (.v (.bool false)))) fun b38 =>
  rGq b38 true (some (.ptr i0 0 0 5)) fun b39 v40 =>
  rGq b39 true (aLoad Tryd.prog h3 9 v40) fun b41 v42 =>
  rGq b41 true (some (.ptr i2 0 0 5)) fun b43 v44 =>
  rGq b43 true (aLoad Tryd.prog h3 9 v44) fun b45 v46 =>
  rGq b45 true (aBin Tryd.prog .eql 9 v42 v46) fun b47 v48 =>
  okBool (pickR (some (.v (.bool b47))) (some v48) (some (.v (.bool false)))) fun b49 =>
  rGq b49 true (some (.ptr i0 0 0 4)) fun b50 v51 =>
  rGq b50 true (aLoad Tryd.prog h3 22 v51) fun b52 v53 =>
  rGq b52 true (some (.ptr i2 0 0 4)) fun b54 v55 =>
  rGq b54 true (aLoad Tryd.prog h3 22 v55) fun b56 v57 =>
  rGe b56 true (fun k58 => callR Tryd.prog G 24 [v53, v57] h3 (fun v59 h60 =>
  k58 v59 h60)) h3 fun b61 v62 h63 =>
  okBool (pickR (some (.v (.bool b61))) (some v62) (some (.v (.bool false)))) fun b64 =>
  RetR h K (.v (.bool b64)) h63))
theorem Tryd.c70 (G : Nat → Option AV) (a0 a1 : AV) (h : AH) (K : AV → AH → Prop) (hk : LowH h.length h → Tryd.r70 G a0 a1 h K) : SCall Tryd.prog G 70 [a0, a1] h K :=
  scall_of_rwp Tryd.tab70 [] Tryd.func70 rfl Tryd.ntmps70 (by kernel_rfl) (by show 2 ≤ 45; decide) (by kernel_rfl) (by kernel_rfl) hk
-- 77 skylark/ring.made
def Tryd.r77_l9_12 (G : Nat → Option AV) (a0 : AV) (h1 : AH) (n3 : Int) (I4 : Nat → List AV → AH → Prop) (m6 : Nat) (h7 : AH) (n9 : Int) (n11 : Int) (v33 : AV) (n34 : Int) : Prop :=
  ∃ (I12 : Nat → List AV → AH → Prop) (m13 : Nat), I12 m13 [v33, (.v (.int .i64 n34))] h7 ∧ ∀ (m14 : Nat) (h15 : AH), h7.length ≤ h15.length → LowH h15.length h15 → ∀ (v16 : AV) (n17 : Int), I12 m14 [v16, (.v (.int .i64 n17))] h15 →
  condB (decide (n17 < n11))
  (callR Tryd.prog G 114 [(.v (.int .i64 n9))] h15 (fun v18 h19 =>
  okStr (some v18) fun s20 =>
  okStr (aBin Tryd.prog .add 9 (.v (.string s20)) (.v (.string (ByteArray.mk #[46])))) fun s21 =>
  callR Tryd.prog G 114 [(.v (.int .i64 n17))] h19 (fun v22 h23 =>
  okStr (some v22) fun s24 =>
  okStr (aBin Tryd.prog .add 9 (.v (.string s21)) (.v (.string s24))) fun s25 =>
  callR Tryd.prog G 25 [(.v (.string s25))] h23 (fun v26 h27 =>
  okInt .u64 (some v26) fun n28 =>
  newO (.cells 134 3 [[(.v (.int .u64 n28)), (.v (.int .i64 n9)), (.v (.int .i64 n17))]] 0) h27 fun i29 h30 =>
  appR Tryd.prog h30 128 128 v16 (.sl i29 0 0 1 none) (fun v31 h32 =>
  nextR h7 I12 m14 [some (.v (.int .i64 n9)), some a0, some (.v (.int .i64 n3)), some (.v (.int .i64 n9)), some (.v (.int .i64 n11))] [some (.v (.int .i64 n9)), some a0, some (.v (.int .i64 n3)), some (.v (.int .i64 n9)), some (.v (.int .i64 n11))] [v31, (.v (.int .i64 (IntKind.wrap .i64 (n17 + 1))))] h32)))))
  (nextR h1 I4 m6 [some a0, some (.v (.int .i64 n3))] [some a0, some (.v (.int .i64 n3))] [v16, (.v (.int .i64 (IntKind.wrap .i64 (n9 + 1))))] h15)
def Tryd.r77_l6_4 (K : AV → AH → Prop) (h : AH) (G : Nat → Option AV) (a0 : AV) (h1 : AH) (n3 : Int) (v37 : AV) (n38 : Int) : Prop :=
  ∃ (I4 : Nat → List AV → AH → Prop) (m5 : Nat), I4 m5 [v37, (.v (.int .i64 n38))] h1 ∧ ∀ (m6 : Nat) (h7 : AH), h1.length ≤ h7.length → LowH h7.length h7 → ∀ (v8 : AV) (n9 : Int), I4 m6 [v8, (.v (.int .i64 n9))] h7 →
  condB (decide (n9 < n3))
  (okV (aIA Tryd.prog h7 22 a0 (.v (.int .i64 n9))) fun v10 =>
  okInt .i64 (aLoad Tryd.prog h7 3 v10) fun n11 =>
  Tryd.r77_l9_12 G a0 h1 n3 I4 m6 h7 n9 n11 v8 0)
  (callR Tryd.prog G 115 [v8, (.fn (.func 116) [] [])] h7 (fun v35 h36 =>
  RetR h K (.tup [v8, (.v (.int .i64 0))]) h36))
def Tryd.r77 (G : Nat → Option AV) (a0 : AV) (h : AH) (K : AV → AH → Prop) : Prop :=
  callR Tryd.prog G 20 [a0] h (fun v0 h1 =>
  okInt .i64 (some v0) fun n2 =>
  condB (n2 != 0)
  (RetR h K (.tup [(.v (.slice none 0 0)), (.v (.int .i64 n2))]) h1)
  (okInt .i64 (aLen Tryd.prog h1 22 a0) fun n3 =>
  Tryd.r77_l6_4 K h G a0 h1 n3 (.v (.slice none 0 0)) 0))
theorem Tryd.c77 (G : Nat → Option AV) (a0 : AV) (h : AH) (K : AV → AH → Prop) (hk : LowH h.length h → Tryd.r77 G a0 h K) : SCall Tryd.prog G 77 [a0] h K :=
  scall_of_rwp Tryd.tab77 [(6, [(5, .any), (17, (.int .i64))], [15, 16]), (9, [(5, .any), (23, (.int .i64))], [6, 15, 16, 17, 22])] Tryd.func77 rfl Tryd.ntmps77 (by kernel_rfl) (by show 1 ≤ 46; decide) (by kernel_rfl) (by kernel_rfl) hk
-- 78 (skylark/ring.ring).of
def Tryd.r78 (G : Nat → Option AV) (a0 a1 : AV) (h : AH) (K : AV → AH → Prop) : Prop :=
  okStr (some a1) fun s0 =>
  callR Tryd.prog G 25 [(.v (.string s0))] h (fun v1 h2 =>
  okInt .u64 (some v1) fun n3 =>
  callR Tryd.prog G 117 [a0, (.v (.int .u64 n3)), (.fn (.func 118) [] [])] h2 (fun v4 h5 =>
  okInt .i64 (extV 0 v4) fun n6 =>
  okBool (extV 1 v4) fun b7 =>
  okInt .i64 (aLen Tryd.prog h5 128 a0) fun n8 =>
  okInt .i64 (aBin Tryd.prog .rem 3 (.v (.int .i64 n6)) (.v (.int .i64 n8))) fun n9 =>
  okV (aIA Tryd.prog h5 128 a0 (.v (.int .i64 n9))) fun v10 =>
  okV (aFA Tryd.prog 134 1 v10) fun v11 =>
  okInt .i64 (aLoad Tryd.prog h5 3 v11) fun n12 =>
  RetR h K (.v (.int .i64 n12)) h5))
theorem Tryd.c78 (G : Nat → Option AV) (a0 a1 : AV) (h : AH) (K : AV → AH → Prop) (hk : LowH h.length h → Tryd.r78 G a0 a1 h K) : SCall Tryd.prog G 78 [a0, a1] h K :=
  scall_of_rwp Tryd.tab78 [] Tryd.func78 rfl Tryd.ntmps78 (by kernel_rfl) (by show 2 ≤ 24; decide) (by kernel_rfl) (by kernel_rfl) hk
-- 79 slices.Min[[]int,int]
def Tryd.r79_l5_3 (K : AV → AH → Prop) (h : AH) (a0 : AV) (h0 : AH) (n13 : Int) (n14 : Int) : Prop :=
  ∃ (I3 : Nat → List AV → AH → Prop) (m4 : Nat), I3 m4 [(.v (.int .i64 n13)), (.v (.int .i64 n14))] h0 ∧ ∀ (m5 : Nat) (h6 : AH), h0.length ≤ h6.length → LowH h6.length h6 → ∀ (n7 : Int) (n8 : Int), I3 m5 [(.v (.int .i64 n7)), (.v (.int .i64 n8))] h6 →
  okInt .i64 (aLen Tryd.prog h6 22 a0) fun n9 =>
  condB (decide (n8 < n9))
  (okV (aIA Tryd.prog h6 22 a0 (.v (.int .i64 n8))) fun v10 =>
  okInt .i64 (aLoad Tryd.prog h6 3 v10) fun n11 =>
  okInt .i64 (aMinMax false [some (.v (.int .i64 n7)), some (.v (.int .i64 n11))]) fun n12 =>
  nextR h0 I3 m5 [some a0] [some a0] [(.v (.int .i64 n12)), (.v (.int .i64 (IntKind.wrap .i64 (n8 + 1))))] h6)
  (RetR h K (.v (.int .i64 n7)) h6)
def Tryd.r79_j1 (h : AH) (K : AV → AH → Prop) (a0 : AV) (h0 : AH) : Prop :=
  okV (aIA Tryd.prog h0 22 a0 (.v (.int .i64 0))) fun v1 =>
  okInt .i64 (aLoad Tryd.prog h0 3 v1) fun n2 =>
  Tryd.r79_l5_3 K h a0 h0 n2 1
def Tryd.r79 (a0 : AV) (h : AH) (K : AV → AH → Prop) : Prop :=
  okInt .i64 (aLen Tryd.prog h 22 a0) fun n15 =>
  condB (decide (n15 < 1))
  (okV (aMkI Tryd.prog 9 (.v (.string (ByteArray.mk #[115, 108, 105, 99, 101, 115, 46, 77, 105, 110, 58, 32, 101, 109, 112, 116, 121, 32, 108, 105, 115, 116])))) fun v16 =>
  False)
  (Tryd.r79_j1 h K a0 h)
theorem Tryd.c79 (G : Nat → Option AV) (a0 : AV) (h : AH) (K : AV → AH → Prop) (hk : LowH h.length h → Tryd.r79 a0 h K) : SCall Tryd.prog G 79 [a0] h K :=
  scall_of_rwp Tryd.tab79 [(5, [(3, (.int .i64)), (4, (.int .i64))], [0])] Tryd.func79 rfl Tryd.ntmps79 (by kernel_rfl) (by show 1 ≤ 25; decide) (by kernel_rfl) (by kernel_rfl) hk
-- 80 slices.Max[[]int,int]
def Tryd.r80_l5_3 (K : AV → AH → Prop) (h : AH) (a0 : AV) (h0 : AH) (n13 : Int) (n14 : Int) : Prop :=
  ∃ (I3 : Nat → List AV → AH → Prop) (m4 : Nat), I3 m4 [(.v (.int .i64 n13)), (.v (.int .i64 n14))] h0 ∧ ∀ (m5 : Nat) (h6 : AH), h0.length ≤ h6.length → LowH h6.length h6 → ∀ (n7 : Int) (n8 : Int), I3 m5 [(.v (.int .i64 n7)), (.v (.int .i64 n8))] h6 →
  okInt .i64 (aLen Tryd.prog h6 22 a0) fun n9 =>
  condB (decide (n8 < n9))
  (okV (aIA Tryd.prog h6 22 a0 (.v (.int .i64 n8))) fun v10 =>
  okInt .i64 (aLoad Tryd.prog h6 3 v10) fun n11 =>
  okInt .i64 (aMinMax true [some (.v (.int .i64 n7)), some (.v (.int .i64 n11))]) fun n12 =>
  nextR h0 I3 m5 [some a0] [some a0] [(.v (.int .i64 n12)), (.v (.int .i64 (IntKind.wrap .i64 (n8 + 1))))] h6)
  (RetR h K (.v (.int .i64 n7)) h6)
def Tryd.r80_j1 (h : AH) (K : AV → AH → Prop) (a0 : AV) (h0 : AH) : Prop :=
  okV (aIA Tryd.prog h0 22 a0 (.v (.int .i64 0))) fun v1 =>
  okInt .i64 (aLoad Tryd.prog h0 3 v1) fun n2 =>
  Tryd.r80_l5_3 K h a0 h0 n2 1
def Tryd.r80 (a0 : AV) (h : AH) (K : AV → AH → Prop) : Prop :=
  okInt .i64 (aLen Tryd.prog h 22 a0) fun n15 =>
  condB (decide (n15 < 1))
  (okV (aMkI Tryd.prog 9 (.v (.string (ByteArray.mk #[115, 108, 105, 99, 101, 115, 46, 77, 97, 120, 58, 32, 101, 109, 112, 116, 121, 32, 108, 105, 115, 116])))) fun v16 =>
  False)
  (Tryd.r80_j1 h K a0 h)
theorem Tryd.c80 (G : Nat → Option AV) (a0 : AV) (h : AH) (K : AV → AH → Prop) (hk : LowH h.length h → Tryd.r80 a0 h K) : SCall Tryd.prog G 80 [a0] h K :=
  scall_of_rwp Tryd.tab80 [(5, [(3, (.int .i64)), (4, (.int .i64))], [0])] Tryd.func80 rfl Tryd.ntmps80 (by kernel_rfl) (by show 1 ≤ 25; decide) (by kernel_rfl) (by kernel_rfl) hk
-- 81 skylark/skylarkref06.May
def Tryd.r81_l5_8 (K : AV → AH → Prop) (h : AH) (a0 : AV) (b39 : Bool) (n40 : Int) : Prop :=
  ∃ (I8 : Nat → List AV → AH → Prop) (m9 : Nat), I8 m9 [(.v (.bool b39)), (.v (.int .i64 n40))] h ∧ ∀ (m10 : Nat) (h11 : AH), h.length ≤ h11.length → LowH h11.length h11 → ∀ (b12 : Bool) (n13 : Int), I8 m10 [(.v (.bool b12)), (.v (.int .i64 n13))] h11 →
  okInt .i64 (aLen Tryd.prog h11 22 a0) fun n14 =>
  condB (decide (n13 < n14))
  (okV (aIA Tryd.prog h11 22 a0 (.v (.int .i64 n13))) fun v15 =>
  okInt .i64 (aLoad Tryd.prog h11 3 v15) fun n16 =>
  rGq (decide (n16 < 0)) false (some a0) fun b17 v18 =>
  rGq b17 false (some (.v (.int .i64 n13))) fun b19 v20 =>
  rGq b19 false (aIA Tryd.prog h11 22 v18 v20) fun b21 v22 =>
  rGq b21 false (aLoad Tryd.prog h11 3 v22) fun b23 v24 =>
  rGq b23 false (aBin Tryd.prog .gtr 3 v24 (.v (.int .i64 128))) fun b25 v26 =>
  okBool (pickR (some (.v (.bool b25))) (some (.v (.bool true))) (some v26)) fun b27 =>
  condB b27
  (RetR h K (.v (.bool false)) h11)
  (rGq b12 false (some a0) fun b28 v29 =>
  rGq b28 false (some (.v (.int .i64 n13))) fun b30 v31 =>
  rGq b30 false (aIA Tryd.prog h11 22 v29 v31) fun b32 v33 =>
  rGq b32 false (aLoad Tryd.prog h11 3 v33) fun b34 v35 =>
  rGq b34 false (aBin Tryd.prog .gtr 3 v35 (.v (.int .i64 0))) fun b36 v37 =>
  okBool (pickR (some (.v (.bool b36))) (some (.v (.bool true))) (some v37)) fun b38 =>
  nextR h I8 m10 [some a0] [some a0] [(.v (.bool b38)), (.v (.int .i64 (IntKind.wrap .i64 (n13 + 1))))] h11))
  (RetR h K (.v (.bool b12)) h11)
def Tryd.r81 (a0 : AV) (h : AH) (K : AV → AH → Prop) : Prop :=
  okInt .i64 (aLen Tryd.prog h 22 a0) fun n0 =>
  rGq (decide (n0 < 1)) false (some a0) fun b1 v2 =>
  rGq b1 false (aLen Tryd.prog h 22 v2) fun b3 v4 =>
  rGq b3 false (aBin Tryd.prog .gtr 3 v4 (.v (.int .i64 8))) fun b5 v6 =>
  okBool (pickR (some (.v (.bool b5))) (some (.v (.bool true))) (some v6)) fun b7 =>
  condB b7
  (RetR h K (.v (.bool false)) h)
  (Tryd.r81_l5_8 K h a0 false 0)
theorem Tryd.c81 (G : Nat → Option AV) (a0 : AV) (h : AH) (K : AV → AH → Prop) (hk : LowH h.length h → Tryd.r81 a0 h K) : SCall Tryd.prog G 81 [a0] h K :=
  scall_of_rwp Tryd.tab81 [(5, [(3, .bool), (4, (.int .i64))], [0])] Tryd.func81 rfl Tryd.ntmps81 (by kernel_rfl) (by show 1 ≤ 40; decide) (by kernel_rfl) (by kernel_rfl) hk
-- 82 skylark/skylarkref06.All
def Tryd.r82_l10_30 (a0 : AV) (h3 : AH) (n5 : Int) (I7 : Nat → List AV → AH → Prop) (m9 : Nat) (v11 : AV) (n12 : Int) (i26 : Nat) (h29 : AH) (n65 : Int) : Prop :=
  ∃ (I30 : Nat → List AV → AH → Prop) (m31 : Nat), I30 m31 [(.v (.int .i64 n65))] h29 ∧ ∀ (m32 : Nat) (h33 : AH), h29.length ≤ h33.length → LowH h33.length h33 → ∀ (n34 : Int), I30 m32 [(.v (.int .i64 n34))] h33 →
  okInt .i64 (aLen Tryd.prog h33 136 v11) fun n35 =>
  rGq (decide (n34 < n35)) true (some v11) fun b36 v37 =>
  rGq b36 true (some (.v (.int .i64 n34))) fun b38 v39 =>
  rGq b38 true (aIA Tryd.prog h33 136 v37 v39) fun b40 v41 =>
  rGq b40 true (aFA Tryd.prog 139 0 v41) fun b42 v43 =>
  rGq b42 true (aLoad Tryd.prog h33 35 v43) fun b44 v45 =>
  rGq b44 true (some (.ptr i26 0 0 0)) fun b46 v47 =>
  rGq b46 true (aLoad Tryd.prog h33 35 v47) fun b48 v49 =>
  rGq b48 true (aBin Tryd.prog .leq 35 v45 v49) fun b50 v51 =>
  okBool (pickR (some (.v (.bool b50))) (some v51) (some (.v (.bool false)))) fun b52 =>
  condB b52
  (nextR h29 I30 m32 [some a0, some v11, some (.v (.int .i64 n5)), some (.v (.int .i64 n12)), some (.ptr i26 0 0 0)] [some a0, some v11, some (.v (.int .i64 n5)), some (.v (.int .i64 n12)), some (.ptr i26 0 0 0)] [(.v (.int .i64 (IntKind.wrap .i64 (n34 + 1))))] h33)
  (okV (aSlice Tryd.prog h33 136 v11 none (some (some (.v (.int .i64 n34)))) none) fun v53 =>
  appR Tryd.prog h33 136 136 (.v (.slice none 0 0)) v53 (fun v54 h55 =>
  okV (aLoad Tryd.prog h55 139 (.ptr i26 0 0 0)) fun v56 =>
  okP (rowsFill 2 (List.replicate 1 [(.v (.int .u64 0)), (.v (.int .i64 0))]) [(0, some v56)]) fun r57 => newO (.cells 139 2 r57 0) h55 fun i58 h59 =>
  appR Tryd.prog h59 136 136 v54 (.sl i58 0 0 1 none) (fun v60 h61 =>
  okV (aSlice Tryd.prog h61 136 v11 (some (some (.v (.int .i64 n34)))) none none) fun v62 =>
  appR Tryd.prog h61 136 136 v60 v62 (fun v63 h64 =>
  nextR h3 I7 m9 [some a0, some (.v (.int .i64 n5))] [some a0, some (.v (.int .i64 n5))] [v63, (.v (.int .i64 (IntKind.wrap .i64 (n12 + 1))))] h64))))
def Tryd.r82_l6_7 (h : AH) (G : Nat → Option AV) (a0 : AV) (I0 : Nat → List AV → AH → Prop) (m2 : Nat) (h3 : AH) (n5 : Int) (v66 : AV) (n67 : Int) : Prop :=
  ∃ (I7 : Nat → List AV → AH → Prop) (m8 : Nat), I7 m8 [v66, (.v (.int .i64 n67))] h3 ∧ ∀ (m9 : Nat) (h10 : AH), h3.length ≤ h10.length → LowH h10.length h10 → ∀ (v11 : AV) (n12 : Int), I7 m9 [v11, (.v (.int .i64 n12))] h10 →
  okV (aIA Tryd.prog h10 22 a0 (.v (.int .i64 n5))) fun v13 =>
  okInt .i64 (aLoad Tryd.prog h10 3 v13) fun n14 =>
  condB (decide (n12 < n14))
  (callR Tryd.prog G 120 [(.v (.int .i64 n5))] h10 (fun v15 h16 =>
  okStr (some v15) fun s17 =>
  okStr (aBin Tryd.prog .add 9 (.v (.string s17)) (.v (.string (ByteArray.mk #[46])))) fun s18 =>
  callR Tryd.prog G 120 [(.v (.int .i64 n12))] h16 (fun v19 h20 =>
  okStr (some v19) fun s21 =>
  okStr (aBin Tryd.prog .add 9 (.v (.string s18)) (.v (.string s21))) fun s22 =>
  callR Tryd.prog G 26 [(.v (.string s22))] h20 (fun v23 h24 =>
  okInt .u64 (some v23) fun n25 =>
  newO (.cells 139 2 [[(.v (.int .u64 0)), (.v (.int .i64 0))]] 0) h24 fun i26 h27 =>
  storeR Tryd.prog h27 (fun v28 h29 =>
  Tryd.r82_l10_30 a0 h3 n5 I7 m9 v11 n12 i26 h29 0) 139 (.agg [(.v (.int .u64 n25)), (.v (.int .i64 n5))]) (.ptr i26 0 0 0)))))
  (nextR h I0 m2 [some a0] [some a0] [v11, (.v (.int .i64 (IntKind.wrap .i64 (n5 + 1))))] h10)
def Tryd.r82_l3_0 (K : AV → AH → Prop) (h : AH) (G : Nat → Option AV) (a0 : AV) (v68 : AV) (n69 : Int) : Prop :=
  ∃ (I0 : Nat → List AV → AH → Prop) (m1 : Nat), I0 m1 [v68, (.v (.int .i64 n69))] h ∧ ∀ (m2 : Nat) (h3 : AH), h.length ≤ h3.length → LowH h3.length h3 → ∀ (v4 : AV) (n5 : Int), I0 m2 [v4, (.v (.int .i64 n5))] h3 →
  okInt .i64 (aLen Tryd.prog h3 22 a0) fun n6 =>
  condB (decide (n5 < n6))
  (Tryd.r82_l6_7 h G a0 I0 m2 h3 n5 v4 0)
  (RetR h K v4 h3)
def Tryd.r82 (G : Nat → Option AV) (a0 : AV) (h : AH) (K : AV → AH → Prop) : Prop :=
  Tryd.r82_l3_0 K h G a0 (.v (.slice none 0 0)) 0
theorem Tryd.c82 (G : Nat → Option AV) (a0 : AV) (h : AH) (K : AV → AH → Prop) (hk : LowH h.length h → Tryd.r82 G a0 h K) : SCall Tryd.prog G 82 [a0] h K :=
  scall_of_rwp Tryd.tab82 [(3, [(3, .any), (4, (.int .i64))], [0]), (6, [(3, .any), (5, (.int .i64))], [0, 4]), (10, [(7, (.int .i64))], [0, 3, 4, 5, 6])] Tryd.func82 rfl Tryd.ntmps82 (by kernel_rfl) (by show 1 ≤ 63; decide) (by kernel_rfl) (by kernel_rfl) hk
-- 83 cmp.Or[skylark/api.Errno]
def Tryd.r83_l3_1 (K : AV → AH → Prop) (h : AH) (a0 : AV) (n0 : Int) (n8 : Int) : Prop :=
  ∃ (I1 : Nat → List AV → AH → Prop) (m2 : Nat), I1 m2 [(.v (.int .i64 n8))] h ∧ ∀ (m3 : Nat) (h4 : AH), h.length ≤ h4.length → LowH h4.length h4 → ∀ (n5 : Int), I1 m3 [(.v (.int .i64 n5))] h4 →
  condB (decide (n5 < n0))
  (okV (aIA Tryd.prog h4 212 a0 (.v (.int .i64 n5))) fun v6 =>
  okInt .i64 (aLoad Tryd.prog h4 25 v6) fun n7 =>
  condB (n7 != 0)
  (RetR h K (.v (.int .i64 n7)) h4)
  (nextR h I1 m3 [some (.v (.int .i64 0)), some a0, some (.v (.int .i64 n0))] [some (.v (.int .i64 0)), some a0, some (.v (.int .i64 n0))] [(.v (.int .i64 (IntKind.wrap .i64 (n5 + 1))))] h4))
  (RetR h K (.v (.int .i64 0)) h4)
def Tryd.r83 (a0 : AV) (h : AH) (K : AV → AH → Prop) : Prop :=
  okInt .i64 (aLen Tryd.prog h 212 a0) fun n0 =>
  Tryd.r83_l3_1 K h a0 n0 0
theorem Tryd.c83 (G : Nat → Option AV) (a0 : AV) (h : AH) (K : AV → AH → Prop) (hk : LowH h.length h → Tryd.r83 a0 h K) : SCall Tryd.prog G 83 [a0] h K :=
  scall_of_rwp Tryd.tab83 [(3, [(8, (.int .i64))], [3, 6, 7])] Tryd.func83 rfl Tryd.ntmps83 (by kernel_rfl) (by show 1 ≤ 18; decide) (by kernel_rfl) (by kernel_rfl) hk
-- 84 skylark/skylarkref06.find
def Tryd.r84_l3_4 (K : AV → AH → Prop) (h : AH) (a0 : AV) (h2 : AH) (n3 : Int) (n19 : Int) : Prop :=
  ∃ (I4 : Nat → List AV → AH → Prop) (m5 : Nat), I4 m5 [(.v (.int .i64 n19))] h2 ∧ ∀ (m6 : Nat) (h7 : AH), h2.length ≤ h7.length → LowH h7.length h7 → ∀ (n8 : Int), I4 m6 [(.v (.int .i64 n8))] h7 →
  okInt .i64 (aLen Tryd.prog h7 136 a0) fun n9 =>
  condB (decide (n8 < n9))
  (okV (aIA Tryd.prog h7 136 a0 (.v (.int .i64 n8))) fun v10 =>
  okV (aFA Tryd.prog 139 0 v10) fun v11 =>
  okInt .u64 (aLoad Tryd.prog h7 35 v11) fun n12 =>
  condB (decide (n12 ≥ n3))
  (okV (aIA Tryd.prog h7 136 a0 (.v (.int .i64 n8))) fun v13 =>
  okV (aFA Tryd.prog 139 1 v13) fun v14 =>
  okInt .i64 (aLoad Tryd.prog h7 3 v14) fun n15 =>
  RetR h K (.v (.int .i64 n15)) h7)
  (nextR h2 I4 m6 [some a0, some (.v (.int .u64 n3))] [some a0, some (.v (.int .u64 n3))] [(.v (.int .i64 (IntKind.wrap .i64 (n8 + 1))))] h7))
  (okV (aIA Tryd.prog h7 136 a0 (.v (.int .i64 0))) fun v16 =>
  okV (aFA Tryd.prog 139 1 v16) fun v17 =>
  okInt .i64 (aLoad Tryd.prog h7 3 v17) fun n18 =>
  RetR h K (.v (.int .i64 n18)) h7)
def Tryd.r84 (G : Nat → Option AV) (a0 a1 : AV) (h : AH) (K : AV → AH → Prop) : Prop :=
  okStr (some a1) fun s0 =>
  callR Tryd.prog G 26 [(.v (.string s0))] h (fun v1 h2 =>
  okInt .u64 (some v1) fun n3 =>
  Tryd.r84_l3_4 K h a0 h2 n3 0)
theorem Tryd.c84 (G : Nat → Option AV) (a0 a1 : AV) (h : AH) (K : AV → AH → Prop) (hk : LowH h.length h → Tryd.r84 G a0 a1 h K) : SCall Tryd.prog G 84 [a0, a1] h K :=
  scall_of_rwp Tryd.tab84 [(3, [(6, (.int .i64))], [0, 5])] Tryd.func84 rfl Tryd.ntmps84 (by kernel_rfl) (by show 2 ≤ 31; decide) (by kernel_rfl) (by kernel_rfl) hk
-- 85 skylark/skylarkref07.May
def Tryd.r85 (G : Nat → Option AV) (a0 : AV) (h : AH) (K : AV → AH → Prop) : Prop :=
  onlyB (AV.one a0) (newO (.cells 45 (AV.cells a0).length [AV.cells a0] 0) h fun i0 h1 =>
  okInt .i64 (aLoad Tryd.prog h1 3 (.ptr i0 0 0 0)) fun n2 =>
  rGq (decide (n2 ≥ 1)) true (some (.ptr i0 0 0 0)) fun b3 v4 =>
  rGq b3 true (aLoad Tryd.prog h1 3 v4) fun b5 v6 =>
  rGq b5 true (aBin Tryd.prog .leq 3 v6 (.v (.int .i64 1073741824))) fun b7 v8 =>
  okBool (pickR (some (.v (.bool b7))) (some v8) (some (.v (.bool false)))) fun b9 =>
  rGq b9 true (some (.ptr i0 0 0 1)) fun b10 v11 =>
  rGq b10 true (aLoad Tryd.prog h1 22 v11) fun b12 v13 =>
  rGe b12 true (fun k14 => callR Tryd.prog G 81 [v13] h1 (fun v15 h16 =>
  k14 v15 h16)) h1 fun b17 v18 h19 =>
  okBool (pickR (some (.v (.bool b17))) (some v18) (some (.v (.bool false)))) fun b20 =>
  RetR h K (.v (.bool b20)) h19)
theorem Tryd.c85 (G : Nat → Option AV) (a0 : AV) (h : AH) (K : AV → AH → Prop) (hk : LowH h.length h → Tryd.r85 G a0 h K) : SCall Tryd.prog G 85 [a0] h K :=
  scall_of_rwp Tryd.tab85 [] Tryd.func85 rfl Tryd.ntmps85 (by kernel_rfl) (by show 1 ≤ 16; decide) (by kernel_rfl) (by kernel_rfl) hk
-- 86 slices.Equal[[]int,int]
def Tryd.r86_l4_3 (K : AV → AH → Prop) (h : AH) (a0 : AV) (a1 : AV) (n2 : Int) (n12 : Int) : Prop :=
  ∃ (I3 : Nat → List AV → AH → Prop) (m4 : Nat), I3 m4 [(.v (.int .i64 n12))] h ∧ ∀ (m5 : Nat) (h6 : AH), h.length ≤ h6.length → LowH h6.length h6 → ∀ (n7 : Int), I3 m5 [(.v (.int .i64 n7))] h6 →
  condB (decide (n7 < n2))
  (okV (aIA Tryd.prog h6 22 a0 (.v (.int .i64 n7))) fun v8 =>
  okInt .i64 (aLoad Tryd.prog h6 3 v8) fun n9 =>
  okV (aIA Tryd.prog h6 22 a1 (.v (.int .i64 n7))) fun v10 =>
  okInt .i64 (aLoad Tryd.prog h6 3 v10) fun n11 =>
  condB (n9 != n11)
  (RetR h K (.v (.bool false)) h6)
  (nextR h I3 m5 [some a0, some a1, some (.v (.int .i64 n2))] [some a0, some a1, some (.v (.int .i64 n2))] [(.v (.int .i64 (IntKind.wrap .i64 (n7 + 1))))] h6))
  (RetR h K (.v (.bool true)) h6)
def Tryd.r86 (a0 a1 : AV) (h : AH) (K : AV → AH → Prop) : Prop :=
  okInt .i64 (aLen Tryd.prog h 22 a0) fun n0 =>
  okInt .i64 (aLen Tryd.prog h 22 a1) fun n1 =>
  condB (n0 != n1)
  (RetR h K (.v (.bool false)) h)
  (okInt .i64 (aLen Tryd.prog h 22 a0) fun n2 =>
  Tryd.r86_l4_3 K h a0 a1 n2 0)
theorem Tryd.c86 (G : Nat → Option AV) (a0 a1 : AV) (h : AH) (K : AV → AH → Prop) (hk : LowH h.length h → Tryd.r86 a0 a1 h K) : SCall Tryd.prog G 86 [a0, a1] h K :=
  scall_of_rwp Tryd.tab86 [(4, [(13, (.int .i64))], [0, 1, 12])] Tryd.func86 rfl Tryd.ntmps86 (by kernel_rfl) (by show 2 ≤ 26; decide) (by kernel_rfl) (by kernel_rfl) hk
-- 90 slices.Clone[[]int,int]
def Tryd.r90 (a0 : AV) (h : AH) (K : AV → AH → Prop) : Prop :=
  binR Tryd.prog h (fun v0 h1 =>
  okBool (some v0) fun b2 =>
  condB b2
  (RetR h K (.v (.slice none 0 0)) h1)
  (newO (.cells 3 1 [] 0) h1 fun i3 h4 =>
  appR Tryd.prog h4 22 22 (.sl i3 0 0 0 none) a0 (fun v5 h6 =>
  RetR h K v5 h6))) .eql 22 a0 (.v (.slice none 0 0))
theorem Tryd.c90 (G : Nat → Option AV) (a0 : AV) (h : AH) (K : AV → AH → Prop) (hk : LowH h.length h → Tryd.r90 a0 h K) : SCall Tryd.prog G 90 [a0] h K :=
  scall_of_rwp Tryd.tab90 [] Tryd.func90 rfl Tryd.ntmps90 (by kernel_rfl) (by show 1 ≤ 8; decide) (by kernel_rfl) (by kernel_rfl) hk
-- 100 slices.Repeat[[]skylark/admin.brick,skylark/admin.brick]
def Tryd.r100_l8_13 (K : AV → AH → Prop) (h : AH) (n6 : Int) (i8 : Nat) (h11 : AH) (n24 : Int) : Prop :=
  ∃ (I13 : Nat → List AV → AH → Prop) (m14 : Nat), I13 m14 [(.v (.int .i64 n24))] h11 ∧ ∀ (m15 : Nat) (h16 : AH), h11.length ≤ h16.length → LowH h16.length h16 → ∀ (n17 : Int), I13 m15 [(.v (.int .i64 n17))] h16 →
  okInt .i64 (aLen Tryd.prog h16 167 (.sl i8 0 0 (Int.toNat (IntKind.wrap .i64 n6)) none)) fun n18 =>
  condB (decide (n17 < n18))
  (okV (aSlice Tryd.prog h16 167 (.sl i8 0 0 (Int.toNat (IntKind.wrap .i64 n6)) none) (some (some (.v (.int .i64 n17)))) none none) fun v19 =>
  okV (aSlice Tryd.prog h16 167 (.sl i8 0 0 (Int.toNat (IntKind.wrap .i64 n6)) none) none (some (some (.v (.int .i64 n17)))) none) fun v20 =>
  copyR Tryd.prog h16 167 v19 v20 (fun v21 h22 =>
  okInt .i64 (some v21) fun n23 =>
  nextR h11 I13 m15 [some (.sl i8 0 0 (Int.toNat (IntKind.wrap .i64 n6)) none)] [some (.sl i8 0 0 (Int.toNat (IntKind.wrap .i64 n6)) none)] [(.v (.int .i64 (IntKind.wrap .i64 (n17 + n23))))] h22))
  (RetR h K (.sl i8 0 0 (Int.toNat (IntKind.wrap .i64 n6)) none) h16)
def Tryd.r100_j8 (h : AH) (K : AV → AH → Prop) (a0 : AV) (n6 : Int) (h7 : AH) : Prop :=
  (0 ≤ (IntKind.wrap .i64 n6) ∧ (IntKind.wrap .i64 n6) ≤ (IntKind.wrap .i64 n6) ∧ (((16 : Nat) : Int)) * (IntKind.wrap .i64 n6) ≤ 281474976710656 ∧ (IntKind.wrap .i64 n6) ≤ 4611686018427387904) ∧ newO (.cells 170 2 (List.replicate (Int.toNat (IntKind.wrap .i64 n6)) [(.v (.int .i64 0)), (.v (.int .i64 0))]) 0) h7 fun i8 h9 =>
  copyR Tryd.prog h9 167 (.sl i8 0 0 (Int.toNat (IntKind.wrap .i64 n6)) none) a0 (fun v10 h11 =>
  okInt .i64 (some v10) fun n12 =>
  Tryd.r100_l8_13 K h n6 i8 h11 n12)
def Tryd.r100_j1 (K : AV → AH → Prop) (h : AH) (G : Nat → Option AV) (a0 : AV) (a1 : AV) (h0 : AH) : Prop :=
  okInt .i64 (aLen Tryd.prog h0 167 a0) fun n1 =>
  okInt .i64 (some a1) fun n2 =>
  callR Tryd.prog G 132 [(.v (.int .u64 (IntKind.wrap .u64 n1))), (.v (.int .u64 (IntKind.wrap .u64 n2)))] h0 (fun v3 h4 =>
  okInt .u64 (extV 0 v3) fun n5 =>
  okInt .u64 (extV 1 v3) fun n6 =>
  rGq (decide (n5 > 0)) false (some (.v (.int .u64 n6))) fun b25 v26 =>
  rGq b25 false (aBin Tryd.prog .gtr 140 v26 (.v (.int .u64 9223372036854775807))) fun b27 v28 =>
  okBool (pickR (some (.v (.bool b27))) (some (.v (.bool true))) (some v28)) fun b29 =>
  condB b29
  (okV (aMkI Tryd.prog 9 (.v (.string (ByteArray.mk #[116, 104, 101, 32, 114, 101, 115, 117, 108, 116, 32, 111, 102, 32, 40, 108, 101, 110, 40, 120, 41, 32, 42, 32, 99, 111, 117, 110, 116, 41, 32, 111, 118, 101, 114, 102, 108, 111, 119, 115])))) fun v30 =>
  False)
  (Tryd.r100_j8 h K a0 n6 h4))
def Tryd.r100 (G : Nat → Option AV) (a0 a1 : AV) (h : AH) (K : AV → AH → Prop) : Prop :=
  okInt .i64 (some a1) fun n31 =>
  condB (decide (n31 < 0))
  (okV (aMkI Tryd.prog 9 (.v (.string (ByteArray.mk #[99, 97, 110, 110, 111, 116, 32, 98, 101, 32, 110, 101, 103, 97, 116, 105, 118, 101])))) fun v32 =>
  False)
  (Tryd.r100_j1 K h G a0 a1 h)
theorem Tryd.c100 (G : Nat → Option AV) (a0 a1 : AV) (h : AH) (K : AV → AH → Prop) (hk : LowH h.length h → Tryd.r100 G a0 a1 h K) : SCall Tryd.prog G 100 [a0, a1] h K :=
  scall_of_rwp Tryd.tab100 [(8, [(8, (.int .i64))], [7])] Tryd.func100 rfl Tryd.ntmps100 (by kernel_rfl) (by show 2 ≤ 48; decide) (by kernel_rfl) (by kernel_rfl) hk
-- 101 skylark/admin.commands
def Tryd.r101 (G : Nat → Option AV) (h : AH) (K : AV → AH → Prop) : Prop :=
  callR Tryd.prog G 133 [(.agg [(.v (.bool true)), (.v (.bool false)), (.v (.bool false)), (.v (.bool false)), (.v (.bool false)), (.v .nilFunc)])] h (fun v0 h1 =>
  callR Tryd.prog G 133 [(.agg [(.v (.bool false)), (.v (.bool false)), (.v (.bool false)), (.v (.bool false)), (.v (.bool false)), (.v .nilFunc)])] h1 (fun v2 h3 =>
  callR Tryd.prog G 133 [(.agg [(.v (.bool false)), (.v (.bool false)), (.v (.bool false)), (.v (.bool false)), (.v (.bool false)), (.v .nilFunc)])] h3 (fun v4 h5 =>
  callR Tryd.prog G 133 [(.agg [(.v (.bool false)), (.v (.bool false)), (.v (.bool false)), (.v (.bool false)), (.v (.bool false)), (.v .nilFunc)])] h5 (fun v6 h7 =>
  callR Tryd.prog G 133 [(.agg [(.v (.bool false)), (.v (.bool false)), (.v (.bool true)), (.v (.bool false)), (.v (.bool false)), (.v .nilFunc)])] h7 (fun v8 h9 =>
  okP (rowsFill 6 (List.replicate 9 [(.v (.bool false)), (.v (.bool false)), (.v (.bool false)), (.v (.bool false)), (.v (.bool false)), (.v .nilFunc)]) [(0, some (.agg [(.v (.bool false)), (.v (.bool false)), (.v (.bool false)), (.v (.bool true)), (.v (.bool false)), (.fn (.func 135) [] [])])), (1, some v0), (2, some v2), (3, some v4), (4, some v6), (5, some v8), (6, some (.agg [(.v (.bool false)), (.v (.bool false)), (.v (.bool false)), (.v (.bool true)), (.v (.bool false)), (.fn (.func 136) [] [])])), (7, some (.agg [(.v (.bool false)), (.v (.bool false)), (.v (.bool false)), (.v (.bool false)), (.v (.bool true)), (.fn (.func 137) [] [])])), (8, some (.agg [(.v (.bool false)), (.v (.bool false)), (.v (.bool false)), (.v (.bool false)), (.v (.bool false)), (.fn (.func 138) [] [])]))]) fun r10 => newO (.cells 178 6 r10 0) h9 fun i11 h12 =>
  RetR h K (.sl i11 0 0 9 none) h12)))))
theorem Tryd.c101 (G : Nat → Option AV) (h : AH) (K : AV → AH → Prop) (hk : LowH h.length h → Tryd.r101 G h K) : SCall Tryd.prog G 101 [] h K :=
  scall_of_rwp Tryd.tab101 [] Tryd.func101 rfl Tryd.ntmps101 (by kernel_rfl) (by show 0 ≤ 22; decide) (by kernel_rfl) (by kernel_rfl) hk
-- 102 (skylark/admin.command).bare
def Tryd.r102 (a0 a1 : AV) (h : AH) (K : AV → AH → Prop) : Prop :=
  onlyB (AV.one a0) (newO (.cells 178 (AV.cells a0).length [AV.cells a0] 0) h fun i0 h1 =>
  onlyB (AV.one a1) (newO (.cells 96 (AV.cells a1).length [AV.cells a1] 0) h1 fun i2 h3 =>
  okBool (aLoad Tryd.prog h3 4 (.ptr i0 0 0 0)) fun b4 =>
  rGq b4 false (some (.ptr i2 0 0 1)) fun b5 v6 =>
  rGq b5 false (aLoad Tryd.prog h3 3 v6) fun b7 v8 =>
  rGq b7 false (aBin Tryd.prog .eql 3 v8 (.v (.int .i64 0))) fun b9 v10 =>
  okBool (pickR (some (.v (.bool b9))) (some (.v (.bool true))) (some v10)) fun b11 =>
  rGq b11 true (some (.ptr i0 0 0 1)) fun b12 v13 =>
  rGq b12 true (aLoad Tryd.prog h3 4 v13) fun b14 v15 =>
  rGq b14 true (some v15) fun b16 v17 =>
  okG (some v17) false fun b18 g0 =>
  rGq b18 false (some (.ptr i2 0 0 2)) fun b19 v20 =>
  okG (some (g0 b19)) false fun c1 g2 =>
  rGq c1 false (aLoad Tryd.prog h3 3 v20) fun b21 v22 =>
  okG (some (g2 b21)) false fun c3 g4 =>
  rGq c3 false (aBin Tryd.prog .eql 3 v22 (.v (.int .i64 0))) fun b23 v24 =>
  rGq b16 true (pickR (some (g4 b23)) (some (.v (.bool true))) (some v24)) fun b25 v26 =>
  okBool (pickR (some (.v (.bool b25))) (some v26) (some (.v (.bool false)))) fun b27 =>
  rGq b27 true (some (.ptr i0 0 0 2)) fun b28 v29 =>
  rGq b28 true (aLoad Tryd.prog h3 4 v29) fun b30 v31 =>
  rGq b30 true (some v31) fun b32 v33 =>
  okG (some v33) false fun b34 g5 =>
  rGq b34 false (some (.ptr i2 0 0 3)) fun b35 v36 =>
  okG (some (g5 b35)) false fun c6 g7 =>
  rGq c6 false (aLoad Tryd.prog h3 3 v36) fun b37 v38 =>
  okG (some (g7 b37)) false fun c8 g9 =>
  rGq c8 false (aBin Tryd.prog .eql 3 v38 (.v (.int .i64 0))) fun b39 v40 =>
  rGq b32 true (pickR (some (g9 b39)) (some (.v (.bool true))) (some v40)) fun b41 v42 =>
  okBool (pickR (some (.v (.bool b41))) (some v42) (some (.v (.bool false)))) fun b43 =>
  rGq b43 true (some (.ptr i0 0 0 3)) fun b44 v45 =>
  rGq b44 true (aLoad Tryd.prog h3 4 v45) fun b46 v47 =>
  rGq b46 true (some v47) fun b48 v49 =>
  okG (some v49) false fun b50 g10 =>
  rGq b50 false (some (.ptr i2 0 0 4)) fun b51 v52 =>
  okG (some (g10 b51)) false fun c11 g12 =>
  rGq c11 false (aLoad Tryd.prog h3 22 v52) fun b53 v54 =>
  okG (some (g12 b53)) false fun c13 g14 =>
  rGq c13 false (aLen Tryd.prog h3 22 v54) fun b55 v56 =>
  okG (some (g14 b55)) false fun c15 g16 =>
  rGq c15 false (aBin Tryd.prog .eql 3 v56 (.v (.int .i64 0))) fun b57 v58 =>
  rGq b48 true (pickR (some (g16 b57)) (some (.v (.bool true))) (some v58)) fun b59 v60 =>
  okBool (pickR (some (.v (.bool b59))) (some v60) (some (.v (.bool false)))) fun b61 =>
  rGq b61 true (some (.ptr i0 0 0 4)) fun b62 v63 =>
  rGq b62 true (aLoad Tryd.prog h3 4 v63) fun b64 v65 =>
  rGq b64 true (some v65) fun b66 v67 =>
  okG (some v67) false fun b68 g17 =>
  rGq b68 false (some (.ptr i2 0 0 5)) fun b69 v70 =>
  okG (some (g17 b69)) false fun c18 g19 =>
  rGq c18 false (aLoad Tryd.prog h3 9 v70) fun b71 v72 =>
  okG (some (g19 b71)) false fun c20 g21 =>
  rGq c20 false (aBin Tryd.prog .eql 9 v72 (.v (.string (ByteArray.mk #[])))) fun b73 v74 =>
  rGq b66 true (pickR (some (g21 b73)) (some (.v (.bool true))) (some v74)) fun b75 v76 =>
  okBool (pickR (some (.v (.bool b75))) (some v76) (some (.v (.bool false)))) fun b77 =>
  RetR h K (.v (.bool b77)) h3))
theorem Tryd.c102 (G : Nat → Option AV) (a0 a1 : AV) (h : AH) (K : AV → AH → Prop) (hk : LowH h.length h → Tryd.r102 a0 a1 h K) : SCall Tryd.prog G 102 [a0, a1] h K :=
  scall_of_rwp Tryd.tab102 [] Tryd.func102 rfl Tryd.ntmps102 (by kernel_rfl) (by show 2 ≤ 49; decide) (by kernel_rfl) (by kernel_rfl) hk
-- 103 skylark/admin.copied
def Tryd.r103 (G : Nat → Option AV) (a0 : AV) (h : AH) (K : AV → AH → Prop) : Prop :=
  onlyB (AV.one a0) (newO (.cells 45 (AV.cells a0).length [AV.cells a0] 0) h fun i0 h1 =>
  newO (.cells 45 2 [[(.v (.int .i64 0)), (.v (.slice none 0 0))]] 0) h1 fun i2 h3 =>
  okInt .i64 (aLoad Tryd.prog h3 3 (.ptr i0 0 0 0)) fun n4 =>
  okV (aLoad Tryd.prog h3 22 (.ptr i0 0 0 1)) fun v5 =>
  callR Tryd.prog G 90 [v5] h3 (fun v6 h7 =>
  (aLoad Tryd.prog h7 3 (.ptr i0 0 0 0) = some (.v (.int .i64 n4))) ∧ okV (aBuild Tryd.prog 45 [(0, some (.v (.int .i64 n4))), (1, some v6)]) fun v8 =>
  storeR Tryd.prog h7 (fun v9 h10 =>
  okV (aLoad Tryd.prog h10 45 (.ptr i2 0 0 0)) fun v11 =>
  RetR h K v11 h10) 45 v8 (.ptr i2 0 0 0)))
theorem Tryd.c103 (G : Nat → Option AV) (a0 : AV) (h : AH) (K : AV → AH → Prop) (hk : LowH h.length h → Tryd.r103 G a0 h K) : SCall Tryd.prog G 103 [a0] h K :=
  scall_of_rwp Tryd.tab103 [] Tryd.func103 rfl Tryd.ntmps103 (by kernel_rfl) (by show 1 ≤ 9; decide) (by kernel_rfl) (by kernel_rfl) hk
-- 104 skylark/code.Encode
def Tryd.r104_l11_40 (K : AV → AH → Prop) (h : AH) (G : Nat → Option AV) (a0 : AV) (h5 : AH) (n39 : Int) (v73 : AV) (n74 : Int) : Prop :=
  ∃ (I40 : Nat → List AV → AH → Prop) (m41 : Nat), I40 m41 [v73, (.v (.int .i64 n74))] h5 ∧ ∀ (m42 : Nat) (h43 : AH), h5.length ≤ h43.length → LowH h43.length h43 → ∀ (v44 : AV) (n45 : Int), I40 m42 [v44, (.v (.int .i64 n45))] h43 →
  condB (decide (n45 < n39))
  (okV (aIA Tryd.prog h43 183 a0 (.v (.int .i64 n45))) fun v46 =>
  okV (aLoad Tryd.prog h43 182 v46) fun v47 =>
  newO (.cells 182 3 [[(.v (.bool false)), (.v (.int .i64 0)), (.v (.string (ByteArray.mk #[])))]] 0) h43 fun i48 h49 =>
  storeR Tryd.prog h49 (fun v50 h51 =>
  okBool (aLoad Tryd.prog h51 4 (.ptr i48 0 0 0)) fun b52 =>
  condB b52
  (okStr (aLoad Tryd.prog h51 9 (.ptr i48 0 0 2)) fun s53 =>
  okStr (aLoad Tryd.prog h51 9 (.ptr i48 0 0 2)) fun s54 =>
  newO (.cells 5 1 [[(.v (.int .u8 84))]] 0) h51 fun i55 h56 =>
  (aLoad Tryd.prog h56 9 (.ptr i48 0 0 2) = some (.v (.string s54))) ∧ ((some (.v (.int .i64 ((ByteArray.size s53 : Nat) : Int))) : Option AV) = some (.v (.int .i64 ((ByteArray.size s53 : Nat) : Int)))) ∧ (aLoad Tryd.prog h56 9 (.ptr i48 0 0 2) = some (.v (.string s53))) ∧ appR Tryd.prog h56 227 227 v44 (.sl i55 0 0 1 none) (fun v57 h58 =>
  (aLoad Tryd.prog h58 9 (.ptr i48 0 0 2) = some (.v (.string s54))) ∧ ((some (.v (.int .i64 ((ByteArray.size s53 : Nat) : Int))) : Option AV) = some (.v (.int .i64 ((ByteArray.size s53 : Nat) : Int)))) ∧ (aLoad Tryd.prog h58 9 (.ptr i48 0 0 2) = some (.v (.string s53))) ∧ callR Tryd.prog G 139 [v57, (.v (.int .i64 ((ByteArray.size s53 : Nat) : Int)))] h58 (fun v59 h60 =>
  (aLoad Tryd.prog h60 9 (.ptr i48 0 0 2) = some (.v (.string s54))) ∧ appR Tryd.prog h60 227 9 v59 (.v (.string s54)) (fun v61 h62 =>
  okInt .i64 (aLen Tryd.prog h62 227 v61) fun n63 =>
  condB (decide (n63 > 262144))
  (RetR h K (.tup [(.v (.string (ByteArray.mk #[]))), (.v (.int .i64 2))]) h62)
  (nextR h5 I40 m42 [some a0, some (.v (.int .i64 n39))] [some a0, some (.v (.int .i64 n39))] [v61, (.v (.int .i64 (IntKind.wrap .i64 (n45 + 1))))] h62)))))
  (okInt .i64 (aLoad Tryd.prog h51 2 (.ptr i48 0 0 1)) fun n64 =>
  newO (.cells 5 1 [[(.v (.int .u8 78))]] 0) h51 fun i65 h66 =>
  (aLoad Tryd.prog h66 2 (.ptr i48 0 0 1) = some (.v (.int .i64 n64))) ∧ appR Tryd.prog h66 227 227 v44 (.sl i65 0 0 1 none) (fun v67 h68 =>
  (aLoad Tryd.prog h68 2 (.ptr i48 0 0 1) = some (.v (.int .i64 n64))) ∧ callR Tryd.prog G 139 [v67, (.v (.int .i64 n64))] h68 (fun v69 h70 =>
  okInt .i64 (aLen Tryd.prog h70 227 v69) fun n71 =>
  condB (decide (n71 > 262144))
  (RetR h K (.tup [(.v (.string (ByteArray.mk #[]))), (.v (.int .i64 2))]) h70)
  (nextR h5 I40 m42 [some a0, some (.v (.int .i64 n39))] [some a0, some (.v (.int .i64 n39))] [v69, (.v (.int .i64 (IntKind.wrap .i64 (n45 + 1))))] h70))))) 182 v47 (.ptr i48 0 0 0))
  (okStr (aConv Tryd.prog h43 227 9 v44) fun s72 =>
  RetR h K (.tup [(.v (.string s72)), (.v (.int .i64 0))]) h43)
def Tryd.r104_l4_2 (G : Nat → Option AV) (h : AH) (K : AV → AH → Prop) (a0 : AV) (n1 : Int) (n75 : Int) : Prop :=
  ∃ (I2 : Nat → List AV → AH → Prop) (m3 : Nat), I2 m3 [(.v (.int .i64 n75))] h ∧ ∀ (m4 : Nat) (h5 : AH), h.length ≤ h5.length → LowH h5.length h5 → ∀ (n6 : Int), I2 m4 [(.v (.int .i64 n6))] h5 →
  condB (decide (n6 < n1))
  (okV (aIA Tryd.prog h5 183 a0 (.v (.int .i64 n6))) fun v7 =>
  okV (aLoad Tryd.prog h5 182 v7) fun v8 =>
  newO (.cells 182 3 [[(.v (.bool false)), (.v (.int .i64 0)), (.v (.string (ByteArray.mk #[])))]] 0) h5 fun i9 h10 =>
  storeR Tryd.prog h10 (fun v11 h12 =>
  okBool (aLoad Tryd.prog h12 4 (.ptr i9 0 0 0)) fun b13 =>
  rGq b13 true (some (.ptr i9 0 0 1)) fun b14 v15 =>
  rGq b14 true (aLoad Tryd.prog h12 2 v15) fun b16 v17 =>
  rGq b16 true (aBin Tryd.prog .neq 2 v17 (.v (.int .i64 0))) fun b18 v19 =>
  okBool (pickR (some (.v (.bool b18))) (some v19) (some (.v (.bool false)))) fun b20 =>
  rGq b20 false (some (.ptr i9 0 0 0)) fun b21 v22 =>
  rGq b21 false (aLoad Tryd.prog h12 4 v22) fun b23 v24 =>
  rGq b23 false (aUn .not v24) fun b25 v26 =>
  rGq b25 false (some v26) fun b27 v28 =>
  okG (some v28) true fun b29 g0 =>
  rGq b29 true (some (.ptr i9 0 0 2)) fun b30 v31 =>
  okG (some (g0 b30)) true fun c1 g2 =>
  rGq c1 true (aLoad Tryd.prog h12 9 v31) fun b32 v33 =>
  okG (some (g2 b32)) true fun c3 g4 =>
  rGq c3 true (aBin Tryd.prog .neq 9 v33 (.v (.string (ByteArray.mk #[])))) fun b34 v35 =>
  rGq b27 false (pickR (some (g4 b34)) (some v35) (some (.v (.bool false)))) fun b36 v37 =>
  okBool (pickR (some (.v (.bool b36))) (some (.v (.bool true))) (some v37)) fun b38 =>
  condB b38
  (RetR h K (.tup [(.v (.string (ByteArray.mk #[]))), (.v (.int .i64 4))]) h12)
  (nextR h I2 m4 [some a0, some a0, some (.v (.int .i64 n1))] [some a0, some a0, some (.v (.int .i64 n1))] [(.v (.int .i64 (IntKind.wrap .i64 (n6 + 1))))] h12)) 182 v8 (.ptr i9 0 0 0))
  (okInt .i64 (aLen Tryd.prog h5 183 a0) fun n39 =>
  Tryd.r104_l11_40 K h G a0 h5 n39 (.v (.slice none 0 0)) 0)
def Tryd.r104 (G : Nat → Option AV) (a0 : AV) (h : AH) (K : AV → AH → Prop) : Prop :=
  okInt .i64 (aLen Tryd.prog h 183 a0) fun n0 =>
  condB (decide (n0 > 4096))
  (RetR h K (.tup [(.v (.string (ByteArray.mk #[]))), (.v (.int .i64 2))]) h)
  (okInt .i64 (aLen Tryd.prog h 183 a0) fun n1 =>
  Tryd.r104_l4_2 G h K a0 n1 0)
theorem Tryd.c104 (G : Nat → Option AV) (a0 : AV) (h : AH) (K : AV → AH → Prop) (hk : LowH h.length h → Tryd.r104 G a0 h K) : SCall Tryd.prog G 104 [a0] h K :=
  scall_of_rwp Tryd.tab104 [(4, [(14, (.int .i64))], [0, 12, 13]), (11, [(6, .any), (38, (.int .i64))], [36, 37])] Tryd.func104 rfl Tryd.ntmps104 (by kernel_rfl) (by show 1 ≤ 66; decide) (by kernel_rfl) (by kernel_rfl) hk
-- 105 skylark/code.Decode
def Tryd.r105_l5_7 (K : AV → AH → Prop) (h : AH) (G : Nat → Option AV) (a0 : AV) (i0 : Nat) (h1 : AH) (v39 : AV) (s40 : ByteArray) : Prop :=
  ∃ (I7 : Nat → List AV → AH → Prop) (m8 : Nat), I7 m8 [v39, (.v (.string s40))] h1 ∧ ∀ (m9 : Nat) (h10 : AH), h1.length ≤ h10.length → LowH h10.length h10 → ∀ (v11 : AV) (s12 : ByteArray), I7 m9 [v11, (.v (.string s12))] h10 →
  condB (!(ByteArray.toList s12 == ByteArray.toList (ByteArray.mk #[])))
  (okStr (some a0) fun s13 =>
  okInt .i64 (aLen Tryd.prog h10 183 v11) fun n14 =>
  condB (n14 == 4096)
  (storeR Tryd.prog h10 (fun v15 h16 =>
  okV (aLoad Tryd.prog h16 81 (.ptr i0 0 0 0)) fun v17 =>
  RetR h K (.tup [(.v (.slice none 0 0)), v17]) h16) 81 (.agg [(.v (.int .i64 (IntKind.wrap .i64 (((ByteArray.size s13 : Nat) : Int) - ((ByteArray.size s12 : Nat) : Int))))), (.v (.int .i64 2))]) (.ptr i0 0 0 0))
  (callR Tryd.prog G 140 [(.v (.string s12))] h10 (fun v18 h19 =>
  okV (extV 0 v18) fun v20 =>
  okStr (extV 1 v18) fun s21 =>
  okInt .i64 (extV 2 v18) fun n22 =>
  newO (.cells 182 3 [[(.v (.bool false)), (.v (.int .i64 0)), (.v (.string (ByteArray.mk #[])))]] 0) h19 fun i23 h24 =>
  storeR Tryd.prog h24 (fun v25 h26 =>
  condB (n22 != 0)
  (storeR Tryd.prog h26 (fun v27 h28 =>
  okV (aLoad Tryd.prog h28 81 (.ptr i0 0 0 0)) fun v29 =>
  RetR h K (.tup [(.v (.slice none 0 0)), v29]) h28) 81 (.agg [(.v (.int .i64 (IntKind.wrap .i64 (((ByteArray.size s13 : Nat) : Int) - ((ByteArray.size s12 : Nat) : Int))))), (.v (.int .i64 n22))]) (.ptr i0 0 0 0))
  (okV (aLoad Tryd.prog h26 182 (.ptr i23 0 0 0)) fun v30 =>
  okP (rowsFill 3 (List.replicate 1 [(.v (.bool false)), (.v (.int .i64 0)), (.v (.string (ByteArray.mk #[])))]) [(0, some v30)]) fun r31 => newO (.cells 182 3 r31 0) h26 fun i32 h33 =>
  appR Tryd.prog h33 183 183 v11 (.sl i32 0 0 1 none) (fun v34 h35 =>
  nextR h1 I7 m9 [some a0, some (.ptr i0 0 0 0)] [some a0, some (.ptr i0 0 0 0)] [v34, (.v (.string s21))] h35))) 182 v20 (.ptr i23 0 0 0))))
  (storeR Tryd.prog h10 (fun v36 h37 =>
  okV (aLoad Tryd.prog h37 81 (.ptr i0 0 0 0)) fun v38 =>
  RetR h K (.tup [v11, v38]) h37) 81 (.agg [(.v (.int .i64 0)), (.v (.int .i64 0))]) (.ptr i0 0 0 0))
def Tryd.r105 (G : Nat → Option AV) (a0 : AV) (h : AH) (K : AV → AH → Prop) : Prop :=
  newO (.cells 81 2 [[(.v (.int .i64 0)), (.v (.int .i64 0))]] 0) h fun i0 h1 =>
  okStr (some a0) fun s2 =>
  condB (decide (((ByteArray.size s2 : Nat) : Int) > 262144))
  (storeR Tryd.prog h1 (fun v3 h4 =>
  okV (aLoad Tryd.prog h4 81 (.ptr i0 0 0 0)) fun v5 =>
  RetR h K (.tup [(.v (.slice none 0 0)), v5]) h4) 81 (.agg [(.v (.int .i64 0)), (.v (.int .i64 2))]) (.ptr i0 0 0 0))
  (okStr (some a0) fun s6 =>
  Tryd.r105_l5_7 K h G a0 i0 h1 (.v (.slice none 0 0)) s6)
theorem Tryd.c105 (G : Nat → Option AV) (a0 : AV) (h : AH) (K : AV → AH → Prop) (hk : LowH h.length h → Tryd.r105 G a0 h K) : SCall Tryd.prog G 105 [a0] h K :=
  scall_of_rwp Tryd.tab105 [(5, [(4, .any), (5, .str)], [0, 3])] Tryd.func105 rfl Tryd.ntmps105 (by kernel_rfl) (by show 1 ≤ 45; decide) (by kernel_rfl) (by kernel_rfl) hk
-- 115 (skylark/ring.ring).sort
def Tryd.r115 (G : Nat → Option AV) (a0 a1 : AV) (h : AH) (K : AV → AH → Prop) : Prop :=
  callR Tryd.prog G 153 [a0, a1] h (fun v0 h1 =>
  RetR h K (.tup []) h1)
theorem Tryd.c115 (G : Nat → Option AV) (a0 a1 : AV) (h : AH) (K : AV → AH → Prop) (hk : LowH h.length h → Tryd.r115 G a0 a1 h K) : SCall Tryd.prog G 115 [a0, a1] h K :=
  scall_of_rwp Tryd.tab115 [] Tryd.func115 rfl Tryd.ntmps115 (by kernel_rfl) (by show 2 ≤ 7; decide) (by kernel_rfl) (by kernel_rfl) hk
-- 116 (skylark/ring.point).compare
def Tryd.r116 (G : Nat → Option AV) (a0 a1 : AV) (h : AH) (K : AV → AH → Prop) : Prop :=
  onlyB (AV.one a0) (newO (.cells 134 (AV.cells a0).length [AV.cells a0] 0) h fun i0 h1 =>
  onlyB (AV.one a1) (newO (.cells 134 (AV.cells a1).length [AV.cells a1] 0) h1 fun i2 h3 =>
  okInt .u64 (aLoad Tryd.prog h3 35 (.ptr i0 0 0 0)) fun n4 =>
  okInt .u64 (aLoad Tryd.prog h3 35 (.ptr i2 0 0 0)) fun n5 =>
  okInt .i64 (aLoad Tryd.prog h3 3 (.ptr i0 0 0 1)) fun n6 =>
  okInt .i64 (aLoad Tryd.prog h3 3 (.ptr i2 0 0 1)) fun n7 =>
  okInt .i64 (aLoad Tryd.prog h3 3 (.ptr i0 0 0 2)) fun n8 =>
  okInt .i64 (aLoad Tryd.prog h3 3 (.ptr i2 0 0 2)) fun n9 =>
  callR Tryd.prog G 119 [(.v (.int .u64 n4)), (.v (.int .u64 n5))] h3 (fun v10 h11 =>
  okInt .i64 (some v10) fun n12 =>
  (aLoad Tryd.prog h11 3 (.ptr i2 0 0 2) = some (.v (.int .i64 n9))) ∧ (aLoad Tryd.prog h11 3 (.ptr i0 0 0 2) = some (.v (.int .i64 n8))) ∧ (aLoad Tryd.prog h11 3 (.ptr i2 0 0 1) = some (.v (.int .i64 n7))) ∧ (aLoad Tryd.prog h11 3 (.ptr i0 0 0 1) = some (.v (.int .i64 n6))) ∧ callR Tryd.prog G 154 [(.v (.int .i64 n6)), (.v (.int .i64 n7))] h11 (fun v13 h14 =>
  okInt .i64 (some v13) fun n15 =>
  (aLoad Tryd.prog h14 3 (.ptr i2 0 0 2) = some (.v (.int .i64 n9))) ∧ (aLoad Tryd.prog h14 3 (.ptr i0 0 0 2) = some (.v (.int .i64 n8))) ∧ callR Tryd.prog G 154 [(.v (.int .i64 n8)), (.v (.int .i64 n9))] h14 (fun v16 h17 =>
  okInt .i64 (some v16) fun n18 =>
  newO (.cells 3 1 [[(.v (.int .i64 n12))], [(.v (.int .i64 n15))], [(.v (.int .i64 n18))]] 0) h17 fun i19 h20 =>
  callR Tryd.prog G 146 [(.sl i19 0 0 3 none)] h20 (fun v21 h22 =>
  okInt .i64 (some v21) fun n23 =>
  RetR h K (.v (.int .i64 n23)) h22))))))
theorem Tryd.c116 (G : Nat → Option AV) (a0 a1 : AV) (h : AH) (K : AV → AH → Prop) (hk : LowH h.length h → Tryd.r116 G a0 a1 h K) : SCall Tryd.prog G 116 [a0, a1] h K :=
  scall_of_rwp Tryd.tab116 [] Tryd.func116 rfl Tryd.ntmps116 (by kernel_rfl) (by show 2 ≤ 22; decide) (by kernel_rfl) (by kernel_rfl) hk
-- 117 slices.BinarySearchFunc[skylark/ring.ring,skylark/ring.point,uint64]
def Tryd.r117_l3_1 (K : AV → AH → Prop) (h : AH) (G : Nat → Option AV) (a0 : AV) (a1 : AV) (a2 : AV) (n0 : Int) (n35 : Int) (n36 : Int) : Prop :=
  ∃ (I1 : Nat → List AV → AH → Prop) (m2 : Nat), I1 m2 [(.v (.int .i64 n35)), (.v (.int .i64 n36))] h ∧ ∀ (m3 : Nat) (h4 : AH), h.length ≤ h4.length → LowH h4.length h4 → ∀ (n5 : Int) (n6 : Int), I1 m3 [(.v (.int .i64 n5)), (.v (.int .i64 n6))] h4 →
  condB (decide (n5 < n6))
  (okInt .u64 (aBin Tryd.prog .shr 140 (.v (.int .u64 (IntKind.wrap .u64 (IntKind.wrap .i64 (n5 + n6))))) (.v (.int .u64 1))) fun n7 =>
  okV (aIA Tryd.prog h4 128 a0 (.v (.int .i64 (IntKind.wrap .i64 n7)))) fun v8 =>
  okV (aLoad Tryd.prog h4 134 v8) fun v9 =>
  okInt .u64 (some a1) fun n10 =>
  callU Tryd.prog G h4 (fun v11 h12 =>
  okInt .i64 (some v11) fun n13 =>
  condB (decide (n13 < 0))
  (nextR h I1 m3 [some a0, some a1, some a2, some (.v (.int .i64 n0))] [some a0, some a1, some a2, some (.v (.int .i64 n0))] [(.v (.int .i64 (IntKind.wrap .i64 ((IntKind.wrap .i64 n7) + 1)))), (.v (.int .i64 n6))] h12)
  (nextR h I1 m3 [some a0, some a1, some a2, some (.v (.int .i64 n0))] [some a0, some a1, some a2, some (.v (.int .i64 n0))] [(.v (.int .i64 n5)), (.v (.int .i64 (IntKind.wrap .i64 n7)))] h12)) [v9, (.v (.int .u64 n10))] a2)
  (rGq (decide (n5 < n0)) true (some a2) fun b14 v15 =>
  rGq b14 true (some a0) fun b16 v17 =>
  rGq b16 true (some (.v (.int .i64 n5))) fun b18 v19 =>
  rGq b18 true (aIA Tryd.prog h4 128 v17 v19) fun b20 v21 =>
  rGq b20 true (aLoad Tryd.prog h4 134 v21) fun b22 v23 =>
  rGq b22 true (some a1) fun b24 v25 =>
  rGe b24 true (fun k26 => callU Tryd.prog G h4 (fun v27 h28 =>
  k26 v27 h28) [v23, v25] v15) h4 fun b29 v30 h31 =>
  rGq b29 true (aBin Tryd.prog .eql 3 v30 (.v (.int .i64 0))) fun b32 v33 =>
  okBool (pickR (some (.v (.bool b32))) (some v33) (some (.v (.bool false)))) fun b34 =>
  RetR h K (.tup [(.v (.int .i64 n5)), (.v (.bool b34))]) h31)
def Tryd.r117 (G : Nat → Option AV) (a0 a1 a2 : AV) (h : AH) (K : AV → AH → Prop) : Prop :=
  okInt .i64 (aLen Tryd.prog h 128 a0) fun n0 =>
  Tryd.r117_l3_1 K h G a0 a1 a2 n0 0 n0
theorem Tryd.c117 (G : Nat → Option AV) (a0 a1 a2 : AV) (h : AH) (K : AV → AH → Prop) (hk : LowH h.length h → Tryd.r117 G a0 a1 a2 h K) : SCall Tryd.prog G 117 [a0, a1, a2] h K :=
  scall_of_rwp Tryd.tab117 [(3, [(9, (.int .i64)), (10, (.int .i64))], [0, 1, 2, 8])] Tryd.func117 rfl Tryd.ntmps117 (by kernel_rfl) (by show 3 ≤ 49; decide) (by kernel_rfl) (by kernel_rfl) hk
-- 118 (skylark/ring.ring).of$1
def Tryd.r118 (G : Nat → Option AV) (a0 a1 : AV) (h : AH) (K : AV → AH → Prop) : Prop :=
  onlyB (AV.one a0) (newO (.cells 134 (AV.cells a0).length [AV.cells a0] 0) h fun i0 h1 =>
  okInt .u64 (aLoad Tryd.prog h1 35 (.ptr i0 0 0 0)) fun n2 =>
  okInt .u64 (some a1) fun n3 =>
  callR Tryd.prog G 119 [(.v (.int .u64 n2)), (.v (.int .u64 n3))] h1 (fun v4 h5 =>
  okInt .i64 (some v4) fun n6 =>
  RetR h K (.v (.int .i64 n6)) h5))
theorem Tryd.c118 (G : Nat → Option AV) (a0 a1 : AV) (h : AH) (K : AV → AH → Prop) (hk : LowH h.length h → Tryd.r118 G a0 a1 h K) : SCall Tryd.prog G 118 [a0, a1] h K :=
  scall_of_rwp Tryd.tab118 [] Tryd.func118 rfl Tryd.ntmps118 (by kernel_rfl) (by show 2 ≤ 9; decide) (by kernel_rfl) (by kernel_rfl) hk
-- 119 cmp.Compare[uint64]
def Tryd.r119 (G : Nat → Option AV) (a0 a1 : AV) (h : AH) (K : AV → AH → Prop) : Prop :=
  okInt .u64 (some a0) fun n0 =>
  callR Tryd.prog G 155 [(.v (.int .u64 n0))] h (fun v1 h2 =>
  okBool (some v1) fun b3 =>
  okInt .u64 (some a1) fun n4 =>
  callR Tryd.prog G 155 [(.v (.int .u64 n4))] h2 (fun v5 h6 =>
  okBool (some v5) fun b7 =>
  condB b3
  (condB b7
  (RetR h K (.v (.int .i64 0)) h6)
  (RetR h K (.v (.int .i64 (-1))) h6))
  (condB b7
  (RetR h K (.v (.int .i64 1)) h6)
  (okInt .u64 (some a0) fun n8 =>
  okInt .u64 (some a1) fun n9 =>
  condB (decide (n8 < n9))
  (RetR h K (.v (.int .i64 (-1))) h6)
  (okInt .u64 (some a0) fun n10 =>
  okInt .u64 (some a1) fun n11 =>
  condB (decide (n10 > n11))
  (RetR h K (.v (.int .i64 1)) h6)
  (RetR h K (.v (.int .i64 0)) h6))))))
theorem Tryd.c119 (G : Nat → Option AV) (a0 a1 : AV) (h : AH) (K : AV → AH → Prop) (hk : LowH h.length h → Tryd.r119 G a0 a1 h K) : SCall Tryd.prog G 119 [a0, a1] h K :=
  scall_of_rwp Tryd.tab119 [] Tryd.func119 rfl Tryd.ntmps119 (by kernel_rfl) (by show 2 ≤ 20; decide) (by kernel_rfl) (by kernel_rfl) hk
-- 120 skylark/skylarkref06.Digits
def Tryd.r120_l2_1 (h : AH) (K : AV → AH → Prop) (n11 : Int) (s12 : ByteArray) : Prop :=
  ∃ (I1 : Nat → List AV → AH → Prop) (m2 : Nat), I1 m2 [(.v (.int .i64 n11)), (.v (.string s12))] h ∧ ∀ (m3 : Nat) (h4 : AH), h.length ≤ h4.length → LowH h4.length h4 → ∀ (n5 : Int) (s6 : ByteArray), I1 m3 [(.v (.int .i64 n5)), (.v (.string s6))] h4 →
  newO (.cells 5 1 [[(.v (.int .u8 (IntKind.wrap .u8 (IntKind.wrap .i64 (48 + (Int.tmod n5 10))))))]] 0) h4 fun i7 h8 =>
  okStr (aConv Tryd.prog h8 227 9 (.sl i7 0 0 1 none)) fun s9 =>
  okStr (aBin Tryd.prog .add 9 (.v (.string s9)) (.v (.string s6))) fun s10 =>
  condB ((IntKind.wrap .i64 (Int.tdiv n5 10)) == 0)
  (RetR h K (.v (.string s10)) h8)
  (nextR h I1 m3 [] [] [(.v (.int .i64 (IntKind.wrap .i64 (Int.tdiv n5 10)))), (.v (.string s10))] h8)
def Tryd.r120 (a0 : AV) (h : AH) (K : AV → AH → Prop) : Prop :=
  okInt .i64 (some a0) fun n0 =>
  Tryd.r120_l2_1 h K n0 (ByteArray.mk #[])
theorem Tryd.c120 (G : Nat → Option AV) (a0 : AV) (h : AH) (K : AV → AH → Prop) (hk : LowH h.length h → Tryd.r120 a0 h K) : SCall Tryd.prog G 120 [a0] h K :=
  scall_of_rwp Tryd.tab120 [(2, [(0, (.int .i64)), (3, .str)], [])] Tryd.func120 rfl Tryd.ntmps120 (by kernel_rfl) (by show 1 ≤ 17; decide) (by kernel_rfl) (by kernel_rfl) hk
-- 132 math/bits.Mul
def Tryd.r132 (G : Nat → Option AV) (a0 a1 : AV) (h : AH) (K : AV → AH → Prop) : Prop :=
  condB false
  (okInt .u64 (some a0) fun n0 =>
  okInt .u64 (some a1) fun n1 =>
  callR Tryd.prog G 158 [(.v (.int .u32 (IntKind.wrap .u32 n0))), (.v (.int .u32 (IntKind.wrap .u32 n1)))] h (fun v2 h3 =>
  okInt .u32 (extV 0 v2) fun n4 =>
  okInt .u32 (extV 1 v2) fun n5 =>
  RetR h K (.tup [(.v (.int .u64 (IntKind.wrap .u64 n4))), (.v (.int .u64 (IntKind.wrap .u64 n5)))]) h3))
  (okInt .u64 (some a0) fun n6 =>
  okInt .u64 (some a1) fun n7 =>
  callR Tryd.prog G 159 [(.v (.int .u64 n6)), (.v (.int .u64 n7))] h (fun v8 h9 =>
  okInt .u64 (extV 0 v8) fun n10 =>
  okInt .u64 (extV 1 v8) fun n11 =>
  RetR h K (.tup [(.v (.int .u64 n10)), (.v (.int .u64 n11))]) h9))
theorem Tryd.c132 (G : Nat → Option AV) (a0 a1 : AV) (h : AH) (K : AV → AH → Prop) (hk : LowH h.length h → Tryd.r132 G a0 a1 h K) : SCall Tryd.prog G 132 [a0, a1] h K :=
  scall_of_rwp Tryd.tab132 [] Tryd.func132 rfl Tryd.ntmps132 (by kernel_rfl) (by show 2 ≤ 30; decide) (by kernel_rfl) (by kernel_rfl) hk
-- 133 skylark/admin.commands$1
def Tryd.r133 (a0 : AV) (h : AH) (K : AV → AH → Prop) : Prop :=
  onlyB (AV.one a0) (newO (.cells 178 (AV.cells a0).length [AV.cells a0] 0) h fun i0 h1 =>
  newO (.cells 178 6 [[(.v (.bool false)), (.v (.bool false)), (.v (.bool false)), (.v (.bool false)), (.v (.bool false)), (.v .nilFunc)]] 0) h1 fun i2 h3 =>
  storeR Tryd.prog h3 (fun v4 h5 =>
  storeR Tryd.prog h5 (fun v6 h7 =>
  okV (aLoad Tryd.prog h7 178 (.ptr i0 0 0 0)) fun v8 =>
  storeR Tryd.prog h7 (fun v9 h10 =>
  okV (aLoad Tryd.prog h10 178 (.ptr i2 0 0 0)) fun v11 =>
  RetR h K v11 h10) 178 v8 (.ptr i2 0 0 0)) 176 (.fn (.func 134) [] []) (.ptr i0 0 0 5)) 4 (.v (.bool true)) (.ptr i0 0 0 1))
theorem Tryd.c133 (G : Nat → Option AV) (a0 : AV) (h : AH) (K : AV → AH → Prop) (hk : LowH h.length h → Tryd.r133 a0 h K) : SCall Tryd.prog G 133 [a0] h K :=
  scall_of_rwp Tryd.tab133 [] Tryd.func133 rfl Tryd.ntmps133 (by kernel_rfl) (by show 1 ≤ 6; decide) (by kernel_rfl) (by kernel_rfl) hk
-- 134 (*skylark/admin.Admin).onBrick
def Tryd.r134_j128 (K : AV → AH → Prop) (h : AH) (a0 : AV) (i3 : Nat) (n70 : Int) (i118 : Nat) (i122 : Nat) (h127 : AH) : Prop :=
  okV (aNil a0) fun v128 =>
  okV (aFA Tryd.prog 173 1 v128) fun v129 =>
  okV (aLoad Tryd.prog h127 97 v129) fun v130 =>
  okV (aNil a0) fun v131 =>
  okV (aFA Tryd.prog 173 0 v131) fun v132 =>
  okV (aLoad Tryd.prog h127 167 v132) fun v133 =>
  okInt .i64 (aLoad Tryd.prog h127 3 (.ptr i3 0 0 0)) fun n134 =>
  okV (aLoad Tryd.prog h127 105 (.ptr i118 0 0 0)) fun v135 =>
  okV (aLoad Tryd.prog h127 170 (.ptr i122 0 0 0)) fun v136 =>
  okV (aIA Tryd.prog h127 97 v130 (.v (.int .i64 n70))) fun v137 =>
  storeR Tryd.prog h127 (fun v138 h139 =>
  (aLoad Tryd.prog h139 170 (.ptr i122 0 0 0) = some v136) ∧ (aLoad Tryd.prog h139 3 (.ptr i3 0 0 0) = some (.v (.int .i64 n134))) ∧ okV (aIA Tryd.prog h139 167 v133 (.v (.int .i64 n134))) fun v140 =>
  storeR Tryd.prog h139 (fun v141 h142 =>
  RetR h K (.v (.int .i64 0)) h142) 170 v136 v140) 105 v135 v137
def Tryd.r134_j127 (h : AH) (K : AV → AH → Prop) (a0 : AV) (i3 : Nat) (n70 : Int) (b105 : Bool) (i118 : Nat) (i122 : Nat) (h126 : AH) : Prop :=
  rGq b105 false (some (.ptr i122 0 0 0)) fun b143 v144 =>
  rGq b143 false (aLoad Tryd.prog h126 3 v144) fun b145 v146 =>
  rGq b145 false (aBin Tryd.prog .eql 3 v146 (.v (.int .i64 2))) fun b147 v148 =>
  okBool (pickR (some (.v (.bool b147))) (some (.v (.bool true))) (some v148)) fun b149 =>
  condB b149
  (okV (aLoad Tryd.prog h126 22 (.ptr i118 0 0 1)) fun v150 =>
  okInt .i64 (aLoad Tryd.prog h126 3 (.ptr i3 0 0 0)) fun n151 =>
  newO (.cells 3 1 [[(.v (.int .i64 n151))]] 0) h126 fun i152 h153 =>
  appR Tryd.prog h153 22 22 v150 (.sl i152 0 0 1 none) (fun v154 h155 =>
  storeR Tryd.prog h155 (fun v156 h157 =>
  Tryd.r134_j128 K h a0 i3 n70 i118 i122 h157) 22 v154 (.ptr i118 0 0 1)))
  (okInt .i64 (aLoad Tryd.prog h126 3 (.ptr i122 0 0 0)) fun n158 =>
  condB (n158 == 1)
  (okV (aLoad Tryd.prog h126 22 (.ptr i118 0 0 2)) fun v159 =>
  okInt .i64 (aLoad Tryd.prog h126 3 (.ptr i3 0 0 0)) fun n160 =>
  newO (.cells 3 1 [[(.v (.int .i64 n160))]] 0) h126 fun i161 h162 =>
  appR Tryd.prog h162 22 22 v159 (.sl i161 0 0 1 none) (fun v163 h164 =>
  storeR Tryd.prog h164 (fun v165 h166 =>
  Tryd.r134_j128 K h a0 i3 n70 i118 i122 h166) 22 v163 (.ptr i118 0 0 2)))
  (Tryd.r134_j128 K h a0 i3 n70 i118 i122 h126))
def Tryd.r134_j72 (K : AV → AH → Prop) (h : AH) (G : Nat → Option AV) (a0 : AV) (i0 : Nat) (i3 : Nat) (n70 : Int) (h71 : AH) : Prop :=
  okV (aNil a0) fun v72 =>
  okV (aFA Tryd.prog 173 1 v72) fun v73 =>
  okV (aLoad Tryd.prog h71 97 v73) fun v74 =>
  okV (aIA Tryd.prog h71 97 v74 (.v (.int .i64 n70))) fun v75 =>
  okV (aLoad Tryd.prog h71 105 v75) fun v76 =>
  newO (.cells 105 3 [[(.v (.int .i64 0)), (.v (.slice none 0 0)), (.v (.slice none 0 0))]] 0) h71 fun i77 h78 =>
  storeR Tryd.prog h78 (fun v79 h80 =>
  okInt .i64 (aLoad Tryd.prog h80 3 (.ptr i0 0 0 0)) fun n81 =>
  rGq (n81 == 6) true (some (.ptr i0 0 0 3)) fun b82 v83 =>
  rGq b82 true (aLoad Tryd.prog h80 3 v83) fun b84 v85 =>
  rGq b84 true (some (.ptr i77 0 0 0)) fun b86 v87 =>
  rGq b86 true (aLoad Tryd.prog h80 3 v87) fun b88 v89 =>
  rGq b88 true (aBin Tryd.prog .neq 3 v85 v89) fun b90 v91 =>
  okBool (pickR (some (.v (.bool b90))) (some v91) (some (.v (.bool false)))) fun b92 =>
  condB b92
  (RetR h K (.v (.int .i64 150)) h80)
  (okInt .i64 (aLoad Tryd.prog h80 3 (.ptr i77 0 0 0)) fun n93 =>
  condB (decide (n93 ≥ 1073741824))
  (RetR h K (.v (.int .i64 2)) h80)
  (okInt .i64 (aLoad Tryd.prog h80 3 (.ptr i0 0 0 0)) fun n94 =>
  rGq (n94 != 2) true (some a0) fun b95 v96 =>
  rGq b95 true (aLoad Tryd.prog h80 3 (.ptr i3 0 0 0)) fun b97 v98 =>
  rGe b97 true (fun k99 => callR Tryd.prog G 162 [v96, v98] h80 (fun v100 h101 =>
  k99 v100 h101)) h80 fun b102 v103 h104 =>
  okBool (pickR (some (.v (.bool b102))) (some v103) (some (.v (.bool false)))) fun b105 =>
  okInt .i64 (aLoad Tryd.prog h104 3 (.ptr i77 0 0 0)) fun n106 =>
  okV (aLoad Tryd.prog h104 22 (.ptr i77 0 0 1)) fun v107 =>
  okV (aLoad Tryd.prog h104 22 (.ptr i77 0 0 2)) fun v108 =>
  callR Tryd.prog G 90 [v107] h104 (fun v109 h110 =>
  (aLoad Tryd.prog h110 22 (.ptr i77 0 0 2) = some v108) ∧ (aLoad Tryd.prog h110 3 (.ptr i77 0 0 0) = some (.v (.int .i64 n106))) ∧ callR Tryd.prog G 163 [v109, (.fn (.func 161) [] [(.ptr i3 0 0 0)])] h110 (fun v111 h112 =>
  (aLoad Tryd.prog h112 22 (.ptr i77 0 0 2) = some v108) ∧ (aLoad Tryd.prog h112 3 (.ptr i77 0 0 0) = some (.v (.int .i64 n106))) ∧ callR Tryd.prog G 90 [v108] h112 (fun v113 h114 =>
  (aLoad Tryd.prog h114 3 (.ptr i77 0 0 0) = some (.v (.int .i64 n106))) ∧ callR Tryd.prog G 163 [v113, (.fn (.func 161) [] [(.ptr i3 0 0 0)])] h114 (fun v115 h116 =>
  (aLoad Tryd.prog h116 3 (.ptr i77 0 0 0) = some (.v (.int .i64 n106))) ∧ okV (aBuild Tryd.prog 105 [(0, some (.v (.int .i64 (IntKind.wrap .i64 (n106 + 1))))), (1, some v111), (2, some v115)]) fun v117 =>
  newO (.cells 105 3 [[(.v (.int .i64 0)), (.v (.slice none 0 0)), (.v (.slice none 0 0))]] 0) h116 fun i118 h119 =>
  (aLoad Tryd.prog h119 22 (.ptr i77 0 0 2) = some v108) ∧ (aLoad Tryd.prog h119 22 (.ptr i77 0 0 1) = some v107) ∧ (aLoad Tryd.prog h119 3 (.ptr i77 0 0 0) = some (.v (.int .i64 n106))) ∧ storeR Tryd.prog h119 (fun v120 h121 =>
  newO (.cells 170 2 [[(.v (.int .i64 0)), (.v (.int .i64 0))]] 0) h121 fun i122 h123 =>
  storeR Tryd.prog h123 (fun v124 h125 =>
  okInt .i64 (aLoad Tryd.prog h125 3 (.ptr i0 0 0 0)) fun n167 =>
  condB (n167 == 3)
  (storeR Tryd.prog h125 (fun v168 h169 =>
  Tryd.r134_j127 h K a0 i3 n70 b105 i118 i122 h169) 170 (.agg [(.v (.int .i64 0)), (.v (.int .i64 (-1)))]) (.ptr i122 0 0 0))
  (condB (n167 == 4)
  (storeR Tryd.prog h125 (fun v170 h171 =>
  Tryd.r134_j127 h K a0 i3 n70 b105 i118 i122 h171) 3 (.v (.int .i64 3)) (.ptr i122 0 0 0))
  (condB (n167 == 6)
  (storeR Tryd.prog h125 (fun v172 h173 =>
  Tryd.r134_j127 h K a0 i3 n70 b105 i118 i122 h173) 3 (.v (.int .i64 2)) (.ptr i122 0 0 0))
  (condB (n167 == 5)
  (condB b105
  (storeR Tryd.prog h125 (fun v174 h175 =>
  Tryd.r134_j127 h K a0 i3 n70 b105 i118 i122 h175) 3 (.v (.int .i64 2)) (.ptr i122 0 0 0))
  (Tryd.r134_j127 h K a0 i3 n70 b105 i118 i122 h125))
  (Tryd.r134_j127 h K a0 i3 n70 b105 i118 i122 h125))))) 170 (.agg [(.v (.int .i64 1)), (.v (.int .i64 n70))]) (.ptr i122 0 0 0)) 105 v117 (.ptr i118 0 0 0)))))))) 105 v76 (.ptr i77 0 0 0)
def Tryd.r134 (G : Nat → Option AV) (a0 a1 : AV) (h : AH) (K : AV → AH → Prop) : Prop :=
  onlyB (AV.one a1) (newO (.cells 96 (AV.cells a1).length [AV.cells a1] 0) h fun i0 h1 =>
  okInt .i64 (aLoad Tryd.prog h1 3 (.ptr i0 0 0 2)) fun n2 =>
  newO (.cells 3 1 [[(.v (.int .i64 0))]] 0) h1 fun i3 h4 =>
  storeR Tryd.prog h4 (fun v5 h6 =>
  okInt .i64 (aLoad Tryd.prog h6 3 (.ptr i3 0 0 0)) fun n7 =>
  rGq (decide (n7 < 0)) false (aLoad Tryd.prog h6 3 (.ptr i3 0 0 0)) fun b8 v9 =>
  rGq b8 false (some a0) fun b10 v11 =>
  rGq b10 false (aNil v11) fun b12 v13 =>
  rGq b12 false (aFA Tryd.prog 173 0 v13) fun b14 v15 =>
  rGq b14 false (aLoad Tryd.prog h6 167 v15) fun b16 v17 =>
  rGq b16 false (aLen Tryd.prog h6 167 v17) fun b18 v19 =>
  rGq b18 false (aBin Tryd.prog .geq 3 v9 v19) fun b20 v21 =>
  okBool (pickR (some (.v (.bool b20))) (some (.v (.bool true))) (some v21)) fun b22 =>
  rGq b22 false (some (.ptr i0 0 0 1)) fun b23 v24 =>
  rGq b23 false (aLoad Tryd.prog h6 3 v24) fun b25 v26 =>
  rGq b25 false (aBin Tryd.prog .lss 3 v26 (.v (.int .i64 0))) fun b27 v28 =>
  okBool (pickR (some (.v (.bool b27))) (some (.v (.bool true))) (some v28)) fun b29 =>
  rGq b29 false (some (.ptr i0 0 0 0)) fun b30 v31 =>
  rGq b30 false (aLoad Tryd.prog h6 3 v31) fun b32 v33 =>
  rGq b32 false (aBin Tryd.prog .eql 3 v33 (.v (.int .i64 2))) fun b34 v35 =>
  rGq b34 false (some v35) fun b36 v37 =>
  okG (some v37) true fun b38 g0 =>
  rGq b38 true (some (.ptr i0 0 0 1)) fun b39 v40 =>
  okG (some (g0 b39)) true fun c1 g2 =>
  rGq c1 true (aLoad Tryd.prog h6 3 v40) fun b41 v42 =>
  okG (some (g2 b41)) true fun c3 g4 =>
  rGq c3 true (some a0) fun b43 v44 =>
  okG (some (g4 b43)) true fun c5 g6 =>
  rGq c5 true (aNil v44) fun b45 v46 =>
  okG (some (g6 b45)) true fun c7 g8 =>
  rGq c7 true (aFA Tryd.prog 173 1 v46) fun b47 v48 =>
  okG (some (g8 b47)) true fun c9 g10 =>
  rGq c9 true (aLoad Tryd.prog h6 97 v48) fun b49 v50 =>
  okG (some (g10 b49)) true fun c11 g12 =>
  rGq c11 true (aLen Tryd.prog h6 97 v50) fun b51 v52 =>
  okG (some (g12 b51)) true fun c13 g14 =>
  rGq c13 true (aBin Tryd.prog .geq 3 v42 v52) fun b53 v54 =>
  rGq b36 false (pickR (some (g14 b53)) (some v54) (some (.v (.bool false)))) fun b55 v56 =>
  okBool (pickR (some (.v (.bool b55))) (some (.v (.bool true))) (some v56)) fun b57 =>
  condB b57
  (RetR h K (.v (.int .i64 1)) h6)
  (okInt .i64 (aLoad Tryd.prog h6 3 (.ptr i0 0 0 0)) fun n58 =>
  okInt .i64 (aLoad Tryd.prog h6 3 (.ptr i3 0 0 0)) fun n59 =>
  callR Tryd.prog G 160 [a0, (.v (.int .i64 n58)), (.v (.int .i64 n59))] h6 (fun v60 h61 =>
  okBool (some v60) fun b62 =>
  condB (!b62)
  (RetR h K (.v (.int .i64 180)) h61)
  (okV (aNil a0) fun v63 =>
  okV (aFA Tryd.prog 173 0 v63) fun v64 =>
  okV (aLoad Tryd.prog h61 167 v64) fun v65 =>
  okInt .i64 (aLoad Tryd.prog h61 3 (.ptr i3 0 0 0)) fun n66 =>
  okV (aIA Tryd.prog h61 167 v65 (.v (.int .i64 n66))) fun v67 =>
  okV (aFA Tryd.prog 170 1 v67) fun v68 =>
  okInt .i64 (aLoad Tryd.prog h61 3 v68) fun n69 =>
  okInt .i64 (aLoad Tryd.prog h61 3 (.ptr i0 0 0 0)) fun n176 =>
  condB (n176 == 2)
  (okInt .i64 (aLoad Tryd.prog h61 3 (.ptr i0 0 0 1)) fun n177 =>
  Tryd.r134_j72 K h G a0 i0 i3 n177 h61)
  (Tryd.r134_j72 K h G a0 i0 i3 n69 h61))))) 3 (.v (.int .i64 n2)) (.ptr i3 0 0 0))
theorem Tryd.c134 (G : Nat → Option AV) (a0 a1 : AV) (h : AH) (K : AV → AH → Prop) (hk : LowH h.length h → Tryd.r134 G a0 a1 h K) : SCall Tryd.prog G 134 [a0, a1] h K :=
  scall_of_rwp Tryd.tab134 [] Tryd.func134 rfl Tryd.ntmps134 (by kernel_rfl) (by show 2 ≤ 163; decide) (by kernel_rfl) (by kernel_rfl) hk
-- 135 (*skylark/admin.Admin).make
def Tryd.r135_l14_83 (K : AV → AH → Prop) (h : AH) (G : Nat → Option AV) (i0 : Nat) (i2 : Nat) (h24 : AH) (v81 : AV) (n82 : Int) (n142 : Int) : Prop :=
  ∃ (I83 : Nat → List AV → AH → Prop) (m84 : Nat), I83 m84 [(.v (.int .i64 n142))] h24 ∧ ∀ (m85 : Nat) (h86 : AH), h24.length ≤ h86.length → LowH h86.length h86 → ∀ (n87 : Int), I83 m85 [(.v (.int .i64 n87))] h86 →
  condB (decide (n87 < n82))
  (okV (aIA Tryd.prog h86 22 v81 (.v (.int .i64 n87))) fun v88 =>
  okInt .i64 (aLoad Tryd.prog h86 3 v88) fun n89 =>
  okV (aLoad Tryd.prog h86 91 (.ptr i0 0 0 0)) fun v90 =>
  okV (aNil v90) fun v91 =>
  okV (aFA Tryd.prog 173 0 v91) fun v92 =>
  okV (aLoad Tryd.prog h86 167 v92) fun v93 =>
  okV (aLoad Tryd.prog h86 91 (.ptr i0 0 0 0)) fun v94 =>
  okV (aNil v94) fun v95 =>
  okV (aFA Tryd.prog 173 1 v95) fun v96 =>
  okV (aLoad Tryd.prog h86 97 v96) fun v97 =>
  okInt .i64 (aLen Tryd.prog h86 97 v97) fun n98 =>
  okV (aIA Tryd.prog h86 167 v93 (.v (.int .i64 n89))) fun v99 =>
  storeR Tryd.prog h86 (fun v100 h101 =>
  nextR h24 I83 m85 [some (.ptr i0 0 0 0), some (.ptr i2 0 0 0), some v81, some (.v (.int .i64 n82))] [some (.ptr i0 0 0 0), some (.ptr i2 0 0 0), some v81, some (.v (.int .i64 n82))] [(.v (.int .i64 (IntKind.wrap .i64 (n87 + 1))))] h101) 170 (.agg [(.v (.int .i64 2)), (.v (.int .i64 n98))]) v99)
  (okV (aLoad Tryd.prog h86 91 (.ptr i0 0 0 0)) fun v102 =>
  okV (aLoad Tryd.prog h86 91 (.ptr i0 0 0 0)) fun v103 =>
  okV (aNil v103) fun v104 =>
  okV (aFA Tryd.prog 173 1 v104) fun v105 =>
  okV (aLoad Tryd.prog h86 97 v105) fun v106 =>
  okV (aLoad Tryd.prog h86 22 (.ptr i2 0 0 4)) fun v107 =>
  callR Tryd.prog G 90 [v107] h86 (fun v108 h109 =>
  (aLoad Tryd.prog h109 97 v105 = some v106) ∧ (aLoad Tryd.prog h109 91 (.ptr i0 0 0 0) = some v103) ∧ (aLoad Tryd.prog h109 91 (.ptr i0 0 0 0) = some v102) ∧ okV (aBuild Tryd.prog 105 [(0, some (.v (.int .i64 1))), (1, some v108)]) fun v110 =>
  okP (rowsFill 3 (List.replicate 1 [(.v (.int .i64 0)), (.v (.slice none 0 0)), (.v (.slice none 0 0))]) [(0, some v110)]) fun r111 => newO (.cells 105 3 r111 0) h109 fun i112 h113 =>
  (aLoad Tryd.prog h113 97 v105 = some v106) ∧ (aLoad Tryd.prog h113 91 (.ptr i0 0 0 0) = some v103) ∧ (aLoad Tryd.prog h113 91 (.ptr i0 0 0 0) = some v102) ∧ appR Tryd.prog h113 97 97 v106 (.sl i112 0 0 1 none) (fun v114 h115 =>
  (aLoad Tryd.prog h115 91 (.ptr i0 0 0 0) = some v102) ∧ okV (aNil v102) fun v116 =>
  okV (aFA Tryd.prog 173 1 v116) fun v117 =>
  storeR Tryd.prog h115 (fun v118 h119 =>
  okV (aLoad Tryd.prog h119 91 (.ptr i0 0 0 0)) fun v120 =>
  okV (aLoad Tryd.prog h119 91 (.ptr i0 0 0 0)) fun v121 =>
  okV (aNil v121) fun v122 =>
  okV (aFA Tryd.prog 173 2 v122) fun v123 =>
  okV (aFA Tryd.prog 45 0 v123) fun v124 =>
  okInt .i64 (aLoad Tryd.prog h119 3 v124) fun n125 =>
  okV (aLoad Tryd.prog h119 91 (.ptr i0 0 0 0)) fun v126 =>
  okV (aNil v126) fun v127 =>
  okV (aFA Tryd.prog 173 2 v127) fun v128 =>
  okV (aFA Tryd.prog 45 1 v128) fun v129 =>
  okV (aLoad Tryd.prog h119 22 v129) fun v130 =>
  callR Tryd.prog G 90 [v130] h119 (fun v131 h132 =>
  (aLoad Tryd.prog h132 3 v124 = some (.v (.int .i64 n125))) ∧ (aLoad Tryd.prog h132 91 (.ptr i0 0 0 0) = some v121) ∧ (aLoad Tryd.prog h132 91 (.ptr i0 0 0 0) = some v120) ∧ newO (.cells 3 1 [[(.v (.int .i64 16))]] 0) h132 fun i133 h134 =>
  (aLoad Tryd.prog h134 22 v129 = some v130) ∧ (aLoad Tryd.prog h134 91 (.ptr i0 0 0 0) = some v126) ∧ (aLoad Tryd.prog h134 3 v124 = some (.v (.int .i64 n125))) ∧ (aLoad Tryd.prog h134 91 (.ptr i0 0 0 0) = some v121) ∧ (aLoad Tryd.prog h134 91 (.ptr i0 0 0 0) = some v120) ∧ appR Tryd.prog h134 22 22 v131 (.sl i133 0 0 1 none) (fun v135 h136 =>
  (aLoad Tryd.prog h136 3 v124 = some (.v (.int .i64 n125))) ∧ (aLoad Tryd.prog h136 91 (.ptr i0 0 0 0) = some v121) ∧ (aLoad Tryd.prog h136 91 (.ptr i0 0 0 0) = some v120) ∧ okV (aBuild Tryd.prog 45 [(0, some (.v (.int .i64 (IntKind.wrap .i64 (n125 + 1))))), (1, some v135)]) fun v137 =>
  okV (aNil v120) fun v138 =>
  okV (aFA Tryd.prog 173 2 v138) fun v139 =>
  storeR Tryd.prog h136 (fun v140 h141 =>
  RetR h K (.v (.int .i64 0)) h141) 45 v137 v139))) 97 v114 v117)))
def Tryd.r135_l6_21 (G : Nat → Option AV) (h : AH) (K : AV → AH → Prop) (i0 : Nat) (i2 : Nat) (h6 : AH) (v19 : AV) (n20 : Int) (n143 : Int) : Prop :=
  ∃ (I21 : Nat → List AV → AH → Prop) (m22 : Nat), I21 m22 [(.v (.int .i64 n143))] h6 ∧ ∀ (m23 : Nat) (h24 : AH), h6.length ≤ h24.length → LowH h24.length h24 → ∀ (n25 : Int), I21 m23 [(.v (.int .i64 n25))] h24 →
  condB (decide (n25 < n20))
  (okV (aIA Tryd.prog h24 22 v19 (.v (.int .i64 n25))) fun v26 =>
  okInt .i64 (aLoad Tryd.prog h24 3 v26) fun n27 =>
  okV (aLoad Tryd.prog h24 91 (.ptr i0 0 0 0)) fun v28 =>
  okV (aNil v28) fun v29 =>
  okV (aFA Tryd.prog 173 0 v29) fun v30 =>
  okV (aLoad Tryd.prog h24 167 v30) fun v31 =>
  okV (aIA Tryd.prog h24 167 v31 (.v (.int .i64 n27))) fun v32 =>
  okV (aFA Tryd.prog 170 0 v32) fun v33 =>
  okInt .i64 (aLoad Tryd.prog h24 3 v33) fun n34 =>
  rGq (n34 != 0) false (some (.ptr i2 0 0 4)) fun b35 v36 =>
  rGq b35 false (aLoad Tryd.prog h24 22 v36) fun b37 v38 =>
  rGq b37 false (some (.v (.int .i64 n25))) fun b39 v40 =>
  rGq b39 false (aSlice Tryd.prog h24 22 v38 none (some (some v40)) none) fun b41 v42 =>
  rGq b41 false (some (.v (.int .i64 n27))) fun b43 v44 =>
  rGe b43 false (fun k45 => callR Tryd.prog G 166 [v42, v44] h24 (fun v46 h47 =>
  k45 v46 h47)) h24 fun b48 v49 h50 =>
  okBool (pickR (some (.v (.bool b48))) (some (.v (.bool true))) (some v49)) fun b51 =>
  condB b51
  (RetR h K (.v (.int .i64 180)) h50)
  (nextR h6 I21 m23 [some (.ptr i0 0 0 0), some (.ptr i2 0 0 0), some v19, some (.v (.int .i64 n20))] [some (.ptr i0 0 0 0), some (.ptr i2 0 0 0), some v19, some (.v (.int .i64 n20))] [(.v (.int .i64 (IntKind.wrap .i64 (n25 + 1))))] h50))
  (okV (aLoad Tryd.prog h24 91 (.ptr i0 0 0 0)) fun v52 =>
  okV (aNil v52) fun v53 =>
  okV (aFA Tryd.prog 173 1 v53) fun v54 =>
  okV (aLoad Tryd.prog h24 97 v54) fun v55 =>
  okInt .i64 (aLen Tryd.prog h24 97 v55) fun n56 =>
  rGq (decide (n56 ≥ 8)) false (aLoad Tryd.prog h24 91 (.ptr i0 0 0 0)) fun b57 v58 =>
  rGq b57 false (aNil v58) fun b59 v60 =>
  rGq b59 false (aFA Tryd.prog 173 3 v60) fun b61 v62 =>
  rGq b61 false (aLoad Tryd.prog h24 171 v62) fun b63 v64 =>
  rGq b63 false (aBin Tryd.prog .neq 171 v64 (.v (.pointer none))) fun b65 v66 =>
  okBool (pickR (some (.v (.bool b65))) (some (.v (.bool true))) (some v66)) fun b67 =>
  rGq b67 false (aLoad Tryd.prog h24 91 (.ptr i0 0 0 0)) fun b68 v69 =>
  rGq b68 false (aNil v69) fun b70 v71 =>
  rGq b70 false (aFA Tryd.prog 173 2 v71) fun b72 v73 =>
  rGq b72 false (aFA Tryd.prog 45 0 v73) fun b74 v75 =>
  rGq b74 false (aLoad Tryd.prog h24 3 v75) fun b76 v77 =>
  rGq b76 false (aBin Tryd.prog .geq 3 v77 (.v (.int .i64 1073741824))) fun b78 v79 =>
  okBool (pickR (some (.v (.bool b78))) (some (.v (.bool true))) (some v79)) fun b80 =>
  condB b80
  (RetR h K (.v (.int .i64 2)) h24)
  (okV (aLoad Tryd.prog h24 22 (.ptr i2 0 0 4)) fun v81 =>
  okInt .i64 (aLen Tryd.prog h24 22 v81) fun n82 =>
  Tryd.r135_l14_83 K h G i0 i2 h24 v81 n82 0))
def Tryd.r135 (G : Nat → Option AV) (a0 a1 : AV) (h : AH) (K : AV → AH → Prop) : Prop :=
  onlyB (AV.one a0) (newO (.cells 91 (AV.cells a0).length [AV.cells a0] 0) h fun i0 h1 =>
  onlyB (AV.one a1) (newO (.cells 96 (AV.cells a1).length [AV.cells a1] 0) h1 fun i2 h3 =>
  okV (aLoad Tryd.prog h3 22 (.ptr i2 0 0 4)) fun v4 =>
  callR Tryd.prog G 164 [v4, (.fn (.func 165) [] [(.ptr i0 0 0 0)])] h3 (fun v5 h6 =>
  okBool (some v5) fun b7 =>
  condB b7
  (RetR h K (.v (.int .i64 1)) h6)
  (okV (aLoad Tryd.prog h6 22 (.ptr i2 0 0 4)) fun v8 =>
  okInt .i64 (aLen Tryd.prog h6 22 v8) fun n9 =>
  rGq (decide (n9 < 1)) false (some (.ptr i2 0 0 4)) fun b10 v11 =>
  rGq b10 false (aLoad Tryd.prog h6 22 v11) fun b12 v13 =>
  rGq b12 false (aLen Tryd.prog h6 22 v13) fun b14 v15 =>
  rGq b14 false (aBin Tryd.prog .gtr 3 v15 (.v (.int .i64 8))) fun b16 v17 =>
  okBool (pickR (some (.v (.bool b16))) (some (.v (.bool true))) (some v17)) fun b18 =>
  condB b18
  (RetR h K (.v (.int .i64 180)) h6)
  (okV (aLoad Tryd.prog h6 22 (.ptr i2 0 0 4)) fun v19 =>
  okInt .i64 (aLen Tryd.prog h6 22 v19) fun n20 =>
  Tryd.r135_l6_21 G h K i0 i2 h6 v19 n20 0)))))
theorem Tryd.c135 (G : Nat → Option AV) (a0 a1 : AV) (h : AH) (K : AV → AH → Prop) (hk : LowH h.length h → Tryd.r135 G a0 a1 h K) : SCall Tryd.prog G 135 [a0, a1] h K :=
  scall_of_rwp Tryd.tab135 [(6, [(26, (.int .i64))], [2, 3, 24, 25]), (14, [(73, (.int .i64))], [2, 3, 71, 72])] Tryd.func135 rfl Tryd.ntmps135 (by kernel_rfl) (by show 2 ≤ 121; decide) (by kernel_rfl) (by kernel_rfl) hk
-- 136 (*skylark/admin.Admin).begin
def Tryd.r136 (G : Nat → Option AV) (a0 a1 : AV) (h : AH) (K : AV → AH → Prop) : Prop :=
  onlyB (AV.one a1) (newO (.cells 96 (AV.cells a1).length [AV.cells a1] 0) h fun i0 h1 =>
  okV (aNil a0) fun v2 =>
  okV (aFA Tryd.prog 173 3 v2) fun v3 =>
  okV (aLoad Tryd.prog h1 171 v3) fun v4 =>
  okBool (aBin Tryd.prog .neq 171 v4 (.v (.pointer none))) fun b5 =>
  condB b5
  (RetR h K (.v (.int .i64 180)) h1)
  (okV (aNil a0) fun v6 =>
  okV (aFA Tryd.prog 173 2 v6) fun v7 =>
  okV (aFA Tryd.prog 45 0 v7) fun v8 =>
  okInt .i64 (aLoad Tryd.prog h1 3 v8) fun n9 =>
  condB (decide (n9 ≥ 1073741824))
  (RetR h K (.v (.int .i64 2)) h1)
  (okV (aNil a0) fun v10 =>
  okV (aFA Tryd.prog 173 2 v10) fun v11 =>
  okV (aLoad Tryd.prog h1 45 v11) fun v12 =>
  okV (aNil a0) fun v13 =>
  okV (aFA Tryd.prog 173 2 v13) fun v14 =>
  okV (aFA Tryd.prog 45 0 v14) fun v15 =>
  okInt .i64 (aLoad Tryd.prog h1 3 v15) fun n16 =>
  okV (aLoad Tryd.prog h1 22 (.ptr i0 0 0 4)) fun v17 =>
  callR Tryd.prog G 90 [v17] h1 (fun v18 h19 =>
  (aLoad Tryd.prog h19 3 v15 = some (.v (.int .i64 n16))) ∧ (aLoad Tryd.prog h19 45 v11 = some v12) ∧ okV (aBuild Tryd.prog 45 [(0, some (.v (.int .i64 (IntKind.wrap .i64 (n16 + 1))))), (1, some v18)]) fun v20 =>
  okV (aBuild Tryd.prog 48 [(0, some v12), (1, some v20)]) fun v21 =>
  newO (.cells 48 6 [[(.v (.int .i64 0)), (.v (.slice none 0 0)), (.v (.int .i64 0)), (.v (.slice none 0 0)), (.v (.string (ByteArray.mk #[]))), (.v (.bool false))]] 0) h19 fun i22 h23 =>
  (aLoad Tryd.prog h23 22 (.ptr i0 0 0 4) = some v17) ∧ (aLoad Tryd.prog h23 3 v15 = some (.v (.int .i64 n16))) ∧ (aLoad Tryd.prog h23 45 v11 = some v12) ∧ storeR Tryd.prog h23 (fun v24 h25 =>
  okV (aLoad Tryd.prog h25 22 (.ptr i0 0 0 4)) fun v26 =>
  okInt .i64 (aLen Tryd.prog h25 22 v26) fun n27 =>
  okV (aNil a0) fun v28 =>
  okV (aFA Tryd.prog 173 1 v28) fun v29 =>
  okV (aLoad Tryd.prog h25 97 v29) fun v30 =>
  okInt .i64 (aLen Tryd.prog h25 97 v30) fun n31 =>
  rGq (n27 != n31) false (aLoad Tryd.prog h25 48 (.ptr i22 0 0 0)) fun b32 v33 =>
  rGe b32 false (fun k34 => callR Tryd.prog G 44 [v33] h25 (fun v35 h36 =>
  k34 v35 h36)) h25 fun b37 v38 h39 =>
  rGq b37 false (aBin Tryd.prog .neq 25 v38 (.v (.int .i64 0))) fun b40 v41 =>
  okBool (pickR (some (.v (.bool b40))) (some (.v (.bool true))) (some v41)) fun b42 =>
  condB b42
  (RetR h K (.v (.int .i64 70)) h39)
  (okV (aNil a0) fun v43 =>
  okV (aFA Tryd.prog 173 3 v43) fun v44 =>
  storeR Tryd.prog h39 (fun v45 h46 =>
  RetR h K (.v (.int .i64 0)) h46) 171 (.ptr i22 0 0 0) v44)) 48 v21 (.ptr i22 0 0 0)))))
theorem Tryd.c136 (G : Nat → Option AV) (a0 a1 : AV) (h : AH) (K : AV → AH → Prop) (hk : LowH h.length h → Tryd.r136 G a0 a1 h K) : SCall Tryd.prog G 136 [a0, a1] h K :=
  scall_of_rwp Tryd.tab136 [] Tryd.func136 rfl Tryd.ntmps136 (by kernel_rfl) (by show 2 ≤ 51; decide) (by kernel_rfl) (by kernel_rfl) hk
-- 137 (*skylark/admin.Admin).moved
def Tryd.r137 (G : Nat → Option AV) (a0 a1 : AV) (h : AH) (K : AV → AH → Prop) : Prop :=
  onlyB (AV.one a1) (newO (.cells 96 (AV.cells a1).length [AV.cells a1] 0) h fun i0 h1 =>
  okV (aNil a0) fun v2 =>
  okV (aFA Tryd.prog 173 3 v2) fun v3 =>
  okV (aLoad Tryd.prog h1 171 v3) fun v4 =>
  okBool (aBin Tryd.prog .eql 171 v4 (.v (.pointer none))) fun b5 =>
  condB b5
  (RetR h K (.v (.int .i64 180)) h1)
  (okV (aNil a0) fun v6 =>
  okV (aFA Tryd.prog 173 3 v6) fun v7 =>
  okV (aLoad Tryd.prog h1 171 v7) fun v8 =>
  okV (aNil v8) fun v9 =>
  okV (aLoad Tryd.prog h1 48 v9) fun v10 =>
  okStr (aLoad Tryd.prog h1 9 (.ptr i0 0 0 5)) fun s11 =>
  callR Tryd.prog G 38 [v10, (.v (.string s11))] h1 (fun v12 h13 =>
  okV (extV 0 v12) fun v14 =>
  okInt .i64 (extV 1 v12) fun n15 =>
  newO (.cells 48 6 [[(.v (.int .i64 0)), (.v (.slice none 0 0)), (.v (.int .i64 0)), (.v (.slice none 0 0)), (.v (.string (ByteArray.mk #[]))), (.v (.bool false))]] 0) h13 fun i16 h17 =>
  (aLoad Tryd.prog h17 9 (.ptr i0 0 0 5) = some (.v (.string s11))) ∧ (aLoad Tryd.prog h17 48 v9 = some v10) ∧ (aLoad Tryd.prog h17 171 v7 = some v8) ∧ storeR Tryd.prog h17 (fun v18 h19 =>
  condB (n15 == 0)
  (okV (aNil a0) fun v20 =>
  okV (aFA Tryd.prog 173 3 v20) fun v21 =>
  storeR Tryd.prog h19 (fun v22 h23 =>
  RetR h K (.v (.int .i64 n15)) h23) 171 (.ptr i16 0 0 0) v21)
  (RetR h K (.v (.int .i64 n15)) h19)) 48 v14 (.ptr i16 0 0 0))))
theorem Tryd.c137 (G : Nat → Option AV) (a0 a1 : AV) (h : AH) (K : AV → AH → Prop) (hk : LowH h.length h → Tryd.r137 G a0 a1 h K) : SCall Tryd.prog G 137 [a0, a1] h K :=
  scall_of_rwp Tryd.tab137 [] Tryd.func137 rfl Tryd.ntmps137 (by kernel_rfl) (by show 2 ≤ 30; decide) (by kernel_rfl) (by kernel_rfl) hk
-- 138 (*skylark/admin.Admin).done
def Tryd.r138 (a0 a1 : AV) (h : AH) (K : AV → AH → Prop) : Prop :=
  onlyB (AV.one a1) (newO (.cells 96 (AV.cells a1).length [AV.cells a1] 0) h fun i0 h1 =>
  okV (aNil a0) fun v2 =>
  okV (aFA Tryd.prog 173 3 v2) fun v3 =>
  okV (aLoad Tryd.prog h1 171 v3) fun v4 =>
  okBool (aBin Tryd.prog .eql 171 v4 (.v (.pointer none))) fun b5 =>
  condB b5
  (RetR h K (.v (.int .i64 180)) h1)
  (okV (aNil a0) fun v6 =>
  okV (aFA Tryd.prog 173 3 v6) fun v7 =>
  okV (aLoad Tryd.prog h1 171 v7) fun v8 =>
  okV (aNil v8) fun v9 =>
  okV (aFA Tryd.prog 48 1 v9) fun v10 =>
  okV (aLoad Tryd.prog h1 45 v10) fun v11 =>
  okV (aNil a0) fun v12 =>
  okV (aFA Tryd.prog 173 2 v12) fun v13 =>
  storeR Tryd.prog h1 (fun v14 h15 =>
  okV (aNil a0) fun v16 =>
  okV (aFA Tryd.prog 173 3 v16) fun v17 =>
  storeR Tryd.prog h15 (fun v18 h19 =>
  RetR h K (.v (.int .i64 0)) h19) 171 (.v (.pointer none)) v17) 45 v11 v13))
theorem Tryd.c138 (G : Nat → Option AV) (a0 a1 : AV) (h : AH) (K : AV → AH → Prop) (hk : LowH h.length h → Tryd.r138 a0 a1 h K) : SCall Tryd.prog G 138 [a0, a1] h K :=
  scall_of_rwp Tryd.tab138 [] Tryd.func138 rfl Tryd.ntmps138 (by kernel_rfl) (by show 2 ≤ 23; decide) (by kernel_rfl) (by kernel_rfl) hk
-- 139 skylark/code.number
def Tryd.r139_l3_1 (K : AV → AH → Prop) (h : AH) (G : Nat → Option AV) (a0 : AV) (a1 : AV) (n15 : Int) (n16 : Int) : Prop :=
  ∃ (I1 : Nat → List AV → AH → Prop) (m2 : Nat), I1 m2 [(.v (.int .i64 n15)), (.v (.int .u64 n16))] h ∧ ∀ (m3 : Nat) (h4 : AH), h.length ≤ h4.length → LowH h4.length h4 → ∀ (n5 : Int) (n6 : Int), I1 m3 [(.v (.int .i64 n5)), (.v (.int .u64 n6))] h4 →
  condB (decide (n6 > 0))
  (okInt .u64 (aBin Tryd.prog .shr 35 (.v (.int .u64 n6)) (.v (.int .u64 8))) fun n7 =>
  nextR h I1 m3 [some a0, some a1] [some a0, some a1] [(.v (.int .i64 (IntKind.wrap .i64 (n5 + 1)))), (.v (.int .u64 n7))] h4)
  (newO (.cells 5 1 [[(.v (.int .u8 (IntKind.wrap .u8 n5)))]] 0) h4 fun i8 h9 =>
  appR Tryd.prog h9 227 227 a0 (.sl i8 0 0 1 none) (fun v10 h11 =>
  okInt .i64 (some a1) fun n12 =>
  callR Tryd.prog G 167 [v10, (.v (.int .u64 (IntKind.wrap .u64 n12))), (.v (.int .i64 n5))] h11 (fun v13 h14 =>
  RetR h K v13 h14)))
def Tryd.r139 (G : Nat → Option AV) (a0 a1 : AV) (h : AH) (K : AV → AH → Prop) : Prop :=
  okInt .i64 (some a1) fun n0 =>
  Tryd.r139_l3_1 K h G a0 a1 0 (IntKind.wrap .u64 n0)
theorem Tryd.c139 (G : Nat → Option AV) (a0 a1 : AV) (h : AH) (K : AV → AH → Prop) (hk : LowH h.length h → Tryd.r139 G a0 a1 h K) : SCall Tryd.prog G 139 [a0, a1] h K :=
  scall_of_rwp Tryd.tab139 [(3, [(5, (.int .i64)), (6, (.int .u64))], [0, 1])] Tryd.func139 rfl Tryd.ntmps139 (by kernel_rfl) (by show 2 ≤ 24; decide) (by kernel_rfl) (by kernel_rfl) hk
-- 140 skylark/code.field
def Tryd.r140 (G : Nat → Option AV) (a0 : AV) (h : AH) (K : AV → AH → Prop) : Prop :=
  newO (.cells 182 3 [[(.v (.bool false)), (.v (.int .i64 0)), (.v (.string (ByteArray.mk #[])))]] 0) h fun i0 h1 =>
  okStr (some a0) fun s2 =>
  okInt .u8 (aIndex Tryd.prog 9 (.v (.string s2)) (.v (.int .i64 0))) fun n3 =>
  rGq (n3 != 78) true (some (.v (.int .u8 n3))) fun b4 v5 =>
  rGq b4 true (aBin Tryd.prog .neq 5 v5 (.v (.int .u8 84))) fun b6 v7 =>
  okBool (pickR (some (.v (.bool b6))) (some v7) (some (.v (.bool false)))) fun b8 =>
  condB b8
  (okV (aLoad Tryd.prog h1 182 (.ptr i0 0 0 0)) fun v9 =>
  storeR Tryd.prog h1 (fun v10 h11 =>
  okV (aLoad Tryd.prog h11 182 (.ptr i0 0 0 0)) fun v12 =>
  RetR h K (.tup [v12, (.v (.string (ByteArray.mk #[]))), (.v (.int .i64 3))]) h11) 182 v9 (.ptr i0 0 0 0))
  (okStr (some a0) fun s13 =>
  condB (decide (((ByteArray.size s13 : Nat) : Int) < 2))
  (okV (aLoad Tryd.prog h1 182 (.ptr i0 0 0 0)) fun v14 =>
  storeR Tryd.prog h1 (fun v15 h16 =>
  okV (aLoad Tryd.prog h16 182 (.ptr i0 0 0 0)) fun v17 =>
  RetR h K (.tup [v17, (.v (.string (ByteArray.mk #[]))), (.v (.int .i64 11))]) h16) 182 v14 (.ptr i0 0 0 0))
  (okStr (some a0) fun s18 =>
  okInt .u8 (aIndex Tryd.prog 9 (.v (.string s18)) (.v (.int .i64 1))) fun n19 =>
  okStr (some a0) fun s20 =>
  okStr (aSlice Tryd.prog h1 9 (.v (.string s20)) (some (some (.v (.int .i64 2)))) none none) fun s21 =>
  condB (decide ((IntKind.wrap .i64 n19) > 8))
  (okV (aLoad Tryd.prog h1 182 (.ptr i0 0 0 0)) fun v22 =>
  storeR Tryd.prog h1 (fun v23 h24 =>
  okV (aLoad Tryd.prog h24 182 (.ptr i0 0 0 0)) fun v25 =>
  RetR h K (.tup [v25, (.v (.string (ByteArray.mk #[]))), (.v (.int .i64 3))]) h24) 182 v22 (.ptr i0 0 0 0))
  (condB (decide (((ByteArray.size s21 : Nat) : Int) < (IntKind.wrap .i64 n19)))
  (okV (aLoad Tryd.prog h1 182 (.ptr i0 0 0 0)) fun v26 =>
  storeR Tryd.prog h1 (fun v27 h28 =>
  okV (aLoad Tryd.prog h28 182 (.ptr i0 0 0 0)) fun v29 =>
  RetR h K (.tup [v29, (.v (.string (ByteArray.mk #[]))), (.v (.int .i64 11))]) h28) 182 v26 (.ptr i0 0 0 0))
  (rGq (decide ((IntKind.wrap .i64 n19) > 0)) true (some (.v (.string s21))) fun b30 v31 =>
  rGq b30 true (some (.v (.int .i64 (IntKind.wrap .i64 n19)))) fun b32 v33 =>
  rGq b32 true (aBin Tryd.prog .sub 3 v33 (.v (.int .i64 1))) fun b34 v35 =>
  rGq b34 true (aIndex Tryd.prog 9 v31 v35) fun b36 v37 =>
  rGq b36 true (aBin Tryd.prog .eql 5 v37 (.v (.int .u8 0))) fun b38 v39 =>
  okBool (pickR (some (.v (.bool b38))) (some v39) (some (.v (.bool false)))) fun b40 =>
  condB b40
  (okV (aLoad Tryd.prog h1 182 (.ptr i0 0 0 0)) fun v41 =>
  storeR Tryd.prog h1 (fun v42 h43 =>
  okV (aLoad Tryd.prog h43 182 (.ptr i0 0 0 0)) fun v44 =>
  RetR h K (.tup [v44, (.v (.string (ByteArray.mk #[]))), (.v (.int .i64 3))]) h43) 182 v41 (.ptr i0 0 0 0))
  (okStr (aSlice Tryd.prog h1 9 (.v (.string s21)) none (some (some (.v (.int .i64 (IntKind.wrap .i64 n19))))) none) fun s45 =>
  callR Tryd.prog G 168 [(.v (.string s45))] h1 (fun v46 h47 =>
  okInt .u64 (some v46) fun n48 =>
  okStr (aSlice Tryd.prog h47 9 (.v (.string s21)) (some (some (.v (.int .i64 (IntKind.wrap .i64 n19))))) none none) fun s49 =>
  condB (n3 == 78)
  (storeR Tryd.prog h47 (fun v50 h51 =>
  okV (aLoad Tryd.prog h51 182 (.ptr i0 0 0 0)) fun v52 =>
  RetR h K (.tup [v52, (.v (.string s49)), (.v (.int .i64 0))]) h51) 182 (.agg [(.v (.bool false)), (.v (.int .i64 (IntKind.wrap .i64 n48))), (.v (.string (ByteArray.mk #[])))]) (.ptr i0 0 0 0))
  (rGq (decide ((IntKind.wrap .i64 n48) < 0)) false (some (.v (.int .i64 (IntKind.wrap .i64 n48)))) fun b53 v54 =>
  rGq b53 false (aBin Tryd.prog .gtr 2 v54 (.v (.int .i64 262144))) fun b55 v56 =>
  okBool (pickR (some (.v (.bool b55))) (some (.v (.bool true))) (some v56)) fun b57 =>
  condB b57
  (okV (aLoad Tryd.prog h47 182 (.ptr i0 0 0 0)) fun v58 =>
  storeR Tryd.prog h47 (fun v59 h60 =>
  okV (aLoad Tryd.prog h60 182 (.ptr i0 0 0 0)) fun v61 =>
  RetR h K (.tup [v61, (.v (.string (ByteArray.mk #[]))), (.v (.int .i64 3))]) h60) 182 v58 (.ptr i0 0 0 0))
  (condB (decide (((ByteArray.size s49 : Nat) : Int) < (IntKind.wrap .i64 n48)))
  (okV (aLoad Tryd.prog h47 182 (.ptr i0 0 0 0)) fun v62 =>
  storeR Tryd.prog h47 (fun v63 h64 =>
  okV (aLoad Tryd.prog h64 182 (.ptr i0 0 0 0)) fun v65 =>
  RetR h K (.tup [v65, (.v (.string (ByteArray.mk #[]))), (.v (.int .i64 11))]) h64) 182 v62 (.ptr i0 0 0 0))
  (okStr (aSlice Tryd.prog h47 9 (.v (.string s49)) none (some (some (.v (.int .i64 (IntKind.wrap .i64 n48))))) none) fun s66 =>
  okStr (aSlice Tryd.prog h47 9 (.v (.string s49)) (some (some (.v (.int .i64 (IntKind.wrap .i64 n48))))) none none) fun s67 =>
  storeR Tryd.prog h47 (fun v68 h69 =>
  (aSlice Tryd.prog h69 9 (.v (.string s49)) (some (some (.v (.int .i64 (IntKind.wrap .i64 n48))))) none none = some (.v (.string s67))) ∧ okV (aLoad Tryd.prog h69 182 (.ptr i0 0 0 0)) fun v70 =>
  RetR h K (.tup [v70, (.v (.string s67)), (.v (.int .i64 0))]) h69) 182 (.agg [(.v (.bool true)), (.v (.int .i64 0)), (.v (.string s66))]) (.ptr i0 0 0 0))))))))))
theorem Tryd.c140 (G : Nat → Option AV) (a0 : AV) (h : AH) (K : AV → AH → Prop) (hk : LowH h.length h → Tryd.r140 G a0 h K) : SCall Tryd.prog G 140 [a0] h K :=
  scall_of_rwp Tryd.tab140 [] Tryd.func140 rfl Tryd.ntmps140 (by kernel_rfl) (by show 1 ≤ 84; decide) (by kernel_rfl) (by kernel_rfl) hk
-- 146 cmp.Or[int]
def Tryd.r146_l3_1 (K : AV → AH → Prop) (h : AH) (a0 : AV) (n0 : Int) (n8 : Int) : Prop :=
  ∃ (I1 : Nat → List AV → AH → Prop) (m2 : Nat), I1 m2 [(.v (.int .i64 n8))] h ∧ ∀ (m3 : Nat) (h4 : AH), h.length ≤ h4.length → LowH h4.length h4 → ∀ (n5 : Int), I1 m3 [(.v (.int .i64 n5))] h4 →
  condB (decide (n5 < n0))
  (okV (aIA Tryd.prog h4 22 a0 (.v (.int .i64 n5))) fun v6 =>
  okInt .i64 (aLoad Tryd.prog h4 3 v6) fun n7 =>
  condB (n7 != 0)
  (RetR h K (.v (.int .i64 n7)) h4)
  (nextR h I1 m3 [some (.v (.int .i64 0)), some a0, some (.v (.int .i64 n0))] [some (.v (.int .i64 0)), some a0, some (.v (.int .i64 n0))] [(.v (.int .i64 (IntKind.wrap .i64 (n5 + 1))))] h4))
  (RetR h K (.v (.int .i64 0)) h4)
def Tryd.r146 (a0 : AV) (h : AH) (K : AV → AH → Prop) : Prop :=
  okInt .i64 (aLen Tryd.prog h 22 a0) fun n0 =>
  Tryd.r146_l3_1 K h a0 n0 0
theorem Tryd.c146 (G : Nat → Option AV) (a0 : AV) (h : AH) (K : AV → AH → Prop) (hk : LowH h.length h → Tryd.r146 a0 h K) : SCall Tryd.prog G 146 [a0] h K :=
  scall_of_rwp Tryd.tab146 [(3, [(8, (.int .i64))], [3, 6, 7])] Tryd.func146 rfl Tryd.ntmps146 (by kernel_rfl) (by show 1 ≤ 18; decide) (by kernel_rfl) (by kernel_rfl) hk
-- 153 slices.SortFunc[skylark/ring.ring,skylark/ring.point]
def Tryd.r153 (G : Nat → Option AV) (a0 a1 : AV) (h : AH) (K : AV → AH → Prop) : Prop :=
  okInt .i64 (aLen Tryd.prog h 128 a0) fun n0 =>
  callR Tryd.prog G 177 [(.v (.int .u64 (IntKind.wrap .u64 n0)))] h (fun v1 h2 =>
  okInt .i64 (some v1) fun n3 =>
  callR Tryd.prog G 176 [a0, (.v (.int .i64 0)), (.v (.int .i64 n0)), (.v (.int .i64 n3)), a1] h2 (fun v4 h5 =>
  RetR h K (.tup []) h5))
theorem Tryd.c153 (G : Nat → Option AV) (a0 a1 : AV) (h : AH) (K : AV → AH → Prop) (hk : LowH h.length h → Tryd.r153 G a0 a1 h K) : SCall Tryd.prog G 153 [a0, a1] h K :=
  scall_of_rwp Tryd.tab153 [] Tryd.func153 rfl Tryd.ntmps153 (by kernel_rfl) (by show 2 ≤ 14; decide) (by kernel_rfl) (by kernel_rfl) hk
-- 154 cmp.Compare[int]
def Tryd.r154 (G : Nat → Option AV) (a0 a1 : AV) (h : AH) (K : AV → AH → Prop) : Prop :=
  okInt .i64 (some a0) fun n0 =>
  callR Tryd.prog G 178 [(.v (.int .i64 n0))] h (fun v1 h2 =>
  okBool (some v1) fun b3 =>
  okInt .i64 (some a1) fun n4 =>
  callR Tryd.prog G 178 [(.v (.int .i64 n4))] h2 (fun v5 h6 =>
  okBool (some v5) fun b7 =>
  condB b3
  (condB b7
  (RetR h K (.v (.int .i64 0)) h6)
  (RetR h K (.v (.int .i64 (-1))) h6))
  (condB b7
  (RetR h K (.v (.int .i64 1)) h6)
  (okInt .i64 (some a0) fun n8 =>
  okInt .i64 (some a1) fun n9 =>
  condB (decide (n8 < n9))
  (RetR h K (.v (.int .i64 (-1))) h6)
  (okInt .i64 (some a0) fun n10 =>
  okInt .i64 (some a1) fun n11 =>
  condB (decide (n10 > n11))
  (RetR h K (.v (.int .i64 1)) h6)
  (RetR h K (.v (.int .i64 0)) h6))))))
theorem Tryd.c154 (G : Nat → Option AV) (a0 a1 : AV) (h : AH) (K : AV → AH → Prop) (hk : LowH h.length h → Tryd.r154 G a0 a1 h K) : SCall Tryd.prog G 154 [a0, a1] h K :=
  scall_of_rwp Tryd.tab154 [] Tryd.func154 rfl Tryd.ntmps154 (by kernel_rfl) (by show 2 ≤ 20; decide) (by kernel_rfl) (by kernel_rfl) hk
-- 155 cmp.isNaN[uint64]
def Tryd.r155 (a0 : AV) (h : AH) (K : AV → AH → Prop) : Prop :=
  okInt .u64 (some a0) fun n0 =>
  okInt .u64 (some a0) fun n1 =>
  RetR h K (.v (.bool (n0 != n1))) h
theorem Tryd.c155 (G : Nat → Option AV) (a0 : AV) (h : AH) (K : AV → AH → Prop) (hk : LowH h.length h → Tryd.r155 a0 h K) : SCall Tryd.prog G 155 [a0] h K :=
  scall_of_rwp Tryd.tab155 [] Tryd.func155 rfl Tryd.ntmps155 (by kernel_rfl) (by show 1 ≤ 6; decide) (by kernel_rfl) (by kernel_rfl) hk
-- 159 math/bits.Mul64
def Tryd.r159 (a0 a1 : AV) (h : AH) (K : AV → AH → Prop) : Prop :=
  okInt .u64 (some a0) fun n0 =>
  okInt .u64 (aBin Tryd.prog .and 35 (.v (.int .u64 n0)) (.v (.int .u64 4294967295))) fun n1 =>
  okInt .u64 (some a0) fun n2 =>
  okInt .u64 (aBin Tryd.prog .shr 35 (.v (.int .u64 n2)) (.v (.int .u64 32))) fun n3 =>
  okInt .u64 (some a1) fun n4 =>
  okInt .u64 (aBin Tryd.prog .and 35 (.v (.int .u64 n4)) (.v (.int .u64 4294967295))) fun n5 =>
  okInt .u64 (some a1) fun n6 =>
  okInt .u64 (aBin Tryd.prog .shr 35 (.v (.int .u64 n6)) (.v (.int .u64 32))) fun n7 =>
  okInt .u64 (aBin Tryd.prog .shr 35 (.v (.int .u64 (IntKind.wrap .u64 (n1 * n5)))) (.v (.int .u64 32))) fun n8 =>
  okInt .u64 (aBin Tryd.prog .and 35 (.v (.int .u64 (IntKind.wrap .u64 ((IntKind.wrap .u64 (n3 * n5)) + n8)))) (.v (.int .u64 4294967295))) fun n9 =>
  okInt .u64 (aBin Tryd.prog .shr 35 (.v (.int .u64 (IntKind.wrap .u64 ((IntKind.wrap .u64 (n3 * n5)) + n8)))) (.v (.int .u64 32))) fun n10 =>
  okInt .u64 (aBin Tryd.prog .shr 35 (.v (.int .u64 (IntKind.wrap .u64 (n9 + (IntKind.wrap .u64 (n1 * n7)))))) (.v (.int .u64 32))) fun n11 =>
  okInt .u64 (some a0) fun n12 =>
  okInt .u64 (some a1) fun n13 =>
  RetR h K (.tup [(.v (.int .u64 (IntKind.wrap .u64 ((IntKind.wrap .u64 ((IntKind.wrap .u64 (n3 * n7)) + n10)) + n11)))), (.v (.int .u64 (IntKind.wrap .u64 (n12 * n13))))]) h
theorem Tryd.c159 (G : Nat → Option AV) (a0 a1 : AV) (h : AH) (K : AV → AH → Prop) (hk : LowH h.length h → Tryd.r159 a0 a1 h K) : SCall Tryd.prog G 159 [a0, a1] h K :=
  scall_of_rwp Tryd.tab159 [] Tryd.func159 rfl Tryd.ntmps159 (by kernel_rfl) (by show 2 ≤ 51; decide) (by kernel_rfl) (by kernel_rfl) hk
-- 160 (*skylark/admin.Admin).may
def Tryd.r160 (G : Nat → Option AV) (a0 a1 a2 : AV) (h : AH) (K : AV → AH → Prop) : Prop :=
  okV (aNil a0) fun v0 =>
  okV (aFA Tryd.prog 173 0 v0) fun v1 =>
  okV (aLoad Tryd.prog h 167 v1) fun v2 =>
  okInt .i64 (some a2) fun n3 =>
  okV (aIA Tryd.prog h 167 v2 (.v (.int .i64 n3))) fun v4 =>
  okV (aFA Tryd.prog 170 0 v4) fun v5 =>
  okInt .i64 (aLoad Tryd.prog h 3 v5) fun n6 =>
  okInt .i64 (some a1) fun n7 =>
  condB (n7 == 2)
  (RetR h K (.v (.bool (n6 == 0))) h)
  (condB (n7 == 3)
  (rGq (n6 != 0) true (some a0) fun b8 v9 =>
  rGq b8 true (some a2) fun b10 v11 =>
  rGe b10 true (fun k12 => callR Tryd.prog G 162 [v9, v11] h (fun v13 h14 =>
  k12 v13 h14)) h fun b15 v16 h17 =>
  rGq b15 true (aUn .not v16) fun b18 v19 =>
  okBool (pickR (some (.v (.bool b18))) (some v19) (some (.v (.bool false)))) fun b20 =>
  RetR h K (.v (.bool b20)) h17)
  (condB (n7 == 4)
  (rGq (n6 == 2) false (some (.v (.int .i64 n6))) fun b21 v22 =>
  rGq b21 false (aBin Tryd.prog .eql 3 v22 (.v (.int .i64 1))) fun b23 v24 =>
  okBool (pickR (some (.v (.bool b23))) (some (.v (.bool true))) (some v24)) fun b25 =>
  RetR h K (.v (.bool b25)) h)
  (condB (n7 == 5)
  (RetR h K (.v (.bool (n6 == 3))) h)
  (rGq (n6 == 1) true (some a0) fun b26 v27 =>
  rGq b26 true (aNil v27) fun b28 v29 =>
  rGq b28 true (aFA Tryd.prog 173 0 v29) fun b30 v31 =>
  rGq b30 true (aLoad Tryd.prog h 167 v31) fun b32 v33 =>
  rGq b32 true (some a0) fun b34 v35 =>
  rGq b34 true (aNil v35) fun b36 v37 =>
  rGq b36 true (aFA Tryd.prog 173 1 v37) fun b38 v39 =>
  rGq b38 true (aLoad Tryd.prog h 97 v39) fun b40 v41 =>
  rGq b40 true (some a0) fun b42 v43 =>
  rGq b42 true (aNil v43) fun b44 v45 =>
  rGq b44 true (aFA Tryd.prog 173 0 v45) fun b46 v47 =>
  rGq b46 true (aLoad Tryd.prog h 167 v47) fun b48 v49 =>
  rGq b48 true (some a2) fun b50 v51 =>
  rGq b50 true (aIA Tryd.prog h 167 v49 v51) fun b52 v53 =>
  rGq b52 true (aFA Tryd.prog 170 1 v53) fun b54 v55 =>
  rGq b54 true (aLoad Tryd.prog h 3 v55) fun b56 v57 =>
  rGq b56 true (aIA Tryd.prog h 97 v41 v57) fun b58 v59 =>
  rGq b58 true (aFA Tryd.prog 105 1 v59) fun b60 v61 =>
  rGq b60 true (aLoad Tryd.prog h 22 v61) fun b62 v63 =>
  rGq b62 true (aIA Tryd.prog h 22 v63 (.v (.int .i64 0))) fun b64 v65 =>
  rGq b64 true (aLoad Tryd.prog h 3 v65) fun b66 v67 =>
  rGq b66 true (aIA Tryd.prog h 167 v33 v67) fun b68 v69 =>
  rGq b68 true (aFA Tryd.prog 170 0 v69) fun b70 v71 =>
  rGq b70 true (aLoad Tryd.prog h 3 v71) fun b72 v73 =>
  rGq b72 true (aBin Tryd.prog .neq 3 v73 (.v (.int .i64 3))) fun b74 v75 =>
  okBool (pickR (some (.v (.bool b74))) (some v75) (some (.v (.bool false)))) fun b76 =>
  RetR h K (.v (.bool b76)) h))))
theorem Tryd.c160 (G : Nat → Option AV) (a0 a1 a2 : AV) (h : AH) (K : AV → AH → Prop) (hk : LowH h.length h → Tryd.r160 G a0 a1 a2 h K) : SCall Tryd.prog G 160 [a0, a1, a2] h K :=
  scall_of_rwp Tryd.tab160 [] Tryd.func160 rfl Tryd.ntmps160 (by kernel_rfl) (by show 3 ≤ 72; decide) (by kernel_rfl) (by kernel_rfl) hk
-- 161 (*skylark/admin.Admin).onBrick$1
def Tryd.r161 (a0 a1 : AV) (h : AH) (K : AV → AH → Prop) : Prop :=
  okInt .i64 (some a0) fun n0 =>
  okInt .i64 (aLoad Tryd.prog h 3 a1) fun n1 =>
  RetR h K (.v (.bool (n0 == n1))) h
theorem Tryd.c161 (G : Nat → Option AV) (a0 a1 : AV) (h : AH) (K : AV → AH → Prop) (hk : LowH h.length h → Tryd.r161 a0 a1 h K) : SCall Tryd.prog G 161 [a0, a1] h K :=
  scall_of_rwp Tryd.tab161 [] Tryd.func161 rfl Tryd.ntmps161 (by kernel_rfl) (by show 2 ≤ 7; decide) (by kernel_rfl) (by kernel_rfl) hk
-- 162 (*skylark/admin.Admin).alone
def Tryd.r162 (G : Nat → Option AV) (a0 a1 : AV) (h : AH) (K : AV → AH → Prop) : Prop :=
  okV (aNil a0) fun v0 =>
  okV (aFA Tryd.prog 173 1 v0) fun v1 =>
  okV (aLoad Tryd.prog h 97 v1) fun v2 =>
  okV (aNil a0) fun v3 =>
  okV (aFA Tryd.prog 173 0 v3) fun v4 =>
  okV (aLoad Tryd.prog h 167 v4) fun v5 =>
  okInt .i64 (some a1) fun n6 =>
  okV (aIA Tryd.prog h 167 v5 (.v (.int .i64 n6))) fun v7 =>
  okV (aFA Tryd.prog 170 1 v7) fun v8 =>
  okInt .i64 (aLoad Tryd.prog h 3 v8) fun n9 =>
  okV (aIA Tryd.prog h 97 v2 (.v (.int .i64 n9))) fun v10 =>
  okV (aFA Tryd.prog 105 1 v10) fun v11 =>
  okV (aLoad Tryd.prog h 22 v11) fun v12 =>
  okInt .i64 (some a1) fun n13 =>
  newO (.cells 3 1 [[(.v (.int .i64 n13))]] 0) h fun i14 h15 =>
  (aLoad Tryd.prog h15 22 v11 = some v12) ∧ (aIA Tryd.prog h15 97 v2 (.v (.int .i64 n9)) = some v10) ∧ (aLoad Tryd.prog h15 3 v8 = some (.v (.int .i64 n9))) ∧ (aIA Tryd.prog h15 167 v5 (.v (.int .i64 n6)) = some v7) ∧ (aLoad Tryd.prog h15 167 v4 = some v5) ∧ (aLoad Tryd.prog h15 97 v1 = some v2) ∧ callR Tryd.prog G 86 [v12, (.sl i14 0 0 1 none)] h15 (fun v16 h17 =>
  okBool (some v16) fun b18 =>
  RetR h K (.v (.bool b18)) h17)
theorem Tryd.c162 (G : Nat → Option AV) (a0 a1 : AV) (h : AH) (K : AV → AH → Prop) (hk : LowH h.length h → Tryd.r162 G a0 a1 h K) : SCall Tryd.prog G 162 [a0, a1] h K :=
  scall_of_rwp Tryd.tab162 [] Tryd.func162 rfl Tryd.ntmps162 (by kernel_rfl) (by show 2 ≤ 23; decide) (by kernel_rfl) (by kernel_rfl) hk
-- 163 slices.DeleteFunc[[]int,int]
def Tryd.r163_l5_3 (K : AV → AH → Prop) (h : AH) (G : Nat → Option AV) (a0 : AV) (a1 : AV) (h1 : AH) (n22 : Int) (n23 : Int) : Prop :=
  ∃ (I3 : Nat → List AV → AH → Prop) (m4 : Nat), I3 m4 [(.v (.int .i64 n22)), (.v (.int .i64 n23))] h1 ∧ ∀ (m5 : Nat) (h6 : AH), h1.length ≤ h6.length → LowH h6.length h6 → ∀ (n7 : Int) (n8 : Int), I3 m5 [(.v (.int .i64 n7)), (.v (.int .i64 n8))] h6 →
  okInt .i64 (aLen Tryd.prog h6 22 a0) fun n9 =>
  condB (decide (n8 < n9))
  (okV (aIA Tryd.prog h6 22 a0 (.v (.int .i64 n8))) fun v10 =>
  okInt .i64 (aLoad Tryd.prog h6 3 v10) fun n11 =>
  callU Tryd.prog G h6 (fun v12 h13 =>
  okBool (some v12) fun b14 =>
  condB (!b14)
  (okV (aIA Tryd.prog h13 22 a0 (.v (.int .i64 n7))) fun v15 =>
  storeR Tryd.prog h13 (fun v16 h17 =>
  nextR h1 I3 m5 [some a0, some a1] [some a0, some a1] [(.v (.int .i64 (IntKind.wrap .i64 (n7 + 1)))), (.v (.int .i64 (IntKind.wrap .i64 (n8 + 1))))] h17) 3 (.v (.int .i64 n11)) v15)
  (nextR h1 I3 m5 [some a0, some a1] [some a0, some a1] [(.v (.int .i64 n7)), (.v (.int .i64 (IntKind.wrap .i64 (n8 + 1))))] h13)) [(.v (.int .i64 n11))] a1)
  (okV (aSlice Tryd.prog h6 22 a0 (some (some (.v (.int .i64 n7)))) none none) fun v18 =>
  clearR Tryd.prog h6 22 v18 (fun v19 h20 =>
  okV (aSlice Tryd.prog h20 22 a0 none (some (some (.v (.int .i64 n7)))) none) fun v21 =>
  RetR h K v21 h20))
def Tryd.r163 (G : Nat → Option AV) (a0 a1 : AV) (h : AH) (K : AV → AH → Prop) : Prop :=
  callR Tryd.prog G 179 [a0, a1] h (fun v0 h1 =>
  okInt .i64 (some v0) fun n2 =>
  condB (n2 == (-1))
  (RetR h K a0 h1)
  (Tryd.r163_l5_3 K h G a0 a1 h1 n2 (IntKind.wrap .i64 (n2 + 1))))
theorem Tryd.c163 (G : Nat → Option AV) (a0 a1 : AV) (h : AH) (K : AV → AH → Prop) (hk : LowH h.length h → Tryd.r163 G a0 a1 h K) : SCall Tryd.prog G 163 [a0, a1] h K :=
  scall_of_rwp Tryd.tab163 [(5, [(5, (.int .i64)), (6, (.int .i64))], [0, 1])] Tryd.func163 rfl Tryd.ntmps163 (by kernel_rfl) (by show 2 ≤ 42; decide) (by kernel_rfl) (by kernel_rfl) hk
-- 164 slices.ContainsFunc[[]int,int]
def Tryd.r164 (G : Nat → Option AV) (a0 a1 : AV) (h : AH) (K : AV → AH → Prop) : Prop :=
  callR Tryd.prog G 179 [a0, a1] h (fun v0 h1 =>
  okInt .i64 (some v0) fun n2 =>
  RetR h K (.v (.bool (decide (n2 ≥ 0)))) h1)
theorem Tryd.c164 (G : Nat → Option AV) (a0 a1 : AV) (h : AH) (K : AV → AH → Prop) (hk : LowH h.length h → Tryd.r164 G a0 a1 h K) : SCall Tryd.prog G 164 [a0, a1] h K :=
  scall_of_rwp Tryd.tab164 [] Tryd.func164 rfl Tryd.ntmps164 (by kernel_rfl) (by show 2 ≤ 9; decide) (by kernel_rfl) (by kernel_rfl) hk
-- 165 (*skylark/admin.Admin).make$1
def Tryd.r165 (a0 a1 : AV) (h : AH) (K : AV → AH → Prop) : Prop :=
  okInt .i64 (some a0) fun n0 =>
  rGq (decide (n0 < 0)) false (some a0) fun b1 v2 =>
  rGq b1 false (aLoad Tryd.prog h 91 a1) fun b3 v4 =>
  rGq b3 false (aNil v4) fun b5 v6 =>
  rGq b5 false (aFA Tryd.prog 173 0 v6) fun b7 v8 =>
  rGq b7 false (aLoad Tryd.prog h 167 v8) fun b9 v10 =>
  rGq b9 false (aLen Tryd.prog h 167 v10) fun b11 v12 =>
  rGq b11 false (aBin Tryd.prog .geq 3 v2 v12) fun b13 v14 =>
  okBool (pickR (some (.v (.bool b13))) (some (.v (.bool true))) (some v14)) fun b15 =>
  RetR h K (.v (.bool b15)) h
theorem Tryd.c165 (G : Nat → Option AV) (a0 a1 : AV) (h : AH) (K : AV → AH → Prop) (hk : LowH h.length h → Tryd.r165 a0 a1 h K) : SCall Tryd.prog G 165 [a0, a1] h K :=
  scall_of_rwp Tryd.tab165 [] Tryd.func165 rfl Tryd.ntmps165 (by kernel_rfl) (by show 2 ≤ 15; decide) (by kernel_rfl) (by kernel_rfl) hk
-- 166 slices.Contains[[]int,int]
def Tryd.r166 (G : Nat → Option AV) (a0 a1 : AV) (h : AH) (K : AV → AH → Prop) : Prop :=
  okInt .i64 (some a1) fun n0 =>
  callR Tryd.prog G 180 [a0, (.v (.int .i64 n0))] h (fun v1 h2 =>
  okInt .i64 (some v1) fun n3 =>
  RetR h K (.v (.bool (decide (n3 ≥ 0)))) h2)
theorem Tryd.c166 (G : Nat → Option AV) (a0 a1 : AV) (h : AH) (K : AV → AH → Prop) (hk : LowH h.length h → Tryd.r166 G a0 a1 h K) : SCall Tryd.prog G 166 [a0, a1] h K :=
  scall_of_rwp Tryd.tab166 [] Tryd.func166 rfl Tryd.ntmps166 (by kernel_rfl) (by show 2 ≤ 9; decide) (by kernel_rfl) (by kernel_rfl) hk
-- 167 skylark/code.low[uint64]
def Tryd.r167 (G : Nat → Option AV) (a0 a1 a2 : AV) (h : AH) (K : AV → AH → Prop) : Prop :=
  okInt .u64 (some a1) fun n0 =>
  okInt .i64 (some a2) fun n1 =>
  callR Tryd.prog G 181 [(.agg [(.v (.int .u64 n0)), (.v (.int .i64 n1))]), a0] h (fun v2 h3 =>
  RetR h K v2 h3)
theorem Tryd.c167 (G : Nat → Option AV) (a0 a1 a2 : AV) (h : AH) (K : AV → AH → Prop) (hk : LowH h.length h → Tryd.r167 G a0 a1 a2 h K) : SCall Tryd.prog G 167 [a0, a1, a2] h K :=
  scall_of_rwp Tryd.tab167 [] Tryd.func167 rfl Tryd.ntmps167 (by kernel_rfl) (by show 3 ≤ 12; decide) (by kernel_rfl) (by kernel_rfl) hk
-- 168 skylark/code.unlow[uint64]
def Tryd.r168_l2_1 (K : AV → AH → Prop) (h : AH) (a0 : AV) (n11 : Int) (n12 : Int) : Prop :=
  ∃ (I1 : Nat → List AV → AH → Prop) (m2 : Nat), I1 m2 [(.v (.int .u64 n11)), (.v (.int .i64 n12))] h ∧ ∀ (m3 : Nat) (h4 : AH), h.length ≤ h4.length → LowH h4.length h4 → ∀ (n5 : Int) (n6 : Int), I1 m3 [(.v (.int .u64 n5)), (.v (.int .i64 n6))] h4 →
  condB (decide (n6 ≥ 0))
  (okInt .u64 (aBin Tryd.prog .shl 35 (.v (.int .u64 n5)) (.v (.int .u64 8))) fun n7 =>
  okStr (some a0) fun s8 =>
  okInt .u8 (aIndex Tryd.prog 9 (.v (.string s8)) (.v (.int .i64 n6))) fun n9 =>
  okInt .u64 (aBin Tryd.prog .or 35 (.v (.int .u64 n7)) (.v (.int .u64 (IntKind.wrap .u64 n9)))) fun n10 =>
  nextR h I1 m3 [some a0] [some a0] [(.v (.int .u64 n10)), (.v (.int .i64 (IntKind.wrap .i64 (n6 - 1))))] h4)
  (RetR h K (.v (.int .u64 n5)) h4)
def Tryd.r168 (a0 : AV) (h : AH) (K : AV → AH → Prop) : Prop :=
  okStr (some a0) fun s0 =>
  Tryd.r168_l2_1 K h a0 0 (IntKind.wrap .i64 (((ByteArray.size s0 : Nat) : Int) - 1))
theorem Tryd.c168 (G : Nat → Option AV) (a0 : AV) (h : AH) (K : AV → AH → Prop) (hk : LowH h.length h → Tryd.r168 a0 h K) : SCall Tryd.prog G 168 [a0] h K :=
  scall_of_rwp Tryd.tab168 [(2, [(2, (.int .u64)), (3, (.int .i64))], [0])] Tryd.func168 rfl Tryd.ntmps168 (by kernel_rfl) (by show 1 ≤ 19; decide) (by kernel_rfl) (by kernel_rfl) hk
-- 178 cmp.isNaN[int]
def Tryd.r178 (a0 : AV) (h : AH) (K : AV → AH → Prop) : Prop :=
  okInt .i64 (some a0) fun n0 =>
  okInt .i64 (some a0) fun n1 =>
  RetR h K (.v (.bool (n0 != n1))) h
theorem Tryd.c178 (G : Nat → Option AV) (a0 : AV) (h : AH) (K : AV → AH → Prop) (hk : LowH h.length h → Tryd.r178 a0 h K) : SCall Tryd.prog G 178 [a0] h K :=
  scall_of_rwp Tryd.tab178 [] Tryd.func178 rfl Tryd.ntmps178 (by kernel_rfl) (by show 1 ≤ 6; decide) (by kernel_rfl) (by kernel_rfl) hk
-- 179 slices.IndexFunc[[]int,int]
def Tryd.r179_l2_1 (K : AV → AH → Prop) (h : AH) (G : Nat → Option AV) (a0 : AV) (a1 : AV) (n0 : Int) (n11 : Int) : Prop :=
  ∃ (I1 : Nat → List AV → AH → Prop) (m2 : Nat), I1 m2 [(.v (.int .i64 n11))] h ∧ ∀ (m3 : Nat) (h4 : AH), h.length ≤ h4.length → LowH h4.length h4 → ∀ (n5 : Int), I1 m3 [(.v (.int .i64 n5))] h4 →
  condB (decide (n5 < n0))
  (okV (aIA Tryd.prog h4 22 a0 (.v (.int .i64 n5))) fun v6 =>
  okInt .i64 (aLoad Tryd.prog h4 3 v6) fun n7 =>
  callU Tryd.prog G h4 (fun v8 h9 =>
  okBool (some v8) fun b10 =>
  condB b10
  (RetR h K (.v (.int .i64 n5)) h9)
  (nextR h I1 m3 [some a0, some a1, some (.v (.int .i64 n0))] [some a0, some a1, some (.v (.int .i64 n0))] [(.v (.int .i64 (IntKind.wrap .i64 (n5 + 1))))] h9)) [(.v (.int .i64 n7))] a1)
  (RetR h K (.v (.int .i64 (-1))) h4)
def Tryd.r179 (G : Nat → Option AV) (a0 a1 : AV) (h : AH) (K : AV → AH → Prop) : Prop :=
  okInt .i64 (aLen Tryd.prog h 22 a0) fun n0 =>
  Tryd.r179_l2_1 K h G a0 a1 n0 0
theorem Tryd.c179 (G : Nat → Option AV) (a0 a1 : AV) (h : AH) (K : AV → AH → Prop) (hk : LowH h.length h → Tryd.r179 G a0 a1 h K) : SCall Tryd.prog G 179 [a0, a1] h K :=
  scall_of_rwp Tryd.tab179 [(2, [(8, (.int .i64))], [0, 1, 7])] Tryd.func179 rfl Tryd.ntmps179 (by kernel_rfl) (by show 2 ≤ 19; decide) (by kernel_rfl) (by kernel_rfl) hk
-- 180 slices.Index[[]int,int]
def Tryd.r180_l2_1 (K : AV → AH → Prop) (h : AH) (a0 : AV) (a1 : AV) (n0 : Int) (n9 : Int) : Prop :=
  ∃ (I1 : Nat → List AV → AH → Prop) (m2 : Nat), I1 m2 [(.v (.int .i64 n9))] h ∧ ∀ (m3 : Nat) (h4 : AH), h.length ≤ h4.length → LowH h4.length h4 → ∀ (n5 : Int), I1 m3 [(.v (.int .i64 n5))] h4 →
  condB (decide (n5 < n0))
  (okInt .i64 (some a1) fun n6 =>
  okV (aIA Tryd.prog h4 22 a0 (.v (.int .i64 n5))) fun v7 =>
  okInt .i64 (aLoad Tryd.prog h4 3 v7) fun n8 =>
  condB (n6 == n8)
  (RetR h K (.v (.int .i64 n5)) h4)
  (nextR h I1 m3 [some a0, some a1, some (.v (.int .i64 n0))] [some a0, some a1, some (.v (.int .i64 n0))] [(.v (.int .i64 (IntKind.wrap .i64 (n5 + 1))))] h4))
  (RetR h K (.v (.int .i64 (-1))) h4)
def Tryd.r180 (a0 a1 : AV) (h : AH) (K : AV → AH → Prop) : Prop :=
  okInt .i64 (aLen Tryd.prog h 22 a0) fun n0 =>
  Tryd.r180_l2_1 K h a0 a1 n0 0
theorem Tryd.c180 (G : Nat → Option AV) (a0 a1 : AV) (h : AH) (K : AV → AH → Prop) (hk : LowH h.length h → Tryd.r180 a0 a1 h K) : SCall Tryd.prog G 180 [a0, a1] h K :=
  scall_of_rwp Tryd.tab180 [(2, [(8, (.int .i64))], [0, 1, 7])] Tryd.func180 rfl Tryd.ntmps180 (by kernel_rfl) (by show 2 ≤ 19; decide) (by kernel_rfl) (by kernel_rfl) hk
-- 181 (skylark/code.little[uint64]).onto
def Tryd.r181_l2_3 (K : AV → AH → Prop) (h : AH) (i0 : Nat) (h1 : AH) (n2 : Int) (v18 : AV) (n19 : Int) : Prop :=
  ∃ (I3 : Nat → List AV → AH → Prop) (m4 : Nat), I3 m4 [v18, (.v (.int .i64 n19))] h1 ∧ ∀ (m5 : Nat) (h6 : AH), h1.length ≤ h6.length → LowH h6.length h6 → ∀ (v7 : AV) (n8 : Int), I3 m5 [v7, (.v (.int .i64 n8))] h6 →
  condB (decide (n8 < n2))
  (okInt .u64 (aLoad Tryd.prog h6 35 (.ptr i0 0 0 0)) fun n9 =>
  newO (.cells 5 1 [[(.v (.int .u8 (IntKind.wrap .u8 n9)))]] 0) h6 fun i10 h11 =>
  appR Tryd.prog h11 227 227 v7 (.sl i10 0 0 1 none) (fun v12 h13 =>
  okInt .u64 (aLoad Tryd.prog h13 35 (.ptr i0 0 0 0)) fun n14 =>
  okInt .u64 (aBin Tryd.prog .shr 35 (.v (.int .u64 n14)) (.v (.int .u64 8))) fun n15 =>
  storeR Tryd.prog h13 (fun v16 h17 =>
  nextR h1 I3 m5 [some (.ptr i0 0 0 0), some (.v (.int .i64 n2))] [some (.ptr i0 0 0 0), some (.v (.int .i64 n2))] [v12, (.v (.int .i64 (IntKind.wrap .i64 (n8 + 1))))] h17) 35 (.v (.int .u64 n15)) (.ptr i0 0 0 0)))
  (RetR h K v7 h6)
def Tryd.r181 (a0 a1 : AV) (h : AH) (K : AV → AH → Prop) : Prop :=
  onlyB (AV.one a0) (newO (.cells 264 (AV.cells a0).length [AV.cells a0] 0) h fun i0 h1 =>
  okInt .i64 (aLoad Tryd.prog h1 3 (.ptr i0 0 0 1)) fun n2 =>
  Tryd.r181_l2_3 K h i0 h1 n2 a1 0)
theorem Tryd.c181 (G : Nat → Option AV) (a0 a1 : AV) (h : AH) (K : AV → AH → Prop) (hk : LowH h.length h → Tryd.r181 a0 a1 h K) : SCall Tryd.prog G 181 [a0, a1] h K :=
  scall_of_rwp Tryd.tab181 [(2, [(1, .any), (7, (.int .i64))], [2, 6])] Tryd.func181 rfl Tryd.ntmps181 (by kernel_rfl) (by show 2 ≤ 21; decide) (by kernel_rfl) (by kernel_rfl) hk
end Go.Proofs


