/-
  Of each function its body as a plain statement, and that a call follows from it: printed by wip/gen/Res.lean.
-/
import Derived.Test.YtbkehjgnaogcdaaGreatDoorFn
import Derived.Test.YtbkehjgnaogcdaaGreatDoorAbH
import Derived.KernelRfl
set_option linter.all false
namespace Go.Proofs
open Go Go.Abs
set_option linter.unusedVariables false
set_option maxRecDepth 100000
-- 5 skylark/skylarklaw24.ClientLearns
def Tryz.r5_l34_123 (K : AV → AH → Prop) (h : AH) (G : Nat → Option AV) (a2 : AV) (v4 : AV) (v23 : AV) (n46 : Int) (v93 : AV) (n98 : Int) (n99 : Int) (b100 : Bool) (h119 : AH) (n120 : Int) (n122 : Int) (n268 : Int) : Prop :=
  ∃ (I123 : Nat → List AV → AH → Prop) (m124 : Nat), I123 m124 [(.v (.int .i64 n268))] h119 ∧ ∀ (m125 : Nat) (h126 : AH), h119.length ≤ h126.length → LowH h126.length h126 → ∀ (n127 : Int), I123 m125 [(.v (.int .i64 n127))] h126 →
  condB (decide (n127 < n122))
  (okV (aIA Tryz.prog h126 49 v23 (.v (.int .i64 n127))) fun v128 =>
  okV (aFA Tryz.prog 79 1 v128) fun v129 =>
  okStr (aLoad Tryz.prog h126 9 v129) fun s130 =>
  callR Tryz.prog G 35 [a2, (.v (.string s130))] h126 (fun v131 h132 =>
  okInt .i64 (extV 0 v131) fun n133 =>
  okInt .i64 (extV 1 v131) fun n134 =>
  condB (n133 != n120)
  (callR Tryz.prog G 29 [v4] h132 (fun v135 h136 =>
  okV (extV 0 v135) fun v137 =>
  okInt .i64 (extV 1 v135) fun n138 =>
  newO (.cells 59 5 [[(.v (.int .i64 0)), (.v (.int .i64 0)), (.v (.slice none 0 0)), (.v (.int .i64 0)), (.v (.int .i64 0))]] 0) h136 fun i139 h140 =>
  storeR Tryz.prog h140 (fun v141 h142 =>
  rGq (n138 == 0) true (some (.ptr i139 0 0 3)) fun b143 v144 =>
  rGq b143 true (aLoad Tryz.prog h142 57 v144) fun b145 v146 =>
  rGq b145 true (some (.v (.int .i64 n127))) fun b147 v148 =>
  rGq b147 true (aBuild Tryz.prog 57 [(0, some v148), (1, some (.v (.int .i64 220)))]) fun b149 v150 =>
  rGq b149 true (aBin Tryz.prog .eql 57 v146 v150) fun b151 v152 =>
  okBool (pickR (some (.v (.bool b151))) (some v152) (some (.v (.bool false)))) fun b153 =>
  rGq b153 true (some v93) fun b154 v155 =>
  rGq b154 true (aLen Tryz.prog h142 67 v155) fun b156 v157 =>
  rGq b156 true (aBin Tryz.prog .eql 3 v157 (.v (.int .i64 0))) fun b158 v159 =>
  okBool (pickR (some (.v (.bool b158))) (some v159) (some (.v (.bool false)))) fun b160 =>
  rGq b160 true (some (.v (.bool b100))) fun b161 v162 =>
  rGq b161 true (aUn .not v162) fun b163 v164 =>
  okBool (pickR (some (.v (.bool b163))) (some v164) (some (.v (.bool false)))) fun b165 =>
  RetR h K (.v (.bool b165)) h142) 59 v137 (.ptr i139 0 0 0)))
  (nextR h119 I123 m125 [some (.v (.int .i64 n46)), some a2, some v4, some v23, some v93, some (.v (.int .i64 n98)), some (.v (.int .i64 n99)), some (.v (.bool b100)), some (.v (.int .i64 n120)), some (.v (.int .i64 n122))] [some (.v (.int .i64 n46)), some a2, some v4, some v23, some v93, some (.v (.int .i64 n98)), some (.v (.int .i64 n99)), some (.v (.bool b100)), some (.v (.int .i64 n120)), some (.v (.int .i64 n122))] [(.v (.int .i64 (IntKind.wrap .i64 (n127 + 1))))] h132)))
  (okInt .i64 (aLen Tryz.prog h126 67 v93) fun n166 =>
  rGq (n166 != 1) false (some v93) fun b167 v168 =>
  rGq b167 false (aIA Tryz.prog h126 67 v168 (.v (.int .i64 0))) fun b169 v170 =>
  rGq b169 false (aFA Tryz.prog 81 0 v170) fun b171 v172 =>
  rGq b171 false (aLoad Tryz.prog h126 3 v172) fun b173 v174 =>
  rGq b173 false (some (.v (.int .i64 n120))) fun b175 v176 =>
  rGq b175 false (aBin Tryz.prog .neq 3 v174 v176) fun b177 v178 =>
  okBool (pickR (some (.v (.bool b177))) (some (.v (.bool true))) (some v178)) fun b179 =>
  rGq b179 false (some (.v (.int .i64 n99))) fun b180 v181 =>
  rGq b180 false (some (.v (.int .i64 n46))) fun b182 v183 =>
  rGq b182 false (aBin Tryz.prog .neq 3 v181 v183) fun b184 v185 =>
  okBool (pickR (some (.v (.bool b184))) (some (.v (.bool true))) (some v185)) fun b186 =>
  rGq b186 false (some (.v (.bool b100))) fun b187 v188 =>
  rGq b187 false (aUn .not v188) fun b189 v190 =>
  okBool (pickR (some (.v (.bool b189))) (some (.v (.bool true))) (some v190)) fun b191 =>
  rGq b191 false (some (.v (.int .i64 n98))) fun b192 v193 =>
  rGq b192 false (aBin Tryz.prog .neq 3 v193 (.v (.int .i64 1))) fun b194 v195 =>
  okBool (pickR (some (.v (.bool b194))) (some (.v (.bool true))) (some v195)) fun b196 =>
  condB b196
  (RetR h K (.v (.bool false)) h126)
  (okV (aIA Tryz.prog h126 67 v93 (.v (.int .i64 0))) fun v197 =>
  okV (aFA Tryz.prog 81 1 v197) fun v198 =>
  okStr (aLoad Tryz.prog h126 9 v198) fun s199 =>
  callR Tryz.prog G 36 [(.v (.string s199))] h126 (fun v200 h201 =>
  okV (extV 0 v200) fun v202 =>
  okV (extV 1 v200) fun v203 =>
  newO (.cells 57 2 [[(.v (.int .i64 0)), (.v (.int .i64 0))]] 0) h201 fun i204 h205 =>
  storeR Tryz.prog h205 (fun v206 h207 =>
  okV (aLoad Tryz.prog h207 57 (.ptr i204 0 0 0)) fun v208 =>
  okBool (aBin Tryz.prog .neq 57 v208 (.agg [(.v (.int .i64 0)), (.v (.int .i64 0))])) fun b209 =>
  rGq b209 false (some v202) fun b210 v211 =>
  rGq b210 false (aLen Tryz.prog h207 71 v211) fun b212 v213 =>
  rGq b212 false (aBin Tryz.prog .neq 3 v213 (.v (.int .i64 2))) fun b214 v215 =>
  okBool (pickR (some (.v (.bool b214))) (some (.v (.bool true))) (some v215)) fun b216 =>
  rGq b216 false (some v202) fun b217 v218 =>
  rGq b217 false (aIA Tryz.prog h207 71 v218 (.v (.int .i64 0))) fun b219 v220 =>
  rGq b219 false (aFA Tryz.prog 70 1 v220) fun b221 v222 =>
  rGq b221 false (aLoad Tryz.prog h207 2 v222) fun b223 v224 =>
  rGq b223 false (some (.v (.int .i64 n46))) fun b225 v226 =>
  rGq b225 false (aBin Tryz.prog .neq 2 v224 v226) fun b227 v228 =>
  okBool (pickR (some (.v (.bool b227))) (some (.v (.bool true))) (some v228)) fun b229 =>
  condB b229
  (RetR h K (.v (.bool false)) h207)
  (okV (aIA Tryz.prog h207 71 v202 (.v (.int .i64 1))) fun v230 =>
  okV (aFA Tryz.prog 70 2 v230) fun v231 =>
  okStr (aLoad Tryz.prog h207 9 v231) fun s232 =>
  callR Tryz.prog G 37 [(.v (.string s232))] h207 (fun v233 h234 =>
  okV (extV 0 v233) fun v235 =>
  okInt .i64 (extV 1 v233) fun n236 =>
  newO (.cells 85 3 [[(.v (.int .i64 0)), (.v (.int .i64 0)), (.v (.slice none 0 0))]] 0) h234 fun i237 h238 =>
  storeR Tryz.prog h238 (fun v239 h240 =>
  rGq (n236 == 0) true (some (.ptr i237 0 0 0)) fun b241 v242 =>
  rGq b241 true (aLoad Tryz.prog h240 3 v242) fun b243 v244 =>
  rGq b243 true (aBin Tryz.prog .eql 3 v244 (.v (.int .i64 5))) fun b245 v246 =>
  okBool (pickR (some (.v (.bool b245))) (some v246) (some (.v (.bool false)))) fun b247 =>
  rGq b247 true (some (.ptr i237 0 0 1)) fun b248 v249 =>
  rGq b248 true (aLoad Tryz.prog h240 3 v249) fun b250 v251 =>
  rGq b250 true (aBin Tryz.prog .eql 3 v251 (.v (.int .i64 1))) fun b252 v253 =>
  okBool (pickR (some (.v (.bool b252))) (some v253) (some (.v (.bool false)))) fun b254 =>
  rGq b254 true (some (.ptr i237 0 0 2)) fun b255 v256 =>
  rGq b255 true (aLoad Tryz.prog h240 49 v256) fun b257 v258 =>
  rGq b257 true (some v23) fun b259 v260 =>
  rGe b259 true (fun k261 => callR Tryz.prog G 38 [v258, v260] h240 (fun v262 h263 =>
  k261 v262 h263)) h240 fun b264 v265 h266 =>
  okBool (pickR (some (.v (.bool b264))) (some v265) (some (.v (.bool false)))) fun b267 =>
  RetR h K (.v (.bool b267)) h266) 85 v235 (.ptr i237 0 0 0)))) 57 v203 (.ptr i204 0 0 0))))
def Tryz.r5_l16_50 (G : Nat → Option AV) (h : AH) (K : AV → AH → Prop) (a2 : AV) (v4 : AV) (v23 : AV) (n46 : Int) (h48 : AH) (n49 : Int) (v269 : AV) (n270 : Int) : Prop :=
  ∃ (I50 : Nat → List AV → AH → Prop) (m51 : Nat), I50 m51 [v269, (.v (.int .i64 n270))] h48 ∧ ∀ (m52 : Nat) (h53 : AH), h48.length ≤ h53.length → LowH h53.length h53 → ∀ (v54 : AV) (n55 : Int), I50 m52 [v54, (.v (.int .i64 n55))] h53 →
  condB (decide (n55 < n49))
  (okV (aIA Tryz.prog h53 31 a2 (.v (.int .i64 n55))) fun v56 =>
  okInt .i64 (aLoad Tryz.prog h53 3 v56) fun n57 =>
  newO (.cells 70 3 [[(.v (.bool false)), (.v (.int .i64 n57)), (.v (.string (ByteArray.mk #[])))]] 0) h53 fun i58 h59 =>
  appR Tryz.prog h59 71 71 v54 (.sl i58 0 0 1 none) (fun v60 h61 =>
  nextR h48 I50 m52 [some (.v (.int .i64 n46)), some a2, some v4, some v23, some a2, some (.v (.int .i64 n49))] [some (.v (.int .i64 n46)), some a2, some v4, some v23, some a2, some (.v (.int .i64 n49))] [v60, (.v (.int .i64 (IntKind.wrap .i64 (n55 + 1))))] h61))
  (callR Tryz.prog G 32 [v54] h53 (fun v62 h63 =>
  okStr (extV 0 v62) fun s64 =>
  okInt .i64 (extV 1 v62) fun n65 =>
  condB (n65 != 0)
  (RetR h K (.v (.bool true)) h63)
  (callR Tryz.prog G 28 [v4, (.v (.string s64)), (.v (.int .i64 1))] h63 (fun v66 h67 =>
  okInt .i64 (some v66) fun n68 =>
  rGq (n46 == 0) false (some a2) fun b69 v70 =>
  rGe b69 false (fun k71 => callR Tryz.prog G 33 [v70] h67 (fun v72 h73 =>
  k71 v72 h73)) h67 fun b74 v75 h76 =>
  rGq b74 false (aBin Tryz.prog .neq 24 v75 (.v (.int .i64 0))) fun b77 v78 =>
  okBool (pickR (some (.v (.bool b77))) (some (.v (.bool true))) (some v78)) fun b79 =>
  condB b79
  (rGq (n68 == 3) true (some v4) fun b80 v81 =>
  rGe b80 true (fun k82 => callR Tryz.prog G 31 [v81] h76 (fun v83 h84 =>
  k82 v83 h84)) h76 fun b85 v86 h87 =>
  rGq b85 true (aLen Tryz.prog h87 67 v86) fun b88 v89 =>
  rGq b88 true (aBin Tryz.prog .eql 3 v89 (.v (.int .i64 0))) fun b90 v91 =>
  okBool (pickR (some (.v (.bool b90))) (some v91) (some (.v (.bool false)))) fun b92 =>
  RetR h K (.v (.bool b92)) h87)
  (callR Tryz.prog G 31 [v4] h76 (fun v93 h94 =>
  callR Tryz.prog G 34 [v4] h94 (fun v95 h96 =>
  okInt .i64 (extV 0 v95) fun n97 =>
  okInt .i64 (extV 1 v95) fun n98 =>
  okInt .i64 (extV 2 v95) fun n99 =>
  okBool (extV 3 v95) fun b100 =>
  condB (n68 != 0)
  (RetR h K (.v (.bool false)) h96)
  (condB (decide (n46 ≤ 5))
  (okInt .i64 (aLen Tryz.prog h96 67 v93) fun n101 =>
  rGq (n101 == 0) true (some (.v (.int .i64 n99))) fun b102 v103 =>
  rGq b102 true (aBin Tryz.prog .eql 3 v103 (.v (.int .i64 5))) fun b104 v105 =>
  okBool (pickR (some (.v (.bool b104))) (some v105) (some (.v (.bool false)))) fun b106 =>
  rGq b106 true (some (.v (.bool b100))) fun b107 v108 =>
  okBool (pickR (some (.v (.bool b107))) (some v108) (some (.v (.bool false)))) fun b109 =>
  rGq b109 true (some (.v (.int .i64 n98))) fun b110 v111 =>
  rGq b110 true (aBin Tryz.prog .eql 3 v111 (.v (.int .i64 1))) fun b112 v113 =>
  okBool (pickR (some (.v (.bool b112))) (some v113) (some (.v (.bool false)))) fun b114 =>
  RetR h K (.v (.bool b114)) h96)
  (okV (aIA Tryz.prog h96 49 v23 (.v (.int .i64 0))) fun v115 =>
  okV (aFA Tryz.prog 79 1 v115) fun v116 =>
  okStr (aLoad Tryz.prog h96 9 v116) fun s117 =>
  callR Tryz.prog G 35 [a2, (.v (.string s117))] h96 (fun v118 h119 =>
  okInt .i64 (extV 0 v118) fun n120 =>
  okInt .i64 (extV 1 v118) fun n121 =>
  okInt .i64 (aLen Tryz.prog h119 49 v23) fun n122 =>
  Tryz.r5_l34_123 K h G a2 v4 v23 n46 v93 n98 n99 b100 h119 n120 n122 0))))))))))
def Tryz.r5_l6_19 (K : AV → AH → Prop) (h : AH) (G : Nat → Option AV) (a0 : AV) (a1 : AV) (a2 : AV) (v4 : AV) (h7 : AH) (v271 : AV) (n272 : Int) : Prop :=
  ∃ (I19 : Nat → List AV → AH → Prop) (m20 : Nat), I19 m20 [v271, (.v (.int .i64 n272))] h7 ∧ ∀ (m21 : Nat) (h22 : AH), h7.length ≤ h22.length → LowH h22.length h22 → ∀ (v23 : AV) (n24 : Int), I19 m21 [v23, (.v (.int .i64 n24))] h22 →
  okInt .i64 (aLen Tryz.prog h22 42 a0) fun n25 =>
  rGq (decide (n24 < n25)) true (some (.v (.int .i64 n24))) fun b26 v27 =>
  rGq b26 true (aBin Tryz.prog .lss 3 v27 (.v (.int .i64 6))) fun b28 v29 =>
  okBool (pickR (some (.v (.bool b28))) (some v29) (some (.v (.bool false)))) fun b30 =>
  condB b30
  (okV (aIA Tryz.prog h22 42 a0 (.v (.int .i64 n24))) fun v31 =>
  okStr (aLoad Tryz.prog h22 9 v31) fun s32 =>
  callR Tryz.prog G 25 [(.v (.string s32))] h22 (fun v33 h34 =>
  appR Tryz.prog h34 49 49 v23 v33 (fun v35 h36 =>
  nextR h7 I19 m21 [some a0, some a1, some a2, some v4] [some a0, some a1, some a2, some v4] [v35, (.v (.int .i64 (IntKind.wrap .i64 (n24 + 1))))] h36)))
  (callR Tryz.prog G 24 [v4, v23, (.v (.int .i64 0))] h22 (fun v37 h38 =>
  okInt .i64 (extV 0 v37) fun n39 =>
  okInt .i64 (extV 1 v37) fun n40 =>
  condB (n40 != 0)
  (RetR h K (.v (.bool (n40 == 80))) h38)
  (callR Tryz.prog G 31 [v4] h38 (fun v41 h42 =>
  okInt .i64 (some a1) fun n43 =>
  callR Tryz.prog G 26 [(.v (.int .i64 n43)), (.v (.int .i64 10))] h42 (fun v44 h45 =>
  okInt .i64 (some v44) fun n46 =>
  newO (.cells 70 3 [[(.v (.bool false)), (.v (.int .i64 2)), (.v (.string (ByteArray.mk #[])))], [(.v (.bool false)), (.v (.int .i64 n46)), (.v (.string (ByteArray.mk #[])))]] 0) h45 fun i47 h48 =>
  okInt .i64 (aLen Tryz.prog h48 31 a2) fun n49 =>
  Tryz.r5_l16_50 G h K a2 v4 v23 n46 h48 n49 (.sl i47 0 0 2 none) 0)))))
def Tryz.r5 (G : Nat → Option AV) (a0 a1 a2 : AV) (h : AH) (K : AV → AH → Prop) : Prop :=
  newO (.cells 3 1 [[(.v (.int .i64 1))]] 0) h fun i0 h1 =>
  callR Tryz.prog G 22 [(.v (.int .i64 5)), (.v (.int .i64 10)), (.v (.int .i64 3)), (.agg [(.v (.int .i64 5)), (.sl i0 0 0 1 none)])] h1 (fun v2 h3 =>
  okV (extV 0 v2) fun v4 =>
  okInt .i64 (extV 1 v2) fun n5 =>
  callR Tryz.prog G 23 [] h3 (fun v6 h7 =>
  okBool (some v6) fun b8 =>
  rGq (!b8) false (some v4) fun b9 v10 =>
  rGq b9 false (aBin Tryz.prog .eql 43 v10 (.v (.pointer none))) fun b11 v12 =>
  okBool (pickR (some (.v (.bool b11))) (some (.v (.bool true))) (some v12)) fun b13 =>
  rGq b13 false (some (.v (.int .i64 n5))) fun b14 v15 =>
  rGq b14 false (aBin Tryz.prog .neq 24 v15 (.v (.int .i64 0))) fun b16 v17 =>
  okBool (pickR (some (.v (.bool b16))) (some (.v (.bool true))) (some v17)) fun b18 =>
  condB b18
  (RetR h K (.v (.bool false)) h7)
  (Tryz.r5_l6_19 K h G a0 a1 a2 v4 h7 (.v (.slice none 0 0)) 0)))
theorem Tryz.c5 (G : Nat → Option AV) (a0 a1 a2 : AV) (h : AH) (K : AV → AH → Prop) (hk : LowH h.length h → Tryz.r5 G a0 a1 a2 h K) : SCall Tryz.prog G 5 [a0, a1, a2] h K :=
  scall_of_rwp Tryz.tab5 [(6, [(9, .any), (10, (.int .i64))], [0, 1, 2, 7]), (16, [(13, .any), (86, (.int .i64))], [1, 2, 7, 9, 84, 85]), (34, [(159, (.int .i64))], [1, 2, 7, 9, 17, 19, 20, 21, 22, 158])] Tryz.func5 rfl Tryz.ntmps5 (by kernel_rfl) (by show 3 ≤ 273; decide) (by kernel_rfl) (by kernel_rfl) hk
-- 22 skylark/client.New
def Tryz.r22 (G : Nat → Option AV) (a0 a1 a2 a3 : AV) (h : AH) (K : AV → AH → Prop) : Prop :=
  onlyB (AV.one a3) (newO (.cells 47 (AV.cells a3).length [AV.cells a3] 0) h fun i0 h1 =>
  okInt .i64 (some a0) fun n2 =>
  rGq (decide (n2 < 0)) false (some a0) fun b3 v4 =>
  rGq b3 false (aBin Tryz.prog .gtr 3 v4 (.v (.int .i64 1000))) fun b5 v6 =>
  okBool (pickR (some (.v (.bool b5))) (some (.v (.bool true))) (some v6)) fun b7 =>
  rGq b7 false (some a1) fun b8 v9 =>
  rGq b8 false (aBin Tryz.prog .lss 3 v9 (.v (.int .i64 1))) fun b10 v11 =>
  okBool (pickR (some (.v (.bool b10))) (some (.v (.bool true))) (some v11)) fun b12 =>
  rGq b12 false (some a1) fun b13 v14 =>
  rGq b13 false (aBin Tryz.prog .gtr 3 v14 (.v (.int .i64 1000))) fun b15 v16 =>
  okBool (pickR (some (.v (.bool b15))) (some (.v (.bool true))) (some v16)) fun b17 =>
  rGq b17 false (some a2) fun b18 v19 =>
  rGq b18 false (aBin Tryz.prog .lss 3 v19 (.v (.int .i64 1))) fun b20 v21 =>
  okBool (pickR (some (.v (.bool b20))) (some (.v (.bool true))) (some v21)) fun b22 =>
  rGq b22 false (some a2) fun b23 v24 =>
  rGq b23 false (aBin Tryz.prog .gtr 3 v24 (.v (.int .i64 100))) fun b25 v26 =>
  okBool (pickR (some (.v (.bool b25))) (some (.v (.bool true))) (some v26)) fun b27 =>
  condB b27
  (RetR h K (.tup [(.v (.pointer none)), (.v (.int .i64 1))]) h1)
  (okV (aLoad Tryz.prog h1 47 (.ptr i0 0 0 0)) fun v28 =>
  callR Tryz.prog G 80 [v28] h1 (fun v29 h30 =>
  okInt .i64 (some v29) fun n31 =>
  condB (n31 != 0)
  (RetR h K (.tup [(.v (.pointer none)), (.v (.int .i64 n31))]) h30)
  (okV (aLoad Tryz.prog h30 31 (.ptr i0 0 0 1)) fun v32 =>
  callR Tryz.prog G 81 [v32] h30 (fun v33 h34 =>
  storeR Tryz.prog h34 (fun v35 h36 =>
  okInt .i64 (some a0) fun n37 =>
  okInt .i64 (some a1) fun n38 =>
  okInt .i64 (some a2) fun n39 =>
  okV (aLoad Tryz.prog h36 47 (.ptr i0 0 0 0)) fun v40 =>
  okV (aBuild Tryz.prog 171 [(0, some (.v (.int .i64 n37))), (1, some (.v (.int .i64 n38))), (2, some (.v (.int .i64 n39))), (3, some v40)]) fun v41 =>
  onlyB (AV.one v41) (newO (.cells 171 (AV.cells v41).length [AV.cells v41] 0) h36 fun i42 h43 =>
  RetR h K (.tup [(.ptr i42 0 0 0), (.v (.int .i64 0))]) h43)) 31 v33 (.ptr i0 0 0 1))))))
theorem Tryz.c22 (G : Nat → Option AV) (a0 a1 a2 a3 : AV) (h : AH) (K : AV → AH → Prop) (hk : LowH h.length h → Tryz.r22 G a0 a1 a2 a3 h K) : SCall Tryz.prog G 22 [a0, a1, a2, a3] h K :=
  scall_of_rwp Tryz.tab22 [] Tryz.func22 rfl Tryz.ntmps22 (by kernel_rfl) (by show 4 ≤ 48; decide) (by kernel_rfl) (by kernel_rfl) hk
-- 23 skylark/skylarklaw24.works
def Tryz.r23 (G : Nat → Option AV) (h : AH) (K : AV → AH → Prop) : Prop :=
  newO (.cells 3 1 [[(.v (.int .i64 1))]] 0) h fun i0 h1 =>
  callR Tryz.prog G 22 [(.v (.int .i64 7)), (.v (.int .i64 2)), (.v (.int .i64 2)), (.agg [(.v (.int .i64 1)), (.sl i0 0 0 1 none)])] h1 (fun v2 h3 =>
  okV (extV 0 v2) fun v4 =>
  okInt .i64 (extV 1 v2) fun n5 =>
  okBool (aBin Tryz.prog .eql 43 v4 (.v (.pointer none))) fun b6 =>
  rGq b6 false (some (.v (.int .i64 n5))) fun b7 v8 =>
  rGq b7 false (aBin Tryz.prog .neq 24 v8 (.v (.int .i64 0))) fun b9 v10 =>
  okBool (pickR (some (.v (.bool b9))) (some (.v (.bool true))) (some v10)) fun b11 =>
  condB b11
  (RetR h K (.v (.bool false)) h3)
  (callR Tryz.prog G 25 [(.v (.string (ByteArray.mk #[107])))] h3 (fun v12 h13 =>
  callR Tryz.prog G 24 [v4, v12, (.v (.int .i64 0))] h13 (fun v14 h15 =>
  okInt .i64 (extV 0 v14) fun n16 =>
  okInt .i64 (extV 1 v14) fun n17 =>
  callR Tryz.prog G 31 [v4] h15 (fun v18 h19 =>
  okInt .i64 (aLen Tryz.prog h19 67 v18) fun n20 =>
  rGq (n16 != 1) false (some (.v (.int .i64 n17))) fun b21 v22 =>
  rGq b21 false (aBin Tryz.prog .neq 24 v22 (.v (.int .i64 0))) fun b23 v24 =>
  okBool (pickR (some (.v (.bool b23))) (some (.v (.bool true))) (some v24)) fun b25 =>
  rGq b25 false (some (.v (.int .i64 n20))) fun b26 v27 =>
  rGq b26 false (aBin Tryz.prog .neq 3 v27 (.v (.int .i64 1))) fun b28 v29 =>
  okBool (pickR (some (.v (.bool b28))) (some (.v (.bool true))) (some v29)) fun b30 =>
  rGq b30 false (some v4) fun b31 v32 =>
  rGe b31 false (fun k33 => callR Tryz.prog G 82 [v32, (.v (.int .i64 1))] h19 (fun v34 h35 =>
  k33 v34 h35)) h19 fun b36 v37 h38 =>
  rGq b36 false (aBin Tryz.prog .neq 24 v37 (.v (.int .i64 0))) fun b39 v40 =>
  okBool (pickR (some (.v (.bool b39))) (some (.v (.bool true))) (some v40)) fun b41 =>
  rGq b41 false (some v4) fun b42 v43 =>
  rGe b42 false (fun k44 => callR Tryz.prog G 31 [v43] h38 (fun v45 h46 =>
  k44 v45 h46)) h38 fun b47 v48 h49 =>
  rGq b47 false (aLen Tryz.prog h49 67 v48) fun b50 v51 =>
  rGq b50 false (aBin Tryz.prog .neq 3 v51 (.v (.int .i64 0))) fun b52 v53 =>
  okBool (pickR (some (.v (.bool b52))) (some (.v (.bool true))) (some v53)) fun b54 =>
  rGq b54 false (some v4) fun b55 v56 =>
  rGe b55 false (fun k57 => callR Tryz.prog G 82 [v56, (.v (.int .i64 2))] h49 (fun v58 h59 =>
  k57 v58 h59)) h49 fun b60 v61 h62 =>
  rGq b60 false (aBin Tryz.prog .neq 24 v61 (.v (.int .i64 0))) fun b63 v64 =>
  okBool (pickR (some (.v (.bool b63))) (some (.v (.bool true))) (some v64)) fun b65 =>
  rGq b65 false (some v4) fun b66 v67 =>
  rGe b66 false (fun k68 => callR Tryz.prog G 31 [v67] h62 (fun v69 h70 =>
  k68 v69 h70)) h62 fun b71 v72 h73 =>
  rGq b71 false (aLen Tryz.prog h73 67 v72) fun b74 v75 =>
  rGq b74 false (aBin Tryz.prog .neq 3 v75 (.v (.int .i64 1))) fun b76 v77 =>
  okBool (pickR (some (.v (.bool b76))) (some (.v (.bool true))) (some v77)) fun b78 =>
  rGq b78 false (some v4) fun b79 v80 =>
  rGe b79 false (fun k81 => callR Tryz.prog G 82 [v80, (.v (.int .i64 4))] h73 (fun v82 h83 =>
  k81 v82 h83)) h73 fun b84 v85 h86 =>
  rGq b84 false (aBin Tryz.prog .neq 24 v85 (.v (.int .i64 0))) fun b87 v88 =>
  okBool (pickR (some (.v (.bool b87))) (some (.v (.bool true))) (some v88)) fun b89 =>
  condB b89
  (RetR h K (.v (.bool false)) h86)
  (callR Tryz.prog G 29 [v4] h86 (fun v90 h91 =>
  okV (extV 0 v90) fun v92 =>
  okInt .i64 (extV 1 v90) fun n93 =>
  newO (.cells 59 5 [[(.v (.int .i64 0)), (.v (.int .i64 0)), (.v (.slice none 0 0)), (.v (.int .i64 0)), (.v (.int .i64 0))]] 0) h91 fun i94 h95 =>
  storeR Tryz.prog h95 (fun v96 h97 =>
  rGq (n93 == 0) true (some (.ptr i94 0 0 0)) fun b98 v99 =>
  rGq b98 true (aLoad Tryz.prog h97 3 v99) fun b100 v101 =>
  rGq b100 true (aBin Tryz.prog .eql 3 v101 (.v (.int .i64 7))) fun b102 v103 =>
  okBool (pickR (some (.v (.bool b102))) (some v103) (some (.v (.bool false)))) fun b104 =>
  rGq b104 true (some (.ptr i94 0 0 1)) fun b105 v106 =>
  rGq b105 true (aLoad Tryz.prog h97 3 v106) fun b107 v108 =>
  rGq b107 true (aBin Tryz.prog .eql 3 v108 (.v (.int .i64 1))) fun b109 v110 =>
  okBool (pickR (some (.v (.bool b109))) (some v110) (some (.v (.bool false)))) fun b111 =>
  rGq b111 true (some (.ptr i94 0 0 3)) fun b112 v113 =>
  rGq b112 true (aLoad Tryz.prog h97 57 v113) fun b114 v115 =>
  rGq b114 true (some (.agg [(.v (.int .i64 0)), (.v (.int .i64 241))])) fun b116 v117 =>
  rGq b116 true (aBin Tryz.prog .eql 57 v115 v117) fun b118 v119 =>
  okBool (pickR (some (.v (.bool b118))) (some v119) (some (.v (.bool false)))) fun b120 =>
  rGq b120 true (some v4) fun b121 v122 =>
  rGe b121 true (fun k123 => callR Tryz.prog G 31 [v122] h97 (fun v124 h125 =>
  k123 v124 h125)) h97 fun b126 v127 h128 =>
  rGq b126 true (aLen Tryz.prog h128 67 v127) fun b129 v130 =>
  rGq b129 true (aBin Tryz.prog .eql 3 v130 (.v (.int .i64 0))) fun b131 v132 =>
  okBool (pickR (some (.v (.bool b131))) (some v132) (some (.v (.bool false)))) fun b133 =>
  RetR h K (.v (.bool b133)) h128) 59 v92 (.ptr i94 0 0 0))))))))
theorem Tryz.c23 (G : Nat → Option AV) (h : AH) (K : AV → AH → Prop) (hk : LowH h.length h → Tryz.r23 G h K) : SCall Tryz.prog G 23 [] h K :=
  scall_of_rwp Tryz.tab23 [] Tryz.func23 rfl Tryz.ntmps23 (by kernel_rfl) (by show 0 ≤ 94; decide) (by kernel_rfl) (by kernel_rfl) hk
-- 24 (*skylark/client.Client).Ask
def Tryz.r24 (G : Nat → Option AV) (a0 a1 a2 : AV) (h : AH) (K : AV → AH → Prop) : Prop :=
  okInt .i64 (some a2) fun n0 =>
  callR Tryz.prog G 83 [a0, (.v (.int .i64 n0))] h (fun v1 h2 =>
  okInt .i64 (some v1) fun n3 =>
  condB (n3 != 0)
  (RetR h K (.tup [(.v (.int .i64 0)), (.v (.int .i64 n3))]) h2)
  (okV (aNil a0) fun v4 =>
  okV (aFA Tryz.prog 171 0 v4) fun v5 =>
  okInt .i64 (aLoad Tryz.prog h2 3 v5) fun n6 =>
  okV (aNil a0) fun v7 =>
  okV (aFA Tryz.prog 171 5 v7) fun v8 =>
  okInt .i64 (aLoad Tryz.prog h2 3 v8) fun n9 =>
  okInt .i64 (aMinMax false [some (.v (.int .i64 (IntKind.wrap .i64 (n9 + 1)))), some (.v (.int .i64 1048576))]) fun n10 =>
  callR Tryz.prog G 84 [a1] h2 (fun v11 h12 =>
  (aLoad Tryz.prog h12 3 v8 = some (.v (.int .i64 n9))) ∧ (aLoad Tryz.prog h12 3 v5 = some (.v (.int .i64 n6))) ∧ okV (aBuild Tryz.prog 85 [(0, some (.v (.int .i64 n6))), (1, some (.v (.int .i64 n10))), (2, some v11)]) fun v13 =>
  newO (.cells 85 3 [[(.v (.int .i64 0)), (.v (.int .i64 0)), (.v (.slice none 0 0))]] 0) h12 fun i14 h15 =>
  (aLoad Tryz.prog h15 3 v8 = some (.v (.int .i64 n9))) ∧ (aLoad Tryz.prog h15 3 v5 = some (.v (.int .i64 n6))) ∧ storeR Tryz.prog h15 (fun v16 h17 =>
  okV (aNil a0) fun v18 =>
  okV (aFA Tryz.prog 171 8 v18) fun v19 =>
  okV (aLoad Tryz.prog h17 169 v19) fun v20 =>
  okBool (aBin Tryz.prog .neq 169 v20 (.agg [(.v (.bool false)), (.v (.bool false))])) fun b21 =>
  condB b21
  (RetR h K (.tup [(.v (.int .i64 0)), (.v (.int .i64 240))]) h17)
  (okV (aLoad Tryz.prog h17 85 (.ptr i14 0 0 0)) fun v22 =>
  callR Tryz.prog G 85 [v22] h17 (fun v23 h24 =>
  okInt .i64 (some v23) fun n25 =>
  rGq (n25 != 0) false (some a1) fun b26 v27 =>
  rGe b26 false (fun k28 => callR Tryz.prog G 86 [v27, (.fn (.func 87) [] [])] h24 (fun v29 h30 =>
  k28 v29 h30)) h24 fun b31 v32 h33 =>
  okBool (pickR (some (.v (.bool b31))) (some (.v (.bool true))) (some v32)) fun b34 =>
  condB b34
  (RetR h K (.tup [(.v (.int .i64 0)), (.v (.int .i64 80))]) h33)
  (callR Tryz.prog G 88 [a0, a1] h33 (fun v35 h36 =>
  okInt .i64 (some v35) fun n37 =>
  condB (decide (n37 ≥ 0))
  (RetR h K (.tup [(.v (.int .i64 0)), (.v (.int .i64 220))]) h36)
  (okV (aNil a0) fun v38 =>
  okV (aFA Tryz.prog 171 5 v38) fun v39 =>
  okInt .i64 (aLoad Tryz.prog h36 3 v39) fun n40 =>
  condB (decide (n40 ≥ 1048576))
  (RetR h K (.tup [(.v (.int .i64 0)), (.v (.int .i64 2))]) h36)
  (okV (aLoad Tryz.prog h36 85 (.ptr i14 0 0 0)) fun v41 =>
  callR Tryz.prog G 89 [v41] h36 (fun v42 h43 =>
  okStr (extV 0 v42) fun s44 =>
  okInt .i64 (extV 1 v42) fun n45 =>
  rGq (n45 != 0) false (some (.v (.string s44))) fun b46 v47 =>
  rGq b46 false (aLen Tryz.prog h43 9 v47) fun b48 v49 =>
  rGq b48 false (aBin Tryz.prog .gtr 3 v49 (.v (.int .i64 60000))) fun b50 v51 =>
  okBool (pickR (some (.v (.bool b50))) (some (.v (.bool true))) (some v51)) fun b52 =>
  condB b52
  (RetR h K (.tup [(.v (.int .i64 0)), (.v (.int .i64 2))]) h43)
  (okInt .i64 (aLoad Tryz.prog h43 3 (.ptr i14 0 0 1)) fun n53 =>
  okV (aLoad Tryz.prog h43 85 (.ptr i14 0 0 0)) fun v54 =>
  okV (aNil a0) fun v55 =>
  okV (aFA Tryz.prog 171 5 v55) fun v56 =>
  storeR Tryz.prog h43 (fun v57 h58 =>
  (aLoad Tryz.prog h58 85 (.ptr i14 0 0 0) = some v54) ∧ okV (aNil a0) fun v59 =>
  okV (aFA Tryz.prog 171 9 v59) fun v60 =>
  storeR Tryz.prog h58 (fun v61 h62 =>
  okV (aNil a0) fun v63 =>
  okV (aFA Tryz.prog 171 6 v63) fun v64 =>
  storeR Tryz.prog h62 (fun v65 h66 =>
  okV (aNil a0) fun v67 =>
  okV (aFA Tryz.prog 171 8 v67) fun v68 =>
  storeR Tryz.prog h66 (fun v69 h70 =>
  callR Tryz.prog G 90 [a0] h70 (fun v71 h72 =>
  okV (aNil a0) fun v73 =>
  okV (aFA Tryz.prog 171 5 v73) fun v74 =>
  okInt .i64 (aLoad Tryz.prog h72 3 v74) fun n75 =>
  RetR h K (.tup [(.v (.int .i64 n75)), (.v (.int .i64 0))]) h72)) 169 (.agg [(.v (.bool true)), (.v (.bool false))]) v68) 3 (.v (.int .i64 0)) v64) 85 v54 v60) 3 (.v (.int .i64 n53)) v56))))))))) 85 v13 (.ptr i14 0 0 0))))
theorem Tryz.c24 (G : Nat → Option AV) (a0 a1 a2 : AV) (h : AH) (K : AV → AH → Prop) (hk : LowH h.length h → Tryz.r24 G a0 a1 a2 h K) : SCall Tryz.prog G 24 [a0, a1, a2] h K :=
  scall_of_rwp Tryz.tab24 [] Tryz.func24 rfl Tryz.ntmps24 (by kernel_rfl) (by show 3 ≤ 91; decide) (by kernel_rfl) (by kernel_rfl) hk
-- 25 skylark/skylarklaw24.get
def Tryz.r25 (a0 : AV) (h : AH) (K : AV → AH → Prop) : Prop :=
  okStr (some a0) fun s0 =>
  newO (.cells 79 6 [[(.v (.int .i64 5)), (.v (.string s0)), (.v (.string (ByteArray.mk #[]))), (.v (.int .i64 0)), (.v (.int .i64 0)), (.v (.int .i64 0))]] 0) h fun i1 h2 =>
  RetR h K (.sl i1 0 0 1 none) h2
theorem Tryz.c25 (G : Nat → Option AV) (a0 : AV) (h : AH) (K : AV → AH → Prop) (hk : LowH h.length h → Tryz.r25 a0 h K) : SCall Tryz.prog G 25 [a0] h K :=
  scall_of_rwp Tryz.tab25 [] Tryz.func25 rfl Tryz.ntmps25 (by kernel_rfl) (by show 1 ≤ 6; decide) (by kernel_rfl) (by kernel_rfl) hk
-- 26 skylark/skylarklaw24.among
def Tryz.r26 (a0 a1 : AV) (h : AH) (K : AV → AH → Prop) : Prop :=
  okInt .i64 (some a0) fun n0 =>
  okInt .i64 (some a1) fun n1 =>
  okInt .i64 (aBin Tryz.prog .rem 3 (.v (.int .i64 n0)) (.v (.int .i64 n1))) fun n2 =>
  okInt .i64 (some a1) fun n3 =>
  okInt .i64 (some a1) fun n4 =>
  okInt .i64 (aBin Tryz.prog .rem 3 (.v (.int .i64 (IntKind.wrap .i64 (n2 + n3)))) (.v (.int .i64 n4))) fun n5 =>
  RetR h K (.v (.int .i64 n5)) h
theorem Tryz.c26 (G : Nat → Option AV) (a0 a1 : AV) (h : AH) (K : AV → AH → Prop) (hk : LowH h.length h → Tryz.r26 a0 a1 h K) : SCall Tryz.prog G 26 [a0, a1] h K :=
  scall_of_rwp Tryz.tab26 [] Tryz.func26 rfl Tryz.ntmps26 (by kernel_rfl) (by show 2 ≤ 12; decide) (by kernel_rfl) (by kernel_rfl) hk
-- 27 skylark/skylarklaw24.told
def Tryz.r27 (G : Nat → Option AV) (a0 : AV) (h : AH) (K : AV → AH → Prop) : Prop :=
  onlyB (AV.one a0) (newO (.cells 59 (AV.cells a0).length [AV.cells a0] 0) h fun i0 h1 =>
  okV (aLoad Tryz.prog h1 59 (.ptr i0 0 0 0)) fun v2 =>
  callR Tryz.prog G 91 [v2] h1 (fun v3 h4 =>
  okStr (extV 0 v3) fun s5 =>
  okInt .i64 (extV 1 v3) fun n6 =>
  newO (.cells 70 3 [[(.v (.bool false)), (.v (.int .i64 1)), (.v (.string (ByteArray.mk #[])))], [(.v (.bool true)), (.v (.int .i64 0)), (.v (.string s5))]] 0) h4 fun i7 h8 =>
  callR Tryz.prog G 32 [(.sl i7 0 0 2 none)] h8 (fun v9 h10 =>
  okStr (extV 0 v9) fun s11 =>
  okInt .i64 (extV 1 v9) fun n12 =>
  rGq (n6 == 0) true (some (.v (.int .i64 n12))) fun b13 v14 =>
  rGq b13 true (aBin Tryz.prog .eql 24 v14 (.v (.int .i64 0))) fun b15 v16 =>
  okBool (pickR (some (.v (.bool b15))) (some v16) (some (.v (.bool false)))) fun b17 =>
  RetR h K (.tup [(.v (.string s11)), (.v (.bool b17))]) h10)))
theorem Tryz.c27 (G : Nat → Option AV) (a0 : AV) (h : AH) (K : AV → AH → Prop) (hk : LowH h.length h → Tryz.r27 G a0 h K) : SCall Tryz.prog G 27 [a0] h K :=
  scall_of_rwp Tryz.tab27 [] Tryz.func27 rfl Tryz.ntmps27 (by kernel_rfl) (by show 1 ≤ 28; decide) (by kernel_rfl) (by kernel_rfl) hk
-- 28 (*skylark/client.Client).Hear
def Tryz.r28 (G : Nat → Option AV) (a0 a1 a2 : AV) (h : AH) (K : AV → AH → Prop) : Prop :=
  okInt .i64 (some a2) fun n0 =>
  callR Tryz.prog G 83 [a0, (.v (.int .i64 n0))] h (fun v1 h2 =>
  okInt .i64 (some v1) fun n3 =>
  condB (n3 != 0)
  (RetR h K (.v (.int .i64 n3)) h2)
  (okStr (some a1) fun s4 =>
  callR Tryz.prog G 36 [(.v (.string s4))] h2 (fun v5 h6 =>
  okV (extV 0 v5) fun v7 =>
  okV (extV 1 v5) fun v8 =>
  newO (.cells 57 2 [[(.v (.int .i64 0)), (.v (.int .i64 0))]] 0) h6 fun i9 h10 =>
  storeR Tryz.prog h10 (fun v11 h12 =>
  okV (aLoad Tryz.prog h12 57 (.ptr i9 0 0 0)) fun v13 =>
  okBool (aBin Tryz.prog .neq 57 v13 (.agg [(.v (.int .i64 0)), (.v (.int .i64 0))])) fun b14 =>
  rGq b14 false (some v7) fun b15 v16 =>
  rGq b15 false (aLen Tryz.prog h12 71 v16) fun b17 v18 =>
  rGq b17 false (aBin Tryz.prog .lss 3 v18 (.v (.int .i64 2))) fun b19 v20 =>
  okBool (pickR (some (.v (.bool b19))) (some (.v (.bool true))) (some v20)) fun b21 =>
  rGq b21 false (some v7) fun b22 v23 =>
  rGq b22 false (aIA Tryz.prog h12 71 v23 (.v (.int .i64 0))) fun b24 v25 =>
  rGq b24 false (aFA Tryz.prog 70 0 v25) fun b26 v27 =>
  rGq b26 false (aLoad Tryz.prog h12 4 v27) fun b28 v29 =>
  okBool (pickR (some (.v (.bool b28))) (some (.v (.bool true))) (some v29)) fun b30 =>
  condB b30
  (RetR h K (.v (.int .i64 3)) h12)
  (okV (aIA Tryz.prog h12 71 v7 (.v (.int .i64 0))) fun v31 =>
  okV (aFA Tryz.prog 70 1 v31) fun v32 =>
  okInt .i64 (aLoad Tryz.prog h12 2 v32) fun n33 =>
  condB (n33 == 2)
  (okV (aSlice Tryz.prog h12 71 v7 (some (some (.v (.int .i64 1)))) none none) fun v34 =>
  callR Tryz.prog G 92 [v34] h12 (fun v35 h36 =>
  okV (extV 0 v35) fun v37 =>
  okBool (extV 1 v35) fun b38 =>
  newO (.cells 47 2 [[(.v (.int .i64 0)), (.v (.slice none 0 0))]] 0) h36 fun i39 h40 =>
  storeR Tryz.prog h40 (fun v41 h42 =>
  condB (!b38)
  (RetR h K (.v (.int .i64 3)) h42)
  (okV (aLoad Tryz.prog h42 47 (.ptr i39 0 0 0)) fun v43 =>
  callR Tryz.prog G 93 [a0, v43] h42 (fun v44 h45 =>
  RetR h K (.v (.int .i64 0)) h45))) 47 v37 (.ptr i39 0 0 0)))
  (okV (aIA Tryz.prog h12 71 v7 (.v (.int .i64 0))) fun v46 =>
  okV (aFA Tryz.prog 70 1 v46) fun v47 =>
  okInt .i64 (aLoad Tryz.prog h12 2 v47) fun n48 =>
  rGq (n48 != 1) false (some v7) fun b49 v50 =>
  rGq b49 false (aLen Tryz.prog h12 71 v50) fun b51 v52 =>
  rGq b51 false (aBin Tryz.prog .neq 3 v52 (.v (.int .i64 2))) fun b53 v54 =>
  okBool (pickR (some (.v (.bool b53))) (some (.v (.bool true))) (some v54)) fun b55 =>
  rGq b55 false (some v7) fun b56 v57 =>
  rGq b56 false (aIA Tryz.prog h12 71 v57 (.v (.int .i64 1))) fun b58 v59 =>
  rGq b58 false (aFA Tryz.prog 70 0 v59) fun b60 v61 =>
  rGq b60 false (aLoad Tryz.prog h12 4 v61) fun b62 v63 =>
  rGq b62 false (aUn .not v63) fun b64 v65 =>
  okBool (pickR (some (.v (.bool b64))) (some (.v (.bool true))) (some v65)) fun b66 =>
  condB b66
  (RetR h K (.v (.int .i64 3)) h12)
  (okV (aIA Tryz.prog h12 71 v7 (.v (.int .i64 1))) fun v67 =>
  okV (aFA Tryz.prog 70 2 v67) fun v68 =>
  okStr (aLoad Tryz.prog h12 9 v68) fun s69 =>
  callR Tryz.prog G 94 [(.v (.string s69))] h12 (fun v70 h71 =>
  okV (extV 0 v70) fun v72 =>
  okInt .i64 (extV 1 v70) fun n73 =>
  newO (.cells 59 5 [[(.v (.int .i64 0)), (.v (.int .i64 0)), (.v (.slice none 0 0)), (.v (.int .i64 0)), (.v (.int .i64 0))]] 0) h71 fun i74 h75 =>
  storeR Tryz.prog h75 (fun v76 h77 =>
  condB (n73 != 0)
  (RetR h K (.v (.int .i64 3)) h77)
  (okV (aNil a0) fun v78 =>
  okV (aFA Tryz.prog 171 8 v78) fun v79 =>
  okV (aFA Tryz.prog 169 0 v79) fun v80 =>
  okBool (aLoad Tryz.prog h77 4 v80) fun b81 =>
  rGq b81 true (some (.ptr i74 0 0 0)) fun b82 v83 =>
  rGq b82 true (aLoad Tryz.prog h77 3 v83) fun b84 v85 =>
  rGq b84 true (some a0) fun b86 v87 =>
  rGq b86 true (aNil v87) fun b88 v89 =>
  rGq b88 true (aFA Tryz.prog 171 0 v89) fun b90 v91 =>
  rGq b90 true (aLoad Tryz.prog h77 3 v91) fun b92 v93 =>
  rGq b92 true (aBin Tryz.prog .eql 3 v85 v93) fun b94 v95 =>
  okBool (pickR (some (.v (.bool b94))) (some v95) (some (.v (.bool false)))) fun b96 =>
  rGq b96 true (some (.ptr i74 0 0 1)) fun b97 v98 =>
  rGq b97 true (aLoad Tryz.prog h77 3 v98) fun b99 v100 =>
  rGq b99 true (some a0) fun b101 v102 =>
  rGq b101 true (aNil v102) fun b103 v104 =>
  rGq b103 true (aFA Tryz.prog 171 5 v104) fun b105 v106 =>
  rGq b105 true (aLoad Tryz.prog h77 3 v106) fun b107 v108 =>
  rGq b107 true (aBin Tryz.prog .eql 3 v100 v108) fun b109 v110 =>
  okBool (pickR (some (.v (.bool b109))) (some v110) (some (.v (.bool false)))) fun b111 =>
  condB b111
  (okV (aLoad Tryz.prog h77 59 (.ptr i74 0 0 0)) fun v112 =>
  callR Tryz.prog G 95 [a0, v112] h77 (fun v113 h114 =>
  RetR h K (.v (.int .i64 0)) h114))
  (RetR h K (.v (.int .i64 0)) h77))) 59 v72 (.ptr i74 0 0 0)))))) 57 v8 (.ptr i9 0 0 0))))
theorem Tryz.c28 (G : Nat → Option AV) (a0 a1 a2 : AV) (h : AH) (K : AV → AH → Prop) (hk : LowH h.length h → Tryz.r28 G a0 a1 a2 h K) : SCall Tryz.prog G 28 [a0, a1, a2] h K :=
  scall_of_rwp Tryz.tab28 [] Tryz.func28 rfl Tryz.ntmps28 (by kernel_rfl) (by show 3 ≤ 111; decide) (by kernel_rfl) (by kernel_rfl) hk
-- 29 (*skylark/client.Client).Take
def Tryz.r29 (a0 : AV) (h : AH) (K : AV → AH → Prop) : Prop :=
  newO (.cells 59 5 [[(.v (.int .i64 0)), (.v (.int .i64 0)), (.v (.slice none 0 0)), (.v (.int .i64 0)), (.v (.int .i64 0))]] 0) h fun i0 h1 =>
  okV (aNil a0) fun v2 =>
  okV (aFA Tryz.prog 171 8 v2) fun v3 =>
  okV (aFA Tryz.prog 169 1 v3) fun v4 =>
  okBool (aLoad Tryz.prog h1 4 v4) fun b5 =>
  condB (!b5)
  (storeR Tryz.prog h1 (fun v6 h7 =>
  okV (aLoad Tryz.prog h7 59 (.ptr i0 0 0 0)) fun v8 =>
  RetR h K (.tup [v8, (.v (.int .i64 5))]) h7) 59 (.agg [(.v (.int .i64 0)), (.v (.int .i64 0)), (.v (.slice none 0 0)), (.v (.int .i64 0)), (.v (.int .i64 0))]) (.ptr i0 0 0 0))
  (okV (aNil a0) fun v9 =>
  okV (aFA Tryz.prog 171 8 v9) fun v10 =>
  storeR Tryz.prog h1 (fun v11 h12 =>
  okV (aNil a0) fun v13 =>
  okV (aFA Tryz.prog 171 10 v13) fun v14 =>
  okV (aLoad Tryz.prog h12 59 v14) fun v15 =>
  storeR Tryz.prog h12 (fun v16 h17 =>
  okV (aLoad Tryz.prog h17 59 (.ptr i0 0 0 0)) fun v18 =>
  RetR h K (.tup [v18, (.v (.int .i64 0))]) h17) 59 v15 (.ptr i0 0 0 0)) 169 (.agg [(.v (.bool false)), (.v (.bool false))]) v10)
theorem Tryz.c29 (G : Nat → Option AV) (a0 : AV) (h : AH) (K : AV → AH → Prop) (hk : LowH h.length h → Tryz.r29 a0 h K) : SCall Tryz.prog G 29 [a0] h K :=
  scall_of_rwp Tryz.tab29 [] Tryz.func29 rfl Tryz.ntmps29 (by kernel_rfl) (by show 1 ≤ 19; decide) (by kernel_rfl) (by kernel_rfl) hk
-- 30 skylark/skylarklaw24.sameReply
def Tryz.r30 (G : Nat → Option AV) (a0 a1 : AV) (h : AH) (K : AV → AH → Prop) : Prop :=
  onlyB (AV.one a0) (newO (.cells 59 (AV.cells a0).length [AV.cells a0] 0) h fun i0 h1 =>
  onlyB (AV.one a1) (newO (.cells 59 (AV.cells a1).length [AV.cells a1] 0) h1 fun i2 h3 =>
  okInt .i64 (aLoad Tryz.prog h3 3 (.ptr i0 0 0 0)) fun n4 =>
  okInt .i64 (aLoad Tryz.prog h3 3 (.ptr i2 0 0 0)) fun n5 =>
  rGq (n4 == n5) true (some (.ptr i0 0 0 1)) fun b6 v7 =>
  rGq b6 true (aLoad Tryz.prog h3 3 v7) fun b8 v9 =>
  rGq b8 true (some (.ptr i2 0 0 1)) fun b10 v11 =>
  rGq b10 true (aLoad Tryz.prog h3 3 v11) fun b12 v13 =>
  rGq b12 true (aBin Tryz.prog .eql 3 v9 v13) fun b14 v15 =>
  okBool (pickR (some (.v (.bool b14))) (some v15) (some (.v (.bool false)))) fun b16 =>
  rGq b16 true (some (.ptr i0 0 0 3)) fun b17 v18 =>
  rGq b17 true (aLoad Tryz.prog h3 57 v18) fun b19 v20 =>
  rGq b19 true (some (.ptr i2 0 0 3)) fun b21 v22 =>
  rGq b21 true (aLoad Tryz.prog h3 57 v22) fun b23 v24 =>
  rGq b23 true (aBin Tryz.prog .eql 57 v20 v24) fun b25 v26 =>
  okBool (pickR (some (.v (.bool b25))) (some v26) (some (.v (.bool false)))) fun b27 =>
  rGq b27 true (some (.ptr i0 0 0 2)) fun b28 v29 =>
  rGq b28 true (aLoad Tryz.prog h3 55 v29) fun b30 v31 =>
  rGq b30 true (some (.ptr i2 0 0 2)) fun b32 v33 =>
  rGq b32 true (aLoad Tryz.prog h3 55 v33) fun b34 v35 =>
  rGe b34 true (fun k36 => callR Tryz.prog G 57 [v31, v35] h3 (fun v37 h38 =>
  k36 v37 h38)) h3 fun b39 v40 h41 =>
  okBool (pickR (some (.v (.bool b39))) (some v40) (some (.v (.bool false)))) fun b42 =>
  RetR h K (.v (.bool b42)) h41))
theorem Tryz.c30 (G : Nat → Option AV) (a0 a1 : AV) (h : AH) (K : AV → AH → Prop) (hk : LowH h.length h → Tryz.r30 G a0 a1 h K) : SCall Tryz.prog G 30 [a0, a1] h K :=
  scall_of_rwp Tryz.tab30 [] Tryz.func30 rfl Tryz.ntmps30 (by kernel_rfl) (by show 2 ≤ 31; decide) (by kernel_rfl) (by kernel_rfl) hk
-- 31 (*skylark/client.Client).Letters
def Tryz.r31 (a0 : AV) (h : AH) (K : AV → AH → Prop) : Prop :=
  okV (aNil a0) fun v0 =>
  okV (aFA Tryz.prog 171 11 v0) fun v1 =>
  okV (aLoad Tryz.prog h 67 v1) fun v2 =>
  okV (aNil a0) fun v3 =>
  okV (aFA Tryz.prog 171 11 v3) fun v4 =>
  storeR Tryz.prog h (fun v5 h6 =>
  RetR h K v2 h6) 67 (.v (.slice none 0 0)) v4
theorem Tryz.c31 (G : Nat → Option AV) (a0 : AV) (h : AH) (K : AV → AH → Prop) (hk : LowH h.length h → Tryz.r31 a0 h K) : SCall Tryz.prog G 31 [a0] h K :=
  scall_of_rwp Tryz.tab31 [] Tryz.func31 rfl Tryz.ntmps31 (by kernel_rfl) (by show 1 ≤ 12; decide) (by kernel_rfl) (by kernel_rfl) hk
-- 32 skylark/code.Encode
def Tryz.r32_l11_40 (K : AV → AH → Prop) (h : AH) (G : Nat → Option AV) (a0 : AV) (h5 : AH) (n39 : Int) (v73 : AV) (n74 : Int) : Prop :=
  ∃ (I40 : Nat → List AV → AH → Prop) (m41 : Nat), I40 m41 [v73, (.v (.int .i64 n74))] h5 ∧ ∀ (m42 : Nat) (h43 : AH), h5.length ≤ h43.length → LowH h43.length h43 → ∀ (v44 : AV) (n45 : Int), I40 m42 [v44, (.v (.int .i64 n45))] h43 →
  condB (decide (n45 < n39))
  (okV (aIA Tryz.prog h43 71 a0 (.v (.int .i64 n45))) fun v46 =>
  okV (aLoad Tryz.prog h43 70 v46) fun v47 =>
  newO (.cells 70 3 [[(.v (.bool false)), (.v (.int .i64 0)), (.v (.string (ByteArray.mk #[])))]] 0) h43 fun i48 h49 =>
  storeR Tryz.prog h49 (fun v50 h51 =>
  okBool (aLoad Tryz.prog h51 4 (.ptr i48 0 0 0)) fun b52 =>
  condB b52
  (okStr (aLoad Tryz.prog h51 9 (.ptr i48 0 0 2)) fun s53 =>
  okStr (aLoad Tryz.prog h51 9 (.ptr i48 0 0 2)) fun s54 =>
  newO (.cells 5 1 [[(.v (.int .u8 84))]] 0) h51 fun i55 h56 =>
  (aLoad Tryz.prog h56 9 (.ptr i48 0 0 2) = some (.v (.string s54))) ∧ ((some (.v (.int .i64 ((ByteArray.size s53 : Nat) : Int))) : Option AV) = some (.v (.int .i64 ((ByteArray.size s53 : Nat) : Int)))) ∧ (aLoad Tryz.prog h56 9 (.ptr i48 0 0 2) = some (.v (.string s53))) ∧ appR Tryz.prog h56 184 184 v44 (.sl i55 0 0 1 none) (fun v57 h58 =>
  (aLoad Tryz.prog h58 9 (.ptr i48 0 0 2) = some (.v (.string s54))) ∧ ((some (.v (.int .i64 ((ByteArray.size s53 : Nat) : Int))) : Option AV) = some (.v (.int .i64 ((ByteArray.size s53 : Nat) : Int)))) ∧ (aLoad Tryz.prog h58 9 (.ptr i48 0 0 2) = some (.v (.string s53))) ∧ callR Tryz.prog G 96 [v57, (.v (.int .i64 ((ByteArray.size s53 : Nat) : Int)))] h58 (fun v59 h60 =>
  (aLoad Tryz.prog h60 9 (.ptr i48 0 0 2) = some (.v (.string s54))) ∧ appR Tryz.prog h60 184 9 v59 (.v (.string s54)) (fun v61 h62 =>
  okInt .i64 (aLen Tryz.prog h62 184 v61) fun n63 =>
  condB (decide (n63 > 262144))
  (RetR h K (.tup [(.v (.string (ByteArray.mk #[]))), (.v (.int .i64 2))]) h62)
  (nextR h5 I40 m42 [some a0, some (.v (.int .i64 n39))] [some a0, some (.v (.int .i64 n39))] [v61, (.v (.int .i64 (IntKind.wrap .i64 (n45 + 1))))] h62)))))
  (okInt .i64 (aLoad Tryz.prog h51 2 (.ptr i48 0 0 1)) fun n64 =>
  newO (.cells 5 1 [[(.v (.int .u8 78))]] 0) h51 fun i65 h66 =>
  (aLoad Tryz.prog h66 2 (.ptr i48 0 0 1) = some (.v (.int .i64 n64))) ∧ appR Tryz.prog h66 184 184 v44 (.sl i65 0 0 1 none) (fun v67 h68 =>
  (aLoad Tryz.prog h68 2 (.ptr i48 0 0 1) = some (.v (.int .i64 n64))) ∧ callR Tryz.prog G 96 [v67, (.v (.int .i64 n64))] h68 (fun v69 h70 =>
  okInt .i64 (aLen Tryz.prog h70 184 v69) fun n71 =>
  condB (decide (n71 > 262144))
  (RetR h K (.tup [(.v (.string (ByteArray.mk #[]))), (.v (.int .i64 2))]) h70)
  (nextR h5 I40 m42 [some a0, some (.v (.int .i64 n39))] [some a0, some (.v (.int .i64 n39))] [v69, (.v (.int .i64 (IntKind.wrap .i64 (n45 + 1))))] h70))))) 70 v47 (.ptr i48 0 0 0))
  (okStr (aConv Tryz.prog h43 184 9 v44) fun s72 =>
  RetR h K (.tup [(.v (.string s72)), (.v (.int .i64 0))]) h43)
def Tryz.r32_l4_2 (G : Nat → Option AV) (h : AH) (K : AV → AH → Prop) (a0 : AV) (n1 : Int) (n75 : Int) : Prop :=
  ∃ (I2 : Nat → List AV → AH → Prop) (m3 : Nat), I2 m3 [(.v (.int .i64 n75))] h ∧ ∀ (m4 : Nat) (h5 : AH), h.length ≤ h5.length → LowH h5.length h5 → ∀ (n6 : Int), I2 m4 [(.v (.int .i64 n6))] h5 →
  condB (decide (n6 < n1))
  (okV (aIA Tryz.prog h5 71 a0 (.v (.int .i64 n6))) fun v7 =>
  okV (aLoad Tryz.prog h5 70 v7) fun v8 =>
  newO (.cells 70 3 [[(.v (.bool false)), (.v (.int .i64 0)), (.v (.string (ByteArray.mk #[])))]] 0) h5 fun i9 h10 =>
  storeR Tryz.prog h10 (fun v11 h12 =>
  okBool (aLoad Tryz.prog h12 4 (.ptr i9 0 0 0)) fun b13 =>
  rGq b13 true (some (.ptr i9 0 0 1)) fun b14 v15 =>
  rGq b14 true (aLoad Tryz.prog h12 2 v15) fun b16 v17 =>
  rGq b16 true (aBin Tryz.prog .neq 2 v17 (.v (.int .i64 0))) fun b18 v19 =>
  okBool (pickR (some (.v (.bool b18))) (some v19) (some (.v (.bool false)))) fun b20 =>
  rGq b20 false (some (.ptr i9 0 0 0)) fun b21 v22 =>
  rGq b21 false (aLoad Tryz.prog h12 4 v22) fun b23 v24 =>
  rGq b23 false (aUn .not v24) fun b25 v26 =>
  rGq b25 false (some v26) fun b27 v28 =>
  okG (some v28) true fun b29 g0 =>
  rGq b29 true (some (.ptr i9 0 0 2)) fun b30 v31 =>
  okG (some (g0 b30)) true fun c1 g2 =>
  rGq c1 true (aLoad Tryz.prog h12 9 v31) fun b32 v33 =>
  okG (some (g2 b32)) true fun c3 g4 =>
  rGq c3 true (aBin Tryz.prog .neq 9 v33 (.v (.string (ByteArray.mk #[])))) fun b34 v35 =>
  rGq b27 false (pickR (some (g4 b34)) (some v35) (some (.v (.bool false)))) fun b36 v37 =>
  okBool (pickR (some (.v (.bool b36))) (some (.v (.bool true))) (some v37)) fun b38 =>
  condB b38
  (RetR h K (.tup [(.v (.string (ByteArray.mk #[]))), (.v (.int .i64 4))]) h12)
  (nextR h I2 m4 [some a0, some a0, some (.v (.int .i64 n1))] [some a0, some a0, some (.v (.int .i64 n1))] [(.v (.int .i64 (IntKind.wrap .i64 (n6 + 1))))] h12)) 70 v8 (.ptr i9 0 0 0))
  (okInt .i64 (aLen Tryz.prog h5 71 a0) fun n39 =>
  Tryz.r32_l11_40 K h G a0 h5 n39 (.v (.slice none 0 0)) 0)
def Tryz.r32 (G : Nat → Option AV) (a0 : AV) (h : AH) (K : AV → AH → Prop) : Prop :=
  okInt .i64 (aLen Tryz.prog h 71 a0) fun n0 =>
  condB (decide (n0 > 4096))
  (RetR h K (.tup [(.v (.string (ByteArray.mk #[]))), (.v (.int .i64 2))]) h)
  (okInt .i64 (aLen Tryz.prog h 71 a0) fun n1 =>
  Tryz.r32_l4_2 G h K a0 n1 0)
theorem Tryz.c32 (G : Nat → Option AV) (a0 : AV) (h : AH) (K : AV → AH → Prop) (hk : LowH h.length h → Tryz.r32 G a0 h K) : SCall Tryz.prog G 32 [a0] h K :=
  scall_of_rwp Tryz.tab32 [(4, [(14, (.int .i64))], [0, 12, 13]), (11, [(6, .any), (38, (.int .i64))], [36, 37])] Tryz.func32 rfl Tryz.ntmps32 (by kernel_rfl) (by show 1 ≤ 66; decide) (by kernel_rfl) (by kernel_rfl) hk
-- 33 skylark/ring.Check
def Tryz.r33 (G : Nat → Option AV) (a0 : AV) (h : AH) (K : AV → AH → Prop) : Prop :=
  okInt .i64 (aLen Tryz.prog h 31 a0) fun n0 =>
  rGq (decide (n0 < 1)) false (some a0) fun b1 v2 =>
  rGq b1 false (aLen Tryz.prog h 31 v2) fun b3 v4 =>
  rGq b3 false (aBin Tryz.prog .gtr 3 v4 (.v (.int .i64 8))) fun b5 v6 =>
  okBool (pickR (some (.v (.bool b5))) (some (.v (.bool true))) (some v6)) fun b7 =>
  rGq b7 false (some a0) fun b8 v9 =>
  rGe b8 false (fun k10 => callR Tryz.prog G 97 [v9] h (fun v11 h12 =>
  k10 v11 h12)) h fun b13 v14 h15 =>
  rGq b13 false (aBin Tryz.prog .lss 3 v14 (.v (.int .i64 0))) fun b16 v17 =>
  okBool (pickR (some (.v (.bool b16))) (some (.v (.bool true))) (some v17)) fun b18 =>
  rGq b18 false (some a0) fun b19 v20 =>
  rGe b19 false (fun k21 => callR Tryz.prog G 98 [v20] h15 (fun v22 h23 =>
  k21 v22 h23)) h15 fun b24 v25 h26 =>
  rGq b24 false (aBin Tryz.prog .gtr 3 v25 (.v (.int .i64 128))) fun b27 v28 =>
  okBool (pickR (some (.v (.bool b27))) (some (.v (.bool true))) (some v28)) fun b29 =>
  rGq b29 false (some a0) fun b30 v31 =>
  rGe b30 false (fun k32 => callR Tryz.prog G 98 [v31] h26 (fun v33 h34 =>
  k32 v33 h34)) h26 fun b35 v36 h37 =>
  rGq b35 false (aBin Tryz.prog .eql 3 v36 (.v (.int .i64 0))) fun b38 v39 =>
  okBool (pickR (some (.v (.bool b38))) (some (.v (.bool true))) (some v39)) fun b40 =>
  condB b40
  (RetR h K (.v (.int .i64 1)) h37)
  (RetR h K (.v (.int .i64 0)) h37)
theorem Tryz.c33 (G : Nat → Option AV) (a0 : AV) (h : AH) (K : AV → AH → Prop) (hk : LowH h.length h → Tryz.r33 G a0 h K) : SCall Tryz.prog G 33 [a0] h K :=
  scall_of_rwp Tryz.tab33 [] Tryz.func33 rfl Tryz.ntmps33 (by kernel_rfl) (by show 1 ≤ 26; decide) (by kernel_rfl) (by kernel_rfl) hk
-- 34 (*skylark/client.Client).State
def Tryz.r34 (a0 : AV) (h : AH) (K : AV → AH → Prop) : Prop :=
  okV (aNil a0) fun v0 =>
  okV (aFA Tryz.prog 171 5 v0) fun v1 =>
  okInt .i64 (aLoad Tryz.prog h 3 v1) fun n2 =>
  okV (aNil a0) fun v3 =>
  okV (aFA Tryz.prog 171 6 v3) fun v4 =>
  okInt .i64 (aLoad Tryz.prog h 3 v4) fun n5 =>
  okV (aNil a0) fun v6 =>
  okV (aFA Tryz.prog 171 3 v6) fun v7 =>
  okV (aFA Tryz.prog 47 0 v7) fun v8 =>
  okInt .i64 (aLoad Tryz.prog h 3 v8) fun n9 =>
  okV (aNil a0) fun v10 =>
  okV (aFA Tryz.prog 171 8 v10) fun v11 =>
  okV (aFA Tryz.prog 169 0 v11) fun v12 =>
  okBool (aLoad Tryz.prog h 4 v12) fun b13 =>
  (aLoad Tryz.prog h 4 v12 = some (.v (.bool b13))) ∧ (aLoad Tryz.prog h 3 v8 = some (.v (.int .i64 n9))) ∧ (aLoad Tryz.prog h 3 v4 = some (.v (.int .i64 n5))) ∧ (aLoad Tryz.prog h 4 v12 = some (.v (.bool b13))) ∧ (aLoad Tryz.prog h 3 v8 = some (.v (.int .i64 n9))) ∧ (aLoad Tryz.prog h 4 v12 = some (.v (.bool b13))) ∧ RetR h K (.tup [(.v (.int .i64 n2)), (.v (.int .i64 n5)), (.v (.int .i64 n9)), (.v (.bool b13))]) h
theorem Tryz.c34 (G : Nat → Option AV) (a0 : AV) (h : AH) (K : AV → AH → Prop) (hk : LowH h.length h → Tryz.r34 a0 h K) : SCall Tryz.prog G 34 [a0] h K :=
  scall_of_rwp Tryz.tab34 [] Tryz.func34 rfl Tryz.ntmps34 (by kernel_rfl) (by show 1 ≤ 24; decide) (by kernel_rfl) (by kernel_rfl) hk
-- 35 skylark/ring.Of
def Tryz.r35 (G : Nat → Option AV) (a0 a1 : AV) (h : AH) (K : AV → AH → Prop) : Prop :=
  callR Tryz.prog G 99 [a0] h (fun v0 h1 =>
  okV (extV 0 v0) fun v2 =>
  okInt .i64 (extV 1 v0) fun n3 =>
  condB (n3 != 0)
  (RetR h K (.tup [(.v (.int .i64 0)), (.v (.int .i64 n3))]) h1)
  (okStr (some a1) fun s4 =>
  callR Tryz.prog G 100 [v2, (.v (.string s4))] h1 (fun v5 h6 =>
  okInt .i64 (some v5) fun n7 =>
  RetR h K (.tup [(.v (.int .i64 n7)), (.v (.int .i64 0))]) h6)))
theorem Tryz.c35 (G : Nat → Option AV) (a0 a1 : AV) (h : AH) (K : AV → AH → Prop) (hk : LowH h.length h → Tryz.r35 G a0 a1 h K) : SCall Tryz.prog G 35 [a0, a1] h K :=
  scall_of_rwp Tryz.tab35 [] Tryz.func35 rfl Tryz.ntmps35 (by kernel_rfl) (by show 2 ≤ 19; decide) (by kernel_rfl) (by kernel_rfl) hk
-- 36 skylark/code.Decode
def Tryz.r36_l5_7 (K : AV → AH → Prop) (h : AH) (G : Nat → Option AV) (a0 : AV) (i0 : Nat) (h1 : AH) (v39 : AV) (s40 : ByteArray) : Prop :=
  ∃ (I7 : Nat → List AV → AH → Prop) (m8 : Nat), I7 m8 [v39, (.v (.string s40))] h1 ∧ ∀ (m9 : Nat) (h10 : AH), h1.length ≤ h10.length → LowH h10.length h10 → ∀ (v11 : AV) (s12 : ByteArray), I7 m9 [v11, (.v (.string s12))] h10 →
  condB (!(ByteArray.toList s12 == ByteArray.toList (ByteArray.mk #[])))
  (okStr (some a0) fun s13 =>
  okInt .i64 (aLen Tryz.prog h10 71 v11) fun n14 =>
  condB (n14 == 4096)
  (storeR Tryz.prog h10 (fun v15 h16 =>
  okV (aLoad Tryz.prog h16 57 (.ptr i0 0 0 0)) fun v17 =>
  RetR h K (.tup [(.v (.slice none 0 0)), v17]) h16) 57 (.agg [(.v (.int .i64 (IntKind.wrap .i64 (((ByteArray.size s13 : Nat) : Int) - ((ByteArray.size s12 : Nat) : Int))))), (.v (.int .i64 2))]) (.ptr i0 0 0 0))
  (callR Tryz.prog G 101 [(.v (.string s12))] h10 (fun v18 h19 =>
  okV (extV 0 v18) fun v20 =>
  okStr (extV 1 v18) fun s21 =>
  okInt .i64 (extV 2 v18) fun n22 =>
  newO (.cells 70 3 [[(.v (.bool false)), (.v (.int .i64 0)), (.v (.string (ByteArray.mk #[])))]] 0) h19 fun i23 h24 =>
  storeR Tryz.prog h24 (fun v25 h26 =>
  condB (n22 != 0)
  (storeR Tryz.prog h26 (fun v27 h28 =>
  okV (aLoad Tryz.prog h28 57 (.ptr i0 0 0 0)) fun v29 =>
  RetR h K (.tup [(.v (.slice none 0 0)), v29]) h28) 57 (.agg [(.v (.int .i64 (IntKind.wrap .i64 (((ByteArray.size s13 : Nat) : Int) - ((ByteArray.size s12 : Nat) : Int))))), (.v (.int .i64 n22))]) (.ptr i0 0 0 0))
  (okV (aLoad Tryz.prog h26 70 (.ptr i23 0 0 0)) fun v30 =>
  okP (rowsFill 3 (List.replicate 1 [(.v (.bool false)), (.v (.int .i64 0)), (.v (.string (ByteArray.mk #[])))]) [(0, some v30)]) fun r31 => newO (.cells 70 3 r31 0) h26 fun i32 h33 =>
  appR Tryz.prog h33 71 71 v11 (.sl i32 0 0 1 none) (fun v34 h35 =>
  nextR h1 I7 m9 [some a0, some (.ptr i0 0 0 0)] [some a0, some (.ptr i0 0 0 0)] [v34, (.v (.string s21))] h35))) 70 v20 (.ptr i23 0 0 0))))
  (storeR Tryz.prog h10 (fun v36 h37 =>
  okV (aLoad Tryz.prog h37 57 (.ptr i0 0 0 0)) fun v38 =>
  RetR h K (.tup [v11, v38]) h37) 57 (.agg [(.v (.int .i64 0)), (.v (.int .i64 0))]) (.ptr i0 0 0 0))
def Tryz.r36 (G : Nat → Option AV) (a0 : AV) (h : AH) (K : AV → AH → Prop) : Prop :=
  newO (.cells 57 2 [[(.v (.int .i64 0)), (.v (.int .i64 0))]] 0) h fun i0 h1 =>
  okStr (some a0) fun s2 =>
  condB (decide (((ByteArray.size s2 : Nat) : Int) > 262144))
  (storeR Tryz.prog h1 (fun v3 h4 =>
  okV (aLoad Tryz.prog h4 57 (.ptr i0 0 0 0)) fun v5 =>
  RetR h K (.tup [(.v (.slice none 0 0)), v5]) h4) 57 (.agg [(.v (.int .i64 0)), (.v (.int .i64 2))]) (.ptr i0 0 0 0))
  (okStr (some a0) fun s6 =>
  Tryz.r36_l5_7 K h G a0 i0 h1 (.v (.slice none 0 0)) s6)
theorem Tryz.c36 (G : Nat → Option AV) (a0 : AV) (h : AH) (K : AV → AH → Prop) (hk : LowH h.length h → Tryz.r36 G a0 h K) : SCall Tryz.prog G 36 [a0] h K :=
  scall_of_rwp Tryz.tab36 [(5, [(4, .any), (5, .str)], [0, 3])] Tryz.func36 rfl Tryz.ntmps36 (by kernel_rfl) (by show 1 ≤ 45; decide) (by kernel_rfl) (by kernel_rfl) hk
-- 37 skylark/op.Decode
def Tryz.r37_j21 (K : AV → AH → Prop) (h : AH) (G : Nat → Option AV) (i0 : Nat) (v5 : AV) (i16 : Nat) (h20 : AH) : Prop :=
  callR Tryz.prog G 105 [v5] h20 (fun v21 h22 =>
  okBool (some v21) fun b23 =>
  rGq (!b23) false (aLoad Tryz.prog h22 85 (.ptr i16 0 0 0)) fun b24 v25 =>
  rGe b24 false (fun k26 => callR Tryz.prog G 85 [v25] h22 (fun v27 h28 =>
  k26 v27 h28)) h22 fun b29 v30 h31 =>
  rGq b29 false (aBin Tryz.prog .neq 24 v30 (.v (.int .i64 0))) fun b32 v33 =>
  okBool (pickR (some (.v (.bool b32))) (some (.v (.bool true))) (some v33)) fun b34 =>
  condB b34
  (storeR Tryz.prog h31 (fun v35 h36 =>
  okV (aLoad Tryz.prog h36 85 (.ptr i0 0 0 0)) fun v37 =>
  RetR h K (.tup [v37, (.v (.int .i64 80))]) h36) 85 (.agg [(.v (.int .i64 0)), (.v (.int .i64 0)), (.v (.slice none 0 0))]) (.ptr i0 0 0 0))
  (okV (aLoad Tryz.prog h31 85 (.ptr i16 0 0 0)) fun v38 =>
  storeR Tryz.prog h31 (fun v39 h40 =>
  okV (aLoad Tryz.prog h40 85 (.ptr i0 0 0 0)) fun v41 =>
  RetR h K (.tup [v41, (.v (.int .i64 0))]) h40) 85 v38 (.ptr i0 0 0 0)))
def Tryz.r37_l6_45 (G : Nat → Option AV) (h : AH) (K : AV → AH → Prop) (i0 : Nat) (v5 : AV) (i16 : Nat) (h43 : AH) (n44 : Int) (n78 : Int) : Prop :=
  ∃ (I45 : Nat → List AV → AH → Prop) (m46 : Nat), I45 m46 [(.v (.int .i64 n78))] h43 ∧ ∀ (m47 : Nat) (h48 : AH), h43.length ≤ h48.length → LowH h48.length h48 → ∀ (n49 : Int), I45 m47 [(.v (.int .i64 n49))] h48 →
  condB (decide (n49 < n44))
  (okV (aNil v5) fun v50 =>
  okV (aFA Tryz.prog 199 1 v50) fun v51 =>
  okBool (aLoad Tryz.prog h48 4 v51) fun b52 =>
  condB (!b52)
  (Tryz.r37_j21 K h G i0 v5 i16 h48)
  (okV (aLoad Tryz.prog h48 49 (.ptr i16 0 0 2)) fun v53 =>
  callR Tryz.prog G 103 [v5] h48 (fun v54 h55 =>
  okInt .i64 (some v54) fun n56 =>
  (aLoad Tryz.prog h55 49 (.ptr i16 0 0 2) = some v53) ∧ callR Tryz.prog G 104 [v5] h55 (fun v57 h58 =>
  okStr (some v57) fun s59 =>
  (aLoad Tryz.prog h58 49 (.ptr i16 0 0 2) = some v53) ∧ callR Tryz.prog G 104 [v5] h58 (fun v60 h61 =>
  okStr (some v60) fun s62 =>
  (aLoad Tryz.prog h61 49 (.ptr i16 0 0 2) = some v53) ∧ callR Tryz.prog G 103 [v5] h61 (fun v63 h64 =>
  okInt .i64 (some v63) fun n65 =>
  (aLoad Tryz.prog h64 49 (.ptr i16 0 0 2) = some v53) ∧ callR Tryz.prog G 103 [v5] h64 (fun v66 h67 =>
  okInt .i64 (some v66) fun n68 =>
  (aLoad Tryz.prog h67 49 (.ptr i16 0 0 2) = some v53) ∧ callR Tryz.prog G 103 [v5] h67 (fun v69 h70 =>
  okInt .i64 (some v69) fun n71 =>
  (aLoad Tryz.prog h70 49 (.ptr i16 0 0 2) = some v53) ∧ newO (.cells 79 6 [[(.v (.int .i64 n56)), (.v (.string s59)), (.v (.string s62)), (.v (.int .i64 n65)), (.v (.int .i64 n68)), (.v (.int .i64 n71))]] 0) h70 fun i72 h73 =>
  (aLoad Tryz.prog h73 49 (.ptr i16 0 0 2) = some v53) ∧ appR Tryz.prog h73 49 49 v53 (.sl i72 0 0 1 none) (fun v74 h75 =>
  storeR Tryz.prog h75 (fun v76 h77 =>
  nextR h43 I45 m47 [some (.ptr i0 0 0 0), some v5, some (.ptr i16 0 0 0), some (.v (.int .i64 n44))] [some (.ptr i0 0 0 0), some v5, some (.ptr i16 0 0 0), some (.v (.int .i64 n44))] [(.v (.int .i64 (IntKind.wrap .i64 (n49 + 1))))] h77) 49 v74 (.ptr i16 0 0 2))))))))))
  (Tryz.r37_j21 K h G i0 v5 i16 h48)
def Tryz.r37 (G : Nat → Option AV) (a0 : AV) (h : AH) (K : AV → AH → Prop) : Prop :=
  newO (.cells 85 3 [[(.v (.int .i64 0)), (.v (.int .i64 0)), (.v (.slice none 0 0))]] 0) h fun i0 h1 =>
  okStr (some a0) fun s2 =>
  callR Tryz.prog G 102 [(.v (.string s2))] h1 (fun v3 h4 =>
  okV (extV 0 v3) fun v5 =>
  okInt .i64 (extV 1 v3) fun n6 =>
  condB (n6 != 0)
  (storeR Tryz.prog h4 (fun v7 h8 =>
  okV (aLoad Tryz.prog h8 85 (.ptr i0 0 0 0)) fun v9 =>
  RetR h K (.tup [v9, (.v (.int .i64 n6))]) h8) 85 (.agg [(.v (.int .i64 0)), (.v (.int .i64 0)), (.v (.slice none 0 0))]) (.ptr i0 0 0 0))
  (callR Tryz.prog G 103 [v5] h4 (fun v10 h11 =>
  okInt .i64 (some v10) fun n12 =>
  callR Tryz.prog G 103 [v5] h11 (fun v13 h14 =>
  okInt .i64 (some v13) fun n15 =>
  newO (.cells 85 3 [[(.v (.int .i64 0)), (.v (.int .i64 0)), (.v (.slice none 0 0))]] 0) h14 fun i16 h17 =>
  storeR Tryz.prog h17 (fun v18 h19 =>
  callR Tryz.prog G 103 [v5] h19 (fun v42 h43 =>
  okInt .i64 (some v42) fun n44 =>
  Tryz.r37_l6_45 G h K i0 v5 i16 h43 n44 0)) 85 (.agg [(.v (.int .i64 n12)), (.v (.int .i64 n15)), (.v (.slice none 0 0))]) (.ptr i16 0 0 0)))))
theorem Tryz.c37 (G : Nat → Option AV) (a0 : AV) (h : AH) (K : AV → AH → Prop) (hk : LowH h.length h → Tryz.r37 G a0 h K) : SCall Tryz.prog G 37 [a0] h K :=
  scall_of_rwp Tryz.tab37 [(6, [(23, (.int .i64))], [2, 4, 6, 22])] Tryz.func37 rfl Tryz.ntmps37 (by kernel_rfl) (by show 1 ≤ 59; decide) (by kernel_rfl) (by kernel_rfl) hk
-- 38 skylark/skylarkbook.SameOps
def Tryz.r38_l4_2 (K : AV → AH → Prop) (h : AH) (a0 : AV) (a1 : AV) (n13 : Int) : Prop :=
  ∃ (I2 : Nat → List AV → AH → Prop) (m3 : Nat), I2 m3 [(.v (.int .i64 n13))] h ∧ ∀ (m4 : Nat) (h5 : AH), h.length ≤ h5.length → LowH h5.length h5 → ∀ (n6 : Int), I2 m4 [(.v (.int .i64 n6))] h5 →
  okInt .i64 (aLen Tryz.prog h5 49 a0) fun n7 =>
  condB (decide (n6 < n7))
  (okV (aIA Tryz.prog h5 49 a0 (.v (.int .i64 n6))) fun v8 =>
  okV (aLoad Tryz.prog h5 79 v8) fun v9 =>
  okV (aIA Tryz.prog h5 49 a1 (.v (.int .i64 n6))) fun v10 =>
  okV (aLoad Tryz.prog h5 79 v10) fun v11 =>
  okBool (aBin Tryz.prog .neq 79 v9 v11) fun b12 =>
  condB b12
  (RetR h K (.v (.bool false)) h5)
  (nextR h I2 m4 [some a0, some a1] [some a0, some a1] [(.v (.int .i64 (IntKind.wrap .i64 (n6 + 1))))] h5))
  (RetR h K (.v (.bool true)) h5)
def Tryz.r38 (a0 a1 : AV) (h : AH) (K : AV → AH → Prop) : Prop :=
  okInt .i64 (aLen Tryz.prog h 49 a0) fun n0 =>
  okInt .i64 (aLen Tryz.prog h 49 a1) fun n1 =>
  condB (n0 != n1)
  (RetR h K (.v (.bool false)) h)
  (Tryz.r38_l4_2 K h a0 a1 0)
theorem Tryz.c38 (G : Nat → Option AV) (a0 a1 : AV) (h : AH) (K : AV → AH → Prop) (hk : LowH h.length h → Tryz.r38 a0 a1 h K) : SCall Tryz.prog G 38 [a0, a1] h K :=
  scall_of_rwp Tryz.tab38 [(4, [(5, (.int .i64))], [0, 1])] Tryz.func38 rfl Tryz.ntmps38 (by kernel_rfl) (by show 2 ≤ 26; decide) (by kernel_rfl) (by kernel_rfl) hk
-- 44 skylark/skylarkbook.SameRows
def Tryz.r44_l4_2 (K : AV → AH → Prop) (h : AH) (a0 : AV) (a1 : AV) (n13 : Int) : Prop :=
  ∃ (I2 : Nat → List AV → AH → Prop) (m3 : Nat), I2 m3 [(.v (.int .i64 n13))] h ∧ ∀ (m4 : Nat) (h5 : AH), h.length ≤ h5.length → LowH h5.length h5 → ∀ (n6 : Int), I2 m4 [(.v (.int .i64 n6))] h5 →
  okInt .i64 (aLen Tryz.prog h5 52 a0) fun n7 =>
  condB (decide (n6 < n7))
  (okV (aIA Tryz.prog h5 52 a0 (.v (.int .i64 n6))) fun v8 =>
  okV (aLoad Tryz.prog h5 202 v8) fun v9 =>
  okV (aIA Tryz.prog h5 52 a1 (.v (.int .i64 n6))) fun v10 =>
  okV (aLoad Tryz.prog h5 202 v10) fun v11 =>
  okBool (aBin Tryz.prog .neq 202 v9 v11) fun b12 =>
  condB b12
  (RetR h K (.v (.bool false)) h5)
  (nextR h I2 m4 [some a0, some a1] [some a0, some a1] [(.v (.int .i64 (IntKind.wrap .i64 (n6 + 1))))] h5))
  (RetR h K (.v (.bool true)) h5)
def Tryz.r44 (a0 a1 : AV) (h : AH) (K : AV → AH → Prop) : Prop :=
  okInt .i64 (aLen Tryz.prog h 52 a0) fun n0 =>
  okInt .i64 (aLen Tryz.prog h 52 a1) fun n1 =>
  condB (n0 != n1)
  (RetR h K (.v (.bool false)) h)
  (Tryz.r44_l4_2 K h a0 a1 0)
theorem Tryz.c44 (G : Nat → Option AV) (a0 a1 : AV) (h : AH) (K : AV → AH → Prop) (hk : LowH h.length h → Tryz.r44 a0 a1 h K) : SCall Tryz.prog G 44 [a0, a1] h K :=
  scall_of_rwp Tryz.tab44 [(4, [(5, (.int .i64))], [0, 1])] Tryz.func44 rfl Tryz.ntmps44 (by kernel_rfl) (by show 2 ≤ 26; decide) (by kernel_rfl) (by kernel_rfl) hk
-- 45 (skylark/layout.Change).End
def Tryz.r45 (G : Nat → Option AV) (a0 : AV) (h : AH) (K : AV → AH → Prop) : Prop :=
  onlyB (AV.one a0) (newO (.cells 94 (AV.cells a0).length [AV.cells a0] 0) h fun i0 h1 =>
  newO (.cells 47 2 [[(.v (.int .i64 0)), (.v (.slice none 0 0))]] 0) h1 fun i2 h3 =>
  okV (aLoad Tryz.prog h3 94 (.ptr i0 0 0 0)) fun v4 =>
  callR Tryz.prog G 107 [v4] h3 (fun v5 h6 =>
  okInt .i64 (some v5) fun n7 =>
  condB (n7 != 0)
  (storeR Tryz.prog h6 (fun v8 h9 =>
  okV (aLoad Tryz.prog h9 47 (.ptr i2 0 0 0)) fun v10 =>
  RetR h K (.tup [v10, (.v (.int .i64 70))]) h9) 47 (.agg [(.v (.int .i64 0)), (.v (.slice none 0 0))]) (.ptr i2 0 0 0))
  (okBool (aLoad Tryz.prog h6 4 (.ptr i0 0 0 5)) fun b11 =>
  condB (!b11)
  (storeR Tryz.prog h6 (fun v12 h13 =>
  okV (aLoad Tryz.prog h13 47 (.ptr i2 0 0 0)) fun v14 =>
  RetR h K (.tup [v14, (.v (.int .i64 1))]) h13) 47 (.agg [(.v (.int .i64 0)), (.v (.slice none 0 0))]) (.ptr i2 0 0 0))
  (okV (aLoad Tryz.prog h6 47 (.ptr i0 0 0 2)) fun v15 =>
  storeR Tryz.prog h6 (fun v16 h17 =>
  okV (aLoad Tryz.prog h17 47 (.ptr i2 0 0 0)) fun v18 =>
  RetR h K (.tup [v18, (.v (.int .i64 0))]) h17) 47 v15 (.ptr i2 0 0 0)))))
theorem Tryz.c45 (G : Nat → Option AV) (a0 : AV) (h : AH) (K : AV → AH → Prop) (hk : LowH h.length h → Tryz.r45 G a0 h K) : SCall Tryz.prog G 45 [a0] h K :=
  scall_of_rwp Tryz.tab45 [] Tryz.func45 rfl Tryz.ntmps45 (by kernel_rfl) (by show 1 ≤ 16; decide) (by kernel_rfl) (by kernel_rfl) hk
-- 46 skylark/layout.Equal
def Tryz.r46 (G : Nat → Option AV) (a0 a1 : AV) (h : AH) (K : AV → AH → Prop) : Prop :=
  onlyB (AV.one a0) (newO (.cells 47 (AV.cells a0).length [AV.cells a0] 0) h fun i0 h1 =>
  onlyB (AV.one a1) (newO (.cells 47 (AV.cells a1).length [AV.cells a1] 0) h1 fun i2 h3 =>
  okInt .i64 (aLoad Tryz.prog h3 3 (.ptr i0 0 0 0)) fun n4 =>
  okInt .i64 (aLoad Tryz.prog h3 3 (.ptr i2 0 0 0)) fun n5 =>
  rGq (n4 == n5) true (some (.ptr i0 0 0 1)) fun b6 v7 =>
  rGq b6 true (aLoad Tryz.prog h3 31 v7) fun b8 v9 =>
  rGq b8 true (some (.ptr i2 0 0 1)) fun b10 v11 =>
  rGq b10 true (aLoad Tryz.prog h3 31 v11) fun b12 v13 =>
  rGe b12 true (fun k14 => callR Tryz.prog G 112 [v9, v13] h3 (fun v15 h16 =>
  k14 v15 h16)) h3 fun b17 v18 h19 =>
  okBool (pickR (some (.v (.bool b17))) (some v18) (some (.v (.bool false)))) fun b20 =>
  RetR h K (.v (.bool b20)) h19))
theorem Tryz.c46 (G : Nat → Option AV) (a0 a1 : AV) (h : AH) (K : AV → AH → Prop) (hk : LowH h.length h → Tryz.r46 G a0 a1 h K) : SCall Tryz.prog G 46 [a0, a1] h K :=
  scall_of_rwp Tryz.tab46 [] Tryz.func46 rfl Tryz.ntmps46 (by kernel_rfl) (by show 2 ≤ 17; decide) (by kernel_rfl) (by kernel_rfl) hk
-- 57 skylark/skylarkbook.SameResults
def Tryz.r57_l4_2 (K : AV → AH → Prop) (h : AH) (G : Nat → Option AV) (a0 : AV) (a1 : AV) (n89 : Int) : Prop :=
  ∃ (I2 : Nat → List AV → AH → Prop) (m3 : Nat), I2 m3 [(.v (.int .i64 n89))] h ∧ ∀ (m4 : Nat) (h5 : AH), h.length ≤ h5.length → LowH h5.length h5 → ∀ (n6 : Int), I2 m4 [(.v (.int .i64 n6))] h5 →
  okInt .i64 (aLen Tryz.prog h5 55 a0) fun n7 =>
  condB (decide (n6 < n7))
  (okV (aIA Tryz.prog h5 55 a0 (.v (.int .i64 n6))) fun v8 =>
  okV (aFA Tryz.prog 54 0 v8) fun v9 =>
  okInt .i64 (aLoad Tryz.prog h5 24 v9) fun n10 =>
  okV (aIA Tryz.prog h5 55 a1 (.v (.int .i64 n6))) fun v11 =>
  okV (aFA Tryz.prog 54 0 v11) fun v12 =>
  okInt .i64 (aLoad Tryz.prog h5 24 v12) fun n13 =>
  rGq (n10 != n13) false (some a0) fun b14 v15 =>
  rGq b14 false (some (.v (.int .i64 n6))) fun b16 v17 =>
  rGq b16 false (aIA Tryz.prog h5 55 v15 v17) fun b18 v19 =>
  rGq b18 false (aFA Tryz.prog 54 1 v19) fun b20 v21 =>
  rGq b20 false (aLoad Tryz.prog h5 3 v21) fun b22 v23 =>
  rGq b22 false (some a1) fun b24 v25 =>
  rGq b24 false (some (.v (.int .i64 n6))) fun b26 v27 =>
  rGq b26 false (aIA Tryz.prog h5 55 v25 v27) fun b28 v29 =>
  rGq b28 false (aFA Tryz.prog 54 1 v29) fun b30 v31 =>
  rGq b30 false (aLoad Tryz.prog h5 3 v31) fun b32 v33 =>
  rGq b32 false (aBin Tryz.prog .neq 3 v23 v33) fun b34 v35 =>
  okBool (pickR (some (.v (.bool b34))) (some (.v (.bool true))) (some v35)) fun b36 =>
  rGq b36 false (some a0) fun b37 v38 =>
  rGq b37 false (some (.v (.int .i64 n6))) fun b39 v40 =>
  rGq b39 false (aIA Tryz.prog h5 55 v38 v40) fun b41 v42 =>
  rGq b41 false (aFA Tryz.prog 54 2 v42) fun b43 v44 =>
  rGq b43 false (aLoad Tryz.prog h5 9 v44) fun b45 v46 =>
  rGq b45 false (some a1) fun b47 v48 =>
  rGq b47 false (some (.v (.int .i64 n6))) fun b49 v50 =>
  rGq b49 false (aIA Tryz.prog h5 55 v48 v50) fun b51 v52 =>
  rGq b51 false (aFA Tryz.prog 54 2 v52) fun b53 v54 =>
  rGq b53 false (aLoad Tryz.prog h5 9 v54) fun b55 v56 =>
  rGq b55 false (aBin Tryz.prog .neq 9 v46 v56) fun b57 v58 =>
  okBool (pickR (some (.v (.bool b57))) (some (.v (.bool true))) (some v58)) fun b59 =>
  rGq b59 false (some a0) fun b60 v61 =>
  rGq b60 false (some (.v (.int .i64 n6))) fun b62 v63 =>
  rGq b62 false (aIA Tryz.prog h5 55 v61 v63) fun b64 v65 =>
  rGq b64 false (aFA Tryz.prog 54 3 v65) fun b66 v67 =>
  rGq b66 false (aLoad Tryz.prog h5 52 v67) fun b68 v69 =>
  rGq b68 false (some a1) fun b70 v71 =>
  rGq b70 false (some (.v (.int .i64 n6))) fun b72 v73 =>
  rGq b72 false (aIA Tryz.prog h5 55 v71 v73) fun b74 v75 =>
  rGq b74 false (aFA Tryz.prog 54 3 v75) fun b76 v77 =>
  rGq b76 false (aLoad Tryz.prog h5 52 v77) fun b78 v79 =>
  rGe b78 false (fun k80 => callR Tryz.prog G 44 [v69, v79] h5 (fun v81 h82 =>
  k80 v81 h82)) h5 fun b83 v84 h85 =>
  rGq b83 false (aUn .not v84) fun b86 v87 =>
  okBool (pickR (some (.v (.bool b86))) (some (.v (.bool true))) (some v87)) fun b88 =>
  condB b88
  (RetR h K (.v (.bool false)) h85)
  (nextR h I2 m4 [some a0, some a1] [some a0, some a1] [(.v (.int .i64 (IntKind.wrap .i64 (n6 + 1))))] h85))
  (RetR h K (.v (.bool true)) h5)
def Tryz.r57 (G : Nat → Option AV) (a0 a1 : AV) (h : AH) (K : AV → AH → Prop) : Prop :=
  okInt .i64 (aLen Tryz.prog h 55 a0) fun n0 =>
  okInt .i64 (aLen Tryz.prog h 55 a1) fun n1 =>
  condB (n0 != n1)
  (RetR h K (.v (.bool false)) h)
  (Tryz.r57_l4_2 K h G a0 a1 0)
theorem Tryz.c57 (G : Nat → Option AV) (a0 a1 : AV) (h : AH) (K : AV → AH → Prop) (hk : LowH h.length h → Tryz.r57 G a0 a1 h K) : SCall Tryz.prog G 57 [a0, a1] h K :=
  scall_of_rwp Tryz.tab57 [(4, [(5, (.int .i64))], [0, 1])] Tryz.func57 rfl Tryz.ntmps57 (by kernel_rfl) (by show 2 ≤ 68; decide) (by kernel_rfl) (by kernel_rfl) hk
-- 59 (skylark/skylarkref07.Change).May
def Tryz.r59 (G : Nat → Option AV) (a0 : AV) (h : AH) (K : AV → AH → Prop) : Prop :=
  onlyB (AV.one a0) (newO (.cells 113 (AV.cells a0).length [AV.cells a0] 0) h fun i0 h1 =>
  okV (aLoad Tryz.prog h1 47 (.ptr i0 0 0 0)) fun v2 =>
  callR Tryz.prog G 125 [v2] h1 (fun v3 h4 =>
  okBool (some v3) fun b5 =>
  rGq b5 true (some (.ptr i0 0 0 2)) fun b6 v7 =>
  rGq b6 true (aLoad Tryz.prog h4 47 v7) fun b8 v9 =>
  rGe b8 true (fun k10 => callR Tryz.prog G 125 [v9] h4 (fun v11 h12 =>
  k10 v11 h12)) h4 fun b13 v14 h15 =>
  okBool (pickR (some (.v (.bool b13))) (some v14) (some (.v (.bool false)))) fun b16 =>
  rGq b16 true (some (.ptr i0 0 0 2)) fun b17 v18 =>
  rGq b17 true (aFA Tryz.prog 47 0 v18) fun b19 v20 =>
  rGq b19 true (aLoad Tryz.prog h15 3 v20) fun b21 v22 =>
  rGq b21 true (some (.ptr i0 0 0 0)) fun b23 v24 =>
  rGq b23 true (aFA Tryz.prog 47 0 v24) fun b25 v26 =>
  rGq b25 true (aLoad Tryz.prog h15 3 v26) fun b27 v28 =>
  rGq b27 true (aBin Tryz.prog .add 3 v28 (.v (.int .i64 1))) fun b29 v30 =>
  rGq b29 true (aBin Tryz.prog .eql 3 v22 v30) fun b31 v32 =>
  okBool (pickR (some (.v (.bool b31))) (some v32) (some (.v (.bool false)))) fun b33 =>
  rGq b33 true (some (.ptr i0 0 0 2)) fun b34 v35 =>
  rGq b34 true (aFA Tryz.prog 47 1 v35) fun b36 v37 =>
  rGq b36 true (aLoad Tryz.prog h15 31 v37) fun b38 v39 =>
  rGq b38 true (aLen Tryz.prog h15 31 v39) fun b40 v41 =>
  rGq b40 true (some (.ptr i0 0 0 0)) fun b42 v43 =>
  rGq b42 true (aFA Tryz.prog 47 1 v43) fun b44 v45 =>
  rGq b44 true (aLoad Tryz.prog h15 31 v45) fun b46 v47 =>
  rGq b46 true (aLen Tryz.prog h15 31 v47) fun b48 v49 =>
  rGq b48 true (aBin Tryz.prog .geq 3 v41 v49) fun b50 v51 =>
  okBool (pickR (some (.v (.bool b50))) (some v51) (some (.v (.bool false)))) fun b52 =>
  rGq b52 true (some (.ptr i0 0 0 4)) fun b53 v54 =>
  rGq b53 true (aLoad Tryz.prog h15 9 v54) fun b55 v56 =>
  rGq b55 true (aLen Tryz.prog h15 9 v56) fun b57 v58 =>
  rGq b57 true (aBin Tryz.prog .leq 3 v58 (.v (.int .i64 64))) fun b59 v60 =>
  okBool (pickR (some (.v (.bool b59))) (some v60) (some (.v (.bool false)))) fun b61 =>
  rGq b61 true (some (.ptr i0 0 0 5)) fun b62 v63 =>
  rGq b62 true (aLoad Tryz.prog h15 4 v63) fun b64 v65 =>
  rGq b64 true (some v65) fun b66 v67 =>
  okG (some v67) true fun b68 g0 =>
  rGq b68 true (some (.ptr i0 0 0 4)) fun b69 v70 =>
  okG (some (g0 b69)) true fun c1 g2 =>
  rGq c1 true (aLoad Tryz.prog h15 9 v70) fun b71 v72 =>
  okG (some (g2 b71)) true fun c3 g4 =>
  rGq c3 true (aBin Tryz.prog .neq 9 v72 (.v (.string (ByteArray.mk #[])))) fun b73 v74 =>
  rGq b66 true (pickR (some (g4 b73)) (some v74) (some (.v (.bool false)))) fun b75 v76 =>
  rGq b75 true (aUn .not v76) fun b77 v78 =>
  okBool (pickR (some (.v (.bool b77))) (some v78) (some (.v (.bool false)))) fun b79 =>
  RetR h K (.v (.bool b79)) h15))
theorem Tryz.c59 (G : Nat → Option AV) (a0 : AV) (h : AH) (K : AV → AH → Prop) (hk : LowH h.length h → Tryz.r59 G a0 h K) : SCall Tryz.prog G 59 [a0] h K :=
  scall_of_rwp Tryz.tab59 [] Tryz.func59 rfl Tryz.ntmps59 (by kernel_rfl) (by show 1 ≤ 48; decide) (by kernel_rfl) (by kernel_rfl) hk
-- 71 skylark/skylarkbook.SameInts
def Tryz.r71_l4_2 (K : AV → AH → Prop) (h : AH) (a0 : AV) (a1 : AV) (n12 : Int) : Prop :=
  ∃ (I2 : Nat → List AV → AH → Prop) (m3 : Nat), I2 m3 [(.v (.int .i64 n12))] h ∧ ∀ (m4 : Nat) (h5 : AH), h.length ≤ h5.length → LowH h5.length h5 → ∀ (n6 : Int), I2 m4 [(.v (.int .i64 n6))] h5 →
  okInt .i64 (aLen Tryz.prog h5 31 a0) fun n7 =>
  condB (decide (n6 < n7))
  (okV (aIA Tryz.prog h5 31 a0 (.v (.int .i64 n6))) fun v8 =>
  okInt .i64 (aLoad Tryz.prog h5 3 v8) fun n9 =>
  okV (aIA Tryz.prog h5 31 a1 (.v (.int .i64 n6))) fun v10 =>
  okInt .i64 (aLoad Tryz.prog h5 3 v10) fun n11 =>
  condB (n9 != n11)
  (RetR h K (.v (.bool false)) h5)
  (nextR h I2 m4 [some a0, some a1] [some a0, some a1] [(.v (.int .i64 (IntKind.wrap .i64 (n6 + 1))))] h5))
  (RetR h K (.v (.bool true)) h5)
def Tryz.r71 (a0 a1 : AV) (h : AH) (K : AV → AH → Prop) : Prop :=
  okInt .i64 (aLen Tryz.prog h 31 a0) fun n0 =>
  okInt .i64 (aLen Tryz.prog h 31 a1) fun n1 =>
  condB (n0 != n1)
  (RetR h K (.v (.bool false)) h)
  (Tryz.r71_l4_2 K h a0 a1 0)
theorem Tryz.c71 (G : Nat → Option AV) (a0 a1 : AV) (h : AH) (K : AV → AH → Prop) (hk : LowH h.length h → Tryz.r71 a0 a1 h K) : SCall Tryz.prog G 71 [a0, a1] h K :=
  scall_of_rwp Tryz.tab71 [(4, [(5, (.int .i64))], [0, 1])] Tryz.func71 rfl Tryz.ntmps71 (by kernel_rfl) (by show 2 ≤ 26; decide) (by kernel_rfl) (by kernel_rfl) hk
-- 72 (skylark/layout.Change).Owner
def Tryz.r72_j12 (K : AV → AH → Prop) (h : AH) (G : Nat → Option AV) (a1 : AV) (i7 : Nat) (h11 : AH) : Prop :=
  okV (aLoad Tryz.prog h11 31 (.ptr i7 0 0 1)) fun v12 =>
  okStr (some a1) fun s13 =>
  callR Tryz.prog G 35 [v12, (.v (.string s13))] h11 (fun v14 h15 =>
  okInt .i64 (extV 0 v14) fun n16 =>
  okInt .i64 (extV 1 v14) fun n17 =>
  RetR h K (.tup [(.v (.int .i64 n16)), (.v (.int .i64 n17))]) h15)
def Tryz.r72 (G : Nat → Option AV) (a0 a1 : AV) (h : AH) (K : AV → AH → Prop) : Prop :=
  onlyB (AV.one a0) (newO (.cells 94 (AV.cells a0).length [AV.cells a0] 0) h fun i0 h1 =>
  okV (aLoad Tryz.prog h1 94 (.ptr i0 0 0 0)) fun v2 =>
  callR Tryz.prog G 107 [v2] h1 (fun v3 h4 =>
  okInt .i64 (some v3) fun n5 =>
  condB (n5 != 0)
  (RetR h K (.tup [(.v (.int .i64 0)), (.v (.int .i64 n5))]) h4)
  (okV (aLoad Tryz.prog h4 47 (.ptr i0 0 0 0)) fun v6 =>
  newO (.cells 47 2 [[(.v (.int .i64 0)), (.v (.slice none 0 0))]] 0) h4 fun i7 h8 =>
  storeR Tryz.prog h8 (fun v9 h10 =>
  okBool (aLoad Tryz.prog h10 4 (.ptr i0 0 0 5)) fun b18 =>
  rGq b18 false (some a1) fun b19 v20 =>
  rGq b19 false (some (.ptr i0 0 0 4)) fun b21 v22 =>
  rGq b21 false (aLoad Tryz.prog h10 9 v22) fun b23 v24 =>
  rGq b23 false (aBin Tryz.prog .lss 9 v20 v24) fun b25 v26 =>
  okBool (pickR (some (.v (.bool b25))) (some (.v (.bool true))) (some v26)) fun b27 =>
  condB b27
  (okV (aLoad Tryz.prog h10 47 (.ptr i0 0 0 2)) fun v28 =>
  storeR Tryz.prog h10 (fun v29 h30 =>
  Tryz.r72_j12 K h G a1 i7 h30) 47 v28 (.ptr i7 0 0 0))
  (Tryz.r72_j12 K h G a1 i7 h10)) 47 v6 (.ptr i7 0 0 0))))
theorem Tryz.c72 (G : Nat → Option AV) (a0 a1 : AV) (h : AH) (K : AV → AH → Prop) (hk : LowH h.length h → Tryz.r72 G a0 a1 h K) : SCall Tryz.prog G 72 [a0, a1] h K :=
  scall_of_rwp Tryz.tab72 [] Tryz.func72 rfl Tryz.ntmps72 (by kernel_rfl) (by show 2 ≤ 31; decide) (by kernel_rfl) (by kernel_rfl) hk
-- 73 (skylark/skylarkref07.Change).Owner
def Tryz.r73 (G : Nat → Option AV) (a0 a1 : AV) (h : AH) (K : AV → AH → Prop) : Prop :=
  onlyB (AV.one a0) (newO (.cells 113 (AV.cells a0).length [AV.cells a0] 0) h fun i0 h1 =>
  okV (aLoad Tryz.prog h1 113 (.ptr i0 0 0 0)) fun v2 =>
  callR Tryz.prog G 59 [v2] h1 (fun v3 h4 =>
  okBool (some v3) fun b5 =>
  condB (!b5)
  (RetR h K (.tup [(.v (.int .i64 0)), (.v (.int .i64 70))]) h4)
  (okBool (aLoad Tryz.prog h4 4 (.ptr i0 0 0 5)) fun b6 =>
  rGq b6 false (some a1) fun b7 v8 =>
  rGq b7 false (some (.ptr i0 0 0 4)) fun b9 v10 =>
  rGq b9 false (aLoad Tryz.prog h4 9 v10) fun b11 v12 =>
  rGq b11 false (aBin Tryz.prog .lss 9 v8 v12) fun b13 v14 =>
  okBool (pickR (some (.v (.bool b13))) (some (.v (.bool true))) (some v14)) fun b15 =>
  condB b15
  (okV (aLoad Tryz.prog h4 31 (.ptr i0 0 0 3)) fun v16 =>
  okStr (some a1) fun s17 =>
  callR Tryz.prog G 74 [v16, (.v (.string s17))] h4 (fun v18 h19 =>
  okInt .i64 (extV 0 v18) fun n20 =>
  okInt .i64 (extV 1 v18) fun n21 =>
  RetR h K (.tup [(.v (.int .i64 n20)), (.v (.int .i64 n21))]) h19))
  (okV (aLoad Tryz.prog h4 31 (.ptr i0 0 0 1)) fun v22 =>
  okStr (some a1) fun s23 =>
  callR Tryz.prog G 74 [v22, (.v (.string s23))] h4 (fun v24 h25 =>
  okInt .i64 (extV 0 v24) fun n26 =>
  okInt .i64 (extV 1 v24) fun n27 =>
  RetR h K (.tup [(.v (.int .i64 n26)), (.v (.int .i64 n27))]) h25)))))
theorem Tryz.c73 (G : Nat → Option AV) (a0 a1 : AV) (h : AH) (K : AV → AH → Prop) (hk : LowH h.length h → Tryz.r73 G a0 a1 h K) : SCall Tryz.prog G 73 [a0, a1] h K :=
  scall_of_rwp Tryz.tab73 [] Tryz.func73 rfl Tryz.ntmps73 (by kernel_rfl) (by show 2 ≤ 31; decide) (by kernel_rfl) (by kernel_rfl) hk
-- 74 skylark/skylarkref06.Of
def Tryz.r74 (G : Nat → Option AV) (a0 a1 : AV) (h : AH) (K : AV → AH → Prop) : Prop :=
  callR Tryz.prog G 150 [a0] h (fun v0 h1 =>
  okBool (some v0) fun b2 =>
  condB (!b2)
  (RetR h K (.tup [(.v (.int .i64 0)), (.v (.int .i64 1))]) h1)
  (callR Tryz.prog G 152 [a0] h1 (fun v3 h4 =>
  okStr (some a1) fun s5 =>
  callR Tryz.prog G 151 [v3, (.v (.string s5))] h4 (fun v6 h7 =>
  okInt .i64 (some v6) fun n8 =>
  RetR h K (.tup [(.v (.int .i64 n8)), (.v (.int .i64 0))]) h7))))
theorem Tryz.c74 (G : Nat → Option AV) (a0 a1 : AV) (h : AH) (K : AV → AH → Prop) (hk : LowH h.length h → Tryz.r74 G a0 a1 h K) : SCall Tryz.prog G 74 [a0, a1] h K :=
  scall_of_rwp Tryz.tab74 [] Tryz.func74 rfl Tryz.ntmps74 (by kernel_rfl) (by show 2 ≤ 13; decide) (by kernel_rfl) (by kernel_rfl) hk
-- 80 skylark/layout.Check
def Tryz.r80 (G : Nat → Option AV) (a0 : AV) (h : AH) (K : AV → AH → Prop) : Prop :=
  onlyB (AV.one a0) (newO (.cells 47 (AV.cells a0).length [AV.cells a0] 0) h fun i0 h1 =>
  okInt .i64 (aLoad Tryz.prog h1 3 (.ptr i0 0 0 0)) fun n2 =>
  rGq (decide (n2 < 1)) false (some (.ptr i0 0 0 0)) fun b3 v4 =>
  rGq b3 false (aLoad Tryz.prog h1 3 v4) fun b5 v6 =>
  rGq b5 false (aBin Tryz.prog .gtr 3 v6 (.v (.int .i64 1073741824))) fun b7 v8 =>
  okBool (pickR (some (.v (.bool b7))) (some (.v (.bool true))) (some v8)) fun b9 =>
  rGq b9 false (some (.ptr i0 0 0 1)) fun b10 v11 =>
  rGq b10 false (aLoad Tryz.prog h1 31 v11) fun b12 v13 =>
  rGe b12 false (fun k14 => callR Tryz.prog G 33 [v13] h1 (fun v15 h16 =>
  k14 v15 h16)) h1 fun b17 v18 h19 =>
  rGq b17 false (aBin Tryz.prog .neq 24 v18 (.v (.int .i64 0))) fun b20 v21 =>
  okBool (pickR (some (.v (.bool b20))) (some (.v (.bool true))) (some v21)) fun b22 =>
  condB b22
  (RetR h K (.v (.int .i64 70)) h19)
  (RetR h K (.v (.int .i64 0)) h19))
theorem Tryz.c80 (G : Nat → Option AV) (a0 : AV) (h : AH) (K : AV → AH → Prop) (hk : LowH h.length h → Tryz.r80 G a0 h K) : SCall Tryz.prog G 80 [a0] h K :=
  scall_of_rwp Tryz.tab80 [] Tryz.func80 rfl Tryz.ntmps80 (by kernel_rfl) (by show 1 ≤ 17; decide) (by kernel_rfl) (by kernel_rfl) hk
-- 81 slices.Clone[[]int,int]
def Tryz.r81 (a0 : AV) (h : AH) (K : AV → AH → Prop) : Prop :=
  binR Tryz.prog h (fun v0 h1 =>
  okBool (some v0) fun b2 =>
  condB b2
  (RetR h K (.v (.slice none 0 0)) h1)
  (newO (.cells 3 1 [] 0) h1 fun i3 h4 =>
  appR Tryz.prog h4 31 31 (.sl i3 0 0 0 none) a0 (fun v5 h6 =>
  RetR h K v5 h6))) .eql 31 a0 (.v (.slice none 0 0))
theorem Tryz.c81 (G : Nat → Option AV) (a0 : AV) (h : AH) (K : AV → AH → Prop) (hk : LowH h.length h → Tryz.r81 a0 h K) : SCall Tryz.prog G 81 [a0] h K :=
  scall_of_rwp Tryz.tab81 [] Tryz.func81 rfl Tryz.ntmps81 (by kernel_rfl) (by show 1 ≤ 8; decide) (by kernel_rfl) (by kernel_rfl) hk
-- 82 (*skylark/client.Client).Tick
def Tryz.r82 (G : Nat → Option AV) (a0 a1 : AV) (h : AH) (K : AV → AH → Prop) : Prop :=
  okInt .i64 (some a1) fun n0 =>
  callR Tryz.prog G 83 [a0, (.v (.int .i64 n0))] h (fun v1 h2 =>
  okInt .i64 (some v1) fun n3 =>
  condB (n3 != 0)
  (RetR h K (.v (.int .i64 n3)) h2)
  (okV (aNil a0) fun v4 =>
  okV (aFA Tryz.prog 171 8 v4) fun v5 =>
  okV (aFA Tryz.prog 169 0 v5) fun v6 =>
  okBool (aLoad Tryz.prog h2 4 v6) fun b7 =>
  rGq (!b7) false (some a1) fun b8 v9 =>
  rGq b8 false (some a0) fun b10 v11 =>
  rGq b10 false (aNil v11) fun b12 v13 =>
  rGq b12 false (aFA Tryz.prog 171 7 v13) fun b14 v15 =>
  rGq b14 false (aLoad Tryz.prog h2 3 v15) fun b16 v17 =>
  rGq b16 false (aBin Tryz.prog .sub 3 v9 v17) fun b18 v19 =>
  rGq b18 false (some a0) fun b20 v21 =>
  rGq b20 false (aNil v21) fun b22 v23 =>
  rGq b22 false (aFA Tryz.prog 171 1 v23) fun b24 v25 =>
  rGq b24 false (aLoad Tryz.prog h2 3 v25) fun b26 v27 =>
  rGq b26 false (aBin Tryz.prog .lss 3 v19 v27) fun b28 v29 =>
  okBool (pickR (some (.v (.bool b28))) (some (.v (.bool true))) (some v29)) fun b30 =>
  condB b30
  (RetR h K (.v (.int .i64 0)) h2)
  (okV (aNil a0) fun v31 =>
  okV (aFA Tryz.prog 171 6 v31) fun v32 =>
  okInt .i64 (aLoad Tryz.prog h2 3 v32) fun n33 =>
  okV (aNil a0) fun v34 =>
  okV (aFA Tryz.prog 171 2 v34) fun v35 =>
  okInt .i64 (aLoad Tryz.prog h2 3 v35) fun n36 =>
  condB (decide (n33 ≥ n36))
  (callR Tryz.prog G 154 [a0, (.v (.int .i64 0)), (.v (.int .i64 241))] h2 (fun v37 h38 =>
  RetR h K (.v (.int .i64 0)) h38))
  (callR Tryz.prog G 90 [a0] h2 (fun v39 h40 =>
  RetR h K (.v (.int .i64 0)) h40)))))
theorem Tryz.c82 (G : Nat → Option AV) (a0 a1 : AV) (h : AH) (K : AV → AH → Prop) (hk : LowH h.length h → Tryz.r82 G a0 a1 h K) : SCall Tryz.prog G 82 [a0, a1] h K :=
  scall_of_rwp Tryz.tab82 [] Tryz.func82 rfl Tryz.ntmps82 (by kernel_rfl) (by show 2 ≤ 46; decide) (by kernel_rfl) (by kernel_rfl) hk
-- 83 (*skylark/client.Client).tell
def Tryz.r83 (a0 a1 : AV) (h : AH) (K : AV → AH → Prop) : Prop :=
  okInt .i64 (some a1) fun n0 =>
  okV (aNil a0) fun v1 =>
  okV (aFA Tryz.prog 171 4 v1) fun v2 =>
  okInt .i64 (aLoad Tryz.prog h 3 v2) fun n3 =>
  rGq (decide (n0 < n3)) false (some a1) fun b4 v5 =>
  rGq b4 false (aBin Tryz.prog .gtr 3 v5 (.v (.int .i64 1073741824))) fun b6 v7 =>
  okBool (pickR (some (.v (.bool b6))) (some (.v (.bool true))) (some v7)) fun b8 =>
  condB b8
  (RetR h K (.v (.int .i64 1)) h)
  (okInt .i64 (some a1) fun n9 =>
  okV (aNil a0) fun v10 =>
  okV (aFA Tryz.prog 171 4 v10) fun v11 =>
  storeR Tryz.prog h (fun v12 h13 =>
  RetR h K (.v (.int .i64 0)) h13) 3 (.v (.int .i64 n9)) v11)
theorem Tryz.c83 (G : Nat → Option AV) (a0 a1 : AV) (h : AH) (K : AV → AH → Prop) (hk : LowH h.length h → Tryz.r83 a0 a1 h K) : SCall Tryz.prog G 83 [a0, a1] h K :=
  scall_of_rwp Tryz.tab83 [] Tryz.func83 rfl Tryz.ntmps83 (by kernel_rfl) (by show 2 ≤ 19; decide) (by kernel_rfl) (by kernel_rfl) hk
-- 84 slices.Clone[[]skylark/api.Op,skylark/api.Op]
def Tryz.r84 (a0 : AV) (h : AH) (K : AV → AH → Prop) : Prop :=
  binR Tryz.prog h (fun v0 h1 =>
  okBool (some v0) fun b2 =>
  condB b2
  (RetR h K (.v (.slice none 0 0)) h1)
  (newO (.cells 79 6 [] 0) h1 fun i3 h4 =>
  appR Tryz.prog h4 49 49 (.sl i3 0 0 0 none) a0 (fun v5 h6 =>
  RetR h K v5 h6))) .eql 49 a0 (.v (.slice none 0 0))
theorem Tryz.c84 (G : Nat → Option AV) (a0 : AV) (h : AH) (K : AV → AH → Prop) (hk : LowH h.length h → Tryz.r84 a0 h K) : SCall Tryz.prog G 84 [a0] h K :=
  scall_of_rwp Tryz.tab84 [] Tryz.func84 rfl Tryz.ntmps84 (by kernel_rfl) (by show 1 ≤ 8; decide) (by kernel_rfl) (by kernel_rfl) hk
-- 85 skylark/op.CheckAll
def Tryz.r85 (G : Nat → Option AV) (a0 : AV) (h : AH) (K : AV → AH → Prop) : Prop :=
  onlyB (AV.one a0) (newO (.cells 85 (AV.cells a0).length [AV.cells a0] 0) h fun i0 h1 =>
  okInt .i64 (aLoad Tryz.prog h1 3 (.ptr i0 0 0 0)) fun n2 =>
  callR Tryz.prog G 155 [(.v (.int .i64 n2)), (.v (.int .i64 0)), (.v (.int .i64 1000))] h1 (fun v3 h4 =>
  okBool (some v3) fun b5 =>
  rGq (!b5) false (some (.ptr i0 0 0 1)) fun b6 v7 =>
  rGq b6 false (aLoad Tryz.prog h4 3 v7) fun b8 v9 =>
  rGe b8 false (fun k10 => callR Tryz.prog G 155 [v9, (.v (.int .i64 1)), (.v (.int .i64 1048576))] h4 (fun v11 h12 =>
  k10 v11 h12)) h4 fun b13 v14 h15 =>
  rGq b13 false (aUn .not v14) fun b16 v17 =>
  okBool (pickR (some (.v (.bool b16))) (some (.v (.bool true))) (some v17)) fun b18 =>
  rGq b18 false (some (.ptr i0 0 0 2)) fun b19 v20 =>
  rGq b19 false (aLoad Tryz.prog h15 49 v20) fun b21 v22 =>
  rGq b21 false (aLen Tryz.prog h15 49 v22) fun b23 v24 =>
  rGe b23 false (fun k25 => callR Tryz.prog G 155 [v24, (.v (.int .i64 1)), (.v (.int .i64 32))] h15 (fun v26 h27 =>
  k25 v26 h27)) h15 fun b28 v29 h30 =>
  rGq b28 false (aUn .not v29) fun b31 v32 =>
  okBool (pickR (some (.v (.bool b31))) (some (.v (.bool true))) (some v32)) fun b33 =>
  condB b33
  (RetR h K (.v (.int .i64 80)) h30)
  (okV (aLoad Tryz.prog h30 49 (.ptr i0 0 0 2)) fun v34 =>
  callR Tryz.prog G 86 [v34, (.fn (.func 156) [] [])] h30 (fun v35 h36 =>
  okBool (some v35) fun b37 =>
  condB b37
  (RetR h K (.v (.int .i64 80)) h36)
  (RetR h K (.v (.int .i64 0)) h36)))))
theorem Tryz.c85 (G : Nat → Option AV) (a0 : AV) (h : AH) (K : AV → AH → Prop) (hk : LowH h.length h → Tryz.r85 G a0 h K) : SCall Tryz.prog G 85 [a0] h K :=
  scall_of_rwp Tryz.tab85 [] Tryz.func85 rfl Tryz.ntmps85 (by kernel_rfl) (by show 1 ≤ 23; decide) (by kernel_rfl) (by kernel_rfl) hk
-- 86 slices.ContainsFunc[[]skylark/api.Op,skylark/api.Op]
def Tryz.r86 (G : Nat → Option AV) (a0 a1 : AV) (h : AH) (K : AV → AH → Prop) : Prop :=
  callR Tryz.prog G 119 [a0, a1] h (fun v0 h1 =>
  okInt .i64 (some v0) fun n2 =>
  RetR h K (.v (.bool (decide (n2 ≥ 0)))) h1)
theorem Tryz.c86 (G : Nat → Option AV) (a0 a1 : AV) (h : AH) (K : AV → AH → Prop) (hk : LowH h.length h → Tryz.r86 G a0 a1 h K) : SCall Tryz.prog G 86 [a0, a1] h K :=
  scall_of_rwp Tryz.tab86 [] Tryz.func86 rfl Tryz.ntmps86 (by kernel_rfl) (by show 2 ≤ 9; decide) (by kernel_rfl) (by kernel_rfl) hk
-- 87 (*skylark/client.Client).Ask$1
def Tryz.r87 (a0 : AV) (h : AH) (K : AV → AH → Prop) : Prop :=
  onlyB (AV.one a0) (newO (.cells 79 (AV.cells a0).length [AV.cells a0] 0) h fun i0 h1 =>
  okInt .i64 (aLoad Tryz.prog h1 3 (.ptr i0 0 0 0)) fun n2 =>
  RetR h K (.v (.bool (n2 == 6))) h1)
theorem Tryz.c87 (G : Nat → Option AV) (a0 : AV) (h : AH) (K : AV → AH → Prop) (hk : LowH h.length h → Tryz.r87 a0 h K) : SCall Tryz.prog G 87 [a0] h K :=
  scall_of_rwp Tryz.tab87 [] Tryz.func87 rfl Tryz.ntmps87 (by kernel_rfl) (by show 1 ≤ 6; decide) (by kernel_rfl) (by kernel_rfl) hk
-- 88 (*skylark/client.Client).apart
def Tryz.r88 (G : Nat → Option AV) (a0 a1 : AV) (h : AH) (K : AV → AH → Prop) : Prop :=
  onlyB (AV.one a0) (newO (.cells 43 (AV.cells a0).length [AV.cells a0] 0) h fun i0 h1 =>
  okV (aLoad Tryz.prog h1 43 (.ptr i0 0 0 0)) fun v2 =>
  okV (aIA Tryz.prog h1 49 a1 (.v (.int .i64 0))) fun v3 =>
  okV (aLoad Tryz.prog h1 79 v3) fun v4 =>
  callR Tryz.prog G 157 [v2, v4] h1 (fun v5 h6 =>
  okInt .i64 (some v5) fun n7 =>
  newO (.cells 3 1 [[(.v (.int .i64 0))]] 0) h6 fun i8 h9 =>
  (aLoad Tryz.prog h9 79 v3 = some v4) ∧ (aIA Tryz.prog h9 49 a1 (.v (.int .i64 0)) = some v3) ∧ (aLoad Tryz.prog h9 43 (.ptr i0 0 0 0) = some v2) ∧ storeR Tryz.prog h9 (fun v10 h11 =>
  callR Tryz.prog G 119 [a1, (.fn (.func 158) [] [(.ptr i0 0 0 0), (.ptr i8 0 0 0)])] h11 (fun v12 h13 =>
  okInt .i64 (some v12) fun n14 =>
  RetR h K (.v (.int .i64 n14)) h13)) 3 (.v (.int .i64 n7)) (.ptr i8 0 0 0)))
theorem Tryz.c88 (G : Nat → Option AV) (a0 a1 : AV) (h : AH) (K : AV → AH → Prop) (hk : LowH h.length h → Tryz.r88 G a0 a1 h K) : SCall Tryz.prog G 88 [a0, a1] h K :=
  scall_of_rwp Tryz.tab88 [] Tryz.func88 rfl Tryz.ntmps88 (by kernel_rfl) (by show 2 ≤ 14; decide) (by kernel_rfl) (by kernel_rfl) hk
-- 89 skylark/op.Encode
def Tryz.r89_l7_18 (K : AV → AH → Prop) (h : AH) (G : Nat → Option AV) (i6 : Nat) (h15 : AH) (v16 : AV) (n17 : Int) (n52 : Int) : Prop :=
  ∃ (I18 : Nat → List AV → AH → Prop) (m19 : Nat), I18 m19 [(.v (.int .i64 n52))] h15 ∧ ∀ (m20 : Nat) (h21 : AH), h15.length ≤ h21.length → LowH h21.length h21 → ∀ (n22 : Int), I18 m20 [(.v (.int .i64 n22))] h21 →
  condB (decide (n22 < n17))
  (okV (aIA Tryz.prog h21 49 v16 (.v (.int .i64 n22))) fun v23 =>
  okV (aLoad Tryz.prog h21 79 v23) fun v24 =>
  newO (.cells 79 6 [[(.v (.int .i64 0)), (.v (.string (ByteArray.mk #[]))), (.v (.string (ByteArray.mk #[]))), (.v (.int .i64 0)), (.v (.int .i64 0)), (.v (.int .i64 0))]] 0) h21 fun i25 h26 =>
  storeR Tryz.prog h26 (fun v27 h28 =>
  okInt .i64 (aLoad Tryz.prog h28 3 (.ptr i25 0 0 0)) fun n29 =>
  newO (.cells 3 1 [[(.v (.int .i64 n29))]] 0) h28 fun i30 h31 =>
  callR Tryz.prog G 159 [(.ptr i6 0 0 0), (.sl i30 0 0 1 none)] h31 (fun v32 h33 =>
  okStr (aLoad Tryz.prog h33 9 (.ptr i25 0 0 1)) fun s34 =>
  okStr (aLoad Tryz.prog h33 9 (.ptr i25 0 0 2)) fun s35 =>
  newO (.cells 9 1 [[(.v (.string s34))], [(.v (.string s35))]] 0) h33 fun i36 h37 =>
  callR Tryz.prog G 160 [(.ptr i6 0 0 0), (.sl i36 0 0 2 none)] h37 (fun v38 h39 =>
  okInt .i64 (aLoad Tryz.prog h39 3 (.ptr i25 0 0 3)) fun n40 =>
  okInt .i64 (aLoad Tryz.prog h39 3 (.ptr i25 0 0 4)) fun n41 =>
  okInt .i64 (aLoad Tryz.prog h39 3 (.ptr i25 0 0 5)) fun n42 =>
  newO (.cells 3 1 [[(.v (.int .i64 n40))], [(.v (.int .i64 n41))], [(.v (.int .i64 n42))]] 0) h39 fun i43 h44 =>
  callR Tryz.prog G 159 [(.ptr i6 0 0 0), (.sl i43 0 0 3 none)] h44 (fun v45 h46 =>
  nextR h15 I18 m20 [some (.ptr i6 0 0 0), some v16, some (.v (.int .i64 n17))] [some (.ptr i6 0 0 0), some v16, some (.v (.int .i64 n17))] [(.v (.int .i64 (IntKind.wrap .i64 (n22 + 1))))] h46)))) 79 v24 (.ptr i25 0 0 0))
  (okV (aLoad Tryz.prog h21 71 (.ptr i6 0 0 0)) fun v47 =>
  callR Tryz.prog G 32 [v47] h21 (fun v48 h49 =>
  okStr (extV 0 v48) fun s50 =>
  okInt .i64 (extV 1 v48) fun n51 =>
  RetR h K (.tup [(.v (.string s50)), (.v (.int .i64 n51))]) h49))
def Tryz.r89 (G : Nat → Option AV) (a0 : AV) (h : AH) (K : AV → AH → Prop) : Prop :=
  onlyB (AV.one a0) (newO (.cells 85 (AV.cells a0).length [AV.cells a0] 0) h fun i0 h1 =>
  okV (aLoad Tryz.prog h1 85 (.ptr i0 0 0 0)) fun v2 =>
  callR Tryz.prog G 85 [v2] h1 (fun v3 h4 =>
  okInt .i64 (some v3) fun n5 =>
  condB (n5 != 0)
  (RetR h K (.tup [(.v (.string (ByteArray.mk #[]))), (.v (.int .i64 n5))]) h4)
  (newO (.cells 256 1 [[(.v (.slice none 0 0))]] 0) h4 fun i6 h7 =>
  okInt .i64 (aLoad Tryz.prog h7 3 (.ptr i0 0 0 0)) fun n8 =>
  okInt .i64 (aLoad Tryz.prog h7 3 (.ptr i0 0 0 1)) fun n9 =>
  okV (aLoad Tryz.prog h7 49 (.ptr i0 0 0 2)) fun v10 =>
  okInt .i64 (aLen Tryz.prog h7 49 v10) fun n11 =>
  newO (.cells 3 1 [[(.v (.int .i64 n8))], [(.v (.int .i64 n9))], [(.v (.int .i64 n11))]] 0) h7 fun i12 h13 =>
  callR Tryz.prog G 159 [(.ptr i6 0 0 0), (.sl i12 0 0 3 none)] h13 (fun v14 h15 =>
  okV (aLoad Tryz.prog h15 49 (.ptr i0 0 0 2)) fun v16 =>
  okInt .i64 (aLen Tryz.prog h15 49 v16) fun n17 =>
  Tryz.r89_l7_18 K h G i6 h15 v16 n17 0))))
theorem Tryz.c89 (G : Nat → Option AV) (a0 : AV) (h : AH) (K : AV → AH → Prop) (hk : LowH h.length h → Tryz.r89 G a0 h K) : SCall Tryz.prog G 89 [a0] h K :=
  scall_of_rwp Tryz.tab89 [(7, [(28, (.int .i64))], [5, 26, 27])] Tryz.func89 rfl Tryz.ntmps89 (by kernel_rfl) (by show 1 ≤ 61; decide) (by kernel_rfl) (by kernel_rfl) hk
-- 90 (*skylark/client.Client).send
def Tryz.r90 (G : Nat → Option AV) (a0 : AV) (h : AH) (K : AV → AH → Prop) : Prop :=
  okV (aNil a0) fun v0 =>
  okV (aFA Tryz.prog 171 9 v0) fun v1 =>
  okV (aLoad Tryz.prog h 85 v1) fun v2 =>
  callR Tryz.prog G 89 [v2] h (fun v3 h4 =>
  okStr (extV 0 v3) fun s5 =>
  okInt .i64 (extV 1 v3) fun n6 =>
  okV (aNil a0) fun v7 =>
  okV (aFA Tryz.prog 171 3 v7) fun v8 =>
  okV (aFA Tryz.prog 47 0 v8) fun v9 =>
  okInt .i64 (aLoad Tryz.prog h4 3 v9) fun n10 =>
  newO (.cells 70 3 [[(.v (.bool false)), (.v (.int .i64 n10)), (.v (.string (ByteArray.mk #[])))], [(.v (.bool true)), (.v (.int .i64 0)), (.v (.string s5))]] 0) h4 fun i11 h12 =>
  callR Tryz.prog G 32 [(.sl i11 0 0 2 none)] h12 (fun v13 h14 =>
  okStr (extV 0 v13) fun s15 =>
  okInt .i64 (extV 1 v13) fun n16 =>
  okV (aNil a0) fun v17 =>
  okV (aFA Tryz.prog 171 11 v17) fun v18 =>
  okV (aLoad Tryz.prog h14 67 v18) fun v19 =>
  okV (aNil a0) fun v20 =>
  okV (aFA Tryz.prog 171 9 v20) fun v21 =>
  okV (aFA Tryz.prog 85 2 v21) fun v22 =>
  okV (aLoad Tryz.prog h14 49 v22) fun v23 =>
  okV (aIA Tryz.prog h14 49 v23 (.v (.int .i64 0))) fun v24 =>
  okV (aLoad Tryz.prog h14 79 v24) fun v25 =>
  callR Tryz.prog G 157 [a0, v25] h14 (fun v26 h27 =>
  okInt .i64 (some v26) fun n28 =>
  (aLoad Tryz.prog h27 67 v18 = some v19) ∧ newO (.cells 81 2 [[(.v (.int .i64 n28)), (.v (.string s15))]] 0) h27 fun i29 h30 =>
  (aLoad Tryz.prog h30 67 v18 = some v19) ∧ appR Tryz.prog h30 67 67 v19 (.sl i29 0 0 1 none) (fun v31 h32 =>
  okV (aNil a0) fun v33 =>
  okV (aFA Tryz.prog 171 11 v33) fun v34 =>
  storeR Tryz.prog h32 (fun v35 h36 =>
  okV (aNil a0) fun v37 =>
  okV (aFA Tryz.prog 171 4 v37) fun v38 =>
  okInt .i64 (aLoad Tryz.prog h36 3 v38) fun n39 =>
  okV (aNil a0) fun v40 =>
  okV (aFA Tryz.prog 171 7 v40) fun v41 =>
  storeR Tryz.prog h36 (fun v42 h43 =>
  okV (aNil a0) fun v44 =>
  okV (aFA Tryz.prog 171 6 v44) fun v45 =>
  okInt .i64 (aLoad Tryz.prog h43 3 v45) fun n46 =>
  okV (aNil a0) fun v47 =>
  okV (aFA Tryz.prog 171 6 v47) fun v48 =>
  storeR Tryz.prog h43 (fun v49 h50 =>
  RetR h K (.tup []) h50) 3 (.v (.int .i64 (IntKind.wrap .i64 (n46 + 1)))) v48) 3 (.v (.int .i64 n39)) v41) 67 v31 v34))))
theorem Tryz.c90 (G : Nat → Option AV) (a0 : AV) (h : AH) (K : AV → AH → Prop) (hk : LowH h.length h → Tryz.r90 G a0 h K) : SCall Tryz.prog G 90 [a0] h K :=
  scall_of_rwp Tryz.tab90 [] Tryz.func90 rfl Tryz.ntmps90 (by kernel_rfl) (by show 1 ≤ 61; decide) (by kernel_rfl) (by kernel_rfl) hk
-- 91 skylark/op.EncodeReply
def Tryz.r91_l12_50 (G : Nat → Option AV) (i6 : Nat) (h17 : AH) (v18 : AV) (n19 : Int) (I20 : Nat → List AV → AH → Prop) (m22 : Nat) (n24 : Int) (h47 : AH) (v48 : AV) (n49 : Int) (n76 : Int) : Prop :=
  ∃ (I50 : Nat → List AV → AH → Prop) (m51 : Nat), I50 m51 [(.v (.int .i64 n76))] h47 ∧ ∀ (m52 : Nat) (h53 : AH), h47.length ≤ h53.length → LowH h53.length h53 → ∀ (n54 : Int), I50 m52 [(.v (.int .i64 n54))] h53 →
  condB (decide (n54 < n49))
  (okV (aIA Tryz.prog h53 52 v48 (.v (.int .i64 n54))) fun v55 =>
  okV (aLoad Tryz.prog h53 202 v55) fun v56 =>
  newO (.cells 202 3 [[(.v (.string (ByteArray.mk #[]))), (.v (.int .i64 0)), (.v (.string (ByteArray.mk #[])))]] 0) h53 fun i57 h58 =>
  storeR Tryz.prog h58 (fun v59 h60 =>
  okStr (aLoad Tryz.prog h60 9 (.ptr i57 0 0 0)) fun s61 =>
  newO (.cells 9 1 [[(.v (.string s61))]] 0) h60 fun i62 h63 =>
  callR Tryz.prog G 160 [(.ptr i6 0 0 0), (.sl i62 0 0 1 none)] h63 (fun v64 h65 =>
  okInt .i64 (aLoad Tryz.prog h65 3 (.ptr i57 0 0 1)) fun n66 =>
  newO (.cells 3 1 [[(.v (.int .i64 n66))]] 0) h65 fun i67 h68 =>
  callR Tryz.prog G 159 [(.ptr i6 0 0 0), (.sl i67 0 0 1 none)] h68 (fun v69 h70 =>
  okStr (aLoad Tryz.prog h70 9 (.ptr i57 0 0 2)) fun s71 =>
  newO (.cells 9 1 [[(.v (.string s71))]] 0) h70 fun i72 h73 =>
  callR Tryz.prog G 160 [(.ptr i6 0 0 0), (.sl i72 0 0 1 none)] h73 (fun v74 h75 =>
  nextR h47 I50 m52 [some (.ptr i6 0 0 0), some v18, some (.v (.int .i64 n19)), some (.v (.int .i64 n24)), some v48, some (.v (.int .i64 n49))] [some (.ptr i6 0 0 0), some v18, some (.v (.int .i64 n19)), some (.v (.int .i64 n24)), some v48, some (.v (.int .i64 n49))] [(.v (.int .i64 (IntKind.wrap .i64 (n54 + 1))))] h75)))) 202 v56 (.ptr i57 0 0 0))
  (nextR h17 I20 m22 [some (.ptr i6 0 0 0), some v18, some (.v (.int .i64 n19))] [some (.ptr i6 0 0 0), some v18, some (.v (.int .i64 n19))] [(.v (.int .i64 (IntKind.wrap .i64 (n24 + 1))))] h53)
def Tryz.r91_l6_20 (K : AV → AH → Prop) (h : AH) (G : Nat → Option AV) (i6 : Nat) (h17 : AH) (v18 : AV) (n19 : Int) (n82 : Int) : Prop :=
  ∃ (I20 : Nat → List AV → AH → Prop) (m21 : Nat), I20 m21 [(.v (.int .i64 n82))] h17 ∧ ∀ (m22 : Nat) (h23 : AH), h17.length ≤ h23.length → LowH h23.length h23 → ∀ (n24 : Int), I20 m22 [(.v (.int .i64 n24))] h23 →
  condB (decide (n24 < n19))
  (okV (aIA Tryz.prog h23 55 v18 (.v (.int .i64 n24))) fun v25 =>
  okV (aLoad Tryz.prog h23 54 v25) fun v26 =>
  newO (.cells 54 4 [[(.v (.int .i64 0)), (.v (.int .i64 0)), (.v (.string (ByteArray.mk #[]))), (.v (.slice none 0 0))]] 0) h23 fun i27 h28 =>
  storeR Tryz.prog h28 (fun v29 h30 =>
  okInt .i64 (aLoad Tryz.prog h30 24 (.ptr i27 0 0 0)) fun n31 =>
  okInt .i64 (aLoad Tryz.prog h30 3 (.ptr i27 0 0 1)) fun n32 =>
  newO (.cells 3 1 [[(.v (.int .i64 n31))], [(.v (.int .i64 n32))]] 0) h30 fun i33 h34 =>
  callR Tryz.prog G 159 [(.ptr i6 0 0 0), (.sl i33 0 0 2 none)] h34 (fun v35 h36 =>
  okStr (aLoad Tryz.prog h36 9 (.ptr i27 0 0 2)) fun s37 =>
  newO (.cells 9 1 [[(.v (.string s37))]] 0) h36 fun i38 h39 =>
  callR Tryz.prog G 160 [(.ptr i6 0 0 0), (.sl i38 0 0 1 none)] h39 (fun v40 h41 =>
  okV (aLoad Tryz.prog h41 52 (.ptr i27 0 0 3)) fun v42 =>
  okInt .i64 (aLen Tryz.prog h41 52 v42) fun n43 =>
  newO (.cells 3 1 [[(.v (.int .i64 n43))]] 0) h41 fun i44 h45 =>
  callR Tryz.prog G 159 [(.ptr i6 0 0 0), (.sl i44 0 0 1 none)] h45 (fun v46 h47 =>
  okV (aLoad Tryz.prog h47 52 (.ptr i27 0 0 3)) fun v48 =>
  okInt .i64 (aLen Tryz.prog h47 52 v48) fun n49 =>
  Tryz.r91_l12_50 G i6 h17 v18 n19 I20 m22 n24 h47 v48 n49 0)))) 54 v26 (.ptr i27 0 0 0))
  (okV (aLoad Tryz.prog h23 71 (.ptr i6 0 0 0)) fun v77 =>
  callR Tryz.prog G 32 [v77] h23 (fun v78 h79 =>
  okStr (extV 0 v78) fun s80 =>
  okInt .i64 (extV 1 v78) fun n81 =>
  RetR h K (.tup [(.v (.string s80)), (.v (.int .i64 n81))]) h79))
def Tryz.r91 (G : Nat → Option AV) (a0 : AV) (h : AH) (K : AV → AH → Prop) : Prop :=
  onlyB (AV.one a0) (newO (.cells 59 (AV.cells a0).length [AV.cells a0] 0) h fun i0 h1 =>
  okV (aLoad Tryz.prog h1 59 (.ptr i0 0 0 0)) fun v2 =>
  callR Tryz.prog G 161 [v2] h1 (fun v3 h4 =>
  okBool (some v3) fun b5 =>
  condB (!b5)
  (RetR h K (.tup [(.v (.string (ByteArray.mk #[]))), (.v (.int .i64 80))]) h4)
  (newO (.cells 256 1 [[(.v (.slice none 0 0))]] 0) h4 fun i6 h7 =>
  okInt .i64 (aLoad Tryz.prog h7 3 (.ptr i0 0 0 0)) fun n8 =>
  okInt .i64 (aLoad Tryz.prog h7 3 (.ptr i0 0 0 1)) fun n9 =>
  okInt .i64 (aLoad Tryz.prog h7 3 (.ptr i0 0 0 3)) fun n10 =>
  okInt .i64 (aLoad Tryz.prog h7 24 (.ptr i0 0 0 4)) fun n11 =>
  okV (aLoad Tryz.prog h7 55 (.ptr i0 0 0 2)) fun v12 =>
  okInt .i64 (aLen Tryz.prog h7 55 v12) fun n13 =>
  newO (.cells 3 1 [[(.v (.int .i64 n8))], [(.v (.int .i64 n9))], [(.v (.int .i64 n10))], [(.v (.int .i64 n11))], [(.v (.int .i64 n13))]] 0) h7 fun i14 h15 =>
  callR Tryz.prog G 159 [(.ptr i6 0 0 0), (.sl i14 0 0 5 none)] h15 (fun v16 h17 =>
  okV (aLoad Tryz.prog h17 55 (.ptr i0 0 0 2)) fun v18 =>
  okInt .i64 (aLen Tryz.prog h17 55 v18) fun n19 =>
  Tryz.r91_l6_20 K h G i6 h17 v18 n19 0))))
theorem Tryz.c91 (G : Nat → Option AV) (a0 : AV) (h : AH) (K : AV → AH → Prop) (hk : LowH h.length h → Tryz.r91 G a0 h K) : SCall Tryz.prog G 91 [a0] h K :=
  scall_of_rwp Tryz.tab91 [(6, [(33, (.int .i64))], [4, 31, 32]), (12, [(58, (.int .i64))], [4, 31, 32, 33, 56, 57])] Tryz.func91 rfl Tryz.ntmps91 (by kernel_rfl) (by show 1 ≤ 86; decide) (by kernel_rfl) (by kernel_rfl) hk
-- 92 skylark/client.read
def Tryz.r92_l2_3 (K : AV → AH → Prop) (h : AH) (G : Nat → Option AV) (a0 : AV) (i0 : Nat) (h1 : AH) (n2 : Int) (n52 : Int) : Prop :=
  ∃ (I3 : Nat → List AV → AH → Prop) (m4 : Nat), I3 m4 [(.v (.int .i64 n52))] h1 ∧ ∀ (m5 : Nat) (h6 : AH), h1.length ≤ h6.length → LowH h6.length h6 → ∀ (n7 : Int), I3 m5 [(.v (.int .i64 n7))] h6 →
  condB (decide (n7 < n2))
  (okV (aIA Tryz.prog h6 71 a0 (.v (.int .i64 n7))) fun v8 =>
  okV (aLoad Tryz.prog h6 70 v8) fun v9 =>
  newO (.cells 70 3 [[(.v (.bool false)), (.v (.int .i64 0)), (.v (.string (ByteArray.mk #[])))]] 0) h6 fun i10 h11 =>
  storeR Tryz.prog h11 (fun v12 h13 =>
  okBool (aLoad Tryz.prog h13 4 (.ptr i10 0 0 0)) fun b14 =>
  rGq b14 false (some (.ptr i10 0 0 1)) fun b15 v16 =>
  rGq b15 false (aLoad Tryz.prog h13 2 v16) fun b17 v18 =>
  rGq b17 false (aBin Tryz.prog .lss 2 v18 (.v (.int .i64 0))) fun b19 v20 =>
  okBool (pickR (some (.v (.bool b19))) (some (.v (.bool true))) (some v20)) fun b21 =>
  rGq b21 false (some (.ptr i10 0 0 1)) fun b22 v23 =>
  rGq b22 false (aLoad Tryz.prog h13 2 v23) fun b24 v25 =>
  rGq b24 false (aBin Tryz.prog .gtr 2 v25 (.v (.int .i64 1073741824))) fun b26 v27 =>
  okBool (pickR (some (.v (.bool b26))) (some (.v (.bool true))) (some v27)) fun b28 =>
  condB b28
  (okV (aLoad Tryz.prog h13 47 (.ptr i0 0 0 0)) fun v29 =>
  storeR Tryz.prog h13 (fun v30 h31 =>
  okV (aLoad Tryz.prog h31 47 (.ptr i0 0 0 0)) fun v32 =>
  RetR h K (.tup [v32, (.v (.bool false))]) h31) 47 v29 (.ptr i0 0 0 0))
  (condB (n7 == 0)
  (okInt .i64 (aLoad Tryz.prog h13 2 (.ptr i10 0 0 1)) fun n33 =>
  storeR Tryz.prog h13 (fun v34 h35 =>
  nextR h1 I3 m5 [some (.ptr i0 0 0 0), some a0, some (.v (.int .i64 n2))] [some (.ptr i0 0 0 0), some a0, some (.v (.int .i64 n2))] [(.v (.int .i64 (IntKind.wrap .i64 (n7 + 1))))] h35) 3 (.v (.int .i64 n33)) (.ptr i0 0 0 0))
  (okV (aLoad Tryz.prog h13 31 (.ptr i0 0 0 1)) fun v36 =>
  okInt .i64 (aLoad Tryz.prog h13 2 (.ptr i10 0 0 1)) fun n37 =>
  newO (.cells 3 1 [[(.v (.int .i64 n37))]] 0) h13 fun i38 h39 =>
  appR Tryz.prog h39 31 31 v36 (.sl i38 0 0 1 none) (fun v40 h41 =>
  storeR Tryz.prog h41 (fun v42 h43 =>
  nextR h1 I3 m5 [some (.ptr i0 0 0 0), some a0, some (.v (.int .i64 n2))] [some (.ptr i0 0 0 0), some a0, some (.v (.int .i64 n2))] [(.v (.int .i64 (IntKind.wrap .i64 (n7 + 1))))] h43) 31 v40 (.ptr i0 0 0 1))))) 70 v9 (.ptr i10 0 0 0))
  (okV (aLoad Tryz.prog h6 47 (.ptr i0 0 0 0)) fun v44 =>
  okV (aLoad Tryz.prog h6 47 (.ptr i0 0 0 0)) fun v45 =>
  callR Tryz.prog G 80 [v45] h6 (fun v46 h47 =>
  okInt .i64 (some v46) fun n48 =>
  (aLoad Tryz.prog h47 47 (.ptr i0 0 0 0) = some v44) ∧ storeR Tryz.prog h47 (fun v49 h50 =>
  okV (aLoad Tryz.prog h50 47 (.ptr i0 0 0 0)) fun v51 =>
  RetR h K (.tup [v51, (.v (.bool (n48 == 0)))]) h50) 47 v44 (.ptr i0 0 0 0)))
def Tryz.r92 (G : Nat → Option AV) (a0 : AV) (h : AH) (K : AV → AH → Prop) : Prop :=
  newO (.cells 47 2 [[(.v (.int .i64 0)), (.v (.slice none 0 0))]] 0) h fun i0 h1 =>
  okInt .i64 (aLen Tryz.prog h1 71 a0) fun n2 =>
  Tryz.r92_l2_3 K h G a0 i0 h1 n2 0
theorem Tryz.c92 (G : Nat → Option AV) (a0 : AV) (h : AH) (K : AV → AH → Prop) (hk : LowH h.length h → Tryz.r92 G a0 h K) : SCall Tryz.prog G 92 [a0] h K :=
  scall_of_rwp Tryz.tab92 [(2, [(8, (.int .i64))], [2, 6, 7])] Tryz.func92 rfl Tryz.ntmps92 (by kernel_rfl) (by show 1 ≤ 45; decide) (by kernel_rfl) (by kernel_rfl) hk
-- 93 (*skylark/client.Client).learn
def Tryz.r93 (G : Nat → Option AV) (a0 a1 : AV) (h : AH) (K : AV → AH → Prop) : Prop :=
  onlyB (AV.one a1) (newO (.cells 47 (AV.cells a1).length [AV.cells a1] 0) h fun i0 h1 =>
  okInt .i64 (aLoad Tryz.prog h1 3 (.ptr i0 0 0 0)) fun n2 =>
  okV (aNil a0) fun v3 =>
  okV (aFA Tryz.prog 171 3 v3) fun v4 =>
  okV (aFA Tryz.prog 47 0 v4) fun v5 =>
  okInt .i64 (aLoad Tryz.prog h1 3 v5) fun n6 =>
  condB (decide (n2 ≤ n6))
  (RetR h K (.tup []) h1)
  (okV (aLoad Tryz.prog h1 47 (.ptr i0 0 0 0)) fun v7 =>
  okV (aNil a0) fun v8 =>
  okV (aFA Tryz.prog 171 3 v8) fun v9 =>
  storeR Tryz.prog h1 (fun v10 h11 =>
  okV (aNil a0) fun v12 =>
  okV (aFA Tryz.prog 171 8 v12) fun v13 =>
  okV (aFA Tryz.prog 169 0 v13) fun v14 =>
  okBool (aLoad Tryz.prog h11 4 v14) fun b15 =>
  condB (!b15)
  (RetR h K (.tup []) h11)
  (okV (aNil a0) fun v16 =>
  okV (aFA Tryz.prog 171 9 v16) fun v17 =>
  okV (aFA Tryz.prog 85 2 v17) fun v18 =>
  okV (aLoad Tryz.prog h11 49 v18) fun v19 =>
  callR Tryz.prog G 88 [a0, v19] h11 (fun v20 h21 =>
  okInt .i64 (some v20) fun n22 =>
  condB (decide (n22 ≥ 0))
  (callR Tryz.prog G 154 [a0, (.v (.int .i64 n22)), (.v (.int .i64 220))] h21 (fun v23 h24 =>
  RetR h K (.tup []) h24))
  (okV (aNil a0) fun v25 =>
  okV (aFA Tryz.prog 171 6 v25) fun v26 =>
  storeR Tryz.prog h21 (fun v27 h28 =>
  callR Tryz.prog G 90 [a0] h28 (fun v29 h30 =>
  RetR h K (.tup []) h30)) 3 (.v (.int .i64 0)) v26)))) 47 v7 v9))
theorem Tryz.c93 (G : Nat → Option AV) (a0 a1 : AV) (h : AH) (K : AV → AH → Prop) (hk : LowH h.length h → Tryz.r93 G a0 a1 h K) : SCall Tryz.prog G 93 [a0, a1] h K :=
  scall_of_rwp Tryz.tab93 [] Tryz.func93 rfl Tryz.ntmps93 (by kernel_rfl) (by show 2 ≤ 40; decide) (by kernel_rfl) (by kernel_rfl) hk
-- 94 skylark/op.DecodeReply
def Tryz.r94_j27 (K : AV → AH → Prop) (h : AH) (G : Nat → Option AV) (i0 : Nat) (v5 : AV) (i22 : Nat) (h26 : AH) : Prop :=
  callR Tryz.prog G 105 [v5] h26 (fun v27 h28 =>
  okBool (some v27) fun b29 =>
  rGq (!b29) false (aLoad Tryz.prog h28 59 (.ptr i22 0 0 0)) fun b30 v31 =>
  rGe b30 false (fun k32 => callR Tryz.prog G 161 [v31] h28 (fun v33 h34 =>
  k32 v33 h34)) h28 fun b35 v36 h37 =>
  rGq b35 false (aUn .not v36) fun b38 v39 =>
  okBool (pickR (some (.v (.bool b38))) (some (.v (.bool true))) (some v39)) fun b40 =>
  condB b40
  (storeR Tryz.prog h37 (fun v41 h42 =>
  okV (aLoad Tryz.prog h42 59 (.ptr i0 0 0 0)) fun v43 =>
  RetR h K (.tup [v43, (.v (.int .i64 80))]) h42) 59 (.agg [(.v (.int .i64 0)), (.v (.int .i64 0)), (.v (.slice none 0 0)), (.v (.int .i64 0)), (.v (.int .i64 0))]) (.ptr i0 0 0 0))
  (okV (aLoad Tryz.prog h37 59 (.ptr i22 0 0 0)) fun v44 =>
  storeR Tryz.prog h37 (fun v45 h46 =>
  okV (aLoad Tryz.prog h46 59 (.ptr i0 0 0 0)) fun v47 =>
  RetR h K (.tup [v47, (.v (.int .i64 0))]) h46) 59 v44 (.ptr i0 0 0 0)))
def Tryz.r94_j73 (i0 : Nat) (v5 : AV) (i22 : Nat) (h49 : AH) (n50 : Int) (I51 : Nat → List AV → AH → Prop) (m53 : Nat) (n55 : Int) (i68 : Nat) (h72 : AH) : Prop :=
  okV (aLoad Tryz.prog h72 55 (.ptr i22 0 0 2)) fun v73 =>
  okV (aLoad Tryz.prog h72 54 (.ptr i68 0 0 0)) fun v74 =>
  okP (rowsFill 4 (List.replicate 1 [(.v (.int .i64 0)), (.v (.int .i64 0)), (.v (.string (ByteArray.mk #[]))), (.v (.slice none 0 0))]) [(0, some v74)]) fun r75 => newO (.cells 54 4 r75 0) h72 fun i76 h77 =>
  appR Tryz.prog h77 55 55 v73 (.sl i76 0 0 1 none) (fun v78 h79 =>
  storeR Tryz.prog h79 (fun v80 h81 =>
  nextR h49 I51 m53 [some (.ptr i0 0 0 0), some v5, some (.ptr i22 0 0 0), some (.v (.int .i64 n50))] [some (.ptr i0 0 0 0), some v5, some (.ptr i22 0 0 0), some (.v (.int .i64 n50))] [(.v (.int .i64 (IntKind.wrap .i64 (n55 + 1))))] h81) 55 v78 (.ptr i22 0 0 2))
def Tryz.r94_l10_85 (G : Nat → Option AV) (i0 : Nat) (v5 : AV) (i22 : Nat) (h49 : AH) (n50 : Int) (I51 : Nat → List AV → AH → Prop) (m53 : Nat) (n55 : Int) (i68 : Nat) (h83 : AH) (n84 : Int) (n109 : Int) : Prop :=
  ∃ (I85 : Nat → List AV → AH → Prop) (m86 : Nat), I85 m86 [(.v (.int .i64 n109))] h83 ∧ ∀ (m87 : Nat) (h88 : AH), h83.length ≤ h88.length → LowH h88.length h88 → ∀ (n89 : Int), I85 m87 [(.v (.int .i64 n89))] h88 →
  condB (decide (n89 < n84))
  (okV (aNil v5) fun v90 =>
  okV (aFA Tryz.prog 199 1 v90) fun v91 =>
  okBool (aLoad Tryz.prog h88 4 v91) fun b92 =>
  condB (!b92)
  (Tryz.r94_j73 i0 v5 i22 h49 n50 I51 m53 n55 i68 h88)
  (okV (aLoad Tryz.prog h88 52 (.ptr i68 0 0 3)) fun v93 =>
  callR Tryz.prog G 104 [v5] h88 (fun v94 h95 =>
  okStr (some v94) fun s96 =>
  (aLoad Tryz.prog h95 52 (.ptr i68 0 0 3) = some v93) ∧ callR Tryz.prog G 103 [v5] h95 (fun v97 h98 =>
  okInt .i64 (some v97) fun n99 =>
  (aLoad Tryz.prog h98 52 (.ptr i68 0 0 3) = some v93) ∧ callR Tryz.prog G 104 [v5] h98 (fun v100 h101 =>
  okStr (some v100) fun s102 =>
  (aLoad Tryz.prog h101 52 (.ptr i68 0 0 3) = some v93) ∧ newO (.cells 202 3 [[(.v (.string s96)), (.v (.int .i64 n99)), (.v (.string s102))]] 0) h101 fun i103 h104 =>
  (aLoad Tryz.prog h104 52 (.ptr i68 0 0 3) = some v93) ∧ appR Tryz.prog h104 52 52 v93 (.sl i103 0 0 1 none) (fun v105 h106 =>
  storeR Tryz.prog h106 (fun v107 h108 =>
  nextR h83 I85 m87 [some (.ptr i0 0 0 0), some v5, some (.ptr i22 0 0 0), some (.ptr i68 0 0 0), some (.v (.int .i64 n50)), some (.v (.int .i64 n55)), some (.v (.int .i64 n84))] [some (.ptr i0 0 0 0), some v5, some (.ptr i22 0 0 0), some (.ptr i68 0 0 0), some (.v (.int .i64 n50)), some (.v (.int .i64 n55)), some (.v (.int .i64 n84))] [(.v (.int .i64 (IntKind.wrap .i64 (n89 + 1))))] h108) 52 v105 (.ptr i68 0 0 3)))))))
  (Tryz.r94_j73 i0 v5 i22 h49 n50 I51 m53 n55 i68 h88)
def Tryz.r94_l6_51 (G : Nat → Option AV) (h : AH) (K : AV → AH → Prop) (i0 : Nat) (v5 : AV) (i22 : Nat) (h49 : AH) (n50 : Int) (n110 : Int) : Prop :=
  ∃ (I51 : Nat → List AV → AH → Prop) (m52 : Nat), I51 m52 [(.v (.int .i64 n110))] h49 ∧ ∀ (m53 : Nat) (h54 : AH), h49.length ≤ h54.length → LowH h54.length h54 → ∀ (n55 : Int), I51 m53 [(.v (.int .i64 n55))] h54 →
  condB (decide (n55 < n50))
  (okV (aNil v5) fun v56 =>
  okV (aFA Tryz.prog 199 1 v56) fun v57 =>
  okBool (aLoad Tryz.prog h54 4 v57) fun b58 =>
  condB (!b58)
  (Tryz.r94_j27 K h G i0 v5 i22 h54)
  (callR Tryz.prog G 103 [v5] h54 (fun v59 h60 =>
  okInt .i64 (some v59) fun n61 =>
  callR Tryz.prog G 103 [v5] h60 (fun v62 h63 =>
  okInt .i64 (some v62) fun n64 =>
  callR Tryz.prog G 104 [v5] h63 (fun v65 h66 =>
  okStr (some v65) fun s67 =>
  newO (.cells 54 4 [[(.v (.int .i64 0)), (.v (.int .i64 0)), (.v (.string (ByteArray.mk #[]))), (.v (.slice none 0 0))]] 0) h66 fun i68 h69 =>
  storeR Tryz.prog h69 (fun v70 h71 =>
  callR Tryz.prog G 103 [v5] h71 (fun v82 h83 =>
  okInt .i64 (some v82) fun n84 =>
  Tryz.r94_l10_85 G i0 v5 i22 h49 n50 I51 m53 n55 i68 h83 n84 0)) 54 (.agg [(.v (.int .i64 n61)), (.v (.int .i64 n64)), (.v (.string s67)), (.v (.slice none 0 0))]) (.ptr i68 0 0 0))))))
  (Tryz.r94_j27 K h G i0 v5 i22 h54)
def Tryz.r94 (G : Nat → Option AV) (a0 : AV) (h : AH) (K : AV → AH → Prop) : Prop :=
  newO (.cells 59 5 [[(.v (.int .i64 0)), (.v (.int .i64 0)), (.v (.slice none 0 0)), (.v (.int .i64 0)), (.v (.int .i64 0))]] 0) h fun i0 h1 =>
  okStr (some a0) fun s2 =>
  callR Tryz.prog G 102 [(.v (.string s2))] h1 (fun v3 h4 =>
  okV (extV 0 v3) fun v5 =>
  okInt .i64 (extV 1 v3) fun n6 =>
  condB (n6 != 0)
  (storeR Tryz.prog h4 (fun v7 h8 =>
  okV (aLoad Tryz.prog h8 59 (.ptr i0 0 0 0)) fun v9 =>
  RetR h K (.tup [v9, (.v (.int .i64 n6))]) h8) 59 (.agg [(.v (.int .i64 0)), (.v (.int .i64 0)), (.v (.slice none 0 0)), (.v (.int .i64 0)), (.v (.int .i64 0))]) (.ptr i0 0 0 0))
  (callR Tryz.prog G 103 [v5] h4 (fun v10 h11 =>
  okInt .i64 (some v10) fun n12 =>
  callR Tryz.prog G 103 [v5] h11 (fun v13 h14 =>
  okInt .i64 (some v13) fun n15 =>
  callR Tryz.prog G 103 [v5] h14 (fun v16 h17 =>
  okInt .i64 (some v16) fun n18 =>
  callR Tryz.prog G 103 [v5] h17 (fun v19 h20 =>
  okInt .i64 (some v19) fun n21 =>
  newO (.cells 59 5 [[(.v (.int .i64 0)), (.v (.int .i64 0)), (.v (.slice none 0 0)), (.v (.int .i64 0)), (.v (.int .i64 0))]] 0) h20 fun i22 h23 =>
  storeR Tryz.prog h23 (fun v24 h25 =>
  callR Tryz.prog G 103 [v5] h25 (fun v48 h49 =>
  okInt .i64 (some v48) fun n50 =>
  Tryz.r94_l6_51 G h K i0 v5 i22 h49 n50 0)) 59 (.agg [(.v (.int .i64 n12)), (.v (.int .i64 n15)), (.v (.slice none 0 0)), (.v (.int .i64 n18)), (.v (.int .i64 n21))]) (.ptr i22 0 0 0)))))))
theorem Tryz.c94 (G : Nat → Option AV) (a0 : AV) (h : AH) (K : AV → AH → Prop) (hk : LowH h.length h → Tryz.r94 G a0 h K) : SCall Tryz.prog G 94 [a0] h K :=
  scall_of_rwp Tryz.tab94 [(6, [(29, (.int .i64))], [2, 4, 6, 28]), (10, [(45, (.int .i64))], [2, 4, 6, 7, 28, 29, 44])] Tryz.func94 rfl Tryz.ntmps94 (by kernel_rfl) (by show 1 ≤ 82; decide) (by kernel_rfl) (by kernel_rfl) hk
-- 95 (*skylark/client.Client).end
def Tryz.r95 (a0 a1 : AV) (h : AH) (K : AV → AH → Prop) : Prop :=
  onlyB (AV.one a1) (newO (.cells 59 (AV.cells a1).length [AV.cells a1] 0) h fun i0 h1 =>
  okV (aLoad Tryz.prog h1 59 (.ptr i0 0 0 0)) fun v2 =>
  okV (aNil a0) fun v3 =>
  okV (aFA Tryz.prog 171 8 v3) fun v4 =>
  storeR Tryz.prog h1 (fun v5 h6 =>
  (aLoad Tryz.prog h6 59 (.ptr i0 0 0 0) = some v2) ∧ okV (aNil a0) fun v7 =>
  okV (aFA Tryz.prog 171 10 v7) fun v8 =>
  storeR Tryz.prog h6 (fun v9 h10 =>
  RetR h K (.tup []) h10) 59 v2 v8) 169 (.agg [(.v (.bool false)), (.v (.bool true))]) v4)
theorem Tryz.c95 (G : Nat → Option AV) (a0 a1 : AV) (h : AH) (K : AV → AH → Prop) (hk : LowH h.length h → Tryz.r95 a0 a1 h K) : SCall Tryz.prog G 95 [a0, a1] h K :=
  scall_of_rwp Tryz.tab95 [] Tryz.func95 rfl Tryz.ntmps95 (by kernel_rfl) (by show 2 ≤ 12; decide) (by kernel_rfl) (by kernel_rfl) hk
-- 96 skylark/code.number
def Tryz.r96_l3_1 (K : AV → AH → Prop) (h : AH) (G : Nat → Option AV) (a0 : AV) (a1 : AV) (n15 : Int) (n16 : Int) : Prop :=
  ∃ (I1 : Nat → List AV → AH → Prop) (m2 : Nat), I1 m2 [(.v (.int .i64 n15)), (.v (.int .u64 n16))] h ∧ ∀ (m3 : Nat) (h4 : AH), h.length ≤ h4.length → LowH h4.length h4 → ∀ (n5 : Int) (n6 : Int), I1 m3 [(.v (.int .i64 n5)), (.v (.int .u64 n6))] h4 →
  condB (decide (n6 > 0))
  (okInt .u64 (aBin Tryz.prog .shr 105 (.v (.int .u64 n6)) (.v (.int .u64 8))) fun n7 =>
  nextR h I1 m3 [some a0, some a1] [some a0, some a1] [(.v (.int .i64 (IntKind.wrap .i64 (n5 + 1)))), (.v (.int .u64 n7))] h4)
  (newO (.cells 5 1 [[(.v (.int .u8 (IntKind.wrap .u8 n5)))]] 0) h4 fun i8 h9 =>
  appR Tryz.prog h9 184 184 a0 (.sl i8 0 0 1 none) (fun v10 h11 =>
  okInt .i64 (some a1) fun n12 =>
  callR Tryz.prog G 162 [v10, (.v (.int .u64 (IntKind.wrap .u64 n12))), (.v (.int .i64 n5))] h11 (fun v13 h14 =>
  RetR h K v13 h14)))
def Tryz.r96 (G : Nat → Option AV) (a0 a1 : AV) (h : AH) (K : AV → AH → Prop) : Prop :=
  okInt .i64 (some a1) fun n0 =>
  Tryz.r96_l3_1 K h G a0 a1 0 (IntKind.wrap .u64 n0)
theorem Tryz.c96 (G : Nat → Option AV) (a0 a1 : AV) (h : AH) (K : AV → AH → Prop) (hk : LowH h.length h → Tryz.r96 G a0 a1 h K) : SCall Tryz.prog G 96 [a0, a1] h K :=
  scall_of_rwp Tryz.tab96 [(3, [(5, (.int .i64)), (6, (.int .u64))], [0, 1])] Tryz.func96 rfl Tryz.ntmps96 (by kernel_rfl) (by show 2 ≤ 24; decide) (by kernel_rfl) (by kernel_rfl) hk
-- 97 slices.Min[[]int,int]
def Tryz.r97_l5_3 (K : AV → AH → Prop) (h : AH) (a0 : AV) (h0 : AH) (n13 : Int) (n14 : Int) : Prop :=
  ∃ (I3 : Nat → List AV → AH → Prop) (m4 : Nat), I3 m4 [(.v (.int .i64 n13)), (.v (.int .i64 n14))] h0 ∧ ∀ (m5 : Nat) (h6 : AH), h0.length ≤ h6.length → LowH h6.length h6 → ∀ (n7 : Int) (n8 : Int), I3 m5 [(.v (.int .i64 n7)), (.v (.int .i64 n8))] h6 →
  okInt .i64 (aLen Tryz.prog h6 31 a0) fun n9 =>
  condB (decide (n8 < n9))
  (okV (aIA Tryz.prog h6 31 a0 (.v (.int .i64 n8))) fun v10 =>
  okInt .i64 (aLoad Tryz.prog h6 3 v10) fun n11 =>
  okInt .i64 (aMinMax false [some (.v (.int .i64 n7)), some (.v (.int .i64 n11))]) fun n12 =>
  nextR h0 I3 m5 [some a0] [some a0] [(.v (.int .i64 n12)), (.v (.int .i64 (IntKind.wrap .i64 (n8 + 1))))] h6)
  (RetR h K (.v (.int .i64 n7)) h6)
def Tryz.r97_j1 (h : AH) (K : AV → AH → Prop) (a0 : AV) (h0 : AH) : Prop :=
  okV (aIA Tryz.prog h0 31 a0 (.v (.int .i64 0))) fun v1 =>
  okInt .i64 (aLoad Tryz.prog h0 3 v1) fun n2 =>
  Tryz.r97_l5_3 K h a0 h0 n2 1
def Tryz.r97 (a0 : AV) (h : AH) (K : AV → AH → Prop) : Prop :=
  okInt .i64 (aLen Tryz.prog h 31 a0) fun n15 =>
  condB (decide (n15 < 1))
  (okV (aMkI Tryz.prog 9 (.v (.string (ByteArray.mk #[115, 108, 105, 99, 101, 115, 46, 77, 105, 110, 58, 32, 101, 109, 112, 116, 121, 32, 108, 105, 115, 116])))) fun v16 =>
  False)
  (Tryz.r97_j1 h K a0 h)
theorem Tryz.c97 (G : Nat → Option AV) (a0 : AV) (h : AH) (K : AV → AH → Prop) (hk : LowH h.length h → Tryz.r97 a0 h K) : SCall Tryz.prog G 97 [a0] h K :=
  scall_of_rwp Tryz.tab97 [(5, [(3, (.int .i64)), (4, (.int .i64))], [0])] Tryz.func97 rfl Tryz.ntmps97 (by kernel_rfl) (by show 1 ≤ 25; decide) (by kernel_rfl) (by kernel_rfl) hk
-- 98 slices.Max[[]int,int]
def Tryz.r98_l5_3 (K : AV → AH → Prop) (h : AH) (a0 : AV) (h0 : AH) (n13 : Int) (n14 : Int) : Prop :=
  ∃ (I3 : Nat → List AV → AH → Prop) (m4 : Nat), I3 m4 [(.v (.int .i64 n13)), (.v (.int .i64 n14))] h0 ∧ ∀ (m5 : Nat) (h6 : AH), h0.length ≤ h6.length → LowH h6.length h6 → ∀ (n7 : Int) (n8 : Int), I3 m5 [(.v (.int .i64 n7)), (.v (.int .i64 n8))] h6 →
  okInt .i64 (aLen Tryz.prog h6 31 a0) fun n9 =>
  condB (decide (n8 < n9))
  (okV (aIA Tryz.prog h6 31 a0 (.v (.int .i64 n8))) fun v10 =>
  okInt .i64 (aLoad Tryz.prog h6 3 v10) fun n11 =>
  okInt .i64 (aMinMax true [some (.v (.int .i64 n7)), some (.v (.int .i64 n11))]) fun n12 =>
  nextR h0 I3 m5 [some a0] [some a0] [(.v (.int .i64 n12)), (.v (.int .i64 (IntKind.wrap .i64 (n8 + 1))))] h6)
  (RetR h K (.v (.int .i64 n7)) h6)
def Tryz.r98_j1 (h : AH) (K : AV → AH → Prop) (a0 : AV) (h0 : AH) : Prop :=
  okV (aIA Tryz.prog h0 31 a0 (.v (.int .i64 0))) fun v1 =>
  okInt .i64 (aLoad Tryz.prog h0 3 v1) fun n2 =>
  Tryz.r98_l5_3 K h a0 h0 n2 1
def Tryz.r98 (a0 : AV) (h : AH) (K : AV → AH → Prop) : Prop :=
  okInt .i64 (aLen Tryz.prog h 31 a0) fun n15 =>
  condB (decide (n15 < 1))
  (okV (aMkI Tryz.prog 9 (.v (.string (ByteArray.mk #[115, 108, 105, 99, 101, 115, 46, 77, 97, 120, 58, 32, 101, 109, 112, 116, 121, 32, 108, 105, 115, 116])))) fun v16 =>
  False)
  (Tryz.r98_j1 h K a0 h)
theorem Tryz.c98 (G : Nat → Option AV) (a0 : AV) (h : AH) (K : AV → AH → Prop) (hk : LowH h.length h → Tryz.r98 a0 h K) : SCall Tryz.prog G 98 [a0] h K :=
  scall_of_rwp Tryz.tab98 [(5, [(3, (.int .i64)), (4, (.int .i64))], [0])] Tryz.func98 rfl Tryz.ntmps98 (by kernel_rfl) (by show 1 ≤ 25; decide) (by kernel_rfl) (by kernel_rfl) hk
-- 99 skylark/ring.made
def Tryz.r99_l9_12 (G : Nat → Option AV) (a0 : AV) (h1 : AH) (n3 : Int) (I4 : Nat → List AV → AH → Prop) (m6 : Nat) (h7 : AH) (n9 : Int) (n11 : Int) (v33 : AV) (n34 : Int) : Prop :=
  ∃ (I12 : Nat → List AV → AH → Prop) (m13 : Nat), I12 m13 [v33, (.v (.int .i64 n34))] h7 ∧ ∀ (m14 : Nat) (h15 : AH), h7.length ≤ h15.length → LowH h15.length h15 → ∀ (v16 : AV) (n17 : Int), I12 m14 [v16, (.v (.int .i64 n17))] h15 →
  condB (decide (n17 < n11))
  (callR Tryz.prog G 164 [(.v (.int .i64 n9))] h15 (fun v18 h19 =>
  okStr (some v18) fun s20 =>
  okStr (aBin Tryz.prog .add 9 (.v (.string s20)) (.v (.string (ByteArray.mk #[46])))) fun s21 =>
  callR Tryz.prog G 164 [(.v (.int .i64 n17))] h19 (fun v22 h23 =>
  okStr (some v22) fun s24 =>
  okStr (aBin Tryz.prog .add 9 (.v (.string s21)) (.v (.string s24))) fun s25 =>
  callR Tryz.prog G 163 [(.v (.string s25))] h23 (fun v26 h27 =>
  okInt .u64 (some v26) fun n28 =>
  newO (.cells 264 3 [[(.v (.int .u64 n28)), (.v (.int .i64 n9)), (.v (.int .i64 n17))]] 0) h27 fun i29 h30 =>
  appR Tryz.prog h30 188 188 v16 (.sl i29 0 0 1 none) (fun v31 h32 =>
  nextR h7 I12 m14 [some (.v (.int .i64 n9)), some a0, some (.v (.int .i64 n3)), some (.v (.int .i64 n9)), some (.v (.int .i64 n11))] [some (.v (.int .i64 n9)), some a0, some (.v (.int .i64 n3)), some (.v (.int .i64 n9)), some (.v (.int .i64 n11))] [v31, (.v (.int .i64 (IntKind.wrap .i64 (n17 + 1))))] h32)))))
  (nextR h1 I4 m6 [some a0, some (.v (.int .i64 n3))] [some a0, some (.v (.int .i64 n3))] [v16, (.v (.int .i64 (IntKind.wrap .i64 (n9 + 1))))] h15)
def Tryz.r99_l6_4 (K : AV → AH → Prop) (h : AH) (G : Nat → Option AV) (a0 : AV) (h1 : AH) (n3 : Int) (v37 : AV) (n38 : Int) : Prop :=
  ∃ (I4 : Nat → List AV → AH → Prop) (m5 : Nat), I4 m5 [v37, (.v (.int .i64 n38))] h1 ∧ ∀ (m6 : Nat) (h7 : AH), h1.length ≤ h7.length → LowH h7.length h7 → ∀ (v8 : AV) (n9 : Int), I4 m6 [v8, (.v (.int .i64 n9))] h7 →
  condB (decide (n9 < n3))
  (okV (aIA Tryz.prog h7 31 a0 (.v (.int .i64 n9))) fun v10 =>
  okInt .i64 (aLoad Tryz.prog h7 3 v10) fun n11 =>
  Tryz.r99_l9_12 G a0 h1 n3 I4 m6 h7 n9 n11 v8 0)
  (callR Tryz.prog G 165 [v8, (.fn (.func 166) [] [])] h7 (fun v35 h36 =>
  RetR h K (.tup [v8, (.v (.int .i64 0))]) h36))
def Tryz.r99 (G : Nat → Option AV) (a0 : AV) (h : AH) (K : AV → AH → Prop) : Prop :=
  callR Tryz.prog G 33 [a0] h (fun v0 h1 =>
  okInt .i64 (some v0) fun n2 =>
  condB (n2 != 0)
  (RetR h K (.tup [(.v (.slice none 0 0)), (.v (.int .i64 n2))]) h1)
  (okInt .i64 (aLen Tryz.prog h1 31 a0) fun n3 =>
  Tryz.r99_l6_4 K h G a0 h1 n3 (.v (.slice none 0 0)) 0))
theorem Tryz.c99 (G : Nat → Option AV) (a0 : AV) (h : AH) (K : AV → AH → Prop) (hk : LowH h.length h → Tryz.r99 G a0 h K) : SCall Tryz.prog G 99 [a0] h K :=
  scall_of_rwp Tryz.tab99 [(6, [(5, .any), (17, (.int .i64))], [15, 16]), (9, [(5, .any), (23, (.int .i64))], [6, 15, 16, 17, 22])] Tryz.func99 rfl Tryz.ntmps99 (by kernel_rfl) (by show 1 ≤ 46; decide) (by kernel_rfl) (by kernel_rfl) hk
-- 100 (skylark/ring.ring).of
def Tryz.r100 (G : Nat → Option AV) (a0 a1 : AV) (h : AH) (K : AV → AH → Prop) : Prop :=
  okStr (some a1) fun s0 =>
  callR Tryz.prog G 163 [(.v (.string s0))] h (fun v1 h2 =>
  okInt .u64 (some v1) fun n3 =>
  callR Tryz.prog G 167 [a0, (.v (.int .u64 n3)), (.fn (.func 168) [] [])] h2 (fun v4 h5 =>
  okInt .i64 (extV 0 v4) fun n6 =>
  okBool (extV 1 v4) fun b7 =>
  okInt .i64 (aLen Tryz.prog h5 188 a0) fun n8 =>
  okInt .i64 (aBin Tryz.prog .rem 3 (.v (.int .i64 n6)) (.v (.int .i64 n8))) fun n9 =>
  okV (aIA Tryz.prog h5 188 a0 (.v (.int .i64 n9))) fun v10 =>
  okV (aFA Tryz.prog 264 1 v10) fun v11 =>
  okInt .i64 (aLoad Tryz.prog h5 3 v11) fun n12 =>
  RetR h K (.v (.int .i64 n12)) h5))
theorem Tryz.c100 (G : Nat → Option AV) (a0 a1 : AV) (h : AH) (K : AV → AH → Prop) (hk : LowH h.length h → Tryz.r100 G a0 a1 h K) : SCall Tryz.prog G 100 [a0, a1] h K :=
  scall_of_rwp Tryz.tab100 [] Tryz.func100 rfl Tryz.ntmps100 (by kernel_rfl) (by show 2 ≤ 24; decide) (by kernel_rfl) (by kernel_rfl) hk
-- 101 skylark/code.field
def Tryz.r101 (G : Nat → Option AV) (a0 : AV) (h : AH) (K : AV → AH → Prop) : Prop :=
  newO (.cells 70 3 [[(.v (.bool false)), (.v (.int .i64 0)), (.v (.string (ByteArray.mk #[])))]] 0) h fun i0 h1 =>
  okStr (some a0) fun s2 =>
  okInt .u8 (aIndex Tryz.prog 9 (.v (.string s2)) (.v (.int .i64 0))) fun n3 =>
  rGq (n3 != 78) true (some (.v (.int .u8 n3))) fun b4 v5 =>
  rGq b4 true (aBin Tryz.prog .neq 5 v5 (.v (.int .u8 84))) fun b6 v7 =>
  okBool (pickR (some (.v (.bool b6))) (some v7) (some (.v (.bool false)))) fun b8 =>
  condB b8
  (okV (aLoad Tryz.prog h1 70 (.ptr i0 0 0 0)) fun v9 =>
  storeR Tryz.prog h1 (fun v10 h11 =>
  okV (aLoad Tryz.prog h11 70 (.ptr i0 0 0 0)) fun v12 =>
  RetR h K (.tup [v12, (.v (.string (ByteArray.mk #[]))), (.v (.int .i64 3))]) h11) 70 v9 (.ptr i0 0 0 0))
  (okStr (some a0) fun s13 =>
  condB (decide (((ByteArray.size s13 : Nat) : Int) < 2))
  (okV (aLoad Tryz.prog h1 70 (.ptr i0 0 0 0)) fun v14 =>
  storeR Tryz.prog h1 (fun v15 h16 =>
  okV (aLoad Tryz.prog h16 70 (.ptr i0 0 0 0)) fun v17 =>
  RetR h K (.tup [v17, (.v (.string (ByteArray.mk #[]))), (.v (.int .i64 11))]) h16) 70 v14 (.ptr i0 0 0 0))
  (okStr (some a0) fun s18 =>
  okInt .u8 (aIndex Tryz.prog 9 (.v (.string s18)) (.v (.int .i64 1))) fun n19 =>
  okStr (some a0) fun s20 =>
  okStr (aSlice Tryz.prog h1 9 (.v (.string s20)) (some (some (.v (.int .i64 2)))) none none) fun s21 =>
  condB (decide ((IntKind.wrap .i64 n19) > 8))
  (okV (aLoad Tryz.prog h1 70 (.ptr i0 0 0 0)) fun v22 =>
  storeR Tryz.prog h1 (fun v23 h24 =>
  okV (aLoad Tryz.prog h24 70 (.ptr i0 0 0 0)) fun v25 =>
  RetR h K (.tup [v25, (.v (.string (ByteArray.mk #[]))), (.v (.int .i64 3))]) h24) 70 v22 (.ptr i0 0 0 0))
  (condB (decide (((ByteArray.size s21 : Nat) : Int) < (IntKind.wrap .i64 n19)))
  (okV (aLoad Tryz.prog h1 70 (.ptr i0 0 0 0)) fun v26 =>
  storeR Tryz.prog h1 (fun v27 h28 =>
  okV (aLoad Tryz.prog h28 70 (.ptr i0 0 0 0)) fun v29 =>
  RetR h K (.tup [v29, (.v (.string (ByteArray.mk #[]))), (.v (.int .i64 11))]) h28) 70 v26 (.ptr i0 0 0 0))
  (rGq (decide ((IntKind.wrap .i64 n19) > 0)) true (some (.v (.string s21))) fun b30 v31 =>
  rGq b30 true (some (.v (.int .i64 (IntKind.wrap .i64 n19)))) fun b32 v33 =>
  rGq b32 true (aBin Tryz.prog .sub 3 v33 (.v (.int .i64 1))) fun b34 v35 =>
  rGq b34 true (aIndex Tryz.prog 9 v31 v35) fun b36 v37 =>
  rGq b36 true (aBin Tryz.prog .eql 5 v37 (.v (.int .u8 0))) fun b38 v39 =>
  okBool (pickR (some (.v (.bool b38))) (some v39) (some (.v (.bool false)))) fun b40 =>
  condB b40
  (okV (aLoad Tryz.prog h1 70 (.ptr i0 0 0 0)) fun v41 =>
  storeR Tryz.prog h1 (fun v42 h43 =>
  okV (aLoad Tryz.prog h43 70 (.ptr i0 0 0 0)) fun v44 =>
  RetR h K (.tup [v44, (.v (.string (ByteArray.mk #[]))), (.v (.int .i64 3))]) h43) 70 v41 (.ptr i0 0 0 0))
  (okStr (aSlice Tryz.prog h1 9 (.v (.string s21)) none (some (some (.v (.int .i64 (IntKind.wrap .i64 n19))))) none) fun s45 =>
  callR Tryz.prog G 170 [(.v (.string s45))] h1 (fun v46 h47 =>
  okInt .u64 (some v46) fun n48 =>
  okStr (aSlice Tryz.prog h47 9 (.v (.string s21)) (some (some (.v (.int .i64 (IntKind.wrap .i64 n19))))) none none) fun s49 =>
  condB (n3 == 78)
  (storeR Tryz.prog h47 (fun v50 h51 =>
  okV (aLoad Tryz.prog h51 70 (.ptr i0 0 0 0)) fun v52 =>
  RetR h K (.tup [v52, (.v (.string s49)), (.v (.int .i64 0))]) h51) 70 (.agg [(.v (.bool false)), (.v (.int .i64 (IntKind.wrap .i64 n48))), (.v (.string (ByteArray.mk #[])))]) (.ptr i0 0 0 0))
  (rGq (decide ((IntKind.wrap .i64 n48) < 0)) false (some (.v (.int .i64 (IntKind.wrap .i64 n48)))) fun b53 v54 =>
  rGq b53 false (aBin Tryz.prog .gtr 2 v54 (.v (.int .i64 262144))) fun b55 v56 =>
  okBool (pickR (some (.v (.bool b55))) (some (.v (.bool true))) (some v56)) fun b57 =>
  condB b57
  (okV (aLoad Tryz.prog h47 70 (.ptr i0 0 0 0)) fun v58 =>
  storeR Tryz.prog h47 (fun v59 h60 =>
  okV (aLoad Tryz.prog h60 70 (.ptr i0 0 0 0)) fun v61 =>
  RetR h K (.tup [v61, (.v (.string (ByteArray.mk #[]))), (.v (.int .i64 3))]) h60) 70 v58 (.ptr i0 0 0 0))
  (condB (decide (((ByteArray.size s49 : Nat) : Int) < (IntKind.wrap .i64 n48)))
  (okV (aLoad Tryz.prog h47 70 (.ptr i0 0 0 0)) fun v62 =>
  storeR Tryz.prog h47 (fun v63 h64 =>
  okV (aLoad Tryz.prog h64 70 (.ptr i0 0 0 0)) fun v65 =>
  RetR h K (.tup [v65, (.v (.string (ByteArray.mk #[]))), (.v (.int .i64 11))]) h64) 70 v62 (.ptr i0 0 0 0))
  (okStr (aSlice Tryz.prog h47 9 (.v (.string s49)) none (some (some (.v (.int .i64 (IntKind.wrap .i64 n48))))) none) fun s66 =>
  okStr (aSlice Tryz.prog h47 9 (.v (.string s49)) (some (some (.v (.int .i64 (IntKind.wrap .i64 n48))))) none none) fun s67 =>
  storeR Tryz.prog h47 (fun v68 h69 =>
  (aSlice Tryz.prog h69 9 (.v (.string s49)) (some (some (.v (.int .i64 (IntKind.wrap .i64 n48))))) none none = some (.v (.string s67))) ∧ okV (aLoad Tryz.prog h69 70 (.ptr i0 0 0 0)) fun v70 =>
  RetR h K (.tup [v70, (.v (.string s67)), (.v (.int .i64 0))]) h69) 70 (.agg [(.v (.bool true)), (.v (.int .i64 0)), (.v (.string s66))]) (.ptr i0 0 0 0))))))))))
theorem Tryz.c101 (G : Nat → Option AV) (a0 : AV) (h : AH) (K : AV → AH → Prop) (hk : LowH h.length h → Tryz.r101 G a0 h K) : SCall Tryz.prog G 101 [a0] h K :=
  scall_of_rwp Tryz.tab101 [] Tryz.func101 rfl Tryz.ntmps101 (by kernel_rfl) (by show 1 ≤ 84; decide) (by kernel_rfl) (by kernel_rfl) hk
-- 102 skylark/op.open
def Tryz.r102 (G : Nat → Option AV) (a0 : AV) (h : AH) (K : AV → AH → Prop) : Prop :=
  okStr (some a0) fun s0 =>
  callR Tryz.prog G 36 [(.v (.string s0))] h (fun v1 h2 =>
  okV (extV 0 v1) fun v3 =>
  okV (extV 1 v1) fun v4 =>
  newO (.cells 57 2 [[(.v (.int .i64 0)), (.v (.int .i64 0))]] 0) h2 fun i5 h6 =>
  storeR Tryz.prog h6 (fun v7 h8 =>
  okStr (some a0) fun s9 =>
  condB (decide (((ByteArray.size s9 : Nat) : Int) > 262144))
  (RetR h K (.tup [(.v (.pointer none)), (.v (.int .i64 2))]) h8)
  (okV (aLoad Tryz.prog h8 57 (.ptr i5 0 0 0)) fun v10 =>
  okBool (aBin Tryz.prog .neq 57 v10 (.agg [(.v (.int .i64 0)), (.v (.int .i64 0))])) fun b11 =>
  condB b11
  (RetR h K (.tup [(.v (.pointer none)), (.v (.int .i64 80))]) h8)
  (okV (aBuild Tryz.prog 199 [(0, some v3), (1, some (.v (.bool true)))]) fun v12 =>
  onlyB (AV.one v12) (newO (.cells 199 (AV.cells v12).length [AV.cells v12] 0) h8 fun i13 h14 =>
  RetR h K (.tup [(.ptr i13 0 0 0), (.v (.int .i64 0))]) h14)))) 57 v4 (.ptr i5 0 0 0))
theorem Tryz.c102 (G : Nat → Option AV) (a0 : AV) (h : AH) (K : AV → AH → Prop) (hk : LowH h.length h → Tryz.r102 G a0 h K) : SCall Tryz.prog G 102 [a0] h K :=
  scall_of_rwp Tryz.tab102 [] Tryz.func102 rfl Tryz.ntmps102 (by kernel_rfl) (by show 1 ≤ 22; decide) (by kernel_rfl) (by kernel_rfl) hk
-- 103 (*skylark/op.reader).num
def Tryz.r103 (G : Nat → Option AV) (a0 : AV) (h : AH) (K : AV → AH → Prop) : Prop :=
  callR Tryz.prog G 171 [a0, (.v (.bool false))] h (fun v0 h1 =>
  okInt .i64 (aField Tryz.prog 70 1 v0) fun n2 =>
  RetR h K (.v (.int .i64 n2)) h1)
theorem Tryz.c103 (G : Nat → Option AV) (a0 : AV) (h : AH) (K : AV → AH → Prop) (hk : LowH h.length h → Tryz.r103 G a0 h K) : SCall Tryz.prog G 103 [a0] h K :=
  scall_of_rwp Tryz.tab103 [] Tryz.func103 rfl Tryz.ntmps103 (by kernel_rfl) (by show 1 ≤ 6; decide) (by kernel_rfl) (by kernel_rfl) hk
-- 104 (*skylark/op.reader).text
def Tryz.r104 (G : Nat → Option AV) (a0 : AV) (h : AH) (K : AV → AH → Prop) : Prop :=
  callR Tryz.prog G 171 [a0, (.v (.bool true))] h (fun v0 h1 =>
  okStr (aField Tryz.prog 70 2 v0) fun s2 =>
  RetR h K (.v (.string s2)) h1)
theorem Tryz.c104 (G : Nat → Option AV) (a0 : AV) (h : AH) (K : AV → AH → Prop) (hk : LowH h.length h → Tryz.r104 G a0 h K) : SCall Tryz.prog G 104 [a0] h K :=
  scall_of_rwp Tryz.tab104 [] Tryz.func104 rfl Tryz.ntmps104 (by kernel_rfl) (by show 1 ≤ 6; decide) (by kernel_rfl) (by kernel_rfl) hk
-- 105 (*skylark/op.reader).whole
def Tryz.r105 (a0 : AV) (h : AH) (K : AV → AH → Prop) : Prop :=
  okV (aNil a0) fun v0 =>
  okV (aFA Tryz.prog 199 1 v0) fun v1 =>
  okBool (aLoad Tryz.prog h 4 v1) fun b2 =>
  rGq b2 true (some a0) fun b3 v4 =>
  rGq b3 true (aNil v4) fun b5 v6 =>
  rGq b5 true (aFA Tryz.prog 199 0 v6) fun b7 v8 =>
  rGq b7 true (aLoad Tryz.prog h 71 v8) fun b9 v10 =>
  rGq b9 true (aLen Tryz.prog h 71 v10) fun b11 v12 =>
  rGq b11 true (aBin Tryz.prog .eql 3 v12 (.v (.int .i64 0))) fun b13 v14 =>
  okBool (pickR (some (.v (.bool b13))) (some v14) (some (.v (.bool false)))) fun b15 =>
  RetR h K (.v (.bool b15)) h
theorem Tryz.c105 (G : Nat → Option AV) (a0 : AV) (h : AH) (K : AV → AH → Prop) (hk : LowH h.length h → Tryz.r105 a0 h K) : SCall Tryz.prog G 105 [a0] h K :=
  scall_of_rwp Tryz.tab105 [] Tryz.func105 rfl Tryz.ntmps105 (by kernel_rfl) (by show 1 ≤ 15; decide) (by kernel_rfl) (by kernel_rfl) hk
-- 107 (skylark/layout.Change).Check
def Tryz.r107 (G : Nat → Option AV) (a0 : AV) (h : AH) (K : AV → AH → Prop) : Prop :=
  onlyB (AV.one a0) (newO (.cells 94 (AV.cells a0).length [AV.cells a0] 0) h fun i0 h1 =>
  okStr (aLoad Tryz.prog h1 9 (.ptr i0 0 0 4)) fun s2 =>
  okBool (aLoad Tryz.prog h1 4 (.ptr i0 0 0 5)) fun b3 =>
  newO (.cells 273 2 [[(.v (.string (ByteArray.mk #[]))), (.v (.bool false))]] 0) h1 fun i4 h5 =>
  storeR Tryz.prog h5 (fun v6 h7 =>
  okV (aLoad Tryz.prog h7 47 (.ptr i0 0 0 0)) fun v8 =>
  callR Tryz.prog G 80 [v8] h7 (fun v9 h10 =>
  okInt .i64 (some v9) fun n11 =>
  rGq (n11 != 0) false (some (.ptr i0 0 0 2)) fun b12 v13 =>
  rGq b12 false (aLoad Tryz.prog h10 47 v13) fun b14 v15 =>
  rGe b14 false (fun k16 => callR Tryz.prog G 80 [v15] h10 (fun v17 h18 =>
  k16 v17 h18)) h10 fun b19 v20 h21 =>
  rGq b19 false (aBin Tryz.prog .neq 24 v20 (.v (.int .i64 0))) fun b22 v23 =>
  okBool (pickR (some (.v (.bool b22))) (some (.v (.bool true))) (some v23)) fun b24 =>
  condB b24
  (RetR h K (.v (.int .i64 70)) h21)
  (okInt .i64 (aLoad Tryz.prog h21 3 (.ptr i0 0 0 2)) fun n25 =>
  okInt .i64 (aLoad Tryz.prog h21 3 (.ptr i0 0 0 0)) fun n26 =>
  rGq (n25 != (IntKind.wrap .i64 (n26 + 1))) false (some (.ptr i0 0 0 2)) fun b27 v28 =>
  rGq b27 false (aFA Tryz.prog 47 1 v28) fun b29 v30 =>
  rGq b29 false (aLoad Tryz.prog h21 31 v30) fun b31 v32 =>
  rGq b31 false (aLen Tryz.prog h21 31 v32) fun b33 v34 =>
  rGq b33 false (some (.ptr i0 0 0 0)) fun b35 v36 =>
  rGq b35 false (aFA Tryz.prog 47 1 v36) fun b37 v38 =>
  rGq b37 false (aLoad Tryz.prog h21 31 v38) fun b39 v40 =>
  rGq b39 false (aLen Tryz.prog h21 31 v40) fun b41 v42 =>
  rGq b41 false (aBin Tryz.prog .lss 3 v34 v42) fun b43 v44 =>
  okBool (pickR (some (.v (.bool b43))) (some (.v (.bool true))) (some v44)) fun b45 =>
  condB b45
  (RetR h K (.v (.int .i64 70)) h21)
  (okStr (aLoad Tryz.prog h21 9 (.ptr i4 0 0 0)) fun s46 =>
  rGq (decide (((ByteArray.size s46 : Nat) : Int) > 64)) false (some (.ptr i4 0 0 1)) fun b47 v48 =>
  rGq b47 false (aLoad Tryz.prog h21 4 v48) fun b49 v50 =>
  rGq b49 false (some v50) fun b51 v52 =>
  okG (some v52) true fun b53 g0 =>
  rGq b53 true (aLoad Tryz.prog h21 273 (.ptr i4 0 0 0)) fun b54 v55 =>
  okG (some (g0 b54)) true fun c1 g2 =>
  rGq c1 true (some (.agg [(.v (.string (ByteArray.mk #[]))), (.v (.bool true))])) fun b56 v57 =>
  okG (some (g2 b56)) true fun c3 g4 =>
  rGq c3 true (aBin Tryz.prog .neq 273 v55 v57) fun b58 v59 =>
  rGq b51 false (pickR (some (g4 b58)) (some v59) (some (.v (.bool false)))) fun b60 v61 =>
  okBool (pickR (some (.v (.bool b60))) (some (.v (.bool true))) (some v61)) fun b62 =>
  condB b62
  (RetR h K (.v (.int .i64 70)) h21)
  (RetR h K (.v (.int .i64 0)) h21))))) 273 (.agg [(.v (.string s2)), (.v (.bool b3))]) (.ptr i4 0 0 0))
theorem Tryz.c107 (G : Nat → Option AV) (a0 : AV) (h : AH) (K : AV → AH → Prop) (hk : LowH h.length h → Tryz.r107 G a0 h K) : SCall Tryz.prog G 107 [a0] h K :=
  scall_of_rwp Tryz.tab107 [] Tryz.func107 rfl Tryz.ntmps107 (by kernel_rfl) (by show 1 ≤ 54; decide) (by kernel_rfl) (by kernel_rfl) hk
-- 112 slices.Equal[[]int,int]
def Tryz.r112_l4_3 (K : AV → AH → Prop) (h : AH) (a0 : AV) (a1 : AV) (n2 : Int) (n12 : Int) : Prop :=
  ∃ (I3 : Nat → List AV → AH → Prop) (m4 : Nat), I3 m4 [(.v (.int .i64 n12))] h ∧ ∀ (m5 : Nat) (h6 : AH), h.length ≤ h6.length → LowH h6.length h6 → ∀ (n7 : Int), I3 m5 [(.v (.int .i64 n7))] h6 →
  condB (decide (n7 < n2))
  (okV (aIA Tryz.prog h6 31 a0 (.v (.int .i64 n7))) fun v8 =>
  okInt .i64 (aLoad Tryz.prog h6 3 v8) fun n9 =>
  okV (aIA Tryz.prog h6 31 a1 (.v (.int .i64 n7))) fun v10 =>
  okInt .i64 (aLoad Tryz.prog h6 3 v10) fun n11 =>
  condB (n9 != n11)
  (RetR h K (.v (.bool false)) h6)
  (nextR h I3 m5 [some a0, some a1, some (.v (.int .i64 n2))] [some a0, some a1, some (.v (.int .i64 n2))] [(.v (.int .i64 (IntKind.wrap .i64 (n7 + 1))))] h6))
  (RetR h K (.v (.bool true)) h6)
def Tryz.r112 (a0 a1 : AV) (h : AH) (K : AV → AH → Prop) : Prop :=
  okInt .i64 (aLen Tryz.prog h 31 a0) fun n0 =>
  okInt .i64 (aLen Tryz.prog h 31 a1) fun n1 =>
  condB (n0 != n1)
  (RetR h K (.v (.bool false)) h)
  (okInt .i64 (aLen Tryz.prog h 31 a0) fun n2 =>
  Tryz.r112_l4_3 K h a0 a1 n2 0)
theorem Tryz.c112 (G : Nat → Option AV) (a0 a1 : AV) (h : AH) (K : AV → AH → Prop) (hk : LowH h.length h → Tryz.r112 a0 a1 h K) : SCall Tryz.prog G 112 [a0, a1] h K :=
  scall_of_rwp Tryz.tab112 [(4, [(13, (.int .i64))], [0, 1, 12])] Tryz.func112 rfl Tryz.ntmps112 (by kernel_rfl) (by show 2 ≤ 26; decide) (by kernel_rfl) (by kernel_rfl) hk
-- 118 skylark/skylarkref07.Equal
def Tryz.r118_l4_21 (K : AV → AH → Prop) (h : AH) (i0 : Nat) (i2 : Nat) (h3 : AH) (n34 : Int) : Prop :=
  ∃ (I21 : Nat → List AV → AH → Prop) (m22 : Nat), I21 m22 [(.v (.int .i64 n34))] h3 ∧ ∀ (m23 : Nat) (h24 : AH), h3.length ≤ h24.length → LowH h24.length h24 → ∀ (n25 : Int), I21 m23 [(.v (.int .i64 n25))] h24 →
  okV (aLoad Tryz.prog h24 31 (.ptr i0 0 0 1)) fun v26 =>
  okInt .i64 (aLen Tryz.prog h24 31 v26) fun n27 =>
  condB (decide (n25 < n27))
  (okV (aLoad Tryz.prog h24 31 (.ptr i0 0 0 1)) fun v28 =>
  okV (aIA Tryz.prog h24 31 v28 (.v (.int .i64 n25))) fun v29 =>
  okInt .i64 (aLoad Tryz.prog h24 3 v29) fun n30 =>
  okV (aLoad Tryz.prog h24 31 (.ptr i2 0 0 1)) fun v31 =>
  okV (aIA Tryz.prog h24 31 v31 (.v (.int .i64 n25))) fun v32 =>
  okInt .i64 (aLoad Tryz.prog h24 3 v32) fun n33 =>
  condB (n30 != n33)
  (RetR h K (.v (.bool false)) h24)
  (nextR h3 I21 m23 [some (.ptr i0 0 0 0), some (.ptr i2 0 0 0)] [some (.ptr i0 0 0 0), some (.ptr i2 0 0 0)] [(.v (.int .i64 (IntKind.wrap .i64 (n25 + 1))))] h24))
  (RetR h K (.v (.bool true)) h24)
def Tryz.r118 (a0 a1 : AV) (h : AH) (K : AV → AH → Prop) : Prop :=
  onlyB (AV.one a0) (newO (.cells 47 (AV.cells a0).length [AV.cells a0] 0) h fun i0 h1 =>
  onlyB (AV.one a1) (newO (.cells 47 (AV.cells a1).length [AV.cells a1] 0) h1 fun i2 h3 =>
  okInt .i64 (aLoad Tryz.prog h3 3 (.ptr i0 0 0 0)) fun n4 =>
  okInt .i64 (aLoad Tryz.prog h3 3 (.ptr i2 0 0 0)) fun n5 =>
  rGq (n4 != n5) false (some (.ptr i0 0 0 1)) fun b6 v7 =>
  rGq b6 false (aLoad Tryz.prog h3 31 v7) fun b8 v9 =>
  rGq b8 false (aLen Tryz.prog h3 31 v9) fun b10 v11 =>
  rGq b10 false (some (.ptr i2 0 0 1)) fun b12 v13 =>
  rGq b12 false (aLoad Tryz.prog h3 31 v13) fun b14 v15 =>
  rGq b14 false (aLen Tryz.prog h3 31 v15) fun b16 v17 =>
  rGq b16 false (aBin Tryz.prog .neq 3 v11 v17) fun b18 v19 =>
  okBool (pickR (some (.v (.bool b18))) (some (.v (.bool true))) (some v19)) fun b20 =>
  condB b20
  (RetR h K (.v (.bool false)) h3)
  (Tryz.r118_l4_21 K h i0 i2 h3 0)))
theorem Tryz.c118 (G : Nat → Option AV) (a0 a1 : AV) (h : AH) (K : AV → AH → Prop) (hk : LowH h.length h → Tryz.r118 a0 a1 h K) : SCall Tryz.prog G 118 [a0, a1] h K :=
  scall_of_rwp Tryz.tab118 [(4, [(5, (.int .i64))], [2, 3])] Tryz.func118 rfl Tryz.ntmps118 (by kernel_rfl) (by show 2 ≤ 38; decide) (by kernel_rfl) (by kernel_rfl) hk
-- 119 slices.IndexFunc[[]skylark/api.Op,skylark/api.Op]
def Tryz.r119_l2_1 (K : AV → AH → Prop) (h : AH) (G : Nat → Option AV) (a0 : AV) (a1 : AV) (n0 : Int) (n11 : Int) : Prop :=
  ∃ (I1 : Nat → List AV → AH → Prop) (m2 : Nat), I1 m2 [(.v (.int .i64 n11))] h ∧ ∀ (m3 : Nat) (h4 : AH), h.length ≤ h4.length → LowH h4.length h4 → ∀ (n5 : Int), I1 m3 [(.v (.int .i64 n5))] h4 →
  condB (decide (n5 < n0))
  (okV (aIA Tryz.prog h4 49 a0 (.v (.int .i64 n5))) fun v6 =>
  okV (aLoad Tryz.prog h4 79 v6) fun v7 =>
  callU Tryz.prog G h4 (fun v8 h9 =>
  okBool (some v8) fun b10 =>
  condB b10
  (RetR h K (.v (.int .i64 n5)) h9)
  (nextR h I1 m3 [some a0, some a1, some (.v (.int .i64 n0))] [some a0, some a1, some (.v (.int .i64 n0))] [(.v (.int .i64 (IntKind.wrap .i64 (n5 + 1))))] h9)) [v7] a1)
  (RetR h K (.v (.int .i64 (-1))) h4)
def Tryz.r119 (G : Nat → Option AV) (a0 a1 : AV) (h : AH) (K : AV → AH → Prop) : Prop :=
  okInt .i64 (aLen Tryz.prog h 49 a0) fun n0 =>
  Tryz.r119_l2_1 K h G a0 a1 n0 0
theorem Tryz.c119 (G : Nat → Option AV) (a0 a1 : AV) (h : AH) (K : AV → AH → Prop) (hk : LowH h.length h → Tryz.r119 G a0 a1 h K) : SCall Tryz.prog G 119 [a0, a1] h K :=
  scall_of_rwp Tryz.tab119 [(2, [(8, (.int .i64))], [0, 1, 7])] Tryz.func119 rfl Tryz.ntmps119 (by kernel_rfl) (by show 2 ≤ 19; decide) (by kernel_rfl) (by kernel_rfl) hk
-- 121 skylark/op.Check
def Tryz.r121_j28 (K : AV → AH → Prop) (h : AH) (i18 : Nat) (b26 : Bool) (h27 : AH) : Prop :=
  rGq (!b26) false (aLoad Tryz.prog h27 79 (.ptr i18 0 0 0)) fun b28 v29 =>
  rGq b28 false (some (.agg [(.v (.int .i64 0)), (.v (.string (ByteArray.mk #[]))), (.v (.string (ByteArray.mk #[]))), (.v (.int .i64 0)), (.v (.int .i64 0)), (.v (.int .i64 0))])) fun b30 v31 =>
  rGq b30 false (aBin Tryz.prog .neq 79 v29 v31) fun b32 v33 =>
  okBool (pickR (some (.v (.bool b32))) (some (.v (.bool true))) (some v33)) fun b34 =>
  condB b34
  (RetR h K (.v (.int .i64 80)) h27)
  (RetR h K (.v (.int .i64 0)) h27)
def Tryz.r121_j67 (K : AV → AH → Prop) (h : AH) (G : Nat → Option AV) (i0 : Nat) (b16 : Bool) (i18 : Nat) (n35 : Int) (b65 : Bool) (h66 : AH) : Prop :=
  condB b65
  (storeR Tryz.prog h66 (fun v67 h68 =>
  Tryz.r121_j28 K h i18 b16 h68) 3 (.v (.int .i64 0)) (.ptr i18 0 0 4))
  (condB (n35 == 6)
  (okStr (aLoad Tryz.prog h66 9 (.ptr i0 0 0 1)) fun s69 =>
  rGq (decide (((ByteArray.size s69 : Nat) : Int) ≤ 64)) true (some (.ptr i0 0 0 5)) fun b70 v71 =>
  rGq b70 true (aLoad Tryz.prog h66 3 v71) fun b72 v73 =>
  rGe b72 true (fun k74 => callR Tryz.prog G 155 [v73, (.v (.int .i64 1)), (.v (.int .i64 100))] h66 (fun v75 h76 =>
  k74 v75 h76)) h66 fun b77 v78 h79 =>
  okBool (pickR (some (.v (.bool b77))) (some v78) (some (.v (.bool false)))) fun b80 =>
  storeR Tryz.prog h79 (fun v81 h82 =>
  Tryz.r121_j28 K h i18 b80 h82) 3 (.v (.int .i64 0)) (.ptr i18 0 0 5))
  (RetR h K (.v (.int .i64 80)) h66))
def Tryz.r121_j38 (G : Nat → Option AV) (h : AH) (K : AV → AH → Prop) (i0 : Nat) (b16 : Bool) (i18 : Nat) (n35 : Int) (b36 : Bool) (h37 : AH) : Prop :=
  condB b36
  (rGq b16 true (some (.ptr i0 0 0 2)) fun b38 v39 =>
  rGq b38 true (aLoad Tryz.prog h37 9 v39) fun b40 v41 =>
  rGq b40 true (aLen Tryz.prog h37 9 v41) fun b42 v43 =>
  rGq b42 true (aBin Tryz.prog .leq 3 v43 (.v (.int .i64 8192))) fun b44 v45 =>
  okBool (pickR (some (.v (.bool b44))) (some v45) (some (.v (.bool false)))) fun b46 =>
  rGq b46 true (some (.ptr i0 0 0 3)) fun b47 v48 =>
  rGq b47 true (aLoad Tryz.prog h37 3 v48) fun b49 v50 =>
  rGe b49 true (fun k51 => callR Tryz.prog G 155 [v50, (.v (.int .i64 1)), (.v (.int .i64 1099511627776))] h37 (fun v52 h53 =>
  k51 v52 h53)) h37 fun b54 v55 h56 =>
  okBool (pickR (some (.v (.bool b54))) (some v55) (some (.v (.bool false)))) fun b57 =>
  storeR Tryz.prog h56 (fun v58 h59 =>
  storeR Tryz.prog h59 (fun v60 h61 =>
  okInt .i64 (aLoad Tryz.prog h61 3 (.ptr i0 0 0 0)) fun n62 =>
  condB (n62 != 1)
  (storeR Tryz.prog h61 (fun v63 h64 =>
  Tryz.r121_j28 K h i18 b57 h64) 3 (.v (.int .i64 0)) (.ptr i18 0 0 4))
  (Tryz.r121_j28 K h i18 b57 h61)) 3 (.v (.int .i64 0)) (.ptr i18 0 0 3)) 9 (.v (.string (ByteArray.mk #[]))) (.ptr i18 0 0 2))
  (condB (n35 == 4)
  (Tryz.r121_j67 K h G i0 b16 i18 n35 (n35 == 4) h37)
  (Tryz.r121_j67 K h G i0 b16 i18 n35 (n35 == 5) h37))
def Tryz.r121 (G : Nat → Option AV) (a0 : AV) (h : AH) (K : AV → AH → Prop) : Prop :=
  onlyB (AV.one a0) (newO (.cells 79 (AV.cells a0).length [AV.cells a0] 0) h fun i0 h1 =>
  okStr (aLoad Tryz.prog h1 9 (.ptr i0 0 0 1)) fun s2 =>
  callR Tryz.prog G 182 [(.v (.string s2))] h1 (fun v3 h4 =>
  okBool (some v3) fun b5 =>
  rGq b5 true (some (.ptr i0 0 0 4)) fun b6 v7 =>
  rGq b6 true (aLoad Tryz.prog h4 3 v7) fun b8 v9 =>
  rGe b8 true (fun k10 => callR Tryz.prog G 155 [v9, (.v (.int .i64 0)), (.v (.int .i64 1099511627776))] h4 (fun v11 h12 =>
  k10 v11 h12)) h4 fun b13 v14 h15 =>
  okBool (pickR (some (.v (.bool b13))) (some v14) (some (.v (.bool false)))) fun b16 =>
  okV (aLoad Tryz.prog h15 79 (.ptr i0 0 0 0)) fun v17 =>
  newO (.cells 79 6 [[(.v (.int .i64 0)), (.v (.string (ByteArray.mk #[]))), (.v (.string (ByteArray.mk #[]))), (.v (.int .i64 0)), (.v (.int .i64 0)), (.v (.int .i64 0))]] 0) h15 fun i18 h19 =>
  storeR Tryz.prog h19 (fun v20 h21 =>
  storeR Tryz.prog h21 (fun v22 h23 =>
  storeR Tryz.prog h23 (fun v24 h25 =>
  okInt .i64 (aLoad Tryz.prog h25 3 (.ptr i0 0 0 0)) fun n35 =>
  condB (n35 == 1)
  (Tryz.r121_j38 G h K i0 b16 i18 n35 (n35 == 1) h25)
  (condB (n35 == 2)
  (Tryz.r121_j38 G h K i0 b16 i18 n35 (n35 == 2) h25)
  (Tryz.r121_j38 G h K i0 b16 i18 n35 (n35 == 3) h25))) 3 (.v (.int .i64 0)) (.ptr i18 0 0 0)) 9 (.v (.string (ByteArray.mk #[]))) (.ptr i18 0 0 1)) 79 v17 (.ptr i18 0 0 0)))
theorem Tryz.c121 (G : Nat → Option AV) (a0 : AV) (h : AH) (K : AV → AH → Prop) (hk : LowH h.length h → Tryz.r121 G a0 h K) : SCall Tryz.prog G 121 [a0] h K :=
  scall_of_rwp Tryz.tab121 [] Tryz.func121 rfl Tryz.ntmps121 (by kernel_rfl) (by show 1 ≤ 63; decide) (by kernel_rfl) (by kernel_rfl) hk
-- 125 skylark/skylarkref07.May
def Tryz.r125 (G : Nat → Option AV) (a0 : AV) (h : AH) (K : AV → AH → Prop) : Prop :=
  onlyB (AV.one a0) (newO (.cells 47 (AV.cells a0).length [AV.cells a0] 0) h fun i0 h1 =>
  okInt .i64 (aLoad Tryz.prog h1 3 (.ptr i0 0 0 0)) fun n2 =>
  rGq (decide (n2 ≥ 1)) true (some (.ptr i0 0 0 0)) fun b3 v4 =>
  rGq b3 true (aLoad Tryz.prog h1 3 v4) fun b5 v6 =>
  rGq b5 true (aBin Tryz.prog .leq 3 v6 (.v (.int .i64 1073741824))) fun b7 v8 =>
  okBool (pickR (some (.v (.bool b7))) (some v8) (some (.v (.bool false)))) fun b9 =>
  rGq b9 true (some (.ptr i0 0 0 1)) fun b10 v11 =>
  rGq b10 true (aLoad Tryz.prog h1 31 v11) fun b12 v13 =>
  rGe b12 true (fun k14 => callR Tryz.prog G 150 [v13] h1 (fun v15 h16 =>
  k14 v15 h16)) h1 fun b17 v18 h19 =>
  okBool (pickR (some (.v (.bool b17))) (some v18) (some (.v (.bool false)))) fun b20 =>
  RetR h K (.v (.bool b20)) h19)
theorem Tryz.c125 (G : Nat → Option AV) (a0 : AV) (h : AH) (K : AV → AH → Prop) (hk : LowH h.length h → Tryz.r125 G a0 h K) : SCall Tryz.prog G 125 [a0] h K :=
  scall_of_rwp Tryz.tab125 [] Tryz.func125 rfl Tryz.ntmps125 (by kernel_rfl) (by show 1 ≤ 16; decide) (by kernel_rfl) (by kernel_rfl) hk
-- 126 slices.ContainsFunc[[]skylark/api.Row,skylark/api.Row]
def Tryz.r126 (G : Nat → Option AV) (a0 a1 : AV) (h : AH) (K : AV → AH → Prop) : Prop :=
  callR Tryz.prog G 185 [a0, a1] h (fun v0 h1 =>
  okInt .i64 (some v0) fun n2 =>
  RetR h K (.v (.bool (decide (n2 ≥ 0)))) h1)
theorem Tryz.c126 (G : Nat → Option AV) (a0 a1 : AV) (h : AH) (K : AV → AH → Prop) (hk : LowH h.length h → Tryz.r126 G a0 a1 h K) : SCall Tryz.prog G 126 [a0, a1] h K :=
  scall_of_rwp Tryz.tab126 [] Tryz.func126 rfl Tryz.ntmps126 (by kernel_rfl) (by show 2 ≤ 9; decide) (by kernel_rfl) (by kernel_rfl) hk
-- 131 cmp.Or[int]
def Tryz.r131_l3_1 (K : AV → AH → Prop) (h : AH) (a0 : AV) (n0 : Int) (n8 : Int) : Prop :=
  ∃ (I1 : Nat → List AV → AH → Prop) (m2 : Nat), I1 m2 [(.v (.int .i64 n8))] h ∧ ∀ (m3 : Nat) (h4 : AH), h.length ≤ h4.length → LowH h4.length h4 → ∀ (n5 : Int), I1 m3 [(.v (.int .i64 n5))] h4 →
  condB (decide (n5 < n0))
  (okV (aIA Tryz.prog h4 31 a0 (.v (.int .i64 n5))) fun v6 =>
  okInt .i64 (aLoad Tryz.prog h4 3 v6) fun n7 =>
  condB (n7 != 0)
  (RetR h K (.v (.int .i64 n7)) h4)
  (nextR h I1 m3 [some (.v (.int .i64 0)), some a0, some (.v (.int .i64 n0))] [some (.v (.int .i64 0)), some a0, some (.v (.int .i64 n0))] [(.v (.int .i64 (IntKind.wrap .i64 (n5 + 1))))] h4))
  (RetR h K (.v (.int .i64 0)) h4)
def Tryz.r131 (a0 : AV) (h : AH) (K : AV → AH → Prop) : Prop :=
  okInt .i64 (aLen Tryz.prog h 31 a0) fun n0 =>
  Tryz.r131_l3_1 K h a0 n0 0
theorem Tryz.c131 (G : Nat → Option AV) (a0 : AV) (h : AH) (K : AV → AH → Prop) (hk : LowH h.length h → Tryz.r131 a0 h K) : SCall Tryz.prog G 131 [a0] h K :=
  scall_of_rwp Tryz.tab131 [(3, [(8, (.int .i64))], [3, 6, 7])] Tryz.func131 rfl Tryz.ntmps131 (by kernel_rfl) (by show 1 ≤ 18; decide) (by kernel_rfl) (by kernel_rfl) hk
-- 146 (skylark/skylarkref07.Change).To
def Tryz.r146 (G : Nat → Option AV) (a0 a1 : AV) (h : AH) (K : AV → AH → Prop) : Prop :=
  onlyB (AV.one a0) (newO (.cells 113 (AV.cells a0).length [AV.cells a0] 0) h fun i0 h1 =>
  newO (.cells 113 6 [[(.v (.int .i64 0)), (.v (.slice none 0 0)), (.v (.int .i64 0)), (.v (.slice none 0 0)), (.v (.string (ByteArray.mk #[]))), (.v (.bool false))]] 0) h1 fun i2 h3 =>
  okV (aLoad Tryz.prog h3 113 (.ptr i0 0 0 0)) fun v4 =>
  callR Tryz.prog G 59 [v4] h3 (fun v5 h6 =>
  okBool (some v5) fun b7 =>
  condB (!b7)
  (storeR Tryz.prog h6 (fun v8 h9 =>
  okV (aLoad Tryz.prog h9 113 (.ptr i2 0 0 0)) fun v10 =>
  RetR h K (.tup [v10, (.v (.int .i64 70))]) h9) 113 (.agg [(.v (.int .i64 0)), (.v (.slice none 0 0)), (.v (.int .i64 0)), (.v (.slice none 0 0)), (.v (.string (ByteArray.mk #[]))), (.v (.bool false))]) (.ptr i2 0 0 0))
  (okBool (aLoad Tryz.prog h6 4 (.ptr i0 0 0 5)) fun b11 =>
  rGq b11 false (some a1) fun b12 v13 =>
  rGq b12 false (some (.ptr i0 0 0 4)) fun b14 v15 =>
  rGq b14 false (aLoad Tryz.prog h6 9 v15) fun b16 v17 =>
  rGq b16 false (aBin Tryz.prog .lss 9 v13 v17) fun b18 v19 =>
  okBool (pickR (some (.v (.bool b18))) (some (.v (.bool true))) (some v19)) fun b20 =>
  rGq b20 false (some a1) fun b21 v22 =>
  rGq b21 false (aLen Tryz.prog h6 9 v22) fun b23 v24 =>
  rGq b23 false (aBin Tryz.prog .gtr 3 v24 (.v (.int .i64 64))) fun b25 v26 =>
  okBool (pickR (some (.v (.bool b25))) (some (.v (.bool true))) (some v26)) fun b27 =>
  condB b27
  (storeR Tryz.prog h6 (fun v28 h29 =>
  okV (aLoad Tryz.prog h29 113 (.ptr i2 0 0 0)) fun v30 =>
  RetR h K (.tup [v30, (.v (.int .i64 1))]) h29) 113 (.agg [(.v (.int .i64 0)), (.v (.slice none 0 0)), (.v (.int .i64 0)), (.v (.slice none 0 0)), (.v (.string (ByteArray.mk #[]))), (.v (.bool false))]) (.ptr i2 0 0 0))
  (okStr (some a1) fun s31 =>
  storeR Tryz.prog h6 (fun v32 h33 =>
  okV (aLoad Tryz.prog h33 113 (.ptr i0 0 0 0)) fun v34 =>
  storeR Tryz.prog h33 (fun v35 h36 =>
  okV (aLoad Tryz.prog h36 113 (.ptr i2 0 0 0)) fun v37 =>
  RetR h K (.tup [v37, (.v (.int .i64 0))]) h36) 113 v34 (.ptr i2 0 0 0)) 9 (.v (.string s31)) (.ptr i0 0 0 4)))))
theorem Tryz.c146 (G : Nat → Option AV) (a0 a1 : AV) (h : AH) (K : AV → AH → Prop) (hk : LowH h.length h → Tryz.r146 G a0 a1 h K) : SCall Tryz.prog G 146 [a0, a1] h K :=
  scall_of_rwp Tryz.tab146 [] Tryz.func146 rfl Tryz.ntmps146 (by kernel_rfl) (by show 2 ≤ 27; decide) (by kernel_rfl) (by kernel_rfl) hk
-- 150 skylark/skylarkref06.May
def Tryz.r150_l5_8 (K : AV → AH → Prop) (h : AH) (a0 : AV) (b39 : Bool) (n40 : Int) : Prop :=
  ∃ (I8 : Nat → List AV → AH → Prop) (m9 : Nat), I8 m9 [(.v (.bool b39)), (.v (.int .i64 n40))] h ∧ ∀ (m10 : Nat) (h11 : AH), h.length ≤ h11.length → LowH h11.length h11 → ∀ (b12 : Bool) (n13 : Int), I8 m10 [(.v (.bool b12)), (.v (.int .i64 n13))] h11 →
  okInt .i64 (aLen Tryz.prog h11 31 a0) fun n14 =>
  condB (decide (n13 < n14))
  (okV (aIA Tryz.prog h11 31 a0 (.v (.int .i64 n13))) fun v15 =>
  okInt .i64 (aLoad Tryz.prog h11 3 v15) fun n16 =>
  rGq (decide (n16 < 0)) false (some a0) fun b17 v18 =>
  rGq b17 false (some (.v (.int .i64 n13))) fun b19 v20 =>
  rGq b19 false (aIA Tryz.prog h11 31 v18 v20) fun b21 v22 =>
  rGq b21 false (aLoad Tryz.prog h11 3 v22) fun b23 v24 =>
  rGq b23 false (aBin Tryz.prog .gtr 3 v24 (.v (.int .i64 128))) fun b25 v26 =>
  okBool (pickR (some (.v (.bool b25))) (some (.v (.bool true))) (some v26)) fun b27 =>
  condB b27
  (RetR h K (.v (.bool false)) h11)
  (rGq b12 false (some a0) fun b28 v29 =>
  rGq b28 false (some (.v (.int .i64 n13))) fun b30 v31 =>
  rGq b30 false (aIA Tryz.prog h11 31 v29 v31) fun b32 v33 =>
  rGq b32 false (aLoad Tryz.prog h11 3 v33) fun b34 v35 =>
  rGq b34 false (aBin Tryz.prog .gtr 3 v35 (.v (.int .i64 0))) fun b36 v37 =>
  okBool (pickR (some (.v (.bool b36))) (some (.v (.bool true))) (some v37)) fun b38 =>
  nextR h I8 m10 [some a0] [some a0] [(.v (.bool b38)), (.v (.int .i64 (IntKind.wrap .i64 (n13 + 1))))] h11))
  (RetR h K (.v (.bool b12)) h11)
def Tryz.r150 (a0 : AV) (h : AH) (K : AV → AH → Prop) : Prop :=
  okInt .i64 (aLen Tryz.prog h 31 a0) fun n0 =>
  rGq (decide (n0 < 1)) false (some a0) fun b1 v2 =>
  rGq b1 false (aLen Tryz.prog h 31 v2) fun b3 v4 =>
  rGq b3 false (aBin Tryz.prog .gtr 3 v4 (.v (.int .i64 8))) fun b5 v6 =>
  okBool (pickR (some (.v (.bool b5))) (some (.v (.bool true))) (some v6)) fun b7 =>
  condB b7
  (RetR h K (.v (.bool false)) h)
  (Tryz.r150_l5_8 K h a0 false 0)
theorem Tryz.c150 (G : Nat → Option AV) (a0 : AV) (h : AH) (K : AV → AH → Prop) (hk : LowH h.length h → Tryz.r150 a0 h K) : SCall Tryz.prog G 150 [a0] h K :=
  scall_of_rwp Tryz.tab150 [(5, [(3, .bool), (4, (.int .i64))], [0])] Tryz.func150 rfl Tryz.ntmps150 (by kernel_rfl) (by show 1 ≤ 40; decide) (by kernel_rfl) (by kernel_rfl) hk
-- 151 skylark/skylarkref06.find
def Tryz.r151_l3_4 (K : AV → AH → Prop) (h : AH) (a0 : AV) (h2 : AH) (n3 : Int) (n19 : Int) : Prop :=
  ∃ (I4 : Nat → List AV → AH → Prop) (m5 : Nat), I4 m5 [(.v (.int .i64 n19))] h2 ∧ ∀ (m6 : Nat) (h7 : AH), h2.length ≤ h7.length → LowH h7.length h7 → ∀ (n8 : Int), I4 m6 [(.v (.int .i64 n8))] h7 →
  okInt .i64 (aLen Tryz.prog h7 248 a0) fun n9 =>
  condB (decide (n8 < n9))
  (okV (aIA Tryz.prog h7 248 a0 (.v (.int .i64 n8))) fun v10 =>
  okV (aFA Tryz.prog 297 0 v10) fun v11 =>
  okInt .u64 (aLoad Tryz.prog h7 105 v11) fun n12 =>
  condB (decide (n12 ≥ n3))
  (okV (aIA Tryz.prog h7 248 a0 (.v (.int .i64 n8))) fun v13 =>
  okV (aFA Tryz.prog 297 1 v13) fun v14 =>
  okInt .i64 (aLoad Tryz.prog h7 3 v14) fun n15 =>
  RetR h K (.v (.int .i64 n15)) h7)
  (nextR h2 I4 m6 [some a0, some (.v (.int .u64 n3))] [some a0, some (.v (.int .u64 n3))] [(.v (.int .i64 (IntKind.wrap .i64 (n8 + 1))))] h7))
  (okV (aIA Tryz.prog h7 248 a0 (.v (.int .i64 0))) fun v16 =>
  okV (aFA Tryz.prog 297 1 v16) fun v17 =>
  okInt .i64 (aLoad Tryz.prog h7 3 v17) fun n18 =>
  RetR h K (.v (.int .i64 n18)) h7)
def Tryz.r151 (G : Nat → Option AV) (a0 a1 : AV) (h : AH) (K : AV → AH → Prop) : Prop :=
  okStr (some a1) fun s0 =>
  callR Tryz.prog G 202 [(.v (.string s0))] h (fun v1 h2 =>
  okInt .u64 (some v1) fun n3 =>
  Tryz.r151_l3_4 K h a0 h2 n3 0)
theorem Tryz.c151 (G : Nat → Option AV) (a0 a1 : AV) (h : AH) (K : AV → AH → Prop) (hk : LowH h.length h → Tryz.r151 G a0 a1 h K) : SCall Tryz.prog G 151 [a0, a1] h K :=
  scall_of_rwp Tryz.tab151 [(3, [(6, (.int .i64))], [0, 5])] Tryz.func151 rfl Tryz.ntmps151 (by kernel_rfl) (by show 2 ≤ 31; decide) (by kernel_rfl) (by kernel_rfl) hk
-- 152 skylark/skylarkref06.All
def Tryz.r152_l10_30 (a0 : AV) (h3 : AH) (n5 : Int) (I7 : Nat → List AV → AH → Prop) (m9 : Nat) (v11 : AV) (n12 : Int) (i26 : Nat) (h29 : AH) (n65 : Int) : Prop :=
  ∃ (I30 : Nat → List AV → AH → Prop) (m31 : Nat), I30 m31 [(.v (.int .i64 n65))] h29 ∧ ∀ (m32 : Nat) (h33 : AH), h29.length ≤ h33.length → LowH h33.length h33 → ∀ (n34 : Int), I30 m32 [(.v (.int .i64 n34))] h33 →
  okInt .i64 (aLen Tryz.prog h33 248 v11) fun n35 =>
  rGq (decide (n34 < n35)) true (some v11) fun b36 v37 =>
  rGq b36 true (some (.v (.int .i64 n34))) fun b38 v39 =>
  rGq b38 true (aIA Tryz.prog h33 248 v37 v39) fun b40 v41 =>
  rGq b40 true (aFA Tryz.prog 297 0 v41) fun b42 v43 =>
  rGq b42 true (aLoad Tryz.prog h33 105 v43) fun b44 v45 =>
  rGq b44 true (some (.ptr i26 0 0 0)) fun b46 v47 =>
  rGq b46 true (aLoad Tryz.prog h33 105 v47) fun b48 v49 =>
  rGq b48 true (aBin Tryz.prog .leq 105 v45 v49) fun b50 v51 =>
  okBool (pickR (some (.v (.bool b50))) (some v51) (some (.v (.bool false)))) fun b52 =>
  condB b52
  (nextR h29 I30 m32 [some a0, some v11, some (.v (.int .i64 n5)), some (.v (.int .i64 n12)), some (.ptr i26 0 0 0)] [some a0, some v11, some (.v (.int .i64 n5)), some (.v (.int .i64 n12)), some (.ptr i26 0 0 0)] [(.v (.int .i64 (IntKind.wrap .i64 (n34 + 1))))] h33)
  (okV (aSlice Tryz.prog h33 248 v11 none (some (some (.v (.int .i64 n34)))) none) fun v53 =>
  appR Tryz.prog h33 248 248 (.v (.slice none 0 0)) v53 (fun v54 h55 =>
  okV (aLoad Tryz.prog h55 297 (.ptr i26 0 0 0)) fun v56 =>
  okP (rowsFill 2 (List.replicate 1 [(.v (.int .u64 0)), (.v (.int .i64 0))]) [(0, some v56)]) fun r57 => newO (.cells 297 2 r57 0) h55 fun i58 h59 =>
  appR Tryz.prog h59 248 248 v54 (.sl i58 0 0 1 none) (fun v60 h61 =>
  okV (aSlice Tryz.prog h61 248 v11 (some (some (.v (.int .i64 n34)))) none none) fun v62 =>
  appR Tryz.prog h61 248 248 v60 v62 (fun v63 h64 =>
  nextR h3 I7 m9 [some a0, some (.v (.int .i64 n5))] [some a0, some (.v (.int .i64 n5))] [v63, (.v (.int .i64 (IntKind.wrap .i64 (n12 + 1))))] h64))))
def Tryz.r152_l6_7 (h : AH) (G : Nat → Option AV) (a0 : AV) (I0 : Nat → List AV → AH → Prop) (m2 : Nat) (h3 : AH) (n5 : Int) (v66 : AV) (n67 : Int) : Prop :=
  ∃ (I7 : Nat → List AV → AH → Prop) (m8 : Nat), I7 m8 [v66, (.v (.int .i64 n67))] h3 ∧ ∀ (m9 : Nat) (h10 : AH), h3.length ≤ h10.length → LowH h10.length h10 → ∀ (v11 : AV) (n12 : Int), I7 m9 [v11, (.v (.int .i64 n12))] h10 →
  okV (aIA Tryz.prog h10 31 a0 (.v (.int .i64 n5))) fun v13 =>
  okInt .i64 (aLoad Tryz.prog h10 3 v13) fun n14 =>
  condB (decide (n12 < n14))
  (callR Tryz.prog G 203 [(.v (.int .i64 n5))] h10 (fun v15 h16 =>
  okStr (some v15) fun s17 =>
  okStr (aBin Tryz.prog .add 9 (.v (.string s17)) (.v (.string (ByteArray.mk #[46])))) fun s18 =>
  callR Tryz.prog G 203 [(.v (.int .i64 n12))] h16 (fun v19 h20 =>
  okStr (some v19) fun s21 =>
  okStr (aBin Tryz.prog .add 9 (.v (.string s18)) (.v (.string s21))) fun s22 =>
  callR Tryz.prog G 202 [(.v (.string s22))] h20 (fun v23 h24 =>
  okInt .u64 (some v23) fun n25 =>
  newO (.cells 297 2 [[(.v (.int .u64 0)), (.v (.int .i64 0))]] 0) h24 fun i26 h27 =>
  storeR Tryz.prog h27 (fun v28 h29 =>
  Tryz.r152_l10_30 a0 h3 n5 I7 m9 v11 n12 i26 h29 0) 297 (.agg [(.v (.int .u64 n25)), (.v (.int .i64 n5))]) (.ptr i26 0 0 0)))))
  (nextR h I0 m2 [some a0] [some a0] [v11, (.v (.int .i64 (IntKind.wrap .i64 (n5 + 1))))] h10)
def Tryz.r152_l3_0 (K : AV → AH → Prop) (h : AH) (G : Nat → Option AV) (a0 : AV) (v68 : AV) (n69 : Int) : Prop :=
  ∃ (I0 : Nat → List AV → AH → Prop) (m1 : Nat), I0 m1 [v68, (.v (.int .i64 n69))] h ∧ ∀ (m2 : Nat) (h3 : AH), h.length ≤ h3.length → LowH h3.length h3 → ∀ (v4 : AV) (n5 : Int), I0 m2 [v4, (.v (.int .i64 n5))] h3 →
  okInt .i64 (aLen Tryz.prog h3 31 a0) fun n6 =>
  condB (decide (n5 < n6))
  (Tryz.r152_l6_7 h G a0 I0 m2 h3 n5 v4 0)
  (RetR h K v4 h3)
def Tryz.r152 (G : Nat → Option AV) (a0 : AV) (h : AH) (K : AV → AH → Prop) : Prop :=
  Tryz.r152_l3_0 K h G a0 (.v (.slice none 0 0)) 0
theorem Tryz.c152 (G : Nat → Option AV) (a0 : AV) (h : AH) (K : AV → AH → Prop) (hk : LowH h.length h → Tryz.r152 G a0 h K) : SCall Tryz.prog G 152 [a0] h K :=
  scall_of_rwp Tryz.tab152 [(3, [(3, .any), (4, (.int .i64))], [0]), (6, [(3, .any), (5, (.int .i64))], [0, 4]), (10, [(7, (.int .i64))], [0, 3, 4, 5, 6])] Tryz.func152 rfl Tryz.ntmps152 (by kernel_rfl) (by show 1 ≤ 63; decide) (by kernel_rfl) (by kernel_rfl) hk
-- 154 (*skylark/client.Client).fail
def Tryz.r154 (G : Nat → Option AV) (a0 a1 a2 : AV) (h : AH) (K : AV → AH → Prop) : Prop :=
  okV (aNil a0) fun v0 =>
  okV (aFA Tryz.prog 171 0 v0) fun v1 =>
  okInt .i64 (aLoad Tryz.prog h 3 v1) fun n2 =>
  okV (aNil a0) fun v3 =>
  okV (aFA Tryz.prog 171 5 v3) fun v4 =>
  okInt .i64 (aLoad Tryz.prog h 3 v4) fun n5 =>
  okInt .i64 (some a1) fun n6 =>
  okInt .i64 (some a2) fun n7 =>
  callR Tryz.prog G 95 [a0, (.agg [(.v (.int .i64 n2)), (.v (.int .i64 n5)), (.v (.slice none 0 0)), (.v (.int .i64 n6)), (.v (.int .i64 n7))])] h (fun v8 h9 =>
  RetR h K (.tup []) h9)
theorem Tryz.c154 (G : Nat → Option AV) (a0 a1 a2 : AV) (h : AH) (K : AV → AH → Prop) (hk : LowH h.length h → Tryz.r154 G a0 a1 a2 h K) : SCall Tryz.prog G 154 [a0, a1, a2] h K :=
  scall_of_rwp Tryz.tab154 [] Tryz.func154 rfl Tryz.ntmps154 (by kernel_rfl) (by show 3 ≤ 20; decide) (by kernel_rfl) (by kernel_rfl) hk
-- 155 skylark/op.in
def Tryz.r155 (a0 a1 a2 : AV) (h : AH) (K : AV → AH → Prop) : Prop :=
  okInt .i64 (some a0) fun n0 =>
  okInt .i64 (some a1) fun n1 =>
  rGq (decide (n0 ≥ n1)) true (some a0) fun b2 v3 =>
  rGq b2 true (some a2) fun b4 v5 =>
  rGq b4 true (aBin Tryz.prog .leq 3 v3 v5) fun b6 v7 =>
  okBool (pickR (some (.v (.bool b6))) (some v7) (some (.v (.bool false)))) fun b8 =>
  RetR h K (.v (.bool b8)) h
theorem Tryz.c155 (G : Nat → Option AV) (a0 a1 a2 : AV) (h : AH) (K : AV → AH → Prop) (hk : LowH h.length h → Tryz.r155 a0 a1 a2 h K) : SCall Tryz.prog G 155 [a0, a1, a2] h K :=
  scall_of_rwp Tryz.tab155 [] Tryz.func155 rfl Tryz.ntmps155 (by kernel_rfl) (by show 3 ≤ 15; decide) (by kernel_rfl) (by kernel_rfl) hk
-- 156 skylark/op.CheckAll$1
def Tryz.r156 (G : Nat → Option AV) (a0 : AV) (h : AH) (K : AV → AH → Prop) : Prop :=
  onlyB (AV.one a0) (newO (.cells 79 (AV.cells a0).length [AV.cells a0] 0) h fun i0 h1 =>
  okV (aLoad Tryz.prog h1 79 (.ptr i0 0 0 0)) fun v2 =>
  callR Tryz.prog G 121 [v2] h1 (fun v3 h4 =>
  okInt .i64 (some v3) fun n5 =>
  RetR h K (.v (.bool (n5 != 0))) h4))
theorem Tryz.c156 (G : Nat → Option AV) (a0 : AV) (h : AH) (K : AV → AH → Prop) (hk : LowH h.length h → Tryz.r156 G a0 h K) : SCall Tryz.prog G 156 [a0] h K :=
  scall_of_rwp Tryz.tab156 [] Tryz.func156 rfl Tryz.ntmps156 (by kernel_rfl) (by show 1 ≤ 6; decide) (by kernel_rfl) (by kernel_rfl) hk
-- 157 (*skylark/client.Client).chain
def Tryz.r157 (G : Nat → Option AV) (a0 a1 : AV) (h : AH) (K : AV → AH → Prop) : Prop :=
  onlyB (AV.one a1) (newO (.cells 79 (AV.cells a1).length [AV.cells a1] 0) h fun i0 h1 =>
  okV (aNil a0) fun v2 =>
  okV (aFA Tryz.prog 171 3 v2) fun v3 =>
  okV (aFA Tryz.prog 47 1 v3) fun v4 =>
  okV (aLoad Tryz.prog h1 31 v4) fun v5 =>
  okStr (aLoad Tryz.prog h1 9 (.ptr i0 0 0 1)) fun s6 =>
  callR Tryz.prog G 35 [v5, (.v (.string s6))] h1 (fun v7 h8 =>
  okInt .i64 (extV 0 v7) fun n9 =>
  okInt .i64 (extV 1 v7) fun n10 =>
  RetR h K (.v (.int .i64 n9)) h8))
theorem Tryz.c157 (G : Nat → Option AV) (a0 a1 : AV) (h : AH) (K : AV → AH → Prop) (hk : LowH h.length h → Tryz.r157 G a0 a1 h K) : SCall Tryz.prog G 157 [a0, a1] h K :=
  scall_of_rwp Tryz.tab157 [] Tryz.func157 rfl Tryz.ntmps157 (by kernel_rfl) (by show 2 ≤ 19; decide) (by kernel_rfl) (by kernel_rfl) hk
-- 158 (*skylark/client.Client).apart$1
def Tryz.r158 (G : Nat → Option AV) (a0 a1 a2 : AV) (h : AH) (K : AV → AH → Prop) : Prop :=
  onlyB (AV.one a0) (newO (.cells 79 (AV.cells a0).length [AV.cells a0] 0) h fun i0 h1 =>
  okV (aLoad Tryz.prog h1 43 a1) fun v2 =>
  okV (aLoad Tryz.prog h1 79 (.ptr i0 0 0 0)) fun v3 =>
  okInt .i64 (aLoad Tryz.prog h1 3 a2) fun n4 =>
  callR Tryz.prog G 157 [v2, v3] h1 (fun v5 h6 =>
  okInt .i64 (some v5) fun n7 =>
  (aLoad Tryz.prog h6 3 a2 = some (.v (.int .i64 n4))) ∧ RetR h K (.v (.bool (n7 != n4))) h6))
theorem Tryz.c158 (G : Nat → Option AV) (a0 a1 a2 : AV) (h : AH) (K : AV → AH → Prop) (hk : LowH h.length h → Tryz.r158 G a0 a1 a2 h K) : SCall Tryz.prog G 158 [a0, a1, a2] h K :=
  scall_of_rwp Tryz.tab158 [] Tryz.func158 rfl Tryz.ntmps158 (by kernel_rfl) (by show 3 ≤ 10; decide) (by kernel_rfl) (by kernel_rfl) hk
-- 159 (*skylark/op.writer).num
def Tryz.r159_l1_1 (K : AV → AH → Prop) (h : AH) (a0 : AV) (a1 : AV) (n0 : Int) (n19 : Int) : Prop :=
  ∃ (I1 : Nat → List AV → AH → Prop) (m2 : Nat), I1 m2 [(.v (.int .i64 n19))] h ∧ ∀ (m3 : Nat) (h4 : AH), h.length ≤ h4.length → LowH h4.length h4 → ∀ (n5 : Int), I1 m3 [(.v (.int .i64 n5))] h4 →
  condB (decide (n5 < n0))
  (okV (aIA Tryz.prog h4 31 a1 (.v (.int .i64 n5))) fun v6 =>
  okInt .i64 (aLoad Tryz.prog h4 3 v6) fun n7 =>
  okV (aNil a0) fun v8 =>
  okV (aFA Tryz.prog 256 0 v8) fun v9 =>
  okV (aLoad Tryz.prog h4 71 v9) fun v10 =>
  newO (.cells 70 3 [[(.v (.bool false)), (.v (.int .i64 n7)), (.v (.string (ByteArray.mk #[])))]] 0) h4 fun i11 h12 =>
  appR Tryz.prog h12 71 71 v10 (.sl i11 0 0 1 none) (fun v13 h14 =>
  okV (aNil a0) fun v15 =>
  okV (aFA Tryz.prog 256 0 v15) fun v16 =>
  storeR Tryz.prog h14 (fun v17 h18 =>
  nextR h I1 m3 [some a0, some a1, some (.v (.int .i64 n0))] [some a0, some a1, some (.v (.int .i64 n0))] [(.v (.int .i64 (IntKind.wrap .i64 (n5 + 1))))] h18) 71 v13 v16))
  (RetR h K (.tup []) h4)
def Tryz.r159 (a0 a1 : AV) (h : AH) (K : AV → AH → Prop) : Prop :=
  okInt .i64 (aLen Tryz.prog h 31 a1) fun n0 =>
  Tryz.r159_l1_1 K h a0 a1 n0 0
theorem Tryz.c159 (G : Nat → Option AV) (a0 a1 : AV) (h : AH) (K : AV → AH → Prop) (hk : LowH h.length h → Tryz.r159 a0 a1 h K) : SCall Tryz.prog G 159 [a0, a1] h K :=
  scall_of_rwp Tryz.tab159 [(1, [(8, (.int .i64))], [0, 6, 7])] Tryz.func159 rfl Tryz.ntmps159 (by kernel_rfl) (by show 2 ≤ 24; decide) (by kernel_rfl) (by kernel_rfl) hk
-- 160 (*skylark/op.writer).text
def Tryz.r160_l1_1 (K : AV → AH → Prop) (h : AH) (a0 : AV) (a1 : AV) (n0 : Int) (n19 : Int) : Prop :=
  ∃ (I1 : Nat → List AV → AH → Prop) (m2 : Nat), I1 m2 [(.v (.int .i64 n19))] h ∧ ∀ (m3 : Nat) (h4 : AH), h.length ≤ h4.length → LowH h4.length h4 → ∀ (n5 : Int), I1 m3 [(.v (.int .i64 n5))] h4 →
  condB (decide (n5 < n0))
  (okV (aIA Tryz.prog h4 42 a1 (.v (.int .i64 n5))) fun v6 =>
  okStr (aLoad Tryz.prog h4 9 v6) fun s7 =>
  okV (aNil a0) fun v8 =>
  okV (aFA Tryz.prog 256 0 v8) fun v9 =>
  okV (aLoad Tryz.prog h4 71 v9) fun v10 =>
  newO (.cells 70 3 [[(.v (.bool true)), (.v (.int .i64 0)), (.v (.string s7))]] 0) h4 fun i11 h12 =>
  appR Tryz.prog h12 71 71 v10 (.sl i11 0 0 1 none) (fun v13 h14 =>
  okV (aNil a0) fun v15 =>
  okV (aFA Tryz.prog 256 0 v15) fun v16 =>
  storeR Tryz.prog h14 (fun v17 h18 =>
  nextR h I1 m3 [some a0, some a1, some (.v (.int .i64 n0))] [some a0, some a1, some (.v (.int .i64 n0))] [(.v (.int .i64 (IntKind.wrap .i64 (n5 + 1))))] h18) 71 v13 v16))
  (RetR h K (.tup []) h4)
def Tryz.r160 (a0 a1 : AV) (h : AH) (K : AV → AH → Prop) : Prop :=
  okInt .i64 (aLen Tryz.prog h 42 a1) fun n0 =>
  Tryz.r160_l1_1 K h a0 a1 n0 0
theorem Tryz.c160 (G : Nat → Option AV) (a0 a1 : AV) (h : AH) (K : AV → AH → Prop) (hk : LowH h.length h → Tryz.r160 a0 a1 h K) : SCall Tryz.prog G 160 [a0, a1] h K :=
  scall_of_rwp Tryz.tab160 [(1, [(8, (.int .i64))], [0, 6, 7])] Tryz.func160 rfl Tryz.ntmps160 (by kernel_rfl) (by show 2 ≤ 24; decide) (by kernel_rfl) (by kernel_rfl) hk
-- 161 skylark/op.reply
def Tryz.r161 (G : Nat → Option AV) (a0 : AV) (h : AH) (K : AV → AH → Prop) : Prop :=
  onlyB (AV.one a0) (newO (.cells 59 (AV.cells a0).length [AV.cells a0] 0) h fun i0 h1 =>
  okInt .i64 (aLoad Tryz.prog h1 3 (.ptr i0 0 0 0)) fun n2 =>
  callR Tryz.prog G 155 [(.v (.int .i64 n2)), (.v (.int .i64 0)), (.v (.int .i64 1000))] h1 (fun v3 h4 =>
  okBool (some v3) fun b5 =>
  rGq (!b5) false (some (.ptr i0 0 0 1)) fun b6 v7 =>
  rGq b6 false (aLoad Tryz.prog h4 3 v7) fun b8 v9 =>
  rGe b8 false (fun k10 => callR Tryz.prog G 155 [v9, (.v (.int .i64 1)), (.v (.int .i64 1048576))] h4 (fun v11 h12 =>
  k10 v11 h12)) h4 fun b13 v14 h15 =>
  rGq b13 false (aUn .not v14) fun b16 v17 =>
  okBool (pickR (some (.v (.bool b16))) (some (.v (.bool true))) (some v17)) fun b18 =>
  condB b18
  (RetR h K (.v (.bool false)) h15)
  (okV (aLoad Tryz.prog h15 55 (.ptr i0 0 0 2)) fun v19 =>
  okInt .i64 (aLen Tryz.prog h15 55 v19) fun n20 =>
  condB (n20 == 0)
  (okInt .i64 (aLoad Tryz.prog h15 3 (.ptr i0 0 0 3)) fun n21 =>
  callR Tryz.prog G 155 [(.v (.int .i64 n21)), (.v (.int .i64 0)), (.v (.int .i64 32))] h15 (fun v22 h23 =>
  okBool (some v22) fun b24 =>
  rGq b24 true (some (.ptr i0 0 0 3)) fun b25 v26 =>
  rGq b25 true (aFA Tryz.prog 57 1 v26) fun b27 v28 =>
  rGq b27 true (aLoad Tryz.prog h23 24 v28) fun b29 v30 =>
  rGe b29 true (fun k31 => callR Tryz.prog G 155 [v30, (.v (.int .i64 1)), (.v (.int .i64 300))] h23 (fun v32 h33 =>
  k31 v32 h33)) h23 fun b34 v35 h36 =>
  okBool (pickR (some (.v (.bool b34))) (some v35) (some (.v (.bool false)))) fun b37 =>
  RetR h K (.v (.bool b37)) h36))
  (okV (aLoad Tryz.prog h15 55 (.ptr i0 0 0 2)) fun v38 =>
  okInt .i64 (aLen Tryz.prog h15 55 v38) fun n39 =>
  rGq (decide (n39 ≤ 32)) true (some (.ptr i0 0 0 3)) fun b40 v41 =>
  rGq b40 true (aLoad Tryz.prog h15 57 v41) fun b42 v43 =>
  rGq b42 true (some (.agg [(.v (.int .i64 0)), (.v (.int .i64 0))])) fun b44 v45 =>
  rGq b44 true (aBin Tryz.prog .eql 57 v43 v45) fun b46 v47 =>
  okBool (pickR (some (.v (.bool b46))) (some v47) (some (.v (.bool false)))) fun b48 =>
  rGq b48 true (some (.ptr i0 0 0 2)) fun b49 v50 =>
  rGq b49 true (aLoad Tryz.prog h15 55 v50) fun b51 v52 =>
  rGe b51 true (fun k53 => callR Tryz.prog G 204 [v52, (.fn (.func 205) [] [])] h15 (fun v54 h55 =>
  k53 v54 h55)) h15 fun b56 v57 h58 =>
  rGq b56 true (aUn .not v57) fun b59 v60 =>
  okBool (pickR (some (.v (.bool b59))) (some v60) (some (.v (.bool false)))) fun b61 =>
  RetR h K (.v (.bool b61)) h58))))
theorem Tryz.c161 (G : Nat → Option AV) (a0 : AV) (h : AH) (K : AV → AH → Prop) (hk : LowH h.length h → Tryz.r161 G a0 h K) : SCall Tryz.prog G 161 [a0] h K :=
  scall_of_rwp Tryz.tab161 [] Tryz.func161 rfl Tryz.ntmps161 (by kernel_rfl) (by show 1 ≤ 43; decide) (by kernel_rfl) (by kernel_rfl) hk
-- 162 skylark/code.low[uint64]
def Tryz.r162 (G : Nat → Option AV) (a0 a1 a2 : AV) (h : AH) (K : AV → AH → Prop) : Prop :=
  okInt .u64 (some a1) fun n0 =>
  okInt .i64 (some a2) fun n1 =>
  callR Tryz.prog G 207 [(.agg [(.v (.int .u64 n0)), (.v (.int .i64 n1))]), a0] h (fun v2 h3 =>
  RetR h K v2 h3)
theorem Tryz.c162 (G : Nat → Option AV) (a0 a1 a2 : AV) (h : AH) (K : AV → AH → Prop) (hk : LowH h.length h → Tryz.r162 G a0 a1 a2 h K) : SCall Tryz.prog G 162 [a0, a1, a2] h K :=
  scall_of_rwp Tryz.tab162 [] Tryz.func162 rfl Tryz.ntmps162 (by kernel_rfl) (by show 3 ≤ 12; decide) (by kernel_rfl) (by kernel_rfl) hk
-- 163 skylark/ring.Hash
def Tryz.r163_l3_1 (K : AV → AH → Prop) (h : AH) (a0 : AV) (s0 : ByteArray) (n14 : Int) (n15 : Int) : Prop :=
  ∃ (I1 : Nat → List AV → AH → Prop) (m2 : Nat), I1 m2 [(.v (.int .u64 n14)), (.v (.int .i64 n15))] h ∧ ∀ (m3 : Nat) (h4 : AH), h.length ≤ h4.length → LowH h4.length h4 → ∀ (n5 : Int) (n6 : Int), I1 m3 [(.v (.int .u64 n5)), (.v (.int .i64 n6))] h4 →
  condB (decide (n6 < ((ByteArray.size s0 : Nat) : Int)))
  (okStr (some a0) fun s7 =>
  okInt .u8 (aIndex Tryz.prog 9 (.v (.string s7)) (.v (.int .i64 n6))) fun n8 =>
  okInt .u64 (aBin Tryz.prog .xor 105 (.v (.int .u64 n5)) (.v (.int .u64 (IntKind.wrap .u64 n8)))) fun n9 =>
  nextR h I1 m3 [some a0, some (.v (.int .i64 ((ByteArray.size s0 : Nat) : Int)))] [some a0, some (.v (.int .i64 ((ByteArray.size s0 : Nat) : Int)))] [(.v (.int .u64 (IntKind.wrap .u64 (n9 * 1099511628211)))), (.v (.int .i64 (IntKind.wrap .i64 (n6 + 1))))] h4)
  (okInt .u64 (aBin Tryz.prog .shr 105 (.v (.int .u64 n5)) (.v (.int .u64 33))) fun n10 =>
  okInt .u64 (aBin Tryz.prog .xor 105 (.v (.int .u64 n5)) (.v (.int .u64 n10))) fun n11 =>
  okInt .u64 (aBin Tryz.prog .shr 105 (.v (.int .u64 (IntKind.wrap .u64 (n11 * 18397679294719823053)))) (.v (.int .u64 33))) fun n12 =>
  okInt .u64 (aBin Tryz.prog .xor 105 (.v (.int .u64 (IntKind.wrap .u64 (n11 * 18397679294719823053)))) (.v (.int .u64 n12))) fun n13 =>
  RetR h K (.v (.int .u64 n13)) h4)
def Tryz.r163 (a0 : AV) (h : AH) (K : AV → AH → Prop) : Prop :=
  okStr (some a0) fun s0 =>
  Tryz.r163_l3_1 K h a0 s0 14695981039346656037 0
theorem Tryz.c163 (G : Nat → Option AV) (a0 : AV) (h : AH) (K : AV → AH → Prop) (hk : LowH h.length h → Tryz.r163 a0 h K) : SCall Tryz.prog G 163 [a0] h K :=
  scall_of_rwp Tryz.tab163 [(3, [(3, (.int .u64)), (7, (.int .i64))], [0, 6])] Tryz.func163 rfl Tryz.ntmps163 (by kernel_rfl) (by show 1 ≤ 27; decide) (by kernel_rfl) (by kernel_rfl) hk
-- 165 (skylark/ring.ring).sort
def Tryz.r165 (G : Nat → Option AV) (a0 a1 : AV) (h : AH) (K : AV → AH → Prop) : Prop :=
  callR Tryz.prog G 209 [a0, a1] h (fun v0 h1 =>
  RetR h K (.tup []) h1)
theorem Tryz.c165 (G : Nat → Option AV) (a0 a1 : AV) (h : AH) (K : AV → AH → Prop) (hk : LowH h.length h → Tryz.r165 G a0 a1 h K) : SCall Tryz.prog G 165 [a0, a1] h K :=
  scall_of_rwp Tryz.tab165 [] Tryz.func165 rfl Tryz.ntmps165 (by kernel_rfl) (by show 2 ≤ 7; decide) (by kernel_rfl) (by kernel_rfl) hk
-- 166 (skylark/ring.point).compare
def Tryz.r166 (G : Nat → Option AV) (a0 a1 : AV) (h : AH) (K : AV → AH → Prop) : Prop :=
  onlyB (AV.one a0) (newO (.cells 264 (AV.cells a0).length [AV.cells a0] 0) h fun i0 h1 =>
  onlyB (AV.one a1) (newO (.cells 264 (AV.cells a1).length [AV.cells a1] 0) h1 fun i2 h3 =>
  okInt .u64 (aLoad Tryz.prog h3 105 (.ptr i0 0 0 0)) fun n4 =>
  okInt .u64 (aLoad Tryz.prog h3 105 (.ptr i2 0 0 0)) fun n5 =>
  okInt .i64 (aLoad Tryz.prog h3 3 (.ptr i0 0 0 1)) fun n6 =>
  okInt .i64 (aLoad Tryz.prog h3 3 (.ptr i2 0 0 1)) fun n7 =>
  okInt .i64 (aLoad Tryz.prog h3 3 (.ptr i0 0 0 2)) fun n8 =>
  okInt .i64 (aLoad Tryz.prog h3 3 (.ptr i2 0 0 2)) fun n9 =>
  callR Tryz.prog G 169 [(.v (.int .u64 n4)), (.v (.int .u64 n5))] h3 (fun v10 h11 =>
  okInt .i64 (some v10) fun n12 =>
  (aLoad Tryz.prog h11 3 (.ptr i2 0 0 2) = some (.v (.int .i64 n9))) ∧ (aLoad Tryz.prog h11 3 (.ptr i0 0 0 2) = some (.v (.int .i64 n8))) ∧ (aLoad Tryz.prog h11 3 (.ptr i2 0 0 1) = some (.v (.int .i64 n7))) ∧ (aLoad Tryz.prog h11 3 (.ptr i0 0 0 1) = some (.v (.int .i64 n6))) ∧ callR Tryz.prog G 210 [(.v (.int .i64 n6)), (.v (.int .i64 n7))] h11 (fun v13 h14 =>
  okInt .i64 (some v13) fun n15 =>
  (aLoad Tryz.prog h14 3 (.ptr i2 0 0 2) = some (.v (.int .i64 n9))) ∧ (aLoad Tryz.prog h14 3 (.ptr i0 0 0 2) = some (.v (.int .i64 n8))) ∧ callR Tryz.prog G 210 [(.v (.int .i64 n8)), (.v (.int .i64 n9))] h14 (fun v16 h17 =>
  okInt .i64 (some v16) fun n18 =>
  newO (.cells 3 1 [[(.v (.int .i64 n12))], [(.v (.int .i64 n15))], [(.v (.int .i64 n18))]] 0) h17 fun i19 h20 =>
  callR Tryz.prog G 131 [(.sl i19 0 0 3 none)] h20 (fun v21 h22 =>
  okInt .i64 (some v21) fun n23 =>
  RetR h K (.v (.int .i64 n23)) h22))))))
theorem Tryz.c166 (G : Nat → Option AV) (a0 a1 : AV) (h : AH) (K : AV → AH → Prop) (hk : LowH h.length h → Tryz.r166 G a0 a1 h K) : SCall Tryz.prog G 166 [a0, a1] h K :=
  scall_of_rwp Tryz.tab166 [] Tryz.func166 rfl Tryz.ntmps166 (by kernel_rfl) (by show 2 ≤ 22; decide) (by kernel_rfl) (by kernel_rfl) hk
-- 167 slices.BinarySearchFunc[skylark/ring.ring,skylark/ring.point,uint64]
def Tryz.r167_l3_1 (K : AV → AH → Prop) (h : AH) (G : Nat → Option AV) (a0 : AV) (a1 : AV) (a2 : AV) (n0 : Int) (n35 : Int) (n36 : Int) : Prop :=
  ∃ (I1 : Nat → List AV → AH → Prop) (m2 : Nat), I1 m2 [(.v (.int .i64 n35)), (.v (.int .i64 n36))] h ∧ ∀ (m3 : Nat) (h4 : AH), h.length ≤ h4.length → LowH h4.length h4 → ∀ (n5 : Int) (n6 : Int), I1 m3 [(.v (.int .i64 n5)), (.v (.int .i64 n6))] h4 →
  condB (decide (n5 < n6))
  (okInt .u64 (aBin Tryz.prog .shr 236 (.v (.int .u64 (IntKind.wrap .u64 (IntKind.wrap .i64 (n5 + n6))))) (.v (.int .u64 1))) fun n7 =>
  okV (aIA Tryz.prog h4 188 a0 (.v (.int .i64 (IntKind.wrap .i64 n7)))) fun v8 =>
  okV (aLoad Tryz.prog h4 264 v8) fun v9 =>
  okInt .u64 (some a1) fun n10 =>
  callU Tryz.prog G h4 (fun v11 h12 =>
  okInt .i64 (some v11) fun n13 =>
  condB (decide (n13 < 0))
  (nextR h I1 m3 [some a0, some a1, some a2, some (.v (.int .i64 n0))] [some a0, some a1, some a2, some (.v (.int .i64 n0))] [(.v (.int .i64 (IntKind.wrap .i64 ((IntKind.wrap .i64 n7) + 1)))), (.v (.int .i64 n6))] h12)
  (nextR h I1 m3 [some a0, some a1, some a2, some (.v (.int .i64 n0))] [some a0, some a1, some a2, some (.v (.int .i64 n0))] [(.v (.int .i64 n5)), (.v (.int .i64 (IntKind.wrap .i64 n7)))] h12)) [v9, (.v (.int .u64 n10))] a2)
  (rGq (decide (n5 < n0)) true (some a2) fun b14 v15 =>
  rGq b14 true (some a0) fun b16 v17 =>
  rGq b16 true (some (.v (.int .i64 n5))) fun b18 v19 =>
  rGq b18 true (aIA Tryz.prog h4 188 v17 v19) fun b20 v21 =>
  rGq b20 true (aLoad Tryz.prog h4 264 v21) fun b22 v23 =>
  rGq b22 true (some a1) fun b24 v25 =>
  rGe b24 true (fun k26 => callU Tryz.prog G h4 (fun v27 h28 =>
  k26 v27 h28) [v23, v25] v15) h4 fun b29 v30 h31 =>
  rGq b29 true (aBin Tryz.prog .eql 3 v30 (.v (.int .i64 0))) fun b32 v33 =>
  okBool (pickR (some (.v (.bool b32))) (some v33) (some (.v (.bool false)))) fun b34 =>
  RetR h K (.tup [(.v (.int .i64 n5)), (.v (.bool b34))]) h31)
def Tryz.r167 (G : Nat → Option AV) (a0 a1 a2 : AV) (h : AH) (K : AV → AH → Prop) : Prop :=
  okInt .i64 (aLen Tryz.prog h 188 a0) fun n0 =>
  Tryz.r167_l3_1 K h G a0 a1 a2 n0 0 n0
theorem Tryz.c167 (G : Nat → Option AV) (a0 a1 a2 : AV) (h : AH) (K : AV → AH → Prop) (hk : LowH h.length h → Tryz.r167 G a0 a1 a2 h K) : SCall Tryz.prog G 167 [a0, a1, a2] h K :=
  scall_of_rwp Tryz.tab167 [(3, [(9, (.int .i64)), (10, (.int .i64))], [0, 1, 2, 8])] Tryz.func167 rfl Tryz.ntmps167 (by kernel_rfl) (by show 3 ≤ 49; decide) (by kernel_rfl) (by kernel_rfl) hk
-- 168 (skylark/ring.ring).of$1
def Tryz.r168 (G : Nat → Option AV) (a0 a1 : AV) (h : AH) (K : AV → AH → Prop) : Prop :=
  onlyB (AV.one a0) (newO (.cells 264 (AV.cells a0).length [AV.cells a0] 0) h fun i0 h1 =>
  okInt .u64 (aLoad Tryz.prog h1 105 (.ptr i0 0 0 0)) fun n2 =>
  okInt .u64 (some a1) fun n3 =>
  callR Tryz.prog G 169 [(.v (.int .u64 n2)), (.v (.int .u64 n3))] h1 (fun v4 h5 =>
  okInt .i64 (some v4) fun n6 =>
  RetR h K (.v (.int .i64 n6)) h5))
theorem Tryz.c168 (G : Nat → Option AV) (a0 a1 : AV) (h : AH) (K : AV → AH → Prop) (hk : LowH h.length h → Tryz.r168 G a0 a1 h K) : SCall Tryz.prog G 168 [a0, a1] h K :=
  scall_of_rwp Tryz.tab168 [] Tryz.func168 rfl Tryz.ntmps168 (by kernel_rfl) (by show 2 ≤ 9; decide) (by kernel_rfl) (by kernel_rfl) hk
-- 169 cmp.Compare[uint64]
def Tryz.r169 (G : Nat → Option AV) (a0 a1 : AV) (h : AH) (K : AV → AH → Prop) : Prop :=
  okInt .u64 (some a0) fun n0 =>
  callR Tryz.prog G 211 [(.v (.int .u64 n0))] h (fun v1 h2 =>
  okBool (some v1) fun b3 =>
  okInt .u64 (some a1) fun n4 =>
  callR Tryz.prog G 211 [(.v (.int .u64 n4))] h2 (fun v5 h6 =>
  okBool (some v5) fun b7 =>
  condB b3
  (condB b7
  (RetR h K (.v (.int .i64 0)) h6)
  (RetR h K (.v (.int .i64 (-1))) h6))
  (condB b7
  (RetR h K (.v (.int .i64 1)) h6)
  (okInt .u64 (some a0) fun n8 =>
  okInt .u64 (some a1) fun n9 =>
  condB (decide (n8 < n9))
  (RetR h K (.v (.int .i64 (-1))) h6)
  (okInt .u64 (some a0) fun n10 =>
  okInt .u64 (some a1) fun n11 =>
  condB (decide (n10 > n11))
  (RetR h K (.v (.int .i64 1)) h6)
  (RetR h K (.v (.int .i64 0)) h6))))))
theorem Tryz.c169 (G : Nat → Option AV) (a0 a1 : AV) (h : AH) (K : AV → AH → Prop) (hk : LowH h.length h → Tryz.r169 G a0 a1 h K) : SCall Tryz.prog G 169 [a0, a1] h K :=
  scall_of_rwp Tryz.tab169 [] Tryz.func169 rfl Tryz.ntmps169 (by kernel_rfl) (by show 2 ≤ 20; decide) (by kernel_rfl) (by kernel_rfl) hk
-- 170 skylark/code.unlow[uint64]
def Tryz.r170_l2_1 (K : AV → AH → Prop) (h : AH) (a0 : AV) (n11 : Int) (n12 : Int) : Prop :=
  ∃ (I1 : Nat → List AV → AH → Prop) (m2 : Nat), I1 m2 [(.v (.int .u64 n11)), (.v (.int .i64 n12))] h ∧ ∀ (m3 : Nat) (h4 : AH), h.length ≤ h4.length → LowH h4.length h4 → ∀ (n5 : Int) (n6 : Int), I1 m3 [(.v (.int .u64 n5)), (.v (.int .i64 n6))] h4 →
  condB (decide (n6 ≥ 0))
  (okInt .u64 (aBin Tryz.prog .shl 105 (.v (.int .u64 n5)) (.v (.int .u64 8))) fun n7 =>
  okStr (some a0) fun s8 =>
  okInt .u8 (aIndex Tryz.prog 9 (.v (.string s8)) (.v (.int .i64 n6))) fun n9 =>
  okInt .u64 (aBin Tryz.prog .or 105 (.v (.int .u64 n7)) (.v (.int .u64 (IntKind.wrap .u64 n9)))) fun n10 =>
  nextR h I1 m3 [some a0] [some a0] [(.v (.int .u64 n10)), (.v (.int .i64 (IntKind.wrap .i64 (n6 - 1))))] h4)
  (RetR h K (.v (.int .u64 n5)) h4)
def Tryz.r170 (a0 : AV) (h : AH) (K : AV → AH → Prop) : Prop :=
  okStr (some a0) fun s0 =>
  Tryz.r170_l2_1 K h a0 0 (IntKind.wrap .i64 (((ByteArray.size s0 : Nat) : Int) - 1))
theorem Tryz.c170 (G : Nat → Option AV) (a0 : AV) (h : AH) (K : AV → AH → Prop) (hk : LowH h.length h → Tryz.r170 a0 h K) : SCall Tryz.prog G 170 [a0] h K :=
  scall_of_rwp Tryz.tab170 [(2, [(2, (.int .u64)), (3, (.int .i64))], [0])] Tryz.func170 rfl Tryz.ntmps170 (by kernel_rfl) (by show 1 ≤ 19; decide) (by kernel_rfl) (by kernel_rfl) hk
-- 171 (*skylark/op.reader).field
def Tryz.r171 (G : Nat → Option AV) (a0 a1 : AV) (h : AH) (K : AV → AH → Prop) : Prop :=
  newO (.cells 70 3 [[(.v (.bool false)), (.v (.int .i64 0)), (.v (.string (ByteArray.mk #[])))]] 0) h fun i0 h1 =>
  okV (aNil a0) fun v2 =>
  okV (aFA Tryz.prog 199 0 v2) fun v3 =>
  okV (aLoad Tryz.prog h1 71 v3) fun v4 =>
  okInt .i64 (aLen Tryz.prog h1 71 v4) fun n5 =>
  rGq (n5 == 0) false (some a0) fun b6 v7 =>
  rGq b6 false (aNil v7) fun b8 v9 =>
  rGq b8 false (aFA Tryz.prog 199 0 v9) fun b10 v11 =>
  rGq b10 false (aLoad Tryz.prog h1 71 v11) fun b12 v13 =>
  rGq b12 false (aIA Tryz.prog h1 71 v13 (.v (.int .i64 0))) fun b14 v15 =>
  rGq b14 false (aFA Tryz.prog 70 0 v15) fun b16 v17 =>
  rGq b16 false (aLoad Tryz.prog h1 4 v17) fun b18 v19 =>
  rGq b18 false (some a1) fun b20 v21 =>
  rGq b20 false (aBin Tryz.prog .neq 4 v19 v21) fun b22 v23 =>
  okBool (pickR (some (.v (.bool b22))) (some (.v (.bool true))) (some v23)) fun b24 =>
  rGq b24 false (some a0) fun b25 v26 =>
  rGq b25 false (aNil v26) fun b27 v28 =>
  rGq b27 false (aFA Tryz.prog 199 0 v28) fun b29 v30 =>
  rGq b29 false (aLoad Tryz.prog h1 71 v30) fun b31 v32 =>
  rGq b31 false (aIA Tryz.prog h1 71 v32 (.v (.int .i64 0))) fun b33 v34 =>
  rGq b33 false (aFA Tryz.prog 70 1 v34) fun b35 v36 =>
  rGq b35 false (aLoad Tryz.prog h1 2 v36) fun b37 v38 =>
  rGe b37 false (fun k39 => callR Tryz.prog G 155 [v38, (.v (.int .i64 0)), (.v (.int .i64 1099511627776))] h1 (fun v40 h41 =>
  k39 v40 h41)) h1 fun b42 v43 h44 =>
  rGq b42 false (aUn .not v43) fun b45 v46 =>
  okBool (pickR (some (.v (.bool b45))) (some (.v (.bool true))) (some v46)) fun b47 =>
  condB b47
  (okV (aNil a0) fun v48 =>
  okV (aFA Tryz.prog 199 1 v48) fun v49 =>
  storeR Tryz.prog h44 (fun v50 h51 =>
  okV (aNil a0) fun v52 =>
  okV (aFA Tryz.prog 199 0 v52) fun v53 =>
  storeR Tryz.prog h51 (fun v54 h55 =>
  okV (aLoad Tryz.prog h55 70 (.ptr i0 0 0 0)) fun v56 =>
  storeR Tryz.prog h55 (fun v57 h58 =>
  okV (aLoad Tryz.prog h58 70 (.ptr i0 0 0 0)) fun v59 =>
  RetR h K v59 h58) 70 v56 (.ptr i0 0 0 0)) 71 (.v (.slice none 0 0)) v53) 4 (.v (.bool false)) v49)
  (okV (aNil a0) fun v60 =>
  okV (aFA Tryz.prog 199 0 v60) fun v61 =>
  okV (aLoad Tryz.prog h44 71 v61) fun v62 =>
  okV (aIA Tryz.prog h44 71 v62 (.v (.int .i64 0))) fun v63 =>
  okV (aLoad Tryz.prog h44 70 v63) fun v64 =>
  okV (aNil a0) fun v65 =>
  okV (aFA Tryz.prog 199 0 v65) fun v66 =>
  okV (aLoad Tryz.prog h44 71 v66) fun v67 =>
  okV (aSlice Tryz.prog h44 71 v67 (some (some (.v (.int .i64 1)))) none none) fun v68 =>
  storeR Tryz.prog h44 (fun v69 h70 =>
  (aSlice Tryz.prog h70 71 v67 (some (some (.v (.int .i64 1)))) none none = some v68) ∧ (aLoad Tryz.prog h70 71 v66 = some v67) ∧ okV (aNil a0) fun v71 =>
  okV (aFA Tryz.prog 199 0 v71) fun v72 =>
  storeR Tryz.prog h70 (fun v73 h74 =>
  okV (aLoad Tryz.prog h74 70 (.ptr i0 0 0 0)) fun v75 =>
  storeR Tryz.prog h74 (fun v76 h77 =>
  okV (aLoad Tryz.prog h77 70 (.ptr i0 0 0 0)) fun v78 =>
  RetR h K v78 h77) 70 v75 (.ptr i0 0 0 0)) 71 v68 v72) 70 v64 (.ptr i0 0 0 0))
theorem Tryz.c171 (G : Nat → Option AV) (a0 a1 : AV) (h : AH) (K : AV → AH → Prop) (hk : LowH h.length h → Tryz.r171 G a0 a1 h K) : SCall Tryz.prog G 171 [a0, a1] h K :=
  scall_of_rwp Tryz.tab171 [] Tryz.func171 rfl Tryz.ntmps171 (by kernel_rfl) (by show 2 ≤ 55; decide) (by kernel_rfl) (by kernel_rfl) hk
-- 177 skylark/ring.Moved
def Tryz.r177_l8_14 (K : AV → AH → Prop) (h : AH) (G : Nat → Option AV) (a2 : AV) (v2 : AV) (v6 : AV) (h11 : AH) (n13 : Int) (v32 : AV) (n33 : Int) : Prop :=
  ∃ (I14 : Nat → List AV → AH → Prop) (m15 : Nat), I14 m15 [v32, (.v (.int .i64 n33))] h11 ∧ ∀ (m16 : Nat) (h17 : AH), h11.length ≤ h17.length → LowH h17.length h17 → ∀ (v18 : AV) (n19 : Int), I14 m16 [v18, (.v (.int .i64 n19))] h17 →
  condB (decide (n19 < n13))
  (okV (aIA Tryz.prog h17 42 a2 (.v (.int .i64 n19))) fun v20 =>
  okStr (aLoad Tryz.prog h17 9 v20) fun s21 =>
  callR Tryz.prog G 100 [v2, (.v (.string s21))] h17 (fun v22 h23 =>
  okInt .i64 (some v22) fun n24 =>
  callR Tryz.prog G 100 [v6, (.v (.string s21))] h23 (fun v25 h26 =>
  okInt .i64 (some v25) fun n27 =>
  condB (n24 != n27)
  (newO (.cells 3 1 [[(.v (.int .i64 n19))]] 0) h26 fun i28 h29 =>
  appR Tryz.prog h29 31 31 v18 (.sl i28 0 0 1 none) (fun v30 h31 =>
  nextR h11 I14 m16 [some v2, some v6, some a2, some (.v (.int .i64 n13))] [some v2, some v6, some a2, some (.v (.int .i64 n13))] [v30, (.v (.int .i64 (IntKind.wrap .i64 (n19 + 1))))] h31))
  (nextR h11 I14 m16 [some v2, some v6, some a2, some (.v (.int .i64 n13))] [some v2, some v6, some a2, some (.v (.int .i64 n13))] [v18, (.v (.int .i64 (IntKind.wrap .i64 (n19 + 1))))] h26))))
  (RetR h K (.tup [v18, (.v (.int .i64 0))]) h17)
def Tryz.r177 (G : Nat → Option AV) (a0 a1 a2 : AV) (h : AH) (K : AV → AH → Prop) : Prop :=
  callR Tryz.prog G 99 [a0] h (fun v0 h1 =>
  okV (extV 0 v0) fun v2 =>
  okInt .i64 (extV 1 v0) fun n3 =>
  callR Tryz.prog G 99 [a1] h1 (fun v4 h5 =>
  okV (extV 0 v4) fun v6 =>
  okInt .i64 (extV 1 v4) fun n7 =>
  newO (.cells 24 1 [[(.v (.int .i64 n3))], [(.v (.int .i64 n7))]] 0) h5 fun i8 h9 =>
  callR Tryz.prog G 218 [(.sl i8 0 0 2 none)] h9 (fun v10 h11 =>
  okInt .i64 (some v10) fun n12 =>
  condB (n12 != 0)
  (RetR h K (.tup [(.v (.slice none 0 0)), (.v (.int .i64 n12))]) h11)
  (okInt .i64 (aLen Tryz.prog h11 42 a2) fun n13 =>
  Tryz.r177_l8_14 K h G a2 v2 v6 h11 n13 (.v (.slice none 0 0)) 0))))
theorem Tryz.c177 (G : Nat → Option AV) (a0 a1 a2 : AV) (h : AH) (K : AV → AH → Prop) (hk : LowH h.length h → Tryz.r177 G a0 a1 a2 h K) : SCall Tryz.prog G 177 [a0, a1, a2] h K :=
  scall_of_rwp Tryz.tab177 [(8, [(13, .any), (35, (.int .i64))], [8, 10, 33, 34])] Tryz.func177 rfl Tryz.ntmps177 (by kernel_rfl) (by show 3 ≤ 53; decide) (by kernel_rfl) (by kernel_rfl) hk
-- 182 skylark/op.key
def Tryz.r182 (G : Nat → Option AV) (a0 : AV) (h : AH) (K : AV → AH → Prop) : Prop :=
  okStr (some a0) fun s0 =>
  callR Tryz.prog G 155 [(.v (.int .i64 ((ByteArray.size s0 : Nat) : Int))), (.v (.int .i64 1)), (.v (.int .i64 64))] h (fun v1 h2 =>
  okBool (some v1) fun b3 =>
  RetR h K (.v (.bool b3)) h2)
theorem Tryz.c182 (G : Nat → Option AV) (a0 : AV) (h : AH) (K : AV → AH → Prop) (hk : LowH h.length h → Tryz.r182 G a0 h K) : SCall Tryz.prog G 182 [a0] h K :=
  scall_of_rwp Tryz.tab182 [] Tryz.func182 rfl Tryz.ntmps182 (by kernel_rfl) (by show 1 ≤ 6; decide) (by kernel_rfl) (by kernel_rfl) hk
-- 185 slices.IndexFunc[[]skylark/api.Row,skylark/api.Row]
def Tryz.r185_l2_1 (K : AV → AH → Prop) (h : AH) (G : Nat → Option AV) (a0 : AV) (a1 : AV) (n0 : Int) (n11 : Int) : Prop :=
  ∃ (I1 : Nat → List AV → AH → Prop) (m2 : Nat), I1 m2 [(.v (.int .i64 n11))] h ∧ ∀ (m3 : Nat) (h4 : AH), h.length ≤ h4.length → LowH h4.length h4 → ∀ (n5 : Int), I1 m3 [(.v (.int .i64 n5))] h4 →
  condB (decide (n5 < n0))
  (okV (aIA Tryz.prog h4 52 a0 (.v (.int .i64 n5))) fun v6 =>
  okV (aLoad Tryz.prog h4 202 v6) fun v7 =>
  callU Tryz.prog G h4 (fun v8 h9 =>
  okBool (some v8) fun b10 =>
  condB b10
  (RetR h K (.v (.int .i64 n5)) h9)
  (nextR h I1 m3 [some a0, some a1, some (.v (.int .i64 n0))] [some a0, some a1, some (.v (.int .i64 n0))] [(.v (.int .i64 (IntKind.wrap .i64 (n5 + 1))))] h9)) [v7] a1)
  (RetR h K (.v (.int .i64 (-1))) h4)
def Tryz.r185 (G : Nat → Option AV) (a0 a1 : AV) (h : AH) (K : AV → AH → Prop) : Prop :=
  okInt .i64 (aLen Tryz.prog h 52 a0) fun n0 =>
  Tryz.r185_l2_1 K h G a0 a1 n0 0
theorem Tryz.c185 (G : Nat → Option AV) (a0 a1 : AV) (h : AH) (K : AV → AH → Prop) (hk : LowH h.length h → Tryz.r185 G a0 a1 h K) : SCall Tryz.prog G 185 [a0, a1] h K :=
  scall_of_rwp Tryz.tab185 [(2, [(8, (.int .i64))], [0, 1, 7])] Tryz.func185 rfl Tryz.ntmps185 (by kernel_rfl) (by show 2 ≤ 19; decide) (by kernel_rfl) (by kernel_rfl) hk
-- 197 slices.ContainsFunc[[]int,int]
def Tryz.r197 (G : Nat → Option AV) (a0 a1 : AV) (h : AH) (K : AV → AH → Prop) : Prop :=
  callR Tryz.prog G 221 [a0, a1] h (fun v0 h1 =>
  okInt .i64 (some v0) fun n2 =>
  RetR h K (.v (.bool (decide (n2 ≥ 0)))) h1)
theorem Tryz.c197 (G : Nat → Option AV) (a0 a1 : AV) (h : AH) (K : AV → AH → Prop) (hk : LowH h.length h → Tryz.r197 G a0 a1 h K) : SCall Tryz.prog G 197 [a0, a1] h K :=
  scall_of_rwp Tryz.tab197 [] Tryz.func197 rfl Tryz.ntmps197 (by kernel_rfl) (by show 2 ≤ 9; decide) (by kernel_rfl) (by kernel_rfl) hk
-- 199 slices.Contains[[]int,int]
def Tryz.r199 (G : Nat → Option AV) (a0 a1 : AV) (h : AH) (K : AV → AH → Prop) : Prop :=
  okInt .i64 (some a1) fun n0 =>
  callR Tryz.prog G 222 [a0, (.v (.int .i64 n0))] h (fun v1 h2 =>
  okInt .i64 (some v1) fun n3 =>
  RetR h K (.v (.bool (decide (n3 ≥ 0)))) h2)
theorem Tryz.c199 (G : Nat → Option AV) (a0 a1 : AV) (h : AH) (K : AV → AH → Prop) (hk : LowH h.length h → Tryz.r199 G a0 a1 h K) : SCall Tryz.prog G 199 [a0, a1] h K :=
  scall_of_rwp Tryz.tab199 [] Tryz.func199 rfl Tryz.ntmps199 (by kernel_rfl) (by show 2 ≤ 9; decide) (by kernel_rfl) (by kernel_rfl) hk
-- 200 (skylark/layout.Change).To
def Tryz.r200 (G : Nat → Option AV) (a0 a1 : AV) (h : AH) (K : AV → AH → Prop) : Prop :=
  onlyB (AV.one a0) (newO (.cells 94 (AV.cells a0).length [AV.cells a0] 0) h fun i0 h1 =>
  newO (.cells 94 6 [[(.v (.int .i64 0)), (.v (.slice none 0 0)), (.v (.int .i64 0)), (.v (.slice none 0 0)), (.v (.string (ByteArray.mk #[]))), (.v (.bool false))]] 0) h1 fun i2 h3 =>
  okV (aLoad Tryz.prog h3 94 (.ptr i0 0 0 0)) fun v4 =>
  callR Tryz.prog G 107 [v4] h3 (fun v5 h6 =>
  okInt .i64 (some v5) fun n7 =>
  condB (n7 != 0)
  (storeR Tryz.prog h6 (fun v8 h9 =>
  okV (aLoad Tryz.prog h9 94 (.ptr i2 0 0 0)) fun v10 =>
  RetR h K (.tup [v10, (.v (.int .i64 n7))]) h9) 94 (.agg [(.v (.int .i64 0)), (.v (.slice none 0 0)), (.v (.int .i64 0)), (.v (.slice none 0 0)), (.v (.string (ByteArray.mk #[]))), (.v (.bool false))]) (.ptr i2 0 0 0))
  (okBool (aLoad Tryz.prog h6 4 (.ptr i0 0 0 5)) fun b11 =>
  rGq b11 false (some a1) fun b12 v13 =>
  rGq b12 false (some (.ptr i0 0 0 4)) fun b14 v15 =>
  rGq b14 false (aLoad Tryz.prog h6 9 v15) fun b16 v17 =>
  rGq b16 false (aBin Tryz.prog .lss 9 v13 v17) fun b18 v19 =>
  okBool (pickR (some (.v (.bool b18))) (some (.v (.bool true))) (some v19)) fun b20 =>
  rGq b20 false (some a1) fun b21 v22 =>
  rGq b21 false (aLen Tryz.prog h6 9 v22) fun b23 v24 =>
  rGq b23 false (aBin Tryz.prog .gtr 3 v24 (.v (.int .i64 64))) fun b25 v26 =>
  okBool (pickR (some (.v (.bool b25))) (some (.v (.bool true))) (some v26)) fun b27 =>
  condB b27
  (storeR Tryz.prog h6 (fun v28 h29 =>
  okV (aLoad Tryz.prog h29 94 (.ptr i2 0 0 0)) fun v30 =>
  RetR h K (.tup [v30, (.v (.int .i64 1))]) h29) 94 (.agg [(.v (.int .i64 0)), (.v (.slice none 0 0)), (.v (.int .i64 0)), (.v (.slice none 0 0)), (.v (.string (ByteArray.mk #[]))), (.v (.bool false))]) (.ptr i2 0 0 0))
  (okStr (some a1) fun s31 =>
  storeR Tryz.prog h6 (fun v32 h33 =>
  okV (aLoad Tryz.prog h33 94 (.ptr i0 0 0 0)) fun v34 =>
  storeR Tryz.prog h33 (fun v35 h36 =>
  okV (aLoad Tryz.prog h36 94 (.ptr i2 0 0 0)) fun v37 =>
  RetR h K (.tup [v37, (.v (.int .i64 0))]) h36) 94 v34 (.ptr i2 0 0 0)) 9 (.v (.string s31)) (.ptr i0 0 0 4)))))
theorem Tryz.c200 (G : Nat → Option AV) (a0 a1 : AV) (h : AH) (K : AV → AH → Prop) (hk : LowH h.length h → Tryz.r200 G a0 a1 h K) : SCall Tryz.prog G 200 [a0, a1] h K :=
  scall_of_rwp Tryz.tab200 [] Tryz.func200 rfl Tryz.ntmps200 (by kernel_rfl) (by show 2 ≤ 30; decide) (by kernel_rfl) (by kernel_rfl) hk
-- 202 skylark/skylarkref06.Hash
def Tryz.r202_l3_0 (K : AV → AH → Prop) (h : AH) (a0 : AV) (n14 : Int) (n15 : Int) : Prop :=
  ∃ (I0 : Nat → List AV → AH → Prop) (m1 : Nat), I0 m1 [(.v (.int .u64 n14)), (.v (.int .i64 n15))] h ∧ ∀ (m2 : Nat) (h3 : AH), h.length ≤ h3.length → LowH h3.length h3 → ∀ (n4 : Int) (n5 : Int), I0 m2 [(.v (.int .u64 n4)), (.v (.int .i64 n5))] h3 →
  okStr (some a0) fun s6 =>
  condB (decide (n5 < ((ByteArray.size s6 : Nat) : Int)))
  (okStr (some a0) fun s7 =>
  okInt .u8 (aIndex Tryz.prog 9 (.v (.string s7)) (.v (.int .i64 n5))) fun n8 =>
  okInt .u64 (aBin Tryz.prog .xor 105 (.v (.int .u64 n4)) (.v (.int .u64 (IntKind.wrap .u64 n8)))) fun n9 =>
  nextR h I0 m2 [some a0] [some a0] [(.v (.int .u64 (IntKind.wrap .u64 (n9 * 1099511628211)))), (.v (.int .i64 (IntKind.wrap .i64 (n5 + 1))))] h3)
  (okInt .u64 (aBin Tryz.prog .shr 105 (.v (.int .u64 n4)) (.v (.int .u64 33))) fun n10 =>
  okInt .u64 (aBin Tryz.prog .xor 105 (.v (.int .u64 n4)) (.v (.int .u64 n10))) fun n11 =>
  okInt .u64 (aBin Tryz.prog .shr 105 (.v (.int .u64 (IntKind.wrap .u64 (n11 * 18397679294719823053)))) (.v (.int .u64 33))) fun n12 =>
  okInt .u64 (aBin Tryz.prog .xor 105 (.v (.int .u64 (IntKind.wrap .u64 (n11 * 18397679294719823053)))) (.v (.int .u64 n12))) fun n13 =>
  RetR h K (.v (.int .u64 n13)) h3)
def Tryz.r202 (a0 : AV) (h : AH) (K : AV → AH → Prop) : Prop :=
  Tryz.r202_l3_0 K h a0 14695981039346656037 0
theorem Tryz.c202 (G : Nat → Option AV) (a0 : AV) (h : AH) (K : AV → AH → Prop) (hk : LowH h.length h → Tryz.r202 a0 h K) : SCall Tryz.prog G 202 [a0] h K :=
  scall_of_rwp Tryz.tab202 [(3, [(3, (.int .u64)), (4, (.int .i64))], [0])] Tryz.func202 rfl Tryz.ntmps202 (by kernel_rfl) (by show 1 ≤ 27; decide) (by kernel_rfl) (by kernel_rfl) hk
-- 203 skylark/skylarkref06.Digits
def Tryz.r203_l2_1 (h : AH) (K : AV → AH → Prop) (n11 : Int) (s12 : ByteArray) : Prop :=
  ∃ (I1 : Nat → List AV → AH → Prop) (m2 : Nat), I1 m2 [(.v (.int .i64 n11)), (.v (.string s12))] h ∧ ∀ (m3 : Nat) (h4 : AH), h.length ≤ h4.length → LowH h4.length h4 → ∀ (n5 : Int) (s6 : ByteArray), I1 m3 [(.v (.int .i64 n5)), (.v (.string s6))] h4 →
  newO (.cells 5 1 [[(.v (.int .u8 (IntKind.wrap .u8 (IntKind.wrap .i64 (48 + (Int.tmod n5 10))))))]] 0) h4 fun i7 h8 =>
  okStr (aConv Tryz.prog h8 184 9 (.sl i7 0 0 1 none)) fun s9 =>
  okStr (aBin Tryz.prog .add 9 (.v (.string s9)) (.v (.string s6))) fun s10 =>
  condB ((IntKind.wrap .i64 (Int.tdiv n5 10)) == 0)
  (RetR h K (.v (.string s10)) h8)
  (nextR h I1 m3 [] [] [(.v (.int .i64 (IntKind.wrap .i64 (Int.tdiv n5 10)))), (.v (.string s10))] h8)
def Tryz.r203 (a0 : AV) (h : AH) (K : AV → AH → Prop) : Prop :=
  okInt .i64 (some a0) fun n0 =>
  Tryz.r203_l2_1 h K n0 (ByteArray.mk #[])
theorem Tryz.c203 (G : Nat → Option AV) (a0 : AV) (h : AH) (K : AV → AH → Prop) (hk : LowH h.length h → Tryz.r203 a0 h K) : SCall Tryz.prog G 203 [a0] h K :=
  scall_of_rwp Tryz.tab203 [(2, [(0, (.int .i64)), (3, .str)], [])] Tryz.func203 rfl Tryz.ntmps203 (by kernel_rfl) (by show 1 ≤ 17; decide) (by kernel_rfl) (by kernel_rfl) hk
-- 204 slices.ContainsFunc[[]skylark/api.Result,skylark/api.Result]
def Tryz.r204 (G : Nat → Option AV) (a0 a1 : AV) (h : AH) (K : AV → AH → Prop) : Prop :=
  callR Tryz.prog G 223 [a0, a1] h (fun v0 h1 =>
  okInt .i64 (some v0) fun n2 =>
  RetR h K (.v (.bool (decide (n2 ≥ 0)))) h1)
theorem Tryz.c204 (G : Nat → Option AV) (a0 a1 : AV) (h : AH) (K : AV → AH → Prop) (hk : LowH h.length h → Tryz.r204 G a0 a1 h K) : SCall Tryz.prog G 204 [a0, a1] h K :=
  scall_of_rwp Tryz.tab204 [] Tryz.func204 rfl Tryz.ntmps204 (by kernel_rfl) (by show 2 ≤ 9; decide) (by kernel_rfl) (by kernel_rfl) hk
-- 205 skylark/op.reply$1
def Tryz.r205 (G : Nat → Option AV) (a0 : AV) (h : AH) (K : AV → AH → Prop) : Prop :=
  onlyB (AV.one a0) (newO (.cells 54 (AV.cells a0).length [AV.cells a0] 0) h fun i0 h1 =>
  okV (aLoad Tryz.prog h1 54 (.ptr i0 0 0 0)) fun v2 =>
  callR Tryz.prog G 206 [v2] h1 (fun v3 h4 =>
  okBool (some v3) fun b5 =>
  RetR h K (.v (.bool (!b5))) h4))
theorem Tryz.c205 (G : Nat → Option AV) (a0 : AV) (h : AH) (K : AV → AH → Prop) (hk : LowH h.length h → Tryz.r205 G a0 h K) : SCall Tryz.prog G 205 [a0] h K :=
  scall_of_rwp Tryz.tab205 [] Tryz.func205 rfl Tryz.ntmps205 (by kernel_rfl) (by show 1 ≤ 6; decide) (by kernel_rfl) (by kernel_rfl) hk
-- 206 skylark/op.result
def Tryz.r206 (G : Nat → Option AV) (a0 : AV) (h : AH) (K : AV → AH → Prop) : Prop :=
  onlyB (AV.one a0) (newO (.cells 54 (AV.cells a0).length [AV.cells a0] 0) h fun i0 h1 =>
  okV (aLoad Tryz.prog h1 52 (.ptr i0 0 0 3)) fun v2 =>
  callR Tryz.prog G 126 [v2, (.fn (.func 224) [] [])] h1 (fun v3 h4 =>
  okBool (some v3) fun b5 =>
  rGq (!b5) true (some (.ptr i0 0 0 0)) fun b6 v7 =>
  rGq b6 true (aLoad Tryz.prog h4 24 v7) fun b8 v9 =>
  rGe b8 true (fun k10 => callR Tryz.prog G 155 [v9, (.v (.int .i64 0)), (.v (.int .i64 300))] h4 (fun v11 h12 =>
  k10 v11 h12)) h4 fun b13 v14 h15 =>
  okBool (pickR (some (.v (.bool b13))) (some v14) (some (.v (.bool false)))) fun b16 =>
  rGq b16 true (some (.ptr i0 0 0 1)) fun b17 v18 =>
  rGq b17 true (aLoad Tryz.prog h15 3 v18) fun b19 v20 =>
  rGe b19 true (fun k21 => callR Tryz.prog G 155 [v20, (.v (.int .i64 0)), (.v (.int .i64 1099511627776))] h15 (fun v22 h23 =>
  k21 v22 h23)) h15 fun b24 v25 h26 =>
  okBool (pickR (some (.v (.bool b24))) (some v25) (some (.v (.bool false)))) fun b27 =>
  rGq b27 true (some (.ptr i0 0 0 2)) fun b28 v29 =>
  rGq b28 true (aLoad Tryz.prog h26 9 v29) fun b30 v31 =>
  rGq b30 true (aLen Tryz.prog h26 9 v31) fun b32 v33 =>
  rGq b32 true (aBin Tryz.prog .leq 3 v33 (.v (.int .i64 8192))) fun b34 v35 =>
  okBool (pickR (some (.v (.bool b34))) (some v35) (some (.v (.bool false)))) fun b36 =>
  rGq b36 true (some (.ptr i0 0 0 3)) fun b37 v38 =>
  rGq b37 true (aLoad Tryz.prog h26 52 v38) fun b39 v40 =>
  rGq b39 true (aLen Tryz.prog h26 52 v40) fun b41 v42 =>
  rGq b41 true (aBin Tryz.prog .leq 3 v42 (.v (.int .i64 100))) fun b43 v44 =>
  okBool (pickR (some (.v (.bool b43))) (some v44) (some (.v (.bool false)))) fun b45 =>
  RetR h K (.v (.bool b45)) h26))
theorem Tryz.c206 (G : Nat → Option AV) (a0 : AV) (h : AH) (K : AV → AH → Prop) (hk : LowH h.length h → Tryz.r206 G a0 h K) : SCall Tryz.prog G 206 [a0] h K :=
  scall_of_rwp Tryz.tab206 [] Tryz.func206 rfl Tryz.ntmps206 (by kernel_rfl) (by show 1 ≤ 31; decide) (by kernel_rfl) (by kernel_rfl) hk
-- 207 (skylark/code.little[uint64]).onto
def Tryz.r207_l2_3 (K : AV → AH → Prop) (h : AH) (i0 : Nat) (h1 : AH) (n2 : Int) (v18 : AV) (n19 : Int) : Prop :=
  ∃ (I3 : Nat → List AV → AH → Prop) (m4 : Nat), I3 m4 [v18, (.v (.int .i64 n19))] h1 ∧ ∀ (m5 : Nat) (h6 : AH), h1.length ≤ h6.length → LowH h6.length h6 → ∀ (v7 : AV) (n8 : Int), I3 m5 [v7, (.v (.int .i64 n8))] h6 →
  condB (decide (n8 < n2))
  (okInt .u64 (aLoad Tryz.prog h6 105 (.ptr i0 0 0 0)) fun n9 =>
  newO (.cells 5 1 [[(.v (.int .u8 (IntKind.wrap .u8 n9)))]] 0) h6 fun i10 h11 =>
  appR Tryz.prog h11 184 184 v7 (.sl i10 0 0 1 none) (fun v12 h13 =>
  okInt .u64 (aLoad Tryz.prog h13 105 (.ptr i0 0 0 0)) fun n14 =>
  okInt .u64 (aBin Tryz.prog .shr 105 (.v (.int .u64 n14)) (.v (.int .u64 8))) fun n15 =>
  storeR Tryz.prog h13 (fun v16 h17 =>
  nextR h1 I3 m5 [some (.ptr i0 0 0 0), some (.v (.int .i64 n2))] [some (.ptr i0 0 0 0), some (.v (.int .i64 n2))] [v12, (.v (.int .i64 (IntKind.wrap .i64 (n8 + 1))))] h17) 105 (.v (.int .u64 n15)) (.ptr i0 0 0 0)))
  (RetR h K v7 h6)
def Tryz.r207 (a0 a1 : AV) (h : AH) (K : AV → AH → Prop) : Prop :=
  onlyB (AV.one a0) (newO (.cells 301 (AV.cells a0).length [AV.cells a0] 0) h fun i0 h1 =>
  okInt .i64 (aLoad Tryz.prog h1 3 (.ptr i0 0 0 1)) fun n2 =>
  Tryz.r207_l2_3 K h i0 h1 n2 a1 0)
theorem Tryz.c207 (G : Nat → Option AV) (a0 a1 : AV) (h : AH) (K : AV → AH → Prop) (hk : LowH h.length h → Tryz.r207 a0 a1 h K) : SCall Tryz.prog G 207 [a0, a1] h K :=
  scall_of_rwp Tryz.tab207 [(2, [(1, .any), (7, (.int .i64))], [2, 6])] Tryz.func207 rfl Tryz.ntmps207 (by kernel_rfl) (by show 2 ≤ 21; decide) (by kernel_rfl) (by kernel_rfl) hk
-- 209 slices.SortFunc[skylark/ring.ring,skylark/ring.point]
def Tryz.r209 (G : Nat → Option AV) (a0 a1 : AV) (h : AH) (K : AV → AH → Prop) : Prop :=
  okInt .i64 (aLen Tryz.prog h 188 a0) fun n0 =>
  callR Tryz.prog G 227 [(.v (.int .u64 (IntKind.wrap .u64 n0)))] h (fun v1 h2 =>
  okInt .i64 (some v1) fun n3 =>
  callR Tryz.prog G 226 [a0, (.v (.int .i64 0)), (.v (.int .i64 n0)), (.v (.int .i64 n3)), a1] h2 (fun v4 h5 =>
  RetR h K (.tup []) h5))
theorem Tryz.c209 (G : Nat → Option AV) (a0 a1 : AV) (h : AH) (K : AV → AH → Prop) (hk : LowH h.length h → Tryz.r209 G a0 a1 h K) : SCall Tryz.prog G 209 [a0, a1] h K :=
  scall_of_rwp Tryz.tab209 [] Tryz.func209 rfl Tryz.ntmps209 (by kernel_rfl) (by show 2 ≤ 14; decide) (by kernel_rfl) (by kernel_rfl) hk
-- 210 cmp.Compare[int]
def Tryz.r210 (G : Nat → Option AV) (a0 a1 : AV) (h : AH) (K : AV → AH → Prop) : Prop :=
  okInt .i64 (some a0) fun n0 =>
  callR Tryz.prog G 228 [(.v (.int .i64 n0))] h (fun v1 h2 =>
  okBool (some v1) fun b3 =>
  okInt .i64 (some a1) fun n4 =>
  callR Tryz.prog G 228 [(.v (.int .i64 n4))] h2 (fun v5 h6 =>
  okBool (some v5) fun b7 =>
  condB b3
  (condB b7
  (RetR h K (.v (.int .i64 0)) h6)
  (RetR h K (.v (.int .i64 (-1))) h6))
  (condB b7
  (RetR h K (.v (.int .i64 1)) h6)
  (okInt .i64 (some a0) fun n8 =>
  okInt .i64 (some a1) fun n9 =>
  condB (decide (n8 < n9))
  (RetR h K (.v (.int .i64 (-1))) h6)
  (okInt .i64 (some a0) fun n10 =>
  okInt .i64 (some a1) fun n11 =>
  condB (decide (n10 > n11))
  (RetR h K (.v (.int .i64 1)) h6)
  (RetR h K (.v (.int .i64 0)) h6))))))
theorem Tryz.c210 (G : Nat → Option AV) (a0 a1 : AV) (h : AH) (K : AV → AH → Prop) (hk : LowH h.length h → Tryz.r210 G a0 a1 h K) : SCall Tryz.prog G 210 [a0, a1] h K :=
  scall_of_rwp Tryz.tab210 [] Tryz.func210 rfl Tryz.ntmps210 (by kernel_rfl) (by show 2 ≤ 20; decide) (by kernel_rfl) (by kernel_rfl) hk
-- 211 cmp.isNaN[uint64]
def Tryz.r211 (a0 : AV) (h : AH) (K : AV → AH → Prop) : Prop :=
  okInt .u64 (some a0) fun n0 =>
  okInt .u64 (some a0) fun n1 =>
  RetR h K (.v (.bool (n0 != n1))) h
theorem Tryz.c211 (G : Nat → Option AV) (a0 : AV) (h : AH) (K : AV → AH → Prop) (hk : LowH h.length h → Tryz.r211 a0 h K) : SCall Tryz.prog G 211 [a0] h K :=
  scall_of_rwp Tryz.tab211 [] Tryz.func211 rfl Tryz.ntmps211 (by kernel_rfl) (by show 1 ≤ 6; decide) (by kernel_rfl) (by kernel_rfl) hk
-- 218 cmp.Or[skylark/api.Errno]
def Tryz.r218_l3_1 (K : AV → AH → Prop) (h : AH) (a0 : AV) (n0 : Int) (n8 : Int) : Prop :=
  ∃ (I1 : Nat → List AV → AH → Prop) (m2 : Nat), I1 m2 [(.v (.int .i64 n8))] h ∧ ∀ (m3 : Nat) (h4 : AH), h.length ≤ h4.length → LowH h4.length h4 → ∀ (n5 : Int), I1 m3 [(.v (.int .i64 n5))] h4 →
  condB (decide (n5 < n0))
  (okV (aIA Tryz.prog h4 317 a0 (.v (.int .i64 n5))) fun v6 =>
  okInt .i64 (aLoad Tryz.prog h4 24 v6) fun n7 =>
  condB (n7 != 0)
  (RetR h K (.v (.int .i64 n7)) h4)
  (nextR h I1 m3 [some (.v (.int .i64 0)), some a0, some (.v (.int .i64 n0))] [some (.v (.int .i64 0)), some a0, some (.v (.int .i64 n0))] [(.v (.int .i64 (IntKind.wrap .i64 (n5 + 1))))] h4))
  (RetR h K (.v (.int .i64 0)) h4)
def Tryz.r218 (a0 : AV) (h : AH) (K : AV → AH → Prop) : Prop :=
  okInt .i64 (aLen Tryz.prog h 317 a0) fun n0 =>
  Tryz.r218_l3_1 K h a0 n0 0
theorem Tryz.c218 (G : Nat → Option AV) (a0 : AV) (h : AH) (K : AV → AH → Prop) (hk : LowH h.length h → Tryz.r218 a0 h K) : SCall Tryz.prog G 218 [a0] h K :=
  scall_of_rwp Tryz.tab218 [(3, [(8, (.int .i64))], [3, 6, 7])] Tryz.func218 rfl Tryz.ntmps218 (by kernel_rfl) (by show 1 ≤ 18; decide) (by kernel_rfl) (by kernel_rfl) hk
-- 221 slices.IndexFunc[[]int,int]
def Tryz.r221_l2_1 (K : AV → AH → Prop) (h : AH) (G : Nat → Option AV) (a0 : AV) (a1 : AV) (n0 : Int) (n11 : Int) : Prop :=
  ∃ (I1 : Nat → List AV → AH → Prop) (m2 : Nat), I1 m2 [(.v (.int .i64 n11))] h ∧ ∀ (m3 : Nat) (h4 : AH), h.length ≤ h4.length → LowH h4.length h4 → ∀ (n5 : Int), I1 m3 [(.v (.int .i64 n5))] h4 →
  condB (decide (n5 < n0))
  (okV (aIA Tryz.prog h4 31 a0 (.v (.int .i64 n5))) fun v6 =>
  okInt .i64 (aLoad Tryz.prog h4 3 v6) fun n7 =>
  callU Tryz.prog G h4 (fun v8 h9 =>
  okBool (some v8) fun b10 =>
  condB b10
  (RetR h K (.v (.int .i64 n5)) h9)
  (nextR h I1 m3 [some a0, some a1, some (.v (.int .i64 n0))] [some a0, some a1, some (.v (.int .i64 n0))] [(.v (.int .i64 (IntKind.wrap .i64 (n5 + 1))))] h9)) [(.v (.int .i64 n7))] a1)
  (RetR h K (.v (.int .i64 (-1))) h4)
def Tryz.r221 (G : Nat → Option AV) (a0 a1 : AV) (h : AH) (K : AV → AH → Prop) : Prop :=
  okInt .i64 (aLen Tryz.prog h 31 a0) fun n0 =>
  Tryz.r221_l2_1 K h G a0 a1 n0 0
theorem Tryz.c221 (G : Nat → Option AV) (a0 a1 : AV) (h : AH) (K : AV → AH → Prop) (hk : LowH h.length h → Tryz.r221 G a0 a1 h K) : SCall Tryz.prog G 221 [a0, a1] h K :=
  scall_of_rwp Tryz.tab221 [(2, [(8, (.int .i64))], [0, 1, 7])] Tryz.func221 rfl Tryz.ntmps221 (by kernel_rfl) (by show 2 ≤ 19; decide) (by kernel_rfl) (by kernel_rfl) hk
-- 222 slices.Index[[]int,int]
def Tryz.r222_l2_1 (K : AV → AH → Prop) (h : AH) (a0 : AV) (a1 : AV) (n0 : Int) (n9 : Int) : Prop :=
  ∃ (I1 : Nat → List AV → AH → Prop) (m2 : Nat), I1 m2 [(.v (.int .i64 n9))] h ∧ ∀ (m3 : Nat) (h4 : AH), h.length ≤ h4.length → LowH h4.length h4 → ∀ (n5 : Int), I1 m3 [(.v (.int .i64 n5))] h4 →
  condB (decide (n5 < n0))
  (okInt .i64 (some a1) fun n6 =>
  okV (aIA Tryz.prog h4 31 a0 (.v (.int .i64 n5))) fun v7 =>
  okInt .i64 (aLoad Tryz.prog h4 3 v7) fun n8 =>
  condB (n6 == n8)
  (RetR h K (.v (.int .i64 n5)) h4)
  (nextR h I1 m3 [some a0, some a1, some (.v (.int .i64 n0))] [some a0, some a1, some (.v (.int .i64 n0))] [(.v (.int .i64 (IntKind.wrap .i64 (n5 + 1))))] h4))
  (RetR h K (.v (.int .i64 (-1))) h4)
def Tryz.r222 (a0 a1 : AV) (h : AH) (K : AV → AH → Prop) : Prop :=
  okInt .i64 (aLen Tryz.prog h 31 a0) fun n0 =>
  Tryz.r222_l2_1 K h a0 a1 n0 0
theorem Tryz.c222 (G : Nat → Option AV) (a0 a1 : AV) (h : AH) (K : AV → AH → Prop) (hk : LowH h.length h → Tryz.r222 a0 a1 h K) : SCall Tryz.prog G 222 [a0, a1] h K :=
  scall_of_rwp Tryz.tab222 [(2, [(8, (.int .i64))], [0, 1, 7])] Tryz.func222 rfl Tryz.ntmps222 (by kernel_rfl) (by show 2 ≤ 19; decide) (by kernel_rfl) (by kernel_rfl) hk
-- 223 slices.IndexFunc[[]skylark/api.Result,skylark/api.Result]
def Tryz.r223_l2_1 (K : AV → AH → Prop) (h : AH) (G : Nat → Option AV) (a0 : AV) (a1 : AV) (n0 : Int) (n11 : Int) : Prop :=
  ∃ (I1 : Nat → List AV → AH → Prop) (m2 : Nat), I1 m2 [(.v (.int .i64 n11))] h ∧ ∀ (m3 : Nat) (h4 : AH), h.length ≤ h4.length → LowH h4.length h4 → ∀ (n5 : Int), I1 m3 [(.v (.int .i64 n5))] h4 →
  condB (decide (n5 < n0))
  (okV (aIA Tryz.prog h4 55 a0 (.v (.int .i64 n5))) fun v6 =>
  okV (aLoad Tryz.prog h4 54 v6) fun v7 =>
  callU Tryz.prog G h4 (fun v8 h9 =>
  okBool (some v8) fun b10 =>
  condB b10
  (RetR h K (.v (.int .i64 n5)) h9)
  (nextR h I1 m3 [some a0, some a1, some (.v (.int .i64 n0))] [some a0, some a1, some (.v (.int .i64 n0))] [(.v (.int .i64 (IntKind.wrap .i64 (n5 + 1))))] h9)) [v7] a1)
  (RetR h K (.v (.int .i64 (-1))) h4)
def Tryz.r223 (G : Nat → Option AV) (a0 a1 : AV) (h : AH) (K : AV → AH → Prop) : Prop :=
  okInt .i64 (aLen Tryz.prog h 55 a0) fun n0 =>
  Tryz.r223_l2_1 K h G a0 a1 n0 0
theorem Tryz.c223 (G : Nat → Option AV) (a0 a1 : AV) (h : AH) (K : AV → AH → Prop) (hk : LowH h.length h → Tryz.r223 G a0 a1 h K) : SCall Tryz.prog G 223 [a0, a1] h K :=
  scall_of_rwp Tryz.tab223 [(2, [(8, (.int .i64))], [0, 1, 7])] Tryz.func223 rfl Tryz.ntmps223 (by kernel_rfl) (by show 2 ≤ 19; decide) (by kernel_rfl) (by kernel_rfl) hk
-- 228 cmp.isNaN[int]
def Tryz.r228 (a0 : AV) (h : AH) (K : AV → AH → Prop) : Prop :=
  okInt .i64 (some a0) fun n0 =>
  okInt .i64 (some a0) fun n1 =>
  RetR h K (.v (.bool (n0 != n1))) h
theorem Tryz.c228 (G : Nat → Option AV) (a0 : AV) (h : AH) (K : AV → AH → Prop) (hk : LowH h.length h → Tryz.r228 a0 h K) : SCall Tryz.prog G 228 [a0] h K :=
  scall_of_rwp Tryz.tab228 [] Tryz.func228 rfl Tryz.ntmps228 (by kernel_rfl) (by show 1 ≤ 6; decide) (by kernel_rfl) (by kernel_rfl) hk
end Go.Proofs


