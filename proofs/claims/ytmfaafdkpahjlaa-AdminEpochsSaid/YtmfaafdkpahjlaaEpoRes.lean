/-
  Of each function its body as a plain statement, and that a call follows from it: printed by wip/gen/Res.lean.
-/
import Derived.Test.YtmfaafdkpahjlaaEpoFn
import Derived.Test.YtmfaafdkpahjlaaEpaH
import Derived.KernelRfl
set_option linter.all false
namespace Go.Proofs
open Go Go.Abs
set_option linter.unusedVariables false
set_option maxRecDepth 100000
-- 3 skylark/skylarklaw18.AdminEpochs
def Try.r3_l38_254 (K : AV → AH → Prop) (h : AH) (G : Nat → Option AV) (a1 : AV) (v6 : AV) (v18 : AV) (n19 : Int) (n30 : Int) (v31 : AV) (i55 : Nat) (h56 : AH) (n57 : Int) (I58 : Nat → List AV → AH → Prop) (m60 : Nat) (n62 : Int) (i164 : Nat) (h186 : AH) (v252 : AV) (n253 : Int) (n280 : Int) : Prop :=
  ∃ (I254 : Nat → List AV → AH → Prop) (m255 : Nat), I254 m255 [(.v (.int .i64 n280))] h186 ∧ ∀ (m256 : Nat) (h257 : AH), h186.length ≤ h257.length → LowH h257.length h257 → ∀ (n258 : Int), I254 m256 [(.v (.int .i64 n258))] h257 →
  condB (decide (n258 < n253))
  (okV (aIA Try.prog h257 31 v252 (.v (.int .i64 n258))) fun v259 =>
  okInt .i64 (aLoad Try.prog h257 3 v259) fun n260 =>
  okV (aLoad Try.prog h257 31 (.ptr i164 0 0 1)) fun v261 =>
  callR Try.prog G 13 [v261, (.v (.int .i64 n260))] h257 (fun v262 h263 =>
  okBool (some v262) fun b264 =>
  rGq (!b264) true (some (.ptr i164 0 0 2)) fun b265 v266 =>
  rGq b265 true (aLoad Try.prog h263 31 v266) fun b267 v268 =>
  rGq b267 true (some (.v (.int .i64 n260))) fun b269 v270 =>
  rGe b269 true (fun k271 => callR Try.prog G 13 [v268, v270] h263 (fun v272 h273 =>
  k271 v272 h273)) h263 fun b274 v275 h276 =>
  rGq b274 true (aUn .not v275) fun b277 v278 =>
  okBool (pickR (some (.v (.bool b277))) (some v278) (some (.v (.bool false)))) fun b279 =>
  condB b279
  (RetR h K (.v (.bool false)) h276)
  (nextR h186 I254 m256 [some a1, some v6, some v18, some (.v (.int .i64 n19)), some (.v (.int .i64 n30)), some v31, some (.mp i55), some (.ptr i164 0 0 0), some v31, some (.v (.int .i64 n57)), some (.v (.int .i64 n62)), some v252, some (.v (.int .i64 n253))] [some a1, some v6, some v18, some (.v (.int .i64 n19)), some (.v (.int .i64 n30)), some v31, some (.mp i55), some (.ptr i164 0 0 0), some v31, some (.v (.int .i64 n57)), some (.v (.int .i64 n62)), some v252, some (.v (.int .i64 n253))] [(.v (.int .i64 (IntKind.wrap .i64 (n258 + 1))))] h276)))
  (nextR h56 I58 m60 [some a1, some v6, some v18, some (.v (.int .i64 n19)), some (.v (.int .i64 n30)), some v31, some (.mp i55), some v31, some (.v (.int .i64 n57))] [some a1, some v6, some v18, some (.v (.int .i64 n19)), some (.v (.int .i64 n30)), some v31, some (.mp i55), some v31, some (.v (.int .i64 n57))] [(.v (.int .i64 (IntKind.wrap .i64 (n62 + 1))))] h257)
def Try.r3_l22_80 (G : Nat → Option AV) (h : AH) (K : AV → AH → Prop) (a1 : AV) (v6 : AV) (v18 : AV) (n19 : Int) (n30 : Int) (v31 : AV) (i55 : Nat) (h56 : AH) (n57 : Int) (I58 : Nat → List AV → AH → Prop) (m60 : Nat) (n62 : Int) (i65 : Nat) (v77 : AV) (h78 : AH) (n79 : Int) (n281 : Int) : Prop :=
  ∃ (I80 : Nat → List AV → AH → Prop) (m81 : Nat), I80 m81 [(.v (.int .i64 n281))] h78 ∧ ∀ (m82 : Nat) (h83 : AH), h78.length ≤ h83.length → LowH h83.length h83 → ∀ (n84 : Int), I80 m82 [(.v (.int .i64 n84))] h83 →
  condB (decide (n84 < n79))
  (okV (aIA Try.prog h83 31 v77 (.v (.int .i64 n84))) fun v85 =>
  okInt .i64 (aLoad Try.prog h83 3 v85) fun n86 =>
  callR Try.prog G 11 [v6, (.v (.int .i64 n86))] h83 (fun v87 h88 =>
  okInt .i64 (extV 0 v87) fun n89 =>
  okInt .i64 (extV 1 v87) fun n90 =>
  okInt .i64 (extV 2 v87) fun n91 =>
  okV (aLoad Try.prog h88 31 (.ptr i65 0 0 1)) fun v92 =>
  okInt .i64 (aLen Try.prog h88 31 v92) fun n93 =>
  rGq (n91 != 0) false (some (.v (.int .i64 n90))) fun b94 v95 =>
  rGq b94 false (some (.v (.int .i64 n62))) fun b96 v97 =>
  rGq b96 false (aBin Try.prog .neq 3 v95 v97) fun b98 v99 =>
  okBool (pickR (some (.v (.bool b98))) (some (.v (.bool true))) (some v99)) fun b100 =>
  rGq b100 false (some (.mp i55)) fun b101 v102 =>
  rGq b101 false (some (.v (.int .i64 n86))) fun b103 v104 =>
  rGq b103 false (aLookup Try.prog h88 35 false v102 v104) fun b105 v106 =>
  okBool (pickR (some (.v (.bool b105))) (some (.v (.bool true))) (some v106)) fun b107 =>
  rGq b107 false (some (.v (.bool (decide (n84 < n93))))) fun b108 v109 =>
  rGq b108 false (some v109) fun b110 v111 =>
  okG (some v111) true fun b112 g9 =>
  rGq b112 true (some (.v (.int .i64 n89))) fun b113 v114 =>
  okG (some (g9 b113)) true fun c10 g11 =>
  rGq c10 true (aBin Try.prog .neq 3 v114 (.v (.int .i64 2))) fun b115 v116 =>
  rGq b110 false (pickR (some (g11 b115)) (some v116) (some (.v (.bool false)))) fun b117 v118 =>
  rGq b117 false (some v118) fun b119 v120 =>
  okG (some v120) true fun b121 g12 =>
  rGq b121 true (some (.v (.int .i64 n89))) fun b122 v123 =>
  okG (some (g12 b122)) true fun c13 g14 =>
  rGq c13 true (aBin Try.prog .eql 3 v123 (.v (.int .i64 3))) fun b124 v125 =>
  okG (some (g14 b124)) true fun c15 g16 =>
  rGq c15 true (some v125) fun b126 v127 =>
  okG (some v127) true fun b128 g17 =>
  rGq b128 true (some (.ptr i65 0 0 1)) fun b129 v130 =>
  okG (some (g17 b129)) true fun c18 g19 =>
  rGq c18 true (aLoad Try.prog h88 31 v130) fun b131 v132 =>
  okG (some (g19 b131)) true fun c20 g21 =>
  rGq c20 true (aLen Try.prog h88 31 v132) fun b133 v134 =>
  okG (some (g21 b133)) true fun c22 g23 =>
  rGq c22 true (aBin Try.prog .eql 3 v134 (.v (.int .i64 1))) fun b135 v136 =>
  okG (some (g16 b126)) true fun c24 g25 =>
  rGq c24 true (pickR (some (g23 b135)) (some v136) (some (.v (.bool false)))) fun b137 v138 =>
  okG (some (g25 b137)) true fun c26 g27 =>
  rGq c26 true (aUn .not v138) fun b139 v140 =>
  rGq b119 false (pickR (some (g27 b139)) (some v140) (some (.v (.bool false)))) fun b141 v142 =>
  okBool (pickR (some (.v (.bool b141))) (some (.v (.bool true))) (some v142)) fun b143 =>
  rGq b143 false (some (.v (.bool (decide (n84 < n93))))) fun b144 v145 =>
  rGq b144 false (aUn .not v145) fun b146 v147 =>
  rGq b146 false (some v147) fun b148 v149 =>
  okG (some v149) true fun b150 g28 =>
  rGq b150 true (some (.v (.int .i64 n89))) fun b151 v152 =>
  okG (some (g28 b151)) true fun c29 g30 =>
  rGq c29 true (aBin Try.prog .neq 3 v152 (.v (.int .i64 1))) fun b153 v154 =>
  rGq b148 false (pickR (some (g30 b153)) (some v154) (some (.v (.bool false)))) fun b155 v156 =>
  okBool (pickR (some (.v (.bool b155))) (some (.v (.bool true))) (some v156)) fun b157 =>
  condB b157
  (RetR h K (.v (.bool false)) h88)
  (mapR Try.prog h88 (fun v158 h159 =>
  nextR h78 I80 m82 [some a1, some v6, some v18, some (.v (.int .i64 n19)), some (.v (.int .i64 n30)), some v31, some (.mp i55), some (.v (.int .i64 n62)), some (.ptr i65 0 0 0), some v31, some (.v (.int .i64 n57)), some (.v (.int .i64 n62)), some v77, some (.v (.int .i64 n79))] [some a1, some v6, some v18, some (.v (.int .i64 n19)), some (.v (.int .i64 n30)), some v31, some (.mp i55), some (.v (.int .i64 n62)), some (.ptr i65 0 0 0), some v31, some (.v (.int .i64 n57)), some (.v (.int .i64 n62)), some v77, some (.v (.int .i64 n79))] [(.v (.int .i64 (IntKind.wrap .i64 (n84 + 1))))] h159) 35 (.mp i55) (.v (.int .i64 n86)) (.v (.bool true)))))
  (okInt .i64 (aLen Try.prog h83 29 v18) fun n160 =>
  condB (decide (n62 ≥ n160))
  (okInt .i64 (aLoad Try.prog h83 3 (.ptr i65 0 0 0)) fun n161 =>
  condB (n161 != 1)
  (RetR h K (.v (.bool false)) h83)
  (nextR h56 I58 m60 [some a1, some v6, some v18, some (.v (.int .i64 n19)), some (.v (.int .i64 n30)), some v31, some (.mp i55), some v31, some (.v (.int .i64 n57))] [some a1, some v6, some v18, some (.v (.int .i64 n19)), some (.v (.int .i64 n30)), some v31, some (.mp i55), some v31, some (.v (.int .i64 n57))] [(.v (.int .i64 (IntKind.wrap .i64 (n62 + 1))))] h83))
  (okV (aIA Try.prog h83 29 v18 (.v (.int .i64 n62))) fun v162 =>
  okV (aLoad Try.prog h83 37 v162) fun v163 =>
  newO (.cells 37 3 [[(.v (.int .i64 0)), (.v (.slice none 0 0)), (.v (.slice none 0 0))]] 0) h83 fun i164 h165 =>
  storeR Try.prog h165 (fun v166 h167 =>
  okV (aLoad Try.prog h167 31 (.ptr i65 0 0 1)) fun v168 =>
  okV (aLoad Try.prog h167 31 (.ptr i164 0 0 1)) fun v169 =>
  callR Try.prog G 12 [v168, v169] h167 (fun v170 h171 =>
  okBool (some v170) fun b172 =>
  rGq b172 true (some (.ptr i65 0 0 2)) fun b173 v174 =>
  rGq b173 true (aLoad Try.prog h171 31 v174) fun b175 v176 =>
  rGq b175 true (some (.ptr i164 0 0 2)) fun b177 v178 =>
  rGq b177 true (aLoad Try.prog h171 31 v178) fun b179 v180 =>
  rGe b179 true (fun k181 => callR Try.prog G 12 [v176, v180] h171 (fun v182 h183 =>
  k181 v182 h183)) h171 fun b184 v185 h186 =>
  okBool (pickR (some (.v (.bool b184))) (some v185) (some (.v (.bool false)))) fun b187 =>
  okInt .i64 (aLoad Try.prog h186 3 (.ptr i65 0 0 0)) fun n188 =>
  okInt .i64 (aLoad Try.prog h186 3 (.ptr i164 0 0 0)) fun n189 =>
  rGq (n188 != n189) true (some (.ptr i65 0 0 0)) fun b190 v191 =>
  rGq b190 true (aLoad Try.prog h186 3 v191) fun b192 v193 =>
  rGq b192 true (some (.ptr i164 0 0 0)) fun b194 v195 =>
  rGq b194 true (aLoad Try.prog h186 3 v195) fun b196 v197 =>
  rGq b196 true (aBin Try.prog .add 3 v197 (.v (.int .i64 1))) fun b198 v199 =>
  rGq b198 true (aBin Try.prog .neq 3 v193 v199) fun b200 v201 =>
  okBool (pickR (some (.v (.bool b200))) (some v201) (some (.v (.bool false)))) fun b202 =>
  rGq b202 false (some (.ptr i65 0 0 0)) fun b203 v204 =>
  rGq b203 false (aLoad Try.prog h186 3 v204) fun b205 v206 =>
  rGq b205 false (some (.ptr i164 0 0 0)) fun b207 v208 =>
  rGq b207 false (aLoad Try.prog h186 3 v208) fun b209 v210 =>
  rGq b209 false (aBin Try.prog .eql 3 v206 v210) fun b211 v212 =>
  rGq b211 false (some v212) fun b213 v214 =>
  okG (some v214) true fun b215 g31 =>
  rGq b215 true (some (.v (.bool b187))) fun b216 v217 =>
  okG (some (g31 b216)) true fun c32 g33 =>
  rGq c32 true (aUn .not v217) fun b218 v219 =>
  rGq b213 false (pickR (some (g33 b218)) (some v219) (some (.v (.bool false)))) fun b220 v221 =>
  okBool (pickR (some (.v (.bool b220))) (some (.v (.bool true))) (some v221)) fun b222 =>
  rGq b222 false (some (.v (.int .i64 n30))) fun b223 v224 =>
  rGq b223 false (aBin Try.prog .neq 26 v224 (.v (.int .i64 0))) fun b225 v226 =>
  rGq b225 false (some v226) fun b227 v228 =>
  okG (some v228) true fun b229 g34 =>
  rGq b229 true (some (.v (.bool b187))) fun b230 v231 =>
  okG (some (g34 b230)) true fun c35 g36 =>
  rGq c35 true (some v231) fun b232 v233 =>
  okG (some v233) true fun b234 g37 =>
  rGq b234 true (some (.ptr i65 0 0 0)) fun b235 v236 =>
  okG (some (g37 b235)) true fun c38 g39 =>
  rGq c38 true (aLoad Try.prog h186 3 v236) fun b237 v238 =>
  okG (some (g39 b237)) true fun c40 g41 =>
  rGq c40 true (some (.ptr i164 0 0 0)) fun b239 v240 =>
  okG (some (g41 b239)) true fun c42 g43 =>
  rGq c42 true (aLoad Try.prog h186 3 v240) fun b241 v242 =>
  okG (some (g43 b241)) true fun c44 g45 =>
  rGq c44 true (aBin Try.prog .eql 3 v238 v242) fun b243 v244 =>
  okG (some (g36 b232)) true fun c46 g47 =>
  rGq c46 true (pickR (some (g45 b243)) (some v244) (some (.v (.bool false)))) fun b245 v246 =>
  okG (some (g47 b245)) true fun c48 g49 =>
  rGq c48 true (aUn .not v246) fun b247 v248 =>
  rGq b227 false (pickR (some (g49 b247)) (some v248) (some (.v (.bool false)))) fun b249 v250 =>
  okBool (pickR (some (.v (.bool b249))) (some (.v (.bool true))) (some v250)) fun b251 =>
  condB b251
  (RetR h K (.v (.bool false)) h186)
  (okV (aLoad Try.prog h186 31 (.ptr i65 0 0 1)) fun v252 =>
  okInt .i64 (aLen Try.prog h186 31 v252) fun n253 =>
  Try.r3_l38_254 K h G a1 v6 v18 n19 n30 v31 i55 h56 n57 I58 m60 n62 i164 h186 v252 n253 0))) 37 v163 (.ptr i164 0 0 0)))
def Try.r3_l17_58 (K : AV → AH → Prop) (h : AH) (G : Nat → Option AV) (a1 : AV) (h5 : AH) (v6 : AV) (I14 : Nat → List AV → AH → Prop) (m16 : Nat) (v18 : AV) (n19 : Int) (n30 : Int) (v31 : AV) (i55 : Nat) (h56 : AH) (n57 : Int) (n282 : Int) : Prop :=
  ∃ (I58 : Nat → List AV → AH → Prop) (m59 : Nat), I58 m59 [(.v (.int .i64 n282))] h56 ∧ ∀ (m60 : Nat) (h61 : AH), h56.length ≤ h61.length → LowH h61.length h61 → ∀ (n62 : Int), I58 m60 [(.v (.int .i64 n62))] h61 →
  condB (decide (n62 < n57))
  (okV (aIA Try.prog h61 29 v31 (.v (.int .i64 n62))) fun v63 =>
  okV (aLoad Try.prog h61 37 v63) fun v64 =>
  newO (.cells 37 3 [[(.v (.int .i64 0)), (.v (.slice none 0 0)), (.v (.slice none 0 0))]] 0) h61 fun i65 h66 =>
  storeR Try.prog h66 (fun v67 h68 =>
  okV (aLoad Try.prog h68 31 (.ptr i65 0 0 1)) fun v69 =>
  okInt .i64 (aLen Try.prog h68 31 v69) fun n70 =>
  condB (n70 == 0)
  (RetR h K (.v (.bool false)) h68)
  (okV (aLoad Try.prog h68 31 (.ptr i65 0 0 1)) fun v71 =>
  okV (aLoad Try.prog h68 31 (.ptr i65 0 0 2)) fun v72 =>
  newO (.cells 3 1 [] 0) h68 fun i73 h74 =>
  (aLoad Try.prog h74 31 (.ptr i65 0 0 2) = some v72) ∧ (aLoad Try.prog h74 31 (.ptr i65 0 0 1) = some v71) ∧ appR Try.prog h74 31 31 (.sl i73 0 0 0 none) v71 (fun v75 h76 =>
  (aLoad Try.prog h76 31 (.ptr i65 0 0 2) = some v72) ∧ appR Try.prog h76 31 31 v75 v72 (fun v77 h78 =>
  okInt .i64 (aLen Try.prog h78 31 v77) fun n79 =>
  Try.r3_l22_80 G h K a1 v6 v18 n19 n30 v31 i55 h56 n57 I58 m60 n62 i65 v77 h78 n79 0)))) 37 v64 (.ptr i65 0 0 0))
  (nextR h5 I14 m16 [some a1, some v6] [some a1, some v6] [v31, (.v (.int .i64 (IntKind.wrap .i64 (n19 + 1))))] h61)
def Try.r3_l9_14 (K : AV → AH → Prop) (h : AH) (G : Nat → Option AV) (a1 : AV) (h5 : AH) (v6 : AV) (v283 : AV) (n284 : Int) : Prop :=
  ∃ (I14 : Nat → List AV → AH → Prop) (m15 : Nat), I14 m15 [v283, (.v (.int .i64 n284))] h5 ∧ ∀ (m16 : Nat) (h17 : AH), h5.length ≤ h17.length → LowH h17.length h17 → ∀ (v18 : AV) (n19 : Int), I14 m16 [v18, (.v (.int .i64 n19))] h17 →
  okInt .i64 (aLen Try.prog h17 22 a1) fun n20 =>
  rGq (decide (n19 < n20)) true (some (.v (.int .i64 n19))) fun b21 v22 =>
  rGq b21 true (aBin Try.prog .lss 3 v22 (.v (.int .i64 120))) fun b23 v24 =>
  okBool (pickR (some (.v (.bool b23))) (some v24) (some (.v (.bool false)))) fun b25 =>
  condB b25
  (okV (aIA Try.prog h17 22 a1 (.v (.int .i64 n19))) fun v26 =>
  okV (aLoad Try.prog h17 33 v26) fun v27 =>
  callR Try.prog G 9 [v6, v27] h17 (fun v28 h29 =>
  okInt .i64 (some v28) fun n30 =>
  callR Try.prog G 10 [v6] h29 (fun v31 h32 =>
  okInt .i64 (aLen Try.prog h32 29 v31) fun n33 =>
  okInt .i64 (aLen Try.prog h32 29 v18) fun n34 =>
  rGq (decide (n33 < n34)) false (some (.v (.int .i64 n30))) fun b35 v36 =>
  rGq b35 false (aBin Try.prog .neq 26 v36 (.v (.int .i64 0))) fun b37 v38 =>
  rGq b37 false (some v38) fun b39 v40 =>
  okG (some v40) true fun b41 g0 =>
  rGq b41 true (some v31) fun b42 v43 =>
  okG (some (g0 b42)) true fun c1 g2 =>
  rGq c1 true (aLen Try.prog h32 29 v43) fun b44 v45 =>
  okG (some (g2 b44)) true fun c3 g4 =>
  rGq c3 true (some v18) fun b46 v47 =>
  okG (some (g4 b46)) true fun c5 g6 =>
  rGq c5 true (aLen Try.prog h32 29 v47) fun b48 v49 =>
  okG (some (g6 b48)) true fun c7 g8 =>
  rGq c7 true (aBin Try.prog .neq 3 v45 v49) fun b50 v51 =>
  rGq b39 false (pickR (some (g8 b50)) (some v51) (some (.v (.bool false)))) fun b52 v53 =>
  okBool (pickR (some (.v (.bool b52))) (some (.v (.bool true))) (some v53)) fun b54 =>
  condB b54
  (RetR h K (.v (.bool false)) h32)
  (newO (.map [] 0) h32 fun i55 h56 =>
  okInt .i64 (aLen Try.prog h56 29 v31) fun n57 =>
  Try.r3_l17_58 K h G a1 h5 v6 I14 m16 v18 n19 n30 v31 i55 h56 n57 0))))
  (RetR h K (.v (.bool true)) h17)
def Try.r3 (G : Nat → Option AV) (a0 a1 : AV) (h : AH) (K : AV → AH → Prop) : Prop :=
  callR Try.prog G 7 [] h (fun v0 h1 =>
  okBool (some v0) fun b2 =>
  condB (!b2)
  (RetR h K (.v (.bool false)) h1)
  (okInt .i64 (some a0) fun n3 =>
  callR Try.prog G 8 [(.v (.int .i64 (IntKind.wrap .i64 (1 + (IntKind.wrap .i64 (Int.tmod (IntKind.wrap .u64 n3) 16))))))] h1 (fun v4 h5 =>
  okV (extV 0 v4) fun v6 =>
  okInt .i64 (extV 1 v4) fun n7 =>
  okBool (aBin Try.prog .eql 25 v6 (.v (.pointer none))) fun b8 =>
  rGq b8 false (some (.v (.int .i64 n7))) fun b9 v10 =>
  rGq b9 false (aBin Try.prog .neq 26 v10 (.v (.int .i64 0))) fun b11 v12 =>
  okBool (pickR (some (.v (.bool b11))) (some (.v (.bool true))) (some v12)) fun b13 =>
  condB b13
  (RetR h K (.v (.bool false)) h5)
  (Try.r3_l9_14 K h G a1 h5 v6 (.v (.slice none 0 0)) 0))))
theorem Try.c3 (G : Nat → Option AV) (a0 a1 : AV) (h : AH) (K : AV → AH → Prop) (hk : LowH h.length h → Try.r3 G a0 a1 h K) : SCall Try.prog G 3 [a0, a1] h K :=
  scall_of_rwp Try.tab3 [(9, [(7, .any), (8, (.int .i64))], [1, 5]), (17, [(79, (.int .i64))], [1, 5, 7, 8, 9, 10, 11, 77, 78]), (22, [(96, (.int .i64))], [1, 5, 7, 8, 9, 10, 11, 12, 13, 77, 78, 79, 94, 95]), (38, [(219, (.int .i64))], [1, 5, 7, 8, 9, 10, 11, 20, 77, 78, 79, 217, 218])] Try.func3 rfl Try.ntmps3 (by kernel_rfl) (by show 2 ≤ 238; decide) (by kernel_rfl) (by kernel_rfl) hk
-- 8 skylark/admin.New
def Try.r8 (G : Nat → Option AV) (a0 : AV) (h : AH) (K : AV → AH → Prop) : Prop :=
  okInt .i64 (some a0) fun n0 =>
  rGq (decide (n0 < 1)) false (some a0) fun b1 v2 =>
  rGq b1 false (aBin Try.prog .gtr 3 v2 (.v (.int .i64 16))) fun b3 v4 =>
  okBool (pickR (some (.v (.bool b3))) (some (.v (.bool true))) (some v4)) fun b5 =>
  condB b5
  (RetR h K (.tup [(.v (.pointer none)), (.v (.int .i64 1))]) h)
  (newO (.cells 75 2 [[(.v (.int .i64 0)), (.v (.int .i64 (-1)))]] 0) h fun i6 h7 =>
  okInt .i64 (some a0) fun n8 =>
  callR Try.prog G 25 [(.sl i6 0 0 1 none), (.v (.int .i64 n8))] h7 (fun v9 h10 =>
  okV (aBuild Try.prog 80 [(0, some v9)]) fun v11 =>
  onlyB (AV.one v11) (newO (.cells 80 (AV.cells v11).length [AV.cells v11] 0) h10 fun i12 h13 =>
  RetR h K (.tup [(.ptr i12 0 0 0), (.v (.int .i64 0))]) h13)))
theorem Try.c8 (G : Nat → Option AV) (a0 : AV) (h : AH) (K : AV → AH → Prop) (hk : LowH h.length h → Try.r8 G a0 h K) : SCall Try.prog G 8 [a0] h K :=
  scall_of_rwp Try.tab8 [] Try.func8 rfl Try.ntmps8 (by kernel_rfl) (by show 1 ≤ 16; decide) (by kernel_rfl) (by kernel_rfl) hk
-- 9 (*skylark/admin.Admin).Do
def Try.r9 (G : Nat → Option AV) (a0 a1 : AV) (h : AH) (K : AV → AH → Prop) : Prop :=
  onlyB (AV.one a1) (newO (.cells 33 (AV.cells a1).length [AV.cells a1] 0) h fun i0 h1 =>
  callR Try.prog G 26 [] h1 (fun v2 h3 =>
  okInt .i64 (aLoad Try.prog h3 3 (.ptr i0 0 0 0)) fun n4 =>
  rGq (decide (n4 < 1)) false (some (.ptr i0 0 0 0)) fun b5 v6 =>
  rGq b5 false (aLoad Try.prog h3 3 v6) fun b7 v8 =>
  rGq b7 false (some v2) fun b9 v10 =>
  rGq b9 false (aLen Try.prog h3 81 v10) fun b11 v12 =>
  rGq b11 false (aBin Try.prog .gtr 3 v8 v12) fun b13 v14 =>
  okBool (pickR (some (.v (.bool b13))) (some (.v (.bool true))) (some v14)) fun b15 =>
  rGq b15 false (some v2) fun b16 v17 =>
  rGq b16 false (some (.ptr i0 0 0 0)) fun b18 v19 =>
  rGq b18 false (aLoad Try.prog h3 3 v19) fun b20 v21 =>
  rGq b20 false (aBin Try.prog .sub 3 v21 (.v (.int .i64 1))) fun b22 v23 =>
  rGq b22 false (aIA Try.prog h3 81 v17 v23) fun b24 v25 =>
  rGq b24 false (aLoad Try.prog h3 85 v25) fun b26 v27 =>
  rGq b26 false (aLoad Try.prog h3 33 (.ptr i0 0 0 0)) fun b28 v29 =>
  rGe b28 false (fun k30 => callR Try.prog G 27 [v27, v29] h3 (fun v31 h32 =>
  k30 v31 h32)) h3 fun b33 v34 h35 =>
  rGq b33 false (aUn .not v34) fun b36 v37 =>
  okBool (pickR (some (.v (.bool b36))) (some (.v (.bool true))) (some v37)) fun b38 =>
  condB b38
  (RetR h K (.v (.int .i64 80)) h35)
  (okInt .i64 (aLoad Try.prog h35 3 (.ptr i0 0 0 0)) fun n39 =>
  okV (aIA Try.prog h35 81 v2 (.v (.int .i64 (IntKind.wrap .i64 (n39 - 1))))) fun v40 =>
  okV (aFA Try.prog 85 5 v40) fun v41 =>
  okV (aLoad Try.prog h35 83 v41) fun v42 =>
  okV (aLoad Try.prog h35 33 (.ptr i0 0 0 0)) fun v43 =>
  callU Try.prog G h35 (fun v44 h45 =>
  okInt .i64 (some v44) fun n46 =>
  RetR h K (.v (.int .i64 n46)) h45) [a0, v43] v42)))
theorem Try.c9 (G : Nat → Option AV) (a0 a1 : AV) (h : AH) (K : AV → AH → Prop) (hk : LowH h.length h → Try.r9 G a0 a1 h K) : SCall Try.prog G 9 [a0, a1] h K :=
  scall_of_rwp Try.tab9 [] Try.func9 rfl Try.ntmps9 (by kernel_rfl) (by show 2 ≤ 38; decide) (by kernel_rfl) (by kernel_rfl) hk
-- 10 (*skylark/admin.Admin).Chains
def Try.r10_l3_4 (K : AV → AH → Prop) (h : AH) (G : Nat → Option AV) (v2 : AV) (n3 : Int) (v29 : AV) (n30 : Int) : Prop :=
  ∃ (I4 : Nat → List AV → AH → Prop) (m5 : Nat), I4 m5 [v29, (.v (.int .i64 n30))] h ∧ ∀ (m6 : Nat) (h7 : AH), h.length ≤ h7.length → LowH h7.length h7 → ∀ (v8 : AV) (n9 : Int), I4 m6 [v8, (.v (.int .i64 n9))] h7 →
  condB (decide (n9 < n3))
  (okV (aIA Try.prog h7 29 v2 (.v (.int .i64 n9))) fun v10 =>
  okV (aLoad Try.prog h7 37 v10) fun v11 =>
  newO (.cells 37 3 [[(.v (.int .i64 0)), (.v (.slice none 0 0)), (.v (.slice none 0 0))]] 0) h7 fun i12 h13 =>
  storeR Try.prog h13 (fun v14 h15 =>
  okInt .i64 (aLoad Try.prog h15 3 (.ptr i12 0 0 0)) fun n16 =>
  okV (aLoad Try.prog h15 31 (.ptr i12 0 0 1)) fun v17 =>
  okV (aLoad Try.prog h15 31 (.ptr i12 0 0 2)) fun v18 =>
  callR Try.prog G 28 [v17] h15 (fun v19 h20 =>
  (aLoad Try.prog h20 31 (.ptr i12 0 0 2) = some v18) ∧ (aLoad Try.prog h20 3 (.ptr i12 0 0 0) = some (.v (.int .i64 n16))) ∧ callR Try.prog G 28 [v18] h20 (fun v21 h22 =>
  (aLoad Try.prog h22 3 (.ptr i12 0 0 0) = some (.v (.int .i64 n16))) ∧ okV (aBuild Try.prog 37 [(0, some (.v (.int .i64 n16))), (1, some v19), (2, some v21)]) fun v23 =>
  okP (rowsFill 3 (List.replicate 1 [(.v (.int .i64 0)), (.v (.slice none 0 0)), (.v (.slice none 0 0))]) [(0, some v23)]) fun r24 => newO (.cells 37 3 r24 0) h22 fun i25 h26 =>
  appR Try.prog h26 29 29 v8 (.sl i25 0 0 1 none) (fun v27 h28 =>
  nextR h I4 m6 [some v2, some (.v (.int .i64 n3))] [some v2, some (.v (.int .i64 n3))] [v27, (.v (.int .i64 (IntKind.wrap .i64 (n9 + 1))))] h28)))) 37 v11 (.ptr i12 0 0 0))
  (RetR h K v8 h7)
def Try.r10 (G : Nat → Option AV) (a0 : AV) (h : AH) (K : AV → AH → Prop) : Prop :=
  okV (aNil a0) fun v0 =>
  okV (aFA Try.prog 80 1 v0) fun v1 =>
  okV (aLoad Try.prog h 29 v1) fun v2 =>
  okInt .i64 (aLen Try.prog h 29 v2) fun n3 =>
  Try.r10_l3_4 K h G v2 n3 (.v (.slice none 0 0)) 0
theorem Try.c10 (G : Nat → Option AV) (a0 : AV) (h : AH) (K : AV → AH → Prop) (hk : LowH h.length h → Try.r10 G a0 h K) : SCall Try.prog G 10 [a0] h K :=
  scall_of_rwp Try.tab10 [(3, [(3, .any), (11, (.int .i64))], [9, 10])] Try.func10 rfl Try.ntmps10 (by kernel_rfl) (by show 1 ≤ 29; decide) (by kernel_rfl) (by kernel_rfl) hk
-- 11 (*skylark/admin.Admin).Brick
def Try.r11 (a0 a1 : AV) (h : AH) (K : AV → AH → Prop) : Prop :=
  okInt .i64 (some a1) fun n0 =>
  rGq (decide (n0 < 0)) false (some a1) fun b1 v2 =>
  rGq b1 false (some a0) fun b3 v4 =>
  rGq b3 false (aNil v4) fun b5 v6 =>
  rGq b5 false (aFA Try.prog 80 0 v6) fun b7 v8 =>
  rGq b7 false (aLoad Try.prog h 72 v8) fun b9 v10 =>
  rGq b9 false (aLen Try.prog h 72 v10) fun b11 v12 =>
  rGq b11 false (aBin Try.prog .geq 3 v2 v12) fun b13 v14 =>
  okBool (pickR (some (.v (.bool b13))) (some (.v (.bool true))) (some v14)) fun b15 =>
  condB b15
  (RetR h K (.tup [(.v (.int .i64 0)), (.v (.int .i64 0)), (.v (.int .i64 1))]) h)
  (okV (aNil a0) fun v16 =>
  okV (aFA Try.prog 80 0 v16) fun v17 =>
  okV (aLoad Try.prog h 72 v17) fun v18 =>
  okInt .i64 (some a1) fun n19 =>
  okV (aIA Try.prog h 72 v18 (.v (.int .i64 n19))) fun v20 =>
  okV (aFA Try.prog 75 0 v20) fun v21 =>
  okInt .i64 (aLoad Try.prog h 3 v21) fun n22 =>
  okV (aNil a0) fun v23 =>
  okV (aFA Try.prog 80 0 v23) fun v24 =>
  okV (aLoad Try.prog h 72 v24) fun v25 =>
  okInt .i64 (some a1) fun n26 =>
  okV (aIA Try.prog h 72 v25 (.v (.int .i64 n26))) fun v27 =>
  okV (aFA Try.prog 75 1 v27) fun v28 =>
  okInt .i64 (aLoad Try.prog h 3 v28) fun n29 =>
  (aLoad Try.prog h 3 v28 = some (.v (.int .i64 n29))) ∧ (aIA Try.prog h 72 v25 (.v (.int .i64 n26)) = some v27) ∧ (aLoad Try.prog h 72 v24 = some v25) ∧ RetR h K (.tup [(.v (.int .i64 n22)), (.v (.int .i64 n29)), (.v (.int .i64 0))]) h)
theorem Try.c11 (G : Nat → Option AV) (a0 a1 : AV) (h : AH) (K : AV → AH → Prop) (hk : LowH h.length h → Try.r11 a0 a1 h K) : SCall Try.prog G 11 [a0, a1] h K :=
  scall_of_rwp Try.tab11 [] Try.func11 rfl Try.ntmps11 (by kernel_rfl) (by show 2 ≤ 34; decide) (by kernel_rfl) (by kernel_rfl) hk
-- 13 skylark/skylarklaw18.has
def Try.r13_l2_1 (K : AV → AH → Prop) (h : AH) (a0 : AV) (a1 : AV) (n0 : Int) (n9 : Int) : Prop :=
  ∃ (I1 : Nat → List AV → AH → Prop) (m2 : Nat), I1 m2 [(.v (.int .i64 n9))] h ∧ ∀ (m3 : Nat) (h4 : AH), h.length ≤ h4.length → LowH h4.length h4 → ∀ (n5 : Int), I1 m3 [(.v (.int .i64 n5))] h4 →
  condB (decide (n5 < n0))
  (okV (aIA Try.prog h4 31 a0 (.v (.int .i64 n5))) fun v6 =>
  okInt .i64 (aLoad Try.prog h4 3 v6) fun n7 =>
  okInt .i64 (some a1) fun n8 =>
  condB (n7 == n8)
  (RetR h K (.v (.bool true)) h4)
  (nextR h I1 m3 [some a1, some a0, some (.v (.int .i64 n0))] [some a1, some a0, some (.v (.int .i64 n0))] [(.v (.int .i64 (IntKind.wrap .i64 (n5 + 1))))] h4))
  (RetR h K (.v (.bool false)) h4)
def Try.r13 (a0 a1 : AV) (h : AH) (K : AV → AH → Prop) : Prop :=
  okInt .i64 (aLen Try.prog h 31 a0) fun n0 =>
  Try.r13_l2_1 K h a0 a1 n0 0
theorem Try.c13 (G : Nat → Option AV) (a0 a1 : AV) (h : AH) (K : AV → AH → Prop) (hk : LowH h.length h → Try.r13 a0 a1 h K) : SCall Try.prog G 13 [a0, a1] h K :=
  scall_of_rwp Try.tab13 [(2, [(9, (.int .i64))], [1, 7, 8])] Try.func13 rfl Try.ntmps13 (by kernel_rfl) (by show 2 ≤ 17; decide) (by kernel_rfl) (by kernel_rfl) hk
-- 25 slices.Repeat[[]skylark/admin.brick,skylark/admin.brick]
def Try.r25_l8_13 (K : AV → AH → Prop) (h : AH) (n6 : Int) (i8 : Nat) (h11 : AH) (n24 : Int) : Prop :=
  ∃ (I13 : Nat → List AV → AH → Prop) (m14 : Nat), I13 m14 [(.v (.int .i64 n24))] h11 ∧ ∀ (m15 : Nat) (h16 : AH), h11.length ≤ h16.length → LowH h16.length h16 → ∀ (n17 : Int), I13 m15 [(.v (.int .i64 n17))] h16 →
  okInt .i64 (aLen Try.prog h16 72 (.sl i8 0 0 (Int.toNat (IntKind.wrap .i64 n6)) none)) fun n18 =>
  condB (decide (n17 < n18))
  (okV (aSlice Try.prog h16 72 (.sl i8 0 0 (Int.toNat (IntKind.wrap .i64 n6)) none) (some (some (.v (.int .i64 n17)))) none none) fun v19 =>
  okV (aSlice Try.prog h16 72 (.sl i8 0 0 (Int.toNat (IntKind.wrap .i64 n6)) none) none (some (some (.v (.int .i64 n17)))) none) fun v20 =>
  copyR Try.prog h16 72 v19 v20 (fun v21 h22 =>
  okInt .i64 (some v21) fun n23 =>
  nextR h11 I13 m15 [some (.sl i8 0 0 (Int.toNat (IntKind.wrap .i64 n6)) none)] [some (.sl i8 0 0 (Int.toNat (IntKind.wrap .i64 n6)) none)] [(.v (.int .i64 (IntKind.wrap .i64 (n17 + n23))))] h22))
  (RetR h K (.sl i8 0 0 (Int.toNat (IntKind.wrap .i64 n6)) none) h16)
def Try.r25_j8 (h : AH) (K : AV → AH → Prop) (a0 : AV) (n6 : Int) (h7 : AH) : Prop :=
  (0 ≤ (IntKind.wrap .i64 n6) ∧ (IntKind.wrap .i64 n6) ≤ (IntKind.wrap .i64 n6) ∧ (((16 : Nat) : Int)) * (IntKind.wrap .i64 n6) ≤ 281474976710656 ∧ (IntKind.wrap .i64 n6) ≤ 4611686018427387904) ∧ newO (.cells 75 2 (List.replicate (Int.toNat (IntKind.wrap .i64 n6)) [(.v (.int .i64 0)), (.v (.int .i64 0))]) 0) h7 fun i8 h9 =>
  copyR Try.prog h9 72 (.sl i8 0 0 (Int.toNat (IntKind.wrap .i64 n6)) none) a0 (fun v10 h11 =>
  okInt .i64 (some v10) fun n12 =>
  Try.r25_l8_13 K h n6 i8 h11 n12)
def Try.r25_j1 (K : AV → AH → Prop) (h : AH) (G : Nat → Option AV) (a0 : AV) (a1 : AV) (h0 : AH) : Prop :=
  okInt .i64 (aLen Try.prog h0 72 a0) fun n1 =>
  okInt .i64 (some a1) fun n2 =>
  callR Try.prog G 38 [(.v (.int .u64 (IntKind.wrap .u64 n1))), (.v (.int .u64 (IntKind.wrap .u64 n2)))] h0 (fun v3 h4 =>
  okInt .u64 (extV 0 v3) fun n5 =>
  okInt .u64 (extV 1 v3) fun n6 =>
  rGq (decide (n5 > 0)) false (some (.v (.int .u64 n6))) fun b25 v26 =>
  rGq b25 false (aBin Try.prog .gtr 108 v26 (.v (.int .u64 9223372036854775807))) fun b27 v28 =>
  okBool (pickR (some (.v (.bool b27))) (some (.v (.bool true))) (some v28)) fun b29 =>
  condB b29
  (okV (aMkI Try.prog 9 (.v (.string (ByteArray.mk #[116, 104, 101, 32, 114, 101, 115, 117, 108, 116, 32, 111, 102, 32, 40, 108, 101, 110, 40, 120, 41, 32, 42, 32, 99, 111, 117, 110, 116, 41, 32, 111, 118, 101, 114, 102, 108, 111, 119, 115])))) fun v30 =>
  False)
  (Try.r25_j8 h K a0 n6 h4))
def Try.r25 (G : Nat → Option AV) (a0 a1 : AV) (h : AH) (K : AV → AH → Prop) : Prop :=
  okInt .i64 (some a1) fun n31 =>
  condB (decide (n31 < 0))
  (okV (aMkI Try.prog 9 (.v (.string (ByteArray.mk #[99, 97, 110, 110, 111, 116, 32, 98, 101, 32, 110, 101, 103, 97, 116, 105, 118, 101])))) fun v32 =>
  False)
  (Try.r25_j1 K h G a0 a1 h)
theorem Try.c25 (G : Nat → Option AV) (a0 a1 : AV) (h : AH) (K : AV → AH → Prop) (hk : LowH h.length h → Try.r25 G a0 a1 h K) : SCall Try.prog G 25 [a0, a1] h K :=
  scall_of_rwp Try.tab25 [(8, [(8, (.int .i64))], [7])] Try.func25 rfl Try.ntmps25 (by kernel_rfl) (by show 2 ≤ 48; decide) (by kernel_rfl) (by kernel_rfl) hk
-- 26 skylark/admin.commands
def Try.r26 (G : Nat → Option AV) (h : AH) (K : AV → AH → Prop) : Prop :=
  callR Try.prog G 39 [(.agg [(.v (.bool true)), (.v (.bool false)), (.v (.bool false)), (.v (.bool false)), (.v (.bool false)), (.v .nilFunc)])] h (fun v0 h1 =>
  callR Try.prog G 39 [(.agg [(.v (.bool false)), (.v (.bool false)), (.v (.bool false)), (.v (.bool false)), (.v (.bool false)), (.v .nilFunc)])] h1 (fun v2 h3 =>
  callR Try.prog G 39 [(.agg [(.v (.bool false)), (.v (.bool false)), (.v (.bool false)), (.v (.bool false)), (.v (.bool false)), (.v .nilFunc)])] h3 (fun v4 h5 =>
  callR Try.prog G 39 [(.agg [(.v (.bool false)), (.v (.bool false)), (.v (.bool false)), (.v (.bool false)), (.v (.bool false)), (.v .nilFunc)])] h5 (fun v6 h7 =>
  callR Try.prog G 39 [(.agg [(.v (.bool false)), (.v (.bool false)), (.v (.bool true)), (.v (.bool false)), (.v (.bool false)), (.v .nilFunc)])] h7 (fun v8 h9 =>
  okP (rowsFill 6 (List.replicate 9 [(.v (.bool false)), (.v (.bool false)), (.v (.bool false)), (.v (.bool false)), (.v (.bool false)), (.v .nilFunc)]) [(0, some (.agg [(.v (.bool false)), (.v (.bool false)), (.v (.bool false)), (.v (.bool true)), (.v (.bool false)), (.fn (.func 41) [] [])])), (1, some v0), (2, some v2), (3, some v4), (4, some v6), (5, some v8), (6, some (.agg [(.v (.bool false)), (.v (.bool false)), (.v (.bool false)), (.v (.bool true)), (.v (.bool false)), (.fn (.func 42) [] [])])), (7, some (.agg [(.v (.bool false)), (.v (.bool false)), (.v (.bool false)), (.v (.bool false)), (.v (.bool true)), (.fn (.func 43) [] [])])), (8, some (.agg [(.v (.bool false)), (.v (.bool false)), (.v (.bool false)), (.v (.bool false)), (.v (.bool false)), (.fn (.func 44) [] [])]))]) fun r10 => newO (.cells 85 6 r10 0) h9 fun i11 h12 =>
  RetR h K (.sl i11 0 0 9 none) h12)))))
theorem Try.c26 (G : Nat → Option AV) (h : AH) (K : AV → AH → Prop) (hk : LowH h.length h → Try.r26 G h K) : SCall Try.prog G 26 [] h K :=
  scall_of_rwp Try.tab26 [] Try.func26 rfl Try.ntmps26 (by kernel_rfl) (by show 0 ≤ 22; decide) (by kernel_rfl) (by kernel_rfl) hk
-- 27 (skylark/admin.command).bare
def Try.r27 (a0 a1 : AV) (h : AH) (K : AV → AH → Prop) : Prop :=
  onlyB (AV.one a0) (newO (.cells 85 (AV.cells a0).length [AV.cells a0] 0) h fun i0 h1 =>
  onlyB (AV.one a1) (newO (.cells 33 (AV.cells a1).length [AV.cells a1] 0) h1 fun i2 h3 =>
  okBool (aLoad Try.prog h3 4 (.ptr i0 0 0 0)) fun b4 =>
  rGq b4 false (some (.ptr i2 0 0 1)) fun b5 v6 =>
  rGq b5 false (aLoad Try.prog h3 3 v6) fun b7 v8 =>
  rGq b7 false (aBin Try.prog .eql 3 v8 (.v (.int .i64 0))) fun b9 v10 =>
  okBool (pickR (some (.v (.bool b9))) (some (.v (.bool true))) (some v10)) fun b11 =>
  rGq b11 true (some (.ptr i0 0 0 1)) fun b12 v13 =>
  rGq b12 true (aLoad Try.prog h3 4 v13) fun b14 v15 =>
  rGq b14 true (some v15) fun b16 v17 =>
  okG (some v17) false fun b18 g0 =>
  rGq b18 false (some (.ptr i2 0 0 2)) fun b19 v20 =>
  okG (some (g0 b19)) false fun c1 g2 =>
  rGq c1 false (aLoad Try.prog h3 3 v20) fun b21 v22 =>
  okG (some (g2 b21)) false fun c3 g4 =>
  rGq c3 false (aBin Try.prog .eql 3 v22 (.v (.int .i64 0))) fun b23 v24 =>
  rGq b16 true (pickR (some (g4 b23)) (some (.v (.bool true))) (some v24)) fun b25 v26 =>
  okBool (pickR (some (.v (.bool b25))) (some v26) (some (.v (.bool false)))) fun b27 =>
  rGq b27 true (some (.ptr i0 0 0 2)) fun b28 v29 =>
  rGq b28 true (aLoad Try.prog h3 4 v29) fun b30 v31 =>
  rGq b30 true (some v31) fun b32 v33 =>
  okG (some v33) false fun b34 g5 =>
  rGq b34 false (some (.ptr i2 0 0 3)) fun b35 v36 =>
  okG (some (g5 b35)) false fun c6 g7 =>
  rGq c6 false (aLoad Try.prog h3 3 v36) fun b37 v38 =>
  okG (some (g7 b37)) false fun c8 g9 =>
  rGq c8 false (aBin Try.prog .eql 3 v38 (.v (.int .i64 0))) fun b39 v40 =>
  rGq b32 true (pickR (some (g9 b39)) (some (.v (.bool true))) (some v40)) fun b41 v42 =>
  okBool (pickR (some (.v (.bool b41))) (some v42) (some (.v (.bool false)))) fun b43 =>
  rGq b43 true (some (.ptr i0 0 0 3)) fun b44 v45 =>
  rGq b44 true (aLoad Try.prog h3 4 v45) fun b46 v47 =>
  rGq b46 true (some v47) fun b48 v49 =>
  okG (some v49) false fun b50 g10 =>
  rGq b50 false (some (.ptr i2 0 0 4)) fun b51 v52 =>
  okG (some (g10 b51)) false fun c11 g12 =>
  rGq c11 false (aLoad Try.prog h3 31 v52) fun b53 v54 =>
  okG (some (g12 b53)) false fun c13 g14 =>
  rGq c13 false (aLen Try.prog h3 31 v54) fun b55 v56 =>
  okG (some (g14 b55)) false fun c15 g16 =>
  rGq c15 false (aBin Try.prog .eql 3 v56 (.v (.int .i64 0))) fun b57 v58 =>
  rGq b48 true (pickR (some (g16 b57)) (some (.v (.bool true))) (some v58)) fun b59 v60 =>
  okBool (pickR (some (.v (.bool b59))) (some v60) (some (.v (.bool false)))) fun b61 =>
  rGq b61 true (some (.ptr i0 0 0 4)) fun b62 v63 =>
  rGq b62 true (aLoad Try.prog h3 4 v63) fun b64 v65 =>
  rGq b64 true (some v65) fun b66 v67 =>
  okG (some v67) false fun b68 g17 =>
  rGq b68 false (some (.ptr i2 0 0 5)) fun b69 v70 =>
  okG (some (g17 b69)) false fun c18 g19 =>
  rGq c18 false (aLoad Try.prog h3 9 v70) fun b71 v72 =>
  okG (some (g19 b71)) false fun c20 g21 =>
  rGq c20 false (aBin Try.prog .eql 9 v72 (.v (.string (ByteArray.mk #[])))) fun b73 v74 =>
  rGq b66 true (pickR (some (g21 b73)) (some (.v (.bool true))) (some v74)) fun b75 v76 =>
  okBool (pickR (some (.v (.bool b75))) (some v76) (some (.v (.bool false)))) fun b77 =>
  RetR h K (.v (.bool b77)) h3))
theorem Try.c27 (G : Nat → Option AV) (a0 a1 : AV) (h : AH) (K : AV → AH → Prop) (hk : LowH h.length h → Try.r27 a0 a1 h K) : SCall Try.prog G 27 [a0, a1] h K :=
  scall_of_rwp Try.tab27 [] Try.func27 rfl Try.ntmps27 (by kernel_rfl) (by show 2 ≤ 49; decide) (by kernel_rfl) (by kernel_rfl) hk
-- 28 slices.Clone[[]int,int]
def Try.r28 (a0 : AV) (h : AH) (K : AV → AH → Prop) : Prop :=
  binR Try.prog h (fun v0 h1 =>
  okBool (some v0) fun b2 =>
  condB b2
  (RetR h K (.v (.slice none 0 0)) h1)
  (newO (.cells 3 1 [] 0) h1 fun i3 h4 =>
  appR Try.prog h4 31 31 (.sl i3 0 0 0 none) a0 (fun v5 h6 =>
  RetR h K v5 h6))) .eql 31 a0 (.v (.slice none 0 0))
theorem Try.c28 (G : Nat → Option AV) (a0 : AV) (h : AH) (K : AV → AH → Prop) (hk : LowH h.length h → Try.r28 a0 h K) : SCall Try.prog G 28 [a0] h K :=
  scall_of_rwp Try.tab28 [] Try.func28 rfl Try.ntmps28 (by kernel_rfl) (by show 1 ≤ 8; decide) (by kernel_rfl) (by kernel_rfl) hk
-- 38 math/bits.Mul
def Try.r38 (G : Nat → Option AV) (a0 a1 : AV) (h : AH) (K : AV → AH → Prop) : Prop :=
  condB false
  (okInt .u64 (some a0) fun n0 =>
  okInt .u64 (some a1) fun n1 =>
  callR Try.prog G 57 [(.v (.int .u32 (IntKind.wrap .u32 n0))), (.v (.int .u32 (IntKind.wrap .u32 n1)))] h (fun v2 h3 =>
  okInt .u32 (extV 0 v2) fun n4 =>
  okInt .u32 (extV 1 v2) fun n5 =>
  RetR h K (.tup [(.v (.int .u64 (IntKind.wrap .u64 n4))), (.v (.int .u64 (IntKind.wrap .u64 n5)))]) h3))
  (okInt .u64 (some a0) fun n6 =>
  okInt .u64 (some a1) fun n7 =>
  callR Try.prog G 58 [(.v (.int .u64 n6)), (.v (.int .u64 n7))] h (fun v8 h9 =>
  okInt .u64 (extV 0 v8) fun n10 =>
  okInt .u64 (extV 1 v8) fun n11 =>
  RetR h K (.tup [(.v (.int .u64 n10)), (.v (.int .u64 n11))]) h9))
theorem Try.c38 (G : Nat → Option AV) (a0 a1 : AV) (h : AH) (K : AV → AH → Prop) (hk : LowH h.length h → Try.r38 G a0 a1 h K) : SCall Try.prog G 38 [a0, a1] h K :=
  scall_of_rwp Try.tab38 [] Try.func38 rfl Try.ntmps38 (by kernel_rfl) (by show 2 ≤ 30; decide) (by kernel_rfl) (by kernel_rfl) hk
-- 39 skylark/admin.commands$1
def Try.r39 (a0 : AV) (h : AH) (K : AV → AH → Prop) : Prop :=
  onlyB (AV.one a0) (newO (.cells 85 (AV.cells a0).length [AV.cells a0] 0) h fun i0 h1 =>
  newO (.cells 85 6 [[(.v (.bool false)), (.v (.bool false)), (.v (.bool false)), (.v (.bool false)), (.v (.bool false)), (.v .nilFunc)]] 0) h1 fun i2 h3 =>
  storeR Try.prog h3 (fun v4 h5 =>
  storeR Try.prog h5 (fun v6 h7 =>
  okV (aLoad Try.prog h7 85 (.ptr i0 0 0 0)) fun v8 =>
  storeR Try.prog h7 (fun v9 h10 =>
  okV (aLoad Try.prog h10 85 (.ptr i2 0 0 0)) fun v11 =>
  RetR h K v11 h10) 85 v8 (.ptr i2 0 0 0)) 83 (.fn (.func 40) [] []) (.ptr i0 0 0 5)) 4 (.v (.bool true)) (.ptr i0 0 0 1))
theorem Try.c39 (G : Nat → Option AV) (a0 : AV) (h : AH) (K : AV → AH → Prop) (hk : LowH h.length h → Try.r39 a0 h K) : SCall Try.prog G 39 [a0] h K :=
  scall_of_rwp Try.tab39 [] Try.func39 rfl Try.ntmps39 (by kernel_rfl) (by show 1 ≤ 6; decide) (by kernel_rfl) (by kernel_rfl) hk
-- 40 (*skylark/admin.Admin).onBrick
def Try.r40_j128 (K : AV → AH → Prop) (h : AH) (a0 : AV) (i3 : Nat) (n70 : Int) (i118 : Nat) (i122 : Nat) (h127 : AH) : Prop :=
  okV (aNil a0) fun v128 =>
  okV (aFA Try.prog 80 1 v128) fun v129 =>
  okV (aLoad Try.prog h127 29 v129) fun v130 =>
  okV (aNil a0) fun v131 =>
  okV (aFA Try.prog 80 0 v131) fun v132 =>
  okV (aLoad Try.prog h127 72 v132) fun v133 =>
  okInt .i64 (aLoad Try.prog h127 3 (.ptr i3 0 0 0)) fun n134 =>
  okV (aLoad Try.prog h127 37 (.ptr i118 0 0 0)) fun v135 =>
  okV (aLoad Try.prog h127 75 (.ptr i122 0 0 0)) fun v136 =>
  okV (aIA Try.prog h127 29 v130 (.v (.int .i64 n70))) fun v137 =>
  storeR Try.prog h127 (fun v138 h139 =>
  (aLoad Try.prog h139 75 (.ptr i122 0 0 0) = some v136) ∧ (aLoad Try.prog h139 3 (.ptr i3 0 0 0) = some (.v (.int .i64 n134))) ∧ okV (aIA Try.prog h139 72 v133 (.v (.int .i64 n134))) fun v140 =>
  storeR Try.prog h139 (fun v141 h142 =>
  RetR h K (.v (.int .i64 0)) h142) 75 v136 v140) 37 v135 v137
def Try.r40_j127 (h : AH) (K : AV → AH → Prop) (a0 : AV) (i3 : Nat) (n70 : Int) (b105 : Bool) (i118 : Nat) (i122 : Nat) (h126 : AH) : Prop :=
  rGq b105 false (some (.ptr i122 0 0 0)) fun b143 v144 =>
  rGq b143 false (aLoad Try.prog h126 3 v144) fun b145 v146 =>
  rGq b145 false (aBin Try.prog .eql 3 v146 (.v (.int .i64 2))) fun b147 v148 =>
  okBool (pickR (some (.v (.bool b147))) (some (.v (.bool true))) (some v148)) fun b149 =>
  condB b149
  (okV (aLoad Try.prog h126 31 (.ptr i118 0 0 1)) fun v150 =>
  okInt .i64 (aLoad Try.prog h126 3 (.ptr i3 0 0 0)) fun n151 =>
  newO (.cells 3 1 [[(.v (.int .i64 n151))]] 0) h126 fun i152 h153 =>
  appR Try.prog h153 31 31 v150 (.sl i152 0 0 1 none) (fun v154 h155 =>
  storeR Try.prog h155 (fun v156 h157 =>
  Try.r40_j128 K h a0 i3 n70 i118 i122 h157) 31 v154 (.ptr i118 0 0 1)))
  (okInt .i64 (aLoad Try.prog h126 3 (.ptr i122 0 0 0)) fun n158 =>
  condB (n158 == 1)
  (okV (aLoad Try.prog h126 31 (.ptr i118 0 0 2)) fun v159 =>
  okInt .i64 (aLoad Try.prog h126 3 (.ptr i3 0 0 0)) fun n160 =>
  newO (.cells 3 1 [[(.v (.int .i64 n160))]] 0) h126 fun i161 h162 =>
  appR Try.prog h162 31 31 v159 (.sl i161 0 0 1 none) (fun v163 h164 =>
  storeR Try.prog h164 (fun v165 h166 =>
  Try.r40_j128 K h a0 i3 n70 i118 i122 h166) 31 v163 (.ptr i118 0 0 2)))
  (Try.r40_j128 K h a0 i3 n70 i118 i122 h126))
def Try.r40_j72 (K : AV → AH → Prop) (h : AH) (G : Nat → Option AV) (a0 : AV) (i0 : Nat) (i3 : Nat) (n70 : Int) (h71 : AH) : Prop :=
  okV (aNil a0) fun v72 =>
  okV (aFA Try.prog 80 1 v72) fun v73 =>
  okV (aLoad Try.prog h71 29 v73) fun v74 =>
  okV (aIA Try.prog h71 29 v74 (.v (.int .i64 n70))) fun v75 =>
  okV (aLoad Try.prog h71 37 v75) fun v76 =>
  newO (.cells 37 3 [[(.v (.int .i64 0)), (.v (.slice none 0 0)), (.v (.slice none 0 0))]] 0) h71 fun i77 h78 =>
  storeR Try.prog h78 (fun v79 h80 =>
  okInt .i64 (aLoad Try.prog h80 3 (.ptr i0 0 0 0)) fun n81 =>
  rGq (n81 == 6) true (some (.ptr i0 0 0 3)) fun b82 v83 =>
  rGq b82 true (aLoad Try.prog h80 3 v83) fun b84 v85 =>
  rGq b84 true (some (.ptr i77 0 0 0)) fun b86 v87 =>
  rGq b86 true (aLoad Try.prog h80 3 v87) fun b88 v89 =>
  rGq b88 true (aBin Try.prog .neq 3 v85 v89) fun b90 v91 =>
  okBool (pickR (some (.v (.bool b90))) (some v91) (some (.v (.bool false)))) fun b92 =>
  condB b92
  (RetR h K (.v (.int .i64 150)) h80)
  (okInt .i64 (aLoad Try.prog h80 3 (.ptr i77 0 0 0)) fun n93 =>
  condB (decide (n93 ≥ 1073741824))
  (RetR h K (.v (.int .i64 2)) h80)
  (okInt .i64 (aLoad Try.prog h80 3 (.ptr i0 0 0 0)) fun n94 =>
  rGq (n94 != 2) true (some a0) fun b95 v96 =>
  rGq b95 true (aLoad Try.prog h80 3 (.ptr i3 0 0 0)) fun b97 v98 =>
  rGe b97 true (fun k99 => callR Try.prog G 61 [v96, v98] h80 (fun v100 h101 =>
  k99 v100 h101)) h80 fun b102 v103 h104 =>
  okBool (pickR (some (.v (.bool b102))) (some v103) (some (.v (.bool false)))) fun b105 =>
  okInt .i64 (aLoad Try.prog h104 3 (.ptr i77 0 0 0)) fun n106 =>
  okV (aLoad Try.prog h104 31 (.ptr i77 0 0 1)) fun v107 =>
  okV (aLoad Try.prog h104 31 (.ptr i77 0 0 2)) fun v108 =>
  callR Try.prog G 28 [v107] h104 (fun v109 h110 =>
  (aLoad Try.prog h110 31 (.ptr i77 0 0 2) = some v108) ∧ (aLoad Try.prog h110 3 (.ptr i77 0 0 0) = some (.v (.int .i64 n106))) ∧ callR Try.prog G 62 [v109, (.fn (.func 60) [] [(.ptr i3 0 0 0)])] h110 (fun v111 h112 =>
  (aLoad Try.prog h112 31 (.ptr i77 0 0 2) = some v108) ∧ (aLoad Try.prog h112 3 (.ptr i77 0 0 0) = some (.v (.int .i64 n106))) ∧ callR Try.prog G 28 [v108] h112 (fun v113 h114 =>
  (aLoad Try.prog h114 3 (.ptr i77 0 0 0) = some (.v (.int .i64 n106))) ∧ callR Try.prog G 62 [v113, (.fn (.func 60) [] [(.ptr i3 0 0 0)])] h114 (fun v115 h116 =>
  (aLoad Try.prog h116 3 (.ptr i77 0 0 0) = some (.v (.int .i64 n106))) ∧ okV (aBuild Try.prog 37 [(0, some (.v (.int .i64 (IntKind.wrap .i64 (n106 + 1))))), (1, some v111), (2, some v115)]) fun v117 =>
  newO (.cells 37 3 [[(.v (.int .i64 0)), (.v (.slice none 0 0)), (.v (.slice none 0 0))]] 0) h116 fun i118 h119 =>
  (aLoad Try.prog h119 31 (.ptr i77 0 0 2) = some v108) ∧ (aLoad Try.prog h119 31 (.ptr i77 0 0 1) = some v107) ∧ (aLoad Try.prog h119 3 (.ptr i77 0 0 0) = some (.v (.int .i64 n106))) ∧ storeR Try.prog h119 (fun v120 h121 =>
  newO (.cells 75 2 [[(.v (.int .i64 0)), (.v (.int .i64 0))]] 0) h121 fun i122 h123 =>
  storeR Try.prog h123 (fun v124 h125 =>
  okInt .i64 (aLoad Try.prog h125 3 (.ptr i0 0 0 0)) fun n167 =>
  condB (n167 == 3)
  (storeR Try.prog h125 (fun v168 h169 =>
  Try.r40_j127 h K a0 i3 n70 b105 i118 i122 h169) 75 (.agg [(.v (.int .i64 0)), (.v (.int .i64 (-1)))]) (.ptr i122 0 0 0))
  (condB (n167 == 4)
  (storeR Try.prog h125 (fun v170 h171 =>
  Try.r40_j127 h K a0 i3 n70 b105 i118 i122 h171) 3 (.v (.int .i64 3)) (.ptr i122 0 0 0))
  (condB (n167 == 6)
  (storeR Try.prog h125 (fun v172 h173 =>
  Try.r40_j127 h K a0 i3 n70 b105 i118 i122 h173) 3 (.v (.int .i64 2)) (.ptr i122 0 0 0))
  (condB (n167 == 5)
  (condB b105
  (storeR Try.prog h125 (fun v174 h175 =>
  Try.r40_j127 h K a0 i3 n70 b105 i118 i122 h175) 3 (.v (.int .i64 2)) (.ptr i122 0 0 0))
  (Try.r40_j127 h K a0 i3 n70 b105 i118 i122 h125))
  (Try.r40_j127 h K a0 i3 n70 b105 i118 i122 h125))))) 75 (.agg [(.v (.int .i64 1)), (.v (.int .i64 n70))]) (.ptr i122 0 0 0)) 37 v117 (.ptr i118 0 0 0)))))))) 37 v76 (.ptr i77 0 0 0)
def Try.r40 (G : Nat → Option AV) (a0 a1 : AV) (h : AH) (K : AV → AH → Prop) : Prop :=
  onlyB (AV.one a1) (newO (.cells 33 (AV.cells a1).length [AV.cells a1] 0) h fun i0 h1 =>
  okInt .i64 (aLoad Try.prog h1 3 (.ptr i0 0 0 2)) fun n2 =>
  newO (.cells 3 1 [[(.v (.int .i64 0))]] 0) h1 fun i3 h4 =>
  storeR Try.prog h4 (fun v5 h6 =>
  okInt .i64 (aLoad Try.prog h6 3 (.ptr i3 0 0 0)) fun n7 =>
  rGq (decide (n7 < 0)) false (aLoad Try.prog h6 3 (.ptr i3 0 0 0)) fun b8 v9 =>
  rGq b8 false (some a0) fun b10 v11 =>
  rGq b10 false (aNil v11) fun b12 v13 =>
  rGq b12 false (aFA Try.prog 80 0 v13) fun b14 v15 =>
  rGq b14 false (aLoad Try.prog h6 72 v15) fun b16 v17 =>
  rGq b16 false (aLen Try.prog h6 72 v17) fun b18 v19 =>
  rGq b18 false (aBin Try.prog .geq 3 v9 v19) fun b20 v21 =>
  okBool (pickR (some (.v (.bool b20))) (some (.v (.bool true))) (some v21)) fun b22 =>
  rGq b22 false (some (.ptr i0 0 0 1)) fun b23 v24 =>
  rGq b23 false (aLoad Try.prog h6 3 v24) fun b25 v26 =>
  rGq b25 false (aBin Try.prog .lss 3 v26 (.v (.int .i64 0))) fun b27 v28 =>
  okBool (pickR (some (.v (.bool b27))) (some (.v (.bool true))) (some v28)) fun b29 =>
  rGq b29 false (some (.ptr i0 0 0 0)) fun b30 v31 =>
  rGq b30 false (aLoad Try.prog h6 3 v31) fun b32 v33 =>
  rGq b32 false (aBin Try.prog .eql 3 v33 (.v (.int .i64 2))) fun b34 v35 =>
  rGq b34 false (some v35) fun b36 v37 =>
  okG (some v37) true fun b38 g0 =>
  rGq b38 true (some (.ptr i0 0 0 1)) fun b39 v40 =>
  okG (some (g0 b39)) true fun c1 g2 =>
  rGq c1 true (aLoad Try.prog h6 3 v40) fun b41 v42 =>
  okG (some (g2 b41)) true fun c3 g4 =>
  rGq c3 true (some a0) fun b43 v44 =>
  okG (some (g4 b43)) true fun c5 g6 =>
  rGq c5 true (aNil v44) fun b45 v46 =>
  okG (some (g6 b45)) true fun c7 g8 =>
  rGq c7 true (aFA Try.prog 80 1 v46) fun b47 v48 =>
  okG (some (g8 b47)) true fun c9 g10 =>
  rGq c9 true (aLoad Try.prog h6 29 v48) fun b49 v50 =>
  okG (some (g10 b49)) true fun c11 g12 =>
  rGq c11 true (aLen Try.prog h6 29 v50) fun b51 v52 =>
  okG (some (g12 b51)) true fun c13 g14 =>
  rGq c13 true (aBin Try.prog .geq 3 v42 v52) fun b53 v54 =>
  rGq b36 false (pickR (some (g14 b53)) (some v54) (some (.v (.bool false)))) fun b55 v56 =>
  okBool (pickR (some (.v (.bool b55))) (some (.v (.bool true))) (some v56)) fun b57 =>
  condB b57
  (RetR h K (.v (.int .i64 1)) h6)
  (okInt .i64 (aLoad Try.prog h6 3 (.ptr i0 0 0 0)) fun n58 =>
  okInt .i64 (aLoad Try.prog h6 3 (.ptr i3 0 0 0)) fun n59 =>
  callR Try.prog G 59 [a0, (.v (.int .i64 n58)), (.v (.int .i64 n59))] h6 (fun v60 h61 =>
  okBool (some v60) fun b62 =>
  condB (!b62)
  (RetR h K (.v (.int .i64 180)) h61)
  (okV (aNil a0) fun v63 =>
  okV (aFA Try.prog 80 0 v63) fun v64 =>
  okV (aLoad Try.prog h61 72 v64) fun v65 =>
  okInt .i64 (aLoad Try.prog h61 3 (.ptr i3 0 0 0)) fun n66 =>
  okV (aIA Try.prog h61 72 v65 (.v (.int .i64 n66))) fun v67 =>
  okV (aFA Try.prog 75 1 v67) fun v68 =>
  okInt .i64 (aLoad Try.prog h61 3 v68) fun n69 =>
  okInt .i64 (aLoad Try.prog h61 3 (.ptr i0 0 0 0)) fun n176 =>
  condB (n176 == 2)
  (okInt .i64 (aLoad Try.prog h61 3 (.ptr i0 0 0 1)) fun n177 =>
  Try.r40_j72 K h G a0 i0 i3 n177 h61)
  (Try.r40_j72 K h G a0 i0 i3 n69 h61))))) 3 (.v (.int .i64 n2)) (.ptr i3 0 0 0))
theorem Try.c40 (G : Nat → Option AV) (a0 a1 : AV) (h : AH) (K : AV → AH → Prop) (hk : LowH h.length h → Try.r40 G a0 a1 h K) : SCall Try.prog G 40 [a0, a1] h K :=
  scall_of_rwp Try.tab40 [] Try.func40 rfl Try.ntmps40 (by kernel_rfl) (by show 2 ≤ 163; decide) (by kernel_rfl) (by kernel_rfl) hk
-- 41 (*skylark/admin.Admin).make
def Try.r41_l14_83 (K : AV → AH → Prop) (h : AH) (G : Nat → Option AV) (i0 : Nat) (i2 : Nat) (h24 : AH) (v81 : AV) (n82 : Int) (n142 : Int) : Prop :=
  ∃ (I83 : Nat → List AV → AH → Prop) (m84 : Nat), I83 m84 [(.v (.int .i64 n142))] h24 ∧ ∀ (m85 : Nat) (h86 : AH), h24.length ≤ h86.length → LowH h86.length h86 → ∀ (n87 : Int), I83 m85 [(.v (.int .i64 n87))] h86 →
  condB (decide (n87 < n82))
  (okV (aIA Try.prog h86 31 v81 (.v (.int .i64 n87))) fun v88 =>
  okInt .i64 (aLoad Try.prog h86 3 v88) fun n89 =>
  okV (aLoad Try.prog h86 25 (.ptr i0 0 0 0)) fun v90 =>
  okV (aNil v90) fun v91 =>
  okV (aFA Try.prog 80 0 v91) fun v92 =>
  okV (aLoad Try.prog h86 72 v92) fun v93 =>
  okV (aLoad Try.prog h86 25 (.ptr i0 0 0 0)) fun v94 =>
  okV (aNil v94) fun v95 =>
  okV (aFA Try.prog 80 1 v95) fun v96 =>
  okV (aLoad Try.prog h86 29 v96) fun v97 =>
  okInt .i64 (aLen Try.prog h86 29 v97) fun n98 =>
  okV (aIA Try.prog h86 72 v93 (.v (.int .i64 n89))) fun v99 =>
  storeR Try.prog h86 (fun v100 h101 =>
  nextR h24 I83 m85 [some (.ptr i0 0 0 0), some (.ptr i2 0 0 0), some v81, some (.v (.int .i64 n82))] [some (.ptr i0 0 0 0), some (.ptr i2 0 0 0), some v81, some (.v (.int .i64 n82))] [(.v (.int .i64 (IntKind.wrap .i64 (n87 + 1))))] h101) 75 (.agg [(.v (.int .i64 2)), (.v (.int .i64 n98))]) v99)
  (okV (aLoad Try.prog h86 25 (.ptr i0 0 0 0)) fun v102 =>
  okV (aLoad Try.prog h86 25 (.ptr i0 0 0 0)) fun v103 =>
  okV (aNil v103) fun v104 =>
  okV (aFA Try.prog 80 1 v104) fun v105 =>
  okV (aLoad Try.prog h86 29 v105) fun v106 =>
  okV (aLoad Try.prog h86 31 (.ptr i2 0 0 4)) fun v107 =>
  callR Try.prog G 28 [v107] h86 (fun v108 h109 =>
  (aLoad Try.prog h109 29 v105 = some v106) ∧ (aLoad Try.prog h109 25 (.ptr i0 0 0 0) = some v103) ∧ (aLoad Try.prog h109 25 (.ptr i0 0 0 0) = some v102) ∧ okV (aBuild Try.prog 37 [(0, some (.v (.int .i64 1))), (1, some v108)]) fun v110 =>
  okP (rowsFill 3 (List.replicate 1 [(.v (.int .i64 0)), (.v (.slice none 0 0)), (.v (.slice none 0 0))]) [(0, some v110)]) fun r111 => newO (.cells 37 3 r111 0) h109 fun i112 h113 =>
  (aLoad Try.prog h113 29 v105 = some v106) ∧ (aLoad Try.prog h113 25 (.ptr i0 0 0 0) = some v103) ∧ (aLoad Try.prog h113 25 (.ptr i0 0 0 0) = some v102) ∧ appR Try.prog h113 29 29 v106 (.sl i112 0 0 1 none) (fun v114 h115 =>
  (aLoad Try.prog h115 25 (.ptr i0 0 0 0) = some v102) ∧ okV (aNil v102) fun v116 =>
  okV (aFA Try.prog 80 1 v116) fun v117 =>
  storeR Try.prog h115 (fun v118 h119 =>
  okV (aLoad Try.prog h119 25 (.ptr i0 0 0 0)) fun v120 =>
  okV (aLoad Try.prog h119 25 (.ptr i0 0 0 0)) fun v121 =>
  okV (aNil v121) fun v122 =>
  okV (aFA Try.prog 80 2 v122) fun v123 =>
  okV (aFA Try.prog 77 0 v123) fun v124 =>
  okInt .i64 (aLoad Try.prog h119 3 v124) fun n125 =>
  okV (aLoad Try.prog h119 25 (.ptr i0 0 0 0)) fun v126 =>
  okV (aNil v126) fun v127 =>
  okV (aFA Try.prog 80 2 v127) fun v128 =>
  okV (aFA Try.prog 77 1 v128) fun v129 =>
  okV (aLoad Try.prog h119 31 v129) fun v130 =>
  callR Try.prog G 28 [v130] h119 (fun v131 h132 =>
  (aLoad Try.prog h132 3 v124 = some (.v (.int .i64 n125))) ∧ (aLoad Try.prog h132 25 (.ptr i0 0 0 0) = some v121) ∧ (aLoad Try.prog h132 25 (.ptr i0 0 0 0) = some v120) ∧ newO (.cells 3 1 [[(.v (.int .i64 16))]] 0) h132 fun i133 h134 =>
  (aLoad Try.prog h134 31 v129 = some v130) ∧ (aLoad Try.prog h134 25 (.ptr i0 0 0 0) = some v126) ∧ (aLoad Try.prog h134 3 v124 = some (.v (.int .i64 n125))) ∧ (aLoad Try.prog h134 25 (.ptr i0 0 0 0) = some v121) ∧ (aLoad Try.prog h134 25 (.ptr i0 0 0 0) = some v120) ∧ appR Try.prog h134 31 31 v131 (.sl i133 0 0 1 none) (fun v135 h136 =>
  (aLoad Try.prog h136 3 v124 = some (.v (.int .i64 n125))) ∧ (aLoad Try.prog h136 25 (.ptr i0 0 0 0) = some v121) ∧ (aLoad Try.prog h136 25 (.ptr i0 0 0 0) = some v120) ∧ okV (aBuild Try.prog 77 [(0, some (.v (.int .i64 (IntKind.wrap .i64 (n125 + 1))))), (1, some v135)]) fun v137 =>
  okV (aNil v120) fun v138 =>
  okV (aFA Try.prog 80 2 v138) fun v139 =>
  storeR Try.prog h136 (fun v140 h141 =>
  RetR h K (.v (.int .i64 0)) h141) 77 v137 v139))) 29 v114 v117)))
def Try.r41_l6_21 (G : Nat → Option AV) (h : AH) (K : AV → AH → Prop) (i0 : Nat) (i2 : Nat) (h6 : AH) (v19 : AV) (n20 : Int) (n143 : Int) : Prop :=
  ∃ (I21 : Nat → List AV → AH → Prop) (m22 : Nat), I21 m22 [(.v (.int .i64 n143))] h6 ∧ ∀ (m23 : Nat) (h24 : AH), h6.length ≤ h24.length → LowH h24.length h24 → ∀ (n25 : Int), I21 m23 [(.v (.int .i64 n25))] h24 →
  condB (decide (n25 < n20))
  (okV (aIA Try.prog h24 31 v19 (.v (.int .i64 n25))) fun v26 =>
  okInt .i64 (aLoad Try.prog h24 3 v26) fun n27 =>
  okV (aLoad Try.prog h24 25 (.ptr i0 0 0 0)) fun v28 =>
  okV (aNil v28) fun v29 =>
  okV (aFA Try.prog 80 0 v29) fun v30 =>
  okV (aLoad Try.prog h24 72 v30) fun v31 =>
  okV (aIA Try.prog h24 72 v31 (.v (.int .i64 n27))) fun v32 =>
  okV (aFA Try.prog 75 0 v32) fun v33 =>
  okInt .i64 (aLoad Try.prog h24 3 v33) fun n34 =>
  rGq (n34 != 0) false (some (.ptr i2 0 0 4)) fun b35 v36 =>
  rGq b35 false (aLoad Try.prog h24 31 v36) fun b37 v38 =>
  rGq b37 false (some (.v (.int .i64 n25))) fun b39 v40 =>
  rGq b39 false (aSlice Try.prog h24 31 v38 none (some (some v40)) none) fun b41 v42 =>
  rGq b41 false (some (.v (.int .i64 n27))) fun b43 v44 =>
  rGe b43 false (fun k45 => callR Try.prog G 65 [v42, v44] h24 (fun v46 h47 =>
  k45 v46 h47)) h24 fun b48 v49 h50 =>
  okBool (pickR (some (.v (.bool b48))) (some (.v (.bool true))) (some v49)) fun b51 =>
  condB b51
  (RetR h K (.v (.int .i64 180)) h50)
  (nextR h6 I21 m23 [some (.ptr i0 0 0 0), some (.ptr i2 0 0 0), some v19, some (.v (.int .i64 n20))] [some (.ptr i0 0 0 0), some (.ptr i2 0 0 0), some v19, some (.v (.int .i64 n20))] [(.v (.int .i64 (IntKind.wrap .i64 (n25 + 1))))] h50))
  (okV (aLoad Try.prog h24 25 (.ptr i0 0 0 0)) fun v52 =>
  okV (aNil v52) fun v53 =>
  okV (aFA Try.prog 80 1 v53) fun v54 =>
  okV (aLoad Try.prog h24 29 v54) fun v55 =>
  okInt .i64 (aLen Try.prog h24 29 v55) fun n56 =>
  rGq (decide (n56 ≥ 8)) false (aLoad Try.prog h24 25 (.ptr i0 0 0 0)) fun b57 v58 =>
  rGq b57 false (aNil v58) fun b59 v60 =>
  rGq b59 false (aFA Try.prog 80 3 v60) fun b61 v62 =>
  rGq b61 false (aLoad Try.prog h24 78 v62) fun b63 v64 =>
  rGq b63 false (aBin Try.prog .neq 78 v64 (.v (.pointer none))) fun b65 v66 =>
  okBool (pickR (some (.v (.bool b65))) (some (.v (.bool true))) (some v66)) fun b67 =>
  rGq b67 false (aLoad Try.prog h24 25 (.ptr i0 0 0 0)) fun b68 v69 =>
  rGq b68 false (aNil v69) fun b70 v71 =>
  rGq b70 false (aFA Try.prog 80 2 v71) fun b72 v73 =>
  rGq b72 false (aFA Try.prog 77 0 v73) fun b74 v75 =>
  rGq b74 false (aLoad Try.prog h24 3 v75) fun b76 v77 =>
  rGq b76 false (aBin Try.prog .geq 3 v77 (.v (.int .i64 1073741824))) fun b78 v79 =>
  okBool (pickR (some (.v (.bool b78))) (some (.v (.bool true))) (some v79)) fun b80 =>
  condB b80
  (RetR h K (.v (.int .i64 2)) h24)
  (okV (aLoad Try.prog h24 31 (.ptr i2 0 0 4)) fun v81 =>
  okInt .i64 (aLen Try.prog h24 31 v81) fun n82 =>
  Try.r41_l14_83 K h G i0 i2 h24 v81 n82 0))
def Try.r41 (G : Nat → Option AV) (a0 a1 : AV) (h : AH) (K : AV → AH → Prop) : Prop :=
  onlyB (AV.one a0) (newO (.cells 25 (AV.cells a0).length [AV.cells a0] 0) h fun i0 h1 =>
  onlyB (AV.one a1) (newO (.cells 33 (AV.cells a1).length [AV.cells a1] 0) h1 fun i2 h3 =>
  okV (aLoad Try.prog h3 31 (.ptr i2 0 0 4)) fun v4 =>
  callR Try.prog G 63 [v4, (.fn (.func 64) [] [(.ptr i0 0 0 0)])] h3 (fun v5 h6 =>
  okBool (some v5) fun b7 =>
  condB b7
  (RetR h K (.v (.int .i64 1)) h6)
  (okV (aLoad Try.prog h6 31 (.ptr i2 0 0 4)) fun v8 =>
  okInt .i64 (aLen Try.prog h6 31 v8) fun n9 =>
  rGq (decide (n9 < 1)) false (some (.ptr i2 0 0 4)) fun b10 v11 =>
  rGq b10 false (aLoad Try.prog h6 31 v11) fun b12 v13 =>
  rGq b12 false (aLen Try.prog h6 31 v13) fun b14 v15 =>
  rGq b14 false (aBin Try.prog .gtr 3 v15 (.v (.int .i64 8))) fun b16 v17 =>
  okBool (pickR (some (.v (.bool b16))) (some (.v (.bool true))) (some v17)) fun b18 =>
  condB b18
  (RetR h K (.v (.int .i64 180)) h6)
  (okV (aLoad Try.prog h6 31 (.ptr i2 0 0 4)) fun v19 =>
  okInt .i64 (aLen Try.prog h6 31 v19) fun n20 =>
  Try.r41_l6_21 G h K i0 i2 h6 v19 n20 0)))))
theorem Try.c41 (G : Nat → Option AV) (a0 a1 : AV) (h : AH) (K : AV → AH → Prop) (hk : LowH h.length h → Try.r41 G a0 a1 h K) : SCall Try.prog G 41 [a0, a1] h K :=
  scall_of_rwp Try.tab41 [(6, [(26, (.int .i64))], [2, 3, 24, 25]), (14, [(73, (.int .i64))], [2, 3, 71, 72])] Try.func41 rfl Try.ntmps41 (by kernel_rfl) (by show 2 ≤ 121; decide) (by kernel_rfl) (by kernel_rfl) hk
-- 42 (*skylark/admin.Admin).begin
def Try.r42 (G : Nat → Option AV) (a0 a1 : AV) (h : AH) (K : AV → AH → Prop) : Prop :=
  onlyB (AV.one a1) (newO (.cells 33 (AV.cells a1).length [AV.cells a1] 0) h fun i0 h1 =>
  okV (aNil a0) fun v2 =>
  okV (aFA Try.prog 80 3 v2) fun v3 =>
  okV (aLoad Try.prog h1 78 v3) fun v4 =>
  okBool (aBin Try.prog .neq 78 v4 (.v (.pointer none))) fun b5 =>
  condB b5
  (RetR h K (.v (.int .i64 180)) h1)
  (okV (aNil a0) fun v6 =>
  okV (aFA Try.prog 80 2 v6) fun v7 =>
  okV (aFA Try.prog 77 0 v7) fun v8 =>
  okInt .i64 (aLoad Try.prog h1 3 v8) fun n9 =>
  condB (decide (n9 ≥ 1073741824))
  (RetR h K (.v (.int .i64 2)) h1)
  (okV (aNil a0) fun v10 =>
  okV (aFA Try.prog 80 2 v10) fun v11 =>
  okV (aLoad Try.prog h1 77 v11) fun v12 =>
  okV (aNil a0) fun v13 =>
  okV (aFA Try.prog 80 2 v13) fun v14 =>
  okV (aFA Try.prog 77 0 v14) fun v15 =>
  okInt .i64 (aLoad Try.prog h1 3 v15) fun n16 =>
  okV (aLoad Try.prog h1 31 (.ptr i0 0 0 4)) fun v17 =>
  callR Try.prog G 28 [v17] h1 (fun v18 h19 =>
  (aLoad Try.prog h19 3 v15 = some (.v (.int .i64 n16))) ∧ (aLoad Try.prog h19 77 v11 = some v12) ∧ okV (aBuild Try.prog 77 [(0, some (.v (.int .i64 (IntKind.wrap .i64 (n16 + 1))))), (1, some v18)]) fun v20 =>
  okV (aBuild Try.prog 138 [(0, some v12), (1, some v20)]) fun v21 =>
  newO (.cells 138 6 [[(.v (.int .i64 0)), (.v (.slice none 0 0)), (.v (.int .i64 0)), (.v (.slice none 0 0)), (.v (.string (ByteArray.mk #[]))), (.v (.bool false))]] 0) h19 fun i22 h23 =>
  (aLoad Try.prog h23 31 (.ptr i0 0 0 4) = some v17) ∧ (aLoad Try.prog h23 3 v15 = some (.v (.int .i64 n16))) ∧ (aLoad Try.prog h23 77 v11 = some v12) ∧ storeR Try.prog h23 (fun v24 h25 =>
  okV (aLoad Try.prog h25 31 (.ptr i0 0 0 4)) fun v26 =>
  okInt .i64 (aLen Try.prog h25 31 v26) fun n27 =>
  okV (aNil a0) fun v28 =>
  okV (aFA Try.prog 80 1 v28) fun v29 =>
  okV (aLoad Try.prog h25 29 v29) fun v30 =>
  okInt .i64 (aLen Try.prog h25 29 v30) fun n31 =>
  rGq (n27 != n31) false (aLoad Try.prog h25 138 (.ptr i22 0 0 0)) fun b32 v33 =>
  rGe b32 false (fun k34 => callR Try.prog G 66 [v33] h25 (fun v35 h36 =>
  k34 v35 h36)) h25 fun b37 v38 h39 =>
  rGq b37 false (aBin Try.prog .neq 26 v38 (.v (.int .i64 0))) fun b40 v41 =>
  okBool (pickR (some (.v (.bool b40))) (some (.v (.bool true))) (some v41)) fun b42 =>
  condB b42
  (RetR h K (.v (.int .i64 70)) h39)
  (okV (aNil a0) fun v43 =>
  okV (aFA Try.prog 80 3 v43) fun v44 =>
  storeR Try.prog h39 (fun v45 h46 =>
  RetR h K (.v (.int .i64 0)) h46) 78 (.ptr i22 0 0 0) v44)) 138 v21 (.ptr i22 0 0 0)))))
theorem Try.c42 (G : Nat → Option AV) (a0 a1 : AV) (h : AH) (K : AV → AH → Prop) (hk : LowH h.length h → Try.r42 G a0 a1 h K) : SCall Try.prog G 42 [a0, a1] h K :=
  scall_of_rwp Try.tab42 [] Try.func42 rfl Try.ntmps42 (by kernel_rfl) (by show 2 ≤ 51; decide) (by kernel_rfl) (by kernel_rfl) hk
-- 43 (*skylark/admin.Admin).moved
def Try.r43 (G : Nat → Option AV) (a0 a1 : AV) (h : AH) (K : AV → AH → Prop) : Prop :=
  onlyB (AV.one a1) (newO (.cells 33 (AV.cells a1).length [AV.cells a1] 0) h fun i0 h1 =>
  okV (aNil a0) fun v2 =>
  okV (aFA Try.prog 80 3 v2) fun v3 =>
  okV (aLoad Try.prog h1 78 v3) fun v4 =>
  okBool (aBin Try.prog .eql 78 v4 (.v (.pointer none))) fun b5 =>
  condB b5
  (RetR h K (.v (.int .i64 180)) h1)
  (okV (aNil a0) fun v6 =>
  okV (aFA Try.prog 80 3 v6) fun v7 =>
  okV (aLoad Try.prog h1 78 v7) fun v8 =>
  okV (aNil v8) fun v9 =>
  okV (aLoad Try.prog h1 138 v9) fun v10 =>
  okStr (aLoad Try.prog h1 9 (.ptr i0 0 0 5)) fun s11 =>
  callR Try.prog G 67 [v10, (.v (.string s11))] h1 (fun v12 h13 =>
  okV (extV 0 v12) fun v14 =>
  okInt .i64 (extV 1 v12) fun n15 =>
  newO (.cells 138 6 [[(.v (.int .i64 0)), (.v (.slice none 0 0)), (.v (.int .i64 0)), (.v (.slice none 0 0)), (.v (.string (ByteArray.mk #[]))), (.v (.bool false))]] 0) h13 fun i16 h17 =>
  (aLoad Try.prog h17 9 (.ptr i0 0 0 5) = some (.v (.string s11))) ∧ (aLoad Try.prog h17 138 v9 = some v10) ∧ (aLoad Try.prog h17 78 v7 = some v8) ∧ storeR Try.prog h17 (fun v18 h19 =>
  condB (n15 == 0)
  (okV (aNil a0) fun v20 =>
  okV (aFA Try.prog 80 3 v20) fun v21 =>
  storeR Try.prog h19 (fun v22 h23 =>
  RetR h K (.v (.int .i64 n15)) h23) 78 (.ptr i16 0 0 0) v21)
  (RetR h K (.v (.int .i64 n15)) h19)) 138 v14 (.ptr i16 0 0 0))))
theorem Try.c43 (G : Nat → Option AV) (a0 a1 : AV) (h : AH) (K : AV → AH → Prop) (hk : LowH h.length h → Try.r43 G a0 a1 h K) : SCall Try.prog G 43 [a0, a1] h K :=
  scall_of_rwp Try.tab43 [] Try.func43 rfl Try.ntmps43 (by kernel_rfl) (by show 2 ≤ 30; decide) (by kernel_rfl) (by kernel_rfl) hk
-- 44 (*skylark/admin.Admin).done
def Try.r44 (a0 a1 : AV) (h : AH) (K : AV → AH → Prop) : Prop :=
  onlyB (AV.one a1) (newO (.cells 33 (AV.cells a1).length [AV.cells a1] 0) h fun i0 h1 =>
  okV (aNil a0) fun v2 =>
  okV (aFA Try.prog 80 3 v2) fun v3 =>
  okV (aLoad Try.prog h1 78 v3) fun v4 =>
  okBool (aBin Try.prog .eql 78 v4 (.v (.pointer none))) fun b5 =>
  condB b5
  (RetR h K (.v (.int .i64 180)) h1)
  (okV (aNil a0) fun v6 =>
  okV (aFA Try.prog 80 3 v6) fun v7 =>
  okV (aLoad Try.prog h1 78 v7) fun v8 =>
  okV (aNil v8) fun v9 =>
  okV (aFA Try.prog 138 1 v9) fun v10 =>
  okV (aLoad Try.prog h1 77 v10) fun v11 =>
  okV (aNil a0) fun v12 =>
  okV (aFA Try.prog 80 2 v12) fun v13 =>
  storeR Try.prog h1 (fun v14 h15 =>
  okV (aNil a0) fun v16 =>
  okV (aFA Try.prog 80 3 v16) fun v17 =>
  storeR Try.prog h15 (fun v18 h19 =>
  RetR h K (.v (.int .i64 0)) h19) 78 (.v (.pointer none)) v17) 77 v11 v13))
theorem Try.c44 (G : Nat → Option AV) (a0 a1 : AV) (h : AH) (K : AV → AH → Prop) (hk : LowH h.length h → Try.r44 a0 a1 h K) : SCall Try.prog G 44 [a0, a1] h K :=
  scall_of_rwp Try.tab44 [] Try.func44 rfl Try.ntmps44 (by kernel_rfl) (by show 2 ≤ 23; decide) (by kernel_rfl) (by kernel_rfl) hk
-- 58 math/bits.Mul64
def Try.r58 (a0 a1 : AV) (h : AH) (K : AV → AH → Prop) : Prop :=
  okInt .u64 (some a0) fun n0 =>
  okInt .u64 (aBin Try.prog .and 24 (.v (.int .u64 n0)) (.v (.int .u64 4294967295))) fun n1 =>
  okInt .u64 (some a0) fun n2 =>
  okInt .u64 (aBin Try.prog .shr 24 (.v (.int .u64 n2)) (.v (.int .u64 32))) fun n3 =>
  okInt .u64 (some a1) fun n4 =>
  okInt .u64 (aBin Try.prog .and 24 (.v (.int .u64 n4)) (.v (.int .u64 4294967295))) fun n5 =>
  okInt .u64 (some a1) fun n6 =>
  okInt .u64 (aBin Try.prog .shr 24 (.v (.int .u64 n6)) (.v (.int .u64 32))) fun n7 =>
  okInt .u64 (aBin Try.prog .shr 24 (.v (.int .u64 (IntKind.wrap .u64 (n1 * n5)))) (.v (.int .u64 32))) fun n8 =>
  okInt .u64 (aBin Try.prog .and 24 (.v (.int .u64 (IntKind.wrap .u64 ((IntKind.wrap .u64 (n3 * n5)) + n8)))) (.v (.int .u64 4294967295))) fun n9 =>
  okInt .u64 (aBin Try.prog .shr 24 (.v (.int .u64 (IntKind.wrap .u64 ((IntKind.wrap .u64 (n3 * n5)) + n8)))) (.v (.int .u64 32))) fun n10 =>
  okInt .u64 (aBin Try.prog .shr 24 (.v (.int .u64 (IntKind.wrap .u64 (n9 + (IntKind.wrap .u64 (n1 * n7)))))) (.v (.int .u64 32))) fun n11 =>
  okInt .u64 (some a0) fun n12 =>
  okInt .u64 (some a1) fun n13 =>
  RetR h K (.tup [(.v (.int .u64 (IntKind.wrap .u64 ((IntKind.wrap .u64 ((IntKind.wrap .u64 (n3 * n7)) + n10)) + n11)))), (.v (.int .u64 (IntKind.wrap .u64 (n12 * n13))))]) h
theorem Try.c58 (G : Nat → Option AV) (a0 a1 : AV) (h : AH) (K : AV → AH → Prop) (hk : LowH h.length h → Try.r58 a0 a1 h K) : SCall Try.prog G 58 [a0, a1] h K :=
  scall_of_rwp Try.tab58 [] Try.func58 rfl Try.ntmps58 (by kernel_rfl) (by show 2 ≤ 51; decide) (by kernel_rfl) (by kernel_rfl) hk
-- 59 (*skylark/admin.Admin).may
def Try.r59 (G : Nat → Option AV) (a0 a1 a2 : AV) (h : AH) (K : AV → AH → Prop) : Prop :=
  okV (aNil a0) fun v0 =>
  okV (aFA Try.prog 80 0 v0) fun v1 =>
  okV (aLoad Try.prog h 72 v1) fun v2 =>
  okInt .i64 (some a2) fun n3 =>
  okV (aIA Try.prog h 72 v2 (.v (.int .i64 n3))) fun v4 =>
  okV (aFA Try.prog 75 0 v4) fun v5 =>
  okInt .i64 (aLoad Try.prog h 3 v5) fun n6 =>
  okInt .i64 (some a1) fun n7 =>
  condB (n7 == 2)
  (RetR h K (.v (.bool (n6 == 0))) h)
  (condB (n7 == 3)
  (rGq (n6 != 0) true (some a0) fun b8 v9 =>
  rGq b8 true (some a2) fun b10 v11 =>
  rGe b10 true (fun k12 => callR Try.prog G 61 [v9, v11] h (fun v13 h14 =>
  k12 v13 h14)) h fun b15 v16 h17 =>
  rGq b15 true (aUn .not v16) fun b18 v19 =>
  okBool (pickR (some (.v (.bool b18))) (some v19) (some (.v (.bool false)))) fun b20 =>
  RetR h K (.v (.bool b20)) h17)
  (condB (n7 == 4)
  (rGq (n6 == 2) false (some (.v (.int .i64 n6))) fun b21 v22 =>
  rGq b21 false (aBin Try.prog .eql 3 v22 (.v (.int .i64 1))) fun b23 v24 =>
  okBool (pickR (some (.v (.bool b23))) (some (.v (.bool true))) (some v24)) fun b25 =>
  RetR h K (.v (.bool b25)) h)
  (condB (n7 == 5)
  (RetR h K (.v (.bool (n6 == 3))) h)
  (rGq (n6 == 1) true (some a0) fun b26 v27 =>
  rGq b26 true (aNil v27) fun b28 v29 =>
  rGq b28 true (aFA Try.prog 80 0 v29) fun b30 v31 =>
  rGq b30 true (aLoad Try.prog h 72 v31) fun b32 v33 =>
  rGq b32 true (some a0) fun b34 v35 =>
  rGq b34 true (aNil v35) fun b36 v37 =>
  rGq b36 true (aFA Try.prog 80 1 v37) fun b38 v39 =>
  rGq b38 true (aLoad Try.prog h 29 v39) fun b40 v41 =>
  rGq b40 true (some a0) fun b42 v43 =>
  rGq b42 true (aNil v43) fun b44 v45 =>
  rGq b44 true (aFA Try.prog 80 0 v45) fun b46 v47 =>
  rGq b46 true (aLoad Try.prog h 72 v47) fun b48 v49 =>
  rGq b48 true (some a2) fun b50 v51 =>
  rGq b50 true (aIA Try.prog h 72 v49 v51) fun b52 v53 =>
  rGq b52 true (aFA Try.prog 75 1 v53) fun b54 v55 =>
  rGq b54 true (aLoad Try.prog h 3 v55) fun b56 v57 =>
  rGq b56 true (aIA Try.prog h 29 v41 v57) fun b58 v59 =>
  rGq b58 true (aFA Try.prog 37 1 v59) fun b60 v61 =>
  rGq b60 true (aLoad Try.prog h 31 v61) fun b62 v63 =>
  rGq b62 true (aIA Try.prog h 31 v63 (.v (.int .i64 0))) fun b64 v65 =>
  rGq b64 true (aLoad Try.prog h 3 v65) fun b66 v67 =>
  rGq b66 true (aIA Try.prog h 72 v33 v67) fun b68 v69 =>
  rGq b68 true (aFA Try.prog 75 0 v69) fun b70 v71 =>
  rGq b70 true (aLoad Try.prog h 3 v71) fun b72 v73 =>
  rGq b72 true (aBin Try.prog .neq 3 v73 (.v (.int .i64 3))) fun b74 v75 =>
  okBool (pickR (some (.v (.bool b74))) (some v75) (some (.v (.bool false)))) fun b76 =>
  RetR h K (.v (.bool b76)) h))))
theorem Try.c59 (G : Nat → Option AV) (a0 a1 a2 : AV) (h : AH) (K : AV → AH → Prop) (hk : LowH h.length h → Try.r59 G a0 a1 a2 h K) : SCall Try.prog G 59 [a0, a1, a2] h K :=
  scall_of_rwp Try.tab59 [] Try.func59 rfl Try.ntmps59 (by kernel_rfl) (by show 3 ≤ 72; decide) (by kernel_rfl) (by kernel_rfl) hk
-- 60 (*skylark/admin.Admin).onBrick$1
def Try.r60 (a0 a1 : AV) (h : AH) (K : AV → AH → Prop) : Prop :=
  okInt .i64 (some a0) fun n0 =>
  okInt .i64 (aLoad Try.prog h 3 a1) fun n1 =>
  RetR h K (.v (.bool (n0 == n1))) h
theorem Try.c60 (G : Nat → Option AV) (a0 a1 : AV) (h : AH) (K : AV → AH → Prop) (hk : LowH h.length h → Try.r60 a0 a1 h K) : SCall Try.prog G 60 [a0, a1] h K :=
  scall_of_rwp Try.tab60 [] Try.func60 rfl Try.ntmps60 (by kernel_rfl) (by show 2 ≤ 7; decide) (by kernel_rfl) (by kernel_rfl) hk
-- 61 (*skylark/admin.Admin).alone
def Try.r61 (G : Nat → Option AV) (a0 a1 : AV) (h : AH) (K : AV → AH → Prop) : Prop :=
  okV (aNil a0) fun v0 =>
  okV (aFA Try.prog 80 1 v0) fun v1 =>
  okV (aLoad Try.prog h 29 v1) fun v2 =>
  okV (aNil a0) fun v3 =>
  okV (aFA Try.prog 80 0 v3) fun v4 =>
  okV (aLoad Try.prog h 72 v4) fun v5 =>
  okInt .i64 (some a1) fun n6 =>
  okV (aIA Try.prog h 72 v5 (.v (.int .i64 n6))) fun v7 =>
  okV (aFA Try.prog 75 1 v7) fun v8 =>
  okInt .i64 (aLoad Try.prog h 3 v8) fun n9 =>
  okV (aIA Try.prog h 29 v2 (.v (.int .i64 n9))) fun v10 =>
  okV (aFA Try.prog 37 1 v10) fun v11 =>
  okV (aLoad Try.prog h 31 v11) fun v12 =>
  okInt .i64 (some a1) fun n13 =>
  newO (.cells 3 1 [[(.v (.int .i64 n13))]] 0) h fun i14 h15 =>
  (aLoad Try.prog h15 31 v11 = some v12) ∧ (aIA Try.prog h15 29 v2 (.v (.int .i64 n9)) = some v10) ∧ (aLoad Try.prog h15 3 v8 = some (.v (.int .i64 n9))) ∧ (aIA Try.prog h15 72 v5 (.v (.int .i64 n6)) = some v7) ∧ (aLoad Try.prog h15 72 v4 = some v5) ∧ (aLoad Try.prog h15 29 v1 = some v2) ∧ callR Try.prog G 77 [v12, (.sl i14 0 0 1 none)] h15 (fun v16 h17 =>
  okBool (some v16) fun b18 =>
  RetR h K (.v (.bool b18)) h17)
theorem Try.c61 (G : Nat → Option AV) (a0 a1 : AV) (h : AH) (K : AV → AH → Prop) (hk : LowH h.length h → Try.r61 G a0 a1 h K) : SCall Try.prog G 61 [a0, a1] h K :=
  scall_of_rwp Try.tab61 [] Try.func61 rfl Try.ntmps61 (by kernel_rfl) (by show 2 ≤ 23; decide) (by kernel_rfl) (by kernel_rfl) hk
-- 62 slices.DeleteFunc[[]int,int]
def Try.r62_l5_3 (K : AV → AH → Prop) (h : AH) (G : Nat → Option AV) (a0 : AV) (a1 : AV) (h1 : AH) (n22 : Int) (n23 : Int) : Prop :=
  ∃ (I3 : Nat → List AV → AH → Prop) (m4 : Nat), I3 m4 [(.v (.int .i64 n22)), (.v (.int .i64 n23))] h1 ∧ ∀ (m5 : Nat) (h6 : AH), h1.length ≤ h6.length → LowH h6.length h6 → ∀ (n7 : Int) (n8 : Int), I3 m5 [(.v (.int .i64 n7)), (.v (.int .i64 n8))] h6 →
  okInt .i64 (aLen Try.prog h6 31 a0) fun n9 =>
  condB (decide (n8 < n9))
  (okV (aIA Try.prog h6 31 a0 (.v (.int .i64 n8))) fun v10 =>
  okInt .i64 (aLoad Try.prog h6 3 v10) fun n11 =>
  callU Try.prog G h6 (fun v12 h13 =>
  okBool (some v12) fun b14 =>
  condB (!b14)
  (okV (aIA Try.prog h13 31 a0 (.v (.int .i64 n7))) fun v15 =>
  storeR Try.prog h13 (fun v16 h17 =>
  nextR h1 I3 m5 [some a0, some a1] [some a0, some a1] [(.v (.int .i64 (IntKind.wrap .i64 (n7 + 1)))), (.v (.int .i64 (IntKind.wrap .i64 (n8 + 1))))] h17) 3 (.v (.int .i64 n11)) v15)
  (nextR h1 I3 m5 [some a0, some a1] [some a0, some a1] [(.v (.int .i64 n7)), (.v (.int .i64 (IntKind.wrap .i64 (n8 + 1))))] h13)) [(.v (.int .i64 n11))] a1)
  (okV (aSlice Try.prog h6 31 a0 (some (some (.v (.int .i64 n7)))) none none) fun v18 =>
  clearR Try.prog h6 31 v18 (fun v19 h20 =>
  okV (aSlice Try.prog h20 31 a0 none (some (some (.v (.int .i64 n7)))) none) fun v21 =>
  RetR h K v21 h20))
def Try.r62 (G : Nat → Option AV) (a0 a1 : AV) (h : AH) (K : AV → AH → Prop) : Prop :=
  callR Try.prog G 78 [a0, a1] h (fun v0 h1 =>
  okInt .i64 (some v0) fun n2 =>
  condB (n2 == (-1))
  (RetR h K a0 h1)
  (Try.r62_l5_3 K h G a0 a1 h1 n2 (IntKind.wrap .i64 (n2 + 1))))
theorem Try.c62 (G : Nat → Option AV) (a0 a1 : AV) (h : AH) (K : AV → AH → Prop) (hk : LowH h.length h → Try.r62 G a0 a1 h K) : SCall Try.prog G 62 [a0, a1] h K :=
  scall_of_rwp Try.tab62 [(5, [(5, (.int .i64)), (6, (.int .i64))], [0, 1])] Try.func62 rfl Try.ntmps62 (by kernel_rfl) (by show 2 ≤ 42; decide) (by kernel_rfl) (by kernel_rfl) hk
-- 63 slices.ContainsFunc[[]int,int]
def Try.r63 (G : Nat → Option AV) (a0 a1 : AV) (h : AH) (K : AV → AH → Prop) : Prop :=
  callR Try.prog G 78 [a0, a1] h (fun v0 h1 =>
  okInt .i64 (some v0) fun n2 =>
  RetR h K (.v (.bool (decide (n2 ≥ 0)))) h1)
theorem Try.c63 (G : Nat → Option AV) (a0 a1 : AV) (h : AH) (K : AV → AH → Prop) (hk : LowH h.length h → Try.r63 G a0 a1 h K) : SCall Try.prog G 63 [a0, a1] h K :=
  scall_of_rwp Try.tab63 [] Try.func63 rfl Try.ntmps63 (by kernel_rfl) (by show 2 ≤ 9; decide) (by kernel_rfl) (by kernel_rfl) hk
-- 64 (*skylark/admin.Admin).make$1
def Try.r64 (a0 a1 : AV) (h : AH) (K : AV → AH → Prop) : Prop :=
  okInt .i64 (some a0) fun n0 =>
  rGq (decide (n0 < 0)) false (some a0) fun b1 v2 =>
  rGq b1 false (aLoad Try.prog h 25 a1) fun b3 v4 =>
  rGq b3 false (aNil v4) fun b5 v6 =>
  rGq b5 false (aFA Try.prog 80 0 v6) fun b7 v8 =>
  rGq b7 false (aLoad Try.prog h 72 v8) fun b9 v10 =>
  rGq b9 false (aLen Try.prog h 72 v10) fun b11 v12 =>
  rGq b11 false (aBin Try.prog .geq 3 v2 v12) fun b13 v14 =>
  okBool (pickR (some (.v (.bool b13))) (some (.v (.bool true))) (some v14)) fun b15 =>
  RetR h K (.v (.bool b15)) h
theorem Try.c64 (G : Nat → Option AV) (a0 a1 : AV) (h : AH) (K : AV → AH → Prop) (hk : LowH h.length h → Try.r64 a0 a1 h K) : SCall Try.prog G 64 [a0, a1] h K :=
  scall_of_rwp Try.tab64 [] Try.func64 rfl Try.ntmps64 (by kernel_rfl) (by show 2 ≤ 15; decide) (by kernel_rfl) (by kernel_rfl) hk
-- 65 slices.Contains[[]int,int]
def Try.r65 (G : Nat → Option AV) (a0 a1 : AV) (h : AH) (K : AV → AH → Prop) : Prop :=
  okInt .i64 (some a1) fun n0 =>
  callR Try.prog G 79 [a0, (.v (.int .i64 n0))] h (fun v1 h2 =>
  okInt .i64 (some v1) fun n3 =>
  RetR h K (.v (.bool (decide (n3 ≥ 0)))) h2)
theorem Try.c65 (G : Nat → Option AV) (a0 a1 : AV) (h : AH) (K : AV → AH → Prop) (hk : LowH h.length h → Try.r65 G a0 a1 h K) : SCall Try.prog G 65 [a0, a1] h K :=
  scall_of_rwp Try.tab65 [] Try.func65 rfl Try.ntmps65 (by kernel_rfl) (by show 2 ≤ 9; decide) (by kernel_rfl) (by kernel_rfl) hk
-- 66 (skylark/layout.Change).Check
def Try.r66 (G : Nat → Option AV) (a0 : AV) (h : AH) (K : AV → AH → Prop) : Prop :=
  onlyB (AV.one a0) (newO (.cells 138 (AV.cells a0).length [AV.cells a0] 0) h fun i0 h1 =>
  okStr (aLoad Try.prog h1 9 (.ptr i0 0 0 4)) fun s2 =>
  okBool (aLoad Try.prog h1 4 (.ptr i0 0 0 5)) fun b3 =>
  newO (.cells 154 2 [[(.v (.string (ByteArray.mk #[]))), (.v (.bool false))]] 0) h1 fun i4 h5 =>
  storeR Try.prog h5 (fun v6 h7 =>
  okV (aLoad Try.prog h7 77 (.ptr i0 0 0 0)) fun v8 =>
  callR Try.prog G 80 [v8] h7 (fun v9 h10 =>
  okInt .i64 (some v9) fun n11 =>
  rGq (n11 != 0) false (some (.ptr i0 0 0 2)) fun b12 v13 =>
  rGq b12 false (aLoad Try.prog h10 77 v13) fun b14 v15 =>
  rGe b14 false (fun k16 => callR Try.prog G 80 [v15] h10 (fun v17 h18 =>
  k16 v17 h18)) h10 fun b19 v20 h21 =>
  rGq b19 false (aBin Try.prog .neq 26 v20 (.v (.int .i64 0))) fun b22 v23 =>
  okBool (pickR (some (.v (.bool b22))) (some (.v (.bool true))) (some v23)) fun b24 =>
  condB b24
  (RetR h K (.v (.int .i64 70)) h21)
  (okInt .i64 (aLoad Try.prog h21 3 (.ptr i0 0 0 2)) fun n25 =>
  okInt .i64 (aLoad Try.prog h21 3 (.ptr i0 0 0 0)) fun n26 =>
  rGq (n25 != (IntKind.wrap .i64 (n26 + 1))) false (some (.ptr i0 0 0 2)) fun b27 v28 =>
  rGq b27 false (aFA Try.prog 77 1 v28) fun b29 v30 =>
  rGq b29 false (aLoad Try.prog h21 31 v30) fun b31 v32 =>
  rGq b31 false (aLen Try.prog h21 31 v32) fun b33 v34 =>
  rGq b33 false (some (.ptr i0 0 0 0)) fun b35 v36 =>
  rGq b35 false (aFA Try.prog 77 1 v36) fun b37 v38 =>
  rGq b37 false (aLoad Try.prog h21 31 v38) fun b39 v40 =>
  rGq b39 false (aLen Try.prog h21 31 v40) fun b41 v42 =>
  rGq b41 false (aBin Try.prog .lss 3 v34 v42) fun b43 v44 =>
  okBool (pickR (some (.v (.bool b43))) (some (.v (.bool true))) (some v44)) fun b45 =>
  condB b45
  (RetR h K (.v (.int .i64 70)) h21)
  (okStr (aLoad Try.prog h21 9 (.ptr i4 0 0 0)) fun s46 =>
  rGq (decide (((ByteArray.size s46 : Nat) : Int) > 64)) false (some (.ptr i4 0 0 1)) fun b47 v48 =>
  rGq b47 false (aLoad Try.prog h21 4 v48) fun b49 v50 =>
  rGq b49 false (some v50) fun b51 v52 =>
  okG (some v52) true fun b53 g0 =>
  rGq b53 true (aLoad Try.prog h21 154 (.ptr i4 0 0 0)) fun b54 v55 =>
  okG (some (g0 b54)) true fun c1 g2 =>
  rGq c1 true (some (.agg [(.v (.string (ByteArray.mk #[]))), (.v (.bool true))])) fun b56 v57 =>
  okG (some (g2 b56)) true fun c3 g4 =>
  rGq c3 true (aBin Try.prog .neq 154 v55 v57) fun b58 v59 =>
  rGq b51 false (pickR (some (g4 b58)) (some v59) (some (.v (.bool false)))) fun b60 v61 =>
  okBool (pickR (some (.v (.bool b60))) (some (.v (.bool true))) (some v61)) fun b62 =>
  condB b62
  (RetR h K (.v (.int .i64 70)) h21)
  (RetR h K (.v (.int .i64 0)) h21))))) 154 (.agg [(.v (.string s2)), (.v (.bool b3))]) (.ptr i4 0 0 0))
theorem Try.c66 (G : Nat → Option AV) (a0 : AV) (h : AH) (K : AV → AH → Prop) (hk : LowH h.length h → Try.r66 G a0 h K) : SCall Try.prog G 66 [a0] h K :=
  scall_of_rwp Try.tab66 [] Try.func66 rfl Try.ntmps66 (by kernel_rfl) (by show 1 ≤ 54; decide) (by kernel_rfl) (by kernel_rfl) hk
-- 67 (skylark/layout.Change).To
def Try.r67 (G : Nat → Option AV) (a0 a1 : AV) (h : AH) (K : AV → AH → Prop) : Prop :=
  onlyB (AV.one a0) (newO (.cells 138 (AV.cells a0).length [AV.cells a0] 0) h fun i0 h1 =>
  newO (.cells 138 6 [[(.v (.int .i64 0)), (.v (.slice none 0 0)), (.v (.int .i64 0)), (.v (.slice none 0 0)), (.v (.string (ByteArray.mk #[]))), (.v (.bool false))]] 0) h1 fun i2 h3 =>
  okV (aLoad Try.prog h3 138 (.ptr i0 0 0 0)) fun v4 =>
  callR Try.prog G 66 [v4] h3 (fun v5 h6 =>
  okInt .i64 (some v5) fun n7 =>
  condB (n7 != 0)
  (storeR Try.prog h6 (fun v8 h9 =>
  okV (aLoad Try.prog h9 138 (.ptr i2 0 0 0)) fun v10 =>
  RetR h K (.tup [v10, (.v (.int .i64 n7))]) h9) 138 (.agg [(.v (.int .i64 0)), (.v (.slice none 0 0)), (.v (.int .i64 0)), (.v (.slice none 0 0)), (.v (.string (ByteArray.mk #[]))), (.v (.bool false))]) (.ptr i2 0 0 0))
  (okBool (aLoad Try.prog h6 4 (.ptr i0 0 0 5)) fun b11 =>
  rGq b11 false (some a1) fun b12 v13 =>
  rGq b12 false (some (.ptr i0 0 0 4)) fun b14 v15 =>
  rGq b14 false (aLoad Try.prog h6 9 v15) fun b16 v17 =>
  rGq b16 false (aBin Try.prog .lss 9 v13 v17) fun b18 v19 =>
  okBool (pickR (some (.v (.bool b18))) (some (.v (.bool true))) (some v19)) fun b20 =>
  rGq b20 false (some a1) fun b21 v22 =>
  rGq b21 false (aLen Try.prog h6 9 v22) fun b23 v24 =>
  rGq b23 false (aBin Try.prog .gtr 3 v24 (.v (.int .i64 64))) fun b25 v26 =>
  okBool (pickR (some (.v (.bool b25))) (some (.v (.bool true))) (some v26)) fun b27 =>
  condB b27
  (storeR Try.prog h6 (fun v28 h29 =>
  okV (aLoad Try.prog h29 138 (.ptr i2 0 0 0)) fun v30 =>
  RetR h K (.tup [v30, (.v (.int .i64 1))]) h29) 138 (.agg [(.v (.int .i64 0)), (.v (.slice none 0 0)), (.v (.int .i64 0)), (.v (.slice none 0 0)), (.v (.string (ByteArray.mk #[]))), (.v (.bool false))]) (.ptr i2 0 0 0))
  (okStr (some a1) fun s31 =>
  storeR Try.prog h6 (fun v32 h33 =>
  okV (aLoad Try.prog h33 138 (.ptr i0 0 0 0)) fun v34 =>
  storeR Try.prog h33 (fun v35 h36 =>
  okV (aLoad Try.prog h36 138 (.ptr i2 0 0 0)) fun v37 =>
  RetR h K (.tup [v37, (.v (.int .i64 0))]) h36) 138 v34 (.ptr i2 0 0 0)) 9 (.v (.string s31)) (.ptr i0 0 0 4)))))
theorem Try.c67 (G : Nat → Option AV) (a0 a1 : AV) (h : AH) (K : AV → AH → Prop) (hk : LowH h.length h → Try.r67 G a0 a1 h K) : SCall Try.prog G 67 [a0, a1] h K :=
  scall_of_rwp Try.tab67 [] Try.func67 rfl Try.ntmps67 (by kernel_rfl) (by show 2 ≤ 30; decide) (by kernel_rfl) (by kernel_rfl) hk
-- 77 slices.Equal[[]int,int]
def Try.r77_l4_3 (K : AV → AH → Prop) (h : AH) (a0 : AV) (a1 : AV) (n2 : Int) (n12 : Int) : Prop :=
  ∃ (I3 : Nat → List AV → AH → Prop) (m4 : Nat), I3 m4 [(.v (.int .i64 n12))] h ∧ ∀ (m5 : Nat) (h6 : AH), h.length ≤ h6.length → LowH h6.length h6 → ∀ (n7 : Int), I3 m5 [(.v (.int .i64 n7))] h6 →
  condB (decide (n7 < n2))
  (okV (aIA Try.prog h6 31 a0 (.v (.int .i64 n7))) fun v8 =>
  okInt .i64 (aLoad Try.prog h6 3 v8) fun n9 =>
  okV (aIA Try.prog h6 31 a1 (.v (.int .i64 n7))) fun v10 =>
  okInt .i64 (aLoad Try.prog h6 3 v10) fun n11 =>
  condB (n9 != n11)
  (RetR h K (.v (.bool false)) h6)
  (nextR h I3 m5 [some a0, some a1, some (.v (.int .i64 n2))] [some a0, some a1, some (.v (.int .i64 n2))] [(.v (.int .i64 (IntKind.wrap .i64 (n7 + 1))))] h6))
  (RetR h K (.v (.bool true)) h6)
def Try.r77 (a0 a1 : AV) (h : AH) (K : AV → AH → Prop) : Prop :=
  okInt .i64 (aLen Try.prog h 31 a0) fun n0 =>
  okInt .i64 (aLen Try.prog h 31 a1) fun n1 =>
  condB (n0 != n1)
  (RetR h K (.v (.bool false)) h)
  (okInt .i64 (aLen Try.prog h 31 a0) fun n2 =>
  Try.r77_l4_3 K h a0 a1 n2 0)
theorem Try.c77 (G : Nat → Option AV) (a0 a1 : AV) (h : AH) (K : AV → AH → Prop) (hk : LowH h.length h → Try.r77 a0 a1 h K) : SCall Try.prog G 77 [a0, a1] h K :=
  scall_of_rwp Try.tab77 [(4, [(13, (.int .i64))], [0, 1, 12])] Try.func77 rfl Try.ntmps77 (by kernel_rfl) (by show 2 ≤ 26; decide) (by kernel_rfl) (by kernel_rfl) hk
-- 78 slices.IndexFunc[[]int,int]
def Try.r78_l2_1 (K : AV → AH → Prop) (h : AH) (G : Nat → Option AV) (a0 : AV) (a1 : AV) (n0 : Int) (n11 : Int) : Prop :=
  ∃ (I1 : Nat → List AV → AH → Prop) (m2 : Nat), I1 m2 [(.v (.int .i64 n11))] h ∧ ∀ (m3 : Nat) (h4 : AH), h.length ≤ h4.length → LowH h4.length h4 → ∀ (n5 : Int), I1 m3 [(.v (.int .i64 n5))] h4 →
  condB (decide (n5 < n0))
  (okV (aIA Try.prog h4 31 a0 (.v (.int .i64 n5))) fun v6 =>
  okInt .i64 (aLoad Try.prog h4 3 v6) fun n7 =>
  callU Try.prog G h4 (fun v8 h9 =>
  okBool (some v8) fun b10 =>
  condB b10
  (RetR h K (.v (.int .i64 n5)) h9)
  (nextR h I1 m3 [some a0, some a1, some (.v (.int .i64 n0))] [some a0, some a1, some (.v (.int .i64 n0))] [(.v (.int .i64 (IntKind.wrap .i64 (n5 + 1))))] h9)) [(.v (.int .i64 n7))] a1)
  (RetR h K (.v (.int .i64 (-1))) h4)
def Try.r78 (G : Nat → Option AV) (a0 a1 : AV) (h : AH) (K : AV → AH → Prop) : Prop :=
  okInt .i64 (aLen Try.prog h 31 a0) fun n0 =>
  Try.r78_l2_1 K h G a0 a1 n0 0
theorem Try.c78 (G : Nat → Option AV) (a0 a1 : AV) (h : AH) (K : AV → AH → Prop) (hk : LowH h.length h → Try.r78 G a0 a1 h K) : SCall Try.prog G 78 [a0, a1] h K :=
  scall_of_rwp Try.tab78 [(2, [(8, (.int .i64))], [0, 1, 7])] Try.func78 rfl Try.ntmps78 (by kernel_rfl) (by show 2 ≤ 19; decide) (by kernel_rfl) (by kernel_rfl) hk
-- 79 slices.Index[[]int,int]
def Try.r79_l2_1 (K : AV → AH → Prop) (h : AH) (a0 : AV) (a1 : AV) (n0 : Int) (n9 : Int) : Prop :=
  ∃ (I1 : Nat → List AV → AH → Prop) (m2 : Nat), I1 m2 [(.v (.int .i64 n9))] h ∧ ∀ (m3 : Nat) (h4 : AH), h.length ≤ h4.length → LowH h4.length h4 → ∀ (n5 : Int), I1 m3 [(.v (.int .i64 n5))] h4 →
  condB (decide (n5 < n0))
  (okInt .i64 (some a1) fun n6 =>
  okV (aIA Try.prog h4 31 a0 (.v (.int .i64 n5))) fun v7 =>
  okInt .i64 (aLoad Try.prog h4 3 v7) fun n8 =>
  condB (n6 == n8)
  (RetR h K (.v (.int .i64 n5)) h4)
  (nextR h I1 m3 [some a0, some a1, some (.v (.int .i64 n0))] [some a0, some a1, some (.v (.int .i64 n0))] [(.v (.int .i64 (IntKind.wrap .i64 (n5 + 1))))] h4))
  (RetR h K (.v (.int .i64 (-1))) h4)
def Try.r79 (a0 a1 : AV) (h : AH) (K : AV → AH → Prop) : Prop :=
  okInt .i64 (aLen Try.prog h 31 a0) fun n0 =>
  Try.r79_l2_1 K h a0 a1 n0 0
theorem Try.c79 (G : Nat → Option AV) (a0 a1 : AV) (h : AH) (K : AV → AH → Prop) (hk : LowH h.length h → Try.r79 a0 a1 h K) : SCall Try.prog G 79 [a0, a1] h K :=
  scall_of_rwp Try.tab79 [(2, [(8, (.int .i64))], [0, 1, 7])] Try.func79 rfl Try.ntmps79 (by kernel_rfl) (by show 2 ≤ 19; decide) (by kernel_rfl) (by kernel_rfl) hk
-- 80 skylark/layout.Check
def Try.r80 (G : Nat → Option AV) (a0 : AV) (h : AH) (K : AV → AH → Prop) : Prop :=
  onlyB (AV.one a0) (newO (.cells 77 (AV.cells a0).length [AV.cells a0] 0) h fun i0 h1 =>
  okInt .i64 (aLoad Try.prog h1 3 (.ptr i0 0 0 0)) fun n2 =>
  rGq (decide (n2 < 1)) false (some (.ptr i0 0 0 0)) fun b3 v4 =>
  rGq b3 false (aLoad Try.prog h1 3 v4) fun b5 v6 =>
  rGq b5 false (aBin Try.prog .gtr 3 v6 (.v (.int .i64 1073741824))) fun b7 v8 =>
  okBool (pickR (some (.v (.bool b7))) (some (.v (.bool true))) (some v8)) fun b9 =>
  rGq b9 false (some (.ptr i0 0 0 1)) fun b10 v11 =>
  rGq b10 false (aLoad Try.prog h1 31 v11) fun b12 v13 =>
  rGe b12 false (fun k14 => callR Try.prog G 100 [v13] h1 (fun v15 h16 =>
  k14 v15 h16)) h1 fun b17 v18 h19 =>
  rGq b17 false (aBin Try.prog .neq 26 v18 (.v (.int .i64 0))) fun b20 v21 =>
  okBool (pickR (some (.v (.bool b20))) (some (.v (.bool true))) (some v21)) fun b22 =>
  condB b22
  (RetR h K (.v (.int .i64 70)) h19)
  (RetR h K (.v (.int .i64 0)) h19))
theorem Try.c80 (G : Nat → Option AV) (a0 : AV) (h : AH) (K : AV → AH → Prop) (hk : LowH h.length h → Try.r80 G a0 h K) : SCall Try.prog G 80 [a0] h K :=
  scall_of_rwp Try.tab80 [] Try.func80 rfl Try.ntmps80 (by kernel_rfl) (by show 1 ≤ 17; decide) (by kernel_rfl) (by kernel_rfl) hk
-- 100 skylark/ring.Check
def Try.r100 (G : Nat → Option AV) (a0 : AV) (h : AH) (K : AV → AH → Prop) : Prop :=
  okInt .i64 (aLen Try.prog h 31 a0) fun n0 =>
  rGq (decide (n0 < 1)) false (some a0) fun b1 v2 =>
  rGq b1 false (aLen Try.prog h 31 v2) fun b3 v4 =>
  rGq b3 false (aBin Try.prog .gtr 3 v4 (.v (.int .i64 8))) fun b5 v6 =>
  okBool (pickR (some (.v (.bool b5))) (some (.v (.bool true))) (some v6)) fun b7 =>
  rGq b7 false (some a0) fun b8 v9 =>
  rGe b8 false (fun k10 => callR Try.prog G 109 [v9] h (fun v11 h12 =>
  k10 v11 h12)) h fun b13 v14 h15 =>
  rGq b13 false (aBin Try.prog .lss 3 v14 (.v (.int .i64 0))) fun b16 v17 =>
  okBool (pickR (some (.v (.bool b16))) (some (.v (.bool true))) (some v17)) fun b18 =>
  rGq b18 false (some a0) fun b19 v20 =>
  rGe b19 false (fun k21 => callR Try.prog G 110 [v20] h15 (fun v22 h23 =>
  k21 v22 h23)) h15 fun b24 v25 h26 =>
  rGq b24 false (aBin Try.prog .gtr 3 v25 (.v (.int .i64 128))) fun b27 v28 =>
  okBool (pickR (some (.v (.bool b27))) (some (.v (.bool true))) (some v28)) fun b29 =>
  rGq b29 false (some a0) fun b30 v31 =>
  rGe b30 false (fun k32 => callR Try.prog G 110 [v31] h26 (fun v33 h34 =>
  k32 v33 h34)) h26 fun b35 v36 h37 =>
  rGq b35 false (aBin Try.prog .eql 3 v36 (.v (.int .i64 0))) fun b38 v39 =>
  okBool (pickR (some (.v (.bool b38))) (some (.v (.bool true))) (some v39)) fun b40 =>
  condB b40
  (RetR h K (.v (.int .i64 1)) h37)
  (RetR h K (.v (.int .i64 0)) h37)
theorem Try.c100 (G : Nat → Option AV) (a0 : AV) (h : AH) (K : AV → AH → Prop) (hk : LowH h.length h → Try.r100 G a0 h K) : SCall Try.prog G 100 [a0] h K :=
  scall_of_rwp Try.tab100 [] Try.func100 rfl Try.ntmps100 (by kernel_rfl) (by show 1 ≤ 26; decide) (by kernel_rfl) (by kernel_rfl) hk
-- 109 slices.Min[[]int,int]
def Try.r109_l5_3 (K : AV → AH → Prop) (h : AH) (a0 : AV) (h0 : AH) (n13 : Int) (n14 : Int) : Prop :=
  ∃ (I3 : Nat → List AV → AH → Prop) (m4 : Nat), I3 m4 [(.v (.int .i64 n13)), (.v (.int .i64 n14))] h0 ∧ ∀ (m5 : Nat) (h6 : AH), h0.length ≤ h6.length → LowH h6.length h6 → ∀ (n7 : Int) (n8 : Int), I3 m5 [(.v (.int .i64 n7)), (.v (.int .i64 n8))] h6 →
  okInt .i64 (aLen Try.prog h6 31 a0) fun n9 =>
  condB (decide (n8 < n9))
  (okV (aIA Try.prog h6 31 a0 (.v (.int .i64 n8))) fun v10 =>
  okInt .i64 (aLoad Try.prog h6 3 v10) fun n11 =>
  okInt .i64 (aMinMax false [some (.v (.int .i64 n7)), some (.v (.int .i64 n11))]) fun n12 =>
  nextR h0 I3 m5 [some a0] [some a0] [(.v (.int .i64 n12)), (.v (.int .i64 (IntKind.wrap .i64 (n8 + 1))))] h6)
  (RetR h K (.v (.int .i64 n7)) h6)
def Try.r109_j1 (h : AH) (K : AV → AH → Prop) (a0 : AV) (h0 : AH) : Prop :=
  okV (aIA Try.prog h0 31 a0 (.v (.int .i64 0))) fun v1 =>
  okInt .i64 (aLoad Try.prog h0 3 v1) fun n2 =>
  Try.r109_l5_3 K h a0 h0 n2 1
def Try.r109 (a0 : AV) (h : AH) (K : AV → AH → Prop) : Prop :=
  okInt .i64 (aLen Try.prog h 31 a0) fun n15 =>
  condB (decide (n15 < 1))
  (okV (aMkI Try.prog 9 (.v (.string (ByteArray.mk #[115, 108, 105, 99, 101, 115, 46, 77, 105, 110, 58, 32, 101, 109, 112, 116, 121, 32, 108, 105, 115, 116])))) fun v16 =>
  False)
  (Try.r109_j1 h K a0 h)
theorem Try.c109 (G : Nat → Option AV) (a0 : AV) (h : AH) (K : AV → AH → Prop) (hk : LowH h.length h → Try.r109 a0 h K) : SCall Try.prog G 109 [a0] h K :=
  scall_of_rwp Try.tab109 [(5, [(3, (.int .i64)), (4, (.int .i64))], [0])] Try.func109 rfl Try.ntmps109 (by kernel_rfl) (by show 1 ≤ 25; decide) (by kernel_rfl) (by kernel_rfl) hk
-- 110 slices.Max[[]int,int]
def Try.r110_l5_3 (K : AV → AH → Prop) (h : AH) (a0 : AV) (h0 : AH) (n13 : Int) (n14 : Int) : Prop :=
  ∃ (I3 : Nat → List AV → AH → Prop) (m4 : Nat), I3 m4 [(.v (.int .i64 n13)), (.v (.int .i64 n14))] h0 ∧ ∀ (m5 : Nat) (h6 : AH), h0.length ≤ h6.length → LowH h6.length h6 → ∀ (n7 : Int) (n8 : Int), I3 m5 [(.v (.int .i64 n7)), (.v (.int .i64 n8))] h6 →
  okInt .i64 (aLen Try.prog h6 31 a0) fun n9 =>
  condB (decide (n8 < n9))
  (okV (aIA Try.prog h6 31 a0 (.v (.int .i64 n8))) fun v10 =>
  okInt .i64 (aLoad Try.prog h6 3 v10) fun n11 =>
  okInt .i64 (aMinMax true [some (.v (.int .i64 n7)), some (.v (.int .i64 n11))]) fun n12 =>
  nextR h0 I3 m5 [some a0] [some a0] [(.v (.int .i64 n12)), (.v (.int .i64 (IntKind.wrap .i64 (n8 + 1))))] h6)
  (RetR h K (.v (.int .i64 n7)) h6)
def Try.r110_j1 (h : AH) (K : AV → AH → Prop) (a0 : AV) (h0 : AH) : Prop :=
  okV (aIA Try.prog h0 31 a0 (.v (.int .i64 0))) fun v1 =>
  okInt .i64 (aLoad Try.prog h0 3 v1) fun n2 =>
  Try.r110_l5_3 K h a0 h0 n2 1
def Try.r110 (a0 : AV) (h : AH) (K : AV → AH → Prop) : Prop :=
  okInt .i64 (aLen Try.prog h 31 a0) fun n15 =>
  condB (decide (n15 < 1))
  (okV (aMkI Try.prog 9 (.v (.string (ByteArray.mk #[115, 108, 105, 99, 101, 115, 46, 77, 97, 120, 58, 32, 101, 109, 112, 116, 121, 32, 108, 105, 115, 116])))) fun v16 =>
  False)
  (Try.r110_j1 h K a0 h)
theorem Try.c110 (G : Nat → Option AV) (a0 : AV) (h : AH) (K : AV → AH → Prop) (hk : LowH h.length h → Try.r110 a0 h K) : SCall Try.prog G 110 [a0] h K :=
  scall_of_rwp Try.tab110 [(5, [(3, (.int .i64)), (4, (.int .i64))], [0])] Try.func110 rfl Try.ntmps110 (by kernel_rfl) (by show 1 ≤ 25; decide) (by kernel_rfl) (by kernel_rfl) hk
end Go.Proofs
