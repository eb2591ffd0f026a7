import Derived.Test.YtekaeegjohanjaaGreatDoorGAC
import Derived.Test.YtekaeegjohanjaaGreatDoorAbH
import Derived.KernelRfl
set_option linter.all false
namespace Go.Proofs
open Go Go.Abs
set_option linter.unusedVariables false
set_option maxRecDepth 100000
def Tryz.r5_j91(K:AV→AH→Prop)(h:AH) (G:Nat→Option AV) (a1:AV) (v12:AV) (v13:AV) (i24:Nat) (i26:Nat)(h75:AH) (I79:Nat→List AV→AH→Prop) (m81:Nat) (n83:Int)(h90:AH):Prop:=
 callR Tryz.prog G 39 [v12,v13] h90 (fun v91 h92=>
 okBool (some v91) fun b93=>
 rGq (!b93) false (aLoad Tryz.prog h92 49 (.ptr i24 0 0 0)) fun b94 v95=>
 rGq b94 false (some v12) fun b96 v97=>
 if b96=false then okV (aLoad Tryz.prog h92 68 (.ptr i26 0 0 0)) fun v98=>
 rGq false false (some v13) fun b99 v100=>
 rGe b99 false (fun k101=>callR Tryz.prog G 24 [v95,v97] h92 (fun v102 h103=>
 (aLoad Tryz.prog h103 68 (.ptr i26 0 0 0)=some v98)∧k101 v102 h103)) h92 fun b104 v105 h106=>
 rGe b104 false (fun k107=>callR Tryz.prog G 32 [v98,v100] h106 (fun v108 h109=>
 k107 v108 h109)) h106 fun b110 v111 h112=>
 rGq b110 false (aBin Tryz.prog .neq 24 v105 v111) fun b113 v114=>
 okBool (pickR (some (.v (.bool b113))) (some (.v (.bool true))) (some v114)) fun b115=>
 condB b115
 (RetR h K (.v (.bool false)) h112)
 (nextR h75 I79 m81 [some a1,some v12,some v13,some (.ptr i24 0 0 0),some (.ptr i26 0 0 0)] [some a1,some v12,some v13,some (.ptr i24 0 0 0),some (.ptr i26 0 0 0)] [(.v (.int .i64 (IntKind.wrap .i64 (n83+1))))] h112)
 else rGq true false (some v13) fun b116 v117=>
 rGe b116 false (fun k118=>callR Tryz.prog G 24 [v95,v97] h92 (fun v119 h120=>
 k118 v119 h120)) h92 fun b121 v122 h123=>
 rGe b121 false (fun k124=>callR Tryz.prog G 32 [(.tup []),v117] h123 (fun v125 h126=>
 k124 v125 h126)) h123 fun b127 v128 h129=>
 rGq b127 false (aBin Tryz.prog .neq 24 v122 v128) fun b130 v131=>
 okBool (pickR (some (.v (.bool b130))) (some (.v (.bool true))) (some v131)) fun b132=>
 condB b132
 (RetR h K (.v (.bool false)) h129)
 (nextR h75 I79 m81 [some a1,some v12,some v13,some (.ptr i24 0 0 0),some (.ptr i26 0 0 0)] [some a1,some v12,some v13,some (.ptr i24 0 0 0),some (.ptr i26 0 0 0)] [(.v (.int .i64 (IntKind.wrap .i64 (n83+1))))] h129))
def Tryz.r5_l10_79(K:AV→AH→Prop)(h:AH) (G:Nat→Option AV) (a1:AV) (v12:AV) (v13:AV) (i24:Nat) (i26:Nat)(h75:AH) (n243:Int):Prop:=
 ∃(I79:Nat→List AV→AH→Prop) (m80:Nat),I79 m80 [(.v (.int .i64 n243))] h75∧∀(m81:Nat) (h82:AH),h75.length≤h82.length→LowH h82.length h82→∀(n83:Int),I79 m81 [(.v (.int .i64 n83))] h82 →
 okInt .i64 (aLen Tryz.prog h82 64 a1) fun n84=>
 rGq (decide (n83<n84)) true (some (.v (.int .i64 n83))) fun b85 v86=>
 rGq b85 true (aBin Tryz.prog .lss 3 v86 (.v (.int .i64 40))) fun b87 v88=>
 okBool (pickR (some (.v (.bool b87))) (some v88) (some (.v (.bool false)))) fun b89=>
 condB b89
 (okV (aIA Tryz.prog h82 64 a1 (.v (.int .i64 n83))) fun v133=>
 okV (aFA Tryz.prog 74 0 v133) fun v134=>
 okInt .i64 (aLoad Tryz.prog h82 3 v134) fun n135=>
 rGq (n135 != 0) false (some a1) fun b136 v137=>
 rGq b136 false (some (.v (.int .i64 n83))) fun b138 v139=>
 rGq b138 false (aIA Tryz.prog h82 64 v137 v139) fun b140 v141=>
 rGq b140 false (aFA Tryz.prog 74 1 v141) fun b142 v143=>
 rGq b142 false (aLoad Tryz.prog h82 72 v143) fun b144 v145=>
 rGq b144 false (aLen Tryz.prog h82 72 v145) fun b146 v147=>
 rGq b146 false (aBin Tryz.prog .eql 3 v147 (.v (.int .i64 0))) fun b148 v149=>
 okBool (pickR (some (.v (.bool b148))) (some (.v (.bool true))) (some v149)) fun b150=>
 condB b150
 (okV (aLoad Tryz.prog h82 49 (.ptr i24 0 0 0)) fun v151=>
 okV (aIA Tryz.prog h82 64 a1 (.v (.int .i64 n83))) fun v152=>
 okV (aFA Tryz.prog 74 0 v152) fun v153=>
 okInt .i64 (aLoad Tryz.prog h82 3 v153) fun n154=>
 callR Tryz.prog G 28 [v151,v12,(.v (.int .i64 n154))] h82 (fun v155 h156=>
 okV (extV 0 v155) fun v157=>
 okInt .i64 (extV 1 v155) fun n158=>
 okInt .i64 (extV 2 v155) fun n159=>
 newO (.cells 49 6 [[(.v (.int .i64 0)),(.v (.slice none 0 0)),(.v (.int .i64 0)),(.v (.slice none 0 0)),(.v (.string (ByteArray.mk #[]))),(.v (.bool false))]] 0) h156 fun i160 h161=>
 (aLoad Tryz.prog h161 3 v153=some (.v (.int .i64 n154)))∧(aIA Tryz.prog h161 64 a1 (.v (.int .i64 n83))=some v152)∧(aLoad Tryz.prog h161 49 (.ptr i24 0 0 0)=some v151)∧storeR Tryz.prog h161 (fun v162 h163=>
 okV (aLoad Tryz.prog h163 68 (.ptr i26 0 0 0)) fun v164=>
 okV (aIA Tryz.prog h163 64 a1 (.v (.int .i64 n83))) fun v165=>
 okV (aFA Tryz.prog 74 0 v165) fun v166=>
 okInt .i64 (aLoad Tryz.prog h163 3 v166) fun n167=>
 callR Tryz.prog G 34 [v164,v13,(.v (.int .i64 n167))] h163 (fun v168 h169=>
 okV (extV 0 v168) fun v170=>
 okInt .i64 (extV 1 v168) fun n171=>
 okInt .i64 (extV 2 v168) fun n172=>
 newO (.cells 68 6 [[(.v (.int .i64 0)),(.v (.slice none 0 0)),(.v (.int .i64 0)),(.v (.slice none 0 0)),(.v (.string (ByteArray.mk #[]))),(.v (.bool false))]] 0) h169 fun i173 h174=>
 (aLoad Tryz.prog h174 3 v166=some (.v (.int .i64 n167)))∧(aIA Tryz.prog h174 64 a1 (.v (.int .i64 n83))=some v165)∧(aLoad Tryz.prog h174 68 (.ptr i26 0 0 0)=some v164)∧storeR Tryz.prog h174 (fun v175 h176=>
 okV (aLoad Tryz.prog h176 49 (.ptr i160 0 0 0)) fun v177=>
 okV (aLoad Tryz.prog h176 68 (.ptr i173 0 0 0)) fun v178=>
 callR Tryz.prog G 35 [v177,v178] h176 (fun v179 h180=>
 okBool (some v179) fun b181=>
 rGq (!b181) false (some (.v (.int .i64 n158))) fun b182 v183=>
 rGq b182 false (some (.v (.int .i64 n171))) fun b184 v185=>
 rGq b184 false (aBin Tryz.prog .neq 3 v183 v185) fun b186 v187=>
 okBool (pickR (some (.v (.bool b186))) (some (.v (.bool true))) (some v187)) fun b188=>
 rGq b188 false (some (.v (.int .i64 n159))) fun b189 v190=>
 rGq b189 false (some (.v (.int .i64 n172))) fun b191 v192=>
 rGq b191 false (aBin Tryz.prog .neq 24 v190 v192) fun b193 v194=>
 okBool (pickR (some (.v (.bool b193))) (some (.v (.bool true))) (some v194)) fun b195=>
 condB b195
 (RetR h K (.v (.bool false)) h180)
 (condB (n172==0)
 (okV (aLoad Tryz.prog h180 49 (.ptr i160 0 0 0)) fun v196=>
 okV (aLoad Tryz.prog h180 68 (.ptr i173 0 0 0)) fun v197=>
 storeR Tryz.prog h180 (fun v198 h199=>
 (aLoad Tryz.prog h199 68 (.ptr i173 0 0 0)=some v197)∧storeR Tryz.prog h199 (fun v200 h201=>
 Tryz.r5_j91 K h G a1 v12 v13 i24 i26 h75 I79 m81 n83 h201) 68 v197 (.ptr i26 0 0 0)) 49 v196 (.ptr i24 0 0 0))
 (Tryz.r5_j91 K h G a1 v12 v13 i24 i26 h75 I79 m81 n83 h180)))) 68 v170 (.ptr i173 0 0 0))) 49 v157 (.ptr i160 0 0 0)))
 (okV (aLoad Tryz.prog h82 49 (.ptr i24 0 0 0)) fun v202=>
 okV (aIA Tryz.prog h82 64 a1 (.v (.int .i64 n83))) fun v203=>
 okV (aFA Tryz.prog 74 1 v203) fun v204=>
 okV (aLoad Tryz.prog h82 72 v204) fun v205=>
 newO (.cells 89 6 [] 0) h82 fun i206 h207=>
 (aLoad Tryz.prog h207 72 v204=some v205)∧(aIA Tryz.prog h207 64 a1 (.v (.int .i64 n83))=some v203)∧(aLoad Tryz.prog h207 49 (.ptr i24 0 0 0)=some v202)∧appR Tryz.prog h207 72 72 (.sl i206 0 0 0 none) v205 (fun v208 h209=>
 (aLoad Tryz.prog h209 49 (.ptr i24 0 0 0)=some v202)∧callR Tryz.prog G 36 [v202,v12,v208] h209 (fun v210 h211=>
 okV (extV 0 v210) fun v212=>
 okV (extV 1 v210) fun v213=>
 newO (.cells 80 2 [[(.v (.int .i64 0)),(.v (.int .i64 0))]] 0) h211 fun i214 h215=>
 (aLoad Tryz.prog h215 72 v204=some v205)∧(aIA Tryz.prog h215 64 a1 (.v (.int .i64 n83))=some v203)∧(aLoad Tryz.prog h215 49 (.ptr i24 0 0 0)=some v202)∧storeR Tryz.prog h215 (fun v216 h217=>
 okV (aLoad Tryz.prog h217 68 (.ptr i26 0 0 0)) fun v218=>
 okV (aIA Tryz.prog h217 64 a1 (.v (.int .i64 n83))) fun v219=>
 okV (aFA Tryz.prog 74 1 v219) fun v220=>
 okV (aLoad Tryz.prog h217 72 v220) fun v221=>
 callR Tryz.prog G 37 [v218,v13,v221] h217 (fun v222 h223=>
 okV (extV 0 v222) fun v224=>
 okV (extV 1 v222) fun v225=>
 newO (.cells 80 2 [[(.v (.int .i64 0)),(.v (.int .i64 0))]] 0) h223 fun i226 h227=>
 (aLoad Tryz.prog h227 72 v220=some v221)∧(aIA Tryz.prog h227 64 a1 (.v (.int .i64 n83))=some v219)∧(aLoad Tryz.prog h227 68 (.ptr i26 0 0 0)=some v218)∧storeR Tryz.prog h227 (fun v228 h229=>
 callR Tryz.prog G 38 [v212,v224] h229 (fun v230 h231=>
 okBool (some v230) fun b232=>
 rGq (!b232) false (aLoad Tryz.prog h231 80 (.ptr i214 0 0 0)) fun b233 v234=>
 rGq b233 false (aLoad Tryz.prog h231 80 (.ptr i226 0 0 0)) fun b235 v236=>
 rGq b235 false (aBin Tryz.prog .neq 80 v234 v236) fun b237 v238=>
 okBool (pickR (some (.v (.bool b237))) (some (.v (.bool true))) (some v238)) fun b239=>
 condB b239
 (RetR h K (.v (.bool false)) h231)
 (Tryz.r5_j91 K h G a1 v12 v13 i24 i26 h75 I79 m81 n83 h231))) 80 v225 (.ptr i226 0 0 0))) 80 v213 (.ptr i214 0 0 0)))))
 (callR Tryz.prog G 20 [] h82 (fun v240 h241=>
 okBool (some v240) fun b242=>
 RetR h K (.v (.bool b242)) h241))
def Tryz.r5_j298(K:AV→AH→Prop)(h:AH) (G:Nat→Option AV) (a1:AV) (v12:AV) (v13:AV) (i24:Nat) (i26:Nat)(h282:AH) (I286:Nat→List AV→AH→Prop) (m288:Nat) (n290:Int)(h297:AH):Prop:=
 callR Tryz.prog G 39 [v12,v13] h297 (fun v298 h299=>
 okBool (some v298) fun b300=>
 rGq (!b300) false (aLoad Tryz.prog h299 49 (.ptr i24 0 0 0)) fun b301 v302=>
 rGq b301 false (some v12) fun b303 v304=>
 if b303=false then okV (aLoad Tryz.prog h299 68 (.ptr i26 0 0 0)) fun v305=>
 rGq false false (some v13) fun b306 v307=>
 rGe b306 false (fun k308=>callR Tryz.prog G 24 [v302,v304] h299 (fun v309 h310=>
 (aLoad Tryz.prog h310 68 (.ptr i26 0 0 0)=some v305)∧k308 v309 h310)) h299 fun b311 v312 h313=>
 rGe b311 false (fun k314=>callR Tryz.prog G 32 [v305,v307] h313 (fun v315 h316=>
 k314 v315 h316)) h313 fun b317 v318 h319=>
 rGq b317 false (aBin Tryz.prog .neq 24 v312 v318) fun b320 v321=>
 okBool (pickR (some (.v (.bool b320))) (some (.v (.bool true))) (some v321)) fun b322=>
 condB b322
 (RetR h K (.v (.bool false)) h319)
 (nextR h282 I286 m288 [some a1,some v12,some v13,some (.ptr i24 0 0 0),some (.ptr i26 0 0 0)] [some a1,some v12,some v13,some (.ptr i24 0 0 0),some (.ptr i26 0 0 0)] [(.v (.int .i64 (IntKind.wrap .i64 (n290+1))))] h319)
 else rGq true false (some v13) fun b323 v324=>
 rGe b323 false (fun k325=>callR Tryz.prog G 24 [v302,v304] h299 (fun v326 h327=>
 k325 v326 h327)) h299 fun b328 v329 h330=>
 rGe b328 false (fun k331=>callR Tryz.prog G 32 [(.tup []),v324] h330 (fun v332 h333=>
 k331 v332 h333)) h330 fun b334 v335 h336=>
 rGq b334 false (aBin Tryz.prog .neq 24 v329 v335) fun b337 v338=>
 okBool (pickR (some (.v (.bool b337))) (some (.v (.bool true))) (some v338)) fun b339=>
 condB b339
 (RetR h K (.v (.bool false)) h336)
 (nextR h282 I286 m288 [some a1,some v12,some v13,some (.ptr i24 0 0 0),some (.ptr i26 0 0 0)] [some a1,some v12,some v13,some (.ptr i24 0 0 0),some (.ptr i26 0 0 0)] [(.v (.int .i64 (IntKind.wrap .i64 (n290+1))))] h336))
def Tryz.r5_l10_286(K:AV→AH→Prop)(h:AH) (G:Nat→Option AV) (a1:AV) (v12:AV) (v13:AV) (i24:Nat) (i26:Nat)(h282:AH) (n450:Int):Prop:=
 ∃(I286:Nat→List AV→AH→Prop) (m287:Nat),I286 m287 [(.v (.int .i64 n450))] h282∧∀(m288:Nat) (h289:AH),h282.length≤h289.length→LowH h289.length h289→∀(n290:Int),I286 m288 [(.v (.int .i64 n290))] h289 →
 okInt .i64 (aLen Tryz.prog h289 64 a1) fun n291=>
 rGq (decide (n290<n291)) true (some (.v (.int .i64 n290))) fun b292 v293=>
 rGq b292 true (aBin Tryz.prog .lss 3 v293 (.v (.int .i64 40))) fun b294 v295=>
 okBool (pickR (some (.v (.bool b294))) (some v295) (some (.v (.bool false)))) fun b296=>
 condB b296
 (okV (aIA Tryz.prog h289 64 a1 (.v (.int .i64 n290))) fun v340=>
 okV (aFA Tryz.prog 74 0 v340) fun v341=>
 okInt .i64 (aLoad Tryz.prog h289 3 v341) fun n342=>
 rGq (n342 != 0) false (some a1) fun b343 v344=>
 rGq b343 false (some (.v (.int .i64 n290))) fun b345 v346=>
 rGq b345 false (aIA Tryz.prog h289 64 v344 v346) fun b347 v348=>
 rGq b347 false (aFA Tryz.prog 74 1 v348) fun b349 v350=>
 rGq b349 false (aLoad Tryz.prog h289 72 v350) fun b351 v352=>
 rGq b351 false (aLen Tryz.prog h289 72 v352) fun b353 v354=>
 rGq b353 false (aBin Tryz.prog .eql 3 v354 (.v (.int .i64 0))) fun b355 v356=>
 okBool (pickR (some (.v (.bool b355))) (some (.v (.bool true))) (some v356)) fun b357=>
 condB b357
 (okV (aLoad Tryz.prog h289 49 (.ptr i24 0 0 0)) fun v358=>
 okV (aIA Tryz.prog h289 64 a1 (.v (.int .i64 n290))) fun v359=>
 okV (aFA Tryz.prog 74 0 v359) fun v360=>
 okInt .i64 (aLoad Tryz.prog h289 3 v360) fun n361=>
 callR Tryz.prog G 28 [v358,v12,(.v (.int .i64 n361))] h289 (fun v362 h363=>
 okV (extV 0 v362) fun v364=>
 okInt .i64 (extV 1 v362) fun n365=>
 okInt .i64 (extV 2 v362) fun n366=>
 newO (.cells 49 6 [[(.v (.int .i64 0)),(.v (.slice none 0 0)),(.v (.int .i64 0)),(.v (.slice none 0 0)),(.v (.string (ByteArray.mk #[]))),(.v (.bool false))]] 0) h363 fun i367 h368=>
 (aLoad Tryz.prog h368 3 v360=some (.v (.int .i64 n361)))∧(aIA Tryz.prog h368 64 a1 (.v (.int .i64 n290))=some v359)∧(aLoad Tryz.prog h368 49 (.ptr i24 0 0 0)=some v358)∧storeR Tryz.prog h368 (fun v369 h370=>
 okV (aLoad Tryz.prog h370 68 (.ptr i26 0 0 0)) fun v371=>
 okV (aIA Tryz.prog h370 64 a1 (.v (.int .i64 n290))) fun v372=>
 okV (aFA Tryz.prog 74 0 v372) fun v373=>
 okInt .i64 (aLoad Tryz.prog h370 3 v373) fun n374=>
 callR Tryz.prog G 34 [v371,v13,(.v (.int .i64 n374))] h370 (fun v375 h376=>
 okV (extV 0 v375) fun v377=>
 okInt .i64 (extV 1 v375) fun n378=>
 okInt .i64 (extV 2 v375) fun n379=>
 newO (.cells 68 6 [[(.v (.int .i64 0)),(.v (.slice none 0 0)),(.v (.int .i64 0)),(.v (.slice none 0 0)),(.v (.string (ByteArray.mk #[]))),(.v (.bool false))]] 0) h376 fun i380 h381=>
 (aLoad Tryz.prog h381 3 v373=some (.v (.int .i64 n374)))∧(aIA Tryz.prog h381 64 a1 (.v (.int .i64 n290))=some v372)∧(aLoad Tryz.prog h381 68 (.ptr i26 0 0 0)=some v371)∧storeR Tryz.prog h381 (fun v382 h383=>
 okV (aLoad Tryz.prog h383 49 (.ptr i367 0 0 0)) fun v384=>
 okV (aLoad Tryz.prog h383 68 (.ptr i380 0 0 0)) fun v385=>
 callR Tryz.prog G 35 [v384,v385] h383 (fun v386 h387=>
 okBool (some v386) fun b388=>
 rGq (!b388) false (some (.v (.int .i64 n365))) fun b389 v390=>
 rGq b389 false (some (.v (.int .i64 n378))) fun b391 v392=>
 rGq b391 false (aBin Tryz.prog .neq 3 v390 v392) fun b393 v394=>
 okBool (pickR (some (.v (.bool b393))) (some (.v (.bool true))) (some v394)) fun b395=>
 rGq b395 false (some (.v (.int .i64 n366))) fun b396 v397=>
 rGq b396 false (some (.v (.int .i64 n379))) fun b398 v399=>
 rGq b398 false (aBin Tryz.prog .neq 24 v397 v399) fun b400 v401=>
 okBool (pickR (some (.v (.bool b400))) (some (.v (.bool true))) (some v401)) fun b402=>
 condB b402
 (RetR h K (.v (.bool false)) h387)
 (condB (n379==0)
 (okV (aLoad Tryz.prog h387 49 (.ptr i367 0 0 0)) fun v403=>
 okV (aLoad Tryz.prog h387 68 (.ptr i380 0 0 0)) fun v404=>
 storeR Tryz.prog h387 (fun v405 h406=>
 (aLoad Tryz.prog h406 68 (.ptr i380 0 0 0)=some v404)∧storeR Tryz.prog h406 (fun v407 h408=>
 Tryz.r5_j298 K h G a1 v12 v13 i24 i26 h282 I286 m288 n290 h408) 68 v404 (.ptr i26 0 0 0)) 49 v403 (.ptr i24 0 0 0))
 (Tryz.r5_j298 K h G a1 v12 v13 i24 i26 h282 I286 m288 n290 h387)))) 68 v377 (.ptr i380 0 0 0))) 49 v364 (.ptr i367 0 0 0)))
 (okV (aLoad Tryz.prog h289 49 (.ptr i24 0 0 0)) fun v409=>
 okV (aIA Tryz.prog h289 64 a1 (.v (.int .i64 n290))) fun v410=>
 okV (aFA Tryz.prog 74 1 v410) fun v411=>
 okV (aLoad Tryz.prog h289 72 v411) fun v412=>
 newO (.cells 89 6 [] 0) h289 fun i413 h414=>
 (aLoad Tryz.prog h414 72 v411=some v412)∧(aIA Tryz.prog h414 64 a1 (.v (.int .i64 n290))=some v410)∧(aLoad Tryz.prog h414 49 (.ptr i24 0 0 0)=some v409)∧appR Tryz.prog h414 72 72 (.sl i413 0 0 0 none) v412 (fun v415 h416=>
 (aLoad Tryz.prog h416 49 (.ptr i24 0 0 0)=some v409)∧callR Tryz.prog G 36 [v409,v12,v415] h416 (fun v417 h418=>
 okV (extV 0 v417) fun v419=>
 okV (extV 1 v417) fun v420=>
 newO (.cells 80 2 [[(.v (.int .i64 0)),(.v (.int .i64 0))]] 0) h418 fun i421 h422=>
 (aLoad Tryz.prog h422 72 v411=some v412)∧(aIA Tryz.prog h422 64 a1 (.v (.int .i64 n290))=some v410)∧(aLoad Tryz.prog h422 49 (.ptr i24 0 0 0)=some v409)∧storeR Tryz.prog h422 (fun v423 h424=>
 okV (aLoad Tryz.prog h424 68 (.ptr i26 0 0 0)) fun v425=>
 okV (aIA Tryz.prog h424 64 a1 (.v (.int .i64 n290))) fun v426=>
 okV (aFA Tryz.prog 74 1 v426) fun v427=>
 okV (aLoad Tryz.prog h424 72 v427) fun v428=>
 callR Tryz.prog G 37 [v425,v13,v428] h424 (fun v429 h430=>
 okV (extV 0 v429) fun v431=>
 okV (extV 1 v429) fun v432=>
 newO (.cells 80 2 [[(.v (.int .i64 0)),(.v (.int .i64 0))]] 0) h430 fun i433 h434=>
 (aLoad Tryz.prog h434 72 v427=some v428)∧(aIA Tryz.prog h434 64 a1 (.v (.int .i64 n290))=some v426)∧(aLoad Tryz.prog h434 68 (.ptr i26 0 0 0)=some v425)∧storeR Tryz.prog h434 (fun v435 h436=>
 callR Tryz.prog G 38 [v419,v431] h436 (fun v437 h438=>
 okBool (some v437) fun b439=>
 rGq (!b439) false (aLoad Tryz.prog h438 80 (.ptr i421 0 0 0)) fun b440 v441=>
 rGq b440 false (aLoad Tryz.prog h438 80 (.ptr i433 0 0 0)) fun b442 v443=>
 rGq b442 false (aBin Tryz.prog .neq 80 v441 v443) fun b444 v445=>
 okBool (pickR (some (.v (.bool b444))) (some (.v (.bool true))) (some v445)) fun b446=>
 condB b446
 (RetR h K (.v (.bool false)) h438)
 (Tryz.r5_j298 K h G a1 v12 v13 i24 i26 h282 I286 m288 n290 h438))) 80 v432 (.ptr i433 0 0 0))) 80 v420 (.ptr i421 0 0 0)))))
 (callR Tryz.prog G 20 [] h289 (fun v447 h448=>
 okBool (some v447) fun b449=>
 RetR h K (.v (.bool b449)) h448))
def Tryz.r5(G:Nat→Option AV) (a0 a1:AV)(h:AH) (K:AV→AH→Prop):Prop:=
 onlyB (AV.one a0) (newO (.cells 46 (AV.cells a0).length [AV.cells a0] 0) h fun i0 h1=>
 okV (aLoad Tryz.prog h1 46 (.ptr i0 0 0 0)) fun v2=>
 callR Tryz.prog G 29 [v2] h1 (fun v3 h4=>
 okBool (some v3) fun b5=>
 condB (!b5)
 (callR Tryz.prog G 20 [] h4 (fun v6 h7=>
 okBool (some v6) fun b8=>
 RetR h K (.v (.bool b8)) h7))
 (okV (aLoad Tryz.prog h4 46 (.ptr i0 0 0 0)) fun v9=>
 callR Tryz.prog G 30 [v9] h4 (fun v10 h11=>
 okV (extV 0 v10) fun v12=>
 okV (extV 1 v10) fun v13=>
 okBool (extV 2 v10) fun b14=>
 condB (!b14)
 (callR Tryz.prog G 20 [] h11 (fun v15 h16=>
 okBool (some v15) fun b17=>
 RetR h K (.v (.bool b17)) h16))
 (okV (aLoad Tryz.prog h11 46 (.ptr i0 0 0 0)) fun v18=>
 okV (aLoad Tryz.prog h11 46 (.ptr i0 0 0 0)) fun v19=>
 callR Tryz.prog G 21 [v18] h11 (fun v20 h21=>
 (aLoad Tryz.prog h21 46 (.ptr i0 0 0 0)=some v19)∧callR Tryz.prog G 31 [v19] h21 (fun v22 h23=>
 newO (.cells 49 6 [[(.v (.int .i64 0)),(.v (.slice none 0 0)),(.v (.int .i64 0)),(.v (.slice none 0 0)),(.v (.string (ByteArray.mk #[]))),(.v (.bool false))]] 0) h23 fun i24 h25=>
 (aLoad Tryz.prog h25 46 (.ptr i0 0 0 0)=some v19)∧(aLoad Tryz.prog h25 46 (.ptr i0 0 0 0)=some v18)∧newO (.cells 68 6 [[(.v (.int .i64 0)),(.v (.slice none 0 0)),(.v (.int .i64 0)),(.v (.slice none 0 0)),(.v (.string (ByteArray.mk #[]))),(.v (.bool false))]] 0) h25 fun i26 h27=>
 (aLoad Tryz.prog h27 46 (.ptr i0 0 0 0)=some v19)∧(aLoad Tryz.prog h27 46 (.ptr i0 0 0 0)=some v18)∧storeR Tryz.prog h27 (fun v28 h29=>
 storeR Tryz.prog h29 (fun v30 h31=>
 rGq false false (aLoad Tryz.prog h31 49 (.ptr i24 0 0 0)) fun b32 v33=>
 rGq b32 false (some v12) fun b34 v35=>
 if b34=false then okV (aLoad Tryz.prog h31 68 (.ptr i26 0 0 0)) fun v36=>
 rGq false false (some v13) fun b37 v38=>
 rGe b37 false (fun k39=>callR Tryz.prog G 24 [v33,v35] h31 (fun v40 h41=>
 (aLoad Tryz.prog h41 68 (.ptr i26 0 0 0)=some v36)∧k39 v40 h41)) h31 fun b42 v43 h44=>
 rGe b42 false (fun k45=>callR Tryz.prog G 32 [v36,v38] h44 (fun v46 h47=>
 k45 v46 h47)) h44 fun b48 v49 h50=>
 rGq b48 false (aBin Tryz.prog .neq 24 v43 v49) fun b51 v52=>
 okBool (pickR (some (.v (.bool b51))) (some (.v (.bool true))) (some v52)) fun b53=>
 rGq b53 false (some v12) fun b54 v55=>
 rGq b54 false (some v13) fun b56 v57=>
 rGe b56 false (fun k58=>callR Tryz.prog G 23 [v55] h50 (fun v59 h60=>
 k58 v59 h60)) h50 fun b61 v62 h63=>
 rGe b61 false (fun k64=>callR Tryz.prog G 33 [v57] h63 (fun v65 h66=>
 k64 v65 h66)) h63 fun b67 v68 h69=>
 rGe b67 false (fun k70=>callR Tryz.prog G 25 [v62,v68] h69 (fun v71 h72=>
 k70 v71 h72)) h69 fun b73 v74 h75=>
 rGq b73 false (aUn .not v74) fun b76 v77=>
 okBool (pickR (some (.v (.bool b76))) (some (.v (.bool true))) (some v77)) fun b78=>
 condB b78
 (RetR h K (.v (.bool false)) h75)
 (Tryz.r5_l10_79 K h G a1 v12 v13 i24 i26 h75 0)
 else rGq true false (some v13) fun b244 v245=>
 rGe b244 false (fun k246=>callR Tryz.prog G 24 [v33,v35] h31 (fun v247 h248=>
 k246 v247 h248)) h31 fun b249 v250 h251=>
 rGe b249 false (fun k252=>callR Tryz.prog G 32 [(.tup []),v245] h251 (fun v253 h254=>
 k252 v253 h254)) h251 fun b255 v256 h257=>
 rGq b255 false (aBin Tryz.prog .neq 24 v250 v256) fun b258 v259=>
 okBool (pickR (some (.v (.bool b258))) (some (.v (.bool true))) (some v259)) fun b260=>
 rGq b260 false (some v12) fun b261 v262=>
 rGq b261 false (some v13) fun b263 v264=>
 rGe b263 false (fun k265=>callR Tryz.prog G 23 [v262] h257 (fun v266 h267=>
 k265 v266 h267)) h257 fun b268 v269 h270=>
 rGe b268 false (fun k271=>callR Tryz.prog G 33 [v264] h270 (fun v272 h273=>
 k271 v272 h273)) h270 fun b274 v275 h276=>
 rGe b274 false (fun k277=>callR Tryz.prog G 25 [v269,v275] h276 (fun v278 h279=>
 k277 v278 h279)) h276 fun b280 v281 h282=>
 rGq b280 false (aUn .not v281) fun b283 v284=>
 okBool (pickR (some (.v (.bool b283))) (some (.v (.bool true))) (some v284)) fun b285=>
 condB b285
 (RetR h K (.v (.bool false)) h282)
 (Tryz.r5_l10_286 K h G a1 v12 v13 i24 i26 h282 0)) 68 v22 (.ptr i26 0 0 0)) 49 v20 (.ptr i24 0 0 0))))))))
theorem Tryz.c5(G:Nat→Option AV) (a0 a1:AV)(h:AH) (K:AV→AH→Prop)(hk:LowH h.length h→Tryz.r5 G a0 a1 h K):SCall Tryz.prog G 5 [a0,a1] h K:=
 scall_of_rwp Tryz.tab5 [(10, [(10,(.int .i64))], [1,5,6,8,9])] Tryz.func5 rfl Tryz.ntmps5 (by kernel_rfl) (by show 2≤169;decide) (by kernel_rfl) (by kernel_rfl) hk
def Tryz.r20(G:Nat→Option AV)(h:AH) (K:AV→AH→Prop):Prop:=
 newO (.cells 3 1 [[(.v (.int .i64 1))], [(.v (.int .i64 0))]] 0) h fun i0 h1=>
 newO (.cells 3 1 [[(.v (.int .i64 0))], [(.v (.int .i64 1))]] 0) h1 fun i2 h3=>
 newO (.cells 49 6 [[(.v (.int .i64 0)),(.v (.slice none 0 0)),(.v (.int .i64 0)),(.v (.slice none 0 0)),(.v (.string (ByteArray.mk #[]))),(.v (.bool false))]] 0) h3 fun i4 h5=>
 storeR Tryz.prog h5 (fun v6 h7=>
 callR Tryz.prog G 41 [] h7 (fun v8 h9=>
 callR Tryz.prog G 41 [] h9 (fun v10 h11=>
 okP (rowsFill 1 (List.replicate 2 [(.v (.pointer none))]) [(0,some v8),(1,some v10)]) fun r12=>newO (.cells 87 1 r12 0) h11 fun i13 h14=>
 okV (aIA Tryz.prog h14 51 (.sl i13 0 0 2 none) (.v (.int .i64 0))) fun v15=>
 okV (aLoad Tryz.prog h14 87 v15) fun v16=>
 okBool (aBin Tryz.prog .eql 87 v16 (.v (.pointer none))) fun b17=>
 rGq b17 false (some (.sl i13 0 0 2 none)) fun b18 v19=>
 rGq b18 false (aIA Tryz.prog h14 51 v19 (.v (.int .i64 0))) fun b20 v21=>
 rGq b20 false (aLoad Tryz.prog h14 87 v21) fun b22 v23=>
 rGq b22 false (some (.agg [(.v (.string (ByteArray.mk #[97]))),(.v (.int .i64 1)),(.v (.string (ByteArray.mk #[])))])) fun b24 v25=>
 rGq b24 false (some (.agg [(.v (.string (ByteArray.mk #[98]))),(.v (.int .i64 1)),(.v (.string (ByteArray.mk #[])))])) fun b26 v27=>
 rGq b26 false (some (.agg [(.v (.string (ByteArray.mk #[99]))),(.v (.int .i64 1)),(.v (.string (ByteArray.mk #[])))])) fun b28 v29=>
 rGe b28 false (fun k30=>okP (rowsFill 3 (List.replicate 3 [(.v (.string (ByteArray.mk #[]))),(.v (.int .i64 0)),(.v (.string (ByteArray.mk #[])))]) [(0,some v25),(1,some v27),(2,some v29)]) fun r31=>newO (.cells 131 3 r31 0) h14 fun i32 h33=>
 k30 (.sl i32 0 0 3 none) h33) h14 fun b34 v35 h36=>
 rGe b34 false (fun k37=>callR Tryz.prog G 42 [v23,v35] h36 (fun v38 h39=>
 k37 v38 h39)) h36 fun b40 v41 h42=>
 rGq b40 false (aBin Tryz.prog .neq 24 v41 (.v (.int .i64 0))) fun b43 v44=>
 okBool (pickR (some (.v (.bool b43))) (some (.v (.bool true))) (some v44)) fun b45=>
 condB b45
 (RetR h K (.v (.bool false)) h42)
 (okV (aLoad Tryz.prog h42 49 (.ptr i4 0 0 0)) fun v46=>
 callR Tryz.prog G 28 [v46,(.sl i13 0 0 2 none),(.v (.int .i64 2))] h42 (fun v47 h48=>
 okV (extV 0 v47) fun v49=>
 okInt .i64 (extV 1 v47) fun n50=>
 okInt .i64 (extV 2 v47) fun n51=>
 storeR Tryz.prog h48 (fun v52 h53=>
 rGq (n50 != 2) false (some (.v (.int .i64 n51))) fun b54 v55=>
 rGq b54 false (aBin Tryz.prog .neq 24 v55 (.v (.int .i64 0))) fun b56 v57=>
 okBool (pickR (some (.v (.bool b56))) (some (.v (.bool true))) (some v57)) fun b58=>
 rGq b58 false (some (.ptr i4 0 0 4)) fun b59 v60=>
 rGq b59 false (aLoad Tryz.prog h53 9 v60) fun b61 v62=>
 rGq b61 false (aBin Tryz.prog .neq 9 v62 (.v (.string (ByteArray.mk #[99])))) fun b63 v64=>
 okBool (pickR (some (.v (.bool b63))) (some (.v (.bool true))) (some v64)) fun b65=>
 rGq b65 false (some (.ptr i4 0 0 5)) fun b66 v67=>
 rGq b66 false (aLoad Tryz.prog h53 4 v67) fun b68 v69=>
 okBool (pickR (some (.v (.bool b68))) (some (.v (.bool true))) (some v69)) fun b70=>
 rGq b70 false (some (.sl i13 0 0 2 none)) fun b71 v72=>
 rGq b71 false (aIA Tryz.prog h53 51 v72 (.v (.int .i64 0))) fun b73 v74=>
 rGq b73 false (aLoad Tryz.prog h53 87 v74) fun b75 v76=>
 rGe b75 false (fun k77=>callR Tryz.prog G 62 [v76] h53 (fun v78 h79=>
 k77 v78 h79)) h53 fun b80 v81 h82=>
 rGq b80 false (aBin Tryz.prog .neq 3 v81 (.v (.int .i64 1))) fun b83 v84=>
 okBool (pickR (some (.v (.bool b83))) (some (.v (.bool true))) (some v84)) fun b85=>
 condB b85
 (RetR h K (.v (.bool false)) h82)
 (okV (aLoad Tryz.prog h82 49 (.ptr i4 0 0 0)) fun v86=>
 callR Tryz.prog G 28 [v86,(.sl i13 0 0 2 none),(.v (.int .i64 2))] h82 (fun v87 h88=>
 okV (extV 0 v87) fun v89=>
 okInt .i64 (extV 1 v87) fun n90=>
 okInt .i64 (extV 2 v87) fun n91=>
 storeR Tryz.prog h88 (fun v92 h93=>
 rGq (n90==1) true (some (.v (.int .i64 n91))) fun b94 v95=>
 rGq b94 true (aBin Tryz.prog .eql 24 v95 (.v (.int .i64 0))) fun b96 v97=>
 okBool (pickR (some (.v (.bool b96))) (some v97) (some (.v (.bool false)))) fun b98=>
 rGq b98 true (some (.ptr i4 0 0 5)) fun b99 v100=>
 rGq b99 true (aLoad Tryz.prog h93 4 v100) fun b101 v102=>
 okBool (pickR (some (.v (.bool b101))) (some v102) (some (.v (.bool false)))) fun b103=>
 rGq b103 true (some (.sl i13 0 0 2 none)) fun b104 v105=>
 rGq b104 true (aIA Tryz.prog h93 51 v105 (.v (.int .i64 1))) fun b106 v107=>
 rGq b106 true (aLoad Tryz.prog h93 87 v107) fun b108 v109=>
 rGe b108 true (fun k110=>callR Tryz.prog G 62 [v109] h93 (fun v111 h112=>
 k110 v111 h112)) h93 fun b113 v114 h115=>
 rGq b113 true (aBin Tryz.prog .eql 3 v114 (.v (.int .i64 3))) fun b116 v117=>
 okBool (pickR (some (.v (.bool b116))) (some v117) (some (.v (.bool false)))) fun b118=>
 RetR h K (.v (.bool b118)) h115) 49 v89 (.ptr i4 0 0 0)))) 49 v49 (.ptr i4 0 0 0)))))) 49 (.agg [(.v (.int .i64 1)),(.sl i0 0 0 2 none),(.v (.int .i64 2)),(.sl i2 0 0 2 none),(.v (.string (ByteArray.mk #[]))),(.v (.bool false))]) (.ptr i4 0 0 0)
theorem Tryz.c20(G:Nat→Option AV)(h:AH) (K:AV→AH→Prop)(hk:LowH h.length h→Tryz.r20 G h K):SCall Tryz.prog G 20 [] h K:=
 scall_of_rwp Tryz.tab20 [] Tryz.func20 rfl Tryz.ntmps20 (by kernel_rfl) (by show 0≤81;decide) (by kernel_rfl) (by kernel_rfl) hk
def Tryz.r21(a0:AV)(h:AH) (K:AV→AH→Prop):Prop:=
 onlyB (AV.one a0) (newO (.cells 46 (AV.cells a0).length [AV.cells a0] 0) h fun i0 h1=>
 newO (.cells 49 6 [[(.v (.int .i64 0)),(.v (.slice none 0 0)),(.v (.int .i64 0)),(.v (.slice none 0 0)),(.v (.string (ByteArray.mk #[]))),(.v (.bool false))]] 0) h1 fun i2 h3=>
 okV (aLoad Tryz.prog h3 43 (.ptr i0 0 0 0)) fun v4=>
 okV (aLoad Tryz.prog h3 43 (.ptr i0 0 0 2)) fun v5=>
 okStr (aLoad Tryz.prog h3 9 (.ptr i0 0 0 4)) fun s6=>
 okBool (aLoad Tryz.prog h3 4 (.ptr i0 0 0 5)) fun b7=>
 okV (aBuild Tryz.prog 49 [(0,some v4),(1,some v5),(2,some (.v (.string s6))),(3,some (.v (.bool b7)))]) fun v8=>
 storeR Tryz.prog h3 (fun v9 h10=>
 okV (aLoad Tryz.prog h10 49 (.ptr i2 0 0 0)) fun v11=>
 RetR h K v11 h10) 49 v8 (.ptr i2 0 0 0))
theorem Tryz.c21(G:Nat→Option AV) (a0:AV)(h:AH) (K:AV→AH→Prop)(hk:LowH h.length h→Tryz.r21 a0 h K):SCall Tryz.prog G 21 [a0] h K:=
 scall_of_rwp Tryz.tab21 [] Tryz.func21 rfl Tryz.ntmps21 (by kernel_rfl) (by show 1≤12;decide) (by kernel_rfl) (by kernel_rfl) hk
def Tryz.r23_l3_1(K:AV→AH→Prop)(h:AH) (G:Nat→Option AV) (a0:AV) (n0:Int) (v16:AV) (n17:Int):Prop:=
 ∃(I1:Nat→List AV→AH→Prop) (m2:Nat),I1 m2 [v16,(.v (.int .i64 n17))] h∧∀(m3:Nat) (h4:AH),h.length≤h4.length→LowH h4.length h4→∀(v5:AV) (n6:Int),I1 m3 [v5,(.v (.int .i64 n6))] h4 →
 condB (decide (n6<n0))
 (okV (aIA Tryz.prog h4 51 a0 (.v (.int .i64 n6))) fun v7=>
 okV (aLoad Tryz.prog h4 87 v7) fun v8=>
 okBool (aBin Tryz.prog .neq 87 v8 (.v (.pointer none))) fun b9=>
 condB b9
 (callR Tryz.prog G 44 [v8,(.agg [(.v (.string (ByteArray.mk #[]))),(.v (.string (ByteArray.mk #[])))])] h4 (fun v10 h11=>
 appR Tryz.prog h11 47 47 v5 v10 (fun v12 h13=>
 nextR h I1 m3 [some a0,some (.v (.int .i64 n0))] [some a0,some (.v (.int .i64 n0))] [v12,(.v (.int .i64 (IntKind.wrap .i64 (n6+1))))] h13)))
 (nextR h I1 m3 [some a0,some (.v (.int .i64 n0))] [some a0,some (.v (.int .i64 n0))] [v5,(.v (.int .i64 (IntKind.wrap .i64 (n6+1))))] h4))
 (callR Tryz.prog G 64 [v5,(.fn (.func 65) [] [])] h4 (fun v14 h15=>
 RetR h K v5 h15))
def Tryz.r23(G:Nat→Option AV) (a0:AV)(h:AH) (K:AV→AH→Prop):Prop:=
 okInt .i64 (aLen Tryz.prog h 51 a0) fun n0=>
 Tryz.r23_l3_1 K h G a0 n0 (.v (.slice none 0 0)) 0
theorem Tryz.c23(G:Nat→Option AV) (a0:AV)(h:AH) (K:AV→AH→Prop)(hk:LowH h.length h→Tryz.r23 G a0 h K):SCall Tryz.prog G 23 [a0] h K:=
 scall_of_rwp Tryz.tab23 [(3, [(3, .any),(8,(.int .i64))], [6,7])] Tryz.func23 rfl Tryz.ntmps23 (by kernel_rfl) (by show 1≤23;decide) (by kernel_rfl) (by kernel_rfl) hk
def Tryz.r24_l11_36(K:AV→AH→Prop)(h:AH) (G:Nat→Option AV) (i0:Nat)(h7:AH) (v8:AV) (n25:Int) (I26:Nat→List AV→AH→Prop) (m28:Nat) (n30:Int) (v33:AV)(h34:AH) (n35:Int) (n53:Int):Prop:=
 ∃(I36:Nat→List AV→AH→Prop) (m37:Nat),I36 m37 [(.v (.int .i64 n53))] h34∧∀(m38:Nat) (h39:AH),h34.length≤h39.length→LowH h39.length h39→∀(n40:Int),I36 m38 [(.v (.int .i64 n40))] h39 →
 condB (decide (n40<n35))
 (okV (aIA Tryz.prog h39 47 v33 (.v (.int .i64 n40))) fun v41=>
 okV (aLoad Tryz.prog h39 131 v41) fun v42=>
 newO (.cells 131 3 [[(.v (.string (ByteArray.mk #[]))),(.v (.int .i64 0)),(.v (.string (ByteArray.mk #[])))]] 0) h39 fun i43 h44=>
 storeR Tryz.prog h44 (fun v45 h46=>
 okV (aLoad Tryz.prog h46 49 (.ptr i0 0 0 0)) fun v47=>
 okStr (aLoad Tryz.prog h46 9 (.ptr i43 0 0 0)) fun s48=>
 callR Tryz.prog G 53 [v47,(.v (.string s48))] h46 (fun v49 h50=>
 okInt .i64 (extV 0 v49) fun n51=>
 okInt .i64 (extV 1 v49) fun n52=>
 condB (n51 != n30)
 (RetR h K (.v (.int .i64 220)) h50)
 (nextR h34 I36 m38 [some (.ptr i0 0 0 0),some (.v (.int .i64 n30)),some v8,some (.v (.int .i64 n25)),some (.v (.int .i64 n30)),some v33,some (.v (.int .i64 n35))] [some (.ptr i0 0 0 0),some (.v (.int .i64 n30)),some v8,some (.v (.int .i64 n25)),some (.v (.int .i64 n30)),some v33,some (.v (.int .i64 n35))] [(.v (.int .i64 (IntKind.wrap .i64 (n40+1))))] h50))) 131 v42 (.ptr i43 0 0 0))
 (nextR h7 I26 m28 [some (.ptr i0 0 0 0),some v8,some (.v (.int .i64 n25))] [some (.ptr i0 0 0 0),some v8,some (.v (.int .i64 n25))] [(.v (.int .i64 (IntKind.wrap .i64 (n30+1))))] h39)
def Tryz.r24_l8_26(K:AV→AH→Prop)(h:AH) (G:Nat→Option AV) (i0:Nat)(h7:AH) (v8:AV) (n25:Int) (n54:Int):Prop:=
 ∃(I26:Nat→List AV→AH→Prop) (m27:Nat),I26 m27 [(.v (.int .i64 n54))] h7∧∀(m28:Nat) (h29:AH),h7.length≤h29.length→LowH h29.length h29→∀(n30:Int),I26 m28 [(.v (.int .i64 n30))] h29 →
 condB (decide (n30<n25))
 (okV (aIA Tryz.prog h29 137 v8 (.v (.int .i64 n30))) fun v31=>
 okV (aLoad Tryz.prog h29 141 v31) fun v32=>
 callI Tryz.prog G h29 (fun v33 h34=>
 okInt .i64 (aLen Tryz.prog h34 47 v33) fun n35=>
 Tryz.r24_l11_36 K h G i0 h7 v8 n25 I26 m28 n30 v33 h34 n35 0) [(.agg [(.v (.string (ByteArray.mk #[]))), (.v (.string (ByteArray.mk #[])))])] "Rows" v32)
 (RetR h K (.v (.int .i64 0)) h29)
def Tryz.r24(G:Nat→Option AV) (a0 a1:AV)(h:AH) (K:AV→AH→Prop):Prop:=
 onlyB (AV.one a0) (newO (.cells 49 (AV.cells a0).length [AV.cells a0] 0) h fun i0 h1=>
 okV (aLoad Tryz.prog h1 49 (.ptr i0 0 0 0)) fun v2=>
 callR Tryz.prog G 63 [v2] h1 (fun v3 h4=>
 okInt .i64 (some v3) fun n5=>
 condB (n5 != 0)
 (RetR h K (.v (.int .i64 n5)) h4)
 (callR Tryz.prog G 67 [a1] h4 (fun v6 h7=>
 okV (extV 0 v6) fun v8=>
 okBool (extV 1 v6) fun b9=>
 rGq (!b9) false (some v8) fun b10 v11=>
 rGq b10 false (aLen Tryz.prog h7 137 v11) fun b12 v13=>
 rGq b12 false (some (.ptr i0 0 0 2)) fun b14 v15=>
 rGq b14 false (aFA Tryz.prog 43 1 v15) fun b16 v17=>
 rGq b16 false (aLoad Tryz.prog h7 31 v17) fun b18 v19=>
 rGq b18 false (aLen Tryz.prog h7 31 v19) fun b20 v21=>
 rGq b20 false (aBin Tryz.prog .neq 3 v13 v21) fun b22 v23=>
 okBool (pickR (some (.v (.bool b22))) (some (.v (.bool true))) (some v23)) fun b24=>
 condB b24
 (RetR h K (.v (.int .i64 4)) h7)
 (okInt .i64 (aLen Tryz.prog h7 137 v8) fun n25=>
 Tryz.r24_l8_26 K h G i0 h7 v8 n25 0)))))
theorem Tryz.c24(G:Nat→Option AV) (a0 a1:AV)(h:AH) (K:AV→AH→Prop)(hk:LowH h.length h→Tryz.r24 G a0 a1 h K):SCall Tryz.prog G 24 [a0,a1] h K:=
 scall_of_rwp Tryz.tab24 [(8, [(37,(.int .i64))], [2,35,36]),(11, [(46,(.int .i64))], [2,8,35,36,37,44,45])] Tryz.func24 rfl Tryz.ntmps24 (by kernel_rfl) (by show 2≤62;decide) (by kernel_rfl) (by kernel_rfl) hk
def Tryz.r25_l4_2(K:AV→AH→Prop)(h:AH) (a0:AV) (a1:AV) (n13:Int):Prop:=
 ∃(I2:Nat→List AV→AH→Prop) (m3:Nat),I2 m3 [(.v (.int .i64 n13))] h∧∀(m4:Nat) (h5:AH),h.length≤h5.length→LowH h5.length h5→∀(n6:Int),I2 m4 [(.v (.int .i64 n6))] h5 →
 okInt .i64 (aLen Tryz.prog h5 47 a0) fun n7=>
 condB (decide (n6<n7))
 (okV (aIA Tryz.prog h5 47 a0 (.v (.int .i64 n6))) fun v8=>
 okV (aLoad Tryz.prog h5 131 v8) fun v9=>
 okV (aIA Tryz.prog h5 47 a1 (.v (.int .i64 n6))) fun v10=>
 okV (aLoad Tryz.prog h5 131 v10) fun v11=>
 okBool (aBin Tryz.prog .neq 131 v9 v11) fun b12=>
 condB b12
 (RetR h K (.v (.bool false)) h5)
 (nextR h I2 m4 [some a0,some a1] [some a0,some a1] [(.v (.int .i64 (IntKind.wrap .i64 (n6+1))))] h5))
 (RetR h K (.v (.bool true)) h5)
def Tryz.r25(a0 a1:AV)(h:AH) (K:AV→AH→Prop):Prop:=
 okInt .i64 (aLen Tryz.prog h 47 a0) fun n0=>
 okInt .i64 (aLen Tryz.prog h 47 a1) fun n1=>
 condB (n0 != n1)
 (RetR h K (.v (.bool false)) h)
 (Tryz.r25_l4_2 K h a0 a1 0)
theorem Tryz.c25(G:Nat→Option AV) (a0 a1:AV)(h:AH) (K:AV→AH→Prop)(hk:LowH h.length h→Tryz.r25 a0 a1 h K):SCall Tryz.prog G 25 [a0,a1] h K:=
 scall_of_rwp Tryz.tab25 [(4, [(5,(.int .i64))], [0,1])] Tryz.func25 rfl Tryz.ntmps25 (by kernel_rfl) (by show 2≤26;decide) (by kernel_rfl) (by kernel_rfl) hk
def Tryz.r28_l41_142(K:AV→AH→Prop)(h:AH) (G:Nat→Option AV) (i0:Nat) (i2:Nat) (v20:AV)(s44:ByteArray) (v45:AV)(b46:Bool) (v53:AV) (v78:AV)(h124:AH) (n141:Int) (n167:Int):Prop:=
 ∃(I142:Nat→List AV→AH→Prop) (m143:Nat),I142 m143 [(.v (.int .i64 n167))] h124∧∀(m144:Nat) (h145:AH),h124.length≤h145.length→LowH h145.length h145→∀(n146:Int),I142 m144 [(.v (.int .i64 n146))] h145 →
 condB (decide (n146<n141))
 (okV (aIA Tryz.prog h145 31 v45 (.v (.int .i64 n146))) fun v147=>
 okInt .i64 (aLoad Tryz.prog h145 3 v147) fun n148=>
 okV (aIA Tryz.prog h145 31 v78 (.v (.int .i64 n146))) fun v149=>
 okInt .i64 (aLoad Tryz.prog h145 3 v149) fun n150=>
 okV (aIA Tryz.prog h145 137 v53 (.v (.int .i64 n150))) fun v151=>
 okV (aLoad Tryz.prog h145 141 v151) fun v152=>
 okV (aSlice Tryz.prog h145 47 v20 (some (some (.v (.int .i64 n148)))) (some (some (.v (.int .i64 (IntKind.wrap .i64 (n148+1)))))) none) fun v153=>
 okV (aNil v152) fun v154=>
 callI Tryz.prog G h145 (fun v155 h156=>
 okInt .i64 (some v155) fun n157=>
 nextR h124 I142 m144 [some (.ptr i0 0 0 0), some (.ptr i2 0 0 0), some v20, some (.v (.string s44)), some v45, some (.v (.bool b46)), some v53, some v78, some v45, some (.v (.int .i64 n141))] [some (.ptr i0 0 0 0), some (.ptr i2 0 0 0), some v20, some (.v (.string s44)), some v45, some (.v (.bool b46)), some v53, some v78, some v45, some (.v (.int .i64 n141))] [(.v (.int .i64 (IntKind.wrap .i64 (n146 + 1))))] h156) [v153] "Take" v152)
 (storeR Tryz.prog h145 (fun v158 h159=>
 storeR Tryz.prog h159 (fun v160 h161=>
 okV (aLoad Tryz.prog h161 49 (.ptr i0 0 0 0)) fun v162=>
 okInt .i64 (aLen Tryz.prog h161 31 v45) fun n163=>
 storeR Tryz.prog h161 (fun v164 h165=>
 okV (aLoad Tryz.prog h165 49 (.ptr i2 0 0 0)) fun v166=>
 RetR h K (.tup [v166,(.v (.int .i64 n163)),(.v (.int .i64 0))]) h165) 49 v162 (.ptr i2 0 0 0)) 4 (.v (.bool b46)) (.ptr i0 0 0 5)) 9 (.v (.string s44)) (.ptr i0 0 0 4))
def Tryz.r28_l36_121(G:Nat→Option AV)(h:AH) (K:AV→AH→Prop) (i0:Nat) (i2:Nat) (v20:AV) (v27:AV)(s44:ByteArray) (v45:AV)(b46:Bool) (v53:AV) (v77:AV) (v78:AV)(h115:AH) (n120:Int) (n168:Int):Prop:=
 ∃(I121:Nat→List AV→AH→Prop) (m122:Nat),I121 m122 [(.v (.int .i64 n168))] h115∧∀(m123:Nat) (h124:AH),h115.length≤h124.length→LowH h124.length h124→∀(n125:Int),I121 m123 [(.v (.int .i64 n125))] h124 →
 condB (decide (n125<n120))
 (okV (aIA Tryz.prog h124 31 v45 (.v (.int .i64 n125))) fun v126=>
 okInt .i64 (aLoad Tryz.prog h124 3 v126) fun n127=>
 okV (aIA Tryz.prog h124 31 v77 (.v (.int .i64 n125))) fun v128=>
 okInt .i64 (aLoad Tryz.prog h124 3 v128) fun n129=>
 okV (aIA Tryz.prog h124 137 v53 (.v (.int .i64 n129))) fun v130=>
 okV (aLoad Tryz.prog h124 141 v130) fun v131=>
 okV (aIA Tryz.prog h124 142 v27 (.v (.int .i64 n127))) fun v132=>
 okStr (aLoad Tryz.prog h124 9 v132) fun s133=>
 okV (aIA Tryz.prog h124 142 v27 (.v (.int .i64 n127))) fun v134=>
 okStr (aLoad Tryz.prog h124 9 v134) fun s135=>
 okStr (aBin Tryz.prog .add 9 (.v (.string s135)) (.v (.string (ByteArray.mk #[0])))) fun s136=>
 okV (aNil v131) fun v137=>
 callI Tryz.prog G h124 (fun v138 h139=>
 okInt .i64 (some v138) fun n140=>
 nextR h115 I121 m123 [some (.ptr i0 0 0 0), some (.ptr i2 0 0 0), some v20, some v27, some (.v (.string s44)), some v45, some (.v (.bool b46)), some v53, some v77, some v78, some v45, some (.v (.int .i64 n120))] [some (.ptr i0 0 0 0), some (.ptr i2 0 0 0), some v20, some v27, some (.v (.string s44)), some v45, some (.v (.bool b46)), some v53, some v77, some v78, some v45, some (.v (.int .i64 n120))] [(.v (.int .i64 (IntKind.wrap .i64 (n125 + 1))))] h139) [(.agg [(.v (.string s133)), (.v (.string s136))])] "Drop" v131)
 (okInt .i64 (aLen Tryz.prog h124 31 v45) fun n141=>
 Tryz.r28_l41_142 K h G i0 i2 v20 s44 v45 b46 v53 v78 h124 n141 0)
def Tryz.r28_l25_73(K:AV→AH→Prop)(h:AH) (G:Nat→Option AV) (i0:Nat) (i2:Nat) (v20:AV) (v27:AV)(s44:ByteArray) (v45:AV)(b46:Bool) (v53:AV) (n55:Int) (i56:Nat)(h62:AH) (n72:Int) (v169:AV) (v170:AV) (n171:Int):Prop:=
 ∃(I73:Nat→List AV→AH→Prop) (m74:Nat),I73 m74 [v169,v170,(.v (.int .i64 n171))] h62∧∀(m75:Nat) (h76:AH),h62.length≤h76.length→LowH h76.length h76→∀(v77:AV) (v78:AV) (n79:Int),I73 m75 [v77,v78,(.v (.int .i64 n79))] h76 →
 condB (decide (n79<n72))
 (okV (aIA Tryz.prog h76 31 v45 (.v (.int .i64 n79))) fun v80=>
 okInt .i64 (aLoad Tryz.prog h76 3 v80) fun n81=>
 okV (aLoad Tryz.prog h76 31 (.ptr i0 0 0 1)) fun v82=>
 okV (aIA Tryz.prog h76 142 v27 (.v (.int .i64 n81))) fun v83=>
 okStr (aLoad Tryz.prog h76 9 v83) fun s84=>
 callR Tryz.prog G 54 [v82,(.v (.string s84))] h76 (fun v85 h86=>
 okInt .i64 (extV 0 v85) fun n87=>
 okInt .i64 (extV 1 v85) fun n88=>
 okV (aLoad Tryz.prog h86 31 (.ptr i0 0 0 3)) fun v89=>
 okV (aIA Tryz.prog h86 142 v27 (.v (.int .i64 n81))) fun v90=>
 okStr (aLoad Tryz.prog h86 9 v90) fun s91=>
 callR Tryz.prog G 54 [v89,(.v (.string s91))] h86 (fun v92 h93=>
 okInt .i64 (extV 0 v92) fun n94=>
 okInt .i64 (extV 1 v92) fun n95=>
 newO (.cells 3 1 [[(.v (.int .i64 n87))]] 0) h93 fun i96 h97=>
 appR Tryz.prog h97 31 31 v77 (.sl i96 0 0 1 none) (fun v98 h99=>
 newO (.cells 3 1 [[(.v (.int .i64 n94))]] 0) h99 fun i100 h101=>
 appR Tryz.prog h101 31 31 v78 (.sl i100 0 0 1 none) (fun v102 h103=>
 okV (aIA Tryz.prog h103 31 (.sl i56 0 0 (Int.toNat n55) none) (.v (.int .i64 n87))) fun v104=>
 okInt .i64 (aLoad Tryz.prog h103 3 v104) fun n105=>
 okV (aIA Tryz.prog h103 31 (.sl i56 0 0 (Int.toNat n55) none) (.v (.int .i64 n87))) fun v106=>
 storeR Tryz.prog h103 (fun v107 h108=>
 okV (aIA Tryz.prog h108 31 (.sl i56 0 0 (Int.toNat n55) none) (.v (.int .i64 n94))) fun v109=>
 okInt .i64 (aLoad Tryz.prog h108 3 v109) fun n110=>
 okV (aIA Tryz.prog h108 31 (.sl i56 0 0 (Int.toNat n55) none) (.v (.int .i64 n94))) fun v111=>
 storeR Tryz.prog h108 (fun v112 h113=>
 nextR h62 I73 m75 [some (.ptr i0 0 0 0),some (.ptr i2 0 0 0),some v20,some v27,some (.v (.string s44)),some v45,some (.v (.bool b46)),some v53,some (.sl i56 0 0 (Int.toNat n55) none),some v45,some (.v (.int .i64 n72))] [some (.ptr i0 0 0 0),some (.ptr i2 0 0 0),some v20,some v27,some (.v (.string s44)),some v45,some (.v (.bool b46)),some v53,some (.sl i56 0 0 (Int.toNat n55) none),some v45,some (.v (.int .i64 n72))] [v98,v102,(.v (.int .i64 (IntKind.wrap .i64 (n79+1))))] h113) 3 (.v (.int .i64 (IntKind.wrap .i64 (n110+1)))) v111) 3 (.v (.int .i64 (IntKind.wrap .i64 (n105-1)))) v106)))))
 (callR Tryz.prog G 70 [(.sl i56 0 0 (Int.toNat n55) none)] h76 (fun v114 h115=>
 okInt .i64 (some v114) fun n116=>
 condB (decide (n116 > 4096))
 (storeR Tryz.prog h115 (fun v117 h118=>
 okV (aLoad Tryz.prog h118 49 (.ptr i2 0 0 0)) fun v119=>
 RetR h K (.tup [v119,(.v (.int .i64 0)),(.v (.int .i64 22))]) h118) 49 (.agg [(.v (.int .i64 0)),(.v (.slice none 0 0)),(.v (.int .i64 0)),(.v (.slice none 0 0)),(.v (.string (ByteArray.mk #[]))),(.v (.bool false))]) (.ptr i2 0 0 0))
 (okInt .i64 (aLen Tryz.prog h115 31 v45) fun n120=>
 Tryz.r28_l36_121 G h K i0 i2 v20 v27 s44 v45 b46 v53 v77 v78 h115 n120 0)))
def Tryz.r28_l19_59(G:Nat→Option AV)(h:AH) (K:AV→AH→Prop) (i0:Nat) (i2:Nat) (v20:AV) (v27:AV)(s44:ByteArray) (v45:AV)(b46:Bool) (v53:AV) (n55:Int) (i56:Nat)(h57:AH) (n58:Int) (n172:Int):Prop:=
 ∃(I59:Nat→List AV→AH→Prop) (m60:Nat),I59 m60 [(.v (.int .i64 n172))] h57∧∀(m61:Nat) (h62:AH),h57.length≤h62.length→LowH h62.length h62→∀(n63:Int),I59 m61 [(.v (.int .i64 n63))] h62 →
 condB (decide (n63<n58))
 (okV (aIA Tryz.prog h62 137 v53 (.v (.int .i64 n63))) fun v64=>
 okV (aLoad Tryz.prog h62 141 v64) fun v65=>
 callI Tryz.prog G h62 (fun v66 h67=>
 okInt .i64 (some v66) fun n68=>
 okV (aIA Tryz.prog h67 31 (.sl i56 0 0 (Int.toNat n55) none) (.v (.int .i64 n63))) fun v69=>
 storeR Tryz.prog h67 (fun v70 h71=>
 nextR h57 I59 m61 [some (.ptr i0 0 0 0), some (.ptr i2 0 0 0), some v20, some v27, some (.v (.string s44)), some v45, some (.v (.bool b46)), some v53, some (.sl i56 0 0 (Int.toNat n55) none), some v53, some (.v (.int .i64 n58))] [some (.ptr i0 0 0 0), some (.ptr i2 0 0 0), some v20, some v27, some (.v (.string s44)), some v45, some (.v (.bool b46)), some v53, some (.sl i56 0 0 (Int.toNat n55) none), some v53, some (.v (.int .i64 n58))] [(.v (.int .i64 (IntKind.wrap .i64 (n63 + 1))))] h71) 3 (.v (.int .i64 n68)) v69) [] "Len" v65)
 (okInt .i64 (aLen Tryz.prog h62 31 v45) fun n72=>
 Tryz.r28_l25_73 K h G i0 i2 v20 v27 s44 v45 b46 v53 n55 i56 h62 n72 (.v (.slice none 0 0)) (.v (.slice none 0 0)) 0)
def Tryz.r28_l9_23(K:AV→AH→Prop)(h:AH) (G:Nat→Option AV) (a1:AV) (a2:AV) (i0:Nat) (i2:Nat) (v20:AV)(h21:AH) (n22:Int) (v173:AV) (n174:Int):Prop:=
 ∃(I23:Nat→List AV→AH→Prop) (m24:Nat),I23 m24 [v173,(.v (.int .i64 n174))] h21∧∀(m25:Nat) (h26:AH),h21.length≤h26.length→LowH h26.length h26→∀(v27:AV) (n28:Int),I23 m25 [v27,(.v (.int .i64 n28))] h26 →
 condB (decide (n28<n22))
 (okV (aIA Tryz.prog h26 47 v20 (.v (.int .i64 n28))) fun v29=>
 okV (aLoad Tryz.prog h26 131 v29) fun v30=>
 newO (.cells 131 3 [[(.v (.string (ByteArray.mk #[]))),(.v (.int .i64 0)),(.v (.string (ByteArray.mk #[])))]] 0) h26 fun i31 h32=>
 storeR Tryz.prog h32 (fun v33 h34=>
 okStr (aLoad Tryz.prog h34 9 (.ptr i31 0 0 0)) fun s35=>
 newO (.cells 9 1 [[(.v (.string s35))]] 0) h34 fun i36 h37=>
 appR Tryz.prog h37 142 142 v27 (.sl i36 0 0 1 none) (fun v38 h39=>
 nextR h21 I23 m25 [some a1,some a2,some (.ptr i0 0 0 0),some (.ptr i2 0 0 0),some v20,some v20,some (.v (.int .i64 n22))] [some a1,some a2,some (.ptr i0 0 0 0),some (.ptr i2 0 0 0),some v20,some v20,some (.v (.int .i64 n22))] [v38,(.v (.int .i64 (IntKind.wrap .i64 (n28+1))))] h39)) 131 v30 (.ptr i31 0 0 0))
 (okV (aLoad Tryz.prog h26 49 (.ptr i0 0 0 0)) fun v40=>
 okInt .i64 (some a2) fun n41=>
 callR Tryz.prog G 69 [v40,v27,(.v (.int .i64 n41))] h26 (fun v42 h43=>
 okStr (extV 0 v42) fun s44=>
 okV (extV 1 v42) fun v45=>
 okBool (extV 2 v42) fun b46=>
 okInt .i64 (extV 3 v42) fun n47=>
 condB (n47 != 0)
 (storeR Tryz.prog h43 (fun v48 h49=>
 okV (aLoad Tryz.prog h49 49 (.ptr i2 0 0 0)) fun v50=>
 RetR h K (.tup [v50,(.v (.int .i64 0)),(.v (.int .i64 n47))]) h49) 49 (.agg [(.v (.int .i64 0)),(.v (.slice none 0 0)),(.v (.int .i64 0)),(.v (.slice none 0 0)),(.v (.string (ByteArray.mk #[]))),(.v (.bool false))]) (.ptr i2 0 0 0))
 (callR Tryz.prog G 67 [a1] h43 (fun v51 h52=>
 okV (extV 0 v51) fun v53=>
 okBool (extV 1 v51) fun b54=>
 okInt .i64 (aLen Tryz.prog h52 137 v53) fun n55=>
 ((0:Int)≤n55∧n55≤n55∧(((8:Nat):Int))*n55≤281474976710656∧n55≤4611686018427387904)∧newO (.cells 3 1 (List.replicate (Int.toNat n55) [(.v (.int .i64 0))]) 0) h52 fun i56 h57=>
 okInt .i64 (aLen Tryz.prog h57 137 v53) fun n58=>
 Tryz.r28_l19_59 G h K i0 i2 v20 v27 s44 v45 b46 v53 n55 i56 h57 n58 0))))
def Tryz.r28(G:Nat→Option AV) (a0 a1 a2:AV)(h:AH) (K:AV→AH→Prop):Prop:=
 onlyB (AV.one a0) (newO (.cells 49 (AV.cells a0).length [AV.cells a0] 0) h fun i0 h1=>
 newO (.cells 49 6 [[(.v (.int .i64 0)),(.v (.slice none 0 0)),(.v (.int .i64 0)),(.v (.slice none 0 0)),(.v (.string (ByteArray.mk #[]))),(.v (.bool false))]] 0) h1 fun i2 h3=>
 okV (aLoad Tryz.prog h3 49 (.ptr i0 0 0 0)) fun v4=>
 callR Tryz.prog G 24 [v4,a1] h3 (fun v5 h6=>
 okInt .i64 (some v5) fun n7=>
 condB (n7 != 0)
 (storeR Tryz.prog h6 (fun v8 h9=>
 okV (aLoad Tryz.prog h9 49 (.ptr i2 0 0 0)) fun v10=>
 RetR h K (.tup [v10,(.v (.int .i64 0)),(.v (.int .i64 n7))]) h9) 49 (.agg [(.v (.int .i64 0)),(.v (.slice none 0 0)),(.v (.int .i64 0)),(.v (.slice none 0 0)),(.v (.string (ByteArray.mk #[]))),(.v (.bool false))]) (.ptr i2 0 0 0))
 (okBool (aLoad Tryz.prog h6 4 (.ptr i0 0 0 5)) fun b11=>
 rGq b11 false (some a2) fun b12 v13=>
 rGq b12 false (aBin Tryz.prog .lss 3 v13 (.v (.int .i64 1))) fun b14 v15=>
 okBool (pickR (some (.v (.bool b14))) (some (.v (.bool true))) (some v15)) fun b16=>
 condB b16
 (storeR Tryz.prog h6 (fun v17 h18=>
 okV (aLoad Tryz.prog h18 49 (.ptr i2 0 0 0)) fun v19=>
 RetR h K (.tup [v19,(.v (.int .i64 0)),(.v (.int .i64 1))]) h18) 49 (.agg [(.v (.int .i64 0)),(.v (.slice none 0 0)),(.v (.int .i64 0)),(.v (.slice none 0 0)),(.v (.string (ByteArray.mk #[]))),(.v (.bool false))]) (.ptr i2 0 0 0))
 (callR Tryz.prog G 23 [a1] h6 (fun v20 h21=>
 okInt .i64 (aLen Tryz.prog h21 47 v20) fun n22=>
 Tryz.r28_l9_23 K h G a1 a2 i0 i2 v20 h21 n22 (.v (.slice none 0 0)) 0)))))
theorem Tryz.c28(G:Nat→Option AV) (a0 a1 a2:AV)(h:AH) (K:AV→AH→Prop)(hk:LowH h.length h→Tryz.r28 G a0 a1 a2 h K):SCall Tryz.prog G 28 [a0,a1,a2] h K:=
 scall_of_rwp Tryz.tab28 [(9, [(11, .any),(53,(.int .i64))], [1,2,3,6,10,51,52]),(19, [(86,(.int .i64))], [3,6,10,11,14,15,16,18,20,84,85]),(25, [(23, .any),(24, .any),(99,(.int .i64))], [3,6,10,11,14,15,16,18,20,97,98]),(36, [(152,(.int .i64))], [3,6,10,11,14,15,16,18,23,24,150,151]),(41, [(180,(.int .i64))], [3,6,10,14,15,16,18,24,178,179])] Tryz.func28 rfl Tryz.ntmps28 (by kernel_rfl) (by show 3≤208;decide) (by kernel_rfl) (by kernel_rfl) hk
def Tryz.r29_l4_4(K:AV→AH→Prop)(h:AH) (i0:Nat)(h1:AH) (n15:Int):Prop:=
 ∃(I4:Nat→List AV→AH→Prop) (m5:Nat),I4 m5 [(.v (.int .i64 n15))] h1∧∀(m6:Nat) (h7:AH),h1.length≤h7.length→LowH h7.length h7→∀(n8:Int),I4 m6 [(.v (.int .i64 n8))] h7 →
 okV (aLoad Tryz.prog h7 44 (.ptr i0 0 0 6)) fun v9=>
 okInt .i64 (aLen Tryz.prog h7 44 v9) fun n10=>
 condB (decide (n8<n10))
 (okV (aLoad Tryz.prog h7 44 (.ptr i0 0 0 6)) fun v11=>
 okV (aIA Tryz.prog h7 44 v11 (.v (.int .i64 n8))) fun v12=>
 okV (aLoad Tryz.prog h7 47 v12) fun v13=>
 okInt .i64 (aLen Tryz.prog h7 47 v13) fun n14=>
 condB (decide (n14 > 60))
 (RetR h K (.v (.bool false)) h7)
 (nextR h1 I4 m6 [some (.ptr i0 0 0 0)] [some (.ptr i0 0 0 0)] [(.v (.int .i64 (IntKind.wrap .i64 (n8+1))))] h7))
 (RetR h K (.v (.bool true)) h7)
def Tryz.r29(a0:AV)(h:AH) (K:AV→AH→Prop):Prop:=
 onlyB (AV.one a0) (newO (.cells 46 (AV.cells a0).length [AV.cells a0] 0) h fun i0 h1=>
 okV (aLoad Tryz.prog h1 44 (.ptr i0 0 0 6)) fun v2=>
 okInt .i64 (aLen Tryz.prog h1 44 v2) fun n3=>
 condB (decide (n3 > 12))
 (RetR h K (.v (.bool false)) h1)
 (Tryz.r29_l4_4 K h i0 h1 0))
theorem Tryz.c29(G:Nat→Option AV) (a0:AV)(h:AH) (K:AV→AH→Prop)(hk:LowH h.length h→Tryz.r29 a0 h K):SCall Tryz.prog G 29 [a0] h K:=
 scall_of_rwp Tryz.tab29 [(4, [(3,(.int .i64))], [1])] Tryz.func29 rfl Tryz.ntmps29 (by kernel_rfl) (by show 1≤22;decide) (by kernel_rfl) (by kernel_rfl) hk
def Tryz.r30_l4_2(K:AV→AH→Prop)(h:AH) (G:Nat→Option AV) (i0:Nat)(h1:AH) (v67:AV) (v68:AV) (n69:Int):Prop:=
 ∃(I2:Nat→List AV→AH→Prop) (m3:Nat),I2 m3 [v67,v68,(.v (.int .i64 n69))] h1∧∀(m4:Nat) (h5:AH),h1.length≤h5.length→LowH h5.length h5→∀(v6:AV) (v7:AV) (n8:Int),I2 m4 [v6,v7,(.v (.int .i64 n8))] h5 →
 okV (aLoad Tryz.prog h5 44 (.ptr i0 0 0 6)) fun v9=>
 okInt .i64 (aLen Tryz.prog h5 44 v9) fun n10=>
 condB (decide (n8<n10))
 (callR Tryz.prog G 41 [] h5 (fun v11 h12=>
 newO (.cells 149 1 [[(.v (.slice none 0 0))]] 0) h12 fun i13 h14=>
 okBool (aBin Tryz.prog .eql 87 v11 (.v (.pointer none))) fun b15=>
 rGq b15 false (some v11) fun b16 v17=>
 rGq b16 false (some (.ptr i0 0 0 6)) fun b18 v19=>
 rGq b18 false (aLoad Tryz.prog h14 44 v19) fun b20 v21=>
 rGq b20 false (some (.v (.int .i64 n8))) fun b22 v23=>
 rGq b22 false (aIA Tryz.prog h14 44 v21 v23) fun b24 v25=>
 rGq b24 false (aLoad Tryz.prog h14 47 v25) fun b26 v27=>
 rGe b26 false (fun k28=>callR Tryz.prog G 42 [v17,v27] h14 (fun v29 h30=>
 k28 v29 h30)) h14 fun b31 v32 h33=>
 rGq b31 false (aBin Tryz.prog .neq 24 v32 (.v (.int .i64 0))) fun b34 v35=>
 okBool (pickR (some (.v (.bool b34))) (some (.v (.bool true))) (some v35)) fun b36=>
 rGq b36 false (some (.ptr i13 0 0 0)) fun b37 v38=>
 rGq b37 false (some (.ptr i0 0 0 6)) fun b39 v40=>
 rGq b39 false (aLoad Tryz.prog h33 44 v40) fun b41 v42=>
 rGq b41 false (some (.v (.int .i64 n8))) fun b43 v44=>
 rGq b43 false (aIA Tryz.prog h33 44 v42 v44) fun b45 v46=>
 rGq b45 false (aLoad Tryz.prog h33 47 v46) fun b47 v48=>
 rGe b47 false (fun k49=>callR Tryz.prog G 71 [v38,v48] h33 (fun v50 h51=>
 k49 v50 h51)) h33 fun b52 v53 h54=>
 rGq b52 false (aBin Tryz.prog .neq 24 v53 (.v (.int .i64 0))) fun b55 v56=>
 okBool (pickR (some (.v (.bool b55))) (some (.v (.bool true))) (some v56)) fun b57=>
 condB b57
 (RetR h K (.tup [(.v (.slice none 0 0)),(.v (.slice none 0 0)),(.v (.bool false))]) h54)
 (okP (rowsFill 1 (List.replicate 1 [(.v (.pointer none))]) [(0,some v11)]) fun r58=>newO (.cells 87 1 r58 0) h54 fun i59 h60=>
 appR Tryz.prog h60 51 51 v6 (.sl i59 0 0 1 none) (fun v61 h62=>
 newO (.cells 147 1 [[(.ptr i13 0 0 0)]] 0) h62 fun i63 h64=>
 appR Tryz.prog h64 65 65 v7 (.sl i63 0 0 1 none) (fun v65 h66=>
 nextR h1 I2 m4 [some (.ptr i0 0 0 0)] [some (.ptr i0 0 0 0)] [v61,v65,(.v (.int .i64 (IntKind.wrap .i64 (n8+1))))] h66)))))
 (RetR h K (.tup [v6,v7,(.v (.bool true))]) h5)
def Tryz.r30(G:Nat→Option AV) (a0:AV)(h:AH) (K:AV→AH→Prop):Prop:=
 onlyB (AV.one a0) (newO (.cells 46 (AV.cells a0).length [AV.cells a0] 0) h fun i0 h1=>
 Tryz.r30_l4_2 K h G i0 h1 (.v (.slice none 0 0)) (.v (.slice none 0 0)) 0)
theorem Tryz.c30(G:Nat→Option AV) (a0:AV)(h:AH) (K:AV→AH→Prop)(hk:LowH h.length h→Tryz.r30 G a0 h K):SCall Tryz.prog G 30 [a0] h K:=
 scall_of_rwp Tryz.tab30 [(4, [(5, .any),(6, .any),(7,(.int .i64))], [1])] Tryz.func30 rfl Tryz.ntmps30 (by kernel_rfl) (by show 1≤52;decide) (by kernel_rfl) (by kernel_rfl) hk
def Tryz.r31(a0:AV)(h:AH) (K:AV→AH→Prop):Prop:=
 onlyB (AV.one a0) (newO (.cells 46 (AV.cells a0).length [AV.cells a0] 0) h fun i0 h1=>
 newO (.cells 68 6 [[(.v (.int .i64 0)),(.v (.slice none 0 0)),(.v (.int .i64 0)),(.v (.slice none 0 0)),(.v (.string (ByteArray.mk #[]))),(.v (.bool false))]] 0) h1 fun i2 h3=>
 okV (aLoad Tryz.prog h3 43 (.ptr i0 0 0 0)) fun v4=>
 okV (aLoad Tryz.prog h3 43 (.ptr i0 0 0 2)) fun v5=>
 okStr (aLoad Tryz.prog h3 9 (.ptr i0 0 0 4)) fun s6=>
 okBool (aLoad Tryz.prog h3 4 (.ptr i0 0 0 5)) fun b7=>
 okV (aBuild Tryz.prog 68 [(0,some v4),(1,some v5),(2,some (.v (.string s6))),(3,some (.v (.bool b7)))]) fun v8=>
 storeR Tryz.prog h3 (fun v9 h10=>
 okV (aLoad Tryz.prog h10 68 (.ptr i2 0 0 0)) fun v11=>
 RetR h K v11 h10) 68 v8 (.ptr i2 0 0 0))
theorem Tryz.c31(G:Nat→Option AV) (a0:AV)(h:AH) (K:AV→AH→Prop)(hk:LowH h.length h→Tryz.r31 a0 h K):SCall Tryz.prog G 31 [a0] h K:=
 scall_of_rwp Tryz.tab31 [] Tryz.func31 rfl Tryz.ntmps31 (by kernel_rfl) (by show 1≤12;decide) (by kernel_rfl) (by kernel_rfl) hk
def Tryz.r32_l9_15(K:AV→AH→Prop)(h:AH) (G:Nat→Option AV) (a1:AV) (i0:Nat)(h4:AH) (I9:Nat→List AV→AH→Prop) (m11:Nat)(h12:AH) (n13:Int) (n39:Int):Prop:=
 ∃(I15:Nat→List AV→AH→Prop) (m16:Nat),I15 m16 [(.v (.int .i64 n39))] h12∧∀(m17:Nat) (h18:AH),h12.length≤h18.length→LowH h18.length h18→∀(n19:Int),I15 m17 [(.v (.int .i64 n19))] h18 →
 okV (aIA Tryz.prog h18 65 a1 (.v (.int .i64 n13))) fun v20=>
 okV (aLoad Tryz.prog h18 147 v20) fun v21=>
 okV (aNil v21) fun v22=>
 okV (aFA Tryz.prog 149 0 v22) fun v23=>
 okV (aLoad Tryz.prog h18 47 v23) fun v24=>
 okInt .i64 (aLen Tryz.prog h18 47 v24) fun n25=>
 condB (decide (n19<n25))
 (okV (aLoad Tryz.prog h18 68 (.ptr i0 0 0 0)) fun v26=>
 okV (aIA Tryz.prog h18 65 a1 (.v (.int .i64 n13))) fun v27=>
 okV (aLoad Tryz.prog h18 147 v27) fun v28=>
 okV (aNil v28) fun v29=>
 okV (aFA Tryz.prog 149 0 v29) fun v30=>
 okV (aLoad Tryz.prog h18 47 v30) fun v31=>
 okV (aIA Tryz.prog h18 47 v31 (.v (.int .i64 n19))) fun v32=>
 okV (aFA Tryz.prog 131 0 v32) fun v33=>
 okStr (aLoad Tryz.prog h18 9 v33) fun s34=>
 callR Tryz.prog G 55 [v26,(.v (.string s34))] h18 (fun v35 h36=>
 okInt .i64 (extV 0 v35) fun n37=>
 okInt .i64 (extV 1 v35) fun n38=>
 condB (n37 != n13)
 (RetR h K (.v (.int .i64 220)) h36)
 (nextR h12 I15 m17 [some a1,some (.ptr i0 0 0 0),some (.v (.int .i64 n13))] [some a1,some (.ptr i0 0 0 0),some (.v (.int .i64 n13))] [(.v (.int .i64 (IntKind.wrap .i64 (n19+1))))] h36)))
 (nextR h4 I9 m11 [some a1,some (.ptr i0 0 0 0)] [some a1,some (.ptr i0 0 0 0)] [(.v (.int .i64 (IntKind.wrap .i64 (n13+1))))] h18)
def Tryz.r32_l6_9(K:AV→AH→Prop)(h:AH) (G:Nat→Option AV) (a1:AV) (i0:Nat)(h4:AH) (n40:Int):Prop:=
 ∃(I9:Nat→List AV→AH→Prop) (m10:Nat),I9 m10 [(.v (.int .i64 n40))] h4∧∀(m11:Nat) (h12:AH),h4.length≤h12.length→LowH h12.length h12→∀(n13:Int),I9 m11 [(.v (.int .i64 n13))] h12 →
 okInt .i64 (aLen Tryz.prog h12 65 a1) fun n14=>
 condB (decide (n13<n14))
 (Tryz.r32_l9_15 K h G a1 i0 h4 I9 m11 h12 n13 0)
 (RetR h K (.v (.int .i64 0)) h12)
def Tryz.r32(G:Nat→Option AV) (a0 a1:AV)(h:AH) (K:AV→AH→Prop):Prop:=
 onlyB (AV.one a0) (newO (.cells 68 (AV.cells a0).length [AV.cells a0] 0) h fun i0 h1=>
 okV (aLoad Tryz.prog h1 68 (.ptr i0 0 0 0)) fun v2=>
 callR Tryz.prog G 40 [v2] h1 (fun v3 h4=>
 okBool (some v3) fun b5=>
 condB (!b5)
 (RetR h K (.v (.int .i64 70)) h4)
 (okInt .i64 (aLen Tryz.prog h4 65 a1) fun n6=>
 okV (aLoad Tryz.prog h4 31 (.ptr i0 0 0 3)) fun v7=>
 okInt .i64 (aLen Tryz.prog h4 31 v7) fun n8=>
 condB (n6 != n8)
 (RetR h K (.v (.int .i64 4)) h4)
 (Tryz.r32_l6_9 K h G a1 i0 h4 0))))
theorem Tryz.c32(G:Nat→Option AV) (a0 a1:AV)(h:AH) (K:AV→AH→Prop)(hk:LowH h.length h→Tryz.r32 G a0 a1 h K):SCall Tryz.prog G 32 [a0,a1] h K:=
 scall_of_rwp Tryz.tab32 [(6, [(5,(.int .i64))], [1,2]),(9, [(6,(.int .i64))], [1,2,5])] Tryz.func32 rfl Tryz.ntmps32 (by kernel_rfl) (by show 2≤56;decide) (by kernel_rfl) (by kernel_rfl) hk
def Tryz.r33_l5_8(K:AV→AH→Prop)(h:AH) (a0:AV) (n0:Int) (i1:Nat)(h2:AH) (I3:Nat→List AV→AH→Prop) (m5:Nat)(h6:AH) (v7:AV) (n110:Int) (n111:Int):Prop:=
 ∃(I8:Nat→List AV→AH→Prop) (m9:Nat),I8 m9 [(.v (.int .i64 n110)),(.v (.int .i64 n111))] h6∧∀(m10:Nat) (h11:AH),h6.length≤h11.length→LowH h11.length h11→∀(n12:Int) (n13:Int),I8 m10 [(.v (.int .i64 n12)),(.v (.int .i64 n13))] h11 →
 okInt .i64 (aLen Tryz.prog h11 65 a0) fun n14=>
 condB (decide (n13<n14))
 (okV (aIA Tryz.prog h11 31 (.sl i1 0 0 (Int.toNat n0) none) (.v (.int .i64 n13))) fun v15=>
 okInt .i64 (aLoad Tryz.prog h11 3 v15) fun n16=>
 okV (aIA Tryz.prog h11 65 a0 (.v (.int .i64 n13))) fun v17=>
 okV (aLoad Tryz.prog h11 147 v17) fun v18=>
 okV (aNil v18) fun v19=>
 okV (aFA Tryz.prog 149 0 v19) fun v20=>
 okV (aLoad Tryz.prog h11 47 v20) fun v21=>
 okInt .i64 (aLen Tryz.prog h11 47 v21) fun n22=>
 rGq (decide (n16<n22)) true (some (.v (.int .i64 n12))) fun b23 v24=>
 rGq b23 true (aBin Tryz.prog .lss 3 v24 (.v (.int .i64 0))) fun b25 v26=>
 rGq b25 true (some v26) fun b27 v28=>
 okG (some v28) false fun b29 g0=>
 rGq b29 false (some a0) fun b30 v31=>
 okG (some (g0 b30)) false fun c1 g2=>
 rGq c1 false (some (.v (.int .i64 n13))) fun b32 v33=>
 okG (some (g2 b32)) false fun c3 g4=>
 rGq c3 false (aIA Tryz.prog h11 65 v31 v33) fun b34 v35=>
 okG (some (g4 b34)) false fun c5 g6=>
 rGq c5 false (aLoad Tryz.prog h11 147 v35) fun b36 v37=>
 okG (some (g6 b36)) false fun c7 g8=>
 rGq c7 false (aNil v37) fun b38 v39=>
 okG (some (g8 b38)) false fun c9 g10=>
 rGq c9 false (aFA Tryz.prog 149 0 v39) fun b40 v41=>
 okG (some (g10 b40)) false fun c11 g12=>
 rGq c11 false (aLoad Tryz.prog h11 47 v41) fun b42 v43=>
 okG (some (g12 b42)) false fun c13 g14=>
 rGq c13 false (some (.sl i1 0 0 (Int.toNat n0) none)) fun b44 v45=>
 okG (some (g14 b44)) false fun c15 g16=>
 rGq c15 false (some (.v (.int .i64 n13))) fun b46 v47=>
 okG (some (g16 b46)) false fun c17 g18=>
 rGq c17 false (aIA Tryz.prog h11 31 v45 v47) fun b48 v49=>
 okG (some (g18 b48)) false fun c19 g20=>
 rGq c19 false (aLoad Tryz.prog h11 3 v49) fun b50 v51=>
 okG (some (g20 b50)) false fun c21 g22=>
 rGq c21 false (aIA Tryz.prog h11 47 v43 v51) fun b52 v53=>
 okG (some (g22 b52)) false fun c23 g24=>
 rGq c23 false (aFA Tryz.prog 131 0 v53) fun b54 v55=>
 okG (some (g24 b54)) false fun c25 g26=>
 rGq c25 false (aLoad Tryz.prog h11 9 v55) fun b56 v57=>
 okG (some (g26 b56)) false fun c27 g28=>
 rGq c27 false (some a0) fun b58 v59=>
 okG (some (g28 b58)) false fun c29 g30=>
 rGq c29 false (some (.v (.int .i64 n12))) fun b60 v61=>
 okG (some (g30 b60)) false fun c31 g32=>
 rGq c31 false (aIA Tryz.prog h11 65 v59 v61) fun b62 v63=>
 okG (some (g32 b62)) false fun c33 g34=>
 rGq c33 false (aLoad Tryz.prog h11 147 v63) fun b64 v65=>
 okG (some (g34 b64)) false fun c35 g36=>
 rGq c35 false (aNil v65) fun b66 v67=>
 okG (some (g36 b66)) false fun c37 g38=>
 rGq c37 false (aFA Tryz.prog 149 0 v67) fun b68 v69=>
 okG (some (g38 b68)) false fun c39 g40=>
 rGq c39 false (aLoad Tryz.prog h11 47 v69) fun b70 v71=>
 okG (some (g40 b70)) false fun c41 g42=>
 rGq c41 false (some (.sl i1 0 0 (Int.toNat n0) none)) fun b72 v73=>
 okG (some (g42 b72)) false fun c43 g44=>
 rGq c43 false (some (.v (.int .i64 n12))) fun b74 v75=>
 okG (some (g44 b74)) false fun c45 g46=>
 rGq c45 false (aIA Tryz.prog h11 31 v73 v75) fun b76 v77=>
 okG (some (g46 b76)) false fun c47 g48=>
 rGq c47 false (aLoad Tryz.prog h11 3 v77) fun b78 v79=>
 okG (some (g48 b78)) false fun c49 g50=>
 rGq c49 false (aIA Tryz.prog h11 47 v71 v79) fun b80 v81=>
 okG (some (g50 b80)) false fun c51 g52=>
 rGq c51 false (aFA Tryz.prog 131 0 v81) fun b82 v83=>
 okG (some (g52 b82)) false fun c53 g54=>
 rGq c53 false (aLoad Tryz.prog h11 9 v83) fun b84 v85=>
 okG (some (g54 b84)) false fun c55 g56=>
 rGq c55 false (aBin Tryz.prog .lss 9 v57 v85) fun b86 v87=>
 rGq b27 true (pickR (some (g56 b86)) (some (.v (.bool true))) (some v87)) fun b88 v89=>
 okBool (pickR (some (.v (.bool b88))) (some v89) (some (.v (.bool false)))) fun b90=>
 condB b90
 (nextR h6 I8 m10 [some a0,some (.sl i1 0 0 (Int.toNat n0) none),some v7] [some a0,some (.sl i1 0 0 (Int.toNat n0) none),some v7] [(.v (.int .i64 n13)),(.v (.int .i64 (IntKind.wrap .i64 (n13+1))))] h11)
 (nextR h6 I8 m10 [some a0,some (.sl i1 0 0 (Int.toNat n0) none),some v7] [some a0,some (.sl i1 0 0 (Int.toNat n0) none),some v7] [(.v (.int .i64 n12)),(.v (.int .i64 (IntKind.wrap .i64 (n13+1))))] h11))
 (condB (decide (n12<0))
 (RetR h K v7 h11)
 (okV (aIA Tryz.prog h11 65 a0 (.v (.int .i64 n12))) fun v91=>
 okV (aLoad Tryz.prog h11 147 v91) fun v92=>
 okV (aNil v92) fun v93=>
 okV (aFA Tryz.prog 149 0 v93) fun v94=>
 okV (aLoad Tryz.prog h11 47 v94) fun v95=>
 okV (aIA Tryz.prog h11 31 (.sl i1 0 0 (Int.toNat n0) none) (.v (.int .i64 n12))) fun v96=>
 okInt .i64 (aLoad Tryz.prog h11 3 v96) fun n97=>
 okV (aIA Tryz.prog h11 47 v95 (.v (.int .i64 n97))) fun v98=>
 okV (aLoad Tryz.prog h11 131 v98) fun v99=>
 okP (rowsFill 3 (List.replicate 1 [(.v (.string (ByteArray.mk #[]))),(.v (.int .i64 0)),(.v (.string (ByteArray.mk #[])))]) [(0,some v99)]) fun r100=>newO (.cells 131 3 r100 0) h11 fun i101 h102=>
 appR Tryz.prog h102 47 47 v7 (.sl i101 0 0 1 none) (fun v103 h104=>
 okV (aIA Tryz.prog h104 31 (.sl i1 0 0 (Int.toNat n0) none) (.v (.int .i64 n12))) fun v105=>
 okInt .i64 (aLoad Tryz.prog h104 3 v105) fun n106=>
 okV (aIA Tryz.prog h104 31 (.sl i1 0 0 (Int.toNat n0) none) (.v (.int .i64 n12))) fun v107=>
 storeR Tryz.prog h104 (fun v108 h109=>
 nextR h2 I3 m5 [some a0,some (.sl i1 0 0 (Int.toNat n0) none)] [some a0,some (.sl i1 0 0 (Int.toNat n0) none)] [v103] h109) 3 (.v (.int .i64 (IntKind.wrap .i64 (n106+1)))) v107)))
def Tryz.r33_l3_3(h:AH) (K:AV→AH→Prop) (a0:AV) (n0:Int) (i1:Nat)(h2:AH) (v112:AV):Prop:=
 ∃(I3:Nat→List AV→AH→Prop) (m4:Nat),I3 m4 [v112] h2∧∀(m5:Nat) (h6:AH),h2.length≤h6.length→LowH h6.length h6→∀(v7:AV),I3 m5 [v7] h6 →
 Tryz.r33_l5_8 K h a0 n0 i1 h2 I3 m5 h6 v7 (-1) 0
def Tryz.r33(a0:AV)(h:AH) (K:AV→AH→Prop):Prop:=
 okInt .i64 (aLen Tryz.prog h 65 a0) fun n0=>
 ((0:Int)≤n0∧n0≤n0∧(((8:Nat):Int))*n0≤281474976710656∧n0≤4611686018427387904)∧newO (.cells 3 1 (List.replicate (Int.toNat n0) [(.v (.int .i64 0))]) 0) h fun i1 h2=>
 Tryz.r33_l3_3 h K a0 n0 i1 h2 (.v (.slice none 0 0))
theorem Tryz.c33(G:Nat→Option AV) (a0:AV)(h:AH) (K:AV→AH→Prop)(hk:LowH h.length h→Tryz.r33 a0 h K):SCall Tryz.prog G 33 [a0] h K:=
 scall_of_rwp Tryz.tab33 [(3, [(4, .any)], [0,3]),(5, [(5,(.int .i64)),(6,(.int .i64))], [0,3,4])] Tryz.func33 rfl Tryz.ntmps33 (by kernel_rfl) (by show 1≤90;decide) (by kernel_rfl) (by kernel_rfl) hk
def Tryz.r34_l32_112(K:AV→AH→Prop)(h:AH) (a1:AV) (i2:Nat) (i4:Nat) (n50:Int) (i51:Nat)(h103:AH) (n130:Int):Prop:=
 ∃(I112:Nat→List AV→AH→Prop) (m113:Nat),I112 m113 [(.v (.int .i64 n130))] h103∧∀(m114:Nat) (h115:AH),h103.length≤h115.length→LowH h115.length h115→∀(n116:Int),I112 m114 [(.v (.int .i64 n116))] h115 →
 okInt .i64 (aLen Tryz.prog h115 65 a1) fun n117=>
 condB (decide (n116<n117))
 (okV (aIA Tryz.prog h115 65 a1 (.v (.int .i64 n116))) fun v118=>
 okV (aLoad Tryz.prog h115 147 v118) fun v119=>
 okV (aIA Tryz.prog h115 44 (.sl i51 0 0 (Int.toNat n50) none) (.v (.int .i64 n116))) fun v120=>
 okV (aLoad Tryz.prog h115 47 v120) fun v121=>
 okV (aNil v119) fun v122=>
 okV (aFA Tryz.prog 149 0 v122) fun v123=>
 storeR Tryz.prog h115 (fun v124 h125=>
 nextR h103 I112 m114 [some a1,some (.ptr i2 0 0 0),some (.ptr i4 0 0 0),some (.sl i51 0 0 (Int.toNat n50) none)] [some a1,some (.ptr i2 0 0 0),some (.ptr i4 0 0 0),some (.sl i51 0 0 (Int.toNat n50) none)] [(.v (.int .i64 (IntKind.wrap .i64 (n116+1))))] h125) 47 v121 v123)
 (okV (aLoad Tryz.prog h115 68 (.ptr i4 0 0 0)) fun v126=>
 storeR Tryz.prog h115 (fun v127 h128=>
 okV (aLoad Tryz.prog h128 68 (.ptr i2 0 0 0)) fun v129=>
 RetR h K (.tup [v129,(.v (.int .i64 0)),(.v (.int .i64 22))]) h128) 68 v126 (.ptr i2 0 0 0))
def Tryz.r34_l28_100(K:AV→AH→Prop)(h:AH) (a1:AV) (i0:Nat) (i2:Nat) (i4:Nat)(s46:ByteArray) (v47:AV)(b48:Bool) (n50:Int) (i51:Nat)(h70:AH) (n140:Int):Prop:=
 ∃(I100:Nat→List AV→AH→Prop) (m101:Nat),I100 m101 [(.v (.int .i64 n140))] h70∧∀(m102:Nat) (h103:AH),h70.length≤h103.length→LowH h103.length h103→∀(n104:Int),I100 m102 [(.v (.int .i64 n104))] h103 →
 okInt .i64 (aLen Tryz.prog h103 65 a1) fun n105=>
 condB (decide (n104<n105))
 (okV (aIA Tryz.prog h103 65 a1 (.v (.int .i64 n104))) fun v106=>
 okV (aLoad Tryz.prog h103 147 v106) fun v107=>
 okV (aNil v107) fun v108=>
 okV (aFA Tryz.prog 149 0 v108) fun v109=>
 okV (aLoad Tryz.prog h103 47 v109) fun v110=>
 okInt .i64 (aLen Tryz.prog h103 47 v110) fun n111=>
 condB (decide (n111 > 4096))
 (Tryz.r34_l32_112 K h a1 i2 i4 n50 i51 h103 0)
 (nextR h70 I100 m102 [some a1,some (.ptr i0 0 0 0),some (.ptr i2 0 0 0),some (.ptr i4 0 0 0),some (.v (.string s46)),some v47,some (.v (.bool b48)),some (.sl i51 0 0 (Int.toNat n50) none)] [some a1,some (.ptr i0 0 0 0),some (.ptr i2 0 0 0),some (.ptr i4 0 0 0),some (.v (.string s46)),some v47,some (.v (.bool b48)),some (.sl i51 0 0 (Int.toNat n50) none)] [(.v (.int .i64 (IntKind.wrap .i64 (n104+1))))] h103))
 (storeR Tryz.prog h103 (fun v131 h132=>
 storeR Tryz.prog h132 (fun v133 h134=>
 okV (aLoad Tryz.prog h134 68 (.ptr i0 0 0 0)) fun v135=>
 okInt .i64 (aLen Tryz.prog h134 31 v47) fun n136=>
 storeR Tryz.prog h134 (fun v137 h138=>
 okV (aLoad Tryz.prog h138 68 (.ptr i2 0 0 0)) fun v139=>
 RetR h K (.tup [v139,(.v (.int .i64 n136)),(.v (.int .i64 0))]) h138) 68 v135 (.ptr i2 0 0 0)) 4 (.v (.bool b48)) (.ptr i0 0 0 5)) 9 (.v (.string s46)) (.ptr i0 0 0 4))
def Tryz.r34_l20_67(h:AH) (K:AV→AH→Prop) (G:Nat→Option AV) (a1:AV) (i0:Nat) (i2:Nat) (i4:Nat) (v32:AV)(s46:ByteArray) (v47:AV)(b48:Bool) (n50:Int) (i51:Nat)(h56:AH) (n141:Int):Prop:=
 ∃(I67:Nat→List AV→AH→Prop) (m68:Nat),I67 m68 [(.v (.int .i64 n141))] h56∧∀(m69:Nat) (h70:AH),h56.length≤h70.length→LowH h70.length h70→∀(n71:Int),I67 m69 [(.v (.int .i64 n71))] h70 →
 okInt .i64 (aLen Tryz.prog h70 31 v47) fun n72=>
 condB (decide (n71<n72))
 (okV (aIA Tryz.prog h70 31 v47 (.v (.int .i64 n71))) fun v73=>
 okInt .i64 (aLoad Tryz.prog h70 3 v73) fun n74=>
 okV (aIA Tryz.prog h70 142 v32 (.v (.int .i64 n74))) fun v75=>
 okStr (aLoad Tryz.prog h70 9 v75) fun s76=>
 okV (aLoad Tryz.prog h70 31 (.ptr i0 0 0 1)) fun v77=>
 callR Tryz.prog G 56 [v77,(.v (.string s76))] h70 (fun v78 h79=>
 okInt .i64 (extV 0 v78) fun n80=>
 okInt .i64 (extV 1 v78) fun n81=>
 okV (aLoad Tryz.prog h79 31 (.ptr i0 0 0 3)) fun v82=>
 callR Tryz.prog G 56 [v82,(.v (.string s76))] h79 (fun v83 h84=>
 okInt .i64 (extV 0 v83) fun n85=>
 okInt .i64 (extV 1 v83) fun n86=>
 okV (aIA Tryz.prog h84 65 a1 (.v (.int .i64 n80))) fun v87=>
 okV (aLoad Tryz.prog h84 147 v87) fun v88=>
 callR Tryz.prog G 73 [v88,(.v (.string s76))] h84 (fun v89 h90=>
 newO (.cells 131 3 [[(.v (.string (ByteArray.mk #[]))),(.v (.int .i64 0)),(.v (.string (ByteArray.mk #[])))]] 0) h90 fun i91 h92=>
 storeR Tryz.prog h92 (fun v93 h94=>
 okV (aIA Tryz.prog h94 65 a1 (.v (.int .i64 n85))) fun v95=>
 okV (aLoad Tryz.prog h94 147 v95) fun v96=>
 okV (aLoad Tryz.prog h94 131 (.ptr i91 0 0 0)) fun v97=>
 callR Tryz.prog G 74 [v96,v97] h94 (fun v98 h99=>
 nextR h56 I67 m69 [some a1,some (.ptr i0 0 0 0),some (.ptr i2 0 0 0),some (.ptr i4 0 0 0),some v32,some (.v (.string s46)),some v47,some (.v (.bool b48)),some (.sl i51 0 0 (Int.toNat n50) none)] [some a1,some (.ptr i0 0 0 0),some (.ptr i2 0 0 0),some (.ptr i4 0 0 0),some v32,some (.v (.string s46)),some v47,some (.v (.bool b48)),some (.sl i51 0 0 (Int.toNat n50) none)] [(.v (.int .i64 (IntKind.wrap .i64 (n71+1))))] h99)) 131 v89 (.ptr i91 0 0 0)))))
 (Tryz.r34_l28_100 K h a1 i0 i2 i4 s46 v47 b48 n50 i51 h70 0)
def Tryz.r34_l16_53(G:Nat→Option AV) (K:AV→AH→Prop)(h:AH) (a1:AV) (i0:Nat) (i2:Nat) (i4:Nat) (v32:AV)(s46:ByteArray) (v47:AV)(b48:Bool) (n50:Int) (i51:Nat)(h52:AH) (n142:Int):Prop:=
 ∃(I53:Nat→List AV→AH→Prop) (m54:Nat),I53 m54 [(.v (.int .i64 n142))] h52∧∀(m55:Nat) (h56:AH),h52.length≤h56.length→LowH h56.length h56→∀(n57:Int),I53 m55 [(.v (.int .i64 n57))] h56 →
 okInt .i64 (aLen Tryz.prog h56 65 a1) fun n58=>
 condB (decide (n57<n58))
 (okV (aIA Tryz.prog h56 65 a1 (.v (.int .i64 n57))) fun v59=>
 okV (aLoad Tryz.prog h56 147 v59) fun v60=>
 okV (aNil v60) fun v61=>
 okV (aFA Tryz.prog 149 0 v61) fun v62=>
 okV (aLoad Tryz.prog h56 47 v62) fun v63=>
 okV (aIA Tryz.prog h56 44 (.sl i51 0 0 (Int.toNat n50) none) (.v (.int .i64 n57))) fun v64=>
 storeR Tryz.prog h56 (fun v65 h66=>
 nextR h52 I53 m55 [some a1,some (.ptr i0 0 0 0),some (.ptr i2 0 0 0),some (.ptr i4 0 0 0),some v32,some (.v (.string s46)),some v47,some (.v (.bool b48)),some (.sl i51 0 0 (Int.toNat n50) none)] [some a1,some (.ptr i0 0 0 0),some (.ptr i2 0 0 0),some (.ptr i4 0 0 0),some v32,some (.v (.string s46)),some v47,some (.v (.bool b48)),some (.sl i51 0 0 (Int.toNat n50) none)] [(.v (.int .i64 (IntKind.wrap .i64 (n57+1))))] h66) 47 v63 v64)
 (Tryz.r34_l20_67 h K G a1 i0 i2 i4 v32 s46 v47 b48 n50 i51 h56 0)
def Tryz.r34_l10_28(h:AH) (K:AV→AH→Prop) (G:Nat→Option AV) (a1:AV) (a2:AV) (i0:Nat) (i2:Nat) (i4:Nat) (v26:AV)(h27:AH) (v143:AV) (n144:Int):Prop:=
 ∃(I28:Nat→List AV→AH→Prop) (m29:Nat),I28 m29 [v143,(.v (.int .i64 n144))] h27∧∀(m30:Nat) (h31:AH),h27.length≤h31.length→LowH h31.length h31→∀(v32:AV) (n33:Int),I28 m30 [v32,(.v (.int .i64 n33))] h31 →
 okInt .i64 (aLen Tryz.prog h31 47 v26) fun n34=>
 condB (decide (n33<n34))
 (okV (aIA Tryz.prog h31 47 v26 (.v (.int .i64 n33))) fun v35=>
 okV (aFA Tryz.prog 131 0 v35) fun v36=>
 okStr (aLoad Tryz.prog h31 9 v36) fun s37=>
 newO (.cells 9 1 [[(.v (.string s37))]] 0) h31 fun i38 h39=>
 appR Tryz.prog h39 142 142 v32 (.sl i38 0 0 1 none) (fun v40 h41=>
 nextR h27 I28 m30 [some a1,some a2,some (.ptr i0 0 0 0),some (.ptr i2 0 0 0),some (.ptr i4 0 0 0),some v26] [some a1,some a2,some (.ptr i0 0 0 0),some (.ptr i2 0 0 0),some (.ptr i4 0 0 0),some v26] [v40,(.v (.int .i64 (IntKind.wrap .i64 (n33+1))))] h41))
 (okV (aLoad Tryz.prog h31 68 (.ptr i0 0 0 0)) fun v42=>
 okInt .i64 (some a2) fun n43=>
 callR Tryz.prog G 72 [v42,v32,(.v (.int .i64 n43))] h31 (fun v44 h45=>
 okStr (extV 0 v44) fun s46=>
 okV (extV 1 v44) fun v47=>
 okBool (extV 2 v44) fun b48=>
 okInt .i64 (extV 3 v44) fun n49=>
 okInt .i64 (aLen Tryz.prog h45 65 a1) fun n50=>
 ((0:Int)≤n50∧n50≤n50∧(((24:Nat):Int))*n50≤281474976710656∧n50≤4611686018427387904)∧newO (.cells 47 1 (List.replicate (Int.toNat n50) [(.v (.slice none 0 0))]) 0) h45 fun i51 h52=>
 Tryz.r34_l16_53 G K h a1 i0 i2 i4 v32 s46 v47 b48 n50 i51 h52 0))
def Tryz.r34(G:Nat→Option AV) (a0 a1 a2:AV)(h:AH) (K:AV→AH→Prop):Prop:=
 onlyB (AV.one a0) (newO (.cells 68 (AV.cells a0).length [AV.cells a0] 0) h fun i0 h1=>
 newO (.cells 68 6 [[(.v (.int .i64 0)),(.v (.slice none 0 0)),(.v (.int .i64 0)),(.v (.slice none 0 0)),(.v (.string (ByteArray.mk #[]))),(.v (.bool false))]] 0) h1 fun i2 h3=>
 newO (.cells 68 6 [[(.v (.int .i64 0)),(.v (.slice none 0 0)),(.v (.int .i64 0)),(.v (.slice none 0 0)),(.v (.string (ByteArray.mk #[]))),(.v (.bool false))]] 0) h3 fun i4 h5=>
 storeR Tryz.prog h5 (fun v6 h7=>
 okV (aLoad Tryz.prog h7 68 (.ptr i0 0 0 0)) fun v8=>
 callR Tryz.prog G 32 [v8,a1] h7 (fun v9 h10=>
 okInt .i64 (some v9) fun n11=>
 condB (n11 != 0)
 (okV (aLoad Tryz.prog h10 68 (.ptr i4 0 0 0)) fun v12=>
 storeR Tryz.prog h10 (fun v13 h14=>
 okV (aLoad Tryz.prog h14 68 (.ptr i2 0 0 0)) fun v15=>
 RetR h K (.tup [v15,(.v (.int .i64 0)),(.v (.int .i64 n11))]) h14) 68 v12 (.ptr i2 0 0 0))
 (okBool (aLoad Tryz.prog h10 4 (.ptr i0 0 0 5)) fun b16=>
 rGq b16 false (some a2) fun b17 v18=>
 rGq b17 false (aBin Tryz.prog .lss 3 v18 (.v (.int .i64 1))) fun b19 v20=>
 okBool (pickR (some (.v (.bool b19))) (some (.v (.bool true))) (some v20)) fun b21=>
 condB b21
 (okV (aLoad Tryz.prog h10 68 (.ptr i4 0 0 0)) fun v22=>
 storeR Tryz.prog h10 (fun v23 h24=>
 okV (aLoad Tryz.prog h24 68 (.ptr i2 0 0 0)) fun v25=>
 RetR h K (.tup [v25,(.v (.int .i64 0)),(.v (.int .i64 1))]) h24) 68 v22 (.ptr i2 0 0 0))
 (callR Tryz.prog G 33 [a1] h10 (fun v26 h27=>
 Tryz.r34_l10_28 h K G a1 a2 i0 i2 i4 v26 h27 (.v (.slice none 0 0)) 0))))) 68 (.agg [(.v (.int .i64 0)),(.v (.slice none 0 0)),(.v (.int .i64 0)),(.v (.slice none 0 0)),(.v (.string (ByteArray.mk #[]))),(.v (.bool false))]) (.ptr i4 0 0 0))
theorem Tryz.c34(G:Nat→Option AV) (a0 a1 a2:AV)(h:AH) (K:AV→AH→Prop)(hk:LowH h.length h→Tryz.r34 G a0 a1 a2 h K):SCall Tryz.prog G 34 [a0,a1,a2] h K:=
 scall_of_rwp Tryz.tab34 [(10, [(12, .any),(13,(.int .i64))], [1,2,3,6,9,11]),(16, [(19,(.int .i64))], [1,3,6,9,12,14,15,16,18]),(20, [(20,(.int .i64))], [1,3,6,9,12,14,15,16,18]),(28, [(27,(.int .i64))], [1,3,6,9,14,15,16,18]),(32, [(28,(.int .i64))], [1,6,9,18])] Tryz.func34 rfl Tryz.ntmps34 (by kernel_rfl) (by show 3≤168;decide) (by kernel_rfl) (by kernel_rfl) hk
def Tryz.r35(G:Nat→Option AV) (a0 a1:AV)(h:AH) (K:AV→AH→Prop):Prop:=
 onlyB (AV.one a0) (newO (.cells 49 (AV.cells a0).length [AV.cells a0] 0) h fun i0 h1=>
 onlyB (AV.one a1) (newO (.cells 68 (AV.cells a1).length [AV.cells a1] 0) h1 fun i2 h3=>
 okStr (aLoad Tryz.prog h3 9 (.ptr i0 0 0 4)) fun s4=>
 okStr (aLoad Tryz.prog h3 9 (.ptr i2 0 0 4)) fun s5=>
 rGq (ByteArray.toList s4==ByteArray.toList s5) true (some (.ptr i0 0 0 5)) fun b6 v7=>
 rGq b6 true (aLoad Tryz.prog h3 4 v7) fun b8 v9=>
 rGq b8 true (some (.ptr i2 0 0 5)) fun b10 v11=>
 rGq b10 true (aLoad Tryz.prog h3 4 v11) fun b12 v13=>
 rGq b12 true (aBin Tryz.prog .eql 4 v9 v13) fun b14 v15=>
 okBool (pickR (some (.v (.bool b14))) (some v15) (some (.v (.bool false)))) fun b16=>
 rGq b16 true (some (.ptr i0 0 0 0)) fun b17 v18=>
 rGq b17 true (aLoad Tryz.prog h3 43 v18) fun b19 v20=>
 rGq b19 true (some (.ptr i2 0 0 0)) fun b21 v22=>
 rGq b21 true (aLoad Tryz.prog h3 43 v22) fun b23 v24=>
 rGe b23 true (fun k25=>callR Tryz.prog G 75 [v20,v24] h3 (fun v26 h27=>
 k25 v26 h27)) h3 fun b28 v29 h30=>
 okBool (pickR (some (.v (.bool b28))) (some v29) (some (.v (.bool false)))) fun b31=>
 rGq b31 true (some (.ptr i0 0 0 2)) fun b32 v33=>
 rGq b32 true (aLoad Tryz.prog h30 43 v33) fun b34 v35=>
 rGq b34 true (some (.ptr i2 0 0 2)) fun b36 v37=>
 rGq b36 true (aLoad Tryz.prog h30 43 v37) fun b38 v39=>
 rGe b38 true (fun k40=>callR Tryz.prog G 75 [v35,v39] h30 (fun v41 h42=>
 k40 v41 h42)) h30 fun b43 v44 h45=>
 okBool (pickR (some (.v (.bool b43))) (some v44) (some (.v (.bool false)))) fun b46=>
 RetR h K (.v (.bool b46)) h45))
theorem Tryz.c35(G:Nat→Option AV) (a0 a1:AV)(h:AH) (K:AV→AH→Prop)(hk:LowH h.length h→Tryz.r35 G a0 a1 h K):SCall Tryz.prog G 35 [a0,a1] h K:=
 scall_of_rwp Tryz.tab35 [] Tryz.func35 rfl Tryz.ntmps35 (by kernel_rfl) (by show 2≤31;decide) (by kernel_rfl) (by kernel_rfl) hk
def Tryz.r36_l11_42(K:AV→AH→Prop)(h:AH) (G:Nat→Option AV) (a1:AV) (a2:AV) (i0:Nat) (i2:Nat)(h38:AH) (n39:Int) (n41:Int) (n71:Int):Prop:=
 ∃(I42:Nat→List AV→AH→Prop) (m43:Nat),I42 m43 [(.v (.int .i64 n71))] h38∧∀(m44:Nat) (h45:AH),h38.length≤h45.length→LowH h45.length h45→∀(n46:Int),I42 m44 [(.v (.int .i64 n46))] h45 →
 condB (decide (n46<n41))
 (okV (aIA Tryz.prog h45 72 a2 (.v (.int .i64 n46))) fun v47=>
 okV (aLoad Tryz.prog h45 89 v47) fun v48=>
 newO (.cells 89 6 [[(.v (.int .i64 0)),(.v (.string (ByteArray.mk #[]))),(.v (.string (ByteArray.mk #[]))),(.v (.int .i64 0)),(.v (.int .i64 0)),(.v (.int .i64 0))]] 0) h45 fun i49 h50=>
 storeR Tryz.prog h50 (fun v51 h52=>
 okV (aLoad Tryz.prog h52 49 (.ptr i0 0 0 0)) fun v53=>
 okStr (aLoad Tryz.prog h52 9 (.ptr i49 0 0 1)) fun s54=>
 callR Tryz.prog G 53 [v53,(.v (.string s54))] h52 (fun v55 h56=>
 okInt .i64 (extV 0 v55) fun n57=>
 okInt .i64 (extV 1 v55) fun n58=>
 condB (n57 != n39)
 (storeR Tryz.prog h56 (fun v59 h60=>
 okV (aLoad Tryz.prog h60 80 (.ptr i2 0 0 0)) fun v61=>
 RetR h K (.tup [(.v (.slice none 0 0)),v61]) h60) 80 (.agg [(.v (.int .i64 n46)),(.v (.int .i64 220))]) (.ptr i2 0 0 0))
 (nextR h38 I42 m44 [some a1,some a2,some (.ptr i0 0 0 0),some (.ptr i2 0 0 0),some (.v (.int .i64 n39)),some a2,some (.v (.int .i64 n41))] [some a1,some a2,some (.ptr i0 0 0 0),some (.ptr i2 0 0 0),some (.v (.int .i64 n39)),some a2,some (.v (.int .i64 n41))] [(.v (.int .i64 (IntKind.wrap .i64 (n46+1))))] h56))) 89 v48 (.ptr i49 0 0 0))
 (okV (aIA Tryz.prog h45 51 a1 (.v (.int .i64 n39))) fun v62=>
 okV (aLoad Tryz.prog h45 87 v62) fun v63=>
 callR Tryz.prog G 43 [v63,a2] h45 (fun v64 h65=>
 okV (extV 0 v64) fun v66=>
 okV (extV 1 v64) fun v67=>
 storeR Tryz.prog h65 (fun v68 h69=>
 okV (aLoad Tryz.prog h69 80 (.ptr i2 0 0 0)) fun v70=>
 RetR h K (.tup [v66,v70]) h69) 80 v67 (.ptr i2 0 0 0)))
def Tryz.r36(G:Nat→Option AV) (a0 a1 a2:AV)(h:AH) (K:AV→AH→Prop):Prop:=
 onlyB (AV.one a0) (newO (.cells 49 (AV.cells a0).length [AV.cells a0] 0) h fun i0 h1=>
 newO (.cells 80 2 [[(.v (.int .i64 0)),(.v (.int .i64 0))]] 0) h1 fun i2 h3=>
 okV (aLoad Tryz.prog h3 49 (.ptr i0 0 0 0)) fun v4=>
 callR Tryz.prog G 24 [v4,a1] h3 (fun v5 h6=>
 okInt .i64 (some v5) fun n7=>
 rGq (n7==70) false (some (.v (.int .i64 n7))) fun b8 v9=>
 rGq b8 false (aBin Tryz.prog .eql 24 v9 (.v (.int .i64 4))) fun b10 v11=>
 okBool (pickR (some (.v (.bool b10))) (some (.v (.bool true))) (some v11)) fun b12=>
 condB b12
 (storeR Tryz.prog h6 (fun v13 h14=>
 okV (aLoad Tryz.prog h14 80 (.ptr i2 0 0 0)) fun v15=>
 RetR h K (.tup [(.v (.slice none 0 0)),v15]) h14) 80 (.agg [(.v (.int .i64 0)),(.v (.int .i64 n7))]) (.ptr i2 0 0 0))
 (okInt .i64 (aLen Tryz.prog h6 72 a2) fun n16=>
 rGq (decide (n16<1)) false (some a2) fun b17 v18=>
 rGq b17 false (aLen Tryz.prog h6 72 v18) fun b19 v20=>
 rGq b19 false (aBin Tryz.prog .gtr 3 v20 (.v (.int .i64 32))) fun b21 v22=>
 okBool (pickR (some (.v (.bool b21))) (some (.v (.bool true))) (some v22)) fun b23=>
 condB b23
 (storeR Tryz.prog h6 (fun v24 h25=>
 okV (aLoad Tryz.prog h25 80 (.ptr i2 0 0 0)) fun v26=>
 RetR h K (.tup [(.v (.slice none 0 0)),v26]) h25) 80 (.agg [(.v (.int .i64 0)),(.v (.int .i64 80))]) (.ptr i2 0 0 0))
 (callR Tryz.prog G 76 [a2,(.fn (.func 77) [] [])] h6 (fun v27 h28=>
 okInt .i64 (some v27) fun n29=>
 condB (decide (n29≥0))
 (storeR Tryz.prog h28 (fun v30 h31=>
 okV (aLoad Tryz.prog h31 80 (.ptr i2 0 0 0)) fun v32=>
 RetR h K (.tup [(.v (.slice none 0 0)),v32]) h31) 80 (.agg [(.v (.int .i64 n29)),(.v (.int .i64 80))]) (.ptr i2 0 0 0))
 (okV (aLoad Tryz.prog h28 49 (.ptr i0 0 0 0)) fun v33=>
 okV (aIA Tryz.prog h28 72 a2 (.v (.int .i64 0))) fun v34=>
 okV (aFA Tryz.prog 89 1 v34) fun v35=>
 okStr (aLoad Tryz.prog h28 9 v35) fun s36=>
 callR Tryz.prog G 53 [v33,(.v (.string s36))] h28 (fun v37 h38=>
 okInt .i64 (extV 0 v37) fun n39=>
 okInt .i64 (extV 1 v37) fun n40=>
 okInt .i64 (aLen Tryz.prog h38 72 a2) fun n41=>
 Tryz.r36_l11_42 K h G a1 a2 i0 i2 h38 n39 n41 0)))))))
theorem Tryz.c36(G:Nat→Option AV) (a0 a1 a2:AV)(h:AH) (K:AV→AH→Prop)(hk:LowH h.length h→Tryz.r36 G a0 a1 a2 h K):SCall Tryz.prog G 36 [a0,a1,a2] h K:=
 scall_of_rwp Tryz.tab36 [(11, [(53,(.int .i64))], [1,2,3,7,10,51,52])] Tryz.func36 rfl Tryz.ntmps36 (by kernel_rfl) (by show 3≤79;decide) (by kernel_rfl) (by kernel_rfl) hk
def Tryz.r37_l13_68(K:AV→AH→Prop)(h:AH) (G:Nat→Option AV) (a1:AV) (a2:AV) (i0:Nat) (i2:Nat)(h65:AH) (n66:Int) (n96:Int):Prop:=
 ∃(I68:Nat→List AV→AH→Prop) (m69:Nat),I68 m69 [(.v (.int .i64 n96))] h65∧∀(m70:Nat) (h71:AH),h65.length≤h71.length→LowH h71.length h71→∀(n72:Int),I68 m70 [(.v (.int .i64 n72))] h71 →
 okInt .i64 (aLen Tryz.prog h71 72 a2) fun n73=>
 condB (decide (n72<n73))
 (okV (aLoad Tryz.prog h71 68 (.ptr i0 0 0 0)) fun v74=>
 okV (aIA Tryz.prog h71 72 a2 (.v (.int .i64 n72))) fun v75=>
 okV (aFA Tryz.prog 89 1 v75) fun v76=>
 okStr (aLoad Tryz.prog h71 9 v76) fun s77=>
 callR Tryz.prog G 55 [v74,(.v (.string s77))] h71 (fun v78 h79=>
 okInt .i64 (extV 0 v78) fun n80=>
 okInt .i64 (extV 1 v78) fun n81=>
 condB (n80 != n66)
 (callR Tryz.prog G 79 [(.v (.int .i64 n72)),(.v (.int .i64 220))] h79 (fun v82 h83=>
 storeR Tryz.prog h83 (fun v84 h85=>
 okV (aLoad Tryz.prog h85 80 (.ptr i2 0 0 0)) fun v86=>
 RetR h K (.tup [(.v (.slice none 0 0)),v86]) h85) 80 v82 (.ptr i2 0 0 0)))
 (nextR h65 I68 m70 [some a1,some a2,some (.ptr i0 0 0 0),some (.ptr i2 0 0 0),some (.v (.int .i64 n66))] [some a1,some a2,some (.ptr i0 0 0 0),some (.ptr i2 0 0 0),some (.v (.int .i64 n66))] [(.v (.int .i64 (IntKind.wrap .i64 (n72+1))))] h79)))
 (okV (aIA Tryz.prog h71 65 a1 (.v (.int .i64 n66))) fun v87=>
 okV (aLoad Tryz.prog h71 147 v87) fun v88=>
 callR Tryz.prog G 81 [v88,a2] h71 (fun v89 h90=>
 okV (extV 0 v89) fun v91=>
 okV (extV 1 v89) fun v92=>
 storeR Tryz.prog h90 (fun v93 h94=>
 okV (aLoad Tryz.prog h94 80 (.ptr i2 0 0 0)) fun v95=>
 RetR h K (.tup [v91,v95]) h94) 80 v92 (.ptr i2 0 0 0)))
def Tryz.r37_l7_31(G:Nat→Option AV)(h:AH) (K:AV→AH→Prop) (a1:AV) (a2:AV) (i0:Nat) (i2:Nat)(h6:AH) (n97:Int):Prop:=
 ∃(I31:Nat→List AV→AH→Prop) (m32:Nat),I31 m32 [(.v (.int .i64 n97))] h6∧∀(m33:Nat) (h34:AH),h6.length≤h34.length→LowH h34.length h34→∀(n35:Int),I31 m33 [(.v (.int .i64 n35))] h34 →
 okInt .i64 (aLen Tryz.prog h34 72 a2) fun n36=>
 condB (decide (n35<n36))
 (okV (aIA Tryz.prog h34 72 a2 (.v (.int .i64 n35))) fun v37=>
 okV (aLoad Tryz.prog h34 89 v37) fun v38=>
 callR Tryz.prog G 80 [v38] h34 (fun v39 h40=>
 okBool (some v39) fun b41=>
 rGq (!b41) false (some a2) fun b42 v43=>
 rGq b42 false (some (.v (.int .i64 n35))) fun b44 v45=>
 rGq b44 false (aIA Tryz.prog h40 72 v43 v45) fun b46 v47=>
 rGq b46 false (aFA Tryz.prog 89 0 v47) fun b48 v49=>
 rGq b48 false (aLoad Tryz.prog h40 3 v49) fun b50 v51=>
 rGq b50 false (aBin Tryz.prog .eql 3 v51 (.v (.int .i64 6))) fun b52 v53=>
 okBool (pickR (some (.v (.bool b52))) (some (.v (.bool true))) (some v53)) fun b54=>
 condB b54
 (callR Tryz.prog G 79 [(.v (.int .i64 n35)),(.v (.int .i64 80))] h40 (fun v55 h56=>
 storeR Tryz.prog h56 (fun v57 h58=>
 okV (aLoad Tryz.prog h58 80 (.ptr i2 0 0 0)) fun v59=>
 RetR h K (.tup [(.v (.slice none 0 0)),v59]) h58) 80 v55 (.ptr i2 0 0 0)))
 (nextR h6 I31 m33 [some a1,some a2,some (.ptr i0 0 0 0),some (.ptr i2 0 0 0)] [some a1,some a2,some (.ptr i0 0 0 0),some (.ptr i2 0 0 0)] [(.v (.int .i64 (IntKind.wrap .i64 (n35+1))))] h40)))
 (okV (aLoad Tryz.prog h34 68 (.ptr i0 0 0 0)) fun v60=>
 okV (aIA Tryz.prog h34 72 a2 (.v (.int .i64 0))) fun v61=>
 okV (aFA Tryz.prog 89 1 v61) fun v62=>
 okStr (aLoad Tryz.prog h34 9 v62) fun s63=>
 callR Tryz.prog G 55 [v60,(.v (.string s63))] h34 (fun v64 h65=>
 okInt .i64 (extV 0 v64) fun n66=>
 okInt .i64 (extV 1 v64) fun n67=>
 Tryz.r37_l13_68 K h G a1 a2 i0 i2 h65 n66 0))
def Tryz.r37(G:Nat→Option AV) (a0 a1 a2:AV)(h:AH) (K:AV→AH→Prop):Prop:=
 onlyB (AV.one a0) (newO (.cells 68 (AV.cells a0).length [AV.cells a0] 0) h fun i0 h1=>
 newO (.cells 80 2 [[(.v (.int .i64 0)),(.v (.int .i64 0))]] 0) h1 fun i2 h3=>
 okV (aLoad Tryz.prog h3 68 (.ptr i0 0 0 0)) fun v4=>
 callR Tryz.prog G 32 [v4,a1] h3 (fun v5 h6=>
 okInt .i64 (some v5) fun n7=>
 rGq (n7==70) false (some (.v (.int .i64 n7))) fun b8 v9=>
 rGq b8 false (aBin Tryz.prog .eql 24 v9 (.v (.int .i64 4))) fun b10 v11=>
 okBool (pickR (some (.v (.bool b10))) (some (.v (.bool true))) (some v11)) fun b12=>
 condB b12
 (callR Tryz.prog G 79 [(.v (.int .i64 0)),(.v (.int .i64 n7))] h6 (fun v13 h14=>
 storeR Tryz.prog h14 (fun v15 h16=>
 okV (aLoad Tryz.prog h16 80 (.ptr i2 0 0 0)) fun v17=>
 RetR h K (.tup [(.v (.slice none 0 0)),v17]) h16) 80 v13 (.ptr i2 0 0 0)))
 (okInt .i64 (aLen Tryz.prog h6 72 a2) fun n18=>
 rGq (decide (n18<1)) false (some a2) fun b19 v20=>
 rGq b19 false (aLen Tryz.prog h6 72 v20) fun b21 v22=>
 rGq b21 false (aBin Tryz.prog .gtr 3 v22 (.v (.int .i64 32))) fun b23 v24=>
 okBool (pickR (some (.v (.bool b23))) (some (.v (.bool true))) (some v24)) fun b25=>
 condB b25
 (callR Tryz.prog G 79 [(.v (.int .i64 0)),(.v (.int .i64 80))] h6 (fun v26 h27=>
 storeR Tryz.prog h27 (fun v28 h29=>
 okV (aLoad Tryz.prog h29 80 (.ptr i2 0 0 0)) fun v30=>
 RetR h K (.tup [(.v (.slice none 0 0)),v30]) h29) 80 v26 (.ptr i2 0 0 0)))
 (Tryz.r37_l7_31 G h K a1 a2 i0 i2 h6 0))))
theorem Tryz.c37(G:Nat→Option AV) (a0 a1 a2:AV)(h:AH) (K:AV→AH→Prop)(hk:LowH h.length h→Tryz.r37 G a0 a1 a2 h K):SCall Tryz.prog G 37 [a0,a1,a2] h K:=
 scall_of_rwp Tryz.tab37 [(7, [(9,(.int .i64))], [1,2,3,7]),(13, [(12,(.int .i64))], [1,2,3,7,10])] Tryz.func37 rfl Tryz.ntmps37 (by kernel_rfl) (by show 3≤95;decide) (by kernel_rfl) (by kernel_rfl) hk
def Tryz.r38_l4_2(K:AV→AH→Prop)(h:AH) (G:Nat→Option AV) (a0:AV) (a1:AV) (n89:Int):Prop:=
 ∃(I2:Nat→List AV→AH→Prop) (m3:Nat),I2 m3 [(.v (.int .i64 n89))] h∧∀(m4:Nat) (h5:AH),h.length≤h5.length→LowH h5.length h5→∀(n6:Int),I2 m4 [(.v (.int .i64 n6))] h5 →
 okInt .i64 (aLen Tryz.prog h5 78 a0) fun n7=>
 condB (decide (n6<n7))
 (okV (aIA Tryz.prog h5 78 a0 (.v (.int .i64 n6))) fun v8=>
 okV (aFA Tryz.prog 157 0 v8) fun v9=>
 okInt .i64 (aLoad Tryz.prog h5 24 v9) fun n10=>
 okV (aIA Tryz.prog h5 78 a1 (.v (.int .i64 n6))) fun v11=>
 okV (aFA Tryz.prog 157 0 v11) fun v12=>
 okInt .i64 (aLoad Tryz.prog h5 24 v12) fun n13=>
 rGq (n10 != n13) false (some a0) fun b14 v15=>
 rGq b14 false (some (.v (.int .i64 n6))) fun b16 v17=>
 rGq b16 false (aIA Tryz.prog h5 78 v15 v17) fun b18 v19=>
 rGq b18 false (aFA Tryz.prog 157 1 v19) fun b20 v21=>
 rGq b20 false (aLoad Tryz.prog h5 3 v21) fun b22 v23=>
 rGq b22 false (some a1) fun b24 v25=>
 rGq b24 false (some (.v (.int .i64 n6))) fun b26 v27=>
 rGq b26 false (aIA Tryz.prog h5 78 v25 v27) fun b28 v29=>
 rGq b28 false (aFA Tryz.prog 157 1 v29) fun b30 v31=>
 rGq b30 false (aLoad Tryz.prog h5 3 v31) fun b32 v33=>
 rGq b32 false (aBin Tryz.prog .neq 3 v23 v33) fun b34 v35=>
 okBool (pickR (some (.v (.bool b34))) (some (.v (.bool true))) (some v35)) fun b36=>
 rGq b36 false (some a0) fun b37 v38=>
 rGq b37 false (some (.v (.int .i64 n6))) fun b39 v40=>
 rGq b39 false (aIA Tryz.prog h5 78 v38 v40) fun b41 v42=>
 rGq b41 false (aFA Tryz.prog 157 2 v42) fun b43 v44=>
 rGq b43 false (aLoad Tryz.prog h5 9 v44) fun b45 v46=>
 rGq b45 false (some a1) fun b47 v48=>
 rGq b47 false (some (.v (.int .i64 n6))) fun b49 v50=>
 rGq b49 false (aIA Tryz.prog h5 78 v48 v50) fun b51 v52=>
 rGq b51 false (aFA Tryz.prog 157 2 v52) fun b53 v54=>
 rGq b53 false (aLoad Tryz.prog h5 9 v54) fun b55 v56=>
 rGq b55 false (aBin Tryz.prog .neq 9 v46 v56) fun b57 v58=>
 okBool (pickR (some (.v (.bool b57))) (some (.v (.bool true))) (some v58)) fun b59=>
 rGq b59 false (some a0) fun b60 v61=>
 rGq b60 false (some (.v (.int .i64 n6))) fun b62 v63=>
 rGq b62 false (aIA Tryz.prog h5 78 v61 v63) fun b64 v65=>
 rGq b64 false (aFA Tryz.prog 157 3 v65) fun b66 v67=>
 rGq b66 false (aLoad Tryz.prog h5 47 v67) fun b68 v69=>
 rGq b68 false (some a1) fun b70 v71=>
 rGq b70 false (some (.v (.int .i64 n6))) fun b72 v73=>
 rGq b72 false (aIA Tryz.prog h5 78 v71 v73) fun b74 v75=>
 rGq b74 false (aFA Tryz.prog 157 3 v75) fun b76 v77=>
 rGq b76 false (aLoad Tryz.prog h5 47 v77) fun b78 v79=>
 rGe b78 false (fun k80=>callR Tryz.prog G 25 [v69,v79] h5 (fun v81 h82=>
 k80 v81 h82)) h5 fun b83 v84 h85=>
 rGq b83 false (aUn .not v84) fun b86 v87=>
 okBool (pickR (some (.v (.bool b86))) (some (.v (.bool true))) (some v87)) fun b88=>
 condB b88
 (RetR h K (.v (.bool false)) h85)
 (nextR h I2 m4 [some a0,some a1] [some a0,some a1] [(.v (.int .i64 (IntKind.wrap .i64 (n6+1))))] h85))
 (RetR h K (.v (.bool true)) h5)
def Tryz.r38(G:Nat→Option AV) (a0 a1:AV)(h:AH) (K:AV→AH→Prop):Prop:=
 okInt .i64 (aLen Tryz.prog h 78 a0) fun n0=>
 okInt .i64 (aLen Tryz.prog h 78 a1) fun n1=>
 condB (n0 != n1)
 (RetR h K (.v (.bool false)) h)
 (Tryz.r38_l4_2 K h G a0 a1 0)
theorem Tryz.c38(G:Nat→Option AV) (a0 a1:AV)(h:AH) (K:AV→AH→Prop)(hk:LowH h.length h→Tryz.r38 G a0 a1 h K):SCall Tryz.prog G 38 [a0,a1] h K:=
 scall_of_rwp Tryz.tab38 [(4, [(5,(.int .i64))], [0,1])] Tryz.func38 rfl Tryz.ntmps38 (by kernel_rfl) (by show 2≤68;decide) (by kernel_rfl) (by kernel_rfl) hk
def Tryz.r39_l2_0(K:AV→AH→Prop)(h:AH) (G:Nat→Option AV) (a0:AV) (a1:AV) (n18:Int):Prop:=
 ∃(I0:Nat→List AV→AH→Prop) (m1:Nat),I0 m1 [(.v (.int .i64 n18))] h∧∀(m2:Nat) (h3:AH),h.length≤h3.length→LowH h3.length h3→∀(n4:Int),I0 m2 [(.v (.int .i64 n4))] h3 →
 okInt .i64 (aLen Tryz.prog h3 51 a0) fun n5=>
 condB (decide (n4<n5))
 (okV (aIA Tryz.prog h3 51 a0 (.v (.int .i64 n4))) fun v6=>
 okV (aLoad Tryz.prog h3 87 v6) fun v7=>
 okV (aIA Tryz.prog h3 65 a1 (.v (.int .i64 n4))) fun v8=>
 okV (aLoad Tryz.prog h3 147 v8) fun v9=>
 okV (aNil v9) fun v10=>
 okV (aFA Tryz.prog 149 0 v10) fun v11=>
 okV (aLoad Tryz.prog h3 47 v11) fun v12=>
 callR Tryz.prog G 44 [v7,(.agg [(.v (.string (ByteArray.mk #[]))),(.v (.string (ByteArray.mk #[])))])] h3 (fun v13 h14=>
 (aLoad Tryz.prog h14 47 v11=some v12)∧(aLoad Tryz.prog h14 147 v8=some v9)∧(aIA Tryz.prog h14 65 a1 (.v (.int .i64 n4))=some v8)∧callR Tryz.prog G 25 [v13,v12] h14 (fun v15 h16=>
 okBool (some v15) fun b17=>
 condB (!b17)
 (RetR h K (.v (.bool false)) h16)
 (nextR h I0 m2 [some a0,some a1] [some a0,some a1] [(.v (.int .i64 (IntKind.wrap .i64 (n4+1))))] h16))))
 (RetR h K (.v (.bool true)) h3)
def Tryz.r39(G:Nat→Option AV) (a0 a1:AV)(h:AH) (K:AV→AH→Prop):Prop:=
 Tryz.r39_l2_0 K h G a0 a1 0
theorem Tryz.c39(G:Nat→Option AV) (a0 a1:AV)(h:AH) (K:AV→AH→Prop)(hk:LowH h.length h→Tryz.r39 G a0 a1 h K):SCall Tryz.prog G 39 [a0,a1] h K:=
 scall_of_rwp Tryz.tab39 [(2, [(5,(.int .i64))], [0,1])] Tryz.func39 rfl Tryz.ntmps39 (by kernel_rfl) (by show 2≤27;decide) (by kernel_rfl) (by kernel_rfl) hk
def Tryz.r40(G:Nat→Option AV) (a0:AV)(h:AH) (K:AV→AH→Prop):Prop:=
 onlyB (AV.one a0) (newO (.cells 68 (AV.cells a0).length [AV.cells a0] 0) h fun i0 h1=>
 okV (aLoad Tryz.prog h1 43 (.ptr i0 0 0 0)) fun v2=>
 callR Tryz.prog G 82 [v2] h1 (fun v3 h4=>
 okBool (some v3) fun b5=>
 rGq b5 true (some (.ptr i0 0 0 2)) fun b6 v7=>
 rGq b6 true (aLoad Tryz.prog h4 43 v7) fun b8 v9=>
 rGe b8 true (fun k10=>callR Tryz.prog G 82 [v9] h4 (fun v11 h12=>
 k10 v11 h12)) h4 fun b13 v14 h15=>
 okBool (pickR (some (.v (.bool b13))) (some v14) (some (.v (.bool false)))) fun b16=>
 rGq b16 true (some (.ptr i0 0 0 2)) fun b17 v18=>
 rGq b17 true (aFA Tryz.prog 43 0 v18) fun b19 v20=>
 rGq b19 true (aLoad Tryz.prog h15 3 v20) fun b21 v22=>
 rGq b21 true (some (.ptr i0 0 0 0)) fun b23 v24=>
 rGq b23 true (aFA Tryz.prog 43 0 v24) fun b25 v26=>
 rGq b25 true (aLoad Tryz.prog h15 3 v26) fun b27 v28=>
 rGq b27 true (aBin Tryz.prog .add 3 v28 (.v (.int .i64 1))) fun b29 v30=>
 rGq b29 true (aBin Tryz.prog .eql 3 v22 v30) fun b31 v32=>
 okBool (pickR (some (.v (.bool b31))) (some v32) (some (.v (.bool false)))) fun b33=>
 rGq b33 true (some (.ptr i0 0 0 2)) fun b34 v35=>
 rGq b34 true (aFA Tryz.prog 43 1 v35) fun b36 v37=>
 rGq b36 true (aLoad Tryz.prog h15 31 v37) fun b38 v39=>
 rGq b38 true (aLen Tryz.prog h15 31 v39) fun b40 v41=>
 rGq b40 true (some (.ptr i0 0 0 0)) fun b42 v43=>
 rGq b42 true (aFA Tryz.prog 43 1 v43) fun b44 v45=>
 rGq b44 true (aLoad Tryz.prog h15 31 v45) fun b46 v47=>
 rGq b46 true (aLen Tryz.prog h15 31 v47) fun b48 v49=>
 rGq b48 true (aBin Tryz.prog .geq 3 v41 v49) fun b50 v51=>
 okBool (pickR (some (.v (.bool b50))) (some v51) (some (.v (.bool false)))) fun b52=>
 rGq b52 true (some (.ptr i0 0 0 4)) fun b53 v54=>
 rGq b53 true (aLoad Tryz.prog h15 9 v54) fun b55 v56=>
 rGq b55 true (aLen Tryz.prog h15 9 v56) fun b57 v58=>
 rGq b57 true (aBin Tryz.prog .leq 3 v58 (.v (.int .i64 64))) fun b59 v60=>
 okBool (pickR (some (.v (.bool b59))) (some v60) (some (.v (.bool false)))) fun b61=>
 rGq b61 true (some (.ptr i0 0 0 5)) fun b62 v63=>
 rGq b62 true (aLoad Tryz.prog h15 4 v63) fun b64 v65=>
 rGq b64 true (some v65) fun b66 v67=>
 okG (some v67) true fun b68 g0=>
 rGq b68 true (some (.ptr i0 0 0 4)) fun b69 v70=>
 okG (some (g0 b69)) true fun c1 g2=>
 rGq c1 true (aLoad Tryz.prog h15 9 v70) fun b71 v72=>
 okG (some (g2 b71)) true fun c3 g4=>
 rGq c3 true (aBin Tryz.prog .neq 9 v72 (.v (.string (ByteArray.mk #[])))) fun b73 v74=>
 rGq b66 true (pickR (some (g4 b73)) (some v74) (some (.v (.bool false)))) fun b75 v76=>
 rGq b75 true (aUn .not v76) fun b77 v78=>
 okBool (pickR (some (.v (.bool b77))) (some v78) (some (.v (.bool false)))) fun b79=>
 RetR h K (.v (.bool b79)) h15))
theorem Tryz.c40(G:Nat→Option AV) (a0:AV)(h:AH) (K:AV→AH→Prop)(hk:LowH h.length h→Tryz.r40 G a0 h K):SCall Tryz.prog G 40 [a0] h K:=
 scall_of_rwp Tryz.tab40 [] Tryz.func40 rfl Tryz.ntmps40 (by kernel_rfl) (by show 1≤48;decide) (by kernel_rfl) (by kernel_rfl) hk
def Tryz.r41(h:AH) (K:AV→AH→Prop):Prop:=
 newO (.cells 160 1 [[(.v (.slice none 0 0))]] 0) h fun i0 h1=>
 RetR h K (.ptr i0 0 0 0) h1
theorem Tryz.c41(G:Nat→Option AV)(h:AH) (K:AV→AH→Prop)(hk:LowH h.length h→Tryz.r41 h K):SCall Tryz.prog G 41 [] h K:=
 scall_of_rwp Tryz.tab41 [] Tryz.func41 rfl Tryz.ntmps41 (by kernel_rfl) (by show 0≤3;decide) (by kernel_rfl) (by kernel_rfl) hk
def Tryz.r42_j40(a0:AV) (a1:AV)(h12:AH) (n16:Int) (I17:Nat→List AV→AH→Prop) (m19:Nat) (v22:AV) (n23:Int) (n36:Int)(b37:Bool) (v38:AV)(h39:AH):Prop:=
 condB b37
 (okV (aSlice Tryz.prog h39 47 v22 (some (some (.v (.int .i64 (IntKind.wrap .i64 (n36+1)))))) none none) fun v40=>
 nextR h12 I17 m19 [some a0,some a1,some (.v (.int .i64 n16))] [some a0,some a1,some (.v (.int .i64 n16))] [v38,v40,(.v (.int .i64 (IntKind.wrap .i64 (n23+1))))] h39)
 (okV (aSlice Tryz.prog h39 47 v22 (some (some (.v (.int .i64 n36)))) none none) fun v41=>
 nextR h12 I17 m19 [some a0,some a1,some (.v (.int .i64 n16))] [some a0,some a1,some (.v (.int .i64 n16))] [v38,v41,(.v (.int .i64 (IntKind.wrap .i64 (n23+1))))] h39)
def Tryz.r42_l8_17(K:AV→AH→Prop)(h:AH) (G:Nat→Option AV) (a0:AV) (a1:AV)(h12:AH) (n16:Int) (v67:AV) (v68:AV) (n69:Int):Prop:=
 ∃(I17:Nat→List AV→AH→Prop) (m18:Nat),I17 m18 [v67,v68,(.v (.int .i64 n69))] h12∧∀(m19:Nat) (h20:AH),h12.length≤h20.length→LowH h20.length h20→∀(v21:AV) (v22:AV) (n23:Int),I17 m19 [v21,v22,(.v (.int .i64 n23))] h20 →
 condB (decide (n23<n16))
 (okV (aIA Tryz.prog h20 47 a1 (.v (.int .i64 n23))) fun v24=>
 okV (aLoad Tryz.prog h20 131 v24) fun v25=>
 newO (.cells 131 3 [[(.v (.string (ByteArray.mk #[]))),(.v (.int .i64 0)),(.v (.string (ByteArray.mk #[])))]] 0) h20 fun i26 h27=>
 storeR Tryz.prog h27 (fun v28 h29=>
 okV (aBuild Tryz.prog 160 [(0,some v22)]) fun v30=>
 onlyB (AV.one v30) (newO (.cells 160 (AV.cells v30).length [AV.cells v30] 0) h29 fun i31 h32=>
 okStr (aLoad Tryz.prog h32 9 (.ptr i26 0 0 0)) fun s33=>
 callR Tryz.prog G 89 [(.ptr i31 0 0 0),(.v (.string s33))] h32 (fun v34 h35=>
 okInt .i64 (extV 0 v34) fun n36=>
 okBool (extV 1 v34) fun b37=>
 (okV (aSlice Tryz.prog h35 47 v22 none (some (some (.v (.int .i64 n36)))) none) fun v42=>
 okV (aLoad Tryz.prog h35 131 (.ptr i26 0 0 0)) fun v43=>
 appR Tryz.prog h35 47 47 v21 v42 (fun v44 h45=>
 (aLoad Tryz.prog h45 131 (.ptr i26 0 0 0)=some v43)∧okP (rowsFill 3 (List.replicate 1 [(.v (.string (ByteArray.mk #[]))),(.v (.int .i64 0)),(.v (.string (ByteArray.mk #[])))]) [(0,some v43)]) fun r46=>newO (.cells 131 3 r46 0) h45 fun i47 h48=>
 appR Tryz.prog h48 47 47 v44 (.sl i47 0 0 1 none) (fun v49 h50=>
 Tryz.r42_j40 a0 a1 h12 n16 I17 m19 v22 n23 n36 b37 v49 h50)))
 ∧ (okV (aSlice Tryz.prog h35 47 v22 none (some (some (.v (.int .i64 n36)))) none) fun v51=>
 okV (aLoad Tryz.prog h35 131 (.ptr i26 0 0 0)) fun v52=>
 okP (rowsFill 3 (List.replicate 1 [(.v (.string (ByteArray.mk #[]))),(.v (.int .i64 0)),(.v (.string (ByteArray.mk #[])))]) [(0,some v52)]) fun r53=>newO (.cells 131 3 r53 0) h35 fun i54 h55=>
 (aSlice Tryz.prog h55 47 v22 none (some (some (.v (.int .i64 n36)))) none=some v51)∧appR Tryz.prog h55 47 47 v21 v51 (fun v56 h57=>
 (aLoad Tryz.prog h57 131 (.ptr i26 0 0 0)=some v52)∧appR Tryz.prog h57 47 47 v56 (.sl i54 0 0 1 none) (fun v58 h59=>
 Tryz.r42_j40 a0 a1 h12 n16 I17 m19 v22 n23 n36 b37 v58 h59)))))) 131 v25 (.ptr i26 0 0 0))
 (appR Tryz.prog h20 47 47 v21 v22 (fun v60 h61=>
 okInt .i64 (aLen Tryz.prog h61 47 v60) fun n62=>
 condB (decide (n62 > 4096))
 (RetR h K (.v (.int .i64 22)) h61)
 (okV (aNil a0) fun v63=>
 okV (aFA Tryz.prog 160 0 v63) fun v64=>
 storeR Tryz.prog h61 (fun v65 h66=>
 RetR h K (.v (.int .i64 0)) h66) 47 v60 v64)))
def Tryz.r42(G:Nat→Option AV) (a0 a1:AV)(h:AH) (K:AV→AH→Prop):Prop:=
 callR Tryz.prog G 83 [a1,(.fn (.func 84) [] [])] h (fun v0 h1=>
 okBool (some v0) fun b2=>
 condB b2
 (RetR h K (.v (.int .i64 80)) h1)
 (callR Tryz.prog G 86 [a1,(.fn (.func 87) [] [])] h1 (fun v3 h4=>
 okBool (some v3) fun b5=>
 condB (!b5)
 (RetR h K (.v (.int .i64 4)) h4)
 (okV (aNil a0) fun v6=>
 okV (aFA Tryz.prog 160 0 v6) fun v7=>
 okV (aLoad Tryz.prog h4 47 v7) fun v8=>
 okInt .i64 (aLen Tryz.prog h4 47 v8) fun n9=>
 okInt .i64 (aLen Tryz.prog h4 47 a1) fun n10=>
 ((0:Int)≤0∧0≤(IntKind.wrap .i64 (n9+n10))∧(((40:Nat):Int))*(IntKind.wrap .i64 (n9+n10))≤281474976710656∧(IntKind.wrap .i64 (n9+n10))≤4611686018427387904)∧newO (.cells 131 3 (List.replicate (Int.toNat (IntKind.wrap .i64 (n9+n10))) [(.v (.string (ByteArray.mk #[]))),(.v (.int .i64 0)),(.v (.string (ByteArray.mk #[])))]) 0) h4 fun i11 h12=>
 okV (aNil a0) fun v13=>
 okV (aFA Tryz.prog 160 0 v13) fun v14=>
 okV (aLoad Tryz.prog h12 47 v14) fun v15=>
 okInt .i64 (aLen Tryz.prog h12 47 a1) fun n16=>
 Tryz.r42_l8_17 K h G a0 a1 h12 n16 (.sl i11 0 0 (Int.toNat 0) none) v15 0))))
theorem Tryz.c42(G:Nat→Option AV) (a0 a1:AV)(h:AH) (K:AV→AH→Prop)(hk:LowH h.length h→Tryz.r42 G a0 a1 h K):SCall Tryz.prog G 42 [a0,a1] h K:=
 scall_of_rwp Tryz.tab42 [(8, [(5, .any),(6, .any),(31,(.int .i64))], [0,29,30])] Tryz.func42 rfl Tryz.ntmps42 (by kernel_rfl) (by show 2≤69;decide) (by kernel_rfl) (by kernel_rfl) hk
def Tryz.r43_l9_22(K:AV→AH→Prop)(h:AH) (G:Nat→Option AV) (a0:AV) (a1:AV) (i0:Nat) (v19:AV)(h20:AH) (n21:Int) (v69:AV) (n70:Int):Prop:=
 ∃(I22:Nat→List AV→AH→Prop) (m23:Nat),I22 m23 [v69,(.v (.int .i64 n70))] h20∧∀(m24:Nat) (h25:AH),h20.length≤h25.length→LowH h25.length h25→∀(v26:AV) (n27:Int),I22 m24 [v26,(.v (.int .i64 n27))] h25 →
 condB (decide (n27<n21))
 (okV (aIA Tryz.prog h25 72 a1 (.v (.int .i64 n27))) fun v28=>
 okV (aLoad Tryz.prog h25 89 v28) fun v29=>
 newO (.cells 89 6 [[(.v (.int .i64 0)),(.v (.string (ByteArray.mk #[]))),(.v (.string (ByteArray.mk #[]))),(.v (.int .i64 0)),(.v (.int .i64 0)),(.v (.int .i64 0))]] 0) h25 fun i30 h31=>
 storeR Tryz.prog h31 (fun v32 h33=>
 okV (aLoad Tryz.prog h33 89 (.ptr i30 0 0 0)) fun v34=>
 callR Tryz.prog G 92 [v19,v34] h33 (fun v35 h36=>
 newO (.cells 157 4 [[(.v (.int .i64 0)),(.v (.int .i64 0)),(.v (.string (ByteArray.mk #[]))),(.v (.slice none 0 0))]] 0) h36 fun i37 h38=>
 storeR Tryz.prog h38 (fun v39 h40=>
 okInt .i64 (aLoad Tryz.prog h40 24 (.ptr i37 0 0 0)) fun n41=>
 rGq (n41 != 0) true (some a1) fun b42 v43=>
 rGq b42 true (aLen Tryz.prog h40 72 v43) fun b44 v45=>
 rGq b44 true (aBin Tryz.prog .gtr 3 v45 (.v (.int .i64 1))) fun b46 v47=>
 okBool (pickR (some (.v (.bool b46))) (some v47) (some (.v (.bool false)))) fun b48=>
 condB b48
 (okInt .i64 (aLoad Tryz.prog h40 24 (.ptr i37 0 0 0)) fun n49=>
 (aLoad Tryz.prog h40 24 (.ptr i37 0 0 0)=some (.v (.int .i64 n49)))∧storeR Tryz.prog h40 (fun v50 h51=>
 okV (aLoad Tryz.prog h51 80 (.ptr i0 0 0 0)) fun v52=>
 RetR h K (.tup [(.v (.slice none 0 0)),v52]) h51) 80 (.agg [(.v (.int .i64 n27)),(.v (.int .i64 n49))]) (.ptr i0 0 0 0))
 (okV (aLoad Tryz.prog h40 157 (.ptr i37 0 0 0)) fun v53=>
 okP (rowsFill 4 (List.replicate 1 [(.v (.int .i64 0)),(.v (.int .i64 0)),(.v (.string (ByteArray.mk #[]))),(.v (.slice none 0 0))]) [(0,some v53)]) fun r54=>newO (.cells 157 4 r54 0) h40 fun i55 h56=>
 appR Tryz.prog h56 78 78 v26 (.sl i55 0 0 1 none) (fun v57 h58=>
 nextR h20 I22 m24 [some a0,some a1,some (.ptr i0 0 0 0),some v19,some a1,some (.v (.int .i64 n21))] [some a0,some a1,some (.ptr i0 0 0 0),some v19,some a1,some (.v (.int .i64 n21))] [v57,(.v (.int .i64 (IntKind.wrap .i64 (n27+1))))] h58))) 157 v35 (.ptr i37 0 0 0))) 89 v29 (.ptr i30 0 0 0))
 (okV (aNil v19) fun v59=>
 okV (aFA Tryz.prog 160 0 v59) fun v60=>
 okV (aLoad Tryz.prog h25 47 v60) fun v61=>
 okV (aNil a0) fun v62=>
 okV (aFA Tryz.prog 160 0 v62) fun v63=>
 storeR Tryz.prog h25 (fun v64 h65=>
 storeR Tryz.prog h65 (fun v66 h67=>
 okV (aLoad Tryz.prog h67 80 (.ptr i0 0 0 0)) fun v68=>
 RetR h K (.tup [v26,v68]) h67) 80 (.agg [(.v (.int .i64 0)),(.v (.int .i64 0))]) (.ptr i0 0 0 0)) 47 v61 v63)
def Tryz.r43(G:Nat→Option AV) (a0 a1:AV)(h:AH) (K:AV→AH→Prop):Prop:=
 newO (.cells 80 2 [[(.v (.int .i64 0)),(.v (.int .i64 0))]] 0) h fun i0 h1=>
 okInt .i64 (aLen Tryz.prog h1 72 a1) fun n2=>
 rGq (decide (n2<1)) false (some a1) fun b3 v4=>
 rGq b3 false (aLen Tryz.prog h1 72 v4) fun b5 v6=>
 rGq b5 false (aBin Tryz.prog .gtr 3 v6 (.v (.int .i64 32))) fun b7 v8=>
 okBool (pickR (some (.v (.bool b7))) (some (.v (.bool true))) (some v8)) fun b9=>
 condB b9
 (storeR Tryz.prog h1 (fun v10 h11=>
 okV (aLoad Tryz.prog h11 80 (.ptr i0 0 0 0)) fun v12=>
 RetR h K (.tup [(.v (.slice none 0 0)),v12]) h11) 80 (.agg [(.v (.int .i64 0)),(.v (.int .i64 80))]) (.ptr i0 0 0 0))
 (callR Tryz.prog G 76 [a1,(.fn (.func 90) [] [])] h1 (fun v13 h14=>
 okInt .i64 (some v13) fun n15=>
 condB (decide (n15≥0))
 (storeR Tryz.prog h14 (fun v16 h17=>
 okV (aLoad Tryz.prog h17 80 (.ptr i0 0 0 0)) fun v18=>
 RetR h K (.tup [(.v (.slice none 0 0)),v18]) h17) 80 (.agg [(.v (.int .i64 n15)),(.v (.int .i64 80))]) (.ptr i0 0 0 0))
 (callR Tryz.prog G 91 [a0] h14 (fun v19 h20=>
 okInt .i64 (aLen Tryz.prog h20 72 a1) fun n21=>
 Tryz.r43_l9_22 K h G a0 a1 i0 v19 h20 n21 (.v (.slice none 0 0)) 0))))
theorem Tryz.c43(G:Nat→Option AV) (a0 a1:AV)(h:AH) (K:AV→AH→Prop)(hk:LowH h.length h→Tryz.r43 G a0 a1 h K):SCall Tryz.prog G 43 [a0,a1] h K:=
 scall_of_rwp Tryz.tab43 [(9, [(8, .any),(31,(.int .i64))], [0,1,5,7,29,30])] Tryz.func43 rfl Tryz.ntmps43 (by kernel_rfl) (by show 2≤65;decide) (by kernel_rfl) (by kernel_rfl) hk
def Tryz.r44(G:Nat→Option AV) (a0 a1:AV)(h:AH) (K:AV→AH→Prop):Prop:=
 onlyB (AV.one a1) (newO (.cells 96 (AV.cells a1).length [AV.cells a1] 0) h fun i0 h1=>
 okV (aLoad Tryz.prog h1 96 (.ptr i0 0 0 0)) fun v2=>
 callR Tryz.prog G 93 [a0,v2] h1 (fun v3 h4=>
 okInt .i64 (extV 0 v3) fun n5=>
 okInt .i64 (extV 1 v3) fun n6=>
 okV (aNil a0) fun v7=>
 okV (aFA Tryz.prog 160 0 v7) fun v8=>
 okV (aLoad Tryz.prog h4 47 v8) fun v9=>
 okV (aSlice Tryz.prog h4 47 v9 (some (some (.v (.int .i64 n5)))) (some (some (.v (.int .i64 n6)))) none) fun v10=>
 callR Tryz.prog G 94 [v10] h4 (fun v11 h12=>
 RetR h K v11 h12)))
theorem Tryz.c44(G:Nat→Option AV) (a0 a1:AV)(h:AH) (K:AV→AH→Prop)(hk:LowH h.length h→Tryz.r44 G a0 a1 h K):SCall Tryz.prog G 44 [a0,a1] h K:=
 scall_of_rwp Tryz.tab44 [] Tryz.func44 rfl Tryz.ntmps44 (by kernel_rfl) (by show 2≤21;decide) (by kernel_rfl) (by kernel_rfl) hk
def Tryz.r53_j12(K:AV→AH→Prop)(h:AH) (G:Nat→Option AV) (a1:AV) (i7:Nat)(h11:AH):Prop:=
 okV (aLoad Tryz.prog h11 31 (.ptr i7 0 0 1)) fun v12=>
 okStr (some a1) fun s13=>
 callR Tryz.prog G 54 [v12,(.v (.string s13))] h11 (fun v14 h15=>
 okInt .i64 (extV 0 v14) fun n16=>
 okInt .i64 (extV 1 v14) fun n17=>
 RetR h K (.tup [(.v (.int .i64 n16)),(.v (.int .i64 n17))]) h15)
def Tryz.r53(G:Nat→Option AV) (a0 a1:AV)(h:AH) (K:AV→AH→Prop):Prop:=
 onlyB (AV.one a0) (newO (.cells 49 (AV.cells a0).length [AV.cells a0] 0) h fun i0 h1=>
 okV (aLoad Tryz.prog h1 49 (.ptr i0 0 0 0)) fun v2=>
 callR Tryz.prog G 63 [v2] h1 (fun v3 h4=>
 okInt .i64 (some v3) fun n5=>
 condB (n5 != 0)
 (RetR h K (.tup [(.v (.int .i64 0)),(.v (.int .i64 n5))]) h4)
 (okV (aLoad Tryz.prog h4 43 (.ptr i0 0 0 0)) fun v6=>
 newO (.cells 43 2 [[(.v (.int .i64 0)),(.v (.slice none 0 0))]] 0) h4 fun i7 h8=>
 storeR Tryz.prog h8 (fun v9 h10=>
 okBool (aLoad Tryz.prog h10 4 (.ptr i0 0 0 5)) fun b18=>
 rGq b18 false (some a1) fun b19 v20=>
 rGq b19 false (some (.ptr i0 0 0 4)) fun b21 v22=>
 rGq b21 false (aLoad Tryz.prog h10 9 v22) fun b23 v24=>
 rGq b23 false (aBin Tryz.prog .lss 9 v20 v24) fun b25 v26=>
 okBool (pickR (some (.v (.bool b25))) (some (.v (.bool true))) (some v26)) fun b27=>
 condB b27
 (okV (aLoad Tryz.prog h10 43 (.ptr i0 0 0 2)) fun v28=>
 storeR Tryz.prog h10 (fun v29 h30=>
 Tryz.r53_j12 K h G a1 i7 h30) 43 v28 (.ptr i7 0 0 0))
 (Tryz.r53_j12 K h G a1 i7 h10)) 43 v6 (.ptr i7 0 0 0))))
theorem Tryz.c53(G:Nat→Option AV) (a0 a1:AV)(h:AH) (K:AV→AH→Prop)(hk:LowH h.length h→Tryz.r53 G a0 a1 h K):SCall Tryz.prog G 53 [a0,a1] h K:=
 scall_of_rwp Tryz.tab53 [] Tryz.func53 rfl Tryz.ntmps53 (by kernel_rfl) (by show 2≤31;decide) (by kernel_rfl) (by kernel_rfl) hk
def Tryz.r54(G:Nat→Option AV) (a0 a1:AV)(h:AH) (K:AV→AH→Prop):Prop:=
 callR Tryz.prog G 107 [a0] h (fun v0 h1=>
 okV (extV 0 v0) fun v2=>
 okInt .i64 (extV 1 v0) fun n3=>
 condB (n3 != 0)
 (RetR h K (.tup [(.v (.int .i64 0)),(.v (.int .i64 n3))]) h1)
 (okStr (some a1) fun s4=>
 callR Tryz.prog G 108 [v2,(.v (.string s4))] h1 (fun v5 h6=>
 okInt .i64 (some v5) fun n7=>
 RetR h K (.tup [(.v (.int .i64 n7)),(.v (.int .i64 0))]) h6)))
theorem Tryz.c54(G:Nat→Option AV) (a0 a1:AV)(h:AH) (K:AV→AH→Prop)(hk:LowH h.length h→Tryz.r54 G a0 a1 h K):SCall Tryz.prog G 54 [a0,a1] h K:=
 scall_of_rwp Tryz.tab54 [] Tryz.func54 rfl Tryz.ntmps54 (by kernel_rfl) (by show 2≤19;decide) (by kernel_rfl) (by kernel_rfl) hk
def Tryz.r55(G:Nat→Option AV) (a0 a1:AV)(h:AH) (K:AV→AH→Prop):Prop:=
 onlyB (AV.one a0) (newO (.cells 68 (AV.cells a0).length [AV.cells a0] 0) h fun i0 h1=>
 okV (aLoad Tryz.prog h1 68 (.ptr i0 0 0 0)) fun v2=>
 callR Tryz.prog G 40 [v2] h1 (fun v3 h4=>
 okBool (some v3) fun b5=>
 condB (!b5)
 (RetR h K (.tup [(.v (.int .i64 0)),(.v (.int .i64 70))]) h4)
 (okBool (aLoad Tryz.prog h4 4 (.ptr i0 0 0 5)) fun b6=>
 rGq b6 false (some a1) fun b7 v8=>
 rGq b7 false (some (.ptr i0 0 0 4)) fun b9 v10=>
 rGq b9 false (aLoad Tryz.prog h4 9 v10) fun b11 v12=>
 rGq b11 false (aBin Tryz.prog .lss 9 v8 v12) fun b13 v14=>
 okBool (pickR (some (.v (.bool b13))) (some (.v (.bool true))) (some v14)) fun b15=>
 condB b15
 (okV (aLoad Tryz.prog h4 31 (.ptr i0 0 0 3)) fun v16=>
 okStr (some a1) fun s17=>
 callR Tryz.prog G 56 [v16,(.v (.string s17))] h4 (fun v18 h19=>
 okInt .i64 (extV 0 v18) fun n20=>
 okInt .i64 (extV 1 v18) fun n21=>
 RetR h K (.tup [(.v (.int .i64 n20)),(.v (.int .i64 n21))]) h19))
 (okV (aLoad Tryz.prog h4 31 (.ptr i0 0 0 1)) fun v22=>
 okStr (some a1) fun s23=>
 callR Tryz.prog G 56 [v22,(.v (.string s23))] h4 (fun v24 h25=>
 okInt .i64 (extV 0 v24) fun n26=>
 okInt .i64 (extV 1 v24) fun n27=>
 RetR h K (.tup [(.v (.int .i64 n26)),(.v (.int .i64 n27))]) h25)))))
theorem Tryz.c55(G:Nat→Option AV) (a0 a1:AV)(h:AH) (K:AV→AH→Prop)(hk:LowH h.length h→Tryz.r55 G a0 a1 h K):SCall Tryz.prog G 55 [a0,a1] h K:=
 scall_of_rwp Tryz.tab55 [] Tryz.func55 rfl Tryz.ntmps55 (by kernel_rfl) (by show 2≤31;decide) (by kernel_rfl) (by kernel_rfl) hk
def Tryz.r56(G:Nat→Option AV) (a0 a1:AV)(h:AH) (K:AV→AH→Prop):Prop:=
 callR Tryz.prog G 109 [a0] h (fun v0 h1=>
 okBool (some v0) fun b2=>
 condB (!b2)
 (RetR h K (.tup [(.v (.int .i64 0)),(.v (.int .i64 1))]) h1)
 (callR Tryz.prog G 111 [a0] h1 (fun v3 h4=>
 okStr (some a1) fun s5=>
 callR Tryz.prog G 110 [v3,(.v (.string s5))] h4 (fun v6 h7=>
 okInt .i64 (some v6) fun n8=>
 RetR h K (.tup [(.v (.int .i64 n8)),(.v (.int .i64 0))]) h7))))
theorem Tryz.c56(G:Nat→Option AV) (a0 a1:AV)(h:AH) (K:AV→AH→Prop)(hk:LowH h.length h→Tryz.r56 G a0 a1 h K):SCall Tryz.prog G 56 [a0,a1] h K:=
 scall_of_rwp Tryz.tab56 [] Tryz.func56 rfl Tryz.ntmps56 (by kernel_rfl) (by show 2≤13;decide) (by kernel_rfl) (by kernel_rfl) hk
def Tryz.r62(a0:AV)(h:AH) (K:AV→AH→Prop):Prop:=
 okV (aNil a0) fun v0=>
 okV (aFA Tryz.prog 160 0 v0) fun v1=>
 okV (aLoad Tryz.prog h 47 v1) fun v2=>
 okInt .i64 (aLen Tryz.prog h 47 v2) fun n3=>
 RetR h K (.v (.int .i64 n3)) h
theorem Tryz.c62(G:Nat→Option AV) (a0:AV)(h:AH) (K:AV→AH→Prop)(hk:LowH h.length h→Tryz.r62 a0 h K):SCall Tryz.prog G 62 [a0] h K:=
 scall_of_rwp Tryz.tab62 [] Tryz.func62 rfl Tryz.ntmps62 (by kernel_rfl) (by show 1≤8;decide) (by kernel_rfl) (by kernel_rfl) hk
def Tryz.r63(G:Nat→Option AV) (a0:AV)(h:AH) (K:AV→AH→Prop):Prop:=
 onlyB (AV.one a0) (newO (.cells 49 (AV.cells a0).length [AV.cells a0] 0) h fun i0 h1=>
 okStr (aLoad Tryz.prog h1 9 (.ptr i0 0 0 4)) fun s2=>
 okBool (aLoad Tryz.prog h1 4 (.ptr i0 0 0 5)) fun b3=>
 newO (.cells 192 2 [[(.v (.string (ByteArray.mk #[]))),(.v (.bool false))]] 0) h1 fun i4 h5=>
 storeR Tryz.prog h5 (fun v6 h7=>
 okV (aLoad Tryz.prog h7 43 (.ptr i0 0 0 0)) fun v8=>
 callR Tryz.prog G 114 [v8] h7 (fun v9 h10=>
 okInt .i64 (some v9) fun n11=>
 rGq (n11 != 0) false (some (.ptr i0 0 0 2)) fun b12 v13=>
 rGq b12 false (aLoad Tryz.prog h10 43 v13) fun b14 v15=>
 rGe b14 false (fun k16=>callR Tryz.prog G 114 [v15] h10 (fun v17 h18=>
 k16 v17 h18)) h10 fun b19 v20 h21=>
 rGq b19 false (aBin Tryz.prog .neq 24 v20 (.v (.int .i64 0))) fun b22 v23=>
 okBool (pickR (some (.v (.bool b22))) (some (.v (.bool true))) (some v23)) fun b24=>
 condB b24
 (RetR h K (.v (.int .i64 70)) h21)
 (okInt .i64 (aLoad Tryz.prog h21 3 (.ptr i0 0 0 2)) fun n25=>
 okInt .i64 (aLoad Tryz.prog h21 3 (.ptr i0 0 0 0)) fun n26=>
 rGq (n25 != (IntKind.wrap .i64 (n26+1))) false (some (.ptr i0 0 0 2)) fun b27 v28=>
 rGq b27 false (aFA Tryz.prog 43 1 v28) fun b29 v30=>
 rGq b29 false (aLoad Tryz.prog h21 31 v30) fun b31 v32=>
 rGq b31 false (aLen Tryz.prog h21 31 v32) fun b33 v34=>
 rGq b33 false (some (.ptr i0 0 0 0)) fun b35 v36=>
 rGq b35 false (aFA Tryz.prog 43 1 v36) fun b37 v38=>
 rGq b37 false (aLoad Tryz.prog h21 31 v38) fun b39 v40=>
 rGq b39 false (aLen Tryz.prog h21 31 v40) fun b41 v42=>
 rGq b41 false (aBin Tryz.prog .lss 3 v34 v42) fun b43 v44=>
 okBool (pickR (some (.v (.bool b43))) (some (.v (.bool true))) (some v44)) fun b45=>
 condB b45
 (RetR h K (.v (.int .i64 70)) h21)
 (okStr (aLoad Tryz.prog h21 9 (.ptr i4 0 0 0)) fun s46=>
 rGq (decide (((ByteArray.size s46:Nat):Int) > 64)) false (some (.ptr i4 0 0 1)) fun b47 v48=>
 rGq b47 false (aLoad Tryz.prog h21 4 v48) fun b49 v50=>
 rGq b49 false (some v50) fun b51 v52=>
 okG (some v52) true fun b53 g0=>
 rGq b53 true (aLoad Tryz.prog h21 192 (.ptr i4 0 0 0)) fun b54 v55=>
 okG (some (g0 b54)) true fun c1 g2=>
 rGq c1 true (some (.agg [(.v (.string (ByteArray.mk #[]))),(.v (.bool true))])) fun b56 v57=>
 okG (some (g2 b56)) true fun c3 g4=>
 rGq c3 true (aBin Tryz.prog .neq 192 v55 v57) fun b58 v59=>
 rGq b51 false (pickR (some (g4 b58)) (some v59) (some (.v (.bool false)))) fun b60 v61=>
 okBool (pickR (some (.v (.bool b60))) (some (.v (.bool true))) (some v61)) fun b62=>
 condB b62
 (RetR h K (.v (.int .i64 70)) h21)
 (RetR h K (.v (.int .i64 0)) h21))))) 192 (.agg [(.v (.string s2)),(.v (.bool b3))]) (.ptr i4 0 0 0))
theorem Tryz.c63(G:Nat→Option AV) (a0:AV)(h:AH) (K:AV→AH→Prop)(hk:LowH h.length h→Tryz.r63 G a0 h K):SCall Tryz.prog G 63 [a0] h K:=
 scall_of_rwp Tryz.tab63 [] Tryz.func63 rfl Tryz.ntmps63 (by kernel_rfl) (by show 1≤54;decide) (by kernel_rfl) (by kernel_rfl) hk
def Tryz.r64(G:Nat→Option AV) (a0 a1:AV)(h:AH) (K:AV→AH→Prop):Prop:=
 okInt .i64 (aLen Tryz.prog h 47 a0) fun n0=>
 callR Tryz.prog G 115 [a0,(.v (.int .i64 n0)),a1] h (fun v1 h2=>
 RetR h K (.tup []) h2)
theorem Tryz.c64(G:Nat→Option AV) (a0 a1:AV)(h:AH) (K:AV→AH→Prop)(hk:LowH h.length h→Tryz.r64 G a0 a1 h K):SCall Tryz.prog G 64 [a0,a1] h K:=
 scall_of_rwp Tryz.tab64 [] Tryz.func64 rfl Tryz.ntmps64 (by kernel_rfl) (by show 2≤9;decide) (by kernel_rfl) (by kernel_rfl) hk
def Tryz.r65(G:Nat→Option AV) (a0 a1:AV)(h:AH) (K:AV→AH→Prop):Prop:=
 onlyB (AV.one a0) (newO (.cells 131 (AV.cells a0).length [AV.cells a0] 0) h fun i0 h1=>
 onlyB (AV.one a1) (newO (.cells 131 (AV.cells a1).length [AV.cells a1] 0) h1 fun i2 h3=>
 okStr (aLoad Tryz.prog h3 9 (.ptr i0 0 0 0)) fun s4=>
 okStr (aLoad Tryz.prog h3 9 (.ptr i2 0 0 0)) fun s5=>
 callR Tryz.prog G 66 [(.v (.string s4)),(.v (.string s5))] h3 (fun v6 h7=>
 okInt .i64 (some v6) fun n8=>
 RetR h K (.v (.int .i64 n8)) h7)))
theorem Tryz.c65(G:Nat→Option AV) (a0 a1:AV)(h:AH) (K:AV→AH→Prop)(hk:LowH h.length h→Tryz.r65 G a0 a1 h K):SCall Tryz.prog G 65 [a0,a1] h K:=
 scall_of_rwp Tryz.tab65 [] Tryz.func65 rfl Tryz.ntmps65 (by kernel_rfl) (by show 2≤10;decide) (by kernel_rfl) (by kernel_rfl) hk
def Tryz.r67_l3_1(K:AV→AH→Prop)(h:AH) (G:Nat→Option AV) (a0:AV) (n0:Int) (v31:AV) (n32:Int):Prop:=
 ∃(I1:Nat→List AV→AH→Prop) (m2:Nat),I1 m2 [v31,(.v (.int .i64 n32))] h∧∀(m3:Nat) (h4:AH),h.length≤h4.length→LowH h4.length h4→∀(v5:AV) (n6:Int),I1 m3 [v5,(.v (.int .i64 n6))] h4 →
 condB (decide (n6<n0))
 (okV (aIA Tryz.prog h4 51 a0 (.v (.int .i64 n6))) fun v7=>
 okV (aLoad Tryz.prog h4 87 v7) fun v8=>
 okBool (aBin Tryz.prog .eql 87 v8 (.v (.pointer none))) fun b9=>
 rGq b9 false (some a0) fun b10 v11=>
 rGq b10 false (some (.v (.int .i64 n6))) fun b12 v13=>
 rGq b12 false (aSlice Tryz.prog h4 51 v11 none (some (some v13)) none) fun b14 v15=>
 rGq b14 false (some v8) fun b16 v17=>
 rGe b16 false (fun k18=>callR Tryz.prog G 117 [v15,v17] h4 (fun v19 h20=>
 k18 v19 h20)) h4 fun b21 v22 h23=>
 okBool (pickR (some (.v (.bool b21))) (some (.v (.bool true))) (some v22)) fun b24=>
 condB b24
 (RetR h K (.tup [(.v (.slice none 0 0)),(.v (.bool false))]) h23)
 (okV (aMkI Tryz.prog 87 v8) fun v25=>
 okP (rowsFill 1 (List.replicate 1 [(.v .nilIface)]) [(0,some v25)]) fun r26=>newO (.cells 141 1 r26 0) h23 fun i27 h28=>
 appR Tryz.prog h28 137 137 v5 (.sl i27 0 0 1 none) (fun v29 h30=>
 nextR h I1 m3 [some a0,some a0,some (.v (.int .i64 n0))] [some a0,some a0,some (.v (.int .i64 n0))] [v29,(.v (.int .i64 (IntKind.wrap .i64 (n6+1))))] h30)))
 (RetR h K (.tup [v5,(.v (.bool true))]) h4)
def Tryz.r67(G:Nat→Option AV) (a0:AV)(h:AH) (K:AV→AH→Prop):Prop:=
 okInt .i64 (aLen Tryz.prog h 51 a0) fun n0=>
 Tryz.r67_l3_1 K h G a0 n0 (.v (.slice none 0 0)) 0
theorem Tryz.c67(G:Nat→Option AV) (a0:AV)(h:AH) (K:AV→AH→Prop)(hk:LowH h.length h→Tryz.r67 G a0 h K):SCall Tryz.prog G 67 [a0] h K:=
 scall_of_rwp Tryz.tab67 [(3, [(4, .any),(9,(.int .i64))], [0,7,8])] Tryz.func67 rfl Tryz.ntmps67 (by kernel_rfl) (by show 1≤30;decide) (by kernel_rfl) (by kernel_rfl) hk
def Tryz.r69_l12_35(K:AV→AH→Prop)(h:AH) (a1:AV) (n22:Int) (n26:Int)(h31:AH) (v32:AV) (n34:Int) (v50:AV) (n51:Int):Prop:=
 ∃(I35:Nat→List AV→AH→Prop) (m36:Nat),I35 m36 [v50,(.v (.int .i64 n51))] h31∧∀(m37:Nat) (h38:AH),h31.length≤h38.length→LowH h38.length h38→∀(v39:AV) (n40:Int),I35 m37 [v39,(.v (.int .i64 n40))] h38 →
 condB (decide (n40<n34))
 (okV (aIA Tryz.prog h38 31 v32 (.v (.int .i64 n40))) fun v41=>
 okInt .i64 (aLoad Tryz.prog h38 3 v41) fun n42=>
 newO (.cells 3 1 [[(.v (.int .i64 (IntKind.wrap .i64 (n22+n42))))]] 0) h38 fun i43 h44=>
 appR Tryz.prog h44 31 31 v39 (.sl i43 0 0 1 none) (fun v45 h46=>
 nextR h31 I35 m37 [some a1,some (.v (.int .i64 n22)),some (.v (.int .i64 (IntKind.wrap .i64 (n22+n26)))),some v32,some (.v (.int .i64 n34))] [some a1,some (.v (.int .i64 n22)),some (.v (.int .i64 (IntKind.wrap .i64 (n22+n26)))),some v32,some (.v (.int .i64 n34))] [v45,(.v (.int .i64 (IntKind.wrap .i64 (n40+1))))] h46))
 (okInt .i64 (aLen Tryz.prog h38 142 a1) fun n47=>
 condB (decide ((IntKind.wrap .i64 (n22+n26))<n47))
 (okV (aIA Tryz.prog h38 142 a1 (.v (.int .i64 (IntKind.wrap .i64 (n22+n26))))) fun v48=>
 okStr (aLoad Tryz.prog h38 9 v48) fun s49=>
 RetR h K (.tup [(.v (.string s49)),v39,(.v (.bool false)),(.v (.int .i64 0))]) h38)
 (RetR h K (.tup [(.v (.string (ByteArray.mk #[]))),v39,(.v (.bool true)),(.v (.int .i64 0))]) h38))
def Tryz.r69(G:Nat→Option AV) (a0 a1 a2:AV)(h:AH) (K:AV→AH→Prop):Prop:=
 onlyB (AV.one a0) (newO (.cells 49 (AV.cells a0).length [AV.cells a0] 0) h fun i0 h1=>
 okV (aLoad Tryz.prog h1 49 (.ptr i0 0 0 0)) fun v2=>
 callR Tryz.prog G 63 [v2] h1 (fun v3 h4=>
 okInt .i64 (some v3) fun n5=>
 condB (n5 != 0)
 (RetR h K (.tup [(.v (.string (ByteArray.mk #[]))),(.v (.slice none 0 0)),(.v (.bool false)),(.v (.int .i64 n5))]) h4)
 (okInt .i64 (some a2) fun n6=>
 rGq (decide (n6<1)) false (some a1) fun b7 v8=>
 rGe b7 false (fun k9=>callR Tryz.prog G 118 [v8] h4 (fun v10 h11=>
 k9 v10 h11)) h4 fun b12 v13 h14=>
 rGq b12 false (aUn .not v13) fun b15 v16=>
 okBool (pickR (some (.v (.bool b15))) (some (.v (.bool true))) (some v16)) fun b17=>
 condB b17
 (RetR h K (.tup [(.v (.string (ByteArray.mk #[]))),(.v (.slice none 0 0)),(.v (.bool false)),(.v (.int .i64 1))]) h14)
 (okBool (aLoad Tryz.prog h14 4 (.ptr i0 0 0 5)) fun b18=>
 condB b18
 (RetR h K (.tup [(.v (.string (ByteArray.mk #[]))),(.v (.slice none 0 0)),(.v (.bool true)),(.v (.int .i64 0))]) h14)
 (okStr (aLoad Tryz.prog h14 9 (.ptr i0 0 0 4)) fun s19=>
 callR Tryz.prog G 119 [a1,(.v (.string s19))] h14 (fun v20 h21=>
 okInt .i64 (extV 0 v20) fun n22=>
 okBool (extV 1 v20) fun b23=>
 okInt .i64 (some a2) fun n24=>
 okInt .i64 (aLen Tryz.prog h21 142 a1) fun n25=>
 okInt .i64 (aMinMax false [some (.v (.int .i64 n24)),some (.v (.int .i64 (IntKind.wrap .i64 (n25-n22))))]) fun n26=>
 okV (aLoad Tryz.prog h21 31 (.ptr i0 0 0 1)) fun v27=>
 okV (aLoad Tryz.prog h21 31 (.ptr i0 0 0 3)) fun v28=>
 okV (aSlice Tryz.prog h21 142 a1 (some (some (.v (.int .i64 n22)))) (some (some (.v (.int .i64 (IntKind.wrap .i64 (n22+n26)))))) none) fun v29=>
 callR Tryz.prog G 120 [v27,v28,v29] h21 (fun v30 h31=>
 okV (extV 0 v30) fun v32=>
 okInt .i64 (extV 1 v30) fun n33=>
 okInt .i64 (aLen Tryz.prog h31 31 v32) fun n34=>
 Tryz.r69_l12_35 K h a1 n22 n26 h31 v32 n34 (.v (.slice none 0 0)) 0)))))))
theorem Tryz.c69(G:Nat→Option AV) (a0 a1 a2:AV)(h:AH) (K:AV→AH→Prop)(hk:LowH h.length h→Tryz.r69 G a0 a1 a2 h K):SCall Tryz.prog G 69 [a0,a1,a2] h K:=
 scall_of_rwp Tryz.tab69 [(12, [(7, .any),(63,(.int .i64))], [1,11,13,61,62])] Tryz.func69 rfl Tryz.ntmps69 (by kernel_rfl) (by show 3≤84;decide) (by kernel_rfl) (by kernel_rfl) hk
def Tryz.r70_l5_3(K:AV→AH→Prop)(h:AH) (a0:AV)(h0:AH) (n13:Int) (n14:Int):Prop:=
 ∃(I3:Nat→List AV→AH→Prop) (m4:Nat),I3 m4 [(.v (.int .i64 n13)),(.v (.int .i64 n14))] h0∧∀(m5:Nat) (h6:AH),h0.length≤h6.length→LowH h6.length h6→∀(n7:Int) (n8:Int),I3 m5 [(.v (.int .i64 n7)),(.v (.int .i64 n8))] h6 →
 okInt .i64 (aLen Tryz.prog h6 31 a0) fun n9=>
 condB (decide (n8<n9))
 (okV (aIA Tryz.prog h6 31 a0 (.v (.int .i64 n8))) fun v10=>
 okInt .i64 (aLoad Tryz.prog h6 3 v10) fun n11=>
 okInt .i64 (aMinMax true [some (.v (.int .i64 n7)),some (.v (.int .i64 n11))]) fun n12=>
 nextR h0 I3 m5 [some a0] [some a0] [(.v (.int .i64 n12)),(.v (.int .i64 (IntKind.wrap .i64 (n8+1))))] h6)
 (RetR h K (.v (.int .i64 n7)) h6)
def Tryz.r70_j1(h:AH) (K:AV→AH→Prop) (a0:AV)(h0:AH):Prop:=
 okV (aIA Tryz.prog h0 31 a0 (.v (.int .i64 0))) fun v1=>
 okInt .i64 (aLoad Tryz.prog h0 3 v1) fun n2=>
 Tryz.r70_l5_3 K h a0 h0 n2 1
def Tryz.r70(a0:AV)(h:AH) (K:AV→AH→Prop):Prop:=
 okInt .i64 (aLen Tryz.prog h 31 a0) fun n15=>
 condB (decide (n15<1))
 (okV (aMkI Tryz.prog 9 (.v (.string (ByteArray.mk #[115,108,105,99,101,115,46,77,97,120,58,32,101,109,112,116,121,32,108,105,115,116])))) fun v16=>
 False)
 (Tryz.r70_j1 h K a0 h)
theorem Tryz.c70(G:Nat→Option AV) (a0:AV)(h:AH) (K:AV→AH→Prop)(hk:LowH h.length h→Tryz.r70 a0 h K):SCall Tryz.prog G 70 [a0] h K:=
 scall_of_rwp Tryz.tab70 [(5, [(3,(.int .i64)),(4,(.int .i64))], [0])] Tryz.func70 rfl Tryz.ntmps70 (by kernel_rfl) (by show 1≤25;decide) (by kernel_rfl) (by kernel_rfl) hk
def Tryz.r71_l18_54(K:AV→AH→Prop)(h:AH) (G:Nat→Option AV) (a0:AV) (a1:AV)(h14:AH) (n64:Int):Prop:=
 ∃(I54:Nat→List AV→AH→Prop) (m55:Nat),I54 m55 [(.v (.int .i64 n64))] h14∧∀(m56:Nat) (h57:AH),h14.length≤h57.length→LowH h57.length h57→∀(n58:Int),I54 m56 [(.v (.int .i64 n58))] h57 →
 okInt .i64 (aLen Tryz.prog h57 47 a1) fun n59=>
 condB (decide (n58<n59))
 (okV (aIA Tryz.prog h57 47 a1 (.v (.int .i64 n58))) fun v60=>
 okV (aLoad Tryz.prog h57 131 v60) fun v61=>
 callR Tryz.prog G 123 [a0,v61] h57 (fun v62 h63=>
 nextR h14 I54 m56 [some a0,some a1] [some a0,some a1] [(.v (.int .i64 (IntKind.wrap .i64 (n58+1))))] h63))
 (RetR h K (.v (.int .i64 0)) h57)
def Tryz.r71_l8_11(G:Nat→Option AV)(h:AH) (K:AV→AH→Prop) (a0:AV) (a1:AV)(h3:AH) (n65:Int) (n66:Int):Prop:=
 ∃(I11:Nat→List AV→AH→Prop) (m12:Nat),I11 m12 [(.v (.int .i64 n65)),(.v (.int .i64 n66))] h3∧∀(m13:Nat) (h14:AH),h3.length≤h14.length→LowH h14.length h14→∀(n15:Int) (n16:Int),I11 m13 [(.v (.int .i64 n15)),(.v (.int .i64 n16))] h14 →
 okInt .i64 (aLen Tryz.prog h14 47 a1) fun n17=>
 condB (decide (n16<n17))
 (rGq (decide (n16 > 0)) true (some a1) fun b18 v19=>
 rGq b18 true (some (.v (.int .i64 n16))) fun b20 v21=>
 rGq b20 true (aBin Tryz.prog .sub 3 v21 (.v (.int .i64 1))) fun b22 v23=>
 rGq b22 true (aIA Tryz.prog h14 47 v19 v23) fun b24 v25=>
 rGq b24 true (aFA Tryz.prog 131 0 v25) fun b26 v27=>
 rGq b26 true (aLoad Tryz.prog h14 9 v27) fun b28 v29=>
 rGq b28 true (some a1) fun b30 v31=>
 rGq b30 true (some (.v (.int .i64 n16))) fun b32 v33=>
 rGq b32 true (aIA Tryz.prog h14 47 v31 v33) fun b34 v35=>
 rGq b34 true (aFA Tryz.prog 131 0 v35) fun b36 v37=>
 rGq b36 true (aLoad Tryz.prog h14 9 v37) fun b38 v39=>
 rGq b38 true (aBin Tryz.prog .geq 9 v29 v39) fun b40 v41=>
 okBool (pickR (some (.v (.bool b40))) (some v41) (some (.v (.bool false)))) fun b42=>
 condB b42
 (RetR h K (.v (.int .i64 4)) h14)
 (okV (aIA Tryz.prog h14 47 a1 (.v (.int .i64 n16))) fun v43=>
 okV (aFA Tryz.prog 131 0 v43) fun v44=>
 okStr (aLoad Tryz.prog h14 9 v44) fun s45=>
 callR Tryz.prog G 122 [a0,(.v (.string s45))] h14 (fun v46 h47=>
 okInt .i64 (extV 0 v46) fun n48=>
 okBool (extV 1 v46) fun b49=>
 condB (!b49)
 (nextR h3 I11 m13 [some a0,some a1] [some a0,some a1] [(.v (.int .i64 (IntKind.wrap .i64 (n15+1)))),(.v (.int .i64 (IntKind.wrap .i64 (n16+1))))] h47)
 (nextR h3 I11 m13 [some a0,some a1] [some a0,some a1] [(.v (.int .i64 n15)),(.v (.int .i64 (IntKind.wrap .i64 (n16+1))))] h47))))
 (okV (aNil a0) fun v50=>
 okV (aFA Tryz.prog 149 0 v50) fun v51=>
 okV (aLoad Tryz.prog h14 47 v51) fun v52=>
 okInt .i64 (aLen Tryz.prog h14 47 v52) fun n53=>
 condB (decide ((IntKind.wrap .i64 (n53+n15)) > 4096))
 (RetR h K (.v (.int .i64 22)) h14)
 (Tryz.r71_l18_54 K h G a0 a1 h14 0))
def Tryz.r71_l2_0(K:AV→AH→Prop)(h:AH) (G:Nat→Option AV) (a0:AV) (a1:AV) (n67:Int):Prop:=
 ∃(I0:Nat→List AV→AH→Prop) (m1:Nat),I0 m1 [(.v (.int .i64 n67))] h∧∀(m2:Nat) (h3:AH),h.length≤h3.length→LowH h3.length h3→∀(n4:Int),I0 m2 [(.v (.int .i64 n4))] h3 →
 okInt .i64 (aLen Tryz.prog h3 47 a1) fun n5=>
 condB (decide (n4<n5))
 (okV (aIA Tryz.prog h3 47 a1 (.v (.int .i64 n4))) fun v6=>
 okV (aLoad Tryz.prog h3 131 v6) fun v7=>
 callR Tryz.prog G 121 [v7] h3 (fun v8 h9=>
 okBool (some v8) fun b10=>
 condB (!b10)
 (RetR h K (.v (.int .i64 80)) h9)
 (nextR h I0 m2 [some a0,some a1] [some a0,some a1] [(.v (.int .i64 (IntKind.wrap .i64 (n4+1))))] h9)))
 (Tryz.r71_l8_11 G h K a0 a1 h3 0 0)
def Tryz.r71(G:Nat→Option AV) (a0 a1:AV)(h:AH) (K:AV→AH→Prop):Prop:=
 Tryz.r71_l2_0 K h G a0 a1 0
theorem Tryz.c71(G:Nat→Option AV) (a0 a1:AV)(h:AH) (K:AV→AH→Prop)(hk:LowH h.length h→Tryz.r71 G a0 a1 h K):SCall Tryz.prog G 71 [a0,a1] h K:=
 scall_of_rwp Tryz.tab71 [(2, [(5,(.int .i64))], [0,1]),(8, [(6,(.int .i64)),(7,(.int .i64))], [0,1]),(18, [(10,(.int .i64))], [0,1])] Tryz.func71 rfl Tryz.ntmps71 (by kernel_rfl) (by show 2≤79;decide) (by kernel_rfl) (by kernel_rfl) hk
def Tryz.r72_l13_48(K:AV→AH→Prop)(h:AH) (G:Nat→Option AV) (a1:AV) (a2:AV) (i0:Nat)(h10:AH) (v87:AV) (n88:Int) (n89:Int):Prop:=
 ∃(I48:Nat→List AV→AH→Prop) (m49:Nat),I48 m49 [v87,(.v (.int .i64 n88)),(.v (.int .i64 n89))] h10∧∀(m50:Nat) (h51:AH),h10.length≤h51.length→LowH h51.length h51→∀(v52:AV) (n53:Int) (n54:Int),I48 m50 [v52,(.v (.int .i64 n53)),(.v (.int .i64 n54))] h51 →
 okInt .i64 (aLen Tryz.prog h51 142 a1) fun n55=>
 rGq (decide (n54<n55)) true (some (.ptr i0 0 0 5)) fun b56 v57=>
 rGq b56 true (aLoad Tryz.prog h51 4 v57) fun b58 v59=>
 rGq b58 true (aUn .not v59) fun b60 v61=>
 okBool (pickR (some (.v (.bool b60))) (some v61) (some (.v (.bool false)))) fun b62=>
 condB b62
 (okV (aIA Tryz.prog h51 142 a1 (.v (.int .i64 n54))) fun v63=>
 okStr (aLoad Tryz.prog h51 9 v63) fun s64=>
 okStr (aLoad Tryz.prog h51 9 (.ptr i0 0 0 4)) fun s65=>
 condB (Op.bytesLess (ByteArray.toList s64) (ByteArray.toList s65))
 (nextR h10 I48 m50 [some a1,some a2,some (.ptr i0 0 0 0)] [some a1,some a2,some (.ptr i0 0 0 0)] [v52,(.v (.int .i64 n53)),(.v (.int .i64 (IntKind.wrap .i64 (n54+1))))] h51)
 (okInt .i64 (some a2) fun n66=>
 condB (n53==n66)
 (okV (aIA Tryz.prog h51 142 a1 (.v (.int .i64 n54))) fun v67=>
 okStr (aLoad Tryz.prog h51 9 v67) fun s68=>
 RetR h K (.tup [(.v (.string s68)),v52,(.v (.bool false)),(.v (.int .i64 0))]) h51)
 (okV (aLoad Tryz.prog h51 31 (.ptr i0 0 0 1)) fun v69=>
 okV (aIA Tryz.prog h51 142 a1 (.v (.int .i64 n54))) fun v70=>
 okStr (aLoad Tryz.prog h51 9 v70) fun s71=>
 callR Tryz.prog G 56 [v69,(.v (.string s71))] h51 (fun v72 h73=>
 okInt .i64 (extV 0 v72) fun n74=>
 okInt .i64 (extV 1 v72) fun n75=>
 okV (aLoad Tryz.prog h73 31 (.ptr i0 0 0 3)) fun v76=>
 okV (aIA Tryz.prog h73 142 a1 (.v (.int .i64 n54))) fun v77=>
 okStr (aLoad Tryz.prog h73 9 v77) fun s78=>
 callR Tryz.prog G 56 [v76,(.v (.string s78))] h73 (fun v79 h80=>
 okInt .i64 (extV 0 v79) fun n81=>
 okInt .i64 (extV 1 v79) fun n82=>
 condB (n74 != n81)
 (newO (.cells 3 1 [[(.v (.int .i64 n54))]] 0) h80 fun i83 h84=>
 appR Tryz.prog h84 31 31 v52 (.sl i83 0 0 1 none) (fun v85 h86=>
 nextR h10 I48 m50 [some a1,some a2,some (.ptr i0 0 0 0)] [some a1,some a2,some (.ptr i0 0 0 0)] [v85,(.v (.int .i64 (IntKind.wrap .i64 (n53+1)))),(.v (.int .i64 (IntKind.wrap .i64 (n54+1))))] h86))
 (nextR h10 I48 m50 [some a1,some a2,some (.ptr i0 0 0 0)] [some a1,some a2,some (.ptr i0 0 0 0)] [v52,(.v (.int .i64 (IntKind.wrap .i64 (n53+1)))),(.v (.int .i64 (IntKind.wrap .i64 (n54+1))))] h80))))))
 (RetR h K (.tup [(.v (.string (ByteArray.mk #[]))),v52,(.v (.bool true)),(.v (.int .i64 0))]) h51)
def Tryz.r72_l6_7(G:Nat→Option AV)(h:AH) (K:AV→AH→Prop) (a1:AV) (a2:AV) (i0:Nat)(h4:AH) (n90:Int):Prop:=
 ∃(I7:Nat→List AV→AH→Prop) (m8:Nat),I7 m8 [(.v (.int .i64 n90))] h4∧∀(m9:Nat) (h10:AH),h4.length≤h10.length→LowH h10.length h10→∀(n11:Int),I7 m9 [(.v (.int .i64 n11))] h10 →
 okInt .i64 (aLen Tryz.prog h10 142 a1) fun n12=>
 condB (decide (n11<n12))
 (okV (aIA Tryz.prog h10 142 a1 (.v (.int .i64 n11))) fun v13=>
 okStr (aLoad Tryz.prog h10 9 v13) fun s14=>
 callR Tryz.prog G 124 [(.v (.string s14))] h10 (fun v15 h16=>
 okBool (some v15) fun b17=>
 rGq (!b17) false (some (.v (.int .i64 n11))) fun b18 v19=>
 rGq b18 false (aBin Tryz.prog .gtr 3 v19 (.v (.int .i64 0))) fun b20 v21=>
 rGq b20 false (some v21) fun b22 v23=>
 okG (some v23) true fun b24 g0=>
 rGq b24 true (some a1) fun b25 v26=>
 okG (some (g0 b25)) true fun c1 g2=>
 rGq c1 true (some (.v (.int .i64 n11))) fun b27 v28=>
 okG (some (g2 b27)) true fun c3 g4=>
 rGq c3 true (aBin Tryz.prog .sub 3 v28 (.v (.int .i64 1))) fun b29 v30=>
 okG (some (g4 b29)) true fun c5 g6=>
 rGq c5 true (aIA Tryz.prog h16 142 v26 v30) fun b31 v32=>
 okG (some (g6 b31)) true fun c7 g8=>
 rGq c7 true (aLoad Tryz.prog h16 9 v32) fun b33 v34=>
 okG (some (g8 b33)) true fun c9 g10=>
 rGq c9 true (some a1) fun b35 v36=>
 okG (some (g10 b35)) true fun c11 g12=>
 rGq c11 true (some (.v (.int .i64 n11))) fun b37 v38=>
 okG (some (g12 b37)) true fun c13 g14=>
 rGq c13 true (aIA Tryz.prog h16 142 v36 v38) fun b39 v40=>
 okG (some (g14 b39)) true fun c15 g16=>
 rGq c15 true (aLoad Tryz.prog h16 9 v40) fun b41 v42=>
 okG (some (g16 b41)) true fun c17 g18=>
 rGq c17 true (aBin Tryz.prog .geq 9 v34 v42) fun b43 v44=>
 rGq b22 false (pickR (some (g18 b43)) (some v44) (some (.v (.bool false)))) fun b45 v46=>
 okBool (pickR (some (.v (.bool b45))) (some (.v (.bool true))) (some v46)) fun b47=>
 condB b47
 (RetR h K (.tup [(.v (.string (ByteArray.mk #[]))),(.v (.slice none 0 0)),(.v (.bool false)),(.v (.int .i64 1))]) h16)
 (nextR h4 I7 m9 [some a1,some a2,some (.ptr i0 0 0 0)] [some a1,some a2,some (.ptr i0 0 0 0)] [(.v (.int .i64 (IntKind.wrap .i64 (n11+1))))] h16)))
 (Tryz.r72_l13_48 K h G a1 a2 i0 h10 (.v (.slice none 0 0)) 0 0)
def Tryz.r72(G:Nat→Option AV) (a0 a1 a2:AV)(h:AH) (K:AV→AH→Prop):Prop:=
 onlyB (AV.one a0) (newO (.cells 68 (AV.cells a0).length [AV.cells a0] 0) h fun i0 h1=>
 okV (aLoad Tryz.prog h1 68 (.ptr i0 0 0 0)) fun v2=>
 callR Tryz.prog G 40 [v2] h1 (fun v3 h4=>
 okBool (some v3) fun b5=>
 condB (!b5)
 (RetR h K (.tup [(.v (.string (ByteArray.mk #[]))),(.v (.slice none 0 0)),(.v (.bool false)),(.v (.int .i64 70))]) h4)
 (okInt .i64 (some a2) fun n6=>
 condB (decide (n6<1))
 (RetR h K (.tup [(.v (.string (ByteArray.mk #[]))),(.v (.slice none 0 0)),(.v (.bool false)),(.v (.int .i64 1))]) h4)
 (Tryz.r72_l6_7 G h K a1 a2 i0 h4 0))))
theorem Tryz.c72(G:Nat→Option AV) (a0 a1 a2:AV)(h:AH) (K:AV→AH→Prop)(hk:LowH h.length h→Tryz.r72 G a0 a1 a2 h K):SCall Tryz.prog G 72 [a0,a1,a2] h K:=
 scall_of_rwp Tryz.tab72 [(6, [(10,(.int .i64))], [1,2,3]),(13, [(11, .any),(12,(.int .i64)),(13,(.int .i64))], [1,2,3])] Tryz.func72 rfl Tryz.ntmps72 (by kernel_rfl) (by show 3≤109;decide) (by kernel_rfl) (by kernel_rfl) hk
def Tryz.r73(G:Nat→Option AV) (a0 a1:AV)(h:AH) (K:AV→AH→Prop):Prop:=
 newO (.cells 131 3 [[(.v (.string (ByteArray.mk #[]))),(.v (.int .i64 0)),(.v (.string (ByteArray.mk #[])))]] 0) h fun i0 h1=>
 okStr (some a1) fun s2=>
 callR Tryz.prog G 122 [a0,(.v (.string s2))] h1 (fun v3 h4=>
 okInt .i64 (extV 0 v3) fun n5=>
 okBool (extV 1 v3) fun b6=>
 okV (aNil a0) fun v7=>
 okV (aFA Tryz.prog 149 0 v7) fun v8=>
 okV (aLoad Tryz.prog h4 47 v8) fun v9=>
 okV (aIA Tryz.prog h4 47 v9 (.v (.int .i64 n5))) fun v10=>
 okV (aLoad Tryz.prog h4 131 v10) fun v11=>
 newO (.cells 131 3 [[(.v (.string (ByteArray.mk #[]))),(.v (.int .i64 0)),(.v (.string (ByteArray.mk #[])))]] 0) h4 fun i12 h13=>
 storeR Tryz.prog h13 (fun v14 h15=>
 okV (aNil a0) fun v16=>
 okV (aFA Tryz.prog 149 0 v16) fun v17=>
 okV (aLoad Tryz.prog h15 47 v17) fun v18=>
 okV (aSlice Tryz.prog h15 47 v18 none (some (some (.v (.int .i64 n5)))) none) fun v19=>
 okV (aNil a0) fun v20=>
 okV (aFA Tryz.prog 149 0 v20) fun v21=>
 okV (aLoad Tryz.prog h15 47 v21) fun v22=>
 okV (aSlice Tryz.prog h15 47 v22 (some (some (.v (.int .i64 (IntKind.wrap .i64 (n5+1)))))) none none) fun v23=>
 newO (.cells 131 3 [] 0) h15 fun i24 h25=>
 (aSlice Tryz.prog h25 47 v22 (some (some (.v (.int .i64 (IntKind.wrap .i64 (n5+1)))))) none none=some v23)∧(aLoad Tryz.prog h25 47 v21=some v22)∧(aSlice Tryz.prog h25 47 v18 none (some (some (.v (.int .i64 n5)))) none=some v19)∧(aLoad Tryz.prog h25 47 v17=some v18)∧appR Tryz.prog h25 47 47 (.sl i24 0 0 0 none) v19 (fun v26 h27=>
 (aSlice Tryz.prog h27 47 v22 (some (some (.v (.int .i64 (IntKind.wrap .i64 (n5+1)))))) none none=some v23)∧(aLoad Tryz.prog h27 47 v21=some v22)∧appR Tryz.prog h27 47 47 v26 v23 (fun v28 h29=>
 okV (aNil a0) fun v30=>
 okV (aFA Tryz.prog 149 0 v30) fun v31=>
 storeR Tryz.prog h29 (fun v32 h33=>
 okV (aLoad Tryz.prog h33 131 (.ptr i12 0 0 0)) fun v34=>
 storeR Tryz.prog h33 (fun v35 h36=>
 okV (aLoad Tryz.prog h36 131 (.ptr i0 0 0 0)) fun v37=>
 RetR h K v37 h36) 131 v34 (.ptr i0 0 0 0)) 47 v28 v31))) 131 v11 (.ptr i12 0 0 0))
theorem Tryz.c73(G:Nat→Option AV) (a0 a1:AV)(h:AH) (K:AV→AH→Prop)(hk:LowH h.length h→Tryz.r73 G a0 a1 h K):SCall Tryz.prog G 73 [a0,a1] h K:=
 scall_of_rwp Tryz.tab73 [] Tryz.func73 rfl Tryz.ntmps73 (by kernel_rfl) (by show 2≤41;decide) (by kernel_rfl) (by kernel_rfl) hk
def Tryz.r74(G:Nat→Option AV) (a0 a1:AV)(h:AH) (K:AV→AH→Prop):Prop:=
 onlyB (AV.one a1) (newO (.cells 131 (AV.cells a1).length [AV.cells a1] 0) h fun i0 h1=>
 okV (aLoad Tryz.prog h1 131 (.ptr i0 0 0 0)) fun v2=>
 callR Tryz.prog G 123 [a0,v2] h1 (fun v3 h4=>
 RetR h K (.tup []) h4))
theorem Tryz.c74(G:Nat→Option AV) (a0 a1:AV)(h:AH) (K:AV→AH→Prop)(hk:LowH h.length h→Tryz.r74 G a0 a1 h K):SCall Tryz.prog G 74 [a0,a1] h K:=
 scall_of_rwp Tryz.tab74 [] Tryz.func74 rfl Tryz.ntmps74 (by kernel_rfl) (by show 2≤7;decide) (by kernel_rfl) (by kernel_rfl) hk
def Tryz.r75_l4_21(K:AV→AH→Prop)(h:AH) (i0:Nat) (i2:Nat)(h3:AH) (n34:Int):Prop:=
 ∃(I21:Nat→List AV→AH→Prop) (m22:Nat),I21 m22 [(.v (.int .i64 n34))] h3∧∀(m23:Nat) (h24:AH),h3.length≤h24.length→LowH h24.length h24→∀(n25:Int),I21 m23 [(.v (.int .i64 n25))] h24 →
 okV (aLoad Tryz.prog h24 31 (.ptr i0 0 0 1)) fun v26=>
 okInt .i64 (aLen Tryz.prog h24 31 v26) fun n27=>
 condB (decide (n25<n27))
 (okV (aLoad Tryz.prog h24 31 (.ptr i0 0 0 1)) fun v28=>
 okV (aIA Tryz.prog h24 31 v28 (.v (.int .i64 n25))) fun v29=>
 okInt .i64 (aLoad Tryz.prog h24 3 v29) fun n30=>
 okV (aLoad Tryz.prog h24 31 (.ptr i2 0 0 1)) fun v31=>
 okV (aIA Tryz.prog h24 31 v31 (.v (.int .i64 n25))) fun v32=>
 okInt .i64 (aLoad Tryz.prog h24 3 v32) fun n33=>
 condB (n30 != n33)
 (RetR h K (.v (.bool false)) h24)
 (nextR h3 I21 m23 [some (.ptr i0 0 0 0),some (.ptr i2 0 0 0)] [some (.ptr i0 0 0 0),some (.ptr i2 0 0 0)] [(.v (.int .i64 (IntKind.wrap .i64 (n25+1))))] h24))
 (RetR h K (.v (.bool true)) h24)
def Tryz.r75(a0 a1:AV)(h:AH) (K:AV→AH→Prop):Prop:=
 onlyB (AV.one a0) (newO (.cells 43 (AV.cells a0).length [AV.cells a0] 0) h fun i0 h1=>
 onlyB (AV.one a1) (newO (.cells 43 (AV.cells a1).length [AV.cells a1] 0) h1 fun i2 h3=>
 okInt .i64 (aLoad Tryz.prog h3 3 (.ptr i0 0 0 0)) fun n4=>
 okInt .i64 (aLoad Tryz.prog h3 3 (.ptr i2 0 0 0)) fun n5=>
 rGq (n4 != n5) false (some (.ptr i0 0 0 1)) fun b6 v7=>
 rGq b6 false (aLoad Tryz.prog h3 31 v7) fun b8 v9=>
 rGq b8 false (aLen Tryz.prog h3 31 v9) fun b10 v11=>
 rGq b10 false (some (.ptr i2 0 0 1)) fun b12 v13=>
 rGq b12 false (aLoad Tryz.prog h3 31 v13) fun b14 v15=>
 rGq b14 false (aLen Tryz.prog h3 31 v15) fun b16 v17=>
 rGq b16 false (aBin Tryz.prog .neq 3 v11 v17) fun b18 v19=>
 okBool (pickR (some (.v (.bool b18))) (some (.v (.bool true))) (some v19)) fun b20=>
 condB b20
 (RetR h K (.v (.bool false)) h3)
 (Tryz.r75_l4_21 K h i0 i2 h3 0)))
theorem Tryz.c75(G:Nat→Option AV) (a0 a1:AV)(h:AH) (K:AV→AH→Prop)(hk:LowH h.length h→Tryz.r75 a0 a1 h K):SCall Tryz.prog G 75 [a0,a1] h K:=
 scall_of_rwp Tryz.tab75 [(4, [(5,(.int .i64))], [2,3])] Tryz.func75 rfl Tryz.ntmps75 (by kernel_rfl) (by show 2≤38;decide) (by kernel_rfl) (by kernel_rfl) hk
def Tryz.r76_l2_1(K:AV→AH→Prop)(h:AH) (G:Nat→Option AV) (a0:AV) (a1:AV) (n0:Int) (n11:Int):Prop:=
 ∃(I1:Nat→List AV→AH→Prop) (m2:Nat),I1 m2 [(.v (.int .i64 n11))] h∧∀(m3:Nat) (h4:AH),h.length≤h4.length→LowH h4.length h4→∀(n5:Int),I1 m3 [(.v (.int .i64 n5))] h4 →
 condB (decide (n5<n0))
 (okV (aIA Tryz.prog h4 72 a0 (.v (.int .i64 n5))) fun v6=>
 okV (aLoad Tryz.prog h4 89 v6) fun v7=>
 callU Tryz.prog G h4 (fun v8 h9=>
 okBool (some v8) fun b10=>
 condB b10
 (RetR h K (.v (.int .i64 n5)) h9)
 (nextR h I1 m3 [some a0,some a1,some (.v (.int .i64 n0))] [some a0,some a1,some (.v (.int .i64 n0))] [(.v (.int .i64 (IntKind.wrap .i64 (n5+1))))] h9)) [v7] a1)
 (RetR h K (.v (.int .i64 (-1))) h4)
def Tryz.r76(G:Nat→Option AV) (a0 a1:AV)(h:AH) (K:AV→AH→Prop):Prop:=
 okInt .i64 (aLen Tryz.prog h 72 a0) fun n0=>
 Tryz.r76_l2_1 K h G a0 a1 n0 0
theorem Tryz.c76(G:Nat→Option AV) (a0 a1:AV)(h:AH) (K:AV→AH→Prop)(hk:LowH h.length h→Tryz.r76 G a0 a1 h K):SCall Tryz.prog G 76 [a0,a1] h K:=
 scall_of_rwp Tryz.tab76 [(2, [(8,(.int .i64))], [0,1,7])] Tryz.func76 rfl Tryz.ntmps76 (by kernel_rfl) (by show 2≤19;decide) (by kernel_rfl) (by kernel_rfl) hk
def Tryz.r77(G:Nat→Option AV) (a0:AV)(h:AH) (K:AV→AH→Prop):Prop:=
 onlyB (AV.one a0) (newO (.cells 89 (AV.cells a0).length [AV.cells a0] 0) h fun i0 h1=>
 okV (aLoad Tryz.prog h1 89 (.ptr i0 0 0 0)) fun v2=>
 callR Tryz.prog G 78 [v2] h1 (fun v3 h4=>
 okInt .i64 (some v3) fun n5=>
 rGq (n5 != 0) false (some (.ptr i0 0 0 0)) fun b6 v7=>
 rGq b6 false (aLoad Tryz.prog h4 3 v7) fun b8 v9=>
 rGq b8 false (aBin Tryz.prog .eql 3 v9 (.v (.int .i64 6))) fun b10 v11=>
 okBool (pickR (some (.v (.bool b10))) (some (.v (.bool true))) (some v11)) fun b12=>
 RetR h K (.v (.bool b12)) h4))
theorem Tryz.c77(G:Nat→Option AV) (a0:AV)(h:AH) (K:AV→AH→Prop)(hk:LowH h.length h→Tryz.r77 G a0 h K):SCall Tryz.prog G 77 [a0] h K:=
 scall_of_rwp Tryz.tab77 [] Tryz.func77 rfl Tryz.ntmps77 (by kernel_rfl) (by show 1≤11;decide) (by kernel_rfl) (by kernel_rfl) hk
def Tryz.r78_j28(K:AV→AH→Prop)(h:AH) (i18:Nat)(b26:Bool)(h27:AH):Prop:=
 rGq (!b26) false (aLoad Tryz.prog h27 89 (.ptr i18 0 0 0)) fun b28 v29=>
 rGq b28 false (some (.agg [(.v (.int .i64 0)),(.v (.string (ByteArray.mk #[]))),(.v (.string (ByteArray.mk #[]))),(.v (.int .i64 0)),(.v (.int .i64 0)),(.v (.int .i64 0))])) fun b30 v31=>
 rGq b30 false (aBin Tryz.prog .neq 89 v29 v31) fun b32 v33=>
 okBool (pickR (some (.v (.bool b32))) (some (.v (.bool true))) (some v33)) fun b34=>
 condB b34
 (RetR h K (.v (.int .i64 80)) h27)
 (RetR h K (.v (.int .i64 0)) h27)
def Tryz.r78_j67(K:AV→AH→Prop)(h:AH) (G:Nat→Option AV) (i0:Nat)(b16:Bool) (i18:Nat) (n35:Int)(b65:Bool)(h66:AH):Prop:=
 condB b65
 (storeR Tryz.prog h66 (fun v67 h68=>
 Tryz.r78_j28 K h i18 b16 h68) 3 (.v (.int .i64 0)) (.ptr i18 0 0 4))
 (condB (n35==6)
 (okStr (aLoad Tryz.prog h66 9 (.ptr i0 0 0 1)) fun s69=>
 rGq (decide (((ByteArray.size s69:Nat):Int)≤64)) true (some (.ptr i0 0 0 5)) fun b70 v71=>
 rGq b70 true (aLoad Tryz.prog h66 3 v71) fun b72 v73=>
 rGe b72 true (fun k74=>callR Tryz.prog G 126 [v73,(.v (.int .i64 1)),(.v (.int .i64 100))] h66 (fun v75 h76=>
 k74 v75 h76)) h66 fun b77 v78 h79=>
 okBool (pickR (some (.v (.bool b77))) (some v78) (some (.v (.bool false)))) fun b80=>
 storeR Tryz.prog h79 (fun v81 h82=>
 Tryz.r78_j28 K h i18 b80 h82) 3 (.v (.int .i64 0)) (.ptr i18 0 0 5))
 (RetR h K (.v (.int .i64 80)) h66))
def Tryz.r78_j38(G:Nat→Option AV)(h:AH) (K:AV→AH→Prop) (i0:Nat)(b16:Bool) (i18:Nat) (n35:Int)(b36:Bool)(h37:AH):Prop:=
 condB b36
 (rGq b16 true (some (.ptr i0 0 0 2)) fun b38 v39=>
 rGq b38 true (aLoad Tryz.prog h37 9 v39) fun b40 v41=>
 rGq b40 true (aLen Tryz.prog h37 9 v41) fun b42 v43=>
 rGq b42 true (aBin Tryz.prog .leq 3 v43 (.v (.int .i64 8192))) fun b44 v45=>
 okBool (pickR (some (.v (.bool b44))) (some v45) (some (.v (.bool false)))) fun b46=>
 rGq b46 true (some (.ptr i0 0 0 3)) fun b47 v48=>
 rGq b47 true (aLoad Tryz.prog h37 3 v48) fun b49 v50=>
 rGe b49 true (fun k51=>callR Tryz.prog G 126 [v50,(.v (.int .i64 1)),(.v (.int .i64 1099511627776))] h37 (fun v52 h53=>
 k51 v52 h53)) h37 fun b54 v55 h56=>
 okBool (pickR (some (.v (.bool b54))) (some v55) (some (.v (.bool false)))) fun b57=>
 storeR Tryz.prog h56 (fun v58 h59=>
 storeR Tryz.prog h59 (fun v60 h61=>
 okInt .i64 (aLoad Tryz.prog h61 3 (.ptr i0 0 0 0)) fun n62=>
 condB (n62 != 1)
 (storeR Tryz.prog h61 (fun v63 h64=>
 Tryz.r78_j28 K h i18 b57 h64) 3 (.v (.int .i64 0)) (.ptr i18 0 0 4))
 (Tryz.r78_j28 K h i18 b57 h61)) 3 (.v (.int .i64 0)) (.ptr i18 0 0 3)) 9 (.v (.string (ByteArray.mk #[]))) (.ptr i18 0 0 2))
 (condB (n35==4)
 (Tryz.r78_j67 K h G i0 b16 i18 n35 (n35==4) h37)
 (Tryz.r78_j67 K h G i0 b16 i18 n35 (n35==5) h37))
def Tryz.r78(G:Nat→Option AV) (a0:AV)(h:AH) (K:AV→AH→Prop):Prop:=
 onlyB (AV.one a0) (newO (.cells 89 (AV.cells a0).length [AV.cells a0] 0) h fun i0 h1=>
 okStr (aLoad Tryz.prog h1 9 (.ptr i0 0 0 1)) fun s2=>
 callR Tryz.prog G 125 [(.v (.string s2))] h1 (fun v3 h4=>
 okBool (some v3) fun b5=>
 rGq b5 true (some (.ptr i0 0 0 4)) fun b6 v7=>
 rGq b6 true (aLoad Tryz.prog h4 3 v7) fun b8 v9=>
 rGe b8 true (fun k10=>callR Tryz.prog G 126 [v9,(.v (.int .i64 0)),(.v (.int .i64 1099511627776))] h4 (fun v11 h12=>
 k10 v11 h12)) h4 fun b13 v14 h15=>
 okBool (pickR (some (.v (.bool b13))) (some v14) (some (.v (.bool false)))) fun b16=>
 okV (aLoad Tryz.prog h15 89 (.ptr i0 0 0 0)) fun v17=>
 newO (.cells 89 6 [[(.v (.int .i64 0)),(.v (.string (ByteArray.mk #[]))),(.v (.string (ByteArray.mk #[]))),(.v (.int .i64 0)),(.v (.int .i64 0)),(.v (.int .i64 0))]] 0) h15 fun i18 h19=>
 storeR Tryz.prog h19 (fun v20 h21=>
 storeR Tryz.prog h21 (fun v22 h23=>
 storeR Tryz.prog h23 (fun v24 h25=>
 okInt .i64 (aLoad Tryz.prog h25 3 (.ptr i0 0 0 0)) fun n35=>
 condB (n35==1)
 (Tryz.r78_j38 G h K i0 b16 i18 n35 (n35==1) h25)
 (condB (n35==2)
 (Tryz.r78_j38 G h K i0 b16 i18 n35 (n35==2) h25)
 (Tryz.r78_j38 G h K i0 b16 i18 n35 (n35==3) h25))) 3 (.v (.int .i64 0)) (.ptr i18 0 0 0)) 9 (.v (.string (ByteArray.mk #[]))) (.ptr i18 0 0 1)) 89 v17 (.ptr i18 0 0 0)))
theorem Tryz.c78(G:Nat→Option AV) (a0:AV)(h:AH) (K:AV→AH→Prop)(hk:LowH h.length h→Tryz.r78 G a0 h K):SCall Tryz.prog G 78 [a0] h K:=
 scall_of_rwp Tryz.tab78 [] Tryz.func78 rfl Tryz.ntmps78 (by kernel_rfl) (by show 1≤63;decide) (by kernel_rfl) (by kernel_rfl) hk
def Tryz.r79(a0 a1:AV)(h:AH) (K:AV→AH→Prop):Prop:=
 newO (.cells 80 2 [[(.v (.int .i64 0)),(.v (.int .i64 0))]] 0) h fun i0 h1=>
 okInt .i64 (some a0) fun n2=>
 okInt .i64 (some a1) fun n3=>
 storeR Tryz.prog h1 (fun v4 h5=>
 okV (aLoad Tryz.prog h5 80 (.ptr i0 0 0 0)) fun v6=>
 RetR h K v6 h5) 80 (.agg [(.v (.int .i64 n2)),(.v (.int .i64 n3))]) (.ptr i0 0 0 0)
theorem Tryz.c79(G:Nat→Option AV) (a0 a1:AV)(h:AH) (K:AV→AH→Prop)(hk:LowH h.length h→Tryz.r79 a0 a1 h K):SCall Tryz.prog G 79 [a0,a1] h K:=
 scall_of_rwp Tryz.tab79 [] Tryz.func79 rfl Tryz.ntmps79 (by kernel_rfl) (by show 2≤8;decide) (by kernel_rfl) (by kernel_rfl) hk
def Tryz.r80_j69(K:AV→AH→Prop)(h:AH) (G:Nat→Option AV) (i0:Nat) (n2:Int)(b67:Bool)(h68:AH):Prop:=
 condB b67
 (okStr (aLoad Tryz.prog h68 9 (.ptr i0 0 0 1)) fun s69=>
 callR Tryz.prog G 124 [(.v (.string s69))] h68 (fun v70 h71=>
 okBool (some v70) fun b72=>
 rGq b72 true (some (.ptr i0 0 0 4)) fun b73 v74=>
 rGq b73 true (aLoad Tryz.prog h71 3 v74) fun b75 v76=>
 rGe b75 true (fun k77=>callR Tryz.prog G 127 [v76,(.v (.int .i64 0)),(.v (.int .i64 1099511627776))] h71 (fun v78 h79=>
 k77 v78 h79)) h71 fun b80 v81 h82=>
 okBool (pickR (some (.v (.bool b80))) (some v81) (some (.v (.bool false)))) fun b83=>
 rGq b83 true (some (.ptr i0 0 0 2)) fun b84 v85=>
 rGq b84 true (aLoad Tryz.prog h82 9 v85) fun b86 v87=>
 rGq b86 true (aBin Tryz.prog .eql 9 v87 (.v (.string (ByteArray.mk #[])))) fun b88 v89=>
 okBool (pickR (some (.v (.bool b88))) (some v89) (some (.v (.bool false)))) fun b90=>
 rGq b90 true (some (.ptr i0 0 0 3)) fun b91 v92=>
 rGq b91 true (aLoad Tryz.prog h82 3 v92) fun b93 v94=>
 rGq b93 true (aBin Tryz.prog .eql 3 v94 (.v (.int .i64 0))) fun b95 v96=>
 okBool (pickR (some (.v (.bool b95))) (some v96) (some (.v (.bool false)))) fun b97=>
 rGq b97 true (some (.ptr i0 0 0 5)) fun b98 v99=>
 rGq b98 true (aLoad Tryz.prog h82 3 v99) fun b100 v101=>
 rGq b100 true (aBin Tryz.prog .eql 3 v101 (.v (.int .i64 0))) fun b102 v103=>
 okBool (pickR (some (.v (.bool b102))) (some v103) (some (.v (.bool false)))) fun b104=>
 RetR h K (.v (.bool b104)) h82))
 (condB (n2==6)
 (okStr (aLoad Tryz.prog h68 9 (.ptr i0 0 0 1)) fun s105=>
 rGq (decide (((ByteArray.size s105:Nat):Int)≤64)) true (some (.ptr i0 0 0 5)) fun b106 v107=>
 rGq b106 true (aLoad Tryz.prog h68 3 v107) fun b108 v109=>
 rGe b108 true (fun k110=>callR Tryz.prog G 127 [v109,(.v (.int .i64 1)),(.v (.int .i64 100))] h68 (fun v111 h112=>
 k110 v111 h112)) h68 fun b113 v114 h115=>
 okBool (pickR (some (.v (.bool b113))) (some v114) (some (.v (.bool false)))) fun b116=>
 rGq b116 true (some (.ptr i0 0 0 2)) fun b117 v118=>
 rGq b117 true (aLoad Tryz.prog h115 9 v118) fun b119 v120=>
 rGq b119 true (aBin Tryz.prog .eql 9 v120 (.v (.string (ByteArray.mk #[])))) fun b121 v122=>
 okBool (pickR (some (.v (.bool b121))) (some v122) (some (.v (.bool false)))) fun b123=>
 rGq b123 true (some (.ptr i0 0 0 3)) fun b124 v125=>
 rGq b124 true (aLoad Tryz.prog h115 3 v125) fun b126 v127=>
 rGq b126 true (aBin Tryz.prog .eql 3 v127 (.v (.int .i64 0))) fun b128 v129=>
 okBool (pickR (some (.v (.bool b128))) (some v129) (some (.v (.bool false)))) fun b130=>
 rGq b130 true (some (.ptr i0 0 0 4)) fun b131 v132=>
 rGq b131 true (aLoad Tryz.prog h115 3 v132) fun b133 v134=>
 rGq b133 true (aBin Tryz.prog .eql 3 v134 (.v (.int .i64 0))) fun b135 v136=>
 okBool (pickR (some (.v (.bool b135))) (some v136) (some (.v (.bool false)))) fun b137=>
 RetR h K (.v (.bool b137)) h115)
 (RetR h K (.v (.bool false)) h68))
def Tryz.r80_j5(G:Nat→Option AV)(h:AH) (K:AV→AH→Prop) (i0:Nat) (n2:Int)(b3:Bool)(h4:AH):Prop:=
 condB b3
 (okStr (aLoad Tryz.prog h4 9 (.ptr i0 0 0 1)) fun s5=>
 callR Tryz.prog G 124 [(.v (.string s5))] h4 (fun v6 h7=>
 okBool (some v6) fun b8=>
 rGq b8 true (some (.ptr i0 0 0 2)) fun b9 v10=>
 rGq b9 true (aLoad Tryz.prog h7 9 v10) fun b11 v12=>
 rGq b11 true (aLen Tryz.prog h7 9 v12) fun b13 v14=>
 rGq b13 true (aBin Tryz.prog .leq 3 v14 (.v (.int .i64 8192))) fun b15 v16=>
 okBool (pickR (some (.v (.bool b15))) (some v16) (some (.v (.bool false)))) fun b17=>
 rGq b17 true (some (.ptr i0 0 0 3)) fun b18 v19=>
 rGq b18 true (aLoad Tryz.prog h7 3 v19) fun b20 v21=>
 rGe b20 true (fun k22=>callR Tryz.prog G 127 [v21,(.v (.int .i64 1)),(.v (.int .i64 1099511627776))] h7 (fun v23 h24=>
 k22 v23 h24)) h7 fun b25 v26 h27=>
 okBool (pickR (some (.v (.bool b25))) (some v26) (some (.v (.bool false)))) fun b28=>
 rGq b28 true (some (.ptr i0 0 0 4)) fun b29 v30=>
 rGq b29 true (aLoad Tryz.prog h27 3 v30) fun b31 v32=>
 rGe b31 true (fun k33=>callR Tryz.prog G 127 [v32,(.v (.int .i64 0)),(.v (.int .i64 1099511627776))] h27 (fun v34 h35=>
 k33 v34 h35)) h27 fun b36 v37 h38=>
 okBool (pickR (some (.v (.bool b36))) (some v37) (some (.v (.bool false)))) fun b39=>
 rGq b39 true (some (.ptr i0 0 0 0)) fun b40 v41=>
 rGq b40 true (aLoad Tryz.prog h38 3 v41) fun b42 v43=>
 rGq b42 true (aBin Tryz.prog .eql 3 v43 (.v (.int .i64 1))) fun b44 v45=>
 rGq b44 true (some v45) fun b46 v47=>
 okG (some v47) true fun b48 g0=>
 rGq b48 true (some (.ptr i0 0 0 4)) fun b49 v50=>
 okG (some (g0 b49)) true fun c1 g2=>
 rGq c1 true (aLoad Tryz.prog h38 3 v50) fun b51 v52=>
 okG (some (g2 b51)) true fun c3 g4=>
 rGq c3 true (aBin Tryz.prog .neq 3 v52 (.v (.int .i64 0))) fun b53 v54=>
 rGq b46 true (pickR (some (g4 b53)) (some v54) (some (.v (.bool false)))) fun b55 v56=>
 rGq b55 true (aUn .not v56) fun b57 v58=>
 okBool (pickR (some (.v (.bool b57))) (some v58) (some (.v (.bool false)))) fun b59=>
 rGq b59 true (some (.ptr i0 0 0 5)) fun b60 v61=>
 rGq b60 true (aLoad Tryz.prog h38 3 v61) fun b62 v63=>
 rGq b62 true (aBin Tryz.prog .eql 3 v63 (.v (.int .i64 0))) fun b64 v65=>
 okBool (pickR (some (.v (.bool b64))) (some v65) (some (.v (.bool false)))) fun b66=>
 RetR h K (.v (.bool b66)) h38))
 (condB (n2==4)
 (Tryz.r80_j69 K h G i0 n2 (n2==4) h4)
 (Tryz.r80_j69 K h G i0 n2 (n2==5) h4))
def Tryz.r80(G:Nat→Option AV) (a0:AV)(h:AH) (K:AV→AH→Prop):Prop:=
 onlyB (AV.one a0) (newO (.cells 89 (AV.cells a0).length [AV.cells a0] 0) h fun i0 h1=>
 okInt .i64 (aLoad Tryz.prog h1 3 (.ptr i0 0 0 0)) fun n2=>
 condB (n2==1)
 (Tryz.r80_j5 G h K i0 n2 (n2==1) h1)
 (condB (n2==2)
 (Tryz.r80_j5 G h K i0 n2 (n2==2) h1)
 (Tryz.r80_j5 G h K i0 n2 (n2==3) h1)))
theorem Tryz.c80(G:Nat→Option AV) (a0:AV)(h:AH) (K:AV→AH→Prop)(hk:LowH h.length h→Tryz.r80 G a0 h K):SCall Tryz.prog G 80 [a0] h K:=
 scall_of_rwp Tryz.tab80 [] Tryz.func80 rfl Tryz.ntmps80 (by kernel_rfl) (by show 1≤96;decide) (by kernel_rfl) (by kernel_rfl) hk
def Tryz.r81_l14_50(K:AV→AH→Prop)(h:AH) (G:Nat→Option AV) (a0:AV) (a1:AV) (i0:Nat)(h18:AH) (v49:AV) (v85:AV) (n86:Int):Prop:=
 ∃(I50:Nat→List AV→AH→Prop) (m51:Nat),I50 m51 [v85,(.v (.int .i64 n86))] h18∧∀(m52:Nat) (h53:AH),h18.length≤h53.length→LowH h53.length h53→∀(v54:AV) (n55:Int),I50 m52 [v54,(.v (.int .i64 n55))] h53 →
 okInt .i64 (aLen Tryz.prog h53 72 a1) fun n56=>
 condB (decide (n55<n56))
 (okV (aIA Tryz.prog h53 72 a1 (.v (.int .i64 n55))) fun v57=>
 okV (aLoad Tryz.prog h53 89 v57) fun v58=>
 callR Tryz.prog G 128 [a0,v58] h53 (fun v59 h60=>
 newO (.cells 157 4 [[(.v (.int .i64 0)),(.v (.int .i64 0)),(.v (.string (ByteArray.mk #[]))),(.v (.slice none 0 0))]] 0) h60 fun i61 h62=>
 storeR Tryz.prog h62 (fun v63 h64=>
 okInt .i64 (aLoad Tryz.prog h64 24 (.ptr i61 0 0 0)) fun n65=>
 condB (n65 != 0)
 (okV (aNil a0) fun v66=>
 okV (aFA Tryz.prog 149 0 v66) fun v67=>
 storeR Tryz.prog h64 (fun v68 h69=>
 okInt .i64 (aLoad Tryz.prog h69 24 (.ptr i61 0 0 0)) fun n70=>
 callR Tryz.prog G 79 [(.v (.int .i64 n55)),(.v (.int .i64 n70))] h69 (fun v71 h72=>
 storeR Tryz.prog h72 (fun v73 h74=>
 okV (aLoad Tryz.prog h74 80 (.ptr i0 0 0 0)) fun v75=>
 RetR h K (.tup [(.v (.slice none 0 0)),v75]) h74) 80 v71 (.ptr i0 0 0 0))) 47 v49 v67)
 (okV (aLoad Tryz.prog h64 157 (.ptr i61 0 0 0)) fun v76=>
 okP (rowsFill 4 (List.replicate 1 [(.v (.int .i64 0)),(.v (.int .i64 0)),(.v (.string (ByteArray.mk #[]))),(.v (.slice none 0 0))]) [(0,some v76)]) fun r77=>newO (.cells 157 4 r77 0) h64 fun i78 h79=>
 appR Tryz.prog h79 78 78 v54 (.sl i78 0 0 1 none) (fun v80 h81=>
 nextR h18 I50 m52 [some a0,some a1,some (.ptr i0 0 0 0),some v49] [some a0,some a1,some (.ptr i0 0 0 0),some v49] [v80,(.v (.int .i64 (IntKind.wrap .i64 (n55+1))))] h81))) 157 v59 (.ptr i61 0 0 0)))
 (storeR Tryz.prog h53 (fun v82 h83=>
 okV (aLoad Tryz.prog h83 80 (.ptr i0 0 0 0)) fun v84=>
 RetR h K (.tup [v54,v84]) h83) 80 (.agg [(.v (.int .i64 0)),(.v (.int .i64 0))]) (.ptr i0 0 0 0))
def Tryz.r81_l4_15(G:Nat→Option AV)(h:AH) (K:AV→AH→Prop) (a0:AV) (a1:AV) (i0:Nat)(h1:AH) (n87:Int):Prop:=
 ∃(I15:Nat→List AV→AH→Prop) (m16:Nat),I15 m16 [(.v (.int .i64 n87))] h1∧∀(m17:Nat) (h18:AH),h1.length≤h18.length→LowH h18.length h18→∀(n19:Int),I15 m17 [(.v (.int .i64 n19))] h18 →
 okInt .i64 (aLen Tryz.prog h18 72 a1) fun n20=>
 condB (decide (n19<n20))
 (okV (aIA Tryz.prog h18 72 a1 (.v (.int .i64 n19))) fun v21=>
 okV (aLoad Tryz.prog h18 89 v21) fun v22=>
 callR Tryz.prog G 80 [v22] h18 (fun v23 h24=>
 okBool (some v23) fun b25=>
 condB (!b25)
 (callR Tryz.prog G 79 [(.v (.int .i64 n19)),(.v (.int .i64 80))] h24 (fun v26 h27=>
 storeR Tryz.prog h27 (fun v28 h29=>
 okV (aLoad Tryz.prog h29 80 (.ptr i0 0 0 0)) fun v30=>
 RetR h K (.tup [(.v (.slice none 0 0)),v30]) h29) 80 v26 (.ptr i0 0 0 0)))
 (nextR h1 I15 m17 [some a0,some a1,some (.ptr i0 0 0 0)] [some a0,some a1,some (.ptr i0 0 0 0)] [(.v (.int .i64 (IntKind.wrap .i64 (n19+1))))] h24)))
 (okInt .i64 (aLen Tryz.prog h18 72 a1) fun n31=>
 condB (n31==1)
 (okV (aIA Tryz.prog h18 72 a1 (.v (.int .i64 0))) fun v32=>
 okV (aLoad Tryz.prog h18 89 v32) fun v33=>
 callR Tryz.prog G 128 [a0,v33] h18 (fun v34 h35=>
 newO (.cells 157 4 [[(.v (.int .i64 0)),(.v (.int .i64 0)),(.v (.string (ByteArray.mk #[]))),(.v (.slice none 0 0))]] 0) h35 fun i36 h37=>
 storeR Tryz.prog h37 (fun v38 h39=>
 okV (aLoad Tryz.prog h39 157 (.ptr i36 0 0 0)) fun v40=>
 okP (rowsFill 4 (List.replicate 1 [(.v (.int .i64 0)),(.v (.int .i64 0)),(.v (.string (ByteArray.mk #[]))),(.v (.slice none 0 0))]) [(0,some v40)]) fun r41=>newO (.cells 157 4 r41 0) h39 fun i42 h43=>
 storeR Tryz.prog h43 (fun v44 h45=>
 okV (aLoad Tryz.prog h45 80 (.ptr i0 0 0 0)) fun v46=>
 RetR h K (.tup [(.sl i42 0 0 1 none),v46]) h45) 80 (.agg [(.v (.int .i64 0)),(.v (.int .i64 0))]) (.ptr i0 0 0 0)) 157 v34 (.ptr i36 0 0 0)))
 (okV (aNil a0) fun v47=>
 okV (aFA Tryz.prog 149 0 v47) fun v48=>
 okV (aLoad Tryz.prog h18 47 v48) fun v49=>
 Tryz.r81_l14_50 K h G a0 a1 i0 h18 v49 (.v (.slice none 0 0)) 0))
def Tryz.r81(G:Nat→Option AV) (a0 a1:AV)(h:AH) (K:AV→AH→Prop):Prop:=
 newO (.cells 80 2 [[(.v (.int .i64 0)),(.v (.int .i64 0))]] 0) h fun i0 h1=>
 okInt .i64 (aLen Tryz.prog h1 72 a1) fun n2=>
 rGq (decide (n2<1)) false (some a1) fun b3 v4=>
 rGq b3 false (aLen Tryz.prog h1 72 v4) fun b5 v6=>
 rGq b5 false (aBin Tryz.prog .gtr 3 v6 (.v (.int .i64 32))) fun b7 v8=>
 okBool (pickR (some (.v (.bool b7))) (some (.v (.bool true))) (some v8)) fun b9=>
 condB b9
 (callR Tryz.prog G 79 [(.v (.int .i64 0)),(.v (.int .i64 80))] h1 (fun v10 h11=>
 storeR Tryz.prog h11 (fun v12 h13=>
 okV (aLoad Tryz.prog h13 80 (.ptr i0 0 0 0)) fun v14=>
 RetR h K (.tup [(.v (.slice none 0 0)),v14]) h13) 80 v10 (.ptr i0 0 0 0)))
 (Tryz.r81_l4_15 G h K a0 a1 i0 h1 0)
theorem Tryz.c81(G:Nat→Option AV) (a0 a1:AV)(h:AH) (K:AV→AH→Prop)(hk:LowH h.length h→Tryz.r81 G a0 a1 h K):SCall Tryz.prog G 81 [a0,a1] h K:=
 scall_of_rwp Tryz.tab81 [(4, [(6,(.int .i64))], [0,1,5]),(14, [(9, .any),(10,(.int .i64))], [0,1,5,8])] Tryz.func81 rfl Tryz.ntmps81 (by kernel_rfl) (by show 2≤79;decide) (by kernel_rfl) (by kernel_rfl) hk
def Tryz.r82(G:Nat→Option AV) (a0:AV)(h:AH) (K:AV→AH→Prop):Prop:=
 onlyB (AV.one a0) (newO (.cells 43 (AV.cells a0).length [AV.cells a0] 0) h fun i0 h1=>
 okInt .i64 (aLoad Tryz.prog h1 3 (.ptr i0 0 0 0)) fun n2=>
 rGq (decide (n2≥1)) true (some (.ptr i0 0 0 0)) fun b3 v4=>
 rGq b3 true (aLoad Tryz.prog h1 3 v4) fun b5 v6=>
 rGq b5 true (aBin Tryz.prog .leq 3 v6 (.v (.int .i64 1073741824))) fun b7 v8=>
 okBool (pickR (some (.v (.bool b7))) (some v8) (some (.v (.bool false)))) fun b9=>
 rGq b9 true (some (.ptr i0 0 0 1)) fun b10 v11=>
 rGq b10 true (aLoad Tryz.prog h1 31 v11) fun b12 v13=>
 rGe b12 true (fun k14=>callR Tryz.prog G 109 [v13] h1 (fun v15 h16=>
 k14 v15 h16)) h1 fun b17 v18 h19=>
 okBool (pickR (some (.v (.bool b17))) (some v18) (some (.v (.bool false)))) fun b20=>
 RetR h K (.v (.bool b20)) h19)
theorem Tryz.c82(G:Nat→Option AV) (a0:AV)(h:AH) (K:AV→AH→Prop)(hk:LowH h.length h→Tryz.r82 G a0 h K):SCall Tryz.prog G 82 [a0] h K:=
 scall_of_rwp Tryz.tab82 [] Tryz.func82 rfl Tryz.ntmps82 (by kernel_rfl) (by show 1≤16;decide) (by kernel_rfl) (by kernel_rfl) hk
def Tryz.r83(G:Nat→Option AV) (a0 a1:AV)(h:AH) (K:AV→AH→Prop):Prop:=
 callR Tryz.prog G 129 [a0,a1] h (fun v0 h1=>
 okInt .i64 (some v0) fun n2=>
 RetR h K (.v (.bool (decide (n2≥0)))) h1)
theorem Tryz.c83(G:Nat→Option AV) (a0 a1:AV)(h:AH) (K:AV→AH→Prop)(hk:LowH h.length h→Tryz.r83 G a0 a1 h K):SCall Tryz.prog G 83 [a0,a1] h K:=
 scall_of_rwp Tryz.tab83 [] Tryz.func83 rfl Tryz.ntmps83 (by kernel_rfl) (by show 2≤9;decide) (by kernel_rfl) (by kernel_rfl) hk
def Tryz.r84(G:Nat→Option AV) (a0:AV)(h:AH) (K:AV→AH→Prop):Prop:=
 onlyB (AV.one a0) (newO (.cells 131 (AV.cells a0).length [AV.cells a0] 0) h fun i0 h1=>
 okV (aLoad Tryz.prog h1 131 (.ptr i0 0 0 0)) fun v2=>
 callR Tryz.prog G 85 [v2] h1 (fun v3 h4=>
 okBool (some v3) fun b5=>
 RetR h K (.v (.bool (!b5))) h4))
theorem Tryz.c84(G:Nat→Option AV) (a0:AV)(h:AH) (K:AV→AH→Prop)(hk:LowH h.length h→Tryz.r84 G a0 h K):SCall Tryz.prog G 84 [a0] h K:=
 scall_of_rwp Tryz.tab84 [] Tryz.func84 rfl Tryz.ntmps84 (by kernel_rfl) (by show 1≤6;decide) (by kernel_rfl) (by kernel_rfl) hk
def Tryz.r85(a0:AV)(h:AH) (K:AV→AH→Prop):Prop:=
 onlyB (AV.one a0) (newO (.cells 131 (AV.cells a0).length [AV.cells a0] 0) h fun i0 h1=>
 okStr (aLoad Tryz.prog h1 9 (.ptr i0 0 0 0)) fun s2=>
 rGq (!(ByteArray.toList s2==ByteArray.toList (ByteArray.mk #[]))) true (some (.ptr i0 0 0 0)) fun b3 v4=>
 rGq b3 true (aLoad Tryz.prog h1 9 v4) fun b5 v6=>
 rGq b5 true (aLen Tryz.prog h1 9 v6) fun b7 v8=>
 rGq b7 true (aBin Tryz.prog .leq 3 v8 (.v (.int .i64 64))) fun b9 v10=>
 okBool (pickR (some (.v (.bool b9))) (some v10) (some (.v (.bool false)))) fun b11=>
 rGq b11 true (some (.ptr i0 0 0 1)) fun b12 v13=>
 rGq b12 true (aLoad Tryz.prog h1 3 v13) fun b14 v15=>
 rGq b14 true (aBin Tryz.prog .geq 3 v15 (.v (.int .i64 1))) fun b16 v17=>
 okBool (pickR (some (.v (.bool b16))) (some v17) (some (.v (.bool false)))) fun b18=>
 rGq b18 true (some (.ptr i0 0 0 1)) fun b19 v20=>
 rGq b19 true (aLoad Tryz.prog h1 3 v20) fun b21 v22=>
 rGq b21 true (aBin Tryz.prog .leq 3 v22 (.v (.int .i64 1099511627776))) fun b23 v24=>
 okBool (pickR (some (.v (.bool b23))) (some v24) (some (.v (.bool false)))) fun b25=>
 rGq b25 true (some (.ptr i0 0 0 2)) fun b26 v27=>
 rGq b26 true (aLoad Tryz.prog h1 9 v27) fun b28 v29=>
 rGq b28 true (aLen Tryz.prog h1 9 v29) fun b30 v31=>
 rGq b30 true (aBin Tryz.prog .leq 3 v31 (.v (.int .i64 4096))) fun b32 v33=>
 okBool (pickR (some (.v (.bool b32))) (some v33) (some (.v (.bool false)))) fun b34=>
 RetR h K (.v (.bool b34)) h1)
theorem Tryz.c85(G:Nat→Option AV) (a0:AV)(h:AH) (K:AV→AH→Prop)(hk:LowH h.length h→Tryz.r85 a0 h K):SCall Tryz.prog G 85 [a0] h K:=
 scall_of_rwp Tryz.tab85 [] Tryz.func85 rfl Tryz.ntmps85 (by kernel_rfl) (by show 1≤28;decide) (by kernel_rfl) (by kernel_rfl) hk
def Tryz.r86_l2_1(K:AV→AH→Prop)(h:AH) (G:Nat→Option AV) (a0:AV) (a1:AV) (n13:Int):Prop:=
 ∃(I1:Nat→List AV→AH→Prop) (m2:Nat),I1 m2 [(.v (.int .i64 n13))] h∧∀(m3:Nat) (h4:AH),h.length≤h4.length→LowH h4.length h4→∀(n5:Int),I1 m3 [(.v (.int .i64 n5))] h4 →
 condB (decide (n5 > 0))
 (okV (aIA Tryz.prog h4 47 a0 (.v (.int .i64 n5))) fun v6=>
 okV (aLoad Tryz.prog h4 131 v6) fun v7=>
 okV (aIA Tryz.prog h4 47 a0 (.v (.int .i64 (IntKind.wrap .i64 (n5-1))))) fun v8=>
 okV (aLoad Tryz.prog h4 131 v8) fun v9=>
 callU Tryz.prog G h4 (fun v10 h11=>
 okInt .i64 (some v10) fun n12=>
 condB (decide (n12<0))
 (RetR h K (.v (.bool false)) h11)
 (nextR h I1 m3 [some a0,some a1] [some a0,some a1] [(.v (.int .i64 (IntKind.wrap .i64 (n5-1))))] h11)) [v7,v9] a1)
 (RetR h K (.v (.bool true)) h4)
def Tryz.r86(G:Nat→Option AV) (a0 a1:AV)(h:AH) (K:AV→AH→Prop):Prop:=
 okInt .i64 (aLen Tryz.prog h 47 a0) fun n0=>
 Tryz.r86_l2_1 K h G a0 a1 (IntKind.wrap .i64 (n0-1))
theorem Tryz.c86(G:Nat→Option AV) (a0 a1:AV)(h:AH) (K:AV→AH→Prop)(hk:LowH h.length h→Tryz.r86 G a0 a1 h K):SCall Tryz.prog G 86 [a0,a1] h K:=
 scall_of_rwp Tryz.tab86 [(2, [(5,(.int .i64))], [0,1])] Tryz.func86 rfl Tryz.ntmps86 (by kernel_rfl) (by show 2≤25;decide) (by kernel_rfl) (by kernel_rfl) hk
def Tryz.r87(G:Nat→Option AV) (a0 a1:AV)(h:AH) (K:AV→AH→Prop):Prop:=
 onlyB (AV.one a0) (newO (.cells 131 (AV.cells a0).length [AV.cells a0] 0) h fun i0 h1=>
 onlyB (AV.one a1) (newO (.cells 131 (AV.cells a1).length [AV.cells a1] 0) h1 fun i2 h3=>
 okStr (aLoad Tryz.prog h3 9 (.ptr i0 0 0 0)) fun s4=>
 okStr (aLoad Tryz.prog h3 9 (.ptr i2 0 0 0)) fun s5=>
 callR Tryz.prog G 66 [(.v (.string s4)),(.v (.string s5))] h3 (fun v6 h7=>
 okInt .i64 (some v6) fun n8=>
 newO (.cells 3 1 [[(.v (.int .i64 n8))], [(.v (.int .i64 (-1)))]] 0) h7 fun i9 h10=>
 callR Tryz.prog G 88 [(.sl i9 0 0 2 none)] h10 (fun v11 h12=>
 okInt .i64 (some v11) fun n13=>
 RetR h K (.v (.int .i64 n13)) h12))))
theorem Tryz.c87(G:Nat→Option AV) (a0 a1:AV)(h:AH) (K:AV→AH→Prop)(hk:LowH h.length h→Tryz.r87 G a0 a1 h K):SCall Tryz.prog G 87 [a0,a1] h K:=
 scall_of_rwp Tryz.tab87 [] Tryz.func87 rfl Tryz.ntmps87 (by kernel_rfl) (by show 2≤12;decide) (by kernel_rfl) (by kernel_rfl) hk
def Tryz.r88_l3_1(K:AV→AH→Prop)(h:AH) (a0:AV) (n0:Int) (n8:Int):Prop:=
 ∃(I1:Nat→List AV→AH→Prop) (m2:Nat),I1 m2 [(.v (.int .i64 n8))] h∧∀(m3:Nat) (h4:AH),h.length≤h4.length→LowH h4.length h4→∀(n5:Int),I1 m3 [(.v (.int .i64 n5))] h4 →
 condB (decide (n5<n0))
 (okV (aIA Tryz.prog h4 31 a0 (.v (.int .i64 n5))) fun v6=>
 okInt .i64 (aLoad Tryz.prog h4 3 v6) fun n7=>
 condB (n7 != 0)
 (RetR h K (.v (.int .i64 n7)) h4)
 (nextR h I1 m3 [some (.v (.int .i64 0)),some a0,some (.v (.int .i64 n0))] [some (.v (.int .i64 0)),some a0,some (.v (.int .i64 n0))] [(.v (.int .i64 (IntKind.wrap .i64 (n5+1))))] h4))
 (RetR h K (.v (.int .i64 0)) h4)
def Tryz.r88(a0:AV)(h:AH) (K:AV→AH→Prop):Prop:=
 okInt .i64 (aLen Tryz.prog h 31 a0) fun n0=>
 Tryz.r88_l3_1 K h a0 n0 0
theorem Tryz.c88(G:Nat→Option AV) (a0:AV)(h:AH) (K:AV→AH→Prop)(hk:LowH h.length h→Tryz.r88 a0 h K):SCall Tryz.prog G 88 [a0] h K:=
 scall_of_rwp Tryz.tab88 [(3, [(8,(.int .i64))], [3,6,7])] Tryz.func88 rfl Tryz.ntmps88 (by kernel_rfl) (by show 1≤18;decide) (by kernel_rfl) (by kernel_rfl) hk
def Tryz.r89(G:Nat→Option AV) (a0 a1:AV)(h:AH) (K:AV→AH→Prop):Prop:=
 okV (aNil a0) fun v0=>
 okV (aFA Tryz.prog 160 0 v0) fun v1=>
 okV (aLoad Tryz.prog h 47 v1) fun v2=>
 okStr (some a1) fun s3=>
 callR Tryz.prog G 130 [v2,(.v (.string s3)),(.fn (.func 131) [] [])] h (fun v4 h5=>
 okInt .i64 (extV 0 v4) fun n6=>
 okBool (extV 1 v4) fun b7=>
 RetR h K (.tup [(.v (.int .i64 n6)),(.v (.bool b7))]) h5)
theorem Tryz.c89(G:Nat→Option AV) (a0 a1:AV)(h:AH) (K:AV→AH→Prop)(hk:LowH h.length h→Tryz.r89 G a0 a1 h K):SCall Tryz.prog G 89 [a0,a1] h K:=
 scall_of_rwp Tryz.tab89 [] Tryz.func89 rfl Tryz.ntmps89 (by kernel_rfl) (by show 2≤14;decide) (by kernel_rfl) (by kernel_rfl) hk
def Tryz.r90(G:Nat→Option AV) (a0:AV)(h:AH) (K:AV→AH→Prop):Prop:=
 onlyB (AV.one a0) (newO (.cells 89 (AV.cells a0).length [AV.cells a0] 0) h fun i0 h1=>
 okV (aLoad Tryz.prog h1 89 (.ptr i0 0 0 0)) fun v2=>
 callR Tryz.prog G 78 [v2] h1 (fun v3 h4=>
 okInt .i64 (some v3) fun n5=>
 RetR h K (.v (.bool (n5 != 0))) h4))
theorem Tryz.c90(G:Nat→Option AV) (a0:AV)(h:AH) (K:AV→AH→Prop)(hk:LowH h.length h→Tryz.r90 G a0 h K):SCall Tryz.prog G 90 [a0] h K:=
 scall_of_rwp Tryz.tab90 [] Tryz.func90 rfl Tryz.ntmps90 (by kernel_rfl) (by show 1≤6;decide) (by kernel_rfl) (by kernel_rfl) hk
def Tryz.r91(a0:AV)(h:AH) (K:AV→AH→Prop):Prop:=
 okV (aNil a0) fun v0=>
 okV (aFA Tryz.prog 160 0 v0) fun v1=>
 okV (aLoad Tryz.prog h 47 v1) fun v2=>
 okV (aNil a0) fun v3=>
 okV (aFA Tryz.prog 160 0 v3) fun v4=>
 okV (aLoad Tryz.prog h 47 v4) fun v5=>
 okInt .i64 (aLen Tryz.prog h 47 v5) fun n6=>
 okV (aNil a0) fun v7=>
 okV (aFA Tryz.prog 160 0 v7) fun v8=>
 okV (aLoad Tryz.prog h 47 v8) fun v9=>
 okInt .i64 (aLen Tryz.prog h 47 v9) fun n10=>
 okV (aSlice Tryz.prog h 47 v2 none (some (some (.v (.int .i64 n6)))) (some (some (.v (.int .i64 n10))))) fun v11=>
 okV (aBuild Tryz.prog 160 [(0,some v11)]) fun v12=>
 onlyB (AV.one v12) (newO (.cells 160 (AV.cells v12).length [AV.cells v12] 0) h fun i13 h14=>
 RetR h K (.ptr i13 0 0 0) h14)
theorem Tryz.c91(G:Nat→Option AV) (a0:AV)(h:AH) (K:AV→AH→Prop)(hk:LowH h.length h→Tryz.r91 a0 h K):SCall Tryz.prog G 91 [a0] h K:=
 scall_of_rwp Tryz.tab91 [] Tryz.func91 rfl Tryz.ntmps91 (by kernel_rfl) (by show 1≤20;decide) (by kernel_rfl) (by kernel_rfl) hk
def Tryz.r92_j10(K:AV→AH→Prop)(h:AH) (G:Nat→Option AV) (a0:AV) (i0:Nat) (i2:Nat) (n7:Int)(b8:Bool)(h9:AH):Prop:=
 condB (!b8)
 (callR Tryz.prog G 133 [(.v (.int .i64 91)),(.v (.int .i64 0))] h9 (fun v10 h11=>
 storeR Tryz.prog h11 (fun v12 h13=>
 okV (aLoad Tryz.prog h13 157 (.ptr i2 0 0 0)) fun v14=>
 RetR h K v14 h13) 157 v10 (.ptr i2 0 0 0)))
 (okV (aNil a0) fun v15=>
 okV (aFA Tryz.prog 160 0 v15) fun v16=>
 okV (aLoad Tryz.prog h9 47 v16) fun v17=>
 okV (aIA Tryz.prog h9 47 v17 (.v (.int .i64 n7))) fun v18=>
 okV (aLoad Tryz.prog h9 131 v18) fun v19=>
 newO (.cells 131 3 [[(.v (.string (ByteArray.mk #[]))),(.v (.int .i64 0)),(.v (.string (ByteArray.mk #[])))]] 0) h9 fun i20 h21=>
 storeR Tryz.prog h21 (fun v22 h23=>
 okInt .i64 (aLoad Tryz.prog h23 3 (.ptr i0 0 0 4)) fun n24=>
 rGq (n24 != 0) true (some (.ptr i0 0 0 4)) fun b25 v26=>
 rGq b25 true (aLoad Tryz.prog h23 3 v26) fun b27 v28=>
 rGq b27 true (some (.ptr i20 0 0 1)) fun b29 v30=>
 rGq b29 true (aLoad Tryz.prog h23 3 v30) fun b31 v32=>
 rGq b31 true (aBin Tryz.prog .neq 3 v28 v32) fun b33 v34=>
 okBool (pickR (some (.v (.bool b33))) (some v34) (some (.v (.bool false)))) fun b35=>
 condB b35
 (okInt .i64 (aLoad Tryz.prog h23 3 (.ptr i20 0 0 1)) fun n36=>
 callR Tryz.prog G 133 [(.v (.int .i64 92)),(.v (.int .i64 n36))] h23 (fun v37 h38=>
 storeR Tryz.prog h38 (fun v39 h40=>
 okV (aLoad Tryz.prog h40 157 (.ptr i2 0 0 0)) fun v41=>
 RetR h K v41 h40) 157 v37 (.ptr i2 0 0 0)))
 (okInt .i64 (aLoad Tryz.prog h23 3 (.ptr i0 0 0 0)) fun n42=>
 condB (n42==5)
 (okInt .i64 (aLoad Tryz.prog h23 3 (.ptr i20 0 0 1)) fun n43=>
 okStr (aLoad Tryz.prog h23 9 (.ptr i20 0 0 2)) fun s44=>
 storeR Tryz.prog h23 (fun v45 h46=>
 okV (aLoad Tryz.prog h46 157 (.ptr i2 0 0 0)) fun v47=>
 RetR h K v47 h46) 157 (.agg [(.v (.int .i64 0)),(.v (.int .i64 n43)),(.v (.string s44)),(.v (.slice none 0 0))]) (.ptr i2 0 0 0))
 (callR Tryz.prog G 134 [a0,(.v (.int .i64 n7)),(.v (.int .i64 (IntKind.wrap .i64 (n7+1)))),(.v (.slice none 0 0))] h23 (fun v48 h49=>
 okInt .i64 (aLoad Tryz.prog h49 3 (.ptr i20 0 0 1)) fun n50=>
 storeR Tryz.prog h49 (fun v51 h52=>
 okV (aLoad Tryz.prog h52 157 (.ptr i2 0 0 0)) fun v53=>
 RetR h K v53 h52) 157 (.agg [(.v (.int .i64 0)),(.v (.int .i64 n50)),(.v (.string (ByteArray.mk #[]))),(.v (.slice none 0 0))]) (.ptr i2 0 0 0))))) 131 v19 (.ptr i20 0 0 0))
def Tryz.r92(G:Nat→Option AV) (a0 a1:AV)(h:AH) (K:AV→AH→Prop):Prop:=
 onlyB (AV.one a1) (newO (.cells 89 (AV.cells a1).length [AV.cells a1] 0) h fun i0 h1=>
 newO (.cells 157 4 [[(.v (.int .i64 0)),(.v (.int .i64 0)),(.v (.string (ByteArray.mk #[]))),(.v (.slice none 0 0))]] 0) h1 fun i2 h3=>
 okStr (aLoad Tryz.prog h3 9 (.ptr i0 0 0 1)) fun s4=>
 callR Tryz.prog G 89 [a0,(.v (.string s4))] h3 (fun v5 h6=>
 okInt .i64 (extV 0 v5) fun n7=>
 okBool (extV 1 v5) fun b8=>
 okInt .i64 (aLoad Tryz.prog h6 3 (.ptr i0 0 0 0)) fun n54=>
 condB (n54==6)
 (okV (aNil a0) fun v55=>
 okV (aFA Tryz.prog 160 0 v55) fun v56=>
 okV (aLoad Tryz.prog h6 47 v56) fun v57=>
 okInt .i64 (aLoad Tryz.prog h6 3 (.ptr i0 0 0 5)) fun n58=>
 okV (aNil a0) fun v59=>
 okV (aFA Tryz.prog 160 0 v59) fun v60=>
 okV (aLoad Tryz.prog h6 47 v60) fun v61=>
 okInt .i64 (aLen Tryz.prog h6 47 v61) fun n62=>
 okInt .i64 (aMinMax false [some (.v (.int .i64 n58)),some (.v (.int .i64 (IntKind.wrap .i64 (n62-n7))))]) fun n63=>
 okV (aSlice Tryz.prog h6 47 v57 (some (some (.v (.int .i64 n7)))) (some (some (.v (.int .i64 (IntKind.wrap .i64 (n7+n63)))))) none) fun v64=>
 callR Tryz.prog G 94 [v64] h6 (fun v65 h66=>
 okV (aBuild Tryz.prog 157 [(3,some v65)]) fun v67=>
 storeR Tryz.prog h66 (fun v68 h69=>
 okV (aLoad Tryz.prog h69 157 (.ptr i2 0 0 0)) fun v70=>
 RetR h K v70 h69) 157 v67 (.ptr i2 0 0 0)))
 (condB (n54==4)
 (condB (n54==4)
 (Tryz.r92_j10 K h G a0 i0 i2 n7 b8 h6)
 (okV (aLoad Tryz.prog h6 89 (.ptr i0 0 0 0)) fun v71=>
 callR Tryz.prog G 132 [a0,v71] h6 (fun v72 h73=>
 storeR Tryz.prog h73 (fun v74 h75=>
 okV (aLoad Tryz.prog h75 157 (.ptr i2 0 0 0)) fun v76=>
 RetR h K v76 h75) 157 v72 (.ptr i2 0 0 0))))
 (condB (n54==5)
 (Tryz.r92_j10 K h G a0 i0 i2 n7 b8 h6)
 (okV (aLoad Tryz.prog h6 89 (.ptr i0 0 0 0)) fun v77=>
 callR Tryz.prog G 132 [a0,v77] h6 (fun v78 h79=>
 storeR Tryz.prog h79 (fun v80 h81=>
 okV (aLoad Tryz.prog h81 157 (.ptr i2 0 0 0)) fun v82=>
 RetR h K v82 h81) 157 v78 (.ptr i2 0 0 0)))))))
theorem Tryz.c92(G:Nat→Option AV) (a0 a1:AV)(h:AH) (K:AV→AH→Prop)(hk:LowH h.length h→Tryz.r92 G a0 a1 h K):SCall Tryz.prog G 92 [a0,a1] h K:=
 scall_of_rwp Tryz.tab92 [] Tryz.func92 rfl Tryz.ntmps92 (by kernel_rfl) (by show 2≤84;decide) (by kernel_rfl) (by kernel_rfl) hk
def Tryz.r93(G:Nat→Option AV) (a0 a1:AV)(h:AH) (K:AV→AH→Prop):Prop:=
 onlyB (AV.one a1) (newO (.cells 96 (AV.cells a1).length [AV.cells a1] 0) h fun i0 h1=>
 okStr (aLoad Tryz.prog h1 9 (.ptr i0 0 0 0)) fun s2=>
 callR Tryz.prog G 89 [a0,(.v (.string s2))] h1 (fun v3 h4=>
 okInt .i64 (extV 0 v3) fun n5=>
 okBool (extV 1 v3) fun b6=>
 okV (aNil a0) fun v7=>
 okV (aFA Tryz.prog 160 0 v7) fun v8=>
 okV (aLoad Tryz.prog h4 47 v8) fun v9=>
 okInt .i64 (aLen Tryz.prog h4 47 v9) fun n10=>
 okStr (aLoad Tryz.prog h4 9 (.ptr i0 0 0 1)) fun s11=>
 condB (!(ByteArray.toList s11==ByteArray.toList (ByteArray.mk #[])))
 (okStr (aLoad Tryz.prog h4 9 (.ptr i0 0 0 1)) fun s12=>
 callR Tryz.prog G 89 [a0,(.v (.string s12))] h4 (fun v13 h14=>
 okInt .i64 (extV 0 v13) fun n15=>
 okBool (extV 1 v13) fun b16=>
 okInt .i64 (aMinMax true [some (.v (.int .i64 n5)),some (.v (.int .i64 n15))]) fun n17=>
 RetR h K (.tup [(.v (.int .i64 n5)),(.v (.int .i64 n17))]) h14))
 (okInt .i64 (aMinMax true [some (.v (.int .i64 n5)),some (.v (.int .i64 n10))]) fun n18=>
 RetR h K (.tup [(.v (.int .i64 n5)),(.v (.int .i64 n18))]) h4)))
theorem Tryz.c93(G:Nat→Option AV) (a0 a1:AV)(h:AH) (K:AV→AH→Prop)(hk:LowH h.length h→Tryz.r93 G a0 a1 h K):SCall Tryz.prog G 93 [a0,a1] h K:=
 scall_of_rwp Tryz.tab93 [] Tryz.func93 rfl Tryz.ntmps93 (by kernel_rfl) (by show 2≤32;decide) (by kernel_rfl) (by kernel_rfl) hk
def Tryz.r94(a0:AV)(h:AH) (K:AV→AH→Prop):Prop:=
 binR Tryz.prog h (fun v0 h1=>
 okBool (some v0) fun b2=>
 condB b2
 (RetR h K (.v (.slice none 0 0)) h1)
 (newO (.cells 131 3 [] 0) h1 fun i3 h4=>
 appR Tryz.prog h4 47 47 (.sl i3 0 0 0 none) a0 (fun v5 h6=>
 RetR h K v5 h6))) .eql 47 a0 (.v (.slice none 0 0))
theorem Tryz.c94(G:Nat→Option AV) (a0:AV)(h:AH) (K:AV→AH→Prop)(hk:LowH h.length h→Tryz.r94 a0 h K):SCall Tryz.prog G 94 [a0] h K:=
 scall_of_rwp Tryz.tab94 [] Tryz.func94 rfl Tryz.ntmps94 (by kernel_rfl) (by show 1≤8;decide) (by kernel_rfl) (by kernel_rfl) hk
def Tryz.r107_l9_12(G:Nat→Option AV) (a0:AV)(h1:AH) (n3:Int) (I4:Nat→List AV→AH→Prop) (m6:Nat)(h7:AH) (n9:Int) (n11:Int) (v33:AV) (n34:Int):Prop:=
 ∃(I12:Nat→List AV→AH→Prop) (m13:Nat),I12 m13 [v33,(.v (.int .i64 n34))] h7∧∀(m14:Nat) (h15:AH),h7.length≤h15.length→LowH h15.length h15→∀(v16:AV) (n17:Int),I12 m14 [v16,(.v (.int .i64 n17))] h15 →
 condB (decide (n17<n11))
 (callR Tryz.prog G 148 [(.v (.int .i64 n9))] h15 (fun v18 h19=>
 okStr (some v18) fun s20=>
 okStr (aBin Tryz.prog .add 9 (.v (.string s20)) (.v (.string (ByteArray.mk #[46])))) fun s21=>
 callR Tryz.prog G 148 [(.v (.int .i64 n17))] h19 (fun v22 h23=>
 okStr (some v22) fun s24=>
 okStr (aBin Tryz.prog .add 9 (.v (.string s21)) (.v (.string s24))) fun s25=>
 callR Tryz.prog G 147 [(.v (.string s25))] h23 (fun v26 h27=>
 okInt .u64 (some v26) fun n28=>
 newO (.cells 220 3 [[(.v (.int .u64 n28)),(.v (.int .i64 n9)),(.v (.int .i64 n17))]] 0) h27 fun i29 h30=>
 appR Tryz.prog h30 182 182 v16 (.sl i29 0 0 1 none) (fun v31 h32=>
 nextR h7 I12 m14 [some (.v (.int .i64 n9)),some a0,some (.v (.int .i64 n3)),some (.v (.int .i64 n9)),some (.v (.int .i64 n11))] [some (.v (.int .i64 n9)),some a0,some (.v (.int .i64 n3)),some (.v (.int .i64 n9)),some (.v (.int .i64 n11))] [v31,(.v (.int .i64 (IntKind.wrap .i64 (n17+1))))] h32)))))
 (nextR h1 I4 m6 [some a0,some (.v (.int .i64 n3))] [some a0,some (.v (.int .i64 n3))] [v16,(.v (.int .i64 (IntKind.wrap .i64 (n9+1))))] h15)
def Tryz.r107_l6_4(K:AV→AH→Prop)(h:AH) (G:Nat→Option AV) (a0:AV)(h1:AH) (n3:Int) (v37:AV) (n38:Int):Prop:=
 ∃(I4:Nat→List AV→AH→Prop) (m5:Nat),I4 m5 [v37,(.v (.int .i64 n38))] h1∧∀(m6:Nat) (h7:AH),h1.length≤h7.length→LowH h7.length h7→∀(v8:AV) (n9:Int),I4 m6 [v8,(.v (.int .i64 n9))] h7 →
 condB (decide (n9<n3))
 (okV (aIA Tryz.prog h7 31 a0 (.v (.int .i64 n9))) fun v10=>
 okInt .i64 (aLoad Tryz.prog h7 3 v10) fun n11=>
 Tryz.r107_l9_12 G a0 h1 n3 I4 m6 h7 n9 n11 v8 0)
 (callR Tryz.prog G 149 [v8,(.fn (.func 150) [] [])] h7 (fun v35 h36=>
 RetR h K (.tup [v8,(.v (.int .i64 0))]) h36))
def Tryz.r107(G:Nat→Option AV) (a0:AV)(h:AH) (K:AV→AH→Prop):Prop:=
 callR Tryz.prog G 146 [a0] h (fun v0 h1=>
 okInt .i64 (some v0) fun n2=>
 condB (n2 != 0)
 (RetR h K (.tup [(.v (.slice none 0 0)),(.v (.int .i64 n2))]) h1)
 (okInt .i64 (aLen Tryz.prog h1 31 a0) fun n3=>
 Tryz.r107_l6_4 K h G a0 h1 n3 (.v (.slice none 0 0)) 0))
theorem Tryz.c107(G:Nat→Option AV) (a0:AV)(h:AH) (K:AV→AH→Prop)(hk:LowH h.length h→Tryz.r107 G a0 h K):SCall Tryz.prog G 107 [a0] h K:=
 scall_of_rwp Tryz.tab107 [(6, [(5, .any),(17,(.int .i64))], [15,16]),(9, [(5, .any),(23,(.int .i64))], [6,15,16,17,22])] Tryz.func107 rfl Tryz.ntmps107 (by kernel_rfl) (by show 1≤46;decide) (by kernel_rfl) (by kernel_rfl) hk
def Tryz.r108(G:Nat→Option AV) (a0 a1:AV)(h:AH) (K:AV→AH→Prop):Prop:=
 okStr (some a1) fun s0=>
 callR Tryz.prog G 147 [(.v (.string s0))] h (fun v1 h2=>
 okInt .u64 (some v1) fun n3=>
 callR Tryz.prog G 151 [a0,(.v (.int .u64 n3)),(.fn (.func 152) [] [])] h2 (fun v4 h5=>
 okInt .i64 (extV 0 v4) fun n6=>
 okBool (extV 1 v4) fun b7=>
 okInt .i64 (aLen Tryz.prog h5 182 a0) fun n8=>
 okInt .i64 (aBin Tryz.prog .rem 3 (.v (.int .i64 n6)) (.v (.int .i64 n8))) fun n9=>
 okV (aIA Tryz.prog h5 182 a0 (.v (.int .i64 n9))) fun v10=>
 okV (aFA Tryz.prog 220 1 v10) fun v11=>
 okInt .i64 (aLoad Tryz.prog h5 3 v11) fun n12=>
 RetR h K (.v (.int .i64 n12)) h5))
theorem Tryz.c108(G:Nat→Option AV) (a0 a1:AV)(h:AH) (K:AV→AH→Prop)(hk:LowH h.length h→Tryz.r108 G a0 a1 h K):SCall Tryz.prog G 108 [a0,a1] h K:=
 scall_of_rwp Tryz.tab108 [] Tryz.func108 rfl Tryz.ntmps108 (by kernel_rfl) (by show 2≤24;decide) (by kernel_rfl) (by kernel_rfl) hk
def Tryz.r109_l5_8(K:AV→AH→Prop)(h:AH) (a0:AV)(b39:Bool) (n40:Int):Prop:=
 ∃(I8:Nat→List AV→AH→Prop) (m9:Nat),I8 m9 [(.v (.bool b39)),(.v (.int .i64 n40))] h∧∀(m10:Nat) (h11:AH),h.length≤h11.length→LowH h11.length h11→∀(b12:Bool) (n13:Int),I8 m10 [(.v (.bool b12)),(.v (.int .i64 n13))] h11 →
 okInt .i64 (aLen Tryz.prog h11 31 a0) fun n14=>
 condB (decide (n13<n14))
 (okV (aIA Tryz.prog h11 31 a0 (.v (.int .i64 n13))) fun v15=>
 okInt .i64 (aLoad Tryz.prog h11 3 v15) fun n16=>
 rGq (decide (n16<0)) false (some a0) fun b17 v18=>
 rGq b17 false (some (.v (.int .i64 n13))) fun b19 v20=>
 rGq b19 false (aIA Tryz.prog h11 31 v18 v20) fun b21 v22=>
 rGq b21 false (aLoad Tryz.prog h11 3 v22) fun b23 v24=>
 rGq b23 false (aBin Tryz.prog .gtr 3 v24 (.v (.int .i64 128))) fun b25 v26=>
 okBool (pickR (some (.v (.bool b25))) (some (.v (.bool true))) (some v26)) fun b27=>
 condB b27
 (RetR h K (.v (.bool false)) h11)
 (rGq b12 false (some a0) fun b28 v29=>
 rGq b28 false (some (.v (.int .i64 n13))) fun b30 v31=>
 rGq b30 false (aIA Tryz.prog h11 31 v29 v31) fun b32 v33=>
 rGq b32 false (aLoad Tryz.prog h11 3 v33) fun b34 v35=>
 rGq b34 false (aBin Tryz.prog .gtr 3 v35 (.v (.int .i64 0))) fun b36 v37=>
 okBool (pickR (some (.v (.bool b36))) (some (.v (.bool true))) (some v37)) fun b38=>
 nextR h I8 m10 [some a0] [some a0] [(.v (.bool b38)),(.v (.int .i64 (IntKind.wrap .i64 (n13+1))))] h11))
 (RetR h K (.v (.bool b12)) h11)
def Tryz.r109(a0:AV)(h:AH) (K:AV→AH→Prop):Prop:=
 okInt .i64 (aLen Tryz.prog h 31 a0) fun n0=>
 rGq (decide (n0<1)) false (some a0) fun b1 v2=>
 rGq b1 false (aLen Tryz.prog h 31 v2) fun b3 v4=>
 rGq b3 false (aBin Tryz.prog .gtr 3 v4 (.v (.int .i64 8))) fun b5 v6=>
 okBool (pickR (some (.v (.bool b5))) (some (.v (.bool true))) (some v6)) fun b7=>
 condB b7
 (RetR h K (.v (.bool false)) h)
 (Tryz.r109_l5_8 K h a0 false 0)
theorem Tryz.c109(G:Nat→Option AV) (a0:AV)(h:AH) (K:AV→AH→Prop)(hk:LowH h.length h→Tryz.r109 a0 h K):SCall Tryz.prog G 109 [a0] h K:=
 scall_of_rwp Tryz.tab109 [(5, [(3, .bool),(4,(.int .i64))], [0])] Tryz.func109 rfl Tryz.ntmps109 (by kernel_rfl) (by show 1≤40;decide) (by kernel_rfl) (by kernel_rfl) hk
def Tryz.r110_l3_4(K:AV→AH→Prop)(h:AH) (a0:AV)(h2:AH) (n3:Int) (n19:Int):Prop:=
 ∃(I4:Nat→List AV→AH→Prop) (m5:Nat),I4 m5 [(.v (.int .i64 n19))] h2∧∀(m6:Nat) (h7:AH),h2.length≤h7.length→LowH h7.length h7→∀(n8:Int),I4 m6 [(.v (.int .i64 n8))] h7 →
 okInt .i64 (aLen Tryz.prog h7 188 a0) fun n9=>
 condB (decide (n8<n9))
 (okV (aIA Tryz.prog h7 188 a0 (.v (.int .i64 n8))) fun v10=>
 okV (aFA Tryz.prog 228 0 v10) fun v11=>
 okInt .u64 (aLoad Tryz.prog h7 60 v11) fun n12=>
 condB (decide (n12≥n3))
 (okV (aIA Tryz.prog h7 188 a0 (.v (.int .i64 n8))) fun v13=>
 okV (aFA Tryz.prog 228 1 v13) fun v14=>
 okInt .i64 (aLoad Tryz.prog h7 3 v14) fun n15=>
 RetR h K (.v (.int .i64 n15)) h7)
 (nextR h2 I4 m6 [some a0,some (.v (.int .u64 n3))] [some a0,some (.v (.int .u64 n3))] [(.v (.int .i64 (IntKind.wrap .i64 (n8+1))))] h7))
 (okV (aIA Tryz.prog h7 188 a0 (.v (.int .i64 0))) fun v16=>
 okV (aFA Tryz.prog 228 1 v16) fun v17=>
 okInt .i64 (aLoad Tryz.prog h7 3 v17) fun n18=>
 RetR h K (.v (.int .i64 n18)) h7)
def Tryz.r110(G:Nat→Option AV) (a0 a1:AV)(h:AH) (K:AV→AH→Prop):Prop:=
 okStr (some a1) fun s0=>
 callR Tryz.prog G 154 [(.v (.string s0))] h (fun v1 h2=>
 okInt .u64 (some v1) fun n3=>
 Tryz.r110_l3_4 K h a0 h2 n3 0)
theorem Tryz.c110(G:Nat→Option AV) (a0 a1:AV)(h:AH) (K:AV→AH→Prop)(hk:LowH h.length h→Tryz.r110 G a0 a1 h K):SCall Tryz.prog G 110 [a0,a1] h K:=
 scall_of_rwp Tryz.tab110 [(3, [(6,(.int .i64))], [0,5])] Tryz.func110 rfl Tryz.ntmps110 (by kernel_rfl) (by show 2≤31;decide) (by kernel_rfl) (by kernel_rfl) hk
def Tryz.r111_l10_30(a0:AV)(h3:AH) (n5:Int) (I7:Nat→List AV→AH→Prop) (m9:Nat) (v11:AV) (n12:Int) (i26:Nat)(h29:AH) (n65:Int):Prop:=
 ∃(I30:Nat→List AV→AH→Prop) (m31:Nat),I30 m31 [(.v (.int .i64 n65))] h29∧∀(m32:Nat) (h33:AH),h29.length≤h33.length→LowH h33.length h33→∀(n34:Int),I30 m32 [(.v (.int .i64 n34))] h33 →
 okInt .i64 (aLen Tryz.prog h33 188 v11) fun n35=>
 rGq (decide (n34<n35)) true (some v11) fun b36 v37=>
 rGq b36 true (some (.v (.int .i64 n34))) fun b38 v39=>
 rGq b38 true (aIA Tryz.prog h33 188 v37 v39) fun b40 v41=>
 rGq b40 true (aFA Tryz.prog 228 0 v41) fun b42 v43=>
 rGq b42 true (aLoad Tryz.prog h33 60 v43) fun b44 v45=>
 rGq b44 true (some (.ptr i26 0 0 0)) fun b46 v47=>
 rGq b46 true (aLoad Tryz.prog h33 60 v47) fun b48 v49=>
 rGq b48 true (aBin Tryz.prog .leq 60 v45 v49) fun b50 v51=>
 okBool (pickR (some (.v (.bool b50))) (some v51) (some (.v (.bool false)))) fun b52=>
 condB b52
 (nextR h29 I30 m32 [some a0,some v11,some (.v (.int .i64 n5)),some (.v (.int .i64 n12)),some (.ptr i26 0 0 0)] [some a0,some v11,some (.v (.int .i64 n5)),some (.v (.int .i64 n12)),some (.ptr i26 0 0 0)] [(.v (.int .i64 (IntKind.wrap .i64 (n34+1))))] h33)
 (okV (aSlice Tryz.prog h33 188 v11 none (some (some (.v (.int .i64 n34)))) none) fun v53=>
 appR Tryz.prog h33 188 188 (.v (.slice none 0 0)) v53 (fun v54 h55=>
 okV (aLoad Tryz.prog h55 228 (.ptr i26 0 0 0)) fun v56=>
 okP (rowsFill 2 (List.replicate 1 [(.v (.int .u64 0)),(.v (.int .i64 0))]) [(0,some v56)]) fun r57=>newO (.cells 228 2 r57 0) h55 fun i58 h59=>
 appR Tryz.prog h59 188 188 v54 (.sl i58 0 0 1 none) (fun v60 h61=>
 okV (aSlice Tryz.prog h61 188 v11 (some (some (.v (.int .i64 n34)))) none none) fun v62=>
 appR Tryz.prog h61 188 188 v60 v62 (fun v63 h64=>
 nextR h3 I7 m9 [some a0,some (.v (.int .i64 n5))] [some a0,some (.v (.int .i64 n5))] [v63,(.v (.int .i64 (IntKind.wrap .i64 (n12+1))))] h64))))
def Tryz.r111_l6_7(h:AH) (G:Nat→Option AV) (a0:AV) (I0:Nat→List AV→AH→Prop) (m2:Nat)(h3:AH) (n5:Int) (v66:AV) (n67:Int):Prop:=
 ∃(I7:Nat→List AV→AH→Prop) (m8:Nat),I7 m8 [v66,(.v (.int .i64 n67))] h3∧∀(m9:Nat) (h10:AH),h3.length≤h10.length→LowH h10.length h10→∀(v11:AV) (n12:Int),I7 m9 [v11,(.v (.int .i64 n12))] h10 →
 okV (aIA Tryz.prog h10 31 a0 (.v (.int .i64 n5))) fun v13=>
 okInt .i64 (aLoad Tryz.prog h10 3 v13) fun n14=>
 condB (decide (n12<n14))
 (callR Tryz.prog G 155 [(.v (.int .i64 n5))] h10 (fun v15 h16=>
 okStr (some v15) fun s17=>
 okStr (aBin Tryz.prog .add 9 (.v (.string s17)) (.v (.string (ByteArray.mk #[46])))) fun s18=>
 callR Tryz.prog G 155 [(.v (.int .i64 n12))] h16 (fun v19 h20=>
 okStr (some v19) fun s21=>
 okStr (aBin Tryz.prog .add 9 (.v (.string s18)) (.v (.string s21))) fun s22=>
 callR Tryz.prog G 154 [(.v (.string s22))] h20 (fun v23 h24=>
 okInt .u64 (some v23) fun n25=>
 newO (.cells 228 2 [[(.v (.int .u64 0)),(.v (.int .i64 0))]] 0) h24 fun i26 h27=>
 storeR Tryz.prog h27 (fun v28 h29=>
 Tryz.r111_l10_30 a0 h3 n5 I7 m9 v11 n12 i26 h29 0) 228 (.agg [(.v (.int .u64 n25)),(.v (.int .i64 n5))]) (.ptr i26 0 0 0)))))
 (nextR h I0 m2 [some a0] [some a0] [v11,(.v (.int .i64 (IntKind.wrap .i64 (n5+1))))] h10)
def Tryz.r111_l3_0(K:AV→AH→Prop)(h:AH) (G:Nat→Option AV) (a0:AV) (v68:AV) (n69:Int):Prop:=
 ∃(I0:Nat→List AV→AH→Prop) (m1:Nat),I0 m1 [v68,(.v (.int .i64 n69))] h∧∀(m2:Nat) (h3:AH),h.length≤h3.length→LowH h3.length h3→∀(v4:AV) (n5:Int),I0 m2 [v4,(.v (.int .i64 n5))] h3 →
 okInt .i64 (aLen Tryz.prog h3 31 a0) fun n6=>
 condB (decide (n5<n6))
 (Tryz.r111_l6_7 h G a0 I0 m2 h3 n5 v4 0)
 (RetR h K v4 h3)
def Tryz.r111(G:Nat→Option AV) (a0:AV)(h:AH) (K:AV→AH→Prop):Prop:=
 Tryz.r111_l3_0 K h G a0 (.v (.slice none 0 0)) 0
theorem Tryz.c111(G:Nat→Option AV) (a0:AV)(h:AH) (K:AV→AH→Prop)(hk:LowH h.length h→Tryz.r111 G a0 h K):SCall Tryz.prog G 111 [a0] h K:=
 scall_of_rwp Tryz.tab111 [(3, [(3, .any),(4,(.int .i64))], [0]),(6, [(3, .any),(5,(.int .i64))], [0,4]),(10, [(7,(.int .i64))], [0,3,4,5,6])] Tryz.func111 rfl Tryz.ntmps111 (by kernel_rfl) (by show 1≤63;decide) (by kernel_rfl) (by kernel_rfl) hk
def Tryz.r114(G:Nat→Option AV) (a0:AV)(h:AH) (K:AV→AH→Prop):Prop:=
 onlyB (AV.one a0) (newO (.cells 43 (AV.cells a0).length [AV.cells a0] 0) h fun i0 h1=>
 okInt .i64 (aLoad Tryz.prog h1 3 (.ptr i0 0 0 0)) fun n2=>
 rGq (decide (n2<1)) false (some (.ptr i0 0 0 0)) fun b3 v4=>
 rGq b3 false (aLoad Tryz.prog h1 3 v4) fun b5 v6=>
 rGq b5 false (aBin Tryz.prog .gtr 3 v6 (.v (.int .i64 1073741824))) fun b7 v8=>
 okBool (pickR (some (.v (.bool b7))) (some (.v (.bool true))) (some v8)) fun b9=>
 rGq b9 false (some (.ptr i0 0 0 1)) fun b10 v11=>
 rGq b10 false (aLoad Tryz.prog h1 31 v11) fun b12 v13=>
 rGe b12 false (fun k14=>callR Tryz.prog G 146 [v13] h1 (fun v15 h16=>
 k14 v15 h16)) h1 fun b17 v18 h19=>
 rGq b17 false (aBin Tryz.prog .neq 24 v18 (.v (.int .i64 0))) fun b20 v21=>
 okBool (pickR (some (.v (.bool b20))) (some (.v (.bool true))) (some v21)) fun b22=>
 condB b22
 (RetR h K (.v (.int .i64 70)) h19)
 (RetR h K (.v (.int .i64 0)) h19))
theorem Tryz.c114(G:Nat→Option AV) (a0:AV)(h:AH) (K:AV→AH→Prop)(hk:LowH h.length h→Tryz.r114 G a0 h K):SCall Tryz.prog G 114 [a0] h K:=
 scall_of_rwp Tryz.tab114 [] Tryz.func114 rfl Tryz.ntmps114 (by kernel_rfl) (by show 1≤17;decide) (by kernel_rfl) (by kernel_rfl) hk
def Tryz.r115_l9_18(G:Nat→Option AV) (a0:AV) (a1:AV) (a2:AV)(h11:AH) (I12:Nat→List AV→AH→Prop) (m14:Nat)(h15:AH) (n16:Int) (n31:Int) (n32:Int):Prop:=
 ∃(I18:Nat→List AV→AH→Prop) (m19:Nat),I18 m19 [(.v (.int .i64 n31)),(.v (.int .i64 n32))] h15∧∀(m20:Nat) (h21:AH),h15.length≤h21.length→LowH h21.length h21→∀(n22:Int) (n23:Int),I18 m20 [(.v (.int .i64 n22)),(.v (.int .i64 n23))] h21 →
 okInt .i64 (some a1) fun n24=>
 condB (decide (n23≤n24))
 (callR Tryz.prog G 157 [a0,(.v (.int .i64 n22)),(.v (.int .i64 (IntKind.wrap .i64 (n22+n16)))),(.v (.int .i64 n23)),a2] h21 (fun v25 h26=>
 nextR h15 I18 m20 [some a0,some a1,some a2,some (.v (.int .i64 n16))] [some a0,some a1,some a2,some (.v (.int .i64 n16))] [(.v (.int .i64 n23)),(.v (.int .i64 (IntKind.wrap .i64 (n23+(IntKind.wrap .i64 (2*n16))))))] h26))
 (okInt .i64 (some a1) fun n27=>
 condB (decide ((IntKind.wrap .i64 (n22+n16))<n27))
 (okInt .i64 (some a1) fun n28=>
 callR Tryz.prog G 157 [a0,(.v (.int .i64 n22)),(.v (.int .i64 (IntKind.wrap .i64 (n22+n16)))),(.v (.int .i64 n28)),a2] h21 (fun v29 h30=>
 nextR h11 I12 m14 [some a0,some a1,some a2] [some a0,some a1,some a2] [(.v (.int .i64 (IntKind.wrap .i64 (n16*2))))] h30))
 (nextR h11 I12 m14 [some a0,some a1,some a2] [some a0,some a1,some a2] [(.v (.int .i64 (IntKind.wrap .i64 (n16*2))))] h21))
def Tryz.r115_l7_12(K:AV→AH→Prop)(h:AH) (G:Nat→Option AV) (a0:AV) (a1:AV) (a2:AV)(h11:AH) (n33:Int):Prop:=
 ∃(I12:Nat→List AV→AH→Prop) (m13:Nat),I12 m13 [(.v (.int .i64 n33))] h11∧∀(m14:Nat) (h15:AH),h11.length≤h15.length→LowH h15.length h15→∀(n16:Int),I12 m14 [(.v (.int .i64 n16))] h15 →
 okInt .i64 (some a1) fun n17=>
 condB (decide (n16<n17))
 (Tryz.r115_l9_18 G a0 a1 a2 h11 I12 m14 h15 n16 0 (IntKind.wrap .i64 (2*n16)))
 (RetR h K (.tup []) h15)
def Tryz.r115_l2_0(G:Nat→Option AV)(h:AH) (K:AV→AH→Prop) (a0:AV) (a1:AV) (a2:AV) (n34:Int) (n35:Int):Prop:=
 ∃(I0:Nat→List AV→AH→Prop) (m1:Nat),I0 m1 [(.v (.int .i64 n34)),(.v (.int .i64 n35))] h∧∀(m2:Nat) (h3:AH),h.length≤h3.length→LowH h3.length h3→∀(n4:Int) (n5:Int),I0 m2 [(.v (.int .i64 n4)),(.v (.int .i64 n5))] h3 →
 okInt .i64 (some a1) fun n6=>
 condB (decide (n5≤n6))
 (callR Tryz.prog G 156 [a0,(.v (.int .i64 n4)),(.v (.int .i64 n5)),a2] h3 (fun v7 h8=>
 nextR h I0 m2 [some a0,some a1,some a2,some (.v (.int .i64 20))] [some a0,some a1,some a2,some (.v (.int .i64 20))] [(.v (.int .i64 n5)),(.v (.int .i64 (IntKind.wrap .i64 (n5+20))))] h8))
 (okInt .i64 (some a1) fun n9=>
 callR Tryz.prog G 156 [a0,(.v (.int .i64 n4)),(.v (.int .i64 n9)),a2] h3 (fun v10 h11=>
 Tryz.r115_l7_12 K h G a0 a1 a2 h11 20))
def Tryz.r115(G:Nat→Option AV) (a0 a1 a2:AV)(h:AH) (K:AV→AH→Prop):Prop:=
 Tryz.r115_l2_0 G h K a0 a1 a2 0 20
theorem Tryz.c115(G:Nat→Option AV) (a0 a1 a2:AV)(h:AH) (K:AV→AH→Prop)(hk:LowH h.length h→Tryz.r115 G a0 a1 a2 h K):SCall Tryz.prog G 115 [a0,a1,a2] h K:=
 scall_of_rwp Tryz.tab115 [(2, [(7,(.int .i64)),(8,(.int .i64))], [0,1,2,6]),(7, [(6,(.int .i64))], [0,1,2]),(9, [(7,(.int .i64)),(8,(.int .i64))], [0,1,2,6])] Tryz.func115 rfl Tryz.ntmps115 (by kernel_rfl) (by show 3≤63;decide) (by kernel_rfl) (by kernel_rfl) hk
def Tryz.r117(G:Nat→Option AV) (a0 a1:AV)(h:AH) (K:AV→AH→Prop):Prop:=
 callR Tryz.prog G 159 [a0,a1] h (fun v0 h1=>
 okInt .i64 (some v0) fun n2=>
 RetR h K (.v (.bool (decide (n2≥0)))) h1)
theorem Tryz.c117(G:Nat→Option AV) (a0 a1:AV)(h:AH) (K:AV→AH→Prop)(hk:LowH h.length h→Tryz.r117 G a0 a1 h K):SCall Tryz.prog G 117 [a0,a1] h K:=
 scall_of_rwp Tryz.tab117 [] Tryz.func117 rfl Tryz.ntmps117 (by kernel_rfl) (by show 2≤9;decide) (by kernel_rfl) (by kernel_rfl) hk
def Tryz.r118_l2_1(K:AV→AH→Prop)(h:AH) (a0:AV) (n0:Int) (n39:Int):Prop:=
 ∃(I1:Nat→List AV→AH→Prop) (m2:Nat),I1 m2 [(.v (.int .i64 n39))] h∧∀(m3:Nat) (h4:AH),h.length≤h4.length→LowH h4.length h4→∀(n5:Int),I1 m3 [(.v (.int .i64 n5))] h4 →
 condB (decide (n5<n0))
 (okV (aIA Tryz.prog h4 142 a0 (.v (.int .i64 n5))) fun v6=>
 okStr (aLoad Tryz.prog h4 9 v6) fun s7=>
 rGq (ByteArray.toList s7==ByteArray.toList (ByteArray.mk #[])) false (some (.v (.string s7))) fun b8 v9=>
 rGq b8 false (aLen Tryz.prog h4 9 v9) fun b10 v11=>
 rGq b10 false (aBin Tryz.prog .gtr 3 v11 (.v (.int .i64 64))) fun b12 v13=>
 okBool (pickR (some (.v (.bool b12))) (some (.v (.bool true))) (some v13)) fun b14=>
 rGq b14 false (some (.v (.int .i64 n5))) fun b15 v16=>
 rGq b15 false (aBin Tryz.prog .gtr 3 v16 (.v (.int .i64 0))) fun b17 v18=>
 rGq b17 false (some v18) fun b19 v20=>
 okG (some v20) true fun b21 g0=>
 rGq b21 true (some a0) fun b22 v23=>
 okG (some (g0 b22)) true fun c1 g2=>
 rGq c1 true (some (.v (.int .i64 n5))) fun b24 v25=>
 okG (some (g2 b24)) true fun c3 g4=>
 rGq c3 true (aBin Tryz.prog .sub 3 v25 (.v (.int .i64 1))) fun b26 v27=>
 okG (some (g4 b26)) true fun c5 g6=>
 rGq c5 true (aIA Tryz.prog h4 142 v23 v27) fun b28 v29=>
 okG (some (g6 b28)) true fun c7 g8=>
 rGq c7 true (aLoad Tryz.prog h4 9 v29) fun b30 v31=>
 okG (some (g8 b30)) true fun c9 g10=>
 rGq c9 true (some (.v (.string s7))) fun b32 v33=>
 okG (some (g10 b32)) true fun c11 g12=>
 rGq c11 true (aBin Tryz.prog .geq 9 v31 v33) fun b34 v35=>
 rGq b19 false (pickR (some (g12 b34)) (some v35) (some (.v (.bool false)))) fun b36 v37=>
 okBool (pickR (some (.v (.bool b36))) (some (.v (.bool true))) (some v37)) fun b38=>
 condB b38
 (RetR h K (.v (.bool false)) h4)
 (nextR h I1 m3 [some a0,some a0,some (.v (.int .i64 n0))] [some a0,some a0,some (.v (.int .i64 n0))] [(.v (.int .i64 (IntKind.wrap .i64 (n5+1))))] h4))
 (RetR h K (.v (.bool true)) h4)
def Tryz.r118(a0:AV)(h:AH) (K:AV→AH→Prop):Prop:=
 okInt .i64 (aLen Tryz.prog h 142 a0) fun n0=>
 Tryz.r118_l2_1 K h a0 n0 0
theorem Tryz.c118(G:Nat→Option AV) (a0:AV)(h:AH) (K:AV→AH→Prop)(hk:LowH h.length h→Tryz.r118 a0 h K):SCall Tryz.prog G 118 [a0] h K:=
 scall_of_rwp Tryz.tab118 [(2, [(7,(.int .i64))], [0,5,6])] Tryz.func118 rfl Tryz.ntmps118 (by kernel_rfl) (by show 1≤33;decide) (by kernel_rfl) (by kernel_rfl) hk
def Tryz.r119_l3_1(K:AV→AH→Prop)(h:AH) (G:Nat→Option AV) (a0:AV) (a1:AV) (n0:Int) (n59:Int) (n60:Int):Prop:=
 ∃(I1:Nat→List AV→AH→Prop) (m2:Nat),I1 m2 [(.v (.int .i64 n59)),(.v (.int .i64 n60))] h∧∀(m3:Nat) (h4:AH),h.length≤h4.length→LowH h4.length h4→∀(n5:Int) (n6:Int),I1 m3 [(.v (.int .i64 n5)),(.v (.int .i64 n6))] h4 →
 condB (decide (n5<n6))
 (okInt .u64 (aBin Tryz.prog .shr 171 (.v (.int .u64 (IntKind.wrap .u64 (IntKind.wrap .i64 (n5+n6))))) (.v (.int .u64 1))) fun n7=>
 okV (aIA Tryz.prog h4 142 a0 (.v (.int .i64 (IntKind.wrap .i64 n7)))) fun v8=>
 okStr (aLoad Tryz.prog h4 9 v8) fun s9=>
 okStr (some a1) fun s10=>
 callR Tryz.prog G 160 [(.v (.string s9)),(.v (.string s10))] h4 (fun v11 h12=>
 okBool (some v11) fun b13=>
 condB b13
 (nextR h I1 m3 [some a0,some a1,some (.v (.int .i64 n0))] [some a0,some a1,some (.v (.int .i64 n0))] [(.v (.int .i64 (IntKind.wrap .i64 ((IntKind.wrap .i64 n7)+1)))),(.v (.int .i64 n6))] h12)
 (nextR h I1 m3 [some a0,some a1,some (.v (.int .i64 n0))] [some a0,some a1,some (.v (.int .i64 n0))] [(.v (.int .i64 n5)),(.v (.int .i64 (IntKind.wrap .i64 n7)))] h12)))
 (rGq (decide (n5<n0)) true (some a0) fun b14 v15=>
 rGq b14 true (some (.v (.int .i64 n5))) fun b16 v17=>
 rGq b16 true (aIA Tryz.prog h4 142 v15 v17) fun b18 v19=>
 rGq b18 true (aLoad Tryz.prog h4 9 v19) fun b20 v21=>
 rGq b20 true (some a1) fun b22 v23=>
 rGq b22 true (aBin Tryz.prog .eql 9 v21 v23) fun b24 v25=>
 rGq b24 true (some v25) fun b26 v27=>
 okG (some v27) false fun b28 g0=>
 rGq b28 false (some a0) fun b29 v30=>
 okG (some (g0 b29)) false fun c1 g2=>
 rGq c1 false (some (.v (.int .i64 n5))) fun b31 v32=>
 okG (some (g2 b31)) false fun c3 g4=>
 rGq c3 false (aIA Tryz.prog h4 142 v30 v32) fun b33 v34=>
 okG (some (g4 b33)) false fun c5 g6=>
 rGq c5 false (aLoad Tryz.prog h4 9 v34) fun b35 v36=>
 okG (some (g6 b35)) false fun c7 g8=>
 rGe c7 false (fun k37=>callR Tryz.prog G 161 [v36] h4 (fun v38 h39=>
 k37 v38 h39)) h4 fun b40 v41 h42=>
 okG (some (g8 b40)) false fun c9 g10=>
 rGq c9 false (some v41) fun b43 v44=>
 okG (some v44) true fun b45 g11=>
 rGq b45 true (some a1) fun b46 v47=>
 okG (some (g11 b46)) true fun c12 g13=>
 rGe c12 true (fun k48=>callR Tryz.prog G 161 [v47] h42 (fun v49 h50=>
 k48 v49 h50)) h42 fun b51 v52 h53=>
 okG (some (g10 b43)) false fun c14 g15=>
 rGq c14 false (pickR (some (g13 b51)) (some v52) (some (.v (.bool false)))) fun b54 v55=>
 rGq b26 true (pickR (some (g15 b54)) (some (.v (.bool true))) (some v55)) fun b56 v57=>
 okBool (pickR (some (.v (.bool b56))) (some v57) (some (.v (.bool false)))) fun b58=>
 RetR h K (.tup [(.v (.int .i64 n5)),(.v (.bool b58))]) h53)
def Tryz.r119(G:Nat→Option AV) (a0 a1:AV)(h:AH) (K:AV→AH→Prop):Prop:=
 okInt .i64 (aLen Tryz.prog h 142 a0) fun n0=>
 Tryz.r119_l3_1 K h G a0 a1 n0 0 n0
theorem Tryz.c119(G:Nat→Option AV) (a0 a1:AV)(h:AH) (K:AV→AH→Prop)(hk:LowH h.length h→Tryz.r119 G a0 a1 h K):SCall Tryz.prog G 119 [a0,a1] h K:=
 scall_of_rwp Tryz.tab119 [(3, [(7,(.int .i64)),(8,(.int .i64))], [0,1,6])] Tryz.func119 rfl Tryz.ntmps119 (by kernel_rfl) (by show 2≤54;decide) (by kernel_rfl) (by kernel_rfl) hk
def Tryz.r120_l8_14(K:AV→AH→Prop)(h:AH) (G:Nat→Option AV) (a2:AV) (v2:AV) (v6:AV)(h11:AH) (n13:Int) (v32:AV) (n33:Int):Prop:=
 ∃(I14:Nat→List AV→AH→Prop) (m15:Nat),I14 m15 [v32,(.v (.int .i64 n33))] h11∧∀(m16:Nat) (h17:AH),h11.length≤h17.length→LowH h17.length h17→∀(v18:AV) (n19:Int),I14 m16 [v18,(.v (.int .i64 n19))] h17 →
 condB (decide (n19<n13))
 (okV (aIA Tryz.prog h17 142 a2 (.v (.int .i64 n19))) fun v20=>
 okStr (aLoad Tryz.prog h17 9 v20) fun s21=>
 callR Tryz.prog G 108 [v2,(.v (.string s21))] h17 (fun v22 h23=>
 okInt .i64 (some v22) fun n24=>
 callR Tryz.prog G 108 [v6,(.v (.string s21))] h23 (fun v25 h26=>
 okInt .i64 (some v25) fun n27=>
 condB (n24 != n27)
 (newO (.cells 3 1 [[(.v (.int .i64 n19))]] 0) h26 fun i28 h29=>
 appR Tryz.prog h29 31 31 v18 (.sl i28 0 0 1 none) (fun v30 h31=>
 nextR h11 I14 m16 [some v2,some v6,some a2,some (.v (.int .i64 n13))] [some v2,some v6,some a2,some (.v (.int .i64 n13))] [v30,(.v (.int .i64 (IntKind.wrap .i64 (n19+1))))] h31))
 (nextR h11 I14 m16 [some v2,some v6,some a2,some (.v (.int .i64 n13))] [some v2,some v6,some a2,some (.v (.int .i64 n13))] [v18,(.v (.int .i64 (IntKind.wrap .i64 (n19+1))))] h26))))
 (RetR h K (.tup [v18,(.v (.int .i64 0))]) h17)
def Tryz.r120(G:Nat→Option AV) (a0 a1 a2:AV)(h:AH) (K:AV→AH→Prop):Prop:=
 callR Tryz.prog G 107 [a0] h (fun v0 h1=>
 okV (extV 0 v0) fun v2=>
 okInt .i64 (extV 1 v0) fun n3=>
 callR Tryz.prog G 107 [a1] h1 (fun v4 h5=>
 okV (extV 0 v4) fun v6=>
 okInt .i64 (extV 1 v4) fun n7=>
 newO (.cells 24 1 [[(.v (.int .i64 n3))], [(.v (.int .i64 n7))]] 0) h5 fun i8 h9=>
 callR Tryz.prog G 162 [(.sl i8 0 0 2 none)] h9 (fun v10 h11=>
 okInt .i64 (some v10) fun n12=>
 condB (n12 != 0)
 (RetR h K (.tup [(.v (.slice none 0 0)),(.v (.int .i64 n12))]) h11)
 (okInt .i64 (aLen Tryz.prog h11 142 a2) fun n13=>
 Tryz.r120_l8_14 K h G a2 v2 v6 h11 n13 (.v (.slice none 0 0)) 0))))
theorem Tryz.c120(G:Nat→Option AV) (a0 a1 a2:AV)(h:AH) (K:AV→AH→Prop)(hk:LowH h.length h→Tryz.r120 G a0 a1 a2 h K):SCall Tryz.prog G 120 [a0,a1,a2] h K:=
 scall_of_rwp Tryz.tab120 [(8, [(13, .any),(35,(.int .i64))], [8,10,33,34])] Tryz.func120 rfl Tryz.ntmps120 (by kernel_rfl) (by show 3≤53;decide) (by kernel_rfl) (by kernel_rfl) hk
def Tryz.r121(G:Nat→Option AV) (a0:AV)(h:AH) (K:AV→AH→Prop):Prop:=
 onlyB (AV.one a0) (newO (.cells 131 (AV.cells a0).length [AV.cells a0] 0) h fun i0 h1=>
 okStr (aLoad Tryz.prog h1 9 (.ptr i0 0 0 0)) fun s2=>
 callR Tryz.prog G 124 [(.v (.string s2))] h1 (fun v3 h4=>
 okBool (some v3) fun b5=>
 rGq b5 true (some (.ptr i0 0 0 1)) fun b6 v7=>
 rGq b6 true (aLoad Tryz.prog h4 3 v7) fun b8 v9=>
 rGq b8 true (aBin Tryz.prog .geq 3 v9 (.v (.int .i64 1))) fun b10 v11=>
 okBool (pickR (some (.v (.bool b10))) (some v11) (some (.v (.bool false)))) fun b12=>
 rGq b12 true (some (.ptr i0 0 0 1)) fun b13 v14=>
 rGq b13 true (aLoad Tryz.prog h4 3 v14) fun b15 v16=>
 rGq b15 true (aBin Tryz.prog .leq 3 v16 (.v (.int .i64 1099511627776))) fun b17 v18=>
 okBool (pickR (some (.v (.bool b17))) (some v18) (some (.v (.bool false)))) fun b19=>
 rGq b19 true (some (.ptr i0 0 0 2)) fun b20 v21=>
 rGq b20 true (aLoad Tryz.prog h4 9 v21) fun b22 v23=>
 rGq b22 true (aLen Tryz.prog h4 9 v23) fun b24 v25=>
 rGq b24 true (aBin Tryz.prog .leq 3 v25 (.v (.int .i64 4096))) fun b26 v27=>
 okBool (pickR (some (.v (.bool b26))) (some v27) (some (.v (.bool false)))) fun b28=>
 RetR h K (.v (.bool b28)) h4))
theorem Tryz.c121(G:Nat→Option AV) (a0:AV)(h:AH) (K:AV→AH→Prop)(hk:LowH h.length h→Tryz.r121 G a0 h K):SCall Tryz.prog G 121 [a0] h K:=
 scall_of_rwp Tryz.tab121 [] Tryz.func121 rfl Tryz.ntmps121 (by kernel_rfl) (by show 1≤22;decide) (by kernel_rfl) (by kernel_rfl) hk
def Tryz.r122_l2_0(K:AV→AH→Prop)(h:AH) (a0:AV) (a1:AV) (n99:Int):Prop:=
 ∃(I0:Nat→List AV→AH→Prop) (m1:Nat),I0 m1 [(.v (.int .i64 n99))] h∧∀(m2:Nat) (h3:AH),h.length≤h3.length→LowH h3.length h3→∀(n4:Int),I0 m2 [(.v (.int .i64 n4))] h3 →
 okV (aNil a0) fun v5=>
 okV (aFA Tryz.prog 149 0 v5) fun v6=>
 okV (aLoad Tryz.prog h3 47 v6) fun v7=>
 okInt .i64 (aLen Tryz.prog h3 47 v7) fun n8=>
 rGq (decide (n4<n8)) true (some a0) fun b9 v10=>
 rGq b9 true (aNil v10) fun b11 v12=>
 rGq b11 true (aFA Tryz.prog 149 0 v12) fun b13 v14=>
 rGq b13 true (aLoad Tryz.prog h3 47 v14) fun b15 v16=>
 rGq b15 true (some (.v (.int .i64 n4))) fun b17 v18=>
 rGq b17 true (aIA Tryz.prog h3 47 v16 v18) fun b19 v20=>
 rGq b19 true (aFA Tryz.prog 131 0 v20) fun b21 v22=>
 rGq b21 true (aLoad Tryz.prog h3 9 v22) fun b23 v24=>
 rGq b23 true (some a1) fun b25 v26=>
 rGq b25 true (aBin Tryz.prog .lss 9 v24 v26) fun b27 v28=>
 okBool (pickR (some (.v (.bool b27))) (some v28) (some (.v (.bool false)))) fun b29=>
 condB b29
 (nextR h I0 m2 [some a0,some a1] [some a0,some a1] [(.v (.int .i64 (IntKind.wrap .i64 (n4+1))))] h3)
 (okV (aNil a0) fun v30=>
 okV (aFA Tryz.prog 149 0 v30) fun v31=>
 okV (aLoad Tryz.prog h3 47 v31) fun v32=>
 okInt .i64 (aLen Tryz.prog h3 47 v32) fun n33=>
 rGq (decide (n4<n33)) true (some a0) fun b34 v35=>
 rGq b34 true (aNil v35) fun b36 v37=>
 rGq b36 true (aFA Tryz.prog 149 0 v37) fun b38 v39=>
 if b38=true then okV (aLoad Tryz.prog h3 47 v39) fun v40=>
 rGq true true (some (.v (.int .i64 n4))) fun b41 v42=>
 if b41=true then okV (aIA Tryz.prog h3 47 v40 v42) fun v43=>
 rGq true true (aFA Tryz.prog 131 0 v43) fun b44 v45=>
 if b44=true then okV (aLoad Tryz.prog h3 9 v45) fun v46=>
 rGq true true (some a1) fun b47 v48=>
 rGq b47 true (aBin Tryz.prog .eql 9 v46 v48) fun b49 v50=>
 okBool (pickR (some (.v (.bool b49))) (some v50) (some (.v (.bool false)))) fun b51=>
 (aLoad Tryz.prog h3 9 v45=some v46)∧(aIA Tryz.prog h3 47 v40 v42=some v43)∧(aLoad Tryz.prog h3 47 v39=some v40)∧RetR h K (.tup [(.v (.int .i64 n4)),(.v (.bool b51))]) h3
 else rGq false true (some a1) fun b52 v53=>
 rGq b52 true (aBin Tryz.prog .eql 9 (.tup []) v53) fun b54 v55=>
 okBool (pickR (some (.v (.bool b54))) (some v55) (some (.v (.bool false)))) fun b56=>
 (aIA Tryz.prog h3 47 v40 v42=some v43)∧(aLoad Tryz.prog h3 47 v39=some v40)∧RetR h K (.tup [(.v (.int .i64 n4)),(.v (.bool b56))]) h3
 else rGq false true (aFA Tryz.prog 131 0 (.tup [])) fun b57 v58=>
 if b57=true then okV (aLoad Tryz.prog h3 9 v58) fun v59=>
 rGq true true (some a1) fun b60 v61=>
 rGq b60 true (aBin Tryz.prog .eql 9 v59 v61) fun b62 v63=>
 okBool (pickR (some (.v (.bool b62))) (some v63) (some (.v (.bool false)))) fun b64=>
 (aLoad Tryz.prog h3 9 v58=some v59)∧(aLoad Tryz.prog h3 47 v39=some v40)∧RetR h K (.tup [(.v (.int .i64 n4)),(.v (.bool b64))]) h3
 else rGq false true (some a1) fun b65 v66=>
 rGq b65 true (aBin Tryz.prog .eql 9 (.tup []) v66) fun b67 v68=>
 okBool (pickR (some (.v (.bool b67))) (some v68) (some (.v (.bool false)))) fun b69=>
 (aLoad Tryz.prog h3 47 v39=some v40)∧RetR h K (.tup [(.v (.int .i64 n4)),(.v (.bool b69))]) h3
 else rGq false true (some (.v (.int .i64 n4))) fun b70 v71=>
 if b70=true then okV (aIA Tryz.prog h3 47 (.tup []) v71) fun v72=>
 rGq true true (aFA Tryz.prog 131 0 v72) fun b73 v74=>
 if b73=true then okV (aLoad Tryz.prog h3 9 v74) fun v75=>
 rGq true true (some a1) fun b76 v77=>
 rGq b76 true (aBin Tryz.prog .eql 9 v75 v77) fun b78 v79=>
 okBool (pickR (some (.v (.bool b78))) (some v79) (some (.v (.bool false)))) fun b80=>
 (aLoad Tryz.prog h3 9 v74=some v75)∧(aIA Tryz.prog h3 47 (.tup []) v71=some v72)∧RetR h K (.tup [(.v (.int .i64 n4)),(.v (.bool b80))]) h3
 else rGq false true (some a1) fun b81 v82=>
 rGq b81 true (aBin Tryz.prog .eql 9 (.tup []) v82) fun b83 v84=>
 okBool (pickR (some (.v (.bool b83))) (some v84) (some (.v (.bool false)))) fun b85=>
 (aIA Tryz.prog h3 47 (.tup []) v71=some v72)∧RetR h K (.tup [(.v (.int .i64 n4)),(.v (.bool b85))]) h3
 else rGq false true (aFA Tryz.prog 131 0 (.tup [])) fun b86 v87=>
 if b86=true then okV (aLoad Tryz.prog h3 9 v87) fun v88=>
 rGq true true (some a1) fun b89 v90=>
 rGq b89 true (aBin Tryz.prog .eql 9 v88 v90) fun b91 v92=>
 okBool (pickR (some (.v (.bool b91))) (some v92) (some (.v (.bool false)))) fun b93=>
 (aLoad Tryz.prog h3 9 v87=some v88)∧RetR h K (.tup [(.v (.int .i64 n4)),(.v (.bool b93))]) h3
 else rGq false true (some a1) fun b94 v95=>
 rGq b94 true (aBin Tryz.prog .eql 9 (.tup []) v95) fun b96 v97=>
 okBool (pickR (some (.v (.bool b96))) (some v97) (some (.v (.bool false)))) fun b98=>
 RetR h K (.tup [(.v (.int .i64 n4)),(.v (.bool b98))]) h3)
def Tryz.r122(a0 a1:AV)(h:AH) (K:AV→AH→Prop):Prop:=
 Tryz.r122_l2_0 K h a0 a1 0
theorem Tryz.c122(G:Nat→Option AV) (a0 a1:AV)(h:AH) (K:AV→AH→Prop)(hk:LowH h.length h→Tryz.r122 a0 a1 h K):SCall Tryz.prog G 122 [a0,a1] h K:=
 scall_of_rwp Tryz.tab122 [(2, [(6,(.int .i64))], [0,1])] Tryz.func122 rfl Tryz.ntmps122 (by kernel_rfl) (by show 2≤48;decide) (by kernel_rfl) (by kernel_rfl) hk
def Tryz.r123_j21(K:AV→AH→Prop)(h:AH) (a0:AV) (v17:AV) (n19:Int)(h20:AH):Prop:=
 okV (aNil a0) fun v21=>
 okV (aFA Tryz.prog 149 0 v21) fun v22=>
 okV (aLoad Tryz.prog h20 47 v22) fun v23=>
 okV (aSlice Tryz.prog h20 47 v23 (some (some (.v (.int .i64 n19)))) none none) fun v24=>
 appR Tryz.prog h20 47 47 v17 v24 (fun v25 h26=>
 okV (aNil a0) fun v27=>
 okV (aFA Tryz.prog 149 0 v27) fun v28=>
 storeR Tryz.prog h26 (fun v29 h30=>
 RetR h K (.tup []) h30) 47 v25 v28)
def Tryz.r123(G:Nat→Option AV) (a0 a1:AV)(h:AH) (K:AV→AH→Prop):Prop:=
 onlyB (AV.one a1) (newO (.cells 131 (AV.cells a1).length [AV.cells a1] 0) h fun i0 h1=>
 okStr (aLoad Tryz.prog h1 9 (.ptr i0 0 0 0)) fun s2=>
 callR Tryz.prog G 122 [a0,(.v (.string s2))] h1 (fun v3 h4=>
 okInt .i64 (extV 0 v3) fun n5=>
 okBool (extV 1 v3) fun b6=>
 okV (aNil a0) fun v7=>
 okV (aFA Tryz.prog 149 0 v7) fun v8=>
 okV (aLoad Tryz.prog h4 47 v8) fun v9=>
 okV (aSlice Tryz.prog h4 47 v9 none (some (some (.v (.int .i64 n5)))) none) fun v10=>
 appR Tryz.prog h4 47 47 (.v (.slice none 0 0)) v10 (fun v11 h12=>
 okV (aLoad Tryz.prog h12 131 (.ptr i0 0 0 0)) fun v13=>
 okP (rowsFill 3 (List.replicate 1 [(.v (.string (ByteArray.mk #[]))),(.v (.int .i64 0)),(.v (.string (ByteArray.mk #[])))]) [(0,some v13)]) fun r14=>newO (.cells 131 3 r14 0) h12 fun i15 h16=>
 appR Tryz.prog h16 47 47 v11 (.sl i15 0 0 1 none) (fun v17 h18=>
 condB b6
 (Tryz.r123_j21 K h a0 v17 (IntKind.wrap .i64 (n5+1)) h18)
 (Tryz.r123_j21 K h a0 v17 n5 h18)))))
theorem Tryz.c123(G:Nat→Option AV) (a0 a1:AV)(h:AH) (K:AV→AH→Prop)(hk:LowH h.length h→Tryz.r123 G a0 a1 h K):SCall Tryz.prog G 123 [a0,a1] h K:=
 scall_of_rwp Tryz.tab123 [] Tryz.func123 rfl Tryz.ntmps123 (by kernel_rfl) (by show 2≤40;decide) (by kernel_rfl) (by kernel_rfl) hk
def Tryz.r124(a0:AV)(h:AH) (K:AV→AH→Prop):Prop:=
 okStr (some a0) fun s0=>
 rGq (!(ByteArray.toList s0==ByteArray.toList (ByteArray.mk #[]))) true (some a0) fun b1 v2=>
 rGq b1 true (aLen Tryz.prog h 9 v2) fun b3 v4=>
 rGq b3 true (aBin Tryz.prog .leq 3 v4 (.v (.int .i64 64))) fun b5 v6=>
 okBool (pickR (some (.v (.bool b5))) (some v6) (some (.v (.bool false)))) fun b7=>
 RetR h K (.v (.bool b7)) h
theorem Tryz.c124(G:Nat→Option AV) (a0:AV)(h:AH) (K:AV→AH→Prop)(hk:LowH h.length h→Tryz.r124 a0 h K):SCall Tryz.prog G 124 [a0] h K:=
 scall_of_rwp Tryz.tab124 [] Tryz.func124 rfl Tryz.ntmps124 (by kernel_rfl) (by show 1≤10;decide) (by kernel_rfl) (by kernel_rfl) hk
def Tryz.r125(G:Nat→Option AV) (a0:AV)(h:AH) (K:AV→AH→Prop):Prop:=
 okStr (some a0) fun s0=>
 callR Tryz.prog G 126 [(.v (.int .i64 ((ByteArray.size s0:Nat):Int))),(.v (.int .i64 1)),(.v (.int .i64 64))] h (fun v1 h2=>
 okBool (some v1) fun b3=>
 RetR h K (.v (.bool b3)) h2)
theorem Tryz.c125(G:Nat→Option AV) (a0:AV)(h:AH) (K:AV→AH→Prop)(hk:LowH h.length h→Tryz.r125 G a0 h K):SCall Tryz.prog G 125 [a0] h K:=
 scall_of_rwp Tryz.tab125 [] Tryz.func125 rfl Tryz.ntmps125 (by kernel_rfl) (by show 1≤6;decide) (by kernel_rfl) (by kernel_rfl) hk
def Tryz.r126(a0 a1 a2:AV)(h:AH) (K:AV→AH→Prop):Prop:=
 okInt .i64 (some a0) fun n0=>
 okInt .i64 (some a1) fun n1=>
 rGq (decide (n0≥n1)) true (some a0) fun b2 v3=>
 rGq b2 true (some a2) fun b4 v5=>
 rGq b4 true (aBin Tryz.prog .leq 3 v3 v5) fun b6 v7=>
 okBool (pickR (some (.v (.bool b6))) (some v7) (some (.v (.bool false)))) fun b8=>
 RetR h K (.v (.bool b8)) h
theorem Tryz.c126(G:Nat→Option AV) (a0 a1 a2:AV)(h:AH) (K:AV→AH→Prop)(hk:LowH h.length h→Tryz.r126 a0 a1 a2 h K):SCall Tryz.prog G 126 [a0,a1,a2] h K:=
 scall_of_rwp Tryz.tab126 [] Tryz.func126 rfl Tryz.ntmps126 (by kernel_rfl) (by show 3≤15;decide) (by kernel_rfl) (by kernel_rfl) hk
def Tryz.r127(a0 a1 a2:AV)(h:AH) (K:AV→AH→Prop):Prop:=
 okInt .i64 (some a0) fun n0=>
 okInt .i64 (some a1) fun n1=>
 rGq (decide (n0≥n1)) true (some a0) fun b2 v3=>
 rGq b2 true (some a2) fun b4 v5=>
 rGq b4 true (aBin Tryz.prog .leq 3 v3 v5) fun b6 v7=>
 okBool (pickR (some (.v (.bool b6))) (some v7) (some (.v (.bool false)))) fun b8=>
 RetR h K (.v (.bool b8)) h
theorem Tryz.c127(G:Nat→Option AV) (a0 a1 a2:AV)(h:AH) (K:AV→AH→Prop)(hk:LowH h.length h→Tryz.r127 a0 a1 a2 h K):SCall Tryz.prog G 127 [a0,a1,a2] h K:=
 scall_of_rwp Tryz.tab127 [] Tryz.func127 rfl Tryz.ntmps127 (by kernel_rfl) (by show 3≤15;decide) (by kernel_rfl) (by kernel_rfl) hk
def Tryz.r128_l5_10(K:AV→AH→Prop)(h:AH) (a0:AV) (i0:Nat) (i2:Nat)(h7:AH) (v45:AV) (n46:Int):Prop:=
 ∃(I10:Nat→List AV→AH→Prop) (m11:Nat),I10 m11 [v45,(.v (.int .i64 n46))] h7∧∀(m12:Nat) (h13:AH),h7.length≤h13.length→LowH h13.length h13→∀(v14:AV) (n15:Int),I10 m12 [v14,(.v (.int .i64 n15))] h13 →
 okV (aNil a0) fun v16=>
 okV (aFA Tryz.prog 149 0 v16) fun v17=>
 okV (aLoad Tryz.prog h13 47 v17) fun v18=>
 okInt .i64 (aLen Tryz.prog h13 47 v18) fun n19=>
 rGq (decide (n15<n19)) true (some v14) fun b20 v21=>
 rGq b20 true (aLen Tryz.prog h13 47 v21) fun b22 v23=>
 rGq b22 true (some (.ptr i0 0 0 5)) fun b24 v25=>
 rGq b24 true (aLoad Tryz.prog h13 3 v25) fun b26 v27=>
 rGq b26 true (aBin Tryz.prog .lss 3 v23 v27) fun b28 v29=>
 okBool (pickR (some (.v (.bool b28))) (some v29) (some (.v (.bool false)))) fun b30=>
 condB b30
 (okV (aNil a0) fun v31=>
 okV (aFA Tryz.prog 149 0 v31) fun v32=>
 okV (aLoad Tryz.prog h13 47 v32) fun v33=>
 okV (aIA Tryz.prog h13 47 v33 (.v (.int .i64 n15))) fun v34=>
 okV (aLoad Tryz.prog h13 131 v34) fun v35=>
 okP (rowsFill 3 (List.replicate 1 [(.v (.string (ByteArray.mk #[]))),(.v (.int .i64 0)),(.v (.string (ByteArray.mk #[])))]) [(0,some v35)]) fun r36=>newO (.cells 131 3 r36 0) h13 fun i37 h38=>
 appR Tryz.prog h38 47 47 v14 (.sl i37 0 0 1 none) (fun v39 h40=>
 nextR h7 I10 m12 [some a0,some (.ptr i0 0 0 0),some (.ptr i2 0 0 0)] [some a0,some (.ptr i0 0 0 0),some (.ptr i2 0 0 0)] [v39,(.v (.int .i64 (IntKind.wrap .i64 (n15+1))))] h40))
 (okV (aBuild Tryz.prog 157 [(3,some v14)]) fun v41=>
 storeR Tryz.prog h13 (fun v42 h43=>
 okV (aLoad Tryz.prog h43 157 (.ptr i2 0 0 0)) fun v44=>
 RetR h K v44 h43) 157 v41 (.ptr i2 0 0 0))
def Tryz.r128(G:Nat→Option AV) (a0 a1:AV)(h:AH) (K:AV→AH→Prop):Prop:=
 onlyB (AV.one a1) (newO (.cells 89 (AV.cells a1).length [AV.cells a1] 0) h fun i0 h1=>
 newO (.cells 157 4 [[(.v (.int .i64 0)),(.v (.int .i64 0)),(.v (.string (ByteArray.mk #[]))),(.v (.slice none 0 0))]] 0) h1 fun i2 h3=>
 okInt .i64 (aLoad Tryz.prog h3 3 (.ptr i0 0 0 0)) fun n4=>
 condB (n4==6)
 (okStr (aLoad Tryz.prog h3 9 (.ptr i0 0 0 1)) fun s5=>
 callR Tryz.prog G 122 [a0,(.v (.string s5))] h3 (fun v6 h7=>
 okInt .i64 (extV 0 v6) fun n8=>
 okBool (extV 1 v6) fun b9=>
 Tryz.r128_l5_10 K h a0 i0 i2 h7 (.v (.slice none 0 0)) n8))
 (okInt .i64 (aLoad Tryz.prog h3 3 (.ptr i0 0 0 0)) fun n47=>
 rGq (n47 != 4) true (some (.ptr i0 0 0 0)) fun b48 v49=>
 rGq b48 true (aLoad Tryz.prog h3 3 v49) fun b50 v51=>
 rGq b50 true (aBin Tryz.prog .neq 3 v51 (.v (.int .i64 5))) fun b52 v53=>
 okBool (pickR (some (.v (.bool b52))) (some v53) (some (.v (.bool false)))) fun b54=>
 condB b54
 (okV (aLoad Tryz.prog h3 89 (.ptr i0 0 0 0)) fun v55=>
 callR Tryz.prog G 163 [a0,v55] h3 (fun v56 h57=>
 storeR Tryz.prog h57 (fun v58 h59=>
 okV (aLoad Tryz.prog h59 157 (.ptr i2 0 0 0)) fun v60=>
 RetR h K v60 h59) 157 v56 (.ptr i2 0 0 0)))
 (okStr (aLoad Tryz.prog h3 9 (.ptr i0 0 0 1)) fun s61=>
 callR Tryz.prog G 122 [a0,(.v (.string s61))] h3 (fun v62 h63=>
 okInt .i64 (extV 0 v62) fun n64=>
 okBool (extV 1 v62) fun b65=>
 condB (!b65)
 (storeR Tryz.prog h63 (fun v66 h67=>
 okV (aLoad Tryz.prog h67 157 (.ptr i2 0 0 0)) fun v68=>
 RetR h K v68 h67) 157 (.agg [(.v (.int .i64 91)),(.v (.int .i64 0)),(.v (.string (ByteArray.mk #[]))),(.v (.slice none 0 0))]) (.ptr i2 0 0 0))
 (okV (aNil a0) fun v69=>
 okV (aFA Tryz.prog 149 0 v69) fun v70=>
 okV (aLoad Tryz.prog h63 47 v70) fun v71=>
 okV (aIA Tryz.prog h63 47 v71 (.v (.int .i64 n64))) fun v72=>
 okV (aLoad Tryz.prog h63 131 v72) fun v73=>
 newO (.cells 131 3 [[(.v (.string (ByteArray.mk #[]))),(.v (.int .i64 0)),(.v (.string (ByteArray.mk #[])))]] 0) h63 fun i74 h75=>
 storeR Tryz.prog h75 (fun v76 h77=>
 okInt .i64 (aLoad Tryz.prog h77 3 (.ptr i0 0 0 4)) fun n78=>
 rGq (n78 != 0) true (some (.ptr i0 0 0 4)) fun b79 v80=>
 rGq b79 true (aLoad Tryz.prog h77 3 v80) fun b81 v82=>
 rGq b81 true (some (.ptr i74 0 0 1)) fun b83 v84=>
 rGq b83 true (aLoad Tryz.prog h77 3 v84) fun b85 v86=>
 rGq b85 true (aBin Tryz.prog .neq 3 v82 v86) fun b87 v88=>
 okBool (pickR (some (.v (.bool b87))) (some v88) (some (.v (.bool false)))) fun b89=>
 condB b89
 (okInt .i64 (aLoad Tryz.prog h77 3 (.ptr i74 0 0 1)) fun n90=>
 storeR Tryz.prog h77 (fun v91 h92=>
 okV (aLoad Tryz.prog h92 157 (.ptr i2 0 0 0)) fun v93=>
 RetR h K v93 h92) 157 (.agg [(.v (.int .i64 92)),(.v (.int .i64 n90)),(.v (.string (ByteArray.mk #[]))),(.v (.slice none 0 0))]) (.ptr i2 0 0 0))
 (okInt .i64 (aLoad Tryz.prog h77 3 (.ptr i0 0 0 0)) fun n94=>
 condB (n94==5)
 (okInt .i64 (aLoad Tryz.prog h77 3 (.ptr i74 0 0 1)) fun n95=>
 okStr (aLoad Tryz.prog h77 9 (.ptr i74 0 0 2)) fun s96=>
 storeR Tryz.prog h77 (fun v97 h98=>
 okV (aLoad Tryz.prog h98 157 (.ptr i2 0 0 0)) fun v99=>
 RetR h K v99 h98) 157 (.agg [(.v (.int .i64 0)),(.v (.int .i64 n95)),(.v (.string s96)),(.v (.slice none 0 0))]) (.ptr i2 0 0 0))
 (callR Tryz.prog G 164 [a0,(.v (.int .i64 n64))] h77 (fun v100 h101=>
 okInt .i64 (aLoad Tryz.prog h101 3 (.ptr i74 0 0 1)) fun n102=>
 storeR Tryz.prog h101 (fun v103 h104=>
 okV (aLoad Tryz.prog h104 157 (.ptr i2 0 0 0)) fun v105=>
 RetR h K v105 h104) 157 (.agg [(.v (.int .i64 0)),(.v (.int .i64 n102)),(.v (.string (ByteArray.mk #[]))),(.v (.slice none 0 0))]) (.ptr i2 0 0 0))))) 131 v73 (.ptr i74 0 0 0))))))
theorem Tryz.c128(G:Nat→Option AV) (a0 a1:AV)(h:AH) (K:AV→AH→Prop)(hk:LowH h.length h→Tryz.r128 G a0 a1 h K):SCall Tryz.prog G 128 [a0,a1] h K:=
 scall_of_rwp Tryz.tab128 [(5, [(5, .any),(8,(.int .i64))], [0,3,4])] Tryz.func128 rfl Tryz.ntmps128 (by kernel_rfl) (by show 2≤106;decide) (by kernel_rfl) (by kernel_rfl) hk
def Tryz.r129_l2_1(K:AV→AH→Prop)(h:AH) (G:Nat→Option AV) (a0:AV) (a1:AV) (n0:Int) (n11:Int):Prop:=
 ∃(I1:Nat→List AV→AH→Prop) (m2:Nat),I1 m2 [(.v (.int .i64 n11))] h∧∀(m3:Nat) (h4:AH),h.length≤h4.length→LowH h4.length h4→∀(n5:Int),I1 m3 [(.v (.int .i64 n5))] h4 →
 condB (decide (n5<n0))
 (okV (aIA Tryz.prog h4 47 a0 (.v (.int .i64 n5))) fun v6=>
 okV (aLoad Tryz.prog h4 131 v6) fun v7=>
 callU Tryz.prog G h4 (fun v8 h9=>
 okBool (some v8) fun b10=>
 condB b10
 (RetR h K (.v (.int .i64 n5)) h9)
 (nextR h I1 m3 [some a0,some a1,some (.v (.int .i64 n0))] [some a0,some a1,some (.v (.int .i64 n0))] [(.v (.int .i64 (IntKind.wrap .i64 (n5+1))))] h9)) [v7] a1)
 (RetR h K (.v (.int .i64 (-1))) h4)
def Tryz.r129(G:Nat→Option AV) (a0 a1:AV)(h:AH) (K:AV→AH→Prop):Prop:=
 okInt .i64 (aLen Tryz.prog h 47 a0) fun n0=>
 Tryz.r129_l2_1 K h G a0 a1 n0 0
theorem Tryz.c129(G:Nat→Option AV) (a0 a1:AV)(h:AH) (K:AV→AH→Prop)(hk:LowH h.length h→Tryz.r129 G a0 a1 h K):SCall Tryz.prog G 129 [a0,a1] h K:=
 scall_of_rwp Tryz.tab129 [(2, [(8,(.int .i64))], [0,1,7])] Tryz.func129 rfl Tryz.ntmps129 (by kernel_rfl) (by show 2≤19;decide) (by kernel_rfl) (by kernel_rfl) hk
def Tryz.r130_l3_1(K:AV→AH→Prop)(h:AH) (G:Nat→Option AV) (a0:AV) (a1:AV) (a2:AV) (n0:Int) (n35:Int) (n36:Int):Prop:=
 ∃(I1:Nat→List AV→AH→Prop) (m2:Nat),I1 m2 [(.v (.int .i64 n35)),(.v (.int .i64 n36))] h∧∀(m3:Nat) (h4:AH),h.length≤h4.length→LowH h4.length h4→∀(n5:Int) (n6:Int),I1 m3 [(.v (.int .i64 n5)),(.v (.int .i64 n6))] h4 →
 condB (decide (n5<n6))
 (okInt .u64 (aBin Tryz.prog .shr 171 (.v (.int .u64 (IntKind.wrap .u64 (IntKind.wrap .i64 (n5+n6))))) (.v (.int .u64 1))) fun n7=>
 okV (aIA Tryz.prog h4 47 a0 (.v (.int .i64 (IntKind.wrap .i64 n7)))) fun v8=>
 okV (aLoad Tryz.prog h4 131 v8) fun v9=>
 okStr (some a1) fun s10=>
 callU Tryz.prog G h4 (fun v11 h12=>
 okInt .i64 (some v11) fun n13=>
 condB (decide (n13<0))
 (nextR h I1 m3 [some a0,some a1,some a2,some (.v (.int .i64 n0))] [some a0,some a1,some a2,some (.v (.int .i64 n0))] [(.v (.int .i64 (IntKind.wrap .i64 ((IntKind.wrap .i64 n7)+1)))),(.v (.int .i64 n6))] h12)
 (nextR h I1 m3 [some a0,some a1,some a2,some (.v (.int .i64 n0))] [some a0,some a1,some a2,some (.v (.int .i64 n0))] [(.v (.int .i64 n5)),(.v (.int .i64 (IntKind.wrap .i64 n7)))] h12)) [v9,(.v (.string s10))] a2)
 (rGq (decide (n5<n0)) true (some a2) fun b14 v15=>
 rGq b14 true (some a0) fun b16 v17=>
 rGq b16 true (some (.v (.int .i64 n5))) fun b18 v19=>
 rGq b18 true (aIA Tryz.prog h4 47 v17 v19) fun b20 v21=>
 rGq b20 true (aLoad Tryz.prog h4 131 v21) fun b22 v23=>
 rGq b22 true (some a1) fun b24 v25=>
 rGe b24 true (fun k26=>callU Tryz.prog G h4 (fun v27 h28=>
 k26 v27 h28) [v23,v25] v15) h4 fun b29 v30 h31=>
 rGq b29 true (aBin Tryz.prog .eql 3 v30 (.v (.int .i64 0))) fun b32 v33=>
 okBool (pickR (some (.v (.bool b32))) (some v33) (some (.v (.bool false)))) fun b34=>
 RetR h K (.tup [(.v (.int .i64 n5)),(.v (.bool b34))]) h31)
def Tryz.r130(G:Nat→Option AV) (a0 a1 a2:AV)(h:AH) (K:AV→AH→Prop):Prop:=
 okInt .i64 (aLen Tryz.prog h 47 a0) fun n0=>
 Tryz.r130_l3_1 K h G a0 a1 a2 n0 0 n0
theorem Tryz.c130(G:Nat→Option AV) (a0 a1 a2:AV)(h:AH) (K:AV→AH→Prop)(hk:LowH h.length h→Tryz.r130 G a0 a1 a2 h K):SCall Tryz.prog G 130 [a0,a1,a2] h K:=
 scall_of_rwp Tryz.tab130 [(3, [(9,(.int .i64)),(10,(.int .i64))], [0,1,2,8])] Tryz.func130 rfl Tryz.ntmps130 (by kernel_rfl) (by show 3≤49;decide) (by kernel_rfl) (by kernel_rfl) hk
def Tryz.r131(G:Nat→Option AV) (a0 a1:AV)(h:AH) (K:AV→AH→Prop):Prop:=
 onlyB (AV.one a0) (newO (.cells 131 (AV.cells a0).length [AV.cells a0] 0) h fun i0 h1=>
 okStr (aLoad Tryz.prog h1 9 (.ptr i0 0 0 0)) fun s2=>
 okStr (some a1) fun s3=>
 callR Tryz.prog G 66 [(.v (.string s2)),(.v (.string s3))] h1 (fun v4 h5=>
 okInt .i64 (some v4) fun n6=>
 RetR h K (.v (.int .i64 n6)) h5))
theorem Tryz.c131(G:Nat→Option AV) (a0 a1:AV)(h:AH) (K:AV→AH→Prop)(hk:LowH h.length h→Tryz.r131 G a0 a1 h K):SCall Tryz.prog G 131 [a0,a1] h K:=
 scall_of_rwp Tryz.tab131 [] Tryz.func131 rfl Tryz.ntmps131 (by kernel_rfl) (by show 2≤9;decide) (by kernel_rfl) (by kernel_rfl) hk
def Tryz.r132_j11(K:AV→AH→Prop)(h:AH) (G:Nat→Option AV) (a0:AV) (i0:Nat) (i2:Nat) (n7:Int)(b8:Bool) (n9:Int)(h10:AH):Prop:=
 rGq b8 true (some (.ptr i0 0 0 0)) fun b11 v12=>
 rGq b11 true (aLoad Tryz.prog h10 3 v12) fun b13 v14=>
 rGq b13 true (aBin Tryz.prog .eql 3 v14 (.v (.int .i64 1))) fun b15 v16=>
 okBool (pickR (some (.v (.bool b15))) (some v16) (some (.v (.bool false)))) fun b17=>
 condB b17
 (okV (aNil a0) fun v18=>
 okV (aFA Tryz.prog 160 0 v18) fun v19=>
 okV (aLoad Tryz.prog h10 47 v19) fun v20=>
 okV (aIA Tryz.prog h10 47 v20 (.v (.int .i64 n7))) fun v21=>
 okV (aFA Tryz.prog 131 1 v21) fun v22=>
 okInt .i64 (aLoad Tryz.prog h10 3 v22) fun n23=>
 callR Tryz.prog G 133 [(.v (.int .i64 90)),(.v (.int .i64 n23))] h10 (fun v24 h25=>
 storeR Tryz.prog h25 (fun v26 h27=>
 okV (aLoad Tryz.prog h27 157 (.ptr i2 0 0 0)) fun v28=>
 RetR h K v28 h27) 157 v24 (.ptr i2 0 0 0)))
 (rGq b8 true (some (.ptr i0 0 0 4)) fun b29 v30=>
 rGq b29 true (aLoad Tryz.prog h10 3 v30) fun b31 v32=>
 rGq b31 true (aBin Tryz.prog .neq 3 v32 (.v (.int .i64 0))) fun b33 v34=>
 rGq b33 true (some v34) fun b35 v36=>
 okG (some v36) true fun b37 g0=>
 rGq b37 true (some (.ptr i0 0 0 4)) fun b38 v39=>
 okG (some (g0 b38)) true fun c1 g2=>
 rGq c1 true (aLoad Tryz.prog h10 3 v39) fun b40 v41=>
 okG (some (g2 b40)) true fun c3 g4=>
 rGq c3 true (some a0) fun b42 v43=>
 okG (some (g4 b42)) true fun c5 g6=>
 rGq c5 true (aNil v43) fun b44 v45=>
 okG (some (g6 b44)) true fun c7 g8=>
 rGq c7 true (aFA Tryz.prog 160 0 v45) fun b46 v47=>
 okG (some (g8 b46)) true fun c9 g10=>
 rGq c9 true (aLoad Tryz.prog h10 47 v47) fun b48 v49=>
 okG (some (g10 b48)) true fun c11 g12=>
 rGq c11 true (some (.v (.int .i64 n7))) fun b50 v51=>
 okG (some (g12 b50)) true fun c13 g14=>
 rGq c13 true (aIA Tryz.prog h10 47 v49 v51) fun b52 v53=>
 okG (some (g14 b52)) true fun c15 g16=>
 rGq c15 true (aFA Tryz.prog 131 1 v53) fun b54 v55=>
 okG (some (g16 b54)) true fun c17 g18=>
 rGq c17 true (aLoad Tryz.prog h10 3 v55) fun b56 v57=>
 okG (some (g18 b56)) true fun c19 g20=>
 rGq c19 true (aBin Tryz.prog .neq 3 v41 v57) fun b58 v59=>
 rGq b35 true (pickR (some (g20 b58)) (some v59) (some (.v (.bool false)))) fun b60 v61=>
 rGq b60 true (some v61) fun b62 v63=>
 okG (some v63) false fun b64 g21=>
 rGq b64 false (some (.ptr i0 0 0 3)) fun b65 v66=>
 okG (some (g21 b65)) false fun c22 g23=>
 rGq c22 false (aLoad Tryz.prog h10 3 v66) fun b67 v68=>
 okG (some (g23 b67)) false fun c24 g25=>
 rGq c24 false (some a0) fun b69 v70=>
 okG (some (g25 b69)) false fun c26 g27=>
 rGq c26 false (aNil v70) fun b71 v72=>
 okG (some (g27 b71)) false fun c28 g29=>
 rGq c28 false (aFA Tryz.prog 160 0 v72) fun b73 v74=>
 okG (some (g29 b73)) false fun c30 g31=>
 rGq c30 false (aLoad Tryz.prog h10 47 v74) fun b75 v76=>
 okG (some (g31 b75)) false fun c32 g33=>
 rGq c32 false (some (.v (.int .i64 n7))) fun b77 v78=>
 okG (some (g33 b77)) false fun c34 g35=>
 rGq c34 false (aIA Tryz.prog h10 47 v76 v78) fun b79 v80=>
 okG (some (g35 b79)) false fun c36 g37=>
 rGq c36 false (aFA Tryz.prog 131 1 v80) fun b81 v82=>
 okG (some (g37 b81)) false fun c38 g39=>
 rGq c38 false (aLoad Tryz.prog h10 3 v82) fun b83 v84=>
 okG (some (g39 b83)) false fun c40 g41=>
 rGq c40 false (aBin Tryz.prog .leq 3 v68 v84) fun b85 v86=>
 rGq b62 true (pickR (some (g41 b85)) (some (.v (.bool true))) (some v86)) fun b87 v88=>
 okBool (pickR (some (.v (.bool b87))) (some v88) (some (.v (.bool false)))) fun b89=>
 condB b89
 (okV (aNil a0) fun v90=>
 okV (aFA Tryz.prog 160 0 v90) fun v91=>
 okV (aLoad Tryz.prog h10 47 v91) fun v92=>
 okV (aIA Tryz.prog h10 47 v92 (.v (.int .i64 n7))) fun v93=>
 okV (aFA Tryz.prog 131 1 v93) fun v94=>
 okInt .i64 (aLoad Tryz.prog h10 3 v94) fun n95=>
 callR Tryz.prog G 133 [(.v (.int .i64 92)),(.v (.int .i64 n95))] h10 (fun v96 h97=>
 storeR Tryz.prog h97 (fun v98 h99=>
 okV (aLoad Tryz.prog h99 157 (.ptr i2 0 0 0)) fun v100=>
 RetR h K v100 h99) 157 v96 (.ptr i2 0 0 0)))
 (rGq (!b8) true (some (.ptr i0 0 0 0)) fun b101 v102=>
 rGq b101 true (aLoad Tryz.prog h10 3 v102) fun b103 v104=>
 rGq b103 true (aBin Tryz.prog .eql 3 v104 (.v (.int .i64 2))) fun b105 v106=>
 rGq b105 true (some v106) fun b107 v108=>
 okG (some v108) false fun b109 g42=>
 rGq b109 false (some (.ptr i0 0 0 4)) fun b110 v111=>
 okG (some (g42 b110)) false fun c43 g44=>
 rGq c43 false (aLoad Tryz.prog h10 3 v111) fun b112 v113=>
 okG (some (g44 b112)) false fun c45 g46=>
 rGq c45 false (aBin Tryz.prog .neq 3 v113 (.v (.int .i64 0))) fun b114 v115=>
 rGq b107 true (pickR (some (g46 b114)) (some (.v (.bool true))) (some v115)) fun b116 v117=>
 okBool (pickR (some (.v (.bool b116))) (some v117) (some (.v (.bool false)))) fun b118=>
 condB b118
 (callR Tryz.prog G 133 [(.v (.int .i64 91)),(.v (.int .i64 0))] h10 (fun v119 h120=>
 storeR Tryz.prog h120 (fun v121 h122=>
 okV (aLoad Tryz.prog h122 157 (.ptr i2 0 0 0)) fun v123=>
 RetR h K v123 h122) 157 v119 (.ptr i2 0 0 0)))
 (okStr (aLoad Tryz.prog h10 9 (.ptr i0 0 0 2)) fun s124=>
 condB (decide (((ByteArray.size s124:Nat):Int) > 4096))
 (callR Tryz.prog G 133 [(.v (.int .i64 93)),(.v (.int .i64 0))] h10 (fun v125 h126=>
 storeR Tryz.prog h126 (fun v127 h128=>
 okV (aLoad Tryz.prog h128 157 (.ptr i2 0 0 0)) fun v129=>
 RetR h K v129 h128) 157 v125 (.ptr i2 0 0 0)))
 (rGq (!b8) true (some a0) fun b130 v131=>
 rGq b130 true (aNil v131) fun b132 v133=>
 rGq b132 true (aFA Tryz.prog 160 0 v133) fun b134 v135=>
 rGq b134 true (aLoad Tryz.prog h10 47 v135) fun b136 v137=>
 rGq b136 true (aLen Tryz.prog h10 47 v137) fun b138 v139=>
 rGq b138 true (aBin Tryz.prog .geq 3 v139 (.v (.int .i64 4096))) fun b140 v141=>
 okBool (pickR (some (.v (.bool b140))) (some v141) (some (.v (.bool false)))) fun b142=>
 condB b142
 (callR Tryz.prog G 133 [(.v (.int .i64 22)),(.v (.int .i64 0))] h10 (fun v143 h144=>
 storeR Tryz.prog h144 (fun v145 h146=>
 okV (aLoad Tryz.prog h146 157 (.ptr i2 0 0 0)) fun v147=>
 RetR h K v147 h146) 157 v143 (.ptr i2 0 0 0)))
 (okStr (aLoad Tryz.prog h10 9 (.ptr i0 0 0 1)) fun s148=>
 okInt .i64 (aLoad Tryz.prog h10 3 (.ptr i0 0 0 3)) fun n149=>
 okStr (aLoad Tryz.prog h10 9 (.ptr i0 0 0 2)) fun s150=>
 newO (.cells 131 3 [[(.v (.string s148)),(.v (.int .i64 n149)),(.v (.string s150))]] 0) h10 fun i151 h152=>
 callR Tryz.prog G 134 [a0,(.v (.int .i64 n7)),(.v (.int .i64 n9)),(.sl i151 0 0 1 none)] h152 (fun v153 h154=>
 okInt .i64 (aLoad Tryz.prog h154 3 (.ptr i0 0 0 3)) fun n155=>
 storeR Tryz.prog h154 (fun v156 h157=>
 okV (aLoad Tryz.prog h157 157 (.ptr i2 0 0 0)) fun v158=>
 RetR h K v158 h157) 157 (.agg [(.v (.int .i64 0)),(.v (.int .i64 n155)),(.v (.string (ByteArray.mk #[]))),(.v (.slice none 0 0))]) (.ptr i2 0 0 0)))))))
def Tryz.r132(G:Nat→Option AV) (a0 a1:AV)(h:AH) (K:AV→AH→Prop):Prop:=
 onlyB (AV.one a1) (newO (.cells 89 (AV.cells a1).length [AV.cells a1] 0) h fun i0 h1=>
 newO (.cells 157 4 [[(.v (.int .i64 0)),(.v (.int .i64 0)),(.v (.string (ByteArray.mk #[]))),(.v (.slice none 0 0))]] 0) h1 fun i2 h3=>
 okStr (aLoad Tryz.prog h3 9 (.ptr i0 0 0 1)) fun s4=>
 callR Tryz.prog G 89 [a0,(.v (.string s4))] h3 (fun v5 h6=>
 okInt .i64 (extV 0 v5) fun n7=>
 okBool (extV 1 v5) fun b8=>
 condB b8
 (Tryz.r132_j11 K h G a0 i0 i2 n7 b8 (IntKind.wrap .i64 (n7+1)) h6)
 (Tryz.r132_j11 K h G a0 i0 i2 n7 b8 n7 h6)))
theorem Tryz.c132(G:Nat→Option AV) (a0 a1:AV)(h:AH) (K:AV→AH→Prop)(hk:LowH h.length h→Tryz.r132 G a0 a1 h K):SCall Tryz.prog G 132 [a0,a1] h K:=
 scall_of_rwp Tryz.tab132 [] Tryz.func132 rfl Tryz.ntmps132 (by kernel_rfl) (by show 2≤124;decide) (by kernel_rfl) (by kernel_rfl) hk
def Tryz.r133(a0 a1:AV)(h:AH) (K:AV→AH→Prop):Prop:=
 newO (.cells 157 4 [[(.v (.int .i64 0)),(.v (.int .i64 0)),(.v (.string (ByteArray.mk #[]))),(.v (.slice none 0 0))]] 0) h fun i0 h1=>
 okInt .i64 (some a0) fun n2=>
 okInt .i64 (some a1) fun n3=>
 storeR Tryz.prog h1 (fun v4 h5=>
 okV (aLoad Tryz.prog h5 157 (.ptr i0 0 0 0)) fun v6=>
 RetR h K v6 h5) 157 (.agg [(.v (.int .i64 n2)),(.v (.int .i64 n3)),(.v (.string (ByteArray.mk #[]))),(.v (.slice none 0 0))]) (.ptr i0 0 0 0)
theorem Tryz.c133(G:Nat→Option AV) (a0 a1:AV)(h:AH) (K:AV→AH→Prop)(hk:LowH h.length h→Tryz.r133 a0 a1 h K):SCall Tryz.prog G 133 [a0,a1] h K:=
 scall_of_rwp Tryz.tab133 [] Tryz.func133 rfl Tryz.ntmps133 (by kernel_rfl) (by show 2≤8;decide) (by kernel_rfl) (by kernel_rfl) hk
def Tryz.r134(a0 a1 a2 a3:AV)(h:AH) (K:AV→AH→Prop):Prop:=
 okV (aNil a0) fun v0=>
 okV (aFA Tryz.prog 160 0 v0) fun v1=>
 okV (aLoad Tryz.prog h 47 v1) fun v2=>
 okInt .i64 (some a1) fun n3=>
 okInt .i64 (some a1) fun n4=>
 okV (aSlice Tryz.prog h 47 v2 none (some (some (.v (.int .i64 n3)))) (some (some (.v (.int .i64 n4))))) fun v5=>
 okV (aNil a0) fun v6=>
 okV (aFA Tryz.prog 160 0 v6) fun v7=>
 okV (aLoad Tryz.prog h 47 v7) fun v8=>
 okInt .i64 (some a2) fun n9=>
 okV (aSlice Tryz.prog h 47 v8 (some (some (.v (.int .i64 n9)))) none none) fun v10=>
 appR Tryz.prog h 47 47 v5 a3 (fun v11 h12=>
 (aSlice Tryz.prog h12 47 v8 (some (some (.v (.int .i64 n9)))) none none=some v10)∧(aLoad Tryz.prog h12 47 v7=some v8)∧appR Tryz.prog h12 47 47 v11 v10 (fun v13 h14=>
 okV (aNil a0) fun v15=>
 okV (aFA Tryz.prog 160 0 v15) fun v16=>
 storeR Tryz.prog h14 (fun v17 h18=>
 RetR h K (.tup []) h18) 47 v13 v16))
theorem Tryz.c134(G:Nat→Option AV) (a0 a1 a2 a3:AV)(h:AH) (K:AV→AH→Prop)(hk:LowH h.length h→Tryz.r134 a0 a1 a2 a3 h K):SCall Tryz.prog G 134 [a0,a1,a2,a3] h K:=
 scall_of_rwp Tryz.tab134 [] Tryz.func134 rfl Tryz.ntmps134 (by kernel_rfl) (by show 4≤27;decide) (by kernel_rfl) (by kernel_rfl) hk
def Tryz.r146(G:Nat→Option AV) (a0:AV)(h:AH) (K:AV→AH→Prop):Prop:=
 okInt .i64 (aLen Tryz.prog h 31 a0) fun n0=>
 rGq (decide (n0<1)) false (some a0) fun b1 v2=>
 rGq b1 false (aLen Tryz.prog h 31 v2) fun b3 v4=>
 rGq b3 false (aBin Tryz.prog .gtr 3 v4 (.v (.int .i64 8))) fun b5 v6=>
 okBool (pickR (some (.v (.bool b5))) (some (.v (.bool true))) (some v6)) fun b7=>
 rGq b7 false (some a0) fun b8 v9=>
 rGe b8 false (fun k10=>callR Tryz.prog G 167 [v9] h (fun v11 h12=>
 k10 v11 h12)) h fun b13 v14 h15=>
 rGq b13 false (aBin Tryz.prog .lss 3 v14 (.v (.int .i64 0))) fun b16 v17=>
 okBool (pickR (some (.v (.bool b16))) (some (.v (.bool true))) (some v17)) fun b18=>
 rGq b18 false (some a0) fun b19 v20=>
 rGe b19 false (fun k21=>callR Tryz.prog G 70 [v20] h15 (fun v22 h23=>
 k21 v22 h23)) h15 fun b24 v25 h26=>
 rGq b24 false (aBin Tryz.prog .gtr 3 v25 (.v (.int .i64 128))) fun b27 v28=>
 okBool (pickR (some (.v (.bool b27))) (some (.v (.bool true))) (some v28)) fun b29=>
 rGq b29 false (some a0) fun b30 v31=>
 rGe b30 false (fun k32=>callR Tryz.prog G 70 [v31] h26 (fun v33 h34=>
 k32 v33 h34)) h26 fun b35 v36 h37=>
 rGq b35 false (aBin Tryz.prog .eql 3 v36 (.v (.int .i64 0))) fun b38 v39=>
 okBool (pickR (some (.v (.bool b38))) (some (.v (.bool true))) (some v39)) fun b40=>
 condB b40
 (RetR h K (.v (.int .i64 1)) h37)
 (RetR h K (.v (.int .i64 0)) h37)
theorem Tryz.c146(G:Nat→Option AV) (a0:AV)(h:AH) (K:AV→AH→Prop)(hk:LowH h.length h→Tryz.r146 G a0 h K):SCall Tryz.prog G 146 [a0] h K:=
 scall_of_rwp Tryz.tab146 [] Tryz.func146 rfl Tryz.ntmps146 (by kernel_rfl) (by show 1≤26;decide) (by kernel_rfl) (by kernel_rfl) hk
def Tryz.r147_l3_1(K:AV→AH→Prop)(h:AH) (a0:AV)(s0:ByteArray) (n14:Int) (n15:Int):Prop:=
 ∃(I1:Nat→List AV→AH→Prop) (m2:Nat),I1 m2 [(.v (.int .u64 n14)),(.v (.int .i64 n15))] h∧∀(m3:Nat) (h4:AH),h.length≤h4.length→LowH h4.length h4→∀(n5:Int) (n6:Int),I1 m3 [(.v (.int .u64 n5)),(.v (.int .i64 n6))] h4 →
 condB (decide (n6<((ByteArray.size s0:Nat):Int)))
 (okStr (some a0) fun s7=>
 okInt .u8 (aIndex Tryz.prog 9 (.v (.string s7)) (.v (.int .i64 n6))) fun n8=>
 okInt .u64 (aBin Tryz.prog .xor 60 (.v (.int .u64 n5)) (.v (.int .u64 (IntKind.wrap .u64 n8)))) fun n9=>
 nextR h I1 m3 [some a0,some (.v (.int .i64 ((ByteArray.size s0:Nat):Int)))] [some a0,some (.v (.int .i64 ((ByteArray.size s0:Nat):Int)))] [(.v (.int .u64 (IntKind.wrap .u64 (n9*1099511628211)))),(.v (.int .i64 (IntKind.wrap .i64 (n6+1))))] h4)
 (okInt .u64 (aBin Tryz.prog .shr 60 (.v (.int .u64 n5)) (.v (.int .u64 33))) fun n10=>
 okInt .u64 (aBin Tryz.prog .xor 60 (.v (.int .u64 n5)) (.v (.int .u64 n10))) fun n11=>
 okInt .u64 (aBin Tryz.prog .shr 60 (.v (.int .u64 (IntKind.wrap .u64 (n11*18397679294719823053)))) (.v (.int .u64 33))) fun n12=>
 okInt .u64 (aBin Tryz.prog .xor 60 (.v (.int .u64 (IntKind.wrap .u64 (n11*18397679294719823053)))) (.v (.int .u64 n12))) fun n13=>
 RetR h K (.v (.int .u64 n13)) h4)
def Tryz.r147(a0:AV)(h:AH) (K:AV→AH→Prop):Prop:=
 okStr (some a0) fun s0=>
 Tryz.r147_l3_1 K h a0 s0 14695981039346656037 0
theorem Tryz.c147(G:Nat→Option AV) (a0:AV)(h:AH) (K:AV→AH→Prop)(hk:LowH h.length h→Tryz.r147 a0 h K):SCall Tryz.prog G 147 [a0] h K:=
 scall_of_rwp Tryz.tab147 [(3, [(3,(.int .u64)),(7,(.int .i64))], [0,6])] Tryz.func147 rfl Tryz.ntmps147 (by kernel_rfl) (by show 1≤27;decide) (by kernel_rfl) (by kernel_rfl) hk
def Tryz.r149(G:Nat→Option AV) (a0 a1:AV)(h:AH) (K:AV→AH→Prop):Prop:=
 callR Tryz.prog G 169 [a0,a1] h (fun v0 h1=>
 RetR h K (.tup []) h1)
theorem Tryz.c149(G:Nat→Option AV) (a0 a1:AV)(h:AH) (K:AV→AH→Prop)(hk:LowH h.length h→Tryz.r149 G a0 a1 h K):SCall Tryz.prog G 149 [a0,a1] h K:=
 scall_of_rwp Tryz.tab149 [] Tryz.func149 rfl Tryz.ntmps149 (by kernel_rfl) (by show 2≤7;decide) (by kernel_rfl) (by kernel_rfl) hk
def Tryz.r150(G:Nat→Option AV) (a0 a1:AV)(h:AH) (K:AV→AH→Prop):Prop:=
 onlyB (AV.one a0) (newO (.cells 220 (AV.cells a0).length [AV.cells a0] 0) h fun i0 h1=>
 onlyB (AV.one a1) (newO (.cells 220 (AV.cells a1).length [AV.cells a1] 0) h1 fun i2 h3=>
 okInt .u64 (aLoad Tryz.prog h3 60 (.ptr i0 0 0 0)) fun n4=>
 okInt .u64 (aLoad Tryz.prog h3 60 (.ptr i2 0 0 0)) fun n5=>
 okInt .i64 (aLoad Tryz.prog h3 3 (.ptr i0 0 0 1)) fun n6=>
 okInt .i64 (aLoad Tryz.prog h3 3 (.ptr i2 0 0 1)) fun n7=>
 okInt .i64 (aLoad Tryz.prog h3 3 (.ptr i0 0 0 2)) fun n8=>
 okInt .i64 (aLoad Tryz.prog h3 3 (.ptr i2 0 0 2)) fun n9=>
 callR Tryz.prog G 153 [(.v (.int .u64 n4)),(.v (.int .u64 n5))] h3 (fun v10 h11=>
 okInt .i64 (some v10) fun n12=>
 (aLoad Tryz.prog h11 3 (.ptr i2 0 0 2)=some (.v (.int .i64 n9)))∧(aLoad Tryz.prog h11 3 (.ptr i0 0 0 2)=some (.v (.int .i64 n8)))∧(aLoad Tryz.prog h11 3 (.ptr i2 0 0 1)=some (.v (.int .i64 n7)))∧(aLoad Tryz.prog h11 3 (.ptr i0 0 0 1)=some (.v (.int .i64 n6)))∧callR Tryz.prog G 170 [(.v (.int .i64 n6)),(.v (.int .i64 n7))] h11 (fun v13 h14=>
 okInt .i64 (some v13) fun n15=>
 (aLoad Tryz.prog h14 3 (.ptr i2 0 0 2)=some (.v (.int .i64 n9)))∧(aLoad Tryz.prog h14 3 (.ptr i0 0 0 2)=some (.v (.int .i64 n8)))∧callR Tryz.prog G 170 [(.v (.int .i64 n8)),(.v (.int .i64 n9))] h14 (fun v16 h17=>
 okInt .i64 (some v16) fun n18=>
 newO (.cells 3 1 [[(.v (.int .i64 n12))], [(.v (.int .i64 n15))], [(.v (.int .i64 n18))]] 0) h17 fun i19 h20=>
 callR Tryz.prog G 88 [(.sl i19 0 0 3 none)] h20 (fun v21 h22=>
 okInt .i64 (some v21) fun n23=>
 RetR h K (.v (.int .i64 n23)) h22))))))
theorem Tryz.c150(G:Nat→Option AV) (a0 a1:AV)(h:AH) (K:AV→AH→Prop)(hk:LowH h.length h→Tryz.r150 G a0 a1 h K):SCall Tryz.prog G 150 [a0,a1] h K:=
 scall_of_rwp Tryz.tab150 [] Tryz.func150 rfl Tryz.ntmps150 (by kernel_rfl) (by show 2≤22;decide) (by kernel_rfl) (by kernel_rfl) hk
def Tryz.r151_l3_1(K:AV→AH→Prop)(h:AH) (G:Nat→Option AV) (a0:AV) (a1:AV) (a2:AV) (n0:Int) (n35:Int) (n36:Int):Prop:=
 ∃(I1:Nat→List AV→AH→Prop) (m2:Nat),I1 m2 [(.v (.int .i64 n35)),(.v (.int .i64 n36))] h∧∀(m3:Nat) (h4:AH),h.length≤h4.length→LowH h4.length h4→∀(n5:Int) (n6:Int),I1 m3 [(.v (.int .i64 n5)),(.v (.int .i64 n6))] h4 →
 condB (decide (n5<n6))
 (okInt .u64 (aBin Tryz.prog .shr 171 (.v (.int .u64 (IntKind.wrap .u64 (IntKind.wrap .i64 (n5+n6))))) (.v (.int .u64 1))) fun n7=>
 okV (aIA Tryz.prog h4 182 a0 (.v (.int .i64 (IntKind.wrap .i64 n7)))) fun v8=>
 okV (aLoad Tryz.prog h4 220 v8) fun v9=>
 okInt .u64 (some a1) fun n10=>
 callU Tryz.prog G h4 (fun v11 h12=>
 okInt .i64 (some v11) fun n13=>
 condB (decide (n13<0))
 (nextR h I1 m3 [some a0,some a1,some a2,some (.v (.int .i64 n0))] [some a0,some a1,some a2,some (.v (.int .i64 n0))] [(.v (.int .i64 (IntKind.wrap .i64 ((IntKind.wrap .i64 n7)+1)))),(.v (.int .i64 n6))] h12)
 (nextR h I1 m3 [some a0,some a1,some a2,some (.v (.int .i64 n0))] [some a0,some a1,some a2,some (.v (.int .i64 n0))] [(.v (.int .i64 n5)),(.v (.int .i64 (IntKind.wrap .i64 n7)))] h12)) [v9,(.v (.int .u64 n10))] a2)
 (rGq (decide (n5<n0)) true (some a2) fun b14 v15=>
 rGq b14 true (some a0) fun b16 v17=>
 rGq b16 true (some (.v (.int .i64 n5))) fun b18 v19=>
 rGq b18 true (aIA Tryz.prog h4 182 v17 v19) fun b20 v21=>
 rGq b20 true (aLoad Tryz.prog h4 220 v21) fun b22 v23=>
 rGq b22 true (some a1) fun b24 v25=>
 rGe b24 true (fun k26=>callU Tryz.prog G h4 (fun v27 h28=>
 k26 v27 h28) [v23,v25] v15) h4 fun b29 v30 h31=>
 rGq b29 true (aBin Tryz.prog .eql 3 v30 (.v (.int .i64 0))) fun b32 v33=>
 okBool (pickR (some (.v (.bool b32))) (some v33) (some (.v (.bool false)))) fun b34=>
 RetR h K (.tup [(.v (.int .i64 n5)),(.v (.bool b34))]) h31)
def Tryz.r151(G:Nat→Option AV) (a0 a1 a2:AV)(h:AH) (K:AV→AH→Prop):Prop:=
 okInt .i64 (aLen Tryz.prog h 182 a0) fun n0=>
 Tryz.r151_l3_1 K h G a0 a1 a2 n0 0 n0
theorem Tryz.c151(G:Nat→Option AV) (a0 a1 a2:AV)(h:AH) (K:AV→AH→Prop)(hk:LowH h.length h→Tryz.r151 G a0 a1 a2 h K):SCall Tryz.prog G 151 [a0,a1,a2] h K:=
 scall_of_rwp Tryz.tab151 [(3, [(9,(.int .i64)),(10,(.int .i64))], [0,1,2,8])] Tryz.func151 rfl Tryz.ntmps151 (by kernel_rfl) (by show 3≤49;decide) (by kernel_rfl) (by kernel_rfl) hk
def Tryz.r152(G:Nat→Option AV) (a0 a1:AV)(h:AH) (K:AV→AH→Prop):Prop:=
 onlyB (AV.one a0) (newO (.cells 220 (AV.cells a0).length [AV.cells a0] 0) h fun i0 h1=>
 okInt .u64 (aLoad Tryz.prog h1 60 (.ptr i0 0 0 0)) fun n2=>
 okInt .u64 (some a1) fun n3=>
 callR Tryz.prog G 153 [(.v (.int .u64 n2)),(.v (.int .u64 n3))] h1 (fun v4 h5=>
 okInt .i64 (some v4) fun n6=>
 RetR h K (.v (.int .i64 n6)) h5))
theorem Tryz.c152(G:Nat→Option AV) (a0 a1:AV)(h:AH) (K:AV→AH→Prop)(hk:LowH h.length h→Tryz.r152 G a0 a1 h K):SCall Tryz.prog G 152 [a0,a1] h K:=
 scall_of_rwp Tryz.tab152 [] Tryz.func152 rfl Tryz.ntmps152 (by kernel_rfl) (by show 2≤9;decide) (by kernel_rfl) (by kernel_rfl) hk
def Tryz.r153(G:Nat→Option AV) (a0 a1:AV)(h:AH) (K:AV→AH→Prop):Prop:=
 okInt .u64 (some a0) fun n0=>
 callR Tryz.prog G 171 [(.v (.int .u64 n0))] h (fun v1 h2=>
 okBool (some v1) fun b3=>
 okInt .u64 (some a1) fun n4=>
 callR Tryz.prog G 171 [(.v (.int .u64 n4))] h2 (fun v5 h6=>
 okBool (some v5) fun b7=>
 condB b3
 (condB b7
 (RetR h K (.v (.int .i64 0)) h6)
 (RetR h K (.v (.int .i64 (-1))) h6))
 (condB b7
 (RetR h K (.v (.int .i64 1)) h6)
 (okInt .u64 (some a0) fun n8=>
 okInt .u64 (some a1) fun n9=>
 condB (decide (n8<n9))
 (RetR h K (.v (.int .i64 (-1))) h6)
 (okInt .u64 (some a0) fun n10=>
 okInt .u64 (some a1) fun n11=>
 condB (decide (n10 > n11))
 (RetR h K (.v (.int .i64 1)) h6)
 (RetR h K (.v (.int .i64 0)) h6))))))
theorem Tryz.c153(G:Nat→Option AV) (a0 a1:AV)(h:AH) (K:AV→AH→Prop)(hk:LowH h.length h→Tryz.r153 G a0 a1 h K):SCall Tryz.prog G 153 [a0,a1] h K:=
 scall_of_rwp Tryz.tab153 [] Tryz.func153 rfl Tryz.ntmps153 (by kernel_rfl) (by show 2≤20;decide) (by kernel_rfl) (by kernel_rfl) hk
def Tryz.r154_l3_0(K:AV→AH→Prop)(h:AH) (a0:AV) (n14:Int) (n15:Int):Prop:=
 ∃(I0:Nat→List AV→AH→Prop) (m1:Nat),I0 m1 [(.v (.int .u64 n14)),(.v (.int .i64 n15))] h∧∀(m2:Nat) (h3:AH),h.length≤h3.length→LowH h3.length h3→∀(n4:Int) (n5:Int),I0 m2 [(.v (.int .u64 n4)),(.v (.int .i64 n5))] h3 →
 okStr (some a0) fun s6=>
 condB (decide (n5<((ByteArray.size s6:Nat):Int)))
 (okStr (some a0) fun s7=>
 okInt .u8 (aIndex Tryz.prog 9 (.v (.string s7)) (.v (.int .i64 n5))) fun n8=>
 okInt .u64 (aBin Tryz.prog .xor 60 (.v (.int .u64 n4)) (.v (.int .u64 (IntKind.wrap .u64 n8)))) fun n9=>
 nextR h I0 m2 [some a0] [some a0] [(.v (.int .u64 (IntKind.wrap .u64 (n9*1099511628211)))),(.v (.int .i64 (IntKind.wrap .i64 (n5+1))))] h3)
 (okInt .u64 (aBin Tryz.prog .shr 60 (.v (.int .u64 n4)) (.v (.int .u64 33))) fun n10=>
 okInt .u64 (aBin Tryz.prog .xor 60 (.v (.int .u64 n4)) (.v (.int .u64 n10))) fun n11=>
 okInt .u64 (aBin Tryz.prog .shr 60 (.v (.int .u64 (IntKind.wrap .u64 (n11*18397679294719823053)))) (.v (.int .u64 33))) fun n12=>
 okInt .u64 (aBin Tryz.prog .xor 60 (.v (.int .u64 (IntKind.wrap .u64 (n11*18397679294719823053)))) (.v (.int .u64 n12))) fun n13=>
 RetR h K (.v (.int .u64 n13)) h3)
def Tryz.r154(a0:AV)(h:AH) (K:AV→AH→Prop):Prop:=
 Tryz.r154_l3_0 K h a0 14695981039346656037 0
theorem Tryz.c154(G:Nat→Option AV) (a0:AV)(h:AH) (K:AV→AH→Prop)(hk:LowH h.length h→Tryz.r154 a0 h K):SCall Tryz.prog G 154 [a0] h K:=
 scall_of_rwp Tryz.tab154 [(3, [(3,(.int .u64)),(4,(.int .i64))], [0])] Tryz.func154 rfl Tryz.ntmps154 (by kernel_rfl) (by show 1≤27;decide) (by kernel_rfl) (by kernel_rfl) hk
def Tryz.r155_l2_1(h:AH) (K:AV→AH→Prop) (n11:Int)(s12:ByteArray):Prop:=
 ∃(I1:Nat→List AV→AH→Prop) (m2:Nat),I1 m2 [(.v (.int .i64 n11)),(.v (.string s12))] h∧∀(m3:Nat) (h4:AH),h.length≤h4.length→LowH h4.length h4→∀(n5:Int) (s6:ByteArray),I1 m3 [(.v (.int .i64 n5)),(.v (.string s6))] h4 →
 newO (.cells 5 1 [[(.v (.int .u8 (IntKind.wrap .u8 (IntKind.wrap .i64 (48+(Int.tmod n5 10))))))]] 0) h4 fun i7 h8=>
 okStr (aConv Tryz.prog h8 240 9 (.sl i7 0 0 1 none)) fun s9=>
 okStr (aBin Tryz.prog .add 9 (.v (.string s9)) (.v (.string s6))) fun s10=>
 condB ((IntKind.wrap .i64 (Int.tdiv n5 10))==0)
 (RetR h K (.v (.string s10)) h8)
 (nextR h I1 m3 [] [] [(.v (.int .i64 (IntKind.wrap .i64 (Int.tdiv n5 10)))),(.v (.string s10))] h8)
def Tryz.r155(a0:AV)(h:AH) (K:AV→AH→Prop):Prop:=
 okInt .i64 (some a0) fun n0=>
 Tryz.r155_l2_1 h K n0 (ByteArray.mk #[])
theorem Tryz.c155(G:Nat→Option AV) (a0:AV)(h:AH) (K:AV→AH→Prop)(hk:LowH h.length h→Tryz.r155 a0 h K):SCall Tryz.prog G 155 [a0] h K:=
 scall_of_rwp Tryz.tab155 [(2, [(0,(.int .i64)),(3, .str)], [])] Tryz.func155 rfl Tryz.ntmps155 (by kernel_rfl) (by show 1≤17;decide) (by kernel_rfl) (by kernel_rfl) hk
def Tryz.r156_l4_7(h:AH) (G:Nat→Option AV) (a0:AV) (a1:AV) (a2:AV) (a3:AV) (I1:Nat→List AV→AH→Prop) (m3:Nat)(h4:AH) (n5:Int) (n52:Int):Prop:=
 ∃(I7:Nat→List AV→AH→Prop) (m8:Nat),I7 m8 [(.v (.int .i64 n52))] h4∧∀(m9:Nat) (h10:AH),h4.length≤h10.length→LowH h10.length h10→∀(n11:Int),I7 m9 [(.v (.int .i64 n11))] h10 →
 okInt .i64 (some a1) fun n12=>
 rGq (decide (n11 > n12)) true (some a3) fun b13 v14=>
 rGq b13 true (some a0) fun b15 v16=>
 rGq b15 true (some (.v (.int .i64 n11))) fun b17 v18=>
 rGq b17 true (aIA Tryz.prog h10 47 v16 v18) fun b19 v20=>
 rGq b19 true (aLoad Tryz.prog h10 131 v20) fun b21 v22=>
 rGq b21 true (some a0) fun b23 v24=>
 rGq b23 true (some (.v (.int .i64 n11))) fun b25 v26=>
 rGq b25 true (aBin Tryz.prog .sub 3 v26 (.v (.int .i64 1))) fun b27 v28=>
 rGq b27 true (aIA Tryz.prog h10 47 v24 v28) fun b29 v30=>
 rGq b29 true (aLoad Tryz.prog h10 131 v30) fun b31 v32=>
 rGe b31 true (fun k33=>callU Tryz.prog G h10 (fun v34 h35=>
 k33 v34 h35) [v22,v32] v14) h10 fun b36 v37 h38=>
 rGq b36 true (aBin Tryz.prog .lss 3 v37 (.v (.int .i64 0))) fun b39 v40=>
 okBool (pickR (some (.v (.bool b39))) (some v40) (some (.v (.bool false)))) fun b41=>
 condB b41
 (okV (aIA Tryz.prog h38 47 a0 (.v (.int .i64 (IntKind.wrap .i64 (n11-1))))) fun v42=>
 okV (aLoad Tryz.prog h38 131 v42) fun v43=>
 okV (aIA Tryz.prog h38 47 a0 (.v (.int .i64 n11))) fun v44=>
 okV (aLoad Tryz.prog h38 131 v44) fun v45=>
 okV (aIA Tryz.prog h38 47 a0 (.v (.int .i64 n11))) fun v46=>
 storeR Tryz.prog h38 (fun v47 h48=>
 okV (aIA Tryz.prog h48 47 a0 (.v (.int .i64 (IntKind.wrap .i64 (n11-1))))) fun v49=>
 storeR Tryz.prog h48 (fun v50 h51=>
 nextR h4 I7 m9 [some a0,some a1,some a2,some a3,some (.v (.int .i64 n5))] [some a0,some a1,some a2,some a3,some (.v (.int .i64 n5))] [(.v (.int .i64 (IntKind.wrap .i64 (n11-1))))] h51) 131 v45 v49) 131 v43 v46)
 (nextR h I1 m3 [some a0,some a1,some a2,some a3] [some a0,some a1,some a2,some a3] [(.v (.int .i64 (IntKind.wrap .i64 (n5+1))))] h38)
def Tryz.r156_l1_1(K:AV→AH→Prop)(h:AH) (G:Nat→Option AV) (a0:AV) (a1:AV) (a2:AV) (a3:AV) (n53:Int):Prop:=
 ∃(I1:Nat→List AV→AH→Prop) (m2:Nat),I1 m2 [(.v (.int .i64 n53))] h∧∀(m3:Nat) (h4:AH),h.length≤h4.length→LowH h4.length h4→∀(n5:Int),I1 m3 [(.v (.int .i64 n5))] h4 →
 okInt .i64 (some a2) fun n6=>
 condB (decide (n5<n6))
 (Tryz.r156_l4_7 h G a0 a1 a2 a3 I1 m3 h4 n5 n5)
 (RetR h K (.tup []) h4)
def Tryz.r156(G:Nat→Option AV) (a0 a1 a2 a3:AV)(h:AH) (K:AV→AH→Prop):Prop:=
 okInt .i64 (some a1) fun n0=>
 Tryz.r156_l1_1 K h G a0 a1 a2 a3 (IntKind.wrap .i64 (n0+1))
theorem Tryz.c156(G:Nat→Option AV) (a0 a1 a2 a3:AV)(h:AH) (K:AV→AH→Prop)(hk:LowH h.length h→Tryz.r156 G a0 a1 a2 a3 h K):SCall Tryz.prog G 156 [a0,a1,a2,a3] h K:=
 scall_of_rwp Tryz.tab156 [(1, [(8,(.int .i64))], [0,1,2,3]),(4, [(9,(.int .i64))], [0,1,2,3,8])] Tryz.func156 rfl Tryz.ntmps156 (by kernel_rfl) (by show 4≤53;decide) (by kernel_rfl) (by kernel_rfl) hk
def Tryz.r157_l9_20(K:AV→AH→Prop)(h:AH) (a0:AV)(h7:AH) (n8:Int) (n35:Int):Prop:=
 ∃(I20:Nat→List AV→AH→Prop) (m21:Nat),I20 m21 [(.v (.int .i64 n35))] h7∧∀(m22:Nat) (h23:AH),h7.length≤h23.length→LowH h23.length h23→∀(n24:Int),I20 m22 [(.v (.int .i64 n24))] h23 →
 condB (decide (n24<(IntKind.wrap .i64 (n8-1))))
 (okV (aIA Tryz.prog h23 47 a0 (.v (.int .i64 (IntKind.wrap .i64 (n24+1))))) fun v25=>
 okV (aLoad Tryz.prog h23 131 v25) fun v26=>
 okV (aIA Tryz.prog h23 47 a0 (.v (.int .i64 n24))) fun v27=>
 okV (aLoad Tryz.prog h23 131 v27) fun v28=>
 okV (aIA Tryz.prog h23 47 a0 (.v (.int .i64 n24))) fun v29=>
 storeR Tryz.prog h23 (fun v30 h31=>
 okV (aIA Tryz.prog h31 47 a0 (.v (.int .i64 (IntKind.wrap .i64 (n24+1))))) fun v32=>
 storeR Tryz.prog h31 (fun v33 h34=>
 nextR h7 I20 m22 [some a0,some (.v (.int .i64 n8))] [some a0,some (.v (.int .i64 n8))] [(.v (.int .i64 (IntKind.wrap .i64 (n24+1))))] h34) 131 v28 v32) 131 v26 v29)
 (RetR h K (.tup []) h23)
def Tryz.r157_l3_4(h:AH) (K:AV→AH→Prop) (G:Nat→Option AV) (a0:AV) (a1:AV) (a4:AV) (n36:Int) (n37:Int):Prop:=
 ∃(I4:Nat→List AV→AH→Prop) (m5:Nat),I4 m5 [(.v (.int .i64 n36)),(.v (.int .i64 n37))] h∧∀(m6:Nat) (h7:AH),h.length≤h7.length→LowH h7.length h7→∀(n8:Int) (n9:Int),I4 m6 [(.v (.int .i64 n8)),(.v (.int .i64 n9))] h7 →
 condB (decide (n8<n9))
 (okInt .u64 (aBin Tryz.prog .shr 171 (.v (.int .u64 (IntKind.wrap .u64 (IntKind.wrap .i64 (n8+n9))))) (.v (.int .u64 1))) fun n10=>
 okV (aIA Tryz.prog h7 47 a0 (.v (.int .i64 (IntKind.wrap .i64 n10)))) fun v11=>
 okV (aLoad Tryz.prog h7 131 v11) fun v12=>
 okInt .i64 (some a1) fun n13=>
 okV (aIA Tryz.prog h7 47 a0 (.v (.int .i64 n13))) fun v14=>
 okV (aLoad Tryz.prog h7 131 v14) fun v15=>
 callU Tryz.prog G h7 (fun v16 h17=>
 okInt .i64 (some v16) fun n18=>
 condB (decide (n18<0))
 (nextR h I4 m6 [some a0,some a1,some a4] [some a0,some a1,some a4] [(.v (.int .i64 (IntKind.wrap .i64 ((IntKind.wrap .i64 n10)+1)))),(.v (.int .i64 n9))] h17)
 (nextR h I4 m6 [some a0,some a1,some a4] [some a0,some a1,some a4] [(.v (.int .i64 n8)),(.v (.int .i64 (IntKind.wrap .i64 n10)))] h17)) [v12,v15] a4)
 (okInt .i64 (some a1) fun n19=>
 Tryz.r157_l9_20 K h a0 h7 n8 n19)
def Tryz.r157_l21_58(K:AV→AH→Prop)(h:AH) (a0:AV)(h45:AH) (n46:Int) (n73:Int):Prop:=
 ∃(I58:Nat→List AV→AH→Prop) (m59:Nat),I58 m59 [(.v (.int .i64 n73))] h45∧∀(m60:Nat) (h61:AH),h45.length≤h61.length→LowH h61.length h61→∀(n62:Int),I58 m60 [(.v (.int .i64 n62))] h61 →
 condB (decide (n62 > n46))
 (okV (aIA Tryz.prog h61 47 a0 (.v (.int .i64 (IntKind.wrap .i64 (n62-1))))) fun v63=>
 okV (aLoad Tryz.prog h61 131 v63) fun v64=>
 okV (aIA Tryz.prog h61 47 a0 (.v (.int .i64 n62))) fun v65=>
 okV (aLoad Tryz.prog h61 131 v65) fun v66=>
 okV (aIA Tryz.prog h61 47 a0 (.v (.int .i64 n62))) fun v67=>
 storeR Tryz.prog h61 (fun v68 h69=>
 okV (aIA Tryz.prog h69 47 a0 (.v (.int .i64 (IntKind.wrap .i64 (n62-1))))) fun v70=>
 storeR Tryz.prog h69 (fun v71 h72=>
 nextR h45 I58 m60 [some a0,some (.v (.int .i64 n46))] [some a0,some (.v (.int .i64 n46))] [(.v (.int .i64 (IntKind.wrap .i64 (n62-1))))] h72) 131 v66 v70) 131 v64 v67)
 (RetR h K (.tup []) h61)
def Tryz.r157_l15_42(h:AH) (K:AV→AH→Prop) (G:Nat→Option AV) (a0:AV) (a2:AV) (a4:AV) (n74:Int) (n75:Int):Prop:=
 ∃(I42:Nat→List AV→AH→Prop) (m43:Nat),I42 m43 [(.v (.int .i64 n74)),(.v (.int .i64 n75))] h∧∀(m44:Nat) (h45:AH),h.length≤h45.length→LowH h45.length h45→∀(n46:Int) (n47:Int),I42 m44 [(.v (.int .i64 n46)),(.v (.int .i64 n47))] h45 →
 condB (decide (n46<n47))
 (okInt .u64 (aBin Tryz.prog .shr 171 (.v (.int .u64 (IntKind.wrap .u64 (IntKind.wrap .i64 (n46+n47))))) (.v (.int .u64 1))) fun n48=>
 okInt .i64 (some a2) fun n49=>
 okV (aIA Tryz.prog h45 47 a0 (.v (.int .i64 n49))) fun v50=>
 okV (aLoad Tryz.prog h45 131 v50) fun v51=>
 okV (aIA Tryz.prog h45 47 a0 (.v (.int .i64 (IntKind.wrap .i64 n48)))) fun v52=>
 okV (aLoad Tryz.prog h45 131 v52) fun v53=>
 callU Tryz.prog G h45 (fun v54 h55=>
 okInt .i64 (some v54) fun n56=>
 condB (!(decide (n56<0)))
 (nextR h I42 m44 [some a0,some a2,some a4] [some a0,some a2,some a4] [(.v (.int .i64 (IntKind.wrap .i64 ((IntKind.wrap .i64 n48)+1)))),(.v (.int .i64 n47))] h55)
 (nextR h I42 m44 [some a0,some a2,some a4] [some a0,some a2,some a4] [(.v (.int .i64 n46)),(.v (.int .i64 (IntKind.wrap .i64 n48)))] h55)) [v51,v53] a4)
 (okInt .i64 (some a2) fun n57=>
 Tryz.r157_l21_58 K h a0 h45 n46 n57)
def Tryz.r157_j99(K:AV→AH→Prop)(h:AH) (G:Nat→Option AV) (a0:AV) (a3:AV) (a4:AV) (n78:Int) (n79:Int) (n87:Int)(h98:AH):Prop:=
 rGq (decide ((IntKind.wrap .i64 n78)<(IntKind.wrap .i64 ((IntKind.wrap .i64 ((IntKind.wrap .i64 n78)+n79))-n87)))) true (some (.v (.int .i64 (IntKind.wrap .i64 ((IntKind.wrap .i64 ((IntKind.wrap .i64 n78)+n79))-n87))))) fun b99 v100=>
 rGq b99 true (some a3) fun b101 v102=>
 rGq b101 true (aBin Tryz.prog .lss 3 v100 v102) fun b103 v104=>
 okBool (pickR (some (.v (.bool b103))) (some v104) (some (.v (.bool false)))) fun b105=>
 condB b105
 (okInt .i64 (some a3) fun n106=>
 callR Tryz.prog G 157 [a0,(.v (.int .i64 (IntKind.wrap .i64 n78))),(.v (.int .i64 (IntKind.wrap .i64 ((IntKind.wrap .i64 ((IntKind.wrap .i64 n78)+n79))-n87)))),(.v (.int .i64 n106)),a4] h98 (fun v107 h108=>
 RetR h K (.tup []) h108))
 (RetR h K (.tup []) h98)
def Tryz.r157_j98(G:Nat→Option AV)(h:AH) (K:AV→AH→Prop) (a0:AV) (a1:AV) (a3:AV) (a4:AV) (n78:Int) (n79:Int) (n87:Int)(h97:AH):Prop:=
 okInt .i64 (some a1) fun n109=>
 rGq (decide (n109<n87)) true (some (.v (.int .i64 n87))) fun b110 v111=>
 rGq b110 true (some (.v (.int .i64 (IntKind.wrap .i64 n78)))) fun b112 v113=>
 rGq b112 true (aBin Tryz.prog .lss 3 v111 v113) fun b114 v115=>
 okBool (pickR (some (.v (.bool b114))) (some v115) (some (.v (.bool false)))) fun b116=>
 condB b116
 (okInt .i64 (some a1) fun n117=>
 callR Tryz.prog G 157 [a0,(.v (.int .i64 n117)),(.v (.int .i64 n87)),(.v (.int .i64 (IntKind.wrap .i64 n78))),a4] h97 (fun v118 h119=>
 Tryz.r157_j99 K h G a0 a3 a4 n78 n79 n87 h119))
 (Tryz.r157_j99 K h G a0 a3 a4 n78 n79 n87 h97)
def Tryz.r157_l33_83(K:AV→AH→Prop)(h:AH) (G:Nat→Option AV) (a0:AV) (a1:AV) (a2:AV) (a3:AV) (a4:AV) (n78:Int) (n79:Int)(h82:AH) (n131:Int) (n132:Int):Prop:=
 ∃(I83:Nat→List AV→AH→Prop) (m84:Nat),I83 m84 [(.v (.int .i64 n131)),(.v (.int .i64 n132))] h82∧∀(m85:Nat) (h86:AH),h82.length≤h86.length→LowH h86.length h86→∀(n87:Int) (n88:Int),I83 m85 [(.v (.int .i64 n87)),(.v (.int .i64 n88))] h86 →
 condB (decide (n87<n88))
 (okInt .u64 (aBin Tryz.prog .shr 171 (.v (.int .u64 (IntKind.wrap .u64 (IntKind.wrap .i64 (n87+n88))))) (.v (.int .u64 1))) fun n89=>
 okV (aIA Tryz.prog h86 47 a0 (.v (.int .i64 (IntKind.wrap .i64 ((IntKind.wrap .i64 ((IntKind.wrap .i64 ((IntKind.wrap .i64 n78)+n79))-1))-(IntKind.wrap .i64 n89)))))) fun v90=>
 okV (aLoad Tryz.prog h86 131 v90) fun v91=>
 okV (aIA Tryz.prog h86 47 a0 (.v (.int .i64 (IntKind.wrap .i64 n89)))) fun v92=>
 okV (aLoad Tryz.prog h86 131 v92) fun v93=>
 callU Tryz.prog G h86 (fun v94 h95=>
 okInt .i64 (some v94) fun n96=>
 condB (!(decide (n96<0)))
 (nextR h82 I83 m85 [some a0,some a1,some a2,some a3,some a4,some (.v (.int .i64 (IntKind.wrap .i64 n78))),some (.v (.int .i64 (IntKind.wrap .i64 ((IntKind.wrap .i64 n78)+n79)))),some (.v (.int .i64 (IntKind.wrap .i64 ((IntKind.wrap .i64 ((IntKind.wrap .i64 n78)+n79))-1))))] [some a0,some a1,some a2,some a3,some a4,some (.v (.int .i64 (IntKind.wrap .i64 n78))),some (.v (.int .i64 (IntKind.wrap .i64 ((IntKind.wrap .i64 n78)+n79)))),some (.v (.int .i64 (IntKind.wrap .i64 ((IntKind.wrap .i64 ((IntKind.wrap .i64 n78)+n79))-1))))] [(.v (.int .i64 (IntKind.wrap .i64 ((IntKind.wrap .i64 n89)+1)))),(.v (.int .i64 n88))] h95)
 (nextR h82 I83 m85 [some a0,some a1,some a2,some a3,some a4,some (.v (.int .i64 (IntKind.wrap .i64 n78))),some (.v (.int .i64 (IntKind.wrap .i64 ((IntKind.wrap .i64 n78)+n79)))),some (.v (.int .i64 (IntKind.wrap .i64 ((IntKind.wrap .i64 ((IntKind.wrap .i64 n78)+n79))-1))))] [some a0,some a1,some a2,some a3,some a4,some (.v (.int .i64 (IntKind.wrap .i64 n78))),some (.v (.int .i64 (IntKind.wrap .i64 ((IntKind.wrap .i64 n78)+n79)))),some (.v (.int .i64 (IntKind.wrap .i64 ((IntKind.wrap .i64 ((IntKind.wrap .i64 n78)+n79))-1))))] [(.v (.int .i64 n87)),(.v (.int .i64 (IntKind.wrap .i64 n89)))] h95)) [v91,v93] a4)
 (okInt .i64 (some a2) fun n120=>
 rGq (decide (n87<n120)) true (some a2) fun b121 v122=>
 rGq b121 true (some (.v (.int .i64 (IntKind.wrap .i64 ((IntKind.wrap .i64 ((IntKind.wrap .i64 n78)+n79))-n87))))) fun b123 v124=>
 rGq b123 true (aBin Tryz.prog .lss 3 v122 v124) fun b125 v126=>
 okBool (pickR (some (.v (.bool b125))) (some v126) (some (.v (.bool false)))) fun b127=>
 condB b127
 (okInt .i64 (some a2) fun n128=>
 callR Tryz.prog G 172 [a0,(.v (.int .i64 n87)),(.v (.int .i64 n128)),(.v (.int .i64 (IntKind.wrap .i64 ((IntKind.wrap .i64 ((IntKind.wrap .i64 n78)+n79))-n87)))),a4] h86 (fun v129 h130=>
 Tryz.r157_j98 G h K a0 a1 a3 a4 n78 n79 n87 h130))
 (Tryz.r157_j98 G h K a0 a1 a3 a4 n78 n79 n87 h86))
def Tryz.r157_j83(G:Nat→Option AV)(h:AH) (K:AV→AH→Prop) (a0:AV) (a1:AV) (a2:AV) (a3:AV) (a4:AV) (n78:Int) (n79:Int) (n80:Int) (n81:Int)(h82:AH):Prop:=
 Tryz.r157_l33_83 K h G a0 a1 a2 a3 a4 n78 n79 h82 n80 n81
def Tryz.r157(G:Nat→Option AV) (a0 a1 a2 a3 a4:AV)(h:AH) (K:AV→AH→Prop):Prop:=
 okInt .i64 (some a2) fun n0=>
 okInt .i64 (some a1) fun n1=>
 condB ((IntKind.wrap .i64 (n0-n1))==1)
 (okInt .i64 (some a2) fun n2=>
 okInt .i64 (some a3) fun n3=>
 Tryz.r157_l3_4 h K G a0 a1 a4 n2 n3)
 (okInt .i64 (some a3) fun n38=>
 okInt .i64 (some a2) fun n39=>
 condB ((IntKind.wrap .i64 (n38-n39))==1)
 (okInt .i64 (some a1) fun n40=>
 okInt .i64 (some a2) fun n41=>
 Tryz.r157_l15_42 h K G a0 a2 a4 n40 n41)
 (okInt .i64 (some a1) fun n76=>
 okInt .i64 (some a3) fun n77=>
 okInt .u64 (aBin Tryz.prog .shr 171 (.v (.int .u64 (IntKind.wrap .u64 (IntKind.wrap .i64 (n76+n77))))) (.v (.int .u64 1))) fun n78=>
 okInt .i64 (some a2) fun n79=>
 okInt .i64 (some a2) fun n133=>
 condB (decide (n133 > (IntKind.wrap .i64 n78)))
 (okInt .i64 (some a3) fun n134=>
 Tryz.r157_j83 G h K a0 a1 a2 a3 a4 n78 n79 (IntKind.wrap .i64 ((IntKind.wrap .i64 ((IntKind.wrap .i64 n78)+n79))-n134)) (IntKind.wrap .i64 n78) h)
 (okInt .i64 (some a1) fun n135=>
 okInt .i64 (some a2) fun n136=>
 Tryz.r157_j83 G h K a0 a1 a2 a3 a4 n78 n79 n135 n136 h)))
theorem Tryz.c157(G:Nat→Option AV) (a0 a1 a2 a3 a4:AV)(h:AH) (K:AV→AH→Prop)(hk:LowH h.length h→Tryz.r157 G a0 a1 a2 a3 a4 h K):SCall Tryz.prog G 157 [a0,a1,a2,a3,a4] h K:=
 scall_of_rwp Tryz.tab157 [(3, [(10,(.int .i64)),(11,(.int .i64))], [0,1,4]),(9, [(13,(.int .i64))], [0,10]),(15, [(14,(.int .i64)),(15,(.int .i64))], [0,2,4]),(21, [(17,(.int .i64))], [0,14]),(33, [(20,(.int .i64)),(21,(.int .i64))], [0,1,2,3,4,18,19,22])] Tryz.func157 rfl Tryz.ntmps157 (by kernel_rfl) (by show 5≤220;decide) (by kernel_rfl) (by kernel_rfl) hk
def Tryz.r159_l2_1(K:AV→AH→Prop)(h:AH) (a0:AV) (a1:AV) (n0:Int) (n11:Int):Prop:=
 ∃(I1:Nat→List AV→AH→Prop) (m2:Nat),I1 m2 [(.v (.int .i64 n11))] h∧∀(m3:Nat) (h4:AH),h.length≤h4.length→LowH h4.length h4→∀(n5:Int),I1 m3 [(.v (.int .i64 n5))] h4 →
 condB (decide (n5<n0))
 (okV (aIA Tryz.prog h4 51 a0 (.v (.int .i64 n5))) fun v6=>
 okV (aLoad Tryz.prog h4 87 v6) fun v7=>
 binR Tryz.prog h4 (fun v8 h9=>
 okBool (some v8) fun b10=>
 condB b10
 (RetR h K (.v (.int .i64 n5)) h9)
 (nextR h I1 m3 [some a0,some a1,some (.v (.int .i64 n0))] [some a0,some a1,some (.v (.int .i64 n0))] [(.v (.int .i64 (IntKind.wrap .i64 (n5+1))))] h9)) .eql 87 a1 v7)
 (RetR h K (.v (.int .i64 (-1))) h4)
def Tryz.r159(a0 a1:AV)(h:AH) (K:AV→AH→Prop):Prop:=
 okInt .i64 (aLen Tryz.prog h 51 a0) fun n0=>
 Tryz.r159_l2_1 K h a0 a1 n0 0
theorem Tryz.c159(G:Nat→Option AV) (a0 a1:AV)(h:AH) (K:AV→AH→Prop)(hk:LowH h.length h→Tryz.r159 a0 a1 h K):SCall Tryz.prog G 159 [a0,a1] h K:=
 scall_of_rwp Tryz.tab159 [(2, [(8,(.int .i64))], [0,1,7])] Tryz.func159 rfl Tryz.ntmps159 (by kernel_rfl) (by show 2≤19;decide) (by kernel_rfl) (by kernel_rfl) hk
def Tryz.r160(G:Nat→Option AV) (a0 a1:AV)(h:AH) (K:AV→AH→Prop):Prop:=
 okStr (some a0) fun s0=>
 callR Tryz.prog G 173 [(.v (.string s0))] h (fun v1 h2=>
 okBool (some v1) fun b3=>
 rGq b3 true (some a1) fun b4 v5=>
 rGe b4 true (fun k6=>callR Tryz.prog G 173 [v5] h2 (fun v7 h8=>
 k6 v7 h8)) h2 fun b9 v10 h11=>
 rGq b9 true (aUn .not v10) fun b12 v13=>
 okBool (pickR (some (.v (.bool b12))) (some v13) (some (.v (.bool false)))) fun b14=>
 rGq b14 false (some a0) fun b15 v16=>
 rGq b15 false (some a1) fun b17 v18=>
 rGq b17 false (aBin Tryz.prog .lss 9 v16 v18) fun b19 v20=>
 okBool (pickR (some (.v (.bool b19))) (some (.v (.bool true))) (some v20)) fun b21=>
 RetR h K (.v (.bool b21)) h11)
theorem Tryz.c160(G:Nat→Option AV) (a0 a1:AV)(h:AH) (K:AV→AH→Prop)(hk:LowH h.length h→Tryz.r160 G a0 a1 h K):SCall Tryz.prog G 160 [a0,a1] h K:=
 scall_of_rwp Tryz.tab160 [] Tryz.func160 rfl Tryz.ntmps160 (by kernel_rfl) (by show 2≤17;decide) (by kernel_rfl) (by kernel_rfl) hk
def Tryz.r161(a0:AV)(h:AH) (K:AV→AH→Prop):Prop:=
 okStr (some a0) fun s0=>
 okStr (some a0) fun s1=>
 RetR h K (.v (.bool (!(ByteArray.toList s0==ByteArray.toList s1)))) h
theorem Tryz.c161(G:Nat→Option AV) (a0:AV)(h:AH) (K:AV→AH→Prop)(hk:LowH h.length h→Tryz.r161 a0 h K):SCall Tryz.prog G 161 [a0] h K:=
 scall_of_rwp Tryz.tab161 [] Tryz.func161 rfl Tryz.ntmps161 (by kernel_rfl) (by show 1≤6;decide) (by kernel_rfl) (by kernel_rfl) hk
def Tryz.r162_l3_1(K:AV→AH→Prop)(h:AH) (a0:AV) (n0:Int) (n8:Int):Prop:=
 ∃(I1:Nat→List AV→AH→Prop) (m2:Nat),I1 m2 [(.v (.int .i64 n8))] h∧∀(m3:Nat) (h4:AH),h.length≤h4.length→LowH h4.length h4→∀(n5:Int),I1 m3 [(.v (.int .i64 n5))] h4 →
 condB (decide (n5<n0))
 (okV (aIA Tryz.prog h4 241 a0 (.v (.int .i64 n5))) fun v6=>
 okInt .i64 (aLoad Tryz.prog h4 24 v6) fun n7=>
 condB (n7 != 0)
 (RetR h K (.v (.int .i64 n7)) h4)
 (nextR h I1 m3 [some (.v (.int .i64 0)),some a0,some (.v (.int .i64 n0))] [some (.v (.int .i64 0)),some a0,some (.v (.int .i64 n0))] [(.v (.int .i64 (IntKind.wrap .i64 (n5+1))))] h4))
 (RetR h K (.v (.int .i64 0)) h4)
def Tryz.r162(a0:AV)(h:AH) (K:AV→AH→Prop):Prop:=
 okInt .i64 (aLen Tryz.prog h 241 a0) fun n0=>
 Tryz.r162_l3_1 K h a0 n0 0
theorem Tryz.c162(G:Nat→Option AV) (a0:AV)(h:AH) (K:AV→AH→Prop)(hk:LowH h.length h→Tryz.r162 a0 h K):SCall Tryz.prog G 162 [a0] h K:=
 scall_of_rwp Tryz.tab162 [(3, [(8,(.int .i64))], [3,6,7])] Tryz.func162 rfl Tryz.ntmps162 (by kernel_rfl) (by show 1≤18;decide) (by kernel_rfl) (by kernel_rfl) hk
def Tryz.r163(G:Nat→Option AV) (a0 a1:AV)(h:AH) (K:AV→AH→Prop):Prop:=
 onlyB (AV.one a1) (newO (.cells 89 (AV.cells a1).length [AV.cells a1] 0) h fun i0 h1=>
 newO (.cells 157 4 [[(.v (.int .i64 0)),(.v (.int .i64 0)),(.v (.string (ByteArray.mk #[]))),(.v (.slice none 0 0))]] 0) h1 fun i2 h3=>
 okStr (aLoad Tryz.prog h3 9 (.ptr i0 0 0 1)) fun s4=>
 callR Tryz.prog G 122 [a0,(.v (.string s4))] h3 (fun v5 h6=>
 okInt .i64 (extV 0 v5) fun n7=>
 okBool (extV 1 v5) fun b8=>
 condB b8
 (okInt .i64 (aLoad Tryz.prog h6 3 (.ptr i0 0 0 0)) fun n9=>
 condB (n9==1)
 (okV (aNil a0) fun v10=>
 okV (aFA Tryz.prog 149 0 v10) fun v11=>
 okV (aLoad Tryz.prog h6 47 v11) fun v12=>
 okV (aIA Tryz.prog h6 47 v12 (.v (.int .i64 n7))) fun v13=>
 okV (aFA Tryz.prog 131 1 v13) fun v14=>
 okInt .i64 (aLoad Tryz.prog h6 3 v14) fun n15=>
 storeR Tryz.prog h6 (fun v16 h17=>
 okV (aLoad Tryz.prog h17 157 (.ptr i2 0 0 0)) fun v18=>
 RetR h K v18 h17) 157 (.agg [(.v (.int .i64 90)),(.v (.int .i64 n15)),(.v (.string (ByteArray.mk #[]))),(.v (.slice none 0 0))]) (.ptr i2 0 0 0))
 (okV (aLoad Tryz.prog h6 89 (.ptr i0 0 0 0)) fun v19=>
 okV (aNil a0) fun v20=>
 okV (aFA Tryz.prog 149 0 v20) fun v21=>
 okV (aLoad Tryz.prog h6 47 v21) fun v22=>
 okV (aIA Tryz.prog h6 47 v22 (.v (.int .i64 n7))) fun v23=>
 okV (aLoad Tryz.prog h6 131 v23) fun v24=>
 callR Tryz.prog G 174 [a0,v19,v24] h6 (fun v25 h26=>
 storeR Tryz.prog h26 (fun v27 h28=>
 okV (aLoad Tryz.prog h28 157 (.ptr i2 0 0 0)) fun v29=>
 RetR h K v29 h28) 157 v25 (.ptr i2 0 0 0))))
 (okInt .i64 (aLoad Tryz.prog h6 3 (.ptr i0 0 0 0)) fun n30=>
 rGq (n30==2) false (some (.ptr i0 0 0 0)) fun b31 v32=>
 rGq b31 false (aLoad Tryz.prog h6 3 v32) fun b33 v34=>
 rGq b33 false (aBin Tryz.prog .eql 3 v34 (.v (.int .i64 3))) fun b35 v36=>
 rGq b35 false (some v36) fun b37 v38=>
 okG (some v38) true fun b39 g0=>
 rGq b39 true (some (.ptr i0 0 0 4)) fun b40 v41=>
 okG (some (g0 b40)) true fun c1 g2=>
 rGq c1 true (aLoad Tryz.prog h6 3 v41) fun b42 v43=>
 okG (some (g2 b42)) true fun c3 g4=>
 rGq c3 true (aBin Tryz.prog .neq 3 v43 (.v (.int .i64 0))) fun b44 v45=>
 rGq b37 false (pickR (some (g4 b44)) (some v45) (some (.v (.bool false)))) fun b46 v47=>
 okBool (pickR (some (.v (.bool b46))) (some (.v (.bool true))) (some v47)) fun b48=>
 condB b48
 (storeR Tryz.prog h6 (fun v49 h50=>
 okV (aLoad Tryz.prog h50 157 (.ptr i2 0 0 0)) fun v51=>
 RetR h K v51 h50) 157 (.agg [(.v (.int .i64 91)),(.v (.int .i64 0)),(.v (.string (ByteArray.mk #[]))),(.v (.slice none 0 0))]) (.ptr i2 0 0 0))
 (okV (aLoad Tryz.prog h6 89 (.ptr i0 0 0 0)) fun v52=>
 callR Tryz.prog G 175 [a0,v52] h6 (fun v53 h54=>
 storeR Tryz.prog h54 (fun v55 h56=>
 okV (aLoad Tryz.prog h56 157 (.ptr i2 0 0 0)) fun v57=>
 RetR h K v57 h56) 157 v53 (.ptr i2 0 0 0))))))
theorem Tryz.c163(G:Nat→Option AV) (a0 a1:AV)(h:AH) (K:AV→AH→Prop)(hk:LowH h.length h→Tryz.r163 G a0 a1 h K):SCall Tryz.prog G 163 [a0,a1] h K:=
 scall_of_rwp Tryz.tab163 [] Tryz.func163 rfl Tryz.ntmps163 (by kernel_rfl) (by show 2≤54;decide) (by kernel_rfl) (by kernel_rfl) hk
def Tryz.r164(a0 a1:AV)(h:AH) (K:AV→AH→Prop):Prop:=
 okV (aNil a0) fun v0=>
 okV (aFA Tryz.prog 149 0 v0) fun v1=>
 okV (aLoad Tryz.prog h 47 v1) fun v2=>
 okInt .i64 (some a1) fun n3=>
 okV (aSlice Tryz.prog h 47 v2 none (some (some (.v (.int .i64 n3)))) none) fun v4=>
 okV (aNil a0) fun v5=>
 okV (aFA Tryz.prog 149 0 v5) fun v6=>
 okV (aLoad Tryz.prog h 47 v6) fun v7=>
 okInt .i64 (some a1) fun n8=>
 okV (aSlice Tryz.prog h 47 v7 (some (some (.v (.int .i64 (IntKind.wrap .i64 (n8+1)))))) none none) fun v9=>
 newO (.cells 131 3 [] 0) h fun i10 h11=>
 (aSlice Tryz.prog h11 47 v7 (some (some (.v (.int .i64 (IntKind.wrap .i64 (n8+1)))))) none none=some v9)∧(aLoad Tryz.prog h11 47 v6=some v7)∧(aSlice Tryz.prog h11 47 v2 none (some (some (.v (.int .i64 n3)))) none=some v4)∧(aLoad Tryz.prog h11 47 v1=some v2)∧appR Tryz.prog h11 47 47 (.sl i10 0 0 0 none) v4 (fun v12 h13=>
 (aSlice Tryz.prog h13 47 v7 (some (some (.v (.int .i64 (IntKind.wrap .i64 (n8+1)))))) none none=some v9)∧(aLoad Tryz.prog h13 47 v6=some v7)∧appR Tryz.prog h13 47 47 v12 v9 (fun v14 h15=>
 okV (aNil a0) fun v16=>
 okV (aFA Tryz.prog 149 0 v16) fun v17=>
 storeR Tryz.prog h15 (fun v18 h19=>
 RetR h K (.tup []) h19) 47 v14 v17))
theorem Tryz.c164(G:Nat→Option AV) (a0 a1:AV)(h:AH) (K:AV→AH→Prop)(hk:LowH h.length h→Tryz.r164 a0 a1 h K):SCall Tryz.prog G 164 [a0,a1] h K:=
 scall_of_rwp Tryz.tab164 [] Tryz.func164 rfl Tryz.ntmps164 (by kernel_rfl) (by show 2≤23;decide) (by kernel_rfl) (by kernel_rfl) hk
def Tryz.r167_l5_3(K:AV→AH→Prop)(h:AH) (a0:AV)(h0:AH) (n13:Int) (n14:Int):Prop:=
 ∃(I3:Nat→List AV→AH→Prop) (m4:Nat),I3 m4 [(.v (.int .i64 n13)),(.v (.int .i64 n14))] h0∧∀(m5:Nat) (h6:AH),h0.length≤h6.length→LowH h6.length h6→∀(n7:Int) (n8:Int),I3 m5 [(.v (.int .i64 n7)),(.v (.int .i64 n8))] h6 →
 okInt .i64 (aLen Tryz.prog h6 31 a0) fun n9=>
 condB (decide (n8<n9))
 (okV (aIA Tryz.prog h6 31 a0 (.v (.int .i64 n8))) fun v10=>
 okInt .i64 (aLoad Tryz.prog h6 3 v10) fun n11=>
 okInt .i64 (aMinMax false [some (.v (.int .i64 n7)),some (.v (.int .i64 n11))]) fun n12=>
 nextR h0 I3 m5 [some a0] [some a0] [(.v (.int .i64 n12)),(.v (.int .i64 (IntKind.wrap .i64 (n8+1))))] h6)
 (RetR h K (.v (.int .i64 n7)) h6)
def Tryz.r167_j1(h:AH) (K:AV→AH→Prop) (a0:AV)(h0:AH):Prop:=
 okV (aIA Tryz.prog h0 31 a0 (.v (.int .i64 0))) fun v1=>
 okInt .i64 (aLoad Tryz.prog h0 3 v1) fun n2=>
 Tryz.r167_l5_3 K h a0 h0 n2 1
def Tryz.r167(a0:AV)(h:AH) (K:AV→AH→Prop):Prop:=
 okInt .i64 (aLen Tryz.prog h 31 a0) fun n15=>
 condB (decide (n15<1))
 (okV (aMkI Tryz.prog 9 (.v (.string (ByteArray.mk #[115,108,105,99,101,115,46,77,105,110,58,32,101,109,112,116,121,32,108,105,115,116])))) fun v16=>
 False)
 (Tryz.r167_j1 h K a0 h)
theorem Tryz.c167(G:Nat→Option AV) (a0:AV)(h:AH) (K:AV→AH→Prop)(hk:LowH h.length h→Tryz.r167 a0 h K):SCall Tryz.prog G 167 [a0] h K:=
 scall_of_rwp Tryz.tab167 [(5, [(3,(.int .i64)),(4,(.int .i64))], [0])] Tryz.func167 rfl Tryz.ntmps167 (by kernel_rfl) (by show 1≤25;decide) (by kernel_rfl) (by kernel_rfl) hk
def Tryz.r169(G:Nat→Option AV) (a0 a1:AV)(h:AH) (K:AV→AH→Prop):Prop:=
 okInt .i64 (aLen Tryz.prog h 182 a0) fun n0=>
 callR Tryz.prog G 178 [(.v (.int .u64 (IntKind.wrap .u64 n0)))] h (fun v1 h2=>
 okInt .i64 (some v1) fun n3=>
 callR Tryz.prog G 177 [a0,(.v (.int .i64 0)),(.v (.int .i64 n0)),(.v (.int .i64 n3)),a1] h2 (fun v4 h5=>
 RetR h K (.tup []) h5))
theorem Tryz.c169(G:Nat→Option AV) (a0 a1:AV)(h:AH) (K:AV→AH→Prop)(hk:LowH h.length h→Tryz.r169 G a0 a1 h K):SCall Tryz.prog G 169 [a0,a1] h K:=
 scall_of_rwp Tryz.tab169 [] Tryz.func169 rfl Tryz.ntmps169 (by kernel_rfl) (by show 2≤14;decide) (by kernel_rfl) (by kernel_rfl) hk
def Tryz.r170(G:Nat→Option AV) (a0 a1:AV)(h:AH) (K:AV→AH→Prop):Prop:=
 okInt .i64 (some a0) fun n0=>
 callR Tryz.prog G 179 [(.v (.int .i64 n0))] h (fun v1 h2=>
 okBool (some v1) fun b3=>
 okInt .i64 (some a1) fun n4=>
 callR Tryz.prog G 179 [(.v (.int .i64 n4))] h2 (fun v5 h6=>
 okBool (some v5) fun b7=>
 condB b3
 (condB b7
 (RetR h K (.v (.int .i64 0)) h6)
 (RetR h K (.v (.int .i64 (-1))) h6))
 (condB b7
 (RetR h K (.v (.int .i64 1)) h6)
 (okInt .i64 (some a0) fun n8=>
 okInt .i64 (some a1) fun n9=>
 condB (decide (n8<n9))
 (RetR h K (.v (.int .i64 (-1))) h6)
 (okInt .i64 (some a0) fun n10=>
 okInt .i64 (some a1) fun n11=>
 condB (decide (n10 > n11))
 (RetR h K (.v (.int .i64 1)) h6)
 (RetR h K (.v (.int .i64 0)) h6))))))
theorem Tryz.c170(G:Nat→Option AV) (a0 a1:AV)(h:AH) (K:AV→AH→Prop)(hk:LowH h.length h→Tryz.r170 G a0 a1 h K):SCall Tryz.prog G 170 [a0,a1] h K:=
 scall_of_rwp Tryz.tab170 [] Tryz.func170 rfl Tryz.ntmps170 (by kernel_rfl) (by show 2≤20;decide) (by kernel_rfl) (by kernel_rfl) hk
def Tryz.r171(a0:AV)(h:AH) (K:AV→AH→Prop):Prop:=
 okInt .u64 (some a0) fun n0=>
 okInt .u64 (some a0) fun n1=>
 RetR h K (.v (.bool (n0 != n1))) h
theorem Tryz.c171(G:Nat→Option AV) (a0:AV)(h:AH) (K:AV→AH→Prop)(hk:LowH h.length h→Tryz.r171 a0 h K):SCall Tryz.prog G 171 [a0] h K:=
 scall_of_rwp Tryz.tab171 [] Tryz.func171 rfl Tryz.ntmps171 (by kernel_rfl) (by show 1≤6;decide) (by kernel_rfl) (by kernel_rfl) hk
def Tryz.r172_l2_4(K:AV→AH→Prop)(h:AH) (G:Nat→Option AV) (a0:AV) (a2:AV) (a4:AV) (n22:Int) (n23:Int):Prop:=
 ∃(I4:Nat→List AV→AH→Prop) (m5:Nat),I4 m5 [(.v (.int .i64 n22)),(.v (.int .i64 n23))] h∧∀(m6:Nat) (h7:AH),h.length≤h7.length→LowH h7.length h7→∀(n8:Int) (n9:Int),I4 m6 [(.v (.int .i64 n8)),(.v (.int .i64 n9))] h7 →
 condB (n8 != n9)
 (condB (decide (n8 > n9))
 (okInt .i64 (some a2) fun n10=>
 okInt .i64 (some a2) fun n11=>
 callR Tryz.prog G 180 [a0,(.v (.int .i64 (IntKind.wrap .i64 (n10-n8)))),(.v (.int .i64 n11)),(.v (.int .i64 n9)),a4] h7 (fun v12 h13=>
 nextR h I4 m6 [some a0,some a2,some a4] [some a0,some a2,some a4] [(.v (.int .i64 (IntKind.wrap .i64 (n8-n9)))),(.v (.int .i64 n9))] h13))
 (okInt .i64 (some a2) fun n14=>
 okInt .i64 (some a2) fun n15=>
 callR Tryz.prog G 180 [a0,(.v (.int .i64 (IntKind.wrap .i64 (n14-n8)))),(.v (.int .i64 (IntKind.wrap .i64 ((IntKind.wrap .i64 (n15+n9))-n8)))),(.v (.int .i64 n8)),a4] h7 (fun v16 h17=>
 nextR h I4 m6 [some a0,some a2,some a4] [some a0,some a2,some a4] [(.v (.int .i64 n8)),(.v (.int .i64 (IntKind.wrap .i64 (n9-n8))))] h17)))
 (okInt .i64 (some a2) fun n18=>
 okInt .i64 (some a2) fun n19=>
 callR Tryz.prog G 180 [a0,(.v (.int .i64 (IntKind.wrap .i64 (n18-n8)))),(.v (.int .i64 n19)),(.v (.int .i64 n8)),a4] h7 (fun v20 h21=>
 RetR h K (.tup []) h21))
def Tryz.r172(G:Nat→Option AV) (a0 a1 a2 a3 a4:AV)(h:AH) (K:AV→AH→Prop):Prop:=
 okInt .i64 (some a2) fun n0=>
 okInt .i64 (some a1) fun n1=>
 okInt .i64 (some a3) fun n2=>
 okInt .i64 (some a2) fun n3=>
 Tryz.r172_l2_4 K h G a0 a2 a4 (IntKind.wrap .i64 (n0-n1)) (IntKind.wrap .i64 (n2-n3))
theorem Tryz.c172(G:Nat→Option AV) (a0 a1 a2 a3 a4:AV)(h:AH) (K:AV→AH→Prop)(hk:LowH h.length h→Tryz.r172 G a0 a1 a2 a3 a4 h K):SCall Tryz.prog G 172 [a0,a1,a2,a3,a4] h K:=
 scall_of_rwp Tryz.tab172 [(2, [(10,(.int .i64)),(11,(.int .i64))], [0,2,4])] Tryz.func172 rfl Tryz.ntmps172 (by kernel_rfl) (by show 5≤58;decide) (by kernel_rfl) (by kernel_rfl) hk
def Tryz.r173(a0:AV)(h:AH) (K:AV→AH→Prop):Prop:=
 okStr (some a0) fun s0=>
 okStr (some a0) fun s1=>
 RetR h K (.v (.bool (!(ByteArray.toList s0==ByteArray.toList s1)))) h
theorem Tryz.c173(G:Nat→Option AV) (a0:AV)(h:AH) (K:AV→AH→Prop)(hk:LowH h.length h→Tryz.r173 a0 h K):SCall Tryz.prog G 173 [a0] h K:=
 scall_of_rwp Tryz.tab173 [] Tryz.func173 rfl Tryz.ntmps173 (by kernel_rfl) (by show 1≤6;decide) (by kernel_rfl) (by kernel_rfl) hk
def Tryz.r174(G:Nat→Option AV) (a0 a1 a2:AV)(h:AH) (K:AV→AH→Prop):Prop:=
 onlyB (AV.one a1) (newO (.cells 89 (AV.cells a1).length [AV.cells a1] 0) h fun i0 h1=>
 onlyB (AV.one a2) (newO (.cells 131 (AV.cells a2).length [AV.cells a2] 0) h1 fun i2 h3=>
 newO (.cells 157 4 [[(.v (.int .i64 0)),(.v (.int .i64 0)),(.v (.string (ByteArray.mk #[]))),(.v (.slice none 0 0))]] 0) h3 fun i4 h5=>
 okInt .i64 (aLoad Tryz.prog h5 3 (.ptr i0 0 0 4)) fun n6=>
 rGq (n6 != 0) true (some (.ptr i0 0 0 4)) fun b7 v8=>
 rGq b7 true (aLoad Tryz.prog h5 3 v8) fun b9 v10=>
 rGq b9 true (some (.ptr i2 0 0 1)) fun b11 v12=>
 rGq b11 true (aLoad Tryz.prog h5 3 v12) fun b13 v14=>
 rGq b13 true (aBin Tryz.prog .neq 3 v10 v14) fun b15 v16=>
 okBool (pickR (some (.v (.bool b15))) (some v16) (some (.v (.bool false)))) fun b17=>
 rGq b17 false (some (.ptr i0 0 0 3)) fun b18 v19=>
 rGq b18 false (aLoad Tryz.prog h5 3 v19) fun b20 v21=>
 rGq b20 false (some (.ptr i2 0 0 1)) fun b22 v23=>
 rGq b22 false (aLoad Tryz.prog h5 3 v23) fun b24 v25=>
 rGq b24 false (aBin Tryz.prog .leq 3 v21 v25) fun b26 v27=>
 okBool (pickR (some (.v (.bool b26))) (some (.v (.bool true))) (some v27)) fun b28=>
 condB b28
 (okInt .i64 (aLoad Tryz.prog h5 3 (.ptr i2 0 0 1)) fun n29=>
 storeR Tryz.prog h5 (fun v30 h31=>
 okV (aLoad Tryz.prog h31 157 (.ptr i4 0 0 0)) fun v32=>
 RetR h K v32 h31) 157 (.agg [(.v (.int .i64 92)),(.v (.int .i64 n29)),(.v (.string (ByteArray.mk #[]))),(.v (.slice none 0 0))]) (.ptr i4 0 0 0))
 (okStr (aLoad Tryz.prog h5 9 (.ptr i0 0 0 2)) fun s33=>
 condB (decide (((ByteArray.size s33:Nat):Int) > 4096))
 (storeR Tryz.prog h5 (fun v34 h35=>
 okV (aLoad Tryz.prog h35 157 (.ptr i4 0 0 0)) fun v36=>
 RetR h K v36 h35) 157 (.agg [(.v (.int .i64 93)),(.v (.int .i64 0)),(.v (.string (ByteArray.mk #[]))),(.v (.slice none 0 0))]) (.ptr i4 0 0 0))
 (okStr (aLoad Tryz.prog h5 9 (.ptr i0 0 0 1)) fun s37=>
 okInt .i64 (aLoad Tryz.prog h5 3 (.ptr i0 0 0 3)) fun n38=>
 okStr (aLoad Tryz.prog h5 9 (.ptr i0 0 0 2)) fun s39=>
 callR Tryz.prog G 123 [a0,(.agg [(.v (.string s37)),(.v (.int .i64 n38)),(.v (.string s39))])] h5 (fun v40 h41=>
 okInt .i64 (aLoad Tryz.prog h41 3 (.ptr i0 0 0 3)) fun n42=>
 storeR Tryz.prog h41 (fun v43 h44=>
 okV (aLoad Tryz.prog h44 157 (.ptr i4 0 0 0)) fun v45=>
 RetR h K v45 h44) 157 (.agg [(.v (.int .i64 0)),(.v (.int .i64 n42)),(.v (.string (ByteArray.mk #[]))),(.v (.slice none 0 0))]) (.ptr i4 0 0 0))))))
theorem Tryz.c174(G:Nat→Option AV) (a0 a1 a2:AV)(h:AH) (K:AV→AH→Prop)(hk:LowH h.length h→Tryz.r174 G a0 a1 a2 h K):SCall Tryz.prog G 174 [a0,a1,a2] h K:=
 scall_of_rwp Tryz.tab174 [] Tryz.func174 rfl Tryz.ntmps174 (by kernel_rfl) (by show 3≤44;decide) (by kernel_rfl) (by kernel_rfl) hk
def Tryz.r175(G:Nat→Option AV) (a0 a1:AV)(h:AH) (K:AV→AH→Prop):Prop:=
 onlyB (AV.one a1) (newO (.cells 89 (AV.cells a1).length [AV.cells a1] 0) h fun i0 h1=>
 newO (.cells 157 4 [[(.v (.int .i64 0)),(.v (.int .i64 0)),(.v (.string (ByteArray.mk #[]))),(.v (.slice none 0 0))]] 0) h1 fun i2 h3=>
 okStr (aLoad Tryz.prog h3 9 (.ptr i0 0 0 2)) fun s4=>
 condB (decide (((ByteArray.size s4:Nat):Int) > 4096))
 (storeR Tryz.prog h3 (fun v5 h6=>
 okV (aLoad Tryz.prog h6 157 (.ptr i2 0 0 0)) fun v7=>
 RetR h K v7 h6) 157 (.agg [(.v (.int .i64 93)),(.v (.int .i64 0)),(.v (.string (ByteArray.mk #[]))),(.v (.slice none 0 0))]) (.ptr i2 0 0 0))
 (okV (aNil a0) fun v8=>
 okV (aFA Tryz.prog 149 0 v8) fun v9=>
 okV (aLoad Tryz.prog h3 47 v9) fun v10=>
 okInt .i64 (aLen Tryz.prog h3 47 v10) fun n11=>
 condB (decide (n11≥4096))
 (storeR Tryz.prog h3 (fun v12 h13=>
 okV (aLoad Tryz.prog h13 157 (.ptr i2 0 0 0)) fun v14=>
 RetR h K v14 h13) 157 (.agg [(.v (.int .i64 22)),(.v (.int .i64 0)),(.v (.string (ByteArray.mk #[]))),(.v (.slice none 0 0))]) (.ptr i2 0 0 0))
 (okStr (aLoad Tryz.prog h3 9 (.ptr i0 0 0 1)) fun s15=>
 okInt .i64 (aLoad Tryz.prog h3 3 (.ptr i0 0 0 3)) fun n16=>
 okStr (aLoad Tryz.prog h3 9 (.ptr i0 0 0 2)) fun s17=>
 callR Tryz.prog G 123 [a0,(.agg [(.v (.string s15)),(.v (.int .i64 n16)),(.v (.string s17))])] h3 (fun v18 h19=>
 okInt .i64 (aLoad Tryz.prog h19 3 (.ptr i0 0 0 3)) fun n20=>
 storeR Tryz.prog h19 (fun v21 h22=>
 okV (aLoad Tryz.prog h22 157 (.ptr i2 0 0 0)) fun v23=>
 RetR h K v23 h22) 157 (.agg [(.v (.int .i64 0)),(.v (.int .i64 n20)),(.v (.string (ByteArray.mk #[]))),(.v (.slice none 0 0))]) (.ptr i2 0 0 0)))))
theorem Tryz.c175(G:Nat→Option AV) (a0 a1:AV)(h:AH) (K:AV→AH→Prop)(hk:LowH h.length h→Tryz.r175 G a0 a1 h K):SCall Tryz.prog G 175 [a0,a1] h K:=
 scall_of_rwp Tryz.tab175 [] Tryz.func175 rfl Tryz.ntmps175 (by kernel_rfl) (by show 2≤29;decide) (by kernel_rfl) (by kernel_rfl) hk
def Tryz.r179(a0:AV)(h:AH) (K:AV→AH→Prop):Prop:=
 okInt .i64 (some a0) fun n0=>
 okInt .i64 (some a0) fun n1=>
 RetR h K (.v (.bool (n0 != n1))) h
theorem Tryz.c179(G:Nat→Option AV) (a0:AV)(h:AH) (K:AV→AH→Prop)(hk:LowH h.length h→Tryz.r179 a0 h K):SCall Tryz.prog G 179 [a0] h K:=
 scall_of_rwp Tryz.tab179 [] Tryz.func179 rfl Tryz.ntmps179 (by kernel_rfl) (by show 1≤6;decide) (by kernel_rfl) (by kernel_rfl) hk
def Tryz.r180_l1_0(K:AV→AH→Prop)(h:AH) (a0:AV) (a1:AV) (a2:AV) (a3:AV) (n20:Int):Prop:=
 ∃(I0:Nat→List AV→AH→Prop) (m1:Nat),I0 m1 [(.v (.int .i64 n20))] h∧∀(m2:Nat) (h3:AH),h.length≤h3.length→LowH h3.length h3→∀(n4:Int),I0 m2 [(.v (.int .i64 n4))] h3 →
 okInt .i64 (some a3) fun n5=>
 condB (decide (n4<n5))
 (okInt .i64 (some a1) fun n6=>
 okInt .i64 (some a2) fun n7=>
 okInt .i64 (some a2) fun n8=>
 okV (aIA Tryz.prog h3 47 a0 (.v (.int .i64 (IntKind.wrap .i64 (n8+n4))))) fun v9=>
 okV (aLoad Tryz.prog h3 131 v9) fun v10=>
 okInt .i64 (some a1) fun n11=>
 okV (aIA Tryz.prog h3 47 a0 (.v (.int .i64 (IntKind.wrap .i64 (n11+n4))))) fun v12=>
 okV (aLoad Tryz.prog h3 131 v12) fun v13=>
 okV (aIA Tryz.prog h3 47 a0 (.v (.int .i64 (IntKind.wrap .i64 (n6+n4))))) fun v14=>
 storeR Tryz.prog h3 (fun v15 h16=>
 okV (aIA Tryz.prog h16 47 a0 (.v (.int .i64 (IntKind.wrap .i64 (n7+n4))))) fun v17=>
 storeR Tryz.prog h16 (fun v18 h19=>
 nextR h I0 m2 [some a0,some a1,some a2,some a3] [some a0,some a1,some a2,some a3] [(.v (.int .i64 (IntKind.wrap .i64 (n4+1))))] h19) 131 v13 v17) 131 v10 v14)
 (RetR h K (.tup []) h3)
def Tryz.r180(a0 a1 a2 a3 a4:AV)(h:AH) (K:AV→AH→Prop):Prop:=
 Tryz.r180_l1_0 K h a0 a1 a2 a3 0
theorem Tryz.c180(G:Nat→Option AV) (a0 a1 a2 a3 a4:AV)(h:AH) (K:AV→AH→Prop)(hk:LowH h.length h→Tryz.r180 a0 a1 a2 a3 a4 h K):SCall Tryz.prog G 180 [a0,a1,a2,a3,a4] h K:=
 scall_of_rwp Tryz.tab180 [(1, [(10,(.int .i64))], [0,1,2,3])] Tryz.func180 rfl Tryz.ntmps180 (by kernel_rfl) (by show 5≤38;decide) (by kernel_rfl) (by kernel_rfl) hk
def Tryz.r223(G:Nat→Option AV) (a0 a1:AV)(h:AH) (K:AV→AH→Prop):Prop:=
 onlyB (AV.one a1) (newO (.cells 96 (AV.cells a1).length [AV.cells a1] 0) h fun i0 h1=>
 okV (aLoad Tryz.prog h1 96 (.ptr i0 0 0 0)) fun v2=>
 callR Tryz.prog G 93 [a0,v2] h1 (fun v3 h4=>
 okInt .i64 (extV 0 v3) fun n5=>
 okInt .i64 (extV 1 v3) fun n6=>
 callR Tryz.prog G 134 [a0,(.v (.int .i64 n5)),(.v (.int .i64 n6)),(.v (.slice none 0 0))] h4 (fun v7 h8=>
 RetR h K (.v (.int .i64 (IntKind.wrap .i64 (n6-n5)))) h8)))
theorem Tryz.c223(G:Nat→Option AV) (a0 a1:AV)(h:AH) (K:AV→AH→Prop)(hk:LowH h.length h→Tryz.r223 G a0 a1 h K):SCall Tryz.prog G 223 [a0,a1] h K:=
 scall_of_rwp Tryz.tab223 [] Tryz.func223 rfl Tryz.ntmps223 (by kernel_rfl) (by show 2≤20;decide) (by kernel_rfl) (by kernel_rfl) hk
end Go.Proofs
