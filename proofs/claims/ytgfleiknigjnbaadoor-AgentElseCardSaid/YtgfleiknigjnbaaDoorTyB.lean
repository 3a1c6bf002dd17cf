/- What functions do, as functions on plain types, written by a program and checked by the kernel. -/
import Derived.Test.YtgfleiknigjnbaaDoorDenDoor
import Derived.Test.YtgfleiknigjnbaaDoorTy
import Derived.Test.YtgfleiknigjnbaaDoorTyT
import Derived.Test.YtgfleiknigjnbaaDoorTyE
import Derived.Test.YtgfleiknigjnbaaDoorTyO
import Derived.Test.YtgfleiknigjnbaaDoorTyN
import Derived.Test.YtgfleiknigjnbaaDoorTyM
import Derived.Test.YtgfleiknigjnbaaDoorTyR
import Derived.Test.YtgfleiknigjnbaaDoorTyC
import Derived.Test.YtgfleiknigjnbaaDoorTyA
import Derived.Test.YtgfleiknigjnbaaDoorAgTy
import Derived.Test.YtgfleiknigjnbaaDoorDen14
import Derived.Test.YtgfleiknigjnbaaDoorClone
namespace Go.Proofs.YtgfleiknigjnbaaDoor.Ty
open Go Go.RowKit Go.Proofs.YtgfleiknigjnbaaDoor.Den
set_option linter.unusedVariables false
set_option maxRecDepth 100000

/-! railpoint/raillaw4.AgentElse -/
def an_raillaw4_AgentElse : Ann := .seq (.reg 0 [] [] []) (.seq (.reg 0 [] [] [21, 22]) (.seq (.seq (.reg 0 [] [] []) (.cond none (.seq (.reg 0 [] [] []) (.no)) (.no))) (.seq (.reg 0 [] [] [27, 28]) (.seq (.reg 0 [] [] []) (.seq (.seq (.reg 0 [] [] []) (.cond none (.seq (.reg 0 [] [] []) (.no)) (.no))) (.seq (.seq (.reg 0 [] [] []) (.blk (some [.o 5]) (.loop [.o 5, .s 10] (.seq (.seq (.reg 0 [] [] []) (.cond none (.no) (.no))) (.seq (.blk none (.seq (.reg 0 [] [] [2000050, 4000050]) (.seq (.reg 0 [] [] []) (.seq (.reg 0 [] [] [2000066, 4000066]) (.seq (.reg 0 [] [] []) (.seq (.reg 0 [] [] []) (.seq (.reg 47 [] [] [2000095, 4000095]) (.cond none (.seq (.reg 0 [] [] []) (.no)) (.no))))))))) (.reg 0 [] [] [])))))) (.seq (.reg 0 [] [] [2000127, 3000127]) (.seq (.reg 0 [] [] [2000133, 3000133]) (.no)))))))))
noncomputable def sem_raillaw4_AgentElse (n : Nat) (xs : List V) : Option V := if xs.length ≤ 137 then denF Tryd.prog (envOf [(8 + 1000000, (sem_agent_New n)), (9, (sem_Error n)), (10 + 1000000 * (987654321 + 2), (semL_Heard)), (11 + 1000000, (sem_agent_Agent_Hear n)), (12, (sem_railsame_Msgs n)), (14 + 1000000 * (35 + 2), (sem_agent_Agent_Table n)), (13, (sem_railsame_Table n)), (15 + 1000000 * (3 + 2), (sem_agent_Agent_Done n))]) n Tryd.f3 an_raillaw4_AgentElse xs else none
theorem ok_raillaw4_AgentElse (n : Nat) : SemOk Tryd.prog DW 3 (sem_raillaw4_AgentElse n) := fun xs y h => by
  unfold sem_raillaw4_AgentElse at h
  split at h
  · rename_i hl
    exact denF_ok stb Tryd.func3 (by kernel_rfl) (envOf_ok (semsOk_consM (ok_agent_New n) (semsOk_cons (ok_Error n) (semsOk_consL (okL_Heard) (semsOk_consM (ok_agent_Agent_Hear n) (semsOk_cons (ok_railsame_Msgs n) (semsOk_consR (ok_agent_Agent_Table n) (semsOk_cons (ok_railsame_Table n) (semsOk_consR (ok_agent_Agent_Done n) semsOk_nil))))))))) (by rw [Tryd.ntmps3]; exact hl) h
  · cases h
theorem eq_raillaw4_AgentElse (n : Nat) (x0 x1 : V) : sem_raillaw4_AgentElse n [x0, x1] =
 ((sem_agent_New n) [(vi 2), x0]).bind fun z1 =>
 partK (tupAt z1 0) 0 (fun l3 c4 =>
 partP (V.tup l3) 1 fun v5 =>
 (bin2 Tryd.prog BinOp.neq 27 (ot 24) (Operand.const Go.Value.nilIface) v5 vn).bind fun v6 =>
 condV v6 (
 some (vb true)) (
 ((sem_agent_New n) [(vi 7), (V.sl [])]).bind fun z7 =>
 partK (tupAt z7 0) 0 (fun l9 c10 =>
 partP (V.tup l9) 1 fun v11 =>
 ((sem_Error n) [v11, (vi 1)]).bind fun v12 =>
 (scal1 Tryd.prog (Op.unary Go.UnOp.not) v12).bind fun v13 =>
 condV v13 (
 some (vb false)) (
 JoinPt (fun vs14 =>
 (some (frzQ (List.getD vs14 0 V.any))).bind fun v16 =>
 ((sem_agent_Agent_Table n) [v16]).bind fun v18 =>
 (flatQ v18).bind fun v17 =>
 ((sem_railsame_Table n) [v17, x0]).bind fun v19 =>
 (guardV v19 true (some V.any)).bind fun v20 =>
 (guardV v19 true ((some (gateA [(v19, true)] (frzQ (List.getD vs14 0 V.any)))).bind fun v21 =>
 ((sem_agent_Agent_Done n) [v21]).bind flatQ)).bind fun v22 =>
 (guardV v19 true ((lenS [v22]).bind fun v23 =>
 some v23)).bind fun v24 =>
 (guardV v19 true ((bin2 Tryd.prog BinOp.eql 3 (ot 134) (oc 0) v24 (vi 0)).bind fun v25 =>
 some v25)).bind fun v26 =>
 (pickV v19 v26 (vb false)).bind fun v27 =>
 some v27) fun J15 =>
 (fixN (fun rec28 vs29 =>
 (lenS [x1]).bind fun v30 =>
 (bin2 Tryd.prog BinOp.lss 3 (ot 34) (ot 36) (List.getD vs29 1 V.any) v30).bind fun v31 =>
 (guardV v31 true (some (List.getD vs29 1 V.any))).bind fun v32 =>
 (guardV v31 true ((bin2 Tryd.prog BinOp.lss 3 (ot 39) (oc 40) v32 (vi 40)).bind fun v33 =>
 some v33)).bind fun v34 =>
 (pickV v31 v34 (vb false)).bind fun v35 =>
 condV v35 (
 (idxS 12 x1 (List.getD vs29 1 V.any)).bind fun v36 =>
 (ptrF 2 v36).bind fun v37 =>
 (ldp none v37).bind fun v38 =>
 (some (objQ (List.getD vs29 0 V.any))).bind fun v39 =>
 ((semL_Heard) [v39, v38]).bind fun v41 =>
 (litQ v41).bind fun v40 =>
 (idxS 12 x1 (List.getD vs29 1 V.any)).bind fun v42 =>
 (ldp (some 12) v42).bind fun v43 =>
 (objG (List.getD vs29 0 V.any)).bind fun v44 =>
 ((sem_agent_Agent_Hear n) [(List.getD vs29 0 V.any), v43]).bind fun z45 =>
 (pureO (tupAt z45 0)).bind fun v46 =>
 (extractV v46 0).bind fun v47 =>
 (extractV v46 1).bind fun v48 =>
 (idxS 12 x1 (List.getD vs29 1 V.any)).bind fun v49 =>
 (ptrF 2 v49).bind fun v50 =>
 (ldp none v50).bind fun v51 =>
 (some (objQ (tupAt z45 1))).bind fun v52 =>
 ((semL_Heard) [v52, v51]).bind fun v54 =>
 (litQ v54).bind fun v53 =>
 (idxS 12 x1 (List.getD vs29 1 V.any)).bind fun v55 =>
 (ldp (some 12) v55).bind fun v56 =>
 (objG (tupAt z45 1)).bind fun v57 =>
 ((sem_agent_Agent_Hear n) [(tupAt z45 1), v56]).bind fun z58 =>
 (pureO (tupAt z58 0)).bind fun v59 =>
 (extractV v59 0).bind fun v60 =>
 (extractV v59 1).bind fun v61 =>
 ((sem_railsame_Msgs n) [v47, v60]).bind fun v62 =>
 (scal1 Tryd.prog (Op.unary Go.UnOp.not) v62).bind fun v63 =>
 (guardV v63 false (some v48)).bind fun v64 =>
 (guardV v63 false ((bin2 Tryd.prog BinOp.eql 27 (ot 82) (Operand.const Go.Value.nilIface) v64 vn).bind fun v65 =>
 some v65)).bind fun v66 =>
 (guardV v63 false (some v61)).bind fun v67 =>
 (guardV v63 false ((bin2 Tryd.prog BinOp.eql 27 (ot 84) (Operand.const Go.Value.nilIface) v67 vn).bind fun v68 =>
 some v68)).bind fun v69 =>
 (guardV v63 false ((bin2 Tryd.prog BinOp.neq 4 (ot 83) (ot 85) v66 v69).bind fun v70 =>
 some v70)).bind fun v71 =>
 (pickV v63 (vb true) v71).bind fun v72 =>
 (guardV v72 false (some V.any)).bind fun v73 =>
 (guardV v72 false (some x1)).bind fun v74 =>
 (guardV v72 false (some (List.getD vs29 1 V.any))).bind fun v75 =>
 (guardV v72 false ((idxS 12 v74 v75).bind fun v76 =>
 some v76)).bind fun v77 =>
 (guardV v72 false ((ptrF 2 v77).bind fun v78 =>
 some v78)).bind fun v79 =>
 (guardV v72 false ((ldp none v79).bind fun v80 =>
 some v80)).bind fun v81 =>
 (guardV v72 false ((some (gateA [(v72, false)] (objQ (tupAt z58 1)))).bind fun v82 =>
 ((semL_Heard) [v82, v81]).bind litQ)).bind fun v83 =>
 (guardV v72 false (some v53)).bind fun v84 =>
 (guardV v72 false ((bin2 Tryd.prog BinOp.neq 3 (ot 95) (ot 96) v83 v84).bind fun v85 =>
 some v85)).bind fun v86 =>
 (pickV v72 (vb true) v86).bind fun v87 =>
 (guardV v87 false (some v53)).bind fun v88 =>
 (guardV v87 false (some v40)).bind fun v89 =>
 (guardV v87 false ((bin2 Tryd.prog BinOp.add 3 (ot 101) (oc 1) v89 (vi 1)).bind fun v90 =>
 some v90)).bind fun v91 =>
 (guardV v87 false ((bin2 Tryd.prog BinOp.gtr 3 (ot 100) (ot 102) v88 v91).bind fun v92 =>
 some v92)).bind fun v93 =>
 (pickV v87 (vb true) v93).bind fun v94 =>
 (guardV v94 false (some v48)).bind fun v95 =>
 (guardV v94 false ((bin2 Tryd.prog BinOp.neq 27 (ot 106) (Operand.const Go.Value.nilIface) v95 vn).bind fun v96 =>
 some v96)).bind fun v97 =>
 (guardV v94 false (some v97)).bind fun v98 =>
 (guardV v98 true (some v53)).bind fun v99 =>
 (guardV v98 true (some v40)).bind fun v100 =>
 (guardV v98 true ((bin2 Tryd.prog BinOp.neq 3 (ot 109) (ot 110) v99 v100).bind fun v101 =>
 some v101)).bind fun v102 =>
 (guardV v94 false ((pickV v98 v102 (vb false)).bind fun v103 =>
 some v103)).bind fun v104 =>
 (pickV v94 (vb true) v104).bind fun v105 =>
 (guardV v105 false (some x1)).bind fun v106 =>
 (guardV v105 false (some (List.getD vs29 1 V.any))).bind fun v107 =>
 (guardV v105 false ((idxS 12 v106 v107).bind fun v108 =>
 some v108)).bind fun v109 =>
 (guardV v105 false ((ptrF 1 v109).bind fun v110 =>
 some v110)).bind fun v111 =>
 (guardV v105 false ((ldp none v111).bind fun v112 =>
 some v112)).bind fun v113 =>
 (guardV v105 false ((bin2 Tryd.prog BinOp.neq 3 (ot 119) (oc 2) v113 (vi 2)).bind fun v114 =>
 some v114)).bind fun v115 =>
 (guardV v105 false (some v115)).bind fun v116 =>
 (guardV v116 true (some v48)).bind fun v117 =>
 (guardV v116 true ((bin2 Tryd.prog BinOp.eql 27 (ot 122) (Operand.const Go.Value.nilIface) v117 vn).bind fun v118 =>
 some v118)).bind fun v119 =>
 (guardV v105 false ((pickV v116 v119 (vb false)).bind fun v120 =>
 some v120)).bind fun v121 =>
 (pickV v105 (vb true) v121).bind fun v122 =>
 condV v122 (
 some (vb false)) (
 (bin2 Tryd.prog BinOp.add 3 (ot 42) (oc 1) (List.getD vs29 1 V.any) (vi 1)).bind fun v123 =>
 rec28 [(tupAt z58 1), v123])) (
 J15 [(List.getD vs29 0 V.any)])) n) [(V.obj c4), (vi 0)])) fun v8 =>
 partP (tupAt z7 0) 1 fun v124 =>
 ((sem_Error n) [v124, (vi 1)]).bind fun v125 =>
 (scal1 Tryd.prog (Op.unary Go.UnOp.not) v125).bind fun v126 =>
 condV v126 (
 some (vb false)) (
 JoinPt (fun vs127 =>
 (some (frzQ (List.getD vs127 0 V.any))).bind fun v129 =>
 ((sem_agent_Agent_Table n) [v129]).bind fun v131 =>
 (flatQ v131).bind fun v130 =>
 ((sem_railsame_Table n) [v130, x0]).bind fun v132 =>
 (guardV v132 true (some V.any)).bind fun v133 =>
 (guardV v132 true ((some (gateA [(v132, true)] (frzQ (List.getD vs127 0 V.any)))).bind fun v134 =>
 ((sem_agent_Agent_Done n) [v134]).bind flatQ)).bind fun v135 =>
 (guardV v132 true ((lenS [v135]).bind fun v136 =>
 some v136)).bind fun v137 =>
 (guardV v132 true ((bin2 Tryd.prog BinOp.eql 3 (ot 134) (oc 0) v137 (vi 0)).bind fun v138 =>
 some v138)).bind fun v139 =>
 (pickV v132 v139 (vb false)).bind fun v140 =>
 some v140) fun J128 =>
 (fixN (fun rec141 vs142 =>
 (lenS [x1]).bind fun v143 =>
 (bin2 Tryd.prog BinOp.lss 3 (ot 34) (ot 36) (List.getD vs142 1 V.any) v143).bind fun v144 =>
 (guardV v144 true (some (List.getD vs142 1 V.any))).bind fun v145 =>
 (guardV v144 true ((bin2 Tryd.prog BinOp.lss 3 (ot 39) (oc 40) v145 (vi 40)).bind fun v146 =>
 some v146)).bind fun v147 =>
 (pickV v144 v147 (vb false)).bind fun v148 =>
 condV v148 (
 (idxS 12 x1 (List.getD vs142 1 V.any)).bind fun v149 =>
 (ptrF 2 v149).bind fun v150 =>
 (ldp none v150).bind fun v151 =>
 (some (objQ (List.getD vs142 0 V.any))).bind fun v152 =>
 ((semL_Heard) [v152, v151]).bind fun v154 =>
 (litQ v154).bind fun v153 =>
 (idxS 12 x1 (List.getD vs142 1 V.any)).bind fun v155 =>
 (ldp (some 12) v155).bind fun v156 =>
 (objG (List.getD vs142 0 V.any)).bind fun v157 =>
 ((sem_agent_Agent_Hear n) [(List.getD vs142 0 V.any), v156]).bind fun z158 =>
 (pureO (tupAt z158 0)).bind fun v159 =>
 (extractV v159 0).bind fun v160 =>
 (extractV v159 1).bind fun v161 =>
 (idxS 12 x1 (List.getD vs142 1 V.any)).bind fun v162 =>
 (ptrF 2 v162).bind fun v163 =>
 (ldp none v163).bind fun v164 =>
 (some (objQ (tupAt z158 1))).bind fun v165 =>
 ((semL_Heard) [v165, v164]).bind fun v167 =>
 (litQ v167).bind fun v166 =>
 (idxS 12 x1 (List.getD vs142 1 V.any)).bind fun v168 =>
 (ldp (some 12) v168).bind fun v169 =>
 (objG (tupAt z158 1)).bind fun v170 =>
 ((sem_agent_Agent_Hear n) [(tupAt z158 1), v169]).bind fun z171 =>
 (pureO (tupAt z171 0)).bind fun v172 =>
 (extractV v172 0).bind fun v173 =>
 (extractV v172 1).bind fun v174 =>
 ((sem_railsame_Msgs n) [v160, v173]).bind fun v175 =>
 (scal1 Tryd.prog (Op.unary Go.UnOp.not) v175).bind fun v176 =>
 (guardV v176 false (some v161)).bind fun v177 =>
 (guardV v176 false ((bin2 Tryd.prog BinOp.eql 27 (ot 82) (Operand.const Go.Value.nilIface) v177 vn).bind fun v178 =>
 some v178)).bind fun v179 =>
 (guardV v176 false (some v174)).bind fun v180 =>
 (guardV v176 false ((bin2 Tryd.prog BinOp.eql 27 (ot 84) (Operand.const Go.Value.nilIface) v180 vn).bind fun v181 =>
 some v181)).bind fun v182 =>
 (guardV v176 false ((bin2 Tryd.prog BinOp.neq 4 (ot 83) (ot 85) v179 v182).bind fun v183 =>
 some v183)).bind fun v184 =>
 (pickV v176 (vb true) v184).bind fun v185 =>
 (guardV v185 false (some V.any)).bind fun v186 =>
 (guardV v185 false (some x1)).bind fun v187 =>
 (guardV v185 false (some (List.getD vs142 1 V.any))).bind fun v188 =>
 (guardV v185 false ((idxS 12 v187 v188).bind fun v189 =>
 some v189)).bind fun v190 =>
 (guardV v185 false ((ptrF 2 v190).bind fun v191 =>
 some v191)).bind fun v192 =>
 (guardV v185 false ((ldp none v192).bind fun v193 =>
 some v193)).bind fun v194 =>
 (guardV v185 false ((some (gateA [(v185, false)] (objQ (tupAt z171 1)))).bind fun v195 =>
 ((semL_Heard) [v195, v194]).bind litQ)).bind fun v196 =>
 (guardV v185 false (some v166)).bind fun v197 =>
 (guardV v185 false ((bin2 Tryd.prog BinOp.neq 3 (ot 95) (ot 96) v196 v197).bind fun v198 =>
 some v198)).bind fun v199 =>
 (pickV v185 (vb true) v199).bind fun v200 =>
 (guardV v200 false (some v166)).bind fun v201 =>
 (guardV v200 false (some v153)).bind fun v202 =>
 (guardV v200 false ((bin2 Tryd.prog BinOp.add 3 (ot 101) (oc 1) v202 (vi 1)).bind fun v203 =>
 some v203)).bind fun v204 =>
 (guardV v200 false ((bin2 Tryd.prog BinOp.gtr 3 (ot 100) (ot 102) v201 v204).bind fun v205 =>
 some v205)).bind fun v206 =>
 (pickV v200 (vb true) v206).bind fun v207 =>
 (guardV v207 false (some v161)).bind fun v208 =>
 (guardV v207 false ((bin2 Tryd.prog BinOp.neq 27 (ot 106) (Operand.const Go.Value.nilIface) v208 vn).bind fun v209 =>
 some v209)).bind fun v210 =>
 (guardV v207 false (some v210)).bind fun v211 =>
 (guardV v211 true (some v166)).bind fun v212 =>
 (guardV v211 true (some v153)).bind fun v213 =>
 (guardV v211 true ((bin2 Tryd.prog BinOp.neq 3 (ot 109) (ot 110) v212 v213).bind fun v214 =>
 some v214)).bind fun v215 =>
 (guardV v207 false ((pickV v211 v215 (vb false)).bind fun v216 =>
 some v216)).bind fun v217 =>
 (pickV v207 (vb true) v217).bind fun v218 =>
 (guardV v218 false (some x1)).bind fun v219 =>
 (guardV v218 false (some (List.getD vs142 1 V.any))).bind fun v220 =>
 (guardV v218 false ((idxS 12 v219 v220).bind fun v221 =>
 some v221)).bind fun v222 =>
 (guardV v218 false ((ptrF 1 v222).bind fun v223 =>
 some v223)).bind fun v224 =>
 (guardV v218 false ((ldp none v224).bind fun v225 =>
 some v225)).bind fun v226 =>
 (guardV v218 false ((bin2 Tryd.prog BinOp.neq 3 (ot 119) (oc 2) v226 (vi 2)).bind fun v227 =>
 some v227)).bind fun v228 =>
 (guardV v218 false (some v228)).bind fun v229 =>
 (guardV v229 true (some v161)).bind fun v230 =>
 (guardV v229 true ((bin2 Tryd.prog BinOp.eql 27 (ot 122) (Operand.const Go.Value.nilIface) v230 vn).bind fun v231 =>
 some v231)).bind fun v232 =>
 (guardV v218 false ((pickV v229 v232 (vb false)).bind fun v233 =>
 some v233)).bind fun v234 =>
 (pickV v218 (vb true) v234).bind fun v235 =>
 condV v235 (
 some (vb false)) (
 (bin2 Tryd.prog BinOp.add 3 (ot 42) (oc 1) (List.getD vs142 1 V.any) (vi 1)).bind fun v236 =>
 rec141 [(tupAt z171 1), v236])) (
 J128 [(List.getD vs142 0 V.any)])) n) [(V.obj c4), (vi 0)]))) fun v2 =>
 partP (tupAt z1 0) 1 fun v237 =>
 (bin2 Tryd.prog BinOp.neq 27 (ot 24) (Operand.const Go.Value.nilIface) v237 vn).bind fun v238 =>
 condV v238 (
 some (vb true)) (
 ((sem_agent_New n) [(vi 7), (V.sl [])]).bind fun z239 =>
 partK (tupAt z239 0) 0 (fun l241 c242 =>
 partP (V.tup l241) 1 fun v243 =>
 ((sem_Error n) [v243, (vi 1)]).bind fun v244 =>
 (scal1 Tryd.prog (Op.unary Go.UnOp.not) v244).bind fun v245 =>
 condV v245 (
 some (vb false)) (
 JoinPt (fun vs246 =>
 ((sem_agent_Agent_Table n) [v2]).bind fun v249 =>
 (flatQ v249).bind fun v248 =>
 ((sem_railsame_Table n) [v248, x0]).bind fun v250 =>
 (guardV v250 true (some v2)).bind fun v251 =>
 (guardV v250 true (((sem_agent_Agent_Done n) [v251]).bind flatQ)).bind fun v252 =>
 (guardV v250 true ((lenS [v252]).bind fun v253 =>
 some v253)).bind fun v254 =>
 (guardV v250 true ((bin2 Tryd.prog BinOp.eql 3 (ot 134) (oc 0) v254 (vi 0)).bind fun v255 =>
 some v255)).bind fun v256 =>
 (pickV v250 v256 (vb false)).bind fun v257 =>
 some v257) fun J247 =>
 none)) fun v240 =>
 partP (tupAt z239 0) 1 fun v273 =>
 ((sem_Error n) [v273, (vi 1)]).bind fun v274 =>
 (scal1 Tryd.prog (Op.unary Go.UnOp.not) v274).bind fun v275 =>
 condV v275 (
 some (vb false)) (
 JoinPt (fun vs276 =>
 ((sem_agent_Agent_Table n) [v2]).bind fun v279 =>
 (flatQ v279).bind fun v278 =>
 ((sem_railsame_Table n) [v278, x0]).bind fun v280 =>
 (guardV v280 true (some v2)).bind fun v281 =>
 (guardV v280 true (((sem_agent_Agent_Done n) [v281]).bind flatQ)).bind fun v282 =>
 (guardV v280 true ((lenS [v282]).bind fun v283 =>
 some v283)).bind fun v284 =>
 (guardV v280 true ((bin2 Tryd.prog BinOp.eql 3 (ot 134) (oc 0) v284 (vi 0)).bind fun v285 =>
 some v285)).bind fun v286 =>
 (pickV v280 v286 (vb false)).bind fun v287 =>
 some v287) fun J277 =>
 none)) := by kernel_rfl
noncomputable def t_raillaw4_AgentElse (a0 : (List T_Rule)) (a1 : (List T_Msg)) : Option Bool :=
 (t_agent_New 2 a0).bind fun r2 =>
 (caseO r2.1 (fun d6 => (
 if (!decide (r2.2 = 0)) = true then (
 some true) else (
 (t_agent_New 7 []).bind fun r11 =>
 (caseO r11.1 (fun d15 => (
 (t_railsame_Error r11.2 1).bind fun r18 =>
 if (!r18) = true then (
 some false) else (
 join (fun (s23 : T_agent_Agent) =>
 (t_agent_Agent_Table s23).bind fun r27 =>
 (t_railsame_Table r27 a0).bind fun r30 =>
 (gd r30 default (t_agent_Agent_Done s23)).bind fun r35 =>
 some (r30 && (decide ((List.length r35 : Int) = 0)))) fun j24 =>
 loopI a1 (fun (i50 : Int) x51 (s46 : T_agent_Agent) k47 =>
 if (decide (i50 < 40)) = true then (
 (t_agent_Agent_Heard s46 x51.Round).bind fun r66 =>
 (t_agent_Agent_Hear s46 x51).bind fun r72 =>
 (t_agent_Agent_Heard r72.2.2 x51.Round).bind fun r80 =>
 (t_agent_Agent_Hear r72.2.2 x51).bind fun r86 =>
 (t_railsame_Msgs r72.1 r86.1).bind fun r91 =>
 (gd (!((!r91) || ((decide (r72.2.1 = 0)) != (decide (r86.2.1 = 0))))) default (t_agent_Agent_Heard r86.2.2 x51.Round)).bind fun r124 =>
 (some (((((!r91) || ((decide (r72.2.1 = 0)) != (decide (r86.2.1 = 0)))) || (decide (r124 ≠ r80))) || (decide ((wr (r66 + 1)) < r80))) || ((!decide (r72.2.1 = 0)) && (decide (r80 ≠ r66))))).bind fun r161 =>
 if (r161 || ((decide (x51.Switch ≠ 2)) && (decide (r72.2.1 = 0)))) = true then (
 some false) else (
 k47 (r86.2.2))) else (
 j24 (s46))) (fun (s46 : T_agent_Agent) =>
 j24 (s46)) (d6)))) (
 (t_railsame_Error r11.2 1).bind fun r202 =>
 if (!r202) = true then (
 some false) else (
 join (fun (s207 : T_agent_Agent) =>
 (t_agent_Agent_Table s207).bind fun r211 =>
 (t_railsame_Table r211 a0).bind fun r214 =>
 (gd r214 default (t_agent_Agent_Done s207)).bind fun r219 =>
 some (r214 && (decide ((List.length r219 : Int) = 0)))) fun j208 =>
 loopI a1 (fun (i234 : Int) x235 (s230 : T_agent_Agent) k231 =>
 if (decide (i234 < 40)) = true then (
 (t_agent_Agent_Heard s230 x235.Round).bind fun r250 =>
 (t_agent_Agent_Hear s230 x235).bind fun r256 =>
 (t_agent_Agent_Heard r256.2.2 x235.Round).bind fun r264 =>
 (t_agent_Agent_Hear r256.2.2 x235).bind fun r270 =>
 (t_railsame_Msgs r256.1 r270.1).bind fun r275 =>
 (gd (!((!r275) || ((decide (r256.2.1 = 0)) != (decide (r270.2.1 = 0))))) default (t_agent_Agent_Heard r270.2.2 x235.Round)).bind fun r308 =>
 (some (((((!r275) || ((decide (r256.2.1 = 0)) != (decide (r270.2.1 = 0)))) || (decide (r308 ≠ r264))) || (decide ((wr (r250 + 1)) < r264))) || ((!decide (r256.2.1 = 0)) && (decide (r264 ≠ r250))))).bind fun r345 =>
 if (r345 || ((decide (x235.Switch ≠ 2)) && (decide (r256.2.1 = 0)))) = true then (
 some false) else (
 k231 (r270.2.2))) else (
 j208 (s230))) (fun (s230 : T_agent_Agent) =>
 j208 (s230)) (d6))))))) (
 if (!decide (r2.2 = 0)) = true then (
 some true) else (
 (t_agent_New 7 []).bind fun r388 =>
 (caseO r388.1 (fun d392 => (
 (t_railsame_Error r388.2 1).bind fun r395 =>
 if (!r395) = true then (
 some false) else (
 none))) (
 (t_railsame_Error r388.2 1).bind fun r405 =>
 if (!r405) = true then (
 some false) else (
 none))))))
theorem ty_raillaw4_AgentElse {n : Nat} (hn : bigN ≤ n) (a0 : (List T_Rule)) (a1 : (List T_Msg)) : Rv (fun x : Bool => (vb x)) (sem_raillaw4_AgentElse n [(V.sl (List.map T_Rule.c a0)), (V.sl (List.map T_Msg.c a1))]) (t_raillaw4_AgentElse a0 a1) := by
  rw [eq_raillaw4_AgentElse]
  unfold t_raillaw4_AgentElse
  refine tbo (ty_agent_New hn 2 a0) fun r2 => ?_
  refine tpartK (fun d6 => ?_) ?_
  · refine tpartP0 ?_
    refine tb (x := (vb (!decide (r2.2 = 0)))) (p_err_neq _) ?_
    refine tcond (fun h9 => ?_) (fun h9 => ?_)
    · exact rf_ret rfl
    · refine tbo (ty_agent_New hn 7 []) fun r11 => ?_
      refine tpartK (fun d15 => ?_) ?_
      · refine tpartP0 ?_
        refine tbo (ty_railsame_Error r11.2 1) fun r18 => ?_
        refine tb (x := (vb (!r18))) (d_not) ?_
        refine tcond (fun h20 => ?_) (fun h20 => ?_)
        · exact rf_ret rfl
        · refine tjoin (mk := fun s23 : T_agent_Agent => [(V.obj (agC s23))]) (fun s23 => ?_) fun J22 j24 h25 => ?_
          · refine tb (x := V.ptr (agF s23)) (p_frzQ (agFz s23)) ?_
            refine tbo (ty_agent_Agent_Table hn s23) fun r27 => ?_
            refine tb (x := (V.sl (List.map T_Rule.c r27))) (p_flatQ (fun _ => rfl) r27) ?_
            refine tbo (ty_railsame_Table hn r27 a0) fun r30 => ?_
            refine tg (x := V.any) (fun h31 => rfl) ?_
            refine tgo (e1 := fun r35 => (V.sl (List.map cI r35))) (fun h33 => ?_) fun r35 => ?_
            · refine tb (x := V.ptr (agF s23)) (p_gate1 h33 (p_frzQ (agFz s23))) ?_
              exact rf_flatQ (ty_agent_Agent_Done hn s23) (fun _ => rfl)
            · refine tg (x := (vi (List.length r35 : Int))) (fun h37 => by simp only [gv_t h37]; exact bind_some_eq (p_len _)) ?_
              refine tg (x := (vb (decide ((List.length r35 : Int) = 0)))) (fun h40 => by simp only [gv_t h40]; exact bind_some_eq (d_eql)) ?_
              refine tb (x := (vb (r30 && (decide ((List.length r35 : Int) = 0))))) (pick_and (fun h9 => gv_t h9)) ?_
              exact rf_ret rfl
          · refine rf_loopI (mk := fun (i50 : Int) (s46 : T_agent_Agent) => [(V.obj (agC s46)), (vi (i50 : Int))]) hn a1 (d6) (fun i50 x51 h52 h53 h54 s46 rec44 k47 h48 => ?_) (fun s46 rec192 h191 => ?_)
            · refine tb (x := (vi (List.length a1 : Int))) (p_len _) ?_
              refine tb (x := (vb (decide ((i50 : Int) < (List.length a1 : Int))))) (d_lss) ?_
              refine tb (x := (vi (i50 : Int))) (gkt h54 rfl) ?_
              refine tkt h54 (tb (x := (vb (decide ((i50 : Int) < 40)))) (d_lss) ?_)
              refine tb (x := (vb (decide ((i50 : Int) < 40)))) (pick_kt h54) ?_
              refine tcond (fun h61 => ?_) (fun h61 => ?_)
              · refine tb (x := (V.ptr (T_Msg.c x51))) (p_idx_at (c := T_Msg.c) (fun _ => rfl) h52) ?_
                refine tb (x := (V.ptr (List.drop 2 (T_Msg.c x51)))) (rfl) ?_
                refine tb (x := (vi x51.Round)) (rfl) ?_
                refine tb (x := (V.obj (agC s46))) ((rfl : _ = some (V.obj (agC s46)))) ?_
                refine tbo (tyL_Heard s46 x51.Round) fun r66 => ?_
                refine tb (x := (vi r66)) rfl ?_
                refine tb (x := (V.ptr (T_Msg.c x51))) (p_idx_at (c := T_Msg.c) (fun _ => rfl) h52) ?_
                refine tb (x := (T_Msg.e x51)) (rfl) ?_
                refine tb (x := V.any) rfl ?_
                refine tbo (ty_agent_Agent_Hear hn s46 x51) fun r72 => ?_
                refine tb (x := (V.tup [(V.sl (List.map T_Msg.c r72.1)), (eV r72.2.1)])) rfl ?_
                refine tb (x := (V.sl (List.map T_Msg.c r72.1))) (rfl) ?_
                refine tb (x := (eV r72.2.1)) (rfl) ?_
                refine tb (x := (V.ptr (T_Msg.c x51))) (p_idx_at (c := T_Msg.c) (fun _ => rfl) h52) ?_
                refine tb (x := (V.ptr (List.drop 2 (T_Msg.c x51)))) (rfl) ?_
                refine tb (x := (vi x51.Round)) (rfl) ?_
                refine tb (x := (V.obj (agC r72.2.2))) ((rfl : _ = some (V.obj (agC r72.2.2)))) ?_
                refine tbo (tyL_Heard r72.2.2 x51.Round) fun r80 => ?_
                refine tb (x := (vi r80)) rfl ?_
                refine tb (x := (V.ptr (T_Msg.c x51))) (p_idx_at (c := T_Msg.c) (fun _ => rfl) h52) ?_
                refine tb (x := (T_Msg.e x51)) (rfl) ?_
                refine tb (x := V.any) rfl ?_
                refine tbo (ty_agent_Agent_Hear hn r72.2.2 x51) fun r86 => ?_
                refine tb (x := (V.tup [(V.sl (List.map T_Msg.c r86.1)), (eV r86.2.1)])) rfl ?_
                refine tb (x := (V.sl (List.map T_Msg.c r86.1))) (rfl) ?_
                refine tb (x := (eV r86.2.1)) (rfl) ?_
                refine tbo (ty_railsame_Msgs hn r72.1 r86.1) fun r91 => ?_
                refine tb (x := (vb (!r91))) (d_not) ?_
                refine tg_f (x := (eV r72.2.1)) (fun h93 => rfl) ?_
                refine tg_f (x := (vb (decide (r72.2.1 = 0)))) (fun h95 => by simp only [gv_t h95]; exact bind_some_eq (p_err_eql _)) ?_
                refine tg_f (x := (eV r86.2.1)) (fun h98 => rfl) ?_
                refine tg_f (x := (vb (decide (r86.2.1 = 0)))) (fun h100 => by simp only [gv_t h100]; exact bind_some_eq (p_err_eql _)) ?_
                refine tg_f (x := (vb ((decide (r72.2.1 = 0)) != (decide (r86.2.1 = 0))))) (fun h103 => by simp only [gv_t h103]; exact bind_some_eq (p_neq_bool (Tryd.underlying4))) ?_
                refine tb (x := (vb ((!r91) || ((decide (r72.2.1 = 0)) != (decide (r86.2.1 = 0)))))) (pick_or (fun h9 => gv_t (not_f h9))) ?_
                refine tg_f (x := V.any) (fun h107 => rfl) ?_
                refine tg_f (x := (V.sl (List.map T_Msg.c a1))) (fun h109 => rfl) ?_
                refine tg_f (x := (vi (i50 : Int))) (fun h111 => rfl) ?_
                refine tg_f (x := (V.ptr (T_Msg.c x51))) (fun h113 => by simp only [gv_t h113]; exact bind_some_eq (p_idx_at (c := T_Msg.c) (fun _ => rfl) h52)) ?_
                refine tg_f (x := (V.ptr (List.drop 2 (T_Msg.c x51)))) (fun h116 => by first | exact bind_some_eq (rfl) | (simp only [gv_t h116]; exact bind_some_eq (rfl))) ?_
                refine tg_f (x := (vi x51.Round)) (fun h119 => by first | exact bind_some_eq (rfl) | (simp only [gv_t h119]; exact bind_some_eq (rfl))) ?_
                refine tgo_f (e1 := fun r124 => (vi r124)) (fun h122 => ?_) fun r124 => ?_
                · simp only [gv_t h122]
                  refine tb (x := (V.obj (agC r86.2.2))) (p_gate1 (not_t h122) ((rfl : _ = some (V.obj (agC r86.2.2))))) ?_
                  exact rf_litQ (tyL_Heard r86.2.2 x51.Round) (fun _ => rfl)
                · refine tg_f (x := (vi r80)) (fun h126 => rfl) ?_
                  refine tg_f (x := (vb (decide (r124 ≠ r80)))) (fun h128 => by simp only [gv_t h128]; exact bind_some_eq (d_neq)) ?_
                  refine tb (x := (vb (((!r91) || ((decide (r72.2.1 = 0)) != (decide (r86.2.1 = 0)))) || (decide (r124 ≠ r80))))) (pick_or (fun h9 => gv_t (not_f h9))) ?_
                  refine tg_f (x := (vi r80)) (fun h132 => rfl) ?_
                  refine tg_f (x := (vi r66)) (fun h134 => rfl) ?_
                  refine tg_f (x := (vi (wr (r66 + 1)))) (fun h136 => by simp only [gv_t h136]; exact bind_some_eq (d_add)) ?_
                  refine tg_f (x := (vb (decide ((wr (r66 + 1)) < r80)))) (fun h139 => by simp only [gv_t h139]; exact bind_some_eq (d_gtr)) ?_
                  refine tb (x := (vb ((((!r91) || ((decide (r72.2.1 = 0)) != (decide (r86.2.1 = 0)))) || (decide (r124 ≠ r80))) || (decide ((wr (r66 + 1)) < r80))))) (pick_or (fun h9 => gv_t (not_f h9))) ?_
                  refine tg_f (x := (eV r72.2.1)) (fun h143 => rfl) ?_
                  refine tg_f (x := (vb (!decide (r72.2.1 = 0)))) (fun h145 => by simp only [gv_t h145]; exact bind_some_eq (p_err_neq _)) ?_
                  refine tg_f (x := (vb (!decide (r72.2.1 = 0)))) (fun h148 => congrArg some (gv_t h148)) ?_
                  refine tg2 (x := (vi r80)) (fun h150 => rfl) ?_
                  refine tg2 (x := (vi r66)) (fun h152 => rfl) ?_
                  refine tg2 (x := (vb (decide (r80 ≠ r66)))) (fun h154 => by simp only [gv_t h154]; exact bind_some_eq (d_neq)) ?_
                  refine tg_f (x := (vb ((!decide (r72.2.1 = 0)) && (decide (r80 ≠ r66))))) (fun h157 => by simp only [gv_t h157]; exact bind_some_eq (pick_and (fun h9 => gv_t (and_i h157 h9)))) ?_
                  refine tbo (e1 := fun x : Bool => (vb x)) (rf_eq (pick_or (fun h9 => gv_t (not_f h9))) rfl) fun r161 => ?_
                  refine tg_f (x := (V.sl (List.map T_Msg.c a1))) (fun h162 => rfl) ?_
                  refine tg_f (x := (vi (i50 : Int))) (fun h164 => rfl) ?_
                  refine tg_f (x := (V.ptr (T_Msg.c x51))) (fun h166 => by simp only [gv_t h166]; exact bind_some_eq (p_idx_at (c := T_Msg.c) (fun _ => rfl) h52)) ?_
                  refine tg_f (x := (V.ptr (List.drop 1 (T_Msg.c x51)))) (fun h169 => by first | exact bind_some_eq (rfl) | (simp only [gv_t h169]; exact bind_some_eq (rfl))) ?_
                  refine tg_f (x := (vi x51.Switch)) (fun h172 => by first | exact bind_some_eq (rfl) | (simp only [gv_t h172]; exact bind_some_eq (rfl))) ?_
                  refine tg_f (x := (vb (decide (x51.Switch ≠ 2)))) (fun h175 => by simp only [gv_t h175]; exact bind_some_eq (d_neq)) ?_
                  refine tg_f (x := (vb (decide (x51.Switch ≠ 2)))) (fun h178 => congrArg some (gv_t h178)) ?_
                  refine tg2 (x := (eV r72.2.1)) (fun h180 => rfl) ?_
                  refine tg2 (x := (vb (decide (r72.2.1 = 0)))) (fun h182 => by simp only [gv_t h182]; exact bind_some_eq (p_err_eql _)) ?_
                  refine tg_f (x := (vb ((decide (x51.Switch ≠ 2)) && (decide (r72.2.1 = 0))))) (fun h185 => by simp only [gv_t h185]; exact bind_some_eq (pick_and (fun h9 => gv_t (and_i h185 h9)))) ?_
                  refine tb (x := (vb (r161 || ((decide (x51.Switch ≠ 2)) && (decide (r72.2.1 = 0)))))) (pick_or (fun h9 => gv_t (not_f h9))) ?_
                  refine tcond (fun h189 => ?_) (fun h189 => ?_)
                  · exact rf_ret rfl
                  · refine tb (x := (vi ((i50 : Int) + 1))) (p_incN h53) ?_
                    exact h48 (r86.2.2)
              · exact h25 (s46)
            · refine tb (x := (vi (List.length a1 : Int))) (p_len _) ?_
              refine tb (x := (vb (decide ((List.length a1 : Int) < (List.length a1 : Int))))) (d_lss) ?_
              refine tb (x := V.tup []) (gnt h191) ?_
              refine tb (x := V.tup []) (gnt h191) ?_
              refine tb (x := (vb (false))) (pick_kf h191) ?_
              refine tcond_f rfl ?_
              exact h25 (s46)
      · refine tpartP0 ?_
        refine tbo (ty_railsame_Error r11.2 1) fun r202 => ?_
        refine tb (x := (vb (!r202))) (d_not) ?_
        refine tcond (fun h204 => ?_) (fun h204 => ?_)
        · exact rf_ret rfl
        · refine tjoin (mk := fun s207 : T_agent_Agent => [(V.obj (agC s207))]) (fun s207 => ?_) fun J206 j208 h209 => ?_
          · refine tb (x := V.ptr (agF s207)) (p_frzQ (agFz s207)) ?_
            refine tbo (ty_agent_Agent_Table hn s207) fun r211 => ?_
            refine tb (x := (V.sl (List.map T_Rule.c r211))) (p_flatQ (fun _ => rfl) r211) ?_
            refine tbo (ty_railsame_Table hn r211 a0) fun r214 => ?_
            refine tg (x := V.any) (fun h215 => rfl) ?_
            refine tgo (e1 := fun r219 => (V.sl (List.map cI r219))) (fun h217 => ?_) fun r219 => ?_
            · refine tb (x := V.ptr (agF s207)) (p_gate1 h217 (p_frzQ (agFz s207))) ?_
              exact rf_flatQ (ty_agent_Agent_Done hn s207) (fun _ => rfl)
            · refine tg (x := (vi (List.length r219 : Int))) (fun h221 => by simp only [gv_t h221]; exact bind_some_eq (p_len _)) ?_
              refine tg (x := (vb (decide ((List.length r219 : Int) = 0)))) (fun h224 => by simp only [gv_t h224]; exact bind_some_eq (d_eql)) ?_
              refine tb (x := (vb (r214 && (decide ((List.length r219 : Int) = 0))))) (pick_and (fun h9 => gv_t h9)) ?_
              exact rf_ret rfl
          · refine rf_loopI (mk := fun (i234 : Int) (s230 : T_agent_Agent) => [(V.obj (agC s230)), (vi (i234 : Int))]) hn a1 (d6) (fun i234 x235 h236 h237 h238 s230 rec228 k231 h232 => ?_) (fun s230 rec376 h375 => ?_)
            · refine tb (x := (vi (List.length a1 : Int))) (p_len _) ?_
              refine tb (x := (vb (decide ((i234 : Int) < (List.length a1 : Int))))) (d_lss) ?_
              refine tb (x := (vi (i234 : Int))) (gkt h238 rfl) ?_
              refine tkt h238 (tb (x := (vb (decide ((i234 : Int) < 40)))) (d_lss) ?_)
              refine tb (x := (vb (decide ((i234 : Int) < 40)))) (pick_kt h238) ?_
              refine tcond (fun h245 => ?_) (fun h245 => ?_)
              · refine tb (x := (V.ptr (T_Msg.c x235))) (p_idx_at (c := T_Msg.c) (fun _ => rfl) h236) ?_
                refine tb (x := (V.ptr (List.drop 2 (T_Msg.c x235)))) (rfl) ?_
                refine tb (x := (vi x235.Round)) (rfl) ?_
                refine tb (x := (V.obj (agC s230))) ((rfl : _ = some (V.obj (agC s230)))) ?_
                refine tbo (tyL_Heard s230 x235.Round) fun r250 => ?_
                refine tb (x := (vi r250)) rfl ?_
                refine tb (x := (V.ptr (T_Msg.c x235))) (p_idx_at (c := T_Msg.c) (fun _ => rfl) h236) ?_
                refine tb (x := (T_Msg.e x235)) (rfl) ?_
                refine tb (x := V.any) rfl ?_
                refine tbo (ty_agent_Agent_Hear hn s230 x235) fun r256 => ?_
                refine tb (x := (V.tup [(V.sl (List.map T_Msg.c r256.1)), (eV r256.2.1)])) rfl ?_
                refine tb (x := (V.sl (List.map T_Msg.c r256.1))) (rfl) ?_
                refine tb (x := (eV r256.2.1)) (rfl) ?_
                refine tb (x := (V.ptr (T_Msg.c x235))) (p_idx_at (c := T_Msg.c) (fun _ => rfl) h236) ?_
                refine tb (x := (V.ptr (List.drop 2 (T_Msg.c x235)))) (rfl) ?_
                refine tb (x := (vi x235.Round)) (rfl) ?_
                refine tb (x := (V.obj (agC r256.2.2))) ((rfl : _ = some (V.obj (agC r256.2.2)))) ?_
                refine tbo (tyL_Heard r256.2.2 x235.Round) fun r264 => ?_
                refine tb (x := (vi r264)) rfl ?_
                refine tb (x := (V.ptr (T_Msg.c x235))) (p_idx_at (c := T_Msg.c) (fun _ => rfl) h236) ?_
                refine tb (x := (T_Msg.e x235)) (rfl) ?_
                refine tb (x := V.any) rfl ?_
                refine tbo (ty_agent_Agent_Hear hn r256.2.2 x235) fun r270 => ?_
                refine tb (x := (V.tup [(V.sl (List.map T_Msg.c r270.1)), (eV r270.2.1)])) rfl ?_
                refine tb (x := (V.sl (List.map T_Msg.c r270.1))) (rfl) ?_
                refine tb (x := (eV r270.2.1)) (rfl) ?_
                refine tbo (ty_railsame_Msgs hn r256.1 r270.1) fun r275 => ?_
                refine tb (x := (vb (!r275))) (d_not) ?_
                refine tg_f (x := (eV r256.2.1)) (fun h277 => rfl) ?_
                refine tg_f (x := (vb (decide (r256.2.1 = 0)))) (fun h279 => by simp only [gv_t h279]; exact bind_some_eq (p_err_eql _)) ?_
                refine tg_f (x := (eV r270.2.1)) (fun h282 => rfl) ?_
                refine tg_f (x := (vb (decide (r270.2.1 = 0)))) (fun h284 => by simp only [gv_t h284]; exact bind_some_eq (p_err_eql _)) ?_
                refine tg_f (x := (vb ((decide (r256.2.1 = 0)) != (decide (r270.2.1 = 0))))) (fun h287 => by simp only [gv_t h287]; exact bind_some_eq (p_neq_bool (Tryd.underlying4))) ?_
                refine tb (x := (vb ((!r275) || ((decide (r256.2.1 = 0)) != (decide (r270.2.1 = 0)))))) (pick_or (fun h9 => gv_t (not_f h9))) ?_
                refine tg_f (x := V.any) (fun h291 => rfl) ?_
                refine tg_f (x := (V.sl (List.map T_Msg.c a1))) (fun h293 => rfl) ?_
                refine tg_f (x := (vi (i234 : Int))) (fun h295 => rfl) ?_
                refine tg_f (x := (V.ptr (T_Msg.c x235))) (fun h297 => by simp only [gv_t h297]; exact bind_some_eq (p_idx_at (c := T_Msg.c) (fun _ => rfl) h236)) ?_
                refine tg_f (x := (V.ptr (List.drop 2 (T_Msg.c x235)))) (fun h300 => by first | exact bind_some_eq (rfl) | (simp only [gv_t h300]; exact bind_some_eq (rfl))) ?_
                refine tg_f (x := (vi x235.Round)) (fun h303 => by first | exact bind_some_eq (rfl) | (simp only [gv_t h303]; exact bind_some_eq (rfl))) ?_
                refine tgo_f (e1 := fun r308 => (vi r308)) (fun h306 => ?_) fun r308 => ?_
                · simp only [gv_t h306]
                  refine tb (x := (V.obj (agC r270.2.2))) (p_gate1 (not_t h306) ((rfl : _ = some (V.obj (agC r270.2.2))))) ?_
                  exact rf_litQ (tyL_Heard r270.2.2 x235.Round) (fun _ => rfl)
                · refine tg_f (x := (vi r264)) (fun h310 => rfl) ?_
                  refine tg_f (x := (vb (decide (r308 ≠ r264)))) (fun h312 => by simp only [gv_t h312]; exact bind_some_eq (d_neq)) ?_
                  refine tb (x := (vb (((!r275) || ((decide (r256.2.1 = 0)) != (decide (r270.2.1 = 0)))) || (decide (r308 ≠ r264))))) (pick_or (fun h9 => gv_t (not_f h9))) ?_
                  refine tg_f (x := (vi r264)) (fun h316 => rfl) ?_
                  refine tg_f (x := (vi r250)) (fun h318 => rfl) ?_
                  refine tg_f (x := (vi (wr (r250 + 1)))) (fun h320 => by simp only [gv_t h320]; exact bind_some_eq (d_add)) ?_
                  refine tg_f (x := (vb (decide ((wr (r250 + 1)) < r264)))) (fun h323 => by simp only [gv_t h323]; exact bind_some_eq (d_gtr)) ?_
                  refine tb (x := (vb ((((!r275) || ((decide (r256.2.1 = 0)) != (decide (r270.2.1 = 0)))) || (decide (r308 ≠ r264))) || (decide ((wr (r250 + 1)) < r264))))) (pick_or (fun h9 => gv_t (not_f h9))) ?_
                  refine tg_f (x := (eV r256.2.1)) (fun h327 => rfl) ?_
                  refine tg_f (x := (vb (!decide (r256.2.1 = 0)))) (fun h329 => by simp only [gv_t h329]; exact bind_some_eq (p_err_neq _)) ?_
                  refine tg_f (x := (vb (!decide (r256.2.1 = 0)))) (fun h332 => congrArg some (gv_t h332)) ?_
                  refine tg2 (x := (vi r264)) (fun h334 => rfl) ?_
                  refine tg2 (x := (vi r250)) (fun h336 => rfl) ?_
                  refine tg2 (x := (vb (decide (r264 ≠ r250)))) (fun h338 => by simp only [gv_t h338]; exact bind_some_eq (d_neq)) ?_
                  refine tg_f (x := (vb ((!decide (r256.2.1 = 0)) && (decide (r264 ≠ r250))))) (fun h341 => by simp only [gv_t h341]; exact bind_some_eq (pick_and (fun h9 => gv_t (and_i h341 h9)))) ?_
                  refine tbo (e1 := fun x : Bool => (vb x)) (rf_eq (pick_or (fun h9 => gv_t (not_f h9))) rfl) fun r345 => ?_
                  refine tg_f (x := (V.sl (List.map T_Msg.c a1))) (fun h346 => rfl) ?_
                  refine tg_f (x := (vi (i234 : Int))) (fun h348 => rfl) ?_
                  refine tg_f (x := (V.ptr (T_Msg.c x235))) (fun h350 => by simp only [gv_t h350]; exact bind_some_eq (p_idx_at (c := T_Msg.c) (fun _ => rfl) h236)) ?_
                  refine tg_f (x := (V.ptr (List.drop 1 (T_Msg.c x235)))) (fun h353 => by first | exact bind_some_eq (rfl) | (simp only [gv_t h353]; exact bind_some_eq (rfl))) ?_
                  refine tg_f (x := (vi x235.Switch)) (fun h356 => by first | exact bind_some_eq (rfl) | (simp only [gv_t h356]; exact bind_some_eq (rfl))) ?_
                  refine tg_f (x := (vb (decide (x235.Switch ≠ 2)))) (fun h359 => by simp only [gv_t h359]; exact bind_some_eq (d_neq)) ?_
                  refine tg_f (x := (vb (decide (x235.Switch ≠ 2)))) (fun h362 => congrArg some (gv_t h362)) ?_
                  refine tg2 (x := (eV r256.2.1)) (fun h364 => rfl) ?_
                  refine tg2 (x := (vb (decide (r256.2.1 = 0)))) (fun h366 => by simp only [gv_t h366]; exact bind_some_eq (p_err_eql _)) ?_
                  refine tg_f (x := (vb ((decide (x235.Switch ≠ 2)) && (decide (r256.2.1 = 0))))) (fun h369 => by simp only [gv_t h369]; exact bind_some_eq (pick_and (fun h9 => gv_t (and_i h369 h9)))) ?_
                  refine tb (x := (vb (r345 || ((decide (x235.Switch ≠ 2)) && (decide (r256.2.1 = 0)))))) (pick_or (fun h9 => gv_t (not_f h9))) ?_
                  refine tcond (fun h373 => ?_) (fun h373 => ?_)
                  · exact rf_ret rfl
                  · refine tb (x := (vi ((i234 : Int) + 1))) (p_incN h237) ?_
                    exact h232 (r270.2.2)
              · exact h209 (s230)
            · refine tb (x := (vi (List.length a1 : Int))) (p_len _) ?_
              refine tb (x := (vb (decide ((List.length a1 : Int) < (List.length a1 : Int))))) (d_lss) ?_
              refine tb (x := V.tup []) (gnt h375) ?_
              refine tb (x := V.tup []) (gnt h375) ?_
              refine tb (x := (vb (false))) (pick_kf h375) ?_
              refine tcond_f rfl ?_
              exact h209 (s230)
  · refine tpartP0 ?_
    refine tb (x := (vb (!decide (r2.2 = 0)))) (p_err_neq _) ?_
    refine tcond (fun h386 => ?_) (fun h386 => ?_)
    · exact rf_ret rfl
    · refine tbo (ty_agent_New hn 7 []) fun r388 => ?_
      refine tpartK (fun d392 => ?_) ?_
      · refine tpartP0 ?_
        refine tbo (ty_railsame_Error r388.2 1) fun r395 => ?_
        refine tb (x := (vb (!r395))) (d_not) ?_
        refine tcond (fun h397 => ?_) (fun h397 => ?_)
        · exact rf_ret rfl
        · exact rf_none
      · refine tpartP0 ?_
        refine tbo (ty_railsame_Error r388.2 1) fun r405 => ?_
        refine tb (x := (vb (!r405))) (d_not) ?_
        refine tcond (fun h407 => ?_) (fun h407 => ?_)
        · exact rf_ret rfl
        · exact rf_none

end Go.Proofs.YtgfleiknigjnbaaDoor.Ty
