/- What functions do, as functions on plain types, written by a program and checked by the kernel. -/
import Derived.Test.YtgfleiknigjnbaaDoorDenDoor
import Derived.Test.YtgfleiknigjnbaaDoorTy
import Derived.Test.YtgfleiknigjnbaaDoorTyT
import Derived.Test.YtgfleiknigjnbaaDoorTyY
import Derived.Test.YtgfleiknigjnbaaDoorTyA
import Derived.Test.YtgfleiknigjnbaaDoorAgTy
import Derived.Test.YtgfleiknigjnbaaDoorAgReady
import Derived.Test.YtgfleiknigjnbaaDoorTyB
import Derived.Test.YtgfleiknigjnbaaDoorAgWork
import Derived.Test.YtgfleiknigjnbaaDoorDen14
import Derived.Test.YtgfleiknigjnbaaDoorClone
namespace Go.Proofs.YtgfleiknigjnbaaDoor.Ty
open Go Go.RowKit Go.Proofs.YtgfleiknigjnbaaDoor.Den
set_option linter.unusedVariables false
set_option maxRecDepth 100000

/-! railpoint/raillaw2.AgentOnce -/
def an_raillaw2_AgentOnce : Ann := .seq (.reg 0 [] [] []) (.seq (.reg 0 [] [] [34, 35]) (.seq (.seq (.reg 0 [] [] []) (.cond none (.seq (.reg 0 [] [] []) (.no)) (.no))) (.seq (.reg 0 [] [] []) (.seq (.reg 0 [] [] []) (.seq (.seq (.reg 0 [] [] []) (.blk (some [.ko 9, .kb 11, .s 12]) (.loop [.ko 9, .kb 11, .r 12 37, .s 13] (.seq (.seq (.reg 0 [] [] []) (.cond none (.no) (.no))) (.seq (.blk none (.seq (.reg 0 [] [] []) (.seq (.reg 0 [] [] []) (.reg 0 [] [] [])))) (.reg 0 [] [] [])))))) (.seq (.reg 0 [] [] []) (.seq (.seq (.reg 0 [] [] []) (.cond none (.seq (.reg 0 [] [] []) (.no)) (.no))) (.seq (.reg 0 [] [] []) (.seq (.seq (.reg 0 [] [] []) (.cond none (.seq (.reg 0 [] [] []) (.no)) (.no))) (.seq (.reg 0 [] [] []) (.seq (.seq (.reg 0 [] [] []) (.blk (some [.ko 9, .kb 15, .s 12, .r 18 3]) (.loop [.ko 9, .kb 15, .s 12, .r 18 3, .s 19] (.seq (.seq (.reg 0 [] [] []) (.cond none (.no) (.no))) (.seq (.blk none (.reg 0 [] [] [])) (.reg 0 [] [] [])))))) (.seq (.seq (.reg 0 [] [] []) (.blk (some [.kb 15, .o 9]) (.loop [.kb 15, .o 9, .s 12, .r 18 3, .s 20] (.seq (.seq (.reg 0 [] [] []) (.cond none (.no) (.no))) (.seq (.blk none (.seq (.reg 0 [] [] []) (.seq (.seq (.reg 0 [] [] []) (.cond (some [.ko 9, .kb 15, .s 12, .r 18 3, .s 21]) (.reg 0 [] [] []) (.no))) (.seq (.reg 0 [] [] []) (.seq (.seq (.reg 0 [] [] [2000124, 4000124]) (.cond none (.seq (.reg 0 [] [] []) (.no)) (.no))) (.seq (.reg 0 [] [] []) (.seq (.reg 0 [] [] []) (.seq (.seq (.reg 0 [] [] []) (.cond none (.seq (.reg 0 [] [] []) (.no)) (.no))) (.seq (.seq (.reg 0 [] [] []) (.cond (some [.kb 15, .o 9, .s 12, .r 18 3]) (.reg 0 [] [] []) (.no))) (.seq (.reg 0 [] [] [2000155, 3000155]) (.seq (.seq (.reg 0 [] [] [2000162, 4000162]) (.cond none (.seq (.reg 0 [] [] []) (.no)) (.no))) (.reg 258 [] [] [1000170])))))))))))) (.reg 0 [] [] [])))))) (.seq (.seq (.reg 0 [] [] [2000177, 4000177]) (.cond none (.seq (.reg 0 [] [] []) (.no)) (.no))) (.seq (.reg 0 [] [] []) (.seq (.reg 8 [] [] [2000185, 3000185]) (.seq (.seq (.reg 0 [] [] []) (.cond none (.seq (.reg 0 [] [] []) (.no)) (.no))) (.seq (.reg 0 [] [] []) (.seq (.reg 0 [] [] []) (.seq (.reg 0 [] [] []) (.seq (.reg 20 [] [] []) (.no)))))))))))))))))))))
noncomputable def sem_raillaw2_AgentOnce (n : Nat) (xs : List V) : Option V := if xs.length ≤ 248 then denF Tryd.prog (envOf [(8 + 1000000, (sem_agent_New n)), (25, (sem_change_Apply n)), (11 + 1000000, (sem_agent_Agent_Hear n)), (22 + 1000000 * (987654321 + 2), (semL_Ready)), (14 + 1000000 * (35 + 2), (sem_agent_Agent_Table n)), (13, (sem_railsame_Table n)), (10 + 1000000 * (987654321 + 2), (semL_Heard)), (20 + 1000000, (sem_agent_Agent_Work n)), (9, (sem_Error n))]) n Tryd.f5 an_raillaw2_AgentOnce xs else none
theorem ok_raillaw2_AgentOnce (n : Nat) : SemOk Tryd.prog DW 5 (sem_raillaw2_AgentOnce n) := fun xs y h => by
  unfold sem_raillaw2_AgentOnce at h
  split at h
  · rename_i hl
    exact denF_ok stb Tryd.func5 (by kernel_rfl) (envOf_ok (semsOk_consM (ok_agent_New n) (semsOk_cons (ok_change_Apply n) (semsOk_consM (ok_agent_Agent_Hear n) (semsOk_consL (okL_Ready) (semsOk_consR (ok_agent_Agent_Table n) (semsOk_cons (ok_railsame_Table n) (semsOk_consL (okL_Heard) (semsOk_consM (ok_agent_Agent_Work n) (semsOk_cons (ok_Error n) semsOk_nil)))))))))) (by rw [Tryd.ntmps5]; exact hl) h
  · cases h
theorem eq_raillaw2_AgentOnce (n : Nat) (x0 x1 x2 x3 : V) : sem_raillaw2_AgentOnce n [x0, x1, x2, x3] =
 ((sem_agent_New n) [(vi 1), x0]).bind fun z1 =>
 partK (tupAt z1 0) 0 (fun l3 c4 =>
 partP (V.tup l3) 1 fun v5 =>
 (bin2 Tryd.prog BinOp.neq 27 (ot 37) (Operand.const Go.Value.nilIface) v5 vn).bind fun v6 =>
 condV v6 (
 some (vb true)) (
 ((fillL [(vi 0), (V.sl []), (V.sl [])] [(0, 1, (vi 1))]).map V.agg).bind fun v7 =>
 (slcB 1 1 [(V.sl [])] [(0, x0)]).bind fun v8 =>
 ((fillL [(vi 0), (V.sl []), (V.sl []), (V.sl [])] [(0, 3, v7), (3, 1, v8)]).map V.agg).bind fun v9 =>
 (spliceV [(vi 0), (V.sl []), (V.sl []), (V.sl [])] 0 4 v9).bind fun v10 =>
 JoinPt (fun vs11 =>
 (ldk (some 4) (List.drop 0 (aggL v10))).bind fun v13 =>
 ((sem_change_Apply n) [v13, (List.getD vs11 0 V.any)]).bind fun v14 =>
 (extractV v14 0).bind fun v15 =>
 (extractV v14 1).bind fun v16 =>
 (spliceV [(vi 0), (V.sl []), (V.sl []), (V.sl [])] 0 4 v15).bind fun v17 =>
 (bin2 Tryd.prog BinOp.neq 27 (ot 68) (Operand.const Go.Value.nilIface) v16 vn).bind fun v18 =>
 condV v18 (
 some (vb true)) (
 (lenS [(List.getD vs11 0 V.any)]).bind fun v19 =>
 ((fillL [(vi 0), (vi 0), (vi 0), (vi 0), (vi 0), (vb false), (vi 0), (vi 0), (vi 0), (vi 0), (vi 0), (vi 0)] [(0, 1, (vi 2)), (1, 1, (vi 1)), (2, 1, (vi 3)), (3, 1, v19)]).map V.agg).bind fun v20 =>
 (objG (V.obj c4)).bind fun v21 =>
 ((sem_agent_Agent_Hear n) [(V.obj c4), v20]).bind fun z22 =>
 (pureO (tupAt z22 0)).bind fun v23 =>
 (extractV v23 0).bind fun v24 =>
 (extractV v23 1).bind fun v25 =>
 (bin2 Tryd.prog BinOp.neq 27 (ot 78) (Operand.const Go.Value.nilIface) v25 vn).bind fun v26 =>
 condV v26 (
 some (vb false)) (
 JoinPt (fun vs27 =>
 JoinPt (fun vs29 =>
 (some (objQ (List.getD vs29 0 V.any))).bind fun v31 =>
 ((semL_Ready) [v31]).bind fun v33 =>
 (litQ v33).bind fun v32 =>
 (bin2 Tryd.prog BinOp.neq 3 (ot 177) (oc 3) v32 (vi 3)).bind fun v34 =>
 condV v34 (
 some (vb false)) (
 (objG (List.getD vs29 0 V.any)).bind fun v35 =>
 ((sem_agent_Agent_Work n) [(List.getD vs29 0 V.any)]).bind fun z36 =>
 (pureO (tupAt z36 0)).bind fun v37 =>
 (extractV v37 0).bind fun v38 =>
 (extractV v37 1).bind fun v39 =>
 (some (frzQ (tupAt z36 1))).bind fun v40 =>
 ((sem_agent_Agent_Table n) [v40]).bind fun v42 =>
 (flatQ v42).bind fun v41 =>
 (ldk none (List.drop 3 (aggL v17))).bind fun v43 =>
 (idxS 1 v43 (vi 0)).bind fun v44 =>
 (ldp none v44).bind fun v45 =>
 ((sem_railsame_Table n) [v41, v45]).bind fun v46 =>
 (bin2 Tryd.prog BinOp.neq 27 (ot 191) (Operand.const Go.Value.nilIface) v39 vn).bind fun v47 =>
 (guardV v47 false (some v46)).bind fun v48 =>
 (guardV v47 false ((scal1 Tryd.prog (Op.unary Go.UnOp.not) v48).bind fun v49 =>
 some v49)).bind fun v50 =>
 (pickV v47 (vb true) v50).bind fun v51 =>
 (guardV v51 false (some v38)).bind fun v52 =>
 (guardV v51 false ((lenS [v52]).bind fun v53 =>
 some v53)).bind fun v54 =>
 (guardV v51 false ((bin2 Tryd.prog BinOp.neq 3 (ot 199) (oc 1) v54 (vi 1)).bind fun v55 =>
 some v55)).bind fun v56 =>
 (pickV v51 (vb true) v56).bind fun v57 =>
 (guardV v57 false (some v38)).bind fun v58 =>
 (guardV v57 false ((idxS 12 v58 (vi 0)).bind fun v59 =>
 some v59)).bind fun v60 =>
 (guardV v57 false ((ptrF 0 v60).bind fun v61 =>
 some v61)).bind fun v62 =>
 (guardV v57 false ((ldp none v62).bind fun v63 =>
 some v63)).bind fun v64 =>
 (guardV v57 false ((bin2 Tryd.prog BinOp.neq 3 (ot 206) (oc 3) v64 (vi 3)).bind fun v65 =>
 some v65)).bind fun v66 =>
 (pickV v57 (vb true) v66).bind fun v67 =>
 (guardV v67 false (some v38)).bind fun v68 =>
 (guardV v67 false ((idxS 12 v68 (vi 0)).bind fun v69 =>
 some v69)).bind fun v70 =>
 (guardV v67 false ((ptrF 2 v70).bind fun v71 =>
 some v71)).bind fun v72 =>
 (guardV v67 false ((ldp none v72).bind fun v73 =>
 some v73)).bind fun v74 =>
 (guardV v67 false ((bin2 Tryd.prog BinOp.neq 3 (ot 213) (oc 3) v74 (vi 3)).bind fun v75 =>
 some v75)).bind fun v76 =>
 (pickV v67 (vb true) v76).bind fun v77 =>
 condV v77 (
 some (vb false)) (
 (objG (tupAt z36 1)).bind fun v78 =>
 ((sem_agent_Agent_Work n) [(tupAt z36 1)]).bind fun z79 =>
 (pureO (tupAt z79 0)).bind fun v80 =>
 (extractV v80 0).bind fun v81 =>
 (extractV v80 1).bind fun v82 =>
 ((sem_Error n) [v82, (vi 6)]).bind fun v83 =>
 ((fillL [(vi 0), (vi 0), (vi 0), (vi 0), (vi 0), (vb false), (vi 0), (vi 0), (vi 0), (vi 0), (vi 0), (vi 0)] [(0, 1, (vi 2)), (1, 1, (vi 1)), (2, 1, (vi 3)), (3, 1, (vi 7))]).map V.agg).bind fun v84 =>
 (objG (tupAt z79 1)).bind fun v85 =>
 ((sem_agent_Agent_Hear n) [(tupAt z79 1), v84]).bind fun z86 =>
 (pureO (tupAt z86 0)).bind fun v87 =>
 (extractV v87 0).bind fun v88 =>
 (extractV v87 1).bind fun v89 =>
 (guardV v83 true (some v89)).bind fun v90 =>
 (guardV v83 true ((bin2 Tryd.prog BinOp.eql 27 (ot 231) (Operand.const Go.Value.nilIface) v90 vn).bind fun v91 =>
 some v91)).bind fun v92 =>
 (pickV v83 v92 (vb false)).bind fun v93 =>
 (guardV v93 true (some v88)).bind fun v94 =>
 (guardV v93 true ((lenS [v94]).bind fun v95 =>
 some v95)).bind fun v96 =>
 (guardV v93 true ((bin2 Tryd.prog BinOp.eql 3 (ot 236) (oc 1) v96 (vi 1)).bind fun v97 =>
 some v97)).bind fun v98 =>
 (pickV v93 v98 (vb false)).bind fun v99 =>
 (guardV v99 true (some v88)).bind fun v100 =>
 (guardV v99 true ((idxS 12 v100 (vi 0)).bind fun v101 =>
 some v101)).bind fun v102 =>
 (guardV v99 true ((ldp (some 12) v102).bind fun v103 =>
 some v103)).bind fun v104 =>
 (guardV v99 true (some v38)).bind fun v105 =>
 (guardV v99 true ((idxS 12 v105 (vi 0)).bind fun v106 =>
 some v106)).bind fun v107 =>
 (guardV v99 true ((ldp (some 12) v107).bind fun v108 =>
 some v108)).bind fun v109 =>
 (guardV v99 true ((bin2 Tryd.prog BinOp.eql 39 (ot 242) (ot 245) v104 v109).bind fun v110 =>
 some v110)).bind fun v111 =>
 (pickV v99 v111 (vb false)).bind fun v112 =>
 some v112))) fun J30 =>
 (keepO (some (aggL v17)) (some (aggL v17)) (some [(tupAt z22 1), (List.getD vs27 0 V.any), (V.sl (slL (List.getD vs27 1 V.any))), (vi 0)])).bind (fixN (fun rec113 vs114 =>
 (lenS [(V.sl (slL (List.getD vs114 2 V.any)))]).bind fun v115 =>
 (bin2 Tryd.prog BinOp.gtr 3 (ot 91) (oc 0) v115 (vi 0)).bind fun v116 =>
 condV v116 (
 (lenS [x2]).bind fun v117 =>
 (bin2 Tryd.prog BinOp.lss 3 (ot 95) (ot 97) (List.getD vs114 3 V.any) v117).bind fun v118 =>
 (guardV v118 true (some x2)).bind fun v119 =>
 (guardV v118 true (some (List.getD vs114 3 V.any))).bind fun v120 =>
 (guardV v118 true ((idxS 1 v119 v120).bind fun v121 =>
 some v121)).bind fun v122 =>
 (guardV v118 true ((ldp none v122).bind fun v123 =>
 some v123)).bind fun v124 =>
 (guardV v118 true ((bin2 Tryd.prog BinOp.geq 3 (ot 103) (oc 0) v124 (vi 0)).bind fun v125 =>
 some v125)).bind fun v126 =>
 (pickV v118 v126 (vb false)).bind fun v127 =>
 (guardV v127 true (some x2)).bind fun v128 =>
 (guardV v127 true (some (List.getD vs114 3 V.any))).bind fun v129 =>
 (guardV v127 true ((idxS 1 v128 v129).bind fun v130 =>
 some v130)).bind fun v131 =>
 (guardV v127 true ((ldp none v131).bind fun v132 =>
 some v132)).bind fun v133 =>
 (guardV v127 true (some (V.sl (slL (List.getD vs114 2 V.any))))).bind fun v134 =>
 (guardV v127 true ((lenS [v134]).bind fun v135 =>
 some v135)).bind fun v136 =>
 (guardV v127 true ((bin2 Tryd.prog BinOp.lss 3 (ot 110) (ot 112) v133 v136).bind fun v137 =>
 some v137)).bind fun v138 =>
 (pickV v127 v138 (vb false)).bind fun v139 =>
 JoinPt (fun vs140 =>
 (idxS 1 (V.sl (slL (List.getD vs140 1 V.any))) (List.getD vs140 2 V.any)).bind fun v142 =>
 (ldp none v142).bind fun v143 =>
 (some (objQ (List.getD vs114 0 V.any))).bind fun v144 =>
 ((semL_Ready) [v144]).bind fun v146 =>
 (litQ v146).bind fun v145 =>
 (bin2 Tryd.prog BinOp.neq 3 (ot 124) (Operand.const (Go.Value.int Go.IntKind.i64 (-1 : Int))) v145 (vi (-1 : Int))).bind fun v147 =>
 condV v147 (
 some (vb false)) (
 (idxS 8 (List.getD vs140 0 V.any) v143).bind fun v148 =>
 (ldp (some 8) v148).bind fun v149 =>
 ((fillL [(vi 0), (vi 0), (vi 0), (vi 0), (vi 0), (vb false), (vi 0), (vi 0), (vi 0), (vi 0), (vi 0), (vi 0)] [(0, 1, (vi 1)), (1, 1, (vi 1)), (2, 1, (vi 3)), (3, 1, v143), (4, 8, v149)]).map V.agg).bind fun v150 =>
 (spliceV [(vi 0), (vi 0), (vi 0), (vi 0), (vi 0), (vb false), (vi 0), (vi 0), (vi 0), (vi 0), (vi 0), (vi 0)] 0 12 v150).bind fun v151 =>
 (ldk (some 12) (List.drop 0 (aggL v151))).bind fun v152 =>
 (objG (List.getD vs114 0 V.any)).bind fun v153 =>
 ((sem_agent_Agent_Hear n) [(List.getD vs114 0 V.any), v152]).bind fun z154 =>
 (pureO (tupAt z154 0)).bind fun v155 =>
 (extractV v155 0).bind fun v156 =>
 (extractV v155 1).bind fun v157 =>
 (bin2 Tryd.prog BinOp.neq 27 (ot 138) (Operand.const Go.Value.nilIface) v157 vn).bind fun v158 =>
 condV v158 (
 some (vb false)) (
 (lenS [x3]).bind fun v159 =>
 (bin2 Tryd.prog BinOp.lss 3 (ot 140) (ot 142) (List.getD vs114 3 V.any) v159).bind fun v160 =>
 (guardV v160 true (some x3)).bind fun v161 =>
 (guardV v160 true (some (List.getD vs114 3 V.any))).bind fun v162 =>
 (guardV v160 true ((idxS 1 v161 v162).bind fun v163 =>
 some v163)).bind fun v164 =>
 (guardV v160 true ((ldp none v164).bind fun v165 =>
 some v165)).bind fun v166 =>
 (guardV v160 true ((bin2 Tryd.prog BinOp.eql 3 (ot 148) (oc 1) v166 (vi 1)).bind fun v167 =>
 some v167)).bind fun v168 =>
 (pickV v160 v168 (vb false)).bind fun v169 =>
 JoinPt (fun vs170 =>
 (some (frzQ (List.getD vs170 0 V.any))).bind fun v172 =>
 ((sem_agent_Agent_Table n) [v172]).bind fun v174 =>
 (flatQ v174).bind fun v173 =>
 ((sem_railsame_Table n) [v173, x0]).bind fun v175 =>
 (scal1 Tryd.prog (Op.unary Go.UnOp.not) v175).bind fun v176 =>
 (guardV v176 false (some V.any)).bind fun v177 =>
 (guardV v176 false ((some (gateA [(v176, false)] (objQ (List.getD vs170 0 V.any)))).bind fun v178 =>
 ((semL_Heard) [v178, (vi 3)]).bind litQ)).bind fun v179 =>
 (guardV v176 false (some (List.getD vs114 3 V.any))).bind fun v180 =>
 (guardV v176 false ((bin2 Tryd.prog BinOp.add 3 (ot 163) (oc 1) v180 (vi 1)).bind fun v181 =>
 some v181)).bind fun v182 =>
 (guardV v176 false ((bin2 Tryd.prog BinOp.neq 3 (ot 162) (ot 164) v179 v182).bind fun v183 =>
 some v183)).bind fun v184 =>
 (pickV v176 (vb true) v184).bind fun v185 =>
 condV v185 (
 some (vb false)) (
 (bin2 Tryd.prog BinOp.add 3 (ot 172) (oc 1) (List.getD vs140 2 V.any) (vi 1)).bind fun v186 =>
 (litV v186).bind fun v187 =>
 (slc (some 1) (V.sl (slL (List.getD vs170 2 V.any))) (some v187) none).bind fun v188 =>
 (headV (slL (List.getD vs170 2 V.any)) (List.getD vs140 2 V.any) (List.getD vs140 2 V.any)).bind fun v189 =>
 (appV 1 (slL v189) v188).bind fun v190 =>
 (bin2 Tryd.prog BinOp.add 3 (ot 93) (oc 1) (List.getD vs114 3 V.any) (vi 1)).bind fun v191 =>
 (keepO (some (aggL v17)) (some (aggL v17)) (some [(List.getD vs170 0 V.any), (List.getD vs170 1 V.any), (V.sl (slL v190)), v191])).bind rec113)) fun J171 =>
 condV v169 (
 (ldk (some 12) (List.drop 0 (aggL v151))).bind fun v192 =>
 (objG (tupAt z154 1)).bind fun v193 =>
 ((sem_agent_Agent_Hear n) [(tupAt z154 1), v192]).bind fun z194 =>
 (pureO (tupAt z194 0)).bind fun v195 =>
 (keepO (some (aggL v17)) (some (aggL v17)) (some [(tupAt z194 1), (List.getD vs140 0 V.any), (V.sl (slL (List.getD vs140 1 V.any)))])).bind J171) (
 (keepO (some (aggL v17)) (some (aggL v17)) (some [(tupAt z154 1), (List.getD vs140 0 V.any), (V.sl (slL (List.getD vs140 1 V.any)))])).bind J171)))) fun J141 =>
 condV v139 (
 (idxS 1 x2 (List.getD vs114 3 V.any)).bind fun v196 =>
 (ldp none v196).bind fun v197 =>
 (keepT (some (List.getD vs114 0 V.any)) (some (List.getD vs114 0 V.any)) (keepO (some (aggL v17)) (some (aggL v17)) (some [(List.getD vs114 1 V.any), (V.sl (slL (List.getD vs114 2 V.any))), v197]))).bind J141) (
 (keepT (some (List.getD vs114 0 V.any)) (some (List.getD vs114 0 V.any)) (keepO (some (aggL v17)) (some (aggL v17)) (some [(List.getD vs114 1 V.any), (V.sl (slL (List.getD vs114 2 V.any))), (vi 0)]))).bind J141)) (
 (keepO (some (aggL v17)) (some (aggL v17)) (some [(List.getD vs114 0 V.any)])).bind J30)) n)) fun J28 =>
 (keepT (some (tupAt z22 1)) (some (tupAt z22 1)) (keepO (some (aggL v17)) (some (aggL v17)) (some [(List.getD vs11 0 V.any), (V.sl []), (vi 0)]))).bind (fixN (fun rec198 vs199 =>
 (lenS [(List.getD vs199 0 V.any)]).bind fun v200 =>
 (bin2 Tryd.prog BinOp.lss 3 (ot 80) (ot 82) (List.getD vs199 2 V.any) v200).bind fun v201 =>
 condV v201 (
 (slcB 1 1 [(vi 0)] [(0, (List.getD vs199 2 V.any))]).bind fun v202 =>
 (appV 1 (slL (List.getD vs199 1 V.any)) v202).bind fun v203 =>
 (bin2 Tryd.prog BinOp.add 3 (ot 84) (oc 1) (List.getD vs199 2 V.any) (vi 1)).bind fun v204 =>
 (keepT (some (tupAt z22 1)) (some (tupAt z22 1)) (keepO (some (aggL v17)) (some (aggL v17)) (some [(List.getD vs199 0 V.any), (V.sl (slL v203)), v204]))).bind rec198) (
 (keepT (some (tupAt z22 1)) (some (tupAt z22 1)) (keepO (some (aggL v17)) (some (aggL v17)) (some [(List.getD vs199 0 V.any), (V.sl (slL (List.getD vs199 1 V.any)))]))).bind J28)) n)))) fun J12 =>
 (keepT (some (V.obj c4)) (some (V.obj c4)) (keepO (some (aggL v10)) (some (aggL v10)) (some [(V.sl []), (vi 0)]))).bind (fixN (fun rec205 vs206 =>
 (lenS [x1]).bind fun v207 =>
 (bin2 Tryd.prog BinOp.lss 3 (ot 43) (ot 45) (List.getD vs206 1 V.any) v207).bind fun v208 =>
 (guardV v208 true (some (List.getD vs206 1 V.any))).bind fun v209 =>
 (guardV v208 true ((bin2 Tryd.prog BinOp.lss 3 (ot 48) (oc 20) v209 (vi 20)).bind fun v210 =>
 some v210)).bind fun v211 =>
 (pickV v208 v211 (vb false)).bind fun v212 =>
 condV v212 (
 (idxS 8 x1 (List.getD vs206 1 V.any)).bind fun v213 =>
 (ldp (some 8) v213).bind fun v214 =>
 (spliceV [(vi 0), (vb false), (vi 0), (vi 0), (vi 0), (vi 0), (vi 0), (vi 0)] 0 8 v214).bind fun v215 =>
 (spliceV (aggL v215) 0 1 (vi 1)).bind fun v216 =>
 (ldk (some 8) (List.drop 0 (aggL v216))).bind fun v217 =>
 (slcB 8 1 [(vi 0), (vb false), (vi 0), (vi 0), (vi 0), (vi 0), (vi 0), (vi 0)] [(0, v217)]).bind fun v218 =>
 (appV 8 (slL (List.getD vs206 0 V.any)) v218).bind fun v219 =>
 (bin2 Tryd.prog BinOp.add 3 (ot 51) (oc 1) (List.getD vs206 1 V.any) (vi 1)).bind fun v220 =>
 (keepT (some (V.obj c4)) (some (V.obj c4)) (keepO (some (aggL v10)) (some (aggL v10)) (some [(V.sl (slL v219)), v220]))).bind rec205) (
 (keepT (some (V.obj c4)) (some (V.obj c4)) (keepO (some (aggL v10)) (some (aggL v10)) (some [(V.sl (slL (List.getD vs206 0 V.any)))]))).bind J12)) n))) fun v2 =>
 partP (tupAt z1 0) 1 fun v221 =>
 (bin2 Tryd.prog BinOp.neq 27 (ot 37) (Operand.const Go.Value.nilIface) v221 vn).bind fun v222 =>
 condV v222 (
 some (vb true)) (
 ((fillL [(vi 0), (V.sl []), (V.sl [])] [(0, 1, (vi 1))]).map V.agg).bind fun v223 =>
 (slcB 1 1 [(V.sl [])] [(0, x0)]).bind fun v224 =>
 ((fillL [(vi 0), (V.sl []), (V.sl []), (V.sl [])] [(0, 3, v223), (3, 1, v224)]).map V.agg).bind fun v225 =>
 (spliceV [(vi 0), (V.sl []), (V.sl []), (V.sl [])] 0 4 v225).bind fun v226 =>
 JoinPt (fun vs227 =>
 (ldk (some 4) (List.drop 0 (aggL v226))).bind fun v229 =>
 ((sem_change_Apply n) [v229, (List.getD vs227 0 V.any)]).bind fun v230 =>
 (extractV v230 0).bind fun v231 =>
 (extractV v230 1).bind fun v232 =>
 (spliceV [(vi 0), (V.sl []), (V.sl []), (V.sl [])] 0 4 v231).bind fun v233 =>
 (bin2 Tryd.prog BinOp.neq 27 (ot 68) (Operand.const Go.Value.nilIface) v232 vn).bind fun v234 =>
 condV v234 (
 some (vb true)) (
 (lenS [(List.getD vs227 0 V.any)]).bind fun v235 =>
 ((fillL [(vi 0), (vi 0), (vi 0), (vi 0), (vi 0), (vb false), (vi 0), (vi 0), (vi 0), (vi 0), (vi 0), (vi 0)] [(0, 1, (vi 2)), (1, 1, (vi 1)), (2, 1, (vi 3)), (3, 1, v235)]).map V.agg).bind fun v236 =>
 none)) fun J228 =>
 none) := by kernel_rfl
noncomputable def t_raillaw2_AgentOnce (a0 : (List T_Rule)) (a1 : (List T_Op)) (a2 : (List Int)) (a3 : (List Int)) : Option Bool :=
 (t_agent_New 1 a0).bind fun r2 =>
 (caseO r2.1 (fun d6 => (
 if (!decide (r2.2 = 0)) = true then (
 some true) else (
 (loopI a1 (fun (i580 : Int) x581 (s576 : (List T_Op)) k577 =>
 if (decide (i580 < 20)) = true then (
 (app s576 ([(T_Op.mk 1 x581.Add x581.Rule)] : (List T_Op))).bind fun r599 =>
 k577 (r599)) else (
 some (s576))) (fun (s576 : (List T_Op)) =>
 some (s576)) ([])).bind fun (s16 : (List T_Op)) =>
 (t_change_Apply (T_Net.mk (T_Topo.mk 1 [] []) ([a0] : (List (List T_Rule)))) s16).bind fun r21 =>
 if (!decide (r21.2 = 0)) = true then (
 some true) else (
 (t_agent_Agent_Hear d6 (T_Msg.mk 2 1 3 (List.length s16 : Int) (T_Op.mk 0 false (T_Rule.mk 0 (T_Cube.mk 0 0) 0 0 0)))).bind fun r31 =>
 if (!decide (r31.2.1 = 0)) = true then (
 some false) else (
 (loopI s16 (fun (i559 : Int) x560 (s555 : (List Int)) k556 =>
 (app s555 ([i559] : (List Int))).bind fun r568 =>
 k556 (r568)) (fun (s555 : (List Int)) =>
 some (s16, s555)) ([])).bind fun (s39 : ((List T_Op) × (List Int))) =>
 join (fun (s44 : T_agent_Agent) =>
 (t_agent_Agent_Ready s44).bind fun r48 =>
 if (decide (r48 ≠ 3)) = true then (
 some false) else (
 (t_agent_Agent_Work s44).bind fun r54 =>
 (t_agent_Agent_Table r54.2.2).bind fun r59 =>
 (idx r21.1.Tables 0).bind fun r63 =>
 (t_railsame_Table r59 r63).bind fun r66 =>
 (gd (!(((!decide (r54.2.1 = 0)) || (!r66)) || (decide ((List.length r54.1 : Int) ≠ 1)))) default (idx r54.1 0)).bind fun r88 =>
 (gd (!((((!decide (r54.2.1 = 0)) || (!r66)) || (decide ((List.length r54.1 : Int) ≠ 1))) || (decide (r88.Kind ≠ 3)))) default (idx r54.1 0)).bind fun r104 =>
 if (((((!decide (r54.2.1 = 0)) || (!r66)) || (decide ((List.length r54.1 : Int) ≠ 1))) || (decide (r88.Kind ≠ 3))) || (decide (r104.Round ≠ 3))) = true then (
 some false) else (
 (t_agent_Agent_Work r54.2.2).bind fun r118 =>
 (t_railsame_Error r118.2.1 6).bind fun r123 =>
 (t_agent_Agent_Hear r118.2.2 (T_Msg.mk 2 1 3 7 (T_Op.mk 0 false (T_Rule.mk 0 (T_Cube.mk 0 0) 0 0 0)))).bind fun r127 =>
 (gd ((r123 && (decide (r127.2.1 = 0))) && (decide ((List.length r127.1 : Int) = 1))) default (idx r127.1 0)).bind fun r151 =>
 (gd ((r123 && (decide (r127.2.1 = 0))) && (decide ((List.length r127.1 : Int) = 1))) default (idx r54.1 0)).bind fun r160 =>
 some (((r123 && (decide (r127.2.1 = 0))) && (decide ((List.length r127.1 : Int) = 1))) && (decide (r151 = r160)))))) fun j45 =>
 tfix (fun k419 (s418 : (T_agent_Agent × (List T_Op) × (List Int) × Int)) =>
 if (decide (0 < (List.length s418.2.2.1 : Int))) = true then (
 (gd (decide (s418.2.2.2 < (List.length a2 : Int))) default (idx a2 s418.2.2.2)).bind fun r435 =>
 (gd ((decide (s418.2.2.2 < (List.length a2 : Int))) && (decide (0 ≤ r435))) default (idx a2 s418.2.2.2)).bind fun r450 =>
 (if (((decide (s418.2.2.2 < (List.length a2 : Int))) && (decide (0 ≤ r435))) && (decide (r450 < (List.length s418.2.2.1 : Int)))) = true then (
 (idx a2 s418.2.2.2).bind fun r551 =>
 some (s418.2.1, s418.2.2.1, r551)) else (
 some (s418.2.1, s418.2.2.1, 0))).bind fun (s465 : ((List T_Op) × (List Int) × Int)) =>
 (idx s465.2.1 s465.2.2).bind fun r469 =>
 (t_agent_Agent_Ready s418.1).bind fun r472 =>
 if (decide (r472 ≠ (-1 : Int))) = true then (
 some false) else (
 (idx s465.1 r469).bind fun r477 =>
 (t_agent_Agent_Hear s418.1 (T_Msg.mk 1 1 3 r469 r477)).bind fun r484 =>
 if (!decide (r484.2.1 = 0)) = true then (
 some false) else (
 (gd (decide (s418.2.2.2 < (List.length a3 : Int))) default (idx a3 s418.2.2.2)).bind fun r499 =>
 (if ((decide (s418.2.2.2 < (List.length a3 : Int))) && (decide (r499 = 1))) = true then (
 (t_agent_Agent_Hear r484.2.2 (T_Msg.mk 1 1 3 r469 r477)).bind fun r547 =>
 some (r547.2.2, s465.1, s465.2.1)) else (
 some (r484.2.2, s465.1, s465.2.1))).bind fun (s509 : (T_agent_Agent × (List T_Op) × (List Int))) =>
 (t_agent_Agent_Table s509.1).bind fun r513 =>
 (t_railsame_Table r513 a0).bind fun r516 =>
 (gd (!(!r516)) default (t_agent_Agent_Heard s509.1 3)).bind fun r522 =>
 if ((!r516) || (decide (r522 ≠ (wr (s418.2.2.2 + 1))))) = true then (
 some false) else (
 (slc_lo s509.2.2 (wr (s465.2.2 + 1))).bind fun r537 =>
 (slc_hd s509.2.2 s465.2.2 s465.2.2).bind fun r539 =>
 (app r539 r537).bind fun r541 =>
 k419 (s509.1, s509.2.1, r541, (wr (s418.2.2.2 + 1))))))) else (
 j45 (s418.1))) bigN (r31.2.2, s39.1, s39.2, 0)))))) (
 if (!decide (r2.2 = 0)) = true then (
 some true) else (
 none)))
theorem ty_raillaw2_AgentOnce {n : Nat} (hn : bigN ≤ n) (a0 : (List T_Rule)) (a1 : (List T_Op)) (a2 : (List Int)) (a3 : (List Int)) : Rv (fun x : Bool => (vb x)) (sem_raillaw2_AgentOnce n [(V.sl (List.map T_Rule.c a0)), (V.sl (List.map T_Op.c a1)), (V.sl (List.map cI a2)), (V.sl (List.map cI a3))]) (t_raillaw2_AgentOnce a0 a1 a2 a3) := by
  rw [eq_raillaw2_AgentOnce]
  unfold t_raillaw2_AgentOnce
  refine tbo (ty_agent_New hn 1 a0) fun r2 => ?_
  refine tpartK (fun d6 => ?_) ?_
  · refine tpartP0 ?_
    refine tb (x := (vb (!decide (r2.2 = 0)))) (p_err_neq _) ?_
    refine tcond (fun h9 => ?_) (fun h9 => ?_)
    · exact rf_ret rfl
    · refine tb (x := (T_Topo.e (T_Topo.mk 1 [] []))) (by kernel_rfl) ?_
      refine tb (x := (V.sl (List.map (cS T_Rule.c) ([a0] : (List (List T_Rule)))))) (by kernel_rfl) ?_
      refine tb (x := (T_Net.e (T_Net.mk (T_Topo.mk 1 [] []) ([a0] : (List (List T_Rule)))))) (by kernel_rfl) ?_
      refine tb (x := V.agg (T_Net.c (T_Net.mk (T_Topo.mk 1 [] []) ([a0] : (List (List T_Rule)))))) (by kernel_rfl) ?_
      refine tjb (mk := fun s16 : (List T_Op) => [(V.sl (List.map T_Op.c s16))]) (fun J15 => ?_) fun s16 => ?_
      · refine tkeepT2 ?_ rfl
        refine tkeepO2 ?_ rfl
        refine tsome ?_
        refine rf_loopI (mk := fun (i580 : Int) (s576 : (List T_Op)) => [(V.sl (List.map T_Op.c s576)), (vi (i580 : Int))]) hn a1 ([]) (fun i580 x581 h582 h583 h584 s576 rec574 k577 h578 => ?_) (fun s576 rec602 h601 => ?_)
        · refine tb (x := (vi (List.length a1 : Int))) (p_len _) ?_
          refine tb (x := (vb (decide ((i580 : Int) < (List.length a1 : Int))))) (d_lss) ?_
          refine tb (x := (vi (i580 : Int))) (gkt h584 rfl) ?_
          refine tkt h584 (tb (x := (vb (decide ((i580 : Int) < 20)))) (d_lss) ?_)
          refine tb (x := (vb (decide ((i580 : Int) < 20)))) (pick_kt h584) ?_
          refine tcond (fun h591 => ?_) (fun h591 => ?_)
          · refine tb (x := (V.ptr (T_Op.c x581))) (p_idx_at (c := T_Op.c) (fun _ => rfl) h582) ?_
            refine tb (x := (T_Op.e x581)) (rfl) ?_
            refine tb (x := V.agg (T_Op.c x581)) (by kernel_rfl) ?_
            refine tb (x := V.agg (T_Op.c (T_Op.mk 1 x581.Add x581.Rule))) (by kernel_rfl) ?_
            refine tb (x := (T_Op.e (T_Op.mk 1 x581.Add x581.Rule))) (rfl) ?_
            refine tb (x := (V.sl (List.map T_Op.c ([(T_Op.mk 1 x581.Add x581.Rule)] : (List T_Op))))) (by kernel_rfl) ?_
            refine tbo (p_app (c := T_Op.c) (fun _ => rfl) s576 ([(T_Op.mk 1 x581.Add x581.Rule)] : (List T_Op))) fun r599 => ?_
            refine tb (x := (vi ((i580 : Int) + 1))) (p_incN h583) ?_
            refine tkeepT2 ?_ rfl
            refine tkeepO2 ?_ rfl
            refine tsome ?_
            exact h578 (r599)
          · refine tkeepT2 ?_ rfl
            refine tkeepO2 ?_ rfl
            refine tsome ?_
            exact rf_j rfl
        · refine tb (x := (vi (List.length a1 : Int))) (p_len _) ?_
          refine tb (x := (vb (decide ((List.length a1 : Int) < (List.length a1 : Int))))) (d_lss) ?_
          refine tb (x := V.tup []) (gnt h601) ?_
          refine tb (x := V.tup []) (gnt h601) ?_
          refine tb (x := (vb (false))) (pick_kf h601) ?_
          refine tcond_f rfl ?_
          refine tkeepT2 ?_ rfl
          refine tkeepO2 ?_ rfl
          refine tsome ?_
          exact rf_j rfl
      · refine tb (x := (T_Net.e (T_Net.mk (T_Topo.mk 1 [] []) ([a0] : (List (List T_Rule)))))) (rfl) ?_
        refine tbo (ty_change_Apply hn (T_Net.mk (T_Topo.mk 1 [] []) ([a0] : (List (List T_Rule)))) s16) fun r21 => ?_
        refine tb (x := (T_Net.e r21.1)) (rfl) ?_
        refine tb (x := (eV r21.2)) (rfl) ?_
        refine tb (x := V.agg (T_Net.c r21.1)) (by kernel_rfl) ?_
        refine tb (x := (vb (!decide (r21.2 = 0)))) (p_err_neq _) ?_
        refine tcond (fun h26 => ?_) (fun h26 => ?_)
        · exact rf_ret rfl
        · refine tb (x := (vi (List.length s16 : Int))) (p_len _) ?_
          refine tb (x := (T_Msg.e (T_Msg.mk 2 1 3 (List.length s16 : Int) (T_Op.mk 0 false (T_Rule.mk 0 (T_Cube.mk 0 0) 0 0 0))))) (by kernel_rfl) ?_
          refine tb (x := V.any) rfl ?_
          refine tbo (ty_agent_Agent_Hear hn d6 (T_Msg.mk 2 1 3 (List.length s16 : Int) (T_Op.mk 0 false (T_Rule.mk 0 (T_Cube.mk 0 0) 0 0 0)))) fun r31 => ?_
          refine tb (x := (V.tup [(V.sl (List.map T_Msg.c r31.1)), (eV r31.2.1)])) rfl ?_
          refine tb (x := (V.sl (List.map T_Msg.c r31.1))) (rfl) ?_
          refine tb (x := (eV r31.2.1)) (rfl) ?_
          refine tb (x := (vb (!decide (r31.2.1 = 0)))) (p_err_neq _) ?_
          refine tcond (fun h36 => ?_) (fun h36 => ?_)
          · exact rf_ret rfl
          · refine tjb (mk := fun s39 : ((List T_Op) × (List Int)) => [(V.sl (List.map T_Op.c s39.1)), (V.sl (List.map cI s39.2))]) (fun J38 => ?_) fun s39 => ?_
            · refine tkeepT2 ?_ rfl
              refine tkeepO2 ?_ rfl
              refine tsome ?_
              refine rf_loopI (mk := fun (i559 : Int) (s555 : (List Int)) => [(V.sl (List.map T_Op.c s16)), (V.sl (List.map cI s555)), (vi (i559 : Int))]) hn s16 ([]) (fun i559 x560 h561 h562 h563 s555 rec553 k556 h557 => ?_) (fun s555 rec571 h570 => ?_)
              · refine tb (x := (vi (List.length s16 : Int))) (p_len _) ?_
                refine tb (x := (vb (decide ((i559 : Int) < (List.length s16 : Int))))) (d_lss) ?_
                refine tcond_t h563 ?_
                refine tb (x := (V.sl (List.map cI ([(i559 : Int)] : (List Int))))) (by kernel_rfl) ?_
                refine tbo (p_app (c := cI) (fun _ => rfl) s555 ([(i559 : Int)] : (List Int))) fun r568 => ?_
                refine tb (x := (vi ((i559 : Int) + 1))) (p_incN h562) ?_
                refine tkeepT2 ?_ rfl
                refine tkeepO2 ?_ rfl
                refine tsome ?_
                exact h557 (r568)
              · refine tb (x := (vi (List.length s16 : Int))) (p_len _) ?_
                refine tb (x := (vb (decide ((List.length s16 : Int) < (List.length s16 : Int))))) (d_lss) ?_
                refine tcond_f h570 ?_
                refine tkeepT2 ?_ rfl
                refine tkeepO2 ?_ rfl
                refine tsome ?_
                exact rf_j rfl
            · refine tjoin (mk := fun s44 : T_agent_Agent => [(V.obj (agC s44))]) (fun s44 => ?_) fun J43 j45 h46 => ?_
              · refine tb (x := (V.obj (agC s44))) ((rfl : _ = some (V.obj (agC s44)))) ?_
                refine tbo (tyL_Ready s44) fun r48 => ?_
                refine tb (x := (vi r48)) rfl ?_
                refine tb (x := (vb (decide (r48 ≠ 3)))) (d_neq) ?_
                refine tcond (fun h51 => ?_) (fun h51 => ?_)
                · exact rf_ret rfl
                · refine tb (x := V.any) rfl ?_
                  refine tbo (ty_agent_Agent_Work hn s44) fun r54 => ?_
                  refine tb (x := (V.tup [(V.sl (List.map T_Msg.c r54.1)), (eV r54.2.1)])) rfl ?_
                  refine tb (x := (V.sl (List.map T_Msg.c r54.1))) (rfl) ?_
                  refine tb (x := (eV r54.2.1)) (rfl) ?_
                  refine tb (x := V.ptr (agF r54.2.2)) (p_frzQ (agFz r54.2.2)) ?_
                  refine tbo (ty_agent_Agent_Table hn r54.2.2) fun r59 => ?_
                  refine tb (x := (V.sl (List.map T_Rule.c r59))) (p_flatQ (fun _ => rfl) r59) ?_
                  refine tb (x := (V.sl (List.map (cS T_Rule.c) r21.1.Tables))) (rfl) ?_
                  refine tbo (p_idx (c := (cS T_Rule.c)) (fun _ => rfl) r21.1.Tables 0) fun r63 => ?_
                  refine tb (x := (V.sl (List.map T_Rule.c r63))) (rfl) ?_
                  refine tbo (ty_railsame_Table hn r59 r63) fun r66 => ?_
                  refine tb (x := (vb (!decide (r54.2.1 = 0)))) (p_err_neq _) ?_
                  refine tg_f (x := (vb r66)) (fun h68 => rfl) ?_
                  refine tg_f (x := (vb (!r66))) (fun h70 => by simp only [gv_t h70]; exact bind_some_eq (d_not)) ?_
                  refine tb (x := (vb ((!decide (r54.2.1 = 0)) || (!r66)))) (pick_or (fun h9 => gv_t (not_f h9))) ?_
                  refine tg_f (x := (V.sl (List.map T_Msg.c r54.1))) (fun h74 => rfl) ?_
                  refine tg_f (x := (vi (List.length r54.1 : Int))) (fun h76 => by simp only [gv_t h76]; exact bind_some_eq (p_len _)) ?_
                  refine tg_f (x := (vb (decide ((List.length r54.1 : Int) ≠ 1)))) (fun h79 => by simp only [gv_t h79]; exact bind_some_eq (d_neq)) ?_
                  refine tb (x := (vb (((!decide (r54.2.1 = 0)) || (!r66)) || (decide ((List.length r54.1 : Int) ≠ 1))))) (pick_or (fun h9 => gv_t (not_f h9))) ?_
                  refine tg_f (x := (V.sl (List.map T_Msg.c r54.1))) (fun h83 => rfl) ?_
                  refine tgo_f (fun h85 => by simp only [gv_t h85]; exact rf_bind_some (p_idx (c := T_Msg.c) (fun _ => rfl) r54.1 0)) fun r88 => ?_
                  refine tg_f (x := (V.ptr (T_Msg.c r88))) (fun h89 => by first | exact bind_some_eq (rfl) | (simp only [gv_t h89]; exact bind_some_eq (rfl))) ?_
                  refine tg_f (x := (vi r88.Kind)) (fun h92 => by first | exact bind_some_eq (rfl) | (simp only [gv_t h92]; exact bind_some_eq (rfl))) ?_
                  refine tg_f (x := (vb (decide (r88.Kind ≠ 3)))) (fun h95 => by simp only [gv_t h95]; exact bind_some_eq (d_neq)) ?_
                  refine tb (x := (vb ((((!decide (r54.2.1 = 0)) || (!r66)) || (decide ((List.length r54.1 : Int) ≠ 1))) || (decide (r88.Kind ≠ 3))))) (pick_or (fun h9 => gv_t (not_f h9))) ?_
                  refine tg_f (x := (V.sl (List.map T_Msg.c r54.1))) (fun h99 => rfl) ?_
                  refine tgo_f (fun h101 => by simp only [gv_t h101]; exact rf_bind_some (p_idx (c := T_Msg.c) (fun _ => rfl) r54.1 0)) fun r104 => ?_
                  refine tg_f (x := (V.ptr (List.drop 2 (T_Msg.c r104)))) (fun h105 => by first | exact bind_some_eq (rfl) | (simp only [gv_t h105]; exact bind_some_eq (rfl))) ?_
                  refine tg_f (x := (vi r104.Round)) (fun h108 => by first | exact bind_some_eq (rfl) | (simp only [gv_t h108]; exact bind_some_eq (rfl))) ?_
                  refine tg_f (x := (vb (decide (r104.Round ≠ 3)))) (fun h111 => by simp only [gv_t h111]; exact bind_some_eq (d_neq)) ?_
                  refine tb (x := (vb (((((!decide (r54.2.1 = 0)) || (!r66)) || (decide ((List.length r54.1 : Int) ≠ 1))) || (decide (r88.Kind ≠ 3))) || (decide (r104.Round ≠ 3))))) (pick_or (fun h9 => gv_t (not_f h9))) ?_
                  refine tcond (fun h115 => ?_) (fun h115 => ?_)
                  · exact rf_ret rfl
                  · refine tb (x := V.any) rfl ?_
                    refine tbo (ty_agent_Agent_Work hn r54.2.2) fun r118 => ?_
                    refine tb (x := (V.tup [(V.sl (List.map T_Msg.c r118.1)), (eV r118.2.1)])) rfl ?_
                    refine tb (x := (V.sl (List.map T_Msg.c r118.1))) (rfl) ?_
                    refine tb (x := (eV r118.2.1)) (rfl) ?_
                    refine tbo (ty_railsame_Error r118.2.1 6) fun r123 => ?_
                    refine tb (x := (T_Msg.e (T_Msg.mk 2 1 3 7 (T_Op.mk 0 false (T_Rule.mk 0 (T_Cube.mk 0 0) 0 0 0))))) (by kernel_rfl) ?_
                    refine tb (x := V.any) rfl ?_
                    refine tbo (ty_agent_Agent_Hear hn r118.2.2 (T_Msg.mk 2 1 3 7 (T_Op.mk 0 false (T_Rule.mk 0 (T_Cube.mk 0 0) 0 0 0)))) fun r127 => ?_
                    refine tb (x := (V.tup [(V.sl (List.map T_Msg.c r127.1)), (eV r127.2.1)])) rfl ?_
                    refine tb (x := (V.sl (List.map T_Msg.c r127.1))) (rfl) ?_
                    refine tb (x := (eV r127.2.1)) (rfl) ?_
                    refine tg (x := (eV r127.2.1)) (fun h131 => rfl) ?_
                    refine tg (x := (vb (decide (r127.2.1 = 0)))) (fun h133 => by simp only [gv_t h133]; exact bind_some_eq (p_err_eql _)) ?_
                    refine tb (x := (vb (r123 && (decide (r127.2.1 = 0))))) (pick_and (fun h9 => gv_t h9)) ?_
                    refine tg (x := (V.sl (List.map T_Msg.c r127.1))) (fun h137 => rfl) ?_
                    refine tg (x := (vi (List.length r127.1 : Int))) (fun h139 => by simp only [gv_t h139]; exact bind_some_eq (p_len _)) ?_
                    refine tg (x := (vb (decide ((List.length r127.1 : Int) = 1)))) (fun h142 => by simp only [gv_t h142]; exact bind_some_eq (d_eql)) ?_
                    refine tb (x := (vb ((r123 && (decide (r127.2.1 = 0))) && (decide ((List.length r127.1 : Int) = 1))))) (pick_and (fun h9 => gv_t h9)) ?_
                    refine tg (x := (V.sl (List.map T_Msg.c r127.1))) (fun h146 => rfl) ?_
                    refine tgo (fun h148 => by simp only [gv_t h148]; exact rf_bind_some (p_idx (c := T_Msg.c) (fun _ => rfl) r127.1 0)) fun r151 => ?_
                    refine tg (x := (T_Msg.e r151)) (fun h152 => by first | exact bind_some_eq (rfl) | (simp only [gv_t h152]; exact bind_some_eq (rfl))) ?_
                    refine tg (x := (V.sl (List.map T_Msg.c r54.1))) (fun h155 => rfl) ?_
                    refine tgo (fun h157 => by simp only [gv_t h157]; exact rf_bind_some (p_idx (c := T_Msg.c) (fun _ => rfl) r54.1 0)) fun r160 => ?_
                    refine tg (x := (T_Msg.e r160)) (fun h161 => by first | exact bind_some_eq (rfl) | (simp only [gv_t h161]; exact bind_some_eq (rfl))) ?_
                    refine tg (x := (vb (decide (r151 = r160)))) (fun h164 => by simp only [gv_t h164]; exact bind_some_eq (T_Msg.eql r151 r160)) ?_
                    refine tb (x := (vb (((r123 && (decide (r127.2.1 = 0))) && (decide ((List.length r127.1 : Int) = 1))) && (decide (r151 = r160))))) (pick_and (fun h9 => gv_t h9)) ?_
                    exact rf_ret rfl
              · refine tkeepO2 ?_ rfl
                refine tsome ?_
                refine rf_fixN (mk := fun (s418 : (T_agent_Agent × (List T_Op) × (List Int) × Int)) => [(V.obj (agC s418.1)), (V.sl (List.map T_Op.c s418.2.1)), (V.sl (List.map cI s418.2.2.1)), (vi s418.2.2.2)]) hn (r31.2.2, s39.1, s39.2, 0) (fun rec416 k419 h420 s418 => ?_)
                refine tb (x := (vi (List.length s418.2.2.1 : Int))) (p_len _) ?_
                refine tb (x := (vb (decide (0 < (List.length s418.2.2.1 : Int))))) (d_gtr) ?_
                refine tcond (fun h425 => ?_) (fun h425 => ?_)
                · refine tb (x := (vi (List.length a2 : Int))) (p_len _) ?_
                  refine tb (x := (vb (decide (s418.2.2.2 < (List.length a2 : Int))))) (d_lss) ?_
                  refine tg (x := (V.sl (List.map cI a2))) (fun h428 => rfl) ?_
                  refine tg (x := (vi s418.2.2.2)) (fun h430 => rfl) ?_
                  refine tgo (fun h432 => by simp only [gv_t h432]; exact rf_bind_some (p_idx (c := cI) (fun _ => rfl) a2 s418.2.2.2)) fun r435 => ?_
                  refine tg (x := (vi r435)) (fun h436 => by first | exact bind_some_eq (rfl) | (simp only [gv_t h436]; exact bind_some_eq (rfl))) ?_
                  refine tg (x := (vb (decide (0 ≤ r435)))) (fun h439 => by simp only [gv_t h439]; exact bind_some_eq (d_geq)) ?_
                  refine tb (x := (vb ((decide (s418.2.2.2 < (List.length a2 : Int))) && (decide (0 ≤ r435))))) (pick_and (fun h9 => gv_t h9)) ?_
                  refine tg (x := (V.sl (List.map cI a2))) (fun h443 => rfl) ?_
                  refine tg (x := (vi s418.2.2.2)) (fun h445 => rfl) ?_
                  refine tgo (fun h447 => by simp only [gv_t h447]; exact rf_bind_some (p_idx (c := cI) (fun _ => rfl) a2 s418.2.2.2)) fun r450 => ?_
                  refine tg (x := (vi r450)) (fun h451 => by first | exact bind_some_eq (rfl) | (simp only [gv_t h451]; exact bind_some_eq (rfl))) ?_
                  refine tg (x := (V.sl (List.map cI s418.2.2.1))) (fun h454 => rfl) ?_
                  refine tg (x := (vi (List.length s418.2.2.1 : Int))) (fun h456 => by simp only [gv_t h456]; exact bind_some_eq (p_len _)) ?_
                  refine tg (x := (vb (decide (r450 < (List.length s418.2.2.1 : Int))))) (fun h459 => by simp only [gv_t h459]; exact bind_some_eq (d_lss)) ?_
                  refine tb (x := (vb (((decide (s418.2.2.2 < (List.length a2 : Int))) && (decide (0 ≤ r435))) && (decide (r450 < (List.length s418.2.2.1 : Int)))))) (pick_and (fun h9 => gv_t h9)) ?_
                  refine tjb (mk := fun s465 : ((List T_Op) × (List Int) × Int) => [(V.sl (List.map T_Op.c s465.1)), (V.sl (List.map cI s465.2.1)), (vi s465.2.2)]) (fun J464 => ?_) fun s465 => ?_
                  · refine tcond (fun h549 => ?_) (fun h549 => ?_)
                    · refine tbo (p_idx (c := cI) (fun _ => rfl) a2 s418.2.2.2) fun r551 => ?_
                      refine tb (x := (vi r551)) (rfl) ?_
                      refine tkeepT2 ?_ rfl
                      refine tkeepO2 ?_ rfl
                      refine tsome ?_
                      exact rf_j rfl
                    · refine tkeepT2 ?_ rfl
                      refine tkeepO2 ?_ rfl
                      refine tsome ?_
                      exact rf_j rfl
                  · refine tbo (p_idx (c := cI) (fun _ => rfl) s465.2.1 s465.2.2) fun r469 => ?_
                    refine tb (x := (vi r469)) (rfl) ?_
                    refine tb (x := (V.obj (agC s418.1))) ((rfl : _ = some (V.obj (agC s418.1)))) ?_
                    refine tbo (tyL_Ready s418.1) fun r472 => ?_
                    refine tb (x := (vi r472)) rfl ?_
                    refine tb (x := (vb (decide (r472 ≠ (-1 : Int))))) (d_neq) ?_
                    refine tcond (fun h475 => ?_) (fun h475 => ?_)
                    · exact rf_ret rfl
                    · refine tbo (p_idx (c := T_Op.c) (fun _ => rfl) s465.1 r469) fun r477 => ?_
                      refine tb (x := (T_Op.e r477)) (rfl) ?_
                      refine tb (x := (T_Msg.e (T_Msg.mk 1 1 3 r469 r477))) (by kernel_rfl) ?_
                      refine tb (x := V.agg (T_Msg.c (T_Msg.mk 1 1 3 r469 r477))) (by kernel_rfl) ?_
                      refine tb (x := (T_Msg.e (T_Msg.mk 1 1 3 r469 r477))) (rfl) ?_
                      refine tb (x := V.any) rfl ?_
                      refine tbo (ty_agent_Agent_Hear hn s418.1 (T_Msg.mk 1 1 3 r469 r477)) fun r484 => ?_
                      refine tb (x := (V.tup [(V.sl (List.map T_Msg.c r484.1)), (eV r484.2.1)])) rfl ?_
                      refine tb (x := (V.sl (List.map T_Msg.c r484.1))) (rfl) ?_
                      refine tb (x := (eV r484.2.1)) (rfl) ?_
                      refine tb (x := (vb (!decide (r484.2.1 = 0)))) (p_err_neq _) ?_
                      refine tcond (fun h489 => ?_) (fun h489 => ?_)
                      · exact rf_ret rfl
                      · refine tb (x := (vi (List.length a3 : Int))) (p_len _) ?_
                        refine tb (x := (vb (decide (s418.2.2.2 < (List.length a3 : Int))))) (d_lss) ?_
                        refine tg (x := (V.sl (List.map cI a3))) (fun h492 => rfl) ?_
                        refine tg (x := (vi s418.2.2.2)) (fun h494 => rfl) ?_
                        refine tgo (fun h496 => by simp only [gv_t h496]; exact rf_bind_some (p_idx (c := cI) (fun _ => rfl) a3 s418.2.2.2)) fun r499 => ?_
                        refine tg (x := (vi r499)) (fun h500 => by first | exact bind_some_eq (rfl) | (simp only [gv_t h500]; exact bind_some_eq (rfl))) ?_
                        refine tg (x := (vb (decide (r499 = 1)))) (fun h503 => by simp only [gv_t h503]; exact bind_some_eq (d_eql)) ?_
                        refine tb (x := (vb ((decide (s418.2.2.2 < (List.length a3 : Int))) && (decide (r499 = 1))))) (pick_and (fun h9 => gv_t h9)) ?_
                        refine tjb (mk := fun s509 : (T_agent_Agent × (List T_Op) × (List Int)) => [(V.obj (agC s509.1)), (V.sl (List.map T_Op.c s509.2.1)), (V.sl (List.map cI s509.2.2))]) (fun J508 => ?_) fun s509 => ?_
                        · refine tcond (fun h543 => ?_) (fun h543 => ?_)
                          · refine tb (x := (T_Msg.e (T_Msg.mk 1 1 3 r469 r477))) (rfl) ?_
                            refine tb (x := V.any) rfl ?_
                            refine tbo (ty_agent_Agent_Hear hn r484.2.2 (T_Msg.mk 1 1 3 r469 r477)) fun r547 => ?_
                            refine tb (x := (V.tup [(V.sl (List.map T_Msg.c r547.1)), (eV r547.2.1)])) rfl ?_
                            refine tkeepO2 ?_ rfl
                            refine tsome ?_
                            exact rf_j rfl
                          · refine tkeepO2 ?_ rfl
                            refine tsome ?_
                            exact rf_j rfl
                        · refine tb (x := V.ptr (agF s509.1)) (p_frzQ (agFz s509.1)) ?_
                          refine tbo (ty_agent_Agent_Table hn s509.1) fun r513 => ?_
                          refine tb (x := (V.sl (List.map T_Rule.c r513))) (p_flatQ (fun _ => rfl) r513) ?_
                          refine tbo (ty_railsame_Table hn r513 a0) fun r516 => ?_
                          refine tb (x := (vb (!r516))) (d_not) ?_
                          refine tg_f (x := V.any) (fun h518 => rfl) ?_
                          refine tgo_f (e1 := fun r522 => (vi r522)) (fun h520 => ?_) fun r522 => ?_
                          · refine tb (x := (V.obj (agC s509.1))) (p_gate1 (not_t h520) ((rfl : _ = some (V.obj (agC s509.1))))) ?_
                            exact rf_litQ (tyL_Heard s509.1 3) (fun _ => rfl)
                          · refine tg_f (x := (vi s418.2.2.2)) (fun h524 => rfl) ?_
                            refine tg_f (x := (vi (wr (s418.2.2.2 + 1)))) (fun h526 => by simp only [gv_t h526]; exact bind_some_eq (d_add)) ?_
                            refine tg_f (x := (vb (decide (r522 ≠ (wr (s418.2.2.2 + 1)))))) (fun h529 => by simp only [gv_t h529]; exact bind_some_eq (d_neq)) ?_
                            refine tb (x := (vb ((!r516) || (decide (r522 ≠ (wr (s418.2.2.2 + 1))))))) (pick_or (fun h9 => gv_t (not_f h9))) ?_
                            refine tcond (fun h533 => ?_) (fun h533 => ?_)
                            · exact rf_ret rfl
                            · refine tb (x := (vi (wr (s465.2.2 + 1)))) (d_add) ?_
                              refine tb (x := (vi (wr (s465.2.2 + 1)))) rfl ?_
                              refine tbo (p_slc_lo (c := cI) (fun _ => rfl) s509.2.2 (wr (s465.2.2 + 1))) fun r537 => ?_
                              refine tbo (p_head (c := cI) s509.2.2 s465.2.2 s465.2.2) fun r539 => ?_
                              refine tbo (p_app (c := cI) (fun _ => rfl) r539 r537) fun r541 => ?_
                              refine tb (x := (vi (wr (s418.2.2.2 + 1)))) (d_add) ?_
                              refine tkeepO2 ?_ rfl
                              refine tsome ?_
                              exact h420 (s509.1, s509.2.1, r541, (wr (s418.2.2.2 + 1)))
                · refine tkeepO2 ?_ rfl
                  refine tsome ?_
                  exact h46 (s418.1)
  · refine tpartP0 ?_
    refine tb (x := (vb (!decide (r2.2 = 0)))) (p_err_neq _) ?_
    refine tcond (fun h612 => ?_) (fun h612 => ?_)
    · exact rf_ret rfl
    · exact rf_none

end Go.Proofs.YtgfleiknigjnbaaDoor.Ty
