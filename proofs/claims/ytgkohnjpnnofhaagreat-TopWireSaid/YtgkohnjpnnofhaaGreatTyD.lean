/- What functions do, as functions on plain types, written by a program and checked by the kernel. -/
import Derived.Test.YtgkohnjpnnofhaaGreatDenPlain
import Derived.Test.YtgkohnjpnnofhaaGreatTy
import Derived.Test.YtgkohnjpnnofhaaGreatTyT
import Derived.Test.YtgkohnjpnnofhaaGreatTyW
import Derived.Test.YtgkohnjpnnofhaaGreatTyA
import Derived.Test.YtgkohnjpnnofhaaGreatAgTy
import Derived.Test.YtgkohnjpnnofhaaGreatAgReady
import Derived.Test.YtgkohnjpnnofhaaGreatTyB
import Derived.Test.YtgkohnjpnnofhaaGreatAgWork
import Derived.Test.YtgkohnjpnnofhaaGreatDen14
import Derived.Test.YtgkohnjpnnofhaaGreatDenS2
import Derived.Test.YtgkohnjpnnofhaaGreatShelf
import Derived.Test.YtgkohnjpnnofhaaGreatClone
namespace Go.Proofs.YtgkohnjpnnofhaaGreat.Ty
set_option linter.unusedVariables false
open Go Go.RowKit Go.Proofs.YtgkohnjpnnofhaaGreat.Den
set_option maxRecDepth 100000
def an_railtop_TopWire : Ann := .seq (.reg 0 [] [] []) (.seq (.reg 0 [] [] []) (.seq (.seq (.reg 0 [] [] []) (.cond none (.seq (.reg 0 [] [] []) (.no)) (.no))) (.seq (.reg 0 [] [] []) (.seq (.seq (.reg 0 [] [] []) (.cond none (.seq (.reg 0 [] [] []) (.no)) (.no))) (.seq (.reg 0 [] [] [51, 52]) (.seq (.seq (.reg 0 [] [] []) (.cond none (.seq (.reg 0 [] [] []) (.no)) (.no))) (.seq (.reg 0 [] [] []) (.seq (.seq (.reg 0 [] [] []) (.cond none (.seq (.reg 0 [] [] []) (.no)) (.no))) (.seq (.reg 0 [] [] []) (.seq (.seq (.reg 0 [] [] []) (.blk (some [.kb 3, .kb 8, .ko 10, .s 13]) (.loop [.kb 3, .kb 8, .ko 10, .s 13, .s 14] (.seq (.seq (.reg 0 [] [] []) (.cond none (.no) (.no))) (.seq (.blk none (.seq (.reg 0 [] [] []) (.seq (.seq (.reg 0 [] [] []) (.cond none (.seq (.reg 0 [] [] []) (.no)) (.no))) (.reg 0 [] [] [])))) (.reg 0 [] [] [])))))) (.seq (.seq (.reg 0 [] [] []) (.cond (some [.kb 3, .kb 8, .ko 10, .s 2]) (.reg 0 [] [] []) (.no))) (.seq (.reg 0 [] [] [94, 2000095]) (.seq (.reg 0 [] [] [104, 2000105]) (.seq (.seq (.reg 0 [] [] []) (.cond none (.seq (.reg 0 [] [] []) (.no)) (.no))) (.seq (.reg 0 [] [] [130]) (.seq (.seq (.reg 0 [] [] []) (.blk (some [.o 10]) (.loop [.kb 3, .kb 8, .ko 17, .o 10, .s 22] (.seq (.seq (.reg 0 [] [] []) (.cond none (.no) (.no))) (.seq (.blk (some [.kb 3, .kb 8, .ko 17, .o 10]) (.seq (.reg 0 [] [] [146, 147]) (.seq (.seq (.reg 0 [] [] []) (.cond none (.seq (.reg 0 [] [] []) (.no)) (.no))) (.seq (.reg 0 [] [] []) (.seq (.seq (.reg 0 [] [] []) (.blk (some [.kb 3, .kb 8, .ko 10, .ko 17, .o 23, .s 25]) (.loop [.kb 3, .kb 8, .ko 10, .ko 17, .o 23, .s 25, .s 26] (.seq (.seq (.reg 0 [] [] []) (.cond none (.no) (.no))) (.seq (.blk none (.seq (.reg 0 [] [] []) (.cond (some [.kb 3, .kb 8, .ko 10, .ko 17, .o 23, .s 25]) (.seq (.reg 0 [] [] []) (.seq (.reg 0 [] [] []) (.seq (.reg 0 [] [] []) (.cond none (.seq (.reg 0 [] [] []) (.no)) (.no))))) (.no)))) (.reg 0 [] [] [])))))) (.seq (.seq (.reg 0 [] [] []) (.cond (some [.kb 3, .kb 8, .ko 17, .o 10, .o 23]) (.seq (.reg 0 [] [] []) (.seq (.reg 0 [] [] [5000193]) (.cond none (.seq (.reg 0 [] [] []) (.no)) (.no)))) (.no))) (.seq (.reg 10 [] [] [2000197, 3000197]) (.seq (.reg 0 [] [] []) (.cond none (.seq (.reg 0 [] [] []) (.no)) (.no)))))))))) (.reg 0 [] [] [])))))) (.seq (.reg 0 [] [] [2000208]) (.no))))))))))))))))))
noncomputable def sem_railtop_TopWire (n : Nat) (xs : List V) : Option V := if xs.length ≤ 209 then denF Tryz.prog (envOf [(4, (sem_railtop_one n)), (5, (sem_change_Apply n)), (6 + 1000000, (sem_drive_New n)), (7 + 1000000, (sem_drive_Drive_Next n)), (8, (sem_wire_Encode n)), (9 + 1000000, (sem_wire_Cut n)), (10 + 1000000, (sem_agent_New n)), (11 + 1000000, (sem_agent_Agent_Hear n)), (12 + 1000000, (sem_agent_Agent_Work n)), (13 + 1000000, (sem_drive_Drive_Hear n)), (15 + 1000000 * (47 + 2), (sem_agent_Agent_Table n)), (14, (sem_railsame_Table n)), (16, (sem_drive_Drive_Done n))]) n Tryz.f3 an_railtop_TopWire xs else none
theorem ok_railtop_TopWire (n : Nat) : SemOk Tryz.prog DW 3 (sem_railtop_TopWire n) := fun xs y h => by
 unfold sem_railtop_TopWire at h
 split at h
 ·rename_i hl
  exact denF_ok stb Tryz.func3 (by kernel_rfl) (envOf_ok (semsOk_cons (ok_railtop_one n) (semsOk_cons (ok_change_Apply n) (semsOk_consM (ok_drive_New n) (semsOk_consM (ok_drive_Drive_Next n) (semsOk_cons (ok_wire_Encode n) (semsOk_consM (ok_wire_Cut n) (semsOk_consM (ok_agent_New n) (semsOk_consM (ok_agent_Agent_Hear n) (semsOk_consM (ok_agent_Agent_Work n) (semsOk_consM (ok_drive_Drive_Hear n) (semsOk_consR (ok_agent_Agent_Table n) (semsOk_cons (ok_railsame_Table n) (semsOk_cons (ok_drive_Drive_Done n) semsOk_nil)))))))))))))) (by rw [Tryz.ntmps3]; exact hl) h
 ·cases h
theorem eq_railtop_TopWire (n : Nat) (x0 x1 x2 : V) : sem_railtop_TopWire n [x0, x1, x2] =
 (V.cellsO x0).bind fun v1 =>
 ((sem_railtop_one n) []).bind fun v2 =>
 (scal1 Tryz.prog (Op.unary Go.UnOp.not) v2).bind fun v3 =>
 condV v3 (
 some (vb false)) (
 (ldk (some 4) (List.drop 0 v1)).bind fun v4 =>
 ((sem_change_Apply n) [v4, x1]).bind fun v5 =>
 (extractV v5 0).bind fun v6 =>
 (extractV v5 1).bind fun v7 =>
 (spliceV [(vi 0), (V.sl []), (V.sl []), (V.sl [])] 0 4 v6).bind fun v8 =>
 (bin2 Tryz.prog BinOp.neq 32 (ot 41) (Operand.const Go.Value.nilIface) v7 vn).bind fun v9 =>
 (guardV v9 false (some x1)).bind fun v10 =>
 (guardV v9 false ((lenS [v10]).bind fun v11 =>
 some v11)).bind fun v12 =>
 (guardV v9 false ((bin2 Tryz.prog BinOp.gtr 3 (ot 45) (oc 40) v12 (vi 40)).bind fun v13 =>
 some v13)).bind fun v14 =>
 (pickV v9 (vb true) v14).bind fun v15 =>
 condV v15 (
 some (vb true)) (
 (slcB 1 1 [(V.sl [])] [(0, x1)]).bind fun v16 =>
 ((sem_drive_New n) [v16, (vi 5)]).bind fun z17 =>
 partK (tupAt z17 0) 0 (fun l19 c20 =>
 partP (V.tup l19) 1 fun v21 =>
 (bin2 Tryz.prog BinOp.neq 32 (ot 54) (Operand.const Go.Value.nilIface) v21 vn).bind fun v22 =>
 condV v22 (
 some (vb false)) (
 (objG (V.obj c20)).bind fun v23 =>
 ((sem_drive_Drive_Next n) [(V.obj c20)]).bind fun z24 =>
 (pureO (tupAt z24 0)).bind fun v25 =>
 (extractV v25 0).bind fun v26 =>
 (extractV v25 1).bind fun v27 =>
 (bin2 Tryz.prog BinOp.neq 32 (ot 61) (Operand.const Go.Value.nilIface) v27 vn).bind fun v28 =>
 condV v28 (
 some (vb false)) (
 JoinPt (fun vs29 =>
 (bin2 Tryz.prog BinOp.lss 3 (ot 82) (oc 0) x2 (vi 0)).bind fun v31 =>
 (guardV v31 false (some x2)).bind fun v32 =>
 (guardV v31 false (some (List.getD vs29 0 V.any))).bind fun v33 =>
 (guardV v31 false ((lenT [v33]).bind fun v34 =>
 some v34)).bind fun v35 =>
 (guardV v31 false ((bin2 Tryz.prog BinOp.gtr 3 (ot 85) (ot 87) v32 v35).bind fun v36 =>
 some v36)).bind fun v37 =>
 (pickV v31 (vb true) v37).bind fun v38 =>
 JoinPt (fun vs39 =>
 (slc none (List.getD vs29 0 V.any) none (some (List.getD vs39 0 V.any))).bind fun v41 =>
 ((sem_wire_Cut n) [v41]).bind fun z42 =>
 partR (tupAt z42 0) 0 fun l44 k45 c46 =>
 partP (V.tup l44) 1 fun v47 =>
 partP (V.tup l44) 2 fun v48 =>
 (slc none (List.getD vs29 0 V.any) (some (List.getD vs39 0 V.any)) none).bind fun v49 =>
 (bin2 Tryz.prog BinOp.add 9 (ot 99) (ot 102) v47 v49).bind fun v50 =>
 ((sem_wire_Cut n) [v50]).bind fun z51 =>
 partR (tupAt z51 0) 0 fun l53 k54 c55 =>
 partP (V.tup l53) 1 fun v56 =>
 partP (V.tup l53) 2 fun v57 =>
 (bin2 Tryz.prog BinOp.neq 32 (ot 108) (Operand.const Go.Value.nilIface) v48 vn).bind fun v58 =>
 (guardV v58 false (some v57)).bind fun v59 =>
 (guardV v58 false ((bin2 Tryz.prog BinOp.neq 32 (ot 111) (Operand.const Go.Value.nilIface) v59 vn).bind fun v60 =>
 some v60)).bind fun v61 =>
 (pickV v58 (vb true) v61).bind fun v62 =>
 (guardV v62 false (some v56)).bind fun v63 =>
 (guardV v62 false ((bin2 Tryz.prog BinOp.neq 9 (ot 115) (Operand.const (Go.Value.string (ByteArray.mk #[]))) v63 (vt ⟨#[]⟩)).bind fun v64 =>
 some v64)).bind fun v65 =>
 (pickV v62 (vb true) v65).bind fun v66 =>
 (guardV v66 false (some V.any)).bind fun v67 =>
 (guardV v66 false ((gate v66 false ((oslR (V.osl k45 c46)).map fun rows => V.lit (Go.Value.int Go.IntKind.i64 (List.length rows)))).bind fun v68 =>
 some v68)).bind fun v69 =>
 (guardV v66 false (some V.any)).bind fun v70 =>
 (guardV v66 false ((gate v66 false ((oslR (V.osl k54 c55)).map fun rows => V.lit (Go.Value.int Go.IntKind.i64 (List.length rows)))).bind fun v71 =>
 some v71)).bind fun v72 =>
 (guardV v66 false ((bin2 Tryz.prog BinOp.add 3 (ot 120) (ot 122) v69 v72).bind fun v73 =>
 some v73)).bind fun v74 =>
 (guardV v66 false (some v26)).bind fun v75 =>
 (guardV v66 false ((lenS [v75]).bind fun v76 =>
 some v76)).bind fun v77 =>
 (guardV v66 false ((bin2 Tryz.prog BinOp.neq 3 (ot 123) (ot 125) v74 v77).bind fun v78 =>
 some v78)).bind fun v79 =>
 (pickV v66 (vb true) v79).bind fun v80 =>
 condV v80 (
 some (vb false)) (
 (appS 12 (V.osl k45 c46) (V.osl k54 c55)).bind fun v81 =>
 JoinPt (fun vs82 =>
 (some (frzQ (List.getD vs82 0 V.any))).bind fun v84 =>
 ((sem_drive_Drive_Done n) [v84]).bind fun v86 =>
 (litQ v86).bind fun v85 =>
 some v85) fun J83 =>
 (keepO (some v1) (some v1) (keepO (some (aggL v8)) (some (aggL v8)) (keepT (some v81) (some v81) (some [(tupAt z24 1), (vi 1)])))).bind (fixN (fun rec87 vs88 =>
 (ldk none (List.drop 0 v1)).bind fun v89 =>
 (bin2 Tryz.prog BinOp.leq 3 (ot 131) (ot 134) (List.getD vs88 1 V.any) v89).bind fun v90 =>
 condV v90 (
 JoinPt (fun vs91 =>
 (bin2 Tryz.prog BinOp.add 3 (ot 136) (oc 1) (List.getD vs88 1 V.any) (vi 1)).bind fun v93 =>
 (keepO (some v1) (some v1) (keepO (some (aggL v8)) (some (aggL v8)) (keepT (some v81) (some v81) (some [(List.getD vs91 0 V.any), v93])))).bind rec87) fun J92 =>
 (ldk none (List.drop 3 v1)).bind fun v94 =>
 (bin2 Tryz.prog BinOp.sub 3 (ot 142) (oc 1) (List.getD vs88 1 V.any) (vi 1)).bind fun v95 =>
 (idxS 1 v94 v95).bind fun v96 =>
 (ldp none v96).bind fun v97 =>
 ((sem_agent_New n) [(List.getD vs88 1 V.any), v97]).bind fun z98 =>
 partK (tupAt z98 0) 0 (fun l100 c101 =>
 partP (V.tup l100) 1 fun v102 =>
 (bin2 Tryz.prog BinOp.neq 32 (ot 149) (Operand.const Go.Value.nilIface) v102 vn).bind fun v103 =>
 condV v103 (
 some (vb false)) (
 JoinPt (fun vs104 =>
 JoinPt (fun vs106 =>
 (some (frzQ (List.getD vs106 1 V.any))).bind fun v108 =>
 ((sem_agent_Agent_Table n) [v108]).bind fun v110 =>
 (flatQ v110).bind fun v109 =>
 (ldk none (List.drop 3 (aggL v8))).bind fun v111 =>
 (bin2 Tryz.prog BinOp.sub 3 (ot 200) (oc 1) (List.getD vs88 1 V.any) (vi 1)).bind fun v112 =>
 (idxS 1 v111 v112).bind fun v113 =>
 (ldp none v113).bind fun v114 =>
 ((sem_railsame_Table n) [v109, v114]).bind fun v115 =>
 (scal1 Tryz.prog (Op.unary Go.UnOp.not) v115).bind fun v116 =>
 condV v116 (
 some (vb false)) (
 (keepO (some v1) (some v1) (keepO (some (aggL v8)) (some (aggL v8)) (keepT (some v81) (some v81) (some [(List.getD vs106 0 V.any)])))).bind J92)) fun J107 =>
 condV (List.getD vs104 1 V.any) (
 (objG (List.getD vs104 0 V.any)).bind fun v117 =>
 ((sem_agent_Agent_Work n) [(List.getD vs104 0 V.any)]).bind fun z118 =>
 (pureO (tupAt z118 0)).bind fun v119 =>
 (extractV v119 0).bind fun v120 =>
 (extractV v119 1).bind fun v121 =>
 (bin2 Tryz.prog BinOp.neq 32 (ot 181) (Operand.const Go.Value.nilIface) v121 vn).bind fun v122 =>
 (guardV v122 false (some v120)).bind fun v123 =>
 (guardV v122 false ((lenS [v123]).bind fun v124 =>
 some v124)).bind fun v125 =>
 (guardV v122 false ((bin2 Tryz.prog BinOp.neq 3 (ot 185) (oc 1) v125 (vi 1)).bind fun v126 =>
 some v126)).bind fun v127 =>
 (pickV v122 (vb true) v127).bind fun v128 =>
 (guardV v128 false (some V.any)).bind fun v129 =>
 (guardV v128 false (some v120)).bind fun v130 =>
 (guardV v128 false ((idxS 12 v130 (vi 0)).bind fun v131 =>
 some v131)).bind fun v132 =>
 (guardV v128 false ((ldp (some 12) v132).bind fun v133 =>
 some v133)).bind fun v134 =>
 (objG (List.getD vs88 0 V.any)).bind fun v135 =>
 (guardZ v128 false (gate v128 false ((sem_drive_Drive_Hear n) [(List.getD vs88 0 V.any), v134])) (V.tup [V.tup [], (List.getD vs88 0 V.any), V.any])).bind fun z136 =>
 (pureO (tupAt z136 0)).bind fun v137 =>
 (guardV v128 false ((bin2 Tryz.prog BinOp.neq 32 (ot 193) (Operand.const Go.Value.nilIface) v137 vn).bind fun v138 =>
 some v138)).bind fun v139 =>
 (pickV v128 (vb true) v139).bind fun v140 =>
 condV v140 (
 some (vb false)) (
 (keepO (some v1) (some v1) (keepO (some (aggL v8)) (some (aggL v8)) (keepT (some v81) (some v81) (some [(tupAt z136 1), (tupAt z118 1)])))).bind J107)) (
 (keepO (some v1) (some v1) (keepO (some (aggL v8)) (some (aggL v8)) (keepT (some v81) (some v81) (some [(List.getD vs88 0 V.any), (List.getD vs104 0 V.any)])))).bind J107)) fun J105 =>
 (keepO (some v1) (some v1) (keepO (some (aggL v8)) (some (aggL v8)) (keepT (some (List.getD vs88 0 V.any)) (some (List.getD vs88 0 V.any)) (keepT (some v81) (some v81) (some [(V.obj c101), (vb false), (vi 0)]))))).bind (fixN (fun rec141 vs142 =>
 ((oslR v81).map fun rows => V.lit (Go.Value.int Go.IntKind.i64 (List.length rows))).bind fun v143 =>
 (bin2 Tryz.prog BinOp.lss 3 (ot 151) (ot 153) (List.getD vs142 2 V.any) v143).bind fun v144 =>
 condV v144 (
 ((oslR v81).bind fun rows145 => inB (List.length rows145) (List.getD vs142 2 V.any)).bind fun v146 =>
 (some V.any).bind fun v147 =>
 ((nodeL v81 (some (natOf (List.getD vs142 2 V.any))) 12).bind fun l148 => (ldk none (List.drop 1 l148)).bind pureO).bind fun v149 =>
 (bin2 Tryz.prog BinOp.eql 3 (ot 161) (ot 162) v149 (List.getD vs88 1 V.any)).bind fun v150 =>
 JoinPt (fun vs151 =>
 (bin2 Tryz.prog BinOp.add 3 (ot 155) (oc 1) (List.getD vs142 2 V.any) (vi 1)).bind fun v153 =>
 (keepO (some v1) (some v1) (keepO (some (aggL v8)) (some (aggL v8)) (keepT (some (List.getD vs88 0 V.any)) (some (List.getD vs88 0 V.any)) (keepT (some v81) (some v81) (some [(List.getD vs151 0 V.any), (List.getD vs151 1 V.any), v153]))))).bind rec141) fun J152 =>
 condV v150 (
 ((oslR v81).bind fun rows154 => inB (List.length rows154) (List.getD vs142 2 V.any)).bind fun v155 =>
 ((nodeL v81 (some (natOf (List.getD vs142 2 V.any))) 12).bind fun l156 => (ldk (some 12) (List.drop 0 l156)).bind pureO).bind fun v157 =>
 (objG (List.getD vs142 0 V.any)).bind fun v158 =>
 ((sem_agent_Agent_Hear n) [(List.getD vs142 0 V.any), v157]).bind fun z159 =>
 (pureO (tupAt z159 0)).bind fun v160 =>
 (extractV v160 0).bind fun v161 =>
 (extractV v160 1).bind fun v162 =>
 (bin2 Tryz.prog BinOp.neq 32 (ot 173) (Operand.const Go.Value.nilIface) v162 vn).bind fun v163 =>
 condV v163 (
 some (vb false)) (
 (keepO (some v1) (some v1) (keepO (some (aggL v8)) (some (aggL v8)) (keepT (some (List.getD vs88 0 V.any)) (some (List.getD vs88 0 V.any)) (keepT (some v81) (some v81) (some [(tupAt z159 1), (vb true)]))))).bind J152)) (
 (keepO (some v1) (some v1) (keepO (some (aggL v8)) (some (aggL v8)) (keepT (some (List.getD vs88 0 V.any)) (some (List.getD vs88 0 V.any)) (keepT (some v81) (some v81) (some [(List.getD vs142 0 V.any), (List.getD vs142 1 V.any)]))))).bind J152)) (
 (keepO (some v1) (some v1) (keepO (some (aggL v8)) (some (aggL v8)) (keepT (some (List.getD vs88 0 V.any)) (some (List.getD vs88 0 V.any)) (keepT (some v81) (some v81) (some [(List.getD vs142 0 V.any), (List.getD vs142 1 V.any)]))))).bind J105)) n))) fun v99 =>
 partP (tupAt z98 0) 1 fun v164 =>
 (bin2 Tryz.prog BinOp.neq 32 (ot 149) (Operand.const Go.Value.nilIface) v164 vn).bind fun v165 =>
 condV v165 (
 some (vb false)) (
 JoinPt (fun vs166 =>
 JoinPt (fun vs168 =>
 ((sem_agent_Agent_Table n) [v99]).bind fun v171 =>
 (flatQ v171).bind fun v170 =>
 (ldk none (List.drop 3 (aggL v8))).bind fun v172 =>
 (bin2 Tryz.prog BinOp.sub 3 (ot 200) (oc 1) (List.getD vs88 1 V.any) (vi 1)).bind fun v173 =>
 (idxS 1 v172 v173).bind fun v174 =>
 (ldp none v174).bind fun v175 =>
 ((sem_railsame_Table n) [v170, v175]).bind fun v176 =>
 (scal1 Tryz.prog (Op.unary Go.UnOp.not) v176).bind fun v177 =>
 condV v177 (
 some (vb false)) (
 (keepO (some v1) (some v1) (keepO (some (aggL v8)) (some (aggL v8)) (keepT (some v81) (some v81) (some [(List.getD vs168 0 V.any)])))).bind J92)) fun J169 =>
 condV (List.getD vs166 1 V.any) (
 none) (
 (keepO (some v1) (some v1) (keepO (some (aggL v8)) (some (aggL v8)) (keepT (some v81) (some v81) none))).bind J169)) fun J167 =>
 (keepO (some v1) (some v1) (keepO (some (aggL v8)) (some (aggL v8)) (keepT (some (List.getD vs88 0 V.any)) (some (List.getD vs88 0 V.any)) (keepT (some v81) (some v81) none)))).bind (fixN (fun rec178 vs179 =>
 ((oslR v81).map fun rows => V.lit (Go.Value.int Go.IntKind.i64 (List.length rows))).bind fun v180 =>
 (bin2 Tryz.prog BinOp.lss 3 (ot 151) (ot 153) (List.getD vs179 2 V.any) v180).bind fun v181 =>
 condV v181 (
 ((oslR v81).bind fun rows182 => inB (List.length rows182) (List.getD vs179 2 V.any)).bind fun v183 =>
 (some V.any).bind fun v184 =>
 ((nodeL v81 (some (natOf (List.getD vs179 2 V.any))) 12).bind fun l185 => (ldk none (List.drop 1 l185)).bind pureO).bind fun v186 =>
 (bin2 Tryz.prog BinOp.eql 3 (ot 161) (ot 162) v186 (List.getD vs88 1 V.any)).bind fun v187 =>
 JoinPt (fun vs188 =>
 (bin2 Tryz.prog BinOp.add 3 (ot 155) (oc 1) (List.getD vs179 2 V.any) (vi 1)).bind fun v190 =>
 (keepO (some v1) (some v1) (keepO (some (aggL v8)) (some (aggL v8)) (keepT (some (List.getD vs88 0 V.any)) (some (List.getD vs88 0 V.any)) (keepT (some v81) (some v81) none)))).bind rec178) fun J189 =>
 condV v187 (
 ((oslR v81).bind fun rows191 => inB (List.length rows191) (List.getD vs179 2 V.any)).bind fun v192 =>
 ((nodeL v81 (some (natOf (List.getD vs179 2 V.any))) 12).bind fun l193 => (ldk (some 12) (List.drop 0 l193)).bind pureO).bind fun v194 =>
 none) (
 (keepO (some v1) (some v1) (keepO (some (aggL v8)) (some (aggL v8)) (keepT (some (List.getD vs88 0 V.any)) (some (List.getD vs88 0 V.any)) (keepT (some v81) (some v81) none)))).bind J189)) (
 (keepO (some v1) (some v1) (keepO (some (aggL v8)) (some (aggL v8)) (keepT (some (List.getD vs88 0 V.any)) (some (List.getD vs88 0 V.any)) (keepT (some v81) (some v81) none)))).bind J167)) n))) (
 J83 [(List.getD vs88 0 V.any)])) n))) fun J40 =>
 condV v38 (
 (keepO (some v1) (some v1) (keepO (some (aggL v8)) (some (aggL v8)) (keepT (some (tupAt z24 1)) (some (tupAt z24 1)) (some [(vi 0)])))).bind J40) (
 (keepO (some v1) (some v1) (keepO (some (aggL v8)) (some (aggL v8)) (keepT (some (tupAt z24 1)) (some (tupAt z24 1)) (some [x2])))).bind J40)) fun J30 =>
 (keepO (some v1) (some v1) (keepO (some (aggL v8)) (some (aggL v8)) (keepT (some (tupAt z24 1)) (some (tupAt z24 1)) (some [(vt ⟨#[]⟩), (vi 0)])))).bind (fixN (fun rec195 vs196 =>
 (lenS [v26]).bind fun v197 =>
 (bin2 Tryz.prog BinOp.lss 3 (ot 63) (ot 65) (List.getD vs196 1 V.any) v197).bind fun v198 =>
 condV v198 (
 (idxS 12 v26 (List.getD vs196 1 V.any)).bind fun v199 =>
 (ldp (some 12) v199).bind fun v200 =>
 ((sem_wire_Encode n) [v200]).bind fun v201 =>
 (extractV v201 0).bind fun v202 =>
 (extractV v201 1).bind fun v203 =>
 (bin2 Tryz.prog BinOp.neq 32 (ot 77) (Operand.const Go.Value.nilIface) v203 vn).bind fun v204 =>
 condV v204 (
 some (vb false)) (
 (bin2 Tryz.prog BinOp.add 9 (ot 79) (ot 80) (List.getD vs196 0 V.any) v202).bind fun v205 =>
 (bin2 Tryz.prog BinOp.add 3 (ot 67) (oc 1) (List.getD vs196 1 V.any) (vi 1)).bind fun v206 =>
 (keepO (some v1) (some v1) (keepO (some (aggL v8)) (some (aggL v8)) (keepT (some (tupAt z24 1)) (some (tupAt z24 1)) (some [v205, v206])))).bind rec195)) (
 (keepO (some v1) (some v1) (keepO (some (aggL v8)) (some (aggL v8)) (keepT (some (tupAt z24 1)) (some (tupAt z24 1)) (some [(List.getD vs196 0 V.any)])))).bind J30)) n)))) fun v18 =>
 partP (tupAt z17 0) 1 fun v207 =>
 (bin2 Tryz.prog BinOp.neq 32 (ot 54) (Operand.const Go.Value.nilIface) v207 vn).bind fun v208 =>
 condV v208 (
 some (vb false)) (
 none))) := by kernel_rfl
noncomputable def t_railtop_TopWire (a0 : T_Net) (a1 : (List T_Op)) (a2 : Int) : Option Bool :=
 (t_railtop_one ).bind fun r3 =>
 if (!r3) = true then (
 some false) else (
 (t_change_Apply a0 a1).bind fun r8 =>
 if ((!decide (r8.2 = 0)) || (decide (40 < (List.length a1 : Int)))) = true then (
 some true) else (
 (t_drive_New ([a1] : (List (List T_Op))) 5).bind fun r25 =>
 (caseO r25.1 (fun d29 => (
 if (!decide (r25.2 = 0)) = true then (
 some false) else (
 (t_drive_Drive_Next d29).bind fun r35 =>
 if (!decide (r35.2.1 = 0)) = true then (
 some false) else (
 join (fun (s43 : ByteArray) =>
 (if ((decide (a2 < 0)) || (decide ((s43.size : Int) < a2))) = true then (
 some (0)) else (
 some (a2))).bind fun (s60 : Int) =>
 (sslc_hi s43 s60).bind fun r64 =>
 (t_wire_Cut r64).bind fun r66 =>
 (sslc_lo s43 s60).bind fun r73 =>
 need (decide ((r66.2.1.size : Int) + r73.size ≤ maxI)) (
 (t_wire_Cut (r66.2.1 ++ r73)).bind fun r76 =>
 (some ((((!decide (r66.2.2 = 0)) || (!decide (r76.2.2 = 0))) || (!decide (r76.2.1 = (ByteArray.mk #[])))) || (decide ((wr ((List.length r66.1 : Int) + (List.length r76.1 : Int))) ≠ (List.length r35.1 : Int))))).bind fun r117 =>
 if r117 = true then (
 some false) else (
 (oapp r66.1 r76.1).bind fun r119 =>
 join (fun (s122 : T_drive_Drive) =>
 (t_drive_Drive_Done s122).bind fun r126 =>
 some r126) fun j123 =>
 loopU 1 (a0.Topo.Switches + 1) (fun (i134 : Int) (s130 : T_drive_Drive) k131 =>
 join (fun (s144 : T_drive_Drive) =>
 k131 (s144)) fun j145 =>
 (idx a0.Tables (wr (i134 - 1))).bind fun r151 =>
 (t_agent_New i134 r151).bind fun r154 =>
 (caseO r154.1 (fun d158 => (
 if (!decide (r154.2 = 0)) = true then (
 some false) else (
 join (fun (s164 : (T_agent_Agent × Bool)) =>
 join (fun (s169 : (T_drive_Drive × T_agent_Agent)) =>
 (t_agent_Agent_Table s169.2).bind fun r173 =>
 (idx r8.1.Tables (wr (i134 - 1))).bind fun r178 =>
 (t_railsame_Table r173 r178).bind fun r181 =>
 if (!r181) = true then (
 some false) else (
 j145 (s169.1))) fun j170 =>
 if s164.2 = true then (
 (t_agent_Agent_Work s164.1).bind fun r187 =>
 (gd (!((!decide (r187.2.1 = 0)) || (decide ((List.length r187.1 : Int) ≠ 1)))) default (idx r187.1 0)).bind fun r208 =>
 (gd (!((!decide (r187.2.1 = 0)) || (decide ((List.length r187.1 : Int) ≠ 1)))) (default, s130) (t_drive_Drive_Hear s130 r208)).bind fun r214 =>
 if (((!decide (r187.2.1 = 0)) || (decide ((List.length r187.1 : Int) ≠ 1))) || (!decide (r214.1 = 0))) = true then (
 some false) else (
 j170 (r214.2, r187.2.2))) else (
 j170 (s130, s164.1))) fun j165 =>
 loopI r119 (fun (i227 : Int) x228 (s223 : (T_agent_Agent × Bool)) k224 =>
 need (decide (0 ≤ i227) && decide (i227 < (List.length r119 : Int))) (
 (idx r119 i227).bind fun r238 =>
 join (fun (s242 : (T_agent_Agent × Bool)) =>
 k224 (s242.1, s242.2)) fun j243 =>
 if (decide (r238.Switch = i134)) = true then (
 need (decide (0 ≤ i227) && decide (i227 < (List.length r119 : Int))) (
 (idx r119 i227).bind fun r250 =>
 (t_agent_Agent_Hear s223.1 r250).bind fun r253 =>
 if (!decide (r253.2.1 = 0)) = true then (
 some false) else (
 j243 (r253.2.2, true)))) else (
 j243 (s223.1, s223.2)))) (fun (s223 : (T_agent_Agent × Bool)) =>
 j165 (s223.1, s223.2)) (d158, false)))) (
 if (!decide (r154.2 = 0)) = true then (
 some false) else (
 none)))) (fun (i134 : Int) (s130 : T_drive_Drive) =>
 j123 (s130)) (r35.2.2)))) fun j44 =>
 loopI r35.1 (fun (i288 : Int) x289 (s284 : ByteArray) k285 =>
 (t_wire_Encode x289).bind fun r298 =>
 if (!decide (r298.2 = 0)) = true then (
 some false) else (
 need (decide ((s284.size : Int) + r298.1.size ≤ maxI)) (
 k285 (s284 ++ r298.1)))) (fun (s284 : ByteArray) =>
 j44 (s284)) (ByteArray.mk #[]))))) (
 if (!decide (r25.2 = 0)) = true then (
 some false) else (
 none)))))
theorem ty_railtop_TopWire {n : Nat} (hn : bigN ≤ n) (a0 : T_Net) (a1 : (List T_Op)) (a2 : Int) : Rv (fun x : Bool => (vb x)) (sem_railtop_TopWire n [(T_Net.e a0), (V.sl (List.map T_Op.c a1)), (vi a2)]) (t_railtop_TopWire a0 a1 a2) := by
 rw [eq_railtop_TopWire]
 unfold t_railtop_TopWire; refine tq (T_Net.c a0) rfl ?_; refine tbo (ty_railtop_one hn ) fun r3 => ?_; refine tq (vb (!r3)) (d_not) ?_; refine tcond (fun h5 => ?_) (fun h5 => ?_)
 ·exact rf_ret rfl
 ·refine tq (T_Net.e a0) (rfl) ?_; refine tbo (ty_change_Apply hn a0 a1) fun r8 => ?_; refine tq (T_Net.e r8.1) (rfl) ?_; refine tq (eV r8.2) (rfl) ?_; refine tq (V.agg (T_Net.c r8.1)) (by kernel_rfl) ?_; refine tq (vb (!decide (r8.2 = 0))) (p_err_neq _) ?_; refine tg_f (x := (V.sl (List.map T_Op.c a1))) (fun h13 => rfl) ?_; refine tg_f (x := (vi (List.length a1 : Int))) (fun h15 => by simp only [gv_t h15]; exact bind_some_eq (p_len _)) ?_; refine tg_f (x := (vb (decide (40 < (List.length a1 : Int))))) (fun h18 => by simp only [gv_t h18]; exact bind_some_eq (d_gtr)) ?_; refine tq (vb ((!decide (r8.2 = 0)) || (decide (40 < (List.length a1 : Int))))) (pick_or (fun h9 => gv_t (not_f h9))) ?_; refine tcond (fun h22 => ?_) (fun h22 => ?_)
  ·exact rf_ret rfl
  ·refine tq (V.sl (List.map (cS T_Op.c) ([a1] : (List (List T_Op))))) (by kernel_rfl) ?_; refine tbo (ty_drive_New hn ([a1] : (List (List T_Op))) 5) fun r25 => ?_; refine tpartK (fun d29 => ?_) ?_
   ·refine tpartP0 ?_; refine tq (vb (!decide (r25.2 = 0))) (p_err_neq _) ?_; refine tcond (fun h32 => ?_) (fun h32 => ?_)
    ·exact rf_ret rfl
    ·refine tq V.any rfl ?_; refine tbo (ty_drive_Drive_Next hn d29) fun r35 => ?_; refine tq (V.tup [(V.sl (List.map T_Msg.c r35.1)), (eV r35.2.1)]) rfl ?_; refine tq (V.sl (List.map T_Msg.c r35.1)) (rfl) ?_; refine tq (eV r35.2.1) (rfl) ?_; refine tq (vb (!decide (r35.2.1 = 0))) (p_err_neq _) ?_; refine tcond (fun h40 => ?_) (fun h40 => ?_)
     ·exact rf_ret rfl
     ·refine tjoin (mk := fun s43 : ByteArray => [(vt s43)]) (fun s43 => ?_) fun J42 j44 h45 => ?_
      ·refine tq (vb (decide (a2 < 0))) (d_lss) ?_; refine tg_f (x := (vi a2)) (fun h47 => rfl) ?_; refine tg_f (x := (vt s43)) (fun h49 => rfl) ?_; refine tg_f (x := (vi (s43.size : Int))) (fun h51 => by simp only [gv_t h51]; exact bind_some_eq (rfl)) ?_; refine tg_f (x := (vb (decide ((s43.size : Int) < a2)))) (fun h54 => by simp only [gv_t h54]; exact bind_some_eq (d_gtr)) ?_; refine tq (vb ((decide (a2 < 0)) || (decide ((s43.size : Int) < a2)))) (pick_or (fun h9 => gv_t (not_f h9))) ?_; refine tjb (mk := fun s60 : Int => [(vi s60)]) (fun J59 => ?_) fun s60 => ?_
       ·refine tcond (fun h281 => ?_) (fun h281 => ?_)
        ·refine tkeepO2 ?_ rfl; refine tkeepO2 ?_ rfl; refine tkeepT2 ?_ rfl; refine tsome ?_; exact rf_j rfl
        ·refine tkeepO2 ?_ rfl; refine tkeepO2 ?_ rfl; refine tkeepT2 ?_ rfl; refine tsome ?_; exact rf_j rfl
       ·refine tbo (p_sslc_hi s43 s60) fun r64 => ?_; refine tbo (ty_wire_Cut hn r64) fun r66 => ?_; refine tpartR ?_; refine tpartQ1 rfl ?_; refine tpartQ2 rfl ?_; refine tbo (p_sslc_lo s43 s60) fun r73 => ?_; refine tneed (x := (vt (r66.2.1 ++ r73))) (fun h280 => p_add_str h280) fun h280 => ?_; refine tbo (ty_wire_Cut hn (r66.2.1 ++ r73)) fun r76 => ?_; refine tpartR ?_; refine tpartQ1 rfl ?_; refine tpartQ2 rfl ?_; refine tq (vb (!decide (r66.2.2 = 0))) (p_err_neq _) ?_; refine tg_f (x := (eV r76.2.2)) (fun h83 => rfl) ?_; refine tg_f (x := (vb (!decide (r76.2.2 = 0)))) (fun h85 => by simp only [gv_t h85]; exact bind_some_eq (p_err_neq _)) ?_; refine tq (vb ((!decide (r66.2.2 = 0)) || (!decide (r76.2.2 = 0)))) (pick_or (fun h9 => gv_t (not_f h9))) ?_; refine tg_f (x := (vt r76.2.1)) (fun h89 => rfl) ?_; refine tg_f (x := (vb (!decide (r76.2.1 = (ByteArray.mk #[]))))) (fun h91 => by simp only [gv_t h91]; exact bind_some_eq (p_neq_str)) ?_; refine tq (vb (((!decide (r66.2.2 = 0)) || (!decide (r76.2.2 = 0))) || (!decide (r76.2.1 = (ByteArray.mk #[]))))) (pick_or (fun h9 => gv_t (not_f h9))) ?_; refine tg_f (x := V.any) (fun h95 => rfl) ?_; refine tg_f (x := (vi (List.length r66.1 : Int))) (fun h97 => bind_some_eq (gate_pos (not_t h97) (p_olen _))) ?_; refine tg_f (x := V.any) (fun h100 => rfl) ?_; refine tg_f (x := (vi (List.length r76.1 : Int))) (fun h102 => bind_some_eq (gate_pos (not_t h102) (p_olen _))) ?_; refine tg_f (x := (vi (wr ((List.length r66.1 : Int) + (List.length r76.1 : Int))))) (fun h105 => by simp only [gv_t h105]; exact bind_some_eq (d_add)) ?_; refine tg_f (x := (V.sl (List.map T_Msg.c r35.1))) (fun h108 => rfl) ?_; refine tg_f (x := (vi (List.length r35.1 : Int))) (fun h110 => by simp only [gv_t h110]; exact bind_some_eq (p_len _)) ?_; refine tg_f (x := (vb (decide ((wr ((List.length r66.1 : Int) + (List.length r76.1 : Int))) ≠ (List.length r35.1 : Int))))) (fun h113 => by simp only [gv_t h113]; exact bind_some_eq (d_neq)) ?_; refine tbo (e1 := fun x : Bool => (vb x)) (rf_eq (pick_or (fun h9 => gv_t (not_f h9))) rfl) fun r117 => ?_; refine tcond (fun h118 => ?_) (fun h118 => ?_)
        ·exact rf_ret rfl
        ·refine tbo (p_oappO (c := T_Msg.c) (fun _ => rfl) r66.1 r76.1) fun r119 => ?_; refine tjoin (mk := fun s122 : T_drive_Drive => [(V.obj [(V.osl 1 (List.map (cS T_Op.c) s122.rounds)), (vi s122.wait), (vi s122.said), (V.osl 1 (List.map cI s122.left)), (vi s122.ticks)])]) (fun s122 => ?_) fun J121 j123 h124 => ?_
         ·refine tq (V.ptr (T_drive_Drive.c s122)) (p_frzQ (p_fzc (p_frzl (c' := (cS T_Op.c)) (fun _ => rfl) _) (p_fzc rfl (p_fzc rfl (p_fzc (p_frzl (c' := cI) (fun _ => rfl) _) (p_fzc rfl p_fz0)))))) ?_; refine tbo (ty_drive_Drive_Done hn s122) fun r126 => ?_; refine tq (vb r126) rfl ?_; exact rf_ret rfl
         ·refine tkeepO2 ?_ rfl; refine tkeepO2 ?_ rfl; refine tkeepT2 ?_ rfl; refine tsome ?_; refine rf_loopU (mk := fun (i134 : Int) (s130 : T_drive_Drive) => [(V.obj [(V.osl 1 (List.map (cS T_Op.c) s130.rounds)), (vi s130.wait), (vi s130.said), (V.osl 1 (List.map cI s130.left)), (vi s130.ticks)]), (vi i134)]) hn _ _ (r35.2.2) (fun i134 h135 h136 h137 s130 rec128 k131 h132 => ?_) (fun i134 s130 rec139 h138 => ?_)
          ·refine tq (vi a0.Topo.Switches) (rfl) ?_; refine tq (vb (decide (i134 ≤ a0.Topo.Switches))) (d_leq) ?_; refine tcond_t (le_of_lt1 h135) ?_; refine tjoin (mk := fun s144 : T_drive_Drive => [(V.obj [(V.osl 1 (List.map (cS T_Op.c) s144.rounds)), (vi s144.wait), (vi s144.said), (V.osl 1 (List.map cI s144.left)), (vi s144.ticks)])]) (fun s144 => ?_) fun J143 j145 h146 => ?_
           ·refine tq (vi (i134 + 1)) (p_inc h136 h137) ?_; refine tkeepO2 ?_ rfl; refine tkeepO2 ?_ rfl; refine tkeepT2 ?_ rfl; refine tsome ?_; exact h132 (s144)
           ·refine tq (V.sl (List.map (cS T_Rule.c) a0.Tables)) (rfl) ?_; refine tq (vi (wr (i134 - 1))) (d_sub) ?_; refine tbo (p_idx (c := (cS T_Rule.c)) (fun _ => rfl) a0.Tables (wr (i134 - 1))) fun r151 => ?_; refine tq (V.sl (List.map T_Rule.c r151)) (rfl) ?_; refine tbo (ty_agent_New hn i134 r151) fun r154 => ?_; refine tpartK (fun d158 => ?_) ?_
            ·refine tpartP0 ?_; refine tq (vb (!decide (r154.2 = 0))) (p_err_neq _) ?_; refine tcond (fun h161 => ?_) (fun h161 => ?_)
             ·exact rf_ret rfl
             ·refine tjoin (mk := fun s164 : (T_agent_Agent × Bool) => [(V.obj (agC s164.1)), (vb s164.2)]) (fun s164 => ?_) fun J163 j165 h166 => ?_
              ·refine tjoin (mk := fun s169 : (T_drive_Drive × T_agent_Agent) => [(V.obj [(V.osl 1 (List.map (cS T_Op.c) s169.1.rounds)), (vi s169.1.wait), (vi s169.1.said), (V.osl 1 (List.map cI s169.1.left)), (vi s169.1.ticks)]), (V.obj (agC s169.2))]) (fun s169 => ?_) fun J168 j170 h171 => ?_
               ·refine tq (V.ptr (agF s169.2)) (p_frzQ (agFz s169.2)) ?_; refine tbo (ty_agent_Agent_Table hn s169.2) fun r173 => ?_; refine tq (V.sl (List.map T_Rule.c r173)) (p_flatQ (fun _ => rfl) r173) ?_; refine tq (V.sl (List.map (cS T_Rule.c) r8.1.Tables)) (rfl) ?_; refine tq (vi (wr (i134 - 1))) (d_sub) ?_; refine tbo (p_idx (c := (cS T_Rule.c)) (fun _ => rfl) r8.1.Tables (wr (i134 - 1))) fun r178 => ?_; refine tq (V.sl (List.map T_Rule.c r178)) (rfl) ?_; refine tbo (ty_railsame_Table hn r173 r178) fun r181 => ?_; refine tq (vb (!r181)) (d_not) ?_; refine tcond (fun h183 => ?_) (fun h183 => ?_)
                ·exact rf_ret rfl
                ·refine tkeepO2 ?_ rfl; refine tkeepO2 ?_ rfl; refine tkeepT2 ?_ rfl; refine tsome ?_; exact h146 (s169.1)
               ·refine tcond (fun h184 => ?_) (fun h184 => ?_)
                ·refine tq V.any rfl ?_; refine tbo (ty_agent_Agent_Work hn s164.1) fun r187 => ?_; refine tq (V.tup [(V.sl (List.map T_Msg.c r187.1)), (eV r187.2.1)]) rfl ?_; refine tq (V.sl (List.map T_Msg.c r187.1)) (rfl) ?_; refine tq (eV r187.2.1) (rfl) ?_; refine tq (vb (!decide (r187.2.1 = 0))) (p_err_neq _) ?_; refine tg_f (x := (V.sl (List.map T_Msg.c r187.1))) (fun h192 => rfl) ?_; refine tg_f (x := (vi (List.length r187.1 : Int))) (fun h194 => by simp only [gv_t h194]; exact bind_some_eq (p_len _)) ?_; refine tg_f (x := (vb (decide ((List.length r187.1 : Int) ≠ 1)))) (fun h197 => by simp only [gv_t h197]; exact bind_some_eq (d_neq)) ?_; refine tq (vb ((!decide (r187.2.1 = 0)) || (decide ((List.length r187.1 : Int) ≠ 1)))) (pick_or (fun h9 => gv_t (not_f h9))) ?_; refine tg_f (x := V.any) (fun h201 => rfl) ?_; refine tg_f (x := (V.sl (List.map T_Msg.c r187.1))) (fun h203 => rfl) ?_; refine tgo_f (fun h205 => by simp only [gv_t h205]; exact rf_bind_some (p_idx (c := T_Msg.c) (fun _ => rfl) r187.1 0)) fun r208 => ?_; refine tg_f (x := (T_Msg.e r208)) (fun h209 => by first | exact bind_some_eq (rfl) | (simp only [gv_t h209]; exact bind_some_eq (rfl))) ?_; refine tq V.any rfl ?_; refine tgz_f (e2 := fun x9 => (V.tup [gv (!((!decide (r187.2.1 = 0)) || (decide ((List.length r187.1 : Int) ≠ 1)))) (eV x9.1), (V.obj [(V.osl 1 (List.map (cS T_Op.c) x9.2.rounds)), (vi x9.2.wait), (vi x9.2.said), (V.osl 1 (List.map cI x9.2.left)), (vi x9.2.ticks)]), V.any])) (fun h212 => by simp only [gv_t h212]; exact gate_posR (not_t h212) (ty_drive_Drive_Hear hn s130 r208)) (fun _ h9 => by simp only [gv_t h9]) (fun h9 => by first | rfl | (simp only [gv_f h9]; done) | (simp only [gv_f h9]; rfl)) fun r214 => ?_; refine tq (gv (!((!decide (r187.2.1 = 0)) || (decide ((List.length r187.1 : Int) ≠ 1)))) (eV r214.1)) (p_pureG rfl) ?_; refine tg_f (x := (vb (!decide (r214.1 = 0)))) (fun h216 => by simp only [gv_t h216]; exact bind_some_eq (p_err_neq _)) ?_; refine tq (vb (((!decide (r187.2.1 = 0)) || (decide ((List.length r187.1 : Int) ≠ 1))) || (!decide (r214.1 = 0)))) (pick_or (fun h9 => gv_t (not_f h9))) ?_; refine tcond (fun h220 => ?_) (fun h220 => ?_)
                 ·exact rf_ret rfl
                 ·refine tkeepO2 ?_ rfl; refine tkeepO2 ?_ rfl; refine tkeepT2 ?_ rfl; refine tsome ?_; exact h171 (r214.2, r187.2.2)
                ·refine tkeepO2 ?_ rfl; refine tkeepO2 ?_ rfl; refine tkeepT2 ?_ rfl; refine tsome ?_; exact h171 (s130, s164.1)
              ·refine tkeepO2 ?_ rfl; refine tkeepO2 ?_ rfl; refine tkeepT2 ?_ rfl; refine tkeepT2 ?_ rfl; refine tsome ?_; refine rf_loopI (mk := fun (i227 : Int) (s223 : (T_agent_Agent × Bool)) => [(V.obj (agC s223.1)), (vb s223.2), (vi (i227 : Int))]) hn r119 (d158, false) (fun i227 x228 h229 h230 h231 s223 rec221 k224 h225 => ?_) (fun s223 rec262 h261 => ?_)
               ·refine tq (vi (List.length r119 : Int)) (p_olen _) ?_; refine tq (vb (decide ((i227 : Int) < (List.length r119 : Int)))) (d_lss) ?_; refine tcond_t h231 ?_; refine tneed (x := V.any) (fun h260 => p_inB r119 (i227 : Int) h260) fun h260 => ?_; refine tq V.any rfl ?_; refine tbo (p_oload (e1 := fun x : T_Msg => (vi x.Switch)) (c := T_Msg.c) (fun _ => rfl) r119 (i227 : Int) (fun _ => rfl)) fun r238 => ?_; refine tq (vb (decide (r238.Switch = i134))) (d_eql) ?_; refine tjoin (mk := fun s242 : (T_agent_Agent × Bool) => [(V.obj (agC s242.1)), (vb s242.2)]) (fun s242 => ?_) fun J241 j243 h244 => ?_
                ·refine tq (vi ((i227 : Int) + 1)) (p_incN h230) ?_; refine tkeepO2 ?_ rfl; refine tkeepO2 ?_ rfl; refine tkeepT2 ?_ rfl; refine tkeepT2 ?_ rfl; refine tsome ?_; exact h225 (s242.1, s242.2)
                ·refine tcond (fun h246 => ?_) (fun h246 => ?_)
                 ·refine tneed (x := V.any) (fun h259 => p_inB r119 (i227 : Int) h259) fun h259 => ?_; refine tbo (p_oload (e1 := fun x : T_Msg => (T_Msg.e x)) (c := T_Msg.c) (fun _ => rfl) r119 (i227 : Int) (fun _ => rfl)) fun r250 => ?_; refine tq V.any rfl ?_; refine tbo (ty_agent_Agent_Hear hn s223.1 r250) fun r253 => ?_; refine tq (V.tup [(V.sl (List.map T_Msg.c r253.1)), (eV r253.2.1)]) rfl ?_; refine tq (V.sl (List.map T_Msg.c r253.1)) (rfl) ?_; refine tq (eV r253.2.1) (rfl) ?_; refine tq (vb (!decide (r253.2.1 = 0))) (p_err_neq _) ?_; refine tcond (fun h258 => ?_) (fun h258 => ?_)
                  ·exact rf_ret rfl
                  ·refine tkeepO2 ?_ rfl; refine tkeepO2 ?_ rfl; refine tkeepT2 ?_ rfl; refine tkeepT2 ?_ rfl; refine tsome ?_; exact h244 (r253.2.2, true)
                 ·refine tkeepO2 ?_ rfl; refine tkeepO2 ?_ rfl; refine tkeepT2 ?_ rfl; refine tkeepT2 ?_ rfl; refine tsome ?_; exact h244 (s223.1, s223.2)
               ·refine tq (vi (List.length r119 : Int)) (p_olen _) ?_; refine tq (vb (decide ((List.length r119 : Int) < (List.length r119 : Int)))) (d_lss) ?_; refine tcond_f h261 ?_; refine tkeepO2 ?_ rfl; refine tkeepO2 ?_ rfl; refine tkeepT2 ?_ rfl; refine tkeepT2 ?_ rfl; refine tsome ?_; exact h166 (s223.1, s223.2)
            ·refine tpartP0 ?_; refine tq (vb (!decide (r154.2 = 0))) (p_err_neq _) ?_; refine tcond (fun h267 => ?_) (fun h267 => ?_)
             ·exact rf_ret rfl
             ·exact rf_none
          ·refine tq (vi a0.Topo.Switches) (rfl) ?_; refine tq (vb (decide (i134 ≤ a0.Topo.Switches))) (d_leq) ?_; refine tcond_f (nle_of_nlt1 h138) ?_; exact h124 (s130)
      ·refine tkeepO2 ?_ rfl; refine tkeepO2 ?_ rfl; refine tkeepT2 ?_ rfl; refine tsome ?_; refine rf_loopI (mk := fun (i288 : Int) (s284 : ByteArray) => [(vt s284), (vi (i288 : Int))]) hn r35.1 (ByteArray.mk #[]) (fun i288 x289 h290 h291 h292 s284 rec282 k285 h286 => ?_) (fun s284 rec307 h306 => ?_)
       ·refine tq (vi (List.length r35.1 : Int)) (p_len _) ?_; refine tq (vb (decide ((i288 : Int) < (List.length r35.1 : Int)))) (d_lss) ?_; refine tcond_t h292 ?_; refine tq (V.ptr (T_Msg.c x289)) (p_idx_at (c := T_Msg.c) (fun _ => rfl) h290) ?_; refine tq (T_Msg.e x289) (rfl) ?_; refine tbo (ty_wire_Encode hn x289) fun r298 => ?_; refine tq (vt r298.1) (rfl) ?_; refine tq (eV r298.2) (rfl) ?_; refine tq (vb (!decide (r298.2 = 0))) (p_err_neq _) ?_; refine tcond (fun h302 => ?_) (fun h302 => ?_)
        ·exact rf_ret rfl
        ·refine tneed (x := (vt (s284 ++ r298.1))) (fun h305 => p_add_str h305) fun h305 => ?_; refine tq (vi ((i288 : Int) + 1)) (p_incN h291) ?_; refine tkeepO2 ?_ rfl; refine tkeepO2 ?_ rfl; refine tkeepT2 ?_ rfl; refine tsome ?_; exact h286 (s284 ++ r298.1)
       ·refine tq (vi (List.length r35.1 : Int)) (p_len _) ?_; refine tq (vb (decide ((List.length r35.1 : Int) < (List.length r35.1 : Int)))) (d_lss) ?_; refine tcond_f h306 ?_; refine tkeepO2 ?_ rfl; refine tkeepO2 ?_ rfl; refine tkeepT2 ?_ rfl; refine tsome ?_; exact h45 (s284)
   ·refine tpartP0 ?_; refine tq (vb (!decide (r25.2 = 0))) (p_err_neq _) ?_; refine tcond (fun h312 => ?_) (fun h312 => ?_)
    ·exact rf_ret rfl
    ·exact rf_none
end Go.Proofs.YtgkohnjpnnofhaaGreat.Ty
