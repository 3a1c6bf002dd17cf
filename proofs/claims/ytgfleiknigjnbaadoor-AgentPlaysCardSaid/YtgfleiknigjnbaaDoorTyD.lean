/- What functions do, as functions on plain types, written by a program and checked by the kernel. -/
import Derived.Test.YtgfleiknigjnbaaDoorDenDoor
import Derived.Test.YtgfleiknigjnbaaDoorTy
import Derived.Test.YtgfleiknigjnbaaDoorTyT
import Derived.Test.YtgfleiknigjnbaaDoorTyY
import Derived.Test.YtgfleiknigjnbaaDoorTyA
import Derived.Test.YtgfleiknigjnbaaDoorAgTy
import Derived.Test.YtgfleiknigjnbaaDoorAgReady
import Derived.Test.YtgfleiknigjnbaaDoorTyB
import Derived.Test.YtgfleiknigjnbaaDoorAgWork
import Derived.Test.YtgfleiknigjnbaaDoorDen14
import Derived.Test.YtgfleiknigjnbaaDoorClone
namespace Go.Proofs.YtgfleiknigjnbaaDoor.Ty
open Go Go.RowKit Go.Proofs.YtgfleiknigjnbaaDoor.Den
set_option linter.unusedVariables false
set_option maxRecDepth 100000

/-! railpoint/raillaw2.AgentPlays -/
def an_raillaw2_AgentPlays : Ann := .seq (.reg 0 [] [] []) (.seq (.reg 0 [] [] []) (.seq (.seq (.reg 0 [] [] []) (.cond (some [.s 9]) (.reg 0 [] [] []) (.reg 0 [] [] []))) (.seq (.reg 0 [] [] [33, 34]) (.seq (.reg 0 [] [] []) (.seq (.seq (.reg 0 [] [] []) (.cond none (.seq (.reg 0 [] [] []) (.no)) (.no))) (.seq (.reg 0 [] [] [48]) (.seq (.seq (.reg 0 [] [] []) (.blk (some []) (.loop [.o 10, .o 13, .s 14] (.seq (.seq (.reg 0 [] [] []) (.cond none (.no) (.no))) (.seq (.blk none (.seq (.reg 0 [] [] []) (.seq (.reg 0 [] [] []) (.seq (.reg 0 [] [] []) (.seq (.reg 0 [] [] []) (.seq (.seq (.reg 0 [] [] []) (.cond none (.seq (.reg 0 [] [] []) (.no)) (.no))) (.seq (.seq (.reg 0 [] [] []) (.cond (some [.o 10, .o 13]) (.seq (.reg 0 [] [] []) (.seq (.reg 0 [] [] []) (.seq (.reg 0 [] [] []) (.seq (.reg 0 [] [] []) (.seq (.reg 0 [] [] []) (.cond none (.seq (.reg 0 [] [] []) (.no)) (.no))))))) (.no))) (.seq (.reg 8 [] [] [2000123, 3000123]) (.seq (.reg 8 [] [] [134, 2000130, 2000135, 3000130]) (.seq (.reg 30 [] [] [2000144, 2000146, 2000156, 2000163, 4000144, 4000156]) (.cond none (.seq (.reg 0 [] [] []) (.no)) (.no)))))))))))) (.reg 0 [] [] [])))))) (.seq (.reg 0 [] [] []) (.no)))))))))
noncomputable def sem_raillaw2_AgentPlays (n : Nat) (xs : List V) : Option V := if xs.length ≤ 166 then denF Tryd.prog (envOf [(16, (sem_railref1_Table n)), (8 + 1000000, (sem_agent_New n)), (9, (sem_Error n)), (17 + 1000000, (sem_railref2_NewAgent n)), (18 + 1000000, (sem_railref2_Agent_Hear n)), (11 + 1000000, (sem_agent_Agent_Hear n)), (12, (sem_railsame_Msgs n)), (19 + 1000000, (sem_railref2_Agent_Work n)), (20 + 1000000, (sem_agent_Agent_Work n)), (14 + 1000000 * (35 + 2), (sem_agent_Agent_Table n)), (13, (sem_railsame_Table n)), (15 + 1000000 * (3 + 2), (sem_agent_Agent_Done n)), (21, (sem_railsame_Ints n)), (22 + 1000000 * (987654321 + 2), (semL_Ready)), (23, (sem_railref2_Agent_Ready n)), (10 + 1000000 * (987654321 + 2), (semL_Heard)), (24, (sem_railref2_Agent_Heard n))]) n Tryd.f4 an_raillaw2_AgentPlays xs else none
theorem ok_raillaw2_AgentPlays (n : Nat) : SemOk Tryd.prog DW 4 (sem_raillaw2_AgentPlays n) := fun xs y h => by
  unfold sem_raillaw2_AgentPlays at h
  split at h
  · rename_i hl
    exact denF_ok stb Tryd.func4 (by kernel_rfl) (envOf_ok (semsOk_cons (ok_railref1_Table n) (semsOk_consM (ok_agent_New n) (semsOk_cons (ok_Error n) (semsOk_consM (ok_railref2_NewAgent n) (semsOk_consM (ok_railref2_Agent_Hear n) (semsOk_consM (ok_agent_Agent_Hear n) (semsOk_cons (ok_railsame_Msgs n) (semsOk_consM (ok_railref2_Agent_Work n) (semsOk_consM (ok_agent_Agent_Work n) (semsOk_consR (ok_agent_Agent_Table n) (semsOk_cons (ok_railsame_Table n) (semsOk_consR (ok_agent_Agent_Done n) (semsOk_cons (ok_railsame_Ints n) (semsOk_consL (okL_Ready) (semsOk_cons (ok_railref2_Agent_Ready n) (semsOk_consL (okL_Heard) (semsOk_cons (ok_railref2_Agent_Heard n) semsOk_nil)))))))))))))))))) (by rw [Tryd.ntmps4]; exact hl) h
  · cases h
theorem eq_raillaw2_AgentPlays (n : Nat) (x0 x1 x2 x3 : V) : sem_raillaw2_AgentPlays n [x0, x1, x2, x3] =
 (bin2 Tryd.prog BinOp.lss 3 (ot 22) (oc 1) x0 (vi 1)).bind fun v1 =>
 (guardV v1 false (some x0)).bind fun v2 =>
 (guardV v1 false ((bin2 Tryd.prog BinOp.gtr 3 (ot 25) (oc 6) v2 (vi 6)).bind fun v3 =>
 some v3)).bind fun v4 =>
 (pickV v1 (vb true) v4).bind fun v5 =>
 JoinPt (fun vs6 =>
 ((sem_agent_New n) [x0, x1]).bind fun z8 =>
 partK (tupAt z8 0) 0 (fun l10 c11 =>
 partP (V.tup l10) 1 fun v12 =>
 ((sem_Error n) [v12, (List.getD vs6 0 V.any)]).bind fun v13 =>
 (scal1 Tryd.prog (Op.unary Go.UnOp.not) v13).bind fun v14 =>
 (guardV v14 false (some (List.getD vs6 0 V.any))).bind fun v15 =>
 (guardV v14 false ((bin2 Tryd.prog BinOp.neq 3 (ot 42) (oc 0) v15 (vi 0)).bind fun v16 =>
 some v16)).bind fun v17 =>
 (pickV v14 (vb true) v17).bind fun v18 =>
 condV v18 (
 some v13) (
 ((sem_railref2_NewAgent n) [x0, x1]).bind fun z19 =>
 JoinPt (fun vs20 =>
 some (vb true)) fun J21 =>
 (fixN (fun rec22 vs23 =>
 (lenS [x2]).bind fun v24 =>
 (bin2 Tryd.prog BinOp.lss 3 (ot 49) (ot 51) (List.getD vs23 2 V.any) v24).bind fun v25 =>
 (guardV v25 true (some (List.getD vs23 2 V.any))).bind fun v26 =>
 (guardV v25 true ((bin2 Tryd.prog BinOp.lss 3 (ot 54) (oc 60) v26 (vi 60)).bind fun v27 =>
 some v27)).bind fun v28 =>
 (pickV v25 v28 (vb false)).bind fun v29 =>
 condV v29 (
 (idxS 12 x2 (List.getD vs23 2 V.any)).bind fun v30 =>
 (ldp (some 12) v30).bind fun v31 =>
 ((sem_railref2_Agent_Hear n) [(List.getD vs23 1 V.any), v31]).bind fun z32 =>
 (pureO (tupAt z32 0)).bind fun v33 =>
 (extractV v33 0).bind fun v34 =>
 (extractV v33 1).bind fun v35 =>
 (idxS 12 x2 (List.getD vs23 2 V.any)).bind fun v36 =>
 (ldp (some 12) v36).bind fun v37 =>
 (objG (List.getD vs23 0 V.any)).bind fun v38 =>
 ((sem_agent_Agent_Hear n) [(List.getD vs23 0 V.any), v37]).bind fun z39 =>
 (pureO (tupAt z39 0)).bind fun v40 =>
 (extractV v40 0).bind fun v41 =>
 (extractV v40 1).bind fun v42 =>
 ((sem_Error n) [v42, v35]).bind fun v43 =>
 ((sem_railsame_Msgs n) [v41, v34]).bind fun v44 =>
 (scal1 Tryd.prog (Op.unary Go.UnOp.not) v43).bind fun v45 =>
 (guardV v45 false (some v44)).bind fun v46 =>
 (guardV v45 false ((scal1 Tryd.prog (Op.unary Go.UnOp.not) v46).bind fun v47 =>
 some v47)).bind fun v48 =>
 (pickV v45 (vb true) v48).bind fun v49 =>
 condV v49 (
 some (vb false)) (
 (lenS [x3]).bind fun v50 =>
 (bin2 Tryd.prog BinOp.lss 3 (ot 89) (ot 91) (List.getD vs23 2 V.any) v50).bind fun v51 =>
 (guardV v51 true (some x3)).bind fun v52 =>
 (guardV v51 true (some (List.getD vs23 2 V.any))).bind fun v53 =>
 (guardV v51 true ((idxS 1 v52 v53).bind fun v54 =>
 some v54)).bind fun v55 =>
 (guardV v51 true ((ldp none v55).bind fun v56 =>
 some v56)).bind fun v57 =>
 (guardV v51 true ((bin2 Tryd.prog BinOp.eql 3 (ot 97) (oc 1) v57 (vi 1)).bind fun v58 =>
 some v58)).bind fun v59 =>
 (pickV v51 v59 (vb false)).bind fun v60 =>
 JoinPt (fun vs61 =>
 (some (frzQ (List.getD vs61 0 V.any))).bind fun v63 =>
 ((sem_agent_Agent_Table n) [v63]).bind fun v65 =>
 (flatQ v65).bind fun v64 =>
 (objN (List.getD vs61 1 V.any)).bind fun v66 =>
 (some V.any).bind fun v67 =>
 ((nodeL (List.getD vs61 1 V.any) none 0).bind fun l68 => (ldk none (List.drop 1 l68)).bind pureO).bind fun v69 =>
 ((sem_railsame_Table n) [v64, v69]).bind fun v70 =>
 (some (frzQ (List.getD vs61 0 V.any))).bind fun v71 =>
 ((sem_agent_Agent_Done n) [v71]).bind fun v73 =>
 (flatQ v73).bind fun v72 =>
 (objN (List.getD vs61 1 V.any)).bind fun v74 =>
 (some V.any).bind fun v75 =>
 ((nodeL (List.getD vs61 1 V.any) none 0).bind fun l76 => (l76[4]?).bind ownO).bind fun v77 =>
 (some (frzC (List.getD vs61 1 V.any) [(Stp.mk none 4 0)])).bind fun v78 =>
 ((sem_railsame_Ints n) [v72, v78]).bind fun v80 =>
 (litQ v80).bind fun v79 =>
 (scal1 Tryd.prog (Op.unary Go.UnOp.not) v70).bind fun v81 =>
 (guardV v81 false (some v79)).bind fun v82 =>
 (guardV v81 false ((scal1 Tryd.prog (Op.unary Go.UnOp.not) v82).bind fun v83 =>
 some v83)).bind fun v84 =>
 (pickV v81 (vb true) v84).bind fun v85 =>
 (guardV v85 false (some V.any)).bind fun v86 =>
 (guardV v85 false ((some (gateA [(v85, false)] (objQ (List.getD vs61 0 V.any)))).bind fun v87 =>
 ((semL_Ready) [v87]).bind litQ)).bind fun v88 =>
 (guardV v85 false (some V.any)).bind fun v89 =>
 (guardV v85 false ((some (gateA [(v85, false)] (frz (List.getD vs61 1 V.any)))).bind fun v90 =>
 ((sem_railref2_Agent_Ready n) [v90]).bind litQ)).bind fun v91 =>
 (guardV v85 false ((bin2 Tryd.prog BinOp.neq 3 (ot 144) (ot 146) v88 v91).bind fun v92 =>
 some v92)).bind fun v93 =>
 (pickV v85 (vb true) v93).bind fun v94 =>
 (guardV v94 false (some V.any)).bind fun v95 =>
 (guardV v94 false (some x2)).bind fun v96 =>
 (guardV v94 false (some (List.getD vs23 2 V.any))).bind fun v97 =>
 (guardV v94 false ((idxS 12 v96 v97).bind fun v98 =>
 some v98)).bind fun v99 =>
 (guardV v94 false ((ptrF 2 v99).bind fun v100 =>
 some v100)).bind fun v101 =>
 (guardV v94 false ((ldp none v101).bind fun v102 =>
 some v102)).bind fun v103 =>
 (guardV v94 false ((some (gateA [(v94, false)] (objQ (List.getD vs61 0 V.any)))).bind fun v104 =>
 ((semL_Heard) [v104, v103]).bind litQ)).bind fun v105 =>
 (guardV v94 false (some V.any)).bind fun v106 =>
 (guardV v94 false (some x2)).bind fun v107 =>
 (guardV v94 false (some (List.getD vs23 2 V.any))).bind fun v108 =>
 (guardV v94 false ((idxS 12 v107 v108).bind fun v109 =>
 some v109)).bind fun v110 =>
 (guardV v94 false ((ptrF 2 v110).bind fun v111 =>
 some v111)).bind fun v112 =>
 (guardV v94 false ((ldp none v112).bind fun v113 =>
 some v113)).bind fun v114 =>
 (guardV v94 false ((some (gateA [(v94, false)] (frz (List.getD vs61 1 V.any)))).bind fun v115 =>
 ((sem_railref2_Agent_Heard n) [v115, v114]).bind litQ)).bind fun v116 =>
 (guardV v94 false ((bin2 Tryd.prog BinOp.neq 3 (ot 156) (ot 163) v105 v116).bind fun v117 =>
 some v117)).bind fun v118 =>
 (pickV v94 (vb true) v118).bind fun v119 =>
 condV v119 (
 some (vb false)) (
 (bin2 Tryd.prog BinOp.add 3 (ot 57) (oc 1) (List.getD vs23 2 V.any) (vi 1)).bind fun v120 =>
 rec22 [(List.getD vs61 0 V.any), (List.getD vs61 1 V.any), v120])) fun J62 =>
 condV v60 (
 ((sem_railref2_Agent_Work n) [(tupAt z32 1)]).bind fun z121 =>
 (pureO (tupAt z121 0)).bind fun v122 =>
 (extractV v122 0).bind fun v123 =>
 (extractV v122 1).bind fun v124 =>
 (objG (tupAt z39 1)).bind fun v125 =>
 ((sem_agent_Agent_Work n) [(tupAt z39 1)]).bind fun z126 =>
 (pureO (tupAt z126 0)).bind fun v127 =>
 (extractV v127 0).bind fun v128 =>
 (extractV v127 1).bind fun v129 =>
 ((sem_Error n) [v129, v124]).bind fun v130 =>
 ((sem_railsame_Msgs n) [v128, v123]).bind fun v131 =>
 (scal1 Tryd.prog (Op.unary Go.UnOp.not) v130).bind fun v132 =>
 (guardV v132 false (some v131)).bind fun v133 =>
 (guardV v132 false ((scal1 Tryd.prog (Op.unary Go.UnOp.not) v133).bind fun v134 =>
 some v134)).bind fun v135 =>
 (pickV v132 (vb true) v135).bind fun v136 =>
 condV v136 (
 some (vb false)) (
 J62 [(tupAt z126 1), (tupAt z121 1)])) (
 J62 [(tupAt z39 1), (tupAt z32 1)]))) (
 J21 [])) n) [(V.obj c11), (tupAt z19 0), (vi 0)])) fun v9 =>
 partP (tupAt z8 0) 1 fun v137 =>
 ((sem_Error n) [v137, (List.getD vs6 0 V.any)]).bind fun v138 =>
 (scal1 Tryd.prog (Op.unary Go.UnOp.not) v138).bind fun v139 =>
 (guardV v139 false (some (List.getD vs6 0 V.any))).bind fun v140 =>
 (guardV v139 false ((bin2 Tryd.prog BinOp.neq 3 (ot 42) (oc 0) v140 (vi 0)).bind fun v141 =>
 some v141)).bind fun v142 =>
 (pickV v139 (vb true) v142).bind fun v143 =>
 condV v143 (
 some v138) (
 ((sem_railref2_NewAgent n) [x0, x1]).bind fun z144 =>
 JoinPt (fun vs145 =>
 some (vb true)) fun J146 =>
 none)) fun J7 =>
 condV v5 (
 J7 [(vi 1)]) (
 ((sem_railref1_Table n) [x1]).bind fun v163 =>
 J7 [v163]) := by kernel_rfl
noncomputable def t_raillaw2_AgentPlays (a0 : Int) (a1 : (List T_Rule)) (a2 : (List T_Msg)) (a3 : (List Int)) : Option Bool :=
 (if ((decide (a0 < 1)) || (decide (6 < a0))) = true then (
 some (1)) else (
 (t_railref1_Table a1).bind fun r243 =>
 some (r243))).bind fun (s10 : Int) =>
 (t_agent_New a0 a1).bind fun r14 =>
 (caseO r14.1 (fun d18 => (
 (t_railsame_Error r14.2 s10).bind fun r21 =>
 if ((!r21) || (decide (s10 ≠ 0))) = true then (
 some r21) else (
 (t_railref2_NewAgent a0 a1).bind fun r31 =>
 join (fun (s34 : Unit) =>
 some true) fun j35 =>
 loopI a2 (fun (i43 : Int) x44 (s39 : (T_agent_Agent × T_railref2_Agent)) k40 =>
 if (decide (i43 < 60)) = true then (
 (t_railref2_Agent_Hear s39.2 x44).bind fun r58 =>
 (t_agent_Agent_Hear s39.1 x44).bind fun r66 =>
 (t_railsame_Error r66.2.1 r58.2.1).bind fun r71 =>
 (t_railsame_Msgs r66.1 r58.1).bind fun r73 =>
 if ((!r71) || (!r73)) = true then (
 some false) else (
 (gd (decide (i43 < (List.length a3 : Int))) default (idx a3 i43)).bind fun r91 =>
 join (fun (s101 : (T_agent_Agent × T_railref2_Agent)) =>
 (t_agent_Agent_Table s101.1).bind fun r105 =>
 (t_railsame_Table r105 s101.2.Table).bind fun r111 =>
 (t_agent_Agent_Done s101.1).bind fun r113 =>
 (t_railsame_Ints r113 s101.2.Done).bind fun r119 =>
 (gd (!((!r111) || (!r119))) default (t_agent_Agent_Ready s101.1)).bind fun r132 =>
 (gd (!((!r111) || (!r119))) default (t_railref2_Agent_Ready s101.2)).bind fun r138 =>
 (gd (!(((!r111) || (!r119)) || (decide (r132 ≠ r138)))) default (t_agent_Agent_Heard s101.1 x44.Round)).bind fun r161 =>
 (gd (!(((!r111) || (!r119)) || (decide (r132 ≠ r138)))) default (t_railref2_Agent_Heard s101.2 x44.Round)).bind fun r180 =>
 if ((((!r111) || (!r119)) || (decide (r132 ≠ r138))) || (decide (r161 ≠ r180))) = true then (
 some false) else (
 k40 (s101.1, s101.2))) fun j102 =>
 if ((decide (i43 < (List.length a3 : Int))) && (decide (r91 = 1))) = true then (
 (t_railref2_Agent_Work r58.2.2).bind fun r190 =>
 (t_agent_Agent_Work r66.2.2).bind fun r196 =>
 (t_railsame_Error r196.2.1 r190.2.1).bind fun r201 =>
 (t_railsame_Msgs r196.1 r190.1).bind fun r203 =>
 if ((!r201) || (!r203)) = true then (
 some false) else (
 j102 (r196.2.2, r190.2.2))) else (
 j102 (r66.2.2, r58.2.2)))) else (
 j35 ())) (fun (s39 : (T_agent_Agent × T_railref2_Agent)) =>
 j35 ()) (d18, r31)))) (
 (t_railsame_Error r14.2 s10).bind fun r223 =>
 if ((!r223) || (decide (s10 ≠ 0))) = true then (
 some r223) else (
 none)))
theorem ty_raillaw2_AgentPlays {n : Nat} (hn : bigN ≤ n) (a0 : Int) (a1 : (List T_Rule)) (a2 : (List T_Msg)) (a3 : (List Int)) : Rv (fun x : Bool => (vb x)) (sem_raillaw2_AgentPlays n [(vi a0), (V.sl (List.map T_Rule.c a1)), (V.sl (List.map T_Msg.c a2)), (V.sl (List.map cI a3))]) (t_raillaw2_AgentPlays a0 a1 a2 a3) := by
  rw [eq_raillaw2_AgentPlays]
  unfold t_raillaw2_AgentPlays
  refine tb (x := (vb (decide (a0 < 1)))) (d_lss) ?_
  refine tg_f (x := (vi a0)) (fun h2 => rfl) ?_
  refine tg_f (x := (vb (decide (6 < a0)))) (fun h4 => by simp only [gv_t h4]; exact bind_some_eq (d_gtr)) ?_
  refine tb (x := (vb ((decide (a0 < 1)) || (decide (6 < a0))))) (pick_or (fun h9 => gv_t (not_f h9))) ?_
  refine tjb (mk := fun s10 : Int => [(vi s10)]) (fun J9 => ?_) fun s10 => ?_
  · refine tcond (fun h241 => ?_) (fun h241 => ?_)
    · exact rf_j rfl
    · refine tbo (ty_railref1_Table hn a1) fun r243 => ?_
      exact rf_j rfl
  · refine tbo (ty_agent_New hn a0 a1) fun r14 => ?_
    refine tpartK (fun d18 => ?_) ?_
    · refine tpartP0 ?_
      refine tbo (ty_railsame_Error r14.2 s10) fun r21 => ?_
      refine tb (x := (vb (!r21))) (d_not) ?_
      refine tg_f (x := (vi s10)) (fun h23 => rfl) ?_
      refine tg_f (x := (vb (decide (s10 ≠ 0)))) (fun h25 => by simp only [gv_t h25]; exact bind_some_eq (d_neq)) ?_
      refine tb (x := (vb ((!r21) || (decide (s10 ≠ 0))))) (pick_or (fun h9 => gv_t (not_f h9))) ?_
      refine tcond (fun h29 => ?_) (fun h29 => ?_)
      · exact rf_ret rfl
      · refine tbo (ty_railref2_NewAgent hn a0 a1) fun r31 => ?_
        refine tjoin (mk := fun s34 : Unit => []) (fun s34 => ?_) fun J33 j35 h36 => ?_
        · exact rf_ret rfl
        · refine rf_loopI (mk := fun (i43 : Int) (s39 : (T_agent_Agent × T_railref2_Agent)) => [(V.obj (agC s39.1)), (V.obj [(vi s39.2.Number), (V.sl (List.map T_Rule.c s39.2.Table)), (V.osl 10 (List.map T_railref2_Kept.c s39.2.L)), (V.osl 1 (List.map cI s39.2.Many)), (V.osl 1 (List.map cI s39.2.Done))]), (vi (i43 : Int))]) hn a2 (d18, r31) (fun i43 x44 h45 h46 h47 s39 rec37 k40 h41 => ?_) (fun s39 rec213 h212 => ?_)
          · refine tb (x := (vi (List.length a2 : Int))) (p_len _) ?_
            refine tb (x := (vb (decide ((i43 : Int) < (List.length a2 : Int))))) (d_lss) ?_
            refine tb (x := (vi (i43 : Int))) (gkt h47 rfl) ?_
            refine tkt h47 (tb (x := (vb (decide ((i43 : Int) < 60)))) (d_lss) ?_)
            refine tb (x := (vb (decide ((i43 : Int) < 60)))) (pick_kt h47) ?_
            refine tcond (fun h54 => ?_) (fun h54 => ?_)
            · refine tb (x := (V.ptr (T_Msg.c x44))) (p_idx_at (c := T_Msg.c) (fun _ => rfl) h45) ?_
              refine tb (x := (T_Msg.e x44)) (rfl) ?_
              refine tbo (ty_railref2_Agent_Hear hn s39.2 x44) fun r58 => ?_
              refine tb (x := (V.tup [(V.sl (List.map T_Msg.c r58.1)), (vi r58.2.1)])) rfl ?_
              refine tb (x := (V.sl (List.map T_Msg.c r58.1))) (rfl) ?_
              refine tb (x := (vi r58.2.1)) (rfl) ?_
              refine tb (x := (V.ptr (T_Msg.c x44))) (p_idx_at (c := T_Msg.c) (fun _ => rfl) h45) ?_
              refine tb (x := (T_Msg.e x44)) (rfl) ?_
              refine tb (x := V.any) rfl ?_
              refine tbo (ty_agent_Agent_Hear hn s39.1 x44) fun r66 => ?_
              refine tb (x := (V.tup [(V.sl (List.map T_Msg.c r66.1)), (eV r66.2.1)])) rfl ?_
              refine tb (x := (V.sl (List.map T_Msg.c r66.1))) (rfl) ?_
              refine tb (x := (eV r66.2.1)) (rfl) ?_
              refine tbo (ty_railsame_Error r66.2.1 r58.2.1) fun r71 => ?_
              refine tbo (ty_railsame_Msgs hn r66.1 r58.1) fun r73 => ?_
              refine tb (x := (vb (!r71))) (d_not) ?_
              refine tg_f (x := (vb r73)) (fun h75 => rfl) ?_
              refine tg_f (x := (vb (!r73))) (fun h77 => by simp only [gv_t h77]; exact bind_some_eq (d_not)) ?_
              refine tb (x := (vb ((!r71) || (!r73)))) (pick_or (fun h9 => gv_t (not_f h9))) ?_
              refine tcond (fun h81 => ?_) (fun h81 => ?_)
              · exact rf_ret rfl
              · refine tb (x := (vi (List.length a3 : Int))) (p_len _) ?_
                refine tb (x := (vb (decide ((i43 : Int) < (List.length a3 : Int))))) (d_lss) ?_
                refine tg (x := (V.sl (List.map cI a3))) (fun h84 => rfl) ?_
                refine tg (x := (vi (i43 : Int))) (fun h86 => rfl) ?_
                refine tgo (fun h88 => by simp only [gv_t h88]; exact rf_bind_some (p_idx (c := cI) (fun _ => rfl) a3 (i43 : Int))) fun r91 => ?_
                refine tg (x := (vi r91)) (fun h92 => by first | exact bind_some_eq (rfl) | (simp only [gv_t h92]; exact bind_some_eq (rfl))) ?_
                refine tg (x := (vb (decide (r91 = 1)))) (fun h95 => by simp only [gv_t h95]; exact bind_some_eq (d_eql)) ?_
                refine tb (x := (vb ((decide ((i43 : Int) < (List.length a3 : Int))) && (decide (r91 = 1))))) (pick_and (fun h9 => gv_t h9)) ?_
                refine tjoin (mk := fun s101 : (T_agent_Agent × T_railref2_Agent) => [(V.obj (agC s101.1)), (V.obj [(vi s101.2.Number), (V.sl (List.map T_Rule.c s101.2.Table)), (V.osl 10 (List.map T_railref2_Kept.c s101.2.L)), (V.osl 1 (List.map cI s101.2.Many)), (V.osl 1 (List.map cI s101.2.Done))])]) (fun s101 => ?_) fun J100 j102 h103 => ?_
                · refine tb (x := V.ptr (agF s101.1)) (p_frzQ (agFz s101.1)) ?_
                  refine tbo (ty_agent_Agent_Table hn s101.1) fun r105 => ?_
                  refine tb (x := (V.sl (List.map T_Rule.c r105))) (p_flatQ (fun _ => rfl) r105) ?_
                  refine tb (x := V.any) rfl ?_
                  refine tb (x := V.any) rfl ?_
                  refine tb (x := (V.sl (List.map T_Rule.c s101.2.Table))) (rfl) ?_
                  refine tbo (ty_railsame_Table hn r105 s101.2.Table) fun r111 => ?_
                  refine tb (x := V.ptr (agF s101.1)) (p_frzQ (agFz s101.1)) ?_
                  refine tbo (ty_agent_Agent_Done hn s101.1) fun r113 => ?_
                  refine tb (x := (V.sl (List.map cI r113))) (p_flatQ (fun _ => rfl) r113) ?_
                  refine tb (x := V.any) rfl ?_
                  refine tb (x := V.any) rfl ?_
                  refine tb (x := V.any) rfl ?_
                  refine tb (x := (V.sl (List.map cI s101.2.Done))) (p_frzS (k := 1) (c' := cI) (fun _ => rfl) s101.2.Done) ?_
                  refine tbo (ty_railsame_Ints hn r113 s101.2.Done) fun r119 => ?_
                  refine tb (x := (vb r119)) rfl ?_
                  refine tb (x := (vb (!r111))) (d_not) ?_
                  refine tg_f (x := (vb r119)) (fun h122 => rfl) ?_
                  refine tg_f (x := (vb (!r119))) (fun h124 => by simp only [gv_t h124]; exact bind_some_eq (d_not)) ?_
                  refine tb (x := (vb ((!r111) || (!r119)))) (pick_or (fun h9 => gv_t (not_f h9))) ?_
                  refine tg_f (x := V.any) (fun h128 => rfl) ?_
                  refine tgo_f (e1 := fun r132 => (vi r132)) (fun h130 => ?_) fun r132 => ?_
                  · refine tb (x := (V.obj (agC s101.1))) (p_gate1 (not_t h130) ((rfl : _ = some (V.obj (agC s101.1))))) ?_
                    exact rf_litQ (tyL_Ready s101.1) (fun _ => rfl)
                  · refine tg_f (x := V.any) (fun h134 => rfl) ?_
                    refine tgo_f (e1 := fun r138 => (vi r138)) (fun h136 => ?_) fun r138 => ?_
                    · refine tb (x := V.ptr (T_railref2_Agent.c s101.2)) (p_gate1 (not_t h136) (p_frzN (p_fzc rfl (p_fzc rfl (p_fzc (p_frzl (c' := T_railref2_Kept.c) (fun _ => rfl) _) (p_fzc (p_frzl (c' := cI) (fun _ => rfl) _) (p_fzc (p_frzl (c' := cI) (fun _ => rfl) _) p_fz0))))))) ?_
                      exact rf_litQ (ty_railref2_Agent_Ready hn s101.2) (fun _ => rfl)
                    · refine tg_f (x := (vb (decide (r132 ≠ r138)))) (fun h140 => by simp only [gv_t h140]; exact bind_some_eq (d_neq)) ?_
                      refine tb (x := (vb (((!r111) || (!r119)) || (decide (r132 ≠ r138))))) (pick_or (fun h9 => gv_t (not_f h9))) ?_
                      refine tg_f (x := V.any) (fun h144 => rfl) ?_
                      refine tg_f (x := (V.sl (List.map T_Msg.c a2))) (fun h146 => rfl) ?_
                      refine tg_f (x := (vi (i43 : Int))) (fun h148 => rfl) ?_
                      refine tg_f (x := (V.ptr (T_Msg.c x44))) (fun h150 => by simp only [gv_t h150]; exact bind_some_eq (p_idx_at (c := T_Msg.c) (fun _ => rfl) h45)) ?_
                      refine tg_f (x := (V.ptr (List.drop 2 (T_Msg.c x44)))) (fun h153 => by first | exact bind_some_eq (rfl) | (simp only [gv_t h153]; exact bind_some_eq (rfl))) ?_
                      refine tg_f (x := (vi x44.Round)) (fun h156 => by first | exact bind_some_eq (rfl) | (simp only [gv_t h156]; exact bind_some_eq (rfl))) ?_
                      refine tgo_f (e1 := fun r161 => (vi r161)) (fun h159 => ?_) fun r161 => ?_
                      · simp only [gv_t h159]
                        refine tb (x := (V.obj (agC s101.1))) (p_gate1 (not_t h159) ((rfl : _ = some (V.obj (agC s101.1))))) ?_
                        exact rf_litQ (tyL_Heard s101.1 x44.Round) (fun _ => rfl)
                      · refine tg_f (x := V.any) (fun h163 => rfl) ?_
                        refine tg_f (x := (V.sl (List.map T_Msg.c a2))) (fun h165 => rfl) ?_
                        refine tg_f (x := (vi (i43 : Int))) (fun h167 => rfl) ?_
                        refine tg_f (x := (V.ptr (T_Msg.c x44))) (fun h169 => by simp only [gv_t h169]; exact bind_some_eq (p_idx_at (c := T_Msg.c) (fun _ => rfl) h45)) ?_
                        refine tg_f (x := (V.ptr (List.drop 2 (T_Msg.c x44)))) (fun h172 => by first | exact bind_some_eq (rfl) | (simp only [gv_t h172]; exact bind_some_eq (rfl))) ?_
                        refine tg_f (x := (vi x44.Round)) (fun h175 => by first | exact bind_some_eq (rfl) | (simp only [gv_t h175]; exact bind_some_eq (rfl))) ?_
                        refine tgo_f (e1 := fun r180 => (vi r180)) (fun h178 => ?_) fun r180 => ?_
                        · simp only [gv_t h178]
                          refine tb (x := V.ptr (T_railref2_Agent.c s101.2)) (p_gate1 (not_t h178) (p_frzN (p_fzc rfl (p_fzc rfl (p_fzc (p_frzl (c' := T_railref2_Kept.c) (fun _ => rfl) _) (p_fzc (p_frzl (c' := cI) (fun _ => rfl) _) (p_fzc (p_frzl (c' := cI) (fun _ => rfl) _) p_fz0))))))) ?_
                          exact rf_litQ (ty_railref2_Agent_Heard hn s101.2 x44.Round) (fun _ => rfl)
                        · refine tg_f (x := (vb (decide (r161 ≠ r180)))) (fun h182 => by simp only [gv_t h182]; exact bind_some_eq (d_neq)) ?_
                          refine tb (x := (vb ((((!r111) || (!r119)) || (decide (r132 ≠ r138))) || (decide (r161 ≠ r180))))) (pick_or (fun h9 => gv_t (not_f h9))) ?_
                          refine tcond (fun h186 => ?_) (fun h186 => ?_)
                          · exact rf_ret rfl
                          · refine tb (x := (vi ((i43 : Int) + 1))) (p_incN h46) ?_
                            exact h41 (s101.1, s101.2)
                · refine tcond (fun h188 => ?_) (fun h188 => ?_)
                  · refine tbo (ty_railref2_Agent_Work hn r58.2.2) fun r190 => ?_
                    refine tb (x := (V.tup [(V.sl (List.map T_Msg.c r190.1)), (vi r190.2.1)])) rfl ?_
                    refine tb (x := (V.sl (List.map T_Msg.c r190.1))) (rfl) ?_
                    refine tb (x := (vi r190.2.1)) (rfl) ?_
                    refine tb (x := V.any) rfl ?_
                    refine tbo (ty_agent_Agent_Work hn r66.2.2) fun r196 => ?_
                    refine tb (x := (V.tup [(V.sl (List.map T_Msg.c r196.1)), (eV r196.2.1)])) rfl ?_
                    refine tb (x := (V.sl (List.map T_Msg.c r196.1))) (rfl) ?_
                    refine tb (x := (eV r196.2.1)) (rfl) ?_
                    refine tbo (ty_railsame_Error r196.2.1 r190.2.1) fun r201 => ?_
                    refine tbo (ty_railsame_Msgs hn r196.1 r190.1) fun r203 => ?_
                    refine tb (x := (vb (!r201))) (d_not) ?_
                    refine tg_f (x := (vb r203)) (fun h205 => rfl) ?_
                    refine tg_f (x := (vb (!r203))) (fun h207 => by simp only [gv_t h207]; exact bind_some_eq (d_not)) ?_
                    refine tb (x := (vb ((!r201) || (!r203)))) (pick_or (fun h9 => gv_t (not_f h9))) ?_
                    refine tcond (fun h211 => ?_) (fun h211 => ?_)
                    · exact rf_ret rfl
                    · exact h103 (r196.2.2, r190.2.2)
                  · exact h103 (r66.2.2, r58.2.2)
            · exact h36 ()
          · refine tb (x := (vi (List.length a2 : Int))) (p_len _) ?_
            refine tb (x := (vb (decide ((List.length a2 : Int) < (List.length a2 : Int))))) (d_lss) ?_
            refine tb (x := V.tup []) (gnt h212) ?_
            refine tb (x := V.tup []) (gnt h212) ?_
            refine tb (x := (vb (false))) (pick_kf h212) ?_
            refine tcond_f rfl ?_
            exact h36 ()
    · refine tpartP0 ?_
      refine tbo (ty_railsame_Error r14.2 s10) fun r223 => ?_
      refine tb (x := (vb (!r223))) (d_not) ?_
      refine tg_f (x := (vi s10)) (fun h225 => rfl) ?_
      refine tg_f (x := (vb (decide (s10 ≠ 0)))) (fun h227 => by simp only [gv_t h227]; exact bind_some_eq (d_neq)) ?_
      refine tb (x := (vb ((!r223) || (decide (s10 ≠ 0))))) (pick_or (fun h9 => gv_t (not_f h9))) ?_
      refine tcond (fun h231 => ?_) (fun h231 => ?_)
      · exact rf_ret rfl
      · exact rf_none

end Go.Proofs.YtgfleiknigjnbaaDoor.Ty
