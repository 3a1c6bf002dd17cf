/- What functions do, as functions on plain types, written by a program and checked by the kernel. -/
import Derived.Test.YtgkohnjpnnofhaaGreatDenPlain
import Derived.Test.YtgkohnjpnnofhaaGreatTy
import Derived.Test.YtgkohnjpnnofhaaGreatTyT
import Derived.Test.YtgkohnjpnnofhaaGreatTyW
import Derived.Test.YtgkohnjpnnofhaaGreatTyA
import Derived.Test.YtgkohnjpnnofhaaGreatAgTy
import Derived.Test.YtgkohnjpnnofhaaGreatAgReady
import Derived.Test.YtgkohnjpnnofhaaGreatDoTy
import Derived.Test.YtgkohnjpnnofhaaGreatDen14
import Derived.Test.YtgkohnjpnnofhaaGreatDenS2
import Derived.Test.YtgkohnjpnnofhaaGreatShelf
import Derived.Test.YtgkohnjpnnofhaaGreatClone
namespace Go.Proofs.YtgkohnjpnnofhaaGreat.Ty
set_option linter.unusedVariables false
open Go Go.RowKit Go.Proofs.YtgkohnjpnnofhaaGreat.Den
set_option maxRecDepth 100000
def an_table_All : Ann := .seq (.reg 0 [] [] []) (.seq (.seq (.reg 0 [] [] []) (.seq (.reg 0 [] [] []) (.cond none (.seq (.reg 0 [] [] []) (.no)) (.no)))) (.seq (.reg 0 [] [] []) (.seq (.seq (.reg 0 [] [] []) (.blk (some [.s 0]) (.loop [.s 0, .s 20] (.seq (.reg 0 [] [] []) (.seq (.cond none (.no) (.no)) (.seq (.blk none (.seq (.reg 0 [] [] []) (.seq (.reg 0 [] [] []) (.seq (.seq (.reg 0 [] [] []) (.cond none (.seq (.reg 0 [] [] []) (.no)) (.no))) (.reg 0 [] [] []))))) (.reg 0 [] [] []))))))) (.seq (.reg 0 [] [] []) (.no)))))
noncomputable def sem_table_All (n : Nat) (xs : List V) : Option V := if xs.length ≤ 39 then denF Tryz.prog (envOf [(33, (sem_rule_Table n)), (34, (semClone 6)), (21, (sem_Do n))]) n Tryz.f37 an_table_All xs else none
theorem ok_table_All (n : Nat) : SemOk Tryz.prog DW 37 (sem_table_All n) := fun xs y h => by
 unfold sem_table_All at h
 split at h
 ·rename_i hl
  exact denF_ok stb Tryz.func37 (by kernel_rfl) (envOf_ok (semsOk_cons (ok_rule_Table n) (semsOk_cons (sok_slices_Clone_api_Table_api_Rule) (semsOk_cons (ok_Do n) semsOk_nil)))) (by rw [Tryz.ntmps37]; exact hl) h
 ·cases h
theorem eq_table_All (n : Nat) (x0 x1 : V) : sem_table_All n [x0, x1] =
 ((sem_rule_Table n) [x0]).bind fun v1 =>
 (bin2 Tryz.prog BinOp.neq 32 (ot 13) (Operand.const Go.Value.nilIface) v1 vn).bind fun v2 =>
 condV v2 (
 some (V.tup [(V.sl []), v1])) (
 ((semClone 6) [x0]).bind fun v3 =>
 (lenS [x1]).bind fun v4 =>
 JoinPt (fun vs5 =>
 some (V.tup [(List.getD vs5 0 V.any), vn])) fun J6 =>
 (fixN (fun rec7 vs8 =>
 (bin2 Tryz.prog BinOp.lss 3 (ot 20) (ot 19) (List.getD vs8 1 V.any) v4).bind fun v9 =>
 condV v9 (
 (idxS 8 x1 (List.getD vs8 1 V.any)).bind fun v10 =>
 (ldp (some 8) v10).bind fun v11 =>
 (spliceV [(vi 0), (vb false), (vi 0), (vi 0), (vi 0), (vi 0), (vi 0), (vi 0)] 0 8 v11).bind fun v12 =>
 (ldk none (List.drop 1 (aggL v12))).bind fun v13 =>
 (ldk (some 6) (List.drop 2 (aggL v12))).bind fun v14 =>
 ((sem_Do n) [(List.getD vs8 0 V.any), v13, v14]).bind fun v15 =>
 (extractV v15 0).bind fun v16 =>
 (extractV v15 1).bind fun v17 =>
 (bin2 Tryz.prog BinOp.neq 32 (ot 33) (Operand.const Go.Value.nilIface) v17 vn).bind fun v18 =>
 condV v18 (
 some (V.tup [(V.sl []), v17])) (
 (bin2 Tryz.prog BinOp.add 3 (ot 20) (oc 1) (List.getD vs8 1 V.any) (vi 1)).bind fun v19 =>
 rec7 [v16, v19])) (
 J6 [(List.getD vs8 0 V.any)])) n) [v3, (vi 0)]) := by kernel_rfl
noncomputable def t_table_All (a0 : (List T_Rule)) (a1 : (List T_Op)) : Option ((List T_Rule) × Int) :=
 (t_rule_Table a0).bind fun r2 =>
 if (!decide (r2 = 0)) = true then (
 some ([], r2)) else (
 (cln a0).bind fun r6 =>
 join (fun (s10 : (List T_Rule)) =>
 some (s10, 0)) fun j11 =>
 loopI a1 (fun (i19 : Int) x20 (s15 : (List T_Rule)) k16 =>
 (t_table_Do s15 x20.Add x20.Rule).bind fun r31 =>
 if (!decide (r31.2 = 0)) = true then (
 some ([], r31.2)) else (
 k16 (r31.1))) (fun (s15 : (List T_Rule)) =>
 j11 (s15)) (r6))
theorem ty_table_All {n : Nat} (hn : bigN ≤ n) (a0 : (List T_Rule)) (a1 : (List T_Op)) : Rv (fun x : ((List T_Rule) × Int) => V.tup [(V.sl (List.map T_Rule.c x.1)), (eV x.2)]) (sem_table_All n [(V.sl (List.map T_Rule.c a0)), (V.sl (List.map T_Op.c a1))]) (t_table_All a0 a1) := by
 rw [eq_table_All]
 unfold t_table_All; refine tbo (ty_rule_Table hn a0) fun r2 => ?_; refine tq (vb (!decide (r2 = 0))) (p_err_neq _) ?_; refine tcond (fun h4 => ?_) (fun h4 => ?_)
 ·exact rf_ret rfl
 ·refine tbo (p_clone (c := T_Rule.c) (fun _ => rfl) a0) fun r6 => ?_; refine tq (vi (List.length a1 : Int)) (p_len _) ?_; refine tjoin (mk := fun s10 : (List T_Rule) => [(V.sl (List.map T_Rule.c s10))]) (fun s10 => ?_) fun J9 j11 h12 => ?_
  ·exact rf_ret rfl
  ·refine rf_loopI (mk := fun (i19 : Int) (s15 : (List T_Rule)) => [(V.sl (List.map T_Rule.c s15)), (vi (i19 : Int))]) hn a1 (r6) (fun i19 x20 h21 h22 h23 s15 rec13 k16 h17 => ?_) (fun s15 rec38 h37 => ?_)
   ·refine tq (vb (decide ((i19 : Int) < (List.length a1 : Int)))) (d_lss) ?_; refine tcond_t h23 ?_; refine tq (V.ptr (T_Op.c x20)) (p_idx_at (c := T_Op.c) (fun _ => rfl) h21) ?_; refine tq (T_Op.e x20) (rfl) ?_; refine tq (V.agg (T_Op.c x20)) (by kernel_rfl) ?_; refine tq (vb x20.Add) (rfl) ?_; refine tq (T_Rule.e x20.Rule) (rfl) ?_; refine tbo (ty_table_Do s15 x20.Add x20.Rule) fun r31 => ?_; refine tq (V.sl (List.map T_Rule.c r31.1)) (rfl) ?_; refine tq (eV r31.2) (rfl) ?_; refine tq (vb (!decide (r31.2 = 0))) (p_err_neq _) ?_; refine tcond (fun h35 => ?_) (fun h35 => ?_)
    ·exact rf_ret rfl
    ·refine tq (vi ((i19 : Int) + 1)) (p_incN h22) ?_; exact h17 (r31.1)
   ·refine tq (vb (decide ((List.length a1 : Int) < (List.length a1 : Int)))) (d_lss) ?_; refine tcond_f h37 ?_; exact h12 (s15)
def an_agent_Agent_Work : Ann := .seq (.reg 0 [] [] []) (.seq (.reg 0 [] [] [2000011, 4000011]) (.seq (.seq (.reg 0 [] [] []) (.cond none (.seq (.reg 0 [] [] []) (.no)) (.no))) (.seq (.reg 0 [] [] []) (.seq (.reg 0 [] [] []) (.seq (.seq (.reg 0 [] [] []) (.blk (some [.ko 0, .s 6]) (.loop [.ko 0, .r 6 49, .s 24] (.seq (.reg 0 [] [] []) (.seq (.cond none (.no) (.no)) (.seq (.blk none (.seq (.reg 0 [] [] []) (.reg 0 [] [] [31]))) (.reg 0 [] [] []))))))) (.seq (.seq (.reg 0 [] [] []) (.seq (.reg 0 [] [] []) (.cond (some [.o 0]) (.reg 0 [] [] []) (.no)))) (.seq (.reg 0 [] [] []) (.seq (.reg 0 [] [] [59, 62]) (.seq (.reg 0 [] [] [2000067, 3000067]) (.no))))))))))
noncomputable def sem_agent_Agent_Work (n : Nat) (xs : List V) : Option V := if xs.length ≤ 68 then denM Tryz.prog (envOf [(36 + 1000000 * (987654321 + 2), (semL_Ready)), (37, (sem_table_All n)), (35 + 1000000 * (51 + 2), (sem_agent_Agent_yes n))]) n Tryz.f12 an_agent_Agent_Work [2] none xs else none
theorem ok_agent_Agent_Work (n : Nat) : MSemOk Tryz.prog DW 12 (sem_agent_Agent_Work n) := fun xs y h => by
 unfold sem_agent_Agent_Work at h
 split at h
 ·rename_i hl
  exact denM_ok Tryz.func12 (by kernel_rfl) (envOf_ok (semsOk_consL (okL_Ready) (semsOk_cons (ok_table_All n) (semsOk_consR (ok_agent_Agent_yes n) semsOk_nil)))) (by rw [Tryz.ntmps12]; exact hl) (by decide) h
 ·cases h
theorem eq_agent_Agent_Work (n : Nat) (x0 : V) : sem_agent_Agent_Work n [x0] =
 (objG x0).bind fun v1 =>
 (some (objQ x0)).bind fun v2 =>
 ((semL_Ready) [v2]).bind fun v4 =>
 (litQ v4).bind fun v3 =>
 (bin2 Tryz.prog BinOp.lss 3 (ot 12) (oc 0) v3 (vi 0)).bind fun v5 =>
 condV v5 (
 (scal1 Tryz.prog (Instr.makeInterface 81) (vi 6)).bind fun v6 =>
 some (V.tup [(V.tup [(V.sl []), v6]), x0])) (
 (some V.any).bind fun v7 =>
 (some V.any).bind fun v8 =>
 (inB 20 v3).bind fun v9 =>
 (some V.any).bind fun v10 =>
 (some V.any).bind fun v11 =>
 ((nodeL x0 none 0).bind fun l12 => (ldk none (List.drop ((2 + natOf v3 * 3) + 1) l12)).bind pureO).bind fun v13 =>
 JoinPt (fun vs14 =>
 (some V.any).bind fun v16 =>
 (some V.any).bind fun v17 =>
 ((nodeL x0 none 0).bind fun l18 => (ldk none (List.drop 1 l18)).bind pureO).bind fun v19 =>
 ((sem_table_All n) [v19, (List.getD vs14 0 V.any)]).bind fun v20 =>
 (extractV v20 0).bind fun v21 =>
 (extractV v20 1).bind fun v22 =>
 (bin2 Tryz.prog BinOp.eql 32 (ot 46) (Operand.const Go.Value.nilIface) v22 vn).bind fun v23 =>
 JoinPt (fun vs24 =>
 (some V.any).bind fun v26 =>
 (some V.any).bind fun v27 =>
 (V.cellsO (vb true)).bind fun v28 =>
 (setV (List.getD vs24 0 V.any) [] (Stp.mk none ((2 + natOf v3 * 3) + 2) 0) 1 v28).bind fun v29 =>
 (some V.any).bind fun v30 =>
 (some V.any).bind fun v31 =>
 ((nodeL v29 none 0).bind fun l32 => (l32[62]?).bind ownO).bind fun v33 =>
 (slcB 1 1 [(vi 0)] [(0, v3)]).bind fun v34 =>
 (getV v29 [(Stp.mk none 62 0)]).bind fun v35 =>
 (modX v29 [] (Stp.mk none 62 0) V.any).bind fun v36 =>
 (appS 1 v35 v34).bind fun v37 =>
 (some V.any).bind fun v38 =>
 (some V.any).bind fun v39 =>
 (V.cellsO v37).bind fun v40 =>
 (setV v36 [] (Stp.mk none 62 0) 1 v40).bind fun v41 =>
 (some (frzQ v41)).bind fun v42 =>
 ((sem_agent_Agent_yes n) [v42, v3]).bind fun v44 =>
 (flatQ v44).bind fun v43 =>
 some (V.tup [(V.tup [v43, vn]), v41])) fun J25 =>
 condV v23 (
 (some V.any).bind fun v45 =>
 (some V.any).bind fun v46 =>
 (V.cellsO v21).bind fun v47 =>
 (setV x0 [] (Stp.mk none 1 0) 1 v47).bind fun v48 =>
 J25 [v48]) (
 J25 [x0])) fun J15 =>
 (keepT (some x0) (some x0) (some [(V.sl []), (vi 0)])).bind (fixN (fun rec49 vs50 =>
 (bin2 Tryz.prog BinOp.lss 3 (ot 24) (ot 23) (List.getD vs50 1 V.any) v13).bind fun v51 =>
 condV v51 (
 (some V.any).bind fun v52 =>
 (some V.any).bind fun v53 =>
 ((nodeL x0 none 0).bind fun l54 => (l54[(2 + natOf v3 * 3)]?).bind ownO).bind fun v55 =>
 ((getV x0 [(Stp.mk none (2 + natOf v3 * 3) 0)]).bind fun v56 => lookV Tryz.prog 102 false v56 (List.getD vs50 1 V.any)).bind fun v57 =>
 (slcB 8 1 [(vi 0), (vb false), (vi 0), (vi 0), (vi 0), (vi 0), (vi 0), (vi 0)] [(0, v57)]).bind fun v58 =>
 (appV 8 (slL (List.getD vs50 0 V.any)) v58).bind fun v59 =>
 (bin2 Tryz.prog BinOp.add 3 (ot 24) (oc 1) (List.getD vs50 1 V.any) (vi 1)).bind fun v60 =>
 (keepT (some x0) (some x0) (some [(V.sl (slL v59)), v60])).bind rec49) (
 (keepT (some x0) (some x0) (some [(V.sl (slL (List.getD vs50 0 V.any)))])).bind J15)) n)) := by kernel_rfl
end Go.Proofs.YtgkohnjpnnofhaaGreat.Ty
