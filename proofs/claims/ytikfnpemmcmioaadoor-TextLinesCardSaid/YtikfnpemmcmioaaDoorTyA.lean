/- What functions do, as functions on plain types, written by a program and checked by the kernel. -/
import Derived.Test.YtikfnpemmcmioaaDoorDenWords
import Derived.Test.YtikfnpemmcmioaaDoorTy
import Derived.Test.YtikfnpemmcmioaaDoorTyT
import Derived.Test.YtikfnpemmcmioaaDoorTyO
import Derived.Test.YtikfnpemmcmioaaDoorTyN
import Derived.Test.YtikfnpemmcmioaaDoorTyM
import Derived.Test.YtikfnpemmcmioaaDoorTyR
import Derived.Test.YtikfnpemmcmioaaDoorDen14
import Derived.Test.YtikfnpemmcmioaaDoorClone
import Derived.Test.YtikfnpemmcmioaaDoorShelfT
import Derived.Test.YtikfnpemmcmioaaDoorTyA0
import Derived.Test.YtikfnpemmcmioaaDoorWPrint
namespace Go.Proofs.YtikfnpemmcmioaaDoor.Ty
open Go Go.RowKit Go.Proofs.YtikfnpemmcmioaaDoor.Den
set_option linter.unusedVariables false
set_option maxRecDepth 100000

def T_Spot.val (x : T_Spot) : Go.Value := .agg #[.int .i64 x.Switch, .int .i64 x.Port]
theorem T_Spot.mkey : MKey Tryd.prog 42 T_Spot.val where
  chk e a w := by kernel_rfl
  find vv l a w := find_ask Tryd.underlying42 (fun _ _ => rfl) (fun a b w => equal_of (T_Spot.run_eql a b w)) vv l a w
  sb a := by show Instr.sameBits (9999 + 1) _ _ = true; simp [Instr.sameBits, T_Spot.val]

/-! railpoint/topo.Spot -/
def an_topo_Spot : Ann := .seq (.reg 0 [] [] []) (.seq (.reg 0 [] [] []) (.no))
noncomputable def sem_topo_Spot (n : Nat) (xs : List V) : Option V := if xs.length ≤ 25 then denF Tryd.prog (envOf []) n Tryd.f23 an_topo_Spot xs else none
theorem ok_topo_Spot (n : Nat) : SemOk Tryd.prog DW 23 (sem_topo_Spot n) := fun xs y h => by
  unfold sem_topo_Spot at h
  split at h
  · rename_i hl
    exact denF_ok stb Tryd.func23 (by kernel_rfl) (envOf_ok semsOk_nil) (by rw [Tryd.ntmps23]; exact hl) h
  · cases h
theorem eq_topo_Spot (n : Nat) (x0 x1 : V) : sem_topo_Spot n [x0, x1] =
 (V.cellsO x0).bind fun v1 =>
 (V.cellsO x1).bind fun v2 =>
 (ldk none (List.drop 0 v2)).bind fun v3 =>
 (bin2 Tryd.prog BinOp.geq 3 (ot 6) (oc 1) v3 (vi 1)).bind fun v4 =>
 (guardV v4 true (some V.any)).bind fun v5 =>
 (guardV v4 true ((gate v4 true (ldk none (List.drop 0 v2))).bind fun v6 =>
 some v6)).bind fun v7 =>
 (guardV v4 true (some V.any)).bind fun v8 =>
 (guardV v4 true ((gate v4 true (ldk none (List.drop 0 v1))).bind fun v9 =>
 some v9)).bind fun v10 =>
 (guardV v4 true ((bin2 Tryd.prog BinOp.leq 3 (ot 10) (ot 12) v7 v10).bind fun v11 =>
 some v11)).bind fun v12 =>
 (pickV v4 v12 (vb false)).bind fun v13 =>
 (guardV v13 true (some V.any)).bind fun v14 =>
 (guardV v13 true ((gate v13 true (ldk none (List.drop 1 v2))).bind fun v15 =>
 some v15)).bind fun v16 =>
 (guardV v13 true ((bin2 Tryd.prog BinOp.geq 3 (ot 17) (oc 1) v16 (vi 1)).bind fun v17 =>
 some v17)).bind fun v18 =>
 (pickV v13 v18 (vb false)).bind fun v19 =>
 (guardV v19 true (some V.any)).bind fun v20 =>
 (guardV v19 true ((gate v19 true (ldk none (List.drop 1 v2))).bind fun v21 =>
 some v21)).bind fun v22 =>
 (guardV v19 true ((bin2 Tryd.prog BinOp.leq 3 (ot 22) (oc 4) v22 (vi 4)).bind fun v23 =>
 some v23)).bind fun v24 =>
 (pickV v19 v24 (vb false)).bind fun v25 =>
 some v25 := by kernel_rfl
noncomputable def t_topo_Spot (a0 : T_Topo) (a1 : T_Spot) : Option Bool :=
 some ((((decide (1 ≤ a1.Switch)) && (decide (a1.Switch ≤ a0.Switches))) && (decide (1 ≤ a1.Port))) && (decide (a1.Port ≤ 4)))
theorem ty_topo_Spot {n : Nat} (hn : bigN ≤ n) (a0 : T_Topo) (a1 : T_Spot) : Rv (fun x : Bool => (vb x)) (sem_topo_Spot n [(T_Topo.e a0), (T_Spot.e a1)]) (t_topo_Spot a0 a1) := by
  rw [eq_topo_Spot]
  unfold t_topo_Spot
  refine tb (x := (T_Topo.c a0)) rfl ?_
  refine tb (x := (T_Spot.c a1)) rfl ?_
  refine tb (x := (vi a1.Switch)) (rfl) ?_
  refine tb (x := (vb (decide (1 ≤ a1.Switch)))) (d_geq) ?_
  refine tg (x := V.any) (fun h5 => rfl) ?_
  refine tg (x := (vi a1.Switch)) (fun h7 => bind_some_eq (gate_pos h7 (rfl))) ?_
  refine tg (x := V.any) (fun h10 => rfl) ?_
  refine tg (x := (vi a0.Switches)) (fun h12 => bind_some_eq (gate_pos h12 (rfl))) ?_
  refine tg (x := (vb (decide (a1.Switch ≤ a0.Switches)))) (fun h15 => by simp only [gv_t h15]; exact bind_some_eq (d_leq)) ?_
  refine tb (x := (vb ((decide (1 ≤ a1.Switch)) && (decide (a1.Switch ≤ a0.Switches))))) (pick_and (fun h9 => gv_t h9)) ?_
  refine tg (x := V.any) (fun h19 => rfl) ?_
  refine tg (x := (vi a1.Port)) (fun h21 => bind_some_eq (gate_pos h21 (rfl))) ?_
  refine tg (x := (vb (decide (1 ≤ a1.Port)))) (fun h24 => by simp only [gv_t h24]; exact bind_some_eq (d_geq)) ?_
  refine tb (x := (vb (((decide (1 ≤ a1.Switch)) && (decide (a1.Switch ≤ a0.Switches))) && (decide (1 ≤ a1.Port))))) (pick_and (fun h9 => gv_t h9)) ?_
  refine tg (x := V.any) (fun h28 => rfl) ?_
  refine tg (x := (vi a1.Port)) (fun h30 => bind_some_eq (gate_pos h30 (rfl))) ?_
  refine tg (x := (vb (decide (a1.Port ≤ 4)))) (fun h33 => by simp only [gv_t h33]; exact bind_some_eq (d_leq)) ?_
  refine tb (x := (vb ((((decide (1 ≤ a1.Switch)) && (decide (a1.Switch ≤ a0.Switches))) && (decide (1 ≤ a1.Port))) && (decide (a1.Port ≤ 4))))) (pick_and (fun h9 => gv_t h9)) ?_
  exact rf_ret rfl

/-! railpoint/topo.Check -/
def an_topo_Check : Ann := .seq (.reg 0 [] [] []) (.seq (.blk none (.seq (.reg 0 [] [] []) (.cond none (.seq (.reg 0 [] [] []) (.no)) (.seq (.reg 0 [] [] []) (.cond none (.seq (.reg 0 [] [] []) (.no)) (.no)))))) (.seq (.reg 0 [] [] []) (.seq (.seq (.reg 0 [] [] []) (.blk (some [.kb 1, .o 3]) (.loop [.kb 1, .o 3, .s 35] (.seq (.reg 0 [] [] []) (.seq (.cond none (.no) (.no)) (.seq (.blk none (.seq (.reg 0 [] [] []) (.seq (.seq (.reg 0 [] [] []) (.cond none (.seq (.reg 0 [] [] []) (.no)) (.no))) (.seq (.seq (.reg 0 [] [] []) (.cond none (.seq (.reg 0 [] [] []) (.no)) (.no))) (.reg 72 [] [] []))))) (.reg 0 [] [] []))))))) (.seq (.reg 0 [] [] []) (.seq (.seq (.reg 0 [] [] []) (.blk (some []) (.loop [.kb 1, .o 3, .o 6, .s 81] (.seq (.reg 0 [] [] []) (.seq (.cond none (.no) (.no)) (.seq (.blk none (.seq (.reg 0 [] [] []) (.seq (.blk none (.seq (.reg 0 [] [] []) (.cond none (.seq (.reg 0 [] [] []) (.no)) (.seq (.reg 0 [] [] []) (.cond none (.seq (.reg 0 [] [] []) (.no)) (.seq (.reg 0 [] [] []) (.cond none (.seq (.reg 0 [] [] []) (.no)) (.no)))))))) (.reg 72 [] [] [])))) (.reg 0 [] [] []))))))) (.seq (.reg 0 [] [] []) (.no)))))))
noncomputable def sem_topo_Check (n : Nat) (xs : List V) : Option V := if xs.length ≤ 117 then denF Tryd.prog (envOf [(23, (sem_topo_Spot n)), (19, (sem_topo_Name n))]) n Tryd.f12 an_topo_Check xs else none
theorem ok_topo_Check (n : Nat) : SemOk Tryd.prog DW 12 (sem_topo_Check n) := fun xs y h => by
  unfold sem_topo_Check at h
  split at h
  · rename_i hl
    exact denF_ok stb Tryd.func12 (by kernel_rfl) (envOf_ok (semsOk_cons (ok_topo_Spot n) (semsOk_cons (ok_topo_Name n) semsOk_nil))) (by rw [Tryd.ntmps12]; exact hl) h
  · cases h
theorem eq_topo_Check (n : Nat) (x0 : V) : sem_topo_Check n [x0] =
 (V.cellsO x0).bind fun v1 =>
 (ldk none (List.drop 0 v1)).bind fun v2 =>
 (bin2 Tryd.prog BinOp.lss 3 (ot 11) (oc 1) v2 (vi 1)).bind fun v3 =>
 (guardV v3 false (some V.any)).bind fun v4 =>
 (guardV v3 false ((gate v3 false (ldk none (List.drop 0 v1))).bind fun v5 =>
 some v5)).bind fun v6 =>
 (guardV v3 false ((bin2 Tryd.prog BinOp.gtr 3 (ot 15) (oc 6) v6 (vi 6)).bind fun v7 =>
 some v7)).bind fun v8 =>
 (pickV v3 (vb true) v8).bind fun v9 =>
 condV v9 (
 (scal1 Tryd.prog (Instr.makeInterface 58) (vi 1)).bind fun v10 =>
 some v10) (
 (ldk none (List.drop 1 v1)).bind fun v11 =>
 (lenS [v11]).bind fun v12 =>
 (bin2 Tryd.prog BinOp.gtr 3 (ot 22) (oc 200) v12 (vi 200)).bind fun v13 =>
 (guardV v13 false (some V.any)).bind fun v14 =>
 (guardV v13 false ((gate v13 false (ldk none (List.drop 2 v1))).bind fun v15 =>
 some v15)).bind fun v16 =>
 (guardV v13 false ((lenS [v16]).bind fun v17 =>
 some v17)).bind fun v18 =>
 (guardV v13 false ((bin2 Tryd.prog BinOp.gtr 3 (ot 27) (oc 8) v18 (vi 8)).bind fun v19 =>
 some v19)).bind fun v20 =>
 (pickV v13 (vb true) v20).bind fun v21 =>
 condV v21 (
 (scal1 Tryd.prog (Instr.makeInterface 58) (vi 4)).bind fun v22 =>
 some v22) (
 (ldk none (List.drop 1 v1)).bind fun v23 =>
 (lenS [v23]).bind fun v24 =>
 JoinPt (fun vs25 =>
 (ldk none (List.drop 2 v1)).bind fun v27 =>
 (lenS [v27]).bind fun v28 =>
 JoinPt (fun vs29 =>
 some vn) fun J30 =>
 (keepO (some v1) (some v1) (some [(List.getD vs25 0 V.any), (V.mp []), (vi 0)])).bind (fixN (fun rec31 vs32 =>
 (bin2 Tryd.prog BinOp.lss 3 (ot 81) (ot 80) (List.getD vs32 2 V.any) v28).bind fun v33 =>
 condV v33 (
 (idxS 3 v27 (List.getD vs32 2 V.any)).bind fun v34 =>
 (ldp (some 3) v34).bind fun v35 =>
 (spliceV [(V.lit (Go.Value.string (ByteArray.mk #[]))), (vi 0), (vi 0)] 0 3 v35).bind fun v36 =>
 (ldk none (List.drop 0 (aggL v36))).bind fun v37 =>
 ((sem_topo_Name n) [v37]).bind fun v38 =>
 (scal1 Tryd.prog (Op.unary Go.UnOp.not) v38).bind fun v39 =>
 condV v39 (
 (scal1 Tryd.prog (Instr.makeInterface 58) (vi 2)).bind fun v40 =>
 some v40) (
 (ldk (some 3) (List.drop 0 v1)).bind fun v41 =>
 (ldk (some 2) (List.drop 1 (aggL v36))).bind fun v42 =>
 ((sem_topo_Spot n) [v41, v42]).bind fun v43 =>
 (scal1 Tryd.prog (Op.unary Go.UnOp.not) v43).bind fun v44 =>
 condV v44 (
 (scal1 Tryd.prog (Instr.makeInterface 58) (vi 1)).bind fun v45 =>
 some v45) (
 (ldk none (List.drop 0 (aggL v36))).bind fun v46 =>
 (lookV Tryd.prog 76 false (List.getD vs32 1 V.any) v46).bind fun v47 =>
 (guardV v47 false (some V.any)).bind fun v48 =>
 (guardV v47 false (some V.any)).bind fun v49 =>
 (guardV v47 false ((gate v47 false (ldk (some 2) (List.drop 1 (aggL v36)))).bind fun v50 =>
 some v50)).bind fun v51 =>
 (guardV v47 false ((gate v47 false (lookV Tryd.prog 74 false (List.getD vs32 0 V.any) v51)).bind fun v52 =>
 some v52)).bind fun v53 =>
 (pickV v47 (vb true) v53).bind fun v54 =>
 condV v54 (
 (scal1 Tryd.prog (Instr.makeInterface 58) (vi 7)).bind fun v55 =>
 some v55) (
 (ldk none (List.drop 0 (aggL v36))).bind fun v56 =>
 (litV v56).bind fun v57 =>
 (ldk (some 2) (List.drop 1 (aggL v36))).bind fun v58 =>
 (litV v58).bind fun v59 =>
 (putV Tryd.prog 76 (List.getD vs32 1 V.any) v57 (vb true)).bind fun v60 =>
 (putV Tryd.prog 74 (List.getD vs32 0 V.any) v59 (vb true)).bind fun v61 =>
 (bin2 Tryd.prog BinOp.add 3 (ot 81) (oc 1) (List.getD vs32 2 V.any) (vi 1)).bind fun v62 =>
 (keepO (some v1) (some v1) (some [v61, v60, v62])).bind rec31)))) (
 J30 [])) n)) fun J26 =>
 (keepO (some v1) (some v1) (some [(V.mp []), (vi 0)])).bind (fixN (fun rec63 vs64 =>
 (bin2 Tryd.prog BinOp.lss 3 (ot 35) (ot 34) (List.getD vs64 1 V.any) v24).bind fun v65 =>
 condV v65 (
 (idxS 4 v23 (List.getD vs64 1 V.any)).bind fun v66 =>
 (ldp (some 4) v66).bind fun v67 =>
 (spliceV [(vi 0), (vi 0), (vi 0), (vi 0)] 0 4 v67).bind fun v68 =>
 (ldk (some 3) (List.drop 0 v1)).bind fun v69 =>
 (ldk (some 2) (List.drop 0 (aggL v68))).bind fun v70 =>
 ((sem_topo_Spot n) [v69, v70]).bind fun v71 =>
 (scal1 Tryd.prog (Op.unary Go.UnOp.not) v71).bind fun v72 =>
 (guardV v72 false ((ldk (some 3) (List.drop 0 v1)).bind fun v73 =>
 some v73)).bind fun v74 =>
 (guardV v72 false (some V.any)).bind fun v75 =>
 (guardV v72 false ((gate v72 false (ldk (some 2) (List.drop 2 (aggL v68)))).bind fun v76 =>
 some v76)).bind fun v77 =>
 (guardV v72 false (((sem_topo_Spot n) [v74, v77]).bind fun v78 =>
 some v78)).bind fun v79 =>
 (guardV v72 false ((scal1 Tryd.prog (Op.unary Go.UnOp.not) v79).bind fun v80 =>
 some v80)).bind fun v81 =>
 (pickV v72 (vb true) v81).bind fun v82 =>
 condV v82 (
 (scal1 Tryd.prog (Instr.makeInterface 58) (vi 1)).bind fun v83 =>
 some v83) (
 (ldk (some 2) (List.drop 0 (aggL v68))).bind fun v84 =>
 (lookV Tryd.prog 74 false (List.getD vs64 0 V.any) v84).bind fun v85 =>
 (guardV v85 false (some V.any)).bind fun v86 =>
 (guardV v85 false (some V.any)).bind fun v87 =>
 (guardV v85 false ((gate v85 false (ldk (some 2) (List.drop 2 (aggL v68)))).bind fun v88 =>
 some v88)).bind fun v89 =>
 (guardV v85 false ((gate v85 false (lookV Tryd.prog 74 false (List.getD vs64 0 V.any) v89)).bind fun v90 =>
 some v90)).bind fun v91 =>
 (pickV v85 (vb true) v91).bind fun v92 =>
 (guardV v92 false (some V.any)).bind fun v93 =>
 (guardV v92 false ((gate v92 false (ldk (some 2) (List.drop 0 (aggL v68)))).bind fun v94 =>
 some v94)).bind fun v95 =>
 (guardV v92 false (some V.any)).bind fun v96 =>
 (guardV v92 false ((gate v92 false (ldk (some 2) (List.drop 2 (aggL v68)))).bind fun v97 =>
 some v97)).bind fun v98 =>
 (guardV v92 false ((bin2 Tryd.prog BinOp.eql 42 (ot 64) (ot 66) v95 v98).bind fun v99 =>
 some v99)).bind fun v100 =>
 (pickV v92 (vb true) v100).bind fun v101 =>
 condV v101 (
 (scal1 Tryd.prog (Instr.makeInterface 58) (vi 7)).bind fun v102 =>
 some v102) (
 (ldk (some 2) (List.drop 0 (aggL v68))).bind fun v103 =>
 (litV v103).bind fun v104 =>
 (ldk (some 2) (List.drop 2 (aggL v68))).bind fun v105 =>
 (litV v105).bind fun v106 =>
 (putV Tryd.prog 74 (List.getD vs64 0 V.any) v104 (vb true)).bind fun v107 =>
 (putV Tryd.prog 74 v107 v106 (vb true)).bind fun v108 =>
 (bin2 Tryd.prog BinOp.add 3 (ot 35) (oc 1) (List.getD vs64 1 V.any) (vi 1)).bind fun v109 =>
 (keepO (some v1) (some v1) (some [v108, v109])).bind rec63))) (
 (keepO (some v1) (some v1) (some [(List.getD vs64 0 V.any)])).bind J26)) n))) := by kernel_rfl
noncomputable def t_topo_Check (a0 : T_Topo) : Option Int :=
 if ((decide (a0.Switches < 1)) || (decide (6 < a0.Switches))) = true then (
 some 1) else (
 if ((decide (200 < (List.length a0.Links : Int))) || (decide (8 < (List.length a0.Hosts : Int)))) = true then (
 some 4) else (
 join (fun (s36 : (List (T_Spot × Bool))) =>
 join (fun (s43 : Unit) =>
 some 0) fun j44 =>
 loopI a0.Hosts (fun (i52 : Int) x53 (s48 : ((List (T_Spot × Bool)) × (List (ByteArray × Bool)))) k49 =>
 (t_topo_Name x53.Name).bind fun r63 =>
 if (!r63) = true then (
 some 2) else (
 (t_topo_Spot a0 x53.At).bind fun r70 =>
 if (!r70) = true then (
 some 1) else (
 if ((mget s48.2 x53.Name false) || (mget s48.1 x53.At false)) = true then (
 some 7) else (
 k49 ((mput s48.1 x53.At true), (mput s48.2 x53.Name true)))))) (fun (s48 : ((List (T_Spot × Bool)) × (List (ByteArray × Bool)))) =>
 j44 ()) (s36, [])) fun j37 =>
 loopI a0.Links (fun (i105 : Int) x106 (s101 : (List (T_Spot × Bool))) k102 =>
 (t_topo_Spot a0 x106.A).bind fun r117 =>
 (gd (!(!r117)) default (t_topo_Spot a0 x106.B)).bind fun r130 =>
 if ((!r117) || (!r130)) = true then (
 some 1) else (
 if (((mget s101 x106.A false) || (mget s101 x106.B false)) || (decide (x106.A = x106.B))) = true then (
 some 7) else (
 k102 (mput (mput s101 x106.A true) x106.B true)))) (fun (s101 : (List (T_Spot × Bool))) =>
 j37 (s101)) ([])))
theorem ty_topo_Check {n : Nat} (hn : bigN ≤ n) (a0 : T_Topo) : Rv (fun x : Int => (eV x)) (sem_topo_Check n [(T_Topo.e a0)]) (t_topo_Check a0) := by
  rw [eq_topo_Check]
  unfold t_topo_Check
  refine tb (x := (T_Topo.c a0)) rfl ?_
  refine tb (x := (vi a0.Switches)) (rfl) ?_
  refine tb (x := (vb (decide (a0.Switches < 1)))) (d_lss) ?_
  refine tg_f (x := V.any) (fun h4 => rfl) ?_
  refine tg_f (x := (vi a0.Switches)) (fun h6 => bind_some_eq (gate_pos (not_t h6) (rfl))) ?_
  refine tg_f (x := (vb (decide (6 < a0.Switches)))) (fun h9 => by simp only [gv_t h9]; exact bind_some_eq (d_gtr)) ?_
  refine tb (x := (vb ((decide (a0.Switches < 1)) || (decide (6 < a0.Switches))))) (pick_or (fun h9 => gv_t (not_f h9))) ?_
  refine tcond (fun h13 => ?_) (fun h13 => ?_)
  · refine tb (x := (eV 1)) (p_mkE (by decide)) ?_
    exact rf_ret rfl
  · refine tb (x := (V.sl (List.map T_Link.c a0.Links))) (rfl) ?_
    refine tb (x := (vi (List.length a0.Links : Int))) (p_len _) ?_
    refine tb (x := (vb (decide (200 < (List.length a0.Links : Int))))) (d_gtr) ?_
    refine tg_f (x := V.any) (fun h18 => rfl) ?_
    refine tg_f (x := (V.sl (List.map T_Host.c a0.Hosts))) (fun h20 => bind_some_eq (gate_pos (not_t h20) (rfl))) ?_
    refine tg_f (x := (vi (List.length a0.Hosts : Int))) (fun h23 => by simp only [gv_t h23]; exact bind_some_eq (p_len _)) ?_
    refine tg_f (x := (vb (decide (8 < (List.length a0.Hosts : Int))))) (fun h26 => by simp only [gv_t h26]; exact bind_some_eq (d_gtr)) ?_
    refine tb (x := (vb ((decide (200 < (List.length a0.Links : Int))) || (decide (8 < (List.length a0.Hosts : Int)))))) (pick_or (fun h9 => gv_t (not_f h9))) ?_
    refine tcond (fun h30 => ?_) (fun h30 => ?_)
    · refine tb (x := (eV 4)) (p_mkE (by decide)) ?_
      exact rf_ret rfl
    · refine tb (x := (V.sl (List.map T_Link.c a0.Links))) (rfl) ?_
      refine tb (x := (vi (List.length a0.Links : Int))) (p_len _) ?_
      refine tjoin (mk := fun s36 : (List (T_Spot × Bool)) => [(V.mp (mrep T_Spot.val (fun b : Bool => Go.Value.bool b) s36))]) (fun s36 => ?_) fun J35 j37 h38 => ?_
      · refine tb (x := (V.sl (List.map T_Host.c a0.Hosts))) (rfl) ?_
        refine tb (x := (vi (List.length a0.Hosts : Int))) (p_len _) ?_
        refine tjoin (mk := fun s43 : Unit => []) (fun s43 => ?_) fun J42 j44 h45 => ?_
        · exact rf_ret rfl
        · refine tkeepO2 ?_ rfl
          refine tsome ?_
          refine rf_loopI (mk := fun (i52 : Int) (s48 : ((List (T_Spot × Bool)) × (List (ByteArray × Bool)))) => [(V.mp (mrep T_Spot.val (fun b : Bool => Go.Value.bool b) s48.1)), (V.mp (mrep (fun b : ByteArray => Go.Value.string b) (fun b : Bool => Go.Value.bool b) s48.2)), (vi (i52 : Int))]) hn a0.Hosts (s36, []) (fun i52 x53 h54 h55 h56 s48 rec46 k49 h50 => ?_) (fun s48 rec97 h96 => ?_)
          · refine tb (x := (vb (decide ((i52 : Int) < (List.length a0.Hosts : Int))))) (d_lss) ?_
            refine tcond_t h56 ?_
            refine tb (x := (V.ptr (T_Host.c x53))) (p_idx_at (c := T_Host.c) (fun _ => rfl) h54) ?_
            refine tb (x := (T_Host.e x53)) (rfl) ?_
            refine tb (x := V.agg (T_Host.c x53)) (by kernel_rfl) ?_
            refine tb (x := (vt x53.Name)) (rfl) ?_
            refine tbo (ty_topo_Name hn x53.Name) fun r63 => ?_
            refine tb (x := (vb (!r63))) (d_not) ?_
            refine tcond (fun h65 => ?_) (fun h65 => ?_)
            · refine tb (x := (eV 2)) (p_mkE (by decide)) ?_
              exact rf_ret rfl
            · refine tb (x := (T_Topo.e a0)) (rfl) ?_
              refine tb (x := (T_Spot.e x53.At)) (rfl) ?_
              refine tbo (ty_topo_Spot hn a0 x53.At) fun r70 => ?_
              refine tb (x := (vb (!r70))) (d_not) ?_
              refine tcond (fun h72 => ?_) (fun h72 => ?_)
              · refine tb (x := (eV 1)) (p_mkE (by decide)) ?_
                exact rf_ret rfl
              · refine tb (x := (vt x53.Name)) (rfl) ?_
                refine tb (x := (vb (mget s48.2 x53.Name false))) (p_look (kt := 9) (et := 4) (kv := (fun b : ByteArray => Go.Value.string b)) (vv := (fun b : Bool => Go.Value.bool b)) (e1 := fun x : Bool => (vb x)) (mkey_str (by kernel_rfl)) (by kernel_rfl) false (fun _ => by kernel_rfl) (fun _ => rfl) x53.Name rfl s48.2) ?_
                refine tg_f (x := V.any) (fun h76 => rfl) ?_
                refine tg_f (x := V.any) (fun h78 => rfl) ?_
                refine tg_f (x := (T_Spot.e x53.At)) (fun h80 => bind_some_eq (gate_pos (not_t h80) (rfl))) ?_
                refine tg_f (x := (vb (mget s48.1 x53.At false))) (fun h83 => by simp only [gv_t h83]; exact bind_some_eq (gate_pos (not_t h83) (p_look (kt := 42) (et := 4) (kv := T_Spot.val) (vv := (fun b : Bool => Go.Value.bool b)) (e1 := fun x : Bool => (vb x)) T_Spot.mkey (by kernel_rfl) false (fun _ => by kernel_rfl) (fun _ => rfl) x53.At rfl s48.1))) ?_
                refine tb (x := (vb ((mget s48.2 x53.Name false) || (mget s48.1 x53.At false)))) (pick_or (fun h9 => gv_t (not_f h9))) ?_
                refine tcond (fun h87 => ?_) (fun h87 => ?_)
                · refine tb (x := (eV 7)) (p_mkE (by decide)) ?_
                  exact rf_ret rfl
                · refine tb (x := (vt x53.Name)) (rfl) ?_
                  refine tb (x := (vt x53.Name)) rfl ?_
                  refine tb (x := (T_Spot.e x53.At)) (rfl) ?_
                  refine tb (x := (T_Spot.e x53.At)) rfl ?_
                  refine tb (x := V.mp (mrep (fun b : ByteArray => Go.Value.string b) (fun b : Bool => Go.Value.bool b) (mput s48.2 x53.Name true))) (p_put (kt := 9) (et := 4) (kv := (fun b : ByteArray => Go.Value.string b)) (vv := (fun b : Bool => Go.Value.bool b)) (mkey_str (by kernel_rfl)) (by kernel_rfl) x53.Name true rfl rfl s48.2) ?_
                  refine tb (x := V.mp (mrep T_Spot.val (fun b : Bool => Go.Value.bool b) (mput s48.1 x53.At true))) (p_put (kt := 42) (et := 4) (kv := T_Spot.val) (vv := (fun b : Bool => Go.Value.bool b)) T_Spot.mkey (by kernel_rfl) x53.At true rfl rfl s48.1) ?_
                  refine tb (x := (vi ((i52 : Int) + 1))) (p_incN h55) ?_
                  refine tkeepO2 ?_ rfl
                  refine tsome ?_
                  exact h50 ((mput s48.1 x53.At true), (mput s48.2 x53.Name true))
          · refine tb (x := (vb (decide ((List.length a0.Hosts : Int) < (List.length a0.Hosts : Int))))) (d_lss) ?_
            refine tcond_f h96 ?_
            exact h45 ()
      · refine tkeepO2 ?_ rfl
        refine tsome ?_
        refine rf_loopI (mk := fun (i105 : Int) (s101 : (List (T_Spot × Bool))) => [(V.mp (mrep T_Spot.val (fun b : Bool => Go.Value.bool b) s101)), (vi (i105 : Int))]) hn a0.Links ([]) (fun i105 x106 h107 h108 h109 s101 rec99 k102 h103 => ?_) (fun s101 rec174 h173 => ?_)
        · refine tb (x := (vb (decide ((i105 : Int) < (List.length a0.Links : Int))))) (d_lss) ?_
          refine tcond_t h109 ?_
          refine tb (x := (V.ptr (T_Link.c x106))) (p_idx_at (c := T_Link.c) (fun _ => rfl) h107) ?_
          refine tb (x := (T_Link.e x106)) (rfl) ?_
          refine tb (x := V.agg (T_Link.c x106)) (by kernel_rfl) ?_
          refine tb (x := (T_Topo.e a0)) (rfl) ?_
          refine tb (x := (T_Spot.e x106.A)) (rfl) ?_
          refine tbo (ty_topo_Spot hn a0 x106.A) fun r117 => ?_
          refine tb (x := (vb (!r117))) (d_not) ?_
          refine tg_f (x := (T_Topo.e a0)) (fun h119 => bind_some_eq (rfl)) ?_
          refine tg_f (x := V.any) (fun h122 => rfl) ?_
          refine tg_f (x := (T_Spot.e x106.B)) (fun h124 => bind_some_eq (gate_pos (not_t h124) (rfl))) ?_
          refine tgo_f (fun h127 => by simp only [gv_t h127]; exact rf_bind_some (ty_topo_Spot hn a0 x106.B)) fun r130 => ?_
          refine tg_f (x := (vb (!r130))) (fun h131 => by simp only [gv_t h131]; exact bind_some_eq (d_not)) ?_
          refine tb (x := (vb ((!r117) || (!r130)))) (pick_or (fun h9 => gv_t (not_f h9))) ?_
          refine tcond (fun h135 => ?_) (fun h135 => ?_)
          · refine tb (x := (eV 1)) (p_mkE (by decide)) ?_
            exact rf_ret rfl
          · refine tb (x := (T_Spot.e x106.A)) (rfl) ?_
            refine tb (x := (vb (mget s101 x106.A false))) (p_look (kt := 42) (et := 4) (kv := T_Spot.val) (vv := (fun b : Bool => Go.Value.bool b)) (e1 := fun x : Bool => (vb x)) T_Spot.mkey (by kernel_rfl) false (fun _ => by kernel_rfl) (fun _ => rfl) x106.A rfl s101) ?_
            refine tg_f (x := V.any) (fun h139 => rfl) ?_
            refine tg_f (x := V.any) (fun h141 => rfl) ?_
            refine tg_f (x := (T_Spot.e x106.B)) (fun h143 => bind_some_eq (gate_pos (not_t h143) (rfl))) ?_
            refine tg_f (x := (vb (mget s101 x106.B false))) (fun h146 => by simp only [gv_t h146]; exact bind_some_eq (gate_pos (not_t h146) (p_look (kt := 42) (et := 4) (kv := T_Spot.val) (vv := (fun b : Bool => Go.Value.bool b)) (e1 := fun x : Bool => (vb x)) T_Spot.mkey (by kernel_rfl) false (fun _ => by kernel_rfl) (fun _ => rfl) x106.B rfl s101))) ?_
            refine tb (x := (vb ((mget s101 x106.A false) || (mget s101 x106.B false)))) (pick_or (fun h9 => gv_t (not_f h9))) ?_
            refine tg_f (x := V.any) (fun h150 => rfl) ?_
            refine tg_f (x := (T_Spot.e x106.A)) (fun h152 => bind_some_eq (gate_pos (not_t h152) (rfl))) ?_
            refine tg_f (x := V.any) (fun h155 => rfl) ?_
            refine tg_f (x := (T_Spot.e x106.B)) (fun h157 => bind_some_eq (gate_pos (not_t h157) (rfl))) ?_
            refine tg_f (x := (vb (decide (x106.A = x106.B)))) (fun h160 => by simp only [gv_t h160]; exact bind_some_eq (T_Spot.eql x106.A x106.B)) ?_
            refine tb (x := (vb (((mget s101 x106.A false) || (mget s101 x106.B false)) || (decide (x106.A = x106.B))))) (pick_or (fun h9 => gv_t (not_f h9))) ?_
            refine tcond (fun h164 => ?_) (fun h164 => ?_)
            · refine tb (x := (eV 7)) (p_mkE (by decide)) ?_
              exact rf_ret rfl
            · refine tb (x := (T_Spot.e x106.A)) (rfl) ?_
              refine tb (x := (T_Spot.e x106.A)) rfl ?_
              refine tb (x := (T_Spot.e x106.B)) (rfl) ?_
              refine tb (x := (T_Spot.e x106.B)) rfl ?_
              refine tb (x := V.mp (mrep T_Spot.val (fun b : Bool => Go.Value.bool b) (mput s101 x106.A true))) (p_put (kt := 42) (et := 4) (kv := T_Spot.val) (vv := (fun b : Bool => Go.Value.bool b)) T_Spot.mkey (by kernel_rfl) x106.A true rfl rfl s101) ?_
              refine tb (x := V.mp (mrep T_Spot.val (fun b : Bool => Go.Value.bool b) (mput (mput s101 x106.A true) x106.B true))) (p_put (kt := 42) (et := 4) (kv := T_Spot.val) (vv := (fun b : Bool => Go.Value.bool b)) T_Spot.mkey (by kernel_rfl) x106.B true rfl rfl (mput s101 x106.A true)) ?_
              refine tb (x := (vi ((i105 : Int) + 1))) (p_incN h108) ?_
              refine tkeepO2 ?_ rfl
              refine tsome ?_
              exact h103 (mput (mput s101 x106.A true) x106.B true)
        · refine tb (x := (vb (decide ((List.length a0.Links : Int) < (List.length a0.Links : Int))))) (d_lss) ?_
          refine tcond_f h173 ?_
          refine tkeepO2 ?_ rfl
          refine tsome ?_
          exact h38 (s101)

/-! railpoint/cube.Header -/
def an_cube_Header : Ann := .seq (.reg 0 [] [] []) (.seq (.reg 0 [] [] []) (.no))
noncomputable def sem_cube_Header (n : Nat) (xs : List V) : Option V := if xs.length ≤ 9 then denF Tryd.prog (envOf []) n Tryd.f29 an_cube_Header xs else none
theorem ok_cube_Header (n : Nat) : SemOk Tryd.prog DW 29 (sem_cube_Header n) := fun xs y h => by
  unfold sem_cube_Header at h
  split at h
  · rename_i hl
    exact denF_ok stb Tryd.func29 (by kernel_rfl) (envOf_ok semsOk_nil) (by rw [Tryd.ntmps29]; exact hl) h
  · cases h
theorem eq_cube_Header (n : Nat) (x0 : V) : sem_cube_Header n [x0] =
 (bin2 Tryd.prog BinOp.geq 3 (ot 3) (oc 0) x0 (vi 0)).bind fun v1 =>
 (guardV v1 true (some x0)).bind fun v2 =>
 (guardV v1 true ((bin2 Tryd.prog BinOp.lss 3 (ot 6) (oc 16) v2 (vi 16)).bind fun v3 =>
 some v3)).bind fun v4 =>
 (pickV v1 v4 (vb false)).bind fun v5 =>
 some v5 := by kernel_rfl
noncomputable def t_cube_Header (a0 : Int) : Option Bool :=
 some ((decide (0 ≤ a0)) && (decide (a0 < 16)))
theorem ty_cube_Header {n : Nat} (hn : bigN ≤ n) (a0 : Int) : Rv (fun x : Bool => (vb x)) (sem_cube_Header n [(vi a0)]) (t_cube_Header a0) := by
  rw [eq_cube_Header]
  unfold t_cube_Header
  refine tb (x := (vb (decide (0 ≤ a0)))) (d_geq) ?_
  refine tg (x := (vi a0)) (fun h2 => rfl) ?_
  refine tg (x := (vb (decide (a0 < 16)))) (fun h4 => by simp only [gv_t h4]; exact bind_some_eq (d_lss)) ?_
  refine tb (x := (vb ((decide (0 ≤ a0)) && (decide (a0 < 16))))) (pick_and (fun h9 => gv_t h9)) ?_
  exact rf_ret rfl

/-! railpoint/cube.Check -/
def an_cube_Check : Ann := .seq (.reg 0 [] [] []) (.seq (.blk none (.seq (.reg 0 [] [] []) (.cond none (.seq (.reg 0 [] [] []) (.no)) (.seq (.reg 0 [] [] []) (.cond none (.seq (.reg 0 [] [] []) (.no)) (.no)))))) (.seq (.reg 0 [] [] []) (.no)))
noncomputable def sem_cube_Check (n : Nat) (xs : List V) : Option V := if xs.length ≤ 23 then denF Tryd.prog (envOf [(29, (sem_cube_Header n))]) n Tryd.f30 an_cube_Check xs else none
theorem ok_cube_Check (n : Nat) : SemOk Tryd.prog DW 30 (sem_cube_Check n) := fun xs y h => by
  unfold sem_cube_Check at h
  split at h
  · rename_i hl
    exact denF_ok stb Tryd.func30 (by kernel_rfl) (envOf_ok (semsOk_cons (ok_cube_Header n) semsOk_nil)) (by rw [Tryd.ntmps30]; exact hl) h
  · cases h
theorem eq_cube_Check (n : Nat) (x0 : V) : sem_cube_Check n [x0] =
 (V.cellsO x0).bind fun v1 =>
 (ldk none (List.drop 0 v1)).bind fun v2 =>
 ((sem_cube_Header n) [v2]).bind fun v3 =>
 (scal1 Tryd.prog (Op.unary Go.UnOp.not) v3).bind fun v4 =>
 (guardV v4 false (some V.any)).bind fun v5 =>
 (guardV v4 false ((gate v4 false (ldk none (List.drop 1 v1))).bind fun v6 =>
 some v6)).bind fun v7 =>
 (guardV v4 false (((sem_cube_Header n) [v7]).bind fun v8 =>
 some v8)).bind fun v9 =>
 (guardV v4 false ((scal1 Tryd.prog (Op.unary Go.UnOp.not) v9).bind fun v10 =>
 some v10)).bind fun v11 =>
 (pickV v4 (vb true) v11).bind fun v12 =>
 condV v12 (
 (scal1 Tryd.prog (Instr.makeInterface 58) (vi 1)).bind fun v13 =>
 some v13) (
 (ldk none (List.drop 1 v1)).bind fun v14 =>
 (ldk none (List.drop 0 v1)).bind fun v15 =>
 (bin2 Tryd.prog BinOp.andNot 3 (ot 17) (ot 19) v14 v15).bind fun v16 =>
 (bin2 Tryd.prog BinOp.neq 3 (ot 20) (oc 0) v16 (vi 0)).bind fun v17 =>
 condV v17 (
 (scal1 Tryd.prog (Instr.makeInterface 58) (vi 3)).bind fun v18 =>
 some v18) (
 some vn)) := by kernel_rfl
noncomputable def t_cube_Check (a0 : T_Cube) : Option Int :=
 (t_cube_Header a0.Mask).bind fun r4 =>
 (gd (!(!r4)) default (t_cube_Header a0.Bits)).bind fun r14 =>
 if ((!r4) || (!r14)) = true then (
 some 1) else (
 if (decide ((bits .andNot .i64 a0.Bits a0.Mask) ≠ 0)) = true then (
 some 3) else (
 some 0))
theorem ty_cube_Check {n : Nat} (hn : bigN ≤ n) (a0 : T_Cube) : Rv (fun x : Int => (eV x)) (sem_cube_Check n [(T_Cube.e a0)]) (t_cube_Check a0) := by
  rw [eq_cube_Check]
  unfold t_cube_Check
  refine tb (x := (T_Cube.c a0)) rfl ?_
  refine tb (x := (vi a0.Mask)) (rfl) ?_
  refine tbo (ty_cube_Header hn a0.Mask) fun r4 => ?_
  refine tb (x := (vb (!r4))) (d_not) ?_
  refine tg_f (x := V.any) (fun h6 => rfl) ?_
  refine tg_f (x := (vi a0.Bits)) (fun h8 => bind_some_eq (gate_pos (not_t h8) (rfl))) ?_
  refine tgo_f (fun h11 => by simp only [gv_t h11]; exact rf_bind_some (ty_cube_Header hn a0.Bits)) fun r14 => ?_
  refine tg_f (x := (vb (!r14))) (fun h15 => by simp only [gv_t h15]; exact bind_some_eq (d_not)) ?_
  refine tb (x := (vb ((!r4) || (!r14)))) (pick_or (fun h9 => gv_t (not_f h9))) ?_
  refine tcond (fun h19 => ?_) (fun h19 => ?_)
  · refine tb (x := (eV 1)) (p_mkE (by decide)) ?_
    exact rf_ret rfl
  · refine tb (x := (vi a0.Bits)) (rfl) ?_
    refine tb (x := (vi a0.Mask)) (rfl) ?_
    refine tb (x := (vi (bits .andNot .i64 a0.Bits a0.Mask))) (d_andNot) ?_
    refine tb (x := (vb (decide ((bits .andNot .i64 a0.Bits a0.Mask) ≠ 0)))) (d_neq) ?_
    refine tcond (fun h25 => ?_) (fun h25 => ?_)
    · refine tb (x := (eV 3)) (p_mkE (by decide)) ?_
      exact rf_ret rfl
    · exact rf_ret rfl

/-! railpoint/rule.Check -/
def an_rule_Check : Ann := .seq (.reg 0 [] [] []) (.seq (.seq (.reg 0 [] [] []) (.cond none (.seq (.reg 0 [] [] []) (.no)) (.no))) (.seq (.seq (.reg 0 [] [] []) (.seq (.reg 0 [] [] []) (.cond none (.seq (.reg 0 [] [] []) (.no)) (.no)))) (.seq (.seq (.reg 0 [] [] []) (.cond none (.seq (.reg 0 [] [] []) (.no)) (.no))) (.seq (.reg 0 [] [] []) (.no)))))
noncomputable def sem_rule_Check (n : Nat) (xs : List V) : Option V := if xs.length ≤ 58 then denF Tryd.prog (envOf [(29, (sem_cube_Header n)), (30, (sem_cube_Check n))]) n Tryd.f16 an_rule_Check xs else none
theorem ok_rule_Check (n : Nat) : SemOk Tryd.prog DW 16 (sem_rule_Check n) := fun xs y h => by
  unfold sem_rule_Check at h
  split at h
  · rename_i hl
    exact denF_ok stb Tryd.func16 (by kernel_rfl) (envOf_ok (semsOk_cons (ok_cube_Header n) (semsOk_cons (ok_cube_Check n) semsOk_nil))) (by rw [Tryd.ntmps16]; exact hl) h
  · cases h
theorem eq_rule_Check (n : Nat) (x0 : V) : sem_rule_Check n [x0] =
 (V.cellsO x0).bind fun v1 =>
 (ldk none (List.drop 0 v1)).bind fun v2 =>
 (bin2 Tryd.prog BinOp.lss 3 (ot 5) (oc 0) v2 (vi 0)).bind fun v3 =>
 (guardV v3 false (some V.any)).bind fun v4 =>
 (guardV v3 false ((gate v3 false (ldk none (List.drop 0 v1))).bind fun v5 =>
 some v5)).bind fun v6 =>
 (guardV v3 false ((bin2 Tryd.prog BinOp.gtr 3 (ot 9) (oc 99) v6 (vi 99)).bind fun v7 =>
 some v7)).bind fun v8 =>
 (pickV v3 (vb true) v8).bind fun v9 =>
 (guardV v9 false (some V.any)).bind fun v10 =>
 (guardV v9 false ((gate v9 false (ldk none (List.drop 3 v1))).bind fun v11 =>
 some v11)).bind fun v12 =>
 (guardV v9 false ((bin2 Tryd.prog BinOp.lss 3 (ot 14) (oc 0) v12 (vi 0)).bind fun v13 =>
 some v13)).bind fun v14 =>
 (pickV v9 (vb true) v14).bind fun v15 =>
 (guardV v15 false (some V.any)).bind fun v16 =>
 (guardV v15 false ((gate v15 false (ldk none (List.drop 3 v1))).bind fun v17 =>
 some v17)).bind fun v18 =>
 (guardV v15 false ((bin2 Tryd.prog BinOp.gtr 3 (ot 19) (oc 4) v18 (vi 4)).bind fun v19 =>
 some v19)).bind fun v20 =>
 (pickV v15 (vb true) v20).bind fun v21 =>
 (guardV v21 false (some V.any)).bind fun v22 =>
 (guardV v21 false ((gate v21 false (ldk none (List.drop 4 v1))).bind fun v23 =>
 some v23)).bind fun v24 =>
 (guardV v21 false (((sem_cube_Header n) [v24]).bind fun v25 =>
 some v25)).bind fun v26 =>
 (guardV v21 false ((scal1 Tryd.prog (Op.unary Go.UnOp.not) v26).bind fun v27 =>
 some v27)).bind fun v28 =>
 (pickV v21 (vb true) v28).bind fun v29 =>
 (guardV v29 false (some V.any)).bind fun v30 =>
 (guardV v29 false ((gate v29 false (ldk none (List.drop 5 v1))).bind fun v31 =>
 some v31)).bind fun v32 =>
 (guardV v29 false (((sem_cube_Header n) [v32]).bind fun v33 =>
 some v33)).bind fun v34 =>
 (guardV v29 false ((scal1 Tryd.prog (Op.unary Go.UnOp.not) v34).bind fun v35 =>
 some v35)).bind fun v36 =>
 (pickV v29 (vb true) v36).bind fun v37 =>
 condV v37 (
 (scal1 Tryd.prog (Instr.makeInterface 58) (vi 1)).bind fun v38 =>
 some v38) (
 (ldk (some 2) (List.drop 1 v1)).bind fun v39 =>
 ((sem_cube_Check n) [v39]).bind fun v40 =>
 (bin2 Tryd.prog BinOp.neq 31 (ot 38) (Operand.const Go.Value.nilIface) v40 vn).bind fun v41 =>
 condV v41 (
 some v40) (
 (ldk none (List.drop 5 v1)).bind fun v42 =>
 (ldk none (List.drop 4 v1)).bind fun v43 =>
 (bin2 Tryd.prog BinOp.andNot 3 (ot 42) (ot 44) v42 v43).bind fun v44 =>
 (bin2 Tryd.prog BinOp.neq 3 (ot 45) (oc 0) v44 (vi 0)).bind fun v45 =>
 (guardV v45 false (some V.any)).bind fun v46 =>
 (guardV v45 false ((gate v45 false (ldk none (List.drop 3 v1))).bind fun v47 =>
 some v47)).bind fun v48 =>
 (guardV v45 false ((bin2 Tryd.prog BinOp.eql 3 (ot 49) (oc 0) v48 (vi 0)).bind fun v49 =>
 some v49)).bind fun v50 =>
 (guardV v45 false (some v50)).bind fun v51 =>
 (guardV v51 true (some V.any)).bind fun v52 =>
 (guardV v51 true ((gate v51 true (ldk none (List.drop 4 v1))).bind fun v53 =>
 some v53)).bind fun v54 =>
 (guardV v51 true ((bin2 Tryd.prog BinOp.neq 3 (ot 53) (oc 0) v54 (vi 0)).bind fun v55 =>
 some v55)).bind fun v56 =>
 (guardV v45 false ((pickV v51 v56 (vb false)).bind fun v57 =>
 some v57)).bind fun v58 =>
 (pickV v45 (vb true) v58).bind fun v59 =>
 condV v59 (
 (scal1 Tryd.prog (Instr.makeInterface 58) (vi 3)).bind fun v60 =>
 some v60) (
 some vn))) := by kernel_rfl
noncomputable def t_rule_Check (a0 : T_Rule) : Option Int :=
 (gd (!((((decide (a0.Prio < 0)) || (decide (99 < a0.Prio))) || (decide (a0.Out < 0))) || (decide (4 < a0.Out)))) default (t_cube_Header a0.Set)).bind fun r39 =>
 (gd (!(((((decide (a0.Prio < 0)) || (decide (99 < a0.Prio))) || (decide (a0.Out < 0))) || (decide (4 < a0.Out))) || (!r39))) default (t_cube_Header a0.Value)).bind fun r52 =>
 if ((((((decide (a0.Prio < 0)) || (decide (99 < a0.Prio))) || (decide (a0.Out < 0))) || (decide (4 < a0.Out))) || (!r39)) || (!r52)) = true then (
 some 1) else (
 (t_cube_Check a0.Cube).bind fun r61 =>
 if (!decide (r61 = 0)) = true then (
 some r61) else (
 if ((decide ((bits .andNot .i64 a0.Value a0.Set) ≠ 0)) || ((decide (a0.Out = 0)) && (decide (a0.Set ≠ 0)))) = true then (
 some 3) else (
 some 0)))
theorem ty_rule_Check {n : Nat} (hn : bigN ≤ n) (a0 : T_Rule) : Rv (fun x : Int => (eV x)) (sem_rule_Check n [(T_Rule.e a0)]) (t_rule_Check a0) := by
  rw [eq_rule_Check]
  unfold t_rule_Check
  refine tb (x := (T_Rule.c a0)) rfl ?_
  refine tb (x := (vi a0.Prio)) (rfl) ?_
  refine tb (x := (vb (decide (a0.Prio < 0)))) (d_lss) ?_
  refine tg_f (x := V.any) (fun h4 => rfl) ?_
  refine tg_f (x := (vi a0.Prio)) (fun h6 => bind_some_eq (gate_pos (not_t h6) (rfl))) ?_
  refine tg_f (x := (vb (decide (99 < a0.Prio)))) (fun h9 => by simp only [gv_t h9]; exact bind_some_eq (d_gtr)) ?_
  refine tb (x := (vb ((decide (a0.Prio < 0)) || (decide (99 < a0.Prio))))) (pick_or (fun h9 => gv_t (not_f h9))) ?_
  refine tg_f (x := V.any) (fun h13 => rfl) ?_
  refine tg_f (x := (vi a0.Out)) (fun h15 => bind_some_eq (gate_pos (not_t h15) (rfl))) ?_
  refine tg_f (x := (vb (decide (a0.Out < 0)))) (fun h18 => by simp only [gv_t h18]; exact bind_some_eq (d_lss)) ?_
  refine tb (x := (vb (((decide (a0.Prio < 0)) || (decide (99 < a0.Prio))) || (decide (a0.Out < 0))))) (pick_or (fun h9 => gv_t (not_f h9))) ?_
  refine tg_f (x := V.any) (fun h22 => rfl) ?_
  refine tg_f (x := (vi a0.Out)) (fun h24 => bind_some_eq (gate_pos (not_t h24) (rfl))) ?_
  refine tg_f (x := (vb (decide (4 < a0.Out)))) (fun h27 => by simp only [gv_t h27]; exact bind_some_eq (d_gtr)) ?_
  refine tb (x := (vb ((((decide (a0.Prio < 0)) || (decide (99 < a0.Prio))) || (decide (a0.Out < 0))) || (decide (4 < a0.Out))))) (pick_or (fun h9 => gv_t (not_f h9))) ?_
  refine tg_f (x := V.any) (fun h31 => rfl) ?_
  refine tg_f (x := (vi a0.Set)) (fun h33 => bind_some_eq (gate_pos (not_t h33) (rfl))) ?_
  refine tgo_f (fun h36 => by simp only [gv_t h36]; exact rf_bind_some (ty_cube_Header hn a0.Set)) fun r39 => ?_
  refine tg_f (x := (vb (!r39))) (fun h40 => by simp only [gv_t h40]; exact bind_some_eq (d_not)) ?_
  refine tb (x := (vb (((((decide (a0.Prio < 0)) || (decide (99 < a0.Prio))) || (decide (a0.Out < 0))) || (decide (4 < a0.Out))) || (!r39)))) (pick_or (fun h9 => gv_t (not_f h9))) ?_
  refine tg_f (x := V.any) (fun h44 => rfl) ?_
  refine tg_f (x := (vi a0.Value)) (fun h46 => bind_some_eq (gate_pos (not_t h46) (rfl))) ?_
  refine tgo_f (fun h49 => by simp only [gv_t h49]; exact rf_bind_some (ty_cube_Header hn a0.Value)) fun r52 => ?_
  refine tg_f (x := (vb (!r52))) (fun h53 => by simp only [gv_t h53]; exact bind_some_eq (d_not)) ?_
  refine tb (x := (vb ((((((decide (a0.Prio < 0)) || (decide (99 < a0.Prio))) || (decide (a0.Out < 0))) || (decide (4 < a0.Out))) || (!r39)) || (!r52)))) (pick_or (fun h9 => gv_t (not_f h9))) ?_
  refine tcond (fun h57 => ?_) (fun h57 => ?_)
  · refine tb (x := (eV 1)) (p_mkE (by decide)) ?_
    exact rf_ret rfl
  · refine tb (x := (T_Cube.e a0.Cube)) (rfl) ?_
    refine tbo (ty_cube_Check hn a0.Cube) fun r61 => ?_
    refine tb (x := (vb (!decide (r61 = 0)))) (p_err_neq _) ?_
    refine tcond (fun h63 => ?_) (fun h63 => ?_)
    · exact rf_ret rfl
    · refine tb (x := (vi a0.Value)) (rfl) ?_
      refine tb (x := (vi a0.Set)) (rfl) ?_
      refine tb (x := (vi (bits .andNot .i64 a0.Value a0.Set))) (d_andNot) ?_
      refine tb (x := (vb (decide ((bits .andNot .i64 a0.Value a0.Set) ≠ 0)))) (d_neq) ?_
      refine tg_f (x := V.any) (fun h68 => rfl) ?_
      refine tg_f (x := (vi a0.Out)) (fun h70 => bind_some_eq (gate_pos (not_t h70) (rfl))) ?_
      refine tg_f (x := (vb (decide (a0.Out = 0)))) (fun h73 => by simp only [gv_t h73]; exact bind_some_eq (d_eql)) ?_
      refine tg_f (x := (vb (decide (a0.Out = 0)))) (fun h76 => congrArg some (gv_t h76)) ?_
      refine tg2 (x := V.any) (fun h78 => rfl) ?_
      refine tg2 (x := (vi a0.Set)) (fun h80 => bind_some_eq (gate_pos2 (and_l h80) (and_r h80) (rfl))) ?_
      refine tg2 (x := (vb (decide (a0.Set ≠ 0)))) (fun h83 => by simp only [gv_t h83]; exact bind_some_eq (d_neq)) ?_
      refine tg_f (x := (vb ((decide (a0.Out = 0)) && (decide (a0.Set ≠ 0))))) (fun h86 => by simp only [gv_t h86]; exact bind_some_eq (pick_and (fun h9 => gv_t (and_i h86 h9)))) ?_
      refine tb (x := (vb ((decide ((bits .andNot .i64 a0.Value a0.Set) ≠ 0)) || ((decide (a0.Out = 0)) && (decide (a0.Set ≠ 0)))))) (pick_or (fun h9 => gv_t (not_f h9))) ?_
      refine tcond (fun h90 => ?_) (fun h90 => ?_)
      · refine tb (x := (eV 3)) (p_mkE (by decide)) ?_
        exact rf_ret rfl
      · exact rf_ret rfl

/-! slices.IndexFunc railpoint/api.Table railpoint/api.Rule  -/
def an_slices_IndexFunc_api_Table_api_Rule : Ann := .seq (.reg 0 [] [] []) (.seq (.seq (.reg 0 [] [] []) (.blk (some []) (.loop [.s 8] (.seq (.reg 0 [] [] []) (.seq (.cond none (.no) (.no)) (.seq (.blk none (.seq (.reg 0 [] [] []) (.seq (.reg 0 [] [] []) (.cond none (.seq (.reg 0 [] [] []) (.no)) (.no))))) (.reg 0 [] [] []))))))) (.seq (.reg 0 [] [] []) (.no)))
noncomputable def sem_slices_IndexFunc_api_Table_api_Rule (E : FuncId → List V → Option V) (n : Nat) (xs : List V) : Option V := if xs.length ≤ 19 then denF Tryd.prog (envJ [] E) n Tryd.f33 an_slices_IndexFunc_api_Table_api_Rule xs else none
theorem ok_slices_IndexFunc_api_Table_api_Rule {E : FuncId → List V → Option V} (hE : EnvOk Tryd.prog DW E) (n : Nat) : SemOk Tryd.prog DW 33 (sem_slices_IndexFunc_api_Table_api_Rule E n) := fun xs y h => by
  unfold sem_slices_IndexFunc_api_Table_api_Rule at h
  split at h
  · rename_i hl
    exact denF_ok stb Tryd.func33 (by kernel_rfl) (envJ_ok semsOk_nil hE) (by rw [Tryd.ntmps33]; exact hl) h
  · cases h
theorem eq_slices_IndexFunc_api_Table_api_Rule (E : FuncId → List V → Option V) (n : Nat) (x0 x1 : V) : sem_slices_IndexFunc_api_Table_api_Rule E n [x0, x1] =
 (lenS [x0]).bind fun v1 =>
 JoinPt (fun vs2 =>
 some (vi (-1 : Int))) fun J3 =>
 (fixN (fun rec4 vs5 =>
 (bin2 Tryd.prog BinOp.lss 3 (ot 8) (ot 7) (List.getD vs5 0 V.any) v1).bind fun v6 =>
 condV v6 (
 (idxS 6 x0 (List.getD vs5 0 V.any)).bind fun v7 =>
 (ldp (some 6) v7).bind fun v8 =>
 (callV (envJ [] E) x1 [v8]).bind fun v9 =>
 condV v9 (
 some (List.getD vs5 0 V.any)) (
 (bin2 Tryd.prog BinOp.add 3 (ot 8) (oc 1) (List.getD vs5 0 V.any) (vi 1)).bind fun v10 =>
 rec4 [v10])) (
 J3 [])) n) [(vi 0)] := by kernel_rfl
noncomputable def t_slices_IndexFunc_api_Table_api_Rule (a0 : (List T_Rule)) (g1 : T_Rule → Option Bool) : Option Int :=
 join (fun (s4 : Unit) =>
 some (-1 : Int)) fun j5 =>
 loopI a0 (fun (i13 : Int) x14 (s9 : Unit) k10 =>
 (g1 x14).bind fun r22 =>
 if r22 = true then (
 some i13) else (
 k10 ())) (fun (s9 : Unit) =>
 j5 ()) ()
theorem ty_slices_IndexFunc_api_Table_api_Rule {E : FuncId → List V → Option V} {n : Nat} (hn : bigN ≤ n) (a0 : (List T_Rule)) {x1 : V} {g1 : T_Rule → Option Bool} (hg_g1 : ∀ a0, Rv (fun x : Bool => (vb x)) (callV E x1 [(T_Rule.e a0)]) (g1 a0)) : Rv (fun x : Int => (vi x)) (sem_slices_IndexFunc_api_Table_api_Rule E n [(V.sl (List.map T_Rule.c a0)), x1]) (t_slices_IndexFunc_api_Table_api_Rule a0 g1) := by
  rw [eq_slices_IndexFunc_api_Table_api_Rule]
  unfold t_slices_IndexFunc_api_Table_api_Rule
  refine tb (x := (vi (List.length a0 : Int))) (p_len _) ?_
  refine tjoin (mk := fun s4 : Unit => []) (fun s4 => ?_) fun J3 j5 h6 => ?_
  · exact rf_ret rfl
  · refine rf_loopI (mk := fun (i13 : Int) (s9 : Unit) => [(vi (i13 : Int))]) hn a0 () (fun i13 x14 h15 h16 h17 s9 rec7 k10 h11 => ?_) (fun s9 rec26 h25 => ?_)
    · refine tb (x := (vb (decide ((i13 : Int) < (List.length a0 : Int))))) (d_lss) ?_
      refine tcond_t h17 ?_
      refine tb (x := (V.ptr (T_Rule.c x14))) (p_idx_at (c := T_Rule.c) (fun _ => rfl) h15) ?_
      refine tb (x := (T_Rule.e x14)) (rfl) ?_
      refine tbo ((callV_J0 ▸ hg_g1 x14)) fun r22 => ?_
      refine tcond (fun h23 => ?_) (fun h23 => ?_)
      · exact rf_ret rfl
      · refine tb (x := (vi ((i13 : Int) + 1))) (p_incN h16) ?_
        exact h11 ()
    · refine tb (x := (vb (decide ((List.length a0 : Int) < (List.length a0 : Int))))) (d_lss) ?_
      refine tcond_f h25 ?_
      exact h6 ()

/-! slices.ContainsFunc railpoint/api.Table railpoint/api.Rule  -/
def an_slices_ContainsFunc_api_Table_api_Rule : Ann := .seq (.reg 0 [] [] []) (.seq (.reg 0 [] [] []) (.no))
noncomputable def sem_slices_ContainsFunc_api_Table_api_Rule (E : FuncId → List V → Option V) (n : Nat) (xs : List V) : Option V := if xs.length ≤ 9 then denF Tryd.prog (envJ [(33, (sem_slices_IndexFunc_api_Table_api_Rule E n))] E) n Tryd.f24 an_slices_ContainsFunc_api_Table_api_Rule xs else none
theorem ok_slices_ContainsFunc_api_Table_api_Rule {E : FuncId → List V → Option V} (hE : EnvOk Tryd.prog DW E) (n : Nat) : SemOk Tryd.prog DW 24 (sem_slices_ContainsFunc_api_Table_api_Rule E n) := fun xs y h => by
  unfold sem_slices_ContainsFunc_api_Table_api_Rule at h
  split at h
  · rename_i hl
    exact denF_ok stb Tryd.func24 (by kernel_rfl) (envJ_ok (semsOk_cons (ok_slices_IndexFunc_api_Table_api_Rule hE n) semsOk_nil) hE) (by rw [Tryd.ntmps24]; exact hl) h
  · cases h
theorem eq_slices_ContainsFunc_api_Table_api_Rule (E : FuncId → List V → Option V) (n : Nat) (x0 x1 : V) : sem_slices_ContainsFunc_api_Table_api_Rule E n [x0, x1] =
 ((sem_slices_IndexFunc_api_Table_api_Rule E n) [x0, x1]).bind fun v1 =>
 (bin2 Tryd.prog BinOp.geq 3 (ot 7) (oc 0) v1 (vi 0)).bind fun v2 =>
 some v2 := by kernel_rfl
noncomputable def t_slices_ContainsFunc_api_Table_api_Rule (a0 : (List T_Rule)) (g1 : T_Rule → Option Bool) : Option Bool :=
 (t_slices_IndexFunc_api_Table_api_Rule a0 g1).bind fun r2 =>
 some (decide (0 ≤ r2))
theorem ty_slices_ContainsFunc_api_Table_api_Rule {E : FuncId → List V → Option V} {n : Nat} (hn : bigN ≤ n) (a0 : (List T_Rule)) {x1 : V} {g1 : T_Rule → Option Bool} (hg_g1 : ∀ a0, Rv (fun x : Bool => (vb x)) (callV E x1 [(T_Rule.e a0)]) (g1 a0)) : Rv (fun x : Bool => (vb x)) (sem_slices_ContainsFunc_api_Table_api_Rule E n [(V.sl (List.map T_Rule.c a0)), x1]) (t_slices_ContainsFunc_api_Table_api_Rule a0 g1) := by
  rw [eq_slices_ContainsFunc_api_Table_api_Rule]
  unfold t_slices_ContainsFunc_api_Table_api_Rule
  refine tbo (ty_slices_IndexFunc_api_Table_api_Rule (E := E) (x1 := x1) (g1 := g1) hn a0 hg_g1) fun r2 => ?_
  refine tb (x := (vb (decide (0 ≤ r2)))) (d_geq) ?_
  exact rf_ret rfl

/-! railpoint/rule.Key -/
def an_rule_Key : Ann := .seq (.reg 0 [] [] []) (.seq (.reg 0 [] [] []) (.no))
noncomputable def sem_rule_Key (n : Nat) (xs : List V) : Option V := if xs.length ≤ 17 then denF Tryd.prog (envOf []) n Tryd.f26 an_rule_Key xs else none
theorem ok_rule_Key (n : Nat) : SemOk Tryd.prog DW 26 (sem_rule_Key n) := fun xs y h => by
  unfold sem_rule_Key at h
  split at h
  · rename_i hl
    exact denF_ok stb Tryd.func26 (by kernel_rfl) (envOf_ok semsOk_nil) (by rw [Tryd.ntmps26]; exact hl) h
  · cases h
theorem eq_rule_Key (n : Nat) (x0 x1 : V) : sem_rule_Key n [x0, x1] =
 (V.cellsO x0).bind fun v1 =>
 (V.cellsO x1).bind fun v2 =>
 (ldk none (List.drop 0 v1)).bind fun v3 =>
 (ldk none (List.drop 0 v2)).bind fun v4 =>
 (bin2 Tryd.prog BinOp.eql 3 (ot 6) (ot 8) v3 v4).bind fun v5 =>
 (guardV v5 true (some V.any)).bind fun v6 =>
 (guardV v5 true ((gate v5 true (ldk (some 2) (List.drop 1 v1))).bind fun v7 =>
 some v7)).bind fun v8 =>
 (guardV v5 true (some V.any)).bind fun v9 =>
 (guardV v5 true ((gate v5 true (ldk (some 2) (List.drop 1 v2))).bind fun v10 =>
 some v10)).bind fun v11 =>
 (guardV v5 true ((bin2 Tryd.prog BinOp.eql 49 (ot 12) (ot 14) v8 v11).bind fun v12 =>
 some v12)).bind fun v13 =>
 (pickV v5 v13 (vb false)).bind fun v14 =>
 some v14 := by kernel_rfl
noncomputable def t_rule_Key (a0 : T_Rule) (a1 : T_Rule) : Option Bool :=
 some ((decide (a0.Prio = a1.Prio)) && (decide (a0.Cube = a1.Cube)))
theorem ty_rule_Key {n : Nat} (hn : bigN ≤ n) (a0 : T_Rule) (a1 : T_Rule) : Rv (fun x : Bool => (vb x)) (sem_rule_Key n [(T_Rule.e a0), (T_Rule.e a1)]) (t_rule_Key a0 a1) := by
  rw [eq_rule_Key]
  unfold t_rule_Key
  refine tb (x := (T_Rule.c a0)) rfl ?_
  refine tb (x := (T_Rule.c a1)) rfl ?_
  refine tb (x := (vi a0.Prio)) (rfl) ?_
  refine tb (x := (vi a1.Prio)) (rfl) ?_
  refine tb (x := (vb (decide (a0.Prio = a1.Prio)))) (d_eql) ?_
  refine tg (x := V.any) (fun h6 => rfl) ?_
  refine tg (x := (T_Cube.e a0.Cube)) (fun h8 => bind_some_eq (gate_pos h8 (rfl))) ?_
  refine tg (x := V.any) (fun h11 => rfl) ?_
  refine tg (x := (T_Cube.e a1.Cube)) (fun h13 => bind_some_eq (gate_pos h13 (rfl))) ?_
  refine tg (x := (vb (decide (a0.Cube = a1.Cube)))) (fun h16 => by simp only [gv_t h16]; exact bind_some_eq (T_Cube.eql a0.Cube a1.Cube)) ?_
  refine tb (x := (vb ((decide (a0.Prio = a1.Prio)) && (decide (a0.Cube = a1.Cube))))) (pick_and (fun h9 => gv_t h9)) ?_
  exact rf_ret rfl

/-! railpoint/rule.Table$1 -/
def an_rule_Table_1 : Ann := .seq (.reg 0 [] [] []) (.seq (.reg 0 [] [] []) (.no))
noncomputable def sem_rule_Table_1 (n : Nat) (xs : List V) : Option V := if xs.length ≤ 7 then denF Tryd.prog (envOf [(26, (sem_rule_Key n))]) n Tryd.f25 an_rule_Table_1 xs else none
theorem ok_rule_Table_1 (n : Nat) : SemOk Tryd.prog DW 25 (sem_rule_Table_1 n) := fun xs y h => by
  unfold sem_rule_Table_1 at h
  split at h
  · rename_i hl
    exact denF_ok stb Tryd.func25 (by kernel_rfl) (envOf_ok (semsOk_cons (ok_rule_Key n) semsOk_nil)) (by rw [Tryd.ntmps25]; exact hl) h
  · cases h
theorem eq_rule_Table_1 (n : Nat) (x0 x1 : V) : sem_rule_Table_1 n [x0, x1] =
 (V.cellsO x0).bind fun v1 =>
 (ldk (some 6) (List.drop 0 v1)).bind fun v2 =>
 (ldp (some 6) x1).bind fun v3 =>
 ((sem_rule_Key n) [v2, v3]).bind fun v4 =>
 some v4 := by kernel_rfl
noncomputable def t_rule_Table_1 (a0 : T_Rule) (a1 : T_Rule) : Option Bool :=
 (t_rule_Key a0 a1).bind fun r5 =>
 some r5
theorem ty_rule_Table_1 {n : Nat} (hn : bigN ≤ n) (a0 : T_Rule) (a1 : T_Rule) : Rv (fun x : Bool => (vb x)) (sem_rule_Table_1 n [(T_Rule.e a0), (V.ptr (T_Rule.c a1))]) (t_rule_Table_1 a0 a1) := by
  rw [eq_rule_Table_1]
  unfold t_rule_Table_1
  refine tb (x := (T_Rule.c a0)) rfl ?_
  refine tb (x := (T_Rule.e a0)) (rfl) ?_
  refine tb (x := (T_Rule.e a1)) (rfl) ?_
  refine tbo (ty_rule_Key hn a0 a1) fun r5 => ?_
  exact rf_ret rfl

/-! railpoint/rule.Table -/
def an_rule_Table : Ann := .seq (.reg 0 [] [] []) (.seq (.seq (.reg 0 [] [] []) (.cond none (.seq (.reg 0 [] [] []) (.no)) (.no))) (.seq (.seq (.reg 0 [] [] []) (.blk (some []) (.loop [.s 12] (.seq (.reg 0 [] [] []) (.seq (.cond none (.no) (.no)) (.seq (.blk none (.seq (.reg 0 [] [] []) (.seq (.seq (.reg 0 [4] [] []) (.seq (.reg 0 [] [] []) (.cond none (.seq (.reg 0 [] [] []) (.no)) (.no)))) (.seq (.reg 0 [] [] []) (.cond none (.seq (.reg 0 [] [] []) (.no)) (.no)))))) (.reg 0 [] [] []))))))) (.seq (.reg 0 [] [] []) (.no))))
noncomputable def sem_rule_Table (n : Nat) (xs : List V) : Option V := if xs.length ≤ 29 then denF Tryd.prog (envOf [(16, (sem_rule_Check n)), (24, (sem_slices_ContainsFunc_api_Table_api_Rule (envOf [(25, (sem_rule_Table_1 n))]) n)), (25, (sem_rule_Table_1 n))]) n Tryd.f13 an_rule_Table xs else none
theorem ok_rule_Table (n : Nat) : SemOk Tryd.prog DW 13 (sem_rule_Table n) := fun xs y h => by
  unfold sem_rule_Table at h
  split at h
  · rename_i hl
    exact denF_ok stb Tryd.func13 (by kernel_rfl) (envOf_ok (semsOk_cons (ok_rule_Check n) (semsOk_cons (ok_slices_ContainsFunc_api_Table_api_Rule (envOf_ok (semsOk_cons (ok_rule_Table_1 n) semsOk_nil)) n) (semsOk_cons (ok_rule_Table_1 n) semsOk_nil)))) (by rw [Tryd.ntmps13]; exact hl) h
  · cases h
theorem eq_rule_Table (n : Nat) (x0 : V) : sem_rule_Table n [x0] =
 (lenS [x0]).bind fun v1 =>
 (bin2 Tryd.prog BinOp.gtr 3 (ot 7) (oc 12) v1 (vi 12)).bind fun v2 =>
 condV v2 (
 (scal1 Tryd.prog (Instr.makeInterface 58) (vi 4)).bind fun v3 =>
 some v3) (
 (lenS [x0]).bind fun v4 =>
 JoinPt (fun vs5 =>
 some vn) fun J6 =>
 (fixN (fun rec7 vs8 =>
 (bin2 Tryd.prog BinOp.lss 3 (ot 12) (ot 11) (List.getD vs8 0 V.any) v4).bind fun v9 =>
 condV v9 (
 (idxS 6 x0 (List.getD vs8 0 V.any)).bind fun v10 =>
 (ldp (some 6) v10).bind fun v11 =>
 (spliceV [(vi 0), (vi 0), (vi 0), (vi 0), (vi 0), (vi 0)] 0 6 v11).bind fun v12 =>
 (ldp (some 6) (V.ptr (aggL v12))).bind fun v13 =>
 ((sem_rule_Check n) [v13]).bind fun v14 =>
 (bin2 Tryd.prog BinOp.neq 31 (ot 19) (Operand.const Go.Value.nilIface) v14 vn).bind fun v15 =>
 condV v15 (
 some v14) (
 (slc (some 6) x0 none (some (List.getD vs8 0 V.any))).bind fun v16 =>
 ((sem_slices_ContainsFunc_api_Table_api_Rule (envOf [(25, (sem_rule_Table_1 n))]) n) [v16, (V.fn 25 [(V.ptr (aggL v12))])]).bind fun v17 =>
 condV v17 (
 (scal1 Tryd.prog (Instr.makeInterface 58) (vi 7)).bind fun v18 =>
 some v18) (
 (bin2 Tryd.prog BinOp.add 3 (ot 12) (oc 1) (List.getD vs8 0 V.any) (vi 1)).bind fun v19 =>
 rec7 [v19]))) (
 J6 [])) n) [(vi 0)]) := by kernel_rfl
noncomputable def t_rule_Table (a0 : (List T_Rule)) : Option Int :=
 if (decide (12 < (List.length a0 : Int))) = true then (
 some 4) else (
 join (fun (s8 : Unit) =>
 some 0) fun j9 =>
 loopI a0 (fun (i17 : Int) x18 (s13 : Unit) k14 =>
 (t_rule_Check x18).bind fun r28 =>
 if (!decide (r28 = 0)) = true then (
 some r28) else (
 (slc_hi a0 i17).bind fun r32 =>
 (t_slices_ContainsFunc_api_Table_api_Rule r32 (fun (a33 : T_Rule) => t_rule_Table_1 a33 x18)).bind fun r35 =>
 if r35 = true then (
 some 7) else (
 k14 ()))) (fun (s13 : Unit) =>
 j9 ()) ())
theorem ty_rule_Table {n : Nat} (hn : bigN ≤ n) (a0 : (List T_Rule)) : Rv (fun x : Int => (eV x)) (sem_rule_Table n [(V.sl (List.map T_Rule.c a0))]) (t_rule_Table a0) := by
  rw [eq_rule_Table]
  unfold t_rule_Table
  refine tb (x := (vi (List.length a0 : Int))) (p_len _) ?_
  refine tb (x := (vb (decide (12 < (List.length a0 : Int))))) (d_gtr) ?_
  refine tcond (fun h3 => ?_) (fun h3 => ?_)
  · refine tb (x := (eV 4)) (p_mkE (by decide)) ?_
    exact rf_ret rfl
  · refine tb (x := (vi (List.length a0 : Int))) (p_len _) ?_
    refine tjoin (mk := fun s8 : Unit => []) (fun s8 => ?_) fun J7 j9 h10 => ?_
    · exact rf_ret rfl
    · refine rf_loopI (mk := fun (i17 : Int) (s13 : Unit) => [(vi (i17 : Int))]) hn a0 () (fun i17 x18 h19 h20 h21 s13 rec11 k14 h15 => ?_) (fun s13 rec40 h39 => ?_)
      · refine tb (x := (vb (decide ((i17 : Int) < (List.length a0 : Int))))) (d_lss) ?_
        refine tcond_t h21 ?_
        refine tb (x := (V.ptr (T_Rule.c x18))) (p_idx_at (c := T_Rule.c) (fun _ => rfl) h19) ?_
        refine tb (x := (T_Rule.e x18)) (rfl) ?_
        refine tb (x := V.agg (T_Rule.c x18)) (by kernel_rfl) ?_
        refine tb (x := (T_Rule.e x18)) (rfl) ?_
        refine tbo (ty_rule_Check hn x18) fun r28 => ?_
        refine tb (x := (vb (!decide (r28 = 0)))) (p_err_neq _) ?_
        refine tcond (fun h30 => ?_) (fun h30 => ?_)
        · exact rf_ret rfl
        · refine tbo (p_slc_hi (c := T_Rule.c) (fun _ => rfl) a0 (i17 : Int)) fun r32 => ?_
          refine tbo (ty_slices_ContainsFunc_api_Table_api_Rule (E := (envOf [(25, (sem_rule_Table_1 n))])) (x1 := (V.fn 25 [(V.ptr (T_Rule.c x18))])) (g1 := (fun (a33 : T_Rule) => t_rule_Table_1 a33 x18)) hn r32 (fun a33 => ty_rule_Table_1 hn a33 x18)) fun r35 => ?_
          refine tcond (fun h36 => ?_) (fun h36 => ?_)
          · refine tb (x := (eV 7)) (p_mkE (by decide)) ?_
            exact rf_ret rfl
          · refine tb (x := (vi ((i17 : Int) + 1))) (p_incN h20) ?_
            exact h15 ()
      · refine tb (x := (vb (decide ((List.length a0 : Int) < (List.length a0 : Int))))) (d_lss) ?_
        refine tcond_f h39 ?_
        exact h10 ()

/-! railpoint/net.Check -/
def an_net_Check : Ann := .seq (.reg 0 [] [] []) (.seq (.seq (.reg 0 [] [] []) (.seq (.reg 0 [] [] []) (.cond none (.seq (.reg 0 [] [] []) (.no)) (.no)))) (.seq (.seq (.reg 0 [] [] []) (.cond none (.seq (.reg 0 [] [] []) (.no)) (.no))) (.seq (.seq (.reg 0 [] [] []) (.blk (some []) (.loop [.s 24] (.seq (.reg 0 [] [] []) (.seq (.cond none (.no) (.no)) (.seq (.blk none (.seq (.reg 0 [] [] []) (.seq (.reg 0 [] [] []) (.seq (.reg 0 [] [] []) (.cond none (.seq (.reg 0 [] [] []) (.no)) (.no)))))) (.reg 0 [] [] []))))))) (.seq (.reg 0 [] [] []) (.no)))))
noncomputable def sem_net_Check (n : Nat) (xs : List V) : Option V := if xs.length ≤ 34 then denF Tryd.prog (envOf [(12, (sem_topo_Check n)), (13, (sem_rule_Table n))]) n Tryd.f5 an_net_Check xs else none
theorem ok_net_Check (n : Nat) : SemOk Tryd.prog DW 5 (sem_net_Check n) := fun xs y h => by
  unfold sem_net_Check at h
  split at h
  · rename_i hl
    exact denF_ok stb Tryd.func5 (by kernel_rfl) (envOf_ok (semsOk_cons (ok_topo_Check n) (semsOk_cons (ok_rule_Table n) semsOk_nil))) (by rw [Tryd.ntmps5]; exact hl) h
  · cases h
theorem eq_net_Check (n : Nat) (x0 : V) : sem_net_Check n [x0] =
 (V.cellsO x0).bind fun v1 =>
 (ldk (some 3) (List.drop 0 v1)).bind fun v2 =>
 ((sem_topo_Check n) [v2]).bind fun v3 =>
 (bin2 Tryd.prog BinOp.neq 31 (ot 10) (Operand.const Go.Value.nilIface) v3 vn).bind fun v4 =>
 condV v4 (
 some v3) (
 (ldk none (List.drop 3 v1)).bind fun v5 =>
 (lenS [v5]).bind fun v6 =>
 (ldk none (List.drop 0 v1)).bind fun v7 =>
 (bin2 Tryd.prog BinOp.neq 3 (ot 15) (ot 18) v6 v7).bind fun v8 =>
 condV v8 (
 (scal1 Tryd.prog (Instr.makeInterface 58) (vi 3)).bind fun v9 =>
 some v9) (
 (ldk none (List.drop 3 v1)).bind fun v10 =>
 (lenS [v10]).bind fun v11 =>
 JoinPt (fun vs12 =>
 some vn) fun J13 =>
 (fixN (fun rec14 vs15 =>
 (bin2 Tryd.prog BinOp.lss 3 (ot 24) (ot 23) (List.getD vs15 0 V.any) v11).bind fun v16 =>
 condV v16 (
 (idxS 1 v10 (List.getD vs15 0 V.any)).bind fun v17 =>
 (ldp none v17).bind fun v18 =>
 ((sem_rule_Table n) [v18]).bind fun v19 =>
 (bin2 Tryd.prog BinOp.neq 31 (ot 30) (Operand.const Go.Value.nilIface) v19 vn).bind fun v20 =>
 condV v20 (
 some v19) (
 (bin2 Tryd.prog BinOp.add 3 (ot 24) (oc 1) (List.getD vs15 0 V.any) (vi 1)).bind fun v21 =>
 rec14 [v21])) (
 J13 [])) n) [(vi 0)])) := by kernel_rfl
noncomputable def t_net_Check (a0 : T_Net) : Option Int :=
 (t_topo_Check a0.Topo).bind fun r4 =>
 if (!decide (r4 = 0)) = true then (
 some r4) else (
 if (decide ((List.length a0.Tables : Int) ≠ a0.Topo.Switches)) = true then (
 some 3) else (
 join (fun (s17 : Unit) =>
 some 0) fun j18 =>
 loopI a0.Tables (fun (i26 : Int) x27 (s22 : Unit) k23 =>
 (t_rule_Table x27).bind fun r35 =>
 if (!decide (r35 = 0)) = true then (
 some r35) else (
 k23 ())) (fun (s22 : Unit) =>
 j18 ()) ()))
theorem ty_net_Check {n : Nat} (hn : bigN ≤ n) (a0 : T_Net) : Rv (fun x : Int => (eV x)) (sem_net_Check n [(T_Net.e a0)]) (t_net_Check a0) := by
  rw [eq_net_Check]
  unfold t_net_Check
  refine tb (x := (T_Net.c a0)) rfl ?_
  refine tb (x := (T_Topo.e a0.Topo)) (rfl) ?_
  refine tbo (ty_topo_Check hn a0.Topo) fun r4 => ?_
  refine tb (x := (vb (!decide (r4 = 0)))) (p_err_neq _) ?_
  refine tcond (fun h6 => ?_) (fun h6 => ?_)
  · exact rf_ret rfl
  · refine tb (x := (V.sl (List.map (cS T_Rule.c) a0.Tables))) (rfl) ?_
    refine tb (x := (vi (List.length a0.Tables : Int))) (p_len _) ?_
    refine tb (x := (vi a0.Topo.Switches)) (rfl) ?_
    refine tb (x := (vb (decide ((List.length a0.Tables : Int) ≠ a0.Topo.Switches)))) (d_neq) ?_
    refine tcond (fun h11 => ?_) (fun h11 => ?_)
    · refine tb (x := (eV 3)) (p_mkE (by decide)) ?_
      exact rf_ret rfl
    · refine tb (x := (V.sl (List.map (cS T_Rule.c) a0.Tables))) (rfl) ?_
      refine tb (x := (vi (List.length a0.Tables : Int))) (p_len _) ?_
      refine tjoin (mk := fun s17 : Unit => []) (fun s17 => ?_) fun J16 j18 h19 => ?_
      · exact rf_ret rfl
      · refine rf_loopI (mk := fun (i26 : Int) (s22 : Unit) => [(vi (i26 : Int))]) hn a0.Tables () (fun i26 x27 h28 h29 h30 s22 rec20 k23 h24 => ?_) (fun s22 rec40 h39 => ?_)
        · refine tb (x := (vb (decide ((i26 : Int) < (List.length a0.Tables : Int))))) (d_lss) ?_
          refine tcond_t h30 ?_
          refine tb (x := (V.ptr [(V.sl (List.map T_Rule.c x27))])) (p_idx_at (c := (cS T_Rule.c)) (fun _ => rfl) h28) ?_
          refine tb (x := (V.sl (List.map T_Rule.c x27))) (rfl) ?_
          refine tbo (ty_rule_Table hn x27) fun r35 => ?_
          refine tb (x := (vb (!decide (r35 = 0)))) (p_err_neq _) ?_
          refine tcond (fun h37 => ?_) (fun h37 => ?_)
          · exact rf_ret rfl
          · refine tb (x := (vi ((i26 : Int) + 1))) (p_incN h29) ?_
            exact h24 ()
        · refine tb (x := (vb (decide ((List.length a0.Tables : Int) < (List.length a0.Tables : Int))))) (d_lss) ?_
          refine tcond_f h39 ?_
          exact h19 ()

/-! slices.IndexFunc   railpoint/api.Host railpoint/api.Host  -/
def an_slices_IndexFunc_api_Host_api_Host : Ann := .seq (.reg 0 [] [] []) (.seq (.seq (.reg 0 [] [] []) (.blk (some []) (.loop [.s 8] (.seq (.reg 0 [] [] []) (.seq (.cond none (.no) (.no)) (.seq (.blk none (.seq (.reg 0 [] [] []) (.seq (.reg 0 [] [] []) (.cond none (.seq (.reg 0 [] [] []) (.no)) (.no))))) (.reg 0 [] [] []))))))) (.seq (.reg 0 [] [] []) (.no)))
noncomputable def sem_slices_IndexFunc_api_Host_api_Host (E : FuncId → List V → Option V) (n : Nat) (xs : List V) : Option V := if xs.length ≤ 19 then denF Tryd.prog (envJ [] E) n Tryd.f34 an_slices_IndexFunc_api_Host_api_Host xs else none
theorem ok_slices_IndexFunc_api_Host_api_Host {E : FuncId → List V → Option V} (hE : EnvOk Tryd.prog DW E) (n : Nat) : SemOk Tryd.prog DW 34 (sem_slices_IndexFunc_api_Host_api_Host E n) := fun xs y h => by
  unfold sem_slices_IndexFunc_api_Host_api_Host at h
  split at h
  · rename_i hl
    exact denF_ok stb Tryd.func34 (by kernel_rfl) (envJ_ok semsOk_nil hE) (by rw [Tryd.ntmps34]; exact hl) h
  · cases h
theorem eq_slices_IndexFunc_api_Host_api_Host (E : FuncId → List V → Option V) (n : Nat) (x0 x1 : V) : sem_slices_IndexFunc_api_Host_api_Host E n [x0, x1] =
 (lenS [x0]).bind fun v1 =>
 JoinPt (fun vs2 =>
 some (vi (-1 : Int))) fun J3 =>
 (fixN (fun rec4 vs5 =>
 (bin2 Tryd.prog BinOp.lss 3 (ot 8) (ot 7) (List.getD vs5 0 V.any) v1).bind fun v6 =>
 condV v6 (
 (idxS 3 x0 (List.getD vs5 0 V.any)).bind fun v7 =>
 (ldp (some 3) v7).bind fun v8 =>
 (callV (envJ [] E) x1 [v8]).bind fun v9 =>
 condV v9 (
 some (List.getD vs5 0 V.any)) (
 (bin2 Tryd.prog BinOp.add 3 (ot 8) (oc 1) (List.getD vs5 0 V.any) (vi 1)).bind fun v10 =>
 rec4 [v10])) (
 J3 [])) n) [(vi 0)] := by kernel_rfl
noncomputable def t_slices_IndexFunc_api_Host_api_Host (a0 : (List T_Host)) (g1 : T_Host → Option Bool) : Option Int :=
 join (fun (s4 : Unit) =>
 some (-1 : Int)) fun j5 =>
 loopI a0 (fun (i13 : Int) x14 (s9 : Unit) k10 =>
 (g1 x14).bind fun r22 =>
 if r22 = true then (
 some i13) else (
 k10 ())) (fun (s9 : Unit) =>
 j5 ()) ()
theorem ty_slices_IndexFunc_api_Host_api_Host {E : FuncId → List V → Option V} {n : Nat} (hn : bigN ≤ n) (a0 : (List T_Host)) {x1 : V} {g1 : T_Host → Option Bool} (hg_g1 : ∀ a0, Rv (fun x : Bool => (vb x)) (callV E x1 [(T_Host.e a0)]) (g1 a0)) : Rv (fun x : Int => (vi x)) (sem_slices_IndexFunc_api_Host_api_Host E n [(V.sl (List.map T_Host.c a0)), x1]) (t_slices_IndexFunc_api_Host_api_Host a0 g1) := by
  rw [eq_slices_IndexFunc_api_Host_api_Host]
  unfold t_slices_IndexFunc_api_Host_api_Host
  refine tb (x := (vi (List.length a0 : Int))) (p_len _) ?_
  refine tjoin (mk := fun s4 : Unit => []) (fun s4 => ?_) fun J3 j5 h6 => ?_
  · exact rf_ret rfl
  · refine rf_loopI (mk := fun (i13 : Int) (s9 : Unit) => [(vi (i13 : Int))]) hn a0 () (fun i13 x14 h15 h16 h17 s9 rec7 k10 h11 => ?_) (fun s9 rec26 h25 => ?_)
    · refine tb (x := (vb (decide ((i13 : Int) < (List.length a0 : Int))))) (d_lss) ?_
      refine tcond_t h17 ?_
      refine tb (x := (V.ptr (T_Host.c x14))) (p_idx_at (c := T_Host.c) (fun _ => rfl) h15) ?_
      refine tb (x := (T_Host.e x14)) (rfl) ?_
      refine tbo ((callV_J0 ▸ hg_g1 x14)) fun r22 => ?_
      refine tcond (fun h23 => ?_) (fun h23 => ?_)
      · exact rf_ret rfl
      · refine tb (x := (vi ((i13 : Int) + 1))) (p_incN h16) ?_
        exact h11 ()
    · refine tb (x := (vb (decide ((List.length a0 : Int) < (List.length a0 : Int))))) (d_lss) ?_
      refine tcond_f h25 ?_
      exact h6 ()

/-! railpoint/topo.Where$1 -/
def an_topo_Where_1 : Ann := .seq (.reg 0 [] [] []) (.seq (.reg 0 [] [] []) (.no))
noncomputable def sem_topo_Where_1 (n : Nat) (xs : List V) : Option V := if xs.length ≤ 8 then denF Tryd.prog (envOf []) n Tryd.f35 an_topo_Where_1 xs else none
theorem ok_topo_Where_1 (n : Nat) : SemOk Tryd.prog DW 35 (sem_topo_Where_1 n) := fun xs y h => by
  unfold sem_topo_Where_1 at h
  split at h
  · rename_i hl
    exact denF_ok stb Tryd.func35 (by kernel_rfl) (envOf_ok semsOk_nil) (by rw [Tryd.ntmps35]; exact hl) h
  · cases h
theorem eq_topo_Where_1 (n : Nat) (x0 x1 : V) : sem_topo_Where_1 n [x0, x1] =
 (V.cellsO x0).bind fun v1 =>
 (ldk none (List.drop 0 v1)).bind fun v2 =>
 (ldp none x1).bind fun v3 =>
 (bin2 Tryd.prog BinOp.eql 9 (ot 5) (ot 6) v2 v3).bind fun v4 =>
 some v4 := by kernel_rfl
noncomputable def t_topo_Where_1 (a0 : T_Host) (a1 : ByteArray) : Option Bool :=
 some (decide (a0.Name = a1))
theorem ty_topo_Where_1 {n : Nat} (hn : bigN ≤ n) (a0 : T_Host) (a1 : ByteArray) : Rv (fun x : Bool => (vb x)) (sem_topo_Where_1 n [(T_Host.e a0), (V.ptr [(vt a1)])]) (t_topo_Where_1 a0 a1) := by
  rw [eq_topo_Where_1]
  unfold t_topo_Where_1
  refine tb (x := (T_Host.c a0)) rfl ?_
  refine tb (x := (vt a0.Name)) (rfl) ?_
  refine tb (x := (vt a1)) (rfl) ?_
  refine tb (x := (vb (decide (a0.Name = a1)))) (p_eql_str) ?_
  exact rf_ret rfl

/-! railpoint/topo.Where -/
def an_topo_Where : Ann := .seq (.reg 0 [] [] []) (.seq (.seq (.reg 0 [3] [] []) (.seq (.reg 0 [] [] []) (.cond none (.seq (.reg 0 [] [] []) (.no)) (.no)))) (.seq (.reg 0 [] [] []) (.seq (.seq (.reg 0 [] [] []) (.cond none (.seq (.reg 0 [] [] []) (.no)) (.no))) (.seq (.reg 0 [] [] []) (.no)))))
noncomputable def sem_topo_Where (n : Nat) (xs : List V) : Option V := if xs.length ≤ 28 then denF Tryd.prog (envOf [(12, (sem_topo_Check n)), (34, (sem_slices_IndexFunc_api_Host_api_Host (envOf [(35, (sem_topo_Where_1 n))]) n)), (35, (sem_topo_Where_1 n))]) n Tryd.f27 an_topo_Where xs else none
theorem ok_topo_Where (n : Nat) : SemOk Tryd.prog DW 27 (sem_topo_Where n) := fun xs y h => by
  unfold sem_topo_Where at h
  split at h
  · rename_i hl
    exact denF_ok stb Tryd.func27 (by kernel_rfl) (envOf_ok (semsOk_cons (ok_topo_Check n) (semsOk_cons (ok_slices_IndexFunc_api_Host_api_Host (envOf_ok (semsOk_cons (ok_topo_Where_1 n) semsOk_nil)) n) (semsOk_cons (ok_topo_Where_1 n) semsOk_nil)))) (by rw [Tryd.ntmps27]; exact hl) h
  · cases h
theorem eq_topo_Where (n : Nat) (x0 x1 : V) : sem_topo_Where n [x0, x1] =
 (V.cellsO x0).bind fun v1 =>
 (V.cellsO x1).bind fun v2 =>
 (ldk (some 3) (List.drop 0 v1)).bind fun v3 =>
 ((sem_topo_Check n) [v3]).bind fun v4 =>
 (bin2 Tryd.prog BinOp.neq 31 (ot 10) (Operand.const Go.Value.nilIface) v4 vn).bind fun v5 =>
 condV v5 (
 ((fillL [(vi 0), (vi 0)] []).map V.agg).bind fun v6 =>
 (spliceV [(vi 0), (vi 0)] 0 2 v6).bind fun v7 =>
 (ldk (some 2) (List.drop 0 (aggL v7))).bind fun v8 =>
 some (V.tup [v8, v4])) (
 (ldk none (List.drop 2 v1)).bind fun v9 =>
 ((sem_slices_IndexFunc_api_Host_api_Host (envOf [(35, (sem_topo_Where_1 n))]) n) [v9, (V.fn 35 [(V.ptr v2)])]).bind fun v10 =>
 (bin2 Tryd.prog BinOp.lss 3 (ot 18) (oc 0) v10 (vi 0)).bind fun v11 =>
 condV v11 (
 ((fillL [(vi 0), (vi 0)] []).map V.agg).bind fun v12 =>
 (scal1 Tryd.prog (Instr.makeInterface 58) (vi 5)).bind fun v13 =>
 (spliceV [(vi 0), (vi 0)] 0 2 v12).bind fun v14 =>
 (ldk (some 2) (List.drop 0 (aggL v14))).bind fun v15 =>
 some (V.tup [v15, v13])) (
 (ldk none (List.drop 2 v1)).bind fun v16 =>
 (idxS 3 v16 v10).bind fun v17 =>
 (ptrF 1 v17).bind fun v18 =>
 (ldp (some 2) v18).bind fun v19 =>
 (spliceV [(vi 0), (vi 0)] 0 2 v19).bind fun v20 =>
 (ldk (some 2) (List.drop 0 (aggL v20))).bind fun v21 =>
 some (V.tup [v21, vn]))) := by kernel_rfl
noncomputable def t_topo_Where (a0 : T_Topo) (a1 : ByteArray) : Option (T_Spot × Int) :=
 (t_topo_Check a0).bind fun r5 =>
 if (!decide (r5 = 0)) = true then (
 some ((T_Spot.mk 0 0), r5)) else (
 (t_slices_IndexFunc_api_Host_api_Host a0.Hosts (fun (a12 : T_Host) => t_topo_Where_1 a12 a1)).bind fun r14 =>
 if (decide (r14 < 0)) = true then (
 some ((T_Spot.mk 0 0), 5)) else (
 (idx a0.Hosts r14).bind fun r23 =>
 some (r23.At, 0)))
theorem ty_topo_Where {n : Nat} (hn : bigN ≤ n) (a0 : T_Topo) (a1 : ByteArray) : Rv (fun x : (T_Spot × Int) => V.tup [(T_Spot.e x.1), (eV x.2)]) (sem_topo_Where n [(T_Topo.e a0), (vt a1)]) (t_topo_Where a0 a1) := by
  rw [eq_topo_Where]
  unfold t_topo_Where
  refine tb (x := (T_Topo.c a0)) rfl ?_
  refine tb (x := [(vt a1)]) rfl ?_
  refine tb (x := (T_Topo.e a0)) (rfl) ?_
  refine tbo (ty_topo_Check hn a0) fun r5 => ?_
  refine tb (x := (vb (!decide (r5 = 0)))) (p_err_neq _) ?_
  refine tcond (fun h7 => ?_) (fun h7 => ?_)
  · refine tb (x := (T_Spot.e (T_Spot.mk 0 0))) (by kernel_rfl) ?_
    refine tb (x := V.agg (T_Spot.c (T_Spot.mk 0 0))) (by kernel_rfl) ?_
    refine tb (x := (T_Spot.e (T_Spot.mk 0 0))) rfl ?_
    exact rf_ret rfl
  · refine tb (x := (V.sl (List.map T_Host.c a0.Hosts))) (rfl) ?_
    refine tbo (ty_slices_IndexFunc_api_Host_api_Host (E := (envOf [(35, (sem_topo_Where_1 n))])) (x1 := (V.fn 35 [(V.ptr [(vt a1)])])) (g1 := (fun (a12 : T_Host) => t_topo_Where_1 a12 a1)) hn a0.Hosts (fun a12 => ty_topo_Where_1 hn a12 a1)) fun r14 => ?_
    refine tb (x := (vb (decide (r14 < 0)))) (d_lss) ?_
    refine tcond (fun h16 => ?_) (fun h16 => ?_)
    · refine tb (x := (T_Spot.e (T_Spot.mk 0 0))) (by kernel_rfl) ?_
      refine tb (x := (eV 5)) (p_mkE (by decide)) ?_
      refine tb (x := V.agg (T_Spot.c (T_Spot.mk 0 0))) (by kernel_rfl) ?_
      refine tb (x := (T_Spot.e (T_Spot.mk 0 0))) rfl ?_
      exact rf_ret rfl
    · refine tb (x := (V.sl (List.map T_Host.c a0.Hosts))) (rfl) ?_
      refine tbo (p_idx (c := T_Host.c) (fun _ => rfl) a0.Hosts r14) fun r23 => ?_
      refine tb (x := (V.ptr (List.drop 1 (T_Host.c r23)))) (rfl) ?_
      refine tb (x := (T_Spot.e r23.At)) (rfl) ?_
      refine tb (x := V.agg (T_Spot.c r23.At)) (by kernel_rfl) ?_
      refine tb (x := (T_Spot.e r23.At)) rfl ?_
      exact rf_ret rfl

/-! railpoint/wish.one -/
def an_wish_one : Ann := .seq (.reg 0 [] [] []) (.seq (.blk none (.seq (.seq (.reg 0 [] [] []) (.cond (some [.kb 2, .kb 3, .s 9]) (.no) (.seq (.reg 0 [] [] []) (.cond (some [.kb 2, .kb 3, .s 9]) (.no) (.reg 0 [] [] []))))) (.cond none (.seq (.reg 0 [] [] []) (.no)) (.seq (.reg 0 [] [] []) (.cond none (.seq (.reg 0 [] [] []) (.no)) (.seq (.reg 0 [] [] []) (.cond none (.seq (.reg 0 [] [] []) (.no)) (.no)))))))) (.seq (.seq (.reg 0 [] [] []) (.blk (some []) (.loop [.kb 2, .s 63] (.seq (.reg 0 [] [] []) (.seq (.cond none (.no) (.no)) (.seq (.blk none (.seq (.reg 0 [] [] []) (.seq (.reg 0 [] [] []) (.seq (.reg 0 [] [] []) (.cond none (.seq (.reg 0 [] [] []) (.no)) (.no)))))) (.reg 0 [] [] []))))))) (.seq (.reg 0 [] [] []) (.no))))
noncomputable def sem_wish_one (n : Nat) (xs : List V) : Option V := if xs.length ≤ 77 then denF Tryd.prog (envOf [(18, (sem_wish_kind n)), (27, (sem_topo_Where n))]) n Tryd.f14 an_wish_one xs else none
theorem ok_wish_one (n : Nat) : SemOk Tryd.prog DW 14 (sem_wish_one n) := fun xs y h => by
  unfold sem_wish_one at h
  split at h
  · rename_i hl
    exact denF_ok stb Tryd.func14 (by kernel_rfl) (envOf_ok (semsOk_cons (ok_wish_kind n) (semsOk_cons (ok_topo_Where n) semsOk_nil))) (by rw [Tryd.ntmps14]; exact hl) h
  · cases h
theorem eq_wish_one (n : Nat) (x0 x1 : V) : sem_wish_one n [x0, x1] =
 (V.cellsO x0).bind fun v1 =>
 (V.cellsO x1).bind fun v2 =>
 (ldk none (List.drop 0 v2)).bind fun v3 =>
 ((sem_wish_kind n) [v3]).bind fun v4 =>
 (scal1 Tryd.prog (Op.unary Go.UnOp.not) v4).bind fun v5 =>
 JoinPt (fun vs6 =>
 condV (List.getD vs6 0 V.any) (
 (scal1 Tryd.prog (Instr.makeInterface 58) (vi 1)).bind fun v8 =>
 some v8) (
 (ldk none (List.drop 0 v2)).bind fun v9 =>
 (bin2 Tryd.prog BinOp.eql 3 (ot 40) (oc 4) v9 (vi 4)).bind fun v10 =>
 (guardV v10 true (some V.any)).bind fun v11 =>
 (guardV v10 true ((gate v10 true (ldk none (List.drop 1 v2))).bind fun v12 =>
 some v12)).bind fun v13 =>
 (guardV v10 true ((bin2 Tryd.prog BinOp.neq 9 (ot 44) (Operand.const (Go.Value.string (ByteArray.mk #[]))) v13 (V.lit (Go.Value.string (ByteArray.mk #[])))).bind fun v14 =>
 some v14)).bind fun v15 =>
 (guardV v10 true (some v15)).bind fun v16 =>
 (guardV v16 false (some V.any)).bind fun v17 =>
 (guardV v16 false ((gate v16 false (ldk none (List.drop 2 v2))).bind fun v18 =>
 some v18)).bind fun v19 =>
 (guardV v16 false ((bin2 Tryd.prog BinOp.neq 9 (ot 48) (Operand.const (Go.Value.string (ByteArray.mk #[]))) v19 (V.lit (Go.Value.string (ByteArray.mk #[])))).bind fun v20 =>
 some v20)).bind fun v21 =>
 (guardV v10 true ((pickV v16 (vb true) v21).bind fun v22 =>
 some v22)).bind fun v23 =>
 (pickV v10 v23 (vb false)).bind fun v24 =>
 condV v24 (
 (scal1 Tryd.prog (Instr.makeInterface 58) (vi 3)).bind fun v25 =>
 some v25) (
 (ldk none (List.drop 0 v2)).bind fun v26 =>
 (bin2 Tryd.prog BinOp.eql 3 (ot 55) (oc 4) v26 (vi 4)).bind fun v27 =>
 condV v27 (
 some vn) (
 (ldk none (List.drop 1 v2)).bind fun v28 =>
 (ldk none (List.drop 2 v2)).bind fun v29 =>
 (slcB 1 2 [(V.lit (Go.Value.string (ByteArray.mk #[])))] [(0, v28), (1, v29)]).bind fun v30 =>
 (lenS [v30]).bind fun v31 =>
 JoinPt (fun vs32 =>
 some vn) fun J33 =>
 (keepO (some v1) (some v1) (some [(vi 0)])).bind (fixN (fun rec34 vs35 =>
 (bin2 Tryd.prog BinOp.lss 3 (ot 63) (ot 62) (List.getD vs35 0 V.any) v31).bind fun v36 =>
 condV v36 (
 (idxS 1 v30 (List.getD vs35 0 V.any)).bind fun v37 =>
 (ldp none v37).bind fun v38 =>
 (ldk (some 3) (List.drop 0 v1)).bind fun v39 =>
 ((sem_topo_Where n) [v39, v38]).bind fun v40 =>
 (extractV v40 0).bind fun v41 =>
 (extractV v40 1).bind fun v42 =>
 (spliceV [(vi 0), (vi 0)] 0 2 v41).bind fun v43 =>
 (bin2 Tryd.prog BinOp.neq 31 (ot 73) (Operand.const Go.Value.nilIface) v42 vn).bind fun v44 =>
 condV v44 (
 some v42) (
 (bin2 Tryd.prog BinOp.add 3 (ot 63) (oc 1) (List.getD vs35 0 V.any) (vi 1)).bind fun v45 =>
 (keepO (some v1) (some v1) (some [v45])).bind rec34)) (
 J33 [])) n))))) fun J7 =>
 condV v5 (
 (keepO (some v1) (some v1) (keepO (some v2) (some v2) (some [v5]))).bind J7) (
 (ldk none (List.drop 0 v2)).bind fun v46 =>
 (bin2 Tryd.prog BinOp.eql 3 (ot 15) (oc 3) v46 (vi 3)).bind fun v47 =>
 (guardV v47 true (some V.any)).bind fun v48 =>
 (guardV v47 true ((gate v47 true (ldk none (List.drop 3 v2))).bind fun v49 =>
 some v49)).bind fun v50 =>
 (guardV v47 true ((bin2 Tryd.prog BinOp.lss 3 (ot 19) (oc 1) v50 (vi 1)).bind fun v51 =>
 some v51)).bind fun v52 =>
 (guardV v47 true (some v52)).bind fun v53 =>
 (guardV v53 false (some V.any)).bind fun v54 =>
 (guardV v53 false ((gate v53 false (ldk none (List.drop 3 v2))).bind fun v55 =>
 some v55)).bind fun v56 =>
 (guardV v53 false (some V.any)).bind fun v57 =>
 (guardV v53 false ((gate v53 false (ldk none (List.drop 0 v1))).bind fun v58 =>
 some v58)).bind fun v59 =>
 (guardV v53 false ((bin2 Tryd.prog BinOp.gtr 3 (ot 23) (ot 25) v56 v59).bind fun v60 =>
 some v60)).bind fun v61 =>
 (guardV v47 true ((pickV v53 (vb true) v61).bind fun v62 =>
 some v62)).bind fun v63 =>
 (pickV v47 v63 (vb false)).bind fun v64 =>
 JoinPt (fun vs65 =>
 (keepO (some v1) (some v1) (keepO (some v2) (some v2) (some [(List.getD vs65 0 V.any)]))).bind J7) fun J66 =>
 condV v64 (
 (keepO (some v1) (some v1) (keepO (some v2) (some v2) (some [v64]))).bind J66) (
 (ldk none (List.drop 0 v2)).bind fun v67 =>
 (bin2 Tryd.prog BinOp.neq 3 (ot 30) (oc 3) v67 (vi 3)).bind fun v68 =>
 (guardV v68 true (some V.any)).bind fun v69 =>
 (guardV v68 true ((gate v68 true (ldk none (List.drop 3 v2))).bind fun v70 =>
 some v70)).bind fun v71 =>
 (guardV v68 true ((bin2 Tryd.prog BinOp.neq 3 (ot 34) (oc 0) v71 (vi 0)).bind fun v72 =>
 some v72)).bind fun v73 =>
 (pickV v68 v73 (vb false)).bind fun v74 =>
 (keepO (some v1) (some v1) (keepO (some v2) (some v2) (some [v74]))).bind J66)) := by kernel_rfl
noncomputable def t_wish_one (a0 : T_Topo) (a1 : T_Wish) : Option Int :=
 (t_wish_kind a1.What).bind fun r5 =>
 (if (!r5) = true then (
 some (!r5)) else (
 (if ((decide (a1.What = 3)) && ((decide (a1.Via < 1)) || (decide (a0.Switches < a1.Via)))) = true then (
 some ((decide (a1.What = 3)) && ((decide (a1.Via < 1)) || (decide (a0.Switches < a1.Via))))) else (
 some ((decide (a1.What ≠ 3)) && (decide (a1.Via ≠ 0))))).bind fun (s110 : Bool) =>
 some (s110))).bind fun (s9 : Bool) =>
 if s9 = true then (
 some 1) else (
 if ((decide (a1.What = 4)) && ((!decide (a1.From = (ByteArray.mk #[]))) || (!decide (a1.To = (ByteArray.mk #[]))))) = true then (
 some 3) else (
 if (decide (a1.What = 4)) = true then (
 some 0) else (
 join (fun (s49 : Unit) =>
 some 0) fun j50 =>
 loopI ([a1.From, a1.To] : (List ByteArray)) (fun (i58 : Int) x59 (s54 : Unit) k55 =>
 (t_topo_Where a0 x59).bind fun r68 =>
 if (!decide (r68.2 = 0)) = true then (
 some r68.2) else (
 k55 ())) (fun (s54 : Unit) =>
 j50 ()) ())))
theorem ty_wish_one {n : Nat} (hn : bigN ≤ n) (a0 : T_Topo) (a1 : T_Wish) : Rv (fun x : Int => (eV x)) (sem_wish_one n [(T_Topo.e a0), (T_Wish.e a1)]) (t_wish_one a0 a1) := by
  rw [eq_wish_one]
  unfold t_wish_one
  refine tb (x := (T_Topo.c a0)) rfl ?_
  refine tb (x := (T_Wish.c a1)) rfl ?_
  refine tb (x := (vi a1.What)) (rfl) ?_
  refine tbo (ty_wish_kind hn a1.What) fun r5 => ?_
  refine tb (x := (vb (!r5))) (d_not) ?_
  refine tjb (mk := fun s9 : Bool => [(vb s9)]) (fun J8 => ?_) fun s9 => ?_
  · refine tcond (fun h78 => ?_) (fun h78 => ?_)
    · refine tkeepO2 ?_ rfl
      refine tkeepO2 ?_ rfl
      refine tsome ?_
      exact rf_j rfl
    · refine tb (x := (vi a1.What)) (rfl) ?_
      refine tb (x := (vb (decide (a1.What = 3)))) (d_eql) ?_
      refine tg (x := V.any) (fun h81 => rfl) ?_
      refine tg (x := (vi a1.Via)) (fun h83 => bind_some_eq (gate_pos h83 (rfl))) ?_
      refine tg (x := (vb (decide (a1.Via < 1)))) (fun h86 => by simp only [gv_t h86]; exact bind_some_eq (d_lss)) ?_
      refine tg (x := (vb (decide (a1.Via < 1)))) (fun h89 => congrArg some (gv_t h89)) ?_
      refine tg2_f (x := V.any) (fun h91 => rfl) ?_
      refine tg2_f (x := (vi a1.Via)) (fun h93 => bind_some_eq (gate_pos2 (and_l h93) (not_t (and_r h93)) (rfl))) ?_
      refine tg2_f (x := V.any) (fun h96 => rfl) ?_
      refine tg2_f (x := (vi a0.Switches)) (fun h98 => bind_some_eq (gate_pos2 (and_l h98) (not_t (and_r h98)) (rfl))) ?_
      refine tg2_f (x := (vb (decide (a0.Switches < a1.Via)))) (fun h101 => by simp only [gv_t h101]; exact bind_some_eq (d_gtr)) ?_
      refine tg (x := (vb ((decide (a1.Via < 1)) || (decide (a0.Switches < a1.Via))))) (fun h104 => by simp only [gv_t h104]; exact bind_some_eq (pick_or (fun h9 => gv_t (and_i h104 (not_f h9))))) ?_
      refine tb (x := (vb ((decide (a1.What = 3)) && ((decide (a1.Via < 1)) || (decide (a0.Switches < a1.Via)))))) (pick_and (fun h9 => gv_t h9)) ?_
      refine tjb (mk := fun s110 : Bool => [(vb s110)]) (fun J109 => ?_) fun s110 => ?_
      · refine tcond (fun h113 => ?_) (fun h113 => ?_)
        · refine tkeepO2 ?_ rfl
          refine tkeepO2 ?_ rfl
          refine tsome ?_
          exact rf_j rfl
        · refine tb (x := (vi a1.What)) (rfl) ?_
          refine tb (x := (vb (decide (a1.What ≠ 3)))) (d_neq) ?_
          refine tg (x := V.any) (fun h116 => rfl) ?_
          refine tg (x := (vi a1.Via)) (fun h118 => bind_some_eq (gate_pos h118 (rfl))) ?_
          refine tg (x := (vb (decide (a1.Via ≠ 0)))) (fun h121 => by simp only [gv_t h121]; exact bind_some_eq (d_neq)) ?_
          refine tb (x := (vb ((decide (a1.What ≠ 3)) && (decide (a1.Via ≠ 0))))) (pick_and (fun h9 => gv_t h9)) ?_
          refine tkeepO2 ?_ rfl
          refine tkeepO2 ?_ rfl
          refine tsome ?_
          exact rf_j rfl
      · refine tkeepO2 ?_ rfl
        refine tkeepO2 ?_ rfl
        refine tsome ?_
        exact rf_j rfl
  · refine tcond (fun h12 => ?_) (fun h12 => ?_)
    · refine tb (x := (eV 1)) (p_mkE (by decide)) ?_
      exact rf_ret rfl
    · refine tb (x := (vi a1.What)) (rfl) ?_
      refine tb (x := (vb (decide (a1.What = 4)))) (d_eql) ?_
      refine tg (x := V.any) (fun h16 => rfl) ?_
      refine tg (x := (vt a1.From)) (fun h18 => bind_some_eq (gate_pos h18 (rfl))) ?_
      refine tg (x := (vb (!decide (a1.From = (ByteArray.mk #[]))))) (fun h21 => by simp only [gv_t h21]; exact bind_some_eq (p_neq_str)) ?_
      refine tg (x := (vb (!decide (a1.From = (ByteArray.mk #[]))))) (fun h24 => congrArg some (gv_t h24)) ?_
      refine tg2_f (x := V.any) (fun h26 => rfl) ?_
      refine tg2_f (x := (vt a1.To)) (fun h28 => bind_some_eq (gate_pos2 (and_l h28) (not_t (and_r h28)) (rfl))) ?_
      refine tg2_f (x := (vb (!decide (a1.To = (ByteArray.mk #[]))))) (fun h31 => by simp only [gv_t h31]; exact bind_some_eq (p_neq_str)) ?_
      refine tg (x := (vb ((!decide (a1.From = (ByteArray.mk #[]))) || (!decide (a1.To = (ByteArray.mk #[])))))) (fun h34 => by simp only [gv_t h34]; exact bind_some_eq (pick_or (fun h9 => gv_t (and_i h34 (not_f h9))))) ?_
      refine tb (x := (vb ((decide (a1.What = 4)) && ((!decide (a1.From = (ByteArray.mk #[]))) || (!decide (a1.To = (ByteArray.mk #[]))))))) (pick_and (fun h9 => gv_t h9)) ?_
      refine tcond (fun h38 => ?_) (fun h38 => ?_)
      · refine tb (x := (eV 3)) (p_mkE (by decide)) ?_
        exact rf_ret rfl
      · refine tb (x := (vi a1.What)) (rfl) ?_
        refine tb (x := (vb (decide (a1.What = 4)))) (d_eql) ?_
        refine tcond (fun h42 => ?_) (fun h42 => ?_)
        · exact rf_ret rfl
        · refine tb (x := (vt a1.From)) (rfl) ?_
          refine tb (x := (vt a1.To)) (rfl) ?_
          refine tb (x := (V.sl (List.map cT ([a1.From, a1.To] : (List ByteArray))))) (by kernel_rfl) ?_
          refine tb (x := (vi (List.length ([a1.From, a1.To] : (List ByteArray)) : Int))) (p_len _) ?_
          refine tjoin (mk := fun s49 : Unit => []) (fun s49 => ?_) fun J48 j50 h51 => ?_
          · exact rf_ret rfl
          · refine tkeepO2 ?_ rfl
            refine tsome ?_
            refine rf_loopI (mk := fun (i58 : Int) (s54 : Unit) => [(vi (i58 : Int))]) hn ([a1.From, a1.To] : (List ByteArray)) () (fun i58 x59 h60 h61 h62 s54 rec52 k55 h56 => ?_) (fun s54 rec76 h75 => ?_)
            · refine tb (x := (vb (decide ((i58 : Int) < (List.length ([a1.From, a1.To] : (List ByteArray)) : Int))))) (d_lss) ?_
              refine tcond_t h62 ?_
              refine tb (x := (V.ptr [(vt x59)])) (p_idx_at (c := cT) (fun _ => rfl) h60) ?_
              refine tb (x := (vt x59)) (rfl) ?_
              refine tb (x := (T_Topo.e a0)) (rfl) ?_
              refine tbo (ty_topo_Where hn a0 x59) fun r68 => ?_
              refine tb (x := (T_Spot.e r68.1)) (rfl) ?_
              refine tb (x := (eV r68.2)) (rfl) ?_
              refine tb (x := V.agg (T_Spot.c r68.1)) (by kernel_rfl) ?_
              refine tb (x := (vb (!decide (r68.2 = 0)))) (p_err_neq _) ?_
              refine tcond (fun h73 => ?_) (fun h73 => ?_)
              · exact rf_ret rfl
              · refine tb (x := (vi ((i58 : Int) + 1))) (p_incN h61) ?_
                refine tkeepO2 ?_ rfl
                refine tsome ?_
                exact h56 ()
            · refine tb (x := (vb (decide ((List.length ([a1.From, a1.To] : (List ByteArray)) : Int) < (List.length ([a1.From, a1.To] : (List ByteArray)) : Int))))) (d_lss) ?_
              refine tcond_f h75 ?_
              exact h51 ()

/-! railpoint/wish.Check -/
def an_wish_Check : Ann := .seq (.reg 0 [] [] []) (.seq (.seq (.reg 0 [] [] []) (.seq (.reg 0 [] [] []) (.cond none (.seq (.reg 0 [] [] []) (.no)) (.no)))) (.seq (.seq (.reg 0 [] [] []) (.cond none (.seq (.reg 0 [] [] []) (.no)) (.no))) (.seq (.seq (.reg 0 [] [] []) (.blk (some []) (.loop [.kb 2, .s 20] (.seq (.reg 0 [] [] []) (.seq (.cond none (.no) (.no)) (.seq (.blk none (.seq (.reg 0 [] [] []) (.seq (.reg 0 [] [] []) (.seq (.reg 0 [] [] []) (.cond none (.seq (.reg 0 [] [] []) (.no)) (.no)))))) (.reg 0 [] [] []))))))) (.seq (.reg 0 [] [] []) (.no)))))
noncomputable def sem_wish_Check (n : Nat) (xs : List V) : Option V := if xs.length ≤ 31 then denF Tryd.prog (envOf [(12, (sem_topo_Check n)), (14, (sem_wish_one n))]) n Tryd.f6 an_wish_Check xs else none
theorem ok_wish_Check (n : Nat) : SemOk Tryd.prog DW 6 (sem_wish_Check n) := fun xs y h => by
  unfold sem_wish_Check at h
  split at h
  · rename_i hl
    exact denF_ok stb Tryd.func6 (by kernel_rfl) (envOf_ok (semsOk_cons (ok_topo_Check n) (semsOk_cons (ok_wish_one n) semsOk_nil))) (by rw [Tryd.ntmps6]; exact hl) h
  · cases h
theorem eq_wish_Check (n : Nat) (x0 x1 : V) : sem_wish_Check n [x0, x1] =
 (V.cellsO x0).bind fun v1 =>
 (ldk (some 3) (List.drop 0 v1)).bind fun v2 =>
 ((sem_topo_Check n) [v2]).bind fun v3 =>
 (bin2 Tryd.prog BinOp.neq 31 (ot 11) (Operand.const Go.Value.nilIface) v3 vn).bind fun v4 =>
 condV v4 (
 some v3) (
 (lenS [x1]).bind fun v5 =>
 (bin2 Tryd.prog BinOp.gtr 3 (ot 15) (oc 8) v5 (vi 8)).bind fun v6 =>
 condV v6 (
 (scal1 Tryd.prog (Instr.makeInterface 58) (vi 4)).bind fun v7 =>
 some v7) (
 (lenS [x1]).bind fun v8 =>
 JoinPt (fun vs9 =>
 some vn) fun J10 =>
 (keepO (some v1) (some v1) (some [(vi 0)])).bind (fixN (fun rec11 vs12 =>
 (bin2 Tryd.prog BinOp.lss 3 (ot 20) (ot 19) (List.getD vs12 0 V.any) v8).bind fun v13 =>
 condV v13 (
 (idxS 4 x1 (List.getD vs12 0 V.any)).bind fun v14 =>
 (ldp (some 4) v14).bind fun v15 =>
 (spliceV [(vi 0), (V.lit (Go.Value.string (ByteArray.mk #[]))), (V.lit (Go.Value.string (ByteArray.mk #[]))), (vi 0)] 0 4 v15).bind fun v16 =>
 (ldk (some 3) (List.drop 0 v1)).bind fun v17 =>
 (ldk (some 4) (List.drop 0 (aggL v16))).bind fun v18 =>
 ((sem_wish_one n) [v17, v18]).bind fun v19 =>
 (bin2 Tryd.prog BinOp.neq 31 (ot 27) (Operand.const Go.Value.nilIface) v19 vn).bind fun v20 =>
 condV v20 (
 some v19) (
 (bin2 Tryd.prog BinOp.add 3 (ot 20) (oc 1) (List.getD vs12 0 V.any) (vi 1)).bind fun v21 =>
 (keepO (some v1) (some v1) (some [v21])).bind rec11)) (
 J10 [])) n))) := by kernel_rfl
noncomputable def t_wish_Check (a0 : T_Topo) (a1 : (List T_Wish)) : Option Int :=
 (t_topo_Check a0).bind fun r4 =>
 if (!decide (r4 = 0)) = true then (
 some r4) else (
 if (decide (8 < (List.length a1 : Int))) = true then (
 some 4) else (
 join (fun (s14 : Unit) =>
 some 0) fun j15 =>
 loopI a1 (fun (i23 : Int) x24 (s19 : Unit) k20 =>
 (t_wish_one a0 x24).bind fun r35 =>
 if (!decide (r35 = 0)) = true then (
 some r35) else (
 k20 ())) (fun (s19 : Unit) =>
 j15 ()) ()))
theorem ty_wish_Check {n : Nat} (hn : bigN ≤ n) (a0 : T_Topo) (a1 : (List T_Wish)) : Rv (fun x : Int => (eV x)) (sem_wish_Check n [(T_Topo.e a0), (V.sl (List.map T_Wish.c a1))]) (t_wish_Check a0 a1) := by
  rw [eq_wish_Check]
  unfold t_wish_Check
  refine tb (x := (T_Topo.c a0)) rfl ?_
  refine tb (x := (T_Topo.e a0)) (rfl) ?_
  refine tbo (ty_topo_Check hn a0) fun r4 => ?_
  refine tb (x := (vb (!decide (r4 = 0)))) (p_err_neq _) ?_
  refine tcond (fun h6 => ?_) (fun h6 => ?_)
  · exact rf_ret rfl
  · refine tb (x := (vi (List.length a1 : Int))) (p_len _) ?_
    refine tb (x := (vb (decide (8 < (List.length a1 : Int))))) (d_gtr) ?_
    refine tcond (fun h9 => ?_) (fun h9 => ?_)
    · refine tb (x := (eV 4)) (p_mkE (by decide)) ?_
      exact rf_ret rfl
    · refine tb (x := (vi (List.length a1 : Int))) (p_len _) ?_
      refine tjoin (mk := fun s14 : Unit => []) (fun s14 => ?_) fun J13 j15 h16 => ?_
      · exact rf_ret rfl
      · refine tkeepO2 ?_ rfl
        refine tsome ?_
        refine rf_loopI (mk := fun (i23 : Int) (s19 : Unit) => [(vi (i23 : Int))]) hn a1 () (fun i23 x24 h25 h26 h27 s19 rec17 k20 h21 => ?_) (fun s19 rec40 h39 => ?_)
        · refine tb (x := (vb (decide ((i23 : Int) < (List.length a1 : Int))))) (d_lss) ?_
          refine tcond_t h27 ?_
          refine tb (x := (V.ptr (T_Wish.c x24))) (p_idx_at (c := T_Wish.c) (fun _ => rfl) h25) ?_
          refine tb (x := (T_Wish.e x24)) (rfl) ?_
          refine tb (x := V.agg (T_Wish.c x24)) (by kernel_rfl) ?_
          refine tb (x := (T_Topo.e a0)) (rfl) ?_
          refine tb (x := (T_Wish.e x24)) (rfl) ?_
          refine tbo (ty_wish_one hn a0 x24) fun r35 => ?_
          refine tb (x := (vb (!decide (r35 = 0)))) (p_err_neq _) ?_
          refine tcond (fun h37 => ?_) (fun h37 => ?_)
          · exact rf_ret rfl
          · refine tb (x := (vi ((i23 : Int) + 1))) (p_incN h26) ?_
            refine tkeepO2 ?_ rfl
            refine tsome ?_
            exact h21 ()
        · refine tb (x := (vb (decide ((List.length a1 : Int) < (List.length a1 : Int))))) (d_lss) ?_
          refine tcond_f h39 ?_
          exact h16 ()

/-! railpoint/text.spot -/
def an_text_spot : Ann := .seq (.reg 0 [] [] []) (.seq (.reg 9 [] [] []) (.no))
noncomputable def sem_text_spot (n : Nat) (xs : List V) : Option V := if xs.length ≤ 11 then denF Tryd.prog (envOf [(7, (semItoa))]) n Tryd.f8 an_text_spot xs else none
theorem ok_text_spot (n : Nat) : SemOk Tryd.prog DW 8 (sem_text_spot n) := fun xs y h => by
  unfold sem_text_spot at h
  split at h
  · rename_i hl
    exact denF_ok stb Tryd.func8 (by kernel_rfl) (envOf_ok (semsOk_cons (ok_Itoa) semsOk_nil)) (by rw [Tryd.ntmps8]; exact hl) h
  · cases h
theorem eq_text_spot (n : Nat) (x0 : V) : sem_text_spot n [x0] =
 (V.cellsO x0).bind fun v1 =>
 (ldk none (List.drop 0 v1)).bind fun v2 =>
 ((semItoa) [v2]).bind fun v3 =>
 (bin2 Tryd.prog BinOp.add 9 (ot 5) (Operand.const (Go.Value.string (ByteArray.mk #[46]))) v3 (V.lit (Go.Value.string (ByteArray.mk #[46])))).bind fun v4 =>
 (ldk none (List.drop 1 v1)).bind fun v5 =>
 ((semItoa) [v5]).bind fun v6 =>
 (bin2 Tryd.prog BinOp.add 9 (ot 6) (ot 9) v4 v6).bind fun v7 =>
 some v7 := by kernel_rfl
noncomputable def t_text_spot (a0 : T_Spot) : Option ByteArray :=
 (t_Itoa a0.Switch).bind fun r4 =>
 need (decide ((r4.size : Int) + (ByteArray.mk #[46]).size ≤ maxI)) (
 (t_Itoa a0.Port).bind fun r8 =>
 need (decide (((r4 ++ (ByteArray.mk #[46])).size : Int) + r8.size ≤ maxI)) (
 some ((r4 ++ (ByteArray.mk #[46])) ++ r8)))
theorem ty_text_spot {n : Nat} (hn : bigN ≤ n) (a0 : T_Spot) : Rv (fun x : ByteArray => (vt x)) (sem_text_spot n [(T_Spot.e a0)]) (t_text_spot a0) := by
  rw [eq_text_spot]
  unfold t_text_spot
  refine tb (x := (T_Spot.c a0)) rfl ?_
  refine tb (x := (vi a0.Switch)) (rfl) ?_
  refine tbo (ty_Itoa a0.Switch) fun r4 => ?_
  refine tneed (x := (vt (r4 ++ (ByteArray.mk #[46])))) (fun h11 => p_add_str h11) fun h11 => ?_
  refine tb (x := (vi a0.Port)) (rfl) ?_
  refine tbo (ty_Itoa a0.Port) fun r8 => ?_
  refine tneed (x := (vt ((r4 ++ (ByteArray.mk #[46])) ++ r8))) (fun h10 => p_add_str h10) fun h10 => ?_
  exact rf_ret rfl

/-! railpoint/cube.Print -/
def an_cube_Print : Ann := .seq (.reg 0 [] [] []) (.seq (.seq (.reg 0 [] [] []) (.seq (.reg 0 [] [] []) (.cond none (.seq (.reg 0 [] [] []) (.no)) (.no)))) (.seq (.reg 0 [] [] []) (.seq (.seq (.reg 0 [] [] []) (.blk (some [.o 5]) (.loop [.kb 1, .o 5, .s 16] (.seq (.reg 0 [] [] []) (.seq (.cond none (.no) (.no)) (.seq (.blk none (.seq (.reg 0 [] [] []) (.seq (.reg 0 [] [] []) (.blk none (.seq (.reg 0 [] [] []) (.cond (some [.kb 1, .o 5]) (.reg 0 [] [] []) (.seq (.reg 0 [] [] []) (.cond (some [.kb 1, .o 5]) (.reg 0 [] [] []) (.reg 0 [] [] []))))))))) (.reg 0 [] [] []))))))) (.seq (.reg 0 [] [] []) (.no)))))
noncomputable def sem_cube_Print (n : Nat) (xs : List V) : Option V := if xs.length ≤ 46 then denF Tryd.prog (envOf [(30, (sem_cube_Check n))]) n Tryd.f17 an_cube_Print xs else none
theorem ok_cube_Print (n : Nat) : SemOk Tryd.prog DW 17 (sem_cube_Print n) := fun xs y h => by
  unfold sem_cube_Print at h
  split at h
  · rename_i hl
    exact denF_ok stb Tryd.func17 (by kernel_rfl) (envOf_ok (semsOk_cons (ok_cube_Check n) semsOk_nil)) (by rw [Tryd.ntmps17]; exact hl) h
  · cases h
theorem eq_cube_Print (n : Nat) (x0 : V) : sem_cube_Print n [x0] =
 (V.cellsO x0).bind fun v1 =>
 (ldk (some 2) (List.drop 0 v1)).bind fun v2 =>
 ((sem_cube_Check n) [v2]).bind fun v3 =>
 (bin2 Tryd.prog BinOp.neq 31 (ot 10) (Operand.const Go.Value.nilIface) v3 vn).bind fun v4 =>
 condV v4 (
 some (V.tup [(V.lit (Go.Value.string (ByteArray.mk #[]))), v3])) (
 (makeN 1 [(V.lit (Go.Value.int Go.IntKind.u8 0))] (vi 4) (vi 4)).bind fun v5 =>
 ((oslR v5).map fun rows => V.lit (Go.Value.int Go.IntKind.i64 (List.length rows))).bind fun v6 =>
 JoinPt (fun vs7 =>
 ((oslR (List.getD vs7 0 V.any)).bind fun rows9 => b2s (V.sl rows9)).bind fun v10 =>
 some (V.tup [v10, vn])) fun J8 =>
 (keepO (some v1) (some v1) (some [v5, (vi 0)])).bind (fixN (fun rec11 vs12 =>
 (bin2 Tryd.prog BinOp.lss 3 (ot 16) (ot 15) (List.getD vs12 1 V.any) v6).bind fun v13 =>
 condV v13 (
 (bin2 Tryd.prog BinOp.sub 3 (oc 3) (ot 19) (vi 3) (List.getD vs12 1 V.any)).bind fun v14 =>
 (bin2 Tryd.prog BinOp.shl 3 (oc 1) (ot 20) (vi 1) v14).bind fun v15 =>
 (ldk none (List.drop 0 v1)).bind fun v16 =>
 (bin2 Tryd.prog BinOp.and 3 (ot 27) (ot 28) v16 v15).bind fun v17 =>
 (bin2 Tryd.prog BinOp.eql 3 (ot 29) (oc 0) v17 (vi 0)).bind fun v18 =>
 JoinPt (fun vs19 =>
 (bin2 Tryd.prog BinOp.add 3 (ot 16) (oc 1) (List.getD vs12 1 V.any) (vi 1)).bind fun v21 =>
 (keepO (some v1) (some v1) (some [(List.getD vs19 0 V.any), v21])).bind rec11) fun J20 =>
 condV v18 (
 ((oslR (List.getD vs12 0 V.any)).bind fun rows22 => inB (List.length rows22) (List.getD vs12 1 V.any)).bind fun v23 =>
 (V.cellsO (V.lit (Go.Value.int Go.IntKind.u8 42))).bind fun v24 =>
 (setV (List.getD vs12 0 V.any) [] (Stp.mk (some (natOf (List.getD vs12 1 V.any))) 0 1) 1 v24).bind fun v25 =>
 (keepO (some v1) (some v1) (some [v25])).bind J20) (
 (ldk none (List.drop 1 v1)).bind fun v26 =>
 (bin2 Tryd.prog BinOp.and 3 (ot 36) (ot 37) v26 v15).bind fun v27 =>
 (bin2 Tryd.prog BinOp.eql 3 (ot 38) (oc 0) v27 (vi 0)).bind fun v28 =>
 JoinPt (fun vs29 =>
 (keepO (some v1) (some v1) (some [(List.getD vs29 0 V.any)])).bind J20) fun J30 =>
 condV v28 (
 ((oslR (List.getD vs12 0 V.any)).bind fun rows31 => inB (List.length rows31) (List.getD vs12 1 V.any)).bind fun v32 =>
 (V.cellsO (V.lit (Go.Value.int Go.IntKind.u8 48))).bind fun v33 =>
 (setV (List.getD vs12 0 V.any) [] (Stp.mk (some (natOf (List.getD vs12 1 V.any))) 0 1) 1 v33).bind fun v34 =>
 (keepO (some v1) (some v1) (some [v34])).bind J30) (
 ((oslR (List.getD vs12 0 V.any)).bind fun rows35 => inB (List.length rows35) (List.getD vs12 1 V.any)).bind fun v36 =>
 (V.cellsO (V.lit (Go.Value.int Go.IntKind.u8 49))).bind fun v37 =>
 (setV (List.getD vs12 0 V.any) [] (Stp.mk (some (natOf (List.getD vs12 1 V.any))) 0 1) 1 v37).bind fun v38 =>
 (keepO (some v1) (some v1) (some [v38])).bind J30))) (
 J8 [(List.getD vs12 0 V.any)])) n)) := by kernel_rfl
noncomputable def t_cube_Print (a0 : T_Cube) : Option (ByteArray × Int) :=
 (t_cube_Check a0).bind fun r4 =>
 if (!decide (r4 = 0)) = true then (
 some ((ByteArray.mk #[]), r4)) else (
 (omake 4 4 0).bind fun r8 =>
 (loopI r8 (fun (i23 : Int) x24 (s19 : (List Int)) k20 =>
 need (decide (0 ≤ (wr (3 - i23)))) (
 (if (decide ((bits .and .i64 a0.Mask (wr (1 * 2 ^ (min (Int.toNat (wr (3 - i23))) 64)))) = 0)) = true then (
 need (decide (0 ≤ i23) && decide (i23 < (List.length s19 : Int))) (
 (oset s19 i23 42).bind fun r45 =>
 some (r45))) else (
 (if (decide ((bits .and .i64 a0.Bits (wr (1 * 2 ^ (min (Int.toNat (wr (3 - i23))) 64)))) = 0)) = true then (
 need (decide (0 ≤ i23) && decide (i23 < (List.length s19 : Int))) (
 (oset s19 i23 48).bind fun r60 =>
 some (r60))) else (
 need (decide (0 ≤ i23) && decide (i23 < (List.length s19 : Int))) (
 (oset s19 i23 49).bind fun r66 =>
 some (r66)))).bind fun (s52 : (List Int)) =>
 some (s52))).bind fun (s36 : (List Int)) =>
 k20 (s36))) (fun (s19 : (List Int)) =>
 some (s19)) (r8)).bind fun (s12 : (List Int)) =>
 some ((strOfNums s12), 0))
theorem ty_cube_Print {n : Nat} (hn : bigN ≤ n) (a0 : T_Cube) : Rv (fun x : (ByteArray × Int) => V.tup [(vt x.1), (eV x.2)]) (sem_cube_Print n [(T_Cube.e a0)]) (t_cube_Print a0) := by
  rw [eq_cube_Print]
  unfold t_cube_Print
  refine tb (x := (T_Cube.c a0)) rfl ?_
  refine tb (x := (T_Cube.e a0)) (rfl) ?_
  refine tbo (ty_cube_Check hn a0) fun r4 => ?_
  refine tb (x := (vb (!decide (r4 = 0)))) (p_err_neq _) ?_
  refine tcond (fun h6 => ?_) (fun h6 => ?_)
  · exact rf_ret rfl
  · refine tbo (p_omake (c := cY) 4 4 0 rfl) fun r8 => ?_
    refine tb (x := (vi (List.length r8 : Int))) (p_olen _) ?_
    refine tjb (mk := fun s12 : (List Int) => [(V.osl 1 (List.map cY s12))]) (fun J11 => ?_) fun s12 => ?_
    · refine tkeepO2 ?_ rfl
      refine tsome ?_
      refine rf_loopI (mk := fun (i23 : Int) (s19 : (List Int)) => [(V.osl 1 (List.map cY s19)), (vi (i23 : Int))]) hn r8 (r8) (fun i23 x24 h25 h26 h27 s19 rec17 k20 h21 => ?_) (fun s19 rec70 h69 => ?_)
      · refine tb (x := (vb (decide ((i23 : Int) < (List.length r8 : Int))))) (d_lss) ?_
        refine tcond_t h27 ?_
        refine tb (x := (vi (wr (3 - (i23 : Int))))) (d_sub) ?_
        refine tneed (x := (vi (wr (1 * 2 ^ (min (Int.toNat (wr (3 - (i23 : Int)))) 64))))) (fun h68 => p_shl h68) fun h68 => ?_
        refine tb (x := (vi a0.Mask)) (rfl) ?_
        refine tb (x := (vi (bits .and .i64 a0.Mask (wr (1 * 2 ^ (min (Int.toNat (wr (3 - (i23 : Int)))) 64)))))) (d_and) ?_
        refine tb (x := (vb (decide ((bits .and .i64 a0.Mask (wr (1 * 2 ^ (min (Int.toNat (wr (3 - (i23 : Int)))) 64)))) = 0)))) (d_eql) ?_
        refine tjb (mk := fun s36 : (List Int) => [(V.osl 1 (List.map cY s36))]) (fun J35 => ?_) fun s36 => ?_
        · refine tcond (fun h40 => ?_) (fun h40 => ?_)
          · refine tneed (x := V.any) (fun h46 => p_inB s19 (i23 : Int) h46) fun h46 => ?_
            refine tb (x := cY 42) rfl ?_
            refine tbo (p_oset (c := cY) (fun _ => rfl) s19 (i23 : Int) 42) fun r45 => ?_
            refine tkeepO2 ?_ rfl
            refine tsome ?_
            exact rf_j rfl
          · refine tb (x := (vi a0.Bits)) (rfl) ?_
            refine tb (x := (vi (bits .and .i64 a0.Bits (wr (1 * 2 ^ (min (Int.toNat (wr (3 - (i23 : Int)))) 64)))))) (d_and) ?_
            refine tb (x := (vb (decide ((bits .and .i64 a0.Bits (wr (1 * 2 ^ (min (Int.toNat (wr (3 - (i23 : Int)))) 64)))) = 0)))) (d_eql) ?_
            refine tjb (mk := fun s52 : (List Int) => [(V.osl 1 (List.map cY s52))]) (fun J51 => ?_) fun s52 => ?_
            · refine tcond (fun h55 => ?_) (fun h55 => ?_)
              · refine tneed (x := V.any) (fun h61 => p_inB s19 (i23 : Int) h61) fun h61 => ?_
                refine tb (x := cY 48) rfl ?_
                refine tbo (p_oset (c := cY) (fun _ => rfl) s19 (i23 : Int) 48) fun r60 => ?_
                refine tkeepO2 ?_ rfl
                refine tsome ?_
                exact rf_j rfl
              · refine tneed (x := V.any) (fun h67 => p_inB s19 (i23 : Int) h67) fun h67 => ?_
                refine tb (x := cY 49) rfl ?_
                refine tbo (p_oset (c := cY) (fun _ => rfl) s19 (i23 : Int) 49) fun r66 => ?_
                refine tkeepO2 ?_ rfl
                refine tsome ?_
                exact rf_j rfl
            · refine tkeepO2 ?_ rfl
              refine tsome ?_
              exact rf_j rfl
        · refine tb (x := (vi ((i23 : Int) + 1))) (p_incN h26) ?_
          refine tkeepO2 ?_ rfl
          refine tsome ?_
          exact h21 (s36)
      · refine tb (x := (vb (decide ((List.length r8 : Int) < (List.length r8 : Int))))) (d_lss) ?_
        refine tcond_f h69 ?_
        exact rf_j rfl
    · refine tb (x := (vt (strOfNums s12))) (p_oslB) ?_
      exact rf_ret rfl

/-! railpoint/rule.Print -/
def an_rule_Print : Ann := .seq (.reg 0 [] [] []) (.seq (.seq (.reg 0 [] [] []) (.seq (.reg 0 [] [] []) (.cond none (.seq (.reg 0 [] [] []) (.no)) (.no)))) (.seq (.reg 0 [] [] []) (.seq (.seq (.reg 0 [] [] []) (.cond none (.seq (.reg 0 [] [] []) (.no)) (.no))) (.seq (.reg 0 [] [] []) (.seq (.seq (.reg 0 [] [] []) (.cond none (.seq (.reg 0 [] [] []) (.no)) (.no))) (.seq (.reg 0 [] [] []) (.seq (.seq (.reg 0 [] [] []) (.cond (some [.s 7]) (.seq (.reg 0 [] [] []) (.seq (.seq (.reg 0 [] [] []) (.cond none (.seq (.reg 0 [] [] []) (.no)) (.no))) (.reg 0 [] [] []))) (.no))) (.seq (.reg 0 [] [] []) (.no)))))))))
noncomputable def sem_rule_Print (n : Nat) (xs : List V) : Option V := if xs.length ≤ 61 then denF Tryd.prog (envOf [(16, (sem_rule_Check n)), (17, (sem_cube_Print n)), (7, (semItoa))]) n Tryd.f9 an_rule_Print xs else none
theorem ok_rule_Print (n : Nat) : SemOk Tryd.prog DW 9 (sem_rule_Print n) := fun xs y h => by
  unfold sem_rule_Print at h
  split at h
  · rename_i hl
    exact denF_ok stb Tryd.func9 (by kernel_rfl) (envOf_ok (semsOk_cons (ok_rule_Check n) (semsOk_cons (ok_cube_Print n) (semsOk_cons (ok_Itoa) semsOk_nil)))) (by rw [Tryd.ntmps9]; exact hl) h
  · cases h
theorem eq_rule_Print (n : Nat) (x0 : V) : sem_rule_Print n [x0] =
 (V.cellsO x0).bind fun v1 =>
 (ldk (some 6) (List.drop 0 v1)).bind fun v2 =>
 ((sem_rule_Check n) [v2]).bind fun v3 =>
 (bin2 Tryd.prog BinOp.neq 31 (ot 12) (Operand.const Go.Value.nilIface) v3 vn).bind fun v4 =>
 condV v4 (
 some (V.tup [(V.lit (Go.Value.string (ByteArray.mk #[]))), v3])) (
 (ldk (some 2) (List.drop 1 v1)).bind fun v5 =>
 ((sem_cube_Print n) [v5]).bind fun v6 =>
 (extractV v6 0).bind fun v7 =>
 (extractV v6 1).bind fun v8 =>
 (bin2 Tryd.prog BinOp.neq 31 (ot 21) (Operand.const Go.Value.nilIface) v8 vn).bind fun v9 =>
 condV v9 (
 some (V.tup [(V.lit (Go.Value.string (ByteArray.mk #[]))), v8])) (
 (ldk none (List.drop 0 v1)).bind fun v10 =>
 ((semItoa) [v10]).bind fun v11 =>
 (bin2 Tryd.prog BinOp.add 9 (ot 26) (Operand.const (Go.Value.string (ByteArray.mk #[32]))) v11 (V.lit (Go.Value.string (ByteArray.mk #[32])))).bind fun v12 =>
 (bin2 Tryd.prog BinOp.add 9 (ot 27) (ot 28) v12 v7).bind fun v13 =>
 (ldk none (List.drop 3 v1)).bind fun v14 =>
 (bin2 Tryd.prog BinOp.eql 3 (ot 31) (oc 0) v14 (vi 0)).bind fun v15 =>
 condV v15 (
 (bin2 Tryd.prog BinOp.add 9 (ot 33) (Operand.const (Go.Value.string (ByteArray.mk #[32, 100, 114, 111, 112]))) v13 (V.lit (Go.Value.string (ByteArray.mk #[32, 100, 114, 111, 112])))).bind fun v16 =>
 some (V.tup [v16, vn])) (
 (ldk none (List.drop 3 v1)).bind fun v17 =>
 ((semItoa) [v17]).bind fun v18 =>
 (bin2 Tryd.prog BinOp.add 9 (Operand.const (Go.Value.string (ByteArray.mk #[32, 111, 117, 116, 32]))) (ot 38) (V.lit (Go.Value.string (ByteArray.mk #[32, 111, 117, 116, 32]))) v18).bind fun v19 =>
 (bin2 Tryd.prog BinOp.add 9 (ot 35) (ot 39) v13 v19).bind fun v20 =>
 (ldk none (List.drop 4 v1)).bind fun v21 =>
 (bin2 Tryd.prog BinOp.neq 3 (ot 42) (oc 0) v21 (vi 0)).bind fun v22 =>
 JoinPt (fun vs23 =>
 some (V.tup [(List.getD vs23 0 V.any), vn])) fun J24 =>
 condV v22 (
 (ldk none (List.drop 4 v1)).bind fun v25 =>
 (ldk none (List.drop 5 v1)).bind fun v26 =>
 ((fillL [(vi 0), (vi 0)] [(0, 1, v25), (1, 1, v26)]).map V.agg).bind fun v27 =>
 ((sem_cube_Print n) [v27]).bind fun v28 =>
 (extractV v28 0).bind fun v29 =>
 (extractV v28 1).bind fun v30 =>
 (bin2 Tryd.prog BinOp.neq 31 (ot 53) (Operand.const Go.Value.nilIface) v30 vn).bind fun v31 =>
 condV v31 (
 some (V.tup [(V.lit (Go.Value.string (ByteArray.mk #[]))), v30])) (
 (bin2 Tryd.prog BinOp.add 9 (Operand.const (Go.Value.string (ByteArray.mk #[32, 115, 101, 116, 32]))) (ot 57) (V.lit (Go.Value.string (ByteArray.mk #[32, 115, 101, 116, 32]))) v29).bind fun v32 =>
 (bin2 Tryd.prog BinOp.add 9 (ot 56) (ot 58) v20 v32).bind fun v33 =>
 J24 [v33])) (
 J24 [v20])))) := by kernel_rfl
noncomputable def t_rule_Print (a0 : T_Rule) : Option (ByteArray × Int) :=
 (t_rule_Check a0).bind fun r4 =>
 if (!decide (r4 = 0)) = true then (
 some ((ByteArray.mk #[]), r4)) else (
 (t_cube_Print a0.Cube).bind fun r9 =>
 if (!decide (r9.2 = 0)) = true then (
 some ((ByteArray.mk #[]), r9.2)) else (
 (t_Itoa a0.Prio).bind fun r16 =>
 need (decide ((r16.size : Int) + (ByteArray.mk #[32]).size ≤ maxI)) (
 need (decide (((r16 ++ (ByteArray.mk #[32])).size : Int) + r9.1.size ≤ maxI)) (
 if (decide (a0.Out = 0)) = true then (
 need (decide ((((r16 ++ (ByteArray.mk #[32])) ++ r9.1).size : Int) + (ByteArray.mk #[32, 100, 114, 111, 112]).size ≤ maxI)) (
 some ((((r16 ++ (ByteArray.mk #[32])) ++ r9.1) ++ (ByteArray.mk #[32, 100, 114, 111, 112])), 0))) else (
 (t_Itoa a0.Out).bind fun r26 =>
 need (decide (((ByteArray.mk #[32, 111, 117, 116, 32]).size : Int) + r26.size ≤ maxI)) (
 need (decide ((((r16 ++ (ByteArray.mk #[32])) ++ r9.1).size : Int) + ((ByteArray.mk #[32, 111, 117, 116, 32]) ++ r26).size ≤ maxI)) (
 join (fun (s33 : ByteArray) =>
 some (s33, 0)) fun j34 =>
 if (decide (a0.Set ≠ 0)) = true then (
 (t_cube_Print (T_Cube.mk a0.Set a0.Value)).bind fun r41 =>
 if (!decide (r41.2 = 0)) = true then (
 some ((ByteArray.mk #[]), r41.2)) else (
 need (decide (((ByteArray.mk #[32, 115, 101, 116, 32]).size : Int) + r41.1.size ≤ maxI)) (
 need (decide (((((r16 ++ (ByteArray.mk #[32])) ++ r9.1) ++ ((ByteArray.mk #[32, 111, 117, 116, 32]) ++ r26)).size : Int) + ((ByteArray.mk #[32, 115, 101, 116, 32]) ++ r41.1).size ≤ maxI)) (
 j34 ((((r16 ++ (ByteArray.mk #[32])) ++ r9.1) ++ ((ByteArray.mk #[32, 111, 117, 116, 32]) ++ r26)) ++ ((ByteArray.mk #[32, 115, 101, 116, 32]) ++ r41.1)))))) else (
 j34 (((r16 ++ (ByteArray.mk #[32])) ++ r9.1) ++ ((ByteArray.mk #[32, 111, 117, 116, 32]) ++ r26))))))))))
theorem ty_rule_Print {n : Nat} (hn : bigN ≤ n) (a0 : T_Rule) : Rv (fun x : (ByteArray × Int) => V.tup [(vt x.1), (eV x.2)]) (sem_rule_Print n [(T_Rule.e a0)]) (t_rule_Print a0) := by
  rw [eq_rule_Print]
  unfold t_rule_Print
  refine tb (x := (T_Rule.c a0)) rfl ?_
  refine tb (x := (T_Rule.e a0)) (rfl) ?_
  refine tbo (ty_rule_Check hn a0) fun r4 => ?_
  refine tb (x := (vb (!decide (r4 = 0)))) (p_err_neq _) ?_
  refine tcond (fun h6 => ?_) (fun h6 => ?_)
  · exact rf_ret rfl
  · refine tb (x := (T_Cube.e a0.Cube)) (rfl) ?_
    refine tbo (ty_cube_Print hn a0.Cube) fun r9 => ?_
    refine tb (x := (vt r9.1)) (rfl) ?_
    refine tb (x := (eV r9.2)) (rfl) ?_
    refine tb (x := (vb (!decide (r9.2 = 0)))) (p_err_neq _) ?_
    refine tcond (fun h13 => ?_) (fun h13 => ?_)
    · exact rf_ret rfl
    · refine tb (x := (vi a0.Prio)) (rfl) ?_
      refine tbo (ty_Itoa a0.Prio) fun r16 => ?_
      refine tneed (x := (vt (r16 ++ (ByteArray.mk #[32])))) (fun h53 => p_add_str h53) fun h53 => ?_
      refine tneed (x := (vt ((r16 ++ (ByteArray.mk #[32])) ++ r9.1))) (fun h52 => p_add_str h52) fun h52 => ?_
      refine tb (x := (vi a0.Out)) (rfl) ?_
      refine tb (x := (vb (decide (a0.Out = 0)))) (d_eql) ?_
      refine tcond (fun h21 => ?_) (fun h21 => ?_)
      · refine tneed (x := (vt (((r16 ++ (ByteArray.mk #[32])) ++ r9.1) ++ (ByteArray.mk #[32, 100, 114, 111, 112])))) (fun h23 => p_add_str h23) fun h23 => ?_
        exact rf_ret rfl
      · refine tb (x := (vi a0.Out)) (rfl) ?_
        refine tbo (ty_Itoa a0.Out) fun r26 => ?_
        refine tneed (x := (vt ((ByteArray.mk #[32, 111, 117, 116, 32]) ++ r26))) (fun h51 => p_add_str h51) fun h51 => ?_
        refine tneed (x := (vt (((r16 ++ (ByteArray.mk #[32])) ++ r9.1) ++ ((ByteArray.mk #[32, 111, 117, 116, 32]) ++ r26)))) (fun h50 => p_add_str h50) fun h50 => ?_
        refine tb (x := (vi a0.Set)) (rfl) ?_
        refine tb (x := (vb (decide (a0.Set ≠ 0)))) (d_neq) ?_
        refine tjoin (mk := fun s33 : ByteArray => [(vt s33)]) (fun s33 => ?_) fun J32 j34 h35 => ?_
        · exact rf_ret rfl
        · refine tcond (fun h36 => ?_) (fun h36 => ?_)
          · refine tb (x := (vi a0.Set)) (rfl) ?_
            refine tb (x := (vi a0.Value)) (rfl) ?_
            refine tb (x := (T_Cube.e (T_Cube.mk a0.Set a0.Value))) (by kernel_rfl) ?_
            refine tbo (ty_cube_Print hn (T_Cube.mk a0.Set a0.Value)) fun r41 => ?_
            refine tb (x := (vt r41.1)) (rfl) ?_
            refine tb (x := (eV r41.2)) (rfl) ?_
            refine tb (x := (vb (!decide (r41.2 = 0)))) (p_err_neq _) ?_
            refine tcond (fun h45 => ?_) (fun h45 => ?_)
            · exact rf_ret rfl
            · refine tneed (x := (vt ((ByteArray.mk #[32, 115, 101, 116, 32]) ++ r41.1))) (fun h49 => p_add_str h49) fun h49 => ?_
              refine tneed (x := (vt ((((r16 ++ (ByteArray.mk #[32])) ++ r9.1) ++ ((ByteArray.mk #[32, 111, 117, 116, 32]) ++ r26)) ++ ((ByteArray.mk #[32, 115, 101, 116, 32]) ++ r41.1)))) (fun h48 => p_add_str h48) fun h48 => ?_
              exact h35 ((((r16 ++ (ByteArray.mk #[32])) ++ r9.1) ++ ((ByteArray.mk #[32, 111, 117, 116, 32]) ++ r26)) ++ ((ByteArray.mk #[32, 115, 101, 116, 32]) ++ r41.1))
          · exact h35 (((r16 ++ (ByteArray.mk #[32])) ++ r9.1) ++ ((ByteArray.mk #[32, 111, 117, 116, 32]) ++ r26))

/-! railpoint/text.Print -/
def an_text_Print : Ann := .seq (.reg 0 [] [] []) (.seq (.seq (.reg 0 [] [] []) (.seq (.reg 0 [] [] []) (.cond none (.seq (.reg 0 [] [] []) (.no)) (.no)))) (.seq (.seq (.reg 0 [] [] []) (.seq (.reg 0 [] [] []) (.cond none (.seq (.reg 0 [] [] []) (.no)) (.no)))) (.seq (.reg 0 [] [] [40]) (.seq (.seq (.reg 0 [] [] []) (.blk (some [.kb 2, .r 8 9]) (.loop [.kb 2, .r 8 9, .s 45] (.seq (.reg 0 [] [] []) (.seq (.cond none (.no) (.no)) (.seq (.blk none (.seq (.reg 0 [] [] []) (.reg 11 [] [] []))) (.reg 0 [] [] []))))))) (.seq (.seq (.reg 0 [] [] []) (.blk (some [.kb 2, .r 8 9]) (.loop [.kb 2, .r 8 9, .s 66] (.seq (.reg 0 [] [] []) (.seq (.cond none (.no) (.no)) (.seq (.blk none (.seq (.reg 0 [] [] []) (.reg 10 [] [] []))) (.reg 0 [] [] []))))))) (.seq (.seq (.reg 0 [] [] []) (.blk (some [.r 8 9]) (.loop [.r 8 9, .s 85] (.seq (.reg 0 [] [] []) (.seq (.cond none (.no) (.no)) (.seq (.blk (some [.r 8 9]) (.seq (.reg 0 [] [] []) (.seq (.reg 0 [] [] []) (.blk (some [.r 8 9]) (.loop [.r 8 9, .s 92] (.seq (.reg 0 [] [] []) (.seq (.cond none (.no) (.no)) (.seq (.blk none (.seq (.reg 0 [] [] []) (.seq (.reg 0 [] [] []) (.seq (.seq (.reg 0 [] [] []) (.cond none (.seq (.reg 0 [] [] []) (.no)) (.no))) (.reg 0 [] [] []))))) (.reg 0 [] [] []))))))))) (.reg 0 [] [] []))))))) (.seq (.seq (.reg 0 [] [] []) (.blk (some [.s 8]) (.loop [.r 8 9, .s 118] (.seq (.reg 0 [] [] []) (.seq (.cond none (.no) (.no)) (.seq (.blk none (.seq (.reg 0 [] [] []) (.seq (.reg 0 [] [] []) (.seq (.seq (.reg 0 [] [] []) (.cond none (.seq (.reg 0 [] [] []) (.no)) (.no))) (.reg 0 [] [] []))))) (.reg 0 [] [] []))))))) (.seq (.reg 0 [] [] []) (.no)))))))))
noncomputable def sem_text_Print (n : Nat) (xs : List V) : Option V := if xs.length ≤ 138 then denF Tryd.prog (envOf [(5, (sem_net_Check n)), (6, (sem_wish_Check n)), (7, (semItoa)), (8, (sem_text_spot n)), (9, (sem_rule_Print n)), (10, (sem_WPrint n)), (11, (semJoin))]) n Tryd.f4 an_text_Print xs else none
theorem ok_text_Print (n : Nat) : SemOk Tryd.prog DW 4 (sem_text_Print n) := fun xs y h => by
  unfold sem_text_Print at h
  split at h
  · rename_i hl
    exact denF_ok stb Tryd.func4 (by kernel_rfl) (envOf_ok (semsOk_cons (ok_net_Check n) (semsOk_cons (ok_wish_Check n) (semsOk_cons (ok_Itoa) (semsOk_cons (ok_text_spot n) (semsOk_cons (ok_rule_Print n) (semsOk_cons (ok_WPrint n) (semsOk_cons (ok_Join) semsOk_nil)))))))) (by rw [Tryd.ntmps4]; exact hl) h
  · cases h
theorem eq_text_Print (n : Nat) (x0 x1 : V) : sem_text_Print n [x0, x1] =
 (V.cellsO x0).bind fun v1 =>
 (ldk (some 4) (List.drop 0 v1)).bind fun v2 =>
 ((sem_net_Check n) [v2]).bind fun v3 =>
 (bin2 Tryd.prog BinOp.neq 31 (ot 25) (Operand.const Go.Value.nilIface) v3 vn).bind fun v4 =>
 condV v4 (
 some (V.tup [(V.lit (Go.Value.string (ByteArray.mk #[]))), v3])) (
 (ldk (some 3) (List.drop 0 v1)).bind fun v5 =>
 ((sem_wish_Check n) [v5, x1]).bind fun v6 =>
 (bin2 Tryd.prog BinOp.neq 31 (ot 32) (Operand.const Go.Value.nilIface) v6 vn).bind fun v7 =>
 condV v7 (
 some (V.tup [(V.lit (Go.Value.string (ByteArray.mk #[]))), v6])) (
 (ldk none (List.drop 0 v1)).bind fun v8 =>
 ((semItoa) [v8]).bind fun v9 =>
 (bin2 Tryd.prog BinOp.add 9 (Operand.const (Go.Value.string (ByteArray.mk #[115, 119, 105, 116, 99, 104, 101, 115, 32]))) (ot 38) (V.lit (Go.Value.string (ByteArray.mk #[115, 119, 105, 116, 99, 104, 101, 115, 32]))) v9).bind fun v10 =>
 (slcB 1 1 [(V.lit (Go.Value.string (ByteArray.mk #[])))] [(0, v10)]).bind fun v11 =>
 (ldk none (List.drop 1 v1)).bind fun v12 =>
 (lenS [v12]).bind fun v13 =>
 JoinPt (fun vs14 =>
 (ldk none (List.drop 2 v1)).bind fun v16 =>
 (lenS [v16]).bind fun v17 =>
 JoinPt (fun vs18 =>
 (ldk none (List.drop 3 v1)).bind fun v20 =>
 (lenS [v20]).bind fun v21 =>
 JoinPt (fun vs22 =>
 (lenS [x1]).bind fun v24 =>
 JoinPt (fun vs25 =>
 ((semJoin) [(List.getD vs25 0 V.any), (V.lit (Go.Value.string (ByteArray.mk #[10])))]).bind fun v27 =>
 (bin2 Tryd.prog BinOp.add 9 (ot 136) (Operand.const (Go.Value.string (ByteArray.mk #[10]))) v27 (V.lit (Go.Value.string (ByteArray.mk #[10])))).bind fun v28 =>
 some (V.tup [v28, vn])) fun J26 =>
 (fixN (fun rec29 vs30 =>
 (bin2 Tryd.prog BinOp.lss 3 (ot 118) (ot 117) (List.getD vs30 1 V.any) v24).bind fun v31 =>
 condV v31 (
 (idxS 4 x1 (List.getD vs30 1 V.any)).bind fun v32 =>
 (ldp (some 4) v32).bind fun v33 =>
 (spliceV [(vi 0), (V.lit (Go.Value.string (ByteArray.mk #[]))), (V.lit (Go.Value.string (ByteArray.mk #[]))), (vi 0)] 0 4 v33).bind fun v34 =>
 (ldk (some 4) (List.drop 0 (aggL v34))).bind fun v35 =>
 ((sem_WPrint n) [v35]).bind fun v36 =>
 (extractV v36 0).bind fun v37 =>
 (extractV v36 1).bind fun v38 =>
 (bin2 Tryd.prog BinOp.neq 31 (ot 127) (Operand.const Go.Value.nilIface) v38 vn).bind fun v39 =>
 condV v39 (
 some (V.tup [(V.lit (Go.Value.string (ByteArray.mk #[]))), v38])) (
 (slcB 1 1 [(V.lit (Go.Value.string (ByteArray.mk #[])))] [(0, v37)]).bind fun v40 =>
 (appV 1 (slL (List.getD vs30 0 V.any)) v40).bind fun v41 =>
 (bin2 Tryd.prog BinOp.add 3 (ot 118) (oc 1) (List.getD vs30 1 V.any) (vi 1)).bind fun v42 =>
 rec29 [(V.sl (slL v41)), v42])) (
 J26 [(V.sl (slL (List.getD vs30 0 V.any)))])) n) [(V.sl (slL (List.getD vs22 0 V.any))), (vi 0)]) fun J23 =>
 (fixN (fun rec43 vs44 =>
 (bin2 Tryd.prog BinOp.lss 3 (ot 85) (ot 84) (List.getD vs44 1 V.any) v21).bind fun v45 =>
 condV v45 (
 JoinPt (fun vs46 =>
 (bin2 Tryd.prog BinOp.add 3 (ot 85) (oc 1) (List.getD vs44 1 V.any) (vi 1)).bind fun v48 =>
 rec43 [(V.sl (slL (List.getD vs46 0 V.any))), v48]) fun J47 =>
 (idxS 1 v20 (List.getD vs44 1 V.any)).bind fun v49 =>
 (ldp none v49).bind fun v50 =>
 (lenS [v50]).bind fun v51 =>
 JoinPt (fun vs52 =>
 J47 [(V.sl (slL (List.getD vs52 0 V.any)))]) fun J53 =>
 (fixN (fun rec54 vs55 =>
 (bin2 Tryd.prog BinOp.lss 3 (ot 92) (ot 91) (List.getD vs55 1 V.any) v51).bind fun v56 =>
 condV v56 (
 (idxS 6 v50 (List.getD vs55 1 V.any)).bind fun v57 =>
 (ldp (some 6) v57).bind fun v58 =>
 (spliceV [(vi 0), (vi 0), (vi 0), (vi 0), (vi 0), (vi 0)] 0 6 v58).bind fun v59 =>
 (ldk (some 6) (List.drop 0 (aggL v59))).bind fun v60 =>
 ((sem_rule_Print n) [v60]).bind fun v61 =>
 (extractV v61 0).bind fun v62 =>
 (extractV v61 1).bind fun v63 =>
 (bin2 Tryd.prog BinOp.neq 31 (ot 101) (Operand.const Go.Value.nilIface) v63 vn).bind fun v64 =>
 condV v64 (
 some (V.tup [(V.lit (Go.Value.string (ByteArray.mk #[]))), v63])) (
 (bin2 Tryd.prog BinOp.add 3 (ot 105) (oc 1) (List.getD vs44 1 V.any) (vi 1)).bind fun v65 =>
 ((semItoa) [v65]).bind fun v66 =>
 (bin2 Tryd.prog BinOp.add 9 (Operand.const (Go.Value.string (ByteArray.mk #[114, 117, 108, 101, 32]))) (ot 107) (V.lit (Go.Value.string (ByteArray.mk #[114, 117, 108, 101, 32]))) v66).bind fun v67 =>
 (bin2 Tryd.prog BinOp.add 9 (ot 108) (Operand.const (Go.Value.string (ByteArray.mk #[32]))) v67 (V.lit (Go.Value.string (ByteArray.mk #[32])))).bind fun v68 =>
 (bin2 Tryd.prog BinOp.add 9 (ot 109) (ot 110) v68 v62).bind fun v69 =>
 (slcB 1 1 [(V.lit (Go.Value.string (ByteArray.mk #[])))] [(0, v69)]).bind fun v70 =>
 (appV 1 (slL (List.getD vs55 0 V.any)) v70).bind fun v71 =>
 (bin2 Tryd.prog BinOp.add 3 (ot 92) (oc 1) (List.getD vs55 1 V.any) (vi 1)).bind fun v72 =>
 rec54 [(V.sl (slL v71)), v72])) (
 J53 [(V.sl (slL (List.getD vs55 0 V.any)))])) n) [(V.sl (slL (List.getD vs44 0 V.any))), (vi 0)]) (
 J23 [(V.sl (slL (List.getD vs44 0 V.any)))])) n) [(V.sl (slL (List.getD vs18 0 V.any))), (vi 0)]) fun J19 =>
 (keepO (some v1) (some v1) (some [(V.sl (slL (List.getD vs14 0 V.any))), (vi 0)])).bind (fixN (fun rec73 vs74 =>
 (bin2 Tryd.prog BinOp.lss 3 (ot 66) (ot 65) (List.getD vs74 1 V.any) v17).bind fun v75 =>
 condV v75 (
 (idxS 3 v16 (List.getD vs74 1 V.any)).bind fun v76 =>
 (ldp (some 3) v76).bind fun v77 =>
 (spliceV [(V.lit (Go.Value.string (ByteArray.mk #[]))), (vi 0), (vi 0)] 0 3 v77).bind fun v78 =>
 (ldk none (List.drop 0 (aggL v78))).bind fun v79 =>
 (bin2 Tryd.prog BinOp.add 9 (Operand.const (Go.Value.string (ByteArray.mk #[104, 111, 115, 116, 32]))) (ot 72) (V.lit (Go.Value.string (ByteArray.mk #[104, 111, 115, 116, 32]))) v79).bind fun v80 =>
 (bin2 Tryd.prog BinOp.add 9 (ot 73) (Operand.const (Go.Value.string (ByteArray.mk #[32]))) v80 (V.lit (Go.Value.string (ByteArray.mk #[32])))).bind fun v81 =>
 (ldk (some 2) (List.drop 1 (aggL v78))).bind fun v82 =>
 ((sem_text_spot n) [v82]).bind fun v83 =>
 (bin2 Tryd.prog BinOp.add 9 (ot 74) (ot 77) v81 v83).bind fun v84 =>
 (slcB 1 1 [(V.lit (Go.Value.string (ByteArray.mk #[])))] [(0, v84)]).bind fun v85 =>
 (appV 1 (slL (List.getD vs74 0 V.any)) v85).bind fun v86 =>
 (bin2 Tryd.prog BinOp.add 3 (ot 66) (oc 1) (List.getD vs74 1 V.any) (vi 1)).bind fun v87 =>
 (keepO (some v1) (some v1) (some [(V.sl (slL v86)), v87])).bind rec73) (
 (keepO (some v1) (some v1) (some [(V.sl (slL (List.getD vs74 0 V.any)))])).bind J19)) n)) fun J15 =>
 (keepO (some v1) (some v1) (some [(V.sl (slL v11)), (vi 0)])).bind (fixN (fun rec88 vs89 =>
 (bin2 Tryd.prog BinOp.lss 3 (ot 45) (ot 44) (List.getD vs89 1 V.any) v13).bind fun v90 =>
 condV v90 (
 (idxS 4 v12 (List.getD vs89 1 V.any)).bind fun v91 =>
 (ldp (some 4) v91).bind fun v92 =>
 (spliceV [(vi 0), (vi 0), (vi 0), (vi 0)] 0 4 v92).bind fun v93 =>
 (ldk (some 2) (List.drop 0 (aggL v93))).bind fun v94 =>
 ((sem_text_spot n) [v94]).bind fun v95 =>
 (bin2 Tryd.prog BinOp.add 9 (Operand.const (Go.Value.string (ByteArray.mk #[108, 105, 110, 107, 32]))) (ot 52) (V.lit (Go.Value.string (ByteArray.mk #[108, 105, 110, 107, 32]))) v95).bind fun v96 =>
 (bin2 Tryd.prog BinOp.add 9 (ot 53) (Operand.const (Go.Value.string (ByteArray.mk #[32]))) v96 (V.lit (Go.Value.string (ByteArray.mk #[32])))).bind fun v97 =>
 (ldk (some 2) (List.drop 2 (aggL v93))).bind fun v98 =>
 ((sem_text_spot n) [v98]).bind fun v99 =>
 (bin2 Tryd.prog BinOp.add 9 (ot 54) (ot 57) v97 v99).bind fun v100 =>
 (slcB 1 1 [(V.lit (Go.Value.string (ByteArray.mk #[])))] [(0, v100)]).bind fun v101 =>
 (appV 1 (slL (List.getD vs89 0 V.any)) v101).bind fun v102 =>
 (bin2 Tryd.prog BinOp.add 3 (ot 45) (oc 1) (List.getD vs89 1 V.any) (vi 1)).bind fun v103 =>
 (keepO (some v1) (some v1) (some [(V.sl (slL v102)), v103])).bind rec88) (
 (keepO (some v1) (some v1) (some [(V.sl (slL (List.getD vs89 0 V.any)))])).bind J15)) n))) := by kernel_rfl
noncomputable def t_text_Print (a0 : T_Net) (a1 : (List T_Wish)) : Option (ByteArray × Int) :=
 (t_net_Check a0).bind fun r4 =>
 if (!decide (r4 = 0)) = true then (
 some ((ByteArray.mk #[]), r4)) else (
 (t_wish_Check a0.Topo a1).bind fun r9 =>
 if (!decide (r9 = 0)) = true then (
 some ((ByteArray.mk #[]), r9)) else (
 (t_Itoa a0.Topo.Switches).bind fun r14 =>
 need (decide (((ByteArray.mk #[115, 119, 105, 116, 99, 104, 101, 115, 32]).size : Int) + r14.size ≤ maxI)) (
 (loopI a0.Topo.Links (fun (i182 : Int) x183 (s178 : (List ByteArray)) k179 =>
 (t_text_spot x183.A).bind fun r193 =>
 need (decide (((ByteArray.mk #[108, 105, 110, 107, 32]).size : Int) + r193.size ≤ maxI)) (
 need (decide ((((ByteArray.mk #[108, 105, 110, 107, 32]) ++ r193).size : Int) + (ByteArray.mk #[32]).size ≤ maxI)) (
 (t_text_spot x183.B).bind fun r198 =>
 need (decide (((((ByteArray.mk #[108, 105, 110, 107, 32]) ++ r193) ++ (ByteArray.mk #[32])).size : Int) + r198.size ≤ maxI)) (
 (app s178 ([((((ByteArray.mk #[108, 105, 110, 107, 32]) ++ r193) ++ (ByteArray.mk #[32])) ++ r198)] : (List ByteArray))).bind fun r202 =>
 k179 (r202))))) (fun (s178 : (List ByteArray)) =>
 some (s178)) ([((ByteArray.mk #[115, 119, 105, 116, 99, 104, 101, 115, 32]) ++ r14)] : (List ByteArray))).bind fun (s21 : (List ByteArray)) =>
 (loopI a0.Topo.Hosts (fun (i150 : Int) x151 (s146 : (List ByteArray)) k147 =>
 need (decide (((ByteArray.mk #[104, 111, 115, 116, 32]).size : Int) + x151.Name.size ≤ maxI)) (
 need (decide ((((ByteArray.mk #[104, 111, 115, 116, 32]) ++ x151.Name).size : Int) + (ByteArray.mk #[32]).size ≤ maxI)) (
 (t_text_spot x151.At).bind fun r164 =>
 need (decide (((((ByteArray.mk #[104, 111, 115, 116, 32]) ++ x151.Name) ++ (ByteArray.mk #[32])).size : Int) + r164.size ≤ maxI)) (
 (app s146 ([((((ByteArray.mk #[104, 111, 115, 116, 32]) ++ x151.Name) ++ (ByteArray.mk #[32])) ++ r164)] : (List ByteArray))).bind fun r168 =>
 k147 (r168))))) (fun (s146 : (List ByteArray)) =>
 some (s146)) (s21)).bind fun (s28 : (List ByteArray)) =>
 join (fun (s35 : (List ByteArray)) =>
 join (fun (s41 : (List ByteArray)) =>
 (t_Join s41 (ByteArray.mk #[10])).bind fun r45 =>
 need (decide ((r45.size : Int) + (ByteArray.mk #[10]).size ≤ maxI)) (
 some ((r45 ++ (ByteArray.mk #[10])), 0))) fun j42 =>
 loopI a1 (fun (i54 : Int) x55 (s50 : (List ByteArray)) k51 =>
 (t_wish_Print x55).bind fun r65 =>
 if (!decide (r65.2 = 0)) = true then (
 some ((ByteArray.mk #[]), r65.2)) else (
 (app s50 ([r65.1] : (List ByteArray))).bind fun r72 =>
 k51 (r72))) (fun (s50 : (List ByteArray)) =>
 j42 (s50)) (s35)) fun j36 =>
 loopI a0.Tables (fun (i83 : Int) x84 (s79 : (List ByteArray)) k80 =>
 join (fun (s91 : (List ByteArray)) =>
 k80 (s91)) fun j92 =>
 join (fun (s100 : (List ByteArray)) =>
 j92 (s100)) fun j101 =>
 loopI x84 (fun (i109 : Int) x110 (s105 : (List ByteArray)) k106 =>
 (t_rule_Print x110).bind fun r120 =>
 if (!decide (r120.2 = 0)) = true then (
 some ((ByteArray.mk #[]), r120.2)) else (
 (t_Itoa (i83 + 1)).bind fun r127 =>
 need (decide (((ByteArray.mk #[114, 117, 108, 101, 32]).size : Int) + r127.size ≤ maxI)) (
 need (decide ((((ByteArray.mk #[114, 117, 108, 101, 32]) ++ r127).size : Int) + (ByteArray.mk #[32]).size ≤ maxI)) (
 need (decide (((((ByteArray.mk #[114, 117, 108, 101, 32]) ++ r127) ++ (ByteArray.mk #[32])).size : Int) + r120.1.size ≤ maxI)) (
 (app s105 ([((((ByteArray.mk #[114, 117, 108, 101, 32]) ++ r127) ++ (ByteArray.mk #[32])) ++ r120.1)] : (List ByteArray))).bind fun r133 =>
 k106 (r133)))))) (fun (s105 : (List ByteArray)) =>
 j101 (s105)) (s79)) (fun (s79 : (List ByteArray)) =>
 j36 (s79)) (s28))))
theorem ty_text_Print {n : Nat} (hn : bigN ≤ n) (a0 : T_Net) (a1 : (List T_Wish)) : Rv (fun x : (ByteArray × Int) => V.tup [(vt x.1), (eV x.2)]) (sem_text_Print n [(T_Net.e a0), (V.sl (List.map T_Wish.c a1))]) (t_text_Print a0 a1) := by
  rw [eq_text_Print]
  unfold t_text_Print
  refine tb (x := (T_Net.c a0)) rfl ?_
  refine tb (x := (T_Net.e a0)) (rfl) ?_
  refine tbo (ty_net_Check hn a0) fun r4 => ?_
  refine tb (x := (vb (!decide (r4 = 0)))) (p_err_neq _) ?_
  refine tcond (fun h6 => ?_) (fun h6 => ?_)
  · exact rf_ret rfl
  · refine tb (x := (T_Topo.e a0.Topo)) (rfl) ?_
    refine tbo (ty_wish_Check hn a0.Topo a1) fun r9 => ?_
    refine tb (x := (vb (!decide (r9 = 0)))) (p_err_neq _) ?_
    refine tcond (fun h11 => ?_) (fun h11 => ?_)
    · exact rf_ret rfl
    · refine tb (x := (vi a0.Topo.Switches)) (rfl) ?_
      refine tbo (ty_Itoa a0.Topo.Switches) fun r14 => ?_
      refine tneed (x := (vt ((ByteArray.mk #[115, 119, 105, 116, 99, 104, 101, 115, 32]) ++ r14))) (fun h210 => p_add_str h210) fun h210 => ?_
      refine tb (x := (V.sl (List.map cT ([((ByteArray.mk #[115, 119, 105, 116, 99, 104, 101, 115, 32]) ++ r14)] : (List ByteArray))))) (by kernel_rfl) ?_
      refine tb (x := (V.sl (List.map T_Link.c a0.Topo.Links))) (rfl) ?_
      refine tb (x := (vi (List.length a0.Topo.Links : Int))) (p_len _) ?_
      refine tjb (mk := fun s21 : (List ByteArray) => [(V.sl (List.map cT s21))]) (fun J20 => ?_) fun s21 => ?_
      · refine tkeepO2 ?_ rfl
        refine tsome ?_
        refine rf_loopI (mk := fun (i182 : Int) (s178 : (List ByteArray)) => [(V.sl (List.map cT s178)), (vi (i182 : Int))]) hn a0.Topo.Links ([((ByteArray.mk #[115, 119, 105, 116, 99, 104, 101, 115, 32]) ++ r14)] : (List ByteArray)) (fun i182 x183 h184 h185 h186 s178 rec176 k179 h180 => ?_) (fun s178 rec208 h207 => ?_)
        · refine tb (x := (vb (decide ((i182 : Int) < (List.length a0.Topo.Links : Int))))) (d_lss) ?_
          refine tcond_t h186 ?_
          refine tb (x := (V.ptr (T_Link.c x183))) (p_idx_at (c := T_Link.c) (fun _ => rfl) h184) ?_
          refine tb (x := (T_Link.e x183)) (rfl) ?_
          refine tb (x := V.agg (T_Link.c x183)) (by kernel_rfl) ?_
          refine tb (x := (T_Spot.e x183.A)) (rfl) ?_
          refine tbo (ty_text_spot hn x183.A) fun r193 => ?_
          refine tneed (x := (vt ((ByteArray.mk #[108, 105, 110, 107, 32]) ++ r193))) (fun h206 => p_add_str h206) fun h206 => ?_
          refine tneed (x := (vt (((ByteArray.mk #[108, 105, 110, 107, 32]) ++ r193) ++ (ByteArray.mk #[32])))) (fun h205 => p_add_str h205) fun h205 => ?_
          refine tb (x := (T_Spot.e x183.B)) (rfl) ?_
          refine tbo (ty_text_spot hn x183.B) fun r198 => ?_
          refine tneed (x := (vt ((((ByteArray.mk #[108, 105, 110, 107, 32]) ++ r193) ++ (ByteArray.mk #[32])) ++ r198))) (fun h204 => p_add_str h204) fun h204 => ?_
          refine tb (x := (V.sl (List.map cT ([((((ByteArray.mk #[108, 105, 110, 107, 32]) ++ r193) ++ (ByteArray.mk #[32])) ++ r198)] : (List ByteArray))))) (by kernel_rfl) ?_
          refine tbo (p_app (c := cT) (fun _ => rfl) s178 ([((((ByteArray.mk #[108, 105, 110, 107, 32]) ++ r193) ++ (ByteArray.mk #[32])) ++ r198)] : (List ByteArray))) fun r202 => ?_
          refine tb (x := (vi ((i182 : Int) + 1))) (p_incN h185) ?_
          refine tkeepO2 ?_ rfl
          refine tsome ?_
          exact h180 (r202)
        · refine tb (x := (vb (decide ((List.length a0.Topo.Links : Int) < (List.length a0.Topo.Links : Int))))) (d_lss) ?_
          refine tcond_f h207 ?_
          refine tkeepO2 ?_ rfl
          refine tsome ?_
          exact rf_j rfl
      · refine tb (x := (V.sl (List.map T_Host.c a0.Topo.Hosts))) (rfl) ?_
        refine tb (x := (vi (List.length a0.Topo.Hosts : Int))) (p_len _) ?_
        refine tjb (mk := fun s28 : (List ByteArray) => [(V.sl (List.map cT s28))]) (fun J27 => ?_) fun s28 => ?_
        · refine tkeepO2 ?_ rfl
          refine tsome ?_
          refine rf_loopI (mk := fun (i150 : Int) (s146 : (List ByteArray)) => [(V.sl (List.map cT s146)), (vi (i150 : Int))]) hn a0.Topo.Hosts (s21) (fun i150 x151 h152 h153 h154 s146 rec144 k147 h148 => ?_) (fun s146 rec174 h173 => ?_)
          · refine tb (x := (vb (decide ((i150 : Int) < (List.length a0.Topo.Hosts : Int))))) (d_lss) ?_
            refine tcond_t h154 ?_
            refine tb (x := (V.ptr (T_Host.c x151))) (p_idx_at (c := T_Host.c) (fun _ => rfl) h152) ?_
            refine tb (x := (T_Host.e x151)) (rfl) ?_
            refine tb (x := V.agg (T_Host.c x151)) (by kernel_rfl) ?_
            refine tb (x := (vt x151.Name)) (rfl) ?_
            refine tneed (x := (vt ((ByteArray.mk #[104, 111, 115, 116, 32]) ++ x151.Name))) (fun h172 => p_add_str h172) fun h172 => ?_
            refine tneed (x := (vt (((ByteArray.mk #[104, 111, 115, 116, 32]) ++ x151.Name) ++ (ByteArray.mk #[32])))) (fun h171 => p_add_str h171) fun h171 => ?_
            refine tb (x := (T_Spot.e x151.At)) (rfl) ?_
            refine tbo (ty_text_spot hn x151.At) fun r164 => ?_
            refine tneed (x := (vt ((((ByteArray.mk #[104, 111, 115, 116, 32]) ++ x151.Name) ++ (ByteArray.mk #[32])) ++ r164))) (fun h170 => p_add_str h170) fun h170 => ?_
            refine tb (x := (V.sl (List.map cT ([((((ByteArray.mk #[104, 111, 115, 116, 32]) ++ x151.Name) ++ (ByteArray.mk #[32])) ++ r164)] : (List ByteArray))))) (by kernel_rfl) ?_
            refine tbo (p_app (c := cT) (fun _ => rfl) s146 ([((((ByteArray.mk #[104, 111, 115, 116, 32]) ++ x151.Name) ++ (ByteArray.mk #[32])) ++ r164)] : (List ByteArray))) fun r168 => ?_
            refine tb (x := (vi ((i150 : Int) + 1))) (p_incN h153) ?_
            refine tkeepO2 ?_ rfl
            refine tsome ?_
            exact h148 (r168)
          · refine tb (x := (vb (decide ((List.length a0.Topo.Hosts : Int) < (List.length a0.Topo.Hosts : Int))))) (d_lss) ?_
            refine tcond_f h173 ?_
            refine tkeepO2 ?_ rfl
            refine tsome ?_
            exact rf_j rfl
        · refine tb (x := (V.sl (List.map (cS T_Rule.c) a0.Tables))) (rfl) ?_
          refine tb (x := (vi (List.length a0.Tables : Int))) (p_len _) ?_
          refine tjoin (mk := fun s35 : (List ByteArray) => [(V.sl (List.map cT s35))]) (fun s35 => ?_) fun J34 j36 h37 => ?_
          · refine tb (x := (vi (List.length a1 : Int))) (p_len _) ?_
            refine tjoin (mk := fun s41 : (List ByteArray) => [(V.sl (List.map cT s41))]) (fun s41 => ?_) fun J40 j42 h43 => ?_
            · refine tbo (ty_Join s41 (ByteArray.mk #[10])) fun r45 => ?_
              refine tneed (x := (vt (r45 ++ (ByteArray.mk #[10])))) (fun h47 => p_add_str h47) fun h47 => ?_
              exact rf_ret rfl
            · refine rf_loopI (mk := fun (i54 : Int) (s50 : (List ByteArray)) => [(V.sl (List.map cT s50)), (vi (i54 : Int))]) hn a1 (s35) (fun i54 x55 h56 h57 h58 s50 rec48 k51 h52 => ?_) (fun s50 rec75 h74 => ?_)
              · refine tb (x := (vb (decide ((i54 : Int) < (List.length a1 : Int))))) (d_lss) ?_
                refine tcond_t h58 ?_
                refine tb (x := (V.ptr (T_Wish.c x55))) (p_idx_at (c := T_Wish.c) (fun _ => rfl) h56) ?_
                refine tb (x := (T_Wish.e x55)) (rfl) ?_
                refine tb (x := V.agg (T_Wish.c x55)) (by kernel_rfl) ?_
                refine tb (x := (T_Wish.e x55)) (rfl) ?_
                refine tbo (ty_wish_Print x55) fun r65 => ?_
                refine tb (x := (vt r65.1)) (rfl) ?_
                refine tb (x := (eV r65.2)) (rfl) ?_
                refine tb (x := (vb (!decide (r65.2 = 0)))) (p_err_neq _) ?_
                refine tcond (fun h69 => ?_) (fun h69 => ?_)
                · exact rf_ret rfl
                · refine tb (x := (V.sl (List.map cT ([r65.1] : (List ByteArray))))) (by kernel_rfl) ?_
                  refine tbo (p_app (c := cT) (fun _ => rfl) s50 ([r65.1] : (List ByteArray))) fun r72 => ?_
                  refine tb (x := (vi ((i54 : Int) + 1))) (p_incN h57) ?_
                  exact h52 (r72)
              · refine tb (x := (vb (decide ((List.length a1 : Int) < (List.length a1 : Int))))) (d_lss) ?_
                refine tcond_f h74 ?_
                exact h43 (s50)
          · refine rf_loopI (mk := fun (i83 : Int) (s79 : (List ByteArray)) => [(V.sl (List.map cT s79)), (vi (i83 : Int))]) hn a0.Tables (s28) (fun i83 x84 h85 h86 h87 s79 rec77 k80 h81 => ?_) (fun s79 rec142 h141 => ?_)
            · refine tb (x := (vb (decide ((i83 : Int) < (List.length a0.Tables : Int))))) (d_lss) ?_
              refine tcond_t h87 ?_
              refine tjoin (mk := fun s91 : (List ByteArray) => [(V.sl (List.map cT s91))]) (fun s91 => ?_) fun J90 j92 h93 => ?_
              · refine tb (x := (vi ((i83 : Int) + 1))) (p_incN h86) ?_
                exact h81 (s91)
              · refine tb (x := (V.ptr [(V.sl (List.map T_Rule.c x84))])) (p_idx_at (c := (cS T_Rule.c)) (fun _ => rfl) h85) ?_
                refine tb (x := (V.sl (List.map T_Rule.c x84))) (rfl) ?_
                refine tb (x := (vi (List.length x84 : Int))) (p_len _) ?_
                refine tjoin (mk := fun s100 : (List ByteArray) => [(V.sl (List.map cT s100))]) (fun s100 => ?_) fun J99 j101 h102 => ?_
                · exact h93 (s100)
                · refine rf_loopI (mk := fun (i109 : Int) (s105 : (List ByteArray)) => [(V.sl (List.map cT s105)), (vi (i109 : Int))]) hn x84 (s79) (fun i109 x110 h111 h112 h113 s105 rec103 k106 h107 => ?_) (fun s105 rec139 h138 => ?_)
                  · refine tb (x := (vb (decide ((i109 : Int) < (List.length x84 : Int))))) (d_lss) ?_
                    refine tcond_t h113 ?_
                    refine tb (x := (V.ptr (T_Rule.c x110))) (p_idx_at (c := T_Rule.c) (fun _ => rfl) h111) ?_
                    refine tb (x := (T_Rule.e x110)) (rfl) ?_
                    refine tb (x := V.agg (T_Rule.c x110)) (by kernel_rfl) ?_
                    refine tb (x := (T_Rule.e x110)) (rfl) ?_
                    refine tbo (ty_rule_Print hn x110) fun r120 => ?_
                    refine tb (x := (vt r120.1)) (rfl) ?_
                    refine tb (x := (eV r120.2)) (rfl) ?_
                    refine tb (x := (vb (!decide (r120.2 = 0)))) (p_err_neq _) ?_
                    refine tcond (fun h124 => ?_) (fun h124 => ?_)
                    · exact rf_ret rfl
                    · refine tb (x := (vi ((i83 : Int) + 1))) (p_incN h86) ?_
                      refine tbo (ty_Itoa ((i83 : Int) + 1)) fun r127 => ?_
                      refine tneed (x := (vt ((ByteArray.mk #[114, 117, 108, 101, 32]) ++ r127))) (fun h137 => p_add_str h137) fun h137 => ?_
                      refine tneed (x := (vt (((ByteArray.mk #[114, 117, 108, 101, 32]) ++ r127) ++ (ByteArray.mk #[32])))) (fun h136 => p_add_str h136) fun h136 => ?_
                      refine tneed (x := (vt ((((ByteArray.mk #[114, 117, 108, 101, 32]) ++ r127) ++ (ByteArray.mk #[32])) ++ r120.1))) (fun h135 => p_add_str h135) fun h135 => ?_
                      refine tb (x := (V.sl (List.map cT ([((((ByteArray.mk #[114, 117, 108, 101, 32]) ++ r127) ++ (ByteArray.mk #[32])) ++ r120.1)] : (List ByteArray))))) (by kernel_rfl) ?_
                      refine tbo (p_app (c := cT) (fun _ => rfl) s105 ([((((ByteArray.mk #[114, 117, 108, 101, 32]) ++ r127) ++ (ByteArray.mk #[32])) ++ r120.1)] : (List ByteArray))) fun r133 => ?_
                      refine tb (x := (vi ((i109 : Int) + 1))) (p_incN h112) ?_
                      exact h107 (r133)
                  · refine tb (x := (vb (decide ((List.length x84 : Int) < (List.length x84 : Int))))) (d_lss) ?_
                    refine tcond_f h138 ?_
                    exact h102 (s105)
            · refine tb (x := (vb (decide ((List.length a0.Tables : Int) < (List.length a0.Tables : Int))))) (d_lss) ?_
              refine tcond_f h141 ?_
              exact h37 (s79)

/-! railpoint/raillaw4.TextLines -/
def an_raillaw4_TextLines : Ann := .seq (.reg 0 [] [] []) (.seq (.reg 0 [] [] []) (.seq (.seq (.reg 0 [] [] []) (.cond none (.seq (.reg 0 [] [] []) (.no)) (.no))) (.seq (.reg 0 [] [] []) (.seq (.seq (.reg 0 [] [] []) (.cond none (.seq (.reg 0 [] [] []) (.no)) (.no))) (.seq (.reg 0 [] [] []) (.seq (.seq (.reg 0 [] [] []) (.blk (some [.s 9]) (.loop [.kb 2, .s 9, .s 10] (.seq (.seq (.reg 0 [] [] []) (.cond none (.no) (.no))) (.seq (.blk none (.reg 0 [] [] [])) (.reg 0 [] [] [])))))) (.seq (.reg 0 [] [] []) (.seq (.seq (.reg 0 [] [] []) (.blk (some [.s 11]) (.loop [.s 11, .s 12] (.seq (.seq (.reg 0 [] [] []) (.cond none (.no) (.no))) (.seq (.blk none (.seq (.reg 0 [] [] []) (.cond (some [.s 11]) (.reg 0 [] [] []) (.no)))) (.reg 0 [] [] [])))))) (.seq (.reg 0 [] [] []) (.no))))))))))
noncomputable def sem_raillaw4_TextLines (n : Nat) (xs : List V) : Option V := if xs.length ≤ 85 then denF Tryd.prog (envOf [(4, (sem_text_Print n))]) n Tryd.f3 an_raillaw4_TextLines xs else none
theorem ok_raillaw4_TextLines (n : Nat) : SemOk Tryd.prog DW 3 (sem_raillaw4_TextLines n) := fun xs y h => by
  unfold sem_raillaw4_TextLines at h
  split at h
  · rename_i hl
    exact denF_ok stb Tryd.func3 (by kernel_rfl) (envOf_ok (semsOk_cons (ok_text_Print n) semsOk_nil)) (by rw [Tryd.ntmps3]; exact hl) h
  · cases h
theorem eq_raillaw4_TextLines (n : Nat) (x0 x1 : V) : sem_raillaw4_TextLines n [x0, x1] =
 (V.cellsO x0).bind fun v1 =>
 ((fillL [(vi 0), (V.sl []), (V.sl [])] [(0, 1, (vi 1))]).map V.agg).bind fun v2 =>
 (slcB 1 1 [(V.sl [])] [(0, (V.sl []))]).bind fun v3 =>
 ((fillL [(vi 0), (V.sl []), (V.sl []), (V.sl [])] [(0, 3, v2), (3, 1, v3)]).map V.agg).bind fun v4 =>
 ((sem_text_Print n) [v4, (V.sl [])]).bind fun v5 =>
 (extractV v5 0).bind fun v6 =>
 (extractV v5 1).bind fun v7 =>
 (bin2 Tryd.prog BinOp.neq 31 (ot 20) (Operand.const Go.Value.nilIface) v7 vn).bind fun v8 =>
 (guardV v8 false (some v6)).bind fun v9 =>
 (guardV v8 false ((bin2 Tryd.prog BinOp.neq 9 (ot 23) (Operand.const (Go.Value.string (ByteArray.mk #[115, 119, 105, 116, 99, 104, 101, 115, 32, 49, 10]))) v9 (V.lit (Go.Value.string (ByteArray.mk #[115, 119, 105, 116, 99, 104, 101, 115, 32, 49, 10])))).bind fun v10 =>
 some v10)).bind fun v11 =>
 (pickV v8 (vb true) v11).bind fun v12 =>
 condV v12 (
 some (vb false)) (
 (ldk (some 4) (List.drop 0 v1)).bind fun v13 =>
 ((sem_text_Print n) [v13, x1]).bind fun v14 =>
 (extractV v14 0).bind fun v15 =>
 (extractV v14 1).bind fun v16 =>
 (bin2 Tryd.prog BinOp.neq 31 (ot 32) (Operand.const Go.Value.nilIface) v16 vn).bind fun v17 =>
 condV v17 (
 some (vb true)) (
 (ldk none (List.drop 1 v1)).bind fun v18 =>
 (lenS [v18]).bind fun v19 =>
 (bin2 Tryd.prog BinOp.add 3 (oc 1) (ot 37) (vi 1) v19).bind fun v20 =>
 (ldk none (List.drop 2 v1)).bind fun v21 =>
 (lenS [v21]).bind fun v22 =>
 (bin2 Tryd.prog BinOp.add 3 (ot 38) (ot 42) v20 v22).bind fun v23 =>
 (lenS [x1]).bind fun v24 =>
 (bin2 Tryd.prog BinOp.add 3 (ot 43) (ot 45) v23 v24).bind fun v25 =>
 JoinPt (fun vs26 =>
 JoinPt (fun vs28 =>
 (bin2 Tryd.prog BinOp.eql 3 (ot 74) (ot 75) (List.getD vs28 0 V.any) (List.getD vs26 0 V.any)).bind fun v30 =>
 (guardV v30 true (some v15)).bind fun v31 =>
 (guardV v30 true (some v15)).bind fun v32 =>
 (guardV v30 true ((lenT [v32]).bind fun v33 =>
 some v33)).bind fun v34 =>
 (guardV v30 true ((bin2 Tryd.prog BinOp.sub 3 (ot 80) (oc 1) v34 (vi 1)).bind fun v35 =>
 some v35)).bind fun v36 =>
 (guardV v30 true ((scal2 Tryd.prog (Instr.index 9) v31 v36).bind fun v37 =>
 some v37)).bind fun v38 =>
 (guardV v30 true ((bin2 Tryd.prog BinOp.eql 5 (ot 82) (Operand.const (Go.Value.int Go.IntKind.u8 10)) v38 (V.lit (Go.Value.int Go.IntKind.u8 10))).bind fun v39 =>
 some v39)).bind fun v40 =>
 (pickV v30 v40 (vb false)).bind fun v41 =>
 some v41) fun J29 =>
 (fixN (fun rec42 vs43 =>
 (lenT [v15]).bind fun v44 =>
 (bin2 Tryd.prog BinOp.lss 3 (ot 62) (ot 64) (List.getD vs43 1 V.any) v44).bind fun v45 =>
 condV v45 (
 (scal2 Tryd.prog (Instr.index 9) v15 (List.getD vs43 1 V.any)).bind fun v46 =>
 (bin2 Tryd.prog BinOp.eql 5 (ot 70) (Operand.const (Go.Value.int Go.IntKind.u8 10)) v46 (V.lit (Go.Value.int Go.IntKind.u8 10))).bind fun v47 =>
 JoinPt (fun vs48 =>
 (bin2 Tryd.prog BinOp.add 3 (ot 66) (oc 1) (List.getD vs43 1 V.any) (vi 1)).bind fun v50 =>
 rec42 [(List.getD vs48 0 V.any), v50]) fun J49 =>
 condV v47 (
 (bin2 Tryd.prog BinOp.add 3 (ot 72) (oc 1) (List.getD vs43 0 V.any) (vi 1)).bind fun v51 =>
 J49 [v51]) (
 J49 [(List.getD vs43 0 V.any)])) (
 J29 [(List.getD vs43 0 V.any)])) n) [(vi 0), (vi 0)]) fun J27 =>
 (keepO (some v1) (some v1) (some [v25, (vi 0)])).bind (fixN (fun rec52 vs53 =>
 (ldk none (List.drop 3 v1)).bind fun v54 =>
 (lenS [v54]).bind fun v55 =>
 (bin2 Tryd.prog BinOp.lss 3 (ot 47) (ot 50) (List.getD vs53 1 V.any) v55).bind fun v56 =>
 condV v56 (
 (ldk none (List.drop 3 v1)).bind fun v57 =>
 (idxS 1 v57 (List.getD vs53 1 V.any)).bind fun v58 =>
 (ldp none v58).bind fun v59 =>
 (lenS [v59]).bind fun v60 =>
 (bin2 Tryd.prog BinOp.add 3 (ot 54) (ot 60) (List.getD vs53 0 V.any) v60).bind fun v61 =>
 (bin2 Tryd.prog BinOp.add 3 (ot 52) (oc 1) (List.getD vs53 1 V.any) (vi 1)).bind fun v62 =>
 (keepO (some v1) (some v1) (some [v61, v62])).bind rec52) (
 J27 [(List.getD vs53 0 V.any)])) n))) := by kernel_rfl
noncomputable def t_raillaw4_TextLines (a0 : T_Net) (a1 : (List T_Wish)) : Option Bool :=
 (t_text_Print (T_Net.mk (T_Topo.mk 1 [] []) ([[]] : (List (List T_Rule)))) []).bind fun r6 =>
 if ((!decide (r6.2 = 0)) || (!decide (r6.1 = (ByteArray.mk #[115, 119, 105, 116, 99, 104, 101, 115, 32, 49, 10])))) = true then (
 some false) else (
 (t_text_Print a0 a1).bind fun r19 =>
 if (!decide (r19.2 = 0)) = true then (
 some true) else (
 (loopI a0.Tables (fun (i94 : Int) x95 (s90 : Int) k91 =>
 k91 (wr (s90 + (List.length x95 : Int)))) (fun (s90 : Int) =>
 some (s90)) (wr ((wr ((wr (1 + (List.length a0.Topo.Links : Int))) + (List.length a0.Topo.Hosts : Int))) + (List.length a1 : Int)))).bind fun (s34 : Int) =>
 (loopU 0 (r19.1.size : Int) (fun (i67 : Int) (s63 : Int) k64 =>
 (sidx r19.1 i67).bind fun r76 =>
 (if (decide (r76 = 10)) = true then (
 some (wr (s63 + 1))) else (
 some (s63))).bind fun (s80 : Int) =>
 k64 (s80)) (fun (i67 : Int) (s63 : Int) =>
 some (s63)) (0)).bind fun (s39 : Int) =>
 (gd (decide (s39 = s34)) default (sidx r19.1 (wr ((r19.1.size : Int) - 1)))).bind fun r56 =>
 some ((decide (s39 = s34)) && (decide (r56 = 10)))))
theorem ty_raillaw4_TextLines {n : Nat} (hn : bigN ≤ n) (a0 : T_Net) (a1 : (List T_Wish)) : Rv (fun x : Bool => (vb x)) (sem_raillaw4_TextLines n [(T_Net.e a0), (V.sl (List.map T_Wish.c a1))]) (t_raillaw4_TextLines a0 a1) := by
  rw [eq_raillaw4_TextLines]
  unfold t_raillaw4_TextLines
  refine tb (x := (T_Net.c a0)) rfl ?_
  refine tb (x := (T_Topo.e (T_Topo.mk 1 [] []))) (by kernel_rfl) ?_
  refine tb (x := (V.sl (List.map (cS T_Rule.c) ([[]] : (List (List T_Rule)))))) (by kernel_rfl) ?_
  refine tb (x := (T_Net.e (T_Net.mk (T_Topo.mk 1 [] []) ([[]] : (List (List T_Rule)))))) (by kernel_rfl) ?_
  refine tbo (ty_text_Print hn (T_Net.mk (T_Topo.mk 1 [] []) ([[]] : (List (List T_Rule)))) []) fun r6 => ?_
  refine tb (x := (vt r6.1)) (rfl) ?_
  refine tb (x := (eV r6.2)) (rfl) ?_
  refine tb (x := (vb (!decide (r6.2 = 0)))) (p_err_neq _) ?_
  refine tg_f (x := (vt r6.1)) (fun h10 => rfl) ?_
  refine tg_f (x := (vb (!decide (r6.1 = (ByteArray.mk #[115, 119, 105, 116, 99, 104, 101, 115, 32, 49, 10]))))) (fun h12 => by simp only [gv_t h12]; exact bind_some_eq (p_neq_str)) ?_
  refine tb (x := (vb ((!decide (r6.2 = 0)) || (!decide (r6.1 = (ByteArray.mk #[115, 119, 105, 116, 99, 104, 101, 115, 32, 49, 10])))))) (pick_or (fun h9 => gv_t (not_f h9))) ?_
  refine tcond (fun h16 => ?_) (fun h16 => ?_)
  · exact rf_ret rfl
  · refine tb (x := (T_Net.e a0)) (rfl) ?_
    refine tbo (ty_text_Print hn a0 a1) fun r19 => ?_
    refine tb (x := (vt r19.1)) (rfl) ?_
    refine tb (x := (eV r19.2)) (rfl) ?_
    refine tb (x := (vb (!decide (r19.2 = 0)))) (p_err_neq _) ?_
    refine tcond (fun h23 => ?_) (fun h23 => ?_)
    · exact rf_ret rfl
    · refine tb (x := (V.sl (List.map T_Link.c a0.Topo.Links))) (rfl) ?_
      refine tb (x := (vi (List.length a0.Topo.Links : Int))) (p_len _) ?_
      refine tb (x := (vi (wr (1 + (List.length a0.Topo.Links : Int))))) (d_add) ?_
      refine tb (x := (V.sl (List.map T_Host.c a0.Topo.Hosts))) (rfl) ?_
      refine tb (x := (vi (List.length a0.Topo.Hosts : Int))) (p_len _) ?_
      refine tb (x := (vi (wr ((wr (1 + (List.length a0.Topo.Links : Int))) + (List.length a0.Topo.Hosts : Int))))) (d_add) ?_
      refine tb (x := (vi (List.length a1 : Int))) (p_len _) ?_
      refine tb (x := (vi (wr ((wr ((wr (1 + (List.length a0.Topo.Links : Int))) + (List.length a0.Topo.Hosts : Int))) + (List.length a1 : Int))))) (d_add) ?_
      refine tjb (mk := fun s34 : Int => [(vi s34)]) (fun J33 => ?_) fun s34 => ?_
      · refine tkeepO2 ?_ rfl
        refine tsome ?_
        refine rf_loopI (mk := fun (i94 : Int) (s90 : Int) => [(vi s90), (vi (i94 : Int))]) hn a0.Tables (wr ((wr ((wr (1 + (List.length a0.Topo.Links : Int))) + (List.length a0.Topo.Hosts : Int))) + (List.length a1 : Int))) (fun i94 x95 h96 h97 h98 s90 rec88 k91 h92 => ?_) (fun s90 rec109 h108 => ?_)
        · refine tb (x := (V.sl (List.map (cS T_Rule.c) a0.Tables))) (rfl) ?_
          refine tb (x := (vi (List.length a0.Tables : Int))) (p_len _) ?_
          refine tb (x := (vb (decide ((i94 : Int) < (List.length a0.Tables : Int))))) (d_lss) ?_
          refine tcond_t h98 ?_
          refine tb (x := (V.sl (List.map (cS T_Rule.c) a0.Tables))) (rfl) ?_
          refine tb (x := (V.ptr [(V.sl (List.map T_Rule.c x95))])) (p_idx_at (c := (cS T_Rule.c)) (fun _ => rfl) h96) ?_
          refine tb (x := (V.sl (List.map T_Rule.c x95))) (rfl) ?_
          refine tb (x := (vi (List.length x95 : Int))) (p_len _) ?_
          refine tb (x := (vi (wr (s90 + (List.length x95 : Int))))) (d_add) ?_
          refine tb (x := (vi ((i94 : Int) + 1))) (p_incN h97) ?_
          refine tkeepO2 ?_ rfl
          refine tsome ?_
          exact h92 (wr (s90 + (List.length x95 : Int)))
        · refine tb (x := (V.sl (List.map (cS T_Rule.c) a0.Tables))) (rfl) ?_
          refine tb (x := (vi (List.length a0.Tables : Int))) (p_len _) ?_
          refine tb (x := (vb (decide ((List.length a0.Tables : Int) < (List.length a0.Tables : Int))))) (d_lss) ?_
          refine tcond_f h108 ?_
          exact rf_j rfl
      · refine tjb (mk := fun s39 : Int => [(vi s39)]) (fun J38 => ?_) fun s39 => ?_
        · refine rf_loopU (mk := fun (i67 : Int) (s63 : Int) => [(vi s63), (vi i67)]) hn _ _ (0) (fun i67 h68 h69 h70 s63 rec61 k64 h65 => ?_) (fun i67 s63 rec72 h71 => ?_)
          · refine tb (x := (vi (r19.1.size : Int))) (rfl) ?_
            refine tb (x := (vb (decide (i67 < (r19.1.size : Int))))) (d_lss) ?_
            refine tcond_t h68 ?_
            refine tbo (p_sidx (Tryd.underlying9) r19.1 i67) fun r76 => ?_
            refine tb (x := (vb (decide (r76 = 10)))) (q_eql) ?_
            refine tjb (mk := fun s80 : Int => [(vi s80)]) (fun J79 => ?_) fun s80 => ?_
            · refine tcond (fun h84 => ?_) (fun h84 => ?_)
              · refine tb (x := (vi (wr (s63 + 1)))) (d_add) ?_
                exact rf_j rfl
              · exact rf_j rfl
            · refine tb (x := (vi (i67 + 1))) (p_inc h69 h70) ?_
              exact h65 (s80)
          · refine tb (x := (vi (r19.1.size : Int))) (rfl) ?_
            refine tb (x := (vb (decide (i67 < (r19.1.size : Int))))) (d_lss) ?_
            refine tcond_f h71 ?_
            exact rf_j rfl
        · refine tb (x := (vb (decide (s39 = s34)))) (d_eql) ?_
          refine tg (x := (vt r19.1)) (fun h43 => rfl) ?_
          refine tg (x := (vt r19.1)) (fun h45 => rfl) ?_
          refine tg (x := (vi (r19.1.size : Int))) (fun h47 => by simp only [gv_t h47]; exact bind_some_eq (rfl)) ?_
          refine tg (x := (vi (wr ((r19.1.size : Int) - 1)))) (fun h50 => by simp only [gv_t h50]; exact bind_some_eq (d_sub)) ?_
          refine tgo (fun h53 => by simp only [gv_t h53]; exact rf_bind_some (p_sidx (Tryd.underlying9) r19.1 (wr ((r19.1.size : Int) - 1)))) fun r56 => ?_
          refine tg (x := (vb (decide (r56 = 10)))) (fun h57 => by simp only [gv_t h57]; exact bind_some_eq (q_eql)) ?_
          refine tb (x := (vb ((decide (s39 = s34)) && (decide (r56 = 10))))) (pick_and (fun h9 => gv_t h9)) ?_
          exact rf_ret rfl

end Go.Proofs.YtikfnpemmcmioaaDoor.Ty
