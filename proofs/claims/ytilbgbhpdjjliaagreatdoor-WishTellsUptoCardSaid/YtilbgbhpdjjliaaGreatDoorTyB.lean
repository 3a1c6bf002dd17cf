/- What functions do, as functions on plain types, written by a program and checked by the kernel. -/
import Derived.Test.YtilbgbhpdjjliaaGreatDoorDenGreatW
import Derived.Test.YtilbgbhpdjjliaaGreatDoorTy
import Derived.Test.YtilbgbhpdjjliaaGreatDoorTyT
import Derived.Test.YtilbgbhpdjjliaaGreatDoorTyX
import Derived.Test.YtilbgbhpdjjliaaGreatDoorDen14
import Derived.Test.YtilbgbhpdjjliaaGreatDoorClone
import Derived.Test.YtilbgbhpdjjliaaGreatDoorShelfT
import Derived.Test.YtilbgbhpdjjliaaGreatDoorTyA0
import Derived.Test.YtilbgbhpdjjliaaGreatDoorWN
namespace Go.Proofs.YtilbgbhpdjjliaaGreatDoor.Ty
open Go Go.RowKit Go.Proofs.YtilbgbhpdjjliaaGreatDoor.Den
set_option linter.unusedVariables false
set_option maxRecDepth 100000
def T_Spot.val (x : T_Spot) : Go.Value := .agg #[.int .i64 x.Switch, .int .i64 x.Port]
theorem T_Spot.mkey : MKey Tryz.prog 114 T_Spot.val where
 chk e a w := by kernel_rfl
 find vv l a w := find_ask Tryz.underlying114 (fun _ _ => rfl) (fun a b w => equal_of (T_Spot.run_eql a b w)) vv l a w
 sb a := by show Instr.sameBits (9999 + 1) _ _ = true; simp [Instr.sameBits, T_Spot.val]
def an_topo_Spot : Ann := .seq (.reg 0 [] [] []) (.seq (.reg 0 [] [] []) (.no))
noncomputable def sem_topo_Spot (n : Nat) (xs : List V) : Option V := if xs.length ≤ 25 then denF Tryz.prog (envOf []) n Tryz.f75 an_topo_Spot xs else none
theorem ok_topo_Spot (n : Nat) : SemOk Tryz.prog DW 75 (sem_topo_Spot n) := fun xs y h => by
 unfold sem_topo_Spot at h
 split at h
 ·rename_i hl
  exact denF_ok stb Tryz.func75 (by kernel_rfl) (envOf_ok semsOk_nil) (by rw [Tryz.ntmps75]; exact hl) h
 ·cases h
theorem eq_topo_Spot (n : Nat) (x0 x1 : V) : sem_topo_Spot n [x0, x1] =
 (V.cellsO x0).bind fun v1 =>
 (V.cellsO x1).bind fun v2 =>
 (ldk none (List.drop 0 v2)).bind fun v3 =>
 (bin2 Tryz.prog BinOp.geq 3 (ot 6) (oc 1) v3 (vi 1)).bind fun v4 =>
 (guardV v4 true (some V.any)).bind fun v5 =>
 (guardV v4 true ((gate v4 true (ldk none (List.drop 0 v2))).bind fun v6 =>
 some v6)).bind fun v7 =>
 (guardV v4 true (some V.any)).bind fun v8 =>
 (guardV v4 true ((gate v4 true (ldk none (List.drop 0 v1))).bind fun v9 =>
 some v9)).bind fun v10 =>
 (guardV v4 true ((bin2 Tryz.prog BinOp.leq 3 (ot 10) (ot 12) v7 v10).bind fun v11 =>
 some v11)).bind fun v12 =>
 (pickV v4 v12 (vb false)).bind fun v13 =>
 (guardV v13 true (some V.any)).bind fun v14 =>
 (guardV v13 true ((gate v13 true (ldk none (List.drop 1 v2))).bind fun v15 =>
 some v15)).bind fun v16 =>
 (guardV v13 true ((bin2 Tryz.prog BinOp.geq 3 (ot 17) (oc 1) v16 (vi 1)).bind fun v17 =>
 some v17)).bind fun v18 =>
 (pickV v13 v18 (vb false)).bind fun v19 =>
 (guardV v19 true (some V.any)).bind fun v20 =>
 (guardV v19 true ((gate v19 true (ldk none (List.drop 1 v2))).bind fun v21 =>
 some v21)).bind fun v22 =>
 (guardV v19 true ((bin2 Tryz.prog BinOp.leq 3 (ot 22) (oc 4) v22 (vi 4)).bind fun v23 =>
 some v23)).bind fun v24 =>
 (pickV v19 v24 (vb false)).bind fun v25 =>
 some v25 := by kernel_rfl
noncomputable def t_topo_Spot (a0 : T_Topo) (a1 : T_Spot) : Option Bool :=
 some ((((decide (1 ≤ a1.Switch)) && (decide (a1.Switch ≤ a0.Switches))) && (decide (1 ≤ a1.Port))) && (decide (a1.Port ≤ 4)))
theorem ty_topo_Spot {n : Nat} (hn : bigN ≤ n) (a0 : T_Topo) (a1 : T_Spot) : Rv (fun x : Bool => (vb x)) (sem_topo_Spot n [(T_Topo.e a0), (T_Spot.e a1)]) (t_topo_Spot a0 a1) := by
 rw [eq_topo_Spot]
 unfold t_topo_Spot; refine tb (x := (T_Topo.c a0)) rfl ?_; refine tb (x := (T_Spot.c a1)) rfl ?_; refine tb (x := (vi a1.Switch)) (rfl) ?_; refine tb (x := (vb (decide (1 ≤ a1.Switch)))) (d_geq) ?_; refine tg (x := V.any) (fun h5 => rfl) ?_; refine tg (x := (vi a1.Switch)) (fun h7 => bind_some_eq (gate_pos h7 (rfl))) ?_; refine tg (x := V.any) (fun h10 => rfl) ?_; refine tg (x := (vi a0.Switches)) (fun h12 => bind_some_eq (gate_pos h12 (rfl))) ?_; refine tg (x := (vb (decide (a1.Switch ≤ a0.Switches)))) (fun h15 => by simp only [gv_t h15]; exact bind_some_eq (d_leq)) ?_; refine tb (x := (vb ((decide (1 ≤ a1.Switch)) && (decide (a1.Switch ≤ a0.Switches))))) (pick_and (fun h9 => gv_t h9)) ?_; refine tg (x := V.any) (fun h19 => rfl) ?_; refine tg (x := (vi a1.Port)) (fun h21 => bind_some_eq (gate_pos h21 (rfl))) ?_; refine tg (x := (vb (decide (1 ≤ a1.Port)))) (fun h24 => by simp only [gv_t h24]; exact bind_some_eq (d_geq)) ?_; refine tb (x := (vb (((decide (1 ≤ a1.Switch)) && (decide (a1.Switch ≤ a0.Switches))) && (decide (1 ≤ a1.Port))))) (pick_and (fun h9 => gv_t h9)) ?_; refine tg (x := V.any) (fun h28 => rfl) ?_; refine tg (x := (vi a1.Port)) (fun h30 => bind_some_eq (gate_pos h30 (rfl))) ?_; refine tg (x := (vb (decide (a1.Port ≤ 4)))) (fun h33 => by simp only [gv_t h33]; exact bind_some_eq (d_leq)) ?_; refine tb (x := (vb ((((decide (1 ≤ a1.Switch)) && (decide (a1.Switch ≤ a0.Switches))) && (decide (1 ≤ a1.Port))) && (decide (a1.Port ≤ 4))))) (pick_and (fun h9 => gv_t h9)) ?_; exact rf_ret rfl
def an_topo_Check : Ann := .seq (.reg 0 [] [] []) (.seq (.blk none (.seq (.reg 0 [] [] []) (.cond none (.seq (.reg 0 [] [] []) (.no)) (.seq (.reg 0 [] [] []) (.cond none (.seq (.reg 0 [] [] []) (.no)) (.no)))))) (.seq (.reg 0 [] [] []) (.seq (.seq (.reg 0 [] [] []) (.blk (some [.kb 1, .o 3]) (.loop [.kb 1, .o 3, .s 35] (.seq (.reg 0 [] [] []) (.seq (.cond none (.no) (.no)) (.seq (.blk none (.seq (.reg 0 [] [] []) (.seq (.seq (.reg 0 [] [] []) (.cond none (.seq (.reg 0 [] [] []) (.no)) (.no))) (.seq (.seq (.reg 0 [] [] []) (.cond none (.seq (.reg 0 [] [] []) (.no)) (.no))) (.reg 72 [] [] []))))) (.reg 0 [] [] []))))))) (.seq (.reg 0 [] [] []) (.seq (.seq (.reg 0 [] [] []) (.blk (some []) (.loop [.kb 1, .o 3, .o 6, .s 81] (.seq (.reg 0 [] [] []) (.seq (.cond none (.no) (.no)) (.seq (.blk none (.seq (.reg 0 [] [] []) (.seq (.blk none (.seq (.reg 0 [] [] []) (.cond none (.seq (.reg 0 [] [] []) (.no)) (.seq (.reg 0 [] [] []) (.cond none (.seq (.reg 0 [] [] []) (.no)) (.seq (.reg 0 [] [] []) (.cond none (.seq (.reg 0 [] [] []) (.no)) (.no)))))))) (.reg 72 [] [] [])))) (.reg 0 [] [] []))))))) (.seq (.reg 0 [] [] []) (.no)))))))
noncomputable def sem_topo_Check (n : Nat) (xs : List V) : Option V := if xs.length ≤ 117 then denF Tryz.prog (envOf [(75, (sem_topo_Spot n)), (59, (sem_topo_Name n))]) n Tryz.f53 an_topo_Check xs else none
theorem ok_topo_Check (n : Nat) : SemOk Tryz.prog DW 53 (sem_topo_Check n) := fun xs y h => by
 unfold sem_topo_Check at h
 split at h
 ·rename_i hl
  exact denF_ok stb Tryz.func53 (by kernel_rfl) (envOf_ok (semsOk_cons (ok_topo_Spot n) (semsOk_cons (ok_topo_Name n) semsOk_nil))) (by rw [Tryz.ntmps53]; exact hl) h
 ·cases h
theorem eq_topo_Check (n : Nat) (x0 : V) : sem_topo_Check n [x0] =
 (V.cellsO x0).bind fun v1 =>
 (ldk none (List.drop 0 v1)).bind fun v2 =>
 (bin2 Tryz.prog BinOp.lss 3 (ot 11) (oc 1) v2 (vi 1)).bind fun v3 =>
 (guardV v3 false (some V.any)).bind fun v4 =>
 (guardV v3 false ((gate v3 false (ldk none (List.drop 0 v1))).bind fun v5 =>
 some v5)).bind fun v6 =>
 (guardV v3 false ((bin2 Tryz.prog BinOp.gtr 3 (ot 15) (oc 6) v6 (vi 6)).bind fun v7 =>
 some v7)).bind fun v8 =>
 (pickV v3 (vb true) v8).bind fun v9 =>
 condV v9 (
 (scal1 Tryz.prog (Instr.makeInterface 86) (vi 1)).bind fun v10 =>
 some v10) (
 (ldk none (List.drop 1 v1)).bind fun v11 =>
 (lenS [v11]).bind fun v12 =>
 (bin2 Tryz.prog BinOp.gtr 3 (ot 22) (oc 200) v12 (vi 200)).bind fun v13 =>
 (guardV v13 false (some V.any)).bind fun v14 =>
 (guardV v13 false ((gate v13 false (ldk none (List.drop 2 v1))).bind fun v15 =>
 some v15)).bind fun v16 =>
 (guardV v13 false ((lenS [v16]).bind fun v17 =>
 some v17)).bind fun v18 =>
 (guardV v13 false ((bin2 Tryz.prog BinOp.gtr 3 (ot 27) (oc 8) v18 (vi 8)).bind fun v19 =>
 some v19)).bind fun v20 =>
 (pickV v13 (vb true) v20).bind fun v21 =>
 condV v21 (
 (scal1 Tryz.prog (Instr.makeInterface 86) (vi 4)).bind fun v22 =>
 some v22) (
 (ldk none (List.drop 1 v1)).bind fun v23 =>
 (lenS [v23]).bind fun v24 =>
 JoinPt (fun vs25 =>
 (ldk none (List.drop 2 v1)).bind fun v27 =>
 (lenS [v27]).bind fun v28 =>
 JoinPt (fun vs29 =>
 some vn) fun J30 =>
 (keepO (some v1) (some v1) (some [(List.getD vs25 0 V.any), (V.mp []), (vi 0)])).bind (fixN (fun rec31 vs32 =>
 (bin2 Tryz.prog BinOp.lss 3 (ot 81) (ot 80) (List.getD vs32 2 V.any) v28).bind fun v33 =>
 condV v33 (
 (idxS 3 v27 (List.getD vs32 2 V.any)).bind fun v34 =>
 (ldp (some 3) v34).bind fun v35 =>
 (spliceV [(vt ⟨#[]⟩), (vi 0), (vi 0)] 0 3 v35).bind fun v36 =>
 (ldk none (List.drop 0 (aggL v36))).bind fun v37 =>
 ((sem_topo_Name n) [v37]).bind fun v38 =>
 (scal1 Tryz.prog (Op.unary Go.UnOp.not) v38).bind fun v39 =>
 condV v39 (
 (scal1 Tryz.prog (Instr.makeInterface 86) (vi 2)).bind fun v40 =>
 some v40) (
 (ldk (some 3) (List.drop 0 v1)).bind fun v41 =>
 (ldk (some 2) (List.drop 1 (aggL v36))).bind fun v42 =>
 ((sem_topo_Spot n) [v41, v42]).bind fun v43 =>
 (scal1 Tryz.prog (Op.unary Go.UnOp.not) v43).bind fun v44 =>
 condV v44 (
 (scal1 Tryz.prog (Instr.makeInterface 86) (vi 1)).bind fun v45 =>
 some v45) (
 (ldk none (List.drop 0 (aggL v36))).bind fun v46 =>
 (lookV Tryz.prog 138 false (List.getD vs32 1 V.any) v46).bind fun v47 =>
 (guardV v47 false (some V.any)).bind fun v48 =>
 (guardV v47 false (some V.any)).bind fun v49 =>
 (guardV v47 false ((gate v47 false (ldk (some 2) (List.drop 1 (aggL v36)))).bind fun v50 =>
 some v50)).bind fun v51 =>
 (guardV v47 false ((gate v47 false (lookV Tryz.prog 134 false (List.getD vs32 0 V.any) v51)).bind fun v52 =>
 some v52)).bind fun v53 =>
 (pickV v47 (vb true) v53).bind fun v54 =>
 condV v54 (
 (scal1 Tryz.prog (Instr.makeInterface 86) (vi 7)).bind fun v55 =>
 some v55) (
 (ldk none (List.drop 0 (aggL v36))).bind fun v56 =>
 (litV v56).bind fun v57 =>
 (ldk (some 2) (List.drop 1 (aggL v36))).bind fun v58 =>
 (litV v58).bind fun v59 =>
 (putV Tryz.prog 138 (List.getD vs32 1 V.any) v57 (vb true)).bind fun v60 =>
 (putV Tryz.prog 134 (List.getD vs32 0 V.any) v59 (vb true)).bind fun v61 =>
 (bin2 Tryz.prog BinOp.add 3 (ot 81) (oc 1) (List.getD vs32 2 V.any) (vi 1)).bind fun v62 =>
 (keepO (some v1) (some v1) (some [v61, v60, v62])).bind rec31)))) (
 J30 [])) n)) fun J26 =>
 (keepO (some v1) (some v1) (some [(V.mp []), (vi 0)])).bind (fixN (fun rec63 vs64 =>
 (bin2 Tryz.prog BinOp.lss 3 (ot 35) (ot 34) (List.getD vs64 1 V.any) v24).bind fun v65 =>
 condV v65 (
 (idxS 4 v23 (List.getD vs64 1 V.any)).bind fun v66 =>
 (ldp (some 4) v66).bind fun v67 =>
 (spliceV [(vi 0), (vi 0), (vi 0), (vi 0)] 0 4 v67).bind fun v68 =>
 (ldk (some 3) (List.drop 0 v1)).bind fun v69 =>
 (ldk (some 2) (List.drop 0 (aggL v68))).bind fun v70 =>
 ((sem_topo_Spot n) [v69, v70]).bind fun v71 =>
 (scal1 Tryz.prog (Op.unary Go.UnOp.not) v71).bind fun v72 =>
 (guardV v72 false ((ldk (some 3) (List.drop 0 v1)).bind fun v73 =>
 some v73)).bind fun v74 =>
 (guardV v72 false (some V.any)).bind fun v75 =>
 (guardV v72 false ((gate v72 false (ldk (some 2) (List.drop 2 (aggL v68)))).bind fun v76 =>
 some v76)).bind fun v77 =>
 (guardV v72 false (((sem_topo_Spot n) [v74, v77]).bind fun v78 =>
 some v78)).bind fun v79 =>
 (guardV v72 false ((scal1 Tryz.prog (Op.unary Go.UnOp.not) v79).bind fun v80 =>
 some v80)).bind fun v81 =>
 (pickV v72 (vb true) v81).bind fun v82 =>
 condV v82 (
 (scal1 Tryz.prog (Instr.makeInterface 86) (vi 1)).bind fun v83 =>
 some v83) (
 (ldk (some 2) (List.drop 0 (aggL v68))).bind fun v84 =>
 (lookV Tryz.prog 134 false (List.getD vs64 0 V.any) v84).bind fun v85 =>
 (guardV v85 false (some V.any)).bind fun v86 =>
 (guardV v85 false (some V.any)).bind fun v87 =>
 (guardV v85 false ((gate v85 false (ldk (some 2) (List.drop 2 (aggL v68)))).bind fun v88 =>
 some v88)).bind fun v89 =>
 (guardV v85 false ((gate v85 false (lookV Tryz.prog 134 false (List.getD vs64 0 V.any) v89)).bind fun v90 =>
 some v90)).bind fun v91 =>
 (pickV v85 (vb true) v91).bind fun v92 =>
 (guardV v92 false (some V.any)).bind fun v93 =>
 (guardV v92 false ((gate v92 false (ldk (some 2) (List.drop 0 (aggL v68)))).bind fun v94 =>
 some v94)).bind fun v95 =>
 (guardV v92 false (some V.any)).bind fun v96 =>
 (guardV v92 false ((gate v92 false (ldk (some 2) (List.drop 2 (aggL v68)))).bind fun v97 =>
 some v97)).bind fun v98 =>
 (guardV v92 false ((bin2 Tryz.prog BinOp.eql 114 (ot 64) (ot 66) v95 v98).bind fun v99 =>
 some v99)).bind fun v100 =>
 (pickV v92 (vb true) v100).bind fun v101 =>
 condV v101 (
 (scal1 Tryz.prog (Instr.makeInterface 86) (vi 7)).bind fun v102 =>
 some v102) (
 (ldk (some 2) (List.drop 0 (aggL v68))).bind fun v103 =>
 (litV v103).bind fun v104 =>
 (ldk (some 2) (List.drop 2 (aggL v68))).bind fun v105 =>
 (litV v105).bind fun v106 =>
 (putV Tryz.prog 134 (List.getD vs64 0 V.any) v104 (vb true)).bind fun v107 =>
 (putV Tryz.prog 134 v107 v106 (vb true)).bind fun v108 =>
 (bin2 Tryz.prog BinOp.add 3 (ot 35) (oc 1) (List.getD vs64 1 V.any) (vi 1)).bind fun v109 =>
 (keepO (some v1) (some v1) (some [v108, v109])).bind rec63))) (
 (keepO (some v1) (some v1) (some [(List.getD vs64 0 V.any)])).bind J26)) n))) := by kernel_rfl
noncomputable def t_topo_Check (a0 : T_Topo) : Option Int :=
 if ((decide (a0.Switches < 1)) || (decide (6 < a0.Switches))) = true then (
 some 1) else (
 if ((decide (200 < (List.length a0.Links : Int))) || (decide (8 < (List.length a0.Hosts : Int)))) = true then (
 some 4) else (
 join (fun (s36 : (List (T_Spot × Bool))) =>
 join (fun (s43 : Unit) =>
 some 0) fun j44 =>
 loopI a0.Hosts (fun (i52 : Int) x53 (s48 : ((List (T_Spot × Bool)) × (List (ByteArray × Bool)))) k49 =>
 (t_topo_Name x53.Name).bind fun r63 =>
 if (!r63) = true then (
 some 2) else (
 (t_topo_Spot a0 x53.At).bind fun r70 =>
 if (!r70) = true then (
 some 1) else (
 if ((mget s48.2 x53.Name false) || (mget s48.1 x53.At false)) = true then (
 some 7) else (
 k49 ((mput s48.1 x53.At true), (mput s48.2 x53.Name true)))))) (fun (s48 : ((List (T_Spot × Bool)) × (List (ByteArray × Bool)))) =>
 j44 ()) (s36, [])) fun j37 =>
 loopI a0.Links (fun (i105 : Int) x106 (s101 : (List (T_Spot × Bool))) k102 =>
 (t_topo_Spot a0 x106.A).bind fun r117 =>
 (gd (!(!r117)) default (t_topo_Spot a0 x106.B)).bind fun r130 =>
 if ((!r117) || (!r130)) = true then (
 some 1) else (
 if (((mget s101 x106.A false) || (mget s101 x106.B false)) || (decide (x106.A = x106.B))) = true then (
 some 7) else (
 k102 (mput (mput s101 x106.A true) x106.B true)))) (fun (s101 : (List (T_Spot × Bool))) =>
 j37 (s101)) ([])))
theorem ty_topo_Check {n : Nat} (hn : bigN ≤ n) (a0 : T_Topo) : Rv (fun x : Int => (eV x)) (sem_topo_Check n [(T_Topo.e a0)]) (t_topo_Check a0) := by
 rw [eq_topo_Check]
 unfold t_topo_Check; refine tb (x := (T_Topo.c a0)) rfl ?_; refine tb (x := (vi a0.Switches)) (rfl) ?_; refine tb (x := (vb (decide (a0.Switches < 1)))) (d_lss) ?_; refine tg_f (x := V.any) (fun h4 => rfl) ?_; refine tg_f (x := (vi a0.Switches)) (fun h6 => bind_some_eq (gate_pos (not_t h6) (rfl))) ?_; refine tg_f (x := (vb (decide (6 < a0.Switches)))) (fun h9 => by simp only [gv_t h9]; exact bind_some_eq (d_gtr)) ?_; refine tb (x := (vb ((decide (a0.Switches < 1)) || (decide (6 < a0.Switches))))) (pick_or (fun h9 => gv_t (not_f h9))) ?_; refine tcond (fun h13 => ?_) (fun h13 => ?_)
 ·refine tb (x := (eV 1)) (p_mkE (by decide)) ?_; exact rf_ret rfl
 ·refine tb (x := (V.sl (List.map T_Link.c a0.Links))) (rfl) ?_; refine tb (x := (vi (List.length a0.Links : Int))) (p_len _) ?_; refine tb (x := (vb (decide (200 < (List.length a0.Links : Int))))) (d_gtr) ?_; refine tg_f (x := V.any) (fun h18 => rfl) ?_; refine tg_f (x := (V.sl (List.map T_Host.c a0.Hosts))) (fun h20 => bind_some_eq (gate_pos (not_t h20) (rfl))) ?_; refine tg_f (x := (vi (List.length a0.Hosts : Int))) (fun h23 => by simp only [gv_t h23]; exact bind_some_eq (p_len _)) ?_; refine tg_f (x := (vb (decide (8 < (List.length a0.Hosts : Int))))) (fun h26 => by simp only [gv_t h26]; exact bind_some_eq (d_gtr)) ?_; refine tb (x := (vb ((decide (200 < (List.length a0.Links : Int))) || (decide (8 < (List.length a0.Hosts : Int)))))) (pick_or (fun h9 => gv_t (not_f h9))) ?_; refine tcond (fun h30 => ?_) (fun h30 => ?_)
  ·refine tb (x := (eV 4)) (p_mkE (by decide)) ?_; exact rf_ret rfl
  ·refine tb (x := (V.sl (List.map T_Link.c a0.Links))) (rfl) ?_; refine tb (x := (vi (List.length a0.Links : Int))) (p_len _) ?_; refine tjoin (mk := fun s36 : (List (T_Spot × Bool)) => [(V.mp (mrep T_Spot.val (fun b : Bool => Go.Value.bool b) s36))]) (fun s36 => ?_) fun J35 j37 h38 => ?_
   ·refine tb (x := (V.sl (List.map T_Host.c a0.Hosts))) (rfl) ?_; refine tb (x := (vi (List.length a0.Hosts : Int))) (p_len _) ?_; refine tjoin (mk := fun s43 : Unit => []) (fun s43 => ?_) fun J42 j44 h45 => ?_
    ·exact rf_ret rfl
    ·refine tkeepO2 ?_ rfl; refine tsome ?_; refine rf_loopI (mk := fun (i52 : Int) (s48 : ((List (T_Spot × Bool)) × (List (ByteArray × Bool)))) => [(V.mp (mrep T_Spot.val (fun b : Bool => Go.Value.bool b) s48.1)), (V.mp (mrep (fun b : ByteArray => Go.Value.string b) (fun b : Bool => Go.Value.bool b) s48.2)), (vi (i52 : Int))]) hn a0.Hosts (s36, []) (fun i52 x53 h54 h55 h56 s48 rec46 k49 h50 => ?_) (fun s48 rec97 h96 => ?_)
     ·refine tb (x := (vb (decide ((i52 : Int) < (List.length a0.Hosts : Int))))) (d_lss) ?_; refine tcond_t h56 ?_; refine tb (x := (V.ptr (T_Host.c x53))) (p_idx_at (c := T_Host.c) (fun _ => rfl) h54) ?_; refine tb (x := (T_Host.e x53)) (rfl) ?_; refine tb (x := V.agg (T_Host.c x53)) (by kernel_rfl) ?_; refine tb (x := (vt x53.Name)) (rfl) ?_; refine tbo (ty_topo_Name hn x53.Name) fun r63 => ?_; refine tb (x := (vb (!r63))) (d_not) ?_; refine tcond (fun h65 => ?_) (fun h65 => ?_)
      ·refine tb (x := (eV 2)) (p_mkE (by decide)) ?_; exact rf_ret rfl
      ·refine tb (x := (T_Topo.e a0)) (rfl) ?_; refine tb (x := (T_Spot.e x53.At)) (rfl) ?_; refine tbo (ty_topo_Spot hn a0 x53.At) fun r70 => ?_; refine tb (x := (vb (!r70))) (d_not) ?_; refine tcond (fun h72 => ?_) (fun h72 => ?_)
       ·refine tb (x := (eV 1)) (p_mkE (by decide)) ?_; exact rf_ret rfl
       ·refine tb (x := (vt x53.Name)) (rfl) ?_; refine tb (x := (vb (mget s48.2 x53.Name false))) (p_look (kt := 9) (et := 4) (kv := (fun b : ByteArray => Go.Value.string b)) (vv := (fun b : Bool => Go.Value.bool b)) (e1 := fun x : Bool => (vb x)) (mkey_str (by kernel_rfl)) (by kernel_rfl) false (fun _ => by kernel_rfl) (fun _ => rfl) x53.Name rfl s48.2) ?_; refine tg_f (x := V.any) (fun h76 => rfl) ?_; refine tg_f (x := V.any) (fun h78 => rfl) ?_; refine tg_f (x := (T_Spot.e x53.At)) (fun h80 => bind_some_eq (gate_pos (not_t h80) (rfl))) ?_; refine tg_f (x := (vb (mget s48.1 x53.At false))) (fun h83 => by simp only [gv_t h83]; exact bind_some_eq (gate_pos (not_t h83) (p_look (kt := 114) (et := 4) (kv := T_Spot.val) (vv := (fun b : Bool => Go.Value.bool b)) (e1 := fun x : Bool => (vb x)) T_Spot.mkey (by kernel_rfl) false (fun _ => by kernel_rfl) (fun _ => rfl) x53.At rfl s48.1))) ?_; refine tb (x := (vb ((mget s48.2 x53.Name false) || (mget s48.1 x53.At false)))) (pick_or (fun h9 => gv_t (not_f h9))) ?_; refine tcond (fun h87 => ?_) (fun h87 => ?_)
        ·refine tb (x := (eV 7)) (p_mkE (by decide)) ?_; exact rf_ret rfl
        ·refine tb (x := (vt x53.Name)) (rfl) ?_; refine tb (x := (vt x53.Name)) rfl ?_; refine tb (x := (T_Spot.e x53.At)) (rfl) ?_; refine tb (x := (T_Spot.e x53.At)) rfl ?_; refine tb (x := V.mp (mrep (fun b : ByteArray => Go.Value.string b) (fun b : Bool => Go.Value.bool b) (mput s48.2 x53.Name true))) (p_put (kt := 9) (et := 4) (kv := (fun b : ByteArray => Go.Value.string b)) (vv := (fun b : Bool => Go.Value.bool b)) (mkey_str (by kernel_rfl)) (by kernel_rfl) x53.Name true rfl rfl s48.2) ?_; refine tb (x := V.mp (mrep T_Spot.val (fun b : Bool => Go.Value.bool b) (mput s48.1 x53.At true))) (p_put (kt := 114) (et := 4) (kv := T_Spot.val) (vv := (fun b : Bool => Go.Value.bool b)) T_Spot.mkey (by kernel_rfl) x53.At true rfl rfl s48.1) ?_; refine tb (x := (vi ((i52 : Int) + 1))) (p_incN h55) ?_; refine tkeepO2 ?_ rfl; refine tsome ?_; exact h50 ((mput s48.1 x53.At true), (mput s48.2 x53.Name true))
     ·refine tb (x := (vb (decide ((List.length a0.Hosts : Int) < (List.length a0.Hosts : Int))))) (d_lss) ?_; refine tcond_f h96 ?_; exact h45 ()
   ·refine tkeepO2 ?_ rfl; refine tsome ?_; refine rf_loopI (mk := fun (i105 : Int) (s101 : (List (T_Spot × Bool))) => [(V.mp (mrep T_Spot.val (fun b : Bool => Go.Value.bool b) s101)), (vi (i105 : Int))]) hn a0.Links ([]) (fun i105 x106 h107 h108 h109 s101 rec99 k102 h103 => ?_) (fun s101 rec174 h173 => ?_)
    ·refine tb (x := (vb (decide ((i105 : Int) < (List.length a0.Links : Int))))) (d_lss) ?_; refine tcond_t h109 ?_; refine tb (x := (V.ptr (T_Link.c x106))) (p_idx_at (c := T_Link.c) (fun _ => rfl) h107) ?_; refine tb (x := (T_Link.e x106)) (rfl) ?_; refine tb (x := V.agg (T_Link.c x106)) (by kernel_rfl) ?_; refine tb (x := (T_Topo.e a0)) (rfl) ?_; refine tb (x := (T_Spot.e x106.A)) (rfl) ?_; refine tbo (ty_topo_Spot hn a0 x106.A) fun r117 => ?_; refine tb (x := (vb (!r117))) (d_not) ?_; refine tg_f (x := (T_Topo.e a0)) (fun h119 => bind_some_eq (rfl)) ?_; refine tg_f (x := V.any) (fun h122 => rfl) ?_; refine tg_f (x := (T_Spot.e x106.B)) (fun h124 => bind_some_eq (gate_pos (not_t h124) (rfl))) ?_; refine tgo_f (fun h127 => by simp only [gv_t h127]; exact rf_bind_some (ty_topo_Spot hn a0 x106.B)) fun r130 => ?_; refine tg_f (x := (vb (!r130))) (fun h131 => by simp only [gv_t h131]; exact bind_some_eq (d_not)) ?_; refine tb (x := (vb ((!r117) || (!r130)))) (pick_or (fun h9 => gv_t (not_f h9))) ?_; refine tcond (fun h135 => ?_) (fun h135 => ?_)
     ·refine tb (x := (eV 1)) (p_mkE (by decide)) ?_; exact rf_ret rfl
     ·refine tb (x := (T_Spot.e x106.A)) (rfl) ?_; refine tb (x := (vb (mget s101 x106.A false))) (p_look (kt := 114) (et := 4) (kv := T_Spot.val) (vv := (fun b : Bool => Go.Value.bool b)) (e1 := fun x : Bool => (vb x)) T_Spot.mkey (by kernel_rfl) false (fun _ => by kernel_rfl) (fun _ => rfl) x106.A rfl s101) ?_; refine tg_f (x := V.any) (fun h139 => rfl) ?_; refine tg_f (x := V.any) (fun h141 => rfl) ?_; refine tg_f (x := (T_Spot.e x106.B)) (fun h143 => bind_some_eq (gate_pos (not_t h143) (rfl))) ?_; refine tg_f (x := (vb (mget s101 x106.B false))) (fun h146 => by simp only [gv_t h146]; exact bind_some_eq (gate_pos (not_t h146) (p_look (kt := 114) (et := 4) (kv := T_Spot.val) (vv := (fun b : Bool => Go.Value.bool b)) (e1 := fun x : Bool => (vb x)) T_Spot.mkey (by kernel_rfl) false (fun _ => by kernel_rfl) (fun _ => rfl) x106.B rfl s101))) ?_; refine tb (x := (vb ((mget s101 x106.A false) || (mget s101 x106.B false)))) (pick_or (fun h9 => gv_t (not_f h9))) ?_; refine tg_f (x := V.any) (fun h150 => rfl) ?_; refine tg_f (x := (T_Spot.e x106.A)) (fun h152 => bind_some_eq (gate_pos (not_t h152) (rfl))) ?_; refine tg_f (x := V.any) (fun h155 => rfl) ?_; refine tg_f (x := (T_Spot.e x106.B)) (fun h157 => bind_some_eq (gate_pos (not_t h157) (rfl))) ?_; refine tg_f (x := (vb (decide (x106.A = x106.B)))) (fun h160 => by simp only [gv_t h160]; exact bind_some_eq (T_Spot.eql x106.A x106.B)) ?_; refine tb (x := (vb (((mget s101 x106.A false) || (mget s101 x106.B false)) || (decide (x106.A = x106.B))))) (pick_or (fun h9 => gv_t (not_f h9))) ?_; refine tcond (fun h164 => ?_) (fun h164 => ?_)
      ·refine tb (x := (eV 7)) (p_mkE (by decide)) ?_; exact rf_ret rfl
      ·refine tb (x := (T_Spot.e x106.A)) (rfl) ?_; refine tb (x := (T_Spot.e x106.A)) rfl ?_; refine tb (x := (T_Spot.e x106.B)) (rfl) ?_; refine tb (x := (T_Spot.e x106.B)) rfl ?_; refine tb (x := V.mp (mrep T_Spot.val (fun b : Bool => Go.Value.bool b) (mput s101 x106.A true))) (p_put (kt := 114) (et := 4) (kv := T_Spot.val) (vv := (fun b : Bool => Go.Value.bool b)) T_Spot.mkey (by kernel_rfl) x106.A true rfl rfl s101) ?_; refine tb (x := V.mp (mrep T_Spot.val (fun b : Bool => Go.Value.bool b) (mput (mput s101 x106.A true) x106.B true))) (p_put (kt := 114) (et := 4) (kv := T_Spot.val) (vv := (fun b : Bool => Go.Value.bool b)) T_Spot.mkey (by kernel_rfl) x106.B true rfl rfl (mput s101 x106.A true)) ?_; refine tb (x := (vi ((i105 : Int) + 1))) (p_incN h108) ?_; refine tkeepO2 ?_ rfl; refine tsome ?_; exact h103 (mput (mput s101 x106.A true) x106.B true)
    ·refine tb (x := (vb (decide ((List.length a0.Links : Int) < (List.length a0.Links : Int))))) (d_lss) ?_; refine tcond_f h173 ?_; refine tkeepO2 ?_ rfl; refine tsome ?_; exact h38 (s101)
def an_slices_IndexFunc_api_Host_api_Host : Ann := .seq (.reg 0 [] [] []) (.seq (.seq (.reg 0 [] [] []) (.blk (some []) (.loop [.s 8] (.seq (.reg 0 [] [] []) (.seq (.cond none (.no) (.no)) (.seq (.blk none (.seq (.reg 0 [] [] []) (.seq (.reg 0 [] [] []) (.cond none (.seq (.reg 0 [] [] []) (.no)) (.no))))) (.reg 0 [] [] []))))))) (.seq (.reg 0 [] [] []) (.no)))
noncomputable def sem_slices_IndexFunc_api_Host_api_Host (E : FuncId → List V → Option V) (n : Nat) (xs : List V) : Option V := if xs.length ≤ 19 then denF Tryz.prog (envJ [] E) n Tryz.f95 an_slices_IndexFunc_api_Host_api_Host xs else none
theorem ok_slices_IndexFunc_api_Host_api_Host {E : FuncId → List V → Option V} (hE : EnvOk Tryz.prog DW E) (n : Nat) : SemOk Tryz.prog DW 95 (sem_slices_IndexFunc_api_Host_api_Host E n) := fun xs y h => by
 unfold sem_slices_IndexFunc_api_Host_api_Host at h
 split at h
 ·rename_i hl
  exact denF_ok stb Tryz.func95 (by kernel_rfl) (envJ_ok semsOk_nil hE) (by rw [Tryz.ntmps95]; exact hl) h
 ·cases h
theorem eq_slices_IndexFunc_api_Host_api_Host (E : FuncId → List V → Option V) (n : Nat) (x0 x1 : V) : sem_slices_IndexFunc_api_Host_api_Host E n [x0, x1] =
 (lenS [x0]).bind fun v1 =>
 JoinPt (fun vs2 =>
 some (vi (-1 : Int))) fun J3 =>
 (fixN (fun rec4 vs5 =>
 (bin2 Tryz.prog BinOp.lss 3 (ot 8) (ot 7) (List.getD vs5 0 V.any) v1).bind fun v6 =>
 condV v6 (
 (idxS 3 x0 (List.getD vs5 0 V.any)).bind fun v7 =>
 (ldp (some 3) v7).bind fun v8 =>
 (callV (envJ [] E) x1 [v8]).bind fun v9 =>
 condV v9 (
 some (List.getD vs5 0 V.any)) (
 (bin2 Tryz.prog BinOp.add 3 (ot 8) (oc 1) (List.getD vs5 0 V.any) (vi 1)).bind fun v10 =>
 rec4 [v10])) (
 J3 [])) n) [(vi 0)] := by kernel_rfl
noncomputable def t_slices_IndexFunc_api_Host_api_Host (a0 : (List T_Host)) (g1 : T_Host → Option Bool) : Option Int :=
 join (fun (s4 : Unit) =>
 some (-1 : Int)) fun j5 =>
 loopI a0 (fun (i13 : Int) x14 (s9 : Unit) k10 =>
 (g1 x14).bind fun r22 =>
 if r22 = true then (
 some i13) else (
 k10 ())) (fun (s9 : Unit) =>
 j5 ()) ()
theorem ty_slices_IndexFunc_api_Host_api_Host {E : FuncId → List V → Option V} {n : Nat} (hn : bigN ≤ n) (a0 : (List T_Host)) {x1 : V} {g1 : T_Host → Option Bool} (hg_g1 : ∀ a0, Rv (fun x : Bool => (vb x)) (callV E x1 [(T_Host.e a0)]) (g1 a0)) : Rv (fun x : Int => (vi x)) (sem_slices_IndexFunc_api_Host_api_Host E n [(V.sl (List.map T_Host.c a0)), x1]) (t_slices_IndexFunc_api_Host_api_Host a0 g1) := by
 rw [eq_slices_IndexFunc_api_Host_api_Host]
 unfold t_slices_IndexFunc_api_Host_api_Host; refine tb (x := (vi (List.length a0 : Int))) (p_len _) ?_; refine tjoin (mk := fun s4 : Unit => []) (fun s4 => ?_) fun J3 j5 h6 => ?_
 ·exact rf_ret rfl
 ·refine rf_loopI (mk := fun (i13 : Int) (s9 : Unit) => [(vi (i13 : Int))]) hn a0 () (fun i13 x14 h15 h16 h17 s9 rec7 k10 h11 => ?_) (fun s9 rec26 h25 => ?_)
  ·refine tb (x := (vb (decide ((i13 : Int) < (List.length a0 : Int))))) (d_lss) ?_; refine tcond_t h17 ?_; refine tb (x := (V.ptr (T_Host.c x14))) (p_idx_at (c := T_Host.c) (fun _ => rfl) h15) ?_; refine tb (x := (T_Host.e x14)) (rfl) ?_; refine tbo ((callV_J0 ▸ hg_g1 x14)) fun r22 => ?_; refine tcond (fun h23 => ?_) (fun h23 => ?_)
   ·exact rf_ret rfl
   ·refine tb (x := (vi ((i13 : Int) + 1))) (p_incN h16) ?_; exact h11 ()
  ·refine tb (x := (vb (decide ((List.length a0 : Int) < (List.length a0 : Int))))) (d_lss) ?_; refine tcond_f h25 ?_; exact h6 ()
def an_topo_Where_1 : Ann := .seq (.reg 0 [] [] []) (.seq (.reg 0 [] [] []) (.no))
noncomputable def sem_topo_Where_1 (n : Nat) (xs : List V) : Option V := if xs.length ≤ 8 then denF Tryz.prog (envOf []) n Tryz.f96 an_topo_Where_1 xs else none
theorem ok_topo_Where_1 (n : Nat) : SemOk Tryz.prog DW 96 (sem_topo_Where_1 n) := fun xs y h => by
 unfold sem_topo_Where_1 at h
 split at h
 ·rename_i hl
  exact denF_ok stb Tryz.func96 (by kernel_rfl) (envOf_ok semsOk_nil) (by rw [Tryz.ntmps96]; exact hl) h
 ·cases h
theorem eq_topo_Where_1 (n : Nat) (x0 x1 : V) : sem_topo_Where_1 n [x0, x1] =
 (V.cellsO x0).bind fun v1 =>
 (ldk none (List.drop 0 v1)).bind fun v2 =>
 (ldp none x1).bind fun v3 =>
 (bin2 Tryz.prog BinOp.eql 9 (ot 5) (ot 6) v2 v3).bind fun v4 =>
 some v4 := by kernel_rfl
noncomputable def t_topo_Where_1 (a0 : T_Host) (a1 : ByteArray) : Option Bool :=
 some (decide (a0.Name = a1))
theorem ty_topo_Where_1 {n : Nat} (hn : bigN ≤ n) (a0 : T_Host) (a1 : ByteArray) : Rv (fun x : Bool => (vb x)) (sem_topo_Where_1 n [(T_Host.e a0), (V.ptr [(vt a1)])]) (t_topo_Where_1 a0 a1) := by
 rw [eq_topo_Where_1]
 unfold t_topo_Where_1; refine tb (x := (T_Host.c a0)) rfl ?_; refine tb (x := (vt a0.Name)) (rfl) ?_; refine tb (x := (vt a1)) (rfl) ?_; refine tb (x := (vb (decide (a0.Name = a1)))) (p_eql_str) ?_; exact rf_ret rfl
def an_topo_Where : Ann := .seq (.reg 0 [] [] []) (.seq (.seq (.reg 0 [3] [] []) (.seq (.reg 0 [] [] []) (.cond none (.seq (.reg 0 [] [] []) (.no)) (.no)))) (.seq (.reg 0 [] [] []) (.seq (.seq (.reg 0 [] [] []) (.cond none (.seq (.reg 0 [] [] []) (.no)) (.no))) (.seq (.reg 0 [] [] []) (.no)))))
noncomputable def sem_topo_Where (n : Nat) (xs : List V) : Option V := if xs.length ≤ 28 then denF Tryz.prog (envOf [(53, (sem_topo_Check n)), (95, (sem_slices_IndexFunc_api_Host_api_Host (envOf [(96, (sem_topo_Where_1 n))]) n)), (96, (sem_topo_Where_1 n))]) n Tryz.f76 an_topo_Where xs else none
theorem ok_topo_Where (n : Nat) : SemOk Tryz.prog DW 76 (sem_topo_Where n) := fun xs y h => by
 unfold sem_topo_Where at h
 split at h
 ·rename_i hl
  exact denF_ok stb Tryz.func76 (by kernel_rfl) (envOf_ok (semsOk_cons (ok_topo_Check n) (semsOk_cons (ok_slices_IndexFunc_api_Host_api_Host (envOf_ok (semsOk_cons (ok_topo_Where_1 n) semsOk_nil)) n) (semsOk_cons (ok_topo_Where_1 n) semsOk_nil)))) (by rw [Tryz.ntmps76]; exact hl) h
 ·cases h
theorem eq_topo_Where (n : Nat) (x0 x1 : V) : sem_topo_Where n [x0, x1] =
 (V.cellsO x0).bind fun v1 =>
 (V.cellsO x1).bind fun v2 =>
 (ldk (some 3) (List.drop 0 v1)).bind fun v3 =>
 ((sem_topo_Check n) [v3]).bind fun v4 =>
 (bin2 Tryz.prog BinOp.neq 31 (ot 10) (Operand.const Go.Value.nilIface) v4 vn).bind fun v5 =>
 condV v5 (
 ((fillL [(vi 0), (vi 0)] []).map V.agg).bind fun v6 =>
 (spliceV [(vi 0), (vi 0)] 0 2 v6).bind fun v7 =>
 (ldk (some 2) (List.drop 0 (aggL v7))).bind fun v8 =>
 some (V.tup [v8, v4])) (
 (ldk none (List.drop 2 v1)).bind fun v9 =>
 ((sem_slices_IndexFunc_api_Host_api_Host (envOf [(96, (sem_topo_Where_1 n))]) n) [v9, (V.fn 96 [(V.ptr v2)])]).bind fun v10 =>
 (bin2 Tryz.prog BinOp.lss 3 (ot 18) (oc 0) v10 (vi 0)).bind fun v11 =>
 condV v11 (
 ((fillL [(vi 0), (vi 0)] []).map V.agg).bind fun v12 =>
 (scal1 Tryz.prog (Instr.makeInterface 86) (vi 5)).bind fun v13 =>
 (spliceV [(vi 0), (vi 0)] 0 2 v12).bind fun v14 =>
 (ldk (some 2) (List.drop 0 (aggL v14))).bind fun v15 =>
 some (V.tup [v15, v13])) (
 (ldk none (List.drop 2 v1)).bind fun v16 =>
 (idxS 3 v16 v10).bind fun v17 =>
 (ptrF 1 v17).bind fun v18 =>
 (ldp (some 2) v18).bind fun v19 =>
 (spliceV [(vi 0), (vi 0)] 0 2 v19).bind fun v20 =>
 (ldk (some 2) (List.drop 0 (aggL v20))).bind fun v21 =>
 some (V.tup [v21, vn]))) := by kernel_rfl
noncomputable def t_topo_Where (a0 : T_Topo) (a1 : ByteArray) : Option (T_Spot × Int) :=
 (t_topo_Check a0).bind fun r5 =>
 if (!decide (r5 = 0)) = true then (
 some ((T_Spot.mk 0 0), r5)) else (
 (t_slices_IndexFunc_api_Host_api_Host a0.Hosts (fun (a12 : T_Host) => t_topo_Where_1 a12 a1)).bind fun r14 =>
 if (decide (r14 < 0)) = true then (
 some ((T_Spot.mk 0 0), 5)) else (
 (idx a0.Hosts r14).bind fun r23 =>
 some (r23.At, 0)))
theorem ty_topo_Where {n : Nat} (hn : bigN ≤ n) (a0 : T_Topo) (a1 : ByteArray) : Rv (fun x : (T_Spot × Int) => V.tup [(T_Spot.e x.1), (eV x.2)]) (sem_topo_Where n [(T_Topo.e a0), (vt a1)]) (t_topo_Where a0 a1) := by
 rw [eq_topo_Where]
 unfold t_topo_Where; refine tb (x := (T_Topo.c a0)) rfl ?_; refine tb (x := [(vt a1)]) rfl ?_; refine tb (x := (T_Topo.e a0)) (rfl) ?_; refine tbo (ty_topo_Check hn a0) fun r5 => ?_; refine tb (x := (vb (!decide (r5 = 0)))) (p_err_neq _) ?_; refine tcond (fun h7 => ?_) (fun h7 => ?_)
 ·refine tb (x := (T_Spot.e (T_Spot.mk 0 0))) (by kernel_rfl) ?_; refine tb (x := V.agg (T_Spot.c (T_Spot.mk 0 0))) (by kernel_rfl) ?_; refine tb (x := (T_Spot.e (T_Spot.mk 0 0))) rfl ?_; exact rf_ret rfl
 ·refine tb (x := (V.sl (List.map T_Host.c a0.Hosts))) (rfl) ?_; refine tbo (ty_slices_IndexFunc_api_Host_api_Host (E := (envOf [(96, (sem_topo_Where_1 n))])) (x1 := (V.fn 96 [(V.ptr [(vt a1)])])) (g1 := (fun (a12 : T_Host) => t_topo_Where_1 a12 a1)) hn a0.Hosts (fun a12 => ty_topo_Where_1 hn a12 a1)) fun r14 => ?_; refine tb (x := (vb (decide (r14 < 0)))) (d_lss) ?_; refine tcond (fun h16 => ?_) (fun h16 => ?_)
  ·refine tb (x := (T_Spot.e (T_Spot.mk 0 0))) (by kernel_rfl) ?_; refine tb (x := (eV 5)) (p_mkE (by decide)) ?_; refine tb (x := V.agg (T_Spot.c (T_Spot.mk 0 0))) (by kernel_rfl) ?_; refine tb (x := (T_Spot.e (T_Spot.mk 0 0))) rfl ?_; exact rf_ret rfl
  ·refine tb (x := (V.sl (List.map T_Host.c a0.Hosts))) (rfl) ?_; refine tbo (p_idx (c := T_Host.c) (fun _ => rfl) a0.Hosts r14) fun r23 => ?_; refine tb (x := (V.ptr (List.drop 1 (T_Host.c r23)))) (rfl) ?_; refine tb (x := (T_Spot.e r23.At)) (rfl) ?_; refine tb (x := V.agg (T_Spot.c r23.At)) (by kernel_rfl) ?_; refine tb (x := (T_Spot.e r23.At)) rfl ?_; exact rf_ret rfl
def an_wish_one : Ann := .seq (.reg 0 [] [] []) (.seq (.blk none (.seq (.seq (.reg 0 [] [] []) (.cond (some [.kb 2, .kb 3, .s 9]) (.no) (.seq (.reg 0 [] [] []) (.cond (some [.kb 2, .kb 3, .s 9]) (.no) (.reg 0 [] [] []))))) (.cond none (.seq (.reg 0 [] [] []) (.no)) (.seq (.reg 0 [] [] []) (.cond none (.seq (.reg 0 [] [] []) (.no)) (.seq (.reg 0 [] [] []) (.cond none (.seq (.reg 0 [] [] []) (.no)) (.no)))))))) (.seq (.seq (.reg 0 [] [] []) (.blk (some []) (.loop [.kb 2, .s 63] (.seq (.reg 0 [] [] []) (.seq (.cond none (.no) (.no)) (.seq (.blk none (.seq (.reg 0 [] [] []) (.seq (.reg 0 [] [] []) (.seq (.reg 0 [] [] []) (.cond none (.seq (.reg 0 [] [] []) (.no)) (.no)))))) (.reg 0 [] [] []))))))) (.seq (.reg 0 [] [] []) (.no))))
noncomputable def sem_wish_one (n : Nat) (xs : List V) : Option V := if xs.length ≤ 77 then denF Tryz.prog (envOf [(58, (sem_wish_kind n)), (76, (sem_topo_Where n))]) n Tryz.f54 an_wish_one xs else none
theorem ok_wish_one (n : Nat) : SemOk Tryz.prog DW 54 (sem_wish_one n) := fun xs y h => by
 unfold sem_wish_one at h
 split at h
 ·rename_i hl
  exact denF_ok stb Tryz.func54 (by kernel_rfl) (envOf_ok (semsOk_cons (ok_wish_kind n) (semsOk_cons (ok_topo_Where n) semsOk_nil))) (by rw [Tryz.ntmps54]; exact hl) h
 ·cases h
theorem eq_wish_one (n : Nat) (x0 x1 : V) : sem_wish_one n [x0, x1] =
 (V.cellsO x0).bind fun v1 =>
 (V.cellsO x1).bind fun v2 =>
 (ldk none (List.drop 0 v2)).bind fun v3 =>
 ((sem_wish_kind n) [v3]).bind fun v4 =>
 (scal1 Tryz.prog (Op.unary Go.UnOp.not) v4).bind fun v5 =>
 JoinPt (fun vs6 =>
 condV (List.getD vs6 0 V.any) (
 (scal1 Tryz.prog (Instr.makeInterface 86) (vi 1)).bind fun v8 =>
 some v8) (
 (ldk none (List.drop 0 v2)).bind fun v9 =>
 (bin2 Tryz.prog BinOp.eql 3 (ot 40) (oc 4) v9 (vi 4)).bind fun v10 =>
 (guardV v10 true (some V.any)).bind fun v11 =>
 (guardV v10 true ((gate v10 true (ldk none (List.drop 1 v2))).bind fun v12 =>
 some v12)).bind fun v13 =>
 (guardV v10 true ((bin2 Tryz.prog BinOp.neq 9 (ot 44) (Operand.const (Go.Value.string (ByteArray.mk #[]))) v13 (vt ⟨#[]⟩)).bind fun v14 =>
 some v14)).bind fun v15 =>
 (guardV v10 true (some v15)).bind fun v16 =>
 (guardV v16 false (some V.any)).bind fun v17 =>
 (guardV v16 false ((gate v16 false (ldk none (List.drop 2 v2))).bind fun v18 =>
 some v18)).bind fun v19 =>
 (guardV v16 false ((bin2 Tryz.prog BinOp.neq 9 (ot 48) (Operand.const (Go.Value.string (ByteArray.mk #[]))) v19 (vt ⟨#[]⟩)).bind fun v20 =>
 some v20)).bind fun v21 =>
 (guardV v10 true ((pickV v16 (vb true) v21).bind fun v22 =>
 some v22)).bind fun v23 =>
 (pickV v10 v23 (vb false)).bind fun v24 =>
 condV v24 (
 (scal1 Tryz.prog (Instr.makeInterface 86) (vi 3)).bind fun v25 =>
 some v25) (
 (ldk none (List.drop 0 v2)).bind fun v26 =>
 (bin2 Tryz.prog BinOp.eql 3 (ot 55) (oc 4) v26 (vi 4)).bind fun v27 =>
 condV v27 (
 some vn) (
 (ldk none (List.drop 1 v2)).bind fun v28 =>
 (ldk none (List.drop 2 v2)).bind fun v29 =>
 (slcB 1 2 [(vt ⟨#[]⟩)] [(0, v28), (1, v29)]).bind fun v30 =>
 (lenS [v30]).bind fun v31 =>
 JoinPt (fun vs32 =>
 some vn) fun J33 =>
 (keepO (some v1) (some v1) (some [(vi 0)])).bind (fixN (fun rec34 vs35 =>
 (bin2 Tryz.prog BinOp.lss 3 (ot 63) (ot 62) (List.getD vs35 0 V.any) v31).bind fun v36 =>
 condV v36 (
 (idxS 1 v30 (List.getD vs35 0 V.any)).bind fun v37 =>
 (ldp none v37).bind fun v38 =>
 (ldk (some 3) (List.drop 0 v1)).bind fun v39 =>
 ((sem_topo_Where n) [v39, v38]).bind fun v40 =>
 (extractV v40 0).bind fun v41 =>
 (extractV v40 1).bind fun v42 =>
 (spliceV [(vi 0), (vi 0)] 0 2 v41).bind fun v43 =>
 (bin2 Tryz.prog BinOp.neq 31 (ot 73) (Operand.const Go.Value.nilIface) v42 vn).bind fun v44 =>
 condV v44 (
 some v42) (
 (bin2 Tryz.prog BinOp.add 3 (ot 63) (oc 1) (List.getD vs35 0 V.any) (vi 1)).bind fun v45 =>
 (keepO (some v1) (some v1) (some [v45])).bind rec34)) (
 J33 [])) n))))) fun J7 =>
 condV v5 (
 (keepO (some v1) (some v1) (keepO (some v2) (some v2) (some [v5]))).bind J7) (
 (ldk none (List.drop 0 v2)).bind fun v46 =>
 (bin2 Tryz.prog BinOp.eql 3 (ot 15) (oc 3) v46 (vi 3)).bind fun v47 =>
 (guardV v47 true (some V.any)).bind fun v48 =>
 (guardV v47 true ((gate v47 true (ldk none (List.drop 3 v2))).bind fun v49 =>
 some v49)).bind fun v50 =>
 (guardV v47 true ((bin2 Tryz.prog BinOp.lss 3 (ot 19) (oc 1) v50 (vi 1)).bind fun v51 =>
 some v51)).bind fun v52 =>
 (guardV v47 true (some v52)).bind fun v53 =>
 (guardV v53 false (some V.any)).bind fun v54 =>
 (guardV v53 false ((gate v53 false (ldk none (List.drop 3 v2))).bind fun v55 =>
 some v55)).bind fun v56 =>
 (guardV v53 false (some V.any)).bind fun v57 =>
 (guardV v53 false ((gate v53 false (ldk none (List.drop 0 v1))).bind fun v58 =>
 some v58)).bind fun v59 =>
 (guardV v53 false ((bin2 Tryz.prog BinOp.gtr 3 (ot 23) (ot 25) v56 v59).bind fun v60 =>
 some v60)).bind fun v61 =>
 (guardV v47 true ((pickV v53 (vb true) v61).bind fun v62 =>
 some v62)).bind fun v63 =>
 (pickV v47 v63 (vb false)).bind fun v64 =>
 JoinPt (fun vs65 =>
 (keepO (some v1) (some v1) (keepO (some v2) (some v2) (some [(List.getD vs65 0 V.any)]))).bind J7) fun J66 =>
 condV v64 (
 (keepO (some v1) (some v1) (keepO (some v2) (some v2) (some [v64]))).bind J66) (
 (ldk none (List.drop 0 v2)).bind fun v67 =>
 (bin2 Tryz.prog BinOp.neq 3 (ot 30) (oc 3) v67 (vi 3)).bind fun v68 =>
 (guardV v68 true (some V.any)).bind fun v69 =>
 (guardV v68 true ((gate v68 true (ldk none (List.drop 3 v2))).bind fun v70 =>
 some v70)).bind fun v71 =>
 (guardV v68 true ((bin2 Tryz.prog BinOp.neq 3 (ot 34) (oc 0) v71 (vi 0)).bind fun v72 =>
 some v72)).bind fun v73 =>
 (pickV v68 v73 (vb false)).bind fun v74 =>
 (keepO (some v1) (some v1) (keepO (some v2) (some v2) (some [v74]))).bind J66)) := by kernel_rfl
noncomputable def t_wish_one (a0 : T_Topo) (a1 : T_Wish) : Option Int :=
 (t_wish_kind a1.What).bind fun r5 =>
 (if (!r5) = true then (
 some (!r5)) else (
 (if ((decide (a1.What = 3)) && ((decide (a1.Via < 1)) || (decide (a0.Switches < a1.Via)))) = true then (
 some ((decide (a1.What = 3)) && ((decide (a1.Via < 1)) || (decide (a0.Switches < a1.Via))))) else (
 some ((decide (a1.What ≠ 3)) && (decide (a1.Via ≠ 0))))).bind fun (s110 : Bool) =>
 some (s110))).bind fun (s9 : Bool) =>
 if s9 = true then (
 some 1) else (
 if ((decide (a1.What = 4)) && ((!decide (a1.From = (ByteArray.mk #[]))) || (!decide (a1.To = (ByteArray.mk #[]))))) = true then (
 some 3) else (
 if (decide (a1.What = 4)) = true then (
 some 0) else (
 join (fun (s49 : Unit) =>
 some 0) fun j50 =>
 loopI ([a1.From, a1.To] : (List ByteArray)) (fun (i58 : Int) x59 (s54 : Unit) k55 =>
 (t_topo_Where a0 x59).bind fun r68 =>
 if (!decide (r68.2 = 0)) = true then (
 some r68.2) else (
 k55 ())) (fun (s54 : Unit) =>
 j50 ()) ())))
theorem ty_wish_one {n : Nat} (hn : bigN ≤ n) (a0 : T_Topo) (a1 : T_Wish) : Rv (fun x : Int => (eV x)) (sem_wish_one n [(T_Topo.e a0), (T_Wish.e a1)]) (t_wish_one a0 a1) := by
 rw [eq_wish_one]
 unfold t_wish_one; refine tb (x := (T_Topo.c a0)) rfl ?_; refine tb (x := (T_Wish.c a1)) rfl ?_; refine tb (x := (vi a1.What)) (rfl) ?_; refine tbo (ty_wish_kind hn a1.What) fun r5 => ?_; refine tb (x := (vb (!r5))) (d_not) ?_; refine tjb (mk := fun s9 : Bool => [(vb s9)]) (fun J8 => ?_) fun s9 => ?_
 ·refine tcond (fun h78 => ?_) (fun h78 => ?_)
  ·refine tkeepO2 ?_ rfl; refine tkeepO2 ?_ rfl; refine tsome ?_; exact rf_j rfl
  ·refine tb (x := (vi a1.What)) (rfl) ?_; refine tb (x := (vb (decide (a1.What = 3)))) (d_eql) ?_; refine tg (x := V.any) (fun h81 => rfl) ?_; refine tg (x := (vi a1.Via)) (fun h83 => bind_some_eq (gate_pos h83 (rfl))) ?_; refine tg (x := (vb (decide (a1.Via < 1)))) (fun h86 => by simp only [gv_t h86]; exact bind_some_eq (d_lss)) ?_; refine tg (x := (vb (decide (a1.Via < 1)))) (fun h89 => congrArg some (gv_t h89)) ?_; refine tg2_f (x := V.any) (fun h91 => rfl) ?_; refine tg2_f (x := (vi a1.Via)) (fun h93 => bind_some_eq (gate_pos2 (and_l h93) (not_t (and_r h93)) (rfl))) ?_; refine tg2_f (x := V.any) (fun h96 => rfl) ?_; refine tg2_f (x := (vi a0.Switches)) (fun h98 => bind_some_eq (gate_pos2 (and_l h98) (not_t (and_r h98)) (rfl))) ?_; refine tg2_f (x := (vb (decide (a0.Switches < a1.Via)))) (fun h101 => by simp only [gv_t h101]; exact bind_some_eq (d_gtr)) ?_; refine tg (x := (vb ((decide (a1.Via < 1)) || (decide (a0.Switches < a1.Via))))) (fun h104 => by simp only [gv_t h104]; exact bind_some_eq (pick_or (fun h9 => gv_t (and_i h104 (not_f h9))))) ?_; refine tb (x := (vb ((decide (a1.What = 3)) && ((decide (a1.Via < 1)) || (decide (a0.Switches < a1.Via)))))) (pick_and (fun h9 => gv_t h9)) ?_; refine tjb (mk := fun s110 : Bool => [(vb s110)]) (fun J109 => ?_) fun s110 => ?_
   ·refine tcond (fun h113 => ?_) (fun h113 => ?_)
    ·refine tkeepO2 ?_ rfl; refine tkeepO2 ?_ rfl; refine tsome ?_; exact rf_j rfl
    ·refine tb (x := (vi a1.What)) (rfl) ?_; refine tb (x := (vb (decide (a1.What ≠ 3)))) (d_neq) ?_; refine tg (x := V.any) (fun h116 => rfl) ?_; refine tg (x := (vi a1.Via)) (fun h118 => bind_some_eq (gate_pos h118 (rfl))) ?_; refine tg (x := (vb (decide (a1.Via ≠ 0)))) (fun h121 => by simp only [gv_t h121]; exact bind_some_eq (d_neq)) ?_; refine tb (x := (vb ((decide (a1.What ≠ 3)) && (decide (a1.Via ≠ 0))))) (pick_and (fun h9 => gv_t h9)) ?_; refine tkeepO2 ?_ rfl; refine tkeepO2 ?_ rfl; refine tsome ?_; exact rf_j rfl
   ·refine tkeepO2 ?_ rfl; refine tkeepO2 ?_ rfl; refine tsome ?_; exact rf_j rfl
 ·refine tcond (fun h12 => ?_) (fun h12 => ?_)
  ·refine tb (x := (eV 1)) (p_mkE (by decide)) ?_; exact rf_ret rfl
  ·refine tb (x := (vi a1.What)) (rfl) ?_; refine tb (x := (vb (decide (a1.What = 4)))) (d_eql) ?_; refine tg (x := V.any) (fun h16 => rfl) ?_; refine tg (x := (vt a1.From)) (fun h18 => bind_some_eq (gate_pos h18 (rfl))) ?_; refine tg (x := (vb (!decide (a1.From = (ByteArray.mk #[]))))) (fun h21 => by simp only [gv_t h21]; exact bind_some_eq (p_neq_str)) ?_; refine tg (x := (vb (!decide (a1.From = (ByteArray.mk #[]))))) (fun h24 => congrArg some (gv_t h24)) ?_; refine tg2_f (x := V.any) (fun h26 => rfl) ?_; refine tg2_f (x := (vt a1.To)) (fun h28 => bind_some_eq (gate_pos2 (and_l h28) (not_t (and_r h28)) (rfl))) ?_; refine tg2_f (x := (vb (!decide (a1.To = (ByteArray.mk #[]))))) (fun h31 => by simp only [gv_t h31]; exact bind_some_eq (p_neq_str)) ?_; refine tg (x := (vb ((!decide (a1.From = (ByteArray.mk #[]))) || (!decide (a1.To = (ByteArray.mk #[])))))) (fun h34 => by simp only [gv_t h34]; exact bind_some_eq (pick_or (fun h9 => gv_t (and_i h34 (not_f h9))))) ?_; refine tb (x := (vb ((decide (a1.What = 4)) && ((!decide (a1.From = (ByteArray.mk #[]))) || (!decide (a1.To = (ByteArray.mk #[]))))))) (pick_and (fun h9 => gv_t h9)) ?_; refine tcond (fun h38 => ?_) (fun h38 => ?_)
   ·refine tb (x := (eV 3)) (p_mkE (by decide)) ?_; exact rf_ret rfl
   ·refine tb (x := (vi a1.What)) (rfl) ?_; refine tb (x := (vb (decide (a1.What = 4)))) (d_eql) ?_; refine tcond (fun h42 => ?_) (fun h42 => ?_)
    ·exact rf_ret rfl
    ·refine tb (x := (vt a1.From)) (rfl) ?_; refine tb (x := (vt a1.To)) (rfl) ?_; refine tb (x := (V.sl (List.map cT ([a1.From, a1.To] : (List ByteArray))))) (by kernel_rfl) ?_; refine tb (x := (vi (List.length ([a1.From, a1.To] : (List ByteArray)) : Int))) (p_len _) ?_; refine tjoin (mk := fun s49 : Unit => []) (fun s49 => ?_) fun J48 j50 h51 => ?_
     ·exact rf_ret rfl
     ·refine tkeepO2 ?_ rfl; refine tsome ?_; refine rf_loopI (mk := fun (i58 : Int) (s54 : Unit) => [(vi (i58 : Int))]) hn ([a1.From, a1.To] : (List ByteArray)) () (fun i58 x59 h60 h61 h62 s54 rec52 k55 h56 => ?_) (fun s54 rec76 h75 => ?_)
      ·refine tb (x := (vb (decide ((i58 : Int) < (List.length ([a1.From, a1.To] : (List ByteArray)) : Int))))) (d_lss) ?_; refine tcond_t h62 ?_; refine tb (x := (V.ptr [(vt x59)])) (p_idx_at (c := cT) (fun _ => rfl) h60) ?_; refine tb (x := (vt x59)) (rfl) ?_; refine tb (x := (T_Topo.e a0)) (rfl) ?_; refine tbo (ty_topo_Where hn a0 x59) fun r68 => ?_; refine tb (x := (T_Spot.e r68.1)) (rfl) ?_; refine tb (x := (eV r68.2)) (rfl) ?_; refine tb (x := V.agg (T_Spot.c r68.1)) (by kernel_rfl) ?_; refine tb (x := (vb (!decide (r68.2 = 0)))) (p_err_neq _) ?_; refine tcond (fun h73 => ?_) (fun h73 => ?_)
       ·exact rf_ret rfl
       ·refine tb (x := (vi ((i58 : Int) + 1))) (p_incN h61) ?_; refine tkeepO2 ?_ rfl; refine tsome ?_; exact h56 ()
      ·refine tb (x := (vb (decide ((List.length ([a1.From, a1.To] : (List ByteArray)) : Int) < (List.length ([a1.From, a1.To] : (List ByteArray)) : Int))))) (d_lss) ?_; refine tcond_f h75 ?_; exact h51 ()
def an_wish_Check : Ann := .seq (.reg 0 [] [] []) (.seq (.seq (.reg 0 [] [] []) (.seq (.reg 0 [] [] []) (.cond none (.seq (.reg 0 [] [] []) (.no)) (.no)))) (.seq (.seq (.reg 0 [] [] []) (.cond none (.seq (.reg 0 [] [] []) (.no)) (.no))) (.seq (.seq (.reg 0 [] [] []) (.blk (some []) (.loop [.kb 2, .s 20] (.seq (.reg 0 [] [] []) (.seq (.cond none (.no) (.no)) (.seq (.blk none (.seq (.reg 0 [] [] []) (.seq (.reg 0 [] [] []) (.seq (.reg 0 [] [] []) (.cond none (.seq (.reg 0 [] [] []) (.no)) (.no)))))) (.reg 0 [] [] []))))))) (.seq (.reg 0 [] [] []) (.no)))))
noncomputable def sem_wish_Check (n : Nat) (xs : List V) : Option V := if xs.length ≤ 31 then denF Tryz.prog (envOf [(53, (sem_topo_Check n)), (54, (sem_wish_one n))]) n Tryz.f22 an_wish_Check xs else none
theorem ok_wish_Check (n : Nat) : SemOk Tryz.prog DW 22 (sem_wish_Check n) := fun xs y h => by
 unfold sem_wish_Check at h
 split at h
 ·rename_i hl
  exact denF_ok stb Tryz.func22 (by kernel_rfl) (envOf_ok (semsOk_cons (ok_topo_Check n) (semsOk_cons (ok_wish_one n) semsOk_nil))) (by rw [Tryz.ntmps22]; exact hl) h
 ·cases h
theorem eq_wish_Check (n : Nat) (x0 x1 : V) : sem_wish_Check n [x0, x1] =
 (V.cellsO x0).bind fun v1 =>
 (ldk (some 3) (List.drop 0 v1)).bind fun v2 =>
 ((sem_topo_Check n) [v2]).bind fun v3 =>
 (bin2 Tryz.prog BinOp.neq 31 (ot 11) (Operand.const Go.Value.nilIface) v3 vn).bind fun v4 =>
 condV v4 (
 some v3) (
 (lenS [x1]).bind fun v5 =>
 (bin2 Tryz.prog BinOp.gtr 3 (ot 15) (oc 8) v5 (vi 8)).bind fun v6 =>
 condV v6 (
 (scal1 Tryz.prog (Instr.makeInterface 86) (vi 4)).bind fun v7 =>
 some v7) (
 (lenS [x1]).bind fun v8 =>
 JoinPt (fun vs9 =>
 some vn) fun J10 =>
 (keepO (some v1) (some v1) (some [(vi 0)])).bind (fixN (fun rec11 vs12 =>
 (bin2 Tryz.prog BinOp.lss 3 (ot 20) (ot 19) (List.getD vs12 0 V.any) v8).bind fun v13 =>
 condV v13 (
 (idxS 4 x1 (List.getD vs12 0 V.any)).bind fun v14 =>
 (ldp (some 4) v14).bind fun v15 =>
 (spliceV [(vi 0), (vt ⟨#[]⟩), (vt ⟨#[]⟩), (vi 0)] 0 4 v15).bind fun v16 =>
 (ldk (some 3) (List.drop 0 v1)).bind fun v17 =>
 (ldk (some 4) (List.drop 0 (aggL v16))).bind fun v18 =>
 ((sem_wish_one n) [v17, v18]).bind fun v19 =>
 (bin2 Tryz.prog BinOp.neq 31 (ot 27) (Operand.const Go.Value.nilIface) v19 vn).bind fun v20 =>
 condV v20 (
 some v19) (
 (bin2 Tryz.prog BinOp.add 3 (ot 20) (oc 1) (List.getD vs12 0 V.any) (vi 1)).bind fun v21 =>
 (keepO (some v1) (some v1) (some [v21])).bind rec11)) (
 J10 [])) n))) := by kernel_rfl
noncomputable def t_wish_Check (a0 : T_Topo) (a1 : (List T_Wish)) : Option Int :=
 (t_topo_Check a0).bind fun r4 =>
 if (!decide (r4 = 0)) = true then (
 some r4) else (
 if (decide (8 < (List.length a1 : Int))) = true then (
 some 4) else (
 join (fun (s14 : Unit) =>
 some 0) fun j15 =>
 loopI a1 (fun (i23 : Int) x24 (s19 : Unit) k20 =>
 (t_wish_one a0 x24).bind fun r35 =>
 if (!decide (r35 = 0)) = true then (
 some r35) else (
 k20 ())) (fun (s19 : Unit) =>
 j15 ()) ()))
theorem ty_wish_Check {n : Nat} (hn : bigN ≤ n) (a0 : T_Topo) (a1 : (List T_Wish)) : Rv (fun x : Int => (eV x)) (sem_wish_Check n [(T_Topo.e a0), (V.sl (List.map T_Wish.c a1))]) (t_wish_Check a0 a1) := by
 rw [eq_wish_Check]
 unfold t_wish_Check; refine tb (x := (T_Topo.c a0)) rfl ?_; refine tb (x := (T_Topo.e a0)) (rfl) ?_; refine tbo (ty_topo_Check hn a0) fun r4 => ?_; refine tb (x := (vb (!decide (r4 = 0)))) (p_err_neq _) ?_; refine tcond (fun h6 => ?_) (fun h6 => ?_)
 ·exact rf_ret rfl
 ·refine tb (x := (vi (List.length a1 : Int))) (p_len _) ?_; refine tb (x := (vb (decide (8 < (List.length a1 : Int))))) (d_gtr) ?_; refine tcond (fun h9 => ?_) (fun h9 => ?_)
  ·refine tb (x := (eV 4)) (p_mkE (by decide)) ?_; exact rf_ret rfl
  ·refine tb (x := (vi (List.length a1 : Int))) (p_len _) ?_; refine tjoin (mk := fun s14 : Unit => []) (fun s14 => ?_) fun J13 j15 h16 => ?_
   ·exact rf_ret rfl
   ·refine tkeepO2 ?_ rfl; refine tsome ?_; refine rf_loopI (mk := fun (i23 : Int) (s19 : Unit) => [(vi (i23 : Int))]) hn a1 () (fun i23 x24 h25 h26 h27 s19 rec17 k20 h21 => ?_) (fun s19 rec40 h39 => ?_)
    ·refine tb (x := (vb (decide ((i23 : Int) < (List.length a1 : Int))))) (d_lss) ?_; refine tcond_t h27 ?_; refine tb (x := (V.ptr (T_Wish.c x24))) (p_idx_at (c := T_Wish.c) (fun _ => rfl) h25) ?_; refine tb (x := (T_Wish.e x24)) (rfl) ?_; refine tb (x := V.agg (T_Wish.c x24)) (by kernel_rfl) ?_; refine tb (x := (T_Topo.e a0)) (rfl) ?_; refine tb (x := (T_Wish.e x24)) (rfl) ?_; refine tbo (ty_wish_one hn a0 x24) fun r35 => ?_; refine tb (x := (vb (!decide (r35 = 0)))) (p_err_neq _) ?_; refine tcond (fun h37 => ?_) (fun h37 => ?_)
     ·exact rf_ret rfl
     ·refine tb (x := (vi ((i23 : Int) + 1))) (p_incN h26) ?_; refine tkeepO2 ?_ rfl; refine tsome ?_; exact h21 ()
    ·refine tb (x := (vb (decide ((List.length a1 : Int) < (List.length a1 : Int))))) (d_lss) ?_; refine tcond_f h39 ?_; exact h16 ()
def an_railref1_Spot : Ann := .seq (.reg 0 [] [] []) (.seq (.reg 0 [] [] []) (.no))
noncomputable def sem_railref1_Spot (n : Nat) (xs : List V) : Option V := if xs.length ≤ 25 then denF Tryz.prog (envOf []) n Tryz.f77 an_railref1_Spot xs else none
theorem ok_railref1_Spot (n : Nat) : SemOk Tryz.prog DW 77 (sem_railref1_Spot n) := fun xs y h => by
 unfold sem_railref1_Spot at h
 split at h
 ·rename_i hl
  exact denF_ok stb Tryz.func77 (by kernel_rfl) (envOf_ok semsOk_nil) (by rw [Tryz.ntmps77]; exact hl) h
 ·cases h
theorem eq_railref1_Spot (n : Nat) (x0 x1 : V) : sem_railref1_Spot n [x0, x1] =
 (V.cellsO x0).bind fun v1 =>
 (V.cellsO x1).bind fun v2 =>
 (ldk none (List.drop 0 v2)).bind fun v3 =>
 (bin2 Tryz.prog BinOp.geq 3 (ot 6) (oc 1) v3 (vi 1)).bind fun v4 =>
 (guardV v4 true (some V.any)).bind fun v5 =>
 (guardV v4 true ((gate v4 true (ldk none (List.drop 0 v2))).bind fun v6 =>
 some v6)).bind fun v7 =>
 (guardV v4 true (some V.any)).bind fun v8 =>
 (guardV v4 true ((gate v4 true (ldk none (List.drop 0 v1))).bind fun v9 =>
 some v9)).bind fun v10 =>
 (guardV v4 true ((bin2 Tryz.prog BinOp.leq 3 (ot 10) (ot 12) v7 v10).bind fun v11 =>
 some v11)).bind fun v12 =>
 (pickV v4 v12 (vb false)).bind fun v13 =>
 (guardV v13 true (some V.any)).bind fun v14 =>
 (guardV v13 true ((gate v13 true (ldk none (List.drop 1 v2))).bind fun v15 =>
 some v15)).bind fun v16 =>
 (guardV v13 true ((bin2 Tryz.prog BinOp.geq 3 (ot 17) (oc 1) v16 (vi 1)).bind fun v17 =>
 some v17)).bind fun v18 =>
 (pickV v13 v18 (vb false)).bind fun v19 =>
 (guardV v19 true (some V.any)).bind fun v20 =>
 (guardV v19 true ((gate v19 true (ldk none (List.drop 1 v2))).bind fun v21 =>
 some v21)).bind fun v22 =>
 (guardV v19 true ((bin2 Tryz.prog BinOp.leq 3 (ot 22) (oc 4) v22 (vi 4)).bind fun v23 =>
 some v23)).bind fun v24 =>
 (pickV v19 v24 (vb false)).bind fun v25 =>
 some v25 := by kernel_rfl
noncomputable def t_railref1_Spot (a0 : T_Topo) (a1 : T_Spot) : Option Bool :=
 some ((((decide (1 ≤ a1.Switch)) && (decide (a1.Switch ≤ a0.Switches))) && (decide (1 ≤ a1.Port))) && (decide (a1.Port ≤ 4)))
theorem ty_railref1_Spot {n : Nat} (hn : bigN ≤ n) (a0 : T_Topo) (a1 : T_Spot) : Rv (fun x : Bool => (vb x)) (sem_railref1_Spot n [(T_Topo.e a0), (T_Spot.e a1)]) (t_railref1_Spot a0 a1) := by
 rw [eq_railref1_Spot]
 unfold t_railref1_Spot; refine tb (x := (T_Topo.c a0)) rfl ?_; refine tb (x := (T_Spot.c a1)) rfl ?_; refine tb (x := (vi a1.Switch)) (rfl) ?_; refine tb (x := (vb (decide (1 ≤ a1.Switch)))) (d_geq) ?_; refine tg (x := V.any) (fun h5 => rfl) ?_; refine tg (x := (vi a1.Switch)) (fun h7 => bind_some_eq (gate_pos h7 (rfl))) ?_; refine tg (x := V.any) (fun h10 => rfl) ?_; refine tg (x := (vi a0.Switches)) (fun h12 => bind_some_eq (gate_pos h12 (rfl))) ?_; refine tg (x := (vb (decide (a1.Switch ≤ a0.Switches)))) (fun h15 => by simp only [gv_t h15]; exact bind_some_eq (d_leq)) ?_; refine tb (x := (vb ((decide (1 ≤ a1.Switch)) && (decide (a1.Switch ≤ a0.Switches))))) (pick_and (fun h9 => gv_t h9)) ?_; refine tg (x := V.any) (fun h19 => rfl) ?_; refine tg (x := (vi a1.Port)) (fun h21 => bind_some_eq (gate_pos h21 (rfl))) ?_; refine tg (x := (vb (decide (1 ≤ a1.Port)))) (fun h24 => by simp only [gv_t h24]; exact bind_some_eq (d_geq)) ?_; refine tb (x := (vb (((decide (1 ≤ a1.Switch)) && (decide (a1.Switch ≤ a0.Switches))) && (decide (1 ≤ a1.Port))))) (pick_and (fun h9 => gv_t h9)) ?_; refine tg (x := V.any) (fun h28 => rfl) ?_; refine tg (x := (vi a1.Port)) (fun h30 => bind_some_eq (gate_pos h30 (rfl))) ?_; refine tg (x := (vb (decide (a1.Port ≤ 4)))) (fun h33 => by simp only [gv_t h33]; exact bind_some_eq (d_leq)) ?_; refine tb (x := (vb ((((decide (1 ≤ a1.Switch)) && (decide (a1.Switch ≤ a0.Switches))) && (decide (1 ≤ a1.Port))) && (decide (a1.Port ≤ 4))))) (pick_and (fun h9 => gv_t h9)) ?_; exact rf_ret rfl
def an_railref1_Name : Ann := .seq (.reg 0 [] [] []) (.seq (.seq (.reg 0 [] [] []) (.cond none (.seq (.reg 0 [] [] []) (.no)) (.no))) (.seq (.seq (.reg 0 [] [] []) (.blk (some []) (.loop [.s 3] (.seq (.seq (.reg 0 [] [] []) (.cond none (.no) (.no))) (.seq (.blk none (.seq (.reg 0 [] [] []) (.cond none (.seq (.reg 0 [] [] []) (.no)) (.no)))) (.reg 0 [] [] [])))))) (.seq (.reg 0 [] [] []) (.no))))
noncomputable def sem_railref1_Name (n : Nat) (xs : List V) : Option V := if xs.length ≤ 27 then denF Tryz.prog (envOf []) n Tryz.f57 an_railref1_Name xs else none
theorem ok_railref1_Name (n : Nat) : SemOk Tryz.prog DW 57 (sem_railref1_Name n) := fun xs y h => by
 unfold sem_railref1_Name at h
 split at h
 ·rename_i hl
  exact denF_ok stb Tryz.func57 (by kernel_rfl) (envOf_ok semsOk_nil) (by rw [Tryz.ntmps57]; exact hl) h
 ·cases h
theorem eq_railref1_Name (n : Nat) (x0 : V) : sem_railref1_Name n [x0] =
 (bin2 Tryz.prog BinOp.eql 9 (ot 4) (Operand.const (Go.Value.string (ByteArray.mk #[]))) x0 (vt ⟨#[]⟩)).bind fun v1 =>
 (guardV v1 false (some x0)).bind fun v2 =>
 (guardV v1 false ((lenT [v2]).bind fun v3 =>
 some v3)).bind fun v4 =>
 (guardV v1 false ((bin2 Tryz.prog BinOp.gtr 3 (ot 8) (oc 6) v4 (vi 6)).bind fun v5 =>
 some v5)).bind fun v6 =>
 (pickV v1 (vb true) v6).bind fun v7 =>
 condV v7 (
 some (vb false)) (
 JoinPt (fun vs8 =>
 some (vb true)) fun J9 =>
 (fixN (fun rec10 vs11 =>
 (lenT [x0]).bind fun v12 =>
 (bin2 Tryz.prog BinOp.lss 3 (ot 11) (ot 13) (List.getD vs11 0 V.any) v12).bind fun v13 =>
 condV v13 (
 (scal2 Tryz.prog (Instr.index 9) x0 (List.getD vs11 0 V.any)).bind fun v14 =>
 (bin2 Tryz.prog BinOp.lss 5 (ot 19) (Operand.const (Go.Value.int Go.IntKind.u8 97)) v14 (V.lit (Go.Value.int Go.IntKind.u8 97))).bind fun v15 =>
 (guardV v15 false (some x0)).bind fun v16 =>
 (guardV v15 false (some (List.getD vs11 0 V.any))).bind fun v17 =>
 (guardV v15 false ((scal2 Tryz.prog (Instr.index 9) v16 v17).bind fun v18 =>
 some v18)).bind fun v19 =>
 (guardV v15 false ((bin2 Tryz.prog BinOp.gtr 5 (ot 24) (Operand.const (Go.Value.int Go.IntKind.u8 122)) v19 (V.lit (Go.Value.int Go.IntKind.u8 122))).bind fun v20 =>
 some v20)).bind fun v21 =>
 (pickV v15 (vb true) v21).bind fun v22 =>
 condV v22 (
 some (vb false)) (
 (bin2 Tryz.prog BinOp.add 3 (ot 15) (oc 1) (List.getD vs11 0 V.any) (vi 1)).bind fun v23 =>
 rec10 [v23])) (
 J9 [])) n) [(vi 0)]) := by kernel_rfl
noncomputable def t_railref1_Name (a0 : ByteArray) : Option Bool :=
 if ((decide (a0 = (ByteArray.mk #[]))) || (decide (6 < (a0.size : Int)))) = true then (
 some false) else (
 join (fun (s14 : Unit) =>
 some true) fun j15 =>
 loopU 0 (a0.size : Int) (fun (i23 : Int) (s19 : Unit) k20 =>
 (sidx a0 i23).bind fun r32 =>
 (gd (!(decide (r32 < 97))) default (sidx a0 i23)).bind fun r41 =>
 if ((decide (r32 < 97)) || (decide (122 < r41))) = true then (
 some false) else (
 k20 ())) (fun (i23 : Int) (s19 : Unit) =>
 j15 ()) ())
theorem ty_railref1_Name {n : Nat} (hn : bigN ≤ n) (a0 : ByteArray) : Rv (fun x : Bool => (vb x)) (sem_railref1_Name n [(vt a0)]) (t_railref1_Name a0) := by
 rw [eq_railref1_Name]
 unfold t_railref1_Name; refine tb (x := (vb (decide (a0 = (ByteArray.mk #[]))))) (p_eql_str) ?_; refine tg_f (x := (vt a0)) (fun h2 => rfl) ?_; refine tg_f (x := (vi (a0.size : Int))) (fun h4 => by simp only [gv_t h4]; exact bind_some_eq (rfl)) ?_; refine tg_f (x := (vb (decide (6 < (a0.size : Int))))) (fun h7 => by simp only [gv_t h7]; exact bind_some_eq (d_gtr)) ?_; refine tb (x := (vb ((decide (a0 = (ByteArray.mk #[]))) || (decide (6 < (a0.size : Int)))))) (pick_or (fun h9 => gv_t (not_f h9))) ?_; refine tcond (fun h11 => ?_) (fun h11 => ?_)
 ·exact rf_ret rfl
 ·refine tjoin (mk := fun s14 : Unit => []) (fun s14 => ?_) fun J13 j15 h16 => ?_
  ·exact rf_ret rfl
  ·refine rf_loopU (mk := fun (i23 : Int) (s19 : Unit) => [(vi i23)]) hn _ _ () (fun i23 h24 h25 h26 s19 rec17 k20 h21 => ?_) (fun i23 s19 rec28 h27 => ?_)
   ·refine tb (x := (vi (a0.size : Int))) (rfl) ?_; refine tb (x := (vb (decide (i23 < (a0.size : Int))))) (d_lss) ?_; refine tcond_t h24 ?_; refine tbo (p_sidx (Tryz.underlying9) a0 i23) fun r32 => ?_; refine tb (x := (vb (decide (r32 < 97)))) (q_lss) ?_; refine tg_f (x := (vt a0)) (fun h34 => rfl) ?_; refine tg_f (x := (vi i23)) (fun h36 => rfl) ?_; refine tgo_f (fun h38 => by simp only [gv_t h38]; exact rf_bind_some (p_sidx (Tryz.underlying9) a0 i23)) fun r41 => ?_; refine tg_f (x := (vb (decide (122 < r41)))) (fun h42 => by simp only [gv_t h42]; exact bind_some_eq (q_gtr)) ?_; refine tb (x := (vb ((decide (r32 < 97)) || (decide (122 < r41))))) (pick_or (fun h9 => gv_t (not_f h9))) ?_; refine tcond (fun h46 => ?_) (fun h46 => ?_)
    ·exact rf_ret rfl
    ·refine tb (x := (vi (i23 + 1))) (p_inc h25 h26) ?_; exact h21 ()
   ·refine tb (x := (vi (a0.size : Int))) (rfl) ?_; refine tb (x := (vb (decide (i23 < (a0.size : Int))))) (d_lss) ?_; refine tcond_f h27 ?_; exact h16 ()
def an_railref1_Topo : Ann := .seq (.reg 0 [] [] []) (.seq (.seq (.reg 0 [] [] []) (.cond none (.seq (.reg 0 [] [] []) (.no)) (.no))) (.seq (.seq (.reg 0 [] [] []) (.cond none (.seq (.reg 0 [] [] []) (.no)) (.no))) (.seq (.reg 0 [] [] []) (.seq (.seq (.reg 0 [] [] []) (.blk (some [.kb 1, .r 3 114]) (.loop [.kb 1, .r 3 114, .s 4] (.seq (.seq (.reg 0 [] [] []) (.cond none (.no) (.no))) (.seq (.blk (some [.kb 1, .r 3 114]) (.seq (.reg 0 [] [] []) (.seq (.reg 0 [] [] []) (.seq (.reg 0 [] [] []) (.seq (.seq (.reg 0 [] [] []) (.cond none (.seq (.reg 0 [] [] []) (.no)) (.no))) (.seq (.seq (.reg 0 [] [] []) (.cond none (.seq (.reg 0 [] [] []) (.no)) (.no))) (.seq (.seq (.reg 0 [] [] []) (.blk (some [.kb 1, .kb 5, .r 3 114]) (.loop [.kb 1, .kb 5, .r 3 114, .s 8] (.seq (.seq (.reg 0 [] [] []) (.cond none (.no) (.no))) (.seq (.blk none (.seq (.reg 16 [] [] []) (.cond none (.seq (.reg 0 [] [] []) (.no)) (.no)))) (.reg 0 [] [] [])))))) (.seq (.reg 0 [] [] []) (.reg 0 [] [] []))))))))) (.reg 0 [] [] [])))))) (.seq (.seq (.reg 0 [] [] []) (.blk (some []) (.loop [.kb 1, .r 3 114, .s 9] (.seq (.seq (.reg 0 [] [] []) (.cond none (.no) (.no))) (.seq (.blk (some [.kb 1, .r 3 114]) (.seq (.reg 0 [] [] []) (.seq (.reg 0 [] [] []) (.seq (.seq (.reg 0 [] [] []) (.cond none (.seq (.reg 0 [] [] []) (.no)) (.no))) (.seq (.reg 0 [] [] []) (.seq (.seq (.reg 0 [] [] []) (.cond none (.seq (.reg 0 [] [] []) (.no)) (.no))) (.seq (.seq (.reg 0 [] [] []) (.blk (some [.kb 1, .kb 10, .r 3 114]) (.loop [.kb 1, .kb 10, .r 3 114, .s 13] (.seq (.seq (.reg 0 [] [] []) (.cond none (.no) (.no))) (.seq (.blk none (.seq (.reg 9 [] [] []) (.cond none (.seq (.reg 0 [] [] []) (.no)) (.no)))) (.reg 0 [] [] [])))))) (.seq (.seq (.reg 0 [] [] []) (.blk (some [.kb 1, .kb 10, .r 3 114]) (.loop [.kb 1, .kb 10, .r 3 114, .s 14] (.seq (.seq (.reg 0 [] [] []) (.cond none (.no) (.no))) (.seq (.blk none (.seq (.reg 7 [] [] []) (.cond none (.seq (.reg 0 [] [] []) (.no)) (.no)))) (.reg 0 [] [] [])))))) (.reg 0 [] [] []))))))))) (.reg 0 [] [] [])))))) (.seq (.reg 0 [] [] []) (.no)))))))
noncomputable def sem_railref1_Topo (n : Nat) (xs : List V) : Option V := if xs.length ≤ 151 then denF Tryz.prog (envOf [(77, (sem_railref1_Spot n)), (57, (sem_railref1_Name n))]) n Tryz.f55 an_railref1_Topo xs else none
theorem ok_railref1_Topo (n : Nat) : SemOk Tryz.prog DW 55 (sem_railref1_Topo n) := fun xs y h => by
 unfold sem_railref1_Topo at h
 split at h
 ·rename_i hl
  exact denF_ok stb Tryz.func55 (by kernel_rfl) (envOf_ok (semsOk_cons (ok_railref1_Spot n) (semsOk_cons (ok_railref1_Name n) semsOk_nil))) (by rw [Tryz.ntmps55]; exact hl) h
 ·cases h
theorem eq_railref1_Topo (n : Nat) (x0 : V) : sem_railref1_Topo n [x0] =
 (V.cellsO x0).bind fun v1 =>
 (ldk none (List.drop 0 v1)).bind fun v2 =>
 (bin2 Tryz.prog BinOp.lss 3 (ot 16) (oc 1) v2 (vi 1)).bind fun v3 =>
 (guardV v3 false (some V.any)).bind fun v4 =>
 (guardV v3 false ((gate v3 false (ldk none (List.drop 0 v1))).bind fun v5 =>
 some v5)).bind fun v6 =>
 (guardV v3 false ((bin2 Tryz.prog BinOp.gtr 3 (ot 20) (oc 6) v6 (vi 6)).bind fun v7 =>
 some v7)).bind fun v8 =>
 (pickV v3 (vb true) v8).bind fun v9 =>
 condV v9 (
 some (vi 1)) (
 (ldk none (List.drop 1 v1)).bind fun v10 =>
 (lenS [v10]).bind fun v11 =>
 (bin2 Tryz.prog BinOp.gtr 3 (ot 25) (oc 200) v11 (vi 200)).bind fun v12 =>
 (guardV v12 false (some V.any)).bind fun v13 =>
 (guardV v12 false ((gate v12 false (ldk none (List.drop 2 v1))).bind fun v14 =>
 some v14)).bind fun v15 =>
 (guardV v12 false ((lenS [v15]).bind fun v16 =>
 some v16)).bind fun v17 =>
 (guardV v12 false ((bin2 Tryz.prog BinOp.gtr 3 (ot 30) (oc 8) v17 (vi 8)).bind fun v18 =>
 some v18)).bind fun v19 =>
 (pickV v12 (vb true) v19).bind fun v20 =>
 condV v20 (
 some (vi 4)) (
 JoinPt (fun vs21 =>
 JoinPt (fun vs23 =>
 some (vi 0)) fun J24 =>
 (keepO (some v1) (some v1) (some [(V.sl (slL (List.getD vs21 0 V.any))), (vi 0)])).bind (fixN (fun rec25 vs26 =>
 (ldk none (List.drop 2 v1)).bind fun v27 =>
 (lenS [v27]).bind fun v28 =>
 (bin2 Tryz.prog BinOp.lss 3 (ot 96) (ot 99) (List.getD vs26 1 V.any) v28).bind fun v29 =>
 condV v29 (
 JoinPt (fun vs30 =>
 (bin2 Tryz.prog BinOp.add 3 (ot 101) (oc 1) (List.getD vs26 1 V.any) (vi 1)).bind fun v32 =>
 (keepO (some v1) (some v1) (some [(V.sl (slL (List.getD vs30 0 V.any))), v32])).bind rec25) fun J31 =>
 (ldk none (List.drop 2 v1)).bind fun v33 =>
 (idxS 3 v33 (List.getD vs26 1 V.any)).bind fun v34 =>
 (ldp (some 3) v34).bind fun v35 =>
 (spliceV [(vt ⟨#[]⟩), (vi 0), (vi 0)] 0 3 v35).bind fun v36 =>
 (ldk none (List.drop 0 (aggL v36))).bind fun v37 =>
 ((sem_railref1_Name n) [v37]).bind fun v38 =>
 (scal1 Tryz.prog (Op.unary Go.UnOp.not) v38).bind fun v39 =>
 condV v39 (
 some (vi 2)) (
 (ldk (some 3) (List.drop 0 v1)).bind fun v40 =>
 (ldk (some 2) (List.drop 1 (aggL v36))).bind fun v41 =>
 ((sem_railref1_Spot n) [v40, v41]).bind fun v42 =>
 (scal1 Tryz.prog (Op.unary Go.UnOp.not) v42).bind fun v43 =>
 condV v43 (
 some (vi 1)) (
 JoinPt (fun vs44 =>
 JoinPt (fun vs46 =>
 (ldk (some 2) (List.drop 1 (aggL v36))).bind fun v48 =>
 (slcB 2 1 [(vi 0), (vi 0)] [(0, v48)]).bind fun v49 =>
 (appV 2 (slL (List.getD vs46 0 V.any)) v49).bind fun v50 =>
 (keepO (some v1) (some v1) (some [(V.sl (slL v50))])).bind J31) fun J47 =>
 (keepO (some v1) (some v1) (keepO (some (aggL v36)) (some (aggL v36)) (some [(V.sl (slL (List.getD vs44 0 V.any))), (vi 0)]))).bind (fixN (fun rec51 vs52 =>
 (lenS [(V.sl (slL (List.getD vs52 0 V.any)))]).bind fun v53 =>
 (bin2 Tryz.prog BinOp.lss 3 (ot 133) (ot 135) (List.getD vs52 1 V.any) v53).bind fun v54 =>
 condV v54 (
 (idxS 2 (V.sl (slL (List.getD vs52 0 V.any))) (List.getD vs52 1 V.any)).bind fun v55 =>
 (ldp (some 2) v55).bind fun v56 =>
 (ldk (some 2) (List.drop 1 (aggL v36))).bind fun v57 =>
 (bin2 Tryz.prog BinOp.eql 114 (ot 142) (ot 144) v56 v57).bind fun v58 =>
 condV v58 (
 some (vi 7)) (
 (bin2 Tryz.prog BinOp.add 3 (ot 137) (oc 1) (List.getD vs52 1 V.any) (vi 1)).bind fun v59 =>
 (keepO (some v1) (some v1) (keepO (some (aggL v36)) (some (aggL v36)) (some [(V.sl (slL (List.getD vs52 0 V.any))), v59]))).bind rec51)) (
 (keepO (some v1) (some v1) (keepO (some (aggL v36)) (some (aggL v36)) (some [(V.sl (slL (List.getD vs52 0 V.any)))]))).bind J47)) n)) fun J45 =>
 (keepO (some v1) (some v1) (keepO (some (aggL v36)) (some (aggL v36)) (some [(V.sl (slL (List.getD vs26 0 V.any))), (vi 0)]))).bind (fixN (fun rec60 vs61 =>
 (bin2 Tryz.prog BinOp.lss 3 (ot 119) (ot 120) (List.getD vs61 1 V.any) (List.getD vs26 1 V.any)).bind fun v62 =>
 condV v62 (
 (ldk none (List.drop 2 v1)).bind fun v63 =>
 (idxS 3 v63 (List.getD vs61 1 V.any)).bind fun v64 =>
 (ptrF 0 v64).bind fun v65 =>
 (ldp none v65).bind fun v66 =>
 (ldk none (List.drop 0 (aggL v36))).bind fun v67 =>
 (bin2 Tryz.prog BinOp.eql 9 (ot 129) (ot 131) v66 v67).bind fun v68 =>
 condV v68 (
 some (vi 7)) (
 (bin2 Tryz.prog BinOp.add 3 (ot 122) (oc 1) (List.getD vs61 1 V.any) (vi 1)).bind fun v69 =>
 (keepO (some v1) (some v1) (keepO (some (aggL v36)) (some (aggL v36)) (some [(V.sl (slL (List.getD vs61 0 V.any))), v69]))).bind rec60)) (
 (keepO (some v1) (some v1) (keepO (some (aggL v36)) (some (aggL v36)) (some [(V.sl (slL (List.getD vs61 0 V.any)))]))).bind J45)) n)))) (
 J24 [])) n)) fun J22 =>
 (keepO (some v1) (some v1) (some [(V.sl []), (vi 0)])).bind (fixN (fun rec70 vs71 =>
 (ldk none (List.drop 1 v1)).bind fun v72 =>
 (lenS [v72]).bind fun v73 =>
 (bin2 Tryz.prog BinOp.lss 3 (ot 33) (ot 36) (List.getD vs71 1 V.any) v73).bind fun v74 =>
 condV v74 (
 JoinPt (fun vs75 =>
 (bin2 Tryz.prog BinOp.add 3 (ot 38) (oc 1) (List.getD vs71 1 V.any) (vi 1)).bind fun v77 =>
 (keepO (some v1) (some v1) (some [(V.sl (slL (List.getD vs75 0 V.any))), v77])).bind rec70) fun J76 =>
 (ldk none (List.drop 1 v1)).bind fun v78 =>
 (idxS 4 v78 (List.getD vs71 1 V.any)).bind fun v79 =>
 (ldp (some 4) v79).bind fun v80 =>
 (spliceV [(vi 0), (vi 0), (vi 0), (vi 0)] 0 4 v80).bind fun v81 =>
 (ldk (some 3) (List.drop 0 v1)).bind fun v82 =>
 (ldk (some 2) (List.drop 0 (aggL v81))).bind fun v83 =>
 ((sem_railref1_Spot n) [v82, v83]).bind fun v84 =>
 (ldk (some 3) (List.drop 0 v1)).bind fun v85 =>
 (ldk (some 2) (List.drop 2 (aggL v81))).bind fun v86 =>
 ((sem_railref1_Spot n) [v85, v86]).bind fun v87 =>
 (scal1 Tryz.prog (Op.unary Go.UnOp.not) v84).bind fun v88 =>
 (guardV v88 false (some v87)).bind fun v89 =>
 (guardV v88 false ((scal1 Tryz.prog (Op.unary Go.UnOp.not) v89).bind fun v90 =>
 some v90)).bind fun v91 =>
 (pickV v88 (vb true) v91).bind fun v92 =>
 condV v92 (
 some (vi 1)) (
 (ldk (some 2) (List.drop 0 (aggL v81))).bind fun v93 =>
 (ldk (some 2) (List.drop 2 (aggL v81))).bind fun v94 =>
 (bin2 Tryz.prog BinOp.eql 114 (ot 60) (ot 62) v93 v94).bind fun v95 =>
 condV v95 (
 some (vi 7)) (
 JoinPt (fun vs96 =>
 (ldk (some 2) (List.drop 0 (aggL v81))).bind fun v98 =>
 (slcB 2 1 [(vi 0), (vi 0)] [(0, v98)]).bind fun v99 =>
 (appV 2 (slL (List.getD vs96 0 V.any)) v99).bind fun v100 =>
 (ldk (some 2) (List.drop 2 (aggL v81))).bind fun v101 =>
 (slcB 2 1 [(vi 0), (vi 0)] [(0, v101)]).bind fun v102 =>
 (appV 2 (slL v100) v102).bind fun v103 =>
 (keepO (some v1) (some v1) (some [(V.sl (slL v103))])).bind J76) fun J97 =>
 (keepO (some v1) (some v1) (keepO (some (aggL v81)) (some (aggL v81)) (some [(V.sl (slL (List.getD vs71 0 V.any))), (vi 0)]))).bind (fixN (fun rec104 vs105 =>
 (lenS [(V.sl (slL (List.getD vs105 0 V.any)))]).bind fun v106 =>
 (bin2 Tryz.prog BinOp.lss 3 (ot 64) (ot 66) (List.getD vs105 1 V.any) v106).bind fun v107 =>
 condV v107 (
 (idxS 2 (V.sl (slL (List.getD vs105 0 V.any))) (List.getD vs105 1 V.any)).bind fun v108 =>
 (ldp (some 2) v108).bind fun v109 =>
 (ldk (some 2) (List.drop 0 (aggL v81))).bind fun v110 =>
 (bin2 Tryz.prog BinOp.eql 114 (ot 73) (ot 75) v109 v110).bind fun v111 =>
 (guardV v111 false (some (V.sl (slL (List.getD vs105 0 V.any))))).bind fun v112 =>
 (guardV v111 false (some (List.getD vs105 1 V.any))).bind fun v113 =>
 (guardV v111 false ((idxS 2 v112 v113).bind fun v114 =>
 some v114)).bind fun v115 =>
 (guardV v111 false ((ldp (some 2) v115).bind fun v116 =>
 some v116)).bind fun v117 =>
 (guardV v111 false (some V.any)).bind fun v118 =>
 (guardV v111 false ((gate v111 false (ldk (some 2) (List.drop 2 (aggL v81)))).bind fun v119 =>
 some v119)).bind fun v120 =>
 (guardV v111 false ((bin2 Tryz.prog BinOp.eql 114 (ot 81) (ot 83) v117 v120).bind fun v121 =>
 some v121)).bind fun v122 =>
 (pickV v111 (vb true) v122).bind fun v123 =>
 condV v123 (
 some (vi 7)) (
 (bin2 Tryz.prog BinOp.add 3 (ot 68) (oc 1) (List.getD vs105 1 V.any) (vi 1)).bind fun v124 =>
 (keepO (some v1) (some v1) (keepO (some (aggL v81)) (some (aggL v81)) (some [(V.sl (slL (List.getD vs105 0 V.any))), v124]))).bind rec104)) (
 (keepO (some v1) (some v1) (keepO (some (aggL v81)) (some (aggL v81)) (some [(V.sl (slL (List.getD vs105 0 V.any)))]))).bind J97)) n)))) (
 (keepO (some v1) (some v1) (some [(V.sl (slL (List.getD vs71 0 V.any)))])).bind J22)) n))) := by kernel_rfl
noncomputable def t_railref1_Topo (a0 : T_Topo) : Option Int :=
 if ((decide (a0.Switches < 1)) || (decide (6 < a0.Switches))) = true then (
 some 1) else (
 if ((decide (200 < (List.length a0.Links : Int))) || (decide (8 < (List.length a0.Hosts : Int)))) = true then (
 some 4) else (
 join (fun (s32 : (List T_Spot)) =>
 join (fun (s37 : Unit) =>
 some 0) fun j38 =>
 loopI a0.Hosts (fun (i46 : Int) x47 (s42 : (List T_Spot)) k43 =>
 join (fun (s56 : (List T_Spot)) =>
 k43 (s56)) fun j57 =>
 (t_railref1_Name x47.Name).bind fun r66 =>
 if (!r66) = true then (
 some 2) else (
 (t_railref1_Spot a0 x47.At).bind fun r72 =>
 if (!r72) = true then (
 some 1) else (
 join (fun (s77 : (List T_Spot)) =>
 join (fun (s82 : (List T_Spot)) =>
 (app s82 ([x47.At] : (List T_Spot))).bind fun r88 =>
 j57 (r88)) fun j83 =>
 loopI s77 (fun (i95 : Int) x96 (s91 : Unit) k92 =>
 if (decide (x96 = x47.At)) = true then (
 some 7) else (
 k92 ())) (fun (s91 : Unit) =>
 j83 (s77)) ()) fun j78 =>
 loopU 0 i46 (fun (i118 : Int) (s114 : Unit) k115 =>
 (idx a0.Hosts i118).bind fun r127 =>
 if (decide (r127.Name = x47.Name)) = true then (
 some 7) else (
 k115 ())) (fun (i118 : Int) (s114 : Unit) =>
 j78 (s42)) ()))) (fun (s42 : (List T_Spot)) =>
 j38 ()) (s32)) fun j33 =>
 loopI a0.Links (fun (i146 : Int) x147 (s142 : (List T_Spot)) k143 =>
 join (fun (s156 : (List T_Spot)) =>
 k143 (s156)) fun j157 =>
 (t_railref1_Spot a0 x147.A).bind fun r167 =>
 (t_railref1_Spot a0 x147.B).bind fun r171 =>
 if ((!r167) || (!r171)) = true then (
 some 1) else (
 if (decide (x147.A = x147.B)) = true then (
 some 7) else (
 join (fun (s186 : (List T_Spot)) =>
 (app s186 ([x147.A] : (List T_Spot))).bind fun r192 =>
 (app r192 ([x147.B] : (List T_Spot))).bind fun r196 =>
 j157 (r196)) fun j187 =>
 loopI s142 (fun (i203 : Int) x204 (s199 : Unit) k200 =>
 if ((decide (x204 = x147.A)) || (decide (x204 = x147.B))) = true then (
 some 7) else (
 k200 ())) (fun (s199 : Unit) =>
 j187 (s142)) ()))) (fun (s142 : (List T_Spot)) =>
 j33 (s142)) ([])))
theorem ty_railref1_Topo {n : Nat} (hn : bigN ≤ n) (a0 : T_Topo) : Rv (fun x : Int => (vi x)) (sem_railref1_Topo n [(T_Topo.e a0)]) (t_railref1_Topo a0) := by
 rw [eq_railref1_Topo]
 unfold t_railref1_Topo; refine tb (x := (T_Topo.c a0)) rfl ?_; refine tb (x := (vi a0.Switches)) (rfl) ?_; refine tb (x := (vb (decide (a0.Switches < 1)))) (d_lss) ?_; refine tg_f (x := V.any) (fun h4 => rfl) ?_; refine tg_f (x := (vi a0.Switches)) (fun h6 => bind_some_eq (gate_pos (not_t h6) (rfl))) ?_; refine tg_f (x := (vb (decide (6 < a0.Switches)))) (fun h9 => by simp only [gv_t h9]; exact bind_some_eq (d_gtr)) ?_; refine tb (x := (vb ((decide (a0.Switches < 1)) || (decide (6 < a0.Switches))))) (pick_or (fun h9 => gv_t (not_f h9))) ?_; refine tcond (fun h13 => ?_) (fun h13 => ?_)
 ·exact rf_ret rfl
 ·refine tb (x := (V.sl (List.map T_Link.c a0.Links))) (rfl) ?_; refine tb (x := (vi (List.length a0.Links : Int))) (p_len _) ?_; refine tb (x := (vb (decide (200 < (List.length a0.Links : Int))))) (d_gtr) ?_; refine tg_f (x := V.any) (fun h17 => rfl) ?_; refine tg_f (x := (V.sl (List.map T_Host.c a0.Hosts))) (fun h19 => bind_some_eq (gate_pos (not_t h19) (rfl))) ?_; refine tg_f (x := (vi (List.length a0.Hosts : Int))) (fun h22 => by simp only [gv_t h22]; exact bind_some_eq (p_len _)) ?_; refine tg_f (x := (vb (decide (8 < (List.length a0.Hosts : Int))))) (fun h25 => by simp only [gv_t h25]; exact bind_some_eq (d_gtr)) ?_; refine tb (x := (vb ((decide (200 < (List.length a0.Links : Int))) || (decide (8 < (List.length a0.Hosts : Int)))))) (pick_or (fun h9 => gv_t (not_f h9))) ?_; refine tcond (fun h29 => ?_) (fun h29 => ?_)
  ·exact rf_ret rfl
  ·refine tjoin (mk := fun s32 : (List T_Spot) => [(V.sl (List.map T_Spot.c s32))]) (fun s32 => ?_) fun J31 j33 h34 => ?_
   ·refine tjoin (mk := fun s37 : Unit => []) (fun s37 => ?_) fun J36 j38 h39 => ?_
    ·exact rf_ret rfl
    ·refine tkeepO2 ?_ rfl; refine tsome ?_; refine rf_loopI (mk := fun (i46 : Int) (s42 : (List T_Spot)) => [(V.sl (List.map T_Spot.c s42)), (vi (i46 : Int))]) hn a0.Hosts (s32) (fun i46 x47 h48 h49 h50 s42 rec40 k43 h44 => ?_) (fun s42 rec136 h135 => ?_)
     ·refine tb (x := (V.sl (List.map T_Host.c a0.Hosts))) (rfl) ?_; refine tb (x := (vi (List.length a0.Hosts : Int))) (p_len _) ?_; refine tb (x := (vb (decide ((i46 : Int) < (List.length a0.Hosts : Int))))) (d_lss) ?_; refine tcond_t h50 ?_; refine tjoin (mk := fun s56 : (List T_Spot) => [(V.sl (List.map T_Spot.c s56))]) (fun s56 => ?_) fun J55 j57 h58 => ?_
      ·refine tb (x := (vi ((i46 : Int) + 1))) (p_incN h49) ?_; refine tkeepO2 ?_ rfl; refine tsome ?_; exact h44 (s56)
      ·refine tb (x := (V.sl (List.map T_Host.c a0.Hosts))) (rfl) ?_; refine tb (x := (V.ptr (T_Host.c x47))) (p_idx_at (c := T_Host.c) (fun _ => rfl) h48) ?_; refine tb (x := (T_Host.e x47)) (rfl) ?_; refine tb (x := V.agg (T_Host.c x47)) (by kernel_rfl) ?_; refine tb (x := (vt x47.Name)) (rfl) ?_; refine tbo (ty_railref1_Name hn x47.Name) fun r66 => ?_; refine tb (x := (vb (!r66))) (d_not) ?_; refine tcond (fun h68 => ?_) (fun h68 => ?_)
       ·exact rf_ret rfl
       ·refine tb (x := (T_Topo.e a0)) (rfl) ?_; refine tb (x := (T_Spot.e x47.At)) (rfl) ?_; refine tbo (ty_railref1_Spot hn a0 x47.At) fun r72 => ?_; refine tb (x := (vb (!r72))) (d_not) ?_; refine tcond (fun h74 => ?_) (fun h74 => ?_)
        ·exact rf_ret rfl
        ·refine tjoin (mk := fun s77 : (List T_Spot) => [(V.sl (List.map T_Spot.c s77))]) (fun s77 => ?_) fun J76 j78 h79 => ?_
         ·refine tjoin (mk := fun s82 : (List T_Spot) => [(V.sl (List.map T_Spot.c s82))]) (fun s82 => ?_) fun J81 j83 h84 => ?_
          ·refine tb (x := (T_Spot.e x47.At)) (rfl) ?_; refine tb (x := (V.sl (List.map T_Spot.c ([x47.At] : (List T_Spot))))) (by kernel_rfl) ?_; refine tbo (p_app (c := T_Spot.c) (fun _ => rfl) s82 ([x47.At] : (List T_Spot))) fun r88 => ?_; refine tkeepO2 ?_ rfl; refine tsome ?_; exact h58 (r88)
          ·refine tkeepO2 ?_ rfl; refine tkeepO2 ?_ rfl; refine tsome ?_; refine rf_loopI (mk := fun (i95 : Int) (s91 : Unit) => [(V.sl (List.map T_Spot.c s77)), (vi (i95 : Int))]) hn s77 () (fun i95 x96 h97 h98 h99 s91 rec89 k92 h93 => ?_) (fun s91 rec109 h108 => ?_)
           ·refine tb (x := (vi (List.length s77 : Int))) (p_len _) ?_; refine tb (x := (vb (decide ((i95 : Int) < (List.length s77 : Int))))) (d_lss) ?_; refine tcond_t h99 ?_; refine tb (x := (V.ptr (T_Spot.c x96))) (p_idx_at (c := T_Spot.c) (fun _ => rfl) h97) ?_; refine tb (x := (T_Spot.e x96)) (rfl) ?_; refine tb (x := (T_Spot.e x47.At)) (rfl) ?_; refine tb (x := (vb (decide (x96 = x47.At)))) (T_Spot.eql x96 x47.At) ?_; refine tcond (fun h106 => ?_) (fun h106 => ?_)
            ·exact rf_ret rfl
            ·refine tb (x := (vi ((i95 : Int) + 1))) (p_incN h98) ?_; refine tkeepO2 ?_ rfl; refine tkeepO2 ?_ rfl; refine tsome ?_; exact h93 ()
           ·refine tb (x := (vi (List.length s77 : Int))) (p_len _) ?_; refine tb (x := (vb (decide ((List.length s77 : Int) < (List.length s77 : Int))))) (d_lss) ?_; refine tcond_f h108 ?_; refine tkeepO2 ?_ rfl; refine tkeepO2 ?_ rfl; refine tsome ?_; exact h84 (s77)
         ·refine tkeepO2 ?_ rfl; refine tkeepO2 ?_ rfl; refine tsome ?_; refine rf_loopU (mk := fun (i118 : Int) (s114 : Unit) => [(V.sl (List.map T_Spot.c s42)), (vi i118)]) hn _ _ () (fun i118 h119 h120 h121 s114 rec112 k115 h116 => ?_) (fun i118 s114 rec123 h122 => ?_)
          ·refine tb (x := (vb (decide (i118 < (i46 : Int))))) (d_lss) ?_; refine tcond_t h119 ?_; refine tb (x := (V.sl (List.map T_Host.c a0.Hosts))) (rfl) ?_; refine tbo (p_idx (c := T_Host.c) (fun _ => rfl) a0.Hosts i118) fun r127 => ?_; refine tb (x := (V.ptr (T_Host.c r127))) (rfl) ?_; refine tb (x := (vt r127.Name)) (rfl) ?_; refine tb (x := (vt x47.Name)) (rfl) ?_; refine tb (x := (vb (decide (r127.Name = x47.Name)))) (p_eql_str) ?_; refine tcond (fun h132 => ?_) (fun h132 => ?_)
           ·exact rf_ret rfl
           ·refine tb (x := (vi (i118 + 1))) (p_inc h120 h121) ?_; refine tkeepO2 ?_ rfl; refine tkeepO2 ?_ rfl; refine tsome ?_; exact h116 ()
          ·refine tb (x := (vb (decide (i118 < (i46 : Int))))) (d_lss) ?_; refine tcond_f h122 ?_; refine tkeepO2 ?_ rfl; refine tkeepO2 ?_ rfl; refine tsome ?_; exact h79 (s42)
     ·refine tb (x := (V.sl (List.map T_Host.c a0.Hosts))) (rfl) ?_; refine tb (x := (vi (List.length a0.Hosts : Int))) (p_len _) ?_; refine tb (x := (vb (decide ((List.length a0.Hosts : Int) < (List.length a0.Hosts : Int))))) (d_lss) ?_; refine tcond_f h135 ?_; exact h39 ()
   ·refine tkeepO2 ?_ rfl; refine tsome ?_; refine rf_loopI (mk := fun (i146 : Int) (s142 : (List T_Spot)) => [(V.sl (List.map T_Spot.c s142)), (vi (i146 : Int))]) hn a0.Links ([]) (fun i146 x147 h148 h149 h150 s142 rec140 k143 h144 => ?_) (fun s142 rec240 h239 => ?_)
    ·refine tb (x := (V.sl (List.map T_Link.c a0.Links))) (rfl) ?_; refine tb (x := (vi (List.length a0.Links : Int))) (p_len _) ?_; refine tb (x := (vb (decide ((i146 : Int) < (List.length a0.Links : Int))))) (d_lss) ?_; refine tcond_t h150 ?_; refine tjoin (mk := fun s156 : (List T_Spot) => [(V.sl (List.map T_Spot.c s156))]) (fun s156 => ?_) fun J155 j157 h158 => ?_
     ·refine tb (x := (vi ((i146 : Int) + 1))) (p_incN h149) ?_; refine tkeepO2 ?_ rfl; refine tsome ?_; exact h144 (s156)
     ·refine tb (x := (V.sl (List.map T_Link.c a0.Links))) (rfl) ?_; refine tb (x := (V.ptr (T_Link.c x147))) (p_idx_at (c := T_Link.c) (fun _ => rfl) h148) ?_; refine tb (x := (T_Link.e x147)) (rfl) ?_; refine tb (x := V.agg (T_Link.c x147)) (by kernel_rfl) ?_; refine tb (x := (T_Topo.e a0)) (rfl) ?_; refine tb (x := (T_Spot.e x147.A)) (rfl) ?_; refine tbo (ty_railref1_Spot hn a0 x147.A) fun r167 => ?_; refine tb (x := (T_Topo.e a0)) (rfl) ?_; refine tb (x := (T_Spot.e x147.B)) (rfl) ?_; refine tbo (ty_railref1_Spot hn a0 x147.B) fun r171 => ?_; refine tb (x := (vb (!r167))) (d_not) ?_; refine tg_f (x := (vb r171)) (fun h173 => rfl) ?_; refine tg_f (x := (vb (!r171))) (fun h175 => by simp only [gv_t h175]; exact bind_some_eq (d_not)) ?_; refine tb (x := (vb ((!r167) || (!r171)))) (pick_or (fun h9 => gv_t (not_f h9))) ?_; refine tcond (fun h179 => ?_) (fun h179 => ?_)
      ·exact rf_ret rfl
      ·refine tb (x := (T_Spot.e x147.A)) (rfl) ?_; refine tb (x := (T_Spot.e x147.B)) (rfl) ?_; refine tb (x := (vb (decide (x147.A = x147.B)))) (T_Spot.eql x147.A x147.B) ?_; refine tcond (fun h183 => ?_) (fun h183 => ?_)
       ·exact rf_ret rfl
       ·refine tjoin (mk := fun s186 : (List T_Spot) => [(V.sl (List.map T_Spot.c s186))]) (fun s186 => ?_) fun J185 j187 h188 => ?_
        ·refine tb (x := (T_Spot.e x147.A)) (rfl) ?_; refine tb (x := (V.sl (List.map T_Spot.c ([x147.A] : (List T_Spot))))) (by kernel_rfl) ?_; refine tbo (p_app (c := T_Spot.c) (fun _ => rfl) s186 ([x147.A] : (List T_Spot))) fun r192 => ?_; refine tb (x := (T_Spot.e x147.B)) (rfl) ?_; refine tb (x := (V.sl (List.map T_Spot.c ([x147.B] : (List T_Spot))))) (by kernel_rfl) ?_; refine tbo (p_app (c := T_Spot.c) (fun _ => rfl) r192 ([x147.B] : (List T_Spot))) fun r196 => ?_; refine tkeepO2 ?_ rfl; refine tsome ?_; exact h158 (r196)
        ·refine tkeepO2 ?_ rfl; refine tkeepO2 ?_ rfl; refine tsome ?_; refine rf_loopI (mk := fun (i203 : Int) (s199 : Unit) => [(V.sl (List.map T_Spot.c s142)), (vi (i203 : Int))]) hn s142 () (fun i203 x204 h205 h206 h207 s199 rec197 k200 h201 => ?_) (fun s199 rec236 h235 => ?_)
         ·refine tb (x := (vi (List.length s142 : Int))) (p_len _) ?_; refine tb (x := (vb (decide ((i203 : Int) < (List.length s142 : Int))))) (d_lss) ?_; refine tcond_t h207 ?_; refine tb (x := (V.ptr (T_Spot.c x204))) (p_idx_at (c := T_Spot.c) (fun _ => rfl) h205) ?_; refine tb (x := (T_Spot.e x204)) (rfl) ?_; refine tb (x := (T_Spot.e x147.A)) (rfl) ?_; refine tb (x := (vb (decide (x204 = x147.A)))) (T_Spot.eql x204 x147.A) ?_; refine tg_f (x := (V.sl (List.map T_Spot.c s142))) (fun h214 => rfl) ?_; refine tg_f (x := (vi (i203 : Int))) (fun h216 => rfl) ?_; refine tg_f (x := (V.ptr (T_Spot.c x204))) (fun h218 => by simp only [gv_t h218]; exact bind_some_eq (p_idx_at (c := T_Spot.c) (fun _ => rfl) h205)) ?_; refine tg_f (x := (T_Spot.e x204)) (fun h221 => by first | exact bind_some_eq (rfl) | (simp only [gv_t h221]; exact bind_some_eq (rfl))) ?_; refine tg_f (x := V.any) (fun h224 => rfl) ?_; refine tg_f (x := (T_Spot.e x147.B)) (fun h226 => bind_some_eq (gate_pos (not_t h226) (rfl))) ?_; refine tg_f (x := (vb (decide (x204 = x147.B)))) (fun h229 => by simp only [gv_t h229]; exact bind_some_eq (T_Spot.eql x204 x147.B)) ?_; refine tb (x := (vb ((decide (x204 = x147.A)) || (decide (x204 = x147.B))))) (pick_or (fun h9 => gv_t (not_f h9))) ?_; refine tcond (fun h233 => ?_) (fun h233 => ?_)
          ·exact rf_ret rfl
          ·refine tb (x := (vi ((i203 : Int) + 1))) (p_incN h206) ?_; refine tkeepO2 ?_ rfl; refine tkeepO2 ?_ rfl; refine tsome ?_; exact h201 ()
         ·refine tb (x := (vi (List.length s142 : Int))) (p_len _) ?_; refine tb (x := (vb (decide ((List.length s142 : Int) < (List.length s142 : Int))))) (d_lss) ?_; refine tcond_f h235 ?_; refine tkeepO2 ?_ rfl; refine tkeepO2 ?_ rfl; refine tsome ?_; exact h188 (s142)
    ·refine tb (x := (V.sl (List.map T_Link.c a0.Links))) (rfl) ?_; refine tb (x := (vi (List.length a0.Links : Int))) (p_len _) ?_; refine tb (x := (vb (decide ((List.length a0.Links : Int) < (List.length a0.Links : Int))))) (d_lss) ?_; refine tcond_f h239 ?_; refine tkeepO2 ?_ rfl; refine tsome ?_; exact h34 (s142)
def an_railref1_Named : Ann := .seq (.reg 0 [] [] []) (.seq (.seq (.reg 0 [] [] []) (.blk (some []) (.loop [.kb 2, .s 5] (.seq (.seq (.reg 0 [] [] []) (.cond none (.no) (.no))) (.seq (.blk none (.seq (.reg 0 [] [] []) (.cond none (.seq (.reg 0 [] [] []) (.no)) (.no)))) (.reg 0 [] [] [])))))) (.seq (.reg 0 [] [] []) (.no)))
noncomputable def sem_railref1_Named (n : Nat) (xs : List V) : Option V := if xs.length ≤ 22 then denF Tryz.prog (envOf []) n Tryz.f56 an_railref1_Named xs else none
theorem ok_railref1_Named (n : Nat) : SemOk Tryz.prog DW 56 (sem_railref1_Named n) := fun xs y h => by
 unfold sem_railref1_Named at h
 split at h
 ·rename_i hl
  exact denF_ok stb Tryz.func56 (by kernel_rfl) (envOf_ok semsOk_nil) (by rw [Tryz.ntmps56]; exact hl) h
 ·cases h
theorem eq_railref1_Named (n : Nat) (x0 x1 : V) : sem_railref1_Named n [x0, x1] =
 (V.cellsO x0).bind fun v1 =>
 JoinPt (fun vs2 =>
 some (vi (-1 : Int))) fun J3 =>
 (keepO (some v1) (some v1) (some [(vi 0)])).bind (fixN (fun rec4 vs5 =>
 (ldk none (List.drop 2 v1)).bind fun v6 =>
 (lenS [v6]).bind fun v7 =>
 (bin2 Tryz.prog BinOp.lss 3 (ot 6) (ot 9) (List.getD vs5 0 V.any) v7).bind fun v8 =>
 condV v8 (
 (ldk none (List.drop 2 v1)).bind fun v9 =>
 (idxS 3 v9 (List.getD vs5 0 V.any)).bind fun v10 =>
 (ptrF 0 v10).bind fun v11 =>
 (ldp none v11).bind fun v12 =>
 (bin2 Tryz.prog BinOp.eql 9 (ot 18) (ot 19) v12 x1).bind fun v13 =>
 condV v13 (
 some (List.getD vs5 0 V.any)) (
 (bin2 Tryz.prog BinOp.add 3 (ot 11) (oc 1) (List.getD vs5 0 V.any) (vi 1)).bind fun v14 =>
 (keepO (some v1) (some v1) (some [v14])).bind rec4)) (
 J3 [])) n) := by kernel_rfl
noncomputable def t_railref1_Named (a0 : T_Topo) (a1 : ByteArray) : Option Int :=
 join (fun (s4 : Unit) =>
 some (-1 : Int)) fun j5 =>
 loopI a0.Hosts (fun (i13 : Int) x14 (s9 : Unit) k10 =>
 if (decide (x14.Name = a1)) = true then (
 some i13) else (
 k10 ())) (fun (s9 : Unit) =>
 j5 ()) ()
theorem ty_railref1_Named {n : Nat} (hn : bigN ≤ n) (a0 : T_Topo) (a1 : ByteArray) : Rv (fun x : Int => (vi x)) (sem_railref1_Named n [(T_Topo.e a0), (vt a1)]) (t_railref1_Named a0 a1) := by
 rw [eq_railref1_Named]
 unfold t_railref1_Named; refine tb (x := (T_Topo.c a0)) rfl ?_; refine tjoin (mk := fun s4 : Unit => []) (fun s4 => ?_) fun J3 j5 h6 => ?_
 ·exact rf_ret rfl
 ·refine tkeepO2 ?_ rfl; refine tsome ?_; refine rf_loopI (mk := fun (i13 : Int) (s9 : Unit) => [(vi (i13 : Int))]) hn a0.Hosts () (fun i13 x14 h15 h16 h17 s9 rec7 k10 h11 => ?_) (fun s9 rec29 h28 => ?_)
  ·refine tb (x := (V.sl (List.map T_Host.c a0.Hosts))) (rfl) ?_; refine tb (x := (vi (List.length a0.Hosts : Int))) (p_len _) ?_; refine tb (x := (vb (decide ((i13 : Int) < (List.length a0.Hosts : Int))))) (d_lss) ?_; refine tcond_t h17 ?_; refine tb (x := (V.sl (List.map T_Host.c a0.Hosts))) (rfl) ?_; refine tb (x := (V.ptr (T_Host.c x14))) (p_idx_at (c := T_Host.c) (fun _ => rfl) h15) ?_; refine tb (x := (V.ptr (T_Host.c x14))) (rfl) ?_; refine tb (x := (vt x14.Name)) (rfl) ?_; refine tb (x := (vb (decide (x14.Name = a1)))) (p_eql_str) ?_; refine tcond (fun h26 => ?_) (fun h26 => ?_)
   ·exact rf_ret rfl
   ·refine tb (x := (vi ((i13 : Int) + 1))) (p_incN h16) ?_; refine tkeepO2 ?_ rfl; refine tsome ?_; exact h11 ()
  ·refine tb (x := (V.sl (List.map T_Host.c a0.Hosts))) (rfl) ?_; refine tb (x := (vi (List.length a0.Hosts : Int))) (p_len _) ?_; refine tb (x := (vb (decide ((List.length a0.Hosts : Int) < (List.length a0.Hosts : Int))))) (d_lss) ?_; refine tcond_f h28 ?_; exact h6 ()
def an_railref1_Wishes : Ann := .seq (.reg 0 [] [] []) (.seq (.reg 0 [] [] []) (.seq (.seq (.reg 0 [] [] []) (.cond none (.seq (.reg 0 [] [] []) (.no)) (.no))) (.seq (.seq (.reg 0 [] [] []) (.cond none (.seq (.reg 0 [] [] []) (.no)) (.no))) (.seq (.seq (.reg 0 [] [] []) (.blk (some []) (.loop [.kb 2, .s 6] (.seq (.seq (.reg 0 [] [] []) (.cond none (.no) (.no))) (.seq (.blk (some [.kb 2]) (.seq (.reg 0 [] [] []) (.seq (.seq (.reg 0 [] [] []) (.cond none (.seq (.reg 0 [] [] []) (.no)) (.no))) (.seq (.seq (.reg 0 [] [] []) (.cond none (.seq (.seq (.reg 0 [] [] []) (.cond none (.seq (.reg 0 [] [] []) (.no)) (.no))) (.no)) (.no))) (.seq (.reg 0 [] [] []) (.cond none (.seq (.reg 0 [] [] []) (.no)) (.no))))))) (.reg 0 [] [] [])))))) (.seq (.reg 0 [] [] []) (.no))))))
noncomputable def sem_railref1_Wishes (n : Nat) (xs : List V) : Option V := if xs.length ≤ 84 then denF Tryz.prog (envOf [(55, (sem_railref1_Topo n)), (56, (sem_railref1_Named n))]) n Tryz.f23 an_railref1_Wishes xs else none
theorem ok_railref1_Wishes (n : Nat) : SemOk Tryz.prog DW 23 (sem_railref1_Wishes n) := fun xs y h => by
 unfold sem_railref1_Wishes at h
 split at h
 ·rename_i hl
  exact denF_ok stb Tryz.func23 (by kernel_rfl) (envOf_ok (semsOk_cons (ok_railref1_Topo n) (semsOk_cons (ok_railref1_Named n) semsOk_nil))) (by rw [Tryz.ntmps23]; exact hl) h
 ·cases h
theorem eq_railref1_Wishes (n : Nat) (x0 x1 : V) : sem_railref1_Wishes n [x0, x1] =
 (V.cellsO x0).bind fun v1 =>
 (ldk (some 3) (List.drop 0 v1)).bind fun v2 =>
 ((sem_railref1_Topo n) [v2]).bind fun v3 =>
 (bin2 Tryz.prog BinOp.neq 3 (ot 10) (oc 0) v3 (vi 0)).bind fun v4 =>
 condV v4 (
 some v3) (
 (lenS [x1]).bind fun v5 =>
 (bin2 Tryz.prog BinOp.gtr 3 (ot 14) (oc 8) v5 (vi 8)).bind fun v6 =>
 condV v6 (
 some (vi 4)) (
 JoinPt (fun vs7 =>
 some (vi 0)) fun J8 =>
 (keepO (some v1) (some v1) (some [(vi 0)])).bind (fixN (fun rec9 vs10 =>
 (lenS [x1]).bind fun v11 =>
 (bin2 Tryz.prog BinOp.lss 3 (ot 16) (ot 18) (List.getD vs10 0 V.any) v11).bind fun v12 =>
 condV v12 (
 JoinPt (fun vs13 =>
 (bin2 Tryz.prog BinOp.add 3 (ot 20) (oc 1) (List.getD vs10 0 V.any) (vi 1)).bind fun v15 =>
 (keepO (some v1) (some v1) (some [v15])).bind rec9) fun J14 =>
 (idxS 4 x1 (List.getD vs10 0 V.any)).bind fun v16 =>
 (ldp (some 4) v16).bind fun v17 =>
 (spliceV [(vi 0), (vt ⟨#[]⟩), (vt ⟨#[]⟩), (vi 0)] 0 4 v17).bind fun v18 =>
 (ldk none (List.drop 0 (aggL v18))).bind fun v19 =>
 (bin2 Tryz.prog BinOp.lss 3 (ot 27) (oc 1) v19 (vi 1)).bind fun v20 =>
 (guardV v20 false (some V.any)).bind fun v21 =>
 (guardV v20 false ((gate v20 false (ldk none (List.drop 0 (aggL v18)))).bind fun v22 =>
 some v22)).bind fun v23 =>
 (guardV v20 false ((bin2 Tryz.prog BinOp.gtr 3 (ot 31) (oc 4) v23 (vi 4)).bind fun v24 =>
 some v24)).bind fun v25 =>
 (pickV v20 (vb true) v25).bind fun v26 =>
 (guardV v26 false (some V.any)).bind fun v27 =>
 (guardV v26 false ((gate v26 false (ldk none (List.drop 0 (aggL v18)))).bind fun v28 =>
 some v28)).bind fun v29 =>
 (guardV v26 false ((bin2 Tryz.prog BinOp.eql 3 (ot 36) (oc 3) v29 (vi 3)).bind fun v30 =>
 some v30)).bind fun v31 =>
 (guardV v26 false (some v31)).bind fun v32 =>
 (guardV v32 true (some V.any)).bind fun v33 =>
 (guardV v32 true ((gate v32 true (ldk none (List.drop 3 (aggL v18)))).bind fun v34 =>
 some v34)).bind fun v35 =>
 (guardV v32 true ((bin2 Tryz.prog BinOp.lss 3 (ot 40) (oc 1) v35 (vi 1)).bind fun v36 =>
 some v36)).bind fun v37 =>
 (guardV v32 true (some v37)).bind fun v38 =>
 (guardV v38 false (some V.any)).bind fun v39 =>
 (guardV v38 false ((gate v38 false (ldk none (List.drop 3 (aggL v18)))).bind fun v40 =>
 some v40)).bind fun v41 =>
 (guardV v38 false (some V.any)).bind fun v42 =>
 (guardV v38 false ((gate v38 false (ldk none (List.drop 0 v1))).bind fun v43 =>
 some v43)).bind fun v44 =>
 (guardV v38 false ((bin2 Tryz.prog BinOp.gtr 3 (ot 44) (ot 46) v41 v44).bind fun v45 =>
 some v45)).bind fun v46 =>
 (guardV v32 true ((pickV v38 (vb true) v46).bind fun v47 =>
 some v47)).bind fun v48 =>
 (guardV v26 false ((pickV v32 v48 (vb false)).bind fun v49 =>
 some v49)).bind fun v50 =>
 (pickV v26 (vb true) v50).bind fun v51 =>
 (guardV v51 false (some V.any)).bind fun v52 =>
 (guardV v51 false ((gate v51 false (ldk none (List.drop 0 (aggL v18)))).bind fun v53 =>
 some v53)).bind fun v54 =>
 (guardV v51 false ((bin2 Tryz.prog BinOp.neq 3 (ot 53) (oc 3) v54 (vi 3)).bind fun v55 =>
 some v55)).bind fun v56 =>
 (guardV v51 false (some v56)).bind fun v57 =>
 (guardV v57 true (some V.any)).bind fun v58 =>
 (guardV v57 true ((gate v57 true (ldk none (List.drop 3 (aggL v18)))).bind fun v59 =>
 some v59)).bind fun v60 =>
 (guardV v57 true ((bin2 Tryz.prog BinOp.neq 3 (ot 57) (oc 0) v60 (vi 0)).bind fun v61 =>
 some v61)).bind fun v62 =>
 (guardV v51 false ((pickV v57 v62 (vb false)).bind fun v63 =>
 some v63)).bind fun v64 =>
 (pickV v51 (vb true) v64).bind fun v65 =>
 condV v65 (
 some (vi 1)) (
 (ldk none (List.drop 0 (aggL v18))).bind fun v66 =>
 (bin2 Tryz.prog BinOp.eql 3 (ot 62) (oc 4) v66 (vi 4)).bind fun v67 =>
 condV v67 (
 (ldk none (List.drop 1 (aggL v18))).bind fun v68 =>
 (bin2 Tryz.prog BinOp.neq 9 (ot 65) (Operand.const (Go.Value.string (ByteArray.mk #[]))) v68 (vt ⟨#[]⟩)).bind fun v69 =>
 (guardV v69 false (some V.any)).bind fun v70 =>
 (guardV v69 false ((gate v69 false (ldk none (List.drop 2 (aggL v18)))).bind fun v71 =>
 some v71)).bind fun v72 =>
 (guardV v69 false ((bin2 Tryz.prog BinOp.neq 9 (ot 69) (Operand.const (Go.Value.string (ByteArray.mk #[]))) v72 (vt ⟨#[]⟩)).bind fun v73 =>
 some v73)).bind fun v74 =>
 (pickV v69 (vb true) v74).bind fun v75 =>
 condV v75 (
 some (vi 3)) (
 (keepO (some v1) (some v1) (some [])).bind J14)) (
 (ldk (some 3) (List.drop 0 v1)).bind fun v76 =>
 (ldk none (List.drop 1 (aggL v18))).bind fun v77 =>
 ((sem_railref1_Named n) [v76, v77]).bind fun v78 =>
 (bin2 Tryz.prog BinOp.lss 3 (ot 75) (oc 0) v78 (vi 0)).bind fun v79 =>
 (guardV v79 false ((ldk (some 3) (List.drop 0 v1)).bind fun v80 =>
 some v80)).bind fun v81 =>
 (guardV v79 false (some V.any)).bind fun v82 =>
 (guardV v79 false ((gate v79 false (ldk none (List.drop 2 (aggL v18)))).bind fun v83 =>
 some v83)).bind fun v84 =>
 (guardV v79 false (((sem_railref1_Named n) [v81, v84]).bind fun v85 =>
 some v85)).bind fun v86 =>
 (guardV v79 false ((bin2 Tryz.prog BinOp.lss 3 (ot 81) (oc 0) v86 (vi 0)).bind fun v87 =>
 some v87)).bind fun v88 =>
 (pickV v79 (vb true) v88).bind fun v89 =>
 condV v89 (
 some (vi 5)) (
 (keepO (some v1) (some v1) (some [])).bind J14)))) (
 J8 [])) n))) := by kernel_rfl
noncomputable def t_railref1_Wishes (a0 : T_Topo) (a1 : (List T_Wish)) : Option Int :=
 (t_railref1_Topo a0).bind fun r4 =>
 if (decide (r4 ≠ 0)) = true then (
 some r4) else (
 if (decide (8 < (List.length a1 : Int))) = true then (
 some 4) else (
 join (fun (s12 : Unit) =>
 some 0) fun j13 =>
 loopI a1 (fun (i21 : Int) x22 (s17 : Unit) k18 =>
 join (fun (s30 : Unit) =>
 k18 ()) fun j31 =>
 (some ((((decide (x22.What < 1)) || (decide (4 < x22.What))) || ((decide (x22.What = 3)) && ((decide (x22.Via < 1)) || (decide (a0.Switches < x22.Via))))) || ((decide (x22.What ≠ 3)) && (decide (x22.Via ≠ 0))))).bind fun r110 =>
 if r110 = true then (
 some 1) else (
 if (decide (x22.What = 4)) = true then (
 if ((!decide (x22.From = (ByteArray.mk #[]))) || (!decide (x22.To = (ByteArray.mk #[])))) = true then (
 some 3) else (
 j31 ())) else (
 (t_railref1_Named a0 x22.From).bind fun r130 =>
 (gd (!(decide (r130 < 0))) default (t_railref1_Named a0 x22.To)).bind fun r143 =>
 if ((decide (r130 < 0)) || (decide (r143 < 0))) = true then (
 some 5) else (
 j31 ())))) (fun (s17 : Unit) =>
 j13 ()) ()))
theorem ty_railref1_Wishes {n : Nat} (hn : bigN ≤ n) (a0 : T_Topo) (a1 : (List T_Wish)) : Rv (fun x : Int => (vi x)) (sem_railref1_Wishes n [(T_Topo.e a0), (V.sl (List.map T_Wish.c a1))]) (t_railref1_Wishes a0 a1) := by
 rw [eq_railref1_Wishes]
 unfold t_railref1_Wishes; refine tb (x := (T_Topo.c a0)) rfl ?_; refine tb (x := (T_Topo.e a0)) (rfl) ?_; refine tbo (ty_railref1_Topo hn a0) fun r4 => ?_; refine tb (x := (vb (decide (r4 ≠ 0)))) (d_neq) ?_; refine tcond (fun h6 => ?_) (fun h6 => ?_)
 ·exact rf_ret rfl
 ·refine tb (x := (vi (List.length a1 : Int))) (p_len _) ?_; refine tb (x := (vb (decide (8 < (List.length a1 : Int))))) (d_gtr) ?_; refine tcond (fun h9 => ?_) (fun h9 => ?_)
  ·exact rf_ret rfl
  ·refine tjoin (mk := fun s12 : Unit => []) (fun s12 => ?_) fun J11 j13 h14 => ?_
   ·exact rf_ret rfl
   ·refine tkeepO2 ?_ rfl; refine tsome ?_; refine rf_loopI (mk := fun (i21 : Int) (s17 : Unit) => [(vi (i21 : Int))]) hn a1 () (fun i21 x22 h23 h24 h25 s17 rec15 k18 h19 => ?_) (fun s17 rec150 h149 => ?_)
    ·refine tb (x := (vi (List.length a1 : Int))) (p_len _) ?_; refine tb (x := (vb (decide ((i21 : Int) < (List.length a1 : Int))))) (d_lss) ?_; refine tcond_t h25 ?_; refine tjoin (mk := fun s30 : Unit => []) (fun s30 => ?_) fun J29 j31 h32 => ?_
     ·refine tb (x := (vi ((i21 : Int) + 1))) (p_incN h24) ?_; refine tkeepO2 ?_ rfl; refine tsome ?_; exact h19 ()
     ·refine tb (x := (V.ptr (T_Wish.c x22))) (p_idx_at (c := T_Wish.c) (fun _ => rfl) h23) ?_; refine tb (x := (T_Wish.e x22)) (rfl) ?_; refine tb (x := V.agg (T_Wish.c x22)) (by kernel_rfl) ?_; refine tb (x := (vi x22.What)) (rfl) ?_; refine tb (x := (vb (decide (x22.What < 1)))) (d_lss) ?_; refine tg_f (x := V.any) (fun h39 => rfl) ?_; refine tg_f (x := (vi x22.What)) (fun h41 => bind_some_eq (gate_pos (not_t h41) (rfl))) ?_; refine tg_f (x := (vb (decide (4 < x22.What)))) (fun h44 => by simp only [gv_t h44]; exact bind_some_eq (d_gtr)) ?_; refine tb (x := (vb ((decide (x22.What < 1)) || (decide (4 < x22.What))))) (pick_or (fun h9 => gv_t (not_f h9))) ?_; refine tg_f (x := V.any) (fun h48 => rfl) ?_; refine tg_f (x := (vi x22.What)) (fun h50 => bind_some_eq (gate_pos (not_t h50) (rfl))) ?_; refine tg_f (x := (vb (decide (x22.What = 3)))) (fun h53 => by simp only [gv_t h53]; exact bind_some_eq (d_eql)) ?_; refine tg_f (x := (vb (decide (x22.What = 3)))) (fun h56 => congrArg some (gv_t h56)) ?_; refine tg2 (x := V.any) (fun h58 => rfl) ?_; refine tg2 (x := (vi x22.Via)) (fun h60 => bind_some_eq (gate_pos2 (and_l h60) (and_r h60) (rfl))) ?_; refine tg2 (x := (vb (decide (x22.Via < 1)))) (fun h63 => by simp only [gv_t h63]; exact bind_some_eq (d_lss)) ?_; refine tg2 (x := (vb (decide (x22.Via < 1)))) (fun h66 => congrArg some (gv_t h66)) ?_; refine tg2_f (x := V.any) (fun h68 => rfl) ?_; refine tg2_f (x := (vi x22.Via)) (fun h70 => bind_some_eq (gate_pos2 (and_l h70) (not_t (and_r h70)) (rfl))) ?_; refine tg2_f (x := V.any) (fun h73 => rfl) ?_; refine tg2_f (x := (vi a0.Switches)) (fun h75 => bind_some_eq (gate_pos2 (and_l h75) (not_t (and_r h75)) (rfl))) ?_; refine tg2_f (x := (vb (decide (a0.Switches < x22.Via)))) (fun h78 => by simp only [gv_t h78]; exact bind_some_eq (d_gtr)) ?_; refine tg2 (x := (vb ((decide (x22.Via < 1)) || (decide (a0.Switches < x22.Via))))) (fun h81 => by simp only [gv_t h81]; exact bind_some_eq (pick_or (fun h9 => gv_t (and_i h81 (not_f h9))))) ?_; refine tg_f (x := (vb ((decide (x22.What = 3)) && ((decide (x22.Via < 1)) || (decide (a0.Switches < x22.Via)))))) (fun h84 => by simp only [gv_t h84]; exact bind_some_eq (pick_and (fun h9 => gv_t (and_i h84 h9)))) ?_; refine tb (x := (vb (((decide (x22.What < 1)) || (decide (4 < x22.What))) || ((decide (x22.What = 3)) && ((decide (x22.Via < 1)) || (decide (a0.Switches < x22.Via))))))) (pick_or (fun h9 => gv_t (not_f h9))) ?_; refine tg_f (x := V.any) (fun h88 => rfl) ?_; refine tg_f (x := (vi x22.What)) (fun h90 => bind_some_eq (gate_pos (not_t h90) (rfl))) ?_; refine tg_f (x := (vb (decide (x22.What ≠ 3)))) (fun h93 => by simp only [gv_t h93]; exact bind_some_eq (d_neq)) ?_; refine tg_f (x := (vb (decide (x22.What ≠ 3)))) (fun h96 => congrArg some (gv_t h96)) ?_; refine tg2 (x := V.any) (fun h98 => rfl) ?_; refine tg2 (x := (vi x22.Via)) (fun h100 => bind_some_eq (gate_pos2 (and_l h100) (and_r h100) (rfl))) ?_; refine tg2 (x := (vb (decide (x22.Via ≠ 0)))) (fun h103 => by simp only [gv_t h103]; exact bind_some_eq (d_neq)) ?_; refine tg_f (x := (vb ((decide (x22.What ≠ 3)) && (decide (x22.Via ≠ 0))))) (fun h106 => by simp only [gv_t h106]; exact bind_some_eq (pick_and (fun h9 => gv_t (and_i h106 h9)))) ?_; refine tbo (e1 := fun x : Bool => (vb x)) (rf_eq (pick_or (fun h9 => gv_t (not_f h9))) rfl) fun r110 => ?_; refine tcond (fun h111 => ?_) (fun h111 => ?_)
      ·exact rf_ret rfl
      ·refine tb (x := (vi x22.What)) (rfl) ?_; refine tb (x := (vb (decide (x22.What = 4)))) (d_eql) ?_; refine tcond (fun h114 => ?_) (fun h114 => ?_)
       ·refine tb (x := (vt x22.From)) (rfl) ?_; refine tb (x := (vb (!decide (x22.From = (ByteArray.mk #[]))))) (p_neq_str) ?_; refine tg_f (x := V.any) (fun h117 => rfl) ?_; refine tg_f (x := (vt x22.To)) (fun h119 => bind_some_eq (gate_pos (not_t h119) (rfl))) ?_; refine tg_f (x := (vb (!decide (x22.To = (ByteArray.mk #[]))))) (fun h122 => by simp only [gv_t h122]; exact bind_some_eq (p_neq_str)) ?_; refine tb (x := (vb ((!decide (x22.From = (ByteArray.mk #[]))) || (!decide (x22.To = (ByteArray.mk #[])))))) (pick_or (fun h9 => gv_t (not_f h9))) ?_; refine tcond (fun h126 => ?_) (fun h126 => ?_)
        ·exact rf_ret rfl
        ·refine tkeepO2 ?_ rfl; refine tsome ?_; exact h32 ()
       ·refine tb (x := (T_Topo.e a0)) (rfl) ?_; refine tb (x := (vt x22.From)) (rfl) ?_; refine tbo (ty_railref1_Named hn a0 x22.From) fun r130 => ?_; refine tb (x := (vb (decide (r130 < 0)))) (d_lss) ?_; refine tg_f (x := (T_Topo.e a0)) (fun h132 => bind_some_eq (rfl)) ?_; refine tg_f (x := V.any) (fun h135 => rfl) ?_; refine tg_f (x := (vt x22.To)) (fun h137 => bind_some_eq (gate_pos (not_t h137) (rfl))) ?_; refine tgo_f (fun h140 => by simp only [gv_t h140]; exact rf_bind_some (ty_railref1_Named hn a0 x22.To)) fun r143 => ?_; refine tg_f (x := (vb (decide (r143 < 0)))) (fun h144 => by simp only [gv_t h144]; exact bind_some_eq (d_lss)) ?_; refine tb (x := (vb ((decide (r130 < 0)) || (decide (r143 < 0))))) (pick_or (fun h9 => gv_t (not_f h9))) ?_; refine tcond (fun h148 => ?_) (fun h148 => ?_)
        ·exact rf_ret rfl
        ·refine tkeepO2 ?_ rfl; refine tsome ?_; exact h32 ()
    ·refine tb (x := (vi (List.length a1 : Int))) (p_len _) ?_; refine tb (x := (vb (decide ((List.length a1 : Int) < (List.length a1 : Int))))) (d_lss) ?_; refine tcond_f h149 ?_; exact h14 ()
def an_railref1_ShowWish : Ann := .seq (.reg 0 [] [] []) (.seq (.seq (.reg 0 [] [] []) (.cond none (.seq (.reg 0 [] [] []) (.no)) (.no))) (.seq (.reg 0 [] [] []) (.seq (.reg 0 [] [] []) (.seq (.seq (.reg 0 [] [] []) (.cond none (.seq (.reg 0 [] [] []) (.no)) (.no))) (.seq (.seq (.reg 0 [] [] []) (.cond none (.seq (.reg 0 [] [] []) (.no)) (.no))) (.seq (.reg 0 [] [] []) (.seq (.seq (.reg 0 [] [] []) (.blk none (.seq (.reg 0 [] [] []) (.cond none (.seq (.reg 0 [] [] []) (.no)) (.seq (.reg 0 [] [] []) (.cond none (.seq (.reg 0 [] [] []) (.no)) (.seq (.reg 0 [] [] []) (.cond none (.seq (.reg 0 [] [] []) (.seq (.reg 0 [] [] []) (.no))) (.no))))))))) (.seq (.reg 0 [] [] []) (.no)))))))))
noncomputable def sem_railref1_ShowWish (n : Nat) (xs : List V) : Option V := if xs.length ≤ 97 then denF Tryz.prog (envOf [(57, (sem_railref1_Name n)), (37, (sem_Digits))]) n Tryz.f24 an_railref1_ShowWish xs else none
theorem ok_railref1_ShowWish (n : Nat) : SemOk Tryz.prog DW 24 (sem_railref1_ShowWish n) := fun xs y h => by
 unfold sem_railref1_ShowWish at h
 split at h
 ·rename_i hl
  exact denF_ok stb Tryz.func24 (by kernel_rfl) (envOf_ok (semsOk_cons (ok_railref1_Name n) (semsOk_cons (ok_Digits) semsOk_nil))) (by rw [Tryz.ntmps24]; exact hl) h
 ·cases h
theorem eq_railref1_ShowWish (n : Nat) (x0 : V) : sem_railref1_ShowWish n [x0] =
 (V.cellsO x0).bind fun v1 =>
 (ldk none (List.drop 0 v1)).bind fun v2 =>
 (bin2 Tryz.prog BinOp.lss 3 (ot 9) (oc 1) v2 (vi 1)).bind fun v3 =>
 (guardV v3 false (some V.any)).bind fun v4 =>
 (guardV v3 false ((gate v3 false (ldk none (List.drop 0 v1))).bind fun v5 =>
 some v5)).bind fun v6 =>
 (guardV v3 false ((bin2 Tryz.prog BinOp.gtr 3 (ot 13) (oc 4) v6 (vi 4)).bind fun v7 =>
 some v7)).bind fun v8 =>
 (pickV v3 (vb true) v8).bind fun v9 =>
 (guardV v9 false (some V.any)).bind fun v10 =>
 (guardV v9 false ((gate v9 false (ldk none (List.drop 0 v1))).bind fun v11 =>
 some v11)).bind fun v12 =>
 (guardV v9 false ((bin2 Tryz.prog BinOp.eql 3 (ot 18) (oc 3) v12 (vi 3)).bind fun v13 =>
 some v13)).bind fun v14 =>
 (guardV v9 false (some v14)).bind fun v15 =>
 (guardV v15 true (some V.any)).bind fun v16 =>
 (guardV v15 true ((gate v15 true (ldk none (List.drop 3 v1))).bind fun v17 =>
 some v17)).bind fun v18 =>
 (guardV v15 true ((bin2 Tryz.prog BinOp.lss 3 (ot 22) (oc 1) v18 (vi 1)).bind fun v19 =>
 some v19)).bind fun v20 =>
 (guardV v15 true (some v20)).bind fun v21 =>
 (guardV v21 false (some V.any)).bind fun v22 =>
 (guardV v21 false ((gate v21 false (ldk none (List.drop 3 v1))).bind fun v23 =>
 some v23)).bind fun v24 =>
 (guardV v21 false ((bin2 Tryz.prog BinOp.gtr 3 (ot 26) (oc 6) v24 (vi 6)).bind fun v25 =>
 some v25)).bind fun v26 =>
 (guardV v15 true ((pickV v21 (vb true) v26).bind fun v27 =>
 some v27)).bind fun v28 =>
 (guardV v9 false ((pickV v15 v28 (vb false)).bind fun v29 =>
 some v29)).bind fun v30 =>
 (pickV v9 (vb true) v30).bind fun v31 =>
 condV v31 (
 some (V.tup [(vt ⟨#[]⟩), (vi 1)])) (
 (ldk none (List.drop 1 v1)).bind fun v32 =>
 ((sem_railref1_Name n) [v32]).bind fun v33 =>
 (ldk none (List.drop 2 v1)).bind fun v34 =>
 ((sem_railref1_Name n) [v34]).bind fun v35 =>
 (ldk none (List.drop 0 v1)).bind fun v36 =>
 (bin2 Tryz.prog BinOp.neq 3 (ot 38) (oc 4) v36 (vi 4)).bind fun v37 =>
 (guardV v37 true (some v33)).bind fun v38 =>
 (guardV v37 true ((scal1 Tryz.prog (Op.unary Go.UnOp.not) v38).bind fun v39 =>
 some v39)).bind fun v40 =>
 (guardV v37 true (some v40)).bind fun v41 =>
 (guardV v41 false (some v35)).bind fun v42 =>
 (guardV v41 false ((scal1 Tryz.prog (Op.unary Go.UnOp.not) v42).bind fun v43 =>
 some v43)).bind fun v44 =>
 (guardV v37 true ((pickV v41 (vb true) v44).bind fun v45 =>
 some v45)).bind fun v46 =>
 (pickV v37 v46 (vb false)).bind fun v47 =>
 condV v47 (
 some (V.tup [(vt ⟨#[]⟩), (vi 2)])) (
 (ldk none (List.drop 0 v1)).bind fun v48 =>
 (bin2 Tryz.prog BinOp.neq 3 (ot 49) (oc 3) v48 (vi 3)).bind fun v49 =>
 (guardV v49 true (some V.any)).bind fun v50 =>
 (guardV v49 true ((gate v49 true (ldk none (List.drop 3 v1))).bind fun v51 =>
 some v51)).bind fun v52 =>
 (guardV v49 true ((bin2 Tryz.prog BinOp.neq 3 (ot 53) (oc 0) v52 (vi 0)).bind fun v53 =>
 some v53)).bind fun v54 =>
 (pickV v49 v54 (vb false)).bind fun v55 =>
 (guardV v55 false (some V.any)).bind fun v56 =>
 (guardV v55 false ((gate v55 false (ldk none (List.drop 0 v1))).bind fun v57 =>
 some v57)).bind fun v58 =>
 (guardV v55 false ((bin2 Tryz.prog BinOp.eql 3 (ot 58) (oc 4) v58 (vi 4)).bind fun v59 =>
 some v59)).bind fun v60 =>
 (guardV v55 false (some v60)).bind fun v61 =>
 (guardV v61 true (some V.any)).bind fun v62 =>
 (guardV v61 true ((gate v61 true (ldk none (List.drop 1 v1))).bind fun v63 =>
 some v63)).bind fun v64 =>
 (guardV v61 true ((bin2 Tryz.prog BinOp.neq 9 (ot 62) (Operand.const (Go.Value.string (ByteArray.mk #[]))) v64 (vt ⟨#[]⟩)).bind fun v65 =>
 some v65)).bind fun v66 =>
 (guardV v61 true (some v66)).bind fun v67 =>
 (guardV v67 false (some V.any)).bind fun v68 =>
 (guardV v67 false ((gate v67 false (ldk none (List.drop 2 v1))).bind fun v69 =>
 some v69)).bind fun v70 =>
 (guardV v67 false ((bin2 Tryz.prog BinOp.neq 9 (ot 66) (Operand.const (Go.Value.string (ByteArray.mk #[]))) v70 (vt ⟨#[]⟩)).bind fun v71 =>
 some v71)).bind fun v72 =>
 (guardV v61 true ((pickV v67 (vb true) v72).bind fun v73 =>
 some v73)).bind fun v74 =>
 (guardV v55 false ((pickV v61 v74 (vb false)).bind fun v75 =>
 some v75)).bind fun v76 =>
 (pickV v55 (vb true) v76).bind fun v77 =>
 condV v77 (
 some (V.tup [(vt ⟨#[]⟩), (vi 3)])) (
 (ldk none (List.drop 1 v1)).bind fun v78 =>
 (bin2 Tryz.prog BinOp.add 9 (ot 72) (Operand.const (Go.Value.string (ByteArray.mk #[32]))) v78 (vt ⟨#[32]⟩)).bind fun v79 =>
 (ldk none (List.drop 2 v1)).bind fun v80 =>
 (bin2 Tryz.prog BinOp.add 9 (ot 73) (ot 75) v79 v80).bind fun v81 =>
 (ldk none (List.drop 0 v1)).bind fun v82 =>
 (bin2 Tryz.prog BinOp.eql 3 (ot 78) (oc 1) v82 (vi 1)).bind fun v83 =>
 condV v83 (
 (bin2 Tryz.prog BinOp.add 9 (Operand.const (Go.Value.string (ByteArray.mk #[114, 101, 97, 99, 104, 32]))) (ot 81) (vt ⟨#[114, 101, 97, 99, 104, 32]⟩) v81).bind fun v84 =>
 some (V.tup [v84, (vi 0)])) (
 (bin2 Tryz.prog BinOp.eql 3 (ot 78) (oc 2) v82 (vi 2)).bind fun v85 =>
 condV v85 (
 (bin2 Tryz.prog BinOp.add 9 (Operand.const (Go.Value.string (ByteArray.mk #[97, 112, 97, 114, 116, 32]))) (ot 85) (vt ⟨#[97, 112, 97, 114, 116, 32]⟩) v81).bind fun v86 =>
 some (V.tup [v86, (vi 0)])) (
 (bin2 Tryz.prog BinOp.eql 3 (ot 78) (oc 3) v82 (vi 3)).bind fun v87 =>
 condV v87 (
 (ldk none (List.drop 3 v1)).bind fun v88 =>
 ((sem_Digits) [v88]).bind fun v89 =>
 (bin2 Tryz.prog BinOp.add 9 (Operand.const (Go.Value.string (ByteArray.mk #[119, 97, 121, 32]))) (ot 92) (vt ⟨#[119, 97, 121, 32]⟩) v81).bind fun v90 =>
 (bin2 Tryz.prog BinOp.add 9 (ot 93) (Operand.const (Go.Value.string (ByteArray.mk #[32]))) v90 (vt ⟨#[32]⟩)).bind fun v91 =>
 (bin2 Tryz.prog BinOp.add 9 (ot 94) (ot 95) v91 v89).bind fun v92 =>
 some (V.tup [v92, (vi 0)])) (
 some (V.tup [(vt ⟨#[108, 111, 111, 112, 115]⟩), (vi 0)]))))))) := by kernel_rfl
noncomputable def t_railref1_ShowWish (a0 : T_Wish) : Option (ByteArray × Int) :=
 if (((decide (a0.What < 1)) || (decide (4 < a0.What))) || ((decide (a0.What = 3)) && ((decide (a0.Via < 1)) || (decide (6 < a0.Via))))) = true then (
 some ((ByteArray.mk #[]), 1)) else (
 (t_railref1_Name a0.From).bind fun r51 =>
 (t_railref1_Name a0.To).bind fun r54 =>
 if ((decide (a0.What ≠ 4)) && ((!r51) || (!r54))) = true then (
 some ((ByteArray.mk #[]), 2)) else (
 (some (((decide (a0.What ≠ 3)) && (decide (a0.Via ≠ 0))) || ((decide (a0.What = 4)) && ((!decide (a0.From = (ByteArray.mk #[]))) || (!decide (a0.To = (ByteArray.mk #[]))))))).bind fun r120 =>
 if r120 = true then (
 some ((ByteArray.mk #[]), 3)) else (
 need (decide ((a0.From.size : Int) + (ByteArray.mk #[32]).size ≤ maxI)) (
 need (decide (((a0.From ++ (ByteArray.mk #[32])).size : Int) + a0.To.size ≤ maxI)) (
 if (decide (a0.What = 1)) = true then (
 need (decide (((ByteArray.mk #[114, 101, 97, 99, 104, 32]).size : Int) + ((a0.From ++ (ByteArray.mk #[32])) ++ a0.To).size ≤ maxI)) (
 some (((ByteArray.mk #[114, 101, 97, 99, 104, 32]) ++ ((a0.From ++ (ByteArray.mk #[32])) ++ a0.To)), 0))) else (
 if (decide (a0.What = 2)) = true then (
 need (decide (((ByteArray.mk #[97, 112, 97, 114, 116, 32]).size : Int) + ((a0.From ++ (ByteArray.mk #[32])) ++ a0.To).size ≤ maxI)) (
 some (((ByteArray.mk #[97, 112, 97, 114, 116, 32]) ++ ((a0.From ++ (ByteArray.mk #[32])) ++ a0.To)), 0))) else (
 if (decide (a0.What = 3)) = true then (
 (t_Digits a0.Via).bind fun r139 =>
 need (decide (((ByteArray.mk #[119, 97, 121, 32]).size : Int) + ((a0.From ++ (ByteArray.mk #[32])) ++ a0.To).size ≤ maxI)) (
 need (decide ((((ByteArray.mk #[119, 97, 121, 32]) ++ ((a0.From ++ (ByteArray.mk #[32])) ++ a0.To)).size : Int) + (ByteArray.mk #[32]).size ≤ maxI)) (
 need (decide (((((ByteArray.mk #[119, 97, 121, 32]) ++ ((a0.From ++ (ByteArray.mk #[32])) ++ a0.To)) ++ (ByteArray.mk #[32])).size : Int) + r139.size ≤ maxI)) (
 some (((((ByteArray.mk #[119, 97, 121, 32]) ++ ((a0.From ++ (ByteArray.mk #[32])) ++ a0.To)) ++ (ByteArray.mk #[32])) ++ r139), 0))))) else (
 some ((ByteArray.mk #[108, 111, 111, 112, 115]), 0)))))))))
theorem ty_railref1_ShowWish {n : Nat} (hn : bigN ≤ n) (a0 : T_Wish) : Rv (fun x : (ByteArray × Int) => V.tup [(vt x.1), (vi x.2)]) (sem_railref1_ShowWish n [(T_Wish.e a0)]) (t_railref1_ShowWish a0) := by
 rw [eq_railref1_ShowWish]
 unfold t_railref1_ShowWish; refine tb (x := (T_Wish.c a0)) rfl ?_; refine tb (x := (vi a0.What)) (rfl) ?_; refine tb (x := (vb (decide (a0.What < 1)))) (d_lss) ?_; refine tg_f (x := V.any) (fun h4 => rfl) ?_; refine tg_f (x := (vi a0.What)) (fun h6 => bind_some_eq (gate_pos (not_t h6) (rfl))) ?_; refine tg_f (x := (vb (decide (4 < a0.What)))) (fun h9 => by simp only [gv_t h9]; exact bind_some_eq (d_gtr)) ?_; refine tb (x := (vb ((decide (a0.What < 1)) || (decide (4 < a0.What))))) (pick_or (fun h9 => gv_t (not_f h9))) ?_; refine tg_f (x := V.any) (fun h13 => rfl) ?_; refine tg_f (x := (vi a0.What)) (fun h15 => bind_some_eq (gate_pos (not_t h15) (rfl))) ?_; refine tg_f (x := (vb (decide (a0.What = 3)))) (fun h18 => by simp only [gv_t h18]; exact bind_some_eq (d_eql)) ?_; refine tg_f (x := (vb (decide (a0.What = 3)))) (fun h21 => congrArg some (gv_t h21)) ?_; refine tg2 (x := V.any) (fun h23 => rfl) ?_; refine tg2 (x := (vi a0.Via)) (fun h25 => bind_some_eq (gate_pos2 (and_l h25) (and_r h25) (rfl))) ?_; refine tg2 (x := (vb (decide (a0.Via < 1)))) (fun h28 => by simp only [gv_t h28]; exact bind_some_eq (d_lss)) ?_; refine tg2 (x := (vb (decide (a0.Via < 1)))) (fun h31 => congrArg some (gv_t h31)) ?_; refine tg2_f (x := V.any) (fun h33 => rfl) ?_; refine tg2_f (x := (vi a0.Via)) (fun h35 => bind_some_eq (gate_pos2 (and_l h35) (not_t (and_r h35)) (rfl))) ?_; refine tg2_f (x := (vb (decide (6 < a0.Via)))) (fun h38 => by simp only [gv_t h38]; exact bind_some_eq (d_gtr)) ?_; refine tg2 (x := (vb ((decide (a0.Via < 1)) || (decide (6 < a0.Via))))) (fun h41 => by simp only [gv_t h41]; exact bind_some_eq (pick_or (fun h9 => gv_t (and_i h41 (not_f h9))))) ?_; refine tg_f (x := (vb ((decide (a0.What = 3)) && ((decide (a0.Via < 1)) || (decide (6 < a0.Via)))))) (fun h44 => by simp only [gv_t h44]; exact bind_some_eq (pick_and (fun h9 => gv_t (and_i h44 h9)))) ?_; refine tb (x := (vb (((decide (a0.What < 1)) || (decide (4 < a0.What))) || ((decide (a0.What = 3)) && ((decide (a0.Via < 1)) || (decide (6 < a0.Via))))))) (pick_or (fun h9 => gv_t (not_f h9))) ?_; refine tcond (fun h48 => ?_) (fun h48 => ?_)
 ·exact rf_ret rfl
 ·refine tb (x := (vt a0.From)) (rfl) ?_; refine tbo (ty_railref1_Name hn a0.From) fun r51 => ?_; refine tb (x := (vt a0.To)) (rfl) ?_; refine tbo (ty_railref1_Name hn a0.To) fun r54 => ?_; refine tb (x := (vi a0.What)) (rfl) ?_; refine tb (x := (vb (decide (a0.What ≠ 4)))) (d_neq) ?_; refine tg (x := (vb r51)) (fun h57 => rfl) ?_; refine tg (x := (vb (!r51))) (fun h59 => by simp only [gv_t h59]; exact bind_some_eq (d_not)) ?_; refine tg (x := (vb (!r51))) (fun h62 => congrArg some (gv_t h62)) ?_; refine tg2_f (x := (vb r54)) (fun h64 => rfl) ?_; refine tg2_f (x := (vb (!r54))) (fun h66 => by simp only [gv_t h66]; exact bind_some_eq (d_not)) ?_; refine tg (x := (vb ((!r51) || (!r54)))) (fun h69 => by simp only [gv_t h69]; exact bind_some_eq (pick_or (fun h9 => gv_t (and_i h69 (not_f h9))))) ?_; refine tb (x := (vb ((decide (a0.What ≠ 4)) && ((!r51) || (!r54))))) (pick_and (fun h9 => gv_t h9)) ?_; refine tcond (fun h73 => ?_) (fun h73 => ?_)
  ·exact rf_ret rfl
  ·refine tb (x := (vi a0.What)) (rfl) ?_; refine tb (x := (vb (decide (a0.What ≠ 3)))) (d_neq) ?_; refine tg (x := V.any) (fun h76 => rfl) ?_; refine tg (x := (vi a0.Via)) (fun h78 => bind_some_eq (gate_pos h78 (rfl))) ?_; refine tg (x := (vb (decide (a0.Via ≠ 0)))) (fun h81 => by simp only [gv_t h81]; exact bind_some_eq (d_neq)) ?_; refine tb (x := (vb ((decide (a0.What ≠ 3)) && (decide (a0.Via ≠ 0))))) (pick_and (fun h9 => gv_t h9)) ?_; refine tg_f (x := V.any) (fun h85 => rfl) ?_; refine tg_f (x := (vi a0.What)) (fun h87 => bind_some_eq (gate_pos (not_t h87) (rfl))) ?_; refine tg_f (x := (vb (decide (a0.What = 4)))) (fun h90 => by simp only [gv_t h90]; exact bind_some_eq (d_eql)) ?_; refine tg_f (x := (vb (decide (a0.What = 4)))) (fun h93 => congrArg some (gv_t h93)) ?_; refine tg2 (x := V.any) (fun h95 => rfl) ?_; refine tg2 (x := (vt a0.From)) (fun h97 => bind_some_eq (gate_pos2 (and_l h97) (and_r h97) (rfl))) ?_; refine tg2 (x := (vb (!decide (a0.From = (ByteArray.mk #[]))))) (fun h100 => by simp only [gv_t h100]; exact bind_some_eq (p_neq_str)) ?_; refine tg2 (x := (vb (!decide (a0.From = (ByteArray.mk #[]))))) (fun h103 => congrArg some (gv_t h103)) ?_; refine tg2_f (x := V.any) (fun h105 => rfl) ?_; refine tg2_f (x := (vt a0.To)) (fun h107 => bind_some_eq (gate_pos2 (and_l h107) (not_t (and_r h107)) (rfl))) ?_; refine tg2_f (x := (vb (!decide (a0.To = (ByteArray.mk #[]))))) (fun h110 => by simp only [gv_t h110]; exact bind_some_eq (p_neq_str)) ?_; refine tg2 (x := (vb ((!decide (a0.From = (ByteArray.mk #[]))) || (!decide (a0.To = (ByteArray.mk #[])))))) (fun h113 => by simp only [gv_t h113]; exact bind_some_eq (pick_or (fun h9 => gv_t (and_i h113 (not_f h9))))) ?_; refine tg_f (x := (vb ((decide (a0.What = 4)) && ((!decide (a0.From = (ByteArray.mk #[]))) || (!decide (a0.To = (ByteArray.mk #[]))))))) (fun h116 => by simp only [gv_t h116]; exact bind_some_eq (pick_and (fun h9 => gv_t (and_i h116 h9)))) ?_; refine tbo (e1 := fun x : Bool => (vb x)) (rf_eq (pick_or (fun h9 => gv_t (not_f h9))) rfl) fun r120 => ?_; refine tcond (fun h121 => ?_) (fun h121 => ?_)
   ·exact rf_ret rfl
   ·refine tb (x := (vt a0.From)) (rfl) ?_; refine tneed (x := (vt (a0.From ++ (ByteArray.mk #[32])))) (fun h147 => p_add_str h147) fun h147 => ?_; refine tb (x := (vt a0.To)) (rfl) ?_; refine tneed (x := (vt ((a0.From ++ (ByteArray.mk #[32])) ++ a0.To))) (fun h146 => p_add_str h146) fun h146 => ?_; refine tb (x := (vi a0.What)) (rfl) ?_; refine tb (x := (vb (decide (a0.What = 1)))) (d_eql) ?_; refine tcond (fun h128 => ?_) (fun h128 => ?_)
    ·refine tneed (x := (vt ((ByteArray.mk #[114, 101, 97, 99, 104, 32]) ++ ((a0.From ++ (ByteArray.mk #[32])) ++ a0.To)))) (fun h130 => p_add_str h130) fun h130 => ?_; exact rf_ret rfl
    ·refine tb (x := (vb (decide (a0.What = 2)))) (d_eql) ?_; refine tcond (fun h132 => ?_) (fun h132 => ?_)
     ·refine tneed (x := (vt ((ByteArray.mk #[97, 112, 97, 114, 116, 32]) ++ ((a0.From ++ (ByteArray.mk #[32])) ++ a0.To)))) (fun h134 => p_add_str h134) fun h134 => ?_; exact rf_ret rfl
     ·refine tb (x := (vb (decide (a0.What = 3)))) (d_eql) ?_; refine tcond (fun h136 => ?_) (fun h136 => ?_)
      ·refine tb (x := (vi a0.Via)) (rfl) ?_; refine tbo (ty_Digits a0.Via) fun r139 => ?_; refine tneed (x := (vt ((ByteArray.mk #[119, 97, 121, 32]) ++ ((a0.From ++ (ByteArray.mk #[32])) ++ a0.To)))) (fun h145 => p_add_str h145) fun h145 => ?_; refine tneed (x := (vt (((ByteArray.mk #[119, 97, 121, 32]) ++ ((a0.From ++ (ByteArray.mk #[32])) ++ a0.To)) ++ (ByteArray.mk #[32])))) (fun h144 => p_add_str h144) fun h144 => ?_; refine tneed (x := (vt ((((ByteArray.mk #[119, 97, 121, 32]) ++ ((a0.From ++ (ByteArray.mk #[32])) ++ a0.To)) ++ (ByteArray.mk #[32])) ++ r139))) (fun h143 => p_add_str h143) fun h143 => ?_; exact rf_ret rfl
      ·exact rf_ret rfl
def an_railref1_Cut : Ann := .seq (.reg 0 [] [] []) (.seq (.reg 0 [] [] []) (.seq (.reg 0 [] [] []) (.seq (.seq (.reg 0 [] [] []) (.blk (some [.r 5 9, .s 6]) (.loop [.r 5 9, .s 6, .s 7] (.seq (.seq (.reg 0 [] [] []) (.cond none (.no) (.no))) (.seq (.blk none (.seq (.reg 0 [] [] []) (.cond (some [.r 5 9, .s 6]) (.seq (.reg 0 [] [] []) (.reg 0 [] [] [])) (.no)))) (.reg 0 [] [] [])))))) (.seq (.reg 0 [] [] []) (.no)))))
noncomputable def sem_railref1_Cut (n : Nat) (xs : List V) : Option V := if xs.length ≤ 34 then denF Tryz.prog (envOf []) n Tryz.f41 an_railref1_Cut xs else none
theorem ok_railref1_Cut (n : Nat) : SemOk Tryz.prog DW 41 (sem_railref1_Cut n) := fun xs y h => by
 unfold sem_railref1_Cut at h
 split at h
 ·rename_i hl
  exact denF_ok stb Tryz.func41 (by kernel_rfl) (envOf_ok semsOk_nil) (by rw [Tryz.ntmps41]; exact hl) h
 ·cases h
theorem eq_railref1_Cut (n : Nat) (x0 x1 : V) : sem_railref1_Cut n [x0, x1] =
 JoinPt (fun vs1 =>
 (slc none x0 (some (List.getD vs1 1 V.any)) none).bind fun v3 =>
 (slcB 1 1 [(vt ⟨#[]⟩)] [(0, v3)]).bind fun v4 =>
 (appV 1 (slL (List.getD vs1 0 V.any)) v4).bind fun v5 =>
 some (V.sl (slL v5))) fun J2 =>
 (fixN (fun rec6 vs7 =>
 (lenT [x0]).bind fun v8 =>
 (bin2 Tryz.prog BinOp.lss 3 (ot 8) (ot 10) (List.getD vs7 2 V.any) v8).bind fun v9 =>
 condV v9 (
 (scal2 Tryz.prog (Instr.index 9) x0 (List.getD vs7 2 V.any)).bind fun v10 =>
 (bin2 Tryz.prog BinOp.eql 5 (ot 16) (ot 17) v10 x1).bind fun v11 =>
 JoinPt (fun vs12 =>
 (bin2 Tryz.prog BinOp.add 3 (ot 12) (oc 1) (List.getD vs7 2 V.any) (vi 1)).bind fun v14 =>
 rec6 [(V.sl (slL (List.getD vs12 0 V.any))), (List.getD vs12 1 V.any), v14]) fun J13 =>
 condV v11 (
 (slc none x0 (some (List.getD vs7 1 V.any)) (some (List.getD vs7 2 V.any))).bind fun v15 =>
 (slcB 1 1 [(vt ⟨#[]⟩)] [(0, v15)]).bind fun v16 =>
 (appV 1 (slL (List.getD vs7 0 V.any)) v16).bind fun v17 =>
 (bin2 Tryz.prog BinOp.add 3 (ot 26) (oc 1) (List.getD vs7 2 V.any) (vi 1)).bind fun v18 =>
 J13 [(V.sl (slL v17)), v18]) (
 J13 [(V.sl (slL (List.getD vs7 0 V.any))), (List.getD vs7 1 V.any)])) (
 J2 [(V.sl (slL (List.getD vs7 0 V.any))), (List.getD vs7 1 V.any)])) n) [(V.sl []), (vi 0), (vi 0)] := by kernel_rfl
noncomputable def t_railref1_Cut (a0 : ByteArray) (a1 : Int) : Option (List ByteArray) :=
 (loopU 0 (a0.size : Int) (fun (i17 : Int) (s13 : ((List ByteArray) × Int)) k14 =>
 (sidx a0 i17).bind fun r26 =>
 (if (decide (r26 = a1)) = true then (
 (sslc_lh a0 s13.2 i17).bind fun r36 =>
 (app s13.1 ([r36] : (List ByteArray))).bind fun r39 =>
 some (r39, (i17 + 1))) else (
 some (s13.1, s13.2))).bind fun (s30 : ((List ByteArray) × Int)) =>
 k14 (s30.1, s30.2)) (fun (i17 : Int) (s13 : ((List ByteArray) × Int)) =>
 some (s13.1, s13.2)) ([], 0)).bind fun (s3 : ((List ByteArray) × Int)) =>
 (sslc_lo a0 s3.2).bind fun r7 =>
 (app s3.1 ([r7] : (List ByteArray))).bind fun r10 =>
 some r10
theorem ty_railref1_Cut {n : Nat} (hn : bigN ≤ n) (a0 : ByteArray) (a1 : Int) : Rv (fun x : (List ByteArray) => (V.sl (List.map cT x))) (sem_railref1_Cut n [(vt a0), (V.lit (.int .u8 a1))]) (t_railref1_Cut a0 a1) := by
 rw [eq_railref1_Cut]
 unfold t_railref1_Cut; refine tjb (mk := fun s3 : ((List ByteArray) × Int) => [(V.sl (List.map cT s3.1)), (vi s3.2)]) (fun J2 => ?_) fun s3 => ?_
 ·refine rf_loopU (mk := fun (i17 : Int) (s13 : ((List ByteArray) × Int)) => [(V.sl (List.map cT s13.1)), (vi s13.2), (vi i17)]) hn _ _ ([], 0) (fun i17 h18 h19 h20 s13 rec11 k14 h15 => ?_) (fun i17 s13 rec22 h21 => ?_)
  ·refine tb (x := (vi (a0.size : Int))) (rfl) ?_; refine tb (x := (vb (decide (i17 < (a0.size : Int))))) (d_lss) ?_; refine tcond_t h18 ?_; refine tbo (p_sidx (Tryz.underlying9) a0 i17) fun r26 => ?_; refine tb (x := (vb (decide (r26 = a1)))) (q_eql) ?_; refine tjb (mk := fun s30 : ((List ByteArray) × Int) => [(V.sl (List.map cT s30.1)), (vi s30.2)]) (fun J29 => ?_) fun s30 => ?_
   ·refine tcond (fun h34 => ?_) (fun h34 => ?_)
    ·refine tbo (p_sslc_lh a0 s13.2 i17) fun r36 => ?_; refine tb (x := (V.sl (List.map cT ([r36] : (List ByteArray))))) (by kernel_rfl) ?_; refine tbo (p_app (c := cT) (fun _ => rfl) s13.1 ([r36] : (List ByteArray))) fun r39 => ?_; refine tb (x := (vi (i17 + 1))) (p_inc h19 h20) ?_; exact rf_j rfl
    ·exact rf_j rfl
   ·refine tb (x := (vi (i17 + 1))) (p_inc h19 h20) ?_; exact h15 (s30.1, s30.2)
  ·refine tb (x := (vi (a0.size : Int))) (rfl) ?_; refine tb (x := (vb (decide (i17 < (a0.size : Int))))) (d_lss) ?_; refine tcond_f h21 ?_; exact rf_j rfl
 ·refine tbo (p_sslc_lo a0 s3.2) fun r7 => ?_; refine tb (x := (V.sl (List.map cT ([r7] : (List ByteArray))))) (by kernel_rfl) ?_; refine tbo (p_app (c := cT) (fun _ => rfl) s3.1 ([r7] : (List ByteArray))) fun r10 => ?_; exact rf_ret rfl
def an_railref1_Number : Ann := .seq (.reg 0 [] [] []) (.seq (.seq (.reg 0 [] [] []) (.cond none (.seq (.reg 0 [] [] []) (.no)) (.no))) (.seq (.reg 0 [] [] []) (.seq (.seq (.reg 0 [] [] []) (.blk (some [.s 4]) (.loop [.s 4, .s 5] (.seq (.seq (.reg 0 [] [] []) (.cond none (.no) (.no))) (.seq (.blk none (.seq (.seq (.reg 0 [] [] []) (.cond none (.seq (.reg 0 [] [] []) (.no)) (.no))) (.reg 0 [] [] []))) (.reg 0 [] [] [])))))) (.seq (.reg 0 [] [] []) (.no)))))
noncomputable def sem_railref1_Number (n : Nat) (xs : List V) : Option V := if xs.length ≤ 48 then denF Tryz.prog (envOf []) n Tryz.f42 an_railref1_Number xs else none
theorem ok_railref1_Number (n : Nat) : SemOk Tryz.prog DW 42 (sem_railref1_Number n) := fun xs y h => by
 unfold sem_railref1_Number at h
 split at h
 ·rename_i hl
  exact denF_ok stb Tryz.func42 (by kernel_rfl) (envOf_ok semsOk_nil) (by rw [Tryz.ntmps42]; exact hl) h
 ·cases h
theorem eq_railref1_Number (n : Nat) (x0 : V) : sem_railref1_Number n [x0] =
 (bin2 Tryz.prog BinOp.eql 9 (ot 6) (Operand.const (Go.Value.string (ByteArray.mk #[]))) x0 (vt ⟨#[]⟩)).bind fun v1 =>
 (guardV v1 false (some x0)).bind fun v2 =>
 (guardV v1 false ((lenT [v2]).bind fun v3 =>
 some v3)).bind fun v4 =>
 (guardV v1 false ((bin2 Tryz.prog BinOp.gtr 3 (ot 10) (oc 9) v4 (vi 9)).bind fun v5 =>
 some v5)).bind fun v6 =>
 (pickV v1 (vb true) v6).bind fun v7 =>
 (guardV v7 false (some x0)).bind fun v8 =>
 (guardV v7 false ((scal2 Tryz.prog (Instr.index 9) v8 (vi 0)).bind fun v9 =>
 some v9)).bind fun v10 =>
 (guardV v7 false ((bin2 Tryz.prog BinOp.eql 5 (ot 15) (Operand.const (Go.Value.int Go.IntKind.u8 48)) v10 (V.lit (Go.Value.int Go.IntKind.u8 48))).bind fun v11 =>
 some v11)).bind fun v12 =>
 (guardV v7 false (some v12)).bind fun v13 =>
 (guardV v13 true (some x0)).bind fun v14 =>
 (guardV v13 true ((lenT [v14]).bind fun v15 =>
 some v15)).bind fun v16 =>
 (guardV v13 true ((bin2 Tryz.prog BinOp.gtr 3 (ot 19) (oc 1) v16 (vi 1)).bind fun v17 =>
 some v17)).bind fun v18 =>
 (guardV v7 false ((pickV v13 v18 (vb false)).bind fun v19 =>
 some v19)).bind fun v20 =>
 (pickV v7 (vb true) v20).bind fun v21 =>
 condV v21 (
 some (V.tup [(vi 0), (vb false)])) (
 JoinPt (fun vs22 =>
 some (V.tup [(List.getD vs22 0 V.any), (vb true)])) fun J23 =>
 (fixN (fun rec24 vs25 =>
 (lenT [x0]).bind fun v26 =>
 (bin2 Tryz.prog BinOp.lss 3 (ot 23) (ot 25) (List.getD vs25 1 V.any) v26).bind fun v27 =>
 condV v27 (
 (scal2 Tryz.prog (Instr.index 9) x0 (List.getD vs25 1 V.any)).bind fun v28 =>
 (bin2 Tryz.prog BinOp.lss 5 (ot 31) (Operand.const (Go.Value.int Go.IntKind.u8 48)) v28 (V.lit (Go.Value.int Go.IntKind.u8 48))).bind fun v29 =>
 (guardV v29 false (some x0)).bind fun v30 =>
 (guardV v29 false (some (List.getD vs25 1 V.any))).bind fun v31 =>
 (guardV v29 false ((scal2 Tryz.prog (Instr.index 9) v30 v31).bind fun v32 =>
 some v32)).bind fun v33 =>
 (guardV v29 false ((bin2 Tryz.prog BinOp.gtr 5 (ot 36) (Operand.const (Go.Value.int Go.IntKind.u8 57)) v33 (V.lit (Go.Value.int Go.IntKind.u8 57))).bind fun v34 =>
 some v34)).bind fun v35 =>
 (pickV v29 (vb true) v35).bind fun v36 =>
 condV v36 (
 some (V.tup [(vi 0), (vb false)])) (
 (bin2 Tryz.prog BinOp.mul 3 (ot 39) (oc 10) (List.getD vs25 0 V.any) (vi 10)).bind fun v37 =>
 (scal2 Tryz.prog (Instr.index 9) x0 (List.getD vs25 1 V.any)).bind fun v38 =>
 (scal1 Tryz.prog (convert 5 3) v38).bind fun v39 =>
 (bin2 Tryz.prog BinOp.add 3 (ot 40) (ot 44) v37 v39).bind fun v40 =>
 (bin2 Tryz.prog BinOp.sub 3 (ot 45) (oc 48) v40 (vi 48)).bind fun v41 =>
 (bin2 Tryz.prog BinOp.add 3 (ot 27) (oc 1) (List.getD vs25 1 V.any) (vi 1)).bind fun v42 =>
 rec24 [v41, v42])) (
 J23 [(List.getD vs25 0 V.any)])) n) [(vi 0), (vi 0)]) := by kernel_rfl
noncomputable def t_railref1_Number (a0 : ByteArray) : Option (Int × Bool) :=
 (gd (!((decide (a0 = (ByteArray.mk #[]))) || (decide (9 < (a0.size : Int))))) default (sidx a0 0)).bind fun r16 =>
 if (((decide (a0 = (ByteArray.mk #[]))) || (decide (9 < (a0.size : Int)))) || ((decide (r16 = 48)) && (decide (1 < (a0.size : Int))))) = true then (
 some (0, false)) else (
 join (fun (s37 : Int) =>
 some (s37, true)) fun j38 =>
 loopU 0 (a0.size : Int) (fun (i46 : Int) (s42 : Int) k43 =>
 (sidx a0 i46).bind fun r55 =>
 (gd (!(decide (r55 < 48))) default (sidx a0 i46)).bind fun r64 =>
 if ((decide (r55 < 48)) || (decide (57 < r64))) = true then (
 some (0, false)) else (
 (sidx a0 i46).bind fun r72 =>
 k43 (wr ((wr ((wr (s42 * 10)) + (wr r72))) - 48)))) (fun (i46 : Int) (s42 : Int) =>
 j38 (s42)) (0))
theorem ty_railref1_Number {n : Nat} (hn : bigN ≤ n) (a0 : ByteArray) : Rv (fun x : (Int × Bool) => V.tup [(vi x.1), (vb x.2)]) (sem_railref1_Number n [(vt a0)]) (t_railref1_Number a0) := by
 rw [eq_railref1_Number]
 unfold t_railref1_Number; refine tb (x := (vb (decide (a0 = (ByteArray.mk #[]))))) (p_eql_str) ?_; refine tg_f (x := (vt a0)) (fun h2 => rfl) ?_; refine tg_f (x := (vi (a0.size : Int))) (fun h4 => by simp only [gv_t h4]; exact bind_some_eq (rfl)) ?_; refine tg_f (x := (vb (decide (9 < (a0.size : Int))))) (fun h7 => by simp only [gv_t h7]; exact bind_some_eq (d_gtr)) ?_; refine tb (x := (vb ((decide (a0 = (ByteArray.mk #[]))) || (decide (9 < (a0.size : Int)))))) (pick_or (fun h9 => gv_t (not_f h9))) ?_; refine tg_f (x := (vt a0)) (fun h11 => rfl) ?_; refine tgo_f (fun h13 => by simp only [gv_t h13]; exact rf_bind_some (p_sidx (Tryz.underlying9) a0 0)) fun r16 => ?_; refine tg_f (x := (vb (decide (r16 = 48)))) (fun h17 => by simp only [gv_t h17]; exact bind_some_eq (q_eql)) ?_; refine tg_f (x := (vb (decide (r16 = 48)))) (fun h20 => congrArg some (gv_t h20)) ?_; refine tg2 (x := (vt a0)) (fun h22 => rfl) ?_; refine tg2 (x := (vi (a0.size : Int))) (fun h24 => by simp only [gv_t h24]; exact bind_some_eq (rfl)) ?_; refine tg2 (x := (vb (decide (1 < (a0.size : Int))))) (fun h27 => by simp only [gv_t h27]; exact bind_some_eq (d_gtr)) ?_; refine tg_f (x := (vb ((decide (r16 = 48)) && (decide (1 < (a0.size : Int)))))) (fun h30 => by simp only [gv_t h30]; exact bind_some_eq (pick_and (fun h9 => gv_t (and_i h30 h9)))) ?_; refine tb (x := (vb (((decide (a0 = (ByteArray.mk #[]))) || (decide (9 < (a0.size : Int)))) || ((decide (r16 = 48)) && (decide (1 < (a0.size : Int))))))) (pick_or (fun h9 => gv_t (not_f h9))) ?_; refine tcond (fun h34 => ?_) (fun h34 => ?_)
 ·exact rf_ret rfl
 ·refine tjoin (mk := fun s37 : Int => [(vi s37)]) (fun s37 => ?_) fun J36 j38 h39 => ?_
  ·exact rf_ret rfl
  ·refine rf_loopU (mk := fun (i46 : Int) (s42 : Int) => [(vi s42), (vi i46)]) hn _ _ (0) (fun i46 h47 h48 h49 s42 rec40 k43 h44 => ?_) (fun i46 s42 rec51 h50 => ?_)
   ·refine tb (x := (vi (a0.size : Int))) (rfl) ?_; refine tb (x := (vb (decide (i46 < (a0.size : Int))))) (d_lss) ?_; refine tcond_t h47 ?_; refine tbo (p_sidx (Tryz.underlying9) a0 i46) fun r55 => ?_; refine tb (x := (vb (decide (r55 < 48)))) (q_lss) ?_; refine tg_f (x := (vt a0)) (fun h57 => rfl) ?_; refine tg_f (x := (vi i46)) (fun h59 => rfl) ?_; refine tgo_f (fun h61 => by simp only [gv_t h61]; exact rf_bind_some (p_sidx (Tryz.underlying9) a0 i46)) fun r64 => ?_; refine tg_f (x := (vb (decide (57 < r64)))) (fun h65 => by simp only [gv_t h65]; exact bind_some_eq (q_gtr)) ?_; refine tb (x := (vb ((decide (r55 < 48)) || (decide (57 < r64))))) (pick_or (fun h9 => gv_t (not_f h9))) ?_; refine tcond (fun h69 => ?_) (fun h69 => ?_)
    ·exact rf_ret rfl
    ·refine tb (x := (vi (wr (s42 * 10)))) (d_mul) ?_; refine tbo (p_sidx (Tryz.underlying9) a0 i46) fun r72 => ?_; refine tb (x := (vi (wr r72))) (scal1_lit (r := .int .i64 (IntKind.i64.wrap r72)) rfl (fun w => by kernel_rfl) rfl) ?_; refine tb (x := (vi (wr ((wr (s42 * 10)) + (wr r72))))) (d_add) ?_; refine tb (x := (vi (wr ((wr ((wr (s42 * 10)) + (wr r72))) - 48)))) (d_sub) ?_; refine tb (x := (vi (i46 + 1))) (p_inc h48 h49) ?_; exact h44 (wr ((wr ((wr (s42 * 10)) + (wr r72))) - 48))
   ·refine tb (x := (vi (a0.size : Int))) (rfl) ?_; refine tb (x := (vb (decide (i46 < (a0.size : Int))))) (d_lss) ?_; refine tcond_f h50 ?_; exact h39 (s42)
def an_railref1_ReadWish : Ann := .seq (.reg 0 [] [] []) (.seq (.seq (.reg 0 [] [] []) (.cond none (.seq (.reg 0 [] [] []) (.no)) (.no))) (.seq (.reg 0 [] [] []) (.seq (.seq (.reg 0 [] [] []) (.cond none (.seq (.reg 0 [] [] []) (.no)) (.no))) (.seq (.reg 8 [] [] []) (.seq (.seq (.reg 0 [] [] []) (.cond (some [.kb 2, .b 5]) (.reg 0 [] [] []) (.no))) (.seq (.seq (.reg 0 [] [] []) (.cond (some [.kb 2, .b 5]) (.reg 0 [] [] []) (.no))) (.seq (.seq (.reg 0 [] [] []) (.cond (some [.kb 2, .b 5]) (.reg 0 [] [] []) (.no))) (.seq (.seq (.reg 0 [] [] []) (.cond (some [.b 2, .b 5]) (.seq (.reg 0 [] [] []) (.seq (.seq (.reg 0 [] [] []) (.cond none (.seq (.reg 0 [] [] []) (.no)) (.no))) (.reg 0 [] [] []))) (.no))) (.seq (.reg 0 [] [] []) (.seq (.seq (.reg 0 [] [] []) (.cond none (.seq (.reg 0 [] [] []) (.no)) (.no))) (.seq (.reg 0 [] [] []) (.no))))))))))))
noncomputable def sem_railref1_ReadWish (n : Nat) (xs : List V) : Option V := if xs.length ≤ 79 then denF Tryz.prog (envOf [(41, (sem_railref1_Cut n)), (42, (sem_railref1_Number n)), (24, (sem_railref1_ShowWish n))]) n Tryz.f26 an_railref1_ReadWish xs else none
theorem ok_railref1_ReadWish (n : Nat) : SemOk Tryz.prog DW 26 (sem_railref1_ReadWish n) := fun xs y h => by
 unfold sem_railref1_ReadWish at h
 split at h
 ·rename_i hl
  exact denF_ok stb Tryz.func26 (by kernel_rfl) (envOf_ok (semsOk_cons (ok_railref1_Cut n) (semsOk_cons (ok_railref1_Number n) (semsOk_cons (ok_railref1_ShowWish n) semsOk_nil)))) (by rw [Tryz.ntmps26]; exact hl) h
 ·cases h
theorem eq_railref1_ReadWish (n : Nat) (x0 : V) : sem_railref1_ReadWish n [x0] =
 (bin2 Tryz.prog BinOp.eql 9 (ot 10) (Operand.const (Go.Value.string (ByteArray.mk #[108, 111, 111, 112, 115]))) x0 (vt ⟨#[108, 111, 111, 112, 115]⟩)).bind fun v1 =>
 condV v1 (
 ((fillL [(vi 0), (vt ⟨#[]⟩), (vt ⟨#[]⟩), (vi 0)] [(0, 1, (vi 4))]).map V.agg).bind fun v2 =>
 (spliceV [(vi 0), (vt ⟨#[]⟩), (vt ⟨#[]⟩), (vi 0)] 0 4 v2).bind fun v3 =>
 (ldk (some 4) (List.drop 0 (aggL v3))).bind fun v4 =>
 some (V.tup [v4, (vb true)])) (
 ((sem_railref1_Cut n) [x0, (V.lit (Go.Value.int Go.IntKind.u8 32))]).bind fun v5 =>
 (lenS [v5]).bind fun v6 =>
 (bin2 Tryz.prog BinOp.neq 3 (ot 16) (oc 3) v6 (vi 3)).bind fun v7 =>
 (guardV v7 true (some v5)).bind fun v8 =>
 (guardV v7 true ((lenS [v8]).bind fun v9 =>
 some v9)).bind fun v10 =>
 (guardV v7 true ((bin2 Tryz.prog BinOp.neq 3 (ot 20) (oc 4) v10 (vi 4)).bind fun v11 =>
 some v11)).bind fun v12 =>
 (pickV v7 v12 (vb false)).bind fun v13 =>
 condV v13 (
 ((fillL [(vi 0), (vt ⟨#[]⟩), (vt ⟨#[]⟩), (vi 0)] []).map V.agg).bind fun v14 =>
 (spliceV [(vi 0), (vt ⟨#[]⟩), (vt ⟨#[]⟩), (vi 0)] 0 4 v14).bind fun v15 =>
 (ldk (some 4) (List.drop 0 (aggL v15))).bind fun v16 =>
 some (V.tup [v16, (vb false)])) (
 (idxS 1 v5 (vi 1)).bind fun v17 =>
 (ldp none v17).bind fun v18 =>
 (idxS 1 v5 (vi 2)).bind fun v19 =>
 (ldp none v19).bind fun v20 =>
 ((fillL [(vi 0), (vt ⟨#[]⟩), (vt ⟨#[]⟩), (vi 0)] [(1, 1, v18), (2, 1, v20)]).map V.agg).bind fun v21 =>
 (spliceV [(vi 0), (vt ⟨#[]⟩), (vt ⟨#[]⟩), (vi 0)] 0 4 v21).bind fun v22 =>
 (idxS 1 v5 (vi 0)).bind fun v23 =>
 (ldp none v23).bind fun v24 =>
 (bin2 Tryz.prog BinOp.eql 9 (ot 33) (Operand.const (Go.Value.string (ByteArray.mk #[114, 101, 97, 99, 104]))) v24 (vt ⟨#[114, 101, 97, 99, 104]⟩)).bind fun v25 =>
 JoinPt (fun vs26 =>
 (idxS 1 v5 (vi 0)).bind fun v28 =>
 (ldp none v28).bind fun v29 =>
 (bin2 Tryz.prog BinOp.eql 9 (ot 38) (Operand.const (Go.Value.string (ByteArray.mk #[97, 112, 97, 114, 116]))) v29 (vt ⟨#[97, 112, 97, 114, 116]⟩)).bind fun v30 =>
 JoinPt (fun vs31 =>
 (idxS 1 v5 (vi 0)).bind fun v33 =>
 (ldp none v33).bind fun v34 =>
 (bin2 Tryz.prog BinOp.eql 9 (ot 43) (Operand.const (Go.Value.string (ByteArray.mk #[119, 97, 121]))) v34 (vt ⟨#[119, 97, 121]⟩)).bind fun v35 =>
 JoinPt (fun vs36 =>
 (lenS [v5]).bind fun v38 =>
 (bin2 Tryz.prog BinOp.eql 3 (ot 47) (oc 4) v38 (vi 4)).bind fun v39 =>
 JoinPt (fun vs40 =>
 (ldk (some 4) (List.drop 0 (aggL (List.getD vs40 1 V.any)))).bind fun v42 =>
 ((sem_railref1_ShowWish n) [v42]).bind fun v43 =>
 (extractV v43 0).bind fun v44 =>
 (extractV v43 1).bind fun v45 =>
 (bin2 Tryz.prog BinOp.neq 3 (ot 75) (oc 0) v45 (vi 0)).bind fun v46 =>
 condV v46 (
 ((fillL [(vi 0), (vt ⟨#[]⟩), (vt ⟨#[]⟩), (vi 0)] []).map V.agg).bind fun v47 =>
 (spliceV (aggL (List.getD vs40 0 V.any)) 0 4 v47).bind fun v48 =>
 (ldk (some 4) (List.drop 0 (aggL v48))).bind fun v49 =>
 some (V.tup [v49, (vb false)])) (
 (ldk (some 4) (List.drop 0 (aggL (List.getD vs40 1 V.any)))).bind fun v50 =>
 (spliceV (aggL (List.getD vs40 0 V.any)) 0 4 v50).bind fun v51 =>
 (ldk (some 4) (List.drop 0 (aggL v51))).bind fun v52 =>
 some (V.tup [v52, (vb true)]))) fun J41 =>
 condV v39 (
 (idxS 1 v5 (vi 3)).bind fun v53 =>
 (ldp none v53).bind fun v54 =>
 ((sem_railref1_Number n) [v54]).bind fun v55 =>
 (extractV v55 0).bind fun v56 =>
 (extractV v55 1).bind fun v57 =>
 (scal1 Tryz.prog (Op.unary Go.UnOp.not) v57).bind fun v58 =>
 (guardV v58 false (some V.any)).bind fun v59 =>
 (guardV v58 false ((gate v58 false (ldk none (List.drop 0 (aggL (List.getD vs36 0 V.any))))).bind fun v60 =>
 some v60)).bind fun v61 =>
 (guardV v58 false ((bin2 Tryz.prog BinOp.neq 3 (ot 60) (oc 3) v61 (vi 3)).bind fun v62 =>
 some v62)).bind fun v63 =>
 (pickV v58 (vb true) v63).bind fun v64 =>
 (guardV v64 false (some v56)).bind fun v65 =>
 (guardV v64 false ((bin2 Tryz.prog BinOp.eql 3 (ot 64) (oc 0) v65 (vi 0)).bind fun v66 =>
 some v66)).bind fun v67 =>
 (pickV v64 (vb true) v67).bind fun v68 =>
 condV v68 (
 ((fillL [(vi 0), (vt ⟨#[]⟩), (vt ⟨#[]⟩), (vi 0)] []).map V.agg).bind fun v69 =>
 (spliceV [(vi 0), (vt ⟨#[]⟩), (vt ⟨#[]⟩), (vi 0)] 0 4 v69).bind fun v70 =>
 (ldk (some 4) (List.drop 0 (aggL v70))).bind fun v71 =>
 some (V.tup [v71, (vb false)])) (
 (spliceV (aggL (List.getD vs36 0 V.any)) 3 1 v56).bind fun v72 =>
 J41 [(V.agg [(vi 0), (vt ⟨#[]⟩), (vt ⟨#[]⟩), (vi 0)]), (V.agg (aggL v72))])) (
 J41 [(V.agg [(vi 0), (vt ⟨#[]⟩), (vt ⟨#[]⟩), (vi 0)]), (V.agg (aggL (List.getD vs36 0 V.any)))])) fun J37 =>
 condV v35 (
 (spliceV (aggL (List.getD vs31 0 V.any)) 0 1 (vi 3)).bind fun v73 =>
 (keepO (some [(vi 0), (vt ⟨#[]⟩), (vt ⟨#[]⟩), (vi 0)]) (some [(vi 0), (vt ⟨#[]⟩), (vt ⟨#[]⟩), (vi 0)]) (some [(V.agg (aggL v73))])).bind J37) (
 (keepO (some [(vi 0), (vt ⟨#[]⟩), (vt ⟨#[]⟩), (vi 0)]) (some [(vi 0), (vt ⟨#[]⟩), (vt ⟨#[]⟩), (vi 0)]) (some [(V.agg (aggL (List.getD vs31 0 V.any)))])).bind J37)) fun J32 =>
 condV v30 (
 (spliceV (aggL (List.getD vs26 0 V.any)) 0 1 (vi 2)).bind fun v74 =>
 (keepO (some [(vi 0), (vt ⟨#[]⟩), (vt ⟨#[]⟩), (vi 0)]) (some [(vi 0), (vt ⟨#[]⟩), (vt ⟨#[]⟩), (vi 0)]) (some [(V.agg (aggL v74))])).bind J32) (
 (keepO (some [(vi 0), (vt ⟨#[]⟩), (vt ⟨#[]⟩), (vi 0)]) (some [(vi 0), (vt ⟨#[]⟩), (vt ⟨#[]⟩), (vi 0)]) (some [(V.agg (aggL (List.getD vs26 0 V.any)))])).bind J32)) fun J27 =>
 condV v25 (
 (spliceV (aggL v22) 0 1 (vi 1)).bind fun v75 =>
 (keepO (some [(vi 0), (vt ⟨#[]⟩), (vt ⟨#[]⟩), (vi 0)]) (some [(vi 0), (vt ⟨#[]⟩), (vt ⟨#[]⟩), (vi 0)]) (some [(V.agg (aggL v75))])).bind J27) (
 (keepO (some [(vi 0), (vt ⟨#[]⟩), (vt ⟨#[]⟩), (vi 0)]) (some [(vi 0), (vt ⟨#[]⟩), (vt ⟨#[]⟩), (vi 0)]) (some [(V.agg (aggL v22))])).bind J27))) := by kernel_rfl
noncomputable def t_railref1_ReadWish (a0 : ByteArray) : Option (T_Wish × Bool) :=
 if (decide (a0 = (ByteArray.mk #[108, 111, 111, 112, 115]))) = true then (
 some ((T_Wish.mk 4 (ByteArray.mk #[]) (ByteArray.mk #[]) 0), true)) else (
 (t_railref1_Cut a0 32).bind fun r7 =>
 if ((decide ((List.length r7 : Int) ≠ 3)) && (decide ((List.length r7 : Int) ≠ 4))) = true then (
 some ((T_Wish.mk 0 (ByteArray.mk #[]) (ByteArray.mk #[]) 0), false)) else (
 (idx r7 1).bind fun r24 =>
 (idx r7 2).bind fun r27 =>
 (idx r7 0).bind fun r32 =>
 (if (decide (r32 = (ByteArray.mk #[114, 101, 97, 99, 104]))) = true then (
 some (T_Wish.mk 1 r24 r27 0)) else (
 some (T_Wish.mk 0 r24 r27 0))).bind fun (s37 : T_Wish) =>
 (idx r7 0).bind fun r41 =>
 (if (decide (r41 = (ByteArray.mk #[97, 112, 97, 114, 116]))) = true then (
 some (T_Wish.mk 2 s37.From s37.To s37.Via)) else (
 some (s37))).bind fun (s46 : T_Wish) =>
 (idx r7 0).bind fun r50 =>
 (if (decide (r50 = (ByteArray.mk #[119, 97, 121]))) = true then (
 some (T_Wish.mk 3 s46.From s46.To s46.Via)) else (
 some (s46))).bind fun (s55 : T_Wish) =>
 join (fun (s62 : (T_Wish × T_Wish)) =>
 (t_railref1_ShowWish s62.2).bind fun r67 =>
 if (decide (r67.2 ≠ 0)) = true then (
 some ((T_Wish.mk 0 (ByteArray.mk #[]) (ByteArray.mk #[]) 0), false)) else (
 some (s62.2, true))) fun j63 =>
 if (decide ((List.length r7 : Int) = 4)) = true then (
 (idx r7 3).bind fun r80 =>
 (t_railref1_Number r80).bind fun r83 =>
 if (((!r83.2) || (decide (s55.What ≠ 3))) || (decide (r83.1 = 0))) = true then (
 some ((T_Wish.mk 0 (ByteArray.mk #[]) (ByteArray.mk #[]) 0), false)) else (
 j63 ((T_Wish.mk 0 (ByteArray.mk #[]) (ByteArray.mk #[]) 0), (T_Wish.mk s55.What s55.From s55.To r83.1)))) else (
 j63 ((T_Wish.mk 0 (ByteArray.mk #[]) (ByteArray.mk #[]) 0), s55))))
theorem ty_railref1_ReadWish {n : Nat} (hn : bigN ≤ n) (a0 : ByteArray) : Rv (fun x : (T_Wish × Bool) => V.tup [(T_Wish.e x.1), (vb x.2)]) (sem_railref1_ReadWish n [(vt a0)]) (t_railref1_ReadWish a0) := by
 rw [eq_railref1_ReadWish]
 unfold t_railref1_ReadWish; refine tb (x := (vb (decide (a0 = (ByteArray.mk #[108, 111, 111, 112, 115]))))) (p_eql_str) ?_; refine tcond (fun h2 => ?_) (fun h2 => ?_)
 ·refine tb (x := (T_Wish.e (T_Wish.mk 4 (ByteArray.mk #[]) (ByteArray.mk #[]) 0))) (by kernel_rfl) ?_; refine tb (x := V.agg (T_Wish.c (T_Wish.mk 4 (ByteArray.mk #[]) (ByteArray.mk #[]) 0))) (by kernel_rfl) ?_; refine tb (x := (T_Wish.e (T_Wish.mk 4 (ByteArray.mk #[]) (ByteArray.mk #[]) 0))) rfl ?_; exact rf_ret rfl
 ·refine tbo (ty_railref1_Cut hn a0 32) fun r7 => ?_; refine tb (x := (vi (List.length r7 : Int))) (p_len _) ?_; refine tb (x := (vb (decide ((List.length r7 : Int) ≠ 3)))) (d_neq) ?_; refine tg (x := (V.sl (List.map cT r7))) (fun h10 => rfl) ?_; refine tg (x := (vi (List.length r7 : Int))) (fun h12 => by simp only [gv_t h12]; exact bind_some_eq (p_len _)) ?_; refine tg (x := (vb (decide ((List.length r7 : Int) ≠ 4)))) (fun h15 => by simp only [gv_t h15]; exact bind_some_eq (d_neq)) ?_; refine tb (x := (vb ((decide ((List.length r7 : Int) ≠ 3)) && (decide ((List.length r7 : Int) ≠ 4))))) (pick_and (fun h9 => gv_t h9)) ?_; refine tcond (fun h19 => ?_) (fun h19 => ?_)
  ·refine tb (x := (T_Wish.e (T_Wish.mk 0 (ByteArray.mk #[]) (ByteArray.mk #[]) 0))) (by kernel_rfl) ?_; refine tb (x := V.agg (T_Wish.c (T_Wish.mk 0 (ByteArray.mk #[]) (ByteArray.mk #[]) 0))) (by kernel_rfl) ?_; refine tb (x := (T_Wish.e (T_Wish.mk 0 (ByteArray.mk #[]) (ByteArray.mk #[]) 0))) rfl ?_; exact rf_ret rfl
  ·refine tbo (p_idx (c := cT) (fun _ => rfl) r7 1) fun r24 => ?_; refine tb (x := (vt r24)) (rfl) ?_; refine tbo (p_idx (c := cT) (fun _ => rfl) r7 2) fun r27 => ?_; refine tb (x := (vt r27)) (rfl) ?_; refine tb (x := (T_Wish.e (T_Wish.mk 0 r24 r27 0))) (by kernel_rfl) ?_; refine tb (x := V.agg (T_Wish.c (T_Wish.mk 0 r24 r27 0))) (by kernel_rfl) ?_; refine tbo (p_idx (c := cT) (fun _ => rfl) r7 0) fun r32 => ?_; refine tb (x := (vt r32)) (rfl) ?_; refine tb (x := (vb (decide (r32 = (ByteArray.mk #[114, 101, 97, 99, 104]))))) (p_eql_str) ?_; refine tjb (mk := fun s37 : T_Wish => [(V.agg (T_Wish.c s37))]) (fun J36 => ?_) fun s37 => ?_
   ·refine tcond (fun h111 => ?_) (fun h111 => ?_)
    ·refine tb (x := V.agg (T_Wish.c (T_Wish.mk 1 r24 r27 0))) (by kernel_rfl) ?_; refine tkeepO2 ?_ rfl; refine tsome ?_; exact rf_j rfl
    ·refine tkeepO2 ?_ rfl; refine tsome ?_; exact rf_j rfl
   ·refine tbo (p_idx (c := cT) (fun _ => rfl) r7 0) fun r41 => ?_; refine tb (x := (vt r41)) (rfl) ?_; refine tb (x := (vb (decide (r41 = (ByteArray.mk #[97, 112, 97, 114, 116]))))) (p_eql_str) ?_; refine tjb (mk := fun s46 : T_Wish => [(V.agg (T_Wish.c s46))]) (fun J45 => ?_) fun s46 => ?_
    ·refine tcond (fun h109 => ?_) (fun h109 => ?_)
     ·refine tb (x := V.agg (T_Wish.c (T_Wish.mk 2 s37.From s37.To s37.Via))) (by kernel_rfl) ?_; refine tkeepO2 ?_ rfl; refine tsome ?_; exact rf_j rfl
     ·refine tkeepO2 ?_ rfl; refine tsome ?_; exact rf_j rfl
    ·refine tbo (p_idx (c := cT) (fun _ => rfl) r7 0) fun r50 => ?_; refine tb (x := (vt r50)) (rfl) ?_; refine tb (x := (vb (decide (r50 = (ByteArray.mk #[119, 97, 121]))))) (p_eql_str) ?_; refine tjb (mk := fun s55 : T_Wish => [(V.agg (T_Wish.c s55))]) (fun J54 => ?_) fun s55 => ?_
     ·refine tcond (fun h107 => ?_) (fun h107 => ?_)
      ·refine tb (x := V.agg (T_Wish.c (T_Wish.mk 3 s46.From s46.To s46.Via))) (by kernel_rfl) ?_; refine tkeepO2 ?_ rfl; refine tsome ?_; exact rf_j rfl
      ·refine tkeepO2 ?_ rfl; refine tsome ?_; exact rf_j rfl
     ·refine tb (x := (vi (List.length r7 : Int))) (p_len _) ?_; refine tb (x := (vb (decide ((List.length r7 : Int) = 4)))) (d_eql) ?_; refine tjoin (mk := fun s62 : (T_Wish × T_Wish) => [(V.agg (T_Wish.c s62.1)), (V.agg (T_Wish.c s62.2))]) (fun s62 => ?_) fun J61 j63 h64 => ?_
      ·refine tb (x := (T_Wish.e s62.2)) (rfl) ?_; refine tbo (ty_railref1_ShowWish hn s62.2) fun r67 => ?_; refine tb (x := (vt r67.1)) (rfl) ?_; refine tb (x := (vi r67.2)) (rfl) ?_; refine tb (x := (vb (decide (r67.2 ≠ 0)))) (d_neq) ?_; refine tcond (fun h71 => ?_) (fun h71 => ?_)
       ·refine tb (x := (T_Wish.e (T_Wish.mk 0 (ByteArray.mk #[]) (ByteArray.mk #[]) 0))) (by kernel_rfl) ?_; refine tb (x := V.agg (T_Wish.c (T_Wish.mk 0 (ByteArray.mk #[]) (ByteArray.mk #[]) 0))) (by kernel_rfl) ?_; refine tb (x := (T_Wish.e (T_Wish.mk 0 (ByteArray.mk #[]) (ByteArray.mk #[]) 0))) rfl ?_; exact rf_ret rfl
       ·refine tb (x := (T_Wish.e s62.2)) (rfl) ?_; refine tb (x := V.agg (T_Wish.c s62.2)) (by kernel_rfl) ?_; refine tb (x := (T_Wish.e s62.2)) rfl ?_; exact rf_ret rfl
      ·refine tcond (fun h78 => ?_) (fun h78 => ?_)
       ·refine tbo (p_idx (c := cT) (fun _ => rfl) r7 3) fun r80 => ?_; refine tb (x := (vt r80)) (rfl) ?_; refine tbo (ty_railref1_Number hn r80) fun r83 => ?_; refine tb (x := (vi r83.1)) (rfl) ?_; refine tb (x := (vb r83.2)) (rfl) ?_; refine tb (x := (vb (!r83.2))) (d_not) ?_; refine tg_f (x := V.any) (fun h87 => rfl) ?_; refine tg_f (x := (vi s55.What)) (fun h89 => bind_some_eq (gate_pos (not_t h89) (rfl))) ?_; refine tg_f (x := (vb (decide (s55.What ≠ 3)))) (fun h92 => by simp only [gv_t h92]; exact bind_some_eq (d_neq)) ?_; refine tb (x := (vb ((!r83.2) || (decide (s55.What ≠ 3))))) (pick_or (fun h9 => gv_t (not_f h9))) ?_; refine tg_f (x := (vi r83.1)) (fun h96 => rfl) ?_; refine tg_f (x := (vb (decide (r83.1 = 0)))) (fun h98 => by simp only [gv_t h98]; exact bind_some_eq (d_eql)) ?_; refine tb (x := (vb (((!r83.2) || (decide (s55.What ≠ 3))) || (decide (r83.1 = 0))))) (pick_or (fun h9 => gv_t (not_f h9))) ?_; refine tcond (fun h102 => ?_) (fun h102 => ?_)
        ·refine tb (x := (T_Wish.e (T_Wish.mk 0 (ByteArray.mk #[]) (ByteArray.mk #[]) 0))) (by kernel_rfl) ?_; refine tb (x := V.agg (T_Wish.c (T_Wish.mk 0 (ByteArray.mk #[]) (ByteArray.mk #[]) 0))) (by kernel_rfl) ?_; refine tb (x := (T_Wish.e (T_Wish.mk 0 (ByteArray.mk #[]) (ByteArray.mk #[]) 0))) rfl ?_; exact rf_ret rfl
        ·refine tb (x := V.agg (T_Wish.c (T_Wish.mk s55.What s55.From s55.To r83.1))) (by kernel_rfl) ?_; exact h64 ((T_Wish.mk 0 (ByteArray.mk #[]) (ByteArray.mk #[]) 0), (T_Wish.mk s55.What s55.From s55.To r83.1))
       ·exact h64 ((T_Wish.mk 0 (ByteArray.mk #[]) (ByteArray.mk #[]) 0), s55)
def an_wish_Parse : Ann := .seq (.reg 0 [] [] []) (.seq (.reg 0 [] [] []) (.seq (.reg 0 [] [] []) (.seq (.reg 7 [] [] []) (.seq (.seq (.reg 0 [] [] []) (.cond (some [.kb 2, .b 5]) (.reg 74 [] [] []) (.no))) (.seq (.seq (.reg 0 [] [] []) (.cond (some [.kb 2, .b 5]) (.reg 0 [] [] []) (.no))) (.seq (.reg 0 [] [] []) (.seq (.seq (.reg 0 [] [] []) (.cond none (.seq (.reg 0 [] [] []) (.no)) (.no))) (.seq (.reg 0 [] [] []) (.no)))))))))
noncomputable def sem_wish_Parse (n : Nat) (xs : List V) : Option V := if xs.length ≤ 54 then denF Tryz.prog (envOf [(45, (semSplit)), (60, (sem_WIndex)), (61, (sem_Number)), (25, (sem_WPrint n))]) n Tryz.f27 an_wish_Parse xs else none
theorem ok_wish_Parse (n : Nat) : SemOk Tryz.prog DW 27 (sem_wish_Parse n) := fun xs y h => by
 unfold sem_wish_Parse at h
 split at h
 ·rename_i hl
  exact denF_ok stb Tryz.func27 (by kernel_rfl) (envOf_ok (semsOk_cons (ok_Split) (semsOk_cons (ok_WIndex) (semsOk_cons (ok_Number) (semsOk_cons (ok_WPrint n) semsOk_nil))))) (by rw [Tryz.ntmps27]; exact hl) h
 ·cases h
theorem eq_wish_Parse (n : Nat) (x0 : V) : sem_wish_Parse n [x0] =
 ((semSplit) [x0, (vt ⟨#[32]⟩)]).bind fun v1 =>
 (glslc 5 (V.lit (Go.Value.pointer (some ⟨0, 0, none⟩)))).bind fun v2 =>
 (idxS 1 v1 (vi 0)).bind fun v3 =>
 (ldp none v3).bind fun v4 =>
 ((sem_WIndex) [v2, v4]).bind fun v5 =>
 (scal2 Tryz.prog (fun u v => Builtin.max_ #[3, 3] 3 #[u, v]) (vi 0) v5).bind fun v6 =>
 (spliceV [(vi 0), (vt ⟨#[]⟩), (vt ⟨#[]⟩), (vi 0)] 0 1 v6).bind fun v7 =>
 (lenS [v1]).bind fun v8 =>
 (bin2 Tryz.prog BinOp.gtr 3 (ot 18) (oc 2) v8 (vi 2)).bind fun v9 =>
 JoinPt (fun vs10 =>
 (lenS [v1]).bind fun v12 =>
 (bin2 Tryz.prog BinOp.eql 3 (ot 29) (oc 4) v12 (vi 4)).bind fun v13 =>
 JoinPt (fun vs14 =>
 (ldk (some 4) (List.drop 0 (aggL (List.getD vs14 0 V.any)))).bind fun v16 =>
 ((sem_WPrint n) [v16]).bind fun v17 =>
 (extractV v17 0).bind fun v18 =>
 (extractV v17 1).bind fun v19 =>
 (bin2 Tryz.prog BinOp.neq 31 (ot 44) (Operand.const Go.Value.nilIface) v19 vn).bind fun v20 =>
 (guardV v20 false (some v18)).bind fun v21 =>
 (guardV v20 false (some x0)).bind fun v22 =>
 (guardV v20 false ((bin2 Tryz.prog BinOp.neq 9 (ot 47) (ot 48) v21 v22).bind fun v23 =>
 some v23)).bind fun v24 =>
 (pickV v20 (vb true) v24).bind fun v25 =>
 condV v25 (
 ((fillL [(vi 0), (vt ⟨#[]⟩), (vt ⟨#[]⟩), (vi 0)] []).map V.agg).bind fun v26 =>
 (scal1 Tryz.prog (Instr.makeInterface 86) (vi 2)).bind fun v27 =>
 (spliceV [(vi 0), (vt ⟨#[]⟩), (vt ⟨#[]⟩), (vi 0)] 0 4 v26).bind fun v28 =>
 (ldk (some 4) (List.drop 0 (aggL v28))).bind fun v29 =>
 some (V.tup [v29, v27])) (
 (ldk (some 4) (List.drop 0 (aggL (List.getD vs14 0 V.any)))).bind fun v30 =>
 (spliceV [(vi 0), (vt ⟨#[]⟩), (vt ⟨#[]⟩), (vi 0)] 0 4 v30).bind fun v31 =>
 (ldk (some 4) (List.drop 0 (aggL v31))).bind fun v32 =>
 some (V.tup [v32, vn]))) fun J15 =>
 condV v13 (
 (idxS 1 v1 (vi 3)).bind fun v33 =>
 (ldp none v33).bind fun v34 =>
 ((sem_Number) [v34]).bind fun v35 =>
 (extractV v35 0).bind fun v36 =>
 (extractV v35 1).bind fun v37 =>
 (spliceV (aggL (List.getD vs10 0 V.any)) 3 1 v36).bind fun v38 =>
 (keepO (some [(vi 0), (vt ⟨#[]⟩), (vt ⟨#[]⟩), (vi 0)]) (some [(vi 0), (vt ⟨#[]⟩), (vt ⟨#[]⟩), (vi 0)]) (some [(V.agg (aggL v38))])).bind J15) (
 (keepO (some [(vi 0), (vt ⟨#[]⟩), (vt ⟨#[]⟩), (vi 0)]) (some [(vi 0), (vt ⟨#[]⟩), (vt ⟨#[]⟩), (vi 0)]) (some [(V.agg (aggL (List.getD vs10 0 V.any)))])).bind J15)) fun J11 =>
 condV v9 (
 (idxS 1 v1 (vi 1)).bind fun v39 =>
 (ldp none v39).bind fun v40 =>
 (litV v40).bind fun v41 =>
 (idxS 1 v1 (vi 2)).bind fun v42 =>
 (ldp none v42).bind fun v43 =>
 (litV v43).bind fun v44 =>
 (spliceV (aggL v7) 1 1 v41).bind fun v45 =>
 (spliceV (aggL v45) 2 1 v44).bind fun v46 =>
 (keepO (some [(vi 0), (vt ⟨#[]⟩), (vt ⟨#[]⟩), (vi 0)]) (some [(vi 0), (vt ⟨#[]⟩), (vt ⟨#[]⟩), (vi 0)]) (some [(V.agg (aggL v46))])).bind J11) (
 (keepO (some [(vi 0), (vt ⟨#[]⟩), (vt ⟨#[]⟩), (vi 0)]) (some [(vi 0), (vt ⟨#[]⟩), (vt ⟨#[]⟩), (vi 0)]) (some [(V.agg (aggL v7))])).bind J11) := by kernel_rfl
noncomputable def t_wish_Parse (a0 : ByteArray) : Option (T_Wish × Int) :=
 (t_Split a0 (ByteArray.mk #[32])).bind fun r2 =>
 (idx r2 0).bind fun r5 =>
 (t_WIndex () r5).bind fun r8 =>
 (if (decide (2 < (List.length r2 : Int))) = true then (
 (idx r2 1).bind fun r58 =>
 (idx r2 2).bind fun r62 =>
 some (T_Wish.mk (max 0 r8) r58 r62 0)) else (
 some (T_Wish.mk (max 0 r8) (ByteArray.mk #[]) (ByteArray.mk #[]) 0))).bind fun (s15 : T_Wish) =>
 (if (decide ((List.length r2 : Int) = 4)) = true then (
 (idx r2 3).bind fun r49 =>
 (t_rule_Number r49).bind fun r52 =>
 some (T_Wish.mk s15.What s15.From s15.To r52.1)) else (
 some (s15))).bind fun (s22 : T_Wish) =>
 (t_wish_Print s22).bind fun r27 =>
 if ((!decide (r27.2 = 0)) || (!decide (r27.1 = a0))) = true then (
 some ((T_Wish.mk 0 (ByteArray.mk #[]) (ByteArray.mk #[]) 0), 2)) else (
 some (s22, 0))
theorem ty_wish_Parse {n : Nat} (hn : bigN ≤ n) (a0 : ByteArray) : Rv (fun x : (T_Wish × Int) => V.tup [(T_Wish.e x.1), (eV x.2)]) (sem_wish_Parse n [(vt a0)]) (t_wish_Parse a0) := by
 rw [eq_wish_Parse]
 unfold t_wish_Parse; refine tbo (ty_Split a0 (ByteArray.mk #[32])) fun r2 => ?_; refine tb (x := (V.lit (Go.Value.slice (some ⟨0, 0, none⟩) 5 5))) (rfl) ?_; refine tbo (p_idx (c := cT) (fun _ => rfl) r2 0) fun r5 => ?_; refine tb (x := (vt r5)) (rfl) ?_; refine tbo (ty_WIndex () r5) fun r8 => ?_; refine tb (x := (vi (max 0 r8))) (p_max) ?_; refine tb (x := V.agg (T_Wish.c (T_Wish.mk (max 0 r8) (ByteArray.mk #[]) (ByteArray.mk #[]) 0))) (by kernel_rfl) ?_; refine tb (x := (vi (List.length r2 : Int))) (p_len _) ?_; refine tb (x := (vb (decide (2 < (List.length r2 : Int))))) (d_gtr) ?_; refine tjb (mk := fun s15 : T_Wish => [(V.agg (T_Wish.c s15))]) (fun J14 => ?_) fun s15 => ?_
 ·refine tcond (fun h56 => ?_) (fun h56 => ?_)
  ·refine tbo (p_idx (c := cT) (fun _ => rfl) r2 1) fun r58 => ?_; refine tb (x := (vt r58)) (rfl) ?_; refine tb (x := (vt r58)) rfl ?_; refine tbo (p_idx (c := cT) (fun _ => rfl) r2 2) fun r62 => ?_; refine tb (x := (vt r62)) (rfl) ?_; refine tb (x := (vt r62)) rfl ?_; refine tb (x := V.agg (T_Wish.c (T_Wish.mk (max 0 r8) r58 (ByteArray.mk #[]) 0))) (by kernel_rfl) ?_; refine tb (x := V.agg (T_Wish.c (T_Wish.mk (max 0 r8) r58 r62 0))) (by kernel_rfl) ?_; refine tkeepO2 ?_ rfl; refine tsome ?_; exact rf_j rfl
  ·refine tkeepO2 ?_ rfl; refine tsome ?_; exact rf_j rfl
 ·refine tb (x := (vi (List.length r2 : Int))) (p_len _) ?_; refine tb (x := (vb (decide ((List.length r2 : Int) = 4)))) (d_eql) ?_; refine tjb (mk := fun s22 : T_Wish => [(V.agg (T_Wish.c s22))]) (fun J21 => ?_) fun s22 => ?_
  ·refine tcond (fun h47 => ?_) (fun h47 => ?_)
   ·refine tbo (p_idx (c := cT) (fun _ => rfl) r2 3) fun r49 => ?_; refine tb (x := (vt r49)) (rfl) ?_; refine tbo (ty_rule_Number r49) fun r52 => ?_; refine tb (x := (vi r52.1)) (rfl) ?_; refine tb (x := (vb r52.2)) (rfl) ?_; refine tb (x := V.agg (T_Wish.c (T_Wish.mk s15.What s15.From s15.To r52.1))) (by kernel_rfl) ?_; refine tkeepO2 ?_ rfl; refine tsome ?_; exact rf_j rfl
   ·refine tkeepO2 ?_ rfl; refine tsome ?_; exact rf_j rfl
  ·refine tb (x := (T_Wish.e s22)) (rfl) ?_; refine tbo (ty_wish_Print s22) fun r27 => ?_; refine tb (x := (vt r27.1)) (rfl) ?_; refine tb (x := (eV r27.2)) (rfl) ?_; refine tb (x := (vb (!decide (r27.2 = 0)))) (p_err_neq _) ?_; refine tg_f (x := (vt r27.1)) (fun h31 => rfl) ?_; refine tg_f (x := (vt a0)) (fun h33 => rfl) ?_; refine tg_f (x := (vb (!decide (r27.1 = a0)))) (fun h35 => by simp only [gv_t h35]; exact bind_some_eq (p_neq_str)) ?_; refine tb (x := (vb ((!decide (r27.2 = 0)) || (!decide (r27.1 = a0))))) (pick_or (fun h9 => gv_t (not_f h9))) ?_; refine tcond (fun h39 => ?_) (fun h39 => ?_)
   ·refine tb (x := (T_Wish.e (T_Wish.mk 0 (ByteArray.mk #[]) (ByteArray.mk #[]) 0))) (by kernel_rfl) ?_; refine tb (x := (eV 2)) (p_mkE (by decide)) ?_; refine tb (x := V.agg (T_Wish.c (T_Wish.mk 0 (ByteArray.mk #[]) (ByteArray.mk #[]) 0))) (by kernel_rfl) ?_; refine tb (x := (T_Wish.e (T_Wish.mk 0 (ByteArray.mk #[]) (ByteArray.mk #[]) 0))) rfl ?_; exact rf_ret rfl
   ·refine tb (x := (T_Wish.e s22)) (rfl) ?_; refine tb (x := V.agg (T_Wish.c s22)) (by kernel_rfl) ?_; refine tb (x := (T_Wish.e s22)) rfl ?_; exact rf_ret rfl
def an_railref1_Header : Ann := .seq (.reg 0 [] [] []) (.seq (.reg 0 [] [] []) (.no))
noncomputable def sem_railref1_Header (n : Nat) (xs : List V) : Option V := if xs.length ≤ 9 then denF Tryz.prog (envOf []) n Tryz.f12 an_railref1_Header xs else none
theorem ok_railref1_Header (n : Nat) : SemOk Tryz.prog DW 12 (sem_railref1_Header n) := fun xs y h => by
 unfold sem_railref1_Header at h
 split at h
 ·rename_i hl
  exact denF_ok stb Tryz.func12 (by kernel_rfl) (envOf_ok semsOk_nil) (by rw [Tryz.ntmps12]; exact hl) h
 ·cases h
theorem eq_railref1_Header (n : Nat) (x0 : V) : sem_railref1_Header n [x0] =
 (bin2 Tryz.prog BinOp.geq 3 (ot 3) (oc 0) x0 (vi 0)).bind fun v1 =>
 (guardV v1 true (some x0)).bind fun v2 =>
 (guardV v1 true ((bin2 Tryz.prog BinOp.lss 3 (ot 6) (oc 16) v2 (vi 16)).bind fun v3 =>
 some v3)).bind fun v4 =>
 (pickV v1 v4 (vb false)).bind fun v5 =>
 some v5 := by kernel_rfl
noncomputable def t_railref1_Header (a0 : Int) : Option Bool :=
 some ((decide (0 ≤ a0)) && (decide (a0 < 16)))
theorem ty_railref1_Header {n : Nat} (hn : bigN ≤ n) (a0 : Int) : Rv (fun x : Bool => (vb x)) (sem_railref1_Header n [(vi a0)]) (t_railref1_Header a0) := by
 rw [eq_railref1_Header]
 unfold t_railref1_Header; refine tb (x := (vb (decide (0 ≤ a0)))) (d_geq) ?_; refine tg (x := (vi a0)) (fun h2 => rfl) ?_; refine tg (x := (vb (decide (a0 < 16)))) (fun h4 => by simp only [gv_t h4]; exact bind_some_eq (d_lss)) ?_; refine tb (x := (vb ((decide (0 ≤ a0)) && (decide (a0 < 16))))) (pick_and (fun h9 => gv_t h9)) ?_; exact rf_ret rfl
def an_railref1_Cube : Ann := .seq (.reg 0 [] [] []) (.seq (.reg 0 [] [] []) (.seq (.reg 0 [] [] []) (.seq (.seq (.reg 0 [] [] []) (.cond none (.seq (.reg 0 [] [] []) (.no)) (.no))) (.seq (.seq (.reg 0 [] [] []) (.cond none (.seq (.reg 0 [] [] []) (.no)) (.no))) (.seq (.reg 0 [] [] []) (.no))))))
noncomputable def sem_railref1_Cube (n : Nat) (xs : List V) : Option V := if xs.length ≤ 25 then denF Tryz.prog (envOf [(12, (sem_railref1_Header n))]) n Tryz.f33 an_railref1_Cube xs else none
theorem ok_railref1_Cube (n : Nat) : SemOk Tryz.prog DW 33 (sem_railref1_Cube n) := fun xs y h => by
 unfold sem_railref1_Cube at h
 split at h
 ·rename_i hl
  exact denF_ok stb Tryz.func33 (by kernel_rfl) (envOf_ok (semsOk_cons (ok_railref1_Header n) semsOk_nil)) (by rw [Tryz.ntmps33]; exact hl) h
 ·cases h
theorem eq_railref1_Cube (n : Nat) (x0 : V) : sem_railref1_Cube n [x0] =
 (V.cellsO x0).bind fun v1 =>
 (ldk none (List.drop 0 v1)).bind fun v2 =>
 ((sem_railref1_Header n) [v2]).bind fun v3 =>
 (ldk none (List.drop 1 v1)).bind fun v4 =>
 ((sem_railref1_Header n) [v4]).bind fun v5 =>
 (scal1 Tryz.prog (Op.unary Go.UnOp.not) v3).bind fun v6 =>
 (guardV v6 false (some v5)).bind fun v7 =>
 (guardV v6 false ((scal1 Tryz.prog (Op.unary Go.UnOp.not) v7).bind fun v8 =>
 some v8)).bind fun v9 =>
 (pickV v6 (vb true) v9).bind fun v10 =>
 condV v10 (
 some (vi 1)) (
 (ldk none (List.drop 1 v1)).bind fun v11 =>
 (ldk none (List.drop 0 v1)).bind fun v12 =>
 (bin2 Tryz.prog BinOp.and 3 (ot 18) (ot 20) v11 v12).bind fun v13 =>
 (ldk none (List.drop 1 v1)).bind fun v14 =>
 (bin2 Tryz.prog BinOp.neq 3 (ot 21) (ot 23) v13 v14).bind fun v15 =>
 condV v15 (
 some (vi 3)) (
 some (vi 0))) := by kernel_rfl
noncomputable def t_railref1_Cube (a0 : T_Cube) : Option Int :=
 (t_railref1_Header a0.Mask).bind fun r4 =>
 (t_railref1_Header a0.Bits).bind fun r7 =>
 if ((!r4) || (!r7)) = true then (
 some 1) else (
 if (decide ((bits .and .i64 a0.Bits a0.Mask) ≠ a0.Bits)) = true then (
 some 3) else (
 some 0))
theorem ty_railref1_Cube {n : Nat} (hn : bigN ≤ n) (a0 : T_Cube) : Rv (fun x : Int => (vi x)) (sem_railref1_Cube n [(T_Cube.e a0)]) (t_railref1_Cube a0) := by
 rw [eq_railref1_Cube]
 unfold t_railref1_Cube; refine tb (x := (T_Cube.c a0)) rfl ?_; refine tb (x := (vi a0.Mask)) (rfl) ?_; refine tbo (ty_railref1_Header hn a0.Mask) fun r4 => ?_; refine tb (x := (vi a0.Bits)) (rfl) ?_; refine tbo (ty_railref1_Header hn a0.Bits) fun r7 => ?_; refine tb (x := (vb (!r4))) (d_not) ?_; refine tg_f (x := (vb r7)) (fun h9 => rfl) ?_; refine tg_f (x := (vb (!r7))) (fun h11 => by simp only [gv_t h11]; exact bind_some_eq (d_not)) ?_; refine tb (x := (vb ((!r4) || (!r7)))) (pick_or (fun h9 => gv_t (not_f h9))) ?_; refine tcond (fun h15 => ?_) (fun h15 => ?_)
 ·exact rf_ret rfl
 ·refine tb (x := (vi a0.Bits)) (rfl) ?_; refine tb (x := (vi a0.Mask)) (rfl) ?_; refine tb (x := (vi (bits .and .i64 a0.Bits a0.Mask))) (d_and) ?_; refine tb (x := (vi a0.Bits)) (rfl) ?_; refine tb (x := (vb (decide ((bits .and .i64 a0.Bits a0.Mask) ≠ a0.Bits)))) (d_neq) ?_; refine tcond (fun h21 => ?_) (fun h21 => ?_)
  ·exact rf_ret rfl
  ·exact rf_ret rfl
def an_railref1_Rule : Ann := .seq (.reg 0 [] [] []) (.seq (.reg 0 [] [] []) (.seq (.reg 0 [] [] []) (.seq (.seq (.reg 0 [] [] []) (.cond none (.seq (.reg 0 [] [] []) (.no)) (.no))) (.seq (.reg 0 [] [] []) (.seq (.seq (.reg 0 [] [] []) (.cond none (.seq (.reg 0 [] [] []) (.no)) (.no))) (.seq (.seq (.reg 0 [] [] []) (.cond none (.seq (.reg 0 [] [] []) (.no)) (.no))) (.seq (.reg 0 [] [] []) (.no))))))))
noncomputable def sem_railref1_Rule (n : Nat) (xs : List V) : Option V := if xs.length ≤ 61 then denF Tryz.prog (envOf [(12, (sem_railref1_Header n)), (33, (sem_railref1_Cube n))]) n Tryz.f5 an_railref1_Rule xs else none
theorem ok_railref1_Rule (n : Nat) : SemOk Tryz.prog DW 5 (sem_railref1_Rule n) := fun xs y h => by
 unfold sem_railref1_Rule at h
 split at h
 ·rename_i hl
  exact denF_ok stb Tryz.func5 (by kernel_rfl) (envOf_ok (semsOk_cons (ok_railref1_Header n) (semsOk_cons (ok_railref1_Cube n) semsOk_nil))) (by rw [Tryz.ntmps5]; exact hl) h
 ·cases h
theorem eq_railref1_Rule (n : Nat) (x0 : V) : sem_railref1_Rule n [x0] =
 (V.cellsO x0).bind fun v1 =>
 (ldk none (List.drop 4 v1)).bind fun v2 =>
 ((sem_railref1_Header n) [v2]).bind fun v3 =>
 (ldk none (List.drop 5 v1)).bind fun v4 =>
 ((sem_railref1_Header n) [v4]).bind fun v5 =>
 (ldk none (List.drop 0 v1)).bind fun v6 =>
 (bin2 Tryz.prog BinOp.lss 3 (ot 13) (oc 0) v6 (vi 0)).bind fun v7 =>
 (guardV v7 false (some V.any)).bind fun v8 =>
 (guardV v7 false ((gate v7 false (ldk none (List.drop 0 v1))).bind fun v9 =>
 some v9)).bind fun v10 =>
 (guardV v7 false ((bin2 Tryz.prog BinOp.gtr 3 (ot 17) (oc 99) v10 (vi 99)).bind fun v11 =>
 some v11)).bind fun v12 =>
 (pickV v7 (vb true) v12).bind fun v13 =>
 (guardV v13 false (some V.any)).bind fun v14 =>
 (guardV v13 false ((gate v13 false (ldk none (List.drop 3 v1))).bind fun v15 =>
 some v15)).bind fun v16 =>
 (guardV v13 false ((bin2 Tryz.prog BinOp.lss 3 (ot 22) (oc 0) v16 (vi 0)).bind fun v17 =>
 some v17)).bind fun v18 =>
 (pickV v13 (vb true) v18).bind fun v19 =>
 (guardV v19 false (some V.any)).bind fun v20 =>
 (guardV v19 false ((gate v19 false (ldk none (List.drop 3 v1))).bind fun v21 =>
 some v21)).bind fun v22 =>
 (guardV v19 false ((bin2 Tryz.prog BinOp.gtr 3 (ot 27) (oc 4) v22 (vi 4)).bind fun v23 =>
 some v23)).bind fun v24 =>
 (pickV v19 (vb true) v24).bind fun v25 =>
 (guardV v25 false (some v3)).bind fun v26 =>
 (guardV v25 false ((scal1 Tryz.prog (Op.unary Go.UnOp.not) v26).bind fun v27 =>
 some v27)).bind fun v28 =>
 (pickV v25 (vb true) v28).bind fun v29 =>
 (guardV v29 false (some v5)).bind fun v30 =>
 (guardV v29 false ((scal1 Tryz.prog (Op.unary Go.UnOp.not) v30).bind fun v31 =>
 some v31)).bind fun v32 =>
 (pickV v29 (vb true) v32).bind fun v33 =>
 condV v33 (
 some (vi 1)) (
 (ldk (some 2) (List.drop 1 v1)).bind fun v34 =>
 ((sem_railref1_Cube n) [v34]).bind fun v35 =>
 (bin2 Tryz.prog BinOp.neq 3 (ot 41) (oc 0) v35 (vi 0)).bind fun v36 =>
 condV v36 (
 some v35) (
 (ldk none (List.drop 4 v1)).bind fun v37 =>
 (ldk none (List.drop 5 v1)).bind fun v38 =>
 ((fillL [(vi 0), (vi 0)] [(0, 1, v37), (1, 1, v38)]).map V.agg).bind fun v39 =>
 ((sem_railref1_Cube n) [v39]).bind fun v40 =>
 (bin2 Tryz.prog BinOp.neq 3 (ot 49) (oc 0) v40 (vi 0)).bind fun v41 =>
 (guardV v41 false (some V.any)).bind fun v42 =>
 (guardV v41 false ((gate v41 false (ldk none (List.drop 3 v1))).bind fun v43 =>
 some v43)).bind fun v44 =>
 (guardV v41 false ((bin2 Tryz.prog BinOp.eql 3 (ot 53) (oc 0) v44 (vi 0)).bind fun v45 =>
 some v45)).bind fun v46 =>
 (guardV v41 false (some v46)).bind fun v47 =>
 (guardV v47 true (some V.any)).bind fun v48 =>
 (guardV v47 true ((gate v47 true (ldk none (List.drop 4 v1))).bind fun v49 =>
 some v49)).bind fun v50 =>
 (guardV v47 true ((bin2 Tryz.prog BinOp.neq 3 (ot 57) (oc 0) v50 (vi 0)).bind fun v51 =>
 some v51)).bind fun v52 =>
 (guardV v41 false ((pickV v47 v52 (vb false)).bind fun v53 =>
 some v53)).bind fun v54 =>
 (pickV v41 (vb true) v54).bind fun v55 =>
 condV v55 (
 some (vi 3)) (
 some (vi 0)))) := by kernel_rfl
noncomputable def t_railref1_Rule (a0 : T_Rule) : Option Int :=
 (t_railref1_Header a0.Set).bind fun r4 =>
 (t_railref1_Header a0.Value).bind fun r7 =>
 if ((((((decide (a0.Prio < 0)) || (decide (99 < a0.Prio))) || (decide (a0.Out < 0))) || (decide (4 < a0.Out))) || (!r4)) || (!r7)) = true then (
 some 1) else (
 (t_railref1_Cube a0.Cube).bind fun r52 =>
 if (decide (r52 ≠ 0)) = true then (
 some r52) else (
 (t_railref1_Cube (T_Cube.mk a0.Set a0.Value)).bind fun r59 =>
 if ((decide (r59 ≠ 0)) || ((decide (a0.Out = 0)) && (decide (a0.Set ≠ 0)))) = true then (
 some 3) else (
 some 0)))
theorem ty_railref1_Rule {n : Nat} (hn : bigN ≤ n) (a0 : T_Rule) : Rv (fun x : Int => (vi x)) (sem_railref1_Rule n [(T_Rule.e a0)]) (t_railref1_Rule a0) := by
 rw [eq_railref1_Rule]
 unfold t_railref1_Rule; refine tb (x := (T_Rule.c a0)) rfl ?_; refine tb (x := (vi a0.Set)) (rfl) ?_; refine tbo (ty_railref1_Header hn a0.Set) fun r4 => ?_; refine tb (x := (vi a0.Value)) (rfl) ?_; refine tbo (ty_railref1_Header hn a0.Value) fun r7 => ?_; refine tb (x := (vi a0.Prio)) (rfl) ?_; refine tb (x := (vb (decide (a0.Prio < 0)))) (d_lss) ?_; refine tg_f (x := V.any) (fun h10 => rfl) ?_; refine tg_f (x := (vi a0.Prio)) (fun h12 => bind_some_eq (gate_pos (not_t h12) (rfl))) ?_; refine tg_f (x := (vb (decide (99 < a0.Prio)))) (fun h15 => by simp only [gv_t h15]; exact bind_some_eq (d_gtr)) ?_; refine tb (x := (vb ((decide (a0.Prio < 0)) || (decide (99 < a0.Prio))))) (pick_or (fun h9 => gv_t (not_f h9))) ?_; refine tg_f (x := V.any) (fun h19 => rfl) ?_; refine tg_f (x := (vi a0.Out)) (fun h21 => bind_some_eq (gate_pos (not_t h21) (rfl))) ?_; refine tg_f (x := (vb (decide (a0.Out < 0)))) (fun h24 => by simp only [gv_t h24]; exact bind_some_eq (d_lss)) ?_; refine tb (x := (vb (((decide (a0.Prio < 0)) || (decide (99 < a0.Prio))) || (decide (a0.Out < 0))))) (pick_or (fun h9 => gv_t (not_f h9))) ?_; refine tg_f (x := V.any) (fun h28 => rfl) ?_; refine tg_f (x := (vi a0.Out)) (fun h30 => bind_some_eq (gate_pos (not_t h30) (rfl))) ?_; refine tg_f (x := (vb (decide (4 < a0.Out)))) (fun h33 => by simp only [gv_t h33]; exact bind_some_eq (d_gtr)) ?_; refine tb (x := (vb ((((decide (a0.Prio < 0)) || (decide (99 < a0.Prio))) || (decide (a0.Out < 0))) || (decide (4 < a0.Out))))) (pick_or (fun h9 => gv_t (not_f h9))) ?_; refine tg_f (x := (vb r4)) (fun h37 => rfl) ?_; refine tg_f (x := (vb (!r4))) (fun h39 => by simp only [gv_t h39]; exact bind_some_eq (d_not)) ?_; refine tb (x := (vb (((((decide (a0.Prio < 0)) || (decide (99 < a0.Prio))) || (decide (a0.Out < 0))) || (decide (4 < a0.Out))) || (!r4)))) (pick_or (fun h9 => gv_t (not_f h9))) ?_; refine tg_f (x := (vb r7)) (fun h43 => rfl) ?_; refine tg_f (x := (vb (!r7))) (fun h45 => by simp only [gv_t h45]; exact bind_some_eq (d_not)) ?_; refine tb (x := (vb ((((((decide (a0.Prio < 0)) || (decide (99 < a0.Prio))) || (decide (a0.Out < 0))) || (decide (4 < a0.Out))) || (!r4)) || (!r7)))) (pick_or (fun h9 => gv_t (not_f h9))) ?_; refine tcond (fun h49 => ?_) (fun h49 => ?_)
 ·exact rf_ret rfl
 ·refine tb (x := (T_Cube.e a0.Cube)) (rfl) ?_; refine tbo (ty_railref1_Cube hn a0.Cube) fun r52 => ?_; refine tb (x := (vb (decide (r52 ≠ 0)))) (d_neq) ?_; refine tcond (fun h54 => ?_) (fun h54 => ?_)
  ·exact rf_ret rfl
  ·refine tb (x := (vi a0.Set)) (rfl) ?_; refine tb (x := (vi a0.Value)) (rfl) ?_; refine tb (x := (T_Cube.e (T_Cube.mk a0.Set a0.Value))) (by kernel_rfl) ?_; refine tbo (ty_railref1_Cube hn (T_Cube.mk a0.Set a0.Value)) fun r59 => ?_; refine tb (x := (vb (decide (r59 ≠ 0)))) (d_neq) ?_; refine tg_f (x := V.any) (fun h61 => rfl) ?_; refine tg_f (x := (vi a0.Out)) (fun h63 => bind_some_eq (gate_pos (not_t h63) (rfl))) ?_; refine tg_f (x := (vb (decide (a0.Out = 0)))) (fun h66 => by simp only [gv_t h66]; exact bind_some_eq (d_eql)) ?_; refine tg_f (x := (vb (decide (a0.Out = 0)))) (fun h69 => congrArg some (gv_t h69)) ?_; refine tg2 (x := V.any) (fun h71 => rfl) ?_; refine tg2 (x := (vi a0.Set)) (fun h73 => bind_some_eq (gate_pos2 (and_l h73) (and_r h73) (rfl))) ?_; refine tg2 (x := (vb (decide (a0.Set ≠ 0)))) (fun h76 => by simp only [gv_t h76]; exact bind_some_eq (d_neq)) ?_; refine tg_f (x := (vb ((decide (a0.Out = 0)) && (decide (a0.Set ≠ 0))))) (fun h79 => by simp only [gv_t h79]; exact bind_some_eq (pick_and (fun h9 => gv_t (and_i h79 h9)))) ?_; refine tb (x := (vb ((decide (r59 ≠ 0)) || ((decide (a0.Out = 0)) && (decide (a0.Set ≠ 0)))))) (pick_or (fun h9 => gv_t (not_f h9))) ?_; refine tcond (fun h83 => ?_) (fun h83 => ?_)
   ·exact rf_ret rfl
   ·exact rf_ret rfl
def an_railref1_Table : Ann := .seq (.reg 0 [] [] []) (.seq (.seq (.reg 0 [] [] []) (.cond none (.seq (.reg 0 [] [] []) (.no)) (.no))) (.seq (.seq (.reg 0 [] [] []) (.blk (some []) (.loop [.s 3] (.seq (.seq (.reg 0 [] [] []) (.cond none (.no) (.no))) (.seq (.blk (some []) (.seq (.reg 0 [] [] []) (.seq (.seq (.reg 0 [] [] []) (.cond none (.seq (.reg 0 [] [] []) (.no)) (.no))) (.seq (.reg 0 [] [] []) (.blk (some []) (.loop [.s 5] (.seq (.seq (.reg 0 [] [] []) (.cond none (.no) (.no))) (.seq (.blk none (.seq (.reg 24 [] [] []) (.cond none (.seq (.reg 0 [] [] []) (.no)) (.no)))) (.reg 0 [] [] []))))))))) (.reg 0 [] [] [])))))) (.seq (.reg 0 [] [] []) (.no))))
noncomputable def sem_railref1_Table (n : Nat) (xs : List V) : Option V := if xs.length ≤ 52 then denF Tryz.prog (envOf [(5, (sem_railref1_Rule n))]) n Tryz.f16 an_railref1_Table xs else none
theorem ok_railref1_Table (n : Nat) : SemOk Tryz.prog DW 16 (sem_railref1_Table n) := fun xs y h => by
 unfold sem_railref1_Table at h
 split at h
 ·rename_i hl
  exact denF_ok stb Tryz.func16 (by kernel_rfl) (envOf_ok (semsOk_cons (ok_railref1_Rule n) semsOk_nil)) (by rw [Tryz.ntmps16]; exact hl) h
 ·cases h
theorem eq_railref1_Table (n : Nat) (x0 : V) : sem_railref1_Table n [x0] =
 (lenS [x0]).bind fun v1 =>
 (bin2 Tryz.prog BinOp.gtr 3 (ot 7) (oc 12) v1 (vi 12)).bind fun v2 =>
 condV v2 (
 some (vi 4)) (
 JoinPt (fun vs3 =>
 some (vi 0)) fun J4 =>
 (fixN (fun rec5 vs6 =>
 (lenS [x0]).bind fun v7 =>
 (bin2 Tryz.prog BinOp.lss 3 (ot 9) (ot 11) (List.getD vs6 0 V.any) v7).bind fun v8 =>
 condV v8 (
 JoinPt (fun vs9 =>
 (bin2 Tryz.prog BinOp.add 3 (ot 13) (oc 1) (List.getD vs6 0 V.any) (vi 1)).bind fun v11 =>
 rec5 [v11]) fun J10 =>
 (idxS 6 x0 (List.getD vs6 0 V.any)).bind fun v12 =>
 (ldp (some 6) v12).bind fun v13 =>
 ((sem_railref1_Rule n) [v13]).bind fun v14 =>
 (bin2 Tryz.prog BinOp.neq 3 (ot 20) (oc 0) v14 (vi 0)).bind fun v15 =>
 condV v15 (
 some v14) (
 JoinPt (fun vs16 =>
 J10 []) fun J17 =>
 (fixN (fun rec18 vs19 =>
 (bin2 Tryz.prog BinOp.lss 3 (ot 23) (ot 24) (List.getD vs19 0 V.any) (List.getD vs6 0 V.any)).bind fun v20 =>
 condV v20 (
 (idxS 6 x0 (List.getD vs19 0 V.any)).bind fun v21 =>
 (ptrF 0 v21).bind fun v22 =>
 (ldp none v22).bind fun v23 =>
 (idxS 6 x0 (List.getD vs6 0 V.any)).bind fun v24 =>
 (ptrF 0 v24).bind fun v25 =>
 (ldp none v25).bind fun v26 =>
 (bin2 Tryz.prog BinOp.eql 3 (ot 32) (ot 37) v23 v26).bind fun v27 =>
 (guardV v27 true (some x0)).bind fun v28 =>
 (guardV v27 true (some (List.getD vs19 0 V.any))).bind fun v29 =>
 (guardV v27 true ((idxS 6 v28 v29).bind fun v30 =>
 some v30)).bind fun v31 =>
 (guardV v27 true ((ptrF 1 v31).bind fun v32 =>
 some v32)).bind fun v33 =>
 (guardV v27 true ((ldp (some 2) v33).bind fun v34 =>
 some v34)).bind fun v35 =>
 (guardV v27 true (some x0)).bind fun v36 =>
 (guardV v27 true (some (List.getD vs6 0 V.any))).bind fun v37 =>
 (guardV v27 true ((idxS 6 v36 v37).bind fun v38 =>
 some v38)).bind fun v39 =>
 (guardV v27 true ((ptrF 1 v39).bind fun v40 =>
 some v40)).bind fun v41 =>
 (guardV v27 true ((ldp (some 2) v41).bind fun v42 =>
 some v42)).bind fun v43 =>
 (guardV v27 true ((bin2 Tryz.prog BinOp.eql 23 (ot 44) (ot 49) v35 v43).bind fun v44 =>
 some v44)).bind fun v45 =>
 (pickV v27 v45 (vb false)).bind fun v46 =>
 condV v46 (
 some (vi 7)) (
 (bin2 Tryz.prog BinOp.add 3 (ot 26) (oc 1) (List.getD vs19 0 V.any) (vi 1)).bind fun v47 =>
 rec18 [v47])) (
 J17 [])) n) [(vi 0)])) (
 J4 [])) n) [(vi 0)]) := by kernel_rfl
noncomputable def t_railref1_Table (a0 : (List T_Rule)) : Option Int :=
 if (decide (12 < (List.length a0 : Int))) = true then (
 some 4) else (
 join (fun (s6 : Unit) =>
 some 0) fun j7 =>
 loopI a0 (fun (i15 : Int) x16 (s11 : Unit) k12 =>
 join (fun (s24 : Unit) =>
 k12 ()) fun j25 =>
 (t_railref1_Rule x16).bind fun r31 =>
 if (decide (r31 ≠ 0)) = true then (
 some r31) else (
 join (fun (s36 : Unit) =>
 j25 ()) fun j37 =>
 loopU 0 i15 (fun (i45 : Int) (s41 : Unit) k42 =>
 (idx a0 i45).bind fun r53 =>
 (gd (decide (r53.Prio = x16.Prio)) default (idx a0 i45)).bind fun r67 =>
 if ((decide (r53.Prio = x16.Prio)) && (decide (r67.Cube = x16.Cube))) = true then (
 some 7) else (
 k42 ())) (fun (i45 : Int) (s41 : Unit) =>
 j37 ()) ())) (fun (s11 : Unit) =>
 j7 ()) ())
theorem ty_railref1_Table {n : Nat} (hn : bigN ≤ n) (a0 : (List T_Rule)) : Rv (fun x : Int => (vi x)) (sem_railref1_Table n [(V.sl (List.map T_Rule.c a0))]) (t_railref1_Table a0) := by
 rw [eq_railref1_Table]
 unfold t_railref1_Table; refine tb (x := (vi (List.length a0 : Int))) (p_len _) ?_; refine tb (x := (vb (decide (12 < (List.length a0 : Int))))) (d_gtr) ?_; refine tcond (fun h3 => ?_) (fun h3 => ?_)
 ·exact rf_ret rfl
 ·refine tjoin (mk := fun s6 : Unit => []) (fun s6 => ?_) fun J5 j7 h8 => ?_
  ·exact rf_ret rfl
  ·refine rf_loopI (mk := fun (i15 : Int) (s11 : Unit) => [(vi (i15 : Int))]) hn a0 () (fun i15 x16 h17 h18 h19 s11 rec9 k12 h13 => ?_) (fun s11 rec95 h94 => ?_)
   ·refine tb (x := (vi (List.length a0 : Int))) (p_len _) ?_; refine tb (x := (vb (decide ((i15 : Int) < (List.length a0 : Int))))) (d_lss) ?_; refine tcond_t h19 ?_; refine tjoin (mk := fun s24 : Unit => []) (fun s24 => ?_) fun J23 j25 h26 => ?_
    ·refine tb (x := (vi ((i15 : Int) + 1))) (p_incN h18) ?_; exact h13 ()
    ·refine tb (x := (V.ptr (T_Rule.c x16))) (p_idx_at (c := T_Rule.c) (fun _ => rfl) h17) ?_; refine tb (x := (T_Rule.e x16)) (rfl) ?_; refine tbo (ty_railref1_Rule hn x16) fun r31 => ?_; refine tb (x := (vb (decide (r31 ≠ 0)))) (d_neq) ?_; refine tcond (fun h33 => ?_) (fun h33 => ?_)
     ·exact rf_ret rfl
     ·refine tjoin (mk := fun s36 : Unit => []) (fun s36 => ?_) fun J35 j37 h38 => ?_
      ·exact h26 ()
      ·refine rf_loopU (mk := fun (i45 : Int) (s41 : Unit) => [(vi i45)]) hn _ _ () (fun i45 h46 h47 h48 s41 rec39 k42 h43 => ?_) (fun i45 s41 rec50 h49 => ?_)
       ·refine tb (x := (vb (decide (i45 < (i15 : Int))))) (d_lss) ?_; refine tcond_t h46 ?_; refine tbo (p_idx (c := T_Rule.c) (fun _ => rfl) a0 i45) fun r53 => ?_; refine tb (x := (V.ptr (T_Rule.c r53))) (rfl) ?_; refine tb (x := (vi r53.Prio)) (rfl) ?_; refine tb (x := (V.ptr (T_Rule.c x16))) (p_idx_at (c := T_Rule.c) (fun _ => rfl) h17) ?_; refine tb (x := (V.ptr (T_Rule.c x16))) (rfl) ?_; refine tb (x := (vi x16.Prio)) (rfl) ?_; refine tb (x := (vb (decide (r53.Prio = x16.Prio)))) (d_eql) ?_; refine tg (x := (V.sl (List.map T_Rule.c a0))) (fun h60 => rfl) ?_; refine tg (x := (vi i45)) (fun h62 => rfl) ?_; refine tgo (fun h64 => by simp only [gv_t h64]; exact rf_bind_some (p_idx (c := T_Rule.c) (fun _ => rfl) a0 i45)) fun r67 => ?_; refine tg (x := (V.ptr (List.drop 1 (T_Rule.c r67)))) (fun h68 => by first | exact bind_some_eq (rfl) | (simp only [gv_t h68]; exact bind_some_eq (rfl))) ?_; refine tg (x := (T_Cube.e r67.Cube)) (fun h71 => by first | exact bind_some_eq (rfl) | (simp only [gv_t h71]; exact bind_some_eq (rfl))) ?_; refine tg (x := (V.sl (List.map T_Rule.c a0))) (fun h74 => rfl) ?_; refine tg (x := (vi (i15 : Int))) (fun h76 => rfl) ?_; refine tg (x := (V.ptr (T_Rule.c x16))) (fun h78 => by simp only [gv_t h78]; exact bind_some_eq (p_idx_at (c := T_Rule.c) (fun _ => rfl) h17)) ?_; refine tg (x := (V.ptr (List.drop 1 (T_Rule.c x16)))) (fun h81 => by first | exact bind_some_eq (rfl) | (simp only [gv_t h81]; exact bind_some_eq (rfl))) ?_; refine tg (x := (T_Cube.e x16.Cube)) (fun h84 => by first | exact bind_some_eq (rfl) | (simp only [gv_t h84]; exact bind_some_eq (rfl))) ?_; refine tg (x := (vb (decide (r67.Cube = x16.Cube)))) (fun h87 => by simp only [gv_t h87]; exact bind_some_eq (T_Cube.eql r67.Cube x16.Cube)) ?_; refine tb (x := (vb ((decide (r53.Prio = x16.Prio)) && (decide (r67.Cube = x16.Cube))))) (pick_and (fun h9 => gv_t h9)) ?_; refine tcond (fun h91 => ?_) (fun h91 => ?_)
        ·exact rf_ret rfl
        ·refine tb (x := (vi (i45 + 1))) (p_inc h47 h48) ?_; exact h43 ()
       ·refine tb (x := (vb (decide (i45 < (i15 : Int))))) (d_lss) ?_; refine tcond_f h49 ?_; exact h38 ()
   ·refine tb (x := (vi (List.length a0 : Int))) (p_len _) ?_; refine tb (x := (vb (decide ((List.length a0 : Int) < (List.length a0 : Int))))) (d_lss) ?_; refine tcond_f h94 ?_; exact h8 ()
def an_railref1_Net : Ann := .seq (.reg 0 [] [] []) (.seq (.reg 0 [] [] []) (.seq (.seq (.reg 0 [] [] []) (.cond none (.seq (.reg 0 [] [] []) (.no)) (.no))) (.seq (.seq (.reg 0 [] [] []) (.cond none (.seq (.reg 0 [] [] []) (.no)) (.no))) (.seq (.seq (.reg 0 [] [] []) (.blk (some []) (.loop [.kb 1, .s 4] (.seq (.seq (.reg 0 [] [] []) (.cond none (.no) (.no))) (.seq (.blk none (.seq (.reg 0 [] [] []) (.seq (.reg 0 [] [] []) (.cond none (.seq (.reg 0 [] [] []) (.no)) (.no))))) (.reg 0 [] [] [])))))) (.seq (.reg 0 [] [] []) (.no))))))
noncomputable def sem_railref1_Net (n : Nat) (xs : List V) : Option V := if xs.length ≤ 34 then denF Tryz.prog (envOf [(55, (sem_railref1_Topo n)), (16, (sem_railref1_Table n))]) n Tryz.f28 an_railref1_Net xs else none
theorem ok_railref1_Net (n : Nat) : SemOk Tryz.prog DW 28 (sem_railref1_Net n) := fun xs y h => by
 unfold sem_railref1_Net at h
 split at h
 ·rename_i hl
  exact denF_ok stb Tryz.func28 (by kernel_rfl) (envOf_ok (semsOk_cons (ok_railref1_Topo n) (semsOk_cons (ok_railref1_Table n) semsOk_nil))) (by rw [Tryz.ntmps28]; exact hl) h
 ·cases h
theorem eq_railref1_Net (n : Nat) (x0 : V) : sem_railref1_Net n [x0] =
 (V.cellsO x0).bind fun v1 =>
 (ldk (some 3) (List.drop 0 v1)).bind fun v2 =>
 ((sem_railref1_Topo n) [v2]).bind fun v3 =>
 (bin2 Tryz.prog BinOp.neq 3 (ot 8) (oc 0) v3 (vi 0)).bind fun v4 =>
 condV v4 (
 some v3) (
 (ldk none (List.drop 3 v1)).bind fun v5 =>
 (lenS [v5]).bind fun v6 =>
 (ldk none (List.drop 0 v1)).bind fun v7 =>
 (bin2 Tryz.prog BinOp.neq 3 (ot 13) (ot 16) v6 v7).bind fun v8 =>
 condV v8 (
 some (vi 3)) (
 JoinPt (fun vs9 =>
 some (vi 0)) fun J10 =>
 (keepO (some v1) (some v1) (some [(vi 0)])).bind (fixN (fun rec11 vs12 =>
 (ldk none (List.drop 3 v1)).bind fun v13 =>
 (lenS [v13]).bind fun v14 =>
 (bin2 Tryz.prog BinOp.lss 3 (ot 18) (ot 21) (List.getD vs12 0 V.any) v14).bind fun v15 =>
 condV v15 (
 (ldk none (List.drop 3 v1)).bind fun v16 =>
 (idxS 1 v16 (List.getD vs12 0 V.any)).bind fun v17 =>
 (ldp none v17).bind fun v18 =>
 ((sem_railref1_Table n) [v18]).bind fun v19 =>
 (bin2 Tryz.prog BinOp.neq 3 (ot 31) (oc 0) v19 (vi 0)).bind fun v20 =>
 condV v20 (
 some v19) (
 (bin2 Tryz.prog BinOp.add 3 (ot 23) (oc 1) (List.getD vs12 0 V.any) (vi 1)).bind fun v21 =>
 (keepO (some v1) (some v1) (some [v21])).bind rec11)) (
 J10 [])) n))) := by kernel_rfl
noncomputable def t_railref1_Net (a0 : T_Net) : Option Int :=
 (t_railref1_Topo a0.Topo).bind fun r4 =>
 if (decide (r4 ≠ 0)) = true then (
 some r4) else (
 if (decide ((List.length a0.Tables : Int) ≠ a0.Topo.Switches)) = true then (
 some 3) else (
 join (fun (s14 : Unit) =>
 some 0) fun j15 =>
 loopI a0.Tables (fun (i23 : Int) x24 (s19 : Unit) k20 =>
 (t_railref1_Table x24).bind fun r35 =>
 if (decide (r35 ≠ 0)) = true then (
 some r35) else (
 k20 ())) (fun (s19 : Unit) =>
 j15 ()) ()))
theorem ty_railref1_Net {n : Nat} (hn : bigN ≤ n) (a0 : T_Net) : Rv (fun x : Int => (vi x)) (sem_railref1_Net n [(T_Net.e a0)]) (t_railref1_Net a0) := by
 rw [eq_railref1_Net]
 unfold t_railref1_Net; refine tb (x := (T_Net.c a0)) rfl ?_; refine tb (x := (T_Topo.e a0.Topo)) (rfl) ?_; refine tbo (ty_railref1_Topo hn a0.Topo) fun r4 => ?_; refine tb (x := (vb (decide (r4 ≠ 0)))) (d_neq) ?_; refine tcond (fun h6 => ?_) (fun h6 => ?_)
 ·exact rf_ret rfl
 ·refine tb (x := (V.sl (List.map (cS T_Rule.c) a0.Tables))) (rfl) ?_; refine tb (x := (vi (List.length a0.Tables : Int))) (p_len _) ?_; refine tb (x := (vi a0.Topo.Switches)) (rfl) ?_; refine tb (x := (vb (decide ((List.length a0.Tables : Int) ≠ a0.Topo.Switches)))) (d_neq) ?_; refine tcond (fun h11 => ?_) (fun h11 => ?_)
  ·exact rf_ret rfl
  ·refine tjoin (mk := fun s14 : Unit => []) (fun s14 => ?_) fun J13 j15 h16 => ?_
   ·exact rf_ret rfl
   ·refine tkeepO2 ?_ rfl; refine tsome ?_; refine rf_loopI (mk := fun (i23 : Int) (s19 : Unit) => [(vi (i23 : Int))]) hn a0.Tables () (fun i23 x24 h25 h26 h27 s19 rec17 k20 h21 => ?_) (fun s19 rec40 h39 => ?_)
    ·refine tb (x := (V.sl (List.map (cS T_Rule.c) a0.Tables))) (rfl) ?_; refine tb (x := (vi (List.length a0.Tables : Int))) (p_len _) ?_; refine tb (x := (vb (decide ((i23 : Int) < (List.length a0.Tables : Int))))) (d_lss) ?_; refine tcond_t h27 ?_; refine tb (x := (V.sl (List.map (cS T_Rule.c) a0.Tables))) (rfl) ?_; refine tb (x := (V.ptr [(V.sl (List.map T_Rule.c x24))])) (p_idx_at (c := (cS T_Rule.c)) (fun _ => rfl) h25) ?_; refine tb (x := (V.sl (List.map T_Rule.c x24))) (rfl) ?_; refine tbo (ty_railref1_Table hn x24) fun r35 => ?_; refine tb (x := (vb (decide (r35 ≠ 0)))) (d_neq) ?_; refine tcond (fun h37 => ?_) (fun h37 => ?_)
     ·exact rf_ret rfl
     ·refine tb (x := (vi ((i23 : Int) + 1))) (p_incN h26) ?_; refine tkeepO2 ?_ rfl; refine tsome ?_; exact h21 ()
    ·refine tb (x := (V.sl (List.map (cS T_Rule.c) a0.Tables))) (rfl) ?_; refine tb (x := (vi (List.length a0.Tables : Int))) (p_len _) ?_; refine tb (x := (vb (decide ((List.length a0.Tables : Int) < (List.length a0.Tables : Int))))) (d_lss) ?_; refine tcond_f h39 ?_; exact h16 ()
def an_railref1_Has : Ann := .seq (.reg 0 [] [] []) (.seq (.reg 0 [] [] []) (.seq (.reg 0 [] [] []) (.no)))
noncomputable def sem_railref1_Has (n : Nat) (xs : List V) : Option V := if xs.length ≤ 23 then denF Tryz.prog (envOf [(12, (sem_railref1_Header n)), (33, (sem_railref1_Cube n))]) n Tryz.f13 an_railref1_Has xs else none
theorem ok_railref1_Has (n : Nat) : SemOk Tryz.prog DW 13 (sem_railref1_Has n) := fun xs y h => by
 unfold sem_railref1_Has at h
 split at h
 ·rename_i hl
  exact denF_ok stb Tryz.func13 (by kernel_rfl) (envOf_ok (semsOk_cons (ok_railref1_Header n) (semsOk_cons (ok_railref1_Cube n) semsOk_nil))) (by rw [Tryz.ntmps13]; exact hl) h
 ·cases h
theorem eq_railref1_Has (n : Nat) (x0 x1 : V) : sem_railref1_Has n [x0, x1] =
 (V.cellsO x0).bind fun v1 =>
 ((sem_railref1_Header n) [x1]).bind fun v2 =>
 (guardV v2 true ((ldk (some 2) (List.drop 0 v1)).bind fun v3 =>
 some v3)).bind fun v4 =>
 (guardV v2 true (((sem_railref1_Cube n) [v4]).bind fun v5 =>
 some v5)).bind fun v6 =>
 (guardV v2 true ((bin2 Tryz.prog BinOp.eql 3 (ot 11) (oc 0) v6 (vi 0)).bind fun v7 =>
 some v7)).bind fun v8 =>
 (pickV v2 v8 (vb false)).bind fun v9 =>
 (guardV v9 true (some x1)).bind fun v10 =>
 (guardV v9 true (some V.any)).bind fun v11 =>
 (guardV v9 true ((gate v9 true (ldk none (List.drop 0 v1))).bind fun v12 =>
 some v12)).bind fun v13 =>
 (guardV v9 true ((bin2 Tryz.prog BinOp.and 3 (ot 15) (ot 17) v10 v13).bind fun v14 =>
 some v14)).bind fun v15 =>
 (guardV v9 true (some V.any)).bind fun v16 =>
 (guardV v9 true ((gate v9 true (ldk none (List.drop 1 v1))).bind fun v17 =>
 some v17)).bind fun v18 =>
 (guardV v9 true ((bin2 Tryz.prog BinOp.eql 3 (ot 18) (ot 20) v15 v18).bind fun v19 =>
 some v19)).bind fun v20 =>
 (pickV v9 v20 (vb false)).bind fun v21 =>
 some v21 := by kernel_rfl
noncomputable def t_railref1_Has (a0 : T_Cube) (a1 : Int) : Option Bool :=
 (t_railref1_Header a1).bind fun r3 =>
 (gd r3 default (t_railref1_Cube a0)).bind fun r10 =>
 some ((r3 && (decide (r10 = 0))) && (decide ((bits .and .i64 a1 a0.Mask) = a0.Bits)))
theorem ty_railref1_Has {n : Nat} (hn : bigN ≤ n) (a0 : T_Cube) (a1 : Int) : Rv (fun x : Bool => (vb x)) (sem_railref1_Has n [(T_Cube.e a0), (vi a1)]) (t_railref1_Has a0 a1) := by
 rw [eq_railref1_Has]
 unfold t_railref1_Has; refine tb (x := (T_Cube.c a0)) rfl ?_; refine tbo (ty_railref1_Header hn a1) fun r3 => ?_; refine tg (x := (T_Cube.e a0)) (fun h4 => bind_some_eq (rfl)) ?_; refine tgo (fun h7 => by simp only [gv_t h7]; exact rf_bind_some (ty_railref1_Cube hn a0)) fun r10 => ?_; refine tg (x := (vb (decide (r10 = 0)))) (fun h11 => by simp only [gv_t h11]; exact bind_some_eq (d_eql)) ?_; refine tb (x := (vb (r3 && (decide (r10 = 0))))) (pick_and (fun h9 => gv_t h9)) ?_; refine tg (x := (vi a1)) (fun h15 => rfl) ?_; refine tg (x := V.any) (fun h17 => rfl) ?_; refine tg (x := (vi a0.Mask)) (fun h19 => bind_some_eq (gate_pos h19 (rfl))) ?_; refine tg (x := (vi (bits .and .i64 a1 a0.Mask))) (fun h22 => by simp only [gv_t h22]; exact bind_some_eq (d_and)) ?_; refine tg (x := V.any) (fun h25 => rfl) ?_; refine tg (x := (vi a0.Bits)) (fun h27 => bind_some_eq (gate_pos h27 (rfl))) ?_; refine tg (x := (vb (decide ((bits .and .i64 a1 a0.Mask) = a0.Bits)))) (fun h30 => by simp only [gv_t h30]; exact bind_some_eq (d_eql)) ?_; refine tb (x := (vb ((r3 && (decide (r10 = 0))) && (decide ((bits .and .i64 a1 a0.Mask) = a0.Bits))))) (pick_and (fun h9 => gv_t h9)) ?_; exact rf_ret rfl
def an_railref1_above : Ann := .seq (.reg 0 [] [] []) (.seq (.seq (.reg 0 [] [] []) (.cond none (.seq (.reg 0 [] [] []) (.no)) (.no))) (.seq (.seq (.reg 0 [] [] []) (.cond none (.seq (.reg 0 [] [] []) (.no)) (.no))) (.seq (.reg 0 [] [] []) (.no))))
noncomputable def sem_railref1_above (n : Nat) (xs : List V) : Option V := if xs.length ≤ 36 then denF Tryz.prog (envOf []) n Tryz.f51 an_railref1_above xs else none
theorem ok_railref1_above (n : Nat) : SemOk Tryz.prog DW 51 (sem_railref1_above n) := fun xs y h => by
 unfold sem_railref1_above at h
 split at h
 ·rename_i hl
  exact denF_ok stb Tryz.func51 (by kernel_rfl) (envOf_ok semsOk_nil) (by rw [Tryz.ntmps51]; exact hl) h
 ·cases h
theorem eq_railref1_above (n : Nat) (x0 x1 : V) : sem_railref1_above n [x0, x1] =
 (V.cellsO x0).bind fun v1 =>
 (V.cellsO x1).bind fun v2 =>
 (ldk none (List.drop 0 v1)).bind fun v3 =>
 (ldk none (List.drop 0 v2)).bind fun v4 =>
 (bin2 Tryz.prog BinOp.neq 3 (ot 6) (ot 8) v3 v4).bind fun v5 =>
 condV v5 (
 (ldk none (List.drop 0 v1)).bind fun v6 =>
 (ldk none (List.drop 0 v2)).bind fun v7 =>
 (bin2 Tryz.prog BinOp.gtr 3 (ot 11) (ot 13) v6 v7).bind fun v8 =>
 some v8) (
 (ldk none (List.drop 1 v1)).bind fun v9 =>
 (ldk none (List.drop 1 v2)).bind fun v10 =>
 (bin2 Tryz.prog BinOp.neq 3 (ot 17) (ot 20) v9 v10).bind fun v11 =>
 condV v11 (
 (ldk none (List.drop 1 v1)).bind fun v12 =>
 (ldk none (List.drop 1 v2)).bind fun v13 =>
 (bin2 Tryz.prog BinOp.gtr 3 (ot 24) (ot 27) v12 v13).bind fun v14 =>
 some v14) (
 (ldk none (List.drop 2 v1)).bind fun v15 =>
 (ldk none (List.drop 2 v2)).bind fun v16 =>
 (bin2 Tryz.prog BinOp.gtr 3 (ot 31) (ot 34) v15 v16).bind fun v17 =>
 some v17)) := by kernel_rfl
noncomputable def t_railref1_above (a0 : T_Rule) (a1 : T_Rule) : Option Bool :=
 if (decide (a0.Prio ≠ a1.Prio)) = true then (
 some (decide (a1.Prio < a0.Prio))) else (
 if (decide (a0.Cube.Mask ≠ a1.Cube.Mask)) = true then (
 some (decide (a1.Cube.Mask < a0.Cube.Mask))) else (
 some (decide (a1.Cube.Bits < a0.Cube.Bits))))
theorem ty_railref1_above {n : Nat} (hn : bigN ≤ n) (a0 : T_Rule) (a1 : T_Rule) : Rv (fun x : Bool => (vb x)) (sem_railref1_above n [(T_Rule.e a0), (T_Rule.e a1)]) (t_railref1_above a0 a1) := by
 rw [eq_railref1_above]
 unfold t_railref1_above; refine tb (x := (T_Rule.c a0)) rfl ?_; refine tb (x := (T_Rule.c a1)) rfl ?_; refine tb (x := (vi a0.Prio)) (rfl) ?_; refine tb (x := (vi a1.Prio)) (rfl) ?_; refine tb (x := (vb (decide (a0.Prio ≠ a1.Prio)))) (d_neq) ?_; refine tcond (fun h6 => ?_) (fun h6 => ?_)
 ·refine tb (x := (vi a0.Prio)) (rfl) ?_; refine tb (x := (vi a1.Prio)) (rfl) ?_; refine tb (x := (vb (decide (a1.Prio < a0.Prio)))) (d_gtr) ?_; exact rf_ret rfl
 ·refine tb (x := (vi a0.Cube.Mask)) (rfl) ?_; refine tb (x := (vi a1.Cube.Mask)) (rfl) ?_; refine tb (x := (vb (decide (a0.Cube.Mask ≠ a1.Cube.Mask)))) (d_neq) ?_; refine tcond (fun h13 => ?_) (fun h13 => ?_)
  ·refine tb (x := (vi a0.Cube.Mask)) (rfl) ?_; refine tb (x := (vi a1.Cube.Mask)) (rfl) ?_; refine tb (x := (vb (decide (a1.Cube.Mask < a0.Cube.Mask)))) (d_gtr) ?_; exact rf_ret rfl
  ·refine tb (x := (vi a0.Cube.Bits)) (rfl) ?_; refine tb (x := (vi a1.Cube.Bits)) (rfl) ?_; refine tb (x := (vb (decide (a1.Cube.Bits < a0.Cube.Bits)))) (d_gtr) ?_; exact rf_ret rfl
def an_railref1_Find : Ann := .seq (.reg 0 [] [] []) (.seq (.reg 0 [] [] []) (.seq (.seq (.reg 0 [] [] []) (.blk (some [.s 5]) (.loop [.s 5, .s 6] (.seq (.seq (.reg 0 [] [] []) (.cond none (.no) (.no))) (.seq (.blk none (.seq (.reg 0 [] [] []) (.seq (.reg 16 [] [] []) (.cond (some [.s 5]) (.reg 0 [] [] []) (.no))))) (.reg 0 [] [] [])))))) (.seq (.reg 0 [] [] []) (.no))))
noncomputable def sem_railref1_Find (n : Nat) (xs : List V) : Option V := if xs.length ≤ 39 then denF Tryz.prog (envOf [(13, (sem_railref1_Has n)), (51, (sem_railref1_above n))]) n Tryz.f18 an_railref1_Find xs else none
theorem ok_railref1_Find (n : Nat) : SemOk Tryz.prog DW 18 (sem_railref1_Find n) := fun xs y h => by
 unfold sem_railref1_Find at h
 split at h
 ·rename_i hl
  exact denF_ok stb Tryz.func18 (by kernel_rfl) (envOf_ok (semsOk_cons (ok_railref1_Has n) (semsOk_cons (ok_railref1_above n) semsOk_nil))) (by rw [Tryz.ntmps18]; exact hl) h
 ·cases h
theorem eq_railref1_Find (n : Nat) (x0 x1 : V) : sem_railref1_Find n [x0, x1] =
 JoinPt (fun vs1 =>
 some (List.getD vs1 0 V.any)) fun J2 =>
 (fixN (fun rec3 vs4 =>
 (lenS [x0]).bind fun v5 =>
 (bin2 Tryz.prog BinOp.lss 3 (ot 8) (ot 10) (List.getD vs4 1 V.any) v5).bind fun v6 =>
 condV v6 (
 (idxS 6 x0 (List.getD vs4 1 V.any)).bind fun v7 =>
 (ptrF 1 v7).bind fun v8 =>
 (ldp (some 2) v8).bind fun v9 =>
 ((sem_railref1_Has n) [v9, x1]).bind fun v10 =>
 (guardV v10 true (some (List.getD vs4 0 V.any))).bind fun v11 =>
 (guardV v10 true ((bin2 Tryz.prog BinOp.lss 3 (ot 23) (oc 0) v11 (vi 0)).bind fun v12 =>
 some v12)).bind fun v13 =>
 (guardV v10 true (some v13)).bind fun v14 =>
 (guardV v14 false (some x0)).bind fun v15 =>
 (guardV v14 false (some (List.getD vs4 1 V.any))).bind fun v16 =>
 (guardV v14 false ((idxS 6 v15 v16).bind fun v17 =>
 some v17)).bind fun v18 =>
 (guardV v14 false ((ldp (some 6) v18).bind fun v19 =>
 some v19)).bind fun v20 =>
 (guardV v14 false (some x0)).bind fun v21 =>
 (guardV v14 false (some (List.getD vs4 0 V.any))).bind fun v22 =>
 (guardV v14 false ((idxS 6 v21 v22).bind fun v23 =>
 some v23)).bind fun v24 =>
 (guardV v14 false ((ldp (some 6) v24).bind fun v25 =>
 some v25)).bind fun v26 =>
 (guardV v14 false (((sem_railref1_above n) [v20, v26]).bind fun v27 =>
 some v27)).bind fun v28 =>
 (guardV v10 true ((pickV v14 (vb true) v28).bind fun v29 =>
 some v29)).bind fun v30 =>
 (pickV v10 v30 (vb false)).bind fun v31 =>
 JoinPt (fun vs32 =>
 (bin2 Tryz.prog BinOp.add 3 (ot 12) (oc 1) (List.getD vs4 1 V.any) (vi 1)).bind fun v34 =>
 rec3 [(List.getD vs32 0 V.any), v34]) fun J33 =>
 condV v31 (
 J33 [(List.getD vs4 1 V.any)]) (
 J33 [(List.getD vs4 0 V.any)])) (
 J2 [(List.getD vs4 0 V.any)])) n) [(vi (-1 : Int)), (vi 0)] := by kernel_rfl
noncomputable def t_railref1_Find (a0 : (List T_Rule)) (a1 : Int) : Option Int :=
 (loopI a0 (fun (i12 : Int) x13 (s8 : Int) k9 =>
 (t_railref1_Has x13.Cube a1).bind fun r23 =>
 (gd (r23 && (!(decide (s8 < 0)))) default (idx a0 s8)).bind fun r48 =>
 (gd (r23 && (!(decide (s8 < 0)))) default (t_railref1_above x13 r48)).bind fun r55 =>
 (if (r23 && ((decide (s8 < 0)) || r55)) = true then (
 some i12) else (
 some (s8))).bind fun (s62 : Int) =>
 k9 (s62)) (fun (s8 : Int) =>
 some (s8)) (-1 : Int)).bind fun (s3 : Int) =>
 some s3
theorem ty_railref1_Find {n : Nat} (hn : bigN ≤ n) (a0 : (List T_Rule)) (a1 : Int) : Rv (fun x : Int => (vi x)) (sem_railref1_Find n [(V.sl (List.map T_Rule.c a0)), (vi a1)]) (t_railref1_Find a0 a1) := by
 rw [eq_railref1_Find]
 unfold t_railref1_Find; refine tjb (mk := fun s3 : Int => [(vi s3)]) (fun J2 => ?_) fun s3 => ?_
 ·refine rf_loopI (mk := fun (i12 : Int) (s8 : Int) => [(vi s8), (vi (i12 : Int))]) hn a0 (-1 : Int) (fun i12 x13 h14 h15 h16 s8 rec6 k9 h10 => ?_) (fun s8 rec68 h67 => ?_)
  ·refine tb (x := (vi (List.length a0 : Int))) (p_len _) ?_; refine tb (x := (vb (decide ((i12 : Int) < (List.length a0 : Int))))) (d_lss) ?_; refine tcond_t h16 ?_; refine tb (x := (V.ptr (T_Rule.c x13))) (p_idx_at (c := T_Rule.c) (fun _ => rfl) h14) ?_; refine tb (x := (V.ptr (List.drop 1 (T_Rule.c x13)))) (rfl) ?_; refine tb (x := (T_Cube.e x13.Cube)) (rfl) ?_; refine tbo (ty_railref1_Has hn x13.Cube a1) fun r23 => ?_; refine tg (x := (vi s8)) (fun h24 => rfl) ?_; refine tg (x := (vb (decide (s8 < 0)))) (fun h26 => by simp only [gv_t h26]; exact bind_some_eq (d_lss)) ?_; refine tg (x := (vb (decide (s8 < 0)))) (fun h29 => congrArg some (gv_t h29)) ?_; refine tg2_f (x := (V.sl (List.map T_Rule.c a0))) (fun h31 => rfl) ?_; refine tg2_f (x := (vi (i12 : Int))) (fun h33 => rfl) ?_; refine tg2_f (x := (V.ptr (T_Rule.c x13))) (fun h35 => by simp only [gv_t h35]; exact bind_some_eq (p_idx_at (c := T_Rule.c) (fun _ => rfl) h14)) ?_; refine tg2_f (x := (T_Rule.e x13)) (fun h38 => by first | exact bind_some_eq (rfl) | (simp only [gv_t h38]; exact bind_some_eq (rfl))) ?_; refine tg2_f (x := (V.sl (List.map T_Rule.c a0))) (fun h41 => rfl) ?_; refine tg2_f (x := (vi s8)) (fun h43 => rfl) ?_; refine tgo2_f (fun h45 => by simp only [gv_t h45]; exact rf_bind_some (p_idx (c := T_Rule.c) (fun _ => rfl) a0 s8)) fun r48 => ?_; refine tg2_f (x := (T_Rule.e r48)) (fun h49 => by first | exact bind_some_eq (rfl) | (simp only [gv_t h49]; exact bind_some_eq (rfl))) ?_; refine tgo2_f (fun h52 => by simp only [gv_t h52]; exact rf_bind_some (ty_railref1_above hn x13 r48)) fun r55 => ?_; refine tg (x := (vb ((decide (s8 < 0)) || r55))) (fun h56 => by simp only [gv_t h56]; exact bind_some_eq (pick_or (fun h9 => gv_t (and_i h56 (not_f h9))))) ?_; refine tb (x := (vb (r23 && ((decide (s8 < 0)) || r55)))) (pick_and (fun h9 => gv_t h9)) ?_; refine tjb (mk := fun s62 : Int => [(vi s62)]) (fun J61 => ?_) fun s62 => ?_
   ·refine tcond (fun h66 => ?_) (fun h66 => ?_)
    ·exact rf_j rfl
    ·exact rf_j rfl
   ·refine tb (x := (vi ((i12 : Int) + 1))) (p_incN h15) ?_; exact h10 (s62)
  ·refine tb (x := (vi (List.length a0 : Int))) (p_len _) ?_; refine tb (x := (vb (decide ((List.length a0 : Int) < (List.length a0 : Int))))) (d_lss) ?_; refine tcond_f h67 ?_; exact rf_j rfl
 ·exact rf_ret rfl
def an_railref1_Host : Ann := .seq (.reg 0 [] [] []) (.seq (.seq (.reg 0 [] [] []) (.blk (some []) (.loop [.kb 2, .kb 3, .s 5] (.seq (.seq (.reg 0 [] [] []) (.cond none (.no) (.no))) (.seq (.blk none (.seq (.reg 8 [] [] []) (.cond none (.seq (.reg 0 [] [] []) (.no)) (.no)))) (.reg 0 [] [] [])))))) (.seq (.reg 0 [] [] []) (.no)))
noncomputable def sem_railref1_Host (n : Nat) (xs : List V) : Option V := if xs.length ≤ 22 then denF Tryz.prog (envOf []) n Tryz.f99 an_railref1_Host xs else none
theorem ok_railref1_Host (n : Nat) : SemOk Tryz.prog DW 99 (sem_railref1_Host n) := fun xs y h => by
 unfold sem_railref1_Host at h
 split at h
 ·rename_i hl
  exact denF_ok stb Tryz.func99 (by kernel_rfl) (envOf_ok semsOk_nil) (by rw [Tryz.ntmps99]; exact hl) h
 ·cases h
theorem eq_railref1_Host (n : Nat) (x0 x1 : V) : sem_railref1_Host n [x0, x1] =
 (V.cellsO x0).bind fun v1 =>
 (V.cellsO x1).bind fun v2 =>
 JoinPt (fun vs3 =>
 some (vi (-1 : Int))) fun J4 =>
 (keepO (some v1) (some v1) (keepO (some v2) (some v2) (some [(vi 0)]))).bind (fixN (fun rec5 vs6 =>
 (ldk none (List.drop 2 v1)).bind fun v7 =>
 (lenS [v7]).bind fun v8 =>
 (bin2 Tryz.prog BinOp.lss 3 (ot 6) (ot 9) (List.getD vs6 0 V.any) v8).bind fun v9 =>
 condV v9 (
 (ldk none (List.drop 2 v1)).bind fun v10 =>
 (idxS 3 v10 (List.getD vs6 0 V.any)).bind fun v11 =>
 (ptrF 1 v11).bind fun v12 =>
 (ldp (some 2) v12).bind fun v13 =>
 (ldk (some 2) (List.drop 0 v2)).bind fun v14 =>
 (bin2 Tryz.prog BinOp.eql 114 (ot 18) (ot 19) v13 v14).bind fun v15 =>
 condV v15 (
 some (List.getD vs6 0 V.any)) (
 (bin2 Tryz.prog BinOp.add 3 (ot 11) (oc 1) (List.getD vs6 0 V.any) (vi 1)).bind fun v16 =>
 (keepO (some v1) (some v1) (keepO (some v2) (some v2) (some [v16]))).bind rec5)) (
 J4 [])) n) := by kernel_rfl
noncomputable def t_railref1_Host (a0 : T_Topo) (a1 : T_Spot) : Option Int :=
 join (fun (s5 : Unit) =>
 some (-1 : Int)) fun j6 =>
 loopI a0.Hosts (fun (i14 : Int) x15 (s10 : Unit) k11 =>
 if (decide (x15.At = a1)) = true then (
 some i14) else (
 k11 ())) (fun (s10 : Unit) =>
 j6 ()) ()
theorem ty_railref1_Host {n : Nat} (hn : bigN ≤ n) (a0 : T_Topo) (a1 : T_Spot) : Rv (fun x : Int => (vi x)) (sem_railref1_Host n [(T_Topo.e a0), (T_Spot.e a1)]) (t_railref1_Host a0 a1) := by
 rw [eq_railref1_Host]
 unfold t_railref1_Host; refine tb (x := (T_Topo.c a0)) rfl ?_; refine tb (x := (T_Spot.c a1)) rfl ?_; refine tjoin (mk := fun s5 : Unit => []) (fun s5 => ?_) fun J4 j6 h7 => ?_
 ·exact rf_ret rfl
 ·refine tkeepO2 ?_ rfl; refine tkeepO2 ?_ rfl; refine tsome ?_; refine rf_loopI (mk := fun (i14 : Int) (s10 : Unit) => [(vi (i14 : Int))]) hn a0.Hosts () (fun i14 x15 h16 h17 h18 s10 rec8 k11 h12 => ?_) (fun s10 rec31 h30 => ?_)
  ·refine tb (x := (V.sl (List.map T_Host.c a0.Hosts))) (rfl) ?_; refine tb (x := (vi (List.length a0.Hosts : Int))) (p_len _) ?_; refine tb (x := (vb (decide ((i14 : Int) < (List.length a0.Hosts : Int))))) (d_lss) ?_; refine tcond_t h18 ?_; refine tb (x := (V.sl (List.map T_Host.c a0.Hosts))) (rfl) ?_; refine tb (x := (V.ptr (T_Host.c x15))) (p_idx_at (c := T_Host.c) (fun _ => rfl) h16) ?_; refine tb (x := (V.ptr (List.drop 1 (T_Host.c x15)))) (rfl) ?_; refine tb (x := (T_Spot.e x15.At)) (rfl) ?_; refine tb (x := (T_Spot.e a1)) (rfl) ?_; refine tb (x := (vb (decide (x15.At = a1)))) (T_Spot.eql x15.At a1) ?_; refine tcond (fun h28 => ?_) (fun h28 => ?_)
   ·exact rf_ret rfl
   ·refine tb (x := (vi ((i14 : Int) + 1))) (p_incN h17) ?_; refine tkeepO2 ?_ rfl; refine tkeepO2 ?_ rfl; refine tsome ?_; exact h12 ()
  ·refine tb (x := (V.sl (List.map T_Host.c a0.Hosts))) (rfl) ?_; refine tb (x := (vi (List.length a0.Hosts : Int))) (p_len _) ?_; refine tb (x := (vb (decide ((List.length a0.Hosts : Int) < (List.length a0.Hosts : Int))))) (d_lss) ?_; refine tcond_f h30 ?_; exact h7 ()
def an_railref1_Peer : Ann := .seq (.reg 0 [] [] []) (.seq (.seq (.reg 0 [] [] []) (.blk (some [.b 4]) (.loop [.kb 2, .kb 3, .b 4, .s 6] (.seq (.seq (.reg 0 [] [] []) (.cond none (.no) (.no))) (.seq (.blk none (.seq (.seq (.reg 8 [] [] []) (.cond none (.seq (.reg 0 [] [] []) (.no)) (.no))) (.seq (.reg 8 [] [] []) (.cond none (.seq (.reg 0 [] [] []) (.no)) (.no))))) (.reg 0 [] [] [])))))) (.seq (.reg 0 [] [] []) (.no)))
noncomputable def sem_railref1_Peer (n : Nat) (xs : List V) : Option V := if xs.length ≤ 43 then denF Tryz.prog (envOf []) n Tryz.f100 an_railref1_Peer xs else none
theorem ok_railref1_Peer (n : Nat) : SemOk Tryz.prog DW 100 (sem_railref1_Peer n) := fun xs y h => by
 unfold sem_railref1_Peer at h
 split at h
 ·rename_i hl
  exact denF_ok stb Tryz.func100 (by kernel_rfl) (envOf_ok semsOk_nil) (by rw [Tryz.ntmps100]; exact hl) h
 ·cases h
theorem eq_railref1_Peer (n : Nat) (x0 x1 : V) : sem_railref1_Peer n [x0, x1] =
 (V.cellsO x0).bind fun v1 =>
 (V.cellsO x1).bind fun v2 =>
 JoinPt (fun vs3 =>
 ((fillL [(vi 0), (vi 0)] []).map V.agg).bind fun v5 =>
 (spliceV (aggL (List.getD vs3 0 V.any)) 0 2 v5).bind fun v6 =>
 (ldk (some 2) (List.drop 0 (aggL v6))).bind fun v7 =>
 some (V.tup [v7, (vb false)])) fun J4 =>
 (keepO (some v1) (some v1) (keepO (some v2) (some v2) (some [(V.agg [(vi 0), (vi 0)]), (vi 0)]))).bind (fixN (fun rec8 vs9 =>
 (ldk none (List.drop 1 v1)).bind fun v10 =>
 (lenS [v10]).bind fun v11 =>
 (bin2 Tryz.prog BinOp.lss 3 (ot 7) (ot 10) (List.getD vs9 1 V.any) v11).bind fun v12 =>
 condV v12 (
 (ldk none (List.drop 1 v1)).bind fun v13 =>
 (idxS 4 v13 (List.getD vs9 1 V.any)).bind fun v14 =>
 (ptrF 0 v14).bind fun v15 =>
 (ldp (some 2) v15).bind fun v16 =>
 (ldk (some 2) (List.drop 0 v2)).bind fun v17 =>
 (bin2 Tryz.prog BinOp.eql 114 (ot 19) (ot 20) v16 v17).bind fun v18 =>
 condV v18 (
 (ldk none (List.drop 1 v1)).bind fun v19 =>
 (idxS 4 v19 (List.getD vs9 1 V.any)).bind fun v20 =>
 (ptrF 2 v20).bind fun v21 =>
 (ldp (some 2) v21).bind fun v22 =>
 (spliceV (aggL (List.getD vs9 0 V.any)) 0 2 v22).bind fun v23 =>
 (ldk (some 2) (List.drop 0 (aggL v23))).bind fun v24 =>
 some (V.tup [v24, (vb true)])) (
 (ldk none (List.drop 1 v1)).bind fun v25 =>
 (idxS 4 v25 (List.getD vs9 1 V.any)).bind fun v26 =>
 (ptrF 2 v26).bind fun v27 =>
 (ldp (some 2) v27).bind fun v28 =>
 (ldk (some 2) (List.drop 0 v2)).bind fun v29 =>
 (bin2 Tryz.prog BinOp.eql 114 (ot 33) (ot 34) v28 v29).bind fun v30 =>
 condV v30 (
 (ldk none (List.drop 1 v1)).bind fun v31 =>
 (idxS 4 v31 (List.getD vs9 1 V.any)).bind fun v32 =>
 (ptrF 0 v32).bind fun v33 =>
 (ldp (some 2) v33).bind fun v34 =>
 (spliceV (aggL (List.getD vs9 0 V.any)) 0 2 v34).bind fun v35 =>
 (ldk (some 2) (List.drop 0 (aggL v35))).bind fun v36 =>
 some (V.tup [v36, (vb true)])) (
 (bin2 Tryz.prog BinOp.add 3 (ot 12) (oc 1) (List.getD vs9 1 V.any) (vi 1)).bind fun v37 =>
 (keepO (some v1) (some v1) (keepO (some v2) (some v2) (some [(V.agg (aggL (List.getD vs9 0 V.any))), v37]))).bind rec8))) (
 J4 [(V.agg (aggL (List.getD vs9 0 V.any)))])) n) := by kernel_rfl
noncomputable def t_railref1_Peer (a0 : T_Topo) (a1 : T_Spot) : Option (T_Spot × Bool) :=
 join (fun (s5 : T_Spot) =>
 some ((T_Spot.mk 0 0), false)) fun j6 =>
 loopI a0.Links (fun (i17 : Int) x18 (s13 : Unit) k14 =>
 if (decide (x18.A = a1)) = true then (
 some (x18.B, true)) else (
 if (decide (x18.B = a1)) = true then (
 some (x18.A, true)) else (
 k14 ()))) (fun (s13 : Unit) =>
 j6 (T_Spot.mk 0 0)) ()
theorem ty_railref1_Peer {n : Nat} (hn : bigN ≤ n) (a0 : T_Topo) (a1 : T_Spot) : Rv (fun x : (T_Spot × Bool) => V.tup [(T_Spot.e x.1), (vb x.2)]) (sem_railref1_Peer n [(T_Topo.e a0), (T_Spot.e a1)]) (t_railref1_Peer a0 a1) := by
 rw [eq_railref1_Peer]
 unfold t_railref1_Peer; refine tb (x := (T_Topo.c a0)) rfl ?_; refine tb (x := (T_Spot.c a1)) rfl ?_; refine tjoin (mk := fun s5 : T_Spot => [(V.agg (T_Spot.c s5))]) (fun s5 => ?_) fun J4 j6 h7 => ?_
 ·refine tb (x := (T_Spot.e (T_Spot.mk 0 0))) (by kernel_rfl) ?_; refine tb (x := V.agg (T_Spot.c (T_Spot.mk 0 0))) (by kernel_rfl) ?_; refine tb (x := (T_Spot.e (T_Spot.mk 0 0))) rfl ?_; exact rf_ret rfl
 ·refine tkeepO2 ?_ rfl; refine tkeepO2 ?_ rfl; refine tsome ?_; refine rf_loopI (mk := fun (i17 : Int) (s13 : Unit) => [(V.agg (T_Spot.c (T_Spot.mk 0 0))), (vi (i17 : Int))]) hn a0.Links () (fun i17 x18 h19 h20 h21 s13 rec11 k14 h15 => ?_) (fun s13 rec53 h52 => ?_)
  ·refine tb (x := (V.sl (List.map T_Link.c a0.Links))) (rfl) ?_; refine tb (x := (vi (List.length a0.Links : Int))) (p_len _) ?_; refine tb (x := (vb (decide ((i17 : Int) < (List.length a0.Links : Int))))) (d_lss) ?_; refine tcond_t h21 ?_; refine tb (x := (V.sl (List.map T_Link.c a0.Links))) (rfl) ?_; refine tb (x := (V.ptr (T_Link.c x18))) (p_idx_at (c := T_Link.c) (fun _ => rfl) h19) ?_; refine tb (x := (V.ptr (T_Link.c x18))) (rfl) ?_; refine tb (x := (T_Spot.e x18.A)) (rfl) ?_; refine tb (x := (T_Spot.e a1)) (rfl) ?_; refine tb (x := (vb (decide (x18.A = a1)))) (T_Spot.eql x18.A a1) ?_; refine tcond (fun h31 => ?_) (fun h31 => ?_)
   ·refine tb (x := (V.sl (List.map T_Link.c a0.Links))) (rfl) ?_; refine tb (x := (V.ptr (T_Link.c x18))) (p_idx_at (c := T_Link.c) (fun _ => rfl) h19) ?_; refine tb (x := (V.ptr (List.drop 2 (T_Link.c x18)))) (rfl) ?_; refine tb (x := (T_Spot.e x18.B)) (rfl) ?_; refine tb (x := V.agg (T_Spot.c x18.B)) (by kernel_rfl) ?_; refine tb (x := (T_Spot.e x18.B)) rfl ?_; exact rf_ret rfl
   ·refine tb (x := (V.sl (List.map T_Link.c a0.Links))) (rfl) ?_; refine tb (x := (V.ptr (T_Link.c x18))) (p_idx_at (c := T_Link.c) (fun _ => rfl) h19) ?_; refine tb (x := (V.ptr (List.drop 2 (T_Link.c x18)))) (rfl) ?_; refine tb (x := (T_Spot.e x18.B)) (rfl) ?_; refine tb (x := (T_Spot.e a1)) (rfl) ?_; refine tb (x := (vb (decide (x18.B = a1)))) (T_Spot.eql x18.B a1) ?_; refine tcond (fun h44 => ?_) (fun h44 => ?_)
    ·refine tb (x := (V.sl (List.map T_Link.c a0.Links))) (rfl) ?_; refine tb (x := (V.ptr (T_Link.c x18))) (p_idx_at (c := T_Link.c) (fun _ => rfl) h19) ?_; refine tb (x := (V.ptr (T_Link.c x18))) (rfl) ?_; refine tb (x := (T_Spot.e x18.A)) (rfl) ?_; refine tb (x := V.agg (T_Spot.c x18.A)) (by kernel_rfl) ?_; refine tb (x := (T_Spot.e x18.A)) rfl ?_; exact rf_ret rfl
    ·refine tb (x := (vi ((i17 : Int) + 1))) (p_incN h20) ?_; refine tkeepO2 ?_ rfl; refine tkeepO2 ?_ rfl; refine tsome ?_; exact h15 ()
  ·refine tb (x := (V.sl (List.map T_Link.c a0.Links))) (rfl) ?_; refine tb (x := (vi (List.length a0.Links : Int))) (p_len _) ?_; refine tb (x := (vb (decide ((List.length a0.Links : Int) < (List.length a0.Links : Int))))) (d_lss) ?_; refine tcond_f h52 ?_; exact h7 (T_Spot.mk 0 0)
end Go.Proofs.YtilbgbhpdjjliaaGreatDoor.Ty
