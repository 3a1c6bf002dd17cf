/- What functions do, as functions on plain types, written by a program and checked by the kernel. -/
import Derived.Test.YtpafgegoieakoaaDenPlain
import Derived.Test.YtpafgegoieakoaaTy
import Derived.Test.YtpafgegoieakoaaTyT
import Derived.Test.YtpafgegoieakoaaTyO
import Derived.Test.YtpafgegoieakoaaTyN
import Derived.Test.YtpafgegoieakoaaTyM
import Derived.Test.YtpafgegoieakoaaTyR
import Derived.Test.YtpafgegoieakoaaTyS
import Derived.Test.YtpafgegoieakoaaDen14
import Derived.Test.YtpafgegoieakoaaShelf
import Derived.Test.YtpafgegoieakoaaClone
namespace Go.Proofs.Ytpafgegoieakoaa.Ty
open Go Go.RowKit Go.Proofs.Ytpafgegoieakoaa.Den
set_option linter.unusedVariables false
set_option maxRecDepth 100000

def T_Spot.val (x : T_Spot) : Go.Value := .agg #[.int .i64 x.Switch, .int .i64 x.Port]
theorem T_Spot.mkey : MKey Try.prog 27 T_Spot.val where
  chk e a w := by kernel_rfl
  find vv l a w := find_ask Try.underlying27 (fun _ _ => rfl) (fun a b w => equal_of (T_Spot.run_eql a b w)) vv l a w
  sb a := by show Instr.sameBits (9999 + 1) _ _ = true; simp [Instr.sameBits, T_Spot.val]

/-! railpoint/topo.Spot -/
def an_topo_Spot : Ann := .seq (.reg 0 [] [] []) (.seq (.reg 0 [] [] []) (.no))
noncomputable def sem_topo_Spot (n : Nat) (xs : List V) : Option V := if xs.length ≤ 25 then denF Try.prog (envOf []) n Try.f27 an_topo_Spot xs else none
theorem ok_topo_Spot (n : Nat) : SemOk Try.prog DW 27 (sem_topo_Spot n) := fun xs y h => by
  unfold sem_topo_Spot at h
  split at h
  · rename_i hl
    exact denF_ok stb Try.func27 (by kernel_rfl) (envOf_ok semsOk_nil) (by rw [Try.ntmps27]; exact hl) h
  · cases h
theorem eq_topo_Spot (n : Nat) (x0 x1 : V) : sem_topo_Spot n [x0, x1] =
 (V.cellsO x0).bind fun v1 =>
 (V.cellsO x1).bind fun v2 =>
 (ldk none (List.drop 0 v2)).bind fun v3 =>
 (bin2 Try.prog BinOp.geq 3 (ot 6) (oc 1) v3 (vi 1)).bind fun v4 =>
 (guardV v4 true (some V.any)).bind fun v5 =>
 (guardV v4 true ((gate v4 true (ldk none (List.drop 0 v2))).bind fun v6 =>
 some v6)).bind fun v7 =>
 (guardV v4 true (some V.any)).bind fun v8 =>
 (guardV v4 true ((gate v4 true (ldk none (List.drop 0 v1))).bind fun v9 =>
 some v9)).bind fun v10 =>
 (guardV v4 true ((bin2 Try.prog BinOp.leq 3 (ot 10) (ot 12) v7 v10).bind fun v11 =>
 some v11)).bind fun v12 =>
 (pickV v4 v12 (vb false)).bind fun v13 =>
 (guardV v13 true (some V.any)).bind fun v14 =>
 (guardV v13 true ((gate v13 true (ldk none (List.drop 1 v2))).bind fun v15 =>
 some v15)).bind fun v16 =>
 (guardV v13 true ((bin2 Try.prog BinOp.geq 3 (ot 17) (oc 1) v16 (vi 1)).bind fun v17 =>
 some v17)).bind fun v18 =>
 (pickV v13 v18 (vb false)).bind fun v19 =>
 (guardV v19 true (some V.any)).bind fun v20 =>
 (guardV v19 true ((gate v19 true (ldk none (List.drop 1 v2))).bind fun v21 =>
 some v21)).bind fun v22 =>
 (guardV v19 true ((bin2 Try.prog BinOp.leq 3 (ot 22) (oc 4) v22 (vi 4)).bind fun v23 =>
 some v23)).bind fun v24 =>
 (pickV v19 v24 (vb false)).bind fun v25 =>
 some v25 := by kernel_rfl
noncomputable def t_topo_Spot (a0 : T_Topo) (a1 : T_Spot) : Option Bool :=
 some ((((decide (1 ≤ a1.Switch)) && (decide (a1.Switch ≤ a0.Switches))) && (decide (1 ≤ a1.Port))) && (decide (a1.Port ≤ 4)))
theorem ty_topo_Spot {n : Nat} (hn : bigN ≤ n) (a0 : T_Topo) (a1 : T_Spot) : Rv (fun x : Bool => (vb x)) (sem_topo_Spot n [(T_Topo.e a0), (T_Spot.e a1)]) (t_topo_Spot a0 a1) := by
  rw [eq_topo_Spot]
  unfold t_topo_Spot
  refine tb (x := (T_Topo.c a0)) rfl ?_
  refine tb (x := (T_Spot.c a1)) rfl ?_
  refine tb (x := (vi a1.Switch)) (rfl) ?_
  refine tb (x := (vb (decide (1 ≤ a1.Switch)))) (d_geq) ?_
  refine tg (x := V.any) (fun h5 => rfl) ?_
  refine tg (x := (vi a1.Switch)) (fun h7 => bind_some_eq (gate_pos h7 (rfl))) ?_
  refine tg (x := V.any) (fun h10 => rfl) ?_
  refine tg (x := (vi a0.Switches)) (fun h12 => bind_some_eq (gate_pos h12 (rfl))) ?_
  refine tg (x := (vb (decide (a1.Switch ≤ a0.Switches)))) (fun h15 => by simp only [gv_t h15]; exact bind_some_eq (d_leq)) ?_
  refine tb (x := (vb ((decide (1 ≤ a1.Switch)) && (decide (a1.Switch ≤ a0.Switches))))) (pick_and (fun h9 => gv_t h9)) ?_
  refine tg (x := V.any) (fun h19 => rfl) ?_
  refine tg (x := (vi a1.Port)) (fun h21 => bind_some_eq (gate_pos h21 (rfl))) ?_
  refine tg (x := (vb (decide (1 ≤ a1.Port)))) (fun h24 => by simp only [gv_t h24]; exact bind_some_eq (d_geq)) ?_
  refine tb (x := (vb (((decide (1 ≤ a1.Switch)) && (decide (a1.Switch ≤ a0.Switches))) && (decide (1 ≤ a1.Port))))) (pick_and (fun h9 => gv_t h9)) ?_
  refine tg (x := V.any) (fun h28 => rfl) ?_
  refine tg (x := (vi a1.Port)) (fun h30 => bind_some_eq (gate_pos h30 (rfl))) ?_
  refine tg (x := (vb (decide (a1.Port ≤ 4)))) (fun h33 => by simp only [gv_t h33]; exact bind_some_eq (d_leq)) ?_
  refine tb (x := (vb ((((decide (1 ≤ a1.Switch)) && (decide (a1.Switch ≤ a0.Switches))) && (decide (1 ≤ a1.Port))) && (decide (a1.Port ≤ 4))))) (pick_and (fun h9 => gv_t h9)) ?_
  exact rf_ret rfl

/-! railpoint/topo.Name -/
def an_topo_Name : Ann := .seq (.reg 0 [] [] []) (.seq (.seq (.reg 0 [] [] []) (.blk (some []) (.loop [.s 8] (.seq (.reg 0 [] [] []) (.seq (.cond none (.no) (.no)) (.seq (.blk none (.seq (.reg 0 [] [] []) (.seq (.reg 0 [] [] []) (.cond none (.seq (.reg 0 [] [] []) (.no)) (.no))))) (.reg 0 [] [] []))))))) (.seq (.reg 0 [] [] []) (.no)))
noncomputable def sem_topo_Name (n : Nat) (xs : List V) : Option V := if xs.length ≤ 26 then denF Try.prog (envOf []) n Try.f28 an_topo_Name xs else none
theorem ok_topo_Name (n : Nat) : SemOk Try.prog DW 28 (sem_topo_Name n) := fun xs y h => by
  unfold sem_topo_Name at h
  split at h
  · rename_i hl
    exact denF_ok stb Try.func28 (by kernel_rfl) (envOf_ok semsOk_nil) (by rw [Try.ntmps28]; exact hl) h
  · cases h
theorem eq_topo_Name (n : Nat) (x0 : V) : sem_topo_Name n [x0] =
 (s2b x0).bind fun v1 =>
 (lenS [v1]).bind fun v2 =>
 JoinPt (fun vs3 =>
 (bin2 Try.prog BinOp.neq 9 (ot 19) (Operand.const (Go.Value.string (ByteArray.mk #[]))) x0 (V.lit (Go.Value.string (ByteArray.mk #[])))).bind fun v5 =>
 (guardV v5 true (some x0)).bind fun v6 =>
 (guardV v5 true ((lenT [v6]).bind fun v7 =>
 some v7)).bind fun v8 =>
 (guardV v5 true ((bin2 Try.prog BinOp.leq 3 (ot 23) (oc 6) v8 (vi 6)).bind fun v9 =>
 some v9)).bind fun v10 =>
 (pickV v5 v10 (vb false)).bind fun v11 =>
 some v11) fun J4 =>
 (fixN (fun rec12 vs13 =>
 (bin2 Try.prog BinOp.lss 3 (ot 8) (ot 7) (List.getD vs13 0 V.any) v2).bind fun v14 =>
 condV v14 (
 (idxS 1 v1 (List.getD vs13 0 V.any)).bind fun v15 =>
 (ldp none v15).bind fun v16 =>
 (bin2 Try.prog BinOp.lss 5 (ot 12) (Operand.const (Go.Value.int Go.IntKind.u8 97)) v16 (V.lit (Go.Value.int Go.IntKind.u8 97))).bind fun v17 =>
 (guardV v17 false (some v16)).bind fun v18 =>
 (guardV v17 false ((bin2 Try.prog BinOp.gtr 5 (ot 15) (Operand.const (Go.Value.int Go.IntKind.u8 122)) v18 (V.lit (Go.Value.int Go.IntKind.u8 122))).bind fun v19 =>
 some v19)).bind fun v20 =>
 (pickV v17 (vb true) v20).bind fun v21 =>
 condV v21 (
 some (vb false)) (
 (bin2 Try.prog BinOp.add 3 (ot 8) (oc 1) (List.getD vs13 0 V.any) (vi 1)).bind fun v22 =>
 rec12 [v22])) (
 J4 [])) n) [(vi 0)] := by kernel_rfl
noncomputable def t_topo_Name (a0 : ByteArray) : Option Bool :=
 need (decide ((a0.size : Int) ≤ maxI)) (
 join (fun (s5 : Unit) =>
 some ((!decide (a0 = (ByteArray.mk #[]))) && (decide ((a0.size : Int) ≤ 6)))) fun j6 =>
 loopI (numsOf a0) (fun (i24 : Int) x25 (s20 : Unit) k21 =>
 if ((decide (x25 < 97)) || (decide (122 < x25))) = true then (
 some false) else (
 k21 ())) (fun (s20 : Unit) =>
 j6 ()) ())
theorem ty_topo_Name {n : Nat} (hn : bigN ≤ n) (a0 : ByteArray) : Rv (fun x : Bool => (vb x)) (sem_topo_Name n [(vt a0)]) (t_topo_Name a0) := by
  rw [eq_topo_Name]
  unfold t_topo_Name
  refine tneed (x := (V.sl (List.map cY (numsOf a0)))) (fun h44 => p_s2b h44) fun h44 => ?_
  refine tb (x := (vi (List.length (numsOf a0) : Int))) (p_len _) ?_
  refine tjoin (mk := fun s5 : Unit => []) (fun s5 => ?_) fun J4 j6 h7 => ?_
  · refine tb (x := (vb (!decide (a0 = (ByteArray.mk #[]))))) (p_neq_str) ?_
    refine tg (x := (vt a0)) (fun h9 => rfl) ?_
    refine tg (x := (vi (a0.size : Int))) (fun h11 => by simp only [gv_t h11]; exact bind_some_eq (rfl)) ?_
    refine tg (x := (vb (decide ((a0.size : Int) ≤ 6)))) (fun h14 => by simp only [gv_t h14]; exact bind_some_eq (d_leq)) ?_
    refine tb (x := (vb ((!decide (a0 = (ByteArray.mk #[]))) && (decide ((a0.size : Int) ≤ 6))))) (pick_and (fun h9 => gv_t h9)) ?_
    exact rf_ret rfl
  · refine rf_loopI (mk := fun (i24 : Int) (s20 : Unit) => [(vi (i24 : Int))]) hn (numsOf a0) () (fun i24 x25 h26 h27 h28 s20 rec18 k21 h22 => ?_) (fun s20 rec42 h41 => ?_)
    · refine tb (x := (vb (decide ((i24 : Int) < (List.length (numsOf a0) : Int))))) (d_lss) ?_
      refine tcond_t h28 ?_
      refine tb (x := (V.ptr [(V.lit (.int .u8 x25))])) (p_idx_at (c := cY) (fun _ => rfl) h26) ?_
      refine tb (x := (V.lit (.int .u8 x25))) (rfl) ?_
      refine tb (x := (vb (decide (x25 < 97)))) (q_lss) ?_
      refine tg_f (x := (V.lit (.int .u8 x25))) (fun h33 => rfl) ?_
      refine tg_f (x := (vb (decide (122 < x25)))) (fun h35 => by simp only [gv_t h35]; exact bind_some_eq (q_gtr)) ?_
      refine tb (x := (vb ((decide (x25 < 97)) || (decide (122 < x25))))) (pick_or (fun h9 => gv_t (not_f h9))) ?_
      refine tcond (fun h39 => ?_) (fun h39 => ?_)
      · exact rf_ret rfl
      · refine tb (x := (vi ((i24 : Int) + 1))) (p_incN h27) ?_
        exact h22 ()
    · refine tb (x := (vb (decide ((List.length (numsOf a0) : Int) < (List.length (numsOf a0) : Int))))) (d_lss) ?_
      refine tcond_f h41 ?_
      exact h7 ()

/-! railpoint/topo.Check -/
def an_topo_Check : Ann := .seq (.reg 0 [] [] []) (.seq (.blk none (.seq (.reg 0 [] [] []) (.cond none (.seq (.reg 0 [] [] []) (.no)) (.seq (.reg 0 [] [] []) (.cond none (.seq (.reg 0 [] [] []) (.no)) (.no)))))) (.seq (.reg 0 [] [] []) (.seq (.seq (.reg 0 [] [] []) (.blk (some [.kb 1, .o 3]) (.loop [.kb 1, .o 3, .s 35] (.seq (.reg 0 [] [] []) (.seq (.cond none (.no) (.no)) (.seq (.blk none (.seq (.reg 0 [] [] []) (.seq (.seq (.reg 0 [] [] []) (.cond none (.seq (.reg 0 [] [] []) (.no)) (.no))) (.seq (.seq (.reg 0 [] [] []) (.cond none (.seq (.reg 0 [] [] []) (.no)) (.no))) (.reg 72 [] [] []))))) (.reg 0 [] [] []))))))) (.seq (.reg 0 [] [] []) (.seq (.seq (.reg 0 [] [] []) (.blk (some []) (.loop [.kb 1, .o 3, .o 6, .s 81] (.seq (.reg 0 [] [] []) (.seq (.cond none (.no) (.no)) (.seq (.blk none (.seq (.reg 0 [] [] []) (.seq (.blk none (.seq (.reg 0 [] [] []) (.cond none (.seq (.reg 0 [] [] []) (.no)) (.seq (.reg 0 [] [] []) (.cond none (.seq (.reg 0 [] [] []) (.no)) (.seq (.reg 0 [] [] []) (.cond none (.seq (.reg 0 [] [] []) (.no)) (.no)))))))) (.reg 72 [] [] [])))) (.reg 0 [] [] []))))))) (.seq (.reg 0 [] [] []) (.no)))))))
noncomputable def sem_topo_Check (n : Nat) (xs : List V) : Option V := if xs.length ≤ 117 then denF Try.prog (envOf [(27, (sem_topo_Spot n)), (28, (sem_topo_Name n))]) n Try.f11 an_topo_Check xs else none
theorem ok_topo_Check (n : Nat) : SemOk Try.prog DW 11 (sem_topo_Check n) := fun xs y h => by
  unfold sem_topo_Check at h
  split at h
  · rename_i hl
    exact denF_ok stb Try.func11 (by kernel_rfl) (envOf_ok (semsOk_cons (ok_topo_Spot n) (semsOk_cons (ok_topo_Name n) semsOk_nil))) (by rw [Try.ntmps11]; exact hl) h
  · cases h
theorem eq_topo_Check (n : Nat) (x0 : V) : sem_topo_Check n [x0] =
 (V.cellsO x0).bind fun v1 =>
 (ldk none (List.drop 0 v1)).bind fun v2 =>
 (bin2 Try.prog BinOp.lss 3 (ot 11) (oc 1) v2 (vi 1)).bind fun v3 =>
 (guardV v3 false (some V.any)).bind fun v4 =>
 (guardV v3 false ((gate v3 false (ldk none (List.drop 0 v1))).bind fun v5 =>
 some v5)).bind fun v6 =>
 (guardV v3 false ((bin2 Try.prog BinOp.gtr 3 (ot 15) (oc 6) v6 (vi 6)).bind fun v7 =>
 some v7)).bind fun v8 =>
 (pickV v3 (vb true) v8).bind fun v9 =>
 condV v9 (
 (scal1 Try.prog (Instr.makeInterface 69) (vi 1)).bind fun v10 =>
 some v10) (
 (ldk none (List.drop 1 v1)).bind fun v11 =>
 (lenS [v11]).bind fun v12 =>
 (bin2 Try.prog BinOp.gtr 3 (ot 22) (oc 200) v12 (vi 200)).bind fun v13 =>
 (guardV v13 false (some V.any)).bind fun v14 =>
 (guardV v13 false ((gate v13 false (ldk none (List.drop 2 v1))).bind fun v15 =>
 some v15)).bind fun v16 =>
 (guardV v13 false ((lenS [v16]).bind fun v17 =>
 some v17)).bind fun v18 =>
 (guardV v13 false ((bin2 Try.prog BinOp.gtr 3 (ot 27) (oc 8) v18 (vi 8)).bind fun v19 =>
 some v19)).bind fun v20 =>
 (pickV v13 (vb true) v20).bind fun v21 =>
 condV v21 (
 (scal1 Try.prog (Instr.makeInterface 69) (vi 4)).bind fun v22 =>
 some v22) (
 (ldk none (List.drop 1 v1)).bind fun v23 =>
 (lenS [v23]).bind fun v24 =>
 JoinPt (fun vs25 =>
 (ldk none (List.drop 2 v1)).bind fun v27 =>
 (lenS [v27]).bind fun v28 =>
 JoinPt (fun vs29 =>
 some vn) fun J30 =>
 (keepO (some v1) (some v1) (some [(List.getD vs25 0 V.any), (V.mp []), (vi 0)])).bind (fixN (fun rec31 vs32 =>
 (bin2 Try.prog BinOp.lss 3 (ot 81) (ot 80) (List.getD vs32 2 V.any) v28).bind fun v33 =>
 condV v33 (
 (idxS 3 v27 (List.getD vs32 2 V.any)).bind fun v34 =>
 (ldp (some 3) v34).bind fun v35 =>
 (spliceV [(V.lit (Go.Value.string (ByteArray.mk #[]))), (vi 0), (vi 0)] 0 3 v35).bind fun v36 =>
 (ldk none (List.drop 0 (aggL v36))).bind fun v37 =>
 ((sem_topo_Name n) [v37]).bind fun v38 =>
 (scal1 Try.prog (Op.unary Go.UnOp.not) v38).bind fun v39 =>
 condV v39 (
 (scal1 Try.prog (Instr.makeInterface 69) (vi 2)).bind fun v40 =>
 some v40) (
 (ldk (some 3) (List.drop 0 v1)).bind fun v41 =>
 (ldk (some 2) (List.drop 1 (aggL v36))).bind fun v42 =>
 ((sem_topo_Spot n) [v41, v42]).bind fun v43 =>
 (scal1 Try.prog (Op.unary Go.UnOp.not) v43).bind fun v44 =>
 condV v44 (
 (scal1 Try.prog (Instr.makeInterface 69) (vi 1)).bind fun v45 =>
 some v45) (
 (ldk none (List.drop 0 (aggL v36))).bind fun v46 =>
 (lookV Try.prog 87 false (List.getD vs32 1 V.any) v46).bind fun v47 =>
 (guardV v47 false (some V.any)).bind fun v48 =>
 (guardV v47 false (some V.any)).bind fun v49 =>
 (guardV v47 false ((gate v47 false (ldk (some 2) (List.drop 1 (aggL v36)))).bind fun v50 =>
 some v50)).bind fun v51 =>
 (guardV v47 false ((gate v47 false (lookV Try.prog 85 false (List.getD vs32 0 V.any) v51)).bind fun v52 =>
 some v52)).bind fun v53 =>
 (pickV v47 (vb true) v53).bind fun v54 =>
 condV v54 (
 (scal1 Try.prog (Instr.makeInterface 69) (vi 7)).bind fun v55 =>
 some v55) (
 (ldk none (List.drop 0 (aggL v36))).bind fun v56 =>
 (litV v56).bind fun v57 =>
 (ldk (some 2) (List.drop 1 (aggL v36))).bind fun v58 =>
 (litV v58).bind fun v59 =>
 (putV Try.prog 87 (List.getD vs32 1 V.any) v57 (vb true)).bind fun v60 =>
 (putV Try.prog 85 (List.getD vs32 0 V.any) v59 (vb true)).bind fun v61 =>
 (bin2 Try.prog BinOp.add 3 (ot 81) (oc 1) (List.getD vs32 2 V.any) (vi 1)).bind fun v62 =>
 (keepO (some v1) (some v1) (some [v61, v60, v62])).bind rec31)))) (
 J30 [])) n)) fun J26 =>
 (keepO (some v1) (some v1) (some [(V.mp []), (vi 0)])).bind (fixN (fun rec63 vs64 =>
 (bin2 Try.prog BinOp.lss 3 (ot 35) (ot 34) (List.getD vs64 1 V.any) v24).bind fun v65 =>
 condV v65 (
 (idxS 4 v23 (List.getD vs64 1 V.any)).bind fun v66 =>
 (ldp (some 4) v66).bind fun v67 =>
 (spliceV [(vi 0), (vi 0), (vi 0), (vi 0)] 0 4 v67).bind fun v68 =>
 (ldk (some 3) (List.drop 0 v1)).bind fun v69 =>
 (ldk (some 2) (List.drop 0 (aggL v68))).bind fun v70 =>
 ((sem_topo_Spot n) [v69, v70]).bind fun v71 =>
 (scal1 Try.prog (Op.unary Go.UnOp.not) v71).bind fun v72 =>
 (guardV v72 false ((ldk (some 3) (List.drop 0 v1)).bind fun v73 =>
 some v73)).bind fun v74 =>
 (guardV v72 false (some V.any)).bind fun v75 =>
 (guardV v72 false ((gate v72 false (ldk (some 2) (List.drop 2 (aggL v68)))).bind fun v76 =>
 some v76)).bind fun v77 =>
 (guardV v72 false (((sem_topo_Spot n) [v74, v77]).bind fun v78 =>
 some v78)).bind fun v79 =>
 (guardV v72 false ((scal1 Try.prog (Op.unary Go.UnOp.not) v79).bind fun v80 =>
 some v80)).bind fun v81 =>
 (pickV v72 (vb true) v81).bind fun v82 =>
 condV v82 (
 (scal1 Try.prog (Instr.makeInterface 69) (vi 1)).bind fun v83 =>
 some v83) (
 (ldk (some 2) (List.drop 0 (aggL v68))).bind fun v84 =>
 (lookV Try.prog 85 false (List.getD vs64 0 V.any) v84).bind fun v85 =>
 (guardV v85 false (some V.any)).bind fun v86 =>
 (guardV v85 false (some V.any)).bind fun v87 =>
 (guardV v85 false ((gate v85 false (ldk (some 2) (List.drop 2 (aggL v68)))).bind fun v88 =>
 some v88)).bind fun v89 =>
 (guardV v85 false ((gate v85 false (lookV Try.prog 85 false (List.getD vs64 0 V.any) v89)).bind fun v90 =>
 some v90)).bind fun v91 =>
 (pickV v85 (vb true) v91).bind fun v92 =>
 (guardV v92 false (some V.any)).bind fun v93 =>
 (guardV v92 false ((gate v92 false (ldk (some 2) (List.drop 0 (aggL v68)))).bind fun v94 =>
 some v94)).bind fun v95 =>
 (guardV v92 false (some V.any)).bind fun v96 =>
 (guardV v92 false ((gate v92 false (ldk (some 2) (List.drop 2 (aggL v68)))).bind fun v97 =>
 some v97)).bind fun v98 =>
 (guardV v92 false ((bin2 Try.prog BinOp.eql 27 (ot 64) (ot 66) v95 v98).bind fun v99 =>
 some v99)).bind fun v100 =>
 (pickV v92 (vb true) v100).bind fun v101 =>
 condV v101 (
 (scal1 Try.prog (Instr.makeInterface 69) (vi 7)).bind fun v102 =>
 some v102) (
 (ldk (some 2) (List.drop 0 (aggL v68))).bind fun v103 =>
 (litV v103).bind fun v104 =>
 (ldk (some 2) (List.drop 2 (aggL v68))).bind fun v105 =>
 (litV v105).bind fun v106 =>
 (putV Try.prog 85 (List.getD vs64 0 V.any) v104 (vb true)).bind fun v107 =>
 (putV Try.prog 85 v107 v106 (vb true)).bind fun v108 =>
 (bin2 Try.prog BinOp.add 3 (ot 35) (oc 1) (List.getD vs64 1 V.any) (vi 1)).bind fun v109 =>
 (keepO (some v1) (some v1) (some [v108, v109])).bind rec63))) (
 (keepO (some v1) (some v1) (some [(List.getD vs64 0 V.any)])).bind J26)) n))) := by kernel_rfl
noncomputable def t_topo_Check (a0 : T_Topo) : Option Int :=
 if ((decide (a0.Switches < 1)) || (decide (6 < a0.Switches))) = true then (
 some 1) else (
 if ((decide (200 < (List.length a0.Links : Int))) || (decide (8 < (List.length a0.Hosts : Int)))) = true then (
 some 4) else (
 join (fun (s36 : (List (T_Spot × Bool))) =>
 join (fun (s43 : Unit) =>
 some 0) fun j44 =>
 loopI a0.Hosts (fun (i52 : Int) x53 (s48 : ((List (T_Spot × Bool)) × (List (ByteArray × Bool)))) k49 =>
 (t_topo_Name x53.Name).bind fun r63 =>
 if (!r63) = true then (
 some 2) else (
 (t_topo_Spot a0 x53.At).bind fun r70 =>
 if (!r70) = true then (
 some 1) else (
 if ((mget s48.2 x53.Name false) || (mget s48.1 x53.At false)) = true then (
 some 7) else (
 k49 ((mput s48.1 x53.At true), (mput s48.2 x53.Name true)))))) (fun (s48 : ((List (T_Spot × Bool)) × (List (ByteArray × Bool)))) =>
 j44 ()) (s36, [])) fun j37 =>
 loopI a0.Links (fun (i105 : Int) x106 (s101 : (List (T_Spot × Bool))) k102 =>
 (t_topo_Spot a0 x106.A).bind fun r117 =>
 (gd (!(!r117)) default (t_topo_Spot a0 x106.B)).bind fun r130 =>
 if ((!r117) || (!r130)) = true then (
 some 1) else (
 if (((mget s101 x106.A false) || (mget s101 x106.B false)) || (decide (x106.A = x106.B))) = true then (
 some 7) else (
 k102 (mput (mput s101 x106.A true) x106.B true)))) (fun (s101 : (List (T_Spot × Bool))) =>
 j37 (s101)) ([])))
theorem ty_topo_Check {n : Nat} (hn : bigN ≤ n) (a0 : T_Topo) : Rv (fun x : Int => (eV x)) (sem_topo_Check n [(T_Topo.e a0)]) (t_topo_Check a0) := by
  rw [eq_topo_Check]
  unfold t_topo_Check
  refine tb (x := (T_Topo.c a0)) rfl ?_
  refine tb (x := (vi a0.Switches)) (rfl) ?_
  refine tb (x := (vb (decide (a0.Switches < 1)))) (d_lss) ?_
  refine tg_f (x := V.any) (fun h4 => rfl) ?_
  refine tg_f (x := (vi a0.Switches)) (fun h6 => bind_some_eq (gate_pos (not_t h6) (rfl))) ?_
  refine tg_f (x := (vb (decide (6 < a0.Switches)))) (fun h9 => by simp only [gv_t h9]; exact bind_some_eq (d_gtr)) ?_
  refine tb (x := (vb ((decide (a0.Switches < 1)) || (decide (6 < a0.Switches))))) (pick_or (fun h9 => gv_t (not_f h9))) ?_
  refine tcond (fun h13 => ?_) (fun h13 => ?_)
  · refine tb (x := (eV 1)) (p_mkE (by decide)) ?_
    exact rf_ret rfl
  · refine tb (x := (V.sl (List.map T_Link.c a0.Links))) (rfl) ?_
    refine tb (x := (vi (List.length a0.Links : Int))) (p_len _) ?_
    refine tb (x := (vb (decide (200 < (List.length a0.Links : Int))))) (d_gtr) ?_
    refine tg_f (x := V.any) (fun h18 => rfl) ?_
    refine tg_f (x := (V.sl (List.map T_Host.c a0.Hosts))) (fun h20 => bind_some_eq (gate_pos (not_t h20) (rfl))) ?_
    refine tg_f (x := (vi (List.length a0.Hosts : Int))) (fun h23 => by simp only [gv_t h23]; exact bind_some_eq (p_len _)) ?_
    refine tg_f (x := (vb (decide (8 < (List.length a0.Hosts : Int))))) (fun h26 => by simp only [gv_t h26]; exact bind_some_eq (d_gtr)) ?_
    refine tb (x := (vb ((decide (200 < (List.length a0.Links : Int))) || (decide (8 < (List.length a0.Hosts : Int)))))) (pick_or (fun h9 => gv_t (not_f h9))) ?_
    refine tcond (fun h30 => ?_) (fun h30 => ?_)
    · refine tb (x := (eV 4)) (p_mkE (by decide)) ?_
      exact rf_ret rfl
    · refine tb (x := (V.sl (List.map T_Link.c a0.Links))) (rfl) ?_
      refine tb (x := (vi (List.length a0.Links : Int))) (p_len _) ?_
      refine tjoin (mk := fun s36 : (List (T_Spot × Bool)) => [(V.mp (mrep T_Spot.val (fun b : Bool => Go.Value.bool b) s36))]) (fun s36 => ?_) fun J35 j37 h38 => ?_
      · refine tb (x := (V.sl (List.map T_Host.c a0.Hosts))) (rfl) ?_
        refine tb (x := (vi (List.length a0.Hosts : Int))) (p_len _) ?_
        refine tjoin (mk := fun s43 : Unit => []) (fun s43 => ?_) fun J42 j44 h45 => ?_
        · exact rf_ret rfl
        · refine tkeepO2 ?_ rfl
          refine tsome ?_
          refine rf_loopI (mk := fun (i52 : Int) (s48 : ((List (T_Spot × Bool)) × (List (ByteArray × Bool)))) => [(V.mp (mrep T_Spot.val (fun b : Bool => Go.Value.bool b) s48.1)), (V.mp (mrep (fun b : ByteArray => Go.Value.string b) (fun b : Bool => Go.Value.bool b) s48.2)), (vi (i52 : Int))]) hn a0.Hosts (s36, []) (fun i52 x53 h54 h55 h56 s48 rec46 k49 h50 => ?_) (fun s48 rec97 h96 => ?_)
          · refine tb (x := (vb (decide ((i52 : Int) < (List.length a0.Hosts : Int))))) (d_lss) ?_
            refine tcond_t h56 ?_
            refine tb (x := (V.ptr (T_Host.c x53))) (p_idx_at (c := T_Host.c) (fun _ => rfl) h54) ?_
            refine tb (x := (T_Host.e x53)) (rfl) ?_
            refine tb (x := V.agg (T_Host.c x53)) (by kernel_rfl) ?_
            refine tb (x := (vt x53.Name)) (rfl) ?_
            refine tbo (ty_topo_Name hn x53.Name) fun r63 => ?_
            refine tb (x := (vb (!r63))) (d_not) ?_
            refine tcond (fun h65 => ?_) (fun h65 => ?_)
            · refine tb (x := (eV 2)) (p_mkE (by decide)) ?_
              exact rf_ret rfl
            · refine tb (x := (T_Topo.e a0)) (rfl) ?_
              refine tb (x := (T_Spot.e x53.At)) (rfl) ?_
              refine tbo (ty_topo_Spot hn a0 x53.At) fun r70 => ?_
              refine tb (x := (vb (!r70))) (d_not) ?_
              refine tcond (fun h72 => ?_) (fun h72 => ?_)
              · refine tb (x := (eV 1)) (p_mkE (by decide)) ?_
                exact rf_ret rfl
              · refine tb (x := (vt x53.Name)) (rfl) ?_
                refine tb (x := (vb (mget s48.2 x53.Name false))) (p_look (kt := 9) (et := 4) (kv := (fun b : ByteArray => Go.Value.string b)) (vv := (fun b : Bool => Go.Value.bool b)) (e1 := fun x : Bool => (vb x)) (mkey_str (by kernel_rfl)) (by kernel_rfl) false (fun _ => by kernel_rfl) (fun _ => rfl) x53.Name rfl s48.2) ?_
                refine tg_f (x := V.any) (fun h76 => rfl) ?_
                refine tg_f (x := V.any) (fun h78 => rfl) ?_
                refine tg_f (x := (T_Spot.e x53.At)) (fun h80 => bind_some_eq (gate_pos (not_t h80) (rfl))) ?_
                refine tg_f (x := (vb (mget s48.1 x53.At false))) (fun h83 => by simp only [gv_t h83]; exact bind_some_eq (gate_pos (not_t h83) (p_look (kt := 27) (et := 4) (kv := T_Spot.val) (vv := (fun b : Bool => Go.Value.bool b)) (e1 := fun x : Bool => (vb x)) T_Spot.mkey (by kernel_rfl) false (fun _ => by kernel_rfl) (fun _ => rfl) x53.At rfl s48.1))) ?_
                refine tb (x := (vb ((mget s48.2 x53.Name false) || (mget s48.1 x53.At false)))) (pick_or (fun h9 => gv_t (not_f h9))) ?_
                refine tcond (fun h87 => ?_) (fun h87 => ?_)
                · refine tb (x := (eV 7)) (p_mkE (by decide)) ?_
                  exact rf_ret rfl
                · refine tb (x := (vt x53.Name)) (rfl) ?_
                  refine tb (x := (vt x53.Name)) rfl ?_
                  refine tb (x := (T_Spot.e x53.At)) (rfl) ?_
                  refine tb (x := (T_Spot.e x53.At)) rfl ?_
                  refine tb (x := V.mp (mrep (fun b : ByteArray => Go.Value.string b) (fun b : Bool => Go.Value.bool b) (mput s48.2 x53.Name true))) (p_put (kt := 9) (et := 4) (kv := (fun b : ByteArray => Go.Value.string b)) (vv := (fun b : Bool => Go.Value.bool b)) (mkey_str (by kernel_rfl)) (by kernel_rfl) x53.Name true rfl rfl s48.2) ?_
                  refine tb (x := V.mp (mrep T_Spot.val (fun b : Bool => Go.Value.bool b) (mput s48.1 x53.At true))) (p_put (kt := 27) (et := 4) (kv := T_Spot.val) (vv := (fun b : Bool => Go.Value.bool b)) T_Spot.mkey (by kernel_rfl) x53.At true rfl rfl s48.1) ?_
                  refine tb (x := (vi ((i52 : Int) + 1))) (p_incN h55) ?_
                  refine tkeepO2 ?_ rfl
                  refine tsome ?_
                  exact h50 ((mput s48.1 x53.At true), (mput s48.2 x53.Name true))
          · refine tb (x := (vb (decide ((List.length a0.Hosts : Int) < (List.length a0.Hosts : Int))))) (d_lss) ?_
            refine tcond_f h96 ?_
            exact h45 ()
      · refine tkeepO2 ?_ rfl
        refine tsome ?_
        refine rf_loopI (mk := fun (i105 : Int) (s101 : (List (T_Spot × Bool))) => [(V.mp (mrep T_Spot.val (fun b : Bool => Go.Value.bool b) s101)), (vi (i105 : Int))]) hn a0.Links ([]) (fun i105 x106 h107 h108 h109 s101 rec99 k102 h103 => ?_) (fun s101 rec174 h173 => ?_)
        · refine tb (x := (vb (decide ((i105 : Int) < (List.length a0.Links : Int))))) (d_lss) ?_
          refine tcond_t h109 ?_
          refine tb (x := (V.ptr (T_Link.c x106))) (p_idx_at (c := T_Link.c) (fun _ => rfl) h107) ?_
          refine tb (x := (T_Link.e x106)) (rfl) ?_
          refine tb (x := V.agg (T_Link.c x106)) (by kernel_rfl) ?_
          refine tb (x := (T_Topo.e a0)) (rfl) ?_
          refine tb (x := (T_Spot.e x106.A)) (rfl) ?_
          refine tbo (ty_topo_Spot hn a0 x106.A) fun r117 => ?_
          refine tb (x := (vb (!r117))) (d_not) ?_
          refine tg_f (x := (T_Topo.e a0)) (fun h119 => bind_some_eq (rfl)) ?_
          refine tg_f (x := V.any) (fun h122 => rfl) ?_
          refine tg_f (x := (T_Spot.e x106.B)) (fun h124 => bind_some_eq (gate_pos (not_t h124) (rfl))) ?_
          refine tgo_f (fun h127 => by simp only [gv_t h127]; exact rf_bind_some (ty_topo_Spot hn a0 x106.B)) fun r130 => ?_
          refine tg_f (x := (vb (!r130))) (fun h131 => by simp only [gv_t h131]; exact bind_some_eq (d_not)) ?_
          refine tb (x := (vb ((!r117) || (!r130)))) (pick_or (fun h9 => gv_t (not_f h9))) ?_
          refine tcond (fun h135 => ?_) (fun h135 => ?_)
          · refine tb (x := (eV 1)) (p_mkE (by decide)) ?_
            exact rf_ret rfl
          · refine tb (x := (T_Spot.e x106.A)) (rfl) ?_
            refine tb (x := (vb (mget s101 x106.A false))) (p_look (kt := 27) (et := 4) (kv := T_Spot.val) (vv := (fun b : Bool => Go.Value.bool b)) (e1 := fun x : Bool => (vb x)) T_Spot.mkey (by kernel_rfl) false (fun _ => by kernel_rfl) (fun _ => rfl) x106.A rfl s101) ?_
            refine tg_f (x := V.any) (fun h139 => rfl) ?_
            refine tg_f (x := V.any) (fun h141 => rfl) ?_
            refine tg_f (x := (T_Spot.e x106.B)) (fun h143 => bind_some_eq (gate_pos (not_t h143) (rfl))) ?_
            refine tg_f (x := (vb (mget s101 x106.B false))) (fun h146 => by simp only [gv_t h146]; exact bind_some_eq (gate_pos (not_t h146) (p_look (kt := 27) (et := 4) (kv := T_Spot.val) (vv := (fun b : Bool => Go.Value.bool b)) (e1 := fun x : Bool => (vb x)) T_Spot.mkey (by kernel_rfl) false (fun _ => by kernel_rfl) (fun _ => rfl) x106.B rfl s101))) ?_
            refine tb (x := (vb ((mget s101 x106.A false) || (mget s101 x106.B false)))) (pick_or (fun h9 => gv_t (not_f h9))) ?_
            refine tg_f (x := V.any) (fun h150 => rfl) ?_
            refine tg_f (x := (T_Spot.e x106.A)) (fun h152 => bind_some_eq (gate_pos (not_t h152) (rfl))) ?_
            refine tg_f (x := V.any) (fun h155 => rfl) ?_
            refine tg_f (x := (T_Spot.e x106.B)) (fun h157 => bind_some_eq (gate_pos (not_t h157) (rfl))) ?_
            refine tg_f (x := (vb (decide (x106.A = x106.B)))) (fun h160 => by simp only [gv_t h160]; exact bind_some_eq (T_Spot.eql x106.A x106.B)) ?_
            refine tb (x := (vb (((mget s101 x106.A false) || (mget s101 x106.B false)) || (decide (x106.A = x106.B))))) (pick_or (fun h9 => gv_t (not_f h9))) ?_
            refine tcond (fun h164 => ?_) (fun h164 => ?_)
            · refine tb (x := (eV 7)) (p_mkE (by decide)) ?_
              exact rf_ret rfl
            · refine tb (x := (T_Spot.e x106.A)) (rfl) ?_
              refine tb (x := (T_Spot.e x106.A)) rfl ?_
              refine tb (x := (T_Spot.e x106.B)) (rfl) ?_
              refine tb (x := (T_Spot.e x106.B)) rfl ?_
              refine tb (x := V.mp (mrep T_Spot.val (fun b : Bool => Go.Value.bool b) (mput s101 x106.A true))) (p_put (kt := 27) (et := 4) (kv := T_Spot.val) (vv := (fun b : Bool => Go.Value.bool b)) T_Spot.mkey (by kernel_rfl) x106.A true rfl rfl s101) ?_
              refine tb (x := V.mp (mrep T_Spot.val (fun b : Bool => Go.Value.bool b) (mput (mput s101 x106.A true) x106.B true))) (p_put (kt := 27) (et := 4) (kv := T_Spot.val) (vv := (fun b : Bool => Go.Value.bool b)) T_Spot.mkey (by kernel_rfl) x106.B true rfl rfl (mput s101 x106.A true)) ?_
              refine tb (x := (vi ((i105 : Int) + 1))) (p_incN h108) ?_
              refine tkeepO2 ?_ rfl
              refine tsome ?_
              exact h103 (mput (mput s101 x106.A true) x106.B true)
        · refine tb (x := (vb (decide ((List.length a0.Links : Int) < (List.length a0.Links : Int))))) (d_lss) ?_
          refine tcond_f h173 ?_
          refine tkeepO2 ?_ rfl
          refine tsome ?_
          exact h38 (s101)

/-! railpoint/topo.ready -/
def an_topo_ready : Ann := .seq (.reg 0 [] [] []) (.seq (.seq (.reg 0 [] [] []) (.seq (.reg 0 [] [] []) (.cond none (.seq (.reg 0 [] [] []) (.no)) (.no)))) (.seq (.seq (.reg 0 [] [] []) (.cond none (.seq (.reg 0 [] [] []) (.no)) (.no))) (.seq (.reg 0 [] [] []) (.no))))
noncomputable def sem_topo_ready (n : Nat) (xs : List V) : Option V := if xs.length ≤ 16 then denF Try.prog (envOf [(11, (sem_topo_Check n)), (27, (sem_topo_Spot n))]) n Try.f16 an_topo_ready xs else none
theorem ok_topo_ready (n : Nat) : SemOk Try.prog DW 16 (sem_topo_ready n) := fun xs y h => by
  unfold sem_topo_ready at h
  split at h
  · rename_i hl
    exact denF_ok stb Try.func16 (by kernel_rfl) (envOf_ok (semsOk_cons (ok_topo_Check n) (semsOk_cons (ok_topo_Spot n) semsOk_nil))) (by rw [Try.ntmps16]; exact hl) h
  · cases h
theorem eq_topo_ready (n : Nat) (x0 x1 : V) : sem_topo_ready n [x0, x1] =
 (V.cellsO x0).bind fun v1 =>
 (V.cellsO x1).bind fun v2 =>
 (ldk (some 3) (List.drop 0 v1)).bind fun v3 =>
 ((sem_topo_Check n) [v3]).bind fun v4 =>
 (bin2 Try.prog BinOp.neq 31 (ot 8) (Operand.const Go.Value.nilIface) v4 vn).bind fun v5 =>
 condV v5 (
 some v4) (
 (ldk (some 3) (List.drop 0 v1)).bind fun v6 =>
 (ldk (some 2) (List.drop 0 v2)).bind fun v7 =>
 ((sem_topo_Spot n) [v6, v7]).bind fun v8 =>
 (scal1 Try.prog (Op.unary Go.UnOp.not) v8).bind fun v9 =>
 condV v9 (
 (scal1 Try.prog (Instr.makeInterface 69) (vi 1)).bind fun v10 =>
 some v10) (
 some vn)) := by kernel_rfl
noncomputable def t_topo_ready (a0 : T_Topo) (a1 : T_Spot) : Option Int :=
 (t_topo_Check a0).bind fun r5 =>
 if (!decide (r5 = 0)) = true then (
 some r5) else (
 (t_topo_Spot a0 a1).bind fun r11 =>
 if (!r11) = true then (
 some 1) else (
 some 0))
theorem ty_topo_ready {n : Nat} (hn : bigN ≤ n) (a0 : T_Topo) (a1 : T_Spot) : Rv (fun x : Int => (eV x)) (sem_topo_ready n [(T_Topo.e a0), (T_Spot.e a1)]) (t_topo_ready a0 a1) := by
  rw [eq_topo_ready]
  unfold t_topo_ready
  refine tb (x := (T_Topo.c a0)) rfl ?_
  refine tb (x := (T_Spot.c a1)) rfl ?_
  refine tb (x := (T_Topo.e a0)) (rfl) ?_
  refine tbo (ty_topo_Check hn a0) fun r5 => ?_
  refine tb (x := (vb (!decide (r5 = 0)))) (p_err_neq _) ?_
  refine tcond (fun h7 => ?_) (fun h7 => ?_)
  · exact rf_ret rfl
  · refine tb (x := (T_Topo.e a0)) (rfl) ?_
    refine tb (x := (T_Spot.e a1)) (rfl) ?_
    refine tbo (ty_topo_Spot hn a0 a1) fun r11 => ?_
    refine tb (x := (vb (!r11))) (d_not) ?_
    refine tcond (fun h13 => ?_) (fun h13 => ?_)
    · refine tb (x := (eV 1)) (p_mkE (by decide)) ?_
      exact rf_ret rfl
    · exact rf_ret rfl

/-! railpoint/topo.Other -/
def an_topo_Other : Ann := .seq (.reg 0 [] [] []) (.seq (.seq (.reg 0 [] [] []) (.blk (some [.b 4]) (.loop [.kb 3, .b 4, .s 11] (.seq (.reg 0 [] [] []) (.seq (.cond none (.no) (.no)) (.seq (.blk none (.seq (.reg 0 [] [] []) (.seq (.reg 0 [] [] []) (.blk none (.seq (.reg 0 [] [] []) (.cond none (.seq (.reg 0 [] [] []) (.no)) (.seq (.reg 0 [] [] []) (.cond none (.seq (.reg 0 [] [] []) (.no)) (.no))))))))) (.reg 0 [] [] []))))))) (.seq (.reg 0 [] [] []) (.no)))
noncomputable def sem_topo_Other (n : Nat) (xs : List V) : Option V := if xs.length ≤ 30 then denF Try.prog (envOf []) n Try.f17 an_topo_Other xs else none
theorem ok_topo_Other (n : Nat) : SemOk Try.prog DW 17 (sem_topo_Other n) := fun xs y h => by
  unfold sem_topo_Other at h
  split at h
  · rename_i hl
    exact denF_ok stb Try.func17 (by kernel_rfl) (envOf_ok semsOk_nil) (by rw [Try.ntmps17]; exact hl) h
  · cases h
theorem eq_topo_Other (n : Nat) (x0 x1 : V) : sem_topo_Other n [x0, x1] =
 (V.cellsO x0).bind fun v1 =>
 (V.cellsO x1).bind fun v2 =>
 (ldk none (List.drop 1 v1)).bind fun v3 =>
 (lenS [v3]).bind fun v4 =>
 JoinPt (fun vs5 =>
 ((fillL [(vi 0), (vi 0)] []).map V.agg).bind fun v7 =>
 (spliceV (aggL (List.getD vs5 0 V.any)) 0 2 v7).bind fun v8 =>
 (ldk (some 2) (List.drop 0 (aggL v8))).bind fun v9 =>
 some (V.tup [v9, (vb false)])) fun J6 =>
 (keepO (some v2) (some v2) (some [(V.agg [(vi 0), (vi 0)]), (vi 0)])).bind (fixN (fun rec10 vs11 =>
 (bin2 Try.prog BinOp.lss 3 (ot 11) (ot 10) (List.getD vs11 1 V.any) v4).bind fun v12 =>
 condV v12 (
 (idxS 4 v3 (List.getD vs11 1 V.any)).bind fun v13 =>
 (ldp (some 4) v13).bind fun v14 =>
 (spliceV [(vi 0), (vi 0), (vi 0), (vi 0)] 0 4 v14).bind fun v15 =>
 (ldk (some 2) (List.drop 0 v2)).bind fun v16 =>
 (ldk (some 2) (List.drop 0 (aggL v15))).bind fun v17 =>
 (bin2 Try.prog BinOp.eql 27 (ot 15) (ot 18) v16 v17).bind fun v18 =>
 condV v18 (
 (ldk (some 2) (List.drop 2 (aggL v15))).bind fun v19 =>
 (spliceV (aggL (List.getD vs11 0 V.any)) 0 2 v19).bind fun v20 =>
 (ldk (some 2) (List.drop 0 (aggL v20))).bind fun v21 =>
 some (V.tup [v21, (vb true)])) (
 (ldk (some 2) (List.drop 2 (aggL v15))).bind fun v22 =>
 (bin2 Try.prog BinOp.eql 27 (ot 15) (ot 24) v16 v22).bind fun v23 =>
 condV v23 (
 (ldk (some 2) (List.drop 0 (aggL v15))).bind fun v24 =>
 (spliceV (aggL (List.getD vs11 0 V.any)) 0 2 v24).bind fun v25 =>
 (ldk (some 2) (List.drop 0 (aggL v25))).bind fun v26 =>
 some (V.tup [v26, (vb true)])) (
 (bin2 Try.prog BinOp.add 3 (ot 11) (oc 1) (List.getD vs11 1 V.any) (vi 1)).bind fun v27 =>
 (keepO (some v2) (some v2) (some [(V.agg (aggL (List.getD vs11 0 V.any))), v27])).bind rec10))) (
 J6 [(V.agg (aggL (List.getD vs11 0 V.any)))])) n) := by kernel_rfl
noncomputable def t_topo_Other (a0 : T_Topo) (a1 : T_Spot) : Option (T_Spot × Bool) :=
 join (fun (s7 : T_Spot) =>
 some ((T_Spot.mk 0 0), false)) fun j8 =>
 loopI a0.Links (fun (i19 : Int) x20 (s15 : Unit) k16 =>
 if (decide (a1 = x20.A)) = true then (
 some (x20.B, true)) else (
 if (decide (a1 = x20.B)) = true then (
 some (x20.A, true)) else (
 k16 ()))) (fun (s15 : Unit) =>
 j8 (T_Spot.mk 0 0)) ()
theorem ty_topo_Other {n : Nat} (hn : bigN ≤ n) (a0 : T_Topo) (a1 : T_Spot) : Rv (fun x : (T_Spot × Bool) => V.tup [(T_Spot.e x.1), (vb x.2)]) (sem_topo_Other n [(T_Topo.e a0), (T_Spot.e a1)]) (t_topo_Other a0 a1) := by
  rw [eq_topo_Other]
  unfold t_topo_Other
  refine tb (x := (T_Topo.c a0)) rfl ?_
  refine tb (x := (T_Spot.c a1)) rfl ?_
  refine tb (x := (V.sl (List.map T_Link.c a0.Links))) (rfl) ?_
  refine tb (x := (vi (List.length a0.Links : Int))) (p_len _) ?_
  refine tjoin (mk := fun s7 : T_Spot => [(V.agg (T_Spot.c s7))]) (fun s7 => ?_) fun J6 j8 h9 => ?_
  · refine tb (x := (T_Spot.e (T_Spot.mk 0 0))) (by kernel_rfl) ?_
    refine tb (x := V.agg (T_Spot.c (T_Spot.mk 0 0))) (by kernel_rfl) ?_
    refine tb (x := (T_Spot.e (T_Spot.mk 0 0))) rfl ?_
    exact rf_ret rfl
  · refine tkeepO2 ?_ rfl
    refine tsome ?_
    refine rf_loopI (mk := fun (i19 : Int) (s15 : Unit) => [(V.agg (T_Spot.c (T_Spot.mk 0 0))), (vi (i19 : Int))]) hn a0.Links () (fun i19 x20 h21 h22 h23 s15 rec13 k16 h17 => ?_) (fun s15 rec43 h42 => ?_)
    · refine tb (x := (vb (decide ((i19 : Int) < (List.length a0.Links : Int))))) (d_lss) ?_
      refine tcond_t h23 ?_
      refine tb (x := (V.ptr (T_Link.c x20))) (p_idx_at (c := T_Link.c) (fun _ => rfl) h21) ?_
      refine tb (x := (T_Link.e x20)) (rfl) ?_
      refine tb (x := V.agg (T_Link.c x20)) (by kernel_rfl) ?_
      refine tb (x := (T_Spot.e a1)) (rfl) ?_
      refine tb (x := (T_Spot.e x20.A)) (rfl) ?_
      refine tb (x := (vb (decide (a1 = x20.A)))) (T_Spot.eql a1 x20.A) ?_
      refine tcond (fun h31 => ?_) (fun h31 => ?_)
      · refine tb (x := (T_Spot.e x20.B)) (rfl) ?_
        refine tb (x := V.agg (T_Spot.c x20.B)) (by kernel_rfl) ?_
        refine tb (x := (T_Spot.e x20.B)) rfl ?_
        exact rf_ret rfl
      · refine tb (x := (T_Spot.e x20.B)) (rfl) ?_
        refine tb (x := (vb (decide (a1 = x20.B)))) (T_Spot.eql a1 x20.B) ?_
        refine tcond (fun h37 => ?_) (fun h37 => ?_)
        · refine tb (x := (T_Spot.e x20.A)) (rfl) ?_
          refine tb (x := V.agg (T_Spot.c x20.A)) (by kernel_rfl) ?_
          refine tb (x := (T_Spot.e x20.A)) rfl ?_
          exact rf_ret rfl
        · refine tb (x := (vi ((i19 : Int) + 1))) (p_incN h22) ?_
          refine tkeepO2 ?_ rfl
          refine tsome ?_
          exact h17 ()
    · refine tb (x := (vb (decide ((List.length a0.Links : Int) < (List.length a0.Links : Int))))) (d_lss) ?_
      refine tcond_f h42 ?_
      exact h9 (T_Spot.mk 0 0)

/-! railpoint/topo.Peer -/
def an_topo_Peer : Ann := .seq (.reg 0 [] [] []) (.seq (.seq (.reg 0 [] [] []) (.seq (.reg 0 [] [] []) (.cond none (.seq (.reg 0 [] [] []) (.no)) (.no)))) (.seq (.reg 0 [] [] []) (.seq (.seq (.reg 0 [] [] []) (.cond none (.seq (.reg 0 [] [] []) (.no)) (.no))) (.seq (.reg 0 [] [] []) (.no)))))
noncomputable def sem_topo_Peer (n : Nat) (xs : List V) : Option V := if xs.length ≤ 27 then denF Try.prog (envOf [(16, (sem_topo_ready n)), (17, (sem_topo_Other n))]) n Try.f5 an_topo_Peer xs else none
theorem ok_topo_Peer (n : Nat) : SemOk Try.prog DW 5 (sem_topo_Peer n) := fun xs y h => by
  unfold sem_topo_Peer at h
  split at h
  · rename_i hl
    exact denF_ok stb Try.func5 (by kernel_rfl) (envOf_ok (semsOk_cons (ok_topo_ready n) (semsOk_cons (ok_topo_Other n) semsOk_nil))) (by rw [Try.ntmps5]; exact hl) h
  · cases h
theorem eq_topo_Peer (n : Nat) (x0 x1 : V) : sem_topo_Peer n [x0, x1] =
 (V.cellsO x0).bind fun v1 =>
 (V.cellsO x1).bind fun v2 =>
 (ldk (some 3) (List.drop 0 v1)).bind fun v3 =>
 (ldk (some 2) (List.drop 0 v2)).bind fun v4 =>
 ((sem_topo_ready n) [v3, v4]).bind fun v5 =>
 (bin2 Try.prog BinOp.neq 31 (ot 12) (Operand.const Go.Value.nilIface) v5 vn).bind fun v6 =>
 condV v6 (
 ((fillL [(vi 0), (vi 0)] []).map V.agg).bind fun v7 =>
 (spliceV [(vi 0), (vi 0)] 0 2 v7).bind fun v8 =>
 (ldk (some 2) (List.drop 0 (aggL v8))).bind fun v9 =>
 some (V.tup [v9, v5])) (
 (ldk (some 3) (List.drop 0 v1)).bind fun v10 =>
 (ldk (some 2) (List.drop 0 v2)).bind fun v11 =>
 ((sem_topo_Other n) [v10, v11]).bind fun v12 =>
 (extractV v12 0).bind fun v13 =>
 (extractV v12 1).bind fun v14 =>
 (spliceV [(vi 0), (vi 0)] 0 2 v13).bind fun v15 =>
 (scal1 Try.prog (Op.unary Go.UnOp.not) v14).bind fun v16 =>
 condV v16 (
 ((fillL [(vi 0), (vi 0)] []).map V.agg).bind fun v17 =>
 (scal1 Try.prog (Instr.makeInterface 69) (vi 5)).bind fun v18 =>
 (spliceV [(vi 0), (vi 0)] 0 2 v17).bind fun v19 =>
 (ldk (some 2) (List.drop 0 (aggL v19))).bind fun v20 =>
 some (V.tup [v20, v18])) (
 (ldk (some 2) (List.drop 0 (aggL v15))).bind fun v21 =>
 (spliceV [(vi 0), (vi 0)] 0 2 v21).bind fun v22 =>
 (ldk (some 2) (List.drop 0 (aggL v22))).bind fun v23 =>
 some (V.tup [v23, vn]))) := by kernel_rfl
noncomputable def t_topo_Peer (a0 : T_Topo) (a1 : T_Spot) : Option (T_Spot × Int) :=
 (t_topo_ready a0 a1).bind fun r6 =>
 if (!decide (r6 = 0)) = true then (
 some ((T_Spot.mk 0 0), r6)) else (
 (t_topo_Other a0 a1).bind fun r15 =>
 if (!r15.2) = true then (
 some ((T_Spot.mk 0 0), 5)) else (
 some (r15.1, 0)))
theorem ty_topo_Peer {n : Nat} (hn : bigN ≤ n) (a0 : T_Topo) (a1 : T_Spot) : Rv (fun x : (T_Spot × Int) => V.tup [(T_Spot.e x.1), (eV x.2)]) (sem_topo_Peer n [(T_Topo.e a0), (T_Spot.e a1)]) (t_topo_Peer a0 a1) := by
  rw [eq_topo_Peer]
  unfold t_topo_Peer
  refine tb (x := (T_Topo.c a0)) rfl ?_
  refine tb (x := (T_Spot.c a1)) rfl ?_
  refine tb (x := (T_Topo.e a0)) (rfl) ?_
  refine tb (x := (T_Spot.e a1)) (rfl) ?_
  refine tbo (ty_topo_ready hn a0 a1) fun r6 => ?_
  refine tb (x := (vb (!decide (r6 = 0)))) (p_err_neq _) ?_
  refine tcond (fun h8 => ?_) (fun h8 => ?_)
  · refine tb (x := (T_Spot.e (T_Spot.mk 0 0))) (by kernel_rfl) ?_
    refine tb (x := V.agg (T_Spot.c (T_Spot.mk 0 0))) (by kernel_rfl) ?_
    refine tb (x := (T_Spot.e (T_Spot.mk 0 0))) rfl ?_
    exact rf_ret rfl
  · refine tb (x := (T_Topo.e a0)) (rfl) ?_
    refine tb (x := (T_Spot.e a1)) (rfl) ?_
    refine tbo (ty_topo_Other hn a0 a1) fun r15 => ?_
    refine tb (x := (T_Spot.e r15.1)) (rfl) ?_
    refine tb (x := (vb r15.2)) (rfl) ?_
    refine tb (x := V.agg (T_Spot.c r15.1)) (by kernel_rfl) ?_
    refine tb (x := (vb (!r15.2))) (d_not) ?_
    refine tcond (fun h20 => ?_) (fun h20 => ?_)
    · refine tb (x := (T_Spot.e (T_Spot.mk 0 0))) (by kernel_rfl) ?_
      refine tb (x := (eV 5)) (p_mkE (by decide)) ?_
      refine tb (x := V.agg (T_Spot.c (T_Spot.mk 0 0))) (by kernel_rfl) ?_
      refine tb (x := (T_Spot.e (T_Spot.mk 0 0))) rfl ?_
      exact rf_ret rfl
    · refine tb (x := (T_Spot.e r15.1)) (rfl) ?_
      refine tb (x := V.agg (T_Spot.c r15.1)) (by kernel_rfl) ?_
      refine tb (x := (T_Spot.e r15.1)) rfl ?_
      exact rf_ret rfl

/-! slices.IndexFunc   railpoint/api.Host railpoint/api.Host  -/
def an_slices_IndexFunc_api_Host_api_Host : Ann := .seq (.reg 0 [] [] []) (.seq (.seq (.reg 0 [] [] []) (.blk (some []) (.loop [.s 8] (.seq (.reg 0 [] [] []) (.seq (.cond none (.no) (.no)) (.seq (.blk none (.seq (.reg 0 [] [] []) (.seq (.reg 0 [] [] []) (.cond none (.seq (.reg 0 [] [] []) (.no)) (.no))))) (.reg 0 [] [] []))))))) (.seq (.reg 0 [] [] []) (.no)))
noncomputable def sem_slices_IndexFunc_api_Host_api_Host (E : FuncId → List V → Option V) (n : Nat) (xs : List V) : Option V := if xs.length ≤ 19 then denF Try.prog (envJ [] E) n Try.f18 an_slices_IndexFunc_api_Host_api_Host xs else none
theorem ok_slices_IndexFunc_api_Host_api_Host {E : FuncId → List V → Option V} (hE : EnvOk Try.prog DW E) (n : Nat) : SemOk Try.prog DW 18 (sem_slices_IndexFunc_api_Host_api_Host E n) := fun xs y h => by
  unfold sem_slices_IndexFunc_api_Host_api_Host at h
  split at h
  · rename_i hl
    exact denF_ok stb Try.func18 (by kernel_rfl) (envJ_ok semsOk_nil hE) (by rw [Try.ntmps18]; exact hl) h
  · cases h
theorem eq_slices_IndexFunc_api_Host_api_Host (E : FuncId → List V → Option V) (n : Nat) (x0 x1 : V) : sem_slices_IndexFunc_api_Host_api_Host E n [x0, x1] =
 (lenS [x0]).bind fun v1 =>
 JoinPt (fun vs2 =>
 some (vi (-1 : Int))) fun J3 =>
 (fixN (fun rec4 vs5 =>
 (bin2 Try.prog BinOp.lss 3 (ot 8) (ot 7) (List.getD vs5 0 V.any) v1).bind fun v6 =>
 condV v6 (
 (idxS 3 x0 (List.getD vs5 0 V.any)).bind fun v7 =>
 (ldp (some 3) v7).bind fun v8 =>
 (callV (envJ [] E) x1 [v8]).bind fun v9 =>
 condV v9 (
 some (List.getD vs5 0 V.any)) (
 (bin2 Try.prog BinOp.add 3 (ot 8) (oc 1) (List.getD vs5 0 V.any) (vi 1)).bind fun v10 =>
 rec4 [v10])) (
 J3 [])) n) [(vi 0)] := by kernel_rfl
noncomputable def t_slices_IndexFunc_api_Host_api_Host (a0 : (List T_Host)) (g1 : T_Host → Option Bool) : Option Int :=
 join (fun (s4 : Unit) =>
 some (-1 : Int)) fun j5 =>
 loopI a0 (fun (i13 : Int) x14 (s9 : Unit) k10 =>
 (g1 x14).bind fun r22 =>
 if r22 = true then (
 some i13) else (
 k10 ())) (fun (s9 : Unit) =>
 j5 ()) ()
theorem ty_slices_IndexFunc_api_Host_api_Host {E : FuncId → List V → Option V} {n : Nat} (hn : bigN ≤ n) (a0 : (List T_Host)) {x1 : V} {g1 : T_Host → Option Bool} (hg_g1 : ∀ a0, Rv (fun x : Bool => (vb x)) (callV E x1 [(T_Host.e a0)]) (g1 a0)) : Rv (fun x : Int => (vi x)) (sem_slices_IndexFunc_api_Host_api_Host E n [(V.sl (List.map T_Host.c a0)), x1]) (t_slices_IndexFunc_api_Host_api_Host a0 g1) := by
  rw [eq_slices_IndexFunc_api_Host_api_Host]
  unfold t_slices_IndexFunc_api_Host_api_Host
  refine tb (x := (vi (List.length a0 : Int))) (p_len _) ?_
  refine tjoin (mk := fun s4 : Unit => []) (fun s4 => ?_) fun J3 j5 h6 => ?_
  · exact rf_ret rfl
  · refine rf_loopI (mk := fun (i13 : Int) (s9 : Unit) => [(vi (i13 : Int))]) hn a0 () (fun i13 x14 h15 h16 h17 s9 rec7 k10 h11 => ?_) (fun s9 rec26 h25 => ?_)
    · refine tb (x := (vb (decide ((i13 : Int) < (List.length a0 : Int))))) (d_lss) ?_
      refine tcond_t h17 ?_
      refine tb (x := (V.ptr (T_Host.c x14))) (p_idx_at (c := T_Host.c) (fun _ => rfl) h15) ?_
      refine tb (x := (T_Host.e x14)) (rfl) ?_
      refine tbo ((callV_J0 ▸ hg_g1 x14)) fun r22 => ?_
      refine tcond (fun h23 => ?_) (fun h23 => ?_)
      · exact rf_ret rfl
      · refine tb (x := (vi ((i13 : Int) + 1))) (p_incN h16) ?_
        exact h11 ()
    · refine tb (x := (vb (decide ((List.length a0 : Int) < (List.length a0 : Int))))) (d_lss) ?_
      refine tcond_f h25 ?_
      exact h6 ()

/-! railpoint/topo.Where$1 -/
def an_topo_Where_1 : Ann := .seq (.reg 0 [] [] []) (.seq (.reg 0 [] [] []) (.no))
noncomputable def sem_topo_Where_1 (n : Nat) (xs : List V) : Option V := if xs.length ≤ 8 then denF Try.prog (envOf []) n Try.f19 an_topo_Where_1 xs else none
theorem ok_topo_Where_1 (n : Nat) : SemOk Try.prog DW 19 (sem_topo_Where_1 n) := fun xs y h => by
  unfold sem_topo_Where_1 at h
  split at h
  · rename_i hl
    exact denF_ok stb Try.func19 (by kernel_rfl) (envOf_ok semsOk_nil) (by rw [Try.ntmps19]; exact hl) h
  · cases h
theorem eq_topo_Where_1 (n : Nat) (x0 x1 : V) : sem_topo_Where_1 n [x0, x1] =
 (V.cellsO x0).bind fun v1 =>
 (ldk none (List.drop 0 v1)).bind fun v2 =>
 (ldp none x1).bind fun v3 =>
 (bin2 Try.prog BinOp.eql 9 (ot 5) (ot 6) v2 v3).bind fun v4 =>
 some v4 := by kernel_rfl
noncomputable def t_topo_Where_1 (a0 : T_Host) (a1 : ByteArray) : Option Bool :=
 some (decide (a0.Name = a1))
theorem ty_topo_Where_1 {n : Nat} (hn : bigN ≤ n) (a0 : T_Host) (a1 : ByteArray) : Rv (fun x : Bool => (vb x)) (sem_topo_Where_1 n [(T_Host.e a0), (V.ptr [(vt a1)])]) (t_topo_Where_1 a0 a1) := by
  rw [eq_topo_Where_1]
  unfold t_topo_Where_1
  refine tb (x := (T_Host.c a0)) rfl ?_
  refine tb (x := (vt a0.Name)) (rfl) ?_
  refine tb (x := (vt a1)) (rfl) ?_
  refine tb (x := (vb (decide (a0.Name = a1)))) (p_eql_str) ?_
  exact rf_ret rfl

/-! railpoint/topo.Where -/
def an_topo_Where : Ann := .seq (.reg 0 [] [] []) (.seq (.seq (.reg 0 [3] [] []) (.seq (.reg 0 [] [] []) (.cond none (.seq (.reg 0 [] [] []) (.no)) (.no)))) (.seq (.reg 0 [] [] []) (.seq (.seq (.reg 0 [] [] []) (.cond none (.seq (.reg 0 [] [] []) (.no)) (.no))) (.seq (.reg 0 [] [] []) (.no)))))
noncomputable def sem_topo_Where (n : Nat) (xs : List V) : Option V := if xs.length ≤ 28 then denF Try.prog (envOf [(11, (sem_topo_Check n)), (18, (sem_slices_IndexFunc_api_Host_api_Host (envOf [(19, (sem_topo_Where_1 n))]) n)), (19, (sem_topo_Where_1 n))]) n Try.f6 an_topo_Where xs else none
theorem ok_topo_Where (n : Nat) : SemOk Try.prog DW 6 (sem_topo_Where n) := fun xs y h => by
  unfold sem_topo_Where at h
  split at h
  · rename_i hl
    exact denF_ok stb Try.func6 (by kernel_rfl) (envOf_ok (semsOk_cons (ok_topo_Check n) (semsOk_cons (ok_slices_IndexFunc_api_Host_api_Host (envOf_ok (semsOk_cons (ok_topo_Where_1 n) semsOk_nil)) n) (semsOk_cons (ok_topo_Where_1 n) semsOk_nil)))) (by rw [Try.ntmps6]; exact hl) h
  · cases h
theorem eq_topo_Where (n : Nat) (x0 x1 : V) : sem_topo_Where n [x0, x1] =
 (V.cellsO x0).bind fun v1 =>
 (V.cellsO x1).bind fun v2 =>
 (ldk (some 3) (List.drop 0 v1)).bind fun v3 =>
 ((sem_topo_Check n) [v3]).bind fun v4 =>
 (bin2 Try.prog BinOp.neq 31 (ot 10) (Operand.const Go.Value.nilIface) v4 vn).bind fun v5 =>
 condV v5 (
 ((fillL [(vi 0), (vi 0)] []).map V.agg).bind fun v6 =>
 (spliceV [(vi 0), (vi 0)] 0 2 v6).bind fun v7 =>
 (ldk (some 2) (List.drop 0 (aggL v7))).bind fun v8 =>
 some (V.tup [v8, v4])) (
 (ldk none (List.drop 2 v1)).bind fun v9 =>
 ((sem_slices_IndexFunc_api_Host_api_Host (envOf [(19, (sem_topo_Where_1 n))]) n) [v9, (V.fn 19 [(V.ptr v2)])]).bind fun v10 =>
 (bin2 Try.prog BinOp.lss 3 (ot 18) (oc 0) v10 (vi 0)).bind fun v11 =>
 condV v11 (
 ((fillL [(vi 0), (vi 0)] []).map V.agg).bind fun v12 =>
 (scal1 Try.prog (Instr.makeInterface 69) (vi 5)).bind fun v13 =>
 (spliceV [(vi 0), (vi 0)] 0 2 v12).bind fun v14 =>
 (ldk (some 2) (List.drop 0 (aggL v14))).bind fun v15 =>
 some (V.tup [v15, v13])) (
 (ldk none (List.drop 2 v1)).bind fun v16 =>
 (idxS 3 v16 v10).bind fun v17 =>
 (ptrF 1 v17).bind fun v18 =>
 (ldp (some 2) v18).bind fun v19 =>
 (spliceV [(vi 0), (vi 0)] 0 2 v19).bind fun v20 =>
 (ldk (some 2) (List.drop 0 (aggL v20))).bind fun v21 =>
 some (V.tup [v21, vn]))) := by kernel_rfl
noncomputable def t_topo_Where (a0 : T_Topo) (a1 : ByteArray) : Option (T_Spot × Int) :=
 (t_topo_Check a0).bind fun r5 =>
 if (!decide (r5 = 0)) = true then (
 some ((T_Spot.mk 0 0), r5)) else (
 (t_slices_IndexFunc_api_Host_api_Host a0.Hosts (fun (a12 : T_Host) => t_topo_Where_1 a12 a1)).bind fun r14 =>
 if (decide (r14 < 0)) = true then (
 some ((T_Spot.mk 0 0), 5)) else (
 (idx a0.Hosts r14).bind fun r23 =>
 some (r23.At, 0)))
theorem ty_topo_Where {n : Nat} (hn : bigN ≤ n) (a0 : T_Topo) (a1 : ByteArray) : Rv (fun x : (T_Spot × Int) => V.tup [(T_Spot.e x.1), (eV x.2)]) (sem_topo_Where n [(T_Topo.e a0), (vt a1)]) (t_topo_Where a0 a1) := by
  rw [eq_topo_Where]
  unfold t_topo_Where
  refine tb (x := (T_Topo.c a0)) rfl ?_
  refine tb (x := [(vt a1)]) rfl ?_
  refine tb (x := (T_Topo.e a0)) (rfl) ?_
  refine tbo (ty_topo_Check hn a0) fun r5 => ?_
  refine tb (x := (vb (!decide (r5 = 0)))) (p_err_neq _) ?_
  refine tcond (fun h7 => ?_) (fun h7 => ?_)
  · refine tb (x := (T_Spot.e (T_Spot.mk 0 0))) (by kernel_rfl) ?_
    refine tb (x := V.agg (T_Spot.c (T_Spot.mk 0 0))) (by kernel_rfl) ?_
    refine tb (x := (T_Spot.e (T_Spot.mk 0 0))) rfl ?_
    exact rf_ret rfl
  · refine tb (x := (V.sl (List.map T_Host.c a0.Hosts))) (rfl) ?_
    refine tbo (ty_slices_IndexFunc_api_Host_api_Host (E := (envOf [(19, (sem_topo_Where_1 n))])) (x1 := (V.fn 19 [(V.ptr [(vt a1)])])) (g1 := (fun (a12 : T_Host) => t_topo_Where_1 a12 a1)) hn a0.Hosts (fun a12 => ty_topo_Where_1 hn a12 a1)) fun r14 => ?_
    refine tb (x := (vb (decide (r14 < 0)))) (d_lss) ?_
    refine tcond (fun h16 => ?_) (fun h16 => ?_)
    · refine tb (x := (T_Spot.e (T_Spot.mk 0 0))) (by kernel_rfl) ?_
      refine tb (x := (eV 5)) (p_mkE (by decide)) ?_
      refine tb (x := V.agg (T_Spot.c (T_Spot.mk 0 0))) (by kernel_rfl) ?_
      refine tb (x := (T_Spot.e (T_Spot.mk 0 0))) rfl ?_
      exact rf_ret rfl
    · refine tb (x := (V.sl (List.map T_Host.c a0.Hosts))) (rfl) ?_
      refine tbo (p_idx (c := T_Host.c) (fun _ => rfl) a0.Hosts r14) fun r23 => ?_
      refine tb (x := (V.ptr (List.drop 1 (T_Host.c r23)))) (rfl) ?_
      refine tb (x := (T_Spot.e r23.At)) (rfl) ?_
      refine tb (x := V.agg (T_Spot.c r23.At)) (by kernel_rfl) ?_
      refine tb (x := (T_Spot.e r23.At)) rfl ?_
      exact rf_ret rfl

/-! railpoint/topo.Host$1 -/
def an_topo_Host_1 : Ann := .seq (.reg 0 [] [] []) (.seq (.reg 0 [] [] []) (.no))
noncomputable def sem_topo_Host_1 (n : Nat) (xs : List V) : Option V := if xs.length ≤ 8 then denF Try.prog (envOf []) n Try.f34 an_topo_Host_1 xs else none
theorem ok_topo_Host_1 (n : Nat) : SemOk Try.prog DW 34 (sem_topo_Host_1 n) := fun xs y h => by
  unfold sem_topo_Host_1 at h
  split at h
  · rename_i hl
    exact denF_ok stb Try.func34 (by kernel_rfl) (envOf_ok semsOk_nil) (by rw [Try.ntmps34]; exact hl) h
  · cases h
theorem eq_topo_Host_1 (n : Nat) (x0 x1 : V) : sem_topo_Host_1 n [x0, x1] =
 (V.cellsO x0).bind fun v1 =>
 (ldk (some 2) (List.drop 1 v1)).bind fun v2 =>
 (ldp (some 2) x1).bind fun v3 =>
 (bin2 Try.prog BinOp.eql 27 (ot 5) (ot 6) v2 v3).bind fun v4 =>
 some v4 := by kernel_rfl
noncomputable def t_topo_Host_1 (a0 : T_Host) (a1 : T_Spot) : Option Bool :=
 some (decide (a0.At = a1))
theorem ty_topo_Host_1 {n : Nat} (hn : bigN ≤ n) (a0 : T_Host) (a1 : T_Spot) : Rv (fun x : Bool => (vb x)) (sem_topo_Host_1 n [(T_Host.e a0), (V.ptr (T_Spot.c a1))]) (t_topo_Host_1 a0 a1) := by
  rw [eq_topo_Host_1]
  unfold t_topo_Host_1
  refine tb (x := (T_Host.c a0)) rfl ?_
  refine tb (x := (T_Spot.e a0.At)) (rfl) ?_
  refine tb (x := (T_Spot.e a1)) (rfl) ?_
  refine tb (x := (vb (decide (a0.At = a1)))) (T_Spot.eql a0.At a1) ?_
  exact rf_ret rfl

/-! railpoint/topo.Host -/
def an_topo_Host : Ann := .seq (.reg 0 [] [] []) (.seq (.reg 0 [3] [] []) (.seq (.seq (.reg 0 [] [] []) (.cond none (.seq (.reg 0 [] [] []) (.no)) (.no))) (.seq (.reg 0 [] [] []) (.no))))
noncomputable def sem_topo_Host (n : Nat) (xs : List V) : Option V := if xs.length ≤ 19 then denF Try.prog (envOf [(18, (sem_slices_IndexFunc_api_Host_api_Host (envOf [(34, (sem_topo_Host_1 n))]) n)), (34, (sem_topo_Host_1 n))]) n Try.f20 an_topo_Host xs else none
theorem ok_topo_Host (n : Nat) : SemOk Try.prog DW 20 (sem_topo_Host n) := fun xs y h => by
  unfold sem_topo_Host at h
  split at h
  · rename_i hl
    exact denF_ok stb Try.func20 (by kernel_rfl) (envOf_ok (semsOk_cons (ok_slices_IndexFunc_api_Host_api_Host (envOf_ok (semsOk_cons (ok_topo_Host_1 n) semsOk_nil)) n) (semsOk_cons (ok_topo_Host_1 n) semsOk_nil))) (by rw [Try.ntmps20]; exact hl) h
  · cases h
theorem eq_topo_Host (n : Nat) (x0 x1 : V) : sem_topo_Host n [x0, x1] =
 (V.cellsO x0).bind fun v1 =>
 (V.cellsO x1).bind fun v2 =>
 (ldk none (List.drop 2 v1)).bind fun v3 =>
 ((sem_slices_IndexFunc_api_Host_api_Host (envOf [(34, (sem_topo_Host_1 n))]) n) [v3, (V.fn 34 [(V.ptr v2)])]).bind fun v4 =>
 (bin2 Try.prog BinOp.lss 3 (ot 11) (oc 0) v4 (vi 0)).bind fun v5 =>
 condV v5 (
 some (V.tup [(V.lit (Go.Value.string (ByteArray.mk #[]))), (vb false)])) (
 (ldk none (List.drop 2 v1)).bind fun v6 =>
 (idxS 3 v6 v4).bind fun v7 =>
 (ptrF 0 v7).bind fun v8 =>
 (ldp none v8).bind fun v9 =>
 some (V.tup [v9, (vb true)])) := by kernel_rfl
noncomputable def t_topo_Host (a0 : T_Topo) (a1 : T_Spot) : Option (ByteArray × Bool) :=
 (t_slices_IndexFunc_api_Host_api_Host a0.Hosts (fun (a4 : T_Host) => t_topo_Host_1 a4 a1)).bind fun r6 =>
 if (decide (r6 < 0)) = true then (
 some ((ByteArray.mk #[]), false)) else (
 (idx a0.Hosts r6).bind fun r11 =>
 some (r11.Name, true))
theorem ty_topo_Host {n : Nat} (hn : bigN ≤ n) (a0 : T_Topo) (a1 : T_Spot) : Rv (fun x : (ByteArray × Bool) => V.tup [(vt x.1), (vb x.2)]) (sem_topo_Host n [(T_Topo.e a0), (T_Spot.e a1)]) (t_topo_Host a0 a1) := by
  rw [eq_topo_Host]
  unfold t_topo_Host
  refine tb (x := (T_Topo.c a0)) rfl ?_
  refine tb (x := (T_Spot.c a1)) rfl ?_
  refine tb (x := (V.sl (List.map T_Host.c a0.Hosts))) (rfl) ?_
  refine tbo (ty_slices_IndexFunc_api_Host_api_Host (E := (envOf [(34, (sem_topo_Host_1 n))])) (x1 := (V.fn 34 [(V.ptr (T_Spot.c a1))])) (g1 := (fun (a4 : T_Host) => t_topo_Host_1 a4 a1)) hn a0.Hosts (fun a4 => ty_topo_Host_1 hn a4 a1)) fun r6 => ?_
  refine tb (x := (vb (decide (r6 < 0)))) (d_lss) ?_
  refine tcond (fun h8 => ?_) (fun h8 => ?_)
  · exact rf_ret rfl
  · refine tb (x := (V.sl (List.map T_Host.c a0.Hosts))) (rfl) ?_
    refine tbo (p_idx (c := T_Host.c) (fun _ => rfl) a0.Hosts r6) fun r11 => ?_
    refine tb (x := (V.ptr (T_Host.c r11))) (rfl) ?_
    refine tb (x := (vt r11.Name)) (rfl) ?_
    exact rf_ret rfl

/-! railpoint/topo.At -/
def an_topo_At : Ann := .seq (.reg 0 [] [] []) (.seq (.seq (.reg 0 [] [] []) (.seq (.reg 0 [] [] []) (.cond none (.seq (.reg 0 [] [] []) (.no)) (.no)))) (.seq (.reg 0 [] [] []) (.seq (.seq (.reg 0 [] [] []) (.cond none (.seq (.reg 0 [] [] []) (.no)) (.no))) (.seq (.reg 0 [] [] []) (.no)))))
noncomputable def sem_topo_At (n : Nat) (xs : List V) : Option V := if xs.length ≤ 25 then denF Try.prog (envOf [(16, (sem_topo_ready n)), (20, (sem_topo_Host n))]) n Try.f7 an_topo_At xs else none
theorem ok_topo_At (n : Nat) : SemOk Try.prog DW 7 (sem_topo_At n) := fun xs y h => by
  unfold sem_topo_At at h
  split at h
  · rename_i hl
    exact denF_ok stb Try.func7 (by kernel_rfl) (envOf_ok (semsOk_cons (ok_topo_ready n) (semsOk_cons (ok_topo_Host n) semsOk_nil))) (by rw [Try.ntmps7]; exact hl) h
  · cases h
theorem eq_topo_At (n : Nat) (x0 x1 : V) : sem_topo_At n [x0, x1] =
 (V.cellsO x0).bind fun v1 =>
 (V.cellsO x1).bind fun v2 =>
 (ldk (some 3) (List.drop 0 v1)).bind fun v3 =>
 (ldk (some 2) (List.drop 0 v2)).bind fun v4 =>
 ((sem_topo_ready n) [v3, v4]).bind fun v5 =>
 (bin2 Try.prog BinOp.neq 31 (ot 12) (Operand.const Go.Value.nilIface) v5 vn).bind fun v6 =>
 condV v6 (
 some (V.tup [(V.lit (Go.Value.string (ByteArray.mk #[]))), v5])) (
 (ldk (some 3) (List.drop 0 v1)).bind fun v7 =>
 (ldk (some 2) (List.drop 0 v2)).bind fun v8 =>
 ((sem_topo_Host n) [v7, v8]).bind fun v9 =>
 (extractV v9 0).bind fun v10 =>
 (extractV v9 1).bind fun v11 =>
 (scal1 Try.prog (Op.unary Go.UnOp.not) v11).bind fun v12 =>
 condV v12 (
 (scal1 Try.prog (Instr.makeInterface 69) (vi 5)).bind fun v13 =>
 some (V.tup [(V.lit (Go.Value.string (ByteArray.mk #[]))), v13])) (
 some (V.tup [v10, vn]))) := by kernel_rfl
noncomputable def t_topo_At (a0 : T_Topo) (a1 : T_Spot) : Option (ByteArray × Int) :=
 (t_topo_ready a0 a1).bind fun r6 =>
 if (!decide (r6 = 0)) = true then (
 some ((ByteArray.mk #[]), r6)) else (
 (t_topo_Host a0 a1).bind fun r12 =>
 if (!r12.2) = true then (
 some ((ByteArray.mk #[]), 5)) else (
 some (r12.1, 0)))
theorem ty_topo_At {n : Nat} (hn : bigN ≤ n) (a0 : T_Topo) (a1 : T_Spot) : Rv (fun x : (ByteArray × Int) => V.tup [(vt x.1), (eV x.2)]) (sem_topo_At n [(T_Topo.e a0), (T_Spot.e a1)]) (t_topo_At a0 a1) := by
  rw [eq_topo_At]
  unfold t_topo_At
  refine tb (x := (T_Topo.c a0)) rfl ?_
  refine tb (x := (T_Spot.c a1)) rfl ?_
  refine tb (x := (T_Topo.e a0)) (rfl) ?_
  refine tb (x := (T_Spot.e a1)) (rfl) ?_
  refine tbo (ty_topo_ready hn a0 a1) fun r6 => ?_
  refine tb (x := (vb (!decide (r6 = 0)))) (p_err_neq _) ?_
  refine tcond (fun h8 => ?_) (fun h8 => ?_)
  · exact rf_ret rfl
  · refine tb (x := (T_Topo.e a0)) (rfl) ?_
    refine tb (x := (T_Spot.e a1)) (rfl) ?_
    refine tbo (ty_topo_Host hn a0 a1) fun r12 => ?_
    refine tb (x := (vt r12.1)) (rfl) ?_
    refine tb (x := (vb r12.2)) (rfl) ?_
    refine tb (x := (vb (!r12.2))) (d_not) ?_
    refine tcond (fun h16 => ?_) (fun h16 => ?_)
    · refine tb (x := (eV 5)) (p_mkE (by decide)) ?_
      exact rf_ret rfl
    · exact rf_ret rfl

/-! railpoint/topo.near -/
def an_topo_near : Ann := .seq (.reg 0 [] [] []) (.seq (.seq (.reg 0 [] [] []) (.blk (some [.n 4 1]) (.loop [.n 4 1, .s 10] (.seq (.reg 0 [] [] []) (.seq (.cond none (.no) (.no)) (.seq (.blk none (.seq (.reg 0 [] [] []) (.seq (.seq (.reg 0 [] [] []) (.cond (some [.kb 6, .n 4 1]) (.reg 0 [] [] [24]) (.no))) (.seq (.reg 0 [] [] []) (.cond (some [.n 4 1]) (.reg 0 [] [] [35]) (.no)))))) (.reg 0 [] [] []))))))) (.seq (.reg 0 [] [] []) (.seq (.reg 0 [] [] []) (.no))))
noncomputable def sem_topo_near (n : Nat) (xs : List V) : Option V := if xs.length ≤ 41 then denF Try.prog (envOf [(52 + 1000000, (semSort)), (53 + 1000000, (semCompact))]) n Try.f35 an_topo_near xs else none
theorem ok_topo_near (n : Nat) : SemOk Try.prog DW 35 (sem_topo_near n) := fun xs y h => by
  unfold sem_topo_near at h
  split at h
  · rename_i hl
    exact denF_ok stb Try.func35 (by kernel_rfl) (envOf_ok (semsOk_consM (mok_Sort) (semsOk_consM (mok_Compact) semsOk_nil))) (by rw [Try.ntmps35]; exact hl) h
  · cases h
theorem eq_topo_near (n : Nat) (x0 x1 : V) : sem_topo_near n [x0, x1] =
 (V.cellsO x0).bind fun v1 =>
 (ldk none (List.drop 1 v1)).bind fun v2 =>
 (lenS [v2]).bind fun v3 =>
 JoinPt (fun vs4 =>
 ((semSort) [(List.getD vs4 0 V.any)]).bind fun z6 =>
 (pureO (tupAt z6 0)).bind fun v7 =>
 ((semCompact) [(tupAt z6 1)]).bind fun z8 =>
 (pureO (tupAt z8 0)).bind fun v9 =>
 some v9) fun J5 =>
 (fixN (fun rec10 vs11 =>
 (bin2 Try.prog BinOp.lss 3 (ot 10) (ot 9) (List.getD vs11 1 V.any) v3).bind fun v12 =>
 condV v12 (
 (idxS 4 v2 (List.getD vs11 1 V.any)).bind fun v13 =>
 (ldp (some 4) v13).bind fun v14 =>
 (spliceV [(vi 0), (vi 0), (vi 0), (vi 0)] 0 4 v14).bind fun v15 =>
 (ldk none (List.drop 0 (aggL v15))).bind fun v16 =>
 (bin2 Try.prog BinOp.eql 3 (ot 16) (ot 17) v16 x1).bind fun v17 =>
 JoinPt (fun vs18 =>
 (ldk none (List.drop 2 (aggL v15))).bind fun v20 =>
 (bin2 Try.prog BinOp.eql 3 (ot 27) (ot 28) v20 x1).bind fun v21 =>
 JoinPt (fun vs22 =>
 (bin2 Try.prog BinOp.add 3 (ot 10) (oc 1) (List.getD vs11 1 V.any) (vi 1)).bind fun v24 =>
 rec10 [(List.getD vs22 0 V.any), v24]) fun J23 =>
 condV v21 (
 (ldk none (List.drop 0 (aggL v15))).bind fun v25 =>
 (slcB 1 1 [(vi 0)] [(0, v25)]).bind fun v26 =>
 (appS 1 (List.getD vs18 0 V.any) v26).bind fun v27 =>
 J23 [v27]) (
 J23 [(List.getD vs18 0 V.any)])) fun J19 =>
 condV v17 (
 (ldk none (List.drop 2 (aggL v15))).bind fun v28 =>
 (slcB 1 1 [(vi 0)] [(0, v28)]).bind fun v29 =>
 (appS 1 (List.getD vs11 0 V.any) v29).bind fun v30 =>
 (keepO (some (aggL v15)) (some (aggL v15)) (some [v30])).bind J19) (
 (keepO (some (aggL v15)) (some (aggL v15)) (some [(List.getD vs11 0 V.any)])).bind J19)) (
 J5 [(List.getD vs11 0 V.any)])) n) [(V.osl 1 []), (vi 0)] := by kernel_rfl
noncomputable def t_topo_near (a0 : T_Topo) (a1 : Int) : Option (List Int) :=
 (loopI a0.Links (fun (i21 : Int) x22 (s17 : (List Int)) k18 =>
 (if (decide (x22.A.Switch = a1)) = true then (
 (oapp s17 ([x22.B.Switch] : (List Int))).bind fun r52 =>
 some (r52)) else (
 some (s17))).bind fun (s34 : (List Int)) =>
 (if (decide (x22.B.Switch = a1)) = true then (
 (oapp s34 ([x22.A.Switch] : (List Int))).bind fun r48 =>
 some (r48)) else (
 some (s34))).bind fun (s41 : (List Int)) =>
 k18 (s41)) (fun (s17 : (List Int)) =>
 some (s17)) ([])).bind fun (s6 : (List Int)) =>
 (sortI s6).bind fun r10 =>
 (compactI r10).bind fun r13 =>
 some r13
theorem ty_topo_near {n : Nat} (hn : bigN ≤ n) (a0 : T_Topo) (a1 : Int) : Rv (fun x : (List Int) => (V.sl (List.map cI x))) (sem_topo_near n [(T_Topo.e a0), (vi a1)]) (t_topo_near a0 a1) := by
  rw [eq_topo_near]
  unfold t_topo_near
  refine tb (x := (T_Topo.c a0)) rfl ?_
  refine tb (x := (V.sl (List.map T_Link.c a0.Links))) (rfl) ?_
  refine tb (x := (vi (List.length a0.Links : Int))) (p_len _) ?_
  refine tjb (mk := fun s6 : (List Int) => [(V.osl 1 (List.map cI s6))]) (fun J5 => ?_) fun s6 => ?_
  · refine rf_loopI (mk := fun (i21 : Int) (s17 : (List Int)) => [(V.osl 1 (List.map cI s17)), (vi (i21 : Int))]) hn a0.Links ([]) (fun i21 x22 h23 h24 h25 s17 rec15 k18 h19 => ?_) (fun s17 rec54 h53 => ?_)
    · refine tb (x := (vb (decide ((i21 : Int) < (List.length a0.Links : Int))))) (d_lss) ?_
      refine tcond_t h25 ?_
      refine tb (x := (V.ptr (T_Link.c x22))) (p_idx_at (c := T_Link.c) (fun _ => rfl) h23) ?_
      refine tb (x := (T_Link.e x22)) (rfl) ?_
      refine tb (x := V.agg (T_Link.c x22)) (by kernel_rfl) ?_
      refine tb (x := (vi x22.A.Switch)) (rfl) ?_
      refine tb (x := (vb (decide (x22.A.Switch = a1)))) (d_eql) ?_
      refine tjb (mk := fun s34 : (List Int) => [(V.osl 1 (List.map cI s34))]) (fun J33 => ?_) fun s34 => ?_
      · refine tcond (fun h49 => ?_) (fun h49 => ?_)
        · refine tb (x := (vi x22.B.Switch)) (rfl) ?_
          refine tb (x := (V.sl (List.map cI ([x22.B.Switch] : (List Int))))) (by kernel_rfl) ?_
          refine tbo (p_oapp (c := cI) (fun _ => rfl) s17 ([x22.B.Switch] : (List Int))) fun r52 => ?_
          refine tkeepO2 ?_ rfl
          refine tsome ?_
          exact rf_j rfl
        · refine tkeepO2 ?_ rfl
          refine tsome ?_
          exact rf_j rfl
      · refine tb (x := (vi x22.B.Switch)) (rfl) ?_
        refine tb (x := (vb (decide (x22.B.Switch = a1)))) (d_eql) ?_
        refine tjb (mk := fun s41 : (List Int) => [(V.osl 1 (List.map cI s41))]) (fun J40 => ?_) fun s41 => ?_
        · refine tcond (fun h45 => ?_) (fun h45 => ?_)
          · refine tb (x := (vi x22.A.Switch)) (rfl) ?_
            refine tb (x := (V.sl (List.map cI ([x22.A.Switch] : (List Int))))) (by kernel_rfl) ?_
            refine tbo (p_oapp (c := cI) (fun _ => rfl) s34 ([x22.A.Switch] : (List Int))) fun r48 => ?_
            exact rf_j rfl
          · exact rf_j rfl
        · refine tb (x := (vi ((i21 : Int) + 1))) (p_incN h24) ?_
          exact h19 (s41)
    · refine tb (x := (vb (decide ((List.length a0.Links : Int) < (List.length a0.Links : Int))))) (d_lss) ?_
      refine tcond_f h53 ?_
      exact rf_j rfl
  · refine tbo (p_sort s6) fun r10 => ?_
    refine tb (x := (V.tup [])) rfl ?_
    refine tbo (p_compact r10) fun r13 => ?_
    refine tb (x := (V.sl (List.map cI r13))) rfl ?_
    exact rf_ret rfl

/-! railpoint/topo.Links -/
def an_topo_Links : Ann := .seq (.reg 0 [] [] []) (.seq (.reg 0 [] [] []) (.seq (.seq (.reg 0 [] [] []) (.blk (some [.kb 2, .o 5]) (.loop [.kb 2, .o 5, .s 16] (.seq (.reg 0 [] [] []) (.seq (.cond none (.no) (.no)) (.seq (.blk none (.seq (.reg 0 [] [] []) (.reg 0 [] [] []))) (.reg 0 [] [] []))))))) (.seq (.reg 0 [] [] []) (.seq (.seq (.reg 0 [] [] [27]) (.blk (some [.o 5]) (.loop [.kb 2, .o 5, .r 7 3] (.seq (.seq (.reg 0 [] [] []) (.cond none (.no) (.no))) (.seq (.blk (some [.kb 2, .o 5, .r 7 3]) (.seq (.reg 7 [] [] []) (.blk (some [.kb 2, .o 5, .r 7 3]) (.loop [.kb 2, .o 5, .r 7 3, .s 39] (.seq (.reg 0 [] [] []) (.seq (.cond none (.no) (.no)) (.seq (.blk none (.seq (.reg 0 [] [] []) (.seq (.reg 0 [] [] []) (.cond (some [.kb 2, .o 5, .r 7 3]) (.seq (.reg 0 [] [] []) (.reg 0 [] [] [])) (.no))))) (.reg 0 [] [] [])))))))) (.reg 0 [] [] [1000032])))))) (.seq (.reg 0 [5] [] []) (.no))))))
noncomputable def sem_topo_Links (n : Nat) (xs : List V) : Option V := if xs.length ≤ 64 then denF Try.prog (envOf [(35, (sem_topo_near n))]) n Try.f21 an_topo_Links xs else none
theorem ok_topo_Links (n : Nat) : SemOk Try.prog DW 21 (sem_topo_Links n) := fun xs y h => by
  unfold sem_topo_Links at h
  split at h
  · rename_i hl
    exact denF_ok stb Try.func21 (by kernel_rfl) (envOf_ok (semsOk_cons (ok_topo_near n) semsOk_nil)) (by rw [Try.ntmps21]; exact hl) h
  · cases h
theorem eq_topo_Links (n : Nat) (x0 x1 : V) : sem_topo_Links n [x0, x1] =
 (V.cellsO x0).bind fun v1 =>
 (ldk none (List.drop 0 v1)).bind fun v2 =>
 (bin2 Try.prog BinOp.add 3 (ot 11) (oc 1) v2 (vi 1)).bind fun v3 =>
 (makeN 1 [(vi 0)] v3 v3).bind fun v4 =>
 ((oslR v4).map fun rows => V.lit (Go.Value.int Go.IntKind.i64 (List.length rows))).bind fun v5 =>
 JoinPt (fun vs6 =>
 ((oslR (List.getD vs6 0 V.any)).bind fun rows8 => inB (List.length rows8) x1).bind fun v9 =>
 (V.cellsO (vi 0)).bind fun v10 =>
 (setV (List.getD vs6 0 V.any) [] (Stp.mk (some (natOf x1)) 0 1) 1 v10).bind fun v11 =>
 (slcB 1 1 [(vi 0)] [(0, x1)]).bind fun v12 =>
 JoinPt (fun vs13 =>
 (some (frz (List.getD vs13 0 V.any))).bind fun v15 =>
 some v15) fun J14 =>
 (keepO (some v1) (some v1) (some [v11, (V.sl (slL v12))])).bind (fixN (fun rec16 vs17 =>
 (lenS [(V.sl (slL (List.getD vs17 1 V.any)))]).bind fun v18 =>
 (bin2 Try.prog BinOp.gtr 3 (ot 29) (oc 0) v18 (vi 0)).bind fun v19 =>
 condV v19 (
 JoinPt (fun vs20 =>
 (tailV (slL (List.getD vs20 1 V.any)) (vi 1)).bind fun v22 =>
 (keepO (some v1) (some v1) (some [(List.getD vs20 0 V.any), (V.sl (slL v22))])).bind rec16) fun J21 =>
 (ldk (some 3) (List.drop 0 v1)).bind fun v23 =>
 (idxS 1 (V.sl (slL (List.getD vs17 1 V.any))) (vi 0)).bind fun v24 =>
 (ldp none v24).bind fun v25 =>
 ((sem_topo_near n) [v23, v25]).bind fun v26 =>
 (lenS [v26]).bind fun v27 =>
 JoinPt (fun vs28 =>
 (keepO (some v1) (some v1) (some [(List.getD vs28 0 V.any), (V.sl (slL (List.getD vs28 1 V.any)))])).bind J21) fun J29 =>
 (keepO (some v1) (some v1) (some [(List.getD vs17 0 V.any), (V.sl (slL (List.getD vs17 1 V.any))), (vi 0)])).bind (fixN (fun rec30 vs31 =>
 (bin2 Try.prog BinOp.lss 3 (ot 39) (ot 38) (List.getD vs31 2 V.any) v27).bind fun v32 =>
 condV v32 (
 (idxS 1 v26 (List.getD vs31 2 V.any)).bind fun v33 =>
 (ldp none v33).bind fun v34 =>
 ((oslR (List.getD vs31 0 V.any)).bind fun rows35 => inB (List.length rows35) v34).bind fun v36 =>
 ((nodeL (List.getD vs31 0 V.any) (some (natOf v34)) 1).bind fun l37 => (ldk none (List.drop 0 l37)).bind pureO).bind fun v38 =>
 (bin2 Try.prog BinOp.lss 3 (ot 46) (oc 0) v38 (vi 0)).bind fun v39 =>
 JoinPt (fun vs40 =>
 (bin2 Try.prog BinOp.add 3 (ot 39) (oc 1) (List.getD vs31 2 V.any) (vi 1)).bind fun v42 =>
 (keepO (some v1) (some v1) (some [(List.getD vs40 0 V.any), (V.sl (slL (List.getD vs40 1 V.any))), v42])).bind rec30) fun J41 =>
 condV v39 (
 (idxS 1 (V.sl (slL (List.getD vs31 1 V.any))) (vi 0)).bind fun v43 =>
 (ldp none v43).bind fun v44 =>
 ((oslR (List.getD vs31 0 V.any)).bind fun rows45 => inB (List.length rows45) v44).bind fun v46 =>
 ((nodeL (List.getD vs31 0 V.any) (some (natOf v44)) 1).bind fun l47 => (ldk none (List.drop 0 l47)).bind pureO).bind fun v48 =>
 (bin2 Try.prog BinOp.add 3 (ot 55) (oc 1) v48 (vi 1)).bind fun v49 =>
 ((oslR (List.getD vs31 0 V.any)).bind fun rows50 => inB (List.length rows50) v34).bind fun v51 =>
 (V.cellsO v49).bind fun v52 =>
 (setV (List.getD vs31 0 V.any) [] (Stp.mk (some (natOf v34)) 0 1) 1 v52).bind fun v53 =>
 (slcB 1 1 [(vi 0)] [(0, v34)]).bind fun v54 =>
 (appV 1 (slL (List.getD vs31 1 V.any)) v54).bind fun v55 =>
 (keepO (some v1) (some v1) (some [v53, (V.sl (slL v55))])).bind J41) (
 (keepO (some v1) (some v1) (some [(List.getD vs31 0 V.any), (V.sl (slL (List.getD vs31 1 V.any)))])).bind J41)) (
 (keepO (some v1) (some v1) (some [(List.getD vs31 0 V.any), (V.sl (slL (List.getD vs31 1 V.any)))])).bind J29)) n)) (
 J14 [(List.getD vs17 0 V.any)])) n)) fun J7 =>
 (keepO (some v1) (some v1) (some [v4, (vi 0)])).bind (fixN (fun rec56 vs57 =>
 (bin2 Try.prog BinOp.lss 3 (ot 16) (ot 15) (List.getD vs57 1 V.any) v5).bind fun v58 =>
 condV v58 (
 ((oslR (List.getD vs57 0 V.any)).bind fun rows59 => inB (List.length rows59) (List.getD vs57 1 V.any)).bind fun v60 =>
 (V.cellsO (vi (-1 : Int))).bind fun v61 =>
 (setV (List.getD vs57 0 V.any) [] (Stp.mk (some (natOf (List.getD vs57 1 V.any))) 0 1) 1 v61).bind fun v62 =>
 (bin2 Try.prog BinOp.add 3 (ot 16) (oc 1) (List.getD vs57 1 V.any) (vi 1)).bind fun v63 =>
 (keepO (some v1) (some v1) (some [v62, v63])).bind rec56) (
 (keepO (some v1) (some v1) (some [(List.getD vs57 0 V.any)])).bind J7)) n) := by kernel_rfl
noncomputable def t_topo_Links (a0 : T_Topo) (a1 : Int) : Option (List Int) :=
 (omake (wr (a0.Switches + 1)) (wr (a0.Switches + 1)) 0).bind fun r5 =>
 (loopI r5 (fun (i108 : Int) x109 (s104 : (List Int)) k105 =>
 need (decide (0 ≤ i108) && decide (i108 < (List.length s104 : Int))) (
 (oset s104 i108 (-1 : Int)).bind fun r118 =>
 k105 (r118))) (fun (s104 : (List Int)) =>
 some (s104)) (r5)).bind fun (s9 : (List Int)) =>
 need (decide (0 ≤ a1) && decide (a1 < (List.length s9 : Int))) (
 (oset s9 a1 0).bind fun r16 =>
 (tfix (fun k27 (s26 : ((List Int) × (List Int))) =>
 if (decide (0 < (List.length s26.2 : Int))) = true then (
 ((idx s26.2 0).bind fun r43 =>
 (t_topo_near a0 r43).bind fun r46 =>
 (loopI r46 (fun (i59 : Int) x60 (s55 : ((List Int) × (List Int))) k56 =>
 need (decide (0 ≤ x60) && decide (x60 < (List.length s55.1 : Int))) (
 (idx s55.1 x60).bind fun r70 =>
 (if (decide (r70 < 0)) = true then (
 (idx s55.2 0).bind fun r80 =>
 need (decide (0 ≤ r80) && decide (r80 < (List.length s55.1 : Int))) (
 (idx s55.1 r80).bind fun r85 =>
 need (decide (0 ≤ x60) && decide (x60 < (List.length s55.1 : Int))) (
 (oset s55.1 x60 (wr (r85 + 1))).bind fun r91 =>
 (app s55.2 ([x60] : (List Int))).bind fun r94 =>
 some (r91, r94)))) else (
 some (s55.1, s55.2))).bind fun (s74 : ((List Int) × (List Int))) =>
 k56 (s74.1, s74.2))) (fun (s55 : ((List Int) × (List Int))) =>
 some (s55.1, s55.2)) (s26.1, s26.2)).bind fun (s50 : ((List Int) × (List Int))) =>
 some (s50.1, s50.2)).bind fun (s36 : ((List Int) × (List Int))) =>
 (slc_lo s36.2 1).bind fun r40 =>
 k27 (s36.1, r40)) else (
 some (s26.1))) bigN (r16, ([a1] : (List Int)))).bind fun (s20 : (List Int)) =>
 some s20)
theorem ty_topo_Links {n : Nat} (hn : bigN ≤ n) (a0 : T_Topo) (a1 : Int) : Rv (fun x : (List Int) => (V.sl (List.map cI x))) (sem_topo_Links n [(T_Topo.e a0), (vi a1)]) (t_topo_Links a0 a1) := by
  rw [eq_topo_Links]
  unfold t_topo_Links
  refine tb (x := (T_Topo.c a0)) rfl ?_
  refine tb (x := (vi a0.Switches)) (rfl) ?_
  refine tb (x := (vi (wr (a0.Switches + 1)))) (d_add) ?_
  refine tbo (p_omake (c := cI) (wr (a0.Switches + 1)) (wr (a0.Switches + 1)) 0 rfl) fun r5 => ?_
  refine tb (x := (vi (List.length r5 : Int))) (p_olen _) ?_
  refine tjb (mk := fun s9 : (List Int) => [(V.osl 1 (List.map cI s9))]) (fun J8 => ?_) fun s9 => ?_
  · refine tkeepO2 ?_ rfl
    refine tsome ?_
    refine rf_loopI (mk := fun (i108 : Int) (s104 : (List Int)) => [(V.osl 1 (List.map cI s104)), (vi (i108 : Int))]) hn r5 (r5) (fun i108 x109 h110 h111 h112 s104 rec102 k105 h106 => ?_) (fun s104 rec122 h121 => ?_)
    · refine tb (x := (vb (decide ((i108 : Int) < (List.length r5 : Int))))) (d_lss) ?_
      refine tcond_t h112 ?_
      refine tneed (x := V.any) (fun h120 => p_inB s104 (i108 : Int) h120) fun h120 => ?_
      refine tb (x := cI (-1 : Int)) rfl ?_
      refine tbo (p_oset (c := cI) (fun _ => rfl) s104 (i108 : Int) (-1 : Int)) fun r118 => ?_
      refine tb (x := (vi ((i108 : Int) + 1))) (p_incN h111) ?_
      refine tkeepO2 ?_ rfl
      refine tsome ?_
      exact h106 (r118)
    · refine tb (x := (vb (decide ((List.length r5 : Int) < (List.length r5 : Int))))) (d_lss) ?_
      refine tcond_f h121 ?_
      refine tkeepO2 ?_ rfl
      refine tsome ?_
      exact rf_j rfl
  · refine tneed (x := V.any) (fun h101 => p_inB s9 a1 h101) fun h101 => ?_
    refine tb (x := cI 0) rfl ?_
    refine tbo (p_oset (c := cI) (fun _ => rfl) s9 a1 0) fun r16 => ?_
    refine tb (x := (V.sl (List.map cI ([a1] : (List Int))))) (by kernel_rfl) ?_
    refine tjb (mk := fun s20 : (List Int) => [(V.osl 1 (List.map cI s20))]) (fun J19 => ?_) fun s20 => ?_
    · refine tkeepO2 ?_ rfl
      refine tsome ?_
      refine rf_fixN (mk := fun (s26 : ((List Int) × (List Int))) => [(V.osl 1 (List.map cI s26.1)), (V.sl (List.map cI s26.2))]) hn (r16, ([a1] : (List Int))) (fun rec24 k27 h28 s26 => ?_)
      refine tb (x := (vi (List.length s26.2 : Int))) (p_len _) ?_
      refine tb (x := (vb (decide (0 < (List.length s26.2 : Int))))) (d_gtr) ?_
      refine tcond (fun h33 => ?_) (fun h33 => ?_)
      · refine tjb (mk := fun s36 : ((List Int) × (List Int)) => [(V.osl 1 (List.map cI s36.1)), (V.sl (List.map cI s36.2))]) (fun J35 => ?_) fun s36 => ?_
        · refine tb (x := (T_Topo.e a0)) (rfl) ?_
          refine tbo (p_idx (c := cI) (fun _ => rfl) s26.2 0) fun r43 => ?_
          refine tb (x := (vi r43)) (rfl) ?_
          refine tbo (ty_topo_near hn a0 r43) fun r46 => ?_
          refine tb (x := (vi (List.length r46 : Int))) (p_len _) ?_
          refine tjb (mk := fun s50 : ((List Int) × (List Int)) => [(V.osl 1 (List.map cI s50.1)), (V.sl (List.map cI s50.2))]) (fun J49 => ?_) fun s50 => ?_
          · refine tkeepO2 ?_ rfl
            refine tsome ?_
            refine rf_loopI (mk := fun (i59 : Int) (s55 : ((List Int) × (List Int))) => [(V.osl 1 (List.map cI s55.1)), (V.sl (List.map cI s55.2)), (vi (i59 : Int))]) hn r46 (s26.1, s26.2) (fun i59 x60 h61 h62 h63 s55 rec53 k56 h57 => ?_) (fun s55 rec99 h98 => ?_)
            · refine tb (x := (vb (decide ((i59 : Int) < (List.length r46 : Int))))) (d_lss) ?_
              refine tcond_t h63 ?_
              refine tb (x := (V.ptr [(vi x60)])) (p_idx_at (c := cI) (fun _ => rfl) h61) ?_
              refine tb (x := (vi x60)) (rfl) ?_
              refine tneed (x := V.any) (fun h97 => p_inB s55.1 x60 h97) fun h97 => ?_
              refine tbo (p_oload (e1 := fun x : Int => (vi x)) (c := cI) (fun _ => rfl) s55.1 x60 (fun _ => rfl)) fun r70 => ?_
              refine tb (x := (vb (decide (r70 < 0)))) (d_lss) ?_
              refine tjb (mk := fun s74 : ((List Int) × (List Int)) => [(V.osl 1 (List.map cI s74.1)), (V.sl (List.map cI s74.2))]) (fun J73 => ?_) fun s74 => ?_
              · refine tcond (fun h78 => ?_) (fun h78 => ?_)
                · refine tbo (p_idx (c := cI) (fun _ => rfl) s55.2 0) fun r80 => ?_
                  refine tb (x := (vi r80)) (rfl) ?_
                  refine tneed (x := V.any) (fun h96 => p_inB s55.1 r80 h96) fun h96 => ?_
                  refine tbo (p_oload (e1 := fun x : Int => (vi x)) (c := cI) (fun _ => rfl) s55.1 r80 (fun _ => rfl)) fun r85 => ?_
                  refine tb (x := (vi (wr (r85 + 1)))) (d_add) ?_
                  refine tneed (x := V.any) (fun h95 => p_inB s55.1 x60 h95) fun h95 => ?_
                  refine tb (x := cI (wr (r85 + 1))) rfl ?_
                  refine tbo (p_oset (c := cI) (fun _ => rfl) s55.1 x60 (wr (r85 + 1))) fun r91 => ?_
                  refine tb (x := (V.sl (List.map cI ([x60] : (List Int))))) (by kernel_rfl) ?_
                  refine tbo (p_app (c := cI) (fun _ => rfl) s55.2 ([x60] : (List Int))) fun r94 => ?_
                  refine tkeepO2 ?_ rfl
                  refine tsome ?_
                  exact rf_j rfl
                · refine tkeepO2 ?_ rfl
                  refine tsome ?_
                  exact rf_j rfl
              · refine tb (x := (vi ((i59 : Int) + 1))) (p_incN h62) ?_
                refine tkeepO2 ?_ rfl
                refine tsome ?_
                exact h57 (s74.1, s74.2)
            · refine tb (x := (vb (decide ((List.length r46 : Int) < (List.length r46 : Int))))) (d_lss) ?_
              refine tcond_f h98 ?_
              refine tkeepO2 ?_ rfl
              refine tsome ?_
              exact rf_j rfl
          · refine tkeepO2 ?_ rfl
            refine tsome ?_
            exact rf_j rfl
        · refine tbo (p_tail (c := cI) s36.2 1) fun r40 => ?_
          refine tkeepO2 ?_ rfl
          refine tsome ?_
          exact h28 (s36.1, r40)
      · exact rf_j rfl
    · refine tb (x := (V.sl (List.map cI s20))) (p_frz (c := cI) (fun _ => rfl) s20) ?_
      exact rf_ret rfl

/-! railpoint/topo.Far -/
def an_topo_Far : Ann := .seq (.reg 0 [] [] []) (.seq (.seq (.reg 0 [] [] []) (.blk (some [.kb 3]) (.loop [.kb 3, .s 16] (.seq (.reg 0 [] [] []) (.seq (.cond none (.no) (.no)) (.seq (.blk none (.seq (.reg 0 [] [] []) (.seq (.reg 0 [] [] []) (.seq (.reg 0 [] [] []) (.cond none (.seq (.reg 0 [] [] []) (.no)) (.no)))))) (.reg 0 [] [] []))))))) (.seq (.reg 0 [] [] []) (.seq (.seq (.reg 0 [] [] []) (.cond none (.seq (.reg 0 [] [] []) (.no)) (.no))) (.seq (.reg 0 [] [] []) (.no)))))
noncomputable def sem_topo_Far (n : Nat) (xs : List V) : Option V := if xs.length ≤ 38 then denF Try.prog (envOf [(16, (sem_topo_ready n)), (21, (sem_topo_Links n))]) n Try.f8 an_topo_Far xs else none
theorem ok_topo_Far (n : Nat) : SemOk Try.prog DW 8 (sem_topo_Far n) := fun xs y h => by
  unfold sem_topo_Far at h
  split at h
  · rename_i hl
    exact denF_ok stb Try.func8 (by kernel_rfl) (envOf_ok (semsOk_cons (ok_topo_ready n) (semsOk_cons (ok_topo_Links n) semsOk_nil))) (by rw [Try.ntmps8]; exact hl) h
  · cases h
theorem eq_topo_Far (n : Nat) (x0 x1 x2 : V) : sem_topo_Far n [x0, x1, x2] =
 (V.cellsO x0).bind fun v1 =>
 (slcB 1 2 [(vi 0)] [(0, x1), (1, x2)]).bind fun v2 =>
 (lenS [v2]).bind fun v3 =>
 JoinPt (fun vs4 =>
 (ldk (some 3) (List.drop 0 v1)).bind fun v6 =>
 ((sem_topo_Links n) [v6, x1]).bind fun v7 =>
 (idxS 1 v7 x2).bind fun v8 =>
 (ldp none v8).bind fun v9 =>
 (bin2 Try.prog BinOp.lss 3 (ot 34) (oc 0) v9 (vi 0)).bind fun v10 =>
 condV v10 (
 (scal1 Try.prog (Instr.makeInterface 69) (vi 5)).bind fun v11 =>
 some (V.tup [(vi 0), v11])) (
 some (V.tup [v9, vn]))) fun J5 =>
 (keepO (some v1) (some v1) (some [(vi 0)])).bind (fixN (fun rec12 vs13 =>
 (bin2 Try.prog BinOp.lss 3 (ot 16) (ot 15) (List.getD vs13 0 V.any) v3).bind fun v14 =>
 condV v14 (
 (idxS 1 v2 (List.getD vs13 0 V.any)).bind fun v15 =>
 (ldp none v15).bind fun v16 =>
 (ldk (some 3) (List.drop 0 v1)).bind fun v17 =>
 ((fillL [(vi 0), (vi 0)] [(0, 1, v16), (1, 1, (vi 1))]).map V.agg).bind fun v18 =>
 ((sem_topo_ready n) [v17, v18]).bind fun v19 =>
 (bin2 Try.prog BinOp.neq 31 (ot 24) (Operand.const Go.Value.nilIface) v19 vn).bind fun v20 =>
 condV v20 (
 some (V.tup [(vi 0), v19])) (
 (bin2 Try.prog BinOp.add 3 (ot 16) (oc 1) (List.getD vs13 0 V.any) (vi 1)).bind fun v21 =>
 (keepO (some v1) (some v1) (some [v21])).bind rec12)) (
 (keepO (some v1) (some v1) (some [])).bind J5)) n) := by kernel_rfl
noncomputable def t_topo_Far (a0 : T_Topo) (a1 : Int) (a2 : Int) : Option (Int × Int) :=
 join (fun (s6 : Unit) =>
 (t_topo_Links a0 a1).bind fun r11 =>
 (idx r11 a2).bind fun r13 =>
 if (decide (r13 < 0)) = true then (
 some (0, 5)) else (
 some (r13, 0))) fun j7 =>
 loopI ([a1, a2] : (List Int)) (fun (i24 : Int) x25 (s20 : Unit) k21 =>
 (t_topo_ready a0 (T_Spot.mk x25 1)).bind fun r35 =>
 if (!decide (r35 = 0)) = true then (
 some (0, r35)) else (
 k21 ())) (fun (s20 : Unit) =>
 j7 ()) ()
theorem ty_topo_Far {n : Nat} (hn : bigN ≤ n) (a0 : T_Topo) (a1 : Int) (a2 : Int) : Rv (fun x : (Int × Int) => V.tup [(vi x.1), (eV x.2)]) (sem_topo_Far n [(T_Topo.e a0), (vi a1), (vi a2)]) (t_topo_Far a0 a1 a2) := by
  rw [eq_topo_Far]
  unfold t_topo_Far
  refine tb (x := (T_Topo.c a0)) rfl ?_
  refine tb (x := (V.sl (List.map cI ([a1, a2] : (List Int))))) (by kernel_rfl) ?_
  refine tb (x := (vi (List.length ([a1, a2] : (List Int)) : Int))) (p_len _) ?_
  refine tjoin (mk := fun s6 : Unit => []) (fun s6 => ?_) fun J5 j7 h8 => ?_
  · refine tb (x := (T_Topo.e a0)) (rfl) ?_
    refine tbo (ty_topo_Links hn a0 a1) fun r11 => ?_
    refine tbo (p_idx (c := cI) (fun _ => rfl) r11 a2) fun r13 => ?_
    refine tb (x := (vi r13)) (rfl) ?_
    refine tb (x := (vb (decide (r13 < 0)))) (d_lss) ?_
    refine tcond (fun h16 => ?_) (fun h16 => ?_)
    · refine tb (x := (eV 5)) (p_mkE (by decide)) ?_
      exact rf_ret rfl
    · exact rf_ret rfl
  · refine tkeepO2 ?_ rfl
    refine tsome ?_
    refine rf_loopI (mk := fun (i24 : Int) (s20 : Unit) => [(vi (i24 : Int))]) hn ([a1, a2] : (List Int)) () (fun i24 x25 h26 h27 h28 s20 rec18 k21 h22 => ?_) (fun s20 rec40 h39 => ?_)
    · refine tb (x := (vb (decide ((i24 : Int) < (List.length ([a1, a2] : (List Int)) : Int))))) (d_lss) ?_
      refine tcond_t h28 ?_
      refine tb (x := (V.ptr [(vi x25)])) (p_idx_at (c := cI) (fun _ => rfl) h26) ?_
      refine tb (x := (vi x25)) (rfl) ?_
      refine tb (x := (T_Topo.e a0)) (rfl) ?_
      refine tb (x := (T_Spot.e (T_Spot.mk x25 1))) (by kernel_rfl) ?_
      refine tbo (ty_topo_ready hn a0 (T_Spot.mk x25 1)) fun r35 => ?_
      refine tb (x := (vb (!decide (r35 = 0)))) (p_err_neq _) ?_
      refine tcond (fun h37 => ?_) (fun h37 => ?_)
      · exact rf_ret rfl
      · refine tb (x := (vi ((i24 : Int) + 1))) (p_incN h27) ?_
        refine tkeepO2 ?_ rfl
        refine tsome ?_
        exact h22 ()
    · refine tb (x := (vb (decide ((List.length ([a1, a2] : (List Int)) : Int) < (List.length ([a1, a2] : (List Int)) : Int))))) (d_lss) ?_
      refine tcond_f h39 ?_
      refine tkeepO2 ?_ rfl
      refine tsome ?_
      exact h8 ()

/-! railpoint/raillaw1.TopoBack -/
def an_raillaw1_TopoBack : Ann := .seq (.reg 0 [] [] []) (.seq (.reg 0 [] [] []) (.seq (.reg 0 [] [] []) (.seq (.seq (.reg 0 [] [] []) (.cond none (.seq (.reg 0 [] [] []) (.no)) (.no))) (.seq (.reg 0 [] [] []) (.seq (.seq (.reg 0 [] [] []) (.cond (some [.kb 6]) (.seq (.reg 0 [] [] []) (.seq (.reg 0 [] [] []) (.cond none (.seq (.reg 0 [] [] []) (.no)) (.no)))) (.no))) (.seq (.reg 0 [] [] []) (.seq (.seq (.reg 0 [] [] []) (.cond (some [.kb 6]) (.seq (.reg 0 [] [] []) (.seq (.reg 0 [] [] []) (.cond none (.seq (.reg 0 [] [] []) (.no)) (.no)))) (.no))) (.seq (.reg 0 [] [] []) (.seq (.reg 0 [] [] []) (.seq (.seq (.reg 10 [] [] []) (.cond none (.seq (.reg 0 [] [] []) (.no)) (.no))) (.seq (.reg 0 [] [] []) (.seq (.reg 0 [] [] []) (.seq (.reg 0 [] [] []) (.no))))))))))))))
noncomputable def sem_raillaw1_TopoBack (n : Nat) (xs : List V) : Option V := if xs.length ≤ 176 then denF Try.prog (envOf [(5, (sem_topo_Peer n)), (6, (sem_topo_Where n)), (7, (sem_topo_At n)), (8, (sem_topo_Far n))]) n Try.f3 an_raillaw1_TopoBack xs else none
theorem ok_raillaw1_TopoBack (n : Nat) : SemOk Try.prog DW 3 (sem_raillaw1_TopoBack n) := fun xs y h => by
  unfold sem_raillaw1_TopoBack at h
  split at h
  · rename_i hl
    exact denF_ok stb Try.func3 (by kernel_rfl) (envOf_ok (semsOk_cons (ok_topo_Peer n) (semsOk_cons (ok_topo_Where n) (semsOk_cons (ok_topo_At n) (semsOk_cons (ok_topo_Far n) semsOk_nil))))) (by rw [Try.ntmps3]; exact hl) h
  · cases h
theorem eq_raillaw1_TopoBack (n : Nat) (x0 x1 x2 x3 x4 x5 : V) : sem_raillaw1_TopoBack n [x0, x1, x2, x3, x4, x5] =
 (V.cellsO x0).bind fun v1 =>
 (V.cellsO x1).bind fun v2 =>
 ((fillL [(vi 0), (vi 0)] [(0, 1, (vi 1)), (1, 1, (vi 1))]).map V.agg).bind fun v3 =>
 ((fillL [(vi 0), (vi 0)] [(0, 1, (vi 2)), (1, 1, (vi 3))]).map V.agg).bind fun v4 =>
 ((fillL [(vi 0), (vi 0), (vi 0), (vi 0)] [(0, 2, v3), (2, 2, v4)]).map V.agg).bind fun v5 =>
 (slcB 4 1 [(vi 0), (vi 0), (vi 0), (vi 0)] [(0, v5)]).bind fun v6 =>
 ((fillL [(vi 0), (V.sl []), (V.sl [])] [(0, 1, (vi 2)), (1, 1, v6)]).map V.agg).bind fun v7 =>
 (spliceV [(vi 0), (V.sl []), (V.sl [])] 0 3 v7).bind fun v8 =>
 (ldk (some 3) (List.drop 0 (aggL v8))).bind fun v9 =>
 ((fillL [(vi 0), (vi 0)] [(0, 1, (vi 2)), (1, 1, (vi 3))]).map V.agg).bind fun v10 =>
 ((sem_topo_Peer n) [v9, v10]).bind fun v11 =>
 (extractV v11 0).bind fun v12 =>
 (extractV v11 1).bind fun v13 =>
 (spliceV [(vi 0), (vi 0)] 0 2 v12).bind fun v14 =>
 (bin2 Try.prog BinOp.neq 31 (ot 41) (Operand.const Go.Value.nilIface) v13 vn).bind fun v15 =>
 (guardV v15 false (some V.any)).bind fun v16 =>
 (guardV v15 false ((gate v15 false (ldk none (List.drop 0 (aggL v14)))).bind fun v17 =>
 some v17)).bind fun v18 =>
 (guardV v15 false ((bin2 Try.prog BinOp.neq 3 (ot 45) (oc 1) v18 (vi 1)).bind fun v19 =>
 some v19)).bind fun v20 =>
 (pickV v15 (vb true) v20).bind fun v21 =>
 (guardV v21 false (some V.any)).bind fun v22 =>
 (guardV v21 false ((gate v21 false (ldk none (List.drop 1 (aggL v14)))).bind fun v23 =>
 some v23)).bind fun v24 =>
 (guardV v21 false ((bin2 Try.prog BinOp.neq 3 (ot 50) (oc 1) v24 (vi 1)).bind fun v25 =>
 some v25)).bind fun v26 =>
 (pickV v21 (vb true) v26).bind fun v27 =>
 condV v27 (
 some (vb false)) (
 (ldk (some 3) (List.drop 0 v1)).bind fun v28 =>
 (ldk (some 2) (List.drop 0 v2)).bind fun v29 =>
 ((sem_topo_Peer n) [v28, v29]).bind fun v30 =>
 (extractV v30 0).bind fun v31 =>
 (extractV v30 1).bind fun v32 =>
 (spliceV [(vi 0), (vi 0)] 0 2 v31).bind fun v33 =>
 (bin2 Try.prog BinOp.eql 31 (ot 59) (Operand.const Go.Value.nilIface) v32 vn).bind fun v34 =>
 JoinPt (fun vs35 =>
 (ldk (some 3) (List.drop 0 v1)).bind fun v37 =>
 ((sem_topo_Where n) [v37, x2]).bind fun v38 =>
 (extractV v38 0).bind fun v39 =>
 (extractV v38 1).bind fun v40 =>
 (spliceV [(vi 0), (vi 0)] 0 2 v39).bind fun v41 =>
 (bin2 Try.prog BinOp.eql 31 (ot 85) (Operand.const Go.Value.nilIface) v40 vn).bind fun v42 =>
 JoinPt (fun vs43 =>
 (ldk (some 3) (List.drop 0 v1)).bind fun v45 =>
 ((sem_topo_Far n) [v45, x3, x4]).bind fun v46 =>
 (extractV v46 0).bind fun v47 =>
 (extractV v46 1).bind fun v48 =>
 (ldk (some 3) (List.drop 0 v1)).bind fun v49 =>
 ((sem_topo_Far n) [v49, x4, x3]).bind fun v50 =>
 (extractV v50 0).bind fun v51 =>
 (extractV v50 1).bind fun v52 =>
 (bin2 Try.prog BinOp.eql 31 (ot 114) (Operand.const Go.Value.nilIface) v48 vn).bind fun v53 =>
 (bin2 Try.prog BinOp.eql 31 (ot 116) (Operand.const Go.Value.nilIface) v52 vn).bind fun v54 =>
 (bin2 Try.prog BinOp.neq 4 (ot 115) (ot 117) v53 v54).bind fun v55 =>
 (guardV v55 false (some v47)).bind fun v56 =>
 (guardV v55 false (some v51)).bind fun v57 =>
 (guardV v55 false ((bin2 Try.prog BinOp.neq 3 (ot 120) (ot 121) v56 v57).bind fun v58 =>
 some v58)).bind fun v59 =>
 (pickV v55 (vb true) v59).bind fun v60 =>
 condV v60 (
 some (vb false)) (
 (ldk (some 3) (List.drop 0 v1)).bind fun v61 =>
 ((sem_topo_Far n) [v61, x3, x5]).bind fun v62 =>
 (extractV v62 0).bind fun v63 =>
 (extractV v62 1).bind fun v64 =>
 (ldk (some 3) (List.drop 0 v1)).bind fun v65 =>
 ((sem_topo_Far n) [v65, x5, x4]).bind fun v66 =>
 (extractV v66 0).bind fun v67 =>
 (extractV v66 1).bind fun v68 =>
 (bin2 Try.prog BinOp.neq 31 (ot 138) (Operand.const Go.Value.nilIface) v48 vn).bind fun v69 =>
 (guardV v69 true (some v64)).bind fun v70 =>
 (guardV v69 true ((bin2 Try.prog BinOp.neq 31 (ot 141) (Operand.const Go.Value.nilIface) v70 vn).bind fun v71 =>
 some v71)).bind fun v72 =>
 (guardV v69 true (some v72)).bind fun v73 =>
 (guardV v73 false (some v68)).bind fun v74 =>
 (guardV v73 false ((bin2 Try.prog BinOp.neq 31 (ot 144) (Operand.const Go.Value.nilIface) v74 vn).bind fun v75 =>
 some v75)).bind fun v76 =>
 (guardV v69 true ((pickV v73 (vb true) v76).bind fun v77 =>
 some v77)).bind fun v78 =>
 (pickV v69 v78 (vb false)).bind fun v79 =>
 (guardV v79 false (some v48)).bind fun v80 =>
 (guardV v79 false ((bin2 Try.prog BinOp.eql 31 (ot 149) (Operand.const Go.Value.nilIface) v80 vn).bind fun v81 =>
 some v81)).bind fun v82 =>
 (guardV v79 false (some v82)).bind fun v83 =>
 (guardV v83 true (some v64)).bind fun v84 =>
 (guardV v83 true ((bin2 Try.prog BinOp.neq 31 (ot 152) (Operand.const Go.Value.nilIface) v84 vn).bind fun v85 =>
 some v85)).bind fun v86 =>
 (guardV v83 true (some v86)).bind fun v87 =>
 (guardV v87 false (some v68)).bind fun v88 =>
 (guardV v87 false ((bin2 Try.prog BinOp.neq 31 (ot 155) (Operand.const Go.Value.nilIface) v88 vn).bind fun v89 =>
 some v89)).bind fun v90 =>
 (guardV v83 true ((pickV v87 (vb true) v90).bind fun v91 =>
 some v91)).bind fun v92 =>
 (guardV v83 true (some v92)).bind fun v93 =>
 (guardV v93 false (some v47)).bind fun v94 =>
 (guardV v93 false (some v63)).bind fun v95 =>
 (guardV v93 false (some v67)).bind fun v96 =>
 (guardV v93 false ((bin2 Try.prog BinOp.add 3 (ot 160) (ot 161) v95 v96).bind fun v97 =>
 some v97)).bind fun v98 =>
 (guardV v93 false ((bin2 Try.prog BinOp.leq 3 (ot 159) (ot 162) v94 v98).bind fun v99 =>
 some v99)).bind fun v100 =>
 (guardV v83 true ((pickV v93 (vb true) v100).bind fun v101 =>
 some v101)).bind fun v102 =>
 (guardV v79 false ((pickV v83 v102 (vb false)).bind fun v103 =>
 some v103)).bind fun v104 =>
 (guardV v79 false (some v104)).bind fun v105 =>
 (guardV v105 true (some v47)).bind fun v106 =>
 (guardV v105 true ((bin2 Try.prog BinOp.gtr 3 (ot 167) (oc 0) v106 (vi 0)).bind fun v107 =>
 some v107)).bind fun v108 =>
 (guardV v105 true (some v108)).bind fun v109 =>
 (guardV v109 false (some x3)).bind fun v110 =>
 (guardV v109 false (some x4)).bind fun v111 =>
 (guardV v109 false ((bin2 Try.prog BinOp.eql 3 (ot 170) (ot 171) v110 v111).bind fun v112 =>
 some v112)).bind fun v113 =>
 (guardV v105 true ((pickV v109 (vb true) v113).bind fun v114 =>
 some v114)).bind fun v115 =>
 (guardV v79 false ((pickV v105 v115 (vb false)).bind fun v116 =>
 some v116)).bind fun v117 =>
 (pickV v79 (vb true) v117).bind fun v118 =>
 some v118)) fun J44 =>
 condV v42 (
 (ldk (some 3) (List.drop 0 v1)).bind fun v119 =>
 (ldk (some 2) (List.drop 0 (aggL v41))).bind fun v120 =>
 ((sem_topo_At n) [v119, v120]).bind fun v121 =>
 (extractV v121 0).bind fun v122 =>
 (extractV v121 1).bind fun v123 =>
 (bin2 Try.prog BinOp.neq 31 (ot 93) (Operand.const Go.Value.nilIface) v123 vn).bind fun v124 =>
 (guardV v124 false (some v122)).bind fun v125 =>
 (guardV v124 false (some x2)).bind fun v126 =>
 (guardV v124 false ((bin2 Try.prog BinOp.neq 9 (ot 96) (ot 97) v125 v126).bind fun v127 =>
 some v127)).bind fun v128 =>
 (pickV v124 (vb true) v128).bind fun v129 =>
 condV v129 (
 some (vb false)) (
 (keepO (some v1) (some v1) (some [])).bind J44)) (
 (keepO (some v1) (some v1) (some [])).bind J44)) fun J36 =>
 condV v34 (
 (ldk (some 3) (List.drop 0 v1)).bind fun v130 =>
 (ldk (some 2) (List.drop 0 (aggL v33))).bind fun v131 =>
 ((sem_topo_Peer n) [v130, v131]).bind fun v132 =>
 (extractV v132 0).bind fun v133 =>
 (extractV v132 1).bind fun v134 =>
 (spliceV [(vi 0), (vi 0)] 0 2 v133).bind fun v135 =>
 (bin2 Try.prog BinOp.neq 31 (ot 67) (Operand.const Go.Value.nilIface) v134 vn).bind fun v136 =>
 (guardV v136 false ((ldk (some 2) (List.drop 0 (aggL v135))).bind fun v137 =>
 some v137)).bind fun v138 =>
 (guardV v136 false ((ldk (some 2) (List.drop 0 v2)).bind fun v139 =>
 some v139)).bind fun v140 =>
 (guardV v136 false ((bin2 Try.prog BinOp.neq 27 (ot 70) (ot 71) v138 v140).bind fun v141 =>
 some v141)).bind fun v142 =>
 (pickV v136 (vb true) v142).bind fun v143 =>
 (guardV v143 false ((ldk (some 2) (List.drop 0 (aggL v33))).bind fun v144 =>
 some v144)).bind fun v145 =>
 (guardV v143 false ((ldk (some 2) (List.drop 0 v2)).bind fun v146 =>
 some v146)).bind fun v147 =>
 (guardV v143 false ((bin2 Try.prog BinOp.eql 27 (ot 75) (ot 76) v145 v147).bind fun v148 =>
 some v148)).bind fun v149 =>
 (pickV v143 (vb true) v149).bind fun v150 =>
 condV v150 (
 some (vb false)) (
 (keepO (some v1) (some v1) (some [])).bind J36)) (
 (keepO (some v1) (some v1) (some [])).bind J36)) := by kernel_rfl
noncomputable def t_raillaw1_TopoBack (a0 : T_Topo) (a1 : T_Spot) (a2 : ByteArray) (a3 : Int) (a4 : Int) (a5 : Int) : Option Bool :=
 (t_topo_Peer (T_Topo.mk 2 ([(T_Link.mk (T_Spot.mk 1 1) (T_Spot.mk 2 3))] : (List T_Link)) []) (T_Spot.mk 2 3)).bind fun r12 =>
 if (((!decide (r12.2 = 0)) || (decide (r12.1.Switch ≠ 1))) || (decide (r12.1.Port ≠ 1))) = true then (
 some false) else (
 (t_topo_Peer a0 a1).bind fun r39 =>
 join (fun (s46 : Unit) =>
 (t_topo_Where a0 a2).bind fun r51 =>
 join (fun (s58 : Unit) =>
 (t_topo_Far a0 a3 a4).bind fun r63 =>
 (t_topo_Far a0 a4 a3).bind fun r68 =>
 if (((decide (r63.2 = 0)) != (decide (r68.2 = 0))) || (decide (r63.1 ≠ r68.1))) = true then (
 some false) else (
 (t_topo_Far a0 a3 a5).bind fun r85 =>
 (t_topo_Far a0 a5 a4).bind fun r90 =>
 (some (((!decide (r63.2 = 0)) && ((!decide (r85.2 = 0)) || (!decide (r90.2 = 0)))) || (((decide (r63.2 = 0)) && (((!decide (r85.2 = 0)) || (!decide (r90.2 = 0))) || (decide (r63.1 ≤ (wr (r85.1 + r90.1)))))) && ((decide (0 < r63.1)) || (decide (a3 = a4)))))).bind fun r175 =>
 some r175)) fun j59 =>
 if (decide (r51.2 = 0)) = true then (
 (t_topo_At a0 r51.1).bind fun r180 =>
 if ((!decide (r180.2 = 0)) || (!decide (r180.1 = a2))) = true then (
 some false) else (
 j59 ())) else (
 j59 ())) fun j47 =>
 if (decide (r39.2 = 0)) = true then (
 (t_topo_Peer a0 r39.1).bind fun r197 =>
 if (((!decide (r197.2 = 0)) || (!decide (r197.1 = a1))) || (decide (r39.1 = a1))) = true then (
 some false) else (
 j47 ())) else (
 j47 ()))
theorem ty_raillaw1_TopoBack {n : Nat} (hn : bigN ≤ n) (a0 : T_Topo) (a1 : T_Spot) (a2 : ByteArray) (a3 : Int) (a4 : Int) (a5 : Int) : Rv (fun x : Bool => (vb x)) (sem_raillaw1_TopoBack n [(T_Topo.e a0), (T_Spot.e a1), (vt a2), (vi a3), (vi a4), (vi a5)]) (t_raillaw1_TopoBack a0 a1 a2 a3 a4 a5) := by
  rw [eq_raillaw1_TopoBack]
  unfold t_raillaw1_TopoBack
  refine tb (x := (T_Topo.c a0)) rfl ?_
  refine tb (x := (T_Spot.c a1)) rfl ?_
  refine tb (x := (T_Spot.e (T_Spot.mk 1 1))) (by kernel_rfl) ?_
  refine tb (x := (T_Spot.e (T_Spot.mk 2 3))) (by kernel_rfl) ?_
  refine tb (x := (T_Link.e (T_Link.mk (T_Spot.mk 1 1) (T_Spot.mk 2 3)))) (by kernel_rfl) ?_
  refine tb (x := (V.sl (List.map T_Link.c ([(T_Link.mk (T_Spot.mk 1 1) (T_Spot.mk 2 3))] : (List T_Link))))) (by kernel_rfl) ?_
  refine tb (x := (T_Topo.e (T_Topo.mk 2 ([(T_Link.mk (T_Spot.mk 1 1) (T_Spot.mk 2 3))] : (List T_Link)) []))) (by kernel_rfl) ?_
  refine tb (x := V.agg (T_Topo.c (T_Topo.mk 2 ([(T_Link.mk (T_Spot.mk 1 1) (T_Spot.mk 2 3))] : (List T_Link)) []))) (by kernel_rfl) ?_
  refine tb (x := (T_Topo.e (T_Topo.mk 2 ([(T_Link.mk (T_Spot.mk 1 1) (T_Spot.mk 2 3))] : (List T_Link)) []))) (rfl) ?_
  refine tb (x := (T_Spot.e (T_Spot.mk 2 3))) (by kernel_rfl) ?_
  refine tbo (ty_topo_Peer hn (T_Topo.mk 2 ([(T_Link.mk (T_Spot.mk 1 1) (T_Spot.mk 2 3))] : (List T_Link)) []) (T_Spot.mk 2 3)) fun r12 => ?_
  refine tb (x := (T_Spot.e r12.1)) (rfl) ?_
  refine tb (x := (eV r12.2)) (rfl) ?_
  refine tb (x := V.agg (T_Spot.c r12.1)) (by kernel_rfl) ?_
  refine tb (x := (vb (!decide (r12.2 = 0)))) (p_err_neq _) ?_
  refine tg_f (x := V.any) (fun h17 => rfl) ?_
  refine tg_f (x := (vi r12.1.Switch)) (fun h19 => bind_some_eq (gate_pos (not_t h19) (rfl))) ?_
  refine tg_f (x := (vb (decide (r12.1.Switch ≠ 1)))) (fun h22 => by simp only [gv_t h22]; exact bind_some_eq (d_neq)) ?_
  refine tb (x := (vb ((!decide (r12.2 = 0)) || (decide (r12.1.Switch ≠ 1))))) (pick_or (fun h9 => gv_t (not_f h9))) ?_
  refine tg_f (x := V.any) (fun h26 => rfl) ?_
  refine tg_f (x := (vi r12.1.Port)) (fun h28 => bind_some_eq (gate_pos (not_t h28) (rfl))) ?_
  refine tg_f (x := (vb (decide (r12.1.Port ≠ 1)))) (fun h31 => by simp only [gv_t h31]; exact bind_some_eq (d_neq)) ?_
  refine tb (x := (vb (((!decide (r12.2 = 0)) || (decide (r12.1.Switch ≠ 1))) || (decide (r12.1.Port ≠ 1))))) (pick_or (fun h9 => gv_t (not_f h9))) ?_
  refine tcond (fun h35 => ?_) (fun h35 => ?_)
  · exact rf_ret rfl
  · refine tb (x := (T_Topo.e a0)) (rfl) ?_
    refine tb (x := (T_Spot.e a1)) (rfl) ?_
    refine tbo (ty_topo_Peer hn a0 a1) fun r39 => ?_
    refine tb (x := (T_Spot.e r39.1)) (rfl) ?_
    refine tb (x := (eV r39.2)) (rfl) ?_
    refine tb (x := V.agg (T_Spot.c r39.1)) (by kernel_rfl) ?_
    refine tb (x := (vb (decide (r39.2 = 0)))) (p_err_eql _) ?_
    refine tjoin (mk := fun s46 : Unit => []) (fun s46 => ?_) fun J45 j47 h48 => ?_
    · refine tb (x := (T_Topo.e a0)) (rfl) ?_
      refine tbo (ty_topo_Where hn a0 a2) fun r51 => ?_
      refine tb (x := (T_Spot.e r51.1)) (rfl) ?_
      refine tb (x := (eV r51.2)) (rfl) ?_
      refine tb (x := V.agg (T_Spot.c r51.1)) (by kernel_rfl) ?_
      refine tb (x := (vb (decide (r51.2 = 0)))) (p_err_eql _) ?_
      refine tjoin (mk := fun s58 : Unit => []) (fun s58 => ?_) fun J57 j59 h60 => ?_
      · refine tb (x := (T_Topo.e a0)) (rfl) ?_
        refine tbo (ty_topo_Far hn a0 a3 a4) fun r63 => ?_
        refine tb (x := (vi r63.1)) (rfl) ?_
        refine tb (x := (eV r63.2)) (rfl) ?_
        refine tb (x := (T_Topo.e a0)) (rfl) ?_
        refine tbo (ty_topo_Far hn a0 a4 a3) fun r68 => ?_
        refine tb (x := (vi r68.1)) (rfl) ?_
        refine tb (x := (eV r68.2)) (rfl) ?_
        refine tb (x := (vb (decide (r63.2 = 0)))) (p_err_eql _) ?_
        refine tb (x := (vb (decide (r68.2 = 0)))) (p_err_eql _) ?_
        refine tb (x := (vb ((decide (r63.2 = 0)) != (decide (r68.2 = 0))))) (p_neq_bool (Try.underlying4)) ?_
        refine tg_f (x := (vi r63.1)) (fun h74 => rfl) ?_
        refine tg_f (x := (vi r68.1)) (fun h76 => rfl) ?_
        refine tg_f (x := (vb (decide (r63.1 ≠ r68.1)))) (fun h78 => by simp only [gv_t h78]; exact bind_some_eq (d_neq)) ?_
        refine tb (x := (vb (((decide (r63.2 = 0)) != (decide (r68.2 = 0))) || (decide (r63.1 ≠ r68.1))))) (pick_or (fun h9 => gv_t (not_f h9))) ?_
        refine tcond (fun h82 => ?_) (fun h82 => ?_)
        · exact rf_ret rfl
        · refine tb (x := (T_Topo.e a0)) (rfl) ?_
          refine tbo (ty_topo_Far hn a0 a3 a5) fun r85 => ?_
          refine tb (x := (vi r85.1)) (rfl) ?_
          refine tb (x := (eV r85.2)) (rfl) ?_
          refine tb (x := (T_Topo.e a0)) (rfl) ?_
          refine tbo (ty_topo_Far hn a0 a5 a4) fun r90 => ?_
          refine tb (x := (vi r90.1)) (rfl) ?_
          refine tb (x := (eV r90.2)) (rfl) ?_
          refine tb (x := (vb (!decide (r63.2 = 0)))) (p_err_neq _) ?_
          refine tg (x := (eV r85.2)) (fun h94 => rfl) ?_
          refine tg (x := (vb (!decide (r85.2 = 0)))) (fun h96 => by simp only [gv_t h96]; exact bind_some_eq (p_err_neq _)) ?_
          refine tg (x := (vb (!decide (r85.2 = 0)))) (fun h99 => congrArg some (gv_t h99)) ?_
          refine tg2_f (x := (eV r90.2)) (fun h101 => rfl) ?_
          refine tg2_f (x := (vb (!decide (r90.2 = 0)))) (fun h103 => by simp only [gv_t h103]; exact bind_some_eq (p_err_neq _)) ?_
          refine tg (x := (vb ((!decide (r85.2 = 0)) || (!decide (r90.2 = 0))))) (fun h106 => by simp only [gv_t h106]; exact bind_some_eq (pick_or (fun h9 => gv_t (and_i h106 (not_f h9))))) ?_
          refine tb (x := (vb ((!decide (r63.2 = 0)) && ((!decide (r85.2 = 0)) || (!decide (r90.2 = 0)))))) (pick_and (fun h9 => gv_t h9)) ?_
          refine tg_f (x := (eV r63.2)) (fun h110 => rfl) ?_
          refine tg_f (x := (vb (decide (r63.2 = 0)))) (fun h112 => by simp only [gv_t h112]; exact bind_some_eq (p_err_eql _)) ?_
          refine tg_f (x := (vb (decide (r63.2 = 0)))) (fun h115 => congrArg some (gv_t h115)) ?_
          refine tg2 (x := (eV r85.2)) (fun h117 => rfl) ?_
          refine tg2 (x := (vb (!decide (r85.2 = 0)))) (fun h119 => by simp only [gv_t h119]; exact bind_some_eq (p_err_neq _)) ?_
          refine tg2 (x := (vb (!decide (r85.2 = 0)))) (fun h122 => congrArg some (gv_t h122)) ?_
          refine tg2_f (x := (eV r90.2)) (fun h124 => rfl) ?_
          refine tg2_f (x := (vb (!decide (r90.2 = 0)))) (fun h126 => by simp only [gv_t h126]; exact bind_some_eq (p_err_neq _)) ?_
          refine tg2 (x := (vb ((!decide (r85.2 = 0)) || (!decide (r90.2 = 0))))) (fun h129 => by simp only [gv_t h129]; exact bind_some_eq (pick_or (fun h9 => gv_t (and_i h129 (not_f h9))))) ?_
          refine tg2 (x := (vb ((!decide (r85.2 = 0)) || (!decide (r90.2 = 0))))) (fun h132 => congrArg some (gv_t h132)) ?_
          refine tg2_f (x := (vi r63.1)) (fun h134 => rfl) ?_
          refine tg2_f (x := (vi r85.1)) (fun h136 => rfl) ?_
          refine tg2_f (x := (vi r90.1)) (fun h138 => rfl) ?_
          refine tg2_f (x := (vi (wr (r85.1 + r90.1)))) (fun h140 => by simp only [gv_t h140]; exact bind_some_eq (d_add)) ?_
          refine tg2_f (x := (vb (decide (r63.1 ≤ (wr (r85.1 + r90.1)))))) (fun h143 => by simp only [gv_t h143]; exact bind_some_eq (d_leq)) ?_
          refine tg2 (x := (vb (((!decide (r85.2 = 0)) || (!decide (r90.2 = 0))) || (decide (r63.1 ≤ (wr (r85.1 + r90.1))))))) (fun h146 => by simp only [gv_t h146]; exact bind_some_eq (pick_or (fun h9 => gv_t (and_i h146 (not_f h9))))) ?_
          refine tg_f (x := (vb ((decide (r63.2 = 0)) && (((!decide (r85.2 = 0)) || (!decide (r90.2 = 0))) || (decide (r63.1 ≤ (wr (r85.1 + r90.1)))))))) (fun h149 => by simp only [gv_t h149]; exact bind_some_eq (pick_and (fun h9 => gv_t (and_i h149 h9)))) ?_
          refine tg_f (x := (vb ((decide (r63.2 = 0)) && (((!decide (r85.2 = 0)) || (!decide (r90.2 = 0))) || (decide (r63.1 ≤ (wr (r85.1 + r90.1)))))))) (fun h152 => congrArg some (gv_t h152)) ?_
          refine tg2 (x := (vi r63.1)) (fun h154 => rfl) ?_
          refine tg2 (x := (vb (decide (0 < r63.1)))) (fun h156 => by simp only [gv_t h156]; exact bind_some_eq (d_gtr)) ?_
          refine tg2 (x := (vb (decide (0 < r63.1)))) (fun h159 => congrArg some (gv_t h159)) ?_
          refine tg2_f (x := (vi a3)) (fun h161 => rfl) ?_
          refine tg2_f (x := (vi a4)) (fun h163 => rfl) ?_
          refine tg2_f (x := (vb (decide (a3 = a4)))) (fun h165 => by simp only [gv_t h165]; exact bind_some_eq (d_eql)) ?_
          refine tg2 (x := (vb ((decide (0 < r63.1)) || (decide (a3 = a4))))) (fun h168 => by simp only [gv_t h168]; exact bind_some_eq (pick_or (fun h9 => gv_t (and_i h168 (not_f h9))))) ?_
          refine tg_f (x := (vb (((decide (r63.2 = 0)) && (((!decide (r85.2 = 0)) || (!decide (r90.2 = 0))) || (decide (r63.1 ≤ (wr (r85.1 + r90.1)))))) && ((decide (0 < r63.1)) || (decide (a3 = a4)))))) (fun h171 => by simp only [gv_t h171]; exact bind_some_eq (pick_and (fun h9 => gv_t (and_i h171 h9)))) ?_
          refine tbo (e1 := fun x : Bool => (vb x)) (rf_eq (pick_or (fun h9 => gv_t (not_f h9))) rfl) fun r175 => ?_
          exact rf_ret rfl
      · refine tcond (fun h176 => ?_) (fun h176 => ?_)
        · refine tb (x := (T_Topo.e a0)) (rfl) ?_
          refine tb (x := (T_Spot.e r51.1)) (rfl) ?_
          refine tbo (ty_topo_At hn a0 r51.1) fun r180 => ?_
          refine tb (x := (vt r180.1)) (rfl) ?_
          refine tb (x := (eV r180.2)) (rfl) ?_
          refine tb (x := (vb (!decide (r180.2 = 0)))) (p_err_neq _) ?_
          refine tg_f (x := (vt r180.1)) (fun h184 => rfl) ?_
          refine tg_f (x := (vt a2)) (fun h186 => rfl) ?_
          refine tg_f (x := (vb (!decide (r180.1 = a2)))) (fun h188 => by simp only [gv_t h188]; exact bind_some_eq (p_neq_str)) ?_
          refine tb (x := (vb ((!decide (r180.2 = 0)) || (!decide (r180.1 = a2))))) (pick_or (fun h9 => gv_t (not_f h9))) ?_
          refine tcond (fun h192 => ?_) (fun h192 => ?_)
          · exact rf_ret rfl
          · refine tkeepO2 ?_ rfl
            refine tsome ?_
            exact h60 ()
        · refine tkeepO2 ?_ rfl
          refine tsome ?_
          exact h60 ()
    · refine tcond (fun h193 => ?_) (fun h193 => ?_)
      · refine tb (x := (T_Topo.e a0)) (rfl) ?_
        refine tb (x := (T_Spot.e r39.1)) (rfl) ?_
        refine tbo (ty_topo_Peer hn a0 r39.1) fun r197 => ?_
        refine tb (x := (T_Spot.e r197.1)) (rfl) ?_
        refine tb (x := (eV r197.2)) (rfl) ?_
        refine tb (x := V.agg (T_Spot.c r197.1)) (by kernel_rfl) ?_
        refine tb (x := (vb (!decide (r197.2 = 0)))) (p_err_neq _) ?_
        refine tg_f (x := (T_Spot.e r197.1)) (fun h202 => bind_some_eq (rfl)) ?_
        refine tg_f (x := (T_Spot.e a1)) (fun h205 => bind_some_eq (rfl)) ?_
        refine tg_f (x := (vb (!decide (r197.1 = a1)))) (fun h208 => by simp only [gv_t h208]; exact bind_some_eq (T_Spot.neq r197.1 a1)) ?_
        refine tb (x := (vb ((!decide (r197.2 = 0)) || (!decide (r197.1 = a1))))) (pick_or (fun h9 => gv_t (not_f h9))) ?_
        refine tg_f (x := (T_Spot.e r39.1)) (fun h212 => bind_some_eq (rfl)) ?_
        refine tg_f (x := (T_Spot.e a1)) (fun h215 => bind_some_eq (rfl)) ?_
        refine tg_f (x := (vb (decide (r39.1 = a1)))) (fun h218 => by simp only [gv_t h218]; exact bind_some_eq (T_Spot.eql r39.1 a1)) ?_
        refine tb (x := (vb (((!decide (r197.2 = 0)) || (!decide (r197.1 = a1))) || (decide (r39.1 = a1))))) (pick_or (fun h9 => gv_t (not_f h9))) ?_
        refine tcond (fun h222 => ?_) (fun h222 => ?_)
        · exact rf_ret rfl
        · refine tkeepO2 ?_ rfl
          refine tsome ?_
          exact h48 ()
      · refine tkeepO2 ?_ rfl
        refine tsome ?_
        exact h48 ()

end Go.Proofs.Ytpafgegoieakoaa.Ty
