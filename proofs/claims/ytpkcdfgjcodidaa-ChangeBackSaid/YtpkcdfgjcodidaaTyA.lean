/- What functions do, as functions on plain types, written by a program and checked by the kernel. -/
import Derived.Test.YtpkcdfgjcodidaaDenPlain
import Derived.Test.YtpkcdfgjcodidaaTy
import Derived.Test.YtpkcdfgjcodidaaTyT
import Derived.Test.YtpkcdfgjcodidaaTyO
import Derived.Test.YtpkcdfgjcodidaaTyN
import Derived.Test.YtpkcdfgjcodidaaTyM
import Derived.Test.YtpkcdfgjcodidaaTyR
import Derived.Test.YtpkcdfgjcodidaaDen14
import Derived.Test.YtpkcdfgjcodidaaClone
import Derived.Test.YtpkcdfgjcodidaaDoTy
import Derived.Test.YtpkcdfgjcodidaaDiffTy
namespace Go.Proofs.Ytpkcdfgjcodidaa.Ty
open Go Go.RowKit Go.Proofs.Ytpkcdfgjcodidaa.Den
set_option linter.unusedVariables false
set_option maxRecDepth 100000

def T_Spot.val (x : T_Spot) : Go.Value := .agg #[.int .i64 x.Switch, .int .i64 x.Port]
theorem T_Spot.mkey : MKey Try.prog 51 T_Spot.val where
  chk e a w := by kernel_rfl
  find vv l a w := find_ask Try.underlying51 (fun _ _ => rfl) (fun a b w => equal_of (T_Spot.run_eql a b w)) vv l a w
  sb a := by show Instr.sameBits (9999 + 1) _ _ = true; simp [Instr.sameBits, T_Spot.val]

/-! railpoint/topo.Spot -/
def an_topo_Spot : Ann := .seq (.reg 0 [] [] []) (.seq (.reg 0 [] [] []) (.no))
noncomputable def sem_topo_Spot (n : Nat) (xs : List V) : Option V := if xs.length ≤ 25 then denF Try.prog (envOf []) n Try.f35 an_topo_Spot xs else none
theorem ok_topo_Spot (n : Nat) : SemOk Try.prog DW 35 (sem_topo_Spot n) := fun xs y h => by
  unfold sem_topo_Spot at h
  split at h
  · rename_i hl
    exact denF_ok stb Try.func35 (by kernel_rfl) (envOf_ok semsOk_nil) (by rw [Try.ntmps35]; exact hl) h
  · cases h
theorem eq_topo_Spot (n : Nat) (x0 x1 : V) : sem_topo_Spot n [x0, x1] =
 (V.cellsO x0).bind fun v1 =>
 (V.cellsO x1).bind fun v2 =>
 (ldk none (List.drop 0 v2)).bind fun v3 =>
 (bin2 Try.prog BinOp.geq 3 (ot 6) (oc 1) v3 (vi 1)).bind fun v4 =>
 (guardV v4 true (some V.any)).bind fun v5 =>
 (guardV v4 true ((gate v4 true (ldk none (List.drop 0 v2))).bind fun v6 =>
 some v6)).bind fun v7 =>
 (guardV v4 true (some V.any)).bind fun v8 =>
 (guardV v4 true ((gate v4 true (ldk none (List.drop 0 v1))).bind fun v9 =>
 some v9)).bind fun v10 =>
 (guardV v4 true ((bin2 Try.prog BinOp.leq 3 (ot 10) (ot 12) v7 v10).bind fun v11 =>
 some v11)).bind fun v12 =>
 (pickV v4 v12 (vb false)).bind fun v13 =>
 (guardV v13 true (some V.any)).bind fun v14 =>
 (guardV v13 true ((gate v13 true (ldk none (List.drop 1 v2))).bind fun v15 =>
 some v15)).bind fun v16 =>
 (guardV v13 true ((bin2 Try.prog BinOp.geq 3 (ot 17) (oc 1) v16 (vi 1)).bind fun v17 =>
 some v17)).bind fun v18 =>
 (pickV v13 v18 (vb false)).bind fun v19 =>
 (guardV v19 true (some V.any)).bind fun v20 =>
 (guardV v19 true ((gate v19 true (ldk none (List.drop 1 v2))).bind fun v21 =>
 some v21)).bind fun v22 =>
 (guardV v19 true ((bin2 Try.prog BinOp.leq 3 (ot 22) (oc 4) v22 (vi 4)).bind fun v23 =>
 some v23)).bind fun v24 =>
 (pickV v19 v24 (vb false)).bind fun v25 =>
 some v25 := by kernel_rfl
noncomputable def t_topo_Spot (a0 : T_Topo) (a1 : T_Spot) : Option Bool :=
 some ((((decide (1 ≤ a1.Switch)) && (decide (a1.Switch ≤ a0.Switches))) && (decide (1 ≤ a1.Port))) && (decide (a1.Port ≤ 4)))
theorem ty_topo_Spot {n : Nat} (hn : bigN ≤ n) (a0 : T_Topo) (a1 : T_Spot) : Rv (fun x : Bool => (vb x)) (sem_topo_Spot n [(T_Topo.e a0), (T_Spot.e a1)]) (t_topo_Spot a0 a1) := by
  rw [eq_topo_Spot]
  unfold t_topo_Spot
  refine tb (x := (T_Topo.c a0)) rfl ?_
  refine tb (x := (T_Spot.c a1)) rfl ?_
  refine tb (x := (vi a1.Switch)) (rfl) ?_
  refine tb (x := (vb (decide (1 ≤ a1.Switch)))) (d_geq) ?_
  refine tg (x := V.any) (fun h5 => rfl) ?_
  refine tg (x := (vi a1.Switch)) (fun h7 => bind_some_eq (gate_pos h7 (rfl))) ?_
  refine tg (x := V.any) (fun h10 => rfl) ?_
  refine tg (x := (vi a0.Switches)) (fun h12 => bind_some_eq (gate_pos h12 (rfl))) ?_
  refine tg (x := (vb (decide (a1.Switch ≤ a0.Switches)))) (fun h15 => by simp only [gv_t h15]; exact bind_some_eq (d_leq)) ?_
  refine tb (x := (vb ((decide (1 ≤ a1.Switch)) && (decide (a1.Switch ≤ a0.Switches))))) (pick_and (fun h9 => gv_t h9)) ?_
  refine tg (x := V.any) (fun h19 => rfl) ?_
  refine tg (x := (vi a1.Port)) (fun h21 => bind_some_eq (gate_pos h21 (rfl))) ?_
  refine tg (x := (vb (decide (1 ≤ a1.Port)))) (fun h24 => by simp only [gv_t h24]; exact bind_some_eq (d_geq)) ?_
  refine tb (x := (vb (((decide (1 ≤ a1.Switch)) && (decide (a1.Switch ≤ a0.Switches))) && (decide (1 ≤ a1.Port))))) (pick_and (fun h9 => gv_t h9)) ?_
  refine tg (x := V.any) (fun h28 => rfl) ?_
  refine tg (x := (vi a1.Port)) (fun h30 => bind_some_eq (gate_pos h30 (rfl))) ?_
  refine tg (x := (vb (decide (a1.Port ≤ 4)))) (fun h33 => by simp only [gv_t h33]; exact bind_some_eq (d_leq)) ?_
  refine tb (x := (vb ((((decide (1 ≤ a1.Switch)) && (decide (a1.Switch ≤ a0.Switches))) && (decide (1 ≤ a1.Port))) && (decide (a1.Port ≤ 4))))) (pick_and (fun h9 => gv_t h9)) ?_
  exact rf_ret rfl

/-! railpoint/topo.Name -/
def an_topo_Name : Ann := .seq (.reg 0 [] [] []) (.seq (.seq (.reg 0 [] [] []) (.blk (some []) (.loop [.s 8] (.seq (.reg 0 [] [] []) (.seq (.cond none (.no) (.no)) (.seq (.blk none (.seq (.reg 0 [] [] []) (.seq (.reg 0 [] [] []) (.cond none (.seq (.reg 0 [] [] []) (.no)) (.no))))) (.reg 0 [] [] []))))))) (.seq (.reg 0 [] [] []) (.no)))
noncomputable def sem_topo_Name (n : Nat) (xs : List V) : Option V := if xs.length ≤ 26 then denF Try.prog (envOf []) n Try.f36 an_topo_Name xs else none
theorem ok_topo_Name (n : Nat) : SemOk Try.prog DW 36 (sem_topo_Name n) := fun xs y h => by
  unfold sem_topo_Name at h
  split at h
  · rename_i hl
    exact denF_ok stb Try.func36 (by kernel_rfl) (envOf_ok semsOk_nil) (by rw [Try.ntmps36]; exact hl) h
  · cases h
theorem eq_topo_Name (n : Nat) (x0 : V) : sem_topo_Name n [x0] =
 (s2b x0).bind fun v1 =>
 (lenS [v1]).bind fun v2 =>
 JoinPt (fun vs3 =>
 (bin2 Try.prog BinOp.neq 9 (ot 19) (Operand.const (Go.Value.string (ByteArray.mk #[]))) x0 (V.lit (Go.Value.string (ByteArray.mk #[])))).bind fun v5 =>
 (guardV v5 true (some x0)).bind fun v6 =>
 (guardV v5 true ((lenT [v6]).bind fun v7 =>
 some v7)).bind fun v8 =>
 (guardV v5 true ((bin2 Try.prog BinOp.leq 3 (ot 23) (oc 6) v8 (vi 6)).bind fun v9 =>
 some v9)).bind fun v10 =>
 (pickV v5 v10 (vb false)).bind fun v11 =>
 some v11) fun J4 =>
 (fixN (fun rec12 vs13 =>
 (bin2 Try.prog BinOp.lss 3 (ot 8) (ot 7) (List.getD vs13 0 V.any) v2).bind fun v14 =>
 condV v14 (
 (idxS 1 v1 (List.getD vs13 0 V.any)).bind fun v15 =>
 (ldp none v15).bind fun v16 =>
 (bin2 Try.prog BinOp.lss 5 (ot 12) (Operand.const (Go.Value.int Go.IntKind.u8 97)) v16 (V.lit (Go.Value.int Go.IntKind.u8 97))).bind fun v17 =>
 (guardV v17 false (some v16)).bind fun v18 =>
 (guardV v17 false ((bin2 Try.prog BinOp.gtr 5 (ot 15) (Operand.const (Go.Value.int Go.IntKind.u8 122)) v18 (V.lit (Go.Value.int Go.IntKind.u8 122))).bind fun v19 =>
 some v19)).bind fun v20 =>
 (pickV v17 (vb true) v20).bind fun v21 =>
 condV v21 (
 some (vb false)) (
 (bin2 Try.prog BinOp.add 3 (ot 8) (oc 1) (List.getD vs13 0 V.any) (vi 1)).bind fun v22 =>
 rec12 [v22])) (
 J4 [])) n) [(vi 0)] := by kernel_rfl
noncomputable def t_topo_Name (a0 : ByteArray) : Option Bool :=
 need (decide ((a0.size : Int) ≤ maxI)) (
 join (fun (s5 : Unit) =>
 some ((!decide (a0 = (ByteArray.mk #[]))) && (decide ((a0.size : Int) ≤ 6)))) fun j6 =>
 loopI (numsOf a0) (fun (i24 : Int) x25 (s20 : Unit) k21 =>
 if ((decide (x25 < 97)) || (decide (122 < x25))) = true then (
 some false) else (
 k21 ())) (fun (s20 : Unit) =>
 j6 ()) ())
theorem ty_topo_Name {n : Nat} (hn : bigN ≤ n) (a0 : ByteArray) : Rv (fun x : Bool => (vb x)) (sem_topo_Name n [(vt a0)]) (t_topo_Name a0) := by
  rw [eq_topo_Name]
  unfold t_topo_Name
  refine tneed (x := (V.sl (List.map cY (numsOf a0)))) (fun h44 => p_s2b h44) fun h44 => ?_
  refine tb (x := (vi (List.length (numsOf a0) : Int))) (p_len _) ?_
  refine tjoin (mk := fun s5 : Unit => []) (fun s5 => ?_) fun J4 j6 h7 => ?_
  · refine tb (x := (vb (!decide (a0 = (ByteArray.mk #[]))))) (p_neq_str) ?_
    refine tg (x := (vt a0)) (fun h9 => rfl) ?_
    refine tg (x := (vi (a0.size : Int))) (fun h11 => by simp only [gv_t h11]; exact bind_some_eq (rfl)) ?_
    refine tg (x := (vb (decide ((a0.size : Int) ≤ 6)))) (fun h14 => by simp only [gv_t h14]; exact bind_some_eq (d_leq)) ?_
    refine tb (x := (vb ((!decide (a0 = (ByteArray.mk #[]))) && (decide ((a0.size : Int) ≤ 6))))) (pick_and (fun h9 => gv_t h9)) ?_
    exact rf_ret rfl
  · refine rf_loopI (mk := fun (i24 : Int) (s20 : Unit) => [(vi (i24 : Int))]) hn (numsOf a0) () (fun i24 x25 h26 h27 h28 s20 rec18 k21 h22 => ?_) (fun s20 rec42 h41 => ?_)
    · refine tb (x := (vb (decide ((i24 : Int) < (List.length (numsOf a0) : Int))))) (d_lss) ?_
      refine tcond_t h28 ?_
      refine tb (x := (V.ptr [(V.lit (.int .u8 x25))])) (p_idx_at (c := cY) (fun _ => rfl) h26) ?_
      refine tb (x := (V.lit (.int .u8 x25))) (rfl) ?_
      refine tb (x := (vb (decide (x25 < 97)))) (q_lss) ?_
      refine tg_f (x := (V.lit (.int .u8 x25))) (fun h33 => rfl) ?_
      refine tg_f (x := (vb (decide (122 < x25)))) (fun h35 => by simp only [gv_t h35]; exact bind_some_eq (q_gtr)) ?_
      refine tb (x := (vb ((decide (x25 < 97)) || (decide (122 < x25))))) (pick_or (fun h9 => gv_t (not_f h9))) ?_
      refine tcond (fun h39 => ?_) (fun h39 => ?_)
      · exact rf_ret rfl
      · refine tb (x := (vi ((i24 : Int) + 1))) (p_incN h27) ?_
        exact h22 ()
    · refine tb (x := (vb (decide ((List.length (numsOf a0) : Int) < (List.length (numsOf a0) : Int))))) (d_lss) ?_
      refine tcond_f h41 ?_
      exact h7 ()

/-! railpoint/topo.Check -/
def an_topo_Check : Ann := .seq (.reg 0 [] [] []) (.seq (.blk none (.seq (.reg 0 [] [] []) (.cond none (.seq (.reg 0 [] [] []) (.no)) (.seq (.reg 0 [] [] []) (.cond none (.seq (.reg 0 [] [] []) (.no)) (.no)))))) (.seq (.reg 0 [] [] []) (.seq (.seq (.reg 0 [] [] []) (.blk (some [.kb 1, .o 3]) (.loop [.kb 1, .o 3, .s 35] (.seq (.reg 0 [] [] []) (.seq (.cond none (.no) (.no)) (.seq (.blk none (.seq (.reg 0 [] [] []) (.seq (.seq (.reg 0 [] [] []) (.cond none (.seq (.reg 0 [] [] []) (.no)) (.no))) (.seq (.seq (.reg 0 [] [] []) (.cond none (.seq (.reg 0 [] [] []) (.no)) (.no))) (.reg 72 [] [] []))))) (.reg 0 [] [] []))))))) (.seq (.reg 0 [] [] []) (.seq (.seq (.reg 0 [] [] []) (.blk (some []) (.loop [.kb 1, .o 3, .o 6, .s 81] (.seq (.reg 0 [] [] []) (.seq (.cond none (.no) (.no)) (.seq (.blk none (.seq (.reg 0 [] [] []) (.seq (.blk none (.seq (.reg 0 [] [] []) (.cond none (.seq (.reg 0 [] [] []) (.no)) (.seq (.reg 0 [] [] []) (.cond none (.seq (.reg 0 [] [] []) (.no)) (.seq (.reg 0 [] [] []) (.cond none (.seq (.reg 0 [] [] []) (.no)) (.no)))))))) (.reg 72 [] [] [])))) (.reg 0 [] [] []))))))) (.seq (.reg 0 [] [] []) (.no)))))))
noncomputable def sem_topo_Check (n : Nat) (xs : List V) : Option V := if xs.length ≤ 117 then denF Try.prog (envOf [(35, (sem_topo_Spot n)), (36, (sem_topo_Name n))]) n Try.f14 an_topo_Check xs else none
theorem ok_topo_Check (n : Nat) : SemOk Try.prog DW 14 (sem_topo_Check n) := fun xs y h => by
  unfold sem_topo_Check at h
  split at h
  · rename_i hl
    exact denF_ok stb Try.func14 (by kernel_rfl) (envOf_ok (semsOk_cons (ok_topo_Spot n) (semsOk_cons (ok_topo_Name n) semsOk_nil))) (by rw [Try.ntmps14]; exact hl) h
  · cases h
theorem eq_topo_Check (n : Nat) (x0 : V) : sem_topo_Check n [x0] =
 (V.cellsO x0).bind fun v1 =>
 (ldk none (List.drop 0 v1)).bind fun v2 =>
 (bin2 Try.prog BinOp.lss 3 (ot 11) (oc 1) v2 (vi 1)).bind fun v3 =>
 (guardV v3 false (some V.any)).bind fun v4 =>
 (guardV v3 false ((gate v3 false (ldk none (List.drop 0 v1))).bind fun v5 =>
 some v5)).bind fun v6 =>
 (guardV v3 false ((bin2 Try.prog BinOp.gtr 3 (ot 15) (oc 6) v6 (vi 6)).bind fun v7 =>
 some v7)).bind fun v8 =>
 (pickV v3 (vb true) v8).bind fun v9 =>
 condV v9 (
 (scal1 Try.prog (Instr.makeInterface 79) (vi 1)).bind fun v10 =>
 some v10) (
 (ldk none (List.drop 1 v1)).bind fun v11 =>
 (lenS [v11]).bind fun v12 =>
 (bin2 Try.prog BinOp.gtr 3 (ot 22) (oc 200) v12 (vi 200)).bind fun v13 =>
 (guardV v13 false (some V.any)).bind fun v14 =>
 (guardV v13 false ((gate v13 false (ldk none (List.drop 2 v1))).bind fun v15 =>
 some v15)).bind fun v16 =>
 (guardV v13 false ((lenS [v16]).bind fun v17 =>
 some v17)).bind fun v18 =>
 (guardV v13 false ((bin2 Try.prog BinOp.gtr 3 (ot 27) (oc 8) v18 (vi 8)).bind fun v19 =>
 some v19)).bind fun v20 =>
 (pickV v13 (vb true) v20).bind fun v21 =>
 condV v21 (
 (scal1 Try.prog (Instr.makeInterface 79) (vi 4)).bind fun v22 =>
 some v22) (
 (ldk none (List.drop 1 v1)).bind fun v23 =>
 (lenS [v23]).bind fun v24 =>
 JoinPt (fun vs25 =>
 (ldk none (List.drop 2 v1)).bind fun v27 =>
 (lenS [v27]).bind fun v28 =>
 JoinPt (fun vs29 =>
 some vn) fun J30 =>
 (keepO (some v1) (some v1) (some [(List.getD vs25 0 V.any), (V.mp []), (vi 0)])).bind (fixN (fun rec31 vs32 =>
 (bin2 Try.prog BinOp.lss 3 (ot 81) (ot 80) (List.getD vs32 2 V.any) v28).bind fun v33 =>
 condV v33 (
 (idxS 3 v27 (List.getD vs32 2 V.any)).bind fun v34 =>
 (ldp (some 3) v34).bind fun v35 =>
 (spliceV [(V.lit (Go.Value.string (ByteArray.mk #[]))), (vi 0), (vi 0)] 0 3 v35).bind fun v36 =>
 (ldk none (List.drop 0 (aggL v36))).bind fun v37 =>
 ((sem_topo_Name n) [v37]).bind fun v38 =>
 (scal1 Try.prog (Op.unary Go.UnOp.not) v38).bind fun v39 =>
 condV v39 (
 (scal1 Try.prog (Instr.makeInterface 79) (vi 2)).bind fun v40 =>
 some v40) (
 (ldk (some 3) (List.drop 0 v1)).bind fun v41 =>
 (ldk (some 2) (List.drop 1 (aggL v36))).bind fun v42 =>
 ((sem_topo_Spot n) [v41, v42]).bind fun v43 =>
 (scal1 Try.prog (Op.unary Go.UnOp.not) v43).bind fun v44 =>
 condV v44 (
 (scal1 Try.prog (Instr.makeInterface 79) (vi 1)).bind fun v45 =>
 some v45) (
 (ldk none (List.drop 0 (aggL v36))).bind fun v46 =>
 (lookV Try.prog 96 false (List.getD vs32 1 V.any) v46).bind fun v47 =>
 (guardV v47 false (some V.any)).bind fun v48 =>
 (guardV v47 false (some V.any)).bind fun v49 =>
 (guardV v47 false ((gate v47 false (ldk (some 2) (List.drop 1 (aggL v36)))).bind fun v50 =>
 some v50)).bind fun v51 =>
 (guardV v47 false ((gate v47 false (lookV Try.prog 94 false (List.getD vs32 0 V.any) v51)).bind fun v52 =>
 some v52)).bind fun v53 =>
 (pickV v47 (vb true) v53).bind fun v54 =>
 condV v54 (
 (scal1 Try.prog (Instr.makeInterface 79) (vi 7)).bind fun v55 =>
 some v55) (
 (ldk none (List.drop 0 (aggL v36))).bind fun v56 =>
 (litV v56).bind fun v57 =>
 (ldk (some 2) (List.drop 1 (aggL v36))).bind fun v58 =>
 (litV v58).bind fun v59 =>
 (putV Try.prog 96 (List.getD vs32 1 V.any) v57 (vb true)).bind fun v60 =>
 (putV Try.prog 94 (List.getD vs32 0 V.any) v59 (vb true)).bind fun v61 =>
 (bin2 Try.prog BinOp.add 3 (ot 81) (oc 1) (List.getD vs32 2 V.any) (vi 1)).bind fun v62 =>
 (keepO (some v1) (some v1) (some [v61, v60, v62])).bind rec31)))) (
 J30 [])) n)) fun J26 =>
 (keepO (some v1) (some v1) (some [(V.mp []), (vi 0)])).bind (fixN (fun rec63 vs64 =>
 (bin2 Try.prog BinOp.lss 3 (ot 35) (ot 34) (List.getD vs64 1 V.any) v24).bind fun v65 =>
 condV v65 (
 (idxS 4 v23 (List.getD vs64 1 V.any)).bind fun v66 =>
 (ldp (some 4) v66).bind fun v67 =>
 (spliceV [(vi 0), (vi 0), (vi 0), (vi 0)] 0 4 v67).bind fun v68 =>
 (ldk (some 3) (List.drop 0 v1)).bind fun v69 =>
 (ldk (some 2) (List.drop 0 (aggL v68))).bind fun v70 =>
 ((sem_topo_Spot n) [v69, v70]).bind fun v71 =>
 (scal1 Try.prog (Op.unary Go.UnOp.not) v71).bind fun v72 =>
 (guardV v72 false ((ldk (some 3) (List.drop 0 v1)).bind fun v73 =>
 some v73)).bind fun v74 =>
 (guardV v72 false (some V.any)).bind fun v75 =>
 (guardV v72 false ((gate v72 false (ldk (some 2) (List.drop 2 (aggL v68)))).bind fun v76 =>
 some v76)).bind fun v77 =>
 (guardV v72 false (((sem_topo_Spot n) [v74, v77]).bind fun v78 =>
 some v78)).bind fun v79 =>
 (guardV v72 false ((scal1 Try.prog (Op.unary Go.UnOp.not) v79).bind fun v80 =>
 some v80)).bind fun v81 =>
 (pickV v72 (vb true) v81).bind fun v82 =>
 condV v82 (
 (scal1 Try.prog (Instr.makeInterface 79) (vi 1)).bind fun v83 =>
 some v83) (
 (ldk (some 2) (List.drop 0 (aggL v68))).bind fun v84 =>
 (lookV Try.prog 94 false (List.getD vs64 0 V.any) v84).bind fun v85 =>
 (guardV v85 false (some V.any)).bind fun v86 =>
 (guardV v85 false (some V.any)).bind fun v87 =>
 (guardV v85 false ((gate v85 false (ldk (some 2) (List.drop 2 (aggL v68)))).bind fun v88 =>
 some v88)).bind fun v89 =>
 (guardV v85 false ((gate v85 false (lookV Try.prog 94 false (List.getD vs64 0 V.any) v89)).bind fun v90 =>
 some v90)).bind fun v91 =>
 (pickV v85 (vb true) v91).bind fun v92 =>
 (guardV v92 false (some V.any)).bind fun v93 =>
 (guardV v92 false ((gate v92 false (ldk (some 2) (List.drop 0 (aggL v68)))).bind fun v94 =>
 some v94)).bind fun v95 =>
 (guardV v92 false (some V.any)).bind fun v96 =>
 (guardV v92 false ((gate v92 false (ldk (some 2) (List.drop 2 (aggL v68)))).bind fun v97 =>
 some v97)).bind fun v98 =>
 (guardV v92 false ((bin2 Try.prog BinOp.eql 51 (ot 64) (ot 66) v95 v98).bind fun v99 =>
 some v99)).bind fun v100 =>
 (pickV v92 (vb true) v100).bind fun v101 =>
 condV v101 (
 (scal1 Try.prog (Instr.makeInterface 79) (vi 7)).bind fun v102 =>
 some v102) (
 (ldk (some 2) (List.drop 0 (aggL v68))).bind fun v103 =>
 (litV v103).bind fun v104 =>
 (ldk (some 2) (List.drop 2 (aggL v68))).bind fun v105 =>
 (litV v105).bind fun v106 =>
 (putV Try.prog 94 (List.getD vs64 0 V.any) v104 (vb true)).bind fun v107 =>
 (putV Try.prog 94 v107 v106 (vb true)).bind fun v108 =>
 (bin2 Try.prog BinOp.add 3 (ot 35) (oc 1) (List.getD vs64 1 V.any) (vi 1)).bind fun v109 =>
 (keepO (some v1) (some v1) (some [v108, v109])).bind rec63))) (
 (keepO (some v1) (some v1) (some [(List.getD vs64 0 V.any)])).bind J26)) n))) := by kernel_rfl
noncomputable def t_topo_Check (a0 : T_Topo) : Option Int :=
 if ((decide (a0.Switches < 1)) || (decide (6 < a0.Switches))) = true then (
 some 1) else (
 if ((decide (200 < (List.length a0.Links : Int))) || (decide (8 < (List.length a0.Hosts : Int)))) = true then (
 some 4) else (
 join (fun (s36 : (List (T_Spot × Bool))) =>
 join (fun (s43 : Unit) =>
 some 0) fun j44 =>
 loopI a0.Hosts (fun (i52 : Int) x53 (s48 : ((List (T_Spot × Bool)) × (List (ByteArray × Bool)))) k49 =>
 (t_topo_Name x53.Name).bind fun r63 =>
 if (!r63) = true then (
 some 2) else (
 (t_topo_Spot a0 x53.At).bind fun r70 =>
 if (!r70) = true then (
 some 1) else (
 if ((mget s48.2 x53.Name false) || (mget s48.1 x53.At false)) = true then (
 some 7) else (
 k49 ((mput s48.1 x53.At true), (mput s48.2 x53.Name true)))))) (fun (s48 : ((List (T_Spot × Bool)) × (List (ByteArray × Bool)))) =>
 j44 ()) (s36, [])) fun j37 =>
 loopI a0.Links (fun (i105 : Int) x106 (s101 : (List (T_Spot × Bool))) k102 =>
 (t_topo_Spot a0 x106.A).bind fun r117 =>
 (gd (!(!r117)) default (t_topo_Spot a0 x106.B)).bind fun r130 =>
 if ((!r117) || (!r130)) = true then (
 some 1) else (
 if (((mget s101 x106.A false) || (mget s101 x106.B false)) || (decide (x106.A = x106.B))) = true then (
 some 7) else (
 k102 (mput (mput s101 x106.A true) x106.B true)))) (fun (s101 : (List (T_Spot × Bool))) =>
 j37 (s101)) ([])))
theorem ty_topo_Check {n : Nat} (hn : bigN ≤ n) (a0 : T_Topo) : Rv (fun x : Int => (eV x)) (sem_topo_Check n [(T_Topo.e a0)]) (t_topo_Check a0) := by
  rw [eq_topo_Check]
  unfold t_topo_Check
  refine tb (x := (T_Topo.c a0)) rfl ?_
  refine tb (x := (vi a0.Switches)) (rfl) ?_
  refine tb (x := (vb (decide (a0.Switches < 1)))) (d_lss) ?_
  refine tg_f (x := V.any) (fun h4 => rfl) ?_
  refine tg_f (x := (vi a0.Switches)) (fun h6 => bind_some_eq (gate_pos (not_t h6) (rfl))) ?_
  refine tg_f (x := (vb (decide (6 < a0.Switches)))) (fun h9 => by simp only [gv_t h9]; exact bind_some_eq (d_gtr)) ?_
  refine tb (x := (vb ((decide (a0.Switches < 1)) || (decide (6 < a0.Switches))))) (pick_or (fun h9 => gv_t (not_f h9))) ?_
  refine tcond (fun h13 => ?_) (fun h13 => ?_)
  · refine tb (x := (eV 1)) (p_mkE (by decide)) ?_
    exact rf_ret rfl
  · refine tb (x := (V.sl (List.map T_Link.c a0.Links))) (rfl) ?_
    refine tb (x := (vi (List.length a0.Links : Int))) (p_len _) ?_
    refine tb (x := (vb (decide (200 < (List.length a0.Links : Int))))) (d_gtr) ?_
    refine tg_f (x := V.any) (fun h18 => rfl) ?_
    refine tg_f (x := (V.sl (List.map T_Host.c a0.Hosts))) (fun h20 => bind_some_eq (gate_pos (not_t h20) (rfl))) ?_
    refine tg_f (x := (vi (List.length a0.Hosts : Int))) (fun h23 => by simp only [gv_t h23]; exact bind_some_eq (p_len _)) ?_
    refine tg_f (x := (vb (decide (8 < (List.length a0.Hosts : Int))))) (fun h26 => by simp only [gv_t h26]; exact bind_some_eq (d_gtr)) ?_
    refine tb (x := (vb ((decide (200 < (List.length a0.Links : Int))) || (decide (8 < (List.length a0.Hosts : Int)))))) (pick_or (fun h9 => gv_t (not_f h9))) ?_
    refine tcond (fun h30 => ?_) (fun h30 => ?_)
    · refine tb (x := (eV 4)) (p_mkE (by decide)) ?_
      exact rf_ret rfl
    · refine tb (x := (V.sl (List.map T_Link.c a0.Links))) (rfl) ?_
      refine tb (x := (vi (List.length a0.Links : Int))) (p_len _) ?_
      refine tjoin (mk := fun s36 : (List (T_Spot × Bool)) => [(V.mp (mrep T_Spot.val (fun b : Bool => Go.Value.bool b) s36))]) (fun s36 => ?_) fun J35 j37 h38 => ?_
      · refine tb (x := (V.sl (List.map T_Host.c a0.Hosts))) (rfl) ?_
        refine tb (x := (vi (List.length a0.Hosts : Int))) (p_len _) ?_
        refine tjoin (mk := fun s43 : Unit => []) (fun s43 => ?_) fun J42 j44 h45 => ?_
        · exact rf_ret rfl
        · refine tkeepO2 ?_ rfl
          refine tsome ?_
          refine rf_loopI (mk := fun (i52 : Int) (s48 : ((List (T_Spot × Bool)) × (List (ByteArray × Bool)))) => [(V.mp (mrep T_Spot.val (fun b : Bool => Go.Value.bool b) s48.1)), (V.mp (mrep (fun b : ByteArray => Go.Value.string b) (fun b : Bool => Go.Value.bool b) s48.2)), (vi (i52 : Int))]) hn a0.Hosts (s36, []) (fun i52 x53 h54 h55 h56 s48 rec46 k49 h50 => ?_) (fun s48 rec97 h96 => ?_)
          · refine tb (x := (vb (decide ((i52 : Int) < (List.length a0.Hosts : Int))))) (d_lss) ?_
            refine tcond_t h56 ?_
            refine tb (x := (V.ptr (T_Host.c x53))) (p_idx_at (c := T_Host.c) (fun _ => rfl) h54) ?_
            refine tb (x := (T_Host.e x53)) (rfl) ?_
            refine tb (x := V.agg (T_Host.c x53)) (by kernel_rfl) ?_
            refine tb (x := (vt x53.Name)) (rfl) ?_
            refine tbo (ty_topo_Name hn x53.Name) fun r63 => ?_
            refine tb (x := (vb (!r63))) (d_not) ?_
            refine tcond (fun h65 => ?_) (fun h65 => ?_)
            · refine tb (x := (eV 2)) (p_mkE (by decide)) ?_
              exact rf_ret rfl
            · refine tb (x := (T_Topo.e a0)) (rfl) ?_
              refine tb (x := (T_Spot.e x53.At)) (rfl) ?_
              refine tbo (ty_topo_Spot hn a0 x53.At) fun r70 => ?_
              refine tb (x := (vb (!r70))) (d_not) ?_
              refine tcond (fun h72 => ?_) (fun h72 => ?_)
              · refine tb (x := (eV 1)) (p_mkE (by decide)) ?_
                exact rf_ret rfl
              · refine tb (x := (vt x53.Name)) (rfl) ?_
                refine tb (x := (vb (mget s48.2 x53.Name false))) (p_look (kt := 9) (et := 4) (kv := (fun b : ByteArray => Go.Value.string b)) (vv := (fun b : Bool => Go.Value.bool b)) (e1 := fun x : Bool => (vb x)) (mkey_str (by kernel_rfl)) (by kernel_rfl) false (fun _ => by kernel_rfl) (fun _ => rfl) x53.Name rfl s48.2) ?_
                refine tg_f (x := V.any) (fun h76 => rfl) ?_
                refine tg_f (x := V.any) (fun h78 => rfl) ?_
                refine tg_f (x := (T_Spot.e x53.At)) (fun h80 => bind_some_eq (gate_pos (not_t h80) (rfl))) ?_
                refine tg_f (x := (vb (mget s48.1 x53.At false))) (fun h83 => by simp only [gv_t h83]; exact bind_some_eq (gate_pos (not_t h83) (p_look (kt := 51) (et := 4) (kv := T_Spot.val) (vv := (fun b : Bool => Go.Value.bool b)) (e1 := fun x : Bool => (vb x)) T_Spot.mkey (by kernel_rfl) false (fun _ => by kernel_rfl) (fun _ => rfl) x53.At rfl s48.1))) ?_
                refine tb (x := (vb ((mget s48.2 x53.Name false) || (mget s48.1 x53.At false)))) (pick_or (fun h9 => gv_t (not_f h9))) ?_
                refine tcond (fun h87 => ?_) (fun h87 => ?_)
                · refine tb (x := (eV 7)) (p_mkE (by decide)) ?_
                  exact rf_ret rfl
                · refine tb (x := (vt x53.Name)) (rfl) ?_
                  refine tb (x := (vt x53.Name)) rfl ?_
                  refine tb (x := (T_Spot.e x53.At)) (rfl) ?_
                  refine tb (x := (T_Spot.e x53.At)) rfl ?_
                  refine tb (x := V.mp (mrep (fun b : ByteArray => Go.Value.string b) (fun b : Bool => Go.Value.bool b) (mput s48.2 x53.Name true))) (p_put (kt := 9) (et := 4) (kv := (fun b : ByteArray => Go.Value.string b)) (vv := (fun b : Bool => Go.Value.bool b)) (mkey_str (by kernel_rfl)) (by kernel_rfl) x53.Name true rfl rfl s48.2) ?_
                  refine tb (x := V.mp (mrep T_Spot.val (fun b : Bool => Go.Value.bool b) (mput s48.1 x53.At true))) (p_put (kt := 51) (et := 4) (kv := T_Spot.val) (vv := (fun b : Bool => Go.Value.bool b)) T_Spot.mkey (by kernel_rfl) x53.At true rfl rfl s48.1) ?_
                  refine tb (x := (vi ((i52 : Int) + 1))) (p_incN h55) ?_
                  refine tkeepO2 ?_ rfl
                  refine tsome ?_
                  exact h50 ((mput s48.1 x53.At true), (mput s48.2 x53.Name true))
          · refine tb (x := (vb (decide ((List.length a0.Hosts : Int) < (List.length a0.Hosts : Int))))) (d_lss) ?_
            refine tcond_f h96 ?_
            exact h45 ()
      · refine tkeepO2 ?_ rfl
        refine tsome ?_
        refine rf_loopI (mk := fun (i105 : Int) (s101 : (List (T_Spot × Bool))) => [(V.mp (mrep T_Spot.val (fun b : Bool => Go.Value.bool b) s101)), (vi (i105 : Int))]) hn a0.Links ([]) (fun i105 x106 h107 h108 h109 s101 rec99 k102 h103 => ?_) (fun s101 rec174 h173 => ?_)
        · refine tb (x := (vb (decide ((i105 : Int) < (List.length a0.Links : Int))))) (d_lss) ?_
          refine tcond_t h109 ?_
          refine tb (x := (V.ptr (T_Link.c x106))) (p_idx_at (c := T_Link.c) (fun _ => rfl) h107) ?_
          refine tb (x := (T_Link.e x106)) (rfl) ?_
          refine tb (x := V.agg (T_Link.c x106)) (by kernel_rfl) ?_
          refine tb (x := (T_Topo.e a0)) (rfl) ?_
          refine tb (x := (T_Spot.e x106.A)) (rfl) ?_
          refine tbo (ty_topo_Spot hn a0 x106.A) fun r117 => ?_
          refine tb (x := (vb (!r117))) (d_not) ?_
          refine tg_f (x := (T_Topo.e a0)) (fun h119 => bind_some_eq (rfl)) ?_
          refine tg_f (x := V.any) (fun h122 => rfl) ?_
          refine tg_f (x := (T_Spot.e x106.B)) (fun h124 => bind_some_eq (gate_pos (not_t h124) (rfl))) ?_
          refine tgo_f (fun h127 => by simp only [gv_t h127]; exact rf_bind_some (ty_topo_Spot hn a0 x106.B)) fun r130 => ?_
          refine tg_f (x := (vb (!r130))) (fun h131 => by simp only [gv_t h131]; exact bind_some_eq (d_not)) ?_
          refine tb (x := (vb ((!r117) || (!r130)))) (pick_or (fun h9 => gv_t (not_f h9))) ?_
          refine tcond (fun h135 => ?_) (fun h135 => ?_)
          · refine tb (x := (eV 1)) (p_mkE (by decide)) ?_
            exact rf_ret rfl
          · refine tb (x := (T_Spot.e x106.A)) (rfl) ?_
            refine tb (x := (vb (mget s101 x106.A false))) (p_look (kt := 51) (et := 4) (kv := T_Spot.val) (vv := (fun b : Bool => Go.Value.bool b)) (e1 := fun x : Bool => (vb x)) T_Spot.mkey (by kernel_rfl) false (fun _ => by kernel_rfl) (fun _ => rfl) x106.A rfl s101) ?_
            refine tg_f (x := V.any) (fun h139 => rfl) ?_
            refine tg_f (x := V.any) (fun h141 => rfl) ?_
            refine tg_f (x := (T_Spot.e x106.B)) (fun h143 => bind_some_eq (gate_pos (not_t h143) (rfl))) ?_
            refine tg_f (x := (vb (mget s101 x106.B false))) (fun h146 => by simp only [gv_t h146]; exact bind_some_eq (gate_pos (not_t h146) (p_look (kt := 51) (et := 4) (kv := T_Spot.val) (vv := (fun b : Bool => Go.Value.bool b)) (e1 := fun x : Bool => (vb x)) T_Spot.mkey (by kernel_rfl) false (fun _ => by kernel_rfl) (fun _ => rfl) x106.B rfl s101))) ?_
            refine tb (x := (vb ((mget s101 x106.A false) || (mget s101 x106.B false)))) (pick_or (fun h9 => gv_t (not_f h9))) ?_
            refine tg_f (x := V.any) (fun h150 => rfl) ?_
            refine tg_f (x := (T_Spot.e x106.A)) (fun h152 => bind_some_eq (gate_pos (not_t h152) (rfl))) ?_
            refine tg_f (x := V.any) (fun h155 => rfl) ?_
            refine tg_f (x := (T_Spot.e x106.B)) (fun h157 => bind_some_eq (gate_pos (not_t h157) (rfl))) ?_
            refine tg_f (x := (vb (decide (x106.A = x106.B)))) (fun h160 => by simp only [gv_t h160]; exact bind_some_eq (T_Spot.eql x106.A x106.B)) ?_
            refine tb (x := (vb (((mget s101 x106.A false) || (mget s101 x106.B false)) || (decide (x106.A = x106.B))))) (pick_or (fun h9 => gv_t (not_f h9))) ?_
            refine tcond (fun h164 => ?_) (fun h164 => ?_)
            · refine tb (x := (eV 7)) (p_mkE (by decide)) ?_
              exact rf_ret rfl
            · refine tb (x := (T_Spot.e x106.A)) (rfl) ?_
              refine tb (x := (T_Spot.e x106.A)) rfl ?_
              refine tb (x := (T_Spot.e x106.B)) (rfl) ?_
              refine tb (x := (T_Spot.e x106.B)) rfl ?_
              refine tb (x := V.mp (mrep T_Spot.val (fun b : Bool => Go.Value.bool b) (mput s101 x106.A true))) (p_put (kt := 51) (et := 4) (kv := T_Spot.val) (vv := (fun b : Bool => Go.Value.bool b)) T_Spot.mkey (by kernel_rfl) x106.A true rfl rfl s101) ?_
              refine tb (x := V.mp (mrep T_Spot.val (fun b : Bool => Go.Value.bool b) (mput (mput s101 x106.A true) x106.B true))) (p_put (kt := 51) (et := 4) (kv := T_Spot.val) (vv := (fun b : Bool => Go.Value.bool b)) T_Spot.mkey (by kernel_rfl) x106.B true rfl rfl (mput s101 x106.A true)) ?_
              refine tb (x := (vi ((i105 : Int) + 1))) (p_incN h108) ?_
              refine tkeepO2 ?_ rfl
              refine tsome ?_
              exact h103 (mput (mput s101 x106.A true) x106.B true)
        · refine tb (x := (vb (decide ((List.length a0.Links : Int) < (List.length a0.Links : Int))))) (d_lss) ?_
          refine tcond_f h173 ?_
          refine tkeepO2 ?_ rfl
          refine tsome ?_
          exact h38 (s101)

/-! railpoint/cube.Header -/
def an_cube_Header : Ann := .seq (.reg 0 [] [] []) (.seq (.reg 0 [] [] []) (.no))
noncomputable def sem_cube_Header (n : Nat) (xs : List V) : Option V := if xs.length ≤ 9 then denF Try.prog (envOf []) n Try.f33 an_cube_Header xs else none
theorem ok_cube_Header (n : Nat) : SemOk Try.prog DW 33 (sem_cube_Header n) := fun xs y h => by
  unfold sem_cube_Header at h
  split at h
  · rename_i hl
    exact denF_ok stb Try.func33 (by kernel_rfl) (envOf_ok semsOk_nil) (by rw [Try.ntmps33]; exact hl) h
  · cases h
theorem eq_cube_Header (n : Nat) (x0 : V) : sem_cube_Header n [x0] =
 (bin2 Try.prog BinOp.geq 3 (ot 3) (oc 0) x0 (vi 0)).bind fun v1 =>
 (guardV v1 true (some x0)).bind fun v2 =>
 (guardV v1 true ((bin2 Try.prog BinOp.lss 3 (ot 6) (oc 16) v2 (vi 16)).bind fun v3 =>
 some v3)).bind fun v4 =>
 (pickV v1 v4 (vb false)).bind fun v5 =>
 some v5 := by kernel_rfl
noncomputable def t_cube_Header (a0 : Int) : Option Bool :=
 some ((decide (0 ≤ a0)) && (decide (a0 < 16)))
theorem ty_cube_Header {n : Nat} (hn : bigN ≤ n) (a0 : Int) : Rv (fun x : Bool => (vb x)) (sem_cube_Header n [(vi a0)]) (t_cube_Header a0) := by
  rw [eq_cube_Header]
  unfold t_cube_Header
  refine tb (x := (vb (decide (0 ≤ a0)))) (d_geq) ?_
  refine tg (x := (vi a0)) (fun h2 => rfl) ?_
  refine tg (x := (vb (decide (a0 < 16)))) (fun h4 => by simp only [gv_t h4]; exact bind_some_eq (d_lss)) ?_
  refine tb (x := (vb ((decide (0 ≤ a0)) && (decide (a0 < 16))))) (pick_and (fun h9 => gv_t h9)) ?_
  exact rf_ret rfl

/-! railpoint/cube.Check -/
def an_cube_Check : Ann := .seq (.reg 0 [] [] []) (.seq (.blk none (.seq (.reg 0 [] [] []) (.cond none (.seq (.reg 0 [] [] []) (.no)) (.seq (.reg 0 [] [] []) (.cond none (.seq (.reg 0 [] [] []) (.no)) (.no)))))) (.seq (.reg 0 [] [] []) (.no)))
noncomputable def sem_cube_Check (n : Nat) (xs : List V) : Option V := if xs.length ≤ 23 then denF Try.prog (envOf [(33, (sem_cube_Header n))]) n Try.f66 an_cube_Check xs else none
theorem ok_cube_Check (n : Nat) : SemOk Try.prog DW 66 (sem_cube_Check n) := fun xs y h => by
  unfold sem_cube_Check at h
  split at h
  · rename_i hl
    exact denF_ok stb Try.func66 (by kernel_rfl) (envOf_ok (semsOk_cons (ok_cube_Header n) semsOk_nil)) (by rw [Try.ntmps66]; exact hl) h
  · cases h
theorem eq_cube_Check (n : Nat) (x0 : V) : sem_cube_Check n [x0] =
 (V.cellsO x0).bind fun v1 =>
 (ldk none (List.drop 0 v1)).bind fun v2 =>
 ((sem_cube_Header n) [v2]).bind fun v3 =>
 (scal1 Try.prog (Op.unary Go.UnOp.not) v3).bind fun v4 =>
 (guardV v4 false (some V.any)).bind fun v5 =>
 (guardV v4 false ((gate v4 false (ldk none (List.drop 1 v1))).bind fun v6 =>
 some v6)).bind fun v7 =>
 (guardV v4 false (((sem_cube_Header n) [v7]).bind fun v8 =>
 some v8)).bind fun v9 =>
 (guardV v4 false ((scal1 Try.prog (Op.unary Go.UnOp.not) v9).bind fun v10 =>
 some v10)).bind fun v11 =>
 (pickV v4 (vb true) v11).bind fun v12 =>
 condV v12 (
 (scal1 Try.prog (Instr.makeInterface 79) (vi 1)).bind fun v13 =>
 some v13) (
 (ldk none (List.drop 1 v1)).bind fun v14 =>
 (ldk none (List.drop 0 v1)).bind fun v15 =>
 (bin2 Try.prog BinOp.andNot 3 (ot 17) (ot 19) v14 v15).bind fun v16 =>
 (bin2 Try.prog BinOp.neq 3 (ot 20) (oc 0) v16 (vi 0)).bind fun v17 =>
 condV v17 (
 (scal1 Try.prog (Instr.makeInterface 79) (vi 3)).bind fun v18 =>
 some v18) (
 some vn)) := by kernel_rfl
noncomputable def t_cube_Check (a0 : T_Cube) : Option Int :=
 (t_cube_Header a0.Mask).bind fun r4 =>
 (gd (!(!r4)) default (t_cube_Header a0.Bits)).bind fun r14 =>
 if ((!r4) || (!r14)) = true then (
 some 1) else (
 if (decide ((bits .andNot .i64 a0.Bits a0.Mask) ≠ 0)) = true then (
 some 3) else (
 some 0))
theorem ty_cube_Check {n : Nat} (hn : bigN ≤ n) (a0 : T_Cube) : Rv (fun x : Int => (eV x)) (sem_cube_Check n [(T_Cube.e a0)]) (t_cube_Check a0) := by
  rw [eq_cube_Check]
  unfold t_cube_Check
  refine tb (x := (T_Cube.c a0)) rfl ?_
  refine tb (x := (vi a0.Mask)) (rfl) ?_
  refine tbo (ty_cube_Header hn a0.Mask) fun r4 => ?_
  refine tb (x := (vb (!r4))) (d_not) ?_
  refine tg_f (x := V.any) (fun h6 => rfl) ?_
  refine tg_f (x := (vi a0.Bits)) (fun h8 => bind_some_eq (gate_pos (not_t h8) (rfl))) ?_
  refine tgo_f (fun h11 => by simp only [gv_t h11]; exact rf_bind_some (ty_cube_Header hn a0.Bits)) fun r14 => ?_
  refine tg_f (x := (vb (!r14))) (fun h15 => by simp only [gv_t h15]; exact bind_some_eq (d_not)) ?_
  refine tb (x := (vb ((!r4) || (!r14)))) (pick_or (fun h9 => gv_t (not_f h9))) ?_
  refine tcond (fun h19 => ?_) (fun h19 => ?_)
  · refine tb (x := (eV 1)) (p_mkE (by decide)) ?_
    exact rf_ret rfl
  · refine tb (x := (vi a0.Bits)) (rfl) ?_
    refine tb (x := (vi a0.Mask)) (rfl) ?_
    refine tb (x := (vi (bits .andNot .i64 a0.Bits a0.Mask))) (d_andNot) ?_
    refine tb (x := (vb (decide ((bits .andNot .i64 a0.Bits a0.Mask) ≠ 0)))) (d_neq) ?_
    refine tcond (fun h25 => ?_) (fun h25 => ?_)
    · refine tb (x := (eV 3)) (p_mkE (by decide)) ?_
      exact rf_ret rfl
    · exact rf_ret rfl

/-! railpoint/rule.Check -/
def an_rule_Check : Ann := .seq (.reg 0 [] [] []) (.seq (.seq (.reg 0 [] [] []) (.cond none (.seq (.reg 0 [] [] []) (.no)) (.no))) (.seq (.seq (.reg 0 [] [] []) (.seq (.reg 0 [] [] []) (.cond none (.seq (.reg 0 [] [] []) (.no)) (.no)))) (.seq (.seq (.reg 0 [] [] []) (.cond none (.seq (.reg 0 [] [] []) (.no)) (.no))) (.seq (.reg 0 [] [] []) (.no)))))
noncomputable def sem_rule_Check (n : Nat) (xs : List V) : Option V := if xs.length ≤ 58 then denF Try.prog (envOf [(33, (sem_cube_Header n)), (66, (sem_cube_Check n))]) n Try.f49 an_rule_Check xs else none
theorem ok_rule_Check (n : Nat) : SemOk Try.prog DW 49 (sem_rule_Check n) := fun xs y h => by
  unfold sem_rule_Check at h
  split at h
  · rename_i hl
    exact denF_ok stb Try.func49 (by kernel_rfl) (envOf_ok (semsOk_cons (ok_cube_Header n) (semsOk_cons (ok_cube_Check n) semsOk_nil))) (by rw [Try.ntmps49]; exact hl) h
  · cases h
theorem eq_rule_Check (n : Nat) (x0 : V) : sem_rule_Check n [x0] =
 (V.cellsO x0).bind fun v1 =>
 (ldk none (List.drop 0 v1)).bind fun v2 =>
 (bin2 Try.prog BinOp.lss 3 (ot 5) (oc 0) v2 (vi 0)).bind fun v3 =>
 (guardV v3 false (some V.any)).bind fun v4 =>
 (guardV v3 false ((gate v3 false (ldk none (List.drop 0 v1))).bind fun v5 =>
 some v5)).bind fun v6 =>
 (guardV v3 false ((bin2 Try.prog BinOp.gtr 3 (ot 9) (oc 99) v6 (vi 99)).bind fun v7 =>
 some v7)).bind fun v8 =>
 (pickV v3 (vb true) v8).bind fun v9 =>
 (guardV v9 false (some V.any)).bind fun v10 =>
 (guardV v9 false ((gate v9 false (ldk none (List.drop 3 v1))).bind fun v11 =>
 some v11)).bind fun v12 =>
 (guardV v9 false ((bin2 Try.prog BinOp.lss 3 (ot 14) (oc 0) v12 (vi 0)).bind fun v13 =>
 some v13)).bind fun v14 =>
 (pickV v9 (vb true) v14).bind fun v15 =>
 (guardV v15 false (some V.any)).bind fun v16 =>
 (guardV v15 false ((gate v15 false (ldk none (List.drop 3 v1))).bind fun v17 =>
 some v17)).bind fun v18 =>
 (guardV v15 false ((bin2 Try.prog BinOp.gtr 3 (ot 19) (oc 4) v18 (vi 4)).bind fun v19 =>
 some v19)).bind fun v20 =>
 (pickV v15 (vb true) v20).bind fun v21 =>
 (guardV v21 false (some V.any)).bind fun v22 =>
 (guardV v21 false ((gate v21 false (ldk none (List.drop 4 v1))).bind fun v23 =>
 some v23)).bind fun v24 =>
 (guardV v21 false (((sem_cube_Header n) [v24]).bind fun v25 =>
 some v25)).bind fun v26 =>
 (guardV v21 false ((scal1 Try.prog (Op.unary Go.UnOp.not) v26).bind fun v27 =>
 some v27)).bind fun v28 =>
 (pickV v21 (vb true) v28).bind fun v29 =>
 (guardV v29 false (some V.any)).bind fun v30 =>
 (guardV v29 false ((gate v29 false (ldk none (List.drop 5 v1))).bind fun v31 =>
 some v31)).bind fun v32 =>
 (guardV v29 false (((sem_cube_Header n) [v32]).bind fun v33 =>
 some v33)).bind fun v34 =>
 (guardV v29 false ((scal1 Try.prog (Op.unary Go.UnOp.not) v34).bind fun v35 =>
 some v35)).bind fun v36 =>
 (pickV v29 (vb true) v36).bind fun v37 =>
 condV v37 (
 (scal1 Try.prog (Instr.makeInterface 79) (vi 1)).bind fun v38 =>
 some v38) (
 (ldk (some 2) (List.drop 1 v1)).bind fun v39 =>
 ((sem_cube_Check n) [v39]).bind fun v40 =>
 (bin2 Try.prog BinOp.neq 31 (ot 38) (Operand.const Go.Value.nilIface) v40 vn).bind fun v41 =>
 condV v41 (
 some v40) (
 (ldk none (List.drop 5 v1)).bind fun v42 =>
 (ldk none (List.drop 4 v1)).bind fun v43 =>
 (bin2 Try.prog BinOp.andNot 3 (ot 42) (ot 44) v42 v43).bind fun v44 =>
 (bin2 Try.prog BinOp.neq 3 (ot 45) (oc 0) v44 (vi 0)).bind fun v45 =>
 (guardV v45 false (some V.any)).bind fun v46 =>
 (guardV v45 false ((gate v45 false (ldk none (List.drop 3 v1))).bind fun v47 =>
 some v47)).bind fun v48 =>
 (guardV v45 false ((bin2 Try.prog BinOp.eql 3 (ot 49) (oc 0) v48 (vi 0)).bind fun v49 =>
 some v49)).bind fun v50 =>
 (guardV v45 false (some v50)).bind fun v51 =>
 (guardV v51 true (some V.any)).bind fun v52 =>
 (guardV v51 true ((gate v51 true (ldk none (List.drop 4 v1))).bind fun v53 =>
 some v53)).bind fun v54 =>
 (guardV v51 true ((bin2 Try.prog BinOp.neq 3 (ot 53) (oc 0) v54 (vi 0)).bind fun v55 =>
 some v55)).bind fun v56 =>
 (guardV v45 false ((pickV v51 v56 (vb false)).bind fun v57 =>
 some v57)).bind fun v58 =>
 (pickV v45 (vb true) v58).bind fun v59 =>
 condV v59 (
 (scal1 Try.prog (Instr.makeInterface 79) (vi 3)).bind fun v60 =>
 some v60) (
 some vn))) := by kernel_rfl
noncomputable def t_rule_Check (a0 : T_Rule) : Option Int :=
 (gd (!((((decide (a0.Prio < 0)) || (decide (99 < a0.Prio))) || (decide (a0.Out < 0))) || (decide (4 < a0.Out)))) default (t_cube_Header a0.Set)).bind fun r39 =>
 (gd (!(((((decide (a0.Prio < 0)) || (decide (99 < a0.Prio))) || (decide (a0.Out < 0))) || (decide (4 < a0.Out))) || (!r39))) default (t_cube_Header a0.Value)).bind fun r52 =>
 if ((((((decide (a0.Prio < 0)) || (decide (99 < a0.Prio))) || (decide (a0.Out < 0))) || (decide (4 < a0.Out))) || (!r39)) || (!r52)) = true then (
 some 1) else (
 (t_cube_Check a0.Cube).bind fun r61 =>
 if (!decide (r61 = 0)) = true then (
 some r61) else (
 if ((decide ((bits .andNot .i64 a0.Value a0.Set) ≠ 0)) || ((decide (a0.Out = 0)) && (decide (a0.Set ≠ 0)))) = true then (
 some 3) else (
 some 0)))
theorem ty_rule_Check {n : Nat} (hn : bigN ≤ n) (a0 : T_Rule) : Rv (fun x : Int => (eV x)) (sem_rule_Check n [(T_Rule.e a0)]) (t_rule_Check a0) := by
  rw [eq_rule_Check]
  unfold t_rule_Check
  refine tb (x := (T_Rule.c a0)) rfl ?_
  refine tb (x := (vi a0.Prio)) (rfl) ?_
  refine tb (x := (vb (decide (a0.Prio < 0)))) (d_lss) ?_
  refine tg_f (x := V.any) (fun h4 => rfl) ?_
  refine tg_f (x := (vi a0.Prio)) (fun h6 => bind_some_eq (gate_pos (not_t h6) (rfl))) ?_
  refine tg_f (x := (vb (decide (99 < a0.Prio)))) (fun h9 => by simp only [gv_t h9]; exact bind_some_eq (d_gtr)) ?_
  refine tb (x := (vb ((decide (a0.Prio < 0)) || (decide (99 < a0.Prio))))) (pick_or (fun h9 => gv_t (not_f h9))) ?_
  refine tg_f (x := V.any) (fun h13 => rfl) ?_
  refine tg_f (x := (vi a0.Out)) (fun h15 => bind_some_eq (gate_pos (not_t h15) (rfl))) ?_
  refine tg_f (x := (vb (decide (a0.Out < 0)))) (fun h18 => by simp only [gv_t h18]; exact bind_some_eq (d_lss)) ?_
  refine tb (x := (vb (((decide (a0.Prio < 0)) || (decide (99 < a0.Prio))) || (decide (a0.Out < 0))))) (pick_or (fun h9 => gv_t (not_f h9))) ?_
  refine tg_f (x := V.any) (fun h22 => rfl) ?_
  refine tg_f (x := (vi a0.Out)) (fun h24 => bind_some_eq (gate_pos (not_t h24) (rfl))) ?_
  refine tg_f (x := (vb (decide (4 < a0.Out)))) (fun h27 => by simp only [gv_t h27]; exact bind_some_eq (d_gtr)) ?_
  refine tb (x := (vb ((((decide (a0.Prio < 0)) || (decide (99 < a0.Prio))) || (decide (a0.Out < 0))) || (decide (4 < a0.Out))))) (pick_or (fun h9 => gv_t (not_f h9))) ?_
  refine tg_f (x := V.any) (fun h31 => rfl) ?_
  refine tg_f (x := (vi a0.Set)) (fun h33 => bind_some_eq (gate_pos (not_t h33) (rfl))) ?_
  refine tgo_f (fun h36 => by simp only [gv_t h36]; exact rf_bind_some (ty_cube_Header hn a0.Set)) fun r39 => ?_
  refine tg_f (x := (vb (!r39))) (fun h40 => by simp only [gv_t h40]; exact bind_some_eq (d_not)) ?_
  refine tb (x := (vb (((((decide (a0.Prio < 0)) || (decide (99 < a0.Prio))) || (decide (a0.Out < 0))) || (decide (4 < a0.Out))) || (!r39)))) (pick_or (fun h9 => gv_t (not_f h9))) ?_
  refine tg_f (x := V.any) (fun h44 => rfl) ?_
  refine tg_f (x := (vi a0.Value)) (fun h46 => bind_some_eq (gate_pos (not_t h46) (rfl))) ?_
  refine tgo_f (fun h49 => by simp only [gv_t h49]; exact rf_bind_some (ty_cube_Header hn a0.Value)) fun r52 => ?_
  refine tg_f (x := (vb (!r52))) (fun h53 => by simp only [gv_t h53]; exact bind_some_eq (d_not)) ?_
  refine tb (x := (vb ((((((decide (a0.Prio < 0)) || (decide (99 < a0.Prio))) || (decide (a0.Out < 0))) || (decide (4 < a0.Out))) || (!r39)) || (!r52)))) (pick_or (fun h9 => gv_t (not_f h9))) ?_
  refine tcond (fun h57 => ?_) (fun h57 => ?_)
  · refine tb (x := (eV 1)) (p_mkE (by decide)) ?_
    exact rf_ret rfl
  · refine tb (x := (T_Cube.e a0.Cube)) (rfl) ?_
    refine tbo (ty_cube_Check hn a0.Cube) fun r61 => ?_
    refine tb (x := (vb (!decide (r61 = 0)))) (p_err_neq _) ?_
    refine tcond (fun h63 => ?_) (fun h63 => ?_)
    · exact rf_ret rfl
    · refine tb (x := (vi a0.Value)) (rfl) ?_
      refine tb (x := (vi a0.Set)) (rfl) ?_
      refine tb (x := (vi (bits .andNot .i64 a0.Value a0.Set))) (d_andNot) ?_
      refine tb (x := (vb (decide ((bits .andNot .i64 a0.Value a0.Set) ≠ 0)))) (d_neq) ?_
      refine tg_f (x := V.any) (fun h68 => rfl) ?_
      refine tg_f (x := (vi a0.Out)) (fun h70 => bind_some_eq (gate_pos (not_t h70) (rfl))) ?_
      refine tg_f (x := (vb (decide (a0.Out = 0)))) (fun h73 => by simp only [gv_t h73]; exact bind_some_eq (d_eql)) ?_
      refine tg_f (x := (vb (decide (a0.Out = 0)))) (fun h76 => congrArg some (gv_t h76)) ?_
      refine tg2 (x := V.any) (fun h78 => rfl) ?_
      refine tg2 (x := (vi a0.Set)) (fun h80 => bind_some_eq (gate_pos2 (and_l h80) (and_r h80) (rfl))) ?_
      refine tg2 (x := (vb (decide (a0.Set ≠ 0)))) (fun h83 => by simp only [gv_t h83]; exact bind_some_eq (d_neq)) ?_
      refine tg_f (x := (vb ((decide (a0.Out = 0)) && (decide (a0.Set ≠ 0))))) (fun h86 => by simp only [gv_t h86]; exact bind_some_eq (pick_and (fun h9 => gv_t (and_i h86 h9)))) ?_
      refine tb (x := (vb ((decide ((bits .andNot .i64 a0.Value a0.Set) ≠ 0)) || ((decide (a0.Out = 0)) && (decide (a0.Set ≠ 0)))))) (pick_or (fun h9 => gv_t (not_f h9))) ?_
      refine tcond (fun h90 => ?_) (fun h90 => ?_)
      · refine tb (x := (eV 3)) (p_mkE (by decide)) ?_
        exact rf_ret rfl
      · exact rf_ret rfl

/-! slices.IndexFunc railpoint/api.Table railpoint/api.Rule  -/
def an_slices_IndexFunc_api_Table_api_Rule : Ann := .seq (.reg 0 [] [] []) (.seq (.seq (.reg 0 [] [] []) (.blk (some []) (.loop [.s 8] (.seq (.reg 0 [] [] []) (.seq (.cond none (.no) (.no)) (.seq (.blk none (.seq (.reg 0 [] [] []) (.seq (.reg 0 [] [] []) (.cond none (.seq (.reg 0 [] [] []) (.no)) (.no))))) (.reg 0 [] [] []))))))) (.seq (.reg 0 [] [] []) (.no)))
noncomputable def sem_slices_IndexFunc_api_Table_api_Rule (E : FuncId → List V → Option V) (n : Nat) (xs : List V) : Option V := if xs.length ≤ 19 then denF Try.prog (envJ [] E) n Try.f67 an_slices_IndexFunc_api_Table_api_Rule xs else none
theorem ok_slices_IndexFunc_api_Table_api_Rule {E : FuncId → List V → Option V} (hE : EnvOk Try.prog DW E) (n : Nat) : SemOk Try.prog DW 67 (sem_slices_IndexFunc_api_Table_api_Rule E n) := fun xs y h => by
  unfold sem_slices_IndexFunc_api_Table_api_Rule at h
  split at h
  · rename_i hl
    exact denF_ok stb Try.func67 (by kernel_rfl) (envJ_ok semsOk_nil hE) (by rw [Try.ntmps67]; exact hl) h
  · cases h
theorem eq_slices_IndexFunc_api_Table_api_Rule (E : FuncId → List V → Option V) (n : Nat) (x0 x1 : V) : sem_slices_IndexFunc_api_Table_api_Rule E n [x0, x1] =
 (lenS [x0]).bind fun v1 =>
 JoinPt (fun vs2 =>
 some (vi (-1 : Int))) fun J3 =>
 (fixN (fun rec4 vs5 =>
 (bin2 Try.prog BinOp.lss 3 (ot 8) (ot 7) (List.getD vs5 0 V.any) v1).bind fun v6 =>
 condV v6 (
 (idxS 6 x0 (List.getD vs5 0 V.any)).bind fun v7 =>
 (ldp (some 6) v7).bind fun v8 =>
 (callV (envJ [] E) x1 [v8]).bind fun v9 =>
 condV v9 (
 some (List.getD vs5 0 V.any)) (
 (bin2 Try.prog BinOp.add 3 (ot 8) (oc 1) (List.getD vs5 0 V.any) (vi 1)).bind fun v10 =>
 rec4 [v10])) (
 J3 [])) n) [(vi 0)] := by kernel_rfl
noncomputable def t_slices_IndexFunc_api_Table_api_Rule (a0 : (List T_Rule)) (g1 : T_Rule → Option Bool) : Option Int :=
 join (fun (s4 : Unit) =>
 some (-1 : Int)) fun j5 =>
 loopI a0 (fun (i13 : Int) x14 (s9 : Unit) k10 =>
 (g1 x14).bind fun r22 =>
 if r22 = true then (
 some i13) else (
 k10 ())) (fun (s9 : Unit) =>
 j5 ()) ()
theorem ty_slices_IndexFunc_api_Table_api_Rule {E : FuncId → List V → Option V} {n : Nat} (hn : bigN ≤ n) (a0 : (List T_Rule)) {x1 : V} {g1 : T_Rule → Option Bool} (hg_g1 : ∀ a0, Rv (fun x : Bool => (vb x)) (callV E x1 [(T_Rule.e a0)]) (g1 a0)) : Rv (fun x : Int => (vi x)) (sem_slices_IndexFunc_api_Table_api_Rule E n [(V.sl (List.map T_Rule.c a0)), x1]) (t_slices_IndexFunc_api_Table_api_Rule a0 g1) := by
  rw [eq_slices_IndexFunc_api_Table_api_Rule]
  unfold t_slices_IndexFunc_api_Table_api_Rule
  refine tb (x := (vi (List.length a0 : Int))) (p_len _) ?_
  refine tjoin (mk := fun s4 : Unit => []) (fun s4 => ?_) fun J3 j5 h6 => ?_
  · exact rf_ret rfl
  · refine rf_loopI (mk := fun (i13 : Int) (s9 : Unit) => [(vi (i13 : Int))]) hn a0 () (fun i13 x14 h15 h16 h17 s9 rec7 k10 h11 => ?_) (fun s9 rec26 h25 => ?_)
    · refine tb (x := (vb (decide ((i13 : Int) < (List.length a0 : Int))))) (d_lss) ?_
      refine tcond_t h17 ?_
      refine tb (x := (V.ptr (T_Rule.c x14))) (p_idx_at (c := T_Rule.c) (fun _ => rfl) h15) ?_
      refine tb (x := (T_Rule.e x14)) (rfl) ?_
      refine tbo ((callV_J0 ▸ hg_g1 x14)) fun r22 => ?_
      refine tcond (fun h23 => ?_) (fun h23 => ?_)
      · exact rf_ret rfl
      · refine tb (x := (vi ((i13 : Int) + 1))) (p_incN h16) ?_
        exact h11 ()
    · refine tb (x := (vb (decide ((List.length a0 : Int) < (List.length a0 : Int))))) (d_lss) ?_
      refine tcond_f h25 ?_
      exact h6 ()

/-! slices.ContainsFunc railpoint/api.Table railpoint/api.Rule  -/
def an_slices_ContainsFunc_api_Table_api_Rule : Ann := .seq (.reg 0 [] [] []) (.seq (.reg 0 [] [] []) (.no))
noncomputable def sem_slices_ContainsFunc_api_Table_api_Rule (E : FuncId → List V → Option V) (n : Nat) (xs : List V) : Option V := if xs.length ≤ 9 then denF Try.prog (envJ [(67, (sem_slices_IndexFunc_api_Table_api_Rule E n))] E) n Try.f51 an_slices_ContainsFunc_api_Table_api_Rule xs else none
theorem ok_slices_ContainsFunc_api_Table_api_Rule {E : FuncId → List V → Option V} (hE : EnvOk Try.prog DW E) (n : Nat) : SemOk Try.prog DW 51 (sem_slices_ContainsFunc_api_Table_api_Rule E n) := fun xs y h => by
  unfold sem_slices_ContainsFunc_api_Table_api_Rule at h
  split at h
  · rename_i hl
    exact denF_ok stb Try.func51 (by kernel_rfl) (envJ_ok (semsOk_cons (ok_slices_IndexFunc_api_Table_api_Rule hE n) semsOk_nil) hE) (by rw [Try.ntmps51]; exact hl) h
  · cases h
theorem eq_slices_ContainsFunc_api_Table_api_Rule (E : FuncId → List V → Option V) (n : Nat) (x0 x1 : V) : sem_slices_ContainsFunc_api_Table_api_Rule E n [x0, x1] =
 ((sem_slices_IndexFunc_api_Table_api_Rule E n) [x0, x1]).bind fun v1 =>
 (bin2 Try.prog BinOp.geq 3 (ot 7) (oc 0) v1 (vi 0)).bind fun v2 =>
 some v2 := by kernel_rfl
noncomputable def t_slices_ContainsFunc_api_Table_api_Rule (a0 : (List T_Rule)) (g1 : T_Rule → Option Bool) : Option Bool :=
 (t_slices_IndexFunc_api_Table_api_Rule a0 g1).bind fun r2 =>
 some (decide (0 ≤ r2))
theorem ty_slices_ContainsFunc_api_Table_api_Rule {E : FuncId → List V → Option V} {n : Nat} (hn : bigN ≤ n) (a0 : (List T_Rule)) {x1 : V} {g1 : T_Rule → Option Bool} (hg_g1 : ∀ a0, Rv (fun x : Bool => (vb x)) (callV E x1 [(T_Rule.e a0)]) (g1 a0)) : Rv (fun x : Bool => (vb x)) (sem_slices_ContainsFunc_api_Table_api_Rule E n [(V.sl (List.map T_Rule.c a0)), x1]) (t_slices_ContainsFunc_api_Table_api_Rule a0 g1) := by
  rw [eq_slices_ContainsFunc_api_Table_api_Rule]
  unfold t_slices_ContainsFunc_api_Table_api_Rule
  refine tbo (ty_slices_IndexFunc_api_Table_api_Rule (E := E) (x1 := x1) (g1 := g1) hn a0 hg_g1) fun r2 => ?_
  refine tb (x := (vb (decide (0 ≤ r2)))) (d_geq) ?_
  exact rf_ret rfl

/-! railpoint/rule.Key -/
def an_rule_Key : Ann := .seq (.reg 0 [] [] []) (.seq (.reg 0 [] [] []) (.no))
noncomputable def sem_rule_Key (n : Nat) (xs : List V) : Option V := if xs.length ≤ 17 then denF Try.prog (envOf []) n Try.f53 an_rule_Key xs else none
theorem ok_rule_Key (n : Nat) : SemOk Try.prog DW 53 (sem_rule_Key n) := fun xs y h => by
  unfold sem_rule_Key at h
  split at h
  · rename_i hl
    exact denF_ok stb Try.func53 (by kernel_rfl) (envOf_ok semsOk_nil) (by rw [Try.ntmps53]; exact hl) h
  · cases h
theorem eq_rule_Key (n : Nat) (x0 x1 : V) : sem_rule_Key n [x0, x1] =
 (V.cellsO x0).bind fun v1 =>
 (V.cellsO x1).bind fun v2 =>
 (ldk none (List.drop 0 v1)).bind fun v3 =>
 (ldk none (List.drop 0 v2)).bind fun v4 =>
 (bin2 Try.prog BinOp.eql 3 (ot 6) (ot 8) v3 v4).bind fun v5 =>
 (guardV v5 true (some V.any)).bind fun v6 =>
 (guardV v5 true ((gate v5 true (ldk (some 2) (List.drop 1 v1))).bind fun v7 =>
 some v7)).bind fun v8 =>
 (guardV v5 true (some V.any)).bind fun v9 =>
 (guardV v5 true ((gate v5 true (ldk (some 2) (List.drop 1 v2))).bind fun v10 =>
 some v10)).bind fun v11 =>
 (guardV v5 true ((bin2 Try.prog BinOp.eql 35 (ot 12) (ot 14) v8 v11).bind fun v12 =>
 some v12)).bind fun v13 =>
 (pickV v5 v13 (vb false)).bind fun v14 =>
 some v14 := by kernel_rfl
noncomputable def t_rule_Key (a0 : T_Rule) (a1 : T_Rule) : Option Bool :=
 some ((decide (a0.Prio = a1.Prio)) && (decide (a0.Cube = a1.Cube)))
theorem ty_rule_Key {n : Nat} (hn : bigN ≤ n) (a0 : T_Rule) (a1 : T_Rule) : Rv (fun x : Bool => (vb x)) (sem_rule_Key n [(T_Rule.e a0), (T_Rule.e a1)]) (t_rule_Key a0 a1) := by
  rw [eq_rule_Key]
  unfold t_rule_Key
  refine tb (x := (T_Rule.c a0)) rfl ?_
  refine tb (x := (T_Rule.c a1)) rfl ?_
  refine tb (x := (vi a0.Prio)) (rfl) ?_
  refine tb (x := (vi a1.Prio)) (rfl) ?_
  refine tb (x := (vb (decide (a0.Prio = a1.Prio)))) (d_eql) ?_
  refine tg (x := V.any) (fun h6 => rfl) ?_
  refine tg (x := (T_Cube.e a0.Cube)) (fun h8 => bind_some_eq (gate_pos h8 (rfl))) ?_
  refine tg (x := V.any) (fun h11 => rfl) ?_
  refine tg (x := (T_Cube.e a1.Cube)) (fun h13 => bind_some_eq (gate_pos h13 (rfl))) ?_
  refine tg (x := (vb (decide (a0.Cube = a1.Cube)))) (fun h16 => by simp only [gv_t h16]; exact bind_some_eq (T_Cube.eql a0.Cube a1.Cube)) ?_
  refine tb (x := (vb ((decide (a0.Prio = a1.Prio)) && (decide (a0.Cube = a1.Cube))))) (pick_and (fun h9 => gv_t h9)) ?_
  exact rf_ret rfl

/-! railpoint/rule.Table$1 -/
def an_rule_Table_1 : Ann := .seq (.reg 0 [] [] []) (.seq (.reg 0 [] [] []) (.no))
noncomputable def sem_rule_Table_1 (n : Nat) (xs : List V) : Option V := if xs.length ≤ 7 then denF Try.prog (envOf [(53, (sem_rule_Key n))]) n Try.f65 an_rule_Table_1 xs else none
theorem ok_rule_Table_1 (n : Nat) : SemOk Try.prog DW 65 (sem_rule_Table_1 n) := fun xs y h => by
  unfold sem_rule_Table_1 at h
  split at h
  · rename_i hl
    exact denF_ok stb Try.func65 (by kernel_rfl) (envOf_ok (semsOk_cons (ok_rule_Key n) semsOk_nil)) (by rw [Try.ntmps65]; exact hl) h
  · cases h
theorem eq_rule_Table_1 (n : Nat) (x0 x1 : V) : sem_rule_Table_1 n [x0, x1] =
 (V.cellsO x0).bind fun v1 =>
 (ldk (some 6) (List.drop 0 v1)).bind fun v2 =>
 (ldp (some 6) x1).bind fun v3 =>
 ((sem_rule_Key n) [v2, v3]).bind fun v4 =>
 some v4 := by kernel_rfl
noncomputable def t_rule_Table_1 (a0 : T_Rule) (a1 : T_Rule) : Option Bool :=
 (t_rule_Key a0 a1).bind fun r5 =>
 some r5
theorem ty_rule_Table_1 {n : Nat} (hn : bigN ≤ n) (a0 : T_Rule) (a1 : T_Rule) : Rv (fun x : Bool => (vb x)) (sem_rule_Table_1 n [(T_Rule.e a0), (V.ptr (T_Rule.c a1))]) (t_rule_Table_1 a0 a1) := by
  rw [eq_rule_Table_1]
  unfold t_rule_Table_1
  refine tb (x := (T_Rule.c a0)) rfl ?_
  refine tb (x := (T_Rule.e a0)) (rfl) ?_
  refine tb (x := (T_Rule.e a1)) (rfl) ?_
  refine tbo (ty_rule_Key hn a0 a1) fun r5 => ?_
  exact rf_ret rfl

/-! railpoint/rule.Table -/
def an_rule_Table : Ann := .seq (.reg 0 [] [] []) (.seq (.seq (.reg 0 [] [] []) (.cond none (.seq (.reg 0 [] [] []) (.no)) (.no))) (.seq (.seq (.reg 0 [] [] []) (.blk (some []) (.loop [.s 12] (.seq (.reg 0 [] [] []) (.seq (.cond none (.no) (.no)) (.seq (.blk none (.seq (.reg 0 [] [] []) (.seq (.seq (.reg 0 [4] [] []) (.seq (.reg 0 [] [] []) (.cond none (.seq (.reg 0 [] [] []) (.no)) (.no)))) (.seq (.reg 0 [] [] []) (.cond none (.seq (.reg 0 [] [] []) (.no)) (.no)))))) (.reg 0 [] [] []))))))) (.seq (.reg 0 [] [] []) (.no))))
noncomputable def sem_rule_Table (n : Nat) (xs : List V) : Option V := if xs.length ≤ 29 then denF Try.prog (envOf [(49, (sem_rule_Check n)), (51, (sem_slices_ContainsFunc_api_Table_api_Rule (envOf [(65, (sem_rule_Table_1 n))]) n)), (65, (sem_rule_Table_1 n))]) n Try.f45 an_rule_Table xs else none
theorem ok_rule_Table (n : Nat) : SemOk Try.prog DW 45 (sem_rule_Table n) := fun xs y h => by
  unfold sem_rule_Table at h
  split at h
  · rename_i hl
    exact denF_ok stb Try.func45 (by kernel_rfl) (envOf_ok (semsOk_cons (ok_rule_Check n) (semsOk_cons (ok_slices_ContainsFunc_api_Table_api_Rule (envOf_ok (semsOk_cons (ok_rule_Table_1 n) semsOk_nil)) n) (semsOk_cons (ok_rule_Table_1 n) semsOk_nil)))) (by rw [Try.ntmps45]; exact hl) h
  · cases h
theorem eq_rule_Table (n : Nat) (x0 : V) : sem_rule_Table n [x0] =
 (lenS [x0]).bind fun v1 =>
 (bin2 Try.prog BinOp.gtr 3 (ot 7) (oc 12) v1 (vi 12)).bind fun v2 =>
 condV v2 (
 (scal1 Try.prog (Instr.makeInterface 79) (vi 4)).bind fun v3 =>
 some v3) (
 (lenS [x0]).bind fun v4 =>
 JoinPt (fun vs5 =>
 some vn) fun J6 =>
 (fixN (fun rec7 vs8 =>
 (bin2 Try.prog BinOp.lss 3 (ot 12) (ot 11) (List.getD vs8 0 V.any) v4).bind fun v9 =>
 condV v9 (
 (idxS 6 x0 (List.getD vs8 0 V.any)).bind fun v10 =>
 (ldp (some 6) v10).bind fun v11 =>
 (spliceV [(vi 0), (vi 0), (vi 0), (vi 0), (vi 0), (vi 0)] 0 6 v11).bind fun v12 =>
 (ldp (some 6) (V.ptr (aggL v12))).bind fun v13 =>
 ((sem_rule_Check n) [v13]).bind fun v14 =>
 (bin2 Try.prog BinOp.neq 31 (ot 19) (Operand.const Go.Value.nilIface) v14 vn).bind fun v15 =>
 condV v15 (
 some v14) (
 (slc (some 6) x0 none (some (List.getD vs8 0 V.any))).bind fun v16 =>
 ((sem_slices_ContainsFunc_api_Table_api_Rule (envOf [(65, (sem_rule_Table_1 n))]) n) [v16, (V.fn 65 [(V.ptr (aggL v12))])]).bind fun v17 =>
 condV v17 (
 (scal1 Try.prog (Instr.makeInterface 79) (vi 7)).bind fun v18 =>
 some v18) (
 (bin2 Try.prog BinOp.add 3 (ot 12) (oc 1) (List.getD vs8 0 V.any) (vi 1)).bind fun v19 =>
 rec7 [v19]))) (
 J6 [])) n) [(vi 0)]) := by kernel_rfl
noncomputable def t_rule_Table (a0 : (List T_Rule)) : Option Int :=
 if (decide (12 < (List.length a0 : Int))) = true then (
 some 4) else (
 join (fun (s8 : Unit) =>
 some 0) fun j9 =>
 loopI a0 (fun (i17 : Int) x18 (s13 : Unit) k14 =>
 (t_rule_Check x18).bind fun r28 =>
 if (!decide (r28 = 0)) = true then (
 some r28) else (
 (slc_hi a0 i17).bind fun r32 =>
 (t_slices_ContainsFunc_api_Table_api_Rule r32 (fun (a33 : T_Rule) => t_rule_Table_1 a33 x18)).bind fun r35 =>
 if r35 = true then (
 some 7) else (
 k14 ()))) (fun (s13 : Unit) =>
 j9 ()) ())
theorem ty_rule_Table {n : Nat} (hn : bigN ≤ n) (a0 : (List T_Rule)) : Rv (fun x : Int => (eV x)) (sem_rule_Table n [(V.sl (List.map T_Rule.c a0))]) (t_rule_Table a0) := by
  rw [eq_rule_Table]
  unfold t_rule_Table
  refine tb (x := (vi (List.length a0 : Int))) (p_len _) ?_
  refine tb (x := (vb (decide (12 < (List.length a0 : Int))))) (d_gtr) ?_
  refine tcond (fun h3 => ?_) (fun h3 => ?_)
  · refine tb (x := (eV 4)) (p_mkE (by decide)) ?_
    exact rf_ret rfl
  · refine tb (x := (vi (List.length a0 : Int))) (p_len _) ?_
    refine tjoin (mk := fun s8 : Unit => []) (fun s8 => ?_) fun J7 j9 h10 => ?_
    · exact rf_ret rfl
    · refine rf_loopI (mk := fun (i17 : Int) (s13 : Unit) => [(vi (i17 : Int))]) hn a0 () (fun i17 x18 h19 h20 h21 s13 rec11 k14 h15 => ?_) (fun s13 rec40 h39 => ?_)
      · refine tb (x := (vb (decide ((i17 : Int) < (List.length a0 : Int))))) (d_lss) ?_
        refine tcond_t h21 ?_
        refine tb (x := (V.ptr (T_Rule.c x18))) (p_idx_at (c := T_Rule.c) (fun _ => rfl) h19) ?_
        refine tb (x := (T_Rule.e x18)) (rfl) ?_
        refine tb (x := V.agg (T_Rule.c x18)) (by kernel_rfl) ?_
        refine tb (x := (T_Rule.e x18)) (rfl) ?_
        refine tbo (ty_rule_Check hn x18) fun r28 => ?_
        refine tb (x := (vb (!decide (r28 = 0)))) (p_err_neq _) ?_
        refine tcond (fun h30 => ?_) (fun h30 => ?_)
        · exact rf_ret rfl
        · refine tbo (p_slc_hi (c := T_Rule.c) (fun _ => rfl) a0 (i17 : Int)) fun r32 => ?_
          refine tbo (ty_slices_ContainsFunc_api_Table_api_Rule (E := (envOf [(65, (sem_rule_Table_1 n))])) (x1 := (V.fn 65 [(V.ptr (T_Rule.c x18))])) (g1 := (fun (a33 : T_Rule) => t_rule_Table_1 a33 x18)) hn r32 (fun a33 => ty_rule_Table_1 hn a33 x18)) fun r35 => ?_
          refine tcond (fun h36 => ?_) (fun h36 => ?_)
          · refine tb (x := (eV 7)) (p_mkE (by decide)) ?_
            exact rf_ret rfl
          · refine tb (x := (vi ((i17 : Int) + 1))) (p_incN h20) ?_
            exact h15 ()
      · refine tb (x := (vb (decide ((List.length a0 : Int) < (List.length a0 : Int))))) (d_lss) ?_
        refine tcond_f h39 ?_
        exact h10 ()

/-! railpoint/net.Check -/
def an_net_Check : Ann := .seq (.reg 0 [] [] []) (.seq (.seq (.reg 0 [] [] []) (.seq (.reg 0 [] [] []) (.cond none (.seq (.reg 0 [] [] []) (.no)) (.no)))) (.seq (.seq (.reg 0 [] [] []) (.cond none (.seq (.reg 0 [] [] []) (.no)) (.no))) (.seq (.seq (.reg 0 [] [] []) (.blk (some []) (.loop [.s 24] (.seq (.reg 0 [] [] []) (.seq (.cond none (.no) (.no)) (.seq (.blk none (.seq (.reg 0 [] [] []) (.seq (.reg 0 [] [] []) (.seq (.reg 0 [] [] []) (.cond none (.seq (.reg 0 [] [] []) (.no)) (.no)))))) (.reg 0 [] [] []))))))) (.seq (.reg 0 [] [] []) (.no)))))
noncomputable def sem_net_Check (n : Nat) (xs : List V) : Option V := if xs.length ≤ 34 then denF Try.prog (envOf [(14, (sem_topo_Check n)), (45, (sem_rule_Table n))]) n Try.f21 an_net_Check xs else none
theorem ok_net_Check (n : Nat) : SemOk Try.prog DW 21 (sem_net_Check n) := fun xs y h => by
  unfold sem_net_Check at h
  split at h
  · rename_i hl
    exact denF_ok stb Try.func21 (by kernel_rfl) (envOf_ok (semsOk_cons (ok_topo_Check n) (semsOk_cons (ok_rule_Table n) semsOk_nil))) (by rw [Try.ntmps21]; exact hl) h
  · cases h
theorem eq_net_Check (n : Nat) (x0 : V) : sem_net_Check n [x0] =
 (V.cellsO x0).bind fun v1 =>
 (ldk (some 3) (List.drop 0 v1)).bind fun v2 =>
 ((sem_topo_Check n) [v2]).bind fun v3 =>
 (bin2 Try.prog BinOp.neq 31 (ot 10) (Operand.const Go.Value.nilIface) v3 vn).bind fun v4 =>
 condV v4 (
 some v3) (
 (ldk none (List.drop 3 v1)).bind fun v5 =>
 (lenS [v5]).bind fun v6 =>
 (ldk none (List.drop 0 v1)).bind fun v7 =>
 (bin2 Try.prog BinOp.neq 3 (ot 15) (ot 18) v6 v7).bind fun v8 =>
 condV v8 (
 (scal1 Try.prog (Instr.makeInterface 79) (vi 3)).bind fun v9 =>
 some v9) (
 (ldk none (List.drop 3 v1)).bind fun v10 =>
 (lenS [v10]).bind fun v11 =>
 JoinPt (fun vs12 =>
 some vn) fun J13 =>
 (fixN (fun rec14 vs15 =>
 (bin2 Try.prog BinOp.lss 3 (ot 24) (ot 23) (List.getD vs15 0 V.any) v11).bind fun v16 =>
 condV v16 (
 (idxS 1 v10 (List.getD vs15 0 V.any)).bind fun v17 =>
 (ldp none v17).bind fun v18 =>
 ((sem_rule_Table n) [v18]).bind fun v19 =>
 (bin2 Try.prog BinOp.neq 31 (ot 30) (Operand.const Go.Value.nilIface) v19 vn).bind fun v20 =>
 condV v20 (
 some v19) (
 (bin2 Try.prog BinOp.add 3 (ot 24) (oc 1) (List.getD vs15 0 V.any) (vi 1)).bind fun v21 =>
 rec14 [v21])) (
 J13 [])) n) [(vi 0)])) := by kernel_rfl
noncomputable def t_net_Check (a0 : T_Net) : Option Int :=
 (t_topo_Check a0.Topo).bind fun r4 =>
 if (!decide (r4 = 0)) = true then (
 some r4) else (
 if (decide ((List.length a0.Tables : Int) ≠ a0.Topo.Switches)) = true then (
 some 3) else (
 join (fun (s17 : Unit) =>
 some 0) fun j18 =>
 loopI a0.Tables (fun (i26 : Int) x27 (s22 : Unit) k23 =>
 (t_rule_Table x27).bind fun r35 =>
 if (!decide (r35 = 0)) = true then (
 some r35) else (
 k23 ())) (fun (s22 : Unit) =>
 j18 ()) ()))
theorem ty_net_Check {n : Nat} (hn : bigN ≤ n) (a0 : T_Net) : Rv (fun x : Int => (eV x)) (sem_net_Check n [(T_Net.e a0)]) (t_net_Check a0) := by
  rw [eq_net_Check]
  unfold t_net_Check
  refine tb (x := (T_Net.c a0)) rfl ?_
  refine tb (x := (T_Topo.e a0.Topo)) (rfl) ?_
  refine tbo (ty_topo_Check hn a0.Topo) fun r4 => ?_
  refine tb (x := (vb (!decide (r4 = 0)))) (p_err_neq _) ?_
  refine tcond (fun h6 => ?_) (fun h6 => ?_)
  · exact rf_ret rfl
  · refine tb (x := (V.sl (List.map (cS T_Rule.c) a0.Tables))) (rfl) ?_
    refine tb (x := (vi (List.length a0.Tables : Int))) (p_len _) ?_
    refine tb (x := (vi a0.Topo.Switches)) (rfl) ?_
    refine tb (x := (vb (decide ((List.length a0.Tables : Int) ≠ a0.Topo.Switches)))) (d_neq) ?_
    refine tcond (fun h11 => ?_) (fun h11 => ?_)
    · refine tb (x := (eV 3)) (p_mkE (by decide)) ?_
      exact rf_ret rfl
    · refine tb (x := (V.sl (List.map (cS T_Rule.c) a0.Tables))) (rfl) ?_
      refine tb (x := (vi (List.length a0.Tables : Int))) (p_len _) ?_
      refine tjoin (mk := fun s17 : Unit => []) (fun s17 => ?_) fun J16 j18 h19 => ?_
      · exact rf_ret rfl
      · refine rf_loopI (mk := fun (i26 : Int) (s22 : Unit) => [(vi (i26 : Int))]) hn a0.Tables () (fun i26 x27 h28 h29 h30 s22 rec20 k23 h24 => ?_) (fun s22 rec40 h39 => ?_)
        · refine tb (x := (vb (decide ((i26 : Int) < (List.length a0.Tables : Int))))) (d_lss) ?_
          refine tcond_t h30 ?_
          refine tb (x := (V.ptr [(V.sl (List.map T_Rule.c x27))])) (p_idx_at (c := (cS T_Rule.c)) (fun _ => rfl) h28) ?_
          refine tb (x := (V.sl (List.map T_Rule.c x27))) (rfl) ?_
          refine tbo (ty_rule_Table hn x27) fun r35 => ?_
          refine tb (x := (vb (!decide (r35 = 0)))) (p_err_neq _) ?_
          refine tcond (fun h37 => ?_) (fun h37 => ?_)
          · exact rf_ret rfl
          · refine tb (x := (vi ((i26 : Int) + 1))) (p_incN h29) ?_
            exact h24 ()
        · refine tb (x := (vb (decide ((List.length a0.Tables : Int) < (List.length a0.Tables : Int))))) (d_lss) ?_
          refine tcond_f h39 ?_
          exact h19 ()

/-! railpoint/change.Own -/
def an_change_Own : Ann := .seq (.reg 0 [] [] [1, 2]) (.seq (.reg 10 [] [] []) (.seq (.reg 0 [] [] []) (.seq (.seq (.reg 0 [] [] []) (.blk (some [.ko 1, .ko 2, .o 3]) (.loop [.ko 1, .ko 2, .o 3, .s 25] (.seq (.reg 0 [] [] []) (.seq (.cond none (.no) (.no)) (.seq (.blk none (.seq (.reg 0 [] [] []) (.reg 0 [] [] []))) (.reg 0 [] [] []))))))) (.seq (.reg 0 [] [] []) (.seq (.reg 0 [] [] [1000038]) (.no))))))
noncomputable def sem_change_Own (n : Nat) (xs : List V) : Option V := if xs.length ≤ 39 then denM Try.prog (envOf [(46, (semClone 4)), (47, (semClone 3)), (48, (semClone 6))]) n Try.f22 an_change_Own [0] (some 0) xs else none
theorem ok_change_Own (n : Nat) : MSemOk Try.prog DW 22 (sem_change_Own n) := fun xs y h => by
  unfold sem_change_Own at h
  split at h
  · rename_i hl
    exact denM_ok Try.func22 (by kernel_rfl) (envOf_ok (semsOk_cons (sok_slices_Clone_api_Link_api_Link) (semsOk_cons (sok_slices_Clone_api_Host_api_Host) (semsOk_cons (sok_slices_Clone_api_Table_api_Rule) semsOk_nil)))) (by rw [Try.ntmps22]; exact hl) (by decide) h
  · cases h
theorem eq_change_Own (n : Nat) (x0 : V) : sem_change_Own n [x0] =
 (pureO x0).bind fun v1 =>
 (V.cellsO x0).bind fun v2 =>
 (some V.any).bind fun v3 =>
 (some V.any).bind fun v4 =>
 ((nodeL (V.obj v2) none 0).bind fun l5 => (ldk none (List.drop 1 l5)).bind pureO).bind fun v6 =>
 ((semClone 4) [v6]).bind fun v7 =>
 (some V.any).bind fun v8 =>
 (some V.any).bind fun v9 =>
 ((nodeL (V.obj v2) none 0).bind fun l10 => (ldk none (List.drop 2 l10)).bind pureO).bind fun v11 =>
 ((semClone 3) [v11]).bind fun v12 =>
 (some V.any).bind fun v13 =>
 (some V.any).bind fun v14 =>
 (V.cellsO v7).bind fun v15 =>
 (setV (V.obj v2) [] (Stp.mk none 1 0) 1 v15).bind fun v16 =>
 (some V.any).bind fun v17 =>
 (some V.any).bind fun v18 =>
 (V.cellsO v12).bind fun v19 =>
 (setV v16 [] (Stp.mk none 2 0) 1 v19).bind fun v20 =>
 (some V.any).bind fun v21 =>
 ((nodeL v20 none 0).bind fun l22 => (ldk none (List.drop 3 l22)).bind pureO).bind fun v23 =>
 (lenS [v23]).bind fun v24 =>
 (makeN 1 [(V.sl [])] v24 v24).bind fun v25 =>
 (some V.any).bind fun v26 =>
 ((nodeL v20 none 0).bind fun l27 => (ldk none (List.drop 3 l27)).bind pureO).bind fun v28 =>
 (lenS [v28]).bind fun v29 =>
 JoinPt (fun vs30 =>
 (some V.any).bind fun v32 =>
 (V.cellsO (List.getD vs30 0 V.any)).bind fun v33 =>
 (setV v20 [] (Stp.mk none 3 0) 1 v33).bind fun v34 =>
 (wholeO Try.prog 28 v34).bind fun v35 =>
 (V.cellsO v35).bind fun v36 =>
 (setV (V.obj [(vi 0), (V.sl []), (V.sl []), (V.sl [])]) [] (Stp.mk none 0 0) 4 v36).bind fun v37 =>
 (wholeO Try.prog 28 v37).bind fun v38 =>
 some (V.tup [v38, V.any])) fun J31 =>
 (keepT (some v20) (some v20) (keepT (some (V.obj [(vi 0), (V.sl []), (V.sl []), (V.sl [])])) (some (V.obj [(vi 0), (V.sl []), (V.sl []), (V.sl [])])) (some [v25, (vi 0)]))).bind (fixN (fun rec39 vs40 =>
 (bin2 Try.prog BinOp.lss 3 (ot 25) (ot 24) (List.getD vs40 1 V.any) v29).bind fun v41 =>
 condV v41 (
 (idxS 1 v28 (List.getD vs40 1 V.any)).bind fun v42 =>
 (ldp none v42).bind fun v43 =>
 ((semClone 6) [v43]).bind fun v44 =>
 ((oslR (List.getD vs40 0 V.any)).bind fun rows45 => inB (List.length rows45) (List.getD vs40 1 V.any)).bind fun v46 =>
 (V.cellsO v44).bind fun v47 =>
 (setV (List.getD vs40 0 V.any) [] (Stp.mk (some (natOf (List.getD vs40 1 V.any))) 0 1) 1 v47).bind fun v48 =>
 (bin2 Try.prog BinOp.add 3 (ot 25) (oc 1) (List.getD vs40 1 V.any) (vi 1)).bind fun v49 =>
 (keepT (some v20) (some v20) (keepT (some (V.obj [(vi 0), (V.sl []), (V.sl []), (V.sl [])])) (some (V.obj [(vi 0), (V.sl []), (V.sl []), (V.sl [])])) (some [v48, v49]))).bind rec39) (
 (keepT (some v20) (some v20) (keepT (some (V.obj [(vi 0), (V.sl []), (V.sl []), (V.sl [])])) (some (V.obj [(vi 0), (V.sl []), (V.sl []), (V.sl [])])) (some [(List.getD vs40 0 V.any)]))).bind J31)) n) := by kernel_rfl
noncomputable def t_change_Own (a0 : T_Net) : Option T_Net :=
 (cln a0.Topo.Links).bind fun r7 =>
 (cln a0.Topo.Hosts).bind fun r12 =>
 (omake (List.length a0.Tables : Int) (List.length a0.Tables : Int) []).bind fun r25 =>
 (loopI a0.Tables (fun (i46 : Int) x47 (s42 : (List (List T_Rule))) k43 =>
 (cln x47).bind fun r55 =>
 need (decide (0 ≤ i46) && decide (i46 < (List.length s42 : Int))) (
 (oset s42 i46 r55).bind fun r60 =>
 k43 (r60))) (fun (s42 : (List (List T_Rule))) =>
 some (s42)) (r25)).bind fun (s31 : (List (List T_Rule))) =>
 some (T_Net.mk (T_Topo.mk a0.Topo.Switches r7 r12) s31)
theorem ty_change_Own {n : Nat} (hn : bigN ≤ n) (a0 : T_Net) : Rv (fun x : T_Net => (V.tup [(V.agg [(vi x.Topo.Switches), (V.sl (List.map T_Link.c x.Topo.Links)), (V.sl (List.map T_Host.c x.Topo.Hosts)), (V.osl 1 (List.map (cS T_Rule.c) x.Tables))]), V.any])) (sem_change_Own n [(T_Net.e a0)]) (t_change_Own a0) := by
  rw [eq_change_Own]
  unfold t_change_Own
  refine tb (x := (T_Net.e a0)) rfl ?_
  refine tb (x := (T_Net.c a0)) rfl ?_
  refine tb (x := V.any) rfl ?_
  refine tb (x := V.any) rfl ?_
  refine tb (x := (V.sl (List.map T_Link.c a0.Topo.Links))) (rfl) ?_
  refine tbo (p_clone (c := T_Link.c) (fun _ => rfl) a0.Topo.Links) fun r7 => ?_
  refine tb (x := V.any) rfl ?_
  refine tb (x := V.any) rfl ?_
  refine tb (x := (V.sl (List.map T_Host.c a0.Topo.Hosts))) (rfl) ?_
  refine tbo (p_clone (c := T_Host.c) (fun _ => rfl) a0.Topo.Hosts) fun r12 => ?_
  refine tb (x := V.any) rfl ?_
  refine tb (x := V.any) rfl ?_
  refine tb (x := [(V.sl (List.map T_Link.c r7))]) rfl ?_
  refine tb (x := V.obj (T_Net.c (T_Net.mk (T_Topo.mk a0.Topo.Switches r7 a0.Topo.Hosts) a0.Tables))) (by kernel_rfl) ?_
  refine tb (x := V.any) rfl ?_
  refine tb (x := V.any) rfl ?_
  refine tb (x := [(V.sl (List.map T_Host.c r12))]) rfl ?_
  refine tb (x := V.obj (T_Net.c (T_Net.mk (T_Topo.mk a0.Topo.Switches r7 r12) a0.Tables))) (by kernel_rfl) ?_
  refine tb (x := V.any) rfl ?_
  refine tb (x := (V.sl (List.map (cS T_Rule.c) a0.Tables))) (rfl) ?_
  refine tb (x := (vi (List.length a0.Tables : Int))) (p_len _) ?_
  refine tbo (p_omake (c := (cS T_Rule.c)) (List.length a0.Tables : Int) (List.length a0.Tables : Int) [] rfl) fun r25 => ?_
  refine tb (x := V.any) rfl ?_
  refine tb (x := (V.sl (List.map (cS T_Rule.c) a0.Tables))) (rfl) ?_
  refine tb (x := (vi (List.length a0.Tables : Int))) (p_len _) ?_
  refine tjb (mk := fun s31 : (List (List T_Rule)) => [(V.osl 1 (List.map (cS T_Rule.c) s31))]) (fun J30 => ?_) fun s31 => ?_
  · refine tkeepT2 ?_ rfl
    refine tkeepT2 ?_ rfl
    refine tsome ?_
    refine rf_loopI (mk := fun (i46 : Int) (s42 : (List (List T_Rule))) => [(V.osl 1 (List.map (cS T_Rule.c) s42)), (vi (i46 : Int))]) hn a0.Tables (r25) (fun i46 x47 h48 h49 h50 s42 rec40 k43 h44 => ?_) (fun s42 rec64 h63 => ?_)
    · refine tb (x := (vb (decide ((i46 : Int) < (List.length a0.Tables : Int))))) (d_lss) ?_
      refine tcond_t h50 ?_
      refine tb (x := (V.ptr [(V.sl (List.map T_Rule.c x47))])) (p_idx_at (c := (cS T_Rule.c)) (fun _ => rfl) h48) ?_
      refine tb (x := (V.sl (List.map T_Rule.c x47))) (rfl) ?_
      refine tbo (p_clone (c := T_Rule.c) (fun _ => rfl) x47) fun r55 => ?_
      refine tneed (x := V.any) (fun h62 => p_inB s42 (i46 : Int) h62) fun h62 => ?_
      refine tb (x := (cS T_Rule.c) r55) rfl ?_
      refine tbo (p_oset (c := (cS T_Rule.c)) (fun _ => rfl) s42 (i46 : Int) r55) fun r60 => ?_
      refine tb (x := (vi ((i46 : Int) + 1))) (p_incN h49) ?_
      refine tkeepT2 ?_ rfl
      refine tkeepT2 ?_ rfl
      refine tsome ?_
      exact h44 (r60)
    · refine tb (x := (vb (decide ((List.length a0.Tables : Int) < (List.length a0.Tables : Int))))) (d_lss) ?_
      refine tcond_f h63 ?_
      refine tkeepT2 ?_ rfl
      refine tkeepT2 ?_ rfl
      refine tsome ?_
      exact rf_j rfl
  · refine tb (x := V.any) rfl ?_
    refine tb (x := [(V.osl 1 (List.map (cS T_Rule.c) s31))]) rfl ?_
    refine tb (x := (V.obj [(vi a0.Topo.Switches), (V.sl (List.map T_Link.c r7)), (V.sl (List.map T_Host.c r12)), (V.osl 1 (List.map (cS T_Rule.c) s31))])) (by kernel_rfl) ?_
    refine tb (x := (V.agg [(vi a0.Topo.Switches), (V.sl (List.map T_Link.c r7)), (V.sl (List.map T_Host.c r12)), (V.osl 1 (List.map (cS T_Rule.c) s31))])) (by kernel_rfl) ?_
    refine tb (x := [(vi a0.Topo.Switches), (V.sl (List.map T_Link.c r7)), (V.sl (List.map T_Host.c r12)), (V.osl 1 (List.map (cS T_Rule.c) s31))]) rfl ?_
    refine tb (x := (V.obj [(vi a0.Topo.Switches), (V.sl (List.map T_Link.c r7)), (V.sl (List.map T_Host.c r12)), (V.osl 1 (List.map (cS T_Rule.c) s31))])) (by kernel_rfl) ?_
    refine tb (x := (V.agg [(vi a0.Topo.Switches), (V.sl (List.map T_Link.c r7)), (V.sl (List.map T_Host.c r12)), (V.osl 1 (List.map (cS T_Rule.c) s31))])) (by kernel_rfl) ?_
    exact rf_ret rfl

/-! railpoint/change.Apply -/
def an_change_Apply : Ann := .seq (.reg 0 [] [] [2]) (.seq (.seq (.reg 0 [] [] []) (.seq (.reg 0 [] [] []) (.cond none (.seq (.reg 0 [] [] []) (.no)) (.no)))) (.seq (.seq (.reg 0 [] [] []) (.cond none (.seq (.reg 0 [] [] []) (.no)) (.no))) (.seq (.reg 0 [] [] [23]) (.seq (.seq (.reg 0 [] [] []) (.blk (some [.o 2, .b 4]) (.loop [.o 2, .b 4, .s 26] (.seq (.reg 0 [] [] []) (.seq (.cond none (.no) (.no)) (.seq (.blk none (.seq (.reg 0 [] [] []) (.seq (.seq (.reg 0 [] [] []) (.cond none (.seq (.reg 0 [] [] []) (.no)) (.no))) (.seq (.reg 17 [] [] [45]) (.seq (.seq (.reg 0 [] [] []) (.cond none (.seq (.reg 0 [] [] []) (.no)) (.no))) (.reg 0 [] [] [63])))))) (.reg 0 [] [] []))))))) (.seq (.reg 0 [2] [] []) (.no))))))
noncomputable def sem_change_Apply (n : Nat) (xs : List V) : Option V := if xs.length ≤ 71 then denF Try.prog (envOf [(21, (sem_net_Check n)), (22 + 1000000, (sem_change_Own n)), (23, (sem_Do n))]) n Try.f7 an_change_Apply xs else none
theorem ok_change_Apply (n : Nat) : SemOk Try.prog DW 7 (sem_change_Apply n) := fun xs y h => by
  unfold sem_change_Apply at h
  split at h
  · rename_i hl
    exact denF_ok stb Try.func7 (by kernel_rfl) (envOf_ok (semsOk_cons (ok_net_Check n) (semsOk_consM (ok_change_Own n) (semsOk_cons (ok_Do n) semsOk_nil)))) (by rw [Try.ntmps7]; exact hl) h
  · cases h
theorem eq_change_Apply (n : Nat) (x0 x1 : V) : sem_change_Apply n [x0, x1] =
 (V.cellsO x0).bind fun v1 =>
 ((nodeL (V.obj v1) none 0).bind fun l2 => (ldk (some 4) (List.drop 0 l2)).bind pureO).bind fun v3 =>
 ((sem_net_Check n) [v3]).bind fun v4 =>
 (bin2 Try.prog BinOp.neq 31 (ot 13) (Operand.const Go.Value.nilIface) v4 vn).bind fun v5 =>
 condV v5 (
 ((fillL [(vi 0), (V.sl []), (V.sl []), (V.sl [])] []).map V.agg).bind fun v6 =>
 (spliceV [(vi 0), (V.sl []), (V.sl []), (V.sl [])] 0 4 v6).bind fun v7 =>
 (ldk (some 4) (List.drop 0 (aggL v7))).bind fun v8 =>
 some (V.tup [v8, v4])) (
 (lenS [x1]).bind fun v9 =>
 (bin2 Try.prog BinOp.gtr 3 (ot 18) (oc 200) v9 (vi 200)).bind fun v10 =>
 condV v10 (
 ((fillL [(vi 0), (V.sl []), (V.sl []), (V.sl [])] []).map V.agg).bind fun v11 =>
 (scal1 Try.prog (Instr.makeInterface 79) (vi 4)).bind fun v12 =>
 (spliceV [(vi 0), (V.sl []), (V.sl []), (V.sl [])] 0 4 v11).bind fun v13 =>
 (ldk (some 4) (List.drop 0 (aggL v13))).bind fun v14 =>
 some (V.tup [v14, v12])) (
 ((nodeL (V.obj v1) none 0).bind fun l15 => (ldk (some 4) (List.drop 0 l15)).bind pureO).bind fun v16 =>
 ((sem_change_Own n) [v16]).bind fun z17 =>
 (V.cellsO (tupAt z17 0)).bind fun v18 =>
 (setV (V.obj v1) [] (Stp.mk none 0 0) 4 v18).bind fun v19 =>
 (lenS [x1]).bind fun v20 =>
 JoinPt (fun vs21 =>
 (some (frzP (List.getD vs21 0 V.any))).bind fun v23 =>
 (ldp (some 4) v23).bind fun v24 =>
 (spliceV (aggL (List.getD vs21 1 V.any)) 0 4 v24).bind fun v25 =>
 (ldk (some 4) (List.drop 0 (aggL v25))).bind fun v26 =>
 some (V.tup [v26, vn])) fun J22 =>
 (fixN (fun rec27 vs28 =>
 (bin2 Try.prog BinOp.lss 3 (ot 26) (ot 25) (List.getD vs28 2 V.any) v20).bind fun v29 =>
 condV v29 (
 (idxS 8 x1 (List.getD vs28 2 V.any)).bind fun v30 =>
 (ldp (some 8) v30).bind fun v31 =>
 (spliceV [(vi 0), (vb false), (vi 0), (vi 0), (vi 0), (vi 0), (vi 0), (vi 0)] 0 8 v31).bind fun v32 =>
 (ldk none (List.drop 0 (aggL v32))).bind fun v33 =>
 (bin2 Try.prog BinOp.lss 3 (ot 31) (oc 1) v33 (vi 1)).bind fun v34 =>
 (guardV v34 false (some V.any)).bind fun v35 =>
 (guardV v34 false ((gate v34 false (ldk none (List.drop 0 (aggL v32)))).bind fun v36 =>
 some v36)).bind fun v37 =>
 (guardV v34 false (some V.any)).bind fun v38 =>
 (guardV v34 false (gate v34 false (some V.any))).bind fun v39 =>
 (guardV v34 false ((gate v34 false (gate v34 false ((nodeL (List.getD vs28 0 V.any) none 0).bind fun l40 => (ldk none (List.drop 0 l40)).bind pureO))).bind fun v41 =>
 some v41)).bind fun v42 =>
 (guardV v34 false ((bin2 Try.prog BinOp.gtr 3 (ot 35) (ot 38) v37 v42).bind fun v43 =>
 some v43)).bind fun v44 =>
 (pickV v34 (vb true) v44).bind fun v45 =>
 condV v45 (
 ((fillL [(vi 0), (V.sl []), (V.sl []), (V.sl [])] []).map V.agg).bind fun v46 =>
 (scal1 Try.prog (Instr.makeInterface 79) (vi 1)).bind fun v47 =>
 (spliceV (aggL (List.getD vs28 1 V.any)) 0 4 v46).bind fun v48 =>
 (ldk (some 4) (List.drop 0 (aggL v48))).bind fun v49 =>
 some (V.tup [v49, v47])) (
 (some V.any).bind fun v50 =>
 ((nodeL (List.getD vs28 0 V.any) none 0).bind fun l51 => (l51[3]?).bind ownO).bind fun v52 =>
 (ldk none (List.drop 0 (aggL v32))).bind fun v53 =>
 (bin2 Try.prog BinOp.sub 3 (ot 47) (oc 1) v53 (vi 1)).bind fun v54 =>
 (((getV (List.getD vs28 0 V.any) [(Stp.mk none 3 0)]).bind oslR).bind fun rows55 => inB (List.length rows55) v54).bind fun v56 =>
 (((getV (List.getD vs28 0 V.any) [(Stp.mk none 3 0)]).bind fun y => nodeL y (some (natOf v54)) 1).bind fun l57 => (ldk none (List.drop 0 l57)).bind pureO).bind fun v58 =>
 (ldk none (List.drop 1 (aggL v32))).bind fun v59 =>
 (ldk (some 6) (List.drop 2 (aggL v32))).bind fun v60 =>
 ((sem_Do n) [v58, v59, v60]).bind fun v61 =>
 (extractV v61 0).bind fun v62 =>
 (extractV v61 1).bind fun v63 =>
 (bin2 Try.prog BinOp.neq 31 (ot 58) (Operand.const Go.Value.nilIface) v63 vn).bind fun v64 =>
 condV v64 (
 ((fillL [(vi 0), (V.sl []), (V.sl []), (V.sl [])] []).map V.agg).bind fun v65 =>
 (spliceV (aggL (List.getD vs28 1 V.any)) 0 4 v65).bind fun v66 =>
 (ldk (some 4) (List.drop 0 (aggL v66))).bind fun v67 =>
 some (V.tup [v67, v63])) (
 (some V.any).bind fun v68 =>
 ((nodeL (List.getD vs28 0 V.any) none 0).bind fun l69 => (l69[3]?).bind ownO).bind fun v70 =>
 (ldk none (List.drop 0 (aggL v32))).bind fun v71 =>
 (bin2 Try.prog BinOp.sub 3 (ot 65) (oc 1) v71 (vi 1)).bind fun v72 =>
 (((getV (List.getD vs28 0 V.any) [(Stp.mk none 3 0)]).bind oslR).bind fun rows73 => inB (List.length rows73) v72).bind fun v74 =>
 (V.cellsO v62).bind fun v75 =>
 (setV (List.getD vs28 0 V.any) [(Stp.mk none 3 0)] (Stp.mk (some (natOf v72)) 0 1) 1 v75).bind fun v76 =>
 (bin2 Try.prog BinOp.add 3 (ot 26) (oc 1) (List.getD vs28 2 V.any) (vi 1)).bind fun v77 =>
 rec27 [v76, (V.agg (aggL (List.getD vs28 1 V.any))), v77]))) (
 J22 [(List.getD vs28 0 V.any), (V.agg (aggL (List.getD vs28 1 V.any)))])) n) [v19, (V.agg [(vi 0), (V.sl []), (V.sl []), (V.sl [])]), (vi 0)])) := by kernel_rfl
noncomputable def t_change_Apply (a0 : T_Net) (a1 : (List T_Op)) : Option (T_Net × Int) :=
 (t_net_Check a0).bind fun r4 =>
 if (!decide (r4 = 0)) = true then (
 some ((T_Net.mk (T_Topo.mk 0 [] []) []), r4)) else (
 if (decide (200 < (List.length a1 : Int))) = true then (
 some ((T_Net.mk (T_Topo.mk 0 [] []) []), 4)) else (
 (t_change_Own a0).bind fun r19 =>
 join (fun (s25 : (T_Net × T_Net)) =>
 some (s25.1, 0)) fun j26 =>
 loopI a1 (fun (i38 : Int) x39 (s34 : T_Net) k35 =>
 if ((decide (x39.Switch < 1)) || (decide (s34.Topo.Switches < x39.Switch))) = true then (
 some ((T_Net.mk (T_Topo.mk 0 [] []) []), 1)) else (
 need (decide (0 ≤ (wr (x39.Switch - 1))) && decide ((wr (x39.Switch - 1)) < (List.length s34.Tables : Int))) (
 (idx s34.Tables (wr (x39.Switch - 1))).bind fun r75 =>
 (t_table_Do r75 x39.Add x39.Rule).bind fun r80 =>
 if (!decide (r80.2 = 0)) = true then (
 some ((T_Net.mk (T_Topo.mk 0 [] []) []), r80.2)) else (
 need (decide (0 ≤ (wr (x39.Switch - 1))) && decide ((wr (x39.Switch - 1)) < (List.length s34.Tables : Int))) (
 (oset s34.Tables (wr (x39.Switch - 1)) r80.1).bind fun r94 =>
 k35 (T_Net.mk s34.Topo r94)))))) (fun (s34 : T_Net) =>
 j26 (s34, (T_Net.mk (T_Topo.mk 0 [] []) []))) (r19)))
theorem ty_change_Apply {n : Nat} (hn : bigN ≤ n) (a0 : T_Net) (a1 : (List T_Op)) : Rv (fun x : (T_Net × Int) => V.tup [(T_Net.e x.1), (eV x.2)]) (sem_change_Apply n [(T_Net.e a0), (V.sl (List.map T_Op.c a1))]) (t_change_Apply a0 a1) := by
  rw [eq_change_Apply]
  unfold t_change_Apply
  refine tb (x := (T_Net.c a0)) rfl ?_
  refine tb (x := (T_Net.e a0)) (rfl) ?_
  refine tbo (ty_net_Check hn a0) fun r4 => ?_
  refine tb (x := (vb (!decide (r4 = 0)))) (p_err_neq _) ?_
  refine tcond (fun h6 => ?_) (fun h6 => ?_)
  · refine tb (x := (T_Net.e (T_Net.mk (T_Topo.mk 0 [] []) []))) (by kernel_rfl) ?_
    refine tb (x := V.agg (T_Net.c (T_Net.mk (T_Topo.mk 0 [] []) []))) (by kernel_rfl) ?_
    refine tb (x := (T_Net.e (T_Net.mk (T_Topo.mk 0 [] []) []))) rfl ?_
    exact rf_ret rfl
  · refine tb (x := (vi (List.length a1 : Int))) (p_len _) ?_
    refine tb (x := (vb (decide (200 < (List.length a1 : Int))))) (d_gtr) ?_
    refine tcond (fun h12 => ?_) (fun h12 => ?_)
    · refine tb (x := (T_Net.e (T_Net.mk (T_Topo.mk 0 [] []) []))) (by kernel_rfl) ?_
      refine tb (x := (eV 4)) (p_mkE (by decide)) ?_
      refine tb (x := V.agg (T_Net.c (T_Net.mk (T_Topo.mk 0 [] []) []))) (by kernel_rfl) ?_
      refine tb (x := (T_Net.e (T_Net.mk (T_Topo.mk 0 [] []) []))) rfl ?_
      exact rf_ret rfl
    · refine tb (x := (T_Net.e a0)) (rfl) ?_
      refine tbo (ty_change_Own hn a0) fun r19 => ?_
      refine tb (x := [(vi r19.Topo.Switches), (V.sl (List.map T_Link.c r19.Topo.Links)), (V.sl (List.map T_Host.c r19.Topo.Hosts)), (V.osl 1 (List.map (cS T_Rule.c) r19.Tables))]) rfl ?_
      refine tb (x := (V.obj [(vi r19.Topo.Switches), (V.sl (List.map T_Link.c r19.Topo.Links)), (V.sl (List.map T_Host.c r19.Topo.Hosts)), (V.osl 1 (List.map (cS T_Rule.c) r19.Tables))])) (by kernel_rfl) ?_
      refine tb (x := (vi (List.length a1 : Int))) (p_len _) ?_
      refine tjoin (mk := fun s25 : (T_Net × T_Net) => [(V.obj [(vi s25.1.Topo.Switches), (V.sl (List.map T_Link.c s25.1.Topo.Links)), (V.sl (List.map T_Host.c s25.1.Topo.Hosts)), (V.osl 1 (List.map (cS T_Rule.c) s25.1.Tables))]), (V.agg (T_Net.c s25.2))]) (fun s25 => ?_) fun J24 j26 h27 => ?_
      · refine tb (x := (V.ptr (T_Net.c s25.1))) (p_frzP (p_fzc rfl (p_fzc rfl (p_fzc rfl (p_fzc (p_frzl (c' := (cS T_Rule.c)) (fun _ => rfl) _) p_fz0))))) ?_
        refine tb (x := (T_Net.e s25.1)) (rfl) ?_
        refine tb (x := V.agg (T_Net.c s25.1)) (by kernel_rfl) ?_
        refine tb (x := (T_Net.e s25.1)) rfl ?_
        exact rf_ret rfl
      · refine rf_loopI (mk := fun (i38 : Int) (s34 : T_Net) => [(V.obj [(vi s34.Topo.Switches), (V.sl (List.map T_Link.c s34.Topo.Links)), (V.sl (List.map T_Host.c s34.Topo.Hosts)), (V.osl 1 (List.map (cS T_Rule.c) s34.Tables))]), (V.agg (T_Net.c (T_Net.mk (T_Topo.mk 0 [] []) []))), (vi (i38 : Int))]) hn a1 (r19) (fun i38 x39 h40 h41 h42 s34 rec32 k35 h36 => ?_) (fun s34 rec97 h96 => ?_)
        · refine tb (x := (vb (decide ((i38 : Int) < (List.length a1 : Int))))) (d_lss) ?_
          refine tcond_t h42 ?_
          refine tb (x := (V.ptr (T_Op.c x39))) (p_idx_at (c := T_Op.c) (fun _ => rfl) h40) ?_
          refine tb (x := (T_Op.e x39)) (rfl) ?_
          refine tb (x := V.agg (T_Op.c x39)) (by kernel_rfl) ?_
          refine tb (x := (vi x39.Switch)) (rfl) ?_
          refine tb (x := (vb (decide (x39.Switch < 1)))) (d_lss) ?_
          refine tg_f (x := V.any) (fun h49 => rfl) ?_
          refine tg_f (x := (vi x39.Switch)) (fun h51 => bind_some_eq (gate_pos (not_t h51) (rfl))) ?_
          refine tg_f (x := V.any) (fun h54 => rfl) ?_
          refine tg_f (x := V.any) (fun h56 => by first | exact gate_pos (not_t h56) (rfl) | (simp only [gv_t h56]; exact gate_pos (not_t h56) (rfl))) ?_
          refine tg_f (x := (vi s34.Topo.Switches)) (fun h58 => by first | exact bind_some_eq (gate_pos (not_t h58) (gate_pos (not_t h58) (rfl))) | (simp only [gv_t h58]; exact bind_some_eq (gate_pos (not_t h58) (gate_pos (not_t h58) (rfl))))) ?_
          refine tg_f (x := (vb (decide (s34.Topo.Switches < x39.Switch)))) (fun h61 => by simp only [gv_t h61]; exact bind_some_eq (d_gtr)) ?_
          refine tb (x := (vb ((decide (x39.Switch < 1)) || (decide (s34.Topo.Switches < x39.Switch))))) (pick_or (fun h9 => gv_t (not_f h9))) ?_
          refine tcond (fun h65 => ?_) (fun h65 => ?_)
          · refine tb (x := (T_Net.e (T_Net.mk (T_Topo.mk 0 [] []) []))) (by kernel_rfl) ?_
            refine tb (x := (eV 1)) (p_mkE (by decide)) ?_
            refine tb (x := V.agg (T_Net.c (T_Net.mk (T_Topo.mk 0 [] []) []))) (by kernel_rfl) ?_
            refine tb (x := (T_Net.e (T_Net.mk (T_Topo.mk 0 [] []) []))) rfl ?_
            exact rf_ret rfl
          · refine tb (x := V.any) rfl ?_
            refine tb (x := V.any) rfl ?_
            refine tb (x := (vi x39.Switch)) (rfl) ?_
            refine tb (x := (vi (wr (x39.Switch - 1)))) (d_sub) ?_
            refine p_asc ?_
            refine p_asc ?_
            refine p_inF (y := (V.osl 1 (List.map (cS T_Rule.c) s34.Tables))) rfl ?_
            refine p_in0 ?_
            refine p_cas ?_
            refine tneed (x := V.any) (fun h74 => p_inB (c := (cS T_Rule.c)) (k := 1) s34.Tables (wr (x39.Switch - 1)) h74) fun h74 => ?_
            refine p_asc ?_
            refine p_asc ?_
            refine p_inF (y := (V.osl 1 (List.map (cS T_Rule.c) s34.Tables))) rfl ?_
            refine p_in0 ?_
            refine p_cas ?_
            refine tbo (p_oload (e1 := fun x : (List T_Rule) => (V.sl (List.map T_Rule.c x))) (c := (cS T_Rule.c)) (fun _ => rfl) s34.Tables (wr (x39.Switch - 1)) (fun _ => rfl)) fun r75 => ?_
            refine tb (x := (vb x39.Add)) (rfl) ?_
            refine tb (x := (T_Rule.e x39.Rule)) (rfl) ?_
            refine tbo (ty_table_Do r75 x39.Add x39.Rule) fun r80 => ?_
            refine tb (x := (V.sl (List.map T_Rule.c r80.1))) (rfl) ?_
            refine tb (x := (eV r80.2)) (rfl) ?_
            refine tb (x := (vb (!decide (r80.2 = 0)))) (p_err_neq _) ?_
            refine tcond (fun h84 => ?_) (fun h84 => ?_)
            · refine tb (x := (T_Net.e (T_Net.mk (T_Topo.mk 0 [] []) []))) (by kernel_rfl) ?_
              refine tb (x := V.agg (T_Net.c (T_Net.mk (T_Topo.mk 0 [] []) []))) (by kernel_rfl) ?_
              refine tb (x := (T_Net.e (T_Net.mk (T_Topo.mk 0 [] []) []))) rfl ?_
              exact rf_ret rfl
            · refine tb (x := V.any) rfl ?_
              refine tb (x := V.any) rfl ?_
              refine tb (x := (vi x39.Switch)) (rfl) ?_
              refine tb (x := (vi (wr (x39.Switch - 1)))) (d_sub) ?_
              refine p_asc ?_
              refine p_asc ?_
              refine p_inF (y := (V.osl 1 (List.map (cS T_Rule.c) s34.Tables))) rfl ?_
              refine p_in0 ?_
              refine p_cas ?_
              refine tneed (x := V.any) (fun h92 => p_inB (c := (cS T_Rule.c)) (k := 1) s34.Tables (wr (x39.Switch - 1)) h92) fun h92 => ?_
              refine tb (x := (cS T_Rule.c) r80.1) rfl ?_
              refine tbo (p_setF (e1 := fun a => (V.osl 1 (List.map (cS T_Rule.c) a))) (y := (V.osl 1 (List.map (cS T_Rule.c) s34.Tables))) rfl (p_oset (c := (cS T_Rule.c)) (fun _ => rfl) s34.Tables (wr (x39.Switch - 1)) r80.1)) fun r94 => ?_
              refine tb (x := (vi ((i38 : Int) + 1))) (p_incN h41) ?_
              exact h36 (T_Net.mk s34.Topo r94)
        · refine tb (x := (vb (decide ((List.length a1 : Int) < (List.length a1 : Int))))) (d_lss) ?_
          refine tcond_f h96 ?_
          exact h27 (s34, (T_Net.mk (T_Topo.mk 0 [] []) []))

/-! railpoint/change.both -/
def an_change_both : Ann := .seq (.reg 0 [] [] []) (.seq (.seq (.reg 0 [] [] []) (.seq (.reg 0 [] [] []) (.cond none (.seq (.reg 0 [] [] []) (.no)) (.no)))) (.seq (.reg 0 [] [] []) (.no)))
noncomputable def sem_change_both (n : Nat) (xs : List V) : Option V := if xs.length ≤ 13 then denF Try.prog (envOf [(21, (sem_net_Check n))]) n Try.f24 an_change_both xs else none
theorem ok_change_both (n : Nat) : SemOk Try.prog DW 24 (sem_change_both n) := fun xs y h => by
  unfold sem_change_both at h
  split at h
  · rename_i hl
    exact denF_ok stb Try.func24 (by kernel_rfl) (envOf_ok (semsOk_cons (ok_net_Check n) semsOk_nil)) (by rw [Try.ntmps24]; exact hl) h
  · cases h
theorem eq_change_both (n : Nat) (x0 x1 : V) : sem_change_both n [x0, x1] =
 (V.cellsO x0).bind fun v1 =>
 (V.cellsO x1).bind fun v2 =>
 (ldk (some 4) (List.drop 0 v1)).bind fun v3 =>
 ((sem_net_Check n) [v3]).bind fun v4 =>
 (bin2 Try.prog BinOp.neq 31 (ot 8) (Operand.const Go.Value.nilIface) v4 vn).bind fun v5 =>
 condV v5 (
 some v4) (
 (ldk (some 4) (List.drop 0 v2)).bind fun v6 =>
 ((sem_net_Check n) [v6]).bind fun v7 =>
 some v7) := by kernel_rfl
noncomputable def t_change_both (a0 : T_Net) (a1 : T_Net) : Option Int :=
 (t_net_Check a0).bind fun r5 =>
 if (!decide (r5 = 0)) = true then (
 some r5) else (
 (t_net_Check a1).bind fun r10 =>
 some r10)
theorem ty_change_both {n : Nat} (hn : bigN ≤ n) (a0 : T_Net) (a1 : T_Net) : Rv (fun x : Int => (eV x)) (sem_change_both n [(T_Net.e a0), (T_Net.e a1)]) (t_change_both a0 a1) := by
  rw [eq_change_both]
  unfold t_change_both
  refine tb (x := (T_Net.c a0)) rfl ?_
  refine tb (x := (T_Net.c a1)) rfl ?_
  refine tb (x := (T_Net.e a0)) (rfl) ?_
  refine tbo (ty_net_Check hn a0) fun r5 => ?_
  refine tb (x := (vb (!decide (r5 = 0)))) (p_err_neq _) ?_
  refine tcond (fun h7 => ?_) (fun h7 => ?_)
  · exact rf_ret rfl
  · refine tb (x := (T_Net.e a1)) (rfl) ?_
    refine tbo (ty_net_Check hn a1) fun r10 => ?_
    exact rf_ret rfl

/-! slices.Equal   railpoint/api.Link railpoint/api.Link  -/
def an_slices_Equal_api_Link_api_Link : Ann := .seq (.reg 0 [] [] []) (.seq (.seq (.reg 0 [] [] []) (.cond none (.seq (.reg 0 [] [] []) (.no)) (.no))) (.seq (.seq (.reg 0 [] [] []) (.blk (some []) (.loop [.s 13] (.seq (.reg 0 [] [] []) (.seq (.cond none (.no) (.no)) (.seq (.blk none (.seq (.reg 0 [] [] []) (.seq (.reg 9 [] [] []) (.cond none (.seq (.reg 0 [] [] []) (.no)) (.no))))) (.reg 0 [] [] []))))))) (.seq (.reg 0 [] [] []) (.no))))
noncomputable def sem_slices_Equal_api_Link_api_Link (n : Nat) (xs : List V) : Option V := if xs.length ≤ 26 then denF Try.prog (envOf []) n Try.f55 an_slices_Equal_api_Link_api_Link xs else none
theorem ok_slices_Equal_api_Link_api_Link (n : Nat) : SemOk Try.prog DW 55 (sem_slices_Equal_api_Link_api_Link n) := fun xs y h => by
  unfold sem_slices_Equal_api_Link_api_Link at h
  split at h
  · rename_i hl
    exact denF_ok stb Try.func55 (by kernel_rfl) (envOf_ok semsOk_nil) (by rw [Try.ntmps55]; exact hl) h
  · cases h
theorem eq_slices_Equal_api_Link_api_Link (n : Nat) (x0 x1 : V) : sem_slices_Equal_api_Link_api_Link n [x0, x1] =
 (lenS [x0]).bind fun v1 =>
 (lenS [x1]).bind fun v2 =>
 (bin2 Try.prog BinOp.neq 3 (ot 7) (ot 9) v1 v2).bind fun v3 =>
 condV v3 (
 some (vb false)) (
 (lenS [x0]).bind fun v4 =>
 JoinPt (fun vs5 =>
 some (vb true)) fun J6 =>
 (fixN (fun rec7 vs8 =>
 (bin2 Try.prog BinOp.lss 3 (ot 13) (ot 12) (List.getD vs8 0 V.any) v4).bind fun v9 =>
 condV v9 (
 (idxS 4 x0 (List.getD vs8 0 V.any)).bind fun v10 =>
 (ldp (some 4) v10).bind fun v11 =>
 (idxS 4 x1 (List.getD vs8 0 V.any)).bind fun v12 =>
 (ldp (some 4) v12).bind fun v13 =>
 (bin2 Try.prog BinOp.neq 87 (ot 19) (ot 23) v11 v13).bind fun v14 =>
 condV v14 (
 some (vb false)) (
 (bin2 Try.prog BinOp.add 3 (ot 13) (oc 1) (List.getD vs8 0 V.any) (vi 1)).bind fun v15 =>
 rec7 [v15])) (
 J6 [])) n) [(vi 0)]) := by kernel_rfl
noncomputable def t_slices_Equal_api_Link_api_Link (a0 : (List T_Link)) (a1 : (List T_Link)) : Option Bool :=
 if (decide ((List.length a0 : Int) ≠ (List.length a1 : Int))) = true then (
 some false) else (
 join (fun (s8 : Unit) =>
 some true) fun j9 =>
 loopI a0 (fun (i17 : Int) x18 (s13 : Unit) k14 =>
 (idx a1 i17).bind fun r26 =>
 if (!decide (x18 = r26)) = true then (
 some false) else (
 k14 ())) (fun (s13 : Unit) =>
 j9 ()) ())
theorem ty_slices_Equal_api_Link_api_Link {n : Nat} (hn : bigN ≤ n) (a0 : (List T_Link)) (a1 : (List T_Link)) : Rv (fun x : Bool => (vb x)) (sem_slices_Equal_api_Link_api_Link n [(V.sl (List.map T_Link.c a0)), (V.sl (List.map T_Link.c a1))]) (t_slices_Equal_api_Link_api_Link a0 a1) := by
  rw [eq_slices_Equal_api_Link_api_Link]
  unfold t_slices_Equal_api_Link_api_Link
  refine tb (x := (vi (List.length a0 : Int))) (p_len _) ?_
  refine tb (x := (vi (List.length a1 : Int))) (p_len _) ?_
  refine tb (x := (vb (decide ((List.length a0 : Int) ≠ (List.length a1 : Int))))) (d_neq) ?_
  refine tcond (fun h4 => ?_) (fun h4 => ?_)
  · exact rf_ret rfl
  · refine tb (x := (vi (List.length a0 : Int))) (p_len _) ?_
    refine tjoin (mk := fun s8 : Unit => []) (fun s8 => ?_) fun J7 j9 h10 => ?_
    · exact rf_ret rfl
    · refine rf_loopI (mk := fun (i17 : Int) (s13 : Unit) => [(vi (i17 : Int))]) hn a0 () (fun i17 x18 h19 h20 h21 s13 rec11 k14 h15 => ?_) (fun s13 rec32 h31 => ?_)
      · refine tb (x := (vb (decide ((i17 : Int) < (List.length a0 : Int))))) (d_lss) ?_
        refine tcond_t h21 ?_
        refine tb (x := (V.ptr (T_Link.c x18))) (p_idx_at (c := T_Link.c) (fun _ => rfl) h19) ?_
        refine tb (x := (T_Link.e x18)) (rfl) ?_
        refine tbo (p_idx (c := T_Link.c) (fun _ => rfl) a1 (i17 : Int)) fun r26 => ?_
        refine tb (x := (T_Link.e r26)) (rfl) ?_
        refine tb (x := (vb (!decide (x18 = r26)))) (T_Link.neq x18 r26) ?_
        refine tcond (fun h29 => ?_) (fun h29 => ?_)
        · exact rf_ret rfl
        · refine tb (x := (vi ((i17 : Int) + 1))) (p_incN h20) ?_
          exact h15 ()
      · refine tb (x := (vb (decide ((List.length a0 : Int) < (List.length a0 : Int))))) (d_lss) ?_
        refine tcond_f h31 ?_
        exact h10 ()

/-! slices.Equal   railpoint/api.Host railpoint/api.Host  -/
def an_slices_Equal_api_Host_api_Host : Ann := .seq (.reg 0 [] [] []) (.seq (.seq (.reg 0 [] [] []) (.cond none (.seq (.reg 0 [] [] []) (.no)) (.no))) (.seq (.seq (.reg 0 [] [] []) (.blk (some []) (.loop [.s 13] (.seq (.reg 0 [] [] []) (.seq (.cond none (.no) (.no)) (.seq (.blk none (.seq (.reg 0 [] [] []) (.seq (.reg 9 [] [] []) (.cond none (.seq (.reg 0 [] [] []) (.no)) (.no))))) (.reg 0 [] [] []))))))) (.seq (.reg 0 [] [] []) (.no))))
noncomputable def sem_slices_Equal_api_Host_api_Host (n : Nat) (xs : List V) : Option V := if xs.length ≤ 26 then denF Try.prog (envOf []) n Try.f56 an_slices_Equal_api_Host_api_Host xs else none
theorem ok_slices_Equal_api_Host_api_Host (n : Nat) : SemOk Try.prog DW 56 (sem_slices_Equal_api_Host_api_Host n) := fun xs y h => by
  unfold sem_slices_Equal_api_Host_api_Host at h
  split at h
  · rename_i hl
    exact denF_ok stb Try.func56 (by kernel_rfl) (envOf_ok semsOk_nil) (by rw [Try.ntmps56]; exact hl) h
  · cases h
theorem eq_slices_Equal_api_Host_api_Host (n : Nat) (x0 x1 : V) : sem_slices_Equal_api_Host_api_Host n [x0, x1] =
 (lenS [x0]).bind fun v1 =>
 (lenS [x1]).bind fun v2 =>
 (bin2 Try.prog BinOp.neq 3 (ot 7) (ot 9) v1 v2).bind fun v3 =>
 condV v3 (
 some (vb false)) (
 (lenS [x0]).bind fun v4 =>
 JoinPt (fun vs5 =>
 some (vb true)) fun J6 =>
 (fixN (fun rec7 vs8 =>
 (bin2 Try.prog BinOp.lss 3 (ot 13) (ot 12) (List.getD vs8 0 V.any) v4).bind fun v9 =>
 condV v9 (
 (idxS 3 x0 (List.getD vs8 0 V.any)).bind fun v10 =>
 (ldp (some 3) v10).bind fun v11 =>
 (idxS 3 x1 (List.getD vs8 0 V.any)).bind fun v12 =>
 (ldp (some 3) v12).bind fun v13 =>
 (bin2 Try.prog BinOp.neq 53 (ot 19) (ot 23) v11 v13).bind fun v14 =>
 condV v14 (
 some (vb false)) (
 (bin2 Try.prog BinOp.add 3 (ot 13) (oc 1) (List.getD vs8 0 V.any) (vi 1)).bind fun v15 =>
 rec7 [v15])) (
 J6 [])) n) [(vi 0)]) := by kernel_rfl
noncomputable def t_slices_Equal_api_Host_api_Host (a0 : (List T_Host)) (a1 : (List T_Host)) : Option Bool :=
 if (decide ((List.length a0 : Int) ≠ (List.length a1 : Int))) = true then (
 some false) else (
 join (fun (s8 : Unit) =>
 some true) fun j9 =>
 loopI a0 (fun (i17 : Int) x18 (s13 : Unit) k14 =>
 (idx a1 i17).bind fun r26 =>
 if (!decide (x18 = r26)) = true then (
 some false) else (
 k14 ())) (fun (s13 : Unit) =>
 j9 ()) ())
theorem ty_slices_Equal_api_Host_api_Host {n : Nat} (hn : bigN ≤ n) (a0 : (List T_Host)) (a1 : (List T_Host)) : Rv (fun x : Bool => (vb x)) (sem_slices_Equal_api_Host_api_Host n [(V.sl (List.map T_Host.c a0)), (V.sl (List.map T_Host.c a1))]) (t_slices_Equal_api_Host_api_Host a0 a1) := by
  rw [eq_slices_Equal_api_Host_api_Host]
  unfold t_slices_Equal_api_Host_api_Host
  refine tb (x := (vi (List.length a0 : Int))) (p_len _) ?_
  refine tb (x := (vi (List.length a1 : Int))) (p_len _) ?_
  refine tb (x := (vb (decide ((List.length a0 : Int) ≠ (List.length a1 : Int))))) (d_neq) ?_
  refine tcond (fun h4 => ?_) (fun h4 => ?_)
  · exact rf_ret rfl
  · refine tb (x := (vi (List.length a0 : Int))) (p_len _) ?_
    refine tjoin (mk := fun s8 : Unit => []) (fun s8 => ?_) fun J7 j9 h10 => ?_
    · exact rf_ret rfl
    · refine rf_loopI (mk := fun (i17 : Int) (s13 : Unit) => [(vi (i17 : Int))]) hn a0 () (fun i17 x18 h19 h20 h21 s13 rec11 k14 h15 => ?_) (fun s13 rec32 h31 => ?_)
      · refine tb (x := (vb (decide ((i17 : Int) < (List.length a0 : Int))))) (d_lss) ?_
        refine tcond_t h21 ?_
        refine tb (x := (V.ptr (T_Host.c x18))) (p_idx_at (c := T_Host.c) (fun _ => rfl) h19) ?_
        refine tb (x := (T_Host.e x18)) (rfl) ?_
        refine tbo (p_idx (c := T_Host.c) (fun _ => rfl) a1 (i17 : Int)) fun r26 => ?_
        refine tb (x := (T_Host.e r26)) (rfl) ?_
        refine tb (x := (vb (!decide (x18 = r26)))) (T_Host.neq x18 r26) ?_
        refine tcond (fun h29 => ?_) (fun h29 => ?_)
        · exact rf_ret rfl
        · refine tb (x := (vi ((i17 : Int) + 1))) (p_incN h20) ?_
          exact h15 ()
      · refine tb (x := (vb (decide ((List.length a0 : Int) < (List.length a0 : Int))))) (d_lss) ?_
        refine tcond_f h31 ?_
        exact h10 ()

/-! railpoint/change.Alike -/
def an_change_Alike : Ann := .seq (.reg 0 [] [] []) (.seq (.reg 0 [] [] []) (.no))
noncomputable def sem_change_Alike (n : Nat) (xs : List V) : Option V := if xs.length ≤ 30 then denF Try.prog (envOf [(55, (sem_slices_Equal_api_Link_api_Link n)), (56, (sem_slices_Equal_api_Host_api_Host n))]) n Try.f25 an_change_Alike xs else none
theorem ok_change_Alike (n : Nat) : SemOk Try.prog DW 25 (sem_change_Alike n) := fun xs y h => by
  unfold sem_change_Alike at h
  split at h
  · rename_i hl
    exact denF_ok stb Try.func25 (by kernel_rfl) (envOf_ok (semsOk_cons (ok_slices_Equal_api_Link_api_Link n) (semsOk_cons (ok_slices_Equal_api_Host_api_Host n) semsOk_nil))) (by rw [Try.ntmps25]; exact hl) h
  · cases h
theorem eq_change_Alike (n : Nat) (x0 x1 : V) : sem_change_Alike n [x0, x1] =
 (V.cellsO x0).bind fun v1 =>
 (V.cellsO x1).bind fun v2 =>
 (ldk none (List.drop 0 v1)).bind fun v3 =>
 (ldk none (List.drop 0 v2)).bind fun v4 =>
 (bin2 Try.prog BinOp.eql 3 (ot 7) (ot 10) v3 v4).bind fun v5 =>
 (guardV v5 true (some V.any)).bind fun v6 =>
 (guardV v5 true (gate v5 true (some V.any))).bind fun v7 =>
 (guardV v5 true ((gate v5 true (gate v5 true (ldk none (List.drop 1 v1)))).bind fun v8 =>
 some v8)).bind fun v9 =>
 (guardV v5 true (some V.any)).bind fun v10 =>
 (guardV v5 true (gate v5 true (some V.any))).bind fun v11 =>
 (guardV v5 true ((gate v5 true (gate v5 true (ldk none (List.drop 1 v2)))).bind fun v12 =>
 some v12)).bind fun v13 =>
 (guardV v5 true (((sem_slices_Equal_api_Link_api_Link n) [v9, v13]).bind fun v14 =>
 some v14)).bind fun v15 =>
 (pickV v5 v15 (vb false)).bind fun v16 =>
 (guardV v16 true (some V.any)).bind fun v17 =>
 (guardV v16 true (gate v16 true (some V.any))).bind fun v18 =>
 (guardV v16 true ((gate v16 true (gate v16 true (ldk none (List.drop 2 v1)))).bind fun v19 =>
 some v19)).bind fun v20 =>
 (guardV v16 true (some V.any)).bind fun v21 =>
 (guardV v16 true (gate v16 true (some V.any))).bind fun v22 =>
 (guardV v16 true ((gate v16 true (gate v16 true (ldk none (List.drop 2 v2)))).bind fun v23 =>
 some v23)).bind fun v24 =>
 (guardV v16 true (((sem_slices_Equal_api_Host_api_Host n) [v20, v24]).bind fun v25 =>
 some v25)).bind fun v26 =>
 (pickV v16 v26 (vb false)).bind fun v27 =>
 some v27 := by kernel_rfl
noncomputable def t_change_Alike (a0 : T_Net) (a1 : T_Net) : Option Bool :=
 (gd (decide (a0.Topo.Switches = a1.Topo.Switches)) default (t_slices_Equal_api_Link_api_Link a0.Topo.Links a1.Topo.Links)).bind fun r23 =>
 (gd ((decide (a0.Topo.Switches = a1.Topo.Switches)) && r23) default (t_slices_Equal_api_Host_api_Host a0.Topo.Hosts a1.Topo.Hosts)).bind fun r42 =>
 some (((decide (a0.Topo.Switches = a1.Topo.Switches)) && r23) && r42)
theorem ty_change_Alike {n : Nat} (hn : bigN ≤ n) (a0 : T_Net) (a1 : T_Net) : Rv (fun x : Bool => (vb x)) (sem_change_Alike n [(T_Net.e a0), (T_Net.e a1)]) (t_change_Alike a0 a1) := by
  rw [eq_change_Alike]
  unfold t_change_Alike
  refine tb (x := (T_Net.c a0)) rfl ?_
  refine tb (x := (T_Net.c a1)) rfl ?_
  refine tb (x := (vi a0.Topo.Switches)) (rfl) ?_
  refine tb (x := (vi a1.Topo.Switches)) (rfl) ?_
  refine tb (x := (vb (decide (a0.Topo.Switches = a1.Topo.Switches)))) (d_eql) ?_
  refine tg (x := V.any) (fun h6 => rfl) ?_
  refine tg (x := V.any) (fun h8 => gate_pos h8 (rfl)) ?_
  refine tg (x := (V.sl (List.map T_Link.c a0.Topo.Links))) (fun h10 => bind_some_eq (gate_pos h10 (gate_pos h10 (rfl)))) ?_
  refine tg (x := V.any) (fun h13 => rfl) ?_
  refine tg (x := V.any) (fun h15 => gate_pos h15 (rfl)) ?_
  refine tg (x := (V.sl (List.map T_Link.c a1.Topo.Links))) (fun h17 => bind_some_eq (gate_pos h17 (gate_pos h17 (rfl)))) ?_
  refine tgo (fun h20 => by simp only [gv_t h20]; exact rf_bind_some (ty_slices_Equal_api_Link_api_Link hn a0.Topo.Links a1.Topo.Links)) fun r23 => ?_
  refine tb (x := (vb ((decide (a0.Topo.Switches = a1.Topo.Switches)) && r23))) (pick_and (fun h9 => gv_t h9)) ?_
  refine tg (x := V.any) (fun h25 => rfl) ?_
  refine tg (x := V.any) (fun h27 => gate_pos h27 (rfl)) ?_
  refine tg (x := (V.sl (List.map T_Host.c a0.Topo.Hosts))) (fun h29 => bind_some_eq (gate_pos h29 (gate_pos h29 (rfl)))) ?_
  refine tg (x := V.any) (fun h32 => rfl) ?_
  refine tg (x := V.any) (fun h34 => gate_pos h34 (rfl)) ?_
  refine tg (x := (V.sl (List.map T_Host.c a1.Topo.Hosts))) (fun h36 => bind_some_eq (gate_pos h36 (gate_pos h36 (rfl)))) ?_
  refine tgo (fun h39 => by simp only [gv_t h39]; exact rf_bind_some (ty_slices_Equal_api_Host_api_Host hn a0.Topo.Hosts a1.Topo.Hosts)) fun r42 => ?_
  refine tb (x := (vb (((decide (a0.Topo.Switches = a1.Topo.Switches)) && r23) && r42))) (pick_and (fun h9 => gv_t h9)) ?_
  exact rf_ret rfl

/-! railpoint/change.diff -/
def an_change_diff : Ann := .seq (.reg 0 [] [] []) (.seq (.seq (.reg 0 [] [] []) (.blk (some [.s 4]) (.loop [.kb 2, .kb 3, .r 4 39, .s 14] (.seq (.reg 0 [] [] []) (.seq (.cond none (.no) (.no)) (.seq (.blk (some [.kb 2, .kb 3, .r 4 39]) (.seq (.reg 0 [] [] []) (.seq (.reg 16 [] [] []) (.seq (.seq (.reg 0 [] [] []) (.cond none (.seq (.reg 0 [] [] []) (.no)) (.no))) (.seq (.reg 0 [] [] []) (.blk (some [.kb 2, .kb 3, .r 4 39]) (.loop [.kb 2, .kb 3, .r 4 39, .s 36] (.seq (.reg 0 [] [] []) (.seq (.cond none (.no) (.no)) (.seq (.blk none (.seq (.reg 0 [] [] []) (.seq (.reg 0 [] [] []) (.reg 0 [] [] [])))) (.reg 0 [] [] []))))))))))) (.reg 0 [] [] []))))))) (.seq (.reg 0 [] [] []) (.no)))
noncomputable def sem_change_diff (n : Nat) (xs : List V) : Option V := if xs.length ≤ 50 then denF Try.prog (envOf [(57, (sem_TDiff n))]) n Try.f26 an_change_diff xs else none
theorem ok_change_diff (n : Nat) : SemOk Try.prog DW 26 (sem_change_diff n) := fun xs y h => by
  unfold sem_change_diff at h
  split at h
  · rename_i hl
    exact denF_ok stb Try.func26 (by kernel_rfl) (envOf_ok (semsOk_cons (ok_TDiff n) semsOk_nil)) (by rw [Try.ntmps26]; exact hl) h
  · cases h
theorem eq_change_diff (n : Nat) (x0 x1 : V) : sem_change_diff n [x0, x1] =
 (V.cellsO x0).bind fun v1 =>
 (V.cellsO x1).bind fun v2 =>
 (ldk none (List.drop 3 v1)).bind fun v3 =>
 (lenS [v3]).bind fun v4 =>
 JoinPt (fun vs5 =>
 some (V.tup [(List.getD vs5 0 V.any), vn])) fun J6 =>
 (keepO (some v1) (some v1) (keepO (some v2) (some v2) (some [(V.sl []), (vi 0)]))).bind (fixN (fun rec7 vs8 =>
 (bin2 Try.prog BinOp.lss 3 (ot 14) (ot 13) (List.getD vs8 1 V.any) v4).bind fun v9 =>
 condV v9 (
 JoinPt (fun vs10 =>
 (bin2 Try.prog BinOp.add 3 (ot 14) (oc 1) (List.getD vs8 1 V.any) (vi 1)).bind fun v12 =>
 (keepO (some v1) (some v1) (keepO (some v2) (some v2) (some [(V.sl (slL (List.getD vs10 0 V.any))), v12]))).bind rec7) fun J11 =>
 (ldk none (List.drop 3 v1)).bind fun v13 =>
 (idxS 1 v13 (List.getD vs8 1 V.any)).bind fun v14 =>
 (ldp none v14).bind fun v15 =>
 (ldk none (List.drop 3 v2)).bind fun v16 =>
 (idxS 1 v16 (List.getD vs8 1 V.any)).bind fun v17 =>
 (ldp none v17).bind fun v18 =>
 ((sem_TDiff n) [v15, v18]).bind fun v19 =>
 (extractV v19 0).bind fun v20 =>
 (extractV v19 1).bind fun v21 =>
 (bin2 Try.prog BinOp.neq 31 (ot 31) (Operand.const Go.Value.nilIface) v21 vn).bind fun v22 =>
 condV v22 (
 some (V.tup [(V.sl []), v21])) (
 (lenS [v20]).bind fun v23 =>
 JoinPt (fun vs24 =>
 (keepO (some v1) (some v1) (keepO (some v2) (some v2) (some [(V.sl (slL (List.getD vs24 0 V.any)))]))).bind J11) fun J25 =>
 (keepO (some v1) (some v1) (keepO (some v2) (some v2) (some [(V.sl (slL (List.getD vs8 0 V.any))), (vi 0)]))).bind (fixN (fun rec26 vs27 =>
 (bin2 Try.prog BinOp.lss 3 (ot 36) (ot 35) (List.getD vs27 1 V.any) v23).bind fun v28 =>
 condV v28 (
 (idxS 8 v20 (List.getD vs27 1 V.any)).bind fun v29 =>
 (ldp (some 8) v29).bind fun v30 =>
 (spliceV [(vi 0), (vb false), (vi 0), (vi 0), (vi 0), (vi 0), (vi 0), (vi 0)] 0 8 v30).bind fun v31 =>
 (bin2 Try.prog BinOp.add 3 (ot 40) (oc 1) (List.getD vs8 1 V.any) (vi 1)).bind fun v32 =>
 (spliceV (aggL v31) 0 1 v32).bind fun v33 =>
 (ldk (some 8) (List.drop 0 (aggL v33))).bind fun v34 =>
 (slcB 8 1 [(vi 0), (vb false), (vi 0), (vi 0), (vi 0), (vi 0), (vi 0), (vi 0)] [(0, v34)]).bind fun v35 =>
 (appV 8 (slL (List.getD vs27 0 V.any)) v35).bind fun v36 =>
 (bin2 Try.prog BinOp.add 3 (ot 36) (oc 1) (List.getD vs27 1 V.any) (vi 1)).bind fun v37 =>
 (keepO (some v1) (some v1) (keepO (some v2) (some v2) (some [(V.sl (slL v36)), v37]))).bind rec26) (
 (keepO (some v1) (some v1) (keepO (some v2) (some v2) (some [(V.sl (slL (List.getD vs27 0 V.any)))]))).bind J25)) n))) (
 J6 [(V.sl (slL (List.getD vs8 0 V.any)))])) n) := by kernel_rfl
noncomputable def t_change_diff (a0 : T_Net) (a1 : T_Net) : Option ((List T_Op) × Int) :=
 join (fun (s7 : (List T_Op)) =>
 some (s7, 0)) fun j8 =>
 loopI a0.Tables (fun (i16 : Int) x17 (s12 : (List T_Op)) k13 =>
 join (fun (s24 : (List T_Op)) =>
 k13 (s24)) fun j25 =>
 (idx a1.Tables i16).bind fun r33 =>
 (t_table_Diff x17 r33).bind fun r36 =>
 if (!decide (r36.2 = 0)) = true then (
 some ([], r36.2)) else (
 (loopI r36.1 (fun (i53 : Int) x54 (s49 : (List T_Op)) k50 =>
 (app s49 ([(T_Op.mk (i16 + 1) x54.Add x54.Rule)] : (List T_Op))).bind fun r67 =>
 k50 (r67)) (fun (s49 : (List T_Op)) =>
 some (s49)) (s12)).bind fun (s44 : (List T_Op)) =>
 j25 (s44))) (fun (s12 : (List T_Op)) =>
 j8 (s12)) ([])
theorem ty_change_diff {n : Nat} (hn : bigN ≤ n) (a0 : T_Net) (a1 : T_Net) : Rv (fun x : ((List T_Op) × Int) => V.tup [(V.sl (List.map T_Op.c x.1)), (eV x.2)]) (sem_change_diff n [(T_Net.e a0), (T_Net.e a1)]) (t_change_diff a0 a1) := by
  rw [eq_change_diff]
  unfold t_change_diff
  refine tb (x := (T_Net.c a0)) rfl ?_
  refine tb (x := (T_Net.c a1)) rfl ?_
  refine tb (x := (V.sl (List.map (cS T_Rule.c) a0.Tables))) (rfl) ?_
  refine tb (x := (vi (List.length a0.Tables : Int))) (p_len _) ?_
  refine tjoin (mk := fun s7 : (List T_Op) => [(V.sl (List.map T_Op.c s7))]) (fun s7 => ?_) fun J6 j8 h9 => ?_
  · exact rf_ret rfl
  · refine tkeepO2 ?_ rfl
    refine tkeepO2 ?_ rfl
    refine tsome ?_
    refine rf_loopI (mk := fun (i16 : Int) (s12 : (List T_Op)) => [(V.sl (List.map T_Op.c s12)), (vi (i16 : Int))]) hn a0.Tables ([]) (fun i16 x17 h18 h19 h20 s12 rec10 k13 h14 => ?_) (fun s12 rec73 h72 => ?_)
    · refine tb (x := (vb (decide ((i16 : Int) < (List.length a0.Tables : Int))))) (d_lss) ?_
      refine tcond_t h20 ?_
      refine tjoin (mk := fun s24 : (List T_Op) => [(V.sl (List.map T_Op.c s24))]) (fun s24 => ?_) fun J23 j25 h26 => ?_
      · refine tb (x := (vi ((i16 : Int) + 1))) (p_incN h19) ?_
        refine tkeepO2 ?_ rfl
        refine tkeepO2 ?_ rfl
        refine tsome ?_
        exact h14 (s24)
      · refine tb (x := (V.sl (List.map (cS T_Rule.c) a0.Tables))) (rfl) ?_
        refine tb (x := (V.ptr [(V.sl (List.map T_Rule.c x17))])) (p_idx_at (c := (cS T_Rule.c)) (fun _ => rfl) h18) ?_
        refine tb (x := (V.sl (List.map T_Rule.c x17))) (rfl) ?_
        refine tb (x := (V.sl (List.map (cS T_Rule.c) a1.Tables))) (rfl) ?_
        refine tbo (p_idx (c := (cS T_Rule.c)) (fun _ => rfl) a1.Tables (i16 : Int)) fun r33 => ?_
        refine tb (x := (V.sl (List.map T_Rule.c r33))) (rfl) ?_
        refine tbo (ty_table_Diff x17 r33) fun r36 => ?_
        refine tb (x := (V.sl (List.map T_Op.c r36.1))) (rfl) ?_
        refine tb (x := (eV r36.2)) (rfl) ?_
        refine tb (x := (vb (!decide (r36.2 = 0)))) (p_err_neq _) ?_
        refine tcond (fun h40 => ?_) (fun h40 => ?_)
        · exact rf_ret rfl
        · refine tb (x := (vi (List.length r36.1 : Int))) (p_len _) ?_
          refine tjb (mk := fun s44 : (List T_Op) => [(V.sl (List.map T_Op.c s44))]) (fun J43 => ?_) fun s44 => ?_
          · refine tkeepO2 ?_ rfl
            refine tkeepO2 ?_ rfl
            refine tsome ?_
            refine rf_loopI (mk := fun (i53 : Int) (s49 : (List T_Op)) => [(V.sl (List.map T_Op.c s49)), (vi (i53 : Int))]) hn r36.1 (s12) (fun i53 x54 h55 h56 h57 s49 rec47 k50 h51 => ?_) (fun s49 rec70 h69 => ?_)
            · refine tb (x := (vb (decide ((i53 : Int) < (List.length r36.1 : Int))))) (d_lss) ?_
              refine tcond_t h57 ?_
              refine tb (x := (V.ptr (T_Op.c x54))) (p_idx_at (c := T_Op.c) (fun _ => rfl) h55) ?_
              refine tb (x := (T_Op.e x54)) (rfl) ?_
              refine tb (x := V.agg (T_Op.c x54)) (by kernel_rfl) ?_
              refine tb (x := (vi ((i16 : Int) + 1))) (p_incN h19) ?_
              refine tb (x := V.agg (T_Op.c (T_Op.mk ((i16 : Int) + 1) x54.Add x54.Rule))) (by kernel_rfl) ?_
              refine tb (x := (T_Op.e (T_Op.mk ((i16 : Int) + 1) x54.Add x54.Rule))) (rfl) ?_
              refine tb (x := (V.sl (List.map T_Op.c ([(T_Op.mk ((i16 : Int) + 1) x54.Add x54.Rule)] : (List T_Op))))) (by kernel_rfl) ?_
              refine tbo (p_app (c := T_Op.c) (fun _ => rfl) s49 ([(T_Op.mk ((i16 : Int) + 1) x54.Add x54.Rule)] : (List T_Op))) fun r67 => ?_
              refine tb (x := (vi ((i53 : Int) + 1))) (p_incN h56) ?_
              refine tkeepO2 ?_ rfl
              refine tkeepO2 ?_ rfl
              refine tsome ?_
              exact h51 (r67)
            · refine tb (x := (vb (decide ((List.length r36.1 : Int) < (List.length r36.1 : Int))))) (d_lss) ?_
              refine tcond_f h69 ?_
              refine tkeepO2 ?_ rfl
              refine tkeepO2 ?_ rfl
              refine tsome ?_
              exact rf_j rfl
          · refine tkeepO2 ?_ rfl
            refine tkeepO2 ?_ rfl
            refine tsome ?_
            exact h26 (s44)
    · refine tb (x := (vb (decide ((List.length a0.Tables : Int) < (List.length a0.Tables : Int))))) (d_lss) ?_
      refine tcond_f h72 ?_
      exact h9 (s12)

/-! railpoint/change.Diff -/
def an_change_Diff : Ann := .seq (.reg 0 [] [] []) (.seq (.seq (.reg 0 [] [] []) (.seq (.reg 0 [] [] []) (.cond none (.seq (.reg 0 [] [] []) (.no)) (.no)))) (.seq (.seq (.reg 0 [] [] []) (.cond none (.seq (.reg 0 [] [] []) (.no)) (.no))) (.seq (.reg 0 [] [] []) (.no))))
noncomputable def sem_change_Diff (n : Nat) (xs : List V) : Option V := if xs.length ≤ 23 then denF Try.prog (envOf [(24, (sem_change_both n)), (25, (sem_change_Alike n)), (26, (sem_change_diff n))]) n Try.f8 an_change_Diff xs else none
theorem ok_change_Diff (n : Nat) : SemOk Try.prog DW 8 (sem_change_Diff n) := fun xs y h => by
  unfold sem_change_Diff at h
  split at h
  · rename_i hl
    exact denF_ok stb Try.func8 (by kernel_rfl) (envOf_ok (semsOk_cons (ok_change_both n) (semsOk_cons (ok_change_Alike n) (semsOk_cons (ok_change_diff n) semsOk_nil)))) (by rw [Try.ntmps8]; exact hl) h
  · cases h
theorem eq_change_Diff (n : Nat) (x0 x1 : V) : sem_change_Diff n [x0, x1] =
 (V.cellsO x0).bind fun v1 =>
 (V.cellsO x1).bind fun v2 =>
 (ldk (some 4) (List.drop 0 v1)).bind fun v3 =>
 (ldk (some 4) (List.drop 0 v2)).bind fun v4 =>
 ((sem_change_both n) [v3, v4]).bind fun v5 =>
 (bin2 Try.prog BinOp.neq 31 (ot 10) (Operand.const Go.Value.nilIface) v5 vn).bind fun v6 =>
 condV v6 (
 some (V.tup [(V.sl []), v5])) (
 (ldk (some 4) (List.drop 0 v1)).bind fun v7 =>
 (ldk (some 4) (List.drop 0 v2)).bind fun v8 =>
 ((sem_change_Alike n) [v7, v8]).bind fun v9 =>
 (scal1 Try.prog (Op.unary Go.UnOp.not) v9).bind fun v10 =>
 condV v10 (
 (scal1 Try.prog (Instr.makeInterface 79) (vi 3)).bind fun v11 =>
 some (V.tup [(V.sl []), v11])) (
 (ldk (some 4) (List.drop 0 v1)).bind fun v12 =>
 (ldk (some 4) (List.drop 0 v2)).bind fun v13 =>
 ((sem_change_diff n) [v12, v13]).bind fun v14 =>
 (extractV v14 0).bind fun v15 =>
 (extractV v14 1).bind fun v16 =>
 some (V.tup [v15, v16]))) := by kernel_rfl
noncomputable def t_change_Diff (a0 : T_Net) (a1 : T_Net) : Option ((List T_Op) × Int) :=
 (t_change_both a0 a1).bind fun r6 =>
 if (!decide (r6 = 0)) = true then (
 some ([], r6)) else (
 (t_change_Alike a0 a1).bind fun r12 =>
 if (!r12) = true then (
 some ([], 3)) else (
 (t_change_diff a0 a1).bind fun r19 =>
 some (r19.1, r19.2)))
theorem ty_change_Diff {n : Nat} (hn : bigN ≤ n) (a0 : T_Net) (a1 : T_Net) : Rv (fun x : ((List T_Op) × Int) => V.tup [(V.sl (List.map T_Op.c x.1)), (eV x.2)]) (sem_change_Diff n [(T_Net.e a0), (T_Net.e a1)]) (t_change_Diff a0 a1) := by
  rw [eq_change_Diff]
  unfold t_change_Diff
  refine tb (x := (T_Net.c a0)) rfl ?_
  refine tb (x := (T_Net.c a1)) rfl ?_
  refine tb (x := (T_Net.e a0)) (rfl) ?_
  refine tb (x := (T_Net.e a1)) (rfl) ?_
  refine tbo (ty_change_both hn a0 a1) fun r6 => ?_
  refine tb (x := (vb (!decide (r6 = 0)))) (p_err_neq _) ?_
  refine tcond (fun h8 => ?_) (fun h8 => ?_)
  · exact rf_ret rfl
  · refine tb (x := (T_Net.e a0)) (rfl) ?_
    refine tb (x := (T_Net.e a1)) (rfl) ?_
    refine tbo (ty_change_Alike hn a0 a1) fun r12 => ?_
    refine tb (x := (vb (!r12))) (d_not) ?_
    refine tcond (fun h14 => ?_) (fun h14 => ?_)
    · refine tb (x := (eV 3)) (p_mkE (by decide)) ?_
      exact rf_ret rfl
    · refine tb (x := (T_Net.e a0)) (rfl) ?_
      refine tb (x := (T_Net.e a1)) (rfl) ?_
      refine tbo (ty_change_diff hn a0 a1) fun r19 => ?_
      refine tb (x := (V.sl (List.map T_Op.c r19.1))) (rfl) ?_
      refine tb (x := (eV r19.2)) (rfl) ?_
      exact rf_ret rfl

/-! railpoint/change.Same -/
def an_change_Same : Ann := .seq (.reg 0 [] [] []) (.seq (.seq (.reg 0 [] [] []) (.seq (.reg 0 [] [] []) (.cond none (.seq (.reg 0 [] [] []) (.no)) (.no)))) (.seq (.seq (.reg 0 [] [] []) (.cond none (.seq (.reg 0 [] [] []) (.no)) (.no))) (.seq (.reg 0 [] [] []) (.seq (.reg 0 [] [] []) (.no)))))
noncomputable def sem_change_Same (n : Nat) (xs : List V) : Option V := if xs.length ≤ 33 then denF Try.prog (envOf [(24, (sem_change_both n)), (25, (sem_change_Alike n)), (26, (sem_change_diff n))]) n Try.f9 an_change_Same xs else none
theorem ok_change_Same (n : Nat) : SemOk Try.prog DW 9 (sem_change_Same n) := fun xs y h => by
  unfold sem_change_Same at h
  split at h
  · rename_i hl
    exact denF_ok stb Try.func9 (by kernel_rfl) (envOf_ok (semsOk_cons (ok_change_both n) (semsOk_cons (ok_change_Alike n) (semsOk_cons (ok_change_diff n) semsOk_nil)))) (by rw [Try.ntmps9]; exact hl) h
  · cases h
theorem eq_change_Same (n : Nat) (x0 x1 : V) : sem_change_Same n [x0, x1] =
 (V.cellsO x0).bind fun v1 =>
 (V.cellsO x1).bind fun v2 =>
 (ldk (some 4) (List.drop 0 v1)).bind fun v3 =>
 (ldk (some 4) (List.drop 0 v2)).bind fun v4 =>
 ((sem_change_both n) [v3, v4]).bind fun v5 =>
 (bin2 Try.prog BinOp.neq 31 (ot 12) (Operand.const Go.Value.nilIface) v5 vn).bind fun v6 =>
 condV v6 (
 some (V.tup [(vb false), v5])) (
 (ldk (some 4) (List.drop 0 v1)).bind fun v7 =>
 (ldk (some 4) (List.drop 0 v2)).bind fun v8 =>
 ((sem_change_Alike n) [v7, v8]).bind fun v9 =>
 (scal1 Try.prog (Op.unary Go.UnOp.not) v9).bind fun v10 =>
 condV v10 (
 some (V.tup [(vb false), vn])) (
 (ldk (some 4) (List.drop 0 v1)).bind fun v11 =>
 (ldk (some 4) (List.drop 0 v2)).bind fun v12 =>
 ((sem_change_diff n) [v11, v12]).bind fun v13 =>
 (extractV v13 0).bind fun v14 =>
 (extractV v13 1).bind fun v15 =>
 (bin2 Try.prog BinOp.eql 31 (ot 25) (Operand.const Go.Value.nilIface) v15 vn).bind fun v16 =>
 (guardV v16 true (some v14)).bind fun v17 =>
 (guardV v16 true ((lenS [v17]).bind fun v18 =>
 some v18)).bind fun v19 =>
 (guardV v16 true ((bin2 Try.prog BinOp.eql 3 (ot 29) (oc 0) v19 (vi 0)).bind fun v20 =>
 some v20)).bind fun v21 =>
 (pickV v16 v21 (vb false)).bind fun v22 =>
 some (V.tup [v22, v15]))) := by kernel_rfl
noncomputable def t_change_Same (a0 : T_Net) (a1 : T_Net) : Option (Bool × Int) :=
 (t_change_both a0 a1).bind fun r6 =>
 if (!decide (r6 = 0)) = true then (
 some (false, r6)) else (
 (t_change_Alike a0 a1).bind fun r12 =>
 if (!r12) = true then (
 some (false, 0)) else (
 (t_change_diff a0 a1).bind fun r18 =>
 some (((decide (r18.2 = 0)) && (decide ((List.length r18.1 : Int) = 0))), r18.2)))
theorem ty_change_Same {n : Nat} (hn : bigN ≤ n) (a0 : T_Net) (a1 : T_Net) : Rv (fun x : (Bool × Int) => V.tup [(vb x.1), (eV x.2)]) (sem_change_Same n [(T_Net.e a0), (T_Net.e a1)]) (t_change_Same a0 a1) := by
  rw [eq_change_Same]
  unfold t_change_Same
  refine tb (x := (T_Net.c a0)) rfl ?_
  refine tb (x := (T_Net.c a1)) rfl ?_
  refine tb (x := (T_Net.e a0)) (rfl) ?_
  refine tb (x := (T_Net.e a1)) (rfl) ?_
  refine tbo (ty_change_both hn a0 a1) fun r6 => ?_
  refine tb (x := (vb (!decide (r6 = 0)))) (p_err_neq _) ?_
  refine tcond (fun h8 => ?_) (fun h8 => ?_)
  · exact rf_ret rfl
  · refine tb (x := (T_Net.e a0)) (rfl) ?_
    refine tb (x := (T_Net.e a1)) (rfl) ?_
    refine tbo (ty_change_Alike hn a0 a1) fun r12 => ?_
    refine tb (x := (vb (!r12))) (d_not) ?_
    refine tcond (fun h14 => ?_) (fun h14 => ?_)
    · exact rf_ret rfl
    · refine tb (x := (T_Net.e a0)) (rfl) ?_
      refine tb (x := (T_Net.e a1)) (rfl) ?_
      refine tbo (ty_change_diff hn a0 a1) fun r18 => ?_
      refine tb (x := (V.sl (List.map T_Op.c r18.1))) (rfl) ?_
      refine tb (x := (eV r18.2)) (rfl) ?_
      refine tb (x := (vb (decide (r18.2 = 0)))) (p_err_eql _) ?_
      refine tg (x := (V.sl (List.map T_Op.c r18.1))) (fun h22 => rfl) ?_
      refine tg (x := (vi (List.length r18.1 : Int))) (fun h24 => by simp only [gv_t h24]; exact bind_some_eq (p_len _)) ?_
      refine tg (x := (vb (decide ((List.length r18.1 : Int) = 0)))) (fun h27 => by simp only [gv_t h27]; exact bind_some_eq (d_eql)) ?_
      refine tb (x := (vb ((decide (r18.2 = 0)) && (decide ((List.length r18.1 : Int) = 0))))) (pick_and (fun h9 => gv_t h9)) ?_
      exact rf_ret rfl

/-! slices.Reverse   railpoint/api.Op railpoint/api.Op  -/
def an_slices_Reverse_api_Op_api_Op : Ann := .seq (.reg 0 [] [] []) (.blk (some [.o 0]) (.loop [.o 0, .s 2, .s 3] (.seq (.seq (.reg 0 [] [] []) (.cond none (.no) (.no))) (.seq (.blk none (.reg 13 [] [] [])) (.reg 0 [] [] [])))))
noncomputable def sem_slices_Reverse_api_Op_api_Op (n : Nat) (xs : List V) : Option V := if xs.length ≤ 28 then denM Try.prog (envOf []) n Try.f28 an_slices_Reverse_api_Op_api_Op [1] none xs else none
theorem ok_slices_Reverse_api_Op_api_Op (n : Nat) : MSemOk Try.prog DW 28 (sem_slices_Reverse_api_Op_api_Op n) := fun xs y h => by
  unfold sem_slices_Reverse_api_Op_api_Op at h
  split at h
  · rename_i hl
    exact denM_ok Try.func28 (by kernel_rfl) (envOf_ok semsOk_nil) (by rw [Try.ntmps28]; exact hl) (by decide) h
  · cases h
theorem eq_slices_Reverse_api_Op_api_Op (n : Nat) (x0 : V) : sem_slices_Reverse_api_Op_api_Op n [x0] =
 ((oslR x0).map fun rows => V.lit (Go.Value.int Go.IntKind.i64 (List.length rows))).bind fun v1 =>
 (bin2 Try.prog BinOp.sub 3 (ot 5) (oc 1) v1 (vi 1)).bind fun v2 =>
 JoinPt (fun vs3 =>
 some (V.tup [(V.tup []), (List.getD vs3 0 V.any)])) fun J4 =>
 (fixN (fun rec5 vs6 =>
 (bin2 Try.prog BinOp.lss 3 (ot 7) (ot 8) (List.getD vs6 1 V.any) (List.getD vs6 2 V.any)).bind fun v7 =>
 condV v7 (
 ((oslR (List.getD vs6 0 V.any)).bind fun rows8 => inB (List.length rows8) (List.getD vs6 2 V.any)).bind fun v9 =>
 ((nodeL (List.getD vs6 0 V.any) (some (natOf (List.getD vs6 2 V.any))) 8).bind fun l10 => (ldk (some 8) (List.drop 0 l10)).bind pureO).bind fun v11 =>
 ((oslR (List.getD vs6 0 V.any)).bind fun rows12 => inB (List.length rows12) (List.getD vs6 1 V.any)).bind fun v13 =>
 ((nodeL (List.getD vs6 0 V.any) (some (natOf (List.getD vs6 1 V.any))) 8).bind fun l14 => (ldk (some 8) (List.drop 0 l14)).bind pureO).bind fun v15 =>
 ((oslR (List.getD vs6 0 V.any)).bind fun rows16 => inB (List.length rows16) (List.getD vs6 1 V.any)).bind fun v17 =>
 (V.cellsO v11).bind fun v18 =>
 (setV (List.getD vs6 0 V.any) [] (Stp.mk (some (natOf (List.getD vs6 1 V.any))) 0 8) 8 v18).bind fun v19 =>
 ((oslR v19).bind fun rows20 => inB (List.length rows20) (List.getD vs6 2 V.any)).bind fun v21 =>
 (V.cellsO v15).bind fun v22 =>
 (setV v19 [] (Stp.mk (some (natOf (List.getD vs6 2 V.any))) 0 8) 8 v22).bind fun v23 =>
 (bin2 Try.prog BinOp.add 3 (ot 10) (oc 1) (List.getD vs6 1 V.any) (vi 1)).bind fun v24 =>
 (bin2 Try.prog BinOp.sub 3 (ot 12) (oc 1) (List.getD vs6 2 V.any) (vi 1)).bind fun v25 =>
 rec5 [v23, v24, v25]) (
 J4 [(List.getD vs6 0 V.any)])) n) [x0, (vi 0), v2] := by kernel_rfl
noncomputable def t_slices_Reverse_api_Op_api_Op (a0 : (List T_Op)) : Option (List T_Op) :=
 (tfix (fun k11 (s10 : ((List T_Op) × Int × Int)) =>
 if (decide (s10.2.1 < s10.2.2)) = true then (
 need (decide (0 ≤ s10.2.2) && decide (s10.2.2 < (List.length s10.1 : Int))) (
 (idx s10.1 s10.2.2).bind fun r20 =>
 need (decide (0 ≤ s10.2.1) && decide (s10.2.1 < (List.length s10.1 : Int))) (
 (idx s10.1 s10.2.1).bind fun r24 =>
 need (decide (0 ≤ s10.2.1) && decide (s10.2.1 < (List.length s10.1 : Int))) (
 (oset s10.1 s10.2.1 r20).bind fun r29 =>
 need (decide (0 ≤ s10.2.2) && decide (s10.2.2 < (List.length r29 : Int))) (
 (oset r29 s10.2.2 r24).bind fun r34 =>
 k11 (r34, (wr (s10.2.1 + 1)), (wr (s10.2.2 - 1)))))))) else (
 some (s10.1))) bigN (a0, 0, (wr ((List.length a0 : Int) - 1)))).bind fun (s5 : (List T_Op)) =>
 some s5
theorem ty_slices_Reverse_api_Op_api_Op {n : Nat} (hn : bigN ≤ n) (a0 : (List T_Op)) : Rv (fun x : (List T_Op) => (V.tup [(V.tup []), (V.osl 8 (List.map T_Op.c x))])) (sem_slices_Reverse_api_Op_api_Op n [(V.osl 8 (List.map T_Op.c a0))]) (t_slices_Reverse_api_Op_api_Op a0) := by
  rw [eq_slices_Reverse_api_Op_api_Op]
  unfold t_slices_Reverse_api_Op_api_Op
  refine tb (x := (vi (List.length a0 : Int))) (p_olen _) ?_
  refine tb (x := (vi (wr ((List.length a0 : Int) - 1)))) (d_sub) ?_
  refine tjb (mk := fun s5 : (List T_Op) => [(V.osl 8 (List.map T_Op.c s5))]) (fun J4 => ?_) fun s5 => ?_
  · refine rf_fixN (mk := fun (s10 : ((List T_Op) × Int × Int)) => [(V.osl 8 (List.map T_Op.c s10.1)), (vi s10.2.1), (vi s10.2.2)]) hn (a0, 0, (wr ((List.length a0 : Int) - 1))) (fun rec8 k11 h12 s10 => ?_)
    refine tb (x := (vb (decide (s10.2.1 < s10.2.2)))) (d_lss) ?_
    refine tcond (fun h16 => ?_) (fun h16 => ?_)
    · refine tneed (x := V.any) (fun h40 => p_inB s10.1 s10.2.2 h40) fun h40 => ?_
      refine tbo (p_oload (e1 := fun x : T_Op => (T_Op.e x)) (c := T_Op.c) (fun _ => rfl) s10.1 s10.2.2 (fun _ => rfl)) fun r20 => ?_
      refine tneed (x := V.any) (fun h39 => p_inB s10.1 s10.2.1 h39) fun h39 => ?_
      refine tbo (p_oload (e1 := fun x : T_Op => (T_Op.e x)) (c := T_Op.c) (fun _ => rfl) s10.1 s10.2.1 (fun _ => rfl)) fun r24 => ?_
      refine tneed (x := V.any) (fun h38 => p_inB s10.1 s10.2.1 h38) fun h38 => ?_
      refine tb (x := T_Op.c r20) rfl ?_
      refine tbo (p_oset (c := T_Op.c) (fun _ => rfl) s10.1 s10.2.1 r20) fun r29 => ?_
      refine tneed (x := V.any) (fun h37 => p_inB r29 s10.2.2 h37) fun h37 => ?_
      refine tb (x := T_Op.c r24) rfl ?_
      refine tbo (p_oset (c := T_Op.c) (fun _ => rfl) r29 s10.2.2 r24) fun r34 => ?_
      refine tb (x := (vi (wr (s10.2.1 + 1)))) (d_add) ?_
      refine tb (x := (vi (wr (s10.2.2 - 1)))) (d_sub) ?_
      exact h12 (r34, (wr (s10.2.1 + 1)), (wr (s10.2.2 - 1)))
    · exact rf_j rfl
  · exact rf_ret rfl

/-! railpoint/change.Turn -/
def an_change_Turn : Ann := .seq (.reg 0 [] [] []) (.seq (.reg 0 [] [] [5]) (.seq (.reg 0 [] [] []) (.seq (.seq (.reg 0 [] [] []) (.blk (some [.o 0]) (.loop [.o 0, .s 10] (.seq (.reg 0 [] [] []) (.seq (.cond none (.no) (.no)) (.seq (.blk none (.seq (.reg 0 [] [] []) (.reg 0 [] [] []))) (.reg 0 [] [] []))))))) (.seq (.reg 0 [0] [] []) (.no)))))
noncomputable def sem_change_Turn (n : Nat) (xs : List V) : Option V := if xs.length ≤ 25 then denF Try.prog (envOf [(27 + 1000000, (semCloneM 8)), (28 + 1000000, (sem_slices_Reverse_api_Op_api_Op n))]) n Try.f10 an_change_Turn xs else none
theorem ok_change_Turn (n : Nat) : SemOk Try.prog DW 10 (sem_change_Turn n) := fun xs y h => by
  unfold sem_change_Turn at h
  split at h
  · rename_i hl
    exact denF_ok stb Try.func10 (by kernel_rfl) (envOf_ok (semsOk_consM (mok_slices_Clone_api_Op_api_Op) (semsOk_consM (ok_slices_Reverse_api_Op_api_Op n) semsOk_nil))) (by rw [Try.ntmps10]; exact hl) h
  · cases h
theorem eq_change_Turn (n : Nat) (x0 : V) : sem_change_Turn n [x0] =
 ((semCloneM 8) [x0]).bind fun z1 =>
 ((sem_slices_Reverse_api_Op_api_Op n) [(tupAt z1 0)]).bind fun z2 =>
 (pureO (tupAt z2 0)).bind fun v3 =>
 ((oslR (tupAt z2 1)).map fun rows => V.lit (Go.Value.int Go.IntKind.i64 (List.length rows))).bind fun v4 =>
 JoinPt (fun vs5 =>
 (some (frz (List.getD vs5 0 V.any))).bind fun v7 =>
 some v7) fun J6 =>
 (fixN (fun rec8 vs9 =>
 (bin2 Try.prog BinOp.lss 3 (ot 10) (ot 9) (List.getD vs9 1 V.any) v4).bind fun v10 =>
 condV v10 (
 ((oslR (List.getD vs9 0 V.any)).bind fun rows11 => inB (List.length rows11) (List.getD vs9 1 V.any)).bind fun v12 =>
 (some V.any).bind fun v13 =>
 ((nodeL (List.getD vs9 0 V.any) (some (natOf (List.getD vs9 1 V.any))) 8).bind fun l14 => (ldk none (List.drop 1 l14)).bind pureO).bind fun v15 =>
 (scal1 Try.prog (Op.unary Go.UnOp.not) v15).bind fun v16 =>
 ((oslR (List.getD vs9 0 V.any)).bind fun rows17 => inB (List.length rows17) (List.getD vs9 1 V.any)).bind fun v18 =>
 (some V.any).bind fun v19 =>
 (V.cellsO v16).bind fun v20 =>
 (setV (List.getD vs9 0 V.any) [] (Stp.mk (some (natOf (List.getD vs9 1 V.any))) 1 8) 1 v20).bind fun v21 =>
 (bin2 Try.prog BinOp.add 3 (ot 10) (oc 1) (List.getD vs9 1 V.any) (vi 1)).bind fun v22 =>
 rec8 [v21, v22]) (
 J6 [(List.getD vs9 0 V.any)])) n) [(tupAt z2 1), (vi 0)] := by kernel_rfl
noncomputable def t_change_Turn (a0 : (List T_Op)) : Option (List T_Op) :=
 (cln a0).bind fun r2 =>
 (t_slices_Reverse_api_Op_api_Op r2).bind fun r4 =>
 (loopI r4 (fun (i19 : Int) x20 (s15 : (List T_Op)) k16 =>
 need (decide (0 ≤ i19) && decide (i19 < (List.length s15 : Int))) (
 (idx s15 i19).bind fun r29 =>
 need (decide (0 ≤ i19) && decide (i19 < (List.length s15 : Int))) (
 (oupd s15 i19 (fun a_ : T_Op => (T_Op.mk a_.Switch (!r29.Add) a_.Rule))).bind fun r36 =>
 k16 (r36)))) (fun (s15 : (List T_Op)) =>
 some (s15)) (r4)).bind fun (s9 : (List T_Op)) =>
 some s9
theorem ty_change_Turn {n : Nat} (hn : bigN ≤ n) (a0 : (List T_Op)) : Rv (fun x : (List T_Op) => (V.sl (List.map T_Op.c x))) (sem_change_Turn n [(V.sl (List.map T_Op.c a0))]) (t_change_Turn a0) := by
  rw [eq_change_Turn]
  unfold t_change_Turn
  refine tbo (p_cloneM (c := T_Op.c) (fun _ => rfl) a0) fun r2 => ?_
  refine tbo (ty_slices_Reverse_api_Op_api_Op hn r2) fun r4 => ?_
  refine tb (x := (V.tup [])) rfl ?_
  refine tb (x := (vi (List.length r4 : Int))) (p_olen _) ?_
  refine tjb (mk := fun s9 : (List T_Op) => [(V.osl 8 (List.map T_Op.c s9))]) (fun J8 => ?_) fun s9 => ?_
  · refine rf_loopI (mk := fun (i19 : Int) (s15 : (List T_Op)) => [(V.osl 8 (List.map T_Op.c s15)), (vi (i19 : Int))]) hn r4 (r4) (fun i19 x20 h21 h22 h23 s15 rec13 k16 h17 => ?_) (fun s15 rec41 h40 => ?_)
    · refine tb (x := (vb (decide ((i19 : Int) < (List.length r4 : Int))))) (d_lss) ?_
      refine tcond_t h23 ?_
      refine tneed (x := V.any) (fun h39 => p_inB s15 (i19 : Int) h39) fun h39 => ?_
      refine tb (x := V.any) rfl ?_
      refine tbo (p_oload (e1 := fun x : T_Op => (vb x.Add)) (c := T_Op.c) (fun _ => rfl) s15 (i19 : Int) (fun _ => rfl)) fun r29 => ?_
      refine tb (x := (vb (!r29.Add))) (d_not) ?_
      refine tneed (x := V.any) (fun h38 => p_inB s15 (i19 : Int) h38) fun h38 => ?_
      refine tb (x := V.any) rfl ?_
      refine tb (x := [(vb (!r29.Add))]) rfl ?_
      refine tbo (p_oupd (c := T_Op.c) (cs := [(vb (!r29.Add))]) (off := 1) (kn := 1) (fun a_ : T_Op => (T_Op.mk a_.Switch (!r29.Add) a_.Rule)) (fun _ => rfl) (fun _ => rfl) s15 (i19 : Int)) fun r36 => ?_
      refine tb (x := (vi ((i19 : Int) + 1))) (p_incN h22) ?_
      exact h17 (r36)
    · refine tb (x := (vb (decide ((List.length r4 : Int) < (List.length r4 : Int))))) (d_lss) ?_
      refine tcond_f h40 ?_
      exact rf_j rfl
  · refine tb (x := (V.sl (List.map T_Op.c s9))) (p_frz (c := T_Op.c) (fun _ => rfl) s9) ?_
    exact rf_ret rfl

/-! railpoint/raillaw1.ChangeBack -/
def an_raillaw1_ChangeBack : Ann := .seq (.reg 0 [] [] []) (.seq (.reg 0 [] [] []) (.seq (.reg 0 [] [] []) (.seq (.seq (.reg 0 [] [] []) (.cond none (.seq (.reg 0 [] [] []) (.no)) (.no))) (.seq (.reg 0 [] [] []) (.seq (.seq (.reg 0 [] [] []) (.cond (some [.kb 3]) (.seq (.reg 0 [] [] []) (.seq (.reg 0 [] [] []) (.seq (.reg 8 [] [] []) (.seq (.reg 0 [] [] []) (.seq (.reg 0 [] [] []) (.cond none (.seq (.reg 0 [] [] []) (.no)) (.no))))))) (.no))) (.seq (.reg 0 [] [] []) (.seq (.seq (.reg 0 [] [] []) (.cond none (.seq (.reg 0 [] [] []) (.no)) (.no))) (.seq (.reg 8 [] [] []) (.seq (.reg 0 [] [] []) (.seq (.reg 0 [] [] []) (.no)))))))))))
noncomputable def sem_raillaw1_ChangeBack (n : Nat) (xs : List V) : Option V := if xs.length ≤ 142 then denF Try.prog (envOf [(7, (sem_change_Apply n)), (8, (sem_change_Diff n)), (9, (sem_change_Same n)), (10, (sem_change_Turn n))]) n Try.f3 an_raillaw1_ChangeBack xs else none
theorem ok_raillaw1_ChangeBack (n : Nat) : SemOk Try.prog DW 3 (sem_raillaw1_ChangeBack n) := fun xs y h => by
  unfold sem_raillaw1_ChangeBack at h
  split at h
  · rename_i hl
    exact denF_ok stb Try.func3 (by kernel_rfl) (envOf_ok (semsOk_cons (ok_change_Apply n) (semsOk_cons (ok_change_Diff n) (semsOk_cons (ok_change_Same n) (semsOk_cons (ok_change_Turn n) semsOk_nil))))) (by rw [Try.ntmps3]; exact hl) h
  · cases h
theorem eq_raillaw1_ChangeBack (n : Nat) (x0 x1 x2 : V) : sem_raillaw1_ChangeBack n [x0, x1, x2] =
 (V.cellsO x0).bind fun v1 =>
 (V.cellsO x1).bind fun v2 =>
 ((fillL [(vi 0), (V.sl []), (V.sl [])] [(0, 1, (vi 1))]).map V.agg).bind fun v3 =>
 (slcB 1 1 [(V.sl [])] [(0, (V.sl []))]).bind fun v4 =>
 ((fillL [(vi 0), (V.sl []), (V.sl []), (V.sl [])] [(0, 3, v3), (3, 1, v4)]).map V.agg).bind fun v5 =>
 (spliceV [(vi 0), (V.sl []), (V.sl []), (V.sl [])] 0 4 v5).bind fun v6 =>
 (ldk (some 4) (List.drop 0 (aggL v6))).bind fun v7 =>
 ((fillL [(vi 0), (vi 0), (vi 0), (vi 0), (vi 0), (vi 0)] [(0, 1, (vi 2)), (3, 1, (vi 1))]).map V.agg).bind fun v8 =>
 ((fillL [(vi 0), (vb false), (vi 0), (vi 0), (vi 0), (vi 0), (vi 0), (vi 0)] [(0, 1, (vi 1)), (1, 1, (vb true)), (2, 6, v8)]).map V.agg).bind fun v9 =>
 (slcB 8 1 [(vi 0), (vb false), (vi 0), (vi 0), (vi 0), (vi 0), (vi 0), (vi 0)] [(0, v9)]).bind fun v10 =>
 ((sem_change_Apply n) [v7, v10]).bind fun v11 =>
 (extractV v11 0).bind fun v12 =>
 (extractV v11 1).bind fun v13 =>
 (spliceV [(vi 0), (V.sl []), (V.sl []), (V.sl [])] 0 4 v12).bind fun v14 =>
 (bin2 Try.prog BinOp.neq 31 (ot 36) (Operand.const Go.Value.nilIface) v13 vn).bind fun v15 =>
 (guardV v15 false (some V.any)).bind fun v16 =>
 (guardV v15 false ((gate v15 false (ldk none (List.drop 3 (aggL v14)))).bind fun v17 =>
 some v17)).bind fun v18 =>
 (guardV v15 false ((lenS [v18]).bind fun v19 =>
 some v19)).bind fun v20 =>
 (guardV v15 false ((bin2 Try.prog BinOp.neq 3 (ot 41) (oc 1) v20 (vi 1)).bind fun v21 =>
 some v21)).bind fun v22 =>
 (pickV v15 (vb true) v22).bind fun v23 =>
 (guardV v23 false (some V.any)).bind fun v24 =>
 (guardV v23 false ((gate v23 false (ldk none (List.drop 3 (aggL v14)))).bind fun v25 =>
 some v25)).bind fun v26 =>
 (guardV v23 false ((idxS 1 v26 (vi 0)).bind fun v27 =>
 some v27)).bind fun v28 =>
 (guardV v23 false ((ldp none v28).bind fun v29 =>
 some v29)).bind fun v30 =>
 (guardV v23 false ((lenS [v30]).bind fun v31 =>
 some v31)).bind fun v32 =>
 (guardV v23 false ((bin2 Try.prog BinOp.neq 3 (ot 49) (oc 1) v32 (vi 1)).bind fun v33 =>
 some v33)).bind fun v34 =>
 (pickV v23 (vb true) v34).bind fun v35 =>
 condV v35 (
 some (vb false)) (
 (ldk (some 4) (List.drop 0 v1)).bind fun v36 =>
 (ldk (some 4) (List.drop 0 v2)).bind fun v37 =>
 ((sem_change_Diff n) [v36, v37]).bind fun v38 =>
 (extractV v38 0).bind fun v39 =>
 (extractV v38 1).bind fun v40 =>
 (bin2 Try.prog BinOp.eql 31 (ot 58) (Operand.const Go.Value.nilIface) v40 vn).bind fun v41 =>
 (guardV v41 true (some v39)).bind fun v42 =>
 (guardV v41 true ((lenS [v42]).bind fun v43 =>
 some v43)).bind fun v44 =>
 (guardV v41 true ((bin2 Try.prog BinOp.leq 3 (ot 62) (oc 200) v44 (vi 200)).bind fun v45 =>
 some v45)).bind fun v46 =>
 (pickV v41 v46 (vb false)).bind fun v47 =>
 JoinPt (fun vs48 =>
 (ldk (some 4) (List.drop 0 v1)).bind fun v50 =>
 ((sem_change_Apply n) [v50, x2]).bind fun v51 =>
 (extractV v51 0).bind fun v52 =>
 (extractV v51 1).bind fun v53 =>
 (spliceV [(vi 0), (V.sl []), (V.sl []), (V.sl [])] 0 4 v52).bind fun v54 =>
 (bin2 Try.prog BinOp.neq 31 (ot 118) (Operand.const Go.Value.nilIface) v53 vn).bind fun v55 =>
 condV v55 (
 some (vb true)) (
 (ldk (some 4) (List.drop 0 (aggL v54))).bind fun v56 =>
 ((sem_change_Turn n) [x2]).bind fun v57 =>
 ((sem_change_Apply n) [v56, v57]).bind fun v58 =>
 (extractV v58 0).bind fun v59 =>
 (extractV v58 1).bind fun v60 =>
 (spliceV [(vi 0), (V.sl []), (V.sl []), (V.sl [])] 0 4 v59).bind fun v61 =>
 (ldk (some 4) (List.drop 0 (aggL v61))).bind fun v62 =>
 (ldk (some 4) (List.drop 0 v1)).bind fun v63 =>
 ((sem_change_Same n) [v62, v63]).bind fun v64 =>
 (extractV v64 0).bind fun v65 =>
 (extractV v64 1).bind fun v66 =>
 (bin2 Try.prog BinOp.eql 31 (ot 133) (Operand.const Go.Value.nilIface) v60 vn).bind fun v67 =>
 (guardV v67 true (some v66)).bind fun v68 =>
 (guardV v67 true ((bin2 Try.prog BinOp.eql 31 (ot 136) (Operand.const Go.Value.nilIface) v68 vn).bind fun v69 =>
 some v69)).bind fun v70 =>
 (pickV v67 v70 (vb false)).bind fun v71 =>
 (guardV v71 true (some v65)).bind fun v72 =>
 (pickV v71 v72 (vb false)).bind fun v73 =>
 some v73)) fun J49 =>
 condV v47 (
 (ldk (some 4) (List.drop 0 v1)).bind fun v74 =>
 ((sem_change_Apply n) [v74, v39]).bind fun v75 =>
 (extractV v75 0).bind fun v76 =>
 (extractV v75 1).bind fun v77 =>
 (spliceV [(vi 0), (V.sl []), (V.sl []), (V.sl [])] 0 4 v76).bind fun v78 =>
 (ldk (some 4) (List.drop 0 (aggL v78))).bind fun v79 =>
 (ldk (some 4) (List.drop 0 v2)).bind fun v80 =>
 ((sem_change_Same n) [v79, v80]).bind fun v81 =>
 (extractV v81 0).bind fun v82 =>
 (extractV v81 1).bind fun v83 =>
 (ldk (some 4) (List.drop 0 (aggL v78))).bind fun v84 =>
 ((sem_change_Turn n) [v39]).bind fun v85 =>
 ((sem_change_Apply n) [v84, v85]).bind fun v86 =>
 (extractV v86 0).bind fun v87 =>
 (extractV v86 1).bind fun v88 =>
 (spliceV [(vi 0), (V.sl []), (V.sl []), (V.sl [])] 0 4 v87).bind fun v89 =>
 (ldk (some 4) (List.drop 0 (aggL v89))).bind fun v90 =>
 (ldk (some 4) (List.drop 0 v1)).bind fun v91 =>
 ((sem_change_Same n) [v90, v91]).bind fun v92 =>
 (extractV v92 0).bind fun v93 =>
 (extractV v92 1).bind fun v94 =>
 (bin2 Try.prog BinOp.neq 31 (ot 90) (Operand.const Go.Value.nilIface) v77 vn).bind fun v95 =>
 (guardV v95 false (some v83)).bind fun v96 =>
 (guardV v95 false ((bin2 Try.prog BinOp.neq 31 (ot 93) (Operand.const Go.Value.nilIface) v96 vn).bind fun v97 =>
 some v97)).bind fun v98 =>
 (pickV v95 (vb true) v98).bind fun v99 =>
 (guardV v99 false (some v88)).bind fun v100 =>
 (guardV v99 false ((bin2 Try.prog BinOp.neq 31 (ot 97) (Operand.const Go.Value.nilIface) v100 vn).bind fun v101 =>
 some v101)).bind fun v102 =>
 (pickV v99 (vb true) v102).bind fun v103 =>
 (guardV v103 false (some v94)).bind fun v104 =>
 (guardV v103 false ((bin2 Try.prog BinOp.neq 31 (ot 101) (Operand.const Go.Value.nilIface) v104 vn).bind fun v105 =>
 some v105)).bind fun v106 =>
 (pickV v103 (vb true) v106).bind fun v107 =>
 (guardV v107 false (some v82)).bind fun v108 =>
 (guardV v107 false ((scal1 Try.prog (Op.unary Go.UnOp.not) v108).bind fun v109 =>
 some v109)).bind fun v110 =>
 (pickV v107 (vb true) v110).bind fun v111 =>
 (guardV v111 false (some v93)).bind fun v112 =>
 (guardV v111 false ((scal1 Try.prog (Op.unary Go.UnOp.not) v112).bind fun v113 =>
 some v113)).bind fun v114 =>
 (pickV v111 (vb true) v114).bind fun v115 =>
 condV v115 (
 some (vb false)) (
 (keepO (some v1) (some v1) (some [])).bind J49)) (
 (keepO (some v1) (some v1) (some [])).bind J49)) := by kernel_rfl
noncomputable def t_raillaw1_ChangeBack (a0 : T_Net) (a1 : T_Net) (a2 : (List T_Op)) : Option Bool :=
 (t_change_Apply (T_Net.mk (T_Topo.mk 1 [] []) ([[]] : (List (List T_Rule)))) ([(T_Op.mk 1 true (T_Rule.mk 2 (T_Cube.mk 0 0) 1 0 0))] : (List T_Op))).bind fun r12 =>
 (gd (!((!decide (r12.2 = 0)) || (decide ((List.length r12.1.Tables : Int) ≠ 1)))) default (idx r12.1.Tables 0)).bind fun r37 =>
 if (((!decide (r12.2 = 0)) || (decide ((List.length r12.1.Tables : Int) ≠ 1))) || (decide ((List.length r37 : Int) ≠ 1))) = true then (
 some false) else (
 (t_change_Diff a0 a1).bind fun r52 =>
 join (fun (s67 : Unit) =>
 (t_change_Apply a0 a2).bind fun r72 =>
 if (!decide (r72.2 = 0)) = true then (
 some true) else (
 (t_change_Turn a2).bind fun r80 =>
 (t_change_Apply r72.1 r80).bind fun r82 =>
 (t_change_Same r82.1 a0).bind fun r89 =>
 some (((decide (r82.2 = 0)) && (decide (r89.2 = 0))) && r89.1))) fun j68 =>
 if ((decide (r52.2 = 0)) && (decide ((List.length r52.1 : Int) ≤ 200))) = true then (
 (t_change_Apply a0 r52.1).bind fun r105 =>
 (t_change_Same r105.1 a1).bind fun r112 =>
 (t_change_Turn r52.1).bind fun r117 =>
 (t_change_Apply r105.1 r117).bind fun r119 =>
 (t_change_Same r119.1 a0).bind fun r126 =>
 if ((((((!decide (r105.2 = 0)) || (!decide (r112.2 = 0))) || (!decide (r119.2 = 0))) || (!decide (r126.2 = 0))) || (!r112.1)) || (!r126.1)) = true then (
 some false) else (
 j68 ())) else (
 j68 ()))
theorem ty_raillaw1_ChangeBack {n : Nat} (hn : bigN ≤ n) (a0 : T_Net) (a1 : T_Net) (a2 : (List T_Op)) : Rv (fun x : Bool => (vb x)) (sem_raillaw1_ChangeBack n [(T_Net.e a0), (T_Net.e a1), (V.sl (List.map T_Op.c a2))]) (t_raillaw1_ChangeBack a0 a1 a2) := by
  rw [eq_raillaw1_ChangeBack]
  unfold t_raillaw1_ChangeBack
  refine tb (x := (T_Net.c a0)) rfl ?_
  refine tb (x := (T_Net.c a1)) rfl ?_
  refine tb (x := (T_Topo.e (T_Topo.mk 1 [] []))) (by kernel_rfl) ?_
  refine tb (x := (V.sl (List.map (cS T_Rule.c) ([[]] : (List (List T_Rule)))))) (by kernel_rfl) ?_
  refine tb (x := (T_Net.e (T_Net.mk (T_Topo.mk 1 [] []) ([[]] : (List (List T_Rule)))))) (by kernel_rfl) ?_
  refine tb (x := V.agg (T_Net.c (T_Net.mk (T_Topo.mk 1 [] []) ([[]] : (List (List T_Rule)))))) (by kernel_rfl) ?_
  refine tb (x := (T_Net.e (T_Net.mk (T_Topo.mk 1 [] []) ([[]] : (List (List T_Rule)))))) (rfl) ?_
  refine tb (x := (T_Rule.e (T_Rule.mk 2 (T_Cube.mk 0 0) 1 0 0))) (by kernel_rfl) ?_
  refine tb (x := (T_Op.e (T_Op.mk 1 true (T_Rule.mk 2 (T_Cube.mk 0 0) 1 0 0)))) (by kernel_rfl) ?_
  refine tb (x := (V.sl (List.map T_Op.c ([(T_Op.mk 1 true (T_Rule.mk 2 (T_Cube.mk 0 0) 1 0 0))] : (List T_Op))))) (by kernel_rfl) ?_
  refine tbo (ty_change_Apply hn (T_Net.mk (T_Topo.mk 1 [] []) ([[]] : (List (List T_Rule)))) ([(T_Op.mk 1 true (T_Rule.mk 2 (T_Cube.mk 0 0) 1 0 0))] : (List T_Op))) fun r12 => ?_
  refine tb (x := (T_Net.e r12.1)) (rfl) ?_
  refine tb (x := (eV r12.2)) (rfl) ?_
  refine tb (x := V.agg (T_Net.c r12.1)) (by kernel_rfl) ?_
  refine tb (x := (vb (!decide (r12.2 = 0)))) (p_err_neq _) ?_
  refine tg_f (x := V.any) (fun h17 => rfl) ?_
  refine tg_f (x := (V.sl (List.map (cS T_Rule.c) r12.1.Tables))) (fun h19 => bind_some_eq (gate_pos (not_t h19) (rfl))) ?_
  refine tg_f (x := (vi (List.length r12.1.Tables : Int))) (fun h22 => by simp only [gv_t h22]; exact bind_some_eq (p_len _)) ?_
  refine tg_f (x := (vb (decide ((List.length r12.1.Tables : Int) ≠ 1)))) (fun h25 => by simp only [gv_t h25]; exact bind_some_eq (d_neq)) ?_
  refine tb (x := (vb ((!decide (r12.2 = 0)) || (decide ((List.length r12.1.Tables : Int) ≠ 1))))) (pick_or (fun h9 => gv_t (not_f h9))) ?_
  refine tg_f (x := V.any) (fun h29 => rfl) ?_
  refine tg_f (x := (V.sl (List.map (cS T_Rule.c) r12.1.Tables))) (fun h31 => bind_some_eq (gate_pos (not_t h31) (rfl))) ?_
  refine tgo_f (fun h34 => by simp only [gv_t h34]; exact rf_bind_some (p_idx (c := (cS T_Rule.c)) (fun _ => rfl) r12.1.Tables 0)) fun r37 => ?_
  refine tg_f (x := (V.sl (List.map T_Rule.c r37))) (fun h38 => by first | exact bind_some_eq (rfl) | (simp only [gv_t h38]; exact bind_some_eq (rfl))) ?_
  refine tg_f (x := (vi (List.length r37 : Int))) (fun h41 => by simp only [gv_t h41]; exact bind_some_eq (p_len _)) ?_
  refine tg_f (x := (vb (decide ((List.length r37 : Int) ≠ 1)))) (fun h44 => by simp only [gv_t h44]; exact bind_some_eq (d_neq)) ?_
  refine tb (x := (vb (((!decide (r12.2 = 0)) || (decide ((List.length r12.1.Tables : Int) ≠ 1))) || (decide ((List.length r37 : Int) ≠ 1))))) (pick_or (fun h9 => gv_t (not_f h9))) ?_
  refine tcond (fun h48 => ?_) (fun h48 => ?_)
  · exact rf_ret rfl
  · refine tb (x := (T_Net.e a0)) (rfl) ?_
    refine tb (x := (T_Net.e a1)) (rfl) ?_
    refine tbo (ty_change_Diff hn a0 a1) fun r52 => ?_
    refine tb (x := (V.sl (List.map T_Op.c r52.1))) (rfl) ?_
    refine tb (x := (eV r52.2)) (rfl) ?_
    refine tb (x := (vb (decide (r52.2 = 0)))) (p_err_eql _) ?_
    refine tg (x := (V.sl (List.map T_Op.c r52.1))) (fun h56 => rfl) ?_
    refine tg (x := (vi (List.length r52.1 : Int))) (fun h58 => by simp only [gv_t h58]; exact bind_some_eq (p_len _)) ?_
    refine tg (x := (vb (decide ((List.length r52.1 : Int) ≤ 200)))) (fun h61 => by simp only [gv_t h61]; exact bind_some_eq (d_leq)) ?_
    refine tb (x := (vb ((decide (r52.2 = 0)) && (decide ((List.length r52.1 : Int) ≤ 200))))) (pick_and (fun h9 => gv_t h9)) ?_
    refine tjoin (mk := fun s67 : Unit => []) (fun s67 => ?_) fun J66 j68 h69 => ?_
    · refine tb (x := (T_Net.e a0)) (rfl) ?_
      refine tbo (ty_change_Apply hn a0 a2) fun r72 => ?_
      refine tb (x := (T_Net.e r72.1)) (rfl) ?_
      refine tb (x := (eV r72.2)) (rfl) ?_
      refine tb (x := V.agg (T_Net.c r72.1)) (by kernel_rfl) ?_
      refine tb (x := (vb (!decide (r72.2 = 0)))) (p_err_neq _) ?_
      refine tcond (fun h77 => ?_) (fun h77 => ?_)
      · exact rf_ret rfl
      · refine tb (x := (T_Net.e r72.1)) (rfl) ?_
        refine tbo (ty_change_Turn hn a2) fun r80 => ?_
        refine tbo (ty_change_Apply hn r72.1 r80) fun r82 => ?_
        refine tb (x := (T_Net.e r82.1)) (rfl) ?_
        refine tb (x := (eV r82.2)) (rfl) ?_
        refine tb (x := V.agg (T_Net.c r82.1)) (by kernel_rfl) ?_
        refine tb (x := (T_Net.e r82.1)) (rfl) ?_
        refine tb (x := (T_Net.e a0)) (rfl) ?_
        refine tbo (ty_change_Same hn r82.1 a0) fun r89 => ?_
        refine tb (x := (vb r89.1)) (rfl) ?_
        refine tb (x := (eV r89.2)) (rfl) ?_
        refine tb (x := (vb (decide (r82.2 = 0)))) (p_err_eql _) ?_
        refine tg (x := (eV r89.2)) (fun h93 => rfl) ?_
        refine tg (x := (vb (decide (r89.2 = 0)))) (fun h95 => by simp only [gv_t h95]; exact bind_some_eq (p_err_eql _)) ?_
        refine tb (x := (vb ((decide (r82.2 = 0)) && (decide (r89.2 = 0))))) (pick_and (fun h9 => gv_t h9)) ?_
        refine tg (x := (vb r89.1)) (fun h99 => rfl) ?_
        refine tb (x := (vb (((decide (r82.2 = 0)) && (decide (r89.2 = 0))) && r89.1))) (pick_and (fun h9 => gv_t h9)) ?_
        exact rf_ret rfl
    · refine tcond (fun h102 => ?_) (fun h102 => ?_)
      · refine tb (x := (T_Net.e a0)) (rfl) ?_
        refine tbo (ty_change_Apply hn a0 r52.1) fun r105 => ?_
        refine tb (x := (T_Net.e r105.1)) (rfl) ?_
        refine tb (x := (eV r105.2)) (rfl) ?_
        refine tb (x := V.agg (T_Net.c r105.1)) (by kernel_rfl) ?_
        refine tb (x := (T_Net.e r105.1)) (rfl) ?_
        refine tb (x := (T_Net.e a1)) (rfl) ?_
        refine tbo (ty_change_Same hn r105.1 a1) fun r112 => ?_
        refine tb (x := (vb r112.1)) (rfl) ?_
        refine tb (x := (eV r112.2)) (rfl) ?_
        refine tb (x := (T_Net.e r105.1)) (rfl) ?_
        refine tbo (ty_change_Turn hn r52.1) fun r117 => ?_
        refine tbo (ty_change_Apply hn r105.1 r117) fun r119 => ?_
        refine tb (x := (T_Net.e r119.1)) (rfl) ?_
        refine tb (x := (eV r119.2)) (rfl) ?_
        refine tb (x := V.agg (T_Net.c r119.1)) (by kernel_rfl) ?_
        refine tb (x := (T_Net.e r119.1)) (rfl) ?_
        refine tb (x := (T_Net.e a0)) (rfl) ?_
        refine tbo (ty_change_Same hn r119.1 a0) fun r126 => ?_
        refine tb (x := (vb r126.1)) (rfl) ?_
        refine tb (x := (eV r126.2)) (rfl) ?_
        refine tb (x := (vb (!decide (r105.2 = 0)))) (p_err_neq _) ?_
        refine tg_f (x := (eV r112.2)) (fun h130 => rfl) ?_
        refine tg_f (x := (vb (!decide (r112.2 = 0)))) (fun h132 => by simp only [gv_t h132]; exact bind_some_eq (p_err_neq _)) ?_
        refine tb (x := (vb ((!decide (r105.2 = 0)) || (!decide (r112.2 = 0))))) (pick_or (fun h9 => gv_t (not_f h9))) ?_
        refine tg_f (x := (eV r119.2)) (fun h136 => rfl) ?_
        refine tg_f (x := (vb (!decide (r119.2 = 0)))) (fun h138 => by simp only [gv_t h138]; exact bind_some_eq (p_err_neq _)) ?_
        refine tb (x := (vb (((!decide (r105.2 = 0)) || (!decide (r112.2 = 0))) || (!decide (r119.2 = 0))))) (pick_or (fun h9 => gv_t (not_f h9))) ?_
        refine tg_f (x := (eV r126.2)) (fun h142 => rfl) ?_
        refine tg_f (x := (vb (!decide (r126.2 = 0)))) (fun h144 => by simp only [gv_t h144]; exact bind_some_eq (p_err_neq _)) ?_
        refine tb (x := (vb ((((!decide (r105.2 = 0)) || (!decide (r112.2 = 0))) || (!decide (r119.2 = 0))) || (!decide (r126.2 = 0))))) (pick_or (fun h9 => gv_t (not_f h9))) ?_
        refine tg_f (x := (vb r112.1)) (fun h148 => rfl) ?_
        refine tg_f (x := (vb (!r112.1))) (fun h150 => by simp only [gv_t h150]; exact bind_some_eq (d_not)) ?_
        refine tb (x := (vb (((((!decide (r105.2 = 0)) || (!decide (r112.2 = 0))) || (!decide (r119.2 = 0))) || (!decide (r126.2 = 0))) || (!r112.1)))) (pick_or (fun h9 => gv_t (not_f h9))) ?_
        refine tg_f (x := (vb r126.1)) (fun h154 => rfl) ?_
        refine tg_f (x := (vb (!r126.1))) (fun h156 => by simp only [gv_t h156]; exact bind_some_eq (d_not)) ?_
        refine tb (x := (vb ((((((!decide (r105.2 = 0)) || (!decide (r112.2 = 0))) || (!decide (r119.2 = 0))) || (!decide (r126.2 = 0))) || (!r112.1)) || (!r126.1)))) (pick_or (fun h9 => gv_t (not_f h9))) ?_
        refine tcond (fun h160 => ?_) (fun h160 => ?_)
        · exact rf_ret rfl
        · refine tkeepO2 ?_ rfl
          refine tsome ?_
          exact h69 ()
      · refine tkeepO2 ?_ rfl
        refine tsome ?_
        exact h69 ()

end Go.Proofs.Ytpkcdfgjcodidaa.Ty
