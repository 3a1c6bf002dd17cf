/- What functions do, as functions on plain types, written by a program and checked by the kernel. -/
import Derived.Test.YtpjadjoekdcjiaaDenPlain
import Derived.Test.YtpjadjoekdcjiaaTy
import Derived.Test.YtpjadjoekdcjiaaTyT
import Derived.Test.YtpjadjoekdcjiaaTyO
import Derived.Test.YtpjadjoekdcjiaaTyN
import Derived.Test.YtpjadjoekdcjiaaTyM
import Derived.Test.YtpjadjoekdcjiaaTyR
import Derived.Test.YtpjadjoekdcjiaaDen14
import Derived.Test.YtpjadjoekdcjiaaClone
import Derived.Test.YtpjadjoekdcjiaaDoTy
namespace Go.Proofs.Ytpjadjoekdcjiaa.Ty
open Go Go.RowKit Go.Proofs.Ytpjadjoekdcjiaa.Den
set_option linter.unusedVariables false
set_option maxRecDepth 100000

def T_Spot.val (x : T_Spot) : Go.Value := .agg #[.int .i64 x.Switch, .int .i64 x.Port]
theorem T_Spot.mkey : MKey Try.prog 30 T_Spot.val where
  chk e a w := by kernel_rfl
  find vv l a w := find_ask Try.underlying30 (fun _ _ => rfl) (fun a b w => equal_of (T_Spot.run_eql a b w)) vv l a w
  sb a := by show Instr.sameBits (9999 + 1) _ _ = true; simp [Instr.sameBits, T_Spot.val]

/-! railpoint/topo.Spot -/
def an_topo_Spot : Ann := .seq (.reg 0 [] [] []) (.seq (.reg 0 [] [] []) (.no))
noncomputable def sem_topo_Spot (n : Nat) (xs : List V) : Option V := if xs.length ≤ 25 then denF Try.prog (envOf []) n Try.f39 an_topo_Spot xs else none
theorem ok_topo_Spot (n : Nat) : SemOk Try.prog DW 39 (sem_topo_Spot n) := fun xs y h => by
  unfold sem_topo_Spot at h
  split at h
  · rename_i hl
    exact denF_ok stb Try.func39 (by kernel_rfl) (envOf_ok semsOk_nil) (by rw [Try.ntmps39]; exact hl) h
  · cases h
theorem eq_topo_Spot (n : Nat) (x0 x1 : V) : sem_topo_Spot n [x0, x1] =
 (V.cellsO x0).bind fun v1 =>
 (V.cellsO x1).bind fun v2 =>
 (ldk none (List.drop 0 v2)).bind fun v3 =>
 (bin2 Try.prog BinOp.geq 3 (ot 6) (oc 1) v3 (vi 1)).bind fun v4 =>
 (guardV v4 true (some V.any)).bind fun v5 =>
 (guardV v4 true ((gate v4 true (ldk none (List.drop 0 v2))).bind fun v6 =>
 some v6)).bind fun v7 =>
 (guardV v4 true (some V.any)).bind fun v8 =>
 (guardV v4 true ((gate v4 true (ldk none (List.drop 0 v1))).bind fun v9 =>
 some v9)).bind fun v10 =>
 (guardV v4 true ((bin2 Try.prog BinOp.leq 3 (ot 10) (ot 12) v7 v10).bind fun v11 =>
 some v11)).bind fun v12 =>
 (pickV v4 v12 (vb false)).bind fun v13 =>
 (guardV v13 true (some V.any)).bind fun v14 =>
 (guardV v13 true ((gate v13 true (ldk none (List.drop 1 v2))).bind fun v15 =>
 some v15)).bind fun v16 =>
 (guardV v13 true ((bin2 Try.prog BinOp.geq 3 (ot 17) (oc 1) v16 (vi 1)).bind fun v17 =>
 some v17)).bind fun v18 =>
 (pickV v13 v18 (vb false)).bind fun v19 =>
 (guardV v19 true (some V.any)).bind fun v20 =>
 (guardV v19 true ((gate v19 true (ldk none (List.drop 1 v2))).bind fun v21 =>
 some v21)).bind fun v22 =>
 (guardV v19 true ((bin2 Try.prog BinOp.leq 3 (ot 22) (oc 4) v22 (vi 4)).bind fun v23 =>
 some v23)).bind fun v24 =>
 (pickV v19 v24 (vb false)).bind fun v25 =>
 some v25 := by kernel_rfl
noncomputable def t_topo_Spot (a0 : T_Topo) (a1 : T_Spot) : Option Bool :=
 some ((((decide (1 ≤ a1.Switch)) && (decide (a1.Switch ≤ a0.Switches))) && (decide (1 ≤ a1.Port))) && (decide (a1.Port ≤ 4)))
theorem ty_topo_Spot {n : Nat} (hn : bigN ≤ n) (a0 : T_Topo) (a1 : T_Spot) : Rv (fun x : Bool => (vb x)) (sem_topo_Spot n [(T_Topo.e a0), (T_Spot.e a1)]) (t_topo_Spot a0 a1) := by
  rw [eq_topo_Spot]
  unfold t_topo_Spot
  refine tb (x := (T_Topo.c a0)) rfl ?_
  refine tb (x := (T_Spot.c a1)) rfl ?_
  refine tb (x := (vi a1.Switch)) (rfl) ?_
  refine tb (x := (vb (decide (1 ≤ a1.Switch)))) (d_geq) ?_
  refine tg (x := V.any) (fun h5 => rfl) ?_
  refine tg (x := (vi a1.Switch)) (fun h7 => bind_some_eq (gate_pos h7 (rfl))) ?_
  refine tg (x := V.any) (fun h10 => rfl) ?_
  refine tg (x := (vi a0.Switches)) (fun h12 => bind_some_eq (gate_pos h12 (rfl))) ?_
  refine tg (x := (vb (decide (a1.Switch ≤ a0.Switches)))) (fun h15 => by simp only [gv_t h15]; exact bind_some_eq (d_leq)) ?_
  refine tb (x := (vb ((decide (1 ≤ a1.Switch)) && (decide (a1.Switch ≤ a0.Switches))))) (pick_and (fun h9 => gv_t h9)) ?_
  refine tg (x := V.any) (fun h19 => rfl) ?_
  refine tg (x := (vi a1.Port)) (fun h21 => bind_some_eq (gate_pos h21 (rfl))) ?_
  refine tg (x := (vb (decide (1 ≤ a1.Port)))) (fun h24 => by simp only [gv_t h24]; exact bind_some_eq (d_geq)) ?_
  refine tb (x := (vb (((decide (1 ≤ a1.Switch)) && (decide (a1.Switch ≤ a0.Switches))) && (decide (1 ≤ a1.Port))))) (pick_and (fun h9 => gv_t h9)) ?_
  refine tg (x := V.any) (fun h28 => rfl) ?_
  refine tg (x := (vi a1.Port)) (fun h30 => bind_some_eq (gate_pos h30 (rfl))) ?_
  refine tg (x := (vb (decide (a1.Port ≤ 4)))) (fun h33 => by simp only [gv_t h33]; exact bind_some_eq (d_leq)) ?_
  refine tb (x := (vb ((((decide (1 ≤ a1.Switch)) && (decide (a1.Switch ≤ a0.Switches))) && (decide (1 ≤ a1.Port))) && (decide (a1.Port ≤ 4))))) (pick_and (fun h9 => gv_t h9)) ?_
  exact rf_ret rfl

/-! railpoint/topo.Name -/
def an_topo_Name : Ann := .seq (.reg 0 [] [] []) (.seq (.seq (.reg 0 [] [] []) (.blk (some []) (.loop [.s 8] (.seq (.reg 0 [] [] []) (.seq (.cond none (.no) (.no)) (.seq (.blk none (.seq (.reg 0 [] [] []) (.seq (.reg 0 [] [] []) (.cond none (.seq (.reg 0 [] [] []) (.no)) (.no))))) (.reg 0 [] [] []))))))) (.seq (.reg 0 [] [] []) (.no)))
noncomputable def sem_topo_Name (n : Nat) (xs : List V) : Option V := if xs.length ≤ 26 then denF Try.prog (envOf []) n Try.f40 an_topo_Name xs else none
theorem ok_topo_Name (n : Nat) : SemOk Try.prog DW 40 (sem_topo_Name n) := fun xs y h => by
  unfold sem_topo_Name at h
  split at h
  · rename_i hl
    exact denF_ok stb Try.func40 (by kernel_rfl) (envOf_ok semsOk_nil) (by rw [Try.ntmps40]; exact hl) h
  · cases h
theorem eq_topo_Name (n : Nat) (x0 : V) : sem_topo_Name n [x0] =
 (s2b x0).bind fun v1 =>
 (lenS [v1]).bind fun v2 =>
 JoinPt (fun vs3 =>
 (bin2 Try.prog BinOp.neq 9 (ot 19) (Operand.const (Go.Value.string (ByteArray.mk #[]))) x0 (V.lit (Go.Value.string (ByteArray.mk #[])))).bind fun v5 =>
 (guardV v5 true (some x0)).bind fun v6 =>
 (guardV v5 true ((lenT [v6]).bind fun v7 =>
 some v7)).bind fun v8 =>
 (guardV v5 true ((bin2 Try.prog BinOp.leq 3 (ot 23) (oc 6) v8 (vi 6)).bind fun v9 =>
 some v9)).bind fun v10 =>
 (pickV v5 v10 (vb false)).bind fun v11 =>
 some v11) fun J4 =>
 (fixN (fun rec12 vs13 =>
 (bin2 Try.prog BinOp.lss 3 (ot 8) (ot 7) (List.getD vs13 0 V.any) v2).bind fun v14 =>
 condV v14 (
 (idxS 1 v1 (List.getD vs13 0 V.any)).bind fun v15 =>
 (ldp none v15).bind fun v16 =>
 (bin2 Try.prog BinOp.lss 5 (ot 12) (Operand.const (Go.Value.int Go.IntKind.u8 97)) v16 (V.lit (Go.Value.int Go.IntKind.u8 97))).bind fun v17 =>
 (guardV v17 false (some v16)).bind fun v18 =>
 (guardV v17 false ((bin2 Try.prog BinOp.gtr 5 (ot 15) (Operand.const (Go.Value.int Go.IntKind.u8 122)) v18 (V.lit (Go.Value.int Go.IntKind.u8 122))).bind fun v19 =>
 some v19)).bind fun v20 =>
 (pickV v17 (vb true) v20).bind fun v21 =>
 condV v21 (
 some (vb false)) (
 (bin2 Try.prog BinOp.add 3 (ot 8) (oc 1) (List.getD vs13 0 V.any) (vi 1)).bind fun v22 =>
 rec12 [v22])) (
 J4 [])) n) [(vi 0)] := by kernel_rfl
noncomputable def t_topo_Name (a0 : ByteArray) : Option Bool :=
 need (decide ((a0.size : Int) ≤ maxI)) (
 join (fun (s5 : Unit) =>
 some ((!decide (a0 = (ByteArray.mk #[]))) && (decide ((a0.size : Int) ≤ 6)))) fun j6 =>
 loopI (numsOf a0) (fun (i24 : Int) x25 (s20 : Unit) k21 =>
 if ((decide (x25 < 97)) || (decide (122 < x25))) = true then (
 some false) else (
 k21 ())) (fun (s20 : Unit) =>
 j6 ()) ())
theorem ty_topo_Name {n : Nat} (hn : bigN ≤ n) (a0 : ByteArray) : Rv (fun x : Bool => (vb x)) (sem_topo_Name n [(vt a0)]) (t_topo_Name a0) := by
  rw [eq_topo_Name]
  unfold t_topo_Name
  refine tneed (x := (V.sl (List.map cY (numsOf a0)))) (fun h44 => p_s2b h44) fun h44 => ?_
  refine tb (x := (vi (List.length (numsOf a0) : Int))) (p_len _) ?_
  refine tjoin (mk := fun s5 : Unit => []) (fun s5 => ?_) fun J4 j6 h7 => ?_
  · refine tb (x := (vb (!decide (a0 = (ByteArray.mk #[]))))) (p_neq_str) ?_
    refine tg (x := (vt a0)) (fun h9 => rfl) ?_
    refine tg (x := (vi (a0.size : Int))) (fun h11 => by simp only [gv_t h11]; exact bind_some_eq (rfl)) ?_
    refine tg (x := (vb (decide ((a0.size : Int) ≤ 6)))) (fun h14 => by simp only [gv_t h14]; exact bind_some_eq (d_leq)) ?_
    refine tb (x := (vb ((!decide (a0 = (ByteArray.mk #[]))) && (decide ((a0.size : Int) ≤ 6))))) (pick_and (fun h9 => gv_t h9)) ?_
    exact rf_ret rfl
  · refine rf_loopI (mk := fun (i24 : Int) (s20 : Unit) => [(vi (i24 : Int))]) hn (numsOf a0) () (fun i24 x25 h26 h27 h28 s20 rec18 k21 h22 => ?_) (fun s20 rec42 h41 => ?_)
    · refine tb (x := (vb (decide ((i24 : Int) < (List.length (numsOf a0) : Int))))) (d_lss) ?_
      refine tcond_t h28 ?_
      refine tb (x := (V.ptr [(V.lit (.int .u8 x25))])) (p_idx_at (c := cY) (fun _ => rfl) h26) ?_
      refine tb (x := (V.lit (.int .u8 x25))) (rfl) ?_
      refine tb (x := (vb (decide (x25 < 97)))) (q_lss) ?_
      refine tg_f (x := (V.lit (.int .u8 x25))) (fun h33 => rfl) ?_
      refine tg_f (x := (vb (decide (122 < x25)))) (fun h35 => by simp only [gv_t h35]; exact bind_some_eq (q_gtr)) ?_
      refine tb (x := (vb ((decide (x25 < 97)) || (decide (122 < x25))))) (pick_or (fun h9 => gv_t (not_f h9))) ?_
      refine tcond (fun h39 => ?_) (fun h39 => ?_)
      · exact rf_ret rfl
      · refine tb (x := (vi ((i24 : Int) + 1))) (p_incN h27) ?_
        exact h22 ()
    · refine tb (x := (vb (decide ((List.length (numsOf a0) : Int) < (List.length (numsOf a0) : Int))))) (d_lss) ?_
      refine tcond_f h41 ?_
      exact h7 ()

/-! railpoint/topo.Check -/
def an_topo_Check : Ann := .seq (.reg 0 [] [] []) (.seq (.blk none (.seq (.reg 0 [] [] []) (.cond none (.seq (.reg 0 [] [] []) (.no)) (.seq (.reg 0 [] [] []) (.cond none (.seq (.reg 0 [] [] []) (.no)) (.no)))))) (.seq (.reg 0 [] [] []) (.seq (.seq (.reg 0 [] [] []) (.blk (some [.kb 1, .o 3]) (.loop [.kb 1, .o 3, .s 35] (.seq (.reg 0 [] [] []) (.seq (.cond none (.no) (.no)) (.seq (.blk none (.seq (.reg 0 [] [] []) (.seq (.seq (.reg 0 [] [] []) (.cond none (.seq (.reg 0 [] [] []) (.no)) (.no))) (.seq (.seq (.reg 0 [] [] []) (.cond none (.seq (.reg 0 [] [] []) (.no)) (.no))) (.reg 72 [] [] []))))) (.reg 0 [] [] []))))))) (.seq (.reg 0 [] [] []) (.seq (.seq (.reg 0 [] [] []) (.blk (some []) (.loop [.kb 1, .o 3, .o 6, .s 81] (.seq (.reg 0 [] [] []) (.seq (.cond none (.no) (.no)) (.seq (.blk none (.seq (.reg 0 [] [] []) (.seq (.blk none (.seq (.reg 0 [] [] []) (.cond none (.seq (.reg 0 [] [] []) (.no)) (.seq (.reg 0 [] [] []) (.cond none (.seq (.reg 0 [] [] []) (.no)) (.seq (.reg 0 [] [] []) (.cond none (.seq (.reg 0 [] [] []) (.no)) (.no)))))))) (.reg 72 [] [] [])))) (.reg 0 [] [] []))))))) (.seq (.reg 0 [] [] []) (.no)))))))
noncomputable def sem_topo_Check (n : Nat) (xs : List V) : Option V := if xs.length ≤ 117 then denF Try.prog (envOf [(39, (sem_topo_Spot n)), (40, (sem_topo_Name n))]) n Try.f22 an_topo_Check xs else none
theorem ok_topo_Check (n : Nat) : SemOk Try.prog DW 22 (sem_topo_Check n) := fun xs y h => by
  unfold sem_topo_Check at h
  split at h
  · rename_i hl
    exact denF_ok stb Try.func22 (by kernel_rfl) (envOf_ok (semsOk_cons (ok_topo_Spot n) (semsOk_cons (ok_topo_Name n) semsOk_nil))) (by rw [Try.ntmps22]; exact hl) h
  · cases h
theorem eq_topo_Check (n : Nat) (x0 : V) : sem_topo_Check n [x0] =
 (V.cellsO x0).bind fun v1 =>
 (ldk none (List.drop 0 v1)).bind fun v2 =>
 (bin2 Try.prog BinOp.lss 3 (ot 11) (oc 1) v2 (vi 1)).bind fun v3 =>
 (guardV v3 false (some V.any)).bind fun v4 =>
 (guardV v3 false ((gate v3 false (ldk none (List.drop 0 v1))).bind fun v5 =>
 some v5)).bind fun v6 =>
 (guardV v3 false ((bin2 Try.prog BinOp.gtr 3 (ot 15) (oc 6) v6 (vi 6)).bind fun v7 =>
 some v7)).bind fun v8 =>
 (pickV v3 (vb true) v8).bind fun v9 =>
 condV v9 (
 (scal1 Try.prog (Instr.makeInterface 66) (vi 1)).bind fun v10 =>
 some v10) (
 (ldk none (List.drop 1 v1)).bind fun v11 =>
 (lenS [v11]).bind fun v12 =>
 (bin2 Try.prog BinOp.gtr 3 (ot 22) (oc 200) v12 (vi 200)).bind fun v13 =>
 (guardV v13 false (some V.any)).bind fun v14 =>
 (guardV v13 false ((gate v13 false (ldk none (List.drop 2 v1))).bind fun v15 =>
 some v15)).bind fun v16 =>
 (guardV v13 false ((lenS [v16]).bind fun v17 =>
 some v17)).bind fun v18 =>
 (guardV v13 false ((bin2 Try.prog BinOp.gtr 3 (ot 27) (oc 8) v18 (vi 8)).bind fun v19 =>
 some v19)).bind fun v20 =>
 (pickV v13 (vb true) v20).bind fun v21 =>
 condV v21 (
 (scal1 Try.prog (Instr.makeInterface 66) (vi 4)).bind fun v22 =>
 some v22) (
 (ldk none (List.drop 1 v1)).bind fun v23 =>
 (lenS [v23]).bind fun v24 =>
 JoinPt (fun vs25 =>
 (ldk none (List.drop 2 v1)).bind fun v27 =>
 (lenS [v27]).bind fun v28 =>
 JoinPt (fun vs29 =>
 some vn) fun J30 =>
 (keepO (some v1) (some v1) (some [(List.getD vs25 0 V.any), (V.mp []), (vi 0)])).bind (fixN (fun rec31 vs32 =>
 (bin2 Try.prog BinOp.lss 3 (ot 81) (ot 80) (List.getD vs32 2 V.any) v28).bind fun v33 =>
 condV v33 (
 (idxS 3 v27 (List.getD vs32 2 V.any)).bind fun v34 =>
 (ldp (some 3) v34).bind fun v35 =>
 (spliceV [(V.lit (Go.Value.string (ByteArray.mk #[]))), (vi 0), (vi 0)] 0 3 v35).bind fun v36 =>
 (ldk none (List.drop 0 (aggL v36))).bind fun v37 =>
 ((sem_topo_Name n) [v37]).bind fun v38 =>
 (scal1 Try.prog (Op.unary Go.UnOp.not) v38).bind fun v39 =>
 condV v39 (
 (scal1 Try.prog (Instr.makeInterface 66) (vi 2)).bind fun v40 =>
 some v40) (
 (ldk (some 3) (List.drop 0 v1)).bind fun v41 =>
 (ldk (some 2) (List.drop 1 (aggL v36))).bind fun v42 =>
 ((sem_topo_Spot n) [v41, v42]).bind fun v43 =>
 (scal1 Try.prog (Op.unary Go.UnOp.not) v43).bind fun v44 =>
 condV v44 (
 (scal1 Try.prog (Instr.makeInterface 66) (vi 1)).bind fun v45 =>
 some v45) (
 (ldk none (List.drop 0 (aggL v36))).bind fun v46 =>
 (lookV Try.prog 98 false (List.getD vs32 1 V.any) v46).bind fun v47 =>
 (guardV v47 false (some V.any)).bind fun v48 =>
 (guardV v47 false (some V.any)).bind fun v49 =>
 (guardV v47 false ((gate v47 false (ldk (some 2) (List.drop 1 (aggL v36)))).bind fun v50 =>
 some v50)).bind fun v51 =>
 (guardV v47 false ((gate v47 false (lookV Try.prog 96 false (List.getD vs32 0 V.any) v51)).bind fun v52 =>
 some v52)).bind fun v53 =>
 (pickV v47 (vb true) v53).bind fun v54 =>
 condV v54 (
 (scal1 Try.prog (Instr.makeInterface 66) (vi 7)).bind fun v55 =>
 some v55) (
 (ldk none (List.drop 0 (aggL v36))).bind fun v56 =>
 (litV v56).bind fun v57 =>
 (ldk (some 2) (List.drop 1 (aggL v36))).bind fun v58 =>
 (litV v58).bind fun v59 =>
 (putV Try.prog 98 (List.getD vs32 1 V.any) v57 (vb true)).bind fun v60 =>
 (putV Try.prog 96 (List.getD vs32 0 V.any) v59 (vb true)).bind fun v61 =>
 (bin2 Try.prog BinOp.add 3 (ot 81) (oc 1) (List.getD vs32 2 V.any) (vi 1)).bind fun v62 =>
 (keepO (some v1) (some v1) (some [v61, v60, v62])).bind rec31)))) (
 J30 [])) n)) fun J26 =>
 (keepO (some v1) (some v1) (some [(V.mp []), (vi 0)])).bind (fixN (fun rec63 vs64 =>
 (bin2 Try.prog BinOp.lss 3 (ot 35) (ot 34) (List.getD vs64 1 V.any) v24).bind fun v65 =>
 condV v65 (
 (idxS 4 v23 (List.getD vs64 1 V.any)).bind fun v66 =>
 (ldp (some 4) v66).bind fun v67 =>
 (spliceV [(vi 0), (vi 0), (vi 0), (vi 0)] 0 4 v67).bind fun v68 =>
 (ldk (some 3) (List.drop 0 v1)).bind fun v69 =>
 (ldk (some 2) (List.drop 0 (aggL v68))).bind fun v70 =>
 ((sem_topo_Spot n) [v69, v70]).bind fun v71 =>
 (scal1 Try.prog (Op.unary Go.UnOp.not) v71).bind fun v72 =>
 (guardV v72 false ((ldk (some 3) (List.drop 0 v1)).bind fun v73 =>
 some v73)).bind fun v74 =>
 (guardV v72 false (some V.any)).bind fun v75 =>
 (guardV v72 false ((gate v72 false (ldk (some 2) (List.drop 2 (aggL v68)))).bind fun v76 =>
 some v76)).bind fun v77 =>
 (guardV v72 false (((sem_topo_Spot n) [v74, v77]).bind fun v78 =>
 some v78)).bind fun v79 =>
 (guardV v72 false ((scal1 Try.prog (Op.unary Go.UnOp.not) v79).bind fun v80 =>
 some v80)).bind fun v81 =>
 (pickV v72 (vb true) v81).bind fun v82 =>
 condV v82 (
 (scal1 Try.prog (Instr.makeInterface 66) (vi 1)).bind fun v83 =>
 some v83) (
 (ldk (some 2) (List.drop 0 (aggL v68))).bind fun v84 =>
 (lookV Try.prog 96 false (List.getD vs64 0 V.any) v84).bind fun v85 =>
 (guardV v85 false (some V.any)).bind fun v86 =>
 (guardV v85 false (some V.any)).bind fun v87 =>
 (guardV v85 false ((gate v85 false (ldk (some 2) (List.drop 2 (aggL v68)))).bind fun v88 =>
 some v88)).bind fun v89 =>
 (guardV v85 false ((gate v85 false (lookV Try.prog 96 false (List.getD vs64 0 V.any) v89)).bind fun v90 =>
 some v90)).bind fun v91 =>
 (pickV v85 (vb true) v91).bind fun v92 =>
 (guardV v92 false (some V.any)).bind fun v93 =>
 (guardV v92 false ((gate v92 false (ldk (some 2) (List.drop 0 (aggL v68)))).bind fun v94 =>
 some v94)).bind fun v95 =>
 (guardV v92 false (some V.any)).bind fun v96 =>
 (guardV v92 false ((gate v92 false (ldk (some 2) (List.drop 2 (aggL v68)))).bind fun v97 =>
 some v97)).bind fun v98 =>
 (guardV v92 false ((bin2 Try.prog BinOp.eql 30 (ot 64) (ot 66) v95 v98).bind fun v99 =>
 some v99)).bind fun v100 =>
 (pickV v92 (vb true) v100).bind fun v101 =>
 condV v101 (
 (scal1 Try.prog (Instr.makeInterface 66) (vi 7)).bind fun v102 =>
 some v102) (
 (ldk (some 2) (List.drop 0 (aggL v68))).bind fun v103 =>
 (litV v103).bind fun v104 =>
 (ldk (some 2) (List.drop 2 (aggL v68))).bind fun v105 =>
 (litV v105).bind fun v106 =>
 (putV Try.prog 96 (List.getD vs64 0 V.any) v104 (vb true)).bind fun v107 =>
 (putV Try.prog 96 v107 v106 (vb true)).bind fun v108 =>
 (bin2 Try.prog BinOp.add 3 (ot 35) (oc 1) (List.getD vs64 1 V.any) (vi 1)).bind fun v109 =>
 (keepO (some v1) (some v1) (some [v108, v109])).bind rec63))) (
 (keepO (some v1) (some v1) (some [(List.getD vs64 0 V.any)])).bind J26)) n))) := by kernel_rfl
noncomputable def t_topo_Check (a0 : T_Topo) : Option Int :=
 if ((decide (a0.Switches < 1)) || (decide (6 < a0.Switches))) = true then (
 some 1) else (
 if ((decide (200 < (List.length a0.Links : Int))) || (decide (8 < (List.length a0.Hosts : Int)))) = true then (
 some 4) else (
 join (fun (s36 : (List (T_Spot × Bool))) =>
 join (fun (s43 : Unit) =>
 some 0) fun j44 =>
 loopI a0.Hosts (fun (i52 : Int) x53 (s48 : ((List (T_Spot × Bool)) × (List (ByteArray × Bool)))) k49 =>
 (t_topo_Name x53.Name).bind fun r63 =>
 if (!r63) = true then (
 some 2) else (
 (t_topo_Spot a0 x53.At).bind fun r70 =>
 if (!r70) = true then (
 some 1) else (
 if ((mget s48.2 x53.Name false) || (mget s48.1 x53.At false)) = true then (
 some 7) else (
 k49 ((mput s48.1 x53.At true), (mput s48.2 x53.Name true)))))) (fun (s48 : ((List (T_Spot × Bool)) × (List (ByteArray × Bool)))) =>
 j44 ()) (s36, [])) fun j37 =>
 loopI a0.Links (fun (i105 : Int) x106 (s101 : (List (T_Spot × Bool))) k102 =>
 (t_topo_Spot a0 x106.A).bind fun r117 =>
 (gd (!(!r117)) default (t_topo_Spot a0 x106.B)).bind fun r130 =>
 if ((!r117) || (!r130)) = true then (
 some 1) else (
 if (((mget s101 x106.A false) || (mget s101 x106.B false)) || (decide (x106.A = x106.B))) = true then (
 some 7) else (
 k102 (mput (mput s101 x106.A true) x106.B true)))) (fun (s101 : (List (T_Spot × Bool))) =>
 j37 (s101)) ([])))
theorem ty_topo_Check {n : Nat} (hn : bigN ≤ n) (a0 : T_Topo) : Rv (fun x : Int => (eV x)) (sem_topo_Check n [(T_Topo.e a0)]) (t_topo_Check a0) := by
  rw [eq_topo_Check]
  unfold t_topo_Check
  refine tb (x := (T_Topo.c a0)) rfl ?_
  refine tb (x := (vi a0.Switches)) (rfl) ?_
  refine tb (x := (vb (decide (a0.Switches < 1)))) (d_lss) ?_
  refine tg_f (x := V.any) (fun h4 => rfl) ?_
  refine tg_f (x := (vi a0.Switches)) (fun h6 => bind_some_eq (gate_pos (not_t h6) (rfl))) ?_
  refine tg_f (x := (vb (decide (6 < a0.Switches)))) (fun h9 => by simp only [gv_t h9]; exact bind_some_eq (d_gtr)) ?_
  refine tb (x := (vb ((decide (a0.Switches < 1)) || (decide (6 < a0.Switches))))) (pick_or (fun h9 => gv_t (not_f h9))) ?_
  refine tcond (fun h13 => ?_) (fun h13 => ?_)
  · refine tb (x := (eV 1)) (p_mkE (by decide)) ?_
    exact rf_ret rfl
  · refine tb (x := (V.sl (List.map T_Link.c a0.Links))) (rfl) ?_
    refine tb (x := (vi (List.length a0.Links : Int))) (p_len _) ?_
    refine tb (x := (vb (decide (200 < (List.length a0.Links : Int))))) (d_gtr) ?_
    refine tg_f (x := V.any) (fun h18 => rfl) ?_
    refine tg_f (x := (V.sl (List.map T_Host.c a0.Hosts))) (fun h20 => bind_some_eq (gate_pos (not_t h20) (rfl))) ?_
    refine tg_f (x := (vi (List.length a0.Hosts : Int))) (fun h23 => by simp only [gv_t h23]; exact bind_some_eq (p_len _)) ?_
    refine tg_f (x := (vb (decide (8 < (List.length a0.Hosts : Int))))) (fun h26 => by simp only [gv_t h26]; exact bind_some_eq (d_gtr)) ?_
    refine tb (x := (vb ((decide (200 < (List.length a0.Links : Int))) || (decide (8 < (List.length a0.Hosts : Int)))))) (pick_or (fun h9 => gv_t (not_f h9))) ?_
    refine tcond (fun h30 => ?_) (fun h30 => ?_)
    · refine tb (x := (eV 4)) (p_mkE (by decide)) ?_
      exact rf_ret rfl
    · refine tb (x := (V.sl (List.map T_Link.c a0.Links))) (rfl) ?_
      refine tb (x := (vi (List.length a0.Links : Int))) (p_len _) ?_
      refine tjoin (mk := fun s36 : (List (T_Spot × Bool)) => [(V.mp (mrep T_Spot.val (fun b : Bool => Go.Value.bool b) s36))]) (fun s36 => ?_) fun J35 j37 h38 => ?_
      · refine tb (x := (V.sl (List.map T_Host.c a0.Hosts))) (rfl) ?_
        refine tb (x := (vi (List.length a0.Hosts : Int))) (p_len _) ?_
        refine tjoin (mk := fun s43 : Unit => []) (fun s43 => ?_) fun J42 j44 h45 => ?_
        · exact rf_ret rfl
        · refine tkeepO2 ?_ rfl
          refine tsome ?_
          refine rf_loopI (mk := fun (i52 : Int) (s48 : ((List (T_Spot × Bool)) × (List (ByteArray × Bool)))) => [(V.mp (mrep T_Spot.val (fun b : Bool => Go.Value.bool b) s48.1)), (V.mp (mrep (fun b : ByteArray => Go.Value.string b) (fun b : Bool => Go.Value.bool b) s48.2)), (vi (i52 : Int))]) hn a0.Hosts (s36, []) (fun i52 x53 h54 h55 h56 s48 rec46 k49 h50 => ?_) (fun s48 rec97 h96 => ?_)
          · refine tb (x := (vb (decide ((i52 : Int) < (List.length a0.Hosts : Int))))) (d_lss) ?_
            refine tcond_t h56 ?_
            refine tb (x := (V.ptr (T_Host.c x53))) (p_idx_at (c := T_Host.c) (fun _ => rfl) h54) ?_
            refine tb (x := (T_Host.e x53)) (rfl) ?_
            refine tb (x := V.agg (T_Host.c x53)) (by kernel_rfl) ?_
            refine tb (x := (vt x53.Name)) (rfl) ?_
            refine tbo (ty_topo_Name hn x53.Name) fun r63 => ?_
            refine tb (x := (vb (!r63))) (d_not) ?_
            refine tcond (fun h65 => ?_) (fun h65 => ?_)
            · refine tb (x := (eV 2)) (p_mkE (by decide)) ?_
              exact rf_ret rfl
            · refine tb (x := (T_Topo.e a0)) (rfl) ?_
              refine tb (x := (T_Spot.e x53.At)) (rfl) ?_
              refine tbo (ty_topo_Spot hn a0 x53.At) fun r70 => ?_
              refine tb (x := (vb (!r70))) (d_not) ?_
              refine tcond (fun h72 => ?_) (fun h72 => ?_)
              · refine tb (x := (eV 1)) (p_mkE (by decide)) ?_
                exact rf_ret rfl
              · refine tb (x := (vt x53.Name)) (rfl) ?_
                refine tb (x := (vb (mget s48.2 x53.Name false))) (p_look (kt := 9) (et := 4) (kv := (fun b : ByteArray => Go.Value.string b)) (vv := (fun b : Bool => Go.Value.bool b)) (e1 := fun x : Bool => (vb x)) (mkey_str (by kernel_rfl)) (by kernel_rfl) false (fun _ => by kernel_rfl) (fun _ => rfl) x53.Name rfl s48.2) ?_
                refine tg_f (x := V.any) (fun h76 => rfl) ?_
                refine tg_f (x := V.any) (fun h78 => rfl) ?_
                refine tg_f (x := (T_Spot.e x53.At)) (fun h80 => bind_some_eq (gate_pos (not_t h80) (rfl))) ?_
                refine tg_f (x := (vb (mget s48.1 x53.At false))) (fun h83 => by simp only [gv_t h83]; exact bind_some_eq (gate_pos (not_t h83) (p_look (kt := 30) (et := 4) (kv := T_Spot.val) (vv := (fun b : Bool => Go.Value.bool b)) (e1 := fun x : Bool => (vb x)) T_Spot.mkey (by kernel_rfl) false (fun _ => by kernel_rfl) (fun _ => rfl) x53.At rfl s48.1))) ?_
                refine tb (x := (vb ((mget s48.2 x53.Name false) || (mget s48.1 x53.At false)))) (pick_or (fun h9 => gv_t (not_f h9))) ?_
                refine tcond (fun h87 => ?_) (fun h87 => ?_)
                · refine tb (x := (eV 7)) (p_mkE (by decide)) ?_
                  exact rf_ret rfl
                · refine tb (x := (vt x53.Name)) (rfl) ?_
                  refine tb (x := (vt x53.Name)) rfl ?_
                  refine tb (x := (T_Spot.e x53.At)) (rfl) ?_
                  refine tb (x := (T_Spot.e x53.At)) rfl ?_
                  refine tb (x := V.mp (mrep (fun b : ByteArray => Go.Value.string b) (fun b : Bool => Go.Value.bool b) (mput s48.2 x53.Name true))) (p_put (kt := 9) (et := 4) (kv := (fun b : ByteArray => Go.Value.string b)) (vv := (fun b : Bool => Go.Value.bool b)) (mkey_str (by kernel_rfl)) (by kernel_rfl) x53.Name true rfl rfl s48.2) ?_
                  refine tb (x := V.mp (mrep T_Spot.val (fun b : Bool => Go.Value.bool b) (mput s48.1 x53.At true))) (p_put (kt := 30) (et := 4) (kv := T_Spot.val) (vv := (fun b : Bool => Go.Value.bool b)) T_Spot.mkey (by kernel_rfl) x53.At true rfl rfl s48.1) ?_
                  refine tb (x := (vi ((i52 : Int) + 1))) (p_incN h55) ?_
                  refine tkeepO2 ?_ rfl
                  refine tsome ?_
                  exact h50 ((mput s48.1 x53.At true), (mput s48.2 x53.Name true))
          · refine tb (x := (vb (decide ((List.length a0.Hosts : Int) < (List.length a0.Hosts : Int))))) (d_lss) ?_
            refine tcond_f h96 ?_
            exact h45 ()
      · refine tkeepO2 ?_ rfl
        refine tsome ?_
        refine rf_loopI (mk := fun (i105 : Int) (s101 : (List (T_Spot × Bool))) => [(V.mp (mrep T_Spot.val (fun b : Bool => Go.Value.bool b) s101)), (vi (i105 : Int))]) hn a0.Links ([]) (fun i105 x106 h107 h108 h109 s101 rec99 k102 h103 => ?_) (fun s101 rec174 h173 => ?_)
        · refine tb (x := (vb (decide ((i105 : Int) < (List.length a0.Links : Int))))) (d_lss) ?_
          refine tcond_t h109 ?_
          refine tb (x := (V.ptr (T_Link.c x106))) (p_idx_at (c := T_Link.c) (fun _ => rfl) h107) ?_
          refine tb (x := (T_Link.e x106)) (rfl) ?_
          refine tb (x := V.agg (T_Link.c x106)) (by kernel_rfl) ?_
          refine tb (x := (T_Topo.e a0)) (rfl) ?_
          refine tb (x := (T_Spot.e x106.A)) (rfl) ?_
          refine tbo (ty_topo_Spot hn a0 x106.A) fun r117 => ?_
          refine tb (x := (vb (!r117))) (d_not) ?_
          refine tg_f (x := (T_Topo.e a0)) (fun h119 => bind_some_eq (rfl)) ?_
          refine tg_f (x := V.any) (fun h122 => rfl) ?_
          refine tg_f (x := (T_Spot.e x106.B)) (fun h124 => bind_some_eq (gate_pos (not_t h124) (rfl))) ?_
          refine tgo_f (fun h127 => by simp only [gv_t h127]; exact rf_bind_some (ty_topo_Spot hn a0 x106.B)) fun r130 => ?_
          refine tg_f (x := (vb (!r130))) (fun h131 => by simp only [gv_t h131]; exact bind_some_eq (d_not)) ?_
          refine tb (x := (vb ((!r117) || (!r130)))) (pick_or (fun h9 => gv_t (not_f h9))) ?_
          refine tcond (fun h135 => ?_) (fun h135 => ?_)
          · refine tb (x := (eV 1)) (p_mkE (by decide)) ?_
            exact rf_ret rfl
          · refine tb (x := (T_Spot.e x106.A)) (rfl) ?_
            refine tb (x := (vb (mget s101 x106.A false))) (p_look (kt := 30) (et := 4) (kv := T_Spot.val) (vv := (fun b : Bool => Go.Value.bool b)) (e1 := fun x : Bool => (vb x)) T_Spot.mkey (by kernel_rfl) false (fun _ => by kernel_rfl) (fun _ => rfl) x106.A rfl s101) ?_
            refine tg_f (x := V.any) (fun h139 => rfl) ?_
            refine tg_f (x := V.any) (fun h141 => rfl) ?_
            refine tg_f (x := (T_Spot.e x106.B)) (fun h143 => bind_some_eq (gate_pos (not_t h143) (rfl))) ?_
            refine tg_f (x := (vb (mget s101 x106.B false))) (fun h146 => by simp only [gv_t h146]; exact bind_some_eq (gate_pos (not_t h146) (p_look (kt := 30) (et := 4) (kv := T_Spot.val) (vv := (fun b : Bool => Go.Value.bool b)) (e1 := fun x : Bool => (vb x)) T_Spot.mkey (by kernel_rfl) false (fun _ => by kernel_rfl) (fun _ => rfl) x106.B rfl s101))) ?_
            refine tb (x := (vb ((mget s101 x106.A false) || (mget s101 x106.B false)))) (pick_or (fun h9 => gv_t (not_f h9))) ?_
            refine tg_f (x := V.any) (fun h150 => rfl) ?_
            refine tg_f (x := (T_Spot.e x106.A)) (fun h152 => bind_some_eq (gate_pos (not_t h152) (rfl))) ?_
            refine tg_f (x := V.any) (fun h155 => rfl) ?_
            refine tg_f (x := (T_Spot.e x106.B)) (fun h157 => bind_some_eq (gate_pos (not_t h157) (rfl))) ?_
            refine tg_f (x := (vb (decide (x106.A = x106.B)))) (fun h160 => by simp only [gv_t h160]; exact bind_some_eq (T_Spot.eql x106.A x106.B)) ?_
            refine tb (x := (vb (((mget s101 x106.A false) || (mget s101 x106.B false)) || (decide (x106.A = x106.B))))) (pick_or (fun h9 => gv_t (not_f h9))) ?_
            refine tcond (fun h164 => ?_) (fun h164 => ?_)
            · refine tb (x := (eV 7)) (p_mkE (by decide)) ?_
              exact rf_ret rfl
            · refine tb (x := (T_Spot.e x106.A)) (rfl) ?_
              refine tb (x := (T_Spot.e x106.A)) rfl ?_
              refine tb (x := (T_Spot.e x106.B)) (rfl) ?_
              refine tb (x := (T_Spot.e x106.B)) rfl ?_
              refine tb (x := V.mp (mrep T_Spot.val (fun b : Bool => Go.Value.bool b) (mput s101 x106.A true))) (p_put (kt := 30) (et := 4) (kv := T_Spot.val) (vv := (fun b : Bool => Go.Value.bool b)) T_Spot.mkey (by kernel_rfl) x106.A true rfl rfl s101) ?_
              refine tb (x := V.mp (mrep T_Spot.val (fun b : Bool => Go.Value.bool b) (mput (mput s101 x106.A true) x106.B true))) (p_put (kt := 30) (et := 4) (kv := T_Spot.val) (vv := (fun b : Bool => Go.Value.bool b)) T_Spot.mkey (by kernel_rfl) x106.B true rfl rfl (mput s101 x106.A true)) ?_
              refine tb (x := (vi ((i105 : Int) + 1))) (p_incN h108) ?_
              refine tkeepO2 ?_ rfl
              refine tsome ?_
              exact h103 (mput (mput s101 x106.A true) x106.B true)
        · refine tb (x := (vb (decide ((List.length a0.Links : Int) < (List.length a0.Links : Int))))) (d_lss) ?_
          refine tcond_f h173 ?_
          refine tkeepO2 ?_ rfl
          refine tsome ?_
          exact h38 (s101)

/-! railpoint/cube.Header -/
def an_cube_Header : Ann := .seq (.reg 0 [] [] []) (.seq (.reg 0 [] [] []) (.no))
noncomputable def sem_cube_Header (n : Nat) (xs : List V) : Option V := if xs.length ≤ 9 then denF Try.prog (envOf []) n Try.f20 an_cube_Header xs else none
theorem ok_cube_Header (n : Nat) : SemOk Try.prog DW 20 (sem_cube_Header n) := fun xs y h => by
  unfold sem_cube_Header at h
  split at h
  · rename_i hl
    exact denF_ok stb Try.func20 (by kernel_rfl) (envOf_ok semsOk_nil) (by rw [Try.ntmps20]; exact hl) h
  · cases h
theorem eq_cube_Header (n : Nat) (x0 : V) : sem_cube_Header n [x0] =
 (bin2 Try.prog BinOp.geq 3 (ot 3) (oc 0) x0 (vi 0)).bind fun v1 =>
 (guardV v1 true (some x0)).bind fun v2 =>
 (guardV v1 true ((bin2 Try.prog BinOp.lss 3 (ot 6) (oc 16) v2 (vi 16)).bind fun v3 =>
 some v3)).bind fun v4 =>
 (pickV v1 v4 (vb false)).bind fun v5 =>
 some v5 := by kernel_rfl
noncomputable def t_cube_Header (a0 : Int) : Option Bool :=
 some ((decide (0 ≤ a0)) && (decide (a0 < 16)))
theorem ty_cube_Header {n : Nat} (hn : bigN ≤ n) (a0 : Int) : Rv (fun x : Bool => (vb x)) (sem_cube_Header n [(vi a0)]) (t_cube_Header a0) := by
  rw [eq_cube_Header]
  unfold t_cube_Header
  refine tb (x := (vb (decide (0 ≤ a0)))) (d_geq) ?_
  refine tg (x := (vi a0)) (fun h2 => rfl) ?_
  refine tg (x := (vb (decide (a0 < 16)))) (fun h4 => by simp only [gv_t h4]; exact bind_some_eq (d_lss)) ?_
  refine tb (x := (vb ((decide (0 ≤ a0)) && (decide (a0 < 16))))) (pick_and (fun h9 => gv_t h9)) ?_
  exact rf_ret rfl

/-! railpoint/cube.Check -/
def an_cube_Check : Ann := .seq (.reg 0 [] [] []) (.seq (.blk none (.seq (.reg 0 [] [] []) (.cond none (.seq (.reg 0 [] [] []) (.no)) (.seq (.reg 0 [] [] []) (.cond none (.seq (.reg 0 [] [] []) (.no)) (.no)))))) (.seq (.reg 0 [] [] []) (.no)))
noncomputable def sem_cube_Check (n : Nat) (xs : List V) : Option V := if xs.length ≤ 23 then denF Try.prog (envOf [(20, (sem_cube_Header n))]) n Try.f43 an_cube_Check xs else none
theorem ok_cube_Check (n : Nat) : SemOk Try.prog DW 43 (sem_cube_Check n) := fun xs y h => by
  unfold sem_cube_Check at h
  split at h
  · rename_i hl
    exact denF_ok stb Try.func43 (by kernel_rfl) (envOf_ok (semsOk_cons (ok_cube_Header n) semsOk_nil)) (by rw [Try.ntmps43]; exact hl) h
  · cases h
theorem eq_cube_Check (n : Nat) (x0 : V) : sem_cube_Check n [x0] =
 (V.cellsO x0).bind fun v1 =>
 (ldk none (List.drop 0 v1)).bind fun v2 =>
 ((sem_cube_Header n) [v2]).bind fun v3 =>
 (scal1 Try.prog (Op.unary Go.UnOp.not) v3).bind fun v4 =>
 (guardV v4 false (some V.any)).bind fun v5 =>
 (guardV v4 false ((gate v4 false (ldk none (List.drop 1 v1))).bind fun v6 =>
 some v6)).bind fun v7 =>
 (guardV v4 false (((sem_cube_Header n) [v7]).bind fun v8 =>
 some v8)).bind fun v9 =>
 (guardV v4 false ((scal1 Try.prog (Op.unary Go.UnOp.not) v9).bind fun v10 =>
 some v10)).bind fun v11 =>
 (pickV v4 (vb true) v11).bind fun v12 =>
 condV v12 (
 (scal1 Try.prog (Instr.makeInterface 66) (vi 1)).bind fun v13 =>
 some v13) (
 (ldk none (List.drop 1 v1)).bind fun v14 =>
 (ldk none (List.drop 0 v1)).bind fun v15 =>
 (bin2 Try.prog BinOp.andNot 3 (ot 17) (ot 19) v14 v15).bind fun v16 =>
 (bin2 Try.prog BinOp.neq 3 (ot 20) (oc 0) v16 (vi 0)).bind fun v17 =>
 condV v17 (
 (scal1 Try.prog (Instr.makeInterface 66) (vi 3)).bind fun v18 =>
 some v18) (
 some vn)) := by kernel_rfl
noncomputable def t_cube_Check (a0 : T_Cube) : Option Int :=
 (t_cube_Header a0.Mask).bind fun r4 =>
 (gd (!(!r4)) default (t_cube_Header a0.Bits)).bind fun r14 =>
 if ((!r4) || (!r14)) = true then (
 some 1) else (
 if (decide ((bits .andNot .i64 a0.Bits a0.Mask) ≠ 0)) = true then (
 some 3) else (
 some 0))
theorem ty_cube_Check {n : Nat} (hn : bigN ≤ n) (a0 : T_Cube) : Rv (fun x : Int => (eV x)) (sem_cube_Check n [(T_Cube.e a0)]) (t_cube_Check a0) := by
  rw [eq_cube_Check]
  unfold t_cube_Check
  refine tb (x := (T_Cube.c a0)) rfl ?_
  refine tb (x := (vi a0.Mask)) (rfl) ?_
  refine tbo (ty_cube_Header hn a0.Mask) fun r4 => ?_
  refine tb (x := (vb (!r4))) (d_not) ?_
  refine tg_f (x := V.any) (fun h6 => rfl) ?_
  refine tg_f (x := (vi a0.Bits)) (fun h8 => bind_some_eq (gate_pos (not_t h8) (rfl))) ?_
  refine tgo_f (fun h11 => by simp only [gv_t h11]; exact rf_bind_some (ty_cube_Header hn a0.Bits)) fun r14 => ?_
  refine tg_f (x := (vb (!r14))) (fun h15 => by simp only [gv_t h15]; exact bind_some_eq (d_not)) ?_
  refine tb (x := (vb ((!r4) || (!r14)))) (pick_or (fun h9 => gv_t (not_f h9))) ?_
  refine tcond (fun h19 => ?_) (fun h19 => ?_)
  · refine tb (x := (eV 1)) (p_mkE (by decide)) ?_
    exact rf_ret rfl
  · refine tb (x := (vi a0.Bits)) (rfl) ?_
    refine tb (x := (vi a0.Mask)) (rfl) ?_
    refine tb (x := (vi (bits .andNot .i64 a0.Bits a0.Mask))) (d_andNot) ?_
    refine tb (x := (vb (decide ((bits .andNot .i64 a0.Bits a0.Mask) ≠ 0)))) (d_neq) ?_
    refine tcond (fun h25 => ?_) (fun h25 => ?_)
    · refine tb (x := (eV 3)) (p_mkE (by decide)) ?_
      exact rf_ret rfl
    · exact rf_ret rfl

/-! railpoint/rule.Check -/
def an_rule_Check : Ann := .seq (.reg 0 [] [] []) (.seq (.seq (.reg 0 [] [] []) (.cond none (.seq (.reg 0 [] [] []) (.no)) (.no))) (.seq (.seq (.reg 0 [] [] []) (.seq (.reg 0 [] [] []) (.cond none (.seq (.reg 0 [] [] []) (.no)) (.no)))) (.seq (.seq (.reg 0 [] [] []) (.cond none (.seq (.reg 0 [] [] []) (.no)) (.no))) (.seq (.reg 0 [] [] []) (.no)))))
noncomputable def sem_rule_Check (n : Nat) (xs : List V) : Option V := if xs.length ≤ 58 then denF Try.prog (envOf [(20, (sem_cube_Header n)), (43, (sem_cube_Check n))]) n Try.f28 an_rule_Check xs else none
theorem ok_rule_Check (n : Nat) : SemOk Try.prog DW 28 (sem_rule_Check n) := fun xs y h => by
  unfold sem_rule_Check at h
  split at h
  · rename_i hl
    exact denF_ok stb Try.func28 (by kernel_rfl) (envOf_ok (semsOk_cons (ok_cube_Header n) (semsOk_cons (ok_cube_Check n) semsOk_nil))) (by rw [Try.ntmps28]; exact hl) h
  · cases h
theorem eq_rule_Check (n : Nat) (x0 : V) : sem_rule_Check n [x0] =
 (V.cellsO x0).bind fun v1 =>
 (ldk none (List.drop 0 v1)).bind fun v2 =>
 (bin2 Try.prog BinOp.lss 3 (ot 5) (oc 0) v2 (vi 0)).bind fun v3 =>
 (guardV v3 false (some V.any)).bind fun v4 =>
 (guardV v3 false ((gate v3 false (ldk none (List.drop 0 v1))).bind fun v5 =>
 some v5)).bind fun v6 =>
 (guardV v3 false ((bin2 Try.prog BinOp.gtr 3 (ot 9) (oc 99) v6 (vi 99)).bind fun v7 =>
 some v7)).bind fun v8 =>
 (pickV v3 (vb true) v8).bind fun v9 =>
 (guardV v9 false (some V.any)).bind fun v10 =>
 (guardV v9 false ((gate v9 false (ldk none (List.drop 3 v1))).bind fun v11 =>
 some v11)).bind fun v12 =>
 (guardV v9 false ((bin2 Try.prog BinOp.lss 3 (ot 14) (oc 0) v12 (vi 0)).bind fun v13 =>
 some v13)).bind fun v14 =>
 (pickV v9 (vb true) v14).bind fun v15 =>
 (guardV v15 false (some V.any)).bind fun v16 =>
 (guardV v15 false ((gate v15 false (ldk none (List.drop 3 v1))).bind fun v17 =>
 some v17)).bind fun v18 =>
 (guardV v15 false ((bin2 Try.prog BinOp.gtr 3 (ot 19) (oc 4) v18 (vi 4)).bind fun v19 =>
 some v19)).bind fun v20 =>
 (pickV v15 (vb true) v20).bind fun v21 =>
 (guardV v21 false (some V.any)).bind fun v22 =>
 (guardV v21 false ((gate v21 false (ldk none (List.drop 4 v1))).bind fun v23 =>
 some v23)).bind fun v24 =>
 (guardV v21 false (((sem_cube_Header n) [v24]).bind fun v25 =>
 some v25)).bind fun v26 =>
 (guardV v21 false ((scal1 Try.prog (Op.unary Go.UnOp.not) v26).bind fun v27 =>
 some v27)).bind fun v28 =>
 (pickV v21 (vb true) v28).bind fun v29 =>
 (guardV v29 false (some V.any)).bind fun v30 =>
 (guardV v29 false ((gate v29 false (ldk none (List.drop 5 v1))).bind fun v31 =>
 some v31)).bind fun v32 =>
 (guardV v29 false (((sem_cube_Header n) [v32]).bind fun v33 =>
 some v33)).bind fun v34 =>
 (guardV v29 false ((scal1 Try.prog (Op.unary Go.UnOp.not) v34).bind fun v35 =>
 some v35)).bind fun v36 =>
 (pickV v29 (vb true) v36).bind fun v37 =>
 condV v37 (
 (scal1 Try.prog (Instr.makeInterface 66) (vi 1)).bind fun v38 =>
 some v38) (
 (ldk (some 2) (List.drop 1 v1)).bind fun v39 =>
 ((sem_cube_Check n) [v39]).bind fun v40 =>
 (bin2 Try.prog BinOp.neq 41 (ot 38) (Operand.const Go.Value.nilIface) v40 vn).bind fun v41 =>
 condV v41 (
 some v40) (
 (ldk none (List.drop 5 v1)).bind fun v42 =>
 (ldk none (List.drop 4 v1)).bind fun v43 =>
 (bin2 Try.prog BinOp.andNot 3 (ot 42) (ot 44) v42 v43).bind fun v44 =>
 (bin2 Try.prog BinOp.neq 3 (ot 45) (oc 0) v44 (vi 0)).bind fun v45 =>
 (guardV v45 false (some V.any)).bind fun v46 =>
 (guardV v45 false ((gate v45 false (ldk none (List.drop 3 v1))).bind fun v47 =>
 some v47)).bind fun v48 =>
 (guardV v45 false ((bin2 Try.prog BinOp.eql 3 (ot 49) (oc 0) v48 (vi 0)).bind fun v49 =>
 some v49)).bind fun v50 =>
 (guardV v45 false (some v50)).bind fun v51 =>
 (guardV v51 true (some V.any)).bind fun v52 =>
 (guardV v51 true ((gate v51 true (ldk none (List.drop 4 v1))).bind fun v53 =>
 some v53)).bind fun v54 =>
 (guardV v51 true ((bin2 Try.prog BinOp.neq 3 (ot 53) (oc 0) v54 (vi 0)).bind fun v55 =>
 some v55)).bind fun v56 =>
 (guardV v45 false ((pickV v51 v56 (vb false)).bind fun v57 =>
 some v57)).bind fun v58 =>
 (pickV v45 (vb true) v58).bind fun v59 =>
 condV v59 (
 (scal1 Try.prog (Instr.makeInterface 66) (vi 3)).bind fun v60 =>
 some v60) (
 some vn))) := by kernel_rfl
noncomputable def t_rule_Check (a0 : T_Rule) : Option Int :=
 (gd (!((((decide (a0.Prio < 0)) || (decide (99 < a0.Prio))) || (decide (a0.Out < 0))) || (decide (4 < a0.Out)))) default (t_cube_Header a0.Set)).bind fun r39 =>
 (gd (!(((((decide (a0.Prio < 0)) || (decide (99 < a0.Prio))) || (decide (a0.Out < 0))) || (decide (4 < a0.Out))) || (!r39))) default (t_cube_Header a0.Value)).bind fun r52 =>
 if ((((((decide (a0.Prio < 0)) || (decide (99 < a0.Prio))) || (decide (a0.Out < 0))) || (decide (4 < a0.Out))) || (!r39)) || (!r52)) = true then (
 some 1) else (
 (t_cube_Check a0.Cube).bind fun r61 =>
 if (!decide (r61 = 0)) = true then (
 some r61) else (
 if ((decide ((bits .andNot .i64 a0.Value a0.Set) ≠ 0)) || ((decide (a0.Out = 0)) && (decide (a0.Set ≠ 0)))) = true then (
 some 3) else (
 some 0)))
theorem ty_rule_Check {n : Nat} (hn : bigN ≤ n) (a0 : T_Rule) : Rv (fun x : Int => (eV x)) (sem_rule_Check n [(T_Rule.e a0)]) (t_rule_Check a0) := by
  rw [eq_rule_Check]
  unfold t_rule_Check
  refine tb (x := (T_Rule.c a0)) rfl ?_
  refine tb (x := (vi a0.Prio)) (rfl) ?_
  refine tb (x := (vb (decide (a0.Prio < 0)))) (d_lss) ?_
  refine tg_f (x := V.any) (fun h4 => rfl) ?_
  refine tg_f (x := (vi a0.Prio)) (fun h6 => bind_some_eq (gate_pos (not_t h6) (rfl))) ?_
  refine tg_f (x := (vb (decide (99 < a0.Prio)))) (fun h9 => by simp only [gv_t h9]; exact bind_some_eq (d_gtr)) ?_
  refine tb (x := (vb ((decide (a0.Prio < 0)) || (decide (99 < a0.Prio))))) (pick_or (fun h9 => gv_t (not_f h9))) ?_
  refine tg_f (x := V.any) (fun h13 => rfl) ?_
  refine tg_f (x := (vi a0.Out)) (fun h15 => bind_some_eq (gate_pos (not_t h15) (rfl))) ?_
  refine tg_f (x := (vb (decide (a0.Out < 0)))) (fun h18 => by simp only [gv_t h18]; exact bind_some_eq (d_lss)) ?_
  refine tb (x := (vb (((decide (a0.Prio < 0)) || (decide (99 < a0.Prio))) || (decide (a0.Out < 0))))) (pick_or (fun h9 => gv_t (not_f h9))) ?_
  refine tg_f (x := V.any) (fun h22 => rfl) ?_
  refine tg_f (x := (vi a0.Out)) (fun h24 => bind_some_eq (gate_pos (not_t h24) (rfl))) ?_
  refine tg_f (x := (vb (decide (4 < a0.Out)))) (fun h27 => by simp only [gv_t h27]; exact bind_some_eq (d_gtr)) ?_
  refine tb (x := (vb ((((decide (a0.Prio < 0)) || (decide (99 < a0.Prio))) || (decide (a0.Out < 0))) || (decide (4 < a0.Out))))) (pick_or (fun h9 => gv_t (not_f h9))) ?_
  refine tg_f (x := V.any) (fun h31 => rfl) ?_
  refine tg_f (x := (vi a0.Set)) (fun h33 => bind_some_eq (gate_pos (not_t h33) (rfl))) ?_
  refine tgo_f (fun h36 => by simp only [gv_t h36]; exact rf_bind_some (ty_cube_Header hn a0.Set)) fun r39 => ?_
  refine tg_f (x := (vb (!r39))) (fun h40 => by simp only [gv_t h40]; exact bind_some_eq (d_not)) ?_
  refine tb (x := (vb (((((decide (a0.Prio < 0)) || (decide (99 < a0.Prio))) || (decide (a0.Out < 0))) || (decide (4 < a0.Out))) || (!r39)))) (pick_or (fun h9 => gv_t (not_f h9))) ?_
  refine tg_f (x := V.any) (fun h44 => rfl) ?_
  refine tg_f (x := (vi a0.Value)) (fun h46 => bind_some_eq (gate_pos (not_t h46) (rfl))) ?_
  refine tgo_f (fun h49 => by simp only [gv_t h49]; exact rf_bind_some (ty_cube_Header hn a0.Value)) fun r52 => ?_
  refine tg_f (x := (vb (!r52))) (fun h53 => by simp only [gv_t h53]; exact bind_some_eq (d_not)) ?_
  refine tb (x := (vb ((((((decide (a0.Prio < 0)) || (decide (99 < a0.Prio))) || (decide (a0.Out < 0))) || (decide (4 < a0.Out))) || (!r39)) || (!r52)))) (pick_or (fun h9 => gv_t (not_f h9))) ?_
  refine tcond (fun h57 => ?_) (fun h57 => ?_)
  · refine tb (x := (eV 1)) (p_mkE (by decide)) ?_
    exact rf_ret rfl
  · refine tb (x := (T_Cube.e a0.Cube)) (rfl) ?_
    refine tbo (ty_cube_Check hn a0.Cube) fun r61 => ?_
    refine tb (x := (vb (!decide (r61 = 0)))) (p_err_neq _) ?_
    refine tcond (fun h63 => ?_) (fun h63 => ?_)
    · exact rf_ret rfl
    · refine tb (x := (vi a0.Value)) (rfl) ?_
      refine tb (x := (vi a0.Set)) (rfl) ?_
      refine tb (x := (vi (bits .andNot .i64 a0.Value a0.Set))) (d_andNot) ?_
      refine tb (x := (vb (decide ((bits .andNot .i64 a0.Value a0.Set) ≠ 0)))) (d_neq) ?_
      refine tg_f (x := V.any) (fun h68 => rfl) ?_
      refine tg_f (x := (vi a0.Out)) (fun h70 => bind_some_eq (gate_pos (not_t h70) (rfl))) ?_
      refine tg_f (x := (vb (decide (a0.Out = 0)))) (fun h73 => by simp only [gv_t h73]; exact bind_some_eq (d_eql)) ?_
      refine tg_f (x := (vb (decide (a0.Out = 0)))) (fun h76 => congrArg some (gv_t h76)) ?_
      refine tg2 (x := V.any) (fun h78 => rfl) ?_
      refine tg2 (x := (vi a0.Set)) (fun h80 => bind_some_eq (gate_pos2 (and_l h80) (and_r h80) (rfl))) ?_
      refine tg2 (x := (vb (decide (a0.Set ≠ 0)))) (fun h83 => by simp only [gv_t h83]; exact bind_some_eq (d_neq)) ?_
      refine tg_f (x := (vb ((decide (a0.Out = 0)) && (decide (a0.Set ≠ 0))))) (fun h86 => by simp only [gv_t h86]; exact bind_some_eq (pick_and (fun h9 => gv_t (and_i h86 h9)))) ?_
      refine tb (x := (vb ((decide ((bits .andNot .i64 a0.Value a0.Set) ≠ 0)) || ((decide (a0.Out = 0)) && (decide (a0.Set ≠ 0)))))) (pick_or (fun h9 => gv_t (not_f h9))) ?_
      refine tcond (fun h90 => ?_) (fun h90 => ?_)
      · refine tb (x := (eV 3)) (p_mkE (by decide)) ?_
        exact rf_ret rfl
      · exact rf_ret rfl

/-! slices.IndexFunc railpoint/api.Table railpoint/api.Rule  -/
def an_slices_IndexFunc_api_Table_api_Rule : Ann := .seq (.reg 0 [] [] []) (.seq (.seq (.reg 0 [] [] []) (.blk (some []) (.loop [.s 8] (.seq (.reg 0 [] [] []) (.seq (.cond none (.no) (.no)) (.seq (.blk none (.seq (.reg 0 [] [] []) (.seq (.reg 0 [] [] []) (.cond none (.seq (.reg 0 [] [] []) (.no)) (.no))))) (.reg 0 [] [] []))))))) (.seq (.reg 0 [] [] []) (.no)))
noncomputable def sem_slices_IndexFunc_api_Table_api_Rule (E : FuncId → List V → Option V) (n : Nat) (xs : List V) : Option V := if xs.length ≤ 19 then denF Try.prog (envJ [] E) n Try.f44 an_slices_IndexFunc_api_Table_api_Rule xs else none
theorem ok_slices_IndexFunc_api_Table_api_Rule {E : FuncId → List V → Option V} (hE : EnvOk Try.prog DW E) (n : Nat) : SemOk Try.prog DW 44 (sem_slices_IndexFunc_api_Table_api_Rule E n) := fun xs y h => by
  unfold sem_slices_IndexFunc_api_Table_api_Rule at h
  split at h
  · rename_i hl
    exact denF_ok stb Try.func44 (by kernel_rfl) (envJ_ok semsOk_nil hE) (by rw [Try.ntmps44]; exact hl) h
  · cases h
theorem eq_slices_IndexFunc_api_Table_api_Rule (E : FuncId → List V → Option V) (n : Nat) (x0 x1 : V) : sem_slices_IndexFunc_api_Table_api_Rule E n [x0, x1] =
 (lenS [x0]).bind fun v1 =>
 JoinPt (fun vs2 =>
 some (vi (-1 : Int))) fun J3 =>
 (fixN (fun rec4 vs5 =>
 (bin2 Try.prog BinOp.lss 3 (ot 8) (ot 7) (List.getD vs5 0 V.any) v1).bind fun v6 =>
 condV v6 (
 (idxS 6 x0 (List.getD vs5 0 V.any)).bind fun v7 =>
 (ldp (some 6) v7).bind fun v8 =>
 (callV (envJ [] E) x1 [v8]).bind fun v9 =>
 condV v9 (
 some (List.getD vs5 0 V.any)) (
 (bin2 Try.prog BinOp.add 3 (ot 8) (oc 1) (List.getD vs5 0 V.any) (vi 1)).bind fun v10 =>
 rec4 [v10])) (
 J3 [])) n) [(vi 0)] := by kernel_rfl
noncomputable def t_slices_IndexFunc_api_Table_api_Rule (a0 : (List T_Rule)) (g1 : T_Rule → Option Bool) : Option Int :=
 join (fun (s4 : Unit) =>
 some (-1 : Int)) fun j5 =>
 loopI a0 (fun (i13 : Int) x14 (s9 : Unit) k10 =>
 (g1 x14).bind fun r22 =>
 if r22 = true then (
 some i13) else (
 k10 ())) (fun (s9 : Unit) =>
 j5 ()) ()
theorem ty_slices_IndexFunc_api_Table_api_Rule {E : FuncId → List V → Option V} {n : Nat} (hn : bigN ≤ n) (a0 : (List T_Rule)) {x1 : V} {g1 : T_Rule → Option Bool} (hg_g1 : ∀ a0, Rv (fun x : Bool => (vb x)) (callV E x1 [(T_Rule.e a0)]) (g1 a0)) : Rv (fun x : Int => (vi x)) (sem_slices_IndexFunc_api_Table_api_Rule E n [(V.sl (List.map T_Rule.c a0)), x1]) (t_slices_IndexFunc_api_Table_api_Rule a0 g1) := by
  rw [eq_slices_IndexFunc_api_Table_api_Rule]
  unfold t_slices_IndexFunc_api_Table_api_Rule
  refine tb (x := (vi (List.length a0 : Int))) (p_len _) ?_
  refine tjoin (mk := fun s4 : Unit => []) (fun s4 => ?_) fun J3 j5 h6 => ?_
  · exact rf_ret rfl
  · refine rf_loopI (mk := fun (i13 : Int) (s9 : Unit) => [(vi (i13 : Int))]) hn a0 () (fun i13 x14 h15 h16 h17 s9 rec7 k10 h11 => ?_) (fun s9 rec26 h25 => ?_)
    · refine tb (x := (vb (decide ((i13 : Int) < (List.length a0 : Int))))) (d_lss) ?_
      refine tcond_t h17 ?_
      refine tb (x := (V.ptr (T_Rule.c x14))) (p_idx_at (c := T_Rule.c) (fun _ => rfl) h15) ?_
      refine tb (x := (T_Rule.e x14)) (rfl) ?_
      refine tbo ((callV_J0 ▸ hg_g1 x14)) fun r22 => ?_
      refine tcond (fun h23 => ?_) (fun h23 => ?_)
      · exact rf_ret rfl
      · refine tb (x := (vi ((i13 : Int) + 1))) (p_incN h16) ?_
        exact h11 ()
    · refine tb (x := (vb (decide ((List.length a0 : Int) < (List.length a0 : Int))))) (d_lss) ?_
      refine tcond_f h25 ?_
      exact h6 ()

/-! slices.ContainsFunc railpoint/api.Table railpoint/api.Rule  -/
def an_slices_ContainsFunc_api_Table_api_Rule : Ann := .seq (.reg 0 [] [] []) (.seq (.reg 0 [] [] []) (.no))
noncomputable def sem_slices_ContainsFunc_api_Table_api_Rule (E : FuncId → List V → Option V) (n : Nat) (xs : List V) : Option V := if xs.length ≤ 9 then denF Try.prog (envJ [(44, (sem_slices_IndexFunc_api_Table_api_Rule E n))] E) n Try.f30 an_slices_ContainsFunc_api_Table_api_Rule xs else none
theorem ok_slices_ContainsFunc_api_Table_api_Rule {E : FuncId → List V → Option V} (hE : EnvOk Try.prog DW E) (n : Nat) : SemOk Try.prog DW 30 (sem_slices_ContainsFunc_api_Table_api_Rule E n) := fun xs y h => by
  unfold sem_slices_ContainsFunc_api_Table_api_Rule at h
  split at h
  · rename_i hl
    exact denF_ok stb Try.func30 (by kernel_rfl) (envJ_ok (semsOk_cons (ok_slices_IndexFunc_api_Table_api_Rule hE n) semsOk_nil) hE) (by rw [Try.ntmps30]; exact hl) h
  · cases h
theorem eq_slices_ContainsFunc_api_Table_api_Rule (E : FuncId → List V → Option V) (n : Nat) (x0 x1 : V) : sem_slices_ContainsFunc_api_Table_api_Rule E n [x0, x1] =
 ((sem_slices_IndexFunc_api_Table_api_Rule E n) [x0, x1]).bind fun v1 =>
 (bin2 Try.prog BinOp.geq 3 (ot 7) (oc 0) v1 (vi 0)).bind fun v2 =>
 some v2 := by kernel_rfl
noncomputable def t_slices_ContainsFunc_api_Table_api_Rule (a0 : (List T_Rule)) (g1 : T_Rule → Option Bool) : Option Bool :=
 (t_slices_IndexFunc_api_Table_api_Rule a0 g1).bind fun r2 =>
 some (decide (0 ≤ r2))
theorem ty_slices_ContainsFunc_api_Table_api_Rule {E : FuncId → List V → Option V} {n : Nat} (hn : bigN ≤ n) (a0 : (List T_Rule)) {x1 : V} {g1 : T_Rule → Option Bool} (hg_g1 : ∀ a0, Rv (fun x : Bool => (vb x)) (callV E x1 [(T_Rule.e a0)]) (g1 a0)) : Rv (fun x : Bool => (vb x)) (sem_slices_ContainsFunc_api_Table_api_Rule E n [(V.sl (List.map T_Rule.c a0)), x1]) (t_slices_ContainsFunc_api_Table_api_Rule a0 g1) := by
  rw [eq_slices_ContainsFunc_api_Table_api_Rule]
  unfold t_slices_ContainsFunc_api_Table_api_Rule
  refine tbo (ty_slices_IndexFunc_api_Table_api_Rule (E := E) (x1 := x1) (g1 := g1) hn a0 hg_g1) fun r2 => ?_
  refine tb (x := (vb (decide (0 ≤ r2)))) (d_geq) ?_
  exact rf_ret rfl

/-! railpoint/rule.Key -/
def an_rule_Key : Ann := .seq (.reg 0 [] [] []) (.seq (.reg 0 [] [] []) (.no))
noncomputable def sem_rule_Key (n : Nat) (xs : List V) : Option V := if xs.length ≤ 17 then denF Try.prog (envOf []) n Try.f32 an_rule_Key xs else none
theorem ok_rule_Key (n : Nat) : SemOk Try.prog DW 32 (sem_rule_Key n) := fun xs y h => by
  unfold sem_rule_Key at h
  split at h
  · rename_i hl
    exact denF_ok stb Try.func32 (by kernel_rfl) (envOf_ok semsOk_nil) (by rw [Try.ntmps32]; exact hl) h
  · cases h
theorem eq_rule_Key (n : Nat) (x0 x1 : V) : sem_rule_Key n [x0, x1] =
 (V.cellsO x0).bind fun v1 =>
 (V.cellsO x1).bind fun v2 =>
 (ldk none (List.drop 0 v1)).bind fun v3 =>
 (ldk none (List.drop 0 v2)).bind fun v4 =>
 (bin2 Try.prog BinOp.eql 3 (ot 6) (ot 8) v3 v4).bind fun v5 =>
 (guardV v5 true (some V.any)).bind fun v6 =>
 (guardV v5 true ((gate v5 true (ldk (some 2) (List.drop 1 v1))).bind fun v7 =>
 some v7)).bind fun v8 =>
 (guardV v5 true (some V.any)).bind fun v9 =>
 (guardV v5 true ((gate v5 true (ldk (some 2) (List.drop 1 v2))).bind fun v10 =>
 some v10)).bind fun v11 =>
 (guardV v5 true ((bin2 Try.prog BinOp.eql 34 (ot 12) (ot 14) v8 v11).bind fun v12 =>
 some v12)).bind fun v13 =>
 (pickV v5 v13 (vb false)).bind fun v14 =>
 some v14 := by kernel_rfl
noncomputable def t_rule_Key (a0 : T_Rule) (a1 : T_Rule) : Option Bool :=
 some ((decide (a0.Prio = a1.Prio)) && (decide (a0.Cube = a1.Cube)))
theorem ty_rule_Key {n : Nat} (hn : bigN ≤ n) (a0 : T_Rule) (a1 : T_Rule) : Rv (fun x : Bool => (vb x)) (sem_rule_Key n [(T_Rule.e a0), (T_Rule.e a1)]) (t_rule_Key a0 a1) := by
  rw [eq_rule_Key]
  unfold t_rule_Key
  refine tb (x := (T_Rule.c a0)) rfl ?_
  refine tb (x := (T_Rule.c a1)) rfl ?_
  refine tb (x := (vi a0.Prio)) (rfl) ?_
  refine tb (x := (vi a1.Prio)) (rfl) ?_
  refine tb (x := (vb (decide (a0.Prio = a1.Prio)))) (d_eql) ?_
  refine tg (x := V.any) (fun h6 => rfl) ?_
  refine tg (x := (T_Cube.e a0.Cube)) (fun h8 => bind_some_eq (gate_pos h8 (rfl))) ?_
  refine tg (x := V.any) (fun h11 => rfl) ?_
  refine tg (x := (T_Cube.e a1.Cube)) (fun h13 => bind_some_eq (gate_pos h13 (rfl))) ?_
  refine tg (x := (vb (decide (a0.Cube = a1.Cube)))) (fun h16 => by simp only [gv_t h16]; exact bind_some_eq (T_Cube.eql a0.Cube a1.Cube)) ?_
  refine tb (x := (vb ((decide (a0.Prio = a1.Prio)) && (decide (a0.Cube = a1.Cube))))) (pick_and (fun h9 => gv_t h9)) ?_
  exact rf_ret rfl

/-! railpoint/rule.Table$1 -/
def an_rule_Table_1 : Ann := .seq (.reg 0 [] [] []) (.seq (.reg 0 [] [] []) (.no))
noncomputable def sem_rule_Table_1 (n : Nat) (xs : List V) : Option V := if xs.length ≤ 7 then denF Try.prog (envOf [(32, (sem_rule_Key n))]) n Try.f41 an_rule_Table_1 xs else none
theorem ok_rule_Table_1 (n : Nat) : SemOk Try.prog DW 41 (sem_rule_Table_1 n) := fun xs y h => by
  unfold sem_rule_Table_1 at h
  split at h
  · rename_i hl
    exact denF_ok stb Try.func41 (by kernel_rfl) (envOf_ok (semsOk_cons (ok_rule_Key n) semsOk_nil)) (by rw [Try.ntmps41]; exact hl) h
  · cases h
theorem eq_rule_Table_1 (n : Nat) (x0 x1 : V) : sem_rule_Table_1 n [x0, x1] =
 (V.cellsO x0).bind fun v1 =>
 (ldk (some 6) (List.drop 0 v1)).bind fun v2 =>
 (ldp (some 6) x1).bind fun v3 =>
 ((sem_rule_Key n) [v2, v3]).bind fun v4 =>
 some v4 := by kernel_rfl
noncomputable def t_rule_Table_1 (a0 : T_Rule) (a1 : T_Rule) : Option Bool :=
 (t_rule_Key a0 a1).bind fun r5 =>
 some r5
theorem ty_rule_Table_1 {n : Nat} (hn : bigN ≤ n) (a0 : T_Rule) (a1 : T_Rule) : Rv (fun x : Bool => (vb x)) (sem_rule_Table_1 n [(T_Rule.e a0), (V.ptr (T_Rule.c a1))]) (t_rule_Table_1 a0 a1) := by
  rw [eq_rule_Table_1]
  unfold t_rule_Table_1
  refine tb (x := (T_Rule.c a0)) rfl ?_
  refine tb (x := (T_Rule.e a0)) (rfl) ?_
  refine tb (x := (T_Rule.e a1)) (rfl) ?_
  refine tbo (ty_rule_Key hn a0 a1) fun r5 => ?_
  exact rf_ret rfl

/-! railpoint/rule.Table -/
def an_rule_Table : Ann := .seq (.reg 0 [] [] []) (.seq (.seq (.reg 0 [] [] []) (.cond none (.seq (.reg 0 [] [] []) (.no)) (.no))) (.seq (.seq (.reg 0 [] [] []) (.blk (some []) (.loop [.s 12] (.seq (.reg 0 [] [] []) (.seq (.cond none (.no) (.no)) (.seq (.blk none (.seq (.reg 0 [] [] []) (.seq (.seq (.reg 0 [4] [] []) (.seq (.reg 0 [] [] []) (.cond none (.seq (.reg 0 [] [] []) (.no)) (.no)))) (.seq (.reg 0 [] [] []) (.cond none (.seq (.reg 0 [] [] []) (.no)) (.no)))))) (.reg 0 [] [] []))))))) (.seq (.reg 0 [] [] []) (.no))))
noncomputable def sem_rule_Table (n : Nat) (xs : List V) : Option V := if xs.length ≤ 29 then denF Try.prog (envOf [(28, (sem_rule_Check n)), (30, (sem_slices_ContainsFunc_api_Table_api_Rule (envOf [(41, (sem_rule_Table_1 n))]) n)), (41, (sem_rule_Table_1 n))]) n Try.f23 an_rule_Table xs else none
theorem ok_rule_Table (n : Nat) : SemOk Try.prog DW 23 (sem_rule_Table n) := fun xs y h => by
  unfold sem_rule_Table at h
  split at h
  · rename_i hl
    exact denF_ok stb Try.func23 (by kernel_rfl) (envOf_ok (semsOk_cons (ok_rule_Check n) (semsOk_cons (ok_slices_ContainsFunc_api_Table_api_Rule (envOf_ok (semsOk_cons (ok_rule_Table_1 n) semsOk_nil)) n) (semsOk_cons (ok_rule_Table_1 n) semsOk_nil)))) (by rw [Try.ntmps23]; exact hl) h
  · cases h
theorem eq_rule_Table (n : Nat) (x0 : V) : sem_rule_Table n [x0] =
 (lenS [x0]).bind fun v1 =>
 (bin2 Try.prog BinOp.gtr 3 (ot 7) (oc 12) v1 (vi 12)).bind fun v2 =>
 condV v2 (
 (scal1 Try.prog (Instr.makeInterface 66) (vi 4)).bind fun v3 =>
 some v3) (
 (lenS [x0]).bind fun v4 =>
 JoinPt (fun vs5 =>
 some vn) fun J6 =>
 (fixN (fun rec7 vs8 =>
 (bin2 Try.prog BinOp.lss 3 (ot 12) (ot 11) (List.getD vs8 0 V.any) v4).bind fun v9 =>
 condV v9 (
 (idxS 6 x0 (List.getD vs8 0 V.any)).bind fun v10 =>
 (ldp (some 6) v10).bind fun v11 =>
 (spliceV [(vi 0), (vi 0), (vi 0), (vi 0), (vi 0), (vi 0)] 0 6 v11).bind fun v12 =>
 (ldp (some 6) (V.ptr (aggL v12))).bind fun v13 =>
 ((sem_rule_Check n) [v13]).bind fun v14 =>
 (bin2 Try.prog BinOp.neq 41 (ot 19) (Operand.const Go.Value.nilIface) v14 vn).bind fun v15 =>
 condV v15 (
 some v14) (
 (slc (some 6) x0 none (some (List.getD vs8 0 V.any))).bind fun v16 =>
 ((sem_slices_ContainsFunc_api_Table_api_Rule (envOf [(41, (sem_rule_Table_1 n))]) n) [v16, (V.fn 41 [(V.ptr (aggL v12))])]).bind fun v17 =>
 condV v17 (
 (scal1 Try.prog (Instr.makeInterface 66) (vi 7)).bind fun v18 =>
 some v18) (
 (bin2 Try.prog BinOp.add 3 (ot 12) (oc 1) (List.getD vs8 0 V.any) (vi 1)).bind fun v19 =>
 rec7 [v19]))) (
 J6 [])) n) [(vi 0)]) := by kernel_rfl
noncomputable def t_rule_Table (a0 : (List T_Rule)) : Option Int :=
 if (decide (12 < (List.length a0 : Int))) = true then (
 some 4) else (
 join (fun (s8 : Unit) =>
 some 0) fun j9 =>
 loopI a0 (fun (i17 : Int) x18 (s13 : Unit) k14 =>
 (t_rule_Check x18).bind fun r28 =>
 if (!decide (r28 = 0)) = true then (
 some r28) else (
 (slc_hi a0 i17).bind fun r32 =>
 (t_slices_ContainsFunc_api_Table_api_Rule r32 (fun (a33 : T_Rule) => t_rule_Table_1 a33 x18)).bind fun r35 =>
 if r35 = true then (
 some 7) else (
 k14 ()))) (fun (s13 : Unit) =>
 j9 ()) ())
theorem ty_rule_Table {n : Nat} (hn : bigN ≤ n) (a0 : (List T_Rule)) : Rv (fun x : Int => (eV x)) (sem_rule_Table n [(V.sl (List.map T_Rule.c a0))]) (t_rule_Table a0) := by
  rw [eq_rule_Table]
  unfold t_rule_Table
  refine tb (x := (vi (List.length a0 : Int))) (p_len _) ?_
  refine tb (x := (vb (decide (12 < (List.length a0 : Int))))) (d_gtr) ?_
  refine tcond (fun h3 => ?_) (fun h3 => ?_)
  · refine tb (x := (eV 4)) (p_mkE (by decide)) ?_
    exact rf_ret rfl
  · refine tb (x := (vi (List.length a0 : Int))) (p_len _) ?_
    refine tjoin (mk := fun s8 : Unit => []) (fun s8 => ?_) fun J7 j9 h10 => ?_
    · exact rf_ret rfl
    · refine rf_loopI (mk := fun (i17 : Int) (s13 : Unit) => [(vi (i17 : Int))]) hn a0 () (fun i17 x18 h19 h20 h21 s13 rec11 k14 h15 => ?_) (fun s13 rec40 h39 => ?_)
      · refine tb (x := (vb (decide ((i17 : Int) < (List.length a0 : Int))))) (d_lss) ?_
        refine tcond_t h21 ?_
        refine tb (x := (V.ptr (T_Rule.c x18))) (p_idx_at (c := T_Rule.c) (fun _ => rfl) h19) ?_
        refine tb (x := (T_Rule.e x18)) (rfl) ?_
        refine tb (x := V.agg (T_Rule.c x18)) (by kernel_rfl) ?_
        refine tb (x := (T_Rule.e x18)) (rfl) ?_
        refine tbo (ty_rule_Check hn x18) fun r28 => ?_
        refine tb (x := (vb (!decide (r28 = 0)))) (p_err_neq _) ?_
        refine tcond (fun h30 => ?_) (fun h30 => ?_)
        · exact rf_ret rfl
        · refine tbo (p_slc_hi (c := T_Rule.c) (fun _ => rfl) a0 (i17 : Int)) fun r32 => ?_
          refine tbo (ty_slices_ContainsFunc_api_Table_api_Rule (E := (envOf [(41, (sem_rule_Table_1 n))])) (x1 := (V.fn 41 [(V.ptr (T_Rule.c x18))])) (g1 := (fun (a33 : T_Rule) => t_rule_Table_1 a33 x18)) hn r32 (fun a33 => ty_rule_Table_1 hn a33 x18)) fun r35 => ?_
          refine tcond (fun h36 => ?_) (fun h36 => ?_)
          · refine tb (x := (eV 7)) (p_mkE (by decide)) ?_
            exact rf_ret rfl
          · refine tb (x := (vi ((i17 : Int) + 1))) (p_incN h20) ?_
            exact h15 ()
      · refine tb (x := (vb (decide ((List.length a0 : Int) < (List.length a0 : Int))))) (d_lss) ?_
        refine tcond_f h39 ?_
        exact h10 ()

/-! railpoint/net.Check -/
def an_net_Check : Ann := .seq (.reg 0 [] [] []) (.seq (.seq (.reg 0 [] [] []) (.seq (.reg 0 [] [] []) (.cond none (.seq (.reg 0 [] [] []) (.no)) (.no)))) (.seq (.seq (.reg 0 [] [] []) (.cond none (.seq (.reg 0 [] [] []) (.no)) (.no))) (.seq (.seq (.reg 0 [] [] []) (.blk (some []) (.loop [.s 24] (.seq (.reg 0 [] [] []) (.seq (.cond none (.no) (.no)) (.seq (.blk none (.seq (.reg 0 [] [] []) (.seq (.reg 0 [] [] []) (.seq (.reg 0 [] [] []) (.cond none (.seq (.reg 0 [] [] []) (.no)) (.no)))))) (.reg 0 [] [] []))))))) (.seq (.reg 0 [] [] []) (.no)))))
noncomputable def sem_net_Check (n : Nat) (xs : List V) : Option V := if xs.length ≤ 34 then denF Try.prog (envOf [(22, (sem_topo_Check n)), (23, (sem_rule_Table n))]) n Try.f11 an_net_Check xs else none
theorem ok_net_Check (n : Nat) : SemOk Try.prog DW 11 (sem_net_Check n) := fun xs y h => by
  unfold sem_net_Check at h
  split at h
  · rename_i hl
    exact denF_ok stb Try.func11 (by kernel_rfl) (envOf_ok (semsOk_cons (ok_topo_Check n) (semsOk_cons (ok_rule_Table n) semsOk_nil))) (by rw [Try.ntmps11]; exact hl) h
  · cases h
theorem eq_net_Check (n : Nat) (x0 : V) : sem_net_Check n [x0] =
 (V.cellsO x0).bind fun v1 =>
 (ldk (some 3) (List.drop 0 v1)).bind fun v2 =>
 ((sem_topo_Check n) [v2]).bind fun v3 =>
 (bin2 Try.prog BinOp.neq 41 (ot 10) (Operand.const Go.Value.nilIface) v3 vn).bind fun v4 =>
 condV v4 (
 some v3) (
 (ldk none (List.drop 3 v1)).bind fun v5 =>
 (lenS [v5]).bind fun v6 =>
 (ldk none (List.drop 0 v1)).bind fun v7 =>
 (bin2 Try.prog BinOp.neq 3 (ot 15) (ot 18) v6 v7).bind fun v8 =>
 condV v8 (
 (scal1 Try.prog (Instr.makeInterface 66) (vi 3)).bind fun v9 =>
 some v9) (
 (ldk none (List.drop 3 v1)).bind fun v10 =>
 (lenS [v10]).bind fun v11 =>
 JoinPt (fun vs12 =>
 some vn) fun J13 =>
 (fixN (fun rec14 vs15 =>
 (bin2 Try.prog BinOp.lss 3 (ot 24) (ot 23) (List.getD vs15 0 V.any) v11).bind fun v16 =>
 condV v16 (
 (idxS 1 v10 (List.getD vs15 0 V.any)).bind fun v17 =>
 (ldp none v17).bind fun v18 =>
 ((sem_rule_Table n) [v18]).bind fun v19 =>
 (bin2 Try.prog BinOp.neq 41 (ot 30) (Operand.const Go.Value.nilIface) v19 vn).bind fun v20 =>
 condV v20 (
 some v19) (
 (bin2 Try.prog BinOp.add 3 (ot 24) (oc 1) (List.getD vs15 0 V.any) (vi 1)).bind fun v21 =>
 rec14 [v21])) (
 J13 [])) n) [(vi 0)])) := by kernel_rfl
noncomputable def t_net_Check (a0 : T_Net) : Option Int :=
 (t_topo_Check a0.Topo).bind fun r4 =>
 if (!decide (r4 = 0)) = true then (
 some r4) else (
 if (decide ((List.length a0.Tables : Int) ≠ a0.Topo.Switches)) = true then (
 some 3) else (
 join (fun (s17 : Unit) =>
 some 0) fun j18 =>
 loopI a0.Tables (fun (i26 : Int) x27 (s22 : Unit) k23 =>
 (t_rule_Table x27).bind fun r35 =>
 if (!decide (r35 = 0)) = true then (
 some r35) else (
 k23 ())) (fun (s22 : Unit) =>
 j18 ()) ()))
theorem ty_net_Check {n : Nat} (hn : bigN ≤ n) (a0 : T_Net) : Rv (fun x : Int => (eV x)) (sem_net_Check n [(T_Net.e a0)]) (t_net_Check a0) := by
  rw [eq_net_Check]
  unfold t_net_Check
  refine tb (x := (T_Net.c a0)) rfl ?_
  refine tb (x := (T_Topo.e a0.Topo)) (rfl) ?_
  refine tbo (ty_topo_Check hn a0.Topo) fun r4 => ?_
  refine tb (x := (vb (!decide (r4 = 0)))) (p_err_neq _) ?_
  refine tcond (fun h6 => ?_) (fun h6 => ?_)
  · exact rf_ret rfl
  · refine tb (x := (V.sl (List.map (cS T_Rule.c) a0.Tables))) (rfl) ?_
    refine tb (x := (vi (List.length a0.Tables : Int))) (p_len _) ?_
    refine tb (x := (vi a0.Topo.Switches)) (rfl) ?_
    refine tb (x := (vb (decide ((List.length a0.Tables : Int) ≠ a0.Topo.Switches)))) (d_neq) ?_
    refine tcond (fun h11 => ?_) (fun h11 => ?_)
    · refine tb (x := (eV 3)) (p_mkE (by decide)) ?_
      exact rf_ret rfl
    · refine tb (x := (V.sl (List.map (cS T_Rule.c) a0.Tables))) (rfl) ?_
      refine tb (x := (vi (List.length a0.Tables : Int))) (p_len _) ?_
      refine tjoin (mk := fun s17 : Unit => []) (fun s17 => ?_) fun J16 j18 h19 => ?_
      · exact rf_ret rfl
      · refine rf_loopI (mk := fun (i26 : Int) (s22 : Unit) => [(vi (i26 : Int))]) hn a0.Tables () (fun i26 x27 h28 h29 h30 s22 rec20 k23 h24 => ?_) (fun s22 rec40 h39 => ?_)
        · refine tb (x := (vb (decide ((i26 : Int) < (List.length a0.Tables : Int))))) (d_lss) ?_
          refine tcond_t h30 ?_
          refine tb (x := (V.ptr [(V.sl (List.map T_Rule.c x27))])) (p_idx_at (c := (cS T_Rule.c)) (fun _ => rfl) h28) ?_
          refine tb (x := (V.sl (List.map T_Rule.c x27))) (rfl) ?_
          refine tbo (ty_rule_Table hn x27) fun r35 => ?_
          refine tb (x := (vb (!decide (r35 = 0)))) (p_err_neq _) ?_
          refine tcond (fun h37 => ?_) (fun h37 => ?_)
          · exact rf_ret rfl
          · refine tb (x := (vi ((i26 : Int) + 1))) (p_incN h29) ?_
            exact h24 ()
        · refine tb (x := (vb (decide ((List.length a0.Tables : Int) < (List.length a0.Tables : Int))))) (d_lss) ?_
          refine tcond_f h39 ?_
          exact h19 ()

/-! railpoint/net.Begin -/
def an_net_Begin : Ann := .seq (.reg 0 [] [] []) (.seq (.reg 0 [] [] []) (.no))
noncomputable def sem_net_Begin (n : Nat) (xs : List V) : Option V := if xs.length ≤ 10 then denF Try.prog (envOf []) n Try.f37 an_net_Begin xs else none
theorem ok_net_Begin (n : Nat) : SemOk Try.prog DW 37 (sem_net_Begin n) := fun xs y h => by
  unfold sem_net_Begin at h
  split at h
  · rename_i hl
    exact denF_ok stb Try.func37 (by kernel_rfl) (envOf_ok semsOk_nil) (by rw [Try.ntmps37]; exact hl) h
  · cases h
theorem eq_net_Begin (n : Nat) (x0 x1 : V) : sem_net_Begin n [x0, x1] =
 (V.cellsO x0).bind fun v1 =>
 (ldk (some 2) (List.drop 0 v1)).bind fun v2 =>
 ((fillL [(vi 0), (vi 0), (vi 0)] [(0, 2, v2), (2, 1, x1)]).map V.agg).bind fun v3 =>
 (slcB 3 1 [(vi 0), (vi 0), (vi 0)] [(0, v3)]).bind fun v4 =>
 ((fillL [(vi 0), (V.lit (Go.Value.string (ByteArray.mk #[]))), (V.sl [])] [(2, 1, v4)]).map V.agg).bind fun v5 =>
 (spliceV [(vi 0), (V.lit (Go.Value.string (ByteArray.mk #[]))), (V.sl [])] 0 3 v5).bind fun v6 =>
 (ldk (some 3) (List.drop 0 (aggL v6))).bind fun v7 =>
 some v7 := by kernel_rfl
noncomputable def t_net_Begin (a0 : T_Spot) (a1 : Int) : Option T_Fate :=
 some (T_Fate.mk 0 (ByteArray.mk #[]) ([(T_Hop.mk a0 a1)] : (List T_Hop)))
theorem ty_net_Begin {n : Nat} (hn : bigN ≤ n) (a0 : T_Spot) (a1 : Int) : Rv (fun x : T_Fate => (T_Fate.e x)) (sem_net_Begin n [(T_Spot.e a0), (vi a1)]) (t_net_Begin a0 a1) := by
  rw [eq_net_Begin]
  unfold t_net_Begin
  refine tb (x := (T_Spot.c a0)) rfl ?_
  refine tb (x := (T_Spot.e a0)) (rfl) ?_
  refine tb (x := (T_Hop.e (T_Hop.mk a0 a1))) (by kernel_rfl) ?_
  refine tb (x := (V.sl (List.map T_Hop.c ([(T_Hop.mk a0 a1)] : (List T_Hop))))) (by kernel_rfl) ?_
  refine tb (x := (T_Fate.e (T_Fate.mk 0 (ByteArray.mk #[]) ([(T_Hop.mk a0 a1)] : (List T_Hop))))) (by kernel_rfl) ?_
  refine tb (x := V.agg (T_Fate.c (T_Fate.mk 0 (ByteArray.mk #[]) ([(T_Hop.mk a0 a1)] : (List T_Hop))))) (by kernel_rfl) ?_
  refine tb (x := (T_Fate.e (T_Fate.mk 0 (ByteArray.mk #[]) ([(T_Hop.mk a0 a1)] : (List T_Hop))))) rfl ?_
  exact rf_ret rfl

/-! cmp.isNaN int  -/
def an_cmp_isNaN_int : Ann := .seq (.reg 0 [] [] []) (.seq (.reg 0 [] [] []) (.no))
noncomputable def sem_cmp_isNaN_int (n : Nat) (xs : List V) : Option V := if xs.length ≤ 6 then denF Try.prog (envOf []) n Try.f54 an_cmp_isNaN_int xs else none
theorem ok_cmp_isNaN_int (n : Nat) : SemOk Try.prog DW 54 (sem_cmp_isNaN_int n) := fun xs y h => by
  unfold sem_cmp_isNaN_int at h
  split at h
  · rename_i hl
    exact denF_ok stb Try.func54 (by kernel_rfl) (envOf_ok semsOk_nil) (by rw [Try.ntmps54]; exact hl) h
  · cases h
theorem eq_cmp_isNaN_int (n : Nat) (x0 : V) : sem_cmp_isNaN_int n [x0] =
 (bin2 Try.prog BinOp.neq 3 (ot 3) (ot 4) x0 x0).bind fun v1 =>
 some v1 := by kernel_rfl
noncomputable def t_cmp_isNaN_int (a0 : Int) : Option Bool :=
 some (decide (a0 ≠ a0))
theorem ty_cmp_isNaN_int {n : Nat} (hn : bigN ≤ n) (a0 : Int) : Rv (fun x : Bool => (vb x)) (sem_cmp_isNaN_int n [(vi a0)]) (t_cmp_isNaN_int a0) := by
  rw [eq_cmp_isNaN_int]
  unfold t_cmp_isNaN_int
  refine tb (x := (vb (decide (a0 ≠ a0)))) (d_neq) ?_
  exact rf_ret rfl

/-! cmp.Compare int  -/
def an_cmp_Compare_int : Ann := .seq (.reg 0 [] [] []) (.seq (.reg 0 [] [] []) (.seq (.reg 0 [] [] []) (.seq (.seq (.reg 0 [] [] []) (.cond none (.seq (.seq (.reg 0 [] [] []) (.cond none (.seq (.reg 0 [] [] []) (.no)) (.no))) (.seq (.reg 0 [] [] []) (.no))) (.no))) (.seq (.seq (.reg 0 [] [] []) (.cond none (.seq (.reg 0 [] [] []) (.no)) (.no))) (.seq (.seq (.reg 0 [] [] []) (.cond none (.seq (.reg 0 [] [] []) (.no)) (.no))) (.seq (.seq (.reg 0 [] [] []) (.cond none (.seq (.reg 0 [] [] []) (.no)) (.no))) (.seq (.reg 0 [] [] []) (.no))))))))
noncomputable def sem_cmp_Compare_int (n : Nat) (xs : List V) : Option V := if xs.length ≤ 20 then denF Try.prog (envOf [(54, (sem_cmp_isNaN_int n))]) n Try.f51 an_cmp_Compare_int xs else none
theorem ok_cmp_Compare_int (n : Nat) : SemOk Try.prog DW 51 (sem_cmp_Compare_int n) := fun xs y h => by
  unfold sem_cmp_Compare_int at h
  split at h
  · rename_i hl
    exact denF_ok stb Try.func51 (by kernel_rfl) (envOf_ok (semsOk_cons (ok_cmp_isNaN_int n) semsOk_nil)) (by rw [Try.ntmps51]; exact hl) h
  · cases h
theorem eq_cmp_Compare_int (n : Nat) (x0 x1 : V) : sem_cmp_Compare_int n [x0, x1] =
 ((sem_cmp_isNaN_int n) [x0]).bind fun v1 =>
 ((sem_cmp_isNaN_int n) [x1]).bind fun v2 =>
 condV v1 (
 condV v2 (
 some (vi 0)) (
 some (vi (-1 : Int)))) (
 condV v2 (
 some (vi 1)) (
 (bin2 Try.prog BinOp.lss 3 (ot 14) (ot 15) x0 x1).bind fun v3 =>
 condV v3 (
 some (vi (-1 : Int))) (
 (bin2 Try.prog BinOp.gtr 3 (ot 17) (ot 18) x0 x1).bind fun v4 =>
 condV v4 (
 some (vi 1)) (
 some (vi 0))))) := by kernel_rfl
noncomputable def t_cmp_Compare_int (a0 : Int) (a1 : Int) : Option Int :=
 (t_cmp_isNaN_int a0).bind fun r2 =>
 (t_cmp_isNaN_int a1).bind fun r4 =>
 if r2 = true then (
 if r4 = true then (
 some 0) else (
 some (-1 : Int))) else (
 if r4 = true then (
 some 1) else (
 if (decide (a0 < a1)) = true then (
 some (-1 : Int)) else (
 if (decide (a1 < a0)) = true then (
 some 1) else (
 some 0))))
theorem ty_cmp_Compare_int {n : Nat} (hn : bigN ≤ n) (a0 : Int) (a1 : Int) : Rv (fun x : Int => (vi x)) (sem_cmp_Compare_int n [(vi a0), (vi a1)]) (t_cmp_Compare_int a0 a1) := by
  rw [eq_cmp_Compare_int]
  unfold t_cmp_Compare_int
  refine tbo (ty_cmp_isNaN_int hn a0) fun r2 => ?_
  refine tbo (ty_cmp_isNaN_int hn a1) fun r4 => ?_
  refine tcond (fun h5 => ?_) (fun h5 => ?_)
  · refine tcond (fun h6 => ?_) (fun h6 => ?_)
    · exact rf_ret rfl
    · exact rf_ret rfl
  · refine tcond (fun h7 => ?_) (fun h7 => ?_)
    · exact rf_ret rfl
    · refine tb (x := (vb (decide (a0 < a1)))) (d_lss) ?_
      refine tcond (fun h9 => ?_) (fun h9 => ?_)
      · exact rf_ret rfl
      · refine tb (x := (vb (decide (a1 < a0)))) (d_gtr) ?_
        refine tcond (fun h11 => ?_) (fun h11 => ?_)
        · exact rf_ret rfl
        · exact rf_ret rfl

/-! cmp.Or int  -/
def an_cmp_Or_int : Ann := .seq (.reg 0 [] [] []) (.seq (.reg 0 [] [] []) (.seq (.seq (.reg 0 [] [] []) (.blk (some []) (.loop [.s 8] (.seq (.reg 0 [] [] []) (.seq (.cond none (.no) (.no)) (.seq (.blk none (.seq (.reg 0 [] [] []) (.seq (.reg 0 [] [] []) (.cond none (.seq (.reg 0 [] [] []) (.no)) (.no))))) (.reg 0 [] [] []))))))) (.seq (.reg 0 [] [] []) (.no))))
noncomputable def sem_cmp_Or_int (n : Nat) (xs : List V) : Option V := if xs.length ≤ 18 then denF Try.prog (envOf []) n Try.f50 an_cmp_Or_int xs else none
theorem ok_cmp_Or_int (n : Nat) : SemOk Try.prog DW 50 (sem_cmp_Or_int n) := fun xs y h => by
  unfold sem_cmp_Or_int at h
  split at h
  · rename_i hl
    exact denF_ok stb Try.func50 (by kernel_rfl) (envOf_ok semsOk_nil) (by rw [Try.ntmps50]; exact hl) h
  · cases h
theorem eq_cmp_Or_int (n : Nat) (x0 : V) : sem_cmp_Or_int n [x0] =
 (lenS [x0]).bind fun v1 =>
 JoinPt (fun vs2 =>
 some (vi 0)) fun J3 =>
 (fixN (fun rec4 vs5 =>
 (bin2 Try.prog BinOp.lss 3 (ot 8) (ot 7) (List.getD vs5 0 V.any) v1).bind fun v6 =>
 condV v6 (
 (idxS 1 x0 (List.getD vs5 0 V.any)).bind fun v7 =>
 (ldp none v7).bind fun v8 =>
 (bin2 Try.prog BinOp.neq 3 (ot 12) (ot 13) v8 (vi 0)).bind fun v9 =>
 condV v9 (
 some v8) (
 (bin2 Try.prog BinOp.add 3 (ot 8) (oc 1) (List.getD vs5 0 V.any) (vi 1)).bind fun v10 =>
 rec4 [v10])) (
 J3 [])) n) [(vi 0)] := by kernel_rfl
noncomputable def t_cmp_Or_int (a0 : (List Int)) : Option Int :=
 join (fun (s4 : Unit) =>
 some 0) fun j5 =>
 loopI a0 (fun (i13 : Int) x14 (s9 : Unit) k10 =>
 if (decide (x14 ≠ 0)) = true then (
 some x14) else (
 k10 ())) (fun (s9 : Unit) =>
 j5 ()) ()
theorem ty_cmp_Or_int {n : Nat} (hn : bigN ≤ n) (a0 : (List Int)) : Rv (fun x : Int => (vi x)) (sem_cmp_Or_int n [(V.sl (List.map cI a0))]) (t_cmp_Or_int a0) := by
  rw [eq_cmp_Or_int]
  unfold t_cmp_Or_int
  refine tb (x := (vi (List.length a0 : Int))) (p_len _) ?_
  refine tjoin (mk := fun s4 : Unit => []) (fun s4 => ?_) fun J3 j5 h6 => ?_
  · exact rf_ret rfl
  · refine rf_loopI (mk := fun (i13 : Int) (s9 : Unit) => [(vi (i13 : Int))]) hn a0 () (fun i13 x14 h15 h16 h17 s9 rec7 k10 h11 => ?_) (fun s9 rec25 h24 => ?_)
    · refine tb (x := (vb (decide ((i13 : Int) < (List.length a0 : Int))))) (d_lss) ?_
      refine tcond_t h17 ?_
      refine tb (x := (V.ptr [(vi x14)])) (p_idx_at (c := cI) (fun _ => rfl) h15) ?_
      refine tb (x := (vi x14)) (rfl) ?_
      refine tb (x := (vb (decide (x14 ≠ 0)))) (d_neq) ?_
      refine tcond (fun h22 => ?_) (fun h22 => ?_)
      · exact rf_ret rfl
      · refine tb (x := (vi ((i13 : Int) + 1))) (p_incN h16) ?_
        exact h11 ()
    · refine tb (x := (vb (decide ((List.length a0 : Int) < (List.length a0 : Int))))) (d_lss) ?_
      refine tcond_f h24 ?_
      exact h6 ()

/-! railpoint/rule.above -/
def an_rule_above : Ann := .seq (.reg 0 [] [] []) (.seq (.reg 22 [] [] []) (.no))
noncomputable def sem_rule_above (n : Nat) (xs : List V) : Option V := if xs.length ≤ 26 then denF Try.prog (envOf [(51, (sem_cmp_Compare_int n)), (50, (sem_cmp_Or_int n))]) n Try.f42 an_rule_above xs else none
theorem ok_rule_above (n : Nat) : SemOk Try.prog DW 42 (sem_rule_above n) := fun xs y h => by
  unfold sem_rule_above at h
  split at h
  · rename_i hl
    exact denF_ok stb Try.func42 (by kernel_rfl) (envOf_ok (semsOk_cons (ok_cmp_Compare_int n) (semsOk_cons (ok_cmp_Or_int n) semsOk_nil))) (by rw [Try.ntmps42]; exact hl) h
  · cases h
theorem eq_rule_above (n : Nat) (x0 x1 : V) : sem_rule_above n [x0, x1] =
 (V.cellsO x0).bind fun v1 =>
 (V.cellsO x1).bind fun v2 =>
 (ldk none (List.drop 0 v1)).bind fun v3 =>
 (ldk none (List.drop 0 v2)).bind fun v4 =>
 ((sem_cmp_Compare_int n) [v3, v4]).bind fun v5 =>
 (ldk none (List.drop 1 v1)).bind fun v6 =>
 (ldk none (List.drop 1 v2)).bind fun v7 =>
 ((sem_cmp_Compare_int n) [v6, v7]).bind fun v8 =>
 (ldk none (List.drop 2 v1)).bind fun v9 =>
 (ldk none (List.drop 2 v2)).bind fun v10 =>
 ((sem_cmp_Compare_int n) [v9, v10]).bind fun v11 =>
 (slcB 1 3 [(vi 0)] [(0, v5), (1, v8), (2, v11)]).bind fun v12 =>
 ((sem_cmp_Or_int n) [v12]).bind fun v13 =>
 some v13 := by kernel_rfl
noncomputable def t_rule_above (a0 : T_Rule) (a1 : T_Rule) : Option Int :=
 (t_cmp_Compare_int a0.Prio a1.Prio).bind fun r6 =>
 (t_cmp_Compare_int a0.Cube.Mask a1.Cube.Mask).bind fun r10 =>
 (t_cmp_Compare_int a0.Cube.Bits a1.Cube.Bits).bind fun r14 =>
 (t_cmp_Or_int ([r6, r10, r14] : (List Int))).bind fun r17 =>
 some r17
theorem ty_rule_above {n : Nat} (hn : bigN ≤ n) (a0 : T_Rule) (a1 : T_Rule) : Rv (fun x : Int => (vi x)) (sem_rule_above n [(T_Rule.e a0), (T_Rule.e a1)]) (t_rule_above a0 a1) := by
  rw [eq_rule_above]
  unfold t_rule_above
  refine tb (x := (T_Rule.c a0)) rfl ?_
  refine tb (x := (T_Rule.c a1)) rfl ?_
  refine tb (x := (vi a0.Prio)) (rfl) ?_
  refine tb (x := (vi a1.Prio)) (rfl) ?_
  refine tbo (ty_cmp_Compare_int hn a0.Prio a1.Prio) fun r6 => ?_
  refine tb (x := (vi a0.Cube.Mask)) (rfl) ?_
  refine tb (x := (vi a1.Cube.Mask)) (rfl) ?_
  refine tbo (ty_cmp_Compare_int hn a0.Cube.Mask a1.Cube.Mask) fun r10 => ?_
  refine tb (x := (vi a0.Cube.Bits)) (rfl) ?_
  refine tb (x := (vi a1.Cube.Bits)) (rfl) ?_
  refine tbo (ty_cmp_Compare_int hn a0.Cube.Bits a1.Cube.Bits) fun r14 => ?_
  refine tb (x := (V.sl (List.map cI ([r6, r10, r14] : (List Int))))) (by kernel_rfl) ?_
  refine tbo (ty_cmp_Or_int hn ([r6, r10, r14] : (List Int))) fun r17 => ?_
  exact rf_ret rfl

/-! railpoint/rule.Find -/
def an_rule_Find : Ann := .seq (.reg 0 [] [] []) (.seq (.reg 0 [] [] []) (.seq (.seq (.reg 0 [] [] []) (.blk (some [.s 5]) (.loop [.s 5, .s 10] (.seq (.reg 0 [] [] []) (.seq (.cond none (.no) (.no)) (.seq (.blk none (.seq (.reg 0 [] [] []) (.seq (.reg 22 [] [] []) (.cond (some [.s 5]) (.reg 0 [] [] []) (.no))))) (.reg 0 [] [] []))))))) (.seq (.reg 0 [] [] []) (.no))))
noncomputable def sem_rule_Find (n : Nat) (xs : List V) : Option V := if xs.length ≤ 40 then denF Try.prog (envOf [(42, (sem_rule_above n))]) n Try.f24 an_rule_Find xs else none
theorem ok_rule_Find (n : Nat) : SemOk Try.prog DW 24 (sem_rule_Find n) := fun xs y h => by
  unfold sem_rule_Find at h
  split at h
  · rename_i hl
    exact denF_ok stb Try.func24 (by kernel_rfl) (envOf_ok (semsOk_cons (ok_rule_above n) semsOk_nil)) (by rw [Try.ntmps24]; exact hl) h
  · cases h
theorem eq_rule_Find (n : Nat) (x0 x1 : V) : sem_rule_Find n [x0, x1] =
 (lenS [x0]).bind fun v1 =>
 JoinPt (fun vs2 =>
 some (List.getD vs2 0 V.any)) fun J3 =>
 (fixN (fun rec4 vs5 =>
 (bin2 Try.prog BinOp.lss 3 (ot 10) (ot 9) (List.getD vs5 1 V.any) v1).bind fun v6 =>
 condV v6 (
 (idxS 6 x0 (List.getD vs5 1 V.any)).bind fun v7 =>
 (ldp (some 6) v7).bind fun v8 =>
 (spliceV [(vi 0), (vi 0), (vi 0), (vi 0), (vi 0), (vi 0)] 0 6 v8).bind fun v9 =>
 (ldk none (List.drop 1 (aggL v9))).bind fun v10 =>
 (bin2 Try.prog BinOp.and 3 (ot 15) (ot 18) x1 v10).bind fun v11 =>
 (ldk none (List.drop 2 (aggL v9))).bind fun v12 =>
 (bin2 Try.prog BinOp.eql 3 (ot 19) (ot 22) v11 v12).bind fun v13 =>
 (guardV v13 true (some (List.getD vs5 0 V.any))).bind fun v14 =>
 (guardV v13 true ((bin2 Try.prog BinOp.lss 3 (ot 25) (oc 0) v14 (vi 0)).bind fun v15 =>
 some v15)).bind fun v16 =>
 (guardV v13 true (some v16)).bind fun v17 =>
 (guardV v17 false ((ldk (some 6) (List.drop 0 (aggL v9))).bind fun v18 =>
 some v18)).bind fun v19 =>
 (guardV v17 false (some x0)).bind fun v20 =>
 (guardV v17 false (some (List.getD vs5 0 V.any))).bind fun v21 =>
 (guardV v17 false ((idxS 6 v20 v21).bind fun v22 =>
 some v22)).bind fun v23 =>
 (guardV v17 false ((ldp (some 6) v23).bind fun v24 =>
 some v24)).bind fun v25 =>
 (guardV v17 false (((sem_rule_above n) [v19, v25]).bind fun v26 =>
 some v26)).bind fun v27 =>
 (guardV v17 false ((bin2 Try.prog BinOp.gtr 3 (ot 33) (oc 0) v27 (vi 0)).bind fun v28 =>
 some v28)).bind fun v29 =>
 (guardV v13 true ((pickV v17 (vb true) v29).bind fun v30 =>
 some v30)).bind fun v31 =>
 (pickV v13 v31 (vb false)).bind fun v32 =>
 JoinPt (fun vs33 =>
 (bin2 Try.prog BinOp.add 3 (ot 10) (oc 1) (List.getD vs5 1 V.any) (vi 1)).bind fun v35 =>
 rec4 [(List.getD vs33 0 V.any), v35]) fun J34 =>
 condV v32 (
 J34 [(List.getD vs5 1 V.any)]) (
 J34 [(List.getD vs5 0 V.any)])) (
 J3 [(List.getD vs5 0 V.any)])) n) [(vi (-1 : Int)), (vi 0)] := by kernel_rfl
noncomputable def t_rule_Find (a0 : (List T_Rule)) (a1 : Int) : Option Int :=
 (loopI a0 (fun (i13 : Int) x14 (s9 : Int) k10 =>
 (gd ((decide ((bits .and .i64 a1 x14.Cube.Mask) = x14.Cube.Bits)) && (!(decide (s9 < 0)))) default (idx a0 s9)).bind fun r43 =>
 (gd ((decide ((bits .and .i64 a1 x14.Cube.Mask) = x14.Cube.Bits)) && (!(decide (s9 < 0)))) default (t_rule_above x14 r43)).bind fun r50 =>
 (if ((decide ((bits .and .i64 a1 x14.Cube.Mask) = x14.Cube.Bits)) && ((decide (s9 < 0)) || (decide (0 < r50)))) = true then (
 some i13) else (
 some (s9))).bind fun (s60 : Int) =>
 k10 (s60)) (fun (s9 : Int) =>
 some (s9)) (-1 : Int)).bind fun (s4 : Int) =>
 some s4
theorem ty_rule_Find {n : Nat} (hn : bigN ≤ n) (a0 : (List T_Rule)) (a1 : Int) : Rv (fun x : Int => (vi x)) (sem_rule_Find n [(V.sl (List.map T_Rule.c a0)), (vi a1)]) (t_rule_Find a0 a1) := by
  rw [eq_rule_Find]
  unfold t_rule_Find
  refine tb (x := (vi (List.length a0 : Int))) (p_len _) ?_
  refine tjb (mk := fun s4 : Int => [(vi s4)]) (fun J3 => ?_) fun s4 => ?_
  · refine rf_loopI (mk := fun (i13 : Int) (s9 : Int) => [(vi s9), (vi (i13 : Int))]) hn a0 (-1 : Int) (fun i13 x14 h15 h16 h17 s9 rec7 k10 h11 => ?_) (fun s9 rec66 h65 => ?_)
    · refine tb (x := (vb (decide ((i13 : Int) < (List.length a0 : Int))))) (d_lss) ?_
      refine tcond_t h17 ?_
      refine tb (x := (V.ptr (T_Rule.c x14))) (p_idx_at (c := T_Rule.c) (fun _ => rfl) h15) ?_
      refine tb (x := (T_Rule.e x14)) (rfl) ?_
      refine tb (x := V.agg (T_Rule.c x14)) (by kernel_rfl) ?_
      refine tb (x := (vi x14.Cube.Mask)) (rfl) ?_
      refine tb (x := (vi (bits .and .i64 a1 x14.Cube.Mask))) (d_and) ?_
      refine tb (x := (vi x14.Cube.Bits)) (rfl) ?_
      refine tb (x := (vb (decide ((bits .and .i64 a1 x14.Cube.Mask) = x14.Cube.Bits)))) (d_eql) ?_
      refine tg (x := (vi s9)) (fun h26 => rfl) ?_
      refine tg (x := (vb (decide (s9 < 0)))) (fun h28 => by simp only [gv_t h28]; exact bind_some_eq (d_lss)) ?_
      refine tg (x := (vb (decide (s9 < 0)))) (fun h31 => congrArg some (gv_t h31)) ?_
      refine tg2_f (x := (T_Rule.e x14)) (fun h33 => bind_some_eq (rfl)) ?_
      refine tg2_f (x := (V.sl (List.map T_Rule.c a0))) (fun h36 => rfl) ?_
      refine tg2_f (x := (vi s9)) (fun h38 => rfl) ?_
      refine tgo2_f (fun h40 => by simp only [gv_t h40]; exact rf_bind_some (p_idx (c := T_Rule.c) (fun _ => rfl) a0 s9)) fun r43 => ?_
      refine tg2_f (x := (T_Rule.e r43)) (fun h44 => by first | exact bind_some_eq (rfl) | (simp only [gv_t h44]; exact bind_some_eq (rfl))) ?_
      refine tgo2_f (fun h47 => by simp only [gv_t h47]; exact rf_bind_some (ty_rule_above hn x14 r43)) fun r50 => ?_
      refine tg2_f (x := (vb (decide (0 < r50)))) (fun h51 => by simp only [gv_t h51]; exact bind_some_eq (d_gtr)) ?_
      refine tg (x := (vb ((decide (s9 < 0)) || (decide (0 < r50))))) (fun h54 => by simp only [gv_t h54]; exact bind_some_eq (pick_or (fun h9 => gv_t (and_i h54 (not_f h9))))) ?_
      refine tb (x := (vb ((decide ((bits .and .i64 a1 x14.Cube.Mask) = x14.Cube.Bits)) && ((decide (s9 < 0)) || (decide (0 < r50)))))) (pick_and (fun h9 => gv_t h9)) ?_
      refine tjb (mk := fun s60 : Int => [(vi s60)]) (fun J59 => ?_) fun s60 => ?_
      · refine tcond (fun h64 => ?_) (fun h64 => ?_)
        · exact rf_j rfl
        · exact rf_j rfl
      · refine tb (x := (vi ((i13 : Int) + 1))) (p_incN h16) ?_
        exact h11 (s60)
    · refine tb (x := (vb (decide ((List.length a0 : Int) < (List.length a0 : Int))))) (d_lss) ?_
      refine tcond_f h65 ?_
      exact rf_j rfl
  · exact rf_ret rfl

/-! railpoint/net.Out -/
def an_net_Out : Ann := .seq (.reg 0 [] [] []) (.seq (.reg 0 [] [] []) (.seq (.seq (.reg 0 [] [] []) (.cond none (.seq (.reg 0 [] [] []) (.no)) (.no))) (.seq (.reg 2097045 [] [] []) (.no))))
noncomputable def sem_net_Out (n : Nat) (xs : List V) : Option V := if xs.length ≤ 45 then denF Try.prog (envOf [(24, (sem_rule_Find n))]) n Try.f45 an_net_Out xs else none
theorem ok_net_Out (n : Nat) : SemOk Try.prog DW 45 (sem_net_Out n) := fun xs y h => by
  unfold sem_net_Out at h
  split at h
  · rename_i hl
    exact denF_ok stb Try.func45 (by kernel_rfl) (envOf_ok (semsOk_cons (ok_rule_Find n) semsOk_nil)) (by rw [Try.ntmps45]; exact hl) h
  · cases h
theorem eq_net_Out (n : Nat) (x0 x1 x2 : V) : sem_net_Out n [x0, x1, x2] =
 (V.cellsO x1).bind fun v1 =>
 ((sem_rule_Find n) [x0, x2]).bind fun v2 =>
 (bin2 Try.prog BinOp.lss 3 (ot 13) (oc 0) v2 (vi 0)).bind fun v3 =>
 (guardV v3 false (some x0)).bind fun v4 =>
 (guardV v3 false (some v2)).bind fun v5 =>
 (guardV v3 false ((idxS 6 v4 v5).bind fun v6 =>
 some v6)).bind fun v7 =>
 (guardV v3 false ((ptrF 3 v7).bind fun v8 =>
 some v8)).bind fun v9 =>
 (guardV v3 false ((ldp none v9).bind fun v10 =>
 some v10)).bind fun v11 =>
 (guardV v3 false ((bin2 Try.prog BinOp.eql 3 (ot 20) (oc 0) v11 (vi 0)).bind fun v12 =>
 some v12)).bind fun v13 =>
 (pickV v3 (vb true) v13).bind fun v14 =>
 condV v14 (
 ((fillL [(vi 0), (vi 0)] []).map V.agg).bind fun v15 =>
 (spliceV [(vi 0), (vi 0)] 0 2 v15).bind fun v16 =>
 (ldk (some 2) (List.drop 0 (aggL v16))).bind fun v17 =>
 some (V.tup [v17, (vi 0), (vb false)])) (
 (idxS 6 x0 v2).bind fun v18 =>
 (ptrF 3 v18).bind fun v19 =>
 (ldp none v19).bind fun v20 =>
 (litV v20).bind fun v21 =>
 (idxS 6 x0 v2).bind fun v22 =>
 (ptrF 4 v22).bind fun v23 =>
 (ldp none v23).bind fun v24 =>
 (litV v24).bind fun v25 =>
 (bin2 Try.prog BinOp.andNot 3 (ot 32) (ot 37) x2 v25).bind fun v26 =>
 (litV v26).bind fun v27 =>
 (idxS 6 x0 v2).bind fun v28 =>
 (ptrF 5 v28).bind fun v29 =>
 (ldp none v29).bind fun v30 =>
 (litV v30).bind fun v31 =>
 (bin2 Try.prog BinOp.or 3 (ot 38) (ot 43) v27 v31).bind fun v32 =>
 (litV v32).bind fun v33 =>
 (ldk none (List.drop 0 v1)).bind fun v34 =>
 ((fillL [(vi 0), (vi 0)] [(0, 1, v34), (1, 1, v21)]).map V.agg).bind fun v35 =>
 (spliceV [(vi 0), (vi 0)] 0 2 v35).bind fun v36 =>
 (ldk (some 2) (List.drop 0 (aggL v36))).bind fun v37 =>
 some (V.tup [v37, v33, (vb true)])) := by kernel_rfl
noncomputable def t_net_Out (a0 : (List T_Rule)) (a1 : T_Spot) (a2 : Int) : Option (T_Spot × Int × Bool) :=
 (t_rule_Find a0 a2).bind fun r3 =>
 (gd (!(decide (r3 < 0))) default (idx a0 r3)).bind fun r12 =>
 if ((decide (r3 < 0)) || (decide (r12.Out = 0))) = true then (
 some ((T_Spot.mk 0 0), 0, false)) else (
 (idx a0 r3).bind fun r28 =>
 (idx a0 r3).bind fun r33 =>
 (idx a0 r3).bind fun r40 =>
 some ((T_Spot.mk a1.Switch r28.Out), (bits .or .i64 (bits .andNot .i64 a2 r33.Set) r40.Value), true))
theorem ty_net_Out {n : Nat} (hn : bigN ≤ n) (a0 : (List T_Rule)) (a1 : T_Spot) (a2 : Int) : Rv (fun x : (T_Spot × Int × Bool) => V.tup [(T_Spot.e x.1), (vi x.2.1), (vb x.2.2)]) (sem_net_Out n [(V.sl (List.map T_Rule.c a0)), (T_Spot.e a1), (vi a2)]) (t_net_Out a0 a1 a2) := by
  rw [eq_net_Out]
  unfold t_net_Out
  refine tb (x := (T_Spot.c a1)) rfl ?_
  refine tbo (ty_rule_Find hn a0 a2) fun r3 => ?_
  refine tb (x := (vb (decide (r3 < 0)))) (d_lss) ?_
  refine tg_f (x := (V.sl (List.map T_Rule.c a0))) (fun h5 => rfl) ?_
  refine tg_f (x := (vi r3)) (fun h7 => rfl) ?_
  refine tgo_f (fun h9 => by simp only [gv_t h9]; exact rf_bind_some (p_idx (c := T_Rule.c) (fun _ => rfl) a0 r3)) fun r12 => ?_
  refine tg_f (x := (V.ptr (List.drop 3 (T_Rule.c r12)))) (fun h13 => by first | exact bind_some_eq (rfl) | (simp only [gv_t h13]; exact bind_some_eq (rfl))) ?_
  refine tg_f (x := (vi r12.Out)) (fun h16 => by first | exact bind_some_eq (rfl) | (simp only [gv_t h16]; exact bind_some_eq (rfl))) ?_
  refine tg_f (x := (vb (decide (r12.Out = 0)))) (fun h19 => by simp only [gv_t h19]; exact bind_some_eq (d_eql)) ?_
  refine tb (x := (vb ((decide (r3 < 0)) || (decide (r12.Out = 0))))) (pick_or (fun h9 => gv_t (not_f h9))) ?_
  refine tcond (fun h23 => ?_) (fun h23 => ?_)
  · refine tb (x := (T_Spot.e (T_Spot.mk 0 0))) (by kernel_rfl) ?_
    refine tb (x := V.agg (T_Spot.c (T_Spot.mk 0 0))) (by kernel_rfl) ?_
    refine tb (x := (T_Spot.e (T_Spot.mk 0 0))) rfl ?_
    exact rf_ret rfl
  · refine tbo (p_idx (c := T_Rule.c) (fun _ => rfl) a0 r3) fun r28 => ?_
    refine tb (x := (V.ptr (List.drop 3 (T_Rule.c r28)))) (rfl) ?_
    refine tb (x := (vi r28.Out)) (rfl) ?_
    refine tb (x := (vi r28.Out)) rfl ?_
    refine tbo (p_idx (c := T_Rule.c) (fun _ => rfl) a0 r3) fun r33 => ?_
    refine tb (x := (V.ptr (List.drop 4 (T_Rule.c r33)))) (rfl) ?_
    refine tb (x := (vi r33.Set)) (rfl) ?_
    refine tb (x := (vi r33.Set)) rfl ?_
    refine tb (x := (vi (bits .andNot .i64 a2 r33.Set))) (d_andNot) ?_
    refine tb (x := (vi (bits .andNot .i64 a2 r33.Set))) rfl ?_
    refine tbo (p_idx (c := T_Rule.c) (fun _ => rfl) a0 r3) fun r40 => ?_
    refine tb (x := (V.ptr (List.drop 5 (T_Rule.c r40)))) (rfl) ?_
    refine tb (x := (vi r40.Value)) (rfl) ?_
    refine tb (x := (vi r40.Value)) rfl ?_
    refine tb (x := (vi (bits .or .i64 (bits .andNot .i64 a2 r33.Set) r40.Value))) (d_or) ?_
    refine tb (x := (vi (bits .or .i64 (bits .andNot .i64 a2 r33.Set) r40.Value))) rfl ?_
    refine tb (x := (vi a1.Switch)) (rfl) ?_
    refine tb (x := (T_Spot.e (T_Spot.mk a1.Switch r28.Out))) (by kernel_rfl) ?_
    refine tb (x := V.agg (T_Spot.c (T_Spot.mk a1.Switch r28.Out))) (by kernel_rfl) ?_
    refine tb (x := (T_Spot.e (T_Spot.mk a1.Switch r28.Out))) rfl ?_
    exact rf_ret rfl

/-! slices.IndexFunc   railpoint/api.Host railpoint/api.Host  -/
def an_slices_IndexFunc_api_Host_api_Host : Ann := .seq (.reg 0 [] [] []) (.seq (.seq (.reg 0 [] [] []) (.blk (some []) (.loop [.s 8] (.seq (.reg 0 [] [] []) (.seq (.cond none (.no) (.no)) (.seq (.blk none (.seq (.reg 0 [] [] []) (.seq (.reg 0 [] [] []) (.cond none (.seq (.reg 0 [] [] []) (.no)) (.no))))) (.reg 0 [] [] []))))))) (.seq (.reg 0 [] [] []) (.no)))
noncomputable def sem_slices_IndexFunc_api_Host_api_Host (E : FuncId → List V → Option V) (n : Nat) (xs : List V) : Option V := if xs.length ≤ 19 then denF Try.prog (envJ [] E) n Try.f13 an_slices_IndexFunc_api_Host_api_Host xs else none
theorem ok_slices_IndexFunc_api_Host_api_Host {E : FuncId → List V → Option V} (hE : EnvOk Try.prog DW E) (n : Nat) : SemOk Try.prog DW 13 (sem_slices_IndexFunc_api_Host_api_Host E n) := fun xs y h => by
  unfold sem_slices_IndexFunc_api_Host_api_Host at h
  split at h
  · rename_i hl
    exact denF_ok stb Try.func13 (by kernel_rfl) (envJ_ok semsOk_nil hE) (by rw [Try.ntmps13]; exact hl) h
  · cases h
theorem eq_slices_IndexFunc_api_Host_api_Host (E : FuncId → List V → Option V) (n : Nat) (x0 x1 : V) : sem_slices_IndexFunc_api_Host_api_Host E n [x0, x1] =
 (lenS [x0]).bind fun v1 =>
 JoinPt (fun vs2 =>
 some (vi (-1 : Int))) fun J3 =>
 (fixN (fun rec4 vs5 =>
 (bin2 Try.prog BinOp.lss 3 (ot 8) (ot 7) (List.getD vs5 0 V.any) v1).bind fun v6 =>
 condV v6 (
 (idxS 3 x0 (List.getD vs5 0 V.any)).bind fun v7 =>
 (ldp (some 3) v7).bind fun v8 =>
 (callV (envJ [] E) x1 [v8]).bind fun v9 =>
 condV v9 (
 some (List.getD vs5 0 V.any)) (
 (bin2 Try.prog BinOp.add 3 (ot 8) (oc 1) (List.getD vs5 0 V.any) (vi 1)).bind fun v10 =>
 rec4 [v10])) (
 J3 [])) n) [(vi 0)] := by kernel_rfl
noncomputable def t_slices_IndexFunc_api_Host_api_Host (a0 : (List T_Host)) (g1 : T_Host → Option Bool) : Option Int :=
 join (fun (s4 : Unit) =>
 some (-1 : Int)) fun j5 =>
 loopI a0 (fun (i13 : Int) x14 (s9 : Unit) k10 =>
 (g1 x14).bind fun r22 =>
 if r22 = true then (
 some i13) else (
 k10 ())) (fun (s9 : Unit) =>
 j5 ()) ()
theorem ty_slices_IndexFunc_api_Host_api_Host {E : FuncId → List V → Option V} {n : Nat} (hn : bigN ≤ n) (a0 : (List T_Host)) {x1 : V} {g1 : T_Host → Option Bool} (hg_g1 : ∀ a0, Rv (fun x : Bool => (vb x)) (callV E x1 [(T_Host.e a0)]) (g1 a0)) : Rv (fun x : Int => (vi x)) (sem_slices_IndexFunc_api_Host_api_Host E n [(V.sl (List.map T_Host.c a0)), x1]) (t_slices_IndexFunc_api_Host_api_Host a0 g1) := by
  rw [eq_slices_IndexFunc_api_Host_api_Host]
  unfold t_slices_IndexFunc_api_Host_api_Host
  refine tb (x := (vi (List.length a0 : Int))) (p_len _) ?_
  refine tjoin (mk := fun s4 : Unit => []) (fun s4 => ?_) fun J3 j5 h6 => ?_
  · exact rf_ret rfl
  · refine rf_loopI (mk := fun (i13 : Int) (s9 : Unit) => [(vi (i13 : Int))]) hn a0 () (fun i13 x14 h15 h16 h17 s9 rec7 k10 h11 => ?_) (fun s9 rec26 h25 => ?_)
    · refine tb (x := (vb (decide ((i13 : Int) < (List.length a0 : Int))))) (d_lss) ?_
      refine tcond_t h17 ?_
      refine tb (x := (V.ptr (T_Host.c x14))) (p_idx_at (c := T_Host.c) (fun _ => rfl) h15) ?_
      refine tb (x := (T_Host.e x14)) (rfl) ?_
      refine tbo ((callV_J0 ▸ hg_g1 x14)) fun r22 => ?_
      refine tcond (fun h23 => ?_) (fun h23 => ?_)
      · exact rf_ret rfl
      · refine tb (x := (vi ((i13 : Int) + 1))) (p_incN h16) ?_
        exact h11 ()
    · refine tb (x := (vb (decide ((List.length a0 : Int) < (List.length a0 : Int))))) (d_lss) ?_
      refine tcond_f h25 ?_
      exact h6 ()

/-! railpoint/topo.Host$1 -/
def an_topo_Host_1 : Ann := .seq (.reg 0 [] [] []) (.seq (.reg 0 [] [] []) (.no))
noncomputable def sem_topo_Host_1 (n : Nat) (xs : List V) : Option V := if xs.length ≤ 8 then denF Try.prog (envOf []) n Try.f52 an_topo_Host_1 xs else none
theorem ok_topo_Host_1 (n : Nat) : SemOk Try.prog DW 52 (sem_topo_Host_1 n) := fun xs y h => by
  unfold sem_topo_Host_1 at h
  split at h
  · rename_i hl
    exact denF_ok stb Try.func52 (by kernel_rfl) (envOf_ok semsOk_nil) (by rw [Try.ntmps52]; exact hl) h
  · cases h
theorem eq_topo_Host_1 (n : Nat) (x0 x1 : V) : sem_topo_Host_1 n [x0, x1] =
 (V.cellsO x0).bind fun v1 =>
 (ldk (some 2) (List.drop 1 v1)).bind fun v2 =>
 (ldp (some 2) x1).bind fun v3 =>
 (bin2 Try.prog BinOp.eql 30 (ot 5) (ot 6) v2 v3).bind fun v4 =>
 some v4 := by kernel_rfl
noncomputable def t_topo_Host_1 (a0 : T_Host) (a1 : T_Spot) : Option Bool :=
 some (decide (a0.At = a1))
theorem ty_topo_Host_1 {n : Nat} (hn : bigN ≤ n) (a0 : T_Host) (a1 : T_Spot) : Rv (fun x : Bool => (vb x)) (sem_topo_Host_1 n [(T_Host.e a0), (V.ptr (T_Spot.c a1))]) (t_topo_Host_1 a0 a1) := by
  rw [eq_topo_Host_1]
  unfold t_topo_Host_1
  refine tb (x := (T_Host.c a0)) rfl ?_
  refine tb (x := (T_Spot.e a0.At)) (rfl) ?_
  refine tb (x := (T_Spot.e a1)) (rfl) ?_
  refine tb (x := (vb (decide (a0.At = a1)))) (T_Spot.eql a0.At a1) ?_
  exact rf_ret rfl

/-! railpoint/topo.Host -/
def an_topo_Host : Ann := .seq (.reg 0 [] [] []) (.seq (.reg 0 [3] [] []) (.seq (.seq (.reg 0 [] [] []) (.cond none (.seq (.reg 0 [] [] []) (.no)) (.no))) (.seq (.reg 0 [] [] []) (.no))))
noncomputable def sem_topo_Host (n : Nat) (xs : List V) : Option V := if xs.length ≤ 19 then denF Try.prog (envOf [(13, (sem_slices_IndexFunc_api_Host_api_Host (envOf [(52, (sem_topo_Host_1 n))]) n)), (52, (sem_topo_Host_1 n))]) n Try.f46 an_topo_Host xs else none
theorem ok_topo_Host (n : Nat) : SemOk Try.prog DW 46 (sem_topo_Host n) := fun xs y h => by
  unfold sem_topo_Host at h
  split at h
  · rename_i hl
    exact denF_ok stb Try.func46 (by kernel_rfl) (envOf_ok (semsOk_cons (ok_slices_IndexFunc_api_Host_api_Host (envOf_ok (semsOk_cons (ok_topo_Host_1 n) semsOk_nil)) n) (semsOk_cons (ok_topo_Host_1 n) semsOk_nil))) (by rw [Try.ntmps46]; exact hl) h
  · cases h
theorem eq_topo_Host (n : Nat) (x0 x1 : V) : sem_topo_Host n [x0, x1] =
 (V.cellsO x0).bind fun v1 =>
 (V.cellsO x1).bind fun v2 =>
 (ldk none (List.drop 2 v1)).bind fun v3 =>
 ((sem_slices_IndexFunc_api_Host_api_Host (envOf [(52, (sem_topo_Host_1 n))]) n) [v3, (V.fn 52 [(V.ptr v2)])]).bind fun v4 =>
 (bin2 Try.prog BinOp.lss 3 (ot 11) (oc 0) v4 (vi 0)).bind fun v5 =>
 condV v5 (
 some (V.tup [(V.lit (Go.Value.string (ByteArray.mk #[]))), (vb false)])) (
 (ldk none (List.drop 2 v1)).bind fun v6 =>
 (idxS 3 v6 v4).bind fun v7 =>
 (ptrF 0 v7).bind fun v8 =>
 (ldp none v8).bind fun v9 =>
 some (V.tup [v9, (vb true)])) := by kernel_rfl
noncomputable def t_topo_Host (a0 : T_Topo) (a1 : T_Spot) : Option (ByteArray × Bool) :=
 (t_slices_IndexFunc_api_Host_api_Host a0.Hosts (fun (a4 : T_Host) => t_topo_Host_1 a4 a1)).bind fun r6 =>
 if (decide (r6 < 0)) = true then (
 some ((ByteArray.mk #[]), false)) else (
 (idx a0.Hosts r6).bind fun r11 =>
 some (r11.Name, true))
theorem ty_topo_Host {n : Nat} (hn : bigN ≤ n) (a0 : T_Topo) (a1 : T_Spot) : Rv (fun x : (ByteArray × Bool) => V.tup [(vt x.1), (vb x.2)]) (sem_topo_Host n [(T_Topo.e a0), (T_Spot.e a1)]) (t_topo_Host a0 a1) := by
  rw [eq_topo_Host]
  unfold t_topo_Host
  refine tb (x := (T_Topo.c a0)) rfl ?_
  refine tb (x := (T_Spot.c a1)) rfl ?_
  refine tb (x := (V.sl (List.map T_Host.c a0.Hosts))) (rfl) ?_
  refine tbo (ty_slices_IndexFunc_api_Host_api_Host (E := (envOf [(52, (sem_topo_Host_1 n))])) (x1 := (V.fn 52 [(V.ptr (T_Spot.c a1))])) (g1 := (fun (a4 : T_Host) => t_topo_Host_1 a4 a1)) hn a0.Hosts (fun a4 => ty_topo_Host_1 hn a4 a1)) fun r6 => ?_
  refine tb (x := (vb (decide (r6 < 0)))) (d_lss) ?_
  refine tcond (fun h8 => ?_) (fun h8 => ?_)
  · exact rf_ret rfl
  · refine tb (x := (V.sl (List.map T_Host.c a0.Hosts))) (rfl) ?_
    refine tbo (p_idx (c := T_Host.c) (fun _ => rfl) a0.Hosts r6) fun r11 => ?_
    refine tb (x := (V.ptr (T_Host.c r11))) (rfl) ?_
    refine tb (x := (vt r11.Name)) (rfl) ?_
    exact rf_ret rfl

/-! railpoint/topo.Other -/
def an_topo_Other : Ann := .seq (.reg 0 [] [] []) (.seq (.seq (.reg 0 [] [] []) (.blk (some [.b 4]) (.loop [.kb 3, .b 4, .s 11] (.seq (.reg 0 [] [] []) (.seq (.cond none (.no) (.no)) (.seq (.blk none (.seq (.reg 0 [] [] []) (.seq (.reg 0 [] [] []) (.blk none (.seq (.reg 0 [] [] []) (.cond none (.seq (.reg 0 [] [] []) (.no)) (.seq (.reg 0 [] [] []) (.cond none (.seq (.reg 0 [] [] []) (.no)) (.no))))))))) (.reg 0 [] [] []))))))) (.seq (.reg 0 [] [] []) (.no)))
noncomputable def sem_topo_Other (n : Nat) (xs : List V) : Option V := if xs.length ≤ 30 then denF Try.prog (envOf []) n Try.f47 an_topo_Other xs else none
theorem ok_topo_Other (n : Nat) : SemOk Try.prog DW 47 (sem_topo_Other n) := fun xs y h => by
  unfold sem_topo_Other at h
  split at h
  · rename_i hl
    exact denF_ok stb Try.func47 (by kernel_rfl) (envOf_ok semsOk_nil) (by rw [Try.ntmps47]; exact hl) h
  · cases h
theorem eq_topo_Other (n : Nat) (x0 x1 : V) : sem_topo_Other n [x0, x1] =
 (V.cellsO x0).bind fun v1 =>
 (V.cellsO x1).bind fun v2 =>
 (ldk none (List.drop 1 v1)).bind fun v3 =>
 (lenS [v3]).bind fun v4 =>
 JoinPt (fun vs5 =>
 ((fillL [(vi 0), (vi 0)] []).map V.agg).bind fun v7 =>
 (spliceV (aggL (List.getD vs5 0 V.any)) 0 2 v7).bind fun v8 =>
 (ldk (some 2) (List.drop 0 (aggL v8))).bind fun v9 =>
 some (V.tup [v9, (vb false)])) fun J6 =>
 (keepO (some v2) (some v2) (some [(V.agg [(vi 0), (vi 0)]), (vi 0)])).bind (fixN (fun rec10 vs11 =>
 (bin2 Try.prog BinOp.lss 3 (ot 11) (ot 10) (List.getD vs11 1 V.any) v4).bind fun v12 =>
 condV v12 (
 (idxS 4 v3 (List.getD vs11 1 V.any)).bind fun v13 =>
 (ldp (some 4) v13).bind fun v14 =>
 (spliceV [(vi 0), (vi 0), (vi 0), (vi 0)] 0 4 v14).bind fun v15 =>
 (ldk (some 2) (List.drop 0 v2)).bind fun v16 =>
 (ldk (some 2) (List.drop 0 (aggL v15))).bind fun v17 =>
 (bin2 Try.prog BinOp.eql 30 (ot 15) (ot 18) v16 v17).bind fun v18 =>
 condV v18 (
 (ldk (some 2) (List.drop 2 (aggL v15))).bind fun v19 =>
 (spliceV (aggL (List.getD vs11 0 V.any)) 0 2 v19).bind fun v20 =>
 (ldk (some 2) (List.drop 0 (aggL v20))).bind fun v21 =>
 some (V.tup [v21, (vb true)])) (
 (ldk (some 2) (List.drop 2 (aggL v15))).bind fun v22 =>
 (bin2 Try.prog BinOp.eql 30 (ot 15) (ot 24) v16 v22).bind fun v23 =>
 condV v23 (
 (ldk (some 2) (List.drop 0 (aggL v15))).bind fun v24 =>
 (spliceV (aggL (List.getD vs11 0 V.any)) 0 2 v24).bind fun v25 =>
 (ldk (some 2) (List.drop 0 (aggL v25))).bind fun v26 =>
 some (V.tup [v26, (vb true)])) (
 (bin2 Try.prog BinOp.add 3 (ot 11) (oc 1) (List.getD vs11 1 V.any) (vi 1)).bind fun v27 =>
 (keepO (some v2) (some v2) (some [(V.agg (aggL (List.getD vs11 0 V.any))), v27])).bind rec10))) (
 J6 [(V.agg (aggL (List.getD vs11 0 V.any)))])) n) := by kernel_rfl
noncomputable def t_topo_Other (a0 : T_Topo) (a1 : T_Spot) : Option (T_Spot × Bool) :=
 join (fun (s7 : T_Spot) =>
 some ((T_Spot.mk 0 0), false)) fun j8 =>
 loopI a0.Links (fun (i19 : Int) x20 (s15 : Unit) k16 =>
 if (decide (a1 = x20.A)) = true then (
 some (x20.B, true)) else (
 if (decide (a1 = x20.B)) = true then (
 some (x20.A, true)) else (
 k16 ()))) (fun (s15 : Unit) =>
 j8 (T_Spot.mk 0 0)) ()
theorem ty_topo_Other {n : Nat} (hn : bigN ≤ n) (a0 : T_Topo) (a1 : T_Spot) : Rv (fun x : (T_Spot × Bool) => V.tup [(T_Spot.e x.1), (vb x.2)]) (sem_topo_Other n [(T_Topo.e a0), (T_Spot.e a1)]) (t_topo_Other a0 a1) := by
  rw [eq_topo_Other]
  unfold t_topo_Other
  refine tb (x := (T_Topo.c a0)) rfl ?_
  refine tb (x := (T_Spot.c a1)) rfl ?_
  refine tb (x := (V.sl (List.map T_Link.c a0.Links))) (rfl) ?_
  refine tb (x := (vi (List.length a0.Links : Int))) (p_len _) ?_
  refine tjoin (mk := fun s7 : T_Spot => [(V.agg (T_Spot.c s7))]) (fun s7 => ?_) fun J6 j8 h9 => ?_
  · refine tb (x := (T_Spot.e (T_Spot.mk 0 0))) (by kernel_rfl) ?_
    refine tb (x := V.agg (T_Spot.c (T_Spot.mk 0 0))) (by kernel_rfl) ?_
    refine tb (x := (T_Spot.e (T_Spot.mk 0 0))) rfl ?_
    exact rf_ret rfl
  · refine tkeepO2 ?_ rfl
    refine tsome ?_
    refine rf_loopI (mk := fun (i19 : Int) (s15 : Unit) => [(V.agg (T_Spot.c (T_Spot.mk 0 0))), (vi (i19 : Int))]) hn a0.Links () (fun i19 x20 h21 h22 h23 s15 rec13 k16 h17 => ?_) (fun s15 rec43 h42 => ?_)
    · refine tb (x := (vb (decide ((i19 : Int) < (List.length a0.Links : Int))))) (d_lss) ?_
      refine tcond_t h23 ?_
      refine tb (x := (V.ptr (T_Link.c x20))) (p_idx_at (c := T_Link.c) (fun _ => rfl) h21) ?_
      refine tb (x := (T_Link.e x20)) (rfl) ?_
      refine tb (x := V.agg (T_Link.c x20)) (by kernel_rfl) ?_
      refine tb (x := (T_Spot.e a1)) (rfl) ?_
      refine tb (x := (T_Spot.e x20.A)) (rfl) ?_
      refine tb (x := (vb (decide (a1 = x20.A)))) (T_Spot.eql a1 x20.A) ?_
      refine tcond (fun h31 => ?_) (fun h31 => ?_)
      · refine tb (x := (T_Spot.e x20.B)) (rfl) ?_
        refine tb (x := V.agg (T_Spot.c x20.B)) (by kernel_rfl) ?_
        refine tb (x := (T_Spot.e x20.B)) rfl ?_
        exact rf_ret rfl
      · refine tb (x := (T_Spot.e x20.B)) (rfl) ?_
        refine tb (x := (vb (decide (a1 = x20.B)))) (T_Spot.eql a1 x20.B) ?_
        refine tcond (fun h37 => ?_) (fun h37 => ?_)
        · refine tb (x := (T_Spot.e x20.A)) (rfl) ?_
          refine tb (x := V.agg (T_Spot.c x20.A)) (by kernel_rfl) ?_
          refine tb (x := (T_Spot.e x20.A)) rfl ?_
          exact rf_ret rfl
        · refine tb (x := (vi ((i19 : Int) + 1))) (p_incN h22) ?_
          refine tkeepO2 ?_ rfl
          refine tsome ?_
          exact h17 ()
    · refine tb (x := (vb (decide ((List.length a0.Links : Int) < (List.length a0.Links : Int))))) (d_lss) ?_
      refine tcond_f h42 ?_
      exact h9 (T_Spot.mk 0 0)

/-! slices.Index   railpoint/api.Hop railpoint/api.Hop  -/
def an_slices_Index_api_Hop_api_Hop : Ann := .seq (.reg 0 [] [] []) (.seq (.seq (.reg 0 [] [] []) (.blk (some []) (.loop [.kb 3, .s 8] (.seq (.reg 0 [] [] []) (.seq (.cond none (.no) (.no)) (.seq (.blk none (.seq (.reg 0 [] [] []) (.seq (.reg 6 [] [] []) (.cond none (.seq (.reg 0 [] [] []) (.no)) (.no))))) (.reg 0 [] [] []))))))) (.seq (.reg 0 [] [] []) (.no)))
noncomputable def sem_slices_Index_api_Hop_api_Hop (n : Nat) (xs : List V) : Option V := if xs.length ≤ 19 then denF Try.prog (envOf []) n Try.f53 an_slices_Index_api_Hop_api_Hop xs else none
theorem ok_slices_Index_api_Hop_api_Hop (n : Nat) : SemOk Try.prog DW 53 (sem_slices_Index_api_Hop_api_Hop n) := fun xs y h => by
  unfold sem_slices_Index_api_Hop_api_Hop at h
  split at h
  · rename_i hl
    exact denF_ok stb Try.func53 (by kernel_rfl) (envOf_ok semsOk_nil) (by rw [Try.ntmps53]; exact hl) h
  · cases h
theorem eq_slices_Index_api_Hop_api_Hop (n : Nat) (x0 x1 : V) : sem_slices_Index_api_Hop_api_Hop n [x0, x1] =
 (V.cellsO x1).bind fun v1 =>
 (lenS [x0]).bind fun v2 =>
 JoinPt (fun vs3 =>
 some (vi (-1 : Int))) fun J4 =>
 (keepO (some v1) (some v1) (some [(vi 0)])).bind (fixN (fun rec5 vs6 =>
 (bin2 Try.prog BinOp.lss 3 (ot 8) (ot 7) (List.getD vs6 0 V.any) v2).bind fun v7 =>
 condV v7 (
 (ldk (some 3) (List.drop 0 v1)).bind fun v8 =>
 (idxS 3 x0 (List.getD vs6 0 V.any)).bind fun v9 =>
 (ldp (some 3) v9).bind fun v10 =>
 (bin2 Try.prog BinOp.eql 76 (ot 11) (ot 15) v8 v10).bind fun v11 =>
 condV v11 (
 some (List.getD vs6 0 V.any)) (
 (bin2 Try.prog BinOp.add 3 (ot 8) (oc 1) (List.getD vs6 0 V.any) (vi 1)).bind fun v12 =>
 (keepO (some v1) (some v1) (some [v12])).bind rec5)) (
 J4 [])) n) := by kernel_rfl
noncomputable def t_slices_Index_api_Hop_api_Hop (a0 : (List T_Hop)) (a1 : T_Hop) : Option Int :=
 join (fun (s5 : Unit) =>
 some (-1 : Int)) fun j6 =>
 loopI a0 (fun (i14 : Int) x15 (s10 : Unit) k11 =>
 if (decide (a1 = x15)) = true then (
 some i14) else (
 k11 ())) (fun (s10 : Unit) =>
 j6 ()) ()
theorem ty_slices_Index_api_Hop_api_Hop {n : Nat} (hn : bigN ≤ n) (a0 : (List T_Hop)) (a1 : T_Hop) : Rv (fun x : Int => (vi x)) (sem_slices_Index_api_Hop_api_Hop n [(V.sl (List.map T_Hop.c a0)), (T_Hop.e a1)]) (t_slices_Index_api_Hop_api_Hop a0 a1) := by
  rw [eq_slices_Index_api_Hop_api_Hop]
  unfold t_slices_Index_api_Hop_api_Hop
  refine tb (x := (T_Hop.c a1)) rfl ?_
  refine tb (x := (vi (List.length a0 : Int))) (p_len _) ?_
  refine tjoin (mk := fun s5 : Unit => []) (fun s5 => ?_) fun J4 j6 h7 => ?_
  · exact rf_ret rfl
  · refine tkeepO2 ?_ rfl
    refine tsome ?_
    refine rf_loopI (mk := fun (i14 : Int) (s10 : Unit) => [(vi (i14 : Int))]) hn a0 () (fun i14 x15 h16 h17 h18 s10 rec8 k11 h12 => ?_) (fun s10 rec27 h26 => ?_)
    · refine tb (x := (vb (decide ((i14 : Int) < (List.length a0 : Int))))) (d_lss) ?_
      refine tcond_t h18 ?_
      refine tb (x := (T_Hop.e a1)) (rfl) ?_
      refine tb (x := (V.ptr (T_Hop.c x15))) (p_idx_at (c := T_Hop.c) (fun _ => rfl) h16) ?_
      refine tb (x := (T_Hop.e x15)) (rfl) ?_
      refine tb (x := (vb (decide (a1 = x15)))) (T_Hop.eql a1 x15) ?_
      refine tcond (fun h24 => ?_) (fun h24 => ?_)
      · exact rf_ret rfl
      · refine tb (x := (vi ((i14 : Int) + 1))) (p_incN h17) ?_
        refine tkeepO2 ?_ rfl
        refine tsome ?_
        exact h12 ()
    · refine tb (x := (vb (decide ((List.length a0 : Int) < (List.length a0 : Int))))) (d_lss) ?_
      refine tcond_f h26 ?_
      exact h7 ()

/-! slices.Contains   railpoint/api.Hop railpoint/api.Hop  -/
def an_slices_Contains_api_Hop_api_Hop : Ann := .seq (.reg 0 [] [] []) (.seq (.reg 0 [] [] []) (.no))
noncomputable def sem_slices_Contains_api_Hop_api_Hop (n : Nat) (xs : List V) : Option V := if xs.length ≤ 9 then denF Try.prog (envOf [(53, (sem_slices_Index_api_Hop_api_Hop n))]) n Try.f48 an_slices_Contains_api_Hop_api_Hop xs else none
theorem ok_slices_Contains_api_Hop_api_Hop (n : Nat) : SemOk Try.prog DW 48 (sem_slices_Contains_api_Hop_api_Hop n) := fun xs y h => by
  unfold sem_slices_Contains_api_Hop_api_Hop at h
  split at h
  · rename_i hl
    exact denF_ok stb Try.func48 (by kernel_rfl) (envOf_ok (semsOk_cons (ok_slices_Index_api_Hop_api_Hop n) semsOk_nil)) (by rw [Try.ntmps48]; exact hl) h
  · cases h
theorem eq_slices_Contains_api_Hop_api_Hop (n : Nat) (x0 x1 : V) : sem_slices_Contains_api_Hop_api_Hop n [x0, x1] =
 (V.cellsO x1).bind fun v1 =>
 (ldk (some 3) (List.drop 0 v1)).bind fun v2 =>
 ((sem_slices_Index_api_Hop_api_Hop n) [x0, v2]).bind fun v3 =>
 (bin2 Try.prog BinOp.geq 3 (ot 7) (oc 0) v3 (vi 0)).bind fun v4 =>
 some v4 := by kernel_rfl
noncomputable def t_slices_Contains_api_Hop_api_Hop (a0 : (List T_Hop)) (a1 : T_Hop) : Option Bool :=
 (t_slices_Index_api_Hop_api_Hop a0 a1).bind fun r4 =>
 some (decide (0 ≤ r4))
theorem ty_slices_Contains_api_Hop_api_Hop {n : Nat} (hn : bigN ≤ n) (a0 : (List T_Hop)) (a1 : T_Hop) : Rv (fun x : Bool => (vb x)) (sem_slices_Contains_api_Hop_api_Hop n [(V.sl (List.map T_Hop.c a0)), (T_Hop.e a1)]) (t_slices_Contains_api_Hop_api_Hop a0 a1) := by
  rw [eq_slices_Contains_api_Hop_api_Hop]
  unfold t_slices_Contains_api_Hop_api_Hop
  refine tb (x := (T_Hop.c a1)) rfl ?_
  refine tb (x := (T_Hop.e a1)) (rfl) ?_
  refine tbo (ty_slices_Index_api_Hop_api_Hop hn a0 a1) fun r4 => ?_
  refine tb (x := (vb (decide (0 ≤ r4)))) (d_geq) ?_
  exact rf_ret rfl

/-! railpoint/net.Go -/
def an_net_Go : Ann := .seq (.reg 0 [] [] []) (.seq (.reg 13 [] [] []) (.seq (.reg 0 [] [] []) (.seq (.seq (.reg 0 [] [] []) (.cond none (.seq (.reg 0 [] [] []) (.seq (.reg 0 [] [] []) (.no))) (.no))) (.seq (.seq (.reg 0 [] [] []) (.seq (.reg 0 [] [] []) (.cond none (.seq (.reg 0 [] [] []) (.seq (.reg 0 [] [] []) (.no))) (.no)))) (.seq (.reg 0 [] [] []) (.seq (.seq (.reg 0 [] [] []) (.cond none (.seq (.reg 0 [] [] []) (.seq (.reg 0 [] [] []) (.no))) (.no))) (.seq (.reg 0 [] [] []) (.seq (.seq (.reg 14 [] [] []) (.cond none (.seq (.reg 0 [] [] []) (.seq (.reg 0 [] [] []) (.no))) (.no))) (.seq (.reg 8 [] [] [1000092]) (.seq (.reg 0 [] [] []) (.no)))))))))))
noncomputable def sem_net_Go (n : Nat) (xs : List V) : Option V := if xs.length ≤ 98 then denM Try.prog (envOf [(45, (sem_net_Out n)), (46, (sem_topo_Host n)), (47, (sem_topo_Other n)), (48, (sem_slices_Contains_api_Hop_api_Hop n)), (49 + 1000000 * (76 + 2), (semClone 3))]) n Try.f38 an_net_Go [0, 0, 2] none xs else none
theorem ok_net_Go (n : Nat) : MSemOk Try.prog DW 38 (sem_net_Go n) := fun xs y h => by
  unfold sem_net_Go at h
  split at h
  · rename_i hl
    exact denM_ok Try.func38 (by kernel_rfl) (envOf_ok (semsOk_cons (ok_net_Out n) (semsOk_cons (ok_topo_Host n) (semsOk_cons (ok_topo_Other n) (semsOk_cons (ok_slices_Contains_api_Hop_api_Hop n) (semsOk_consR (rok_slices_Clone_api_Hop_api_Hop) semsOk_nil)))))) (by rw [Try.ntmps38]; exact hl) (by decide) h
  · cases h
theorem eq_net_Go (n : Nat) (x0 x1 x2 : V) : sem_net_Go n [x0, x1, x2] =
 (pureO x0).bind fun v1 =>
 (pureO x1).bind fun v2 =>
 (objG x2).bind fun v3 =>
 (V.cellsO x0).bind fun v4 =>
 (some V.any).bind fun v5 =>
 (some V.any).bind fun v6 =>
 ((nodeL x2 none 0).bind fun l7 => (ldk none (List.drop 2 l7)).bind pureO).bind fun v8 =>
 (some V.any).bind fun v9 =>
 (some V.any).bind fun v10 =>
 ((nodeL x2 none 0).bind fun l11 => (ldk none (List.drop 2 l11)).bind pureO).bind fun v12 =>
 (lenS [v12]).bind fun v13 =>
 (bin2 Try.prog BinOp.sub 3 (ot 23) (oc 1) v13 (vi 1)).bind fun v14 =>
 (idxS 3 v8 v14).bind fun v15 =>
 (ldp (some 3) v15).bind fun v16 =>
 (spliceV [(vi 0), (vi 0), (vi 0)] 0 3 v16).bind fun v17 =>
 (ldk (some 2) (List.drop 0 (aggL v17))).bind fun v18 =>
 (ldk none (List.drop 2 (aggL v17))).bind fun v19 =>
 ((sem_net_Out n) [x1, v18, v19]).bind fun v20 =>
 (extractV v20 0).bind fun v21 =>
 (extractV v20 1).bind fun v22 =>
 (extractV v20 2).bind fun v23 =>
 (spliceV [(vi 0), (vi 0)] 0 2 v21).bind fun v24 =>
 (scal1 Try.prog (Op.unary Go.UnOp.not) v23).bind fun v25 =>
 condV v25 (
 (some V.any).bind fun v26 =>
 (some V.any).bind fun v27 =>
 (V.cellsO (vi 2)).bind fun v28 =>
 (setV x2 [] (Stp.mk none 0 0) 1 v28).bind fun v29 =>
 some (V.tup [(vb false), V.any, V.any, v29])) (
 (ldk (some 3) (List.drop 0 v4)).bind fun v30 =>
 (ldk (some 2) (List.drop 0 (aggL v24))).bind fun v31 =>
 ((sem_topo_Host n) [v30, v31]).bind fun v32 =>
 (extractV v32 0).bind fun v33 =>
 (extractV v32 1).bind fun v34 =>
 condV v34 (
 (some V.any).bind fun v35 =>
 (some V.any).bind fun v36 =>
 (V.cellsO (vi 1)).bind fun v37 =>
 (setV x2 [] (Stp.mk none 0 0) 1 v37).bind fun v38 =>
 (some V.any).bind fun v39 =>
 (some V.any).bind fun v40 =>
 (V.cellsO v33).bind fun v41 =>
 (setV v38 [] (Stp.mk none 1 0) 1 v41).bind fun v42 =>
 some (V.tup [(vb false), V.any, V.any, v42])) (
 (ldk (some 3) (List.drop 0 v4)).bind fun v43 =>
 (ldk (some 2) (List.drop 0 (aggL v24))).bind fun v44 =>
 ((sem_topo_Other n) [v43, v44]).bind fun v45 =>
 (extractV v45 0).bind fun v46 =>
 (extractV v45 1).bind fun v47 =>
 (spliceV [(vi 0), (vi 0)] 0 2 v46).bind fun v48 =>
 (scal1 Try.prog (Op.unary Go.UnOp.not) v47).bind fun v49 =>
 condV v49 (
 (some V.any).bind fun v50 =>
 (some V.any).bind fun v51 =>
 (V.cellsO (vi 3)).bind fun v52 =>
 (setV x2 [] (Stp.mk none 0 0) 1 v52).bind fun v53 =>
 some (V.tup [(vb false), V.any, V.any, v53])) (
 (ldk (some 2) (List.drop 0 (aggL v48))).bind fun v54 =>
 ((fillL [(vi 0), (vi 0), (vi 0)] [(0, 2, v54), (2, 1, v22)]).map V.agg).bind fun v55 =>
 (spliceV [(vi 0), (vi 0), (vi 0)] 0 3 v55).bind fun v56 =>
 (some V.any).bind fun v57 =>
 (some V.any).bind fun v58 =>
 ((nodeL x2 none 0).bind fun l59 => (ldk none (List.drop 2 l59)).bind pureO).bind fun v60 =>
 (ldk (some 3) (List.drop 0 (aggL v56))).bind fun v61 =>
 ((sem_slices_Contains_api_Hop_api_Hop n) [v60, v61]).bind fun v62 =>
 (guardV v62 false (some V.any)).bind fun v63 =>
 (guardV v62 false (gate v62 false (some V.any))).bind fun v64 =>
 (guardV v62 false (gate v62 false (gate v62 false (some V.any)))).bind fun v65 =>
 (guardV v62 false ((gate v62 false (gate v62 false (gate v62 false ((nodeL x2 none 0).bind fun l66 => (ldk none (List.drop 2 l66)).bind pureO)))).bind fun v67 =>
 some v67)).bind fun v68 =>
 (guardV v62 false ((lenS [v68]).bind fun v69 =>
 some v69)).bind fun v70 =>
 (guardV v62 false ((bin2 Try.prog BinOp.geq 3 (ot 81) (oc 24) v70 (vi 24)).bind fun v71 =>
 some v71)).bind fun v72 =>
 (pickV v62 (vb true) v72).bind fun v73 =>
 condV v73 (
 (some V.any).bind fun v74 =>
 (some V.any).bind fun v75 =>
 (V.cellsO (vi 4)).bind fun v76 =>
 (setV x2 [] (Stp.mk none 0 0) 1 v76).bind fun v77 =>
 some (V.tup [(vb false), V.any, V.any, v77])) (
 (some V.any).bind fun v78 =>
 (some V.any).bind fun v79 =>
 ((nodeL x2 none 0).bind fun l80 => (ldk none (List.drop 2 l80)).bind pureO).bind fun v81 =>
 ((semClone 3) [v81]).bind fun v82 =>
 (ldk (some 3) (List.drop 0 (aggL v56))).bind fun v83 =>
 (slcB 3 1 [(vi 0), (vi 0), (vi 0)] [(0, v83)]).bind fun v84 =>
 (appV 3 (slL3 v82) v84).bind fun v85 =>
 (some V.any).bind fun v86 =>
 (some V.any).bind fun v87 =>
 (V.cellsO (V.sl (slL v85))).bind fun v88 =>
 (setV x2 [] (Stp.mk none 2 0) 1 v88).bind fun v89 =>
 some (V.tup [(vb true), V.any, V.any, v89]))))) := by kernel_rfl
noncomputable def t_net_Go (a0 : T_Topo) (a1 : (List T_Rule)) (a2 : T_Fate) : Option (Bool × T_Fate) :=
 (idx a2.Hops (wr ((List.length a2.Hops : Int) - 1))).bind fun r14 =>
 (t_net_Out a1 r14.At r14.Header).bind fun r20 =>
 if (!r20.2.2) = true then (
 some (false, (T_Fate.mk 2 a2.Host a2.Hops))) else (
 (t_topo_Host a0 r20.1).bind fun r34 =>
 if r34.2 = true then (
 some (false, (T_Fate.mk 1 r34.1 a2.Hops))) else (
 (t_topo_Other a0 r20.1).bind fun r49 =>
 if (!r49.2) = true then (
 some (false, (T_Fate.mk 3 a2.Host a2.Hops))) else (
 (t_slices_Contains_api_Hop_api_Hop a2.Hops (T_Hop.mk r49.1 r20.2.1)).bind fun r67 =>
 if (r67 || (decide (24 ≤ (List.length a2.Hops : Int)))) = true then (
 some (false, (T_Fate.mk 4 a2.Host a2.Hops))) else (
 (cln a2.Hops).bind fun r93 =>
 (app r93 ([(T_Hop.mk r49.1 r20.2.1)] : (List T_Hop))).bind fun r97 =>
 some (true, (T_Fate.mk a2.How a2.Host r97))))))
theorem ty_net_Go {n : Nat} (hn : bigN ≤ n) (a0 : T_Topo) (a1 : (List T_Rule)) (a2 : T_Fate) : Rv (fun x : (Bool × T_Fate) => (V.tup [(vb x.1), V.any, V.any, (V.obj (T_Fate.c x.2))])) (sem_net_Go n [(T_Topo.e a0), (V.sl (List.map T_Rule.c a1)), (V.obj (T_Fate.c a2))]) (t_net_Go a0 a1 a2) := by
  rw [eq_net_Go]
  unfold t_net_Go
  refine tb (x := (T_Topo.e a0)) rfl ?_
  refine tb (x := (V.sl (List.map T_Rule.c a1))) rfl ?_
  refine tb (x := V.any) rfl ?_
  refine tb (x := (T_Topo.c a0)) rfl ?_
  refine tb (x := V.any) rfl ?_
  refine tb (x := V.any) rfl ?_
  refine tb (x := (V.sl (List.map T_Hop.c a2.Hops))) (rfl) ?_
  refine tb (x := V.any) rfl ?_
  refine tb (x := V.any) rfl ?_
  refine tb (x := (V.sl (List.map T_Hop.c a2.Hops))) (rfl) ?_
  refine tb (x := (vi (List.length a2.Hops : Int))) (p_len _) ?_
  refine tb (x := (vi (wr ((List.length a2.Hops : Int) - 1)))) (d_sub) ?_
  refine tbo (p_idx (c := T_Hop.c) (fun _ => rfl) a2.Hops (wr ((List.length a2.Hops : Int) - 1))) fun r14 => ?_
  refine tb (x := (T_Hop.e r14)) (rfl) ?_
  refine tb (x := V.agg (T_Hop.c r14)) (by kernel_rfl) ?_
  refine tb (x := (T_Spot.e r14.At)) (rfl) ?_
  refine tb (x := (vi r14.Header)) (rfl) ?_
  refine tbo (ty_net_Out hn a1 r14.At r14.Header) fun r20 => ?_
  refine tb (x := (T_Spot.e r20.1)) (rfl) ?_
  refine tb (x := (vi r20.2.1)) (rfl) ?_
  refine tb (x := (vb r20.2.2)) (rfl) ?_
  refine tb (x := V.agg (T_Spot.c r20.1)) (by kernel_rfl) ?_
  refine tb (x := (vb (!r20.2.2))) (d_not) ?_
  refine tcond (fun h26 => ?_) (fun h26 => ?_)
  · refine tb (x := V.any) rfl ?_
    refine tb (x := V.any) rfl ?_
    refine tb (x := [(vi 2)]) rfl ?_
    refine tb (x := V.obj (T_Fate.c (T_Fate.mk 2 a2.Host a2.Hops))) (by kernel_rfl) ?_
    exact rf_ret rfl
  · refine tb (x := (T_Topo.e a0)) (rfl) ?_
    refine tb (x := (T_Spot.e r20.1)) (rfl) ?_
    refine tbo (ty_topo_Host hn a0 r20.1) fun r34 => ?_
    refine tb (x := (vt r34.1)) (rfl) ?_
    refine tb (x := (vb r34.2)) (rfl) ?_
    refine tcond (fun h37 => ?_) (fun h37 => ?_)
    · refine tb (x := V.any) rfl ?_
      refine tb (x := V.any) rfl ?_
      refine tb (x := [(vi 1)]) rfl ?_
      refine tb (x := V.obj (T_Fate.c (T_Fate.mk 1 a2.Host a2.Hops))) (by kernel_rfl) ?_
      refine tb (x := V.any) rfl ?_
      refine tb (x := V.any) rfl ?_
      refine tb (x := [(vt r34.1)]) rfl ?_
      refine tb (x := V.obj (T_Fate.c (T_Fate.mk 1 r34.1 a2.Hops))) (by kernel_rfl) ?_
      exact rf_ret rfl
    · refine tb (x := (T_Topo.e a0)) (rfl) ?_
      refine tb (x := (T_Spot.e r20.1)) (rfl) ?_
      refine tbo (ty_topo_Other hn a0 r20.1) fun r49 => ?_
      refine tb (x := (T_Spot.e r49.1)) (rfl) ?_
      refine tb (x := (vb r49.2)) (rfl) ?_
      refine tb (x := V.agg (T_Spot.c r49.1)) (by kernel_rfl) ?_
      refine tb (x := (vb (!r49.2))) (d_not) ?_
      refine tcond (fun h54 => ?_) (fun h54 => ?_)
      · refine tb (x := V.any) rfl ?_
        refine tb (x := V.any) rfl ?_
        refine tb (x := [(vi 3)]) rfl ?_
        refine tb (x := V.obj (T_Fate.c (T_Fate.mk 3 a2.Host a2.Hops))) (by kernel_rfl) ?_
        exact rf_ret rfl
      · refine tb (x := (T_Spot.e r49.1)) (rfl) ?_
        refine tb (x := (T_Hop.e (T_Hop.mk r49.1 r20.2.1))) (by kernel_rfl) ?_
        refine tb (x := V.agg (T_Hop.c (T_Hop.mk r49.1 r20.2.1))) (by kernel_rfl) ?_
        refine tb (x := V.any) rfl ?_
        refine tb (x := V.any) rfl ?_
        refine tb (x := (V.sl (List.map T_Hop.c a2.Hops))) (rfl) ?_
        refine tb (x := (T_Hop.e (T_Hop.mk r49.1 r20.2.1))) (rfl) ?_
        refine tbo (ty_slices_Contains_api_Hop_api_Hop hn a2.Hops (T_Hop.mk r49.1 r20.2.1)) fun r67 => ?_
        refine tg_f (x := V.any) (fun h68 => rfl) ?_
        refine tg_f (x := V.any) (fun h70 => by first | exact gate_pos (not_t h70) (rfl) | (simp only [gv_t h70]; exact gate_pos (not_t h70) (rfl))) ?_
        refine tg_f (x := V.any) (fun h72 => by first | exact gate_pos (not_t h72) (gate_pos (not_t h72) (rfl)) | (simp only [gv_t h72]; exact gate_pos (not_t h72) (gate_pos (not_t h72) (rfl)))) ?_
        refine tg_f (x := (V.sl (List.map T_Hop.c a2.Hops))) (fun h74 => by first | exact bind_some_eq (gate_pos (not_t h74) (gate_pos (not_t h74) (gate_pos (not_t h74) (rfl)))) | (simp only [gv_t h74]; exact bind_some_eq (gate_pos (not_t h74) (gate_pos (not_t h74) (gate_pos (not_t h74) (rfl)))))) ?_
        refine tg_f (x := (vi (List.length a2.Hops : Int))) (fun h77 => by simp only [gv_t h77]; exact bind_some_eq (p_len _)) ?_
        refine tg_f (x := (vb (decide (24 ≤ (List.length a2.Hops : Int))))) (fun h80 => by simp only [gv_t h80]; exact bind_some_eq (d_geq)) ?_
        refine tb (x := (vb (r67 || (decide (24 ≤ (List.length a2.Hops : Int)))))) (pick_or (fun h9 => gv_t (not_f h9))) ?_
        refine tcond (fun h84 => ?_) (fun h84 => ?_)
        · refine tb (x := V.any) rfl ?_
          refine tb (x := V.any) rfl ?_
          refine tb (x := [(vi 4)]) rfl ?_
          refine tb (x := V.obj (T_Fate.c (T_Fate.mk 4 a2.Host a2.Hops))) (by kernel_rfl) ?_
          exact rf_ret rfl
        · refine tb (x := V.any) rfl ?_
          refine tb (x := V.any) rfl ?_
          refine tb (x := (V.sl (List.map T_Hop.c a2.Hops))) (rfl) ?_
          refine tbo (p_clone (c := T_Hop.c) (fun _ => rfl) a2.Hops) fun r93 => ?_
          refine tb (x := (T_Hop.e (T_Hop.mk r49.1 r20.2.1))) (rfl) ?_
          refine tb (x := (V.sl (List.map T_Hop.c ([(T_Hop.mk r49.1 r20.2.1)] : (List T_Hop))))) (by kernel_rfl) ?_
          refine tbo (p_app (c := T_Hop.c) (fun _ => rfl) r93 ([(T_Hop.mk r49.1 r20.2.1)] : (List T_Hop))) fun r97 => ?_
          refine tb (x := V.any) rfl ?_
          refine tb (x := V.any) rfl ?_
          refine tb (x := [(V.sl (List.map T_Hop.c r97))]) rfl ?_
          refine tb (x := V.obj (T_Fate.c (T_Fate.mk a2.How a2.Host r97))) (by kernel_rfl) ?_
          exact rf_ret rfl

/-! railpoint/net.Of -/
def an_net_Of : Ann := .seq (.reg 0 [] [] []) (.seq (.reg 0 [] [] [7]) (.seq (.blk (some [.kb 6, .o 7]) (.loop [.kb 3, .kb 6, .o 7] (.seq (.seq (.reg 17 [] [] []) (.cond none (.no) (.no))) (.blk none (.no))))) (.seq (.reg 0 [] [] []) (.no))))
noncomputable def sem_net_Of (n : Nat) (xs : List V) : Option V := if xs.length ≤ 30 then denF Try.prog (envOf [(37, (sem_net_Begin n)), (38 + 1000000, (sem_net_Go n))]) n Try.f21 an_net_Of xs else none
theorem ok_net_Of (n : Nat) : SemOk Try.prog DW 21 (sem_net_Of n) := fun xs y h => by
  unfold sem_net_Of at h
  split at h
  · rename_i hl
    exact denF_ok stb Try.func21 (by kernel_rfl) (envOf_ok (semsOk_cons (ok_net_Begin n) (semsOk_consM (ok_net_Go n) semsOk_nil))) (by rw [Try.ntmps21]; exact hl) h
  · cases h
theorem eq_net_Of (n : Nat) (x0 x1 x2 : V) : sem_net_Of n [x0, x1, x2] =
 (V.cellsO x0).bind fun v1 =>
 (V.cellsO x1).bind fun v2 =>
 (ldk (some 2) (List.drop 0 v2)).bind fun v3 =>
 ((sem_net_Begin n) [v3, x2]).bind fun v4 =>
 (V.cellsO v4).bind fun v5 =>
 (setV (V.obj [(vi 0), (V.lit (Go.Value.string (ByteArray.mk #[]))), (V.sl [])]) [] (Stp.mk none 0 0) 3 v5).bind fun v6 =>
 JoinPt (fun vs7 =>
 ((nodeL (List.getD vs7 0 V.any) none 0).bind fun l9 => (ldk (some 3) (List.drop 0 l9)).bind pureO).bind fun v10 =>
 (spliceV [(vi 0), (V.lit (Go.Value.string (ByteArray.mk #[]))), (V.sl [])] 0 3 v10).bind fun v11 =>
 (ldk (some 3) (List.drop 0 (aggL v11))).bind fun v12 =>
 some v12) fun J8 =>
 (keepO (some v1) (some v1) (keepO (some [(vi 0), (V.lit (Go.Value.string (ByteArray.mk #[]))), (V.sl [])]) (some [(vi 0), (V.lit (Go.Value.string (ByteArray.mk #[]))), (V.sl [])]) (some [v6]))).bind (fixN (fun rec13 vs14 =>
 (ldk (some 3) (List.drop 0 v1)).bind fun v15 =>
 (ldk none (List.drop 3 v1)).bind fun v16 =>
 (some V.any).bind fun v17 =>
 ((nodeL (List.getD vs14 0 V.any) none 0).bind fun l18 => (ldk none (List.drop 2 l18)).bind pureO).bind fun v19 =>
 (some V.any).bind fun v20 =>
 ((nodeL (List.getD vs14 0 V.any) none 0).bind fun l21 => (ldk none (List.drop 2 l21)).bind pureO).bind fun v22 =>
 (lenS [v22]).bind fun v23 =>
 (bin2 Try.prog BinOp.sub 3 (ot 19) (oc 1) v23 (vi 1)).bind fun v24 =>
 (idxS 3 v19 v24).bind fun v25 =>
 (ptrF 0 v25).bind fun v26 =>
 (ptrF 0 v26).bind fun v27 =>
 (ldp none v27).bind fun v28 =>
 (bin2 Try.prog BinOp.sub 3 (ot 24) (oc 1) v28 (vi 1)).bind fun v29 =>
 (idxS 1 v16 v29).bind fun v30 =>
 (ldp none v30).bind fun v31 =>
 (objG (List.getD vs14 0 V.any)).bind fun v32 =>
 ((sem_net_Go n) [v15, v31, (List.getD vs14 0 V.any)]).bind fun z33 =>
 (pureO (tupAt z33 0)).bind fun v34 =>
 condV v34 (
 (keepO (some v1) (some v1) (keepO (some [(vi 0), (V.lit (Go.Value.string (ByteArray.mk #[]))), (V.sl [])]) (some [(vi 0), (V.lit (Go.Value.string (ByteArray.mk #[]))), (V.sl [])]) (some [(tupAt z33 3)]))).bind rec13) (
 (keepO (some [(vi 0), (V.lit (Go.Value.string (ByteArray.mk #[]))), (V.sl [])]) (some [(vi 0), (V.lit (Go.Value.string (ByteArray.mk #[]))), (V.sl [])]) (some [(tupAt z33 3)])).bind J8)) n) := by kernel_rfl
noncomputable def t_net_Of (a0 : T_Net) (a1 : T_Spot) (a2 : Int) : Option T_Fate :=
 (t_net_Begin a1 a2).bind fun r5 =>
 (tfix (fun k19 (s18 : T_Fate) =>
 (idx s18.Hops (wr ((List.length s18.Hops : Int) - 1))).bind fun r32 =>
 (idx a0.Tables (wr (r32.At.Switch - 1))).bind fun r38 =>
 (t_net_Go a0.Topo r38 s18).bind fun r42 =>
 if r42.1 = true then (
 k19 (r42.2)) else (
 some (r42.2))) bigN (r5)).bind fun (s10 : T_Fate) =>
 some s10
theorem ty_net_Of {n : Nat} (hn : bigN ≤ n) (a0 : T_Net) (a1 : T_Spot) (a2 : Int) : Rv (fun x : T_Fate => (T_Fate.e x)) (sem_net_Of n [(T_Net.e a0), (T_Spot.e a1), (vi a2)]) (t_net_Of a0 a1 a2) := by
  rw [eq_net_Of]
  unfold t_net_Of
  refine tb (x := (T_Net.c a0)) rfl ?_
  refine tb (x := (T_Spot.c a1)) rfl ?_
  refine tb (x := (T_Spot.e a1)) (rfl) ?_
  refine tbo (ty_net_Begin hn a1 a2) fun r5 => ?_
  refine tb (x := (T_Fate.c r5)) rfl ?_
  refine tb (x := V.obj (T_Fate.c r5)) (by kernel_rfl) ?_
  refine tjb (mk := fun s10 : T_Fate => [(V.obj (T_Fate.c s10))]) (fun J9 => ?_) fun s10 => ?_
  · refine tkeepO2 ?_ rfl
    refine tkeepO2 ?_ rfl
    refine tsome ?_
    refine rf_fixN (mk := fun (s18 : T_Fate) => [(V.obj (T_Fate.c s18))]) hn (r5) (fun rec16 k19 h20 s18 => ?_)
    refine tb (x := (T_Topo.e a0.Topo)) (rfl) ?_
    refine tb (x := (V.sl (List.map (cS T_Rule.c) a0.Tables))) (rfl) ?_
    refine tb (x := V.any) rfl ?_
    refine tb (x := (V.sl (List.map T_Hop.c s18.Hops))) (rfl) ?_
    refine tb (x := V.any) rfl ?_
    refine tb (x := (V.sl (List.map T_Hop.c s18.Hops))) (rfl) ?_
    refine tb (x := (vi (List.length s18.Hops : Int))) (p_len _) ?_
    refine tb (x := (vi (wr ((List.length s18.Hops : Int) - 1)))) (d_sub) ?_
    refine tbo (p_idx (c := T_Hop.c) (fun _ => rfl) s18.Hops (wr ((List.length s18.Hops : Int) - 1))) fun r32 => ?_
    refine tb (x := (V.ptr (T_Hop.c r32))) (rfl) ?_
    refine tb (x := (V.ptr (T_Hop.c r32))) (rfl) ?_
    refine tb (x := (vi r32.At.Switch)) (rfl) ?_
    refine tb (x := (vi (wr (r32.At.Switch - 1)))) (d_sub) ?_
    refine tbo (p_idx (c := (cS T_Rule.c)) (fun _ => rfl) a0.Tables (wr (r32.At.Switch - 1))) fun r38 => ?_
    refine tb (x := (V.sl (List.map T_Rule.c r38))) (rfl) ?_
    refine tb (x := V.any) rfl ?_
    refine tbo (ty_net_Go hn a0.Topo r38 s18) fun r42 => ?_
    refine tb (x := (vb r42.1)) rfl ?_
    refine tcond (fun h44 => ?_) (fun h44 => ?_)
    · refine tkeepO2 ?_ rfl
      refine tkeepO2 ?_ rfl
      refine tsome ?_
      exact h20 (r42.2)
    · refine tkeepO2 ?_ rfl
      refine tsome ?_
      exact rf_j rfl
  · refine tb (x := (T_Fate.e s10)) (rfl) ?_
    refine tb (x := V.agg (T_Fate.c s10)) (by kernel_rfl) ?_
    refine tb (x := (T_Fate.e s10)) rfl ?_
    exact rf_ret rfl

/-! railpoint/load.fates -/
def an_load_fates : Ann := .seq (.reg 0 [] [] []) (.seq (.seq (.reg 0 [] [] []) (.blk (some [.s 2]) (.loop [.kb 1, .r 2 52, .s 10] (.seq (.reg 0 [] [] []) (.seq (.cond none (.no) (.no)) (.seq (.blk (some [.kb 1, .r 2 52]) (.seq (.reg 0 [] [] []) (.seq (.reg 0 [] [] []) (.blk (some [.kb 1, .r 2 52]) (.loop [.kb 1, .kb 4, .r 2 52, .s 14] (.seq (.reg 0 [] [] []) (.seq (.cond none (.no) (.no)) (.seq (.blk none (.seq (.reg 0 [] [] []) (.reg 0 [] [] []))) (.reg 0 [] [] []))))))))) (.reg 0 [] [] []))))))) (.seq (.reg 0 [] [] []) (.no)))
noncomputable def sem_load_fates (n : Nat) (xs : List V) : Option V := if xs.length ≤ 28 then denF Try.prog (envOf [(21, (sem_net_Of n))]) n Try.f12 an_load_fates xs else none
theorem ok_load_fates (n : Nat) : SemOk Try.prog DW 12 (sem_load_fates n) := fun xs y h => by
  unfold sem_load_fates at h
  split at h
  · rename_i hl
    exact denF_ok stb Try.func12 (by kernel_rfl) (envOf_ok (semsOk_cons (ok_net_Of n) semsOk_nil)) (by rw [Try.ntmps12]; exact hl) h
  · cases h
theorem eq_load_fates (n : Nat) (x0 : V) : sem_load_fates n [x0] =
 (V.cellsO x0).bind fun v1 =>
 (ldk none (List.drop 2 v1)).bind fun v2 =>
 (lenS [v2]).bind fun v3 =>
 JoinPt (fun vs4 =>
 some (List.getD vs4 0 V.any)) fun J5 =>
 (keepO (some v1) (some v1) (some [(V.sl []), (vi 0)])).bind (fixN (fun rec6 vs7 =>
 (bin2 Try.prog BinOp.lss 3 (ot 10) (ot 9) (List.getD vs7 1 V.any) v3).bind fun v8 =>
 condV v8 (
 JoinPt (fun vs9 =>
 (bin2 Try.prog BinOp.add 3 (ot 10) (oc 1) (List.getD vs7 1 V.any) (vi 1)).bind fun v11 =>
 (keepO (some v1) (some v1) (some [(V.sl (slL (List.getD vs9 0 V.any))), v11])).bind rec6) fun J10 =>
 (idxS 3 v2 (List.getD vs7 1 V.any)).bind fun v12 =>
 (ldp (some 3) v12).bind fun v13 =>
 (spliceV [(V.lit (Go.Value.string (ByteArray.mk #[]))), (vi 0), (vi 0)] 0 3 v13).bind fun v14 =>
 JoinPt (fun vs15 =>
 (keepO (some v1) (some v1) (some [(V.sl (slL (List.getD vs15 0 V.any)))])).bind J10) fun J16 =>
 (keepO (some v1) (some v1) (keepO (some (aggL v14)) (some (aggL v14)) (some [(V.sl (slL (List.getD vs7 0 V.any))), (vi 0)]))).bind (fixN (fun rec17 vs18 =>
 (bin2 Try.prog BinOp.lss 3 (ot 14) (oc 16) (List.getD vs18 1 V.any) (vi 16)).bind fun v19 =>
 condV v19 (
 (ldk (some 4) (List.drop 0 v1)).bind fun v20 =>
 (ldk (some 2) (List.drop 1 (aggL v14))).bind fun v21 =>
 ((sem_net_Of n) [v20, v21, (List.getD vs18 1 V.any)]).bind fun v22 =>
 (slcB 3 1 [(vi 0), (V.lit (Go.Value.string (ByteArray.mk #[]))), (V.sl [])] [(0, v22)]).bind fun v23 =>
 (appV 3 (slL (List.getD vs18 0 V.any)) v23).bind fun v24 =>
 (bin2 Try.prog BinOp.add 3 (ot 14) (oc 1) (List.getD vs18 1 V.any) (vi 1)).bind fun v25 =>
 (keepO (some v1) (some v1) (keepO (some (aggL v14)) (some (aggL v14)) (some [(V.sl (slL v24)), v25]))).bind rec17) (
 (keepO (some v1) (some v1) (some [(V.sl (slL (List.getD vs18 0 V.any)))])).bind J16)) n)) (
 J5 [(V.sl (slL (List.getD vs7 0 V.any)))])) n) := by kernel_rfl
noncomputable def t_load_fates (a0 : T_Net) : Option (List T_Fate) :=
 (loopI a0.Topo.Hosts (fun (i15 : Int) x16 (s11 : (List T_Fate)) k12 =>
 ((loopU 0 16 (fun (i41 : Int) (s37 : (List T_Fate)) k38 =>
 (t_net_Of a0 x16.At i41).bind fun r51 =>
 (app s37 ([r51] : (List T_Fate))).bind fun r54 =>
 k38 (r54)) (fun (i41 : Int) (s37 : (List T_Fate)) =>
 some (s37)) (s11)).bind fun (s32 : (List T_Fate)) =>
 some (s32)).bind fun (s23 : (List T_Fate)) =>
 k12 (s23)) (fun (s11 : (List T_Fate)) =>
 some (s11)) ([])).bind fun (s6 : (List T_Fate)) =>
 some s6
theorem ty_load_fates {n : Nat} (hn : bigN ≤ n) (a0 : T_Net) : Rv (fun x : (List T_Fate) => (V.sl (List.map T_Fate.c x))) (sem_load_fates n [(T_Net.e a0)]) (t_load_fates a0) := by
  rw [eq_load_fates]
  unfold t_load_fates
  refine tb (x := (T_Net.c a0)) rfl ?_
  refine tb (x := (V.sl (List.map T_Host.c a0.Topo.Hosts))) (rfl) ?_
  refine tb (x := (vi (List.length a0.Topo.Hosts : Int))) (p_len _) ?_
  refine tjb (mk := fun s6 : (List T_Fate) => [(V.sl (List.map T_Fate.c s6))]) (fun J5 => ?_) fun s6 => ?_
  · refine tkeepO2 ?_ rfl
    refine tsome ?_
    refine rf_loopI (mk := fun (i15 : Int) (s11 : (List T_Fate)) => [(V.sl (List.map T_Fate.c s11)), (vi (i15 : Int))]) hn a0.Topo.Hosts ([]) (fun i15 x16 h17 h18 h19 s11 rec9 k12 h13 => ?_) (fun s11 rec58 h57 => ?_)
    · refine tb (x := (vb (decide ((i15 : Int) < (List.length a0.Topo.Hosts : Int))))) (d_lss) ?_
      refine tcond_t h19 ?_
      refine tjb (mk := fun s23 : (List T_Fate) => [(V.sl (List.map T_Fate.c s23))]) (fun J22 => ?_) fun s23 => ?_
      · refine tb (x := (V.ptr (T_Host.c x16))) (p_idx_at (c := T_Host.c) (fun _ => rfl) h17) ?_
        refine tb (x := (T_Host.e x16)) (rfl) ?_
        refine tb (x := V.agg (T_Host.c x16)) (by kernel_rfl) ?_
        refine tjb (mk := fun s32 : (List T_Fate) => [(V.sl (List.map T_Fate.c s32))]) (fun J31 => ?_) fun s32 => ?_
        · refine tkeepO2 ?_ rfl
          refine tkeepO2 ?_ rfl
          refine tsome ?_
          refine rf_loopU (mk := fun (i41 : Int) (s37 : (List T_Fate)) => [(V.sl (List.map T_Fate.c s37)), (vi i41)]) hn _ _ (s11) (fun i41 h42 h43 h44 s37 rec35 k38 h39 => ?_) (fun i41 s37 rec46 h45 => ?_)
          · refine tb (x := (vb (decide (i41 < 16)))) (d_lss) ?_
            refine tcond_t h42 ?_
            refine tb (x := (T_Net.e a0)) (rfl) ?_
            refine tb (x := (T_Spot.e x16.At)) (rfl) ?_
            refine tbo (ty_net_Of hn a0 x16.At i41) fun r51 => ?_
            refine tb (x := (V.sl (List.map T_Fate.c ([r51] : (List T_Fate))))) (by kernel_rfl) ?_
            refine tbo (p_app (c := T_Fate.c) (fun _ => rfl) s37 ([r51] : (List T_Fate))) fun r54 => ?_
            refine tb (x := (vi (i41 + 1))) (p_inc h43 h44) ?_
            refine tkeepO2 ?_ rfl
            refine tkeepO2 ?_ rfl
            refine tsome ?_
            exact h39 (r54)
          · refine tb (x := (vb (decide (i41 < 16)))) (d_lss) ?_
            refine tcond_f h45 ?_
            refine tkeepO2 ?_ rfl
            refine tsome ?_
            exact rf_j rfl
        · refine tkeepO2 ?_ rfl
          refine tsome ?_
          exact rf_j rfl
      · refine tb (x := (vi ((i15 : Int) + 1))) (p_incN h18) ?_
        refine tkeepO2 ?_ rfl
        refine tsome ?_
        exact h13 (s23)
    · refine tb (x := (vb (decide ((List.length a0.Topo.Hosts : Int) < (List.length a0.Topo.Hosts : Int))))) (d_lss) ?_
      refine tcond_f h57 ?_
      exact rf_j rfl
  · exact rf_ret rfl

/-! railpoint/load.Pairs$1 -/
def an_load_Pairs_1 : Ann := .seq (.reg 0 [] [] []) (.seq (.reg 0 [] [] []) (.no))
noncomputable def sem_load_Pairs_1 (n : Nat) (xs : List V) : Option V := if xs.length ≤ 14 then denF Try.prog (envOf []) n Try.f14 an_load_Pairs_1 xs else none
theorem ok_load_Pairs_1 (n : Nat) : SemOk Try.prog DW 14 (sem_load_Pairs_1 n) := fun xs y h => by
  unfold sem_load_Pairs_1 at h
  split at h
  · rename_i hl
    exact denF_ok stb Try.func14 (by kernel_rfl) (envOf_ok semsOk_nil) (by rw [Try.ntmps14]; exact hl) h
  · cases h
theorem eq_load_Pairs_1 (n : Nat) (x0 x1 : V) : sem_load_Pairs_1 n [x0, x1] =
 (V.cellsO x0).bind fun v1 =>
 (ptrF 0 x1).bind fun v2 =>
 (ldp none v2).bind fun v3 =>
 (bin2 Try.prog BinOp.eql 3 (ot 5) (oc 1) v3 (vi 1)).bind fun v4 =>
 (guardV v4 true (some V.any)).bind fun v5 =>
 (guardV v4 true ((gate v4 true (ldk none (List.drop 0 v1))).bind fun v6 =>
 some v6)).bind fun v7 =>
 (guardV v4 true ((ptrF 1 x1).bind fun v8 =>
 some v8)).bind fun v9 =>
 (guardV v4 true ((ldp none v9).bind fun v10 =>
 some v10)).bind fun v11 =>
 (guardV v4 true ((bin2 Try.prog BinOp.eql 9 (ot 9) (ot 11) v7 v11).bind fun v12 =>
 some v12)).bind fun v13 =>
 (pickV v4 v13 (vb false)).bind fun v14 =>
 some v14 := by kernel_rfl
noncomputable def t_load_Pairs_1 (a0 : T_Host) (a1 : T_Fate) : Option Bool :=
 some ((decide (a1.How = 1)) && (decide (a0.Name = a1.Host)))
theorem ty_load_Pairs_1 {n : Nat} (hn : bigN ≤ n) (a0 : T_Host) (a1 : T_Fate) : Rv (fun x : Bool => (vb x)) (sem_load_Pairs_1 n [(T_Host.e a0), (V.ptr (T_Fate.c a1))]) (t_load_Pairs_1 a0 a1) := by
  rw [eq_load_Pairs_1]
  unfold t_load_Pairs_1
  refine tb (x := (T_Host.c a0)) rfl ?_
  refine tb (x := (V.ptr (T_Fate.c a1))) (rfl) ?_
  refine tb (x := (vi a1.How)) (rfl) ?_
  refine tb (x := (vb (decide (a1.How = 1)))) (d_eql) ?_
  refine tg (x := V.any) (fun h5 => rfl) ?_
  refine tg (x := (vt a0.Name)) (fun h7 => bind_some_eq (gate_pos h7 (rfl))) ?_
  refine tg (x := (V.ptr (List.drop 1 (T_Fate.c a1)))) (fun h10 => bind_some_eq (rfl)) ?_
  refine tg (x := (vt a1.Host)) (fun h13 => by first | exact bind_some_eq (rfl) | (simp only [gv_t h13]; exact bind_some_eq (rfl))) ?_
  refine tg (x := (vb (decide (a0.Name = a1.Host)))) (fun h16 => by simp only [gv_t h16]; exact bind_some_eq (p_eql_str)) ?_
  refine tb (x := (vb ((decide (a1.How = 1)) && (decide (a0.Name = a1.Host))))) (pick_and (fun h9 => gv_t h9)) ?_
  exact rf_ret rfl

/-! railpoint/load.Pairs -/
def an_load_Pairs : Ann := .seq (.reg 0 [] [] []) (.seq (.seq (.reg 0 [] [] []) (.seq (.reg 0 [] [] []) (.cond none (.seq (.reg 0 [] [] []) (.no)) (.no)))) (.seq (.reg 0 [] [] []) (.seq (.reg 0 [] [] []) (.seq (.seq (.reg 0 [] [] []) (.blk (some [.o 6]) (.loop [.o 6, .s 27] (.seq (.reg 0 [] [] []) (.seq (.cond none (.no) (.no)) (.seq (.blk none (.seq (.reg 0 [] [] []) (.seq (.reg 0 [8] [] []) (.seq (.reg 0 [] [] []) (.cond (some [.o 6]) (.reg 0 [] [] []) (.no)))))) (.reg 0 [] [] []))))))) (.seq (.reg 0 [6] [] []) (.no))))))
noncomputable def sem_load_Pairs (n : Nat) (xs : List V) : Option V := if xs.length ≤ 51 then denF Try.prog (envOf [(11, (sem_net_Check n)), (12, (sem_load_fates n)), (13, (sem_slices_IndexFunc_api_Host_api_Host (envOf [(14, (sem_load_Pairs_1 n))]) n)), (14, (sem_load_Pairs_1 n))]) n Try.f4 an_load_Pairs xs else none
theorem ok_load_Pairs (n : Nat) : SemOk Try.prog DW 4 (sem_load_Pairs n) := fun xs y h => by
  unfold sem_load_Pairs at h
  split at h
  · rename_i hl
    exact denF_ok stb Try.func4 (by kernel_rfl) (envOf_ok (semsOk_cons (ok_net_Check n) (semsOk_cons (ok_load_fates n) (semsOk_cons (ok_slices_IndexFunc_api_Host_api_Host (envOf_ok (semsOk_cons (ok_load_Pairs_1 n) semsOk_nil)) n) (semsOk_cons (ok_load_Pairs_1 n) semsOk_nil))))) (by rw [Try.ntmps4]; exact hl) h
  · cases h
theorem eq_load_Pairs (n : Nat) (x0 : V) : sem_load_Pairs n [x0] =
 (V.cellsO x0).bind fun v1 =>
 (ldk (some 4) (List.drop 0 v1)).bind fun v2 =>
 ((sem_net_Check n) [v2]).bind fun v3 =>
 (bin2 Try.prog BinOp.neq 41 (ot 12) (Operand.const Go.Value.nilIface) v3 vn).bind fun v4 =>
 condV v4 (
 some (V.tup [(V.sl []), v3])) (
 (ldk none (List.drop 2 v1)).bind fun v5 =>
 (lenS [v5]).bind fun v6 =>
 (lenS [v5]).bind fun v7 =>
 (bin2 Try.prog BinOp.mul 3 (ot 19) (ot 21) v6 v7).bind fun v8 =>
 (makeN 1 [(vi 0)] v8 v8).bind fun v9 =>
 (ldk (some 4) (List.drop 0 v1)).bind fun v10 =>
 ((sem_load_fates n) [v10]).bind fun v11 =>
 (lenS [v11]).bind fun v12 =>
 JoinPt (fun vs13 =>
 (some (frz (List.getD vs13 0 V.any))).bind fun v15 =>
 some (V.tup [v15, vn])) fun J14 =>
 (fixN (fun rec16 vs17 =>
 (bin2 Try.prog BinOp.lss 3 (ot 27) (ot 26) (List.getD vs17 1 V.any) v12).bind fun v18 =>
 condV v18 (
 (idxS 3 v11 (List.getD vs17 1 V.any)).bind fun v19 =>
 (ldp (some 3) v19).bind fun v20 =>
 (spliceV [(vi 0), (V.lit (Go.Value.string (ByteArray.mk #[]))), (V.sl [])] 0 3 v20).bind fun v21 =>
 ((sem_slices_IndexFunc_api_Host_api_Host (envOf [(14, (sem_load_Pairs_1 n))]) n) [v5, (V.fn 14 [(V.ptr (aggL v21))])]).bind fun v22 =>
 (bin2 Try.prog BinOp.geq 3 (ot 35) (oc 0) v22 (vi 0)).bind fun v23 =>
 JoinPt (fun vs24 =>
 (bin2 Try.prog BinOp.add 3 (ot 27) (oc 1) (List.getD vs17 1 V.any) (vi 1)).bind fun v26 =>
 rec16 [(List.getD vs24 0 V.any), v26]) fun J25 =>
 condV v23 (
 (bin2 Try.prog BinOp.quo 3 (ot 38) (oc 16) (List.getD vs17 1 V.any) (vi 16)).bind fun v27 =>
 (lenS [v5]).bind fun v28 =>
 (bin2 Try.prog BinOp.mul 3 (ot 39) (ot 41) v27 v28).bind fun v29 =>
 (bin2 Try.prog BinOp.add 3 (ot 42) (ot 43) v29 v22).bind fun v30 =>
 ((oslR (List.getD vs17 0 V.any)).bind fun rows31 => inB (List.length rows31) v30).bind fun v32 =>
 ((nodeL (List.getD vs17 0 V.any) (some (natOf v30)) 1).bind fun l33 => (ldk none (List.drop 0 l33)).bind pureO).bind fun v34 =>
 (bin2 Try.prog BinOp.add 3 (ot 46) (oc 1) v34 (vi 1)).bind fun v35 =>
 ((oslR (List.getD vs17 0 V.any)).bind fun rows36 => inB (List.length rows36) v30).bind fun v37 =>
 (V.cellsO v35).bind fun v38 =>
 (setV (List.getD vs17 0 V.any) [] (Stp.mk (some (natOf v30)) 0 1) 1 v38).bind fun v39 =>
 J25 [v39]) (
 J25 [(List.getD vs17 0 V.any)])) (
 J14 [(List.getD vs17 0 V.any)])) n) [v9, (vi 0)]) := by kernel_rfl
noncomputable def t_load_Pairs (a0 : T_Net) : Option ((List Int) × Int) :=
 (t_net_Check a0).bind fun r4 =>
 if (!decide (r4 = 0)) = true then (
 some ([], r4)) else (
 (omake (wr ((List.length a0.Topo.Hosts : Int) * (List.length a0.Topo.Hosts : Int))) (wr ((List.length a0.Topo.Hosts : Int) * (List.length a0.Topo.Hosts : Int))) 0).bind fun r12 =>
 (t_load_fates a0).bind fun r15 =>
 (loopI r15 (fun (i29 : Int) x30 (s25 : (List Int)) k26 =>
 (t_slices_IndexFunc_api_Host_api_Host a0.Topo.Hosts (fun (a38 : T_Host) => t_load_Pairs_1 a38 x30)).bind fun r40 =>
 (if (decide (0 ≤ r40)) = true then (
 need (decide (0 ≤ (wr ((wr ((wr (Int.tdiv i29 16)) * (List.length a0.Topo.Hosts : Int))) + r40))) && decide ((wr ((wr ((wr (Int.tdiv i29 16)) * (List.length a0.Topo.Hosts : Int))) + r40)) < (List.length s25 : Int))) (
 (idx s25 (wr ((wr ((wr (Int.tdiv i29 16)) * (List.length a0.Topo.Hosts : Int))) + r40))).bind fun r56 =>
 need (decide (0 ≤ (wr ((wr ((wr (Int.tdiv i29 16)) * (List.length a0.Topo.Hosts : Int))) + r40))) && decide ((wr ((wr ((wr (Int.tdiv i29 16)) * (List.length a0.Topo.Hosts : Int))) + r40)) < (List.length s25 : Int))) (
 (oset s25 (wr ((wr ((wr (Int.tdiv i29 16)) * (List.length a0.Topo.Hosts : Int))) + r40)) (wr (r56 + 1))).bind fun r62 =>
 some (r62)))) else (
 some (s25))).bind fun (s44 : (List Int)) =>
 k26 (s44)) (fun (s25 : (List Int)) =>
 some (s25)) (r12)).bind fun (s19 : (List Int)) =>
 some (s19, 0))
theorem ty_load_Pairs {n : Nat} (hn : bigN ≤ n) (a0 : T_Net) : Rv (fun x : ((List Int) × Int) => V.tup [(V.sl (List.map cI x.1)), (eV x.2)]) (sem_load_Pairs n [(T_Net.e a0)]) (t_load_Pairs a0) := by
  rw [eq_load_Pairs]
  unfold t_load_Pairs
  refine tb (x := (T_Net.c a0)) rfl ?_
  refine tb (x := (T_Net.e a0)) (rfl) ?_
  refine tbo (ty_net_Check hn a0) fun r4 => ?_
  refine tb (x := (vb (!decide (r4 = 0)))) (p_err_neq _) ?_
  refine tcond (fun h6 => ?_) (fun h6 => ?_)
  · exact rf_ret rfl
  · refine tb (x := (V.sl (List.map T_Host.c a0.Topo.Hosts))) (rfl) ?_
    refine tb (x := (vi (List.length a0.Topo.Hosts : Int))) (p_len _) ?_
    refine tb (x := (vi (List.length a0.Topo.Hosts : Int))) (p_len _) ?_
    refine tb (x := (vi (wr ((List.length a0.Topo.Hosts : Int) * (List.length a0.Topo.Hosts : Int))))) (d_mul) ?_
    refine tbo (p_omake (c := cI) (wr ((List.length a0.Topo.Hosts : Int) * (List.length a0.Topo.Hosts : Int))) (wr ((List.length a0.Topo.Hosts : Int) * (List.length a0.Topo.Hosts : Int))) 0 rfl) fun r12 => ?_
    refine tb (x := (T_Net.e a0)) (rfl) ?_
    refine tbo (ty_load_fates hn a0) fun r15 => ?_
    refine tb (x := (vi (List.length r15 : Int))) (p_len _) ?_
    refine tjb (mk := fun s19 : (List Int) => [(V.osl 1 (List.map cI s19))]) (fun J18 => ?_) fun s19 => ?_
    · refine rf_loopI (mk := fun (i29 : Int) (s25 : (List Int)) => [(V.osl 1 (List.map cI s25)), (vi (i29 : Int))]) hn r15 (r12) (fun i29 x30 h31 h32 h33 s25 rec23 k26 h27 => ?_) (fun s25 rec66 h65 => ?_)
      · refine tb (x := (vb (decide ((i29 : Int) < (List.length r15 : Int))))) (d_lss) ?_
        refine tcond_t h33 ?_
        refine tb (x := (V.ptr (T_Fate.c x30))) (p_idx_at (c := T_Fate.c) (fun _ => rfl) h31) ?_
        refine tb (x := (T_Fate.e x30)) (rfl) ?_
        refine tb (x := V.agg (T_Fate.c x30)) (by kernel_rfl) ?_
        refine tbo (ty_slices_IndexFunc_api_Host_api_Host (E := (envOf [(14, (sem_load_Pairs_1 n))])) (x1 := (V.fn 14 [(V.ptr (T_Fate.c x30))])) (g1 := (fun (a38 : T_Host) => t_load_Pairs_1 a38 x30)) hn a0.Topo.Hosts (fun a38 => ty_load_Pairs_1 hn a38 x30)) fun r40 => ?_
        refine tb (x := (vb (decide (0 ≤ r40)))) (d_geq) ?_
        refine tjb (mk := fun s44 : (List Int) => [(V.osl 1 (List.map cI s44))]) (fun J43 => ?_) fun s44 => ?_
        · refine tcond (fun h48 => ?_) (fun h48 => ?_)
          · refine tb (x := (vi (wr (Int.tdiv (i29 : Int) 16)))) (p_quo (by decide)) ?_
            refine tb (x := (vi (List.length a0.Topo.Hosts : Int))) (p_len _) ?_
            refine tb (x := (vi (wr ((wr (Int.tdiv (i29 : Int) 16)) * (List.length a0.Topo.Hosts : Int))))) (d_mul) ?_
            refine tb (x := (vi (wr ((wr ((wr (Int.tdiv (i29 : Int) 16)) * (List.length a0.Topo.Hosts : Int))) + r40)))) (d_add) ?_
            refine tneed (x := V.any) (fun h64 => p_inB s25 (wr ((wr ((wr (Int.tdiv (i29 : Int) 16)) * (List.length a0.Topo.Hosts : Int))) + r40)) h64) fun h64 => ?_
            refine tbo (p_oload (e1 := fun x : Int => (vi x)) (c := cI) (fun _ => rfl) s25 (wr ((wr ((wr (Int.tdiv (i29 : Int) 16)) * (List.length a0.Topo.Hosts : Int))) + r40)) (fun _ => rfl)) fun r56 => ?_
            refine tb (x := (vi (wr (r56 + 1)))) (d_add) ?_
            refine tneed (x := V.any) (fun h63 => p_inB s25 (wr ((wr ((wr (Int.tdiv (i29 : Int) 16)) * (List.length a0.Topo.Hosts : Int))) + r40)) h63) fun h63 => ?_
            refine tb (x := cI (wr (r56 + 1))) rfl ?_
            refine tbo (p_oset (c := cI) (fun _ => rfl) s25 (wr ((wr ((wr (Int.tdiv (i29 : Int) 16)) * (List.length a0.Topo.Hosts : Int))) + r40)) (wr (r56 + 1))) fun r62 => ?_
            exact rf_j rfl
          · exact rf_j rfl
        · refine tb (x := (vi ((i29 : Int) + 1))) (p_incN h32) ?_
          exact h27 (s44)
      · refine tb (x := (vb (decide ((List.length r15 : Int) < (List.length r15 : Int))))) (d_lss) ?_
        refine tcond_f h65 ?_
        exact rf_j rfl
    · refine tb (x := (V.sl (List.map cI s19))) (p_frz (c := cI) (fun _ => rfl) s19) ?_
      exact rf_ret rfl

/-! railpoint/load.count -/
def an_load_count : Ann := .seq (.reg 0 [] [] []) (.seq (.reg 0 [] [] []) (.seq (.seq (.reg 0 [] [] []) (.blk (some [.kb 1, .n 3 1]) (.loop [.kb 1, .n 3 1, .s 15] (.seq (.reg 0 [] [] []) (.seq (.cond none (.no) (.no)) (.seq (.blk none (.seq (.reg 0 [] [] []) (.reg 0 [] [] [24, 1000023]))) (.reg 0 [] [] []))))))) (.seq (.seq (.reg 0 [] [] []) (.blk (some [.o 3]) (.loop [.kb 1, .o 3, .s 29] (.seq (.reg 0 [] [] []) (.seq (.cond none (.no) (.no)) (.seq (.blk (some [.kb 1, .o 3]) (.seq (.reg 0 [] [] []) (.seq (.reg 0 [] [] []) (.blk (some [.kb 1, .o 3]) (.loop [.kb 1, .o 3, .s 36] (.seq (.reg 0 [] [] []) (.seq (.cond none (.no) (.no)) (.seq (.blk none (.seq (.reg 0 [] [] []) (.seq (.reg 0 [] [] []) (.seq (.reg 9 [] [] []) (.seq (.reg 0 [] [] []) (.cond (some [.kb 1, .o 3]) (.reg 0 [] [] [57]) (.no))))))) (.reg 0 [] [] []))))))))) (.reg 0 [] [] []))))))) (.seq (.reg 0 [3] [] []) (.no)))))
noncomputable def sem_load_count (n : Nat) (xs : List V) : Option V := if xs.length ≤ 66 then denF Try.prog (envOf [(12, (sem_load_fates n)), (24, (sem_rule_Find n))]) n Try.f15 an_load_count xs else none
theorem ok_load_count (n : Nat) : SemOk Try.prog DW 15 (sem_load_count n) := fun xs y h => by
  unfold sem_load_count at h
  split at h
  · rename_i hl
    exact denF_ok stb Try.func15 (by kernel_rfl) (envOf_ok (semsOk_cons (ok_load_fates n) (semsOk_cons (ok_rule_Find n) semsOk_nil))) (by rw [Try.ntmps15]; exact hl) h
  · cases h
theorem eq_load_count (n : Nat) (x0 : V) : sem_load_count n [x0] =
 (V.cellsO x0).bind fun v1 =>
 (ldk none (List.drop 3 v1)).bind fun v2 =>
 (lenS [v2]).bind fun v3 =>
 JoinPt (fun vs4 =>
 (ldk (some 4) (List.drop 0 v1)).bind fun v6 =>
 ((sem_load_fates n) [v6]).bind fun v7 =>
 (lenS [v7]).bind fun v8 =>
 JoinPt (fun vs9 =>
 (some (frz (List.getD vs9 0 V.any))).bind fun v11 =>
 some v11) fun J10 =>
 (keepO (some v1) (some v1) (some [(List.getD vs4 0 V.any), (vi 0)])).bind (fixN (fun rec12 vs13 =>
 (bin2 Try.prog BinOp.lss 3 (ot 29) (ot 28) (List.getD vs13 1 V.any) v8).bind fun v14 =>
 condV v14 (
 JoinPt (fun vs15 =>
 (bin2 Try.prog BinOp.add 3 (ot 29) (oc 1) (List.getD vs13 1 V.any) (vi 1)).bind fun v17 =>
 (keepO (some v1) (some v1) (some [(List.getD vs15 0 V.any), v17])).bind rec12) fun J16 =>
 (idxS 3 v7 (List.getD vs13 1 V.any)).bind fun v18 =>
 (ldp (some 3) v18).bind fun v19 =>
 (spliceV [(vi 0), (V.lit (Go.Value.string (ByteArray.mk #[]))), (V.sl [])] 0 3 v19).bind fun v20 =>
 (ldk none (List.drop 2 (aggL v20))).bind fun v21 =>
 (lenS [v21]).bind fun v22 =>
 JoinPt (fun vs23 =>
 (keepO (some v1) (some v1) (some [(List.getD vs23 0 V.any)])).bind J16) fun J24 =>
 (keepO (some v1) (some v1) (some [(List.getD vs13 0 V.any), (vi 0)])).bind (fixN (fun rec25 vs26 =>
 (bin2 Try.prog BinOp.lss 3 (ot 36) (ot 35) (List.getD vs26 1 V.any) v22).bind fun v27 =>
 condV v27 (
 (idxS 3 v21 (List.getD vs26 1 V.any)).bind fun v28 =>
 (ldp (some 3) v28).bind fun v29 =>
 (spliceV [(vi 0), (vi 0), (vi 0)] 0 3 v29).bind fun v30 =>
 (ldk none (List.drop 0 (aggL v30))).bind fun v31 =>
 (bin2 Try.prog BinOp.sub 3 (ot 42) (oc 1) v31 (vi 1)).bind fun v32 =>
 (ldk none (List.drop 3 v1)).bind fun v33 =>
 (idxS 1 v33 v32).bind fun v34 =>
 (ldp none v34).bind fun v35 =>
 (ldk none (List.drop 2 (aggL v30))).bind fun v36 =>
 ((sem_rule_Find n) [v35, v36]).bind fun v37 =>
 (bin2 Try.prog BinOp.geq 3 (ot 52) (oc 0) v37 (vi 0)).bind fun v38 =>
 JoinPt (fun vs39 =>
 (bin2 Try.prog BinOp.add 3 (ot 36) (oc 1) (List.getD vs26 1 V.any) (vi 1)).bind fun v41 =>
 (keepO (some v1) (some v1) (some [(List.getD vs39 0 V.any), v41])).bind rec25) fun J40 =>
 condV v38 (
 ((oslR (List.getD vs26 0 V.any)).bind fun rows42 => inB (List.length rows42) v32).bind fun v43 =>
 ((nodeL (List.getD vs26 0 V.any) (some (natOf v32)) 1).bind fun l44 => (l44[0]?).bind ownO).bind fun v45 =>
 (((getV (List.getD vs26 0 V.any) [(Stp.mk (some (natOf v32)) 0 1)]).bind oslR).bind fun rows46 => inB (List.length rows46) v37).bind fun v47 =>
 (((getV (List.getD vs26 0 V.any) [(Stp.mk (some (natOf v32)) 0 1)]).bind fun y => nodeL y (some (natOf v37)) 1).bind fun l48 => (ldk none (List.drop 0 l48)).bind pureO).bind fun v49 =>
 (bin2 Try.prog BinOp.add 3 (ot 60) (oc 1) v49 (vi 1)).bind fun v50 =>
 (((getV (List.getD vs26 0 V.any) [(Stp.mk (some (natOf v32)) 0 1)]).bind oslR).bind fun rows51 => inB (List.length rows51) v37).bind fun v52 =>
 (V.cellsO v50).bind fun v53 =>
 (setV (List.getD vs26 0 V.any) [(Stp.mk (some (natOf v32)) 0 1)] (Stp.mk (some (natOf v37)) 0 1) 1 v53).bind fun v54 =>
 (keepO (some v1) (some v1) (some [v54])).bind J40) (
 (keepO (some v1) (some v1) (some [(List.getD vs26 0 V.any)])).bind J40)) (
 (keepO (some v1) (some v1) (some [(List.getD vs26 0 V.any)])).bind J24)) n)) (
 J10 [(List.getD vs13 0 V.any)])) n)) fun J5 =>
 (keepO (some v1) (some v1) (some [(V.osl 1 []), (vi 0)])).bind (fixN (fun rec55 vs56 =>
 (bin2 Try.prog BinOp.lss 3 (ot 15) (ot 14) (List.getD vs56 1 V.any) v3).bind fun v57 =>
 condV v57 (
 (idxS 1 v2 (List.getD vs56 1 V.any)).bind fun v58 =>
 (ldp none v58).bind fun v59 =>
 (lenS [v59]).bind fun v60 =>
 (makeN 1 [(vi 0)] v60 v60).bind fun v61 =>
 (V.cellsO v61).bind fun v62 =>
 (litS 1 v62).bind fun v63 =>
 (appS 1 (List.getD vs56 0 V.any) v63).bind fun v64 =>
 (bin2 Try.prog BinOp.add 3 (ot 15) (oc 1) (List.getD vs56 1 V.any) (vi 1)).bind fun v65 =>
 (keepO (some v1) (some v1) (some [v64, v65])).bind rec55) (
 (keepO (some v1) (some v1) (some [(List.getD vs56 0 V.any)])).bind J5)) n) := by kernel_rfl
noncomputable def t_load_count (a0 : T_Net) : Option (List (List Int)) :=
 (loopI a0.Tables (fun (i106 : Int) x107 (s102 : (List (List Int))) k103 =>
 (omake (List.length x107 : Int) (List.length x107 : Int) 0).bind fun r116 =>
 (oapp s102 ([r116] : (List (List Int)))).bind fun r118 =>
 k103 (r118)) (fun (s102 : (List (List Int))) =>
 some (s102)) ([])).bind fun (s6 : (List (List Int))) =>
 (t_load_fates a0).bind fun r11 =>
 (loopI r11 (fun (i25 : Int) x26 (s21 : (List (List Int))) k22 =>
 ((loopI x26.Hops (fun (i53 : Int) x54 (s49 : (List (List Int))) k50 =>
 (idx a0.Tables (wr (x54.At.Switch - 1))).bind fun r66 =>
 (t_rule_Find r66 x54.Header).bind fun r70 =>
 (if (decide (0 ≤ r70)) = true then (
 need (decide (0 ≤ (wr (x54.At.Switch - 1))) && decide ((wr (x54.At.Switch - 1)) < (List.length s49 : Int))) (
 (idx s49 (wr (x54.At.Switch - 1))).bind fun r81 =>
 (idx s49 (wr (x54.At.Switch - 1))).bind fun r83 =>
 need (decide (0 ≤ r70) && decide (r70 < (List.length r83 : Int))) (
 (idx s49 (wr (x54.At.Switch - 1))).bind fun r85 =>
 (idx r85 r70).bind fun r86 =>
 (idx s49 (wr (x54.At.Switch - 1))).bind fun r89 =>
 need (decide (0 ≤ r70) && decide (r70 < (List.length r89 : Int))) (
 ((idx s49 (wr (x54.At.Switch - 1))).bind fun a_ => (oset a_ r70 (wr (r86 + 1))).map fun b_ => List.set s49 (Int.toNat (wr (x54.At.Switch - 1))) b_).bind fun r92 =>
 some (r92))))) else (
 some (s49))).bind fun (s74 : (List (List Int))) =>
 k50 (s74)) (fun (s49 : (List (List Int))) =>
 some (s49)) (s21)).bind fun (s44 : (List (List Int))) =>
 some (s44)).bind fun (s33 : (List (List Int))) =>
 k22 (s33)) (fun (s21 : (List (List Int))) =>
 some (s21)) (s6)).bind fun (s15 : (List (List Int))) =>
 some s15
theorem ty_load_count {n : Nat} (hn : bigN ≤ n) (a0 : T_Net) : Rv (fun x : (List (List Int)) => (V.sl (List.map (cS cI) x))) (sem_load_count n [(T_Net.e a0)]) (t_load_count a0) := by
  rw [eq_load_count]
  unfold t_load_count
  refine tb (x := (T_Net.c a0)) rfl ?_
  refine tb (x := (V.sl (List.map (cS T_Rule.c) a0.Tables))) (rfl) ?_
  refine tb (x := (vi (List.length a0.Tables : Int))) (p_len _) ?_
  refine tjb (mk := fun s6 : (List (List Int)) => [(V.osl 1 (List.map (fun x : (List Int) => [(V.osl 1 (List.map cI x))]) s6))]) (fun J5 => ?_) fun s6 => ?_
  · refine tkeepO2 ?_ rfl
    refine tsome ?_
    refine rf_loopI (mk := fun (i106 : Int) (s102 : (List (List Int))) => [(V.osl 1 (List.map (fun x : (List Int) => [(V.osl 1 (List.map cI x))]) s102)), (vi (i106 : Int))]) hn a0.Tables ([]) (fun i106 x107 h108 h109 h110 s102 rec100 k103 h104 => ?_) (fun s102 rec121 h120 => ?_)
    · refine tb (x := (vb (decide ((i106 : Int) < (List.length a0.Tables : Int))))) (d_lss) ?_
      refine tcond_t h110 ?_
      refine tb (x := (V.ptr [(V.sl (List.map T_Rule.c x107))])) (p_idx_at (c := (cS T_Rule.c)) (fun _ => rfl) h108) ?_
      refine tb (x := (V.sl (List.map T_Rule.c x107))) (rfl) ?_
      refine tb (x := (vi (List.length x107 : Int))) (p_len _) ?_
      refine tbo (p_omake (c := cI) (List.length x107 : Int) (List.length x107 : Int) 0 rfl) fun r116 => ?_
      refine tb (x := [(V.osl 1 (List.map cI r116))]) rfl ?_
      refine tb (x := (V.osl 1 (List.map (fun x : (List Int) => [(V.osl 1 (List.map cI x))]) ([r116] : (List (List Int)))))) (by kernel_rfl) ?_
      refine tbo (p_oappO (c := (fun x : (List Int) => [(V.osl 1 (List.map cI x))])) (fun _ => rfl) s102 ([r116] : (List (List Int)))) fun r118 => ?_
      refine tb (x := (vi ((i106 : Int) + 1))) (p_incN h109) ?_
      refine tkeepO2 ?_ rfl
      refine tsome ?_
      exact h104 (r118)
    · refine tb (x := (vb (decide ((List.length a0.Tables : Int) < (List.length a0.Tables : Int))))) (d_lss) ?_
      refine tcond_f h120 ?_
      refine tkeepO2 ?_ rfl
      refine tsome ?_
      exact rf_j rfl
  · refine tb (x := (T_Net.e a0)) (rfl) ?_
    refine tbo (ty_load_fates hn a0) fun r11 => ?_
    refine tb (x := (vi (List.length r11 : Int))) (p_len _) ?_
    refine tjb (mk := fun s15 : (List (List Int)) => [(V.osl 1 (List.map (fun x : (List Int) => [(V.osl 1 (List.map cI x))]) s15))]) (fun J14 => ?_) fun s15 => ?_
    · refine tkeepO2 ?_ rfl
      refine tsome ?_
      refine rf_loopI (mk := fun (i25 : Int) (s21 : (List (List Int))) => [(V.osl 1 (List.map (fun x : (List Int) => [(V.osl 1 (List.map cI x))]) s21)), (vi (i25 : Int))]) hn r11 (s6) (fun i25 x26 h27 h28 h29 s21 rec19 k22 h23 => ?_) (fun s21 rec98 h97 => ?_)
      · refine tb (x := (vb (decide ((i25 : Int) < (List.length r11 : Int))))) (d_lss) ?_
        refine tcond_t h29 ?_
        refine tjb (mk := fun s33 : (List (List Int)) => [(V.osl 1 (List.map (fun x : (List Int) => [(V.osl 1 (List.map cI x))]) s33))]) (fun J32 => ?_) fun s33 => ?_
        · refine tb (x := (V.ptr (T_Fate.c x26))) (p_idx_at (c := T_Fate.c) (fun _ => rfl) h27) ?_
          refine tb (x := (T_Fate.e x26)) (rfl) ?_
          refine tb (x := V.agg (T_Fate.c x26)) (by kernel_rfl) ?_
          refine tb (x := (V.sl (List.map T_Hop.c x26.Hops))) (rfl) ?_
          refine tb (x := (vi (List.length x26.Hops : Int))) (p_len _) ?_
          refine tjb (mk := fun s44 : (List (List Int)) => [(V.osl 1 (List.map (fun x : (List Int) => [(V.osl 1 (List.map cI x))]) s44))]) (fun J43 => ?_) fun s44 => ?_
          · refine tkeepO2 ?_ rfl
            refine tsome ?_
            refine rf_loopI (mk := fun (i53 : Int) (s49 : (List (List Int))) => [(V.osl 1 (List.map (fun x : (List Int) => [(V.osl 1 (List.map cI x))]) s49)), (vi (i53 : Int))]) hn x26.Hops (s21) (fun i53 x54 h55 h56 h57 s49 rec47 k50 h51 => ?_) (fun s49 rec95 h94 => ?_)
            · refine tb (x := (vb (decide ((i53 : Int) < (List.length x26.Hops : Int))))) (d_lss) ?_
              refine tcond_t h57 ?_
              refine tb (x := (V.ptr (T_Hop.c x54))) (p_idx_at (c := T_Hop.c) (fun _ => rfl) h55) ?_
              refine tb (x := (T_Hop.e x54)) (rfl) ?_
              refine tb (x := V.agg (T_Hop.c x54)) (by kernel_rfl) ?_
              refine tb (x := (vi x54.At.Switch)) (rfl) ?_
              refine tb (x := (vi (wr (x54.At.Switch - 1)))) (d_sub) ?_
              refine tb (x := (V.sl (List.map (cS T_Rule.c) a0.Tables))) (rfl) ?_
              refine tbo (p_idx (c := (cS T_Rule.c)) (fun _ => rfl) a0.Tables (wr (x54.At.Switch - 1))) fun r66 => ?_
              refine tb (x := (V.sl (List.map T_Rule.c r66))) (rfl) ?_
              refine tb (x := (vi x54.Header)) (rfl) ?_
              refine tbo (ty_rule_Find hn r66 x54.Header) fun r70 => ?_
              refine tb (x := (vb (decide (0 ≤ r70)))) (d_geq) ?_
              refine tjb (mk := fun s74 : (List (List Int)) => [(V.osl 1 (List.map (fun x : (List Int) => [(V.osl 1 (List.map cI x))]) s74))]) (fun J73 => ?_) fun s74 => ?_
              · refine tcond (fun h78 => ?_) (fun h78 => ?_)
                · refine tneed (x := V.any) (fun h93 => p_inB s49 (wr (x54.At.Switch - 1)) h93) fun h93 => ?_
                  refine tbo (p_onest (c := (fun x : (List Int) => [(V.osl 1 (List.map cI x))])) (fun _ => rfl) s49 (wr (x54.At.Switch - 1))) fun r81 => ?_
                  refine p_asc ?_
                  refine p_asc ?_
                  refine p_inI (c := (fun x : (List Int) => [(V.osl 1 (List.map cI x))])) (e1 := (fun x : (List Int) => (V.osl 1 (List.map cI x)))) (fun _ => rfl) s49 (wr (x54.At.Switch - 1)) fun r83 => ?_
                  refine p_in0 ?_
                  refine p_cas ?_
                  refine tneed (x := V.any) (fun h84 => p_inB (c := cI) (k := 1) r83 r70 h84) fun h84 => ?_
                  refine p_asc ?_
                  refine p_asc ?_
                  refine p_inI (c := (fun x : (List Int) => [(V.osl 1 (List.map cI x))])) (e1 := (fun x : (List Int) => (V.osl 1 (List.map cI x)))) (fun _ => rfl) s49 (wr (x54.At.Switch - 1)) fun r85 => ?_
                  refine p_in0 ?_
                  refine p_cas ?_
                  refine tbo (p_oload (e1 := fun x : Int => (vi x)) (c := cI) (fun _ => rfl) r85 r70 (fun _ => rfl)) fun r86 => ?_
                  refine tb (x := (vi (wr (r86 + 1)))) (d_add) ?_
                  refine p_asc ?_
                  refine p_asc ?_
                  refine p_inI (c := (fun x : (List Int) => [(V.osl 1 (List.map cI x))])) (e1 := (fun x : (List Int) => (V.osl 1 (List.map cI x)))) (fun _ => rfl) s49 (wr (x54.At.Switch - 1)) fun r89 => ?_
                  refine p_in0 ?_
                  refine p_cas ?_
                  refine tneed (x := V.any) (fun h90 => p_inB (c := cI) (k := 1) r89 r70 h90) fun h90 => ?_
                  refine tb (x := cI (wr (r86 + 1))) rfl ?_
                  refine tbo (p_setI1 (c := (fun x : (List Int) => [(V.osl 1 (List.map cI x))])) (e1 := (fun x : (List Int) => (V.osl 1 (List.map cI x)))) (fun _ => rfl) s49 (wr (x54.At.Switch - 1)) (fun a_ => p_oset (c := cI) (fun _ => rfl) a_ r70 (wr (r86 + 1)))) fun r92 => ?_
                  refine tkeepO2 ?_ rfl
                  refine tsome ?_
                  exact rf_j rfl
                · refine tkeepO2 ?_ rfl
                  refine tsome ?_
                  exact rf_j rfl
              · refine tb (x := (vi ((i53 : Int) + 1))) (p_incN h56) ?_
                refine tkeepO2 ?_ rfl
                refine tsome ?_
                exact h51 (s74)
            · refine tb (x := (vb (decide ((List.length x26.Hops : Int) < (List.length x26.Hops : Int))))) (d_lss) ?_
              refine tcond_f h94 ?_
              refine tkeepO2 ?_ rfl
              refine tsome ?_
              exact rf_j rfl
          · refine tkeepO2 ?_ rfl
            refine tsome ?_
            exact rf_j rfl
        · refine tb (x := (vi ((i25 : Int) + 1))) (p_incN h28) ?_
          refine tkeepO2 ?_ rfl
          refine tsome ?_
          exact h23 (s33)
      · refine tb (x := (vb (decide ((List.length r11 : Int) < (List.length r11 : Int))))) (d_lss) ?_
        refine tcond_f h97 ?_
        exact rf_j rfl
    · refine tb (x := (V.sl (List.map (cS cI) s15))) (p_frzS (c' := (cS cI)) (fun _ => (p_fzc (p_frzl (c' := cI) (fun _ => rfl) _) p_fz0)) s15) ?_
      exact rf_ret rfl

/-! railpoint/load.Unused -/
def an_load_Unused : Ann := .seq (.reg 0 [] [] []) (.seq (.seq (.reg 0 [] [] []) (.seq (.reg 0 [] [] []) (.cond none (.seq (.reg 0 [] [] []) (.no)) (.no)))) (.seq (.reg 0 [] [] []) (.seq (.seq (.reg 0 [] [] []) (.blk (some [.s 5]) (.loop [.kb 1, .r 5 65, .s 18] (.seq (.reg 0 [] [] []) (.seq (.cond none (.no) (.no)) (.seq (.blk (some [.kb 1, .r 5 65]) (.seq (.reg 0 [] [] []) (.seq (.reg 0 [] [] []) (.blk (some [.kb 1, .r 5 65]) (.loop [.kb 1, .r 5 65, .s 25] (.seq (.reg 0 [] [] []) (.seq (.cond none (.no) (.no)) (.seq (.blk none (.seq (.reg 0 [] [] []) (.seq (.reg 0 [] [] []) (.cond (some [.kb 1, .r 5 65]) (.reg 0 [] [] []) (.no))))) (.reg 0 [] [] []))))))))) (.reg 0 [] [] []))))))) (.seq (.reg 0 [] [] []) (.no)))))
noncomputable def sem_load_Unused (n : Nat) (xs : List V) : Option V := if xs.length ≤ 49 then denF Try.prog (envOf [(11, (sem_net_Check n)), (15, (sem_load_count n))]) n Try.f5 an_load_Unused xs else none
theorem ok_load_Unused (n : Nat) : SemOk Try.prog DW 5 (sem_load_Unused n) := fun xs y h => by
  unfold sem_load_Unused at h
  split at h
  · rename_i hl
    exact denF_ok stb Try.func5 (by kernel_rfl) (envOf_ok (semsOk_cons (ok_net_Check n) (semsOk_cons (ok_load_count n) semsOk_nil))) (by rw [Try.ntmps5]; exact hl) h
  · cases h
theorem eq_load_Unused (n : Nat) (x0 : V) : sem_load_Unused n [x0] =
 (V.cellsO x0).bind fun v1 =>
 (ldk (some 4) (List.drop 0 v1)).bind fun v2 =>
 ((sem_net_Check n) [v2]).bind fun v3 =>
 (bin2 Try.prog BinOp.neq 41 (ot 12) (Operand.const Go.Value.nilIface) v3 vn).bind fun v4 =>
 condV v4 (
 some (V.tup [(V.sl []), v3])) (
 (ldk (some 4) (List.drop 0 v1)).bind fun v5 =>
 ((sem_load_count n) [v5]).bind fun v6 =>
 (lenS [v6]).bind fun v7 =>
 JoinPt (fun vs8 =>
 some (V.tup [(List.getD vs8 0 V.any), vn])) fun J9 =>
 (keepO (some v1) (some v1) (some [(V.sl []), (vi 0)])).bind (fixN (fun rec10 vs11 =>
 (bin2 Try.prog BinOp.lss 3 (ot 18) (ot 17) (List.getD vs11 1 V.any) v7).bind fun v12 =>
 condV v12 (
 JoinPt (fun vs13 =>
 (bin2 Try.prog BinOp.add 3 (ot 18) (oc 1) (List.getD vs11 1 V.any) (vi 1)).bind fun v15 =>
 (keepO (some v1) (some v1) (some [(V.sl (slL (List.getD vs13 0 V.any))), v15])).bind rec10) fun J14 =>
 (idxS 1 v6 (List.getD vs11 1 V.any)).bind fun v16 =>
 (ldp none v16).bind fun v17 =>
 (lenS [v17]).bind fun v18 =>
 JoinPt (fun vs19 =>
 (keepO (some v1) (some v1) (some [(V.sl (slL (List.getD vs19 0 V.any)))])).bind J14) fun J20 =>
 (keepO (some v1) (some v1) (some [(V.sl (slL (List.getD vs11 0 V.any))), (vi 0)])).bind (fixN (fun rec21 vs22 =>
 (bin2 Try.prog BinOp.lss 3 (ot 25) (ot 24) (List.getD vs22 1 V.any) v18).bind fun v23 =>
 condV v23 (
 (idxS 1 v17 (List.getD vs22 1 V.any)).bind fun v24 =>
 (ldp none v24).bind fun v25 =>
 (bin2 Try.prog BinOp.eql 3 (ot 30) (oc 0) v25 (vi 0)).bind fun v26 =>
 JoinPt (fun vs27 =>
 (bin2 Try.prog BinOp.add 3 (ot 25) (oc 1) (List.getD vs22 1 V.any) (vi 1)).bind fun v29 =>
 (keepO (some v1) (some v1) (some [(V.sl (slL (List.getD vs27 0 V.any))), v29])).bind rec21) fun J28 =>
 condV v26 (
 (bin2 Try.prog BinOp.add 3 (ot 33) (oc 1) (List.getD vs11 1 V.any) (vi 1)).bind fun v30 =>
 (ldk none (List.drop 3 v1)).bind fun v31 =>
 (idxS 1 v31 (List.getD vs11 1 V.any)).bind fun v32 =>
 (ldp none v32).bind fun v33 =>
 (idxS 6 v33 (List.getD vs22 1 V.any)).bind fun v34 =>
 (ldp (some 6) v34).bind fun v35 =>
 ((fillL [(vi 0), (vb false), (vi 0), (vi 0), (vi 0), (vi 0), (vi 0), (vi 0)] [(0, 1, v30), (2, 6, v35)]).map V.agg).bind fun v36 =>
 (slcB 8 1 [(vi 0), (vb false), (vi 0), (vi 0), (vi 0), (vi 0), (vi 0), (vi 0)] [(0, v36)]).bind fun v37 =>
 (appV 8 (slL (List.getD vs22 0 V.any)) v37).bind fun v38 =>
 (keepO (some v1) (some v1) (some [(V.sl (slL v38))])).bind J28) (
 (keepO (some v1) (some v1) (some [(V.sl (slL (List.getD vs22 0 V.any)))])).bind J28)) (
 (keepO (some v1) (some v1) (some [(V.sl (slL (List.getD vs22 0 V.any)))])).bind J20)) n)) (
 J9 [(V.sl (slL (List.getD vs11 0 V.any)))])) n)) := by kernel_rfl
noncomputable def t_load_Unused (a0 : T_Net) : Option ((List T_Op) × Int) :=
 (t_net_Check a0).bind fun r4 =>
 if (!decide (r4 = 0)) = true then (
 some ([], r4)) else (
 (t_load_count a0).bind fun r9 =>
 (loopI r9 (fun (i22 : Int) x23 (s18 : (List T_Op)) k19 =>
 ((loopI x23 (fun (i48 : Int) x49 (s44 : (List T_Op)) k45 =>
 (if (decide (x49 = 0)) = true then (
 (idx a0.Tables i22).bind fun r67 =>
 (idx r67 i48).bind fun r70 =>
 (app s44 ([(T_Op.mk (i22 + 1) false r70)] : (List T_Op))).bind fun r75 =>
 some (r75)) else (
 some (s44))).bind fun (s59 : (List T_Op)) =>
 k45 (s59)) (fun (s44 : (List T_Op)) =>
 some (s44)) (s18)).bind fun (s39 : (List T_Op)) =>
 some (s39)).bind fun (s30 : (List T_Op)) =>
 k19 (s30)) (fun (s18 : (List T_Op)) =>
 some (s18)) ([])).bind fun (s13 : (List T_Op)) =>
 some (s13, 0))
theorem ty_load_Unused {n : Nat} (hn : bigN ≤ n) (a0 : T_Net) : Rv (fun x : ((List T_Op) × Int) => V.tup [(V.sl (List.map T_Op.c x.1)), (eV x.2)]) (sem_load_Unused n [(T_Net.e a0)]) (t_load_Unused a0) := by
  rw [eq_load_Unused]
  unfold t_load_Unused
  refine tb (x := (T_Net.c a0)) rfl ?_
  refine tb (x := (T_Net.e a0)) (rfl) ?_
  refine tbo (ty_net_Check hn a0) fun r4 => ?_
  refine tb (x := (vb (!decide (r4 = 0)))) (p_err_neq _) ?_
  refine tcond (fun h6 => ?_) (fun h6 => ?_)
  · exact rf_ret rfl
  · refine tb (x := (T_Net.e a0)) (rfl) ?_
    refine tbo (ty_load_count hn a0) fun r9 => ?_
    refine tb (x := (vi (List.length r9 : Int))) (p_len _) ?_
    refine tjb (mk := fun s13 : (List T_Op) => [(V.sl (List.map T_Op.c s13))]) (fun J12 => ?_) fun s13 => ?_
    · refine tkeepO2 ?_ rfl
      refine tsome ?_
      refine rf_loopI (mk := fun (i22 : Int) (s18 : (List T_Op)) => [(V.sl (List.map T_Op.c s18)), (vi (i22 : Int))]) hn r9 ([]) (fun i22 x23 h24 h25 h26 s18 rec16 k19 h20 => ?_) (fun s18 rec80 h79 => ?_)
      · refine tb (x := (vb (decide ((i22 : Int) < (List.length r9 : Int))))) (d_lss) ?_
        refine tcond_t h26 ?_
        refine tjb (mk := fun s30 : (List T_Op) => [(V.sl (List.map T_Op.c s30))]) (fun J29 => ?_) fun s30 => ?_
        · refine tb (x := (V.ptr [(V.sl (List.map cI x23))])) (p_idx_at (c := (cS cI)) (fun _ => rfl) h24) ?_
          refine tb (x := (V.sl (List.map cI x23))) (rfl) ?_
          refine tb (x := (vi (List.length x23 : Int))) (p_len _) ?_
          refine tjb (mk := fun s39 : (List T_Op) => [(V.sl (List.map T_Op.c s39))]) (fun J38 => ?_) fun s39 => ?_
          · refine tkeepO2 ?_ rfl
            refine tsome ?_
            refine rf_loopI (mk := fun (i48 : Int) (s44 : (List T_Op)) => [(V.sl (List.map T_Op.c s44)), (vi (i48 : Int))]) hn x23 (s18) (fun i48 x49 h50 h51 h52 s44 rec42 k45 h46 => ?_) (fun s44 rec77 h76 => ?_)
            · refine tb (x := (vb (decide ((i48 : Int) < (List.length x23 : Int))))) (d_lss) ?_
              refine tcond_t h52 ?_
              refine tb (x := (V.ptr [(vi x49)])) (p_idx_at (c := cI) (fun _ => rfl) h50) ?_
              refine tb (x := (vi x49)) (rfl) ?_
              refine tb (x := (vb (decide (x49 = 0)))) (d_eql) ?_
              refine tjb (mk := fun s59 : (List T_Op) => [(V.sl (List.map T_Op.c s59))]) (fun J58 => ?_) fun s59 => ?_
              · refine tcond (fun h63 => ?_) (fun h63 => ?_)
                · refine tb (x := (vi ((i22 : Int) + 1))) (p_incN h25) ?_
                  refine tb (x := (V.sl (List.map (cS T_Rule.c) a0.Tables))) (rfl) ?_
                  refine tbo (p_idx (c := (cS T_Rule.c)) (fun _ => rfl) a0.Tables (i22 : Int)) fun r67 => ?_
                  refine tb (x := (V.sl (List.map T_Rule.c r67))) (rfl) ?_
                  refine tbo (p_idx (c := T_Rule.c) (fun _ => rfl) r67 (i48 : Int)) fun r70 => ?_
                  refine tb (x := (T_Rule.e r70)) (rfl) ?_
                  refine tb (x := (T_Op.e (T_Op.mk ((i22 : Int) + 1) false r70))) (by kernel_rfl) ?_
                  refine tb (x := (V.sl (List.map T_Op.c ([(T_Op.mk ((i22 : Int) + 1) false r70)] : (List T_Op))))) (by kernel_rfl) ?_
                  refine tbo (p_app (c := T_Op.c) (fun _ => rfl) s44 ([(T_Op.mk ((i22 : Int) + 1) false r70)] : (List T_Op))) fun r75 => ?_
                  refine tkeepO2 ?_ rfl
                  refine tsome ?_
                  exact rf_j rfl
                · refine tkeepO2 ?_ rfl
                  refine tsome ?_
                  exact rf_j rfl
              · refine tb (x := (vi ((i48 : Int) + 1))) (p_incN h51) ?_
                refine tkeepO2 ?_ rfl
                refine tsome ?_
                exact h46 (s59)
            · refine tb (x := (vb (decide ((List.length x23 : Int) < (List.length x23 : Int))))) (d_lss) ?_
              refine tcond_f h76 ?_
              refine tkeepO2 ?_ rfl
              refine tsome ?_
              exact rf_j rfl
          · refine tkeepO2 ?_ rfl
            refine tsome ?_
            exact rf_j rfl
        · refine tb (x := (vi ((i22 : Int) + 1))) (p_incN h25) ?_
          refine tkeepO2 ?_ rfl
          refine tsome ?_
          exact h20 (s30)
      · refine tb (x := (vb (decide ((List.length r9 : Int) < (List.length r9 : Int))))) (d_lss) ?_
        refine tcond_f h79 ?_
        exact rf_j rfl
    · exact rf_ret rfl

/-! railpoint/change.Own -/
def an_change_Own : Ann := .seq (.reg 0 [] [] [1, 2]) (.seq (.reg 10 [] [] []) (.seq (.reg 0 [] [] []) (.seq (.seq (.reg 0 [] [] []) (.blk (some [.ko 1, .ko 2, .o 3]) (.loop [.ko 1, .ko 2, .o 3, .s 25] (.seq (.reg 0 [] [] []) (.seq (.cond none (.no) (.no)) (.seq (.blk none (.seq (.reg 0 [] [] []) (.reg 0 [] [] []))) (.reg 0 [] [] []))))))) (.seq (.reg 0 [] [] []) (.seq (.reg 0 [] [] [1000038]) (.no))))))
noncomputable def sem_change_Own (n : Nat) (xs : List V) : Option V := if xs.length ≤ 39 then denM Try.prog (envOf [(25, (semClone 4)), (26, (semClone 3)), (27, (semClone 6))]) n Try.f16 an_change_Own [0] (some 0) xs else none
theorem ok_change_Own (n : Nat) : MSemOk Try.prog DW 16 (sem_change_Own n) := fun xs y h => by
  unfold sem_change_Own at h
  split at h
  · rename_i hl
    exact denM_ok Try.func16 (by kernel_rfl) (envOf_ok (semsOk_cons (sok_slices_Clone_api_Link_api_Link) (semsOk_cons (sok_slices_Clone_api_Host_api_Host) (semsOk_cons (sok_slices_Clone_api_Table_api_Rule) semsOk_nil)))) (by rw [Try.ntmps16]; exact hl) (by decide) h
  · cases h
theorem eq_change_Own (n : Nat) (x0 : V) : sem_change_Own n [x0] =
 (pureO x0).bind fun v1 =>
 (V.cellsO x0).bind fun v2 =>
 (some V.any).bind fun v3 =>
 (some V.any).bind fun v4 =>
 ((nodeL (V.obj v2) none 0).bind fun l5 => (ldk none (List.drop 1 l5)).bind pureO).bind fun v6 =>
 ((semClone 4) [v6]).bind fun v7 =>
 (some V.any).bind fun v8 =>
 (some V.any).bind fun v9 =>
 ((nodeL (V.obj v2) none 0).bind fun l10 => (ldk none (List.drop 2 l10)).bind pureO).bind fun v11 =>
 ((semClone 3) [v11]).bind fun v12 =>
 (some V.any).bind fun v13 =>
 (some V.any).bind fun v14 =>
 (V.cellsO v7).bind fun v15 =>
 (setV (V.obj v2) [] (Stp.mk none 1 0) 1 v15).bind fun v16 =>
 (some V.any).bind fun v17 =>
 (some V.any).bind fun v18 =>
 (V.cellsO v12).bind fun v19 =>
 (setV v16 [] (Stp.mk none 2 0) 1 v19).bind fun v20 =>
 (some V.any).bind fun v21 =>
 ((nodeL v20 none 0).bind fun l22 => (ldk none (List.drop 3 l22)).bind pureO).bind fun v23 =>
 (lenS [v23]).bind fun v24 =>
 (makeN 1 [(V.sl [])] v24 v24).bind fun v25 =>
 (some V.any).bind fun v26 =>
 ((nodeL v20 none 0).bind fun l27 => (ldk none (List.drop 3 l27)).bind pureO).bind fun v28 =>
 (lenS [v28]).bind fun v29 =>
 JoinPt (fun vs30 =>
 (some V.any).bind fun v32 =>
 (V.cellsO (List.getD vs30 0 V.any)).bind fun v33 =>
 (setV v20 [] (Stp.mk none 3 0) 1 v33).bind fun v34 =>
 (wholeO Try.prog 28 v34).bind fun v35 =>
 (V.cellsO v35).bind fun v36 =>
 (setV (V.obj [(vi 0), (V.sl []), (V.sl []), (V.sl [])]) [] (Stp.mk none 0 0) 4 v36).bind fun v37 =>
 (wholeO Try.prog 28 v37).bind fun v38 =>
 some (V.tup [v38, V.any])) fun J31 =>
 (keepT (some v20) (some v20) (keepT (some (V.obj [(vi 0), (V.sl []), (V.sl []), (V.sl [])])) (some (V.obj [(vi 0), (V.sl []), (V.sl []), (V.sl [])])) (some [v25, (vi 0)]))).bind (fixN (fun rec39 vs40 =>
 (bin2 Try.prog BinOp.lss 3 (ot 25) (ot 24) (List.getD vs40 1 V.any) v29).bind fun v41 =>
 condV v41 (
 (idxS 1 v28 (List.getD vs40 1 V.any)).bind fun v42 =>
 (ldp none v42).bind fun v43 =>
 ((semClone 6) [v43]).bind fun v44 =>
 ((oslR (List.getD vs40 0 V.any)).bind fun rows45 => inB (List.length rows45) (List.getD vs40 1 V.any)).bind fun v46 =>
 (V.cellsO v44).bind fun v47 =>
 (setV (List.getD vs40 0 V.any) [] (Stp.mk (some (natOf (List.getD vs40 1 V.any))) 0 1) 1 v47).bind fun v48 =>
 (bin2 Try.prog BinOp.add 3 (ot 25) (oc 1) (List.getD vs40 1 V.any) (vi 1)).bind fun v49 =>
 (keepT (some v20) (some v20) (keepT (some (V.obj [(vi 0), (V.sl []), (V.sl []), (V.sl [])])) (some (V.obj [(vi 0), (V.sl []), (V.sl []), (V.sl [])])) (some [v48, v49]))).bind rec39) (
 (keepT (some v20) (some v20) (keepT (some (V.obj [(vi 0), (V.sl []), (V.sl []), (V.sl [])])) (some (V.obj [(vi 0), (V.sl []), (V.sl []), (V.sl [])])) (some [(List.getD vs40 0 V.any)]))).bind J31)) n) := by kernel_rfl
noncomputable def t_change_Own (a0 : T_Net) : Option T_Net :=
 (cln a0.Topo.Links).bind fun r7 =>
 (cln a0.Topo.Hosts).bind fun r12 =>
 (omake (List.length a0.Tables : Int) (List.length a0.Tables : Int) []).bind fun r25 =>
 (loopI a0.Tables (fun (i46 : Int) x47 (s42 : (List (List T_Rule))) k43 =>
 (cln x47).bind fun r55 =>
 need (decide (0 ≤ i46) && decide (i46 < (List.length s42 : Int))) (
 (oset s42 i46 r55).bind fun r60 =>
 k43 (r60))) (fun (s42 : (List (List T_Rule))) =>
 some (s42)) (r25)).bind fun (s31 : (List (List T_Rule))) =>
 some (T_Net.mk (T_Topo.mk a0.Topo.Switches r7 r12) s31)
theorem ty_change_Own {n : Nat} (hn : bigN ≤ n) (a0 : T_Net) : Rv (fun x : T_Net => (V.tup [(V.agg [(vi x.Topo.Switches), (V.sl (List.map T_Link.c x.Topo.Links)), (V.sl (List.map T_Host.c x.Topo.Hosts)), (V.osl 1 (List.map (cS T_Rule.c) x.Tables))]), V.any])) (sem_change_Own n [(T_Net.e a0)]) (t_change_Own a0) := by
  rw [eq_change_Own]
  unfold t_change_Own
  refine tb (x := (T_Net.e a0)) rfl ?_
  refine tb (x := (T_Net.c a0)) rfl ?_
  refine tb (x := V.any) rfl ?_
  refine tb (x := V.any) rfl ?_
  refine tb (x := (V.sl (List.map T_Link.c a0.Topo.Links))) (rfl) ?_
  refine tbo (p_clone (c := T_Link.c) (fun _ => rfl) a0.Topo.Links) fun r7 => ?_
  refine tb (x := V.any) rfl ?_
  refine tb (x := V.any) rfl ?_
  refine tb (x := (V.sl (List.map T_Host.c a0.Topo.Hosts))) (rfl) ?_
  refine tbo (p_clone (c := T_Host.c) (fun _ => rfl) a0.Topo.Hosts) fun r12 => ?_
  refine tb (x := V.any) rfl ?_
  refine tb (x := V.any) rfl ?_
  refine tb (x := [(V.sl (List.map T_Link.c r7))]) rfl ?_
  refine tb (x := V.obj (T_Net.c (T_Net.mk (T_Topo.mk a0.Topo.Switches r7 a0.Topo.Hosts) a0.Tables))) (by kernel_rfl) ?_
  refine tb (x := V.any) rfl ?_
  refine tb (x := V.any) rfl ?_
  refine tb (x := [(V.sl (List.map T_Host.c r12))]) rfl ?_
  refine tb (x := V.obj (T_Net.c (T_Net.mk (T_Topo.mk a0.Topo.Switches r7 r12) a0.Tables))) (by kernel_rfl) ?_
  refine tb (x := V.any) rfl ?_
  refine tb (x := (V.sl (List.map (cS T_Rule.c) a0.Tables))) (rfl) ?_
  refine tb (x := (vi (List.length a0.Tables : Int))) (p_len _) ?_
  refine tbo (p_omake (c := (cS T_Rule.c)) (List.length a0.Tables : Int) (List.length a0.Tables : Int) [] rfl) fun r25 => ?_
  refine tb (x := V.any) rfl ?_
  refine tb (x := (V.sl (List.map (cS T_Rule.c) a0.Tables))) (rfl) ?_
  refine tb (x := (vi (List.length a0.Tables : Int))) (p_len _) ?_
  refine tjb (mk := fun s31 : (List (List T_Rule)) => [(V.osl 1 (List.map (cS T_Rule.c) s31))]) (fun J30 => ?_) fun s31 => ?_
  · refine tkeepT2 ?_ rfl
    refine tkeepT2 ?_ rfl
    refine tsome ?_
    refine rf_loopI (mk := fun (i46 : Int) (s42 : (List (List T_Rule))) => [(V.osl 1 (List.map (cS T_Rule.c) s42)), (vi (i46 : Int))]) hn a0.Tables (r25) (fun i46 x47 h48 h49 h50 s42 rec40 k43 h44 => ?_) (fun s42 rec64 h63 => ?_)
    · refine tb (x := (vb (decide ((i46 : Int) < (List.length a0.Tables : Int))))) (d_lss) ?_
      refine tcond_t h50 ?_
      refine tb (x := (V.ptr [(V.sl (List.map T_Rule.c x47))])) (p_idx_at (c := (cS T_Rule.c)) (fun _ => rfl) h48) ?_
      refine tb (x := (V.sl (List.map T_Rule.c x47))) (rfl) ?_
      refine tbo (p_clone (c := T_Rule.c) (fun _ => rfl) x47) fun r55 => ?_
      refine tneed (x := V.any) (fun h62 => p_inB s42 (i46 : Int) h62) fun h62 => ?_
      refine tb (x := (cS T_Rule.c) r55) rfl ?_
      refine tbo (p_oset (c := (cS T_Rule.c)) (fun _ => rfl) s42 (i46 : Int) r55) fun r60 => ?_
      refine tb (x := (vi ((i46 : Int) + 1))) (p_incN h49) ?_
      refine tkeepT2 ?_ rfl
      refine tkeepT2 ?_ rfl
      refine tsome ?_
      exact h44 (r60)
    · refine tb (x := (vb (decide ((List.length a0.Tables : Int) < (List.length a0.Tables : Int))))) (d_lss) ?_
      refine tcond_f h63 ?_
      refine tkeepT2 ?_ rfl
      refine tkeepT2 ?_ rfl
      refine tsome ?_
      exact rf_j rfl
  · refine tb (x := V.any) rfl ?_
    refine tb (x := [(V.osl 1 (List.map (cS T_Rule.c) s31))]) rfl ?_
    refine tb (x := (V.obj [(vi a0.Topo.Switches), (V.sl (List.map T_Link.c r7)), (V.sl (List.map T_Host.c r12)), (V.osl 1 (List.map (cS T_Rule.c) s31))])) (by kernel_rfl) ?_
    refine tb (x := (V.agg [(vi a0.Topo.Switches), (V.sl (List.map T_Link.c r7)), (V.sl (List.map T_Host.c r12)), (V.osl 1 (List.map (cS T_Rule.c) s31))])) (by kernel_rfl) ?_
    refine tb (x := [(vi a0.Topo.Switches), (V.sl (List.map T_Link.c r7)), (V.sl (List.map T_Host.c r12)), (V.osl 1 (List.map (cS T_Rule.c) s31))]) rfl ?_
    refine tb (x := (V.obj [(vi a0.Topo.Switches), (V.sl (List.map T_Link.c r7)), (V.sl (List.map T_Host.c r12)), (V.osl 1 (List.map (cS T_Rule.c) s31))])) (by kernel_rfl) ?_
    refine tb (x := (V.agg [(vi a0.Topo.Switches), (V.sl (List.map T_Link.c r7)), (V.sl (List.map T_Host.c r12)), (V.osl 1 (List.map (cS T_Rule.c) s31))])) (by kernel_rfl) ?_
    exact rf_ret rfl

/-! railpoint/change.Apply -/
def an_change_Apply : Ann := .seq (.reg 0 [] [] [2]) (.seq (.seq (.reg 0 [] [] []) (.seq (.reg 0 [] [] []) (.cond none (.seq (.reg 0 [] [] []) (.no)) (.no)))) (.seq (.seq (.reg 0 [] [] []) (.cond none (.seq (.reg 0 [] [] []) (.no)) (.no))) (.seq (.reg 0 [] [] [23]) (.seq (.seq (.reg 0 [] [] []) (.blk (some [.o 2, .b 4]) (.loop [.o 2, .b 4, .s 26] (.seq (.reg 0 [] [] []) (.seq (.cond none (.no) (.no)) (.seq (.blk none (.seq (.reg 0 [] [] []) (.seq (.seq (.reg 0 [] [] []) (.cond none (.seq (.reg 0 [] [] []) (.no)) (.no))) (.seq (.reg 17 [] [] [45]) (.seq (.seq (.reg 0 [] [] []) (.cond none (.seq (.reg 0 [] [] []) (.no)) (.no))) (.reg 0 [] [] [63])))))) (.reg 0 [] [] []))))))) (.seq (.reg 0 [2] [] []) (.no))))))
noncomputable def sem_change_Apply (n : Nat) (xs : List V) : Option V := if xs.length ≤ 71 then denF Try.prog (envOf [(11, (sem_net_Check n)), (16 + 1000000, (sem_change_Own n)), (17, (sem_Do n))]) n Try.f6 an_change_Apply xs else none
theorem ok_change_Apply (n : Nat) : SemOk Try.prog DW 6 (sem_change_Apply n) := fun xs y h => by
  unfold sem_change_Apply at h
  split at h
  · rename_i hl
    exact denF_ok stb Try.func6 (by kernel_rfl) (envOf_ok (semsOk_cons (ok_net_Check n) (semsOk_consM (ok_change_Own n) (semsOk_cons (ok_Do n) semsOk_nil)))) (by rw [Try.ntmps6]; exact hl) h
  · cases h
theorem eq_change_Apply (n : Nat) (x0 x1 : V) : sem_change_Apply n [x0, x1] =
 (V.cellsO x0).bind fun v1 =>
 ((nodeL (V.obj v1) none 0).bind fun l2 => (ldk (some 4) (List.drop 0 l2)).bind pureO).bind fun v3 =>
 ((sem_net_Check n) [v3]).bind fun v4 =>
 (bin2 Try.prog BinOp.neq 41 (ot 13) (Operand.const Go.Value.nilIface) v4 vn).bind fun v5 =>
 condV v5 (
 ((fillL [(vi 0), (V.sl []), (V.sl []), (V.sl [])] []).map V.agg).bind fun v6 =>
 (spliceV [(vi 0), (V.sl []), (V.sl []), (V.sl [])] 0 4 v6).bind fun v7 =>
 (ldk (some 4) (List.drop 0 (aggL v7))).bind fun v8 =>
 some (V.tup [v8, v4])) (
 (lenS [x1]).bind fun v9 =>
 (bin2 Try.prog BinOp.gtr 3 (ot 18) (oc 200) v9 (vi 200)).bind fun v10 =>
 condV v10 (
 ((fillL [(vi 0), (V.sl []), (V.sl []), (V.sl [])] []).map V.agg).bind fun v11 =>
 (scal1 Try.prog (Instr.makeInterface 66) (vi 4)).bind fun v12 =>
 (spliceV [(vi 0), (V.sl []), (V.sl []), (V.sl [])] 0 4 v11).bind fun v13 =>
 (ldk (some 4) (List.drop 0 (aggL v13))).bind fun v14 =>
 some (V.tup [v14, v12])) (
 ((nodeL (V.obj v1) none 0).bind fun l15 => (ldk (some 4) (List.drop 0 l15)).bind pureO).bind fun v16 =>
 ((sem_change_Own n) [v16]).bind fun z17 =>
 (V.cellsO (tupAt z17 0)).bind fun v18 =>
 (setV (V.obj v1) [] (Stp.mk none 0 0) 4 v18).bind fun v19 =>
 (lenS [x1]).bind fun v20 =>
 JoinPt (fun vs21 =>
 (some (frzP (List.getD vs21 0 V.any))).bind fun v23 =>
 (ldp (some 4) v23).bind fun v24 =>
 (spliceV (aggL (List.getD vs21 1 V.any)) 0 4 v24).bind fun v25 =>
 (ldk (some 4) (List.drop 0 (aggL v25))).bind fun v26 =>
 some (V.tup [v26, vn])) fun J22 =>
 (fixN (fun rec27 vs28 =>
 (bin2 Try.prog BinOp.lss 3 (ot 26) (ot 25) (List.getD vs28 2 V.any) v20).bind fun v29 =>
 condV v29 (
 (idxS 8 x1 (List.getD vs28 2 V.any)).bind fun v30 =>
 (ldp (some 8) v30).bind fun v31 =>
 (spliceV [(vi 0), (vb false), (vi 0), (vi 0), (vi 0), (vi 0), (vi 0), (vi 0)] 0 8 v31).bind fun v32 =>
 (ldk none (List.drop 0 (aggL v32))).bind fun v33 =>
 (bin2 Try.prog BinOp.lss 3 (ot 31) (oc 1) v33 (vi 1)).bind fun v34 =>
 (guardV v34 false (some V.any)).bind fun v35 =>
 (guardV v34 false ((gate v34 false (ldk none (List.drop 0 (aggL v32)))).bind fun v36 =>
 some v36)).bind fun v37 =>
 (guardV v34 false (some V.any)).bind fun v38 =>
 (guardV v34 false (gate v34 false (some V.any))).bind fun v39 =>
 (guardV v34 false ((gate v34 false (gate v34 false ((nodeL (List.getD vs28 0 V.any) none 0).bind fun l40 => (ldk none (List.drop 0 l40)).bind pureO))).bind fun v41 =>
 some v41)).bind fun v42 =>
 (guardV v34 false ((bin2 Try.prog BinOp.gtr 3 (ot 35) (ot 38) v37 v42).bind fun v43 =>
 some v43)).bind fun v44 =>
 (pickV v34 (vb true) v44).bind fun v45 =>
 condV v45 (
 ((fillL [(vi 0), (V.sl []), (V.sl []), (V.sl [])] []).map V.agg).bind fun v46 =>
 (scal1 Try.prog (Instr.makeInterface 66) (vi 1)).bind fun v47 =>
 (spliceV (aggL (List.getD vs28 1 V.any)) 0 4 v46).bind fun v48 =>
 (ldk (some 4) (List.drop 0 (aggL v48))).bind fun v49 =>
 some (V.tup [v49, v47])) (
 (some V.any).bind fun v50 =>
 ((nodeL (List.getD vs28 0 V.any) none 0).bind fun l51 => (l51[3]?).bind ownO).bind fun v52 =>
 (ldk none (List.drop 0 (aggL v32))).bind fun v53 =>
 (bin2 Try.prog BinOp.sub 3 (ot 47) (oc 1) v53 (vi 1)).bind fun v54 =>
 (((getV (List.getD vs28 0 V.any) [(Stp.mk none 3 0)]).bind oslR).bind fun rows55 => inB (List.length rows55) v54).bind fun v56 =>
 (((getV (List.getD vs28 0 V.any) [(Stp.mk none 3 0)]).bind fun y => nodeL y (some (natOf v54)) 1).bind fun l57 => (ldk none (List.drop 0 l57)).bind pureO).bind fun v58 =>
 (ldk none (List.drop 1 (aggL v32))).bind fun v59 =>
 (ldk (some 6) (List.drop 2 (aggL v32))).bind fun v60 =>
 ((sem_Do n) [v58, v59, v60]).bind fun v61 =>
 (extractV v61 0).bind fun v62 =>
 (extractV v61 1).bind fun v63 =>
 (bin2 Try.prog BinOp.neq 41 (ot 58) (Operand.const Go.Value.nilIface) v63 vn).bind fun v64 =>
 condV v64 (
 ((fillL [(vi 0), (V.sl []), (V.sl []), (V.sl [])] []).map V.agg).bind fun v65 =>
 (spliceV (aggL (List.getD vs28 1 V.any)) 0 4 v65).bind fun v66 =>
 (ldk (some 4) (List.drop 0 (aggL v66))).bind fun v67 =>
 some (V.tup [v67, v63])) (
 (some V.any).bind fun v68 =>
 ((nodeL (List.getD vs28 0 V.any) none 0).bind fun l69 => (l69[3]?).bind ownO).bind fun v70 =>
 (ldk none (List.drop 0 (aggL v32))).bind fun v71 =>
 (bin2 Try.prog BinOp.sub 3 (ot 65) (oc 1) v71 (vi 1)).bind fun v72 =>
 (((getV (List.getD vs28 0 V.any) [(Stp.mk none 3 0)]).bind oslR).bind fun rows73 => inB (List.length rows73) v72).bind fun v74 =>
 (V.cellsO v62).bind fun v75 =>
 (setV (List.getD vs28 0 V.any) [(Stp.mk none 3 0)] (Stp.mk (some (natOf v72)) 0 1) 1 v75).bind fun v76 =>
 (bin2 Try.prog BinOp.add 3 (ot 26) (oc 1) (List.getD vs28 2 V.any) (vi 1)).bind fun v77 =>
 rec27 [v76, (V.agg (aggL (List.getD vs28 1 V.any))), v77]))) (
 J22 [(List.getD vs28 0 V.any), (V.agg (aggL (List.getD vs28 1 V.any)))])) n) [v19, (V.agg [(vi 0), (V.sl []), (V.sl []), (V.sl [])]), (vi 0)])) := by kernel_rfl
noncomputable def t_change_Apply (a0 : T_Net) (a1 : (List T_Op)) : Option (T_Net × Int) :=
 (t_net_Check a0).bind fun r4 =>
 if (!decide (r4 = 0)) = true then (
 some ((T_Net.mk (T_Topo.mk 0 [] []) []), r4)) else (
 if (decide (200 < (List.length a1 : Int))) = true then (
 some ((T_Net.mk (T_Topo.mk 0 [] []) []), 4)) else (
 (t_change_Own a0).bind fun r19 =>
 join (fun (s25 : (T_Net × T_Net)) =>
 some (s25.1, 0)) fun j26 =>
 loopI a1 (fun (i38 : Int) x39 (s34 : T_Net) k35 =>
 if ((decide (x39.Switch < 1)) || (decide (s34.Topo.Switches < x39.Switch))) = true then (
 some ((T_Net.mk (T_Topo.mk 0 [] []) []), 1)) else (
 need (decide (0 ≤ (wr (x39.Switch - 1))) && decide ((wr (x39.Switch - 1)) < (List.length s34.Tables : Int))) (
 (idx s34.Tables (wr (x39.Switch - 1))).bind fun r75 =>
 (t_table_Do r75 x39.Add x39.Rule).bind fun r80 =>
 if (!decide (r80.2 = 0)) = true then (
 some ((T_Net.mk (T_Topo.mk 0 [] []) []), r80.2)) else (
 need (decide (0 ≤ (wr (x39.Switch - 1))) && decide ((wr (x39.Switch - 1)) < (List.length s34.Tables : Int))) (
 (oset s34.Tables (wr (x39.Switch - 1)) r80.1).bind fun r94 =>
 k35 (T_Net.mk s34.Topo r94)))))) (fun (s34 : T_Net) =>
 j26 (s34, (T_Net.mk (T_Topo.mk 0 [] []) []))) (r19)))
theorem ty_change_Apply {n : Nat} (hn : bigN ≤ n) (a0 : T_Net) (a1 : (List T_Op)) : Rv (fun x : (T_Net × Int) => V.tup [(T_Net.e x.1), (eV x.2)]) (sem_change_Apply n [(T_Net.e a0), (V.sl (List.map T_Op.c a1))]) (t_change_Apply a0 a1) := by
  rw [eq_change_Apply]
  unfold t_change_Apply
  refine tb (x := (T_Net.c a0)) rfl ?_
  refine tb (x := (T_Net.e a0)) (rfl) ?_
  refine tbo (ty_net_Check hn a0) fun r4 => ?_
  refine tb (x := (vb (!decide (r4 = 0)))) (p_err_neq _) ?_
  refine tcond (fun h6 => ?_) (fun h6 => ?_)
  · refine tb (x := (T_Net.e (T_Net.mk (T_Topo.mk 0 [] []) []))) (by kernel_rfl) ?_
    refine tb (x := V.agg (T_Net.c (T_Net.mk (T_Topo.mk 0 [] []) []))) (by kernel_rfl) ?_
    refine tb (x := (T_Net.e (T_Net.mk (T_Topo.mk 0 [] []) []))) rfl ?_
    exact rf_ret rfl
  · refine tb (x := (vi (List.length a1 : Int))) (p_len _) ?_
    refine tb (x := (vb (decide (200 < (List.length a1 : Int))))) (d_gtr) ?_
    refine tcond (fun h12 => ?_) (fun h12 => ?_)
    · refine tb (x := (T_Net.e (T_Net.mk (T_Topo.mk 0 [] []) []))) (by kernel_rfl) ?_
      refine tb (x := (eV 4)) (p_mkE (by decide)) ?_
      refine tb (x := V.agg (T_Net.c (T_Net.mk (T_Topo.mk 0 [] []) []))) (by kernel_rfl) ?_
      refine tb (x := (T_Net.e (T_Net.mk (T_Topo.mk 0 [] []) []))) rfl ?_
      exact rf_ret rfl
    · refine tb (x := (T_Net.e a0)) (rfl) ?_
      refine tbo (ty_change_Own hn a0) fun r19 => ?_
      refine tb (x := [(vi r19.Topo.Switches), (V.sl (List.map T_Link.c r19.Topo.Links)), (V.sl (List.map T_Host.c r19.Topo.Hosts)), (V.osl 1 (List.map (cS T_Rule.c) r19.Tables))]) rfl ?_
      refine tb (x := (V.obj [(vi r19.Topo.Switches), (V.sl (List.map T_Link.c r19.Topo.Links)), (V.sl (List.map T_Host.c r19.Topo.Hosts)), (V.osl 1 (List.map (cS T_Rule.c) r19.Tables))])) (by kernel_rfl) ?_
      refine tb (x := (vi (List.length a1 : Int))) (p_len _) ?_
      refine tjoin (mk := fun s25 : (T_Net × T_Net) => [(V.obj [(vi s25.1.Topo.Switches), (V.sl (List.map T_Link.c s25.1.Topo.Links)), (V.sl (List.map T_Host.c s25.1.Topo.Hosts)), (V.osl 1 (List.map (cS T_Rule.c) s25.1.Tables))]), (V.agg (T_Net.c s25.2))]) (fun s25 => ?_) fun J24 j26 h27 => ?_
      · refine tb (x := (V.ptr (T_Net.c s25.1))) (p_frzP (p_fzc rfl (p_fzc rfl (p_fzc rfl (p_fzc (p_frzl (c' := (cS T_Rule.c)) (fun _ => rfl) _) p_fz0))))) ?_
        refine tb (x := (T_Net.e s25.1)) (rfl) ?_
        refine tb (x := V.agg (T_Net.c s25.1)) (by kernel_rfl) ?_
        refine tb (x := (T_Net.e s25.1)) rfl ?_
        exact rf_ret rfl
      · refine rf_loopI (mk := fun (i38 : Int) (s34 : T_Net) => [(V.obj [(vi s34.Topo.Switches), (V.sl (List.map T_Link.c s34.Topo.Links)), (V.sl (List.map T_Host.c s34.Topo.Hosts)), (V.osl 1 (List.map (cS T_Rule.c) s34.Tables))]), (V.agg (T_Net.c (T_Net.mk (T_Topo.mk 0 [] []) []))), (vi (i38 : Int))]) hn a1 (r19) (fun i38 x39 h40 h41 h42 s34 rec32 k35 h36 => ?_) (fun s34 rec97 h96 => ?_)
        · refine tb (x := (vb (decide ((i38 : Int) < (List.length a1 : Int))))) (d_lss) ?_
          refine tcond_t h42 ?_
          refine tb (x := (V.ptr (T_Op.c x39))) (p_idx_at (c := T_Op.c) (fun _ => rfl) h40) ?_
          refine tb (x := (T_Op.e x39)) (rfl) ?_
          refine tb (x := V.agg (T_Op.c x39)) (by kernel_rfl) ?_
          refine tb (x := (vi x39.Switch)) (rfl) ?_
          refine tb (x := (vb (decide (x39.Switch < 1)))) (d_lss) ?_
          refine tg_f (x := V.any) (fun h49 => rfl) ?_
          refine tg_f (x := (vi x39.Switch)) (fun h51 => bind_some_eq (gate_pos (not_t h51) (rfl))) ?_
          refine tg_f (x := V.any) (fun h54 => rfl) ?_
          refine tg_f (x := V.any) (fun h56 => by first | exact gate_pos (not_t h56) (rfl) | (simp only [gv_t h56]; exact gate_pos (not_t h56) (rfl))) ?_
          refine tg_f (x := (vi s34.Topo.Switches)) (fun h58 => by first | exact bind_some_eq (gate_pos (not_t h58) (gate_pos (not_t h58) (rfl))) | (simp only [gv_t h58]; exact bind_some_eq (gate_pos (not_t h58) (gate_pos (not_t h58) (rfl))))) ?_
          refine tg_f (x := (vb (decide (s34.Topo.Switches < x39.Switch)))) (fun h61 => by simp only [gv_t h61]; exact bind_some_eq (d_gtr)) ?_
          refine tb (x := (vb ((decide (x39.Switch < 1)) || (decide (s34.Topo.Switches < x39.Switch))))) (pick_or (fun h9 => gv_t (not_f h9))) ?_
          refine tcond (fun h65 => ?_) (fun h65 => ?_)
          · refine tb (x := (T_Net.e (T_Net.mk (T_Topo.mk 0 [] []) []))) (by kernel_rfl) ?_
            refine tb (x := (eV 1)) (p_mkE (by decide)) ?_
            refine tb (x := V.agg (T_Net.c (T_Net.mk (T_Topo.mk 0 [] []) []))) (by kernel_rfl) ?_
            refine tb (x := (T_Net.e (T_Net.mk (T_Topo.mk 0 [] []) []))) rfl ?_
            exact rf_ret rfl
          · refine tb (x := V.any) rfl ?_
            refine tb (x := V.any) rfl ?_
            refine tb (x := (vi x39.Switch)) (rfl) ?_
            refine tb (x := (vi (wr (x39.Switch - 1)))) (d_sub) ?_
            refine p_asc ?_
            refine p_asc ?_
            refine p_inF (y := (V.osl 1 (List.map (cS T_Rule.c) s34.Tables))) rfl ?_
            refine p_in0 ?_
            refine p_cas ?_
            refine tneed (x := V.any) (fun h74 => p_inB (c := (cS T_Rule.c)) (k := 1) s34.Tables (wr (x39.Switch - 1)) h74) fun h74 => ?_
            refine p_asc ?_
            refine p_asc ?_
            refine p_inF (y := (V.osl 1 (List.map (cS T_Rule.c) s34.Tables))) rfl ?_
            refine p_in0 ?_
            refine p_cas ?_
            refine tbo (p_oload (e1 := fun x : (List T_Rule) => (V.sl (List.map T_Rule.c x))) (c := (cS T_Rule.c)) (fun _ => rfl) s34.Tables (wr (x39.Switch - 1)) (fun _ => rfl)) fun r75 => ?_
            refine tb (x := (vb x39.Add)) (rfl) ?_
            refine tb (x := (T_Rule.e x39.Rule)) (rfl) ?_
            refine tbo (ty_table_Do r75 x39.Add x39.Rule) fun r80 => ?_
            refine tb (x := (V.sl (List.map T_Rule.c r80.1))) (rfl) ?_
            refine tb (x := (eV r80.2)) (rfl) ?_
            refine tb (x := (vb (!decide (r80.2 = 0)))) (p_err_neq _) ?_
            refine tcond (fun h84 => ?_) (fun h84 => ?_)
            · refine tb (x := (T_Net.e (T_Net.mk (T_Topo.mk 0 [] []) []))) (by kernel_rfl) ?_
              refine tb (x := V.agg (T_Net.c (T_Net.mk (T_Topo.mk 0 [] []) []))) (by kernel_rfl) ?_
              refine tb (x := (T_Net.e (T_Net.mk (T_Topo.mk 0 [] []) []))) rfl ?_
              exact rf_ret rfl
            · refine tb (x := V.any) rfl ?_
              refine tb (x := V.any) rfl ?_
              refine tb (x := (vi x39.Switch)) (rfl) ?_
              refine tb (x := (vi (wr (x39.Switch - 1)))) (d_sub) ?_
              refine p_asc ?_
              refine p_asc ?_
              refine p_inF (y := (V.osl 1 (List.map (cS T_Rule.c) s34.Tables))) rfl ?_
              refine p_in0 ?_
              refine p_cas ?_
              refine tneed (x := V.any) (fun h92 => p_inB (c := (cS T_Rule.c)) (k := 1) s34.Tables (wr (x39.Switch - 1)) h92) fun h92 => ?_
              refine tb (x := (cS T_Rule.c) r80.1) rfl ?_
              refine tbo (p_setF (e1 := fun a => (V.osl 1 (List.map (cS T_Rule.c) a))) (y := (V.osl 1 (List.map (cS T_Rule.c) s34.Tables))) rfl (p_oset (c := (cS T_Rule.c)) (fun _ => rfl) s34.Tables (wr (x39.Switch - 1)) r80.1)) fun r94 => ?_
              refine tb (x := (vi ((i38 : Int) + 1))) (p_incN h41) ?_
              exact h36 (T_Net.mk s34.Topo r94)
        · refine tb (x := (vb (decide ((List.length a1 : Int) < (List.length a1 : Int))))) (d_lss) ?_
          refine tcond_f h96 ?_
          exact h27 (s34, (T_Net.mk (T_Topo.mk 0 [] []) []))

/-! slices.IndexFunc   railpoint/api.Link railpoint/api.Link  -/
def an_slices_IndexFunc_api_Link_api_Link : Ann := .seq (.reg 0 [] [] []) (.seq (.seq (.reg 0 [] [] []) (.blk (some []) (.loop [.s 8] (.seq (.reg 0 [] [] []) (.seq (.cond none (.no) (.no)) (.seq (.blk none (.seq (.reg 0 [] [] []) (.seq (.reg 0 [] [] []) (.cond none (.seq (.reg 0 [] [] []) (.no)) (.no))))) (.reg 0 [] [] []))))))) (.seq (.reg 0 [] [] []) (.no)))
noncomputable def sem_slices_IndexFunc_api_Link_api_Link (E : FuncId → List V → Option V) (n : Nat) (xs : List V) : Option V := if xs.length ≤ 19 then denF Try.prog (envJ [] E) n Try.f34 an_slices_IndexFunc_api_Link_api_Link xs else none
theorem ok_slices_IndexFunc_api_Link_api_Link {E : FuncId → List V → Option V} (hE : EnvOk Try.prog DW E) (n : Nat) : SemOk Try.prog DW 34 (sem_slices_IndexFunc_api_Link_api_Link E n) := fun xs y h => by
  unfold sem_slices_IndexFunc_api_Link_api_Link at h
  split at h
  · rename_i hl
    exact denF_ok stb Try.func34 (by kernel_rfl) (envJ_ok semsOk_nil hE) (by rw [Try.ntmps34]; exact hl) h
  · cases h
theorem eq_slices_IndexFunc_api_Link_api_Link (E : FuncId → List V → Option V) (n : Nat) (x0 x1 : V) : sem_slices_IndexFunc_api_Link_api_Link E n [x0, x1] =
 (lenS [x0]).bind fun v1 =>
 JoinPt (fun vs2 =>
 some (vi (-1 : Int))) fun J3 =>
 (fixN (fun rec4 vs5 =>
 (bin2 Try.prog BinOp.lss 3 (ot 8) (ot 7) (List.getD vs5 0 V.any) v1).bind fun v6 =>
 condV v6 (
 (idxS 4 x0 (List.getD vs5 0 V.any)).bind fun v7 =>
 (ldp (some 4) v7).bind fun v8 =>
 (callV (envJ [] E) x1 [v8]).bind fun v9 =>
 condV v9 (
 some (List.getD vs5 0 V.any)) (
 (bin2 Try.prog BinOp.add 3 (ot 8) (oc 1) (List.getD vs5 0 V.any) (vi 1)).bind fun v10 =>
 rec4 [v10])) (
 J3 [])) n) [(vi 0)] := by kernel_rfl
noncomputable def t_slices_IndexFunc_api_Link_api_Link (a0 : (List T_Link)) (g1 : T_Link → Option Bool) : Option Int :=
 join (fun (s4 : Unit) =>
 some (-1 : Int)) fun j5 =>
 loopI a0 (fun (i13 : Int) x14 (s9 : Unit) k10 =>
 (g1 x14).bind fun r22 =>
 if r22 = true then (
 some i13) else (
 k10 ())) (fun (s9 : Unit) =>
 j5 ()) ()
theorem ty_slices_IndexFunc_api_Link_api_Link {E : FuncId → List V → Option V} {n : Nat} (hn : bigN ≤ n) (a0 : (List T_Link)) {x1 : V} {g1 : T_Link → Option Bool} (hg_g1 : ∀ a0, Rv (fun x : Bool => (vb x)) (callV E x1 [(T_Link.e a0)]) (g1 a0)) : Rv (fun x : Int => (vi x)) (sem_slices_IndexFunc_api_Link_api_Link E n [(V.sl (List.map T_Link.c a0)), x1]) (t_slices_IndexFunc_api_Link_api_Link a0 g1) := by
  rw [eq_slices_IndexFunc_api_Link_api_Link]
  unfold t_slices_IndexFunc_api_Link_api_Link
  refine tb (x := (vi (List.length a0 : Int))) (p_len _) ?_
  refine tjoin (mk := fun s4 : Unit => []) (fun s4 => ?_) fun J3 j5 h6 => ?_
  · exact rf_ret rfl
  · refine rf_loopI (mk := fun (i13 : Int) (s9 : Unit) => [(vi (i13 : Int))]) hn a0 () (fun i13 x14 h15 h16 h17 s9 rec7 k10 h11 => ?_) (fun s9 rec26 h25 => ?_)
    · refine tb (x := (vb (decide ((i13 : Int) < (List.length a0 : Int))))) (d_lss) ?_
      refine tcond_t h17 ?_
      refine tb (x := (V.ptr (T_Link.c x14))) (p_idx_at (c := T_Link.c) (fun _ => rfl) h15) ?_
      refine tb (x := (T_Link.e x14)) (rfl) ?_
      refine tbo ((callV_J0 ▸ hg_g1 x14)) fun r22 => ?_
      refine tcond (fun h23 => ?_) (fun h23 => ?_)
      · exact rf_ret rfl
      · refine tb (x := (vi ((i13 : Int) + 1))) (p_incN h16) ?_
        exact h11 ()
    · refine tb (x := (vb (decide ((List.length a0 : Int) < (List.length a0 : Int))))) (d_lss) ?_
      refine tcond_f h25 ?_
      exact h6 ()

/-! railpoint/judge.Count$1 -/
def an_judge_Count_1 : Ann := .seq (.reg 0 [] [] []) (.seq (.reg 0 [] [] []) (.no))
noncomputable def sem_judge_Count_1 (n : Nat) (xs : List V) : Option V := if xs.length ≤ 16 then denF Try.prog (envOf []) n Try.f35 an_judge_Count_1 xs else none
theorem ok_judge_Count_1 (n : Nat) : SemOk Try.prog DW 35 (sem_judge_Count_1 n) := fun xs y h => by
  unfold sem_judge_Count_1 at h
  split at h
  · rename_i hl
    exact denF_ok stb Try.func35 (by kernel_rfl) (envOf_ok semsOk_nil) (by rw [Try.ntmps35]; exact hl) h
  · cases h
theorem eq_judge_Count_1 (n : Nat) (x0 x1 : V) : sem_judge_Count_1 n [x0, x1] =
 (V.cellsO x0).bind fun v1 =>
 (ldk (some 2) (List.drop 0 v1)).bind fun v2 =>
 (ptrF 0 x1).bind fun v3 =>
 (ldp (some 2) v3).bind fun v4 =>
 (bin2 Try.prog BinOp.eql 30 (ot 5) (ot 7) v2 v4).bind fun v5 =>
 (guardV v5 false (some V.any)).bind fun v6 =>
 (guardV v5 false ((gate v5 false (ldk (some 2) (List.drop 2 v1))).bind fun v7 =>
 some v7)).bind fun v8 =>
 (guardV v5 false ((ptrF 0 x1).bind fun v9 =>
 some v9)).bind fun v10 =>
 (guardV v5 false ((ldp (some 2) v10).bind fun v11 =>
 some v11)).bind fun v12 =>
 (guardV v5 false ((bin2 Try.prog BinOp.eql 30 (ot 11) (ot 13) v8 v12).bind fun v13 =>
 some v13)).bind fun v14 =>
 (pickV v5 (vb true) v14).bind fun v15 =>
 some v15 := by kernel_rfl
noncomputable def t_judge_Count_1 (a0 : T_Link) (a1 : T_Hop) : Option Bool :=
 some ((decide (a0.A = a1.At)) || (decide (a0.B = a1.At)))
theorem ty_judge_Count_1 {n : Nat} (hn : bigN ≤ n) (a0 : T_Link) (a1 : T_Hop) : Rv (fun x : Bool => (vb x)) (sem_judge_Count_1 n [(T_Link.e a0), (V.ptr (T_Hop.c a1))]) (t_judge_Count_1 a0 a1) := by
  rw [eq_judge_Count_1]
  unfold t_judge_Count_1
  refine tb (x := (T_Link.c a0)) rfl ?_
  refine tb (x := (T_Spot.e a0.A)) (rfl) ?_
  refine tb (x := (V.ptr (T_Hop.c a1))) (rfl) ?_
  refine tb (x := (T_Spot.e a1.At)) (rfl) ?_
  refine tb (x := (vb (decide (a0.A = a1.At)))) (T_Spot.eql a0.A a1.At) ?_
  refine tg_f (x := V.any) (fun h6 => rfl) ?_
  refine tg_f (x := (T_Spot.e a0.B)) (fun h8 => bind_some_eq (gate_pos (not_t h8) (rfl))) ?_
  refine tg_f (x := (V.ptr (T_Hop.c a1))) (fun h11 => bind_some_eq (rfl)) ?_
  refine tg_f (x := (T_Spot.e a1.At)) (fun h14 => by first | exact bind_some_eq (rfl) | (simp only [gv_t h14]; exact bind_some_eq (rfl))) ?_
  refine tg_f (x := (vb (decide (a0.B = a1.At)))) (fun h17 => by simp only [gv_t h17]; exact bind_some_eq (T_Spot.eql a0.B a1.At)) ?_
  refine tb (x := (vb ((decide (a0.A = a1.At)) || (decide (a0.B = a1.At))))) (pick_or (fun h9 => gv_t (not_f h9))) ?_
  exact rf_ret rfl

/-! railpoint/judge.Count -/
def an_judge_Count : Ann := .seq (.reg 0 [] [] []) (.seq (.reg 0 [] [] []) (.seq (.seq (.reg 0 [] [] []) (.blk (some [.o 5]) (.loop [.kb 2, .o 5, .s 17] (.seq (.reg 0 [] [] []) (.seq (.cond none (.no) (.no)) (.seq (.blk (some [.kb 2, .o 5]) (.seq (.reg 0 [] [] []) (.seq (.reg 0 [] [] []) (.blk (some [.kb 2, .o 5]) (.loop [.kb 2, .o 5, .s 29] (.seq (.reg 0 [] [] []) (.seq (.cond none (.no) (.no)) (.seq (.blk none (.seq (.reg 0 [] [] []) (.seq (.reg 0 [9] [] []) (.seq (.reg 0 [] [] []) (.cond (some [.kb 2, .o 5]) (.reg 0 [] [] []) (.no)))))) (.reg 0 [] [] []))))))))) (.reg 0 [] [] []))))))) (.seq (.reg 0 [5] [] []) (.no))))
noncomputable def sem_judge_Count (n : Nat) (xs : List V) : Option V := if xs.length ≤ 48 then denF Try.prog (envOf [(34, (sem_slices_IndexFunc_api_Link_api_Link (envOf [(35, (sem_judge_Count_1 n))]) n)), (35, (sem_judge_Count_1 n))]) n Try.f18 an_judge_Count xs else none
theorem ok_judge_Count (n : Nat) : SemOk Try.prog DW 18 (sem_judge_Count n) := fun xs y h => by
  unfold sem_judge_Count at h
  split at h
  · rename_i hl
    exact denF_ok stb Try.func18 (by kernel_rfl) (envOf_ok (semsOk_cons (ok_slices_IndexFunc_api_Link_api_Link (envOf_ok (semsOk_cons (ok_judge_Count_1 n) semsOk_nil)) n) (semsOk_cons (ok_judge_Count_1 n) semsOk_nil))) (by rw [Try.ntmps18]; exact hl) h
  · cases h
theorem eq_judge_Count (n : Nat) (x0 x1 : V) : sem_judge_Count n [x0, x1] =
 (V.cellsO x0).bind fun v1 =>
 (ldk none (List.drop 1 v1)).bind fun v2 =>
 (lenS [v2]).bind fun v3 =>
 (makeN 1 [(vi 0)] v3 v3).bind fun v4 =>
 (lenS [x1]).bind fun v5 =>
 JoinPt (fun vs6 =>
 (some (frz (List.getD vs6 0 V.any))).bind fun v8 =>
 some v8) fun J7 =>
 (keepO (some v1) (some v1) (some [v4, (vi 0)])).bind (fixN (fun rec9 vs10 =>
 (bin2 Try.prog BinOp.lss 3 (ot 17) (ot 16) (List.getD vs10 1 V.any) v5).bind fun v11 =>
 condV v11 (
 JoinPt (fun vs12 =>
 (bin2 Try.prog BinOp.add 3 (ot 17) (oc 1) (List.getD vs10 1 V.any) (vi 1)).bind fun v14 =>
 (keepO (some v1) (some v1) (some [(List.getD vs12 0 V.any), v14])).bind rec9) fun J13 =>
 (idxS 3 x1 (List.getD vs10 1 V.any)).bind fun v15 =>
 (ldp (some 3) v15).bind fun v16 =>
 (spliceV [(vi 0), (V.lit (Go.Value.string (ByteArray.mk #[]))), (V.sl [])] 0 3 v16).bind fun v17 =>
 (ldk none (List.drop 2 (aggL v17))).bind fun v18 =>
 (ldk none (List.drop 2 (aggL v17))).bind fun v19 =>
 (lenS [v19]).bind fun v20 =>
 (scal2 Try.prog (fun u v => Builtin.min_ #[3, 3] 3 #[u, v]) (vi 1) v20).bind fun v21 =>
 (slc (some 3) v18 (some v21) none).bind fun v22 =>
 (lenS [v22]).bind fun v23 =>
 JoinPt (fun vs24 =>
 (keepO (some v1) (some v1) (some [(List.getD vs24 0 V.any)])).bind J13) fun J25 =>
 (keepO (some v1) (some v1) (some [(List.getD vs10 0 V.any), (vi 0)])).bind (fixN (fun rec26 vs27 =>
 (bin2 Try.prog BinOp.lss 3 (ot 29) (ot 28) (List.getD vs27 1 V.any) v23).bind fun v28 =>
 condV v28 (
 (idxS 3 v22 (List.getD vs27 1 V.any)).bind fun v29 =>
 (ldp (some 3) v29).bind fun v30 =>
 (spliceV [(vi 0), (vi 0), (vi 0)] 0 3 v30).bind fun v31 =>
 (ldk none (List.drop 1 v1)).bind fun v32 =>
 ((sem_slices_IndexFunc_api_Link_api_Link (envOf [(35, (sem_judge_Count_1 n))]) n) [v32, (V.fn 35 [(V.ptr (aggL v31))])]).bind fun v33 =>
 (bin2 Try.prog BinOp.geq 3 (ot 37) (oc 0) v33 (vi 0)).bind fun v34 =>
 JoinPt (fun vs35 =>
 (bin2 Try.prog BinOp.add 3 (ot 29) (oc 1) (List.getD vs27 1 V.any) (vi 1)).bind fun v37 =>
 (keepO (some v1) (some v1) (some [(List.getD vs35 0 V.any), v37])).bind rec26) fun J36 =>
 condV v34 (
 ((oslR (List.getD vs27 0 V.any)).bind fun rows38 => inB (List.length rows38) v33).bind fun v39 =>
 ((nodeL (List.getD vs27 0 V.any) (some (natOf v33)) 1).bind fun l40 => (ldk none (List.drop 0 l40)).bind pureO).bind fun v41 =>
 (bin2 Try.prog BinOp.add 3 (ot 42) (oc 1) v41 (vi 1)).bind fun v42 =>
 ((oslR (List.getD vs27 0 V.any)).bind fun rows43 => inB (List.length rows43) v33).bind fun v44 =>
 (V.cellsO v42).bind fun v45 =>
 (setV (List.getD vs27 0 V.any) [] (Stp.mk (some (natOf v33)) 0 1) 1 v45).bind fun v46 =>
 (keepO (some v1) (some v1) (some [v46])).bind J36) (
 (keepO (some v1) (some v1) (some [(List.getD vs27 0 V.any)])).bind J36)) (
 (keepO (some v1) (some v1) (some [(List.getD vs27 0 V.any)])).bind J25)) n)) (
 J7 [(List.getD vs10 0 V.any)])) n) := by kernel_rfl
noncomputable def t_judge_Count (a0 : T_Topo) (a1 : (List T_Fate)) : Option (List Int) :=
 (omake (List.length a0.Links : Int) (List.length a0.Links : Int) 0).bind fun r5 =>
 (loopI a1 (fun (i19 : Int) x20 (s15 : (List Int)) k16 =>
 ((slc_lo x20.Hops (min 1 (List.length x20.Hops : Int))).bind fun r39 =>
 (loopI r39 (fun (i52 : Int) x53 (s48 : (List Int)) k49 =>
 (t_slices_IndexFunc_api_Link_api_Link a0.Links (fun (a62 : T_Link) => t_judge_Count_1 a62 x53)).bind fun r64 =>
 (if (decide (0 ≤ r64)) = true then (
 need (decide (0 ≤ r64) && decide (r64 < (List.length s48 : Int))) (
 (idx s48 r64).bind fun r76 =>
 need (decide (0 ≤ r64) && decide (r64 < (List.length s48 : Int))) (
 (oset s48 r64 (wr (r76 + 1))).bind fun r82 =>
 some (r82)))) else (
 some (s48))).bind fun (s68 : (List Int)) =>
 k49 (s68)) (fun (s48 : (List Int)) =>
 some (s48)) (s15)).bind fun (s43 : (List Int)) =>
 some (s43)).bind fun (s27 : (List Int)) =>
 k16 (s27)) (fun (s15 : (List Int)) =>
 some (s15)) (r5)).bind fun (s9 : (List Int)) =>
 some s9
theorem ty_judge_Count {n : Nat} (hn : bigN ≤ n) (a0 : T_Topo) (a1 : (List T_Fate)) : Rv (fun x : (List Int) => (V.sl (List.map cI x))) (sem_judge_Count n [(T_Topo.e a0), (V.sl (List.map T_Fate.c a1))]) (t_judge_Count a0 a1) := by
  rw [eq_judge_Count]
  unfold t_judge_Count
  refine tb (x := (T_Topo.c a0)) rfl ?_
  refine tb (x := (V.sl (List.map T_Link.c a0.Links))) (rfl) ?_
  refine tb (x := (vi (List.length a0.Links : Int))) (p_len _) ?_
  refine tbo (p_omake (c := cI) (List.length a0.Links : Int) (List.length a0.Links : Int) 0 rfl) fun r5 => ?_
  refine tb (x := (vi (List.length a1 : Int))) (p_len _) ?_
  refine tjb (mk := fun s9 : (List Int) => [(V.osl 1 (List.map cI s9))]) (fun J8 => ?_) fun s9 => ?_
  · refine tkeepO2 ?_ rfl
    refine tsome ?_
    refine rf_loopI (mk := fun (i19 : Int) (s15 : (List Int)) => [(V.osl 1 (List.map cI s15)), (vi (i19 : Int))]) hn a1 (r5) (fun i19 x20 h21 h22 h23 s15 rec13 k16 h17 => ?_) (fun s15 rec89 h88 => ?_)
    · refine tb (x := (vb (decide ((i19 : Int) < (List.length a1 : Int))))) (d_lss) ?_
      refine tcond_t h23 ?_
      refine tjb (mk := fun s27 : (List Int) => [(V.osl 1 (List.map cI s27))]) (fun J26 => ?_) fun s27 => ?_
      · refine tb (x := (V.ptr (T_Fate.c x20))) (p_idx_at (c := T_Fate.c) (fun _ => rfl) h21) ?_
        refine tb (x := (T_Fate.e x20)) (rfl) ?_
        refine tb (x := V.agg (T_Fate.c x20)) (by kernel_rfl) ?_
        refine tb (x := (V.sl (List.map T_Hop.c x20.Hops))) (rfl) ?_
        refine tb (x := (V.sl (List.map T_Hop.c x20.Hops))) (rfl) ?_
        refine tb (x := (vi (List.length x20.Hops : Int))) (p_len _) ?_
        refine tb (x := (vi (min 1 (List.length x20.Hops : Int)))) (p_min) ?_
        refine tbo (p_slc_lo (c := T_Hop.c) (fun _ => rfl) x20.Hops (min 1 (List.length x20.Hops : Int))) fun r39 => ?_
        refine tb (x := (vi (List.length r39 : Int))) (p_len _) ?_
        refine tjb (mk := fun s43 : (List Int) => [(V.osl 1 (List.map cI s43))]) (fun J42 => ?_) fun s43 => ?_
        · refine tkeepO2 ?_ rfl
          refine tsome ?_
          refine rf_loopI (mk := fun (i52 : Int) (s48 : (List Int)) => [(V.osl 1 (List.map cI s48)), (vi (i52 : Int))]) hn r39 (s15) (fun i52 x53 h54 h55 h56 s48 rec46 k49 h50 => ?_) (fun s48 rec86 h85 => ?_)
          · refine tb (x := (vb (decide ((i52 : Int) < (List.length r39 : Int))))) (d_lss) ?_
            refine tcond_t h56 ?_
            refine tb (x := (V.ptr (T_Hop.c x53))) (p_idx_at (c := T_Hop.c) (fun _ => rfl) h54) ?_
            refine tb (x := (T_Hop.e x53)) (rfl) ?_
            refine tb (x := V.agg (T_Hop.c x53)) (by kernel_rfl) ?_
            refine tb (x := (V.sl (List.map T_Link.c a0.Links))) (rfl) ?_
            refine tbo (ty_slices_IndexFunc_api_Link_api_Link (E := (envOf [(35, (sem_judge_Count_1 n))])) (x1 := (V.fn 35 [(V.ptr (T_Hop.c x53))])) (g1 := (fun (a62 : T_Link) => t_judge_Count_1 a62 x53)) hn a0.Links (fun a62 => ty_judge_Count_1 hn a62 x53)) fun r64 => ?_
            refine tb (x := (vb (decide (0 ≤ r64)))) (d_geq) ?_
            refine tjb (mk := fun s68 : (List Int) => [(V.osl 1 (List.map cI s68))]) (fun J67 => ?_) fun s68 => ?_
            · refine tcond (fun h72 => ?_) (fun h72 => ?_)
              · refine tneed (x := V.any) (fun h84 => p_inB s48 r64 h84) fun h84 => ?_
                refine tbo (p_oload (e1 := fun x : Int => (vi x)) (c := cI) (fun _ => rfl) s48 r64 (fun _ => rfl)) fun r76 => ?_
                refine tb (x := (vi (wr (r76 + 1)))) (d_add) ?_
                refine tneed (x := V.any) (fun h83 => p_inB s48 r64 h83) fun h83 => ?_
                refine tb (x := cI (wr (r76 + 1))) rfl ?_
                refine tbo (p_oset (c := cI) (fun _ => rfl) s48 r64 (wr (r76 + 1))) fun r82 => ?_
                refine tkeepO2 ?_ rfl
                refine tsome ?_
                exact rf_j rfl
              · refine tkeepO2 ?_ rfl
                refine tsome ?_
                exact rf_j rfl
            · refine tb (x := (vi ((i52 : Int) + 1))) (p_incN h55) ?_
              refine tkeepO2 ?_ rfl
              refine tsome ?_
              exact h50 (s68)
          · refine tb (x := (vb (decide ((List.length r39 : Int) < (List.length r39 : Int))))) (d_lss) ?_
            refine tcond_f h85 ?_
            refine tkeepO2 ?_ rfl
            refine tsome ?_
            exact rf_j rfl
        · refine tkeepO2 ?_ rfl
          refine tsome ?_
          exact rf_j rfl
      · refine tb (x := (vi ((i19 : Int) + 1))) (p_incN h22) ?_
        refine tkeepO2 ?_ rfl
        refine tsome ?_
        exact h17 (s27)
    · refine tb (x := (vb (decide ((List.length a1 : Int) < (List.length a1 : Int))))) (d_lss) ?_
      refine tcond_f h88 ?_
      exact rf_j rfl
  · refine tb (x := (V.sl (List.map cI s9))) (p_frz (c := cI) (fun _ => rfl) s9) ?_
    exact rf_ret rfl

/-! railpoint/load.Links -/
def an_load_Links : Ann := .seq (.reg 0 [] [] []) (.seq (.seq (.reg 0 [] [] []) (.seq (.reg 0 [] [] []) (.cond none (.seq (.reg 0 [] [] []) (.no)) (.no)))) (.seq (.reg 7 [] [] []) (.no)))
noncomputable def sem_load_Links (n : Nat) (xs : List V) : Option V := if xs.length ≤ 15 then denF Try.prog (envOf [(11, (sem_net_Check n)), (12, (sem_load_fates n)), (18, (sem_judge_Count n))]) n Try.f7 an_load_Links xs else none
theorem ok_load_Links (n : Nat) : SemOk Try.prog DW 7 (sem_load_Links n) := fun xs y h => by
  unfold sem_load_Links at h
  split at h
  · rename_i hl
    exact denF_ok stb Try.func7 (by kernel_rfl) (envOf_ok (semsOk_cons (ok_net_Check n) (semsOk_cons (ok_load_fates n) (semsOk_cons (ok_judge_Count n) semsOk_nil)))) (by rw [Try.ntmps7]; exact hl) h
  · cases h
theorem eq_load_Links (n : Nat) (x0 : V) : sem_load_Links n [x0] =
 (V.cellsO x0).bind fun v1 =>
 (ldk (some 4) (List.drop 0 v1)).bind fun v2 =>
 ((sem_net_Check n) [v2]).bind fun v3 =>
 (bin2 Try.prog BinOp.neq 41 (ot 7) (Operand.const Go.Value.nilIface) v3 vn).bind fun v4 =>
 condV v4 (
 some (V.tup [(V.sl []), v3])) (
 (ldk (some 3) (List.drop 0 v1)).bind fun v5 =>
 (ldk (some 4) (List.drop 0 v1)).bind fun v6 =>
 ((sem_load_fates n) [v6]).bind fun v7 =>
 ((sem_judge_Count n) [v5, v7]).bind fun v8 =>
 some (V.tup [v8, vn])) := by kernel_rfl
noncomputable def t_load_Links (a0 : T_Net) : Option ((List Int) × Int) :=
 (t_net_Check a0).bind fun r4 =>
 if (!decide (r4 = 0)) = true then (
 some ([], r4)) else (
 (t_load_fates a0).bind fun r10 =>
 (t_judge_Count a0.Topo r10).bind fun r12 =>
 some (r12, 0))
theorem ty_load_Links {n : Nat} (hn : bigN ≤ n) (a0 : T_Net) : Rv (fun x : ((List Int) × Int) => V.tup [(V.sl (List.map cI x.1)), (eV x.2)]) (sem_load_Links n [(T_Net.e a0)]) (t_load_Links a0) := by
  rw [eq_load_Links]
  unfold t_load_Links
  refine tb (x := (T_Net.c a0)) rfl ?_
  refine tb (x := (T_Net.e a0)) (rfl) ?_
  refine tbo (ty_net_Check hn a0) fun r4 => ?_
  refine tb (x := (vb (!decide (r4 = 0)))) (p_err_neq _) ?_
  refine tcond (fun h6 => ?_) (fun h6 => ?_)
  · exact rf_ret rfl
  · refine tb (x := (T_Topo.e a0.Topo)) (rfl) ?_
    refine tb (x := (T_Net.e a0)) (rfl) ?_
    refine tbo (ty_load_fates hn a0) fun r10 => ?_
    refine tbo (ty_judge_Count hn a0.Topo r10) fun r12 => ?_
    exact rf_ret rfl

/-! railpoint/railsame.Ints -/
def an_railsame_Ints : Ann := .seq (.reg 0 [] [] []) (.seq (.seq (.reg 0 [] [] []) (.cond none (.seq (.reg 0 [] [] []) (.no)) (.no))) (.seq (.seq (.reg 0 [] [] []) (.blk (some []) (.loop [.s 5] (.seq (.seq (.reg 0 [] [] []) (.cond none (.no) (.no))) (.seq (.blk none (.seq (.reg 9 [] [] []) (.cond none (.seq (.reg 0 [] [] []) (.no)) (.no)))) (.reg 0 [] [] [])))))) (.seq (.reg 0 [] [] []) (.no))))
noncomputable def sem_railsame_Ints (n : Nat) (xs : List V) : Option V := if xs.length ≤ 26 then denF Try.prog (envOf []) n Try.f8 an_railsame_Ints xs else none
theorem ok_railsame_Ints (n : Nat) : SemOk Try.prog DW 8 (sem_railsame_Ints n) := fun xs y h => by
  unfold sem_railsame_Ints at h
  split at h
  · rename_i hl
    exact denF_ok stb Try.func8 (by kernel_rfl) (envOf_ok semsOk_nil) (by rw [Try.ntmps8]; exact hl) h
  · cases h
theorem eq_railsame_Ints (n : Nat) (x0 x1 : V) : sem_railsame_Ints n [x0, x1] =
 (lenS [x0]).bind fun v1 =>
 (lenS [x1]).bind fun v2 =>
 (bin2 Try.prog BinOp.neq 3 (ot 7) (ot 9) v1 v2).bind fun v3 =>
 condV v3 (
 some (vb false)) (
 JoinPt (fun vs4 =>
 some (vb true)) fun J5 =>
 (fixN (fun rec6 vs7 =>
 (lenS [x0]).bind fun v8 =>
 (bin2 Try.prog BinOp.lss 3 (ot 11) (ot 13) (List.getD vs7 0 V.any) v8).bind fun v9 =>
 condV v9 (
 (idxS 1 x0 (List.getD vs7 0 V.any)).bind fun v10 =>
 (ldp none v10).bind fun v11 =>
 (idxS 1 x1 (List.getD vs7 0 V.any)).bind fun v12 =>
 (ldp none v12).bind fun v13 =>
 (bin2 Try.prog BinOp.neq 3 (ot 20) (ot 24) v11 v13).bind fun v14 =>
 condV v14 (
 some (vb false)) (
 (bin2 Try.prog BinOp.add 3 (ot 15) (oc 1) (List.getD vs7 0 V.any) (vi 1)).bind fun v15 =>
 rec6 [v15])) (
 J5 [])) n) [(vi 0)]) := by kernel_rfl
noncomputable def t_railsame_Ints (a0 : (List Int)) (a1 : (List Int)) : Option Bool :=
 if (decide ((List.length a0 : Int) ≠ (List.length a1 : Int))) = true then (
 some false) else (
 join (fun (s7 : Unit) =>
 some true) fun j8 =>
 loopI a0 (fun (i16 : Int) x17 (s12 : Unit) k13 =>
 (idx a1 i16).bind fun r26 =>
 if (decide (x17 ≠ r26)) = true then (
 some false) else (
 k13 ())) (fun (s12 : Unit) =>
 j8 ()) ())
theorem ty_railsame_Ints {n : Nat} (hn : bigN ≤ n) (a0 : (List Int)) (a1 : (List Int)) : Rv (fun x : Bool => (vb x)) (sem_railsame_Ints n [(V.sl (List.map cI a0)), (V.sl (List.map cI a1))]) (t_railsame_Ints a0 a1) := by
  rw [eq_railsame_Ints]
  unfold t_railsame_Ints
  refine tb (x := (vi (List.length a0 : Int))) (p_len _) ?_
  refine tb (x := (vi (List.length a1 : Int))) (p_len _) ?_
  refine tb (x := (vb (decide ((List.length a0 : Int) ≠ (List.length a1 : Int))))) (d_neq) ?_
  refine tcond (fun h4 => ?_) (fun h4 => ?_)
  · exact rf_ret rfl
  · refine tjoin (mk := fun s7 : Unit => []) (fun s7 => ?_) fun J6 j8 h9 => ?_
    · exact rf_ret rfl
    · refine rf_loopI (mk := fun (i16 : Int) (s12 : Unit) => [(vi (i16 : Int))]) hn a0 () (fun i16 x17 h18 h19 h20 s12 rec10 k13 h14 => ?_) (fun s12 rec32 h31 => ?_)
      · refine tb (x := (vi (List.length a0 : Int))) (p_len _) ?_
        refine tb (x := (vb (decide ((i16 : Int) < (List.length a0 : Int))))) (d_lss) ?_
        refine tcond_t h20 ?_
        refine tb (x := (V.ptr [(vi x17)])) (p_idx_at (c := cI) (fun _ => rfl) h18) ?_
        refine tb (x := (vi x17)) (rfl) ?_
        refine tbo (p_idx (c := cI) (fun _ => rfl) a1 (i16 : Int)) fun r26 => ?_
        refine tb (x := (vi r26)) (rfl) ?_
        refine tb (x := (vb (decide (x17 ≠ r26)))) (d_neq) ?_
        refine tcond (fun h29 => ?_) (fun h29 => ?_)
        · exact rf_ret rfl
        · refine tb (x := (vi ((i16 : Int) + 1))) (p_incN h19) ?_
          exact h14 ()
      · refine tb (x := (vi (List.length a0 : Int))) (p_len _) ?_
        refine tb (x := (vb (decide ((List.length a0 : Int) < (List.length a0 : Int))))) (d_lss) ?_
        refine tcond_f h31 ?_
        exact h9 ()

/-! railpoint/topo.Where$1 -/
def an_topo_Where_1 : Ann := .seq (.reg 0 [] [] []) (.seq (.reg 0 [] [] []) (.no))
noncomputable def sem_topo_Where_1 (n : Nat) (xs : List V) : Option V := if xs.length ≤ 8 then denF Try.prog (envOf []) n Try.f36 an_topo_Where_1 xs else none
theorem ok_topo_Where_1 (n : Nat) : SemOk Try.prog DW 36 (sem_topo_Where_1 n) := fun xs y h => by
  unfold sem_topo_Where_1 at h
  split at h
  · rename_i hl
    exact denF_ok stb Try.func36 (by kernel_rfl) (envOf_ok semsOk_nil) (by rw [Try.ntmps36]; exact hl) h
  · cases h
theorem eq_topo_Where_1 (n : Nat) (x0 x1 : V) : sem_topo_Where_1 n [x0, x1] =
 (V.cellsO x0).bind fun v1 =>
 (ldk none (List.drop 0 v1)).bind fun v2 =>
 (ldp none x1).bind fun v3 =>
 (bin2 Try.prog BinOp.eql 9 (ot 5) (ot 6) v2 v3).bind fun v4 =>
 some v4 := by kernel_rfl
noncomputable def t_topo_Where_1 (a0 : T_Host) (a1 : ByteArray) : Option Bool :=
 some (decide (a0.Name = a1))
theorem ty_topo_Where_1 {n : Nat} (hn : bigN ≤ n) (a0 : T_Host) (a1 : ByteArray) : Rv (fun x : Bool => (vb x)) (sem_topo_Where_1 n [(T_Host.e a0), (V.ptr [(vt a1)])]) (t_topo_Where_1 a0 a1) := by
  rw [eq_topo_Where_1]
  unfold t_topo_Where_1
  refine tb (x := (T_Host.c a0)) rfl ?_
  refine tb (x := (vt a0.Name)) (rfl) ?_
  refine tb (x := (vt a1)) (rfl) ?_
  refine tb (x := (vb (decide (a0.Name = a1)))) (p_eql_str) ?_
  exact rf_ret rfl

/-! railpoint/topo.Where -/
def an_topo_Where : Ann := .seq (.reg 0 [] [] []) (.seq (.seq (.reg 0 [3] [] []) (.seq (.reg 0 [] [] []) (.cond none (.seq (.reg 0 [] [] []) (.no)) (.no)))) (.seq (.reg 0 [] [] []) (.seq (.seq (.reg 0 [] [] []) (.cond none (.seq (.reg 0 [] [] []) (.no)) (.no))) (.seq (.reg 0 [] [] []) (.no)))))
noncomputable def sem_topo_Where (n : Nat) (xs : List V) : Option V := if xs.length ≤ 28 then denF Try.prog (envOf [(22, (sem_topo_Check n)), (13, (sem_slices_IndexFunc_api_Host_api_Host (envOf [(36, (sem_topo_Where_1 n))]) n)), (36, (sem_topo_Where_1 n))]) n Try.f19 an_topo_Where xs else none
theorem ok_topo_Where (n : Nat) : SemOk Try.prog DW 19 (sem_topo_Where n) := fun xs y h => by
  unfold sem_topo_Where at h
  split at h
  · rename_i hl
    exact denF_ok stb Try.func19 (by kernel_rfl) (envOf_ok (semsOk_cons (ok_topo_Check n) (semsOk_cons (ok_slices_IndexFunc_api_Host_api_Host (envOf_ok (semsOk_cons (ok_topo_Where_1 n) semsOk_nil)) n) (semsOk_cons (ok_topo_Where_1 n) semsOk_nil)))) (by rw [Try.ntmps19]; exact hl) h
  · cases h
theorem eq_topo_Where (n : Nat) (x0 x1 : V) : sem_topo_Where n [x0, x1] =
 (V.cellsO x0).bind fun v1 =>
 (V.cellsO x1).bind fun v2 =>
 (ldk (some 3) (List.drop 0 v1)).bind fun v3 =>
 ((sem_topo_Check n) [v3]).bind fun v4 =>
 (bin2 Try.prog BinOp.neq 41 (ot 10) (Operand.const Go.Value.nilIface) v4 vn).bind fun v5 =>
 condV v5 (
 ((fillL [(vi 0), (vi 0)] []).map V.agg).bind fun v6 =>
 (spliceV [(vi 0), (vi 0)] 0 2 v6).bind fun v7 =>
 (ldk (some 2) (List.drop 0 (aggL v7))).bind fun v8 =>
 some (V.tup [v8, v4])) (
 (ldk none (List.drop 2 v1)).bind fun v9 =>
 ((sem_slices_IndexFunc_api_Host_api_Host (envOf [(36, (sem_topo_Where_1 n))]) n) [v9, (V.fn 36 [(V.ptr v2)])]).bind fun v10 =>
 (bin2 Try.prog BinOp.lss 3 (ot 18) (oc 0) v10 (vi 0)).bind fun v11 =>
 condV v11 (
 ((fillL [(vi 0), (vi 0)] []).map V.agg).bind fun v12 =>
 (scal1 Try.prog (Instr.makeInterface 66) (vi 5)).bind fun v13 =>
 (spliceV [(vi 0), (vi 0)] 0 2 v12).bind fun v14 =>
 (ldk (some 2) (List.drop 0 (aggL v14))).bind fun v15 =>
 some (V.tup [v15, v13])) (
 (ldk none (List.drop 2 v1)).bind fun v16 =>
 (idxS 3 v16 v10).bind fun v17 =>
 (ptrF 1 v17).bind fun v18 =>
 (ldp (some 2) v18).bind fun v19 =>
 (spliceV [(vi 0), (vi 0)] 0 2 v19).bind fun v20 =>
 (ldk (some 2) (List.drop 0 (aggL v20))).bind fun v21 =>
 some (V.tup [v21, vn]))) := by kernel_rfl
noncomputable def t_topo_Where (a0 : T_Topo) (a1 : ByteArray) : Option (T_Spot × Int) :=
 (t_topo_Check a0).bind fun r5 =>
 if (!decide (r5 = 0)) = true then (
 some ((T_Spot.mk 0 0), r5)) else (
 (t_slices_IndexFunc_api_Host_api_Host a0.Hosts (fun (a12 : T_Host) => t_topo_Where_1 a12 a1)).bind fun r14 =>
 if (decide (r14 < 0)) = true then (
 some ((T_Spot.mk 0 0), 5)) else (
 (idx a0.Hosts r14).bind fun r23 =>
 some (r23.At, 0)))
theorem ty_topo_Where {n : Nat} (hn : bigN ≤ n) (a0 : T_Topo) (a1 : ByteArray) : Rv (fun x : (T_Spot × Int) => V.tup [(T_Spot.e x.1), (eV x.2)]) (sem_topo_Where n [(T_Topo.e a0), (vt a1)]) (t_topo_Where a0 a1) := by
  rw [eq_topo_Where]
  unfold t_topo_Where
  refine tb (x := (T_Topo.c a0)) rfl ?_
  refine tb (x := [(vt a1)]) rfl ?_
  refine tb (x := (T_Topo.e a0)) (rfl) ?_
  refine tbo (ty_topo_Check hn a0) fun r5 => ?_
  refine tb (x := (vb (!decide (r5 = 0)))) (p_err_neq _) ?_
  refine tcond (fun h7 => ?_) (fun h7 => ?_)
  · refine tb (x := (T_Spot.e (T_Spot.mk 0 0))) (by kernel_rfl) ?_
    refine tb (x := V.agg (T_Spot.c (T_Spot.mk 0 0))) (by kernel_rfl) ?_
    refine tb (x := (T_Spot.e (T_Spot.mk 0 0))) rfl ?_
    exact rf_ret rfl
  · refine tb (x := (V.sl (List.map T_Host.c a0.Hosts))) (rfl) ?_
    refine tbo (ty_slices_IndexFunc_api_Host_api_Host (E := (envOf [(36, (sem_topo_Where_1 n))])) (x1 := (V.fn 36 [(V.ptr [(vt a1)])])) (g1 := (fun (a12 : T_Host) => t_topo_Where_1 a12 a1)) hn a0.Hosts (fun a12 => ty_topo_Where_1 hn a12 a1)) fun r14 => ?_
    refine tb (x := (vb (decide (r14 < 0)))) (d_lss) ?_
    refine tcond (fun h16 => ?_) (fun h16 => ?_)
    · refine tb (x := (T_Spot.e (T_Spot.mk 0 0))) (by kernel_rfl) ?_
      refine tb (x := (eV 5)) (p_mkE (by decide)) ?_
      refine tb (x := V.agg (T_Spot.c (T_Spot.mk 0 0))) (by kernel_rfl) ?_
      refine tb (x := (T_Spot.e (T_Spot.mk 0 0))) rfl ?_
      exact rf_ret rfl
    · refine tb (x := (V.sl (List.map T_Host.c a0.Hosts))) (rfl) ?_
      refine tbo (p_idx (c := T_Host.c) (fun _ => rfl) a0.Hosts r14) fun r23 => ?_
      refine tb (x := (V.ptr (List.drop 1 (T_Host.c r23)))) (rfl) ?_
      refine tb (x := (T_Spot.e r23.At)) (rfl) ?_
      refine tb (x := V.agg (T_Spot.c r23.At)) (by kernel_rfl) ?_
      refine tb (x := (T_Spot.e r23.At)) rfl ?_
      exact rf_ret rfl

/-! railpoint/net.Send -/
def an_net_Send : Ann := .seq (.reg 0 [] [] []) (.seq (.seq (.reg 0 [] [] []) (.seq (.reg 0 [] [] []) (.cond none (.seq (.reg 0 [] [] []) (.no)) (.no)))) (.seq (.reg 0 [] [] []) (.seq (.blk none (.seq (.reg 0 [] [] []) (.cond none (.seq (.reg 0 [] [] []) (.no)) (.seq (.reg 0 [] [] []) (.cond none (.seq (.reg 0 [] [] []) (.no)) (.no)))))) (.seq (.reg 0 [] [] []) (.no)))))
noncomputable def sem_net_Send (n : Nat) (xs : List V) : Option V := if xs.length ≤ 39 then denF Try.prog (envOf [(11, (sem_net_Check n)), (19, (sem_topo_Where n)), (20, (sem_cube_Header n)), (21, (sem_net_Of n))]) n Try.f9 an_net_Send xs else none
theorem ok_net_Send (n : Nat) : SemOk Try.prog DW 9 (sem_net_Send n) := fun xs y h => by
  unfold sem_net_Send at h
  split at h
  · rename_i hl
    exact denF_ok stb Try.func9 (by kernel_rfl) (envOf_ok (semsOk_cons (ok_net_Check n) (semsOk_cons (ok_topo_Where n) (semsOk_cons (ok_cube_Header n) (semsOk_cons (ok_net_Of n) semsOk_nil))))) (by rw [Try.ntmps9]; exact hl) h
  · cases h
theorem eq_net_Send (n : Nat) (x0 x1 x2 : V) : sem_net_Send n [x0, x1, x2] =
 (V.cellsO x0).bind fun v1 =>
 (ldk (some 4) (List.drop 0 v1)).bind fun v2 =>
 ((sem_net_Check n) [v2]).bind fun v3 =>
 (bin2 Try.prog BinOp.neq 41 (ot 13) (Operand.const Go.Value.nilIface) v3 vn).bind fun v4 =>
 condV v4 (
 ((fillL [(vi 0), (V.lit (Go.Value.string (ByteArray.mk #[]))), (V.sl [])] []).map V.agg).bind fun v5 =>
 (spliceV [(vi 0), (V.lit (Go.Value.string (ByteArray.mk #[]))), (V.sl [])] 0 3 v5).bind fun v6 =>
 (ldk (some 3) (List.drop 0 (aggL v6))).bind fun v7 =>
 some (V.tup [v7, v3])) (
 (ldk (some 3) (List.drop 0 v1)).bind fun v8 =>
 ((sem_topo_Where n) [v8, x1]).bind fun v9 =>
 (extractV v9 0).bind fun v10 =>
 (extractV v9 1).bind fun v11 =>
 (spliceV [(vi 0), (vi 0)] 0 2 v10).bind fun v12 =>
 (bin2 Try.prog BinOp.neq 41 (ot 25) (Operand.const Go.Value.nilIface) v11 vn).bind fun v13 =>
 condV v13 (
 ((fillL [(vi 0), (V.lit (Go.Value.string (ByteArray.mk #[]))), (V.sl [])] []).map V.agg).bind fun v14 =>
 (spliceV [(vi 0), (V.lit (Go.Value.string (ByteArray.mk #[]))), (V.sl [])] 0 3 v14).bind fun v15 =>
 (ldk (some 3) (List.drop 0 (aggL v15))).bind fun v16 =>
 some (V.tup [v16, v11])) (
 ((sem_cube_Header n) [x2]).bind fun v17 =>
 (scal1 Try.prog (Op.unary Go.UnOp.not) v17).bind fun v18 =>
 condV v18 (
 ((fillL [(vi 0), (V.lit (Go.Value.string (ByteArray.mk #[]))), (V.sl [])] []).map V.agg).bind fun v19 =>
 (scal1 Try.prog (Instr.makeInterface 66) (vi 1)).bind fun v20 =>
 (spliceV [(vi 0), (V.lit (Go.Value.string (ByteArray.mk #[]))), (V.sl [])] 0 3 v19).bind fun v21 =>
 (ldk (some 3) (List.drop 0 (aggL v21))).bind fun v22 =>
 some (V.tup [v22, v20])) (
 (ldk (some 4) (List.drop 0 v1)).bind fun v23 =>
 (ldk (some 2) (List.drop 0 (aggL v12))).bind fun v24 =>
 ((sem_net_Of n) [v23, v24, x2]).bind fun v25 =>
 (spliceV [(vi 0), (V.lit (Go.Value.string (ByteArray.mk #[]))), (V.sl [])] 0 3 v25).bind fun v26 =>
 (ldk (some 3) (List.drop 0 (aggL v26))).bind fun v27 =>
 some (V.tup [v27, vn])))) := by kernel_rfl
noncomputable def t_net_Send (a0 : T_Net) (a1 : ByteArray) (a2 : Int) : Option (T_Fate × Int) :=
 (t_net_Check a0).bind fun r4 =>
 if (!decide (r4 = 0)) = true then (
 some ((T_Fate.mk 0 (ByteArray.mk #[]) []), r4)) else (
 (t_topo_Where a0.Topo a1).bind fun r12 =>
 if (!decide (r12.2 = 0)) = true then (
 some ((T_Fate.mk 0 (ByteArray.mk #[]) []), r12.2)) else (
 (t_cube_Header a2).bind fun r22 =>
 if (!r22) = true then (
 some ((T_Fate.mk 0 (ByteArray.mk #[]) []), 1)) else (
 (t_net_Of a0 r12.1 a2).bind fun r32 =>
 some (r32, 0))))
theorem ty_net_Send {n : Nat} (hn : bigN ≤ n) (a0 : T_Net) (a1 : ByteArray) (a2 : Int) : Rv (fun x : (T_Fate × Int) => V.tup [(T_Fate.e x.1), (eV x.2)]) (sem_net_Send n [(T_Net.e a0), (vt a1), (vi a2)]) (t_net_Send a0 a1 a2) := by
  rw [eq_net_Send]
  unfold t_net_Send
  refine tb (x := (T_Net.c a0)) rfl ?_
  refine tb (x := (T_Net.e a0)) (rfl) ?_
  refine tbo (ty_net_Check hn a0) fun r4 => ?_
  refine tb (x := (vb (!decide (r4 = 0)))) (p_err_neq _) ?_
  refine tcond (fun h6 => ?_) (fun h6 => ?_)
  · refine tb (x := (T_Fate.e (T_Fate.mk 0 (ByteArray.mk #[]) []))) (by kernel_rfl) ?_
    refine tb (x := V.agg (T_Fate.c (T_Fate.mk 0 (ByteArray.mk #[]) []))) (by kernel_rfl) ?_
    refine tb (x := (T_Fate.e (T_Fate.mk 0 (ByteArray.mk #[]) []))) rfl ?_
    exact rf_ret rfl
  · refine tb (x := (T_Topo.e a0.Topo)) (rfl) ?_
    refine tbo (ty_topo_Where hn a0.Topo a1) fun r12 => ?_
    refine tb (x := (T_Spot.e r12.1)) (rfl) ?_
    refine tb (x := (eV r12.2)) (rfl) ?_
    refine tb (x := V.agg (T_Spot.c r12.1)) (by kernel_rfl) ?_
    refine tb (x := (vb (!decide (r12.2 = 0)))) (p_err_neq _) ?_
    refine tcond (fun h17 => ?_) (fun h17 => ?_)
    · refine tb (x := (T_Fate.e (T_Fate.mk 0 (ByteArray.mk #[]) []))) (by kernel_rfl) ?_
      refine tb (x := V.agg (T_Fate.c (T_Fate.mk 0 (ByteArray.mk #[]) []))) (by kernel_rfl) ?_
      refine tb (x := (T_Fate.e (T_Fate.mk 0 (ByteArray.mk #[]) []))) rfl ?_
      exact rf_ret rfl
    · refine tbo (ty_cube_Header hn a2) fun r22 => ?_
      refine tb (x := (vb (!r22))) (d_not) ?_
      refine tcond (fun h24 => ?_) (fun h24 => ?_)
      · refine tb (x := (T_Fate.e (T_Fate.mk 0 (ByteArray.mk #[]) []))) (by kernel_rfl) ?_
        refine tb (x := (eV 1)) (p_mkE (by decide)) ?_
        refine tb (x := V.agg (T_Fate.c (T_Fate.mk 0 (ByteArray.mk #[]) []))) (by kernel_rfl) ?_
        refine tb (x := (T_Fate.e (T_Fate.mk 0 (ByteArray.mk #[]) []))) rfl ?_
        exact rf_ret rfl
      · refine tb (x := (T_Net.e a0)) (rfl) ?_
        refine tb (x := (T_Spot.e r12.1)) (rfl) ?_
        refine tbo (ty_net_Of hn a0 r12.1 a2) fun r32 => ?_
        refine tb (x := V.agg (T_Fate.c r32)) (by kernel_rfl) ?_
        refine tb (x := (T_Fate.e r32)) rfl ?_
        exact rf_ret rfl

/-! railpoint/railsame.Fate -/
def an_railsame_Fate : Ann := .seq (.reg 0 [] [] []) (.seq (.seq (.reg 0 [] [] []) (.cond none (.seq (.reg 0 [] [] []) (.no)) (.no))) (.seq (.seq (.reg 0 [] [] []) (.blk (some []) (.loop [.kb 2, .kb 3, .s 5] (.seq (.seq (.reg 0 [] [] []) (.cond none (.no) (.no))) (.seq (.blk none (.seq (.reg 11 [] [] []) (.cond none (.seq (.reg 0 [] [] []) (.no)) (.no)))) (.reg 0 [] [] [])))))) (.seq (.reg 0 [] [] []) (.no))))
noncomputable def sem_railsame_Fate (n : Nat) (xs : List V) : Option V := if xs.length ≤ 45 then denF Try.prog (envOf []) n Try.f10 an_railsame_Fate xs else none
theorem ok_railsame_Fate (n : Nat) : SemOk Try.prog DW 10 (sem_railsame_Fate n) := fun xs y h => by
  unfold sem_railsame_Fate at h
  split at h
  · rename_i hl
    exact denF_ok stb Try.func10 (by kernel_rfl) (envOf_ok semsOk_nil) (by rw [Try.ntmps10]; exact hl) h
  · cases h
theorem eq_railsame_Fate (n : Nat) (x0 x1 : V) : sem_railsame_Fate n [x0, x1] =
 (V.cellsO x0).bind fun v1 =>
 (V.cellsO x1).bind fun v2 =>
 (ldk none (List.drop 0 v1)).bind fun v3 =>
 (ldk none (List.drop 0 v2)).bind fun v4 =>
 (bin2 Try.prog BinOp.neq 3 (ot 7) (ot 9) v3 v4).bind fun v5 =>
 (guardV v5 false (some V.any)).bind fun v6 =>
 (guardV v5 false ((gate v5 false (ldk none (List.drop 1 v1))).bind fun v7 =>
 some v7)).bind fun v8 =>
 (guardV v5 false (some V.any)).bind fun v9 =>
 (guardV v5 false ((gate v5 false (ldk none (List.drop 1 v2))).bind fun v10 =>
 some v10)).bind fun v11 =>
 (guardV v5 false ((bin2 Try.prog BinOp.neq 9 (ot 13) (ot 15) v8 v11).bind fun v12 =>
 some v12)).bind fun v13 =>
 (pickV v5 (vb true) v13).bind fun v14 =>
 (guardV v14 false (some V.any)).bind fun v15 =>
 (guardV v14 false ((gate v14 false (ldk none (List.drop 2 v1))).bind fun v16 =>
 some v16)).bind fun v17 =>
 (guardV v14 false ((lenS [v17]).bind fun v18 =>
 some v18)).bind fun v19 =>
 (guardV v14 false (some V.any)).bind fun v20 =>
 (guardV v14 false ((gate v14 false (ldk none (List.drop 2 v2))).bind fun v21 =>
 some v21)).bind fun v22 =>
 (guardV v14 false ((lenS [v22]).bind fun v23 =>
 some v23)).bind fun v24 =>
 (guardV v14 false ((bin2 Try.prog BinOp.neq 3 (ot 21) (ot 24) v19 v24).bind fun v25 =>
 some v25)).bind fun v26 =>
 (pickV v14 (vb true) v26).bind fun v27 =>
 condV v27 (
 some (vb false)) (
 JoinPt (fun vs28 =>
 some (vb true)) fun J29 =>
 (keepO (some v1) (some v1) (keepO (some v2) (some v2) (some [(vi 0)]))).bind (fixN (fun rec30 vs31 =>
 (ldk none (List.drop 2 v1)).bind fun v32 =>
 (lenS [v32]).bind fun v33 =>
 (bin2 Try.prog BinOp.lss 3 (ot 27) (ot 30) (List.getD vs31 0 V.any) v33).bind fun v34 =>
 condV v34 (
 (ldk none (List.drop 2 v1)).bind fun v35 =>
 (idxS 3 v35 (List.getD vs31 0 V.any)).bind fun v36 =>
 (ldp (some 3) v36).bind fun v37 =>
 (ldk none (List.drop 2 v2)).bind fun v38 =>
 (idxS 3 v38 (List.getD vs31 0 V.any)).bind fun v39 =>
 (ldp (some 3) v39).bind fun v40 =>
 (bin2 Try.prog BinOp.neq 76 (ot 38) (ot 43) v37 v40).bind fun v41 =>
 condV v41 (
 some (vb false)) (
 (bin2 Try.prog BinOp.add 3 (ot 32) (oc 1) (List.getD vs31 0 V.any) (vi 1)).bind fun v42 =>
 (keepO (some v1) (some v1) (keepO (some v2) (some v2) (some [v42]))).bind rec30)) (
 J29 [])) n)) := by kernel_rfl
noncomputable def t_railsame_Fate (a0 : T_Fate) (a1 : T_Fate) : Option Bool :=
 if (((decide (a0.How ≠ a1.How)) || (!decide (a0.Host = a1.Host))) || (decide ((List.length a0.Hops : Int) ≠ (List.length a1.Hops : Int)))) = true then (
 some false) else (
 join (fun (s43 : Unit) =>
 some true) fun j44 =>
 loopI a0.Hops (fun (i52 : Int) x53 (s48 : Unit) k49 =>
 (idx a1.Hops i52).bind fun r65 =>
 if (!decide (x53 = r65)) = true then (
 some false) else (
 k49 ())) (fun (s48 : Unit) =>
 j44 ()) ())
theorem ty_railsame_Fate {n : Nat} (hn : bigN ≤ n) (a0 : T_Fate) (a1 : T_Fate) : Rv (fun x : Bool => (vb x)) (sem_railsame_Fate n [(T_Fate.e a0), (T_Fate.e a1)]) (t_railsame_Fate a0 a1) := by
  rw [eq_railsame_Fate]
  unfold t_railsame_Fate
  refine tb (x := (T_Fate.c a0)) rfl ?_
  refine tb (x := (T_Fate.c a1)) rfl ?_
  refine tb (x := (vi a0.How)) (rfl) ?_
  refine tb (x := (vi a1.How)) (rfl) ?_
  refine tb (x := (vb (decide (a0.How ≠ a1.How)))) (d_neq) ?_
  refine tg_f (x := V.any) (fun h6 => rfl) ?_
  refine tg_f (x := (vt a0.Host)) (fun h8 => bind_some_eq (gate_pos (not_t h8) (rfl))) ?_
  refine tg_f (x := V.any) (fun h11 => rfl) ?_
  refine tg_f (x := (vt a1.Host)) (fun h13 => bind_some_eq (gate_pos (not_t h13) (rfl))) ?_
  refine tg_f (x := (vb (!decide (a0.Host = a1.Host)))) (fun h16 => by simp only [gv_t h16]; exact bind_some_eq (p_neq_str)) ?_
  refine tb (x := (vb ((decide (a0.How ≠ a1.How)) || (!decide (a0.Host = a1.Host))))) (pick_or (fun h9 => gv_t (not_f h9))) ?_
  refine tg_f (x := V.any) (fun h20 => rfl) ?_
  refine tg_f (x := (V.sl (List.map T_Hop.c a0.Hops))) (fun h22 => bind_some_eq (gate_pos (not_t h22) (rfl))) ?_
  refine tg_f (x := (vi (List.length a0.Hops : Int))) (fun h25 => by simp only [gv_t h25]; exact bind_some_eq (p_len _)) ?_
  refine tg_f (x := V.any) (fun h28 => rfl) ?_
  refine tg_f (x := (V.sl (List.map T_Hop.c a1.Hops))) (fun h30 => bind_some_eq (gate_pos (not_t h30) (rfl))) ?_
  refine tg_f (x := (vi (List.length a1.Hops : Int))) (fun h33 => by simp only [gv_t h33]; exact bind_some_eq (p_len _)) ?_
  refine tg_f (x := (vb (decide ((List.length a0.Hops : Int) ≠ (List.length a1.Hops : Int))))) (fun h36 => by simp only [gv_t h36]; exact bind_some_eq (d_neq)) ?_
  refine tb (x := (vb (((decide (a0.How ≠ a1.How)) || (!decide (a0.Host = a1.Host))) || (decide ((List.length a0.Hops : Int) ≠ (List.length a1.Hops : Int)))))) (pick_or (fun h9 => gv_t (not_f h9))) ?_
  refine tcond (fun h40 => ?_) (fun h40 => ?_)
  · exact rf_ret rfl
  · refine tjoin (mk := fun s43 : Unit => []) (fun s43 => ?_) fun J42 j44 h45 => ?_
    · exact rf_ret rfl
    · refine tkeepO2 ?_ rfl
      refine tkeepO2 ?_ rfl
      refine tsome ?_
      refine rf_loopI (mk := fun (i52 : Int) (s48 : Unit) => [(vi (i52 : Int))]) hn a0.Hops () (fun i52 x53 h54 h55 h56 s48 rec46 k49 h50 => ?_) (fun s48 rec71 h70 => ?_)
      · refine tb (x := (V.sl (List.map T_Hop.c a0.Hops))) (rfl) ?_
        refine tb (x := (vi (List.length a0.Hops : Int))) (p_len _) ?_
        refine tb (x := (vb (decide ((i52 : Int) < (List.length a0.Hops : Int))))) (d_lss) ?_
        refine tcond_t h56 ?_
        refine tb (x := (V.sl (List.map T_Hop.c a0.Hops))) (rfl) ?_
        refine tb (x := (V.ptr (T_Hop.c x53))) (p_idx_at (c := T_Hop.c) (fun _ => rfl) h54) ?_
        refine tb (x := (T_Hop.e x53)) (rfl) ?_
        refine tb (x := (V.sl (List.map T_Hop.c a1.Hops))) (rfl) ?_
        refine tbo (p_idx (c := T_Hop.c) (fun _ => rfl) a1.Hops (i52 : Int)) fun r65 => ?_
        refine tb (x := (T_Hop.e r65)) (rfl) ?_
        refine tb (x := (vb (!decide (x53 = r65)))) (T_Hop.neq x53 r65) ?_
        refine tcond (fun h68 => ?_) (fun h68 => ?_)
        · exact rf_ret rfl
        · refine tb (x := (vi ((i52 : Int) + 1))) (p_incN h55) ?_
          refine tkeepO2 ?_ rfl
          refine tkeepO2 ?_ rfl
          refine tsome ?_
          exact h50 ()
      · refine tb (x := (V.sl (List.map T_Hop.c a0.Hops))) (rfl) ?_
        refine tb (x := (vi (List.length a0.Hops : Int))) (p_len _) ?_
        refine tb (x := (vb (decide ((List.length a0.Hops : Int) < (List.length a0.Hops : Int))))) (d_lss) ?_
        refine tcond_f h70 ?_
        exact h45 ()

/-! railpoint/raillaw3.LoadLess -/
def an_raillaw3_LoadLess : Ann := .seq (.reg 0 [] [] []) (.seq (.reg 0 [] [] []) (.seq (.reg 0 [] [] []) (.seq (.seq (.reg 0 [] [] []) (.cond none (.seq (.reg 0 [] [] []) (.no)) (.no))) (.seq (.reg 0 [] [] []) (.seq (.seq (.reg 0 [] [] []) (.cond none (.seq (.reg 0 [] [] []) (.no)) (.no))) (.seq (.reg 0 [] [] []) (.seq (.seq (.reg 0 [] [] []) (.cond none (.seq (.reg 0 [] [] []) (.no)) (.no))) (.seq (.reg 0 [] [] []) (.seq (.reg 0 [] [] []) (.seq (.reg 0 [] [] []) (.seq (.reg 0 [] [] []) (.seq (.reg 0 [] [] []) (.seq (.reg 0 [] [] []) (.seq (.reg 0 [] [] []) (.seq (.reg 0 [] [] []) (.seq (.reg 0 [] [] []) (.seq (.reg 0 [] [] []) (.seq (.reg 40 [] [] []) (.no)))))))))))))))))))
noncomputable def sem_raillaw3_LoadLess (n : Nat) (xs : List V) : Option V := if xs.length ≤ 159 then denF Try.prog (envOf [(4, (sem_load_Pairs n)), (5, (sem_load_Unused n)), (6, (sem_change_Apply n)), (7, (sem_load_Links n)), (8, (sem_railsame_Ints n)), (9, (sem_net_Send n)), (10, (sem_railsame_Fate n))]) n Try.f3 an_raillaw3_LoadLess xs else none
theorem ok_raillaw3_LoadLess (n : Nat) : SemOk Try.prog DW 3 (sem_raillaw3_LoadLess n) := fun xs y h => by
  unfold sem_raillaw3_LoadLess at h
  split at h
  · rename_i hl
    exact denF_ok stb Try.func3 (by kernel_rfl) (envOf_ok (semsOk_cons (ok_load_Pairs n) (semsOk_cons (ok_load_Unused n) (semsOk_cons (ok_change_Apply n) (semsOk_cons (ok_load_Links n) (semsOk_cons (ok_railsame_Ints n) (semsOk_cons (ok_net_Send n) (semsOk_cons (ok_railsame_Fate n) semsOk_nil)))))))) (by rw [Try.ntmps3]; exact hl) h
  · cases h
theorem eq_raillaw3_LoadLess (n : Nat) (x0 x1 x2 : V) : sem_raillaw3_LoadLess n [x0, x1, x2] =
 (V.cellsO x0).bind fun v1 =>
 ((fillL [(vi 0), (vi 0)] [(0, 1, (vi 1)), (1, 1, (vi 2))]).map V.agg).bind fun v2 =>
 ((fillL [(V.lit (Go.Value.string (ByteArray.mk #[]))), (vi 0), (vi 0)] [(0, 1, (V.lit (Go.Value.string (ByteArray.mk #[97])))), (1, 2, v2)]).map V.agg).bind fun v3 =>
 (slcB 3 1 [(V.lit (Go.Value.string (ByteArray.mk #[]))), (vi 0), (vi 0)] [(0, v3)]).bind fun v4 =>
 ((fillL [(vi 0), (V.sl []), (V.sl [])] [(0, 1, (vi 1)), (2, 1, v4)]).map V.agg).bind fun v5 =>
 ((fillL [(vi 0), (vi 0), (vi 0), (vi 0), (vi 0), (vi 0)] [(0, 1, (vi 1)), (3, 1, (vi 2))]).map V.agg).bind fun v6 =>
 (slcB 6 1 [(vi 0), (vi 0), (vi 0), (vi 0), (vi 0), (vi 0)] [(0, v6)]).bind fun v7 =>
 (slcB 1 1 [(V.sl [])] [(0, v7)]).bind fun v8 =>
 ((fillL [(vi 0), (V.sl []), (V.sl []), (V.sl [])] [(0, 3, v5), (3, 1, v8)]).map V.agg).bind fun v9 =>
 (spliceV [(vi 0), (V.sl []), (V.sl []), (V.sl [])] 0 4 v9).bind fun v10 =>
 (ldk (some 4) (List.drop 0 (aggL v10))).bind fun v11 =>
 ((sem_load_Pairs n) [v11]).bind fun v12 =>
 (extractV v12 0).bind fun v13 =>
 (extractV v12 1).bind fun v14 =>
 (bin2 Try.prog BinOp.neq 41 (ot 44) (Operand.const Go.Value.nilIface) v14 vn).bind fun v15 =>
 (guardV v15 false (some v13)).bind fun v16 =>
 (guardV v15 false ((lenS [v16]).bind fun v17 =>
 some v17)).bind fun v18 =>
 (guardV v15 false ((bin2 Try.prog BinOp.neq 3 (ot 48) (oc 1) v18 (vi 1)).bind fun v19 =>
 some v19)).bind fun v20 =>
 (pickV v15 (vb true) v20).bind fun v21 =>
 (guardV v21 false (some v13)).bind fun v22 =>
 (guardV v21 false ((idxS 1 v22 (vi 0)).bind fun v23 =>
 some v23)).bind fun v24 =>
 (guardV v21 false ((ldp none v24).bind fun v25 =>
 some v25)).bind fun v26 =>
 (guardV v21 false ((bin2 Try.prog BinOp.neq 3 (ot 54) (oc 16) v26 (vi 16)).bind fun v27 =>
 some v27)).bind fun v28 =>
 (pickV v21 (vb true) v28).bind fun v29 =>
 condV v29 (
 some (vb false)) (
 (ldk (some 4) (List.drop 0 v1)).bind fun v30 =>
 ((sem_load_Unused n) [v30]).bind fun v31 =>
 (extractV v31 0).bind fun v32 =>
 (extractV v31 1).bind fun v33 =>
 (bin2 Try.prog BinOp.neq 41 (ot 62) (Operand.const Go.Value.nilIface) v33 vn).bind fun v34 =>
 condV v34 (
 some (vb true)) (
 (ldk (some 4) (List.drop 0 v1)).bind fun v35 =>
 ((sem_change_Apply n) [v35, v32]).bind fun v36 =>
 (extractV v36 0).bind fun v37 =>
 (extractV v36 1).bind fun v38 =>
 (spliceV [(vi 0), (V.sl []), (V.sl []), (V.sl [])] 0 4 v37).bind fun v39 =>
 (bin2 Try.prog BinOp.neq 41 (ot 70) (Operand.const Go.Value.nilIface) v38 vn).bind fun v40 =>
 condV v40 (
 some (vb false)) (
 (ldk (some 4) (List.drop 0 v1)).bind fun v41 =>
 ((sem_load_Links n) [v41]).bind fun v42 =>
 (extractV v42 0).bind fun v43 =>
 (extractV v42 1).bind fun v44 =>
 (ldk (some 4) (List.drop 0 (aggL v39))).bind fun v45 =>
 ((sem_load_Links n) [v45]).bind fun v46 =>
 (extractV v46 0).bind fun v47 =>
 (extractV v46 1).bind fun v48 =>
 (ldk (some 4) (List.drop 0 v1)).bind fun v49 =>
 ((sem_load_Pairs n) [v49]).bind fun v50 =>
 (extractV v50 0).bind fun v51 =>
 (extractV v50 1).bind fun v52 =>
 (ldk (some 4) (List.drop 0 (aggL v39))).bind fun v53 =>
 ((sem_load_Pairs n) [v53]).bind fun v54 =>
 (extractV v54 0).bind fun v55 =>
 (extractV v54 1).bind fun v56 =>
 ((sem_railsame_Ints n) [v43, v47]).bind fun v57 =>
 ((sem_railsame_Ints n) [v51, v55]).bind fun v58 =>
 (ldk (some 4) (List.drop 0 v1)).bind fun v59 =>
 ((sem_net_Send n) [v59, x1, x2]).bind fun v60 =>
 (extractV v60 0).bind fun v61 =>
 (extractV v60 1).bind fun v62 =>
 (spliceV [(vi 0), (V.lit (Go.Value.string (ByteArray.mk #[]))), (V.sl [])] 0 3 v61).bind fun v63 =>
 (ldk (some 4) (List.drop 0 (aggL v39))).bind fun v64 =>
 ((sem_net_Send n) [v64, x1, x2]).bind fun v65 =>
 (extractV v65 0).bind fun v66 =>
 (extractV v65 1).bind fun v67 =>
 (spliceV [(vi 0), (V.lit (Go.Value.string (ByteArray.mk #[]))), (V.sl [])] 0 3 v66).bind fun v68 =>
 (ldk (some 3) (List.drop 0 (aggL v63))).bind fun v69 =>
 (ldk (some 3) (List.drop 0 (aggL v68))).bind fun v70 =>
 ((sem_railsame_Fate n) [v69, v70]).bind fun v71 =>
 (ldk (some 4) (List.drop 0 (aggL v39))).bind fun v72 =>
 ((sem_load_Unused n) [v72]).bind fun v73 =>
 (extractV v73 0).bind fun v74 =>
 (extractV v73 1).bind fun v75 =>
 (bin2 Try.prog BinOp.eql 41 (ot 120) (Operand.const Go.Value.nilIface) v44 vn).bind fun v76 =>
 (guardV v76 true (some v48)).bind fun v77 =>
 (guardV v76 true ((bin2 Try.prog BinOp.eql 41 (ot 123) (Operand.const Go.Value.nilIface) v77 vn).bind fun v78 =>
 some v78)).bind fun v79 =>
 (pickV v76 v79 (vb false)).bind fun v80 =>
 (guardV v80 true (some v52)).bind fun v81 =>
 (guardV v80 true ((bin2 Try.prog BinOp.eql 41 (ot 127) (Operand.const Go.Value.nilIface) v81 vn).bind fun v82 =>
 some v82)).bind fun v83 =>
 (pickV v80 v83 (vb false)).bind fun v84 =>
 (guardV v84 true (some v56)).bind fun v85 =>
 (guardV v84 true ((bin2 Try.prog BinOp.eql 41 (ot 131) (Operand.const Go.Value.nilIface) v85 vn).bind fun v86 =>
 some v86)).bind fun v87 =>
 (pickV v84 v87 (vb false)).bind fun v88 =>
 (guardV v88 true (some v75)).bind fun v89 =>
 (guardV v88 true ((bin2 Try.prog BinOp.eql 41 (ot 135) (Operand.const Go.Value.nilIface) v89 vn).bind fun v90 =>
 some v90)).bind fun v91 =>
 (pickV v88 v91 (vb false)).bind fun v92 =>
 (guardV v92 true (some v57)).bind fun v93 =>
 (pickV v92 v93 (vb false)).bind fun v94 =>
 (guardV v94 true (some v58)).bind fun v95 =>
 (pickV v94 v95 (vb false)).bind fun v96 =>
 (guardV v96 true (some v71)).bind fun v97 =>
 (pickV v96 v97 (vb false)).bind fun v98 =>
 (guardV v98 true (some v62)).bind fun v99 =>
 (guardV v98 true ((bin2 Try.prog BinOp.eql 41 (ot 148) (Operand.const Go.Value.nilIface) v99 vn).bind fun v100 =>
 some v100)).bind fun v101 =>
 (guardV v98 true (some v67)).bind fun v102 =>
 (guardV v98 true ((bin2 Try.prog BinOp.eql 41 (ot 150) (Operand.const Go.Value.nilIface) v102 vn).bind fun v103 =>
 some v103)).bind fun v104 =>
 (guardV v98 true ((bin2 Try.prog BinOp.eql 4 (ot 149) (ot 151) v101 v104).bind fun v105 =>
 some v105)).bind fun v106 =>
 (pickV v98 v106 (vb false)).bind fun v107 =>
 (guardV v107 true (some v74)).bind fun v108 =>
 (guardV v107 true ((lenS [v108]).bind fun v109 =>
 some v109)).bind fun v110 =>
 (guardV v107 true ((bin2 Try.prog BinOp.eql 3 (ot 156) (oc 0) v110 (vi 0)).bind fun v111 =>
 some v111)).bind fun v112 =>
 (pickV v107 v112 (vb false)).bind fun v113 =>
 some v113))) := by kernel_rfl
noncomputable def t_raillaw3_LoadLess (a0 : T_Net) (a1 : ByteArray) (a2 : Int) : Option Bool :=
 (t_load_Pairs (T_Net.mk (T_Topo.mk 1 [] ([(T_Host.mk (ByteArray.mk #[97]) (T_Spot.mk 1 2))] : (List T_Host))) ([([(T_Rule.mk 1 (T_Cube.mk 0 0) 2 0 0)] : (List T_Rule))] : (List (List T_Rule))))).bind fun r13 =>
 (gd (!((!decide (r13.2 = 0)) || (decide ((List.length r13.1 : Int) ≠ 1)))) default (idx r13.1 0)).bind fun r31 =>
 if (((!decide (r13.2 = 0)) || (decide ((List.length r13.1 : Int) ≠ 1))) || (decide (r31 ≠ 16))) = true then (
 some false) else (
 (t_load_Unused a0).bind fun r42 =>
 if (!decide (r42.2 = 0)) = true then (
 some true) else (
 (t_change_Apply a0 r42.1).bind fun r49 =>
 if (!decide (r49.2 = 0)) = true then (
 some false) else (
 (t_load_Links a0).bind fun r57 =>
 (t_load_Links r49.1).bind fun r62 =>
 (t_load_Pairs a0).bind fun r67 =>
 (t_load_Pairs r49.1).bind fun r72 =>
 (t_railsame_Ints r57.1 r62.1).bind fun r76 =>
 (t_railsame_Ints r67.1 r72.1).bind fun r78 =>
 (t_net_Send a0 a1 a2).bind fun r81 =>
 (t_net_Send r49.1 a1 a2).bind fun r87 =>
 (t_railsame_Fate r81.1 r87.1).bind fun r94 =>
 (t_load_Unused r49.1).bind fun r97 =>
 (some ((((((((decide (r57.2 = 0)) && (decide (r62.2 = 0))) && (decide (r67.2 = 0))) && (decide (r72.2 = 0))) && (decide (r97.2 = 0))) && r76) && r78) && r94)).bind fun r134 =>
 some ((r134 && ((decide (r81.2 = 0)) == (decide (r87.2 = 0)))) && (decide ((List.length r97.1 : Int) = 0))))))
theorem ty_raillaw3_LoadLess {n : Nat} (hn : bigN ≤ n) (a0 : T_Net) (a1 : ByteArray) (a2 : Int) : Rv (fun x : Bool => (vb x)) (sem_raillaw3_LoadLess n [(T_Net.e a0), (vt a1), (vi a2)]) (t_raillaw3_LoadLess a0 a1 a2) := by
  rw [eq_raillaw3_LoadLess]
  unfold t_raillaw3_LoadLess
  refine tb (x := (T_Net.c a0)) rfl ?_
  refine tb (x := (T_Spot.e (T_Spot.mk 1 2))) (by kernel_rfl) ?_
  refine tb (x := (T_Host.e (T_Host.mk (ByteArray.mk #[97]) (T_Spot.mk 1 2)))) (by kernel_rfl) ?_
  refine tb (x := (V.sl (List.map T_Host.c ([(T_Host.mk (ByteArray.mk #[97]) (T_Spot.mk 1 2))] : (List T_Host))))) (by kernel_rfl) ?_
  refine tb (x := (T_Topo.e (T_Topo.mk 1 [] ([(T_Host.mk (ByteArray.mk #[97]) (T_Spot.mk 1 2))] : (List T_Host))))) (by kernel_rfl) ?_
  refine tb (x := (T_Rule.e (T_Rule.mk 1 (T_Cube.mk 0 0) 2 0 0))) (by kernel_rfl) ?_
  refine tb (x := (V.sl (List.map T_Rule.c ([(T_Rule.mk 1 (T_Cube.mk 0 0) 2 0 0)] : (List T_Rule))))) (by kernel_rfl) ?_
  refine tb (x := (V.sl (List.map (cS T_Rule.c) ([([(T_Rule.mk 1 (T_Cube.mk 0 0) 2 0 0)] : (List T_Rule))] : (List (List T_Rule)))))) (by kernel_rfl) ?_
  refine tb (x := (T_Net.e (T_Net.mk (T_Topo.mk 1 [] ([(T_Host.mk (ByteArray.mk #[97]) (T_Spot.mk 1 2))] : (List T_Host))) ([([(T_Rule.mk 1 (T_Cube.mk 0 0) 2 0 0)] : (List T_Rule))] : (List (List T_Rule)))))) (by kernel_rfl) ?_
  refine tb (x := V.agg (T_Net.c (T_Net.mk (T_Topo.mk 1 [] ([(T_Host.mk (ByteArray.mk #[97]) (T_Spot.mk 1 2))] : (List T_Host))) ([([(T_Rule.mk 1 (T_Cube.mk 0 0) 2 0 0)] : (List T_Rule))] : (List (List T_Rule)))))) (by kernel_rfl) ?_
  refine tb (x := (T_Net.e (T_Net.mk (T_Topo.mk 1 [] ([(T_Host.mk (ByteArray.mk #[97]) (T_Spot.mk 1 2))] : (List T_Host))) ([([(T_Rule.mk 1 (T_Cube.mk 0 0) 2 0 0)] : (List T_Rule))] : (List (List T_Rule)))))) (rfl) ?_
  refine tbo (ty_load_Pairs hn (T_Net.mk (T_Topo.mk 1 [] ([(T_Host.mk (ByteArray.mk #[97]) (T_Spot.mk 1 2))] : (List T_Host))) ([([(T_Rule.mk 1 (T_Cube.mk 0 0) 2 0 0)] : (List T_Rule))] : (List (List T_Rule))))) fun r13 => ?_
  refine tb (x := (V.sl (List.map cI r13.1))) (rfl) ?_
  refine tb (x := (eV r13.2)) (rfl) ?_
  refine tb (x := (vb (!decide (r13.2 = 0)))) (p_err_neq _) ?_
  refine tg_f (x := (V.sl (List.map cI r13.1))) (fun h17 => rfl) ?_
  refine tg_f (x := (vi (List.length r13.1 : Int))) (fun h19 => by simp only [gv_t h19]; exact bind_some_eq (p_len _)) ?_
  refine tg_f (x := (vb (decide ((List.length r13.1 : Int) ≠ 1)))) (fun h22 => by simp only [gv_t h22]; exact bind_some_eq (d_neq)) ?_
  refine tb (x := (vb ((!decide (r13.2 = 0)) || (decide ((List.length r13.1 : Int) ≠ 1))))) (pick_or (fun h9 => gv_t (not_f h9))) ?_
  refine tg_f (x := (V.sl (List.map cI r13.1))) (fun h26 => rfl) ?_
  refine tgo_f (fun h28 => by simp only [gv_t h28]; exact rf_bind_some (p_idx (c := cI) (fun _ => rfl) r13.1 0)) fun r31 => ?_
  refine tg_f (x := (vi r31)) (fun h32 => by first | exact bind_some_eq (rfl) | (simp only [gv_t h32]; exact bind_some_eq (rfl))) ?_
  refine tg_f (x := (vb (decide (r31 ≠ 16)))) (fun h35 => by simp only [gv_t h35]; exact bind_some_eq (d_neq)) ?_
  refine tb (x := (vb (((!decide (r13.2 = 0)) || (decide ((List.length r13.1 : Int) ≠ 1))) || (decide (r31 ≠ 16))))) (pick_or (fun h9 => gv_t (not_f h9))) ?_
  refine tcond (fun h39 => ?_) (fun h39 => ?_)
  · exact rf_ret rfl
  · refine tb (x := (T_Net.e a0)) (rfl) ?_
    refine tbo (ty_load_Unused hn a0) fun r42 => ?_
    refine tb (x := (V.sl (List.map T_Op.c r42.1))) (rfl) ?_
    refine tb (x := (eV r42.2)) (rfl) ?_
    refine tb (x := (vb (!decide (r42.2 = 0)))) (p_err_neq _) ?_
    refine tcond (fun h46 => ?_) (fun h46 => ?_)
    · exact rf_ret rfl
    · refine tb (x := (T_Net.e a0)) (rfl) ?_
      refine tbo (ty_change_Apply hn a0 r42.1) fun r49 => ?_
      refine tb (x := (T_Net.e r49.1)) (rfl) ?_
      refine tb (x := (eV r49.2)) (rfl) ?_
      refine tb (x := V.agg (T_Net.c r49.1)) (by kernel_rfl) ?_
      refine tb (x := (vb (!decide (r49.2 = 0)))) (p_err_neq _) ?_
      refine tcond (fun h54 => ?_) (fun h54 => ?_)
      · exact rf_ret rfl
      · refine tb (x := (T_Net.e a0)) (rfl) ?_
        refine tbo (ty_load_Links hn a0) fun r57 => ?_
        refine tb (x := (V.sl (List.map cI r57.1))) (rfl) ?_
        refine tb (x := (eV r57.2)) (rfl) ?_
        refine tb (x := (T_Net.e r49.1)) (rfl) ?_
        refine tbo (ty_load_Links hn r49.1) fun r62 => ?_
        refine tb (x := (V.sl (List.map cI r62.1))) (rfl) ?_
        refine tb (x := (eV r62.2)) (rfl) ?_
        refine tb (x := (T_Net.e a0)) (rfl) ?_
        refine tbo (ty_load_Pairs hn a0) fun r67 => ?_
        refine tb (x := (V.sl (List.map cI r67.1))) (rfl) ?_
        refine tb (x := (eV r67.2)) (rfl) ?_
        refine tb (x := (T_Net.e r49.1)) (rfl) ?_
        refine tbo (ty_load_Pairs hn r49.1) fun r72 => ?_
        refine tb (x := (V.sl (List.map cI r72.1))) (rfl) ?_
        refine tb (x := (eV r72.2)) (rfl) ?_
        refine tbo (ty_railsame_Ints hn r57.1 r62.1) fun r76 => ?_
        refine tbo (ty_railsame_Ints hn r67.1 r72.1) fun r78 => ?_
        refine tb (x := (T_Net.e a0)) (rfl) ?_
        refine tbo (ty_net_Send hn a0 a1 a2) fun r81 => ?_
        refine tb (x := (T_Fate.e r81.1)) (rfl) ?_
        refine tb (x := (eV r81.2)) (rfl) ?_
        refine tb (x := V.agg (T_Fate.c r81.1)) (by kernel_rfl) ?_
        refine tb (x := (T_Net.e r49.1)) (rfl) ?_
        refine tbo (ty_net_Send hn r49.1 a1 a2) fun r87 => ?_
        refine tb (x := (T_Fate.e r87.1)) (rfl) ?_
        refine tb (x := (eV r87.2)) (rfl) ?_
        refine tb (x := V.agg (T_Fate.c r87.1)) (by kernel_rfl) ?_
        refine tb (x := (T_Fate.e r81.1)) (rfl) ?_
        refine tb (x := (T_Fate.e r87.1)) (rfl) ?_
        refine tbo (ty_railsame_Fate hn r81.1 r87.1) fun r94 => ?_
        refine tb (x := (T_Net.e r49.1)) (rfl) ?_
        refine tbo (ty_load_Unused hn r49.1) fun r97 => ?_
        refine tb (x := (V.sl (List.map T_Op.c r97.1))) (rfl) ?_
        refine tb (x := (eV r97.2)) (rfl) ?_
        refine tb (x := (vb (decide (r57.2 = 0)))) (p_err_eql _) ?_
        refine tg (x := (eV r62.2)) (fun h101 => rfl) ?_
        refine tg (x := (vb (decide (r62.2 = 0)))) (fun h103 => by simp only [gv_t h103]; exact bind_some_eq (p_err_eql _)) ?_
        refine tb (x := (vb ((decide (r57.2 = 0)) && (decide (r62.2 = 0))))) (pick_and (fun h9 => gv_t h9)) ?_
        refine tg (x := (eV r67.2)) (fun h107 => rfl) ?_
        refine tg (x := (vb (decide (r67.2 = 0)))) (fun h109 => by simp only [gv_t h109]; exact bind_some_eq (p_err_eql _)) ?_
        refine tb (x := (vb (((decide (r57.2 = 0)) && (decide (r62.2 = 0))) && (decide (r67.2 = 0))))) (pick_and (fun h9 => gv_t h9)) ?_
        refine tg (x := (eV r72.2)) (fun h113 => rfl) ?_
        refine tg (x := (vb (decide (r72.2 = 0)))) (fun h115 => by simp only [gv_t h115]; exact bind_some_eq (p_err_eql _)) ?_
        refine tb (x := (vb ((((decide (r57.2 = 0)) && (decide (r62.2 = 0))) && (decide (r67.2 = 0))) && (decide (r72.2 = 0))))) (pick_and (fun h9 => gv_t h9)) ?_
        refine tg (x := (eV r97.2)) (fun h119 => rfl) ?_
        refine tg (x := (vb (decide (r97.2 = 0)))) (fun h121 => by simp only [gv_t h121]; exact bind_some_eq (p_err_eql _)) ?_
        refine tb (x := (vb (((((decide (r57.2 = 0)) && (decide (r62.2 = 0))) && (decide (r67.2 = 0))) && (decide (r72.2 = 0))) && (decide (r97.2 = 0))))) (pick_and (fun h9 => gv_t h9)) ?_
        refine tg (x := (vb r76)) (fun h125 => rfl) ?_
        refine tb (x := (vb ((((((decide (r57.2 = 0)) && (decide (r62.2 = 0))) && (decide (r67.2 = 0))) && (decide (r72.2 = 0))) && (decide (r97.2 = 0))) && r76))) (pick_and (fun h9 => gv_t h9)) ?_
        refine tg (x := (vb r78)) (fun h128 => rfl) ?_
        refine tb (x := (vb (((((((decide (r57.2 = 0)) && (decide (r62.2 = 0))) && (decide (r67.2 = 0))) && (decide (r72.2 = 0))) && (decide (r97.2 = 0))) && r76) && r78))) (pick_and (fun h9 => gv_t h9)) ?_
        refine tg (x := (vb r94)) (fun h131 => rfl) ?_
        refine tbo (e1 := fun x : Bool => (vb x)) (rf_eq (pick_and (fun h9 => gv_t h9)) rfl) fun r134 => ?_
        refine tg (x := (eV r81.2)) (fun h135 => rfl) ?_
        refine tg (x := (vb (decide (r81.2 = 0)))) (fun h137 => by simp only [gv_t h137]; exact bind_some_eq (p_err_eql _)) ?_
        refine tg (x := (eV r87.2)) (fun h140 => rfl) ?_
        refine tg (x := (vb (decide (r87.2 = 0)))) (fun h142 => by simp only [gv_t h142]; exact bind_some_eq (p_err_eql _)) ?_
        refine tg (x := (vb ((decide (r81.2 = 0)) == (decide (r87.2 = 0))))) (fun h145 => by simp only [gv_t h145]; exact bind_some_eq (p_eql_bool (Try.underlying4))) ?_
        refine tb (x := (vb (r134 && ((decide (r81.2 = 0)) == (decide (r87.2 = 0)))))) (pick_and (fun h9 => gv_t h9)) ?_
        refine tg (x := (V.sl (List.map T_Op.c r97.1))) (fun h149 => rfl) ?_
        refine tg (x := (vi (List.length r97.1 : Int))) (fun h151 => by simp only [gv_t h151]; exact bind_some_eq (p_len _)) ?_
        refine tg (x := (vb (decide ((List.length r97.1 : Int) = 0)))) (fun h154 => by simp only [gv_t h154]; exact bind_some_eq (d_eql)) ?_
        refine tb (x := (vb ((r134 && ((decide (r81.2 = 0)) == (decide (r87.2 = 0)))) && (decide ((List.length r97.1 : Int) = 0))))) (pick_and (fun h9 => gv_t h9)) ?_
        exact rf_ret rfl

end Go.Proofs.Ytpjadjoekdcjiaa.Ty
