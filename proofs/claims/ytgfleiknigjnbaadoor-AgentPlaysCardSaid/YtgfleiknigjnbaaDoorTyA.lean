/- What functions do, as functions on plain types, written by a program and checked by the kernel. -/
import Derived.Test.YtgfleiknigjnbaaDoorDenDoor
import Derived.Test.YtgfleiknigjnbaaDoorTy
import Derived.Test.YtgfleiknigjnbaaDoorTyT
import Derived.Test.YtgfleiknigjnbaaDoorTyY
import Derived.Test.YtgfleiknigjnbaaDoorDen14
import Derived.Test.YtgfleiknigjnbaaDoorClone
namespace Go.Proofs.YtgfleiknigjnbaaDoor.Ty
open Go Go.RowKit Go.Proofs.YtgfleiknigjnbaaDoor.Den
set_option linter.unusedVariables false
set_option maxRecDepth 100000

/-! railpoint/cube.Header -/
def an_cube_Header : Ann := .seq (.reg 0 [] [] []) (.seq (.reg 0 [] [] []) (.no))
noncomputable def sem_cube_Header (n : Nat) (xs : List V) : Option V := if xs.length ≤ 9 then denF Tryd.prog (envOf []) n Tryd.f81 an_cube_Header xs else none
theorem ok_cube_Header (n : Nat) : SemOk Tryd.prog DW 81 (sem_cube_Header n) := fun xs y h => by
  unfold sem_cube_Header at h
  split at h
  · rename_i hl
    exact denF_ok stb Tryd.func81 (by kernel_rfl) (envOf_ok semsOk_nil) (by rw [Tryd.ntmps81]; exact hl) h
  · cases h
theorem eq_cube_Header (n : Nat) (x0 : V) : sem_cube_Header n [x0] =
 (bin2 Tryd.prog BinOp.geq 3 (ot 3) (oc 0) x0 (vi 0)).bind fun v1 =>
 (guardV v1 true (some x0)).bind fun v2 =>
 (guardV v1 true ((bin2 Tryd.prog BinOp.lss 3 (ot 6) (oc 16) v2 (vi 16)).bind fun v3 =>
 some v3)).bind fun v4 =>
 (pickV v1 v4 (vb false)).bind fun v5 =>
 some v5 := by kernel_rfl
noncomputable def t_cube_Header (a0 : Int) : Option Bool :=
 some ((decide (0 ≤ a0)) && (decide (a0 < 16)))
theorem ty_cube_Header {n : Nat} (hn : bigN ≤ n) (a0 : Int) : Rv (fun x : Bool => (vb x)) (sem_cube_Header n [(vi a0)]) (t_cube_Header a0) := by
  rw [eq_cube_Header]
  unfold t_cube_Header
  refine tb (x := (vb (decide (0 ≤ a0)))) (d_geq) ?_
  refine tg (x := (vi a0)) (fun h2 => rfl) ?_
  refine tg (x := (vb (decide (a0 < 16)))) (fun h4 => by simp only [gv_t h4]; exact bind_some_eq (d_lss)) ?_
  refine tb (x := (vb ((decide (0 ≤ a0)) && (decide (a0 < 16))))) (pick_and (fun h9 => gv_t h9)) ?_
  exact rf_ret rfl

/-! railpoint/cube.Check -/
def an_cube_Check : Ann := .seq (.reg 0 [] [] []) (.seq (.blk none (.seq (.reg 0 [] [] []) (.cond none (.seq (.reg 0 [] [] []) (.no)) (.seq (.reg 0 [] [] []) (.cond none (.seq (.reg 0 [] [] []) (.no)) (.no)))))) (.seq (.reg 0 [] [] []) (.no)))
noncomputable def sem_cube_Check (n : Nat) (xs : List V) : Option V := if xs.length ≤ 23 then denF Tryd.prog (envOf [(81, (sem_cube_Header n))]) n Tryd.f82 an_cube_Check xs else none
theorem ok_cube_Check (n : Nat) : SemOk Tryd.prog DW 82 (sem_cube_Check n) := fun xs y h => by
  unfold sem_cube_Check at h
  split at h
  · rename_i hl
    exact denF_ok stb Tryd.func82 (by kernel_rfl) (envOf_ok (semsOk_cons (ok_cube_Header n) semsOk_nil)) (by rw [Tryd.ntmps82]; exact hl) h
  · cases h
theorem eq_cube_Check (n : Nat) (x0 : V) : sem_cube_Check n [x0] =
 (V.cellsO x0).bind fun v1 =>
 (ldk none (List.drop 0 v1)).bind fun v2 =>
 ((sem_cube_Header n) [v2]).bind fun v3 =>
 (scal1 Tryd.prog (Op.unary Go.UnOp.not) v3).bind fun v4 =>
 (guardV v4 false (some V.any)).bind fun v5 =>
 (guardV v4 false ((gate v4 false (ldk none (List.drop 1 v1))).bind fun v6 =>
 some v6)).bind fun v7 =>
 (guardV v4 false (((sem_cube_Header n) [v7]).bind fun v8 =>
 some v8)).bind fun v9 =>
 (guardV v4 false ((scal1 Tryd.prog (Op.unary Go.UnOp.not) v9).bind fun v10 =>
 some v10)).bind fun v11 =>
 (pickV v4 (vb true) v11).bind fun v12 =>
 condV v12 (
 (scal1 Tryd.prog (Instr.makeInterface 87) (vi 1)).bind fun v13 =>
 some v13) (
 (ldk none (List.drop 1 v1)).bind fun v14 =>
 (ldk none (List.drop 0 v1)).bind fun v15 =>
 (bin2 Tryd.prog BinOp.andNot 3 (ot 17) (ot 19) v14 v15).bind fun v16 =>
 (bin2 Tryd.prog BinOp.neq 3 (ot 20) (oc 0) v16 (vi 0)).bind fun v17 =>
 condV v17 (
 (scal1 Tryd.prog (Instr.makeInterface 87) (vi 3)).bind fun v18 =>
 some v18) (
 some vn)) := by kernel_rfl
noncomputable def t_cube_Check (a0 : T_Cube) : Option Int :=
 (t_cube_Header a0.Mask).bind fun r4 =>
 (gd (!(!r4)) default (t_cube_Header a0.Bits)).bind fun r14 =>
 if ((!r4) || (!r14)) = true then (
 some 1) else (
 if (decide ((bits .andNot .i64 a0.Bits a0.Mask) ≠ 0)) = true then (
 some 3) else (
 some 0))
theorem ty_cube_Check {n : Nat} (hn : bigN ≤ n) (a0 : T_Cube) : Rv (fun x : Int => (eV x)) (sem_cube_Check n [(T_Cube.e a0)]) (t_cube_Check a0) := by
  rw [eq_cube_Check]
  unfold t_cube_Check
  refine tb (x := (T_Cube.c a0)) rfl ?_
  refine tb (x := (vi a0.Mask)) (rfl) ?_
  refine tbo (ty_cube_Header hn a0.Mask) fun r4 => ?_
  refine tb (x := (vb (!r4))) (d_not) ?_
  refine tg_f (x := V.any) (fun h6 => rfl) ?_
  refine tg_f (x := (vi a0.Bits)) (fun h8 => bind_some_eq (gate_pos (not_t h8) (rfl))) ?_
  refine tgo_f (fun h11 => by simp only [gv_t h11]; exact rf_bind_some (ty_cube_Header hn a0.Bits)) fun r14 => ?_
  refine tg_f (x := (vb (!r14))) (fun h15 => by simp only [gv_t h15]; exact bind_some_eq (d_not)) ?_
  refine tb (x := (vb ((!r4) || (!r14)))) (pick_or (fun h9 => gv_t (not_f h9))) ?_
  refine tcond (fun h19 => ?_) (fun h19 => ?_)
  · refine tb (x := (eV 1)) (p_mkE (by decide)) ?_
    exact rf_ret rfl
  · refine tb (x := (vi a0.Bits)) (rfl) ?_
    refine tb (x := (vi a0.Mask)) (rfl) ?_
    refine tb (x := (vi (bits .andNot .i64 a0.Bits a0.Mask))) (d_andNot) ?_
    refine tb (x := (vb (decide ((bits .andNot .i64 a0.Bits a0.Mask) ≠ 0)))) (d_neq) ?_
    refine tcond (fun h25 => ?_) (fun h25 => ?_)
    · refine tb (x := (eV 3)) (p_mkE (by decide)) ?_
      exact rf_ret rfl
    · exact rf_ret rfl

/-! railpoint/rule.Check -/
def an_rule_Check : Ann := .seq (.reg 0 [] [] []) (.seq (.seq (.reg 0 [] [] []) (.cond none (.seq (.reg 0 [] [] []) (.no)) (.no))) (.seq (.seq (.reg 0 [] [] []) (.seq (.reg 0 [] [] []) (.cond none (.seq (.reg 0 [] [] []) (.no)) (.no)))) (.seq (.seq (.reg 0 [] [] []) (.cond none (.seq (.reg 0 [] [] []) (.no)) (.no))) (.seq (.reg 0 [] [] []) (.no)))))
noncomputable def sem_rule_Check (n : Nat) (xs : List V) : Option V := if xs.length ≤ 58 then denF Tryd.prog (envOf [(81, (sem_cube_Header n)), (82, (sem_cube_Check n))]) n Tryd.f57 an_rule_Check xs else none
theorem ok_rule_Check (n : Nat) : SemOk Tryd.prog DW 57 (sem_rule_Check n) := fun xs y h => by
  unfold sem_rule_Check at h
  split at h
  · rename_i hl
    exact denF_ok stb Tryd.func57 (by kernel_rfl) (envOf_ok (semsOk_cons (ok_cube_Header n) (semsOk_cons (ok_cube_Check n) semsOk_nil))) (by rw [Tryd.ntmps57]; exact hl) h
  · cases h
theorem eq_rule_Check (n : Nat) (x0 : V) : sem_rule_Check n [x0] =
 (V.cellsO x0).bind fun v1 =>
 (ldk none (List.drop 0 v1)).bind fun v2 =>
 (bin2 Tryd.prog BinOp.lss 3 (ot 5) (oc 0) v2 (vi 0)).bind fun v3 =>
 (guardV v3 false (some V.any)).bind fun v4 =>
 (guardV v3 false ((gate v3 false (ldk none (List.drop 0 v1))).bind fun v5 =>
 some v5)).bind fun v6 =>
 (guardV v3 false ((bin2 Tryd.prog BinOp.gtr 3 (ot 9) (oc 99) v6 (vi 99)).bind fun v7 =>
 some v7)).bind fun v8 =>
 (pickV v3 (vb true) v8).bind fun v9 =>
 (guardV v9 false (some V.any)).bind fun v10 =>
 (guardV v9 false ((gate v9 false (ldk none (List.drop 3 v1))).bind fun v11 =>
 some v11)).bind fun v12 =>
 (guardV v9 false ((bin2 Tryd.prog BinOp.lss 3 (ot 14) (oc 0) v12 (vi 0)).bind fun v13 =>
 some v13)).bind fun v14 =>
 (pickV v9 (vb true) v14).bind fun v15 =>
 (guardV v15 false (some V.any)).bind fun v16 =>
 (guardV v15 false ((gate v15 false (ldk none (List.drop 3 v1))).bind fun v17 =>
 some v17)).bind fun v18 =>
 (guardV v15 false ((bin2 Tryd.prog BinOp.gtr 3 (ot 19) (oc 4) v18 (vi 4)).bind fun v19 =>
 some v19)).bind fun v20 =>
 (pickV v15 (vb true) v20).bind fun v21 =>
 (guardV v21 false (some V.any)).bind fun v22 =>
 (guardV v21 false ((gate v21 false (ldk none (List.drop 4 v1))).bind fun v23 =>
 some v23)).bind fun v24 =>
 (guardV v21 false (((sem_cube_Header n) [v24]).bind fun v25 =>
 some v25)).bind fun v26 =>
 (guardV v21 false ((scal1 Tryd.prog (Op.unary Go.UnOp.not) v26).bind fun v27 =>
 some v27)).bind fun v28 =>
 (pickV v21 (vb true) v28).bind fun v29 =>
 (guardV v29 false (some V.any)).bind fun v30 =>
 (guardV v29 false ((gate v29 false (ldk none (List.drop 5 v1))).bind fun v31 =>
 some v31)).bind fun v32 =>
 (guardV v29 false (((sem_cube_Header n) [v32]).bind fun v33 =>
 some v33)).bind fun v34 =>
 (guardV v29 false ((scal1 Tryd.prog (Op.unary Go.UnOp.not) v34).bind fun v35 =>
 some v35)).bind fun v36 =>
 (pickV v29 (vb true) v36).bind fun v37 =>
 condV v37 (
 (scal1 Tryd.prog (Instr.makeInterface 87) (vi 1)).bind fun v38 =>
 some v38) (
 (ldk (some 2) (List.drop 1 v1)).bind fun v39 =>
 ((sem_cube_Check n) [v39]).bind fun v40 =>
 (bin2 Tryd.prog BinOp.neq 27 (ot 38) (Operand.const Go.Value.nilIface) v40 vn).bind fun v41 =>
 condV v41 (
 some v40) (
 (ldk none (List.drop 5 v1)).bind fun v42 =>
 (ldk none (List.drop 4 v1)).bind fun v43 =>
 (bin2 Tryd.prog BinOp.andNot 3 (ot 42) (ot 44) v42 v43).bind fun v44 =>
 (bin2 Tryd.prog BinOp.neq 3 (ot 45) (oc 0) v44 (vi 0)).bind fun v45 =>
 (guardV v45 false (some V.any)).bind fun v46 =>
 (guardV v45 false ((gate v45 false (ldk none (List.drop 3 v1))).bind fun v47 =>
 some v47)).bind fun v48 =>
 (guardV v45 false ((bin2 Tryd.prog BinOp.eql 3 (ot 49) (oc 0) v48 (vi 0)).bind fun v49 =>
 some v49)).bind fun v50 =>
 (guardV v45 false (some v50)).bind fun v51 =>
 (guardV v51 true (some V.any)).bind fun v52 =>
 (guardV v51 true ((gate v51 true (ldk none (List.drop 4 v1))).bind fun v53 =>
 some v53)).bind fun v54 =>
 (guardV v51 true ((bin2 Tryd.prog BinOp.neq 3 (ot 53) (oc 0) v54 (vi 0)).bind fun v55 =>
 some v55)).bind fun v56 =>
 (guardV v45 false ((pickV v51 v56 (vb false)).bind fun v57 =>
 some v57)).bind fun v58 =>
 (pickV v45 (vb true) v58).bind fun v59 =>
 condV v59 (
 (scal1 Tryd.prog (Instr.makeInterface 87) (vi 3)).bind fun v60 =>
 some v60) (
 some vn))) := by kernel_rfl
noncomputable def t_rule_Check (a0 : T_Rule) : Option Int :=
 (gd (!((((decide (a0.Prio < 0)) || (decide (99 < a0.Prio))) || (decide (a0.Out < 0))) || (decide (4 < a0.Out)))) default (t_cube_Header a0.Set)).bind fun r39 =>
 (gd (!(((((decide (a0.Prio < 0)) || (decide (99 < a0.Prio))) || (decide (a0.Out < 0))) || (decide (4 < a0.Out))) || (!r39))) default (t_cube_Header a0.Value)).bind fun r52 =>
 if ((((((decide (a0.Prio < 0)) || (decide (99 < a0.Prio))) || (decide (a0.Out < 0))) || (decide (4 < a0.Out))) || (!r39)) || (!r52)) = true then (
 some 1) else (
 (t_cube_Check a0.Cube).bind fun r61 =>
 if (!decide (r61 = 0)) = true then (
 some r61) else (
 if ((decide ((bits .andNot .i64 a0.Value a0.Set) ≠ 0)) || ((decide (a0.Out = 0)) && (decide (a0.Set ≠ 0)))) = true then (
 some 3) else (
 some 0)))
theorem ty_rule_Check {n : Nat} (hn : bigN ≤ n) (a0 : T_Rule) : Rv (fun x : Int => (eV x)) (sem_rule_Check n [(T_Rule.e a0)]) (t_rule_Check a0) := by
  rw [eq_rule_Check]
  unfold t_rule_Check
  refine tb (x := (T_Rule.c a0)) rfl ?_
  refine tb (x := (vi a0.Prio)) (rfl) ?_
  refine tb (x := (vb (decide (a0.Prio < 0)))) (d_lss) ?_
  refine tg_f (x := V.any) (fun h4 => rfl) ?_
  refine tg_f (x := (vi a0.Prio)) (fun h6 => bind_some_eq (gate_pos (not_t h6) (rfl))) ?_
  refine tg_f (x := (vb (decide (99 < a0.Prio)))) (fun h9 => by simp only [gv_t h9]; exact bind_some_eq (d_gtr)) ?_
  refine tb (x := (vb ((decide (a0.Prio < 0)) || (decide (99 < a0.Prio))))) (pick_or (fun h9 => gv_t (not_f h9))) ?_
  refine tg_f (x := V.any) (fun h13 => rfl) ?_
  refine tg_f (x := (vi a0.Out)) (fun h15 => bind_some_eq (gate_pos (not_t h15) (rfl))) ?_
  refine tg_f (x := (vb (decide (a0.Out < 0)))) (fun h18 => by simp only [gv_t h18]; exact bind_some_eq (d_lss)) ?_
  refine tb (x := (vb (((decide (a0.Prio < 0)) || (decide (99 < a0.Prio))) || (decide (a0.Out < 0))))) (pick_or (fun h9 => gv_t (not_f h9))) ?_
  refine tg_f (x := V.any) (fun h22 => rfl) ?_
  refine tg_f (x := (vi a0.Out)) (fun h24 => bind_some_eq (gate_pos (not_t h24) (rfl))) ?_
  refine tg_f (x := (vb (decide (4 < a0.Out)))) (fun h27 => by simp only [gv_t h27]; exact bind_some_eq (d_gtr)) ?_
  refine tb (x := (vb ((((decide (a0.Prio < 0)) || (decide (99 < a0.Prio))) || (decide (a0.Out < 0))) || (decide (4 < a0.Out))))) (pick_or (fun h9 => gv_t (not_f h9))) ?_
  refine tg_f (x := V.any) (fun h31 => rfl) ?_
  refine tg_f (x := (vi a0.Set)) (fun h33 => bind_some_eq (gate_pos (not_t h33) (rfl))) ?_
  refine tgo_f (fun h36 => by simp only [gv_t h36]; exact rf_bind_some (ty_cube_Header hn a0.Set)) fun r39 => ?_
  refine tg_f (x := (vb (!r39))) (fun h40 => by simp only [gv_t h40]; exact bind_some_eq (d_not)) ?_
  refine tb (x := (vb (((((decide (a0.Prio < 0)) || (decide (99 < a0.Prio))) || (decide (a0.Out < 0))) || (decide (4 < a0.Out))) || (!r39)))) (pick_or (fun h9 => gv_t (not_f h9))) ?_
  refine tg_f (x := V.any) (fun h44 => rfl) ?_
  refine tg_f (x := (vi a0.Value)) (fun h46 => bind_some_eq (gate_pos (not_t h46) (rfl))) ?_
  refine tgo_f (fun h49 => by simp only [gv_t h49]; exact rf_bind_some (ty_cube_Header hn a0.Value)) fun r52 => ?_
  refine tg_f (x := (vb (!r52))) (fun h53 => by simp only [gv_t h53]; exact bind_some_eq (d_not)) ?_
  refine tb (x := (vb ((((((decide (a0.Prio < 0)) || (decide (99 < a0.Prio))) || (decide (a0.Out < 0))) || (decide (4 < a0.Out))) || (!r39)) || (!r52)))) (pick_or (fun h9 => gv_t (not_f h9))) ?_
  refine tcond (fun h57 => ?_) (fun h57 => ?_)
  · refine tb (x := (eV 1)) (p_mkE (by decide)) ?_
    exact rf_ret rfl
  · refine tb (x := (T_Cube.e a0.Cube)) (rfl) ?_
    refine tbo (ty_cube_Check hn a0.Cube) fun r61 => ?_
    refine tb (x := (vb (!decide (r61 = 0)))) (p_err_neq _) ?_
    refine tcond (fun h63 => ?_) (fun h63 => ?_)
    · exact rf_ret rfl
    · refine tb (x := (vi a0.Value)) (rfl) ?_
      refine tb (x := (vi a0.Set)) (rfl) ?_
      refine tb (x := (vi (bits .andNot .i64 a0.Value a0.Set))) (d_andNot) ?_
      refine tb (x := (vb (decide ((bits .andNot .i64 a0.Value a0.Set) ≠ 0)))) (d_neq) ?_
      refine tg_f (x := V.any) (fun h68 => rfl) ?_
      refine tg_f (x := (vi a0.Out)) (fun h70 => bind_some_eq (gate_pos (not_t h70) (rfl))) ?_
      refine tg_f (x := (vb (decide (a0.Out = 0)))) (fun h73 => by simp only [gv_t h73]; exact bind_some_eq (d_eql)) ?_
      refine tg_f (x := (vb (decide (a0.Out = 0)))) (fun h76 => congrArg some (gv_t h76)) ?_
      refine tg2 (x := V.any) (fun h78 => rfl) ?_
      refine tg2 (x := (vi a0.Set)) (fun h80 => bind_some_eq (gate_pos2 (and_l h80) (and_r h80) (rfl))) ?_
      refine tg2 (x := (vb (decide (a0.Set ≠ 0)))) (fun h83 => by simp only [gv_t h83]; exact bind_some_eq (d_neq)) ?_
      refine tg_f (x := (vb ((decide (a0.Out = 0)) && (decide (a0.Set ≠ 0))))) (fun h86 => by simp only [gv_t h86]; exact bind_some_eq (pick_and (fun h9 => gv_t (and_i h86 h9)))) ?_
      refine tb (x := (vb ((decide ((bits .andNot .i64 a0.Value a0.Set) ≠ 0)) || ((decide (a0.Out = 0)) && (decide (a0.Set ≠ 0)))))) (pick_or (fun h9 => gv_t (not_f h9))) ?_
      refine tcond (fun h90 => ?_) (fun h90 => ?_)
      · refine tb (x := (eV 3)) (p_mkE (by decide)) ?_
        exact rf_ret rfl
      · exact rf_ret rfl

/-! slices.IndexFunc railpoint/api.Table railpoint/api.Rule  -/
def an_slices_IndexFunc_api_Table_api_Rule : Ann := .seq (.reg 0 [] [] []) (.seq (.seq (.reg 0 [] [] []) (.blk (some []) (.loop [.s 8] (.seq (.reg 0 [] [] []) (.seq (.cond none (.no) (.no)) (.seq (.blk none (.seq (.reg 0 [] [] []) (.seq (.reg 0 [] [] []) (.cond none (.seq (.reg 0 [] [] []) (.no)) (.no))))) (.reg 0 [] [] []))))))) (.seq (.reg 0 [] [] []) (.no)))
noncomputable def sem_slices_IndexFunc_api_Table_api_Rule (E : FuncId → List V → Option V) (n : Nat) (xs : List V) : Option V := if xs.length ≤ 19 then denF Tryd.prog (envJ [] E) n Tryd.f85 an_slices_IndexFunc_api_Table_api_Rule xs else none
theorem ok_slices_IndexFunc_api_Table_api_Rule {E : FuncId → List V → Option V} (hE : EnvOk Tryd.prog DW E) (n : Nat) : SemOk Tryd.prog DW 85 (sem_slices_IndexFunc_api_Table_api_Rule E n) := fun xs y h => by
  unfold sem_slices_IndexFunc_api_Table_api_Rule at h
  split at h
  · rename_i hl
    exact denF_ok stb Tryd.func85 (by kernel_rfl) (envJ_ok semsOk_nil hE) (by rw [Tryd.ntmps85]; exact hl) h
  · cases h
theorem eq_slices_IndexFunc_api_Table_api_Rule (E : FuncId → List V → Option V) (n : Nat) (x0 x1 : V) : sem_slices_IndexFunc_api_Table_api_Rule E n [x0, x1] =
 (lenS [x0]).bind fun v1 =>
 JoinPt (fun vs2 =>
 some (vi (-1 : Int))) fun J3 =>
 (fixN (fun rec4 vs5 =>
 (bin2 Tryd.prog BinOp.lss 3 (ot 8) (ot 7) (List.getD vs5 0 V.any) v1).bind fun v6 =>
 condV v6 (
 (idxS 6 x0 (List.getD vs5 0 V.any)).bind fun v7 =>
 (ldp (some 6) v7).bind fun v8 =>
 (callV (envJ [] E) x1 [v8]).bind fun v9 =>
 condV v9 (
 some (List.getD vs5 0 V.any)) (
 (bin2 Tryd.prog BinOp.add 3 (ot 8) (oc 1) (List.getD vs5 0 V.any) (vi 1)).bind fun v10 =>
 rec4 [v10])) (
 J3 [])) n) [(vi 0)] := by kernel_rfl
noncomputable def t_slices_IndexFunc_api_Table_api_Rule (a0 : (List T_Rule)) (g1 : T_Rule → Option Bool) : Option Int :=
 join (fun (s4 : Unit) =>
 some (-1 : Int)) fun j5 =>
 loopI a0 (fun (i13 : Int) x14 (s9 : Unit) k10 =>
 (g1 x14).bind fun r22 =>
 if r22 = true then (
 some i13) else (
 k10 ())) (fun (s9 : Unit) =>
 j5 ()) ()
theorem ty_slices_IndexFunc_api_Table_api_Rule {E : FuncId → List V → Option V} {n : Nat} (hn : bigN ≤ n) (a0 : (List T_Rule)) {x1 : V} {g1 : T_Rule → Option Bool} (hg_g1 : ∀ a0, Rv (fun x : Bool => (vb x)) (callV E x1 [(T_Rule.e a0)]) (g1 a0)) : Rv (fun x : Int => (vi x)) (sem_slices_IndexFunc_api_Table_api_Rule E n [(V.sl (List.map T_Rule.c a0)), x1]) (t_slices_IndexFunc_api_Table_api_Rule a0 g1) := by
  rw [eq_slices_IndexFunc_api_Table_api_Rule]
  unfold t_slices_IndexFunc_api_Table_api_Rule
  refine tb (x := (vi (List.length a0 : Int))) (p_len _) ?_
  refine tjoin (mk := fun s4 : Unit => []) (fun s4 => ?_) fun J3 j5 h6 => ?_
  · exact rf_ret rfl
  · refine rf_loopI (mk := fun (i13 : Int) (s9 : Unit) => [(vi (i13 : Int))]) hn a0 () (fun i13 x14 h15 h16 h17 s9 rec7 k10 h11 => ?_) (fun s9 rec26 h25 => ?_)
    · refine tb (x := (vb (decide ((i13 : Int) < (List.length a0 : Int))))) (d_lss) ?_
      refine tcond_t h17 ?_
      refine tb (x := (V.ptr (T_Rule.c x14))) (p_idx_at (c := T_Rule.c) (fun _ => rfl) h15) ?_
      refine tb (x := (T_Rule.e x14)) (rfl) ?_
      refine tbo ((callV_J0 ▸ hg_g1 x14)) fun r22 => ?_
      refine tcond (fun h23 => ?_) (fun h23 => ?_)
      · exact rf_ret rfl
      · refine tb (x := (vi ((i13 : Int) + 1))) (p_incN h16) ?_
        exact h11 ()
    · refine tb (x := (vb (decide ((List.length a0 : Int) < (List.length a0 : Int))))) (d_lss) ?_
      refine tcond_f h25 ?_
      exact h6 ()

/-! slices.ContainsFunc railpoint/api.Table railpoint/api.Rule  -/
def an_slices_ContainsFunc_api_Table_api_Rule : Ann := .seq (.reg 0 [] [] []) (.seq (.reg 0 [] [] []) (.no))
noncomputable def sem_slices_ContainsFunc_api_Table_api_Rule (E : FuncId → List V → Option V) (n : Nat) (xs : List V) : Option V := if xs.length ≤ 9 then denF Tryd.prog (envJ [(85, (sem_slices_IndexFunc_api_Table_api_Rule E n))] E) n Tryd.f68 an_slices_ContainsFunc_api_Table_api_Rule xs else none
theorem ok_slices_ContainsFunc_api_Table_api_Rule {E : FuncId → List V → Option V} (hE : EnvOk Tryd.prog DW E) (n : Nat) : SemOk Tryd.prog DW 68 (sem_slices_ContainsFunc_api_Table_api_Rule E n) := fun xs y h => by
  unfold sem_slices_ContainsFunc_api_Table_api_Rule at h
  split at h
  · rename_i hl
    exact denF_ok stb Tryd.func68 (by kernel_rfl) (envJ_ok (semsOk_cons (ok_slices_IndexFunc_api_Table_api_Rule hE n) semsOk_nil) hE) (by rw [Tryd.ntmps68]; exact hl) h
  · cases h
theorem eq_slices_ContainsFunc_api_Table_api_Rule (E : FuncId → List V → Option V) (n : Nat) (x0 x1 : V) : sem_slices_ContainsFunc_api_Table_api_Rule E n [x0, x1] =
 ((sem_slices_IndexFunc_api_Table_api_Rule E n) [x0, x1]).bind fun v1 =>
 (bin2 Tryd.prog BinOp.geq 3 (ot 7) (oc 0) v1 (vi 0)).bind fun v2 =>
 some v2 := by kernel_rfl
noncomputable def t_slices_ContainsFunc_api_Table_api_Rule (a0 : (List T_Rule)) (g1 : T_Rule → Option Bool) : Option Bool :=
 (t_slices_IndexFunc_api_Table_api_Rule a0 g1).bind fun r2 =>
 some (decide (0 ≤ r2))
theorem ty_slices_ContainsFunc_api_Table_api_Rule {E : FuncId → List V → Option V} {n : Nat} (hn : bigN ≤ n) (a0 : (List T_Rule)) {x1 : V} {g1 : T_Rule → Option Bool} (hg_g1 : ∀ a0, Rv (fun x : Bool => (vb x)) (callV E x1 [(T_Rule.e a0)]) (g1 a0)) : Rv (fun x : Bool => (vb x)) (sem_slices_ContainsFunc_api_Table_api_Rule E n [(V.sl (List.map T_Rule.c a0)), x1]) (t_slices_ContainsFunc_api_Table_api_Rule a0 g1) := by
  rw [eq_slices_ContainsFunc_api_Table_api_Rule]
  unfold t_slices_ContainsFunc_api_Table_api_Rule
  refine tbo (ty_slices_IndexFunc_api_Table_api_Rule (E := E) (x1 := x1) (g1 := g1) hn a0 hg_g1) fun r2 => ?_
  refine tb (x := (vb (decide (0 ≤ r2)))) (d_geq) ?_
  exact rf_ret rfl

/-! railpoint/rule.Key -/
def an_rule_Key : Ann := .seq (.reg 0 [] [] []) (.seq (.reg 0 [] [] []) (.no))
noncomputable def sem_rule_Key (n : Nat) (xs : List V) : Option V := if xs.length ≤ 17 then denF Tryd.prog (envOf []) n Tryd.f70 an_rule_Key xs else none
theorem ok_rule_Key (n : Nat) : SemOk Tryd.prog DW 70 (sem_rule_Key n) := fun xs y h => by
  unfold sem_rule_Key at h
  split at h
  · rename_i hl
    exact denF_ok stb Tryd.func70 (by kernel_rfl) (envOf_ok semsOk_nil) (by rw [Tryd.ntmps70]; exact hl) h
  · cases h
theorem eq_rule_Key (n : Nat) (x0 x1 : V) : sem_rule_Key n [x0, x1] =
 (V.cellsO x0).bind fun v1 =>
 (V.cellsO x1).bind fun v2 =>
 (ldk none (List.drop 0 v1)).bind fun v3 =>
 (ldk none (List.drop 0 v2)).bind fun v4 =>
 (bin2 Tryd.prog BinOp.eql 3 (ot 6) (ot 8) v3 v4).bind fun v5 =>
 (guardV v5 true (some V.any)).bind fun v6 =>
 (guardV v5 true ((gate v5 true (ldk (some 2) (List.drop 1 v1))).bind fun v7 =>
 some v7)).bind fun v8 =>
 (guardV v5 true (some V.any)).bind fun v9 =>
 (guardV v5 true ((gate v5 true (ldk (some 2) (List.drop 1 v2))).bind fun v10 =>
 some v10)).bind fun v11 =>
 (guardV v5 true ((bin2 Tryd.prog BinOp.eql 33 (ot 12) (ot 14) v8 v11).bind fun v12 =>
 some v12)).bind fun v13 =>
 (pickV v5 v13 (vb false)).bind fun v14 =>
 some v14 := by kernel_rfl
noncomputable def t_rule_Key (a0 : T_Rule) (a1 : T_Rule) : Option Bool :=
 some ((decide (a0.Prio = a1.Prio)) && (decide (a0.Cube = a1.Cube)))
theorem ty_rule_Key {n : Nat} (hn : bigN ≤ n) (a0 : T_Rule) (a1 : T_Rule) : Rv (fun x : Bool => (vb x)) (sem_rule_Key n [(T_Rule.e a0), (T_Rule.e a1)]) (t_rule_Key a0 a1) := by
  rw [eq_rule_Key]
  unfold t_rule_Key
  refine tb (x := (T_Rule.c a0)) rfl ?_
  refine tb (x := (T_Rule.c a1)) rfl ?_
  refine tb (x := (vi a0.Prio)) (rfl) ?_
  refine tb (x := (vi a1.Prio)) (rfl) ?_
  refine tb (x := (vb (decide (a0.Prio = a1.Prio)))) (d_eql) ?_
  refine tg (x := V.any) (fun h6 => rfl) ?_
  refine tg (x := (T_Cube.e a0.Cube)) (fun h8 => bind_some_eq (gate_pos h8 (rfl))) ?_
  refine tg (x := V.any) (fun h11 => rfl) ?_
  refine tg (x := (T_Cube.e a1.Cube)) (fun h13 => bind_some_eq (gate_pos h13 (rfl))) ?_
  refine tg (x := (vb (decide (a0.Cube = a1.Cube)))) (fun h16 => by simp only [gv_t h16]; exact bind_some_eq (T_Cube.eql a0.Cube a1.Cube)) ?_
  refine tb (x := (vb ((decide (a0.Prio = a1.Prio)) && (decide (a0.Cube = a1.Cube))))) (pick_and (fun h9 => gv_t h9)) ?_
  exact rf_ret rfl

/-! railpoint/rule.Table$1 -/
def an_rule_Table_1 : Ann := .seq (.reg 0 [] [] []) (.seq (.reg 0 [] [] []) (.no))
noncomputable def sem_rule_Table_1 (n : Nat) (xs : List V) : Option V := if xs.length ≤ 7 then denF Tryd.prog (envOf [(70, (sem_rule_Key n))]) n Tryd.f69 an_rule_Table_1 xs else none
theorem ok_rule_Table_1 (n : Nat) : SemOk Tryd.prog DW 69 (sem_rule_Table_1 n) := fun xs y h => by
  unfold sem_rule_Table_1 at h
  split at h
  · rename_i hl
    exact denF_ok stb Tryd.func69 (by kernel_rfl) (envOf_ok (semsOk_cons (ok_rule_Key n) semsOk_nil)) (by rw [Tryd.ntmps69]; exact hl) h
  · cases h
theorem eq_rule_Table_1 (n : Nat) (x0 x1 : V) : sem_rule_Table_1 n [x0, x1] =
 (V.cellsO x0).bind fun v1 =>
 (ldk (some 6) (List.drop 0 v1)).bind fun v2 =>
 (ldp (some 6) x1).bind fun v3 =>
 ((sem_rule_Key n) [v2, v3]).bind fun v4 =>
 some v4 := by kernel_rfl
noncomputable def t_rule_Table_1 (a0 : T_Rule) (a1 : T_Rule) : Option Bool :=
 (t_rule_Key a0 a1).bind fun r5 =>
 some r5
theorem ty_rule_Table_1 {n : Nat} (hn : bigN ≤ n) (a0 : T_Rule) (a1 : T_Rule) : Rv (fun x : Bool => (vb x)) (sem_rule_Table_1 n [(T_Rule.e a0), (V.ptr (T_Rule.c a1))]) (t_rule_Table_1 a0 a1) := by
  rw [eq_rule_Table_1]
  unfold t_rule_Table_1
  refine tb (x := (T_Rule.c a0)) rfl ?_
  refine tb (x := (T_Rule.e a0)) (rfl) ?_
  refine tb (x := (T_Rule.e a1)) (rfl) ?_
  refine tbo (ty_rule_Key hn a0 a1) fun r5 => ?_
  exact rf_ret rfl

/-! railpoint/rule.Table -/
def an_rule_Table : Ann := .seq (.reg 0 [] [] []) (.seq (.seq (.reg 0 [] [] []) (.cond none (.seq (.reg 0 [] [] []) (.no)) (.no))) (.seq (.seq (.reg 0 [] [] []) (.blk (some []) (.loop [.s 12] (.seq (.reg 0 [] [] []) (.seq (.cond none (.no) (.no)) (.seq (.blk none (.seq (.reg 0 [] [] []) (.seq (.seq (.reg 0 [4] [] []) (.seq (.reg 0 [] [] []) (.cond none (.seq (.reg 0 [] [] []) (.no)) (.no)))) (.seq (.reg 0 [] [] []) (.cond none (.seq (.reg 0 [] [] []) (.no)) (.no)))))) (.reg 0 [] [] []))))))) (.seq (.reg 0 [] [] []) (.no))))
noncomputable def sem_rule_Table (n : Nat) (xs : List V) : Option V := if xs.length ≤ 29 then denF Tryd.prog (envOf [(57, (sem_rule_Check n)), (68, (sem_slices_ContainsFunc_api_Table_api_Rule (envOf [(69, (sem_rule_Table_1 n))]) n)), (69, (sem_rule_Table_1 n))]) n Tryd.f37 an_rule_Table xs else none
theorem ok_rule_Table (n : Nat) : SemOk Tryd.prog DW 37 (sem_rule_Table n) := fun xs y h => by
  unfold sem_rule_Table at h
  split at h
  · rename_i hl
    exact denF_ok stb Tryd.func37 (by kernel_rfl) (envOf_ok (semsOk_cons (ok_rule_Check n) (semsOk_cons (ok_slices_ContainsFunc_api_Table_api_Rule (envOf_ok (semsOk_cons (ok_rule_Table_1 n) semsOk_nil)) n) (semsOk_cons (ok_rule_Table_1 n) semsOk_nil)))) (by rw [Tryd.ntmps37]; exact hl) h
  · cases h
theorem eq_rule_Table (n : Nat) (x0 : V) : sem_rule_Table n [x0] =
 (lenS [x0]).bind fun v1 =>
 (bin2 Tryd.prog BinOp.gtr 3 (ot 7) (oc 12) v1 (vi 12)).bind fun v2 =>
 condV v2 (
 (scal1 Tryd.prog (Instr.makeInterface 87) (vi 4)).bind fun v3 =>
 some v3) (
 (lenS [x0]).bind fun v4 =>
 JoinPt (fun vs5 =>
 some vn) fun J6 =>
 (fixN (fun rec7 vs8 =>
 (bin2 Tryd.prog BinOp.lss 3 (ot 12) (ot 11) (List.getD vs8 0 V.any) v4).bind fun v9 =>
 condV v9 (
 (idxS 6 x0 (List.getD vs8 0 V.any)).bind fun v10 =>
 (ldp (some 6) v10).bind fun v11 =>
 (spliceV [(vi 0), (vi 0), (vi 0), (vi 0), (vi 0), (vi 0)] 0 6 v11).bind fun v12 =>
 (ldp (some 6) (V.ptr (aggL v12))).bind fun v13 =>
 ((sem_rule_Check n) [v13]).bind fun v14 =>
 (bin2 Tryd.prog BinOp.neq 27 (ot 19) (Operand.const Go.Value.nilIface) v14 vn).bind fun v15 =>
 condV v15 (
 some v14) (
 (slc (some 6) x0 none (some (List.getD vs8 0 V.any))).bind fun v16 =>
 ((sem_slices_ContainsFunc_api_Table_api_Rule (envOf [(69, (sem_rule_Table_1 n))]) n) [v16, (V.fn 69 [(V.ptr (aggL v12))])]).bind fun v17 =>
 condV v17 (
 (scal1 Tryd.prog (Instr.makeInterface 87) (vi 7)).bind fun v18 =>
 some v18) (
 (bin2 Tryd.prog BinOp.add 3 (ot 12) (oc 1) (List.getD vs8 0 V.any) (vi 1)).bind fun v19 =>
 rec7 [v19]))) (
 J6 [])) n) [(vi 0)]) := by kernel_rfl
noncomputable def t_rule_Table (a0 : (List T_Rule)) : Option Int :=
 if (decide (12 < (List.length a0 : Int))) = true then (
 some 4) else (
 join (fun (s8 : Unit) =>
 some 0) fun j9 =>
 loopI a0 (fun (i17 : Int) x18 (s13 : Unit) k14 =>
 (t_rule_Check x18).bind fun r28 =>
 if (!decide (r28 = 0)) = true then (
 some r28) else (
 (slc_hi a0 i17).bind fun r32 =>
 (t_slices_ContainsFunc_api_Table_api_Rule r32 (fun (a33 : T_Rule) => t_rule_Table_1 a33 x18)).bind fun r35 =>
 if r35 = true then (
 some 7) else (
 k14 ()))) (fun (s13 : Unit) =>
 j9 ()) ())
theorem ty_rule_Table {n : Nat} (hn : bigN ≤ n) (a0 : (List T_Rule)) : Rv (fun x : Int => (eV x)) (sem_rule_Table n [(V.sl (List.map T_Rule.c a0))]) (t_rule_Table a0) := by
  rw [eq_rule_Table]
  unfold t_rule_Table
  refine tb (x := (vi (List.length a0 : Int))) (p_len _) ?_
  refine tb (x := (vb (decide (12 < (List.length a0 : Int))))) (d_gtr) ?_
  refine tcond (fun h3 => ?_) (fun h3 => ?_)
  · refine tb (x := (eV 4)) (p_mkE (by decide)) ?_
    exact rf_ret rfl
  · refine tb (x := (vi (List.length a0 : Int))) (p_len _) ?_
    refine tjoin (mk := fun s8 : Unit => []) (fun s8 => ?_) fun J7 j9 h10 => ?_
    · exact rf_ret rfl
    · refine rf_loopI (mk := fun (i17 : Int) (s13 : Unit) => [(vi (i17 : Int))]) hn a0 () (fun i17 x18 h19 h20 h21 s13 rec11 k14 h15 => ?_) (fun s13 rec40 h39 => ?_)
      · refine tb (x := (vb (decide ((i17 : Int) < (List.length a0 : Int))))) (d_lss) ?_
        refine tcond_t h21 ?_
        refine tb (x := (V.ptr (T_Rule.c x18))) (p_idx_at (c := T_Rule.c) (fun _ => rfl) h19) ?_
        refine tb (x := (T_Rule.e x18)) (rfl) ?_
        refine tb (x := V.agg (T_Rule.c x18)) (by kernel_rfl) ?_
        refine tb (x := (T_Rule.e x18)) (rfl) ?_
        refine tbo (ty_rule_Check hn x18) fun r28 => ?_
        refine tb (x := (vb (!decide (r28 = 0)))) (p_err_neq _) ?_
        refine tcond (fun h30 => ?_) (fun h30 => ?_)
        · exact rf_ret rfl
        · refine tbo (p_slc_hi (c := T_Rule.c) (fun _ => rfl) a0 (i17 : Int)) fun r32 => ?_
          refine tbo (ty_slices_ContainsFunc_api_Table_api_Rule (E := (envOf [(69, (sem_rule_Table_1 n))])) (x1 := (V.fn 69 [(V.ptr (T_Rule.c x18))])) (g1 := (fun (a33 : T_Rule) => t_rule_Table_1 a33 x18)) hn r32 (fun a33 => ty_rule_Table_1 hn a33 x18)) fun r35 => ?_
          refine tcond (fun h36 => ?_) (fun h36 => ?_)
          · refine tb (x := (eV 7)) (p_mkE (by decide)) ?_
            exact rf_ret rfl
          · refine tb (x := (vi ((i17 : Int) + 1))) (p_incN h20) ?_
            exact h15 ()
      · refine tb (x := (vb (decide ((List.length a0 : Int) < (List.length a0 : Int))))) (d_lss) ?_
        refine tcond_f h39 ?_
        exact h10 ()

/-! railpoint/agent.New -/
def an_agent_New : Ann := .seq (.reg 0 [] [] []) (.seq (.seq (.reg 0 [] [] []) (.cond none (.seq (.reg 0 [] [] []) (.no)) (.no))) (.seq (.seq (.reg 0 [] [] []) (.seq (.reg 0 [] [] []) (.cond none (.seq (.reg 0 [] [] []) (.no)) (.no)))) (.seq (.reg 0 [] [] [1000024, 25]) (.seq (.seq (.reg 0 [] [1062000025] []) (.blk (some [.o 7]) (.loop [.o 7, .s 26] (.seq (.reg 0 [] [] []) (.seq (.cond none (.no) (.no)) (.seq (.blk none (.seq (.reg 0 [] [] []) (.reg 0 [] [] [2000032]))) (.reg 0 [] [] []))))))) (.seq (.reg 0 [] [] []) (.no))))))
noncomputable def sem_agent_New (n : Nat) (xs : List V) : Option V := if xs.length ≤ 38 then denM Tryd.prog (envOf [(37, (sem_rule_Table n)), (38, (semClone 6))]) n Tryd.f8 an_agent_New [0, 0] (some 0) xs else none
theorem ok_agent_New (n : Nat) : MSemOk Tryd.prog DW 8 (sem_agent_New n) := fun xs y h => by
  unfold sem_agent_New at h
  split at h
  · rename_i hl
    exact denM_ok Tryd.func8 (by kernel_rfl) (envOf_ok (semsOk_cons (ok_rule_Table n) (semsOk_cons (sok_slices_Clone_api_Table_api_Rule) semsOk_nil))) (by rw [Tryd.ntmps8]; exact hl) (by decide) h
  · cases h
theorem eq_agent_New (n : Nat) (x0 x1 : V) : sem_agent_New n [x0, x1] =
 (pureO x0).bind fun v1 =>
 (pureO x1).bind fun v2 =>
 (bin2 Tryd.prog BinOp.lss 3 (ot 9) (oc 1) x0 (vi 1)).bind fun v3 =>
 (guardV v3 false (some x0)).bind fun v4 =>
 (guardV v3 false ((bin2 Tryd.prog BinOp.gtr 3 (ot 12) (oc 6) v4 (vi 6)).bind fun v5 =>
 some v5)).bind fun v6 =>
 (pickV v3 (vb true) v6).bind fun v7 =>
 condV v7 (
 (scal1 Tryd.prog (Instr.makeInterface 87) (vi 1)).bind fun v8 =>
 (pureO (V.lit (Go.Value.pointer none))).bind fun v9 =>
 (pureO v8).bind fun v10 =>
 some (V.tup [V.tup [v9, v10], V.any, V.any])) (
 ((sem_rule_Table n) [x1]).bind fun v11 =>
 (bin2 Tryd.prog BinOp.neq 27 (ot 18) (Operand.const Go.Value.nilIface) v11 vn).bind fun v12 =>
 condV v12 (
 (pureO (V.lit (Go.Value.pointer none))).bind fun v13 =>
 (pureO v11).bind fun v14 =>
 some (V.tup [V.tup [v13, v14], V.any, V.any])) (
 ((semClone 6) [x1]).bind fun v15 =>
 ((fillL [(vi 0), (V.lit (Go.Value.slice none 0 0)), (V.lit (Go.Value.map none)), (vi 0), (vb false), (V.lit (Go.Value.map none)), (vi 0), (vb false), (V.lit (Go.Value.map none)), (vi 0), (vb false), (V.lit (Go.Value.map none)), (vi 0), (vb false), (V.lit (Go.Value.map none)), (vi 0), (vb false), (V.lit (Go.Value.map none)), (vi 0), (vb false), (V.lit (Go.Value.map none)), (vi 0), (vb false), (V.lit (Go.Value.map none)), (vi 0), (vb false), (V.lit (Go.Value.map none)), (vi 0), (vb false), (V.lit (Go.Value.map none)), (vi 0), (vb false), (V.lit (Go.Value.map none)), (vi 0), (vb false), (V.lit (Go.Value.map none)), (vi 0), (vb false), (V.lit (Go.Value.map none)), (vi 0), (vb false), (V.lit (Go.Value.map none)), (vi 0), (vb false), (V.lit (Go.Value.map none)), (vi 0), (vb false), (V.lit (Go.Value.map none)), (vi 0), (vb false), (V.lit (Go.Value.map none)), (vi 0), (vb false), (V.lit (Go.Value.map none)), (vi 0), (vb false), (V.lit (Go.Value.map none)), (vi 0), (vb false), (V.lit (Go.Value.map none)), (vi 0), (vb false), (V.lit (Go.Value.slice none 0 0))] [(0, 1, x0), (1, 1, v15)]).map V.agg).bind fun v16 =>
 (V.cellsO v16).bind fun v17 =>
 (some (softX 1062000025 (V.obj v17))).bind fun v18 =>
 JoinPt (fun vs19 =>
 objK (List.getD vs19 0 V.any) fun l22 =>
 (pureO vn).bind fun v21 =>
 some (V.tup [V.tup [V.obj l22, v21], V.any, V.any])) fun J20 =>
 (fixN (fun rec23 vs24 =>
 (bin2 Tryd.prog BinOp.lss 3 (ot 26) (oc 20) (List.getD vs24 1 V.any) (vi 20)).bind fun v25 =>
 condV v25 (
 ((fillL [(V.lit (Go.Value.map none)), (vi 0), (vb false)] [(0, 1, (vb false)), (1, 1, (vi (-1 : Int)))]).map V.agg).bind fun v26 =>
 (aggC v26).bind fun c27 =>
 (some V.any).bind fun v28 =>
 (some V.any).bind fun v29 =>
 (inB 20 (List.getD vs24 1 V.any)).bind fun v30 =>
 (V.cellsO (V.agg (List.set c27 0 (V.mp [])))).bind fun v31 =>
 (setV (List.getD vs24 0 V.any) [] (Stp.mk none (2 + natOf (List.getD vs24 1 V.any) * 3) 0) 3 v31).bind fun v32 =>
 (bin2 Tryd.prog BinOp.add 3 (ot 26) (oc 1) (List.getD vs24 1 V.any) (vi 1)).bind fun v33 =>
 rec23 [v32, v33]) (
 J20 [(List.getD vs24 0 V.any)])) n) [v18, (vi 0)])) := by kernel_rfl

/-! railpoint/wire.Check -/
def an_wire_Check : Ann := .seq (.reg 0 [] [] []) (.seq (.seq (.reg 0 [] [] []) (.cond none (.seq (.reg 0 [] [] []) (.no)) (.no))) (.seq (.seq (.reg 0 [] [] []) (.cond none (.seq (.seq (.reg 0 [] [] []) (.cond none (.seq (.reg 0 [] [] []) (.no)) (.no))) (.seq (.reg 0 [] [] []) (.no))) (.no))) (.seq (.seq (.reg 0 [] [] []) (.seq (.reg 0 [] [] []) (.cond none (.seq (.reg 0 [] [] []) (.no)) (.no)))) (.seq (.seq (.reg 0 [] [] []) (.cond none (.seq (.reg 0 [] [] []) (.no)) (.no))) (.seq (.reg 0 [] [] []) (.no))))))
noncomputable def sem_wire_Check (n : Nat) (xs : List V) : Option V := if xs.length ≤ 75 then denF Tryd.prog (envOf [(57, (sem_rule_Check n))]) n Tryd.f40 an_wire_Check xs else none
theorem ok_wire_Check (n : Nat) : SemOk Tryd.prog DW 40 (sem_wire_Check n) := fun xs y h => by
  unfold sem_wire_Check at h
  split at h
  · rename_i hl
    exact denF_ok stb Tryd.func40 (by kernel_rfl) (envOf_ok (semsOk_cons (ok_rule_Check n) semsOk_nil)) (by rw [Tryd.ntmps40]; exact hl) h
  · cases h
theorem eq_wire_Check (n : Nat) (x0 : V) : sem_wire_Check n [x0] =
 (V.cellsO x0).bind fun v1 =>
 (ldk none (List.drop 0 v1)).bind fun v2 =>
 (bin2 Tryd.prog BinOp.lss 3 (ot 5) (oc 1) v2 (vi 1)).bind fun v3 =>
 (guardV v3 false (some V.any)).bind fun v4 =>
 (guardV v3 false ((gate v3 false (ldk none (List.drop 0 v1))).bind fun v5 =>
 some v5)).bind fun v6 =>
 (guardV v3 false ((bin2 Tryd.prog BinOp.gtr 3 (ot 9) (oc 3) v6 (vi 3)).bind fun v7 =>
 some v7)).bind fun v8 =>
 (pickV v3 (vb true) v8).bind fun v9 =>
 (guardV v9 false (some V.any)).bind fun v10 =>
 (guardV v9 false ((gate v9 false (ldk none (List.drop 1 v1))).bind fun v11 =>
 some v11)).bind fun v12 =>
 (guardV v9 false ((bin2 Tryd.prog BinOp.lss 3 (ot 14) (oc 1) v12 (vi 1)).bind fun v13 =>
 some v13)).bind fun v14 =>
 (pickV v9 (vb true) v14).bind fun v15 =>
 (guardV v15 false (some V.any)).bind fun v16 =>
 (guardV v15 false ((gate v15 false (ldk none (List.drop 1 v1))).bind fun v17 =>
 some v17)).bind fun v18 =>
 (guardV v15 false ((bin2 Tryd.prog BinOp.gtr 3 (ot 19) (oc 6) v18 (vi 6)).bind fun v19 =>
 some v19)).bind fun v20 =>
 (pickV v15 (vb true) v20).bind fun v21 =>
 (guardV v21 false (some V.any)).bind fun v22 =>
 (guardV v21 false ((gate v21 false (ldk none (List.drop 2 v1))).bind fun v23 =>
 some v23)).bind fun v24 =>
 (guardV v21 false ((bin2 Tryd.prog BinOp.lss 3 (ot 24) (oc 0) v24 (vi 0)).bind fun v25 =>
 some v25)).bind fun v26 =>
 (pickV v21 (vb true) v26).bind fun v27 =>
 (guardV v27 false (some V.any)).bind fun v28 =>
 (guardV v27 false ((gate v27 false (ldk none (List.drop 2 v1))).bind fun v29 =>
 some v29)).bind fun v30 =>
 (guardV v27 false ((bin2 Tryd.prog BinOp.geq 3 (ot 29) (oc 20) v30 (vi 20)).bind fun v31 =>
 some v31)).bind fun v32 =>
 (pickV v27 (vb true) v32).bind fun v33 =>
 (guardV v33 false (some V.any)).bind fun v34 =>
 (guardV v33 false ((gate v33 false (ldk none (List.drop 3 v1))).bind fun v35 =>
 some v35)).bind fun v36 =>
 (guardV v33 false ((bin2 Tryd.prog BinOp.lss 3 (ot 34) (oc 0) v36 (vi 0)).bind fun v37 =>
 some v37)).bind fun v38 =>
 (pickV v33 (vb true) v38).bind fun v39 =>
 (guardV v39 false (some V.any)).bind fun v40 =>
 (guardV v39 false ((gate v39 false (ldk none (List.drop 3 v1))).bind fun v41 =>
 some v41)).bind fun v42 =>
 (guardV v39 false ((bin2 Tryd.prog BinOp.gtr 3 (ot 39) (oc 200) v42 (vi 200)).bind fun v43 =>
 some v43)).bind fun v44 =>
 (pickV v39 (vb true) v44).bind fun v45 =>
 condV v45 (
 (scal1 Tryd.prog (Instr.makeInterface 87) (vi 1)).bind fun v46 =>
 some v46) (
 (ldk none (List.drop 0 v1)).bind fun v47 =>
 (bin2 Tryd.prog BinOp.neq 3 (ot 44) (oc 1) v47 (vi 1)).bind fun v48 =>
 condV v48 (
 (ldk (some 8) (List.drop 4 v1)).bind fun v49 =>
 ((fillL [(vi 0), (vb false), (vi 0), (vi 0), (vi 0), (vi 0), (vi 0), (vi 0)] []).map V.agg).bind fun v50 =>
 (bin2 Tryd.prog BinOp.neq 37 (ot 47) (ot 48) v49 v50).bind fun v51 =>
 (guardV v51 false (some V.any)).bind fun v52 =>
 (guardV v51 false ((gate v51 false (ldk none (List.drop 0 v1))).bind fun v53 =>
 some v53)).bind fun v54 =>
 (guardV v51 false ((bin2 Tryd.prog BinOp.eql 3 (ot 52) (oc 3) v54 (vi 3)).bind fun v55 =>
 some v55)).bind fun v56 =>
 (guardV v51 false (some v56)).bind fun v57 =>
 (guardV v57 true (some V.any)).bind fun v58 =>
 (guardV v57 true ((gate v57 true (ldk none (List.drop 3 v1))).bind fun v59 =>
 some v59)).bind fun v60 =>
 (guardV v57 true ((bin2 Tryd.prog BinOp.neq 3 (ot 56) (oc 0) v60 (vi 0)).bind fun v61 =>
 some v61)).bind fun v62 =>
 (guardV v51 false ((pickV v57 v62 (vb false)).bind fun v63 =>
 some v63)).bind fun v64 =>
 (pickV v51 (vb true) v64).bind fun v65 =>
 condV v65 (
 (scal1 Tryd.prog (Instr.makeInterface 87) (vi 3)).bind fun v66 =>
 some v66) (
 some vn)) (
 (ldk (some 6) (List.drop 6 v1)).bind fun v67 =>
 ((sem_rule_Check n) [v67]).bind fun v68 =>
 (bin2 Tryd.prog BinOp.neq 27 (ot 65) (Operand.const Go.Value.nilIface) v68 vn).bind fun v69 =>
 condV v69 (
 some v68) (
 (ldk none (List.drop 4 v1)).bind fun v70 =>
 (ldk none (List.drop 1 v1)).bind fun v71 =>
 (bin2 Tryd.prog BinOp.neq 3 (ot 70) (ot 72) v70 v71).bind fun v72 =>
 condV v72 (
 (scal1 Tryd.prog (Instr.makeInterface 87) (vi 3)).bind fun v73 =>
 some v73) (
 some vn)))) := by kernel_rfl
noncomputable def t_wire_Check (a0 : T_Msg) : Option Int :=
 (some ((((((decide (a0.Kind < 1)) || (decide (3 < a0.Kind))) || (decide (a0.Switch < 1))) || (decide (6 < a0.Switch))) || (decide (a0.Round < 0))) || (decide (20 ≤ a0.Round)))).bind fun r49 =>
 if ((r49 || (decide (a0.Index < 0))) || (decide (200 < a0.Index))) = true then (
 some 1) else (
 if (decide (a0.Kind ≠ 1)) = true then (
 if ((!decide (a0.Op = (T_Op.mk 0 false (T_Rule.mk 0 (T_Cube.mk 0 0) 0 0 0)))) || ((decide (a0.Kind = 3)) && (decide (a0.Index ≠ 0)))) = true then (
 some 3) else (
 some 0)) else (
 (t_rule_Check a0.Op.Rule).bind fun r102 =>
 if (!decide (r102 = 0)) = true then (
 some r102) else (
 if (decide (a0.Op.Switch ≠ a0.Switch)) = true then (
 some 3) else (
 some 0))))
theorem ty_wire_Check {n : Nat} (hn : bigN ≤ n) (a0 : T_Msg) : Rv (fun x : Int => (eV x)) (sem_wire_Check n [(T_Msg.e a0)]) (t_wire_Check a0) := by
  rw [eq_wire_Check]
  unfold t_wire_Check
  refine tb (x := (T_Msg.c a0)) rfl ?_
  refine tb (x := (vi a0.Kind)) (rfl) ?_
  refine tb (x := (vb (decide (a0.Kind < 1)))) (d_lss) ?_
  refine tg_f (x := V.any) (fun h4 => rfl) ?_
  refine tg_f (x := (vi a0.Kind)) (fun h6 => bind_some_eq (gate_pos (not_t h6) (rfl))) ?_
  refine tg_f (x := (vb (decide (3 < a0.Kind)))) (fun h9 => by simp only [gv_t h9]; exact bind_some_eq (d_gtr)) ?_
  refine tb (x := (vb ((decide (a0.Kind < 1)) || (decide (3 < a0.Kind))))) (pick_or (fun h9 => gv_t (not_f h9))) ?_
  refine tg_f (x := V.any) (fun h13 => rfl) ?_
  refine tg_f (x := (vi a0.Switch)) (fun h15 => bind_some_eq (gate_pos (not_t h15) (rfl))) ?_
  refine tg_f (x := (vb (decide (a0.Switch < 1)))) (fun h18 => by simp only [gv_t h18]; exact bind_some_eq (d_lss)) ?_
  refine tb (x := (vb (((decide (a0.Kind < 1)) || (decide (3 < a0.Kind))) || (decide (a0.Switch < 1))))) (pick_or (fun h9 => gv_t (not_f h9))) ?_
  refine tg_f (x := V.any) (fun h22 => rfl) ?_
  refine tg_f (x := (vi a0.Switch)) (fun h24 => bind_some_eq (gate_pos (not_t h24) (rfl))) ?_
  refine tg_f (x := (vb (decide (6 < a0.Switch)))) (fun h27 => by simp only [gv_t h27]; exact bind_some_eq (d_gtr)) ?_
  refine tb (x := (vb ((((decide (a0.Kind < 1)) || (decide (3 < a0.Kind))) || (decide (a0.Switch < 1))) || (decide (6 < a0.Switch))))) (pick_or (fun h9 => gv_t (not_f h9))) ?_
  refine tg_f (x := V.any) (fun h31 => rfl) ?_
  refine tg_f (x := (vi a0.Round)) (fun h33 => bind_some_eq (gate_pos (not_t h33) (rfl))) ?_
  refine tg_f (x := (vb (decide (a0.Round < 0)))) (fun h36 => by simp only [gv_t h36]; exact bind_some_eq (d_lss)) ?_
  refine tb (x := (vb (((((decide (a0.Kind < 1)) || (decide (3 < a0.Kind))) || (decide (a0.Switch < 1))) || (decide (6 < a0.Switch))) || (decide (a0.Round < 0))))) (pick_or (fun h9 => gv_t (not_f h9))) ?_
  refine tg_f (x := V.any) (fun h40 => rfl) ?_
  refine tg_f (x := (vi a0.Round)) (fun h42 => bind_some_eq (gate_pos (not_t h42) (rfl))) ?_
  refine tg_f (x := (vb (decide (20 ≤ a0.Round)))) (fun h45 => by simp only [gv_t h45]; exact bind_some_eq (d_geq)) ?_
  refine tbo (e1 := fun x : Bool => (vb x)) (rf_eq (pick_or (fun h9 => gv_t (not_f h9))) rfl) fun r49 => ?_
  refine tg_f (x := V.any) (fun h50 => rfl) ?_
  refine tg_f (x := (vi a0.Index)) (fun h52 => bind_some_eq (gate_pos (not_t h52) (rfl))) ?_
  refine tg_f (x := (vb (decide (a0.Index < 0)))) (fun h55 => by simp only [gv_t h55]; exact bind_some_eq (d_lss)) ?_
  refine tb (x := (vb (r49 || (decide (a0.Index < 0))))) (pick_or (fun h9 => gv_t (not_f h9))) ?_
  refine tg_f (x := V.any) (fun h59 => rfl) ?_
  refine tg_f (x := (vi a0.Index)) (fun h61 => bind_some_eq (gate_pos (not_t h61) (rfl))) ?_
  refine tg_f (x := (vb (decide (200 < a0.Index)))) (fun h64 => by simp only [gv_t h64]; exact bind_some_eq (d_gtr)) ?_
  refine tb (x := (vb ((r49 || (decide (a0.Index < 0))) || (decide (200 < a0.Index))))) (pick_or (fun h9 => gv_t (not_f h9))) ?_
  refine tcond (fun h68 => ?_) (fun h68 => ?_)
  · refine tb (x := (eV 1)) (p_mkE (by decide)) ?_
    exact rf_ret rfl
  · refine tb (x := (vi a0.Kind)) (rfl) ?_
    refine tb (x := (vb (decide (a0.Kind ≠ 1)))) (d_neq) ?_
    refine tcond (fun h72 => ?_) (fun h72 => ?_)
    · refine tb (x := (T_Op.e a0.Op)) (rfl) ?_
      refine tb (x := (T_Op.e (T_Op.mk 0 false (T_Rule.mk 0 (T_Cube.mk 0 0) 0 0 0)))) (by kernel_rfl) ?_
      refine tb (x := (vb (!decide (a0.Op = (T_Op.mk 0 false (T_Rule.mk 0 (T_Cube.mk 0 0) 0 0 0)))))) (T_Op.neq a0.Op (T_Op.mk 0 false (T_Rule.mk 0 (T_Cube.mk 0 0) 0 0 0))) ?_
      refine tg_f (x := V.any) (fun h76 => rfl) ?_
      refine tg_f (x := (vi a0.Kind)) (fun h78 => bind_some_eq (gate_pos (not_t h78) (rfl))) ?_
      refine tg_f (x := (vb (decide (a0.Kind = 3)))) (fun h81 => by simp only [gv_t h81]; exact bind_some_eq (d_eql)) ?_
      refine tg_f (x := (vb (decide (a0.Kind = 3)))) (fun h84 => congrArg some (gv_t h84)) ?_
      refine tg2 (x := V.any) (fun h86 => rfl) ?_
      refine tg2 (x := (vi a0.Index)) (fun h88 => bind_some_eq (gate_pos2 (and_l h88) (and_r h88) (rfl))) ?_
      refine tg2 (x := (vb (decide (a0.Index ≠ 0)))) (fun h91 => by simp only [gv_t h91]; exact bind_some_eq (d_neq)) ?_
      refine tg_f (x := (vb ((decide (a0.Kind = 3)) && (decide (a0.Index ≠ 0))))) (fun h94 => by simp only [gv_t h94]; exact bind_some_eq (pick_and (fun h9 => gv_t (and_i h94 h9)))) ?_
      refine tb (x := (vb ((!decide (a0.Op = (T_Op.mk 0 false (T_Rule.mk 0 (T_Cube.mk 0 0) 0 0 0)))) || ((decide (a0.Kind = 3)) && (decide (a0.Index ≠ 0)))))) (pick_or (fun h9 => gv_t (not_f h9))) ?_
      refine tcond (fun h98 => ?_) (fun h98 => ?_)
      · refine tb (x := (eV 3)) (p_mkE (by decide)) ?_
        exact rf_ret rfl
      · exact rf_ret rfl
    · refine tb (x := (T_Rule.e a0.Op.Rule)) (rfl) ?_
      refine tbo (ty_rule_Check hn a0.Op.Rule) fun r102 => ?_
      refine tb (x := (vb (!decide (r102 = 0)))) (p_err_neq _) ?_
      refine tcond (fun h104 => ?_) (fun h104 => ?_)
      · exact rf_ret rfl
      · refine tb (x := (vi a0.Op.Switch)) (rfl) ?_
        refine tb (x := (vi a0.Switch)) (rfl) ?_
        refine tb (x := (vb (decide (a0.Op.Switch ≠ a0.Switch)))) (d_neq) ?_
        refine tcond (fun h108 => ?_) (fun h108 => ?_)
        · refine tb (x := (eV 3)) (p_mkE (by decide)) ?_
          exact rf_ret rfl
        · exact rf_ret rfl

/-!   railpoint/agent.Agent .yes -/
def an_agent_Agent_yes : Ann := .seq (.reg 0 [] [] []) (.seq (.reg 0 [] [] [11]) (.no))
noncomputable def sem_agent_Agent_yes (n : Nat) (xs : List V) : Option V := if xs.length ≤ 12 then denFR Tryd.prog (envOf []) n Tryd.f41 an_agent_Agent_yes 39 xs else none
theorem ok_agent_Agent_yes (n : Nat) : RSemOk Tryd.prog DW 41 39 (sem_agent_Agent_yes n) := fun xs y h => by
  unfold sem_agent_Agent_yes at h
  split at h
  · rename_i hl
    exact denFR_ok stb Tryd.func41 (by kernel_rfl) (envOf_ok semsOk_nil) (by rw [Tryd.ntmps41]; exact hl) h
  · cases h
theorem eq_agent_Agent_yes (n : Nat) (x0 x1 : V) : sem_agent_Agent_yes n [x0, x1] =
 (ptrF 0 x0).bind fun v1 =>
 (ptrF 0 v1).bind fun v2 =>
 (ldp none v2).bind fun v3 =>
 ((fillL [(vi 0), (vi 0), (vi 0), (vi 0), (vi 0), (vb false), (vi 0), (vi 0), (vi 0), (vi 0), (vi 0), (vi 0)] [(0, 1, (vi 3)), (1, 1, v3), (2, 1, x1)]).map V.agg).bind fun v4 =>
 (slcB 12 1 [(vi 0), (vi 0), (vi 0), (vi 0), (vi 0), (vb false), (vi 0), (vi 0), (vi 0), (vi 0), (vi 0), (vi 0)] [(0, v4)]).bind fun v5 =>
 some (V.sl (slL v5)) := by kernel_rfl

/-!   railpoint/agent.Agent .Hear -/
def an_agent_Agent_Hear : Ann := .seq (.reg 0 [] [] []) (.seq (.seq (.reg 0 [] [] []) (.seq (.reg 0 [] [] []) (.cond none (.seq (.reg 0 [] [] []) (.no)) (.no)))) (.seq (.blk none (.seq (.reg 8 [] [] []) (.cond none (.seq (.reg 0 [] [] []) (.no)) (.seq (.reg 0 [] [] []) (.cond none (.seq (.reg 0 [] [] []) (.no)) (.no)))))) (.seq (.reg 7 [] [] []) (.seq (.blk none (.seq (.reg 0 [] [] []) (.cond none (.seq (.reg 0 [] [] [2000068, 3000068]) (.no)) (.seq (.reg 0 [] [] []) (.cond (some [.o 0]) (.no) (.seq (.reg 0 [] [] []) (.cond (some [.o 0]) (.seq (.reg 0 [] [] []) (.cond (some [.o 0]) (.reg 0 [] [] []) (.no))) (.seq (.reg 11 [] [] [39]) (.seq (.reg 0 [] [] []) (.cond (some [.o 0]) (.reg 8 [] [] [50]) (.no))))))))))) (.seq (.reg 0 [] [] []) (.no))))))
noncomputable def sem_agent_Agent_Hear (n : Nat) (xs : List V) : Option V := if xs.length ≤ 88 then denM Tryd.prog (envOf [(40, (sem_wire_Check n)), (41 + 1000000 * (39 + 2), (sem_agent_Agent_yes n))]) n Tryd.f11 an_agent_Agent_Hear [2, 0] none xs else none
theorem ok_agent_Agent_Hear (n : Nat) : MSemOk Tryd.prog DW 11 (sem_agent_Agent_Hear n) := fun xs y h => by
  unfold sem_agent_Agent_Hear at h
  split at h
  · rename_i hl
    exact denM_ok Tryd.func11 (by kernel_rfl) (envOf_ok (semsOk_cons (ok_wire_Check n) (semsOk_consR (ok_agent_Agent_yes n) semsOk_nil))) (by rw [Tryd.ntmps11]; exact hl) (by decide) h
  · cases h
theorem eq_agent_Agent_Hear (n : Nat) (x0 x1 : V) : sem_agent_Agent_Hear n [x0, x1] =
 (objG x0).bind fun v1 =>
 (pureO x1).bind fun v2 =>
 (V.cellsO x1).bind fun v3 =>
 (ldk (some 12) (List.drop 0 v3)).bind fun v4 =>
 ((sem_wire_Check n) [v4]).bind fun v5 =>
 (bin2 Tryd.prog BinOp.neq 27 (ot 12) (Operand.const Go.Value.nilIface) v5 vn).bind fun v6 =>
 condV v6 (
 some (V.tup [(V.tup [(V.sl []), v5]), x0, V.any])) (
 (ldk none (List.drop 1 v3)).bind fun v7 =>
 (some V.any).bind fun v8 =>
 (some V.any).bind fun v9 =>
 ((nodeL x0 none 0).bind fun l10 => (ldk none (List.drop 0 l10)).bind pureO).bind fun v11 =>
 (bin2 Tryd.prog BinOp.neq 3 (ot 17) (ot 21) v7 v11).bind fun v12 =>
 condV v12 (
 (scal1 Tryd.prog (Instr.makeInterface 87) (vi 5)).bind fun v13 =>
 some (V.tup [(V.tup [(V.sl []), v13]), x0, V.any])) (
 (ldk none (List.drop 0 v3)).bind fun v14 =>
 (bin2 Tryd.prog BinOp.eql 3 (ot 26) (oc 3) v14 (vi 3)).bind fun v15 =>
 condV v15 (
 (scal1 Tryd.prog (Instr.makeInterface 87) (vi 6)).bind fun v16 =>
 some (V.tup [(V.tup [(V.sl []), v16]), x0, V.any])) (
 (ldk none (List.drop 2 v3)).bind fun v17 =>
 (some V.any).bind fun v18 =>
 (some V.any).bind fun v19 =>
 (inB 20 v17).bind fun v20 =>
 (some V.any).bind fun v21 =>
 (some V.any).bind fun v22 =>
 ((nodeL x0 none 0).bind fun l23 => (ldk none (List.drop ((2 + natOf v17 * 3) + 2) l23)).bind pureO).bind fun v24 =>
 (guardV v24 true (some V.any)).bind fun v25 =>
 (guardV v24 true ((gate v24 true (ldk none (List.drop 0 v3))).bind fun v26 =>
 some v26)).bind fun v27 =>
 (guardV v24 true ((bin2 Tryd.prog BinOp.eql 3 (ot 62) (oc 2) v27 (vi 2)).bind fun v28 =>
 some v28)).bind fun v29 =>
 (pickV v24 v29 (vb false)).bind fun v30 =>
 condV v30 (
 (ldk none (List.drop 2 v3)).bind fun v31 =>
 (some (frzQ x0)).bind fun v32 =>
 ((sem_agent_Agent_yes n) [v32, v31]).bind fun v34 =>
 (flatQ v34).bind fun v33 =>
 some (V.tup [(V.tup [v33, vn]), x0, V.any])) (
 (some V.any).bind fun v35 =>
 (some V.any).bind fun v36 =>
 ((nodeL x0 none 0).bind fun l37 => (ldk none (List.drop ((2 + natOf v17 * 3) + 2) l37)).bind pureO).bind fun v38 =>
 JoinPt (fun vs39 =>
 some (V.tup [(V.tup [(V.sl []), vn]), (List.getD vs39 0 V.any), V.any])) fun J40 =>
 condV v38 (
 J40 [x0]) (
 (ldk none (List.drop 0 v3)).bind fun v41 =>
 (bin2 Tryd.prog BinOp.eql 3 (ot 76) (oc 2) v41 (vi 2)).bind fun v42 =>
 JoinPt (fun vs43 =>
 J40 [(List.getD vs43 0 V.any)]) fun J44 =>
 condV v42 (
 (some V.any).bind fun v45 =>
 (some V.any).bind fun v46 =>
 ((nodeL x0 none 0).bind fun l47 => (ldk none (List.drop ((2 + natOf v17 * 3) + 1) l47)).bind pureO).bind fun v48 =>
 (bin2 Tryd.prog BinOp.lss 3 (ot 81) (oc 0) v48 (vi 0)).bind fun v49 =>
 JoinPt (fun vs50 =>
 J44 [(List.getD vs50 0 V.any)]) fun J51 =>
 condV v49 (
 (ldk none (List.drop 3 v3)).bind fun v52 =>
 (some V.any).bind fun v53 =>
 (some V.any).bind fun v54 =>
 (V.cellsO v52).bind fun v55 =>
 (setV x0 [] (Stp.mk none ((2 + natOf v17 * 3) + 1) 0) 1 v55).bind fun v56 =>
 J51 [v56]) (
 J51 [x0])) (
 (some V.any).bind fun v57 =>
 (some V.any).bind fun v58 =>
 ((nodeL x0 none 0).bind fun l59 => (l59[(2 + natOf v17 * 3)]?).bind ownO).bind fun v60 =>
 (ldk none (List.drop 3 v3)).bind fun v61 =>
 ((getV x0 [(Stp.mk none (2 + natOf v17 * 3) 0)]).bind fun v62 => lookV Tryd.prog 90 true v62 v61).bind fun v63 =>
 (extractV v63 0).bind fun v64 =>
 (extractV v63 1).bind fun v65 =>
 (spliceV [(vi 0), (vb false), (vi 0), (vi 0), (vi 0), (vi 0), (vi 0), (vi 0)] 0 8 v64).bind fun v66 =>
 (scal1 Tryd.prog (Op.unary Go.UnOp.not) v65).bind fun v67 =>
 JoinPt (fun vs68 =>
 J44 [(List.getD vs68 0 V.any)]) fun J69 =>
 condV v67 (
 (some V.any).bind fun v70 =>
 (some V.any).bind fun v71 =>
 ((nodeL x0 none 0).bind fun l72 => (l72[(2 + natOf v17 * 3)]?).bind ownO).bind fun v73 =>
 (ldk none (List.drop 3 v3)).bind fun v74 =>
 (ldk (some 8) (List.drop 4 v3)).bind fun v75 =>
 (getV x0 [(Stp.mk none (2 + natOf v17 * 3) 0)]).bind fun v76 =>
 (putV Tryd.prog 90 v76 v74 v75).bind fun v77 =>
 (modX x0 [] (Stp.mk none (2 + natOf v17 * 3) 0) v77).bind fun v78 =>
 J69 [v78]) (
 J69 [x0]))))))) := by kernel_rfl

/-!   railpoint/agent.Agent .Table -/
def an_agent_Agent_Table : Ann := .seq (.reg 0 [] [] []) (.seq (.reg 0 [] [] [1000007]) (.no))
noncomputable def sem_agent_Agent_Table (n : Nat) (xs : List V) : Option V := if xs.length ≤ 8 then denFR Tryd.prog (envOf [(38 + 1000000 * (35 + 2), (semClone 6))]) n Tryd.f14 an_agent_Agent_Table 35 xs else none
theorem ok_agent_Agent_Table (n : Nat) : RSemOk Tryd.prog DW 14 35 (sem_agent_Agent_Table n) := fun xs y h => by
  unfold sem_agent_Agent_Table at h
  split at h
  · rename_i hl
    exact denFR_ok stb Tryd.func14 (by kernel_rfl) (envOf_ok (semsOk_consR (rok_slices_Clone_api_Table_api_Rule) semsOk_nil)) (by rw [Tryd.ntmps14]; exact hl) h
  · cases h
theorem eq_agent_Agent_Table (n : Nat) (x0 : V) : sem_agent_Agent_Table n [x0] =
 (ptrF 0 x0).bind fun v1 =>
 (ptrF 1 v1).bind fun v2 =>
 (ldp none v2).bind fun v3 =>
 ((semClone 6) [v3]).bind fun v4 =>
 some (V.sl (slL3 v4)) := by kernel_rfl

/-!   railpoint/agent.Agent .Done -/
def an_agent_Agent_Done : Ann := .seq (.reg 0 [] [] []) (.seq (.reg 0 [] [] [1000007]) (.no))
noncomputable def sem_agent_Agent_Done (n : Nat) (xs : List V) : Option V := if xs.length ≤ 8 then denFR Tryd.prog (envOf [(42 + 1000000 * (3 + 2), (semClone 1))]) n Tryd.f15 an_agent_Agent_Done 3 xs else none
theorem ok_agent_Agent_Done (n : Nat) : RSemOk Tryd.prog DW 15 3 (sem_agent_Agent_Done n) := fun xs y h => by
  unfold sem_agent_Agent_Done at h
  split at h
  · rename_i hl
    exact denFR_ok stb Tryd.func15 (by kernel_rfl) (envOf_ok (semsOk_consR (rok_slices_Clone_int_int) semsOk_nil)) (by rw [Tryd.ntmps15]; exact hl) h
  · cases h
theorem eq_agent_Agent_Done (n : Nat) (x0 : V) : sem_agent_Agent_Done n [x0] =
 (ptrF 0 x0).bind fun v1 =>
 (ptrF 62 v1).bind fun v2 =>
 (ldp none v2).bind fun v3 =>
 ((semClone 1) [v3]).bind fun v4 =>
 some (V.sl (slL3 v4)) := by kernel_rfl

/-! railpoint/railref1.Header -/
def an_railref1_Header : Ann := .seq (.reg 0 [] [] []) (.seq (.reg 0 [] [] []) (.no))
noncomputable def sem_railref1_Header (n : Nat) (xs : List V) : Option V := if xs.length ≤ 9 then denF Tryd.prog (envOf []) n Tryd.f72 an_railref1_Header xs else none
theorem ok_railref1_Header (n : Nat) : SemOk Tryd.prog DW 72 (sem_railref1_Header n) := fun xs y h => by
  unfold sem_railref1_Header at h
  split at h
  · rename_i hl
    exact denF_ok stb Tryd.func72 (by kernel_rfl) (envOf_ok semsOk_nil) (by rw [Tryd.ntmps72]; exact hl) h
  · cases h
theorem eq_railref1_Header (n : Nat) (x0 : V) : sem_railref1_Header n [x0] =
 (bin2 Tryd.prog BinOp.geq 3 (ot 3) (oc 0) x0 (vi 0)).bind fun v1 =>
 (guardV v1 true (some x0)).bind fun v2 =>
 (guardV v1 true ((bin2 Tryd.prog BinOp.lss 3 (ot 6) (oc 16) v2 (vi 16)).bind fun v3 =>
 some v3)).bind fun v4 =>
 (pickV v1 v4 (vb false)).bind fun v5 =>
 some v5 := by kernel_rfl
noncomputable def t_railref1_Header (a0 : Int) : Option Bool :=
 some ((decide (0 ≤ a0)) && (decide (a0 < 16)))
theorem ty_railref1_Header {n : Nat} (hn : bigN ≤ n) (a0 : Int) : Rv (fun x : Bool => (vb x)) (sem_railref1_Header n [(vi a0)]) (t_railref1_Header a0) := by
  rw [eq_railref1_Header]
  unfold t_railref1_Header
  refine tb (x := (vb (decide (0 ≤ a0)))) (d_geq) ?_
  refine tg (x := (vi a0)) (fun h2 => rfl) ?_
  refine tg (x := (vb (decide (a0 < 16)))) (fun h4 => by simp only [gv_t h4]; exact bind_some_eq (d_lss)) ?_
  refine tb (x := (vb ((decide (0 ≤ a0)) && (decide (a0 < 16))))) (pick_and (fun h9 => gv_t h9)) ?_
  exact rf_ret rfl

/-! railpoint/railref1.Cube -/
def an_railref1_Cube : Ann := .seq (.reg 0 [] [] []) (.seq (.reg 0 [] [] []) (.seq (.reg 0 [] [] []) (.seq (.seq (.reg 0 [] [] []) (.cond none (.seq (.reg 0 [] [] []) (.no)) (.no))) (.seq (.seq (.reg 0 [] [] []) (.cond none (.seq (.reg 0 [] [] []) (.no)) (.no))) (.seq (.reg 0 [] [] []) (.no))))))
noncomputable def sem_railref1_Cube (n : Nat) (xs : List V) : Option V := if xs.length ≤ 25 then denF Tryd.prog (envOf [(72, (sem_railref1_Header n))]) n Tryd.f73 an_railref1_Cube xs else none
theorem ok_railref1_Cube (n : Nat) : SemOk Tryd.prog DW 73 (sem_railref1_Cube n) := fun xs y h => by
  unfold sem_railref1_Cube at h
  split at h
  · rename_i hl
    exact denF_ok stb Tryd.func73 (by kernel_rfl) (envOf_ok (semsOk_cons (ok_railref1_Header n) semsOk_nil)) (by rw [Tryd.ntmps73]; exact hl) h
  · cases h
theorem eq_railref1_Cube (n : Nat) (x0 : V) : sem_railref1_Cube n [x0] =
 (V.cellsO x0).bind fun v1 =>
 (ldk none (List.drop 0 v1)).bind fun v2 =>
 ((sem_railref1_Header n) [v2]).bind fun v3 =>
 (ldk none (List.drop 1 v1)).bind fun v4 =>
 ((sem_railref1_Header n) [v4]).bind fun v5 =>
 (scal1 Tryd.prog (Op.unary Go.UnOp.not) v3).bind fun v6 =>
 (guardV v6 false (some v5)).bind fun v7 =>
 (guardV v6 false ((scal1 Tryd.prog (Op.unary Go.UnOp.not) v7).bind fun v8 =>
 some v8)).bind fun v9 =>
 (pickV v6 (vb true) v9).bind fun v10 =>
 condV v10 (
 some (vi 1)) (
 (ldk none (List.drop 1 v1)).bind fun v11 =>
 (ldk none (List.drop 0 v1)).bind fun v12 =>
 (bin2 Tryd.prog BinOp.and 3 (ot 18) (ot 20) v11 v12).bind fun v13 =>
 (ldk none (List.drop 1 v1)).bind fun v14 =>
 (bin2 Tryd.prog BinOp.neq 3 (ot 21) (ot 23) v13 v14).bind fun v15 =>
 condV v15 (
 some (vi 3)) (
 some (vi 0))) := by kernel_rfl
noncomputable def t_railref1_Cube (a0 : T_Cube) : Option Int :=
 (t_railref1_Header a0.Mask).bind fun r4 =>
 (t_railref1_Header a0.Bits).bind fun r7 =>
 if ((!r4) || (!r7)) = true then (
 some 1) else (
 if (decide ((bits .and .i64 a0.Bits a0.Mask) ≠ a0.Bits)) = true then (
 some 3) else (
 some 0))
theorem ty_railref1_Cube {n : Nat} (hn : bigN ≤ n) (a0 : T_Cube) : Rv (fun x : Int => (vi x)) (sem_railref1_Cube n [(T_Cube.e a0)]) (t_railref1_Cube a0) := by
  rw [eq_railref1_Cube]
  unfold t_railref1_Cube
  refine tb (x := (T_Cube.c a0)) rfl ?_
  refine tb (x := (vi a0.Mask)) (rfl) ?_
  refine tbo (ty_railref1_Header hn a0.Mask) fun r4 => ?_
  refine tb (x := (vi a0.Bits)) (rfl) ?_
  refine tbo (ty_railref1_Header hn a0.Bits) fun r7 => ?_
  refine tb (x := (vb (!r4))) (d_not) ?_
  refine tg_f (x := (vb r7)) (fun h9 => rfl) ?_
  refine tg_f (x := (vb (!r7))) (fun h11 => by simp only [gv_t h11]; exact bind_some_eq (d_not)) ?_
  refine tb (x := (vb ((!r4) || (!r7)))) (pick_or (fun h9 => gv_t (not_f h9))) ?_
  refine tcond (fun h15 => ?_) (fun h15 => ?_)
  · exact rf_ret rfl
  · refine tb (x := (vi a0.Bits)) (rfl) ?_
    refine tb (x := (vi a0.Mask)) (rfl) ?_
    refine tb (x := (vi (bits .and .i64 a0.Bits a0.Mask))) (d_and) ?_
    refine tb (x := (vi a0.Bits)) (rfl) ?_
    refine tb (x := (vb (decide ((bits .and .i64 a0.Bits a0.Mask) ≠ a0.Bits)))) (d_neq) ?_
    refine tcond (fun h21 => ?_) (fun h21 => ?_)
    · exact rf_ret rfl
    · exact rf_ret rfl

/-! railpoint/railref1.Rule -/
def an_railref1_Rule : Ann := .seq (.reg 0 [] [] []) (.seq (.reg 0 [] [] []) (.seq (.reg 0 [] [] []) (.seq (.seq (.reg 0 [] [] []) (.cond none (.seq (.reg 0 [] [] []) (.no)) (.no))) (.seq (.reg 0 [] [] []) (.seq (.seq (.reg 0 [] [] []) (.cond none (.seq (.reg 0 [] [] []) (.no)) (.no))) (.seq (.seq (.reg 0 [] [] []) (.cond none (.seq (.reg 0 [] [] []) (.no)) (.no))) (.seq (.reg 0 [] [] []) (.no))))))))
noncomputable def sem_railref1_Rule (n : Nat) (xs : List V) : Option V := if xs.length ≤ 61 then denF Tryd.prog (envOf [(72, (sem_railref1_Header n)), (73, (sem_railref1_Cube n))]) n Tryd.f43 an_railref1_Rule xs else none
theorem ok_railref1_Rule (n : Nat) : SemOk Tryd.prog DW 43 (sem_railref1_Rule n) := fun xs y h => by
  unfold sem_railref1_Rule at h
  split at h
  · rename_i hl
    exact denF_ok stb Tryd.func43 (by kernel_rfl) (envOf_ok (semsOk_cons (ok_railref1_Header n) (semsOk_cons (ok_railref1_Cube n) semsOk_nil))) (by rw [Tryd.ntmps43]; exact hl) h
  · cases h
theorem eq_railref1_Rule (n : Nat) (x0 : V) : sem_railref1_Rule n [x0] =
 (V.cellsO x0).bind fun v1 =>
 (ldk none (List.drop 4 v1)).bind fun v2 =>
 ((sem_railref1_Header n) [v2]).bind fun v3 =>
 (ldk none (List.drop 5 v1)).bind fun v4 =>
 ((sem_railref1_Header n) [v4]).bind fun v5 =>
 (ldk none (List.drop 0 v1)).bind fun v6 =>
 (bin2 Tryd.prog BinOp.lss 3 (ot 13) (oc 0) v6 (vi 0)).bind fun v7 =>
 (guardV v7 false (some V.any)).bind fun v8 =>
 (guardV v7 false ((gate v7 false (ldk none (List.drop 0 v1))).bind fun v9 =>
 some v9)).bind fun v10 =>
 (guardV v7 false ((bin2 Tryd.prog BinOp.gtr 3 (ot 17) (oc 99) v10 (vi 99)).bind fun v11 =>
 some v11)).bind fun v12 =>
 (pickV v7 (vb true) v12).bind fun v13 =>
 (guardV v13 false (some V.any)).bind fun v14 =>
 (guardV v13 false ((gate v13 false (ldk none (List.drop 3 v1))).bind fun v15 =>
 some v15)).bind fun v16 =>
 (guardV v13 false ((bin2 Tryd.prog BinOp.lss 3 (ot 22) (oc 0) v16 (vi 0)).bind fun v17 =>
 some v17)).bind fun v18 =>
 (pickV v13 (vb true) v18).bind fun v19 =>
 (guardV v19 false (some V.any)).bind fun v20 =>
 (guardV v19 false ((gate v19 false (ldk none (List.drop 3 v1))).bind fun v21 =>
 some v21)).bind fun v22 =>
 (guardV v19 false ((bin2 Tryd.prog BinOp.gtr 3 (ot 27) (oc 4) v22 (vi 4)).bind fun v23 =>
 some v23)).bind fun v24 =>
 (pickV v19 (vb true) v24).bind fun v25 =>
 (guardV v25 false (some v3)).bind fun v26 =>
 (guardV v25 false ((scal1 Tryd.prog (Op.unary Go.UnOp.not) v26).bind fun v27 =>
 some v27)).bind fun v28 =>
 (pickV v25 (vb true) v28).bind fun v29 =>
 (guardV v29 false (some v5)).bind fun v30 =>
 (guardV v29 false ((scal1 Tryd.prog (Op.unary Go.UnOp.not) v30).bind fun v31 =>
 some v31)).bind fun v32 =>
 (pickV v29 (vb true) v32).bind fun v33 =>
 condV v33 (
 some (vi 1)) (
 (ldk (some 2) (List.drop 1 v1)).bind fun v34 =>
 ((sem_railref1_Cube n) [v34]).bind fun v35 =>
 (bin2 Tryd.prog BinOp.neq 3 (ot 41) (oc 0) v35 (vi 0)).bind fun v36 =>
 condV v36 (
 some v35) (
 (ldk none (List.drop 4 v1)).bind fun v37 =>
 (ldk none (List.drop 5 v1)).bind fun v38 =>
 ((fillL [(vi 0), (vi 0)] [(0, 1, v37), (1, 1, v38)]).map V.agg).bind fun v39 =>
 ((sem_railref1_Cube n) [v39]).bind fun v40 =>
 (bin2 Tryd.prog BinOp.neq 3 (ot 49) (oc 0) v40 (vi 0)).bind fun v41 =>
 (guardV v41 false (some V.any)).bind fun v42 =>
 (guardV v41 false ((gate v41 false (ldk none (List.drop 3 v1))).bind fun v43 =>
 some v43)).bind fun v44 =>
 (guardV v41 false ((bin2 Tryd.prog BinOp.eql 3 (ot 53) (oc 0) v44 (vi 0)).bind fun v45 =>
 some v45)).bind fun v46 =>
 (guardV v41 false (some v46)).bind fun v47 =>
 (guardV v47 true (some V.any)).bind fun v48 =>
 (guardV v47 true ((gate v47 true (ldk none (List.drop 4 v1))).bind fun v49 =>
 some v49)).bind fun v50 =>
 (guardV v47 true ((bin2 Tryd.prog BinOp.neq 3 (ot 57) (oc 0) v50 (vi 0)).bind fun v51 =>
 some v51)).bind fun v52 =>
 (guardV v41 false ((pickV v47 v52 (vb false)).bind fun v53 =>
 some v53)).bind fun v54 =>
 (pickV v41 (vb true) v54).bind fun v55 =>
 condV v55 (
 some (vi 3)) (
 some (vi 0)))) := by kernel_rfl
noncomputable def t_railref1_Rule (a0 : T_Rule) : Option Int :=
 (t_railref1_Header a0.Set).bind fun r4 =>
 (t_railref1_Header a0.Value).bind fun r7 =>
 if ((((((decide (a0.Prio < 0)) || (decide (99 < a0.Prio))) || (decide (a0.Out < 0))) || (decide (4 < a0.Out))) || (!r4)) || (!r7)) = true then (
 some 1) else (
 (t_railref1_Cube a0.Cube).bind fun r52 =>
 if (decide (r52 ≠ 0)) = true then (
 some r52) else (
 (t_railref1_Cube (T_Cube.mk a0.Set a0.Value)).bind fun r59 =>
 if ((decide (r59 ≠ 0)) || ((decide (a0.Out = 0)) && (decide (a0.Set ≠ 0)))) = true then (
 some 3) else (
 some 0)))
theorem ty_railref1_Rule {n : Nat} (hn : bigN ≤ n) (a0 : T_Rule) : Rv (fun x : Int => (vi x)) (sem_railref1_Rule n [(T_Rule.e a0)]) (t_railref1_Rule a0) := by
  rw [eq_railref1_Rule]
  unfold t_railref1_Rule
  refine tb (x := (T_Rule.c a0)) rfl ?_
  refine tb (x := (vi a0.Set)) (rfl) ?_
  refine tbo (ty_railref1_Header hn a0.Set) fun r4 => ?_
  refine tb (x := (vi a0.Value)) (rfl) ?_
  refine tbo (ty_railref1_Header hn a0.Value) fun r7 => ?_
  refine tb (x := (vi a0.Prio)) (rfl) ?_
  refine tb (x := (vb (decide (a0.Prio < 0)))) (d_lss) ?_
  refine tg_f (x := V.any) (fun h10 => rfl) ?_
  refine tg_f (x := (vi a0.Prio)) (fun h12 => bind_some_eq (gate_pos (not_t h12) (rfl))) ?_
  refine tg_f (x := (vb (decide (99 < a0.Prio)))) (fun h15 => by simp only [gv_t h15]; exact bind_some_eq (d_gtr)) ?_
  refine tb (x := (vb ((decide (a0.Prio < 0)) || (decide (99 < a0.Prio))))) (pick_or (fun h9 => gv_t (not_f h9))) ?_
  refine tg_f (x := V.any) (fun h19 => rfl) ?_
  refine tg_f (x := (vi a0.Out)) (fun h21 => bind_some_eq (gate_pos (not_t h21) (rfl))) ?_
  refine tg_f (x := (vb (decide (a0.Out < 0)))) (fun h24 => by simp only [gv_t h24]; exact bind_some_eq (d_lss)) ?_
  refine tb (x := (vb (((decide (a0.Prio < 0)) || (decide (99 < a0.Prio))) || (decide (a0.Out < 0))))) (pick_or (fun h9 => gv_t (not_f h9))) ?_
  refine tg_f (x := V.any) (fun h28 => rfl) ?_
  refine tg_f (x := (vi a0.Out)) (fun h30 => bind_some_eq (gate_pos (not_t h30) (rfl))) ?_
  refine tg_f (x := (vb (decide (4 < a0.Out)))) (fun h33 => by simp only [gv_t h33]; exact bind_some_eq (d_gtr)) ?_
  refine tb (x := (vb ((((decide (a0.Prio < 0)) || (decide (99 < a0.Prio))) || (decide (a0.Out < 0))) || (decide (4 < a0.Out))))) (pick_or (fun h9 => gv_t (not_f h9))) ?_
  refine tg_f (x := (vb r4)) (fun h37 => rfl) ?_
  refine tg_f (x := (vb (!r4))) (fun h39 => by simp only [gv_t h39]; exact bind_some_eq (d_not)) ?_
  refine tb (x := (vb (((((decide (a0.Prio < 0)) || (decide (99 < a0.Prio))) || (decide (a0.Out < 0))) || (decide (4 < a0.Out))) || (!r4)))) (pick_or (fun h9 => gv_t (not_f h9))) ?_
  refine tg_f (x := (vb r7)) (fun h43 => rfl) ?_
  refine tg_f (x := (vb (!r7))) (fun h45 => by simp only [gv_t h45]; exact bind_some_eq (d_not)) ?_
  refine tb (x := (vb ((((((decide (a0.Prio < 0)) || (decide (99 < a0.Prio))) || (decide (a0.Out < 0))) || (decide (4 < a0.Out))) || (!r4)) || (!r7)))) (pick_or (fun h9 => gv_t (not_f h9))) ?_
  refine tcond (fun h49 => ?_) (fun h49 => ?_)
  · exact rf_ret rfl
  · refine tb (x := (T_Cube.e a0.Cube)) (rfl) ?_
    refine tbo (ty_railref1_Cube hn a0.Cube) fun r52 => ?_
    refine tb (x := (vb (decide (r52 ≠ 0)))) (d_neq) ?_
    refine tcond (fun h54 => ?_) (fun h54 => ?_)
    · exact rf_ret rfl
    · refine tb (x := (vi a0.Set)) (rfl) ?_
      refine tb (x := (vi a0.Value)) (rfl) ?_
      refine tb (x := (T_Cube.e (T_Cube.mk a0.Set a0.Value))) (by kernel_rfl) ?_
      refine tbo (ty_railref1_Cube hn (T_Cube.mk a0.Set a0.Value)) fun r59 => ?_
      refine tb (x := (vb (decide (r59 ≠ 0)))) (d_neq) ?_
      refine tg_f (x := V.any) (fun h61 => rfl) ?_
      refine tg_f (x := (vi a0.Out)) (fun h63 => bind_some_eq (gate_pos (not_t h63) (rfl))) ?_
      refine tg_f (x := (vb (decide (a0.Out = 0)))) (fun h66 => by simp only [gv_t h66]; exact bind_some_eq (d_eql)) ?_
      refine tg_f (x := (vb (decide (a0.Out = 0)))) (fun h69 => congrArg some (gv_t h69)) ?_
      refine tg2 (x := V.any) (fun h71 => rfl) ?_
      refine tg2 (x := (vi a0.Set)) (fun h73 => bind_some_eq (gate_pos2 (and_l h73) (and_r h73) (rfl))) ?_
      refine tg2 (x := (vb (decide (a0.Set ≠ 0)))) (fun h76 => by simp only [gv_t h76]; exact bind_some_eq (d_neq)) ?_
      refine tg_f (x := (vb ((decide (a0.Out = 0)) && (decide (a0.Set ≠ 0))))) (fun h79 => by simp only [gv_t h79]; exact bind_some_eq (pick_and (fun h9 => gv_t (and_i h79 h9)))) ?_
      refine tb (x := (vb ((decide (r59 ≠ 0)) || ((decide (a0.Out = 0)) && (decide (a0.Set ≠ 0)))))) (pick_or (fun h9 => gv_t (not_f h9))) ?_
      refine tcond (fun h83 => ?_) (fun h83 => ?_)
      · exact rf_ret rfl
      · exact rf_ret rfl

/-! railpoint/railref2.Msg -/
def an_railref2_Msg : Ann := .seq (.reg 0 [] [] []) (.seq (.seq (.reg 0 [] [] []) (.cond none (.seq (.reg 0 [] [] []) (.no)) (.no))) (.seq (.seq (.reg 0 [] [] []) (.cond none (.seq (.seq (.reg 0 [] [] []) (.cond none (.seq (.reg 0 [] [] []) (.no)) (.no))) (.seq (.reg 0 [] [] []) (.no))) (.no))) (.seq (.reg 0 [] [] []) (.seq (.seq (.reg 0 [] [] []) (.cond none (.seq (.reg 0 [] [] []) (.no)) (.no))) (.seq (.seq (.reg 0 [] [] []) (.cond none (.seq (.reg 0 [] [] []) (.no)) (.no))) (.seq (.reg 0 [] [] []) (.no)))))))
noncomputable def sem_railref2_Msg (n : Nat) (xs : List V) : Option V := if xs.length ≤ 72 then denF Tryd.prog (envOf [(43, (sem_railref1_Rule n))]) n Tryd.f44 an_railref2_Msg xs else none
theorem ok_railref2_Msg (n : Nat) : SemOk Tryd.prog DW 44 (sem_railref2_Msg n) := fun xs y h => by
  unfold sem_railref2_Msg at h
  split at h
  · rename_i hl
    exact denF_ok stb Tryd.func44 (by kernel_rfl) (envOf_ok (semsOk_cons (ok_railref1_Rule n) semsOk_nil)) (by rw [Tryd.ntmps44]; exact hl) h
  · cases h
theorem eq_railref2_Msg (n : Nat) (x0 : V) : sem_railref2_Msg n [x0] =
 (V.cellsO x0).bind fun v1 =>
 (ldk none (List.drop 0 v1)).bind fun v2 =>
 (bin2 Tryd.prog BinOp.lss 3 (ot 5) (oc 1) v2 (vi 1)).bind fun v3 =>
 (guardV v3 false (some V.any)).bind fun v4 =>
 (guardV v3 false ((gate v3 false (ldk none (List.drop 0 v1))).bind fun v5 =>
 some v5)).bind fun v6 =>
 (guardV v3 false ((bin2 Tryd.prog BinOp.gtr 3 (ot 9) (oc 3) v6 (vi 3)).bind fun v7 =>
 some v7)).bind fun v8 =>
 (pickV v3 (vb true) v8).bind fun v9 =>
 (guardV v9 false (some V.any)).bind fun v10 =>
 (guardV v9 false ((gate v9 false (ldk none (List.drop 1 v1))).bind fun v11 =>
 some v11)).bind fun v12 =>
 (guardV v9 false ((bin2 Tryd.prog BinOp.lss 3 (ot 14) (oc 1) v12 (vi 1)).bind fun v13 =>
 some v13)).bind fun v14 =>
 (pickV v9 (vb true) v14).bind fun v15 =>
 (guardV v15 false (some V.any)).bind fun v16 =>
 (guardV v15 false ((gate v15 false (ldk none (List.drop 1 v1))).bind fun v17 =>
 some v17)).bind fun v18 =>
 (guardV v15 false ((bin2 Tryd.prog BinOp.gtr 3 (ot 19) (oc 6) v18 (vi 6)).bind fun v19 =>
 some v19)).bind fun v20 =>
 (pickV v15 (vb true) v20).bind fun v21 =>
 (guardV v21 false (some V.any)).bind fun v22 =>
 (guardV v21 false ((gate v21 false (ldk none (List.drop 2 v1))).bind fun v23 =>
 some v23)).bind fun v24 =>
 (guardV v21 false ((bin2 Tryd.prog BinOp.lss 3 (ot 24) (oc 0) v24 (vi 0)).bind fun v25 =>
 some v25)).bind fun v26 =>
 (pickV v21 (vb true) v26).bind fun v27 =>
 (guardV v27 false (some V.any)).bind fun v28 =>
 (guardV v27 false ((gate v27 false (ldk none (List.drop 2 v1))).bind fun v29 =>
 some v29)).bind fun v30 =>
 (guardV v27 false ((bin2 Tryd.prog BinOp.gtr 3 (ot 29) (oc 19) v30 (vi 19)).bind fun v31 =>
 some v31)).bind fun v32 =>
 (pickV v27 (vb true) v32).bind fun v33 =>
 (guardV v33 false (some V.any)).bind fun v34 =>
 (guardV v33 false ((gate v33 false (ldk none (List.drop 3 v1))).bind fun v35 =>
 some v35)).bind fun v36 =>
 (guardV v33 false ((bin2 Tryd.prog BinOp.lss 3 (ot 34) (oc 0) v36 (vi 0)).bind fun v37 =>
 some v37)).bind fun v38 =>
 (pickV v33 (vb true) v38).bind fun v39 =>
 (guardV v39 false (some V.any)).bind fun v40 =>
 (guardV v39 false ((gate v39 false (ldk none (List.drop 3 v1))).bind fun v41 =>
 some v41)).bind fun v42 =>
 (guardV v39 false ((bin2 Tryd.prog BinOp.gtr 3 (ot 39) (oc 200) v42 (vi 200)).bind fun v43 =>
 some v43)).bind fun v44 =>
 (pickV v39 (vb true) v44).bind fun v45 =>
 condV v45 (
 some (vi 1)) (
 (ldk none (List.drop 0 v1)).bind fun v46 =>
 (bin2 Tryd.prog BinOp.neq 3 (ot 43) (oc 1) v46 (vi 1)).bind fun v47 =>
 condV v47 (
 (ldk (some 8) (List.drop 4 v1)).bind fun v48 =>
 ((fillL [(vi 0), (vb false), (vi 0), (vi 0), (vi 0), (vi 0), (vi 0), (vi 0)] []).map V.agg).bind fun v49 =>
 (bin2 Tryd.prog BinOp.neq 37 (ot 46) (ot 47) v48 v49).bind fun v50 =>
 (guardV v50 false (some V.any)).bind fun v51 =>
 (guardV v50 false ((gate v50 false (ldk none (List.drop 0 v1))).bind fun v52 =>
 some v52)).bind fun v53 =>
 (guardV v50 false ((bin2 Tryd.prog BinOp.eql 3 (ot 51) (oc 3) v53 (vi 3)).bind fun v54 =>
 some v54)).bind fun v55 =>
 (guardV v50 false (some v55)).bind fun v56 =>
 (guardV v56 true (some V.any)).bind fun v57 =>
 (guardV v56 true ((gate v56 true (ldk none (List.drop 3 v1))).bind fun v58 =>
 some v58)).bind fun v59 =>
 (guardV v56 true ((bin2 Tryd.prog BinOp.neq 3 (ot 55) (oc 0) v59 (vi 0)).bind fun v60 =>
 some v60)).bind fun v61 =>
 (guardV v50 false ((pickV v56 v61 (vb false)).bind fun v62 =>
 some v62)).bind fun v63 =>
 (pickV v50 (vb true) v63).bind fun v64 =>
 condV v64 (
 some (vi 3)) (
 some (vi 0))) (
 (ldk (some 6) (List.drop 6 v1)).bind fun v65 =>
 ((sem_railref1_Rule n) [v65]).bind fun v66 =>
 (bin2 Tryd.prog BinOp.neq 3 (ot 63) (oc 0) v66 (vi 0)).bind fun v67 =>
 condV v67 (
 some v66) (
 (ldk none (List.drop 4 v1)).bind fun v68 =>
 (ldk none (List.drop 1 v1)).bind fun v69 =>
 (bin2 Tryd.prog BinOp.neq 3 (ot 68) (ot 70) v68 v69).bind fun v70 =>
 condV v70 (
 some (vi 3)) (
 some (vi 0))))) := by kernel_rfl
noncomputable def t_railref2_Msg (a0 : T_Msg) : Option Int :=
 (some ((((((decide (a0.Kind < 1)) || (decide (3 < a0.Kind))) || (decide (a0.Switch < 1))) || (decide (6 < a0.Switch))) || (decide (a0.Round < 0))) || (decide (19 < a0.Round)))).bind fun r49 =>
 if ((r49 || (decide (a0.Index < 0))) || (decide (200 < a0.Index))) = true then (
 some 1) else (
 if (decide (a0.Kind ≠ 1)) = true then (
 if ((!decide (a0.Op = (T_Op.mk 0 false (T_Rule.mk 0 (T_Cube.mk 0 0) 0 0 0)))) || ((decide (a0.Kind = 3)) && (decide (a0.Index ≠ 0)))) = true then (
 some 3) else (
 some 0)) else (
 (t_railref1_Rule a0.Op.Rule).bind fun r100 =>
 if (decide (r100 ≠ 0)) = true then (
 some r100) else (
 if (decide (a0.Op.Switch ≠ a0.Switch)) = true then (
 some 3) else (
 some 0))))
theorem ty_railref2_Msg {n : Nat} (hn : bigN ≤ n) (a0 : T_Msg) : Rv (fun x : Int => (vi x)) (sem_railref2_Msg n [(T_Msg.e a0)]) (t_railref2_Msg a0) := by
  rw [eq_railref2_Msg]
  unfold t_railref2_Msg
  refine tb (x := (T_Msg.c a0)) rfl ?_
  refine tb (x := (vi a0.Kind)) (rfl) ?_
  refine tb (x := (vb (decide (a0.Kind < 1)))) (d_lss) ?_
  refine tg_f (x := V.any) (fun h4 => rfl) ?_
  refine tg_f (x := (vi a0.Kind)) (fun h6 => bind_some_eq (gate_pos (not_t h6) (rfl))) ?_
  refine tg_f (x := (vb (decide (3 < a0.Kind)))) (fun h9 => by simp only [gv_t h9]; exact bind_some_eq (d_gtr)) ?_
  refine tb (x := (vb ((decide (a0.Kind < 1)) || (decide (3 < a0.Kind))))) (pick_or (fun h9 => gv_t (not_f h9))) ?_
  refine tg_f (x := V.any) (fun h13 => rfl) ?_
  refine tg_f (x := (vi a0.Switch)) (fun h15 => bind_some_eq (gate_pos (not_t h15) (rfl))) ?_
  refine tg_f (x := (vb (decide (a0.Switch < 1)))) (fun h18 => by simp only [gv_t h18]; exact bind_some_eq (d_lss)) ?_
  refine tb (x := (vb (((decide (a0.Kind < 1)) || (decide (3 < a0.Kind))) || (decide (a0.Switch < 1))))) (pick_or (fun h9 => gv_t (not_f h9))) ?_
  refine tg_f (x := V.any) (fun h22 => rfl) ?_
  refine tg_f (x := (vi a0.Switch)) (fun h24 => bind_some_eq (gate_pos (not_t h24) (rfl))) ?_
  refine tg_f (x := (vb (decide (6 < a0.Switch)))) (fun h27 => by simp only [gv_t h27]; exact bind_some_eq (d_gtr)) ?_
  refine tb (x := (vb ((((decide (a0.Kind < 1)) || (decide (3 < a0.Kind))) || (decide (a0.Switch < 1))) || (decide (6 < a0.Switch))))) (pick_or (fun h9 => gv_t (not_f h9))) ?_
  refine tg_f (x := V.any) (fun h31 => rfl) ?_
  refine tg_f (x := (vi a0.Round)) (fun h33 => bind_some_eq (gate_pos (not_t h33) (rfl))) ?_
  refine tg_f (x := (vb (decide (a0.Round < 0)))) (fun h36 => by simp only [gv_t h36]; exact bind_some_eq (d_lss)) ?_
  refine tb (x := (vb (((((decide (a0.Kind < 1)) || (decide (3 < a0.Kind))) || (decide (a0.Switch < 1))) || (decide (6 < a0.Switch))) || (decide (a0.Round < 0))))) (pick_or (fun h9 => gv_t (not_f h9))) ?_
  refine tg_f (x := V.any) (fun h40 => rfl) ?_
  refine tg_f (x := (vi a0.Round)) (fun h42 => bind_some_eq (gate_pos (not_t h42) (rfl))) ?_
  refine tg_f (x := (vb (decide (19 < a0.Round)))) (fun h45 => by simp only [gv_t h45]; exact bind_some_eq (d_gtr)) ?_
  refine tbo (e1 := fun x : Bool => (vb x)) (rf_eq (pick_or (fun h9 => gv_t (not_f h9))) rfl) fun r49 => ?_
  refine tg_f (x := V.any) (fun h50 => rfl) ?_
  refine tg_f (x := (vi a0.Index)) (fun h52 => bind_some_eq (gate_pos (not_t h52) (rfl))) ?_
  refine tg_f (x := (vb (decide (a0.Index < 0)))) (fun h55 => by simp only [gv_t h55]; exact bind_some_eq (d_lss)) ?_
  refine tb (x := (vb (r49 || (decide (a0.Index < 0))))) (pick_or (fun h9 => gv_t (not_f h9))) ?_
  refine tg_f (x := V.any) (fun h59 => rfl) ?_
  refine tg_f (x := (vi a0.Index)) (fun h61 => bind_some_eq (gate_pos (not_t h61) (rfl))) ?_
  refine tg_f (x := (vb (decide (200 < a0.Index)))) (fun h64 => by simp only [gv_t h64]; exact bind_some_eq (d_gtr)) ?_
  refine tb (x := (vb ((r49 || (decide (a0.Index < 0))) || (decide (200 < a0.Index))))) (pick_or (fun h9 => gv_t (not_f h9))) ?_
  refine tcond (fun h68 => ?_) (fun h68 => ?_)
  · exact rf_ret rfl
  · refine tb (x := (vi a0.Kind)) (rfl) ?_
    refine tb (x := (vb (decide (a0.Kind ≠ 1)))) (d_neq) ?_
    refine tcond (fun h71 => ?_) (fun h71 => ?_)
    · refine tb (x := (T_Op.e a0.Op)) (rfl) ?_
      refine tb (x := (T_Op.e (T_Op.mk 0 false (T_Rule.mk 0 (T_Cube.mk 0 0) 0 0 0)))) (by kernel_rfl) ?_
      refine tb (x := (vb (!decide (a0.Op = (T_Op.mk 0 false (T_Rule.mk 0 (T_Cube.mk 0 0) 0 0 0)))))) (T_Op.neq a0.Op (T_Op.mk 0 false (T_Rule.mk 0 (T_Cube.mk 0 0) 0 0 0))) ?_
      refine tg_f (x := V.any) (fun h75 => rfl) ?_
      refine tg_f (x := (vi a0.Kind)) (fun h77 => bind_some_eq (gate_pos (not_t h77) (rfl))) ?_
      refine tg_f (x := (vb (decide (a0.Kind = 3)))) (fun h80 => by simp only [gv_t h80]; exact bind_some_eq (d_eql)) ?_
      refine tg_f (x := (vb (decide (a0.Kind = 3)))) (fun h83 => congrArg some (gv_t h83)) ?_
      refine tg2 (x := V.any) (fun h85 => rfl) ?_
      refine tg2 (x := (vi a0.Index)) (fun h87 => bind_some_eq (gate_pos2 (and_l h87) (and_r h87) (rfl))) ?_
      refine tg2 (x := (vb (decide (a0.Index ≠ 0)))) (fun h90 => by simp only [gv_t h90]; exact bind_some_eq (d_neq)) ?_
      refine tg_f (x := (vb ((decide (a0.Kind = 3)) && (decide (a0.Index ≠ 0))))) (fun h93 => by simp only [gv_t h93]; exact bind_some_eq (pick_and (fun h9 => gv_t (and_i h93 h9)))) ?_
      refine tb (x := (vb ((!decide (a0.Op = (T_Op.mk 0 false (T_Rule.mk 0 (T_Cube.mk 0 0) 0 0 0)))) || ((decide (a0.Kind = 3)) && (decide (a0.Index ≠ 0)))))) (pick_or (fun h9 => gv_t (not_f h9))) ?_
      refine tcond (fun h97 => ?_) (fun h97 => ?_)
      · exact rf_ret rfl
      · exact rf_ret rfl
    · refine tb (x := (T_Rule.e a0.Op.Rule)) (rfl) ?_
      refine tbo (ty_railref1_Rule hn a0.Op.Rule) fun r100 => ?_
      refine tb (x := (vb (decide (r100 ≠ 0)))) (d_neq) ?_
      refine tcond (fun h102 => ?_) (fun h102 => ?_)
      · exact rf_ret rfl
      · refine tb (x := (vi a0.Op.Switch)) (rfl) ?_
        refine tb (x := (vi a0.Switch)) (rfl) ?_
        refine tb (x := (vb (decide (a0.Op.Switch ≠ a0.Switch)))) (d_neq) ?_
        refine tcond (fun h106 => ?_) (fun h106 => ?_)
        · exact rf_ret rfl
        · exact rf_ret rfl

/-! railpoint/railref1.Table -/
def an_railref1_Table : Ann := .seq (.reg 0 [] [] []) (.seq (.seq (.reg 0 [] [] []) (.cond none (.seq (.reg 0 [] [] []) (.no)) (.no))) (.seq (.seq (.reg 0 [] [] []) (.blk (some []) (.loop [.s 3] (.seq (.seq (.reg 0 [] [] []) (.cond none (.no) (.no))) (.seq (.blk (some []) (.seq (.reg 0 [] [] []) (.seq (.seq (.reg 0 [] [] []) (.cond none (.seq (.reg 0 [] [] []) (.no)) (.no))) (.seq (.reg 0 [] [] []) (.blk (some []) (.loop [.s 5] (.seq (.seq (.reg 0 [] [] []) (.cond none (.no) (.no))) (.seq (.blk none (.seq (.reg 24 [] [] []) (.cond none (.seq (.reg 0 [] [] []) (.no)) (.no)))) (.reg 0 [] [] []))))))))) (.reg 0 [] [] [])))))) (.seq (.reg 0 [] [] []) (.no))))
noncomputable def sem_railref1_Table (n : Nat) (xs : List V) : Option V := if xs.length ≤ 52 then denF Tryd.prog (envOf [(43, (sem_railref1_Rule n))]) n Tryd.f16 an_railref1_Table xs else none
theorem ok_railref1_Table (n : Nat) : SemOk Tryd.prog DW 16 (sem_railref1_Table n) := fun xs y h => by
  unfold sem_railref1_Table at h
  split at h
  · rename_i hl
    exact denF_ok stb Tryd.func16 (by kernel_rfl) (envOf_ok (semsOk_cons (ok_railref1_Rule n) semsOk_nil)) (by rw [Tryd.ntmps16]; exact hl) h
  · cases h
theorem eq_railref1_Table (n : Nat) (x0 : V) : sem_railref1_Table n [x0] =
 (lenS [x0]).bind fun v1 =>
 (bin2 Tryd.prog BinOp.gtr 3 (ot 7) (oc 12) v1 (vi 12)).bind fun v2 =>
 condV v2 (
 some (vi 4)) (
 JoinPt (fun vs3 =>
 some (vi 0)) fun J4 =>
 (fixN (fun rec5 vs6 =>
 (lenS [x0]).bind fun v7 =>
 (bin2 Tryd.prog BinOp.lss 3 (ot 9) (ot 11) (List.getD vs6 0 V.any) v7).bind fun v8 =>
 condV v8 (
 JoinPt (fun vs9 =>
 (bin2 Tryd.prog BinOp.add 3 (ot 13) (oc 1) (List.getD vs6 0 V.any) (vi 1)).bind fun v11 =>
 rec5 [v11]) fun J10 =>
 (idxS 6 x0 (List.getD vs6 0 V.any)).bind fun v12 =>
 (ldp (some 6) v12).bind fun v13 =>
 ((sem_railref1_Rule n) [v13]).bind fun v14 =>
 (bin2 Tryd.prog BinOp.neq 3 (ot 20) (oc 0) v14 (vi 0)).bind fun v15 =>
 condV v15 (
 some v14) (
 JoinPt (fun vs16 =>
 J10 []) fun J17 =>
 (fixN (fun rec18 vs19 =>
 (bin2 Tryd.prog BinOp.lss 3 (ot 23) (ot 24) (List.getD vs19 0 V.any) (List.getD vs6 0 V.any)).bind fun v20 =>
 condV v20 (
 (idxS 6 x0 (List.getD vs19 0 V.any)).bind fun v21 =>
 (ptrF 0 v21).bind fun v22 =>
 (ldp none v22).bind fun v23 =>
 (idxS 6 x0 (List.getD vs6 0 V.any)).bind fun v24 =>
 (ptrF 0 v24).bind fun v25 =>
 (ldp none v25).bind fun v26 =>
 (bin2 Tryd.prog BinOp.eql 3 (ot 32) (ot 37) v23 v26).bind fun v27 =>
 (guardV v27 true (some x0)).bind fun v28 =>
 (guardV v27 true (some (List.getD vs19 0 V.any))).bind fun v29 =>
 (guardV v27 true ((idxS 6 v28 v29).bind fun v30 =>
 some v30)).bind fun v31 =>
 (guardV v27 true ((ptrF 1 v31).bind fun v32 =>
 some v32)).bind fun v33 =>
 (guardV v27 true ((ldp (some 2) v33).bind fun v34 =>
 some v34)).bind fun v35 =>
 (guardV v27 true (some x0)).bind fun v36 =>
 (guardV v27 true (some (List.getD vs6 0 V.any))).bind fun v37 =>
 (guardV v27 true ((idxS 6 v36 v37).bind fun v38 =>
 some v38)).bind fun v39 =>
 (guardV v27 true ((ptrF 1 v39).bind fun v40 =>
 some v40)).bind fun v41 =>
 (guardV v27 true ((ldp (some 2) v41).bind fun v42 =>
 some v42)).bind fun v43 =>
 (guardV v27 true ((bin2 Tryd.prog BinOp.eql 33 (ot 44) (ot 49) v35 v43).bind fun v44 =>
 some v44)).bind fun v45 =>
 (pickV v27 v45 (vb false)).bind fun v46 =>
 condV v46 (
 some (vi 7)) (
 (bin2 Tryd.prog BinOp.add 3 (ot 26) (oc 1) (List.getD vs19 0 V.any) (vi 1)).bind fun v47 =>
 rec18 [v47])) (
 J17 [])) n) [(vi 0)])) (
 J4 [])) n) [(vi 0)]) := by kernel_rfl
noncomputable def t_railref1_Table (a0 : (List T_Rule)) : Option Int :=
 if (decide (12 < (List.length a0 : Int))) = true then (
 some 4) else (
 join (fun (s6 : Unit) =>
 some 0) fun j7 =>
 loopI a0 (fun (i15 : Int) x16 (s11 : Unit) k12 =>
 join (fun (s24 : Unit) =>
 k12 ()) fun j25 =>
 (t_railref1_Rule x16).bind fun r31 =>
 if (decide (r31 ≠ 0)) = true then (
 some r31) else (
 join (fun (s36 : Unit) =>
 j25 ()) fun j37 =>
 loopU 0 i15 (fun (i45 : Int) (s41 : Unit) k42 =>
 (idx a0 i45).bind fun r53 =>
 (gd (decide (r53.Prio = x16.Prio)) default (idx a0 i45)).bind fun r67 =>
 if ((decide (r53.Prio = x16.Prio)) && (decide (r67.Cube = x16.Cube))) = true then (
 some 7) else (
 k42 ())) (fun (i45 : Int) (s41 : Unit) =>
 j37 ()) ())) (fun (s11 : Unit) =>
 j7 ()) ())
theorem ty_railref1_Table {n : Nat} (hn : bigN ≤ n) (a0 : (List T_Rule)) : Rv (fun x : Int => (vi x)) (sem_railref1_Table n [(V.sl (List.map T_Rule.c a0))]) (t_railref1_Table a0) := by
  rw [eq_railref1_Table]
  unfold t_railref1_Table
  refine tb (x := (vi (List.length a0 : Int))) (p_len _) ?_
  refine tb (x := (vb (decide (12 < (List.length a0 : Int))))) (d_gtr) ?_
  refine tcond (fun h3 => ?_) (fun h3 => ?_)
  · exact rf_ret rfl
  · refine tjoin (mk := fun s6 : Unit => []) (fun s6 => ?_) fun J5 j7 h8 => ?_
    · exact rf_ret rfl
    · refine rf_loopI (mk := fun (i15 : Int) (s11 : Unit) => [(vi (i15 : Int))]) hn a0 () (fun i15 x16 h17 h18 h19 s11 rec9 k12 h13 => ?_) (fun s11 rec95 h94 => ?_)
      · refine tb (x := (vi (List.length a0 : Int))) (p_len _) ?_
        refine tb (x := (vb (decide ((i15 : Int) < (List.length a0 : Int))))) (d_lss) ?_
        refine tcond_t h19 ?_
        refine tjoin (mk := fun s24 : Unit => []) (fun s24 => ?_) fun J23 j25 h26 => ?_
        · refine tb (x := (vi ((i15 : Int) + 1))) (p_incN h18) ?_
          exact h13 ()
        · refine tb (x := (V.ptr (T_Rule.c x16))) (p_idx_at (c := T_Rule.c) (fun _ => rfl) h17) ?_
          refine tb (x := (T_Rule.e x16)) (rfl) ?_
          refine tbo (ty_railref1_Rule hn x16) fun r31 => ?_
          refine tb (x := (vb (decide (r31 ≠ 0)))) (d_neq) ?_
          refine tcond (fun h33 => ?_) (fun h33 => ?_)
          · exact rf_ret rfl
          · refine tjoin (mk := fun s36 : Unit => []) (fun s36 => ?_) fun J35 j37 h38 => ?_
            · exact h26 ()
            · refine rf_loopU (mk := fun (i45 : Int) (s41 : Unit) => [(vi i45)]) hn _ _ () (fun i45 h46 h47 h48 s41 rec39 k42 h43 => ?_) (fun i45 s41 rec50 h49 => ?_)
              · refine tb (x := (vb (decide (i45 < (i15 : Int))))) (d_lss) ?_
                refine tcond_t h46 ?_
                refine tbo (p_idx (c := T_Rule.c) (fun _ => rfl) a0 i45) fun r53 => ?_
                refine tb (x := (V.ptr (T_Rule.c r53))) (rfl) ?_
                refine tb (x := (vi r53.Prio)) (rfl) ?_
                refine tb (x := (V.ptr (T_Rule.c x16))) (p_idx_at (c := T_Rule.c) (fun _ => rfl) h17) ?_
                refine tb (x := (V.ptr (T_Rule.c x16))) (rfl) ?_
                refine tb (x := (vi x16.Prio)) (rfl) ?_
                refine tb (x := (vb (decide (r53.Prio = x16.Prio)))) (d_eql) ?_
                refine tg (x := (V.sl (List.map T_Rule.c a0))) (fun h60 => rfl) ?_
                refine tg (x := (vi i45)) (fun h62 => rfl) ?_
                refine tgo (fun h64 => by simp only [gv_t h64]; exact rf_bind_some (p_idx (c := T_Rule.c) (fun _ => rfl) a0 i45)) fun r67 => ?_
                refine tg (x := (V.ptr (List.drop 1 (T_Rule.c r67)))) (fun h68 => by first | exact bind_some_eq (rfl) | (simp only [gv_t h68]; exact bind_some_eq (rfl))) ?_
                refine tg (x := (T_Cube.e r67.Cube)) (fun h71 => by first | exact bind_some_eq (rfl) | (simp only [gv_t h71]; exact bind_some_eq (rfl))) ?_
                refine tg (x := (V.sl (List.map T_Rule.c a0))) (fun h74 => rfl) ?_
                refine tg (x := (vi (i15 : Int))) (fun h76 => rfl) ?_
                refine tg (x := (V.ptr (T_Rule.c x16))) (fun h78 => by simp only [gv_t h78]; exact bind_some_eq (p_idx_at (c := T_Rule.c) (fun _ => rfl) h17)) ?_
                refine tg (x := (V.ptr (List.drop 1 (T_Rule.c x16)))) (fun h81 => by first | exact bind_some_eq (rfl) | (simp only [gv_t h81]; exact bind_some_eq (rfl))) ?_
                refine tg (x := (T_Cube.e x16.Cube)) (fun h84 => by first | exact bind_some_eq (rfl) | (simp only [gv_t h84]; exact bind_some_eq (rfl))) ?_
                refine tg (x := (vb (decide (r67.Cube = x16.Cube)))) (fun h87 => by simp only [gv_t h87]; exact bind_some_eq (T_Cube.eql r67.Cube x16.Cube)) ?_
                refine tb (x := (vb ((decide (r53.Prio = x16.Prio)) && (decide (r67.Cube = x16.Cube))))) (pick_and (fun h9 => gv_t h9)) ?_
                refine tcond (fun h91 => ?_) (fun h91 => ?_)
                · exact rf_ret rfl
                · refine tb (x := (vi (i45 + 1))) (p_inc h47 h48) ?_
                  exact h43 ()
              · refine tb (x := (vb (decide (i45 < (i15 : Int))))) (d_lss) ?_
                refine tcond_f h49 ?_
                exact h38 ()
      · refine tb (x := (vi (List.length a0 : Int))) (p_len _) ?_
        refine tb (x := (vb (decide ((List.length a0 : Int) < (List.length a0 : Int))))) (d_lss) ?_
        refine tcond_f h94 ?_
        exact h8 ()

/-! railpoint/railsame.Msgs -/
def an_railsame_Msgs : Ann := .seq (.reg 0 [] [] []) (.seq (.seq (.reg 0 [] [] []) (.cond none (.seq (.reg 0 [] [] []) (.no)) (.no))) (.seq (.seq (.reg 0 [] [] []) (.blk (some []) (.loop [.s 5] (.seq (.seq (.reg 0 [] [] []) (.cond none (.no) (.no))) (.seq (.blk none (.seq (.reg 9 [] [] []) (.cond none (.seq (.reg 0 [] [] []) (.no)) (.no)))) (.reg 0 [] [] [])))))) (.seq (.reg 0 [] [] []) (.no))))
noncomputable def sem_railsame_Msgs (n : Nat) (xs : List V) : Option V := if xs.length ≤ 26 then denF Tryd.prog (envOf []) n Tryd.f12 an_railsame_Msgs xs else none
theorem ok_railsame_Msgs (n : Nat) : SemOk Tryd.prog DW 12 (sem_railsame_Msgs n) := fun xs y h => by
  unfold sem_railsame_Msgs at h
  split at h
  · rename_i hl
    exact denF_ok stb Tryd.func12 (by kernel_rfl) (envOf_ok semsOk_nil) (by rw [Tryd.ntmps12]; exact hl) h
  · cases h
theorem eq_railsame_Msgs (n : Nat) (x0 x1 : V) : sem_railsame_Msgs n [x0, x1] =
 (lenS [x0]).bind fun v1 =>
 (lenS [x1]).bind fun v2 =>
 (bin2 Tryd.prog BinOp.neq 3 (ot 7) (ot 9) v1 v2).bind fun v3 =>
 condV v3 (
 some (vb false)) (
 JoinPt (fun vs4 =>
 some (vb true)) fun J5 =>
 (fixN (fun rec6 vs7 =>
 (lenS [x0]).bind fun v8 =>
 (bin2 Tryd.prog BinOp.lss 3 (ot 11) (ot 13) (List.getD vs7 0 V.any) v8).bind fun v9 =>
 condV v9 (
 (idxS 12 x0 (List.getD vs7 0 V.any)).bind fun v10 =>
 (ldp (some 12) v10).bind fun v11 =>
 (idxS 12 x1 (List.getD vs7 0 V.any)).bind fun v12 =>
 (ldp (some 12) v12).bind fun v13 =>
 (bin2 Tryd.prog BinOp.neq 39 (ot 20) (ot 24) v11 v13).bind fun v14 =>
 condV v14 (
 some (vb false)) (
 (bin2 Tryd.prog BinOp.add 3 (ot 15) (oc 1) (List.getD vs7 0 V.any) (vi 1)).bind fun v15 =>
 rec6 [v15])) (
 J5 [])) n) [(vi 0)]) := by kernel_rfl
noncomputable def t_railsame_Msgs (a0 : (List T_Msg)) (a1 : (List T_Msg)) : Option Bool :=
 if (decide ((List.length a0 : Int) ≠ (List.length a1 : Int))) = true then (
 some false) else (
 join (fun (s7 : Unit) =>
 some true) fun j8 =>
 loopI a0 (fun (i16 : Int) x17 (s12 : Unit) k13 =>
 (idx a1 i16).bind fun r26 =>
 if (!decide (x17 = r26)) = true then (
 some false) else (
 k13 ())) (fun (s12 : Unit) =>
 j8 ()) ())
theorem ty_railsame_Msgs {n : Nat} (hn : bigN ≤ n) (a0 : (List T_Msg)) (a1 : (List T_Msg)) : Rv (fun x : Bool => (vb x)) (sem_railsame_Msgs n [(V.sl (List.map T_Msg.c a0)), (V.sl (List.map T_Msg.c a1))]) (t_railsame_Msgs a0 a1) := by
  rw [eq_railsame_Msgs]
  unfold t_railsame_Msgs
  refine tb (x := (vi (List.length a0 : Int))) (p_len _) ?_
  refine tb (x := (vi (List.length a1 : Int))) (p_len _) ?_
  refine tb (x := (vb (decide ((List.length a0 : Int) ≠ (List.length a1 : Int))))) (d_neq) ?_
  refine tcond (fun h4 => ?_) (fun h4 => ?_)
  · exact rf_ret rfl
  · refine tjoin (mk := fun s7 : Unit => []) (fun s7 => ?_) fun J6 j8 h9 => ?_
    · exact rf_ret rfl
    · refine rf_loopI (mk := fun (i16 : Int) (s12 : Unit) => [(vi (i16 : Int))]) hn a0 () (fun i16 x17 h18 h19 h20 s12 rec10 k13 h14 => ?_) (fun s12 rec32 h31 => ?_)
      · refine tb (x := (vi (List.length a0 : Int))) (p_len _) ?_
        refine tb (x := (vb (decide ((i16 : Int) < (List.length a0 : Int))))) (d_lss) ?_
        refine tcond_t h20 ?_
        refine tb (x := (V.ptr (T_Msg.c x17))) (p_idx_at (c := T_Msg.c) (fun _ => rfl) h18) ?_
        refine tb (x := (T_Msg.e x17)) (rfl) ?_
        refine tbo (p_idx (c := T_Msg.c) (fun _ => rfl) a1 (i16 : Int)) fun r26 => ?_
        refine tb (x := (T_Msg.e r26)) (rfl) ?_
        refine tb (x := (vb (!decide (x17 = r26)))) (T_Msg.neq x17 r26) ?_
        refine tcond (fun h29 => ?_) (fun h29 => ?_)
        · exact rf_ret rfl
        · refine tb (x := (vi ((i16 : Int) + 1))) (p_incN h19) ?_
          exact h14 ()
      · refine tb (x := (vi (List.length a0 : Int))) (p_len _) ?_
        refine tb (x := (vb (decide ((List.length a0 : Int) < (List.length a0 : Int))))) (d_lss) ?_
        refine tcond_f h31 ?_
        exact h9 ()

/-! railpoint/railsame.Table -/
def an_railsame_Table : Ann := .seq (.reg 0 [] [] []) (.seq (.seq (.reg 0 [] [] []) (.cond none (.seq (.reg 0 [] [] []) (.no)) (.no))) (.seq (.seq (.reg 0 [] [] []) (.blk (some []) (.loop [.s 5] (.seq (.seq (.reg 0 [] [] []) (.cond none (.no) (.no))) (.seq (.blk none (.seq (.reg 9 [] [] []) (.cond none (.seq (.reg 0 [] [] []) (.no)) (.no)))) (.reg 0 [] [] [])))))) (.seq (.reg 0 [] [] []) (.no))))
noncomputable def sem_railsame_Table (n : Nat) (xs : List V) : Option V := if xs.length ≤ 26 then denF Tryd.prog (envOf []) n Tryd.f13 an_railsame_Table xs else none
theorem ok_railsame_Table (n : Nat) : SemOk Tryd.prog DW 13 (sem_railsame_Table n) := fun xs y h => by
  unfold sem_railsame_Table at h
  split at h
  · rename_i hl
    exact denF_ok stb Tryd.func13 (by kernel_rfl) (envOf_ok semsOk_nil) (by rw [Tryd.ntmps13]; exact hl) h
  · cases h
theorem eq_railsame_Table (n : Nat) (x0 x1 : V) : sem_railsame_Table n [x0, x1] =
 (lenS [x0]).bind fun v1 =>
 (lenS [x1]).bind fun v2 =>
 (bin2 Tryd.prog BinOp.neq 3 (ot 7) (ot 9) v1 v2).bind fun v3 =>
 condV v3 (
 some (vb false)) (
 JoinPt (fun vs4 =>
 some (vb true)) fun J5 =>
 (fixN (fun rec6 vs7 =>
 (lenS [x0]).bind fun v8 =>
 (bin2 Tryd.prog BinOp.lss 3 (ot 11) (ot 13) (List.getD vs7 0 V.any) v8).bind fun v9 =>
 condV v9 (
 (idxS 6 x0 (List.getD vs7 0 V.any)).bind fun v10 =>
 (ldp (some 6) v10).bind fun v11 =>
 (idxS 6 x1 (List.getD vs7 0 V.any)).bind fun v12 =>
 (ldp (some 6) v12).bind fun v13 =>
 (bin2 Tryd.prog BinOp.neq 35 (ot 20) (ot 24) v11 v13).bind fun v14 =>
 condV v14 (
 some (vb false)) (
 (bin2 Tryd.prog BinOp.add 3 (ot 15) (oc 1) (List.getD vs7 0 V.any) (vi 1)).bind fun v15 =>
 rec6 [v15])) (
 J5 [])) n) [(vi 0)]) := by kernel_rfl
noncomputable def t_railsame_Table (a0 : (List T_Rule)) (a1 : (List T_Rule)) : Option Bool :=
 if (decide ((List.length a0 : Int) ≠ (List.length a1 : Int))) = true then (
 some false) else (
 join (fun (s7 : Unit) =>
 some true) fun j8 =>
 loopI a0 (fun (i16 : Int) x17 (s12 : Unit) k13 =>
 (idx a1 i16).bind fun r26 =>
 if (!decide (x17 = r26)) = true then (
 some false) else (
 k13 ())) (fun (s12 : Unit) =>
 j8 ()) ())
theorem ty_railsame_Table {n : Nat} (hn : bigN ≤ n) (a0 : (List T_Rule)) (a1 : (List T_Rule)) : Rv (fun x : Bool => (vb x)) (sem_railsame_Table n [(V.sl (List.map T_Rule.c a0)), (V.sl (List.map T_Rule.c a1))]) (t_railsame_Table a0 a1) := by
  rw [eq_railsame_Table]
  unfold t_railsame_Table
  refine tb (x := (vi (List.length a0 : Int))) (p_len _) ?_
  refine tb (x := (vi (List.length a1 : Int))) (p_len _) ?_
  refine tb (x := (vb (decide ((List.length a0 : Int) ≠ (List.length a1 : Int))))) (d_neq) ?_
  refine tcond (fun h4 => ?_) (fun h4 => ?_)
  · exact rf_ret rfl
  · refine tjoin (mk := fun s7 : Unit => []) (fun s7 => ?_) fun J6 j8 h9 => ?_
    · exact rf_ret rfl
    · refine rf_loopI (mk := fun (i16 : Int) (s12 : Unit) => [(vi (i16 : Int))]) hn a0 () (fun i16 x17 h18 h19 h20 s12 rec10 k13 h14 => ?_) (fun s12 rec32 h31 => ?_)
      · refine tb (x := (vi (List.length a0 : Int))) (p_len _) ?_
        refine tb (x := (vb (decide ((i16 : Int) < (List.length a0 : Int))))) (d_lss) ?_
        refine tcond_t h20 ?_
        refine tb (x := (V.ptr (T_Rule.c x17))) (p_idx_at (c := T_Rule.c) (fun _ => rfl) h18) ?_
        refine tb (x := (T_Rule.e x17)) (rfl) ?_
        refine tbo (p_idx (c := T_Rule.c) (fun _ => rfl) a1 (i16 : Int)) fun r26 => ?_
        refine tb (x := (T_Rule.e r26)) (rfl) ?_
        refine tb (x := (vb (!decide (x17 = r26)))) (T_Rule.neq x17 r26) ?_
        refine tcond (fun h29 => ?_) (fun h29 => ?_)
        · exact rf_ret rfl
        · refine tb (x := (vi ((i16 : Int) + 1))) (p_incN h19) ?_
          exact h14 ()
      · refine tb (x := (vi (List.length a0 : Int))) (p_len _) ?_
        refine tb (x := (vb (decide ((List.length a0 : Int) < (List.length a0 : Int))))) (d_lss) ?_
        refine tcond_f h31 ?_
        exact h9 ()

/-! railpoint/railsame.Ints -/
def an_railsame_Ints : Ann := .seq (.reg 0 [] [] []) (.seq (.seq (.reg 0 [] [] []) (.cond none (.seq (.reg 0 [] [] []) (.no)) (.no))) (.seq (.seq (.reg 0 [] [] []) (.blk (some []) (.loop [.s 5] (.seq (.seq (.reg 0 [] [] []) (.cond none (.no) (.no))) (.seq (.blk none (.seq (.reg 9 [] [] []) (.cond none (.seq (.reg 0 [] [] []) (.no)) (.no)))) (.reg 0 [] [] [])))))) (.seq (.reg 0 [] [] []) (.no))))
noncomputable def sem_railsame_Ints (n : Nat) (xs : List V) : Option V := if xs.length ≤ 26 then denF Tryd.prog (envOf []) n Tryd.f21 an_railsame_Ints xs else none
theorem ok_railsame_Ints (n : Nat) : SemOk Tryd.prog DW 21 (sem_railsame_Ints n) := fun xs y h => by
  unfold sem_railsame_Ints at h
  split at h
  · rename_i hl
    exact denF_ok stb Tryd.func21 (by kernel_rfl) (envOf_ok semsOk_nil) (by rw [Tryd.ntmps21]; exact hl) h
  · cases h
theorem eq_railsame_Ints (n : Nat) (x0 x1 : V) : sem_railsame_Ints n [x0, x1] =
 (lenS [x0]).bind fun v1 =>
 (lenS [x1]).bind fun v2 =>
 (bin2 Tryd.prog BinOp.neq 3 (ot 7) (ot 9) v1 v2).bind fun v3 =>
 condV v3 (
 some (vb false)) (
 JoinPt (fun vs4 =>
 some (vb true)) fun J5 =>
 (fixN (fun rec6 vs7 =>
 (lenS [x0]).bind fun v8 =>
 (bin2 Tryd.prog BinOp.lss 3 (ot 11) (ot 13) (List.getD vs7 0 V.any) v8).bind fun v9 =>
 condV v9 (
 (idxS 1 x0 (List.getD vs7 0 V.any)).bind fun v10 =>
 (ldp none v10).bind fun v11 =>
 (idxS 1 x1 (List.getD vs7 0 V.any)).bind fun v12 =>
 (ldp none v12).bind fun v13 =>
 (bin2 Tryd.prog BinOp.neq 3 (ot 20) (ot 24) v11 v13).bind fun v14 =>
 condV v14 (
 some (vb false)) (
 (bin2 Tryd.prog BinOp.add 3 (ot 15) (oc 1) (List.getD vs7 0 V.any) (vi 1)).bind fun v15 =>
 rec6 [v15])) (
 J5 [])) n) [(vi 0)]) := by kernel_rfl
noncomputable def t_railsame_Ints (a0 : (List Int)) (a1 : (List Int)) : Option Bool :=
 if (decide ((List.length a0 : Int) ≠ (List.length a1 : Int))) = true then (
 some false) else (
 join (fun (s7 : Unit) =>
 some true) fun j8 =>
 loopI a0 (fun (i16 : Int) x17 (s12 : Unit) k13 =>
 (idx a1 i16).bind fun r26 =>
 if (decide (x17 ≠ r26)) = true then (
 some false) else (
 k13 ())) (fun (s12 : Unit) =>
 j8 ()) ())
theorem ty_railsame_Ints {n : Nat} (hn : bigN ≤ n) (a0 : (List Int)) (a1 : (List Int)) : Rv (fun x : Bool => (vb x)) (sem_railsame_Ints n [(V.sl (List.map cI a0)), (V.sl (List.map cI a1))]) (t_railsame_Ints a0 a1) := by
  rw [eq_railsame_Ints]
  unfold t_railsame_Ints
  refine tb (x := (vi (List.length a0 : Int))) (p_len _) ?_
  refine tb (x := (vi (List.length a1 : Int))) (p_len _) ?_
  refine tb (x := (vb (decide ((List.length a0 : Int) ≠ (List.length a1 : Int))))) (d_neq) ?_
  refine tcond (fun h4 => ?_) (fun h4 => ?_)
  · exact rf_ret rfl
  · refine tjoin (mk := fun s7 : Unit => []) (fun s7 => ?_) fun J6 j8 h9 => ?_
    · exact rf_ret rfl
    · refine rf_loopI (mk := fun (i16 : Int) (s12 : Unit) => [(vi (i16 : Int))]) hn a0 () (fun i16 x17 h18 h19 h20 s12 rec10 k13 h14 => ?_) (fun s12 rec32 h31 => ?_)
      · refine tb (x := (vi (List.length a0 : Int))) (p_len _) ?_
        refine tb (x := (vb (decide ((i16 : Int) < (List.length a0 : Int))))) (d_lss) ?_
        refine tcond_t h20 ?_
        refine tb (x := (V.ptr [(vi x17)])) (p_idx_at (c := cI) (fun _ => rfl) h18) ?_
        refine tb (x := (vi x17)) (rfl) ?_
        refine tbo (p_idx (c := cI) (fun _ => rfl) a1 (i16 : Int)) fun r26 => ?_
        refine tb (x := (vi r26)) (rfl) ?_
        refine tb (x := (vb (decide (x17 ≠ r26)))) (d_neq) ?_
        refine tcond (fun h29 => ?_) (fun h29 => ?_)
        · exact rf_ret rfl
        · refine tb (x := (vi ((i16 : Int) + 1))) (p_incN h19) ?_
          exact h14 ()
      · refine tb (x := (vi (List.length a0 : Int))) (p_len _) ?_
        refine tb (x := (vb (decide ((List.length a0 : Int) < (List.length a0 : Int))))) (d_lss) ?_
        refine tcond_f h31 ?_
        exact h9 ()

/-! railpoint/railref2.NewAgent -/
def an_railref2_NewAgent : Ann := .seq (.reg 0 [] [] []) (.seq (.reg 0 [] [] [1000009, 10]) (.seq (.seq (.reg 0 [] [10002000010, 1003000010, 1004000010] []) (.blk (some [.o 5]) (.loop [.o 5, .s 6] (.seq (.seq (.reg 0 [] [] []) (.cond none (.no) (.no))) (.seq (.blk none (.reg 0 [] [] [19, 21])) (.reg 0 [] [] [])))))) (.seq (.reg 0 [] [] []) (.no))))
noncomputable def sem_railref2_NewAgent (n : Nat) (xs : List V) : Option V := if xs.length ≤ 25 then denM Tryd.prog (envOf []) n Tryd.f17 an_railref2_NewAgent [0, 0] (some 0) xs else none
theorem ok_railref2_NewAgent (n : Nat) : MSemOk Tryd.prog DW 17 (sem_railref2_NewAgent n) := fun xs y h => by
  unfold sem_railref2_NewAgent at h
  split at h
  · rename_i hl
    exact denM_ok Tryd.func17 (by kernel_rfl) (envOf_ok semsOk_nil) (by rw [Tryd.ntmps17]; exact hl) (by decide) h
  · cases h
theorem eq_railref2_NewAgent (n : Nat) (x0 x1 : V) : sem_railref2_NewAgent n [x0, x1] =
 (pureO x0).bind fun v1 =>
 (pureO x1).bind fun v2 =>
 ((fillL [(vi 0), (V.lit (Go.Value.slice none 0 0)), (V.lit (Go.Value.slice none 0 0)), (V.lit (Go.Value.slice none 0 0)), (V.lit (Go.Value.slice none 0 0))] [(0, 1, x0), (1, 1, x1)]).map V.agg).bind fun v3 =>
 (V.cellsO v3).bind fun v4 =>
 (some (softX 10002000010 (V.obj v4))).bind fun v5 =>
 (some (softX 1003000010 v5)).bind fun v6 =>
 (some (softX 1004000010 v6)).bind fun v7 =>
 JoinPt (fun vs8 =>
 objK (List.getD vs8 0 V.any) fun l10 =>
 some (V.tup [V.obj l10, V.any, V.any])) fun J9 =>
 (fixN (fun rec11 vs12 =>
 (bin2 Tryd.prog BinOp.lss 3 (ot 11) (oc 20) (List.getD vs12 1 V.any) (vi 20)).bind fun v13 =>
 condV v13 (
 (some V.any).bind fun v14 =>
 (some V.any).bind fun v15 =>
 ((nodeL (List.getD vs12 0 V.any) none 0).bind fun l16 => (l16[3]?).bind ownO).bind fun v17 =>
 (slcB 1 1 [(vi 0)] [(0, (vi (-1 : Int)))]).bind fun v18 =>
 (getV (List.getD vs12 0 V.any) [(Stp.mk none 3 0)]).bind fun v19 =>
 (modX (List.getD vs12 0 V.any) [] (Stp.mk none 3 0) V.any).bind fun v20 =>
 (appS 1 v19 v18).bind fun v21 =>
 (some V.any).bind fun v22 =>
 (some V.any).bind fun v23 =>
 (V.cellsO v21).bind fun v24 =>
 (setV v20 [] (Stp.mk none 3 0) 1 v24).bind fun v25 =>
 (bin2 Tryd.prog BinOp.add 3 (ot 13) (oc 1) (List.getD vs12 1 V.any) (vi 1)).bind fun v26 =>
 rec11 [v25, v26]) (
 J9 [(List.getD vs12 0 V.any)])) n) [v7, (vi 0)] := by kernel_rfl
noncomputable def t_railref2_NewAgent (a0 : Int) (a1 : (List T_Rule)) : Option T_railref2_Agent :=
 (loopU 0 20 (fun (i16 : Int) (s12 : T_railref2_Agent) k13 =>
 (oapp s12.Many ([(-1 : Int)] : (List Int))).bind fun r27 =>
 k13 (T_railref2_Agent.mk s12.Number s12.Table s12.L r27 s12.Done)) (fun (i16 : Int) (s12 : T_railref2_Agent) =>
 some (s12)) (T_railref2_Agent.mk a0 a1 [] [] [])).bind fun (s7 : T_railref2_Agent) =>
 some s7
theorem ty_railref2_NewAgent {n : Nat} (hn : bigN ≤ n) (a0 : Int) (a1 : (List T_Rule)) : Rv (fun x : T_railref2_Agent => (V.tup [(V.obj [(vi x.Number), (V.sl (List.map T_Rule.c x.Table)), (V.osl 10 (List.map T_railref2_Kept.c x.L)), (V.osl 1 (List.map cI x.Many)), (V.osl 1 (List.map cI x.Done))]), V.any, V.any])) (sem_railref2_NewAgent n [(vi a0), (V.sl (List.map T_Rule.c a1))]) (t_railref2_NewAgent a0 a1) := by
  rw [eq_railref2_NewAgent]
  unfold t_railref2_NewAgent
  refine tb (x := (vi a0)) rfl ?_
  refine tb (x := (V.sl (List.map T_Rule.c a1))) rfl ?_
  refine tb (x := (V.agg [(vi a0), (V.sl (List.map T_Rule.c a1)), (V.lit (Go.Value.slice none 0 0)), (V.lit (Go.Value.slice none 0 0)), (V.lit (Go.Value.slice none 0 0))])) (by kernel_rfl) ?_
  refine tb (x := [(vi a0), (V.sl (List.map T_Rule.c a1)), (V.lit (Go.Value.slice none 0 0)), (V.lit (Go.Value.slice none 0 0)), (V.lit (Go.Value.slice none 0 0))]) rfl ?_
  refine tb (x := (V.obj [(vi a0), (V.sl (List.map T_Rule.c a1)), (V.osl 10 (List.map T_railref2_Kept.c ([] : (List T_railref2_Kept)))), (V.lit (Go.Value.slice none 0 0)), (V.lit (Go.Value.slice none 0 0))])) (by kernel_rfl) ?_
  refine tb (x := (V.obj [(vi a0), (V.sl (List.map T_Rule.c a1)), (V.osl 10 (List.map T_railref2_Kept.c ([] : (List T_railref2_Kept)))), (V.osl 1 (List.map cI ([] : (List Int)))), (V.lit (Go.Value.slice none 0 0))])) (by kernel_rfl) ?_
  refine tb (x := (V.obj [(vi a0), (V.sl (List.map T_Rule.c a1)), (V.osl 10 (List.map T_railref2_Kept.c ([] : (List T_railref2_Kept)))), (V.osl 1 (List.map cI ([] : (List Int)))), (V.osl 1 (List.map cI ([] : (List Int))))])) (by kernel_rfl) ?_
  refine tjb (mk := fun s7 : T_railref2_Agent => [(V.obj [(vi s7.Number), (V.sl (List.map T_Rule.c s7.Table)), (V.osl 10 (List.map T_railref2_Kept.c s7.L)), (V.osl 1 (List.map cI s7.Many)), (V.osl 1 (List.map cI s7.Done))])]) (fun J6 => ?_) fun s7 => ?_
  · refine rf_loopU (mk := fun (i16 : Int) (s12 : T_railref2_Agent) => [(V.obj [(vi s12.Number), (V.sl (List.map T_Rule.c s12.Table)), (V.osl 10 (List.map T_railref2_Kept.c s12.L)), (V.osl 1 (List.map cI s12.Many)), (V.osl 1 (List.map cI s12.Done))]), (vi i16)]) hn _ _ (T_railref2_Agent.mk a0 a1 [] [] []) (fun i16 h17 h18 h19 s12 rec10 k13 h14 => ?_) (fun i16 s12 rec21 h20 => ?_)
    · refine tb (x := (vb (decide (i16 < 20)))) (d_lss) ?_
      refine tcond_t h17 ?_
      refine tb (x := V.any) rfl ?_
      refine tb (x := V.any) rfl ?_
      refine tb (x := V.any) rfl ?_
      refine tb (x := (V.sl (List.map cI ([(-1 : Int)] : (List Int))))) (by kernel_rfl) ?_
      refine tb (x := (V.osl 1 (List.map cI s12.Many))) rfl ?_
      refine tb (x := (V.obj [(vi s12.Number), (V.sl (List.map T_Rule.c s12.Table)), (V.osl 10 (List.map T_railref2_Kept.c s12.L)), V.any, (V.osl 1 (List.map cI s12.Done))])) (by kernel_rfl) ?_
      refine tbo (p_oapp (c := cI) (fun _ => rfl) s12.Many ([(-1 : Int)] : (List Int))) fun r27 => ?_
      refine tb (x := V.any) rfl ?_
      refine tb (x := V.any) rfl ?_
      refine tb (x := [(V.osl 1 (List.map cI r27))]) rfl ?_
      refine tb (x := (V.obj [(vi s12.Number), (V.sl (List.map T_Rule.c s12.Table)), (V.osl 10 (List.map T_railref2_Kept.c s12.L)), (V.osl 1 (List.map cI r27)), (V.osl 1 (List.map cI s12.Done))])) (by kernel_rfl) ?_
      refine tb (x := (vi (i16 + 1))) (p_inc h18 h19) ?_
      exact h14 (T_railref2_Agent.mk s12.Number s12.Table s12.L r27 s12.Done)
    · refine tb (x := (vb (decide (i16 < 20)))) (d_lss) ?_
      refine tcond_f h20 ?_
      exact rf_j rfl
  · refine tobjK ?_
    exact rf_ret rfl

/-! railpoint/railref2.In -/
def an_railref2_In : Ann := .seq (.reg 0 [] [] []) (.seq (.seq (.reg 0 [] [] []) (.blk (some []) (.loop [.s 5] (.seq (.seq (.reg 0 [] [] []) (.cond none (.no) (.no))) (.seq (.blk none (.seq (.reg 0 [] [] []) (.cond none (.seq (.reg 0 [] [] []) (.no)) (.no)))) (.reg 0 [] [] [])))))) (.seq (.reg 0 [] [] []) (.no)))
noncomputable def sem_railref2_In (n : Nat) (xs : List V) : Option V := if xs.length ≤ 18 then denF Tryd.prog (envOf []) n Tryd.f45 an_railref2_In xs else none
theorem ok_railref2_In (n : Nat) : SemOk Tryd.prog DW 45 (sem_railref2_In n) := fun xs y h => by
  unfold sem_railref2_In at h
  split at h
  · rename_i hl
    exact denF_ok stb Tryd.func45 (by kernel_rfl) (envOf_ok semsOk_nil) (by rw [Tryd.ntmps45]; exact hl) h
  · cases h
theorem eq_railref2_In (n : Nat) (x0 x1 : V) : sem_railref2_In n [x0, x1] =
 JoinPt (fun vs1 =>
 some (vb false)) fun J2 =>
 (fixN (fun rec3 vs4 =>
 (lenS [x0]).bind fun v5 =>
 (bin2 Tryd.prog BinOp.lss 3 (ot 6) (ot 8) (List.getD vs4 0 V.any) v5).bind fun v6 =>
 condV v6 (
 (idxS 1 x0 (List.getD vs4 0 V.any)).bind fun v7 =>
 (ldp none v7).bind fun v8 =>
 (bin2 Tryd.prog BinOp.eql 3 (ot 15) (ot 16) v8 x1).bind fun v9 =>
 condV v9 (
 some (vb true)) (
 (bin2 Tryd.prog BinOp.add 3 (ot 10) (oc 1) (List.getD vs4 0 V.any) (vi 1)).bind fun v10 =>
 rec3 [v10])) (
 J2 [])) n) [(vi 0)] := by kernel_rfl
noncomputable def t_railref2_In (a0 : (List Int)) (a1 : Int) : Option Bool :=
 join (fun (s3 : Unit) =>
 some false) fun j4 =>
 loopI a0 (fun (i12 : Int) x13 (s8 : Unit) k9 =>
 if (decide (x13 = a1)) = true then (
 some true) else (
 k9 ())) (fun (s8 : Unit) =>
 j4 ()) ()
theorem ty_railref2_In {n : Nat} (hn : bigN ≤ n) (a0 : (List Int)) (a1 : Int) : Rv (fun x : Bool => (vb x)) (sem_railref2_In n [(V.sl (List.map cI a0)), (vi a1)]) (t_railref2_In a0 a1) := by
  rw [eq_railref2_In]
  unfold t_railref2_In
  refine tjoin (mk := fun s3 : Unit => []) (fun s3 => ?_) fun J2 j4 h5 => ?_
  · exact rf_ret rfl
  · refine rf_loopI (mk := fun (i12 : Int) (s8 : Unit) => [(vi (i12 : Int))]) hn a0 () (fun i12 x13 h14 h15 h16 s8 rec6 k9 h10 => ?_) (fun s8 rec25 h24 => ?_)
    · refine tb (x := (vi (List.length a0 : Int))) (p_len _) ?_
      refine tb (x := (vb (decide ((i12 : Int) < (List.length a0 : Int))))) (d_lss) ?_
      refine tcond_t h16 ?_
      refine tb (x := (V.ptr [(vi x13)])) (p_idx_at (c := cI) (fun _ => rfl) h14) ?_
      refine tb (x := (vi x13)) (rfl) ?_
      refine tb (x := (vb (decide (x13 = a1)))) (d_eql) ?_
      refine tcond (fun h22 => ?_) (fun h22 => ?_)
      · exact rf_ret rfl
      · refine tb (x := (vi ((i12 : Int) + 1))) (p_incN h15) ?_
        exact h10 ()
    · refine tb (x := (vi (List.length a0 : Int))) (p_len _) ?_
      refine tb (x := (vb (decide ((List.length a0 : Int) < (List.length a0 : Int))))) (d_lss) ?_
      refine tcond_f h24 ?_
      exact h5 ()

/-!   railpoint/railref2.Agent .Find -/
def an_railref2_Agent_Find : Ann := .seq (.reg 0 [] [] []) (.seq (.seq (.reg 0 [] [] []) (.blk (some []) (.loop [.s 7] (.seq (.seq (.reg 0 [] [] []) (.cond none (.no) (.no))) (.seq (.blk none (.seq (.reg 0 [] [] []) (.cond none (.seq (.reg 0 [] [] []) (.no)) (.no)))) (.reg 0 [] [] [])))))) (.seq (.reg 0 [] [] []) (.no)))
noncomputable def sem_railref2_Agent_Find (n : Nat) (xs : List V) : Option V := if xs.length ≤ 40 then denF Tryd.prog (envOf []) n Tryd.f46 an_railref2_Agent_Find xs else none
theorem ok_railref2_Agent_Find (n : Nat) : SemOk Tryd.prog DW 46 (sem_railref2_Agent_Find n) := fun xs y h => by
  unfold sem_railref2_Agent_Find at h
  split at h
  · rename_i hl
    exact denF_ok stb Tryd.func46 (by kernel_rfl) (envOf_ok semsOk_nil) (by rw [Tryd.ntmps46]; exact hl) h
  · cases h
theorem eq_railref2_Agent_Find (n : Nat) (x0 x1 x2 : V) : sem_railref2_Agent_Find n [x0, x1, x2] =
 JoinPt (fun vs1 =>
 some (vi (-1 : Int))) fun J2 =>
 (fixN (fun rec3 vs4 =>
 (ptrF 0 x0).bind fun v5 =>
 (ptrF 2 v5).bind fun v6 =>
 (ldp none v6).bind fun v7 =>
 (lenS [v7]).bind fun v8 =>
 (bin2 Tryd.prog BinOp.lss 3 (ot 8) (ot 13) (List.getD vs4 0 V.any) v8).bind fun v9 =>
 condV v9 (
 (ptrF 0 x0).bind fun v10 =>
 (ptrF 2 v10).bind fun v11 =>
 (ldp none v11).bind fun v12 =>
 (idxS 10 v12 (List.getD vs4 0 V.any)).bind fun v13 =>
 (ptrF 0 v13).bind fun v14 =>
 (ldp none v14).bind fun v15 =>
 (bin2 Tryd.prog BinOp.eql 3 (ot 24) (ot 25) v15 x1).bind fun v16 =>
 (guardV v16 true (some x0)).bind fun v17 =>
 (guardV v16 true ((ptrF 0 v17).bind fun v18 =>
 some v18)).bind fun v19 =>
 (guardV v16 true ((ptrF 2 v19).bind fun v20 =>
 some v20)).bind fun v21 =>
 (guardV v16 true ((ldp none v21).bind fun v22 =>
 some v22)).bind fun v23 =>
 (guardV v16 true (some (List.getD vs4 0 V.any))).bind fun v24 =>
 (guardV v16 true ((idxS 10 v23 v24).bind fun v25 =>
 some v25)).bind fun v26 =>
 (guardV v16 true ((ptrF 1 v26).bind fun v27 =>
 some v27)).bind fun v28 =>
 (guardV v16 true ((ldp none v28).bind fun v29 =>
 some v29)).bind fun v30 =>
 (guardV v16 true (some x2)).bind fun v31 =>
 (guardV v16 true ((bin2 Tryd.prog BinOp.eql 3 (ot 35) (ot 36) v30 v31).bind fun v32 =>
 some v32)).bind fun v33 =>
 (pickV v16 v33 (vb false)).bind fun v34 =>
 condV v34 (
 some (List.getD vs4 0 V.any)) (
 (bin2 Tryd.prog BinOp.add 3 (ot 15) (oc 1) (List.getD vs4 0 V.any) (vi 1)).bind fun v35 =>
 rec3 [v35])) (
 J2 [])) n) [(vi 0)] := by kernel_rfl
noncomputable def t_railref2_Agent_Find (a0 : T_railref2_Agent) (a1 : Int) (a2 : Int) : Option Int :=
 join (fun (s3 : Unit) =>
 some (-1 : Int)) fun j4 =>
 loopI a0.L (fun (i12 : Int) x13 (s8 : Unit) k9 =>
 if ((decide (x13.Round = a1)) && (decide (x13.Index = a2))) = true then (
 some i12) else (
 k9 ())) (fun (s8 : Unit) =>
 j4 ()) ()
theorem ty_railref2_Agent_Find {n : Nat} (hn : bigN ≤ n) (a0 : T_railref2_Agent) (a1 : Int) (a2 : Int) : Rv (fun x : Int => (vi x)) (sem_railref2_Agent_Find n [(V.ptr (T_railref2_Agent.c a0)), (vi a1), (vi a2)]) (t_railref2_Agent_Find a0 a1 a2) := by
  rw [eq_railref2_Agent_Find]
  unfold t_railref2_Agent_Find
  refine tjoin (mk := fun s3 : Unit => []) (fun s3 => ?_) fun J2 j4 h5 => ?_
  · exact rf_ret rfl
  · refine rf_loopI (mk := fun (i12 : Int) (s8 : Unit) => [(vi (i12 : Int))]) hn a0.L () (fun i12 x13 h14 h15 h16 s8 rec6 k9 h10 => ?_) (fun s8 rec60 h59 => ?_)
    · refine tb (x := (V.ptr (T_railref2_Agent.c a0))) (rfl) ?_
      refine tb (x := (V.ptr (List.drop 2 (T_railref2_Agent.c a0)))) (rfl) ?_
      refine tb (x := (V.sl (List.map T_railref2_Kept.c a0.L))) (rfl) ?_
      refine tb (x := (vi (List.length a0.L : Int))) (p_len _) ?_
      refine tb (x := (vb (decide ((i12 : Int) < (List.length a0.L : Int))))) (d_lss) ?_
      refine tcond_t h16 ?_
      refine tb (x := (V.ptr (T_railref2_Agent.c a0))) (rfl) ?_
      refine tb (x := (V.ptr (List.drop 2 (T_railref2_Agent.c a0)))) (rfl) ?_
      refine tb (x := (V.sl (List.map T_railref2_Kept.c a0.L))) (rfl) ?_
      refine tb (x := (V.ptr (T_railref2_Kept.c x13))) (p_idx_at (c := T_railref2_Kept.c) (fun _ => rfl) h14) ?_
      refine tb (x := (V.ptr (T_railref2_Kept.c x13))) (rfl) ?_
      refine tb (x := (vi x13.Round)) (rfl) ?_
      refine tb (x := (vb (decide (x13.Round = a1)))) (d_eql) ?_
      refine tg (x := (V.ptr (T_railref2_Agent.c a0))) (fun h29 => rfl) ?_
      refine tg (x := (V.ptr (T_railref2_Agent.c a0))) (fun h31 => by first | exact bind_some_eq (rfl) | (simp only [gv_t h31]; exact bind_some_eq (rfl))) ?_
      refine tg (x := (V.ptr (List.drop 2 (T_railref2_Agent.c a0)))) (fun h34 => by first | exact bind_some_eq (rfl) | (simp only [gv_t h34]; exact bind_some_eq (rfl))) ?_
      refine tg (x := (V.sl (List.map T_railref2_Kept.c a0.L))) (fun h37 => by first | exact bind_some_eq (rfl) | (simp only [gv_t h37]; exact bind_some_eq (rfl))) ?_
      refine tg (x := (vi (i12 : Int))) (fun h40 => rfl) ?_
      refine tg (x := (V.ptr (T_railref2_Kept.c x13))) (fun h42 => by simp only [gv_t h42]; exact bind_some_eq (p_idx_at (c := T_railref2_Kept.c) (fun _ => rfl) h14)) ?_
      refine tg (x := (V.ptr (List.drop 1 (T_railref2_Kept.c x13)))) (fun h45 => by first | exact bind_some_eq (rfl) | (simp only [gv_t h45]; exact bind_some_eq (rfl))) ?_
      refine tg (x := (vi x13.Index)) (fun h48 => by first | exact bind_some_eq (rfl) | (simp only [gv_t h48]; exact bind_some_eq (rfl))) ?_
      refine tg (x := (vi a2)) (fun h51 => rfl) ?_
      refine tg (x := (vb (decide (x13.Index = a2)))) (fun h53 => by simp only [gv_t h53]; exact bind_some_eq (d_eql)) ?_
      refine tb (x := (vb ((decide (x13.Round = a1)) && (decide (x13.Index = a2))))) (pick_and (fun h9 => gv_t h9)) ?_
      refine tcond (fun h57 => ?_) (fun h57 => ?_)
      · exact rf_ret rfl
      · refine tb (x := (vi ((i12 : Int) + 1))) (p_incN h15) ?_
        exact h10 ()
    · refine tb (x := (V.ptr (T_railref2_Agent.c a0))) (rfl) ?_
      refine tb (x := (V.ptr (List.drop 2 (T_railref2_Agent.c a0)))) (rfl) ?_
      refine tb (x := (V.sl (List.map T_railref2_Kept.c a0.L))) (rfl) ?_
      refine tb (x := (vi (List.length a0.L : Int))) (p_len _) ?_
      refine tb (x := (vb (decide ((List.length a0.L : Int) < (List.length a0.L : Int))))) (d_lss) ?_
      refine tcond_f h59 ?_
      exact h5 ()

/-!   railpoint/railref2.Agent .Hear -/
def an_railref2_Agent_Hear : Ann := .seq (.reg 0 [] [] []) (.seq (.reg 0 [] [] []) (.seq (.seq (.reg 0 [] [] []) (.cond none (.seq (.reg 0 [] [] []) (.no)) (.no))) (.seq (.seq (.reg 7 [] [] []) (.cond none (.seq (.reg 0 [] [] []) (.no)) (.no))) (.seq (.seq (.reg 0 [] [] []) (.cond none (.seq (.reg 0 [] [] []) (.no)) (.no))) (.seq (.reg 8 [] [] [26, 2000029]) (.seq (.seq (.reg 0 [] [] []) (.cond none (.seq (.seq (.reg 0 [] [] []) (.cond none (.seq (.reg 10 [] [] []) (.no)) (.no))) (.seq (.seq (.reg 9 [] [] [45]) (.cond (some [.o 0]) (.reg 9 [] [] [54]) (.no))) (.seq (.reg 0 [] [] []) (.no)))) (.no))) (.seq (.seq (.reg 0 [] [] [2000068]) (.cond (some [.o 0]) (.reg 13 [] [] [75, 84]) (.no))) (.seq (.reg 0 [] [] []) (.no)))))))))
noncomputable def sem_railref2_Agent_Hear (n : Nat) (xs : List V) : Option V := if xs.length ≤ 87 then denM Tryd.prog (envOf [(44, (sem_railref2_Msg n)), (45, (sem_railref2_In n)), (46, (sem_railref2_Agent_Find n))]) n Tryd.f18 an_railref2_Agent_Hear [2, 0] none xs else none
theorem ok_railref2_Agent_Hear (n : Nat) : MSemOk Tryd.prog DW 18 (sem_railref2_Agent_Hear n) := fun xs y h => by
  unfold sem_railref2_Agent_Hear at h
  split at h
  · rename_i hl
    exact denM_ok Tryd.func18 (by kernel_rfl) (envOf_ok (semsOk_cons (ok_railref2_Msg n) (semsOk_cons (ok_railref2_In n) (semsOk_cons (ok_railref2_Agent_Find n) semsOk_nil)))) (by rw [Tryd.ntmps18]; exact hl) (by decide) h
  · cases h
theorem eq_railref2_Agent_Hear (n : Nat) (x0 x1 : V) : sem_railref2_Agent_Hear n [x0, x1] =
 (objG x0).bind fun v1 =>
 (pureO x1).bind fun v2 =>
 (V.cellsO x1).bind fun v3 =>
 (ldk (some 12) (List.drop 0 v3)).bind fun v4 =>
 ((sem_railref2_Msg n) [v4]).bind fun v5 =>
 (bin2 Tryd.prog BinOp.neq 3 (ot 10) (oc 0) v5 (vi 0)).bind fun v6 =>
 condV v6 (
 some (V.tup [(V.tup [(V.sl []), v5]), x0, V.any])) (
 (ldk none (List.drop 1 v3)).bind fun v7 =>
 (some V.any).bind fun v8 =>
 (some V.any).bind fun v9 =>
 ((nodeL x0 none 0).bind fun l10 => (ldk none (List.drop 0 l10)).bind pureO).bind fun v11 =>
 (bin2 Tryd.prog BinOp.neq 3 (ot 14) (ot 18) v7 v11).bind fun v12 =>
 condV v12 (
 some (V.tup [(V.tup [(V.sl []), (vi 5)]), x0, V.any])) (
 (ldk none (List.drop 0 v3)).bind fun v13 =>
 (bin2 Tryd.prog BinOp.eql 3 (ot 21) (oc 3) v13 (vi 3)).bind fun v14 =>
 condV v14 (
 some (V.tup [(V.tup [(V.sl []), (vi 6)]), x0, V.any])) (
 (some V.any).bind fun v15 =>
 (some V.any).bind fun v16 =>
 ((nodeL x0 none 0).bind fun l17 => (l17[4]?).bind ownO).bind fun v18 =>
 (ldk none (List.drop 2 v3)).bind fun v19 =>
 (some (frzC x0 [(Stp.mk none 4 0)])).bind fun v20 =>
 ((sem_railref2_In n) [v20, v19]).bind fun v22 =>
 (litQ v22).bind fun v21 =>
 (ldk none (List.drop 0 v3)).bind fun v23 =>
 (bin2 Tryd.prog BinOp.eql 3 (ot 31) (oc 2) v23 (vi 2)).bind fun v24 =>
 condV v24 (
 condV v21 (
 (some V.any).bind fun v25 =>
 (some V.any).bind fun v26 =>
 ((nodeL x0 none 0).bind fun l27 => (ldk none (List.drop 0 l27)).bind pureO).bind fun v28 =>
 (ldk none (List.drop 2 v3)).bind fun v29 =>
 ((fillL [(vi 0), (vi 0), (vi 0), (vi 0), (vi 0), (vb false), (vi 0), (vi 0), (vi 0), (vi 0), (vi 0), (vi 0)] [(0, 1, (vi 3)), (1, 1, v28), (2, 1, v29)]).map V.agg).bind fun v30 =>
 (slcB 12 1 [(vi 0), (vi 0), (vi 0), (vi 0), (vi 0), (vb false), (vi 0), (vi 0), (vi 0), (vi 0), (vi 0), (vi 0)] [(0, v30)]).bind fun v31 =>
 some (V.tup [(V.tup [v31, (vi 0)]), x0, V.any])) (
 (some V.any).bind fun v32 =>
 (some V.any).bind fun v33 =>
 ((nodeL x0 none 0).bind fun l34 => (l34[3]?).bind ownO).bind fun v35 =>
 (ldk none (List.drop 2 v3)).bind fun v36 =>
 (((getV x0 [(Stp.mk none 3 0)]).bind oslR).bind fun rows37 => inB (List.length rows37) v36).bind fun v38 =>
 (((getV x0 [(Stp.mk none 3 0)]).bind fun y => nodeL y (some (natOf v36)) 1).bind fun l39 => (ldk none (List.drop 0 l39)).bind pureO).bind fun v40 =>
 (bin2 Tryd.prog BinOp.lss 3 (ot 49) (oc 0) v40 (vi 0)).bind fun v41 =>
 JoinPt (fun vs42 =>
 some (V.tup [(V.tup [(V.sl []), (vi 0)]), (List.getD vs42 0 V.any), V.any])) fun J43 =>
 condV v41 (
 (some V.any).bind fun v44 =>
 (some V.any).bind fun v45 =>
 ((nodeL x0 none 0).bind fun l46 => (l46[3]?).bind ownO).bind fun v47 =>
 (ldk none (List.drop 2 v3)).bind fun v48 =>
 (ldk none (List.drop 3 v3)).bind fun v49 =>
 (((getV x0 [(Stp.mk none 3 0)]).bind oslR).bind fun rows50 => inB (List.length rows50) v48).bind fun v51 =>
 (V.cellsO v49).bind fun v52 =>
 (setV x0 [(Stp.mk none 3 0)] (Stp.mk (some (natOf v48)) 0 1) 1 v52).bind fun v53 =>
 J43 [v53]) (
 J43 [x0]))) (
 (scal1 Tryd.prog (Op.unary Go.UnOp.not) v21).bind fun v54 =>
 (guardV v54 true (some V.any)).bind fun v55 =>
 (guardV v54 true (some V.any)).bind fun v56 =>
 (guardV v54 true ((gate v54 true (ldk none (List.drop 2 v3))).bind fun v57 =>
 some v57)).bind fun v58 =>
 (guardV v54 true (some V.any)).bind fun v59 =>
 (guardV v54 true ((gate v54 true (ldk none (List.drop 3 v3))).bind fun v60 =>
 some v60)).bind fun v61 =>
 (guardV v54 true ((some (gateA [(v54, true)] (frzQ x0))).bind fun v62 =>
 ((sem_railref2_Agent_Find n) [v62, v58, v61]).bind litQ)).bind fun v63 =>
 (guardV v54 true ((bin2 Tryd.prog BinOp.lss 3 (ot 68) (oc 0) v63 (vi 0)).bind fun v64 =>
 some v64)).bind fun v65 =>
 (pickV v54 v65 (vb false)).bind fun v66 =>
 JoinPt (fun vs67 =>
 some (V.tup [(V.tup [(V.sl []), (vi 0)]), (List.getD vs67 0 V.any), V.any])) fun J68 =>
 condV v66 (
 (some V.any).bind fun v69 =>
 (some V.any).bind fun v70 =>
 ((nodeL x0 none 0).bind fun l71 => (l71[2]?).bind ownO).bind fun v72 =>
 (ldk none (List.drop 2 v3)).bind fun v73 =>
 (ldk none (List.drop 3 v3)).bind fun v74 =>
 (ldk (some 8) (List.drop 4 v3)).bind fun v75 =>
 ((fillL [(vi 0), (vi 0), (vi 0), (vb false), (vi 0), (vi 0), (vi 0), (vi 0), (vi 0), (vi 0)] [(0, 1, v73), (1, 1, v74), (2, 8, v75)]).map V.agg).bind fun v76 =>
 (slcB 10 1 [(vi 0), (vi 0), (vi 0), (vb false), (vi 0), (vi 0), (vi 0), (vi 0), (vi 0), (vi 0)] [(0, v76)]).bind fun v77 =>
 (getV x0 [(Stp.mk none 2 0)]).bind fun v78 =>
 (modX x0 [] (Stp.mk none 2 0) V.any).bind fun v79 =>
 (appS 10 v78 v77).bind fun v80 =>
 (some V.any).bind fun v81 =>
 (some V.any).bind fun v82 =>
 (V.cellsO v80).bind fun v83 =>
 (setV v79 [] (Stp.mk none 2 0) 1 v83).bind fun v84 =>
 J68 [v84]) (
 J68 [x0]))))) := by kernel_rfl
noncomputable def t_railref2_Agent_Hear (a0 : T_railref2_Agent) (a1 : T_Msg) : Option ((List T_Msg) × Int × T_railref2_Agent) :=
 (t_railref2_Msg a1).bind fun r6 =>
 if (decide (r6 ≠ 0)) = true then (
 some ([], r6, a0)) else (
 if (decide (a1.Switch ≠ a0.Number)) = true then (
 some ([], 5, a0)) else (
 if (decide (a1.Kind = 3)) = true then (
 some ([], 6, a0)) else (
 (t_railref2_In a0.Done a1.Round).bind fun r23 =>
 if (decide (a1.Kind = 2)) = true then (
 if r23 = true then (
 some (([(T_Msg.mk 3 a0.Number a1.Round 0 (T_Op.mk 0 false (T_Rule.mk 0 (T_Cube.mk 0 0) 0 0 0)))] : (List T_Msg)), 0, a0)) else (
 need (decide (0 ≤ a1.Round) && decide (a1.Round < (List.length a0.Many : Int))) (
 (idx a0.Many a1.Round).bind fun r40 =>
 (if (decide (r40 < 0)) = true then (
 need (decide (0 ≤ a1.Round) && decide (a1.Round < (List.length a0.Many : Int))) (
 (oset a0.Many a1.Round a1.Index).bind fun r56 =>
 some (T_railref2_Agent.mk a0.Number a0.Table a0.L r56 a0.Done))) else (
 some (a0))).bind fun (s45 : T_railref2_Agent) =>
 some ([], 0, s45)))) else (
 (gd (!r23) default (t_railref2_Agent_Find a0 a1.Round a1.Index)).bind fun r72 =>
 (if ((!r23) && (decide (r72 < 0))) = true then (
 (oapp a0.L ([(T_railref2_Kept.mk a1.Round a1.Index a1.Op)] : (List T_railref2_Kept))).bind fun r92 =>
 some (T_railref2_Agent.mk a0.Number a0.Table r92 a0.Many a0.Done)) else (
 some (a0))).bind fun (s80 : T_railref2_Agent) =>
 some ([], 0, s80)))))
theorem ty_railref2_Agent_Hear {n : Nat} (hn : bigN ≤ n) (a0 : T_railref2_Agent) (a1 : T_Msg) : Rv (fun x : ((List T_Msg) × Int × T_railref2_Agent) => (V.tup [(V.tup [(V.sl (List.map T_Msg.c x.1)), (vi x.2.1)]), (V.obj [(vi x.2.2.Number), (V.sl (List.map T_Rule.c x.2.2.Table)), (V.osl 10 (List.map T_railref2_Kept.c x.2.2.L)), (V.osl 1 (List.map cI x.2.2.Many)), (V.osl 1 (List.map cI x.2.2.Done))]), V.any])) (sem_railref2_Agent_Hear n [(V.obj [(vi a0.Number), (V.sl (List.map T_Rule.c a0.Table)), (V.osl 10 (List.map T_railref2_Kept.c a0.L)), (V.osl 1 (List.map cI a0.Many)), (V.osl 1 (List.map cI a0.Done))]), (T_Msg.e a1)]) (t_railref2_Agent_Hear a0 a1) := by
  rw [eq_railref2_Agent_Hear]
  unfold t_railref2_Agent_Hear
  refine tb (x := V.any) rfl ?_
  refine tb (x := (T_Msg.e a1)) rfl ?_
  refine tb (x := (T_Msg.c a1)) rfl ?_
  refine tb (x := (T_Msg.e a1)) (rfl) ?_
  refine tbo (ty_railref2_Msg hn a1) fun r6 => ?_
  refine tb (x := (vb (decide (r6 ≠ 0)))) (d_neq) ?_
  refine tcond (fun h8 => ?_) (fun h8 => ?_)
  · exact rf_ret rfl
  · refine tb (x := (vi a1.Switch)) (rfl) ?_
    refine tb (x := V.any) rfl ?_
    refine tb (x := V.any) rfl ?_
    refine tb (x := (vi a0.Number)) (rfl) ?_
    refine tb (x := (vb (decide (a1.Switch ≠ a0.Number)))) (d_neq) ?_
    refine tcond (fun h14 => ?_) (fun h14 => ?_)
    · exact rf_ret rfl
    · refine tb (x := (vi a1.Kind)) (rfl) ?_
      refine tb (x := (vb (decide (a1.Kind = 3)))) (d_eql) ?_
      refine tcond (fun h17 => ?_) (fun h17 => ?_)
      · exact rf_ret rfl
      · refine tb (x := V.any) rfl ?_
        refine tb (x := V.any) rfl ?_
        refine tb (x := V.any) rfl ?_
        refine tb (x := (vi a1.Round)) (rfl) ?_
        refine tb (x := (V.sl (List.map cI a0.Done))) (p_frzS (k := 1) (c' := cI) (fun _ => rfl) a0.Done) ?_
        refine tbo (ty_railref2_In hn a0.Done a1.Round) fun r23 => ?_
        refine tb (x := (vb r23)) rfl ?_
        refine tb (x := (vi a1.Kind)) (rfl) ?_
        refine tb (x := (vb (decide (a1.Kind = 2)))) (d_eql) ?_
        refine tcond (fun h27 => ?_) (fun h27 => ?_)
        · refine tcond (fun h28 => ?_) (fun h28 => ?_)
          · refine tb (x := V.any) rfl ?_
            refine tb (x := V.any) rfl ?_
            refine tb (x := (vi a0.Number)) (rfl) ?_
            refine tb (x := (vi a1.Round)) (rfl) ?_
            refine tb (x := (T_Msg.e (T_Msg.mk 3 a0.Number a1.Round 0 (T_Op.mk 0 false (T_Rule.mk 0 (T_Cube.mk 0 0) 0 0 0))))) (by kernel_rfl) ?_
            refine tb (x := (V.sl (List.map T_Msg.c ([(T_Msg.mk 3 a0.Number a1.Round 0 (T_Op.mk 0 false (T_Rule.mk 0 (T_Cube.mk 0 0) 0 0 0)))] : (List T_Msg))))) (by kernel_rfl) ?_
            exact rf_ret rfl
          · refine tb (x := V.any) rfl ?_
            refine tb (x := V.any) rfl ?_
            refine tb (x := V.any) rfl ?_
            refine tb (x := (vi a1.Round)) (rfl) ?_
            refine p_asc ?_
            refine p_asc ?_
            refine p_inF (y := (V.osl 1 (List.map cI a0.Many))) rfl ?_
            refine p_in0 ?_
            refine p_cas ?_
            refine tneed (x := V.any) (fun h39 => p_inB (c := cI) (k := 1) a0.Many a1.Round h39) fun h39 => ?_
            refine p_asc ?_
            refine p_asc ?_
            refine p_inF (y := (V.osl 1 (List.map cI a0.Many))) rfl ?_
            refine p_in0 ?_
            refine p_cas ?_
            refine tbo (p_oload (e1 := fun x : Int => (vi x)) (c := cI) (fun _ => rfl) a0.Many a1.Round (fun _ => rfl)) fun r40 => ?_
            refine tb (x := (vb (decide (r40 < 0)))) (d_lss) ?_
            refine tjb (mk := fun s45 : T_railref2_Agent => [(V.obj [(vi s45.Number), (V.sl (List.map T_Rule.c s45.Table)), (V.osl 10 (List.map T_railref2_Kept.c s45.L)), (V.osl 1 (List.map cI s45.Many)), (V.osl 1 (List.map cI s45.Done))])]) (fun J44 => ?_) fun s45 => ?_
            · refine tcond (fun h48 => ?_) (fun h48 => ?_)
              · refine tb (x := V.any) rfl ?_
                refine tb (x := V.any) rfl ?_
                refine tb (x := V.any) rfl ?_
                refine tb (x := (vi a1.Round)) (rfl) ?_
                refine tb (x := (vi a1.Index)) (rfl) ?_
                refine p_asc ?_
                refine p_asc ?_
                refine p_inF (y := (V.osl 1 (List.map cI a0.Many))) rfl ?_
                refine p_in0 ?_
                refine p_cas ?_
                refine tneed (x := V.any) (fun h54 => p_inB (c := cI) (k := 1) a0.Many a1.Round h54) fun h54 => ?_
                refine tb (x := cI a1.Index) rfl ?_
                refine tbo (p_setF (e1 := fun a => (V.osl 1 (List.map cI a))) (y := (V.osl 1 (List.map cI a0.Many))) rfl (p_oset (c := cI) (fun _ => rfl) a0.Many a1.Round a1.Index)) fun r56 => ?_
                exact rf_j rfl
              · exact rf_j rfl
            · exact rf_ret rfl
        · refine tb (x := (vb (!r23))) (d_not) ?_
          refine tg (x := V.any) (fun h58 => rfl) ?_
          refine tg (x := V.any) (fun h60 => rfl) ?_
          refine tg (x := (vi a1.Round)) (fun h62 => bind_some_eq (gate_pos h62 (rfl))) ?_
          refine tg (x := V.any) (fun h65 => rfl) ?_
          refine tg (x := (vi a1.Index)) (fun h67 => bind_some_eq (gate_pos h67 (rfl))) ?_
          refine tgo (e1 := fun r72 => (vi r72)) (fun h70 => ?_) fun r72 => ?_
          · simp only [gv_t h70]
            refine tb (x := V.ptr (T_railref2_Agent.c a0)) (p_gate1 h70 (p_frzQ (p_fzc rfl (p_fzc rfl (p_fzc (p_frzl (c' := T_railref2_Kept.c) (fun _ => rfl) _) (p_fzc (p_frzl (c' := cI) (fun _ => rfl) _) (p_fzc (p_frzl (c' := cI) (fun _ => rfl) _) p_fz0))))))) ?_
            exact rf_litQ (ty_railref2_Agent_Find hn a0 a1.Round a1.Index) (fun _ => rfl)
          · refine tg (x := (vb (decide (r72 < 0)))) (fun h74 => by simp only [gv_t h74]; exact bind_some_eq (d_lss)) ?_
            refine tb (x := (vb ((!r23) && (decide (r72 < 0))))) (pick_and (fun h9 => gv_t h9)) ?_
            refine tjb (mk := fun s80 : T_railref2_Agent => [(V.obj [(vi s80.Number), (V.sl (List.map T_Rule.c s80.Table)), (V.osl 10 (List.map T_railref2_Kept.c s80.L)), (V.osl 1 (List.map cI s80.Many)), (V.osl 1 (List.map cI s80.Done))])]) (fun J79 => ?_) fun s80 => ?_
            · refine tcond (fun h83 => ?_) (fun h83 => ?_)
              · refine tb (x := V.any) rfl ?_
                refine tb (x := V.any) rfl ?_
                refine tb (x := V.any) rfl ?_
                refine tb (x := (vi a1.Round)) (rfl) ?_
                refine tb (x := (vi a1.Index)) (rfl) ?_
                refine tb (x := (T_Op.e a1.Op)) (rfl) ?_
                refine tb (x := (T_railref2_Kept.e (T_railref2_Kept.mk a1.Round a1.Index a1.Op))) (by kernel_rfl) ?_
                refine tb (x := (V.sl (List.map T_railref2_Kept.c ([(T_railref2_Kept.mk a1.Round a1.Index a1.Op)] : (List T_railref2_Kept))))) (by kernel_rfl) ?_
                refine tb (x := (V.osl 10 (List.map T_railref2_Kept.c a0.L))) rfl ?_
                refine tb (x := (V.obj [(vi a0.Number), (V.sl (List.map T_Rule.c a0.Table)), V.any, (V.osl 1 (List.map cI a0.Many)), (V.osl 1 (List.map cI a0.Done))])) (by kernel_rfl) ?_
                refine tbo (p_oapp (c := T_railref2_Kept.c) (fun _ => rfl) a0.L ([(T_railref2_Kept.mk a1.Round a1.Index a1.Op)] : (List T_railref2_Kept))) fun r92 => ?_
                refine tb (x := V.any) rfl ?_
                refine tb (x := V.any) rfl ?_
                refine tb (x := [(V.osl 10 (List.map T_railref2_Kept.c r92))]) rfl ?_
                refine tb (x := (V.obj [(vi a0.Number), (V.sl (List.map T_Rule.c a0.Table)), (V.osl 10 (List.map T_railref2_Kept.c r92)), (V.osl 1 (List.map cI a0.Many)), (V.osl 1 (List.map cI a0.Done))])) (by kernel_rfl) ?_
                exact rf_j rfl
              · exact rf_j rfl
            · exact rf_ret rfl

/-!   railpoint/railref2.Agent .Heard -/
def an_railref2_Agent_Heard : Ann := .seq (.reg 0 [] [] []) (.seq (.reg 0 [] [] []) (.seq (.seq (.reg 0 [] [] []) (.blk (some [.s 5]) (.loop [.s 5, .s 6] (.seq (.seq (.reg 0 [] [] []) (.cond none (.no) (.no))) (.seq (.blk none (.seq (.reg 0 [] [] []) (.cond (some [.s 5]) (.reg 0 [] [] []) (.no)))) (.reg 0 [] [] [])))))) (.seq (.reg 0 [] [] []) (.no))))
noncomputable def sem_railref2_Agent_Heard (n : Nat) (xs : List V) : Option V := if xs.length ≤ 29 then denF Tryd.prog (envOf []) n Tryd.f24 an_railref2_Agent_Heard xs else none
theorem ok_railref2_Agent_Heard (n : Nat) : SemOk Tryd.prog DW 24 (sem_railref2_Agent_Heard n) := fun xs y h => by
  unfold sem_railref2_Agent_Heard at h
  split at h
  · rename_i hl
    exact denF_ok stb Tryd.func24 (by kernel_rfl) (envOf_ok semsOk_nil) (by rw [Tryd.ntmps24]; exact hl) h
  · cases h
theorem eq_railref2_Agent_Heard (n : Nat) (x0 x1 : V) : sem_railref2_Agent_Heard n [x0, x1] =
 JoinPt (fun vs1 =>
 some (List.getD vs1 0 V.any)) fun J2 =>
 (fixN (fun rec3 vs4 =>
 (ptrF 0 x0).bind fun v5 =>
 (ptrF 2 v5).bind fun v6 =>
 (ldp none v6).bind fun v7 =>
 (lenS [v7]).bind fun v8 =>
 (bin2 Tryd.prog BinOp.lss 3 (ot 7) (ot 12) (List.getD vs4 1 V.any) v8).bind fun v9 =>
 condV v9 (
 (ptrF 0 x0).bind fun v10 =>
 (ptrF 2 v10).bind fun v11 =>
 (ldp none v11).bind fun v12 =>
 (idxS 10 v12 (List.getD vs4 1 V.any)).bind fun v13 =>
 (ptrF 0 v13).bind fun v14 =>
 (ldp none v14).bind fun v15 =>
 (bin2 Tryd.prog BinOp.eql 3 (ot 23) (ot 24) v15 x1).bind fun v16 =>
 JoinPt (fun vs17 =>
 (bin2 Tryd.prog BinOp.add 3 (ot 14) (oc 1) (List.getD vs4 1 V.any) (vi 1)).bind fun v19 =>
 rec3 [(List.getD vs17 0 V.any), v19]) fun J18 =>
 condV v16 (
 (bin2 Tryd.prog BinOp.add 3 (ot 26) (oc 1) (List.getD vs4 0 V.any) (vi 1)).bind fun v20 =>
 J18 [v20]) (
 J18 [(List.getD vs4 0 V.any)])) (
 J2 [(List.getD vs4 0 V.any)])) n) [(vi 0), (vi 0)] := by kernel_rfl
noncomputable def t_railref2_Agent_Heard (a0 : T_railref2_Agent) (a1 : Int) : Option Int :=
 (loopI a0.L (fun (i12 : Int) x13 (s8 : Int) k9 =>
 (if (decide (x13.Round = a1)) = true then (
 some (wr (s8 + 1))) else (
 some (s8))).bind fun (s31 : Int) =>
 k9 (s31)) (fun (s8 : Int) =>
 some (s8)) (0)).bind fun (s3 : Int) =>
 some s3
theorem ty_railref2_Agent_Heard {n : Nat} (hn : bigN ≤ n) (a0 : T_railref2_Agent) (a1 : Int) : Rv (fun x : Int => (vi x)) (sem_railref2_Agent_Heard n [(V.ptr (T_railref2_Agent.c a0)), (vi a1)]) (t_railref2_Agent_Heard a0 a1) := by
  rw [eq_railref2_Agent_Heard]
  unfold t_railref2_Agent_Heard
  refine tjb (mk := fun s3 : Int => [(vi s3)]) (fun J2 => ?_) fun s3 => ?_
  · refine rf_loopI (mk := fun (i12 : Int) (s8 : Int) => [(vi s8), (vi (i12 : Int))]) hn a0.L (0) (fun i12 x13 h14 h15 h16 s8 rec6 k9 h10 => ?_) (fun s8 rec38 h37 => ?_)
    · refine tb (x := (V.ptr (T_railref2_Agent.c a0))) (rfl) ?_
      refine tb (x := (V.ptr (List.drop 2 (T_railref2_Agent.c a0)))) (rfl) ?_
      refine tb (x := (V.sl (List.map T_railref2_Kept.c a0.L))) (rfl) ?_
      refine tb (x := (vi (List.length a0.L : Int))) (p_len _) ?_
      refine tb (x := (vb (decide ((i12 : Int) < (List.length a0.L : Int))))) (d_lss) ?_
      refine tcond_t h16 ?_
      refine tb (x := (V.ptr (T_railref2_Agent.c a0))) (rfl) ?_
      refine tb (x := (V.ptr (List.drop 2 (T_railref2_Agent.c a0)))) (rfl) ?_
      refine tb (x := (V.sl (List.map T_railref2_Kept.c a0.L))) (rfl) ?_
      refine tb (x := (V.ptr (T_railref2_Kept.c x13))) (p_idx_at (c := T_railref2_Kept.c) (fun _ => rfl) h14) ?_
      refine tb (x := (V.ptr (T_railref2_Kept.c x13))) (rfl) ?_
      refine tb (x := (vi x13.Round)) (rfl) ?_
      refine tb (x := (vb (decide (x13.Round = a1)))) (d_eql) ?_
      refine tjb (mk := fun s31 : Int => [(vi s31)]) (fun J30 => ?_) fun s31 => ?_
      · refine tcond (fun h35 => ?_) (fun h35 => ?_)
        · refine tb (x := (vi (wr (s8 + 1)))) (d_add) ?_
          exact rf_j rfl
        · exact rf_j rfl
      · refine tb (x := (vi ((i12 : Int) + 1))) (p_incN h15) ?_
        exact h10 (s31)
    · refine tb (x := (V.ptr (T_railref2_Agent.c a0))) (rfl) ?_
      refine tb (x := (V.ptr (List.drop 2 (T_railref2_Agent.c a0)))) (rfl) ?_
      refine tb (x := (V.sl (List.map T_railref2_Kept.c a0.L))) (rfl) ?_
      refine tb (x := (vi (List.length a0.L : Int))) (p_len _) ?_
      refine tb (x := (vb (decide ((List.length a0.L : Int) < (List.length a0.L : Int))))) (d_lss) ?_
      refine tcond_f h37 ?_
      exact rf_j rfl
  · exact rf_ret rfl

/-!   railpoint/railref2.Agent .Ready -/
def an_railref2_Agent_Ready : Ann := .seq (.reg 0 [] [] []) (.seq (.seq (.reg 0 [] [] []) (.blk (some []) (.loop [.s 3] (.seq (.seq (.reg 0 [] [] []) (.cond none (.no) (.no))) (.seq (.blk (some []) (.seq (.reg 0 [] [] []) (.seq (.reg 0 [] [] []) (.seq (.seq (.reg 0 [] [] []) (.blk (some [.s 5]) (.loop [.s 5, .s 6] (.seq (.seq (.reg 0 [] [] []) (.cond none (.no) (.no))) (.seq (.blk none (.reg 0 [] [] [])) (.reg 0 [] [] [])))))) (.seq (.reg 0 [] [] []) (.cond none (.seq (.reg 0 [] [] []) (.no)) (.no))))))) (.reg 0 [] [] [])))))) (.seq (.reg 0 [] [] []) (.no)))
noncomputable def sem_railref2_Agent_Ready (n : Nat) (xs : List V) : Option V := if xs.length ≤ 50 then denF Tryd.prog (envOf [(45, (sem_railref2_In n)), (46, (sem_railref2_Agent_Find n))]) n Tryd.f23 an_railref2_Agent_Ready xs else none
theorem ok_railref2_Agent_Ready (n : Nat) : SemOk Tryd.prog DW 23 (sem_railref2_Agent_Ready n) := fun xs y h => by
  unfold sem_railref2_Agent_Ready at h
  split at h
  · rename_i hl
    exact denF_ok stb Tryd.func23 (by kernel_rfl) (envOf_ok (semsOk_cons (ok_railref2_In n) (semsOk_cons (ok_railref2_Agent_Find n) semsOk_nil))) (by rw [Tryd.ntmps23]; exact hl) h
  · cases h
theorem eq_railref2_Agent_Ready (n : Nat) (x0 : V) : sem_railref2_Agent_Ready n [x0] =
 JoinPt (fun vs1 =>
 some (vi (-1 : Int))) fun J2 =>
 (fixN (fun rec3 vs4 =>
 (bin2 Tryd.prog BinOp.lss 3 (ot 7) (oc 20) (List.getD vs4 0 V.any) (vi 20)).bind fun v5 =>
 condV v5 (
 JoinPt (fun vs6 =>
 (bin2 Tryd.prog BinOp.add 3 (ot 9) (oc 1) (List.getD vs4 0 V.any) (vi 1)).bind fun v8 =>
 rec3 [v8]) fun J7 =>
 (ptrF 0 x0).bind fun v9 =>
 (ptrF 4 v9).bind fun v10 =>
 (ldp none v10).bind fun v11 =>
 ((sem_railref2_In n) [v11, (List.getD vs4 0 V.any)]).bind fun v12 =>
 (scal1 Tryd.prog (Op.unary Go.UnOp.not) v12).bind fun v13 =>
 (guardV v13 true (some x0)).bind fun v14 =>
 (guardV v13 true ((ptrF 0 v14).bind fun v15 =>
 some v15)).bind fun v16 =>
 (guardV v13 true ((ptrF 3 v16).bind fun v17 =>
 some v17)).bind fun v18 =>
 (guardV v13 true ((ldp none v18).bind fun v19 =>
 some v19)).bind fun v20 =>
 (guardV v13 true (some (List.getD vs4 0 V.any))).bind fun v21 =>
 (guardV v13 true ((idxS 1 v20 v21).bind fun v22 =>
 some v22)).bind fun v23 =>
 (guardV v13 true ((ldp none v23).bind fun v24 =>
 some v24)).bind fun v25 =>
 (guardV v13 true ((bin2 Tryd.prog BinOp.geq 3 (ot 26) (oc 0) v25 (vi 0)).bind fun v26 =>
 some v26)).bind fun v27 =>
 (pickV v13 v27 (vb false)).bind fun v28 =>
 JoinPt (fun vs29 =>
 condV (List.getD vs29 0 V.any) (
 some (List.getD vs4 0 V.any)) (
 J7 [])) fun J30 =>
 (fixN (fun rec31 vs32 =>
 (ptrF 0 x0).bind fun v33 =>
 (ptrF 3 v33).bind fun v34 =>
 (ldp none v34).bind fun v35 =>
 (idxS 1 v35 (List.getD vs4 0 V.any)).bind fun v36 =>
 (ldp none v36).bind fun v37 =>
 (bin2 Tryd.prog BinOp.lss 3 (ot 29) (ot 36) (List.getD vs32 1 V.any) v37).bind fun v38 =>
 (guardV v38 true (some (List.getD vs32 0 V.any))).bind fun v39 =>
 (pickV v38 v39 (vb false)).bind fun v40 =>
 condV v40 (
 ((sem_railref2_Agent_Find n) [x0, (List.getD vs4 0 V.any), (List.getD vs32 1 V.any)]).bind fun v41 =>
 (bin2 Tryd.prog BinOp.geq 3 (ot 46) (oc 0) v41 (vi 0)).bind fun v42 =>
 (bin2 Tryd.prog BinOp.add 3 (ot 41) (oc 1) (List.getD vs32 1 V.any) (vi 1)).bind fun v43 =>
 rec31 [v42, v43]) (
 J30 [(List.getD vs32 0 V.any)])) n) [v28, (vi 0)]) (
 J2 [])) n) [(vi 0)] := by kernel_rfl
noncomputable def t_railref2_Agent_Ready (a0 : T_railref2_Agent) : Option Int :=
 join (fun (s3 : Unit) =>
 some (-1 : Int)) fun j4 =>
 loopU 0 20 (fun (i12 : Int) (s8 : Unit) k9 =>
 join (fun (s21 : Unit) =>
 k9 ()) fun j22 =>
 (t_railref2_In a0.Done i12).bind fun r29 =>
 (gd (!r29) default (idx a0.Many i12)).bind fun r47 =>
 (tfix (fun k106 (s105 : (Bool × Int)) =>
 (idx a0.Many i12).bind fun r114 =>
 if ((decide (s105.2 < r114)) && s105.1) = true then (
 (t_railref2_Agent_Find a0 i12 s105.2).bind fun r122 =>
 k106 ((decide (0 ≤ r122)), (wr (s105.2 + 1)))) else (
 some (s105.1))) bigN (((!r29) && (decide (0 ≤ r47))), 0)).bind fun (s57 : Bool) =>
 if s57 = true then (
 some i12) else (
 j22 ())) (fun (i12 : Int) (s8 : Unit) =>
 j4 ()) ()
theorem ty_railref2_Agent_Ready {n : Nat} (hn : bigN ≤ n) (a0 : T_railref2_Agent) : Rv (fun x : Int => (vi x)) (sem_railref2_Agent_Ready n [(V.ptr (T_railref2_Agent.c a0))]) (t_railref2_Agent_Ready a0) := by
  rw [eq_railref2_Agent_Ready]
  unfold t_railref2_Agent_Ready
  refine tjoin (mk := fun s3 : Unit => []) (fun s3 => ?_) fun J2 j4 h5 => ?_
  · exact rf_ret rfl
  · refine rf_loopU (mk := fun (i12 : Int) (s8 : Unit) => [(vi i12)]) hn _ _ () (fun i12 h13 h14 h15 s8 rec6 k9 h10 => ?_) (fun i12 s8 rec17 h16 => ?_)
    · refine tb (x := (vb (decide (i12 < 20)))) (d_lss) ?_
      refine tcond_t h13 ?_
      refine tjoin (mk := fun s21 : Unit => []) (fun s21 => ?_) fun J20 j22 h23 => ?_
      · refine tb (x := (vi (i12 + 1))) (p_inc h14 h15) ?_
        exact h10 ()
      · refine tb (x := (V.ptr (T_railref2_Agent.c a0))) (rfl) ?_
        refine tb (x := (V.ptr (List.drop 4 (T_railref2_Agent.c a0)))) (rfl) ?_
        refine tb (x := (V.sl (List.map cI a0.Done))) (rfl) ?_
        refine tbo (ty_railref2_In hn a0.Done i12) fun r29 => ?_
        refine tb (x := (vb (!r29))) (d_not) ?_
        refine tg (x := (V.ptr (T_railref2_Agent.c a0))) (fun h31 => rfl) ?_
        refine tg (x := (V.ptr (T_railref2_Agent.c a0))) (fun h33 => by first | exact bind_some_eq (rfl) | (simp only [gv_t h33]; exact bind_some_eq (rfl))) ?_
        refine tg (x := (V.ptr (List.drop 3 (T_railref2_Agent.c a0)))) (fun h36 => by first | exact bind_some_eq (rfl) | (simp only [gv_t h36]; exact bind_some_eq (rfl))) ?_
        refine tg (x := (V.sl (List.map cI a0.Many))) (fun h39 => by first | exact bind_some_eq (rfl) | (simp only [gv_t h39]; exact bind_some_eq (rfl))) ?_
        refine tg (x := (vi i12)) (fun h42 => rfl) ?_
        refine tgo (fun h44 => by simp only [gv_t h44]; exact rf_bind_some (p_idx (c := cI) (fun _ => rfl) a0.Many i12)) fun r47 => ?_
        refine tg (x := (vi r47)) (fun h48 => by first | exact bind_some_eq (rfl) | (simp only [gv_t h48]; exact bind_some_eq (rfl))) ?_
        refine tg (x := (vb (decide (0 ≤ r47)))) (fun h51 => by simp only [gv_t h51]; exact bind_some_eq (d_geq)) ?_
        refine tb (x := (vb ((!r29) && (decide (0 ≤ r47))))) (pick_and (fun h9 => gv_t h9)) ?_
        refine tjb (mk := fun s57 : Bool => [(vb s57)]) (fun J56 => ?_) fun s57 => ?_
        · refine rf_fixN (mk := fun (s105 : (Bool × Int)) => [(vb s105.1), (vi s105.2)]) hn (((!r29) && (decide (0 ≤ r47))), 0) (fun rec103 k106 h107 s105 => ?_)
          refine tb (x := (V.ptr (T_railref2_Agent.c a0))) (rfl) ?_
          refine tb (x := (V.ptr (List.drop 3 (T_railref2_Agent.c a0)))) (rfl) ?_
          refine tb (x := (V.sl (List.map cI a0.Many))) (rfl) ?_
          refine tbo (p_idx (c := cI) (fun _ => rfl) a0.Many i12) fun r114 => ?_
          refine tb (x := (vi r114)) (rfl) ?_
          refine tb (x := (vb (decide (s105.2 < r114)))) (d_lss) ?_
          refine tg (x := (vb s105.1)) (fun h117 => rfl) ?_
          refine tb (x := (vb ((decide (s105.2 < r114)) && s105.1))) (pick_and (fun h9 => gv_t h9)) ?_
          refine tcond (fun h120 => ?_) (fun h120 => ?_)
          · refine tbo (ty_railref2_Agent_Find hn a0 i12 s105.2) fun r122 => ?_
            refine tb (x := (vb (decide (0 ≤ r122)))) (d_geq) ?_
            refine tb (x := (vi (wr (s105.2 + 1)))) (d_add) ?_
            exact h107 ((decide (0 ≤ r122)), (wr (s105.2 + 1)))
          · exact rf_j rfl
        · refine tcond (fun h60 => ?_) (fun h60 => ?_)
          · exact rf_ret rfl
          · exact h23 ()
    · refine tb (x := (vb (decide (i12 < 20)))) (d_lss) ?_
      refine tcond_f h16 ?_
      exact h5 ()

/-! railpoint/railref1.Do -/
def an_railref1_Do : Ann := .seq (.reg 0 [] [] []) (.seq (.reg 0 [] [] []) (.seq (.reg 0 [] [] []) (.seq (.seq (.reg 0 [] [] []) (.blk (some [.kb 5, .s 8, .s 9]) (.loop [.kb 5, .s 8, .s 9, .s 10] (.seq (.seq (.reg 0 [] [] []) (.cond none (.no) (.no))) (.seq (.blk none (.seq (.reg 18 [] [] []) (.cond (some [.kb 5, .s 8, .s 9]) (.seq (.reg 0 [] [] []) (.seq (.reg 6 [] [] []) (.cond (some [.kb 5, .s 8]) (.reg 0 [] [] []) (.no)))) (.no)))) (.reg 0 [] [] [])))))) (.seq (.reg 0 [] [] []) (.seq (.seq (.reg 0 [] [] []) (.cond none (.seq (.seq (.reg 0 [] [] []) (.cond none (.seq (.reg 0 [] [] []) (.no)) (.no))) (.seq (.seq (.reg 0 [] [] []) (.cond none (.seq (.reg 0 [] [] []) (.no)) (.no))) (.seq (.reg 0 [] [] []) (.seq (.reg 0 [] [] []) (.no))))) (.no))) (.seq (.seq (.reg 0 [] [] []) (.cond none (.seq (.reg 0 [] [] []) (.no)) (.no))) (.seq (.reg 0 [] [] []) (.seq (.reg 0 [] [] []) (.no)))))))))
noncomputable def sem_railref1_Do (n : Nat) (xs : List V) : Option V := if xs.length ≤ 68 then denF Tryd.prog (envOf []) n Tryd.f47 an_railref1_Do xs else none
theorem ok_railref1_Do (n : Nat) : SemOk Tryd.prog DW 47 (sem_railref1_Do n) := fun xs y h => by
  unfold sem_railref1_Do at h
  split at h
  · rename_i hl
    exact denF_ok stb Tryd.func47 (by kernel_rfl) (envOf_ok semsOk_nil) (by rw [Tryd.ntmps47]; exact hl) h
  · cases h
theorem eq_railref1_Do (n : Nat) (x0 x1 x2 : V) : sem_railref1_Do n [x0, x1, x2] =
 (V.cellsO x2).bind fun v1 =>
 JoinPt (fun vs2 =>
 condV x1 (
 condV (List.getD vs2 1 V.any) (
 some (V.tup [(V.sl []), (vi 7)])) (
 (lenS [x0]).bind fun v4 =>
 (bin2 Tryd.prog BinOp.geq 3 (ot 46) (oc 12) v4 (vi 12)).bind fun v5 =>
 condV v5 (
 some (V.tup [(V.sl []), (vi 4)])) (
 (appV 6 [] x0).bind fun v6 =>
 (ldk (some 6) (List.drop 0 v1)).bind fun v7 =>
 (slcB 6 1 [(vi 0), (vi 0), (vi 0), (vi 0), (vi 0), (vi 0)] [(0, v7)]).bind fun v8 =>
 (appV 6 (slL v6) v8).bind fun v9 =>
 some (V.tup [(V.sl (slL v9)), (vi 0)])))) (
 (bin2 Tryd.prog BinOp.lss 3 (ot 55) (oc 0) (List.getD vs2 0 V.any) (vi 0)).bind fun v10 =>
 condV v10 (
 some (V.tup [(V.sl []), (vi 5)])) (
 (slc (some 6) x0 none (some (List.getD vs2 0 V.any))).bind fun v11 =>
 (appV 6 [] v11).bind fun v12 =>
 (bin2 Tryd.prog BinOp.add 3 (ot 64) (oc 1) (List.getD vs2 0 V.any) (vi 1)).bind fun v13 =>
 (slc (some 6) x0 (some v13) none).bind fun v14 =>
 (appV 6 (slL v12) v14).bind fun v15 =>
 some (V.tup [(V.sl (slL v15)), (vi 0)])))) fun J3 =>
 (keepO (some v1) (some v1) (some [(vi (-1 : Int)), (vb false), (vi 0)])).bind (fixN (fun rec16 vs17 =>
 (lenS [x0]).bind fun v18 =>
 (bin2 Tryd.prog BinOp.lss 3 (ot 12) (ot 14) (List.getD vs17 2 V.any) v18).bind fun v19 =>
 condV v19 (
 (idxS 6 x0 (List.getD vs17 2 V.any)).bind fun v20 =>
 (ptrF 0 v20).bind fun v21 =>
 (ldp none v21).bind fun v22 =>
 (ldk none (List.drop 0 v1)).bind fun v23 =>
 (bin2 Tryd.prog BinOp.eql 3 (ot 22) (ot 24) v22 v23).bind fun v24 =>
 (guardV v24 true (some x0)).bind fun v25 =>
 (guardV v24 true (some (List.getD vs17 2 V.any))).bind fun v26 =>
 (guardV v24 true ((idxS 6 v25 v26).bind fun v27 =>
 some v27)).bind fun v28 =>
 (guardV v24 true ((ptrF 1 v28).bind fun v29 =>
 some v29)).bind fun v30 =>
 (guardV v24 true ((ldp (some 2) v30).bind fun v31 =>
 some v31)).bind fun v32 =>
 (guardV v24 true (some V.any)).bind fun v33 =>
 (guardV v24 true ((gate v24 true (ldk (some 2) (List.drop 1 v1))).bind fun v34 =>
 some v34)).bind fun v35 =>
 (guardV v24 true ((bin2 Tryd.prog BinOp.eql 33 (ot 31) (ot 33) v32 v35).bind fun v36 =>
 some v36)).bind fun v37 =>
 (pickV v24 v37 (vb false)).bind fun v38 =>
 JoinPt (fun vs39 =>
 (bin2 Tryd.prog BinOp.add 3 (ot 16) (oc 1) (List.getD vs17 2 V.any) (vi 1)).bind fun v41 =>
 (keepO (some v1) (some v1) (some [(List.getD vs39 0 V.any), (List.getD vs39 1 V.any), v41])).bind rec16) fun J40 =>
 condV v38 (
 (idxS 6 x0 (List.getD vs17 2 V.any)).bind fun v42 =>
 (ldp (some 6) v42).bind fun v43 =>
 (ldk (some 6) (List.drop 0 v1)).bind fun v44 =>
 (bin2 Tryd.prog BinOp.eql 35 (ot 39) (ot 40) v43 v44).bind fun v45 =>
 JoinPt (fun vs46 =>
 (keepO (some v1) (some v1) (some [(List.getD vs46 0 V.any), (vb true)])).bind J40) fun J47 =>
 condV v45 (
 (keepO (some v1) (some v1) (some [(List.getD vs17 2 V.any)])).bind J47) (
 (keepO (some v1) (some v1) (some [(List.getD vs17 0 V.any)])).bind J47)) (
 (keepO (some v1) (some v1) (some [(List.getD vs17 0 V.any), (List.getD vs17 1 V.any)])).bind J40)) (
 (keepO (some v1) (some v1) (some [(List.getD vs17 0 V.any), (List.getD vs17 1 V.any)])).bind J3)) n) := by kernel_rfl
noncomputable def t_railref1_Do (a0 : (List T_Rule)) (a1 : Bool) (a2 : T_Rule) : Option ((List T_Rule) × Int) :=
 (loopI a0 (fun (i35 : Int) x36 (s31 : (Int × Bool)) k32 =>
 (if ((decide (x36.Prio = a2.Prio)) && (decide (x36.Cube = a2.Cube))) = true then (
 (if (decide (x36 = a2)) = true then (
 some i35) else (
 some (s31.1))).bind fun (s82 : Int) =>
 some (s82, true)) else (
 some (s31.1, s31.2))).bind fun (s71 : (Int × Bool)) =>
 k32 (s71.1, s71.2)) (fun (s31 : (Int × Bool)) =>
 some (s31.1, s31.2)) ((-1 : Int), false)).bind fun (s4 : (Int × Bool)) =>
 if a1 = true then (
 if s4.2 = true then (
 some ([], 7)) else (
 if (decide (12 ≤ (List.length a0 : Int))) = true then (
 some ([], 4)) else (
 (app ([] : (List T_Rule)) a0).bind fun r13 =>
 (app r13 ([a2] : (List T_Rule))).bind fun r17 =>
 some (r17, 0)))) else (
 if (decide (s4.1 < 0)) = true then (
 some ([], 5)) else (
 (slc_hi a0 s4.1).bind fun r21 =>
 (app ([] : (List T_Rule)) r21).bind fun r23 =>
 (slc_lo a0 (wr (s4.1 + 1))).bind fun r26 =>
 (app r23 r26).bind fun r28 =>
 some (r28, 0)))
theorem ty_railref1_Do {n : Nat} (hn : bigN ≤ n) (a0 : (List T_Rule)) (a1 : Bool) (a2 : T_Rule) : Rv (fun x : ((List T_Rule) × Int) => V.tup [(V.sl (List.map T_Rule.c x.1)), (vi x.2)]) (sem_railref1_Do n [(V.sl (List.map T_Rule.c a0)), (vb a1), (T_Rule.e a2)]) (t_railref1_Do a0 a1 a2) := by
  rw [eq_railref1_Do]
  unfold t_railref1_Do
  refine tb (x := (T_Rule.c a2)) rfl ?_
  refine tjb (mk := fun s4 : (Int × Bool) => [(vi s4.1), (vb s4.2)]) (fun J3 => ?_) fun s4 => ?_
  · refine tkeepO2 ?_ rfl
    refine tsome ?_
    refine rf_loopI (mk := fun (i35 : Int) (s31 : (Int × Bool)) => [(vi s31.1), (vb s31.2), (vi (i35 : Int))]) hn a0 ((-1 : Int), false) (fun i35 x36 h37 h38 h39 s31 rec29 k32 h33 => ?_) (fun s31 rec87 h86 => ?_)
    · refine tb (x := (vi (List.length a0 : Int))) (p_len _) ?_
      refine tb (x := (vb (decide ((i35 : Int) < (List.length a0 : Int))))) (d_lss) ?_
      refine tcond_t h39 ?_
      refine tb (x := (V.ptr (T_Rule.c x36))) (p_idx_at (c := T_Rule.c) (fun _ => rfl) h37) ?_
      refine tb (x := (V.ptr (T_Rule.c x36))) (rfl) ?_
      refine tb (x := (vi x36.Prio)) (rfl) ?_
      refine tb (x := (vi a2.Prio)) (rfl) ?_
      refine tb (x := (vb (decide (x36.Prio = a2.Prio)))) (d_eql) ?_
      refine tg (x := (V.sl (List.map T_Rule.c a0))) (fun h47 => rfl) ?_
      refine tg (x := (vi (i35 : Int))) (fun h49 => rfl) ?_
      refine tg (x := (V.ptr (T_Rule.c x36))) (fun h51 => by simp only [gv_t h51]; exact bind_some_eq (p_idx_at (c := T_Rule.c) (fun _ => rfl) h37)) ?_
      refine tg (x := (V.ptr (List.drop 1 (T_Rule.c x36)))) (fun h54 => by first | exact bind_some_eq (rfl) | (simp only [gv_t h54]; exact bind_some_eq (rfl))) ?_
      refine tg (x := (T_Cube.e x36.Cube)) (fun h57 => by first | exact bind_some_eq (rfl) | (simp only [gv_t h57]; exact bind_some_eq (rfl))) ?_
      refine tg (x := V.any) (fun h60 => rfl) ?_
      refine tg (x := (T_Cube.e a2.Cube)) (fun h62 => bind_some_eq (gate_pos h62 (rfl))) ?_
      refine tg (x := (vb (decide (x36.Cube = a2.Cube)))) (fun h65 => by simp only [gv_t h65]; exact bind_some_eq (T_Cube.eql x36.Cube a2.Cube)) ?_
      refine tb (x := (vb ((decide (x36.Prio = a2.Prio)) && (decide (x36.Cube = a2.Cube))))) (pick_and (fun h9 => gv_t h9)) ?_
      refine tjb (mk := fun s71 : (Int × Bool) => [(vi s71.1), (vb s71.2)]) (fun J70 => ?_) fun s71 => ?_
      · refine tcond (fun h75 => ?_) (fun h75 => ?_)
        · refine tb (x := (V.ptr (T_Rule.c x36))) (p_idx_at (c := T_Rule.c) (fun _ => rfl) h37) ?_
          refine tb (x := (T_Rule.e x36)) (rfl) ?_
          refine tb (x := (T_Rule.e a2)) (rfl) ?_
          refine tb (x := (vb (decide (x36 = a2)))) (T_Rule.eql x36 a2) ?_
          refine tjb (mk := fun s82 : Int => [(vi s82)]) (fun J81 => ?_) fun s82 => ?_
          · refine tcond (fun h85 => ?_) (fun h85 => ?_)
            · refine tkeepO2 ?_ rfl
              refine tsome ?_
              exact rf_j rfl
            · refine tkeepO2 ?_ rfl
              refine tsome ?_
              exact rf_j rfl
          · refine tkeepO2 ?_ rfl
            refine tsome ?_
            exact rf_j rfl
        · refine tkeepO2 ?_ rfl
          refine tsome ?_
          exact rf_j rfl
      · refine tb (x := (vi ((i35 : Int) + 1))) (p_incN h38) ?_
        refine tkeepO2 ?_ rfl
        refine tsome ?_
        exact h33 (s71.1, s71.2)
    · refine tb (x := (vi (List.length a0 : Int))) (p_len _) ?_
      refine tb (x := (vb (decide ((List.length a0 : Int) < (List.length a0 : Int))))) (d_lss) ?_
      refine tcond_f h86 ?_
      refine tkeepO2 ?_ rfl
      refine tsome ?_
      exact rf_j rfl
  · refine tcond (fun h7 => ?_) (fun h7 => ?_)
    · refine tcond (fun h8 => ?_) (fun h8 => ?_)
      · exact rf_ret rfl
      · refine tb (x := (vi (List.length a0 : Int))) (p_len _) ?_
        refine tb (x := (vb (decide (12 ≤ (List.length a0 : Int))))) (d_geq) ?_
        refine tcond (fun h11 => ?_) (fun h11 => ?_)
        · exact rf_ret rfl
        · refine tbo (p_app (c := T_Rule.c) (fun _ => rfl) ([] : (List T_Rule)) a0) fun r13 => ?_
          refine tb (x := (T_Rule.e a2)) (rfl) ?_
          refine tb (x := (V.sl (List.map T_Rule.c ([a2] : (List T_Rule))))) (by kernel_rfl) ?_
          refine tbo (p_app (c := T_Rule.c) (fun _ => rfl) r13 ([a2] : (List T_Rule))) fun r17 => ?_
          exact rf_ret rfl
    · refine tb (x := (vb (decide (s4.1 < 0)))) (d_lss) ?_
      refine tcond (fun h19 => ?_) (fun h19 => ?_)
      · exact rf_ret rfl
      · refine tbo (p_slc_hi (c := T_Rule.c) (fun _ => rfl) a0 s4.1) fun r21 => ?_
        refine tbo (p_app (c := T_Rule.c) (fun _ => rfl) ([] : (List T_Rule)) r21) fun r23 => ?_
        refine tb (x := (vi (wr (s4.1 + 1)))) (d_add) ?_
        refine tbo (p_slc_lo (c := T_Rule.c) (fun _ => rfl) a0 (wr (s4.1 + 1))) fun r26 => ?_
        refine tbo (p_app (c := T_Rule.c) (fun _ => rfl) r23 r26) fun r28 => ?_
        exact rf_ret rfl

/-!   railpoint/railref2.Agent .Work -/
def an_railref2_Agent_Work : Ann := .seq (.reg 0 [] [] []) (.seq (.reg 0 [] [] [2000012]) (.seq (.seq (.reg 0 [] [] []) (.cond none (.seq (.reg 0 [] [] []) (.no)) (.no))) (.seq (.reg 0 [] [] []) (.seq (.reg 0 [] [] []) (.seq (.seq (.reg 0 [] [] []) (.blk (some [.ko 0, .s 5, .s 6]) (.loop [.ko 0, .s 5, .s 6, .s 7] (.seq (.seq (.reg 0 [] [] [23]) (.cond none (.no) (.no))) (.seq (.blk none (.seq (.reg 12 [] [] [37, 2000041]) (.seq (.reg 0 [] [] []) (.seq (.reg 0 [] [] []) (.reg 0 [] [] []))))) (.reg 0 [] [] [])))))) (.seq (.seq (.reg 0 [] [] []) (.cond (some [.o 0]) (.reg 0 [] [] []) (.no))) (.seq (.reg 0 [] [] [66, 69]) (.seq (.reg 0 [] [] []) (.no)))))))))
noncomputable def sem_railref2_Agent_Work (n : Nat) (xs : List V) : Option V := if xs.length ≤ 79 then denM Tryd.prog (envOf [(23, (sem_railref2_Agent_Ready n)), (46, (sem_railref2_Agent_Find n)), (47, (sem_railref1_Do n))]) n Tryd.f19 an_railref2_Agent_Work [2] none xs else none
theorem ok_railref2_Agent_Work (n : Nat) : MSemOk Tryd.prog DW 19 (sem_railref2_Agent_Work n) := fun xs y h => by
  unfold sem_railref2_Agent_Work at h
  split at h
  · rename_i hl
    exact denM_ok Tryd.func19 (by kernel_rfl) (envOf_ok (semsOk_cons (ok_railref2_Agent_Ready n) (semsOk_cons (ok_railref2_Agent_Find n) (semsOk_cons (ok_railref1_Do n) semsOk_nil)))) (by rw [Tryd.ntmps19]; exact hl) (by decide) h
  · cases h
theorem eq_railref2_Agent_Work (n : Nat) (x0 : V) : sem_railref2_Agent_Work n [x0] =
 (objG x0).bind fun v1 =>
 (some (frzQ x0)).bind fun v2 =>
 ((sem_railref2_Agent_Ready n) [v2]).bind fun v4 =>
 (litQ v4).bind fun v3 =>
 (bin2 Tryd.prog BinOp.lss 3 (ot 13) (oc 0) v3 (vi 0)).bind fun v5 =>
 condV v5 (
 some (V.tup [(V.tup [(V.sl []), (vi 6)]), x0])) (
 (some V.any).bind fun v6 =>
 (some V.any).bind fun v7 =>
 ((nodeL x0 none 0).bind fun l8 => (ldk none (List.drop 1 l8)).bind pureO).bind fun v9 =>
 JoinPt (fun vs10 =>
 (bin2 Tryd.prog BinOp.eql 3 (ot 56) (oc 0) (List.getD vs10 1 V.any) (vi 0)).bind fun v12 =>
 JoinPt (fun vs13 =>
 (some V.any).bind fun v15 =>
 (some V.any).bind fun v16 =>
 ((nodeL (List.getD vs13 0 V.any) none 0).bind fun l17 => (l17[4]?).bind ownO).bind fun v18 =>
 (slcB 1 1 [(vi 0)] [(0, v3)]).bind fun v19 =>
 (getV (List.getD vs13 0 V.any) [(Stp.mk none 4 0)]).bind fun v20 =>
 (modX (List.getD vs13 0 V.any) [] (Stp.mk none 4 0) V.any).bind fun v21 =>
 (appS 1 v20 v19).bind fun v22 =>
 (some V.any).bind fun v23 =>
 (some V.any).bind fun v24 =>
 (V.cellsO v22).bind fun v25 =>
 (setV v21 [] (Stp.mk none 4 0) 1 v25).bind fun v26 =>
 (some V.any).bind fun v27 =>
 (some V.any).bind fun v28 =>
 ((nodeL v26 none 0).bind fun l29 => (ldk none (List.drop 0 l29)).bind pureO).bind fun v30 =>
 ((fillL [(vi 0), (vi 0), (vi 0), (vi 0), (vi 0), (vb false), (vi 0), (vi 0), (vi 0), (vi 0), (vi 0), (vi 0)] [(0, 1, (vi 3)), (1, 1, v30), (2, 1, v3)]).map V.agg).bind fun v31 =>
 (slcB 12 1 [(vi 0), (vi 0), (vi 0), (vi 0), (vi 0), (vb false), (vi 0), (vi 0), (vi 0), (vi 0), (vi 0), (vi 0)] [(0, v31)]).bind fun v32 =>
 some (V.tup [(V.tup [v32, (vi 0)]), v26])) fun J14 =>
 condV v12 (
 (some V.any).bind fun v33 =>
 (some V.any).bind fun v34 =>
 (V.cellsO (List.getD vs10 0 V.any)).bind fun v35 =>
 (setV x0 [] (Stp.mk none 1 0) 1 v35).bind fun v36 =>
 J14 [v36]) (
 J14 [x0])) fun J11 =>
 (keepT (some x0) (some x0) (some [v9, (vi 0), (vi 0)])).bind (fixN (fun rec37 vs38 =>
 (some V.any).bind fun v39 =>
 (some V.any).bind fun v40 =>
 ((nodeL x0 none 0).bind fun l41 => (l41[3]?).bind ownO).bind fun v42 =>
 (((getV x0 [(Stp.mk none 3 0)]).bind oslR).bind fun rows43 => inB (List.length rows43) v3).bind fun v44 =>
 (((getV x0 [(Stp.mk none 3 0)]).bind fun y => nodeL y (some (natOf v3)) 1).bind fun l45 => (ldk none (List.drop 0 l45)).bind pureO).bind fun v46 =>
 (bin2 Tryd.prog BinOp.lss 3 (ot 19) (ot 26) (List.getD vs38 2 V.any) v46).bind fun v47 =>
 (guardV v47 true (some (List.getD vs38 1 V.any))).bind fun v48 =>
 (guardV v47 true ((bin2 Tryd.prog BinOp.eql 3 (ot 29) (oc 0) v48 (vi 0)).bind fun v49 =>
 some v49)).bind fun v50 =>
 (pickV v47 v50 (vb false)).bind fun v51 =>
 condV v51 (
 (some V.any).bind fun v52 =>
 (some V.any).bind fun v53 =>
 ((nodeL x0 none 0).bind fun l54 => (l54[2]?).bind ownO).bind fun v55 =>
 (some (frzQ x0)).bind fun v56 =>
 ((sem_railref2_Agent_Find n) [v56, v3, (List.getD vs38 2 V.any)]).bind fun v58 =>
 (litQ v58).bind fun v57 =>
 (((getV x0 [(Stp.mk none 2 0)]).bind oslR).bind fun rows59 => inB (List.length rows59) v57).bind fun v60 =>
 (some V.any).bind fun v61 =>
 (((getV x0 [(Stp.mk none 2 0)]).bind fun y => nodeL y (some (natOf v57)) 10).bind fun l62 => (ldk (some 8) (List.drop 2 l62)).bind pureO).bind fun v63 =>
 (spliceV [(vi 0), (vb false), (vi 0), (vi 0), (vi 0), (vi 0), (vi 0), (vi 0)] 0 8 v63).bind fun v64 =>
 (ldk none (List.drop 1 (aggL v64))).bind fun v65 =>
 (ldk (some 6) (List.drop 2 (aggL v64))).bind fun v66 =>
 ((sem_railref1_Do n) [(List.getD vs38 0 V.any), v65, v66]).bind fun v67 =>
 (extractV v67 0).bind fun v68 =>
 (extractV v67 1).bind fun v69 =>
 (bin2 Tryd.prog BinOp.add 3 (ot 32) (oc 1) (List.getD vs38 2 V.any) (vi 1)).bind fun v70 =>
 (keepT (some x0) (some x0) (some [v68, v69, v70])).bind rec37) (
 (keepT (some x0) (some x0) (some [(List.getD vs38 0 V.any), (List.getD vs38 1 V.any)])).bind J11)) n)) := by kernel_rfl
noncomputable def t_railref2_Agent_Work (a0 : T_railref2_Agent) : Option ((List T_Msg) × Int × T_railref2_Agent) :=
 (t_railref2_Agent_Ready a0).bind fun r3 =>
 if (decide (r3 < 0)) = true then (
 some ([], 6, a0)) else (
 (tfix (fun k119 (s118 : ((List T_Rule) × Int × Int)) =>
 need (decide (0 ≤ r3) && decide (r3 < (List.length a0.Many : Int))) (
 (idx a0.Many r3).bind fun r127 =>
 if ((decide (s118.2.2 < r127)) && (decide (s118.2.1 = 0))) = true then (
 (t_railref2_Agent_Find a0 r3 s118.2.2).bind fun r141 =>
 need (decide (0 ≤ r141) && decide (r141 < (List.length a0.L : Int))) (
 (idx a0.L r141).bind fun r145 =>
 (t_railref1_Do s118.1 r145.Op.Add r145.Op.Rule).bind fun r151 =>
 k119 (r151.1, r151.2, (wr (s118.2.2 + 1))))) else (
 some (s118.1, s118.2.1)))) bigN (a0.Table, 0, 0)).bind fun (s12 : ((List T_Rule) × Int)) =>
 (if (decide (s12.2 = 0)) = true then (
 some (T_railref2_Agent.mk a0.Number s12.1 a0.L a0.Many a0.Done)) else (
 some (a0))).bind fun (s18 : T_railref2_Agent) =>
 (oapp s18.Done ([r3] : (List Int))).bind fun r25 =>
 some (([(T_Msg.mk 3 s18.Number r3 0 (T_Op.mk 0 false (T_Rule.mk 0 (T_Cube.mk 0 0) 0 0 0)))] : (List T_Msg)), 0, (T_railref2_Agent.mk s18.Number s18.Table s18.L s18.Many r25)))
theorem ty_railref2_Agent_Work {n : Nat} (hn : bigN ≤ n) (a0 : T_railref2_Agent) : Rv (fun x : ((List T_Msg) × Int × T_railref2_Agent) => (V.tup [(V.tup [(V.sl (List.map T_Msg.c x.1)), (vi x.2.1)]), (V.obj [(vi x.2.2.Number), (V.sl (List.map T_Rule.c x.2.2.Table)), (V.osl 10 (List.map T_railref2_Kept.c x.2.2.L)), (V.osl 1 (List.map cI x.2.2.Many)), (V.osl 1 (List.map cI x.2.2.Done))])])) (sem_railref2_Agent_Work n [(V.obj [(vi a0.Number), (V.sl (List.map T_Rule.c a0.Table)), (V.osl 10 (List.map T_railref2_Kept.c a0.L)), (V.osl 1 (List.map cI a0.Many)), (V.osl 1 (List.map cI a0.Done))])]) (t_railref2_Agent_Work a0) := by
  rw [eq_railref2_Agent_Work]
  unfold t_railref2_Agent_Work
  refine tb (x := V.any) rfl ?_
  refine tb (x := V.ptr (T_railref2_Agent.c a0)) (p_frzQ (p_fzc rfl (p_fzc rfl (p_fzc (p_frzl (c' := T_railref2_Kept.c) (fun _ => rfl) _) (p_fzc (p_frzl (c' := cI) (fun _ => rfl) _) (p_fzc (p_frzl (c' := cI) (fun _ => rfl) _) p_fz0)))))) ?_
  refine tbo (ty_railref2_Agent_Ready hn a0) fun r3 => ?_
  refine tb (x := (vi r3)) rfl ?_
  refine tb (x := (vb (decide (r3 < 0)))) (d_lss) ?_
  refine tcond (fun h6 => ?_) (fun h6 => ?_)
  · exact rf_ret rfl
  · refine tb (x := V.any) rfl ?_
    refine tb (x := V.any) rfl ?_
    refine tb (x := (V.sl (List.map T_Rule.c a0.Table))) (rfl) ?_
    refine tjb (mk := fun s12 : ((List T_Rule) × Int) => [(V.sl (List.map T_Rule.c s12.1)), (vi s12.2)]) (fun J11 => ?_) fun s12 => ?_
    · refine tkeepT2 ?_ rfl
      refine tsome ?_
      refine rf_fixN (mk := fun (s118 : ((List T_Rule) × Int × Int)) => [(V.sl (List.map T_Rule.c s118.1)), (vi s118.2.1), (vi s118.2.2)]) hn (a0.Table, 0, 0) (fun rec116 k119 h120 s118 => ?_)
      refine tb (x := V.any) rfl ?_
      refine tb (x := V.any) rfl ?_
      refine tb (x := V.any) rfl ?_
      refine p_asc ?_
      refine p_asc ?_
      refine p_inF (y := (V.osl 1 (List.map cI a0.Many))) rfl ?_
      refine p_in0 ?_
      refine p_cas ?_
      refine tneed (x := V.any) (fun h126 => p_inB (c := cI) (k := 1) a0.Many r3 h126) fun h126 => ?_
      refine p_asc ?_
      refine p_asc ?_
      refine p_inF (y := (V.osl 1 (List.map cI a0.Many))) rfl ?_
      refine p_in0 ?_
      refine p_cas ?_
      refine tbo (p_oload (e1 := fun x : Int => (vi x)) (c := cI) (fun _ => rfl) a0.Many r3 (fun _ => rfl)) fun r127 => ?_
      refine tb (x := (vb (decide (s118.2.2 < r127)))) (d_lss) ?_
      refine tg (x := (vi s118.2.1)) (fun h130 => rfl) ?_
      refine tg (x := (vb (decide (s118.2.1 = 0)))) (fun h132 => by simp only [gv_t h132]; exact bind_some_eq (d_eql)) ?_
      refine tb (x := (vb ((decide (s118.2.2 < r127)) && (decide (s118.2.1 = 0))))) (pick_and (fun h9 => gv_t h9)) ?_
      refine tcond (fun h136 => ?_) (fun h136 => ?_)
      · refine tb (x := V.any) rfl ?_
        refine tb (x := V.any) rfl ?_
        refine tb (x := V.any) rfl ?_
        refine tb (x := V.ptr (T_railref2_Agent.c a0)) (p_frzQ (p_fzc rfl (p_fzc rfl (p_fzc (p_frzl (c' := T_railref2_Kept.c) (fun _ => rfl) _) (p_fzc (p_frzl (c' := cI) (fun _ => rfl) _) (p_fzc (p_frzl (c' := cI) (fun _ => rfl) _) p_fz0)))))) ?_
        refine tbo (ty_railref2_Agent_Find hn a0 r3 s118.2.2) fun r141 => ?_
        refine tb (x := (vi r141)) rfl ?_
        refine p_asc ?_
        refine p_asc ?_
        refine p_inF (y := (V.osl 10 (List.map T_railref2_Kept.c a0.L))) rfl ?_
        refine p_in0 ?_
        refine p_cas ?_
        refine tneed (x := V.any) (fun h143 => p_inB (c := T_railref2_Kept.c) (k := 10) a0.L r141 h143) fun h143 => ?_
        refine tb (x := V.any) rfl ?_
        refine p_asc ?_
        refine p_asc ?_
        refine p_inF (y := (V.osl 10 (List.map T_railref2_Kept.c a0.L))) rfl ?_
        refine p_in0 ?_
        refine p_cas ?_
        refine tbo (p_oload (e1 := fun x : T_railref2_Kept => (T_Op.e x.Op)) (c := T_railref2_Kept.c) (fun _ => rfl) a0.L r141 (fun _ => rfl)) fun r145 => ?_
        refine tb (x := V.agg (T_Op.c r145.Op)) (by kernel_rfl) ?_
        refine tb (x := (vb r145.Op.Add)) (rfl) ?_
        refine tb (x := (T_Rule.e r145.Op.Rule)) (rfl) ?_
        refine tbo (ty_railref1_Do hn s118.1 r145.Op.Add r145.Op.Rule) fun r151 => ?_
        refine tb (x := (V.sl (List.map T_Rule.c r151.1))) (rfl) ?_
        refine tb (x := (vi r151.2)) (rfl) ?_
        refine tb (x := (vi (wr (s118.2.2 + 1)))) (d_add) ?_
        refine tkeepT2 ?_ rfl
        refine tsome ?_
        exact h120 (r151.1, r151.2, (wr (s118.2.2 + 1)))
      · refine tkeepT2 ?_ rfl
        refine tsome ?_
        exact rf_j rfl
    · refine tb (x := (vb (decide (s12.2 = 0)))) (d_eql) ?_
      refine tjb (mk := fun s18 : T_railref2_Agent => [(V.obj [(vi s18.Number), (V.sl (List.map T_Rule.c s18.Table)), (V.osl 10 (List.map T_railref2_Kept.c s18.L)), (V.osl 1 (List.map cI s18.Many)), (V.osl 1 (List.map cI s18.Done))])]) (fun J17 => ?_) fun s18 => ?_
      · refine tcond (fun h35 => ?_) (fun h35 => ?_)
        · refine tb (x := V.any) rfl ?_
          refine tb (x := V.any) rfl ?_
          refine tb (x := [(V.sl (List.map T_Rule.c s12.1))]) rfl ?_
          refine tb (x := (V.obj [(vi a0.Number), (V.sl (List.map T_Rule.c s12.1)), (V.osl 10 (List.map T_railref2_Kept.c a0.L)), (V.osl 1 (List.map cI a0.Many)), (V.osl 1 (List.map cI a0.Done))])) (by kernel_rfl) ?_
          exact rf_j rfl
        · exact rf_j rfl
      · refine tb (x := V.any) rfl ?_
        refine tb (x := V.any) rfl ?_
        refine tb (x := V.any) rfl ?_
        refine tb (x := (V.sl (List.map cI ([r3] : (List Int))))) (by kernel_rfl) ?_
        refine tb (x := (V.osl 1 (List.map cI s18.Done))) rfl ?_
        refine tb (x := (V.obj [(vi s18.Number), (V.sl (List.map T_Rule.c s18.Table)), (V.osl 10 (List.map T_railref2_Kept.c s18.L)), (V.osl 1 (List.map cI s18.Many)), V.any])) (by kernel_rfl) ?_
        refine tbo (p_oapp (c := cI) (fun _ => rfl) s18.Done ([r3] : (List Int))) fun r25 => ?_
        refine tb (x := V.any) rfl ?_
        refine tb (x := V.any) rfl ?_
        refine tb (x := [(V.osl 1 (List.map cI r25))]) rfl ?_
        refine tb (x := (V.obj [(vi s18.Number), (V.sl (List.map T_Rule.c s18.Table)), (V.osl 10 (List.map T_railref2_Kept.c s18.L)), (V.osl 1 (List.map cI s18.Many)), (V.osl 1 (List.map cI r25))])) (by kernel_rfl) ?_
        refine tb (x := V.any) rfl ?_
        refine tb (x := V.any) rfl ?_
        refine tb (x := (vi s18.Number)) (rfl) ?_
        refine tb (x := (T_Msg.e (T_Msg.mk 3 s18.Number r3 0 (T_Op.mk 0 false (T_Rule.mk 0 (T_Cube.mk 0 0) 0 0 0))))) (by kernel_rfl) ?_
        refine tb (x := (V.sl (List.map T_Msg.c ([(T_Msg.mk 3 s18.Number r3 0 (T_Op.mk 0 false (T_Rule.mk 0 (T_Cube.mk 0 0) 0 0 0)))] : (List T_Msg))))) (by kernel_rfl) ?_
        exact rf_ret rfl

end Go.Proofs.YtgfleiknigjnbaaDoor.Ty
