/- What functions do, as functions on plain types, written by a program and checked by the kernel. -/
import Derived.Test.YtedgcbcphlonpaaDenPlain
import Derived.Test.YtedgcbcphlonpaaTy
import Derived.Test.YtedgcbcphlonpaaTyT
import Derived.Test.YtedgcbcphlonpaaTyO
namespace Go.Proofs.Ytedgcbcphlonpaa.Ty
open Go Go.RowKit Go.Proofs.Ytedgcbcphlonpaa.Den
set_option linter.unusedVariables false
set_option maxRecDepth 100000

/-! railpoint/cube.Header -/
def an_cube_Header : Ann := .seq (.reg 0 [] [] []) (.seq (.reg 0 [] [] []) (.no))
noncomputable def sem_cube_Header (n : Nat) (xs : List V) : Option V := if xs.length ≤ 9 then denF Try.prog (envOf []) n Try.f44 an_cube_Header xs else none
theorem ok_cube_Header (n : Nat) : SemOk Try.prog DW 44 (sem_cube_Header n) := fun xs y h => by
  unfold sem_cube_Header at h
  split at h
  · rename_i hl
    exact denF_ok stb Try.func44 (by kernel_rfl) (envOf_ok semsOk_nil) (by rw [Try.ntmps44]; exact hl) h
  · cases h
theorem eq_cube_Header (n : Nat) (x0 : V) : sem_cube_Header n [x0] =
 (bin2 Try.prog BinOp.geq 3 (ot 3) (oc 0) x0 (vi 0)).bind fun v1 =>
 (guardV v1 true (some x0)).bind fun v2 =>
 (guardV v1 true ((bin2 Try.prog BinOp.lss 3 (ot 6) (oc 16) v2 (vi 16)).bind fun v3 =>
 some v3)).bind fun v4 =>
 (pickV v1 v4 (vb false)).bind fun v5 =>
 some v5 := by kernel_rfl
noncomputable def t_cube_Header (a0 : Int) : Option Bool :=
 some ((decide (0 ≤ a0)) && (decide (a0 < 16)))
theorem ty_cube_Header {n : Nat} (hn : bigN ≤ n) (a0 : Int) : Rv (fun x : Bool => (vb x)) (sem_cube_Header n [(vi a0)]) (t_cube_Header a0) := by
  rw [eq_cube_Header]
  unfold t_cube_Header
  refine tb (x := (vb (decide (0 ≤ a0)))) (d_geq) ?_
  refine tg (x := (vi a0)) (fun h2 => rfl) ?_
  refine tg (x := (vb (decide (a0 < 16)))) (fun h4 => by simp only [gv_t h4]; exact bind_some_eq (d_lss)) ?_
  refine tb (x := (vb ((decide (0 ≤ a0)) && (decide (a0 < 16))))) (pick_and (fun h9 => gv_t h9)) ?_
  exact rf_ret rfl

/-! railpoint/cube.Check -/
def an_cube_Check : Ann := .seq (.reg 0 [] [] []) (.seq (.blk none (.seq (.reg 0 [] [] []) (.cond none (.seq (.reg 0 [] [] []) (.no)) (.seq (.reg 0 [] [] []) (.cond none (.seq (.reg 0 [] [] []) (.no)) (.no)))))) (.seq (.reg 0 [] [] []) (.no)))
noncomputable def sem_cube_Check (n : Nat) (xs : List V) : Option V := if xs.length ≤ 23 then denF Try.prog (envOf [(44, (sem_cube_Header n))]) n Try.f16 an_cube_Check xs else none
theorem ok_cube_Check (n : Nat) : SemOk Try.prog DW 16 (sem_cube_Check n) := fun xs y h => by
  unfold sem_cube_Check at h
  split at h
  · rename_i hl
    exact denF_ok stb Try.func16 (by kernel_rfl) (envOf_ok (semsOk_cons (ok_cube_Header n) semsOk_nil)) (by rw [Try.ntmps16]; exact hl) h
  · cases h
theorem eq_cube_Check (n : Nat) (x0 : V) : sem_cube_Check n [x0] =
 (V.cellsO x0).bind fun v1 =>
 (ldk none (List.drop 0 v1)).bind fun v2 =>
 ((sem_cube_Header n) [v2]).bind fun v3 =>
 (scal1 Try.prog (Op.unary Go.UnOp.not) v3).bind fun v4 =>
 (guardV v4 false (some V.any)).bind fun v5 =>
 (guardV v4 false ((gate v4 false (ldk none (List.drop 1 v1))).bind fun v6 =>
 some v6)).bind fun v7 =>
 (guardV v4 false (((sem_cube_Header n) [v7]).bind fun v8 =>
 some v8)).bind fun v9 =>
 (guardV v4 false ((scal1 Try.prog (Op.unary Go.UnOp.not) v9).bind fun v10 =>
 some v10)).bind fun v11 =>
 (pickV v4 (vb true) v11).bind fun v12 =>
 condV v12 (
 (scal1 Try.prog (Instr.makeInterface 23) (vi 1)).bind fun v13 =>
 some v13) (
 (ldk none (List.drop 1 v1)).bind fun v14 =>
 (ldk none (List.drop 0 v1)).bind fun v15 =>
 (bin2 Try.prog BinOp.andNot 3 (ot 17) (ot 19) v14 v15).bind fun v16 =>
 (bin2 Try.prog BinOp.neq 3 (ot 20) (oc 0) v16 (vi 0)).bind fun v17 =>
 condV v17 (
 (scal1 Try.prog (Instr.makeInterface 23) (vi 3)).bind fun v18 =>
 some v18) (
 some vn)) := by kernel_rfl
noncomputable def t_cube_Check (a0 : T_Cube) : Option Int :=
 (t_cube_Header a0.Mask).bind fun r4 =>
 (gd (!(!r4)) default (t_cube_Header a0.Bits)).bind fun r14 =>
 if ((!r4) || (!r14)) = true then (
 some 1) else (
 if (decide ((bits .andNot .i64 a0.Bits a0.Mask) ≠ 0)) = true then (
 some 3) else (
 some 0))
theorem ty_cube_Check {n : Nat} (hn : bigN ≤ n) (a0 : T_Cube) : Rv (fun x : Int => (eV x)) (sem_cube_Check n [(T_Cube.e a0)]) (t_cube_Check a0) := by
  rw [eq_cube_Check]
  unfold t_cube_Check
  refine tb (x := (T_Cube.c a0)) rfl ?_
  refine tb (x := (vi a0.Mask)) (rfl) ?_
  refine tbo (ty_cube_Header hn a0.Mask) fun r4 => ?_
  refine tb (x := (vb (!r4))) (d_not) ?_
  refine tg_f (x := V.any) (fun h6 => rfl) ?_
  refine tg_f (x := (vi a0.Bits)) (fun h8 => bind_some_eq (gate_pos (not_t h8) (rfl))) ?_
  refine tgo_f (fun h11 => by simp only [gv_t h11]; exact rf_bind_some (ty_cube_Header hn a0.Bits)) fun r14 => ?_
  refine tg_f (x := (vb (!r14))) (fun h15 => by simp only [gv_t h15]; exact bind_some_eq (d_not)) ?_
  refine tb (x := (vb ((!r4) || (!r14)))) (pick_or (fun h9 => gv_t (not_f h9))) ?_
  refine tcond (fun h19 => ?_) (fun h19 => ?_)
  · refine tb (x := (eV 1)) (p_mkE (by decide)) ?_
    exact rf_ret rfl
  · refine tb (x := (vi a0.Bits)) (rfl) ?_
    refine tb (x := (vi a0.Mask)) (rfl) ?_
    refine tb (x := (vi (bits .andNot .i64 a0.Bits a0.Mask))) (d_andNot) ?_
    refine tb (x := (vb (decide ((bits .andNot .i64 a0.Bits a0.Mask) ≠ 0)))) (d_neq) ?_
    refine tcond (fun h25 => ?_) (fun h25 => ?_)
    · refine tb (x := (eV 3)) (p_mkE (by decide)) ?_
      exact rf_ret rfl
    · exact rf_ret rfl

/-! railpoint/rule.Check -/
def an_rule_Check : Ann := .seq (.reg 0 [] [] []) (.seq (.seq (.reg 0 [] [] []) (.cond none (.seq (.reg 0 [] [] []) (.no)) (.no))) (.seq (.seq (.reg 0 [] [] []) (.seq (.reg 0 [] [] []) (.cond none (.seq (.reg 0 [] [] []) (.no)) (.no)))) (.seq (.seq (.reg 0 [] [] []) (.cond none (.seq (.reg 0 [] [] []) (.no)) (.no))) (.seq (.reg 0 [] [] []) (.no)))))
noncomputable def sem_rule_Check (n : Nat) (xs : List V) : Option V := if xs.length ≤ 58 then denF Try.prog (envOf [(44, (sem_cube_Header n)), (16, (sem_cube_Check n))]) n Try.f43 an_rule_Check xs else none
theorem ok_rule_Check (n : Nat) : SemOk Try.prog DW 43 (sem_rule_Check n) := fun xs y h => by
  unfold sem_rule_Check at h
  split at h
  · rename_i hl
    exact denF_ok stb Try.func43 (by kernel_rfl) (envOf_ok (semsOk_cons (ok_cube_Header n) (semsOk_cons (ok_cube_Check n) semsOk_nil))) (by rw [Try.ntmps43]; exact hl) h
  · cases h
theorem eq_rule_Check (n : Nat) (x0 : V) : sem_rule_Check n [x0] =
 (V.cellsO x0).bind fun v1 =>
 (ldk none (List.drop 0 v1)).bind fun v2 =>
 (bin2 Try.prog BinOp.lss 3 (ot 5) (oc 0) v2 (vi 0)).bind fun v3 =>
 (guardV v3 false (some V.any)).bind fun v4 =>
 (guardV v3 false ((gate v3 false (ldk none (List.drop 0 v1))).bind fun v5 =>
 some v5)).bind fun v6 =>
 (guardV v3 false ((bin2 Try.prog BinOp.gtr 3 (ot 9) (oc 99) v6 (vi 99)).bind fun v7 =>
 some v7)).bind fun v8 =>
 (pickV v3 (vb true) v8).bind fun v9 =>
 (guardV v9 false (some V.any)).bind fun v10 =>
 (guardV v9 false ((gate v9 false (ldk none (List.drop 3 v1))).bind fun v11 =>
 some v11)).bind fun v12 =>
 (guardV v9 false ((bin2 Try.prog BinOp.lss 3 (ot 14) (oc 0) v12 (vi 0)).bind fun v13 =>
 some v13)).bind fun v14 =>
 (pickV v9 (vb true) v14).bind fun v15 =>
 (guardV v15 false (some V.any)).bind fun v16 =>
 (guardV v15 false ((gate v15 false (ldk none (List.drop 3 v1))).bind fun v17 =>
 some v17)).bind fun v18 =>
 (guardV v15 false ((bin2 Try.prog BinOp.gtr 3 (ot 19) (oc 4) v18 (vi 4)).bind fun v19 =>
 some v19)).bind fun v20 =>
 (pickV v15 (vb true) v20).bind fun v21 =>
 (guardV v21 false (some V.any)).bind fun v22 =>
 (guardV v21 false ((gate v21 false (ldk none (List.drop 4 v1))).bind fun v23 =>
 some v23)).bind fun v24 =>
 (guardV v21 false (((sem_cube_Header n) [v24]).bind fun v25 =>
 some v25)).bind fun v26 =>
 (guardV v21 false ((scal1 Try.prog (Op.unary Go.UnOp.not) v26).bind fun v27 =>
 some v27)).bind fun v28 =>
 (pickV v21 (vb true) v28).bind fun v29 =>
 (guardV v29 false (some V.any)).bind fun v30 =>
 (guardV v29 false ((gate v29 false (ldk none (List.drop 5 v1))).bind fun v31 =>
 some v31)).bind fun v32 =>
 (guardV v29 false (((sem_cube_Header n) [v32]).bind fun v33 =>
 some v33)).bind fun v34 =>
 (guardV v29 false ((scal1 Try.prog (Op.unary Go.UnOp.not) v34).bind fun v35 =>
 some v35)).bind fun v36 =>
 (pickV v29 (vb true) v36).bind fun v37 =>
 condV v37 (
 (scal1 Try.prog (Instr.makeInterface 23) (vi 1)).bind fun v38 =>
 some v38) (
 (ldk (some 2) (List.drop 1 v1)).bind fun v39 =>
 ((sem_cube_Check n) [v39]).bind fun v40 =>
 (bin2 Try.prog BinOp.neq 31 (ot 38) (Operand.const Go.Value.nilIface) v40 vn).bind fun v41 =>
 condV v41 (
 some v40) (
 (ldk none (List.drop 5 v1)).bind fun v42 =>
 (ldk none (List.drop 4 v1)).bind fun v43 =>
 (bin2 Try.prog BinOp.andNot 3 (ot 42) (ot 44) v42 v43).bind fun v44 =>
 (bin2 Try.prog BinOp.neq 3 (ot 45) (oc 0) v44 (vi 0)).bind fun v45 =>
 (guardV v45 false (some V.any)).bind fun v46 =>
 (guardV v45 false ((gate v45 false (ldk none (List.drop 3 v1))).bind fun v47 =>
 some v47)).bind fun v48 =>
 (guardV v45 false ((bin2 Try.prog BinOp.eql 3 (ot 49) (oc 0) v48 (vi 0)).bind fun v49 =>
 some v49)).bind fun v50 =>
 (guardV v45 false (some v50)).bind fun v51 =>
 (guardV v51 true (some V.any)).bind fun v52 =>
 (guardV v51 true ((gate v51 true (ldk none (List.drop 4 v1))).bind fun v53 =>
 some v53)).bind fun v54 =>
 (guardV v51 true ((bin2 Try.prog BinOp.neq 3 (ot 53) (oc 0) v54 (vi 0)).bind fun v55 =>
 some v55)).bind fun v56 =>
 (guardV v45 false ((pickV v51 v56 (vb false)).bind fun v57 =>
 some v57)).bind fun v58 =>
 (pickV v45 (vb true) v58).bind fun v59 =>
 condV v59 (
 (scal1 Try.prog (Instr.makeInterface 23) (vi 3)).bind fun v60 =>
 some v60) (
 some vn))) := by kernel_rfl
noncomputable def t_rule_Check (a0 : T_Rule) : Option Int :=
 (gd (!((((decide (a0.Prio < 0)) || (decide (99 < a0.Prio))) || (decide (a0.Out < 0))) || (decide (4 < a0.Out)))) default (t_cube_Header a0.Set)).bind fun r39 =>
 (gd (!(((((decide (a0.Prio < 0)) || (decide (99 < a0.Prio))) || (decide (a0.Out < 0))) || (decide (4 < a0.Out))) || (!r39))) default (t_cube_Header a0.Value)).bind fun r52 =>
 if ((((((decide (a0.Prio < 0)) || (decide (99 < a0.Prio))) || (decide (a0.Out < 0))) || (decide (4 < a0.Out))) || (!r39)) || (!r52)) = true then (
 some 1) else (
 (t_cube_Check a0.Cube).bind fun r61 =>
 if (!decide (r61 = 0)) = true then (
 some r61) else (
 if ((decide ((bits .andNot .i64 a0.Value a0.Set) ≠ 0)) || ((decide (a0.Out = 0)) && (decide (a0.Set ≠ 0)))) = true then (
 some 3) else (
 some 0)))
theorem ty_rule_Check {n : Nat} (hn : bigN ≤ n) (a0 : T_Rule) : Rv (fun x : Int => (eV x)) (sem_rule_Check n [(T_Rule.e a0)]) (t_rule_Check a0) := by
  rw [eq_rule_Check]
  unfold t_rule_Check
  refine tb (x := (T_Rule.c a0)) rfl ?_
  refine tb (x := (vi a0.Prio)) (rfl) ?_
  refine tb (x := (vb (decide (a0.Prio < 0)))) (d_lss) ?_
  refine tg_f (x := V.any) (fun h4 => rfl) ?_
  refine tg_f (x := (vi a0.Prio)) (fun h6 => bind_some_eq (gate_pos (not_t h6) (rfl))) ?_
  refine tg_f (x := (vb (decide (99 < a0.Prio)))) (fun h9 => by simp only [gv_t h9]; exact bind_some_eq (d_gtr)) ?_
  refine tb (x := (vb ((decide (a0.Prio < 0)) || (decide (99 < a0.Prio))))) (pick_or (fun h9 => gv_t (not_f h9))) ?_
  refine tg_f (x := V.any) (fun h13 => rfl) ?_
  refine tg_f (x := (vi a0.Out)) (fun h15 => bind_some_eq (gate_pos (not_t h15) (rfl))) ?_
  refine tg_f (x := (vb (decide (a0.Out < 0)))) (fun h18 => by simp only [gv_t h18]; exact bind_some_eq (d_lss)) ?_
  refine tb (x := (vb (((decide (a0.Prio < 0)) || (decide (99 < a0.Prio))) || (decide (a0.Out < 0))))) (pick_or (fun h9 => gv_t (not_f h9))) ?_
  refine tg_f (x := V.any) (fun h22 => rfl) ?_
  refine tg_f (x := (vi a0.Out)) (fun h24 => bind_some_eq (gate_pos (not_t h24) (rfl))) ?_
  refine tg_f (x := (vb (decide (4 < a0.Out)))) (fun h27 => by simp only [gv_t h27]; exact bind_some_eq (d_gtr)) ?_
  refine tb (x := (vb ((((decide (a0.Prio < 0)) || (decide (99 < a0.Prio))) || (decide (a0.Out < 0))) || (decide (4 < a0.Out))))) (pick_or (fun h9 => gv_t (not_f h9))) ?_
  refine tg_f (x := V.any) (fun h31 => rfl) ?_
  refine tg_f (x := (vi a0.Set)) (fun h33 => bind_some_eq (gate_pos (not_t h33) (rfl))) ?_
  refine tgo_f (fun h36 => by simp only [gv_t h36]; exact rf_bind_some (ty_cube_Header hn a0.Set)) fun r39 => ?_
  refine tg_f (x := (vb (!r39))) (fun h40 => by simp only [gv_t h40]; exact bind_some_eq (d_not)) ?_
  refine tb (x := (vb (((((decide (a0.Prio < 0)) || (decide (99 < a0.Prio))) || (decide (a0.Out < 0))) || (decide (4 < a0.Out))) || (!r39)))) (pick_or (fun h9 => gv_t (not_f h9))) ?_
  refine tg_f (x := V.any) (fun h44 => rfl) ?_
  refine tg_f (x := (vi a0.Value)) (fun h46 => bind_some_eq (gate_pos (not_t h46) (rfl))) ?_
  refine tgo_f (fun h49 => by simp only [gv_t h49]; exact rf_bind_some (ty_cube_Header hn a0.Value)) fun r52 => ?_
  refine tg_f (x := (vb (!r52))) (fun h53 => by simp only [gv_t h53]; exact bind_some_eq (d_not)) ?_
  refine tb (x := (vb ((((((decide (a0.Prio < 0)) || (decide (99 < a0.Prio))) || (decide (a0.Out < 0))) || (decide (4 < a0.Out))) || (!r39)) || (!r52)))) (pick_or (fun h9 => gv_t (not_f h9))) ?_
  refine tcond (fun h57 => ?_) (fun h57 => ?_)
  · refine tb (x := (eV 1)) (p_mkE (by decide)) ?_
    exact rf_ret rfl
  · refine tb (x := (T_Cube.e a0.Cube)) (rfl) ?_
    refine tbo (ty_cube_Check hn a0.Cube) fun r61 => ?_
    refine tb (x := (vb (!decide (r61 = 0)))) (p_err_neq _) ?_
    refine tcond (fun h63 => ?_) (fun h63 => ?_)
    · exact rf_ret rfl
    · refine tb (x := (vi a0.Value)) (rfl) ?_
      refine tb (x := (vi a0.Set)) (rfl) ?_
      refine tb (x := (vi (bits .andNot .i64 a0.Value a0.Set))) (d_andNot) ?_
      refine tb (x := (vb (decide ((bits .andNot .i64 a0.Value a0.Set) ≠ 0)))) (d_neq) ?_
      refine tg_f (x := V.any) (fun h68 => rfl) ?_
      refine tg_f (x := (vi a0.Out)) (fun h70 => bind_some_eq (gate_pos (not_t h70) (rfl))) ?_
      refine tg_f (x := (vb (decide (a0.Out = 0)))) (fun h73 => by simp only [gv_t h73]; exact bind_some_eq (d_eql)) ?_
      refine tg_f (x := (vb (decide (a0.Out = 0)))) (fun h76 => congrArg some (gv_t h76)) ?_
      refine tg2 (x := V.any) (fun h78 => rfl) ?_
      refine tg2 (x := (vi a0.Set)) (fun h80 => bind_some_eq (gate_pos2 (and_l h80) (and_r h80) (rfl))) ?_
      refine tg2 (x := (vb (decide (a0.Set ≠ 0)))) (fun h83 => by simp only [gv_t h83]; exact bind_some_eq (d_neq)) ?_
      refine tg_f (x := (vb ((decide (a0.Out = 0)) && (decide (a0.Set ≠ 0))))) (fun h86 => by simp only [gv_t h86]; exact bind_some_eq (pick_and (fun h9 => gv_t (and_i h86 h9)))) ?_
      refine tb (x := (vb ((decide ((bits .andNot .i64 a0.Value a0.Set) ≠ 0)) || ((decide (a0.Out = 0)) && (decide (a0.Set ≠ 0)))))) (pick_or (fun h9 => gv_t (not_f h9))) ?_
      refine tcond (fun h90 => ?_) (fun h90 => ?_)
      · refine tb (x := (eV 3)) (p_mkE (by decide)) ?_
        exact rf_ret rfl
      · exact rf_ret rfl

/-! railpoint/wire.Check -/
def an_wire_Check : Ann := .seq (.reg 0 [] [] []) (.seq (.seq (.reg 0 [] [] []) (.cond none (.seq (.reg 0 [] [] []) (.no)) (.no))) (.seq (.seq (.reg 0 [] [] []) (.cond none (.seq (.seq (.reg 0 [] [] []) (.cond none (.seq (.reg 0 [] [] []) (.no)) (.no))) (.seq (.reg 0 [] [] []) (.no))) (.no))) (.seq (.seq (.reg 0 [] [] []) (.seq (.reg 0 [] [] []) (.cond none (.seq (.reg 0 [] [] []) (.no)) (.no)))) (.seq (.seq (.reg 0 [] [] []) (.cond none (.seq (.reg 0 [] [] []) (.no)) (.no))) (.seq (.reg 0 [] [] []) (.no))))))
noncomputable def sem_wire_Check (n : Nat) (xs : List V) : Option V := if xs.length ≤ 75 then denF Try.prog (envOf [(43, (sem_rule_Check n))]) n Try.f47 an_wire_Check xs else none
theorem ok_wire_Check (n : Nat) : SemOk Try.prog DW 47 (sem_wire_Check n) := fun xs y h => by
  unfold sem_wire_Check at h
  split at h
  · rename_i hl
    exact denF_ok stb Try.func47 (by kernel_rfl) (envOf_ok (semsOk_cons (ok_rule_Check n) semsOk_nil)) (by rw [Try.ntmps47]; exact hl) h
  · cases h
theorem eq_wire_Check (n : Nat) (x0 : V) : sem_wire_Check n [x0] =
 (V.cellsO x0).bind fun v1 =>
 (ldk none (List.drop 0 v1)).bind fun v2 =>
 (bin2 Try.prog BinOp.lss 3 (ot 5) (oc 1) v2 (vi 1)).bind fun v3 =>
 (guardV v3 false (some V.any)).bind fun v4 =>
 (guardV v3 false ((gate v3 false (ldk none (List.drop 0 v1))).bind fun v5 =>
 some v5)).bind fun v6 =>
 (guardV v3 false ((bin2 Try.prog BinOp.gtr 3 (ot 9) (oc 3) v6 (vi 3)).bind fun v7 =>
 some v7)).bind fun v8 =>
 (pickV v3 (vb true) v8).bind fun v9 =>
 (guardV v9 false (some V.any)).bind fun v10 =>
 (guardV v9 false ((gate v9 false (ldk none (List.drop 1 v1))).bind fun v11 =>
 some v11)).bind fun v12 =>
 (guardV v9 false ((bin2 Try.prog BinOp.lss 3 (ot 14) (oc 1) v12 (vi 1)).bind fun v13 =>
 some v13)).bind fun v14 =>
 (pickV v9 (vb true) v14).bind fun v15 =>
 (guardV v15 false (some V.any)).bind fun v16 =>
 (guardV v15 false ((gate v15 false (ldk none (List.drop 1 v1))).bind fun v17 =>
 some v17)).bind fun v18 =>
 (guardV v15 false ((bin2 Try.prog BinOp.gtr 3 (ot 19) (oc 6) v18 (vi 6)).bind fun v19 =>
 some v19)).bind fun v20 =>
 (pickV v15 (vb true) v20).bind fun v21 =>
 (guardV v21 false (some V.any)).bind fun v22 =>
 (guardV v21 false ((gate v21 false (ldk none (List.drop 2 v1))).bind fun v23 =>
 some v23)).bind fun v24 =>
 (guardV v21 false ((bin2 Try.prog BinOp.lss 3 (ot 24) (oc 0) v24 (vi 0)).bind fun v25 =>
 some v25)).bind fun v26 =>
 (pickV v21 (vb true) v26).bind fun v27 =>
 (guardV v27 false (some V.any)).bind fun v28 =>
 (guardV v27 false ((gate v27 false (ldk none (List.drop 2 v1))).bind fun v29 =>
 some v29)).bind fun v30 =>
 (guardV v27 false ((bin2 Try.prog BinOp.geq 3 (ot 29) (oc 20) v30 (vi 20)).bind fun v31 =>
 some v31)).bind fun v32 =>
 (pickV v27 (vb true) v32).bind fun v33 =>
 (guardV v33 false (some V.any)).bind fun v34 =>
 (guardV v33 false ((gate v33 false (ldk none (List.drop 3 v1))).bind fun v35 =>
 some v35)).bind fun v36 =>
 (guardV v33 false ((bin2 Try.prog BinOp.lss 3 (ot 34) (oc 0) v36 (vi 0)).bind fun v37 =>
 some v37)).bind fun v38 =>
 (pickV v33 (vb true) v38).bind fun v39 =>
 (guardV v39 false (some V.any)).bind fun v40 =>
 (guardV v39 false ((gate v39 false (ldk none (List.drop 3 v1))).bind fun v41 =>
 some v41)).bind fun v42 =>
 (guardV v39 false ((bin2 Try.prog BinOp.gtr 3 (ot 39) (oc 200) v42 (vi 200)).bind fun v43 =>
 some v43)).bind fun v44 =>
 (pickV v39 (vb true) v44).bind fun v45 =>
 condV v45 (
 (scal1 Try.prog (Instr.makeInterface 23) (vi 1)).bind fun v46 =>
 some v46) (
 (ldk none (List.drop 0 v1)).bind fun v47 =>
 (bin2 Try.prog BinOp.neq 3 (ot 44) (oc 1) v47 (vi 1)).bind fun v48 =>
 condV v48 (
 (ldk (some 8) (List.drop 4 v1)).bind fun v49 =>
 ((fillL [(vi 0), (vb false), (vi 0), (vi 0), (vi 0), (vi 0), (vi 0), (vi 0)] []).map V.agg).bind fun v50 =>
 (bin2 Try.prog BinOp.neq 49 (ot 47) (ot 48) v49 v50).bind fun v51 =>
 (guardV v51 false (some V.any)).bind fun v52 =>
 (guardV v51 false ((gate v51 false (ldk none (List.drop 0 v1))).bind fun v53 =>
 some v53)).bind fun v54 =>
 (guardV v51 false ((bin2 Try.prog BinOp.eql 3 (ot 52) (oc 3) v54 (vi 3)).bind fun v55 =>
 some v55)).bind fun v56 =>
 (guardV v51 false (some v56)).bind fun v57 =>
 (guardV v57 true (some V.any)).bind fun v58 =>
 (guardV v57 true ((gate v57 true (ldk none (List.drop 3 v1))).bind fun v59 =>
 some v59)).bind fun v60 =>
 (guardV v57 true ((bin2 Try.prog BinOp.neq 3 (ot 56) (oc 0) v60 (vi 0)).bind fun v61 =>
 some v61)).bind fun v62 =>
 (guardV v51 false ((pickV v57 v62 (vb false)).bind fun v63 =>
 some v63)).bind fun v64 =>
 (pickV v51 (vb true) v64).bind fun v65 =>
 condV v65 (
 (scal1 Try.prog (Instr.makeInterface 23) (vi 3)).bind fun v66 =>
 some v66) (
 some vn)) (
 (ldk (some 6) (List.drop 6 v1)).bind fun v67 =>
 ((sem_rule_Check n) [v67]).bind fun v68 =>
 (bin2 Try.prog BinOp.neq 31 (ot 65) (Operand.const Go.Value.nilIface) v68 vn).bind fun v69 =>
 condV v69 (
 some v68) (
 (ldk none (List.drop 4 v1)).bind fun v70 =>
 (ldk none (List.drop 1 v1)).bind fun v71 =>
 (bin2 Try.prog BinOp.neq 3 (ot 70) (ot 72) v70 v71).bind fun v72 =>
 condV v72 (
 (scal1 Try.prog (Instr.makeInterface 23) (vi 3)).bind fun v73 =>
 some v73) (
 some vn)))) := by kernel_rfl
noncomputable def t_wire_Check (a0 : T_Msg) : Option Int :=
 (some ((((((decide (a0.Kind < 1)) || (decide (3 < a0.Kind))) || (decide (a0.Switch < 1))) || (decide (6 < a0.Switch))) || (decide (a0.Round < 0))) || (decide (20 ≤ a0.Round)))).bind fun r49 =>
 if ((r49 || (decide (a0.Index < 0))) || (decide (200 < a0.Index))) = true then (
 some 1) else (
 if (decide (a0.Kind ≠ 1)) = true then (
 if ((!decide (a0.Op = (T_Op.mk 0 false (T_Rule.mk 0 (T_Cube.mk 0 0) 0 0 0)))) || ((decide (a0.Kind = 3)) && (decide (a0.Index ≠ 0)))) = true then (
 some 3) else (
 some 0)) else (
 (t_rule_Check a0.Op.Rule).bind fun r102 =>
 if (!decide (r102 = 0)) = true then (
 some r102) else (
 if (decide (a0.Op.Switch ≠ a0.Switch)) = true then (
 some 3) else (
 some 0))))
theorem ty_wire_Check {n : Nat} (hn : bigN ≤ n) (a0 : T_Msg) : Rv (fun x : Int => (eV x)) (sem_wire_Check n [(T_Msg.e a0)]) (t_wire_Check a0) := by
  rw [eq_wire_Check]
  unfold t_wire_Check
  refine tb (x := (T_Msg.c a0)) rfl ?_
  refine tb (x := (vi a0.Kind)) (rfl) ?_
  refine tb (x := (vb (decide (a0.Kind < 1)))) (d_lss) ?_
  refine tg_f (x := V.any) (fun h4 => rfl) ?_
  refine tg_f (x := (vi a0.Kind)) (fun h6 => bind_some_eq (gate_pos (not_t h6) (rfl))) ?_
  refine tg_f (x := (vb (decide (3 < a0.Kind)))) (fun h9 => by simp only [gv_t h9]; exact bind_some_eq (d_gtr)) ?_
  refine tb (x := (vb ((decide (a0.Kind < 1)) || (decide (3 < a0.Kind))))) (pick_or (fun h9 => gv_t (not_f h9))) ?_
  refine tg_f (x := V.any) (fun h13 => rfl) ?_
  refine tg_f (x := (vi a0.Switch)) (fun h15 => bind_some_eq (gate_pos (not_t h15) (rfl))) ?_
  refine tg_f (x := (vb (decide (a0.Switch < 1)))) (fun h18 => by simp only [gv_t h18]; exact bind_some_eq (d_lss)) ?_
  refine tb (x := (vb (((decide (a0.Kind < 1)) || (decide (3 < a0.Kind))) || (decide (a0.Switch < 1))))) (pick_or (fun h9 => gv_t (not_f h9))) ?_
  refine tg_f (x := V.any) (fun h22 => rfl) ?_
  refine tg_f (x := (vi a0.Switch)) (fun h24 => bind_some_eq (gate_pos (not_t h24) (rfl))) ?_
  refine tg_f (x := (vb (decide (6 < a0.Switch)))) (fun h27 => by simp only [gv_t h27]; exact bind_some_eq (d_gtr)) ?_
  refine tb (x := (vb ((((decide (a0.Kind < 1)) || (decide (3 < a0.Kind))) || (decide (a0.Switch < 1))) || (decide (6 < a0.Switch))))) (pick_or (fun h9 => gv_t (not_f h9))) ?_
  refine tg_f (x := V.any) (fun h31 => rfl) ?_
  refine tg_f (x := (vi a0.Round)) (fun h33 => bind_some_eq (gate_pos (not_t h33) (rfl))) ?_
  refine tg_f (x := (vb (decide (a0.Round < 0)))) (fun h36 => by simp only [gv_t h36]; exact bind_some_eq (d_lss)) ?_
  refine tb (x := (vb (((((decide (a0.Kind < 1)) || (decide (3 < a0.Kind))) || (decide (a0.Switch < 1))) || (decide (6 < a0.Switch))) || (decide (a0.Round < 0))))) (pick_or (fun h9 => gv_t (not_f h9))) ?_
  refine tg_f (x := V.any) (fun h40 => rfl) ?_
  refine tg_f (x := (vi a0.Round)) (fun h42 => bind_some_eq (gate_pos (not_t h42) (rfl))) ?_
  refine tg_f (x := (vb (decide (20 ≤ a0.Round)))) (fun h45 => by simp only [gv_t h45]; exact bind_some_eq (d_geq)) ?_
  refine tbo (e1 := fun x : Bool => (vb x)) (rf_eq (pick_or (fun h9 => gv_t (not_f h9))) rfl) fun r49 => ?_
  refine tg_f (x := V.any) (fun h50 => rfl) ?_
  refine tg_f (x := (vi a0.Index)) (fun h52 => bind_some_eq (gate_pos (not_t h52) (rfl))) ?_
  refine tg_f (x := (vb (decide (a0.Index < 0)))) (fun h55 => by simp only [gv_t h55]; exact bind_some_eq (d_lss)) ?_
  refine tb (x := (vb (r49 || (decide (a0.Index < 0))))) (pick_or (fun h9 => gv_t (not_f h9))) ?_
  refine tg_f (x := V.any) (fun h59 => rfl) ?_
  refine tg_f (x := (vi a0.Index)) (fun h61 => bind_some_eq (gate_pos (not_t h61) (rfl))) ?_
  refine tg_f (x := (vb (decide (200 < a0.Index)))) (fun h64 => by simp only [gv_t h64]; exact bind_some_eq (d_gtr)) ?_
  refine tb (x := (vb ((r49 || (decide (a0.Index < 0))) || (decide (200 < a0.Index))))) (pick_or (fun h9 => gv_t (not_f h9))) ?_
  refine tcond (fun h68 => ?_) (fun h68 => ?_)
  · refine tb (x := (eV 1)) (p_mkE (by decide)) ?_
    exact rf_ret rfl
  · refine tb (x := (vi a0.Kind)) (rfl) ?_
    refine tb (x := (vb (decide (a0.Kind ≠ 1)))) (d_neq) ?_
    refine tcond (fun h72 => ?_) (fun h72 => ?_)
    · refine tb (x := (T_Op.e a0.Op)) (rfl) ?_
      refine tb (x := (T_Op.e (T_Op.mk 0 false (T_Rule.mk 0 (T_Cube.mk 0 0) 0 0 0)))) (by kernel_rfl) ?_
      refine tb (x := (vb (!decide (a0.Op = (T_Op.mk 0 false (T_Rule.mk 0 (T_Cube.mk 0 0) 0 0 0)))))) (T_Op.neq a0.Op (T_Op.mk 0 false (T_Rule.mk 0 (T_Cube.mk 0 0) 0 0 0))) ?_
      refine tg_f (x := V.any) (fun h76 => rfl) ?_
      refine tg_f (x := (vi a0.Kind)) (fun h78 => bind_some_eq (gate_pos (not_t h78) (rfl))) ?_
      refine tg_f (x := (vb (decide (a0.Kind = 3)))) (fun h81 => by simp only [gv_t h81]; exact bind_some_eq (d_eql)) ?_
      refine tg_f (x := (vb (decide (a0.Kind = 3)))) (fun h84 => congrArg some (gv_t h84)) ?_
      refine tg2 (x := V.any) (fun h86 => rfl) ?_
      refine tg2 (x := (vi a0.Index)) (fun h88 => bind_some_eq (gate_pos2 (and_l h88) (and_r h88) (rfl))) ?_
      refine tg2 (x := (vb (decide (a0.Index ≠ 0)))) (fun h91 => by simp only [gv_t h91]; exact bind_some_eq (d_neq)) ?_
      refine tg_f (x := (vb ((decide (a0.Kind = 3)) && (decide (a0.Index ≠ 0))))) (fun h94 => by simp only [gv_t h94]; exact bind_some_eq (pick_and (fun h9 => gv_t (and_i h94 h9)))) ?_
      refine tb (x := (vb ((!decide (a0.Op = (T_Op.mk 0 false (T_Rule.mk 0 (T_Cube.mk 0 0) 0 0 0)))) || ((decide (a0.Kind = 3)) && (decide (a0.Index ≠ 0)))))) (pick_or (fun h9 => gv_t (not_f h9))) ?_
      refine tcond (fun h98 => ?_) (fun h98 => ?_)
      · refine tb (x := (eV 3)) (p_mkE (by decide)) ?_
        exact rf_ret rfl
      · exact rf_ret rfl
    · refine tb (x := (T_Rule.e a0.Op.Rule)) (rfl) ?_
      refine tbo (ty_rule_Check hn a0.Op.Rule) fun r102 => ?_
      refine tb (x := (vb (!decide (r102 = 0)))) (p_err_neq _) ?_
      refine tcond (fun h104 => ?_) (fun h104 => ?_)
      · exact rf_ret rfl
      · refine tb (x := (vi a0.Op.Switch)) (rfl) ?_
        refine tb (x := (vi a0.Switch)) (rfl) ?_
        refine tb (x := (vb (decide (a0.Op.Switch ≠ a0.Switch)))) (d_neq) ?_
        refine tcond (fun h108 => ?_) (fun h108 => ?_)
        · refine tb (x := (eV 3)) (p_mkE (by decide)) ?_
          exact rf_ret rfl
        · exact rf_ret rfl

/-! railpoint/wire.sum -/
def an_wire_sum : Ann := .seq (.reg 0 [] [] []) (.seq (.reg 0 [] [] []) (.seq (.seq (.reg 0 [] [] []) (.blk (some [.s 3]) (.loop [.s 3, .s 8] (.seq (.reg 0 [] [] []) (.seq (.cond none (.no) (.no)) (.seq (.blk none (.seq (.reg 0 [] [] []) (.reg 0 [] [] []))) (.reg 0 [] [] []))))))) (.seq (.reg 0 [] [] []) (.no))))
noncomputable def sem_wire_sum (n : Nat) (xs : List V) : Option V := if xs.length ≤ 20 then denF Try.prog (envOf []) n Try.f48 an_wire_sum xs else none
theorem ok_wire_sum (n : Nat) : SemOk Try.prog DW 48 (sem_wire_sum n) := fun xs y h => by
  unfold sem_wire_sum at h
  split at h
  · rename_i hl
    exact denF_ok stb Try.func48 (by kernel_rfl) (envOf_ok semsOk_nil) (by rw [Try.ntmps48]; exact hl) h
  · cases h
theorem eq_wire_sum (n : Nat) (x0 : V) : sem_wire_sum n [x0] =
 (lenS [x0]).bind fun v1 =>
 JoinPt (fun vs2 =>
 (bin2 Try.prog BinOp.rem 3 (ot 17) (oc 251) (List.getD vs2 0 V.any) (vi 251)).bind fun v4 =>
 (scal1 Try.prog (convert 3 5) v4).bind fun v5 =>
 some v5) fun J3 =>
 (fixN (fun rec6 vs7 =>
 (bin2 Try.prog BinOp.lss 3 (ot 8) (ot 7) (List.getD vs7 1 V.any) v1).bind fun v8 =>
 condV v8 (
 (idxS 1 x0 (List.getD vs7 1 V.any)).bind fun v9 =>
 (ldp none v9).bind fun v10 =>
 (scal1 Try.prog (convert 5 3) v10).bind fun v11 =>
 (bin2 Try.prog BinOp.add 3 (ot 12) (ot 14) (List.getD vs7 0 V.any) v11).bind fun v12 =>
 (bin2 Try.prog BinOp.add 3 (ot 8) (oc 1) (List.getD vs7 1 V.any) (vi 1)).bind fun v13 =>
 rec6 [v12, v13]) (
 J3 [(List.getD vs7 0 V.any)])) n) [(vi 0), (vi 0)] := by kernel_rfl
noncomputable def t_wire_sum (a0 : (List Int)) : Option Int :=
 (loopI a0 (fun (i15 : Int) x16 (s11 : Int) k12 =>
 k12 (wr (s11 + (wr x16)))) (fun (s11 : Int) =>
 some (s11)) (0)).bind fun (s4 : Int) =>
 some (IntKind.u8.wrap (Int.tmod s4 251))
theorem ty_wire_sum {n : Nat} (hn : bigN ≤ n) (a0 : (List Int)) : Rv (fun x : Int => (V.lit (.int .u8 x))) (sem_wire_sum n [(V.sl (List.map cY a0))]) (t_wire_sum a0) := by
  rw [eq_wire_sum]
  unfold t_wire_sum
  refine tb (x := (vi (List.length a0 : Int))) (p_len _) ?_
  refine tjb (mk := fun s4 : Int => [(vi s4)]) (fun J3 => ?_) fun s4 => ?_
  · refine rf_loopI (mk := fun (i15 : Int) (s11 : Int) => [(vi s11), (vi (i15 : Int))]) hn a0 (0) (fun i15 x16 h17 h18 h19 s11 rec9 k12 h13 => ?_) (fun s11 rec27 h26 => ?_)
    · refine tb (x := (vb (decide ((i15 : Int) < (List.length a0 : Int))))) (d_lss) ?_
      refine tcond_t h19 ?_
      refine tb (x := (V.ptr [(V.lit (.int .u8 x16))])) (p_idx_at (c := cY) (fun _ => rfl) h17) ?_
      refine tb (x := (V.lit (.int .u8 x16))) (rfl) ?_
      refine tb (x := (vi (wr x16))) (scal1_lit (r := .int .i64 (IntKind.i64.wrap x16)) rfl (fun w => by kernel_rfl) rfl) ?_
      refine tb (x := (vi (wr (s11 + (wr x16))))) (d_add) ?_
      refine tb (x := (vi ((i15 : Int) + 1))) (p_incN h18) ?_
      exact h13 (wr (s11 + (wr x16)))
    · refine tb (x := (vb (decide ((List.length a0 : Int) < (List.length a0 : Int))))) (d_lss) ?_
      refine tcond_f h26 ?_
      exact rf_j rfl
  · refine tb (x := (vi (Int.tmod s4 251))) (p_rem (by decide)) ?_
    refine tb (x := (V.lit (.int .u8 (IntKind.u8.wrap (Int.tmod s4 251))))) (scal1_lit (r := .int .u8 (IntKind.u8.wrap (Int.tmod s4 251))) rfl (fun w => by kernel_rfl) rfl) ?_
    exact rf_ret rfl

/-! railpoint/wire.Encode -/
def an_wire_Encode : Ann := .seq (.reg 0 [] [] []) (.seq (.seq (.reg 0 [] [] []) (.seq (.reg 0 [] [] []) (.cond none (.seq (.reg 0 [] [] []) (.no)) (.no)))) (.seq (.reg 0 [] [] [24]) (.seq (.seq (.reg 0 [] [] []) (.cond (some [.s 5]) (.seq (.reg 0 [] [] []) (.seq (.seq (.reg 0 [] [] []) (.cond (some [.kb 1, .r 5 3, .s 6]) (.reg 0 [] [] []) (.no))) (.seq (.reg 0 [] [] []) (.reg 0 [] [] [])))) (.no))) (.seq (.reg 0 [] [] []) (.seq (.seq (.reg 0 [] [] []) (.blk (some [.r 8 5]) (.loop [.r 8 5, .s 52, .s 54] (.seq (.reg 0 [] [] []) (.seq (.cond none (.no) (.no)) (.seq (.blk none (.seq (.reg 0 [] [] []) (.reg 0 [] [] []))) (.reg 0 [] [] []))))))) (.seq (.reg 0 [] [] []) (.no)))))))
noncomputable def sem_wire_Encode (n : Nat) (xs : List V) : Option V := if xs.length ≤ 70 then denF Try.prog (envOf [(47, (sem_wire_Check n)), (48, (sem_wire_sum n))]) n Try.f22 an_wire_Encode xs else none
theorem ok_wire_Encode (n : Nat) : SemOk Try.prog DW 22 (sem_wire_Encode n) := fun xs y h => by
  unfold sem_wire_Encode at h
  split at h
  · rename_i hl
    exact denF_ok stb Try.func22 (by kernel_rfl) (envOf_ok (semsOk_cons (ok_wire_Check n) (semsOk_cons (ok_wire_sum n) semsOk_nil))) (by rw [Try.ntmps22]; exact hl) h
  · cases h
theorem eq_wire_Encode (n : Nat) (x0 : V) : sem_wire_Encode n [x0] =
 (V.cellsO x0).bind fun v1 =>
 (ldk (some 12) (List.drop 0 v1)).bind fun v2 =>
 ((sem_wire_Check n) [v2]).bind fun v3 =>
 (bin2 Try.prog BinOp.neq 31 (ot 13) (Operand.const Go.Value.nilIface) v3 vn).bind fun v4 =>
 condV v4 (
 some (V.tup [(V.lit (Go.Value.string (ByteArray.mk #[]))), v3])) (
 (ldk none (List.drop 0 v1)).bind fun v5 =>
 (ldk none (List.drop 1 v1)).bind fun v6 =>
 (ldk none (List.drop 2 v1)).bind fun v7 =>
 (ldk none (List.drop 3 v1)).bind fun v8 =>
 (slcB 1 4 [(vi 0)] [(0, v5), (1, v6), (2, v7), (3, v8)]).bind fun v9 =>
 (ldk none (List.drop 0 v1)).bind fun v10 =>
 (bin2 Try.prog BinOp.eql 3 (ot 26) (oc 1) v10 (vi 1)).bind fun v11 =>
 JoinPt (fun vs12 =>
 (lenS [(List.getD vs12 0 V.any)]).bind fun v14 =>
 JoinPt (fun vs15 =>
 ((sem_wire_sum n) [(V.sl (slL (List.getD vs15 0 V.any)))]).bind fun v17 =>
 (slcB 1 1 [(V.lit (Go.Value.int Go.IntKind.u8 0))] [(0, v17)]).bind fun v18 =>
 (appV 1 (slL (List.getD vs15 0 V.any)) v18).bind fun v19 =>
 (b2s (V.sl (slL v19))).bind fun v20 =>
 some (V.tup [v20, vn])) fun J16 =>
 (fixN (fun rec21 vs22 =>
 (bin2 Try.prog BinOp.lss 3 (ot 54) (ot 53) (List.getD vs22 2 V.any) v14).bind fun v23 =>
 condV v23 (
 (idxS 1 (List.getD vs22 1 V.any) (List.getD vs22 2 V.any)).bind fun v24 =>
 (ldp none v24).bind fun v25 =>
 (scal1 Try.prog (convert 3 5) v25).bind fun v26 =>
 (slcB 1 1 [(V.lit (Go.Value.int Go.IntKind.u8 0))] [(0, v26)]).bind fun v27 =>
 (appV 1 (slL (List.getD vs22 0 V.any)) v27).bind fun v28 =>
 (bin2 Try.prog BinOp.add 3 (ot 54) (oc 1) (List.getD vs22 2 V.any) (vi 1)).bind fun v29 =>
 rec21 [(V.sl (slL v28)), (List.getD vs22 1 V.any), v29]) (
 J16 [(V.sl (slL (List.getD vs22 0 V.any)))])) n) [(V.sl []), (List.getD vs12 0 V.any), (vi 0)]) fun J13 =>
 condV v11 (
 (ldk none (List.drop 5 v1)).bind fun v30 =>
 JoinPt (fun vs31 =>
 (ldk (some 6) (List.drop 6 v1)).bind fun v33 =>
 (spliceV [(vi 0), (vi 0), (vi 0), (vi 0), (vi 0), (vi 0)] 0 6 v33).bind fun v34 =>
 (ldk none (List.drop 0 (aggL v34))).bind fun v35 =>
 (ldk none (List.drop 1 (aggL v34))).bind fun v36 =>
 (ldk none (List.drop 2 (aggL v34))).bind fun v37 =>
 (ldk none (List.drop 3 (aggL v34))).bind fun v38 =>
 (ldk none (List.drop 4 (aggL v34))).bind fun v39 =>
 (ldk none (List.drop 5 (aggL v34))).bind fun v40 =>
 (slcB 1 7 [(vi 0)] [(0, (List.getD vs31 1 V.any)), (1, v35), (2, v36), (3, v37), (4, v38), (5, v39), (6, v40)]).bind fun v41 =>
 (appV 1 (slL (List.getD vs31 0 V.any)) v41).bind fun v42 =>
 J13 [(V.sl (slL v42))]) fun J32 =>
 condV v30 (
 (keepO (some v1) (some v1) (some [(V.sl (slL v9)), (vi 1)])).bind J32) (
 (keepO (some v1) (some v1) (some [(V.sl (slL v9)), (vi 0)])).bind J32)) (
 J13 [(V.sl (slL v9))])) := by kernel_rfl
noncomputable def t_wire_Encode (a0 : T_Msg) : Option (ByteArray × Int) :=
 (t_wire_Check a0).bind fun r4 =>
 if (!decide (r4 = 0)) = true then (
 some ((ByteArray.mk #[]), r4)) else (
 (if (decide (a0.Kind = 1)) = true then (
 (if a0.Op.Add = true then (
 some (([a0.Kind, a0.Switch, a0.Round, a0.Index] : (List Int)), 1)) else (
 some (([a0.Kind, a0.Switch, a0.Round, a0.Index] : (List Int)), 0))).bind fun (s57 : ((List Int) × Int)) =>
 (app s57.1 ([s57.2, a0.Op.Rule.Prio, a0.Op.Rule.Cube.Mask, a0.Op.Rule.Cube.Bits, a0.Op.Rule.Out, a0.Op.Rule.Set, a0.Op.Rule.Value] : (List Int))).bind fun r70 =>
 some (r70)) else (
 some ([a0.Kind, a0.Switch, a0.Round, a0.Index] : (List Int)))).bind fun (s16 : (List Int)) =>
 (loopI s16 (fun (i37 : Int) x38 (s33 : (List Int)) k34 =>
 (app s33 ([(IntKind.u8.wrap x38)] : (List Int))).bind fun r48 =>
 k34 (r48)) (fun (s33 : (List Int)) =>
 some (s33)) ([])).bind fun (s22 : (List Int)) =>
 (t_wire_sum s22).bind fun r26 =>
 (app s22 ([r26] : (List Int))).bind fun r29 =>
 some ((strOfNums r29), 0))
theorem ty_wire_Encode {n : Nat} (hn : bigN ≤ n) (a0 : T_Msg) : Rv (fun x : (ByteArray × Int) => V.tup [(vt x.1), (eV x.2)]) (sem_wire_Encode n [(T_Msg.e a0)]) (t_wire_Encode a0) := by
  rw [eq_wire_Encode]
  unfold t_wire_Encode
  refine tb (x := (T_Msg.c a0)) rfl ?_
  refine tb (x := (T_Msg.e a0)) (rfl) ?_
  refine tbo (ty_wire_Check hn a0) fun r4 => ?_
  refine tb (x := (vb (!decide (r4 = 0)))) (p_err_neq _) ?_
  refine tcond (fun h6 => ?_) (fun h6 => ?_)
  · exact rf_ret rfl
  · refine tb (x := (vi a0.Kind)) (rfl) ?_
    refine tb (x := (vi a0.Switch)) (rfl) ?_
    refine tb (x := (vi a0.Round)) (rfl) ?_
    refine tb (x := (vi a0.Index)) (rfl) ?_
    refine tb (x := (V.sl (List.map cI ([a0.Kind, a0.Switch, a0.Round, a0.Index] : (List Int))))) (by kernel_rfl) ?_
    refine tb (x := (vi a0.Kind)) (rfl) ?_
    refine tb (x := (vb (decide (a0.Kind = 1)))) (d_eql) ?_
    refine tjb (mk := fun s16 : (List Int) => [(V.sl (List.map cI s16))]) (fun J15 => ?_) fun s16 => ?_
    · refine tcond (fun h53 => ?_) (fun h53 => ?_)
      · refine tb (x := (vb a0.Op.Add)) (rfl) ?_
        refine tjb (mk := fun s57 : ((List Int) × Int) => [(V.sl (List.map cI s57.1)), (vi s57.2)]) (fun J56 => ?_) fun s57 => ?_
        · refine tcond (fun h71 => ?_) (fun h71 => ?_)
          · refine tkeepO2 ?_ rfl
            refine tsome ?_
            exact rf_j rfl
          · refine tkeepO2 ?_ rfl
            refine tsome ?_
            exact rf_j rfl
        · refine tb (x := (T_Rule.e a0.Op.Rule)) (rfl) ?_
          refine tb (x := V.agg (T_Rule.c a0.Op.Rule)) (by kernel_rfl) ?_
          refine tb (x := (vi a0.Op.Rule.Prio)) (rfl) ?_
          refine tb (x := (vi a0.Op.Rule.Cube.Mask)) (rfl) ?_
          refine tb (x := (vi a0.Op.Rule.Cube.Bits)) (rfl) ?_
          refine tb (x := (vi a0.Op.Rule.Out)) (rfl) ?_
          refine tb (x := (vi a0.Op.Rule.Set)) (rfl) ?_
          refine tb (x := (vi a0.Op.Rule.Value)) (rfl) ?_
          refine tb (x := (V.sl (List.map cI ([s57.2, a0.Op.Rule.Prio, a0.Op.Rule.Cube.Mask, a0.Op.Rule.Cube.Bits, a0.Op.Rule.Out, a0.Op.Rule.Set, a0.Op.Rule.Value] : (List Int))))) (by kernel_rfl) ?_
          refine tbo (p_app (c := cI) (fun _ => rfl) s57.1 ([s57.2, a0.Op.Rule.Prio, a0.Op.Rule.Cube.Mask, a0.Op.Rule.Cube.Bits, a0.Op.Rule.Out, a0.Op.Rule.Set, a0.Op.Rule.Value] : (List Int))) fun r70 => ?_
          exact rf_j rfl
      · exact rf_j rfl
    · refine tb (x := (vi (List.length s16 : Int))) (p_len _) ?_
      refine tjb (mk := fun s22 : (List Int) => [(V.sl (List.map cY s22))]) (fun J21 => ?_) fun s22 => ?_
      · refine rf_loopI (mk := fun (i37 : Int) (s33 : (List Int)) => [(V.sl (List.map cY s33)), (V.sl (List.map cI s16)), (vi (i37 : Int))]) hn s16 ([]) (fun i37 x38 h39 h40 h41 s33 rec31 k34 h35 => ?_) (fun s33 rec51 h50 => ?_)
        · refine tb (x := (vb (decide ((i37 : Int) < (List.length s16 : Int))))) (d_lss) ?_
          refine tcond_t h41 ?_
          refine tb (x := (V.ptr [(vi x38)])) (p_idx_at (c := cI) (fun _ => rfl) h39) ?_
          refine tb (x := (vi x38)) (rfl) ?_
          refine tb (x := (V.lit (.int .u8 (IntKind.u8.wrap x38)))) (scal1_lit (r := .int .u8 (IntKind.u8.wrap x38)) rfl (fun w => by kernel_rfl) rfl) ?_
          refine tb (x := (V.sl (List.map cY ([(IntKind.u8.wrap x38)] : (List Int))))) (by kernel_rfl) ?_
          refine tbo (p_app (c := cY) (fun _ => rfl) s33 ([(IntKind.u8.wrap x38)] : (List Int))) fun r48 => ?_
          refine tb (x := (vi ((i37 : Int) + 1))) (p_incN h40) ?_
          exact h35 (r48)
        · refine tb (x := (vb (decide ((List.length s16 : Int) < (List.length s16 : Int))))) (d_lss) ?_
          refine tcond_f h50 ?_
          exact rf_j rfl
      · refine tbo (ty_wire_sum hn s22) fun r26 => ?_
        refine tb (x := (V.sl (List.map cY ([r26] : (List Int))))) (by kernel_rfl) ?_
        refine tbo (p_app (c := cY) (fun _ => rfl) s22 ([r26] : (List Int))) fun r29 => ?_
        refine tb (x := (vt (strOfNums r29))) (p_b2s) ?_
        exact rf_ret rfl

/-! railpoint/railref1.Header -/
def an_railref1_Header : Ann := .seq (.reg 0 [] [] []) (.seq (.reg 0 [] [] []) (.no))
noncomputable def sem_railref1_Header (n : Nat) (xs : List V) : Option V := if xs.length ≤ 9 then denF Try.prog (envOf []) n Try.f74 an_railref1_Header xs else none
theorem ok_railref1_Header (n : Nat) : SemOk Try.prog DW 74 (sem_railref1_Header n) := fun xs y h => by
  unfold sem_railref1_Header at h
  split at h
  · rename_i hl
    exact denF_ok stb Try.func74 (by kernel_rfl) (envOf_ok semsOk_nil) (by rw [Try.ntmps74]; exact hl) h
  · cases h
theorem eq_railref1_Header (n : Nat) (x0 : V) : sem_railref1_Header n [x0] =
 (bin2 Try.prog BinOp.geq 3 (ot 3) (oc 0) x0 (vi 0)).bind fun v1 =>
 (guardV v1 true (some x0)).bind fun v2 =>
 (guardV v1 true ((bin2 Try.prog BinOp.lss 3 (ot 6) (oc 16) v2 (vi 16)).bind fun v3 =>
 some v3)).bind fun v4 =>
 (pickV v1 v4 (vb false)).bind fun v5 =>
 some v5 := by kernel_rfl
noncomputable def t_railref1_Header (a0 : Int) : Option Bool :=
 some ((decide (0 ≤ a0)) && (decide (a0 < 16)))
theorem ty_railref1_Header {n : Nat} (hn : bigN ≤ n) (a0 : Int) : Rv (fun x : Bool => (vb x)) (sem_railref1_Header n [(vi a0)]) (t_railref1_Header a0) := by
  rw [eq_railref1_Header]
  unfold t_railref1_Header
  refine tb (x := (vb (decide (0 ≤ a0)))) (d_geq) ?_
  refine tg (x := (vi a0)) (fun h2 => rfl) ?_
  refine tg (x := (vb (decide (a0 < 16)))) (fun h4 => by simp only [gv_t h4]; exact bind_some_eq (d_lss)) ?_
  refine tb (x := (vb ((decide (0 ≤ a0)) && (decide (a0 < 16))))) (pick_and (fun h9 => gv_t h9)) ?_
  exact rf_ret rfl

/-! railpoint/railref1.Cube -/
def an_railref1_Cube : Ann := .seq (.reg 0 [] [] []) (.seq (.reg 0 [] [] []) (.seq (.reg 0 [] [] []) (.seq (.seq (.reg 0 [] [] []) (.cond none (.seq (.reg 0 [] [] []) (.no)) (.no))) (.seq (.seq (.reg 0 [] [] []) (.cond none (.seq (.reg 0 [] [] []) (.no)) (.no))) (.seq (.reg 0 [] [] []) (.no))))))
noncomputable def sem_railref1_Cube (n : Nat) (xs : List V) : Option V := if xs.length ≤ 25 then denF Try.prog (envOf [(74, (sem_railref1_Header n))]) n Try.f75 an_railref1_Cube xs else none
theorem ok_railref1_Cube (n : Nat) : SemOk Try.prog DW 75 (sem_railref1_Cube n) := fun xs y h => by
  unfold sem_railref1_Cube at h
  split at h
  · rename_i hl
    exact denF_ok stb Try.func75 (by kernel_rfl) (envOf_ok (semsOk_cons (ok_railref1_Header n) semsOk_nil)) (by rw [Try.ntmps75]; exact hl) h
  · cases h
theorem eq_railref1_Cube (n : Nat) (x0 : V) : sem_railref1_Cube n [x0] =
 (V.cellsO x0).bind fun v1 =>
 (ldk none (List.drop 0 v1)).bind fun v2 =>
 ((sem_railref1_Header n) [v2]).bind fun v3 =>
 (ldk none (List.drop 1 v1)).bind fun v4 =>
 ((sem_railref1_Header n) [v4]).bind fun v5 =>
 (scal1 Try.prog (Op.unary Go.UnOp.not) v3).bind fun v6 =>
 (guardV v6 false (some v5)).bind fun v7 =>
 (guardV v6 false ((scal1 Try.prog (Op.unary Go.UnOp.not) v7).bind fun v8 =>
 some v8)).bind fun v9 =>
 (pickV v6 (vb true) v9).bind fun v10 =>
 condV v10 (
 some (vi 1)) (
 (ldk none (List.drop 1 v1)).bind fun v11 =>
 (ldk none (List.drop 0 v1)).bind fun v12 =>
 (bin2 Try.prog BinOp.and 3 (ot 18) (ot 20) v11 v12).bind fun v13 =>
 (ldk none (List.drop 1 v1)).bind fun v14 =>
 (bin2 Try.prog BinOp.neq 3 (ot 21) (ot 23) v13 v14).bind fun v15 =>
 condV v15 (
 some (vi 3)) (
 some (vi 0))) := by kernel_rfl
noncomputable def t_railref1_Cube (a0 : T_Cube) : Option Int :=
 (t_railref1_Header a0.Mask).bind fun r4 =>
 (t_railref1_Header a0.Bits).bind fun r7 =>
 if ((!r4) || (!r7)) = true then (
 some 1) else (
 if (decide ((bits .and .i64 a0.Bits a0.Mask) ≠ a0.Bits)) = true then (
 some 3) else (
 some 0))
theorem ty_railref1_Cube {n : Nat} (hn : bigN ≤ n) (a0 : T_Cube) : Rv (fun x : Int => (vi x)) (sem_railref1_Cube n [(T_Cube.e a0)]) (t_railref1_Cube a0) := by
  rw [eq_railref1_Cube]
  unfold t_railref1_Cube
  refine tb (x := (T_Cube.c a0)) rfl ?_
  refine tb (x := (vi a0.Mask)) (rfl) ?_
  refine tbo (ty_railref1_Header hn a0.Mask) fun r4 => ?_
  refine tb (x := (vi a0.Bits)) (rfl) ?_
  refine tbo (ty_railref1_Header hn a0.Bits) fun r7 => ?_
  refine tb (x := (vb (!r4))) (d_not) ?_
  refine tg_f (x := (vb r7)) (fun h9 => rfl) ?_
  refine tg_f (x := (vb (!r7))) (fun h11 => by simp only [gv_t h11]; exact bind_some_eq (d_not)) ?_
  refine tb (x := (vb ((!r4) || (!r7)))) (pick_or (fun h9 => gv_t (not_f h9))) ?_
  refine tcond (fun h15 => ?_) (fun h15 => ?_)
  · exact rf_ret rfl
  · refine tb (x := (vi a0.Bits)) (rfl) ?_
    refine tb (x := (vi a0.Mask)) (rfl) ?_
    refine tb (x := (vi (bits .and .i64 a0.Bits a0.Mask))) (d_and) ?_
    refine tb (x := (vi a0.Bits)) (rfl) ?_
    refine tb (x := (vb (decide ((bits .and .i64 a0.Bits a0.Mask) ≠ a0.Bits)))) (d_neq) ?_
    refine tcond (fun h21 => ?_) (fun h21 => ?_)
    · exact rf_ret rfl
    · exact rf_ret rfl

/-! railpoint/railref1.Rule -/
def an_railref1_Rule : Ann := .seq (.reg 0 [] [] []) (.seq (.reg 0 [] [] []) (.seq (.reg 0 [] [] []) (.seq (.seq (.reg 0 [] [] []) (.cond none (.seq (.reg 0 [] [] []) (.no)) (.no))) (.seq (.reg 0 [] [] []) (.seq (.seq (.reg 0 [] [] []) (.cond none (.seq (.reg 0 [] [] []) (.no)) (.no))) (.seq (.seq (.reg 0 [] [] []) (.cond none (.seq (.reg 0 [] [] []) (.no)) (.no))) (.seq (.reg 0 [] [] []) (.no))))))))
noncomputable def sem_railref1_Rule (n : Nat) (xs : List V) : Option V := if xs.length ≤ 61 then denF Try.prog (envOf [(74, (sem_railref1_Header n)), (75, (sem_railref1_Cube n))]) n Try.f49 an_railref1_Rule xs else none
theorem ok_railref1_Rule (n : Nat) : SemOk Try.prog DW 49 (sem_railref1_Rule n) := fun xs y h => by
  unfold sem_railref1_Rule at h
  split at h
  · rename_i hl
    exact denF_ok stb Try.func49 (by kernel_rfl) (envOf_ok (semsOk_cons (ok_railref1_Header n) (semsOk_cons (ok_railref1_Cube n) semsOk_nil))) (by rw [Try.ntmps49]; exact hl) h
  · cases h
theorem eq_railref1_Rule (n : Nat) (x0 : V) : sem_railref1_Rule n [x0] =
 (V.cellsO x0).bind fun v1 =>
 (ldk none (List.drop 4 v1)).bind fun v2 =>
 ((sem_railref1_Header n) [v2]).bind fun v3 =>
 (ldk none (List.drop 5 v1)).bind fun v4 =>
 ((sem_railref1_Header n) [v4]).bind fun v5 =>
 (ldk none (List.drop 0 v1)).bind fun v6 =>
 (bin2 Try.prog BinOp.lss 3 (ot 13) (oc 0) v6 (vi 0)).bind fun v7 =>
 (guardV v7 false (some V.any)).bind fun v8 =>
 (guardV v7 false ((gate v7 false (ldk none (List.drop 0 v1))).bind fun v9 =>
 some v9)).bind fun v10 =>
 (guardV v7 false ((bin2 Try.prog BinOp.gtr 3 (ot 17) (oc 99) v10 (vi 99)).bind fun v11 =>
 some v11)).bind fun v12 =>
 (pickV v7 (vb true) v12).bind fun v13 =>
 (guardV v13 false (some V.any)).bind fun v14 =>
 (guardV v13 false ((gate v13 false (ldk none (List.drop 3 v1))).bind fun v15 =>
 some v15)).bind fun v16 =>
 (guardV v13 false ((bin2 Try.prog BinOp.lss 3 (ot 22) (oc 0) v16 (vi 0)).bind fun v17 =>
 some v17)).bind fun v18 =>
 (pickV v13 (vb true) v18).bind fun v19 =>
 (guardV v19 false (some V.any)).bind fun v20 =>
 (guardV v19 false ((gate v19 false (ldk none (List.drop 3 v1))).bind fun v21 =>
 some v21)).bind fun v22 =>
 (guardV v19 false ((bin2 Try.prog BinOp.gtr 3 (ot 27) (oc 4) v22 (vi 4)).bind fun v23 =>
 some v23)).bind fun v24 =>
 (pickV v19 (vb true) v24).bind fun v25 =>
 (guardV v25 false (some v3)).bind fun v26 =>
 (guardV v25 false ((scal1 Try.prog (Op.unary Go.UnOp.not) v26).bind fun v27 =>
 some v27)).bind fun v28 =>
 (pickV v25 (vb true) v28).bind fun v29 =>
 (guardV v29 false (some v5)).bind fun v30 =>
 (guardV v29 false ((scal1 Try.prog (Op.unary Go.UnOp.not) v30).bind fun v31 =>
 some v31)).bind fun v32 =>
 (pickV v29 (vb true) v32).bind fun v33 =>
 condV v33 (
 some (vi 1)) (
 (ldk (some 2) (List.drop 1 v1)).bind fun v34 =>
 ((sem_railref1_Cube n) [v34]).bind fun v35 =>
 (bin2 Try.prog BinOp.neq 3 (ot 41) (oc 0) v35 (vi 0)).bind fun v36 =>
 condV v36 (
 some v35) (
 (ldk none (List.drop 4 v1)).bind fun v37 =>
 (ldk none (List.drop 5 v1)).bind fun v38 =>
 ((fillL [(vi 0), (vi 0)] [(0, 1, v37), (1, 1, v38)]).map V.agg).bind fun v39 =>
 ((sem_railref1_Cube n) [v39]).bind fun v40 =>
 (bin2 Try.prog BinOp.neq 3 (ot 49) (oc 0) v40 (vi 0)).bind fun v41 =>
 (guardV v41 false (some V.any)).bind fun v42 =>
 (guardV v41 false ((gate v41 false (ldk none (List.drop 3 v1))).bind fun v43 =>
 some v43)).bind fun v44 =>
 (guardV v41 false ((bin2 Try.prog BinOp.eql 3 (ot 53) (oc 0) v44 (vi 0)).bind fun v45 =>
 some v45)).bind fun v46 =>
 (guardV v41 false (some v46)).bind fun v47 =>
 (guardV v47 true (some V.any)).bind fun v48 =>
 (guardV v47 true ((gate v47 true (ldk none (List.drop 4 v1))).bind fun v49 =>
 some v49)).bind fun v50 =>
 (guardV v47 true ((bin2 Try.prog BinOp.neq 3 (ot 57) (oc 0) v50 (vi 0)).bind fun v51 =>
 some v51)).bind fun v52 =>
 (guardV v41 false ((pickV v47 v52 (vb false)).bind fun v53 =>
 some v53)).bind fun v54 =>
 (pickV v41 (vb true) v54).bind fun v55 =>
 condV v55 (
 some (vi 3)) (
 some (vi 0)))) := by kernel_rfl
noncomputable def t_railref1_Rule (a0 : T_Rule) : Option Int :=
 (t_railref1_Header a0.Set).bind fun r4 =>
 (t_railref1_Header a0.Value).bind fun r7 =>
 if ((((((decide (a0.Prio < 0)) || (decide (99 < a0.Prio))) || (decide (a0.Out < 0))) || (decide (4 < a0.Out))) || (!r4)) || (!r7)) = true then (
 some 1) else (
 (t_railref1_Cube a0.Cube).bind fun r52 =>
 if (decide (r52 ≠ 0)) = true then (
 some r52) else (
 (t_railref1_Cube (T_Cube.mk a0.Set a0.Value)).bind fun r59 =>
 if ((decide (r59 ≠ 0)) || ((decide (a0.Out = 0)) && (decide (a0.Set ≠ 0)))) = true then (
 some 3) else (
 some 0)))
theorem ty_railref1_Rule {n : Nat} (hn : bigN ≤ n) (a0 : T_Rule) : Rv (fun x : Int => (vi x)) (sem_railref1_Rule n [(T_Rule.e a0)]) (t_railref1_Rule a0) := by
  rw [eq_railref1_Rule]
  unfold t_railref1_Rule
  refine tb (x := (T_Rule.c a0)) rfl ?_
  refine tb (x := (vi a0.Set)) (rfl) ?_
  refine tbo (ty_railref1_Header hn a0.Set) fun r4 => ?_
  refine tb (x := (vi a0.Value)) (rfl) ?_
  refine tbo (ty_railref1_Header hn a0.Value) fun r7 => ?_
  refine tb (x := (vi a0.Prio)) (rfl) ?_
  refine tb (x := (vb (decide (a0.Prio < 0)))) (d_lss) ?_
  refine tg_f (x := V.any) (fun h10 => rfl) ?_
  refine tg_f (x := (vi a0.Prio)) (fun h12 => bind_some_eq (gate_pos (not_t h12) (rfl))) ?_
  refine tg_f (x := (vb (decide (99 < a0.Prio)))) (fun h15 => by simp only [gv_t h15]; exact bind_some_eq (d_gtr)) ?_
  refine tb (x := (vb ((decide (a0.Prio < 0)) || (decide (99 < a0.Prio))))) (pick_or (fun h9 => gv_t (not_f h9))) ?_
  refine tg_f (x := V.any) (fun h19 => rfl) ?_
  refine tg_f (x := (vi a0.Out)) (fun h21 => bind_some_eq (gate_pos (not_t h21) (rfl))) ?_
  refine tg_f (x := (vb (decide (a0.Out < 0)))) (fun h24 => by simp only [gv_t h24]; exact bind_some_eq (d_lss)) ?_
  refine tb (x := (vb (((decide (a0.Prio < 0)) || (decide (99 < a0.Prio))) || (decide (a0.Out < 0))))) (pick_or (fun h9 => gv_t (not_f h9))) ?_
  refine tg_f (x := V.any) (fun h28 => rfl) ?_
  refine tg_f (x := (vi a0.Out)) (fun h30 => bind_some_eq (gate_pos (not_t h30) (rfl))) ?_
  refine tg_f (x := (vb (decide (4 < a0.Out)))) (fun h33 => by simp only [gv_t h33]; exact bind_some_eq (d_gtr)) ?_
  refine tb (x := (vb ((((decide (a0.Prio < 0)) || (decide (99 < a0.Prio))) || (decide (a0.Out < 0))) || (decide (4 < a0.Out))))) (pick_or (fun h9 => gv_t (not_f h9))) ?_
  refine tg_f (x := (vb r4)) (fun h37 => rfl) ?_
  refine tg_f (x := (vb (!r4))) (fun h39 => by simp only [gv_t h39]; exact bind_some_eq (d_not)) ?_
  refine tb (x := (vb (((((decide (a0.Prio < 0)) || (decide (99 < a0.Prio))) || (decide (a0.Out < 0))) || (decide (4 < a0.Out))) || (!r4)))) (pick_or (fun h9 => gv_t (not_f h9))) ?_
  refine tg_f (x := (vb r7)) (fun h43 => rfl) ?_
  refine tg_f (x := (vb (!r7))) (fun h45 => by simp only [gv_t h45]; exact bind_some_eq (d_not)) ?_
  refine tb (x := (vb ((((((decide (a0.Prio < 0)) || (decide (99 < a0.Prio))) || (decide (a0.Out < 0))) || (decide (4 < a0.Out))) || (!r4)) || (!r7)))) (pick_or (fun h9 => gv_t (not_f h9))) ?_
  refine tcond (fun h49 => ?_) (fun h49 => ?_)
  · exact rf_ret rfl
  · refine tb (x := (T_Cube.e a0.Cube)) (rfl) ?_
    refine tbo (ty_railref1_Cube hn a0.Cube) fun r52 => ?_
    refine tb (x := (vb (decide (r52 ≠ 0)))) (d_neq) ?_
    refine tcond (fun h54 => ?_) (fun h54 => ?_)
    · exact rf_ret rfl
    · refine tb (x := (vi a0.Set)) (rfl) ?_
      refine tb (x := (vi a0.Value)) (rfl) ?_
      refine tb (x := (T_Cube.e (T_Cube.mk a0.Set a0.Value))) (by kernel_rfl) ?_
      refine tbo (ty_railref1_Cube hn (T_Cube.mk a0.Set a0.Value)) fun r59 => ?_
      refine tb (x := (vb (decide (r59 ≠ 0)))) (d_neq) ?_
      refine tg_f (x := V.any) (fun h61 => rfl) ?_
      refine tg_f (x := (vi a0.Out)) (fun h63 => bind_some_eq (gate_pos (not_t h63) (rfl))) ?_
      refine tg_f (x := (vb (decide (a0.Out = 0)))) (fun h66 => by simp only [gv_t h66]; exact bind_some_eq (d_eql)) ?_
      refine tg_f (x := (vb (decide (a0.Out = 0)))) (fun h69 => congrArg some (gv_t h69)) ?_
      refine tg2 (x := V.any) (fun h71 => rfl) ?_
      refine tg2 (x := (vi a0.Set)) (fun h73 => bind_some_eq (gate_pos2 (and_l h73) (and_r h73) (rfl))) ?_
      refine tg2 (x := (vb (decide (a0.Set ≠ 0)))) (fun h76 => by simp only [gv_t h76]; exact bind_some_eq (d_neq)) ?_
      refine tg_f (x := (vb ((decide (a0.Out = 0)) && (decide (a0.Set ≠ 0))))) (fun h79 => by simp only [gv_t h79]; exact bind_some_eq (pick_and (fun h9 => gv_t (and_i h79 h9)))) ?_
      refine tb (x := (vb ((decide (r59 ≠ 0)) || ((decide (a0.Out = 0)) && (decide (a0.Set ≠ 0)))))) (pick_or (fun h9 => gv_t (not_f h9))) ?_
      refine tcond (fun h83 => ?_) (fun h83 => ?_)
      · exact rf_ret rfl
      · exact rf_ret rfl

/-! railpoint/railref2.Msg -/
def an_railref2_Msg : Ann := .seq (.reg 0 [] [] []) (.seq (.seq (.reg 0 [] [] []) (.cond none (.seq (.reg 0 [] [] []) (.no)) (.no))) (.seq (.seq (.reg 0 [] [] []) (.cond none (.seq (.seq (.reg 0 [] [] []) (.cond none (.seq (.reg 0 [] [] []) (.no)) (.no))) (.seq (.reg 0 [] [] []) (.no))) (.no))) (.seq (.reg 0 [] [] []) (.seq (.seq (.reg 0 [] [] []) (.cond none (.seq (.reg 0 [] [] []) (.no)) (.no))) (.seq (.seq (.reg 0 [] [] []) (.cond none (.seq (.reg 0 [] [] []) (.no)) (.no))) (.seq (.reg 0 [] [] []) (.no)))))))
noncomputable def sem_railref2_Msg (n : Nat) (xs : List V) : Option V := if xs.length ≤ 72 then denF Try.prog (envOf [(49, (sem_railref1_Rule n))]) n Try.f23 an_railref2_Msg xs else none
theorem ok_railref2_Msg (n : Nat) : SemOk Try.prog DW 23 (sem_railref2_Msg n) := fun xs y h => by
  unfold sem_railref2_Msg at h
  split at h
  · rename_i hl
    exact denF_ok stb Try.func23 (by kernel_rfl) (envOf_ok (semsOk_cons (ok_railref1_Rule n) semsOk_nil)) (by rw [Try.ntmps23]; exact hl) h
  · cases h
theorem eq_railref2_Msg (n : Nat) (x0 : V) : sem_railref2_Msg n [x0] =
 (V.cellsO x0).bind fun v1 =>
 (ldk none (List.drop 0 v1)).bind fun v2 =>
 (bin2 Try.prog BinOp.lss 3 (ot 5) (oc 1) v2 (vi 1)).bind fun v3 =>
 (guardV v3 false (some V.any)).bind fun v4 =>
 (guardV v3 false ((gate v3 false (ldk none (List.drop 0 v1))).bind fun v5 =>
 some v5)).bind fun v6 =>
 (guardV v3 false ((bin2 Try.prog BinOp.gtr 3 (ot 9) (oc 3) v6 (vi 3)).bind fun v7 =>
 some v7)).bind fun v8 =>
 (pickV v3 (vb true) v8).bind fun v9 =>
 (guardV v9 false (some V.any)).bind fun v10 =>
 (guardV v9 false ((gate v9 false (ldk none (List.drop 1 v1))).bind fun v11 =>
 some v11)).bind fun v12 =>
 (guardV v9 false ((bin2 Try.prog BinOp.lss 3 (ot 14) (oc 1) v12 (vi 1)).bind fun v13 =>
 some v13)).bind fun v14 =>
 (pickV v9 (vb true) v14).bind fun v15 =>
 (guardV v15 false (some V.any)).bind fun v16 =>
 (guardV v15 false ((gate v15 false (ldk none (List.drop 1 v1))).bind fun v17 =>
 some v17)).bind fun v18 =>
 (guardV v15 false ((bin2 Try.prog BinOp.gtr 3 (ot 19) (oc 6) v18 (vi 6)).bind fun v19 =>
 some v19)).bind fun v20 =>
 (pickV v15 (vb true) v20).bind fun v21 =>
 (guardV v21 false (some V.any)).bind fun v22 =>
 (guardV v21 false ((gate v21 false (ldk none (List.drop 2 v1))).bind fun v23 =>
 some v23)).bind fun v24 =>
 (guardV v21 false ((bin2 Try.prog BinOp.lss 3 (ot 24) (oc 0) v24 (vi 0)).bind fun v25 =>
 some v25)).bind fun v26 =>
 (pickV v21 (vb true) v26).bind fun v27 =>
 (guardV v27 false (some V.any)).bind fun v28 =>
 (guardV v27 false ((gate v27 false (ldk none (List.drop 2 v1))).bind fun v29 =>
 some v29)).bind fun v30 =>
 (guardV v27 false ((bin2 Try.prog BinOp.gtr 3 (ot 29) (oc 19) v30 (vi 19)).bind fun v31 =>
 some v31)).bind fun v32 =>
 (pickV v27 (vb true) v32).bind fun v33 =>
 (guardV v33 false (some V.any)).bind fun v34 =>
 (guardV v33 false ((gate v33 false (ldk none (List.drop 3 v1))).bind fun v35 =>
 some v35)).bind fun v36 =>
 (guardV v33 false ((bin2 Try.prog BinOp.lss 3 (ot 34) (oc 0) v36 (vi 0)).bind fun v37 =>
 some v37)).bind fun v38 =>
 (pickV v33 (vb true) v38).bind fun v39 =>
 (guardV v39 false (some V.any)).bind fun v40 =>
 (guardV v39 false ((gate v39 false (ldk none (List.drop 3 v1))).bind fun v41 =>
 some v41)).bind fun v42 =>
 (guardV v39 false ((bin2 Try.prog BinOp.gtr 3 (ot 39) (oc 200) v42 (vi 200)).bind fun v43 =>
 some v43)).bind fun v44 =>
 (pickV v39 (vb true) v44).bind fun v45 =>
 condV v45 (
 some (vi 1)) (
 (ldk none (List.drop 0 v1)).bind fun v46 =>
 (bin2 Try.prog BinOp.neq 3 (ot 43) (oc 1) v46 (vi 1)).bind fun v47 =>
 condV v47 (
 (ldk (some 8) (List.drop 4 v1)).bind fun v48 =>
 ((fillL [(vi 0), (vb false), (vi 0), (vi 0), (vi 0), (vi 0), (vi 0), (vi 0)] []).map V.agg).bind fun v49 =>
 (bin2 Try.prog BinOp.neq 49 (ot 46) (ot 47) v48 v49).bind fun v50 =>
 (guardV v50 false (some V.any)).bind fun v51 =>
 (guardV v50 false ((gate v50 false (ldk none (List.drop 0 v1))).bind fun v52 =>
 some v52)).bind fun v53 =>
 (guardV v50 false ((bin2 Try.prog BinOp.eql 3 (ot 51) (oc 3) v53 (vi 3)).bind fun v54 =>
 some v54)).bind fun v55 =>
 (guardV v50 false (some v55)).bind fun v56 =>
 (guardV v56 true (some V.any)).bind fun v57 =>
 (guardV v56 true ((gate v56 true (ldk none (List.drop 3 v1))).bind fun v58 =>
 some v58)).bind fun v59 =>
 (guardV v56 true ((bin2 Try.prog BinOp.neq 3 (ot 55) (oc 0) v59 (vi 0)).bind fun v60 =>
 some v60)).bind fun v61 =>
 (guardV v50 false ((pickV v56 v61 (vb false)).bind fun v62 =>
 some v62)).bind fun v63 =>
 (pickV v50 (vb true) v63).bind fun v64 =>
 condV v64 (
 some (vi 3)) (
 some (vi 0))) (
 (ldk (some 6) (List.drop 6 v1)).bind fun v65 =>
 ((sem_railref1_Rule n) [v65]).bind fun v66 =>
 (bin2 Try.prog BinOp.neq 3 (ot 63) (oc 0) v66 (vi 0)).bind fun v67 =>
 condV v67 (
 some v66) (
 (ldk none (List.drop 4 v1)).bind fun v68 =>
 (ldk none (List.drop 1 v1)).bind fun v69 =>
 (bin2 Try.prog BinOp.neq 3 (ot 68) (ot 70) v68 v69).bind fun v70 =>
 condV v70 (
 some (vi 3)) (
 some (vi 0))))) := by kernel_rfl
noncomputable def t_railref2_Msg (a0 : T_Msg) : Option Int :=
 (some ((((((decide (a0.Kind < 1)) || (decide (3 < a0.Kind))) || (decide (a0.Switch < 1))) || (decide (6 < a0.Switch))) || (decide (a0.Round < 0))) || (decide (19 < a0.Round)))).bind fun r49 =>
 if ((r49 || (decide (a0.Index < 0))) || (decide (200 < a0.Index))) = true then (
 some 1) else (
 if (decide (a0.Kind ≠ 1)) = true then (
 if ((!decide (a0.Op = (T_Op.mk 0 false (T_Rule.mk 0 (T_Cube.mk 0 0) 0 0 0)))) || ((decide (a0.Kind = 3)) && (decide (a0.Index ≠ 0)))) = true then (
 some 3) else (
 some 0)) else (
 (t_railref1_Rule a0.Op.Rule).bind fun r100 =>
 if (decide (r100 ≠ 0)) = true then (
 some r100) else (
 if (decide (a0.Op.Switch ≠ a0.Switch)) = true then (
 some 3) else (
 some 0))))
theorem ty_railref2_Msg {n : Nat} (hn : bigN ≤ n) (a0 : T_Msg) : Rv (fun x : Int => (vi x)) (sem_railref2_Msg n [(T_Msg.e a0)]) (t_railref2_Msg a0) := by
  rw [eq_railref2_Msg]
  unfold t_railref2_Msg
  refine tb (x := (T_Msg.c a0)) rfl ?_
  refine tb (x := (vi a0.Kind)) (rfl) ?_
  refine tb (x := (vb (decide (a0.Kind < 1)))) (d_lss) ?_
  refine tg_f (x := V.any) (fun h4 => rfl) ?_
  refine tg_f (x := (vi a0.Kind)) (fun h6 => bind_some_eq (gate_pos (not_t h6) (rfl))) ?_
  refine tg_f (x := (vb (decide (3 < a0.Kind)))) (fun h9 => by simp only [gv_t h9]; exact bind_some_eq (d_gtr)) ?_
  refine tb (x := (vb ((decide (a0.Kind < 1)) || (decide (3 < a0.Kind))))) (pick_or (fun h9 => gv_t (not_f h9))) ?_
  refine tg_f (x := V.any) (fun h13 => rfl) ?_
  refine tg_f (x := (vi a0.Switch)) (fun h15 => bind_some_eq (gate_pos (not_t h15) (rfl))) ?_
  refine tg_f (x := (vb (decide (a0.Switch < 1)))) (fun h18 => by simp only [gv_t h18]; exact bind_some_eq (d_lss)) ?_
  refine tb (x := (vb (((decide (a0.Kind < 1)) || (decide (3 < a0.Kind))) || (decide (a0.Switch < 1))))) (pick_or (fun h9 => gv_t (not_f h9))) ?_
  refine tg_f (x := V.any) (fun h22 => rfl) ?_
  refine tg_f (x := (vi a0.Switch)) (fun h24 => bind_some_eq (gate_pos (not_t h24) (rfl))) ?_
  refine tg_f (x := (vb (decide (6 < a0.Switch)))) (fun h27 => by simp only [gv_t h27]; exact bind_some_eq (d_gtr)) ?_
  refine tb (x := (vb ((((decide (a0.Kind < 1)) || (decide (3 < a0.Kind))) || (decide (a0.Switch < 1))) || (decide (6 < a0.Switch))))) (pick_or (fun h9 => gv_t (not_f h9))) ?_
  refine tg_f (x := V.any) (fun h31 => rfl) ?_
  refine tg_f (x := (vi a0.Round)) (fun h33 => bind_some_eq (gate_pos (not_t h33) (rfl))) ?_
  refine tg_f (x := (vb (decide (a0.Round < 0)))) (fun h36 => by simp only [gv_t h36]; exact bind_some_eq (d_lss)) ?_
  refine tb (x := (vb (((((decide (a0.Kind < 1)) || (decide (3 < a0.Kind))) || (decide (a0.Switch < 1))) || (decide (6 < a0.Switch))) || (decide (a0.Round < 0))))) (pick_or (fun h9 => gv_t (not_f h9))) ?_
  refine tg_f (x := V.any) (fun h40 => rfl) ?_
  refine tg_f (x := (vi a0.Round)) (fun h42 => bind_some_eq (gate_pos (not_t h42) (rfl))) ?_
  refine tg_f (x := (vb (decide (19 < a0.Round)))) (fun h45 => by simp only [gv_t h45]; exact bind_some_eq (d_gtr)) ?_
  refine tbo (e1 := fun x : Bool => (vb x)) (rf_eq (pick_or (fun h9 => gv_t (not_f h9))) rfl) fun r49 => ?_
  refine tg_f (x := V.any) (fun h50 => rfl) ?_
  refine tg_f (x := (vi a0.Index)) (fun h52 => bind_some_eq (gate_pos (not_t h52) (rfl))) ?_
  refine tg_f (x := (vb (decide (a0.Index < 0)))) (fun h55 => by simp only [gv_t h55]; exact bind_some_eq (d_lss)) ?_
  refine tb (x := (vb (r49 || (decide (a0.Index < 0))))) (pick_or (fun h9 => gv_t (not_f h9))) ?_
  refine tg_f (x := V.any) (fun h59 => rfl) ?_
  refine tg_f (x := (vi a0.Index)) (fun h61 => bind_some_eq (gate_pos (not_t h61) (rfl))) ?_
  refine tg_f (x := (vb (decide (200 < a0.Index)))) (fun h64 => by simp only [gv_t h64]; exact bind_some_eq (d_gtr)) ?_
  refine tb (x := (vb ((r49 || (decide (a0.Index < 0))) || (decide (200 < a0.Index))))) (pick_or (fun h9 => gv_t (not_f h9))) ?_
  refine tcond (fun h68 => ?_) (fun h68 => ?_)
  · exact rf_ret rfl
  · refine tb (x := (vi a0.Kind)) (rfl) ?_
    refine tb (x := (vb (decide (a0.Kind ≠ 1)))) (d_neq) ?_
    refine tcond (fun h71 => ?_) (fun h71 => ?_)
    · refine tb (x := (T_Op.e a0.Op)) (rfl) ?_
      refine tb (x := (T_Op.e (T_Op.mk 0 false (T_Rule.mk 0 (T_Cube.mk 0 0) 0 0 0)))) (by kernel_rfl) ?_
      refine tb (x := (vb (!decide (a0.Op = (T_Op.mk 0 false (T_Rule.mk 0 (T_Cube.mk 0 0) 0 0 0)))))) (T_Op.neq a0.Op (T_Op.mk 0 false (T_Rule.mk 0 (T_Cube.mk 0 0) 0 0 0))) ?_
      refine tg_f (x := V.any) (fun h75 => rfl) ?_
      refine tg_f (x := (vi a0.Kind)) (fun h77 => bind_some_eq (gate_pos (not_t h77) (rfl))) ?_
      refine tg_f (x := (vb (decide (a0.Kind = 3)))) (fun h80 => by simp only [gv_t h80]; exact bind_some_eq (d_eql)) ?_
      refine tg_f (x := (vb (decide (a0.Kind = 3)))) (fun h83 => congrArg some (gv_t h83)) ?_
      refine tg2 (x := V.any) (fun h85 => rfl) ?_
      refine tg2 (x := (vi a0.Index)) (fun h87 => bind_some_eq (gate_pos2 (and_l h87) (and_r h87) (rfl))) ?_
      refine tg2 (x := (vb (decide (a0.Index ≠ 0)))) (fun h90 => by simp only [gv_t h90]; exact bind_some_eq (d_neq)) ?_
      refine tg_f (x := (vb ((decide (a0.Kind = 3)) && (decide (a0.Index ≠ 0))))) (fun h93 => by simp only [gv_t h93]; exact bind_some_eq (pick_and (fun h9 => gv_t (and_i h93 h9)))) ?_
      refine tb (x := (vb ((!decide (a0.Op = (T_Op.mk 0 false (T_Rule.mk 0 (T_Cube.mk 0 0) 0 0 0)))) || ((decide (a0.Kind = 3)) && (decide (a0.Index ≠ 0)))))) (pick_or (fun h9 => gv_t (not_f h9))) ?_
      refine tcond (fun h97 => ?_) (fun h97 => ?_)
      · exact rf_ret rfl
      · exact rf_ret rfl
    · refine tb (x := (T_Rule.e a0.Op.Rule)) (rfl) ?_
      refine tbo (ty_railref1_Rule hn a0.Op.Rule) fun r100 => ?_
      refine tb (x := (vb (decide (r100 ≠ 0)))) (d_neq) ?_
      refine tcond (fun h102 => ?_) (fun h102 => ?_)
      · exact rf_ret rfl
      · refine tb (x := (vi a0.Op.Switch)) (rfl) ?_
        refine tb (x := (vi a0.Switch)) (rfl) ?_
        refine tb (x := (vb (decide (a0.Op.Switch ≠ a0.Switch)))) (d_neq) ?_
        refine tcond (fun h106 => ?_) (fun h106 => ?_)
        · exact rf_ret rfl
        · exact rf_ret rfl

/-! railpoint/wire.size -/
def an_wire_size : Ann := .seq (.reg 0 [] [] []) (.seq (.seq (.reg 0 [] [] []) (.blk none (.seq (.reg 0 [] [] []) (.cond none (.seq (.reg 0 [] [] []) (.no)) (.seq (.seq (.reg 0 [] [] []) (.cond (some [.s 7]) (.no) (.reg 0 [] [] []))) (.cond none (.seq (.reg 0 [] [] []) (.no)) (.no))))))) (.seq (.reg 0 [] [] []) (.no)))
noncomputable def sem_wire_size (n : Nat) (xs : List V) : Option V := if xs.length ≤ 10 then denF Try.prog (envOf []) n Try.f50 an_wire_size xs else none
theorem ok_wire_size (n : Nat) : SemOk Try.prog DW 50 (sem_wire_size n) := fun xs y h => by
  unfold sem_wire_size at h
  split at h
  · rename_i hl
    exact denF_ok stb Try.func50 (by kernel_rfl) (envOf_ok semsOk_nil) (by rw [Try.ntmps50]; exact hl) h
  · cases h
theorem eq_wire_size (n : Nat) (x0 : V) : sem_wire_size n [x0] =
 (scal1 Try.prog (convert 5 3) x0).bind fun v1 =>
 (bin2 Try.prog BinOp.eql 3 (ot 4) (oc 1) v1 (vi 1)).bind fun v2 =>
 condV v2 (
 some (vi 12)) (
 (bin2 Try.prog BinOp.eql 3 (ot 4) (oc 2) v1 (vi 2)).bind fun v3 =>
 JoinPt (fun vs4 =>
 condV (List.getD vs4 0 V.any) (
 some (vi 5)) (
 some (vi 0))) fun J5 =>
 condV v3 (
 J5 [v3]) (
 (bin2 Try.prog BinOp.eql 3 (ot 4) (oc 3) v1 (vi 3)).bind fun v6 =>
 J5 [v6])) := by kernel_rfl
noncomputable def t_wire_size (a0 : Int) : Option Int :=
 if (decide ((wr a0) = 1)) = true then (
 some 12) else (
 (if (decide ((wr a0) = 2)) = true then (
 some (decide ((wr a0) = 2))) else (
 some (decide ((wr a0) = 3)))).bind fun (s7 : Bool) =>
 if s7 = true then (
 some 5) else (
 some 0))
theorem ty_wire_size {n : Nat} (hn : bigN ≤ n) (a0 : Int) : Rv (fun x : Int => (vi x)) (sem_wire_size n [(V.lit (.int .u8 a0))]) (t_wire_size a0) := by
  rw [eq_wire_size]
  unfold t_wire_size
  refine tb (x := (vi (wr a0))) (scal1_lit (r := .int .i64 (IntKind.i64.wrap a0)) rfl (fun w => by kernel_rfl) rfl) ?_
  refine tb (x := (vb (decide ((wr a0) = 1)))) (d_eql) ?_
  refine tcond (fun h3 => ?_) (fun h3 => ?_)
  · exact rf_ret rfl
  · refine tb (x := (vb (decide ((wr a0) = 2)))) (d_eql) ?_
    refine tjb (mk := fun s7 : Bool => [(vb s7)]) (fun J6 => ?_) fun s7 => ?_
    · refine tcond (fun h11 => ?_) (fun h11 => ?_)
      · exact rf_j rfl
      · refine tb (x := (vb (decide ((wr a0) = 3)))) (d_eql) ?_
        exact rf_j rfl
    · refine tcond (fun h10 => ?_) (fun h10 => ?_)
      · exact rf_ret rfl
      · exact rf_ret rfl

/-! railpoint/wire.Decode$1 -/
def an_wire_Decode_1 : Ann := .seq (.reg 0 [] [] []) (.seq (.reg 0 [] [] []) (.no))
noncomputable def sem_wire_Decode_1 (n : Nat) (xs : List V) : Option V := if xs.length ≤ 8 then denF Try.prog (envOf []) n Try.f51 an_wire_Decode_1 xs else none
theorem ok_wire_Decode_1 (n : Nat) : SemOk Try.prog DW 51 (sem_wire_Decode_1 n) := fun xs y h => by
  unfold sem_wire_Decode_1 at h
  split at h
  · rename_i hl
    exact denF_ok stb Try.func51 (by kernel_rfl) (envOf_ok semsOk_nil) (by rw [Try.ntmps51]; exact hl) h
  · cases h
theorem eq_wire_Decode_1 (n : Nat) (x0 x1 : V) : sem_wire_Decode_1 n [x0, x1] =
 (ldp none x1).bind fun v1 =>
 (scal2 Try.prog (Instr.index 9) v1 x0).bind fun v2 =>
 (scal1 Try.prog (convert 5 3) v2).bind fun v3 =>
 some v3 := by kernel_rfl
noncomputable def t_wire_Decode_1 (a0 : Int) (a1 : ByteArray) : Option Int :=
 (sidx a1 a0).bind fun r3 =>
 some (wr r3)
theorem ty_wire_Decode_1 {n : Nat} (hn : bigN ≤ n) (a0 : Int) (a1 : ByteArray) : Rv (fun x : Int => (vi x)) (sem_wire_Decode_1 n [(vi a0), (V.ptr [(vt a1)])]) (t_wire_Decode_1 a0 a1) := by
  rw [eq_wire_Decode_1]
  unfold t_wire_Decode_1
  refine tb (x := (vt a1)) (rfl) ?_
  refine tbo (p_sidx (Try.underlying9) a1 a0) fun r3 => ?_
  refine tb (x := (vi (wr r3))) (scal1_lit (r := .int .i64 (IntKind.i64.wrap r3)) rfl (fun w => by kernel_rfl) rfl) ?_
  exact rf_ret rfl

/-! railpoint/wire.Decode -/
def an_wire_Decode : Ann := .seq (.reg 0 [] [] []) (.seq (.seq (.reg 10 [] [] []) (.cond none (.seq (.reg 0 [] [] []) (.no)) (.no))) (.seq (.reg 0 [1] [] []) (.seq (.reg 0 [] [] []) (.seq (.seq (.reg 0 [] [] []) (.cond (some [.kb 2, .b 5]) (.reg 21 [] [] []) (.no))) (.seq (.seq (.reg 0 [] [] []) (.seq (.reg 0 [] [] []) (.cond none (.seq (.reg 0 [] [] []) (.no)) (.no)))) (.seq (.reg 0 [] [] []) (.no)))))))
noncomputable def sem_wire_Decode (n : Nat) (xs : List V) : Option V := if xs.length ≤ 69 then denF Try.prog (envOf [(50, (sem_wire_size n)), (22, (sem_wire_Encode n)), (51, (sem_wire_Decode_1 n))]) n Try.f24 an_wire_Decode xs else none
theorem ok_wire_Decode (n : Nat) : SemOk Try.prog DW 24 (sem_wire_Decode n) := fun xs y h => by
  unfold sem_wire_Decode at h
  split at h
  · rename_i hl
    exact denF_ok stb Try.func24 (by kernel_rfl) (envOf_ok (semsOk_cons (ok_wire_size n) (semsOk_cons (ok_wire_Encode n) (semsOk_cons (ok_wire_Decode_1 n) semsOk_nil)))) (by rw [Try.ntmps24]; exact hl) h
  · cases h
theorem eq_wire_Decode (n : Nat) (x0 : V) : sem_wire_Decode n [x0] =
 (V.cellsO x0).bind fun v1 =>
 (ldk none (List.drop 0 v1)).bind fun v2 =>
 (bin2 Try.prog BinOp.eql 9 (ot 8) (Operand.const (Go.Value.string (ByteArray.mk #[]))) v2 (V.lit (Go.Value.string (ByteArray.mk #[])))).bind fun v3 =>
 (guardV v3 false ((ldk none (List.drop 0 v1)).bind fun v4 =>
 some v4)).bind fun v5 =>
 (guardV v3 false ((lenT [v5]).bind fun v6 =>
 some v6)).bind fun v7 =>
 (guardV v3 false ((ldk none (List.drop 0 v1)).bind fun v8 =>
 some v8)).bind fun v9 =>
 (guardV v3 false ((scal2 Try.prog (Instr.index 9) v9 (vi 0)).bind fun v10 =>
 some v10)).bind fun v11 =>
 (guardV v3 false (((sem_wire_size n) [v11]).bind fun v12 =>
 some v12)).bind fun v13 =>
 (guardV v3 false ((bin2 Try.prog BinOp.neq 3 (ot 12) (ot 15) v7 v13).bind fun v14 =>
 some v14)).bind fun v15 =>
 (pickV v3 (vb true) v15).bind fun v16 =>
 condV v16 (
 ((fillL [(vi 0), (vi 0), (vi 0), (vi 0), (vi 0), (vb false), (vi 0), (vi 0), (vi 0), (vi 0), (vi 0), (vi 0)] []).map V.agg).bind fun v17 =>
 (scal1 Try.prog (Instr.makeInterface 23) (vi 2)).bind fun v18 =>
 (spliceV [(vi 0), (vi 0), (vi 0), (vi 0), (vi 0), (vb false), (vi 0), (vi 0), (vi 0), (vi 0), (vi 0), (vi 0)] 0 12 v17).bind fun v19 =>
 (ldk (some 12) (List.drop 0 (aggL v19))).bind fun v20 =>
 some (V.tup [v20, v18])) (
 ((sem_wire_Decode_1 n) [(vi 0), (V.ptr v1)]).bind fun v21 =>
 ((sem_wire_Decode_1 n) [(vi 1), (V.ptr v1)]).bind fun v22 =>
 ((sem_wire_Decode_1 n) [(vi 2), (V.ptr v1)]).bind fun v23 =>
 ((sem_wire_Decode_1 n) [(vi 3), (V.ptr v1)]).bind fun v24 =>
 ((fillL [(vi 0), (vi 0), (vi 0), (vi 0), (vi 0), (vb false), (vi 0), (vi 0), (vi 0), (vi 0), (vi 0), (vi 0)] [(0, 1, v21), (1, 1, v22), (2, 1, v23), (3, 1, v24)]).map V.agg).bind fun v25 =>
 (spliceV [(vi 0), (vi 0), (vi 0), (vi 0), (vi 0), (vb false), (vi 0), (vi 0), (vi 0), (vi 0), (vi 0), (vi 0)] 0 12 v25).bind fun v26 =>
 (ldk none (List.drop 0 (aggL v26))).bind fun v27 =>
 (bin2 Try.prog BinOp.eql 3 (ot 31) (oc 1) v27 (vi 1)).bind fun v28 =>
 JoinPt (fun vs29 =>
 (ldk (some 12) (List.drop 0 (aggL (List.getD vs29 0 V.any)))).bind fun v31 =>
 ((sem_wire_Encode n) [v31]).bind fun v32 =>
 (extractV v32 0).bind fun v33 =>
 (extractV v32 1).bind fun v34 =>
 (bin2 Try.prog BinOp.neq 31 (ot 59) (Operand.const Go.Value.nilIface) v34 vn).bind fun v35 =>
 (guardV v35 false (some v33)).bind fun v36 =>
 (guardV v35 false ((ldp none (V.ptr v1)).bind fun v37 =>
 some v37)).bind fun v38 =>
 (guardV v35 false ((bin2 Try.prog BinOp.neq 9 (ot 62) (ot 63) v36 v38).bind fun v39 =>
 some v39)).bind fun v40 =>
 (pickV v35 (vb true) v40).bind fun v41 =>
 condV v41 (
 ((fillL [(vi 0), (vi 0), (vi 0), (vi 0), (vi 0), (vb false), (vi 0), (vi 0), (vi 0), (vi 0), (vi 0), (vi 0)] []).map V.agg).bind fun v42 =>
 (scal1 Try.prog (Instr.makeInterface 23) (vi 2)).bind fun v43 =>
 (spliceV [(vi 0), (vi 0), (vi 0), (vi 0), (vi 0), (vb false), (vi 0), (vi 0), (vi 0), (vi 0), (vi 0), (vi 0)] 0 12 v42).bind fun v44 =>
 (ldk (some 12) (List.drop 0 (aggL v44))).bind fun v45 =>
 some (V.tup [v45, v43])) (
 (ldk (some 12) (List.drop 0 (aggL (List.getD vs29 0 V.any)))).bind fun v46 =>
 (spliceV [(vi 0), (vi 0), (vi 0), (vi 0), (vi 0), (vb false), (vi 0), (vi 0), (vi 0), (vi 0), (vi 0), (vi 0)] 0 12 v46).bind fun v47 =>
 (ldk (some 12) (List.drop 0 (aggL v47))).bind fun v48 =>
 some (V.tup [v48, vn]))) fun J30 =>
 condV v28 (
 (ldk none (List.drop 1 (aggL v26))).bind fun v49 =>
 ((sem_wire_Decode_1 n) [(vi 4), (V.ptr v1)]).bind fun v50 =>
 (bin2 Try.prog BinOp.eql 3 (ot 36) (oc 1) v50 (vi 1)).bind fun v51 =>
 ((sem_wire_Decode_1 n) [(vi 5), (V.ptr v1)]).bind fun v52 =>
 ((sem_wire_Decode_1 n) [(vi 6), (V.ptr v1)]).bind fun v53 =>
 ((sem_wire_Decode_1 n) [(vi 7), (V.ptr v1)]).bind fun v54 =>
 ((fillL [(vi 0), (vi 0)] [(0, 1, v53), (1, 1, v54)]).map V.agg).bind fun v55 =>
 ((sem_wire_Decode_1 n) [(vi 8), (V.ptr v1)]).bind fun v56 =>
 ((sem_wire_Decode_1 n) [(vi 9), (V.ptr v1)]).bind fun v57 =>
 ((sem_wire_Decode_1 n) [(vi 10), (V.ptr v1)]).bind fun v58 =>
 ((fillL [(vi 0), (vi 0), (vi 0), (vi 0), (vi 0), (vi 0)] [(0, 1, v52), (1, 2, v55), (3, 1, v56), (4, 1, v57), (5, 1, v58)]).map V.agg).bind fun v59 =>
 ((fillL [(vi 0), (vb false), (vi 0), (vi 0), (vi 0), (vi 0), (vi 0), (vi 0)] [(0, 1, v49), (1, 1, v51), (2, 6, v59)]).map V.agg).bind fun v60 =>
 (spliceV (aggL v26) 4 8 v60).bind fun v61 =>
 (keepO (some [(vi 0), (vi 0), (vi 0), (vi 0), (vi 0), (vb false), (vi 0), (vi 0), (vi 0), (vi 0), (vi 0), (vi 0)]) (some [(vi 0), (vi 0), (vi 0), (vi 0), (vi 0), (vb false), (vi 0), (vi 0), (vi 0), (vi 0), (vi 0), (vi 0)]) (some [(V.agg (aggL v61))])).bind J30) (
 (keepO (some [(vi 0), (vi 0), (vi 0), (vi 0), (vi 0), (vb false), (vi 0), (vi 0), (vi 0), (vi 0), (vi 0), (vi 0)]) (some [(vi 0), (vi 0), (vi 0), (vi 0), (vi 0), (vb false), (vi 0), (vi 0), (vi 0), (vi 0), (vi 0), (vi 0)]) (some [(V.agg (aggL v26))])).bind J30)) := by kernel_rfl
noncomputable def t_wire_Decode (a0 : ByteArray) : Option (T_Msg × Int) :=
 (gd (!(decide (a0 = (ByteArray.mk #[])))) default (sidx a0 0)).bind fun r16 =>
 (gd (!(decide (a0 = (ByteArray.mk #[])))) default (t_wire_size r16)).bind fun r20 =>
 if ((decide (a0 = (ByteArray.mk #[]))) || (decide ((a0.size : Int) ≠ r20))) = true then (
 some ((T_Msg.mk 0 0 0 0 (T_Op.mk 0 false (T_Rule.mk 0 (T_Cube.mk 0 0) 0 0 0))), 2)) else (
 (t_wire_Decode_1 0 a0).bind fun r31 =>
 (t_wire_Decode_1 1 a0).bind fun r33 =>
 (t_wire_Decode_1 2 a0).bind fun r35 =>
 (t_wire_Decode_1 3 a0).bind fun r37 =>
 (if (decide (r31 = 1)) = true then (
 (t_wire_Decode_1 4 a0).bind fun r73 =>
 (t_wire_Decode_1 5 a0).bind fun r76 =>
 (t_wire_Decode_1 6 a0).bind fun r78 =>
 (t_wire_Decode_1 7 a0).bind fun r80 =>
 (t_wire_Decode_1 8 a0).bind fun r83 =>
 (t_wire_Decode_1 9 a0).bind fun r85 =>
 (t_wire_Decode_1 10 a0).bind fun r87 =>
 some (T_Msg.mk r31 r33 r35 r37 (T_Op.mk r33 (decide (r73 = 1)) (T_Rule.mk r76 (T_Cube.mk r78 r80) r83 r85 r87)))) else (
 some (T_Msg.mk r31 r33 r35 r37 (T_Op.mk 0 false (T_Rule.mk 0 (T_Cube.mk 0 0) 0 0 0))))).bind fun (s44 : T_Msg) =>
 (t_wire_Encode s44).bind fun r49 =>
 if ((!decide (r49.2 = 0)) || (!decide (r49.1 = a0))) = true then (
 some ((T_Msg.mk 0 0 0 0 (T_Op.mk 0 false (T_Rule.mk 0 (T_Cube.mk 0 0) 0 0 0))), 2)) else (
 some (s44, 0)))
theorem ty_wire_Decode {n : Nat} (hn : bigN ≤ n) (a0 : ByteArray) : Rv (fun x : (T_Msg × Int) => V.tup [(T_Msg.e x.1), (eV x.2)]) (sem_wire_Decode n [(vt a0)]) (t_wire_Decode a0) := by
  rw [eq_wire_Decode]
  unfold t_wire_Decode
  refine tb (x := [(vt a0)]) rfl ?_
  refine tb (x := (vt a0)) (rfl) ?_
  refine tb (x := (vb (decide (a0 = (ByteArray.mk #[]))))) (p_eql_str) ?_
  refine tg_f (x := (vt a0)) (fun h4 => bind_some_eq (rfl)) ?_
  refine tg_f (x := (vi (a0.size : Int))) (fun h7 => by simp only [gv_t h7]; exact bind_some_eq (rfl)) ?_
  refine tg_f (x := (vt a0)) (fun h10 => bind_some_eq (rfl)) ?_
  refine tgo_f (fun h13 => by simp only [gv_t h13]; exact rf_bind_some (p_sidx (Try.underlying9) a0 0)) fun r16 => ?_
  refine tgo_f (fun h17 => by simp only [gv_t h17]; exact rf_bind_some (ty_wire_size hn r16)) fun r20 => ?_
  refine tg_f (x := (vb (decide ((a0.size : Int) ≠ r20)))) (fun h21 => by simp only [gv_t h21]; exact bind_some_eq (d_neq)) ?_
  refine tb (x := (vb ((decide (a0 = (ByteArray.mk #[]))) || (decide ((a0.size : Int) ≠ r20))))) (pick_or (fun h9 => gv_t (not_f h9))) ?_
  refine tcond (fun h25 => ?_) (fun h25 => ?_)
  · refine tb (x := (T_Msg.e (T_Msg.mk 0 0 0 0 (T_Op.mk 0 false (T_Rule.mk 0 (T_Cube.mk 0 0) 0 0 0))))) (by kernel_rfl) ?_
    refine tb (x := (eV 2)) (p_mkE (by decide)) ?_
    refine tb (x := V.agg (T_Msg.c (T_Msg.mk 0 0 0 0 (T_Op.mk 0 false (T_Rule.mk 0 (T_Cube.mk 0 0) 0 0 0))))) (by kernel_rfl) ?_
    refine tb (x := (T_Msg.e (T_Msg.mk 0 0 0 0 (T_Op.mk 0 false (T_Rule.mk 0 (T_Cube.mk 0 0) 0 0 0))))) rfl ?_
    exact rf_ret rfl
  · refine tbo (ty_wire_Decode_1 hn 0 a0) fun r31 => ?_
    refine tbo (ty_wire_Decode_1 hn 1 a0) fun r33 => ?_
    refine tbo (ty_wire_Decode_1 hn 2 a0) fun r35 => ?_
    refine tbo (ty_wire_Decode_1 hn 3 a0) fun r37 => ?_
    refine tb (x := (T_Msg.e (T_Msg.mk r31 r33 r35 r37 (T_Op.mk 0 false (T_Rule.mk 0 (T_Cube.mk 0 0) 0 0 0))))) (by kernel_rfl) ?_
    refine tb (x := V.agg (T_Msg.c (T_Msg.mk r31 r33 r35 r37 (T_Op.mk 0 false (T_Rule.mk 0 (T_Cube.mk 0 0) 0 0 0))))) (by kernel_rfl) ?_
    refine tb (x := (vi r31)) (rfl) ?_
    refine tb (x := (vb (decide (r31 = 1)))) (d_eql) ?_
    refine tjb (mk := fun s44 : T_Msg => [(V.agg (T_Msg.c s44))]) (fun J43 => ?_) fun s44 => ?_
    · refine tcond (fun h70 => ?_) (fun h70 => ?_)
      · refine tb (x := (vi r33)) (rfl) ?_
        refine tbo (ty_wire_Decode_1 hn 4 a0) fun r73 => ?_
        refine tb (x := (vb (decide (r73 = 1)))) (d_eql) ?_
        refine tbo (ty_wire_Decode_1 hn 5 a0) fun r76 => ?_
        refine tbo (ty_wire_Decode_1 hn 6 a0) fun r78 => ?_
        refine tbo (ty_wire_Decode_1 hn 7 a0) fun r80 => ?_
        refine tb (x := (T_Cube.e (T_Cube.mk r78 r80))) (by kernel_rfl) ?_
        refine tbo (ty_wire_Decode_1 hn 8 a0) fun r83 => ?_
        refine tbo (ty_wire_Decode_1 hn 9 a0) fun r85 => ?_
        refine tbo (ty_wire_Decode_1 hn 10 a0) fun r87 => ?_
        refine tb (x := (T_Rule.e (T_Rule.mk r76 (T_Cube.mk r78 r80) r83 r85 r87))) (by kernel_rfl) ?_
        refine tb (x := (T_Op.e (T_Op.mk r33 (decide (r73 = 1)) (T_Rule.mk r76 (T_Cube.mk r78 r80) r83 r85 r87)))) (by kernel_rfl) ?_
        refine tb (x := V.agg (T_Msg.c (T_Msg.mk r31 r33 r35 r37 (T_Op.mk r33 (decide (r73 = 1)) (T_Rule.mk r76 (T_Cube.mk r78 r80) r83 r85 r87))))) (by kernel_rfl) ?_
        refine tkeepO2 ?_ rfl
        refine tsome ?_
        exact rf_j rfl
      · refine tkeepO2 ?_ rfl
        refine tsome ?_
        exact rf_j rfl
    · refine tb (x := (T_Msg.e s44)) (rfl) ?_
      refine tbo (ty_wire_Encode hn s44) fun r49 => ?_
      refine tb (x := (vt r49.1)) (rfl) ?_
      refine tb (x := (eV r49.2)) (rfl) ?_
      refine tb (x := (vb (!decide (r49.2 = 0)))) (p_err_neq _) ?_
      refine tg_f (x := (vt r49.1)) (fun h53 => rfl) ?_
      refine tg_f (x := (vt a0)) (fun h55 => bind_some_eq (rfl)) ?_
      refine tg_f (x := (vb (!decide (r49.1 = a0)))) (fun h58 => by simp only [gv_t h58]; exact bind_some_eq (p_neq_str)) ?_
      refine tb (x := (vb ((!decide (r49.2 = 0)) || (!decide (r49.1 = a0))))) (pick_or (fun h9 => gv_t (not_f h9))) ?_
      refine tcond (fun h62 => ?_) (fun h62 => ?_)
      · refine tb (x := (T_Msg.e (T_Msg.mk 0 0 0 0 (T_Op.mk 0 false (T_Rule.mk 0 (T_Cube.mk 0 0) 0 0 0))))) (by kernel_rfl) ?_
        refine tb (x := (eV 2)) (p_mkE (by decide)) ?_
        refine tb (x := V.agg (T_Msg.c (T_Msg.mk 0 0 0 0 (T_Op.mk 0 false (T_Rule.mk 0 (T_Cube.mk 0 0) 0 0 0))))) (by kernel_rfl) ?_
        refine tb (x := (T_Msg.e (T_Msg.mk 0 0 0 0 (T_Op.mk 0 false (T_Rule.mk 0 (T_Cube.mk 0 0) 0 0 0))))) rfl ?_
        exact rf_ret rfl
      · refine tb (x := (T_Msg.e s44)) (rfl) ?_
        refine tb (x := V.agg (T_Msg.c s44)) (by kernel_rfl) ?_
        refine tb (x := (T_Msg.e s44)) rfl ?_
        exact rf_ret rfl

/-! railpoint/wire.Cut -/
def an_wire_Cut : Ann := .seq (.reg 0 [] [] []) (.seq (.reg 0 [] [] []) (.seq (.blk (some [.s 0, .s 5]) (.loop [.s 0, .r 5 51] (.seq (.seq (.reg 0 [] [] []) (.cond none (.no) (.no))) (.blk none (.seq (.reg 0 [] [] []) (.seq (.seq (.reg 0 [] [] []) (.cond none (.seq (.reg 0 [] [] []) (.no)) (.no))) (.seq (.seq (.reg 0 [] [] []) (.cond none (.no) (.no))) (.seq (.reg 0 [] [] []) (.seq (.seq (.reg 0 [] [] []) (.cond none (.seq (.reg 0 [] [] []) (.no)) (.no))) (.reg 10 [] [] [])))))))))) (.seq (.reg 0 [] [] []) (.no))))
noncomputable def sem_wire_Cut (n : Nat) (xs : List V) : Option V := if xs.length ≤ 40 then denF Try.prog (envOf [(50, (sem_wire_size n)), (24, (sem_wire_Decode n))]) n Try.f25 an_wire_Cut xs else none
theorem ok_wire_Cut (n : Nat) : SemOk Try.prog DW 25 (sem_wire_Cut n) := fun xs y h => by
  unfold sem_wire_Cut at h
  split at h
  · rename_i hl
    exact denF_ok stb Try.func25 (by kernel_rfl) (envOf_ok (semsOk_cons (ok_wire_size n) (semsOk_cons (ok_wire_Decode n) semsOk_nil))) (by rw [Try.ntmps25]; exact hl) h
  · cases h
theorem eq_wire_Cut (n : Nat) (x0 : V) : sem_wire_Cut n [x0] =
 JoinPt (fun vs1 =>
 some (V.tup [(List.getD vs1 1 V.any), (List.getD vs1 0 V.any), vn])) fun J2 =>
 (fixN (fun rec3 vs4 =>
 (bin2 Try.prog BinOp.neq 9 (ot 9) (Operand.const (Go.Value.string (ByteArray.mk #[]))) (List.getD vs4 0 V.any) (V.lit (Go.Value.string (ByteArray.mk #[])))).bind fun v5 =>
 condV v5 (
 (scal2 Try.prog (Instr.index 9) (List.getD vs4 0 V.any) (vi 0)).bind fun v6 =>
 ((sem_wire_size n) [v6]).bind fun v7 =>
 (bin2 Try.prog BinOp.eql 3 (ot 14) (oc 0) v7 (vi 0)).bind fun v8 =>
 condV v8 (
 (scal1 Try.prog (Instr.makeInterface 23) (vi 2)).bind fun v9 =>
 some (V.tup [(V.sl []), (V.lit (Go.Value.string (ByteArray.mk #[]))), v9])) (
 (lenT [(List.getD vs4 0 V.any)]).bind fun v10 =>
 (bin2 Try.prog BinOp.gtr 3 (ot 17) (ot 19) v7 v10).bind fun v11 =>
 condV v11 (
 J2 [(List.getD vs4 0 V.any), (V.sl (slL (List.getD vs4 1 V.any)))]) (
 (slc none (List.getD vs4 0 V.any) none (some v7)).bind fun v12 =>
 ((sem_wire_Decode n) [v12]).bind fun v13 =>
 (extractV v13 0).bind fun v14 =>
 (extractV v13 1).bind fun v15 =>
 (spliceV [(vi 0), (vi 0), (vi 0), (vi 0), (vi 0), (vb false), (vi 0), (vi 0), (vi 0), (vi 0), (vi 0), (vi 0)] 0 12 v14).bind fun v16 =>
 (bin2 Try.prog BinOp.neq 31 (ot 28) (Operand.const Go.Value.nilIface) v15 vn).bind fun v17 =>
 condV v17 (
 some (V.tup [(V.sl []), (V.lit (Go.Value.string (ByteArray.mk #[]))), v15])) (
 (slc none (List.getD vs4 0 V.any) (some v7) none).bind fun v18 =>
 (litV v18).bind fun v19 =>
 (ldk (some 12) (List.drop 0 (aggL v16))).bind fun v20 =>
 (slcB 12 1 [(vi 0), (vi 0), (vi 0), (vi 0), (vi 0), (vb false), (vi 0), (vi 0), (vi 0), (vi 0), (vi 0), (vi 0)] [(0, v20)]).bind fun v21 =>
 (appV 12 (slL (List.getD vs4 1 V.any)) v21).bind fun v22 =>
 rec3 [v19, (V.sl (slL v22))])))) (
 J2 [(List.getD vs4 0 V.any), (V.sl (slL (List.getD vs4 1 V.any)))])) n) [x0, (V.sl [])] := by kernel_rfl
noncomputable def t_wire_Cut (a0 : ByteArray) : Option ((List T_Msg) × ByteArray × Int) :=
 join (fun (s3 : (ByteArray × (List T_Msg))) =>
 some (s3.2, s3.1, 0)) fun j4 =>
 tfix (fun k9 (s8 : (ByteArray × (List T_Msg))) =>
 if (!decide (s8.1 = (ByteArray.mk #[]))) = true then (
 (sidx s8.1 0).bind fun r16 =>
 (t_wire_size r16).bind fun r18 =>
 if (decide (r18 = 0)) = true then (
 some ([], (ByteArray.mk #[]), 2)) else (
 if (decide ((s8.1.size : Int) < r18)) = true then (
 j4 (s8.1, s8.2)) else (
 (sslc_hi s8.1 r18).bind fun r26 =>
 (t_wire_Decode r26).bind fun r28 =>
 if (!decide (r28.2 = 0)) = true then (
 some ([], (ByteArray.mk #[]), r28.2)) else (
 (sslc_lo s8.1 r18).bind fun r35 =>
 (app s8.2 ([r28.1] : (List T_Msg))).bind fun r40 =>
 k9 (r35, r40))))) else (
 j4 (s8.1, s8.2))) bigN (a0, [])
theorem ty_wire_Cut {n : Nat} (hn : bigN ≤ n) (a0 : ByteArray) : Rv (fun x : ((List T_Msg) × ByteArray × Int) => V.tup [(V.sl (List.map T_Msg.c x.1)), (vt x.2.1), (eV x.2.2)]) (sem_wire_Cut n [(vt a0)]) (t_wire_Cut a0) := by
  rw [eq_wire_Cut]
  unfold t_wire_Cut
  refine tjoin (mk := fun s3 : (ByteArray × (List T_Msg)) => [(vt s3.1), (V.sl (List.map T_Msg.c s3.2))]) (fun s3 => ?_) fun J2 j4 h5 => ?_
  · exact rf_ret rfl
  · refine rf_fixN (mk := fun (s8 : (ByteArray × (List T_Msg))) => [(vt s8.1), (V.sl (List.map T_Msg.c s8.2))]) hn (a0, []) (fun rec6 k9 h10 s8 => ?_)
    refine tb (x := (vb (!decide (s8.1 = (ByteArray.mk #[]))))) (p_neq_str) ?_
    refine tcond (fun h14 => ?_) (fun h14 => ?_)
    · refine tbo (p_sidx (Try.underlying9) s8.1 0) fun r16 => ?_
      refine tbo (ty_wire_size hn r16) fun r18 => ?_
      refine tb (x := (vb (decide (r18 = 0)))) (d_eql) ?_
      refine tcond (fun h20 => ?_) (fun h20 => ?_)
      · refine tb (x := (eV 2)) (p_mkE (by decide)) ?_
        exact rf_ret rfl
      · refine tb (x := (vi (s8.1.size : Int))) (rfl) ?_
        refine tb (x := (vb (decide ((s8.1.size : Int) < r18)))) (d_gtr) ?_
        refine tcond (fun h24 => ?_) (fun h24 => ?_)
        · exact h5 (s8.1, s8.2)
        · refine tbo (p_sslc_hi s8.1 r18) fun r26 => ?_
          refine tbo (ty_wire_Decode hn r26) fun r28 => ?_
          refine tb (x := (T_Msg.e r28.1)) (rfl) ?_
          refine tb (x := (eV r28.2)) (rfl) ?_
          refine tb (x := V.agg (T_Msg.c r28.1)) (by kernel_rfl) ?_
          refine tb (x := (vb (!decide (r28.2 = 0)))) (p_err_neq _) ?_
          refine tcond (fun h33 => ?_) (fun h33 => ?_)
          · exact rf_ret rfl
          · refine tbo (p_sslc_lo s8.1 r18) fun r35 => ?_
            refine tb (x := (vt r35)) rfl ?_
            refine tb (x := (T_Msg.e r28.1)) (rfl) ?_
            refine tb (x := (V.sl (List.map T_Msg.c ([r28.1] : (List T_Msg))))) (by kernel_rfl) ?_
            refine tbo (p_app (c := T_Msg.c) (fun _ => rfl) s8.2 ([r28.1] : (List T_Msg))) fun r40 => ?_
            exact h10 (r35, r40)
    · exact h5 (s8.1, s8.2)

/-! railpoint/raillaw2.WireBack -/
def an_raillaw2_WireBack : Ann := .seq (.reg 0 [] [] []) (.seq (.reg 0 [] [] []) (.seq (.seq (.reg 0 [] [] []) (.cond none (.seq (.reg 0 [] [] []) (.no)) (.no))) (.seq (.reg 0 [] [] []) (.seq (.reg 0 [] [] []) (.seq (.seq (.reg 0 [] [] []) (.blk (some [.s 11, .s 12]) (.loop [.s 11, .r 12 3, .s 13] (.seq (.seq (.reg 0 [] [] []) (.cond none (.no) (.no))) (.seq (.blk none (.seq (.reg 0 [] [] []) (.seq (.seq (.reg 0 [] [] []) (.cond none (.seq (.reg 0 [] [] []) (.no)) (.no))) (.seq (.reg 0 [] [] []) (.seq (.seq (.reg 10 [] [] []) (.cond none (.seq (.reg 0 [] [] []) (.no)) (.no))) (.seq (.reg 0 [] [] []) (.reg 0 [] [] []))))))) (.reg 0 [] [] [])))))) (.seq (.seq (.reg 0 [] [] []) (.cond none (.seq (.reg 0 [] [] []) (.no)) (.no))) (.seq (.reg 0 [] [] []) (.seq (.reg 0 [] [] []) (.seq (.reg 0 [] [] []) (.seq (.blk (some [.s 20, .s 21]) (.loop [.s 12, .s 20, .s 21] (.seq (.seq (.reg 0 [] [] []) (.cond none (.no) (.no))) (.blk none (.seq (.reg 0 [] [] []) (.reg 0 [] [] [])))))) (.seq (.seq (.reg 0 [] [] []) (.cond none (.seq (.reg 0 [] [] []) (.no)) (.no))) (.seq (.seq (.reg 0 [] [] []) (.blk (some []) (.loop [.s 22] (.seq (.seq (.reg 0 [] [] []) (.cond none (.no) (.no))) (.seq (.blk none (.seq (.reg 9 [] [] []) (.cond none (.seq (.reg 0 [] [] []) (.no)) (.no)))) (.reg 0 [] [] [])))))) (.seq (.seq (.reg 0 [] [] []) (.cond none (.seq (.reg 0 [] [] []) (.no)) (.no))) (.seq (.reg 0 [] [] [168]) (.seq (.reg 0 [] [] []) (.seq (.reg 0 [] [] []) (.seq (.reg 0 [] [] []) (.seq (.seq (.reg 0 [] [] []) (.blk (some [.s 26]) (.loop [.s 26, .s 27] (.seq (.seq (.reg 0 [] [] []) (.cond none (.no) (.no))) (.seq (.blk none (.reg 10 [] [] [])) (.reg 0 [] [] [])))))) (.seq (.reg 0 [] [] []) (.no))))))))))))))))))))
noncomputable def sem_raillaw2_WireBack (n : Nat) (xs : List V) : Option V := if xs.length ≤ 213 then denF Try.prog (envOf [(22, (sem_wire_Encode n)), (23, (sem_railref2_Msg n)), (24, (sem_wire_Decode n)), (25, (sem_wire_Cut n))]) n Try.f7 an_raillaw2_WireBack xs else none
theorem ok_raillaw2_WireBack (n : Nat) : SemOk Try.prog DW 7 (sem_raillaw2_WireBack n) := fun xs y h => by
  unfold sem_raillaw2_WireBack at h
  split at h
  · rename_i hl
    exact denF_ok stb Try.func7 (by kernel_rfl) (envOf_ok (semsOk_cons (ok_wire_Encode n) (semsOk_cons (ok_railref2_Msg n) (semsOk_cons (ok_wire_Decode n) (semsOk_cons (ok_wire_Cut n) semsOk_nil))))) (by rw [Try.ntmps7]; exact hl) h
  · cases h
theorem eq_raillaw2_WireBack (n : Nat) (x0 x1 x2 x3 : V) : sem_raillaw2_WireBack n [x0, x1, x2, x3] =
 ((fillL [(vi 0), (vi 0), (vi 0), (vi 0), (vi 0), (vb false), (vi 0), (vi 0), (vi 0), (vi 0), (vi 0), (vi 0)] [(0, 1, (vi 3)), (1, 1, (vi 2)), (2, 1, (vi 1))]).map V.agg).bind fun v1 =>
 ((sem_wire_Encode n) [v1]).bind fun v2 =>
 (extractV v2 0).bind fun v3 =>
 (extractV v2 1).bind fun v4 =>
 (bin2 Try.prog BinOp.neq 31 (ot 33) (Operand.const Go.Value.nilIface) v4 vn).bind fun v5 =>
 (guardV v5 false (some v3)).bind fun v6 =>
 (guardV v5 false ((bin2 Try.prog BinOp.neq 9 (ot 36) (Operand.const (Go.Value.string (ByteArray.mk #[3, 2, 1, 0, 6]))) v6 (V.lit (Go.Value.string (ByteArray.mk #[3, 2, 1, 0, 6])))).bind fun v7 =>
 some v7)).bind fun v8 =>
 (pickV v5 (vb true) v8).bind fun v9 =>
 condV v9 (
 some (vb false)) (
 JoinPt (fun vs10 =>
 (bin2 Try.prog BinOp.lss 3 (ot 88) (oc 0) x1 (vi 0)).bind fun v12 =>
 (guardV v12 false (some x1)).bind fun v13 =>
 (guardV v12 false (some (List.getD vs10 0 V.any))).bind fun v14 =>
 (guardV v12 false ((lenT [v14]).bind fun v15 =>
 some v15)).bind fun v16 =>
 (guardV v12 false ((bin2 Try.prog BinOp.gtr 3 (ot 91) (ot 93) v13 v16).bind fun v17 =>
 some v17)).bind fun v18 =>
 (pickV v12 (vb true) v18).bind fun v19 =>
 condV v19 (
 some (vb true)) (
 (slc none (List.getD vs10 0 V.any) none (some x1)).bind fun v20 =>
 ((sem_wire_Cut n) [v20]).bind fun v21 =>
 (extractV v21 0).bind fun v22 =>
 (extractV v21 1).bind fun v23 =>
 (extractV v21 2).bind fun v24 =>
 JoinPt (fun vs25 =>
 (bin2 Try.prog BinOp.neq 31 (ot 122) (Operand.const Go.Value.nilIface) v24 vn).bind fun v27 =>
 (guardV v27 false (some v22)).bind fun v28 =>
 (guardV v27 false ((lenS [v28]).bind fun v29 =>
 some v29)).bind fun v30 =>
 (guardV v27 false (some (List.getD vs25 0 V.any))).bind fun v31 =>
 (guardV v27 false ((bin2 Try.prog BinOp.neq 3 (ot 126) (ot 127) v30 v31).bind fun v32 =>
 some v32)).bind fun v33 =>
 (pickV v27 (vb true) v33).bind fun v34 =>
 (guardV v34 false (some v23)).bind fun v35 =>
 (guardV v34 false (some (List.getD vs10 0 V.any))).bind fun v36 =>
 (guardV v34 false (some (List.getD vs25 1 V.any))).bind fun v37 =>
 (guardV v34 false (some x1)).bind fun v38 =>
 (guardV v34 false ((slc none v36 (some v37) (some v38)).bind fun v39 =>
 some v39)).bind fun v40 =>
 (guardV v34 false ((bin2 Try.prog BinOp.neq 9 (ot 131) (ot 135) v35 v40).bind fun v41 =>
 some v41)).bind fun v42 =>
 (pickV v34 (vb true) v42).bind fun v43 =>
 condV v43 (
 some (vb false)) (
 JoinPt (fun vs44 =>
 (bin2 Try.prog BinOp.lss 3 (ot 152) (oc 0) x2 (vi 0)).bind fun v46 =>
 (guardV v46 false (some x2)).bind fun v47 =>
 (guardV v46 false (some (List.getD vs10 0 V.any))).bind fun v48 =>
 (guardV v46 false ((lenT [v48]).bind fun v49 =>
 some v49)).bind fun v50 =>
 (guardV v46 false ((bin2 Try.prog BinOp.geq 3 (ot 155) (ot 157) v47 v50).bind fun v51 =>
 some v51)).bind fun v52 =>
 (pickV v46 (vb true) v52).bind fun v53 =>
 (guardV v53 false (some (List.getD vs10 0 V.any))).bind fun v54 =>
 (guardV v53 false (some x2)).bind fun v55 =>
 (guardV v53 false ((scal2 Try.prog (Instr.index 9) v54 v55).bind fun v56 =>
 some v56)).bind fun v57 =>
 (guardV v53 false (some x3)).bind fun v58 =>
 (guardV v53 false ((bin2 Try.prog BinOp.eql 5 (ot 163) (ot 164) v57 v58).bind fun v59 =>
 some v59)).bind fun v60 =>
 (pickV v53 (vb true) v60).bind fun v61 =>
 condV v61 (
 some (vb true)) (
 (s2bT (List.getD vs10 0 V.any)).bind fun v62 =>
 ((oslR v62).bind fun rows63 => inB (List.length rows63) x2).bind fun v64 =>
 (V.cellsO x3).bind fun v65 =>
 (setV v62 [] (Stp.mk (some (natOf x2)) 0 1) 1 v65).bind fun v66 =>
 ((oslR v66).bind fun rows67 => b2s (V.sl rows67)).bind fun v68 =>
 ((sem_wire_Cut n) [v68]).bind fun v69 =>
 (extractV v69 0).bind fun v70 =>
 (extractV v69 1).bind fun v71 =>
 (extractV v69 2).bind fun v72 =>
 (bin2 Try.prog BinOp.eql 31 (ot 180) (Operand.const Go.Value.nilIface) v72 vn).bind fun v73 =>
 (guardV v73 true (some v71)).bind fun v74 =>
 (guardV v73 true ((bin2 Try.prog BinOp.eql 9 (ot 183) (Operand.const (Go.Value.string (ByteArray.mk #[]))) v74 (V.lit (Go.Value.string (ByteArray.mk #[])))).bind fun v75 =>
 some v75)).bind fun v76 =>
 (pickV v73 v76 (vb false)).bind fun v77 =>
 (guardV v77 true (some v70)).bind fun v78 =>
 (guardV v77 true ((lenS [v78]).bind fun v79 =>
 some v79)).bind fun v80 =>
 (guardV v77 true (some x0)).bind fun v81 =>
 (guardV v77 true ((lenS [v81]).bind fun v82 =>
 some v82)).bind fun v83 =>
 (guardV v77 true ((bin2 Try.prog BinOp.eql 3 (ot 188) (ot 190) v80 v83).bind fun v84 =>
 some v84)).bind fun v85 =>
 (pickV v77 v85 (vb false)).bind fun v86 =>
 JoinPt (fun vs87 =>
 (scal1 Try.prog (Op.unary Go.UnOp.not) (List.getD vs87 0 V.any)).bind fun v89 =>
 some v89) fun J88 =>
 (fixN (fun rec90 vs91 =>
 (lenS [v70]).bind fun v92 =>
 (bin2 Try.prog BinOp.lss 3 (ot 193) (ot 195) (List.getD vs91 1 V.any) v92).bind fun v93 =>
 (guardV v93 true (some (List.getD vs91 0 V.any))).bind fun v94 =>
 (pickV v93 v94 (vb false)).bind fun v95 =>
 condV v95 (
 (idxS 12 v70 (List.getD vs91 1 V.any)).bind fun v96 =>
 (ldp (some 12) v96).bind fun v97 =>
 (idxS 12 x0 (List.getD vs91 1 V.any)).bind fun v98 =>
 (ldp (some 12) v98).bind fun v99 =>
 (bin2 Try.prog BinOp.eql 51 (ot 205) (ot 209) v97 v99).bind fun v100 =>
 (bin2 Try.prog BinOp.add 3 (ot 200) (oc 1) (List.getD vs91 1 V.any) (vi 1)).bind fun v101 =>
 rec90 [v100, v101]) (
 J88 [(List.getD vs91 0 V.any)])) n) [v86, (vi 0)])) fun J45 =>
 (fixN (fun rec102 vs103 =>
 (bin2 Try.prog BinOp.lss 3 (ot 138) (ot 139) (List.getD vs103 0 V.any) (List.getD vs25 0 V.any)).bind fun v104 =>
 condV v104 (
 (idxS 12 v22 (List.getD vs103 0 V.any)).bind fun v105 =>
 (ldp (some 12) v105).bind fun v106 =>
 (idxS 12 x0 (List.getD vs103 0 V.any)).bind fun v107 =>
 (ldp (some 12) v107).bind fun v108 =>
 (bin2 Try.prog BinOp.neq 51 (ot 146) (ot 150) v106 v108).bind fun v109 =>
 condV v109 (
 some (vb false)) (
 (bin2 Try.prog BinOp.add 3 (ot 141) (oc 1) (List.getD vs103 0 V.any) (vi 1)).bind fun v110 =>
 rec102 [v110])) (
 J45 [])) n) [(vi 0)])) fun J26 =>
 (fixN (fun rec111 vs112 =>
 (lenS [(List.getD vs112 0 V.any)]).bind fun v113 =>
 (bin2 Try.prog BinOp.lss 3 (ot 104) (ot 106) (List.getD vs112 1 V.any) v113).bind fun v114 =>
 (guardV v114 true (some (List.getD vs112 0 V.any))).bind fun v115 =>
 (guardV v114 true (some (List.getD vs112 1 V.any))).bind fun v116 =>
 (guardV v114 true ((idxS 1 v115 v116).bind fun v117 =>
 some v117)).bind fun v118 =>
 (guardV v114 true ((ldp none v118).bind fun v119 =>
 some v119)).bind fun v120 =>
 (guardV v114 true (some x1)).bind fun v121 =>
 (guardV v114 true ((bin2 Try.prog BinOp.leq 3 (ot 112) (ot 113) v120 v121).bind fun v122 =>
 some v122)).bind fun v123 =>
 (pickV v114 v123 (vb false)).bind fun v124 =>
 condV v124 (
 (idxS 1 (List.getD vs112 0 V.any) (List.getD vs112 1 V.any)).bind fun v125 =>
 (ldp none v125).bind fun v126 =>
 (bin2 Try.prog BinOp.add 3 (ot 120) (oc 1) (List.getD vs112 1 V.any) (vi 1)).bind fun v127 =>
 rec111 [(List.getD vs112 0 V.any), v127, v126]) (
 J26 [(List.getD vs112 1 V.any), (List.getD vs112 2 V.any)])) n) [(List.getD vs10 1 V.any), (vi 0), (vi 0)])) fun J11 =>
 (fixN (fun rec128 vs129 =>
 (lenS [x0]).bind fun v130 =>
 (bin2 Try.prog BinOp.lss 3 (ot 39) (ot 41) (List.getD vs129 2 V.any) v130).bind fun v131 =>
 (guardV v131 true (some (List.getD vs129 2 V.any))).bind fun v132 =>
 (guardV v131 true ((bin2 Try.prog BinOp.lss 3 (ot 44) (oc 20) v132 (vi 20)).bind fun v133 =>
 some v133)).bind fun v134 =>
 (pickV v131 v134 (vb false)).bind fun v135 =>
 condV v135 (
 (idxS 12 x0 (List.getD vs129 2 V.any)).bind fun v136 =>
 (ldp (some 12) v136).bind fun v137 =>
 ((sem_wire_Encode n) [v137]).bind fun v138 =>
 (extractV v138 0).bind fun v139 =>
 (extractV v138 1).bind fun v140 =>
 (bin2 Try.prog BinOp.neq 31 (ot 57) (Operand.const Go.Value.nilIface) v140 vn).bind fun v141 =>
 condV v141 (
 (idxS 12 x0 (List.getD vs129 2 V.any)).bind fun v142 =>
 (ldp (some 12) v142).bind fun v143 =>
 ((sem_railref2_Msg n) [v143]).bind fun v144 =>
 (bin2 Try.prog BinOp.neq 3 (ot 63) (oc 0) v144 (vi 0)).bind fun v145 =>
 some v145) (
 ((sem_wire_Decode n) [v139]).bind fun v146 =>
 (extractV v146 0).bind fun v147 =>
 (extractV v146 1).bind fun v148 =>
 (spliceV [(vi 0), (vi 0), (vi 0), (vi 0), (vi 0), (vb false), (vi 0), (vi 0), (vi 0), (vi 0), (vi 0), (vi 0)] 0 12 v147).bind fun v149 =>
 (bin2 Try.prog BinOp.neq 31 (ot 70) (Operand.const Go.Value.nilIface) v148 vn).bind fun v150 =>
 (guardV v150 false ((ldk (some 12) (List.drop 0 (aggL v149))).bind fun v151 =>
 some v151)).bind fun v152 =>
 (guardV v150 false (some x0)).bind fun v153 =>
 (guardV v150 false (some (List.getD vs129 2 V.any))).bind fun v154 =>
 (guardV v150 false ((idxS 12 v153 v154).bind fun v155 =>
 some v155)).bind fun v156 =>
 (guardV v150 false ((ldp (some 12) v156).bind fun v157 =>
 some v157)).bind fun v158 =>
 (guardV v150 false ((bin2 Try.prog BinOp.neq 51 (ot 73) (ot 77) v152 v158).bind fun v159 =>
 some v159)).bind fun v160 =>
 (pickV v150 (vb true) v160).bind fun v161 =>
 condV v161 (
 some (vb false)) (
 (bin2 Try.prog BinOp.add 9 (ot 80) (ot 81) (List.getD vs129 0 V.any) v139).bind fun v162 =>
 (lenT [v162]).bind fun v163 =>
 (slcB 1 1 [(vi 0)] [(0, v163)]).bind fun v164 =>
 (appV 1 (slL (List.getD vs129 1 V.any)) v164).bind fun v165 =>
 (bin2 Try.prog BinOp.add 3 (ot 47) (oc 1) (List.getD vs129 2 V.any) (vi 1)).bind fun v166 =>
 rec128 [v162, (V.sl (slL v165)), v166]))) (
 J11 [(List.getD vs129 0 V.any), (V.sl (slL (List.getD vs129 1 V.any)))])) n) [(V.lit (Go.Value.string (ByteArray.mk #[]))), (V.sl []), (vi 0)]) := by kernel_rfl
noncomputable def t_raillaw2_WireBack (a0 : (List T_Msg)) (a1 : Int) (a2 : Int) (a3 : Int) : Option Bool :=
 (t_wire_Encode (T_Msg.mk 3 2 1 0 (T_Op.mk 0 false (T_Rule.mk 0 (T_Cube.mk 0 0) 0 0 0)))).bind fun r3 =>
 if ((!decide (r3.2 = 0)) || (!decide (r3.1 = (ByteArray.mk #[3, 2, 1, 0, 6])))) = true then (
 some false) else (
 join (fun (s16 : (ByteArray × (List Int))) =>
 if ((decide (a1 < 0)) || (decide ((s16.1.size : Int) < a1))) = true then (
 some true) else (
 (sslc_hi s16.1 a1).bind fun r33 =>
 (t_wire_Cut r33).bind fun r35 =>
 (loopI s16.2 (fun (i205 : Int) x206 (s201 : Int) k202 =>
 if (decide (x206 ≤ a1)) = true then (
 k202 (x206)) else (
 some (i205, s201))) (fun (s201 : Int) =>
 some ((List.length s16.2 : Int), s201)) (0)).bind fun (s41 : (Int × Int)) =>
 (gd (!((!decide (r35.2.2 = 0)) || (decide ((List.length r35.1 : Int) ≠ s41.1)))) default (sslc_lh s16.1 s41.2 a1)).bind fun r67 =>
 if (((!decide (r35.2.2 = 0)) || (decide ((List.length r35.1 : Int) ≠ s41.1))) || (!decide (r35.2.1 = r67))) = true then (
 some false) else (
 join (fun (s75 : Unit) =>
 (gd (!((decide (a2 < 0)) || (decide ((s16.1.size : Int) ≤ a2)))) default (sidx s16.1 a2)).bind fun r97 =>
 if (((decide (a2 < 0)) || (decide ((s16.1.size : Int) ≤ a2))) || (decide (r97 = a3))) = true then (
 some true) else (
 need (decide ((s16.1.size : Int) ≤ maxI)) (
 need (decide (0 ≤ a2) && decide (a2 < (List.length (numsOf s16.1) : Int))) (
 (oset (numsOf s16.1) a2 a3).bind fun r111 =>
 (t_wire_Cut (strOfNums r111)).bind fun r115 =>
 (loopI r115.1 (fun (i152 : Int) x153 (s148 : Bool) k149 =>
 if s148 = true then (
 (idx a0 i152).bind fun r165 =>
 k149 (decide (x153 = r165))) else (
 some (s148))) (fun (s148 : Bool) =>
 some (s148)) (((decide (r115.2.2 = 0)) && (decide (r115.2.1 = (ByteArray.mk #[])))) && (decide ((List.length r115.1 : Int) = (List.length a0 : Int))))).bind fun (s142 : Bool) =>
 some (!s142))))) fun j76 =>
 loopU 0 s41.1 (fun (i182 : Int) (s178 : Unit) k179 =>
 (idx r35.1 i182).bind fun r190 =>
 (idx a0 i182).bind fun r193 =>
 if (!decide (r190 = r193)) = true then (
 some false) else (
 k179 ())) (fun (i182 : Int) (s178 : Unit) =>
 j76 ()) ()))) fun j17 =>
 loopI a0 (fun (i249 : Int) x250 (s245 : (ByteArray × (List Int))) k246 =>
 if (decide (i249 < 20)) = true then (
 (t_wire_Encode x250).bind fun r264 =>
 if (!decide (r264.2 = 0)) = true then (
 (t_railref2_Msg x250).bind fun r272 =>
 some (decide (r272 ≠ 0))) else (
 (t_wire_Decode r264.1).bind fun r275 =>
 if ((!decide (r275.2 = 0)) || (!decide (r275.1 = x250))) = true then (
 some false) else (
 need (decide ((s245.1.size : Int) + r264.1.size ≤ maxI)) (
 (app s245.2 ([((s245.1 ++ r264.1).size : Int)] : (List Int))).bind fun r302 =>
 k246 ((s245.1 ++ r264.1), r302))))) else (
 j17 (s245.1, s245.2))) (fun (s245 : (ByteArray × (List Int))) =>
 j17 (s245.1, s245.2)) ((ByteArray.mk #[]), []))
theorem ty_raillaw2_WireBack {n : Nat} (hn : bigN ≤ n) (a0 : (List T_Msg)) (a1 : Int) (a2 : Int) (a3 : Int) : Rv (fun x : Bool => (vb x)) (sem_raillaw2_WireBack n [(V.sl (List.map T_Msg.c a0)), (vi a1), (vi a2), (V.lit (.int .u8 a3))]) (t_raillaw2_WireBack a0 a1 a2 a3) := by
  rw [eq_raillaw2_WireBack]
  unfold t_raillaw2_WireBack
  refine tb (x := (T_Msg.e (T_Msg.mk 3 2 1 0 (T_Op.mk 0 false (T_Rule.mk 0 (T_Cube.mk 0 0) 0 0 0))))) (by kernel_rfl) ?_
  refine tbo (ty_wire_Encode hn (T_Msg.mk 3 2 1 0 (T_Op.mk 0 false (T_Rule.mk 0 (T_Cube.mk 0 0) 0 0 0)))) fun r3 => ?_
  refine tb (x := (vt r3.1)) (rfl) ?_
  refine tb (x := (eV r3.2)) (rfl) ?_
  refine tb (x := (vb (!decide (r3.2 = 0)))) (p_err_neq _) ?_
  refine tg_f (x := (vt r3.1)) (fun h7 => rfl) ?_
  refine tg_f (x := (vb (!decide (r3.1 = (ByteArray.mk #[3, 2, 1, 0, 6]))))) (fun h9 => by simp only [gv_t h9]; exact bind_some_eq (p_neq_str)) ?_
  refine tb (x := (vb ((!decide (r3.2 = 0)) || (!decide (r3.1 = (ByteArray.mk #[3, 2, 1, 0, 6])))))) (pick_or (fun h9 => gv_t (not_f h9))) ?_
  refine tcond (fun h13 => ?_) (fun h13 => ?_)
  · exact rf_ret rfl
  · refine tjoin (mk := fun s16 : (ByteArray × (List Int)) => [(vt s16.1), (V.sl (List.map cI s16.2))]) (fun s16 => ?_) fun J15 j17 h18 => ?_
    · refine tb (x := (vb (decide (a1 < 0)))) (d_lss) ?_
      refine tg_f (x := (vi a1)) (fun h20 => rfl) ?_
      refine tg_f (x := (vt s16.1)) (fun h22 => rfl) ?_
      refine tg_f (x := (vi (s16.1.size : Int))) (fun h24 => by simp only [gv_t h24]; exact bind_some_eq (rfl)) ?_
      refine tg_f (x := (vb (decide ((s16.1.size : Int) < a1)))) (fun h27 => by simp only [gv_t h27]; exact bind_some_eq (d_gtr)) ?_
      refine tb (x := (vb ((decide (a1 < 0)) || (decide ((s16.1.size : Int) < a1))))) (pick_or (fun h9 => gv_t (not_f h9))) ?_
      refine tcond (fun h31 => ?_) (fun h31 => ?_)
      · exact rf_ret rfl
      · refine tbo (p_sslc_hi s16.1 a1) fun r33 => ?_
        refine tbo (ty_wire_Cut hn r33) fun r35 => ?_
        refine tb (x := (V.sl (List.map T_Msg.c r35.1))) (rfl) ?_
        refine tb (x := (vt r35.2.1)) (rfl) ?_
        refine tb (x := (eV r35.2.2)) (rfl) ?_
        refine tjb (mk := fun s41 : (Int × Int) => [(vi s41.1), (vi s41.2)]) (fun J40 => ?_) fun s41 => ?_
        · refine rf_loopI (mk := fun (i205 : Int) (s201 : Int) => [(V.sl (List.map cI s16.2)), (vi (i205 : Int)), (vi s201)]) hn s16.2 (0) (fun i205 x206 h207 h208 h209 s201 rec199 k202 h203 => ?_) (fun s201 rec227 h226 => ?_)
          · refine tb (x := (vi (List.length s16.2 : Int))) (p_len _) ?_
            refine tb (x := (vb (decide ((i205 : Int) < (List.length s16.2 : Int))))) (d_lss) ?_
            refine tb (x := (V.sl (List.map cI s16.2))) (gkt h209 rfl) ?_
            refine tb (x := (vi (i205 : Int))) (gkt h209 rfl) ?_
            refine tkt h209 (tb (x := (V.ptr [(vi x206)])) (p_idx_at (c := cI) (fun _ => rfl) h207) ?_)
            refine tkt h209 (tb (x := (vi x206)) (rfl) ?_)
            refine tb (x := (vi a1)) (gkt h209 rfl) ?_
            refine tkt h209 (tb (x := (vb (decide (x206 ≤ a1)))) (d_leq) ?_)
            refine tb (x := (vb (decide (x206 ≤ a1)))) (pick_kt h209) ?_
            refine tcond (fun h222 => ?_) (fun h222 => ?_)
            · refine tb (x := (V.ptr [(vi x206)])) (p_idx_at (c := cI) (fun _ => rfl) h207) ?_
              refine tb (x := (vi x206)) (rfl) ?_
              refine tb (x := (vi ((i205 : Int) + 1))) (p_incN h208) ?_
              exact h203 (x206)
            · exact rf_j rfl
          · refine tb (x := (vi (List.length s16.2 : Int))) (p_len _) ?_
            refine tb (x := (vb (decide ((List.length s16.2 : Int) < (List.length s16.2 : Int))))) (d_lss) ?_
            refine tb (x := V.tup []) (gnt h226) ?_
            refine tb (x := V.tup []) (gnt h226) ?_
            refine tb (x := V.tup []) (gnt h226) ?_
            refine tb (x := V.tup []) (gnt h226) ?_
            refine tb (x := V.tup []) (gnt h226) ?_
            refine tb (x := V.tup []) (gnt h226) ?_
            refine tb (x := (vb (false))) (pick_kf h226) ?_
            refine tcond_f rfl ?_
            exact rf_j rfl
        · refine tb (x := (vb (!decide (r35.2.2 = 0)))) (p_err_neq _) ?_
          refine tg_f (x := (V.sl (List.map T_Msg.c r35.1))) (fun h45 => rfl) ?_
          refine tg_f (x := (vi (List.length r35.1 : Int))) (fun h47 => by simp only [gv_t h47]; exact bind_some_eq (p_len _)) ?_
          refine tg_f (x := (vi s41.1)) (fun h50 => rfl) ?_
          refine tg_f (x := (vb (decide ((List.length r35.1 : Int) ≠ s41.1)))) (fun h52 => by simp only [gv_t h52]; exact bind_some_eq (d_neq)) ?_
          refine tb (x := (vb ((!decide (r35.2.2 = 0)) || (decide ((List.length r35.1 : Int) ≠ s41.1))))) (pick_or (fun h9 => gv_t (not_f h9))) ?_
          refine tg_f (x := (vt r35.2.1)) (fun h56 => rfl) ?_
          refine tg_f (x := (vt s16.1)) (fun h58 => rfl) ?_
          refine tg_f (x := (vi s41.2)) (fun h60 => rfl) ?_
          refine tg_f (x := (vi a1)) (fun h62 => rfl) ?_
          refine tgo_f (fun h64 => by simp only [gv_t h64]; exact rf_bind_some (p_sslc_lh s16.1 s41.2 a1)) fun r67 => ?_
          refine tg_f (x := (vb (!decide (r35.2.1 = r67)))) (fun h68 => by simp only [gv_t h68]; exact bind_some_eq (p_neq_str)) ?_
          refine tb (x := (vb (((!decide (r35.2.2 = 0)) || (decide ((List.length r35.1 : Int) ≠ s41.1))) || (!decide (r35.2.1 = r67))))) (pick_or (fun h9 => gv_t (not_f h9))) ?_
          refine tcond (fun h72 => ?_) (fun h72 => ?_)
          · exact rf_ret rfl
          · refine tjoin (mk := fun s75 : Unit => []) (fun s75 => ?_) fun J74 j76 h77 => ?_
            · refine tb (x := (vb (decide (a2 < 0)))) (d_lss) ?_
              refine tg_f (x := (vi a2)) (fun h79 => rfl) ?_
              refine tg_f (x := (vt s16.1)) (fun h81 => rfl) ?_
              refine tg_f (x := (vi (s16.1.size : Int))) (fun h83 => by simp only [gv_t h83]; exact bind_some_eq (rfl)) ?_
              refine tg_f (x := (vb (decide ((s16.1.size : Int) ≤ a2)))) (fun h86 => by simp only [gv_t h86]; exact bind_some_eq (d_geq)) ?_
              refine tb (x := (vb ((decide (a2 < 0)) || (decide ((s16.1.size : Int) ≤ a2))))) (pick_or (fun h9 => gv_t (not_f h9))) ?_
              refine tg_f (x := (vt s16.1)) (fun h90 => rfl) ?_
              refine tg_f (x := (vi a2)) (fun h92 => rfl) ?_
              refine tgo_f (fun h94 => by simp only [gv_t h94]; exact rf_bind_some (p_sidx (Try.underlying9) s16.1 a2)) fun r97 => ?_
              refine tg_f (x := (V.lit (.int .u8 a3))) (fun h98 => rfl) ?_
              refine tg_f (x := (vb (decide (r97 = a3)))) (fun h100 => by simp only [gv_t h100]; exact bind_some_eq (q_eql)) ?_
              refine tb (x := (vb (((decide (a2 < 0)) || (decide ((s16.1.size : Int) ≤ a2))) || (decide (r97 = a3))))) (pick_or (fun h9 => gv_t (not_f h9))) ?_
              refine tcond (fun h104 => ?_) (fun h104 => ?_)
              · exact rf_ret rfl
              · refine tneed (x := V.osl 1 (List.map cY (numsOf s16.1))) (fun h106 => p_s2bT h106) fun h106 => ?_
                refine tneed (x := V.any) (fun h175 => p_inB (numsOf s16.1) a2 h175) fun h175 => ?_
                refine tb (x := cY a3) rfl ?_
                refine tbo (p_oset (c := cY) (fun _ => rfl) (numsOf s16.1) a2 a3) fun r111 => ?_
                refine tb (x := (vt (strOfNums r111))) (p_oslB) ?_
                refine tbo (ty_wire_Cut hn (strOfNums r111)) fun r115 => ?_
                refine tb (x := (V.sl (List.map T_Msg.c r115.1))) (rfl) ?_
                refine tb (x := (vt r115.2.1)) (rfl) ?_
                refine tb (x := (eV r115.2.2)) (rfl) ?_
                refine tb (x := (vb (decide (r115.2.2 = 0)))) (p_err_eql _) ?_
                refine tg (x := (vt r115.2.1)) (fun h120 => rfl) ?_
                refine tg (x := (vb (decide (r115.2.1 = (ByteArray.mk #[]))))) (fun h122 => by simp only [gv_t h122]; exact bind_some_eq (p_eql_str)) ?_
                refine tb (x := (vb ((decide (r115.2.2 = 0)) && (decide (r115.2.1 = (ByteArray.mk #[])))))) (pick_and (fun h9 => gv_t h9)) ?_
                refine tg (x := (V.sl (List.map T_Msg.c r115.1))) (fun h126 => rfl) ?_
                refine tg (x := (vi (List.length r115.1 : Int))) (fun h128 => by simp only [gv_t h128]; exact bind_some_eq (p_len _)) ?_
                refine tg (x := (V.sl (List.map T_Msg.c a0))) (fun h131 => rfl) ?_
                refine tg (x := (vi (List.length a0 : Int))) (fun h133 => by simp only [gv_t h133]; exact bind_some_eq (p_len _)) ?_
                refine tg (x := (vb (decide ((List.length r115.1 : Int) = (List.length a0 : Int))))) (fun h136 => by simp only [gv_t h136]; exact bind_some_eq (d_eql)) ?_
                refine tb (x := (vb (((decide (r115.2.2 = 0)) && (decide (r115.2.1 = (ByteArray.mk #[])))) && (decide ((List.length r115.1 : Int) = (List.length a0 : Int)))))) (pick_and (fun h9 => gv_t h9)) ?_
                refine tjb (mk := fun s142 : Bool => [(vb s142)]) (fun J141 => ?_) fun s142 => ?_
                · refine rf_loopI (mk := fun (i152 : Int) (s148 : Bool) => [(vb s148), (vi (i152 : Int))]) hn r115.1 (((decide (r115.2.2 = 0)) && (decide (r115.2.1 = (ByteArray.mk #[])))) && (decide ((List.length r115.1 : Int) = (List.length a0 : Int)))) (fun i152 x153 h154 h155 h156 s148 rec146 k149 h150 => ?_) (fun s148 rec170 h169 => ?_)
                  · refine tb (x := (vi (List.length r115.1 : Int))) (p_len _) ?_
                    refine tb (x := (vb (decide ((i152 : Int) < (List.length r115.1 : Int))))) (d_lss) ?_
                    refine tb (x := (vb s148)) (gkt h156 rfl) ?_
                    refine tb (x := (vb s148)) (pick_kt h156) ?_
                    refine tcond (fun h161 => ?_) (fun h161 => ?_)
                    · refine tb (x := (V.ptr (T_Msg.c x153))) (p_idx_at (c := T_Msg.c) (fun _ => rfl) h154) ?_
                      refine tb (x := (T_Msg.e x153)) (rfl) ?_
                      refine tbo (p_idx (c := T_Msg.c) (fun _ => rfl) a0 (i152 : Int)) fun r165 => ?_
                      refine tb (x := (T_Msg.e r165)) (rfl) ?_
                      refine tb (x := (vb (decide (x153 = r165)))) (T_Msg.eql x153 r165) ?_
                      refine tb (x := (vi ((i152 : Int) + 1))) (p_incN h155) ?_
                      exact h150 (decide (x153 = r165))
                    · exact rf_j rfl
                  · refine tb (x := (vi (List.length r115.1 : Int))) (p_len _) ?_
                    refine tb (x := (vb (decide ((List.length r115.1 : Int) < (List.length r115.1 : Int))))) (d_lss) ?_
                    refine tb (x := V.tup []) (gnt h169) ?_
                    refine tb (x := (vb (false))) (pick_kf h169) ?_
                    refine tcond_f rfl ?_
                    exact rf_j rfl
                · refine tb (x := (vb (!s142))) (d_not) ?_
                  exact rf_ret rfl
            · refine rf_loopU (mk := fun (i182 : Int) (s178 : Unit) => [(vi i182)]) hn _ _ () (fun i182 h183 h184 h185 s178 rec176 k179 h180 => ?_) (fun i182 s178 rec187 h186 => ?_)
              · refine tb (x := (vb (decide (i182 < s41.1)))) (d_lss) ?_
                refine tcond_t h183 ?_
                refine tbo (p_idx (c := T_Msg.c) (fun _ => rfl) r35.1 i182) fun r190 => ?_
                refine tb (x := (T_Msg.e r190)) (rfl) ?_
                refine tbo (p_idx (c := T_Msg.c) (fun _ => rfl) a0 i182) fun r193 => ?_
                refine tb (x := (T_Msg.e r193)) (rfl) ?_
                refine tb (x := (vb (!decide (r190 = r193)))) (T_Msg.neq r190 r193) ?_
                refine tcond (fun h196 => ?_) (fun h196 => ?_)
                · exact rf_ret rfl
                · refine tb (x := (vi (i182 + 1))) (p_inc h184 h185) ?_
                  exact h180 ()
              · refine tb (x := (vb (decide (i182 < s41.1)))) (d_lss) ?_
                refine tcond_f h186 ?_
                exact h77 ()
    · refine rf_loopI (mk := fun (i249 : Int) (s245 : (ByteArray × (List Int))) => [(vt s245.1), (V.sl (List.map cI s245.2)), (vi (i249 : Int))]) hn a0 ((ByteArray.mk #[]), []) (fun i249 x250 h251 h252 h253 s245 rec243 k246 h247 => ?_) (fun s245 rec306 h305 => ?_)
      · refine tb (x := (vi (List.length a0 : Int))) (p_len _) ?_
        refine tb (x := (vb (decide ((i249 : Int) < (List.length a0 : Int))))) (d_lss) ?_
        refine tb (x := (vi (i249 : Int))) (gkt h253 rfl) ?_
        refine tkt h253 (tb (x := (vb (decide ((i249 : Int) < 20)))) (d_lss) ?_)
        refine tb (x := (vb (decide ((i249 : Int) < 20)))) (pick_kt h253) ?_
        refine tcond (fun h260 => ?_) (fun h260 => ?_)
        · refine tb (x := (V.ptr (T_Msg.c x250))) (p_idx_at (c := T_Msg.c) (fun _ => rfl) h251) ?_
          refine tb (x := (T_Msg.e x250)) (rfl) ?_
          refine tbo (ty_wire_Encode hn x250) fun r264 => ?_
          refine tb (x := (vt r264.1)) (rfl) ?_
          refine tb (x := (eV r264.2)) (rfl) ?_
          refine tb (x := (vb (!decide (r264.2 = 0)))) (p_err_neq _) ?_
          refine tcond (fun h268 => ?_) (fun h268 => ?_)
          · refine tb (x := (V.ptr (T_Msg.c x250))) (p_idx_at (c := T_Msg.c) (fun _ => rfl) h251) ?_
            refine tb (x := (T_Msg.e x250)) (rfl) ?_
            refine tbo (ty_railref2_Msg hn x250) fun r272 => ?_
            refine tb (x := (vb (decide (r272 ≠ 0)))) (d_neq) ?_
            exact rf_ret rfl
          · refine tbo (ty_wire_Decode hn r264.1) fun r275 => ?_
            refine tb (x := (T_Msg.e r275.1)) (rfl) ?_
            refine tb (x := (eV r275.2)) (rfl) ?_
            refine tb (x := V.agg (T_Msg.c r275.1)) (by kernel_rfl) ?_
            refine tb (x := (vb (!decide (r275.2 = 0)))) (p_err_neq _) ?_
            refine tg_f (x := (T_Msg.e r275.1)) (fun h280 => bind_some_eq (rfl)) ?_
            refine tg_f (x := (V.sl (List.map T_Msg.c a0))) (fun h283 => rfl) ?_
            refine tg_f (x := (vi (i249 : Int))) (fun h285 => rfl) ?_
            refine tg_f (x := (V.ptr (T_Msg.c x250))) (fun h287 => by simp only [gv_t h287]; exact bind_some_eq (p_idx_at (c := T_Msg.c) (fun _ => rfl) h251)) ?_
            refine tg_f (x := (T_Msg.e x250)) (fun h290 => by simp only [gv_t h290]; exact bind_some_eq (rfl)) ?_
            refine tg_f (x := (vb (!decide (r275.1 = x250)))) (fun h293 => by simp only [gv_t h293]; exact bind_some_eq (T_Msg.neq r275.1 x250)) ?_
            refine tb (x := (vb ((!decide (r275.2 = 0)) || (!decide (r275.1 = x250))))) (pick_or (fun h9 => gv_t (not_f h9))) ?_
            refine tcond (fun h297 => ?_) (fun h297 => ?_)
            · exact rf_ret rfl
            · refine tneed (x := (vt (s245.1 ++ r264.1))) (fun h304 => p_add_str h304) fun h304 => ?_
              refine tb (x := (vi ((s245.1 ++ r264.1).size : Int))) (rfl) ?_
              refine tb (x := (V.sl (List.map cI ([((s245.1 ++ r264.1).size : Int)] : (List Int))))) (by kernel_rfl) ?_
              refine tbo (p_app (c := cI) (fun _ => rfl) s245.2 ([((s245.1 ++ r264.1).size : Int)] : (List Int))) fun r302 => ?_
              refine tb (x := (vi ((i249 : Int) + 1))) (p_incN h252) ?_
              exact h247 ((s245.1 ++ r264.1), r302)
        · exact h18 (s245.1, s245.2)
      · refine tb (x := (vi (List.length a0 : Int))) (p_len _) ?_
        refine tb (x := (vb (decide ((List.length a0 : Int) < (List.length a0 : Int))))) (d_lss) ?_
        refine tb (x := V.tup []) (gnt h305) ?_
        refine tb (x := V.tup []) (gnt h305) ?_
        refine tb (x := (vb (false))) (pick_kf h305) ?_
        refine tcond_f rfl ?_
        exact h18 (s245.1, s245.2)

end Go.Proofs.Ytedgcbcphlonpaa.Ty
