/- What functions do, as functions on plain types, written by a program and checked by the kernel. -/
import Derived.Test.YtbcbdechaihflaaDenPlain
import Derived.Test.YtbcbdechaihflaaTy
import Derived.Test.YtbcbdechaihflaaTyT
import Derived.Test.YtbcbdechaihflaaTyO
import Derived.Test.YtbcbdechaihflaaTyN
import Derived.Test.YtbcbdechaihflaaTyM
import Derived.Test.YtbcbdechaihflaaTyR
import Derived.Test.YtbcbdechaihflaaDen14
import Derived.Test.YtbcbdechaihflaaClone
namespace Go.Proofs.Ytbcbdechaihflaa.Ty
open Go Go.RowKit Go.Proofs.Ytbcbdechaihflaa.Den
set_option linter.unusedVariables false
set_option maxRecDepth 100000

def T_Spot.val (x : T_Spot) : Go.Value := .agg #[.int .i64 x.Switch, .int .i64 x.Port]
theorem T_Spot.mkey : MKey Try.prog 70 T_Spot.val where
  chk e a w := by kernel_rfl
  find vv l a w := find_ask Try.underlying70 (fun _ _ => rfl) (fun a b w => equal_of (T_Spot.run_eql a b w)) vv l a w
  sb a := by show Instr.sameBits (9999 + 1) _ _ = true; simp [Instr.sameBits, T_Spot.val]

/-! railpoint/cube.Header -/
def an_cube_Header : Ann := .seq (.reg 0 [] [] []) (.seq (.reg 0 [] [] []) (.no))
noncomputable def sem_cube_Header (n : Nat) (xs : List V) : Option V := if xs.length ≤ 9 then denF Try.prog (envOf []) n Try.f14 an_cube_Header xs else none
theorem ok_cube_Header (n : Nat) : SemOk Try.prog DW 14 (sem_cube_Header n) := fun xs y h => by
  unfold sem_cube_Header at h
  split at h
  · rename_i hl
    exact denF_ok stb Try.func14 (by kernel_rfl) (envOf_ok semsOk_nil) (by rw [Try.ntmps14]; exact hl) h
  · cases h
theorem eq_cube_Header (n : Nat) (x0 : V) : sem_cube_Header n [x0] =
 (bin2 Try.prog BinOp.geq 3 (ot 3) (oc 0) x0 (vi 0)).bind fun v1 =>
 (guardV v1 true (some x0)).bind fun v2 =>
 (guardV v1 true ((bin2 Try.prog BinOp.lss 3 (ot 6) (oc 16) v2 (vi 16)).bind fun v3 =>
 some v3)).bind fun v4 =>
 (pickV v1 v4 (vb false)).bind fun v5 =>
 some v5 := by kernel_rfl
noncomputable def t_cube_Header (a0 : Int) : Option Bool :=
 some ((decide (0 ≤ a0)) && (decide (a0 < 16)))
theorem ty_cube_Header {n : Nat} (hn : bigN ≤ n) (a0 : Int) : Rv (fun x : Bool => (vb x)) (sem_cube_Header n [(vi a0)]) (t_cube_Header a0) := by
  rw [eq_cube_Header]
  unfold t_cube_Header
  refine tb (x := (vb (decide (0 ≤ a0)))) (d_geq) ?_
  refine tg (x := (vi a0)) (fun h2 => rfl) ?_
  refine tg (x := (vb (decide (a0 < 16)))) (fun h4 => by simp only [gv_t h4]; exact bind_some_eq (d_lss)) ?_
  refine tb (x := (vb ((decide (0 ≤ a0)) && (decide (a0 < 16))))) (pick_and (fun h9 => gv_t h9)) ?_
  exact rf_ret rfl

/-! railpoint/cube.Check -/
def an_cube_Check : Ann := .seq (.reg 0 [] [] []) (.seq (.blk none (.seq (.reg 0 [] [] []) (.cond none (.seq (.reg 0 [] [] []) (.no)) (.seq (.reg 0 [] [] []) (.cond none (.seq (.reg 0 [] [] []) (.no)) (.no)))))) (.seq (.reg 0 [] [] []) (.no)))
noncomputable def sem_cube_Check (n : Nat) (xs : List V) : Option V := if xs.length ≤ 23 then denF Try.prog (envOf [(14, (sem_cube_Header n))]) n Try.f26 an_cube_Check xs else none
theorem ok_cube_Check (n : Nat) : SemOk Try.prog DW 26 (sem_cube_Check n) := fun xs y h => by
  unfold sem_cube_Check at h
  split at h
  · rename_i hl
    exact denF_ok stb Try.func26 (by kernel_rfl) (envOf_ok (semsOk_cons (ok_cube_Header n) semsOk_nil)) (by rw [Try.ntmps26]; exact hl) h
  · cases h
theorem eq_cube_Check (n : Nat) (x0 : V) : sem_cube_Check n [x0] =
 (V.cellsO x0).bind fun v1 =>
 (ldk none (List.drop 0 v1)).bind fun v2 =>
 ((sem_cube_Header n) [v2]).bind fun v3 =>
 (scal1 Try.prog (Op.unary Go.UnOp.not) v3).bind fun v4 =>
 (guardV v4 false (some V.any)).bind fun v5 =>
 (guardV v4 false ((gate v4 false (ldk none (List.drop 1 v1))).bind fun v6 =>
 some v6)).bind fun v7 =>
 (guardV v4 false (((sem_cube_Header n) [v7]).bind fun v8 =>
 some v8)).bind fun v9 =>
 (guardV v4 false ((scal1 Try.prog (Op.unary Go.UnOp.not) v9).bind fun v10 =>
 some v10)).bind fun v11 =>
 (pickV v4 (vb true) v11).bind fun v12 =>
 condV v12 (
 (scal1 Try.prog (Instr.makeInterface 54) (vi 1)).bind fun v13 =>
 some v13) (
 (ldk none (List.drop 1 v1)).bind fun v14 =>
 (ldk none (List.drop 0 v1)).bind fun v15 =>
 (bin2 Try.prog BinOp.andNot 3 (ot 17) (ot 19) v14 v15).bind fun v16 =>
 (bin2 Try.prog BinOp.neq 3 (ot 20) (oc 0) v16 (vi 0)).bind fun v17 =>
 condV v17 (
 (scal1 Try.prog (Instr.makeInterface 54) (vi 3)).bind fun v18 =>
 some v18) (
 some vn)) := by kernel_rfl
noncomputable def t_cube_Check (a0 : T_Cube) : Option Int :=
 (t_cube_Header a0.Mask).bind fun r4 =>
 (gd (!(!r4)) default (t_cube_Header a0.Bits)).bind fun r14 =>
 if ((!r4) || (!r14)) = true then (
 some 1) else (
 if (decide ((bits .andNot .i64 a0.Bits a0.Mask) ≠ 0)) = true then (
 some 3) else (
 some 0))
theorem ty_cube_Check {n : Nat} (hn : bigN ≤ n) (a0 : T_Cube) : Rv (fun x : Int => (eV x)) (sem_cube_Check n [(T_Cube.e a0)]) (t_cube_Check a0) := by
  rw [eq_cube_Check]
  unfold t_cube_Check
  refine tb (x := (T_Cube.c a0)) rfl ?_
  refine tb (x := (vi a0.Mask)) (rfl) ?_
  refine tbo (ty_cube_Header hn a0.Mask) fun r4 => ?_
  refine tb (x := (vb (!r4))) (d_not) ?_
  refine tg_f (x := V.any) (fun h6 => rfl) ?_
  refine tg_f (x := (vi a0.Bits)) (fun h8 => bind_some_eq (gate_pos (not_t h8) (rfl))) ?_
  refine tgo_f (fun h11 => by simp only [gv_t h11]; exact rf_bind_some (ty_cube_Header hn a0.Bits)) fun r14 => ?_
  refine tg_f (x := (vb (!r14))) (fun h15 => by simp only [gv_t h15]; exact bind_some_eq (d_not)) ?_
  refine tb (x := (vb ((!r4) || (!r14)))) (pick_or (fun h9 => gv_t (not_f h9))) ?_
  refine tcond (fun h19 => ?_) (fun h19 => ?_)
  · refine tb (x := (eV 1)) (p_mkE (by decide)) ?_
    exact rf_ret rfl
  · refine tb (x := (vi a0.Bits)) (rfl) ?_
    refine tb (x := (vi a0.Mask)) (rfl) ?_
    refine tb (x := (vi (bits .andNot .i64 a0.Bits a0.Mask))) (d_andNot) ?_
    refine tb (x := (vb (decide ((bits .andNot .i64 a0.Bits a0.Mask) ≠ 0)))) (d_neq) ?_
    refine tcond (fun h25 => ?_) (fun h25 => ?_)
    · refine tb (x := (eV 3)) (p_mkE (by decide)) ?_
      exact rf_ret rfl
    · exact rf_ret rfl

/-! railpoint/rule.Check -/
def an_rule_Check : Ann := .seq (.reg 0 [] [] []) (.seq (.seq (.reg 0 [] [] []) (.cond none (.seq (.reg 0 [] [] []) (.no)) (.no))) (.seq (.seq (.reg 0 [] [] []) (.seq (.reg 0 [] [] []) (.cond none (.seq (.reg 0 [] [] []) (.no)) (.no)))) (.seq (.seq (.reg 0 [] [] []) (.cond none (.seq (.reg 0 [] [] []) (.no)) (.no))) (.seq (.reg 0 [] [] []) (.no)))))
noncomputable def sem_rule_Check (n : Nat) (xs : List V) : Option V := if xs.length ≤ 58 then denF Try.prog (envOf [(14, (sem_cube_Header n)), (26, (sem_cube_Check n))]) n Try.f16 an_rule_Check xs else none
theorem ok_rule_Check (n : Nat) : SemOk Try.prog DW 16 (sem_rule_Check n) := fun xs y h => by
  unfold sem_rule_Check at h
  split at h
  · rename_i hl
    exact denF_ok stb Try.func16 (by kernel_rfl) (envOf_ok (semsOk_cons (ok_cube_Header n) (semsOk_cons (ok_cube_Check n) semsOk_nil))) (by rw [Try.ntmps16]; exact hl) h
  · cases h
theorem eq_rule_Check (n : Nat) (x0 : V) : sem_rule_Check n [x0] =
 (V.cellsO x0).bind fun v1 =>
 (ldk none (List.drop 0 v1)).bind fun v2 =>
 (bin2 Try.prog BinOp.lss 3 (ot 5) (oc 0) v2 (vi 0)).bind fun v3 =>
 (guardV v3 false (some V.any)).bind fun v4 =>
 (guardV v3 false ((gate v3 false (ldk none (List.drop 0 v1))).bind fun v5 =>
 some v5)).bind fun v6 =>
 (guardV v3 false ((bin2 Try.prog BinOp.gtr 3 (ot 9) (oc 99) v6 (vi 99)).bind fun v7 =>
 some v7)).bind fun v8 =>
 (pickV v3 (vb true) v8).bind fun v9 =>
 (guardV v9 false (some V.any)).bind fun v10 =>
 (guardV v9 false ((gate v9 false (ldk none (List.drop 3 v1))).bind fun v11 =>
 some v11)).bind fun v12 =>
 (guardV v9 false ((bin2 Try.prog BinOp.lss 3 (ot 14) (oc 0) v12 (vi 0)).bind fun v13 =>
 some v13)).bind fun v14 =>
 (pickV v9 (vb true) v14).bind fun v15 =>
 (guardV v15 false (some V.any)).bind fun v16 =>
 (guardV v15 false ((gate v15 false (ldk none (List.drop 3 v1))).bind fun v17 =>
 some v17)).bind fun v18 =>
 (guardV v15 false ((bin2 Try.prog BinOp.gtr 3 (ot 19) (oc 4) v18 (vi 4)).bind fun v19 =>
 some v19)).bind fun v20 =>
 (pickV v15 (vb true) v20).bind fun v21 =>
 (guardV v21 false (some V.any)).bind fun v22 =>
 (guardV v21 false ((gate v21 false (ldk none (List.drop 4 v1))).bind fun v23 =>
 some v23)).bind fun v24 =>
 (guardV v21 false (((sem_cube_Header n) [v24]).bind fun v25 =>
 some v25)).bind fun v26 =>
 (guardV v21 false ((scal1 Try.prog (Op.unary Go.UnOp.not) v26).bind fun v27 =>
 some v27)).bind fun v28 =>
 (pickV v21 (vb true) v28).bind fun v29 =>
 (guardV v29 false (some V.any)).bind fun v30 =>
 (guardV v29 false ((gate v29 false (ldk none (List.drop 5 v1))).bind fun v31 =>
 some v31)).bind fun v32 =>
 (guardV v29 false (((sem_cube_Header n) [v32]).bind fun v33 =>
 some v33)).bind fun v34 =>
 (guardV v29 false ((scal1 Try.prog (Op.unary Go.UnOp.not) v34).bind fun v35 =>
 some v35)).bind fun v36 =>
 (pickV v29 (vb true) v36).bind fun v37 =>
 condV v37 (
 (scal1 Try.prog (Instr.makeInterface 54) (vi 1)).bind fun v38 =>
 some v38) (
 (ldk (some 2) (List.drop 1 v1)).bind fun v39 =>
 ((sem_cube_Check n) [v39]).bind fun v40 =>
 (bin2 Try.prog BinOp.neq 31 (ot 38) (Operand.const Go.Value.nilIface) v40 vn).bind fun v41 =>
 condV v41 (
 some v40) (
 (ldk none (List.drop 5 v1)).bind fun v42 =>
 (ldk none (List.drop 4 v1)).bind fun v43 =>
 (bin2 Try.prog BinOp.andNot 3 (ot 42) (ot 44) v42 v43).bind fun v44 =>
 (bin2 Try.prog BinOp.neq 3 (ot 45) (oc 0) v44 (vi 0)).bind fun v45 =>
 (guardV v45 false (some V.any)).bind fun v46 =>
 (guardV v45 false ((gate v45 false (ldk none (List.drop 3 v1))).bind fun v47 =>
 some v47)).bind fun v48 =>
 (guardV v45 false ((bin2 Try.prog BinOp.eql 3 (ot 49) (oc 0) v48 (vi 0)).bind fun v49 =>
 some v49)).bind fun v50 =>
 (guardV v45 false (some v50)).bind fun v51 =>
 (guardV v51 true (some V.any)).bind fun v52 =>
 (guardV v51 true ((gate v51 true (ldk none (List.drop 4 v1))).bind fun v53 =>
 some v53)).bind fun v54 =>
 (guardV v51 true ((bin2 Try.prog BinOp.neq 3 (ot 53) (oc 0) v54 (vi 0)).bind fun v55 =>
 some v55)).bind fun v56 =>
 (guardV v45 false ((pickV v51 v56 (vb false)).bind fun v57 =>
 some v57)).bind fun v58 =>
 (pickV v45 (vb true) v58).bind fun v59 =>
 condV v59 (
 (scal1 Try.prog (Instr.makeInterface 54) (vi 3)).bind fun v60 =>
 some v60) (
 some vn))) := by kernel_rfl
noncomputable def t_rule_Check (a0 : T_Rule) : Option Int :=
 (gd (!((((decide (a0.Prio < 0)) || (decide (99 < a0.Prio))) || (decide (a0.Out < 0))) || (decide (4 < a0.Out)))) default (t_cube_Header a0.Set)).bind fun r39 =>
 (gd (!(((((decide (a0.Prio < 0)) || (decide (99 < a0.Prio))) || (decide (a0.Out < 0))) || (decide (4 < a0.Out))) || (!r39))) default (t_cube_Header a0.Value)).bind fun r52 =>
 if ((((((decide (a0.Prio < 0)) || (decide (99 < a0.Prio))) || (decide (a0.Out < 0))) || (decide (4 < a0.Out))) || (!r39)) || (!r52)) = true then (
 some 1) else (
 (t_cube_Check a0.Cube).bind fun r61 =>
 if (!decide (r61 = 0)) = true then (
 some r61) else (
 if ((decide ((bits .andNot .i64 a0.Value a0.Set) ≠ 0)) || ((decide (a0.Out = 0)) && (decide (a0.Set ≠ 0)))) = true then (
 some 3) else (
 some 0)))
theorem ty_rule_Check {n : Nat} (hn : bigN ≤ n) (a0 : T_Rule) : Rv (fun x : Int => (eV x)) (sem_rule_Check n [(T_Rule.e a0)]) (t_rule_Check a0) := by
  rw [eq_rule_Check]
  unfold t_rule_Check
  refine tb (x := (T_Rule.c a0)) rfl ?_
  refine tb (x := (vi a0.Prio)) (rfl) ?_
  refine tb (x := (vb (decide (a0.Prio < 0)))) (d_lss) ?_
  refine tg_f (x := V.any) (fun h4 => rfl) ?_
  refine tg_f (x := (vi a0.Prio)) (fun h6 => bind_some_eq (gate_pos (not_t h6) (rfl))) ?_
  refine tg_f (x := (vb (decide (99 < a0.Prio)))) (fun h9 => by simp only [gv_t h9]; exact bind_some_eq (d_gtr)) ?_
  refine tb (x := (vb ((decide (a0.Prio < 0)) || (decide (99 < a0.Prio))))) (pick_or (fun h9 => gv_t (not_f h9))) ?_
  refine tg_f (x := V.any) (fun h13 => rfl) ?_
  refine tg_f (x := (vi a0.Out)) (fun h15 => bind_some_eq (gate_pos (not_t h15) (rfl))) ?_
  refine tg_f (x := (vb (decide (a0.Out < 0)))) (fun h18 => by simp only [gv_t h18]; exact bind_some_eq (d_lss)) ?_
  refine tb (x := (vb (((decide (a0.Prio < 0)) || (decide (99 < a0.Prio))) || (decide (a0.Out < 0))))) (pick_or (fun h9 => gv_t (not_f h9))) ?_
  refine tg_f (x := V.any) (fun h22 => rfl) ?_
  refine tg_f (x := (vi a0.Out)) (fun h24 => bind_some_eq (gate_pos (not_t h24) (rfl))) ?_
  refine tg_f (x := (vb (decide (4 < a0.Out)))) (fun h27 => by simp only [gv_t h27]; exact bind_some_eq (d_gtr)) ?_
  refine tb (x := (vb ((((decide (a0.Prio < 0)) || (decide (99 < a0.Prio))) || (decide (a0.Out < 0))) || (decide (4 < a0.Out))))) (pick_or (fun h9 => gv_t (not_f h9))) ?_
  refine tg_f (x := V.any) (fun h31 => rfl) ?_
  refine tg_f (x := (vi a0.Set)) (fun h33 => bind_some_eq (gate_pos (not_t h33) (rfl))) ?_
  refine tgo_f (fun h36 => by simp only [gv_t h36]; exact rf_bind_some (ty_cube_Header hn a0.Set)) fun r39 => ?_
  refine tg_f (x := (vb (!r39))) (fun h40 => by simp only [gv_t h40]; exact bind_some_eq (d_not)) ?_
  refine tb (x := (vb (((((decide (a0.Prio < 0)) || (decide (99 < a0.Prio))) || (decide (a0.Out < 0))) || (decide (4 < a0.Out))) || (!r39)))) (pick_or (fun h9 => gv_t (not_f h9))) ?_
  refine tg_f (x := V.any) (fun h44 => rfl) ?_
  refine tg_f (x := (vi a0.Value)) (fun h46 => bind_some_eq (gate_pos (not_t h46) (rfl))) ?_
  refine tgo_f (fun h49 => by simp only [gv_t h49]; exact rf_bind_some (ty_cube_Header hn a0.Value)) fun r52 => ?_
  refine tg_f (x := (vb (!r52))) (fun h53 => by simp only [gv_t h53]; exact bind_some_eq (d_not)) ?_
  refine tb (x := (vb ((((((decide (a0.Prio < 0)) || (decide (99 < a0.Prio))) || (decide (a0.Out < 0))) || (decide (4 < a0.Out))) || (!r39)) || (!r52)))) (pick_or (fun h9 => gv_t (not_f h9))) ?_
  refine tcond (fun h57 => ?_) (fun h57 => ?_)
  · refine tb (x := (eV 1)) (p_mkE (by decide)) ?_
    exact rf_ret rfl
  · refine tb (x := (T_Cube.e a0.Cube)) (rfl) ?_
    refine tbo (ty_cube_Check hn a0.Cube) fun r61 => ?_
    refine tb (x := (vb (!decide (r61 = 0)))) (p_err_neq _) ?_
    refine tcond (fun h63 => ?_) (fun h63 => ?_)
    · exact rf_ret rfl
    · refine tb (x := (vi a0.Value)) (rfl) ?_
      refine tb (x := (vi a0.Set)) (rfl) ?_
      refine tb (x := (vi (bits .andNot .i64 a0.Value a0.Set))) (d_andNot) ?_
      refine tb (x := (vb (decide ((bits .andNot .i64 a0.Value a0.Set) ≠ 0)))) (d_neq) ?_
      refine tg_f (x := V.any) (fun h68 => rfl) ?_
      refine tg_f (x := (vi a0.Out)) (fun h70 => bind_some_eq (gate_pos (not_t h70) (rfl))) ?_
      refine tg_f (x := (vb (decide (a0.Out = 0)))) (fun h73 => by simp only [gv_t h73]; exact bind_some_eq (d_eql)) ?_
      refine tg_f (x := (vb (decide (a0.Out = 0)))) (fun h76 => congrArg some (gv_t h76)) ?_
      refine tg2 (x := V.any) (fun h78 => rfl) ?_
      refine tg2 (x := (vi a0.Set)) (fun h80 => bind_some_eq (gate_pos2 (and_l h80) (and_r h80) (rfl))) ?_
      refine tg2 (x := (vb (decide (a0.Set ≠ 0)))) (fun h83 => by simp only [gv_t h83]; exact bind_some_eq (d_neq)) ?_
      refine tg_f (x := (vb ((decide (a0.Out = 0)) && (decide (a0.Set ≠ 0))))) (fun h86 => by simp only [gv_t h86]; exact bind_some_eq (pick_and (fun h9 => gv_t (and_i h86 h9)))) ?_
      refine tb (x := (vb ((decide ((bits .andNot .i64 a0.Value a0.Set) ≠ 0)) || ((decide (a0.Out = 0)) && (decide (a0.Set ≠ 0)))))) (pick_or (fun h9 => gv_t (not_f h9))) ?_
      refine tcond (fun h90 => ?_) (fun h90 => ?_)
      · refine tb (x := (eV 3)) (p_mkE (by decide)) ?_
        exact rf_ret rfl
      · exact rf_ret rfl

/-! slices.IndexFunc railpoint/api.Table railpoint/api.Rule  -/
def an_slices_IndexFunc_api_Table_api_Rule : Ann := .seq (.reg 0 [] [] []) (.seq (.seq (.reg 0 [] [] []) (.blk (some []) (.loop [.s 8] (.seq (.reg 0 [] [] []) (.seq (.cond none (.no) (.no)) (.seq (.blk none (.seq (.reg 0 [] [] []) (.seq (.reg 0 [] [] []) (.cond none (.seq (.reg 0 [] [] []) (.no)) (.no))))) (.reg 0 [] [] []))))))) (.seq (.reg 0 [] [] []) (.no)))
noncomputable def sem_slices_IndexFunc_api_Table_api_Rule (E : FuncId → List V → Option V) (n : Nat) (xs : List V) : Option V := if xs.length ≤ 19 then denF Try.prog (envJ [] E) n Try.f27 an_slices_IndexFunc_api_Table_api_Rule xs else none
theorem ok_slices_IndexFunc_api_Table_api_Rule {E : FuncId → List V → Option V} (hE : EnvOk Try.prog DW E) (n : Nat) : SemOk Try.prog DW 27 (sem_slices_IndexFunc_api_Table_api_Rule E n) := fun xs y h => by
  unfold sem_slices_IndexFunc_api_Table_api_Rule at h
  split at h
  · rename_i hl
    exact denF_ok stb Try.func27 (by kernel_rfl) (envJ_ok semsOk_nil hE) (by rw [Try.ntmps27]; exact hl) h
  · cases h
theorem eq_slices_IndexFunc_api_Table_api_Rule (E : FuncId → List V → Option V) (n : Nat) (x0 x1 : V) : sem_slices_IndexFunc_api_Table_api_Rule E n [x0, x1] =
 (lenS [x0]).bind fun v1 =>
 JoinPt (fun vs2 =>
 some (vi (-1 : Int))) fun J3 =>
 (fixN (fun rec4 vs5 =>
 (bin2 Try.prog BinOp.lss 3 (ot 8) (ot 7) (List.getD vs5 0 V.any) v1).bind fun v6 =>
 condV v6 (
 (idxS 6 x0 (List.getD vs5 0 V.any)).bind fun v7 =>
 (ldp (some 6) v7).bind fun v8 =>
 (callV (envJ [] E) x1 [v8]).bind fun v9 =>
 condV v9 (
 some (List.getD vs5 0 V.any)) (
 (bin2 Try.prog BinOp.add 3 (ot 8) (oc 1) (List.getD vs5 0 V.any) (vi 1)).bind fun v10 =>
 rec4 [v10])) (
 J3 [])) n) [(vi 0)] := by kernel_rfl
noncomputable def t_slices_IndexFunc_api_Table_api_Rule (a0 : (List T_Rule)) (g1 : T_Rule → Option Bool) : Option Int :=
 join (fun (s4 : Unit) =>
 some (-1 : Int)) fun j5 =>
 loopI a0 (fun (i13 : Int) x14 (s9 : Unit) k10 =>
 (g1 x14).bind fun r22 =>
 if r22 = true then (
 some i13) else (
 k10 ())) (fun (s9 : Unit) =>
 j5 ()) ()
theorem ty_slices_IndexFunc_api_Table_api_Rule {E : FuncId → List V → Option V} {n : Nat} (hn : bigN ≤ n) (a0 : (List T_Rule)) {x1 : V} {g1 : T_Rule → Option Bool} (hg_g1 : ∀ a0, Rv (fun x : Bool => (vb x)) (callV E x1 [(T_Rule.e a0)]) (g1 a0)) : Rv (fun x : Int => (vi x)) (sem_slices_IndexFunc_api_Table_api_Rule E n [(V.sl (List.map T_Rule.c a0)), x1]) (t_slices_IndexFunc_api_Table_api_Rule a0 g1) := by
  rw [eq_slices_IndexFunc_api_Table_api_Rule]
  unfold t_slices_IndexFunc_api_Table_api_Rule
  refine tb (x := (vi (List.length a0 : Int))) (p_len _) ?_
  refine tjoin (mk := fun s4 : Unit => []) (fun s4 => ?_) fun J3 j5 h6 => ?_
  · exact rf_ret rfl
  · refine rf_loopI (mk := fun (i13 : Int) (s9 : Unit) => [(vi (i13 : Int))]) hn a0 () (fun i13 x14 h15 h16 h17 s9 rec7 k10 h11 => ?_) (fun s9 rec26 h25 => ?_)
    · refine tb (x := (vb (decide ((i13 : Int) < (List.length a0 : Int))))) (d_lss) ?_
      refine tcond_t h17 ?_
      refine tb (x := (V.ptr (T_Rule.c x14))) (p_idx_at (c := T_Rule.c) (fun _ => rfl) h15) ?_
      refine tb (x := (T_Rule.e x14)) (rfl) ?_
      refine tbo ((callV_J0 ▸ hg_g1 x14)) fun r22 => ?_
      refine tcond (fun h23 => ?_) (fun h23 => ?_)
      · exact rf_ret rfl
      · refine tb (x := (vi ((i13 : Int) + 1))) (p_incN h16) ?_
        exact h11 ()
    · refine tb (x := (vb (decide ((List.length a0 : Int) < (List.length a0 : Int))))) (d_lss) ?_
      refine tcond_f h25 ?_
      exact h6 ()

/-! slices.ContainsFunc railpoint/api.Table railpoint/api.Rule  -/
def an_slices_ContainsFunc_api_Table_api_Rule : Ann := .seq (.reg 0 [] [] []) (.seq (.reg 0 [] [] []) (.no))
noncomputable def sem_slices_ContainsFunc_api_Table_api_Rule (E : FuncId → List V → Option V) (n : Nat) (xs : List V) : Option V := if xs.length ≤ 9 then denF Try.prog (envJ [(27, (sem_slices_IndexFunc_api_Table_api_Rule E n))] E) n Try.f17 an_slices_ContainsFunc_api_Table_api_Rule xs else none
theorem ok_slices_ContainsFunc_api_Table_api_Rule {E : FuncId → List V → Option V} (hE : EnvOk Try.prog DW E) (n : Nat) : SemOk Try.prog DW 17 (sem_slices_ContainsFunc_api_Table_api_Rule E n) := fun xs y h => by
  unfold sem_slices_ContainsFunc_api_Table_api_Rule at h
  split at h
  · rename_i hl
    exact denF_ok stb Try.func17 (by kernel_rfl) (envJ_ok (semsOk_cons (ok_slices_IndexFunc_api_Table_api_Rule hE n) semsOk_nil) hE) (by rw [Try.ntmps17]; exact hl) h
  · cases h
theorem eq_slices_ContainsFunc_api_Table_api_Rule (E : FuncId → List V → Option V) (n : Nat) (x0 x1 : V) : sem_slices_ContainsFunc_api_Table_api_Rule E n [x0, x1] =
 ((sem_slices_IndexFunc_api_Table_api_Rule E n) [x0, x1]).bind fun v1 =>
 (bin2 Try.prog BinOp.geq 3 (ot 7) (oc 0) v1 (vi 0)).bind fun v2 =>
 some v2 := by kernel_rfl
noncomputable def t_slices_ContainsFunc_api_Table_api_Rule (a0 : (List T_Rule)) (g1 : T_Rule → Option Bool) : Option Bool :=
 (t_slices_IndexFunc_api_Table_api_Rule a0 g1).bind fun r2 =>
 some (decide (0 ≤ r2))
theorem ty_slices_ContainsFunc_api_Table_api_Rule {E : FuncId → List V → Option V} {n : Nat} (hn : bigN ≤ n) (a0 : (List T_Rule)) {x1 : V} {g1 : T_Rule → Option Bool} (hg_g1 : ∀ a0, Rv (fun x : Bool => (vb x)) (callV E x1 [(T_Rule.e a0)]) (g1 a0)) : Rv (fun x : Bool => (vb x)) (sem_slices_ContainsFunc_api_Table_api_Rule E n [(V.sl (List.map T_Rule.c a0)), x1]) (t_slices_ContainsFunc_api_Table_api_Rule a0 g1) := by
  rw [eq_slices_ContainsFunc_api_Table_api_Rule]
  unfold t_slices_ContainsFunc_api_Table_api_Rule
  refine tbo (ty_slices_IndexFunc_api_Table_api_Rule (E := E) (x1 := x1) (g1 := g1) hn a0 hg_g1) fun r2 => ?_
  refine tb (x := (vb (decide (0 ≤ r2)))) (d_geq) ?_
  exact rf_ret rfl

/-! railpoint/rule.Key -/
def an_rule_Key : Ann := .seq (.reg 0 [] [] []) (.seq (.reg 0 [] [] []) (.no))
noncomputable def sem_rule_Key (n : Nat) (xs : List V) : Option V := if xs.length ≤ 17 then denF Try.prog (envOf []) n Try.f19 an_rule_Key xs else none
theorem ok_rule_Key (n : Nat) : SemOk Try.prog DW 19 (sem_rule_Key n) := fun xs y h => by
  unfold sem_rule_Key at h
  split at h
  · rename_i hl
    exact denF_ok stb Try.func19 (by kernel_rfl) (envOf_ok semsOk_nil) (by rw [Try.ntmps19]; exact hl) h
  · cases h
theorem eq_rule_Key (n : Nat) (x0 x1 : V) : sem_rule_Key n [x0, x1] =
 (V.cellsO x0).bind fun v1 =>
 (V.cellsO x1).bind fun v2 =>
 (ldk none (List.drop 0 v1)).bind fun v3 =>
 (ldk none (List.drop 0 v2)).bind fun v4 =>
 (bin2 Try.prog BinOp.eql 3 (ot 6) (ot 8) v3 v4).bind fun v5 =>
 (guardV v5 true (some V.any)).bind fun v6 =>
 (guardV v5 true ((gate v5 true (ldk (some 2) (List.drop 1 v1))).bind fun v7 =>
 some v7)).bind fun v8 =>
 (guardV v5 true (some V.any)).bind fun v9 =>
 (guardV v5 true ((gate v5 true (ldk (some 2) (List.drop 1 v2))).bind fun v10 =>
 some v10)).bind fun v11 =>
 (guardV v5 true ((bin2 Try.prog BinOp.eql 35 (ot 12) (ot 14) v8 v11).bind fun v12 =>
 some v12)).bind fun v13 =>
 (pickV v5 v13 (vb false)).bind fun v14 =>
 some v14 := by kernel_rfl
noncomputable def t_rule_Key (a0 : T_Rule) (a1 : T_Rule) : Option Bool :=
 some ((decide (a0.Prio = a1.Prio)) && (decide (a0.Cube = a1.Cube)))
theorem ty_rule_Key {n : Nat} (hn : bigN ≤ n) (a0 : T_Rule) (a1 : T_Rule) : Rv (fun x : Bool => (vb x)) (sem_rule_Key n [(T_Rule.e a0), (T_Rule.e a1)]) (t_rule_Key a0 a1) := by
  rw [eq_rule_Key]
  unfold t_rule_Key
  refine tb (x := (T_Rule.c a0)) rfl ?_
  refine tb (x := (T_Rule.c a1)) rfl ?_
  refine tb (x := (vi a0.Prio)) (rfl) ?_
  refine tb (x := (vi a1.Prio)) (rfl) ?_
  refine tb (x := (vb (decide (a0.Prio = a1.Prio)))) (d_eql) ?_
  refine tg (x := V.any) (fun h6 => rfl) ?_
  refine tg (x := (T_Cube.e a0.Cube)) (fun h8 => bind_some_eq (gate_pos h8 (rfl))) ?_
  refine tg (x := V.any) (fun h11 => rfl) ?_
  refine tg (x := (T_Cube.e a1.Cube)) (fun h13 => bind_some_eq (gate_pos h13 (rfl))) ?_
  refine tg (x := (vb (decide (a0.Cube = a1.Cube)))) (fun h16 => by simp only [gv_t h16]; exact bind_some_eq (T_Cube.eql a0.Cube a1.Cube)) ?_
  refine tb (x := (vb ((decide (a0.Prio = a1.Prio)) && (decide (a0.Cube = a1.Cube))))) (pick_and (fun h9 => gv_t h9)) ?_
  exact rf_ret rfl

/-! railpoint/rule.Table$1 -/
def an_rule_Table_1 : Ann := .seq (.reg 0 [] [] []) (.seq (.reg 0 [] [] []) (.no))
noncomputable def sem_rule_Table_1 (n : Nat) (xs : List V) : Option V := if xs.length ≤ 7 then denF Try.prog (envOf [(19, (sem_rule_Key n))]) n Try.f18 an_rule_Table_1 xs else none
theorem ok_rule_Table_1 (n : Nat) : SemOk Try.prog DW 18 (sem_rule_Table_1 n) := fun xs y h => by
  unfold sem_rule_Table_1 at h
  split at h
  · rename_i hl
    exact denF_ok stb Try.func18 (by kernel_rfl) (envOf_ok (semsOk_cons (ok_rule_Key n) semsOk_nil)) (by rw [Try.ntmps18]; exact hl) h
  · cases h
theorem eq_rule_Table_1 (n : Nat) (x0 x1 : V) : sem_rule_Table_1 n [x0, x1] =
 (V.cellsO x0).bind fun v1 =>
 (ldk (some 6) (List.drop 0 v1)).bind fun v2 =>
 (ldp (some 6) x1).bind fun v3 =>
 ((sem_rule_Key n) [v2, v3]).bind fun v4 =>
 some v4 := by kernel_rfl
noncomputable def t_rule_Table_1 (a0 : T_Rule) (a1 : T_Rule) : Option Bool :=
 (t_rule_Key a0 a1).bind fun r5 =>
 some r5
theorem ty_rule_Table_1 {n : Nat} (hn : bigN ≤ n) (a0 : T_Rule) (a1 : T_Rule) : Rv (fun x : Bool => (vb x)) (sem_rule_Table_1 n [(T_Rule.e a0), (V.ptr (T_Rule.c a1))]) (t_rule_Table_1 a0 a1) := by
  rw [eq_rule_Table_1]
  unfold t_rule_Table_1
  refine tb (x := (T_Rule.c a0)) rfl ?_
  refine tb (x := (T_Rule.e a0)) (rfl) ?_
  refine tb (x := (T_Rule.e a1)) (rfl) ?_
  refine tbo (ty_rule_Key hn a0 a1) fun r5 => ?_
  exact rf_ret rfl

/-! railpoint/rule.Table -/
def an_rule_Table : Ann := .seq (.reg 0 [] [] []) (.seq (.seq (.reg 0 [] [] []) (.cond none (.seq (.reg 0 [] [] []) (.no)) (.no))) (.seq (.seq (.reg 0 [] [] []) (.blk (some []) (.loop [.s 12] (.seq (.reg 0 [] [] []) (.seq (.cond none (.no) (.no)) (.seq (.blk none (.seq (.reg 0 [] [] []) (.seq (.seq (.reg 0 [4] [] []) (.seq (.reg 0 [] [] []) (.cond none (.seq (.reg 0 [] [] []) (.no)) (.no)))) (.seq (.reg 0 [] [] []) (.cond none (.seq (.reg 0 [] [] []) (.no)) (.no)))))) (.reg 0 [] [] []))))))) (.seq (.reg 0 [] [] []) (.no))))
noncomputable def sem_rule_Table (n : Nat) (xs : List V) : Option V := if xs.length ≤ 29 then denF Try.prog (envOf [(16, (sem_rule_Check n)), (17, (sem_slices_ContainsFunc_api_Table_api_Rule (envOf [(18, (sem_rule_Table_1 n))]) n)), (18, (sem_rule_Table_1 n))]) n Try.f9 an_rule_Table xs else none
theorem ok_rule_Table (n : Nat) : SemOk Try.prog DW 9 (sem_rule_Table n) := fun xs y h => by
  unfold sem_rule_Table at h
  split at h
  · rename_i hl
    exact denF_ok stb Try.func9 (by kernel_rfl) (envOf_ok (semsOk_cons (ok_rule_Check n) (semsOk_cons (ok_slices_ContainsFunc_api_Table_api_Rule (envOf_ok (semsOk_cons (ok_rule_Table_1 n) semsOk_nil)) n) (semsOk_cons (ok_rule_Table_1 n) semsOk_nil)))) (by rw [Try.ntmps9]; exact hl) h
  · cases h
theorem eq_rule_Table (n : Nat) (x0 : V) : sem_rule_Table n [x0] =
 (lenS [x0]).bind fun v1 =>
 (bin2 Try.prog BinOp.gtr 3 (ot 7) (oc 12) v1 (vi 12)).bind fun v2 =>
 condV v2 (
 (scal1 Try.prog (Instr.makeInterface 54) (vi 4)).bind fun v3 =>
 some v3) (
 (lenS [x0]).bind fun v4 =>
 JoinPt (fun vs5 =>
 some vn) fun J6 =>
 (fixN (fun rec7 vs8 =>
 (bin2 Try.prog BinOp.lss 3 (ot 12) (ot 11) (List.getD vs8 0 V.any) v4).bind fun v9 =>
 condV v9 (
 (idxS 6 x0 (List.getD vs8 0 V.any)).bind fun v10 =>
 (ldp (some 6) v10).bind fun v11 =>
 (spliceV [(vi 0), (vi 0), (vi 0), (vi 0), (vi 0), (vi 0)] 0 6 v11).bind fun v12 =>
 (ldp (some 6) (V.ptr (aggL v12))).bind fun v13 =>
 ((sem_rule_Check n) [v13]).bind fun v14 =>
 (bin2 Try.prog BinOp.neq 31 (ot 19) (Operand.const Go.Value.nilIface) v14 vn).bind fun v15 =>
 condV v15 (
 some v14) (
 (slc (some 6) x0 none (some (List.getD vs8 0 V.any))).bind fun v16 =>
 ((sem_slices_ContainsFunc_api_Table_api_Rule (envOf [(18, (sem_rule_Table_1 n))]) n) [v16, (V.fn 18 [(V.ptr (aggL v12))])]).bind fun v17 =>
 condV v17 (
 (scal1 Try.prog (Instr.makeInterface 54) (vi 7)).bind fun v18 =>
 some v18) (
 (bin2 Try.prog BinOp.add 3 (ot 12) (oc 1) (List.getD vs8 0 V.any) (vi 1)).bind fun v19 =>
 rec7 [v19]))) (
 J6 [])) n) [(vi 0)]) := by kernel_rfl
noncomputable def t_rule_Table (a0 : (List T_Rule)) : Option Int :=
 if (decide (12 < (List.length a0 : Int))) = true then (
 some 4) else (
 join (fun (s8 : Unit) =>
 some 0) fun j9 =>
 loopI a0 (fun (i17 : Int) x18 (s13 : Unit) k14 =>
 (t_rule_Check x18).bind fun r28 =>
 if (!decide (r28 = 0)) = true then (
 some r28) else (
 (slc_hi a0 i17).bind fun r32 =>
 (t_slices_ContainsFunc_api_Table_api_Rule r32 (fun (a33 : T_Rule) => t_rule_Table_1 a33 x18)).bind fun r35 =>
 if r35 = true then (
 some 7) else (
 k14 ()))) (fun (s13 : Unit) =>
 j9 ()) ())
theorem ty_rule_Table {n : Nat} (hn : bigN ≤ n) (a0 : (List T_Rule)) : Rv (fun x : Int => (eV x)) (sem_rule_Table n [(V.sl (List.map T_Rule.c a0))]) (t_rule_Table a0) := by
  rw [eq_rule_Table]
  unfold t_rule_Table
  refine tb (x := (vi (List.length a0 : Int))) (p_len _) ?_
  refine tb (x := (vb (decide (12 < (List.length a0 : Int))))) (d_gtr) ?_
  refine tcond (fun h3 => ?_) (fun h3 => ?_)
  · refine tb (x := (eV 4)) (p_mkE (by decide)) ?_
    exact rf_ret rfl
  · refine tb (x := (vi (List.length a0 : Int))) (p_len _) ?_
    refine tjoin (mk := fun s8 : Unit => []) (fun s8 => ?_) fun J7 j9 h10 => ?_
    · exact rf_ret rfl
    · refine rf_loopI (mk := fun (i17 : Int) (s13 : Unit) => [(vi (i17 : Int))]) hn a0 () (fun i17 x18 h19 h20 h21 s13 rec11 k14 h15 => ?_) (fun s13 rec40 h39 => ?_)
      · refine tb (x := (vb (decide ((i17 : Int) < (List.length a0 : Int))))) (d_lss) ?_
        refine tcond_t h21 ?_
        refine tb (x := (V.ptr (T_Rule.c x18))) (p_idx_at (c := T_Rule.c) (fun _ => rfl) h19) ?_
        refine tb (x := (T_Rule.e x18)) (rfl) ?_
        refine tb (x := V.agg (T_Rule.c x18)) (by kernel_rfl) ?_
        refine tb (x := (T_Rule.e x18)) (rfl) ?_
        refine tbo (ty_rule_Check hn x18) fun r28 => ?_
        refine tb (x := (vb (!decide (r28 = 0)))) (p_err_neq _) ?_
        refine tcond (fun h30 => ?_) (fun h30 => ?_)
        · exact rf_ret rfl
        · refine tbo (p_slc_hi (c := T_Rule.c) (fun _ => rfl) a0 (i17 : Int)) fun r32 => ?_
          refine tbo (ty_slices_ContainsFunc_api_Table_api_Rule (E := (envOf [(18, (sem_rule_Table_1 n))])) (x1 := (V.fn 18 [(V.ptr (T_Rule.c x18))])) (g1 := (fun (a33 : T_Rule) => t_rule_Table_1 a33 x18)) hn r32 (fun a33 => ty_rule_Table_1 hn a33 x18)) fun r35 => ?_
          refine tcond (fun h36 => ?_) (fun h36 => ?_)
          · refine tb (x := (eV 7)) (p_mkE (by decide)) ?_
            exact rf_ret rfl
          · refine tb (x := (vi ((i17 : Int) + 1))) (p_incN h20) ?_
            exact h15 ()
      · refine tb (x := (vb (decide ((List.length a0 : Int) < (List.length a0 : Int))))) (d_lss) ?_
        refine tcond_f h39 ?_
        exact h10 ()

/-! slices.IndexFunc     int   int  -/
def an_slices_IndexFunc_int_int : Ann := .seq (.reg 0 [] [] []) (.seq (.seq (.reg 0 [] [] []) (.blk (some []) (.loop [.s 8] (.seq (.reg 0 [] [] []) (.seq (.cond none (.no) (.no)) (.seq (.blk none (.seq (.reg 0 [] [] []) (.seq (.reg 0 [] [] []) (.cond none (.seq (.reg 0 [] [] []) (.no)) (.no))))) (.reg 0 [] [] []))))))) (.seq (.reg 0 [] [] []) (.no)))
noncomputable def sem_slices_IndexFunc_int_int (E : FuncId → List V → Option V) (n : Nat) (xs : List V) : Option V := if xs.length ≤ 19 then denF Try.prog (envJ [] E) n Try.f20 an_slices_IndexFunc_int_int xs else none
theorem ok_slices_IndexFunc_int_int {E : FuncId → List V → Option V} (hE : EnvOk Try.prog DW E) (n : Nat) : SemOk Try.prog DW 20 (sem_slices_IndexFunc_int_int E n) := fun xs y h => by
  unfold sem_slices_IndexFunc_int_int at h
  split at h
  · rename_i hl
    exact denF_ok stb Try.func20 (by kernel_rfl) (envJ_ok semsOk_nil hE) (by rw [Try.ntmps20]; exact hl) h
  · cases h
theorem eq_slices_IndexFunc_int_int (E : FuncId → List V → Option V) (n : Nat) (x0 x1 : V) : sem_slices_IndexFunc_int_int E n [x0, x1] =
 (lenS [x0]).bind fun v1 =>
 JoinPt (fun vs2 =>
 some (vi (-1 : Int))) fun J3 =>
 (fixN (fun rec4 vs5 =>
 (bin2 Try.prog BinOp.lss 3 (ot 8) (ot 7) (List.getD vs5 0 V.any) v1).bind fun v6 =>
 condV v6 (
 (idxS 1 x0 (List.getD vs5 0 V.any)).bind fun v7 =>
 (ldp none v7).bind fun v8 =>
 (callV (envJ [] E) x1 [v8]).bind fun v9 =>
 condV v9 (
 some (List.getD vs5 0 V.any)) (
 (bin2 Try.prog BinOp.add 3 (ot 8) (oc 1) (List.getD vs5 0 V.any) (vi 1)).bind fun v10 =>
 rec4 [v10])) (
 J3 [])) n) [(vi 0)] := by kernel_rfl
noncomputable def t_slices_IndexFunc_int_int (a0 : (List (List Int))) (g1 : (List Int) → Option Bool) : Option Int :=
 join (fun (s4 : Unit) =>
 some (-1 : Int)) fun j5 =>
 loopI a0 (fun (i13 : Int) x14 (s9 : Unit) k10 =>
 (g1 x14).bind fun r22 =>
 if r22 = true then (
 some i13) else (
 k10 ())) (fun (s9 : Unit) =>
 j5 ()) ()
theorem ty_slices_IndexFunc_int_int {E : FuncId → List V → Option V} {n : Nat} (hn : bigN ≤ n) (a0 : (List (List Int))) {x1 : V} {g1 : (List Int) → Option Bool} (hg_g1 : ∀ a0, Rv (fun x : Bool => (vb x)) (callV E x1 [(V.sl (List.map cI a0))]) (g1 a0)) : Rv (fun x : Int => (vi x)) (sem_slices_IndexFunc_int_int E n [(V.sl (List.map (cS cI) a0)), x1]) (t_slices_IndexFunc_int_int a0 g1) := by
  rw [eq_slices_IndexFunc_int_int]
  unfold t_slices_IndexFunc_int_int
  refine tb (x := (vi (List.length a0 : Int))) (p_len _) ?_
  refine tjoin (mk := fun s4 : Unit => []) (fun s4 => ?_) fun J3 j5 h6 => ?_
  · exact rf_ret rfl
  · refine rf_loopI (mk := fun (i13 : Int) (s9 : Unit) => [(vi (i13 : Int))]) hn a0 () (fun i13 x14 h15 h16 h17 s9 rec7 k10 h11 => ?_) (fun s9 rec26 h25 => ?_)
    · refine tb (x := (vb (decide ((i13 : Int) < (List.length a0 : Int))))) (d_lss) ?_
      refine tcond_t h17 ?_
      refine tb (x := (V.ptr [(V.sl (List.map cI x14))])) (p_idx_at (c := (cS cI)) (fun _ => rfl) h15) ?_
      refine tb (x := (V.sl (List.map cI x14))) (rfl) ?_
      refine tbo ((callV_J0 ▸ hg_g1 x14)) fun r22 => ?_
      refine tcond (fun h23 => ?_) (fun h23 => ?_)
      · exact rf_ret rfl
      · refine tb (x := (vi ((i13 : Int) + 1))) (p_incN h16) ?_
        exact h11 ()
    · refine tb (x := (vb (decide ((List.length a0 : Int) < (List.length a0 : Int))))) (d_lss) ?_
      refine tcond_f h25 ?_
      exact h6 ()

/-! cmp.isNaN int  -/
def an_cmp_isNaN_int : Ann := .seq (.reg 0 [] [] []) (.seq (.reg 0 [] [] []) (.no))
noncomputable def sem_cmp_isNaN_int (n : Nat) (xs : List V) : Option V := if xs.length ≤ 6 then denF Try.prog (envOf []) n Try.f33 an_cmp_isNaN_int xs else none
theorem ok_cmp_isNaN_int (n : Nat) : SemOk Try.prog DW 33 (sem_cmp_isNaN_int n) := fun xs y h => by
  unfold sem_cmp_isNaN_int at h
  split at h
  · rename_i hl
    exact denF_ok stb Try.func33 (by kernel_rfl) (envOf_ok semsOk_nil) (by rw [Try.ntmps33]; exact hl) h
  · cases h
theorem eq_cmp_isNaN_int (n : Nat) (x0 : V) : sem_cmp_isNaN_int n [x0] =
 (bin2 Try.prog BinOp.neq 3 (ot 3) (ot 4) x0 x0).bind fun v1 =>
 some v1 := by kernel_rfl
noncomputable def t_cmp_isNaN_int (a0 : Int) : Option Bool :=
 some (decide (a0 ≠ a0))
theorem ty_cmp_isNaN_int {n : Nat} (hn : bigN ≤ n) (a0 : Int) : Rv (fun x : Bool => (vb x)) (sem_cmp_isNaN_int n [(vi a0)]) (t_cmp_isNaN_int a0) := by
  rw [eq_cmp_isNaN_int]
  unfold t_cmp_isNaN_int
  refine tb (x := (vb (decide (a0 ≠ a0)))) (d_neq) ?_
  exact rf_ret rfl

/-! cmp.Compare int  -/
def an_cmp_Compare_int : Ann := .seq (.reg 0 [] [] []) (.seq (.reg 0 [] [] []) (.seq (.reg 0 [] [] []) (.seq (.seq (.reg 0 [] [] []) (.cond none (.seq (.seq (.reg 0 [] [] []) (.cond none (.seq (.reg 0 [] [] []) (.no)) (.no))) (.seq (.reg 0 [] [] []) (.no))) (.no))) (.seq (.seq (.reg 0 [] [] []) (.cond none (.seq (.reg 0 [] [] []) (.no)) (.no))) (.seq (.seq (.reg 0 [] [] []) (.cond none (.seq (.reg 0 [] [] []) (.no)) (.no))) (.seq (.seq (.reg 0 [] [] []) (.cond none (.seq (.reg 0 [] [] []) (.no)) (.no))) (.seq (.reg 0 [] [] []) (.no))))))))
noncomputable def sem_cmp_Compare_int (n : Nat) (xs : List V) : Option V := if xs.length ≤ 20 then denF Try.prog (envOf [(33, (sem_cmp_isNaN_int n))]) n Try.f32 an_cmp_Compare_int xs else none
theorem ok_cmp_Compare_int (n : Nat) : SemOk Try.prog DW 32 (sem_cmp_Compare_int n) := fun xs y h => by
  unfold sem_cmp_Compare_int at h
  split at h
  · rename_i hl
    exact denF_ok stb Try.func32 (by kernel_rfl) (envOf_ok (semsOk_cons (ok_cmp_isNaN_int n) semsOk_nil)) (by rw [Try.ntmps32]; exact hl) h
  · cases h
theorem eq_cmp_Compare_int (n : Nat) (x0 x1 : V) : sem_cmp_Compare_int n [x0, x1] =
 ((sem_cmp_isNaN_int n) [x0]).bind fun v1 =>
 ((sem_cmp_isNaN_int n) [x1]).bind fun v2 =>
 condV v1 (
 condV v2 (
 some (vi 0)) (
 some (vi (-1 : Int)))) (
 condV v2 (
 some (vi 1)) (
 (bin2 Try.prog BinOp.lss 3 (ot 14) (ot 15) x0 x1).bind fun v3 =>
 condV v3 (
 some (vi (-1 : Int))) (
 (bin2 Try.prog BinOp.gtr 3 (ot 17) (ot 18) x0 x1).bind fun v4 =>
 condV v4 (
 some (vi 1)) (
 some (vi 0))))) := by kernel_rfl
noncomputable def t_cmp_Compare_int (a0 : Int) (a1 : Int) : Option Int :=
 (t_cmp_isNaN_int a0).bind fun r2 =>
 (t_cmp_isNaN_int a1).bind fun r4 =>
 if r2 = true then (
 if r4 = true then (
 some 0) else (
 some (-1 : Int))) else (
 if r4 = true then (
 some 1) else (
 if (decide (a0 < a1)) = true then (
 some (-1 : Int)) else (
 if (decide (a1 < a0)) = true then (
 some 1) else (
 some 0))))
theorem ty_cmp_Compare_int {n : Nat} (hn : bigN ≤ n) (a0 : Int) (a1 : Int) : Rv (fun x : Int => (vi x)) (sem_cmp_Compare_int n [(vi a0), (vi a1)]) (t_cmp_Compare_int a0 a1) := by
  rw [eq_cmp_Compare_int]
  unfold t_cmp_Compare_int
  refine tbo (ty_cmp_isNaN_int hn a0) fun r2 => ?_
  refine tbo (ty_cmp_isNaN_int hn a1) fun r4 => ?_
  refine tcond (fun h5 => ?_) (fun h5 => ?_)
  · refine tcond (fun h6 => ?_) (fun h6 => ?_)
    · exact rf_ret rfl
    · exact rf_ret rfl
  · refine tcond (fun h7 => ?_) (fun h7 => ?_)
    · exact rf_ret rfl
    · refine tb (x := (vb (decide (a0 < a1)))) (d_lss) ?_
      refine tcond (fun h9 => ?_) (fun h9 => ?_)
      · exact rf_ret rfl
      · refine tb (x := (vb (decide (a1 < a0)))) (d_gtr) ?_
        refine tcond (fun h11 => ?_) (fun h11 => ?_)
        · exact rf_ret rfl
        · exact rf_ret rfl

/-! cmp.Or int  -/
def an_cmp_Or_int : Ann := .seq (.reg 0 [] [] []) (.seq (.reg 0 [] [] []) (.seq (.seq (.reg 0 [] [] []) (.blk (some []) (.loop [.s 8] (.seq (.reg 0 [] [] []) (.seq (.cond none (.no) (.no)) (.seq (.blk none (.seq (.reg 0 [] [] []) (.seq (.reg 0 [] [] []) (.cond none (.seq (.reg 0 [] [] []) (.no)) (.no))))) (.reg 0 [] [] []))))))) (.seq (.reg 0 [] [] []) (.no))))
noncomputable def sem_cmp_Or_int (n : Nat) (xs : List V) : Option V := if xs.length ≤ 18 then denF Try.prog (envOf []) n Try.f31 an_cmp_Or_int xs else none
theorem ok_cmp_Or_int (n : Nat) : SemOk Try.prog DW 31 (sem_cmp_Or_int n) := fun xs y h => by
  unfold sem_cmp_Or_int at h
  split at h
  · rename_i hl
    exact denF_ok stb Try.func31 (by kernel_rfl) (envOf_ok semsOk_nil) (by rw [Try.ntmps31]; exact hl) h
  · cases h
theorem eq_cmp_Or_int (n : Nat) (x0 : V) : sem_cmp_Or_int n [x0] =
 (lenS [x0]).bind fun v1 =>
 JoinPt (fun vs2 =>
 some (vi 0)) fun J3 =>
 (fixN (fun rec4 vs5 =>
 (bin2 Try.prog BinOp.lss 3 (ot 8) (ot 7) (List.getD vs5 0 V.any) v1).bind fun v6 =>
 condV v6 (
 (idxS 1 x0 (List.getD vs5 0 V.any)).bind fun v7 =>
 (ldp none v7).bind fun v8 =>
 (bin2 Try.prog BinOp.neq 3 (ot 12) (ot 13) v8 (vi 0)).bind fun v9 =>
 condV v9 (
 some v8) (
 (bin2 Try.prog BinOp.add 3 (ot 8) (oc 1) (List.getD vs5 0 V.any) (vi 1)).bind fun v10 =>
 rec4 [v10])) (
 J3 [])) n) [(vi 0)] := by kernel_rfl
noncomputable def t_cmp_Or_int (a0 : (List Int)) : Option Int :=
 join (fun (s4 : Unit) =>
 some 0) fun j5 =>
 loopI a0 (fun (i13 : Int) x14 (s9 : Unit) k10 =>
 if (decide (x14 ≠ 0)) = true then (
 some x14) else (
 k10 ())) (fun (s9 : Unit) =>
 j5 ()) ()
theorem ty_cmp_Or_int {n : Nat} (hn : bigN ≤ n) (a0 : (List Int)) : Rv (fun x : Int => (vi x)) (sem_cmp_Or_int n [(V.sl (List.map cI a0))]) (t_cmp_Or_int a0) := by
  rw [eq_cmp_Or_int]
  unfold t_cmp_Or_int
  refine tb (x := (vi (List.length a0 : Int))) (p_len _) ?_
  refine tjoin (mk := fun s4 : Unit => []) (fun s4 => ?_) fun J3 j5 h6 => ?_
  · exact rf_ret rfl
  · refine rf_loopI (mk := fun (i13 : Int) (s9 : Unit) => [(vi (i13 : Int))]) hn a0 () (fun i13 x14 h15 h16 h17 s9 rec7 k10 h11 => ?_) (fun s9 rec25 h24 => ?_)
    · refine tb (x := (vb (decide ((i13 : Int) < (List.length a0 : Int))))) (d_lss) ?_
      refine tcond_t h17 ?_
      refine tb (x := (V.ptr [(vi x14)])) (p_idx_at (c := cI) (fun _ => rfl) h15) ?_
      refine tb (x := (vi x14)) (rfl) ?_
      refine tb (x := (vb (decide (x14 ≠ 0)))) (d_neq) ?_
      refine tcond (fun h22 => ?_) (fun h22 => ?_)
      · exact rf_ret rfl
      · refine tb (x := (vi ((i13 : Int) + 1))) (p_incN h16) ?_
        exact h11 ()
    · refine tb (x := (vb (decide ((List.length a0 : Int) < (List.length a0 : Int))))) (d_lss) ?_
      refine tcond_f h24 ?_
      exact h6 ()

/-! railpoint/rule.above -/
def an_rule_above : Ann := .seq (.reg 0 [] [] []) (.seq (.reg 22 [] [] []) (.no))
noncomputable def sem_rule_above (n : Nat) (xs : List V) : Option V := if xs.length ≤ 26 then denF Try.prog (envOf [(32, (sem_cmp_Compare_int n)), (31, (sem_cmp_Or_int n))]) n Try.f30 an_rule_above xs else none
theorem ok_rule_above (n : Nat) : SemOk Try.prog DW 30 (sem_rule_above n) := fun xs y h => by
  unfold sem_rule_above at h
  split at h
  · rename_i hl
    exact denF_ok stb Try.func30 (by kernel_rfl) (envOf_ok (semsOk_cons (ok_cmp_Compare_int n) (semsOk_cons (ok_cmp_Or_int n) semsOk_nil))) (by rw [Try.ntmps30]; exact hl) h
  · cases h
theorem eq_rule_above (n : Nat) (x0 x1 : V) : sem_rule_above n [x0, x1] =
 (V.cellsO x0).bind fun v1 =>
 (V.cellsO x1).bind fun v2 =>
 (ldk none (List.drop 0 v1)).bind fun v3 =>
 (ldk none (List.drop 0 v2)).bind fun v4 =>
 ((sem_cmp_Compare_int n) [v3, v4]).bind fun v5 =>
 (ldk none (List.drop 1 v1)).bind fun v6 =>
 (ldk none (List.drop 1 v2)).bind fun v7 =>
 ((sem_cmp_Compare_int n) [v6, v7]).bind fun v8 =>
 (ldk none (List.drop 2 v1)).bind fun v9 =>
 (ldk none (List.drop 2 v2)).bind fun v10 =>
 ((sem_cmp_Compare_int n) [v9, v10]).bind fun v11 =>
 (slcB 1 3 [(vi 0)] [(0, v5), (1, v8), (2, v11)]).bind fun v12 =>
 ((sem_cmp_Or_int n) [v12]).bind fun v13 =>
 some v13 := by kernel_rfl
noncomputable def t_rule_above (a0 : T_Rule) (a1 : T_Rule) : Option Int :=
 (t_cmp_Compare_int a0.Prio a1.Prio).bind fun r6 =>
 (t_cmp_Compare_int a0.Cube.Mask a1.Cube.Mask).bind fun r10 =>
 (t_cmp_Compare_int a0.Cube.Bits a1.Cube.Bits).bind fun r14 =>
 (t_cmp_Or_int ([r6, r10, r14] : (List Int))).bind fun r17 =>
 some r17
theorem ty_rule_above {n : Nat} (hn : bigN ≤ n) (a0 : T_Rule) (a1 : T_Rule) : Rv (fun x : Int => (vi x)) (sem_rule_above n [(T_Rule.e a0), (T_Rule.e a1)]) (t_rule_above a0 a1) := by
  rw [eq_rule_above]
  unfold t_rule_above
  refine tb (x := (T_Rule.c a0)) rfl ?_
  refine tb (x := (T_Rule.c a1)) rfl ?_
  refine tb (x := (vi a0.Prio)) (rfl) ?_
  refine tb (x := (vi a1.Prio)) (rfl) ?_
  refine tbo (ty_cmp_Compare_int hn a0.Prio a1.Prio) fun r6 => ?_
  refine tb (x := (vi a0.Cube.Mask)) (rfl) ?_
  refine tb (x := (vi a1.Cube.Mask)) (rfl) ?_
  refine tbo (ty_cmp_Compare_int hn a0.Cube.Mask a1.Cube.Mask) fun r10 => ?_
  refine tb (x := (vi a0.Cube.Bits)) (rfl) ?_
  refine tb (x := (vi a1.Cube.Bits)) (rfl) ?_
  refine tbo (ty_cmp_Compare_int hn a0.Cube.Bits a1.Cube.Bits) fun r14 => ?_
  refine tb (x := (V.sl (List.map cI ([r6, r10, r14] : (List Int))))) (by kernel_rfl) ?_
  refine tbo (ty_cmp_Or_int hn ([r6, r10, r14] : (List Int))) fun r17 => ?_
  exact rf_ret rfl

/-! railpoint/rule.Find -/
def an_rule_Find : Ann := .seq (.reg 0 [] [] []) (.seq (.reg 0 [] [] []) (.seq (.seq (.reg 0 [] [] []) (.blk (some [.s 5]) (.loop [.s 5, .s 10] (.seq (.reg 0 [] [] []) (.seq (.cond none (.no) (.no)) (.seq (.blk none (.seq (.reg 0 [] [] []) (.seq (.reg 22 [] [] []) (.cond (some [.s 5]) (.reg 0 [] [] []) (.no))))) (.reg 0 [] [] []))))))) (.seq (.reg 0 [] [] []) (.no))))
noncomputable def sem_rule_Find (n : Nat) (xs : List V) : Option V := if xs.length ≤ 40 then denF Try.prog (envOf [(30, (sem_rule_above n))]) n Try.f25 an_rule_Find xs else none
theorem ok_rule_Find (n : Nat) : SemOk Try.prog DW 25 (sem_rule_Find n) := fun xs y h => by
  unfold sem_rule_Find at h
  split at h
  · rename_i hl
    exact denF_ok stb Try.func25 (by kernel_rfl) (envOf_ok (semsOk_cons (ok_rule_above n) semsOk_nil)) (by rw [Try.ntmps25]; exact hl) h
  · cases h
theorem eq_rule_Find (n : Nat) (x0 x1 : V) : sem_rule_Find n [x0, x1] =
 (lenS [x0]).bind fun v1 =>
 JoinPt (fun vs2 =>
 some (List.getD vs2 0 V.any)) fun J3 =>
 (fixN (fun rec4 vs5 =>
 (bin2 Try.prog BinOp.lss 3 (ot 10) (ot 9) (List.getD vs5 1 V.any) v1).bind fun v6 =>
 condV v6 (
 (idxS 6 x0 (List.getD vs5 1 V.any)).bind fun v7 =>
 (ldp (some 6) v7).bind fun v8 =>
 (spliceV [(vi 0), (vi 0), (vi 0), (vi 0), (vi 0), (vi 0)] 0 6 v8).bind fun v9 =>
 (ldk none (List.drop 1 (aggL v9))).bind fun v10 =>
 (bin2 Try.prog BinOp.and 3 (ot 15) (ot 18) x1 v10).bind fun v11 =>
 (ldk none (List.drop 2 (aggL v9))).bind fun v12 =>
 (bin2 Try.prog BinOp.eql 3 (ot 19) (ot 22) v11 v12).bind fun v13 =>
 (guardV v13 true (some (List.getD vs5 0 V.any))).bind fun v14 =>
 (guardV v13 true ((bin2 Try.prog BinOp.lss 3 (ot 25) (oc 0) v14 (vi 0)).bind fun v15 =>
 some v15)).bind fun v16 =>
 (guardV v13 true (some v16)).bind fun v17 =>
 (guardV v17 false ((ldk (some 6) (List.drop 0 (aggL v9))).bind fun v18 =>
 some v18)).bind fun v19 =>
 (guardV v17 false (some x0)).bind fun v20 =>
 (guardV v17 false (some (List.getD vs5 0 V.any))).bind fun v21 =>
 (guardV v17 false ((idxS 6 v20 v21).bind fun v22 =>
 some v22)).bind fun v23 =>
 (guardV v17 false ((ldp (some 6) v23).bind fun v24 =>
 some v24)).bind fun v25 =>
 (guardV v17 false (((sem_rule_above n) [v19, v25]).bind fun v26 =>
 some v26)).bind fun v27 =>
 (guardV v17 false ((bin2 Try.prog BinOp.gtr 3 (ot 33) (oc 0) v27 (vi 0)).bind fun v28 =>
 some v28)).bind fun v29 =>
 (guardV v13 true ((pickV v17 (vb true) v29).bind fun v30 =>
 some v30)).bind fun v31 =>
 (pickV v13 v31 (vb false)).bind fun v32 =>
 JoinPt (fun vs33 =>
 (bin2 Try.prog BinOp.add 3 (ot 10) (oc 1) (List.getD vs5 1 V.any) (vi 1)).bind fun v35 =>
 rec4 [(List.getD vs33 0 V.any), v35]) fun J34 =>
 condV v32 (
 J34 [(List.getD vs5 1 V.any)]) (
 J34 [(List.getD vs5 0 V.any)])) (
 J3 [(List.getD vs5 0 V.any)])) n) [(vi (-1 : Int)), (vi 0)] := by kernel_rfl
noncomputable def t_rule_Find (a0 : (List T_Rule)) (a1 : Int) : Option Int :=
 (loopI a0 (fun (i13 : Int) x14 (s9 : Int) k10 =>
 (gd ((decide ((bits .and .i64 a1 x14.Cube.Mask) = x14.Cube.Bits)) && (!(decide (s9 < 0)))) default (idx a0 s9)).bind fun r43 =>
 (gd ((decide ((bits .and .i64 a1 x14.Cube.Mask) = x14.Cube.Bits)) && (!(decide (s9 < 0)))) default (t_rule_above x14 r43)).bind fun r50 =>
 (if ((decide ((bits .and .i64 a1 x14.Cube.Mask) = x14.Cube.Bits)) && ((decide (s9 < 0)) || (decide (0 < r50)))) = true then (
 some i13) else (
 some (s9))).bind fun (s60 : Int) =>
 k10 (s60)) (fun (s9 : Int) =>
 some (s9)) (-1 : Int)).bind fun (s4 : Int) =>
 some s4
theorem ty_rule_Find {n : Nat} (hn : bigN ≤ n) (a0 : (List T_Rule)) (a1 : Int) : Rv (fun x : Int => (vi x)) (sem_rule_Find n [(V.sl (List.map T_Rule.c a0)), (vi a1)]) (t_rule_Find a0 a1) := by
  rw [eq_rule_Find]
  unfold t_rule_Find
  refine tb (x := (vi (List.length a0 : Int))) (p_len _) ?_
  refine tjb (mk := fun s4 : Int => [(vi s4)]) (fun J3 => ?_) fun s4 => ?_
  · refine rf_loopI (mk := fun (i13 : Int) (s9 : Int) => [(vi s9), (vi (i13 : Int))]) hn a0 (-1 : Int) (fun i13 x14 h15 h16 h17 s9 rec7 k10 h11 => ?_) (fun s9 rec66 h65 => ?_)
    · refine tb (x := (vb (decide ((i13 : Int) < (List.length a0 : Int))))) (d_lss) ?_
      refine tcond_t h17 ?_
      refine tb (x := (V.ptr (T_Rule.c x14))) (p_idx_at (c := T_Rule.c) (fun _ => rfl) h15) ?_
      refine tb (x := (T_Rule.e x14)) (rfl) ?_
      refine tb (x := V.agg (T_Rule.c x14)) (by kernel_rfl) ?_
      refine tb (x := (vi x14.Cube.Mask)) (rfl) ?_
      refine tb (x := (vi (bits .and .i64 a1 x14.Cube.Mask))) (d_and) ?_
      refine tb (x := (vi x14.Cube.Bits)) (rfl) ?_
      refine tb (x := (vb (decide ((bits .and .i64 a1 x14.Cube.Mask) = x14.Cube.Bits)))) (d_eql) ?_
      refine tg (x := (vi s9)) (fun h26 => rfl) ?_
      refine tg (x := (vb (decide (s9 < 0)))) (fun h28 => by simp only [gv_t h28]; exact bind_some_eq (d_lss)) ?_
      refine tg (x := (vb (decide (s9 < 0)))) (fun h31 => congrArg some (gv_t h31)) ?_
      refine tg2_f (x := (T_Rule.e x14)) (fun h33 => bind_some_eq (rfl)) ?_
      refine tg2_f (x := (V.sl (List.map T_Rule.c a0))) (fun h36 => rfl) ?_
      refine tg2_f (x := (vi s9)) (fun h38 => rfl) ?_
      refine tgo2_f (fun h40 => by simp only [gv_t h40]; exact rf_bind_some (p_idx (c := T_Rule.c) (fun _ => rfl) a0 s9)) fun r43 => ?_
      refine tg2_f (x := (T_Rule.e r43)) (fun h44 => by first | exact bind_some_eq (rfl) | (simp only [gv_t h44]; exact bind_some_eq (rfl))) ?_
      refine tgo2_f (fun h47 => by simp only [gv_t h47]; exact rf_bind_some (ty_rule_above hn x14 r43)) fun r50 => ?_
      refine tg2_f (x := (vb (decide (0 < r50)))) (fun h51 => by simp only [gv_t h51]; exact bind_some_eq (d_gtr)) ?_
      refine tg (x := (vb ((decide (s9 < 0)) || (decide (0 < r50))))) (fun h54 => by simp only [gv_t h54]; exact bind_some_eq (pick_or (fun h9 => gv_t (and_i h54 (not_f h9))))) ?_
      refine tb (x := (vb ((decide ((bits .and .i64 a1 x14.Cube.Mask) = x14.Cube.Bits)) && ((decide (s9 < 0)) || (decide (0 < r50)))))) (pick_and (fun h9 => gv_t h9)) ?_
      refine tjb (mk := fun s60 : Int => [(vi s60)]) (fun J59 => ?_) fun s60 => ?_
      · refine tcond (fun h64 => ?_) (fun h64 => ?_)
        · exact rf_j rfl
        · exact rf_j rfl
      · refine tb (x := (vi ((i13 : Int) + 1))) (p_incN h16) ?_
        exact h11 (s60)
    · refine tb (x := (vb (decide ((List.length a0 : Int) < (List.length a0 : Int))))) (d_lss) ?_
      refine tcond_f h65 ?_
      exact rf_j rfl
  · exact rf_ret rfl

/-! railpoint/class.path -/
def an_class_path : Ann := .seq (.reg 0 [] [] []) (.seq (.reg 0 [] [] []) (.seq (.seq (.reg 0 [] [] []) (.blk (some [.s 5]) (.loop [.r 5 3, .s 10] (.seq (.reg 0 [] [] []) (.seq (.cond none (.no) (.no)) (.seq (.blk none (.seq (.reg 0 [] [] []) (.reg 0 [] [] []))) (.reg 0 [] [] []))))))) (.seq (.reg 0 [] [] []) (.no))))
noncomputable def sem_class_path (n : Nat) (xs : List V) : Option V := if xs.length ≤ 22 then denF Try.prog (envOf [(25, (sem_rule_Find n))]) n Try.f15 an_class_path xs else none
theorem ok_class_path (n : Nat) : SemOk Try.prog DW 15 (sem_class_path n) := fun xs y h => by
  unfold sem_class_path at h
  split at h
  · rename_i hl
    exact denF_ok stb Try.func15 (by kernel_rfl) (envOf_ok (semsOk_cons (ok_rule_Find n) semsOk_nil)) (by rw [Try.ntmps15]; exact hl) h
  · cases h
theorem eq_class_path (n : Nat) (x0 x1 : V) : sem_class_path n [x0, x1] =
 (lenS [x0]).bind fun v1 =>
 JoinPt (fun vs2 =>
 some (List.getD vs2 0 V.any)) fun J3 =>
 (fixN (fun rec4 vs5 =>
 (bin2 Try.prog BinOp.lss 3 (ot 10) (ot 9) (List.getD vs5 1 V.any) v1).bind fun v6 =>
 condV v6 (
 (idxS 1 x0 (List.getD vs5 1 V.any)).bind fun v7 =>
 (ldp none v7).bind fun v8 =>
 ((sem_rule_Find n) [v8, x1]).bind fun v9 =>
 (slcB 1 1 [(vi 0)] [(0, v9)]).bind fun v10 =>
 (appV 1 (slL (List.getD vs5 0 V.any)) v10).bind fun v11 =>
 (bin2 Try.prog BinOp.add 3 (ot 10) (oc 1) (List.getD vs5 1 V.any) (vi 1)).bind fun v12 =>
 rec4 [(V.sl (slL v11)), v12]) (
 J3 [(V.sl (slL (List.getD vs5 0 V.any)))])) n) [(V.sl []), (vi 0)] := by kernel_rfl
noncomputable def t_class_path (a0 : (List (List T_Rule))) (a1 : Int) : Option (List Int) :=
 (loopI a0 (fun (i13 : Int) x14 (s9 : (List Int)) k10 =>
 (t_rule_Find x14 a1).bind fun r22 =>
 (app s9 ([r22] : (List Int))).bind fun r25 =>
 k10 (r25)) (fun (s9 : (List Int)) =>
 some (s9)) ([])).bind fun (s4 : (List Int)) =>
 some s4
theorem ty_class_path {n : Nat} (hn : bigN ≤ n) (a0 : (List (List T_Rule))) (a1 : Int) : Rv (fun x : (List Int) => (V.sl (List.map cI x))) (sem_class_path n [(V.sl (List.map (cS T_Rule.c) a0)), (vi a1)]) (t_class_path a0 a1) := by
  rw [eq_class_path]
  unfold t_class_path
  refine tb (x := (vi (List.length a0 : Int))) (p_len _) ?_
  refine tjb (mk := fun s4 : (List Int) => [(V.sl (List.map cI s4))]) (fun J3 => ?_) fun s4 => ?_
  · refine rf_loopI (mk := fun (i13 : Int) (s9 : (List Int)) => [(V.sl (List.map cI s9)), (vi (i13 : Int))]) hn a0 ([]) (fun i13 x14 h15 h16 h17 s9 rec7 k10 h11 => ?_) (fun s9 rec28 h27 => ?_)
    · refine tb (x := (vb (decide ((i13 : Int) < (List.length a0 : Int))))) (d_lss) ?_
      refine tcond_t h17 ?_
      refine tb (x := (V.ptr [(V.sl (List.map T_Rule.c x14))])) (p_idx_at (c := (cS T_Rule.c)) (fun _ => rfl) h15) ?_
      refine tb (x := (V.sl (List.map T_Rule.c x14))) (rfl) ?_
      refine tbo (ty_rule_Find hn x14 a1) fun r22 => ?_
      refine tb (x := (V.sl (List.map cI ([r22] : (List Int))))) (by kernel_rfl) ?_
      refine tbo (p_app (c := cI) (fun _ => rfl) s9 ([r22] : (List Int))) fun r25 => ?_
      refine tb (x := (vi ((i13 : Int) + 1))) (p_incN h16) ?_
      exact h11 (r25)
    · refine tb (x := (vb (decide ((List.length a0 : Int) < (List.length a0 : Int))))) (d_lss) ?_
      refine tcond_f h27 ?_
      exact rf_j rfl
  · exact rf_ret rfl

/-! slices.Equal   int int  -/
def an_slices_Equal_int_int : Ann := .seq (.reg 0 [] [] []) (.seq (.seq (.reg 0 [] [] []) (.cond none (.seq (.reg 0 [] [] []) (.no)) (.no))) (.seq (.seq (.reg 0 [] [] []) (.blk (some []) (.loop [.s 13] (.seq (.reg 0 [] [] []) (.seq (.cond none (.no) (.no)) (.seq (.blk none (.seq (.reg 0 [] [] []) (.seq (.reg 9 [] [] []) (.cond none (.seq (.reg 0 [] [] []) (.no)) (.no))))) (.reg 0 [] [] []))))))) (.seq (.reg 0 [] [] []) (.no))))
noncomputable def sem_slices_Equal_int_int (n : Nat) (xs : List V) : Option V := if xs.length ≤ 26 then denF Try.prog (envOf []) n Try.f22 an_slices_Equal_int_int xs else none
theorem ok_slices_Equal_int_int (n : Nat) : SemOk Try.prog DW 22 (sem_slices_Equal_int_int n) := fun xs y h => by
  unfold sem_slices_Equal_int_int at h
  split at h
  · rename_i hl
    exact denF_ok stb Try.func22 (by kernel_rfl) (envOf_ok semsOk_nil) (by rw [Try.ntmps22]; exact hl) h
  · cases h
theorem eq_slices_Equal_int_int (n : Nat) (x0 x1 : V) : sem_slices_Equal_int_int n [x0, x1] =
 (lenS [x0]).bind fun v1 =>
 (lenS [x1]).bind fun v2 =>
 (bin2 Try.prog BinOp.neq 3 (ot 7) (ot 9) v1 v2).bind fun v3 =>
 condV v3 (
 some (vb false)) (
 (lenS [x0]).bind fun v4 =>
 JoinPt (fun vs5 =>
 some (vb true)) fun J6 =>
 (fixN (fun rec7 vs8 =>
 (bin2 Try.prog BinOp.lss 3 (ot 13) (ot 12) (List.getD vs8 0 V.any) v4).bind fun v9 =>
 condV v9 (
 (idxS 1 x0 (List.getD vs8 0 V.any)).bind fun v10 =>
 (ldp none v10).bind fun v11 =>
 (idxS 1 x1 (List.getD vs8 0 V.any)).bind fun v12 =>
 (ldp none v12).bind fun v13 =>
 (bin2 Try.prog BinOp.neq 3 (ot 19) (ot 23) v11 v13).bind fun v14 =>
 condV v14 (
 some (vb false)) (
 (bin2 Try.prog BinOp.add 3 (ot 13) (oc 1) (List.getD vs8 0 V.any) (vi 1)).bind fun v15 =>
 rec7 [v15])) (
 J6 [])) n) [(vi 0)]) := by kernel_rfl
noncomputable def t_slices_Equal_int_int (a0 : (List Int)) (a1 : (List Int)) : Option Bool :=
 if (decide ((List.length a0 : Int) ≠ (List.length a1 : Int))) = true then (
 some false) else (
 join (fun (s8 : Unit) =>
 some true) fun j9 =>
 loopI a0 (fun (i17 : Int) x18 (s13 : Unit) k14 =>
 (idx a1 i17).bind fun r26 =>
 if (decide (x18 ≠ r26)) = true then (
 some false) else (
 k14 ())) (fun (s13 : Unit) =>
 j9 ()) ())
theorem ty_slices_Equal_int_int {n : Nat} (hn : bigN ≤ n) (a0 : (List Int)) (a1 : (List Int)) : Rv (fun x : Bool => (vb x)) (sem_slices_Equal_int_int n [(V.sl (List.map cI a0)), (V.sl (List.map cI a1))]) (t_slices_Equal_int_int a0 a1) := by
  rw [eq_slices_Equal_int_int]
  unfold t_slices_Equal_int_int
  refine tb (x := (vi (List.length a0 : Int))) (p_len _) ?_
  refine tb (x := (vi (List.length a1 : Int))) (p_len _) ?_
  refine tb (x := (vb (decide ((List.length a0 : Int) ≠ (List.length a1 : Int))))) (d_neq) ?_
  refine tcond (fun h4 => ?_) (fun h4 => ?_)
  · exact rf_ret rfl
  · refine tb (x := (vi (List.length a0 : Int))) (p_len _) ?_
    refine tjoin (mk := fun s8 : Unit => []) (fun s8 => ?_) fun J7 j9 h10 => ?_
    · exact rf_ret rfl
    · refine rf_loopI (mk := fun (i17 : Int) (s13 : Unit) => [(vi (i17 : Int))]) hn a0 () (fun i17 x18 h19 h20 h21 s13 rec11 k14 h15 => ?_) (fun s13 rec32 h31 => ?_)
      · refine tb (x := (vb (decide ((i17 : Int) < (List.length a0 : Int))))) (d_lss) ?_
        refine tcond_t h21 ?_
        refine tb (x := (V.ptr [(vi x18)])) (p_idx_at (c := cI) (fun _ => rfl) h19) ?_
        refine tb (x := (vi x18)) (rfl) ?_
        refine tbo (p_idx (c := cI) (fun _ => rfl) a1 (i17 : Int)) fun r26 => ?_
        refine tb (x := (vi r26)) (rfl) ?_
        refine tb (x := (vb (decide (x18 ≠ r26)))) (d_neq) ?_
        refine tcond (fun h29 => ?_) (fun h29 => ?_)
        · exact rf_ret rfl
        · refine tb (x := (vi ((i17 : Int) + 1))) (p_incN h20) ?_
          exact h15 ()
      · refine tb (x := (vb (decide ((List.length a0 : Int) < (List.length a0 : Int))))) (d_lss) ?_
        refine tcond_f h31 ?_
        exact h10 ()

/-! railpoint/class.classes$1 -/
def an_class_classes_1 : Ann := .seq (.reg 0 [] [] []) (.seq (.reg 10 [] [] []) (.no))
noncomputable def sem_class_classes_1 (n : Nat) (xs : List V) : Option V := if xs.length ≤ 14 then denF Try.prog (envOf [(15, (sem_class_path n)), (22, (sem_slices_Equal_int_int n))]) n Try.f21 an_class_classes_1 xs else none
theorem ok_class_classes_1 (n : Nat) : SemOk Try.prog DW 21 (sem_class_classes_1 n) := fun xs y h => by
  unfold sem_class_classes_1 at h
  split at h
  · rename_i hl
    exact denF_ok stb Try.func21 (by kernel_rfl) (envOf_ok (semsOk_cons (ok_class_path n) (semsOk_cons (ok_slices_Equal_int_int n) semsOk_nil))) (by rw [Try.ntmps21]; exact hl) h
  · cases h
theorem eq_class_classes_1 (n : Nat) (x0 x1 x2 : V) : sem_class_classes_1 n [x0, x1, x2] =
 (ldp none x1).bind fun v1 =>
 (idxS 1 x0 (vi 0)).bind fun v2 =>
 (ldp none v2).bind fun v3 =>
 ((sem_class_path n) [v1, v3]).bind fun v4 =>
 (ldp none x1).bind fun v5 =>
 (ldp none x2).bind fun v6 =>
 ((sem_class_path n) [v5, v6]).bind fun v7 =>
 ((sem_slices_Equal_int_int n) [v4, v7]).bind fun v8 =>
 some v8 := by kernel_rfl
noncomputable def t_class_classes_1 (a0 : (List Int)) (a1 : (List (List T_Rule))) (a2 : Int) : Option Bool :=
 (idx a0 0).bind fun r3 =>
 (t_class_path a1 r3).bind fun r6 =>
 (t_class_path a1 a2).bind fun r10 =>
 (t_slices_Equal_int_int r6 r10).bind fun r12 =>
 some r12
theorem ty_class_classes_1 {n : Nat} (hn : bigN ≤ n) (a0 : (List Int)) (a1 : (List (List T_Rule))) (a2 : Int) : Rv (fun x : Bool => (vb x)) (sem_class_classes_1 n [(V.sl (List.map cI a0)), (V.ptr [(V.sl (List.map (cS T_Rule.c) a1))]), (V.ptr [(vi a2)])]) (t_class_classes_1 a0 a1 a2) := by
  rw [eq_class_classes_1]
  unfold t_class_classes_1
  refine tb (x := (V.sl (List.map (cS T_Rule.c) a1))) (rfl) ?_
  refine tbo (p_idx (c := cI) (fun _ => rfl) a0 0) fun r3 => ?_
  refine tb (x := (vi r3)) (rfl) ?_
  refine tbo (ty_class_path hn a1 r3) fun r6 => ?_
  refine tb (x := (V.sl (List.map (cS T_Rule.c) a1))) (rfl) ?_
  refine tb (x := (vi a2)) (rfl) ?_
  refine tbo (ty_class_path hn a1 a2) fun r10 => ?_
  refine tbo (ty_slices_Equal_int_int hn r6 r10) fun r12 => ?_
  exact rf_ret rfl

/-! railpoint/class.classes -/
def an_class_classes : Ann := .seq (.reg 0 [] [] []) (.seq (.reg 0 [1] [] []) (.seq (.seq (.reg 0 [] [] []) (.blk (some [.n 3 1]) (.loop [.n 3 1, .s 6] (.seq (.reg 0 [] [] []) (.seq (.cond none (.no) (.no)) (.seq (.blk none (.seq (.reg 0 [] [] []) (.seq (.reg 0 [4] [] [2000011]) (.seq (.reg 0 [] [] []) (.cond (some [.n 3 1]) (.reg 0 [] [] [18, 1000016, 1000017]) (.reg 8 [] [] [24, 27])))))) (.reg 0 [] [] []))))))) (.seq (.reg 0 [3] [] []) (.no))))
noncomputable def sem_class_classes (n : Nat) (xs : List V) : Option V := if xs.length ≤ 31 then denF Try.prog (envOf [(20, (sem_slices_IndexFunc_int_int (envOf [(21, (sem_class_classes_1 n))]) n)), (21, (sem_class_classes_1 n))]) n Try.f10 an_class_classes xs else none
theorem ok_class_classes (n : Nat) : SemOk Try.prog DW 10 (sem_class_classes n) := fun xs y h => by
  unfold sem_class_classes at h
  split at h
  · rename_i hl
    exact denF_ok stb Try.func10 (by kernel_rfl) (envOf_ok (semsOk_cons (ok_slices_IndexFunc_int_int (envOf_ok (semsOk_cons (ok_class_classes_1 n) semsOk_nil)) n) (semsOk_cons (ok_class_classes_1 n) semsOk_nil))) (by rw [Try.ntmps10]; exact hl) h
  · cases h
theorem eq_class_classes (n : Nat) (x0 : V) : sem_class_classes n [x0] =
 (V.cellsO x0).bind fun v1 =>
 JoinPt (fun vs2 =>
 (some (frz (List.getD vs2 0 V.any))).bind fun v4 =>
 some v4) fun J3 =>
 (fixN (fun rec5 vs6 =>
 (bin2 Try.prog BinOp.lss 3 (ot 6) (oc 16) (List.getD vs6 1 V.any) (vi 16)).bind fun v7 =>
 condV v7 (
 (spliceV [(vi 0)] 0 1 (List.getD vs6 1 V.any)).bind fun v8 =>
 (some (frz (List.getD vs6 0 V.any))).bind fun v9 =>
 ((sem_slices_IndexFunc_int_int (envOf [(21, (sem_class_classes_1 n))]) n) [v9, (V.fn 21 [(V.ptr v1), (V.ptr (aggL v8))])]).bind fun v10 =>
 (litQ v10).bind fun v11 =>
 (bin2 Try.prog BinOp.lss 3 (ot 12) (oc 0) v11 (vi 0)).bind fun v12 =>
 JoinPt (fun vs13 =>
 (bin2 Try.prog BinOp.add 3 (ot 6) (oc 1) (List.getD vs6 1 V.any) (vi 1)).bind fun v15 =>
 rec5 [(List.getD vs13 0 V.any), v15]) fun J14 =>
 condV v12 (
 (ldp none (V.ptr (aggL v8))).bind fun v16 =>
 (V.cellsO v16).bind fun v17 =>
 (litS 1 v17).bind fun v18 =>
 (V.cellsO v18).bind fun v19 =>
 (litS 1 v19).bind fun v20 =>
 (appS 1 (List.getD vs6 0 V.any) v20).bind fun v21 =>
 J14 [v21]) (
 ((oslR (List.getD vs6 0 V.any)).bind fun rows22 => inB (List.length rows22) v11).bind fun v23 =>
 ((nodeL (List.getD vs6 0 V.any) (some (natOf v11)) 1).bind fun l24 => (l24[0]?).bind ownO).bind fun v25 =>
 (ldp none (V.ptr (aggL v8))).bind fun v26 =>
 (slcB 1 1 [(vi 0)] [(0, v26)]).bind fun v27 =>
 (getV (List.getD vs6 0 V.any) [(Stp.mk (some (natOf v11)) 0 1)]).bind fun v28 =>
 (modX (List.getD vs6 0 V.any) [] (Stp.mk (some (natOf v11)) 0 1) V.any).bind fun v29 =>
 (appS 1 v28 v27).bind fun v30 =>
 ((oslR v29).bind fun rows31 => inB (List.length rows31) v11).bind fun v32 =>
 (V.cellsO v30).bind fun v33 =>
 (setV v29 [] (Stp.mk (some (natOf v11)) 0 1) 1 v33).bind fun v34 =>
 J14 [v34])) (
 J3 [(List.getD vs6 0 V.any)])) n) [(V.osl 1 []), (vi 0)] := by kernel_rfl
noncomputable def t_class_classes (a0 : (List (List T_Rule))) : Option (List (List Int)) :=
 (loopU 0 16 (fun (i14 : Int) (s10 : (List (List Int))) k11 =>
 (t_slices_IndexFunc_int_int s10 (fun (a23 : (List Int)) => t_class_classes_1 a23 a0 i14)).bind fun r24 =>
 (if (decide (r24 < 0)) = true then (
 (oapp s10 ([([i14] : (List Int))] : (List (List Int)))).bind fun r37 =>
 some (r37)) else (
 need (decide (0 ≤ r24) && decide (r24 < (List.length s10 : Int))) (
 (idx s10 r24).bind fun r40 =>
 (idx s10 r24).bind fun r44 =>
 (oapp r44 ([i14] : (List Int))).bind fun r45 =>
 need (decide (0 ≤ r24) && decide (r24 < (List.length s10 : Int))) (
 (oset s10 r24 r45).bind fun r48 =>
 some (r48))))).bind fun (s29 : (List (List Int))) =>
 k11 (s29)) (fun (i14 : Int) (s10 : (List (List Int))) =>
 some (s10)) ([])).bind fun (s4 : (List (List Int))) =>
 some s4
theorem ty_class_classes {n : Nat} (hn : bigN ≤ n) (a0 : (List (List T_Rule))) : Rv (fun x : (List (List Int)) => (V.sl (List.map (cS cI) x))) (sem_class_classes n [(V.sl (List.map (cS T_Rule.c) a0))]) (t_class_classes a0) := by
  rw [eq_class_classes]
  unfold t_class_classes
  refine tb (x := [(V.sl (List.map (cS T_Rule.c) a0))]) rfl ?_
  refine tjb (mk := fun s4 : (List (List Int)) => [(V.osl 1 (List.map (fun x : (List Int) => [(V.osl 1 (List.map cI x))]) s4))]) (fun J3 => ?_) fun s4 => ?_
  · refine rf_loopU (mk := fun (i14 : Int) (s10 : (List (List Int))) => [(V.osl 1 (List.map (fun x : (List Int) => [(V.osl 1 (List.map cI x))]) s10)), (vi i14)]) hn _ _ ([]) (fun i14 h15 h16 h17 s10 rec8 k11 h12 => ?_) (fun i14 s10 rec19 h18 => ?_)
    · refine tb (x := (vb (decide (i14 < 16)))) (d_lss) ?_
      refine tcond_t h15 ?_
      refine tb (x := V.agg [(vi i14)]) (by kernel_rfl) ?_
      refine tb (x := (V.sl (List.map (cS cI) s10))) (p_frzS (c' := (cS cI)) (fun _ => (p_fzc (p_frzl (c' := cI) (fun _ => rfl) _) p_fz0)) s10) ?_
      refine tbo (ty_slices_IndexFunc_int_int (E := (envOf [(21, (sem_class_classes_1 n))])) (x1 := (V.fn 21 [(V.ptr [(V.sl (List.map (cS T_Rule.c) a0))]), (V.ptr [(vi i14)])])) (g1 := (fun (a23 : (List Int)) => t_class_classes_1 a23 a0 i14)) hn s10 (fun a23 => ty_class_classes_1 hn a23 a0 i14)) fun r24 => ?_
      refine tb (x := (vi r24)) rfl ?_
      refine tb (x := (vb (decide (r24 < 0)))) (d_lss) ?_
      refine tjb (mk := fun s29 : (List (List Int)) => [(V.osl 1 (List.map (fun x : (List Int) => [(V.osl 1 (List.map cI x))]) s29))]) (fun J28 => ?_) fun s29 => ?_
      · refine tcond (fun h33 => ?_) (fun h33 => ?_)
        · refine tb (x := (vi i14)) (rfl) ?_
          refine tb (x := cI i14) rfl ?_
          refine tb (x := (V.osl 1 (List.map cI ([i14] : (List Int))))) (by kernel_rfl) ?_
          refine tb (x := [(V.osl 1 (List.map cI ([i14] : (List Int))))]) rfl ?_
          refine tb (x := (V.osl 1 (List.map (fun x : (List Int) => [(V.osl 1 (List.map cI x))]) ([([i14] : (List Int))] : (List (List Int)))))) (by kernel_rfl) ?_
          refine tbo (p_oappO (c := (fun x : (List Int) => [(V.osl 1 (List.map cI x))])) (fun _ => rfl) s10 ([([i14] : (List Int))] : (List (List Int)))) fun r37 => ?_
          exact rf_j rfl
        · refine tneed (x := V.any) (fun h50 => p_inB s10 r24 h50) fun h50 => ?_
          refine tbo (p_onest (c := (fun x : (List Int) => [(V.osl 1 (List.map cI x))])) (fun _ => rfl) s10 r24) fun r40 => ?_
          refine tb (x := (vi i14)) (rfl) ?_
          refine tb (x := (V.sl (List.map cI ([i14] : (List Int))))) (by kernel_rfl) ?_
          refine p_take (c := (fun x : (List Int) => [(V.osl 1 (List.map cI x))])) (e1 := (fun x : (List Int) => (V.osl 1 (List.map cI x)))) (fun _ => rfl) s10 r24 fun r44 => ?_
          refine tbo (p_oapp (c := cI) (fun _ => rfl) r44 ([i14] : (List Int))) fun r45 => ?_
          refine tneed (x := V.any) (fun h49 => p_inBh (c := (fun x : (List Int) => [(V.osl 1 (List.map cI x))])) (k := 1) (j := 0) s10 r24 r24 h49) fun h49 => ?_
          refine tb (x := [(V.osl 1 (List.map cI r45))]) rfl ?_
          refine tbo (p_fill1 (c := (fun x : (List Int) => [(V.osl 1 (List.map cI x))])) (e1 := (fun x : (List Int) => (V.osl 1 (List.map cI x)))) (fun _ => rfl) s10 r24 r45) fun r48 => ?_
          exact rf_j rfl
      · refine tb (x := (vi (i14 + 1))) (p_inc h16 h17) ?_
        exact h12 (s29)
    · refine tb (x := (vb (decide (i14 < 16)))) (d_lss) ?_
      refine tcond_f h18 ?_
      exact rf_j rfl
  · refine tb (x := (V.sl (List.map (cS cI) s4))) (p_frzS (c' := (cS cI)) (fun _ => (p_fzc (p_frzl (c' := cI) (fun _ => rfl) _) p_fz0)) s4) ?_
    exact rf_ret rfl

/-! railpoint/class.Of -/
def an_class_Of : Ann := .seq (.reg 0 [] [] []) (.seq (.seq (.reg 0 [] [] []) (.seq (.reg 0 [] [] []) (.cond none (.seq (.reg 0 [] [] []) (.no)) (.no)))) (.seq (.reg 0 [] [] []) (.no)))
noncomputable def sem_class_Of (n : Nat) (xs : List V) : Option V := if xs.length ≤ 13 then denF Try.prog (envOf [(9, (sem_rule_Table n)), (10, (sem_class_classes n))]) n Try.f4 an_class_Of xs else none
theorem ok_class_Of (n : Nat) : SemOk Try.prog DW 4 (sem_class_Of n) := fun xs y h => by
  unfold sem_class_Of at h
  split at h
  · rename_i hl
    exact denF_ok stb Try.func4 (by kernel_rfl) (envOf_ok (semsOk_cons (ok_rule_Table n) (semsOk_cons (ok_class_classes n) semsOk_nil))) (by rw [Try.ntmps4]; exact hl) h
  · cases h
theorem eq_class_Of (n : Nat) (x0 : V) : sem_class_Of n [x0] =
 ((sem_rule_Table n) [x0]).bind fun v1 =>
 (bin2 Try.prog BinOp.neq 31 (ot 7) (Operand.const Go.Value.nilIface) v1 vn).bind fun v2 =>
 condV v2 (
 some (V.tup [(V.sl []), v1])) (
 (slcB 1 1 [(V.sl [])] [(0, x0)]).bind fun v3 =>
 ((sem_class_classes n) [v3]).bind fun v4 =>
 some (V.tup [v4, vn])) := by kernel_rfl
noncomputable def t_class_Of (a0 : (List T_Rule)) : Option ((List (List Int)) × Int) :=
 (t_rule_Table a0).bind fun r2 =>
 if (!decide (r2 = 0)) = true then (
 some ([], r2)) else (
 (t_class_classes ([a0] : (List (List T_Rule)))).bind fun r7 =>
 some (r7, 0))
theorem ty_class_Of {n : Nat} (hn : bigN ≤ n) (a0 : (List T_Rule)) : Rv (fun x : ((List (List Int)) × Int) => V.tup [(V.sl (List.map (cS cI) x.1)), (eV x.2)]) (sem_class_Of n [(V.sl (List.map T_Rule.c a0))]) (t_class_Of a0) := by
  rw [eq_class_Of]
  unfold t_class_Of
  refine tbo (ty_rule_Table hn a0) fun r2 => ?_
  refine tb (x := (vb (!decide (r2 = 0)))) (p_err_neq _) ?_
  refine tcond (fun h4 => ?_) (fun h4 => ?_)
  · exact rf_ret rfl
  · refine tb (x := (V.sl (List.map (cS T_Rule.c) ([a0] : (List (List T_Rule)))))) (by kernel_rfl) ?_
    refine tbo (ty_class_classes hn ([a0] : (List (List T_Rule)))) fun r7 => ?_
    exact rf_ret rfl

/-! railpoint/topo.Spot -/
def an_topo_Spot : Ann := .seq (.reg 0 [] [] []) (.seq (.reg 0 [] [] []) (.no))
noncomputable def sem_topo_Spot (n : Nat) (xs : List V) : Option V := if xs.length ≤ 25 then denF Try.prog (envOf []) n Try.f28 an_topo_Spot xs else none
theorem ok_topo_Spot (n : Nat) : SemOk Try.prog DW 28 (sem_topo_Spot n) := fun xs y h => by
  unfold sem_topo_Spot at h
  split at h
  · rename_i hl
    exact denF_ok stb Try.func28 (by kernel_rfl) (envOf_ok semsOk_nil) (by rw [Try.ntmps28]; exact hl) h
  · cases h
theorem eq_topo_Spot (n : Nat) (x0 x1 : V) : sem_topo_Spot n [x0, x1] =
 (V.cellsO x0).bind fun v1 =>
 (V.cellsO x1).bind fun v2 =>
 (ldk none (List.drop 0 v2)).bind fun v3 =>
 (bin2 Try.prog BinOp.geq 3 (ot 6) (oc 1) v3 (vi 1)).bind fun v4 =>
 (guardV v4 true (some V.any)).bind fun v5 =>
 (guardV v4 true ((gate v4 true (ldk none (List.drop 0 v2))).bind fun v6 =>
 some v6)).bind fun v7 =>
 (guardV v4 true (some V.any)).bind fun v8 =>
 (guardV v4 true ((gate v4 true (ldk none (List.drop 0 v1))).bind fun v9 =>
 some v9)).bind fun v10 =>
 (guardV v4 true ((bin2 Try.prog BinOp.leq 3 (ot 10) (ot 12) v7 v10).bind fun v11 =>
 some v11)).bind fun v12 =>
 (pickV v4 v12 (vb false)).bind fun v13 =>
 (guardV v13 true (some V.any)).bind fun v14 =>
 (guardV v13 true ((gate v13 true (ldk none (List.drop 1 v2))).bind fun v15 =>
 some v15)).bind fun v16 =>
 (guardV v13 true ((bin2 Try.prog BinOp.geq 3 (ot 17) (oc 1) v16 (vi 1)).bind fun v17 =>
 some v17)).bind fun v18 =>
 (pickV v13 v18 (vb false)).bind fun v19 =>
 (guardV v19 true (some V.any)).bind fun v20 =>
 (guardV v19 true ((gate v19 true (ldk none (List.drop 1 v2))).bind fun v21 =>
 some v21)).bind fun v22 =>
 (guardV v19 true ((bin2 Try.prog BinOp.leq 3 (ot 22) (oc 4) v22 (vi 4)).bind fun v23 =>
 some v23)).bind fun v24 =>
 (pickV v19 v24 (vb false)).bind fun v25 =>
 some v25 := by kernel_rfl
noncomputable def t_topo_Spot (a0 : T_Topo) (a1 : T_Spot) : Option Bool :=
 some ((((decide (1 ≤ a1.Switch)) && (decide (a1.Switch ≤ a0.Switches))) && (decide (1 ≤ a1.Port))) && (decide (a1.Port ≤ 4)))
theorem ty_topo_Spot {n : Nat} (hn : bigN ≤ n) (a0 : T_Topo) (a1 : T_Spot) : Rv (fun x : Bool => (vb x)) (sem_topo_Spot n [(T_Topo.e a0), (T_Spot.e a1)]) (t_topo_Spot a0 a1) := by
  rw [eq_topo_Spot]
  unfold t_topo_Spot
  refine tb (x := (T_Topo.c a0)) rfl ?_
  refine tb (x := (T_Spot.c a1)) rfl ?_
  refine tb (x := (vi a1.Switch)) (rfl) ?_
  refine tb (x := (vb (decide (1 ≤ a1.Switch)))) (d_geq) ?_
  refine tg (x := V.any) (fun h5 => rfl) ?_
  refine tg (x := (vi a1.Switch)) (fun h7 => bind_some_eq (gate_pos h7 (rfl))) ?_
  refine tg (x := V.any) (fun h10 => rfl) ?_
  refine tg (x := (vi a0.Switches)) (fun h12 => bind_some_eq (gate_pos h12 (rfl))) ?_
  refine tg (x := (vb (decide (a1.Switch ≤ a0.Switches)))) (fun h15 => by simp only [gv_t h15]; exact bind_some_eq (d_leq)) ?_
  refine tb (x := (vb ((decide (1 ≤ a1.Switch)) && (decide (a1.Switch ≤ a0.Switches))))) (pick_and (fun h9 => gv_t h9)) ?_
  refine tg (x := V.any) (fun h19 => rfl) ?_
  refine tg (x := (vi a1.Port)) (fun h21 => bind_some_eq (gate_pos h21 (rfl))) ?_
  refine tg (x := (vb (decide (1 ≤ a1.Port)))) (fun h24 => by simp only [gv_t h24]; exact bind_some_eq (d_geq)) ?_
  refine tb (x := (vb (((decide (1 ≤ a1.Switch)) && (decide (a1.Switch ≤ a0.Switches))) && (decide (1 ≤ a1.Port))))) (pick_and (fun h9 => gv_t h9)) ?_
  refine tg (x := V.any) (fun h28 => rfl) ?_
  refine tg (x := (vi a1.Port)) (fun h30 => bind_some_eq (gate_pos h30 (rfl))) ?_
  refine tg (x := (vb (decide (a1.Port ≤ 4)))) (fun h33 => by simp only [gv_t h33]; exact bind_some_eq (d_leq)) ?_
  refine tb (x := (vb ((((decide (1 ≤ a1.Switch)) && (decide (a1.Switch ≤ a0.Switches))) && (decide (1 ≤ a1.Port))) && (decide (a1.Port ≤ 4))))) (pick_and (fun h9 => gv_t h9)) ?_
  exact rf_ret rfl

/-! railpoint/topo.Name -/
def an_topo_Name : Ann := .seq (.reg 0 [] [] []) (.seq (.seq (.reg 0 [] [] []) (.blk (some []) (.loop [.s 8] (.seq (.reg 0 [] [] []) (.seq (.cond none (.no) (.no)) (.seq (.blk none (.seq (.reg 0 [] [] []) (.seq (.reg 0 [] [] []) (.cond none (.seq (.reg 0 [] [] []) (.no)) (.no))))) (.reg 0 [] [] []))))))) (.seq (.reg 0 [] [] []) (.no)))
noncomputable def sem_topo_Name (n : Nat) (xs : List V) : Option V := if xs.length ≤ 26 then denF Try.prog (envOf []) n Try.f29 an_topo_Name xs else none
theorem ok_topo_Name (n : Nat) : SemOk Try.prog DW 29 (sem_topo_Name n) := fun xs y h => by
  unfold sem_topo_Name at h
  split at h
  · rename_i hl
    exact denF_ok stb Try.func29 (by kernel_rfl) (envOf_ok semsOk_nil) (by rw [Try.ntmps29]; exact hl) h
  · cases h
theorem eq_topo_Name (n : Nat) (x0 : V) : sem_topo_Name n [x0] =
 (s2b x0).bind fun v1 =>
 (lenS [v1]).bind fun v2 =>
 JoinPt (fun vs3 =>
 (bin2 Try.prog BinOp.neq 9 (ot 19) (Operand.const (Go.Value.string (ByteArray.mk #[]))) x0 (V.lit (Go.Value.string (ByteArray.mk #[])))).bind fun v5 =>
 (guardV v5 true (some x0)).bind fun v6 =>
 (guardV v5 true ((lenT [v6]).bind fun v7 =>
 some v7)).bind fun v8 =>
 (guardV v5 true ((bin2 Try.prog BinOp.leq 3 (ot 23) (oc 6) v8 (vi 6)).bind fun v9 =>
 some v9)).bind fun v10 =>
 (pickV v5 v10 (vb false)).bind fun v11 =>
 some v11) fun J4 =>
 (fixN (fun rec12 vs13 =>
 (bin2 Try.prog BinOp.lss 3 (ot 8) (ot 7) (List.getD vs13 0 V.any) v2).bind fun v14 =>
 condV v14 (
 (idxS 1 v1 (List.getD vs13 0 V.any)).bind fun v15 =>
 (ldp none v15).bind fun v16 =>
 (bin2 Try.prog BinOp.lss 5 (ot 12) (Operand.const (Go.Value.int Go.IntKind.u8 97)) v16 (V.lit (Go.Value.int Go.IntKind.u8 97))).bind fun v17 =>
 (guardV v17 false (some v16)).bind fun v18 =>
 (guardV v17 false ((bin2 Try.prog BinOp.gtr 5 (ot 15) (Operand.const (Go.Value.int Go.IntKind.u8 122)) v18 (V.lit (Go.Value.int Go.IntKind.u8 122))).bind fun v19 =>
 some v19)).bind fun v20 =>
 (pickV v17 (vb true) v20).bind fun v21 =>
 condV v21 (
 some (vb false)) (
 (bin2 Try.prog BinOp.add 3 (ot 8) (oc 1) (List.getD vs13 0 V.any) (vi 1)).bind fun v22 =>
 rec12 [v22])) (
 J4 [])) n) [(vi 0)] := by kernel_rfl
noncomputable def t_topo_Name (a0 : ByteArray) : Option Bool :=
 need (decide ((a0.size : Int) ≤ maxI)) (
 join (fun (s5 : Unit) =>
 some ((!decide (a0 = (ByteArray.mk #[]))) && (decide ((a0.size : Int) ≤ 6)))) fun j6 =>
 loopI (numsOf a0) (fun (i24 : Int) x25 (s20 : Unit) k21 =>
 if ((decide (x25 < 97)) || (decide (122 < x25))) = true then (
 some false) else (
 k21 ())) (fun (s20 : Unit) =>
 j6 ()) ())
theorem ty_topo_Name {n : Nat} (hn : bigN ≤ n) (a0 : ByteArray) : Rv (fun x : Bool => (vb x)) (sem_topo_Name n [(vt a0)]) (t_topo_Name a0) := by
  rw [eq_topo_Name]
  unfold t_topo_Name
  refine tneed (x := (V.sl (List.map cY (numsOf a0)))) (fun h44 => p_s2b h44) fun h44 => ?_
  refine tb (x := (vi (List.length (numsOf a0) : Int))) (p_len _) ?_
  refine tjoin (mk := fun s5 : Unit => []) (fun s5 => ?_) fun J4 j6 h7 => ?_
  · refine tb (x := (vb (!decide (a0 = (ByteArray.mk #[]))))) (p_neq_str) ?_
    refine tg (x := (vt a0)) (fun h9 => rfl) ?_
    refine tg (x := (vi (a0.size : Int))) (fun h11 => by simp only [gv_t h11]; exact bind_some_eq (rfl)) ?_
    refine tg (x := (vb (decide ((a0.size : Int) ≤ 6)))) (fun h14 => by simp only [gv_t h14]; exact bind_some_eq (d_leq)) ?_
    refine tb (x := (vb ((!decide (a0 = (ByteArray.mk #[]))) && (decide ((a0.size : Int) ≤ 6))))) (pick_and (fun h9 => gv_t h9)) ?_
    exact rf_ret rfl
  · refine rf_loopI (mk := fun (i24 : Int) (s20 : Unit) => [(vi (i24 : Int))]) hn (numsOf a0) () (fun i24 x25 h26 h27 h28 s20 rec18 k21 h22 => ?_) (fun s20 rec42 h41 => ?_)
    · refine tb (x := (vb (decide ((i24 : Int) < (List.length (numsOf a0) : Int))))) (d_lss) ?_
      refine tcond_t h28 ?_
      refine tb (x := (V.ptr [(V.lit (.int .u8 x25))])) (p_idx_at (c := cY) (fun _ => rfl) h26) ?_
      refine tb (x := (V.lit (.int .u8 x25))) (rfl) ?_
      refine tb (x := (vb (decide (x25 < 97)))) (q_lss) ?_
      refine tg_f (x := (V.lit (.int .u8 x25))) (fun h33 => rfl) ?_
      refine tg_f (x := (vb (decide (122 < x25)))) (fun h35 => by simp only [gv_t h35]; exact bind_some_eq (q_gtr)) ?_
      refine tb (x := (vb ((decide (x25 < 97)) || (decide (122 < x25))))) (pick_or (fun h9 => gv_t (not_f h9))) ?_
      refine tcond (fun h39 => ?_) (fun h39 => ?_)
      · exact rf_ret rfl
      · refine tb (x := (vi ((i24 : Int) + 1))) (p_incN h27) ?_
        exact h22 ()
    · refine tb (x := (vb (decide ((List.length (numsOf a0) : Int) < (List.length (numsOf a0) : Int))))) (d_lss) ?_
      refine tcond_f h41 ?_
      exact h7 ()

/-! railpoint/topo.Check -/
def an_topo_Check : Ann := .seq (.reg 0 [] [] []) (.seq (.blk none (.seq (.reg 0 [] [] []) (.cond none (.seq (.reg 0 [] [] []) (.no)) (.seq (.reg 0 [] [] []) (.cond none (.seq (.reg 0 [] [] []) (.no)) (.no)))))) (.seq (.reg 0 [] [] []) (.seq (.seq (.reg 0 [] [] []) (.blk (some [.kb 1, .o 3]) (.loop [.kb 1, .o 3, .s 35] (.seq (.reg 0 [] [] []) (.seq (.cond none (.no) (.no)) (.seq (.blk none (.seq (.reg 0 [] [] []) (.seq (.seq (.reg 0 [] [] []) (.cond none (.seq (.reg 0 [] [] []) (.no)) (.no))) (.seq (.seq (.reg 0 [] [] []) (.cond none (.seq (.reg 0 [] [] []) (.no)) (.no))) (.reg 72 [] [] []))))) (.reg 0 [] [] []))))))) (.seq (.reg 0 [] [] []) (.seq (.seq (.reg 0 [] [] []) (.blk (some []) (.loop [.kb 1, .o 3, .o 6, .s 81] (.seq (.reg 0 [] [] []) (.seq (.cond none (.no) (.no)) (.seq (.blk none (.seq (.reg 0 [] [] []) (.seq (.blk none (.seq (.reg 0 [] [] []) (.cond none (.seq (.reg 0 [] [] []) (.no)) (.seq (.reg 0 [] [] []) (.cond none (.seq (.reg 0 [] [] []) (.no)) (.seq (.reg 0 [] [] []) (.cond none (.seq (.reg 0 [] [] []) (.no)) (.no)))))))) (.reg 72 [] [] [])))) (.reg 0 [] [] []))))))) (.seq (.reg 0 [] [] []) (.no)))))))
noncomputable def sem_topo_Check (n : Nat) (xs : List V) : Option V := if xs.length ≤ 117 then denF Try.prog (envOf [(28, (sem_topo_Spot n)), (29, (sem_topo_Name n))]) n Try.f23 an_topo_Check xs else none
theorem ok_topo_Check (n : Nat) : SemOk Try.prog DW 23 (sem_topo_Check n) := fun xs y h => by
  unfold sem_topo_Check at h
  split at h
  · rename_i hl
    exact denF_ok stb Try.func23 (by kernel_rfl) (envOf_ok (semsOk_cons (ok_topo_Spot n) (semsOk_cons (ok_topo_Name n) semsOk_nil))) (by rw [Try.ntmps23]; exact hl) h
  · cases h
theorem eq_topo_Check (n : Nat) (x0 : V) : sem_topo_Check n [x0] =
 (V.cellsO x0).bind fun v1 =>
 (ldk none (List.drop 0 v1)).bind fun v2 =>
 (bin2 Try.prog BinOp.lss 3 (ot 11) (oc 1) v2 (vi 1)).bind fun v3 =>
 (guardV v3 false (some V.any)).bind fun v4 =>
 (guardV v3 false ((gate v3 false (ldk none (List.drop 0 v1))).bind fun v5 =>
 some v5)).bind fun v6 =>
 (guardV v3 false ((bin2 Try.prog BinOp.gtr 3 (ot 15) (oc 6) v6 (vi 6)).bind fun v7 =>
 some v7)).bind fun v8 =>
 (pickV v3 (vb true) v8).bind fun v9 =>
 condV v9 (
 (scal1 Try.prog (Instr.makeInterface 54) (vi 1)).bind fun v10 =>
 some v10) (
 (ldk none (List.drop 1 v1)).bind fun v11 =>
 (lenS [v11]).bind fun v12 =>
 (bin2 Try.prog BinOp.gtr 3 (ot 22) (oc 200) v12 (vi 200)).bind fun v13 =>
 (guardV v13 false (some V.any)).bind fun v14 =>
 (guardV v13 false ((gate v13 false (ldk none (List.drop 2 v1))).bind fun v15 =>
 some v15)).bind fun v16 =>
 (guardV v13 false ((lenS [v16]).bind fun v17 =>
 some v17)).bind fun v18 =>
 (guardV v13 false ((bin2 Try.prog BinOp.gtr 3 (ot 27) (oc 8) v18 (vi 8)).bind fun v19 =>
 some v19)).bind fun v20 =>
 (pickV v13 (vb true) v20).bind fun v21 =>
 condV v21 (
 (scal1 Try.prog (Instr.makeInterface 54) (vi 4)).bind fun v22 =>
 some v22) (
 (ldk none (List.drop 1 v1)).bind fun v23 =>
 (lenS [v23]).bind fun v24 =>
 JoinPt (fun vs25 =>
 (ldk none (List.drop 2 v1)).bind fun v27 =>
 (lenS [v27]).bind fun v28 =>
 JoinPt (fun vs29 =>
 some vn) fun J30 =>
 (keepO (some v1) (some v1) (some [(List.getD vs25 0 V.any), (V.mp []), (vi 0)])).bind (fixN (fun rec31 vs32 =>
 (bin2 Try.prog BinOp.lss 3 (ot 81) (ot 80) (List.getD vs32 2 V.any) v28).bind fun v33 =>
 condV v33 (
 (idxS 3 v27 (List.getD vs32 2 V.any)).bind fun v34 =>
 (ldp (some 3) v34).bind fun v35 =>
 (spliceV [(V.lit (Go.Value.string (ByteArray.mk #[]))), (vi 0), (vi 0)] 0 3 v35).bind fun v36 =>
 (ldk none (List.drop 0 (aggL v36))).bind fun v37 =>
 ((sem_topo_Name n) [v37]).bind fun v38 =>
 (scal1 Try.prog (Op.unary Go.UnOp.not) v38).bind fun v39 =>
 condV v39 (
 (scal1 Try.prog (Instr.makeInterface 54) (vi 2)).bind fun v40 =>
 some v40) (
 (ldk (some 3) (List.drop 0 v1)).bind fun v41 =>
 (ldk (some 2) (List.drop 1 (aggL v36))).bind fun v42 =>
 ((sem_topo_Spot n) [v41, v42]).bind fun v43 =>
 (scal1 Try.prog (Op.unary Go.UnOp.not) v43).bind fun v44 =>
 condV v44 (
 (scal1 Try.prog (Instr.makeInterface 54) (vi 1)).bind fun v45 =>
 some v45) (
 (ldk none (List.drop 0 (aggL v36))).bind fun v46 =>
 (lookV Try.prog 74 false (List.getD vs32 1 V.any) v46).bind fun v47 =>
 (guardV v47 false (some V.any)).bind fun v48 =>
 (guardV v47 false (some V.any)).bind fun v49 =>
 (guardV v47 false ((gate v47 false (ldk (some 2) (List.drop 1 (aggL v36)))).bind fun v50 =>
 some v50)).bind fun v51 =>
 (guardV v47 false ((gate v47 false (lookV Try.prog 68 false (List.getD vs32 0 V.any) v51)).bind fun v52 =>
 some v52)).bind fun v53 =>
 (pickV v47 (vb true) v53).bind fun v54 =>
 condV v54 (
 (scal1 Try.prog (Instr.makeInterface 54) (vi 7)).bind fun v55 =>
 some v55) (
 (ldk none (List.drop 0 (aggL v36))).bind fun v56 =>
 (litV v56).bind fun v57 =>
 (ldk (some 2) (List.drop 1 (aggL v36))).bind fun v58 =>
 (litV v58).bind fun v59 =>
 (putV Try.prog 74 (List.getD vs32 1 V.any) v57 (vb true)).bind fun v60 =>
 (putV Try.prog 68 (List.getD vs32 0 V.any) v59 (vb true)).bind fun v61 =>
 (bin2 Try.prog BinOp.add 3 (ot 81) (oc 1) (List.getD vs32 2 V.any) (vi 1)).bind fun v62 =>
 (keepO (some v1) (some v1) (some [v61, v60, v62])).bind rec31)))) (
 J30 [])) n)) fun J26 =>
 (keepO (some v1) (some v1) (some [(V.mp []), (vi 0)])).bind (fixN (fun rec63 vs64 =>
 (bin2 Try.prog BinOp.lss 3 (ot 35) (ot 34) (List.getD vs64 1 V.any) v24).bind fun v65 =>
 condV v65 (
 (idxS 4 v23 (List.getD vs64 1 V.any)).bind fun v66 =>
 (ldp (some 4) v66).bind fun v67 =>
 (spliceV [(vi 0), (vi 0), (vi 0), (vi 0)] 0 4 v67).bind fun v68 =>
 (ldk (some 3) (List.drop 0 v1)).bind fun v69 =>
 (ldk (some 2) (List.drop 0 (aggL v68))).bind fun v70 =>
 ((sem_topo_Spot n) [v69, v70]).bind fun v71 =>
 (scal1 Try.prog (Op.unary Go.UnOp.not) v71).bind fun v72 =>
 (guardV v72 false ((ldk (some 3) (List.drop 0 v1)).bind fun v73 =>
 some v73)).bind fun v74 =>
 (guardV v72 false (some V.any)).bind fun v75 =>
 (guardV v72 false ((gate v72 false (ldk (some 2) (List.drop 2 (aggL v68)))).bind fun v76 =>
 some v76)).bind fun v77 =>
 (guardV v72 false (((sem_topo_Spot n) [v74, v77]).bind fun v78 =>
 some v78)).bind fun v79 =>
 (guardV v72 false ((scal1 Try.prog (Op.unary Go.UnOp.not) v79).bind fun v80 =>
 some v80)).bind fun v81 =>
 (pickV v72 (vb true) v81).bind fun v82 =>
 condV v82 (
 (scal1 Try.prog (Instr.makeInterface 54) (vi 1)).bind fun v83 =>
 some v83) (
 (ldk (some 2) (List.drop 0 (aggL v68))).bind fun v84 =>
 (lookV Try.prog 68 false (List.getD vs64 0 V.any) v84).bind fun v85 =>
 (guardV v85 false (some V.any)).bind fun v86 =>
 (guardV v85 false (some V.any)).bind fun v87 =>
 (guardV v85 false ((gate v85 false (ldk (some 2) (List.drop 2 (aggL v68)))).bind fun v88 =>
 some v88)).bind fun v89 =>
 (guardV v85 false ((gate v85 false (lookV Try.prog 68 false (List.getD vs64 0 V.any) v89)).bind fun v90 =>
 some v90)).bind fun v91 =>
 (pickV v85 (vb true) v91).bind fun v92 =>
 (guardV v92 false (some V.any)).bind fun v93 =>
 (guardV v92 false ((gate v92 false (ldk (some 2) (List.drop 0 (aggL v68)))).bind fun v94 =>
 some v94)).bind fun v95 =>
 (guardV v92 false (some V.any)).bind fun v96 =>
 (guardV v92 false ((gate v92 false (ldk (some 2) (List.drop 2 (aggL v68)))).bind fun v97 =>
 some v97)).bind fun v98 =>
 (guardV v92 false ((bin2 Try.prog BinOp.eql 70 (ot 64) (ot 66) v95 v98).bind fun v99 =>
 some v99)).bind fun v100 =>
 (pickV v92 (vb true) v100).bind fun v101 =>
 condV v101 (
 (scal1 Try.prog (Instr.makeInterface 54) (vi 7)).bind fun v102 =>
 some v102) (
 (ldk (some 2) (List.drop 0 (aggL v68))).bind fun v103 =>
 (litV v103).bind fun v104 =>
 (ldk (some 2) (List.drop 2 (aggL v68))).bind fun v105 =>
 (litV v105).bind fun v106 =>
 (putV Try.prog 68 (List.getD vs64 0 V.any) v104 (vb true)).bind fun v107 =>
 (putV Try.prog 68 v107 v106 (vb true)).bind fun v108 =>
 (bin2 Try.prog BinOp.add 3 (ot 35) (oc 1) (List.getD vs64 1 V.any) (vi 1)).bind fun v109 =>
 (keepO (some v1) (some v1) (some [v108, v109])).bind rec63))) (
 (keepO (some v1) (some v1) (some [(List.getD vs64 0 V.any)])).bind J26)) n))) := by kernel_rfl
noncomputable def t_topo_Check (a0 : T_Topo) : Option Int :=
 if ((decide (a0.Switches < 1)) || (decide (6 < a0.Switches))) = true then (
 some 1) else (
 if ((decide (200 < (List.length a0.Links : Int))) || (decide (8 < (List.length a0.Hosts : Int)))) = true then (
 some 4) else (
 join (fun (s36 : (List (T_Spot × Bool))) =>
 join (fun (s43 : Unit) =>
 some 0) fun j44 =>
 loopI a0.Hosts (fun (i52 : Int) x53 (s48 : ((List (T_Spot × Bool)) × (List (ByteArray × Bool)))) k49 =>
 (t_topo_Name x53.Name).bind fun r63 =>
 if (!r63) = true then (
 some 2) else (
 (t_topo_Spot a0 x53.At).bind fun r70 =>
 if (!r70) = true then (
 some 1) else (
 if ((mget s48.2 x53.Name false) || (mget s48.1 x53.At false)) = true then (
 some 7) else (
 k49 ((mput s48.1 x53.At true), (mput s48.2 x53.Name true)))))) (fun (s48 : ((List (T_Spot × Bool)) × (List (ByteArray × Bool)))) =>
 j44 ()) (s36, [])) fun j37 =>
 loopI a0.Links (fun (i105 : Int) x106 (s101 : (List (T_Spot × Bool))) k102 =>
 (t_topo_Spot a0 x106.A).bind fun r117 =>
 (gd (!(!r117)) default (t_topo_Spot a0 x106.B)).bind fun r130 =>
 if ((!r117) || (!r130)) = true then (
 some 1) else (
 if (((mget s101 x106.A false) || (mget s101 x106.B false)) || (decide (x106.A = x106.B))) = true then (
 some 7) else (
 k102 (mput (mput s101 x106.A true) x106.B true)))) (fun (s101 : (List (T_Spot × Bool))) =>
 j37 (s101)) ([])))
theorem ty_topo_Check {n : Nat} (hn : bigN ≤ n) (a0 : T_Topo) : Rv (fun x : Int => (eV x)) (sem_topo_Check n [(T_Topo.e a0)]) (t_topo_Check a0) := by
  rw [eq_topo_Check]
  unfold t_topo_Check
  refine tb (x := (T_Topo.c a0)) rfl ?_
  refine tb (x := (vi a0.Switches)) (rfl) ?_
  refine tb (x := (vb (decide (a0.Switches < 1)))) (d_lss) ?_
  refine tg_f (x := V.any) (fun h4 => rfl) ?_
  refine tg_f (x := (vi a0.Switches)) (fun h6 => bind_some_eq (gate_pos (not_t h6) (rfl))) ?_
  refine tg_f (x := (vb (decide (6 < a0.Switches)))) (fun h9 => by simp only [gv_t h9]; exact bind_some_eq (d_gtr)) ?_
  refine tb (x := (vb ((decide (a0.Switches < 1)) || (decide (6 < a0.Switches))))) (pick_or (fun h9 => gv_t (not_f h9))) ?_
  refine tcond (fun h13 => ?_) (fun h13 => ?_)
  · refine tb (x := (eV 1)) (p_mkE (by decide)) ?_
    exact rf_ret rfl
  · refine tb (x := (V.sl (List.map T_Link.c a0.Links))) (rfl) ?_
    refine tb (x := (vi (List.length a0.Links : Int))) (p_len _) ?_
    refine tb (x := (vb (decide (200 < (List.length a0.Links : Int))))) (d_gtr) ?_
    refine tg_f (x := V.any) (fun h18 => rfl) ?_
    refine tg_f (x := (V.sl (List.map T_Host.c a0.Hosts))) (fun h20 => bind_some_eq (gate_pos (not_t h20) (rfl))) ?_
    refine tg_f (x := (vi (List.length a0.Hosts : Int))) (fun h23 => by simp only [gv_t h23]; exact bind_some_eq (p_len _)) ?_
    refine tg_f (x := (vb (decide (8 < (List.length a0.Hosts : Int))))) (fun h26 => by simp only [gv_t h26]; exact bind_some_eq (d_gtr)) ?_
    refine tb (x := (vb ((decide (200 < (List.length a0.Links : Int))) || (decide (8 < (List.length a0.Hosts : Int)))))) (pick_or (fun h9 => gv_t (not_f h9))) ?_
    refine tcond (fun h30 => ?_) (fun h30 => ?_)
    · refine tb (x := (eV 4)) (p_mkE (by decide)) ?_
      exact rf_ret rfl
    · refine tb (x := (V.sl (List.map T_Link.c a0.Links))) (rfl) ?_
      refine tb (x := (vi (List.length a0.Links : Int))) (p_len _) ?_
      refine tjoin (mk := fun s36 : (List (T_Spot × Bool)) => [(V.mp (mrep T_Spot.val (fun b : Bool => Go.Value.bool b) s36))]) (fun s36 => ?_) fun J35 j37 h38 => ?_
      · refine tb (x := (V.sl (List.map T_Host.c a0.Hosts))) (rfl) ?_
        refine tb (x := (vi (List.length a0.Hosts : Int))) (p_len _) ?_
        refine tjoin (mk := fun s43 : Unit => []) (fun s43 => ?_) fun J42 j44 h45 => ?_
        · exact rf_ret rfl
        · refine tkeepO2 ?_ rfl
          refine tsome ?_
          refine rf_loopI (mk := fun (i52 : Int) (s48 : ((List (T_Spot × Bool)) × (List (ByteArray × Bool)))) => [(V.mp (mrep T_Spot.val (fun b : Bool => Go.Value.bool b) s48.1)), (V.mp (mrep (fun b : ByteArray => Go.Value.string b) (fun b : Bool => Go.Value.bool b) s48.2)), (vi (i52 : Int))]) hn a0.Hosts (s36, []) (fun i52 x53 h54 h55 h56 s48 rec46 k49 h50 => ?_) (fun s48 rec97 h96 => ?_)
          · refine tb (x := (vb (decide ((i52 : Int) < (List.length a0.Hosts : Int))))) (d_lss) ?_
            refine tcond_t h56 ?_
            refine tb (x := (V.ptr (T_Host.c x53))) (p_idx_at (c := T_Host.c) (fun _ => rfl) h54) ?_
            refine tb (x := (T_Host.e x53)) (rfl) ?_
            refine tb (x := V.agg (T_Host.c x53)) (by kernel_rfl) ?_
            refine tb (x := (vt x53.Name)) (rfl) ?_
            refine tbo (ty_topo_Name hn x53.Name) fun r63 => ?_
            refine tb (x := (vb (!r63))) (d_not) ?_
            refine tcond (fun h65 => ?_) (fun h65 => ?_)
            · refine tb (x := (eV 2)) (p_mkE (by decide)) ?_
              exact rf_ret rfl
            · refine tb (x := (T_Topo.e a0)) (rfl) ?_
              refine tb (x := (T_Spot.e x53.At)) (rfl) ?_
              refine tbo (ty_topo_Spot hn a0 x53.At) fun r70 => ?_
              refine tb (x := (vb (!r70))) (d_not) ?_
              refine tcond (fun h72 => ?_) (fun h72 => ?_)
              · refine tb (x := (eV 1)) (p_mkE (by decide)) ?_
                exact rf_ret rfl
              · refine tb (x := (vt x53.Name)) (rfl) ?_
                refine tb (x := (vb (mget s48.2 x53.Name false))) (p_look (kt := 9) (et := 4) (kv := (fun b : ByteArray => Go.Value.string b)) (vv := (fun b : Bool => Go.Value.bool b)) (e1 := fun x : Bool => (vb x)) (mkey_str (by kernel_rfl)) (by kernel_rfl) false (fun _ => by kernel_rfl) (fun _ => rfl) x53.Name rfl s48.2) ?_
                refine tg_f (x := V.any) (fun h76 => rfl) ?_
                refine tg_f (x := V.any) (fun h78 => rfl) ?_
                refine tg_f (x := (T_Spot.e x53.At)) (fun h80 => bind_some_eq (gate_pos (not_t h80) (rfl))) ?_
                refine tg_f (x := (vb (mget s48.1 x53.At false))) (fun h83 => by simp only [gv_t h83]; exact bind_some_eq (gate_pos (not_t h83) (p_look (kt := 70) (et := 4) (kv := T_Spot.val) (vv := (fun b : Bool => Go.Value.bool b)) (e1 := fun x : Bool => (vb x)) T_Spot.mkey (by kernel_rfl) false (fun _ => by kernel_rfl) (fun _ => rfl) x53.At rfl s48.1))) ?_
                refine tb (x := (vb ((mget s48.2 x53.Name false) || (mget s48.1 x53.At false)))) (pick_or (fun h9 => gv_t (not_f h9))) ?_
                refine tcond (fun h87 => ?_) (fun h87 => ?_)
                · refine tb (x := (eV 7)) (p_mkE (by decide)) ?_
                  exact rf_ret rfl
                · refine tb (x := (vt x53.Name)) (rfl) ?_
                  refine tb (x := (vt x53.Name)) rfl ?_
                  refine tb (x := (T_Spot.e x53.At)) (rfl) ?_
                  refine tb (x := (T_Spot.e x53.At)) rfl ?_
                  refine tb (x := V.mp (mrep (fun b : ByteArray => Go.Value.string b) (fun b : Bool => Go.Value.bool b) (mput s48.2 x53.Name true))) (p_put (kt := 9) (et := 4) (kv := (fun b : ByteArray => Go.Value.string b)) (vv := (fun b : Bool => Go.Value.bool b)) (mkey_str (by kernel_rfl)) (by kernel_rfl) x53.Name true rfl rfl s48.2) ?_
                  refine tb (x := V.mp (mrep T_Spot.val (fun b : Bool => Go.Value.bool b) (mput s48.1 x53.At true))) (p_put (kt := 70) (et := 4) (kv := T_Spot.val) (vv := (fun b : Bool => Go.Value.bool b)) T_Spot.mkey (by kernel_rfl) x53.At true rfl rfl s48.1) ?_
                  refine tb (x := (vi ((i52 : Int) + 1))) (p_incN h55) ?_
                  refine tkeepO2 ?_ rfl
                  refine tsome ?_
                  exact h50 ((mput s48.1 x53.At true), (mput s48.2 x53.Name true))
          · refine tb (x := (vb (decide ((List.length a0.Hosts : Int) < (List.length a0.Hosts : Int))))) (d_lss) ?_
            refine tcond_f h96 ?_
            exact h45 ()
      · refine tkeepO2 ?_ rfl
        refine tsome ?_
        refine rf_loopI (mk := fun (i105 : Int) (s101 : (List (T_Spot × Bool))) => [(V.mp (mrep T_Spot.val (fun b : Bool => Go.Value.bool b) s101)), (vi (i105 : Int))]) hn a0.Links ([]) (fun i105 x106 h107 h108 h109 s101 rec99 k102 h103 => ?_) (fun s101 rec174 h173 => ?_)
        · refine tb (x := (vb (decide ((i105 : Int) < (List.length a0.Links : Int))))) (d_lss) ?_
          refine tcond_t h109 ?_
          refine tb (x := (V.ptr (T_Link.c x106))) (p_idx_at (c := T_Link.c) (fun _ => rfl) h107) ?_
          refine tb (x := (T_Link.e x106)) (rfl) ?_
          refine tb (x := V.agg (T_Link.c x106)) (by kernel_rfl) ?_
          refine tb (x := (T_Topo.e a0)) (rfl) ?_
          refine tb (x := (T_Spot.e x106.A)) (rfl) ?_
          refine tbo (ty_topo_Spot hn a0 x106.A) fun r117 => ?_
          refine tb (x := (vb (!r117))) (d_not) ?_
          refine tg_f (x := (T_Topo.e a0)) (fun h119 => bind_some_eq (rfl)) ?_
          refine tg_f (x := V.any) (fun h122 => rfl) ?_
          refine tg_f (x := (T_Spot.e x106.B)) (fun h124 => bind_some_eq (gate_pos (not_t h124) (rfl))) ?_
          refine tgo_f (fun h127 => by simp only [gv_t h127]; exact rf_bind_some (ty_topo_Spot hn a0 x106.B)) fun r130 => ?_
          refine tg_f (x := (vb (!r130))) (fun h131 => by simp only [gv_t h131]; exact bind_some_eq (d_not)) ?_
          refine tb (x := (vb ((!r117) || (!r130)))) (pick_or (fun h9 => gv_t (not_f h9))) ?_
          refine tcond (fun h135 => ?_) (fun h135 => ?_)
          · refine tb (x := (eV 1)) (p_mkE (by decide)) ?_
            exact rf_ret rfl
          · refine tb (x := (T_Spot.e x106.A)) (rfl) ?_
            refine tb (x := (vb (mget s101 x106.A false))) (p_look (kt := 70) (et := 4) (kv := T_Spot.val) (vv := (fun b : Bool => Go.Value.bool b)) (e1 := fun x : Bool => (vb x)) T_Spot.mkey (by kernel_rfl) false (fun _ => by kernel_rfl) (fun _ => rfl) x106.A rfl s101) ?_
            refine tg_f (x := V.any) (fun h139 => rfl) ?_
            refine tg_f (x := V.any) (fun h141 => rfl) ?_
            refine tg_f (x := (T_Spot.e x106.B)) (fun h143 => bind_some_eq (gate_pos (not_t h143) (rfl))) ?_
            refine tg_f (x := (vb (mget s101 x106.B false))) (fun h146 => by simp only [gv_t h146]; exact bind_some_eq (gate_pos (not_t h146) (p_look (kt := 70) (et := 4) (kv := T_Spot.val) (vv := (fun b : Bool => Go.Value.bool b)) (e1 := fun x : Bool => (vb x)) T_Spot.mkey (by kernel_rfl) false (fun _ => by kernel_rfl) (fun _ => rfl) x106.B rfl s101))) ?_
            refine tb (x := (vb ((mget s101 x106.A false) || (mget s101 x106.B false)))) (pick_or (fun h9 => gv_t (not_f h9))) ?_
            refine tg_f (x := V.any) (fun h150 => rfl) ?_
            refine tg_f (x := (T_Spot.e x106.A)) (fun h152 => bind_some_eq (gate_pos (not_t h152) (rfl))) ?_
            refine tg_f (x := V.any) (fun h155 => rfl) ?_
            refine tg_f (x := (T_Spot.e x106.B)) (fun h157 => bind_some_eq (gate_pos (not_t h157) (rfl))) ?_
            refine tg_f (x := (vb (decide (x106.A = x106.B)))) (fun h160 => by simp only [gv_t h160]; exact bind_some_eq (T_Spot.eql x106.A x106.B)) ?_
            refine tb (x := (vb (((mget s101 x106.A false) || (mget s101 x106.B false)) || (decide (x106.A = x106.B))))) (pick_or (fun h9 => gv_t (not_f h9))) ?_
            refine tcond (fun h164 => ?_) (fun h164 => ?_)
            · refine tb (x := (eV 7)) (p_mkE (by decide)) ?_
              exact rf_ret rfl
            · refine tb (x := (T_Spot.e x106.A)) (rfl) ?_
              refine tb (x := (T_Spot.e x106.A)) rfl ?_
              refine tb (x := (T_Spot.e x106.B)) (rfl) ?_
              refine tb (x := (T_Spot.e x106.B)) rfl ?_
              refine tb (x := V.mp (mrep T_Spot.val (fun b : Bool => Go.Value.bool b) (mput s101 x106.A true))) (p_put (kt := 70) (et := 4) (kv := T_Spot.val) (vv := (fun b : Bool => Go.Value.bool b)) T_Spot.mkey (by kernel_rfl) x106.A true rfl rfl s101) ?_
              refine tb (x := V.mp (mrep T_Spot.val (fun b : Bool => Go.Value.bool b) (mput (mput s101 x106.A true) x106.B true))) (p_put (kt := 70) (et := 4) (kv := T_Spot.val) (vv := (fun b : Bool => Go.Value.bool b)) T_Spot.mkey (by kernel_rfl) x106.B true rfl rfl (mput s101 x106.A true)) ?_
              refine tb (x := (vi ((i105 : Int) + 1))) (p_incN h108) ?_
              refine tkeepO2 ?_ rfl
              refine tsome ?_
              exact h103 (mput (mput s101 x106.A true) x106.B true)
        · refine tb (x := (vb (decide ((List.length a0.Links : Int) < (List.length a0.Links : Int))))) (d_lss) ?_
          refine tcond_f h173 ?_
          refine tkeepO2 ?_ rfl
          refine tsome ?_
          exact h38 (s101)

/-! railpoint/net.Check -/
def an_net_Check : Ann := .seq (.reg 0 [] [] []) (.seq (.seq (.reg 0 [] [] []) (.seq (.reg 0 [] [] []) (.cond none (.seq (.reg 0 [] [] []) (.no)) (.no)))) (.seq (.seq (.reg 0 [] [] []) (.cond none (.seq (.reg 0 [] [] []) (.no)) (.no))) (.seq (.seq (.reg 0 [] [] []) (.blk (some []) (.loop [.s 24] (.seq (.reg 0 [] [] []) (.seq (.cond none (.no) (.no)) (.seq (.blk none (.seq (.reg 0 [] [] []) (.seq (.reg 0 [] [] []) (.seq (.reg 0 [] [] []) (.cond none (.seq (.reg 0 [] [] []) (.no)) (.no)))))) (.reg 0 [] [] []))))))) (.seq (.reg 0 [] [] []) (.no)))))
noncomputable def sem_net_Check (n : Nat) (xs : List V) : Option V := if xs.length ≤ 34 then denF Try.prog (envOf [(23, (sem_topo_Check n)), (9, (sem_rule_Table n))]) n Try.f11 an_net_Check xs else none
theorem ok_net_Check (n : Nat) : SemOk Try.prog DW 11 (sem_net_Check n) := fun xs y h => by
  unfold sem_net_Check at h
  split at h
  · rename_i hl
    exact denF_ok stb Try.func11 (by kernel_rfl) (envOf_ok (semsOk_cons (ok_topo_Check n) (semsOk_cons (ok_rule_Table n) semsOk_nil))) (by rw [Try.ntmps11]; exact hl) h
  · cases h
theorem eq_net_Check (n : Nat) (x0 : V) : sem_net_Check n [x0] =
 (V.cellsO x0).bind fun v1 =>
 (ldk (some 3) (List.drop 0 v1)).bind fun v2 =>
 ((sem_topo_Check n) [v2]).bind fun v3 =>
 (bin2 Try.prog BinOp.neq 31 (ot 10) (Operand.const Go.Value.nilIface) v3 vn).bind fun v4 =>
 condV v4 (
 some v3) (
 (ldk none (List.drop 3 v1)).bind fun v5 =>
 (lenS [v5]).bind fun v6 =>
 (ldk none (List.drop 0 v1)).bind fun v7 =>
 (bin2 Try.prog BinOp.neq 3 (ot 15) (ot 18) v6 v7).bind fun v8 =>
 condV v8 (
 (scal1 Try.prog (Instr.makeInterface 54) (vi 3)).bind fun v9 =>
 some v9) (
 (ldk none (List.drop 3 v1)).bind fun v10 =>
 (lenS [v10]).bind fun v11 =>
 JoinPt (fun vs12 =>
 some vn) fun J13 =>
 (fixN (fun rec14 vs15 =>
 (bin2 Try.prog BinOp.lss 3 (ot 24) (ot 23) (List.getD vs15 0 V.any) v11).bind fun v16 =>
 condV v16 (
 (idxS 1 v10 (List.getD vs15 0 V.any)).bind fun v17 =>
 (ldp none v17).bind fun v18 =>
 ((sem_rule_Table n) [v18]).bind fun v19 =>
 (bin2 Try.prog BinOp.neq 31 (ot 30) (Operand.const Go.Value.nilIface) v19 vn).bind fun v20 =>
 condV v20 (
 some v19) (
 (bin2 Try.prog BinOp.add 3 (ot 24) (oc 1) (List.getD vs15 0 V.any) (vi 1)).bind fun v21 =>
 rec14 [v21])) (
 J13 [])) n) [(vi 0)])) := by kernel_rfl
noncomputable def t_net_Check (a0 : T_Net) : Option Int :=
 (t_topo_Check a0.Topo).bind fun r4 =>
 if (!decide (r4 = 0)) = true then (
 some r4) else (
 if (decide ((List.length a0.Tables : Int) ≠ a0.Topo.Switches)) = true then (
 some 3) else (
 join (fun (s17 : Unit) =>
 some 0) fun j18 =>
 loopI a0.Tables (fun (i26 : Int) x27 (s22 : Unit) k23 =>
 (t_rule_Table x27).bind fun r35 =>
 if (!decide (r35 = 0)) = true then (
 some r35) else (
 k23 ())) (fun (s22 : Unit) =>
 j18 ()) ()))
theorem ty_net_Check {n : Nat} (hn : bigN ≤ n) (a0 : T_Net) : Rv (fun x : Int => (eV x)) (sem_net_Check n [(T_Net.e a0)]) (t_net_Check a0) := by
  rw [eq_net_Check]
  unfold t_net_Check
  refine tb (x := (T_Net.c a0)) rfl ?_
  refine tb (x := (T_Topo.e a0.Topo)) (rfl) ?_
  refine tbo (ty_topo_Check hn a0.Topo) fun r4 => ?_
  refine tb (x := (vb (!decide (r4 = 0)))) (p_err_neq _) ?_
  refine tcond (fun h6 => ?_) (fun h6 => ?_)
  · exact rf_ret rfl
  · refine tb (x := (V.sl (List.map (cS T_Rule.c) a0.Tables))) (rfl) ?_
    refine tb (x := (vi (List.length a0.Tables : Int))) (p_len _) ?_
    refine tb (x := (vi a0.Topo.Switches)) (rfl) ?_
    refine tb (x := (vb (decide ((List.length a0.Tables : Int) ≠ a0.Topo.Switches)))) (d_neq) ?_
    refine tcond (fun h11 => ?_) (fun h11 => ?_)
    · refine tb (x := (eV 3)) (p_mkE (by decide)) ?_
      exact rf_ret rfl
    · refine tb (x := (V.sl (List.map (cS T_Rule.c) a0.Tables))) (rfl) ?_
      refine tb (x := (vi (List.length a0.Tables : Int))) (p_len _) ?_
      refine tjoin (mk := fun s17 : Unit => []) (fun s17 => ?_) fun J16 j18 h19 => ?_
      · exact rf_ret rfl
      · refine rf_loopI (mk := fun (i26 : Int) (s22 : Unit) => [(vi (i26 : Int))]) hn a0.Tables () (fun i26 x27 h28 h29 h30 s22 rec20 k23 h24 => ?_) (fun s22 rec40 h39 => ?_)
        · refine tb (x := (vb (decide ((i26 : Int) < (List.length a0.Tables : Int))))) (d_lss) ?_
          refine tcond_t h30 ?_
          refine tb (x := (V.ptr [(V.sl (List.map T_Rule.c x27))])) (p_idx_at (c := (cS T_Rule.c)) (fun _ => rfl) h28) ?_
          refine tb (x := (V.sl (List.map T_Rule.c x27))) (rfl) ?_
          refine tbo (ty_rule_Table hn x27) fun r35 => ?_
          refine tb (x := (vb (!decide (r35 = 0)))) (p_err_neq _) ?_
          refine tcond (fun h37 => ?_) (fun h37 => ?_)
          · exact rf_ret rfl
          · refine tb (x := (vi ((i26 : Int) + 1))) (p_incN h29) ?_
            exact h24 ()
        · refine tb (x := (vb (decide ((List.length a0.Tables : Int) < (List.length a0.Tables : Int))))) (d_lss) ?_
          refine tcond_f h39 ?_
          exact h19 ()

/-! railpoint/class.All -/
def an_class_All : Ann := .seq (.reg 0 [] [] []) (.seq (.seq (.reg 0 [] [] []) (.seq (.reg 0 [] [] []) (.cond none (.seq (.reg 0 [] [] []) (.no)) (.no)))) (.seq (.reg 0 [] [] []) (.no)))
noncomputable def sem_class_All (n : Nat) (xs : List V) : Option V := if xs.length ≤ 13 then denF Try.prog (envOf [(11, (sem_net_Check n)), (10, (sem_class_classes n))]) n Try.f5 an_class_All xs else none
theorem ok_class_All (n : Nat) : SemOk Try.prog DW 5 (sem_class_All n) := fun xs y h => by
  unfold sem_class_All at h
  split at h
  · rename_i hl
    exact denF_ok stb Try.func5 (by kernel_rfl) (envOf_ok (semsOk_cons (ok_net_Check n) (semsOk_cons (ok_class_classes n) semsOk_nil))) (by rw [Try.ntmps5]; exact hl) h
  · cases h
theorem eq_class_All (n : Nat) (x0 : V) : sem_class_All n [x0] =
 (V.cellsO x0).bind fun v1 =>
 (ldk (some 4) (List.drop 0 v1)).bind fun v2 =>
 ((sem_net_Check n) [v2]).bind fun v3 =>
 (bin2 Try.prog BinOp.neq 31 (ot 7) (Operand.const Go.Value.nilIface) v3 vn).bind fun v4 =>
 condV v4 (
 some (V.tup [(V.sl []), v3])) (
 (ldk none (List.drop 3 v1)).bind fun v5 =>
 ((sem_class_classes n) [v5]).bind fun v6 =>
 some (V.tup [v6, vn])) := by kernel_rfl
noncomputable def t_class_All (a0 : T_Net) : Option ((List (List Int)) × Int) :=
 (t_net_Check a0).bind fun r4 =>
 if (!decide (r4 = 0)) = true then (
 some ([], r4)) else (
 (t_class_classes a0.Tables).bind fun r9 =>
 some (r9, 0))
theorem ty_class_All {n : Nat} (hn : bigN ≤ n) (a0 : T_Net) : Rv (fun x : ((List (List Int)) × Int) => V.tup [(V.sl (List.map (cS cI) x.1)), (eV x.2)]) (sem_class_All n [(T_Net.e a0)]) (t_class_All a0) := by
  rw [eq_class_All]
  unfold t_class_All
  refine tb (x := (T_Net.c a0)) rfl ?_
  refine tb (x := (T_Net.e a0)) (rfl) ?_
  refine tbo (ty_net_Check hn a0) fun r4 => ?_
  refine tb (x := (vb (!decide (r4 = 0)))) (p_err_neq _) ?_
  refine tcond (fun h6 => ?_) (fun h6 => ?_)
  · exact rf_ret rfl
  · refine tb (x := (V.sl (List.map (cS T_Rule.c) a0.Tables))) (rfl) ?_
    refine tbo (ty_class_classes hn a0.Tables) fun r9 => ?_
    exact rf_ret rfl

/-! slices.Index   int int  -/
def an_slices_Index_int_int : Ann := .seq (.reg 0 [] [] []) (.seq (.seq (.reg 0 [] [] []) (.blk (some []) (.loop [.s 8] (.seq (.reg 0 [] [] []) (.seq (.cond none (.no) (.no)) (.seq (.blk none (.seq (.reg 0 [] [] []) (.seq (.reg 0 [] [] []) (.cond none (.seq (.reg 0 [] [] []) (.no)) (.no))))) (.reg 0 [] [] []))))))) (.seq (.reg 0 [] [] []) (.no)))
noncomputable def sem_slices_Index_int_int (n : Nat) (xs : List V) : Option V := if xs.length ≤ 19 then denF Try.prog (envOf []) n Try.f24 an_slices_Index_int_int xs else none
theorem ok_slices_Index_int_int (n : Nat) : SemOk Try.prog DW 24 (sem_slices_Index_int_int n) := fun xs y h => by
  unfold sem_slices_Index_int_int at h
  split at h
  · rename_i hl
    exact denF_ok stb Try.func24 (by kernel_rfl) (envOf_ok semsOk_nil) (by rw [Try.ntmps24]; exact hl) h
  · cases h
theorem eq_slices_Index_int_int (n : Nat) (x0 x1 : V) : sem_slices_Index_int_int n [x0, x1] =
 (lenS [x0]).bind fun v1 =>
 JoinPt (fun vs2 =>
 some (vi (-1 : Int))) fun J3 =>
 (fixN (fun rec4 vs5 =>
 (bin2 Try.prog BinOp.lss 3 (ot 8) (ot 7) (List.getD vs5 0 V.any) v1).bind fun v6 =>
 condV v6 (
 (idxS 1 x0 (List.getD vs5 0 V.any)).bind fun v7 =>
 (ldp none v7).bind fun v8 =>
 (bin2 Try.prog BinOp.eql 3 (ot 11) (ot 15) x1 v8).bind fun v9 =>
 condV v9 (
 some (List.getD vs5 0 V.any)) (
 (bin2 Try.prog BinOp.add 3 (ot 8) (oc 1) (List.getD vs5 0 V.any) (vi 1)).bind fun v10 =>
 rec4 [v10])) (
 J3 [])) n) [(vi 0)] := by kernel_rfl
noncomputable def t_slices_Index_int_int (a0 : (List Int)) (a1 : Int) : Option Int :=
 join (fun (s4 : Unit) =>
 some (-1 : Int)) fun j5 =>
 loopI a0 (fun (i13 : Int) x14 (s9 : Unit) k10 =>
 if (decide (a1 = x14)) = true then (
 some i13) else (
 k10 ())) (fun (s9 : Unit) =>
 j5 ()) ()
theorem ty_slices_Index_int_int {n : Nat} (hn : bigN ≤ n) (a0 : (List Int)) (a1 : Int) : Rv (fun x : Int => (vi x)) (sem_slices_Index_int_int n [(V.sl (List.map cI a0)), (vi a1)]) (t_slices_Index_int_int a0 a1) := by
  rw [eq_slices_Index_int_int]
  unfold t_slices_Index_int_int
  refine tb (x := (vi (List.length a0 : Int))) (p_len _) ?_
  refine tjoin (mk := fun s4 : Unit => []) (fun s4 => ?_) fun J3 j5 h6 => ?_
  · exact rf_ret rfl
  · refine rf_loopI (mk := fun (i13 : Int) (s9 : Unit) => [(vi (i13 : Int))]) hn a0 () (fun i13 x14 h15 h16 h17 s9 rec7 k10 h11 => ?_) (fun s9 rec25 h24 => ?_)
    · refine tb (x := (vb (decide ((i13 : Int) < (List.length a0 : Int))))) (d_lss) ?_
      refine tcond_t h17 ?_
      refine tb (x := (V.ptr [(vi x14)])) (p_idx_at (c := cI) (fun _ => rfl) h15) ?_
      refine tb (x := (vi x14)) (rfl) ?_
      refine tb (x := (vb (decide (a1 = x14)))) (d_eql) ?_
      refine tcond (fun h22 => ?_) (fun h22 => ?_)
      · exact rf_ret rfl
      · refine tb (x := (vi ((i13 : Int) + 1))) (p_incN h16) ?_
        exact h11 ()
    · refine tb (x := (vb (decide ((List.length a0 : Int) < (List.length a0 : Int))))) (d_lss) ?_
      refine tcond_f h24 ?_
      exact h6 ()

/-! slices.Contains   int int  -/
def an_slices_Contains_int_int : Ann := .seq (.reg 0 [] [] []) (.seq (.reg 0 [] [] []) (.no))
noncomputable def sem_slices_Contains_int_int (n : Nat) (xs : List V) : Option V := if xs.length ≤ 9 then denF Try.prog (envOf [(24, (sem_slices_Index_int_int n))]) n Try.f12 an_slices_Contains_int_int xs else none
theorem ok_slices_Contains_int_int (n : Nat) : SemOk Try.prog DW 12 (sem_slices_Contains_int_int n) := fun xs y h => by
  unfold sem_slices_Contains_int_int at h
  split at h
  · rename_i hl
    exact denF_ok stb Try.func12 (by kernel_rfl) (envOf_ok (semsOk_cons (ok_slices_Index_int_int n) semsOk_nil)) (by rw [Try.ntmps12]; exact hl) h
  · cases h
theorem eq_slices_Contains_int_int (n : Nat) (x0 x1 : V) : sem_slices_Contains_int_int n [x0, x1] =
 ((sem_slices_Index_int_int n) [x0, x1]).bind fun v1 =>
 (bin2 Try.prog BinOp.geq 3 (ot 7) (oc 0) v1 (vi 0)).bind fun v2 =>
 some v2 := by kernel_rfl
noncomputable def t_slices_Contains_int_int (a0 : (List Int)) (a1 : Int) : Option Bool :=
 (t_slices_Index_int_int a0 a1).bind fun r2 =>
 some (decide (0 ≤ r2))
theorem ty_slices_Contains_int_int {n : Nat} (hn : bigN ≤ n) (a0 : (List Int)) (a1 : Int) : Rv (fun x : Bool => (vb x)) (sem_slices_Contains_int_int n [(V.sl (List.map cI a0)), (vi a1)]) (t_slices_Contains_int_int a0 a1) := by
  rw [eq_slices_Contains_int_int]
  unfold t_slices_Contains_int_int
  refine tbo (ty_slices_Index_int_int hn a0 a1) fun r2 => ?_
  refine tb (x := (vb (decide (0 ≤ r2)))) (d_geq) ?_
  exact rf_ret rfl

/-! slices.Min   int int  -/
def an_slices_Min_int_int : Ann := .seq (.reg 0 [] [] []) (.seq (.seq (.reg 0 [] [] []) (.cond (some []) (.reg 0 [] [] []) (.no))) (.seq (.reg 0 [] [] []) (.seq (.seq (.reg 0 [] [] []) (.blk (some [.s 3]) (.loop [.s 3, .s 4] (.seq (.seq (.reg 0 [] [] []) (.cond none (.no) (.no))) (.seq (.blk none (.reg 0 [] [] [])) (.reg 0 [] [] [])))))) (.seq (.reg 0 [] [] []) (.no)))))
noncomputable def sem_slices_Min_int_int (n : Nat) (xs : List V) : Option V := if xs.length ≤ 25 then denF Try.prog (envOf []) n Try.f13 an_slices_Min_int_int xs else none
theorem ok_slices_Min_int_int (n : Nat) : SemOk Try.prog DW 13 (sem_slices_Min_int_int n) := fun xs y h => by
  unfold sem_slices_Min_int_int at h
  split at h
  · rename_i hl
    exact denF_ok stb Try.func13 (by kernel_rfl) (envOf_ok semsOk_nil) (by rw [Try.ntmps13]; exact hl) h
  · cases h
theorem eq_slices_Min_int_int (n : Nat) (x0 : V) : sem_slices_Min_int_int n [x0] =
 (lenS [x0]).bind fun v1 =>
 (bin2 Try.prog BinOp.lss 3 (ot 6) (oc 1) v1 (vi 1)).bind fun v2 =>
 JoinPt (fun vs3 =>
 (idxS 1 x0 (vi 0)).bind fun v5 =>
 (ldp none v5).bind fun v6 =>
 JoinPt (fun vs7 =>
 some (List.getD vs7 0 V.any)) fun J8 =>
 (fixN (fun rec9 vs10 =>
 (lenS [x0]).bind fun v11 =>
 (bin2 Try.prog BinOp.lss 3 (ot 12) (ot 14) (List.getD vs10 1 V.any) v11).bind fun v12 =>
 condV v12 (
 (idxS 1 x0 (List.getD vs10 1 V.any)).bind fun v13 =>
 (ldp none v13).bind fun v14 =>
 (scal2 Try.prog (fun u v => Builtin.min_ #[3, 3] 3 #[u, v]) (List.getD vs10 0 V.any) v14).bind fun v15 =>
 (bin2 Try.prog BinOp.add 3 (ot 16) (oc 1) (List.getD vs10 1 V.any) (vi 1)).bind fun v16 =>
 rec9 [v15, v16]) (
 J8 [(List.getD vs10 0 V.any)])) n) [v6, (vi 1)]) fun J4 =>
 condV v2 (
 (scal1 Try.prog (Instr.makeInterface 9) (V.lit (Go.Value.string (ByteArray.mk #[115, 108, 105, 99, 101, 115, 46, 77, 105, 110, 58, 32, 101, 109, 112, 116, 121, 32, 108, 105, 115, 116])))).bind fun v17 =>
 none) (
 J4 []) := by kernel_rfl
noncomputable def t_slices_Min_int_int (a0 : (List Int)) : Option Int :=
 (if (decide ((List.length a0 : Int) < 1)) = true then (
 none) else (
 some ())).bind fun (s5 : Unit) =>
 (idx a0 0).bind fun r9 =>
 (loopU 1 (List.length a0 : Int) (fun (i22 : Int) (s18 : Int) k19 =>
 (idx a0 i22).bind fun r31 =>
 k19 (min s18 r31)) (fun (i22 : Int) (s18 : Int) =>
 some (s18)) (r9)).bind fun (s13 : Int) =>
 some s13
theorem ty_slices_Min_int_int {n : Nat} (hn : bigN ≤ n) (a0 : (List Int)) : Rv (fun x : Int => (vi x)) (sem_slices_Min_int_int n [(V.sl (List.map cI a0))]) (t_slices_Min_int_int a0) := by
  rw [eq_slices_Min_int_int]
  unfold t_slices_Min_int_int
  refine tb (x := (vi (List.length a0 : Int))) (p_len _) ?_
  refine tb (x := (vb (decide ((List.length a0 : Int) < 1)))) (d_lss) ?_
  refine tjb (mk := fun s5 : Unit => []) (fun J4 => ?_) fun s5 => ?_
  · refine tcond (fun h37 => ?_) (fun h37 => ?_)
    · exact rf_none
    · exact rf_j rfl
  · refine tbo (p_idx (c := cI) (fun _ => rfl) a0 0) fun r9 => ?_
    refine tb (x := (vi r9)) (rfl) ?_
    refine tjb (mk := fun s13 : Int => [(vi s13)]) (fun J12 => ?_) fun s13 => ?_
    · refine rf_loopU (mk := fun (i22 : Int) (s18 : Int) => [(vi s18), (vi i22)]) hn _ _ (r9) (fun i22 h23 h24 h25 s18 rec16 k19 h20 => ?_) (fun i22 s18 rec27 h26 => ?_)
      · refine tb (x := (vi (List.length a0 : Int))) (p_len _) ?_
        refine tb (x := (vb (decide (i22 < (List.length a0 : Int))))) (d_lss) ?_
        refine tcond_t h23 ?_
        refine tbo (p_idx (c := cI) (fun _ => rfl) a0 i22) fun r31 => ?_
        refine tb (x := (vi r31)) (rfl) ?_
        refine tb (x := (vi (min s18 r31))) (p_min) ?_
        refine tb (x := (vi (i22 + 1))) (p_inc h24 h25) ?_
        exact h20 (min s18 r31)
      · refine tb (x := (vi (List.length a0 : Int))) (p_len _) ?_
        refine tb (x := (vb (decide (i22 < (List.length a0 : Int))))) (d_lss) ?_
        refine tcond_f h26 ?_
        exact rf_j rfl
    · exact rf_ret rfl

/-! railpoint/class.Rep -/
def an_class_Rep : Ann := .seq (.reg 0 [] [] []) (.seq (.seq (.reg 0 [] [] []) (.blk (some []) (.loop [.s 10] (.seq (.reg 0 [] [] []) (.seq (.cond none (.no) (.no)) (.seq (.blk none (.seq (.reg 0 [] [] []) (.seq (.reg 0 [] [] []) (.cond none (.seq (.reg 0 [] [] []) (.no)) (.no))))) (.reg 0 [] [] []))))))) (.seq (.reg 0 [] [] []) (.no)))
noncomputable def sem_class_Rep (n : Nat) (xs : List V) : Option V := if xs.length ≤ 21 then denF Try.prog (envOf [(12, (sem_slices_Contains_int_int n)), (13, (sem_slices_Min_int_int n))]) n Try.f6 an_class_Rep xs else none
theorem ok_class_Rep (n : Nat) : SemOk Try.prog DW 6 (sem_class_Rep n) := fun xs y h => by
  unfold sem_class_Rep at h
  split at h
  · rename_i hl
    exact denF_ok stb Try.func6 (by kernel_rfl) (envOf_ok (semsOk_cons (ok_slices_Contains_int_int n) (semsOk_cons (ok_slices_Min_int_int n) semsOk_nil))) (by rw [Try.ntmps6]; exact hl) h
  · cases h
theorem eq_class_Rep (n : Nat) (x0 x1 : V) : sem_class_Rep n [x0, x1] =
 (lenS [x0]).bind fun v1 =>
 JoinPt (fun vs2 =>
 (scal1 Try.prog (Instr.makeInterface 54) (vi 5)).bind fun v4 =>
 some (V.tup [(vi 0), v4])) fun J3 =>
 (fixN (fun rec5 vs6 =>
 (bin2 Try.prog BinOp.lss 3 (ot 10) (ot 9) (List.getD vs6 0 V.any) v1).bind fun v7 =>
 condV v7 (
 (idxS 1 x0 (List.getD vs6 0 V.any)).bind fun v8 =>
 (ldp none v8).bind fun v9 =>
 ((sem_slices_Contains_int_int n) [v9, x1]).bind fun v10 =>
 condV v10 (
 ((sem_slices_Min_int_int n) [v9]).bind fun v11 =>
 some (V.tup [v11, vn])) (
 (bin2 Try.prog BinOp.add 3 (ot 10) (oc 1) (List.getD vs6 0 V.any) (vi 1)).bind fun v12 =>
 rec5 [v12])) (
 J3 [])) n) [(vi 0)] := by kernel_rfl
noncomputable def t_class_Rep (a0 : (List (List Int))) (a1 : Int) : Option (Int × Int) :=
 join (fun (s4 : Unit) =>
 some (0, 5)) fun j5 =>
 loopI a0 (fun (i14 : Int) x15 (s10 : Unit) k11 =>
 (t_slices_Contains_int_int x15 a1).bind fun r23 =>
 if r23 = true then (
 (t_slices_Min_int_int x15).bind fun r26 =>
 some (r26, 0)) else (
 k11 ())) (fun (s10 : Unit) =>
 j5 ()) ()
theorem ty_class_Rep {n : Nat} (hn : bigN ≤ n) (a0 : (List (List Int))) (a1 : Int) : Rv (fun x : (Int × Int) => V.tup [(vi x.1), (eV x.2)]) (sem_class_Rep n [(V.sl (List.map (cS cI) a0)), (vi a1)]) (t_class_Rep a0 a1) := by
  rw [eq_class_Rep]
  unfold t_class_Rep
  refine tb (x := (vi (List.length a0 : Int))) (p_len _) ?_
  refine tjoin (mk := fun s4 : Unit => []) (fun s4 => ?_) fun J3 j5 h6 => ?_
  · refine tb (x := (eV 5)) (p_mkE (by decide)) ?_
    exact rf_ret rfl
  · refine rf_loopI (mk := fun (i14 : Int) (s10 : Unit) => [(vi (i14 : Int))]) hn a0 () (fun i14 x15 h16 h17 h18 s10 rec8 k11 h12 => ?_) (fun s10 rec29 h28 => ?_)
    · refine tb (x := (vb (decide ((i14 : Int) < (List.length a0 : Int))))) (d_lss) ?_
      refine tcond_t h18 ?_
      refine tb (x := (V.ptr [(V.sl (List.map cI x15))])) (p_idx_at (c := (cS cI)) (fun _ => rfl) h16) ?_
      refine tb (x := (V.sl (List.map cI x15))) (rfl) ?_
      refine tbo (ty_slices_Contains_int_int hn x15 a1) fun r23 => ?_
      refine tcond (fun h24 => ?_) (fun h24 => ?_)
      · refine tbo (ty_slices_Min_int_int hn x15) fun r26 => ?_
        exact rf_ret rfl
      · refine tb (x := (vi ((i14 : Int) + 1))) (p_incN h17) ?_
        exact h12 ()
    · refine tb (x := (vb (decide ((List.length a0 : Int) < (List.length a0 : Int))))) (d_lss) ?_
      refine tcond_f h28 ?_
      exact h6 ()

/-! railpoint/class.Path -/
def an_class_Path : Ann := .seq (.reg 0 [] [] []) (.seq (.seq (.reg 0 [] [] []) (.seq (.reg 0 [] [] []) (.cond none (.seq (.reg 0 [] [] []) (.no)) (.no)))) (.seq (.seq (.reg 0 [] [] []) (.cond none (.seq (.reg 0 [] [] []) (.no)) (.no))) (.seq (.reg 0 [] [] []) (.no))))
noncomputable def sem_class_Path (n : Nat) (xs : List V) : Option V := if xs.length ≤ 20 then denF Try.prog (envOf [(11, (sem_net_Check n)), (14, (sem_cube_Header n)), (15, (sem_class_path n))]) n Try.f7 an_class_Path xs else none
theorem ok_class_Path (n : Nat) : SemOk Try.prog DW 7 (sem_class_Path n) := fun xs y h => by
  unfold sem_class_Path at h
  split at h
  · rename_i hl
    exact denF_ok stb Try.func7 (by kernel_rfl) (envOf_ok (semsOk_cons (ok_net_Check n) (semsOk_cons (ok_cube_Header n) (semsOk_cons (ok_class_path n) semsOk_nil)))) (by rw [Try.ntmps7]; exact hl) h
  · cases h
theorem eq_class_Path (n : Nat) (x0 x1 : V) : sem_class_Path n [x0, x1] =
 (V.cellsO x0).bind fun v1 =>
 (ldk (some 4) (List.drop 0 v1)).bind fun v2 =>
 ((sem_net_Check n) [v2]).bind fun v3 =>
 (bin2 Try.prog BinOp.neq 31 (ot 9) (Operand.const Go.Value.nilIface) v3 vn).bind fun v4 =>
 condV v4 (
 some (V.tup [(V.sl []), v3])) (
 ((sem_cube_Header n) [x1]).bind fun v5 =>
 (scal1 Try.prog (Op.unary Go.UnOp.not) v5).bind fun v6 =>
 condV v6 (
 (scal1 Try.prog (Instr.makeInterface 54) (vi 1)).bind fun v7 =>
 some (V.tup [(V.sl []), v7])) (
 (ldk none (List.drop 3 v1)).bind fun v8 =>
 ((sem_class_path n) [v8, x1]).bind fun v9 =>
 some (V.tup [v9, vn]))) := by kernel_rfl
noncomputable def t_class_Path (a0 : T_Net) (a1 : Int) : Option ((List Int) × Int) :=
 (t_net_Check a0).bind fun r4 =>
 if (!decide (r4 = 0)) = true then (
 some ([], r4)) else (
 (t_cube_Header a1).bind fun r8 =>
 if (!r8) = true then (
 some ([], 1)) else (
 (t_class_path a0.Tables a1).bind fun r14 =>
 some (r14, 0)))
theorem ty_class_Path {n : Nat} (hn : bigN ≤ n) (a0 : T_Net) (a1 : Int) : Rv (fun x : ((List Int) × Int) => V.tup [(V.sl (List.map cI x.1)), (eV x.2)]) (sem_class_Path n [(T_Net.e a0), (vi a1)]) (t_class_Path a0 a1) := by
  rw [eq_class_Path]
  unfold t_class_Path
  refine tb (x := (T_Net.c a0)) rfl ?_
  refine tb (x := (T_Net.e a0)) (rfl) ?_
  refine tbo (ty_net_Check hn a0) fun r4 => ?_
  refine tb (x := (vb (!decide (r4 = 0)))) (p_err_neq _) ?_
  refine tcond (fun h6 => ?_) (fun h6 => ?_)
  · exact rf_ret rfl
  · refine tbo (ty_cube_Header hn a1) fun r8 => ?_
    refine tb (x := (vb (!r8))) (d_not) ?_
    refine tcond (fun h10 => ?_) (fun h10 => ?_)
    · refine tb (x := (eV 1)) (p_mkE (by decide)) ?_
      exact rf_ret rfl
    · refine tb (x := (V.sl (List.map (cS T_Rule.c) a0.Tables))) (rfl) ?_
      refine tbo (ty_class_path hn a0.Tables a1) fun r14 => ?_
      exact rf_ret rfl

/-! railpoint/railsame.Ints -/
def an_railsame_Ints : Ann := .seq (.reg 0 [] [] []) (.seq (.seq (.reg 0 [] [] []) (.cond none (.seq (.reg 0 [] [] []) (.no)) (.no))) (.seq (.seq (.reg 0 [] [] []) (.blk (some []) (.loop [.s 5] (.seq (.seq (.reg 0 [] [] []) (.cond none (.no) (.no))) (.seq (.blk none (.seq (.reg 9 [] [] []) (.cond none (.seq (.reg 0 [] [] []) (.no)) (.no)))) (.reg 0 [] [] [])))))) (.seq (.reg 0 [] [] []) (.no))))
noncomputable def sem_railsame_Ints (n : Nat) (xs : List V) : Option V := if xs.length ≤ 26 then denF Try.prog (envOf []) n Try.f8 an_railsame_Ints xs else none
theorem ok_railsame_Ints (n : Nat) : SemOk Try.prog DW 8 (sem_railsame_Ints n) := fun xs y h => by
  unfold sem_railsame_Ints at h
  split at h
  · rename_i hl
    exact denF_ok stb Try.func8 (by kernel_rfl) (envOf_ok semsOk_nil) (by rw [Try.ntmps8]; exact hl) h
  · cases h
theorem eq_railsame_Ints (n : Nat) (x0 x1 : V) : sem_railsame_Ints n [x0, x1] =
 (lenS [x0]).bind fun v1 =>
 (lenS [x1]).bind fun v2 =>
 (bin2 Try.prog BinOp.neq 3 (ot 7) (ot 9) v1 v2).bind fun v3 =>
 condV v3 (
 some (vb false)) (
 JoinPt (fun vs4 =>
 some (vb true)) fun J5 =>
 (fixN (fun rec6 vs7 =>
 (lenS [x0]).bind fun v8 =>
 (bin2 Try.prog BinOp.lss 3 (ot 11) (ot 13) (List.getD vs7 0 V.any) v8).bind fun v9 =>
 condV v9 (
 (idxS 1 x0 (List.getD vs7 0 V.any)).bind fun v10 =>
 (ldp none v10).bind fun v11 =>
 (idxS 1 x1 (List.getD vs7 0 V.any)).bind fun v12 =>
 (ldp none v12).bind fun v13 =>
 (bin2 Try.prog BinOp.neq 3 (ot 20) (ot 24) v11 v13).bind fun v14 =>
 condV v14 (
 some (vb false)) (
 (bin2 Try.prog BinOp.add 3 (ot 15) (oc 1) (List.getD vs7 0 V.any) (vi 1)).bind fun v15 =>
 rec6 [v15])) (
 J5 [])) n) [(vi 0)]) := by kernel_rfl
noncomputable def t_railsame_Ints (a0 : (List Int)) (a1 : (List Int)) : Option Bool :=
 if (decide ((List.length a0 : Int) ≠ (List.length a1 : Int))) = true then (
 some false) else (
 join (fun (s7 : Unit) =>
 some true) fun j8 =>
 loopI a0 (fun (i16 : Int) x17 (s12 : Unit) k13 =>
 (idx a1 i16).bind fun r26 =>
 if (decide (x17 ≠ r26)) = true then (
 some false) else (
 k13 ())) (fun (s12 : Unit) =>
 j8 ()) ())
theorem ty_railsame_Ints {n : Nat} (hn : bigN ≤ n) (a0 : (List Int)) (a1 : (List Int)) : Rv (fun x : Bool => (vb x)) (sem_railsame_Ints n [(V.sl (List.map cI a0)), (V.sl (List.map cI a1))]) (t_railsame_Ints a0 a1) := by
  rw [eq_railsame_Ints]
  unfold t_railsame_Ints
  refine tb (x := (vi (List.length a0 : Int))) (p_len _) ?_
  refine tb (x := (vi (List.length a1 : Int))) (p_len _) ?_
  refine tb (x := (vb (decide ((List.length a0 : Int) ≠ (List.length a1 : Int))))) (d_neq) ?_
  refine tcond (fun h4 => ?_) (fun h4 => ?_)
  · exact rf_ret rfl
  · refine tjoin (mk := fun s7 : Unit => []) (fun s7 => ?_) fun J6 j8 h9 => ?_
    · exact rf_ret rfl
    · refine rf_loopI (mk := fun (i16 : Int) (s12 : Unit) => [(vi (i16 : Int))]) hn a0 () (fun i16 x17 h18 h19 h20 s12 rec10 k13 h14 => ?_) (fun s12 rec32 h31 => ?_)
      · refine tb (x := (vi (List.length a0 : Int))) (p_len _) ?_
        refine tb (x := (vb (decide ((i16 : Int) < (List.length a0 : Int))))) (d_lss) ?_
        refine tcond_t h20 ?_
        refine tb (x := (V.ptr [(vi x17)])) (p_idx_at (c := cI) (fun _ => rfl) h18) ?_
        refine tb (x := (vi x17)) (rfl) ?_
        refine tbo (p_idx (c := cI) (fun _ => rfl) a1 (i16 : Int)) fun r26 => ?_
        refine tb (x := (vi r26)) (rfl) ?_
        refine tb (x := (vb (decide (x17 ≠ r26)))) (d_neq) ?_
        refine tcond (fun h29 => ?_) (fun h29 => ?_)
        · exact rf_ret rfl
        · refine tb (x := (vi ((i16 : Int) + 1))) (p_incN h19) ?_
          exact h14 ()
      · refine tb (x := (vi (List.length a0 : Int))) (p_len _) ?_
        refine tb (x := (vb (decide ((List.length a0 : Int) < (List.length a0 : Int))))) (d_lss) ?_
        refine tcond_f h31 ?_
        exact h9 ()

/-! railpoint/raillaw1.ClassHolds -/
def an_raillaw1_ClassHolds : Ann := .seq (.reg 0 [] [] []) (.seq (.reg 0 [] [] []) (.seq (.seq (.reg 0 [] [] []) (.cond none (.seq (.reg 0 [] [] []) (.no)) (.no))) (.seq (.reg 0 [] [] []) (.seq (.seq (.reg 0 [] [] []) (.cond none (.seq (.reg 0 [] [] []) (.no)) (.no))) (.seq (.reg 0 [] [] [1000011]) (.seq (.seq (.reg 0 [] [] []) (.blk (some [.kb 3, .o 11]) (.loop [.kb 3, .o 11, .s 12] (.seq (.seq (.reg 0 [] [] []) (.cond none (.no) (.no))) (.seq (.blk (some [.kb 3, .o 11]) (.seq (.reg 0 [] [] []) (.blk (some [.kb 3, .o 11]) (.loop [.kb 3, .o 11, .s 13] (.seq (.seq (.reg 0 [] [] []) (.cond none (.no) (.no))) (.seq (.blk none (.seq (.reg 0 [] [] []) (.seq (.seq (.reg 0 [] [] []) (.cond none (.seq (.reg 0 [] [] []) (.no)) (.no))) (.reg 0 [] [] [])))) (.reg 0 [] [] []))))))) (.reg 0 [] [] [])))))) (.seq (.seq (.reg 0 [] [] []) (.blk (some [.kb 3]) (.loop [.kb 3, .ko 11, .s 15] (.seq (.seq (.reg 0 [] [] []) (.cond none (.no) (.no))) (.seq (.blk none (.seq (.reg 0 [] [] []) (.cond none (.seq (.reg 0 [] [] []) (.no)) (.no)))) (.reg 0 [] [] [])))))) (.seq (.seq (.reg 0 [] [] []) (.cond none (.seq (.reg 0 [] [] []) (.no)) (.no))) (.seq (.reg 0 [] [] []) (.seq (.reg 0 [] [] []) (.seq (.reg 0 [] [] []) (.seq (.reg 0 [] [] []) (.seq (.reg 0 [] [] []) (.seq (.reg 0 [] [] []) (.no)))))))))))))))
noncomputable def sem_raillaw1_ClassHolds (n : Nat) (xs : List V) : Option V := if xs.length ≤ 165 then denF Try.prog (envOf [(4, (sem_class_Of n)), (5, (sem_class_All n)), (6, (sem_class_Rep n)), (7, (sem_class_Path n)), (8, (sem_railsame_Ints n))]) n Try.f3 an_raillaw1_ClassHolds xs else none
theorem ok_raillaw1_ClassHolds (n : Nat) : SemOk Try.prog DW 3 (sem_raillaw1_ClassHolds n) := fun xs y h => by
  unfold sem_raillaw1_ClassHolds at h
  split at h
  · rename_i hl
    exact denF_ok stb Try.func3 (by kernel_rfl) (envOf_ok (semsOk_cons (ok_class_Of n) (semsOk_cons (ok_class_All n) (semsOk_cons (ok_class_Rep n) (semsOk_cons (ok_class_Path n) (semsOk_cons (ok_railsame_Ints n) semsOk_nil)))))) (by rw [Try.ntmps3]; exact hl) h
  · cases h
theorem eq_raillaw1_ClassHolds (n : Nat) (x0 x1 x2 : V) : sem_raillaw1_ClassHolds n [x0, x1, x2] =
 (V.cellsO x0).bind fun v1 =>
 ((fillL [(vi 0), (vi 0)] [(0, 1, (vi 8)), (1, 1, (vi 8))]).map V.agg).bind fun v2 =>
 ((fillL [(vi 0), (vi 0), (vi 0), (vi 0), (vi 0), (vi 0)] [(0, 1, (vi 1)), (1, 2, v2), (3, 1, (vi 1))]).map V.agg).bind fun v3 =>
 (slcB 6 1 [(vi 0), (vi 0), (vi 0), (vi 0), (vi 0), (vi 0)] [(0, v3)]).bind fun v4 =>
 ((sem_class_Of n) [v4]).bind fun v5 =>
 (extractV v5 0).bind fun v6 =>
 (extractV v5 1).bind fun v7 =>
 (bin2 Try.prog BinOp.neq 31 (ot 32) (Operand.const Go.Value.nilIface) v7 vn).bind fun v8 =>
 (guardV v8 false (some v6)).bind fun v9 =>
 (guardV v8 false ((lenS [v9]).bind fun v10 =>
 some v10)).bind fun v11 =>
 (guardV v8 false ((bin2 Try.prog BinOp.neq 3 (ot 36) (oc 2) v11 (vi 2)).bind fun v12 =>
 some v12)).bind fun v13 =>
 (pickV v8 (vb true) v13).bind fun v14 =>
 (guardV v14 false (some v6)).bind fun v15 =>
 (guardV v14 false ((idxS 1 v15 (vi 0)).bind fun v16 =>
 some v16)).bind fun v17 =>
 (guardV v14 false ((ldp none v17).bind fun v18 =>
 some v18)).bind fun v19 =>
 (guardV v14 false ((lenS [v19]).bind fun v20 =>
 some v20)).bind fun v21 =>
 (guardV v14 false ((bin2 Try.prog BinOp.neq 3 (ot 43) (oc 8) v21 (vi 8)).bind fun v22 =>
 some v22)).bind fun v23 =>
 (pickV v14 (vb true) v23).bind fun v24 =>
 (guardV v24 false (some v6)).bind fun v25 =>
 (guardV v24 false ((idxS 1 v25 (vi 1)).bind fun v26 =>
 some v26)).bind fun v27 =>
 (guardV v24 false ((ldp none v27).bind fun v28 =>
 some v28)).bind fun v29 =>
 (guardV v24 false ((idxS 1 v29 (vi 0)).bind fun v30 =>
 some v30)).bind fun v31 =>
 (guardV v24 false ((ldp none v31).bind fun v32 =>
 some v32)).bind fun v33 =>
 (guardV v24 false ((bin2 Try.prog BinOp.neq 3 (ot 51) (oc 8) v33 (vi 8)).bind fun v34 =>
 some v34)).bind fun v35 =>
 (pickV v24 (vb true) v35).bind fun v36 =>
 condV v36 (
 some (vb false)) (
 (ldk (some 4) (List.drop 0 v1)).bind fun v37 =>
 ((sem_class_All n) [v37]).bind fun v38 =>
 (extractV v38 0).bind fun v39 =>
 (extractV v38 1).bind fun v40 =>
 (bin2 Try.prog BinOp.neq 31 (ot 59) (Operand.const Go.Value.nilIface) v40 vn).bind fun v41 =>
 condV v41 (
 some (vb true)) (
 JoinPt (fun vs42 =>
 JoinPt (fun vs44 =>
 (bin2 Try.prog BinOp.lss 3 (ot 103) (oc 0) x1 (vi 0)).bind fun v46 =>
 (guardV v46 false (some x1)).bind fun v47 =>
 (guardV v46 false ((bin2 Try.prog BinOp.gtr 3 (ot 106) (oc 15) v47 (vi 15)).bind fun v48 =>
 some v48)).bind fun v49 =>
 (pickV v46 (vb true) v49).bind fun v50 =>
 (guardV v50 false (some x2)).bind fun v51 =>
 (guardV v50 false ((bin2 Try.prog BinOp.lss 3 (ot 110) (oc 0) v51 (vi 0)).bind fun v52 =>
 some v52)).bind fun v53 =>
 (pickV v50 (vb true) v53).bind fun v54 =>
 (guardV v54 false (some x2)).bind fun v55 =>
 (guardV v54 false ((bin2 Try.prog BinOp.gtr 3 (ot 114) (oc 15) v55 (vi 15)).bind fun v56 =>
 some v56)).bind fun v57 =>
 (pickV v54 (vb true) v57).bind fun v58 =>
 condV v58 (
 some (vb true)) (
 ((sem_class_Rep n) [v39, x1]).bind fun v59 =>
 (extractV v59 0).bind fun v60 =>
 (extractV v59 1).bind fun v61 =>
 ((sem_class_Rep n) [v39, x2]).bind fun v62 =>
 (extractV v62 0).bind fun v63 =>
 (extractV v62 1).bind fun v64 =>
 (ldk (some 4) (List.drop 0 v1)).bind fun v65 =>
 ((sem_class_Path n) [v65, x1]).bind fun v66 =>
 (extractV v66 0).bind fun v67 =>
 (extractV v66 1).bind fun v68 =>
 (ldk (some 4) (List.drop 0 v1)).bind fun v69 =>
 ((sem_class_Path n) [v69, x2]).bind fun v70 =>
 (extractV v70 0).bind fun v71 =>
 (extractV v70 1).bind fun v72 =>
 ((sem_railsame_Ints n) [v67, v71]).bind fun v73 =>
 (bin2 Try.prog BinOp.eql 31 (ot 144) (Operand.const Go.Value.nilIface) v61 vn).bind fun v74 =>
 (guardV v74 true (some v64)).bind fun v75 =>
 (guardV v74 true ((bin2 Try.prog BinOp.eql 31 (ot 147) (Operand.const Go.Value.nilIface) v75 vn).bind fun v76 =>
 some v76)).bind fun v77 =>
 (pickV v74 v77 (vb false)).bind fun v78 =>
 (guardV v78 true (some v68)).bind fun v79 =>
 (guardV v78 true ((bin2 Try.prog BinOp.eql 31 (ot 151) (Operand.const Go.Value.nilIface) v79 vn).bind fun v80 =>
 some v80)).bind fun v81 =>
 (pickV v78 v81 (vb false)).bind fun v82 =>
 (guardV v82 true (some v72)).bind fun v83 =>
 (guardV v82 true ((bin2 Try.prog BinOp.eql 31 (ot 155) (Operand.const Go.Value.nilIface) v83 vn).bind fun v84 =>
 some v84)).bind fun v85 =>
 (pickV v82 v85 (vb false)).bind fun v86 =>
 (guardV v86 true (some v60)).bind fun v87 =>
 (guardV v86 true (some v63)).bind fun v88 =>
 (guardV v86 true ((bin2 Try.prog BinOp.eql 3 (ot 159) (ot 160) v87 v88).bind fun v89 =>
 some v89)).bind fun v90 =>
 (guardV v86 true (some v73)).bind fun v91 =>
 (guardV v86 true ((bin2 Try.prog BinOp.eql 4 (ot 161) (ot 162) v90 v91).bind fun v92 =>
 some v92)).bind fun v93 =>
 (pickV v86 v93 (vb false)).bind fun v94 =>
 some v94)) fun J45 =>
 (keepO (some v1) (some v1) (keepT (some (List.getD vs42 0 V.any)) (some (List.getD vs42 0 V.any)) (some [(vi 0)]))).bind (fixN (fun rec95 vs96 =>
 (bin2 Try.prog BinOp.lss 3 (ot 95) (oc 16) (List.getD vs96 0 V.any) (vi 16)).bind fun v97 =>
 condV v97 (
 (inB 16 (List.getD vs96 0 V.any)).bind fun v98 =>
 ((nodeL (List.getD vs42 0 V.any) (some (natOf (List.getD vs96 0 V.any))) 1).bind fun l99 => (ldk none (List.drop 0 l99)).bind pureO).bind fun v100 =>
 (bin2 Try.prog BinOp.neq 3 (ot 101) (oc 1) v100 (vi 1)).bind fun v101 =>
 condV v101 (
 some (vb false)) (
 (bin2 Try.prog BinOp.add 3 (ot 97) (oc 1) (List.getD vs96 0 V.any) (vi 1)).bind fun v102 =>
 (keepO (some v1) (some v1) (keepT (some (List.getD vs42 0 V.any)) (some (List.getD vs42 0 V.any)) (some [v102]))).bind rec95)) (
 (keepO (some v1) (some v1) (some [])).bind J45)) n)) fun J43 =>
 (keepO (some v1) (some v1) (some [(V.osl 1 [[(vi 0)], [(vi 0)], [(vi 0)], [(vi 0)], [(vi 0)], [(vi 0)], [(vi 0)], [(vi 0)], [(vi 0)], [(vi 0)], [(vi 0)], [(vi 0)], [(vi 0)], [(vi 0)], [(vi 0)], [(vi 0)]]), (vi 0)])).bind (fixN (fun rec103 vs104 =>
 (lenS [v39]).bind fun v105 =>
 (bin2 Try.prog BinOp.lss 3 (ot 61) (ot 63) (List.getD vs104 1 V.any) v105).bind fun v106 =>
 condV v106 (
 JoinPt (fun vs107 =>
 (bin2 Try.prog BinOp.add 3 (ot 65) (oc 1) (List.getD vs104 1 V.any) (vi 1)).bind fun v109 =>
 (keepO (some v1) (some v1) (some [(List.getD vs107 0 V.any), v109])).bind rec103) fun J108 =>
 JoinPt (fun vs110 =>
 (keepO (some v1) (some v1) (some [(List.getD vs110 0 V.any)])).bind J108) fun J111 =>
 (keepO (some v1) (some v1) (some [(List.getD vs104 0 V.any), (vi 0)])).bind (fixN (fun rec112 vs113 =>
 (idxS 1 v39 (List.getD vs104 1 V.any)).bind fun v114 =>
 (ldp none v114).bind fun v115 =>
 (lenS [v115]).bind fun v116 =>
 (bin2 Try.prog BinOp.lss 3 (ot 67) (ot 72) (List.getD vs113 1 V.any) v116).bind fun v117 =>
 condV v117 (
 (idxS 1 v39 (List.getD vs104 1 V.any)).bind fun v118 =>
 (ldp none v118).bind fun v119 =>
 (idxS 1 v119 (List.getD vs113 1 V.any)).bind fun v120 =>
 (ldp none v120).bind fun v121 =>
 (bin2 Try.prog BinOp.lss 3 (ot 83) (oc 0) v121 (vi 0)).bind fun v122 =>
 (guardV v122 false (some v121)).bind fun v123 =>
 (guardV v122 false ((bin2 Try.prog BinOp.gtr 3 (ot 86) (oc 15) v123 (vi 15)).bind fun v124 =>
 some v124)).bind fun v125 =>
 (pickV v122 (vb true) v125).bind fun v126 =>
 condV v126 (
 some (vb false)) (
 (inB 16 v121).bind fun v127 =>
 ((nodeL (List.getD vs113 0 V.any) (some (natOf v121)) 1).bind fun l128 => (ldk none (List.drop 0 l128)).bind pureO).bind fun v129 =>
 (bin2 Try.prog BinOp.add 3 (ot 92) (oc 1) v129 (vi 1)).bind fun v130 =>
 (inB 16 v121).bind fun v131 =>
 (V.cellsO v130).bind fun v132 =>
 (setV (List.getD vs113 0 V.any) [] (Stp.mk (some (natOf v121)) 0 1) 1 v132).bind fun v133 =>
 (bin2 Try.prog BinOp.add 3 (ot 74) (oc 1) (List.getD vs113 1 V.any) (vi 1)).bind fun v134 =>
 (keepO (some v1) (some v1) (some [v133, v134])).bind rec112)) (
 (keepO (some v1) (some v1) (some [(List.getD vs113 0 V.any)])).bind J111)) n)) (
 (keepO (some v1) (some v1) (some [(List.getD vs104 0 V.any)])).bind J43)) n))) := by kernel_rfl
noncomputable def t_raillaw1_ClassHolds (a0 : T_Net) (a1 : Int) (a2 : Int) : Option Bool :=
 (t_class_Of ([(T_Rule.mk 1 (T_Cube.mk 8 8) 1 0 0)] : (List T_Rule))).bind fun r6 =>
 (gd (!((!decide (r6.2 = 0)) || (decide ((List.length r6.1 : Int) ≠ 2)))) default (idx r6.1 0)).bind fun r24 =>
 (gd (!(((!decide (r6.2 = 0)) || (decide ((List.length r6.1 : Int) ≠ 2))) || (decide ((List.length r24 : Int) ≠ 8)))) default (idx r6.1 1)).bind fun r40 =>
 (gd (!(((!decide (r6.2 = 0)) || (decide ((List.length r6.1 : Int) ≠ 2))) || (decide ((List.length r24 : Int) ≠ 8)))) default (idx r40 0)).bind fun r47 =>
 if ((((!decide (r6.2 = 0)) || (decide ((List.length r6.1 : Int) ≠ 2))) || (decide ((List.length r24 : Int) ≠ 8))) || (decide (r47 ≠ 8))) = true then (
 some false) else (
 (t_class_All a0).bind fun r58 =>
 if (!decide (r58.2 = 0)) = true then (
 some true) else (
 join (fun (s65 : (List Int)) =>
 join (fun (s70 : Unit) =>
 if ((((decide (a1 < 0)) || (decide (15 < a1))) || (decide (a2 < 0))) || (decide (15 < a2))) = true then (
 some true) else (
 (t_class_Rep r58.1 a1).bind fun r94 =>
 (t_class_Rep r58.1 a2).bind fun r98 =>
 (t_class_Path a0 a1).bind fun r103 =>
 (t_class_Path a0 a2).bind fun r108 =>
 (t_railsame_Ints r103.1 r108.1).bind fun r112 =>
 some (((((decide (r94.2 = 0)) && (decide (r98.2 = 0))) && (decide (r103.2 = 0))) && (decide (r108.2 = 0))) && ((decide (r94.1 = r98.1)) == r112)))) fun j71 =>
 loopU 0 16 (fun (i151 : Int) (s147 : Unit) k148 =>
 need (decide (0 ≤ i151) && decide (i151 < 16)) (
 (idx s65 i151).bind fun r160 =>
 if (decide (r160 ≠ 1)) = true then (
 some false) else (
 k148 ()))) (fun (i151 : Int) (s147 : Unit) =>
 j71 ()) ()) fun j66 =>
 loopI r58.1 (fun (i172 : Int) x173 (s168 : (List Int)) k169 =>
 join (fun (s181 : (List Int)) =>
 k169 (s181)) fun j182 =>
 join (fun (s187 : (List Int)) =>
 j182 (s187)) fun j188 =>
 loopI x173 (fun (i196 : Int) x197 (s192 : (List Int)) k193 =>
 if ((decide (x197 < 0)) || (decide (15 < x197))) = true then (
 some false) else (
 need (decide (0 ≤ x197) && decide (x197 < 16)) (
 (idx s192 x197).bind fun r219 =>
 need (decide (0 ≤ x197) && decide (x197 < 16)) (
 (oset s192 x197 (wr (r219 + 1))).bind fun r224 =>
 k193 (r224))))) (fun (s192 : (List Int)) =>
 j188 (s192)) (s168)) (fun (s168 : (List Int)) =>
 j66 (s168)) ([0, 0, 0, 0, 0, 0, 0, 0, 0, 0, 0, 0, 0, 0, 0, 0] : (List Int))))
theorem ty_raillaw1_ClassHolds {n : Nat} (hn : bigN ≤ n) (a0 : T_Net) (a1 : Int) (a2 : Int) : Rv (fun x : Bool => (vb x)) (sem_raillaw1_ClassHolds n [(T_Net.e a0), (vi a1), (vi a2)]) (t_raillaw1_ClassHolds a0 a1 a2) := by
  rw [eq_raillaw1_ClassHolds]
  unfold t_raillaw1_ClassHolds
  refine tb (x := (T_Net.c a0)) rfl ?_
  refine tb (x := (T_Cube.e (T_Cube.mk 8 8))) (by kernel_rfl) ?_
  refine tb (x := (T_Rule.e (T_Rule.mk 1 (T_Cube.mk 8 8) 1 0 0))) (by kernel_rfl) ?_
  refine tb (x := (V.sl (List.map T_Rule.c ([(T_Rule.mk 1 (T_Cube.mk 8 8) 1 0 0)] : (List T_Rule))))) (by kernel_rfl) ?_
  refine tbo (ty_class_Of hn ([(T_Rule.mk 1 (T_Cube.mk 8 8) 1 0 0)] : (List T_Rule))) fun r6 => ?_
  refine tb (x := (V.sl (List.map (cS cI) r6.1))) (rfl) ?_
  refine tb (x := (eV r6.2)) (rfl) ?_
  refine tb (x := (vb (!decide (r6.2 = 0)))) (p_err_neq _) ?_
  refine tg_f (x := (V.sl (List.map (cS cI) r6.1))) (fun h10 => rfl) ?_
  refine tg_f (x := (vi (List.length r6.1 : Int))) (fun h12 => by simp only [gv_t h12]; exact bind_some_eq (p_len _)) ?_
  refine tg_f (x := (vb (decide ((List.length r6.1 : Int) ≠ 2)))) (fun h15 => by simp only [gv_t h15]; exact bind_some_eq (d_neq)) ?_
  refine tb (x := (vb ((!decide (r6.2 = 0)) || (decide ((List.length r6.1 : Int) ≠ 2))))) (pick_or (fun h9 => gv_t (not_f h9))) ?_
  refine tg_f (x := (V.sl (List.map (cS cI) r6.1))) (fun h19 => rfl) ?_
  refine tgo_f (fun h21 => by simp only [gv_t h21]; exact rf_bind_some (p_idx (c := (cS cI)) (fun _ => rfl) r6.1 0)) fun r24 => ?_
  refine tg_f (x := (V.sl (List.map cI r24))) (fun h25 => by first | exact bind_some_eq (rfl) | (simp only [gv_t h25]; exact bind_some_eq (rfl))) ?_
  refine tg_f (x := (vi (List.length r24 : Int))) (fun h28 => by simp only [gv_t h28]; exact bind_some_eq (p_len _)) ?_
  refine tg_f (x := (vb (decide ((List.length r24 : Int) ≠ 8)))) (fun h31 => by simp only [gv_t h31]; exact bind_some_eq (d_neq)) ?_
  refine tb (x := (vb (((!decide (r6.2 = 0)) || (decide ((List.length r6.1 : Int) ≠ 2))) || (decide ((List.length r24 : Int) ≠ 8))))) (pick_or (fun h9 => gv_t (not_f h9))) ?_
  refine tg_f (x := (V.sl (List.map (cS cI) r6.1))) (fun h35 => rfl) ?_
  refine tgo_f (fun h37 => by simp only [gv_t h37]; exact rf_bind_some (p_idx (c := (cS cI)) (fun _ => rfl) r6.1 1)) fun r40 => ?_
  refine tg_f (x := (V.sl (List.map cI r40))) (fun h41 => by first | exact bind_some_eq (rfl) | (simp only [gv_t h41]; exact bind_some_eq (rfl))) ?_
  refine tgo_f (fun h44 => by simp only [gv_t h44]; exact rf_bind_some (p_idx (c := cI) (fun _ => rfl) r40 0)) fun r47 => ?_
  refine tg_f (x := (vi r47)) (fun h48 => by first | exact bind_some_eq (rfl) | (simp only [gv_t h48]; exact bind_some_eq (rfl))) ?_
  refine tg_f (x := (vb (decide (r47 ≠ 8)))) (fun h51 => by simp only [gv_t h51]; exact bind_some_eq (d_neq)) ?_
  refine tb (x := (vb ((((!decide (r6.2 = 0)) || (decide ((List.length r6.1 : Int) ≠ 2))) || (decide ((List.length r24 : Int) ≠ 8))) || (decide (r47 ≠ 8))))) (pick_or (fun h9 => gv_t (not_f h9))) ?_
  refine tcond (fun h55 => ?_) (fun h55 => ?_)
  · exact rf_ret rfl
  · refine tb (x := (T_Net.e a0)) (rfl) ?_
    refine tbo (ty_class_All hn a0) fun r58 => ?_
    refine tb (x := (V.sl (List.map (cS cI) r58.1))) (rfl) ?_
    refine tb (x := (eV r58.2)) (rfl) ?_
    refine tb (x := (vb (!decide (r58.2 = 0)))) (p_err_neq _) ?_
    refine tcond (fun h62 => ?_) (fun h62 => ?_)
    · exact rf_ret rfl
    · refine tjoin (mk := fun s65 : (List Int) => [(V.osl 1 (List.map cI s65))]) (fun s65 => ?_) fun J64 j66 h67 => ?_
      · refine tjoin (mk := fun s70 : Unit => []) (fun s70 => ?_) fun J69 j71 h72 => ?_
        · refine tb (x := (vb (decide (a1 < 0)))) (d_lss) ?_
          refine tg_f (x := (vi a1)) (fun h74 => rfl) ?_
          refine tg_f (x := (vb (decide (15 < a1)))) (fun h76 => by simp only [gv_t h76]; exact bind_some_eq (d_gtr)) ?_
          refine tb (x := (vb ((decide (a1 < 0)) || (decide (15 < a1))))) (pick_or (fun h9 => gv_t (not_f h9))) ?_
          refine tg_f (x := (vi a2)) (fun h80 => rfl) ?_
          refine tg_f (x := (vb (decide (a2 < 0)))) (fun h82 => by simp only [gv_t h82]; exact bind_some_eq (d_lss)) ?_
          refine tb (x := (vb (((decide (a1 < 0)) || (decide (15 < a1))) || (decide (a2 < 0))))) (pick_or (fun h9 => gv_t (not_f h9))) ?_
          refine tg_f (x := (vi a2)) (fun h86 => rfl) ?_
          refine tg_f (x := (vb (decide (15 < a2)))) (fun h88 => by simp only [gv_t h88]; exact bind_some_eq (d_gtr)) ?_
          refine tb (x := (vb ((((decide (a1 < 0)) || (decide (15 < a1))) || (decide (a2 < 0))) || (decide (15 < a2))))) (pick_or (fun h9 => gv_t (not_f h9))) ?_
          refine tcond (fun h92 => ?_) (fun h92 => ?_)
          · exact rf_ret rfl
          · refine tbo (ty_class_Rep hn r58.1 a1) fun r94 => ?_
            refine tb (x := (vi r94.1)) (rfl) ?_
            refine tb (x := (eV r94.2)) (rfl) ?_
            refine tbo (ty_class_Rep hn r58.1 a2) fun r98 => ?_
            refine tb (x := (vi r98.1)) (rfl) ?_
            refine tb (x := (eV r98.2)) (rfl) ?_
            refine tb (x := (T_Net.e a0)) (rfl) ?_
            refine tbo (ty_class_Path hn a0 a1) fun r103 => ?_
            refine tb (x := (V.sl (List.map cI r103.1))) (rfl) ?_
            refine tb (x := (eV r103.2)) (rfl) ?_
            refine tb (x := (T_Net.e a0)) (rfl) ?_
            refine tbo (ty_class_Path hn a0 a2) fun r108 => ?_
            refine tb (x := (V.sl (List.map cI r108.1))) (rfl) ?_
            refine tb (x := (eV r108.2)) (rfl) ?_
            refine tbo (ty_railsame_Ints hn r103.1 r108.1) fun r112 => ?_
            refine tb (x := (vb (decide (r94.2 = 0)))) (p_err_eql _) ?_
            refine tg (x := (eV r98.2)) (fun h114 => rfl) ?_
            refine tg (x := (vb (decide (r98.2 = 0)))) (fun h116 => by simp only [gv_t h116]; exact bind_some_eq (p_err_eql _)) ?_
            refine tb (x := (vb ((decide (r94.2 = 0)) && (decide (r98.2 = 0))))) (pick_and (fun h9 => gv_t h9)) ?_
            refine tg (x := (eV r103.2)) (fun h120 => rfl) ?_
            refine tg (x := (vb (decide (r103.2 = 0)))) (fun h122 => by simp only [gv_t h122]; exact bind_some_eq (p_err_eql _)) ?_
            refine tb (x := (vb (((decide (r94.2 = 0)) && (decide (r98.2 = 0))) && (decide (r103.2 = 0))))) (pick_and (fun h9 => gv_t h9)) ?_
            refine tg (x := (eV r108.2)) (fun h126 => rfl) ?_
            refine tg (x := (vb (decide (r108.2 = 0)))) (fun h128 => by simp only [gv_t h128]; exact bind_some_eq (p_err_eql _)) ?_
            refine tb (x := (vb ((((decide (r94.2 = 0)) && (decide (r98.2 = 0))) && (decide (r103.2 = 0))) && (decide (r108.2 = 0))))) (pick_and (fun h9 => gv_t h9)) ?_
            refine tg (x := (vi r94.1)) (fun h132 => rfl) ?_
            refine tg (x := (vi r98.1)) (fun h134 => rfl) ?_
            refine tg (x := (vb (decide (r94.1 = r98.1)))) (fun h136 => by simp only [gv_t h136]; exact bind_some_eq (d_eql)) ?_
            refine tg (x := (vb r112)) (fun h139 => rfl) ?_
            refine tg (x := (vb ((decide (r94.1 = r98.1)) == r112))) (fun h141 => by simp only [gv_t h141]; exact bind_some_eq (p_eql_bool (Try.underlying4))) ?_
            refine tb (x := (vb (((((decide (r94.2 = 0)) && (decide (r98.2 = 0))) && (decide (r103.2 = 0))) && (decide (r108.2 = 0))) && ((decide (r94.1 = r98.1)) == r112)))) (pick_and (fun h9 => gv_t h9)) ?_
            exact rf_ret rfl
        · refine tkeepO2 ?_ rfl
          refine tkeepT2 ?_ rfl
          refine tsome ?_
          refine rf_loopU (mk := fun (i151 : Int) (s147 : Unit) => [(vi i151)]) hn _ _ () (fun i151 h152 h153 h154 s147 rec145 k148 h149 => ?_) (fun i151 s147 rec156 h155 => ?_)
          · refine tb (x := (vb (decide (i151 < 16)))) (d_lss) ?_
            refine tcond_t h152 ?_
            refine tneed (x := V.any) (fun h164 => p_inA 16 i151 h164) fun h164 => ?_
            refine tbo (p_oload (e1 := fun x : Int => (vi x)) (c := cI) (fun _ => rfl) s65 i151 (fun _ => rfl)) fun r160 => ?_
            refine tb (x := (vb (decide (r160 ≠ 1)))) (d_neq) ?_
            refine tcond (fun h162 => ?_) (fun h162 => ?_)
            · exact rf_ret rfl
            · refine tb (x := (vi (i151 + 1))) (p_inc h153 h154) ?_
              refine tkeepO2 ?_ rfl
              refine tkeepT2 ?_ rfl
              refine tsome ?_
              exact h149 ()
          · refine tb (x := (vb (decide (i151 < 16)))) (d_lss) ?_
            refine tcond_f h155 ?_
            refine tkeepO2 ?_ rfl
            refine tsome ?_
            exact h72 ()
      · refine tkeepO2 ?_ rfl
        refine tsome ?_
        refine rf_loopI (mk := fun (i172 : Int) (s168 : (List Int)) => [(V.osl 1 (List.map cI s168)), (vi (i172 : Int))]) hn r58.1 ([0, 0, 0, 0, 0, 0, 0, 0, 0, 0, 0, 0, 0, 0, 0, 0] : (List Int)) (fun i172 x173 h174 h175 h176 s168 rec166 k169 h170 => ?_) (fun s168 rec235 h234 => ?_)
        · refine tb (x := (vi (List.length r58.1 : Int))) (p_len _) ?_
          refine tb (x := (vb (decide ((i172 : Int) < (List.length r58.1 : Int))))) (d_lss) ?_
          refine tcond_t h176 ?_
          refine tjoin (mk := fun s181 : (List Int) => [(V.osl 1 (List.map cI s181))]) (fun s181 => ?_) fun J180 j182 h183 => ?_
          · refine tb (x := (vi ((i172 : Int) + 1))) (p_incN h175) ?_
            refine tkeepO2 ?_ rfl
            refine tsome ?_
            exact h170 (s181)
          · refine tjoin (mk := fun s187 : (List Int) => [(V.osl 1 (List.map cI s187))]) (fun s187 => ?_) fun J186 j188 h189 => ?_
            · refine tkeepO2 ?_ rfl
              refine tsome ?_
              exact h183 (s187)
            · refine tkeepO2 ?_ rfl
              refine tsome ?_
              refine rf_loopI (mk := fun (i196 : Int) (s192 : (List Int)) => [(V.osl 1 (List.map cI s192)), (vi (i196 : Int))]) hn x173 (s168) (fun i196 x197 h198 h199 h200 s192 rec190 k193 h194 => ?_) (fun s192 rec229 h228 => ?_)
              · refine tb (x := (V.ptr [(V.sl (List.map cI x173))])) (p_idx_at (c := (cS cI)) (fun _ => rfl) h174) ?_
                refine tb (x := (V.sl (List.map cI x173))) (rfl) ?_
                refine tb (x := (vi (List.length x173 : Int))) (p_len _) ?_
                refine tb (x := (vb (decide ((i196 : Int) < (List.length x173 : Int))))) (d_lss) ?_
                refine tcond_t h200 ?_
                refine tb (x := (V.ptr [(V.sl (List.map cI x173))])) (p_idx_at (c := (cS cI)) (fun _ => rfl) h174) ?_
                refine tb (x := (V.sl (List.map cI x173))) (rfl) ?_
                refine tb (x := (V.ptr [(vi x197)])) (p_idx_at (c := cI) (fun _ => rfl) h198) ?_
                refine tb (x := (vi x197)) (rfl) ?_
                refine tb (x := (vb (decide (x197 < 0)))) (d_lss) ?_
                refine tg_f (x := (vi x197)) (fun h210 => rfl) ?_
                refine tg_f (x := (vb (decide (15 < x197)))) (fun h212 => by simp only [gv_t h212]; exact bind_some_eq (d_gtr)) ?_
                refine tb (x := (vb ((decide (x197 < 0)) || (decide (15 < x197))))) (pick_or (fun h9 => gv_t (not_f h9))) ?_
                refine tcond (fun h216 => ?_) (fun h216 => ?_)
                · exact rf_ret rfl
                · refine tneed (x := V.any) (fun h227 => p_inA 16 x197 h227) fun h227 => ?_
                  refine tbo (p_oload (e1 := fun x : Int => (vi x)) (c := cI) (fun _ => rfl) s192 x197 (fun _ => rfl)) fun r219 => ?_
                  refine tb (x := (vi (wr (r219 + 1)))) (d_add) ?_
                  refine tneed (x := V.any) (fun h226 => p_inA 16 x197 h226) fun h226 => ?_
                  refine tb (x := cI (wr (r219 + 1))) rfl ?_
                  refine tbo (p_oset (c := cI) (fun _ => rfl) s192 x197 (wr (r219 + 1))) fun r224 => ?_
                  refine tb (x := (vi ((i196 : Int) + 1))) (p_incN h199) ?_
                  refine tkeepO2 ?_ rfl
                  refine tsome ?_
                  exact h194 (r224)
              · refine tb (x := (V.ptr [(V.sl (List.map cI x173))])) (p_idx_at (c := (cS cI)) (fun _ => rfl) h174) ?_
                refine tb (x := (V.sl (List.map cI x173))) (rfl) ?_
                refine tb (x := (vi (List.length x173 : Int))) (p_len _) ?_
                refine tb (x := (vb (decide ((List.length x173 : Int) < (List.length x173 : Int))))) (d_lss) ?_
                refine tcond_f h228 ?_
                refine tkeepO2 ?_ rfl
                refine tsome ?_
                exact h189 (s192)
        · refine tb (x := (vi (List.length r58.1 : Int))) (p_len _) ?_
          refine tb (x := (vb (decide ((List.length r58.1 : Int) < (List.length r58.1 : Int))))) (d_lss) ?_
          refine tcond_f h234 ?_
          refine tkeepO2 ?_ rfl
          refine tsome ?_
          exact h67 (s168)

end Go.Proofs.Ytbcbdechaihflaa.Ty
