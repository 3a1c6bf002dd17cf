/- What functions do, as functions on plain types, written by a program and checked by the kernel. -/
import Derived.Test.YtgkohnjpnnofhaaGreatDenPlain
import Derived.Test.YtgkohnjpnnofhaaGreatTy
import Derived.Test.YtgkohnjpnnofhaaGreatTyT
import Derived.Test.YtgkohnjpnnofhaaGreatTyW
import Derived.Test.YtgkohnjpnnofhaaGreatDoTy
import Derived.Test.YtgkohnjpnnofhaaGreatDen14
import Derived.Test.YtgkohnjpnnofhaaGreatDenS2
import Derived.Test.YtgkohnjpnnofhaaGreatShelf
import Derived.Test.YtgkohnjpnnofhaaGreatClone
namespace Go.Proofs.YtgkohnjpnnofhaaGreat.Ty
set_option linter.unusedVariables false
open Go Go.RowKit Go.Proofs.YtgkohnjpnnofhaaGreat.Den
set_option maxRecDepth 100000
def T_Spot.val (x : T_Spot) : Go.Value := .agg #[.int .i64 x.Switch, .int .i64 x.Port]
theorem T_Spot.mkey : MKey Tryz.prog 65 T_Spot.val where
 chk e a w := by kernel_rfl
 find vv l a w := find_ask Tryz.underlying65 (fun _ _ => rfl) (fun a b w => equal_of (T_Spot.run_eql a b w)) vv l a w
 sb a := by show Instr.sameBits (9999 + 1) _ _ = true; simp [Instr.sameBits, T_Spot.val]
def an_cube_Header : Ann := .seq (.reg 0 [] [] []) (.seq (.reg 0 [] [] []) (.no))
noncomputable def sem_cube_Header (n : Nat) (xs : List V) : Option V := if xs.length ≤ 9 then denF Tryz.prog (envOf []) n Tryz.f41 an_cube_Header xs else none
theorem ok_cube_Header (n : Nat) : SemOk Tryz.prog DW 41 (sem_cube_Header n) := fun xs y h => by
 unfold sem_cube_Header at h
 split at h
 ·rename_i hl
  exact denF_ok stb Tryz.func41 (by kernel_rfl) (envOf_ok semsOk_nil) (by rw [Tryz.ntmps41]; exact hl) h
 ·cases h
theorem eq_cube_Header (n : Nat) (x0 : V) : sem_cube_Header n [x0] =
 (bin2 Tryz.prog BinOp.geq 3 (ot 3) (oc 0) x0 (vi 0)).bind fun v1 =>
 (guardV v1 true (some x0)).bind fun v2 =>
 (guardV v1 true ((bin2 Tryz.prog BinOp.lss 3 (ot 6) (oc 16) v2 (vi 16)).bind fun v3 =>
 some v3)).bind fun v4 =>
 (pickV v1 v4 (vb false)).bind fun v5 =>
 some v5 := by kernel_rfl
noncomputable def t_cube_Header (a0 : Int) : Option Bool :=
 some ((decide (0 ≤ a0)) && (decide (a0 < 16)))
theorem ty_cube_Header {n : Nat} (hn : bigN ≤ n) (a0 : Int) : Rv (fun x : Bool => (vb x)) (sem_cube_Header n [(vi a0)]) (t_cube_Header a0) := by
 rw [eq_cube_Header]
 unfold t_cube_Header; refine tq (vb (decide (0 ≤ a0))) (d_geq) ?_; refine tg (x := (vi a0)) (fun h2 => rfl) ?_; refine tg (x := (vb (decide (a0 < 16)))) (fun h4 => by simp only [gv_t h4]; exact bind_some_eq (d_lss)) ?_; refine tq (vb ((decide (0 ≤ a0)) && (decide (a0 < 16)))) (pick_and (fun h9 => gv_t h9)) ?_; exact rf_ret rfl
def an_cube_Check : Ann := .seq (.reg 0 [] [] []) (.seq (.blk none (.seq (.reg 0 [] [] []) (.cond none (.seq (.reg 0 [] [] []) (.no)) (.seq (.reg 0 [] [] []) (.cond none (.seq (.reg 0 [] [] []) (.no)) (.no)))))) (.seq (.reg 0 [] [] []) (.no)))
noncomputable def sem_cube_Check (n : Nat) (xs : List V) : Option V := if xs.length ≤ 23 then denF Tryz.prog (envOf [(41, (sem_cube_Header n))]) n Tryz.f55 an_cube_Check xs else none
theorem ok_cube_Check (n : Nat) : SemOk Tryz.prog DW 55 (sem_cube_Check n) := fun xs y h => by
 unfold sem_cube_Check at h
 split at h
 ·rename_i hl
  exact denF_ok stb Tryz.func55 (by kernel_rfl) (envOf_ok (semsOk_cons (ok_cube_Header n) semsOk_nil)) (by rw [Tryz.ntmps55]; exact hl) h
 ·cases h
theorem eq_cube_Check (n : Nat) (x0 : V) : sem_cube_Check n [x0] =
 (V.cellsO x0).bind fun v1 =>
 (ldk none (List.drop 0 v1)).bind fun v2 =>
 ((sem_cube_Header n) [v2]).bind fun v3 =>
 (scal1 Tryz.prog (Op.unary Go.UnOp.not) v3).bind fun v4 =>
 (guardV v4 false (some V.any)).bind fun v5 =>
 (guardV v4 false ((gate v4 false (ldk none (List.drop 1 v1))).bind fun v6 =>
 some v6)).bind fun v7 =>
 (guardV v4 false (((sem_cube_Header n) [v7]).bind fun v8 =>
 some v8)).bind fun v9 =>
 (guardV v4 false ((scal1 Tryz.prog (Op.unary Go.UnOp.not) v9).bind fun v10 =>
 some v10)).bind fun v11 =>
 (pickV v4 (vb true) v11).bind fun v12 =>
 condV v12 (
 (scal1 Tryz.prog (Instr.makeInterface 81) (vi 1)).bind fun v13 =>
 some v13) (
 (ldk none (List.drop 1 v1)).bind fun v14 =>
 (ldk none (List.drop 0 v1)).bind fun v15 =>
 (bin2 Tryz.prog BinOp.andNot 3 (ot 17) (ot 19) v14 v15).bind fun v16 =>
 (bin2 Tryz.prog BinOp.neq 3 (ot 20) (oc 0) v16 (vi 0)).bind fun v17 =>
 condV v17 (
 (scal1 Tryz.prog (Instr.makeInterface 81) (vi 3)).bind fun v18 =>
 some v18) (
 some vn)) := by kernel_rfl
noncomputable def t_cube_Check (a0 : T_Cube) : Option Int :=
 (t_cube_Header a0.Mask).bind fun r4 =>
 (gd (!(!r4)) default (t_cube_Header a0.Bits)).bind fun r14 =>
 if ((!r4) || (!r14)) = true then (
 some 1) else (
 if (decide ((bits .andNot .i64 a0.Bits a0.Mask) ≠ 0)) = true then (
 some 3) else (
 some 0))
theorem ty_cube_Check {n : Nat} (hn : bigN ≤ n) (a0 : T_Cube) : Rv (fun x : Int => (eV x)) (sem_cube_Check n [(T_Cube.e a0)]) (t_cube_Check a0) := by
 rw [eq_cube_Check]
 unfold t_cube_Check; refine tq (T_Cube.c a0) rfl ?_; refine tq (vi a0.Mask) (rfl) ?_; refine tbo (ty_cube_Header hn a0.Mask) fun r4 => ?_; refine tq (vb (!r4)) (d_not) ?_; refine tg_f (x := V.any) (fun h6 => rfl) ?_; refine tg_f (x := (vi a0.Bits)) (fun h8 => bind_some_eq (gate_pos (not_t h8) (rfl))) ?_; refine tgo_f (fun h11 => by simp only [gv_t h11]; exact rf_bind_some (ty_cube_Header hn a0.Bits)) fun r14 => ?_; refine tg_f (x := (vb (!r14))) (fun h15 => by simp only [gv_t h15]; exact bind_some_eq (d_not)) ?_; refine tq (vb ((!r4) || (!r14))) (pick_or (fun h9 => gv_t (not_f h9))) ?_; refine tcond (fun h19 => ?_) (fun h19 => ?_)
 ·refine tq (eV 1) (p_mkE (by decide)) ?_; exact rf_ret rfl
 ·refine tq (vi a0.Bits) (rfl) ?_; refine tq (vi a0.Mask) (rfl) ?_; refine tq (vi (bits .andNot .i64 a0.Bits a0.Mask)) (d_andNot) ?_; refine tq (vb (decide ((bits .andNot .i64 a0.Bits a0.Mask) ≠ 0))) (d_neq) ?_; refine tcond (fun h25 => ?_) (fun h25 => ?_)
  ·refine tq (eV 3) (p_mkE (by decide)) ?_; exact rf_ret rfl
  ·exact rf_ret rfl
def an_rule_Check : Ann := .seq (.reg 0 [] [] []) (.seq (.seq (.reg 0 [] [] []) (.cond none (.seq (.reg 0 [] [] []) (.no)) (.no))) (.seq (.seq (.reg 0 [] [] []) (.seq (.reg 0 [] [] []) (.cond none (.seq (.reg 0 [] [] []) (.no)) (.no)))) (.seq (.seq (.reg 0 [] [] []) (.cond none (.seq (.reg 0 [] [] []) (.no)) (.no))) (.seq (.reg 0 [] [] []) (.no)))))
noncomputable def sem_rule_Check (n : Nat) (xs : List V) : Option V := if xs.length ≤ 58 then denF Tryz.prog (envOf [(41, (sem_cube_Header n)), (55, (sem_cube_Check n))]) n Tryz.f24 an_rule_Check xs else none
theorem ok_rule_Check (n : Nat) : SemOk Tryz.prog DW 24 (sem_rule_Check n) := fun xs y h => by
 unfold sem_rule_Check at h
 split at h
 ·rename_i hl
  exact denF_ok stb Tryz.func24 (by kernel_rfl) (envOf_ok (semsOk_cons (ok_cube_Header n) (semsOk_cons (ok_cube_Check n) semsOk_nil))) (by rw [Tryz.ntmps24]; exact hl) h
 ·cases h
theorem eq_rule_Check (n : Nat) (x0 : V) : sem_rule_Check n [x0] =
 (V.cellsO x0).bind fun v1 =>
 (ldk none (List.drop 0 v1)).bind fun v2 =>
 (bin2 Tryz.prog BinOp.lss 3 (ot 5) (oc 0) v2 (vi 0)).bind fun v3 =>
 (guardV v3 false (some V.any)).bind fun v4 =>
 (guardV v3 false ((gate v3 false (ldk none (List.drop 0 v1))).bind fun v5 =>
 some v5)).bind fun v6 =>
 (guardV v3 false ((bin2 Tryz.prog BinOp.gtr 3 (ot 9) (oc 99) v6 (vi 99)).bind fun v7 =>
 some v7)).bind fun v8 =>
 (pickV v3 (vb true) v8).bind fun v9 =>
 (guardV v9 false (some V.any)).bind fun v10 =>
 (guardV v9 false ((gate v9 false (ldk none (List.drop 3 v1))).bind fun v11 =>
 some v11)).bind fun v12 =>
 (guardV v9 false ((bin2 Tryz.prog BinOp.lss 3 (ot 14) (oc 0) v12 (vi 0)).bind fun v13 =>
 some v13)).bind fun v14 =>
 (pickV v9 (vb true) v14).bind fun v15 =>
 (guardV v15 false (some V.any)).bind fun v16 =>
 (guardV v15 false ((gate v15 false (ldk none (List.drop 3 v1))).bind fun v17 =>
 some v17)).bind fun v18 =>
 (guardV v15 false ((bin2 Tryz.prog BinOp.gtr 3 (ot 19) (oc 4) v18 (vi 4)).bind fun v19 =>
 some v19)).bind fun v20 =>
 (pickV v15 (vb true) v20).bind fun v21 =>
 (guardV v21 false (some V.any)).bind fun v22 =>
 (guardV v21 false ((gate v21 false (ldk none (List.drop 4 v1))).bind fun v23 =>
 some v23)).bind fun v24 =>
 (guardV v21 false (((sem_cube_Header n) [v24]).bind fun v25 =>
 some v25)).bind fun v26 =>
 (guardV v21 false ((scal1 Tryz.prog (Op.unary Go.UnOp.not) v26).bind fun v27 =>
 some v27)).bind fun v28 =>
 (pickV v21 (vb true) v28).bind fun v29 =>
 (guardV v29 false (some V.any)).bind fun v30 =>
 (guardV v29 false ((gate v29 false (ldk none (List.drop 5 v1))).bind fun v31 =>
 some v31)).bind fun v32 =>
 (guardV v29 false (((sem_cube_Header n) [v32]).bind fun v33 =>
 some v33)).bind fun v34 =>
 (guardV v29 false ((scal1 Tryz.prog (Op.unary Go.UnOp.not) v34).bind fun v35 =>
 some v35)).bind fun v36 =>
 (pickV v29 (vb true) v36).bind fun v37 =>
 condV v37 (
 (scal1 Tryz.prog (Instr.makeInterface 81) (vi 1)).bind fun v38 =>
 some v38) (
 (ldk (some 2) (List.drop 1 v1)).bind fun v39 =>
 ((sem_cube_Check n) [v39]).bind fun v40 =>
 (bin2 Tryz.prog BinOp.neq 32 (ot 38) (Operand.const Go.Value.nilIface) v40 vn).bind fun v41 =>
 condV v41 (
 some v40) (
 (ldk none (List.drop 5 v1)).bind fun v42 =>
 (ldk none (List.drop 4 v1)).bind fun v43 =>
 (bin2 Tryz.prog BinOp.andNot 3 (ot 42) (ot 44) v42 v43).bind fun v44 =>
 (bin2 Tryz.prog BinOp.neq 3 (ot 45) (oc 0) v44 (vi 0)).bind fun v45 =>
 (guardV v45 false (some V.any)).bind fun v46 =>
 (guardV v45 false ((gate v45 false (ldk none (List.drop 3 v1))).bind fun v47 =>
 some v47)).bind fun v48 =>
 (guardV v45 false ((bin2 Tryz.prog BinOp.eql 3 (ot 49) (oc 0) v48 (vi 0)).bind fun v49 =>
 some v49)).bind fun v50 =>
 (guardV v45 false (some v50)).bind fun v51 =>
 (guardV v51 true (some V.any)).bind fun v52 =>
 (guardV v51 true ((gate v51 true (ldk none (List.drop 4 v1))).bind fun v53 =>
 some v53)).bind fun v54 =>
 (guardV v51 true ((bin2 Tryz.prog BinOp.neq 3 (ot 53) (oc 0) v54 (vi 0)).bind fun v55 =>
 some v55)).bind fun v56 =>
 (guardV v45 false ((pickV v51 v56 (vb false)).bind fun v57 =>
 some v57)).bind fun v58 =>
 (pickV v45 (vb true) v58).bind fun v59 =>
 condV v59 (
 (scal1 Tryz.prog (Instr.makeInterface 81) (vi 3)).bind fun v60 =>
 some v60) (
 some vn))) := by kernel_rfl
noncomputable def t_rule_Check (a0 : T_Rule) : Option Int :=
 (gd (!((((decide (a0.Prio < 0)) || (decide (99 < a0.Prio))) || (decide (a0.Out < 0))) || (decide (4 < a0.Out)))) default (t_cube_Header a0.Set)).bind fun r39 =>
 (gd (!(((((decide (a0.Prio < 0)) || (decide (99 < a0.Prio))) || (decide (a0.Out < 0))) || (decide (4 < a0.Out))) || (!r39))) default (t_cube_Header a0.Value)).bind fun r52 =>
 if ((((((decide (a0.Prio < 0)) || (decide (99 < a0.Prio))) || (decide (a0.Out < 0))) || (decide (4 < a0.Out))) || (!r39)) || (!r52)) = true then (
 some 1) else (
 (t_cube_Check a0.Cube).bind fun r61 =>
 if (!decide (r61 = 0)) = true then (
 some r61) else (
 if ((decide ((bits .andNot .i64 a0.Value a0.Set) ≠ 0)) || ((decide (a0.Out = 0)) && (decide (a0.Set ≠ 0)))) = true then (
 some 3) else (
 some 0)))
theorem ty_rule_Check {n : Nat} (hn : bigN ≤ n) (a0 : T_Rule) : Rv (fun x : Int => (eV x)) (sem_rule_Check n [(T_Rule.e a0)]) (t_rule_Check a0) := by
 rw [eq_rule_Check]
 unfold t_rule_Check; refine tq (T_Rule.c a0) rfl ?_; refine tq (vi a0.Prio) (rfl) ?_; refine tq (vb (decide (a0.Prio < 0))) (d_lss) ?_; refine tg_f (x := V.any) (fun h4 => rfl) ?_; refine tg_f (x := (vi a0.Prio)) (fun h6 => bind_some_eq (gate_pos (not_t h6) (rfl))) ?_; refine tg_f (x := (vb (decide (99 < a0.Prio)))) (fun h9 => by simp only [gv_t h9]; exact bind_some_eq (d_gtr)) ?_; refine tq (vb ((decide (a0.Prio < 0)) || (decide (99 < a0.Prio)))) (pick_or (fun h9 => gv_t (not_f h9))) ?_; refine tg_f (x := V.any) (fun h13 => rfl) ?_; refine tg_f (x := (vi a0.Out)) (fun h15 => bind_some_eq (gate_pos (not_t h15) (rfl))) ?_; refine tg_f (x := (vb (decide (a0.Out < 0)))) (fun h18 => by simp only [gv_t h18]; exact bind_some_eq (d_lss)) ?_; refine tq (vb (((decide (a0.Prio < 0)) || (decide (99 < a0.Prio))) || (decide (a0.Out < 0)))) (pick_or (fun h9 => gv_t (not_f h9))) ?_; refine tg_f (x := V.any) (fun h22 => rfl) ?_; refine tg_f (x := (vi a0.Out)) (fun h24 => bind_some_eq (gate_pos (not_t h24) (rfl))) ?_; refine tg_f (x := (vb (decide (4 < a0.Out)))) (fun h27 => by simp only [gv_t h27]; exact bind_some_eq (d_gtr)) ?_; refine tq (vb ((((decide (a0.Prio < 0)) || (decide (99 < a0.Prio))) || (decide (a0.Out < 0))) || (decide (4 < a0.Out)))) (pick_or (fun h9 => gv_t (not_f h9))) ?_; refine tg_f (x := V.any) (fun h31 => rfl) ?_; refine tg_f (x := (vi a0.Set)) (fun h33 => bind_some_eq (gate_pos (not_t h33) (rfl))) ?_; refine tgo_f (fun h36 => by simp only [gv_t h36]; exact rf_bind_some (ty_cube_Header hn a0.Set)) fun r39 => ?_; refine tg_f (x := (vb (!r39))) (fun h40 => by simp only [gv_t h40]; exact bind_some_eq (d_not)) ?_; refine tq (vb (((((decide (a0.Prio < 0)) || (decide (99 < a0.Prio))) || (decide (a0.Out < 0))) || (decide (4 < a0.Out))) || (!r39))) (pick_or (fun h9 => gv_t (not_f h9))) ?_; refine tg_f (x := V.any) (fun h44 => rfl) ?_; refine tg_f (x := (vi a0.Value)) (fun h46 => bind_some_eq (gate_pos (not_t h46) (rfl))) ?_; refine tgo_f (fun h49 => by simp only [gv_t h49]; exact rf_bind_some (ty_cube_Header hn a0.Value)) fun r52 => ?_; refine tg_f (x := (vb (!r52))) (fun h53 => by simp only [gv_t h53]; exact bind_some_eq (d_not)) ?_; refine tq (vb ((((((decide (a0.Prio < 0)) || (decide (99 < a0.Prio))) || (decide (a0.Out < 0))) || (decide (4 < a0.Out))) || (!r39)) || (!r52))) (pick_or (fun h9 => gv_t (not_f h9))) ?_; refine tcond (fun h57 => ?_) (fun h57 => ?_)
 ·refine tq (eV 1) (p_mkE (by decide)) ?_; exact rf_ret rfl
 ·refine tq (T_Cube.e a0.Cube) (rfl) ?_; refine tbo (ty_cube_Check hn a0.Cube) fun r61 => ?_; refine tq (vb (!decide (r61 = 0))) (p_err_neq _) ?_; refine tcond (fun h63 => ?_) (fun h63 => ?_)
  ·exact rf_ret rfl
  ·refine tq (vi a0.Value) (rfl) ?_; refine tq (vi a0.Set) (rfl) ?_; refine tq (vi (bits .andNot .i64 a0.Value a0.Set)) (d_andNot) ?_; refine tq (vb (decide ((bits .andNot .i64 a0.Value a0.Set) ≠ 0))) (d_neq) ?_; refine tg_f (x := V.any) (fun h68 => rfl) ?_; refine tg_f (x := (vi a0.Out)) (fun h70 => bind_some_eq (gate_pos (not_t h70) (rfl))) ?_; refine tg_f (x := (vb (decide (a0.Out = 0)))) (fun h73 => by simp only [gv_t h73]; exact bind_some_eq (d_eql)) ?_; refine tg_f (x := (vb (decide (a0.Out = 0)))) (fun h76 => congrArg some (gv_t h76)) ?_; refine tg2 (x := V.any) (fun h78 => rfl) ?_; refine tg2 (x := (vi a0.Set)) (fun h80 => bind_some_eq (gate_pos2 (and_l h80) (and_r h80) (rfl))) ?_; refine tg2 (x := (vb (decide (a0.Set ≠ 0)))) (fun h83 => by simp only [gv_t h83]; exact bind_some_eq (d_neq)) ?_; refine tg_f (x := (vb ((decide (a0.Out = 0)) && (decide (a0.Set ≠ 0))))) (fun h86 => by simp only [gv_t h86]; exact bind_some_eq (pick_and (fun h9 => gv_t (and_i h86 h9)))) ?_; refine tq (vb ((decide ((bits .andNot .i64 a0.Value a0.Set) ≠ 0)) || ((decide (a0.Out = 0)) && (decide (a0.Set ≠ 0))))) (pick_or (fun h9 => gv_t (not_f h9))) ?_; refine tcond (fun h90 => ?_) (fun h90 => ?_)
   ·refine tq (eV 3) (p_mkE (by decide)) ?_; exact rf_ret rfl
   ·exact rf_ret rfl
def an_slices_IndexFunc_api_Table_api_Rule : Ann := .seq (.reg 0 [] [] []) (.seq (.seq (.reg 0 [] [] []) (.blk (some []) (.loop [.s 8] (.seq (.reg 0 [] [] []) (.seq (.cond none (.no) (.no)) (.seq (.blk none (.seq (.reg 0 [] [] []) (.seq (.reg 0 [] [] []) (.cond none (.seq (.reg 0 [] [] []) (.no)) (.no))))) (.reg 0 [] [] []))))))) (.seq (.reg 0 [] [] []) (.no)))
noncomputable def sem_slices_IndexFunc_api_Table_api_Rule (E : FuncId → List V → Option V) (n : Nat) (xs : List V) : Option V := if xs.length ≤ 19 then denF Tryz.prog (envJ [] E) n Tryz.f73 an_slices_IndexFunc_api_Table_api_Rule xs else none
theorem ok_slices_IndexFunc_api_Table_api_Rule {E : FuncId → List V → Option V} (hE : EnvOk Tryz.prog DW E) (n : Nat) : SemOk Tryz.prog DW 73 (sem_slices_IndexFunc_api_Table_api_Rule E n) := fun xs y h => by
 unfold sem_slices_IndexFunc_api_Table_api_Rule at h
 split at h
 ·rename_i hl
  exact denF_ok stb Tryz.func73 (by kernel_rfl) (envJ_ok semsOk_nil hE) (by rw [Tryz.ntmps73]; exact hl) h
 ·cases h
theorem eq_slices_IndexFunc_api_Table_api_Rule (E : FuncId → List V → Option V) (n : Nat) (x0 x1 : V) : sem_slices_IndexFunc_api_Table_api_Rule E n [x0, x1] =
 (lenS [x0]).bind fun v1 =>
 JoinPt (fun vs2 =>
 some (vi (-1 : Int))) fun J3 =>
 (fixN (fun rec4 vs5 =>
 (bin2 Tryz.prog BinOp.lss 3 (ot 8) (ot 7) (List.getD vs5 0 V.any) v1).bind fun v6 =>
 condV v6 (
 (idxS 6 x0 (List.getD vs5 0 V.any)).bind fun v7 =>
 (ldp (some 6) v7).bind fun v8 =>
 (callV (envJ [] E) x1 [v8]).bind fun v9 =>
 condV v9 (
 some (List.getD vs5 0 V.any)) (
 (bin2 Tryz.prog BinOp.add 3 (ot 8) (oc 1) (List.getD vs5 0 V.any) (vi 1)).bind fun v10 =>
 rec4 [v10])) (
 J3 [])) n) [(vi 0)] := by kernel_rfl
noncomputable def t_slices_IndexFunc_api_Table_api_Rule (a0 : (List T_Rule)) (g1 : T_Rule → Option Bool) : Option Int :=
 join (fun (s4 : Unit) =>
 some (-1 : Int)) fun j5 =>
 loopI a0 (fun (i13 : Int) x14 (s9 : Unit) k10 =>
 (g1 x14).bind fun r22 =>
 if r22 = true then (
 some i13) else (
 k10 ())) (fun (s9 : Unit) =>
 j5 ()) ()
theorem ty_slices_IndexFunc_api_Table_api_Rule {E : FuncId → List V → Option V} {n : Nat} (hn : bigN ≤ n) (a0 : (List T_Rule)) {x1 : V} {g1 : T_Rule → Option Bool} (hg_g1 : ∀ a0, Rv (fun x : Bool => (vb x)) (callV E x1 [(T_Rule.e a0)]) (g1 a0)) : Rv (fun x : Int => (vi x)) (sem_slices_IndexFunc_api_Table_api_Rule E n [(V.sl (List.map T_Rule.c a0)), x1]) (t_slices_IndexFunc_api_Table_api_Rule a0 g1) := by
 rw [eq_slices_IndexFunc_api_Table_api_Rule]
 unfold t_slices_IndexFunc_api_Table_api_Rule; refine tq (vi (List.length a0 : Int)) (p_len _) ?_; refine tjoin (mk := fun s4 : Unit => []) (fun s4 => ?_) fun J3 j5 h6 => ?_
 ·exact rf_ret rfl
 ·refine rf_loopI (mk := fun (i13 : Int) (s9 : Unit) => [(vi (i13 : Int))]) hn a0 () (fun i13 x14 h15 h16 h17 s9 rec7 k10 h11 => ?_) (fun s9 rec26 h25 => ?_)
  ·refine tq (vb (decide ((i13 : Int) < (List.length a0 : Int)))) (d_lss) ?_; refine tcond_t h17 ?_; refine tq (V.ptr (T_Rule.c x14)) (p_idx_at (c := T_Rule.c) (fun _ => rfl) h15) ?_; refine tq (T_Rule.e x14) (rfl) ?_; refine tbo ((callV_J0 ▸ hg_g1 x14)) fun r22 => ?_; refine tcond (fun h23 => ?_) (fun h23 => ?_)
   ·exact rf_ret rfl
   ·refine tq (vi ((i13 : Int) + 1)) (p_incN h16) ?_; exact h11 ()
  ·refine tq (vb (decide ((List.length a0 : Int) < (List.length a0 : Int)))) (d_lss) ?_; refine tcond_f h25 ?_; exact h6 ()
def an_slices_ContainsFunc_api_Table_api_Rule : Ann := .seq (.reg 0 [] [] []) (.seq (.reg 0 [] [] []) (.no))
noncomputable def sem_slices_ContainsFunc_api_Table_api_Rule (E : FuncId → List V → Option V) (n : Nat) (xs : List V) : Option V := if xs.length ≤ 9 then denF Tryz.prog (envJ [(73, (sem_slices_IndexFunc_api_Table_api_Rule E n))] E) n Tryz.f50 an_slices_ContainsFunc_api_Table_api_Rule xs else none
theorem ok_slices_ContainsFunc_api_Table_api_Rule {E : FuncId → List V → Option V} (hE : EnvOk Tryz.prog DW E) (n : Nat) : SemOk Tryz.prog DW 50 (sem_slices_ContainsFunc_api_Table_api_Rule E n) := fun xs y h => by
 unfold sem_slices_ContainsFunc_api_Table_api_Rule at h
 split at h
 ·rename_i hl
  exact denF_ok stb Tryz.func50 (by kernel_rfl) (envJ_ok (semsOk_cons (ok_slices_IndexFunc_api_Table_api_Rule hE n) semsOk_nil) hE) (by rw [Tryz.ntmps50]; exact hl) h
 ·cases h
theorem eq_slices_ContainsFunc_api_Table_api_Rule (E : FuncId → List V → Option V) (n : Nat) (x0 x1 : V) : sem_slices_ContainsFunc_api_Table_api_Rule E n [x0, x1] =
 ((sem_slices_IndexFunc_api_Table_api_Rule E n) [x0, x1]).bind fun v1 =>
 (bin2 Tryz.prog BinOp.geq 3 (ot 7) (oc 0) v1 (vi 0)).bind fun v2 =>
 some v2 := by kernel_rfl
noncomputable def t_slices_ContainsFunc_api_Table_api_Rule (a0 : (List T_Rule)) (g1 : T_Rule → Option Bool) : Option Bool :=
 (t_slices_IndexFunc_api_Table_api_Rule a0 g1).bind fun r2 =>
 some (decide (0 ≤ r2))
theorem ty_slices_ContainsFunc_api_Table_api_Rule {E : FuncId → List V → Option V} {n : Nat} (hn : bigN ≤ n) (a0 : (List T_Rule)) {x1 : V} {g1 : T_Rule → Option Bool} (hg_g1 : ∀ a0, Rv (fun x : Bool => (vb x)) (callV E x1 [(T_Rule.e a0)]) (g1 a0)) : Rv (fun x : Bool => (vb x)) (sem_slices_ContainsFunc_api_Table_api_Rule E n [(V.sl (List.map T_Rule.c a0)), x1]) (t_slices_ContainsFunc_api_Table_api_Rule a0 g1) := by
 rw [eq_slices_ContainsFunc_api_Table_api_Rule]
 unfold t_slices_ContainsFunc_api_Table_api_Rule; refine tbo (ty_slices_IndexFunc_api_Table_api_Rule (E := E) (x1 := x1) (g1 := g1) hn a0 hg_g1) fun r2 => ?_; refine tq (vb (decide (0 ≤ r2))) (d_geq) ?_; exact rf_ret rfl
def an_rule_Key : Ann := .seq (.reg 0 [] [] []) (.seq (.reg 0 [] [] []) (.no))
noncomputable def sem_rule_Key (n : Nat) (xs : List V) : Option V := if xs.length ≤ 17 then denF Tryz.prog (envOf []) n Tryz.f52 an_rule_Key xs else none
theorem ok_rule_Key (n : Nat) : SemOk Tryz.prog DW 52 (sem_rule_Key n) := fun xs y h => by
 unfold sem_rule_Key at h
 split at h
 ·rename_i hl
  exact denF_ok stb Tryz.func52 (by kernel_rfl) (envOf_ok semsOk_nil) (by rw [Tryz.ntmps52]; exact hl) h
 ·cases h
theorem eq_rule_Key (n : Nat) (x0 x1 : V) : sem_rule_Key n [x0, x1] =
 (V.cellsO x0).bind fun v1 =>
 (V.cellsO x1).bind fun v2 =>
 (ldk none (List.drop 0 v1)).bind fun v3 =>
 (ldk none (List.drop 0 v2)).bind fun v4 =>
 (bin2 Tryz.prog BinOp.eql 3 (ot 6) (ot 8) v3 v4).bind fun v5 =>
 (guardV v5 true (some V.any)).bind fun v6 =>
 (guardV v5 true ((gate v5 true (ldk (some 2) (List.drop 1 v1))).bind fun v7 =>
 some v7)).bind fun v8 =>
 (guardV v5 true (some V.any)).bind fun v9 =>
 (guardV v5 true ((gate v5 true (ldk (some 2) (List.drop 1 v2))).bind fun v10 =>
 some v10)).bind fun v11 =>
 (guardV v5 true ((bin2 Tryz.prog BinOp.eql 45 (ot 12) (ot 14) v8 v11).bind fun v12 =>
 some v12)).bind fun v13 =>
 (pickV v5 v13 (vb false)).bind fun v14 =>
 some v14 := by kernel_rfl
noncomputable def t_rule_Key (a0 : T_Rule) (a1 : T_Rule) : Option Bool :=
 some ((decide (a0.Prio = a1.Prio)) && (decide (a0.Cube = a1.Cube)))
theorem ty_rule_Key {n : Nat} (hn : bigN ≤ n) (a0 : T_Rule) (a1 : T_Rule) : Rv (fun x : Bool => (vb x)) (sem_rule_Key n [(T_Rule.e a0), (T_Rule.e a1)]) (t_rule_Key a0 a1) := by
 rw [eq_rule_Key]
 unfold t_rule_Key; refine tq (T_Rule.c a0) rfl ?_; refine tq (T_Rule.c a1) rfl ?_; refine tq (vi a0.Prio) (rfl) ?_; refine tq (vi a1.Prio) (rfl) ?_; refine tq (vb (decide (a0.Prio = a1.Prio))) (d_eql) ?_; refine tg (x := V.any) (fun h6 => rfl) ?_; refine tg (x := (T_Cube.e a0.Cube)) (fun h8 => bind_some_eq (gate_pos h8 (rfl))) ?_; refine tg (x := V.any) (fun h11 => rfl) ?_; refine tg (x := (T_Cube.e a1.Cube)) (fun h13 => bind_some_eq (gate_pos h13 (rfl))) ?_; refine tg (x := (vb (decide (a0.Cube = a1.Cube)))) (fun h16 => by simp only [gv_t h16]; exact bind_some_eq (T_Cube.eql a0.Cube a1.Cube)) ?_; refine tq (vb ((decide (a0.Prio = a1.Prio)) && (decide (a0.Cube = a1.Cube)))) (pick_and (fun h9 => gv_t h9)) ?_; exact rf_ret rfl
def an_rule_Table_1 : Ann := .seq (.reg 0 [] [] []) (.seq (.reg 0 [] [] []) (.no))
noncomputable def sem_rule_Table_1 (n : Nat) (xs : List V) : Option V := if xs.length ≤ 7 then denF Tryz.prog (envOf [(52, (sem_rule_Key n))]) n Tryz.f59 an_rule_Table_1 xs else none
theorem ok_rule_Table_1 (n : Nat) : SemOk Tryz.prog DW 59 (sem_rule_Table_1 n) := fun xs y h => by
 unfold sem_rule_Table_1 at h
 split at h
 ·rename_i hl
  exact denF_ok stb Tryz.func59 (by kernel_rfl) (envOf_ok (semsOk_cons (ok_rule_Key n) semsOk_nil)) (by rw [Tryz.ntmps59]; exact hl) h
 ·cases h
theorem eq_rule_Table_1 (n : Nat) (x0 x1 : V) : sem_rule_Table_1 n [x0, x1] =
 (V.cellsO x0).bind fun v1 =>
 (ldk (some 6) (List.drop 0 v1)).bind fun v2 =>
 (ldp (some 6) x1).bind fun v3 =>
 ((sem_rule_Key n) [v2, v3]).bind fun v4 =>
 some v4 := by kernel_rfl
noncomputable def t_rule_Table_1 (a0 : T_Rule) (a1 : T_Rule) : Option Bool :=
 (t_rule_Key a0 a1).bind fun r5 =>
 some r5
theorem ty_rule_Table_1 {n : Nat} (hn : bigN ≤ n) (a0 : T_Rule) (a1 : T_Rule) : Rv (fun x : Bool => (vb x)) (sem_rule_Table_1 n [(T_Rule.e a0), (V.ptr (T_Rule.c a1))]) (t_rule_Table_1 a0 a1) := by
 rw [eq_rule_Table_1]
 unfold t_rule_Table_1; refine tq (T_Rule.c a0) rfl ?_; refine tq (T_Rule.e a0) (rfl) ?_; refine tq (T_Rule.e a1) (rfl) ?_; refine tbo (ty_rule_Key hn a0 a1) fun r5 => ?_; exact rf_ret rfl
def an_rule_Table : Ann := .seq (.reg 0 [] [] []) (.seq (.seq (.reg 0 [] [] []) (.cond none (.seq (.reg 0 [] [] []) (.no)) (.no))) (.seq (.seq (.reg 0 [] [] []) (.blk (some []) (.loop [.s 12] (.seq (.reg 0 [] [] []) (.seq (.cond none (.no) (.no)) (.seq (.blk none (.seq (.reg 0 [] [] []) (.seq (.seq (.reg 0 [4] [] []) (.seq (.reg 0 [] [] []) (.cond none (.seq (.reg 0 [] [] []) (.no)) (.no)))) (.seq (.reg 0 [] [] []) (.cond none (.seq (.reg 0 [] [] []) (.no)) (.no)))))) (.reg 0 [] [] []))))))) (.seq (.reg 0 [] [] []) (.no))))
noncomputable def sem_rule_Table (n : Nat) (xs : List V) : Option V := if xs.length ≤ 29 then denF Tryz.prog (envOf [(24, (sem_rule_Check n)), (50, (sem_slices_ContainsFunc_api_Table_api_Rule (envOf [(59, (sem_rule_Table_1 n))]) n)), (59, (sem_rule_Table_1 n))]) n Tryz.f33 an_rule_Table xs else none
theorem ok_rule_Table (n : Nat) : SemOk Tryz.prog DW 33 (sem_rule_Table n) := fun xs y h => by
 unfold sem_rule_Table at h
 split at h
 ·rename_i hl
  exact denF_ok stb Tryz.func33 (by kernel_rfl) (envOf_ok (semsOk_cons (ok_rule_Check n) (semsOk_cons (ok_slices_ContainsFunc_api_Table_api_Rule (envOf_ok (semsOk_cons (ok_rule_Table_1 n) semsOk_nil)) n) (semsOk_cons (ok_rule_Table_1 n) semsOk_nil)))) (by rw [Tryz.ntmps33]; exact hl) h
 ·cases h
theorem eq_rule_Table (n : Nat) (x0 : V) : sem_rule_Table n [x0] =
 (lenS [x0]).bind fun v1 =>
 (bin2 Tryz.prog BinOp.gtr 3 (ot 7) (oc 12) v1 (vi 12)).bind fun v2 =>
 condV v2 (
 (scal1 Tryz.prog (Instr.makeInterface 81) (vi 4)).bind fun v3 =>
 some v3) (
 (lenS [x0]).bind fun v4 =>
 JoinPt (fun vs5 =>
 some vn) fun J6 =>
 (fixN (fun rec7 vs8 =>
 (bin2 Tryz.prog BinOp.lss 3 (ot 12) (ot 11) (List.getD vs8 0 V.any) v4).bind fun v9 =>
 condV v9 (
 (idxS 6 x0 (List.getD vs8 0 V.any)).bind fun v10 =>
 (ldp (some 6) v10).bind fun v11 =>
 (spliceV [(vi 0), (vi 0), (vi 0), (vi 0), (vi 0), (vi 0)] 0 6 v11).bind fun v12 =>
 (ldp (some 6) (V.ptr (aggL v12))).bind fun v13 =>
 ((sem_rule_Check n) [v13]).bind fun v14 =>
 (bin2 Tryz.prog BinOp.neq 32 (ot 19) (Operand.const Go.Value.nilIface) v14 vn).bind fun v15 =>
 condV v15 (
 some v14) (
 (slc (some 6) x0 none (some (List.getD vs8 0 V.any))).bind fun v16 =>
 ((sem_slices_ContainsFunc_api_Table_api_Rule (envOf [(59, (sem_rule_Table_1 n))]) n) [v16, (V.fn 59 [(V.ptr (aggL v12))])]).bind fun v17 =>
 condV v17 (
 (scal1 Tryz.prog (Instr.makeInterface 81) (vi 7)).bind fun v18 =>
 some v18) (
 (bin2 Tryz.prog BinOp.add 3 (ot 12) (oc 1) (List.getD vs8 0 V.any) (vi 1)).bind fun v19 =>
 rec7 [v19]))) (
 J6 [])) n) [(vi 0)]) := by kernel_rfl
noncomputable def t_rule_Table (a0 : (List T_Rule)) : Option Int :=
 if (decide (12 < (List.length a0 : Int))) = true then (
 some 4) else (
 join (fun (s8 : Unit) =>
 some 0) fun j9 =>
 loopI a0 (fun (i17 : Int) x18 (s13 : Unit) k14 =>
 (t_rule_Check x18).bind fun r28 =>
 if (!decide (r28 = 0)) = true then (
 some r28) else (
 (slc_hi a0 i17).bind fun r32 =>
 (t_slices_ContainsFunc_api_Table_api_Rule r32 (fun (a33 : T_Rule) => t_rule_Table_1 a33 x18)).bind fun r35 =>
 if r35 = true then (
 some 7) else (
 k14 ()))) (fun (s13 : Unit) =>
 j9 ()) ())
theorem ty_rule_Table {n : Nat} (hn : bigN ≤ n) (a0 : (List T_Rule)) : Rv (fun x : Int => (eV x)) (sem_rule_Table n [(V.sl (List.map T_Rule.c a0))]) (t_rule_Table a0) := by
 rw [eq_rule_Table]
 unfold t_rule_Table; refine tq (vi (List.length a0 : Int)) (p_len _) ?_; refine tq (vb (decide (12 < (List.length a0 : Int)))) (d_gtr) ?_; refine tcond (fun h3 => ?_) (fun h3 => ?_)
 ·refine tq (eV 4) (p_mkE (by decide)) ?_; exact rf_ret rfl
 ·refine tq (vi (List.length a0 : Int)) (p_len _) ?_; refine tjoin (mk := fun s8 : Unit => []) (fun s8 => ?_) fun J7 j9 h10 => ?_
  ·exact rf_ret rfl
  ·refine rf_loopI (mk := fun (i17 : Int) (s13 : Unit) => [(vi (i17 : Int))]) hn a0 () (fun i17 x18 h19 h20 h21 s13 rec11 k14 h15 => ?_) (fun s13 rec40 h39 => ?_)
   ·refine tq (vb (decide ((i17 : Int) < (List.length a0 : Int)))) (d_lss) ?_; refine tcond_t h21 ?_; refine tq (V.ptr (T_Rule.c x18)) (p_idx_at (c := T_Rule.c) (fun _ => rfl) h19) ?_; refine tq (T_Rule.e x18) (rfl) ?_; refine tq (V.agg (T_Rule.c x18)) (by kernel_rfl) ?_; refine tq (T_Rule.e x18) (rfl) ?_; refine tbo (ty_rule_Check hn x18) fun r28 => ?_; refine tq (vb (!decide (r28 = 0))) (p_err_neq _) ?_; refine tcond (fun h30 => ?_) (fun h30 => ?_)
    ·exact rf_ret rfl
    ·refine tbo (p_slc_hi (c := T_Rule.c) (fun _ => rfl) a0 (i17 : Int)) fun r32 => ?_; refine tbo (ty_slices_ContainsFunc_api_Table_api_Rule (E := (envOf [(59, (sem_rule_Table_1 n))])) (x1 := (V.fn 59 [(V.ptr (T_Rule.c x18))])) (g1 := (fun (a33 : T_Rule) => t_rule_Table_1 a33 x18)) hn r32 (fun a33 => ty_rule_Table_1 hn a33 x18)) fun r35 => ?_; refine tcond (fun h36 => ?_) (fun h36 => ?_)
     ·refine tq (eV 7) (p_mkE (by decide)) ?_; exact rf_ret rfl
     ·refine tq (vi ((i17 : Int) + 1)) (p_incN h20) ?_; exact h15 ()
   ·refine tq (vb (decide ((List.length a0 : Int) < (List.length a0 : Int)))) (d_lss) ?_; refine tcond_f h39 ?_; exact h10 ()
def an_agent_New : Ann := .seq (.reg 0 [] [] []) (.seq (.seq (.reg 0 [] [] []) (.cond none (.seq (.reg 0 [] [] []) (.no)) (.no))) (.seq (.seq (.reg 0 [] [] []) (.seq (.reg 0 [] [] []) (.cond none (.seq (.reg 0 [] [] []) (.no)) (.no)))) (.seq (.reg 0 [] [] [1000024, 25]) (.seq (.seq (.reg 0 [] [1062000025] []) (.blk (some [.o 7]) (.loop [.o 7, .s 26] (.seq (.reg 0 [] [] []) (.seq (.cond none (.no) (.no)) (.seq (.blk none (.seq (.reg 0 [] [] []) (.reg 0 [] [] [2000032]))) (.reg 0 [] [] []))))))) (.seq (.reg 0 [] [] []) (.no))))))
noncomputable def sem_agent_New (n : Nat) (xs : List V) : Option V := if xs.length ≤ 38 then denM Tryz.prog (envOf [(33, (sem_rule_Table n)), (34, (semClone 6))]) n Tryz.f10 an_agent_New [0, 0] (some 0) xs else none
theorem ok_agent_New (n : Nat) : MSemOk Tryz.prog DW 10 (sem_agent_New n) := fun xs y h => by
 unfold sem_agent_New at h
 split at h
 ·rename_i hl
  exact denM_ok Tryz.func10 (by kernel_rfl) (envOf_ok (semsOk_cons (ok_rule_Table n) (semsOk_cons (sok_slices_Clone_api_Table_api_Rule) semsOk_nil))) (by rw [Tryz.ntmps10]; exact hl) (by decide) h
 ·cases h
theorem eq_agent_New (n : Nat) (x0 x1 : V) : sem_agent_New n [x0, x1] =
 (pureO x0).bind fun v1 =>
 (pureO x1).bind fun v2 =>
 (bin2 Tryz.prog BinOp.lss 3 (ot 9) (oc 1) x0 (vi 1)).bind fun v3 =>
 (guardV v3 false (some x0)).bind fun v4 =>
 (guardV v3 false ((bin2 Tryz.prog BinOp.gtr 3 (ot 12) (oc 6) v4 (vi 6)).bind fun v5 =>
 some v5)).bind fun v6 =>
 (pickV v3 (vb true) v6).bind fun v7 =>
 condV v7 (
 (scal1 Tryz.prog (Instr.makeInterface 81) (vi 1)).bind fun v8 =>
 (pureO (V.lit (Go.Value.pointer none))).bind fun v9 =>
 (pureO v8).bind fun v10 =>
 some (V.tup [V.tup [v9, v10], V.any, V.any])) (
 ((sem_rule_Table n) [x1]).bind fun v11 =>
 (bin2 Tryz.prog BinOp.neq 32 (ot 18) (Operand.const Go.Value.nilIface) v11 vn).bind fun v12 =>
 condV v12 (
 (pureO (V.lit (Go.Value.pointer none))).bind fun v13 =>
 (pureO v11).bind fun v14 =>
 some (V.tup [V.tup [v13, v14], V.any, V.any])) (
 ((semClone 6) [x1]).bind fun v15 =>
 ((fillL [(vi 0), (V.lit (Go.Value.slice none 0 0)), (V.lit (Go.Value.map none)), (vi 0), (vb false), (V.lit (Go.Value.map none)), (vi 0), (vb false), (V.lit (Go.Value.map none)), (vi 0), (vb false), (V.lit (Go.Value.map none)), (vi 0), (vb false), (V.lit (Go.Value.map none)), (vi 0), (vb false), (V.lit (Go.Value.map none)), (vi 0), (vb false), (V.lit (Go.Value.map none)), (vi 0), (vb false), (V.lit (Go.Value.map none)), (vi 0), (vb false), (V.lit (Go.Value.map none)), (vi 0), (vb false), (V.lit (Go.Value.map none)), (vi 0), (vb false), (V.lit (Go.Value.map none)), (vi 0), (vb false), (V.lit (Go.Value.map none)), (vi 0), (vb false), (V.lit (Go.Value.map none)), (vi 0), (vb false), (V.lit (Go.Value.map none)), (vi 0), (vb false), (V.lit (Go.Value.map none)), (vi 0), (vb false), (V.lit (Go.Value.map none)), (vi 0), (vb false), (V.lit (Go.Value.map none)), (vi 0), (vb false), (V.lit (Go.Value.map none)), (vi 0), (vb false), (V.lit (Go.Value.map none)), (vi 0), (vb false), (V.lit (Go.Value.map none)), (vi 0), (vb false), (V.lit (Go.Value.slice none 0 0))] [(0, 1, x0), (1, 1, v15)]).map V.agg).bind fun v16 =>
 (V.cellsO v16).bind fun v17 =>
 (some (softX 1062000025 (V.obj v17))).bind fun v18 =>
 JoinPt (fun vs19 =>
 objK (List.getD vs19 0 V.any) fun l22 =>
 (pureO vn).bind fun v21 =>
 some (V.tup [V.tup [V.obj l22, v21], V.any, V.any])) fun J20 =>
 (fixN (fun rec23 vs24 =>
 (bin2 Tryz.prog BinOp.lss 3 (ot 26) (oc 20) (List.getD vs24 1 V.any) (vi 20)).bind fun v25 =>
 condV v25 (
 ((fillL [(V.lit (Go.Value.map none)), (vi 0), (vb false)] [(0, 1, (vb false)), (1, 1, (vi (-1 : Int)))]).map V.agg).bind fun v26 =>
 (aggC v26).bind fun c27 =>
 (some V.any).bind fun v28 =>
 (some V.any).bind fun v29 =>
 (inB 20 (List.getD vs24 1 V.any)).bind fun v30 =>
 (V.cellsO (V.agg (List.set c27 0 (V.mp [])))).bind fun v31 =>
 (setV (List.getD vs24 0 V.any) [] (Stp.mk none (2 + natOf (List.getD vs24 1 V.any) * 3) 0) 3 v31).bind fun v32 =>
 (bin2 Tryz.prog BinOp.add 3 (ot 26) (oc 1) (List.getD vs24 1 V.any) (vi 1)).bind fun v33 =>
 rec23 [v32, v33]) (
 J20 [(List.getD vs24 0 V.any)])) n) [v18, (vi 0)])) := by kernel_rfl
def an_wire_Check : Ann := .seq (.reg 0 [] [] []) (.seq (.seq (.reg 0 [] [] []) (.cond none (.seq (.reg 0 [] [] []) (.no)) (.no))) (.seq (.seq (.reg 0 [] [] []) (.cond none (.seq (.seq (.reg 0 [] [] []) (.cond none (.seq (.reg 0 [] [] []) (.no)) (.no))) (.seq (.reg 0 [] [] []) (.no))) (.no))) (.seq (.seq (.reg 0 [] [] []) (.seq (.reg 0 [] [] []) (.cond none (.seq (.reg 0 [] [] []) (.no)) (.no)))) (.seq (.seq (.reg 0 [] [] []) (.cond none (.seq (.reg 0 [] [] []) (.no)) (.no))) (.seq (.reg 0 [] [] []) (.no))))))
noncomputable def sem_wire_Check (n : Nat) (xs : List V) : Option V := if xs.length ≤ 75 then denF Tryz.prog (envOf [(24, (sem_rule_Check n))]) n Tryz.f29 an_wire_Check xs else none
theorem ok_wire_Check (n : Nat) : SemOk Tryz.prog DW 29 (sem_wire_Check n) := fun xs y h => by
 unfold sem_wire_Check at h
 split at h
 ·rename_i hl
  exact denF_ok stb Tryz.func29 (by kernel_rfl) (envOf_ok (semsOk_cons (ok_rule_Check n) semsOk_nil)) (by rw [Tryz.ntmps29]; exact hl) h
 ·cases h
theorem eq_wire_Check (n : Nat) (x0 : V) : sem_wire_Check n [x0] =
 (V.cellsO x0).bind fun v1 =>
 (ldk none (List.drop 0 v1)).bind fun v2 =>
 (bin2 Tryz.prog BinOp.lss 3 (ot 5) (oc 1) v2 (vi 1)).bind fun v3 =>
 (guardV v3 false (some V.any)).bind fun v4 =>
 (guardV v3 false ((gate v3 false (ldk none (List.drop 0 v1))).bind fun v5 =>
 some v5)).bind fun v6 =>
 (guardV v3 false ((bin2 Tryz.prog BinOp.gtr 3 (ot 9) (oc 3) v6 (vi 3)).bind fun v7 =>
 some v7)).bind fun v8 =>
 (pickV v3 (vb true) v8).bind fun v9 =>
 (guardV v9 false (some V.any)).bind fun v10 =>
 (guardV v9 false ((gate v9 false (ldk none (List.drop 1 v1))).bind fun v11 =>
 some v11)).bind fun v12 =>
 (guardV v9 false ((bin2 Tryz.prog BinOp.lss 3 (ot 14) (oc 1) v12 (vi 1)).bind fun v13 =>
 some v13)).bind fun v14 =>
 (pickV v9 (vb true) v14).bind fun v15 =>
 (guardV v15 false (some V.any)).bind fun v16 =>
 (guardV v15 false ((gate v15 false (ldk none (List.drop 1 v1))).bind fun v17 =>
 some v17)).bind fun v18 =>
 (guardV v15 false ((bin2 Tryz.prog BinOp.gtr 3 (ot 19) (oc 6) v18 (vi 6)).bind fun v19 =>
 some v19)).bind fun v20 =>
 (pickV v15 (vb true) v20).bind fun v21 =>
 (guardV v21 false (some V.any)).bind fun v22 =>
 (guardV v21 false ((gate v21 false (ldk none (List.drop 2 v1))).bind fun v23 =>
 some v23)).bind fun v24 =>
 (guardV v21 false ((bin2 Tryz.prog BinOp.lss 3 (ot 24) (oc 0) v24 (vi 0)).bind fun v25 =>
 some v25)).bind fun v26 =>
 (pickV v21 (vb true) v26).bind fun v27 =>
 (guardV v27 false (some V.any)).bind fun v28 =>
 (guardV v27 false ((gate v27 false (ldk none (List.drop 2 v1))).bind fun v29 =>
 some v29)).bind fun v30 =>
 (guardV v27 false ((bin2 Tryz.prog BinOp.geq 3 (ot 29) (oc 20) v30 (vi 20)).bind fun v31 =>
 some v31)).bind fun v32 =>
 (pickV v27 (vb true) v32).bind fun v33 =>
 (guardV v33 false (some V.any)).bind fun v34 =>
 (guardV v33 false ((gate v33 false (ldk none (List.drop 3 v1))).bind fun v35 =>
 some v35)).bind fun v36 =>
 (guardV v33 false ((bin2 Tryz.prog BinOp.lss 3 (ot 34) (oc 0) v36 (vi 0)).bind fun v37 =>
 some v37)).bind fun v38 =>
 (pickV v33 (vb true) v38).bind fun v39 =>
 (guardV v39 false (some V.any)).bind fun v40 =>
 (guardV v39 false ((gate v39 false (ldk none (List.drop 3 v1))).bind fun v41 =>
 some v41)).bind fun v42 =>
 (guardV v39 false ((bin2 Tryz.prog BinOp.gtr 3 (ot 39) (oc 200) v42 (vi 200)).bind fun v43 =>
 some v43)).bind fun v44 =>
 (pickV v39 (vb true) v44).bind fun v45 =>
 condV v45 (
 (scal1 Tryz.prog (Instr.makeInterface 81) (vi 1)).bind fun v46 =>
 some v46) (
 (ldk none (List.drop 0 v1)).bind fun v47 =>
 (bin2 Tryz.prog BinOp.neq 3 (ot 44) (oc 1) v47 (vi 1)).bind fun v48 =>
 condV v48 (
 (ldk (some 8) (List.drop 4 v1)).bind fun v49 =>
 ((fillL [(vi 0), (vb false), (vi 0), (vi 0), (vi 0), (vi 0), (vi 0), (vi 0)] []).map V.agg).bind fun v50 =>
 (bin2 Tryz.prog BinOp.neq 49 (ot 47) (ot 48) v49 v50).bind fun v51 =>
 (guardV v51 false (some V.any)).bind fun v52 =>
 (guardV v51 false ((gate v51 false (ldk none (List.drop 0 v1))).bind fun v53 =>
 some v53)).bind fun v54 =>
 (guardV v51 false ((bin2 Tryz.prog BinOp.eql 3 (ot 52) (oc 3) v54 (vi 3)).bind fun v55 =>
 some v55)).bind fun v56 =>
 (guardV v51 false (some v56)).bind fun v57 =>
 (guardV v57 true (some V.any)).bind fun v58 =>
 (guardV v57 true ((gate v57 true (ldk none (List.drop 3 v1))).bind fun v59 =>
 some v59)).bind fun v60 =>
 (guardV v57 true ((bin2 Tryz.prog BinOp.neq 3 (ot 56) (oc 0) v60 (vi 0)).bind fun v61 =>
 some v61)).bind fun v62 =>
 (guardV v51 false ((pickV v57 v62 (vb false)).bind fun v63 =>
 some v63)).bind fun v64 =>
 (pickV v51 (vb true) v64).bind fun v65 =>
 condV v65 (
 (scal1 Tryz.prog (Instr.makeInterface 81) (vi 3)).bind fun v66 =>
 some v66) (
 some vn)) (
 (ldk (some 6) (List.drop 6 v1)).bind fun v67 =>
 ((sem_rule_Check n) [v67]).bind fun v68 =>
 (bin2 Tryz.prog BinOp.neq 32 (ot 65) (Operand.const Go.Value.nilIface) v68 vn).bind fun v69 =>
 condV v69 (
 some v68) (
 (ldk none (List.drop 4 v1)).bind fun v70 =>
 (ldk none (List.drop 1 v1)).bind fun v71 =>
 (bin2 Tryz.prog BinOp.neq 3 (ot 70) (ot 72) v70 v71).bind fun v72 =>
 condV v72 (
 (scal1 Tryz.prog (Instr.makeInterface 81) (vi 3)).bind fun v73 =>
 some v73) (
 some vn)))) := by kernel_rfl
noncomputable def t_wire_Check (a0 : T_Msg) : Option Int :=
 (some ((((((decide (a0.Kind < 1)) || (decide (3 < a0.Kind))) || (decide (a0.Switch < 1))) || (decide (6 < a0.Switch))) || (decide (a0.Round < 0))) || (decide (20 ≤ a0.Round)))).bind fun r49 =>
 if ((r49 || (decide (a0.Index < 0))) || (decide (200 < a0.Index))) = true then (
 some 1) else (
 if (decide (a0.Kind ≠ 1)) = true then (
 if ((!decide (a0.Op = (T_Op.mk 0 false (T_Rule.mk 0 (T_Cube.mk 0 0) 0 0 0)))) || ((decide (a0.Kind = 3)) && (decide (a0.Index ≠ 0)))) = true then (
 some 3) else (
 some 0)) else (
 (t_rule_Check a0.Op.Rule).bind fun r102 =>
 if (!decide (r102 = 0)) = true then (
 some r102) else (
 if (decide (a0.Op.Switch ≠ a0.Switch)) = true then (
 some 3) else (
 some 0))))
theorem ty_wire_Check {n : Nat} (hn : bigN ≤ n) (a0 : T_Msg) : Rv (fun x : Int => (eV x)) (sem_wire_Check n [(T_Msg.e a0)]) (t_wire_Check a0) := by
 rw [eq_wire_Check]
 unfold t_wire_Check; refine tq (T_Msg.c a0) rfl ?_; refine tq (vi a0.Kind) (rfl) ?_; refine tq (vb (decide (a0.Kind < 1))) (d_lss) ?_; refine tg_f (x := V.any) (fun h4 => rfl) ?_; refine tg_f (x := (vi a0.Kind)) (fun h6 => bind_some_eq (gate_pos (not_t h6) (rfl))) ?_; refine tg_f (x := (vb (decide (3 < a0.Kind)))) (fun h9 => by simp only [gv_t h9]; exact bind_some_eq (d_gtr)) ?_; refine tq (vb ((decide (a0.Kind < 1)) || (decide (3 < a0.Kind)))) (pick_or (fun h9 => gv_t (not_f h9))) ?_; refine tg_f (x := V.any) (fun h13 => rfl) ?_; refine tg_f (x := (vi a0.Switch)) (fun h15 => bind_some_eq (gate_pos (not_t h15) (rfl))) ?_; refine tg_f (x := (vb (decide (a0.Switch < 1)))) (fun h18 => by simp only [gv_t h18]; exact bind_some_eq (d_lss)) ?_; refine tq (vb (((decide (a0.Kind < 1)) || (decide (3 < a0.Kind))) || (decide (a0.Switch < 1)))) (pick_or (fun h9 => gv_t (not_f h9))) ?_; refine tg_f (x := V.any) (fun h22 => rfl) ?_; refine tg_f (x := (vi a0.Switch)) (fun h24 => bind_some_eq (gate_pos (not_t h24) (rfl))) ?_; refine tg_f (x := (vb (decide (6 < a0.Switch)))) (fun h27 => by simp only [gv_t h27]; exact bind_some_eq (d_gtr)) ?_; refine tq (vb ((((decide (a0.Kind < 1)) || (decide (3 < a0.Kind))) || (decide (a0.Switch < 1))) || (decide (6 < a0.Switch)))) (pick_or (fun h9 => gv_t (not_f h9))) ?_; refine tg_f (x := V.any) (fun h31 => rfl) ?_; refine tg_f (x := (vi a0.Round)) (fun h33 => bind_some_eq (gate_pos (not_t h33) (rfl))) ?_; refine tg_f (x := (vb (decide (a0.Round < 0)))) (fun h36 => by simp only [gv_t h36]; exact bind_some_eq (d_lss)) ?_; refine tq (vb (((((decide (a0.Kind < 1)) || (decide (3 < a0.Kind))) || (decide (a0.Switch < 1))) || (decide (6 < a0.Switch))) || (decide (a0.Round < 0)))) (pick_or (fun h9 => gv_t (not_f h9))) ?_; refine tg_f (x := V.any) (fun h40 => rfl) ?_; refine tg_f (x := (vi a0.Round)) (fun h42 => bind_some_eq (gate_pos (not_t h42) (rfl))) ?_; refine tg_f (x := (vb (decide (20 ≤ a0.Round)))) (fun h45 => by simp only [gv_t h45]; exact bind_some_eq (d_geq)) ?_; refine tbo (e1 := fun x : Bool => (vb x)) (rf_eq (pick_or (fun h9 => gv_t (not_f h9))) rfl) fun r49 => ?_; refine tg_f (x := V.any) (fun h50 => rfl) ?_; refine tg_f (x := (vi a0.Index)) (fun h52 => bind_some_eq (gate_pos (not_t h52) (rfl))) ?_; refine tg_f (x := (vb (decide (a0.Index < 0)))) (fun h55 => by simp only [gv_t h55]; exact bind_some_eq (d_lss)) ?_; refine tq (vb (r49 || (decide (a0.Index < 0)))) (pick_or (fun h9 => gv_t (not_f h9))) ?_; refine tg_f (x := V.any) (fun h59 => rfl) ?_; refine tg_f (x := (vi a0.Index)) (fun h61 => bind_some_eq (gate_pos (not_t h61) (rfl))) ?_; refine tg_f (x := (vb (decide (200 < a0.Index)))) (fun h64 => by simp only [gv_t h64]; exact bind_some_eq (d_gtr)) ?_; refine tq (vb ((r49 || (decide (a0.Index < 0))) || (decide (200 < a0.Index)))) (pick_or (fun h9 => gv_t (not_f h9))) ?_; refine tcond (fun h68 => ?_) (fun h68 => ?_)
 ·refine tq (eV 1) (p_mkE (by decide)) ?_; exact rf_ret rfl
 ·refine tq (vi a0.Kind) (rfl) ?_; refine tq (vb (decide (a0.Kind ≠ 1))) (d_neq) ?_; refine tcond (fun h72 => ?_) (fun h72 => ?_)
  ·refine tq (T_Op.e a0.Op) (rfl) ?_; refine tq (T_Op.e (T_Op.mk 0 false (T_Rule.mk 0 (T_Cube.mk 0 0) 0 0 0))) (by kernel_rfl) ?_; refine tq (vb (!decide (a0.Op = (T_Op.mk 0 false (T_Rule.mk 0 (T_Cube.mk 0 0) 0 0 0))))) (T_Op.neq a0.Op (T_Op.mk 0 false (T_Rule.mk 0 (T_Cube.mk 0 0) 0 0 0))) ?_; refine tg_f (x := V.any) (fun h76 => rfl) ?_; refine tg_f (x := (vi a0.Kind)) (fun h78 => bind_some_eq (gate_pos (not_t h78) (rfl))) ?_; refine tg_f (x := (vb (decide (a0.Kind = 3)))) (fun h81 => by simp only [gv_t h81]; exact bind_some_eq (d_eql)) ?_; refine tg_f (x := (vb (decide (a0.Kind = 3)))) (fun h84 => congrArg some (gv_t h84)) ?_; refine tg2 (x := V.any) (fun h86 => rfl) ?_; refine tg2 (x := (vi a0.Index)) (fun h88 => bind_some_eq (gate_pos2 (and_l h88) (and_r h88) (rfl))) ?_; refine tg2 (x := (vb (decide (a0.Index ≠ 0)))) (fun h91 => by simp only [gv_t h91]; exact bind_some_eq (d_neq)) ?_; refine tg_f (x := (vb ((decide (a0.Kind = 3)) && (decide (a0.Index ≠ 0))))) (fun h94 => by simp only [gv_t h94]; exact bind_some_eq (pick_and (fun h9 => gv_t (and_i h94 h9)))) ?_; refine tq (vb ((!decide (a0.Op = (T_Op.mk 0 false (T_Rule.mk 0 (T_Cube.mk 0 0) 0 0 0)))) || ((decide (a0.Kind = 3)) && (decide (a0.Index ≠ 0))))) (pick_or (fun h9 => gv_t (not_f h9))) ?_; refine tcond (fun h98 => ?_) (fun h98 => ?_)
   ·refine tq (eV 3) (p_mkE (by decide)) ?_; exact rf_ret rfl
   ·exact rf_ret rfl
  ·refine tq (T_Rule.e a0.Op.Rule) (rfl) ?_; refine tbo (ty_rule_Check hn a0.Op.Rule) fun r102 => ?_; refine tq (vb (!decide (r102 = 0))) (p_err_neq _) ?_; refine tcond (fun h104 => ?_) (fun h104 => ?_)
   ·exact rf_ret rfl
   ·refine tq (vi a0.Op.Switch) (rfl) ?_; refine tq (vi a0.Switch) (rfl) ?_; refine tq (vb (decide (a0.Op.Switch ≠ a0.Switch))) (d_neq) ?_; refine tcond (fun h108 => ?_) (fun h108 => ?_)
    ·refine tq (eV 3) (p_mkE (by decide)) ?_; exact rf_ret rfl
    ·exact rf_ret rfl
def an_agent_Agent_yes : Ann := .seq (.reg 0 [] [] []) (.seq (.reg 0 [] [] [11]) (.no))
noncomputable def sem_agent_Agent_yes (n : Nat) (xs : List V) : Option V := if xs.length ≤ 12 then denFR Tryz.prog (envOf []) n Tryz.f35 an_agent_Agent_yes 51 xs else none
theorem ok_agent_Agent_yes (n : Nat) : RSemOk Tryz.prog DW 35 51 (sem_agent_Agent_yes n) := fun xs y h => by
 unfold sem_agent_Agent_yes at h
 split at h
 ·rename_i hl
  exact denFR_ok stb Tryz.func35 (by kernel_rfl) (envOf_ok semsOk_nil) (by rw [Tryz.ntmps35]; exact hl) h
 ·cases h
theorem eq_agent_Agent_yes (n : Nat) (x0 x1 : V) : sem_agent_Agent_yes n [x0, x1] =
 (ptrF 0 x0).bind fun v1 =>
 (ptrF 0 v1).bind fun v2 =>
 (ldp none v2).bind fun v3 =>
 ((fillL [(vi 0), (vi 0), (vi 0), (vi 0), (vi 0), (vb false), (vi 0), (vi 0), (vi 0), (vi 0), (vi 0), (vi 0)] [(0, 1, (vi 3)), (1, 1, v3), (2, 1, x1)]).map V.agg).bind fun v4 =>
 (slcB 12 1 [(vi 0), (vi 0), (vi 0), (vi 0), (vi 0), (vb false), (vi 0), (vi 0), (vi 0), (vi 0), (vi 0), (vi 0)] [(0, v4)]).bind fun v5 =>
 some (V.sl (slL v5)) := by kernel_rfl
def an_agent_Agent_Hear : Ann := .seq (.reg 0 [] [] []) (.seq (.seq (.reg 0 [] [] []) (.seq (.reg 0 [] [] []) (.cond none (.seq (.reg 0 [] [] []) (.no)) (.no)))) (.seq (.blk none (.seq (.reg 8 [] [] []) (.cond none (.seq (.reg 0 [] [] []) (.no)) (.seq (.reg 0 [] [] []) (.cond none (.seq (.reg 0 [] [] []) (.no)) (.no)))))) (.seq (.reg 7 [] [] []) (.seq (.blk none (.seq (.reg 0 [] [] []) (.cond none (.seq (.reg 0 [] [] [2000068, 3000068]) (.no)) (.seq (.reg 0 [] [] []) (.cond (some [.o 0]) (.no) (.seq (.reg 0 [] [] []) (.cond (some [.o 0]) (.seq (.reg 0 [] [] []) (.cond (some [.o 0]) (.reg 0 [] [] []) (.no))) (.seq (.reg 11 [] [] [39]) (.seq (.reg 0 [] [] []) (.cond (some [.o 0]) (.reg 8 [] [] [50]) (.no))))))))))) (.seq (.reg 0 [] [] []) (.no))))))
noncomputable def sem_agent_Agent_Hear (n : Nat) (xs : List V) : Option V := if xs.length ≤ 88 then denM Tryz.prog (envOf [(29, (sem_wire_Check n)), (35 + 1000000 * (51 + 2), (sem_agent_Agent_yes n))]) n Tryz.f11 an_agent_Agent_Hear [2, 0] none xs else none
theorem ok_agent_Agent_Hear (n : Nat) : MSemOk Tryz.prog DW 11 (sem_agent_Agent_Hear n) := fun xs y h => by
 unfold sem_agent_Agent_Hear at h
 split at h
 ·rename_i hl
  exact denM_ok Tryz.func11 (by kernel_rfl) (envOf_ok (semsOk_cons (ok_wire_Check n) (semsOk_consR (ok_agent_Agent_yes n) semsOk_nil))) (by rw [Tryz.ntmps11]; exact hl) (by decide) h
 ·cases h
theorem eq_agent_Agent_Hear (n : Nat) (x0 x1 : V) : sem_agent_Agent_Hear n [x0, x1] =
 (objG x0).bind fun v1 =>
 (pureO x1).bind fun v2 =>
 (V.cellsO x1).bind fun v3 =>
 (ldk (some 12) (List.drop 0 v3)).bind fun v4 =>
 ((sem_wire_Check n) [v4]).bind fun v5 =>
 (bin2 Tryz.prog BinOp.neq 32 (ot 12) (Operand.const Go.Value.nilIface) v5 vn).bind fun v6 =>
 condV v6 (
 some (V.tup [(V.tup [(V.sl []), v5]), x0, V.any])) (
 (ldk none (List.drop 1 v3)).bind fun v7 =>
 (some V.any).bind fun v8 =>
 (some V.any).bind fun v9 =>
 ((nodeL x0 none 0).bind fun l10 => (ldk none (List.drop 0 l10)).bind pureO).bind fun v11 =>
 (bin2 Tryz.prog BinOp.neq 3 (ot 17) (ot 21) v7 v11).bind fun v12 =>
 condV v12 (
 (scal1 Tryz.prog (Instr.makeInterface 81) (vi 5)).bind fun v13 =>
 some (V.tup [(V.tup [(V.sl []), v13]), x0, V.any])) (
 (ldk none (List.drop 0 v3)).bind fun v14 =>
 (bin2 Tryz.prog BinOp.eql 3 (ot 26) (oc 3) v14 (vi 3)).bind fun v15 =>
 condV v15 (
 (scal1 Tryz.prog (Instr.makeInterface 81) (vi 6)).bind fun v16 =>
 some (V.tup [(V.tup [(V.sl []), v16]), x0, V.any])) (
 (ldk none (List.drop 2 v3)).bind fun v17 =>
 (some V.any).bind fun v18 =>
 (some V.any).bind fun v19 =>
 (inB 20 v17).bind fun v20 =>
 (some V.any).bind fun v21 =>
 (some V.any).bind fun v22 =>
 ((nodeL x0 none 0).bind fun l23 => (ldk none (List.drop ((2 + natOf v17 * 3) + 2) l23)).bind pureO).bind fun v24 =>
 (guardV v24 true (some V.any)).bind fun v25 =>
 (guardV v24 true ((gate v24 true (ldk none (List.drop 0 v3))).bind fun v26 =>
 some v26)).bind fun v27 =>
 (guardV v24 true ((bin2 Tryz.prog BinOp.eql 3 (ot 62) (oc 2) v27 (vi 2)).bind fun v28 =>
 some v28)).bind fun v29 =>
 (pickV v24 v29 (vb false)).bind fun v30 =>
 condV v30 (
 (ldk none (List.drop 2 v3)).bind fun v31 =>
 (some (frzQ x0)).bind fun v32 =>
 ((sem_agent_Agent_yes n) [v32, v31]).bind fun v34 =>
 (flatQ v34).bind fun v33 =>
 some (V.tup [(V.tup [v33, vn]), x0, V.any])) (
 (some V.any).bind fun v35 =>
 (some V.any).bind fun v36 =>
 ((nodeL x0 none 0).bind fun l37 => (ldk none (List.drop ((2 + natOf v17 * 3) + 2) l37)).bind pureO).bind fun v38 =>
 JoinPt (fun vs39 =>
 some (V.tup [(V.tup [(V.sl []), vn]), (List.getD vs39 0 V.any), V.any])) fun J40 =>
 condV v38 (
 J40 [x0]) (
 (ldk none (List.drop 0 v3)).bind fun v41 =>
 (bin2 Tryz.prog BinOp.eql 3 (ot 76) (oc 2) v41 (vi 2)).bind fun v42 =>
 JoinPt (fun vs43 =>
 J40 [(List.getD vs43 0 V.any)]) fun J44 =>
 condV v42 (
 (some V.any).bind fun v45 =>
 (some V.any).bind fun v46 =>
 ((nodeL x0 none 0).bind fun l47 => (ldk none (List.drop ((2 + natOf v17 * 3) + 1) l47)).bind pureO).bind fun v48 =>
 (bin2 Tryz.prog BinOp.lss 3 (ot 81) (oc 0) v48 (vi 0)).bind fun v49 =>
 JoinPt (fun vs50 =>
 J44 [(List.getD vs50 0 V.any)]) fun J51 =>
 condV v49 (
 (ldk none (List.drop 3 v3)).bind fun v52 =>
 (some V.any).bind fun v53 =>
 (some V.any).bind fun v54 =>
 (V.cellsO v52).bind fun v55 =>
 (setV x0 [] (Stp.mk none ((2 + natOf v17 * 3) + 1) 0) 1 v55).bind fun v56 =>
 J51 [v56]) (
 J51 [x0])) (
 (some V.any).bind fun v57 =>
 (some V.any).bind fun v58 =>
 ((nodeL x0 none 0).bind fun l59 => (l59[(2 + natOf v17 * 3)]?).bind ownO).bind fun v60 =>
 (ldk none (List.drop 3 v3)).bind fun v61 =>
 ((getV x0 [(Stp.mk none (2 + natOf v17 * 3) 0)]).bind fun v62 => lookV Tryz.prog 102 true v62 v61).bind fun v63 =>
 (extractV v63 0).bind fun v64 =>
 (extractV v63 1).bind fun v65 =>
 (spliceV [(vi 0), (vb false), (vi 0), (vi 0), (vi 0), (vi 0), (vi 0), (vi 0)] 0 8 v64).bind fun v66 =>
 (scal1 Tryz.prog (Op.unary Go.UnOp.not) v65).bind fun v67 =>
 JoinPt (fun vs68 =>
 J44 [(List.getD vs68 0 V.any)]) fun J69 =>
 condV v67 (
 (some V.any).bind fun v70 =>
 (some V.any).bind fun v71 =>
 ((nodeL x0 none 0).bind fun l72 => (l72[(2 + natOf v17 * 3)]?).bind ownO).bind fun v73 =>
 (ldk none (List.drop 3 v3)).bind fun v74 =>
 (ldk (some 8) (List.drop 4 v3)).bind fun v75 =>
 (getV x0 [(Stp.mk none (2 + natOf v17 * 3) 0)]).bind fun v76 =>
 (putV Tryz.prog 102 v76 v74 v75).bind fun v77 =>
 (modX x0 [] (Stp.mk none (2 + natOf v17 * 3) 0) v77).bind fun v78 =>
 J69 [v78]) (
 J69 [x0]))))))) := by kernel_rfl
def an_agent_Agent_Table : Ann := .seq (.reg 0 [] [] []) (.seq (.reg 0 [] [] [1000007]) (.no))
noncomputable def sem_agent_Agent_Table (n : Nat) (xs : List V) : Option V := if xs.length ≤ 8 then denFR Tryz.prog (envOf [(34 + 1000000 * (47 + 2), (semClone 6))]) n Tryz.f15 an_agent_Agent_Table 47 xs else none
theorem ok_agent_Agent_Table (n : Nat) : RSemOk Tryz.prog DW 15 47 (sem_agent_Agent_Table n) := fun xs y h => by
 unfold sem_agent_Agent_Table at h
 split at h
 ·rename_i hl
  exact denFR_ok stb Tryz.func15 (by kernel_rfl) (envOf_ok (semsOk_consR (rok_slices_Clone_api_Table_api_Rule) semsOk_nil)) (by rw [Tryz.ntmps15]; exact hl) h
 ·cases h
theorem eq_agent_Agent_Table (n : Nat) (x0 : V) : sem_agent_Agent_Table n [x0] =
 (ptrF 0 x0).bind fun v1 =>
 (ptrF 1 v1).bind fun v2 =>
 (ldp none v2).bind fun v3 =>
 ((semClone 6) [v3]).bind fun v4 =>
 some (V.sl (slL3 v4)) := by kernel_rfl
def an_topo_Spot : Ann := .seq (.reg 0 [] [] []) (.seq (.reg 0 [] [] []) (.no))
noncomputable def sem_topo_Spot (n : Nat) (xs : List V) : Option V := if xs.length ≤ 25 then denF Tryz.prog (envOf []) n Tryz.f71 an_topo_Spot xs else none
theorem ok_topo_Spot (n : Nat) : SemOk Tryz.prog DW 71 (sem_topo_Spot n) := fun xs y h => by
 unfold sem_topo_Spot at h
 split at h
 ·rename_i hl
  exact denF_ok stb Tryz.func71 (by kernel_rfl) (envOf_ok semsOk_nil) (by rw [Tryz.ntmps71]; exact hl) h
 ·cases h
theorem eq_topo_Spot (n : Nat) (x0 x1 : V) : sem_topo_Spot n [x0, x1] =
 (V.cellsO x0).bind fun v1 =>
 (V.cellsO x1).bind fun v2 =>
 (ldk none (List.drop 0 v2)).bind fun v3 =>
 (bin2 Tryz.prog BinOp.geq 3 (ot 6) (oc 1) v3 (vi 1)).bind fun v4 =>
 (guardV v4 true (some V.any)).bind fun v5 =>
 (guardV v4 true ((gate v4 true (ldk none (List.drop 0 v2))).bind fun v6 =>
 some v6)).bind fun v7 =>
 (guardV v4 true (some V.any)).bind fun v8 =>
 (guardV v4 true ((gate v4 true (ldk none (List.drop 0 v1))).bind fun v9 =>
 some v9)).bind fun v10 =>
 (guardV v4 true ((bin2 Tryz.prog BinOp.leq 3 (ot 10) (ot 12) v7 v10).bind fun v11 =>
 some v11)).bind fun v12 =>
 (pickV v4 v12 (vb false)).bind fun v13 =>
 (guardV v13 true (some V.any)).bind fun v14 =>
 (guardV v13 true ((gate v13 true (ldk none (List.drop 1 v2))).bind fun v15 =>
 some v15)).bind fun v16 =>
 (guardV v13 true ((bin2 Tryz.prog BinOp.geq 3 (ot 17) (oc 1) v16 (vi 1)).bind fun v17 =>
 some v17)).bind fun v18 =>
 (pickV v13 v18 (vb false)).bind fun v19 =>
 (guardV v19 true (some V.any)).bind fun v20 =>
 (guardV v19 true ((gate v19 true (ldk none (List.drop 1 v2))).bind fun v21 =>
 some v21)).bind fun v22 =>
 (guardV v19 true ((bin2 Tryz.prog BinOp.leq 3 (ot 22) (oc 4) v22 (vi 4)).bind fun v23 =>
 some v23)).bind fun v24 =>
 (pickV v19 v24 (vb false)).bind fun v25 =>
 some v25 := by kernel_rfl
noncomputable def t_topo_Spot (a0 : T_Topo) (a1 : T_Spot) : Option Bool :=
 some ((((decide (1 ≤ a1.Switch)) && (decide (a1.Switch ≤ a0.Switches))) && (decide (1 ≤ a1.Port))) && (decide (a1.Port ≤ 4)))
theorem ty_topo_Spot {n : Nat} (hn : bigN ≤ n) (a0 : T_Topo) (a1 : T_Spot) : Rv (fun x : Bool => (vb x)) (sem_topo_Spot n [(T_Topo.e a0), (T_Spot.e a1)]) (t_topo_Spot a0 a1) := by
 rw [eq_topo_Spot]
 unfold t_topo_Spot; refine tq (T_Topo.c a0) rfl ?_; refine tq (T_Spot.c a1) rfl ?_; refine tq (vi a1.Switch) (rfl) ?_; refine tq (vb (decide (1 ≤ a1.Switch))) (d_geq) ?_; refine tg (x := V.any) (fun h5 => rfl) ?_; refine tg (x := (vi a1.Switch)) (fun h7 => bind_some_eq (gate_pos h7 (rfl))) ?_; refine tg (x := V.any) (fun h10 => rfl) ?_; refine tg (x := (vi a0.Switches)) (fun h12 => bind_some_eq (gate_pos h12 (rfl))) ?_; refine tg (x := (vb (decide (a1.Switch ≤ a0.Switches)))) (fun h15 => by simp only [gv_t h15]; exact bind_some_eq (d_leq)) ?_; refine tq (vb ((decide (1 ≤ a1.Switch)) && (decide (a1.Switch ≤ a0.Switches)))) (pick_and (fun h9 => gv_t h9)) ?_; refine tg (x := V.any) (fun h19 => rfl) ?_; refine tg (x := (vi a1.Port)) (fun h21 => bind_some_eq (gate_pos h21 (rfl))) ?_; refine tg (x := (vb (decide (1 ≤ a1.Port)))) (fun h24 => by simp only [gv_t h24]; exact bind_some_eq (d_geq)) ?_; refine tq (vb (((decide (1 ≤ a1.Switch)) && (decide (a1.Switch ≤ a0.Switches))) && (decide (1 ≤ a1.Port)))) (pick_and (fun h9 => gv_t h9)) ?_; refine tg (x := V.any) (fun h28 => rfl) ?_; refine tg (x := (vi a1.Port)) (fun h30 => bind_some_eq (gate_pos h30 (rfl))) ?_; refine tg (x := (vb (decide (a1.Port ≤ 4)))) (fun h33 => by simp only [gv_t h33]; exact bind_some_eq (d_leq)) ?_; refine tq (vb ((((decide (1 ≤ a1.Switch)) && (decide (a1.Switch ≤ a0.Switches))) && (decide (1 ≤ a1.Port))) && (decide (a1.Port ≤ 4)))) (pick_and (fun h9 => gv_t h9)) ?_; exact rf_ret rfl
def an_topo_Name : Ann := .seq (.reg 0 [] [] []) (.seq (.seq (.reg 0 [] [] []) (.blk (some []) (.loop [.s 8] (.seq (.reg 0 [] [] []) (.seq (.cond none (.no) (.no)) (.seq (.blk none (.seq (.reg 0 [] [] []) (.seq (.reg 0 [] [] []) (.cond none (.seq (.reg 0 [] [] []) (.no)) (.no))))) (.reg 0 [] [] []))))))) (.seq (.reg 0 [] [] []) (.no)))
noncomputable def sem_topo_Name (n : Nat) (xs : List V) : Option V := if xs.length ≤ 26 then denF Tryz.prog (envOf []) n Tryz.f72 an_topo_Name xs else none
theorem ok_topo_Name (n : Nat) : SemOk Tryz.prog DW 72 (sem_topo_Name n) := fun xs y h => by
 unfold sem_topo_Name at h
 split at h
 ·rename_i hl
  exact denF_ok stb Tryz.func72 (by kernel_rfl) (envOf_ok semsOk_nil) (by rw [Tryz.ntmps72]; exact hl) h
 ·cases h
theorem eq_topo_Name (n : Nat) (x0 : V) : sem_topo_Name n [x0] =
 (s2b x0).bind fun v1 =>
 (lenS [v1]).bind fun v2 =>
 JoinPt (fun vs3 =>
 (bin2 Tryz.prog BinOp.neq 9 (ot 19) (Operand.const (Go.Value.string (ByteArray.mk #[]))) x0 (vt ⟨#[]⟩)).bind fun v5 =>
 (guardV v5 true (some x0)).bind fun v6 =>
 (guardV v5 true ((lenT [v6]).bind fun v7 =>
 some v7)).bind fun v8 =>
 (guardV v5 true ((bin2 Tryz.prog BinOp.leq 3 (ot 23) (oc 6) v8 (vi 6)).bind fun v9 =>
 some v9)).bind fun v10 =>
 (pickV v5 v10 (vb false)).bind fun v11 =>
 some v11) fun J4 =>
 (fixN (fun rec12 vs13 =>
 (bin2 Tryz.prog BinOp.lss 3 (ot 8) (ot 7) (List.getD vs13 0 V.any) v2).bind fun v14 =>
 condV v14 (
 (idxS 1 v1 (List.getD vs13 0 V.any)).bind fun v15 =>
 (ldp none v15).bind fun v16 =>
 (bin2 Tryz.prog BinOp.lss 5 (ot 12) (Operand.const (Go.Value.int Go.IntKind.u8 97)) v16 (V.lit (Go.Value.int Go.IntKind.u8 97))).bind fun v17 =>
 (guardV v17 false (some v16)).bind fun v18 =>
 (guardV v17 false ((bin2 Tryz.prog BinOp.gtr 5 (ot 15) (Operand.const (Go.Value.int Go.IntKind.u8 122)) v18 (V.lit (Go.Value.int Go.IntKind.u8 122))).bind fun v19 =>
 some v19)).bind fun v20 =>
 (pickV v17 (vb true) v20).bind fun v21 =>
 condV v21 (
 some (vb false)) (
 (bin2 Tryz.prog BinOp.add 3 (ot 8) (oc 1) (List.getD vs13 0 V.any) (vi 1)).bind fun v22 =>
 rec12 [v22])) (
 J4 [])) n) [(vi 0)] := by kernel_rfl
noncomputable def t_topo_Name (a0 : ByteArray) : Option Bool :=
 need (decide ((a0.size : Int) ≤ maxI)) (
 join (fun (s5 : Unit) =>
 some ((!decide (a0 = (ByteArray.mk #[]))) && (decide ((a0.size : Int) ≤ 6)))) fun j6 =>
 loopI (numsOf a0) (fun (i24 : Int) x25 (s20 : Unit) k21 =>
 if ((decide (x25 < 97)) || (decide (122 < x25))) = true then (
 some false) else (
 k21 ())) (fun (s20 : Unit) =>
 j6 ()) ())
theorem ty_topo_Name {n : Nat} (hn : bigN ≤ n) (a0 : ByteArray) : Rv (fun x : Bool => (vb x)) (sem_topo_Name n [(vt a0)]) (t_topo_Name a0) := by
 rw [eq_topo_Name]
 unfold t_topo_Name; refine tneed (x := (V.sl (List.map cY (numsOf a0)))) (fun h44 => p_s2b h44) fun h44 => ?_; refine tq (vi (List.length (numsOf a0) : Int)) (p_len _) ?_; refine tjoin (mk := fun s5 : Unit => []) (fun s5 => ?_) fun J4 j6 h7 => ?_
 ·refine tq (vb (!decide (a0 = (ByteArray.mk #[])))) (p_neq_str) ?_; refine tg (x := (vt a0)) (fun h9 => rfl) ?_; refine tg (x := (vi (a0.size : Int))) (fun h11 => by simp only [gv_t h11]; exact bind_some_eq (rfl)) ?_; refine tg (x := (vb (decide ((a0.size : Int) ≤ 6)))) (fun h14 => by simp only [gv_t h14]; exact bind_some_eq (d_leq)) ?_; refine tq (vb ((!decide (a0 = (ByteArray.mk #[]))) && (decide ((a0.size : Int) ≤ 6)))) (pick_and (fun h9 => gv_t h9)) ?_; exact rf_ret rfl
 ·refine rf_loopI (mk := fun (i24 : Int) (s20 : Unit) => [(vi (i24 : Int))]) hn (numsOf a0) () (fun i24 x25 h26 h27 h28 s20 rec18 k21 h22 => ?_) (fun s20 rec42 h41 => ?_)
  ·refine tq (vb (decide ((i24 : Int) < (List.length (numsOf a0) : Int)))) (d_lss) ?_; refine tcond_t h28 ?_; refine tq (V.ptr [(V.lit (.int .u8 x25))]) (p_idx_at (c := cY) (fun _ => rfl) h26) ?_; refine tq (V.lit (.int .u8 x25)) (rfl) ?_; refine tq (vb (decide (x25 < 97))) (q_lss) ?_; refine tg_f (x := (V.lit (.int .u8 x25))) (fun h33 => rfl) ?_; refine tg_f (x := (vb (decide (122 < x25)))) (fun h35 => by simp only [gv_t h35]; exact bind_some_eq (q_gtr)) ?_; refine tq (vb ((decide (x25 < 97)) || (decide (122 < x25)))) (pick_or (fun h9 => gv_t (not_f h9))) ?_; refine tcond (fun h39 => ?_) (fun h39 => ?_)
   ·exact rf_ret rfl
   ·refine tq (vi ((i24 : Int) + 1)) (p_incN h27) ?_; exact h22 ()
  ·refine tq (vb (decide ((List.length (numsOf a0) : Int) < (List.length (numsOf a0) : Int)))) (d_lss) ?_; refine tcond_f h41 ?_; exact h7 ()
def an_topo_Check : Ann := .seq (.reg 0 [] [] []) (.seq (.blk none (.seq (.reg 0 [] [] []) (.cond none (.seq (.reg 0 [] [] []) (.no)) (.seq (.reg 0 [] [] []) (.cond none (.seq (.reg 0 [] [] []) (.no)) (.no)))))) (.seq (.reg 0 [] [] []) (.seq (.seq (.reg 0 [] [] []) (.blk (some [.kb 1, .o 3]) (.loop [.kb 1, .o 3, .s 35] (.seq (.reg 0 [] [] []) (.seq (.cond none (.no) (.no)) (.seq (.blk none (.seq (.reg 0 [] [] []) (.seq (.seq (.reg 0 [] [] []) (.cond none (.seq (.reg 0 [] [] []) (.no)) (.no))) (.seq (.seq (.reg 0 [] [] []) (.cond none (.seq (.reg 0 [] [] []) (.no)) (.no))) (.reg 72 [] [] []))))) (.reg 0 [] [] []))))))) (.seq (.reg 0 [] [] []) (.seq (.seq (.reg 0 [] [] []) (.blk (some []) (.loop [.kb 1, .o 3, .o 6, .s 81] (.seq (.reg 0 [] [] []) (.seq (.cond none (.no) (.no)) (.seq (.blk none (.seq (.reg 0 [] [] []) (.seq (.blk none (.seq (.reg 0 [] [] []) (.cond none (.seq (.reg 0 [] [] []) (.no)) (.seq (.reg 0 [] [] []) (.cond none (.seq (.reg 0 [] [] []) (.no)) (.seq (.reg 0 [] [] []) (.cond none (.seq (.reg 0 [] [] []) (.no)) (.no)))))))) (.reg 72 [] [] [])))) (.reg 0 [] [] []))))))) (.seq (.reg 0 [] [] []) (.no)))))))
noncomputable def sem_topo_Check (n : Nat) (xs : List V) : Option V := if xs.length ≤ 117 then denF Tryz.prog (envOf [(71, (sem_topo_Spot n)), (72, (sem_topo_Name n))]) n Tryz.f46 an_topo_Check xs else none
theorem ok_topo_Check (n : Nat) : SemOk Tryz.prog DW 46 (sem_topo_Check n) := fun xs y h => by
 unfold sem_topo_Check at h
 split at h
 ·rename_i hl
  exact denF_ok stb Tryz.func46 (by kernel_rfl) (envOf_ok (semsOk_cons (ok_topo_Spot n) (semsOk_cons (ok_topo_Name n) semsOk_nil))) (by rw [Tryz.ntmps46]; exact hl) h
 ·cases h
theorem eq_topo_Check (n : Nat) (x0 : V) : sem_topo_Check n [x0] =
 (V.cellsO x0).bind fun v1 =>
 (ldk none (List.drop 0 v1)).bind fun v2 =>
 (bin2 Tryz.prog BinOp.lss 3 (ot 11) (oc 1) v2 (vi 1)).bind fun v3 =>
 (guardV v3 false (some V.any)).bind fun v4 =>
 (guardV v3 false ((gate v3 false (ldk none (List.drop 0 v1))).bind fun v5 =>
 some v5)).bind fun v6 =>
 (guardV v3 false ((bin2 Tryz.prog BinOp.gtr 3 (ot 15) (oc 6) v6 (vi 6)).bind fun v7 =>
 some v7)).bind fun v8 =>
 (pickV v3 (vb true) v8).bind fun v9 =>
 condV v9 (
 (scal1 Tryz.prog (Instr.makeInterface 81) (vi 1)).bind fun v10 =>
 some v10) (
 (ldk none (List.drop 1 v1)).bind fun v11 =>
 (lenS [v11]).bind fun v12 =>
 (bin2 Tryz.prog BinOp.gtr 3 (ot 22) (oc 200) v12 (vi 200)).bind fun v13 =>
 (guardV v13 false (some V.any)).bind fun v14 =>
 (guardV v13 false ((gate v13 false (ldk none (List.drop 2 v1))).bind fun v15 =>
 some v15)).bind fun v16 =>
 (guardV v13 false ((lenS [v16]).bind fun v17 =>
 some v17)).bind fun v18 =>
 (guardV v13 false ((bin2 Tryz.prog BinOp.gtr 3 (ot 27) (oc 8) v18 (vi 8)).bind fun v19 =>
 some v19)).bind fun v20 =>
 (pickV v13 (vb true) v20).bind fun v21 =>
 condV v21 (
 (scal1 Tryz.prog (Instr.makeInterface 81) (vi 4)).bind fun v22 =>
 some v22) (
 (ldk none (List.drop 1 v1)).bind fun v23 =>
 (lenS [v23]).bind fun v24 =>
 JoinPt (fun vs25 =>
 (ldk none (List.drop 2 v1)).bind fun v27 =>
 (lenS [v27]).bind fun v28 =>
 JoinPt (fun vs29 =>
 some vn) fun J30 =>
 (keepO (some v1) (some v1) (some [(List.getD vs25 0 V.any), (V.mp []), (vi 0)])).bind (fixN (fun rec31 vs32 =>
 (bin2 Tryz.prog BinOp.lss 3 (ot 81) (ot 80) (List.getD vs32 2 V.any) v28).bind fun v33 =>
 condV v33 (
 (idxS 3 v27 (List.getD vs32 2 V.any)).bind fun v34 =>
 (ldp (some 3) v34).bind fun v35 =>
 (spliceV [(vt ⟨#[]⟩), (vi 0), (vi 0)] 0 3 v35).bind fun v36 =>
 (ldk none (List.drop 0 (aggL v36))).bind fun v37 =>
 ((sem_topo_Name n) [v37]).bind fun v38 =>
 (scal1 Tryz.prog (Op.unary Go.UnOp.not) v38).bind fun v39 =>
 condV v39 (
 (scal1 Tryz.prog (Instr.makeInterface 81) (vi 2)).bind fun v40 =>
 some v40) (
 (ldk (some 3) (List.drop 0 v1)).bind fun v41 =>
 (ldk (some 2) (List.drop 1 (aggL v36))).bind fun v42 =>
 ((sem_topo_Spot n) [v41, v42]).bind fun v43 =>
 (scal1 Tryz.prog (Op.unary Go.UnOp.not) v43).bind fun v44 =>
 condV v44 (
 (scal1 Tryz.prog (Instr.makeInterface 81) (vi 1)).bind fun v45 =>
 some v45) (
 (ldk none (List.drop 0 (aggL v36))).bind fun v46 =>
 (lookV Tryz.prog 155 false (List.getD vs32 1 V.any) v46).bind fun v47 =>
 (guardV v47 false (some V.any)).bind fun v48 =>
 (guardV v47 false (some V.any)).bind fun v49 =>
 (guardV v47 false ((gate v47 false (ldk (some 2) (List.drop 1 (aggL v36)))).bind fun v50 =>
 some v50)).bind fun v51 =>
 (guardV v47 false ((gate v47 false (lookV Tryz.prog 153 false (List.getD vs32 0 V.any) v51)).bind fun v52 =>
 some v52)).bind fun v53 =>
 (pickV v47 (vb true) v53).bind fun v54 =>
 condV v54 (
 (scal1 Tryz.prog (Instr.makeInterface 81) (vi 7)).bind fun v55 =>
 some v55) (
 (ldk none (List.drop 0 (aggL v36))).bind fun v56 =>
 (litV v56).bind fun v57 =>
 (ldk (some 2) (List.drop 1 (aggL v36))).bind fun v58 =>
 (litV v58).bind fun v59 =>
 (putV Tryz.prog 155 (List.getD vs32 1 V.any) v57 (vb true)).bind fun v60 =>
 (putV Tryz.prog 153 (List.getD vs32 0 V.any) v59 (vb true)).bind fun v61 =>
 (bin2 Tryz.prog BinOp.add 3 (ot 81) (oc 1) (List.getD vs32 2 V.any) (vi 1)).bind fun v62 =>
 (keepO (some v1) (some v1) (some [v61, v60, v62])).bind rec31)))) (
 J30 [])) n)) fun J26 =>
 (keepO (some v1) (some v1) (some [(V.mp []), (vi 0)])).bind (fixN (fun rec63 vs64 =>
 (bin2 Tryz.prog BinOp.lss 3 (ot 35) (ot 34) (List.getD vs64 1 V.any) v24).bind fun v65 =>
 condV v65 (
 (idxS 4 v23 (List.getD vs64 1 V.any)).bind fun v66 =>
 (ldp (some 4) v66).bind fun v67 =>
 (spliceV [(vi 0), (vi 0), (vi 0), (vi 0)] 0 4 v67).bind fun v68 =>
 (ldk (some 3) (List.drop 0 v1)).bind fun v69 =>
 (ldk (some 2) (List.drop 0 (aggL v68))).bind fun v70 =>
 ((sem_topo_Spot n) [v69, v70]).bind fun v71 =>
 (scal1 Tryz.prog (Op.unary Go.UnOp.not) v71).bind fun v72 =>
 (guardV v72 false ((ldk (some 3) (List.drop 0 v1)).bind fun v73 =>
 some v73)).bind fun v74 =>
 (guardV v72 false (some V.any)).bind fun v75 =>
 (guardV v72 false ((gate v72 false (ldk (some 2) (List.drop 2 (aggL v68)))).bind fun v76 =>
 some v76)).bind fun v77 =>
 (guardV v72 false (((sem_topo_Spot n) [v74, v77]).bind fun v78 =>
 some v78)).bind fun v79 =>
 (guardV v72 false ((scal1 Tryz.prog (Op.unary Go.UnOp.not) v79).bind fun v80 =>
 some v80)).bind fun v81 =>
 (pickV v72 (vb true) v81).bind fun v82 =>
 condV v82 (
 (scal1 Tryz.prog (Instr.makeInterface 81) (vi 1)).bind fun v83 =>
 some v83) (
 (ldk (some 2) (List.drop 0 (aggL v68))).bind fun v84 =>
 (lookV Tryz.prog 153 false (List.getD vs64 0 V.any) v84).bind fun v85 =>
 (guardV v85 false (some V.any)).bind fun v86 =>
 (guardV v85 false (some V.any)).bind fun v87 =>
 (guardV v85 false ((gate v85 false (ldk (some 2) (List.drop 2 (aggL v68)))).bind fun v88 =>
 some v88)).bind fun v89 =>
 (guardV v85 false ((gate v85 false (lookV Tryz.prog 153 false (List.getD vs64 0 V.any) v89)).bind fun v90 =>
 some v90)).bind fun v91 =>
 (pickV v85 (vb true) v91).bind fun v92 =>
 (guardV v92 false (some V.any)).bind fun v93 =>
 (guardV v92 false ((gate v92 false (ldk (some 2) (List.drop 0 (aggL v68)))).bind fun v94 =>
 some v94)).bind fun v95 =>
 (guardV v92 false (some V.any)).bind fun v96 =>
 (guardV v92 false ((gate v92 false (ldk (some 2) (List.drop 2 (aggL v68)))).bind fun v97 =>
 some v97)).bind fun v98 =>
 (guardV v92 false ((bin2 Tryz.prog BinOp.eql 65 (ot 64) (ot 66) v95 v98).bind fun v99 =>
 some v99)).bind fun v100 =>
 (pickV v92 (vb true) v100).bind fun v101 =>
 condV v101 (
 (scal1 Tryz.prog (Instr.makeInterface 81) (vi 7)).bind fun v102 =>
 some v102) (
 (ldk (some 2) (List.drop 0 (aggL v68))).bind fun v103 =>
 (litV v103).bind fun v104 =>
 (ldk (some 2) (List.drop 2 (aggL v68))).bind fun v105 =>
 (litV v105).bind fun v106 =>
 (putV Tryz.prog 153 (List.getD vs64 0 V.any) v104 (vb true)).bind fun v107 =>
 (putV Tryz.prog 153 v107 v106 (vb true)).bind fun v108 =>
 (bin2 Tryz.prog BinOp.add 3 (ot 35) (oc 1) (List.getD vs64 1 V.any) (vi 1)).bind fun v109 =>
 (keepO (some v1) (some v1) (some [v108, v109])).bind rec63))) (
 (keepO (some v1) (some v1) (some [(List.getD vs64 0 V.any)])).bind J26)) n))) := by kernel_rfl
noncomputable def t_topo_Check (a0 : T_Topo) : Option Int :=
 if ((decide (a0.Switches < 1)) || (decide (6 < a0.Switches))) = true then (
 some 1) else (
 if ((decide (200 < (List.length a0.Links : Int))) || (decide (8 < (List.length a0.Hosts : Int)))) = true then (
 some 4) else (
 join (fun (s36 : (List (T_Spot × Bool))) =>
 join (fun (s43 : Unit) =>
 some 0) fun j44 =>
 loopI a0.Hosts (fun (i52 : Int) x53 (s48 : ((List (T_Spot × Bool)) × (List (ByteArray × Bool)))) k49 =>
 (t_topo_Name x53.Name).bind fun r63 =>
 if (!r63) = true then (
 some 2) else (
 (t_topo_Spot a0 x53.At).bind fun r70 =>
 if (!r70) = true then (
 some 1) else (
 if ((mget s48.2 x53.Name false) || (mget s48.1 x53.At false)) = true then (
 some 7) else (
 k49 ((mput s48.1 x53.At true), (mput s48.2 x53.Name true)))))) (fun (s48 : ((List (T_Spot × Bool)) × (List (ByteArray × Bool)))) =>
 j44 ()) (s36, [])) fun j37 =>
 loopI a0.Links (fun (i105 : Int) x106 (s101 : (List (T_Spot × Bool))) k102 =>
 (t_topo_Spot a0 x106.A).bind fun r117 =>
 (gd (!(!r117)) default (t_topo_Spot a0 x106.B)).bind fun r130 =>
 if ((!r117) || (!r130)) = true then (
 some 1) else (
 if (((mget s101 x106.A false) || (mget s101 x106.B false)) || (decide (x106.A = x106.B))) = true then (
 some 7) else (
 k102 (mput (mput s101 x106.A true) x106.B true)))) (fun (s101 : (List (T_Spot × Bool))) =>
 j37 (s101)) ([])))
theorem ty_topo_Check {n : Nat} (hn : bigN ≤ n) (a0 : T_Topo) : Rv (fun x : Int => (eV x)) (sem_topo_Check n [(T_Topo.e a0)]) (t_topo_Check a0) := by
 rw [eq_topo_Check]
 unfold t_topo_Check; refine tq (T_Topo.c a0) rfl ?_; refine tq (vi a0.Switches) (rfl) ?_; refine tq (vb (decide (a0.Switches < 1))) (d_lss) ?_; refine tg_f (x := V.any) (fun h4 => rfl) ?_; refine tg_f (x := (vi a0.Switches)) (fun h6 => bind_some_eq (gate_pos (not_t h6) (rfl))) ?_; refine tg_f (x := (vb (decide (6 < a0.Switches)))) (fun h9 => by simp only [gv_t h9]; exact bind_some_eq (d_gtr)) ?_; refine tq (vb ((decide (a0.Switches < 1)) || (decide (6 < a0.Switches)))) (pick_or (fun h9 => gv_t (not_f h9))) ?_; refine tcond (fun h13 => ?_) (fun h13 => ?_)
 ·refine tq (eV 1) (p_mkE (by decide)) ?_; exact rf_ret rfl
 ·refine tq (V.sl (List.map T_Link.c a0.Links)) (rfl) ?_; refine tq (vi (List.length a0.Links : Int)) (p_len _) ?_; refine tq (vb (decide (200 < (List.length a0.Links : Int)))) (d_gtr) ?_; refine tg_f (x := V.any) (fun h18 => rfl) ?_; refine tg_f (x := (V.sl (List.map T_Host.c a0.Hosts))) (fun h20 => bind_some_eq (gate_pos (not_t h20) (rfl))) ?_; refine tg_f (x := (vi (List.length a0.Hosts : Int))) (fun h23 => by simp only [gv_t h23]; exact bind_some_eq (p_len _)) ?_; refine tg_f (x := (vb (decide (8 < (List.length a0.Hosts : Int))))) (fun h26 => by simp only [gv_t h26]; exact bind_some_eq (d_gtr)) ?_; refine tq (vb ((decide (200 < (List.length a0.Links : Int))) || (decide (8 < (List.length a0.Hosts : Int))))) (pick_or (fun h9 => gv_t (not_f h9))) ?_; refine tcond (fun h30 => ?_) (fun h30 => ?_)
  ·refine tq (eV 4) (p_mkE (by decide)) ?_; exact rf_ret rfl
  ·refine tq (V.sl (List.map T_Link.c a0.Links)) (rfl) ?_; refine tq (vi (List.length a0.Links : Int)) (p_len _) ?_; refine tjoin (mk := fun s36 : (List (T_Spot × Bool)) => [(V.mp (mrep T_Spot.val (fun b : Bool => Go.Value.bool b) s36))]) (fun s36 => ?_) fun J35 j37 h38 => ?_
   ·refine tq (V.sl (List.map T_Host.c a0.Hosts)) (rfl) ?_; refine tq (vi (List.length a0.Hosts : Int)) (p_len _) ?_; refine tjoin (mk := fun s43 : Unit => []) (fun s43 => ?_) fun J42 j44 h45 => ?_
    ·exact rf_ret rfl
    ·refine tkeepO2 ?_ rfl; refine tsome ?_; refine rf_loopI (mk := fun (i52 : Int) (s48 : ((List (T_Spot × Bool)) × (List (ByteArray × Bool)))) => [(V.mp (mrep T_Spot.val (fun b : Bool => Go.Value.bool b) s48.1)), (V.mp (mrep (fun b : ByteArray => Go.Value.string b) (fun b : Bool => Go.Value.bool b) s48.2)), (vi (i52 : Int))]) hn a0.Hosts (s36, []) (fun i52 x53 h54 h55 h56 s48 rec46 k49 h50 => ?_) (fun s48 rec97 h96 => ?_)
     ·refine tq (vb (decide ((i52 : Int) < (List.length a0.Hosts : Int)))) (d_lss) ?_; refine tcond_t h56 ?_; refine tq (V.ptr (T_Host.c x53)) (p_idx_at (c := T_Host.c) (fun _ => rfl) h54) ?_; refine tq (T_Host.e x53) (rfl) ?_; refine tq (V.agg (T_Host.c x53)) (by kernel_rfl) ?_; refine tq (vt x53.Name) (rfl) ?_; refine tbo (ty_topo_Name hn x53.Name) fun r63 => ?_; refine tq (vb (!r63)) (d_not) ?_; refine tcond (fun h65 => ?_) (fun h65 => ?_)
      ·refine tq (eV 2) (p_mkE (by decide)) ?_; exact rf_ret rfl
      ·refine tq (T_Topo.e a0) (rfl) ?_; refine tq (T_Spot.e x53.At) (rfl) ?_; refine tbo (ty_topo_Spot hn a0 x53.At) fun r70 => ?_; refine tq (vb (!r70)) (d_not) ?_; refine tcond (fun h72 => ?_) (fun h72 => ?_)
       ·refine tq (eV 1) (p_mkE (by decide)) ?_; exact rf_ret rfl
       ·refine tq (vt x53.Name) (rfl) ?_; refine tq (vb (mget s48.2 x53.Name false)) (p_look (kt := 9) (et := 4) (kv := (fun b : ByteArray => Go.Value.string b)) (vv := (fun b : Bool => Go.Value.bool b)) (e1 := fun x : Bool => (vb x)) (mkey_str (by kernel_rfl)) (by kernel_rfl) false (fun _ => by kernel_rfl) (fun _ => rfl) x53.Name rfl s48.2) ?_; refine tg_f (x := V.any) (fun h76 => rfl) ?_; refine tg_f (x := V.any) (fun h78 => rfl) ?_; refine tg_f (x := (T_Spot.e x53.At)) (fun h80 => bind_some_eq (gate_pos (not_t h80) (rfl))) ?_; refine tg_f (x := (vb (mget s48.1 x53.At false))) (fun h83 => by simp only [gv_t h83]; exact bind_some_eq (gate_pos (not_t h83) (p_look (kt := 65) (et := 4) (kv := T_Spot.val) (vv := (fun b : Bool => Go.Value.bool b)) (e1 := fun x : Bool => (vb x)) T_Spot.mkey (by kernel_rfl) false (fun _ => by kernel_rfl) (fun _ => rfl) x53.At rfl s48.1))) ?_; refine tq (vb ((mget s48.2 x53.Name false) || (mget s48.1 x53.At false))) (pick_or (fun h9 => gv_t (not_f h9))) ?_; refine tcond (fun h87 => ?_) (fun h87 => ?_)
        ·refine tq (eV 7) (p_mkE (by decide)) ?_; exact rf_ret rfl
        ·refine tq (vt x53.Name) (rfl) ?_; refine tq (vt x53.Name) rfl ?_; refine tq (T_Spot.e x53.At) (rfl) ?_; refine tq (T_Spot.e x53.At) rfl ?_; refine tq (V.mp (mrep (fun b : ByteArray => Go.Value.string b) (fun b : Bool => Go.Value.bool b) (mput s48.2 x53.Name true))) (p_put (kt := 9) (et := 4) (kv := (fun b : ByteArray => Go.Value.string b)) (vv := (fun b : Bool => Go.Value.bool b)) (mkey_str (by kernel_rfl)) (by kernel_rfl) x53.Name true rfl rfl s48.2) ?_; refine tq (V.mp (mrep T_Spot.val (fun b : Bool => Go.Value.bool b) (mput s48.1 x53.At true))) (p_put (kt := 65) (et := 4) (kv := T_Spot.val) (vv := (fun b : Bool => Go.Value.bool b)) T_Spot.mkey (by kernel_rfl) x53.At true rfl rfl s48.1) ?_; refine tq (vi ((i52 : Int) + 1)) (p_incN h55) ?_; refine tkeepO2 ?_ rfl; refine tsome ?_; exact h50 ((mput s48.1 x53.At true), (mput s48.2 x53.Name true))
     ·refine tq (vb (decide ((List.length a0.Hosts : Int) < (List.length a0.Hosts : Int)))) (d_lss) ?_; refine tcond_f h96 ?_; exact h45 ()
   ·refine tkeepO2 ?_ rfl; refine tsome ?_; refine rf_loopI (mk := fun (i105 : Int) (s101 : (List (T_Spot × Bool))) => [(V.mp (mrep T_Spot.val (fun b : Bool => Go.Value.bool b) s101)), (vi (i105 : Int))]) hn a0.Links ([]) (fun i105 x106 h107 h108 h109 s101 rec99 k102 h103 => ?_) (fun s101 rec174 h173 => ?_)
    ·refine tq (vb (decide ((i105 : Int) < (List.length a0.Links : Int)))) (d_lss) ?_; refine tcond_t h109 ?_; refine tq (V.ptr (T_Link.c x106)) (p_idx_at (c := T_Link.c) (fun _ => rfl) h107) ?_; refine tq (T_Link.e x106) (rfl) ?_; refine tq (V.agg (T_Link.c x106)) (by kernel_rfl) ?_; refine tq (T_Topo.e a0) (rfl) ?_; refine tq (T_Spot.e x106.A) (rfl) ?_; refine tbo (ty_topo_Spot hn a0 x106.A) fun r117 => ?_; refine tq (vb (!r117)) (d_not) ?_; refine tg_f (x := (T_Topo.e a0)) (fun h119 => bind_some_eq (rfl)) ?_; refine tg_f (x := V.any) (fun h122 => rfl) ?_; refine tg_f (x := (T_Spot.e x106.B)) (fun h124 => bind_some_eq (gate_pos (not_t h124) (rfl))) ?_; refine tgo_f (fun h127 => by simp only [gv_t h127]; exact rf_bind_some (ty_topo_Spot hn a0 x106.B)) fun r130 => ?_; refine tg_f (x := (vb (!r130))) (fun h131 => by simp only [gv_t h131]; exact bind_some_eq (d_not)) ?_; refine tq (vb ((!r117) || (!r130))) (pick_or (fun h9 => gv_t (not_f h9))) ?_; refine tcond (fun h135 => ?_) (fun h135 => ?_)
     ·refine tq (eV 1) (p_mkE (by decide)) ?_; exact rf_ret rfl
     ·refine tq (T_Spot.e x106.A) (rfl) ?_; refine tq (vb (mget s101 x106.A false)) (p_look (kt := 65) (et := 4) (kv := T_Spot.val) (vv := (fun b : Bool => Go.Value.bool b)) (e1 := fun x : Bool => (vb x)) T_Spot.mkey (by kernel_rfl) false (fun _ => by kernel_rfl) (fun _ => rfl) x106.A rfl s101) ?_; refine tg_f (x := V.any) (fun h139 => rfl) ?_; refine tg_f (x := V.any) (fun h141 => rfl) ?_; refine tg_f (x := (T_Spot.e x106.B)) (fun h143 => bind_some_eq (gate_pos (not_t h143) (rfl))) ?_; refine tg_f (x := (vb (mget s101 x106.B false))) (fun h146 => by simp only [gv_t h146]; exact bind_some_eq (gate_pos (not_t h146) (p_look (kt := 65) (et := 4) (kv := T_Spot.val) (vv := (fun b : Bool => Go.Value.bool b)) (e1 := fun x : Bool => (vb x)) T_Spot.mkey (by kernel_rfl) false (fun _ => by kernel_rfl) (fun _ => rfl) x106.B rfl s101))) ?_; refine tq (vb ((mget s101 x106.A false) || (mget s101 x106.B false))) (pick_or (fun h9 => gv_t (not_f h9))) ?_; refine tg_f (x := V.any) (fun h150 => rfl) ?_; refine tg_f (x := (T_Spot.e x106.A)) (fun h152 => bind_some_eq (gate_pos (not_t h152) (rfl))) ?_; refine tg_f (x := V.any) (fun h155 => rfl) ?_; refine tg_f (x := (T_Spot.e x106.B)) (fun h157 => bind_some_eq (gate_pos (not_t h157) (rfl))) ?_; refine tg_f (x := (vb (decide (x106.A = x106.B)))) (fun h160 => by simp only [gv_t h160]; exact bind_some_eq (T_Spot.eql x106.A x106.B)) ?_; refine tq (vb (((mget s101 x106.A false) || (mget s101 x106.B false)) || (decide (x106.A = x106.B)))) (pick_or (fun h9 => gv_t (not_f h9))) ?_; refine tcond (fun h164 => ?_) (fun h164 => ?_)
      ·refine tq (eV 7) (p_mkE (by decide)) ?_; exact rf_ret rfl
      ·refine tq (T_Spot.e x106.A) (rfl) ?_; refine tq (T_Spot.e x106.A) rfl ?_; refine tq (T_Spot.e x106.B) (rfl) ?_; refine tq (T_Spot.e x106.B) rfl ?_; refine tq (V.mp (mrep T_Spot.val (fun b : Bool => Go.Value.bool b) (mput s101 x106.A true))) (p_put (kt := 65) (et := 4) (kv := T_Spot.val) (vv := (fun b : Bool => Go.Value.bool b)) T_Spot.mkey (by kernel_rfl) x106.A true rfl rfl s101) ?_; refine tq (V.mp (mrep T_Spot.val (fun b : Bool => Go.Value.bool b) (mput (mput s101 x106.A true) x106.B true))) (p_put (kt := 65) (et := 4) (kv := T_Spot.val) (vv := (fun b : Bool => Go.Value.bool b)) T_Spot.mkey (by kernel_rfl) x106.B true rfl rfl (mput s101 x106.A true)) ?_; refine tq (vi ((i105 : Int) + 1)) (p_incN h108) ?_; refine tkeepO2 ?_ rfl; refine tsome ?_; exact h103 (mput (mput s101 x106.A true) x106.B true)
    ·refine tq (vb (decide ((List.length a0.Links : Int) < (List.length a0.Links : Int)))) (d_lss) ?_; refine tcond_f h173 ?_; refine tkeepO2 ?_ rfl; refine tsome ?_; exact h38 (s101)
def an_net_Check : Ann := .seq (.reg 0 [] [] []) (.seq (.seq (.reg 0 [] [] []) (.seq (.reg 0 [] [] []) (.cond none (.seq (.reg 0 [] [] []) (.no)) (.no)))) (.seq (.seq (.reg 0 [] [] []) (.cond none (.seq (.reg 0 [] [] []) (.no)) (.no))) (.seq (.seq (.reg 0 [] [] []) (.blk (some []) (.loop [.s 24] (.seq (.reg 0 [] [] []) (.seq (.cond none (.no) (.no)) (.seq (.blk none (.seq (.reg 0 [] [] []) (.seq (.reg 0 [] [] []) (.seq (.reg 0 [] [] []) (.cond none (.seq (.reg 0 [] [] []) (.no)) (.no)))))) (.reg 0 [] [] []))))))) (.seq (.reg 0 [] [] []) (.no)))))
noncomputable def sem_net_Check (n : Nat) (xs : List V) : Option V := if xs.length ≤ 34 then denF Tryz.prog (envOf [(46, (sem_topo_Check n)), (33, (sem_rule_Table n))]) n Tryz.f19 an_net_Check xs else none
theorem ok_net_Check (n : Nat) : SemOk Tryz.prog DW 19 (sem_net_Check n) := fun xs y h => by
 unfold sem_net_Check at h
 split at h
 ·rename_i hl
  exact denF_ok stb Tryz.func19 (by kernel_rfl) (envOf_ok (semsOk_cons (ok_topo_Check n) (semsOk_cons (ok_rule_Table n) semsOk_nil))) (by rw [Tryz.ntmps19]; exact hl) h
 ·cases h
theorem eq_net_Check (n : Nat) (x0 : V) : sem_net_Check n [x0] =
 (V.cellsO x0).bind fun v1 =>
 (ldk (some 3) (List.drop 0 v1)).bind fun v2 =>
 ((sem_topo_Check n) [v2]).bind fun v3 =>
 (bin2 Tryz.prog BinOp.neq 32 (ot 10) (Operand.const Go.Value.nilIface) v3 vn).bind fun v4 =>
 condV v4 (
 some v3) (
 (ldk none (List.drop 3 v1)).bind fun v5 =>
 (lenS [v5]).bind fun v6 =>
 (ldk none (List.drop 0 v1)).bind fun v7 =>
 (bin2 Tryz.prog BinOp.neq 3 (ot 15) (ot 18) v6 v7).bind fun v8 =>
 condV v8 (
 (scal1 Tryz.prog (Instr.makeInterface 81) (vi 3)).bind fun v9 =>
 some v9) (
 (ldk none (List.drop 3 v1)).bind fun v10 =>
 (lenS [v10]).bind fun v11 =>
 JoinPt (fun vs12 =>
 some vn) fun J13 =>
 (fixN (fun rec14 vs15 =>
 (bin2 Tryz.prog BinOp.lss 3 (ot 24) (ot 23) (List.getD vs15 0 V.any) v11).bind fun v16 =>
 condV v16 (
 (idxS 1 v10 (List.getD vs15 0 V.any)).bind fun v17 =>
 (ldp none v17).bind fun v18 =>
 ((sem_rule_Table n) [v18]).bind fun v19 =>
 (bin2 Tryz.prog BinOp.neq 32 (ot 30) (Operand.const Go.Value.nilIface) v19 vn).bind fun v20 =>
 condV v20 (
 some v19) (
 (bin2 Tryz.prog BinOp.add 3 (ot 24) (oc 1) (List.getD vs15 0 V.any) (vi 1)).bind fun v21 =>
 rec14 [v21])) (
 J13 [])) n) [(vi 0)])) := by kernel_rfl
noncomputable def t_net_Check (a0 : T_Net) : Option Int :=
 (t_topo_Check a0.Topo).bind fun r4 =>
 if (!decide (r4 = 0)) = true then (
 some r4) else (
 if (decide ((List.length a0.Tables : Int) ≠ a0.Topo.Switches)) = true then (
 some 3) else (
 join (fun (s17 : Unit) =>
 some 0) fun j18 =>
 loopI a0.Tables (fun (i26 : Int) x27 (s22 : Unit) k23 =>
 (t_rule_Table x27).bind fun r35 =>
 if (!decide (r35 = 0)) = true then (
 some r35) else (
 k23 ())) (fun (s22 : Unit) =>
 j18 ()) ()))
theorem ty_net_Check {n : Nat} (hn : bigN ≤ n) (a0 : T_Net) : Rv (fun x : Int => (eV x)) (sem_net_Check n [(T_Net.e a0)]) (t_net_Check a0) := by
 rw [eq_net_Check]
 unfold t_net_Check; refine tq (T_Net.c a0) rfl ?_; refine tq (T_Topo.e a0.Topo) (rfl) ?_; refine tbo (ty_topo_Check hn a0.Topo) fun r4 => ?_; refine tq (vb (!decide (r4 = 0))) (p_err_neq _) ?_; refine tcond (fun h6 => ?_) (fun h6 => ?_)
 ·exact rf_ret rfl
 ·refine tq (V.sl (List.map (cS T_Rule.c) a0.Tables)) (rfl) ?_; refine tq (vi (List.length a0.Tables : Int)) (p_len _) ?_; refine tq (vi a0.Topo.Switches) (rfl) ?_; refine tq (vb (decide ((List.length a0.Tables : Int) ≠ a0.Topo.Switches))) (d_neq) ?_; refine tcond (fun h11 => ?_) (fun h11 => ?_)
  ·refine tq (eV 3) (p_mkE (by decide)) ?_; exact rf_ret rfl
  ·refine tq (V.sl (List.map (cS T_Rule.c) a0.Tables)) (rfl) ?_; refine tq (vi (List.length a0.Tables : Int)) (p_len _) ?_; refine tjoin (mk := fun s17 : Unit => []) (fun s17 => ?_) fun J16 j18 h19 => ?_
   ·exact rf_ret rfl
   ·refine rf_loopI (mk := fun (i26 : Int) (s22 : Unit) => [(vi (i26 : Int))]) hn a0.Tables () (fun i26 x27 h28 h29 h30 s22 rec20 k23 h24 => ?_) (fun s22 rec40 h39 => ?_)
    ·refine tq (vb (decide ((i26 : Int) < (List.length a0.Tables : Int)))) (d_lss) ?_; refine tcond_t h30 ?_; refine tq (V.ptr [(V.sl (List.map T_Rule.c x27))]) (p_idx_at (c := (cS T_Rule.c)) (fun _ => rfl) h28) ?_; refine tq (V.sl (List.map T_Rule.c x27)) (rfl) ?_; refine tbo (ty_rule_Table hn x27) fun r35 => ?_; refine tq (vb (!decide (r35 = 0))) (p_err_neq _) ?_; refine tcond (fun h37 => ?_) (fun h37 => ?_)
     ·exact rf_ret rfl
     ·refine tq (vi ((i26 : Int) + 1)) (p_incN h29) ?_; exact h24 ()
    ·refine tq (vb (decide ((List.length a0.Tables : Int) < (List.length a0.Tables : Int)))) (d_lss) ?_; refine tcond_f h39 ?_; exact h19 ()
def an_change_Own : Ann := .seq (.reg 0 [] [] [1, 2]) (.seq (.reg 10 [] [] []) (.seq (.reg 0 [] [] []) (.seq (.seq (.reg 0 [] [] []) (.blk (some [.ko 1, .ko 2, .o 3]) (.loop [.ko 1, .ko 2, .o 3, .s 25] (.seq (.reg 0 [] [] []) (.seq (.cond none (.no) (.no)) (.seq (.blk none (.seq (.reg 0 [] [] []) (.reg 0 [] [] []))) (.reg 0 [] [] []))))))) (.seq (.reg 0 [] [] []) (.seq (.reg 0 [] [] [1000038]) (.no))))))
noncomputable def sem_change_Own (n : Nat) (xs : List V) : Option V := if xs.length ≤ 39 then denM Tryz.prog (envOf [(47, (semClone 4)), (48, (semClone 3)), (34, (semClone 6))]) n Tryz.f20 an_change_Own [0] (some 0) xs else none
theorem ok_change_Own (n : Nat) : MSemOk Tryz.prog DW 20 (sem_change_Own n) := fun xs y h => by
 unfold sem_change_Own at h
 split at h
 ·rename_i hl
  exact denM_ok Tryz.func20 (by kernel_rfl) (envOf_ok (semsOk_cons (sok_slices_Clone_api_Link_api_Link) (semsOk_cons (sok_slices_Clone_api_Host_api_Host) (semsOk_cons (sok_slices_Clone_api_Table_api_Rule) semsOk_nil)))) (by rw [Tryz.ntmps20]; exact hl) (by decide) h
 ·cases h
theorem eq_change_Own (n : Nat) (x0 : V) : sem_change_Own n [x0] =
 (pureO x0).bind fun v1 =>
 (V.cellsO x0).bind fun v2 =>
 (some V.any).bind fun v3 =>
 (some V.any).bind fun v4 =>
 ((nodeL (V.obj v2) none 0).bind fun l5 => (ldk none (List.drop 1 l5)).bind pureO).bind fun v6 =>
 ((semClone 4) [v6]).bind fun v7 =>
 (some V.any).bind fun v8 =>
 (some V.any).bind fun v9 =>
 ((nodeL (V.obj v2) none 0).bind fun l10 => (ldk none (List.drop 2 l10)).bind pureO).bind fun v11 =>
 ((semClone 3) [v11]).bind fun v12 =>
 (some V.any).bind fun v13 =>
 (some V.any).bind fun v14 =>
 (V.cellsO v7).bind fun v15 =>
 (setV (V.obj v2) [] (Stp.mk none 1 0) 1 v15).bind fun v16 =>
 (some V.any).bind fun v17 =>
 (some V.any).bind fun v18 =>
 (V.cellsO v12).bind fun v19 =>
 (setV v16 [] (Stp.mk none 2 0) 1 v19).bind fun v20 =>
 (some V.any).bind fun v21 =>
 ((nodeL v20 none 0).bind fun l22 => (ldk none (List.drop 3 l22)).bind pureO).bind fun v23 =>
 (lenS [v23]).bind fun v24 =>
 (makeN 1 [(V.sl [])] v24 v24).bind fun v25 =>
 (some V.any).bind fun v26 =>
 ((nodeL v20 none 0).bind fun l27 => (ldk none (List.drop 3 l27)).bind pureO).bind fun v28 =>
 (lenS [v28]).bind fun v29 =>
 JoinPt (fun vs30 =>
 (some V.any).bind fun v32 =>
 (V.cellsO (List.getD vs30 0 V.any)).bind fun v33 =>
 (setV v20 [] (Stp.mk none 3 0) 1 v33).bind fun v34 =>
 (wholeO Tryz.prog 28 v34).bind fun v35 =>
 (V.cellsO v35).bind fun v36 =>
 (setV (V.obj [(vi 0), (V.sl []), (V.sl []), (V.sl [])]) [] (Stp.mk none 0 0) 4 v36).bind fun v37 =>
 (wholeO Tryz.prog 28 v37).bind fun v38 =>
 some (V.tup [v38, V.any])) fun J31 =>
 (keepT (some v20) (some v20) (keepT (some (V.obj [(vi 0), (V.sl []), (V.sl []), (V.sl [])])) (some (V.obj [(vi 0), (V.sl []), (V.sl []), (V.sl [])])) (some [v25, (vi 0)]))).bind (fixN (fun rec39 vs40 =>
 (bin2 Tryz.prog BinOp.lss 3 (ot 25) (ot 24) (List.getD vs40 1 V.any) v29).bind fun v41 =>
 condV v41 (
 (idxS 1 v28 (List.getD vs40 1 V.any)).bind fun v42 =>
 (ldp none v42).bind fun v43 =>
 ((semClone 6) [v43]).bind fun v44 =>
 ((oslR (List.getD vs40 0 V.any)).bind fun rows45 => inB (List.length rows45) (List.getD vs40 1 V.any)).bind fun v46 =>
 (V.cellsO v44).bind fun v47 =>
 (setV (List.getD vs40 0 V.any) [] (Stp.mk (some (natOf (List.getD vs40 1 V.any))) 0 1) 1 v47).bind fun v48 =>
 (bin2 Tryz.prog BinOp.add 3 (ot 25) (oc 1) (List.getD vs40 1 V.any) (vi 1)).bind fun v49 =>
 (keepT (some v20) (some v20) (keepT (some (V.obj [(vi 0), (V.sl []), (V.sl []), (V.sl [])])) (some (V.obj [(vi 0), (V.sl []), (V.sl []), (V.sl [])])) (some [v48, v49]))).bind rec39) (
 (keepT (some v20) (some v20) (keepT (some (V.obj [(vi 0), (V.sl []), (V.sl []), (V.sl [])])) (some (V.obj [(vi 0), (V.sl []), (V.sl []), (V.sl [])])) (some [(List.getD vs40 0 V.any)]))).bind J31)) n) := by kernel_rfl
noncomputable def t_change_Own (a0 : T_Net) : Option T_Net :=
 (cln a0.Topo.Links).bind fun r7 =>
 (cln a0.Topo.Hosts).bind fun r12 =>
 (omake (List.length a0.Tables : Int) (List.length a0.Tables : Int) []).bind fun r25 =>
 (loopI a0.Tables (fun (i46 : Int) x47 (s42 : (List (List T_Rule))) k43 =>
 (cln x47).bind fun r55 =>
 need (decide (0 ≤ i46) && decide (i46 < (List.length s42 : Int))) (
 (oset s42 i46 r55).bind fun r60 =>
 k43 (r60))) (fun (s42 : (List (List T_Rule))) =>
 some (s42)) (r25)).bind fun (s31 : (List (List T_Rule))) =>
 some (T_Net.mk (T_Topo.mk a0.Topo.Switches r7 r12) s31)
theorem ty_change_Own {n : Nat} (hn : bigN ≤ n) (a0 : T_Net) : Rv (fun x : T_Net => (V.tup [(V.agg [(vi x.Topo.Switches), (V.sl (List.map T_Link.c x.Topo.Links)), (V.sl (List.map T_Host.c x.Topo.Hosts)), (V.osl 1 (List.map (cS T_Rule.c) x.Tables))]), V.any])) (sem_change_Own n [(T_Net.e a0)]) (t_change_Own a0) := by
 rw [eq_change_Own]
 unfold t_change_Own; refine tq (T_Net.e a0) rfl ?_; refine tq (T_Net.c a0) rfl ?_; refine tq V.any rfl ?_; refine tq V.any rfl ?_; refine tq (V.sl (List.map T_Link.c a0.Topo.Links)) (rfl) ?_; refine tbo (p_clone (c := T_Link.c) (fun _ => rfl) a0.Topo.Links) fun r7 => ?_; refine tq V.any rfl ?_; refine tq V.any rfl ?_; refine tq (V.sl (List.map T_Host.c a0.Topo.Hosts)) (rfl) ?_; refine tbo (p_clone (c := T_Host.c) (fun _ => rfl) a0.Topo.Hosts) fun r12 => ?_; refine tq V.any rfl ?_; refine tq V.any rfl ?_; refine tq [(V.sl (List.map T_Link.c r7))] rfl ?_; refine tq (V.obj (T_Net.c (T_Net.mk (T_Topo.mk a0.Topo.Switches r7 a0.Topo.Hosts) a0.Tables))) (by kernel_rfl) ?_; refine tq V.any rfl ?_; refine tq V.any rfl ?_; refine tq [(V.sl (List.map T_Host.c r12))] rfl ?_; refine tq (V.obj (T_Net.c (T_Net.mk (T_Topo.mk a0.Topo.Switches r7 r12) a0.Tables))) (by kernel_rfl) ?_; refine tq V.any rfl ?_; refine tq (V.sl (List.map (cS T_Rule.c) a0.Tables)) (rfl) ?_; refine tq (vi (List.length a0.Tables : Int)) (p_len _) ?_; refine tbo (p_omake (c := (cS T_Rule.c)) (List.length a0.Tables : Int) (List.length a0.Tables : Int) [] rfl) fun r25 => ?_; refine tq V.any rfl ?_; refine tq (V.sl (List.map (cS T_Rule.c) a0.Tables)) (rfl) ?_; refine tq (vi (List.length a0.Tables : Int)) (p_len _) ?_; refine tjb (mk := fun s31 : (List (List T_Rule)) => [(V.osl 1 (List.map (cS T_Rule.c) s31))]) (fun J30 => ?_) fun s31 => ?_
 ·refine tkeepT2 ?_ rfl; refine tkeepT2 ?_ rfl; refine tsome ?_; refine rf_loopI (mk := fun (i46 : Int) (s42 : (List (List T_Rule))) => [(V.osl 1 (List.map (cS T_Rule.c) s42)), (vi (i46 : Int))]) hn a0.Tables (r25) (fun i46 x47 h48 h49 h50 s42 rec40 k43 h44 => ?_) (fun s42 rec64 h63 => ?_)
  ·refine tq (vb (decide ((i46 : Int) < (List.length a0.Tables : Int)))) (d_lss) ?_; refine tcond_t h50 ?_; refine tq (V.ptr [(V.sl (List.map T_Rule.c x47))]) (p_idx_at (c := (cS T_Rule.c)) (fun _ => rfl) h48) ?_; refine tq (V.sl (List.map T_Rule.c x47)) (rfl) ?_; refine tbo (p_clone (c := T_Rule.c) (fun _ => rfl) x47) fun r55 => ?_; refine tneed (x := V.any) (fun h62 => p_inB s42 (i46 : Int) h62) fun h62 => ?_; refine tq ((cS T_Rule.c) r55) rfl ?_; refine tbo (p_oset (c := (cS T_Rule.c)) (fun _ => rfl) s42 (i46 : Int) r55) fun r60 => ?_; refine tq (vi ((i46 : Int) + 1)) (p_incN h49) ?_; refine tkeepT2 ?_ rfl; refine tkeepT2 ?_ rfl; refine tsome ?_; exact h44 (r60)
  ·refine tq (vb (decide ((List.length a0.Tables : Int) < (List.length a0.Tables : Int)))) (d_lss) ?_; refine tcond_f h63 ?_; refine tkeepT2 ?_ rfl; refine tkeepT2 ?_ rfl; refine tsome ?_; exact rf_j rfl
 ·refine tq V.any rfl ?_; refine tq [(V.osl 1 (List.map (cS T_Rule.c) s31))] rfl ?_; refine tq (V.obj [(vi a0.Topo.Switches), (V.sl (List.map T_Link.c r7)), (V.sl (List.map T_Host.c r12)), (V.osl 1 (List.map (cS T_Rule.c) s31))]) (by kernel_rfl) ?_; refine tq (V.agg [(vi a0.Topo.Switches), (V.sl (List.map T_Link.c r7)), (V.sl (List.map T_Host.c r12)), (V.osl 1 (List.map (cS T_Rule.c) s31))]) (by kernel_rfl) ?_; refine tq [(vi a0.Topo.Switches), (V.sl (List.map T_Link.c r7)), (V.sl (List.map T_Host.c r12)), (V.osl 1 (List.map (cS T_Rule.c) s31))] rfl ?_; refine tq (V.obj [(vi a0.Topo.Switches), (V.sl (List.map T_Link.c r7)), (V.sl (List.map T_Host.c r12)), (V.osl 1 (List.map (cS T_Rule.c) s31))]) (by kernel_rfl) ?_; refine tq (V.agg [(vi a0.Topo.Switches), (V.sl (List.map T_Link.c r7)), (V.sl (List.map T_Host.c r12)), (V.osl 1 (List.map (cS T_Rule.c) s31))]) (by kernel_rfl) ?_; exact rf_ret rfl
def an_change_Apply : Ann := .seq (.reg 0 [] [] [2]) (.seq (.seq (.reg 0 [] [] []) (.seq (.reg 0 [] [] []) (.cond none (.seq (.reg 0 [] [] []) (.no)) (.no)))) (.seq (.seq (.reg 0 [] [] []) (.cond none (.seq (.reg 0 [] [] []) (.no)) (.no))) (.seq (.reg 0 [] [] [23]) (.seq (.seq (.reg 0 [] [] []) (.blk (some [.o 2, .b 4]) (.loop [.o 2, .b 4, .s 26] (.seq (.reg 0 [] [] []) (.seq (.cond none (.no) (.no)) (.seq (.blk none (.seq (.reg 0 [] [] []) (.seq (.seq (.reg 0 [] [] []) (.cond none (.seq (.reg 0 [] [] []) (.no)) (.no))) (.seq (.reg 17 [] [] [45]) (.seq (.seq (.reg 0 [] [] []) (.cond none (.seq (.reg 0 [] [] []) (.no)) (.no))) (.reg 0 [] [] [63])))))) (.reg 0 [] [] []))))))) (.seq (.reg 0 [2] [] []) (.no))))))
noncomputable def sem_change_Apply (n : Nat) (xs : List V) : Option V := if xs.length ≤ 71 then denF Tryz.prog (envOf [(19, (sem_net_Check n)), (20 + 1000000, (sem_change_Own n)), (21, (sem_Do n))]) n Tryz.f5 an_change_Apply xs else none
theorem ok_change_Apply (n : Nat) : SemOk Tryz.prog DW 5 (sem_change_Apply n) := fun xs y h => by
 unfold sem_change_Apply at h
 split at h
 ·rename_i hl
  exact denF_ok stb Tryz.func5 (by kernel_rfl) (envOf_ok (semsOk_cons (ok_net_Check n) (semsOk_consM (ok_change_Own n) (semsOk_cons (ok_Do n) semsOk_nil)))) (by rw [Tryz.ntmps5]; exact hl) h
 ·cases h
theorem eq_change_Apply (n : Nat) (x0 x1 : V) : sem_change_Apply n [x0, x1] =
 (V.cellsO x0).bind fun v1 =>
 ((nodeL (V.obj v1) none 0).bind fun l2 => (ldk (some 4) (List.drop 0 l2)).bind pureO).bind fun v3 =>
 ((sem_net_Check n) [v3]).bind fun v4 =>
 (bin2 Tryz.prog BinOp.neq 32 (ot 13) (Operand.const Go.Value.nilIface) v4 vn).bind fun v5 =>
 condV v5 (
 ((fillL [(vi 0), (V.sl []), (V.sl []), (V.sl [])] []).map V.agg).bind fun v6 =>
 (spliceV [(vi 0), (V.sl []), (V.sl []), (V.sl [])] 0 4 v6).bind fun v7 =>
 (ldk (some 4) (List.drop 0 (aggL v7))).bind fun v8 =>
 some (V.tup [v8, v4])) (
 (lenS [x1]).bind fun v9 =>
 (bin2 Tryz.prog BinOp.gtr 3 (ot 18) (oc 200) v9 (vi 200)).bind fun v10 =>
 condV v10 (
 ((fillL [(vi 0), (V.sl []), (V.sl []), (V.sl [])] []).map V.agg).bind fun v11 =>
 (scal1 Tryz.prog (Instr.makeInterface 81) (vi 4)).bind fun v12 =>
 (spliceV [(vi 0), (V.sl []), (V.sl []), (V.sl [])] 0 4 v11).bind fun v13 =>
 (ldk (some 4) (List.drop 0 (aggL v13))).bind fun v14 =>
 some (V.tup [v14, v12])) (
 ((nodeL (V.obj v1) none 0).bind fun l15 => (ldk (some 4) (List.drop 0 l15)).bind pureO).bind fun v16 =>
 ((sem_change_Own n) [v16]).bind fun z17 =>
 (V.cellsO (tupAt z17 0)).bind fun v18 =>
 (setV (V.obj v1) [] (Stp.mk none 0 0) 4 v18).bind fun v19 =>
 (lenS [x1]).bind fun v20 =>
 JoinPt (fun vs21 =>
 (some (frzP (List.getD vs21 0 V.any))).bind fun v23 =>
 (ldp (some 4) v23).bind fun v24 =>
 (spliceV (aggL (List.getD vs21 1 V.any)) 0 4 v24).bind fun v25 =>
 (ldk (some 4) (List.drop 0 (aggL v25))).bind fun v26 =>
 some (V.tup [v26, vn])) fun J22 =>
 (fixN (fun rec27 vs28 =>
 (bin2 Tryz.prog BinOp.lss 3 (ot 26) (ot 25) (List.getD vs28 2 V.any) v20).bind fun v29 =>
 condV v29 (
 (idxS 8 x1 (List.getD vs28 2 V.any)).bind fun v30 =>
 (ldp (some 8) v30).bind fun v31 =>
 (spliceV [(vi 0), (vb false), (vi 0), (vi 0), (vi 0), (vi 0), (vi 0), (vi 0)] 0 8 v31).bind fun v32 =>
 (ldk none (List.drop 0 (aggL v32))).bind fun v33 =>
 (bin2 Tryz.prog BinOp.lss 3 (ot 31) (oc 1) v33 (vi 1)).bind fun v34 =>
 (guardV v34 false (some V.any)).bind fun v35 =>
 (guardV v34 false ((gate v34 false (ldk none (List.drop 0 (aggL v32)))).bind fun v36 =>
 some v36)).bind fun v37 =>
 (guardV v34 false (some V.any)).bind fun v38 =>
 (guardV v34 false (gate v34 false (some V.any))).bind fun v39 =>
 (guardV v34 false ((gate v34 false (gate v34 false ((nodeL (List.getD vs28 0 V.any) none 0).bind fun l40 => (ldk none (List.drop 0 l40)).bind pureO))).bind fun v41 =>
 some v41)).bind fun v42 =>
 (guardV v34 false ((bin2 Tryz.prog BinOp.gtr 3 (ot 35) (ot 38) v37 v42).bind fun v43 =>
 some v43)).bind fun v44 =>
 (pickV v34 (vb true) v44).bind fun v45 =>
 condV v45 (
 ((fillL [(vi 0), (V.sl []), (V.sl []), (V.sl [])] []).map V.agg).bind fun v46 =>
 (scal1 Tryz.prog (Instr.makeInterface 81) (vi 1)).bind fun v47 =>
 (spliceV (aggL (List.getD vs28 1 V.any)) 0 4 v46).bind fun v48 =>
 (ldk (some 4) (List.drop 0 (aggL v48))).bind fun v49 =>
 some (V.tup [v49, v47])) (
 (some V.any).bind fun v50 =>
 ((nodeL (List.getD vs28 0 V.any) none 0).bind fun l51 => (l51[3]?).bind ownO).bind fun v52 =>
 (ldk none (List.drop 0 (aggL v32))).bind fun v53 =>
 (bin2 Tryz.prog BinOp.sub 3 (ot 47) (oc 1) v53 (vi 1)).bind fun v54 =>
 (((getV (List.getD vs28 0 V.any) [(Stp.mk none 3 0)]).bind oslR).bind fun rows55 => inB (List.length rows55) v54).bind fun v56 =>
 (((getV (List.getD vs28 0 V.any) [(Stp.mk none 3 0)]).bind fun y => nodeL y (some (natOf v54)) 1).bind fun l57 => (ldk none (List.drop 0 l57)).bind pureO).bind fun v58 =>
 (ldk none (List.drop 1 (aggL v32))).bind fun v59 =>
 (ldk (some 6) (List.drop 2 (aggL v32))).bind fun v60 =>
 ((sem_Do n) [v58, v59, v60]).bind fun v61 =>
 (extractV v61 0).bind fun v62 =>
 (extractV v61 1).bind fun v63 =>
 (bin2 Tryz.prog BinOp.neq 32 (ot 58) (Operand.const Go.Value.nilIface) v63 vn).bind fun v64 =>
 condV v64 (
 ((fillL [(vi 0), (V.sl []), (V.sl []), (V.sl [])] []).map V.agg).bind fun v65 =>
 (spliceV (aggL (List.getD vs28 1 V.any)) 0 4 v65).bind fun v66 =>
 (ldk (some 4) (List.drop 0 (aggL v66))).bind fun v67 =>
 some (V.tup [v67, v63])) (
 (some V.any).bind fun v68 =>
 ((nodeL (List.getD vs28 0 V.any) none 0).bind fun l69 => (l69[3]?).bind ownO).bind fun v70 =>
 (ldk none (List.drop 0 (aggL v32))).bind fun v71 =>
 (bin2 Tryz.prog BinOp.sub 3 (ot 65) (oc 1) v71 (vi 1)).bind fun v72 =>
 (((getV (List.getD vs28 0 V.any) [(Stp.mk none 3 0)]).bind oslR).bind fun rows73 => inB (List.length rows73) v72).bind fun v74 =>
 (V.cellsO v62).bind fun v75 =>
 (setV (List.getD vs28 0 V.any) [(Stp.mk none 3 0)] (Stp.mk (some (natOf v72)) 0 1) 1 v75).bind fun v76 =>
 (bin2 Tryz.prog BinOp.add 3 (ot 26) (oc 1) (List.getD vs28 2 V.any) (vi 1)).bind fun v77 =>
 rec27 [v76, (V.agg (aggL (List.getD vs28 1 V.any))), v77]))) (
 J22 [(List.getD vs28 0 V.any), (V.agg (aggL (List.getD vs28 1 V.any)))])) n) [v19, (V.agg [(vi 0), (V.sl []), (V.sl []), (V.sl [])]), (vi 0)])) := by kernel_rfl
noncomputable def t_change_Apply (a0 : T_Net) (a1 : (List T_Op)) : Option (T_Net × Int) :=
 (t_net_Check a0).bind fun r4 =>
 if (!decide (r4 = 0)) = true then (
 some ((T_Net.mk (T_Topo.mk 0 [] []) []), r4)) else (
 if (decide (200 < (List.length a1 : Int))) = true then (
 some ((T_Net.mk (T_Topo.mk 0 [] []) []), 4)) else (
 (t_change_Own a0).bind fun r19 =>
 join (fun (s25 : (T_Net × T_Net)) =>
 some (s25.1, 0)) fun j26 =>
 loopI a1 (fun (i38 : Int) x39 (s34 : T_Net) k35 =>
 if ((decide (x39.Switch < 1)) || (decide (s34.Topo.Switches < x39.Switch))) = true then (
 some ((T_Net.mk (T_Topo.mk 0 [] []) []), 1)) else (
 need (decide (0 ≤ (wr (x39.Switch - 1))) && decide ((wr (x39.Switch - 1)) < (List.length s34.Tables : Int))) (
 (idx s34.Tables (wr (x39.Switch - 1))).bind fun r75 =>
 (t_table_Do r75 x39.Add x39.Rule).bind fun r80 =>
 if (!decide (r80.2 = 0)) = true then (
 some ((T_Net.mk (T_Topo.mk 0 [] []) []), r80.2)) else (
 need (decide (0 ≤ (wr (x39.Switch - 1))) && decide ((wr (x39.Switch - 1)) < (List.length s34.Tables : Int))) (
 (oset s34.Tables (wr (x39.Switch - 1)) r80.1).bind fun r94 =>
 k35 (T_Net.mk s34.Topo r94)))))) (fun (s34 : T_Net) =>
 j26 (s34, (T_Net.mk (T_Topo.mk 0 [] []) []))) (r19)))
theorem ty_change_Apply {n : Nat} (hn : bigN ≤ n) (a0 : T_Net) (a1 : (List T_Op)) : Rv (fun x : (T_Net × Int) => V.tup [(T_Net.e x.1), (eV x.2)]) (sem_change_Apply n [(T_Net.e a0), (V.sl (List.map T_Op.c a1))]) (t_change_Apply a0 a1) := by
 rw [eq_change_Apply]
 unfold t_change_Apply; refine tq (T_Net.c a0) rfl ?_; refine tq (T_Net.e a0) (rfl) ?_; refine tbo (ty_net_Check hn a0) fun r4 => ?_; refine tq (vb (!decide (r4 = 0))) (p_err_neq _) ?_; refine tcond (fun h6 => ?_) (fun h6 => ?_)
 ·refine tq (T_Net.e (T_Net.mk (T_Topo.mk 0 [] []) [])) (by kernel_rfl) ?_; refine tq (V.agg (T_Net.c (T_Net.mk (T_Topo.mk 0 [] []) []))) (by kernel_rfl) ?_; refine tq (T_Net.e (T_Net.mk (T_Topo.mk 0 [] []) [])) rfl ?_; exact rf_ret rfl
 ·refine tq (vi (List.length a1 : Int)) (p_len _) ?_; refine tq (vb (decide (200 < (List.length a1 : Int)))) (d_gtr) ?_; refine tcond (fun h12 => ?_) (fun h12 => ?_)
  ·refine tq (T_Net.e (T_Net.mk (T_Topo.mk 0 [] []) [])) (by kernel_rfl) ?_; refine tq (eV 4) (p_mkE (by decide)) ?_; refine tq (V.agg (T_Net.c (T_Net.mk (T_Topo.mk 0 [] []) []))) (by kernel_rfl) ?_; refine tq (T_Net.e (T_Net.mk (T_Topo.mk 0 [] []) [])) rfl ?_; exact rf_ret rfl
  ·refine tq (T_Net.e a0) (rfl) ?_; refine tbo (ty_change_Own hn a0) fun r19 => ?_; refine tq [(vi r19.Topo.Switches), (V.sl (List.map T_Link.c r19.Topo.Links)), (V.sl (List.map T_Host.c r19.Topo.Hosts)), (V.osl 1 (List.map (cS T_Rule.c) r19.Tables))] rfl ?_; refine tq (V.obj [(vi r19.Topo.Switches), (V.sl (List.map T_Link.c r19.Topo.Links)), (V.sl (List.map T_Host.c r19.Topo.Hosts)), (V.osl 1 (List.map (cS T_Rule.c) r19.Tables))]) (by kernel_rfl) ?_; refine tq (vi (List.length a1 : Int)) (p_len _) ?_; refine tjoin (mk := fun s25 : (T_Net × T_Net) => [(V.obj [(vi s25.1.Topo.Switches), (V.sl (List.map T_Link.c s25.1.Topo.Links)), (V.sl (List.map T_Host.c s25.1.Topo.Hosts)), (V.osl 1 (List.map (cS T_Rule.c) s25.1.Tables))]), (V.agg (T_Net.c s25.2))]) (fun s25 => ?_) fun J24 j26 h27 => ?_
   ·refine tq (V.ptr (T_Net.c s25.1)) (p_frzP (p_fzc rfl (p_fzc rfl (p_fzc rfl (p_fzc (p_frzl (c' := (cS T_Rule.c)) (fun _ => rfl) _) p_fz0))))) ?_; refine tq (T_Net.e s25.1) (rfl) ?_; refine tq (V.agg (T_Net.c s25.1)) (by kernel_rfl) ?_; refine tq (T_Net.e s25.1) rfl ?_; exact rf_ret rfl
   ·refine rf_loopI (mk := fun (i38 : Int) (s34 : T_Net) => [(V.obj [(vi s34.Topo.Switches), (V.sl (List.map T_Link.c s34.Topo.Links)), (V.sl (List.map T_Host.c s34.Topo.Hosts)), (V.osl 1 (List.map (cS T_Rule.c) s34.Tables))]), (V.agg (T_Net.c (T_Net.mk (T_Topo.mk 0 [] []) []))), (vi (i38 : Int))]) hn a1 (r19) (fun i38 x39 h40 h41 h42 s34 rec32 k35 h36 => ?_) (fun s34 rec97 h96 => ?_)
    ·refine tq (vb (decide ((i38 : Int) < (List.length a1 : Int)))) (d_lss) ?_; refine tcond_t h42 ?_; refine tq (V.ptr (T_Op.c x39)) (p_idx_at (c := T_Op.c) (fun _ => rfl) h40) ?_; refine tq (T_Op.e x39) (rfl) ?_; refine tq (V.agg (T_Op.c x39)) (by kernel_rfl) ?_; refine tq (vi x39.Switch) (rfl) ?_; refine tq (vb (decide (x39.Switch < 1))) (d_lss) ?_; refine tg_f (x := V.any) (fun h49 => rfl) ?_; refine tg_f (x := (vi x39.Switch)) (fun h51 => bind_some_eq (gate_pos (not_t h51) (rfl))) ?_; refine tg_f (x := V.any) (fun h54 => rfl) ?_; refine tg_f (x := V.any) (fun h56 => by first | exact gate_pos (not_t h56) (rfl) | (simp only [gv_t h56]; exact gate_pos (not_t h56) (rfl))) ?_; refine tg_f (x := (vi s34.Topo.Switches)) (fun h58 => by first | exact bind_some_eq (gate_pos (not_t h58) (gate_pos (not_t h58) (rfl))) | (simp only [gv_t h58]; exact bind_some_eq (gate_pos (not_t h58) (gate_pos (not_t h58) (rfl))))) ?_; refine tg_f (x := (vb (decide (s34.Topo.Switches < x39.Switch)))) (fun h61 => by simp only [gv_t h61]; exact bind_some_eq (d_gtr)) ?_; refine tq (vb ((decide (x39.Switch < 1)) || (decide (s34.Topo.Switches < x39.Switch)))) (pick_or (fun h9 => gv_t (not_f h9))) ?_; refine tcond (fun h65 => ?_) (fun h65 => ?_)
     ·refine tq (T_Net.e (T_Net.mk (T_Topo.mk 0 [] []) [])) (by kernel_rfl) ?_; refine tq (eV 1) (p_mkE (by decide)) ?_; refine tq (V.agg (T_Net.c (T_Net.mk (T_Topo.mk 0 [] []) []))) (by kernel_rfl) ?_; refine tq (T_Net.e (T_Net.mk (T_Topo.mk 0 [] []) [])) rfl ?_; exact rf_ret rfl
     ·refine tq V.any rfl ?_; refine tq V.any rfl ?_; refine tq (vi x39.Switch) (rfl) ?_; refine tq (vi (wr (x39.Switch - 1))) (d_sub) ?_; refine p_asc ?_; refine p_asc ?_; refine p_inF (y := (V.osl 1 (List.map (cS T_Rule.c) s34.Tables))) rfl ?_; refine p_in0 ?_; refine p_cas ?_; refine tneed (x := V.any) (fun h74 => p_inB (c := (cS T_Rule.c)) (k := 1) s34.Tables (wr (x39.Switch - 1)) h74) fun h74 => ?_; refine p_asc ?_; refine p_asc ?_; refine p_inF (y := (V.osl 1 (List.map (cS T_Rule.c) s34.Tables))) rfl ?_; refine p_in0 ?_; refine p_cas ?_; refine tbo (p_oload (e1 := fun x : (List T_Rule) => (V.sl (List.map T_Rule.c x))) (c := (cS T_Rule.c)) (fun _ => rfl) s34.Tables (wr (x39.Switch - 1)) (fun _ => rfl)) fun r75 => ?_; refine tq (vb x39.Add) (rfl) ?_; refine tq (T_Rule.e x39.Rule) (rfl) ?_; refine tbo (ty_table_Do r75 x39.Add x39.Rule) fun r80 => ?_; refine tq (V.sl (List.map T_Rule.c r80.1)) (rfl) ?_; refine tq (eV r80.2) (rfl) ?_; refine tq (vb (!decide (r80.2 = 0))) (p_err_neq _) ?_; refine tcond (fun h84 => ?_) (fun h84 => ?_)
      ·refine tq (T_Net.e (T_Net.mk (T_Topo.mk 0 [] []) [])) (by kernel_rfl) ?_; refine tq (V.agg (T_Net.c (T_Net.mk (T_Topo.mk 0 [] []) []))) (by kernel_rfl) ?_; refine tq (T_Net.e (T_Net.mk (T_Topo.mk 0 [] []) [])) rfl ?_; exact rf_ret rfl
      ·refine tq V.any rfl ?_; refine tq V.any rfl ?_; refine tq (vi x39.Switch) (rfl) ?_; refine tq (vi (wr (x39.Switch - 1))) (d_sub) ?_; refine p_asc ?_; refine p_asc ?_; refine p_inF (y := (V.osl 1 (List.map (cS T_Rule.c) s34.Tables))) rfl ?_; refine p_in0 ?_; refine p_cas ?_; refine tneed (x := V.any) (fun h92 => p_inB (c := (cS T_Rule.c)) (k := 1) s34.Tables (wr (x39.Switch - 1)) h92) fun h92 => ?_; refine tq ((cS T_Rule.c) r80.1) rfl ?_; refine tbo (p_setF (e1 := fun a => (V.osl 1 (List.map (cS T_Rule.c) a))) (y := (V.osl 1 (List.map (cS T_Rule.c) s34.Tables))) rfl (p_oset (c := (cS T_Rule.c)) (fun _ => rfl) s34.Tables (wr (x39.Switch - 1)) r80.1)) fun r94 => ?_; refine tq (vi ((i38 : Int) + 1)) (p_incN h41) ?_; exact h36 (T_Net.mk s34.Topo r94)
    ·refine tq (vb (decide ((List.length a1 : Int) < (List.length a1 : Int)))) (d_lss) ?_; refine tcond_f h96 ?_; exact h27 (s34, (T_Net.mk (T_Topo.mk 0 [] []) []))
def an_slices_IndexFunc_api_Round_api_Round : Ann := .seq (.reg 0 [] [] []) (.seq (.seq (.reg 0 [] [] []) (.blk (some []) (.loop [.s 8] (.seq (.reg 0 [] [] []) (.seq (.cond none (.no) (.no)) (.seq (.blk none (.seq (.reg 0 [] [] []) (.seq (.reg 0 [] [] []) (.cond none (.seq (.reg 0 [] [] []) (.no)) (.no))))) (.reg 0 [] [] []))))))) (.seq (.reg 0 [] [] []) (.no)))
noncomputable def sem_slices_IndexFunc_api_Round_api_Round (E : FuncId → List V → Option V) (n : Nat) (xs : List V) : Option V := if xs.length ≤ 19 then denF Tryz.prog (envJ [] E) n Tryz.f54 an_slices_IndexFunc_api_Round_api_Round xs else none
theorem ok_slices_IndexFunc_api_Round_api_Round {E : FuncId → List V → Option V} (hE : EnvOk Tryz.prog DW E) (n : Nat) : SemOk Tryz.prog DW 54 (sem_slices_IndexFunc_api_Round_api_Round E n) := fun xs y h => by
 unfold sem_slices_IndexFunc_api_Round_api_Round at h
 split at h
 ·rename_i hl
  exact denF_ok stb Tryz.func54 (by kernel_rfl) (envJ_ok semsOk_nil hE) (by rw [Tryz.ntmps54]; exact hl) h
 ·cases h
theorem eq_slices_IndexFunc_api_Round_api_Round (E : FuncId → List V → Option V) (n : Nat) (x0 x1 : V) : sem_slices_IndexFunc_api_Round_api_Round E n [x0, x1] =
 (lenS [x0]).bind fun v1 =>
 JoinPt (fun vs2 =>
 some (vi (-1 : Int))) fun J3 =>
 (fixN (fun rec4 vs5 =>
 (bin2 Tryz.prog BinOp.lss 3 (ot 8) (ot 7) (List.getD vs5 0 V.any) v1).bind fun v6 =>
 condV v6 (
 (idxS 1 x0 (List.getD vs5 0 V.any)).bind fun v7 =>
 (ldp none v7).bind fun v8 =>
 (callV (envJ [] E) x1 [v8]).bind fun v9 =>
 condV v9 (
 some (List.getD vs5 0 V.any)) (
 (bin2 Tryz.prog BinOp.add 3 (ot 8) (oc 1) (List.getD vs5 0 V.any) (vi 1)).bind fun v10 =>
 rec4 [v10])) (
 J3 [])) n) [(vi 0)] := by kernel_rfl
noncomputable def t_slices_IndexFunc_api_Round_api_Round (a0 : (List (List T_Op))) (g1 : (List T_Op) → Option Bool) : Option Int :=
 join (fun (s4 : Unit) =>
 some (-1 : Int)) fun j5 =>
 loopI a0 (fun (i13 : Int) x14 (s9 : Unit) k10 =>
 (g1 x14).bind fun r22 =>
 if r22 = true then (
 some i13) else (
 k10 ())) (fun (s9 : Unit) =>
 j5 ()) ()
theorem ty_slices_IndexFunc_api_Round_api_Round {E : FuncId → List V → Option V} {n : Nat} (hn : bigN ≤ n) (a0 : (List (List T_Op))) {x1 : V} {g1 : (List T_Op) → Option Bool} (hg_g1 : ∀ a0, Rv (fun x : Bool => (vb x)) (callV E x1 [(V.sl (List.map T_Op.c a0))]) (g1 a0)) : Rv (fun x : Int => (vi x)) (sem_slices_IndexFunc_api_Round_api_Round E n [(V.sl (List.map (cS T_Op.c) a0)), x1]) (t_slices_IndexFunc_api_Round_api_Round a0 g1) := by
 rw [eq_slices_IndexFunc_api_Round_api_Round]
 unfold t_slices_IndexFunc_api_Round_api_Round; refine tq (vi (List.length a0 : Int)) (p_len _) ?_; refine tjoin (mk := fun s4 : Unit => []) (fun s4 => ?_) fun J3 j5 h6 => ?_
 ·exact rf_ret rfl
 ·refine rf_loopI (mk := fun (i13 : Int) (s9 : Unit) => [(vi (i13 : Int))]) hn a0 () (fun i13 x14 h15 h16 h17 s9 rec7 k10 h11 => ?_) (fun s9 rec26 h25 => ?_)
  ·refine tq (vb (decide ((i13 : Int) < (List.length a0 : Int)))) (d_lss) ?_; refine tcond_t h17 ?_; refine tq (V.ptr [(V.sl (List.map T_Op.c x14))]) (p_idx_at (c := (cS T_Op.c)) (fun _ => rfl) h15) ?_; refine tq (V.sl (List.map T_Op.c x14)) (rfl) ?_; refine tbo ((callV_J0 ▸ hg_g1 x14)) fun r22 => ?_; refine tcond (fun h23 => ?_) (fun h23 => ?_)
   ·exact rf_ret rfl
   ·refine tq (vi ((i13 : Int) + 1)) (p_incN h16) ?_; exact h11 ()
  ·refine tq (vb (decide ((List.length a0 : Int) < (List.length a0 : Int)))) (d_lss) ?_; refine tcond_f h25 ?_; exact h6 ()
def an_slices_ContainsFunc_api_Round_api_Round : Ann := .seq (.reg 0 [] [] []) (.seq (.reg 0 [] [] []) (.no))
noncomputable def sem_slices_ContainsFunc_api_Round_api_Round (E : FuncId → List V → Option V) (n : Nat) (xs : List V) : Option V := if xs.length ≤ 9 then denF Tryz.prog (envJ [(54, (sem_slices_IndexFunc_api_Round_api_Round E n))] E) n Tryz.f22 an_slices_ContainsFunc_api_Round_api_Round xs else none
theorem ok_slices_ContainsFunc_api_Round_api_Round {E : FuncId → List V → Option V} (hE : EnvOk Tryz.prog DW E) (n : Nat) : SemOk Tryz.prog DW 22 (sem_slices_ContainsFunc_api_Round_api_Round E n) := fun xs y h => by
 unfold sem_slices_ContainsFunc_api_Round_api_Round at h
 split at h
 ·rename_i hl
  exact denF_ok stb Tryz.func22 (by kernel_rfl) (envJ_ok (semsOk_cons (ok_slices_IndexFunc_api_Round_api_Round hE n) semsOk_nil) hE) (by rw [Tryz.ntmps22]; exact hl) h
 ·cases h
theorem eq_slices_ContainsFunc_api_Round_api_Round (E : FuncId → List V → Option V) (n : Nat) (x0 x1 : V) : sem_slices_ContainsFunc_api_Round_api_Round E n [x0, x1] =
 ((sem_slices_IndexFunc_api_Round_api_Round E n) [x0, x1]).bind fun v1 =>
 (bin2 Tryz.prog BinOp.geq 3 (ot 7) (oc 0) v1 (vi 0)).bind fun v2 =>
 some v2 := by kernel_rfl
noncomputable def t_slices_ContainsFunc_api_Round_api_Round (a0 : (List (List T_Op))) (g1 : (List T_Op) → Option Bool) : Option Bool :=
 (t_slices_IndexFunc_api_Round_api_Round a0 g1).bind fun r2 =>
 some (decide (0 ≤ r2))
theorem ty_slices_ContainsFunc_api_Round_api_Round {E : FuncId → List V → Option V} {n : Nat} (hn : bigN ≤ n) (a0 : (List (List T_Op))) {x1 : V} {g1 : (List T_Op) → Option Bool} (hg_g1 : ∀ a0, Rv (fun x : Bool => (vb x)) (callV E x1 [(V.sl (List.map T_Op.c a0))]) (g1 a0)) : Rv (fun x : Bool => (vb x)) (sem_slices_ContainsFunc_api_Round_api_Round E n [(V.sl (List.map (cS T_Op.c) a0)), x1]) (t_slices_ContainsFunc_api_Round_api_Round a0 g1) := by
 rw [eq_slices_ContainsFunc_api_Round_api_Round]
 unfold t_slices_ContainsFunc_api_Round_api_Round; refine tbo (ty_slices_IndexFunc_api_Round_api_Round (E := E) (x1 := x1) (g1 := g1) hn a0 hg_g1) fun r2 => ?_; refine tq (vb (decide (0 ≤ r2))) (d_geq) ?_; exact rf_ret rfl
def an_drive_New_1 : Ann := .seq (.reg 0 [] [] []) (.seq (.reg 0 [] [] []) (.no))
noncomputable def sem_drive_New_1 (n : Nat) (xs : List V) : Option V := if xs.length ≤ 6 then denF Tryz.prog (envOf []) n Tryz.f23 an_drive_New_1 xs else none
theorem ok_drive_New_1 (n : Nat) : SemOk Tryz.prog DW 23 (sem_drive_New_1 n) := fun xs y h => by
 unfold sem_drive_New_1 at h
 split at h
 ·rename_i hl
  exact denF_ok stb Tryz.func23 (by kernel_rfl) (envOf_ok semsOk_nil) (by rw [Tryz.ntmps23]; exact hl) h
 ·cases h
theorem eq_drive_New_1 (n : Nat) (x0 : V) : sem_drive_New_1 n [x0] =
 (lenS [x0]).bind fun v1 =>
 (bin2 Tryz.prog BinOp.gtr 3 (ot 4) (oc 200) v1 (vi 200)).bind fun v2 =>
 some v2 := by kernel_rfl
noncomputable def t_drive_New_1 (a0 : (List T_Op)) : Option Bool :=
 some (decide (200 < (List.length a0 : Int)))
theorem ty_drive_New_1 {n : Nat} (hn : bigN ≤ n) (a0 : (List T_Op)) : Rv (fun x : Bool => (vb x)) (sem_drive_New_1 n [(V.sl (List.map T_Op.c a0))]) (t_drive_New_1 a0) := by
 rw [eq_drive_New_1]
 unfold t_drive_New_1; refine tq (vi (List.length a0 : Int)) (p_len _) ?_; refine tq (vb (decide (200 < (List.length a0 : Int)))) (d_gtr) ?_; exact rf_ret rfl
def an_drive_New : Ann := .seq (.reg 0 [] [] []) (.seq (.blk none (.seq (.reg 0 [] [] []) (.cond none (.seq (.reg 0 [] [] []) (.no)) (.seq (.reg 0 [] [] []) (.cond none (.seq (.reg 0 [] [] []) (.no)) (.no)))))) (.seq (.reg 0 [] [] [1000030, 31]) (.seq (.seq (.reg 0 [] [1000000031, 1003000031] []) (.blk (some [.o 6]) (.loop [.o 6, .s 34] (.seq (.reg 0 [] [] []) (.seq (.cond none (.no) (.no)) (.seq (.blk (some [.o 6]) (.seq (.reg 0 [] [] []) (.seq (.seq (.reg 0 [] [] []) (.blk (some [.ko 6]) (.loop [.ko 6, .s 40] (.seq (.reg 0 [] [] []) (.seq (.cond none (.no) (.no)) (.seq (.blk none (.seq (.reg 0 [] [] []) (.seq (.seq (.reg 0 [] [] []) (.cond none (.seq (.reg 0 [] [] []) (.no)) (.no))) (.seq (.reg 0 [] [] []) (.seq (.reg 0 [] [] []) (.cond none (.seq (.reg 0 [] [] []) (.no)) (.no))))))) (.reg 0 [] [] []))))))) (.reg 8 [] [] [64, 68])))) (.reg 0 [] [] []))))))) (.seq (.reg 0 [] [] []) (.no)))))
noncomputable def sem_drive_New (n : Nat) (xs : List V) : Option V := if xs.length ≤ 73 then denM Tryz.prog (envOf [(22, (sem_slices_ContainsFunc_api_Round_api_Round (envOf [(23, (sem_drive_New_1 n))]) n)), (24, (sem_rule_Check n)), (25, (semClone 8)), (23, (sem_drive_New_1 n))]) n Tryz.f6 an_drive_New [0, 0] (some 0) xs else none
theorem ok_drive_New (n : Nat) : MSemOk Tryz.prog DW 6 (sem_drive_New n) := fun xs y h => by
 unfold sem_drive_New at h
 split at h
 ·rename_i hl
  exact denM_ok Tryz.func6 (by kernel_rfl) (envOf_ok (semsOk_cons (ok_slices_ContainsFunc_api_Round_api_Round (envOf_ok (semsOk_cons (ok_drive_New_1 n) semsOk_nil)) n) (semsOk_cons (ok_rule_Check n) (semsOk_cons (sok_slices_Clone_api_Round_api_Op) (semsOk_cons (ok_drive_New_1 n) semsOk_nil))))) (by rw [Tryz.ntmps6]; exact hl) (by decide) h
 ·cases h
theorem eq_drive_New (n : Nat) (x0 x1 : V) : sem_drive_New n [x0, x1] =
 (pureO x0).bind fun v1 =>
 (pureO x1).bind fun v2 =>
 (bin2 Tryz.prog BinOp.lss 3 (ot 13) (oc 1) x1 (vi 1)).bind fun v3 =>
 (guardV v3 false (some x1)).bind fun v4 =>
 (guardV v3 false ((bin2 Tryz.prog BinOp.gtr 3 (ot 16) (oc 100) v4 (vi 100)).bind fun v5 =>
 some v5)).bind fun v6 =>
 (pickV v3 (vb true) v6).bind fun v7 =>
 condV v7 (
 (scal1 Tryz.prog (Instr.makeInterface 81) (vi 1)).bind fun v8 =>
 (pureO (V.lit (Go.Value.pointer none))).bind fun v9 =>
 (pureO v8).bind fun v10 =>
 some (V.tup [V.tup [v9, v10], V.any, V.any])) (
 (lenS [x0]).bind fun v11 =>
 (bin2 Tryz.prog BinOp.gtr 3 (ot 22) (oc 20) v11 (vi 20)).bind fun v12 =>
 (guardV v12 false (some x0)).bind fun v13 =>
 (guardV v12 false (((sem_slices_ContainsFunc_api_Round_api_Round (envOf [(23, (sem_drive_New_1 n))]) n) [v13, (V.fn 23 [])]).bind fun v14 =>
 some v14)).bind fun v15 =>
 (pickV v12 (vb true) v15).bind fun v16 =>
 condV v16 (
 (scal1 Tryz.prog (Instr.makeInterface 81) (vi 4)).bind fun v17 =>
 (pureO (V.lit (Go.Value.pointer none))).bind fun v18 =>
 (pureO v17).bind fun v19 =>
 some (V.tup [V.tup [v18, v19], V.any, V.any])) (
 ((fillL [(V.lit (Go.Value.slice none 0 0)), (vi 0), (vi 0), (V.lit (Go.Value.slice none 0 0)), (vi 0)] [(1, 1, x1)]).map V.agg).bind fun v20 =>
 (V.cellsO v20).bind fun v21 =>
 (some (softX 1000000031 (V.obj v21))).bind fun v22 =>
 (some (softX 1003000031 v22)).bind fun v23 =>
 (lenS [x0]).bind fun v24 =>
 JoinPt (fun vs25 =>
 objK (List.getD vs25 0 V.any) fun l28 =>
 (pureO vn).bind fun v27 =>
 some (V.tup [V.tup [V.obj l28, v27], V.any, V.any])) fun J26 =>
 (fixN (fun rec29 vs30 =>
 (bin2 Tryz.prog BinOp.lss 3 (ot 34) (ot 33) (List.getD vs30 1 V.any) v24).bind fun v31 =>
 condV v31 (
 JoinPt (fun vs32 =>
 (bin2 Tryz.prog BinOp.add 3 (ot 34) (oc 1) (List.getD vs30 1 V.any) (vi 1)).bind fun v34 =>
 rec29 [(List.getD vs32 0 V.any), v34]) fun J33 =>
 (idxS 1 x0 (List.getD vs30 1 V.any)).bind fun v35 =>
 (ldp none v35).bind fun v36 =>
 (lenS [v36]).bind fun v37 =>
 JoinPt (fun vs38 =>
 (some V.any).bind fun v40 =>
 (some V.any).bind fun v41 =>
 ((nodeL (List.getD vs30 0 V.any) none 0).bind fun l42 => (l42[0]?).bind ownO).bind fun v43 =>
 ((semClone 8) [v36]).bind fun v44 =>
 (slcB 1 1 [(V.sl [])] [(0, v44)]).bind fun v45 =>
 (getV (List.getD vs30 0 V.any) [(Stp.mk none 0 0)]).bind fun v46 =>
 (modX (List.getD vs30 0 V.any) [] (Stp.mk none 0 0) V.any).bind fun v47 =>
 (appS 1 v46 v45).bind fun v48 =>
 (some V.any).bind fun v49 =>
 (some V.any).bind fun v50 =>
 (V.cellsO v48).bind fun v51 =>
 (setV v47 [] (Stp.mk none 0 0) 1 v51).bind fun v52 =>
 J33 [v52]) fun J39 =>
 (keepT (some (List.getD vs30 0 V.any)) (some (List.getD vs30 0 V.any)) (some [(vi 0)])).bind (fixN (fun rec53 vs54 =>
 (bin2 Tryz.prog BinOp.lss 3 (ot 40) (ot 39) (List.getD vs54 0 V.any) v37).bind fun v55 =>
 condV v55 (
 (idxS 8 v36 (List.getD vs54 0 V.any)).bind fun v56 =>
 (ldp (some 8) v56).bind fun v57 =>
 (spliceV [(vi 0), (vb false), (vi 0), (vi 0), (vi 0), (vi 0), (vi 0), (vi 0)] 0 8 v57).bind fun v58 =>
 (ldk none (List.drop 0 (aggL v58))).bind fun v59 =>
 (bin2 Tryz.prog BinOp.lss 3 (ot 45) (oc 1) v59 (vi 1)).bind fun v60 =>
 (guardV v60 false (some V.any)).bind fun v61 =>
 (guardV v60 false ((gate v60 false (ldk none (List.drop 0 (aggL v58)))).bind fun v62 =>
 some v62)).bind fun v63 =>
 (guardV v60 false ((bin2 Tryz.prog BinOp.gtr 3 (ot 49) (oc 6) v63 (vi 6)).bind fun v64 =>
 some v64)).bind fun v65 =>
 (pickV v60 (vb true) v65).bind fun v66 =>
 condV v66 (
 (scal1 Tryz.prog (Instr.makeInterface 81) (vi 1)).bind fun v67 =>
 (pureO (V.lit (Go.Value.pointer none))).bind fun v68 =>
 (pureO v67).bind fun v69 =>
 some (V.tup [V.tup [v68, v69], V.any, V.any])) (
 (ldk (some 6) (List.drop 2 (aggL v58))).bind fun v70 =>
 ((sem_rule_Check n) [v70]).bind fun v71 =>
 (bin2 Tryz.prog BinOp.neq 32 (ot 56) (Operand.const Go.Value.nilIface) v71 vn).bind fun v72 =>
 condV v72 (
 (pureO (V.lit (Go.Value.pointer none))).bind fun v73 =>
 (pureO v71).bind fun v74 =>
 some (V.tup [V.tup [v73, v74], V.any, V.any])) (
 (bin2 Tryz.prog BinOp.add 3 (ot 40) (oc 1) (List.getD vs54 0 V.any) (vi 1)).bind fun v75 =>
 (keepT (some (List.getD vs30 0 V.any)) (some (List.getD vs30 0 V.any)) (some [v75])).bind rec53))) (
 (keepT (some (List.getD vs30 0 V.any)) (some (List.getD vs30 0 V.any)) (some [])).bind J39)) n)) (
 J26 [(List.getD vs30 0 V.any)])) n) [v23, (vi 0)])) := by kernel_rfl
noncomputable def t_drive_New (a0 : (List (List T_Op))) (a1 : Int) : Option ((Option T_drive_Drive) × Int) :=
 if ((decide (a1 < 1)) || (decide (100 < a1))) = true then (
 some (none, 1)) else (
 (gd (!(decide (20 < (List.length a0 : Int)))) default (t_slices_ContainsFunc_api_Round_api_Round a0 (fun (a17 : (List T_Op)) => t_drive_New_1 a17 ))).bind fun r20 =>
 if ((decide (20 < (List.length a0 : Int))) || r20) = true then (
 some (none, 4)) else (
 join (fun (s29 : T_drive_Drive) =>
 some ((some s29), 0)) fun j30 =>
 loopI a0 (fun (i38 : Int) x39 (s34 : T_drive_Drive) k35 =>
 join (fun (s46 : T_drive_Drive) =>
 k35 (s46)) fun j47 =>
 join (fun (s55 : Unit) =>
 (cln x39).bind fun r62 =>
 (oapp s34.rounds ([r62] : (List (List T_Op)))).bind fun r64 =>
 j47 (T_drive_Drive.mk r64 s34.wait s34.said s34.left s34.ticks)) fun j56 =>
 loopI x39 (fun (i75 : Int) x76 (s71 : Unit) k72 =>
 if ((decide (x76.Switch < 1)) || (decide (6 < x76.Switch))) = true then (
 some (none, 1)) else (
 (t_rule_Check x76.Rule).bind fun r99 =>
 if (!decide (r99 = 0)) = true then (
 some (none, r99)) else (
 k72 ()))) (fun (s71 : Unit) =>
 j56 ()) ()) (fun (s34 : T_drive_Drive) =>
 j30 (s34)) (T_drive_Drive.mk [] a1 0 [] 0)))
theorem ty_drive_New {n : Nat} (hn : bigN ≤ n) (a0 : (List (List T_Op))) (a1 : Int) : Rv (fun x : ((Option T_drive_Drive) × Int) => (V.tup [(V.tup [(pO (fun x : T_drive_Drive => [(V.osl 1 (List.map (cS T_Op.c) x.rounds)), (vi x.wait), (vi x.said), (V.osl 1 (List.map cI x.left)), (vi x.ticks)]) x.1), (eV x.2)]), V.any, V.any])) (sem_drive_New n [(V.sl (List.map (cS T_Op.c) a0)), (vi a1)]) (t_drive_New a0 a1) := by
 rw [eq_drive_New]
 unfold t_drive_New; refine tq (V.sl (List.map (cS T_Op.c) a0)) rfl ?_; refine tq (vi a1) rfl ?_; refine tq (vb (decide (a1 < 1))) (d_lss) ?_; refine tg_f (x := (vi a1)) (fun h4 => rfl) ?_; refine tg_f (x := (vb (decide (100 < a1)))) (fun h6 => by simp only [gv_t h6]; exact bind_some_eq (d_gtr)) ?_; refine tq (vb ((decide (a1 < 1)) || (decide (100 < a1)))) (pick_or (fun h9 => gv_t (not_f h9))) ?_; refine tcond (fun h10 => ?_) (fun h10 => ?_)
 ·refine tq (eV 1) (p_mkE (by decide)) ?_; refine tq (V.lit (.pointer none)) rfl ?_; refine tq (eV 1) rfl ?_; exact rf_ret rfl
 ·refine tq (vi (List.length a0 : Int)) (p_len _) ?_; refine tq (vb (decide (20 < (List.length a0 : Int)))) (d_gtr) ?_; refine tg_f (x := (V.sl (List.map (cS T_Op.c) a0))) (fun h14 => rfl) ?_; refine tgo_f (fun h16 => by simp only [gv_t h16]; exact rf_bind_some (ty_slices_ContainsFunc_api_Round_api_Round (E := (envOf [(23, (sem_drive_New_1 n))])) (x1 := (V.fn 23 [])) (g1 := (fun (a17 : (List T_Op)) => t_drive_New_1 a17 )) hn a0 (fun a17 => ty_drive_New_1 hn a17 ))) fun r20 => ?_; refine tq (vb ((decide (20 < (List.length a0 : Int))) || r20)) (pick_or (fun h9 => gv_t (not_f h9))) ?_; refine tcond (fun h22 => ?_) (fun h22 => ?_)
  ·refine tq (eV 4) (p_mkE (by decide)) ?_; refine tq (V.lit (.pointer none)) rfl ?_; refine tq (eV 4) rfl ?_; exact rf_ret rfl
  ·refine tq (V.agg [(V.lit (Go.Value.slice none 0 0)), (vi a1), (vi 0), (V.lit (Go.Value.slice none 0 0)), (vi 0)]) (by kernel_rfl) ?_; refine tq [(V.lit (Go.Value.slice none 0 0)), (vi a1), (vi 0), (V.lit (Go.Value.slice none 0 0)), (vi 0)] rfl ?_; refine tq (V.obj [(V.osl 1 (List.map (cS T_Op.c) ([] : (List (List T_Op))))), (vi a1), (vi 0), (V.lit (Go.Value.slice none 0 0)), (vi 0)]) (by kernel_rfl) ?_; refine tq (V.obj [(V.osl 1 (List.map (cS T_Op.c) ([] : (List (List T_Op))))), (vi a1), (vi 0), (V.osl 1 (List.map cI ([] : (List Int)))), (vi 0)]) (by kernel_rfl) ?_; refine tq (vi (List.length a0 : Int)) (p_len _) ?_; refine tjoin (mk := fun s29 : T_drive_Drive => [(V.obj [(V.osl 1 (List.map (cS T_Op.c) s29.rounds)), (vi s29.wait), (vi s29.said), (V.osl 1 (List.map cI s29.left)), (vi s29.ticks)])]) (fun s29 => ?_) fun J28 j30 h31 => ?_
   ·refine tobjK ?_; refine tq (eV 0) rfl ?_; exact rf_ret rfl
   ·refine rf_loopI (mk := fun (i38 : Int) (s34 : T_drive_Drive) => [(V.obj [(V.osl 1 (List.map (cS T_Op.c) s34.rounds)), (vi s34.wait), (vi s34.said), (V.osl 1 (List.map cI s34.left)), (vi s34.ticks)]), (vi (i38 : Int))]) hn a0 (T_drive_Drive.mk [] a1 0 [] 0) (fun i38 x39 h40 h41 h42 s34 rec32 k35 h36 => ?_) (fun s34 rec107 h106 => ?_)
    ·refine tq (vb (decide ((i38 : Int) < (List.length a0 : Int)))) (d_lss) ?_; refine tcond_t h42 ?_; refine tjoin (mk := fun s46 : T_drive_Drive => [(V.obj [(V.osl 1 (List.map (cS T_Op.c) s46.rounds)), (vi s46.wait), (vi s46.said), (V.osl 1 (List.map cI s46.left)), (vi s46.ticks)])]) (fun s46 => ?_) fun J45 j47 h48 => ?_
     ·refine tq (vi ((i38 : Int) + 1)) (p_incN h41) ?_; exact h36 (s46)
     ·refine tq (V.ptr [(V.sl (List.map T_Op.c x39))]) (p_idx_at (c := (cS T_Op.c)) (fun _ => rfl) h40) ?_; refine tq (V.sl (List.map T_Op.c x39)) (rfl) ?_; refine tq (vi (List.length x39 : Int)) (p_len _) ?_; refine tjoin (mk := fun s55 : Unit => []) (fun s55 => ?_) fun J54 j56 h57 => ?_
      ·refine tq V.any rfl ?_; refine tq V.any rfl ?_; refine tq V.any rfl ?_; refine tbo (p_clone (c := T_Op.c) (fun _ => rfl) x39) fun r62 => ?_; refine tq (V.sl (List.map (cS T_Op.c) ([r62] : (List (List T_Op))))) (by kernel_rfl) ?_; refine tq (V.osl 1 (List.map (cS T_Op.c) s34.rounds)) rfl ?_; refine tq (V.obj [V.any, (vi s34.wait), (vi s34.said), (V.osl 1 (List.map cI s34.left)), (vi s34.ticks)]) (by kernel_rfl) ?_; refine tbo (p_oapp (c := (cS T_Op.c)) (fun _ => rfl) s34.rounds ([r62] : (List (List T_Op)))) fun r64 => ?_; refine tq V.any rfl ?_; refine tq V.any rfl ?_; refine tq [(V.osl 1 (List.map (cS T_Op.c) r64))] rfl ?_; refine tq (V.obj [(V.osl 1 (List.map (cS T_Op.c) r64)), (vi s34.wait), (vi s34.said), (V.osl 1 (List.map cI s34.left)), (vi s34.ticks)]) (by kernel_rfl) ?_; exact h48 (T_drive_Drive.mk r64 s34.wait s34.said s34.left s34.ticks)
      ·refine tkeepT2 ?_ rfl; refine tsome ?_; refine rf_loopI (mk := fun (i75 : Int) (s71 : Unit) => [(vi (i75 : Int))]) hn x39 () (fun i75 x76 h77 h78 h79 s71 rec69 k72 h73 => ?_) (fun s71 rec104 h103 => ?_)
       ·refine tq (vb (decide ((i75 : Int) < (List.length x39 : Int)))) (d_lss) ?_; refine tcond_t h79 ?_; refine tq (V.ptr (T_Op.c x76)) (p_idx_at (c := T_Op.c) (fun _ => rfl) h77) ?_; refine tq (T_Op.e x76) (rfl) ?_; refine tq (V.agg (T_Op.c x76)) (by kernel_rfl) ?_; refine tq (vi x76.Switch) (rfl) ?_; refine tq (vb (decide (x76.Switch < 1))) (d_lss) ?_; refine tg_f (x := V.any) (fun h86 => rfl) ?_; refine tg_f (x := (vi x76.Switch)) (fun h88 => bind_some_eq (gate_pos (not_t h88) (rfl))) ?_; refine tg_f (x := (vb (decide (6 < x76.Switch)))) (fun h91 => by simp only [gv_t h91]; exact bind_some_eq (d_gtr)) ?_; refine tq (vb ((decide (x76.Switch < 1)) || (decide (6 < x76.Switch)))) (pick_or (fun h9 => gv_t (not_f h9))) ?_; refine tcond (fun h95 => ?_) (fun h95 => ?_)
        ·refine tq (eV 1) (p_mkE (by decide)) ?_; refine tq (V.lit (.pointer none)) rfl ?_; refine tq (eV 1) rfl ?_; exact rf_ret rfl
        ·refine tq (T_Rule.e x76.Rule) (rfl) ?_; refine tbo (ty_rule_Check hn x76.Rule) fun r99 => ?_; refine tq (vb (!decide (r99 = 0))) (p_err_neq _) ?_; refine tcond (fun h101 => ?_) (fun h101 => ?_)
         ·refine tq (V.lit (.pointer none)) rfl ?_; refine tq (eV r99) rfl ?_; exact rf_ret rfl
         ·refine tq (vi ((i75 : Int) + 1)) (p_incN h78) ?_; refine tkeepT2 ?_ rfl; refine tsome ?_; exact h73 ()
       ·refine tq (vb (decide ((List.length x39 : Int) < (List.length x39 : Int)))) (d_lss) ?_; refine tcond_f h103 ?_; refine tkeepT2 ?_ rfl; refine tsome ?_; exact h57 ()
    ·refine tq (vb (decide ((List.length a0 : Int) < (List.length a0 : Int)))) (d_lss) ?_; refine tcond_f h106 ?_; exact h31 (s34)
def an_drive_Drive_May : Ann := .seq (.reg 0 [] [] []) (.seq (.reg 19 [] [] []) (.no))
noncomputable def sem_drive_Drive_May (n : Nat) (xs : List V) : Option V := if xs.length ≤ 21 then denF Tryz.prog (envOf []) n Tryz.f26 an_drive_Drive_May xs else none
theorem ok_drive_Drive_May (n : Nat) : SemOk Tryz.prog DW 26 (sem_drive_Drive_May n) := fun xs y h => by
 unfold sem_drive_Drive_May at h
 split at h
 ·rename_i hl
  exact denF_ok stb Tryz.func26 (by kernel_rfl) (envOf_ok semsOk_nil) (by rw [Tryz.ntmps26]; exact hl) h
 ·cases h
theorem eq_drive_Drive_May (n : Nat) (x0 : V) : sem_drive_Drive_May n [x0] =
 (ptrF 0 x0).bind fun v1 =>
 (ptrF 3 v1).bind fun v2 =>
 (ldp none v2).bind fun v3 =>
 (lenS [v3]).bind fun v4 =>
 (bin2 Tryz.prog BinOp.eql 3 (ot 7) (oc 0) v4 (vi 0)).bind fun v5 =>
 (guardV v5 true (some x0)).bind fun v6 =>
 (guardV v5 true ((ptrF 0 v6).bind fun v7 =>
 some v7)).bind fun v8 =>
 (guardV v5 true ((ptrF 2 v8).bind fun v9 =>
 some v9)).bind fun v10 =>
 (guardV v5 true ((ldp none v10).bind fun v11 =>
 some v11)).bind fun v12 =>
 (guardV v5 true (some x0)).bind fun v13 =>
 (guardV v5 true ((ptrF 0 v13).bind fun v14 =>
 some v14)).bind fun v15 =>
 (guardV v5 true ((ptrF 0 v15).bind fun v16 =>
 some v16)).bind fun v17 =>
 (guardV v5 true ((ldp none v17).bind fun v18 =>
 some v18)).bind fun v19 =>
 (guardV v5 true ((lenS [v19]).bind fun v20 =>
 some v20)).bind fun v21 =>
 (guardV v5 true ((bin2 Tryz.prog BinOp.lss 3 (ot 13) (ot 18) v12 v21).bind fun v22 =>
 some v22)).bind fun v23 =>
 (pickV v5 v23 (vb false)).bind fun v24 =>
 some v24 := by kernel_rfl
noncomputable def t_drive_Drive_May (a0 : T_drive_Drive) : Option Bool :=
 some ((decide ((List.length a0.left : Int) = 0)) && (decide (a0.said < (List.length a0.rounds : Int))))
theorem ty_drive_Drive_May {n : Nat} (hn : bigN ≤ n) (a0 : T_drive_Drive) : Rv (fun x : Bool => (vb x)) (sem_drive_Drive_May n [(V.ptr (T_drive_Drive.c a0))]) (t_drive_Drive_May a0) := by
 rw [eq_drive_Drive_May]
 unfold t_drive_Drive_May; refine tq (V.ptr (T_drive_Drive.c a0)) (rfl) ?_; refine tq (V.ptr (List.drop 3 (T_drive_Drive.c a0))) (rfl) ?_; refine tq (V.sl (List.map cI a0.left)) (rfl) ?_; refine tq (vi (List.length a0.left : Int)) (p_len _) ?_; refine tq (vb (decide ((List.length a0.left : Int) = 0))) (d_eql) ?_; refine tg (x := (V.ptr (T_drive_Drive.c a0))) (fun h6 => rfl) ?_; refine tg (x := (V.ptr (T_drive_Drive.c a0))) (fun h8 => by first | exact bind_some_eq (rfl) | (simp only [gv_t h8]; exact bind_some_eq (rfl))) ?_; refine tg (x := (V.ptr (List.drop 2 (T_drive_Drive.c a0)))) (fun h11 => by first | exact bind_some_eq (rfl) | (simp only [gv_t h11]; exact bind_some_eq (rfl))) ?_; refine tg (x := (vi a0.said)) (fun h14 => by first | exact bind_some_eq (rfl) | (simp only [gv_t h14]; exact bind_some_eq (rfl))) ?_; refine tg (x := (V.ptr (T_drive_Drive.c a0))) (fun h17 => rfl) ?_; refine tg (x := (V.ptr (T_drive_Drive.c a0))) (fun h19 => by first | exact bind_some_eq (rfl) | (simp only [gv_t h19]; exact bind_some_eq (rfl))) ?_; refine tg (x := (V.ptr (T_drive_Drive.c a0))) (fun h22 => by first | exact bind_some_eq (rfl) | (simp only [gv_t h22]; exact bind_some_eq (rfl))) ?_; refine tg (x := (V.sl (List.map (cS T_Op.c) a0.rounds))) (fun h25 => by first | exact bind_some_eq (rfl) | (simp only [gv_t h25]; exact bind_some_eq (rfl))) ?_; refine tg (x := (vi (List.length a0.rounds : Int))) (fun h28 => by simp only [gv_t h28]; exact bind_some_eq (p_len _)) ?_; refine tg (x := (vb (decide (a0.said < (List.length a0.rounds : Int))))) (fun h31 => by simp only [gv_t h31]; exact bind_some_eq (d_lss)) ?_; refine tq (vb ((decide ((List.length a0.left : Int) = 0)) && (decide (a0.said < (List.length a0.rounds : Int))))) (pick_and (fun h9 => gv_t h9)) ?_; exact rf_ret rfl
def an_mix_Touched : Ann := .seq (.reg 0 [] [] []) (.seq (.reg 0 [] [] []) (.seq (.seq (.reg 0 [] [] []) (.blk (some [.n 3 1]) (.loop [.n 3 1, .s 8] (.seq (.reg 0 [] [] []) (.seq (.cond none (.no) (.no)) (.seq (.blk none (.seq (.reg 0 [] [] []) (.reg 0 [] [] [16]))) (.reg 0 [] [] []))))))) (.seq (.reg 0 [] [] []) (.seq (.reg 0 [] [] [21]) (.no)))))
noncomputable def sem_mix_Touched (n : Nat) (xs : List V) : Option V := if xs.length ≤ 22 then denM Tryz.prog (envOf [(56 + 1000000, (semSort)), (57 + 1000000, (semCompactO))]) n Tryz.f27 an_mix_Touched [0] (some 1) xs else none
theorem ok_mix_Touched (n : Nat) : MSemOk Tryz.prog DW 27 (sem_mix_Touched n) := fun xs y h => by
 unfold sem_mix_Touched at h
 split at h
 ·rename_i hl
  exact denM_ok Tryz.func27 (by kernel_rfl) (envOf_ok (semsOk_consM (mok_Sort) (semsOk_consM (mok_CompactO) semsOk_nil))) (by rw [Tryz.ntmps27]; exact hl) (by decide) h
 ·cases h
theorem eq_mix_Touched (n : Nat) (x0 : V) : sem_mix_Touched n [x0] =
 (pureO x0).bind fun v1 =>
 (lenS [x0]).bind fun v2 =>
 JoinPt (fun vs3 =>
 ((semSort) [(List.getD vs3 0 V.any)]).bind fun z5 =>
 (pureO (tupAt z5 0)).bind fun v6 =>
 ((semCompactO) [(tupAt z5 1)]).bind fun z7 =>
 some (V.tup [(tupAt z7 0), V.any])) fun J4 =>
 (fixN (fun rec8 vs9 =>
 (bin2 Tryz.prog BinOp.lss 3 (ot 8) (ot 7) (List.getD vs9 1 V.any) v2).bind fun v10 =>
 condV v10 (
 (idxS 8 x0 (List.getD vs9 1 V.any)).bind fun v11 =>
 (ldp (some 8) v11).bind fun v12 =>
 (spliceV [(vi 0), (vb false), (vi 0), (vi 0), (vi 0), (vi 0), (vi 0), (vi 0)] 0 8 v12).bind fun v13 =>
 (ldk none (List.drop 0 (aggL v13))).bind fun v14 =>
 (slcB 1 1 [(vi 0)] [(0, v14)]).bind fun v15 =>
 (appS 1 (List.getD vs9 0 V.any) v15).bind fun v16 =>
 (bin2 Tryz.prog BinOp.add 3 (ot 8) (oc 1) (List.getD vs9 1 V.any) (vi 1)).bind fun v17 =>
 rec8 [v16, v17]) (
 J4 [(List.getD vs9 0 V.any)])) n) [(V.osl 1 []), (vi 0)] := by kernel_rfl
noncomputable def t_mix_Touched (a0 : (List T_Op)) : Option (List Int) :=
 (loopI a0 (fun (i19 : Int) x20 (s15 : (List Int)) k16 =>
 (oapp s15 ([x20.Switch] : (List Int))).bind fun r30 =>
 k16 (r30)) (fun (s15 : (List Int)) =>
 some (s15)) ([])).bind fun (s5 : (List Int)) =>
 (sortI s5).bind fun r9 =>
 (compactI r9).bind fun r12 =>
 some r12
theorem ty_mix_Touched {n : Nat} (hn : bigN ≤ n) (a0 : (List T_Op)) : Rv (fun x : (List Int) => (V.tup [(V.osl 1 (List.map cI x)), V.any])) (sem_mix_Touched n [(V.sl (List.map T_Op.c a0))]) (t_mix_Touched a0) := by
 rw [eq_mix_Touched]
 unfold t_mix_Touched; refine tq (V.sl (List.map T_Op.c a0)) rfl ?_; refine tq (vi (List.length a0 : Int)) (p_len _) ?_; refine tjb (mk := fun s5 : (List Int) => [(V.osl 1 (List.map cI s5))]) (fun J4 => ?_) fun s5 => ?_
 ·refine rf_loopI (mk := fun (i19 : Int) (s15 : (List Int)) => [(V.osl 1 (List.map cI s15)), (vi (i19 : Int))]) hn a0 ([]) (fun i19 x20 h21 h22 h23 s15 rec13 k16 h17 => ?_) (fun s15 rec33 h32 => ?_)
  ·refine tq (vb (decide ((i19 : Int) < (List.length a0 : Int)))) (d_lss) ?_; refine tcond_t h23 ?_; refine tq (V.ptr (T_Op.c x20)) (p_idx_at (c := T_Op.c) (fun _ => rfl) h21) ?_; refine tq (T_Op.e x20) (rfl) ?_; refine tq (V.agg (T_Op.c x20)) (by kernel_rfl) ?_; refine tq (vi x20.Switch) (rfl) ?_; refine tq (V.sl (List.map cI ([x20.Switch] : (List Int)))) (by kernel_rfl) ?_; refine tbo (p_oapp (c := cI) (fun _ => rfl) s15 ([x20.Switch] : (List Int))) fun r30 => ?_; refine tq (vi ((i19 : Int) + 1)) (p_incN h22) ?_; exact h17 (r30)
  ·refine tq (vb (decide ((List.length a0 : Int) < (List.length a0 : Int)))) (d_lss) ?_; refine tcond_f h32 ?_; exact rf_j rfl
 ·refine tbo (p_sort s5) fun r9 => ?_; refine tq (V.tup []) rfl ?_; refine tbo (p_compactO r9) fun r12 => ?_; exact rf_ret rfl
def an_drive_Drive_say : Ann := .seq (.reg 0 [] [] []) (.seq (.reg 0 [] [] []) (.seq (.seq (.reg 0 [] [] []) (.blk (some [.r 2 51]) (.loop [.r 2 51, .s 19] (.seq (.reg 0 [] [] []) (.seq (.cond none (.no) (.no)) (.seq (.blk (some [.r 2 51]) (.seq (.reg 0 [] [] []) (.seq (.reg 0 [] [] []) (.seq (.seq (.reg 0 [] [] []) (.blk (some [.r 2 51, .s 6]) (.loop [.r 2 51, .s 6, .s 31] (.seq (.reg 0 [] [] []) (.seq (.cond none (.no) (.no)) (.seq (.blk none (.seq (.reg 0 [] [] []) (.seq (.reg 0 [] [] []) (.cond (some [.r 2 51, .s 6]) (.seq (.reg 0 [] [] []) (.reg 0 [] [] [])) (.no))))) (.reg 0 [] [] []))))))) (.reg 0 [] [] []))))) (.reg 0 [] [] []))))))) (.seq (.reg 0 [] [] []) (.no))))
noncomputable def sem_drive_Drive_say (n : Nat) (xs : List V) : Option V := if xs.length ≤ 59 then denFR Tryz.prog (envOf []) n Tryz.f28 an_drive_Drive_say 51 xs else none
theorem ok_drive_Drive_say (n : Nat) : RSemOk Tryz.prog DW 28 51 (sem_drive_Drive_say n) := fun xs y h => by
 unfold sem_drive_Drive_say at h
 split at h
 ·rename_i hl
  exact denFR_ok stb Tryz.func28 (by kernel_rfl) (envOf_ok semsOk_nil) (by rw [Tryz.ntmps28]; exact hl) h
 ·cases h
theorem eq_drive_Drive_say (n : Nat) (x0 : V) : sem_drive_Drive_say n [x0] =
 (ptrF 0 x0).bind fun v1 =>
 (ptrF 2 v1).bind fun v2 =>
 (ldp none v2).bind fun v3 =>
 (bin2 Tryz.prog BinOp.sub 3 (ot 12) (oc 1) v3 (vi 1)).bind fun v4 =>
 (ptrF 0 x0).bind fun v5 =>
 (ptrF 3 v5).bind fun v6 =>
 (ldp none v6).bind fun v7 =>
 (lenS [v7]).bind fun v8 =>
 JoinPt (fun vs9 =>
 some (V.sl (slL (List.getD vs9 0 V.any)))) fun J10 =>
 (fixN (fun rec11 vs12 =>
 (bin2 Tryz.prog BinOp.lss 3 (ot 19) (ot 18) (List.getD vs12 1 V.any) v8).bind fun v13 =>
 condV v13 (
 JoinPt (fun vs14 =>
 (bin2 Tryz.prog BinOp.add 3 (ot 19) (oc 1) (List.getD vs12 1 V.any) (vi 1)).bind fun v16 =>
 rec11 [(V.sl (slL (List.getD vs14 0 V.any))), v16]) fun J15 =>
 (idxS 1 v7 (List.getD vs12 1 V.any)).bind fun v17 =>
 (ldp none v17).bind fun v18 =>
 (ptrF 0 x0).bind fun v19 =>
 (ptrF 0 v19).bind fun v20 =>
 (ldp none v20).bind fun v21 =>
 (idxS 1 v21 v4).bind fun v22 =>
 (ldp none v22).bind fun v23 =>
 (lenS [v23]).bind fun v24 =>
 JoinPt (fun vs25 =>
 ((fillL [(vi 0), (vi 0), (vi 0), (vi 0), (vi 0), (vb false), (vi 0), (vi 0), (vi 0), (vi 0), (vi 0), (vi 0)] [(0, 1, (vi 2)), (1, 1, v18), (2, 1, v4), (3, 1, (List.getD vs25 1 V.any))]).map V.agg).bind fun v27 =>
 (slcB 12 1 [(vi 0), (vi 0), (vi 0), (vi 0), (vi 0), (vb false), (vi 0), (vi 0), (vi 0), (vi 0), (vi 0), (vi 0)] [(0, v27)]).bind fun v28 =>
 (appV 12 (slL (List.getD vs25 0 V.any)) v28).bind fun v29 =>
 J15 [(V.sl (slL v29))]) fun J26 =>
 (fixN (fun rec30 vs31 =>
 (bin2 Tryz.prog BinOp.lss 3 (ot 31) (ot 30) (List.getD vs31 2 V.any) v24).bind fun v32 =>
 condV v32 (
 (idxS 8 v23 (List.getD vs31 2 V.any)).bind fun v33 =>
 (ldp (some 8) v33).bind fun v34 =>
 (spliceV [(vi 0), (vb false), (vi 0), (vi 0), (vi 0), (vi 0), (vi 0), (vi 0)] 0 8 v34).bind fun v35 =>
 (ldk none (List.drop 0 (aggL v35))).bind fun v36 =>
 (bin2 Tryz.prog BinOp.eql 3 (ot 36) (ot 37) v36 v18).bind fun v37 =>
 JoinPt (fun vs38 =>
 (bin2 Tryz.prog BinOp.add 3 (ot 31) (oc 1) (List.getD vs31 2 V.any) (vi 1)).bind fun v40 =>
 rec30 [(V.sl (slL (List.getD vs38 0 V.any))), (List.getD vs38 1 V.any), v40]) fun J39 =>
 condV v37 (
 (ldk (some 8) (List.drop 0 (aggL v35))).bind fun v41 =>
 ((fillL [(vi 0), (vi 0), (vi 0), (vi 0), (vi 0), (vb false), (vi 0), (vi 0), (vi 0), (vi 0), (vi 0), (vi 0)] [(0, 1, (vi 1)), (1, 1, v18), (2, 1, v4), (3, 1, (List.getD vs31 1 V.any)), (4, 8, v41)]).map V.agg).bind fun v42 =>
 (slcB 12 1 [(vi 0), (vi 0), (vi 0), (vi 0), (vi 0), (vb false), (vi 0), (vi 0), (vi 0), (vi 0), (vi 0), (vi 0)] [(0, v42)]).bind fun v43 =>
 (appV 12 (slL (List.getD vs31 0 V.any)) v43).bind fun v44 =>
 (bin2 Tryz.prog BinOp.add 3 (ot 47) (oc 1) (List.getD vs31 1 V.any) (vi 1)).bind fun v45 =>
 J39 [(V.sl (slL v44)), v45]) (
 J39 [(V.sl (slL (List.getD vs31 0 V.any))), (List.getD vs31 1 V.any)])) (
 J26 [(V.sl (slL (List.getD vs31 0 V.any))), (List.getD vs31 1 V.any)])) n) [(V.sl (slL (List.getD vs12 0 V.any))), (vi 0), (vi 0)]) (
 J10 [(V.sl (slL (List.getD vs12 0 V.any)))])) n) [(V.sl []), (vi 0)] := by kernel_rfl
noncomputable def t_drive_Drive_say (a0 : T_drive_Drive) : Option (List T_Msg) :=
 (loopI a0.left (fun (i20 : Int) x21 (s16 : (List T_Msg)) k17 =>
 ((idx a0.rounds (wr (a0.said - 1))).bind fun r38 =>
 (loopI r38 (fun (i56 : Int) x57 (s52 : ((List T_Msg) × Int)) k53 =>
 (if (decide (x57.Switch = x21)) = true then (
 (app s52.1 ([(T_Msg.mk 1 x21 (wr (a0.said - 1)) s52.2 x57)] : (List T_Msg))).bind fun r78 =>
 some (r78, (wr (s52.2 + 1)))) else (
 some (s52.1, s52.2))).bind fun (s69 : ((List T_Msg) × Int)) =>
 k53 (s69.1, s69.2)) (fun (s52 : ((List T_Msg) × Int)) =>
 some (s52.1, s52.2)) (s16, 0)).bind fun (s43 : ((List T_Msg) × Int)) =>
 (app s43.1 ([(T_Msg.mk 2 x21 (wr (a0.said - 1)) s43.2 (T_Op.mk 0 false (T_Rule.mk 0 (T_Cube.mk 0 0) 0 0 0)))] : (List T_Msg))).bind fun r49 =>
 some (r49)).bind fun (s28 : (List T_Msg)) =>
 k17 (s28)) (fun (s16 : (List T_Msg)) =>
 some (s16)) ([])).bind fun (s11 : (List T_Msg)) =>
 some s11
theorem ty_drive_Drive_say {n : Nat} (hn : bigN ≤ n) (a0 : T_drive_Drive) : Rv (fun x : (List T_Msg) => (V.sl (List.map T_Msg.c x))) (sem_drive_Drive_say n [(V.ptr (T_drive_Drive.c a0))]) (t_drive_Drive_say a0) := by
 rw [eq_drive_Drive_say]
 unfold t_drive_Drive_say; refine tq (V.ptr (T_drive_Drive.c a0)) (rfl) ?_; refine tq (V.ptr (List.drop 2 (T_drive_Drive.c a0))) (rfl) ?_; refine tq (vi a0.said) (rfl) ?_; refine tq (vi (wr (a0.said - 1))) (d_sub) ?_; refine tq (V.ptr (T_drive_Drive.c a0)) (rfl) ?_; refine tq (V.ptr (List.drop 3 (T_drive_Drive.c a0))) (rfl) ?_; refine tq (V.sl (List.map cI a0.left)) (rfl) ?_; refine tq (vi (List.length a0.left : Int)) (p_len _) ?_; refine tjb (mk := fun s11 : (List T_Msg) => [(V.sl (List.map T_Msg.c s11))]) (fun J10 => ?_) fun s11 => ?_
 ·refine rf_loopI (mk := fun (i20 : Int) (s16 : (List T_Msg)) => [(V.sl (List.map T_Msg.c s16)), (vi (i20 : Int))]) hn a0.left ([]) (fun i20 x21 h22 h23 h24 s16 rec14 k17 h18 => ?_) (fun s16 rec84 h83 => ?_)
  ·refine tq (vb (decide ((i20 : Int) < (List.length a0.left : Int)))) (d_lss) ?_; refine tcond_t h24 ?_; refine tjb (mk := fun s28 : (List T_Msg) => [(V.sl (List.map T_Msg.c s28))]) (fun J27 => ?_) fun s28 => ?_
   ·refine tq (V.ptr [(vi x21)]) (p_idx_at (c := cI) (fun _ => rfl) h22) ?_; refine tq (vi x21) (rfl) ?_; refine tq (V.ptr (T_drive_Drive.c a0)) (rfl) ?_; refine tq (V.ptr (T_drive_Drive.c a0)) (rfl) ?_; refine tq (V.sl (List.map (cS T_Op.c) a0.rounds)) (rfl) ?_; refine tbo (p_idx (c := (cS T_Op.c)) (fun _ => rfl) a0.rounds (wr (a0.said - 1))) fun r38 => ?_; refine tq (V.sl (List.map T_Op.c r38)) (rfl) ?_; refine tq (vi (List.length r38 : Int)) (p_len _) ?_; refine tjb (mk := fun s43 : ((List T_Msg) × Int) => [(V.sl (List.map T_Msg.c s43.1)), (vi s43.2)]) (fun J42 => ?_) fun s43 => ?_
    ·refine rf_loopI (mk := fun (i56 : Int) (s52 : ((List T_Msg) × Int)) => [(V.sl (List.map T_Msg.c s52.1)), (vi s52.2), (vi (i56 : Int))]) hn r38 (s16, 0) (fun i56 x57 h58 h59 h60 s52 rec50 k53 h54 => ?_) (fun s52 rec81 h80 => ?_)
     ·refine tq (vb (decide ((i56 : Int) < (List.length r38 : Int)))) (d_lss) ?_; refine tcond_t h60 ?_; refine tq (V.ptr (T_Op.c x57)) (p_idx_at (c := T_Op.c) (fun _ => rfl) h58) ?_; refine tq (T_Op.e x57) (rfl) ?_; refine tq (V.agg (T_Op.c x57)) (by kernel_rfl) ?_; refine tq (vi x57.Switch) (rfl) ?_; refine tq (vb (decide (x57.Switch = x21))) (d_eql) ?_; refine tjb (mk := fun s69 : ((List T_Msg) × Int) => [(V.sl (List.map T_Msg.c s69.1)), (vi s69.2)]) (fun J68 => ?_) fun s69 => ?_
      ·refine tcond (fun h73 => ?_) (fun h73 => ?_)
       ·refine tq (T_Op.e x57) (rfl) ?_; refine tq (T_Msg.e (T_Msg.mk 1 x21 (wr (a0.said - 1)) s52.2 x57)) (by kernel_rfl) ?_; refine tq (V.sl (List.map T_Msg.c ([(T_Msg.mk 1 x21 (wr (a0.said - 1)) s52.2 x57)] : (List T_Msg)))) (by kernel_rfl) ?_; refine tbo (p_app (c := T_Msg.c) (fun _ => rfl) s52.1 ([(T_Msg.mk 1 x21 (wr (a0.said - 1)) s52.2 x57)] : (List T_Msg))) fun r78 => ?_; refine tq (vi (wr (s52.2 + 1))) (d_add) ?_; exact rf_j rfl
       ·exact rf_j rfl
      ·refine tq (vi ((i56 : Int) + 1)) (p_incN h59) ?_; exact h54 (s69.1, s69.2)
     ·refine tq (vb (decide ((List.length r38 : Int) < (List.length r38 : Int)))) (d_lss) ?_; refine tcond_f h80 ?_; exact rf_j rfl
    ·refine tq (T_Msg.e (T_Msg.mk 2 x21 (wr (a0.said - 1)) s43.2 (T_Op.mk 0 false (T_Rule.mk 0 (T_Cube.mk 0 0) 0 0 0)))) (by kernel_rfl) ?_; refine tq (V.sl (List.map T_Msg.c ([(T_Msg.mk 2 x21 (wr (a0.said - 1)) s43.2 (T_Op.mk 0 false (T_Rule.mk 0 (T_Cube.mk 0 0) 0 0 0)))] : (List T_Msg)))) (by kernel_rfl) ?_; refine tbo (p_app (c := T_Msg.c) (fun _ => rfl) s43.1 ([(T_Msg.mk 2 x21 (wr (a0.said - 1)) s43.2 (T_Op.mk 0 false (T_Rule.mk 0 (T_Cube.mk 0 0) 0 0 0)))] : (List T_Msg))) fun r49 => ?_; exact rf_j rfl
   ·refine tq (vi ((i20 : Int) + 1)) (p_incN h23) ?_; exact h18 (s28)
  ·refine tq (vb (decide ((List.length a0.left : Int) < (List.length a0.left : Int)))) (d_lss) ?_; refine tcond_f h83 ?_; exact rf_j rfl
 ·exact rf_ret rfl
def an_drive_Drive_Next : Ann := .seq (.reg 0 [] [] []) (.seq (.seq (.reg 0 [] [] [2000005]) (.cond none (.seq (.reg 0 [] [] []) (.no)) (.no))) (.seq (.reg 11 [] [] [12, 19]) (.seq (.reg 0 [] [] []) (.seq (.reg 0 [] [] []) (.seq (.reg 0 [] [] [2000033, 3000033]) (.no))))))
noncomputable def sem_drive_Drive_Next (n : Nat) (xs : List V) : Option V := if xs.length ≤ 34 then denM Tryz.prog (envOf [(26, (sem_drive_Drive_May n)), (27 + 1000000, (sem_mix_Touched n)), (28 + 1000000 * (51 + 2), (sem_drive_Drive_say n))]) n Tryz.f7 an_drive_Drive_Next [2] none xs else none
theorem ok_drive_Drive_Next (n : Nat) : MSemOk Tryz.prog DW 7 (sem_drive_Drive_Next n) := fun xs y h => by
 unfold sem_drive_Drive_Next at h
 split at h
 ·rename_i hl
  exact denM_ok Tryz.func7 (by kernel_rfl) (envOf_ok (semsOk_cons (ok_drive_Drive_May n) (semsOk_consM (ok_mix_Touched n) (semsOk_consR (ok_drive_Drive_say n) semsOk_nil)))) (by rw [Tryz.ntmps7]; exact hl) (by decide) h
 ·cases h
theorem eq_drive_Drive_Next (n : Nat) (x0 : V) : sem_drive_Drive_Next n [x0] =
 (objG x0).bind fun v1 =>
 (some (frzQ x0)).bind fun v2 =>
 ((sem_drive_Drive_May n) [v2]).bind fun v4 =>
 (litQ v4).bind fun v3 =>
 (scal1 Tryz.prog (Op.unary Go.UnOp.not) v3).bind fun v5 =>
 condV v5 (
 (scal1 Tryz.prog (Instr.makeInterface 81) (vi 6)).bind fun v6 =>
 some (V.tup [(V.tup [(V.sl []), v6]), x0])) (
 (some V.any).bind fun v7 =>
 (some V.any).bind fun v8 =>
 ((nodeL x0 none 0).bind fun l9 => (l9[0]?).bind ownO).bind fun v10 =>
 (some V.any).bind fun v11 =>
 (some V.any).bind fun v12 =>
 ((nodeL x0 none 0).bind fun l13 => (ldk none (List.drop 2 l13)).bind pureO).bind fun v14 =>
 (((getV x0 [(Stp.mk none 0 0)]).bind oslR).bind fun rows15 => inB (List.length rows15) v14).bind fun v16 =>
 (((getV x0 [(Stp.mk none 0 0)]).bind fun y => nodeL y (some (natOf v14)) 1).bind fun l17 => (ldk none (List.drop 0 l17)).bind pureO).bind fun v18 =>
 ((sem_mix_Touched n) [v18]).bind fun z19 =>
 (some V.any).bind fun v20 =>
 (some V.any).bind fun v21 =>
 (V.cellsO (tupAt z19 0)).bind fun v22 =>
 (setV x0 [] (Stp.mk none 3 0) 1 v22).bind fun v23 =>
 (some V.any).bind fun v24 =>
 (some V.any).bind fun v25 =>
 ((nodeL v23 none 0).bind fun l26 => (ldk none (List.drop 2 l26)).bind pureO).bind fun v27 =>
 (bin2 Tryz.prog BinOp.add 3 (ot 25) (oc 1) v27 (vi 1)).bind fun v28 =>
 (some V.any).bind fun v29 =>
 (some V.any).bind fun v30 =>
 (V.cellsO v28).bind fun v31 =>
 (setV v23 [] (Stp.mk none 2 0) 1 v31).bind fun v32 =>
 (some V.any).bind fun v33 =>
 (some V.any).bind fun v34 =>
 (V.cellsO (vi 0)).bind fun v35 =>
 (setV v32 [] (Stp.mk none 4 0) 1 v35).bind fun v36 =>
 (some (frzQ v36)).bind fun v37 =>
 ((sem_drive_Drive_say n) [v37]).bind fun v39 =>
 (flatQ v39).bind fun v38 =>
 some (V.tup [(V.tup [v38, vn]), v36])) := by kernel_rfl
noncomputable def t_drive_Drive_Next (a0 : T_drive_Drive) : Option ((List T_Msg) × Int × T_drive_Drive) :=
 (t_drive_Drive_May a0).bind fun r3 =>
 if (!r3) = true then (
 some ([], 6, a0)) else (
 need (decide (0 ≤ a0.said) && decide (a0.said < (List.length a0.rounds : Int))) (
 (idx a0.rounds a0.said).bind fun r15 =>
 (t_mix_Touched r15).bind fun r18 =>
 (t_drive_Drive_say (T_drive_Drive.mk a0.rounds a0.wait (wr (a0.said + 1)) r18 0)).bind fun r36 =>
 some (r36, 0, (T_drive_Drive.mk a0.rounds a0.wait (wr (a0.said + 1)) r18 0))))
theorem ty_drive_Drive_Next {n : Nat} (hn : bigN ≤ n) (a0 : T_drive_Drive) : Rv (fun x : ((List T_Msg) × Int × T_drive_Drive) => (V.tup [(V.tup [(V.sl (List.map T_Msg.c x.1)), (eV x.2.1)]), (V.obj [(V.osl 1 (List.map (cS T_Op.c) x.2.2.rounds)), (vi x.2.2.wait), (vi x.2.2.said), (V.osl 1 (List.map cI x.2.2.left)), (vi x.2.2.ticks)])])) (sem_drive_Drive_Next n [(V.obj [(V.osl 1 (List.map (cS T_Op.c) a0.rounds)), (vi a0.wait), (vi a0.said), (V.osl 1 (List.map cI a0.left)), (vi a0.ticks)])]) (t_drive_Drive_Next a0) := by
 rw [eq_drive_Drive_Next]
 unfold t_drive_Drive_Next; refine tq V.any rfl ?_; refine tq (V.ptr (T_drive_Drive.c a0)) (p_frzQ (p_fzc (p_frzl (c' := (cS T_Op.c)) (fun _ => rfl) _) (p_fzc rfl (p_fzc rfl (p_fzc (p_frzl (c' := cI) (fun _ => rfl) _) (p_fzc rfl p_fz0)))))) ?_; refine tbo (ty_drive_Drive_May hn a0) fun r3 => ?_; refine tq (vb r3) rfl ?_; refine tq (vb (!r3)) (d_not) ?_; refine tcond (fun h6 => ?_) (fun h6 => ?_)
 ·refine tq (eV 6) (p_mkE (by decide)) ?_; exact rf_ret rfl
 ·refine tq V.any rfl ?_; refine tq V.any rfl ?_; refine tq V.any rfl ?_; refine tq V.any rfl ?_; refine tq V.any rfl ?_; refine tq (vi a0.said) (rfl) ?_; refine p_asc ?_; refine p_asc ?_; refine p_inF (y := (V.osl 1 (List.map (cS T_Op.c) a0.rounds))) rfl ?_; refine p_in0 ?_; refine p_cas ?_; refine tneed (x := V.any) (fun h14 => p_inB (c := (cS T_Op.c)) (k := 1) a0.rounds a0.said h14) fun h14 => ?_; refine p_asc ?_; refine p_asc ?_; refine p_inF (y := (V.osl 1 (List.map (cS T_Op.c) a0.rounds))) rfl ?_; refine p_in0 ?_; refine p_cas ?_; refine tbo (p_oload (e1 := fun x : (List T_Op) => (V.sl (List.map T_Op.c x))) (c := (cS T_Op.c)) (fun _ => rfl) a0.rounds a0.said (fun _ => rfl)) fun r15 => ?_; refine tbo (ty_mix_Touched hn r15) fun r18 => ?_; refine tq V.any rfl ?_; refine tq V.any rfl ?_; refine tq [(V.osl 1 (List.map cI r18))] rfl ?_; refine tq (V.obj [(V.osl 1 (List.map (cS T_Op.c) a0.rounds)), (vi a0.wait), (vi a0.said), (V.osl 1 (List.map cI r18)), (vi a0.ticks)]) (by kernel_rfl) ?_; refine tq V.any rfl ?_; refine tq V.any rfl ?_; refine tq (vi a0.said) (rfl) ?_; refine tq (vi (wr (a0.said + 1))) (d_add) ?_; refine tq V.any rfl ?_; refine tq V.any rfl ?_; refine tq [(vi (wr (a0.said + 1)))] rfl ?_; refine tq (V.obj [(V.osl 1 (List.map (cS T_Op.c) a0.rounds)), (vi a0.wait), (vi (wr (a0.said + 1))), (V.osl 1 (List.map cI r18)), (vi a0.ticks)]) (by kernel_rfl) ?_; refine tq V.any rfl ?_; refine tq V.any rfl ?_; refine tq [(vi 0)] rfl ?_; refine tq (V.obj [(V.osl 1 (List.map (cS T_Op.c) a0.rounds)), (vi a0.wait), (vi (wr (a0.said + 1))), (V.osl 1 (List.map cI r18)), (vi 0)]) (by kernel_rfl) ?_; refine tq (V.ptr (T_drive_Drive.c (T_drive_Drive.mk a0.rounds a0.wait (wr (a0.said + 1)) r18 0))) (p_frzQ (p_fzc (p_frzl (c' := (cS T_Op.c)) (fun _ => rfl) _) (p_fzc rfl (p_fzc rfl (p_fzc (p_frzl (c' := cI) (fun _ => rfl) _) (p_fzc rfl p_fz0)))))) ?_; refine tbo (ty_drive_Drive_say hn (T_drive_Drive.mk a0.rounds a0.wait (wr (a0.said + 1)) r18 0)) fun r36 => ?_; refine tq (V.sl (List.map T_Msg.c r36)) (p_flatQ (fun _ => rfl) r36) ?_; exact rf_ret rfl
def an_slices_Index_int_int : Ann := .seq (.reg 0 [] [] []) (.seq (.seq (.reg 0 [] [] []) (.blk (some []) (.loop [.s 8] (.seq (.reg 0 [] [] []) (.seq (.cond none (.no) (.no)) (.seq (.blk none (.seq (.reg 0 [] [] []) (.seq (.reg 0 [] [] []) (.cond none (.seq (.reg 0 [] [] []) (.no)) (.no))))) (.reg 0 [] [] []))))))) (.seq (.reg 0 [] [] []) (.no)))
noncomputable def sem_slices_Index_int_int (n : Nat) (xs : List V) : Option V := if xs.length ≤ 19 then denF Tryz.prog (envOf []) n Tryz.f38 an_slices_Index_int_int xs else none
theorem ok_slices_Index_int_int (n : Nat) : SemOk Tryz.prog DW 38 (sem_slices_Index_int_int n) := fun xs y h => by
 unfold sem_slices_Index_int_int at h
 split at h
 ·rename_i hl
  exact denF_ok stb Tryz.func38 (by kernel_rfl) (envOf_ok semsOk_nil) (by rw [Tryz.ntmps38]; exact hl) h
 ·cases h
theorem eq_slices_Index_int_int (n : Nat) (x0 x1 : V) : sem_slices_Index_int_int n [x0, x1] =
 (lenS [x0]).bind fun v1 =>
 JoinPt (fun vs2 =>
 some (vi (-1 : Int))) fun J3 =>
 (fixN (fun rec4 vs5 =>
 (bin2 Tryz.prog BinOp.lss 3 (ot 8) (ot 7) (List.getD vs5 0 V.any) v1).bind fun v6 =>
 condV v6 (
 (idxS 1 x0 (List.getD vs5 0 V.any)).bind fun v7 =>
 (ldp none v7).bind fun v8 =>
 (bin2 Tryz.prog BinOp.eql 3 (ot 11) (ot 15) x1 v8).bind fun v9 =>
 condV v9 (
 some (List.getD vs5 0 V.any)) (
 (bin2 Tryz.prog BinOp.add 3 (ot 8) (oc 1) (List.getD vs5 0 V.any) (vi 1)).bind fun v10 =>
 rec4 [v10])) (
 J3 [])) n) [(vi 0)] := by kernel_rfl
noncomputable def t_slices_Index_int_int (a0 : (List Int)) (a1 : Int) : Option Int :=
 join (fun (s4 : Unit) =>
 some (-1 : Int)) fun j5 =>
 loopI a0 (fun (i13 : Int) x14 (s9 : Unit) k10 =>
 if (decide (a1 = x14)) = true then (
 some i13) else (
 k10 ())) (fun (s9 : Unit) =>
 j5 ()) ()
theorem ty_slices_Index_int_int {n : Nat} (hn : bigN ≤ n) (a0 : (List Int)) (a1 : Int) : Rv (fun x : Int => (vi x)) (sem_slices_Index_int_int n [(V.sl (List.map cI a0)), (vi a1)]) (t_slices_Index_int_int a0 a1) := by
 rw [eq_slices_Index_int_int]
 unfold t_slices_Index_int_int; refine tq (vi (List.length a0 : Int)) (p_len _) ?_; refine tjoin (mk := fun s4 : Unit => []) (fun s4 => ?_) fun J3 j5 h6 => ?_
 ·exact rf_ret rfl
 ·refine rf_loopI (mk := fun (i13 : Int) (s9 : Unit) => [(vi (i13 : Int))]) hn a0 () (fun i13 x14 h15 h16 h17 s9 rec7 k10 h11 => ?_) (fun s9 rec25 h24 => ?_)
  ·refine tq (vb (decide ((i13 : Int) < (List.length a0 : Int)))) (d_lss) ?_; refine tcond_t h17 ?_; refine tq (V.ptr [(vi x14)]) (p_idx_at (c := cI) (fun _ => rfl) h15) ?_; refine tq (vi x14) (rfl) ?_; refine tq (vb (decide (a1 = x14))) (d_eql) ?_; refine tcond (fun h22 => ?_) (fun h22 => ?_)
   ·exact rf_ret rfl
   ·refine tq (vi ((i13 : Int) + 1)) (p_incN h16) ?_; exact h11 ()
  ·refine tq (vb (decide ((List.length a0 : Int) < (List.length a0 : Int)))) (d_lss) ?_; refine tcond_f h24 ?_; exact h6 ()
def an_drive_Drive_Hear : Ann := .seq (.reg 0 [] [] []) (.seq (.seq (.reg 0 [] [] []) (.cond none (.seq (.reg 0 [] [] []) (.no)) (.no))) (.seq (.reg 8 [] [] [18, 2000021]) (.seq (.seq (.reg 12 [] [] []) (.cond none (.seq (.reg 0 [] [] []) (.no)) (.no))) (.seq (.reg 0 [] [] [2000039, 43]) (.seq (.reg 0 [] [] []) (.no))))))
noncomputable def sem_drive_Drive_Hear (n : Nat) (xs : List V) : Option V := if xs.length ≤ 46 then denM Tryz.prog (envOf [(29, (sem_wire_Check n)), (38, (sem_slices_Index_int_int n)), (39 + 1000000, (semDelete))]) n Tryz.f13 an_drive_Drive_Hear [2, 0] none xs else none
theorem ok_drive_Drive_Hear (n : Nat) : MSemOk Tryz.prog DW 13 (sem_drive_Drive_Hear n) := fun xs y h => by
 unfold sem_drive_Drive_Hear at h
 split at h
 ·rename_i hl
  exact denM_ok Tryz.func13 (by kernel_rfl) (envOf_ok (semsOk_cons (ok_wire_Check n) (semsOk_cons (ok_slices_Index_int_int n) (semsOk_consM (mok_Delete) semsOk_nil)))) (by rw [Tryz.ntmps13]; exact hl) (by decide) h
 ·cases h
theorem eq_drive_Drive_Hear (n : Nat) (x0 x1 : V) : sem_drive_Drive_Hear n [x0, x1] =
 (objG x0).bind fun v1 =>
 (pureO x1).bind fun v2 =>
 (V.cellsO x1).bind fun v3 =>
 (ldk (some 12) (List.drop 0 v3)).bind fun v4 =>
 ((sem_wire_Check n) [v4]).bind fun v5 =>
 (bin2 Tryz.prog BinOp.neq 32 (ot 7) (Operand.const Go.Value.nilIface) v5 vn).bind fun v6 =>
 (guardV v6 false (some V.any)).bind fun v7 =>
 (guardV v6 false ((gate v6 false (ldk none (List.drop 0 v3))).bind fun v8 =>
 some v8)).bind fun v9 =>
 (guardV v6 false ((bin2 Tryz.prog BinOp.neq 3 (ot 11) (oc 3) v9 (vi 3)).bind fun v10 =>
 some v10)).bind fun v11 =>
 (pickV v6 (vb true) v11).bind fun v12 =>
 condV v12 (
 (scal1 Tryz.prog (Instr.makeInterface 81) (vi 3)).bind fun v13 =>
 some (V.tup [v13, x0, V.any])) (
 (some V.any).bind fun v14 =>
 (some V.any).bind fun v15 =>
 ((nodeL x0 none 0).bind fun l16 => (l16[3]?).bind ownO).bind fun v17 =>
 (ldk none (List.drop 1 v3)).bind fun v18 =>
 (some (frzC x0 [(Stp.mk none 3 0)])).bind fun v19 =>
 ((sem_slices_Index_int_int n) [v19, v18]).bind fun v21 =>
 (litQ v21).bind fun v20 =>
 (ldk none (List.drop 2 v3)).bind fun v22 =>
 (some V.any).bind fun v23 =>
 (some V.any).bind fun v24 =>
 ((nodeL x0 none 0).bind fun l25 => (ldk none (List.drop 2 l25)).bind pureO).bind fun v26 =>
 (bin2 Tryz.prog BinOp.sub 3 (ot 27) (oc 1) v26 (vi 1)).bind fun v27 =>
 (bin2 Tryz.prog BinOp.neq 3 (ot 23) (ot 28) v22 v27).bind fun v28 =>
 (guardV v28 false (some v20)).bind fun v29 =>
 (guardV v28 false ((bin2 Tryz.prog BinOp.lss 3 (ot 31) (oc 0) v29 (vi 0)).bind fun v30 =>
 some v30)).bind fun v31 =>
 (pickV v28 (vb true) v31).bind fun v32 =>
 condV v32 (
 (scal1 Tryz.prog (Instr.makeInterface 81) (vi 6)).bind fun v33 =>
 some (V.tup [v33, x0, V.any])) (
 (some V.any).bind fun v34 =>
 (some V.any).bind fun v35 =>
 ((nodeL x0 none 0).bind fun l39 => (l39[3]?).bind ownO).bind fun v36 =>
 (getV x0 [(Stp.mk none 3 0)]).bind fun v37 =>
 (modX x0 [] (Stp.mk none 3 0) V.any).bind fun v38 =>
 (bin2 Tryz.prog BinOp.add 3 (ot 41) (oc 1) v20 (vi 1)).bind fun v40 =>
 ((semDelete) [v37, v20, v40]).bind fun z41 =>
 (some V.any).bind fun v42 =>
 (some V.any).bind fun v43 =>
 (V.cellsO (tupAt z41 0)).bind fun v44 =>
 (setV v38 [] (Stp.mk none 3 0) 1 v44).bind fun v45 =>
 some (V.tup [vn, v45, V.any]))) := by kernel_rfl
noncomputable def t_drive_Drive_Hear (a0 : T_drive_Drive) (a1 : T_Msg) : Option (Int × T_drive_Drive) :=
 (t_wire_Check a1).bind fun r6 =>
 if ((!decide (r6 = 0)) || (decide (a1.Kind ≠ 3))) = true then (
 some (3, a0)) else (
 (t_slices_Index_int_int a0.left a1.Switch).bind fun r24 =>
 if ((decide (a1.Round ≠ (wr (a0.said - 1)))) || (decide (r24 < 0))) = true then (
 some (6, a0)) else (
 (deleteI a0.left r24 (wr (r24 + 1))).bind fun r44 =>
 some (0, (T_drive_Drive.mk a0.rounds a0.wait a0.said r44 a0.ticks))))
theorem ty_drive_Drive_Hear {n : Nat} (hn : bigN ≤ n) (a0 : T_drive_Drive) (a1 : T_Msg) : Rv (fun x : (Int × T_drive_Drive) => (V.tup [(eV x.1), (V.obj [(V.osl 1 (List.map (cS T_Op.c) x.2.rounds)), (vi x.2.wait), (vi x.2.said), (V.osl 1 (List.map cI x.2.left)), (vi x.2.ticks)]), V.any])) (sem_drive_Drive_Hear n [(V.obj [(V.osl 1 (List.map (cS T_Op.c) a0.rounds)), (vi a0.wait), (vi a0.said), (V.osl 1 (List.map cI a0.left)), (vi a0.ticks)]), (T_Msg.e a1)]) (t_drive_Drive_Hear a0 a1) := by
 rw [eq_drive_Drive_Hear]
 unfold t_drive_Drive_Hear; refine tq V.any rfl ?_; refine tq (T_Msg.e a1) rfl ?_; refine tq (T_Msg.c a1) rfl ?_; refine tq (T_Msg.e a1) (rfl) ?_; refine tbo (ty_wire_Check hn a1) fun r6 => ?_; refine tq (vb (!decide (r6 = 0))) (p_err_neq _) ?_; refine tg_f (x := V.any) (fun h8 => rfl) ?_; refine tg_f (x := (vi a1.Kind)) (fun h10 => bind_some_eq (gate_pos (not_t h10) (rfl))) ?_; refine tg_f (x := (vb (decide (a1.Kind ≠ 3)))) (fun h13 => by simp only [gv_t h13]; exact bind_some_eq (d_neq)) ?_; refine tq (vb ((!decide (r6 = 0)) || (decide (a1.Kind ≠ 3)))) (pick_or (fun h9 => gv_t (not_f h9))) ?_; refine tcond (fun h17 => ?_) (fun h17 => ?_)
 ·refine tq (eV 3) (p_mkE (by decide)) ?_; exact rf_ret rfl
 ·refine tq V.any rfl ?_; refine tq V.any rfl ?_; refine tq V.any rfl ?_; refine tq (vi a1.Switch) (rfl) ?_; refine tq (V.sl (List.map cI a0.left)) (p_frzS (k := 1) (c' := cI) (fun _ => rfl) a0.left) ?_; refine tbo (ty_slices_Index_int_int hn a0.left a1.Switch) fun r24 => ?_; refine tq (vi r24) rfl ?_; refine tq (vi a1.Round) (rfl) ?_; refine tq V.any rfl ?_; refine tq V.any rfl ?_; refine tq (vi a0.said) (rfl) ?_; refine tq (vi (wr (a0.said - 1))) (d_sub) ?_; refine tq (vb (decide (a1.Round ≠ (wr (a0.said - 1))))) (d_neq) ?_; refine tg_f (x := (vi r24)) (fun h32 => rfl) ?_; refine tg_f (x := (vb (decide (r24 < 0)))) (fun h34 => by simp only [gv_t h34]; exact bind_some_eq (d_lss)) ?_; refine tq (vb ((decide (a1.Round ≠ (wr (a0.said - 1)))) || (decide (r24 < 0)))) (pick_or (fun h9 => gv_t (not_f h9))) ?_; refine tcond (fun h38 => ?_) (fun h38 => ?_)
  ·refine tq (eV 6) (p_mkE (by decide)) ?_; exact rf_ret rfl
  ·refine tq V.any rfl ?_; refine tq V.any rfl ?_; refine tq V.any rfl ?_; refine tq (V.osl 1 (List.map cI a0.left)) rfl ?_; refine tq (V.obj [(V.osl 1 (List.map (cS T_Op.c) a0.rounds)), (vi a0.wait), (vi a0.said), V.any, (vi a0.ticks)]) (by kernel_rfl) ?_; refine tq (vi (wr (r24 + 1))) (d_add) ?_; refine tbo (p_delete a0.left r24 (wr (r24 + 1))) fun r44 => ?_; refine tq V.any rfl ?_; refine tq V.any rfl ?_; refine tq [(V.osl 1 (List.map cI r44))] rfl ?_; refine tq (V.obj [(V.osl 1 (List.map (cS T_Op.c) a0.rounds)), (vi a0.wait), (vi a0.said), (V.osl 1 (List.map cI r44)), (vi a0.ticks)]) (by kernel_rfl) ?_; exact rf_ret rfl
def an_drive_Drive_Done : Ann := .seq (.reg 0 [] [] []) (.seq (.reg 19 [] [] []) (.no))
noncomputable def sem_drive_Drive_Done (n : Nat) (xs : List V) : Option V := if xs.length ≤ 21 then denF Tryz.prog (envOf []) n Tryz.f16 an_drive_Drive_Done xs else none
theorem ok_drive_Drive_Done (n : Nat) : SemOk Tryz.prog DW 16 (sem_drive_Drive_Done n) := fun xs y h => by
 unfold sem_drive_Drive_Done at h
 split at h
 ·rename_i hl
  exact denF_ok stb Tryz.func16 (by kernel_rfl) (envOf_ok semsOk_nil) (by rw [Tryz.ntmps16]; exact hl) h
 ·cases h
theorem eq_drive_Drive_Done (n : Nat) (x0 : V) : sem_drive_Drive_Done n [x0] =
 (ptrF 0 x0).bind fun v1 =>
 (ptrF 3 v1).bind fun v2 =>
 (ldp none v2).bind fun v3 =>
 (lenS [v3]).bind fun v4 =>
 (bin2 Tryz.prog BinOp.eql 3 (ot 7) (oc 0) v4 (vi 0)).bind fun v5 =>
 (guardV v5 true (some x0)).bind fun v6 =>
 (guardV v5 true ((ptrF 0 v6).bind fun v7 =>
 some v7)).bind fun v8 =>
 (guardV v5 true ((ptrF 2 v8).bind fun v9 =>
 some v9)).bind fun v10 =>
 (guardV v5 true ((ldp none v10).bind fun v11 =>
 some v11)).bind fun v12 =>
 (guardV v5 true (some x0)).bind fun v13 =>
 (guardV v5 true ((ptrF 0 v13).bind fun v14 =>
 some v14)).bind fun v15 =>
 (guardV v5 true ((ptrF 0 v15).bind fun v16 =>
 some v16)).bind fun v17 =>
 (guardV v5 true ((ldp none v17).bind fun v18 =>
 some v18)).bind fun v19 =>
 (guardV v5 true ((lenS [v19]).bind fun v20 =>
 some v20)).bind fun v21 =>
 (guardV v5 true ((bin2 Tryz.prog BinOp.eql 3 (ot 13) (ot 18) v12 v21).bind fun v22 =>
 some v22)).bind fun v23 =>
 (pickV v5 v23 (vb false)).bind fun v24 =>
 some v24 := by kernel_rfl
noncomputable def t_drive_Drive_Done (a0 : T_drive_Drive) : Option Bool :=
 some ((decide ((List.length a0.left : Int) = 0)) && (decide (a0.said = (List.length a0.rounds : Int))))
theorem ty_drive_Drive_Done {n : Nat} (hn : bigN ≤ n) (a0 : T_drive_Drive) : Rv (fun x : Bool => (vb x)) (sem_drive_Drive_Done n [(V.ptr (T_drive_Drive.c a0))]) (t_drive_Drive_Done a0) := by
 rw [eq_drive_Drive_Done]
 unfold t_drive_Drive_Done; refine tq (V.ptr (T_drive_Drive.c a0)) (rfl) ?_; refine tq (V.ptr (List.drop 3 (T_drive_Drive.c a0))) (rfl) ?_; refine tq (V.sl (List.map cI a0.left)) (rfl) ?_; refine tq (vi (List.length a0.left : Int)) (p_len _) ?_; refine tq (vb (decide ((List.length a0.left : Int) = 0))) (d_eql) ?_; refine tg (x := (V.ptr (T_drive_Drive.c a0))) (fun h6 => rfl) ?_; refine tg (x := (V.ptr (T_drive_Drive.c a0))) (fun h8 => by first | exact bind_some_eq (rfl) | (simp only [gv_t h8]; exact bind_some_eq (rfl))) ?_; refine tg (x := (V.ptr (List.drop 2 (T_drive_Drive.c a0)))) (fun h11 => by first | exact bind_some_eq (rfl) | (simp only [gv_t h11]; exact bind_some_eq (rfl))) ?_; refine tg (x := (vi a0.said)) (fun h14 => by first | exact bind_some_eq (rfl) | (simp only [gv_t h14]; exact bind_some_eq (rfl))) ?_; refine tg (x := (V.ptr (T_drive_Drive.c a0))) (fun h17 => rfl) ?_; refine tg (x := (V.ptr (T_drive_Drive.c a0))) (fun h19 => by first | exact bind_some_eq (rfl) | (simp only [gv_t h19]; exact bind_some_eq (rfl))) ?_; refine tg (x := (V.ptr (T_drive_Drive.c a0))) (fun h22 => by first | exact bind_some_eq (rfl) | (simp only [gv_t h22]; exact bind_some_eq (rfl))) ?_; refine tg (x := (V.sl (List.map (cS T_Op.c) a0.rounds))) (fun h25 => by first | exact bind_some_eq (rfl) | (simp only [gv_t h25]; exact bind_some_eq (rfl))) ?_; refine tg (x := (vi (List.length a0.rounds : Int))) (fun h28 => by simp only [gv_t h28]; exact bind_some_eq (p_len _)) ?_; refine tg (x := (vb (decide (a0.said = (List.length a0.rounds : Int))))) (fun h31 => by simp only [gv_t h31]; exact bind_some_eq (d_eql)) ?_; refine tq (vb ((decide ((List.length a0.left : Int) = 0)) && (decide (a0.said = (List.length a0.rounds : Int))))) (pick_and (fun h9 => gv_t h9)) ?_; exact rf_ret rfl
def an_wire_sum : Ann := .seq (.reg 0 [] [] []) (.seq (.reg 0 [] [] []) (.seq (.seq (.reg 0 [] [] []) (.blk (some [.s 3]) (.loop [.s 3, .s 8] (.seq (.reg 0 [] [] []) (.seq (.cond none (.no) (.no)) (.seq (.blk none (.seq (.reg 0 [] [] []) (.reg 0 [] [] []))) (.reg 0 [] [] []))))))) (.seq (.reg 0 [] [] []) (.no))))
noncomputable def sem_wire_sum (n : Nat) (xs : List V) : Option V := if xs.length ≤ 20 then denF Tryz.prog (envOf []) n Tryz.f30 an_wire_sum xs else none
theorem ok_wire_sum (n : Nat) : SemOk Tryz.prog DW 30 (sem_wire_sum n) := fun xs y h => by
 unfold sem_wire_sum at h
 split at h
 ·rename_i hl
  exact denF_ok stb Tryz.func30 (by kernel_rfl) (envOf_ok semsOk_nil) (by rw [Tryz.ntmps30]; exact hl) h
 ·cases h
theorem eq_wire_sum (n : Nat) (x0 : V) : sem_wire_sum n [x0] =
 (lenS [x0]).bind fun v1 =>
 JoinPt (fun vs2 =>
 (bin2 Tryz.prog BinOp.rem 3 (ot 17) (oc 251) (List.getD vs2 0 V.any) (vi 251)).bind fun v4 =>
 (scal1 Tryz.prog (convert 3 5) v4).bind fun v5 =>
 some v5) fun J3 =>
 (fixN (fun rec6 vs7 =>
 (bin2 Tryz.prog BinOp.lss 3 (ot 8) (ot 7) (List.getD vs7 1 V.any) v1).bind fun v8 =>
 condV v8 (
 (idxS 1 x0 (List.getD vs7 1 V.any)).bind fun v9 =>
 (ldp none v9).bind fun v10 =>
 (scal1 Tryz.prog (convert 5 3) v10).bind fun v11 =>
 (bin2 Tryz.prog BinOp.add 3 (ot 12) (ot 14) (List.getD vs7 0 V.any) v11).bind fun v12 =>
 (bin2 Tryz.prog BinOp.add 3 (ot 8) (oc 1) (List.getD vs7 1 V.any) (vi 1)).bind fun v13 =>
 rec6 [v12, v13]) (
 J3 [(List.getD vs7 0 V.any)])) n) [(vi 0), (vi 0)] := by kernel_rfl
noncomputable def t_wire_sum (a0 : (List Int)) : Option Int :=
 (loopI a0 (fun (i15 : Int) x16 (s11 : Int) k12 =>
 k12 (wr (s11 + (wr x16)))) (fun (s11 : Int) =>
 some (s11)) (0)).bind fun (s4 : Int) =>
 some (IntKind.u8.wrap (Int.tmod s4 251))
theorem ty_wire_sum {n : Nat} (hn : bigN ≤ n) (a0 : (List Int)) : Rv (fun x : Int => (V.lit (.int .u8 x))) (sem_wire_sum n [(V.sl (List.map cY a0))]) (t_wire_sum a0) := by
 rw [eq_wire_sum]
 unfold t_wire_sum; refine tq (vi (List.length a0 : Int)) (p_len _) ?_; refine tjb (mk := fun s4 : Int => [(vi s4)]) (fun J3 => ?_) fun s4 => ?_
 ·refine rf_loopI (mk := fun (i15 : Int) (s11 : Int) => [(vi s11), (vi (i15 : Int))]) hn a0 (0) (fun i15 x16 h17 h18 h19 s11 rec9 k12 h13 => ?_) (fun s11 rec27 h26 => ?_)
  ·refine tq (vb (decide ((i15 : Int) < (List.length a0 : Int)))) (d_lss) ?_; refine tcond_t h19 ?_; refine tq (V.ptr [(V.lit (.int .u8 x16))]) (p_idx_at (c := cY) (fun _ => rfl) h17) ?_; refine tq (V.lit (.int .u8 x16)) (rfl) ?_; refine tq (vi (wr x16)) (scal1_lit (r := .int .i64 (IntKind.i64.wrap x16)) rfl (fun w => by kernel_rfl) rfl) ?_; refine tq (vi (wr (s11 + (wr x16)))) (d_add) ?_; refine tq (vi ((i15 : Int) + 1)) (p_incN h18) ?_; exact h13 (wr (s11 + (wr x16)))
  ·refine tq (vb (decide ((List.length a0 : Int) < (List.length a0 : Int)))) (d_lss) ?_; refine tcond_f h26 ?_; exact rf_j rfl
 ·refine tq (vi (Int.tmod s4 251)) (p_rem (by decide)) ?_; refine tq (V.lit (.int .u8 (IntKind.u8.wrap (Int.tmod s4 251)))) (scal1_lit (r := .int .u8 (IntKind.u8.wrap (Int.tmod s4 251))) rfl (fun w => by kernel_rfl) rfl) ?_; exact rf_ret rfl
def an_wire_Encode : Ann := .seq (.reg 0 [] [] []) (.seq (.seq (.reg 0 [] [] []) (.seq (.reg 0 [] [] []) (.cond none (.seq (.reg 0 [] [] []) (.no)) (.no)))) (.seq (.reg 0 [] [] [24]) (.seq (.seq (.reg 0 [] [] []) (.cond (some [.s 5]) (.seq (.reg 0 [] [] []) (.seq (.seq (.reg 0 [] [] []) (.cond (some [.kb 1, .r 5 3, .s 6]) (.reg 0 [] [] []) (.no))) (.seq (.reg 0 [] [] []) (.reg 0 [] [] [])))) (.no))) (.seq (.reg 0 [] [] []) (.seq (.seq (.reg 0 [] [] []) (.blk (some [.r 8 5]) (.loop [.r 8 5, .s 52, .s 54] (.seq (.reg 0 [] [] []) (.seq (.cond none (.no) (.no)) (.seq (.blk none (.seq (.reg 0 [] [] []) (.reg 0 [] [] []))) (.reg 0 [] [] []))))))) (.seq (.reg 0 [] [] []) (.no)))))))
noncomputable def sem_wire_Encode (n : Nat) (xs : List V) : Option V := if xs.length ≤ 70 then denF Tryz.prog (envOf [(29, (sem_wire_Check n)), (30, (sem_wire_sum n))]) n Tryz.f8 an_wire_Encode xs else none
theorem ok_wire_Encode (n : Nat) : SemOk Tryz.prog DW 8 (sem_wire_Encode n) := fun xs y h => by
 unfold sem_wire_Encode at h
 split at h
 ·rename_i hl
  exact denF_ok stb Tryz.func8 (by kernel_rfl) (envOf_ok (semsOk_cons (ok_wire_Check n) (semsOk_cons (ok_wire_sum n) semsOk_nil))) (by rw [Tryz.ntmps8]; exact hl) h
 ·cases h
theorem eq_wire_Encode (n : Nat) (x0 : V) : sem_wire_Encode n [x0] =
 (V.cellsO x0).bind fun v1 =>
 (ldk (some 12) (List.drop 0 v1)).bind fun v2 =>
 ((sem_wire_Check n) [v2]).bind fun v3 =>
 (bin2 Tryz.prog BinOp.neq 32 (ot 13) (Operand.const Go.Value.nilIface) v3 vn).bind fun v4 =>
 condV v4 (
 some (V.tup [(vt ⟨#[]⟩), v3])) (
 (ldk none (List.drop 0 v1)).bind fun v5 =>
 (ldk none (List.drop 1 v1)).bind fun v6 =>
 (ldk none (List.drop 2 v1)).bind fun v7 =>
 (ldk none (List.drop 3 v1)).bind fun v8 =>
 (slcB 1 4 [(vi 0)] [(0, v5), (1, v6), (2, v7), (3, v8)]).bind fun v9 =>
 (ldk none (List.drop 0 v1)).bind fun v10 =>
 (bin2 Tryz.prog BinOp.eql 3 (ot 26) (oc 1) v10 (vi 1)).bind fun v11 =>
 JoinPt (fun vs12 =>
 (lenS [(List.getD vs12 0 V.any)]).bind fun v14 =>
 JoinPt (fun vs15 =>
 ((sem_wire_sum n) [(V.sl (slL (List.getD vs15 0 V.any)))]).bind fun v17 =>
 (slcB 1 1 [(V.lit (Go.Value.int Go.IntKind.u8 0))] [(0, v17)]).bind fun v18 =>
 (appV 1 (slL (List.getD vs15 0 V.any)) v18).bind fun v19 =>
 (b2s (V.sl (slL v19))).bind fun v20 =>
 some (V.tup [v20, vn])) fun J16 =>
 (fixN (fun rec21 vs22 =>
 (bin2 Tryz.prog BinOp.lss 3 (ot 54) (ot 53) (List.getD vs22 2 V.any) v14).bind fun v23 =>
 condV v23 (
 (idxS 1 (List.getD vs22 1 V.any) (List.getD vs22 2 V.any)).bind fun v24 =>
 (ldp none v24).bind fun v25 =>
 (scal1 Tryz.prog (convert 3 5) v25).bind fun v26 =>
 (slcB 1 1 [(V.lit (Go.Value.int Go.IntKind.u8 0))] [(0, v26)]).bind fun v27 =>
 (appV 1 (slL (List.getD vs22 0 V.any)) v27).bind fun v28 =>
 (bin2 Tryz.prog BinOp.add 3 (ot 54) (oc 1) (List.getD vs22 2 V.any) (vi 1)).bind fun v29 =>
 rec21 [(V.sl (slL v28)), (List.getD vs22 1 V.any), v29]) (
 J16 [(V.sl (slL (List.getD vs22 0 V.any)))])) n) [(V.sl []), (List.getD vs12 0 V.any), (vi 0)]) fun J13 =>
 condV v11 (
 (ldk none (List.drop 5 v1)).bind fun v30 =>
 JoinPt (fun vs31 =>
 (ldk (some 6) (List.drop 6 v1)).bind fun v33 =>
 (spliceV [(vi 0), (vi 0), (vi 0), (vi 0), (vi 0), (vi 0)] 0 6 v33).bind fun v34 =>
 (ldk none (List.drop 0 (aggL v34))).bind fun v35 =>
 (ldk none (List.drop 1 (aggL v34))).bind fun v36 =>
 (ldk none (List.drop 2 (aggL v34))).bind fun v37 =>
 (ldk none (List.drop 3 (aggL v34))).bind fun v38 =>
 (ldk none (List.drop 4 (aggL v34))).bind fun v39 =>
 (ldk none (List.drop 5 (aggL v34))).bind fun v40 =>
 (slcB 1 7 [(vi 0)] [(0, (List.getD vs31 1 V.any)), (1, v35), (2, v36), (3, v37), (4, v38), (5, v39), (6, v40)]).bind fun v41 =>
 (appV 1 (slL (List.getD vs31 0 V.any)) v41).bind fun v42 =>
 J13 [(V.sl (slL v42))]) fun J32 =>
 condV v30 (
 (keepO (some v1) (some v1) (some [(V.sl (slL v9)), (vi 1)])).bind J32) (
 (keepO (some v1) (some v1) (some [(V.sl (slL v9)), (vi 0)])).bind J32)) (
 J13 [(V.sl (slL v9))])) := by kernel_rfl
noncomputable def t_wire_Encode (a0 : T_Msg) : Option (ByteArray × Int) :=
 (t_wire_Check a0).bind fun r4 =>
 if (!decide (r4 = 0)) = true then (
 some ((ByteArray.mk #[]), r4)) else (
 (if (decide (a0.Kind = 1)) = true then (
 (if a0.Op.Add = true then (
 some (([a0.Kind, a0.Switch, a0.Round, a0.Index] : (List Int)), 1)) else (
 some (([a0.Kind, a0.Switch, a0.Round, a0.Index] : (List Int)), 0))).bind fun (s57 : ((List Int) × Int)) =>
 (app s57.1 ([s57.2, a0.Op.Rule.Prio, a0.Op.Rule.Cube.Mask, a0.Op.Rule.Cube.Bits, a0.Op.Rule.Out, a0.Op.Rule.Set, a0.Op.Rule.Value] : (List Int))).bind fun r70 =>
 some (r70)) else (
 some ([a0.Kind, a0.Switch, a0.Round, a0.Index] : (List Int)))).bind fun (s16 : (List Int)) =>
 (loopI s16 (fun (i37 : Int) x38 (s33 : (List Int)) k34 =>
 (app s33 ([(IntKind.u8.wrap x38)] : (List Int))).bind fun r48 =>
 k34 (r48)) (fun (s33 : (List Int)) =>
 some (s33)) ([])).bind fun (s22 : (List Int)) =>
 (t_wire_sum s22).bind fun r26 =>
 (app s22 ([r26] : (List Int))).bind fun r29 =>
 some ((strOfNums r29), 0))
theorem ty_wire_Encode {n : Nat} (hn : bigN ≤ n) (a0 : T_Msg) : Rv (fun x : (ByteArray × Int) => V.tup [(vt x.1), (eV x.2)]) (sem_wire_Encode n [(T_Msg.e a0)]) (t_wire_Encode a0) := by
 rw [eq_wire_Encode]
 unfold t_wire_Encode; refine tq (T_Msg.c a0) rfl ?_; refine tq (T_Msg.e a0) (rfl) ?_; refine tbo (ty_wire_Check hn a0) fun r4 => ?_; refine tq (vb (!decide (r4 = 0))) (p_err_neq _) ?_; refine tcond (fun h6 => ?_) (fun h6 => ?_)
 ·exact rf_ret rfl
 ·refine tq (vi a0.Kind) (rfl) ?_; refine tq (vi a0.Switch) (rfl) ?_; refine tq (vi a0.Round) (rfl) ?_; refine tq (vi a0.Index) (rfl) ?_; refine tq (V.sl (List.map cI ([a0.Kind, a0.Switch, a0.Round, a0.Index] : (List Int)))) (by kernel_rfl) ?_; refine tq (vi a0.Kind) (rfl) ?_; refine tq (vb (decide (a0.Kind = 1))) (d_eql) ?_; refine tjb (mk := fun s16 : (List Int) => [(V.sl (List.map cI s16))]) (fun J15 => ?_) fun s16 => ?_
  ·refine tcond (fun h53 => ?_) (fun h53 => ?_)
   ·refine tq (vb a0.Op.Add) (rfl) ?_; refine tjb (mk := fun s57 : ((List Int) × Int) => [(V.sl (List.map cI s57.1)), (vi s57.2)]) (fun J56 => ?_) fun s57 => ?_
    ·refine tcond (fun h71 => ?_) (fun h71 => ?_)
     ·refine tkeepO2 ?_ rfl; refine tsome ?_; exact rf_j rfl
     ·refine tkeepO2 ?_ rfl; refine tsome ?_; exact rf_j rfl
    ·refine tq (T_Rule.e a0.Op.Rule) (rfl) ?_; refine tq (V.agg (T_Rule.c a0.Op.Rule)) (by kernel_rfl) ?_; refine tq (vi a0.Op.Rule.Prio) (rfl) ?_; refine tq (vi a0.Op.Rule.Cube.Mask) (rfl) ?_; refine tq (vi a0.Op.Rule.Cube.Bits) (rfl) ?_; refine tq (vi a0.Op.Rule.Out) (rfl) ?_; refine tq (vi a0.Op.Rule.Set) (rfl) ?_; refine tq (vi a0.Op.Rule.Value) (rfl) ?_; refine tq (V.sl (List.map cI ([s57.2, a0.Op.Rule.Prio, a0.Op.Rule.Cube.Mask, a0.Op.Rule.Cube.Bits, a0.Op.Rule.Out, a0.Op.Rule.Set, a0.Op.Rule.Value] : (List Int)))) (by kernel_rfl) ?_; refine tbo (p_app (c := cI) (fun _ => rfl) s57.1 ([s57.2, a0.Op.Rule.Prio, a0.Op.Rule.Cube.Mask, a0.Op.Rule.Cube.Bits, a0.Op.Rule.Out, a0.Op.Rule.Set, a0.Op.Rule.Value] : (List Int))) fun r70 => ?_; exact rf_j rfl
   ·exact rf_j rfl
  ·refine tq (vi (List.length s16 : Int)) (p_len _) ?_; refine tjb (mk := fun s22 : (List Int) => [(V.sl (List.map cY s22))]) (fun J21 => ?_) fun s22 => ?_
   ·refine rf_loopI (mk := fun (i37 : Int) (s33 : (List Int)) => [(V.sl (List.map cY s33)), (V.sl (List.map cI s16)), (vi (i37 : Int))]) hn s16 ([]) (fun i37 x38 h39 h40 h41 s33 rec31 k34 h35 => ?_) (fun s33 rec51 h50 => ?_)
    ·refine tq (vb (decide ((i37 : Int) < (List.length s16 : Int)))) (d_lss) ?_; refine tcond_t h41 ?_; refine tq (V.ptr [(vi x38)]) (p_idx_at (c := cI) (fun _ => rfl) h39) ?_; refine tq (vi x38) (rfl) ?_; refine tq (V.lit (.int .u8 (IntKind.u8.wrap x38))) (scal1_lit (r := .int .u8 (IntKind.u8.wrap x38)) rfl (fun w => by kernel_rfl) rfl) ?_; refine tq (V.sl (List.map cY ([(IntKind.u8.wrap x38)] : (List Int)))) (by kernel_rfl) ?_; refine tbo (p_app (c := cY) (fun _ => rfl) s33 ([(IntKind.u8.wrap x38)] : (List Int))) fun r48 => ?_; refine tq (vi ((i37 : Int) + 1)) (p_incN h40) ?_; exact h35 (r48)
    ·refine tq (vb (decide ((List.length s16 : Int) < (List.length s16 : Int)))) (d_lss) ?_; refine tcond_f h50 ?_; exact rf_j rfl
   ·refine tbo (ty_wire_sum hn s22) fun r26 => ?_; refine tq (V.sl (List.map cY ([r26] : (List Int)))) (by kernel_rfl) ?_; refine tbo (p_app (c := cY) (fun _ => rfl) s22 ([r26] : (List Int))) fun r29 => ?_; refine tq (vt (strOfNums r29)) (p_b2s) ?_; exact rf_ret rfl
end Go.Proofs.YtgkohnjpnnofhaaGreat.Ty
