/- What functions do, as functions on plain types, written by a program and checked by the kernel. -/
import Derived.Test.YtgfleiknigjnbaaDoorDenDoor
import Derived.Test.YtgfleiknigjnbaaDoorTy
import Derived.Test.YtgfleiknigjnbaaDoorTyT
import Derived.Test.YtgfleiknigjnbaaDoorTyZ
import Derived.Test.YtgfleiknigjnbaaDoorDen14
import Derived.Test.YtgfleiknigjnbaaDoorDenS2
import Derived.Test.YtgfleiknigjnbaaDoorShelf
import Derived.Test.YtgfleiknigjnbaaDoorClone
namespace Go.Proofs.YtgfleiknigjnbaaDoor.Ty
open Go Go.RowKit Go.Proofs.YtgfleiknigjnbaaDoor.Den
set_option linter.unusedVariables false
set_option maxRecDepth 100000

/-! slices.IndexFunc   railpoint/api.Round railpoint/api.Round  -/
def an_slices_IndexFunc_api_Round_api_Round : Ann := .seq (.reg 0 [] [] []) (.seq (.seq (.reg 0 [] [] []) (.blk (some []) (.loop [.s 8] (.seq (.reg 0 [] [] []) (.seq (.cond none (.no) (.no)) (.seq (.blk none (.seq (.reg 0 [] [] []) (.seq (.reg 0 [] [] []) (.cond none (.seq (.reg 0 [] [] []) (.no)) (.no))))) (.reg 0 [] [] []))))))) (.seq (.reg 0 [] [] []) (.no)))
noncomputable def sem_slices_IndexFunc_api_Round_api_Round (E : FuncId → List V → Option V) (n : Nat) (xs : List V) : Option V := if xs.length ≤ 19 then denF Tryd.prog (envJ [] E) n Tryd.f80 an_slices_IndexFunc_api_Round_api_Round xs else none
theorem ok_slices_IndexFunc_api_Round_api_Round {E : FuncId → List V → Option V} (hE : EnvOk Tryd.prog DW E) (n : Nat) : SemOk Tryd.prog DW 80 (sem_slices_IndexFunc_api_Round_api_Round E n) := fun xs y h => by
  unfold sem_slices_IndexFunc_api_Round_api_Round at h
  split at h
  · rename_i hl
    exact denF_ok stb Tryd.func80 (by kernel_rfl) (envJ_ok semsOk_nil hE) (by rw [Tryd.ntmps80]; exact hl) h
  · cases h
theorem eq_slices_IndexFunc_api_Round_api_Round (E : FuncId → List V → Option V) (n : Nat) (x0 x1 : V) : sem_slices_IndexFunc_api_Round_api_Round E n [x0, x1] =
 (lenS [x0]).bind fun v1 =>
 JoinPt (fun vs2 =>
 some (vi (-1 : Int))) fun J3 =>
 (fixN (fun rec4 vs5 =>
 (bin2 Tryd.prog BinOp.lss 3 (ot 8) (ot 7) (List.getD vs5 0 V.any) v1).bind fun v6 =>
 condV v6 (
 (idxS 1 x0 (List.getD vs5 0 V.any)).bind fun v7 =>
 (ldp none v7).bind fun v8 =>
 (callV (envJ [] E) x1 [v8]).bind fun v9 =>
 condV v9 (
 some (List.getD vs5 0 V.any)) (
 (bin2 Tryd.prog BinOp.add 3 (ot 8) (oc 1) (List.getD vs5 0 V.any) (vi 1)).bind fun v10 =>
 rec4 [v10])) (
 J3 [])) n) [(vi 0)] := by kernel_rfl
noncomputable def t_slices_IndexFunc_api_Round_api_Round (a0 : (List (List T_Op))) (g1 : (List T_Op) → Option Bool) : Option Int :=
 join (fun (s4 : Unit) =>
 some (-1 : Int)) fun j5 =>
 loopI a0 (fun (i13 : Int) x14 (s9 : Unit) k10 =>
 (g1 x14).bind fun r22 =>
 if r22 = true then (
 some i13) else (
 k10 ())) (fun (s9 : Unit) =>
 j5 ()) ()
theorem ty_slices_IndexFunc_api_Round_api_Round {E : FuncId → List V → Option V} {n : Nat} (hn : bigN ≤ n) (a0 : (List (List T_Op))) {x1 : V} {g1 : (List T_Op) → Option Bool} (hg_g1 : ∀ a0, Rv (fun x : Bool => (vb x)) (callV E x1 [(V.sl (List.map T_Op.c a0))]) (g1 a0)) : Rv (fun x : Int => (vi x)) (sem_slices_IndexFunc_api_Round_api_Round E n [(V.sl (List.map (cS T_Op.c) a0)), x1]) (t_slices_IndexFunc_api_Round_api_Round a0 g1) := by
  rw [eq_slices_IndexFunc_api_Round_api_Round]
  unfold t_slices_IndexFunc_api_Round_api_Round
  refine tb (x := (vi (List.length a0 : Int))) (p_len _) ?_
  refine tjoin (mk := fun s4 : Unit => []) (fun s4 => ?_) fun J3 j5 h6 => ?_
  · exact rf_ret rfl
  · refine rf_loopI (mk := fun (i13 : Int) (s9 : Unit) => [(vi (i13 : Int))]) hn a0 () (fun i13 x14 h15 h16 h17 s9 rec7 k10 h11 => ?_) (fun s9 rec26 h25 => ?_)
    · refine tb (x := (vb (decide ((i13 : Int) < (List.length a0 : Int))))) (d_lss) ?_
      refine tcond_t h17 ?_
      refine tb (x := (V.ptr [(V.sl (List.map T_Op.c x14))])) (p_idx_at (c := (cS T_Op.c)) (fun _ => rfl) h15) ?_
      refine tb (x := (V.sl (List.map T_Op.c x14))) (rfl) ?_
      refine tbo ((callV_J0 ▸ hg_g1 x14)) fun r22 => ?_
      refine tcond (fun h23 => ?_) (fun h23 => ?_)
      · exact rf_ret rfl
      · refine tb (x := (vi ((i13 : Int) + 1))) (p_incN h16) ?_
        exact h11 ()
    · refine tb (x := (vb (decide ((List.length a0 : Int) < (List.length a0 : Int))))) (d_lss) ?_
      refine tcond_f h25 ?_
      exact h6 ()

/-! slices.ContainsFunc   railpoint/api.Round railpoint/api.Round  -/
def an_slices_ContainsFunc_api_Round_api_Round : Ann := .seq (.reg 0 [] [] []) (.seq (.reg 0 [] [] []) (.no))
noncomputable def sem_slices_ContainsFunc_api_Round_api_Round (E : FuncId → List V → Option V) (n : Nat) (xs : List V) : Option V := if xs.length ≤ 9 then denF Tryd.prog (envJ [(80, (sem_slices_IndexFunc_api_Round_api_Round E n))] E) n Tryd.f55 an_slices_ContainsFunc_api_Round_api_Round xs else none
theorem ok_slices_ContainsFunc_api_Round_api_Round {E : FuncId → List V → Option V} (hE : EnvOk Tryd.prog DW E) (n : Nat) : SemOk Tryd.prog DW 55 (sem_slices_ContainsFunc_api_Round_api_Round E n) := fun xs y h => by
  unfold sem_slices_ContainsFunc_api_Round_api_Round at h
  split at h
  · rename_i hl
    exact denF_ok stb Tryd.func55 (by kernel_rfl) (envJ_ok (semsOk_cons (ok_slices_IndexFunc_api_Round_api_Round hE n) semsOk_nil) hE) (by rw [Tryd.ntmps55]; exact hl) h
  · cases h
theorem eq_slices_ContainsFunc_api_Round_api_Round (E : FuncId → List V → Option V) (n : Nat) (x0 x1 : V) : sem_slices_ContainsFunc_api_Round_api_Round E n [x0, x1] =
 ((sem_slices_IndexFunc_api_Round_api_Round E n) [x0, x1]).bind fun v1 =>
 (bin2 Tryd.prog BinOp.geq 3 (ot 7) (oc 0) v1 (vi 0)).bind fun v2 =>
 some v2 := by kernel_rfl
noncomputable def t_slices_ContainsFunc_api_Round_api_Round (a0 : (List (List T_Op))) (g1 : (List T_Op) → Option Bool) : Option Bool :=
 (t_slices_IndexFunc_api_Round_api_Round a0 g1).bind fun r2 =>
 some (decide (0 ≤ r2))
theorem ty_slices_ContainsFunc_api_Round_api_Round {E : FuncId → List V → Option V} {n : Nat} (hn : bigN ≤ n) (a0 : (List (List T_Op))) {x1 : V} {g1 : (List T_Op) → Option Bool} (hg_g1 : ∀ a0, Rv (fun x : Bool => (vb x)) (callV E x1 [(V.sl (List.map T_Op.c a0))]) (g1 a0)) : Rv (fun x : Bool => (vb x)) (sem_slices_ContainsFunc_api_Round_api_Round E n [(V.sl (List.map (cS T_Op.c) a0)), x1]) (t_slices_ContainsFunc_api_Round_api_Round a0 g1) := by
  rw [eq_slices_ContainsFunc_api_Round_api_Round]
  unfold t_slices_ContainsFunc_api_Round_api_Round
  refine tbo (ty_slices_IndexFunc_api_Round_api_Round (E := E) (x1 := x1) (g1 := g1) hn a0 hg_g1) fun r2 => ?_
  refine tb (x := (vb (decide (0 ≤ r2)))) (d_geq) ?_
  exact rf_ret rfl

/-! railpoint/cube.Header -/
def an_cube_Header : Ann := .seq (.reg 0 [] [] []) (.seq (.reg 0 [] [] []) (.no))
noncomputable def sem_cube_Header (n : Nat) (xs : List V) : Option V := if xs.length ≤ 9 then denF Tryd.prog (envOf []) n Tryd.f81 an_cube_Header xs else none
theorem ok_cube_Header (n : Nat) : SemOk Tryd.prog DW 81 (sem_cube_Header n) := fun xs y h => by
  unfold sem_cube_Header at h
  split at h
  · rename_i hl
    exact denF_ok stb Tryd.func81 (by kernel_rfl) (envOf_ok semsOk_nil) (by rw [Tryd.ntmps81]; exact hl) h
  · cases h
theorem eq_cube_Header (n : Nat) (x0 : V) : sem_cube_Header n [x0] =
 (bin2 Tryd.prog BinOp.geq 3 (ot 3) (oc 0) x0 (vi 0)).bind fun v1 =>
 (guardV v1 true (some x0)).bind fun v2 =>
 (guardV v1 true ((bin2 Tryd.prog BinOp.lss 3 (ot 6) (oc 16) v2 (vi 16)).bind fun v3 =>
 some v3)).bind fun v4 =>
 (pickV v1 v4 (vb false)).bind fun v5 =>
 some v5 := by kernel_rfl
noncomputable def t_cube_Header (a0 : Int) : Option Bool :=
 some ((decide (0 ≤ a0)) && (decide (a0 < 16)))
theorem ty_cube_Header {n : Nat} (hn : bigN ≤ n) (a0 : Int) : Rv (fun x : Bool => (vb x)) (sem_cube_Header n [(vi a0)]) (t_cube_Header a0) := by
  rw [eq_cube_Header]
  unfold t_cube_Header
  refine tb (x := (vb (decide (0 ≤ a0)))) (d_geq) ?_
  refine tg (x := (vi a0)) (fun h2 => rfl) ?_
  refine tg (x := (vb (decide (a0 < 16)))) (fun h4 => by simp only [gv_t h4]; exact bind_some_eq (d_lss)) ?_
  refine tb (x := (vb ((decide (0 ≤ a0)) && (decide (a0 < 16))))) (pick_and (fun h9 => gv_t h9)) ?_
  exact rf_ret rfl

/-! railpoint/cube.Check -/
def an_cube_Check : Ann := .seq (.reg 0 [] [] []) (.seq (.blk none (.seq (.reg 0 [] [] []) (.cond none (.seq (.reg 0 [] [] []) (.no)) (.seq (.reg 0 [] [] []) (.cond none (.seq (.reg 0 [] [] []) (.no)) (.no)))))) (.seq (.reg 0 [] [] []) (.no)))
noncomputable def sem_cube_Check (n : Nat) (xs : List V) : Option V := if xs.length ≤ 23 then denF Tryd.prog (envOf [(81, (sem_cube_Header n))]) n Tryd.f82 an_cube_Check xs else none
theorem ok_cube_Check (n : Nat) : SemOk Tryd.prog DW 82 (sem_cube_Check n) := fun xs y h => by
  unfold sem_cube_Check at h
  split at h
  · rename_i hl
    exact denF_ok stb Tryd.func82 (by kernel_rfl) (envOf_ok (semsOk_cons (ok_cube_Header n) semsOk_nil)) (by rw [Tryd.ntmps82]; exact hl) h
  · cases h
theorem eq_cube_Check (n : Nat) (x0 : V) : sem_cube_Check n [x0] =
 (V.cellsO x0).bind fun v1 =>
 (ldk none (List.drop 0 v1)).bind fun v2 =>
 ((sem_cube_Header n) [v2]).bind fun v3 =>
 (scal1 Tryd.prog (Op.unary Go.UnOp.not) v3).bind fun v4 =>
 (guardV v4 false (some V.any)).bind fun v5 =>
 (guardV v4 false ((gate v4 false (ldk none (List.drop 1 v1))).bind fun v6 =>
 some v6)).bind fun v7 =>
 (guardV v4 false (((sem_cube_Header n) [v7]).bind fun v8 =>
 some v8)).bind fun v9 =>
 (guardV v4 false ((scal1 Tryd.prog (Op.unary Go.UnOp.not) v9).bind fun v10 =>
 some v10)).bind fun v11 =>
 (pickV v4 (vb true) v11).bind fun v12 =>
 condV v12 (
 (scal1 Tryd.prog (Instr.makeInterface 87) (vi 1)).bind fun v13 =>
 some v13) (
 (ldk none (List.drop 1 v1)).bind fun v14 =>
 (ldk none (List.drop 0 v1)).bind fun v15 =>
 (bin2 Tryd.prog BinOp.andNot 3 (ot 17) (ot 19) v14 v15).bind fun v16 =>
 (bin2 Tryd.prog BinOp.neq 3 (ot 20) (oc 0) v16 (vi 0)).bind fun v17 =>
 condV v17 (
 (scal1 Tryd.prog (Instr.makeInterface 87) (vi 3)).bind fun v18 =>
 some v18) (
 some vn)) := by kernel_rfl
noncomputable def t_cube_Check (a0 : T_Cube) : Option Int :=
 (t_cube_Header a0.Mask).bind fun r4 =>
 (gd (!(!r4)) default (t_cube_Header a0.Bits)).bind fun r14 =>
 if ((!r4) || (!r14)) = true then (
 some 1) else (
 if (decide ((bits .andNot .i64 a0.Bits a0.Mask) ≠ 0)) = true then (
 some 3) else (
 some 0))
theorem ty_cube_Check {n : Nat} (hn : bigN ≤ n) (a0 : T_Cube) : Rv (fun x : Int => (eV x)) (sem_cube_Check n [(T_Cube.e a0)]) (t_cube_Check a0) := by
  rw [eq_cube_Check]
  unfold t_cube_Check
  refine tb (x := (T_Cube.c a0)) rfl ?_
  refine tb (x := (vi a0.Mask)) (rfl) ?_
  refine tbo (ty_cube_Header hn a0.Mask) fun r4 => ?_
  refine tb (x := (vb (!r4))) (d_not) ?_
  refine tg_f (x := V.any) (fun h6 => rfl) ?_
  refine tg_f (x := (vi a0.Bits)) (fun h8 => bind_some_eq (gate_pos (not_t h8) (rfl))) ?_
  refine tgo_f (fun h11 => by simp only [gv_t h11]; exact rf_bind_some (ty_cube_Header hn a0.Bits)) fun r14 => ?_
  refine tg_f (x := (vb (!r14))) (fun h15 => by simp only [gv_t h15]; exact bind_some_eq (d_not)) ?_
  refine tb (x := (vb ((!r4) || (!r14)))) (pick_or (fun h9 => gv_t (not_f h9))) ?_
  refine tcond (fun h19 => ?_) (fun h19 => ?_)
  · refine tb (x := (eV 1)) (p_mkE (by decide)) ?_
    exact rf_ret rfl
  · refine tb (x := (vi a0.Bits)) (rfl) ?_
    refine tb (x := (vi a0.Mask)) (rfl) ?_
    refine tb (x := (vi (bits .andNot .i64 a0.Bits a0.Mask))) (d_andNot) ?_
    refine tb (x := (vb (decide ((bits .andNot .i64 a0.Bits a0.Mask) ≠ 0)))) (d_neq) ?_
    refine tcond (fun h25 => ?_) (fun h25 => ?_)
    · refine tb (x := (eV 3)) (p_mkE (by decide)) ?_
      exact rf_ret rfl
    · exact rf_ret rfl

/-! railpoint/rule.Check -/
def an_rule_Check : Ann := .seq (.reg 0 [] [] []) (.seq (.seq (.reg 0 [] [] []) (.cond none (.seq (.reg 0 [] [] []) (.no)) (.no))) (.seq (.seq (.reg 0 [] [] []) (.seq (.reg 0 [] [] []) (.cond none (.seq (.reg 0 [] [] []) (.no)) (.no)))) (.seq (.seq (.reg 0 [] [] []) (.cond none (.seq (.reg 0 [] [] []) (.no)) (.no))) (.seq (.reg 0 [] [] []) (.no)))))
noncomputable def sem_rule_Check (n : Nat) (xs : List V) : Option V := if xs.length ≤ 58 then denF Tryd.prog (envOf [(81, (sem_cube_Header n)), (82, (sem_cube_Check n))]) n Tryd.f57 an_rule_Check xs else none
theorem ok_rule_Check (n : Nat) : SemOk Tryd.prog DW 57 (sem_rule_Check n) := fun xs y h => by
  unfold sem_rule_Check at h
  split at h
  · rename_i hl
    exact denF_ok stb Tryd.func57 (by kernel_rfl) (envOf_ok (semsOk_cons (ok_cube_Header n) (semsOk_cons (ok_cube_Check n) semsOk_nil))) (by rw [Tryd.ntmps57]; exact hl) h
  · cases h
theorem eq_rule_Check (n : Nat) (x0 : V) : sem_rule_Check n [x0] =
 (V.cellsO x0).bind fun v1 =>
 (ldk none (List.drop 0 v1)).bind fun v2 =>
 (bin2 Tryd.prog BinOp.lss 3 (ot 5) (oc 0) v2 (vi 0)).bind fun v3 =>
 (guardV v3 false (some V.any)).bind fun v4 =>
 (guardV v3 false ((gate v3 false (ldk none (List.drop 0 v1))).bind fun v5 =>
 some v5)).bind fun v6 =>
 (guardV v3 false ((bin2 Tryd.prog BinOp.gtr 3 (ot 9) (oc 99) v6 (vi 99)).bind fun v7 =>
 some v7)).bind fun v8 =>
 (pickV v3 (vb true) v8).bind fun v9 =>
 (guardV v9 false (some V.any)).bind fun v10 =>
 (guardV v9 false ((gate v9 false (ldk none (List.drop 3 v1))).bind fun v11 =>
 some v11)).bind fun v12 =>
 (guardV v9 false ((bin2 Tryd.prog BinOp.lss 3 (ot 14) (oc 0) v12 (vi 0)).bind fun v13 =>
 some v13)).bind fun v14 =>
 (pickV v9 (vb true) v14).bind fun v15 =>
 (guardV v15 false (some V.any)).bind fun v16 =>
 (guardV v15 false ((gate v15 false (ldk none (List.drop 3 v1))).bind fun v17 =>
 some v17)).bind fun v18 =>
 (guardV v15 false ((bin2 Tryd.prog BinOp.gtr 3 (ot 19) (oc 4) v18 (vi 4)).bind fun v19 =>
 some v19)).bind fun v20 =>
 (pickV v15 (vb true) v20).bind fun v21 =>
 (guardV v21 false (some V.any)).bind fun v22 =>
 (guardV v21 false ((gate v21 false (ldk none (List.drop 4 v1))).bind fun v23 =>
 some v23)).bind fun v24 =>
 (guardV v21 false (((sem_cube_Header n) [v24]).bind fun v25 =>
 some v25)).bind fun v26 =>
 (guardV v21 false ((scal1 Tryd.prog (Op.unary Go.UnOp.not) v26).bind fun v27 =>
 some v27)).bind fun v28 =>
 (pickV v21 (vb true) v28).bind fun v29 =>
 (guardV v29 false (some V.any)).bind fun v30 =>
 (guardV v29 false ((gate v29 false (ldk none (List.drop 5 v1))).bind fun v31 =>
 some v31)).bind fun v32 =>
 (guardV v29 false (((sem_cube_Header n) [v32]).bind fun v33 =>
 some v33)).bind fun v34 =>
 (guardV v29 false ((scal1 Tryd.prog (Op.unary Go.UnOp.not) v34).bind fun v35 =>
 some v35)).bind fun v36 =>
 (pickV v29 (vb true) v36).bind fun v37 =>
 condV v37 (
 (scal1 Tryd.prog (Instr.makeInterface 87) (vi 1)).bind fun v38 =>
 some v38) (
 (ldk (some 2) (List.drop 1 v1)).bind fun v39 =>
 ((sem_cube_Check n) [v39]).bind fun v40 =>
 (bin2 Tryd.prog BinOp.neq 27 (ot 38) (Operand.const Go.Value.nilIface) v40 vn).bind fun v41 =>
 condV v41 (
 some v40) (
 (ldk none (List.drop 5 v1)).bind fun v42 =>
 (ldk none (List.drop 4 v1)).bind fun v43 =>
 (bin2 Tryd.prog BinOp.andNot 3 (ot 42) (ot 44) v42 v43).bind fun v44 =>
 (bin2 Tryd.prog BinOp.neq 3 (ot 45) (oc 0) v44 (vi 0)).bind fun v45 =>
 (guardV v45 false (some V.any)).bind fun v46 =>
 (guardV v45 false ((gate v45 false (ldk none (List.drop 3 v1))).bind fun v47 =>
 some v47)).bind fun v48 =>
 (guardV v45 false ((bin2 Tryd.prog BinOp.eql 3 (ot 49) (oc 0) v48 (vi 0)).bind fun v49 =>
 some v49)).bind fun v50 =>
 (guardV v45 false (some v50)).bind fun v51 =>
 (guardV v51 true (some V.any)).bind fun v52 =>
 (guardV v51 true ((gate v51 true (ldk none (List.drop 4 v1))).bind fun v53 =>
 some v53)).bind fun v54 =>
 (guardV v51 true ((bin2 Tryd.prog BinOp.neq 3 (ot 53) (oc 0) v54 (vi 0)).bind fun v55 =>
 some v55)).bind fun v56 =>
 (guardV v45 false ((pickV v51 v56 (vb false)).bind fun v57 =>
 some v57)).bind fun v58 =>
 (pickV v45 (vb true) v58).bind fun v59 =>
 condV v59 (
 (scal1 Tryd.prog (Instr.makeInterface 87) (vi 3)).bind fun v60 =>
 some v60) (
 some vn))) := by kernel_rfl
noncomputable def t_rule_Check (a0 : T_Rule) : Option Int :=
 (gd (!((((decide (a0.Prio < 0)) || (decide (99 < a0.Prio))) || (decide (a0.Out < 0))) || (decide (4 < a0.Out)))) default (t_cube_Header a0.Set)).bind fun r39 =>
 (gd (!(((((decide (a0.Prio < 0)) || (decide (99 < a0.Prio))) || (decide (a0.Out < 0))) || (decide (4 < a0.Out))) || (!r39))) default (t_cube_Header a0.Value)).bind fun r52 =>
 if ((((((decide (a0.Prio < 0)) || (decide (99 < a0.Prio))) || (decide (a0.Out < 0))) || (decide (4 < a0.Out))) || (!r39)) || (!r52)) = true then (
 some 1) else (
 (t_cube_Check a0.Cube).bind fun r61 =>
 if (!decide (r61 = 0)) = true then (
 some r61) else (
 if ((decide ((bits .andNot .i64 a0.Value a0.Set) ≠ 0)) || ((decide (a0.Out = 0)) && (decide (a0.Set ≠ 0)))) = true then (
 some 3) else (
 some 0)))
theorem ty_rule_Check {n : Nat} (hn : bigN ≤ n) (a0 : T_Rule) : Rv (fun x : Int => (eV x)) (sem_rule_Check n [(T_Rule.e a0)]) (t_rule_Check a0) := by
  rw [eq_rule_Check]
  unfold t_rule_Check
  refine tb (x := (T_Rule.c a0)) rfl ?_
  refine tb (x := (vi a0.Prio)) (rfl) ?_
  refine tb (x := (vb (decide (a0.Prio < 0)))) (d_lss) ?_
  refine tg_f (x := V.any) (fun h4 => rfl) ?_
  refine tg_f (x := (vi a0.Prio)) (fun h6 => bind_some_eq (gate_pos (not_t h6) (rfl))) ?_
  refine tg_f (x := (vb (decide (99 < a0.Prio)))) (fun h9 => by simp only [gv_t h9]; exact bind_some_eq (d_gtr)) ?_
  refine tb (x := (vb ((decide (a0.Prio < 0)) || (decide (99 < a0.Prio))))) (pick_or (fun h9 => gv_t (not_f h9))) ?_
  refine tg_f (x := V.any) (fun h13 => rfl) ?_
  refine tg_f (x := (vi a0.Out)) (fun h15 => bind_some_eq (gate_pos (not_t h15) (rfl))) ?_
  refine tg_f (x := (vb (decide (a0.Out < 0)))) (fun h18 => by simp only [gv_t h18]; exact bind_some_eq (d_lss)) ?_
  refine tb (x := (vb (((decide (a0.Prio < 0)) || (decide (99 < a0.Prio))) || (decide (a0.Out < 0))))) (pick_or (fun h9 => gv_t (not_f h9))) ?_
  refine tg_f (x := V.any) (fun h22 => rfl) ?_
  refine tg_f (x := (vi a0.Out)) (fun h24 => bind_some_eq (gate_pos (not_t h24) (rfl))) ?_
  refine tg_f (x := (vb (decide (4 < a0.Out)))) (fun h27 => by simp only [gv_t h27]; exact bind_some_eq (d_gtr)) ?_
  refine tb (x := (vb ((((decide (a0.Prio < 0)) || (decide (99 < a0.Prio))) || (decide (a0.Out < 0))) || (decide (4 < a0.Out))))) (pick_or (fun h9 => gv_t (not_f h9))) ?_
  refine tg_f (x := V.any) (fun h31 => rfl) ?_
  refine tg_f (x := (vi a0.Set)) (fun h33 => bind_some_eq (gate_pos (not_t h33) (rfl))) ?_
  refine tgo_f (fun h36 => by simp only [gv_t h36]; exact rf_bind_some (ty_cube_Header hn a0.Set)) fun r39 => ?_
  refine tg_f (x := (vb (!r39))) (fun h40 => by simp only [gv_t h40]; exact bind_some_eq (d_not)) ?_
  refine tb (x := (vb (((((decide (a0.Prio < 0)) || (decide (99 < a0.Prio))) || (decide (a0.Out < 0))) || (decide (4 < a0.Out))) || (!r39)))) (pick_or (fun h9 => gv_t (not_f h9))) ?_
  refine tg_f (x := V.any) (fun h44 => rfl) ?_
  refine tg_f (x := (vi a0.Value)) (fun h46 => bind_some_eq (gate_pos (not_t h46) (rfl))) ?_
  refine tgo_f (fun h49 => by simp only [gv_t h49]; exact rf_bind_some (ty_cube_Header hn a0.Value)) fun r52 => ?_
  refine tg_f (x := (vb (!r52))) (fun h53 => by simp only [gv_t h53]; exact bind_some_eq (d_not)) ?_
  refine tb (x := (vb ((((((decide (a0.Prio < 0)) || (decide (99 < a0.Prio))) || (decide (a0.Out < 0))) || (decide (4 < a0.Out))) || (!r39)) || (!r52)))) (pick_or (fun h9 => gv_t (not_f h9))) ?_
  refine tcond (fun h57 => ?_) (fun h57 => ?_)
  · refine tb (x := (eV 1)) (p_mkE (by decide)) ?_
    exact rf_ret rfl
  · refine tb (x := (T_Cube.e a0.Cube)) (rfl) ?_
    refine tbo (ty_cube_Check hn a0.Cube) fun r61 => ?_
    refine tb (x := (vb (!decide (r61 = 0)))) (p_err_neq _) ?_
    refine tcond (fun h63 => ?_) (fun h63 => ?_)
    · exact rf_ret rfl
    · refine tb (x := (vi a0.Value)) (rfl) ?_
      refine tb (x := (vi a0.Set)) (rfl) ?_
      refine tb (x := (vi (bits .andNot .i64 a0.Value a0.Set))) (d_andNot) ?_
      refine tb (x := (vb (decide ((bits .andNot .i64 a0.Value a0.Set) ≠ 0)))) (d_neq) ?_
      refine tg_f (x := V.any) (fun h68 => rfl) ?_
      refine tg_f (x := (vi a0.Out)) (fun h70 => bind_some_eq (gate_pos (not_t h70) (rfl))) ?_
      refine tg_f (x := (vb (decide (a0.Out = 0)))) (fun h73 => by simp only [gv_t h73]; exact bind_some_eq (d_eql)) ?_
      refine tg_f (x := (vb (decide (a0.Out = 0)))) (fun h76 => congrArg some (gv_t h76)) ?_
      refine tg2 (x := V.any) (fun h78 => rfl) ?_
      refine tg2 (x := (vi a0.Set)) (fun h80 => bind_some_eq (gate_pos2 (and_l h80) (and_r h80) (rfl))) ?_
      refine tg2 (x := (vb (decide (a0.Set ≠ 0)))) (fun h83 => by simp only [gv_t h83]; exact bind_some_eq (d_neq)) ?_
      refine tg_f (x := (vb ((decide (a0.Out = 0)) && (decide (a0.Set ≠ 0))))) (fun h86 => by simp only [gv_t h86]; exact bind_some_eq (pick_and (fun h9 => gv_t (and_i h86 h9)))) ?_
      refine tb (x := (vb ((decide ((bits .andNot .i64 a0.Value a0.Set) ≠ 0)) || ((decide (a0.Out = 0)) && (decide (a0.Set ≠ 0)))))) (pick_or (fun h9 => gv_t (not_f h9))) ?_
      refine tcond (fun h90 => ?_) (fun h90 => ?_)
      · refine tb (x := (eV 3)) (p_mkE (by decide)) ?_
        exact rf_ret rfl
      · exact rf_ret rfl

/-! railpoint/drive.New$1 -/
def an_drive_New_1 : Ann := .seq (.reg 0 [] [] []) (.seq (.reg 0 [] [] []) (.no))
noncomputable def sem_drive_New_1 (n : Nat) (xs : List V) : Option V := if xs.length ≤ 6 then denF Tryd.prog (envOf []) n Tryd.f56 an_drive_New_1 xs else none
theorem ok_drive_New_1 (n : Nat) : SemOk Tryd.prog DW 56 (sem_drive_New_1 n) := fun xs y h => by
  unfold sem_drive_New_1 at h
  split at h
  · rename_i hl
    exact denF_ok stb Tryd.func56 (by kernel_rfl) (envOf_ok semsOk_nil) (by rw [Tryd.ntmps56]; exact hl) h
  · cases h
theorem eq_drive_New_1 (n : Nat) (x0 : V) : sem_drive_New_1 n [x0] =
 (lenS [x0]).bind fun v1 =>
 (bin2 Tryd.prog BinOp.gtr 3 (ot 4) (oc 200) v1 (vi 200)).bind fun v2 =>
 some v2 := by kernel_rfl
noncomputable def t_drive_New_1 (a0 : (List T_Op)) : Option Bool :=
 some (decide (200 < (List.length a0 : Int)))
theorem ty_drive_New_1 {n : Nat} (hn : bigN ≤ n) (a0 : (List T_Op)) : Rv (fun x : Bool => (vb x)) (sem_drive_New_1 n [(V.sl (List.map T_Op.c a0))]) (t_drive_New_1 a0) := by
  rw [eq_drive_New_1]
  unfold t_drive_New_1
  refine tb (x := (vi (List.length a0 : Int))) (p_len _) ?_
  refine tb (x := (vb (decide (200 < (List.length a0 : Int))))) (d_gtr) ?_
  exact rf_ret rfl

/-! railpoint/drive.New -/
def an_drive_New : Ann := .seq (.reg 0 [] [] []) (.seq (.blk none (.seq (.reg 0 [] [] []) (.cond none (.seq (.reg 0 [] [] []) (.no)) (.seq (.reg 0 [] [] []) (.cond none (.seq (.reg 0 [] [] []) (.no)) (.no)))))) (.seq (.reg 0 [] [] [1000030, 31]) (.seq (.seq (.reg 0 [] [1000000031, 1003000031] []) (.blk (some [.o 6]) (.loop [.o 6, .s 34] (.seq (.reg 0 [] [] []) (.seq (.cond none (.no) (.no)) (.seq (.blk (some [.o 6]) (.seq (.reg 0 [] [] []) (.seq (.seq (.reg 0 [] [] []) (.blk (some [.ko 6]) (.loop [.ko 6, .s 40] (.seq (.reg 0 [] [] []) (.seq (.cond none (.no) (.no)) (.seq (.blk none (.seq (.reg 0 [] [] []) (.seq (.seq (.reg 0 [] [] []) (.cond none (.seq (.reg 0 [] [] []) (.no)) (.no))) (.seq (.reg 0 [] [] []) (.seq (.reg 0 [] [] []) (.cond none (.seq (.reg 0 [] [] []) (.no)) (.no))))))) (.reg 0 [] [] []))))))) (.reg 8 [] [] [64, 68])))) (.reg 0 [] [] []))))))) (.seq (.reg 0 [] [] []) (.no)))))
noncomputable def sem_drive_New (n : Nat) (xs : List V) : Option V := if xs.length ≤ 73 then denM Tryd.prog (envOf [(55, (sem_slices_ContainsFunc_api_Round_api_Round (envOf [(56, (sem_drive_New_1 n))]) n)), (57, (sem_rule_Check n)), (58, (semClone 8)), (56, (sem_drive_New_1 n))]) n Tryd.f26 an_drive_New [0, 0] (some 0) xs else none
theorem ok_drive_New (n : Nat) : MSemOk Tryd.prog DW 26 (sem_drive_New n) := fun xs y h => by
  unfold sem_drive_New at h
  split at h
  · rename_i hl
    exact denM_ok Tryd.func26 (by kernel_rfl) (envOf_ok (semsOk_cons (ok_slices_ContainsFunc_api_Round_api_Round (envOf_ok (semsOk_cons (ok_drive_New_1 n) semsOk_nil)) n) (semsOk_cons (ok_rule_Check n) (semsOk_cons (sok_slices_Clone_api_Round_api_Op) (semsOk_cons (ok_drive_New_1 n) semsOk_nil))))) (by rw [Tryd.ntmps26]; exact hl) (by decide) h
  · cases h
theorem eq_drive_New (n : Nat) (x0 x1 : V) : sem_drive_New n [x0, x1] =
 (pureO x0).bind fun v1 =>
 (pureO x1).bind fun v2 =>
 (bin2 Tryd.prog BinOp.lss 3 (ot 13) (oc 1) x1 (vi 1)).bind fun v3 =>
 (guardV v3 false (some x1)).bind fun v4 =>
 (guardV v3 false ((bin2 Tryd.prog BinOp.gtr 3 (ot 16) (oc 100) v4 (vi 100)).bind fun v5 =>
 some v5)).bind fun v6 =>
 (pickV v3 (vb true) v6).bind fun v7 =>
 condV v7 (
 (scal1 Tryd.prog (Instr.makeInterface 87) (vi 1)).bind fun v8 =>
 (pureO (V.lit (Go.Value.pointer none))).bind fun v9 =>
 (pureO v8).bind fun v10 =>
 some (V.tup [V.tup [v9, v10], V.any, V.any])) (
 (lenS [x0]).bind fun v11 =>
 (bin2 Tryd.prog BinOp.gtr 3 (ot 22) (oc 20) v11 (vi 20)).bind fun v12 =>
 (guardV v12 false (some x0)).bind fun v13 =>
 (guardV v12 false (((sem_slices_ContainsFunc_api_Round_api_Round (envOf [(56, (sem_drive_New_1 n))]) n) [v13, (V.fn 56 [])]).bind fun v14 =>
 some v14)).bind fun v15 =>
 (pickV v12 (vb true) v15).bind fun v16 =>
 condV v16 (
 (scal1 Tryd.prog (Instr.makeInterface 87) (vi 4)).bind fun v17 =>
 (pureO (V.lit (Go.Value.pointer none))).bind fun v18 =>
 (pureO v17).bind fun v19 =>
 some (V.tup [V.tup [v18, v19], V.any, V.any])) (
 ((fillL [(V.lit (Go.Value.slice none 0 0)), (vi 0), (vi 0), (V.lit (Go.Value.slice none 0 0)), (vi 0)] [(1, 1, x1)]).map V.agg).bind fun v20 =>
 (V.cellsO v20).bind fun v21 =>
 (some (softX 1000000031 (V.obj v21))).bind fun v22 =>
 (some (softX 1003000031 v22)).bind fun v23 =>
 (lenS [x0]).bind fun v24 =>
 JoinPt (fun vs25 =>
 objK (List.getD vs25 0 V.any) fun l28 =>
 (pureO vn).bind fun v27 =>
 some (V.tup [V.tup [V.obj l28, v27], V.any, V.any])) fun J26 =>
 (fixN (fun rec29 vs30 =>
 (bin2 Tryd.prog BinOp.lss 3 (ot 34) (ot 33) (List.getD vs30 1 V.any) v24).bind fun v31 =>
 condV v31 (
 JoinPt (fun vs32 =>
 (bin2 Tryd.prog BinOp.add 3 (ot 34) (oc 1) (List.getD vs30 1 V.any) (vi 1)).bind fun v34 =>
 rec29 [(List.getD vs32 0 V.any), v34]) fun J33 =>
 (idxS 1 x0 (List.getD vs30 1 V.any)).bind fun v35 =>
 (ldp none v35).bind fun v36 =>
 (lenS [v36]).bind fun v37 =>
 JoinPt (fun vs38 =>
 (some V.any).bind fun v40 =>
 (some V.any).bind fun v41 =>
 ((nodeL (List.getD vs30 0 V.any) none 0).bind fun l42 => (l42[0]?).bind ownO).bind fun v43 =>
 ((semClone 8) [v36]).bind fun v44 =>
 (slcB 1 1 [(V.sl [])] [(0, v44)]).bind fun v45 =>
 (getV (List.getD vs30 0 V.any) [(Stp.mk none 0 0)]).bind fun v46 =>
 (modX (List.getD vs30 0 V.any) [] (Stp.mk none 0 0) V.any).bind fun v47 =>
 (appS 1 v46 v45).bind fun v48 =>
 (some V.any).bind fun v49 =>
 (some V.any).bind fun v50 =>
 (V.cellsO v48).bind fun v51 =>
 (setV v47 [] (Stp.mk none 0 0) 1 v51).bind fun v52 =>
 J33 [v52]) fun J39 =>
 (keepT (some (List.getD vs30 0 V.any)) (some (List.getD vs30 0 V.any)) (some [(vi 0)])).bind (fixN (fun rec53 vs54 =>
 (bin2 Tryd.prog BinOp.lss 3 (ot 40) (ot 39) (List.getD vs54 0 V.any) v37).bind fun v55 =>
 condV v55 (
 (idxS 8 v36 (List.getD vs54 0 V.any)).bind fun v56 =>
 (ldp (some 8) v56).bind fun v57 =>
 (spliceV [(vi 0), (vb false), (vi 0), (vi 0), (vi 0), (vi 0), (vi 0), (vi 0)] 0 8 v57).bind fun v58 =>
 (ldk none (List.drop 0 (aggL v58))).bind fun v59 =>
 (bin2 Tryd.prog BinOp.lss 3 (ot 45) (oc 1) v59 (vi 1)).bind fun v60 =>
 (guardV v60 false (some V.any)).bind fun v61 =>
 (guardV v60 false ((gate v60 false (ldk none (List.drop 0 (aggL v58)))).bind fun v62 =>
 some v62)).bind fun v63 =>
 (guardV v60 false ((bin2 Tryd.prog BinOp.gtr 3 (ot 49) (oc 6) v63 (vi 6)).bind fun v64 =>
 some v64)).bind fun v65 =>
 (pickV v60 (vb true) v65).bind fun v66 =>
 condV v66 (
 (scal1 Tryd.prog (Instr.makeInterface 87) (vi 1)).bind fun v67 =>
 (pureO (V.lit (Go.Value.pointer none))).bind fun v68 =>
 (pureO v67).bind fun v69 =>
 some (V.tup [V.tup [v68, v69], V.any, V.any])) (
 (ldk (some 6) (List.drop 2 (aggL v58))).bind fun v70 =>
 ((sem_rule_Check n) [v70]).bind fun v71 =>
 (bin2 Tryd.prog BinOp.neq 27 (ot 56) (Operand.const Go.Value.nilIface) v71 vn).bind fun v72 =>
 condV v72 (
 (pureO (V.lit (Go.Value.pointer none))).bind fun v73 =>
 (pureO v71).bind fun v74 =>
 some (V.tup [V.tup [v73, v74], V.any, V.any])) (
 (bin2 Tryd.prog BinOp.add 3 (ot 40) (oc 1) (List.getD vs54 0 V.any) (vi 1)).bind fun v75 =>
 (keepT (some (List.getD vs30 0 V.any)) (some (List.getD vs30 0 V.any)) (some [v75])).bind rec53))) (
 (keepT (some (List.getD vs30 0 V.any)) (some (List.getD vs30 0 V.any)) (some [])).bind J39)) n)) (
 J26 [(List.getD vs30 0 V.any)])) n) [v23, (vi 0)])) := by kernel_rfl
noncomputable def t_drive_New (a0 : (List (List T_Op))) (a1 : Int) : Option ((Option T_drive_Drive) × Int) :=
 if ((decide (a1 < 1)) || (decide (100 < a1))) = true then (
 some (none, 1)) else (
 (gd (!(decide (20 < (List.length a0 : Int)))) default (t_slices_ContainsFunc_api_Round_api_Round a0 (fun (a17 : (List T_Op)) => t_drive_New_1 a17 ))).bind fun r20 =>
 if ((decide (20 < (List.length a0 : Int))) || r20) = true then (
 some (none, 4)) else (
 join (fun (s29 : T_drive_Drive) =>
 some ((some s29), 0)) fun j30 =>
 loopI a0 (fun (i38 : Int) x39 (s34 : T_drive_Drive) k35 =>
 join (fun (s46 : T_drive_Drive) =>
 k35 (s46)) fun j47 =>
 join (fun (s55 : Unit) =>
 (cln x39).bind fun r62 =>
 (oapp s34.rounds ([r62] : (List (List T_Op)))).bind fun r64 =>
 j47 (T_drive_Drive.mk r64 s34.wait s34.said s34.left s34.ticks)) fun j56 =>
 loopI x39 (fun (i75 : Int) x76 (s71 : Unit) k72 =>
 if ((decide (x76.Switch < 1)) || (decide (6 < x76.Switch))) = true then (
 some (none, 1)) else (
 (t_rule_Check x76.Rule).bind fun r99 =>
 if (!decide (r99 = 0)) = true then (
 some (none, r99)) else (
 k72 ()))) (fun (s71 : Unit) =>
 j56 ()) ()) (fun (s34 : T_drive_Drive) =>
 j30 (s34)) (T_drive_Drive.mk [] a1 0 [] 0)))
theorem ty_drive_New {n : Nat} (hn : bigN ≤ n) (a0 : (List (List T_Op))) (a1 : Int) : Rv (fun x : ((Option T_drive_Drive) × Int) => (V.tup [(V.tup [(pO (fun x : T_drive_Drive => [(V.osl 1 (List.map (cS T_Op.c) x.rounds)), (vi x.wait), (vi x.said), (V.osl 1 (List.map cI x.left)), (vi x.ticks)]) x.1), (eV x.2)]), V.any, V.any])) (sem_drive_New n [(V.sl (List.map (cS T_Op.c) a0)), (vi a1)]) (t_drive_New a0 a1) := by
  rw [eq_drive_New]
  unfold t_drive_New
  refine tb (x := (V.sl (List.map (cS T_Op.c) a0))) rfl ?_
  refine tb (x := (vi a1)) rfl ?_
  refine tb (x := (vb (decide (a1 < 1)))) (d_lss) ?_
  refine tg_f (x := (vi a1)) (fun h4 => rfl) ?_
  refine tg_f (x := (vb (decide (100 < a1)))) (fun h6 => by simp only [gv_t h6]; exact bind_some_eq (d_gtr)) ?_
  refine tb (x := (vb ((decide (a1 < 1)) || (decide (100 < a1))))) (pick_or (fun h9 => gv_t (not_f h9))) ?_
  refine tcond (fun h10 => ?_) (fun h10 => ?_)
  · refine tb (x := (eV 1)) (p_mkE (by decide)) ?_
    refine tb (x := (V.lit (.pointer none))) rfl ?_
    refine tb (x := (eV 1)) rfl ?_
    exact rf_ret rfl
  · refine tb (x := (vi (List.length a0 : Int))) (p_len _) ?_
    refine tb (x := (vb (decide (20 < (List.length a0 : Int))))) (d_gtr) ?_
    refine tg_f (x := (V.sl (List.map (cS T_Op.c) a0))) (fun h14 => rfl) ?_
    refine tgo_f (fun h16 => by simp only [gv_t h16]; exact rf_bind_some (ty_slices_ContainsFunc_api_Round_api_Round (E := (envOf [(56, (sem_drive_New_1 n))])) (x1 := (V.fn 56 [])) (g1 := (fun (a17 : (List T_Op)) => t_drive_New_1 a17 )) hn a0 (fun a17 => ty_drive_New_1 hn a17 ))) fun r20 => ?_
    refine tb (x := (vb ((decide (20 < (List.length a0 : Int))) || r20))) (pick_or (fun h9 => gv_t (not_f h9))) ?_
    refine tcond (fun h22 => ?_) (fun h22 => ?_)
    · refine tb (x := (eV 4)) (p_mkE (by decide)) ?_
      refine tb (x := (V.lit (.pointer none))) rfl ?_
      refine tb (x := (eV 4)) rfl ?_
      exact rf_ret rfl
    · refine tb (x := (V.agg [(V.lit (Go.Value.slice none 0 0)), (vi a1), (vi 0), (V.lit (Go.Value.slice none 0 0)), (vi 0)])) (by kernel_rfl) ?_
      refine tb (x := [(V.lit (Go.Value.slice none 0 0)), (vi a1), (vi 0), (V.lit (Go.Value.slice none 0 0)), (vi 0)]) rfl ?_
      refine tb (x := (V.obj [(V.osl 1 (List.map (cS T_Op.c) ([] : (List (List T_Op))))), (vi a1), (vi 0), (V.lit (Go.Value.slice none 0 0)), (vi 0)])) (by kernel_rfl) ?_
      refine tb (x := (V.obj [(V.osl 1 (List.map (cS T_Op.c) ([] : (List (List T_Op))))), (vi a1), (vi 0), (V.osl 1 (List.map cI ([] : (List Int)))), (vi 0)])) (by kernel_rfl) ?_
      refine tb (x := (vi (List.length a0 : Int))) (p_len _) ?_
      refine tjoin (mk := fun s29 : T_drive_Drive => [(V.obj [(V.osl 1 (List.map (cS T_Op.c) s29.rounds)), (vi s29.wait), (vi s29.said), (V.osl 1 (List.map cI s29.left)), (vi s29.ticks)])]) (fun s29 => ?_) fun J28 j30 h31 => ?_
      · refine tobjK ?_
        refine tb (x := (eV 0)) rfl ?_
        exact rf_ret rfl
      · refine rf_loopI (mk := fun (i38 : Int) (s34 : T_drive_Drive) => [(V.obj [(V.osl 1 (List.map (cS T_Op.c) s34.rounds)), (vi s34.wait), (vi s34.said), (V.osl 1 (List.map cI s34.left)), (vi s34.ticks)]), (vi (i38 : Int))]) hn a0 (T_drive_Drive.mk [] a1 0 [] 0) (fun i38 x39 h40 h41 h42 s34 rec32 k35 h36 => ?_) (fun s34 rec107 h106 => ?_)
        · refine tb (x := (vb (decide ((i38 : Int) < (List.length a0 : Int))))) (d_lss) ?_
          refine tcond_t h42 ?_
          refine tjoin (mk := fun s46 : T_drive_Drive => [(V.obj [(V.osl 1 (List.map (cS T_Op.c) s46.rounds)), (vi s46.wait), (vi s46.said), (V.osl 1 (List.map cI s46.left)), (vi s46.ticks)])]) (fun s46 => ?_) fun J45 j47 h48 => ?_
          · refine tb (x := (vi ((i38 : Int) + 1))) (p_incN h41) ?_
            exact h36 (s46)
          · refine tb (x := (V.ptr [(V.sl (List.map T_Op.c x39))])) (p_idx_at (c := (cS T_Op.c)) (fun _ => rfl) h40) ?_
            refine tb (x := (V.sl (List.map T_Op.c x39))) (rfl) ?_
            refine tb (x := (vi (List.length x39 : Int))) (p_len _) ?_
            refine tjoin (mk := fun s55 : Unit => []) (fun s55 => ?_) fun J54 j56 h57 => ?_
            · refine tb (x := V.any) rfl ?_
              refine tb (x := V.any) rfl ?_
              refine tb (x := V.any) rfl ?_
              refine tbo (p_clone (c := T_Op.c) (fun _ => rfl) x39) fun r62 => ?_
              refine tb (x := (V.sl (List.map (cS T_Op.c) ([r62] : (List (List T_Op)))))) (by kernel_rfl) ?_
              refine tb (x := (V.osl 1 (List.map (cS T_Op.c) s34.rounds))) rfl ?_
              refine tb (x := (V.obj [V.any, (vi s34.wait), (vi s34.said), (V.osl 1 (List.map cI s34.left)), (vi s34.ticks)])) (by kernel_rfl) ?_
              refine tbo (p_oapp (c := (cS T_Op.c)) (fun _ => rfl) s34.rounds ([r62] : (List (List T_Op)))) fun r64 => ?_
              refine tb (x := V.any) rfl ?_
              refine tb (x := V.any) rfl ?_
              refine tb (x := [(V.osl 1 (List.map (cS T_Op.c) r64))]) rfl ?_
              refine tb (x := (V.obj [(V.osl 1 (List.map (cS T_Op.c) r64)), (vi s34.wait), (vi s34.said), (V.osl 1 (List.map cI s34.left)), (vi s34.ticks)])) (by kernel_rfl) ?_
              exact h48 (T_drive_Drive.mk r64 s34.wait s34.said s34.left s34.ticks)
            · refine tkeepT2 ?_ rfl
              refine tsome ?_
              refine rf_loopI (mk := fun (i75 : Int) (s71 : Unit) => [(vi (i75 : Int))]) hn x39 () (fun i75 x76 h77 h78 h79 s71 rec69 k72 h73 => ?_) (fun s71 rec104 h103 => ?_)
              · refine tb (x := (vb (decide ((i75 : Int) < (List.length x39 : Int))))) (d_lss) ?_
                refine tcond_t h79 ?_
                refine tb (x := (V.ptr (T_Op.c x76))) (p_idx_at (c := T_Op.c) (fun _ => rfl) h77) ?_
                refine tb (x := (T_Op.e x76)) (rfl) ?_
                refine tb (x := V.agg (T_Op.c x76)) (by kernel_rfl) ?_
                refine tb (x := (vi x76.Switch)) (rfl) ?_
                refine tb (x := (vb (decide (x76.Switch < 1)))) (d_lss) ?_
                refine tg_f (x := V.any) (fun h86 => rfl) ?_
                refine tg_f (x := (vi x76.Switch)) (fun h88 => bind_some_eq (gate_pos (not_t h88) (rfl))) ?_
                refine tg_f (x := (vb (decide (6 < x76.Switch)))) (fun h91 => by simp only [gv_t h91]; exact bind_some_eq (d_gtr)) ?_
                refine tb (x := (vb ((decide (x76.Switch < 1)) || (decide (6 < x76.Switch))))) (pick_or (fun h9 => gv_t (not_f h9))) ?_
                refine tcond (fun h95 => ?_) (fun h95 => ?_)
                · refine tb (x := (eV 1)) (p_mkE (by decide)) ?_
                  refine tb (x := (V.lit (.pointer none))) rfl ?_
                  refine tb (x := (eV 1)) rfl ?_
                  exact rf_ret rfl
                · refine tb (x := (T_Rule.e x76.Rule)) (rfl) ?_
                  refine tbo (ty_rule_Check hn x76.Rule) fun r99 => ?_
                  refine tb (x := (vb (!decide (r99 = 0)))) (p_err_neq _) ?_
                  refine tcond (fun h101 => ?_) (fun h101 => ?_)
                  · refine tb (x := (V.lit (.pointer none))) rfl ?_
                    refine tb (x := (eV r99)) rfl ?_
                    exact rf_ret rfl
                  · refine tb (x := (vi ((i75 : Int) + 1))) (p_incN h78) ?_
                    refine tkeepT2 ?_ rfl
                    refine tsome ?_
                    exact h73 ()
              · refine tb (x := (vb (decide ((List.length x39 : Int) < (List.length x39 : Int))))) (d_lss) ?_
                refine tcond_f h103 ?_
                refine tkeepT2 ?_ rfl
                refine tsome ?_
                exact h57 ()
        · refine tb (x := (vb (decide ((List.length a0 : Int) < (List.length a0 : Int))))) (d_lss) ?_
          refine tcond_f h106 ?_
          exact h31 (s34)

/-!   railpoint/drive.Drive .May -/
def an_drive_Drive_May : Ann := .seq (.reg 0 [] [] []) (.seq (.reg 19 [] [] []) (.no))
noncomputable def sem_drive_Drive_May (n : Nat) (xs : List V) : Option V := if xs.length ≤ 21 then denF Tryd.prog (envOf []) n Tryd.f59 an_drive_Drive_May xs else none
theorem ok_drive_Drive_May (n : Nat) : SemOk Tryd.prog DW 59 (sem_drive_Drive_May n) := fun xs y h => by
  unfold sem_drive_Drive_May at h
  split at h
  · rename_i hl
    exact denF_ok stb Tryd.func59 (by kernel_rfl) (envOf_ok semsOk_nil) (by rw [Tryd.ntmps59]; exact hl) h
  · cases h
theorem eq_drive_Drive_May (n : Nat) (x0 : V) : sem_drive_Drive_May n [x0] =
 (ptrF 0 x0).bind fun v1 =>
 (ptrF 3 v1).bind fun v2 =>
 (ldp none v2).bind fun v3 =>
 (lenS [v3]).bind fun v4 =>
 (bin2 Tryd.prog BinOp.eql 3 (ot 7) (oc 0) v4 (vi 0)).bind fun v5 =>
 (guardV v5 true (some x0)).bind fun v6 =>
 (guardV v5 true ((ptrF 0 v6).bind fun v7 =>
 some v7)).bind fun v8 =>
 (guardV v5 true ((ptrF 2 v8).bind fun v9 =>
 some v9)).bind fun v10 =>
 (guardV v5 true ((ldp none v10).bind fun v11 =>
 some v11)).bind fun v12 =>
 (guardV v5 true (some x0)).bind fun v13 =>
 (guardV v5 true ((ptrF 0 v13).bind fun v14 =>
 some v14)).bind fun v15 =>
 (guardV v5 true ((ptrF 0 v15).bind fun v16 =>
 some v16)).bind fun v17 =>
 (guardV v5 true ((ldp none v17).bind fun v18 =>
 some v18)).bind fun v19 =>
 (guardV v5 true ((lenS [v19]).bind fun v20 =>
 some v20)).bind fun v21 =>
 (guardV v5 true ((bin2 Tryd.prog BinOp.lss 3 (ot 13) (ot 18) v12 v21).bind fun v22 =>
 some v22)).bind fun v23 =>
 (pickV v5 v23 (vb false)).bind fun v24 =>
 some v24 := by kernel_rfl
noncomputable def t_drive_Drive_May (a0 : T_drive_Drive) : Option Bool :=
 some ((decide ((List.length a0.left : Int) = 0)) && (decide (a0.said < (List.length a0.rounds : Int))))
theorem ty_drive_Drive_May {n : Nat} (hn : bigN ≤ n) (a0 : T_drive_Drive) : Rv (fun x : Bool => (vb x)) (sem_drive_Drive_May n [(V.ptr (T_drive_Drive.c a0))]) (t_drive_Drive_May a0) := by
  rw [eq_drive_Drive_May]
  unfold t_drive_Drive_May
  refine tb (x := (V.ptr (T_drive_Drive.c a0))) (rfl) ?_
  refine tb (x := (V.ptr (List.drop 3 (T_drive_Drive.c a0)))) (rfl) ?_
  refine tb (x := (V.sl (List.map cI a0.left))) (rfl) ?_
  refine tb (x := (vi (List.length a0.left : Int))) (p_len _) ?_
  refine tb (x := (vb (decide ((List.length a0.left : Int) = 0)))) (d_eql) ?_
  refine tg (x := (V.ptr (T_drive_Drive.c a0))) (fun h6 => rfl) ?_
  refine tg (x := (V.ptr (T_drive_Drive.c a0))) (fun h8 => by first | exact bind_some_eq (rfl) | (simp only [gv_t h8]; exact bind_some_eq (rfl))) ?_
  refine tg (x := (V.ptr (List.drop 2 (T_drive_Drive.c a0)))) (fun h11 => by first | exact bind_some_eq (rfl) | (simp only [gv_t h11]; exact bind_some_eq (rfl))) ?_
  refine tg (x := (vi a0.said)) (fun h14 => by first | exact bind_some_eq (rfl) | (simp only [gv_t h14]; exact bind_some_eq (rfl))) ?_
  refine tg (x := (V.ptr (T_drive_Drive.c a0))) (fun h17 => rfl) ?_
  refine tg (x := (V.ptr (T_drive_Drive.c a0))) (fun h19 => by first | exact bind_some_eq (rfl) | (simp only [gv_t h19]; exact bind_some_eq (rfl))) ?_
  refine tg (x := (V.ptr (T_drive_Drive.c a0))) (fun h22 => by first | exact bind_some_eq (rfl) | (simp only [gv_t h22]; exact bind_some_eq (rfl))) ?_
  refine tg (x := (V.sl (List.map (cS T_Op.c) a0.rounds))) (fun h25 => by first | exact bind_some_eq (rfl) | (simp only [gv_t h25]; exact bind_some_eq (rfl))) ?_
  refine tg (x := (vi (List.length a0.rounds : Int))) (fun h28 => by simp only [gv_t h28]; exact bind_some_eq (p_len _)) ?_
  refine tg (x := (vb (decide (a0.said < (List.length a0.rounds : Int))))) (fun h31 => by simp only [gv_t h31]; exact bind_some_eq (d_lss)) ?_
  refine tb (x := (vb ((decide ((List.length a0.left : Int) = 0)) && (decide (a0.said < (List.length a0.rounds : Int)))))) (pick_and (fun h9 => gv_t h9)) ?_
  exact rf_ret rfl

/-! railpoint/mix.Touched -/
def an_mix_Touched : Ann := .seq (.reg 0 [] [] []) (.seq (.reg 0 [] [] []) (.seq (.seq (.reg 0 [] [] []) (.blk (some [.n 3 1]) (.loop [.n 3 1, .s 8] (.seq (.reg 0 [] [] []) (.seq (.cond none (.no) (.no)) (.seq (.blk none (.seq (.reg 0 [] [] []) (.reg 0 [] [] [16]))) (.reg 0 [] [] []))))))) (.seq (.reg 0 [] [] []) (.seq (.reg 0 [] [] [21]) (.no)))))
noncomputable def sem_mix_Touched (n : Nat) (xs : List V) : Option V := if xs.length ≤ 22 then denM Tryd.prog (envOf [(83 + 1000000, (semSort)), (84 + 1000000, (semCompactO))]) n Tryd.f60 an_mix_Touched [0] (some 1) xs else none
theorem ok_mix_Touched (n : Nat) : MSemOk Tryd.prog DW 60 (sem_mix_Touched n) := fun xs y h => by
  unfold sem_mix_Touched at h
  split at h
  · rename_i hl
    exact denM_ok Tryd.func60 (by kernel_rfl) (envOf_ok (semsOk_consM (mok_Sort) (semsOk_consM (mok_CompactO) semsOk_nil))) (by rw [Tryd.ntmps60]; exact hl) (by decide) h
  · cases h
theorem eq_mix_Touched (n : Nat) (x0 : V) : sem_mix_Touched n [x0] =
 (pureO x0).bind fun v1 =>
 (lenS [x0]).bind fun v2 =>
 JoinPt (fun vs3 =>
 ((semSort) [(List.getD vs3 0 V.any)]).bind fun z5 =>
 (pureO (tupAt z5 0)).bind fun v6 =>
 ((semCompactO) [(tupAt z5 1)]).bind fun z7 =>
 some (V.tup [(tupAt z7 0), V.any])) fun J4 =>
 (fixN (fun rec8 vs9 =>
 (bin2 Tryd.prog BinOp.lss 3 (ot 8) (ot 7) (List.getD vs9 1 V.any) v2).bind fun v10 =>
 condV v10 (
 (idxS 8 x0 (List.getD vs9 1 V.any)).bind fun v11 =>
 (ldp (some 8) v11).bind fun v12 =>
 (spliceV [(vi 0), (vb false), (vi 0), (vi 0), (vi 0), (vi 0), (vi 0), (vi 0)] 0 8 v12).bind fun v13 =>
 (ldk none (List.drop 0 (aggL v13))).bind fun v14 =>
 (slcB 1 1 [(vi 0)] [(0, v14)]).bind fun v15 =>
 (appS 1 (List.getD vs9 0 V.any) v15).bind fun v16 =>
 (bin2 Tryd.prog BinOp.add 3 (ot 8) (oc 1) (List.getD vs9 1 V.any) (vi 1)).bind fun v17 =>
 rec8 [v16, v17]) (
 J4 [(List.getD vs9 0 V.any)])) n) [(V.osl 1 []), (vi 0)] := by kernel_rfl
noncomputable def t_mix_Touched (a0 : (List T_Op)) : Option (List Int) :=
 (loopI a0 (fun (i19 : Int) x20 (s15 : (List Int)) k16 =>
 (oapp s15 ([x20.Switch] : (List Int))).bind fun r30 =>
 k16 (r30)) (fun (s15 : (List Int)) =>
 some (s15)) ([])).bind fun (s5 : (List Int)) =>
 (sortI s5).bind fun r9 =>
 (compactI r9).bind fun r12 =>
 some r12
theorem ty_mix_Touched {n : Nat} (hn : bigN ≤ n) (a0 : (List T_Op)) : Rv (fun x : (List Int) => (V.tup [(V.osl 1 (List.map cI x)), V.any])) (sem_mix_Touched n [(V.sl (List.map T_Op.c a0))]) (t_mix_Touched a0) := by
  rw [eq_mix_Touched]
  unfold t_mix_Touched
  refine tb (x := (V.sl (List.map T_Op.c a0))) rfl ?_
  refine tb (x := (vi (List.length a0 : Int))) (p_len _) ?_
  refine tjb (mk := fun s5 : (List Int) => [(V.osl 1 (List.map cI s5))]) (fun J4 => ?_) fun s5 => ?_
  · refine rf_loopI (mk := fun (i19 : Int) (s15 : (List Int)) => [(V.osl 1 (List.map cI s15)), (vi (i19 : Int))]) hn a0 ([]) (fun i19 x20 h21 h22 h23 s15 rec13 k16 h17 => ?_) (fun s15 rec33 h32 => ?_)
    · refine tb (x := (vb (decide ((i19 : Int) < (List.length a0 : Int))))) (d_lss) ?_
      refine tcond_t h23 ?_
      refine tb (x := (V.ptr (T_Op.c x20))) (p_idx_at (c := T_Op.c) (fun _ => rfl) h21) ?_
      refine tb (x := (T_Op.e x20)) (rfl) ?_
      refine tb (x := V.agg (T_Op.c x20)) (by kernel_rfl) ?_
      refine tb (x := (vi x20.Switch)) (rfl) ?_
      refine tb (x := (V.sl (List.map cI ([x20.Switch] : (List Int))))) (by kernel_rfl) ?_
      refine tbo (p_oapp (c := cI) (fun _ => rfl) s15 ([x20.Switch] : (List Int))) fun r30 => ?_
      refine tb (x := (vi ((i19 : Int) + 1))) (p_incN h22) ?_
      exact h17 (r30)
    · refine tb (x := (vb (decide ((List.length a0 : Int) < (List.length a0 : Int))))) (d_lss) ?_
      refine tcond_f h32 ?_
      exact rf_j rfl
  · refine tbo (p_sort s5) fun r9 => ?_
    refine tb (x := (V.tup [])) rfl ?_
    refine tbo (p_compactO r9) fun r12 => ?_
    exact rf_ret rfl

/-!   railpoint/drive.Drive .say -/
def an_drive_Drive_say : Ann := .seq (.reg 0 [] [] []) (.seq (.reg 0 [] [] []) (.seq (.seq (.reg 0 [] [] []) (.blk (some [.r 2 39]) (.loop [.r 2 39, .s 19] (.seq (.reg 0 [] [] []) (.seq (.cond none (.no) (.no)) (.seq (.blk (some [.r 2 39]) (.seq (.reg 0 [] [] []) (.seq (.reg 0 [] [] []) (.seq (.seq (.reg 0 [] [] []) (.blk (some [.r 2 39, .s 6]) (.loop [.r 2 39, .s 6, .s 31] (.seq (.reg 0 [] [] []) (.seq (.cond none (.no) (.no)) (.seq (.blk none (.seq (.reg 0 [] [] []) (.seq (.reg 0 [] [] []) (.cond (some [.r 2 39, .s 6]) (.seq (.reg 0 [] [] []) (.reg 0 [] [] [])) (.no))))) (.reg 0 [] [] []))))))) (.reg 0 [] [] []))))) (.reg 0 [] [] []))))))) (.seq (.reg 0 [] [] []) (.no))))
noncomputable def sem_drive_Drive_say (n : Nat) (xs : List V) : Option V := if xs.length ≤ 59 then denFR Tryd.prog (envOf []) n Tryd.f61 an_drive_Drive_say 39 xs else none
theorem ok_drive_Drive_say (n : Nat) : RSemOk Tryd.prog DW 61 39 (sem_drive_Drive_say n) := fun xs y h => by
  unfold sem_drive_Drive_say at h
  split at h
  · rename_i hl
    exact denFR_ok stb Tryd.func61 (by kernel_rfl) (envOf_ok semsOk_nil) (by rw [Tryd.ntmps61]; exact hl) h
  · cases h
theorem eq_drive_Drive_say (n : Nat) (x0 : V) : sem_drive_Drive_say n [x0] =
 (ptrF 0 x0).bind fun v1 =>
 (ptrF 2 v1).bind fun v2 =>
 (ldp none v2).bind fun v3 =>
 (bin2 Tryd.prog BinOp.sub 3 (ot 12) (oc 1) v3 (vi 1)).bind fun v4 =>
 (ptrF 0 x0).bind fun v5 =>
 (ptrF 3 v5).bind fun v6 =>
 (ldp none v6).bind fun v7 =>
 (lenS [v7]).bind fun v8 =>
 JoinPt (fun vs9 =>
 some (V.sl (slL (List.getD vs9 0 V.any)))) fun J10 =>
 (fixN (fun rec11 vs12 =>
 (bin2 Tryd.prog BinOp.lss 3 (ot 19) (ot 18) (List.getD vs12 1 V.any) v8).bind fun v13 =>
 condV v13 (
 JoinPt (fun vs14 =>
 (bin2 Tryd.prog BinOp.add 3 (ot 19) (oc 1) (List.getD vs12 1 V.any) (vi 1)).bind fun v16 =>
 rec11 [(V.sl (slL (List.getD vs14 0 V.any))), v16]) fun J15 =>
 (idxS 1 v7 (List.getD vs12 1 V.any)).bind fun v17 =>
 (ldp none v17).bind fun v18 =>
 (ptrF 0 x0).bind fun v19 =>
 (ptrF 0 v19).bind fun v20 =>
 (ldp none v20).bind fun v21 =>
 (idxS 1 v21 v4).bind fun v22 =>
 (ldp none v22).bind fun v23 =>
 (lenS [v23]).bind fun v24 =>
 JoinPt (fun vs25 =>
 ((fillL [(vi 0), (vi 0), (vi 0), (vi 0), (vi 0), (vb false), (vi 0), (vi 0), (vi 0), (vi 0), (vi 0), (vi 0)] [(0, 1, (vi 2)), (1, 1, v18), (2, 1, v4), (3, 1, (List.getD vs25 1 V.any))]).map V.agg).bind fun v27 =>
 (slcB 12 1 [(vi 0), (vi 0), (vi 0), (vi 0), (vi 0), (vb false), (vi 0), (vi 0), (vi 0), (vi 0), (vi 0), (vi 0)] [(0, v27)]).bind fun v28 =>
 (appV 12 (slL (List.getD vs25 0 V.any)) v28).bind fun v29 =>
 J15 [(V.sl (slL v29))]) fun J26 =>
 (fixN (fun rec30 vs31 =>
 (bin2 Tryd.prog BinOp.lss 3 (ot 31) (ot 30) (List.getD vs31 2 V.any) v24).bind fun v32 =>
 condV v32 (
 (idxS 8 v23 (List.getD vs31 2 V.any)).bind fun v33 =>
 (ldp (some 8) v33).bind fun v34 =>
 (spliceV [(vi 0), (vb false), (vi 0), (vi 0), (vi 0), (vi 0), (vi 0), (vi 0)] 0 8 v34).bind fun v35 =>
 (ldk none (List.drop 0 (aggL v35))).bind fun v36 =>
 (bin2 Tryd.prog BinOp.eql 3 (ot 36) (ot 37) v36 v18).bind fun v37 =>
 JoinPt (fun vs38 =>
 (bin2 Tryd.prog BinOp.add 3 (ot 31) (oc 1) (List.getD vs31 2 V.any) (vi 1)).bind fun v40 =>
 rec30 [(V.sl (slL (List.getD vs38 0 V.any))), (List.getD vs38 1 V.any), v40]) fun J39 =>
 condV v37 (
 (ldk (some 8) (List.drop 0 (aggL v35))).bind fun v41 =>
 ((fillL [(vi 0), (vi 0), (vi 0), (vi 0), (vi 0), (vb false), (vi 0), (vi 0), (vi 0), (vi 0), (vi 0), (vi 0)] [(0, 1, (vi 1)), (1, 1, v18), (2, 1, v4), (3, 1, (List.getD vs31 1 V.any)), (4, 8, v41)]).map V.agg).bind fun v42 =>
 (slcB 12 1 [(vi 0), (vi 0), (vi 0), (vi 0), (vi 0), (vb false), (vi 0), (vi 0), (vi 0), (vi 0), (vi 0), (vi 0)] [(0, v42)]).bind fun v43 =>
 (appV 12 (slL (List.getD vs31 0 V.any)) v43).bind fun v44 =>
 (bin2 Tryd.prog BinOp.add 3 (ot 47) (oc 1) (List.getD vs31 1 V.any) (vi 1)).bind fun v45 =>
 J39 [(V.sl (slL v44)), v45]) (
 J39 [(V.sl (slL (List.getD vs31 0 V.any))), (List.getD vs31 1 V.any)])) (
 J26 [(V.sl (slL (List.getD vs31 0 V.any))), (List.getD vs31 1 V.any)])) n) [(V.sl (slL (List.getD vs12 0 V.any))), (vi 0), (vi 0)]) (
 J10 [(V.sl (slL (List.getD vs12 0 V.any)))])) n) [(V.sl []), (vi 0)] := by kernel_rfl
noncomputable def t_drive_Drive_say (a0 : T_drive_Drive) : Option (List T_Msg) :=
 (loopI a0.left (fun (i20 : Int) x21 (s16 : (List T_Msg)) k17 =>
 ((idx a0.rounds (wr (a0.said - 1))).bind fun r38 =>
 (loopI r38 (fun (i56 : Int) x57 (s52 : ((List T_Msg) × Int)) k53 =>
 (if (decide (x57.Switch = x21)) = true then (
 (app s52.1 ([(T_Msg.mk 1 x21 (wr (a0.said - 1)) s52.2 x57)] : (List T_Msg))).bind fun r78 =>
 some (r78, (wr (s52.2 + 1)))) else (
 some (s52.1, s52.2))).bind fun (s69 : ((List T_Msg) × Int)) =>
 k53 (s69.1, s69.2)) (fun (s52 : ((List T_Msg) × Int)) =>
 some (s52.1, s52.2)) (s16, 0)).bind fun (s43 : ((List T_Msg) × Int)) =>
 (app s43.1 ([(T_Msg.mk 2 x21 (wr (a0.said - 1)) s43.2 (T_Op.mk 0 false (T_Rule.mk 0 (T_Cube.mk 0 0) 0 0 0)))] : (List T_Msg))).bind fun r49 =>
 some (r49)).bind fun (s28 : (List T_Msg)) =>
 k17 (s28)) (fun (s16 : (List T_Msg)) =>
 some (s16)) ([])).bind fun (s11 : (List T_Msg)) =>
 some s11
theorem ty_drive_Drive_say {n : Nat} (hn : bigN ≤ n) (a0 : T_drive_Drive) : Rv (fun x : (List T_Msg) => (V.sl (List.map T_Msg.c x))) (sem_drive_Drive_say n [(V.ptr (T_drive_Drive.c a0))]) (t_drive_Drive_say a0) := by
  rw [eq_drive_Drive_say]
  unfold t_drive_Drive_say
  refine tb (x := (V.ptr (T_drive_Drive.c a0))) (rfl) ?_
  refine tb (x := (V.ptr (List.drop 2 (T_drive_Drive.c a0)))) (rfl) ?_
  refine tb (x := (vi a0.said)) (rfl) ?_
  refine tb (x := (vi (wr (a0.said - 1)))) (d_sub) ?_
  refine tb (x := (V.ptr (T_drive_Drive.c a0))) (rfl) ?_
  refine tb (x := (V.ptr (List.drop 3 (T_drive_Drive.c a0)))) (rfl) ?_
  refine tb (x := (V.sl (List.map cI a0.left))) (rfl) ?_
  refine tb (x := (vi (List.length a0.left : Int))) (p_len _) ?_
  refine tjb (mk := fun s11 : (List T_Msg) => [(V.sl (List.map T_Msg.c s11))]) (fun J10 => ?_) fun s11 => ?_
  · refine rf_loopI (mk := fun (i20 : Int) (s16 : (List T_Msg)) => [(V.sl (List.map T_Msg.c s16)), (vi (i20 : Int))]) hn a0.left ([]) (fun i20 x21 h22 h23 h24 s16 rec14 k17 h18 => ?_) (fun s16 rec84 h83 => ?_)
    · refine tb (x := (vb (decide ((i20 : Int) < (List.length a0.left : Int))))) (d_lss) ?_
      refine tcond_t h24 ?_
      refine tjb (mk := fun s28 : (List T_Msg) => [(V.sl (List.map T_Msg.c s28))]) (fun J27 => ?_) fun s28 => ?_
      · refine tb (x := (V.ptr [(vi x21)])) (p_idx_at (c := cI) (fun _ => rfl) h22) ?_
        refine tb (x := (vi x21)) (rfl) ?_
        refine tb (x := (V.ptr (T_drive_Drive.c a0))) (rfl) ?_
        refine tb (x := (V.ptr (T_drive_Drive.c a0))) (rfl) ?_
        refine tb (x := (V.sl (List.map (cS T_Op.c) a0.rounds))) (rfl) ?_
        refine tbo (p_idx (c := (cS T_Op.c)) (fun _ => rfl) a0.rounds (wr (a0.said - 1))) fun r38 => ?_
        refine tb (x := (V.sl (List.map T_Op.c r38))) (rfl) ?_
        refine tb (x := (vi (List.length r38 : Int))) (p_len _) ?_
        refine tjb (mk := fun s43 : ((List T_Msg) × Int) => [(V.sl (List.map T_Msg.c s43.1)), (vi s43.2)]) (fun J42 => ?_) fun s43 => ?_
        · refine rf_loopI (mk := fun (i56 : Int) (s52 : ((List T_Msg) × Int)) => [(V.sl (List.map T_Msg.c s52.1)), (vi s52.2), (vi (i56 : Int))]) hn r38 (s16, 0) (fun i56 x57 h58 h59 h60 s52 rec50 k53 h54 => ?_) (fun s52 rec81 h80 => ?_)
          · refine tb (x := (vb (decide ((i56 : Int) < (List.length r38 : Int))))) (d_lss) ?_
            refine tcond_t h60 ?_
            refine tb (x := (V.ptr (T_Op.c x57))) (p_idx_at (c := T_Op.c) (fun _ => rfl) h58) ?_
            refine tb (x := (T_Op.e x57)) (rfl) ?_
            refine tb (x := V.agg (T_Op.c x57)) (by kernel_rfl) ?_
            refine tb (x := (vi x57.Switch)) (rfl) ?_
            refine tb (x := (vb (decide (x57.Switch = x21)))) (d_eql) ?_
            refine tjb (mk := fun s69 : ((List T_Msg) × Int) => [(V.sl (List.map T_Msg.c s69.1)), (vi s69.2)]) (fun J68 => ?_) fun s69 => ?_
            · refine tcond (fun h73 => ?_) (fun h73 => ?_)
              · refine tb (x := (T_Op.e x57)) (rfl) ?_
                refine tb (x := (T_Msg.e (T_Msg.mk 1 x21 (wr (a0.said - 1)) s52.2 x57))) (by kernel_rfl) ?_
                refine tb (x := (V.sl (List.map T_Msg.c ([(T_Msg.mk 1 x21 (wr (a0.said - 1)) s52.2 x57)] : (List T_Msg))))) (by kernel_rfl) ?_
                refine tbo (p_app (c := T_Msg.c) (fun _ => rfl) s52.1 ([(T_Msg.mk 1 x21 (wr (a0.said - 1)) s52.2 x57)] : (List T_Msg))) fun r78 => ?_
                refine tb (x := (vi (wr (s52.2 + 1)))) (d_add) ?_
                exact rf_j rfl
              · exact rf_j rfl
            · refine tb (x := (vi ((i56 : Int) + 1))) (p_incN h59) ?_
              exact h54 (s69.1, s69.2)
          · refine tb (x := (vb (decide ((List.length r38 : Int) < (List.length r38 : Int))))) (d_lss) ?_
            refine tcond_f h80 ?_
            exact rf_j rfl
        · refine tb (x := (T_Msg.e (T_Msg.mk 2 x21 (wr (a0.said - 1)) s43.2 (T_Op.mk 0 false (T_Rule.mk 0 (T_Cube.mk 0 0) 0 0 0))))) (by kernel_rfl) ?_
          refine tb (x := (V.sl (List.map T_Msg.c ([(T_Msg.mk 2 x21 (wr (a0.said - 1)) s43.2 (T_Op.mk 0 false (T_Rule.mk 0 (T_Cube.mk 0 0) 0 0 0)))] : (List T_Msg))))) (by kernel_rfl) ?_
          refine tbo (p_app (c := T_Msg.c) (fun _ => rfl) s43.1 ([(T_Msg.mk 2 x21 (wr (a0.said - 1)) s43.2 (T_Op.mk 0 false (T_Rule.mk 0 (T_Cube.mk 0 0) 0 0 0)))] : (List T_Msg))) fun r49 => ?_
          exact rf_j rfl
      · refine tb (x := (vi ((i20 : Int) + 1))) (p_incN h23) ?_
        exact h18 (s28)
    · refine tb (x := (vb (decide ((List.length a0.left : Int) < (List.length a0.left : Int))))) (d_lss) ?_
      refine tcond_f h83 ?_
      exact rf_j rfl
  · exact rf_ret rfl

/-!   railpoint/drive.Drive .Next -/
def an_drive_Drive_Next : Ann := .seq (.reg 0 [] [] []) (.seq (.seq (.reg 0 [] [] [2000005]) (.cond none (.seq (.reg 0 [] [] []) (.no)) (.no))) (.seq (.reg 11 [] [] [12, 19]) (.seq (.reg 0 [] [] []) (.seq (.reg 0 [] [] []) (.seq (.reg 0 [] [] [2000033, 3000033]) (.no))))))
noncomputable def sem_drive_Drive_Next (n : Nat) (xs : List V) : Option V := if xs.length ≤ 34 then denM Tryd.prog (envOf [(59, (sem_drive_Drive_May n)), (60 + 1000000, (sem_mix_Touched n)), (61 + 1000000 * (39 + 2), (sem_drive_Drive_say n))]) n Tryd.f27 an_drive_Drive_Next [2] none xs else none
theorem ok_drive_Drive_Next (n : Nat) : MSemOk Tryd.prog DW 27 (sem_drive_Drive_Next n) := fun xs y h => by
  unfold sem_drive_Drive_Next at h
  split at h
  · rename_i hl
    exact denM_ok Tryd.func27 (by kernel_rfl) (envOf_ok (semsOk_cons (ok_drive_Drive_May n) (semsOk_consM (ok_mix_Touched n) (semsOk_consR (ok_drive_Drive_say n) semsOk_nil)))) (by rw [Tryd.ntmps27]; exact hl) (by decide) h
  · cases h
theorem eq_drive_Drive_Next (n : Nat) (x0 : V) : sem_drive_Drive_Next n [x0] =
 (objG x0).bind fun v1 =>
 (some (frzQ x0)).bind fun v2 =>
 ((sem_drive_Drive_May n) [v2]).bind fun v4 =>
 (litQ v4).bind fun v3 =>
 (scal1 Tryd.prog (Op.unary Go.UnOp.not) v3).bind fun v5 =>
 condV v5 (
 (scal1 Tryd.prog (Instr.makeInterface 87) (vi 6)).bind fun v6 =>
 some (V.tup [(V.tup [(V.sl []), v6]), x0])) (
 (some V.any).bind fun v7 =>
 (some V.any).bind fun v8 =>
 ((nodeL x0 none 0).bind fun l9 => (l9[0]?).bind ownO).bind fun v10 =>
 (some V.any).bind fun v11 =>
 (some V.any).bind fun v12 =>
 ((nodeL x0 none 0).bind fun l13 => (ldk none (List.drop 2 l13)).bind pureO).bind fun v14 =>
 (((getV x0 [(Stp.mk none 0 0)]).bind oslR).bind fun rows15 => inB (List.length rows15) v14).bind fun v16 =>
 (((getV x0 [(Stp.mk none 0 0)]).bind fun y => nodeL y (some (natOf v14)) 1).bind fun l17 => (ldk none (List.drop 0 l17)).bind pureO).bind fun v18 =>
 ((sem_mix_Touched n) [v18]).bind fun z19 =>
 (some V.any).bind fun v20 =>
 (some V.any).bind fun v21 =>
 (V.cellsO (tupAt z19 0)).bind fun v22 =>
 (setV x0 [] (Stp.mk none 3 0) 1 v22).bind fun v23 =>
 (some V.any).bind fun v24 =>
 (some V.any).bind fun v25 =>
 ((nodeL v23 none 0).bind fun l26 => (ldk none (List.drop 2 l26)).bind pureO).bind fun v27 =>
 (bin2 Tryd.prog BinOp.add 3 (ot 25) (oc 1) v27 (vi 1)).bind fun v28 =>
 (some V.any).bind fun v29 =>
 (some V.any).bind fun v30 =>
 (V.cellsO v28).bind fun v31 =>
 (setV v23 [] (Stp.mk none 2 0) 1 v31).bind fun v32 =>
 (some V.any).bind fun v33 =>
 (some V.any).bind fun v34 =>
 (V.cellsO (vi 0)).bind fun v35 =>
 (setV v32 [] (Stp.mk none 4 0) 1 v35).bind fun v36 =>
 (some (frzQ v36)).bind fun v37 =>
 ((sem_drive_Drive_say n) [v37]).bind fun v39 =>
 (flatQ v39).bind fun v38 =>
 some (V.tup [(V.tup [v38, vn]), v36])) := by kernel_rfl
noncomputable def t_drive_Drive_Next (a0 : T_drive_Drive) : Option ((List T_Msg) × Int × T_drive_Drive) :=
 (t_drive_Drive_May a0).bind fun r3 =>
 if (!r3) = true then (
 some ([], 6, a0)) else (
 need (decide (0 ≤ a0.said) && decide (a0.said < (List.length a0.rounds : Int))) (
 (idx a0.rounds a0.said).bind fun r15 =>
 (t_mix_Touched r15).bind fun r18 =>
 (t_drive_Drive_say (T_drive_Drive.mk a0.rounds a0.wait (wr (a0.said + 1)) r18 0)).bind fun r36 =>
 some (r36, 0, (T_drive_Drive.mk a0.rounds a0.wait (wr (a0.said + 1)) r18 0))))
theorem ty_drive_Drive_Next {n : Nat} (hn : bigN ≤ n) (a0 : T_drive_Drive) : Rv (fun x : ((List T_Msg) × Int × T_drive_Drive) => (V.tup [(V.tup [(V.sl (List.map T_Msg.c x.1)), (eV x.2.1)]), (V.obj [(V.osl 1 (List.map (cS T_Op.c) x.2.2.rounds)), (vi x.2.2.wait), (vi x.2.2.said), (V.osl 1 (List.map cI x.2.2.left)), (vi x.2.2.ticks)])])) (sem_drive_Drive_Next n [(V.obj [(V.osl 1 (List.map (cS T_Op.c) a0.rounds)), (vi a0.wait), (vi a0.said), (V.osl 1 (List.map cI a0.left)), (vi a0.ticks)])]) (t_drive_Drive_Next a0) := by
  rw [eq_drive_Drive_Next]
  unfold t_drive_Drive_Next
  refine tb (x := V.any) rfl ?_
  refine tb (x := V.ptr (T_drive_Drive.c a0)) (p_frzQ (p_fzc (p_frzl (c' := (cS T_Op.c)) (fun _ => rfl) _) (p_fzc rfl (p_fzc rfl (p_fzc (p_frzl (c' := cI) (fun _ => rfl) _) (p_fzc rfl p_fz0)))))) ?_
  refine tbo (ty_drive_Drive_May hn a0) fun r3 => ?_
  refine tb (x := (vb r3)) rfl ?_
  refine tb (x := (vb (!r3))) (d_not) ?_
  refine tcond (fun h6 => ?_) (fun h6 => ?_)
  · refine tb (x := (eV 6)) (p_mkE (by decide)) ?_
    exact rf_ret rfl
  · refine tb (x := V.any) rfl ?_
    refine tb (x := V.any) rfl ?_
    refine tb (x := V.any) rfl ?_
    refine tb (x := V.any) rfl ?_
    refine tb (x := V.any) rfl ?_
    refine tb (x := (vi a0.said)) (rfl) ?_
    refine p_asc ?_
    refine p_asc ?_
    refine p_inF (y := (V.osl 1 (List.map (cS T_Op.c) a0.rounds))) rfl ?_
    refine p_in0 ?_
    refine p_cas ?_
    refine tneed (x := V.any) (fun h14 => p_inB (c := (cS T_Op.c)) (k := 1) a0.rounds a0.said h14) fun h14 => ?_
    refine p_asc ?_
    refine p_asc ?_
    refine p_inF (y := (V.osl 1 (List.map (cS T_Op.c) a0.rounds))) rfl ?_
    refine p_in0 ?_
    refine p_cas ?_
    refine tbo (p_oload (e1 := fun x : (List T_Op) => (V.sl (List.map T_Op.c x))) (c := (cS T_Op.c)) (fun _ => rfl) a0.rounds a0.said (fun _ => rfl)) fun r15 => ?_
    refine tbo (ty_mix_Touched hn r15) fun r18 => ?_
    refine tb (x := V.any) rfl ?_
    refine tb (x := V.any) rfl ?_
    refine tb (x := [(V.osl 1 (List.map cI r18))]) rfl ?_
    refine tb (x := (V.obj [(V.osl 1 (List.map (cS T_Op.c) a0.rounds)), (vi a0.wait), (vi a0.said), (V.osl 1 (List.map cI r18)), (vi a0.ticks)])) (by kernel_rfl) ?_
    refine tb (x := V.any) rfl ?_
    refine tb (x := V.any) rfl ?_
    refine tb (x := (vi a0.said)) (rfl) ?_
    refine tb (x := (vi (wr (a0.said + 1)))) (d_add) ?_
    refine tb (x := V.any) rfl ?_
    refine tb (x := V.any) rfl ?_
    refine tb (x := [(vi (wr (a0.said + 1)))]) rfl ?_
    refine tb (x := (V.obj [(V.osl 1 (List.map (cS T_Op.c) a0.rounds)), (vi a0.wait), (vi (wr (a0.said + 1))), (V.osl 1 (List.map cI r18)), (vi a0.ticks)])) (by kernel_rfl) ?_
    refine tb (x := V.any) rfl ?_
    refine tb (x := V.any) rfl ?_
    refine tb (x := [(vi 0)]) rfl ?_
    refine tb (x := (V.obj [(V.osl 1 (List.map (cS T_Op.c) a0.rounds)), (vi a0.wait), (vi (wr (a0.said + 1))), (V.osl 1 (List.map cI r18)), (vi 0)])) (by kernel_rfl) ?_
    refine tb (x := V.ptr (T_drive_Drive.c (T_drive_Drive.mk a0.rounds a0.wait (wr (a0.said + 1)) r18 0))) (p_frzQ (p_fzc (p_frzl (c' := (cS T_Op.c)) (fun _ => rfl) _) (p_fzc rfl (p_fzc rfl (p_fzc (p_frzl (c' := cI) (fun _ => rfl) _) (p_fzc rfl p_fz0)))))) ?_
    refine tbo (ty_drive_Drive_say hn (T_drive_Drive.mk a0.rounds a0.wait (wr (a0.said + 1)) r18 0)) fun r36 => ?_
    refine tb (x := (V.sl (List.map T_Msg.c r36))) (p_flatQ (fun _ => rfl) r36) ?_
    exact rf_ret rfl

/-!   railpoint/drive.Drive .Left -/
def an_drive_Drive_Left : Ann := .seq (.reg 0 [] [] []) (.seq (.reg 0 [] [] [1000007]) (.no))
noncomputable def sem_drive_Drive_Left (n : Nat) (xs : List V) : Option V := if xs.length ≤ 8 then denFR Tryd.prog (envOf [(42 + 1000000 * (3 + 2), (semClone 1))]) n Tryd.f28 an_drive_Drive_Left 3 xs else none
theorem ok_drive_Drive_Left (n : Nat) : RSemOk Tryd.prog DW 28 3 (sem_drive_Drive_Left n) := fun xs y h => by
  unfold sem_drive_Drive_Left at h
  split at h
  · rename_i hl
    exact denFR_ok stb Tryd.func28 (by kernel_rfl) (envOf_ok (semsOk_consR (rok_slices_Clone_int_int) semsOk_nil)) (by rw [Tryd.ntmps28]; exact hl) h
  · cases h
theorem eq_drive_Drive_Left (n : Nat) (x0 : V) : sem_drive_Drive_Left n [x0] =
 (ptrF 0 x0).bind fun v1 =>
 (ptrF 3 v1).bind fun v2 =>
 (ldp none v2).bind fun v3 =>
 ((semClone 1) [v3]).bind fun v4 =>
 some (V.sl (slL3 v4)) := by kernel_rfl
noncomputable def t_drive_Drive_Left (a0 : T_drive_Drive) : Option (List Int) :=
 (cln a0.left).bind fun r5 =>
 some r5
theorem ty_drive_Drive_Left {n : Nat} (hn : bigN ≤ n) (a0 : T_drive_Drive) : Rv (fun x : (List Int) => (V.sl (List.map cI x))) (sem_drive_Drive_Left n [(V.ptr (T_drive_Drive.c a0))]) (t_drive_Drive_Left a0) := by
  rw [eq_drive_Drive_Left]
  unfold t_drive_Drive_Left
  refine tb (x := (V.ptr (T_drive_Drive.c a0))) (rfl) ?_
  refine tb (x := (V.ptr (List.drop 3 (T_drive_Drive.c a0)))) (rfl) ?_
  refine tb (x := (V.sl (List.map cI a0.left))) (rfl) ?_
  refine tbo (p_clone (c := cI) (fun _ => rfl) a0.left) fun r5 => ?_
  exact rf_ret rfl

/-! railpoint/wire.Check -/
def an_wire_Check : Ann := .seq (.reg 0 [] [] []) (.seq (.seq (.reg 0 [] [] []) (.cond none (.seq (.reg 0 [] [] []) (.no)) (.no))) (.seq (.seq (.reg 0 [] [] []) (.cond none (.seq (.seq (.reg 0 [] [] []) (.cond none (.seq (.reg 0 [] [] []) (.no)) (.no))) (.seq (.reg 0 [] [] []) (.no))) (.no))) (.seq (.seq (.reg 0 [] [] []) (.seq (.reg 0 [] [] []) (.cond none (.seq (.reg 0 [] [] []) (.no)) (.no)))) (.seq (.seq (.reg 0 [] [] []) (.cond none (.seq (.reg 0 [] [] []) (.no)) (.no))) (.seq (.reg 0 [] [] []) (.no))))))
noncomputable def sem_wire_Check (n : Nat) (xs : List V) : Option V := if xs.length ≤ 75 then denF Tryd.prog (envOf [(57, (sem_rule_Check n))]) n Tryd.f40 an_wire_Check xs else none
theorem ok_wire_Check (n : Nat) : SemOk Tryd.prog DW 40 (sem_wire_Check n) := fun xs y h => by
  unfold sem_wire_Check at h
  split at h
  · rename_i hl
    exact denF_ok stb Tryd.func40 (by kernel_rfl) (envOf_ok (semsOk_cons (ok_rule_Check n) semsOk_nil)) (by rw [Tryd.ntmps40]; exact hl) h
  · cases h
theorem eq_wire_Check (n : Nat) (x0 : V) : sem_wire_Check n [x0] =
 (V.cellsO x0).bind fun v1 =>
 (ldk none (List.drop 0 v1)).bind fun v2 =>
 (bin2 Tryd.prog BinOp.lss 3 (ot 5) (oc 1) v2 (vi 1)).bind fun v3 =>
 (guardV v3 false (some V.any)).bind fun v4 =>
 (guardV v3 false ((gate v3 false (ldk none (List.drop 0 v1))).bind fun v5 =>
 some v5)).bind fun v6 =>
 (guardV v3 false ((bin2 Tryd.prog BinOp.gtr 3 (ot 9) (oc 3) v6 (vi 3)).bind fun v7 =>
 some v7)).bind fun v8 =>
 (pickV v3 (vb true) v8).bind fun v9 =>
 (guardV v9 false (some V.any)).bind fun v10 =>
 (guardV v9 false ((gate v9 false (ldk none (List.drop 1 v1))).bind fun v11 =>
 some v11)).bind fun v12 =>
 (guardV v9 false ((bin2 Tryd.prog BinOp.lss 3 (ot 14) (oc 1) v12 (vi 1)).bind fun v13 =>
 some v13)).bind fun v14 =>
 (pickV v9 (vb true) v14).bind fun v15 =>
 (guardV v15 false (some V.any)).bind fun v16 =>
 (guardV v15 false ((gate v15 false (ldk none (List.drop 1 v1))).bind fun v17 =>
 some v17)).bind fun v18 =>
 (guardV v15 false ((bin2 Tryd.prog BinOp.gtr 3 (ot 19) (oc 6) v18 (vi 6)).bind fun v19 =>
 some v19)).bind fun v20 =>
 (pickV v15 (vb true) v20).bind fun v21 =>
 (guardV v21 false (some V.any)).bind fun v22 =>
 (guardV v21 false ((gate v21 false (ldk none (List.drop 2 v1))).bind fun v23 =>
 some v23)).bind fun v24 =>
 (guardV v21 false ((bin2 Tryd.prog BinOp.lss 3 (ot 24) (oc 0) v24 (vi 0)).bind fun v25 =>
 some v25)).bind fun v26 =>
 (pickV v21 (vb true) v26).bind fun v27 =>
 (guardV v27 false (some V.any)).bind fun v28 =>
 (guardV v27 false ((gate v27 false (ldk none (List.drop 2 v1))).bind fun v29 =>
 some v29)).bind fun v30 =>
 (guardV v27 false ((bin2 Tryd.prog BinOp.geq 3 (ot 29) (oc 20) v30 (vi 20)).bind fun v31 =>
 some v31)).bind fun v32 =>
 (pickV v27 (vb true) v32).bind fun v33 =>
 (guardV v33 false (some V.any)).bind fun v34 =>
 (guardV v33 false ((gate v33 false (ldk none (List.drop 3 v1))).bind fun v35 =>
 some v35)).bind fun v36 =>
 (guardV v33 false ((bin2 Tryd.prog BinOp.lss 3 (ot 34) (oc 0) v36 (vi 0)).bind fun v37 =>
 some v37)).bind fun v38 =>
 (pickV v33 (vb true) v38).bind fun v39 =>
 (guardV v39 false (some V.any)).bind fun v40 =>
 (guardV v39 false ((gate v39 false (ldk none (List.drop 3 v1))).bind fun v41 =>
 some v41)).bind fun v42 =>
 (guardV v39 false ((bin2 Tryd.prog BinOp.gtr 3 (ot 39) (oc 200) v42 (vi 200)).bind fun v43 =>
 some v43)).bind fun v44 =>
 (pickV v39 (vb true) v44).bind fun v45 =>
 condV v45 (
 (scal1 Tryd.prog (Instr.makeInterface 87) (vi 1)).bind fun v46 =>
 some v46) (
 (ldk none (List.drop 0 v1)).bind fun v47 =>
 (bin2 Tryd.prog BinOp.neq 3 (ot 44) (oc 1) v47 (vi 1)).bind fun v48 =>
 condV v48 (
 (ldk (some 8) (List.drop 4 v1)).bind fun v49 =>
 ((fillL [(vi 0), (vb false), (vi 0), (vi 0), (vi 0), (vi 0), (vi 0), (vi 0)] []).map V.agg).bind fun v50 =>
 (bin2 Tryd.prog BinOp.neq 37 (ot 47) (ot 48) v49 v50).bind fun v51 =>
 (guardV v51 false (some V.any)).bind fun v52 =>
 (guardV v51 false ((gate v51 false (ldk none (List.drop 0 v1))).bind fun v53 =>
 some v53)).bind fun v54 =>
 (guardV v51 false ((bin2 Tryd.prog BinOp.eql 3 (ot 52) (oc 3) v54 (vi 3)).bind fun v55 =>
 some v55)).bind fun v56 =>
 (guardV v51 false (some v56)).bind fun v57 =>
 (guardV v57 true (some V.any)).bind fun v58 =>
 (guardV v57 true ((gate v57 true (ldk none (List.drop 3 v1))).bind fun v59 =>
 some v59)).bind fun v60 =>
 (guardV v57 true ((bin2 Tryd.prog BinOp.neq 3 (ot 56) (oc 0) v60 (vi 0)).bind fun v61 =>
 some v61)).bind fun v62 =>
 (guardV v51 false ((pickV v57 v62 (vb false)).bind fun v63 =>
 some v63)).bind fun v64 =>
 (pickV v51 (vb true) v64).bind fun v65 =>
 condV v65 (
 (scal1 Tryd.prog (Instr.makeInterface 87) (vi 3)).bind fun v66 =>
 some v66) (
 some vn)) (
 (ldk (some 6) (List.drop 6 v1)).bind fun v67 =>
 ((sem_rule_Check n) [v67]).bind fun v68 =>
 (bin2 Tryd.prog BinOp.neq 27 (ot 65) (Operand.const Go.Value.nilIface) v68 vn).bind fun v69 =>
 condV v69 (
 some v68) (
 (ldk none (List.drop 4 v1)).bind fun v70 =>
 (ldk none (List.drop 1 v1)).bind fun v71 =>
 (bin2 Tryd.prog BinOp.neq 3 (ot 70) (ot 72) v70 v71).bind fun v72 =>
 condV v72 (
 (scal1 Tryd.prog (Instr.makeInterface 87) (vi 3)).bind fun v73 =>
 some v73) (
 some vn)))) := by kernel_rfl
noncomputable def t_wire_Check (a0 : T_Msg) : Option Int :=
 (some ((((((decide (a0.Kind < 1)) || (decide (3 < a0.Kind))) || (decide (a0.Switch < 1))) || (decide (6 < a0.Switch))) || (decide (a0.Round < 0))) || (decide (20 ≤ a0.Round)))).bind fun r49 =>
 if ((r49 || (decide (a0.Index < 0))) || (decide (200 < a0.Index))) = true then (
 some 1) else (
 if (decide (a0.Kind ≠ 1)) = true then (
 if ((!decide (a0.Op = (T_Op.mk 0 false (T_Rule.mk 0 (T_Cube.mk 0 0) 0 0 0)))) || ((decide (a0.Kind = 3)) && (decide (a0.Index ≠ 0)))) = true then (
 some 3) else (
 some 0)) else (
 (t_rule_Check a0.Op.Rule).bind fun r102 =>
 if (!decide (r102 = 0)) = true then (
 some r102) else (
 if (decide (a0.Op.Switch ≠ a0.Switch)) = true then (
 some 3) else (
 some 0))))
theorem ty_wire_Check {n : Nat} (hn : bigN ≤ n) (a0 : T_Msg) : Rv (fun x : Int => (eV x)) (sem_wire_Check n [(T_Msg.e a0)]) (t_wire_Check a0) := by
  rw [eq_wire_Check]
  unfold t_wire_Check
  refine tb (x := (T_Msg.c a0)) rfl ?_
  refine tb (x := (vi a0.Kind)) (rfl) ?_
  refine tb (x := (vb (decide (a0.Kind < 1)))) (d_lss) ?_
  refine tg_f (x := V.any) (fun h4 => rfl) ?_
  refine tg_f (x := (vi a0.Kind)) (fun h6 => bind_some_eq (gate_pos (not_t h6) (rfl))) ?_
  refine tg_f (x := (vb (decide (3 < a0.Kind)))) (fun h9 => by simp only [gv_t h9]; exact bind_some_eq (d_gtr)) ?_
  refine tb (x := (vb ((decide (a0.Kind < 1)) || (decide (3 < a0.Kind))))) (pick_or (fun h9 => gv_t (not_f h9))) ?_
  refine tg_f (x := V.any) (fun h13 => rfl) ?_
  refine tg_f (x := (vi a0.Switch)) (fun h15 => bind_some_eq (gate_pos (not_t h15) (rfl))) ?_
  refine tg_f (x := (vb (decide (a0.Switch < 1)))) (fun h18 => by simp only [gv_t h18]; exact bind_some_eq (d_lss)) ?_
  refine tb (x := (vb (((decide (a0.Kind < 1)) || (decide (3 < a0.Kind))) || (decide (a0.Switch < 1))))) (pick_or (fun h9 => gv_t (not_f h9))) ?_
  refine tg_f (x := V.any) (fun h22 => rfl) ?_
  refine tg_f (x := (vi a0.Switch)) (fun h24 => bind_some_eq (gate_pos (not_t h24) (rfl))) ?_
  refine tg_f (x := (vb (decide (6 < a0.Switch)))) (fun h27 => by simp only [gv_t h27]; exact bind_some_eq (d_gtr)) ?_
  refine tb (x := (vb ((((decide (a0.Kind < 1)) || (decide (3 < a0.Kind))) || (decide (a0.Switch < 1))) || (decide (6 < a0.Switch))))) (pick_or (fun h9 => gv_t (not_f h9))) ?_
  refine tg_f (x := V.any) (fun h31 => rfl) ?_
  refine tg_f (x := (vi a0.Round)) (fun h33 => bind_some_eq (gate_pos (not_t h33) (rfl))) ?_
  refine tg_f (x := (vb (decide (a0.Round < 0)))) (fun h36 => by simp only [gv_t h36]; exact bind_some_eq (d_lss)) ?_
  refine tb (x := (vb (((((decide (a0.Kind < 1)) || (decide (3 < a0.Kind))) || (decide (a0.Switch < 1))) || (decide (6 < a0.Switch))) || (decide (a0.Round < 0))))) (pick_or (fun h9 => gv_t (not_f h9))) ?_
  refine tg_f (x := V.any) (fun h40 => rfl) ?_
  refine tg_f (x := (vi a0.Round)) (fun h42 => bind_some_eq (gate_pos (not_t h42) (rfl))) ?_
  refine tg_f (x := (vb (decide (20 ≤ a0.Round)))) (fun h45 => by simp only [gv_t h45]; exact bind_some_eq (d_geq)) ?_
  refine tbo (e1 := fun x : Bool => (vb x)) (rf_eq (pick_or (fun h9 => gv_t (not_f h9))) rfl) fun r49 => ?_
  refine tg_f (x := V.any) (fun h50 => rfl) ?_
  refine tg_f (x := (vi a0.Index)) (fun h52 => bind_some_eq (gate_pos (not_t h52) (rfl))) ?_
  refine tg_f (x := (vb (decide (a0.Index < 0)))) (fun h55 => by simp only [gv_t h55]; exact bind_some_eq (d_lss)) ?_
  refine tb (x := (vb (r49 || (decide (a0.Index < 0))))) (pick_or (fun h9 => gv_t (not_f h9))) ?_
  refine tg_f (x := V.any) (fun h59 => rfl) ?_
  refine tg_f (x := (vi a0.Index)) (fun h61 => bind_some_eq (gate_pos (not_t h61) (rfl))) ?_
  refine tg_f (x := (vb (decide (200 < a0.Index)))) (fun h64 => by simp only [gv_t h64]; exact bind_some_eq (d_gtr)) ?_
  refine tb (x := (vb ((r49 || (decide (a0.Index < 0))) || (decide (200 < a0.Index))))) (pick_or (fun h9 => gv_t (not_f h9))) ?_
  refine tcond (fun h68 => ?_) (fun h68 => ?_)
  · refine tb (x := (eV 1)) (p_mkE (by decide)) ?_
    exact rf_ret rfl
  · refine tb (x := (vi a0.Kind)) (rfl) ?_
    refine tb (x := (vb (decide (a0.Kind ≠ 1)))) (d_neq) ?_
    refine tcond (fun h72 => ?_) (fun h72 => ?_)
    · refine tb (x := (T_Op.e a0.Op)) (rfl) ?_
      refine tb (x := (T_Op.e (T_Op.mk 0 false (T_Rule.mk 0 (T_Cube.mk 0 0) 0 0 0)))) (by kernel_rfl) ?_
      refine tb (x := (vb (!decide (a0.Op = (T_Op.mk 0 false (T_Rule.mk 0 (T_Cube.mk 0 0) 0 0 0)))))) (T_Op.neq a0.Op (T_Op.mk 0 false (T_Rule.mk 0 (T_Cube.mk 0 0) 0 0 0))) ?_
      refine tg_f (x := V.any) (fun h76 => rfl) ?_
      refine tg_f (x := (vi a0.Kind)) (fun h78 => bind_some_eq (gate_pos (not_t h78) (rfl))) ?_
      refine tg_f (x := (vb (decide (a0.Kind = 3)))) (fun h81 => by simp only [gv_t h81]; exact bind_some_eq (d_eql)) ?_
      refine tg_f (x := (vb (decide (a0.Kind = 3)))) (fun h84 => congrArg some (gv_t h84)) ?_
      refine tg2 (x := V.any) (fun h86 => rfl) ?_
      refine tg2 (x := (vi a0.Index)) (fun h88 => bind_some_eq (gate_pos2 (and_l h88) (and_r h88) (rfl))) ?_
      refine tg2 (x := (vb (decide (a0.Index ≠ 0)))) (fun h91 => by simp only [gv_t h91]; exact bind_some_eq (d_neq)) ?_
      refine tg_f (x := (vb ((decide (a0.Kind = 3)) && (decide (a0.Index ≠ 0))))) (fun h94 => by simp only [gv_t h94]; exact bind_some_eq (pick_and (fun h9 => gv_t (and_i h94 h9)))) ?_
      refine tb (x := (vb ((!decide (a0.Op = (T_Op.mk 0 false (T_Rule.mk 0 (T_Cube.mk 0 0) 0 0 0)))) || ((decide (a0.Kind = 3)) && (decide (a0.Index ≠ 0)))))) (pick_or (fun h9 => gv_t (not_f h9))) ?_
      refine tcond (fun h98 => ?_) (fun h98 => ?_)
      · refine tb (x := (eV 3)) (p_mkE (by decide)) ?_
        exact rf_ret rfl
      · exact rf_ret rfl
    · refine tb (x := (T_Rule.e a0.Op.Rule)) (rfl) ?_
      refine tbo (ty_rule_Check hn a0.Op.Rule) fun r102 => ?_
      refine tb (x := (vb (!decide (r102 = 0)))) (p_err_neq _) ?_
      refine tcond (fun h104 => ?_) (fun h104 => ?_)
      · exact rf_ret rfl
      · refine tb (x := (vi a0.Op.Switch)) (rfl) ?_
        refine tb (x := (vi a0.Switch)) (rfl) ?_
        refine tb (x := (vb (decide (a0.Op.Switch ≠ a0.Switch)))) (d_neq) ?_
        refine tcond (fun h108 => ?_) (fun h108 => ?_)
        · refine tb (x := (eV 3)) (p_mkE (by decide)) ?_
          exact rf_ret rfl
        · exact rf_ret rfl

/-! slices.Index   int int  -/
def an_slices_Index_int_int : Ann := .seq (.reg 0 [] [] []) (.seq (.seq (.reg 0 [] [] []) (.blk (some []) (.loop [.s 8] (.seq (.reg 0 [] [] []) (.seq (.cond none (.no) (.no)) (.seq (.blk none (.seq (.reg 0 [] [] []) (.seq (.reg 0 [] [] []) (.cond none (.seq (.reg 0 [] [] []) (.no)) (.no))))) (.reg 0 [] [] []))))))) (.seq (.reg 0 [] [] []) (.no)))
noncomputable def sem_slices_Index_int_int (n : Nat) (xs : List V) : Option V := if xs.length ≤ 19 then denF Tryd.prog (envOf []) n Tryd.f62 an_slices_Index_int_int xs else none
theorem ok_slices_Index_int_int (n : Nat) : SemOk Tryd.prog DW 62 (sem_slices_Index_int_int n) := fun xs y h => by
  unfold sem_slices_Index_int_int at h
  split at h
  · rename_i hl
    exact denF_ok stb Tryd.func62 (by kernel_rfl) (envOf_ok semsOk_nil) (by rw [Tryd.ntmps62]; exact hl) h
  · cases h
theorem eq_slices_Index_int_int (n : Nat) (x0 x1 : V) : sem_slices_Index_int_int n [x0, x1] =
 (lenS [x0]).bind fun v1 =>
 JoinPt (fun vs2 =>
 some (vi (-1 : Int))) fun J3 =>
 (fixN (fun rec4 vs5 =>
 (bin2 Tryd.prog BinOp.lss 3 (ot 8) (ot 7) (List.getD vs5 0 V.any) v1).bind fun v6 =>
 condV v6 (
 (idxS 1 x0 (List.getD vs5 0 V.any)).bind fun v7 =>
 (ldp none v7).bind fun v8 =>
 (bin2 Tryd.prog BinOp.eql 3 (ot 11) (ot 15) x1 v8).bind fun v9 =>
 condV v9 (
 some (List.getD vs5 0 V.any)) (
 (bin2 Tryd.prog BinOp.add 3 (ot 8) (oc 1) (List.getD vs5 0 V.any) (vi 1)).bind fun v10 =>
 rec4 [v10])) (
 J3 [])) n) [(vi 0)] := by kernel_rfl
noncomputable def t_slices_Index_int_int (a0 : (List Int)) (a1 : Int) : Option Int :=
 join (fun (s4 : Unit) =>
 some (-1 : Int)) fun j5 =>
 loopI a0 (fun (i13 : Int) x14 (s9 : Unit) k10 =>
 if (decide (a1 = x14)) = true then (
 some i13) else (
 k10 ())) (fun (s9 : Unit) =>
 j5 ()) ()
theorem ty_slices_Index_int_int {n : Nat} (hn : bigN ≤ n) (a0 : (List Int)) (a1 : Int) : Rv (fun x : Int => (vi x)) (sem_slices_Index_int_int n [(V.sl (List.map cI a0)), (vi a1)]) (t_slices_Index_int_int a0 a1) := by
  rw [eq_slices_Index_int_int]
  unfold t_slices_Index_int_int
  refine tb (x := (vi (List.length a0 : Int))) (p_len _) ?_
  refine tjoin (mk := fun s4 : Unit => []) (fun s4 => ?_) fun J3 j5 h6 => ?_
  · exact rf_ret rfl
  · refine rf_loopI (mk := fun (i13 : Int) (s9 : Unit) => [(vi (i13 : Int))]) hn a0 () (fun i13 x14 h15 h16 h17 s9 rec7 k10 h11 => ?_) (fun s9 rec25 h24 => ?_)
    · refine tb (x := (vb (decide ((i13 : Int) < (List.length a0 : Int))))) (d_lss) ?_
      refine tcond_t h17 ?_
      refine tb (x := (V.ptr [(vi x14)])) (p_idx_at (c := cI) (fun _ => rfl) h15) ?_
      refine tb (x := (vi x14)) (rfl) ?_
      refine tb (x := (vb (decide (a1 = x14)))) (d_eql) ?_
      refine tcond (fun h22 => ?_) (fun h22 => ?_)
      · exact rf_ret rfl
      · refine tb (x := (vi ((i13 : Int) + 1))) (p_incN h16) ?_
        exact h11 ()
    · refine tb (x := (vb (decide ((List.length a0 : Int) < (List.length a0 : Int))))) (d_lss) ?_
      refine tcond_f h24 ?_
      exact h6 ()

/-!   railpoint/drive.Drive .Hear -/
def an_drive_Drive_Hear : Ann := .seq (.reg 0 [] [] []) (.seq (.seq (.reg 0 [] [] []) (.cond none (.seq (.reg 0 [] [] []) (.no)) (.no))) (.seq (.reg 8 [] [] [18, 2000021]) (.seq (.seq (.reg 12 [] [] []) (.cond none (.seq (.reg 0 [] [] []) (.no)) (.no))) (.seq (.reg 0 [] [] [2000039, 43]) (.seq (.reg 0 [] [] []) (.no))))))
noncomputable def sem_drive_Drive_Hear (n : Nat) (xs : List V) : Option V := if xs.length ≤ 46 then denM Tryd.prog (envOf [(40, (sem_wire_Check n)), (62, (sem_slices_Index_int_int n)), (63 + 1000000, (semDelete))]) n Tryd.f29 an_drive_Drive_Hear [2, 0] none xs else none
theorem ok_drive_Drive_Hear (n : Nat) : MSemOk Tryd.prog DW 29 (sem_drive_Drive_Hear n) := fun xs y h => by
  unfold sem_drive_Drive_Hear at h
  split at h
  · rename_i hl
    exact denM_ok Tryd.func29 (by kernel_rfl) (envOf_ok (semsOk_cons (ok_wire_Check n) (semsOk_cons (ok_slices_Index_int_int n) (semsOk_consM (mok_Delete) semsOk_nil)))) (by rw [Tryd.ntmps29]; exact hl) (by decide) h
  · cases h
theorem eq_drive_Drive_Hear (n : Nat) (x0 x1 : V) : sem_drive_Drive_Hear n [x0, x1] =
 (objG x0).bind fun v1 =>
 (pureO x1).bind fun v2 =>
 (V.cellsO x1).bind fun v3 =>
 (ldk (some 12) (List.drop 0 v3)).bind fun v4 =>
 ((sem_wire_Check n) [v4]).bind fun v5 =>
 (bin2 Tryd.prog BinOp.neq 27 (ot 7) (Operand.const Go.Value.nilIface) v5 vn).bind fun v6 =>
 (guardV v6 false (some V.any)).bind fun v7 =>
 (guardV v6 false ((gate v6 false (ldk none (List.drop 0 v3))).bind fun v8 =>
 some v8)).bind fun v9 =>
 (guardV v6 false ((bin2 Tryd.prog BinOp.neq 3 (ot 11) (oc 3) v9 (vi 3)).bind fun v10 =>
 some v10)).bind fun v11 =>
 (pickV v6 (vb true) v11).bind fun v12 =>
 condV v12 (
 (scal1 Tryd.prog (Instr.makeInterface 87) (vi 3)).bind fun v13 =>
 some (V.tup [v13, x0, V.any])) (
 (some V.any).bind fun v14 =>
 (some V.any).bind fun v15 =>
 ((nodeL x0 none 0).bind fun l16 => (l16[3]?).bind ownO).bind fun v17 =>
 (ldk none (List.drop 1 v3)).bind fun v18 =>
 (some (frzC x0 [(Stp.mk none 3 0)])).bind fun v19 =>
 ((sem_slices_Index_int_int n) [v19, v18]).bind fun v21 =>
 (litQ v21).bind fun v20 =>
 (ldk none (List.drop 2 v3)).bind fun v22 =>
 (some V.any).bind fun v23 =>
 (some V.any).bind fun v24 =>
 ((nodeL x0 none 0).bind fun l25 => (ldk none (List.drop 2 l25)).bind pureO).bind fun v26 =>
 (bin2 Tryd.prog BinOp.sub 3 (ot 27) (oc 1) v26 (vi 1)).bind fun v27 =>
 (bin2 Tryd.prog BinOp.neq 3 (ot 23) (ot 28) v22 v27).bind fun v28 =>
 (guardV v28 false (some v20)).bind fun v29 =>
 (guardV v28 false ((bin2 Tryd.prog BinOp.lss 3 (ot 31) (oc 0) v29 (vi 0)).bind fun v30 =>
 some v30)).bind fun v31 =>
 (pickV v28 (vb true) v31).bind fun v32 =>
 condV v32 (
 (scal1 Tryd.prog (Instr.makeInterface 87) (vi 6)).bind fun v33 =>
 some (V.tup [v33, x0, V.any])) (
 (some V.any).bind fun v34 =>
 (some V.any).bind fun v35 =>
 ((nodeL x0 none 0).bind fun l39 => (l39[3]?).bind ownO).bind fun v36 =>
 (getV x0 [(Stp.mk none 3 0)]).bind fun v37 =>
 (modX x0 [] (Stp.mk none 3 0) V.any).bind fun v38 =>
 (bin2 Tryd.prog BinOp.add 3 (ot 41) (oc 1) v20 (vi 1)).bind fun v40 =>
 ((semDelete) [v37, v20, v40]).bind fun z41 =>
 (some V.any).bind fun v42 =>
 (some V.any).bind fun v43 =>
 (V.cellsO (tupAt z41 0)).bind fun v44 =>
 (setV v38 [] (Stp.mk none 3 0) 1 v44).bind fun v45 =>
 some (V.tup [vn, v45, V.any]))) := by kernel_rfl
noncomputable def t_drive_Drive_Hear (a0 : T_drive_Drive) (a1 : T_Msg) : Option (Int × T_drive_Drive) :=
 (t_wire_Check a1).bind fun r6 =>
 if ((!decide (r6 = 0)) || (decide (a1.Kind ≠ 3))) = true then (
 some (3, a0)) else (
 (t_slices_Index_int_int a0.left a1.Switch).bind fun r24 =>
 if ((decide (a1.Round ≠ (wr (a0.said - 1)))) || (decide (r24 < 0))) = true then (
 some (6, a0)) else (
 (deleteI a0.left r24 (wr (r24 + 1))).bind fun r44 =>
 some (0, (T_drive_Drive.mk a0.rounds a0.wait a0.said r44 a0.ticks))))
theorem ty_drive_Drive_Hear {n : Nat} (hn : bigN ≤ n) (a0 : T_drive_Drive) (a1 : T_Msg) : Rv (fun x : (Int × T_drive_Drive) => (V.tup [(eV x.1), (V.obj [(V.osl 1 (List.map (cS T_Op.c) x.2.rounds)), (vi x.2.wait), (vi x.2.said), (V.osl 1 (List.map cI x.2.left)), (vi x.2.ticks)]), V.any])) (sem_drive_Drive_Hear n [(V.obj [(V.osl 1 (List.map (cS T_Op.c) a0.rounds)), (vi a0.wait), (vi a0.said), (V.osl 1 (List.map cI a0.left)), (vi a0.ticks)]), (T_Msg.e a1)]) (t_drive_Drive_Hear a0 a1) := by
  rw [eq_drive_Drive_Hear]
  unfold t_drive_Drive_Hear
  refine tb (x := V.any) rfl ?_
  refine tb (x := (T_Msg.e a1)) rfl ?_
  refine tb (x := (T_Msg.c a1)) rfl ?_
  refine tb (x := (T_Msg.e a1)) (rfl) ?_
  refine tbo (ty_wire_Check hn a1) fun r6 => ?_
  refine tb (x := (vb (!decide (r6 = 0)))) (p_err_neq _) ?_
  refine tg_f (x := V.any) (fun h8 => rfl) ?_
  refine tg_f (x := (vi a1.Kind)) (fun h10 => bind_some_eq (gate_pos (not_t h10) (rfl))) ?_
  refine tg_f (x := (vb (decide (a1.Kind ≠ 3)))) (fun h13 => by simp only [gv_t h13]; exact bind_some_eq (d_neq)) ?_
  refine tb (x := (vb ((!decide (r6 = 0)) || (decide (a1.Kind ≠ 3))))) (pick_or (fun h9 => gv_t (not_f h9))) ?_
  refine tcond (fun h17 => ?_) (fun h17 => ?_)
  · refine tb (x := (eV 3)) (p_mkE (by decide)) ?_
    exact rf_ret rfl
  · refine tb (x := V.any) rfl ?_
    refine tb (x := V.any) rfl ?_
    refine tb (x := V.any) rfl ?_
    refine tb (x := (vi a1.Switch)) (rfl) ?_
    refine tb (x := (V.sl (List.map cI a0.left))) (p_frzS (k := 1) (c' := cI) (fun _ => rfl) a0.left) ?_
    refine tbo (ty_slices_Index_int_int hn a0.left a1.Switch) fun r24 => ?_
    refine tb (x := (vi r24)) rfl ?_
    refine tb (x := (vi a1.Round)) (rfl) ?_
    refine tb (x := V.any) rfl ?_
    refine tb (x := V.any) rfl ?_
    refine tb (x := (vi a0.said)) (rfl) ?_
    refine tb (x := (vi (wr (a0.said - 1)))) (d_sub) ?_
    refine tb (x := (vb (decide (a1.Round ≠ (wr (a0.said - 1)))))) (d_neq) ?_
    refine tg_f (x := (vi r24)) (fun h32 => rfl) ?_
    refine tg_f (x := (vb (decide (r24 < 0)))) (fun h34 => by simp only [gv_t h34]; exact bind_some_eq (d_lss)) ?_
    refine tb (x := (vb ((decide (a1.Round ≠ (wr (a0.said - 1)))) || (decide (r24 < 0))))) (pick_or (fun h9 => gv_t (not_f h9))) ?_
    refine tcond (fun h38 => ?_) (fun h38 => ?_)
    · refine tb (x := (eV 6)) (p_mkE (by decide)) ?_
      exact rf_ret rfl
    · refine tb (x := V.any) rfl ?_
      refine tb (x := V.any) rfl ?_
      refine tb (x := V.any) rfl ?_
      refine tb (x := (V.osl 1 (List.map cI a0.left))) rfl ?_
      refine tb (x := (V.obj [(V.osl 1 (List.map (cS T_Op.c) a0.rounds)), (vi a0.wait), (vi a0.said), V.any, (vi a0.ticks)])) (by kernel_rfl) ?_
      refine tb (x := (vi (wr (r24 + 1)))) (d_add) ?_
      refine tbo (p_delete a0.left r24 (wr (r24 + 1))) fun r44 => ?_
      refine tb (x := V.any) rfl ?_
      refine tb (x := V.any) rfl ?_
      refine tb (x := [(V.osl 1 (List.map cI r44))]) rfl ?_
      refine tb (x := (V.obj [(V.osl 1 (List.map (cS T_Op.c) a0.rounds)), (vi a0.wait), (vi a0.said), (V.osl 1 (List.map cI r44)), (vi a0.ticks)])) (by kernel_rfl) ?_
      exact rf_ret rfl

/-!   railpoint/drive.Drive .Done -/
def an_drive_Drive_Done : Ann := .seq (.reg 0 [] [] []) (.seq (.reg 19 [] [] []) (.no))
noncomputable def sem_drive_Drive_Done (n : Nat) (xs : List V) : Option V := if xs.length ≤ 21 then denF Tryd.prog (envOf []) n Tryd.f30 an_drive_Drive_Done xs else none
theorem ok_drive_Drive_Done (n : Nat) : SemOk Tryd.prog DW 30 (sem_drive_Drive_Done n) := fun xs y h => by
  unfold sem_drive_Drive_Done at h
  split at h
  · rename_i hl
    exact denF_ok stb Tryd.func30 (by kernel_rfl) (envOf_ok semsOk_nil) (by rw [Tryd.ntmps30]; exact hl) h
  · cases h
theorem eq_drive_Drive_Done (n : Nat) (x0 : V) : sem_drive_Drive_Done n [x0] =
 (ptrF 0 x0).bind fun v1 =>
 (ptrF 3 v1).bind fun v2 =>
 (ldp none v2).bind fun v3 =>
 (lenS [v3]).bind fun v4 =>
 (bin2 Tryd.prog BinOp.eql 3 (ot 7) (oc 0) v4 (vi 0)).bind fun v5 =>
 (guardV v5 true (some x0)).bind fun v6 =>
 (guardV v5 true ((ptrF 0 v6).bind fun v7 =>
 some v7)).bind fun v8 =>
 (guardV v5 true ((ptrF 2 v8).bind fun v9 =>
 some v9)).bind fun v10 =>
 (guardV v5 true ((ldp none v10).bind fun v11 =>
 some v11)).bind fun v12 =>
 (guardV v5 true (some x0)).bind fun v13 =>
 (guardV v5 true ((ptrF 0 v13).bind fun v14 =>
 some v14)).bind fun v15 =>
 (guardV v5 true ((ptrF 0 v15).bind fun v16 =>
 some v16)).bind fun v17 =>
 (guardV v5 true ((ldp none v17).bind fun v18 =>
 some v18)).bind fun v19 =>
 (guardV v5 true ((lenS [v19]).bind fun v20 =>
 some v20)).bind fun v21 =>
 (guardV v5 true ((bin2 Tryd.prog BinOp.eql 3 (ot 13) (ot 18) v12 v21).bind fun v22 =>
 some v22)).bind fun v23 =>
 (pickV v5 v23 (vb false)).bind fun v24 =>
 some v24 := by kernel_rfl
noncomputable def t_drive_Drive_Done (a0 : T_drive_Drive) : Option Bool :=
 some ((decide ((List.length a0.left : Int) = 0)) && (decide (a0.said = (List.length a0.rounds : Int))))
theorem ty_drive_Drive_Done {n : Nat} (hn : bigN ≤ n) (a0 : T_drive_Drive) : Rv (fun x : Bool => (vb x)) (sem_drive_Drive_Done n [(V.ptr (T_drive_Drive.c a0))]) (t_drive_Drive_Done a0) := by
  rw [eq_drive_Drive_Done]
  unfold t_drive_Drive_Done
  refine tb (x := (V.ptr (T_drive_Drive.c a0))) (rfl) ?_
  refine tb (x := (V.ptr (List.drop 3 (T_drive_Drive.c a0)))) (rfl) ?_
  refine tb (x := (V.sl (List.map cI a0.left))) (rfl) ?_
  refine tb (x := (vi (List.length a0.left : Int))) (p_len _) ?_
  refine tb (x := (vb (decide ((List.length a0.left : Int) = 0)))) (d_eql) ?_
  refine tg (x := (V.ptr (T_drive_Drive.c a0))) (fun h6 => rfl) ?_
  refine tg (x := (V.ptr (T_drive_Drive.c a0))) (fun h8 => by first | exact bind_some_eq (rfl) | (simp only [gv_t h8]; exact bind_some_eq (rfl))) ?_
  refine tg (x := (V.ptr (List.drop 2 (T_drive_Drive.c a0)))) (fun h11 => by first | exact bind_some_eq (rfl) | (simp only [gv_t h11]; exact bind_some_eq (rfl))) ?_
  refine tg (x := (vi a0.said)) (fun h14 => by first | exact bind_some_eq (rfl) | (simp only [gv_t h14]; exact bind_some_eq (rfl))) ?_
  refine tg (x := (V.ptr (T_drive_Drive.c a0))) (fun h17 => rfl) ?_
  refine tg (x := (V.ptr (T_drive_Drive.c a0))) (fun h19 => by first | exact bind_some_eq (rfl) | (simp only [gv_t h19]; exact bind_some_eq (rfl))) ?_
  refine tg (x := (V.ptr (T_drive_Drive.c a0))) (fun h22 => by first | exact bind_some_eq (rfl) | (simp only [gv_t h22]; exact bind_some_eq (rfl))) ?_
  refine tg (x := (V.sl (List.map (cS T_Op.c) a0.rounds))) (fun h25 => by first | exact bind_some_eq (rfl) | (simp only [gv_t h25]; exact bind_some_eq (rfl))) ?_
  refine tg (x := (vi (List.length a0.rounds : Int))) (fun h28 => by simp only [gv_t h28]; exact bind_some_eq (p_len _)) ?_
  refine tg (x := (vb (decide (a0.said = (List.length a0.rounds : Int))))) (fun h31 => by simp only [gv_t h31]; exact bind_some_eq (d_eql)) ?_
  refine tb (x := (vb ((decide ((List.length a0.left : Int) = 0)) && (decide (a0.said = (List.length a0.rounds : Int)))))) (pick_and (fun h9 => gv_t h9)) ?_
  exact rf_ret rfl

/-!   railpoint/drive.Drive .Round -/
def an_drive_Drive_Round : Ann := .seq (.reg 0 [] [] []) (.seq (.reg 0 [] [] []) (.no))
noncomputable def sem_drive_Drive_Round (n : Nat) (xs : List V) : Option V := if xs.length ≤ 7 then denF Tryd.prog (envOf []) n Tryd.f31 an_drive_Drive_Round xs else none
theorem ok_drive_Drive_Round (n : Nat) : SemOk Tryd.prog DW 31 (sem_drive_Drive_Round n) := fun xs y h => by
  unfold sem_drive_Drive_Round at h
  split at h
  · rename_i hl
    exact denF_ok stb Tryd.func31 (by kernel_rfl) (envOf_ok semsOk_nil) (by rw [Tryd.ntmps31]; exact hl) h
  · cases h
theorem eq_drive_Drive_Round (n : Nat) (x0 : V) : sem_drive_Drive_Round n [x0] =
 (ptrF 0 x0).bind fun v1 =>
 (ptrF 2 v1).bind fun v2 =>
 (ldp none v2).bind fun v3 =>
 some v3 := by kernel_rfl
noncomputable def t_drive_Drive_Round (a0 : T_drive_Drive) : Option Int :=
 some a0.said
theorem ty_drive_Drive_Round {n : Nat} (hn : bigN ≤ n) (a0 : T_drive_Drive) : Rv (fun x : Int => (vi x)) (sem_drive_Drive_Round n [(V.ptr (T_drive_Drive.c a0))]) (t_drive_Drive_Round a0) := by
  rw [eq_drive_Drive_Round]
  unfold t_drive_Drive_Round
  refine tb (x := (V.ptr (T_drive_Drive.c a0))) (rfl) ?_
  refine tb (x := (V.ptr (List.drop 2 (T_drive_Drive.c a0)))) (rfl) ?_
  refine tb (x := (vi a0.said)) (rfl) ?_
  exact rf_ret rfl

/-! railpoint/raillaw3.DriveSays -/
def an_raillaw3_DriveSays : Ann := .seq (.reg 0 [] [] []) (.seq (.reg 0 [] [] [27, 28]) (.seq (.seq (.reg 0 [] [] []) (.cond none (.seq (.reg 0 [] [] []) (.no)) (.no))) (.seq (.reg 0 [] [] [33, 34]) (.seq (.reg 0 [] [] []) (.seq (.seq (.reg 0 [] [] []) (.cond none (.seq (.reg 0 [] [] []) (.no)) (.no))) (.seq (.seq (.reg 0 [] [] []) (.blk (some [.o 5]) (.loop [.o 5, .s 10] (.seq (.seq (.reg 0 [] [] []) (.cond none (.no) (.no))) (.seq (.blk (some [.o 5]) (.seq (.reg 0 [] [] []) (.seq (.seq (.reg 0 [] [] []) (.cond none (.seq (.reg 0 [] [] []) (.no)) (.no))) (.seq (.reg 0 [] [] []) (.seq (.reg 0 [] [] []) (.seq (.seq (.reg 0 [] [] []) (.blk (some [.ko 5, .s 13, .s 14]) (.loop [.ko 5, .s 13, .s 14, .s 15] (.seq (.seq (.reg 0 [] [] []) (.cond none (.no) (.no))) (.seq (.blk none (.seq (.seq (.reg 0 [] [] []) (.cond none (.seq (.reg 0 [] [] []) (.no)) (.no))) (.seq (.reg 0 [] [] []) (.cond (some [.ko 5, .s 13, .s 14]) (.reg 0 [] [] []) (.seq (.reg 0 [] [] []) (.cond none (.reg 0 [] [] []) (.seq (.reg 0 [] [] []) (.no)))))))) (.reg 0 [] [] [])))))) (.seq (.reg 0 [] [] [2000083, 3000083]) (.seq (.seq (.reg 0 [] [] []) (.cond none (.seq (.reg 0 [] [] []) (.no)) (.no))) (.seq (.reg 0 [] [] []) (.blk (some [.o 5]) (.loop [.o 5, .s 17] (.seq (.seq (.reg 0 [] [] []) (.cond none (.no) (.no))) (.seq (.blk none (.seq (.reg 0 [] [] []) (.seq (.reg 0 [] [] []) (.seq (.reg 0 [] [] []) (.seq (.reg 0 [] [] []) (.seq (.reg 0 [] [] []) (.seq (.reg 0 [] [] []) (.cond none (.seq (.reg 0 [] [] []) (.no)) (.no))))))))) (.reg 0 [] [] [])))))))))))))) (.reg 0 [] [] [])))))) (.seq (.reg 0 [] [] [2000139, 2000142]) (.no))))))))
noncomputable def sem_raillaw3_DriveSays (n : Nat) (xs : List V) : Option V := if xs.length ≤ 147 then denF Tryd.prog (envOf [(26 + 1000000, (sem_drive_New n)), (9, (sem_Error n)), (27 + 1000000, (sem_drive_Drive_Next n)), (28 + 1000000 * (3 + 2), (sem_drive_Drive_Left n)), (29 + 1000000, (sem_drive_Drive_Hear n)), (30, (sem_drive_Drive_Done n)), (31, (sem_drive_Drive_Round n))]) n Tryd.f6 an_raillaw3_DriveSays xs else none
theorem ok_raillaw3_DriveSays (n : Nat) : SemOk Tryd.prog DW 6 (sem_raillaw3_DriveSays n) := fun xs y h => by
  unfold sem_raillaw3_DriveSays at h
  split at h
  · rename_i hl
    exact denF_ok stb Tryd.func6 (by kernel_rfl) (envOf_ok (semsOk_consM (ok_drive_New n) (semsOk_cons (ok_Error n) (semsOk_consM (ok_drive_Drive_Next n) (semsOk_consR (ok_drive_Drive_Left n) (semsOk_consM (ok_drive_Drive_Hear n) (semsOk_cons (ok_drive_Drive_Done n) (semsOk_cons (ok_drive_Drive_Round n) semsOk_nil)))))))) (by rw [Tryd.ntmps6]; exact hl) h
  · cases h
theorem eq_raillaw3_DriveSays (n : Nat) (x0 x1 : V) : sem_raillaw3_DriveSays n [x0, x1] =
 ((sem_drive_New n) [x0, x1]).bind fun z1 =>
 partK (tupAt z1 0) 0 (fun l3 c4 =>
 partP (V.tup l3) 1 fun v5 =>
 (bin2 Tryd.prog BinOp.neq 27 (ot 30) (Operand.const Go.Value.nilIface) v5 vn).bind fun v6 =>
 condV v6 (
 some (vb true)) (
 ((sem_drive_New n) [(V.sl []), (vi 0)]).bind fun z7 =>
 partK (tupAt z7 0) 0 (fun l9 c10 =>
 partP (V.tup l9) 1 fun v11 =>
 ((sem_Error n) [v11, (vi 1)]).bind fun v12 =>
 (scal1 Tryd.prog (Op.unary Go.UnOp.not) v12).bind fun v13 =>
 condV v13 (
 some (vb false)) (
 JoinPt (fun vs14 =>
 (some (frzQ (List.getD vs14 0 V.any))).bind fun v16 =>
 ((sem_drive_Drive_Done n) [v16]).bind fun v18 =>
 (litQ v18).bind fun v17 =>
 (guardV v17 true (some V.any)).bind fun v19 =>
 (guardV v17 true ((some (gateA [(v17, true)] (frzQ (List.getD vs14 0 V.any)))).bind fun v20 =>
 ((sem_drive_Drive_Round n) [v20]).bind litQ)).bind fun v21 =>
 (guardV v17 true (some x0)).bind fun v22 =>
 (guardV v17 true ((lenS [v22]).bind fun v23 =>
 some v23)).bind fun v24 =>
 (guardV v17 true ((bin2 Tryd.prog BinOp.eql 3 (ot 142) (ot 144) v21 v24).bind fun v25 =>
 some v25)).bind fun v26 =>
 (pickV v17 v26 (vb false)).bind fun v27 =>
 some v27) fun J15 =>
 (fixN (fun rec28 vs29 =>
 (lenS [x0]).bind fun v30 =>
 (bin2 Tryd.prog BinOp.lss 3 (ot 40) (ot 42) (List.getD vs29 1 V.any) v30).bind fun v31 =>
 condV v31 (
 JoinPt (fun vs32 =>
 (bin2 Tryd.prog BinOp.add 3 (ot 44) (oc 1) (List.getD vs29 1 V.any) (vi 1)).bind fun v34 =>
 rec28 [(List.getD vs32 0 V.any), v34]) fun J33 =>
 (objG (List.getD vs29 0 V.any)).bind fun v35 =>
 ((sem_drive_Drive_Next n) [(List.getD vs29 0 V.any)]).bind fun z36 =>
 (pureO (tupAt z36 0)).bind fun v37 =>
 (extractV v37 0).bind fun v38 =>
 (extractV v37 1).bind fun v39 =>
 (bin2 Tryd.prog BinOp.neq 27 (ot 51) (Operand.const Go.Value.nilIface) v39 vn).bind fun v40 =>
 condV v40 (
 some (vb false)) (
 JoinPt (fun vs41 =>
 (some (frzQ (tupAt z36 1))).bind fun v43 =>
 ((sem_drive_Drive_Left n) [v43]).bind fun v45 =>
 (flatQ v45).bind fun v44 =>
 (idxS 1 x0 (List.getD vs29 1 V.any)).bind fun v46 =>
 (ldp none v46).bind fun v47 =>
 (lenS [v47]).bind fun v48 =>
 (bin2 Tryd.prog BinOp.neq 3 (ot 84) (ot 89) (List.getD vs41 0 V.any) v48).bind fun v49 =>
 (guardV v49 false (some (List.getD vs41 1 V.any))).bind fun v50 =>
 (guardV v49 false (some v44)).bind fun v51 =>
 (guardV v49 false ((lenS [v51]).bind fun v52 =>
 some v52)).bind fun v53 =>
 (guardV v49 false ((bin2 Tryd.prog BinOp.neq 3 (ot 92) (ot 94) v50 v53).bind fun v54 =>
 some v54)).bind fun v55 =>
 (pickV v49 (vb true) v55).bind fun v56 =>
 condV v56 (
 some (vb false)) (
 JoinPt (fun vs57 =>
 J33 [(List.getD vs57 0 V.any)]) fun J58 =>
 (fixN (fun rec59 vs60 =>
 (lenS [v44]).bind fun v61 =>
 (bin2 Tryd.prog BinOp.lss 3 (ot 97) (ot 99) (List.getD vs60 1 V.any) v61).bind fun v62 =>
 condV v62 (
 (objG (List.getD vs60 0 V.any)).bind fun v63 =>
 ((sem_drive_Drive_Next n) [(List.getD vs60 0 V.any)]).bind fun z64 =>
 (pureO (tupAt z64 0)).bind fun v65 =>
 (extractV v65 0).bind fun v66 =>
 (extractV v65 1).bind fun v67 =>
 ((sem_Error n) [v67, (vi 6)]).bind fun v68 =>
 (idxS 1 v44 (List.getD vs60 1 V.any)).bind fun v69 =>
 (ldp none v69).bind fun v70 =>
 ((fillL [(vi 0), (vi 0), (vi 0), (vi 0), (vi 0), (vb false), (vi 0), (vi 0), (vi 0), (vi 0), (vi 0), (vi 0)] [(0, 1, (vi 3)), (1, 1, v70), (2, 1, (List.getD vs29 1 V.any))]).map V.agg).bind fun v71 =>
 (objG (tupAt z64 1)).bind fun v72 =>
 ((sem_drive_Drive_Hear n) [(tupAt z64 1), v71]).bind fun z73 =>
 (pureO (tupAt z73 0)).bind fun v74 =>
 (idxS 1 v44 (List.getD vs60 1 V.any)).bind fun v75 =>
 (ldp none v75).bind fun v76 =>
 ((fillL [(vi 0), (vi 0), (vi 0), (vi 0), (vi 0), (vb false), (vi 0), (vi 0), (vi 0), (vi 0), (vi 0), (vi 0)] [(0, 1, (vi 3)), (1, 1, v76), (2, 1, (List.getD vs29 1 V.any))]).map V.agg).bind fun v77 =>
 (objG (tupAt z73 1)).bind fun v78 =>
 ((sem_drive_Drive_Hear n) [(tupAt z73 1), v77]).bind fun z79 =>
 (pureO (tupAt z79 0)).bind fun v80 =>
 ((sem_Error n) [v80, (vi 6)]).bind fun v81 =>
 (scal1 Tryd.prog (Op.unary Go.UnOp.not) v68).bind fun v82 =>
 (guardV v82 false (some v74)).bind fun v83 =>
 (guardV v82 false ((bin2 Tryd.prog BinOp.neq 27 (ot 131) (Operand.const Go.Value.nilIface) v83 vn).bind fun v84 =>
 some v84)).bind fun v85 =>
 (pickV v82 (vb true) v85).bind fun v86 =>
 (guardV v86 false (some v81)).bind fun v87 =>
 (guardV v86 false ((scal1 Tryd.prog (Op.unary Go.UnOp.not) v87).bind fun v88 =>
 some v88)).bind fun v89 =>
 (pickV v86 (vb true) v89).bind fun v90 =>
 condV v90 (
 some (vb false)) (
 (bin2 Tryd.prog BinOp.add 3 (ot 101) (oc 1) (List.getD vs60 1 V.any) (vi 1)).bind fun v91 =>
 rec59 [(tupAt z79 1), v91])) (
 J58 [(List.getD vs60 0 V.any)])) n) [(tupAt z36 1), (vi 0)])) fun J42 =>
 (keepT (some (tupAt z36 1)) (some (tupAt z36 1)) (some [(vi 0), (vi 0), (vi 0)])).bind (fixN (fun rec92 vs93 =>
 (lenS [v38]).bind fun v94 =>
 (bin2 Tryd.prog BinOp.lss 3 (ot 53) (ot 55) (List.getD vs93 2 V.any) v94).bind fun v95 =>
 condV v95 (
 (idxS 12 v38 (List.getD vs93 2 V.any)).bind fun v96 =>
 (ptrF 2 v96).bind fun v97 =>
 (ldp none v97).bind fun v98 =>
 (bin2 Tryd.prog BinOp.neq 3 (ot 63) (ot 64) v98 (List.getD vs29 1 V.any)).bind fun v99 =>
 condV v99 (
 some (vb false)) (
 (idxS 12 v38 (List.getD vs93 2 V.any)).bind fun v100 =>
 (ptrF 0 v100).bind fun v101 =>
 (ldp none v101).bind fun v102 =>
 (bin2 Tryd.prog BinOp.eql 3 (ot 70) (oc 1) v102 (vi 1)).bind fun v103 =>
 JoinPt (fun vs104 =>
 (bin2 Tryd.prog BinOp.add 3 (ot 57) (oc 1) (List.getD vs93 2 V.any) (vi 1)).bind fun v106 =>
 (keepT (some (tupAt z36 1)) (some (tupAt z36 1)) (some [(List.getD vs104 0 V.any), (List.getD vs104 1 V.any), v106])).bind rec92) fun J105 =>
 condV v103 (
 (bin2 Tryd.prog BinOp.add 3 (ot 72) (oc 1) (List.getD vs93 0 V.any) (vi 1)).bind fun v107 =>
 (keepT (some (tupAt z36 1)) (some (tupAt z36 1)) (some [v107, (List.getD vs93 1 V.any)])).bind J105) (
 (idxS 12 v38 (List.getD vs93 2 V.any)).bind fun v108 =>
 (ptrF 0 v108).bind fun v109 =>
 (ldp none v109).bind fun v110 =>
 (bin2 Tryd.prog BinOp.eql 3 (ot 78) (oc 2) v110 (vi 2)).bind fun v111 =>
 condV v111 (
 (bin2 Tryd.prog BinOp.add 3 (ot 80) (oc 1) (List.getD vs93 1 V.any) (vi 1)).bind fun v112 =>
 (keepT (some (tupAt z36 1)) (some (tupAt z36 1)) (some [(List.getD vs93 0 V.any), v112])).bind J105) (
 some (vb false))))) (
 (keepT (some (tupAt z36 1)) (some (tupAt z36 1)) (some [(List.getD vs93 0 V.any), (List.getD vs93 1 V.any)])).bind J42)) n))) (
 J15 [(List.getD vs29 0 V.any)])) n) [(V.obj c4), (vi 0)])) fun v8 =>
 partP (tupAt z7 0) 1 fun v113 =>
 ((sem_Error n) [v113, (vi 1)]).bind fun v114 =>
 (scal1 Tryd.prog (Op.unary Go.UnOp.not) v114).bind fun v115 =>
 condV v115 (
 some (vb false)) (
 JoinPt (fun vs116 =>
 (some (frzQ (List.getD vs116 0 V.any))).bind fun v118 =>
 ((sem_drive_Drive_Done n) [v118]).bind fun v120 =>
 (litQ v120).bind fun v119 =>
 (guardV v119 true (some V.any)).bind fun v121 =>
 (guardV v119 true ((some (gateA [(v119, true)] (frzQ (List.getD vs116 0 V.any)))).bind fun v122 =>
 ((sem_drive_Drive_Round n) [v122]).bind litQ)).bind fun v123 =>
 (guardV v119 true (some x0)).bind fun v124 =>
 (guardV v119 true ((lenS [v124]).bind fun v125 =>
 some v125)).bind fun v126 =>
 (guardV v119 true ((bin2 Tryd.prog BinOp.eql 3 (ot 142) (ot 144) v123 v126).bind fun v127 =>
 some v127)).bind fun v128 =>
 (pickV v119 v128 (vb false)).bind fun v129 =>
 some v129) fun J117 =>
 (fixN (fun rec130 vs131 =>
 (lenS [x0]).bind fun v132 =>
 (bin2 Tryd.prog BinOp.lss 3 (ot 40) (ot 42) (List.getD vs131 1 V.any) v132).bind fun v133 =>
 condV v133 (
 JoinPt (fun vs134 =>
 (bin2 Tryd.prog BinOp.add 3 (ot 44) (oc 1) (List.getD vs131 1 V.any) (vi 1)).bind fun v136 =>
 rec130 [(List.getD vs134 0 V.any), v136]) fun J135 =>
 (objG (List.getD vs131 0 V.any)).bind fun v137 =>
 ((sem_drive_Drive_Next n) [(List.getD vs131 0 V.any)]).bind fun z138 =>
 (pureO (tupAt z138 0)).bind fun v139 =>
 (extractV v139 0).bind fun v140 =>
 (extractV v139 1).bind fun v141 =>
 (bin2 Tryd.prog BinOp.neq 27 (ot 51) (Operand.const Go.Value.nilIface) v141 vn).bind fun v142 =>
 condV v142 (
 some (vb false)) (
 JoinPt (fun vs143 =>
 (some (frzQ (tupAt z138 1))).bind fun v145 =>
 ((sem_drive_Drive_Left n) [v145]).bind fun v147 =>
 (flatQ v147).bind fun v146 =>
 (idxS 1 x0 (List.getD vs131 1 V.any)).bind fun v148 =>
 (ldp none v148).bind fun v149 =>
 (lenS [v149]).bind fun v150 =>
 (bin2 Tryd.prog BinOp.neq 3 (ot 84) (ot 89) (List.getD vs143 0 V.any) v150).bind fun v151 =>
 (guardV v151 false (some (List.getD vs143 1 V.any))).bind fun v152 =>
 (guardV v151 false (some v146)).bind fun v153 =>
 (guardV v151 false ((lenS [v153]).bind fun v154 =>
 some v154)).bind fun v155 =>
 (guardV v151 false ((bin2 Tryd.prog BinOp.neq 3 (ot 92) (ot 94) v152 v155).bind fun v156 =>
 some v156)).bind fun v157 =>
 (pickV v151 (vb true) v157).bind fun v158 =>
 condV v158 (
 some (vb false)) (
 JoinPt (fun vs159 =>
 J135 [(List.getD vs159 0 V.any)]) fun J160 =>
 (fixN (fun rec161 vs162 =>
 (lenS [v146]).bind fun v163 =>
 (bin2 Tryd.prog BinOp.lss 3 (ot 97) (ot 99) (List.getD vs162 1 V.any) v163).bind fun v164 =>
 condV v164 (
 (objG (List.getD vs162 0 V.any)).bind fun v165 =>
 ((sem_drive_Drive_Next n) [(List.getD vs162 0 V.any)]).bind fun z166 =>
 (pureO (tupAt z166 0)).bind fun v167 =>
 (extractV v167 0).bind fun v168 =>
 (extractV v167 1).bind fun v169 =>
 ((sem_Error n) [v169, (vi 6)]).bind fun v170 =>
 (idxS 1 v146 (List.getD vs162 1 V.any)).bind fun v171 =>
 (ldp none v171).bind fun v172 =>
 ((fillL [(vi 0), (vi 0), (vi 0), (vi 0), (vi 0), (vb false), (vi 0), (vi 0), (vi 0), (vi 0), (vi 0), (vi 0)] [(0, 1, (vi 3)), (1, 1, v172), (2, 1, (List.getD vs131 1 V.any))]).map V.agg).bind fun v173 =>
 (objG (tupAt z166 1)).bind fun v174 =>
 ((sem_drive_Drive_Hear n) [(tupAt z166 1), v173]).bind fun z175 =>
 (pureO (tupAt z175 0)).bind fun v176 =>
 (idxS 1 v146 (List.getD vs162 1 V.any)).bind fun v177 =>
 (ldp none v177).bind fun v178 =>
 ((fillL [(vi 0), (vi 0), (vi 0), (vi 0), (vi 0), (vb false), (vi 0), (vi 0), (vi 0), (vi 0), (vi 0), (vi 0)] [(0, 1, (vi 3)), (1, 1, v178), (2, 1, (List.getD vs131 1 V.any))]).map V.agg).bind fun v179 =>
 (objG (tupAt z175 1)).bind fun v180 =>
 ((sem_drive_Drive_Hear n) [(tupAt z175 1), v179]).bind fun z181 =>
 (pureO (tupAt z181 0)).bind fun v182 =>
 ((sem_Error n) [v182, (vi 6)]).bind fun v183 =>
 (scal1 Tryd.prog (Op.unary Go.UnOp.not) v170).bind fun v184 =>
 (guardV v184 false (some v176)).bind fun v185 =>
 (guardV v184 false ((bin2 Tryd.prog BinOp.neq 27 (ot 131) (Operand.const Go.Value.nilIface) v185 vn).bind fun v186 =>
 some v186)).bind fun v187 =>
 (pickV v184 (vb true) v187).bind fun v188 =>
 (guardV v188 false (some v183)).bind fun v189 =>
 (guardV v188 false ((scal1 Tryd.prog (Op.unary Go.UnOp.not) v189).bind fun v190 =>
 some v190)).bind fun v191 =>
 (pickV v188 (vb true) v191).bind fun v192 =>
 condV v192 (
 some (vb false)) (
 (bin2 Tryd.prog BinOp.add 3 (ot 101) (oc 1) (List.getD vs162 1 V.any) (vi 1)).bind fun v193 =>
 rec161 [(tupAt z181 1), v193])) (
 J160 [(List.getD vs162 0 V.any)])) n) [(tupAt z138 1), (vi 0)])) fun J144 =>
 (keepT (some (tupAt z138 1)) (some (tupAt z138 1)) (some [(vi 0), (vi 0), (vi 0)])).bind (fixN (fun rec194 vs195 =>
 (lenS [v140]).bind fun v196 =>
 (bin2 Tryd.prog BinOp.lss 3 (ot 53) (ot 55) (List.getD vs195 2 V.any) v196).bind fun v197 =>
 condV v197 (
 (idxS 12 v140 (List.getD vs195 2 V.any)).bind fun v198 =>
 (ptrF 2 v198).bind fun v199 =>
 (ldp none v199).bind fun v200 =>
 (bin2 Tryd.prog BinOp.neq 3 (ot 63) (ot 64) v200 (List.getD vs131 1 V.any)).bind fun v201 =>
 condV v201 (
 some (vb false)) (
 (idxS 12 v140 (List.getD vs195 2 V.any)).bind fun v202 =>
 (ptrF 0 v202).bind fun v203 =>
 (ldp none v203).bind fun v204 =>
 (bin2 Tryd.prog BinOp.eql 3 (ot 70) (oc 1) v204 (vi 1)).bind fun v205 =>
 JoinPt (fun vs206 =>
 (bin2 Tryd.prog BinOp.add 3 (ot 57) (oc 1) (List.getD vs195 2 V.any) (vi 1)).bind fun v208 =>
 (keepT (some (tupAt z138 1)) (some (tupAt z138 1)) (some [(List.getD vs206 0 V.any), (List.getD vs206 1 V.any), v208])).bind rec194) fun J207 =>
 condV v205 (
 (bin2 Tryd.prog BinOp.add 3 (ot 72) (oc 1) (List.getD vs195 0 V.any) (vi 1)).bind fun v209 =>
 (keepT (some (tupAt z138 1)) (some (tupAt z138 1)) (some [v209, (List.getD vs195 1 V.any)])).bind J207) (
 (idxS 12 v140 (List.getD vs195 2 V.any)).bind fun v210 =>
 (ptrF 0 v210).bind fun v211 =>
 (ldp none v211).bind fun v212 =>
 (bin2 Tryd.prog BinOp.eql 3 (ot 78) (oc 2) v212 (vi 2)).bind fun v213 =>
 condV v213 (
 (bin2 Tryd.prog BinOp.add 3 (ot 80) (oc 1) (List.getD vs195 1 V.any) (vi 1)).bind fun v214 =>
 (keepT (some (tupAt z138 1)) (some (tupAt z138 1)) (some [(List.getD vs195 0 V.any), v214])).bind J207) (
 some (vb false))))) (
 (keepT (some (tupAt z138 1)) (some (tupAt z138 1)) (some [(List.getD vs195 0 V.any), (List.getD vs195 1 V.any)])).bind J144)) n))) (
 J117 [(List.getD vs131 0 V.any)])) n) [(V.obj c4), (vi 0)]))) fun v2 =>
 partP (tupAt z1 0) 1 fun v215 =>
 (bin2 Tryd.prog BinOp.neq 27 (ot 30) (Operand.const Go.Value.nilIface) v215 vn).bind fun v216 =>
 condV v216 (
 some (vb true)) (
 ((sem_drive_New n) [(V.sl []), (vi 0)]).bind fun z217 =>
 partK (tupAt z217 0) 0 (fun l219 c220 =>
 partP (V.tup l219) 1 fun v221 =>
 ((sem_Error n) [v221, (vi 1)]).bind fun v222 =>
 (scal1 Tryd.prog (Op.unary Go.UnOp.not) v222).bind fun v223 =>
 condV v223 (
 some (vb false)) (
 JoinPt (fun vs224 =>
 ((sem_drive_Drive_Done n) [v2]).bind fun v227 =>
 (litQ v227).bind fun v226 =>
 (guardV v226 true (some v2)).bind fun v228 =>
 (guardV v226 true (((sem_drive_Drive_Round n) [v228]).bind litQ)).bind fun v229 =>
 (guardV v226 true (some x0)).bind fun v230 =>
 (guardV v226 true ((lenS [v230]).bind fun v231 =>
 some v231)).bind fun v232 =>
 (guardV v226 true ((bin2 Tryd.prog BinOp.eql 3 (ot 142) (ot 144) v229 v232).bind fun v233 =>
 some v233)).bind fun v234 =>
 (pickV v226 v234 (vb false)).bind fun v235 =>
 some v235) fun J225 =>
 none)) fun v218 =>
 partP (tupAt z217 0) 1 fun v243 =>
 ((sem_Error n) [v243, (vi 1)]).bind fun v244 =>
 (scal1 Tryd.prog (Op.unary Go.UnOp.not) v244).bind fun v245 =>
 condV v245 (
 some (vb false)) (
 JoinPt (fun vs246 =>
 ((sem_drive_Drive_Done n) [v2]).bind fun v249 =>
 (litQ v249).bind fun v248 =>
 (guardV v248 true (some v2)).bind fun v250 =>
 (guardV v248 true (((sem_drive_Drive_Round n) [v250]).bind litQ)).bind fun v251 =>
 (guardV v248 true (some x0)).bind fun v252 =>
 (guardV v248 true ((lenS [v252]).bind fun v253 =>
 some v253)).bind fun v254 =>
 (guardV v248 true ((bin2 Tryd.prog BinOp.eql 3 (ot 142) (ot 144) v251 v254).bind fun v255 =>
 some v255)).bind fun v256 =>
 (pickV v248 v256 (vb false)).bind fun v257 =>
 some v257) fun J247 =>
 none)) := by kernel_rfl
noncomputable def t_raillaw3_DriveSays (a0 : (List (List T_Op))) (a1 : Int) : Option Bool :=
 (t_drive_New a0 a1).bind fun r2 =>
 (caseO r2.1 (fun d6 => (
 if (!decide (r2.2 = 0)) = true then (
 some true) else (
 (t_drive_New [] 0).bind fun r11 =>
 (caseO r11.1 (fun d15 => (
 (t_railsame_Error r11.2 1).bind fun r18 =>
 if (!r18) = true then (
 some false) else (
 join (fun (s23 : T_drive_Drive) =>
 (t_drive_Drive_Done s23).bind fun r27 =>
 (gd r27 default (t_drive_Drive_Round s23)).bind fun r33 =>
 some (r27 && (decide (r33 = (List.length a0 : Int))))) fun j24 =>
 loopI a0 (fun (i50 : Int) x51 (s46 : T_drive_Drive) k47 =>
 join (fun (s59 : T_drive_Drive) =>
 k47 (s59)) fun j60 =>
 (t_drive_Drive_Next s46).bind fun r65 =>
 if (!decide (r65.2.1 = 0)) = true then (
 some false) else (
 join (fun (s73 : (Int × Int)) =>
 (t_drive_Drive_Left r65.2.2).bind fun r77 =>
 if ((decide (s73.1 ≠ (List.length x51 : Int))) || (decide (s73.2 ≠ (List.length r77 : Int)))) = true then (
 some false) else (
 join (fun (s97 : T_drive_Drive) =>
 j60 (s97)) fun j98 =>
 loopI r77 (fun (i106 : Int) x107 (s102 : T_drive_Drive) k103 =>
 (t_drive_Drive_Next s102).bind fun r115 =>
 (t_railsame_Error r115.2.1 6).bind fun r120 =>
 (t_drive_Drive_Hear r115.2.2 (T_Msg.mk 3 x107 i50 0 (T_Op.mk 0 false (T_Rule.mk 0 (T_Cube.mk 0 0) 0 0 0)))).bind fun r126 =>
 (t_drive_Drive_Hear r126.2 (T_Msg.mk 3 x107 i50 0 (T_Op.mk 0 false (T_Rule.mk 0 (T_Cube.mk 0 0) 0 0 0)))).bind fun r133 =>
 (t_railsame_Error r133.1 6).bind fun r136 =>
 if (((!r120) || (!decide (r126.1 = 0))) || (!r136)) = true then (
 some false) else (
 k103 (r133.2))) (fun (s102 : T_drive_Drive) =>
 j98 (s102)) (r65.2.2))) fun j74 =>
 loopI r65.1 (fun (i162 : Int) x163 (s158 : (Int × Int)) k159 =>
 if (decide (x163.Round ≠ i50)) = true then (
 some false) else (
 join (fun (s180 : (Int × Int)) =>
 k159 (s180.1, s180.2)) fun j181 =>
 if (decide (x163.Kind = 1)) = true then (
 j181 ((wr (s158.1 + 1)), s158.2)) else (
 if (decide (x163.Kind = 2)) = true then (
 j181 (s158.1, (wr (s158.2 + 1)))) else (
 some false)))) (fun (s158 : (Int × Int)) =>
 j74 (s158.1, s158.2)) (0, 0))) (fun (s46 : T_drive_Drive) =>
 j24 (s46)) (d6)))) (
 (t_railsame_Error r11.2 1).bind fun r202 =>
 if (!r202) = true then (
 some false) else (
 join (fun (s207 : T_drive_Drive) =>
 (t_drive_Drive_Done s207).bind fun r211 =>
 (gd r211 default (t_drive_Drive_Round s207)).bind fun r217 =>
 some (r211 && (decide (r217 = (List.length a0 : Int))))) fun j208 =>
 loopI a0 (fun (i234 : Int) x235 (s230 : T_drive_Drive) k231 =>
 join (fun (s243 : T_drive_Drive) =>
 k231 (s243)) fun j244 =>
 (t_drive_Drive_Next s230).bind fun r249 =>
 if (!decide (r249.2.1 = 0)) = true then (
 some false) else (
 join (fun (s257 : (Int × Int)) =>
 (t_drive_Drive_Left r249.2.2).bind fun r261 =>
 if ((decide (s257.1 ≠ (List.length x235 : Int))) || (decide (s257.2 ≠ (List.length r261 : Int)))) = true then (
 some false) else (
 join (fun (s281 : T_drive_Drive) =>
 j244 (s281)) fun j282 =>
 loopI r261 (fun (i290 : Int) x291 (s286 : T_drive_Drive) k287 =>
 (t_drive_Drive_Next s286).bind fun r299 =>
 (t_railsame_Error r299.2.1 6).bind fun r304 =>
 (t_drive_Drive_Hear r299.2.2 (T_Msg.mk 3 x291 i234 0 (T_Op.mk 0 false (T_Rule.mk 0 (T_Cube.mk 0 0) 0 0 0)))).bind fun r310 =>
 (t_drive_Drive_Hear r310.2 (T_Msg.mk 3 x291 i234 0 (T_Op.mk 0 false (T_Rule.mk 0 (T_Cube.mk 0 0) 0 0 0)))).bind fun r317 =>
 (t_railsame_Error r317.1 6).bind fun r320 =>
 if (((!r304) || (!decide (r310.1 = 0))) || (!r320)) = true then (
 some false) else (
 k287 (r317.2))) (fun (s286 : T_drive_Drive) =>
 j282 (s286)) (r249.2.2))) fun j258 =>
 loopI r249.1 (fun (i346 : Int) x347 (s342 : (Int × Int)) k343 =>
 if (decide (x347.Round ≠ i234)) = true then (
 some false) else (
 join (fun (s364 : (Int × Int)) =>
 k343 (s364.1, s364.2)) fun j365 =>
 if (decide (x347.Kind = 1)) = true then (
 j365 ((wr (s342.1 + 1)), s342.2)) else (
 if (decide (x347.Kind = 2)) = true then (
 j365 (s342.1, (wr (s342.2 + 1)))) else (
 some false)))) (fun (s342 : (Int × Int)) =>
 j258 (s342.1, s342.2)) (0, 0))) (fun (s230 : T_drive_Drive) =>
 j208 (s230)) (d6))))))) (
 if (!decide (r2.2 = 0)) = true then (
 some true) else (
 (t_drive_New [] 0).bind fun r388 =>
 (caseO r388.1 (fun d392 => (
 (t_railsame_Error r388.2 1).bind fun r395 =>
 if (!r395) = true then (
 some false) else (
 none))) (
 (t_railsame_Error r388.2 1).bind fun r405 =>
 if (!r405) = true then (
 some false) else (
 none))))))
theorem ty_raillaw3_DriveSays {n : Nat} (hn : bigN ≤ n) (a0 : (List (List T_Op))) (a1 : Int) : Rv (fun x : Bool => (vb x)) (sem_raillaw3_DriveSays n [(V.sl (List.map (cS T_Op.c) a0)), (vi a1)]) (t_raillaw3_DriveSays a0 a1) := by
  rw [eq_raillaw3_DriveSays]
  unfold t_raillaw3_DriveSays
  refine tbo (ty_drive_New hn a0 a1) fun r2 => ?_
  refine tpartK (fun d6 => ?_) ?_
  · refine tpartP0 ?_
    refine tb (x := (vb (!decide (r2.2 = 0)))) (p_err_neq _) ?_
    refine tcond (fun h9 => ?_) (fun h9 => ?_)
    · exact rf_ret rfl
    · refine tbo (ty_drive_New hn [] 0) fun r11 => ?_
      refine tpartK (fun d15 => ?_) ?_
      · refine tpartP0 ?_
        refine tbo (ty_railsame_Error r11.2 1) fun r18 => ?_
        refine tb (x := (vb (!r18))) (d_not) ?_
        refine tcond (fun h20 => ?_) (fun h20 => ?_)
        · exact rf_ret rfl
        · refine tjoin (mk := fun s23 : T_drive_Drive => [(V.obj [(V.osl 1 (List.map (cS T_Op.c) s23.rounds)), (vi s23.wait), (vi s23.said), (V.osl 1 (List.map cI s23.left)), (vi s23.ticks)])]) (fun s23 => ?_) fun J22 j24 h25 => ?_
          · refine tb (x := V.ptr (T_drive_Drive.c s23)) (p_frzQ (p_fzc (p_frzl (c' := (cS T_Op.c)) (fun _ => rfl) _) (p_fzc rfl (p_fzc rfl (p_fzc (p_frzl (c' := cI) (fun _ => rfl) _) (p_fzc rfl p_fz0)))))) ?_
            refine tbo (ty_drive_Drive_Done hn s23) fun r27 => ?_
            refine tb (x := (vb r27)) rfl ?_
            refine tg (x := V.any) (fun h29 => rfl) ?_
            refine tgo (e1 := fun r33 => (vi r33)) (fun h31 => ?_) fun r33 => ?_
            · refine tb (x := V.ptr (T_drive_Drive.c s23)) (p_gate1 h31 (p_frzQ (p_fzc (p_frzl (c' := (cS T_Op.c)) (fun _ => rfl) _) (p_fzc rfl (p_fzc rfl (p_fzc (p_frzl (c' := cI) (fun _ => rfl) _) (p_fzc rfl p_fz0))))))) ?_
              exact rf_litQ (ty_drive_Drive_Round hn s23) (fun _ => rfl)
            · refine tg (x := (V.sl (List.map (cS T_Op.c) a0))) (fun h35 => rfl) ?_
              refine tg (x := (vi (List.length a0 : Int))) (fun h37 => by simp only [gv_t h37]; exact bind_some_eq (p_len _)) ?_
              refine tg (x := (vb (decide (r33 = (List.length a0 : Int))))) (fun h40 => by simp only [gv_t h40]; exact bind_some_eq (d_eql)) ?_
              refine tb (x := (vb (r27 && (decide (r33 = (List.length a0 : Int)))))) (pick_and (fun h9 => gv_t h9)) ?_
              exact rf_ret rfl
          · refine rf_loopI (mk := fun (i50 : Int) (s46 : T_drive_Drive) => [(V.obj [(V.osl 1 (List.map (cS T_Op.c) s46.rounds)), (vi s46.wait), (vi s46.said), (V.osl 1 (List.map cI s46.left)), (vi s46.ticks)]), (vi (i50 : Int))]) hn a0 (d6) (fun i50 x51 h52 h53 h54 s46 rec44 k47 h48 => ?_) (fun s46 rec197 h196 => ?_)
            · refine tb (x := (vi (List.length a0 : Int))) (p_len _) ?_
              refine tb (x := (vb (decide ((i50 : Int) < (List.length a0 : Int))))) (d_lss) ?_
              refine tcond_t h54 ?_
              refine tjoin (mk := fun s59 : T_drive_Drive => [(V.obj [(V.osl 1 (List.map (cS T_Op.c) s59.rounds)), (vi s59.wait), (vi s59.said), (V.osl 1 (List.map cI s59.left)), (vi s59.ticks)])]) (fun s59 => ?_) fun J58 j60 h61 => ?_
              · refine tb (x := (vi ((i50 : Int) + 1))) (p_incN h53) ?_
                exact h48 (s59)
              · refine tb (x := V.any) rfl ?_
                refine tbo (ty_drive_Drive_Next hn s46) fun r65 => ?_
                refine tb (x := (V.tup [(V.sl (List.map T_Msg.c r65.1)), (eV r65.2.1)])) rfl ?_
                refine tb (x := (V.sl (List.map T_Msg.c r65.1))) (rfl) ?_
                refine tb (x := (eV r65.2.1)) (rfl) ?_
                refine tb (x := (vb (!decide (r65.2.1 = 0)))) (p_err_neq _) ?_
                refine tcond (fun h70 => ?_) (fun h70 => ?_)
                · exact rf_ret rfl
                · refine tjoin (mk := fun s73 : (Int × Int) => [(vi s73.1), (vi s73.2)]) (fun s73 => ?_) fun J72 j74 h75 => ?_
                  · refine tb (x := V.ptr (T_drive_Drive.c r65.2.2)) (p_frzQ (p_fzc (p_frzl (c' := (cS T_Op.c)) (fun _ => rfl) _) (p_fzc rfl (p_fzc rfl (p_fzc (p_frzl (c' := cI) (fun _ => rfl) _) (p_fzc rfl p_fz0)))))) ?_
                    refine tbo (ty_drive_Drive_Left hn r65.2.2) fun r77 => ?_
                    refine tb (x := (V.sl (List.map cI r77))) (p_flatQ (fun _ => rfl) r77) ?_
                    refine tb (x := (V.ptr [(V.sl (List.map T_Op.c x51))])) (p_idx_at (c := (cS T_Op.c)) (fun _ => rfl) h52) ?_
                    refine tb (x := (V.sl (List.map T_Op.c x51))) (rfl) ?_
                    refine tb (x := (vi (List.length x51 : Int))) (p_len _) ?_
                    refine tb (x := (vb (decide (s73.1 ≠ (List.length x51 : Int))))) (d_neq) ?_
                    refine tg_f (x := (vi s73.2)) (fun h83 => rfl) ?_
                    refine tg_f (x := (V.sl (List.map cI r77))) (fun h85 => rfl) ?_
                    refine tg_f (x := (vi (List.length r77 : Int))) (fun h87 => by simp only [gv_t h87]; exact bind_some_eq (p_len _)) ?_
                    refine tg_f (x := (vb (decide (s73.2 ≠ (List.length r77 : Int))))) (fun h90 => by simp only [gv_t h90]; exact bind_some_eq (d_neq)) ?_
                    refine tb (x := (vb ((decide (s73.1 ≠ (List.length x51 : Int))) || (decide (s73.2 ≠ (List.length r77 : Int)))))) (pick_or (fun h9 => gv_t (not_f h9))) ?_
                    refine tcond (fun h94 => ?_) (fun h94 => ?_)
                    · exact rf_ret rfl
                    · refine tjoin (mk := fun s97 : T_drive_Drive => [(V.obj [(V.osl 1 (List.map (cS T_Op.c) s97.rounds)), (vi s97.wait), (vi s97.said), (V.osl 1 (List.map cI s97.left)), (vi s97.ticks)])]) (fun s97 => ?_) fun J96 j98 h99 => ?_
                      · exact h61 (s97)
                      · refine rf_loopI (mk := fun (i106 : Int) (s102 : T_drive_Drive) => [(V.obj [(V.osl 1 (List.map (cS T_Op.c) s102.rounds)), (vi s102.wait), (vi s102.said), (V.osl 1 (List.map cI s102.left)), (vi s102.ticks)]), (vi (i106 : Int))]) hn r77 (r65.2.2) (fun i106 x107 h108 h109 h110 s102 rec100 k103 h104 => ?_) (fun s102 rec153 h152 => ?_)
                        · refine tb (x := (vi (List.length r77 : Int))) (p_len _) ?_
                          refine tb (x := (vb (decide ((i106 : Int) < (List.length r77 : Int))))) (d_lss) ?_
                          refine tcond_t h110 ?_
                          refine tb (x := V.any) rfl ?_
                          refine tbo (ty_drive_Drive_Next hn s102) fun r115 => ?_
                          refine tb (x := (V.tup [(V.sl (List.map T_Msg.c r115.1)), (eV r115.2.1)])) rfl ?_
                          refine tb (x := (V.sl (List.map T_Msg.c r115.1))) (rfl) ?_
                          refine tb (x := (eV r115.2.1)) (rfl) ?_
                          refine tbo (ty_railsame_Error r115.2.1 6) fun r120 => ?_
                          refine tb (x := (V.ptr [(vi x107)])) (p_idx_at (c := cI) (fun _ => rfl) h108) ?_
                          refine tb (x := (vi x107)) (rfl) ?_
                          refine tb (x := (T_Msg.e (T_Msg.mk 3 x107 (i50 : Int) 0 (T_Op.mk 0 false (T_Rule.mk 0 (T_Cube.mk 0 0) 0 0 0))))) (by kernel_rfl) ?_
                          refine tb (x := V.any) rfl ?_
                          refine tbo (ty_drive_Drive_Hear hn r115.2.2 (T_Msg.mk 3 x107 (i50 : Int) 0 (T_Op.mk 0 false (T_Rule.mk 0 (T_Cube.mk 0 0) 0 0 0)))) fun r126 => ?_
                          refine tb (x := (eV r126.1)) rfl ?_
                          refine tb (x := (V.ptr [(vi x107)])) (p_idx_at (c := cI) (fun _ => rfl) h108) ?_
                          refine tb (x := (vi x107)) (rfl) ?_
                          refine tb (x := (T_Msg.e (T_Msg.mk 3 x107 (i50 : Int) 0 (T_Op.mk 0 false (T_Rule.mk 0 (T_Cube.mk 0 0) 0 0 0))))) (by kernel_rfl) ?_
                          refine tb (x := V.any) rfl ?_
                          refine tbo (ty_drive_Drive_Hear hn r126.2 (T_Msg.mk 3 x107 (i50 : Int) 0 (T_Op.mk 0 false (T_Rule.mk 0 (T_Cube.mk 0 0) 0 0 0)))) fun r133 => ?_
                          refine tb (x := (eV r133.1)) rfl ?_
                          refine tbo (ty_railsame_Error r133.1 6) fun r136 => ?_
                          refine tb (x := (vb (!r120))) (d_not) ?_
                          refine tg_f (x := (eV r126.1)) (fun h138 => rfl) ?_
                          refine tg_f (x := (vb (!decide (r126.1 = 0)))) (fun h140 => by simp only [gv_t h140]; exact bind_some_eq (p_err_neq _)) ?_
                          refine tb (x := (vb ((!r120) || (!decide (r126.1 = 0))))) (pick_or (fun h9 => gv_t (not_f h9))) ?_
                          refine tg_f (x := (vb r136)) (fun h144 => rfl) ?_
                          refine tg_f (x := (vb (!r136))) (fun h146 => by simp only [gv_t h146]; exact bind_some_eq (d_not)) ?_
                          refine tb (x := (vb (((!r120) || (!decide (r126.1 = 0))) || (!r136)))) (pick_or (fun h9 => gv_t (not_f h9))) ?_
                          refine tcond (fun h150 => ?_) (fun h150 => ?_)
                          · exact rf_ret rfl
                          · refine tb (x := (vi ((i106 : Int) + 1))) (p_incN h109) ?_
                            exact h104 (r133.2)
                        · refine tb (x := (vi (List.length r77 : Int))) (p_len _) ?_
                          refine tb (x := (vb (decide ((List.length r77 : Int) < (List.length r77 : Int))))) (d_lss) ?_
                          refine tcond_f h152 ?_
                          exact h99 (s102)
                  · refine tkeepT2 ?_ rfl
                    refine tsome ?_
                    refine rf_loopI (mk := fun (i162 : Int) (s158 : (Int × Int)) => [(vi s158.1), (vi s158.2), (vi (i162 : Int))]) hn r65.1 (0, 0) (fun i162 x163 h164 h165 h166 s158 rec156 k159 h160 => ?_) (fun s158 rec193 h192 => ?_)
                    · refine tb (x := (vi (List.length r65.1 : Int))) (p_len _) ?_
                      refine tb (x := (vb (decide ((i162 : Int) < (List.length r65.1 : Int))))) (d_lss) ?_
                      refine tcond_t h166 ?_
                      refine tb (x := (V.ptr (T_Msg.c x163))) (p_idx_at (c := T_Msg.c) (fun _ => rfl) h164) ?_
                      refine tb (x := (V.ptr (List.drop 2 (T_Msg.c x163)))) (rfl) ?_
                      refine tb (x := (vi x163.Round)) (rfl) ?_
                      refine tb (x := (vb (decide (x163.Round ≠ (i50 : Int))))) (d_neq) ?_
                      refine tcond (fun h173 => ?_) (fun h173 => ?_)
                      · exact rf_ret rfl
                      · refine tb (x := (V.ptr (T_Msg.c x163))) (p_idx_at (c := T_Msg.c) (fun _ => rfl) h164) ?_
                        refine tb (x := (V.ptr (T_Msg.c x163))) (rfl) ?_
                        refine tb (x := (vi x163.Kind)) (rfl) ?_
                        refine tb (x := (vb (decide (x163.Kind = 1)))) (d_eql) ?_
                        refine tjoin (mk := fun s180 : (Int × Int) => [(vi s180.1), (vi s180.2)]) (fun s180 => ?_) fun J179 j181 h182 => ?_
                        · refine tb (x := (vi ((i162 : Int) + 1))) (p_incN h165) ?_
                          refine tkeepT2 ?_ rfl
                          refine tsome ?_
                          exact h160 (s180.1, s180.2)
                        · refine tcond (fun h184 => ?_) (fun h184 => ?_)
                          · refine tb (x := (vi (wr (s158.1 + 1)))) (d_add) ?_
                            refine tkeepT2 ?_ rfl
                            refine tsome ?_
                            exact h182 ((wr (s158.1 + 1)), s158.2)
                          · refine tb (x := (V.ptr (T_Msg.c x163))) (p_idx_at (c := T_Msg.c) (fun _ => rfl) h164) ?_
                            refine tb (x := (V.ptr (T_Msg.c x163))) (rfl) ?_
                            refine tb (x := (vi x163.Kind)) (rfl) ?_
                            refine tb (x := (vb (decide (x163.Kind = 2)))) (d_eql) ?_
                            refine tcond (fun h190 => ?_) (fun h190 => ?_)
                            · refine tb (x := (vi (wr (s158.2 + 1)))) (d_add) ?_
                              refine tkeepT2 ?_ rfl
                              refine tsome ?_
                              exact h182 (s158.1, (wr (s158.2 + 1)))
                            · exact rf_ret rfl
                    · refine tb (x := (vi (List.length r65.1 : Int))) (p_len _) ?_
                      refine tb (x := (vb (decide ((List.length r65.1 : Int) < (List.length r65.1 : Int))))) (d_lss) ?_
                      refine tcond_f h192 ?_
                      refine tkeepT2 ?_ rfl
                      refine tsome ?_
                      exact h75 (s158.1, s158.2)
            · refine tb (x := (vi (List.length a0 : Int))) (p_len _) ?_
              refine tb (x := (vb (decide ((List.length a0 : Int) < (List.length a0 : Int))))) (d_lss) ?_
              refine tcond_f h196 ?_
              exact h25 (s46)
      · refine tpartP0 ?_
        refine tbo (ty_railsame_Error r11.2 1) fun r202 => ?_
        refine tb (x := (vb (!r202))) (d_not) ?_
        refine tcond (fun h204 => ?_) (fun h204 => ?_)
        · exact rf_ret rfl
        · refine tjoin (mk := fun s207 : T_drive_Drive => [(V.obj [(V.osl 1 (List.map (cS T_Op.c) s207.rounds)), (vi s207.wait), (vi s207.said), (V.osl 1 (List.map cI s207.left)), (vi s207.ticks)])]) (fun s207 => ?_) fun J206 j208 h209 => ?_
          · refine tb (x := V.ptr (T_drive_Drive.c s207)) (p_frzQ (p_fzc (p_frzl (c' := (cS T_Op.c)) (fun _ => rfl) _) (p_fzc rfl (p_fzc rfl (p_fzc (p_frzl (c' := cI) (fun _ => rfl) _) (p_fzc rfl p_fz0)))))) ?_
            refine tbo (ty_drive_Drive_Done hn s207) fun r211 => ?_
            refine tb (x := (vb r211)) rfl ?_
            refine tg (x := V.any) (fun h213 => rfl) ?_
            refine tgo (e1 := fun r217 => (vi r217)) (fun h215 => ?_) fun r217 => ?_
            · refine tb (x := V.ptr (T_drive_Drive.c s207)) (p_gate1 h215 (p_frzQ (p_fzc (p_frzl (c' := (cS T_Op.c)) (fun _ => rfl) _) (p_fzc rfl (p_fzc rfl (p_fzc (p_frzl (c' := cI) (fun _ => rfl) _) (p_fzc rfl p_fz0))))))) ?_
              exact rf_litQ (ty_drive_Drive_Round hn s207) (fun _ => rfl)
            · refine tg (x := (V.sl (List.map (cS T_Op.c) a0))) (fun h219 => rfl) ?_
              refine tg (x := (vi (List.length a0 : Int))) (fun h221 => by simp only [gv_t h221]; exact bind_some_eq (p_len _)) ?_
              refine tg (x := (vb (decide (r217 = (List.length a0 : Int))))) (fun h224 => by simp only [gv_t h224]; exact bind_some_eq (d_eql)) ?_
              refine tb (x := (vb (r211 && (decide (r217 = (List.length a0 : Int)))))) (pick_and (fun h9 => gv_t h9)) ?_
              exact rf_ret rfl
          · refine rf_loopI (mk := fun (i234 : Int) (s230 : T_drive_Drive) => [(V.obj [(V.osl 1 (List.map (cS T_Op.c) s230.rounds)), (vi s230.wait), (vi s230.said), (V.osl 1 (List.map cI s230.left)), (vi s230.ticks)]), (vi (i234 : Int))]) hn a0 (d6) (fun i234 x235 h236 h237 h238 s230 rec228 k231 h232 => ?_) (fun s230 rec381 h380 => ?_)
            · refine tb (x := (vi (List.length a0 : Int))) (p_len _) ?_
              refine tb (x := (vb (decide ((i234 : Int) < (List.length a0 : Int))))) (d_lss) ?_
              refine tcond_t h238 ?_
              refine tjoin (mk := fun s243 : T_drive_Drive => [(V.obj [(V.osl 1 (List.map (cS T_Op.c) s243.rounds)), (vi s243.wait), (vi s243.said), (V.osl 1 (List.map cI s243.left)), (vi s243.ticks)])]) (fun s243 => ?_) fun J242 j244 h245 => ?_
              · refine tb (x := (vi ((i234 : Int) + 1))) (p_incN h237) ?_
                exact h232 (s243)
              · refine tb (x := V.any) rfl ?_
                refine tbo (ty_drive_Drive_Next hn s230) fun r249 => ?_
                refine tb (x := (V.tup [(V.sl (List.map T_Msg.c r249.1)), (eV r249.2.1)])) rfl ?_
                refine tb (x := (V.sl (List.map T_Msg.c r249.1))) (rfl) ?_
                refine tb (x := (eV r249.2.1)) (rfl) ?_
                refine tb (x := (vb (!decide (r249.2.1 = 0)))) (p_err_neq _) ?_
                refine tcond (fun h254 => ?_) (fun h254 => ?_)
                · exact rf_ret rfl
                · refine tjoin (mk := fun s257 : (Int × Int) => [(vi s257.1), (vi s257.2)]) (fun s257 => ?_) fun J256 j258 h259 => ?_
                  · refine tb (x := V.ptr (T_drive_Drive.c r249.2.2)) (p_frzQ (p_fzc (p_frzl (c' := (cS T_Op.c)) (fun _ => rfl) _) (p_fzc rfl (p_fzc rfl (p_fzc (p_frzl (c' := cI) (fun _ => rfl) _) (p_fzc rfl p_fz0)))))) ?_
                    refine tbo (ty_drive_Drive_Left hn r249.2.2) fun r261 => ?_
                    refine tb (x := (V.sl (List.map cI r261))) (p_flatQ (fun _ => rfl) r261) ?_
                    refine tb (x := (V.ptr [(V.sl (List.map T_Op.c x235))])) (p_idx_at (c := (cS T_Op.c)) (fun _ => rfl) h236) ?_
                    refine tb (x := (V.sl (List.map T_Op.c x235))) (rfl) ?_
                    refine tb (x := (vi (List.length x235 : Int))) (p_len _) ?_
                    refine tb (x := (vb (decide (s257.1 ≠ (List.length x235 : Int))))) (d_neq) ?_
                    refine tg_f (x := (vi s257.2)) (fun h267 => rfl) ?_
                    refine tg_f (x := (V.sl (List.map cI r261))) (fun h269 => rfl) ?_
                    refine tg_f (x := (vi (List.length r261 : Int))) (fun h271 => by simp only [gv_t h271]; exact bind_some_eq (p_len _)) ?_
                    refine tg_f (x := (vb (decide (s257.2 ≠ (List.length r261 : Int))))) (fun h274 => by simp only [gv_t h274]; exact bind_some_eq (d_neq)) ?_
                    refine tb (x := (vb ((decide (s257.1 ≠ (List.length x235 : Int))) || (decide (s257.2 ≠ (List.length r261 : Int)))))) (pick_or (fun h9 => gv_t (not_f h9))) ?_
                    refine tcond (fun h278 => ?_) (fun h278 => ?_)
                    · exact rf_ret rfl
                    · refine tjoin (mk := fun s281 : T_drive_Drive => [(V.obj [(V.osl 1 (List.map (cS T_Op.c) s281.rounds)), (vi s281.wait), (vi s281.said), (V.osl 1 (List.map cI s281.left)), (vi s281.ticks)])]) (fun s281 => ?_) fun J280 j282 h283 => ?_
                      · exact h245 (s281)
                      · refine rf_loopI (mk := fun (i290 : Int) (s286 : T_drive_Drive) => [(V.obj [(V.osl 1 (List.map (cS T_Op.c) s286.rounds)), (vi s286.wait), (vi s286.said), (V.osl 1 (List.map cI s286.left)), (vi s286.ticks)]), (vi (i290 : Int))]) hn r261 (r249.2.2) (fun i290 x291 h292 h293 h294 s286 rec284 k287 h288 => ?_) (fun s286 rec337 h336 => ?_)
                        · refine tb (x := (vi (List.length r261 : Int))) (p_len _) ?_
                          refine tb (x := (vb (decide ((i290 : Int) < (List.length r261 : Int))))) (d_lss) ?_
                          refine tcond_t h294 ?_
                          refine tb (x := V.any) rfl ?_
                          refine tbo (ty_drive_Drive_Next hn s286) fun r299 => ?_
                          refine tb (x := (V.tup [(V.sl (List.map T_Msg.c r299.1)), (eV r299.2.1)])) rfl ?_
                          refine tb (x := (V.sl (List.map T_Msg.c r299.1))) (rfl) ?_
                          refine tb (x := (eV r299.2.1)) (rfl) ?_
                          refine tbo (ty_railsame_Error r299.2.1 6) fun r304 => ?_
                          refine tb (x := (V.ptr [(vi x291)])) (p_idx_at (c := cI) (fun _ => rfl) h292) ?_
                          refine tb (x := (vi x291)) (rfl) ?_
                          refine tb (x := (T_Msg.e (T_Msg.mk 3 x291 (i234 : Int) 0 (T_Op.mk 0 false (T_Rule.mk 0 (T_Cube.mk 0 0) 0 0 0))))) (by kernel_rfl) ?_
                          refine tb (x := V.any) rfl ?_
                          refine tbo (ty_drive_Drive_Hear hn r299.2.2 (T_Msg.mk 3 x291 (i234 : Int) 0 (T_Op.mk 0 false (T_Rule.mk 0 (T_Cube.mk 0 0) 0 0 0)))) fun r310 => ?_
                          refine tb (x := (eV r310.1)) rfl ?_
                          refine tb (x := (V.ptr [(vi x291)])) (p_idx_at (c := cI) (fun _ => rfl) h292) ?_
                          refine tb (x := (vi x291)) (rfl) ?_
                          refine tb (x := (T_Msg.e (T_Msg.mk 3 x291 (i234 : Int) 0 (T_Op.mk 0 false (T_Rule.mk 0 (T_Cube.mk 0 0) 0 0 0))))) (by kernel_rfl) ?_
                          refine tb (x := V.any) rfl ?_
                          refine tbo (ty_drive_Drive_Hear hn r310.2 (T_Msg.mk 3 x291 (i234 : Int) 0 (T_Op.mk 0 false (T_Rule.mk 0 (T_Cube.mk 0 0) 0 0 0)))) fun r317 => ?_
                          refine tb (x := (eV r317.1)) rfl ?_
                          refine tbo (ty_railsame_Error r317.1 6) fun r320 => ?_
                          refine tb (x := (vb (!r304))) (d_not) ?_
                          refine tg_f (x := (eV r310.1)) (fun h322 => rfl) ?_
                          refine tg_f (x := (vb (!decide (r310.1 = 0)))) (fun h324 => by simp only [gv_t h324]; exact bind_some_eq (p_err_neq _)) ?_
                          refine tb (x := (vb ((!r304) || (!decide (r310.1 = 0))))) (pick_or (fun h9 => gv_t (not_f h9))) ?_
                          refine tg_f (x := (vb r320)) (fun h328 => rfl) ?_
                          refine tg_f (x := (vb (!r320))) (fun h330 => by simp only [gv_t h330]; exact bind_some_eq (d_not)) ?_
                          refine tb (x := (vb (((!r304) || (!decide (r310.1 = 0))) || (!r320)))) (pick_or (fun h9 => gv_t (not_f h9))) ?_
                          refine tcond (fun h334 => ?_) (fun h334 => ?_)
                          · exact rf_ret rfl
                          · refine tb (x := (vi ((i290 : Int) + 1))) (p_incN h293) ?_
                            exact h288 (r317.2)
                        · refine tb (x := (vi (List.length r261 : Int))) (p_len _) ?_
                          refine tb (x := (vb (decide ((List.length r261 : Int) < (List.length r261 : Int))))) (d_lss) ?_
                          refine tcond_f h336 ?_
                          exact h283 (s286)
                  · refine tkeepT2 ?_ rfl
                    refine tsome ?_
                    refine rf_loopI (mk := fun (i346 : Int) (s342 : (Int × Int)) => [(vi s342.1), (vi s342.2), (vi (i346 : Int))]) hn r249.1 (0, 0) (fun i346 x347 h348 h349 h350 s342 rec340 k343 h344 => ?_) (fun s342 rec377 h376 => ?_)
                    · refine tb (x := (vi (List.length r249.1 : Int))) (p_len _) ?_
                      refine tb (x := (vb (decide ((i346 : Int) < (List.length r249.1 : Int))))) (d_lss) ?_
                      refine tcond_t h350 ?_
                      refine tb (x := (V.ptr (T_Msg.c x347))) (p_idx_at (c := T_Msg.c) (fun _ => rfl) h348) ?_
                      refine tb (x := (V.ptr (List.drop 2 (T_Msg.c x347)))) (rfl) ?_
                      refine tb (x := (vi x347.Round)) (rfl) ?_
                      refine tb (x := (vb (decide (x347.Round ≠ (i234 : Int))))) (d_neq) ?_
                      refine tcond (fun h357 => ?_) (fun h357 => ?_)
                      · exact rf_ret rfl
                      · refine tb (x := (V.ptr (T_Msg.c x347))) (p_idx_at (c := T_Msg.c) (fun _ => rfl) h348) ?_
                        refine tb (x := (V.ptr (T_Msg.c x347))) (rfl) ?_
                        refine tb (x := (vi x347.Kind)) (rfl) ?_
                        refine tb (x := (vb (decide (x347.Kind = 1)))) (d_eql) ?_
                        refine tjoin (mk := fun s364 : (Int × Int) => [(vi s364.1), (vi s364.2)]) (fun s364 => ?_) fun J363 j365 h366 => ?_
                        · refine tb (x := (vi ((i346 : Int) + 1))) (p_incN h349) ?_
                          refine tkeepT2 ?_ rfl
                          refine tsome ?_
                          exact h344 (s364.1, s364.2)
                        · refine tcond (fun h368 => ?_) (fun h368 => ?_)
                          · refine tb (x := (vi (wr (s342.1 + 1)))) (d_add) ?_
                            refine tkeepT2 ?_ rfl
                            refine tsome ?_
                            exact h366 ((wr (s342.1 + 1)), s342.2)
                          · refine tb (x := (V.ptr (T_Msg.c x347))) (p_idx_at (c := T_Msg.c) (fun _ => rfl) h348) ?_
                            refine tb (x := (V.ptr (T_Msg.c x347))) (rfl) ?_
                            refine tb (x := (vi x347.Kind)) (rfl) ?_
                            refine tb (x := (vb (decide (x347.Kind = 2)))) (d_eql) ?_
                            refine tcond (fun h374 => ?_) (fun h374 => ?_)
                            · refine tb (x := (vi (wr (s342.2 + 1)))) (d_add) ?_
                              refine tkeepT2 ?_ rfl
                              refine tsome ?_
                              exact h366 (s342.1, (wr (s342.2 + 1)))
                            · exact rf_ret rfl
                    · refine tb (x := (vi (List.length r249.1 : Int))) (p_len _) ?_
                      refine tb (x := (vb (decide ((List.length r249.1 : Int) < (List.length r249.1 : Int))))) (d_lss) ?_
                      refine tcond_f h376 ?_
                      refine tkeepT2 ?_ rfl
                      refine tsome ?_
                      exact h259 (s342.1, s342.2)
            · refine tb (x := (vi (List.length a0 : Int))) (p_len _) ?_
              refine tb (x := (vb (decide ((List.length a0 : Int) < (List.length a0 : Int))))) (d_lss) ?_
              refine tcond_f h380 ?_
              exact h209 (s230)
  · refine tpartP0 ?_
    refine tb (x := (vb (!decide (r2.2 = 0)))) (p_err_neq _) ?_
    refine tcond (fun h386 => ?_) (fun h386 => ?_)
    · exact rf_ret rfl
    · refine tbo (ty_drive_New hn [] 0) fun r388 => ?_
      refine tpartK (fun d392 => ?_) ?_
      · refine tpartP0 ?_
        refine tbo (ty_railsame_Error r388.2 1) fun r395 => ?_
        refine tb (x := (vb (!r395))) (d_not) ?_
        refine tcond (fun h397 => ?_) (fun h397 => ?_)
        · exact rf_ret rfl
        · exact rf_none
      · refine tpartP0 ?_
        refine tbo (ty_railsame_Error r388.2 1) fun r405 => ?_
        refine tb (x := (vb (!r405))) (d_not) ?_
        refine tcond (fun h407 => ?_) (fun h407 => ?_)
        · exact rf_ret rfl
        · exact rf_none

/-! railpoint/railref1.Header -/
def an_railref1_Header : Ann := .seq (.reg 0 [] [] []) (.seq (.reg 0 [] [] []) (.no))
noncomputable def sem_railref1_Header (n : Nat) (xs : List V) : Option V := if xs.length ≤ 9 then denF Tryd.prog (envOf []) n Tryd.f72 an_railref1_Header xs else none
theorem ok_railref1_Header (n : Nat) : SemOk Tryd.prog DW 72 (sem_railref1_Header n) := fun xs y h => by
  unfold sem_railref1_Header at h
  split at h
  · rename_i hl
    exact denF_ok stb Tryd.func72 (by kernel_rfl) (envOf_ok semsOk_nil) (by rw [Tryd.ntmps72]; exact hl) h
  · cases h
theorem eq_railref1_Header (n : Nat) (x0 : V) : sem_railref1_Header n [x0] =
 (bin2 Tryd.prog BinOp.geq 3 (ot 3) (oc 0) x0 (vi 0)).bind fun v1 =>
 (guardV v1 true (some x0)).bind fun v2 =>
 (guardV v1 true ((bin2 Tryd.prog BinOp.lss 3 (ot 6) (oc 16) v2 (vi 16)).bind fun v3 =>
 some v3)).bind fun v4 =>
 (pickV v1 v4 (vb false)).bind fun v5 =>
 some v5 := by kernel_rfl
noncomputable def t_railref1_Header (a0 : Int) : Option Bool :=
 some ((decide (0 ≤ a0)) && (decide (a0 < 16)))
theorem ty_railref1_Header {n : Nat} (hn : bigN ≤ n) (a0 : Int) : Rv (fun x : Bool => (vb x)) (sem_railref1_Header n [(vi a0)]) (t_railref1_Header a0) := by
  rw [eq_railref1_Header]
  unfold t_railref1_Header
  refine tb (x := (vb (decide (0 ≤ a0)))) (d_geq) ?_
  refine tg (x := (vi a0)) (fun h2 => rfl) ?_
  refine tg (x := (vb (decide (a0 < 16)))) (fun h4 => by simp only [gv_t h4]; exact bind_some_eq (d_lss)) ?_
  refine tb (x := (vb ((decide (0 ≤ a0)) && (decide (a0 < 16))))) (pick_and (fun h9 => gv_t h9)) ?_
  exact rf_ret rfl

/-! railpoint/railref1.Cube -/
def an_railref1_Cube : Ann := .seq (.reg 0 [] [] []) (.seq (.reg 0 [] [] []) (.seq (.reg 0 [] [] []) (.seq (.seq (.reg 0 [] [] []) (.cond none (.seq (.reg 0 [] [] []) (.no)) (.no))) (.seq (.seq (.reg 0 [] [] []) (.cond none (.seq (.reg 0 [] [] []) (.no)) (.no))) (.seq (.reg 0 [] [] []) (.no))))))
noncomputable def sem_railref1_Cube (n : Nat) (xs : List V) : Option V := if xs.length ≤ 25 then denF Tryd.prog (envOf [(72, (sem_railref1_Header n))]) n Tryd.f73 an_railref1_Cube xs else none
theorem ok_railref1_Cube (n : Nat) : SemOk Tryd.prog DW 73 (sem_railref1_Cube n) := fun xs y h => by
  unfold sem_railref1_Cube at h
  split at h
  · rename_i hl
    exact denF_ok stb Tryd.func73 (by kernel_rfl) (envOf_ok (semsOk_cons (ok_railref1_Header n) semsOk_nil)) (by rw [Tryd.ntmps73]; exact hl) h
  · cases h
theorem eq_railref1_Cube (n : Nat) (x0 : V) : sem_railref1_Cube n [x0] =
 (V.cellsO x0).bind fun v1 =>
 (ldk none (List.drop 0 v1)).bind fun v2 =>
 ((sem_railref1_Header n) [v2]).bind fun v3 =>
 (ldk none (List.drop 1 v1)).bind fun v4 =>
 ((sem_railref1_Header n) [v4]).bind fun v5 =>
 (scal1 Tryd.prog (Op.unary Go.UnOp.not) v3).bind fun v6 =>
 (guardV v6 false (some v5)).bind fun v7 =>
 (guardV v6 false ((scal1 Tryd.prog (Op.unary Go.UnOp.not) v7).bind fun v8 =>
 some v8)).bind fun v9 =>
 (pickV v6 (vb true) v9).bind fun v10 =>
 condV v10 (
 some (vi 1)) (
 (ldk none (List.drop 1 v1)).bind fun v11 =>
 (ldk none (List.drop 0 v1)).bind fun v12 =>
 (bin2 Tryd.prog BinOp.and 3 (ot 18) (ot 20) v11 v12).bind fun v13 =>
 (ldk none (List.drop 1 v1)).bind fun v14 =>
 (bin2 Tryd.prog BinOp.neq 3 (ot 21) (ot 23) v13 v14).bind fun v15 =>
 condV v15 (
 some (vi 3)) (
 some (vi 0))) := by kernel_rfl
noncomputable def t_railref1_Cube (a0 : T_Cube) : Option Int :=
 (t_railref1_Header a0.Mask).bind fun r4 =>
 (t_railref1_Header a0.Bits).bind fun r7 =>
 if ((!r4) || (!r7)) = true then (
 some 1) else (
 if (decide ((bits .and .i64 a0.Bits a0.Mask) ≠ a0.Bits)) = true then (
 some 3) else (
 some 0))
theorem ty_railref1_Cube {n : Nat} (hn : bigN ≤ n) (a0 : T_Cube) : Rv (fun x : Int => (vi x)) (sem_railref1_Cube n [(T_Cube.e a0)]) (t_railref1_Cube a0) := by
  rw [eq_railref1_Cube]
  unfold t_railref1_Cube
  refine tb (x := (T_Cube.c a0)) rfl ?_
  refine tb (x := (vi a0.Mask)) (rfl) ?_
  refine tbo (ty_railref1_Header hn a0.Mask) fun r4 => ?_
  refine tb (x := (vi a0.Bits)) (rfl) ?_
  refine tbo (ty_railref1_Header hn a0.Bits) fun r7 => ?_
  refine tb (x := (vb (!r4))) (d_not) ?_
  refine tg_f (x := (vb r7)) (fun h9 => rfl) ?_
  refine tg_f (x := (vb (!r7))) (fun h11 => by simp only [gv_t h11]; exact bind_some_eq (d_not)) ?_
  refine tb (x := (vb ((!r4) || (!r7)))) (pick_or (fun h9 => gv_t (not_f h9))) ?_
  refine tcond (fun h15 => ?_) (fun h15 => ?_)
  · exact rf_ret rfl
  · refine tb (x := (vi a0.Bits)) (rfl) ?_
    refine tb (x := (vi a0.Mask)) (rfl) ?_
    refine tb (x := (vi (bits .and .i64 a0.Bits a0.Mask))) (d_and) ?_
    refine tb (x := (vi a0.Bits)) (rfl) ?_
    refine tb (x := (vb (decide ((bits .and .i64 a0.Bits a0.Mask) ≠ a0.Bits)))) (d_neq) ?_
    refine tcond (fun h21 => ?_) (fun h21 => ?_)
    · exact rf_ret rfl
    · exact rf_ret rfl

/-! railpoint/railref1.Rule -/
def an_railref1_Rule : Ann := .seq (.reg 0 [] [] []) (.seq (.reg 0 [] [] []) (.seq (.reg 0 [] [] []) (.seq (.seq (.reg 0 [] [] []) (.cond none (.seq (.reg 0 [] [] []) (.no)) (.no))) (.seq (.reg 0 [] [] []) (.seq (.seq (.reg 0 [] [] []) (.cond none (.seq (.reg 0 [] [] []) (.no)) (.no))) (.seq (.seq (.reg 0 [] [] []) (.cond none (.seq (.reg 0 [] [] []) (.no)) (.no))) (.seq (.reg 0 [] [] []) (.no))))))))
noncomputable def sem_railref1_Rule (n : Nat) (xs : List V) : Option V := if xs.length ≤ 61 then denF Tryd.prog (envOf [(72, (sem_railref1_Header n)), (73, (sem_railref1_Cube n))]) n Tryd.f43 an_railref1_Rule xs else none
theorem ok_railref1_Rule (n : Nat) : SemOk Tryd.prog DW 43 (sem_railref1_Rule n) := fun xs y h => by
  unfold sem_railref1_Rule at h
  split at h
  · rename_i hl
    exact denF_ok stb Tryd.func43 (by kernel_rfl) (envOf_ok (semsOk_cons (ok_railref1_Header n) (semsOk_cons (ok_railref1_Cube n) semsOk_nil))) (by rw [Tryd.ntmps43]; exact hl) h
  · cases h
theorem eq_railref1_Rule (n : Nat) (x0 : V) : sem_railref1_Rule n [x0] =
 (V.cellsO x0).bind fun v1 =>
 (ldk none (List.drop 4 v1)).bind fun v2 =>
 ((sem_railref1_Header n) [v2]).bind fun v3 =>
 (ldk none (List.drop 5 v1)).bind fun v4 =>
 ((sem_railref1_Header n) [v4]).bind fun v5 =>
 (ldk none (List.drop 0 v1)).bind fun v6 =>
 (bin2 Tryd.prog BinOp.lss 3 (ot 13) (oc 0) v6 (vi 0)).bind fun v7 =>
 (guardV v7 false (some V.any)).bind fun v8 =>
 (guardV v7 false ((gate v7 false (ldk none (List.drop 0 v1))).bind fun v9 =>
 some v9)).bind fun v10 =>
 (guardV v7 false ((bin2 Tryd.prog BinOp.gtr 3 (ot 17) (oc 99) v10 (vi 99)).bind fun v11 =>
 some v11)).bind fun v12 =>
 (pickV v7 (vb true) v12).bind fun v13 =>
 (guardV v13 false (some V.any)).bind fun v14 =>
 (guardV v13 false ((gate v13 false (ldk none (List.drop 3 v1))).bind fun v15 =>
 some v15)).bind fun v16 =>
 (guardV v13 false ((bin2 Tryd.prog BinOp.lss 3 (ot 22) (oc 0) v16 (vi 0)).bind fun v17 =>
 some v17)).bind fun v18 =>
 (pickV v13 (vb true) v18).bind fun v19 =>
 (guardV v19 false (some V.any)).bind fun v20 =>
 (guardV v19 false ((gate v19 false (ldk none (List.drop 3 v1))).bind fun v21 =>
 some v21)).bind fun v22 =>
 (guardV v19 false ((bin2 Tryd.prog BinOp.gtr 3 (ot 27) (oc 4) v22 (vi 4)).bind fun v23 =>
 some v23)).bind fun v24 =>
 (pickV v19 (vb true) v24).bind fun v25 =>
 (guardV v25 false (some v3)).bind fun v26 =>
 (guardV v25 false ((scal1 Tryd.prog (Op.unary Go.UnOp.not) v26).bind fun v27 =>
 some v27)).bind fun v28 =>
 (pickV v25 (vb true) v28).bind fun v29 =>
 (guardV v29 false (some v5)).bind fun v30 =>
 (guardV v29 false ((scal1 Tryd.prog (Op.unary Go.UnOp.not) v30).bind fun v31 =>
 some v31)).bind fun v32 =>
 (pickV v29 (vb true) v32).bind fun v33 =>
 condV v33 (
 some (vi 1)) (
 (ldk (some 2) (List.drop 1 v1)).bind fun v34 =>
 ((sem_railref1_Cube n) [v34]).bind fun v35 =>
 (bin2 Tryd.prog BinOp.neq 3 (ot 41) (oc 0) v35 (vi 0)).bind fun v36 =>
 condV v36 (
 some v35) (
 (ldk none (List.drop 4 v1)).bind fun v37 =>
 (ldk none (List.drop 5 v1)).bind fun v38 =>
 ((fillL [(vi 0), (vi 0)] [(0, 1, v37), (1, 1, v38)]).map V.agg).bind fun v39 =>
 ((sem_railref1_Cube n) [v39]).bind fun v40 =>
 (bin2 Tryd.prog BinOp.neq 3 (ot 49) (oc 0) v40 (vi 0)).bind fun v41 =>
 (guardV v41 false (some V.any)).bind fun v42 =>
 (guardV v41 false ((gate v41 false (ldk none (List.drop 3 v1))).bind fun v43 =>
 some v43)).bind fun v44 =>
 (guardV v41 false ((bin2 Tryd.prog BinOp.eql 3 (ot 53) (oc 0) v44 (vi 0)).bind fun v45 =>
 some v45)).bind fun v46 =>
 (guardV v41 false (some v46)).bind fun v47 =>
 (guardV v47 true (some V.any)).bind fun v48 =>
 (guardV v47 true ((gate v47 true (ldk none (List.drop 4 v1))).bind fun v49 =>
 some v49)).bind fun v50 =>
 (guardV v47 true ((bin2 Tryd.prog BinOp.neq 3 (ot 57) (oc 0) v50 (vi 0)).bind fun v51 =>
 some v51)).bind fun v52 =>
 (guardV v41 false ((pickV v47 v52 (vb false)).bind fun v53 =>
 some v53)).bind fun v54 =>
 (pickV v41 (vb true) v54).bind fun v55 =>
 condV v55 (
 some (vi 3)) (
 some (vi 0)))) := by kernel_rfl
noncomputable def t_railref1_Rule (a0 : T_Rule) : Option Int :=
 (t_railref1_Header a0.Set).bind fun r4 =>
 (t_railref1_Header a0.Value).bind fun r7 =>
 if ((((((decide (a0.Prio < 0)) || (decide (99 < a0.Prio))) || (decide (a0.Out < 0))) || (decide (4 < a0.Out))) || (!r4)) || (!r7)) = true then (
 some 1) else (
 (t_railref1_Cube a0.Cube).bind fun r52 =>
 if (decide (r52 ≠ 0)) = true then (
 some r52) else (
 (t_railref1_Cube (T_Cube.mk a0.Set a0.Value)).bind fun r59 =>
 if ((decide (r59 ≠ 0)) || ((decide (a0.Out = 0)) && (decide (a0.Set ≠ 0)))) = true then (
 some 3) else (
 some 0)))
theorem ty_railref1_Rule {n : Nat} (hn : bigN ≤ n) (a0 : T_Rule) : Rv (fun x : Int => (vi x)) (sem_railref1_Rule n [(T_Rule.e a0)]) (t_railref1_Rule a0) := by
  rw [eq_railref1_Rule]
  unfold t_railref1_Rule
  refine tb (x := (T_Rule.c a0)) rfl ?_
  refine tb (x := (vi a0.Set)) (rfl) ?_
  refine tbo (ty_railref1_Header hn a0.Set) fun r4 => ?_
  refine tb (x := (vi a0.Value)) (rfl) ?_
  refine tbo (ty_railref1_Header hn a0.Value) fun r7 => ?_
  refine tb (x := (vi a0.Prio)) (rfl) ?_
  refine tb (x := (vb (decide (a0.Prio < 0)))) (d_lss) ?_
  refine tg_f (x := V.any) (fun h10 => rfl) ?_
  refine tg_f (x := (vi a0.Prio)) (fun h12 => bind_some_eq (gate_pos (not_t h12) (rfl))) ?_
  refine tg_f (x := (vb (decide (99 < a0.Prio)))) (fun h15 => by simp only [gv_t h15]; exact bind_some_eq (d_gtr)) ?_
  refine tb (x := (vb ((decide (a0.Prio < 0)) || (decide (99 < a0.Prio))))) (pick_or (fun h9 => gv_t (not_f h9))) ?_
  refine tg_f (x := V.any) (fun h19 => rfl) ?_
  refine tg_f (x := (vi a0.Out)) (fun h21 => bind_some_eq (gate_pos (not_t h21) (rfl))) ?_
  refine tg_f (x := (vb (decide (a0.Out < 0)))) (fun h24 => by simp only [gv_t h24]; exact bind_some_eq (d_lss)) ?_
  refine tb (x := (vb (((decide (a0.Prio < 0)) || (decide (99 < a0.Prio))) || (decide (a0.Out < 0))))) (pick_or (fun h9 => gv_t (not_f h9))) ?_
  refine tg_f (x := V.any) (fun h28 => rfl) ?_
  refine tg_f (x := (vi a0.Out)) (fun h30 => bind_some_eq (gate_pos (not_t h30) (rfl))) ?_
  refine tg_f (x := (vb (decide (4 < a0.Out)))) (fun h33 => by simp only [gv_t h33]; exact bind_some_eq (d_gtr)) ?_
  refine tb (x := (vb ((((decide (a0.Prio < 0)) || (decide (99 < a0.Prio))) || (decide (a0.Out < 0))) || (decide (4 < a0.Out))))) (pick_or (fun h9 => gv_t (not_f h9))) ?_
  refine tg_f (x := (vb r4)) (fun h37 => rfl) ?_
  refine tg_f (x := (vb (!r4))) (fun h39 => by simp only [gv_t h39]; exact bind_some_eq (d_not)) ?_
  refine tb (x := (vb (((((decide (a0.Prio < 0)) || (decide (99 < a0.Prio))) || (decide (a0.Out < 0))) || (decide (4 < a0.Out))) || (!r4)))) (pick_or (fun h9 => gv_t (not_f h9))) ?_
  refine tg_f (x := (vb r7)) (fun h43 => rfl) ?_
  refine tg_f (x := (vb (!r7))) (fun h45 => by simp only [gv_t h45]; exact bind_some_eq (d_not)) ?_
  refine tb (x := (vb ((((((decide (a0.Prio < 0)) || (decide (99 < a0.Prio))) || (decide (a0.Out < 0))) || (decide (4 < a0.Out))) || (!r4)) || (!r7)))) (pick_or (fun h9 => gv_t (not_f h9))) ?_
  refine tcond (fun h49 => ?_) (fun h49 => ?_)
  · exact rf_ret rfl
  · refine tb (x := (T_Cube.e a0.Cube)) (rfl) ?_
    refine tbo (ty_railref1_Cube hn a0.Cube) fun r52 => ?_
    refine tb (x := (vb (decide (r52 ≠ 0)))) (d_neq) ?_
    refine tcond (fun h54 => ?_) (fun h54 => ?_)
    · exact rf_ret rfl
    · refine tb (x := (vi a0.Set)) (rfl) ?_
      refine tb (x := (vi a0.Value)) (rfl) ?_
      refine tb (x := (T_Cube.e (T_Cube.mk a0.Set a0.Value))) (by kernel_rfl) ?_
      refine tbo (ty_railref1_Cube hn (T_Cube.mk a0.Set a0.Value)) fun r59 => ?_
      refine tb (x := (vb (decide (r59 ≠ 0)))) (d_neq) ?_
      refine tg_f (x := V.any) (fun h61 => rfl) ?_
      refine tg_f (x := (vi a0.Out)) (fun h63 => bind_some_eq (gate_pos (not_t h63) (rfl))) ?_
      refine tg_f (x := (vb (decide (a0.Out = 0)))) (fun h66 => by simp only [gv_t h66]; exact bind_some_eq (d_eql)) ?_
      refine tg_f (x := (vb (decide (a0.Out = 0)))) (fun h69 => congrArg some (gv_t h69)) ?_
      refine tg2 (x := V.any) (fun h71 => rfl) ?_
      refine tg2 (x := (vi a0.Set)) (fun h73 => bind_some_eq (gate_pos2 (and_l h73) (and_r h73) (rfl))) ?_
      refine tg2 (x := (vb (decide (a0.Set ≠ 0)))) (fun h76 => by simp only [gv_t h76]; exact bind_some_eq (d_neq)) ?_
      refine tg_f (x := (vb ((decide (a0.Out = 0)) && (decide (a0.Set ≠ 0))))) (fun h79 => by simp only [gv_t h79]; exact bind_some_eq (pick_and (fun h9 => gv_t (and_i h79 h9)))) ?_
      refine tb (x := (vb ((decide (r59 ≠ 0)) || ((decide (a0.Out = 0)) && (decide (a0.Set ≠ 0)))))) (pick_or (fun h9 => gv_t (not_f h9))) ?_
      refine tcond (fun h83 => ?_) (fun h83 => ?_)
      · exact rf_ret rfl
      · exact rf_ret rfl

/-! railpoint/railref2.Msg -/
def an_railref2_Msg : Ann := .seq (.reg 0 [] [] []) (.seq (.seq (.reg 0 [] [] []) (.cond none (.seq (.reg 0 [] [] []) (.no)) (.no))) (.seq (.seq (.reg 0 [] [] []) (.cond none (.seq (.seq (.reg 0 [] [] []) (.cond none (.seq (.reg 0 [] [] []) (.no)) (.no))) (.seq (.reg 0 [] [] []) (.no))) (.no))) (.seq (.reg 0 [] [] []) (.seq (.seq (.reg 0 [] [] []) (.cond none (.seq (.reg 0 [] [] []) (.no)) (.no))) (.seq (.seq (.reg 0 [] [] []) (.cond none (.seq (.reg 0 [] [] []) (.no)) (.no))) (.seq (.reg 0 [] [] []) (.no)))))))
noncomputable def sem_railref2_Msg (n : Nat) (xs : List V) : Option V := if xs.length ≤ 72 then denF Tryd.prog (envOf [(43, (sem_railref1_Rule n))]) n Tryd.f44 an_railref2_Msg xs else none
theorem ok_railref2_Msg (n : Nat) : SemOk Tryd.prog DW 44 (sem_railref2_Msg n) := fun xs y h => by
  unfold sem_railref2_Msg at h
  split at h
  · rename_i hl
    exact denF_ok stb Tryd.func44 (by kernel_rfl) (envOf_ok (semsOk_cons (ok_railref1_Rule n) semsOk_nil)) (by rw [Tryd.ntmps44]; exact hl) h
  · cases h
theorem eq_railref2_Msg (n : Nat) (x0 : V) : sem_railref2_Msg n [x0] =
 (V.cellsO x0).bind fun v1 =>
 (ldk none (List.drop 0 v1)).bind fun v2 =>
 (bin2 Tryd.prog BinOp.lss 3 (ot 5) (oc 1) v2 (vi 1)).bind fun v3 =>
 (guardV v3 false (some V.any)).bind fun v4 =>
 (guardV v3 false ((gate v3 false (ldk none (List.drop 0 v1))).bind fun v5 =>
 some v5)).bind fun v6 =>
 (guardV v3 false ((bin2 Tryd.prog BinOp.gtr 3 (ot 9) (oc 3) v6 (vi 3)).bind fun v7 =>
 some v7)).bind fun v8 =>
 (pickV v3 (vb true) v8).bind fun v9 =>
 (guardV v9 false (some V.any)).bind fun v10 =>
 (guardV v9 false ((gate v9 false (ldk none (List.drop 1 v1))).bind fun v11 =>
 some v11)).bind fun v12 =>
 (guardV v9 false ((bin2 Tryd.prog BinOp.lss 3 (ot 14) (oc 1) v12 (vi 1)).bind fun v13 =>
 some v13)).bind fun v14 =>
 (pickV v9 (vb true) v14).bind fun v15 =>
 (guardV v15 false (some V.any)).bind fun v16 =>
 (guardV v15 false ((gate v15 false (ldk none (List.drop 1 v1))).bind fun v17 =>
 some v17)).bind fun v18 =>
 (guardV v15 false ((bin2 Tryd.prog BinOp.gtr 3 (ot 19) (oc 6) v18 (vi 6)).bind fun v19 =>
 some v19)).bind fun v20 =>
 (pickV v15 (vb true) v20).bind fun v21 =>
 (guardV v21 false (some V.any)).bind fun v22 =>
 (guardV v21 false ((gate v21 false (ldk none (List.drop 2 v1))).bind fun v23 =>
 some v23)).bind fun v24 =>
 (guardV v21 false ((bin2 Tryd.prog BinOp.lss 3 (ot 24) (oc 0) v24 (vi 0)).bind fun v25 =>
 some v25)).bind fun v26 =>
 (pickV v21 (vb true) v26).bind fun v27 =>
 (guardV v27 false (some V.any)).bind fun v28 =>
 (guardV v27 false ((gate v27 false (ldk none (List.drop 2 v1))).bind fun v29 =>
 some v29)).bind fun v30 =>
 (guardV v27 false ((bin2 Tryd.prog BinOp.gtr 3 (ot 29) (oc 19) v30 (vi 19)).bind fun v31 =>
 some v31)).bind fun v32 =>
 (pickV v27 (vb true) v32).bind fun v33 =>
 (guardV v33 false (some V.any)).bind fun v34 =>
 (guardV v33 false ((gate v33 false (ldk none (List.drop 3 v1))).bind fun v35 =>
 some v35)).bind fun v36 =>
 (guardV v33 false ((bin2 Tryd.prog BinOp.lss 3 (ot 34) (oc 0) v36 (vi 0)).bind fun v37 =>
 some v37)).bind fun v38 =>
 (pickV v33 (vb true) v38).bind fun v39 =>
 (guardV v39 false (some V.any)).bind fun v40 =>
 (guardV v39 false ((gate v39 false (ldk none (List.drop 3 v1))).bind fun v41 =>
 some v41)).bind fun v42 =>
 (guardV v39 false ((bin2 Tryd.prog BinOp.gtr 3 (ot 39) (oc 200) v42 (vi 200)).bind fun v43 =>
 some v43)).bind fun v44 =>
 (pickV v39 (vb true) v44).bind fun v45 =>
 condV v45 (
 some (vi 1)) (
 (ldk none (List.drop 0 v1)).bind fun v46 =>
 (bin2 Tryd.prog BinOp.neq 3 (ot 43) (oc 1) v46 (vi 1)).bind fun v47 =>
 condV v47 (
 (ldk (some 8) (List.drop 4 v1)).bind fun v48 =>
 ((fillL [(vi 0), (vb false), (vi 0), (vi 0), (vi 0), (vi 0), (vi 0), (vi 0)] []).map V.agg).bind fun v49 =>
 (bin2 Tryd.prog BinOp.neq 37 (ot 46) (ot 47) v48 v49).bind fun v50 =>
 (guardV v50 false (some V.any)).bind fun v51 =>
 (guardV v50 false ((gate v50 false (ldk none (List.drop 0 v1))).bind fun v52 =>
 some v52)).bind fun v53 =>
 (guardV v50 false ((bin2 Tryd.prog BinOp.eql 3 (ot 51) (oc 3) v53 (vi 3)).bind fun v54 =>
 some v54)).bind fun v55 =>
 (guardV v50 false (some v55)).bind fun v56 =>
 (guardV v56 true (some V.any)).bind fun v57 =>
 (guardV v56 true ((gate v56 true (ldk none (List.drop 3 v1))).bind fun v58 =>
 some v58)).bind fun v59 =>
 (guardV v56 true ((bin2 Tryd.prog BinOp.neq 3 (ot 55) (oc 0) v59 (vi 0)).bind fun v60 =>
 some v60)).bind fun v61 =>
 (guardV v50 false ((pickV v56 v61 (vb false)).bind fun v62 =>
 some v62)).bind fun v63 =>
 (pickV v50 (vb true) v63).bind fun v64 =>
 condV v64 (
 some (vi 3)) (
 some (vi 0))) (
 (ldk (some 6) (List.drop 6 v1)).bind fun v65 =>
 ((sem_railref1_Rule n) [v65]).bind fun v66 =>
 (bin2 Tryd.prog BinOp.neq 3 (ot 63) (oc 0) v66 (vi 0)).bind fun v67 =>
 condV v67 (
 some v66) (
 (ldk none (List.drop 4 v1)).bind fun v68 =>
 (ldk none (List.drop 1 v1)).bind fun v69 =>
 (bin2 Tryd.prog BinOp.neq 3 (ot 68) (ot 70) v68 v69).bind fun v70 =>
 condV v70 (
 some (vi 3)) (
 some (vi 0))))) := by kernel_rfl
noncomputable def t_railref2_Msg (a0 : T_Msg) : Option Int :=
 (some ((((((decide (a0.Kind < 1)) || (decide (3 < a0.Kind))) || (decide (a0.Switch < 1))) || (decide (6 < a0.Switch))) || (decide (a0.Round < 0))) || (decide (19 < a0.Round)))).bind fun r49 =>
 if ((r49 || (decide (a0.Index < 0))) || (decide (200 < a0.Index))) = true then (
 some 1) else (
 if (decide (a0.Kind ≠ 1)) = true then (
 if ((!decide (a0.Op = (T_Op.mk 0 false (T_Rule.mk 0 (T_Cube.mk 0 0) 0 0 0)))) || ((decide (a0.Kind = 3)) && (decide (a0.Index ≠ 0)))) = true then (
 some 3) else (
 some 0)) else (
 (t_railref1_Rule a0.Op.Rule).bind fun r100 =>
 if (decide (r100 ≠ 0)) = true then (
 some r100) else (
 if (decide (a0.Op.Switch ≠ a0.Switch)) = true then (
 some 3) else (
 some 0))))
theorem ty_railref2_Msg {n : Nat} (hn : bigN ≤ n) (a0 : T_Msg) : Rv (fun x : Int => (vi x)) (sem_railref2_Msg n [(T_Msg.e a0)]) (t_railref2_Msg a0) := by
  rw [eq_railref2_Msg]
  unfold t_railref2_Msg
  refine tb (x := (T_Msg.c a0)) rfl ?_
  refine tb (x := (vi a0.Kind)) (rfl) ?_
  refine tb (x := (vb (decide (a0.Kind < 1)))) (d_lss) ?_
  refine tg_f (x := V.any) (fun h4 => rfl) ?_
  refine tg_f (x := (vi a0.Kind)) (fun h6 => bind_some_eq (gate_pos (not_t h6) (rfl))) ?_
  refine tg_f (x := (vb (decide (3 < a0.Kind)))) (fun h9 => by simp only [gv_t h9]; exact bind_some_eq (d_gtr)) ?_
  refine tb (x := (vb ((decide (a0.Kind < 1)) || (decide (3 < a0.Kind))))) (pick_or (fun h9 => gv_t (not_f h9))) ?_
  refine tg_f (x := V.any) (fun h13 => rfl) ?_
  refine tg_f (x := (vi a0.Switch)) (fun h15 => bind_some_eq (gate_pos (not_t h15) (rfl))) ?_
  refine tg_f (x := (vb (decide (a0.Switch < 1)))) (fun h18 => by simp only [gv_t h18]; exact bind_some_eq (d_lss)) ?_
  refine tb (x := (vb (((decide (a0.Kind < 1)) || (decide (3 < a0.Kind))) || (decide (a0.Switch < 1))))) (pick_or (fun h9 => gv_t (not_f h9))) ?_
  refine tg_f (x := V.any) (fun h22 => rfl) ?_
  refine tg_f (x := (vi a0.Switch)) (fun h24 => bind_some_eq (gate_pos (not_t h24) (rfl))) ?_
  refine tg_f (x := (vb (decide (6 < a0.Switch)))) (fun h27 => by simp only [gv_t h27]; exact bind_some_eq (d_gtr)) ?_
  refine tb (x := (vb ((((decide (a0.Kind < 1)) || (decide (3 < a0.Kind))) || (decide (a0.Switch < 1))) || (decide (6 < a0.Switch))))) (pick_or (fun h9 => gv_t (not_f h9))) ?_
  refine tg_f (x := V.any) (fun h31 => rfl) ?_
  refine tg_f (x := (vi a0.Round)) (fun h33 => bind_some_eq (gate_pos (not_t h33) (rfl))) ?_
  refine tg_f (x := (vb (decide (a0.Round < 0)))) (fun h36 => by simp only [gv_t h36]; exact bind_some_eq (d_lss)) ?_
  refine tb (x := (vb (((((decide (a0.Kind < 1)) || (decide (3 < a0.Kind))) || (decide (a0.Switch < 1))) || (decide (6 < a0.Switch))) || (decide (a0.Round < 0))))) (pick_or (fun h9 => gv_t (not_f h9))) ?_
  refine tg_f (x := V.any) (fun h40 => rfl) ?_
  refine tg_f (x := (vi a0.Round)) (fun h42 => bind_some_eq (gate_pos (not_t h42) (rfl))) ?_
  refine tg_f (x := (vb (decide (19 < a0.Round)))) (fun h45 => by simp only [gv_t h45]; exact bind_some_eq (d_gtr)) ?_
  refine tbo (e1 := fun x : Bool => (vb x)) (rf_eq (pick_or (fun h9 => gv_t (not_f h9))) rfl) fun r49 => ?_
  refine tg_f (x := V.any) (fun h50 => rfl) ?_
  refine tg_f (x := (vi a0.Index)) (fun h52 => bind_some_eq (gate_pos (not_t h52) (rfl))) ?_
  refine tg_f (x := (vb (decide (a0.Index < 0)))) (fun h55 => by simp only [gv_t h55]; exact bind_some_eq (d_lss)) ?_
  refine tb (x := (vb (r49 || (decide (a0.Index < 0))))) (pick_or (fun h9 => gv_t (not_f h9))) ?_
  refine tg_f (x := V.any) (fun h59 => rfl) ?_
  refine tg_f (x := (vi a0.Index)) (fun h61 => bind_some_eq (gate_pos (not_t h61) (rfl))) ?_
  refine tg_f (x := (vb (decide (200 < a0.Index)))) (fun h64 => by simp only [gv_t h64]; exact bind_some_eq (d_gtr)) ?_
  refine tb (x := (vb ((r49 || (decide (a0.Index < 0))) || (decide (200 < a0.Index))))) (pick_or (fun h9 => gv_t (not_f h9))) ?_
  refine tcond (fun h68 => ?_) (fun h68 => ?_)
  · exact rf_ret rfl
  · refine tb (x := (vi a0.Kind)) (rfl) ?_
    refine tb (x := (vb (decide (a0.Kind ≠ 1)))) (d_neq) ?_
    refine tcond (fun h71 => ?_) (fun h71 => ?_)
    · refine tb (x := (T_Op.e a0.Op)) (rfl) ?_
      refine tb (x := (T_Op.e (T_Op.mk 0 false (T_Rule.mk 0 (T_Cube.mk 0 0) 0 0 0)))) (by kernel_rfl) ?_
      refine tb (x := (vb (!decide (a0.Op = (T_Op.mk 0 false (T_Rule.mk 0 (T_Cube.mk 0 0) 0 0 0)))))) (T_Op.neq a0.Op (T_Op.mk 0 false (T_Rule.mk 0 (T_Cube.mk 0 0) 0 0 0))) ?_
      refine tg_f (x := V.any) (fun h75 => rfl) ?_
      refine tg_f (x := (vi a0.Kind)) (fun h77 => bind_some_eq (gate_pos (not_t h77) (rfl))) ?_
      refine tg_f (x := (vb (decide (a0.Kind = 3)))) (fun h80 => by simp only [gv_t h80]; exact bind_some_eq (d_eql)) ?_
      refine tg_f (x := (vb (decide (a0.Kind = 3)))) (fun h83 => congrArg some (gv_t h83)) ?_
      refine tg2 (x := V.any) (fun h85 => rfl) ?_
      refine tg2 (x := (vi a0.Index)) (fun h87 => bind_some_eq (gate_pos2 (and_l h87) (and_r h87) (rfl))) ?_
      refine tg2 (x := (vb (decide (a0.Index ≠ 0)))) (fun h90 => by simp only [gv_t h90]; exact bind_some_eq (d_neq)) ?_
      refine tg_f (x := (vb ((decide (a0.Kind = 3)) && (decide (a0.Index ≠ 0))))) (fun h93 => by simp only [gv_t h93]; exact bind_some_eq (pick_and (fun h9 => gv_t (and_i h93 h9)))) ?_
      refine tb (x := (vb ((!decide (a0.Op = (T_Op.mk 0 false (T_Rule.mk 0 (T_Cube.mk 0 0) 0 0 0)))) || ((decide (a0.Kind = 3)) && (decide (a0.Index ≠ 0)))))) (pick_or (fun h9 => gv_t (not_f h9))) ?_
      refine tcond (fun h97 => ?_) (fun h97 => ?_)
      · exact rf_ret rfl
      · exact rf_ret rfl
    · refine tb (x := (T_Rule.e a0.Op.Rule)) (rfl) ?_
      refine tbo (ty_railref1_Rule hn a0.Op.Rule) fun r100 => ?_
      refine tb (x := (vb (decide (r100 ≠ 0)))) (d_neq) ?_
      refine tcond (fun h102 => ?_) (fun h102 => ?_)
      · exact rf_ret rfl
      · refine tb (x := (vi a0.Op.Switch)) (rfl) ?_
        refine tb (x := (vi a0.Switch)) (rfl) ?_
        refine tb (x := (vb (decide (a0.Op.Switch ≠ a0.Switch)))) (d_neq) ?_
        refine tcond (fun h106 => ?_) (fun h106 => ?_)
        · exact rf_ret rfl
        · exact rf_ret rfl

end Go.Proofs.YtgfleiknigjnbaaDoor.Ty
