/- What functions do, as functions on plain types, written by a program and checked by the kernel. -/
import Derived.Test.YtilbgbhpdjjliaaGreatDoorDenGreat
import Derived.Test.YtilbgbhpdjjliaaGreatDoorTy
import Derived.Test.YtilbgbhpdjjliaaGreatDoorTyT
import Derived.Test.YtilbgbhpdjjliaaGreatDoorTyO
import Derived.Test.YtilbgbhpdjjliaaGreatDoorTyN
import Derived.Test.YtilbgbhpdjjliaaGreatDoorTyM
import Derived.Test.YtilbgbhpdjjliaaGreatDoorTyR
import Derived.Test.YtilbgbhpdjjliaaGreatDoorTyEG
import Derived.Test.YtilbgbhpdjjliaaGreatDoorDen14
import Derived.Test.YtilbgbhpdjjliaaGreatDoorShelfT
import Derived.Test.YtilbgbhpdjjliaaGreatDoorNumber
import Derived.Test.YtilbgbhpdjjliaaGreatDoorDigits
namespace Go.Proofs.YtilbgbhpdjjliaaGreatDoor.Ty
open Go Go.RowKit Go.Proofs.YtilbgbhpdjjliaaGreatDoor.Den
set_option linter.unusedVariables false
set_option maxRecDepth 100000

/-! railpoint/railref1.Header -/
def an_railref1_Header : Ann := .seq (.reg 0 [] [] []) (.seq (.reg 0 [] [] []) (.no))
noncomputable def sem_railref1_Header (n : Nat) (xs : List V) : Option V := if xs.length ≤ 9 then denF Tryz.prog (envOf []) n Tryz.f12 an_railref1_Header xs else none
theorem ok_railref1_Header (n : Nat) : SemOk Tryz.prog DW 12 (sem_railref1_Header n) := fun xs y h => by
  unfold sem_railref1_Header at h
  split at h
  · rename_i hl
    exact denF_ok stb Tryz.func12 (by kernel_rfl) (envOf_ok semsOk_nil) (by rw [Tryz.ntmps12]; exact hl) h
  · cases h
theorem eq_railref1_Header (n : Nat) (x0 : V) : sem_railref1_Header n [x0] =
 (bin2 Tryz.prog BinOp.geq 3 (ot 3) (oc 0) x0 (vi 0)).bind fun v1 =>
 (guardV v1 true (some x0)).bind fun v2 =>
 (guardV v1 true ((bin2 Tryz.prog BinOp.lss 3 (ot 6) (oc 16) v2 (vi 16)).bind fun v3 =>
 some v3)).bind fun v4 =>
 (pickV v1 v4 (vb false)).bind fun v5 =>
 some v5 := by kernel_rfl
noncomputable def t_railref1_Header (a0 : Int) : Option Bool :=
 some ((decide (0 ≤ a0)) && (decide (a0 < 16)))
theorem ty_railref1_Header {n : Nat} (hn : bigN ≤ n) (a0 : Int) : Rv (fun x : Bool => (vb x)) (sem_railref1_Header n [(vi a0)]) (t_railref1_Header a0) := by
  rw [eq_railref1_Header]
  unfold t_railref1_Header
  refine tb (x := (vb (decide (0 ≤ a0)))) (d_geq) ?_
  refine tg (x := (vi a0)) (fun h2 => rfl) ?_
  refine tg (x := (vb (decide (a0 < 16)))) (fun h4 => by simp only [gv_t h4]; exact bind_some_eq (d_lss)) ?_
  refine tb (x := (vb ((decide (0 ≤ a0)) && (decide (a0 < 16))))) (pick_and (fun h9 => gv_t h9)) ?_
  exact rf_ret rfl

/-! railpoint/railref1.Cube -/
def an_railref1_Cube : Ann := .seq (.reg 0 [] [] []) (.seq (.reg 0 [] [] []) (.seq (.reg 0 [] [] []) (.seq (.seq (.reg 0 [] [] []) (.cond none (.seq (.reg 0 [] [] []) (.no)) (.no))) (.seq (.seq (.reg 0 [] [] []) (.cond none (.seq (.reg 0 [] [] []) (.no)) (.no))) (.seq (.reg 0 [] [] []) (.no))))))
noncomputable def sem_railref1_Cube (n : Nat) (xs : List V) : Option V := if xs.length ≤ 25 then denF Tryz.prog (envOf [(12, (sem_railref1_Header n))]) n Tryz.f33 an_railref1_Cube xs else none
theorem ok_railref1_Cube (n : Nat) : SemOk Tryz.prog DW 33 (sem_railref1_Cube n) := fun xs y h => by
  unfold sem_railref1_Cube at h
  split at h
  · rename_i hl
    exact denF_ok stb Tryz.func33 (by kernel_rfl) (envOf_ok (semsOk_cons (ok_railref1_Header n) semsOk_nil)) (by rw [Tryz.ntmps33]; exact hl) h
  · cases h
theorem eq_railref1_Cube (n : Nat) (x0 : V) : sem_railref1_Cube n [x0] =
 (V.cellsO x0).bind fun v1 =>
 (ldk none (List.drop 0 v1)).bind fun v2 =>
 ((sem_railref1_Header n) [v2]).bind fun v3 =>
 (ldk none (List.drop 1 v1)).bind fun v4 =>
 ((sem_railref1_Header n) [v4]).bind fun v5 =>
 (scal1 Tryz.prog (Op.unary Go.UnOp.not) v3).bind fun v6 =>
 (guardV v6 false (some v5)).bind fun v7 =>
 (guardV v6 false ((scal1 Tryz.prog (Op.unary Go.UnOp.not) v7).bind fun v8 =>
 some v8)).bind fun v9 =>
 (pickV v6 (vb true) v9).bind fun v10 =>
 condV v10 (
 some (vi 1)) (
 (ldk none (List.drop 1 v1)).bind fun v11 =>
 (ldk none (List.drop 0 v1)).bind fun v12 =>
 (bin2 Tryz.prog BinOp.and 3 (ot 18) (ot 20) v11 v12).bind fun v13 =>
 (ldk none (List.drop 1 v1)).bind fun v14 =>
 (bin2 Tryz.prog BinOp.neq 3 (ot 21) (ot 23) v13 v14).bind fun v15 =>
 condV v15 (
 some (vi 3)) (
 some (vi 0))) := by kernel_rfl
noncomputable def t_railref1_Cube (a0 : T_Cube) : Option Int :=
 (t_railref1_Header a0.Mask).bind fun r4 =>
 (t_railref1_Header a0.Bits).bind fun r7 =>
 if ((!r4) || (!r7)) = true then (
 some 1) else (
 if (decide ((bits .and .i64 a0.Bits a0.Mask) ≠ a0.Bits)) = true then (
 some 3) else (
 some 0))
theorem ty_railref1_Cube {n : Nat} (hn : bigN ≤ n) (a0 : T_Cube) : Rv (fun x : Int => (vi x)) (sem_railref1_Cube n [(T_Cube.e a0)]) (t_railref1_Cube a0) := by
  rw [eq_railref1_Cube]
  unfold t_railref1_Cube
  refine tb (x := (T_Cube.c a0)) rfl ?_
  refine tb (x := (vi a0.Mask)) (rfl) ?_
  refine tbo (ty_railref1_Header hn a0.Mask) fun r4 => ?_
  refine tb (x := (vi a0.Bits)) (rfl) ?_
  refine tbo (ty_railref1_Header hn a0.Bits) fun r7 => ?_
  refine tb (x := (vb (!r4))) (d_not) ?_
  refine tg_f (x := (vb r7)) (fun h9 => rfl) ?_
  refine tg_f (x := (vb (!r7))) (fun h11 => by simp only [gv_t h11]; exact bind_some_eq (d_not)) ?_
  refine tb (x := (vb ((!r4) || (!r7)))) (pick_or (fun h9 => gv_t (not_f h9))) ?_
  refine tcond (fun h15 => ?_) (fun h15 => ?_)
  · exact rf_ret rfl
  · refine tb (x := (vi a0.Bits)) (rfl) ?_
    refine tb (x := (vi a0.Mask)) (rfl) ?_
    refine tb (x := (vi (bits .and .i64 a0.Bits a0.Mask))) (d_and) ?_
    refine tb (x := (vi a0.Bits)) (rfl) ?_
    refine tb (x := (vb (decide ((bits .and .i64 a0.Bits a0.Mask) ≠ a0.Bits)))) (d_neq) ?_
    refine tcond (fun h21 => ?_) (fun h21 => ?_)
    · exact rf_ret rfl
    · exact rf_ret rfl

/-! railpoint/railref1.Rule -/
def an_railref1_Rule : Ann := .seq (.reg 0 [] [] []) (.seq (.reg 0 [] [] []) (.seq (.reg 0 [] [] []) (.seq (.seq (.reg 0 [] [] []) (.cond none (.seq (.reg 0 [] [] []) (.no)) (.no))) (.seq (.reg 0 [] [] []) (.seq (.seq (.reg 0 [] [] []) (.cond none (.seq (.reg 0 [] [] []) (.no)) (.no))) (.seq (.seq (.reg 0 [] [] []) (.cond none (.seq (.reg 0 [] [] []) (.no)) (.no))) (.seq (.reg 0 [] [] []) (.no))))))))
noncomputable def sem_railref1_Rule (n : Nat) (xs : List V) : Option V := if xs.length ≤ 61 then denF Tryz.prog (envOf [(12, (sem_railref1_Header n)), (33, (sem_railref1_Cube n))]) n Tryz.f5 an_railref1_Rule xs else none
theorem ok_railref1_Rule (n : Nat) : SemOk Tryz.prog DW 5 (sem_railref1_Rule n) := fun xs y h => by
  unfold sem_railref1_Rule at h
  split at h
  · rename_i hl
    exact denF_ok stb Tryz.func5 (by kernel_rfl) (envOf_ok (semsOk_cons (ok_railref1_Header n) (semsOk_cons (ok_railref1_Cube n) semsOk_nil))) (by rw [Tryz.ntmps5]; exact hl) h
  · cases h
theorem eq_railref1_Rule (n : Nat) (x0 : V) : sem_railref1_Rule n [x0] =
 (V.cellsO x0).bind fun v1 =>
 (ldk none (List.drop 4 v1)).bind fun v2 =>
 ((sem_railref1_Header n) [v2]).bind fun v3 =>
 (ldk none (List.drop 5 v1)).bind fun v4 =>
 ((sem_railref1_Header n) [v4]).bind fun v5 =>
 (ldk none (List.drop 0 v1)).bind fun v6 =>
 (bin2 Tryz.prog BinOp.lss 3 (ot 13) (oc 0) v6 (vi 0)).bind fun v7 =>
 (guardV v7 false (some V.any)).bind fun v8 =>
 (guardV v7 false ((gate v7 false (ldk none (List.drop 0 v1))).bind fun v9 =>
 some v9)).bind fun v10 =>
 (guardV v7 false ((bin2 Tryz.prog BinOp.gtr 3 (ot 17) (oc 99) v10 (vi 99)).bind fun v11 =>
 some v11)).bind fun v12 =>
 (pickV v7 (vb true) v12).bind fun v13 =>
 (guardV v13 false (some V.any)).bind fun v14 =>
 (guardV v13 false ((gate v13 false (ldk none (List.drop 3 v1))).bind fun v15 =>
 some v15)).bind fun v16 =>
 (guardV v13 false ((bin2 Tryz.prog BinOp.lss 3 (ot 22) (oc 0) v16 (vi 0)).bind fun v17 =>
 some v17)).bind fun v18 =>
 (pickV v13 (vb true) v18).bind fun v19 =>
 (guardV v19 false (some V.any)).bind fun v20 =>
 (guardV v19 false ((gate v19 false (ldk none (List.drop 3 v1))).bind fun v21 =>
 some v21)).bind fun v22 =>
 (guardV v19 false ((bin2 Tryz.prog BinOp.gtr 3 (ot 27) (oc 4) v22 (vi 4)).bind fun v23 =>
 some v23)).bind fun v24 =>
 (pickV v19 (vb true) v24).bind fun v25 =>
 (guardV v25 false (some v3)).bind fun v26 =>
 (guardV v25 false ((scal1 Tryz.prog (Op.unary Go.UnOp.not) v26).bind fun v27 =>
 some v27)).bind fun v28 =>
 (pickV v25 (vb true) v28).bind fun v29 =>
 (guardV v29 false (some v5)).bind fun v30 =>
 (guardV v29 false ((scal1 Tryz.prog (Op.unary Go.UnOp.not) v30).bind fun v31 =>
 some v31)).bind fun v32 =>
 (pickV v29 (vb true) v32).bind fun v33 =>
 condV v33 (
 some (vi 1)) (
 (ldk (some 2) (List.drop 1 v1)).bind fun v34 =>
 ((sem_railref1_Cube n) [v34]).bind fun v35 =>
 (bin2 Tryz.prog BinOp.neq 3 (ot 41) (oc 0) v35 (vi 0)).bind fun v36 =>
 condV v36 (
 some v35) (
 (ldk none (List.drop 4 v1)).bind fun v37 =>
 (ldk none (List.drop 5 v1)).bind fun v38 =>
 ((fillL [(vi 0), (vi 0)] [(0, 1, v37), (1, 1, v38)]).map V.agg).bind fun v39 =>
 ((sem_railref1_Cube n) [v39]).bind fun v40 =>
 (bin2 Tryz.prog BinOp.neq 3 (ot 49) (oc 0) v40 (vi 0)).bind fun v41 =>
 (guardV v41 false (some V.any)).bind fun v42 =>
 (guardV v41 false ((gate v41 false (ldk none (List.drop 3 v1))).bind fun v43 =>
 some v43)).bind fun v44 =>
 (guardV v41 false ((bin2 Tryz.prog BinOp.eql 3 (ot 53) (oc 0) v44 (vi 0)).bind fun v45 =>
 some v45)).bind fun v46 =>
 (guardV v41 false (some v46)).bind fun v47 =>
 (guardV v47 true (some V.any)).bind fun v48 =>
 (guardV v47 true ((gate v47 true (ldk none (List.drop 4 v1))).bind fun v49 =>
 some v49)).bind fun v50 =>
 (guardV v47 true ((bin2 Tryz.prog BinOp.neq 3 (ot 57) (oc 0) v50 (vi 0)).bind fun v51 =>
 some v51)).bind fun v52 =>
 (guardV v41 false ((pickV v47 v52 (vb false)).bind fun v53 =>
 some v53)).bind fun v54 =>
 (pickV v41 (vb true) v54).bind fun v55 =>
 condV v55 (
 some (vi 3)) (
 some (vi 0)))) := by kernel_rfl
noncomputable def t_railref1_Rule (a0 : T_Rule) : Option Int :=
 (t_railref1_Header a0.Set).bind fun r4 =>
 (t_railref1_Header a0.Value).bind fun r7 =>
 if ((((((decide (a0.Prio < 0)) || (decide (99 < a0.Prio))) || (decide (a0.Out < 0))) || (decide (4 < a0.Out))) || (!r4)) || (!r7)) = true then (
 some 1) else (
 (t_railref1_Cube a0.Cube).bind fun r52 =>
 if (decide (r52 ≠ 0)) = true then (
 some r52) else (
 (t_railref1_Cube (T_Cube.mk a0.Set a0.Value)).bind fun r59 =>
 if ((decide (r59 ≠ 0)) || ((decide (a0.Out = 0)) && (decide (a0.Set ≠ 0)))) = true then (
 some 3) else (
 some 0)))
theorem ty_railref1_Rule {n : Nat} (hn : bigN ≤ n) (a0 : T_Rule) : Rv (fun x : Int => (vi x)) (sem_railref1_Rule n [(T_Rule.e a0)]) (t_railref1_Rule a0) := by
  rw [eq_railref1_Rule]
  unfold t_railref1_Rule
  refine tb (x := (T_Rule.c a0)) rfl ?_
  refine tb (x := (vi a0.Set)) (rfl) ?_
  refine tbo (ty_railref1_Header hn a0.Set) fun r4 => ?_
  refine tb (x := (vi a0.Value)) (rfl) ?_
  refine tbo (ty_railref1_Header hn a0.Value) fun r7 => ?_
  refine tb (x := (vi a0.Prio)) (rfl) ?_
  refine tb (x := (vb (decide (a0.Prio < 0)))) (d_lss) ?_
  refine tg_f (x := V.any) (fun h10 => rfl) ?_
  refine tg_f (x := (vi a0.Prio)) (fun h12 => bind_some_eq (gate_pos (not_t h12) (rfl))) ?_
  refine tg_f (x := (vb (decide (99 < a0.Prio)))) (fun h15 => by simp only [gv_t h15]; exact bind_some_eq (d_gtr)) ?_
  refine tb (x := (vb ((decide (a0.Prio < 0)) || (decide (99 < a0.Prio))))) (pick_or (fun h9 => gv_t (not_f h9))) ?_
  refine tg_f (x := V.any) (fun h19 => rfl) ?_
  refine tg_f (x := (vi a0.Out)) (fun h21 => bind_some_eq (gate_pos (not_t h21) (rfl))) ?_
  refine tg_f (x := (vb (decide (a0.Out < 0)))) (fun h24 => by simp only [gv_t h24]; exact bind_some_eq (d_lss)) ?_
  refine tb (x := (vb (((decide (a0.Prio < 0)) || (decide (99 < a0.Prio))) || (decide (a0.Out < 0))))) (pick_or (fun h9 => gv_t (not_f h9))) ?_
  refine tg_f (x := V.any) (fun h28 => rfl) ?_
  refine tg_f (x := (vi a0.Out)) (fun h30 => bind_some_eq (gate_pos (not_t h30) (rfl))) ?_
  refine tg_f (x := (vb (decide (4 < a0.Out)))) (fun h33 => by simp only [gv_t h33]; exact bind_some_eq (d_gtr)) ?_
  refine tb (x := (vb ((((decide (a0.Prio < 0)) || (decide (99 < a0.Prio))) || (decide (a0.Out < 0))) || (decide (4 < a0.Out))))) (pick_or (fun h9 => gv_t (not_f h9))) ?_
  refine tg_f (x := (vb r4)) (fun h37 => rfl) ?_
  refine tg_f (x := (vb (!r4))) (fun h39 => by simp only [gv_t h39]; exact bind_some_eq (d_not)) ?_
  refine tb (x := (vb (((((decide (a0.Prio < 0)) || (decide (99 < a0.Prio))) || (decide (a0.Out < 0))) || (decide (4 < a0.Out))) || (!r4)))) (pick_or (fun h9 => gv_t (not_f h9))) ?_
  refine tg_f (x := (vb r7)) (fun h43 => rfl) ?_
  refine tg_f (x := (vb (!r7))) (fun h45 => by simp only [gv_t h45]; exact bind_some_eq (d_not)) ?_
  refine tb (x := (vb ((((((decide (a0.Prio < 0)) || (decide (99 < a0.Prio))) || (decide (a0.Out < 0))) || (decide (4 < a0.Out))) || (!r4)) || (!r7)))) (pick_or (fun h9 => gv_t (not_f h9))) ?_
  refine tcond (fun h49 => ?_) (fun h49 => ?_)
  · exact rf_ret rfl
  · refine tb (x := (T_Cube.e a0.Cube)) (rfl) ?_
    refine tbo (ty_railref1_Cube hn a0.Cube) fun r52 => ?_
    refine tb (x := (vb (decide (r52 ≠ 0)))) (d_neq) ?_
    refine tcond (fun h54 => ?_) (fun h54 => ?_)
    · exact rf_ret rfl
    · refine tb (x := (vi a0.Set)) (rfl) ?_
      refine tb (x := (vi a0.Value)) (rfl) ?_
      refine tb (x := (T_Cube.e (T_Cube.mk a0.Set a0.Value))) (by kernel_rfl) ?_
      refine tbo (ty_railref1_Cube hn (T_Cube.mk a0.Set a0.Value)) fun r59 => ?_
      refine tb (x := (vb (decide (r59 ≠ 0)))) (d_neq) ?_
      refine tg_f (x := V.any) (fun h61 => rfl) ?_
      refine tg_f (x := (vi a0.Out)) (fun h63 => bind_some_eq (gate_pos (not_t h63) (rfl))) ?_
      refine tg_f (x := (vb (decide (a0.Out = 0)))) (fun h66 => by simp only [gv_t h66]; exact bind_some_eq (d_eql)) ?_
      refine tg_f (x := (vb (decide (a0.Out = 0)))) (fun h69 => congrArg some (gv_t h69)) ?_
      refine tg2 (x := V.any) (fun h71 => rfl) ?_
      refine tg2 (x := (vi a0.Set)) (fun h73 => bind_some_eq (gate_pos2 (and_l h73) (and_r h73) (rfl))) ?_
      refine tg2 (x := (vb (decide (a0.Set ≠ 0)))) (fun h76 => by simp only [gv_t h76]; exact bind_some_eq (d_neq)) ?_
      refine tg_f (x := (vb ((decide (a0.Out = 0)) && (decide (a0.Set ≠ 0))))) (fun h79 => by simp only [gv_t h79]; exact bind_some_eq (pick_and (fun h9 => gv_t (and_i h79 h9)))) ?_
      refine tb (x := (vb ((decide (r59 ≠ 0)) || ((decide (a0.Out = 0)) && (decide (a0.Set ≠ 0)))))) (pick_or (fun h9 => gv_t (not_f h9))) ?_
      refine tcond (fun h83 => ?_) (fun h83 => ?_)
      · exact rf_ret rfl
      · exact rf_ret rfl

/-! railpoint/cube.Header -/
def an_cube_Header : Ann := .seq (.reg 0 [] [] []) (.seq (.reg 0 [] [] []) (.no))
noncomputable def sem_cube_Header (n : Nat) (xs : List V) : Option V := if xs.length ≤ 9 then denF Tryz.prog (envOf []) n Tryz.f35 an_cube_Header xs else none
theorem ok_cube_Header (n : Nat) : SemOk Tryz.prog DW 35 (sem_cube_Header n) := fun xs y h => by
  unfold sem_cube_Header at h
  split at h
  · rename_i hl
    exact denF_ok stb Tryz.func35 (by kernel_rfl) (envOf_ok semsOk_nil) (by rw [Tryz.ntmps35]; exact hl) h
  · cases h
theorem eq_cube_Header (n : Nat) (x0 : V) : sem_cube_Header n [x0] =
 (bin2 Tryz.prog BinOp.geq 3 (ot 3) (oc 0) x0 (vi 0)).bind fun v1 =>
 (guardV v1 true (some x0)).bind fun v2 =>
 (guardV v1 true ((bin2 Tryz.prog BinOp.lss 3 (ot 6) (oc 16) v2 (vi 16)).bind fun v3 =>
 some v3)).bind fun v4 =>
 (pickV v1 v4 (vb false)).bind fun v5 =>
 some v5 := by kernel_rfl
noncomputable def t_cube_Header (a0 : Int) : Option Bool :=
 some ((decide (0 ≤ a0)) && (decide (a0 < 16)))
theorem ty_cube_Header {n : Nat} (hn : bigN ≤ n) (a0 : Int) : Rv (fun x : Bool => (vb x)) (sem_cube_Header n [(vi a0)]) (t_cube_Header a0) := by
  rw [eq_cube_Header]
  unfold t_cube_Header
  refine tb (x := (vb (decide (0 ≤ a0)))) (d_geq) ?_
  refine tg (x := (vi a0)) (fun h2 => rfl) ?_
  refine tg (x := (vb (decide (a0 < 16)))) (fun h4 => by simp only [gv_t h4]; exact bind_some_eq (d_lss)) ?_
  refine tb (x := (vb ((decide (0 ≤ a0)) && (decide (a0 < 16))))) (pick_and (fun h9 => gv_t h9)) ?_
  exact rf_ret rfl

/-! railpoint/cube.Check -/
def an_cube_Check : Ann := .seq (.reg 0 [] [] []) (.seq (.blk none (.seq (.reg 0 [] [] []) (.cond none (.seq (.reg 0 [] [] []) (.no)) (.seq (.reg 0 [] [] []) (.cond none (.seq (.reg 0 [] [] []) (.no)) (.no)))))) (.seq (.reg 0 [] [] []) (.no)))
noncomputable def sem_cube_Check (n : Nat) (xs : List V) : Option V := if xs.length ≤ 23 then denF Tryz.prog (envOf [(35, (sem_cube_Header n))]) n Tryz.f36 an_cube_Check xs else none
theorem ok_cube_Check (n : Nat) : SemOk Tryz.prog DW 36 (sem_cube_Check n) := fun xs y h => by
  unfold sem_cube_Check at h
  split at h
  · rename_i hl
    exact denF_ok stb Tryz.func36 (by kernel_rfl) (envOf_ok (semsOk_cons (ok_cube_Header n) semsOk_nil)) (by rw [Tryz.ntmps36]; exact hl) h
  · cases h
theorem eq_cube_Check (n : Nat) (x0 : V) : sem_cube_Check n [x0] =
 (V.cellsO x0).bind fun v1 =>
 (ldk none (List.drop 0 v1)).bind fun v2 =>
 ((sem_cube_Header n) [v2]).bind fun v3 =>
 (scal1 Tryz.prog (Op.unary Go.UnOp.not) v3).bind fun v4 =>
 (guardV v4 false (some V.any)).bind fun v5 =>
 (guardV v4 false ((gate v4 false (ldk none (List.drop 1 v1))).bind fun v6 =>
 some v6)).bind fun v7 =>
 (guardV v4 false (((sem_cube_Header n) [v7]).bind fun v8 =>
 some v8)).bind fun v9 =>
 (guardV v4 false ((scal1 Tryz.prog (Op.unary Go.UnOp.not) v9).bind fun v10 =>
 some v10)).bind fun v11 =>
 (pickV v4 (vb true) v11).bind fun v12 =>
 condV v12 (
 (scal1 Tryz.prog (Instr.makeInterface 86) (vi 1)).bind fun v13 =>
 some v13) (
 (ldk none (List.drop 1 v1)).bind fun v14 =>
 (ldk none (List.drop 0 v1)).bind fun v15 =>
 (bin2 Tryz.prog BinOp.andNot 3 (ot 17) (ot 19) v14 v15).bind fun v16 =>
 (bin2 Tryz.prog BinOp.neq 3 (ot 20) (oc 0) v16 (vi 0)).bind fun v17 =>
 condV v17 (
 (scal1 Tryz.prog (Instr.makeInterface 86) (vi 3)).bind fun v18 =>
 some v18) (
 some vn)) := by kernel_rfl
noncomputable def t_cube_Check (a0 : T_Cube) : Option Int :=
 (t_cube_Header a0.Mask).bind fun r4 =>
 (gd (!(!r4)) default (t_cube_Header a0.Bits)).bind fun r14 =>
 if ((!r4) || (!r14)) = true then (
 some 1) else (
 if (decide ((bits .andNot .i64 a0.Bits a0.Mask) ≠ 0)) = true then (
 some 3) else (
 some 0))
theorem ty_cube_Check {n : Nat} (hn : bigN ≤ n) (a0 : T_Cube) : Rv (fun x : Int => (eV x)) (sem_cube_Check n [(T_Cube.e a0)]) (t_cube_Check a0) := by
  rw [eq_cube_Check]
  unfold t_cube_Check
  refine tb (x := (T_Cube.c a0)) rfl ?_
  refine tb (x := (vi a0.Mask)) (rfl) ?_
  refine tbo (ty_cube_Header hn a0.Mask) fun r4 => ?_
  refine tb (x := (vb (!r4))) (d_not) ?_
  refine tg_f (x := V.any) (fun h6 => rfl) ?_
  refine tg_f (x := (vi a0.Bits)) (fun h8 => bind_some_eq (gate_pos (not_t h8) (rfl))) ?_
  refine tgo_f (fun h11 => by simp only [gv_t h11]; exact rf_bind_some (ty_cube_Header hn a0.Bits)) fun r14 => ?_
  refine tg_f (x := (vb (!r14))) (fun h15 => by simp only [gv_t h15]; exact bind_some_eq (d_not)) ?_
  refine tb (x := (vb ((!r4) || (!r14)))) (pick_or (fun h9 => gv_t (not_f h9))) ?_
  refine tcond (fun h19 => ?_) (fun h19 => ?_)
  · refine tb (x := (eV 1)) (p_mkE (by decide)) ?_
    exact rf_ret rfl
  · refine tb (x := (vi a0.Bits)) (rfl) ?_
    refine tb (x := (vi a0.Mask)) (rfl) ?_
    refine tb (x := (vi (bits .andNot .i64 a0.Bits a0.Mask))) (d_andNot) ?_
    refine tb (x := (vb (decide ((bits .andNot .i64 a0.Bits a0.Mask) ≠ 0)))) (d_neq) ?_
    refine tcond (fun h25 => ?_) (fun h25 => ?_)
    · refine tb (x := (eV 3)) (p_mkE (by decide)) ?_
      exact rf_ret rfl
    · exact rf_ret rfl

/-! railpoint/rule.Check -/
def an_rule_Check : Ann := .seq (.reg 0 [] [] []) (.seq (.seq (.reg 0 [] [] []) (.cond none (.seq (.reg 0 [] [] []) (.no)) (.no))) (.seq (.seq (.reg 0 [] [] []) (.seq (.reg 0 [] [] []) (.cond none (.seq (.reg 0 [] [] []) (.no)) (.no)))) (.seq (.seq (.reg 0 [] [] []) (.cond none (.seq (.reg 0 [] [] []) (.no)) (.no))) (.seq (.reg 0 [] [] []) (.no)))))
noncomputable def sem_rule_Check (n : Nat) (xs : List V) : Option V := if xs.length ≤ 58 then denF Tryz.prog (envOf [(35, (sem_cube_Header n)), (36, (sem_cube_Check n))]) n Tryz.f7 an_rule_Check xs else none
theorem ok_rule_Check (n : Nat) : SemOk Tryz.prog DW 7 (sem_rule_Check n) := fun xs y h => by
  unfold sem_rule_Check at h
  split at h
  · rename_i hl
    exact denF_ok stb Tryz.func7 (by kernel_rfl) (envOf_ok (semsOk_cons (ok_cube_Header n) (semsOk_cons (ok_cube_Check n) semsOk_nil))) (by rw [Tryz.ntmps7]; exact hl) h
  · cases h
theorem eq_rule_Check (n : Nat) (x0 : V) : sem_rule_Check n [x0] =
 (V.cellsO x0).bind fun v1 =>
 (ldk none (List.drop 0 v1)).bind fun v2 =>
 (bin2 Tryz.prog BinOp.lss 3 (ot 5) (oc 0) v2 (vi 0)).bind fun v3 =>
 (guardV v3 false (some V.any)).bind fun v4 =>
 (guardV v3 false ((gate v3 false (ldk none (List.drop 0 v1))).bind fun v5 =>
 some v5)).bind fun v6 =>
 (guardV v3 false ((bin2 Tryz.prog BinOp.gtr 3 (ot 9) (oc 99) v6 (vi 99)).bind fun v7 =>
 some v7)).bind fun v8 =>
 (pickV v3 (vb true) v8).bind fun v9 =>
 (guardV v9 false (some V.any)).bind fun v10 =>
 (guardV v9 false ((gate v9 false (ldk none (List.drop 3 v1))).bind fun v11 =>
 some v11)).bind fun v12 =>
 (guardV v9 false ((bin2 Tryz.prog BinOp.lss 3 (ot 14) (oc 0) v12 (vi 0)).bind fun v13 =>
 some v13)).bind fun v14 =>
 (pickV v9 (vb true) v14).bind fun v15 =>
 (guardV v15 false (some V.any)).bind fun v16 =>
 (guardV v15 false ((gate v15 false (ldk none (List.drop 3 v1))).bind fun v17 =>
 some v17)).bind fun v18 =>
 (guardV v15 false ((bin2 Tryz.prog BinOp.gtr 3 (ot 19) (oc 4) v18 (vi 4)).bind fun v19 =>
 some v19)).bind fun v20 =>
 (pickV v15 (vb true) v20).bind fun v21 =>
 (guardV v21 false (some V.any)).bind fun v22 =>
 (guardV v21 false ((gate v21 false (ldk none (List.drop 4 v1))).bind fun v23 =>
 some v23)).bind fun v24 =>
 (guardV v21 false (((sem_cube_Header n) [v24]).bind fun v25 =>
 some v25)).bind fun v26 =>
 (guardV v21 false ((scal1 Tryz.prog (Op.unary Go.UnOp.not) v26).bind fun v27 =>
 some v27)).bind fun v28 =>
 (pickV v21 (vb true) v28).bind fun v29 =>
 (guardV v29 false (some V.any)).bind fun v30 =>
 (guardV v29 false ((gate v29 false (ldk none (List.drop 5 v1))).bind fun v31 =>
 some v31)).bind fun v32 =>
 (guardV v29 false (((sem_cube_Header n) [v32]).bind fun v33 =>
 some v33)).bind fun v34 =>
 (guardV v29 false ((scal1 Tryz.prog (Op.unary Go.UnOp.not) v34).bind fun v35 =>
 some v35)).bind fun v36 =>
 (pickV v29 (vb true) v36).bind fun v37 =>
 condV v37 (
 (scal1 Tryz.prog (Instr.makeInterface 86) (vi 1)).bind fun v38 =>
 some v38) (
 (ldk (some 2) (List.drop 1 v1)).bind fun v39 =>
 ((sem_cube_Check n) [v39]).bind fun v40 =>
 (bin2 Tryz.prog BinOp.neq 31 (ot 38) (Operand.const Go.Value.nilIface) v40 vn).bind fun v41 =>
 condV v41 (
 some v40) (
 (ldk none (List.drop 5 v1)).bind fun v42 =>
 (ldk none (List.drop 4 v1)).bind fun v43 =>
 (bin2 Tryz.prog BinOp.andNot 3 (ot 42) (ot 44) v42 v43).bind fun v44 =>
 (bin2 Tryz.prog BinOp.neq 3 (ot 45) (oc 0) v44 (vi 0)).bind fun v45 =>
 (guardV v45 false (some V.any)).bind fun v46 =>
 (guardV v45 false ((gate v45 false (ldk none (List.drop 3 v1))).bind fun v47 =>
 some v47)).bind fun v48 =>
 (guardV v45 false ((bin2 Tryz.prog BinOp.eql 3 (ot 49) (oc 0) v48 (vi 0)).bind fun v49 =>
 some v49)).bind fun v50 =>
 (guardV v45 false (some v50)).bind fun v51 =>
 (guardV v51 true (some V.any)).bind fun v52 =>
 (guardV v51 true ((gate v51 true (ldk none (List.drop 4 v1))).bind fun v53 =>
 some v53)).bind fun v54 =>
 (guardV v51 true ((bin2 Tryz.prog BinOp.neq 3 (ot 53) (oc 0) v54 (vi 0)).bind fun v55 =>
 some v55)).bind fun v56 =>
 (guardV v45 false ((pickV v51 v56 (vb false)).bind fun v57 =>
 some v57)).bind fun v58 =>
 (pickV v45 (vb true) v58).bind fun v59 =>
 condV v59 (
 (scal1 Tryz.prog (Instr.makeInterface 86) (vi 3)).bind fun v60 =>
 some v60) (
 some vn))) := by kernel_rfl
noncomputable def t_rule_Check (a0 : T_Rule) : Option Int :=
 (gd (!((((decide (a0.Prio < 0)) || (decide (99 < a0.Prio))) || (decide (a0.Out < 0))) || (decide (4 < a0.Out)))) default (t_cube_Header a0.Set)).bind fun r39 =>
 (gd (!(((((decide (a0.Prio < 0)) || (decide (99 < a0.Prio))) || (decide (a0.Out < 0))) || (decide (4 < a0.Out))) || (!r39))) default (t_cube_Header a0.Value)).bind fun r52 =>
 if ((((((decide (a0.Prio < 0)) || (decide (99 < a0.Prio))) || (decide (a0.Out < 0))) || (decide (4 < a0.Out))) || (!r39)) || (!r52)) = true then (
 some 1) else (
 (t_cube_Check a0.Cube).bind fun r61 =>
 if (!decide (r61 = 0)) = true then (
 some r61) else (
 if ((decide ((bits .andNot .i64 a0.Value a0.Set) ≠ 0)) || ((decide (a0.Out = 0)) && (decide (a0.Set ≠ 0)))) = true then (
 some 3) else (
 some 0)))
theorem ty_rule_Check {n : Nat} (hn : bigN ≤ n) (a0 : T_Rule) : Rv (fun x : Int => (eV x)) (sem_rule_Check n [(T_Rule.e a0)]) (t_rule_Check a0) := by
  rw [eq_rule_Check]
  unfold t_rule_Check
  refine tb (x := (T_Rule.c a0)) rfl ?_
  refine tb (x := (vi a0.Prio)) (rfl) ?_
  refine tb (x := (vb (decide (a0.Prio < 0)))) (d_lss) ?_
  refine tg_f (x := V.any) (fun h4 => rfl) ?_
  refine tg_f (x := (vi a0.Prio)) (fun h6 => bind_some_eq (gate_pos (not_t h6) (rfl))) ?_
  refine tg_f (x := (vb (decide (99 < a0.Prio)))) (fun h9 => by simp only [gv_t h9]; exact bind_some_eq (d_gtr)) ?_
  refine tb (x := (vb ((decide (a0.Prio < 0)) || (decide (99 < a0.Prio))))) (pick_or (fun h9 => gv_t (not_f h9))) ?_
  refine tg_f (x := V.any) (fun h13 => rfl) ?_
  refine tg_f (x := (vi a0.Out)) (fun h15 => bind_some_eq (gate_pos (not_t h15) (rfl))) ?_
  refine tg_f (x := (vb (decide (a0.Out < 0)))) (fun h18 => by simp only [gv_t h18]; exact bind_some_eq (d_lss)) ?_
  refine tb (x := (vb (((decide (a0.Prio < 0)) || (decide (99 < a0.Prio))) || (decide (a0.Out < 0))))) (pick_or (fun h9 => gv_t (not_f h9))) ?_
  refine tg_f (x := V.any) (fun h22 => rfl) ?_
  refine tg_f (x := (vi a0.Out)) (fun h24 => bind_some_eq (gate_pos (not_t h24) (rfl))) ?_
  refine tg_f (x := (vb (decide (4 < a0.Out)))) (fun h27 => by simp only [gv_t h27]; exact bind_some_eq (d_gtr)) ?_
  refine tb (x := (vb ((((decide (a0.Prio < 0)) || (decide (99 < a0.Prio))) || (decide (a0.Out < 0))) || (decide (4 < a0.Out))))) (pick_or (fun h9 => gv_t (not_f h9))) ?_
  refine tg_f (x := V.any) (fun h31 => rfl) ?_
  refine tg_f (x := (vi a0.Set)) (fun h33 => bind_some_eq (gate_pos (not_t h33) (rfl))) ?_
  refine tgo_f (fun h36 => by simp only [gv_t h36]; exact rf_bind_some (ty_cube_Header hn a0.Set)) fun r39 => ?_
  refine tg_f (x := (vb (!r39))) (fun h40 => by simp only [gv_t h40]; exact bind_some_eq (d_not)) ?_
  refine tb (x := (vb (((((decide (a0.Prio < 0)) || (decide (99 < a0.Prio))) || (decide (a0.Out < 0))) || (decide (4 < a0.Out))) || (!r39)))) (pick_or (fun h9 => gv_t (not_f h9))) ?_
  refine tg_f (x := V.any) (fun h44 => rfl) ?_
  refine tg_f (x := (vi a0.Value)) (fun h46 => bind_some_eq (gate_pos (not_t h46) (rfl))) ?_
  refine tgo_f (fun h49 => by simp only [gv_t h49]; exact rf_bind_some (ty_cube_Header hn a0.Value)) fun r52 => ?_
  refine tg_f (x := (vb (!r52))) (fun h53 => by simp only [gv_t h53]; exact bind_some_eq (d_not)) ?_
  refine tb (x := (vb ((((((decide (a0.Prio < 0)) || (decide (99 < a0.Prio))) || (decide (a0.Out < 0))) || (decide (4 < a0.Out))) || (!r39)) || (!r52)))) (pick_or (fun h9 => gv_t (not_f h9))) ?_
  refine tcond (fun h57 => ?_) (fun h57 => ?_)
  · refine tb (x := (eV 1)) (p_mkE (by decide)) ?_
    exact rf_ret rfl
  · refine tb (x := (T_Cube.e a0.Cube)) (rfl) ?_
    refine tbo (ty_cube_Check hn a0.Cube) fun r61 => ?_
    refine tb (x := (vb (!decide (r61 = 0)))) (p_err_neq _) ?_
    refine tcond (fun h63 => ?_) (fun h63 => ?_)
    · exact rf_ret rfl
    · refine tb (x := (vi a0.Value)) (rfl) ?_
      refine tb (x := (vi a0.Set)) (rfl) ?_
      refine tb (x := (vi (bits .andNot .i64 a0.Value a0.Set))) (d_andNot) ?_
      refine tb (x := (vb (decide ((bits .andNot .i64 a0.Value a0.Set) ≠ 0)))) (d_neq) ?_
      refine tg_f (x := V.any) (fun h68 => rfl) ?_
      refine tg_f (x := (vi a0.Out)) (fun h70 => bind_some_eq (gate_pos (not_t h70) (rfl))) ?_
      refine tg_f (x := (vb (decide (a0.Out = 0)))) (fun h73 => by simp only [gv_t h73]; exact bind_some_eq (d_eql)) ?_
      refine tg_f (x := (vb (decide (a0.Out = 0)))) (fun h76 => congrArg some (gv_t h76)) ?_
      refine tg2 (x := V.any) (fun h78 => rfl) ?_
      refine tg2 (x := (vi a0.Set)) (fun h80 => bind_some_eq (gate_pos2 (and_l h80) (and_r h80) (rfl))) ?_
      refine tg2 (x := (vb (decide (a0.Set ≠ 0)))) (fun h83 => by simp only [gv_t h83]; exact bind_some_eq (d_neq)) ?_
      refine tg_f (x := (vb ((decide (a0.Out = 0)) && (decide (a0.Set ≠ 0))))) (fun h86 => by simp only [gv_t h86]; exact bind_some_eq (pick_and (fun h9 => gv_t (and_i h86 h9)))) ?_
      refine tb (x := (vb ((decide ((bits .andNot .i64 a0.Value a0.Set) ≠ 0)) || ((decide (a0.Out = 0)) && (decide (a0.Set ≠ 0)))))) (pick_or (fun h9 => gv_t (not_f h9))) ?_
      refine tcond (fun h90 => ?_) (fun h90 => ?_)
      · refine tb (x := (eV 3)) (p_mkE (by decide)) ?_
        exact rf_ret rfl
      · exact rf_ret rfl

/-! railpoint/railref1.bit -/
def an_railref1_bit : Ann := .seq (.reg 0 [] [] []) (.seq (.seq (.reg 0 [] [] []) (.blk (some [.s 0]) (.loop [.s 0, .s 5] (.seq (.seq (.reg 0 [] [] []) (.cond none (.no) (.no))) (.seq (.blk none (.reg 0 [] [] [])) (.reg 0 [] [] [])))))) (.seq (.reg 0 [] [] []) (.no)))
noncomputable def sem_railref1_bit (n : Nat) (xs : List V) : Option V := if xs.length ≤ 16 then denF Tryz.prog (envOf []) n Tryz.f46 an_railref1_bit xs else none
theorem ok_railref1_bit (n : Nat) : SemOk Tryz.prog DW 46 (sem_railref1_bit n) := fun xs y h => by
  unfold sem_railref1_bit at h
  split at h
  · rename_i hl
    exact denF_ok stb Tryz.func46 (by kernel_rfl) (envOf_ok semsOk_nil) (by rw [Tryz.ntmps46]; exact hl) h
  · cases h
theorem eq_railref1_bit (n : Nat) (x0 x1 : V) : sem_railref1_bit n [x0, x1] =
 JoinPt (fun vs1 =>
 (bin2 Tryz.prog BinOp.rem 3 (ot 13) (oc 2) (List.getD vs1 0 V.any) (vi 2)).bind fun v3 =>
 (bin2 Tryz.prog BinOp.eql 3 (ot 14) (oc 1) v3 (vi 1)).bind fun v4 =>
 some v4) fun J2 =>
 (fixN (fun rec5 vs6 =>
 (bin2 Tryz.prog BinOp.lss 3 (ot 6) (ot 7) (List.getD vs6 1 V.any) x1).bind fun v7 =>
 condV v7 (
 (bin2 Tryz.prog BinOp.quo 3 (ot 11) (oc 2) (List.getD vs6 0 V.any) (vi 2)).bind fun v8 =>
 (bin2 Tryz.prog BinOp.add 3 (ot 9) (oc 1) (List.getD vs6 1 V.any) (vi 1)).bind fun v9 =>
 rec5 [v8, v9]) (
 J2 [(List.getD vs6 0 V.any)])) n) [x0, (vi 0)] := by kernel_rfl
noncomputable def t_railref1_bit (a0 : Int) (a1 : Int) : Option Bool :=
 (loopU 0 a1 (fun (i14 : Int) (s10 : Int) k11 =>
 k11 (wr (Int.tdiv s10 2))) (fun (i14 : Int) (s10 : Int) =>
 some (s10)) (a0)).bind fun (s3 : Int) =>
 some (decide ((Int.tmod s3 2) = 1))
theorem ty_railref1_bit {n : Nat} (hn : bigN ≤ n) (a0 : Int) (a1 : Int) : Rv (fun x : Bool => (vb x)) (sem_railref1_bit n [(vi a0), (vi a1)]) (t_railref1_bit a0 a1) := by
  rw [eq_railref1_bit]
  unfold t_railref1_bit
  refine tjb (mk := fun s3 : Int => [(vi s3)]) (fun J2 => ?_) fun s3 => ?_
  · refine rf_loopU (mk := fun (i14 : Int) (s10 : Int) => [(vi s10), (vi i14)]) hn _ _ (a0) (fun i14 h15 h16 h17 s10 rec8 k11 h12 => ?_) (fun i14 s10 rec19 h18 => ?_)
    · refine tb (x := (vb (decide (i14 < a1)))) (d_lss) ?_
      refine tcond_t h15 ?_
      refine tb (x := (vi (wr (Int.tdiv s10 2)))) (p_quo (by decide)) ?_
      refine tb (x := (vi (i14 + 1))) (p_inc h16 h17) ?_
      exact h12 (wr (Int.tdiv s10 2))
    · refine tb (x := (vb (decide (i14 < a1)))) (d_lss) ?_
      refine tcond_f h18 ?_
      exact rf_j rfl
  · refine tb (x := (vi (Int.tmod s3 2))) (p_rem (by decide)) ?_
    refine tb (x := (vb (decide ((Int.tmod s3 2) = 1)))) (d_eql) ?_
    exact rf_ret rfl

/-! railpoint/railref1.ShowCube -/
def an_railref1_ShowCube : Ann := .seq (.reg 0 [] [] []) (.seq (.reg 0 [] [] []) (.seq (.seq (.reg 0 [] [] []) (.blk (some [.s 3]) (.loop [.kb 1, .s 3, .s 4] (.seq (.seq (.reg 0 [] [] []) (.cond none (.no) (.no))) (.seq (.blk none (.seq (.reg 0 [] [] []) (.seq (.reg 0 [] [] []) (.seq (.reg 0 [] [] []) (.cond (some [.kb 1, .s 3]) (.reg 0 [] [] []) (.seq (.reg 0 [] [] []) (.cond (some [.kb 1, .s 3]) (.reg 0 [] [] []) (.reg 0 [] [] [])))))))) (.reg 0 [] [] [])))))) (.seq (.reg 0 [] [] []) (.no))))
noncomputable def sem_railref1_ShowCube (n : Nat) (xs : List V) : Option V := if xs.length ≤ 29 then denF Tryz.prog (envOf [(46, (sem_railref1_bit n))]) n Tryz.f38 an_railref1_ShowCube xs else none
theorem ok_railref1_ShowCube (n : Nat) : SemOk Tryz.prog DW 38 (sem_railref1_ShowCube n) := fun xs y h => by
  unfold sem_railref1_ShowCube at h
  split at h
  · rename_i hl
    exact denF_ok stb Tryz.func38 (by kernel_rfl) (envOf_ok (semsOk_cons (ok_railref1_bit n) semsOk_nil)) (by rw [Tryz.ntmps38]; exact hl) h
  · cases h
theorem eq_railref1_ShowCube (n : Nat) (x0 : V) : sem_railref1_ShowCube n [x0] =
 (V.cellsO x0).bind fun v1 =>
 JoinPt (fun vs2 =>
 some (List.getD vs2 0 V.any)) fun J3 =>
 (keepO (some v1) (some v1) (some [(V.lit (Go.Value.string (ByteArray.mk #[]))), (vi 3)])).bind (fixN (fun rec4 vs5 =>
 (bin2 Tryz.prog BinOp.geq 3 (ot 7) (oc 0) (List.getD vs5 1 V.any) (vi 0)).bind fun v6 =>
 condV v6 (
 (ldk none (List.drop 0 v1)).bind fun v7 =>
 ((sem_railref1_bit n) [v7, (List.getD vs5 1 V.any)]).bind fun v8 =>
 (ldk none (List.drop 1 v1)).bind fun v9 =>
 ((sem_railref1_bit n) [v9, (List.getD vs5 1 V.any)]).bind fun v10 =>
 (scal1 Tryz.prog (Op.unary Go.UnOp.not) v8).bind fun v11 =>
 JoinPt (fun vs12 =>
 (bin2 Tryz.prog BinOp.sub 3 (ot 9) (oc 1) (List.getD vs5 1 V.any) (vi 1)).bind fun v14 =>
 (keepO (some v1) (some v1) (some [(List.getD vs12 0 V.any), v14])).bind rec4) fun J13 =>
 condV v11 (
 (bin2 Tryz.prog BinOp.add 9 (ot 21) (Operand.const (Go.Value.string (ByteArray.mk #[42]))) (List.getD vs5 0 V.any) (V.lit (Go.Value.string (ByteArray.mk #[42])))).bind fun v15 =>
 (keepO (some v1) (some v1) (some [v15])).bind J13) (
 JoinPt (fun vs16 =>
 (keepO (some v1) (some v1) (some [(List.getD vs16 0 V.any)])).bind J13) fun J17 =>
 condV v10 (
 (bin2 Tryz.prog BinOp.add 9 (ot 24) (Operand.const (Go.Value.string (ByteArray.mk #[49]))) (List.getD vs5 0 V.any) (V.lit (Go.Value.string (ByteArray.mk #[49])))).bind fun v18 =>
 (keepO (some v1) (some v1) (some [v18])).bind J17) (
 (bin2 Tryz.prog BinOp.add 9 (ot 26) (Operand.const (Go.Value.string (ByteArray.mk #[48]))) (List.getD vs5 0 V.any) (V.lit (Go.Value.string (ByteArray.mk #[48])))).bind fun v19 =>
 (keepO (some v1) (some v1) (some [v19])).bind J17))) (
 J3 [(List.getD vs5 0 V.any)])) n) := by kernel_rfl
noncomputable def t_railref1_ShowCube (a0 : T_Cube) : Option ByteArray :=
 (tfix (fun k10 (s9 : (ByteArray × Int)) =>
 if (decide (0 ≤ s9.2)) = true then (
 (t_railref1_bit a0.Mask s9.2).bind fun r18 =>
 (t_railref1_bit a0.Bits s9.2).bind fun r21 =>
 (if (!r18) = true then (
 need (decide ((s9.1.size : Int) + (ByteArray.mk #[42]).size ≤ maxI)) (
 some (s9.1 ++ (ByteArray.mk #[42])))) else (
 (if r21 = true then (
 need (decide ((s9.1.size : Int) + (ByteArray.mk #[49]).size ≤ maxI)) (
 some (s9.1 ++ (ByteArray.mk #[49])))) else (
 need (decide ((s9.1.size : Int) + (ByteArray.mk #[48]).size ≤ maxI)) (
 some (s9.1 ++ (ByteArray.mk #[48]))))).bind fun (s34 : ByteArray) =>
 some (s34))).bind fun (s25 : ByteArray) =>
 k10 (s25, (wr (s9.2 - 1)))) else (
 some (s9.1))) bigN ((ByteArray.mk #[]), 3)).bind fun (s4 : ByteArray) =>
 some s4
theorem ty_railref1_ShowCube {n : Nat} (hn : bigN ≤ n) (a0 : T_Cube) : Rv (fun x : ByteArray => (vt x)) (sem_railref1_ShowCube n [(T_Cube.e a0)]) (t_railref1_ShowCube a0) := by
  rw [eq_railref1_ShowCube]
  unfold t_railref1_ShowCube
  refine tb (x := (T_Cube.c a0)) rfl ?_
  refine tjb (mk := fun s4 : ByteArray => [(vt s4)]) (fun J3 => ?_) fun s4 => ?_
  · refine tkeepO2 ?_ rfl
    refine tsome ?_
    refine rf_fixN (mk := fun (s9 : (ByteArray × Int)) => [(vt s9.1), (vi s9.2)]) hn ((ByteArray.mk #[]), 3) (fun rec7 k10 h11 s9 => ?_)
    refine tb (x := (vb (decide (0 ≤ s9.2)))) (d_geq) ?_
    refine tcond (fun h15 => ?_) (fun h15 => ?_)
    · refine tb (x := (vi a0.Mask)) (rfl) ?_
      refine tbo (ty_railref1_bit hn a0.Mask s9.2) fun r18 => ?_
      refine tb (x := (vi a0.Bits)) (rfl) ?_
      refine tbo (ty_railref1_bit hn a0.Bits s9.2) fun r21 => ?_
      refine tb (x := (vb (!r18))) (d_not) ?_
      refine tjb (mk := fun s25 : ByteArray => [(vt s25)]) (fun J24 => ?_) fun s25 => ?_
      · refine tcond (fun h29 => ?_) (fun h29 => ?_)
        · refine tneed (x := (vt (s9.1 ++ (ByteArray.mk #[42])))) (fun h31 => p_add_str h31) fun h31 => ?_
          refine tkeepO2 ?_ rfl
          refine tsome ?_
          exact rf_j rfl
        · refine tjb (mk := fun s34 : ByteArray => [(vt s34)]) (fun J33 => ?_) fun s34 => ?_
          · refine tcond (fun h37 => ?_) (fun h37 => ?_)
            · refine tneed (x := (vt (s9.1 ++ (ByteArray.mk #[49])))) (fun h39 => p_add_str h39) fun h39 => ?_
              refine tkeepO2 ?_ rfl
              refine tsome ?_
              exact rf_j rfl
            · refine tneed (x := (vt (s9.1 ++ (ByteArray.mk #[48])))) (fun h41 => p_add_str h41) fun h41 => ?_
              refine tkeepO2 ?_ rfl
              refine tsome ?_
              exact rf_j rfl
          · refine tkeepO2 ?_ rfl
            refine tsome ?_
            exact rf_j rfl
      · refine tb (x := (vi (wr (s9.2 - 1)))) (d_sub) ?_
        refine tkeepO2 ?_ rfl
        refine tsome ?_
        exact h11 (s25, (wr (s9.2 - 1)))
    · exact rf_j rfl
  · exact rf_ret rfl

/-! railpoint/railref1.ShowRule -/
def an_railref1_ShowRule : Ann := .seq (.reg 0 [] [] []) (.seq (.reg 0 [] [] []) (.seq (.reg 0 [] [] []) (.seq (.seq (.reg 0 [] [] []) (.cond none (.seq (.reg 0 [] [] []) (.no)) (.no))) (.seq (.reg 0 [] [] []) (.seq (.reg 0 [] [] []) (.seq (.seq (.reg 0 [] [] []) (.cond (some [.s 6]) (.seq (.reg 0 [] [] []) (.reg 0 [] [] [])) (.no))) (.seq (.reg 0 [] [] []) (.no))))))))
noncomputable def sem_railref1_ShowRule (n : Nat) (xs : List V) : Option V := if xs.length ≤ 45 then denF Tryz.prog (envOf [(37, (sem_Digits)), (38, (sem_railref1_ShowCube n))]) n Tryz.f8 an_railref1_ShowRule xs else none
theorem ok_railref1_ShowRule (n : Nat) : SemOk Tryz.prog DW 8 (sem_railref1_ShowRule n) := fun xs y h => by
  unfold sem_railref1_ShowRule at h
  split at h
  · rename_i hl
    exact denF_ok stb Tryz.func8 (by kernel_rfl) (envOf_ok (semsOk_cons (ok_Digits) (semsOk_cons (ok_railref1_ShowCube n) semsOk_nil))) (by rw [Tryz.ntmps8]; exact hl) h
  · cases h
theorem eq_railref1_ShowRule (n : Nat) (x0 : V) : sem_railref1_ShowRule n [x0] =
 (V.cellsO x0).bind fun v1 =>
 (ldk none (List.drop 0 v1)).bind fun v2 =>
 ((sem_Digits) [v2]).bind fun v3 =>
 (ldk (some 2) (List.drop 1 v1)).bind fun v4 =>
 ((sem_railref1_ShowCube n) [v4]).bind fun v5 =>
 (ldk none (List.drop 3 v1)).bind fun v6 =>
 (bin2 Tryz.prog BinOp.eql 3 (ot 14) (oc 0) v6 (vi 0)).bind fun v7 =>
 condV v7 (
 (bin2 Tryz.prog BinOp.add 9 (ot 16) (Operand.const (Go.Value.string (ByteArray.mk #[32]))) v3 (V.lit (Go.Value.string (ByteArray.mk #[32])))).bind fun v8 =>
 (bin2 Tryz.prog BinOp.add 9 (ot 17) (ot 18) v8 v5).bind fun v9 =>
 (bin2 Tryz.prog BinOp.add 9 (ot 19) (Operand.const (Go.Value.string (ByteArray.mk #[32, 100, 114, 111, 112]))) v9 (V.lit (Go.Value.string (ByteArray.mk #[32, 100, 114, 111, 112])))).bind fun v10 =>
 some v10) (
 (ldk none (List.drop 3 v1)).bind fun v11 =>
 ((sem_Digits) [v11]).bind fun v12 =>
 (bin2 Tryz.prog BinOp.add 9 (ot 24) (Operand.const (Go.Value.string (ByteArray.mk #[32]))) v3 (V.lit (Go.Value.string (ByteArray.mk #[32])))).bind fun v13 =>
 (bin2 Tryz.prog BinOp.add 9 (ot 25) (ot 26) v13 v5).bind fun v14 =>
 (bin2 Tryz.prog BinOp.add 9 (ot 27) (Operand.const (Go.Value.string (ByteArray.mk #[32, 111, 117, 116, 32]))) v14 (V.lit (Go.Value.string (ByteArray.mk #[32, 111, 117, 116, 32])))).bind fun v15 =>
 (bin2 Tryz.prog BinOp.add 9 (ot 28) (ot 29) v15 v12).bind fun v16 =>
 (ldk none (List.drop 4 v1)).bind fun v17 =>
 (bin2 Tryz.prog BinOp.gtr 3 (ot 32) (oc 0) v17 (vi 0)).bind fun v18 =>
 JoinPt (fun vs19 =>
 some (List.getD vs19 0 V.any)) fun J20 =>
 condV v18 (
 (ldk none (List.drop 4 v1)).bind fun v21 =>
 (ldk none (List.drop 5 v1)).bind fun v22 =>
 ((fillL [(vi 0), (vi 0)] [(0, 1, v21), (1, 1, v22)]).map V.agg).bind fun v23 =>
 ((sem_railref1_ShowCube n) [v23]).bind fun v24 =>
 (bin2 Tryz.prog BinOp.add 9 (ot 40) (Operand.const (Go.Value.string (ByteArray.mk #[32, 115, 101, 116, 32]))) v16 (V.lit (Go.Value.string (ByteArray.mk #[32, 115, 101, 116, 32])))).bind fun v25 =>
 (bin2 Tryz.prog BinOp.add 9 (ot 41) (ot 42) v25 v24).bind fun v26 =>
 J20 [v26]) (
 J20 [v16])) := by kernel_rfl
noncomputable def t_railref1_ShowRule (a0 : T_Rule) : Option ByteArray :=
 (t_Digits a0.Prio).bind fun r4 =>
 (t_railref1_ShowCube a0.Cube).bind fun r7 =>
 if (decide (a0.Out = 0)) = true then (
 need (decide ((r4.size : Int) + (ByteArray.mk #[32]).size ≤ maxI)) (
 need (decide (((r4 ++ (ByteArray.mk #[32])).size : Int) + r7.size ≤ maxI)) (
 need (decide ((((r4 ++ (ByteArray.mk #[32])) ++ r7).size : Int) + (ByteArray.mk #[32, 100, 114, 111, 112]).size ≤ maxI)) (
 some (((r4 ++ (ByteArray.mk #[32])) ++ r7) ++ (ByteArray.mk #[32, 100, 114, 111, 112])))))) else (
 (t_Digits a0.Out).bind fun r19 =>
 need (decide ((r4.size : Int) + (ByteArray.mk #[32]).size ≤ maxI)) (
 need (decide (((r4 ++ (ByteArray.mk #[32])).size : Int) + r7.size ≤ maxI)) (
 need (decide ((((r4 ++ (ByteArray.mk #[32])) ++ r7).size : Int) + (ByteArray.mk #[32, 111, 117, 116, 32]).size ≤ maxI)) (
 need (decide (((((r4 ++ (ByteArray.mk #[32])) ++ r7) ++ (ByteArray.mk #[32, 111, 117, 116, 32])).size : Int) + r19.size ≤ maxI)) (
 (if (decide (0 < a0.Set)) = true then (
 (t_railref1_ShowCube (T_Cube.mk a0.Set a0.Value)).bind fun r36 =>
 need (decide ((((((r4 ++ (ByteArray.mk #[32])) ++ r7) ++ (ByteArray.mk #[32, 111, 117, 116, 32])) ++ r19).size : Int) + (ByteArray.mk #[32, 115, 101, 116, 32]).size ≤ maxI)) (
 need (decide (((((((r4 ++ (ByteArray.mk #[32])) ++ r7) ++ (ByteArray.mk #[32, 111, 117, 116, 32])) ++ r19) ++ (ByteArray.mk #[32, 115, 101, 116, 32])).size : Int) + r36.size ≤ maxI)) (
 some ((((((r4 ++ (ByteArray.mk #[32])) ++ r7) ++ (ByteArray.mk #[32, 111, 117, 116, 32])) ++ r19) ++ (ByteArray.mk #[32, 115, 101, 116, 32])) ++ r36)))) else (
 some ((((r4 ++ (ByteArray.mk #[32])) ++ r7) ++ (ByteArray.mk #[32, 111, 117, 116, 32])) ++ r19))).bind fun (s28 : ByteArray) =>
 some s28)))))
theorem ty_railref1_ShowRule {n : Nat} (hn : bigN ≤ n) (a0 : T_Rule) : Rv (fun x : ByteArray => (vt x)) (sem_railref1_ShowRule n [(T_Rule.e a0)]) (t_railref1_ShowRule a0) := by
  rw [eq_railref1_ShowRule]
  unfold t_railref1_ShowRule
  refine tb (x := (T_Rule.c a0)) rfl ?_
  refine tb (x := (vi a0.Prio)) (rfl) ?_
  refine tbo (ty_Digits a0.Prio) fun r4 => ?_
  refine tb (x := (T_Cube.e a0.Cube)) (rfl) ?_
  refine tbo (ty_railref1_ShowCube hn a0.Cube) fun r7 => ?_
  refine tb (x := (vi a0.Out)) (rfl) ?_
  refine tb (x := (vb (decide (a0.Out = 0)))) (d_eql) ?_
  refine tcond (fun h10 => ?_) (fun h10 => ?_)
  · refine tneed (x := (vt (r4 ++ (ByteArray.mk #[32])))) (fun h16 => p_add_str h16) fun h16 => ?_
    refine tneed (x := (vt ((r4 ++ (ByteArray.mk #[32])) ++ r7))) (fun h15 => p_add_str h15) fun h15 => ?_
    refine tneed (x := (vt (((r4 ++ (ByteArray.mk #[32])) ++ r7) ++ (ByteArray.mk #[32, 100, 114, 111, 112])))) (fun h14 => p_add_str h14) fun h14 => ?_
    exact rf_ret rfl
  · refine tb (x := (vi a0.Out)) (rfl) ?_
    refine tbo (ty_Digits a0.Out) fun r19 => ?_
    refine tneed (x := (vt (r4 ++ (ByteArray.mk #[32])))) (fun h44 => p_add_str h44) fun h44 => ?_
    refine tneed (x := (vt ((r4 ++ (ByteArray.mk #[32])) ++ r7))) (fun h43 => p_add_str h43) fun h43 => ?_
    refine tneed (x := (vt (((r4 ++ (ByteArray.mk #[32])) ++ r7) ++ (ByteArray.mk #[32, 111, 117, 116, 32])))) (fun h42 => p_add_str h42) fun h42 => ?_
    refine tneed (x := (vt ((((r4 ++ (ByteArray.mk #[32])) ++ r7) ++ (ByteArray.mk #[32, 111, 117, 116, 32])) ++ r19))) (fun h41 => p_add_str h41) fun h41 => ?_
    refine tb (x := (vi a0.Set)) (rfl) ?_
    refine tb (x := (vb (decide (0 < a0.Set)))) (d_gtr) ?_
    refine tjb (mk := fun s28 : ByteArray => [(vt s28)]) (fun J27 => ?_) fun s28 => ?_
    · refine tcond (fun h31 => ?_) (fun h31 => ?_)
      · refine tb (x := (vi a0.Set)) (rfl) ?_
        refine tb (x := (vi a0.Value)) (rfl) ?_
        refine tb (x := (T_Cube.e (T_Cube.mk a0.Set a0.Value))) (by kernel_rfl) ?_
        refine tbo (ty_railref1_ShowCube hn (T_Cube.mk a0.Set a0.Value)) fun r36 => ?_
        refine tneed (x := (vt (((((r4 ++ (ByteArray.mk #[32])) ++ r7) ++ (ByteArray.mk #[32, 111, 117, 116, 32])) ++ r19) ++ (ByteArray.mk #[32, 115, 101, 116, 32])))) (fun h40 => p_add_str h40) fun h40 => ?_
        refine tneed (x := (vt ((((((r4 ++ (ByteArray.mk #[32])) ++ r7) ++ (ByteArray.mk #[32, 111, 117, 116, 32])) ++ r19) ++ (ByteArray.mk #[32, 115, 101, 116, 32])) ++ r36))) (fun h39 => p_add_str h39) fun h39 => ?_
        exact rf_j rfl
      · exact rf_j rfl
    · exact rf_ret rfl

/-! railpoint/cube.Print -/
def an_cube_Print : Ann := .seq (.reg 0 [] [] []) (.seq (.seq (.reg 0 [] [] []) (.seq (.reg 0 [] [] []) (.cond none (.seq (.reg 0 [] [] []) (.no)) (.no)))) (.seq (.reg 0 [] [] []) (.seq (.seq (.reg 0 [] [] []) (.blk (some [.o 5]) (.loop [.kb 1, .o 5, .s 16] (.seq (.reg 0 [] [] []) (.seq (.cond none (.no) (.no)) (.seq (.blk none (.seq (.reg 0 [] [] []) (.seq (.reg 0 [] [] []) (.blk none (.seq (.reg 0 [] [] []) (.cond (some [.kb 1, .o 5]) (.reg 0 [] [] []) (.seq (.reg 0 [] [] []) (.cond (some [.kb 1, .o 5]) (.reg 0 [] [] []) (.reg 0 [] [] []))))))))) (.reg 0 [] [] []))))))) (.seq (.reg 0 [] [] []) (.no)))))
noncomputable def sem_cube_Print (n : Nat) (xs : List V) : Option V := if xs.length ≤ 46 then denF Tryz.prog (envOf [(36, (sem_cube_Check n))]) n Tryz.f39 an_cube_Print xs else none
theorem ok_cube_Print (n : Nat) : SemOk Tryz.prog DW 39 (sem_cube_Print n) := fun xs y h => by
  unfold sem_cube_Print at h
  split at h
  · rename_i hl
    exact denF_ok stb Tryz.func39 (by kernel_rfl) (envOf_ok (semsOk_cons (ok_cube_Check n) semsOk_nil)) (by rw [Tryz.ntmps39]; exact hl) h
  · cases h
theorem eq_cube_Print (n : Nat) (x0 : V) : sem_cube_Print n [x0] =
 (V.cellsO x0).bind fun v1 =>
 (ldk (some 2) (List.drop 0 v1)).bind fun v2 =>
 ((sem_cube_Check n) [v2]).bind fun v3 =>
 (bin2 Tryz.prog BinOp.neq 31 (ot 10) (Operand.const Go.Value.nilIface) v3 vn).bind fun v4 =>
 condV v4 (
 some (V.tup [(V.lit (Go.Value.string (ByteArray.mk #[]))), v3])) (
 (makeN 1 [(V.lit (Go.Value.int Go.IntKind.u8 0))] (vi 4) (vi 4)).bind fun v5 =>
 ((oslR v5).map fun rows => V.lit (Go.Value.int Go.IntKind.i64 (List.length rows))).bind fun v6 =>
 JoinPt (fun vs7 =>
 ((oslR (List.getD vs7 0 V.any)).bind fun rows9 => b2s (V.sl rows9)).bind fun v10 =>
 some (V.tup [v10, vn])) fun J8 =>
 (keepO (some v1) (some v1) (some [v5, (vi 0)])).bind (fixN (fun rec11 vs12 =>
 (bin2 Tryz.prog BinOp.lss 3 (ot 16) (ot 15) (List.getD vs12 1 V.any) v6).bind fun v13 =>
 condV v13 (
 (bin2 Tryz.prog BinOp.sub 3 (oc 3) (ot 19) (vi 3) (List.getD vs12 1 V.any)).bind fun v14 =>
 (bin2 Tryz.prog BinOp.shl 3 (oc 1) (ot 20) (vi 1) v14).bind fun v15 =>
 (ldk none (List.drop 0 v1)).bind fun v16 =>
 (bin2 Tryz.prog BinOp.and 3 (ot 27) (ot 28) v16 v15).bind fun v17 =>
 (bin2 Tryz.prog BinOp.eql 3 (ot 29) (oc 0) v17 (vi 0)).bind fun v18 =>
 JoinPt (fun vs19 =>
 (bin2 Tryz.prog BinOp.add 3 (ot 16) (oc 1) (List.getD vs12 1 V.any) (vi 1)).bind fun v21 =>
 (keepO (some v1) (some v1) (some [(List.getD vs19 0 V.any), v21])).bind rec11) fun J20 =>
 condV v18 (
 ((oslR (List.getD vs12 0 V.any)).bind fun rows22 => inB (List.length rows22) (List.getD vs12 1 V.any)).bind fun v23 =>
 (V.cellsO (V.lit (Go.Value.int Go.IntKind.u8 42))).bind fun v24 =>
 (setV (List.getD vs12 0 V.any) [] (Stp.mk (some (natOf (List.getD vs12 1 V.any))) 0 1) 1 v24).bind fun v25 =>
 (keepO (some v1) (some v1) (some [v25])).bind J20) (
 (ldk none (List.drop 1 v1)).bind fun v26 =>
 (bin2 Tryz.prog BinOp.and 3 (ot 36) (ot 37) v26 v15).bind fun v27 =>
 (bin2 Tryz.prog BinOp.eql 3 (ot 38) (oc 0) v27 (vi 0)).bind fun v28 =>
 JoinPt (fun vs29 =>
 (keepO (some v1) (some v1) (some [(List.getD vs29 0 V.any)])).bind J20) fun J30 =>
 condV v28 (
 ((oslR (List.getD vs12 0 V.any)).bind fun rows31 => inB (List.length rows31) (List.getD vs12 1 V.any)).bind fun v32 =>
 (V.cellsO (V.lit (Go.Value.int Go.IntKind.u8 48))).bind fun v33 =>
 (setV (List.getD vs12 0 V.any) [] (Stp.mk (some (natOf (List.getD vs12 1 V.any))) 0 1) 1 v33).bind fun v34 =>
 (keepO (some v1) (some v1) (some [v34])).bind J30) (
 ((oslR (List.getD vs12 0 V.any)).bind fun rows35 => inB (List.length rows35) (List.getD vs12 1 V.any)).bind fun v36 =>
 (V.cellsO (V.lit (Go.Value.int Go.IntKind.u8 49))).bind fun v37 =>
 (setV (List.getD vs12 0 V.any) [] (Stp.mk (some (natOf (List.getD vs12 1 V.any))) 0 1) 1 v37).bind fun v38 =>
 (keepO (some v1) (some v1) (some [v38])).bind J30))) (
 J8 [(List.getD vs12 0 V.any)])) n)) := by kernel_rfl
noncomputable def t_cube_Print (a0 : T_Cube) : Option (ByteArray × Int) :=
 (t_cube_Check a0).bind fun r4 =>
 if (!decide (r4 = 0)) = true then (
 some ((ByteArray.mk #[]), r4)) else (
 (omake 4 4 0).bind fun r8 =>
 (loopI r8 (fun (i23 : Int) x24 (s19 : (List Int)) k20 =>
 need (decide (0 ≤ (wr (3 - i23)))) (
 (if (decide ((bits .and .i64 a0.Mask (wr (1 * 2 ^ (min (Int.toNat (wr (3 - i23))) 64)))) = 0)) = true then (
 need (decide (0 ≤ i23) && decide (i23 < (List.length s19 : Int))) (
 (oset s19 i23 42).bind fun r45 =>
 some (r45))) else (
 (if (decide ((bits .and .i64 a0.Bits (wr (1 * 2 ^ (min (Int.toNat (wr (3 - i23))) 64)))) = 0)) = true then (
 need (decide (0 ≤ i23) && decide (i23 < (List.length s19 : Int))) (
 (oset s19 i23 48).bind fun r60 =>
 some (r60))) else (
 need (decide (0 ≤ i23) && decide (i23 < (List.length s19 : Int))) (
 (oset s19 i23 49).bind fun r66 =>
 some (r66)))).bind fun (s52 : (List Int)) =>
 some (s52))).bind fun (s36 : (List Int)) =>
 k20 (s36))) (fun (s19 : (List Int)) =>
 some (s19)) (r8)).bind fun (s12 : (List Int)) =>
 some ((strOfNums s12), 0))
theorem ty_cube_Print {n : Nat} (hn : bigN ≤ n) (a0 : T_Cube) : Rv (fun x : (ByteArray × Int) => V.tup [(vt x.1), (eV x.2)]) (sem_cube_Print n [(T_Cube.e a0)]) (t_cube_Print a0) := by
  rw [eq_cube_Print]
  unfold t_cube_Print
  refine tb (x := (T_Cube.c a0)) rfl ?_
  refine tb (x := (T_Cube.e a0)) (rfl) ?_
  refine tbo (ty_cube_Check hn a0) fun r4 => ?_
  refine tb (x := (vb (!decide (r4 = 0)))) (p_err_neq _) ?_
  refine tcond (fun h6 => ?_) (fun h6 => ?_)
  · exact rf_ret rfl
  · refine tbo (p_omake (c := cY) 4 4 0 rfl) fun r8 => ?_
    refine tb (x := (vi (List.length r8 : Int))) (p_olen _) ?_
    refine tjb (mk := fun s12 : (List Int) => [(V.osl 1 (List.map cY s12))]) (fun J11 => ?_) fun s12 => ?_
    · refine tkeepO2 ?_ rfl
      refine tsome ?_
      refine rf_loopI (mk := fun (i23 : Int) (s19 : (List Int)) => [(V.osl 1 (List.map cY s19)), (vi (i23 : Int))]) hn r8 (r8) (fun i23 x24 h25 h26 h27 s19 rec17 k20 h21 => ?_) (fun s19 rec70 h69 => ?_)
      · refine tb (x := (vb (decide ((i23 : Int) < (List.length r8 : Int))))) (d_lss) ?_
        refine tcond_t h27 ?_
        refine tb (x := (vi (wr (3 - (i23 : Int))))) (d_sub) ?_
        refine tneed (x := (vi (wr (1 * 2 ^ (min (Int.toNat (wr (3 - (i23 : Int)))) 64))))) (fun h68 => p_shl h68) fun h68 => ?_
        refine tb (x := (vi a0.Mask)) (rfl) ?_
        refine tb (x := (vi (bits .and .i64 a0.Mask (wr (1 * 2 ^ (min (Int.toNat (wr (3 - (i23 : Int)))) 64)))))) (d_and) ?_
        refine tb (x := (vb (decide ((bits .and .i64 a0.Mask (wr (1 * 2 ^ (min (Int.toNat (wr (3 - (i23 : Int)))) 64)))) = 0)))) (d_eql) ?_
        refine tjb (mk := fun s36 : (List Int) => [(V.osl 1 (List.map cY s36))]) (fun J35 => ?_) fun s36 => ?_
        · refine tcond (fun h40 => ?_) (fun h40 => ?_)
          · refine tneed (x := V.any) (fun h46 => p_inB s19 (i23 : Int) h46) fun h46 => ?_
            refine tb (x := cY 42) rfl ?_
            refine tbo (p_oset (c := cY) (fun _ => rfl) s19 (i23 : Int) 42) fun r45 => ?_
            refine tkeepO2 ?_ rfl
            refine tsome ?_
            exact rf_j rfl
          · refine tb (x := (vi a0.Bits)) (rfl) ?_
            refine tb (x := (vi (bits .and .i64 a0.Bits (wr (1 * 2 ^ (min (Int.toNat (wr (3 - (i23 : Int)))) 64)))))) (d_and) ?_
            refine tb (x := (vb (decide ((bits .and .i64 a0.Bits (wr (1 * 2 ^ (min (Int.toNat (wr (3 - (i23 : Int)))) 64)))) = 0)))) (d_eql) ?_
            refine tjb (mk := fun s52 : (List Int) => [(V.osl 1 (List.map cY s52))]) (fun J51 => ?_) fun s52 => ?_
            · refine tcond (fun h55 => ?_) (fun h55 => ?_)
              · refine tneed (x := V.any) (fun h61 => p_inB s19 (i23 : Int) h61) fun h61 => ?_
                refine tb (x := cY 48) rfl ?_
                refine tbo (p_oset (c := cY) (fun _ => rfl) s19 (i23 : Int) 48) fun r60 => ?_
                refine tkeepO2 ?_ rfl
                refine tsome ?_
                exact rf_j rfl
              · refine tneed (x := V.any) (fun h67 => p_inB s19 (i23 : Int) h67) fun h67 => ?_
                refine tb (x := cY 49) rfl ?_
                refine tbo (p_oset (c := cY) (fun _ => rfl) s19 (i23 : Int) 49) fun r66 => ?_
                refine tkeepO2 ?_ rfl
                refine tsome ?_
                exact rf_j rfl
            · refine tkeepO2 ?_ rfl
              refine tsome ?_
              exact rf_j rfl
        · refine tb (x := (vi ((i23 : Int) + 1))) (p_incN h26) ?_
          refine tkeepO2 ?_ rfl
          refine tsome ?_
          exact h21 (s36)
      · refine tb (x := (vb (decide ((List.length r8 : Int) < (List.length r8 : Int))))) (d_lss) ?_
        refine tcond_f h69 ?_
        exact rf_j rfl
    · refine tb (x := (vt (strOfNums s12))) (p_oslB) ?_
      exact rf_ret rfl

/-! railpoint/rule.Print -/
def an_rule_Print : Ann := .seq (.reg 0 [] [] []) (.seq (.seq (.reg 0 [] [] []) (.seq (.reg 0 [] [] []) (.cond none (.seq (.reg 0 [] [] []) (.no)) (.no)))) (.seq (.reg 0 [] [] []) (.seq (.seq (.reg 0 [] [] []) (.cond none (.seq (.reg 0 [] [] []) (.no)) (.no))) (.seq (.reg 0 [] [] []) (.seq (.seq (.reg 0 [] [] []) (.cond none (.seq (.reg 0 [] [] []) (.no)) (.no))) (.seq (.reg 0 [] [] []) (.seq (.seq (.reg 0 [] [] []) (.cond (some [.s 7]) (.seq (.reg 0 [] [] []) (.seq (.seq (.reg 0 [] [] []) (.cond none (.seq (.reg 0 [] [] []) (.no)) (.no))) (.reg 0 [] [] []))) (.no))) (.seq (.reg 0 [] [] []) (.no)))))))))
noncomputable def sem_rule_Print (n : Nat) (xs : List V) : Option V := if xs.length ≤ 61 then denF Tryz.prog (envOf [(7, (sem_rule_Check n)), (39, (sem_cube_Print n)), (40, (semItoa))]) n Tryz.f9 an_rule_Print xs else none
theorem ok_rule_Print (n : Nat) : SemOk Tryz.prog DW 9 (sem_rule_Print n) := fun xs y h => by
  unfold sem_rule_Print at h
  split at h
  · rename_i hl
    exact denF_ok stb Tryz.func9 (by kernel_rfl) (envOf_ok (semsOk_cons (ok_rule_Check n) (semsOk_cons (ok_cube_Print n) (semsOk_cons (ok_Itoa) semsOk_nil)))) (by rw [Tryz.ntmps9]; exact hl) h
  · cases h
theorem eq_rule_Print (n : Nat) (x0 : V) : sem_rule_Print n [x0] =
 (V.cellsO x0).bind fun v1 =>
 (ldk (some 6) (List.drop 0 v1)).bind fun v2 =>
 ((sem_rule_Check n) [v2]).bind fun v3 =>
 (bin2 Tryz.prog BinOp.neq 31 (ot 12) (Operand.const Go.Value.nilIface) v3 vn).bind fun v4 =>
 condV v4 (
 some (V.tup [(V.lit (Go.Value.string (ByteArray.mk #[]))), v3])) (
 (ldk (some 2) (List.drop 1 v1)).bind fun v5 =>
 ((sem_cube_Print n) [v5]).bind fun v6 =>
 (extractV v6 0).bind fun v7 =>
 (extractV v6 1).bind fun v8 =>
 (bin2 Tryz.prog BinOp.neq 31 (ot 21) (Operand.const Go.Value.nilIface) v8 vn).bind fun v9 =>
 condV v9 (
 some (V.tup [(V.lit (Go.Value.string (ByteArray.mk #[]))), v8])) (
 (ldk none (List.drop 0 v1)).bind fun v10 =>
 ((semItoa) [v10]).bind fun v11 =>
 (bin2 Tryz.prog BinOp.add 9 (ot 26) (Operand.const (Go.Value.string (ByteArray.mk #[32]))) v11 (V.lit (Go.Value.string (ByteArray.mk #[32])))).bind fun v12 =>
 (bin2 Tryz.prog BinOp.add 9 (ot 27) (ot 28) v12 v7).bind fun v13 =>
 (ldk none (List.drop 3 v1)).bind fun v14 =>
 (bin2 Tryz.prog BinOp.eql 3 (ot 31) (oc 0) v14 (vi 0)).bind fun v15 =>
 condV v15 (
 (bin2 Tryz.prog BinOp.add 9 (ot 33) (Operand.const (Go.Value.string (ByteArray.mk #[32, 100, 114, 111, 112]))) v13 (V.lit (Go.Value.string (ByteArray.mk #[32, 100, 114, 111, 112])))).bind fun v16 =>
 some (V.tup [v16, vn])) (
 (ldk none (List.drop 3 v1)).bind fun v17 =>
 ((semItoa) [v17]).bind fun v18 =>
 (bin2 Tryz.prog BinOp.add 9 (Operand.const (Go.Value.string (ByteArray.mk #[32, 111, 117, 116, 32]))) (ot 38) (V.lit (Go.Value.string (ByteArray.mk #[32, 111, 117, 116, 32]))) v18).bind fun v19 =>
 (bin2 Tryz.prog BinOp.add 9 (ot 35) (ot 39) v13 v19).bind fun v20 =>
 (ldk none (List.drop 4 v1)).bind fun v21 =>
 (bin2 Tryz.prog BinOp.neq 3 (ot 42) (oc 0) v21 (vi 0)).bind fun v22 =>
 JoinPt (fun vs23 =>
 some (V.tup [(List.getD vs23 0 V.any), vn])) fun J24 =>
 condV v22 (
 (ldk none (List.drop 4 v1)).bind fun v25 =>
 (ldk none (List.drop 5 v1)).bind fun v26 =>
 ((fillL [(vi 0), (vi 0)] [(0, 1, v25), (1, 1, v26)]).map V.agg).bind fun v27 =>
 ((sem_cube_Print n) [v27]).bind fun v28 =>
 (extractV v28 0).bind fun v29 =>
 (extractV v28 1).bind fun v30 =>
 (bin2 Tryz.prog BinOp.neq 31 (ot 53) (Operand.const Go.Value.nilIface) v30 vn).bind fun v31 =>
 condV v31 (
 some (V.tup [(V.lit (Go.Value.string (ByteArray.mk #[]))), v30])) (
 (bin2 Tryz.prog BinOp.add 9 (Operand.const (Go.Value.string (ByteArray.mk #[32, 115, 101, 116, 32]))) (ot 57) (V.lit (Go.Value.string (ByteArray.mk #[32, 115, 101, 116, 32]))) v29).bind fun v32 =>
 (bin2 Tryz.prog BinOp.add 9 (ot 56) (ot 58) v20 v32).bind fun v33 =>
 J24 [v33])) (
 J24 [v20])))) := by kernel_rfl
noncomputable def t_rule_Print (a0 : T_Rule) : Option (ByteArray × Int) :=
 (t_rule_Check a0).bind fun r4 =>
 if (!decide (r4 = 0)) = true then (
 some ((ByteArray.mk #[]), r4)) else (
 (t_cube_Print a0.Cube).bind fun r9 =>
 if (!decide (r9.2 = 0)) = true then (
 some ((ByteArray.mk #[]), r9.2)) else (
 (t_Itoa a0.Prio).bind fun r16 =>
 need (decide ((r16.size : Int) + (ByteArray.mk #[32]).size ≤ maxI)) (
 need (decide (((r16 ++ (ByteArray.mk #[32])).size : Int) + r9.1.size ≤ maxI)) (
 if (decide (a0.Out = 0)) = true then (
 need (decide ((((r16 ++ (ByteArray.mk #[32])) ++ r9.1).size : Int) + (ByteArray.mk #[32, 100, 114, 111, 112]).size ≤ maxI)) (
 some ((((r16 ++ (ByteArray.mk #[32])) ++ r9.1) ++ (ByteArray.mk #[32, 100, 114, 111, 112])), 0))) else (
 (t_Itoa a0.Out).bind fun r26 =>
 need (decide (((ByteArray.mk #[32, 111, 117, 116, 32]).size : Int) + r26.size ≤ maxI)) (
 need (decide ((((r16 ++ (ByteArray.mk #[32])) ++ r9.1).size : Int) + ((ByteArray.mk #[32, 111, 117, 116, 32]) ++ r26).size ≤ maxI)) (
 join (fun (s33 : ByteArray) =>
 some (s33, 0)) fun j34 =>
 if (decide (a0.Set ≠ 0)) = true then (
 (t_cube_Print (T_Cube.mk a0.Set a0.Value)).bind fun r41 =>
 if (!decide (r41.2 = 0)) = true then (
 some ((ByteArray.mk #[]), r41.2)) else (
 need (decide (((ByteArray.mk #[32, 115, 101, 116, 32]).size : Int) + r41.1.size ≤ maxI)) (
 need (decide (((((r16 ++ (ByteArray.mk #[32])) ++ r9.1) ++ ((ByteArray.mk #[32, 111, 117, 116, 32]) ++ r26)).size : Int) + ((ByteArray.mk #[32, 115, 101, 116, 32]) ++ r41.1).size ≤ maxI)) (
 j34 ((((r16 ++ (ByteArray.mk #[32])) ++ r9.1) ++ ((ByteArray.mk #[32, 111, 117, 116, 32]) ++ r26)) ++ ((ByteArray.mk #[32, 115, 101, 116, 32]) ++ r41.1)))))) else (
 j34 (((r16 ++ (ByteArray.mk #[32])) ++ r9.1) ++ ((ByteArray.mk #[32, 111, 117, 116, 32]) ++ r26))))))))))
theorem ty_rule_Print {n : Nat} (hn : bigN ≤ n) (a0 : T_Rule) : Rv (fun x : (ByteArray × Int) => V.tup [(vt x.1), (eV x.2)]) (sem_rule_Print n [(T_Rule.e a0)]) (t_rule_Print a0) := by
  rw [eq_rule_Print]
  unfold t_rule_Print
  refine tb (x := (T_Rule.c a0)) rfl ?_
  refine tb (x := (T_Rule.e a0)) (rfl) ?_
  refine tbo (ty_rule_Check hn a0) fun r4 => ?_
  refine tb (x := (vb (!decide (r4 = 0)))) (p_err_neq _) ?_
  refine tcond (fun h6 => ?_) (fun h6 => ?_)
  · exact rf_ret rfl
  · refine tb (x := (T_Cube.e a0.Cube)) (rfl) ?_
    refine tbo (ty_cube_Print hn a0.Cube) fun r9 => ?_
    refine tb (x := (vt r9.1)) (rfl) ?_
    refine tb (x := (eV r9.2)) (rfl) ?_
    refine tb (x := (vb (!decide (r9.2 = 0)))) (p_err_neq _) ?_
    refine tcond (fun h13 => ?_) (fun h13 => ?_)
    · exact rf_ret rfl
    · refine tb (x := (vi a0.Prio)) (rfl) ?_
      refine tbo (ty_Itoa a0.Prio) fun r16 => ?_
      refine tneed (x := (vt (r16 ++ (ByteArray.mk #[32])))) (fun h53 => p_add_str h53) fun h53 => ?_
      refine tneed (x := (vt ((r16 ++ (ByteArray.mk #[32])) ++ r9.1))) (fun h52 => p_add_str h52) fun h52 => ?_
      refine tb (x := (vi a0.Out)) (rfl) ?_
      refine tb (x := (vb (decide (a0.Out = 0)))) (d_eql) ?_
      refine tcond (fun h21 => ?_) (fun h21 => ?_)
      · refine tneed (x := (vt (((r16 ++ (ByteArray.mk #[32])) ++ r9.1) ++ (ByteArray.mk #[32, 100, 114, 111, 112])))) (fun h23 => p_add_str h23) fun h23 => ?_
        exact rf_ret rfl
      · refine tb (x := (vi a0.Out)) (rfl) ?_
        refine tbo (ty_Itoa a0.Out) fun r26 => ?_
        refine tneed (x := (vt ((ByteArray.mk #[32, 111, 117, 116, 32]) ++ r26))) (fun h51 => p_add_str h51) fun h51 => ?_
        refine tneed (x := (vt (((r16 ++ (ByteArray.mk #[32])) ++ r9.1) ++ ((ByteArray.mk #[32, 111, 117, 116, 32]) ++ r26)))) (fun h50 => p_add_str h50) fun h50 => ?_
        refine tb (x := (vi a0.Set)) (rfl) ?_
        refine tb (x := (vb (decide (a0.Set ≠ 0)))) (d_neq) ?_
        refine tjoin (mk := fun s33 : ByteArray => [(vt s33)]) (fun s33 => ?_) fun J32 j34 h35 => ?_
        · exact rf_ret rfl
        · refine tcond (fun h36 => ?_) (fun h36 => ?_)
          · refine tb (x := (vi a0.Set)) (rfl) ?_
            refine tb (x := (vi a0.Value)) (rfl) ?_
            refine tb (x := (T_Cube.e (T_Cube.mk a0.Set a0.Value))) (by kernel_rfl) ?_
            refine tbo (ty_cube_Print hn (T_Cube.mk a0.Set a0.Value)) fun r41 => ?_
            refine tb (x := (vt r41.1)) (rfl) ?_
            refine tb (x := (eV r41.2)) (rfl) ?_
            refine tb (x := (vb (!decide (r41.2 = 0)))) (p_err_neq _) ?_
            refine tcond (fun h45 => ?_) (fun h45 => ?_)
            · exact rf_ret rfl
            · refine tneed (x := (vt ((ByteArray.mk #[32, 115, 101, 116, 32]) ++ r41.1))) (fun h49 => p_add_str h49) fun h49 => ?_
              refine tneed (x := (vt ((((r16 ++ (ByteArray.mk #[32])) ++ r9.1) ++ ((ByteArray.mk #[32, 111, 117, 116, 32]) ++ r26)) ++ ((ByteArray.mk #[32, 115, 101, 116, 32]) ++ r41.1)))) (fun h48 => p_add_str h48) fun h48 => ?_
              exact h35 ((((r16 ++ (ByteArray.mk #[32])) ++ r9.1) ++ ((ByteArray.mk #[32, 111, 117, 116, 32]) ++ r26)) ++ ((ByteArray.mk #[32, 115, 101, 116, 32]) ++ r41.1))
          · exact h35 (((r16 ++ (ByteArray.mk #[32])) ++ r9.1) ++ ((ByteArray.mk #[32, 111, 117, 116, 32]) ++ r26))

/-! railpoint/railref1.Cut -/
def an_railref1_Cut : Ann := .seq (.reg 0 [] [] []) (.seq (.reg 0 [] [] []) (.seq (.reg 0 [] [] []) (.seq (.seq (.reg 0 [] [] []) (.blk (some [.r 5 9, .s 6]) (.loop [.r 5 9, .s 6, .s 7] (.seq (.seq (.reg 0 [] [] []) (.cond none (.no) (.no))) (.seq (.blk none (.seq (.reg 0 [] [] []) (.cond (some [.r 5 9, .s 6]) (.seq (.reg 0 [] [] []) (.reg 0 [] [] [])) (.no)))) (.reg 0 [] [] [])))))) (.seq (.reg 0 [] [] []) (.no)))))
noncomputable def sem_railref1_Cut (n : Nat) (xs : List V) : Option V := if xs.length ≤ 34 then denF Tryz.prog (envOf []) n Tryz.f41 an_railref1_Cut xs else none
theorem ok_railref1_Cut (n : Nat) : SemOk Tryz.prog DW 41 (sem_railref1_Cut n) := fun xs y h => by
  unfold sem_railref1_Cut at h
  split at h
  · rename_i hl
    exact denF_ok stb Tryz.func41 (by kernel_rfl) (envOf_ok semsOk_nil) (by rw [Tryz.ntmps41]; exact hl) h
  · cases h
theorem eq_railref1_Cut (n : Nat) (x0 x1 : V) : sem_railref1_Cut n [x0, x1] =
 JoinPt (fun vs1 =>
 (slc none x0 (some (List.getD vs1 1 V.any)) none).bind fun v3 =>
 (slcB 1 1 [(V.lit (Go.Value.string (ByteArray.mk #[])))] [(0, v3)]).bind fun v4 =>
 (appV 1 (slL (List.getD vs1 0 V.any)) v4).bind fun v5 =>
 some (V.sl (slL v5))) fun J2 =>
 (fixN (fun rec6 vs7 =>
 (lenT [x0]).bind fun v8 =>
 (bin2 Tryz.prog BinOp.lss 3 (ot 8) (ot 10) (List.getD vs7 2 V.any) v8).bind fun v9 =>
 condV v9 (
 (scal2 Tryz.prog (Instr.index 9) x0 (List.getD vs7 2 V.any)).bind fun v10 =>
 (bin2 Tryz.prog BinOp.eql 5 (ot 16) (ot 17) v10 x1).bind fun v11 =>
 JoinPt (fun vs12 =>
 (bin2 Tryz.prog BinOp.add 3 (ot 12) (oc 1) (List.getD vs7 2 V.any) (vi 1)).bind fun v14 =>
 rec6 [(V.sl (slL (List.getD vs12 0 V.any))), (List.getD vs12 1 V.any), v14]) fun J13 =>
 condV v11 (
 (slc none x0 (some (List.getD vs7 1 V.any)) (some (List.getD vs7 2 V.any))).bind fun v15 =>
 (slcB 1 1 [(V.lit (Go.Value.string (ByteArray.mk #[])))] [(0, v15)]).bind fun v16 =>
 (appV 1 (slL (List.getD vs7 0 V.any)) v16).bind fun v17 =>
 (bin2 Tryz.prog BinOp.add 3 (ot 26) (oc 1) (List.getD vs7 2 V.any) (vi 1)).bind fun v18 =>
 J13 [(V.sl (slL v17)), v18]) (
 J13 [(V.sl (slL (List.getD vs7 0 V.any))), (List.getD vs7 1 V.any)])) (
 J2 [(V.sl (slL (List.getD vs7 0 V.any))), (List.getD vs7 1 V.any)])) n) [(V.sl []), (vi 0), (vi 0)] := by kernel_rfl
noncomputable def t_railref1_Cut (a0 : ByteArray) (a1 : Int) : Option (List ByteArray) :=
 (loopU 0 (a0.size : Int) (fun (i17 : Int) (s13 : ((List ByteArray) × Int)) k14 =>
 (sidx a0 i17).bind fun r26 =>
 (if (decide (r26 = a1)) = true then (
 (sslc_lh a0 s13.2 i17).bind fun r36 =>
 (app s13.1 ([r36] : (List ByteArray))).bind fun r39 =>
 some (r39, (i17 + 1))) else (
 some (s13.1, s13.2))).bind fun (s30 : ((List ByteArray) × Int)) =>
 k14 (s30.1, s30.2)) (fun (i17 : Int) (s13 : ((List ByteArray) × Int)) =>
 some (s13.1, s13.2)) ([], 0)).bind fun (s3 : ((List ByteArray) × Int)) =>
 (sslc_lo a0 s3.2).bind fun r7 =>
 (app s3.1 ([r7] : (List ByteArray))).bind fun r10 =>
 some r10
theorem ty_railref1_Cut {n : Nat} (hn : bigN ≤ n) (a0 : ByteArray) (a1 : Int) : Rv (fun x : (List ByteArray) => (V.sl (List.map cT x))) (sem_railref1_Cut n [(vt a0), (V.lit (.int .u8 a1))]) (t_railref1_Cut a0 a1) := by
  rw [eq_railref1_Cut]
  unfold t_railref1_Cut
  refine tjb (mk := fun s3 : ((List ByteArray) × Int) => [(V.sl (List.map cT s3.1)), (vi s3.2)]) (fun J2 => ?_) fun s3 => ?_
  · refine rf_loopU (mk := fun (i17 : Int) (s13 : ((List ByteArray) × Int)) => [(V.sl (List.map cT s13.1)), (vi s13.2), (vi i17)]) hn _ _ ([], 0) (fun i17 h18 h19 h20 s13 rec11 k14 h15 => ?_) (fun i17 s13 rec22 h21 => ?_)
    · refine tb (x := (vi (a0.size : Int))) (rfl) ?_
      refine tb (x := (vb (decide (i17 < (a0.size : Int))))) (d_lss) ?_
      refine tcond_t h18 ?_
      refine tbo (p_sidx (Tryz.underlying9) a0 i17) fun r26 => ?_
      refine tb (x := (vb (decide (r26 = a1)))) (q_eql) ?_
      refine tjb (mk := fun s30 : ((List ByteArray) × Int) => [(V.sl (List.map cT s30.1)), (vi s30.2)]) (fun J29 => ?_) fun s30 => ?_
      · refine tcond (fun h34 => ?_) (fun h34 => ?_)
        · refine tbo (p_sslc_lh a0 s13.2 i17) fun r36 => ?_
          refine tb (x := (V.sl (List.map cT ([r36] : (List ByteArray))))) (by kernel_rfl) ?_
          refine tbo (p_app (c := cT) (fun _ => rfl) s13.1 ([r36] : (List ByteArray))) fun r39 => ?_
          refine tb (x := (vi (i17 + 1))) (p_inc h19 h20) ?_
          exact rf_j rfl
        · exact rf_j rfl
      · refine tb (x := (vi (i17 + 1))) (p_inc h19 h20) ?_
        exact h15 (s30.1, s30.2)
    · refine tb (x := (vi (a0.size : Int))) (rfl) ?_
      refine tb (x := (vb (decide (i17 < (a0.size : Int))))) (d_lss) ?_
      refine tcond_f h21 ?_
      exact rf_j rfl
  · refine tbo (p_sslc_lo a0 s3.2) fun r7 => ?_
    refine tb (x := (V.sl (List.map cT ([r7] : (List ByteArray))))) (by kernel_rfl) ?_
    refine tbo (p_app (c := cT) (fun _ => rfl) s3.1 ([r7] : (List ByteArray))) fun r10 => ?_
    exact rf_ret rfl

/-! railpoint/railref1.Number -/
def an_railref1_Number : Ann := .seq (.reg 0 [] [] []) (.seq (.seq (.reg 0 [] [] []) (.cond none (.seq (.reg 0 [] [] []) (.no)) (.no))) (.seq (.reg 0 [] [] []) (.seq (.seq (.reg 0 [] [] []) (.blk (some [.s 4]) (.loop [.s 4, .s 5] (.seq (.seq (.reg 0 [] [] []) (.cond none (.no) (.no))) (.seq (.blk none (.seq (.seq (.reg 0 [] [] []) (.cond none (.seq (.reg 0 [] [] []) (.no)) (.no))) (.reg 0 [] [] []))) (.reg 0 [] [] [])))))) (.seq (.reg 0 [] [] []) (.no)))))
noncomputable def sem_railref1_Number (n : Nat) (xs : List V) : Option V := if xs.length ≤ 48 then denF Tryz.prog (envOf []) n Tryz.f42 an_railref1_Number xs else none
theorem ok_railref1_Number (n : Nat) : SemOk Tryz.prog DW 42 (sem_railref1_Number n) := fun xs y h => by
  unfold sem_railref1_Number at h
  split at h
  · rename_i hl
    exact denF_ok stb Tryz.func42 (by kernel_rfl) (envOf_ok semsOk_nil) (by rw [Tryz.ntmps42]; exact hl) h
  · cases h
theorem eq_railref1_Number (n : Nat) (x0 : V) : sem_railref1_Number n [x0] =
 (bin2 Tryz.prog BinOp.eql 9 (ot 6) (Operand.const (Go.Value.string (ByteArray.mk #[]))) x0 (V.lit (Go.Value.string (ByteArray.mk #[])))).bind fun v1 =>
 (guardV v1 false (some x0)).bind fun v2 =>
 (guardV v1 false ((lenT [v2]).bind fun v3 =>
 some v3)).bind fun v4 =>
 (guardV v1 false ((bin2 Tryz.prog BinOp.gtr 3 (ot 10) (oc 9) v4 (vi 9)).bind fun v5 =>
 some v5)).bind fun v6 =>
 (pickV v1 (vb true) v6).bind fun v7 =>
 (guardV v7 false (some x0)).bind fun v8 =>
 (guardV v7 false ((scal2 Tryz.prog (Instr.index 9) v8 (vi 0)).bind fun v9 =>
 some v9)).bind fun v10 =>
 (guardV v7 false ((bin2 Tryz.prog BinOp.eql 5 (ot 15) (Operand.const (Go.Value.int Go.IntKind.u8 48)) v10 (V.lit (Go.Value.int Go.IntKind.u8 48))).bind fun v11 =>
 some v11)).bind fun v12 =>
 (guardV v7 false (some v12)).bind fun v13 =>
 (guardV v13 true (some x0)).bind fun v14 =>
 (guardV v13 true ((lenT [v14]).bind fun v15 =>
 some v15)).bind fun v16 =>
 (guardV v13 true ((bin2 Tryz.prog BinOp.gtr 3 (ot 19) (oc 1) v16 (vi 1)).bind fun v17 =>
 some v17)).bind fun v18 =>
 (guardV v7 false ((pickV v13 v18 (vb false)).bind fun v19 =>
 some v19)).bind fun v20 =>
 (pickV v7 (vb true) v20).bind fun v21 =>
 condV v21 (
 some (V.tup [(vi 0), (vb false)])) (
 JoinPt (fun vs22 =>
 some (V.tup [(List.getD vs22 0 V.any), (vb true)])) fun J23 =>
 (fixN (fun rec24 vs25 =>
 (lenT [x0]).bind fun v26 =>
 (bin2 Tryz.prog BinOp.lss 3 (ot 23) (ot 25) (List.getD vs25 1 V.any) v26).bind fun v27 =>
 condV v27 (
 (scal2 Tryz.prog (Instr.index 9) x0 (List.getD vs25 1 V.any)).bind fun v28 =>
 (bin2 Tryz.prog BinOp.lss 5 (ot 31) (Operand.const (Go.Value.int Go.IntKind.u8 48)) v28 (V.lit (Go.Value.int Go.IntKind.u8 48))).bind fun v29 =>
 (guardV v29 false (some x0)).bind fun v30 =>
 (guardV v29 false (some (List.getD vs25 1 V.any))).bind fun v31 =>
 (guardV v29 false ((scal2 Tryz.prog (Instr.index 9) v30 v31).bind fun v32 =>
 some v32)).bind fun v33 =>
 (guardV v29 false ((bin2 Tryz.prog BinOp.gtr 5 (ot 36) (Operand.const (Go.Value.int Go.IntKind.u8 57)) v33 (V.lit (Go.Value.int Go.IntKind.u8 57))).bind fun v34 =>
 some v34)).bind fun v35 =>
 (pickV v29 (vb true) v35).bind fun v36 =>
 condV v36 (
 some (V.tup [(vi 0), (vb false)])) (
 (bin2 Tryz.prog BinOp.mul 3 (ot 39) (oc 10) (List.getD vs25 0 V.any) (vi 10)).bind fun v37 =>
 (scal2 Tryz.prog (Instr.index 9) x0 (List.getD vs25 1 V.any)).bind fun v38 =>
 (scal1 Tryz.prog (convert 5 3) v38).bind fun v39 =>
 (bin2 Tryz.prog BinOp.add 3 (ot 40) (ot 44) v37 v39).bind fun v40 =>
 (bin2 Tryz.prog BinOp.sub 3 (ot 45) (oc 48) v40 (vi 48)).bind fun v41 =>
 (bin2 Tryz.prog BinOp.add 3 (ot 27) (oc 1) (List.getD vs25 1 V.any) (vi 1)).bind fun v42 =>
 rec24 [v41, v42])) (
 J23 [(List.getD vs25 0 V.any)])) n) [(vi 0), (vi 0)]) := by kernel_rfl
noncomputable def t_railref1_Number (a0 : ByteArray) : Option (Int × Bool) :=
 (gd (!((decide (a0 = (ByteArray.mk #[]))) || (decide (9 < (a0.size : Int))))) default (sidx a0 0)).bind fun r16 =>
 if (((decide (a0 = (ByteArray.mk #[]))) || (decide (9 < (a0.size : Int)))) || ((decide (r16 = 48)) && (decide (1 < (a0.size : Int))))) = true then (
 some (0, false)) else (
 join (fun (s37 : Int) =>
 some (s37, true)) fun j38 =>
 loopU 0 (a0.size : Int) (fun (i46 : Int) (s42 : Int) k43 =>
 (sidx a0 i46).bind fun r55 =>
 (gd (!(decide (r55 < 48))) default (sidx a0 i46)).bind fun r64 =>
 if ((decide (r55 < 48)) || (decide (57 < r64))) = true then (
 some (0, false)) else (
 (sidx a0 i46).bind fun r72 =>
 k43 (wr ((wr ((wr (s42 * 10)) + (wr r72))) - 48)))) (fun (i46 : Int) (s42 : Int) =>
 j38 (s42)) (0))
theorem ty_railref1_Number {n : Nat} (hn : bigN ≤ n) (a0 : ByteArray) : Rv (fun x : (Int × Bool) => V.tup [(vi x.1), (vb x.2)]) (sem_railref1_Number n [(vt a0)]) (t_railref1_Number a0) := by
  rw [eq_railref1_Number]
  unfold t_railref1_Number
  refine tb (x := (vb (decide (a0 = (ByteArray.mk #[]))))) (p_eql_str) ?_
  refine tg_f (x := (vt a0)) (fun h2 => rfl) ?_
  refine tg_f (x := (vi (a0.size : Int))) (fun h4 => by simp only [gv_t h4]; exact bind_some_eq (rfl)) ?_
  refine tg_f (x := (vb (decide (9 < (a0.size : Int))))) (fun h7 => by simp only [gv_t h7]; exact bind_some_eq (d_gtr)) ?_
  refine tb (x := (vb ((decide (a0 = (ByteArray.mk #[]))) || (decide (9 < (a0.size : Int)))))) (pick_or (fun h9 => gv_t (not_f h9))) ?_
  refine tg_f (x := (vt a0)) (fun h11 => rfl) ?_
  refine tgo_f (fun h13 => by simp only [gv_t h13]; exact rf_bind_some (p_sidx (Tryz.underlying9) a0 0)) fun r16 => ?_
  refine tg_f (x := (vb (decide (r16 = 48)))) (fun h17 => by simp only [gv_t h17]; exact bind_some_eq (q_eql)) ?_
  refine tg_f (x := (vb (decide (r16 = 48)))) (fun h20 => congrArg some (gv_t h20)) ?_
  refine tg2 (x := (vt a0)) (fun h22 => rfl) ?_
  refine tg2 (x := (vi (a0.size : Int))) (fun h24 => by simp only [gv_t h24]; exact bind_some_eq (rfl)) ?_
  refine tg2 (x := (vb (decide (1 < (a0.size : Int))))) (fun h27 => by simp only [gv_t h27]; exact bind_some_eq (d_gtr)) ?_
  refine tg_f (x := (vb ((decide (r16 = 48)) && (decide (1 < (a0.size : Int)))))) (fun h30 => by simp only [gv_t h30]; exact bind_some_eq (pick_and (fun h9 => gv_t (and_i h30 h9)))) ?_
  refine tb (x := (vb (((decide (a0 = (ByteArray.mk #[]))) || (decide (9 < (a0.size : Int)))) || ((decide (r16 = 48)) && (decide (1 < (a0.size : Int))))))) (pick_or (fun h9 => gv_t (not_f h9))) ?_
  refine tcond (fun h34 => ?_) (fun h34 => ?_)
  · exact rf_ret rfl
  · refine tjoin (mk := fun s37 : Int => [(vi s37)]) (fun s37 => ?_) fun J36 j38 h39 => ?_
    · exact rf_ret rfl
    · refine rf_loopU (mk := fun (i46 : Int) (s42 : Int) => [(vi s42), (vi i46)]) hn _ _ (0) (fun i46 h47 h48 h49 s42 rec40 k43 h44 => ?_) (fun i46 s42 rec51 h50 => ?_)
      · refine tb (x := (vi (a0.size : Int))) (rfl) ?_
        refine tb (x := (vb (decide (i46 < (a0.size : Int))))) (d_lss) ?_
        refine tcond_t h47 ?_
        refine tbo (p_sidx (Tryz.underlying9) a0 i46) fun r55 => ?_
        refine tb (x := (vb (decide (r55 < 48)))) (q_lss) ?_
        refine tg_f (x := (vt a0)) (fun h57 => rfl) ?_
        refine tg_f (x := (vi i46)) (fun h59 => rfl) ?_
        refine tgo_f (fun h61 => by simp only [gv_t h61]; exact rf_bind_some (p_sidx (Tryz.underlying9) a0 i46)) fun r64 => ?_
        refine tg_f (x := (vb (decide (57 < r64)))) (fun h65 => by simp only [gv_t h65]; exact bind_some_eq (q_gtr)) ?_
        refine tb (x := (vb ((decide (r55 < 48)) || (decide (57 < r64))))) (pick_or (fun h9 => gv_t (not_f h9))) ?_
        refine tcond (fun h69 => ?_) (fun h69 => ?_)
        · exact rf_ret rfl
        · refine tb (x := (vi (wr (s42 * 10)))) (d_mul) ?_
          refine tbo (p_sidx (Tryz.underlying9) a0 i46) fun r72 => ?_
          refine tb (x := (vi (wr r72))) (scal1_lit (r := .int .i64 (IntKind.i64.wrap r72)) rfl (fun w => by kernel_rfl) rfl) ?_
          refine tb (x := (vi (wr ((wr (s42 * 10)) + (wr r72))))) (d_add) ?_
          refine tb (x := (vi (wr ((wr ((wr (s42 * 10)) + (wr r72))) - 48)))) (d_sub) ?_
          refine tb (x := (vi (i46 + 1))) (p_inc h48 h49) ?_
          exact h44 (wr ((wr ((wr (s42 * 10)) + (wr r72))) - 48))
      · refine tb (x := (vi (a0.size : Int))) (rfl) ?_
        refine tb (x := (vb (decide (i46 < (a0.size : Int))))) (d_lss) ?_
        refine tcond_f h50 ?_
        exact h39 (s42)

/-! railpoint/railref1.ReadCube -/
def an_railref1_ReadCube : Ann := .seq (.reg 0 [] [] []) (.seq (.reg 0 [] [] []) (.seq (.seq (.reg 0 [] [] []) (.cond none (.seq (.reg 0 [] [] []) (.no)) (.no))) (.seq (.seq (.reg 0 [] [] []) (.blk (some [.b 2, .b 4]) (.loop [.b 2, .b 4, .s 5] (.seq (.seq (.reg 0 [] [] []) (.cond none (.no) (.no))) (.seq (.blk none (.seq (.reg 0 [] [] []) (.seq (.reg 0 [] [] []) (.seq (.reg 0 [] [] []) (.cond (some [.b 2, .b 4]) (.seq (.reg 0 [] [] []) (.reg 0 [] [] [])) (.seq (.reg 0 [] [] []) (.cond (some [.b 2, .b 4]) (.reg 0 [] [] []) (.seq (.reg 0 [] [] []) (.cond none (.seq (.reg 0 [] [] []) (.no)) (.no)))))))))) (.reg 0 [] [] [])))))) (.seq (.reg 0 [] [] []) (.no)))))
noncomputable def sem_railref1_ReadCube (n : Nat) (xs : List V) : Option V := if xs.length ≤ 48 then denF Tryz.prog (envOf []) n Tryz.f43 an_railref1_ReadCube xs else none
theorem ok_railref1_ReadCube (n : Nat) : SemOk Tryz.prog DW 43 (sem_railref1_ReadCube n) := fun xs y h => by
  unfold sem_railref1_ReadCube at h
  split at h
  · rename_i hl
    exact denF_ok stb Tryz.func43 (by kernel_rfl) (envOf_ok semsOk_nil) (by rw [Tryz.ntmps43]; exact hl) h
  · cases h
theorem eq_railref1_ReadCube (n : Nat) (x0 : V) : sem_railref1_ReadCube n [x0] =
 (lenT [x0]).bind fun v1 =>
 (bin2 Tryz.prog BinOp.neq 3 (ot 7) (oc 4) v1 (vi 4)).bind fun v2 =>
 condV v2 (
 (ldk (some 2) (List.drop 0 [(vi 0), (vi 0)])).bind fun v3 =>
 (spliceV [(vi 0), (vi 0)] 0 2 v3).bind fun v4 =>
 (ldk (some 2) (List.drop 0 (aggL v4))).bind fun v5 =>
 some (V.tup [v5, (vb false)])) (
 JoinPt (fun vs6 =>
 (ldk (some 2) (List.drop 0 (aggL (List.getD vs6 1 V.any)))).bind fun v8 =>
 (spliceV (aggL (List.getD vs6 0 V.any)) 0 2 v8).bind fun v9 =>
 (ldk (some 2) (List.drop 0 (aggL v9))).bind fun v10 =>
 some (V.tup [v10, (vb true)])) fun J7 =>
 (fixN (fun rec11 vs12 =>
 (bin2 Tryz.prog BinOp.lss 3 (ot 10) (oc 4) (List.getD vs12 2 V.any) (vi 4)).bind fun v13 =>
 condV v13 (
 (ldk none (List.drop 0 (aggL (List.getD vs12 1 V.any)))).bind fun v14 =>
 (bin2 Tryz.prog BinOp.mul 3 (ot 15) (oc 2) v14 (vi 2)).bind fun v15 =>
 (spliceV (aggL (List.getD vs12 1 V.any)) 0 1 v15).bind fun v16 =>
 (ldk none (List.drop 1 (aggL v16))).bind fun v17 =>
 (bin2 Tryz.prog BinOp.mul 3 (ot 19) (oc 2) v17 (vi 2)).bind fun v18 =>
 (spliceV (aggL v16) 1 1 v18).bind fun v19 =>
 (scal2 Tryz.prog (Instr.index 9) x0 (List.getD vs12 2 V.any)).bind fun v20 =>
 (bin2 Tryz.prog BinOp.eql 5 (ot 24) (Operand.const (Go.Value.int Go.IntKind.u8 49)) v20 (V.lit (Go.Value.int Go.IntKind.u8 49))).bind fun v21 =>
 JoinPt (fun vs22 =>
 (bin2 Tryz.prog BinOp.add 3 (ot 12) (oc 1) (List.getD vs12 2 V.any) (vi 1)).bind fun v24 =>
 rec11 [(V.agg (aggL (List.getD vs22 0 V.any))), (V.agg (aggL (List.getD vs22 1 V.any))), v24]) fun J23 =>
 condV v21 (
 (ldk none (List.drop 0 (aggL v19))).bind fun v25 =>
 (bin2 Tryz.prog BinOp.add 3 (ot 27) (oc 1) v25 (vi 1)).bind fun v26 =>
 (spliceV (aggL v19) 0 1 v26).bind fun v27 =>
 (ldk none (List.drop 1 (aggL v27))).bind fun v28 =>
 (bin2 Tryz.prog BinOp.add 3 (ot 31) (oc 1) v28 (vi 1)).bind fun v29 =>
 (spliceV (aggL v27) 1 1 v29).bind fun v30 =>
 J23 [(V.agg (aggL (List.getD vs12 0 V.any))), (V.agg (aggL v30))]) (
 (scal2 Tryz.prog (Instr.index 9) x0 (List.getD vs12 2 V.any)).bind fun v31 =>
 (bin2 Tryz.prog BinOp.eql 5 (ot 36) (Operand.const (Go.Value.int Go.IntKind.u8 48)) v31 (V.lit (Go.Value.int Go.IntKind.u8 48))).bind fun v32 =>
 JoinPt (fun vs33 =>
 J23 [(V.agg (aggL (List.getD vs33 0 V.any))), (V.agg (aggL (List.getD vs33 1 V.any)))]) fun J34 =>
 condV v32 (
 (ldk none (List.drop 0 (aggL v19))).bind fun v35 =>
 (bin2 Tryz.prog BinOp.add 3 (ot 39) (oc 1) v35 (vi 1)).bind fun v36 =>
 (spliceV (aggL v19) 0 1 v36).bind fun v37 =>
 J34 [(V.agg (aggL (List.getD vs12 0 V.any))), (V.agg (aggL v37))]) (
 (scal2 Tryz.prog (Instr.index 9) x0 (List.getD vs12 2 V.any)).bind fun v38 =>
 (bin2 Tryz.prog BinOp.neq 5 (ot 44) (Operand.const (Go.Value.int Go.IntKind.u8 42)) v38 (V.lit (Go.Value.int Go.IntKind.u8 42))).bind fun v39 =>
 condV v39 (
 ((fillL [(vi 0), (vi 0)] []).map V.agg).bind fun v40 =>
 (spliceV (aggL (List.getD vs12 0 V.any)) 0 2 v40).bind fun v41 =>
 (ldk (some 2) (List.drop 0 (aggL v41))).bind fun v42 =>
 some (V.tup [v42, (vb false)])) (
 J34 [(V.agg (aggL (List.getD vs12 0 V.any))), (V.agg (aggL v19))])))) (
 J7 [(V.agg (aggL (List.getD vs12 0 V.any))), (V.agg (aggL (List.getD vs12 1 V.any)))])) n) [(V.agg [(vi 0), (vi 0)]), (V.agg [(vi 0), (vi 0)]), (vi 0)]) := by kernel_rfl
noncomputable def t_railref1_ReadCube (a0 : ByteArray) : Option (T_Cube × Bool) :=
 if (decide ((a0.size : Int) ≠ 4)) = true then (
 some ((T_Cube.mk 0 0), false)) else (
 join (fun (s9 : (T_Cube × T_Cube)) =>
 some (s9.2, true)) fun j10 =>
 loopU 0 4 (fun (i21 : Int) (s17 : (T_Cube × T_Cube)) k18 =>
 (sidx a0 i21).bind fun r35 =>
 join (fun (s39 : (T_Cube × T_Cube)) =>
 k18 (s39.1, s39.2)) fun j40 =>
 if (decide (r35 = 49)) = true then (
 j40 (s17.1, (T_Cube.mk (wr ((wr (s17.2.Mask * 2)) + 1)) (wr ((wr (s17.2.Bits * 2)) + 1))))) else (
 (sidx a0 i21).bind fun r51 =>
 join (fun (s55 : (T_Cube × T_Cube)) =>
 j40 (s55.1, s55.2)) fun j56 =>
 if (decide (r51 = 48)) = true then (
 j56 (s17.1, (T_Cube.mk (wr ((wr (s17.2.Mask * 2)) + 1)) (wr (s17.2.Bits * 2))))) else (
 (sidx a0 i21).bind fun r63 =>
 if (decide (r63 ≠ 42)) = true then (
 some ((T_Cube.mk 0 0), false)) else (
 j56 (s17.1, (T_Cube.mk (wr (s17.2.Mask * 2)) (wr (s17.2.Bits * 2)))))))) (fun (i21 : Int) (s17 : (T_Cube × T_Cube)) =>
 j10 (s17.1, s17.2)) ((T_Cube.mk 0 0), (T_Cube.mk 0 0)))
theorem ty_railref1_ReadCube {n : Nat} (hn : bigN ≤ n) (a0 : ByteArray) : Rv (fun x : (T_Cube × Bool) => V.tup [(T_Cube.e x.1), (vb x.2)]) (sem_railref1_ReadCube n [(vt a0)]) (t_railref1_ReadCube a0) := by
  rw [eq_railref1_ReadCube]
  unfold t_railref1_ReadCube
  refine tb (x := (vi (a0.size : Int))) (rfl) ?_
  refine tb (x := (vb (decide ((a0.size : Int) ≠ 4)))) (d_neq) ?_
  refine tcond (fun h3 => ?_) (fun h3 => ?_)
  · refine tb (x := (T_Cube.e (T_Cube.mk 0 0))) (rfl) ?_
    refine tb (x := V.agg (T_Cube.c (T_Cube.mk 0 0))) (by kernel_rfl) ?_
    refine tb (x := (T_Cube.e (T_Cube.mk 0 0))) rfl ?_
    exact rf_ret rfl
  · refine tjoin (mk := fun s9 : (T_Cube × T_Cube) => [(V.agg (T_Cube.c s9.1)), (V.agg (T_Cube.c s9.2))]) (fun s9 => ?_) fun J8 j10 h11 => ?_
    · refine tb (x := (T_Cube.e s9.2)) (rfl) ?_
      refine tb (x := V.agg (T_Cube.c s9.2)) (by kernel_rfl) ?_
      refine tb (x := (T_Cube.e s9.2)) rfl ?_
      exact rf_ret rfl
    · refine rf_loopU (mk := fun (i21 : Int) (s17 : (T_Cube × T_Cube)) => [(V.agg (T_Cube.c s17.1)), (V.agg (T_Cube.c s17.2)), (vi i21)]) hn _ _ ((T_Cube.mk 0 0), (T_Cube.mk 0 0)) (fun i21 h22 h23 h24 s17 rec15 k18 h19 => ?_) (fun i21 s17 rec26 h25 => ?_)
      · refine tb (x := (vb (decide (i21 < 4)))) (d_lss) ?_
        refine tcond_t h22 ?_
        refine tb (x := (vi s17.2.Mask)) (rfl) ?_
        refine tb (x := (vi (wr (s17.2.Mask * 2)))) (d_mul) ?_
        refine tb (x := V.agg (T_Cube.c (T_Cube.mk (wr (s17.2.Mask * 2)) s17.2.Bits))) (by kernel_rfl) ?_
        refine tb (x := (vi s17.2.Bits)) (rfl) ?_
        refine tb (x := (vi (wr (s17.2.Bits * 2)))) (d_mul) ?_
        refine tb (x := V.agg (T_Cube.c (T_Cube.mk (wr (s17.2.Mask * 2)) (wr (s17.2.Bits * 2))))) (by kernel_rfl) ?_
        refine tbo (p_sidx (Tryz.underlying9) a0 i21) fun r35 => ?_
        refine tb (x := (vb (decide (r35 = 49)))) (q_eql) ?_
        refine tjoin (mk := fun s39 : (T_Cube × T_Cube) => [(V.agg (T_Cube.c s39.1)), (V.agg (T_Cube.c s39.2))]) (fun s39 => ?_) fun J38 j40 h41 => ?_
        · refine tb (x := (vi (i21 + 1))) (p_inc h23 h24) ?_
          exact h19 (s39.1, s39.2)
        · refine tcond (fun h43 => ?_) (fun h43 => ?_)
          · refine tb (x := (vi (wr (s17.2.Mask * 2)))) (rfl) ?_
            refine tb (x := (vi (wr ((wr (s17.2.Mask * 2)) + 1)))) (d_add) ?_
            refine tb (x := V.agg (T_Cube.c (T_Cube.mk (wr ((wr (s17.2.Mask * 2)) + 1)) (wr (s17.2.Bits * 2))))) (by kernel_rfl) ?_
            refine tb (x := (vi (wr (s17.2.Bits * 2)))) (rfl) ?_
            refine tb (x := (vi (wr ((wr (s17.2.Bits * 2)) + 1)))) (d_add) ?_
            refine tb (x := V.agg (T_Cube.c (T_Cube.mk (wr ((wr (s17.2.Mask * 2)) + 1)) (wr ((wr (s17.2.Bits * 2)) + 1))))) (by kernel_rfl) ?_
            exact h41 (s17.1, (T_Cube.mk (wr ((wr (s17.2.Mask * 2)) + 1)) (wr ((wr (s17.2.Bits * 2)) + 1))))
          · refine tbo (p_sidx (Tryz.underlying9) a0 i21) fun r51 => ?_
            refine tb (x := (vb (decide (r51 = 48)))) (q_eql) ?_
            refine tjoin (mk := fun s55 : (T_Cube × T_Cube) => [(V.agg (T_Cube.c s55.1)), (V.agg (T_Cube.c s55.2))]) (fun s55 => ?_) fun J54 j56 h57 => ?_
            · exact h41 (s55.1, s55.2)
            · refine tcond (fun h58 => ?_) (fun h58 => ?_)
              · refine tb (x := (vi (wr (s17.2.Mask * 2)))) (rfl) ?_
                refine tb (x := (vi (wr ((wr (s17.2.Mask * 2)) + 1)))) (d_add) ?_
                refine tb (x := V.agg (T_Cube.c (T_Cube.mk (wr ((wr (s17.2.Mask * 2)) + 1)) (wr (s17.2.Bits * 2))))) (by kernel_rfl) ?_
                exact h57 (s17.1, (T_Cube.mk (wr ((wr (s17.2.Mask * 2)) + 1)) (wr (s17.2.Bits * 2))))
              · refine tbo (p_sidx (Tryz.underlying9) a0 i21) fun r63 => ?_
                refine tb (x := (vb (decide (r63 ≠ 42)))) (q_neq) ?_
                refine tcond (fun h65 => ?_) (fun h65 => ?_)
                · refine tb (x := (T_Cube.e (T_Cube.mk 0 0))) (by kernel_rfl) ?_
                  refine tb (x := V.agg (T_Cube.c (T_Cube.mk 0 0))) (by kernel_rfl) ?_
                  refine tb (x := (T_Cube.e (T_Cube.mk 0 0))) rfl ?_
                  exact rf_ret rfl
                · exact h57 (s17.1, (T_Cube.mk (wr (s17.2.Mask * 2)) (wr (s17.2.Bits * 2))))
      · refine tb (x := (vb (decide (i21 < 4)))) (d_lss) ?_
        refine tcond_f h25 ?_
        exact h11 (s17.1, s17.2)

/-! railpoint/railref1.ReadRule -/
def an_railref1_ReadRule : Ann := .seq (.reg 0 [] [] []) (.seq (.reg 0 [] [] []) (.seq (.reg 0 [] [] []) (.seq (.seq (.reg 0 [] [] []) (.cond none (.seq (.reg 0 [] [] []) (.no)) (.no))) (.seq (.reg 0 [] [] []) (.seq (.reg 0 [] [] []) (.seq (.seq (.reg 0 [] [] []) (.cond none (.seq (.reg 0 [] [] []) (.no)) (.no))) (.seq (.reg 0 [] [] []) (.seq (.seq (.reg 0 [] [] []) (.cond (some [.b 2, .b 10]) (.seq (.reg 0 [] [] []) (.cond none (.seq (.reg 0 [] [] []) (.no)) (.no))) (.seq (.reg 0 [] [] []) (.seq (.seq (.reg 0 [] [] []) (.cond none (.seq (.reg 0 [] [] []) (.no)) (.no))) (.reg 0 [] [] []))))) (.seq (.seq (.reg 0 [] [] []) (.cond (some [.b 2, .b 10]) (.seq (.reg 0 [] [] []) (.seq (.seq (.reg 0 [] [] []) (.cond none (.seq (.reg 0 [] [] []) (.no)) (.no))) (.seq (.reg 0 [] [] []) (.reg 0 [] [] [])))) (.no))) (.seq (.reg 0 [] [] []) (.seq (.seq (.reg 0 [] [] []) (.cond none (.seq (.reg 0 [] [] []) (.no)) (.no))) (.seq (.reg 0 [] [] []) (.no)))))))))))))
noncomputable def sem_railref1_ReadRule (n : Nat) (xs : List V) : Option V := if xs.length ≤ 120 then denF Tryz.prog (envOf [(41, (sem_railref1_Cut n)), (42, (sem_railref1_Number n)), (43, (sem_railref1_ReadCube n)), (5, (sem_railref1_Rule n))]) n Tryz.f10 an_railref1_ReadRule xs else none
theorem ok_railref1_ReadRule (n : Nat) : SemOk Tryz.prog DW 10 (sem_railref1_ReadRule n) := fun xs y h => by
  unfold sem_railref1_ReadRule at h
  split at h
  · rename_i hl
    exact denF_ok stb Tryz.func10 (by kernel_rfl) (envOf_ok (semsOk_cons (ok_railref1_Cut n) (semsOk_cons (ok_railref1_Number n) (semsOk_cons (ok_railref1_ReadCube n) (semsOk_cons (ok_railref1_Rule n) semsOk_nil))))) (by rw [Tryz.ntmps10]; exact hl) h
  · cases h
theorem eq_railref1_ReadRule (n : Nat) (x0 : V) : sem_railref1_ReadRule n [x0] =
 ((sem_railref1_Cut n) [x0, (V.lit (Go.Value.int Go.IntKind.u8 32))]).bind fun v1 =>
 (lenS [v1]).bind fun v2 =>
 (bin2 Tryz.prog BinOp.neq 3 (ot 20) (oc 3) v2 (vi 3)).bind fun v3 =>
 (guardV v3 true (some v2)).bind fun v4 =>
 (guardV v3 true ((bin2 Tryz.prog BinOp.neq 3 (ot 23) (oc 4) v4 (vi 4)).bind fun v5 =>
 some v5)).bind fun v6 =>
 (pickV v3 v6 (vb false)).bind fun v7 =>
 (guardV v7 true (some v2)).bind fun v8 =>
 (guardV v7 true ((bin2 Tryz.prog BinOp.neq 3 (ot 27) (oc 6) v8 (vi 6)).bind fun v9 =>
 some v9)).bind fun v10 =>
 (pickV v7 v10 (vb false)).bind fun v11 =>
 condV v11 (
 ((fillL [(vi 0), (vi 0), (vi 0), (vi 0), (vi 0), (vi 0)] []).map V.agg).bind fun v12 =>
 (spliceV [(vi 0), (vi 0), (vi 0), (vi 0), (vi 0), (vi 0)] 0 6 v12).bind fun v13 =>
 (ldk (some 6) (List.drop 0 (aggL v13))).bind fun v14 =>
 some (V.tup [v14, (vi 2)])) (
 (idxS 1 v1 (vi 0)).bind fun v15 =>
 (ldp none v15).bind fun v16 =>
 ((sem_railref1_Number n) [v16]).bind fun v17 =>
 (extractV v17 0).bind fun v18 =>
 (extractV v17 1).bind fun v19 =>
 (idxS 1 v1 (vi 1)).bind fun v20 =>
 (ldp none v20).bind fun v21 =>
 ((sem_railref1_ReadCube n) [v21]).bind fun v22 =>
 (extractV v22 0).bind fun v23 =>
 (extractV v22 1).bind fun v24 =>
 (spliceV [(vi 0), (vi 0)] 0 2 v23).bind fun v25 =>
 (scal1 Tryz.prog (Op.unary Go.UnOp.not) v19).bind fun v26 =>
 (guardV v26 false (some v24)).bind fun v27 =>
 (guardV v26 false ((scal1 Tryz.prog (Op.unary Go.UnOp.not) v27).bind fun v28 =>
 some v28)).bind fun v29 =>
 (pickV v26 (vb true) v29).bind fun v30 =>
 condV v30 (
 ((fillL [(vi 0), (vi 0), (vi 0), (vi 0), (vi 0), (vi 0)] []).map V.agg).bind fun v31 =>
 (spliceV [(vi 0), (vi 0), (vi 0), (vi 0), (vi 0), (vi 0)] 0 6 v31).bind fun v32 =>
 (ldk (some 6) (List.drop 0 (aggL v32))).bind fun v33 =>
 some (V.tup [v33, (vi 2)])) (
 (ldk (some 2) (List.drop 0 (aggL v25))).bind fun v34 =>
 ((fillL [(vi 0), (vi 0), (vi 0), (vi 0), (vi 0), (vi 0)] [(0, 1, v18), (1, 2, v34)]).map V.agg).bind fun v35 =>
 (spliceV [(vi 0), (vi 0), (vi 0), (vi 0), (vi 0), (vi 0)] 0 6 v35).bind fun v36 =>
 (bin2 Tryz.prog BinOp.eql 3 (ot 55) (oc 3) v2 (vi 3)).bind fun v37 =>
 JoinPt (fun vs38 =>
 (bin2 Tryz.prog BinOp.eql 3 (ot 84) (oc 6) v2 (vi 6)).bind fun v40 =>
 JoinPt (fun vs41 =>
 (ldk (some 6) (List.drop 0 (aggL (List.getD vs41 1 V.any)))).bind fun v43 =>
 ((sem_railref1_Rule n) [v43]).bind fun v44 =>
 (bin2 Tryz.prog BinOp.neq 3 (ot 115) (oc 0) v44 (vi 0)).bind fun v45 =>
 condV v45 (
 ((fillL [(vi 0), (vi 0), (vi 0), (vi 0), (vi 0), (vi 0)] []).map V.agg).bind fun v46 =>
 (spliceV (aggL (List.getD vs41 0 V.any)) 0 6 v46).bind fun v47 =>
 (ldk (some 6) (List.drop 0 (aggL v47))).bind fun v48 =>
 some (V.tup [v48, v44])) (
 (ldk (some 6) (List.drop 0 (aggL (List.getD vs41 1 V.any)))).bind fun v49 =>
 (spliceV (aggL (List.getD vs41 0 V.any)) 0 6 v49).bind fun v50 =>
 (ldk (some 6) (List.drop 0 (aggL v50))).bind fun v51 =>
 some (V.tup [v51, (vi 0)]))) fun J42 =>
 condV v40 (
 (idxS 1 v1 (vi 5)).bind fun v52 =>
 (ldp none v52).bind fun v53 =>
 ((sem_railref1_ReadCube n) [v53]).bind fun v54 =>
 (extractV v54 0).bind fun v55 =>
 (extractV v54 1).bind fun v56 =>
 (spliceV [(vi 0), (vi 0)] 0 2 v55).bind fun v57 =>
 (idxS 1 v1 (vi 4)).bind fun v58 =>
 (ldp none v58).bind fun v59 =>
 (bin2 Tryz.prog BinOp.neq 9 (ot 95) (Operand.const (Go.Value.string (ByteArray.mk #[115, 101, 116]))) v59 (V.lit (Go.Value.string (ByteArray.mk #[115, 101, 116])))).bind fun v60 =>
 (guardV v60 false (some v56)).bind fun v61 =>
 (guardV v60 false ((scal1 Tryz.prog (Op.unary Go.UnOp.not) v61).bind fun v62 =>
 some v62)).bind fun v63 =>
 (pickV v60 (vb true) v63).bind fun v64 =>
 (guardV v64 false (some V.any)).bind fun v65 =>
 (guardV v64 false ((gate v64 false (ldk none (List.drop 0 (aggL v57)))).bind fun v66 =>
 some v66)).bind fun v67 =>
 (guardV v64 false ((bin2 Tryz.prog BinOp.eql 3 (ot 103) (oc 0) v67 (vi 0)).bind fun v68 =>
 some v68)).bind fun v69 =>
 (pickV v64 (vb true) v69).bind fun v70 =>
 condV v70 (
 ((fillL [(vi 0), (vi 0), (vi 0), (vi 0), (vi 0), (vi 0)] []).map V.agg).bind fun v71 =>
 (spliceV (aggL (List.getD vs38 0 V.any)) 0 6 v71).bind fun v72 =>
 (ldk (some 6) (List.drop 0 (aggL v72))).bind fun v73 =>
 some (V.tup [v73, (vi 2)])) (
 (ldk none (List.drop 0 (aggL v57))).bind fun v74 =>
 (spliceV (aggL (List.getD vs38 1 V.any)) 4 1 v74).bind fun v75 =>
 (ldk none (List.drop 1 (aggL v57))).bind fun v76 =>
 (spliceV (aggL v75) 5 1 v76).bind fun v77 =>
 J42 [(V.agg (aggL (List.getD vs38 0 V.any))), (V.agg (aggL v77))])) (
 J42 [(V.agg (aggL (List.getD vs38 0 V.any))), (V.agg (aggL (List.getD vs38 1 V.any)))])) fun J39 =>
 condV v37 (
 (idxS 1 v1 (vi 2)).bind fun v78 =>
 (ldp none v78).bind fun v79 =>
 (bin2 Tryz.prog BinOp.neq 9 (ot 59) (Operand.const (Go.Value.string (ByteArray.mk #[100, 114, 111, 112]))) v79 (V.lit (Go.Value.string (ByteArray.mk #[100, 114, 111, 112])))).bind fun v80 =>
 condV v80 (
 ((fillL [(vi 0), (vi 0), (vi 0), (vi 0), (vi 0), (vi 0)] []).map V.agg).bind fun v81 =>
 (spliceV [(vi 0), (vi 0), (vi 0), (vi 0), (vi 0), (vi 0)] 0 6 v81).bind fun v82 =>
 (ldk (some 6) (List.drop 0 (aggL v82))).bind fun v83 =>
 some (V.tup [v83, (vi 2)])) (
 J39 [(V.agg [(vi 0), (vi 0), (vi 0), (vi 0), (vi 0), (vi 0)]), (V.agg (aggL v36))])) (
 (idxS 1 v1 (vi 3)).bind fun v84 =>
 (ldp none v84).bind fun v85 =>
 ((sem_railref1_Number n) [v85]).bind fun v86 =>
 (extractV v86 0).bind fun v87 =>
 (extractV v86 1).bind fun v88 =>
 (idxS 1 v1 (vi 2)).bind fun v89 =>
 (ldp none v89).bind fun v90 =>
 (bin2 Tryz.prog BinOp.neq 9 (ot 71) (Operand.const (Go.Value.string (ByteArray.mk #[111, 117, 116]))) v90 (V.lit (Go.Value.string (ByteArray.mk #[111, 117, 116])))).bind fun v91 =>
 (guardV v91 false (some v88)).bind fun v92 =>
 (guardV v91 false ((scal1 Tryz.prog (Op.unary Go.UnOp.not) v92).bind fun v93 =>
 some v93)).bind fun v94 =>
 (pickV v91 (vb true) v94).bind fun v95 =>
 (guardV v95 false (some v87)).bind fun v96 =>
 (guardV v95 false ((bin2 Tryz.prog BinOp.eql 3 (ot 78) (oc 0) v96 (vi 0)).bind fun v97 =>
 some v97)).bind fun v98 =>
 (pickV v95 (vb true) v98).bind fun v99 =>
 condV v99 (
 ((fillL [(vi 0), (vi 0), (vi 0), (vi 0), (vi 0), (vi 0)] []).map V.agg).bind fun v100 =>
 (spliceV [(vi 0), (vi 0), (vi 0), (vi 0), (vi 0), (vi 0)] 0 6 v100).bind fun v101 =>
 (ldk (some 6) (List.drop 0 (aggL v101))).bind fun v102 =>
 some (V.tup [v102, (vi 2)])) (
 (spliceV (aggL v36) 3 1 v87).bind fun v103 =>
 J39 [(V.agg [(vi 0), (vi 0), (vi 0), (vi 0), (vi 0), (vi 0)]), (V.agg (aggL v103))])))) := by kernel_rfl
noncomputable def t_railref1_ReadRule (a0 : ByteArray) : Option (T_Rule × Int) :=
 (t_railref1_Cut a0 32).bind fun r2 =>
 if (((decide ((List.length r2 : Int) ≠ 3)) && (decide ((List.length r2 : Int) ≠ 4))) && (decide ((List.length r2 : Int) ≠ 6))) = true then (
 some ((T_Rule.mk 0 (T_Cube.mk 0 0) 0 0 0), 2)) else (
 (idx r2 0).bind fun r22 =>
 (t_railref1_Number r22).bind fun r25 =>
 (idx r2 1).bind fun r29 =>
 (t_railref1_ReadCube r29).bind fun r32 =>
 if ((!r25.2) || (!r32.2)) = true then (
 some ((T_Rule.mk 0 (T_Cube.mk 0 0) 0 0 0), 2)) else (
 join (fun (s53 : (T_Rule × T_Rule)) =>
 join (fun (s59 : (T_Rule × T_Rule)) =>
 (t_railref1_Rule s59.2).bind fun r64 =>
 if (decide (r64 ≠ 0)) = true then (
 some ((T_Rule.mk 0 (T_Cube.mk 0 0) 0 0 0), r64)) else (
 some (s59.2, 0))) fun j60 =>
 if (decide ((List.length r2 : Int) = 6)) = true then (
 (idx r2 5).bind fun r75 =>
 (t_railref1_ReadCube r75).bind fun r78 =>
 (idx r2 4).bind fun r83 =>
 if (((!decide (r83 = (ByteArray.mk #[115, 101, 116]))) || (!r78.2)) || (decide (r78.1.Mask = 0))) = true then (
 some ((T_Rule.mk 0 (T_Cube.mk 0 0) 0 0 0), 2)) else (
 j60 (s53.1, (T_Rule.mk s53.2.Prio s53.2.Cube s53.2.Out r78.1.Mask r78.1.Bits)))) else (
 j60 (s53.1, s53.2))) fun j54 =>
 if (decide ((List.length r2 : Int) = 3)) = true then (
 (idx r2 2).bind fun r111 =>
 if (!decide (r111 = (ByteArray.mk #[100, 114, 111, 112]))) = true then (
 some ((T_Rule.mk 0 (T_Cube.mk 0 0) 0 0 0), 2)) else (
 j54 ((T_Rule.mk 0 (T_Cube.mk 0 0) 0 0 0), (T_Rule.mk r25.1 r32.1 0 0 0)))) else (
 (idx r2 3).bind fun r119 =>
 (t_railref1_Number r119).bind fun r122 =>
 (idx r2 2).bind fun r126 =>
 if (((!decide (r126 = (ByteArray.mk #[111, 117, 116]))) || (!r122.2)) || (decide (r122.1 = 0))) = true then (
 some ((T_Rule.mk 0 (T_Cube.mk 0 0) 0 0 0), 2)) else (
 j54 ((T_Rule.mk 0 (T_Cube.mk 0 0) 0 0 0), (T_Rule.mk r25.1 r32.1 r122.1 0 0))))))
theorem ty_railref1_ReadRule {n : Nat} (hn : bigN ≤ n) (a0 : ByteArray) : Rv (fun x : (T_Rule × Int) => V.tup [(T_Rule.e x.1), (vi x.2)]) (sem_railref1_ReadRule n [(vt a0)]) (t_railref1_ReadRule a0) := by
  rw [eq_railref1_ReadRule]
  unfold t_railref1_ReadRule
  refine tbo (ty_railref1_Cut hn a0 32) fun r2 => ?_
  refine tb (x := (vi (List.length r2 : Int))) (p_len _) ?_
  refine tb (x := (vb (decide ((List.length r2 : Int) ≠ 3)))) (d_neq) ?_
  refine tg (x := (vi (List.length r2 : Int))) (fun h5 => rfl) ?_
  refine tg (x := (vb (decide ((List.length r2 : Int) ≠ 4)))) (fun h7 => by simp only [gv_t h7]; exact bind_some_eq (d_neq)) ?_
  refine tb (x := (vb ((decide ((List.length r2 : Int) ≠ 3)) && (decide ((List.length r2 : Int) ≠ 4))))) (pick_and (fun h9 => gv_t h9)) ?_
  refine tg (x := (vi (List.length r2 : Int))) (fun h11 => rfl) ?_
  refine tg (x := (vb (decide ((List.length r2 : Int) ≠ 6)))) (fun h13 => by simp only [gv_t h13]; exact bind_some_eq (d_neq)) ?_
  refine tb (x := (vb (((decide ((List.length r2 : Int) ≠ 3)) && (decide ((List.length r2 : Int) ≠ 4))) && (decide ((List.length r2 : Int) ≠ 6))))) (pick_and (fun h9 => gv_t h9)) ?_
  refine tcond (fun h17 => ?_) (fun h17 => ?_)
  · refine tb (x := (T_Rule.e (T_Rule.mk 0 (T_Cube.mk 0 0) 0 0 0))) (by kernel_rfl) ?_
    refine tb (x := V.agg (T_Rule.c (T_Rule.mk 0 (T_Cube.mk 0 0) 0 0 0))) (by kernel_rfl) ?_
    refine tb (x := (T_Rule.e (T_Rule.mk 0 (T_Cube.mk 0 0) 0 0 0))) rfl ?_
    exact rf_ret rfl
  · refine tbo (p_idx (c := cT) (fun _ => rfl) r2 0) fun r22 => ?_
    refine tb (x := (vt r22)) (rfl) ?_
    refine tbo (ty_railref1_Number hn r22) fun r25 => ?_
    refine tb (x := (vi r25.1)) (rfl) ?_
    refine tb (x := (vb r25.2)) (rfl) ?_
    refine tbo (p_idx (c := cT) (fun _ => rfl) r2 1) fun r29 => ?_
    refine tb (x := (vt r29)) (rfl) ?_
    refine tbo (ty_railref1_ReadCube hn r29) fun r32 => ?_
    refine tb (x := (T_Cube.e r32.1)) (rfl) ?_
    refine tb (x := (vb r32.2)) (rfl) ?_
    refine tb (x := V.agg (T_Cube.c r32.1)) (by kernel_rfl) ?_
    refine tb (x := (vb (!r25.2))) (d_not) ?_
    refine tg_f (x := (vb r32.2)) (fun h37 => rfl) ?_
    refine tg_f (x := (vb (!r32.2))) (fun h39 => by simp only [gv_t h39]; exact bind_some_eq (d_not)) ?_
    refine tb (x := (vb ((!r25.2) || (!r32.2)))) (pick_or (fun h9 => gv_t (not_f h9))) ?_
    refine tcond (fun h43 => ?_) (fun h43 => ?_)
    · refine tb (x := (T_Rule.e (T_Rule.mk 0 (T_Cube.mk 0 0) 0 0 0))) (by kernel_rfl) ?_
      refine tb (x := V.agg (T_Rule.c (T_Rule.mk 0 (T_Cube.mk 0 0) 0 0 0))) (by kernel_rfl) ?_
      refine tb (x := (T_Rule.e (T_Rule.mk 0 (T_Cube.mk 0 0) 0 0 0))) rfl ?_
      exact rf_ret rfl
    · refine tb (x := (T_Cube.e r32.1)) (rfl) ?_
      refine tb (x := (T_Rule.e (T_Rule.mk r25.1 r32.1 0 0 0))) (by kernel_rfl) ?_
      refine tb (x := V.agg (T_Rule.c (T_Rule.mk r25.1 r32.1 0 0 0))) (by kernel_rfl) ?_
      refine tb (x := (vb (decide ((List.length r2 : Int) = 3)))) (d_eql) ?_
      refine tjoin (mk := fun s53 : (T_Rule × T_Rule) => [(V.agg (T_Rule.c s53.1)), (V.agg (T_Rule.c s53.2))]) (fun s53 => ?_) fun J52 j54 h55 => ?_
      · refine tb (x := (vb (decide ((List.length r2 : Int) = 6)))) (d_eql) ?_
        refine tjoin (mk := fun s59 : (T_Rule × T_Rule) => [(V.agg (T_Rule.c s59.1)), (V.agg (T_Rule.c s59.2))]) (fun s59 => ?_) fun J58 j60 h61 => ?_
        · refine tb (x := (T_Rule.e s59.2)) (rfl) ?_
          refine tbo (ty_railref1_Rule hn s59.2) fun r64 => ?_
          refine tb (x := (vb (decide (r64 ≠ 0)))) (d_neq) ?_
          refine tcond (fun h66 => ?_) (fun h66 => ?_)
          · refine tb (x := (T_Rule.e (T_Rule.mk 0 (T_Cube.mk 0 0) 0 0 0))) (by kernel_rfl) ?_
            refine tb (x := V.agg (T_Rule.c (T_Rule.mk 0 (T_Cube.mk 0 0) 0 0 0))) (by kernel_rfl) ?_
            refine tb (x := (T_Rule.e (T_Rule.mk 0 (T_Cube.mk 0 0) 0 0 0))) rfl ?_
            exact rf_ret rfl
          · refine tb (x := (T_Rule.e s59.2)) (rfl) ?_
            refine tb (x := V.agg (T_Rule.c s59.2)) (by kernel_rfl) ?_
            refine tb (x := (T_Rule.e s59.2)) rfl ?_
            exact rf_ret rfl
        · refine tcond (fun h73 => ?_) (fun h73 => ?_)
          · refine tbo (p_idx (c := cT) (fun _ => rfl) r2 5) fun r75 => ?_
            refine tb (x := (vt r75)) (rfl) ?_
            refine tbo (ty_railref1_ReadCube hn r75) fun r78 => ?_
            refine tb (x := (T_Cube.e r78.1)) (rfl) ?_
            refine tb (x := (vb r78.2)) (rfl) ?_
            refine tb (x := V.agg (T_Cube.c r78.1)) (by kernel_rfl) ?_
            refine tbo (p_idx (c := cT) (fun _ => rfl) r2 4) fun r83 => ?_
            refine tb (x := (vt r83)) (rfl) ?_
            refine tb (x := (vb (!decide (r83 = (ByteArray.mk #[115, 101, 116]))))) (p_neq_str) ?_
            refine tg_f (x := (vb r78.2)) (fun h86 => rfl) ?_
            refine tg_f (x := (vb (!r78.2))) (fun h88 => by simp only [gv_t h88]; exact bind_some_eq (d_not)) ?_
            refine tb (x := (vb ((!decide (r83 = (ByteArray.mk #[115, 101, 116]))) || (!r78.2)))) (pick_or (fun h9 => gv_t (not_f h9))) ?_
            refine tg_f (x := V.any) (fun h92 => rfl) ?_
            refine tg_f (x := (vi r78.1.Mask)) (fun h94 => bind_some_eq (gate_pos (not_t h94) (rfl))) ?_
            refine tg_f (x := (vb (decide (r78.1.Mask = 0)))) (fun h97 => by simp only [gv_t h97]; exact bind_some_eq (d_eql)) ?_
            refine tb (x := (vb (((!decide (r83 = (ByteArray.mk #[115, 101, 116]))) || (!r78.2)) || (decide (r78.1.Mask = 0))))) (pick_or (fun h9 => gv_t (not_f h9))) ?_
            refine tcond (fun h101 => ?_) (fun h101 => ?_)
            · refine tb (x := (T_Rule.e (T_Rule.mk 0 (T_Cube.mk 0 0) 0 0 0))) (by kernel_rfl) ?_
              refine tb (x := V.agg (T_Rule.c (T_Rule.mk 0 (T_Cube.mk 0 0) 0 0 0))) (by kernel_rfl) ?_
              refine tb (x := (T_Rule.e (T_Rule.mk 0 (T_Cube.mk 0 0) 0 0 0))) rfl ?_
              exact rf_ret rfl
            · refine tb (x := (vi r78.1.Mask)) (rfl) ?_
              refine tb (x := V.agg (T_Rule.c (T_Rule.mk s53.2.Prio s53.2.Cube s53.2.Out r78.1.Mask s53.2.Value))) (by kernel_rfl) ?_
              refine tb (x := (vi r78.1.Bits)) (rfl) ?_
              refine tb (x := V.agg (T_Rule.c (T_Rule.mk s53.2.Prio s53.2.Cube s53.2.Out r78.1.Mask r78.1.Bits))) (by kernel_rfl) ?_
              exact h61 (s53.1, (T_Rule.mk s53.2.Prio s53.2.Cube s53.2.Out r78.1.Mask r78.1.Bits))
          · exact h61 (s53.1, s53.2)
      · refine tcond (fun h109 => ?_) (fun h109 => ?_)
        · refine tbo (p_idx (c := cT) (fun _ => rfl) r2 2) fun r111 => ?_
          refine tb (x := (vt r111)) (rfl) ?_
          refine tb (x := (vb (!decide (r111 = (ByteArray.mk #[100, 114, 111, 112]))))) (p_neq_str) ?_
          refine tcond (fun h114 => ?_) (fun h114 => ?_)
          · refine tb (x := (T_Rule.e (T_Rule.mk 0 (T_Cube.mk 0 0) 0 0 0))) (by kernel_rfl) ?_
            refine tb (x := V.agg (T_Rule.c (T_Rule.mk 0 (T_Cube.mk 0 0) 0 0 0))) (by kernel_rfl) ?_
            refine tb (x := (T_Rule.e (T_Rule.mk 0 (T_Cube.mk 0 0) 0 0 0))) rfl ?_
            exact rf_ret rfl
          · exact h55 ((T_Rule.mk 0 (T_Cube.mk 0 0) 0 0 0), (T_Rule.mk r25.1 r32.1 0 0 0))
        · refine tbo (p_idx (c := cT) (fun _ => rfl) r2 3) fun r119 => ?_
          refine tb (x := (vt r119)) (rfl) ?_
          refine tbo (ty_railref1_Number hn r119) fun r122 => ?_
          refine tb (x := (vi r122.1)) (rfl) ?_
          refine tb (x := (vb r122.2)) (rfl) ?_
          refine tbo (p_idx (c := cT) (fun _ => rfl) r2 2) fun r126 => ?_
          refine tb (x := (vt r126)) (rfl) ?_
          refine tb (x := (vb (!decide (r126 = (ByteArray.mk #[111, 117, 116]))))) (p_neq_str) ?_
          refine tg_f (x := (vb r122.2)) (fun h129 => rfl) ?_
          refine tg_f (x := (vb (!r122.2))) (fun h131 => by simp only [gv_t h131]; exact bind_some_eq (d_not)) ?_
          refine tb (x := (vb ((!decide (r126 = (ByteArray.mk #[111, 117, 116]))) || (!r122.2)))) (pick_or (fun h9 => gv_t (not_f h9))) ?_
          refine tg_f (x := (vi r122.1)) (fun h135 => rfl) ?_
          refine tg_f (x := (vb (decide (r122.1 = 0)))) (fun h137 => by simp only [gv_t h137]; exact bind_some_eq (d_eql)) ?_
          refine tb (x := (vb (((!decide (r126 = (ByteArray.mk #[111, 117, 116]))) || (!r122.2)) || (decide (r122.1 = 0))))) (pick_or (fun h9 => gv_t (not_f h9))) ?_
          refine tcond (fun h141 => ?_) (fun h141 => ?_)
          · refine tb (x := (T_Rule.e (T_Rule.mk 0 (T_Cube.mk 0 0) 0 0 0))) (by kernel_rfl) ?_
            refine tb (x := V.agg (T_Rule.c (T_Rule.mk 0 (T_Cube.mk 0 0) 0 0 0))) (by kernel_rfl) ?_
            refine tb (x := (T_Rule.e (T_Rule.mk 0 (T_Cube.mk 0 0) 0 0 0))) rfl ?_
            exact rf_ret rfl
          · refine tb (x := V.agg (T_Rule.c (T_Rule.mk r25.1 r32.1 r122.1 0 0))) (by kernel_rfl) ?_
            exact h55 ((T_Rule.mk 0 (T_Cube.mk 0 0) 0 0 0), (T_Rule.mk r25.1 r32.1 r122.1 0 0))

/-! railpoint/cube.Parse -/
def an_cube_Parse : Ann := .seq (.reg 0 [] [] []) (.seq (.reg 0 [] [] []) (.seq (.seq (.reg 0 [] [] []) (.cond none (.seq (.reg 0 [] [] []) (.no)) (.no))) (.seq (.seq (.reg 0 [] [] []) (.blk (some [.b 2, .b 4]) (.loop [.b 2, .b 4, .s 15] (.seq (.reg 0 [] [] []) (.seq (.cond none (.no) (.no)) (.seq (.blk none (.seq (.reg 0 [] [] []) (.seq (.reg 0 [] [] []) (.seq (.reg 0 [] [] []) (.blk none (.seq (.reg 0 [] [] []) (.cond (some [.b 2, .b 4]) (.reg 0 [] [] []) (.seq (.reg 0 [] [] []) (.cond (some [.b 2, .b 4]) (.reg 0 [] [] []) (.seq (.reg 0 [] [] []) (.cond none (.no) (.seq (.reg 0 [] [] []) (.no))))))))))))) (.reg 0 [] [] []))))))) (.seq (.reg 0 [] [] []) (.no)))))
noncomputable def sem_cube_Parse (n : Nat) (xs : List V) : Option V := if xs.length ≤ 50 then denF Tryz.prog (envOf []) n Tryz.f71 an_cube_Parse xs else none
theorem ok_cube_Parse (n : Nat) : SemOk Tryz.prog DW 71 (sem_cube_Parse n) := fun xs y h => by
  unfold sem_cube_Parse at h
  split at h
  · rename_i hl
    exact denF_ok stb Tryz.func71 (by kernel_rfl) (envOf_ok semsOk_nil) (by rw [Tryz.ntmps71]; exact hl) h
  · cases h
theorem eq_cube_Parse (n : Nat) (x0 : V) : sem_cube_Parse n [x0] =
 (lenT [x0]).bind fun v1 =>
 (bin2 Tryz.prog BinOp.neq 3 (ot 8) (oc 4) v1 (vi 4)).bind fun v2 =>
 condV v2 (
 (ldk (some 2) (List.drop 0 [(vi 0), (vi 0)])).bind fun v3 =>
 (scal1 Tryz.prog (Instr.makeInterface 86) (vi 2)).bind fun v4 =>
 (spliceV [(vi 0), (vi 0)] 0 2 v3).bind fun v5 =>
 (ldk (some 2) (List.drop 0 (aggL v5))).bind fun v6 =>
 some (V.tup [v6, v4])) (
 (s2b x0).bind fun v7 =>
 (lenS [v7]).bind fun v8 =>
 JoinPt (fun vs9 =>
 (ldk (some 2) (List.drop 0 (aggL (List.getD vs9 1 V.any)))).bind fun v11 =>
 (spliceV (aggL (List.getD vs9 0 V.any)) 0 2 v11).bind fun v12 =>
 (ldk (some 2) (List.drop 0 (aggL v12))).bind fun v13 =>
 some (V.tup [v13, vn])) fun J10 =>
 (fixN (fun rec14 vs15 =>
 (bin2 Tryz.prog BinOp.lss 3 (ot 15) (ot 14) (List.getD vs15 2 V.any) v8).bind fun v16 =>
 condV v16 (
 (idxS 1 v7 (List.getD vs15 2 V.any)).bind fun v17 =>
 (ldp none v17).bind fun v18 =>
 (ldk none (List.drop 0 (aggL (List.getD vs15 1 V.any)))).bind fun v19 =>
 (bin2 Tryz.prog BinOp.shl 3 (ot 20) (Operand.const (Go.Value.int Go.IntKind.u64 1)) v19 (V.lit (Go.Value.int Go.IntKind.u64 1))).bind fun v20 =>
 (ldk none (List.drop 1 (aggL (List.getD vs15 1 V.any)))).bind fun v21 =>
 (bin2 Tryz.prog BinOp.shl 3 (ot 23) (Operand.const (Go.Value.int Go.IntKind.u64 1)) v21 (V.lit (Go.Value.int Go.IntKind.u64 1))).bind fun v22 =>
 (spliceV (aggL (List.getD vs15 1 V.any)) 0 1 v20).bind fun v23 =>
 (spliceV (aggL v23) 1 1 v22).bind fun v24 =>
 (bin2 Tryz.prog BinOp.eql 5 (ot 27) (Operand.const (Go.Value.int Go.IntKind.u8 49)) v18 (V.lit (Go.Value.int Go.IntKind.u8 49))).bind fun v25 =>
 JoinPt (fun vs26 =>
 (bin2 Tryz.prog BinOp.add 3 (ot 15) (oc 1) (List.getD vs15 2 V.any) (vi 1)).bind fun v28 =>
 rec14 [(V.agg (aggL (List.getD vs26 0 V.any))), (V.agg (aggL (List.getD vs26 1 V.any))), v28]) fun J27 =>
 condV v25 (
 (ldk none (List.drop 0 (aggL v24))).bind fun v29 =>
 (bin2 Tryz.prog BinOp.or 3 (ot 33) (oc 1) v29 (vi 1)).bind fun v30 =>
 (ldk none (List.drop 1 (aggL v24))).bind fun v31 =>
 (bin2 Tryz.prog BinOp.or 3 (ot 36) (oc 1) v31 (vi 1)).bind fun v32 =>
 (spliceV (aggL v24) 0 1 v30).bind fun v33 =>
 (spliceV (aggL v33) 1 1 v32).bind fun v34 =>
 J27 [(V.agg (aggL (List.getD vs15 0 V.any))), (V.agg (aggL v34))]) (
 (bin2 Tryz.prog BinOp.eql 5 (ot 27) (Operand.const (Go.Value.int Go.IntKind.u8 48)) v18 (V.lit (Go.Value.int Go.IntKind.u8 48))).bind fun v35 =>
 JoinPt (fun vs36 =>
 J27 [(V.agg (aggL (List.getD vs36 0 V.any))), (V.agg (aggL (List.getD vs36 1 V.any)))]) fun J37 =>
 condV v35 (
 (ldk none (List.drop 0 (aggL v24))).bind fun v38 =>
 (bin2 Tryz.prog BinOp.or 3 (ot 43) (oc 1) v38 (vi 1)).bind fun v39 =>
 (spliceV (aggL v24) 0 1 v39).bind fun v40 =>
 J37 [(V.agg (aggL (List.getD vs15 0 V.any))), (V.agg (aggL v40))]) (
 (bin2 Tryz.prog BinOp.eql 5 (ot 27) (Operand.const (Go.Value.int Go.IntKind.u8 42)) v18 (V.lit (Go.Value.int Go.IntKind.u8 42))).bind fun v41 =>
 condV v41 (
 J37 [(V.agg (aggL (List.getD vs15 0 V.any))), (V.agg (aggL v24))]) (
 ((fillL [(vi 0), (vi 0)] []).map V.agg).bind fun v42 =>
 (scal1 Tryz.prog (Instr.makeInterface 86) (vi 2)).bind fun v43 =>
 (spliceV (aggL (List.getD vs15 0 V.any)) 0 2 v42).bind fun v44 =>
 (ldk (some 2) (List.drop 0 (aggL v44))).bind fun v45 =>
 some (V.tup [v45, v43]))))) (
 J10 [(V.agg (aggL (List.getD vs15 0 V.any))), (V.agg (aggL (List.getD vs15 1 V.any)))])) n) [(V.agg [(vi 0), (vi 0)]), (V.agg [(vi 0), (vi 0)]), (vi 0)]) := by kernel_rfl
noncomputable def t_cube_Parse (a0 : ByteArray) : Option (T_Cube × Int) :=
 if (decide ((a0.size : Int) ≠ 4)) = true then (
 some ((T_Cube.mk 0 0), 2)) else (
 need (decide ((a0.size : Int) ≤ maxI)) (
 join (fun (s12 : (T_Cube × T_Cube)) =>
 some (s12.2, 0)) fun j13 =>
 loopI (numsOf a0) (fun (i24 : Int) x25 (s20 : (T_Cube × T_Cube)) k21 =>
 join (fun (s41 : (T_Cube × T_Cube)) =>
 k21 (s41.1, s41.2)) fun j42 =>
 if (decide (x25 = 49)) = true then (
 j42 (s20.1, (T_Cube.mk (bits .or .i64 (wr (s20.2.Mask * 2 ^ (min (Int.toNat 1) 64))) 1) (bits .or .i64 (wr (s20.2.Bits * 2 ^ (min (Int.toNat 1) 64))) 1)))) else (
 join (fun (s55 : (T_Cube × T_Cube)) =>
 j42 (s55.1, s55.2)) fun j56 =>
 if (decide (x25 = 48)) = true then (
 j56 (s20.1, (T_Cube.mk (bits .or .i64 (wr (s20.2.Mask * 2 ^ (min (Int.toNat 1) 64))) 1) (wr (s20.2.Bits * 2 ^ (min (Int.toNat 1) 64)))))) else (
 if (decide (x25 = 42)) = true then (
 j56 (s20.1, (T_Cube.mk (wr (s20.2.Mask * 2 ^ (min (Int.toNat 1) 64))) (wr (s20.2.Bits * 2 ^ (min (Int.toNat 1) 64)))))) else (
 some ((T_Cube.mk 0 0), 2))))) (fun (s20 : (T_Cube × T_Cube)) =>
 j13 (s20.1, s20.2)) ((T_Cube.mk 0 0), (T_Cube.mk 0 0))))
theorem ty_cube_Parse {n : Nat} (hn : bigN ≤ n) (a0 : ByteArray) : Rv (fun x : (T_Cube × Int) => V.tup [(T_Cube.e x.1), (eV x.2)]) (sem_cube_Parse n [(vt a0)]) (t_cube_Parse a0) := by
  rw [eq_cube_Parse]
  unfold t_cube_Parse
  refine tb (x := (vi (a0.size : Int))) (rfl) ?_
  refine tb (x := (vb (decide ((a0.size : Int) ≠ 4)))) (d_neq) ?_
  refine tcond (fun h3 => ?_) (fun h3 => ?_)
  · refine tb (x := (T_Cube.e (T_Cube.mk 0 0))) (rfl) ?_
    refine tb (x := (eV 2)) (p_mkE (by decide)) ?_
    refine tb (x := V.agg (T_Cube.c (T_Cube.mk 0 0))) (by kernel_rfl) ?_
    refine tb (x := (T_Cube.e (T_Cube.mk 0 0))) rfl ?_
    exact rf_ret rfl
  · refine tneed (x := (V.sl (List.map cY (numsOf a0)))) (fun h71 => p_s2b h71) fun h71 => ?_
    refine tb (x := (vi (List.length (numsOf a0) : Int))) (p_len _) ?_
    refine tjoin (mk := fun s12 : (T_Cube × T_Cube) => [(V.agg (T_Cube.c s12.1)), (V.agg (T_Cube.c s12.2))]) (fun s12 => ?_) fun J11 j13 h14 => ?_
    · refine tb (x := (T_Cube.e s12.2)) (rfl) ?_
      refine tb (x := V.agg (T_Cube.c s12.2)) (by kernel_rfl) ?_
      refine tb (x := (T_Cube.e s12.2)) rfl ?_
      exact rf_ret rfl
    · refine rf_loopI (mk := fun (i24 : Int) (s20 : (T_Cube × T_Cube)) => [(V.agg (T_Cube.c s20.1)), (V.agg (T_Cube.c s20.2)), (vi (i24 : Int))]) hn (numsOf a0) ((T_Cube.mk 0 0), (T_Cube.mk 0 0)) (fun i24 x25 h26 h27 h28 s20 rec18 k21 h22 => ?_) (fun s20 rec69 h68 => ?_)
      · refine tb (x := (vb (decide ((i24 : Int) < (List.length (numsOf a0) : Int))))) (d_lss) ?_
        refine tcond_t h28 ?_
        refine tb (x := (V.ptr [(V.lit (.int .u8 x25))])) (p_idx_at (c := cY) (fun _ => rfl) h26) ?_
        refine tb (x := (V.lit (.int .u8 x25))) (rfl) ?_
        refine tb (x := (vi s20.2.Mask)) (rfl) ?_
        refine tb (x := (vi (wr (s20.2.Mask * 2 ^ (min (Int.toNat 1) 64))))) (p_shl (b := 1) (by decide)) ?_
        refine tb (x := (vi s20.2.Bits)) (rfl) ?_
        refine tb (x := (vi (wr (s20.2.Bits * 2 ^ (min (Int.toNat 1) 64))))) (p_shl (b := 1) (by decide)) ?_
        refine tb (x := V.agg (T_Cube.c (T_Cube.mk (wr (s20.2.Mask * 2 ^ (min (Int.toNat 1) 64))) s20.2.Bits))) (by kernel_rfl) ?_
        refine tb (x := V.agg (T_Cube.c (T_Cube.mk (wr (s20.2.Mask * 2 ^ (min (Int.toNat 1) 64))) (wr (s20.2.Bits * 2 ^ (min (Int.toNat 1) 64)))))) (by kernel_rfl) ?_
        refine tb (x := (vb (decide (x25 = 49)))) (q_eql) ?_
        refine tjoin (mk := fun s41 : (T_Cube × T_Cube) => [(V.agg (T_Cube.c s41.1)), (V.agg (T_Cube.c s41.2))]) (fun s41 => ?_) fun J40 j42 h43 => ?_
        · refine tb (x := (vi ((i24 : Int) + 1))) (p_incN h27) ?_
          exact h22 (s41.1, s41.2)
        · refine tcond (fun h45 => ?_) (fun h45 => ?_)
          · refine tb (x := (vi (wr (s20.2.Mask * 2 ^ (min (Int.toNat 1) 64))))) (rfl) ?_
            refine tb (x := (vi (bits .or .i64 (wr (s20.2.Mask * 2 ^ (min (Int.toNat 1) 64))) 1))) (d_or) ?_
            refine tb (x := (vi (wr (s20.2.Bits * 2 ^ (min (Int.toNat 1) 64))))) (rfl) ?_
            refine tb (x := (vi (bits .or .i64 (wr (s20.2.Bits * 2 ^ (min (Int.toNat 1) 64))) 1))) (d_or) ?_
            refine tb (x := V.agg (T_Cube.c (T_Cube.mk (bits .or .i64 (wr (s20.2.Mask * 2 ^ (min (Int.toNat 1) 64))) 1) (wr (s20.2.Bits * 2 ^ (min (Int.toNat 1) 64)))))) (by kernel_rfl) ?_
            refine tb (x := V.agg (T_Cube.c (T_Cube.mk (bits .or .i64 (wr (s20.2.Mask * 2 ^ (min (Int.toNat 1) 64))) 1) (bits .or .i64 (wr (s20.2.Bits * 2 ^ (min (Int.toNat 1) 64))) 1)))) (by kernel_rfl) ?_
            exact h43 (s20.1, (T_Cube.mk (bits .or .i64 (wr (s20.2.Mask * 2 ^ (min (Int.toNat 1) 64))) 1) (bits .or .i64 (wr (s20.2.Bits * 2 ^ (min (Int.toNat 1) 64))) 1)))
          · refine tb (x := (vb (decide (x25 = 48)))) (q_eql) ?_
            refine tjoin (mk := fun s55 : (T_Cube × T_Cube) => [(V.agg (T_Cube.c s55.1)), (V.agg (T_Cube.c s55.2))]) (fun s55 => ?_) fun J54 j56 h57 => ?_
            · exact h43 (s55.1, s55.2)
            · refine tcond (fun h58 => ?_) (fun h58 => ?_)
              · refine tb (x := (vi (wr (s20.2.Mask * 2 ^ (min (Int.toNat 1) 64))))) (rfl) ?_
                refine tb (x := (vi (bits .or .i64 (wr (s20.2.Mask * 2 ^ (min (Int.toNat 1) 64))) 1))) (d_or) ?_
                refine tb (x := V.agg (T_Cube.c (T_Cube.mk (bits .or .i64 (wr (s20.2.Mask * 2 ^ (min (Int.toNat 1) 64))) 1) (wr (s20.2.Bits * 2 ^ (min (Int.toNat 1) 64)))))) (by kernel_rfl) ?_
                exact h57 (s20.1, (T_Cube.mk (bits .or .i64 (wr (s20.2.Mask * 2 ^ (min (Int.toNat 1) 64))) 1) (wr (s20.2.Bits * 2 ^ (min (Int.toNat 1) 64)))))
              · refine tb (x := (vb (decide (x25 = 42)))) (q_eql) ?_
                refine tcond (fun h63 => ?_) (fun h63 => ?_)
                · exact h57 (s20.1, (T_Cube.mk (wr (s20.2.Mask * 2 ^ (min (Int.toNat 1) 64))) (wr (s20.2.Bits * 2 ^ (min (Int.toNat 1) 64)))))
                · refine tb (x := (T_Cube.e (T_Cube.mk 0 0))) (by kernel_rfl) ?_
                  refine tb (x := (eV 2)) (p_mkE (by decide)) ?_
                  refine tb (x := V.agg (T_Cube.c (T_Cube.mk 0 0))) (by kernel_rfl) ?_
                  refine tb (x := (T_Cube.e (T_Cube.mk 0 0))) rfl ?_
                  exact rf_ret rfl
      · refine tb (x := (vb (decide ((List.length (numsOf a0) : Int) < (List.length (numsOf a0) : Int))))) (d_lss) ?_
        refine tcond_f h68 ?_
        exact h14 (s20.1, s20.2)

/-! railpoint/rule.read -/
def an_rule_read : Ann := .seq (.reg 0 [] [] []) (.seq (.reg 0 [] [] []) (.seq (.seq (.reg 0 [] [] []) (.cond none (.seq (.reg 0 [] [] []) (.no)) (.no))) (.seq (.reg 0 [] [] []) (.seq (.reg 0 [] [] []) (.seq (.reg 10 [7] [] []) (.seq (.seq (.reg 0 [] [] []) (.cond none (.seq (.reg 0 [] [] []) (.no)) (.no))) (.seq (.seq (.reg 0 [] [] []) (.cond none (.seq (.reg 0 [] [] []) (.no)) (.no))) (.seq (.seq (.reg 0 [] [] []) (.cond none (.seq (.reg 0 [] [] []) (.no)) (.no))) (.seq (.seq (.reg 0 [] [] []) (.seq (.reg 0 [] [] []) (.cond none (.seq (.reg 0 [] [] []) (.no)) (.no)))) (.seq (.seq (.reg 0 [] [] []) (.cond none (.seq (.reg 0 [] [] []) (.seq (.reg 24 [9] [] []) (.seq (.reg 16399 [] [] []) (.no)))) (.no))) (.seq (.reg 0 [] [] []) (.no))))))))))))
noncomputable def sem_rule_read (n : Nat) (xs : List V) : Option V := if xs.length ≤ 110 then denF Tryz.prog (envOf [(61, (sem_Number)), (71, (sem_cube_Parse n))]) n Tryz.f44 an_rule_read xs else none
theorem ok_rule_read (n : Nat) : SemOk Tryz.prog DW 44 (sem_rule_read n) := fun xs y h => by
  unfold sem_rule_read at h
  split at h
  · rename_i hl
    exact denF_ok stb Tryz.func44 (by kernel_rfl) (envOf_ok (semsOk_cons (ok_Number) (semsOk_cons (ok_cube_Parse n) semsOk_nil))) (by rw [Tryz.ntmps44]; exact hl) h
  · cases h
theorem eq_rule_read (n : Nat) (x0 : V) : sem_rule_read n [x0] =
 (lenS [x0]).bind fun v1 =>
 (bin2 Tryz.prog BinOp.lss 3 (ot 12) (oc 3) v1 (vi 3)).bind fun v2 =>
 condV v2 (
 (ldk (some 6) (List.drop 0 [(vi 0), (vi 0), (vi 0), (vi 0), (vi 0), (vi 0)])).bind fun v3 =>
 (spliceV [(vi 0), (vi 0), (vi 0), (vi 0), (vi 0), (vi 0)] 0 6 v3).bind fun v4 =>
 (ldk (some 6) (List.drop 0 (aggL v4))).bind fun v5 =>
 some (V.tup [v5, (vb false)])) (
 (idxS 1 x0 (vi 0)).bind fun v6 =>
 (ldp none v6).bind fun v7 =>
 ((sem_Number) [v7]).bind fun v8 =>
 (extractV v8 0).bind fun v9 =>
 (extractV v8 1).bind fun v10 =>
 (idxS 1 x0 (vi 1)).bind fun v11 =>
 (ldp none v11).bind fun v12 =>
 ((sem_cube_Parse n) [v12]).bind fun v13 =>
 (extractV v13 0).bind fun v14 =>
 (extractV v13 1).bind fun v15 =>
 (spliceV [(vi 0), (vi 0)] 0 2 v14).bind fun v16 =>
 (ldp (some 2) (V.ptr (aggL v16))).bind fun v17 =>
 (litV v17).bind fun v18 =>
 (spliceV [(vi 0), (vi 0), (vi 0), (vi 0), (vi 0), (vi 0)] 0 1 v9).bind fun v19 =>
 (spliceV (aggL v19) 1 2 v18).bind fun v20 =>
 (scal1 Tryz.prog (Op.unary Go.UnOp.not) v10).bind fun v21 =>
 (guardV v21 false (some v15)).bind fun v22 =>
 (guardV v21 false ((bin2 Tryz.prog BinOp.neq 31 (ot 36) (Operand.const Go.Value.nilIface) v22 vn).bind fun v23 =>
 some v23)).bind fun v24 =>
 (pickV v21 (vb true) v24).bind fun v25 =>
 condV v25 (
 (ldk (some 6) (List.drop 0 (aggL v20))).bind fun v26 =>
 (spliceV [(vi 0), (vi 0), (vi 0), (vi 0), (vi 0), (vi 0)] 0 6 v26).bind fun v27 =>
 (ldk (some 6) (List.drop 0 (aggL v27))).bind fun v28 =>
 some (V.tup [v28, (vb false)])) (
 (idxS 1 x0 (vi 2)).bind fun v29 =>
 (ldp none v29).bind fun v30 =>
 (bin2 Tryz.prog BinOp.eql 9 (ot 42) (Operand.const (Go.Value.string (ByteArray.mk #[100, 114, 111, 112]))) v30 (V.lit (Go.Value.string (ByteArray.mk #[100, 114, 111, 112])))).bind fun v31 =>
 condV v31 (
 (ldk (some 6) (List.drop 0 (aggL v20))).bind fun v32 =>
 (lenS [x0]).bind fun v33 =>
 (bin2 Tryz.prog BinOp.eql 3 (ot 46) (oc 3) v33 (vi 3)).bind fun v34 =>
 (spliceV [(vi 0), (vi 0), (vi 0), (vi 0), (vi 0), (vi 0)] 0 6 v32).bind fun v35 =>
 (ldk (some 6) (List.drop 0 (aggL v35))).bind fun v36 =>
 some (V.tup [v36, v34])) (
 (idxS 1 x0 (vi 2)).bind fun v37 =>
 (ldp none v37).bind fun v38 =>
 (bin2 Tryz.prog BinOp.neq 9 (ot 50) (Operand.const (Go.Value.string (ByteArray.mk #[111, 117, 116]))) v38 (V.lit (Go.Value.string (ByteArray.mk #[111, 117, 116])))).bind fun v39 =>
 (guardV v39 false (some x0)).bind fun v40 =>
 (guardV v39 false ((lenS [v40]).bind fun v41 =>
 some v41)).bind fun v42 =>
 (guardV v39 false ((bin2 Tryz.prog BinOp.neq 3 (ot 54) (oc 4) v42 (vi 4)).bind fun v43 =>
 some v43)).bind fun v44 =>
 (guardV v39 false (some v44)).bind fun v45 =>
 (guardV v45 true (some x0)).bind fun v46 =>
 (guardV v45 true ((lenS [v46]).bind fun v47 =>
 some v47)).bind fun v48 =>
 (guardV v45 true ((bin2 Tryz.prog BinOp.neq 3 (ot 58) (oc 6) v48 (vi 6)).bind fun v49 =>
 some v49)).bind fun v50 =>
 (guardV v39 false ((pickV v45 v50 (vb false)).bind fun v51 =>
 some v51)).bind fun v52 =>
 (pickV v39 (vb true) v52).bind fun v53 =>
 condV v53 (
 (ldk (some 6) (List.drop 0 (aggL v20))).bind fun v54 =>
 (spliceV [(vi 0), (vi 0), (vi 0), (vi 0), (vi 0), (vi 0)] 0 6 v54).bind fun v55 =>
 (ldk (some 6) (List.drop 0 (aggL v55))).bind fun v56 =>
 some (V.tup [v56, (vb false)])) (
 (idxS 1 x0 (vi 3)).bind fun v57 =>
 (ldp none v57).bind fun v58 =>
 ((sem_Number) [v58]).bind fun v59 =>
 (extractV v59 0).bind fun v60 =>
 (extractV v59 1).bind fun v61 =>
 (spliceV (aggL v20) 3 1 v60).bind fun v62 =>
 (scal1 Tryz.prog (Op.unary Go.UnOp.not) v61).bind fun v63 =>
 (guardV v63 false (some V.any)).bind fun v64 =>
 (guardV v63 false ((gate v63 false (ldk none (List.drop 3 (aggL v62)))).bind fun v65 =>
 some v65)).bind fun v66 =>
 (guardV v63 false ((bin2 Tryz.prog BinOp.eql 3 (ot 75) (oc 0) v66 (vi 0)).bind fun v67 =>
 some v67)).bind fun v68 =>
 (pickV v63 (vb true) v68).bind fun v69 =>
 condV v69 (
 (ldk (some 6) (List.drop 0 (aggL v62))).bind fun v70 =>
 (spliceV [(vi 0), (vi 0), (vi 0), (vi 0), (vi 0), (vi 0)] 0 6 v70).bind fun v71 =>
 (ldk (some 6) (List.drop 0 (aggL v71))).bind fun v72 =>
 some (V.tup [v72, (vb false)])) (
 (lenS [x0]).bind fun v73 =>
 (bin2 Tryz.prog BinOp.eql 3 (ot 80) (oc 6) v73 (vi 6)).bind fun v74 =>
 condV v74 (
 (idxS 1 x0 (vi 5)).bind fun v75 =>
 (ldp none v75).bind fun v76 =>
 ((sem_cube_Parse n) [v76]).bind fun v77 =>
 (extractV v77 0).bind fun v78 =>
 (extractV v77 1).bind fun v79 =>
 (spliceV [(vi 0), (vi 0)] 0 2 v78).bind fun v80 =>
 (ptrF 0 (V.ptr (aggL v80))).bind fun v81 =>
 (ldp none v81).bind fun v82 =>
 (litV v82).bind fun v83 =>
 (ptrF 1 (V.ptr (aggL v80))).bind fun v84 =>
 (ldp none v84).bind fun v85 =>
 (litV v85).bind fun v86 =>
 (spliceV (aggL v62) 4 1 v83).bind fun v87 =>
 (spliceV (aggL v87) 5 1 v86).bind fun v88 =>
 (idxS 1 x0 (vi 4)).bind fun v89 =>
 (ldp none v89).bind fun v90 =>
 (litV v90).bind fun v91 =>
 (bin2 Tryz.prog BinOp.eql 9 (ot 98) (Operand.const (Go.Value.string (ByteArray.mk #[115, 101, 116]))) v91 (V.lit (Go.Value.string (ByteArray.mk #[115, 101, 116])))).bind fun v92 =>
 (litV v92).bind fun v93 =>
 (guardV v93 true (some v79)).bind fun v94 =>
 (guardV v93 true ((bin2 Tryz.prog BinOp.eql 31 (ot 101) (Operand.const Go.Value.nilIface) v94 vn).bind fun v95 =>
 (litV v95).bind fun v96 =>
  some v96)).bind fun v97 =>
 (pickV v93 v97 (vb false)).bind fun v98 =>
 (guardV v98 true ((ptrF 0 (V.ptr (aggL v80))).bind fun v99 =>
 some v99)).bind fun v100 =>
 (guardV v98 true ((ldp none v100).bind fun v101 =>
 (litV v101).bind fun v102 =>
  some v102)).bind fun v103 =>
 (guardV v98 true ((bin2 Tryz.prog BinOp.neq 3 (ot 106) (oc 0) v103 (vi 0)).bind fun v104 =>
 (litV v104).bind fun v105 =>
  some v105)).bind fun v106 =>
 (pickV v98 v106 (vb false)).bind fun v107 =>
 (ldk (some 6) (List.drop 0 (aggL v88))).bind fun v108 =>
 (spliceV [(vi 0), (vi 0), (vi 0), (vi 0), (vi 0), (vi 0)] 0 6 v108).bind fun v109 =>
 (ldk (some 6) (List.drop 0 (aggL v109))).bind fun v110 =>
 some (V.tup [v110, v107])) (
 (ldk (some 6) (List.drop 0 (aggL v62))).bind fun v111 =>
 (spliceV [(vi 0), (vi 0), (vi 0), (vi 0), (vi 0), (vi 0)] 0 6 v111).bind fun v112 =>
 (ldk (some 6) (List.drop 0 (aggL v112))).bind fun v113 =>
 some (V.tup [v113, (vb true)]))))))) := by kernel_rfl
noncomputable def t_rule_read (a0 : (List ByteArray)) : Option (T_Rule × Bool) :=
 if (decide ((List.length a0 : Int) < 3)) = true then (
 some ((T_Rule.mk 0 (T_Cube.mk 0 0) 0 0 0), false)) else (
 (idx a0 0).bind fun r8 =>
 (t_rule_Number r8).bind fun r11 =>
 (idx a0 1).bind fun r15 =>
 (t_cube_Parse r15).bind fun r18 =>
 if ((!r11.2) || (!decide (r18.2 = 0))) = true then (
 some ((T_Rule.mk r11.1 r18.1 0 0 0), false)) else (
 (idx a0 2).bind fun r38 =>
 if (decide (r38 = (ByteArray.mk #[100, 114, 111, 112]))) = true then (
 some ((T_Rule.mk r11.1 r18.1 0 0 0), (decide ((List.length a0 : Int) = 3)))) else (
 (idx a0 2).bind fun r48 =>
 if ((!decide (r48 = (ByteArray.mk #[111, 117, 116]))) || ((decide ((List.length a0 : Int) ≠ 4)) && (decide ((List.length a0 : Int) ≠ 6)))) = true then (
 some ((T_Rule.mk r11.1 r18.1 0 0 0), false)) else (
 (idx a0 3).bind fun r78 =>
 (t_rule_Number r78).bind fun r81 =>
 if ((!r81.2) || (decide (r81.1 = 0))) = true then (
 some ((T_Rule.mk r11.1 r18.1 r81.1 0 0), false)) else (
 if (decide ((List.length a0 : Int) = 6)) = true then (
 (idx a0 5).bind fun r103 =>
 (t_cube_Parse r103).bind fun r106 =>
 (idx a0 4).bind fun r119 =>
 some ((T_Rule.mk r11.1 r18.1 r81.1 r106.1.Mask r106.1.Bits), (((decide (r119 = (ByteArray.mk #[115, 101, 116]))) && (decide (r106.2 = 0))) && (decide (r106.1.Mask ≠ 0))))) else (
 some ((T_Rule.mk r11.1 r18.1 r81.1 0 0), true)))))))
theorem ty_rule_read {n : Nat} (hn : bigN ≤ n) (a0 : (List ByteArray)) : Rv (fun x : (T_Rule × Bool) => V.tup [(T_Rule.e x.1), (vb x.2)]) (sem_rule_read n [(V.sl (List.map cT a0))]) (t_rule_read a0) := by
  rw [eq_rule_read]
  unfold t_rule_read
  refine tb (x := (vi (List.length a0 : Int))) (p_len _) ?_
  refine tb (x := (vb (decide ((List.length a0 : Int) < 3)))) (d_lss) ?_
  refine tcond (fun h3 => ?_) (fun h3 => ?_)
  · refine tb (x := (T_Rule.e (T_Rule.mk 0 (T_Cube.mk 0 0) 0 0 0))) (rfl) ?_
    refine tb (x := V.agg (T_Rule.c (T_Rule.mk 0 (T_Cube.mk 0 0) 0 0 0))) (by kernel_rfl) ?_
    refine tb (x := (T_Rule.e (T_Rule.mk 0 (T_Cube.mk 0 0) 0 0 0))) rfl ?_
    exact rf_ret rfl
  · refine tbo (p_idx (c := cT) (fun _ => rfl) a0 0) fun r8 => ?_
    refine tb (x := (vt r8)) (rfl) ?_
    refine tbo (ty_rule_Number r8) fun r11 => ?_
    refine tb (x := (vi r11.1)) (rfl) ?_
    refine tb (x := (vb r11.2)) (rfl) ?_
    refine tbo (p_idx (c := cT) (fun _ => rfl) a0 1) fun r15 => ?_
    refine tb (x := (vt r15)) (rfl) ?_
    refine tbo (ty_cube_Parse hn r15) fun r18 => ?_
    refine tb (x := (T_Cube.e r18.1)) (rfl) ?_
    refine tb (x := (eV r18.2)) (rfl) ?_
    refine tb (x := V.agg (T_Cube.c r18.1)) (by kernel_rfl) ?_
    refine tb (x := (T_Cube.e r18.1)) (rfl) ?_
    refine tb (x := (T_Cube.e r18.1)) rfl ?_
    refine tb (x := V.agg (T_Rule.c (T_Rule.mk r11.1 (T_Cube.mk 0 0) 0 0 0))) (by kernel_rfl) ?_
    refine tb (x := V.agg (T_Rule.c (T_Rule.mk r11.1 r18.1 0 0 0))) (by kernel_rfl) ?_
    refine tb (x := (vb (!r11.2))) (d_not) ?_
    refine tg_f (x := (eV r18.2)) (fun h27 => rfl) ?_
    refine tg_f (x := (vb (!decide (r18.2 = 0)))) (fun h29 => by simp only [gv_t h29]; exact bind_some_eq (p_err_neq _)) ?_
    refine tb (x := (vb ((!r11.2) || (!decide (r18.2 = 0))))) (pick_or (fun h9 => gv_t (not_f h9))) ?_
    refine tcond (fun h33 => ?_) (fun h33 => ?_)
    · refine tb (x := (T_Rule.e (T_Rule.mk r11.1 r18.1 0 0 0))) (rfl) ?_
      refine tb (x := V.agg (T_Rule.c (T_Rule.mk r11.1 r18.1 0 0 0))) (by kernel_rfl) ?_
      refine tb (x := (T_Rule.e (T_Rule.mk r11.1 r18.1 0 0 0))) rfl ?_
      exact rf_ret rfl
    · refine tbo (p_idx (c := cT) (fun _ => rfl) a0 2) fun r38 => ?_
      refine tb (x := (vt r38)) (rfl) ?_
      refine tb (x := (vb (decide (r38 = (ByteArray.mk #[100, 114, 111, 112]))))) (p_eql_str) ?_
      refine tcond (fun h41 => ?_) (fun h41 => ?_)
      · refine tb (x := (T_Rule.e (T_Rule.mk r11.1 r18.1 0 0 0))) (rfl) ?_
        refine tb (x := (vi (List.length a0 : Int))) (p_len _) ?_
        refine tb (x := (vb (decide ((List.length a0 : Int) = 3)))) (d_eql) ?_
        refine tb (x := V.agg (T_Rule.c (T_Rule.mk r11.1 r18.1 0 0 0))) (by kernel_rfl) ?_
        refine tb (x := (T_Rule.e (T_Rule.mk r11.1 r18.1 0 0 0))) rfl ?_
        exact rf_ret rfl
      · refine tbo (p_idx (c := cT) (fun _ => rfl) a0 2) fun r48 => ?_
        refine tb (x := (vt r48)) (rfl) ?_
        refine tb (x := (vb (!decide (r48 = (ByteArray.mk #[111, 117, 116]))))) (p_neq_str) ?_
        refine tg_f (x := (V.sl (List.map cT a0))) (fun h51 => rfl) ?_
        refine tg_f (x := (vi (List.length a0 : Int))) (fun h53 => by simp only [gv_t h53]; exact bind_some_eq (p_len _)) ?_
        refine tg_f (x := (vb (decide ((List.length a0 : Int) ≠ 4)))) (fun h56 => by simp only [gv_t h56]; exact bind_some_eq (d_neq)) ?_
        refine tg_f (x := (vb (decide ((List.length a0 : Int) ≠ 4)))) (fun h59 => congrArg some (gv_t h59)) ?_
        refine tg2 (x := (V.sl (List.map cT a0))) (fun h61 => rfl) ?_
        refine tg2 (x := (vi (List.length a0 : Int))) (fun h63 => by simp only [gv_t h63]; exact bind_some_eq (p_len _)) ?_
        refine tg2 (x := (vb (decide ((List.length a0 : Int) ≠ 6)))) (fun h66 => by simp only [gv_t h66]; exact bind_some_eq (d_neq)) ?_
        refine tg_f (x := (vb ((decide ((List.length a0 : Int) ≠ 4)) && (decide ((List.length a0 : Int) ≠ 6))))) (fun h69 => by simp only [gv_t h69]; exact bind_some_eq (pick_and (fun h9 => gv_t (and_i h69 h9)))) ?_
        refine tb (x := (vb ((!decide (r48 = (ByteArray.mk #[111, 117, 116]))) || ((decide ((List.length a0 : Int) ≠ 4)) && (decide ((List.length a0 : Int) ≠ 6)))))) (pick_or (fun h9 => gv_t (not_f h9))) ?_
        refine tcond (fun h73 => ?_) (fun h73 => ?_)
        · refine tb (x := (T_Rule.e (T_Rule.mk r11.1 r18.1 0 0 0))) (rfl) ?_
          refine tb (x := V.agg (T_Rule.c (T_Rule.mk r11.1 r18.1 0 0 0))) (by kernel_rfl) ?_
          refine tb (x := (T_Rule.e (T_Rule.mk r11.1 r18.1 0 0 0))) rfl ?_
          exact rf_ret rfl
        · refine tbo (p_idx (c := cT) (fun _ => rfl) a0 3) fun r78 => ?_
          refine tb (x := (vt r78)) (rfl) ?_
          refine tbo (ty_rule_Number r78) fun r81 => ?_
          refine tb (x := (vi r81.1)) (rfl) ?_
          refine tb (x := (vb r81.2)) (rfl) ?_
          refine tb (x := V.agg (T_Rule.c (T_Rule.mk r11.1 r18.1 r81.1 0 0))) (by kernel_rfl) ?_
          refine tb (x := (vb (!r81.2))) (d_not) ?_
          refine tg_f (x := V.any) (fun h86 => rfl) ?_
          refine tg_f (x := (vi r81.1)) (fun h88 => bind_some_eq (gate_pos (not_t h88) (rfl))) ?_
          refine tg_f (x := (vb (decide (r81.1 = 0)))) (fun h91 => by simp only [gv_t h91]; exact bind_some_eq (d_eql)) ?_
          refine tb (x := (vb ((!r81.2) || (decide (r81.1 = 0))))) (pick_or (fun h9 => gv_t (not_f h9))) ?_
          refine tcond (fun h95 => ?_) (fun h95 => ?_)
          · refine tb (x := (T_Rule.e (T_Rule.mk r11.1 r18.1 r81.1 0 0))) (rfl) ?_
            refine tb (x := V.agg (T_Rule.c (T_Rule.mk r11.1 r18.1 r81.1 0 0))) (by kernel_rfl) ?_
            refine tb (x := (T_Rule.e (T_Rule.mk r11.1 r18.1 r81.1 0 0))) rfl ?_
            exact rf_ret rfl
          · refine tb (x := (vi (List.length a0 : Int))) (p_len _) ?_
            refine tb (x := (vb (decide ((List.length a0 : Int) = 6)))) (d_eql) ?_
            refine tcond (fun h101 => ?_) (fun h101 => ?_)
            · refine tbo (p_idx (c := cT) (fun _ => rfl) a0 5) fun r103 => ?_
              refine tb (x := (vt r103)) (rfl) ?_
              refine tbo (ty_cube_Parse hn r103) fun r106 => ?_
              refine tb (x := (T_Cube.e r106.1)) (rfl) ?_
              refine tb (x := (eV r106.2)) (rfl) ?_
              refine tb (x := V.agg (T_Cube.c r106.1)) (by kernel_rfl) ?_
              refine tb (x := (V.ptr (T_Cube.c r106.1))) (rfl) ?_
              refine tb (x := (vi r106.1.Mask)) (rfl) ?_
              refine tb (x := (vi r106.1.Mask)) rfl ?_
              refine tb (x := (V.ptr (List.drop 1 (T_Cube.c r106.1)))) (rfl) ?_
              refine tb (x := (vi r106.1.Bits)) (rfl) ?_
              refine tb (x := (vi r106.1.Bits)) rfl ?_
              refine tb (x := V.agg (T_Rule.c (T_Rule.mk r11.1 r18.1 r81.1 r106.1.Mask 0))) (by kernel_rfl) ?_
              refine tb (x := V.agg (T_Rule.c (T_Rule.mk r11.1 r18.1 r81.1 r106.1.Mask r106.1.Bits))) (by kernel_rfl) ?_
              refine tbo (p_idx (c := cT) (fun _ => rfl) a0 4) fun r119 => ?_
              refine tb (x := (vt r119)) (rfl) ?_
              refine tb (x := (vt r119)) rfl ?_
              refine tb (x := (vb (decide (r119 = (ByteArray.mk #[115, 101, 116]))))) (p_eql_str) ?_
              refine tb (x := (vb (decide (r119 = (ByteArray.mk #[115, 101, 116]))))) rfl ?_
              refine tg (x := (eV r106.2)) (fun h124 => rfl) ?_
              refine tg (x := (vb (decide (r106.2 = 0)))) (fun h126 => by simp only [gv_t h126]; exact bind_lit_eq (p_err_eql _) rfl) ?_
              refine tb (x := (vb ((decide (r119 = (ByteArray.mk #[115, 101, 116]))) && (decide (r106.2 = 0))))) (pick_and (fun h9 => gv_t h9)) ?_
              refine tg (x := (V.ptr (T_Cube.c r106.1))) (fun h131 => bind_some_eq (rfl)) ?_
              refine tg (x := (vi r106.1.Mask)) (fun h134 => by first | exact bind_lit_eq (rfl) rfl | (simp only [gv_t h134]; exact bind_lit_eq (rfl) rfl)) ?_
              refine tg (x := (vb (decide (r106.1.Mask ≠ 0)))) (fun h138 => by simp only [gv_t h138]; exact bind_lit_eq (d_neq) rfl) ?_
              refine tb (x := (vb (((decide (r119 = (ByteArray.mk #[115, 101, 116]))) && (decide (r106.2 = 0))) && (decide (r106.1.Mask ≠ 0))))) (pick_and (fun h9 => gv_t h9)) ?_
              refine tb (x := (T_Rule.e (T_Rule.mk r11.1 r18.1 r81.1 r106.1.Mask r106.1.Bits))) (rfl) ?_
              refine tb (x := V.agg (T_Rule.c (T_Rule.mk r11.1 r18.1 r81.1 r106.1.Mask r106.1.Bits))) (by kernel_rfl) ?_
              refine tb (x := (T_Rule.e (T_Rule.mk r11.1 r18.1 r81.1 r106.1.Mask r106.1.Bits))) rfl ?_
              exact rf_ret rfl
            · refine tb (x := (T_Rule.e (T_Rule.mk r11.1 r18.1 r81.1 0 0))) (rfl) ?_
              refine tb (x := V.agg (T_Rule.c (T_Rule.mk r11.1 r18.1 r81.1 0 0))) (by kernel_rfl) ?_
              refine tb (x := (T_Rule.e (T_Rule.mk r11.1 r18.1 r81.1 0 0))) rfl ?_
              exact rf_ret rfl

/-! railpoint/rule.Parse -/
def an_rule_Parse : Ann := .seq (.reg 0 [] [] []) (.seq (.reg 0 [] [] []) (.seq (.seq (.reg 0 [] [] []) (.cond none (.seq (.reg 0 [] [] []) (.no)) (.no))) (.seq (.seq (.reg 0 [] [] []) (.seq (.reg 0 [] [] []) (.cond none (.seq (.reg 0 [] [] []) (.no)) (.no)))) (.seq (.reg 0 [] [] []) (.no)))))
noncomputable def sem_rule_Parse (n : Nat) (xs : List V) : Option V := if xs.length ≤ 24 then denF Tryz.prog (envOf [(45, (semSplit)), (44, (sem_rule_read n)), (7, (sem_rule_Check n))]) n Tryz.f11 an_rule_Parse xs else none
theorem ok_rule_Parse (n : Nat) : SemOk Tryz.prog DW 11 (sem_rule_Parse n) := fun xs y h => by
  unfold sem_rule_Parse at h
  split at h
  · rename_i hl
    exact denF_ok stb Tryz.func11 (by kernel_rfl) (envOf_ok (semsOk_cons (ok_Split) (semsOk_cons (ok_rule_read n) (semsOk_cons (ok_rule_Check n) semsOk_nil)))) (by rw [Tryz.ntmps11]; exact hl) h
  · cases h
theorem eq_rule_Parse (n : Nat) (x0 : V) : sem_rule_Parse n [x0] =
 ((semSplit) [x0, (V.lit (Go.Value.string (ByteArray.mk #[32])))]).bind fun v1 =>
 ((sem_rule_read n) [v1]).bind fun v2 =>
 (extractV v2 0).bind fun v3 =>
 (extractV v2 1).bind fun v4 =>
 (spliceV [(vi 0), (vi 0), (vi 0), (vi 0), (vi 0), (vi 0)] 0 6 v3).bind fun v5 =>
 (scal1 Tryz.prog (Op.unary Go.UnOp.not) v4).bind fun v6 =>
 condV v6 (
 ((fillL [(vi 0), (vi 0), (vi 0), (vi 0), (vi 0), (vi 0)] []).map V.agg).bind fun v7 =>
 (scal1 Tryz.prog (Instr.makeInterface 86) (vi 2)).bind fun v8 =>
 (spliceV [(vi 0), (vi 0), (vi 0), (vi 0), (vi 0), (vi 0)] 0 6 v7).bind fun v9 =>
 (ldk (some 6) (List.drop 0 (aggL v9))).bind fun v10 =>
 some (V.tup [v10, v8])) (
 (ldk (some 6) (List.drop 0 (aggL v5))).bind fun v11 =>
 ((sem_rule_Check n) [v11]).bind fun v12 =>
 (bin2 Tryz.prog BinOp.neq 31 (ot 19) (Operand.const Go.Value.nilIface) v12 vn).bind fun v13 =>
 condV v13 (
 ((fillL [(vi 0), (vi 0), (vi 0), (vi 0), (vi 0), (vi 0)] []).map V.agg).bind fun v14 =>
 (spliceV [(vi 0), (vi 0), (vi 0), (vi 0), (vi 0), (vi 0)] 0 6 v14).bind fun v15 =>
 (ldk (some 6) (List.drop 0 (aggL v15))).bind fun v16 =>
 some (V.tup [v16, v12])) (
 (ldk (some 6) (List.drop 0 (aggL v5))).bind fun v17 =>
 (spliceV [(vi 0), (vi 0), (vi 0), (vi 0), (vi 0), (vi 0)] 0 6 v17).bind fun v18 =>
 (ldk (some 6) (List.drop 0 (aggL v18))).bind fun v19 =>
 some (V.tup [v19, vn]))) := by kernel_rfl
noncomputable def t_rule_Parse (a0 : ByteArray) : Option (T_Rule × Int) :=
 (t_Split a0 (ByteArray.mk #[32])).bind fun r2 =>
 (t_rule_read r2).bind fun r4 =>
 if (!r4.2) = true then (
 some ((T_Rule.mk 0 (T_Cube.mk 0 0) 0 0 0), 2)) else (
 (t_rule_Check r4.1).bind fun r16 =>
 if (!decide (r16 = 0)) = true then (
 some ((T_Rule.mk 0 (T_Cube.mk 0 0) 0 0 0), r16)) else (
 some (r4.1, 0)))
theorem ty_rule_Parse {n : Nat} (hn : bigN ≤ n) (a0 : ByteArray) : Rv (fun x : (T_Rule × Int) => V.tup [(T_Rule.e x.1), (eV x.2)]) (sem_rule_Parse n [(vt a0)]) (t_rule_Parse a0) := by
  rw [eq_rule_Parse]
  unfold t_rule_Parse
  refine tbo (ty_Split a0 (ByteArray.mk #[32])) fun r2 => ?_
  refine tbo (ty_rule_read hn r2) fun r4 => ?_
  refine tb (x := (T_Rule.e r4.1)) (rfl) ?_
  refine tb (x := (vb r4.2)) (rfl) ?_
  refine tb (x := V.agg (T_Rule.c r4.1)) (by kernel_rfl) ?_
  refine tb (x := (vb (!r4.2))) (d_not) ?_
  refine tcond (fun h9 => ?_) (fun h9 => ?_)
  · refine tb (x := (T_Rule.e (T_Rule.mk 0 (T_Cube.mk 0 0) 0 0 0))) (by kernel_rfl) ?_
    refine tb (x := (eV 2)) (p_mkE (by decide)) ?_
    refine tb (x := V.agg (T_Rule.c (T_Rule.mk 0 (T_Cube.mk 0 0) 0 0 0))) (by kernel_rfl) ?_
    refine tb (x := (T_Rule.e (T_Rule.mk 0 (T_Cube.mk 0 0) 0 0 0))) rfl ?_
    exact rf_ret rfl
  · refine tb (x := (T_Rule.e r4.1)) (rfl) ?_
    refine tbo (ty_rule_Check hn r4.1) fun r16 => ?_
    refine tb (x := (vb (!decide (r16 = 0)))) (p_err_neq _) ?_
    refine tcond (fun h18 => ?_) (fun h18 => ?_)
    · refine tb (x := (T_Rule.e (T_Rule.mk 0 (T_Cube.mk 0 0) 0 0 0))) (by kernel_rfl) ?_
      refine tb (x := V.agg (T_Rule.c (T_Rule.mk 0 (T_Cube.mk 0 0) 0 0 0))) (by kernel_rfl) ?_
      refine tb (x := (T_Rule.e (T_Rule.mk 0 (T_Cube.mk 0 0) 0 0 0))) rfl ?_
      exact rf_ret rfl
    · refine tb (x := (T_Rule.e r4.1)) (rfl) ?_
      refine tb (x := V.agg (T_Rule.c r4.1)) (by kernel_rfl) ?_
      refine tb (x := (T_Rule.e r4.1)) rfl ?_
      exact rf_ret rfl

/-! railpoint/railref1.Has -/
def an_railref1_Has : Ann := .seq (.reg 0 [] [] []) (.seq (.reg 0 [] [] []) (.seq (.reg 0 [] [] []) (.no)))
noncomputable def sem_railref1_Has (n : Nat) (xs : List V) : Option V := if xs.length ≤ 23 then denF Tryz.prog (envOf [(12, (sem_railref1_Header n)), (33, (sem_railref1_Cube n))]) n Tryz.f13 an_railref1_Has xs else none
theorem ok_railref1_Has (n : Nat) : SemOk Tryz.prog DW 13 (sem_railref1_Has n) := fun xs y h => by
  unfold sem_railref1_Has at h
  split at h
  · rename_i hl
    exact denF_ok stb Tryz.func13 (by kernel_rfl) (envOf_ok (semsOk_cons (ok_railref1_Header n) (semsOk_cons (ok_railref1_Cube n) semsOk_nil))) (by rw [Tryz.ntmps13]; exact hl) h
  · cases h
theorem eq_railref1_Has (n : Nat) (x0 x1 : V) : sem_railref1_Has n [x0, x1] =
 (V.cellsO x0).bind fun v1 =>
 ((sem_railref1_Header n) [x1]).bind fun v2 =>
 (guardV v2 true ((ldk (some 2) (List.drop 0 v1)).bind fun v3 =>
 some v3)).bind fun v4 =>
 (guardV v2 true (((sem_railref1_Cube n) [v4]).bind fun v5 =>
 some v5)).bind fun v6 =>
 (guardV v2 true ((bin2 Tryz.prog BinOp.eql 3 (ot 11) (oc 0) v6 (vi 0)).bind fun v7 =>
 some v7)).bind fun v8 =>
 (pickV v2 v8 (vb false)).bind fun v9 =>
 (guardV v9 true (some x1)).bind fun v10 =>
 (guardV v9 true (some V.any)).bind fun v11 =>
 (guardV v9 true ((gate v9 true (ldk none (List.drop 0 v1))).bind fun v12 =>
 some v12)).bind fun v13 =>
 (guardV v9 true ((bin2 Tryz.prog BinOp.and 3 (ot 15) (ot 17) v10 v13).bind fun v14 =>
 some v14)).bind fun v15 =>
 (guardV v9 true (some V.any)).bind fun v16 =>
 (guardV v9 true ((gate v9 true (ldk none (List.drop 1 v1))).bind fun v17 =>
 some v17)).bind fun v18 =>
 (guardV v9 true ((bin2 Tryz.prog BinOp.eql 3 (ot 18) (ot 20) v15 v18).bind fun v19 =>
 some v19)).bind fun v20 =>
 (pickV v9 v20 (vb false)).bind fun v21 =>
 some v21 := by kernel_rfl
noncomputable def t_railref1_Has (a0 : T_Cube) (a1 : Int) : Option Bool :=
 (t_railref1_Header a1).bind fun r3 =>
 (gd r3 default (t_railref1_Cube a0)).bind fun r10 =>
 some ((r3 && (decide (r10 = 0))) && (decide ((bits .and .i64 a1 a0.Mask) = a0.Bits)))
theorem ty_railref1_Has {n : Nat} (hn : bigN ≤ n) (a0 : T_Cube) (a1 : Int) : Rv (fun x : Bool => (vb x)) (sem_railref1_Has n [(T_Cube.e a0), (vi a1)]) (t_railref1_Has a0 a1) := by
  rw [eq_railref1_Has]
  unfold t_railref1_Has
  refine tb (x := (T_Cube.c a0)) rfl ?_
  refine tbo (ty_railref1_Header hn a1) fun r3 => ?_
  refine tg (x := (T_Cube.e a0)) (fun h4 => bind_some_eq (rfl)) ?_
  refine tgo (fun h7 => by simp only [gv_t h7]; exact rf_bind_some (ty_railref1_Cube hn a0)) fun r10 => ?_
  refine tg (x := (vb (decide (r10 = 0)))) (fun h11 => by simp only [gv_t h11]; exact bind_some_eq (d_eql)) ?_
  refine tb (x := (vb (r3 && (decide (r10 = 0))))) (pick_and (fun h9 => gv_t h9)) ?_
  refine tg (x := (vi a1)) (fun h15 => rfl) ?_
  refine tg (x := V.any) (fun h17 => rfl) ?_
  refine tg (x := (vi a0.Mask)) (fun h19 => bind_some_eq (gate_pos h19 (rfl))) ?_
  refine tg (x := (vi (bits .and .i64 a1 a0.Mask))) (fun h22 => by simp only [gv_t h22]; exact bind_some_eq (d_and)) ?_
  refine tg (x := V.any) (fun h25 => rfl) ?_
  refine tg (x := (vi a0.Bits)) (fun h27 => bind_some_eq (gate_pos h27 (rfl))) ?_
  refine tg (x := (vb (decide ((bits .and .i64 a1 a0.Mask) = a0.Bits)))) (fun h30 => by simp only [gv_t h30]; exact bind_some_eq (d_eql)) ?_
  refine tb (x := (vb ((r3 && (decide (r10 = 0))) && (decide ((bits .and .i64 a1 a0.Mask) = a0.Bits))))) (pick_and (fun h9 => gv_t h9)) ?_
  exact rf_ret rfl

/-! railpoint/railref1.Turned -/
def an_railref1_Turned : Ann := .seq (.reg 0 [] [] []) (.seq (.reg 0 [] [] []) (.seq (.seq (.reg 0 [] [] []) (.blk (some [.s 5]) (.loop [.kb 2, .s 5, .s 6] (.seq (.seq (.reg 0 [] [] []) (.cond none (.no) (.no))) (.seq (.blk none (.seq (.reg 0 [] [] []) (.seq (.reg 0 [] [] []) (.seq (.reg 0 [] [] []) (.seq (.reg 0 [] [] []) (.seq (.reg 0 [] [] []) (.cond (some [.kb 2, .s 5]) (.reg 0 [] [] []) (.no)))))))) (.reg 0 [] [] [])))))) (.seq (.reg 0 [] [] []) (.no))))
noncomputable def sem_railref1_Turned (n : Nat) (xs : List V) : Option V := if xs.length ≤ 41 then denF Tryz.prog (envOf [(46, (sem_railref1_bit n))]) n Tryz.f14 an_railref1_Turned xs else none
theorem ok_railref1_Turned (n : Nat) : SemOk Tryz.prog DW 14 (sem_railref1_Turned n) := fun xs y h => by
  unfold sem_railref1_Turned at h
  split at h
  · rename_i hl
    exact denF_ok stb Tryz.func14 (by kernel_rfl) (envOf_ok (semsOk_cons (ok_railref1_bit n) semsOk_nil)) (by rw [Tryz.ntmps14]; exact hl) h
  · cases h
theorem eq_railref1_Turned (n : Nat) (x0 x1 : V) : sem_railref1_Turned n [x0, x1] =
 (V.cellsO x0).bind fun v1 =>
 JoinPt (fun vs2 =>
 some (List.getD vs2 0 V.any)) fun J3 =>
 (keepO (some v1) (some v1) (some [(vi 0), (vi 3)])).bind (fixN (fun rec4 vs5 =>
 (bin2 Tryz.prog BinOp.geq 3 (ot 10) (oc 0) (List.getD vs5 1 V.any) (vi 0)).bind fun v6 =>
 condV v6 (
 (ldk none (List.drop 4 v1)).bind fun v7 =>
 ((sem_railref1_bit n) [v7, (List.getD vs5 1 V.any)]).bind fun v8 =>
 (ldk none (List.drop 5 v1)).bind fun v9 =>
 ((sem_railref1_bit n) [v9, (List.getD vs5 1 V.any)]).bind fun v10 =>
 ((sem_railref1_bit n) [x1, (List.getD vs5 1 V.any)]).bind fun v11 =>
 (bin2 Tryz.prog BinOp.mul 3 (ot 25) (oc 2) (List.getD vs5 0 V.any) (vi 2)).bind fun v12 =>
 (guardV v8 true (some v10)).bind fun v13 =>
 (pickV v8 v13 (vb false)).bind fun v14 =>
 (guardV v14 false (some v8)).bind fun v15 =>
 (guardV v14 false ((scal1 Tryz.prog (Op.unary Go.UnOp.not) v15).bind fun v16 =>
 some v16)).bind fun v17 =>
 (guardV v14 false (some v17)).bind fun v18 =>
 (guardV v18 true (some v11)).bind fun v19 =>
 (guardV v14 false ((pickV v18 v19 (vb false)).bind fun v20 =>
 some v20)).bind fun v21 =>
 (pickV v14 (vb true) v21).bind fun v22 =>
 JoinPt (fun vs23 =>
 (bin2 Tryz.prog BinOp.sub 3 (ot 12) (oc 1) (List.getD vs5 1 V.any) (vi 1)).bind fun v25 =>
 (keepO (some v1) (some v1) (some [(List.getD vs23 0 V.any), v25])).bind rec4) fun J24 =>
 condV v22 (
 (bin2 Tryz.prog BinOp.add 3 (ot 38) (oc 1) v12 (vi 1)).bind fun v26 =>
 (keepO (some v1) (some v1) (some [v26])).bind J24) (
 (keepO (some v1) (some v1) (some [v12])).bind J24)) (
 J3 [(List.getD vs5 0 V.any)])) n) := by kernel_rfl
noncomputable def t_railref1_Turned (a0 : T_Rule) (a1 : Int) : Option Int :=
 (tfix (fun k10 (s9 : (Int × Int)) =>
 if (decide (0 ≤ s9.2)) = true then (
 (t_railref1_bit a0.Set s9.2).bind fun r18 =>
 (t_railref1_bit a0.Value s9.2).bind fun r21 =>
 (t_railref1_bit a1 s9.2).bind fun r23 =>
 (if ((r18 && r21) || ((!r18) && r23)) = true then (
 some (wr ((wr (s9.1 * 2)) + 1))) else (
 some (wr (s9.1 * 2)))).bind fun (s43 : Int) =>
 k10 (s43, (wr (s9.2 - 1)))) else (
 some (s9.1))) bigN (0, 3)).bind fun (s4 : Int) =>
 some s4
theorem ty_railref1_Turned {n : Nat} (hn : bigN ≤ n) (a0 : T_Rule) (a1 : Int) : Rv (fun x : Int => (vi x)) (sem_railref1_Turned n [(T_Rule.e a0), (vi a1)]) (t_railref1_Turned a0 a1) := by
  rw [eq_railref1_Turned]
  unfold t_railref1_Turned
  refine tb (x := (T_Rule.c a0)) rfl ?_
  refine tjb (mk := fun s4 : Int => [(vi s4)]) (fun J3 => ?_) fun s4 => ?_
  · refine tkeepO2 ?_ rfl
    refine tsome ?_
    refine rf_fixN (mk := fun (s9 : (Int × Int)) => [(vi s9.1), (vi s9.2)]) hn (0, 3) (fun rec7 k10 h11 s9 => ?_)
    refine tb (x := (vb (decide (0 ≤ s9.2)))) (d_geq) ?_
    refine tcond (fun h15 => ?_) (fun h15 => ?_)
    · refine tb (x := (vi a0.Set)) (rfl) ?_
      refine tbo (ty_railref1_bit hn a0.Set s9.2) fun r18 => ?_
      refine tb (x := (vi a0.Value)) (rfl) ?_
      refine tbo (ty_railref1_bit hn a0.Value s9.2) fun r21 => ?_
      refine tbo (ty_railref1_bit hn a1 s9.2) fun r23 => ?_
      refine tb (x := (vi (wr (s9.1 * 2)))) (d_mul) ?_
      refine tg (x := (vb r21)) (fun h25 => rfl) ?_
      refine tb (x := (vb (r18 && r21))) (pick_and (fun h9 => gv_t h9)) ?_
      refine tg_f (x := (vb r18)) (fun h28 => rfl) ?_
      refine tg_f (x := (vb (!r18))) (fun h30 => by simp only [gv_t h30]; exact bind_some_eq (d_not)) ?_
      refine tg_f (x := (vb (!r18))) (fun h33 => congrArg some (gv_t h33)) ?_
      refine tg2 (x := (vb r23)) (fun h35 => rfl) ?_
      refine tg_f (x := (vb ((!r18) && r23))) (fun h37 => by simp only [gv_t h37]; exact bind_some_eq (pick_and (fun h9 => gv_t (and_i h37 h9)))) ?_
      refine tb (x := (vb ((r18 && r21) || ((!r18) && r23)))) (pick_or (fun h9 => gv_t (not_f h9))) ?_
      refine tjb (mk := fun s43 : Int => [(vi s43)]) (fun J42 => ?_) fun s43 => ?_
      · refine tcond (fun h47 => ?_) (fun h47 => ?_)
        · refine tb (x := (vi (wr ((wr (s9.1 * 2)) + 1)))) (d_add) ?_
          refine tkeepO2 ?_ rfl
          refine tsome ?_
          exact rf_j rfl
        · refine tkeepO2 ?_ rfl
          refine tsome ?_
          exact rf_j rfl
      · refine tb (x := (vi (wr (s9.2 - 1)))) (d_sub) ?_
        refine tkeepO2 ?_ rfl
        refine tsome ?_
        exact h11 (s43, (wr (s9.2 - 1)))
    · exact rf_j rfl
  · exact rf_ret rfl

/-! railpoint/cube.Has -/
def an_cube_Has : Ann := .seq (.reg 0 [] [] []) (.seq (.reg 0 [] [] []) (.no))
noncomputable def sem_cube_Has (n : Nat) (xs : List V) : Option V := if xs.length ≤ 21 then denF Tryz.prog (envOf [(36, (sem_cube_Check n)), (35, (sem_cube_Header n))]) n Tryz.f47 an_cube_Has xs else none
theorem ok_cube_Has (n : Nat) : SemOk Tryz.prog DW 47 (sem_cube_Has n) := fun xs y h => by
  unfold sem_cube_Has at h
  split at h
  · rename_i hl
    exact denF_ok stb Tryz.func47 (by kernel_rfl) (envOf_ok (semsOk_cons (ok_cube_Check n) (semsOk_cons (ok_cube_Header n) semsOk_nil))) (by rw [Tryz.ntmps47]; exact hl) h
  · cases h
theorem eq_cube_Has (n : Nat) (x0 x1 : V) : sem_cube_Has n [x0, x1] =
 (V.cellsO x0).bind fun v1 =>
 (ldk (some 2) (List.drop 0 v1)).bind fun v2 =>
 ((sem_cube_Check n) [v2]).bind fun v3 =>
 (bin2 Tryz.prog BinOp.eql 31 (ot 6) (Operand.const Go.Value.nilIface) v3 vn).bind fun v4 =>
 (guardV v4 true (some x1)).bind fun v5 =>
 (guardV v4 true (((sem_cube_Header n) [v5]).bind fun v6 =>
 some v6)).bind fun v7 =>
 (pickV v4 v7 (vb false)).bind fun v8 =>
 (guardV v8 true (some x1)).bind fun v9 =>
 (guardV v8 true (some V.any)).bind fun v10 =>
 (guardV v8 true ((gate v8 true (ldk none (List.drop 0 v1))).bind fun v11 =>
 some v11)).bind fun v12 =>
 (guardV v8 true ((bin2 Tryz.prog BinOp.and 3 (ot 13) (ot 15) v9 v12).bind fun v13 =>
 some v13)).bind fun v14 =>
 (guardV v8 true (some V.any)).bind fun v15 =>
 (guardV v8 true ((gate v8 true (ldk none (List.drop 1 v1))).bind fun v16 =>
 some v16)).bind fun v17 =>
 (guardV v8 true ((bin2 Tryz.prog BinOp.eql 3 (ot 16) (ot 18) v14 v17).bind fun v18 =>
 some v18)).bind fun v19 =>
 (pickV v8 v19 (vb false)).bind fun v20 =>
 some v20 := by kernel_rfl
noncomputable def t_cube_Has (a0 : T_Cube) (a1 : Int) : Option Bool :=
 (t_cube_Check a0).bind fun r4 =>
 (gd (decide (r4 = 0)) default (t_cube_Header a1)).bind fun r11 =>
 some (((decide (r4 = 0)) && r11) && (decide ((bits .and .i64 a1 a0.Mask) = a0.Bits)))
theorem ty_cube_Has {n : Nat} (hn : bigN ≤ n) (a0 : T_Cube) (a1 : Int) : Rv (fun x : Bool => (vb x)) (sem_cube_Has n [(T_Cube.e a0), (vi a1)]) (t_cube_Has a0 a1) := by
  rw [eq_cube_Has]
  unfold t_cube_Has
  refine tb (x := (T_Cube.c a0)) rfl ?_
  refine tb (x := (T_Cube.e a0)) (rfl) ?_
  refine tbo (ty_cube_Check hn a0) fun r4 => ?_
  refine tb (x := (vb (decide (r4 = 0)))) (p_err_eql _) ?_
  refine tg (x := (vi a1)) (fun h6 => rfl) ?_
  refine tgo (fun h8 => by simp only [gv_t h8]; exact rf_bind_some (ty_cube_Header hn a1)) fun r11 => ?_
  refine tb (x := (vb ((decide (r4 = 0)) && r11))) (pick_and (fun h9 => gv_t h9)) ?_
  refine tg (x := (vi a1)) (fun h13 => rfl) ?_
  refine tg (x := V.any) (fun h15 => rfl) ?_
  refine tg (x := (vi a0.Mask)) (fun h17 => bind_some_eq (gate_pos h17 (rfl))) ?_
  refine tg (x := (vi (bits .and .i64 a1 a0.Mask))) (fun h20 => by simp only [gv_t h20]; exact bind_some_eq (d_and)) ?_
  refine tg (x := V.any) (fun h23 => rfl) ?_
  refine tg (x := (vi a0.Bits)) (fun h25 => bind_some_eq (gate_pos h25 (rfl))) ?_
  refine tg (x := (vb (decide ((bits .and .i64 a1 a0.Mask) = a0.Bits)))) (fun h28 => by simp only [gv_t h28]; exact bind_some_eq (d_eql)) ?_
  refine tb (x := (vb (((decide (r4 = 0)) && r11) && (decide ((bits .and .i64 a1 a0.Mask) = a0.Bits))))) (pick_and (fun h9 => gv_t h9)) ?_
  exact rf_ret rfl

/-! railpoint/rule.Apply -/
def an_rule_Apply : Ann := .seq (.reg 0 [] [] []) (.seq (.seq (.reg 0 [] [] []) (.seq (.reg 0 [] [] []) (.cond none (.seq (.reg 0 [] [] []) (.no)) (.no)))) (.seq (.blk none (.seq (.reg 0 [] [] []) (.cond none (.seq (.reg 0 [] [] []) (.no)) (.seq (.reg 0 [] [] []) (.cond none (.seq (.reg 0 [] [] []) (.no)) (.no)))))) (.seq (.reg 0 [] [] []) (.no))))
noncomputable def sem_rule_Apply (n : Nat) (xs : List V) : Option V := if xs.length ≤ 36 then denF Tryz.prog (envOf [(7, (sem_rule_Check n)), (35, (sem_cube_Header n)), (47, (sem_cube_Has n))]) n Tryz.f15 an_rule_Apply xs else none
theorem ok_rule_Apply (n : Nat) : SemOk Tryz.prog DW 15 (sem_rule_Apply n) := fun xs y h => by
  unfold sem_rule_Apply at h
  split at h
  · rename_i hl
    exact denF_ok stb Tryz.func15 (by kernel_rfl) (envOf_ok (semsOk_cons (ok_rule_Check n) (semsOk_cons (ok_cube_Header n) (semsOk_cons (ok_cube_Has n) semsOk_nil)))) (by rw [Tryz.ntmps15]; exact hl) h
  · cases h
theorem eq_rule_Apply (n : Nat) (x0 x1 : V) : sem_rule_Apply n [x0, x1] =
 (V.cellsO x0).bind fun v1 =>
 (ldk (some 6) (List.drop 0 v1)).bind fun v2 =>
 ((sem_rule_Check n) [v2]).bind fun v3 =>
 (bin2 Tryz.prog BinOp.neq 31 (ot 9) (Operand.const Go.Value.nilIface) v3 vn).bind fun v4 =>
 condV v4 (
 some (V.tup [(vi 0), v3])) (
 ((sem_cube_Header n) [x1]).bind fun v5 =>
 (scal1 Tryz.prog (Op.unary Go.UnOp.not) v5).bind fun v6 =>
 condV v6 (
 (scal1 Tryz.prog (Instr.makeInterface 86) (vi 1)).bind fun v7 =>
 some (V.tup [(vi 0), v7])) (
 (ldk (some 2) (List.drop 1 v1)).bind fun v8 =>
 ((sem_cube_Has n) [v8, x1]).bind fun v9 =>
 (scal1 Tryz.prog (Op.unary Go.UnOp.not) v9).bind fun v10 =>
 (guardV v10 false (some V.any)).bind fun v11 =>
 (guardV v10 false ((gate v10 false (ldk none (List.drop 3 v1))).bind fun v12 =>
 some v12)).bind fun v13 =>
 (guardV v10 false ((bin2 Tryz.prog BinOp.eql 3 (ot 25) (oc 0) v13 (vi 0)).bind fun v14 =>
 some v14)).bind fun v15 =>
 (pickV v10 (vb true) v15).bind fun v16 =>
 condV v16 (
 (scal1 Tryz.prog (Instr.makeInterface 86) (vi 5)).bind fun v17 =>
 some (V.tup [(vi 0), v17])) (
 (ldk none (List.drop 4 v1)).bind fun v18 =>
 (bin2 Tryz.prog BinOp.andNot 3 (ot 29) (ot 31) x1 v18).bind fun v19 =>
 (ldk none (List.drop 5 v1)).bind fun v20 =>
 (bin2 Tryz.prog BinOp.or 3 (ot 32) (ot 34) v19 v20).bind fun v21 =>
 some (V.tup [v21, vn])))) := by kernel_rfl
noncomputable def t_rule_Apply (a0 : T_Rule) (a1 : Int) : Option (Int × Int) :=
 (t_rule_Check a0).bind fun r4 =>
 if (!decide (r4 = 0)) = true then (
 some (0, r4)) else (
 (t_cube_Header a1).bind fun r8 =>
 if (!r8) = true then (
 some (0, 1)) else (
 (t_cube_Has a0.Cube a1).bind fun r14 =>
 if ((!r14) || (decide (a0.Out = 0))) = true then (
 some (0, 5)) else (
 some ((bits .or .i64 (bits .andNot .i64 a1 a0.Set) a0.Value), 0))))
theorem ty_rule_Apply {n : Nat} (hn : bigN ≤ n) (a0 : T_Rule) (a1 : Int) : Rv (fun x : (Int × Int) => V.tup [(vi x.1), (eV x.2)]) (sem_rule_Apply n [(T_Rule.e a0), (vi a1)]) (t_rule_Apply a0 a1) := by
  rw [eq_rule_Apply]
  unfold t_rule_Apply
  refine tb (x := (T_Rule.c a0)) rfl ?_
  refine tb (x := (T_Rule.e a0)) (rfl) ?_
  refine tbo (ty_rule_Check hn a0) fun r4 => ?_
  refine tb (x := (vb (!decide (r4 = 0)))) (p_err_neq _) ?_
  refine tcond (fun h6 => ?_) (fun h6 => ?_)
  · exact rf_ret rfl
  · refine tbo (ty_cube_Header hn a1) fun r8 => ?_
    refine tb (x := (vb (!r8))) (d_not) ?_
    refine tcond (fun h10 => ?_) (fun h10 => ?_)
    · refine tb (x := (eV 1)) (p_mkE (by decide)) ?_
      exact rf_ret rfl
    · refine tb (x := (T_Cube.e a0.Cube)) (rfl) ?_
      refine tbo (ty_cube_Has hn a0.Cube a1) fun r14 => ?_
      refine tb (x := (vb (!r14))) (d_not) ?_
      refine tg_f (x := V.any) (fun h16 => rfl) ?_
      refine tg_f (x := (vi a0.Out)) (fun h18 => bind_some_eq (gate_pos (not_t h18) (rfl))) ?_
      refine tg_f (x := (vb (decide (a0.Out = 0)))) (fun h21 => by simp only [gv_t h21]; exact bind_some_eq (d_eql)) ?_
      refine tb (x := (vb ((!r14) || (decide (a0.Out = 0))))) (pick_or (fun h9 => gv_t (not_f h9))) ?_
      refine tcond (fun h25 => ?_) (fun h25 => ?_)
      · refine tb (x := (eV 5)) (p_mkE (by decide)) ?_
        exact rf_ret rfl
      · refine tb (x := (vi a0.Set)) (rfl) ?_
        refine tb (x := (vi (bits .andNot .i64 a1 a0.Set))) (d_andNot) ?_
        refine tb (x := (vi a0.Value)) (rfl) ?_
        refine tb (x := (vi (bits .or .i64 (bits .andNot .i64 a1 a0.Set) a0.Value))) (d_or) ?_
        exact rf_ret rfl

/-! railpoint/railref1.Table -/
def an_railref1_Table : Ann := .seq (.reg 0 [] [] []) (.seq (.seq (.reg 0 [] [] []) (.cond none (.seq (.reg 0 [] [] []) (.no)) (.no))) (.seq (.seq (.reg 0 [] [] []) (.blk (some []) (.loop [.s 3] (.seq (.seq (.reg 0 [] [] []) (.cond none (.no) (.no))) (.seq (.blk (some []) (.seq (.reg 0 [] [] []) (.seq (.seq (.reg 0 [] [] []) (.cond none (.seq (.reg 0 [] [] []) (.no)) (.no))) (.seq (.reg 0 [] [] []) (.blk (some []) (.loop [.s 5] (.seq (.seq (.reg 0 [] [] []) (.cond none (.no) (.no))) (.seq (.blk none (.seq (.reg 24 [] [] []) (.cond none (.seq (.reg 0 [] [] []) (.no)) (.no)))) (.reg 0 [] [] []))))))))) (.reg 0 [] [] [])))))) (.seq (.reg 0 [] [] []) (.no))))
noncomputable def sem_railref1_Table (n : Nat) (xs : List V) : Option V := if xs.length ≤ 52 then denF Tryz.prog (envOf [(5, (sem_railref1_Rule n))]) n Tryz.f16 an_railref1_Table xs else none
theorem ok_railref1_Table (n : Nat) : SemOk Tryz.prog DW 16 (sem_railref1_Table n) := fun xs y h => by
  unfold sem_railref1_Table at h
  split at h
  · rename_i hl
    exact denF_ok stb Tryz.func16 (by kernel_rfl) (envOf_ok (semsOk_cons (ok_railref1_Rule n) semsOk_nil)) (by rw [Tryz.ntmps16]; exact hl) h
  · cases h
theorem eq_railref1_Table (n : Nat) (x0 : V) : sem_railref1_Table n [x0] =
 (lenS [x0]).bind fun v1 =>
 (bin2 Tryz.prog BinOp.gtr 3 (ot 7) (oc 12) v1 (vi 12)).bind fun v2 =>
 condV v2 (
 some (vi 4)) (
 JoinPt (fun vs3 =>
 some (vi 0)) fun J4 =>
 (fixN (fun rec5 vs6 =>
 (lenS [x0]).bind fun v7 =>
 (bin2 Tryz.prog BinOp.lss 3 (ot 9) (ot 11) (List.getD vs6 0 V.any) v7).bind fun v8 =>
 condV v8 (
 JoinPt (fun vs9 =>
 (bin2 Tryz.prog BinOp.add 3 (ot 13) (oc 1) (List.getD vs6 0 V.any) (vi 1)).bind fun v11 =>
 rec5 [v11]) fun J10 =>
 (idxS 6 x0 (List.getD vs6 0 V.any)).bind fun v12 =>
 (ldp (some 6) v12).bind fun v13 =>
 ((sem_railref1_Rule n) [v13]).bind fun v14 =>
 (bin2 Tryz.prog BinOp.neq 3 (ot 20) (oc 0) v14 (vi 0)).bind fun v15 =>
 condV v15 (
 some v14) (
 JoinPt (fun vs16 =>
 J10 []) fun J17 =>
 (fixN (fun rec18 vs19 =>
 (bin2 Tryz.prog BinOp.lss 3 (ot 23) (ot 24) (List.getD vs19 0 V.any) (List.getD vs6 0 V.any)).bind fun v20 =>
 condV v20 (
 (idxS 6 x0 (List.getD vs19 0 V.any)).bind fun v21 =>
 (ptrF 0 v21).bind fun v22 =>
 (ldp none v22).bind fun v23 =>
 (idxS 6 x0 (List.getD vs6 0 V.any)).bind fun v24 =>
 (ptrF 0 v24).bind fun v25 =>
 (ldp none v25).bind fun v26 =>
 (bin2 Tryz.prog BinOp.eql 3 (ot 32) (ot 37) v23 v26).bind fun v27 =>
 (guardV v27 true (some x0)).bind fun v28 =>
 (guardV v27 true (some (List.getD vs19 0 V.any))).bind fun v29 =>
 (guardV v27 true ((idxS 6 v28 v29).bind fun v30 =>
 some v30)).bind fun v31 =>
 (guardV v27 true ((ptrF 1 v31).bind fun v32 =>
 some v32)).bind fun v33 =>
 (guardV v27 true ((ldp (some 2) v33).bind fun v34 =>
 some v34)).bind fun v35 =>
 (guardV v27 true (some x0)).bind fun v36 =>
 (guardV v27 true (some (List.getD vs6 0 V.any))).bind fun v37 =>
 (guardV v27 true ((idxS 6 v36 v37).bind fun v38 =>
 some v38)).bind fun v39 =>
 (guardV v27 true ((ptrF 1 v39).bind fun v40 =>
 some v40)).bind fun v41 =>
 (guardV v27 true ((ldp (some 2) v41).bind fun v42 =>
 some v42)).bind fun v43 =>
 (guardV v27 true ((bin2 Tryz.prog BinOp.eql 23 (ot 44) (ot 49) v35 v43).bind fun v44 =>
 some v44)).bind fun v45 =>
 (pickV v27 v45 (vb false)).bind fun v46 =>
 condV v46 (
 some (vi 7)) (
 (bin2 Tryz.prog BinOp.add 3 (ot 26) (oc 1) (List.getD vs19 0 V.any) (vi 1)).bind fun v47 =>
 rec18 [v47])) (
 J17 [])) n) [(vi 0)])) (
 J4 [])) n) [(vi 0)]) := by kernel_rfl
noncomputable def t_railref1_Table (a0 : (List T_Rule)) : Option Int :=
 if (decide (12 < (List.length a0 : Int))) = true then (
 some 4) else (
 join (fun (s6 : Unit) =>
 some 0) fun j7 =>
 loopI a0 (fun (i15 : Int) x16 (s11 : Unit) k12 =>
 join (fun (s24 : Unit) =>
 k12 ()) fun j25 =>
 (t_railref1_Rule x16).bind fun r31 =>
 if (decide (r31 ≠ 0)) = true then (
 some r31) else (
 join (fun (s36 : Unit) =>
 j25 ()) fun j37 =>
 loopU 0 i15 (fun (i45 : Int) (s41 : Unit) k42 =>
 (idx a0 i45).bind fun r53 =>
 (gd (decide (r53.Prio = x16.Prio)) default (idx a0 i45)).bind fun r67 =>
 if ((decide (r53.Prio = x16.Prio)) && (decide (r67.Cube = x16.Cube))) = true then (
 some 7) else (
 k42 ())) (fun (i45 : Int) (s41 : Unit) =>
 j37 ()) ())) (fun (s11 : Unit) =>
 j7 ()) ())
theorem ty_railref1_Table {n : Nat} (hn : bigN ≤ n) (a0 : (List T_Rule)) : Rv (fun x : Int => (vi x)) (sem_railref1_Table n [(V.sl (List.map T_Rule.c a0))]) (t_railref1_Table a0) := by
  rw [eq_railref1_Table]
  unfold t_railref1_Table
  refine tb (x := (vi (List.length a0 : Int))) (p_len _) ?_
  refine tb (x := (vb (decide (12 < (List.length a0 : Int))))) (d_gtr) ?_
  refine tcond (fun h3 => ?_) (fun h3 => ?_)
  · exact rf_ret rfl
  · refine tjoin (mk := fun s6 : Unit => []) (fun s6 => ?_) fun J5 j7 h8 => ?_
    · exact rf_ret rfl
    · refine rf_loopI (mk := fun (i15 : Int) (s11 : Unit) => [(vi (i15 : Int))]) hn a0 () (fun i15 x16 h17 h18 h19 s11 rec9 k12 h13 => ?_) (fun s11 rec95 h94 => ?_)
      · refine tb (x := (vi (List.length a0 : Int))) (p_len _) ?_
        refine tb (x := (vb (decide ((i15 : Int) < (List.length a0 : Int))))) (d_lss) ?_
        refine tcond_t h19 ?_
        refine tjoin (mk := fun s24 : Unit => []) (fun s24 => ?_) fun J23 j25 h26 => ?_
        · refine tb (x := (vi ((i15 : Int) + 1))) (p_incN h18) ?_
          exact h13 ()
        · refine tb (x := (V.ptr (T_Rule.c x16))) (p_idx_at (c := T_Rule.c) (fun _ => rfl) h17) ?_
          refine tb (x := (T_Rule.e x16)) (rfl) ?_
          refine tbo (ty_railref1_Rule hn x16) fun r31 => ?_
          refine tb (x := (vb (decide (r31 ≠ 0)))) (d_neq) ?_
          refine tcond (fun h33 => ?_) (fun h33 => ?_)
          · exact rf_ret rfl
          · refine tjoin (mk := fun s36 : Unit => []) (fun s36 => ?_) fun J35 j37 h38 => ?_
            · exact h26 ()
            · refine rf_loopU (mk := fun (i45 : Int) (s41 : Unit) => [(vi i45)]) hn _ _ () (fun i45 h46 h47 h48 s41 rec39 k42 h43 => ?_) (fun i45 s41 rec50 h49 => ?_)
              · refine tb (x := (vb (decide (i45 < (i15 : Int))))) (d_lss) ?_
                refine tcond_t h46 ?_
                refine tbo (p_idx (c := T_Rule.c) (fun _ => rfl) a0 i45) fun r53 => ?_
                refine tb (x := (V.ptr (T_Rule.c r53))) (rfl) ?_
                refine tb (x := (vi r53.Prio)) (rfl) ?_
                refine tb (x := (V.ptr (T_Rule.c x16))) (p_idx_at (c := T_Rule.c) (fun _ => rfl) h17) ?_
                refine tb (x := (V.ptr (T_Rule.c x16))) (rfl) ?_
                refine tb (x := (vi x16.Prio)) (rfl) ?_
                refine tb (x := (vb (decide (r53.Prio = x16.Prio)))) (d_eql) ?_
                refine tg (x := (V.sl (List.map T_Rule.c a0))) (fun h60 => rfl) ?_
                refine tg (x := (vi i45)) (fun h62 => rfl) ?_
                refine tgo (fun h64 => by simp only [gv_t h64]; exact rf_bind_some (p_idx (c := T_Rule.c) (fun _ => rfl) a0 i45)) fun r67 => ?_
                refine tg (x := (V.ptr (List.drop 1 (T_Rule.c r67)))) (fun h68 => by first | exact bind_some_eq (rfl) | (simp only [gv_t h68]; exact bind_some_eq (rfl))) ?_
                refine tg (x := (T_Cube.e r67.Cube)) (fun h71 => by first | exact bind_some_eq (rfl) | (simp only [gv_t h71]; exact bind_some_eq (rfl))) ?_
                refine tg (x := (V.sl (List.map T_Rule.c a0))) (fun h74 => rfl) ?_
                refine tg (x := (vi (i15 : Int))) (fun h76 => rfl) ?_
                refine tg (x := (V.ptr (T_Rule.c x16))) (fun h78 => by simp only [gv_t h78]; exact bind_some_eq (p_idx_at (c := T_Rule.c) (fun _ => rfl) h17)) ?_
                refine tg (x := (V.ptr (List.drop 1 (T_Rule.c x16)))) (fun h81 => by first | exact bind_some_eq (rfl) | (simp only [gv_t h81]; exact bind_some_eq (rfl))) ?_
                refine tg (x := (T_Cube.e x16.Cube)) (fun h84 => by first | exact bind_some_eq (rfl) | (simp only [gv_t h84]; exact bind_some_eq (rfl))) ?_
                refine tg (x := (vb (decide (r67.Cube = x16.Cube)))) (fun h87 => by simp only [gv_t h87]; exact bind_some_eq (T_Cube.eql r67.Cube x16.Cube)) ?_
                refine tb (x := (vb ((decide (r53.Prio = x16.Prio)) && (decide (r67.Cube = x16.Cube))))) (pick_and (fun h9 => gv_t h9)) ?_
                refine tcond (fun h91 => ?_) (fun h91 => ?_)
                · exact rf_ret rfl
                · refine tb (x := (vi (i45 + 1))) (p_inc h47 h48) ?_
                  exact h43 ()
              · refine tb (x := (vb (decide (i45 < (i15 : Int))))) (d_lss) ?_
                refine tcond_f h49 ?_
                exact h38 ()
      · refine tb (x := (vi (List.length a0 : Int))) (p_len _) ?_
        refine tb (x := (vb (decide ((List.length a0 : Int) < (List.length a0 : Int))))) (d_lss) ?_
        refine tcond_f h94 ?_
        exact h8 ()

/-! slices.IndexFunc railpoint/api.Table railpoint/api.Rule  -/
def an_slices_IndexFunc_api_Table_api_Rule : Ann := .seq (.reg 0 [] [] []) (.seq (.seq (.reg 0 [] [] []) (.blk (some []) (.loop [.s 8] (.seq (.reg 0 [] [] []) (.seq (.cond none (.no) (.no)) (.seq (.blk none (.seq (.reg 0 [] [] []) (.seq (.reg 0 [] [] []) (.cond none (.seq (.reg 0 [] [] []) (.no)) (.no))))) (.reg 0 [] [] []))))))) (.seq (.reg 0 [] [] []) (.no)))
noncomputable def sem_slices_IndexFunc_api_Table_api_Rule (E : FuncId → List V → Option V) (n : Nat) (xs : List V) : Option V := if xs.length ≤ 19 then denF Tryz.prog (envJ [] E) n Tryz.f73 an_slices_IndexFunc_api_Table_api_Rule xs else none
theorem ok_slices_IndexFunc_api_Table_api_Rule {E : FuncId → List V → Option V} (hE : EnvOk Tryz.prog DW E) (n : Nat) : SemOk Tryz.prog DW 73 (sem_slices_IndexFunc_api_Table_api_Rule E n) := fun xs y h => by
  unfold sem_slices_IndexFunc_api_Table_api_Rule at h
  split at h
  · rename_i hl
    exact denF_ok stb Tryz.func73 (by kernel_rfl) (envJ_ok semsOk_nil hE) (by rw [Tryz.ntmps73]; exact hl) h
  · cases h
theorem eq_slices_IndexFunc_api_Table_api_Rule (E : FuncId → List V → Option V) (n : Nat) (x0 x1 : V) : sem_slices_IndexFunc_api_Table_api_Rule E n [x0, x1] =
 (lenS [x0]).bind fun v1 =>
 JoinPt (fun vs2 =>
 some (vi (-1 : Int))) fun J3 =>
 (fixN (fun rec4 vs5 =>
 (bin2 Tryz.prog BinOp.lss 3 (ot 8) (ot 7) (List.getD vs5 0 V.any) v1).bind fun v6 =>
 condV v6 (
 (idxS 6 x0 (List.getD vs5 0 V.any)).bind fun v7 =>
 (ldp (some 6) v7).bind fun v8 =>
 (callV (envJ [] E) x1 [v8]).bind fun v9 =>
 condV v9 (
 some (List.getD vs5 0 V.any)) (
 (bin2 Tryz.prog BinOp.add 3 (ot 8) (oc 1) (List.getD vs5 0 V.any) (vi 1)).bind fun v10 =>
 rec4 [v10])) (
 J3 [])) n) [(vi 0)] := by kernel_rfl
noncomputable def t_slices_IndexFunc_api_Table_api_Rule (a0 : (List T_Rule)) (g1 : T_Rule → Option Bool) : Option Int :=
 join (fun (s4 : Unit) =>
 some (-1 : Int)) fun j5 =>
 loopI a0 (fun (i13 : Int) x14 (s9 : Unit) k10 =>
 (g1 x14).bind fun r22 =>
 if r22 = true then (
 some i13) else (
 k10 ())) (fun (s9 : Unit) =>
 j5 ()) ()
theorem ty_slices_IndexFunc_api_Table_api_Rule {E : FuncId → List V → Option V} {n : Nat} (hn : bigN ≤ n) (a0 : (List T_Rule)) {x1 : V} {g1 : T_Rule → Option Bool} (hg_g1 : ∀ a0, Rv (fun x : Bool => (vb x)) (callV E x1 [(T_Rule.e a0)]) (g1 a0)) : Rv (fun x : Int => (vi x)) (sem_slices_IndexFunc_api_Table_api_Rule E n [(V.sl (List.map T_Rule.c a0)), x1]) (t_slices_IndexFunc_api_Table_api_Rule a0 g1) := by
  rw [eq_slices_IndexFunc_api_Table_api_Rule]
  unfold t_slices_IndexFunc_api_Table_api_Rule
  refine tb (x := (vi (List.length a0 : Int))) (p_len _) ?_
  refine tjoin (mk := fun s4 : Unit => []) (fun s4 => ?_) fun J3 j5 h6 => ?_
  · exact rf_ret rfl
  · refine rf_loopI (mk := fun (i13 : Int) (s9 : Unit) => [(vi (i13 : Int))]) hn a0 () (fun i13 x14 h15 h16 h17 s9 rec7 k10 h11 => ?_) (fun s9 rec26 h25 => ?_)
    · refine tb (x := (vb (decide ((i13 : Int) < (List.length a0 : Int))))) (d_lss) ?_
      refine tcond_t h17 ?_
      refine tb (x := (V.ptr (T_Rule.c x14))) (p_idx_at (c := T_Rule.c) (fun _ => rfl) h15) ?_
      refine tb (x := (T_Rule.e x14)) (rfl) ?_
      refine tbo ((callV_J0 ▸ hg_g1 x14)) fun r22 => ?_
      refine tcond (fun h23 => ?_) (fun h23 => ?_)
      · exact rf_ret rfl
      · refine tb (x := (vi ((i13 : Int) + 1))) (p_incN h16) ?_
        exact h11 ()
    · refine tb (x := (vb (decide ((List.length a0 : Int) < (List.length a0 : Int))))) (d_lss) ?_
      refine tcond_f h25 ?_
      exact h6 ()

/-! slices.ContainsFunc railpoint/api.Table railpoint/api.Rule  -/
def an_slices_ContainsFunc_api_Table_api_Rule : Ann := .seq (.reg 0 [] [] []) (.seq (.reg 0 [] [] []) (.no))
noncomputable def sem_slices_ContainsFunc_api_Table_api_Rule (E : FuncId → List V → Option V) (n : Nat) (xs : List V) : Option V := if xs.length ≤ 9 then denF Tryz.prog (envJ [(73, (sem_slices_IndexFunc_api_Table_api_Rule E n))] E) n Tryz.f48 an_slices_ContainsFunc_api_Table_api_Rule xs else none
theorem ok_slices_ContainsFunc_api_Table_api_Rule {E : FuncId → List V → Option V} (hE : EnvOk Tryz.prog DW E) (n : Nat) : SemOk Tryz.prog DW 48 (sem_slices_ContainsFunc_api_Table_api_Rule E n) := fun xs y h => by
  unfold sem_slices_ContainsFunc_api_Table_api_Rule at h
  split at h
  · rename_i hl
    exact denF_ok stb Tryz.func48 (by kernel_rfl) (envJ_ok (semsOk_cons (ok_slices_IndexFunc_api_Table_api_Rule hE n) semsOk_nil) hE) (by rw [Tryz.ntmps48]; exact hl) h
  · cases h
theorem eq_slices_ContainsFunc_api_Table_api_Rule (E : FuncId → List V → Option V) (n : Nat) (x0 x1 : V) : sem_slices_ContainsFunc_api_Table_api_Rule E n [x0, x1] =
 ((sem_slices_IndexFunc_api_Table_api_Rule E n) [x0, x1]).bind fun v1 =>
 (bin2 Tryz.prog BinOp.geq 3 (ot 7) (oc 0) v1 (vi 0)).bind fun v2 =>
 some v2 := by kernel_rfl
noncomputable def t_slices_ContainsFunc_api_Table_api_Rule (a0 : (List T_Rule)) (g1 : T_Rule → Option Bool) : Option Bool :=
 (t_slices_IndexFunc_api_Table_api_Rule a0 g1).bind fun r2 =>
 some (decide (0 ≤ r2))
theorem ty_slices_ContainsFunc_api_Table_api_Rule {E : FuncId → List V → Option V} {n : Nat} (hn : bigN ≤ n) (a0 : (List T_Rule)) {x1 : V} {g1 : T_Rule → Option Bool} (hg_g1 : ∀ a0, Rv (fun x : Bool => (vb x)) (callV E x1 [(T_Rule.e a0)]) (g1 a0)) : Rv (fun x : Bool => (vb x)) (sem_slices_ContainsFunc_api_Table_api_Rule E n [(V.sl (List.map T_Rule.c a0)), x1]) (t_slices_ContainsFunc_api_Table_api_Rule a0 g1) := by
  rw [eq_slices_ContainsFunc_api_Table_api_Rule]
  unfold t_slices_ContainsFunc_api_Table_api_Rule
  refine tbo (ty_slices_IndexFunc_api_Table_api_Rule (E := E) (x1 := x1) (g1 := g1) hn a0 hg_g1) fun r2 => ?_
  refine tb (x := (vb (decide (0 ≤ r2)))) (d_geq) ?_
  exact rf_ret rfl

/-! railpoint/rule.Key -/
def an_rule_Key : Ann := .seq (.reg 0 [] [] []) (.seq (.reg 0 [] [] []) (.no))
noncomputable def sem_rule_Key (n : Nat) (xs : List V) : Option V := if xs.length ≤ 17 then denF Tryz.prog (envOf []) n Tryz.f50 an_rule_Key xs else none
theorem ok_rule_Key (n : Nat) : SemOk Tryz.prog DW 50 (sem_rule_Key n) := fun xs y h => by
  unfold sem_rule_Key at h
  split at h
  · rename_i hl
    exact denF_ok stb Tryz.func50 (by kernel_rfl) (envOf_ok semsOk_nil) (by rw [Tryz.ntmps50]; exact hl) h
  · cases h
theorem eq_rule_Key (n : Nat) (x0 x1 : V) : sem_rule_Key n [x0, x1] =
 (V.cellsO x0).bind fun v1 =>
 (V.cellsO x1).bind fun v2 =>
 (ldk none (List.drop 0 v1)).bind fun v3 =>
 (ldk none (List.drop 0 v2)).bind fun v4 =>
 (bin2 Tryz.prog BinOp.eql 3 (ot 6) (ot 8) v3 v4).bind fun v5 =>
 (guardV v5 true (some V.any)).bind fun v6 =>
 (guardV v5 true ((gate v5 true (ldk (some 2) (List.drop 1 v1))).bind fun v7 =>
 some v7)).bind fun v8 =>
 (guardV v5 true (some V.any)).bind fun v9 =>
 (guardV v5 true ((gate v5 true (ldk (some 2) (List.drop 1 v2))).bind fun v10 =>
 some v10)).bind fun v11 =>
 (guardV v5 true ((bin2 Tryz.prog BinOp.eql 23 (ot 12) (ot 14) v8 v11).bind fun v12 =>
 some v12)).bind fun v13 =>
 (pickV v5 v13 (vb false)).bind fun v14 =>
 some v14 := by kernel_rfl
noncomputable def t_rule_Key (a0 : T_Rule) (a1 : T_Rule) : Option Bool :=
 some ((decide (a0.Prio = a1.Prio)) && (decide (a0.Cube = a1.Cube)))
theorem ty_rule_Key {n : Nat} (hn : bigN ≤ n) (a0 : T_Rule) (a1 : T_Rule) : Rv (fun x : Bool => (vb x)) (sem_rule_Key n [(T_Rule.e a0), (T_Rule.e a1)]) (t_rule_Key a0 a1) := by
  rw [eq_rule_Key]
  unfold t_rule_Key
  refine tb (x := (T_Rule.c a0)) rfl ?_
  refine tb (x := (T_Rule.c a1)) rfl ?_
  refine tb (x := (vi a0.Prio)) (rfl) ?_
  refine tb (x := (vi a1.Prio)) (rfl) ?_
  refine tb (x := (vb (decide (a0.Prio = a1.Prio)))) (d_eql) ?_
  refine tg (x := V.any) (fun h6 => rfl) ?_
  refine tg (x := (T_Cube.e a0.Cube)) (fun h8 => bind_some_eq (gate_pos h8 (rfl))) ?_
  refine tg (x := V.any) (fun h11 => rfl) ?_
  refine tg (x := (T_Cube.e a1.Cube)) (fun h13 => bind_some_eq (gate_pos h13 (rfl))) ?_
  refine tg (x := (vb (decide (a0.Cube = a1.Cube)))) (fun h16 => by simp only [gv_t h16]; exact bind_some_eq (T_Cube.eql a0.Cube a1.Cube)) ?_
  refine tb (x := (vb ((decide (a0.Prio = a1.Prio)) && (decide (a0.Cube = a1.Cube))))) (pick_and (fun h9 => gv_t h9)) ?_
  exact rf_ret rfl

/-! railpoint/rule.Table$1 -/
def an_rule_Table_1 : Ann := .seq (.reg 0 [] [] []) (.seq (.reg 0 [] [] []) (.no))
noncomputable def sem_rule_Table_1 (n : Nat) (xs : List V) : Option V := if xs.length ≤ 7 then denF Tryz.prog (envOf [(50, (sem_rule_Key n))]) n Tryz.f49 an_rule_Table_1 xs else none
theorem ok_rule_Table_1 (n : Nat) : SemOk Tryz.prog DW 49 (sem_rule_Table_1 n) := fun xs y h => by
  unfold sem_rule_Table_1 at h
  split at h
  · rename_i hl
    exact denF_ok stb Tryz.func49 (by kernel_rfl) (envOf_ok (semsOk_cons (ok_rule_Key n) semsOk_nil)) (by rw [Tryz.ntmps49]; exact hl) h
  · cases h
theorem eq_rule_Table_1 (n : Nat) (x0 x1 : V) : sem_rule_Table_1 n [x0, x1] =
 (V.cellsO x0).bind fun v1 =>
 (ldk (some 6) (List.drop 0 v1)).bind fun v2 =>
 (ldp (some 6) x1).bind fun v3 =>
 ((sem_rule_Key n) [v2, v3]).bind fun v4 =>
 some v4 := by kernel_rfl
noncomputable def t_rule_Table_1 (a0 : T_Rule) (a1 : T_Rule) : Option Bool :=
 (t_rule_Key a0 a1).bind fun r5 =>
 some r5
theorem ty_rule_Table_1 {n : Nat} (hn : bigN ≤ n) (a0 : T_Rule) (a1 : T_Rule) : Rv (fun x : Bool => (vb x)) (sem_rule_Table_1 n [(T_Rule.e a0), (V.ptr (T_Rule.c a1))]) (t_rule_Table_1 a0 a1) := by
  rw [eq_rule_Table_1]
  unfold t_rule_Table_1
  refine tb (x := (T_Rule.c a0)) rfl ?_
  refine tb (x := (T_Rule.e a0)) (rfl) ?_
  refine tb (x := (T_Rule.e a1)) (rfl) ?_
  refine tbo (ty_rule_Key hn a0 a1) fun r5 => ?_
  exact rf_ret rfl

/-! railpoint/rule.Table -/
def an_rule_Table : Ann := .seq (.reg 0 [] [] []) (.seq (.seq (.reg 0 [] [] []) (.cond none (.seq (.reg 0 [] [] []) (.no)) (.no))) (.seq (.seq (.reg 0 [] [] []) (.blk (some []) (.loop [.s 12] (.seq (.reg 0 [] [] []) (.seq (.cond none (.no) (.no)) (.seq (.blk none (.seq (.reg 0 [] [] []) (.seq (.seq (.reg 0 [4] [] []) (.seq (.reg 0 [] [] []) (.cond none (.seq (.reg 0 [] [] []) (.no)) (.no)))) (.seq (.reg 0 [] [] []) (.cond none (.seq (.reg 0 [] [] []) (.no)) (.no)))))) (.reg 0 [] [] []))))))) (.seq (.reg 0 [] [] []) (.no))))
noncomputable def sem_rule_Table (n : Nat) (xs : List V) : Option V := if xs.length ≤ 29 then denF Tryz.prog (envOf [(7, (sem_rule_Check n)), (48, (sem_slices_ContainsFunc_api_Table_api_Rule (envOf [(49, (sem_rule_Table_1 n))]) n)), (49, (sem_rule_Table_1 n))]) n Tryz.f17 an_rule_Table xs else none
theorem ok_rule_Table (n : Nat) : SemOk Tryz.prog DW 17 (sem_rule_Table n) := fun xs y h => by
  unfold sem_rule_Table at h
  split at h
  · rename_i hl
    exact denF_ok stb Tryz.func17 (by kernel_rfl) (envOf_ok (semsOk_cons (ok_rule_Check n) (semsOk_cons (ok_slices_ContainsFunc_api_Table_api_Rule (envOf_ok (semsOk_cons (ok_rule_Table_1 n) semsOk_nil)) n) (semsOk_cons (ok_rule_Table_1 n) semsOk_nil)))) (by rw [Tryz.ntmps17]; exact hl) h
  · cases h
theorem eq_rule_Table (n : Nat) (x0 : V) : sem_rule_Table n [x0] =
 (lenS [x0]).bind fun v1 =>
 (bin2 Tryz.prog BinOp.gtr 3 (ot 7) (oc 12) v1 (vi 12)).bind fun v2 =>
 condV v2 (
 (scal1 Tryz.prog (Instr.makeInterface 86) (vi 4)).bind fun v3 =>
 some v3) (
 (lenS [x0]).bind fun v4 =>
 JoinPt (fun vs5 =>
 some vn) fun J6 =>
 (fixN (fun rec7 vs8 =>
 (bin2 Tryz.prog BinOp.lss 3 (ot 12) (ot 11) (List.getD vs8 0 V.any) v4).bind fun v9 =>
 condV v9 (
 (idxS 6 x0 (List.getD vs8 0 V.any)).bind fun v10 =>
 (ldp (some 6) v10).bind fun v11 =>
 (spliceV [(vi 0), (vi 0), (vi 0), (vi 0), (vi 0), (vi 0)] 0 6 v11).bind fun v12 =>
 (ldp (some 6) (V.ptr (aggL v12))).bind fun v13 =>
 ((sem_rule_Check n) [v13]).bind fun v14 =>
 (bin2 Tryz.prog BinOp.neq 31 (ot 19) (Operand.const Go.Value.nilIface) v14 vn).bind fun v15 =>
 condV v15 (
 some v14) (
 (slc (some 6) x0 none (some (List.getD vs8 0 V.any))).bind fun v16 =>
 ((sem_slices_ContainsFunc_api_Table_api_Rule (envOf [(49, (sem_rule_Table_1 n))]) n) [v16, (V.fn 49 [(V.ptr (aggL v12))])]).bind fun v17 =>
 condV v17 (
 (scal1 Tryz.prog (Instr.makeInterface 86) (vi 7)).bind fun v18 =>
 some v18) (
 (bin2 Tryz.prog BinOp.add 3 (ot 12) (oc 1) (List.getD vs8 0 V.any) (vi 1)).bind fun v19 =>
 rec7 [v19]))) (
 J6 [])) n) [(vi 0)]) := by kernel_rfl
noncomputable def t_rule_Table (a0 : (List T_Rule)) : Option Int :=
 if (decide (12 < (List.length a0 : Int))) = true then (
 some 4) else (
 join (fun (s8 : Unit) =>
 some 0) fun j9 =>
 loopI a0 (fun (i17 : Int) x18 (s13 : Unit) k14 =>
 (t_rule_Check x18).bind fun r28 =>
 if (!decide (r28 = 0)) = true then (
 some r28) else (
 (slc_hi a0 i17).bind fun r32 =>
 (t_slices_ContainsFunc_api_Table_api_Rule r32 (fun (a33 : T_Rule) => t_rule_Table_1 a33 x18)).bind fun r35 =>
 if r35 = true then (
 some 7) else (
 k14 ()))) (fun (s13 : Unit) =>
 j9 ()) ())
theorem ty_rule_Table {n : Nat} (hn : bigN ≤ n) (a0 : (List T_Rule)) : Rv (fun x : Int => (eV x)) (sem_rule_Table n [(V.sl (List.map T_Rule.c a0))]) (t_rule_Table a0) := by
  rw [eq_rule_Table]
  unfold t_rule_Table
  refine tb (x := (vi (List.length a0 : Int))) (p_len _) ?_
  refine tb (x := (vb (decide (12 < (List.length a0 : Int))))) (d_gtr) ?_
  refine tcond (fun h3 => ?_) (fun h3 => ?_)
  · refine tb (x := (eV 4)) (p_mkE (by decide)) ?_
    exact rf_ret rfl
  · refine tb (x := (vi (List.length a0 : Int))) (p_len _) ?_
    refine tjoin (mk := fun s8 : Unit => []) (fun s8 => ?_) fun J7 j9 h10 => ?_
    · exact rf_ret rfl
    · refine rf_loopI (mk := fun (i17 : Int) (s13 : Unit) => [(vi (i17 : Int))]) hn a0 () (fun i17 x18 h19 h20 h21 s13 rec11 k14 h15 => ?_) (fun s13 rec40 h39 => ?_)
      · refine tb (x := (vb (decide ((i17 : Int) < (List.length a0 : Int))))) (d_lss) ?_
        refine tcond_t h21 ?_
        refine tb (x := (V.ptr (T_Rule.c x18))) (p_idx_at (c := T_Rule.c) (fun _ => rfl) h19) ?_
        refine tb (x := (T_Rule.e x18)) (rfl) ?_
        refine tb (x := V.agg (T_Rule.c x18)) (by kernel_rfl) ?_
        refine tb (x := (T_Rule.e x18)) (rfl) ?_
        refine tbo (ty_rule_Check hn x18) fun r28 => ?_
        refine tb (x := (vb (!decide (r28 = 0)))) (p_err_neq _) ?_
        refine tcond (fun h30 => ?_) (fun h30 => ?_)
        · exact rf_ret rfl
        · refine tbo (p_slc_hi (c := T_Rule.c) (fun _ => rfl) a0 (i17 : Int)) fun r32 => ?_
          refine tbo (ty_slices_ContainsFunc_api_Table_api_Rule (E := (envOf [(49, (sem_rule_Table_1 n))])) (x1 := (V.fn 49 [(V.ptr (T_Rule.c x18))])) (g1 := (fun (a33 : T_Rule) => t_rule_Table_1 a33 x18)) hn r32 (fun a33 => ty_rule_Table_1 hn a33 x18)) fun r35 => ?_
          refine tcond (fun h36 => ?_) (fun h36 => ?_)
          · refine tb (x := (eV 7)) (p_mkE (by decide)) ?_
            exact rf_ret rfl
          · refine tb (x := (vi ((i17 : Int) + 1))) (p_incN h20) ?_
            exact h15 ()
      · refine tb (x := (vb (decide ((List.length a0 : Int) < (List.length a0 : Int))))) (d_lss) ?_
        refine tcond_f h39 ?_
        exact h10 ()

/-! railpoint/railref1.above -/
def an_railref1_above : Ann := .seq (.reg 0 [] [] []) (.seq (.seq (.reg 0 [] [] []) (.cond none (.seq (.reg 0 [] [] []) (.no)) (.no))) (.seq (.seq (.reg 0 [] [] []) (.cond none (.seq (.reg 0 [] [] []) (.no)) (.no))) (.seq (.reg 0 [] [] []) (.no))))
noncomputable def sem_railref1_above (n : Nat) (xs : List V) : Option V := if xs.length ≤ 36 then denF Tryz.prog (envOf []) n Tryz.f51 an_railref1_above xs else none
theorem ok_railref1_above (n : Nat) : SemOk Tryz.prog DW 51 (sem_railref1_above n) := fun xs y h => by
  unfold sem_railref1_above at h
  split at h
  · rename_i hl
    exact denF_ok stb Tryz.func51 (by kernel_rfl) (envOf_ok semsOk_nil) (by rw [Tryz.ntmps51]; exact hl) h
  · cases h
theorem eq_railref1_above (n : Nat) (x0 x1 : V) : sem_railref1_above n [x0, x1] =
 (V.cellsO x0).bind fun v1 =>
 (V.cellsO x1).bind fun v2 =>
 (ldk none (List.drop 0 v1)).bind fun v3 =>
 (ldk none (List.drop 0 v2)).bind fun v4 =>
 (bin2 Tryz.prog BinOp.neq 3 (ot 6) (ot 8) v3 v4).bind fun v5 =>
 condV v5 (
 (ldk none (List.drop 0 v1)).bind fun v6 =>
 (ldk none (List.drop 0 v2)).bind fun v7 =>
 (bin2 Tryz.prog BinOp.gtr 3 (ot 11) (ot 13) v6 v7).bind fun v8 =>
 some v8) (
 (ldk none (List.drop 1 v1)).bind fun v9 =>
 (ldk none (List.drop 1 v2)).bind fun v10 =>
 (bin2 Tryz.prog BinOp.neq 3 (ot 17) (ot 20) v9 v10).bind fun v11 =>
 condV v11 (
 (ldk none (List.drop 1 v1)).bind fun v12 =>
 (ldk none (List.drop 1 v2)).bind fun v13 =>
 (bin2 Tryz.prog BinOp.gtr 3 (ot 24) (ot 27) v12 v13).bind fun v14 =>
 some v14) (
 (ldk none (List.drop 2 v1)).bind fun v15 =>
 (ldk none (List.drop 2 v2)).bind fun v16 =>
 (bin2 Tryz.prog BinOp.gtr 3 (ot 31) (ot 34) v15 v16).bind fun v17 =>
 some v17)) := by kernel_rfl
noncomputable def t_railref1_above (a0 : T_Rule) (a1 : T_Rule) : Option Bool :=
 if (decide (a0.Prio ≠ a1.Prio)) = true then (
 some (decide (a1.Prio < a0.Prio))) else (
 if (decide (a0.Cube.Mask ≠ a1.Cube.Mask)) = true then (
 some (decide (a1.Cube.Mask < a0.Cube.Mask))) else (
 some (decide (a1.Cube.Bits < a0.Cube.Bits))))
theorem ty_railref1_above {n : Nat} (hn : bigN ≤ n) (a0 : T_Rule) (a1 : T_Rule) : Rv (fun x : Bool => (vb x)) (sem_railref1_above n [(T_Rule.e a0), (T_Rule.e a1)]) (t_railref1_above a0 a1) := by
  rw [eq_railref1_above]
  unfold t_railref1_above
  refine tb (x := (T_Rule.c a0)) rfl ?_
  refine tb (x := (T_Rule.c a1)) rfl ?_
  refine tb (x := (vi a0.Prio)) (rfl) ?_
  refine tb (x := (vi a1.Prio)) (rfl) ?_
  refine tb (x := (vb (decide (a0.Prio ≠ a1.Prio)))) (d_neq) ?_
  refine tcond (fun h6 => ?_) (fun h6 => ?_)
  · refine tb (x := (vi a0.Prio)) (rfl) ?_
    refine tb (x := (vi a1.Prio)) (rfl) ?_
    refine tb (x := (vb (decide (a1.Prio < a0.Prio)))) (d_gtr) ?_
    exact rf_ret rfl
  · refine tb (x := (vi a0.Cube.Mask)) (rfl) ?_
    refine tb (x := (vi a1.Cube.Mask)) (rfl) ?_
    refine tb (x := (vb (decide (a0.Cube.Mask ≠ a1.Cube.Mask)))) (d_neq) ?_
    refine tcond (fun h13 => ?_) (fun h13 => ?_)
    · refine tb (x := (vi a0.Cube.Mask)) (rfl) ?_
      refine tb (x := (vi a1.Cube.Mask)) (rfl) ?_
      refine tb (x := (vb (decide (a1.Cube.Mask < a0.Cube.Mask)))) (d_gtr) ?_
      exact rf_ret rfl
    · refine tb (x := (vi a0.Cube.Bits)) (rfl) ?_
      refine tb (x := (vi a1.Cube.Bits)) (rfl) ?_
      refine tb (x := (vb (decide (a1.Cube.Bits < a0.Cube.Bits)))) (d_gtr) ?_
      exact rf_ret rfl

/-! railpoint/railref1.Find -/
def an_railref1_Find : Ann := .seq (.reg 0 [] [] []) (.seq (.reg 0 [] [] []) (.seq (.seq (.reg 0 [] [] []) (.blk (some [.s 5]) (.loop [.s 5, .s 6] (.seq (.seq (.reg 0 [] [] []) (.cond none (.no) (.no))) (.seq (.blk none (.seq (.reg 0 [] [] []) (.seq (.reg 16 [] [] []) (.cond (some [.s 5]) (.reg 0 [] [] []) (.no))))) (.reg 0 [] [] [])))))) (.seq (.reg 0 [] [] []) (.no))))
noncomputable def sem_railref1_Find (n : Nat) (xs : List V) : Option V := if xs.length ≤ 39 then denF Tryz.prog (envOf [(13, (sem_railref1_Has n)), (51, (sem_railref1_above n))]) n Tryz.f18 an_railref1_Find xs else none
theorem ok_railref1_Find (n : Nat) : SemOk Tryz.prog DW 18 (sem_railref1_Find n) := fun xs y h => by
  unfold sem_railref1_Find at h
  split at h
  · rename_i hl
    exact denF_ok stb Tryz.func18 (by kernel_rfl) (envOf_ok (semsOk_cons (ok_railref1_Has n) (semsOk_cons (ok_railref1_above n) semsOk_nil))) (by rw [Tryz.ntmps18]; exact hl) h
  · cases h
theorem eq_railref1_Find (n : Nat) (x0 x1 : V) : sem_railref1_Find n [x0, x1] =
 JoinPt (fun vs1 =>
 some (List.getD vs1 0 V.any)) fun J2 =>
 (fixN (fun rec3 vs4 =>
 (lenS [x0]).bind fun v5 =>
 (bin2 Tryz.prog BinOp.lss 3 (ot 8) (ot 10) (List.getD vs4 1 V.any) v5).bind fun v6 =>
 condV v6 (
 (idxS 6 x0 (List.getD vs4 1 V.any)).bind fun v7 =>
 (ptrF 1 v7).bind fun v8 =>
 (ldp (some 2) v8).bind fun v9 =>
 ((sem_railref1_Has n) [v9, x1]).bind fun v10 =>
 (guardV v10 true (some (List.getD vs4 0 V.any))).bind fun v11 =>
 (guardV v10 true ((bin2 Tryz.prog BinOp.lss 3 (ot 23) (oc 0) v11 (vi 0)).bind fun v12 =>
 some v12)).bind fun v13 =>
 (guardV v10 true (some v13)).bind fun v14 =>
 (guardV v14 false (some x0)).bind fun v15 =>
 (guardV v14 false (some (List.getD vs4 1 V.any))).bind fun v16 =>
 (guardV v14 false ((idxS 6 v15 v16).bind fun v17 =>
 some v17)).bind fun v18 =>
 (guardV v14 false ((ldp (some 6) v18).bind fun v19 =>
 some v19)).bind fun v20 =>
 (guardV v14 false (some x0)).bind fun v21 =>
 (guardV v14 false (some (List.getD vs4 0 V.any))).bind fun v22 =>
 (guardV v14 false ((idxS 6 v21 v22).bind fun v23 =>
 some v23)).bind fun v24 =>
 (guardV v14 false ((ldp (some 6) v24).bind fun v25 =>
 some v25)).bind fun v26 =>
 (guardV v14 false (((sem_railref1_above n) [v20, v26]).bind fun v27 =>
 some v27)).bind fun v28 =>
 (guardV v10 true ((pickV v14 (vb true) v28).bind fun v29 =>
 some v29)).bind fun v30 =>
 (pickV v10 v30 (vb false)).bind fun v31 =>
 JoinPt (fun vs32 =>
 (bin2 Tryz.prog BinOp.add 3 (ot 12) (oc 1) (List.getD vs4 1 V.any) (vi 1)).bind fun v34 =>
 rec3 [(List.getD vs32 0 V.any), v34]) fun J33 =>
 condV v31 (
 J33 [(List.getD vs4 1 V.any)]) (
 J33 [(List.getD vs4 0 V.any)])) (
 J2 [(List.getD vs4 0 V.any)])) n) [(vi (-1 : Int)), (vi 0)] := by kernel_rfl
noncomputable def t_railref1_Find (a0 : (List T_Rule)) (a1 : Int) : Option Int :=
 (loopI a0 (fun (i12 : Int) x13 (s8 : Int) k9 =>
 (t_railref1_Has x13.Cube a1).bind fun r23 =>
 (gd (r23 && (!(decide (s8 < 0)))) default (idx a0 s8)).bind fun r48 =>
 (gd (r23 && (!(decide (s8 < 0)))) default (t_railref1_above x13 r48)).bind fun r55 =>
 (if (r23 && ((decide (s8 < 0)) || r55)) = true then (
 some i12) else (
 some (s8))).bind fun (s62 : Int) =>
 k9 (s62)) (fun (s8 : Int) =>
 some (s8)) (-1 : Int)).bind fun (s3 : Int) =>
 some s3
theorem ty_railref1_Find {n : Nat} (hn : bigN ≤ n) (a0 : (List T_Rule)) (a1 : Int) : Rv (fun x : Int => (vi x)) (sem_railref1_Find n [(V.sl (List.map T_Rule.c a0)), (vi a1)]) (t_railref1_Find a0 a1) := by
  rw [eq_railref1_Find]
  unfold t_railref1_Find
  refine tjb (mk := fun s3 : Int => [(vi s3)]) (fun J2 => ?_) fun s3 => ?_
  · refine rf_loopI (mk := fun (i12 : Int) (s8 : Int) => [(vi s8), (vi (i12 : Int))]) hn a0 (-1 : Int) (fun i12 x13 h14 h15 h16 s8 rec6 k9 h10 => ?_) (fun s8 rec68 h67 => ?_)
    · refine tb (x := (vi (List.length a0 : Int))) (p_len _) ?_
      refine tb (x := (vb (decide ((i12 : Int) < (List.length a0 : Int))))) (d_lss) ?_
      refine tcond_t h16 ?_
      refine tb (x := (V.ptr (T_Rule.c x13))) (p_idx_at (c := T_Rule.c) (fun _ => rfl) h14) ?_
      refine tb (x := (V.ptr (List.drop 1 (T_Rule.c x13)))) (rfl) ?_
      refine tb (x := (T_Cube.e x13.Cube)) (rfl) ?_
      refine tbo (ty_railref1_Has hn x13.Cube a1) fun r23 => ?_
      refine tg (x := (vi s8)) (fun h24 => rfl) ?_
      refine tg (x := (vb (decide (s8 < 0)))) (fun h26 => by simp only [gv_t h26]; exact bind_some_eq (d_lss)) ?_
      refine tg (x := (vb (decide (s8 < 0)))) (fun h29 => congrArg some (gv_t h29)) ?_
      refine tg2_f (x := (V.sl (List.map T_Rule.c a0))) (fun h31 => rfl) ?_
      refine tg2_f (x := (vi (i12 : Int))) (fun h33 => rfl) ?_
      refine tg2_f (x := (V.ptr (T_Rule.c x13))) (fun h35 => by simp only [gv_t h35]; exact bind_some_eq (p_idx_at (c := T_Rule.c) (fun _ => rfl) h14)) ?_
      refine tg2_f (x := (T_Rule.e x13)) (fun h38 => by first | exact bind_some_eq (rfl) | (simp only [gv_t h38]; exact bind_some_eq (rfl))) ?_
      refine tg2_f (x := (V.sl (List.map T_Rule.c a0))) (fun h41 => rfl) ?_
      refine tg2_f (x := (vi s8)) (fun h43 => rfl) ?_
      refine tgo2_f (fun h45 => by simp only [gv_t h45]; exact rf_bind_some (p_idx (c := T_Rule.c) (fun _ => rfl) a0 s8)) fun r48 => ?_
      refine tg2_f (x := (T_Rule.e r48)) (fun h49 => by first | exact bind_some_eq (rfl) | (simp only [gv_t h49]; exact bind_some_eq (rfl))) ?_
      refine tgo2_f (fun h52 => by simp only [gv_t h52]; exact rf_bind_some (ty_railref1_above hn x13 r48)) fun r55 => ?_
      refine tg (x := (vb ((decide (s8 < 0)) || r55))) (fun h56 => by simp only [gv_t h56]; exact bind_some_eq (pick_or (fun h9 => gv_t (and_i h56 (not_f h9))))) ?_
      refine tb (x := (vb (r23 && ((decide (s8 < 0)) || r55)))) (pick_and (fun h9 => gv_t h9)) ?_
      refine tjb (mk := fun s62 : Int => [(vi s62)]) (fun J61 => ?_) fun s62 => ?_
      · refine tcond (fun h66 => ?_) (fun h66 => ?_)
        · exact rf_j rfl
        · exact rf_j rfl
      · refine tb (x := (vi ((i12 : Int) + 1))) (p_incN h15) ?_
        exact h10 (s62)
    · refine tb (x := (vi (List.length a0 : Int))) (p_len _) ?_
      refine tb (x := (vb (decide ((List.length a0 : Int) < (List.length a0 : Int))))) (d_lss) ?_
      refine tcond_f h67 ?_
      exact rf_j rfl
  · exact rf_ret rfl

/-! cmp.isNaN int  -/
def an_cmp_isNaN_int : Ann := .seq (.reg 0 [] [] []) (.seq (.reg 0 [] [] []) (.no))
noncomputable def sem_cmp_isNaN_int (n : Nat) (xs : List V) : Option V := if xs.length ≤ 6 then denF Tryz.prog (envOf []) n Tryz.f118 an_cmp_isNaN_int xs else none
theorem ok_cmp_isNaN_int (n : Nat) : SemOk Tryz.prog DW 118 (sem_cmp_isNaN_int n) := fun xs y h => by
  unfold sem_cmp_isNaN_int at h
  split at h
  · rename_i hl
    exact denF_ok stb Tryz.func118 (by kernel_rfl) (envOf_ok semsOk_nil) (by rw [Tryz.ntmps118]; exact hl) h
  · cases h
theorem eq_cmp_isNaN_int (n : Nat) (x0 : V) : sem_cmp_isNaN_int n [x0] =
 (bin2 Tryz.prog BinOp.neq 3 (ot 3) (ot 4) x0 x0).bind fun v1 =>
 some v1 := by kernel_rfl
noncomputable def t_cmp_isNaN_int (a0 : Int) : Option Bool :=
 some (decide (a0 ≠ a0))
theorem ty_cmp_isNaN_int {n : Nat} (hn : bigN ≤ n) (a0 : Int) : Rv (fun x : Bool => (vb x)) (sem_cmp_isNaN_int n [(vi a0)]) (t_cmp_isNaN_int a0) := by
  rw [eq_cmp_isNaN_int]
  unfold t_cmp_isNaN_int
  refine tb (x := (vb (decide (a0 ≠ a0)))) (d_neq) ?_
  exact rf_ret rfl

/-! cmp.Compare int  -/
def an_cmp_Compare_int : Ann := .seq (.reg 0 [] [] []) (.seq (.reg 0 [] [] []) (.seq (.reg 0 [] [] []) (.seq (.seq (.reg 0 [] [] []) (.cond none (.seq (.seq (.reg 0 [] [] []) (.cond none (.seq (.reg 0 [] [] []) (.no)) (.no))) (.seq (.reg 0 [] [] []) (.no))) (.no))) (.seq (.seq (.reg 0 [] [] []) (.cond none (.seq (.reg 0 [] [] []) (.no)) (.no))) (.seq (.seq (.reg 0 [] [] []) (.cond none (.seq (.reg 0 [] [] []) (.no)) (.no))) (.seq (.seq (.reg 0 [] [] []) (.cond none (.seq (.reg 0 [] [] []) (.no)) (.no))) (.seq (.reg 0 [] [] []) (.no))))))))
noncomputable def sem_cmp_Compare_int (n : Nat) (xs : List V) : Option V := if xs.length ≤ 20 then denF Tryz.prog (envOf [(118, (sem_cmp_isNaN_int n))]) n Tryz.f94 an_cmp_Compare_int xs else none
theorem ok_cmp_Compare_int (n : Nat) : SemOk Tryz.prog DW 94 (sem_cmp_Compare_int n) := fun xs y h => by
  unfold sem_cmp_Compare_int at h
  split at h
  · rename_i hl
    exact denF_ok stb Tryz.func94 (by kernel_rfl) (envOf_ok (semsOk_cons (ok_cmp_isNaN_int n) semsOk_nil)) (by rw [Tryz.ntmps94]; exact hl) h
  · cases h
theorem eq_cmp_Compare_int (n : Nat) (x0 x1 : V) : sem_cmp_Compare_int n [x0, x1] =
 ((sem_cmp_isNaN_int n) [x0]).bind fun v1 =>
 ((sem_cmp_isNaN_int n) [x1]).bind fun v2 =>
 condV v1 (
 condV v2 (
 some (vi 0)) (
 some (vi (-1 : Int)))) (
 condV v2 (
 some (vi 1)) (
 (bin2 Tryz.prog BinOp.lss 3 (ot 14) (ot 15) x0 x1).bind fun v3 =>
 condV v3 (
 some (vi (-1 : Int))) (
 (bin2 Tryz.prog BinOp.gtr 3 (ot 17) (ot 18) x0 x1).bind fun v4 =>
 condV v4 (
 some (vi 1)) (
 some (vi 0))))) := by kernel_rfl
noncomputable def t_cmp_Compare_int (a0 : Int) (a1 : Int) : Option Int :=
 (t_cmp_isNaN_int a0).bind fun r2 =>
 (t_cmp_isNaN_int a1).bind fun r4 =>
 if r2 = true then (
 if r4 = true then (
 some 0) else (
 some (-1 : Int))) else (
 if r4 = true then (
 some 1) else (
 if (decide (a0 < a1)) = true then (
 some (-1 : Int)) else (
 if (decide (a1 < a0)) = true then (
 some 1) else (
 some 0))))
theorem ty_cmp_Compare_int {n : Nat} (hn : bigN ≤ n) (a0 : Int) (a1 : Int) : Rv (fun x : Int => (vi x)) (sem_cmp_Compare_int n [(vi a0), (vi a1)]) (t_cmp_Compare_int a0 a1) := by
  rw [eq_cmp_Compare_int]
  unfold t_cmp_Compare_int
  refine tbo (ty_cmp_isNaN_int hn a0) fun r2 => ?_
  refine tbo (ty_cmp_isNaN_int hn a1) fun r4 => ?_
  refine tcond (fun h5 => ?_) (fun h5 => ?_)
  · refine tcond (fun h6 => ?_) (fun h6 => ?_)
    · exact rf_ret rfl
    · exact rf_ret rfl
  · refine tcond (fun h7 => ?_) (fun h7 => ?_)
    · exact rf_ret rfl
    · refine tb (x := (vb (decide (a0 < a1)))) (d_lss) ?_
      refine tcond (fun h9 => ?_) (fun h9 => ?_)
      · exact rf_ret rfl
      · refine tb (x := (vb (decide (a1 < a0)))) (d_gtr) ?_
        refine tcond (fun h11 => ?_) (fun h11 => ?_)
        · exact rf_ret rfl
        · exact rf_ret rfl

/-! cmp.Or int  -/
def an_cmp_Or_int : Ann := .seq (.reg 0 [] [] []) (.seq (.reg 0 [] [] []) (.seq (.seq (.reg 0 [] [] []) (.blk (some []) (.loop [.s 8] (.seq (.reg 0 [] [] []) (.seq (.cond none (.no) (.no)) (.seq (.blk none (.seq (.reg 0 [] [] []) (.seq (.reg 0 [] [] []) (.cond none (.seq (.reg 0 [] [] []) (.no)) (.no))))) (.reg 0 [] [] []))))))) (.seq (.reg 0 [] [] []) (.no))))
noncomputable def sem_cmp_Or_int (n : Nat) (xs : List V) : Option V := if xs.length ≤ 18 then denF Tryz.prog (envOf []) n Tryz.f93 an_cmp_Or_int xs else none
theorem ok_cmp_Or_int (n : Nat) : SemOk Tryz.prog DW 93 (sem_cmp_Or_int n) := fun xs y h => by
  unfold sem_cmp_Or_int at h
  split at h
  · rename_i hl
    exact denF_ok stb Tryz.func93 (by kernel_rfl) (envOf_ok semsOk_nil) (by rw [Tryz.ntmps93]; exact hl) h
  · cases h
theorem eq_cmp_Or_int (n : Nat) (x0 : V) : sem_cmp_Or_int n [x0] =
 (lenS [x0]).bind fun v1 =>
 JoinPt (fun vs2 =>
 some (vi 0)) fun J3 =>
 (fixN (fun rec4 vs5 =>
 (bin2 Tryz.prog BinOp.lss 3 (ot 8) (ot 7) (List.getD vs5 0 V.any) v1).bind fun v6 =>
 condV v6 (
 (idxS 1 x0 (List.getD vs5 0 V.any)).bind fun v7 =>
 (ldp none v7).bind fun v8 =>
 (bin2 Tryz.prog BinOp.neq 3 (ot 12) (ot 13) v8 (vi 0)).bind fun v9 =>
 condV v9 (
 some v8) (
 (bin2 Tryz.prog BinOp.add 3 (ot 8) (oc 1) (List.getD vs5 0 V.any) (vi 1)).bind fun v10 =>
 rec4 [v10])) (
 J3 [])) n) [(vi 0)] := by kernel_rfl
noncomputable def t_cmp_Or_int (a0 : (List Int)) : Option Int :=
 join (fun (s4 : Unit) =>
 some 0) fun j5 =>
 loopI a0 (fun (i13 : Int) x14 (s9 : Unit) k10 =>
 if (decide (x14 ≠ 0)) = true then (
 some x14) else (
 k10 ())) (fun (s9 : Unit) =>
 j5 ()) ()
theorem ty_cmp_Or_int {n : Nat} (hn : bigN ≤ n) (a0 : (List Int)) : Rv (fun x : Int => (vi x)) (sem_cmp_Or_int n [(V.sl (List.map cI a0))]) (t_cmp_Or_int a0) := by
  rw [eq_cmp_Or_int]
  unfold t_cmp_Or_int
  refine tb (x := (vi (List.length a0 : Int))) (p_len _) ?_
  refine tjoin (mk := fun s4 : Unit => []) (fun s4 => ?_) fun J3 j5 h6 => ?_
  · exact rf_ret rfl
  · refine rf_loopI (mk := fun (i13 : Int) (s9 : Unit) => [(vi (i13 : Int))]) hn a0 () (fun i13 x14 h15 h16 h17 s9 rec7 k10 h11 => ?_) (fun s9 rec25 h24 => ?_)
    · refine tb (x := (vb (decide ((i13 : Int) < (List.length a0 : Int))))) (d_lss) ?_
      refine tcond_t h17 ?_
      refine tb (x := (V.ptr [(vi x14)])) (p_idx_at (c := cI) (fun _ => rfl) h15) ?_
      refine tb (x := (vi x14)) (rfl) ?_
      refine tb (x := (vb (decide (x14 ≠ 0)))) (d_neq) ?_
      refine tcond (fun h22 => ?_) (fun h22 => ?_)
      · exact rf_ret rfl
      · refine tb (x := (vi ((i13 : Int) + 1))) (p_incN h16) ?_
        exact h11 ()
    · refine tb (x := (vb (decide ((List.length a0 : Int) < (List.length a0 : Int))))) (d_lss) ?_
      refine tcond_f h24 ?_
      exact h6 ()

/-! railpoint/rule.above -/
def an_rule_above : Ann := .seq (.reg 0 [] [] []) (.seq (.reg 22 [] [] []) (.no))
noncomputable def sem_rule_above (n : Nat) (xs : List V) : Option V := if xs.length ≤ 26 then denF Tryz.prog (envOf [(94, (sem_cmp_Compare_int n)), (93, (sem_cmp_Or_int n))]) n Tryz.f74 an_rule_above xs else none
theorem ok_rule_above (n : Nat) : SemOk Tryz.prog DW 74 (sem_rule_above n) := fun xs y h => by
  unfold sem_rule_above at h
  split at h
  · rename_i hl
    exact denF_ok stb Tryz.func74 (by kernel_rfl) (envOf_ok (semsOk_cons (ok_cmp_Compare_int n) (semsOk_cons (ok_cmp_Or_int n) semsOk_nil))) (by rw [Tryz.ntmps74]; exact hl) h
  · cases h
theorem eq_rule_above (n : Nat) (x0 x1 : V) : sem_rule_above n [x0, x1] =
 (V.cellsO x0).bind fun v1 =>
 (V.cellsO x1).bind fun v2 =>
 (ldk none (List.drop 0 v1)).bind fun v3 =>
 (ldk none (List.drop 0 v2)).bind fun v4 =>
 ((sem_cmp_Compare_int n) [v3, v4]).bind fun v5 =>
 (ldk none (List.drop 1 v1)).bind fun v6 =>
 (ldk none (List.drop 1 v2)).bind fun v7 =>
 ((sem_cmp_Compare_int n) [v6, v7]).bind fun v8 =>
 (ldk none (List.drop 2 v1)).bind fun v9 =>
 (ldk none (List.drop 2 v2)).bind fun v10 =>
 ((sem_cmp_Compare_int n) [v9, v10]).bind fun v11 =>
 (slcB 1 3 [(vi 0)] [(0, v5), (1, v8), (2, v11)]).bind fun v12 =>
 ((sem_cmp_Or_int n) [v12]).bind fun v13 =>
 some v13 := by kernel_rfl
noncomputable def t_rule_above (a0 : T_Rule) (a1 : T_Rule) : Option Int :=
 (t_cmp_Compare_int a0.Prio a1.Prio).bind fun r6 =>
 (t_cmp_Compare_int a0.Cube.Mask a1.Cube.Mask).bind fun r10 =>
 (t_cmp_Compare_int a0.Cube.Bits a1.Cube.Bits).bind fun r14 =>
 (t_cmp_Or_int ([r6, r10, r14] : (List Int))).bind fun r17 =>
 some r17
theorem ty_rule_above {n : Nat} (hn : bigN ≤ n) (a0 : T_Rule) (a1 : T_Rule) : Rv (fun x : Int => (vi x)) (sem_rule_above n [(T_Rule.e a0), (T_Rule.e a1)]) (t_rule_above a0 a1) := by
  rw [eq_rule_above]
  unfold t_rule_above
  refine tb (x := (T_Rule.c a0)) rfl ?_
  refine tb (x := (T_Rule.c a1)) rfl ?_
  refine tb (x := (vi a0.Prio)) (rfl) ?_
  refine tb (x := (vi a1.Prio)) (rfl) ?_
  refine tbo (ty_cmp_Compare_int hn a0.Prio a1.Prio) fun r6 => ?_
  refine tb (x := (vi a0.Cube.Mask)) (rfl) ?_
  refine tb (x := (vi a1.Cube.Mask)) (rfl) ?_
  refine tbo (ty_cmp_Compare_int hn a0.Cube.Mask a1.Cube.Mask) fun r10 => ?_
  refine tb (x := (vi a0.Cube.Bits)) (rfl) ?_
  refine tb (x := (vi a1.Cube.Bits)) (rfl) ?_
  refine tbo (ty_cmp_Compare_int hn a0.Cube.Bits a1.Cube.Bits) fun r14 => ?_
  refine tb (x := (V.sl (List.map cI ([r6, r10, r14] : (List Int))))) (by kernel_rfl) ?_
  refine tbo (ty_cmp_Or_int hn ([r6, r10, r14] : (List Int))) fun r17 => ?_
  exact rf_ret rfl

/-! railpoint/rule.Find -/
def an_rule_Find : Ann := .seq (.reg 0 [] [] []) (.seq (.reg 0 [] [] []) (.seq (.seq (.reg 0 [] [] []) (.blk (some [.s 5]) (.loop [.s 5, .s 10] (.seq (.reg 0 [] [] []) (.seq (.cond none (.no) (.no)) (.seq (.blk none (.seq (.reg 0 [] [] []) (.seq (.reg 22 [] [] []) (.cond (some [.s 5]) (.reg 0 [] [] []) (.no))))) (.reg 0 [] [] []))))))) (.seq (.reg 0 [] [] []) (.no))))
noncomputable def sem_rule_Find (n : Nat) (xs : List V) : Option V := if xs.length ≤ 40 then denF Tryz.prog (envOf [(74, (sem_rule_above n))]) n Tryz.f52 an_rule_Find xs else none
theorem ok_rule_Find (n : Nat) : SemOk Tryz.prog DW 52 (sem_rule_Find n) := fun xs y h => by
  unfold sem_rule_Find at h
  split at h
  · rename_i hl
    exact denF_ok stb Tryz.func52 (by kernel_rfl) (envOf_ok (semsOk_cons (ok_rule_above n) semsOk_nil)) (by rw [Tryz.ntmps52]; exact hl) h
  · cases h
theorem eq_rule_Find (n : Nat) (x0 x1 : V) : sem_rule_Find n [x0, x1] =
 (lenS [x0]).bind fun v1 =>
 JoinPt (fun vs2 =>
 some (List.getD vs2 0 V.any)) fun J3 =>
 (fixN (fun rec4 vs5 =>
 (bin2 Tryz.prog BinOp.lss 3 (ot 10) (ot 9) (List.getD vs5 1 V.any) v1).bind fun v6 =>
 condV v6 (
 (idxS 6 x0 (List.getD vs5 1 V.any)).bind fun v7 =>
 (ldp (some 6) v7).bind fun v8 =>
 (spliceV [(vi 0), (vi 0), (vi 0), (vi 0), (vi 0), (vi 0)] 0 6 v8).bind fun v9 =>
 (ldk none (List.drop 1 (aggL v9))).bind fun v10 =>
 (bin2 Tryz.prog BinOp.and 3 (ot 15) (ot 18) x1 v10).bind fun v11 =>
 (ldk none (List.drop 2 (aggL v9))).bind fun v12 =>
 (bin2 Tryz.prog BinOp.eql 3 (ot 19) (ot 22) v11 v12).bind fun v13 =>
 (guardV v13 true (some (List.getD vs5 0 V.any))).bind fun v14 =>
 (guardV v13 true ((bin2 Tryz.prog BinOp.lss 3 (ot 25) (oc 0) v14 (vi 0)).bind fun v15 =>
 some v15)).bind fun v16 =>
 (guardV v13 true (some v16)).bind fun v17 =>
 (guardV v17 false ((ldk (some 6) (List.drop 0 (aggL v9))).bind fun v18 =>
 some v18)).bind fun v19 =>
 (guardV v17 false (some x0)).bind fun v20 =>
 (guardV v17 false (some (List.getD vs5 0 V.any))).bind fun v21 =>
 (guardV v17 false ((idxS 6 v20 v21).bind fun v22 =>
 some v22)).bind fun v23 =>
 (guardV v17 false ((ldp (some 6) v23).bind fun v24 =>
 some v24)).bind fun v25 =>
 (guardV v17 false (((sem_rule_above n) [v19, v25]).bind fun v26 =>
 some v26)).bind fun v27 =>
 (guardV v17 false ((bin2 Tryz.prog BinOp.gtr 3 (ot 33) (oc 0) v27 (vi 0)).bind fun v28 =>
 some v28)).bind fun v29 =>
 (guardV v13 true ((pickV v17 (vb true) v29).bind fun v30 =>
 some v30)).bind fun v31 =>
 (pickV v13 v31 (vb false)).bind fun v32 =>
 JoinPt (fun vs33 =>
 (bin2 Tryz.prog BinOp.add 3 (ot 10) (oc 1) (List.getD vs5 1 V.any) (vi 1)).bind fun v35 =>
 rec4 [(List.getD vs33 0 V.any), v35]) fun J34 =>
 condV v32 (
 J34 [(List.getD vs5 1 V.any)]) (
 J34 [(List.getD vs5 0 V.any)])) (
 J3 [(List.getD vs5 0 V.any)])) n) [(vi (-1 : Int)), (vi 0)] := by kernel_rfl
noncomputable def t_rule_Find (a0 : (List T_Rule)) (a1 : Int) : Option Int :=
 (loopI a0 (fun (i13 : Int) x14 (s9 : Int) k10 =>
 (gd ((decide ((bits .and .i64 a1 x14.Cube.Mask) = x14.Cube.Bits)) && (!(decide (s9 < 0)))) default (idx a0 s9)).bind fun r43 =>
 (gd ((decide ((bits .and .i64 a1 x14.Cube.Mask) = x14.Cube.Bits)) && (!(decide (s9 < 0)))) default (t_rule_above x14 r43)).bind fun r50 =>
 (if ((decide ((bits .and .i64 a1 x14.Cube.Mask) = x14.Cube.Bits)) && ((decide (s9 < 0)) || (decide (0 < r50)))) = true then (
 some i13) else (
 some (s9))).bind fun (s60 : Int) =>
 k10 (s60)) (fun (s9 : Int) =>
 some (s9)) (-1 : Int)).bind fun (s4 : Int) =>
 some s4
theorem ty_rule_Find {n : Nat} (hn : bigN ≤ n) (a0 : (List T_Rule)) (a1 : Int) : Rv (fun x : Int => (vi x)) (sem_rule_Find n [(V.sl (List.map T_Rule.c a0)), (vi a1)]) (t_rule_Find a0 a1) := by
  rw [eq_rule_Find]
  unfold t_rule_Find
  refine tb (x := (vi (List.length a0 : Int))) (p_len _) ?_
  refine tjb (mk := fun s4 : Int => [(vi s4)]) (fun J3 => ?_) fun s4 => ?_
  · refine rf_loopI (mk := fun (i13 : Int) (s9 : Int) => [(vi s9), (vi (i13 : Int))]) hn a0 (-1 : Int) (fun i13 x14 h15 h16 h17 s9 rec7 k10 h11 => ?_) (fun s9 rec66 h65 => ?_)
    · refine tb (x := (vb (decide ((i13 : Int) < (List.length a0 : Int))))) (d_lss) ?_
      refine tcond_t h17 ?_
      refine tb (x := (V.ptr (T_Rule.c x14))) (p_idx_at (c := T_Rule.c) (fun _ => rfl) h15) ?_
      refine tb (x := (T_Rule.e x14)) (rfl) ?_
      refine tb (x := V.agg (T_Rule.c x14)) (by kernel_rfl) ?_
      refine tb (x := (vi x14.Cube.Mask)) (rfl) ?_
      refine tb (x := (vi (bits .and .i64 a1 x14.Cube.Mask))) (d_and) ?_
      refine tb (x := (vi x14.Cube.Bits)) (rfl) ?_
      refine tb (x := (vb (decide ((bits .and .i64 a1 x14.Cube.Mask) = x14.Cube.Bits)))) (d_eql) ?_
      refine tg (x := (vi s9)) (fun h26 => rfl) ?_
      refine tg (x := (vb (decide (s9 < 0)))) (fun h28 => by simp only [gv_t h28]; exact bind_some_eq (d_lss)) ?_
      refine tg (x := (vb (decide (s9 < 0)))) (fun h31 => congrArg some (gv_t h31)) ?_
      refine tg2_f (x := (T_Rule.e x14)) (fun h33 => bind_some_eq (rfl)) ?_
      refine tg2_f (x := (V.sl (List.map T_Rule.c a0))) (fun h36 => rfl) ?_
      refine tg2_f (x := (vi s9)) (fun h38 => rfl) ?_
      refine tgo2_f (fun h40 => by simp only [gv_t h40]; exact rf_bind_some (p_idx (c := T_Rule.c) (fun _ => rfl) a0 s9)) fun r43 => ?_
      refine tg2_f (x := (T_Rule.e r43)) (fun h44 => by first | exact bind_some_eq (rfl) | (simp only [gv_t h44]; exact bind_some_eq (rfl))) ?_
      refine tgo2_f (fun h47 => by simp only [gv_t h47]; exact rf_bind_some (ty_rule_above hn x14 r43)) fun r50 => ?_
      refine tg2_f (x := (vb (decide (0 < r50)))) (fun h51 => by simp only [gv_t h51]; exact bind_some_eq (d_gtr)) ?_
      refine tg (x := (vb ((decide (s9 < 0)) || (decide (0 < r50))))) (fun h54 => by simp only [gv_t h54]; exact bind_some_eq (pick_or (fun h9 => gv_t (and_i h54 (not_f h9))))) ?_
      refine tb (x := (vb ((decide ((bits .and .i64 a1 x14.Cube.Mask) = x14.Cube.Bits)) && ((decide (s9 < 0)) || (decide (0 < r50)))))) (pick_and (fun h9 => gv_t h9)) ?_
      refine tjb (mk := fun s60 : Int => [(vi s60)]) (fun J59 => ?_) fun s60 => ?_
      · refine tcond (fun h64 => ?_) (fun h64 => ?_)
        · exact rf_j rfl
        · exact rf_j rfl
      · refine tb (x := (vi ((i13 : Int) + 1))) (p_incN h16) ?_
        exact h11 (s60)
    · refine tb (x := (vb (decide ((List.length a0 : Int) < (List.length a0 : Int))))) (d_lss) ?_
      refine tcond_f h65 ?_
      exact rf_j rfl
  · exact rf_ret rfl

/-! railpoint/rule.Shadowed -/
def an_rule_Shadowed : Ann := .seq (.reg 0 [] [] []) (.seq (.seq (.reg 0 [] [] []) (.seq (.reg 0 [] [] []) (.cond none (.seq (.reg 0 [] [] []) (.no)) (.no)))) (.seq (.reg 0 [] [] []) (.seq (.seq (.reg 0 [] [] []) (.blk (some [.o 5]) (.loop [.o 5, .s 19] (.seq (.reg 0 [] [] []) (.seq (.cond none (.no) (.no)) (.seq (.blk none (.seq (.reg 0 [] [] []) (.seq (.reg 0 [] [] []) (.seq (.reg 0 [] [] []) (.cond (some [.o 5]) (.reg 0 [] [] []) (.no)))))) (.reg 0 [] [] []))))))) (.seq (.reg 0 [] [] []) (.seq (.seq (.reg 0 [] [] []) (.blk (some [.s 8]) (.loop [.ko 18, .r 8 3, .s 33] (.seq (.reg 0 [] [] []) (.seq (.cond none (.no) (.no)) (.seq (.blk none (.seq (.reg 0 [] [] []) (.seq (.reg 0 [] [] []) (.cond (some [.ko 18, .r 8 3]) (.reg 0 [] [] []) (.no))))) (.reg 0 [] [] []))))))) (.seq (.reg 0 [] [] []) (.no)))))))
noncomputable def sem_rule_Shadowed (n : Nat) (xs : List V) : Option V := if xs.length ≤ 46 then denF Tryz.prog (envOf [(17, (sem_rule_Table n)), (52, (sem_rule_Find n))]) n Tryz.f19 an_rule_Shadowed xs else none
theorem ok_rule_Shadowed (n : Nat) : SemOk Tryz.prog DW 19 (sem_rule_Shadowed n) := fun xs y h => by
  unfold sem_rule_Shadowed at h
  split at h
  · rename_i hl
    exact denF_ok stb Tryz.func19 (by kernel_rfl) (envOf_ok (semsOk_cons (ok_rule_Table n) (semsOk_cons (ok_rule_Find n) semsOk_nil))) (by rw [Tryz.ntmps19]; exact hl) h
  · cases h
theorem eq_rule_Shadowed (n : Nat) (x0 : V) : sem_rule_Shadowed n [x0] =
 ((sem_rule_Table n) [x0]).bind fun v1 =>
 (bin2 Tryz.prog BinOp.neq 31 (ot 13) (Operand.const Go.Value.nilIface) v1 vn).bind fun v2 =>
 condV v2 (
 some (V.tup [(V.sl []), v1])) (
 (lenS [x0]).bind fun v3 =>
 (makeN 1 [(vb false)] v3 v3).bind fun v4 =>
 JoinPt (fun vs5 =>
 ((oslR (List.getD vs5 0 V.any)).map fun rows => V.lit (Go.Value.int Go.IntKind.i64 (List.length rows))).bind fun v7 =>
 JoinPt (fun vs8 =>
 some (V.tup [(List.getD vs8 0 V.any), vn])) fun J9 =>
 (keepT (some (List.getD vs5 0 V.any)) (some (List.getD vs5 0 V.any)) (some [(V.sl []), (vi 0)])).bind (fixN (fun rec10 vs11 =>
 (bin2 Tryz.prog BinOp.lss 3 (ot 33) (ot 32) (List.getD vs11 1 V.any) v7).bind fun v12 =>
 condV v12 (
 ((oslR (List.getD vs5 0 V.any)).bind fun rows13 => inB (List.length rows13) (List.getD vs11 1 V.any)).bind fun v14 =>
 ((nodeL (List.getD vs5 0 V.any) (some (natOf (List.getD vs11 1 V.any))) 1).bind fun l15 => (ldk none (List.drop 0 l15)).bind pureO).bind fun v16 =>
 (scal1 Tryz.prog (Op.unary Go.UnOp.not) v16).bind fun v17 =>
 JoinPt (fun vs18 =>
 (bin2 Tryz.prog BinOp.add 3 (ot 33) (oc 1) (List.getD vs11 1 V.any) (vi 1)).bind fun v20 =>
 (keepT (some (List.getD vs5 0 V.any)) (some (List.getD vs5 0 V.any)) (some [(V.sl (slL (List.getD vs18 0 V.any))), v20])).bind rec10) fun J19 =>
 condV v17 (
 (slcB 1 1 [(vi 0)] [(0, (List.getD vs11 1 V.any))]).bind fun v21 =>
 (appV 1 (slL (List.getD vs11 0 V.any)) v21).bind fun v22 =>
 (keepT (some (List.getD vs5 0 V.any)) (some (List.getD vs5 0 V.any)) (some [(V.sl (slL v22))])).bind J19) (
 (keepT (some (List.getD vs5 0 V.any)) (some (List.getD vs5 0 V.any)) (some [(V.sl (slL (List.getD vs11 0 V.any)))])).bind J19)) (
 J9 [(V.sl (slL (List.getD vs11 0 V.any)))])) n)) fun J6 =>
 (fixN (fun rec23 vs24 =>
 (bin2 Tryz.prog BinOp.lss 3 (ot 19) (oc 16) (List.getD vs24 1 V.any) (vi 16)).bind fun v25 =>
 condV v25 (
 ((sem_rule_Find n) [x0, (List.getD vs24 1 V.any)]).bind fun v26 =>
 (bin2 Tryz.prog BinOp.geq 3 (ot 25) (oc 0) v26 (vi 0)).bind fun v27 =>
 JoinPt (fun vs28 =>
 (bin2 Tryz.prog BinOp.add 3 (ot 19) (oc 1) (List.getD vs24 1 V.any) (vi 1)).bind fun v30 =>
 rec23 [(List.getD vs28 0 V.any), v30]) fun J29 =>
 condV v27 (
 ((oslR (List.getD vs24 0 V.any)).bind fun rows31 => inB (List.length rows31) v26).bind fun v32 =>
 (V.cellsO (vb true)).bind fun v33 =>
 (setV (List.getD vs24 0 V.any) [] (Stp.mk (some (natOf v26)) 0 1) 1 v33).bind fun v34 =>
 J29 [v34]) (
 J29 [(List.getD vs24 0 V.any)])) (
 J6 [(List.getD vs24 0 V.any)])) n) [v4, (vi 0)]) := by kernel_rfl
noncomputable def t_rule_Shadowed (a0 : (List T_Rule)) : Option ((List Int) × Int) :=
 (t_rule_Table a0).bind fun r2 =>
 if (!decide (r2 = 0)) = true then (
 some ([], r2)) else (
 (omake (List.length a0 : Int) (List.length a0 : Int) false).bind fun r7 =>
 (loopU 0 16 (fun (i56 : Int) (s52 : (List Bool)) k53 =>
 (t_rule_Find a0 i56).bind fun r64 =>
 (if (decide (0 ≤ r64)) = true then (
 need (decide (0 ≤ r64) && decide (r64 < (List.length s52 : Int))) (
 (oset s52 r64 true).bind fun r77 =>
 some (r77))) else (
 some (s52))).bind fun (s68 : (List Bool)) =>
 k53 (s68)) (fun (i56 : Int) (s52 : (List Bool)) =>
 some (s52)) (r7)).bind fun (s10 : (List Bool)) =>
 (loopI s10 (fun (i25 : Int) x26 (s21 : (List Int)) k22 =>
 need (decide (0 ≤ i25) && decide (i25 < (List.length s10 : Int))) (
 (idx s10 i25).bind fun r34 =>
 (if (!r34) = true then (
 (app s21 ([i25] : (List Int))).bind fun r45 =>
 some (r45)) else (
 some (s21))).bind fun (s38 : (List Int)) =>
 k22 (s38))) (fun (s21 : (List Int)) =>
 some (s21)) ([])).bind fun (s16 : (List Int)) =>
 some (s16, 0))
theorem ty_rule_Shadowed {n : Nat} (hn : bigN ≤ n) (a0 : (List T_Rule)) : Rv (fun x : ((List Int) × Int) => V.tup [(V.sl (List.map cI x.1)), (eV x.2)]) (sem_rule_Shadowed n [(V.sl (List.map T_Rule.c a0))]) (t_rule_Shadowed a0) := by
  rw [eq_rule_Shadowed]
  unfold t_rule_Shadowed
  refine tbo (ty_rule_Table hn a0) fun r2 => ?_
  refine tb (x := (vb (!decide (r2 = 0)))) (p_err_neq _) ?_
  refine tcond (fun h4 => ?_) (fun h4 => ?_)
  · exact rf_ret rfl
  · refine tb (x := (vi (List.length a0 : Int))) (p_len _) ?_
    refine tbo (p_omake (c := cB) (List.length a0 : Int) (List.length a0 : Int) false rfl) fun r7 => ?_
    refine tjb (mk := fun s10 : (List Bool) => [(V.osl 1 (List.map cB s10))]) (fun J9 => ?_) fun s10 => ?_
    · refine rf_loopU (mk := fun (i56 : Int) (s52 : (List Bool)) => [(V.osl 1 (List.map cB s52)), (vi i56)]) hn _ _ (r7) (fun i56 h57 h58 h59 s52 rec50 k53 h54 => ?_) (fun i56 s52 rec61 h60 => ?_)
      · refine tb (x := (vb (decide (i56 < 16)))) (d_lss) ?_
        refine tcond_t h57 ?_
        refine tbo (ty_rule_Find hn a0 i56) fun r64 => ?_
        refine tb (x := (vb (decide (0 ≤ r64)))) (d_geq) ?_
        refine tjb (mk := fun s68 : (List Bool) => [(V.osl 1 (List.map cB s68))]) (fun J67 => ?_) fun s68 => ?_
        · refine tcond (fun h72 => ?_) (fun h72 => ?_)
          · refine tneed (x := V.any) (fun h78 => p_inB s52 r64 h78) fun h78 => ?_
            refine tb (x := cB true) rfl ?_
            refine tbo (p_oset (c := cB) (fun _ => rfl) s52 r64 true) fun r77 => ?_
            exact rf_j rfl
          · exact rf_j rfl
        · refine tb (x := (vi (i56 + 1))) (p_inc h58 h59) ?_
          exact h54 (s68)
      · refine tb (x := (vb (decide (i56 < 16)))) (d_lss) ?_
        refine tcond_f h60 ?_
        exact rf_j rfl
    · refine tb (x := (vi (List.length s10 : Int))) (p_olen _) ?_
      refine tjb (mk := fun s16 : (List Int) => [(V.sl (List.map cI s16))]) (fun J15 => ?_) fun s16 => ?_
      · refine tkeepT2 ?_ rfl
        refine tsome ?_
        refine rf_loopI (mk := fun (i25 : Int) (s21 : (List Int)) => [(V.sl (List.map cI s21)), (vi (i25 : Int))]) hn s10 ([]) (fun i25 x26 h27 h28 h29 s21 rec19 k22 h23 => ?_) (fun s21 rec48 h47 => ?_)
        · refine tb (x := (vb (decide ((i25 : Int) < (List.length s10 : Int))))) (d_lss) ?_
          refine tcond_t h29 ?_
          refine tneed (x := V.any) (fun h46 => p_inB s10 (i25 : Int) h46) fun h46 => ?_
          refine tbo (p_oload (e1 := fun x : Bool => (vb x)) (c := cB) (fun _ => rfl) s10 (i25 : Int) (fun _ => rfl)) fun r34 => ?_
          refine tb (x := (vb (!r34))) (d_not) ?_
          refine tjb (mk := fun s38 : (List Int) => [(V.sl (List.map cI s38))]) (fun J37 => ?_) fun s38 => ?_
          · refine tcond (fun h42 => ?_) (fun h42 => ?_)
            · refine tb (x := (V.sl (List.map cI ([(i25 : Int)] : (List Int))))) (by kernel_rfl) ?_
              refine tbo (p_app (c := cI) (fun _ => rfl) s21 ([(i25 : Int)] : (List Int))) fun r45 => ?_
              refine tkeepT2 ?_ rfl
              refine tsome ?_
              exact rf_j rfl
            · refine tkeepT2 ?_ rfl
              refine tsome ?_
              exact rf_j rfl
          · refine tb (x := (vi ((i25 : Int) + 1))) (p_incN h28) ?_
            refine tkeepT2 ?_ rfl
            refine tsome ?_
            exact h23 (s38)
        · refine tb (x := (vb (decide ((List.length s10 : Int) < (List.length s10 : Int))))) (d_lss) ?_
          refine tcond_f h47 ?_
          exact rf_j rfl
      · exact rf_ret rfl

/-! railpoint/railsame.Ints -/
def an_railsame_Ints : Ann := .seq (.reg 0 [] [] []) (.seq (.seq (.reg 0 [] [] []) (.cond none (.seq (.reg 0 [] [] []) (.no)) (.no))) (.seq (.seq (.reg 0 [] [] []) (.blk (some []) (.loop [.s 5] (.seq (.seq (.reg 0 [] [] []) (.cond none (.no) (.no))) (.seq (.blk none (.seq (.reg 9 [] [] []) (.cond none (.seq (.reg 0 [] [] []) (.no)) (.no)))) (.reg 0 [] [] [])))))) (.seq (.reg 0 [] [] []) (.no))))
noncomputable def sem_railsame_Ints (n : Nat) (xs : List V) : Option V := if xs.length ≤ 26 then denF Tryz.prog (envOf []) n Tryz.f20 an_railsame_Ints xs else none
theorem ok_railsame_Ints (n : Nat) : SemOk Tryz.prog DW 20 (sem_railsame_Ints n) := fun xs y h => by
  unfold sem_railsame_Ints at h
  split at h
  · rename_i hl
    exact denF_ok stb Tryz.func20 (by kernel_rfl) (envOf_ok semsOk_nil) (by rw [Tryz.ntmps20]; exact hl) h
  · cases h
theorem eq_railsame_Ints (n : Nat) (x0 x1 : V) : sem_railsame_Ints n [x0, x1] =
 (lenS [x0]).bind fun v1 =>
 (lenS [x1]).bind fun v2 =>
 (bin2 Tryz.prog BinOp.neq 3 (ot 7) (ot 9) v1 v2).bind fun v3 =>
 condV v3 (
 some (vb false)) (
 JoinPt (fun vs4 =>
 some (vb true)) fun J5 =>
 (fixN (fun rec6 vs7 =>
 (lenS [x0]).bind fun v8 =>
 (bin2 Tryz.prog BinOp.lss 3 (ot 11) (ot 13) (List.getD vs7 0 V.any) v8).bind fun v9 =>
 condV v9 (
 (idxS 1 x0 (List.getD vs7 0 V.any)).bind fun v10 =>
 (ldp none v10).bind fun v11 =>
 (idxS 1 x1 (List.getD vs7 0 V.any)).bind fun v12 =>
 (ldp none v12).bind fun v13 =>
 (bin2 Tryz.prog BinOp.neq 3 (ot 20) (ot 24) v11 v13).bind fun v14 =>
 condV v14 (
 some (vb false)) (
 (bin2 Tryz.prog BinOp.add 3 (ot 15) (oc 1) (List.getD vs7 0 V.any) (vi 1)).bind fun v15 =>
 rec6 [v15])) (
 J5 [])) n) [(vi 0)]) := by kernel_rfl
noncomputable def t_railsame_Ints (a0 : (List Int)) (a1 : (List Int)) : Option Bool :=
 if (decide ((List.length a0 : Int) ≠ (List.length a1 : Int))) = true then (
 some false) else (
 join (fun (s7 : Unit) =>
 some true) fun j8 =>
 loopI a0 (fun (i16 : Int) x17 (s12 : Unit) k13 =>
 (idx a1 i16).bind fun r26 =>
 if (decide (x17 ≠ r26)) = true then (
 some false) else (
 k13 ())) (fun (s12 : Unit) =>
 j8 ()) ())
theorem ty_railsame_Ints {n : Nat} (hn : bigN ≤ n) (a0 : (List Int)) (a1 : (List Int)) : Rv (fun x : Bool => (vb x)) (sem_railsame_Ints n [(V.sl (List.map cI a0)), (V.sl (List.map cI a1))]) (t_railsame_Ints a0 a1) := by
  rw [eq_railsame_Ints]
  unfold t_railsame_Ints
  refine tb (x := (vi (List.length a0 : Int))) (p_len _) ?_
  refine tb (x := (vi (List.length a1 : Int))) (p_len _) ?_
  refine tb (x := (vb (decide ((List.length a0 : Int) ≠ (List.length a1 : Int))))) (d_neq) ?_
  refine tcond (fun h4 => ?_) (fun h4 => ?_)
  · exact rf_ret rfl
  · refine tjoin (mk := fun s7 : Unit => []) (fun s7 => ?_) fun J6 j8 h9 => ?_
    · exact rf_ret rfl
    · refine rf_loopI (mk := fun (i16 : Int) (s12 : Unit) => [(vi (i16 : Int))]) hn a0 () (fun i16 x17 h18 h19 h20 s12 rec10 k13 h14 => ?_) (fun s12 rec32 h31 => ?_)
      · refine tb (x := (vi (List.length a0 : Int))) (p_len _) ?_
        refine tb (x := (vb (decide ((i16 : Int) < (List.length a0 : Int))))) (d_lss) ?_
        refine tcond_t h20 ?_
        refine tb (x := (V.ptr [(vi x17)])) (p_idx_at (c := cI) (fun _ => rfl) h18) ?_
        refine tb (x := (vi x17)) (rfl) ?_
        refine tbo (p_idx (c := cI) (fun _ => rfl) a1 (i16 : Int)) fun r26 => ?_
        refine tb (x := (vi r26)) (rfl) ?_
        refine tb (x := (vb (decide (x17 ≠ r26)))) (d_neq) ?_
        refine tcond (fun h29 => ?_) (fun h29 => ?_)
        · exact rf_ret rfl
        · refine tb (x := (vi ((i16 : Int) + 1))) (p_incN h19) ?_
          exact h14 ()
      · refine tb (x := (vi (List.length a0 : Int))) (p_len _) ?_
        refine tb (x := (vb (decide ((List.length a0 : Int) < (List.length a0 : Int))))) (d_lss) ?_
        refine tcond_f h31 ?_
        exact h9 ()

/-! railpoint/rule.Lookup -/
def an_rule_Lookup : Ann := .seq (.reg 0 [] [] []) (.seq (.seq (.reg 0 [] [] []) (.seq (.reg 0 [] [] []) (.cond none (.seq (.reg 0 [] [] []) (.no)) (.no)))) (.seq (.seq (.reg 0 [] [] []) (.cond none (.seq (.reg 0 [] [] []) (.no)) (.no))) (.seq (.reg 0 [] [] []) (.seq (.seq (.reg 0 [] [] []) (.cond none (.seq (.reg 0 [] [] []) (.no)) (.no))) (.seq (.reg 0 [] [] []) (.no))))))
noncomputable def sem_rule_Lookup (n : Nat) (xs : List V) : Option V := if xs.length ≤ 24 then denF Tryz.prog (envOf [(17, (sem_rule_Table n)), (35, (sem_cube_Header n)), (52, (sem_rule_Find n))]) n Tryz.f21 an_rule_Lookup xs else none
theorem ok_rule_Lookup (n : Nat) : SemOk Tryz.prog DW 21 (sem_rule_Lookup n) := fun xs y h => by
  unfold sem_rule_Lookup at h
  split at h
  · rename_i hl
    exact denF_ok stb Tryz.func21 (by kernel_rfl) (envOf_ok (semsOk_cons (ok_rule_Table n) (semsOk_cons (ok_cube_Header n) (semsOk_cons (ok_rule_Find n) semsOk_nil)))) (by rw [Tryz.ntmps21]; exact hl) h
  · cases h
theorem eq_rule_Lookup (n : Nat) (x0 x1 : V) : sem_rule_Lookup n [x0, x1] =
 ((sem_rule_Table n) [x0]).bind fun v1 =>
 (bin2 Tryz.prog BinOp.neq 31 (ot 10) (Operand.const Go.Value.nilIface) v1 vn).bind fun v2 =>
 condV v2 (
 some (V.tup [(vi 0), v1])) (
 ((sem_cube_Header n) [x1]).bind fun v3 =>
 (scal1 Tryz.prog (Op.unary Go.UnOp.not) v3).bind fun v4 =>
 condV v4 (
 (scal1 Tryz.prog (Instr.makeInterface 86) (vi 1)).bind fun v5 =>
 some (V.tup [(vi 0), v5])) (
 ((sem_rule_Find n) [x0, x1]).bind fun v6 =>
 (bin2 Tryz.prog BinOp.lss 3 (ot 20) (oc 0) v6 (vi 0)).bind fun v7 =>
 condV v7 (
 (scal1 Tryz.prog (Instr.makeInterface 86) (vi 5)).bind fun v8 =>
 some (V.tup [(vi 0), v8])) (
 some (V.tup [v6, vn])))) := by kernel_rfl
noncomputable def t_rule_Lookup (a0 : (List T_Rule)) (a1 : Int) : Option (Int × Int) :=
 (t_rule_Table a0).bind fun r2 =>
 if (!decide (r2 = 0)) = true then (
 some (0, r2)) else (
 (t_cube_Header a1).bind fun r6 =>
 if (!r6) = true then (
 some (0, 1)) else (
 (t_rule_Find a0 a1).bind fun r11 =>
 if (decide (r11 < 0)) = true then (
 some (0, 5)) else (
 some (r11, 0))))
theorem ty_rule_Lookup {n : Nat} (hn : bigN ≤ n) (a0 : (List T_Rule)) (a1 : Int) : Rv (fun x : (Int × Int) => V.tup [(vi x.1), (eV x.2)]) (sem_rule_Lookup n [(V.sl (List.map T_Rule.c a0)), (vi a1)]) (t_rule_Lookup a0 a1) := by
  rw [eq_rule_Lookup]
  unfold t_rule_Lookup
  refine tbo (ty_rule_Table hn a0) fun r2 => ?_
  refine tb (x := (vb (!decide (r2 = 0)))) (p_err_neq _) ?_
  refine tcond (fun h4 => ?_) (fun h4 => ?_)
  · exact rf_ret rfl
  · refine tbo (ty_cube_Header hn a1) fun r6 => ?_
    refine tb (x := (vb (!r6))) (d_not) ?_
    refine tcond (fun h8 => ?_) (fun h8 => ?_)
    · refine tb (x := (eV 1)) (p_mkE (by decide)) ?_
      exact rf_ret rfl
    · refine tbo (ty_rule_Find hn a0 a1) fun r11 => ?_
      refine tb (x := (vb (decide (r11 < 0)))) (d_lss) ?_
      refine tcond (fun h13 => ?_) (fun h13 => ?_)
      · refine tb (x := (eV 5)) (p_mkE (by decide)) ?_
        exact rf_ret rfl
      · exact rf_ret rfl

/-! railpoint/raillaw1.RuleTells -/
def an_raillaw1_RuleTells : Ann := .seq (.reg 0 [] [] []) (.seq (.reg 0 [] [] []) (.seq (.reg 0 [] [] []) (.seq (.reg 0 [] [] []) (.seq (.seq (.reg 0 [] [] []) (.cond (some [.kb 4, .s 11]) (.reg 0 [] [] []) (.no))) (.seq (.reg 0 [] [] []) (.seq (.reg 0 [] [] []) (.seq (.reg 0 [] [] []) (.seq (.reg 0 [] [] []) (.seq (.reg 0 [] [] []) (.seq (.reg 0 [] [] []) (.seq (.reg 0 [] [] []) (.seq (.seq (.reg 0 [] [] []) (.cond (some [.kb 4, .kb 15, .kb 17, .s 9]) (.reg 0 [] [] []) (.seq (.reg 0 [] [] []) (.cond (some [.kb 4, .kb 15, .kb 17, .s 9]) (.reg 0 [] [] []) (.no))))) (.seq (.reg 0 [] [] []) (.seq (.seq (.reg 0 [] [] []) (.cond (some [.kb 4, .kb 15, .kb 17, .s 21]) (.reg 0 [] [] []) (.no))) (.seq (.reg 0 [] [] []) (.seq (.reg 0 [] [] []) (.seq (.reg 0 [] [] []) (.seq (.reg 0 [] [] []) (.seq (.reg 0 [] [] []) (.seq (.seq (.reg 0 [] [] []) (.blk (some [.kb 15, .kb 17, .s 25]) (.loop [.kb 15, .kb 17, .r 25 3, .s 26] (.seq (.seq (.reg 0 [] [] []) (.cond none (.no) (.no))) (.seq (.blk (some [.kb 15, .kb 17, .r 25 3]) (.seq (.reg 0 [] [] []) (.seq (.seq (.reg 0 [] [] []) (.blk (some [.kb 15, .kb 17, .r 25 3, .s 27]) (.loop [.kb 15, .kb 17, .r 25 3, .s 27, .s 28] (.seq (.seq (.reg 0 [] [] []) (.cond none (.no) (.no))) (.seq (.blk none (.seq (.reg 0 [] [] []) (.cond (some [.kb 15, .kb 17, .r 25 3, .s 27]) (.reg 0 [] [] []) (.no)))) (.reg 0 [] [] [])))))) (.seq (.reg 0 [] [] []) (.cond (some [.kb 15, .kb 17, .r 25 3]) (.reg 0 [] [] []) (.no)))))) (.reg 0 [] [] [])))))) (.seq (.reg 0 [] [] []) (.seq (.reg 0 [] [] []) (.seq (.reg 0 [] [] []) (.seq (.reg 0 [] [] []) (.seq (.seq (.reg 0 [] [] []) (.cond (some [.kb 15, .kb 17, .s 9]) (.reg 0 [] [] []) (.no))) (.seq (.seq (.reg 0 [] [] []) (.cond (some [.kb 15, .kb 17, .s 9, .s 32]) (.seq (.reg 0 [] [] []) (.seq (.reg 0 [] [] []) (.cond (some [.kb 15, .kb 17, .s 9, .s 32]) (.seq (.reg 0 [] [] []) (.reg 0 [] [] [])) (.no)))) (.no))) (.seq (.reg 0 [] [] []) (.seq (.reg 0 [] [] []) (.seq (.reg 0 [] [] []) (.no))))))))))))))))))))))))))))))
noncomputable def sem_raillaw1_RuleTells (n : Nat) (xs : List V) : Option V := if xs.length ≤ 208 then denF Tryz.prog (envOf [(5, (sem_railref1_Rule n)), (7, (sem_rule_Check n)), (6, (sem_Error n)), (8, (sem_railref1_ShowRule n)), (9, (sem_rule_Print n)), (10, (sem_railref1_ReadRule n)), (11, (sem_rule_Parse n)), (12, (sem_railref1_Header n)), (13, (sem_railref1_Has n)), (14, (sem_railref1_Turned n)), (15, (sem_rule_Apply n)), (16, (sem_railref1_Table n)), (17, (sem_rule_Table n)), (18, (sem_railref1_Find n)), (19, (sem_rule_Shadowed n)), (20, (sem_railsame_Ints n)), (21, (sem_rule_Lookup n))]) n Tryz.f3 an_raillaw1_RuleTells xs else none
theorem ok_raillaw1_RuleTells (n : Nat) : SemOk Tryz.prog DW 3 (sem_raillaw1_RuleTells n) := fun xs y h => by
  unfold sem_raillaw1_RuleTells at h
  split at h
  · rename_i hl
    exact denF_ok stb Tryz.func3 (by kernel_rfl) (envOf_ok (semsOk_cons (ok_railref1_Rule n) (semsOk_cons (ok_rule_Check n) (semsOk_cons (ok_Error n) (semsOk_cons (ok_railref1_ShowRule n) (semsOk_cons (ok_rule_Print n) (semsOk_cons (ok_railref1_ReadRule n) (semsOk_cons (ok_rule_Parse n) (semsOk_cons (ok_railref1_Header n) (semsOk_cons (ok_railref1_Has n) (semsOk_cons (ok_railref1_Turned n) (semsOk_cons (ok_rule_Apply n) (semsOk_cons (ok_railref1_Table n) (semsOk_cons (ok_rule_Table n) (semsOk_cons (ok_railref1_Find n) (semsOk_cons (ok_rule_Shadowed n) (semsOk_cons (ok_railsame_Ints n) (semsOk_cons (ok_rule_Lookup n) semsOk_nil)))))))))))))))))) (by rw [Tryz.ntmps3]; exact hl) h
  · cases h
theorem eq_raillaw1_RuleTells (n : Nat) (x0 x1 x2 x3 : V) : sem_raillaw1_RuleTells n [x0, x1, x2, x3] =
 (V.cellsO x0).bind fun v1 =>
 (ldk (some 6) (List.drop 0 v1)).bind fun v2 =>
 ((sem_railref1_Rule n) [v2]).bind fun v3 =>
 (ldk (some 6) (List.drop 0 v1)).bind fun v4 =>
 ((sem_rule_Check n) [v4]).bind fun v5 =>
 ((sem_Error n) [v5, v3]).bind fun v6 =>
 (bin2 Tryz.prog BinOp.eql 3 (ot 41) (oc 0) v3 (vi 0)).bind fun v7 =>
 JoinPt (fun vs8 =>
 (ldk (some 6) (List.drop 0 v1)).bind fun v10 =>
 ((sem_rule_Print n) [v10]).bind fun v11 =>
 (extractV v11 0).bind fun v12 =>
 (extractV v11 1).bind fun v13 =>
 ((sem_Error n) [v13, v3]).bind fun v14 =>
 ((sem_railref1_ReadRule n) [x1]).bind fun v15 =>
 (extractV v15 0).bind fun v16 =>
 (extractV v15 1).bind fun v17 =>
 (spliceV [(vi 0), (vi 0), (vi 0), (vi 0), (vi 0), (vi 0)] 0 6 v16).bind fun v18 =>
 ((sem_rule_Parse n) [x1]).bind fun v19 =>
 (extractV v19 0).bind fun v20 =>
 (extractV v19 1).bind fun v21 =>
 (spliceV [(vi 0), (vi 0), (vi 0), (vi 0), (vi 0), (vi 0)] 0 6 v20).bind fun v22 =>
 ((sem_Error n) [v21, v17]).bind fun v23 =>
 ((sem_railref1_Header n) [x2]).bind fun v24 =>
 (ldk (some 2) (List.drop 1 v1)).bind fun v25 =>
 ((sem_railref1_Has n) [v25, x2]).bind fun v26 =>
 (bin2 Tryz.prog BinOp.eql 3 (ot 72) (oc 0) v3 (vi 0)).bind fun v27 =>
 (guardV v27 true (some v24)).bind fun v28 =>
 (guardV v27 true ((scal1 Tryz.prog (Op.unary Go.UnOp.not) v28).bind fun v29 =>
 some v29)).bind fun v30 =>
 (pickV v27 v30 (vb false)).bind fun v31 =>
 JoinPt (fun vs32 =>
 (bin2 Tryz.prog BinOp.eql 3 (ot 89) (oc 0) (List.getD vs32 0 V.any) (vi 0)).bind fun v34 =>
 JoinPt (fun vs35 =>
 (ldk (some 6) (List.drop 0 v1)).bind fun v37 =>
 ((sem_rule_Apply n) [v37, x2]).bind fun v38 =>
 (extractV v38 0).bind fun v39 =>
 (extractV v38 1).bind fun v40 =>
 ((sem_Error n) [v40, (List.getD vs32 0 V.any)]).bind fun v41 =>
 ((sem_railref1_Table n) [x3]).bind fun v42 =>
 ((sem_rule_Table n) [x3]).bind fun v43 =>
 ((sem_Error n) [v43, v42]).bind fun v44 =>
 JoinPt (fun vs45 =>
 ((sem_rule_Shadowed n) [x3]).bind fun v47 =>
 (extractV v47 0).bind fun v48 =>
 (extractV v47 1).bind fun v49 =>
 ((sem_Error n) [v49, v42]).bind fun v50 =>
 ((sem_railsame_Ints n) [v48, (List.getD vs45 0 V.any)]).bind fun v51 =>
 (bin2 Tryz.prog BinOp.eql 3 (ot 144) (oc 0) v42 (vi 0)).bind fun v52 =>
 (guardV v52 true (some v24)).bind fun v53 =>
 (guardV v52 true ((scal1 Tryz.prog (Op.unary Go.UnOp.not) v53).bind fun v54 =>
 some v54)).bind fun v55 =>
 (pickV v52 v55 (vb false)).bind fun v56 =>
 JoinPt (fun vs57 =>
 (bin2 Tryz.prog BinOp.eql 3 (ot 150) (oc 0) (List.getD vs57 0 V.any) (vi 0)).bind fun v59 =>
 JoinPt (fun vs60 =>
 ((sem_rule_Lookup n) [x3, x2]).bind fun v62 =>
 (extractV v62 0).bind fun v63 =>
 (extractV v62 1).bind fun v64 =>
 ((sem_Error n) [v64, (List.getD vs60 0 V.any)]).bind fun v65 =>
 (guardV v6 true (some v14)).bind fun v66 =>
 (pickV v6 v66 (vb false)).bind fun v67 =>
 (guardV v67 true (some v23)).bind fun v68 =>
 (pickV v67 v68 (vb false)).bind fun v69 =>
 (guardV v69 true (some v41)).bind fun v70 =>
 (pickV v69 v70 (vb false)).bind fun v71 =>
 (guardV v71 true (some v44)).bind fun v72 =>
 (pickV v71 v72 (vb false)).bind fun v73 =>
 (guardV v73 true (some v50)).bind fun v74 =>
 (pickV v73 v74 (vb false)).bind fun v75 =>
 (guardV v75 true (some v65)).bind fun v76 =>
 (pickV v75 v76 (vb false)).bind fun v77 =>
 (guardV v77 true (some v51)).bind fun v78 =>
 (pickV v77 v78 (vb false)).bind fun v79 =>
 (guardV v79 true (some v12)).bind fun v80 =>
 (guardV v79 true (some (List.getD vs8 0 V.any))).bind fun v81 =>
 (guardV v79 true ((bin2 Tryz.prog BinOp.eql 9 (ot 189) (ot 190) v80 v81).bind fun v82 =>
 some v82)).bind fun v83 =>
 (pickV v79 v83 (vb false)).bind fun v84 =>
 (guardV v84 true ((ldk (some 6) (List.drop 0 (aggL v18))).bind fun v85 =>
 some v85)).bind fun v86 =>
 (guardV v84 true ((ldk (some 6) (List.drop 0 (aggL v22))).bind fun v87 =>
 some v87)).bind fun v88 =>
 (guardV v84 true ((bin2 Tryz.prog BinOp.eql 25 (ot 194) (ot 195) v86 v88).bind fun v89 =>
 some v89)).bind fun v90 =>
 (pickV v84 v90 (vb false)).bind fun v91 =>
 (guardV v91 true (some v39)).bind fun v92 =>
 (guardV v91 true (some (List.getD vs35 0 V.any))).bind fun v93 =>
 (guardV v91 true ((bin2 Tryz.prog BinOp.eql 3 (ot 199) (ot 200) v92 v93).bind fun v94 =>
 some v94)).bind fun v95 =>
 (pickV v91 v95 (vb false)).bind fun v96 =>
 (guardV v96 true (some v63)).bind fun v97 =>
 (guardV v96 true (some (List.getD vs60 1 V.any))).bind fun v98 =>
 (guardV v96 true ((bin2 Tryz.prog BinOp.eql 3 (ot 204) (ot 205) v97 v98).bind fun v99 =>
 some v99)).bind fun v100 =>
 (pickV v96 v100 (vb false)).bind fun v101 =>
 some v101) fun J61 =>
 condV v59 (
 ((sem_railref1_Find n) [x3, x2]).bind fun v102 =>
 (bin2 Tryz.prog BinOp.lss 3 (ot 155) (oc 0) v102 (vi 0)).bind fun v103 =>
 JoinPt (fun vs104 =>
 (keepO (some (aggL v18)) (some (aggL v18)) (keepO (some (aggL v22)) (some (aggL v22)) (some [(List.getD vs104 0 V.any), (List.getD vs104 1 V.any)]))).bind J61) fun J105 =>
 condV v103 (
 (keepO (some (aggL v18)) (some (aggL v18)) (keepO (some (aggL v22)) (some (aggL v22)) (some [(vi 5), (vi 0)]))).bind J105) (
 (keepO (some (aggL v18)) (some (aggL v18)) (keepO (some (aggL v22)) (some (aggL v22)) (some [(List.getD vs57 0 V.any), v102]))).bind J105)) (
 (keepO (some (aggL v18)) (some (aggL v18)) (keepO (some (aggL v22)) (some (aggL v22)) (some [(List.getD vs57 0 V.any), (vi 0)]))).bind J61)) fun J58 =>
 condV v56 (
 (keepO (some (aggL v18)) (some (aggL v18)) (keepO (some (aggL v22)) (some (aggL v22)) (some [(vi 1)]))).bind J58) (
 (keepO (some (aggL v18)) (some (aggL v18)) (keepO (some (aggL v22)) (some (aggL v22)) (some [v42]))).bind J58)) fun J46 =>
 (keepO (some (aggL v18)) (some (aggL v18)) (keepO (some (aggL v22)) (some (aggL v22)) (some [(V.sl []), (vi 0)]))).bind (fixN (fun rec106 vs107 =>
 (lenS [x3]).bind fun v108 =>
 (bin2 Tryz.prog BinOp.lss 3 (ot 109) (ot 111) (List.getD vs107 1 V.any) v108).bind fun v109 =>
 (guardV v109 true (some v42)).bind fun v110 =>
 (guardV v109 true ((bin2 Tryz.prog BinOp.eql 3 (ot 114) (oc 0) v110 (vi 0)).bind fun v111 =>
 some v111)).bind fun v112 =>
 (pickV v109 v112 (vb false)).bind fun v113 =>
 condV v113 (
 JoinPt (fun vs114 =>
 (bin2 Tryz.prog BinOp.add 3 (ot 117) (oc 1) (List.getD vs107 1 V.any) (vi 1)).bind fun v116 =>
 (keepO (some (aggL v18)) (some (aggL v18)) (keepO (some (aggL v22)) (some (aggL v22)) (some [(V.sl (slL (List.getD vs114 0 V.any))), v116]))).bind rec106) fun J115 =>
 JoinPt (fun vs117 =>
 JoinPt (fun vs119 =>
 (keepO (some (aggL v18)) (some (aggL v18)) (keepO (some (aggL v22)) (some (aggL v22)) (some [(V.sl (slL (List.getD vs119 0 V.any)))]))).bind J115) fun J120 =>
 condV (List.getD vs117 1 V.any) (
 (slcB 1 1 [(vi 0)] [(0, (List.getD vs107 1 V.any))]).bind fun v121 =>
 (appV 1 (slL (List.getD vs117 0 V.any)) v121).bind fun v122 =>
 (keepO (some (aggL v18)) (some (aggL v18)) (keepO (some (aggL v22)) (some (aggL v22)) (some [(V.sl (slL v122))]))).bind J120) (
 (keepO (some (aggL v18)) (some (aggL v18)) (keepO (some (aggL v22)) (some (aggL v22)) (some [(V.sl (slL (List.getD vs117 0 V.any)))]))).bind J120)) fun J118 =>
 (keepO (some (aggL v18)) (some (aggL v18)) (keepO (some (aggL v22)) (some (aggL v22)) (some [(V.sl (slL (List.getD vs107 0 V.any))), (vb true), (vi 0)]))).bind (fixN (fun rec123 vs124 =>
 (bin2 Tryz.prog BinOp.lss 3 (ot 119) (oc 16) (List.getD vs124 2 V.any) (vi 16)).bind fun v125 =>
 condV v125 (
 ((sem_railref1_Find n) [x3, (List.getD vs124 2 V.any)]).bind fun v126 =>
 (bin2 Tryz.prog BinOp.eql 3 (ot 125) (ot 126) v126 (List.getD vs107 1 V.any)).bind fun v127 =>
 JoinPt (fun vs128 =>
 (bin2 Tryz.prog BinOp.add 3 (ot 121) (oc 1) (List.getD vs124 2 V.any) (vi 1)).bind fun v130 =>
 (keepO (some (aggL v18)) (some (aggL v18)) (keepO (some (aggL v22)) (some (aggL v22)) (some [(V.sl (slL (List.getD vs128 0 V.any))), (List.getD vs128 1 V.any), v130]))).bind rec123) fun J129 =>
 condV v127 (
 (keepO (some (aggL v18)) (some (aggL v18)) (keepO (some (aggL v22)) (some (aggL v22)) (some [(V.sl (slL (List.getD vs124 0 V.any))), (vb false)]))).bind J129) (
 (keepO (some (aggL v18)) (some (aggL v18)) (keepO (some (aggL v22)) (some (aggL v22)) (some [(V.sl (slL (List.getD vs124 0 V.any))), (List.getD vs124 1 V.any)]))).bind J129)) (
 (keepO (some (aggL v18)) (some (aggL v18)) (keepO (some (aggL v22)) (some (aggL v22)) (some [(V.sl (slL (List.getD vs124 0 V.any))), (List.getD vs124 1 V.any)]))).bind J118)) n)) (
 (keepO (some (aggL v18)) (some (aggL v18)) (keepO (some (aggL v22)) (some (aggL v22)) (some [(V.sl (slL (List.getD vs107 0 V.any)))]))).bind J46)) n)) fun J36 =>
 condV v34 (
 (ldk (some 6) (List.drop 0 v1)).bind fun v131 =>
 ((sem_railref1_Turned n) [v131, x2]).bind fun v132 =>
 (keepO (some v1) (some v1) (keepO (some (aggL v18)) (some (aggL v18)) (keepO (some (aggL v22)) (some (aggL v22)) (some [v132])))).bind J36) (
 (keepO (some v1) (some v1) (keepO (some (aggL v18)) (some (aggL v18)) (keepO (some (aggL v22)) (some (aggL v22)) (some [(vi 0)])))).bind J36)) fun J33 =>
 condV v31 (
 (keepO (some v1) (some v1) (keepO (some (aggL v18)) (some (aggL v18)) (keepO (some (aggL v22)) (some (aggL v22)) (some [(vi 1)])))).bind J33) (
 (bin2 Tryz.prog BinOp.eql 3 (ot 78) (oc 0) v3 (vi 0)).bind fun v133 =>
 (guardV v133 true (some v26)).bind fun v134 =>
 (guardV v133 true ((scal1 Tryz.prog (Op.unary Go.UnOp.not) v134).bind fun v135 =>
 some v135)).bind fun v136 =>
 (guardV v133 true (some v136)).bind fun v137 =>
 (guardV v137 false (some V.any)).bind fun v138 =>
 (guardV v137 false ((gate v137 false (ldk none (List.drop 3 v1))).bind fun v139 =>
 some v139)).bind fun v140 =>
 (guardV v137 false ((bin2 Tryz.prog BinOp.eql 3 (ot 85) (oc 0) v140 (vi 0)).bind fun v141 =>
 some v141)).bind fun v142 =>
 (guardV v133 true ((pickV v137 (vb true) v142).bind fun v143 =>
 some v143)).bind fun v144 =>
 (pickV v133 v144 (vb false)).bind fun v145 =>
 JoinPt (fun vs146 =>
 (keepO (some v1) (some v1) (keepO (some (aggL v18)) (some (aggL v18)) (keepO (some (aggL v22)) (some (aggL v22)) (some [(List.getD vs146 0 V.any)])))).bind J33) fun J147 =>
 condV v145 (
 (keepO (some v1) (some v1) (keepO (some (aggL v18)) (some (aggL v18)) (keepO (some (aggL v22)) (some (aggL v22)) (some [(vi 5)])))).bind J147) (
 (keepO (some v1) (some v1) (keepO (some (aggL v18)) (some (aggL v18)) (keepO (some (aggL v22)) (some (aggL v22)) (some [v3])))).bind J147))) fun J9 =>
 condV v7 (
 (ldk (some 6) (List.drop 0 v1)).bind fun v148 =>
 ((sem_railref1_ShowRule n) [v148]).bind fun v149 =>
 (keepO (some v1) (some v1) (some [v149])).bind J9) (
 (keepO (some v1) (some v1) (some [(V.lit (Go.Value.string (ByteArray.mk #[])))])).bind J9) := by kernel_rfl
noncomputable def t_raillaw1_RuleTells (a0 : T_Rule) (a1 : ByteArray) (a2 : Int) (a3 : (List T_Rule)) : Option Bool :=
 (t_railref1_Rule a0).bind fun r4 =>
 (t_rule_Check a0).bind fun r7 =>
 (t_railsame_Error r7 r4).bind fun r9 =>
 (if (decide (r4 = 0)) = true then (
 (t_railref1_ShowRule a0).bind fun r280 =>
 some (r280)) else (
 some (ByteArray.mk #[]))).bind fun (s13 : ByteArray) =>
 (t_rule_Print a0).bind fun r18 =>
 (t_railsame_Error r18.2 r4).bind fun r22 =>
 (t_railref1_ReadRule a1).bind fun r24 =>
 (t_rule_Parse a1).bind fun r29 =>
 (t_railsame_Error r29.2 r24.2).bind fun r34 =>
 (t_railref1_Header a2).bind fun r36 =>
 (t_railref1_Has a0.Cube a2).bind fun r39 =>
 (if ((decide (r4 = 0)) && (!r36)) = true then (
 some (1)) else (
 (if ((decide (r4 = 0)) && ((!r39) || (decide (a0.Out = 0)))) = true then (
 some (5)) else (
 some (r4))).bind fun (s273 : Int) =>
 some (s273))).bind fun (s49 : Int) =>
 (if (decide (s49 = 0)) = true then (
 (t_railref1_Turned a0 a2).bind fun r249 =>
 some (r249)) else (
 some (0))).bind fun (s55 : Int) =>
 (t_rule_Apply a0 a2).bind fun r60 =>
 (t_railsame_Error r60.2 s49).bind fun r64 =>
 (t_railref1_Table a3).bind fun r66 =>
 (t_rule_Table a3).bind fun r68 =>
 (t_railsame_Error r68 r66).bind fun r70 =>
 (loopI a3 (fun (i181 : Int) x182 (s177 : (List Int)) k178 =>
 if (decide (r66 = 0)) = true then (
 ((loopU 0 16 (fun (i219 : Int) (s215 : ((List Int) × Bool)) k216 =>
 (t_railref1_Find a3 i219).bind fun r227 =>
 (if (decide (r227 = i181)) = true then (
 some (s215.1, false)) else (
 some (s215.1, s215.2))).bind fun (s231 : ((List Int) × Bool)) =>
 k216 (s231.1, s231.2)) (fun (i219 : Int) (s215 : ((List Int) × Bool)) =>
 some (s215.1, s215.2)) (s177, true)).bind fun (s201 : ((List Int) × Bool)) =>
 (if s201.2 = true then (
 (app s201.1 ([i181] : (List Int))).bind fun r212 =>
 some (r212)) else (
 some (s201.1))).bind fun (s206 : (List Int)) =>
 some (s206)).bind fun (s195 : (List Int)) =>
 k178 (s195)) else (
 some (s177))) (fun (s177 : (List Int)) =>
 some (s177)) ([])).bind fun (s73 : (List Int)) =>
 (t_rule_Shadowed a3).bind fun r77 =>
 (t_railsame_Error r77.2 r66).bind fun r81 =>
 (t_railsame_Ints r77.1 s73).bind fun r83 =>
 (if ((decide (r66 = 0)) && (!r36)) = true then (
 some (1)) else (
 some (r66))).bind fun (s93 : Int) =>
 (if (decide (s93 = 0)) = true then (
 (t_railref1_Find a3 a2).bind fun r166 =>
 (if (decide (r166 < 0)) = true then (
 some (5, 0)) else (
 some (s93, r166))).bind fun (s170 : (Int × Int)) =>
 some (s170.1, s170.2)) else (
 some (s93, 0))).bind fun (s99 : (Int × Int)) =>
 (t_rule_Lookup a3 a2).bind fun r103 =>
 (t_railsame_Error r103.2 s99.1).bind fun r107 =>
 (some ((((((((((r9 && r22) && r34) && r64) && r70) && r81) && r107) && r83) && (decide (r18.1 = s13))) && (decide (r24.1 = r29.1))) && (decide (r60.1 = s55)))).bind fun r155 =>
 some (r155 && (decide (r103.1 = s99.2)))
theorem ty_raillaw1_RuleTells {n : Nat} (hn : bigN ≤ n) (a0 : T_Rule) (a1 : ByteArray) (a2 : Int) (a3 : (List T_Rule)) : Rv (fun x : Bool => (vb x)) (sem_raillaw1_RuleTells n [(T_Rule.e a0), (vt a1), (vi a2), (V.sl (List.map T_Rule.c a3))]) (t_raillaw1_RuleTells a0 a1 a2 a3) := by
  rw [eq_raillaw1_RuleTells]
  unfold t_raillaw1_RuleTells
  refine tb (x := (T_Rule.c a0)) rfl ?_
  refine tb (x := (T_Rule.e a0)) (rfl) ?_
  refine tbo (ty_railref1_Rule hn a0) fun r4 => ?_
  refine tb (x := (T_Rule.e a0)) (rfl) ?_
  refine tbo (ty_rule_Check hn a0) fun r7 => ?_
  refine tbo (ty_railsame_Error r7 r4) fun r9 => ?_
  refine tb (x := (vb (decide (r4 = 0)))) (d_eql) ?_
  refine tjb (mk := fun s13 : ByteArray => [(vt s13)]) (fun J12 => ?_) fun s13 => ?_
  · refine tcond (fun h277 => ?_) (fun h277 => ?_)
    · refine tb (x := (T_Rule.e a0)) (rfl) ?_
      refine tbo (ty_railref1_ShowRule hn a0) fun r280 => ?_
      refine tkeepO2 ?_ rfl
      refine tsome ?_
      exact rf_j rfl
    · refine tkeepO2 ?_ rfl
      refine tsome ?_
      exact rf_j rfl
  · refine tb (x := (T_Rule.e a0)) (rfl) ?_
    refine tbo (ty_rule_Print hn a0) fun r18 => ?_
    refine tb (x := (vt r18.1)) (rfl) ?_
    refine tb (x := (eV r18.2)) (rfl) ?_
    refine tbo (ty_railsame_Error r18.2 r4) fun r22 => ?_
    refine tbo (ty_railref1_ReadRule hn a1) fun r24 => ?_
    refine tb (x := (T_Rule.e r24.1)) (rfl) ?_
    refine tb (x := (vi r24.2)) (rfl) ?_
    refine tb (x := V.agg (T_Rule.c r24.1)) (by kernel_rfl) ?_
    refine tbo (ty_rule_Parse hn a1) fun r29 => ?_
    refine tb (x := (T_Rule.e r29.1)) (rfl) ?_
    refine tb (x := (eV r29.2)) (rfl) ?_
    refine tb (x := V.agg (T_Rule.c r29.1)) (by kernel_rfl) ?_
    refine tbo (ty_railsame_Error r29.2 r24.2) fun r34 => ?_
    refine tbo (ty_railref1_Header hn a2) fun r36 => ?_
    refine tb (x := (T_Cube.e a0.Cube)) (rfl) ?_
    refine tbo (ty_railref1_Has hn a0.Cube a2) fun r39 => ?_
    refine tb (x := (vb (decide (r4 = 0)))) (d_eql) ?_
    refine tg (x := (vb r36)) (fun h41 => rfl) ?_
    refine tg (x := (vb (!r36))) (fun h43 => by simp only [gv_t h43]; exact bind_some_eq (d_not)) ?_
    refine tb (x := (vb ((decide (r4 = 0)) && (!r36)))) (pick_and (fun h9 => gv_t h9)) ?_
    refine tjb (mk := fun s49 : Int => [(vi s49)]) (fun J48 => ?_) fun s49 => ?_
    · refine tcond (fun h250 => ?_) (fun h250 => ?_)
      · refine tkeepO2 ?_ rfl
        refine tkeepO2 ?_ rfl
        refine tkeepO2 ?_ rfl
        refine tsome ?_
        exact rf_j rfl
      · refine tb (x := (vb (decide (r4 = 0)))) (d_eql) ?_
        refine tg (x := (vb r39)) (fun h252 => rfl) ?_
        refine tg (x := (vb (!r39))) (fun h254 => by simp only [gv_t h254]; exact bind_some_eq (d_not)) ?_
        refine tg (x := (vb (!r39))) (fun h257 => congrArg some (gv_t h257)) ?_
        refine tg2_f (x := V.any) (fun h259 => rfl) ?_
        refine tg2_f (x := (vi a0.Out)) (fun h261 => bind_some_eq (gate_pos2 (and_l h261) (not_t (and_r h261)) (rfl))) ?_
        refine tg2_f (x := (vb (decide (a0.Out = 0)))) (fun h264 => by simp only [gv_t h264]; exact bind_some_eq (d_eql)) ?_
        refine tg (x := (vb ((!r39) || (decide (a0.Out = 0))))) (fun h267 => by simp only [gv_t h267]; exact bind_some_eq (pick_or (fun h9 => gv_t (and_i h267 (not_f h9))))) ?_
        refine tb (x := (vb ((decide (r4 = 0)) && ((!r39) || (decide (a0.Out = 0)))))) (pick_and (fun h9 => gv_t h9)) ?_
        refine tjb (mk := fun s273 : Int => [(vi s273)]) (fun J272 => ?_) fun s273 => ?_
        · refine tcond (fun h276 => ?_) (fun h276 => ?_)
          · refine tkeepO2 ?_ rfl
            refine tkeepO2 ?_ rfl
            refine tkeepO2 ?_ rfl
            refine tsome ?_
            exact rf_j rfl
          · refine tkeepO2 ?_ rfl
            refine tkeepO2 ?_ rfl
            refine tkeepO2 ?_ rfl
            refine tsome ?_
            exact rf_j rfl
        · refine tkeepO2 ?_ rfl
          refine tkeepO2 ?_ rfl
          refine tkeepO2 ?_ rfl
          refine tsome ?_
          exact rf_j rfl
    · refine tb (x := (vb (decide (s49 = 0)))) (d_eql) ?_
      refine tjb (mk := fun s55 : Int => [(vi s55)]) (fun J54 => ?_) fun s55 => ?_
      · refine tcond (fun h246 => ?_) (fun h246 => ?_)
        · refine tb (x := (T_Rule.e a0)) (rfl) ?_
          refine tbo (ty_railref1_Turned hn a0 a2) fun r249 => ?_
          refine tkeepO2 ?_ rfl
          refine tkeepO2 ?_ rfl
          refine tkeepO2 ?_ rfl
          refine tsome ?_
          exact rf_j rfl
        · refine tkeepO2 ?_ rfl
          refine tkeepO2 ?_ rfl
          refine tkeepO2 ?_ rfl
          refine tsome ?_
          exact rf_j rfl
      · refine tb (x := (T_Rule.e a0)) (rfl) ?_
        refine tbo (ty_rule_Apply hn a0 a2) fun r60 => ?_
        refine tb (x := (vi r60.1)) (rfl) ?_
        refine tb (x := (eV r60.2)) (rfl) ?_
        refine tbo (ty_railsame_Error r60.2 s49) fun r64 => ?_
        refine tbo (ty_railref1_Table hn a3) fun r66 => ?_
        refine tbo (ty_rule_Table hn a3) fun r68 => ?_
        refine tbo (ty_railsame_Error r68 r66) fun r70 => ?_
        refine tjb (mk := fun s73 : (List Int) => [(V.sl (List.map cI s73))]) (fun J72 => ?_) fun s73 => ?_
        · refine tkeepO2 ?_ rfl
          refine tkeepO2 ?_ rfl
          refine tsome ?_
          refine rf_loopI (mk := fun (i181 : Int) (s177 : (List Int)) => [(V.sl (List.map cI s177)), (vi (i181 : Int))]) hn a3 ([]) (fun i181 x182 h183 h184 h185 s177 rec175 k178 h179 => ?_) (fun s177 rec238 h237 => ?_)
          · refine tb (x := (vi (List.length a3 : Int))) (p_len _) ?_
            refine tb (x := (vb (decide ((i181 : Int) < (List.length a3 : Int))))) (d_lss) ?_
            refine tb (x := (vi r66)) (gkt h185 rfl) ?_
            refine tkt h185 (tb (x := (vb (decide (r66 = 0)))) (d_eql) ?_)
            refine tb (x := (vb (decide (r66 = 0)))) (pick_kt h185) ?_
            refine tcond (fun h192 => ?_) (fun h192 => ?_)
            · refine tjb (mk := fun s195 : (List Int) => [(V.sl (List.map cI s195))]) (fun J194 => ?_) fun s195 => ?_
              · refine tjb (mk := fun s201 : ((List Int) × Bool) => [(V.sl (List.map cI s201.1)), (vb s201.2)]) (fun J200 => ?_) fun s201 => ?_
                · refine tkeepO2 ?_ rfl
                  refine tkeepO2 ?_ rfl
                  refine tsome ?_
                  refine rf_loopU (mk := fun (i219 : Int) (s215 : ((List Int) × Bool)) => [(V.sl (List.map cI s215.1)), (vb s215.2), (vi i219)]) hn _ _ (s177, true) (fun i219 h220 h221 h222 s215 rec213 k216 h217 => ?_) (fun i219 s215 rec224 h223 => ?_)
                  · refine tb (x := (vb (decide (i219 < 16)))) (d_lss) ?_
                    refine tcond_t h220 ?_
                    refine tbo (ty_railref1_Find hn a3 i219) fun r227 => ?_
                    refine tb (x := (vb (decide (r227 = (i181 : Int))))) (d_eql) ?_
                    refine tjb (mk := fun s231 : ((List Int) × Bool) => [(V.sl (List.map cI s231.1)), (vb s231.2)]) (fun J230 => ?_) fun s231 => ?_
                    · refine tcond (fun h235 => ?_) (fun h235 => ?_)
                      · refine tkeepO2 ?_ rfl
                        refine tkeepO2 ?_ rfl
                        refine tsome ?_
                        exact rf_j rfl
                      · refine tkeepO2 ?_ rfl
                        refine tkeepO2 ?_ rfl
                        refine tsome ?_
                        exact rf_j rfl
                    · refine tb (x := (vi (i219 + 1))) (p_inc h221 h222) ?_
                      refine tkeepO2 ?_ rfl
                      refine tkeepO2 ?_ rfl
                      refine tsome ?_
                      exact h217 (s231.1, s231.2)
                  · refine tb (x := (vb (decide (i219 < 16)))) (d_lss) ?_
                    refine tcond_f h223 ?_
                    refine tkeepO2 ?_ rfl
                    refine tkeepO2 ?_ rfl
                    refine tsome ?_
                    exact rf_j rfl
                · refine tjb (mk := fun s206 : (List Int) => [(V.sl (List.map cI s206))]) (fun J205 => ?_) fun s206 => ?_
                  · refine tcond (fun h209 => ?_) (fun h209 => ?_)
                    · refine tb (x := (V.sl (List.map cI ([(i181 : Int)] : (List Int))))) (by kernel_rfl) ?_
                      refine tbo (p_app (c := cI) (fun _ => rfl) s201.1 ([(i181 : Int)] : (List Int))) fun r212 => ?_
                      refine tkeepO2 ?_ rfl
                      refine tkeepO2 ?_ rfl
                      refine tsome ?_
                      exact rf_j rfl
                    · refine tkeepO2 ?_ rfl
                      refine tkeepO2 ?_ rfl
                      refine tsome ?_
                      exact rf_j rfl
                  · refine tkeepO2 ?_ rfl
                    refine tkeepO2 ?_ rfl
                    refine tsome ?_
                    exact rf_j rfl
              · refine tb (x := (vi ((i181 : Int) + 1))) (p_incN h184) ?_
                refine tkeepO2 ?_ rfl
                refine tkeepO2 ?_ rfl
                refine tsome ?_
                exact h179 (s195)
            · refine tkeepO2 ?_ rfl
              refine tkeepO2 ?_ rfl
              refine tsome ?_
              exact rf_j rfl
          · refine tb (x := (vi (List.length a3 : Int))) (p_len _) ?_
            refine tb (x := (vb (decide ((List.length a3 : Int) < (List.length a3 : Int))))) (d_lss) ?_
            refine tb (x := V.tup []) (gnt h237) ?_
            refine tb (x := V.tup []) (gnt h237) ?_
            refine tb (x := (vb (false))) (pick_kf h237) ?_
            refine tcond_f rfl ?_
            refine tkeepO2 ?_ rfl
            refine tkeepO2 ?_ rfl
            refine tsome ?_
            exact rf_j rfl
        · refine tbo (ty_rule_Shadowed hn a3) fun r77 => ?_
          refine tb (x := (V.sl (List.map cI r77.1))) (rfl) ?_
          refine tb (x := (eV r77.2)) (rfl) ?_
          refine tbo (ty_railsame_Error r77.2 r66) fun r81 => ?_
          refine tbo (ty_railsame_Ints hn r77.1 s73) fun r83 => ?_
          refine tb (x := (vb (decide (r66 = 0)))) (d_eql) ?_
          refine tg (x := (vb r36)) (fun h85 => rfl) ?_
          refine tg (x := (vb (!r36))) (fun h87 => by simp only [gv_t h87]; exact bind_some_eq (d_not)) ?_
          refine tb (x := (vb ((decide (r66 = 0)) && (!r36)))) (pick_and (fun h9 => gv_t h9)) ?_
          refine tjb (mk := fun s93 : Int => [(vi s93)]) (fun J92 => ?_) fun s93 => ?_
          · refine tcond (fun h174 => ?_) (fun h174 => ?_)
            · refine tkeepO2 ?_ rfl
              refine tkeepO2 ?_ rfl
              refine tsome ?_
              exact rf_j rfl
            · refine tkeepO2 ?_ rfl
              refine tkeepO2 ?_ rfl
              refine tsome ?_
              exact rf_j rfl
          · refine tb (x := (vb (decide (s93 = 0)))) (d_eql) ?_
            refine tjb (mk := fun s99 : (Int × Int) => [(vi s99.1), (vi s99.2)]) (fun J98 => ?_) fun s99 => ?_
            · refine tcond (fun h164 => ?_) (fun h164 => ?_)
              · refine tbo (ty_railref1_Find hn a3 a2) fun r166 => ?_
                refine tb (x := (vb (decide (r166 < 0)))) (d_lss) ?_
                refine tjb (mk := fun s170 : (Int × Int) => [(vi s170.1), (vi s170.2)]) (fun J169 => ?_) fun s170 => ?_
                · refine tcond (fun h173 => ?_) (fun h173 => ?_)
                  · refine tkeepO2 ?_ rfl
                    refine tkeepO2 ?_ rfl
                    refine tsome ?_
                    exact rf_j rfl
                  · refine tkeepO2 ?_ rfl
                    refine tkeepO2 ?_ rfl
                    refine tsome ?_
                    exact rf_j rfl
                · refine tkeepO2 ?_ rfl
                  refine tkeepO2 ?_ rfl
                  refine tsome ?_
                  exact rf_j rfl
              · refine tkeepO2 ?_ rfl
                refine tkeepO2 ?_ rfl
                refine tsome ?_
                exact rf_j rfl
            · refine tbo (ty_rule_Lookup hn a3 a2) fun r103 => ?_
              refine tb (x := (vi r103.1)) (rfl) ?_
              refine tb (x := (eV r103.2)) (rfl) ?_
              refine tbo (ty_railsame_Error r103.2 s99.1) fun r107 => ?_
              refine tg (x := (vb r22)) (fun h108 => rfl) ?_
              refine tb (x := (vb (r9 && r22))) (pick_and (fun h9 => gv_t h9)) ?_
              refine tg (x := (vb r34)) (fun h111 => rfl) ?_
              refine tb (x := (vb ((r9 && r22) && r34))) (pick_and (fun h9 => gv_t h9)) ?_
              refine tg (x := (vb r64)) (fun h114 => rfl) ?_
              refine tb (x := (vb (((r9 && r22) && r34) && r64))) (pick_and (fun h9 => gv_t h9)) ?_
              refine tg (x := (vb r70)) (fun h117 => rfl) ?_
              refine tb (x := (vb ((((r9 && r22) && r34) && r64) && r70))) (pick_and (fun h9 => gv_t h9)) ?_
              refine tg (x := (vb r81)) (fun h120 => rfl) ?_
              refine tb (x := (vb (((((r9 && r22) && r34) && r64) && r70) && r81))) (pick_and (fun h9 => gv_t h9)) ?_
              refine tg (x := (vb r107)) (fun h123 => rfl) ?_
              refine tb (x := (vb ((((((r9 && r22) && r34) && r64) && r70) && r81) && r107))) (pick_and (fun h9 => gv_t h9)) ?_
              refine tg (x := (vb r83)) (fun h126 => rfl) ?_
              refine tb (x := (vb (((((((r9 && r22) && r34) && r64) && r70) && r81) && r107) && r83))) (pick_and (fun h9 => gv_t h9)) ?_
              refine tg (x := (vt r18.1)) (fun h129 => rfl) ?_
              refine tg (x := (vt s13)) (fun h131 => rfl) ?_
              refine tg (x := (vb (decide (r18.1 = s13)))) (fun h133 => by simp only [gv_t h133]; exact bind_some_eq (p_eql_str)) ?_
              refine tb (x := (vb ((((((((r9 && r22) && r34) && r64) && r70) && r81) && r107) && r83) && (decide (r18.1 = s13))))) (pick_and (fun h9 => gv_t h9)) ?_
              refine tg (x := (T_Rule.e r24.1)) (fun h137 => bind_some_eq (rfl)) ?_
              refine tg (x := (T_Rule.e r29.1)) (fun h140 => bind_some_eq (rfl)) ?_
              refine tg (x := (vb (decide (r24.1 = r29.1)))) (fun h143 => by simp only [gv_t h143]; exact bind_some_eq (T_Rule.eql r24.1 r29.1)) ?_
              refine tb (x := (vb (((((((((r9 && r22) && r34) && r64) && r70) && r81) && r107) && r83) && (decide (r18.1 = s13))) && (decide (r24.1 = r29.1))))) (pick_and (fun h9 => gv_t h9)) ?_
              refine tg (x := (vi r60.1)) (fun h147 => rfl) ?_
              refine tg (x := (vi s55)) (fun h149 => rfl) ?_
              refine tg (x := (vb (decide (r60.1 = s55)))) (fun h151 => by simp only [gv_t h151]; exact bind_some_eq (d_eql)) ?_
              refine tbo (e1 := fun x : Bool => (vb x)) (rf_eq (pick_and (fun h9 => gv_t h9)) rfl) fun r155 => ?_
              refine tg (x := (vi r103.1)) (fun h156 => rfl) ?_
              refine tg (x := (vi s99.2)) (fun h158 => rfl) ?_
              refine tg (x := (vb (decide (r103.1 = s99.2)))) (fun h160 => by simp only [gv_t h160]; exact bind_some_eq (d_eql)) ?_
              refine tb (x := (vb (r155 && (decide (r103.1 = s99.2))))) (pick_and (fun h9 => gv_t h9)) ?_
              exact rf_ret rfl

end Go.Proofs.YtilbgbhpdjjliaaGreatDoor.Ty
