/- What functions do, as functions on plain types, written by a program and checked by the kernel. -/
import Derived.Test.YtpkcdfgjcodidaaDoorDenDoor
import Derived.Test.YtpkcdfgjcodidaaDoorTy
import Derived.Test.YtpkcdfgjcodidaaDoorTyT
import Derived.Test.YtpkcdfgjcodidaaDoorTyE
namespace Go.Proofs.YtpkcdfgjcodidaaDoor.Ty
open Go Go.RowKit Go.Proofs.YtpkcdfgjcodidaaDoor.Den
set_option linter.unusedVariables false
set_option maxRecDepth 100000

/-! railpoint/railref1.Header -/
def an_railref1_Header : Ann := .seq (.reg 0 [] [] []) (.seq (.reg 0 [] [] []) (.no))
noncomputable def sem_railref1_Header (n : Nat) (xs : List V) : Option V := if xs.length ≤ 9 then denF Tryd.prog (envOf []) n Tryd.f71 an_railref1_Header xs else none
theorem ok_railref1_Header (n : Nat) : SemOk Tryd.prog DW 71 (sem_railref1_Header n) := fun xs y h => by
  unfold sem_railref1_Header at h
  split at h
  · rename_i hl
    exact denF_ok stb Tryd.func71 (by kernel_rfl) (envOf_ok semsOk_nil) (by rw [Tryd.ntmps71]; exact hl) h
  · cases h
theorem eq_railref1_Header (n : Nat) (x0 : V) : sem_railref1_Header n [x0] =
 (bin2 Tryd.prog BinOp.geq 3 (ot 3) (oc 0) x0 (vi 0)).bind fun v1 =>
 (guardV v1 true (some x0)).bind fun v2 =>
 (guardV v1 true ((bin2 Tryd.prog BinOp.lss 3 (ot 6) (oc 16) v2 (vi 16)).bind fun v3 =>
 some v3)).bind fun v4 =>
 (pickV v1 v4 (vb false)).bind fun v5 =>
 some v5 := by kernel_rfl
noncomputable def t_railref1_Header (a0 : Int) : Option Bool :=
 some ((decide (0 ≤ a0)) && (decide (a0 < 16)))
theorem ty_railref1_Header {n : Nat} (hn : bigN ≤ n) (a0 : Int) : Rv (fun x : Bool => (vb x)) (sem_railref1_Header n [(vi a0)]) (t_railref1_Header a0) := by
  rw [eq_railref1_Header]
  unfold t_railref1_Header
  refine tb (x := (vb (decide (0 ≤ a0)))) (d_geq) ?_
  refine tg (x := (vi a0)) (fun h2 => rfl) ?_
  refine tg (x := (vb (decide (a0 < 16)))) (fun h4 => by simp only [gv_t h4]; exact bind_some_eq (d_lss)) ?_
  refine tb (x := (vb ((decide (0 ≤ a0)) && (decide (a0 < 16))))) (pick_and (fun h9 => gv_t h9)) ?_
  exact rf_ret rfl

/-! railpoint/railref1.Cube -/
def an_railref1_Cube : Ann := .seq (.reg 0 [] [] []) (.seq (.reg 0 [] [] []) (.seq (.reg 0 [] [] []) (.seq (.seq (.reg 0 [] [] []) (.cond none (.seq (.reg 0 [] [] []) (.no)) (.no))) (.seq (.seq (.reg 0 [] [] []) (.cond none (.seq (.reg 0 [] [] []) (.no)) (.no))) (.seq (.reg 0 [] [] []) (.no))))))
noncomputable def sem_railref1_Cube (n : Nat) (xs : List V) : Option V := if xs.length ≤ 25 then denF Tryd.prog (envOf [(71, (sem_railref1_Header n))]) n Tryd.f18 an_railref1_Cube xs else none
theorem ok_railref1_Cube (n : Nat) : SemOk Tryd.prog DW 18 (sem_railref1_Cube n) := fun xs y h => by
  unfold sem_railref1_Cube at h
  split at h
  · rename_i hl
    exact denF_ok stb Tryd.func18 (by kernel_rfl) (envOf_ok (semsOk_cons (ok_railref1_Header n) semsOk_nil)) (by rw [Tryd.ntmps18]; exact hl) h
  · cases h
theorem eq_railref1_Cube (n : Nat) (x0 : V) : sem_railref1_Cube n [x0] =
 (V.cellsO x0).bind fun v1 =>
 (ldk none (List.drop 0 v1)).bind fun v2 =>
 ((sem_railref1_Header n) [v2]).bind fun v3 =>
 (ldk none (List.drop 1 v1)).bind fun v4 =>
 ((sem_railref1_Header n) [v4]).bind fun v5 =>
 (scal1 Tryd.prog (Op.unary Go.UnOp.not) v3).bind fun v6 =>
 (guardV v6 false (some v5)).bind fun v7 =>
 (guardV v6 false ((scal1 Tryd.prog (Op.unary Go.UnOp.not) v7).bind fun v8 =>
 some v8)).bind fun v9 =>
 (pickV v6 (vb true) v9).bind fun v10 =>
 condV v10 (
 some (vi 1)) (
 (ldk none (List.drop 1 v1)).bind fun v11 =>
 (ldk none (List.drop 0 v1)).bind fun v12 =>
 (bin2 Tryd.prog BinOp.and 3 (ot 18) (ot 20) v11 v12).bind fun v13 =>
 (ldk none (List.drop 1 v1)).bind fun v14 =>
 (bin2 Tryd.prog BinOp.neq 3 (ot 21) (ot 23) v13 v14).bind fun v15 =>
 condV v15 (
 some (vi 3)) (
 some (vi 0))) := by kernel_rfl
noncomputable def t_railref1_Cube (a0 : T_Cube) : Option Int :=
 (t_railref1_Header a0.Mask).bind fun r4 =>
 (t_railref1_Header a0.Bits).bind fun r7 =>
 if ((!r4) || (!r7)) = true then (
 some 1) else (
 if (decide ((bits .and .i64 a0.Bits a0.Mask) ≠ a0.Bits)) = true then (
 some 3) else (
 some 0))
theorem ty_railref1_Cube {n : Nat} (hn : bigN ≤ n) (a0 : T_Cube) : Rv (fun x : Int => (vi x)) (sem_railref1_Cube n [(T_Cube.e a0)]) (t_railref1_Cube a0) := by
  rw [eq_railref1_Cube]
  unfold t_railref1_Cube
  refine tb (x := (T_Cube.c a0)) rfl ?_
  refine tb (x := (vi a0.Mask)) (rfl) ?_
  refine tbo (ty_railref1_Header hn a0.Mask) fun r4 => ?_
  refine tb (x := (vi a0.Bits)) (rfl) ?_
  refine tbo (ty_railref1_Header hn a0.Bits) fun r7 => ?_
  refine tb (x := (vb (!r4))) (d_not) ?_
  refine tg_f (x := (vb r7)) (fun h9 => rfl) ?_
  refine tg_f (x := (vb (!r7))) (fun h11 => by simp only [gv_t h11]; exact bind_some_eq (d_not)) ?_
  refine tb (x := (vb ((!r4) || (!r7)))) (pick_or (fun h9 => gv_t (not_f h9))) ?_
  refine tcond (fun h15 => ?_) (fun h15 => ?_)
  · exact rf_ret rfl
  · refine tb (x := (vi a0.Bits)) (rfl) ?_
    refine tb (x := (vi a0.Mask)) (rfl) ?_
    refine tb (x := (vi (bits .and .i64 a0.Bits a0.Mask))) (d_and) ?_
    refine tb (x := (vi a0.Bits)) (rfl) ?_
    refine tb (x := (vb (decide ((bits .and .i64 a0.Bits a0.Mask) ≠ a0.Bits)))) (d_neq) ?_
    refine tcond (fun h21 => ?_) (fun h21 => ?_)
    · exact rf_ret rfl
    · exact rf_ret rfl

/-! railpoint/railref1.Rule -/
def an_railref1_Rule : Ann := .seq (.reg 0 [] [] []) (.seq (.reg 0 [] [] []) (.seq (.reg 0 [] [] []) (.seq (.seq (.reg 0 [] [] []) (.cond none (.seq (.reg 0 [] [] []) (.no)) (.no))) (.seq (.reg 0 [] [] []) (.seq (.seq (.reg 0 [] [] []) (.cond none (.seq (.reg 0 [] [] []) (.no)) (.no))) (.seq (.seq (.reg 0 [] [] []) (.cond none (.seq (.reg 0 [] [] []) (.no)) (.no))) (.seq (.reg 0 [] [] []) (.no))))))))
noncomputable def sem_railref1_Rule (n : Nat) (xs : List V) : Option V := if xs.length ≤ 61 then denF Tryd.prog (envOf [(71, (sem_railref1_Header n)), (18, (sem_railref1_Cube n))]) n Tryd.f49 an_railref1_Rule xs else none
theorem ok_railref1_Rule (n : Nat) : SemOk Tryd.prog DW 49 (sem_railref1_Rule n) := fun xs y h => by
  unfold sem_railref1_Rule at h
  split at h
  · rename_i hl
    exact denF_ok stb Tryd.func49 (by kernel_rfl) (envOf_ok (semsOk_cons (ok_railref1_Header n) (semsOk_cons (ok_railref1_Cube n) semsOk_nil))) (by rw [Tryd.ntmps49]; exact hl) h
  · cases h
theorem eq_railref1_Rule (n : Nat) (x0 : V) : sem_railref1_Rule n [x0] =
 (V.cellsO x0).bind fun v1 =>
 (ldk none (List.drop 4 v1)).bind fun v2 =>
 ((sem_railref1_Header n) [v2]).bind fun v3 =>
 (ldk none (List.drop 5 v1)).bind fun v4 =>
 ((sem_railref1_Header n) [v4]).bind fun v5 =>
 (ldk none (List.drop 0 v1)).bind fun v6 =>
 (bin2 Tryd.prog BinOp.lss 3 (ot 13) (oc 0) v6 (vi 0)).bind fun v7 =>
 (guardV v7 false (some V.any)).bind fun v8 =>
 (guardV v7 false ((gate v7 false (ldk none (List.drop 0 v1))).bind fun v9 =>
 some v9)).bind fun v10 =>
 (guardV v7 false ((bin2 Tryd.prog BinOp.gtr 3 (ot 17) (oc 99) v10 (vi 99)).bind fun v11 =>
 some v11)).bind fun v12 =>
 (pickV v7 (vb true) v12).bind fun v13 =>
 (guardV v13 false (some V.any)).bind fun v14 =>
 (guardV v13 false ((gate v13 false (ldk none (List.drop 3 v1))).bind fun v15 =>
 some v15)).bind fun v16 =>
 (guardV v13 false ((bin2 Tryd.prog BinOp.lss 3 (ot 22) (oc 0) v16 (vi 0)).bind fun v17 =>
 some v17)).bind fun v18 =>
 (pickV v13 (vb true) v18).bind fun v19 =>
 (guardV v19 false (some V.any)).bind fun v20 =>
 (guardV v19 false ((gate v19 false (ldk none (List.drop 3 v1))).bind fun v21 =>
 some v21)).bind fun v22 =>
 (guardV v19 false ((bin2 Tryd.prog BinOp.gtr 3 (ot 27) (oc 4) v22 (vi 4)).bind fun v23 =>
 some v23)).bind fun v24 =>
 (pickV v19 (vb true) v24).bind fun v25 =>
 (guardV v25 false (some v3)).bind fun v26 =>
 (guardV v25 false ((scal1 Tryd.prog (Op.unary Go.UnOp.not) v26).bind fun v27 =>
 some v27)).bind fun v28 =>
 (pickV v25 (vb true) v28).bind fun v29 =>
 (guardV v29 false (some v5)).bind fun v30 =>
 (guardV v29 false ((scal1 Tryd.prog (Op.unary Go.UnOp.not) v30).bind fun v31 =>
 some v31)).bind fun v32 =>
 (pickV v29 (vb true) v32).bind fun v33 =>
 condV v33 (
 some (vi 1)) (
 (ldk (some 2) (List.drop 1 v1)).bind fun v34 =>
 ((sem_railref1_Cube n) [v34]).bind fun v35 =>
 (bin2 Tryd.prog BinOp.neq 3 (ot 41) (oc 0) v35 (vi 0)).bind fun v36 =>
 condV v36 (
 some v35) (
 (ldk none (List.drop 4 v1)).bind fun v37 =>
 (ldk none (List.drop 5 v1)).bind fun v38 =>
 ((fillL [(vi 0), (vi 0)] [(0, 1, v37), (1, 1, v38)]).map V.agg).bind fun v39 =>
 ((sem_railref1_Cube n) [v39]).bind fun v40 =>
 (bin2 Tryd.prog BinOp.neq 3 (ot 49) (oc 0) v40 (vi 0)).bind fun v41 =>
 (guardV v41 false (some V.any)).bind fun v42 =>
 (guardV v41 false ((gate v41 false (ldk none (List.drop 3 v1))).bind fun v43 =>
 some v43)).bind fun v44 =>
 (guardV v41 false ((bin2 Tryd.prog BinOp.eql 3 (ot 53) (oc 0) v44 (vi 0)).bind fun v45 =>
 some v45)).bind fun v46 =>
 (guardV v41 false (some v46)).bind fun v47 =>
 (guardV v47 true (some V.any)).bind fun v48 =>
 (guardV v47 true ((gate v47 true (ldk none (List.drop 4 v1))).bind fun v49 =>
 some v49)).bind fun v50 =>
 (guardV v47 true ((bin2 Tryd.prog BinOp.neq 3 (ot 57) (oc 0) v50 (vi 0)).bind fun v51 =>
 some v51)).bind fun v52 =>
 (guardV v41 false ((pickV v47 v52 (vb false)).bind fun v53 =>
 some v53)).bind fun v54 =>
 (pickV v41 (vb true) v54).bind fun v55 =>
 condV v55 (
 some (vi 3)) (
 some (vi 0)))) := by kernel_rfl
noncomputable def t_railref1_Rule (a0 : T_Rule) : Option Int :=
 (t_railref1_Header a0.Set).bind fun r4 =>
 (t_railref1_Header a0.Value).bind fun r7 =>
 if ((((((decide (a0.Prio < 0)) || (decide (99 < a0.Prio))) || (decide (a0.Out < 0))) || (decide (4 < a0.Out))) || (!r4)) || (!r7)) = true then (
 some 1) else (
 (t_railref1_Cube a0.Cube).bind fun r52 =>
 if (decide (r52 ≠ 0)) = true then (
 some r52) else (
 (t_railref1_Cube (T_Cube.mk a0.Set a0.Value)).bind fun r59 =>
 if ((decide (r59 ≠ 0)) || ((decide (a0.Out = 0)) && (decide (a0.Set ≠ 0)))) = true then (
 some 3) else (
 some 0)))
theorem ty_railref1_Rule {n : Nat} (hn : bigN ≤ n) (a0 : T_Rule) : Rv (fun x : Int => (vi x)) (sem_railref1_Rule n [(T_Rule.e a0)]) (t_railref1_Rule a0) := by
  rw [eq_railref1_Rule]
  unfold t_railref1_Rule
  refine tb (x := (T_Rule.c a0)) rfl ?_
  refine tb (x := (vi a0.Set)) (rfl) ?_
  refine tbo (ty_railref1_Header hn a0.Set) fun r4 => ?_
  refine tb (x := (vi a0.Value)) (rfl) ?_
  refine tbo (ty_railref1_Header hn a0.Value) fun r7 => ?_
  refine tb (x := (vi a0.Prio)) (rfl) ?_
  refine tb (x := (vb (decide (a0.Prio < 0)))) (d_lss) ?_
  refine tg_f (x := V.any) (fun h10 => rfl) ?_
  refine tg_f (x := (vi a0.Prio)) (fun h12 => bind_some_eq (gate_pos (not_t h12) (rfl))) ?_
  refine tg_f (x := (vb (decide (99 < a0.Prio)))) (fun h15 => by simp only [gv_t h15]; exact bind_some_eq (d_gtr)) ?_
  refine tb (x := (vb ((decide (a0.Prio < 0)) || (decide (99 < a0.Prio))))) (pick_or (fun h9 => gv_t (not_f h9))) ?_
  refine tg_f (x := V.any) (fun h19 => rfl) ?_
  refine tg_f (x := (vi a0.Out)) (fun h21 => bind_some_eq (gate_pos (not_t h21) (rfl))) ?_
  refine tg_f (x := (vb (decide (a0.Out < 0)))) (fun h24 => by simp only [gv_t h24]; exact bind_some_eq (d_lss)) ?_
  refine tb (x := (vb (((decide (a0.Prio < 0)) || (decide (99 < a0.Prio))) || (decide (a0.Out < 0))))) (pick_or (fun h9 => gv_t (not_f h9))) ?_
  refine tg_f (x := V.any) (fun h28 => rfl) ?_
  refine tg_f (x := (vi a0.Out)) (fun h30 => bind_some_eq (gate_pos (not_t h30) (rfl))) ?_
  refine tg_f (x := (vb (decide (4 < a0.Out)))) (fun h33 => by simp only [gv_t h33]; exact bind_some_eq (d_gtr)) ?_
  refine tb (x := (vb ((((decide (a0.Prio < 0)) || (decide (99 < a0.Prio))) || (decide (a0.Out < 0))) || (decide (4 < a0.Out))))) (pick_or (fun h9 => gv_t (not_f h9))) ?_
  refine tg_f (x := (vb r4)) (fun h37 => rfl) ?_
  refine tg_f (x := (vb (!r4))) (fun h39 => by simp only [gv_t h39]; exact bind_some_eq (d_not)) ?_
  refine tb (x := (vb (((((decide (a0.Prio < 0)) || (decide (99 < a0.Prio))) || (decide (a0.Out < 0))) || (decide (4 < a0.Out))) || (!r4)))) (pick_or (fun h9 => gv_t (not_f h9))) ?_
  refine tg_f (x := (vb r7)) (fun h43 => rfl) ?_
  refine tg_f (x := (vb (!r7))) (fun h45 => by simp only [gv_t h45]; exact bind_some_eq (d_not)) ?_
  refine tb (x := (vb ((((((decide (a0.Prio < 0)) || (decide (99 < a0.Prio))) || (decide (a0.Out < 0))) || (decide (4 < a0.Out))) || (!r4)) || (!r7)))) (pick_or (fun h9 => gv_t (not_f h9))) ?_
  refine tcond (fun h49 => ?_) (fun h49 => ?_)
  · exact rf_ret rfl
  · refine tb (x := (T_Cube.e a0.Cube)) (rfl) ?_
    refine tbo (ty_railref1_Cube hn a0.Cube) fun r52 => ?_
    refine tb (x := (vb (decide (r52 ≠ 0)))) (d_neq) ?_
    refine tcond (fun h54 => ?_) (fun h54 => ?_)
    · exact rf_ret rfl
    · refine tb (x := (vi a0.Set)) (rfl) ?_
      refine tb (x := (vi a0.Value)) (rfl) ?_
      refine tb (x := (T_Cube.e (T_Cube.mk a0.Set a0.Value))) (by kernel_rfl) ?_
      refine tbo (ty_railref1_Cube hn (T_Cube.mk a0.Set a0.Value)) fun r59 => ?_
      refine tb (x := (vb (decide (r59 ≠ 0)))) (d_neq) ?_
      refine tg_f (x := V.any) (fun h61 => rfl) ?_
      refine tg_f (x := (vi a0.Out)) (fun h63 => bind_some_eq (gate_pos (not_t h63) (rfl))) ?_
      refine tg_f (x := (vb (decide (a0.Out = 0)))) (fun h66 => by simp only [gv_t h66]; exact bind_some_eq (d_eql)) ?_
      refine tg_f (x := (vb (decide (a0.Out = 0)))) (fun h69 => congrArg some (gv_t h69)) ?_
      refine tg2 (x := V.any) (fun h71 => rfl) ?_
      refine tg2 (x := (vi a0.Set)) (fun h73 => bind_some_eq (gate_pos2 (and_l h73) (and_r h73) (rfl))) ?_
      refine tg2 (x := (vb (decide (a0.Set ≠ 0)))) (fun h76 => by simp only [gv_t h76]; exact bind_some_eq (d_neq)) ?_
      refine tg_f (x := (vb ((decide (a0.Out = 0)) && (decide (a0.Set ≠ 0))))) (fun h79 => by simp only [gv_t h79]; exact bind_some_eq (pick_and (fun h9 => gv_t (and_i h79 h9)))) ?_
      refine tb (x := (vb ((decide (r59 ≠ 0)) || ((decide (a0.Out = 0)) && (decide (a0.Set ≠ 0)))))) (pick_or (fun h9 => gv_t (not_f h9))) ?_
      refine tcond (fun h83 => ?_) (fun h83 => ?_)
      · exact rf_ret rfl
      · exact rf_ret rfl

/-! railpoint/railref2.Msg -/
def an_railref2_Msg : Ann := .seq (.reg 0 [] [] []) (.seq (.seq (.reg 0 [] [] []) (.cond none (.seq (.reg 0 [] [] []) (.no)) (.no))) (.seq (.seq (.reg 0 [] [] []) (.cond none (.seq (.seq (.reg 0 [] [] []) (.cond none (.seq (.reg 0 [] [] []) (.no)) (.no))) (.seq (.reg 0 [] [] []) (.no))) (.no))) (.seq (.reg 0 [] [] []) (.seq (.seq (.reg 0 [] [] []) (.cond none (.seq (.reg 0 [] [] []) (.no)) (.no))) (.seq (.seq (.reg 0 [] [] []) (.cond none (.seq (.reg 0 [] [] []) (.no)) (.no))) (.seq (.reg 0 [] [] []) (.no)))))))
noncomputable def sem_railref2_Msg (n : Nat) (xs : List V) : Option V := if xs.length ≤ 72 then denF Tryd.prog (envOf [(49, (sem_railref1_Rule n))]) n Tryd.f9 an_railref2_Msg xs else none
theorem ok_railref2_Msg (n : Nat) : SemOk Tryd.prog DW 9 (sem_railref2_Msg n) := fun xs y h => by
  unfold sem_railref2_Msg at h
  split at h
  · rename_i hl
    exact denF_ok stb Tryd.func9 (by kernel_rfl) (envOf_ok (semsOk_cons (ok_railref1_Rule n) semsOk_nil)) (by rw [Tryd.ntmps9]; exact hl) h
  · cases h
theorem eq_railref2_Msg (n : Nat) (x0 : V) : sem_railref2_Msg n [x0] =
 (V.cellsO x0).bind fun v1 =>
 (ldk none (List.drop 0 v1)).bind fun v2 =>
 (bin2 Tryd.prog BinOp.lss 3 (ot 5) (oc 1) v2 (vi 1)).bind fun v3 =>
 (guardV v3 false (some V.any)).bind fun v4 =>
 (guardV v3 false ((gate v3 false (ldk none (List.drop 0 v1))).bind fun v5 =>
 some v5)).bind fun v6 =>
 (guardV v3 false ((bin2 Tryd.prog BinOp.gtr 3 (ot 9) (oc 3) v6 (vi 3)).bind fun v7 =>
 some v7)).bind fun v8 =>
 (pickV v3 (vb true) v8).bind fun v9 =>
 (guardV v9 false (some V.any)).bind fun v10 =>
 (guardV v9 false ((gate v9 false (ldk none (List.drop 1 v1))).bind fun v11 =>
 some v11)).bind fun v12 =>
 (guardV v9 false ((bin2 Tryd.prog BinOp.lss 3 (ot 14) (oc 1) v12 (vi 1)).bind fun v13 =>
 some v13)).bind fun v14 =>
 (pickV v9 (vb true) v14).bind fun v15 =>
 (guardV v15 false (some V.any)).bind fun v16 =>
 (guardV v15 false ((gate v15 false (ldk none (List.drop 1 v1))).bind fun v17 =>
 some v17)).bind fun v18 =>
 (guardV v15 false ((bin2 Tryd.prog BinOp.gtr 3 (ot 19) (oc 6) v18 (vi 6)).bind fun v19 =>
 some v19)).bind fun v20 =>
 (pickV v15 (vb true) v20).bind fun v21 =>
 (guardV v21 false (some V.any)).bind fun v22 =>
 (guardV v21 false ((gate v21 false (ldk none (List.drop 2 v1))).bind fun v23 =>
 some v23)).bind fun v24 =>
 (guardV v21 false ((bin2 Tryd.prog BinOp.lss 3 (ot 24) (oc 0) v24 (vi 0)).bind fun v25 =>
 some v25)).bind fun v26 =>
 (pickV v21 (vb true) v26).bind fun v27 =>
 (guardV v27 false (some V.any)).bind fun v28 =>
 (guardV v27 false ((gate v27 false (ldk none (List.drop 2 v1))).bind fun v29 =>
 some v29)).bind fun v30 =>
 (guardV v27 false ((bin2 Tryd.prog BinOp.gtr 3 (ot 29) (oc 19) v30 (vi 19)).bind fun v31 =>
 some v31)).bind fun v32 =>
 (pickV v27 (vb true) v32).bind fun v33 =>
 (guardV v33 false (some V.any)).bind fun v34 =>
 (guardV v33 false ((gate v33 false (ldk none (List.drop 3 v1))).bind fun v35 =>
 some v35)).bind fun v36 =>
 (guardV v33 false ((bin2 Tryd.prog BinOp.lss 3 (ot 34) (oc 0) v36 (vi 0)).bind fun v37 =>
 some v37)).bind fun v38 =>
 (pickV v33 (vb true) v38).bind fun v39 =>
 (guardV v39 false (some V.any)).bind fun v40 =>
 (guardV v39 false ((gate v39 false (ldk none (List.drop 3 v1))).bind fun v41 =>
 some v41)).bind fun v42 =>
 (guardV v39 false ((bin2 Tryd.prog BinOp.gtr 3 (ot 39) (oc 200) v42 (vi 200)).bind fun v43 =>
 some v43)).bind fun v44 =>
 (pickV v39 (vb true) v44).bind fun v45 =>
 condV v45 (
 some (vi 1)) (
 (ldk none (List.drop 0 v1)).bind fun v46 =>
 (bin2 Tryd.prog BinOp.neq 3 (ot 43) (oc 1) v46 (vi 1)).bind fun v47 =>
 condV v47 (
 (ldk (some 8) (List.drop 4 v1)).bind fun v48 =>
 ((fillL [(vi 0), (vb false), (vi 0), (vi 0), (vi 0), (vi 0), (vi 0), (vi 0)] []).map V.agg).bind fun v49 =>
 (bin2 Tryd.prog BinOp.neq 27 (ot 46) (ot 47) v48 v49).bind fun v50 =>
 (guardV v50 false (some V.any)).bind fun v51 =>
 (guardV v50 false ((gate v50 false (ldk none (List.drop 0 v1))).bind fun v52 =>
 some v52)).bind fun v53 =>
 (guardV v50 false ((bin2 Tryd.prog BinOp.eql 3 (ot 51) (oc 3) v53 (vi 3)).bind fun v54 =>
 some v54)).bind fun v55 =>
 (guardV v50 false (some v55)).bind fun v56 =>
 (guardV v56 true (some V.any)).bind fun v57 =>
 (guardV v56 true ((gate v56 true (ldk none (List.drop 3 v1))).bind fun v58 =>
 some v58)).bind fun v59 =>
 (guardV v56 true ((bin2 Tryd.prog BinOp.neq 3 (ot 55) (oc 0) v59 (vi 0)).bind fun v60 =>
 some v60)).bind fun v61 =>
 (guardV v50 false ((pickV v56 v61 (vb false)).bind fun v62 =>
 some v62)).bind fun v63 =>
 (pickV v50 (vb true) v63).bind fun v64 =>
 condV v64 (
 some (vi 3)) (
 some (vi 0))) (
 (ldk (some 6) (List.drop 6 v1)).bind fun v65 =>
 ((sem_railref1_Rule n) [v65]).bind fun v66 =>
 (bin2 Tryd.prog BinOp.neq 3 (ot 63) (oc 0) v66 (vi 0)).bind fun v67 =>
 condV v67 (
 some v66) (
 (ldk none (List.drop 4 v1)).bind fun v68 =>
 (ldk none (List.drop 1 v1)).bind fun v69 =>
 (bin2 Tryd.prog BinOp.neq 3 (ot 68) (ot 70) v68 v69).bind fun v70 =>
 condV v70 (
 some (vi 3)) (
 some (vi 0))))) := by kernel_rfl
noncomputable def t_railref2_Msg (a0 : T_Msg) : Option Int :=
 (some ((((((decide (a0.Kind < 1)) || (decide (3 < a0.Kind))) || (decide (a0.Switch < 1))) || (decide (6 < a0.Switch))) || (decide (a0.Round < 0))) || (decide (19 < a0.Round)))).bind fun r49 =>
 if ((r49 || (decide (a0.Index < 0))) || (decide (200 < a0.Index))) = true then (
 some 1) else (
 if (decide (a0.Kind ≠ 1)) = true then (
 if ((!decide (a0.Op = (T_Op.mk 0 false (T_Rule.mk 0 (T_Cube.mk 0 0) 0 0 0)))) || ((decide (a0.Kind = 3)) && (decide (a0.Index ≠ 0)))) = true then (
 some 3) else (
 some 0)) else (
 (t_railref1_Rule a0.Op.Rule).bind fun r100 =>
 if (decide (r100 ≠ 0)) = true then (
 some r100) else (
 if (decide (a0.Op.Switch ≠ a0.Switch)) = true then (
 some 3) else (
 some 0))))
theorem ty_railref2_Msg {n : Nat} (hn : bigN ≤ n) (a0 : T_Msg) : Rv (fun x : Int => (vi x)) (sem_railref2_Msg n [(T_Msg.e a0)]) (t_railref2_Msg a0) := by
  rw [eq_railref2_Msg]
  unfold t_railref2_Msg
  refine tb (x := (T_Msg.c a0)) rfl ?_
  refine tb (x := (vi a0.Kind)) (rfl) ?_
  refine tb (x := (vb (decide (a0.Kind < 1)))) (d_lss) ?_
  refine tg_f (x := V.any) (fun h4 => rfl) ?_
  refine tg_f (x := (vi a0.Kind)) (fun h6 => bind_some_eq (gate_pos (not_t h6) (rfl))) ?_
  refine tg_f (x := (vb (decide (3 < a0.Kind)))) (fun h9 => by simp only [gv_t h9]; exact bind_some_eq (d_gtr)) ?_
  refine tb (x := (vb ((decide (a0.Kind < 1)) || (decide (3 < a0.Kind))))) (pick_or (fun h9 => gv_t (not_f h9))) ?_
  refine tg_f (x := V.any) (fun h13 => rfl) ?_
  refine tg_f (x := (vi a0.Switch)) (fun h15 => bind_some_eq (gate_pos (not_t h15) (rfl))) ?_
  refine tg_f (x := (vb (decide (a0.Switch < 1)))) (fun h18 => by simp only [gv_t h18]; exact bind_some_eq (d_lss)) ?_
  refine tb (x := (vb (((decide (a0.Kind < 1)) || (decide (3 < a0.Kind))) || (decide (a0.Switch < 1))))) (pick_or (fun h9 => gv_t (not_f h9))) ?_
  refine tg_f (x := V.any) (fun h22 => rfl) ?_
  refine tg_f (x := (vi a0.Switch)) (fun h24 => bind_some_eq (gate_pos (not_t h24) (rfl))) ?_
  refine tg_f (x := (vb (decide (6 < a0.Switch)))) (fun h27 => by simp only [gv_t h27]; exact bind_some_eq (d_gtr)) ?_
  refine tb (x := (vb ((((decide (a0.Kind < 1)) || (decide (3 < a0.Kind))) || (decide (a0.Switch < 1))) || (decide (6 < a0.Switch))))) (pick_or (fun h9 => gv_t (not_f h9))) ?_
  refine tg_f (x := V.any) (fun h31 => rfl) ?_
  refine tg_f (x := (vi a0.Round)) (fun h33 => bind_some_eq (gate_pos (not_t h33) (rfl))) ?_
  refine tg_f (x := (vb (decide (a0.Round < 0)))) (fun h36 => by simp only [gv_t h36]; exact bind_some_eq (d_lss)) ?_
  refine tb (x := (vb (((((decide (a0.Kind < 1)) || (decide (3 < a0.Kind))) || (decide (a0.Switch < 1))) || (decide (6 < a0.Switch))) || (decide (a0.Round < 0))))) (pick_or (fun h9 => gv_t (not_f h9))) ?_
  refine tg_f (x := V.any) (fun h40 => rfl) ?_
  refine tg_f (x := (vi a0.Round)) (fun h42 => bind_some_eq (gate_pos (not_t h42) (rfl))) ?_
  refine tg_f (x := (vb (decide (19 < a0.Round)))) (fun h45 => by simp only [gv_t h45]; exact bind_some_eq (d_gtr)) ?_
  refine tbo (e1 := fun x : Bool => (vb x)) (rf_eq (pick_or (fun h9 => gv_t (not_f h9))) rfl) fun r49 => ?_
  refine tg_f (x := V.any) (fun h50 => rfl) ?_
  refine tg_f (x := (vi a0.Index)) (fun h52 => bind_some_eq (gate_pos (not_t h52) (rfl))) ?_
  refine tg_f (x := (vb (decide (a0.Index < 0)))) (fun h55 => by simp only [gv_t h55]; exact bind_some_eq (d_lss)) ?_
  refine tb (x := (vb (r49 || (decide (a0.Index < 0))))) (pick_or (fun h9 => gv_t (not_f h9))) ?_
  refine tg_f (x := V.any) (fun h59 => rfl) ?_
  refine tg_f (x := (vi a0.Index)) (fun h61 => bind_some_eq (gate_pos (not_t h61) (rfl))) ?_
  refine tg_f (x := (vb (decide (200 < a0.Index)))) (fun h64 => by simp only [gv_t h64]; exact bind_some_eq (d_gtr)) ?_
  refine tb (x := (vb ((r49 || (decide (a0.Index < 0))) || (decide (200 < a0.Index))))) (pick_or (fun h9 => gv_t (not_f h9))) ?_
  refine tcond (fun h68 => ?_) (fun h68 => ?_)
  · exact rf_ret rfl
  · refine tb (x := (vi a0.Kind)) (rfl) ?_
    refine tb (x := (vb (decide (a0.Kind ≠ 1)))) (d_neq) ?_
    refine tcond (fun h71 => ?_) (fun h71 => ?_)
    · refine tb (x := (T_Op.e a0.Op)) (rfl) ?_
      refine tb (x := (T_Op.e (T_Op.mk 0 false (T_Rule.mk 0 (T_Cube.mk 0 0) 0 0 0)))) (by kernel_rfl) ?_
      refine tb (x := (vb (!decide (a0.Op = (T_Op.mk 0 false (T_Rule.mk 0 (T_Cube.mk 0 0) 0 0 0)))))) (T_Op.neq a0.Op (T_Op.mk 0 false (T_Rule.mk 0 (T_Cube.mk 0 0) 0 0 0))) ?_
      refine tg_f (x := V.any) (fun h75 => rfl) ?_
      refine tg_f (x := (vi a0.Kind)) (fun h77 => bind_some_eq (gate_pos (not_t h77) (rfl))) ?_
      refine tg_f (x := (vb (decide (a0.Kind = 3)))) (fun h80 => by simp only [gv_t h80]; exact bind_some_eq (d_eql)) ?_
      refine tg_f (x := (vb (decide (a0.Kind = 3)))) (fun h83 => congrArg some (gv_t h83)) ?_
      refine tg2 (x := V.any) (fun h85 => rfl) ?_
      refine tg2 (x := (vi a0.Index)) (fun h87 => bind_some_eq (gate_pos2 (and_l h87) (and_r h87) (rfl))) ?_
      refine tg2 (x := (vb (decide (a0.Index ≠ 0)))) (fun h90 => by simp only [gv_t h90]; exact bind_some_eq (d_neq)) ?_
      refine tg_f (x := (vb ((decide (a0.Kind = 3)) && (decide (a0.Index ≠ 0))))) (fun h93 => by simp only [gv_t h93]; exact bind_some_eq (pick_and (fun h9 => gv_t (and_i h93 h9)))) ?_
      refine tb (x := (vb ((!decide (a0.Op = (T_Op.mk 0 false (T_Rule.mk 0 (T_Cube.mk 0 0) 0 0 0)))) || ((decide (a0.Kind = 3)) && (decide (a0.Index ≠ 0)))))) (pick_or (fun h9 => gv_t (not_f h9))) ?_
      refine tcond (fun h97 => ?_) (fun h97 => ?_)
      · exact rf_ret rfl
      · exact rf_ret rfl
    · refine tb (x := (T_Rule.e a0.Op.Rule)) (rfl) ?_
      refine tbo (ty_railref1_Rule hn a0.Op.Rule) fun r100 => ?_
      refine tb (x := (vb (decide (r100 ≠ 0)))) (d_neq) ?_
      refine tcond (fun h102 => ?_) (fun h102 => ?_)
      · exact rf_ret rfl
      · refine tb (x := (vi a0.Op.Switch)) (rfl) ?_
        refine tb (x := (vi a0.Switch)) (rfl) ?_
        refine tb (x := (vb (decide (a0.Op.Switch ≠ a0.Switch)))) (d_neq) ?_
        refine tcond (fun h106 => ?_) (fun h106 => ?_)
        · exact rf_ret rfl
        · exact rf_ret rfl

/-! railpoint/railref2.Bytes -/
def an_railref2_Bytes : Ann := .seq (.reg 0 [] [] []) (.seq (.reg 0 [] [] [18]) (.seq (.seq (.reg 0 [] [] []) (.cond (some [.s 3]) (.seq (.reg 0 [] [] []) (.seq (.seq (.reg 0 [] [] []) (.cond (some [.kb 1, .r 3 3, .s 4]) (.reg 0 [] [] []) (.no))) (.seq (.reg 0 [] [] []) (.seq (.reg 0 [] [] []) (.reg 0 [] [] []))))) (.no))) (.seq (.reg 0 [] [] []) (.seq (.reg 0 [] [] []) (.seq (.seq (.reg 0 [] [] []) (.blk (some [.r 7 5, .s 8]) (.loop [.s 3, .r 7 5, .s 8, .s 9] (.seq (.seq (.reg 0 [] [] []) (.cond none (.no) (.no))) (.seq (.blk none (.seq (.reg 0 [] [] []) (.reg 0 [] [] []))) (.reg 0 [] [] [])))))) (.seq (.reg 0 [] [] []) (.seq (.reg 0 [] [] []) (.no))))))))
noncomputable def sem_railref2_Bytes (n : Nat) (xs : List V) : Option V := if xs.length ≤ 75 then denF Tryd.prog (envOf []) n Tryd.f10 an_railref2_Bytes xs else none
theorem ok_railref2_Bytes (n : Nat) : SemOk Tryd.prog DW 10 (sem_railref2_Bytes n) := fun xs y h => by
  unfold sem_railref2_Bytes at h
  split at h
  · rename_i hl
    exact denF_ok stb Tryd.func10 (by kernel_rfl) (envOf_ok semsOk_nil) (by rw [Tryd.ntmps10]; exact hl) h
  · cases h
theorem eq_railref2_Bytes (n : Nat) (x0 : V) : sem_railref2_Bytes n [x0] =
 (V.cellsO x0).bind fun v1 =>
 (ldk none (List.drop 0 v1)).bind fun v2 =>
 (ldk none (List.drop 1 v1)).bind fun v3 =>
 (ldk none (List.drop 2 v1)).bind fun v4 =>
 (ldk none (List.drop 3 v1)).bind fun v5 =>
 (slcB 1 4 [(vi 0)] [(0, v2), (1, v3), (2, v4), (3, v5)]).bind fun v6 =>
 (ldk none (List.drop 0 v1)).bind fun v7 =>
 (bin2 Tryd.prog BinOp.eql 3 (ot 20) (oc 1) v7 (vi 1)).bind fun v8 =>
 JoinPt (fun vs9 =>
 JoinPt (fun vs11 =>
 (bin2 Tryd.prog BinOp.rem 3 (ot 68) (oc 251) (List.getD vs11 1 V.any) (vi 251)).bind fun v13 =>
 (scal1 Tryd.prog (convert 3 5) v13).bind fun v14 =>
 (slcB 1 1 [(V.lit (Go.Value.int Go.IntKind.u8 0))] [(0, v14)]).bind fun v15 =>
 (appV 1 (slL (List.getD vs11 0 V.any)) v15).bind fun v16 =>
 (b2s (V.sl (slL v16))).bind fun v17 =>
 some v17) fun J12 =>
 (fixN (fun rec18 vs19 =>
 (lenS [(List.getD vs19 0 V.any)]).bind fun v20 =>
 (bin2 Tryd.prog BinOp.lss 3 (ot 47) (ot 49) (List.getD vs19 3 V.any) v20).bind fun v21 =>
 condV v21 (
 (idxS 1 (List.getD vs19 0 V.any) (List.getD vs19 3 V.any)).bind fun v22 =>
 (ldp none v22).bind fun v23 =>
 (scal1 Tryd.prog (convert 3 5) v23).bind fun v24 =>
 (slcB 1 1 [(V.lit (Go.Value.int Go.IntKind.u8 0))] [(0, v24)]).bind fun v25 =>
 (appV 1 (slL (List.getD vs19 1 V.any)) v25).bind fun v26 =>
 (idxS 1 (List.getD vs19 0 V.any) (List.getD vs19 3 V.any)).bind fun v27 =>
 (ldp none v27).bind fun v28 =>
 (bin2 Tryd.prog BinOp.add 3 (ot 61) (ot 65) (List.getD vs19 2 V.any) v28).bind fun v29 =>
 (bin2 Tryd.prog BinOp.add 3 (ot 51) (oc 1) (List.getD vs19 3 V.any) (vi 1)).bind fun v30 =>
 rec18 [(List.getD vs19 0 V.any), (V.sl (slL v26)), v29, v30]) (
 J12 [(V.sl (slL (List.getD vs19 1 V.any))), (List.getD vs19 2 V.any)])) n) [(List.getD vs9 0 V.any), (V.sl []), (vi 0), (vi 0)]) fun J10 =>
 condV v8 (
 (ldk none (List.drop 5 v1)).bind fun v31 =>
 JoinPt (fun vs32 =>
 (ldk (some 6) (List.drop 6 v1)).bind fun v34 =>
 (spliceV [(vi 0), (vi 0), (vi 0), (vi 0), (vi 0), (vi 0)] 0 6 v34).bind fun v35 =>
 (ldk none (List.drop 0 (aggL v35))).bind fun v36 =>
 (ldk none (List.drop 1 (aggL v35))).bind fun v37 =>
 (ldk none (List.drop 2 (aggL v35))).bind fun v38 =>
 (ldk none (List.drop 3 (aggL v35))).bind fun v39 =>
 (ldk none (List.drop 4 (aggL v35))).bind fun v40 =>
 (ldk none (List.drop 5 (aggL v35))).bind fun v41 =>
 (slcB 1 7 [(vi 0)] [(0, (List.getD vs32 1 V.any)), (1, v36), (2, v37), (3, v38), (4, v39), (5, v40), (6, v41)]).bind fun v42 =>
 (appV 1 (slL (List.getD vs32 0 V.any)) v42).bind fun v43 =>
 J10 [(V.sl (slL v43))]) fun J33 =>
 condV v31 (
 (keepO (some v1) (some v1) (some [(V.sl (slL v6)), (vi 1)])).bind J33) (
 (keepO (some v1) (some v1) (some [(V.sl (slL v6)), (vi 0)])).bind J33)) (
 J10 [(V.sl (slL v6))]) := by kernel_rfl
noncomputable def t_railref2_Bytes (a0 : T_Msg) : Option ByteArray :=
 (if (decide (a0.Kind = 1)) = true then (
 (if a0.Op.Add = true then (
 some (([a0.Kind, a0.Switch, a0.Round, a0.Index] : (List Int)), 1)) else (
 some (([a0.Kind, a0.Switch, a0.Round, a0.Index] : (List Int)), 0))).bind fun (s56 : ((List Int) × Int)) =>
 (app s56.1 ([s56.2, a0.Op.Rule.Prio, a0.Op.Rule.Cube.Mask, a0.Op.Rule.Cube.Bits, a0.Op.Rule.Out, a0.Op.Rule.Set, a0.Op.Rule.Value] : (List Int))).bind fun r69 =>
 some (r69)) else (
 some ([a0.Kind, a0.Switch, a0.Round, a0.Index] : (List Int)))).bind fun (s11 : (List Int)) =>
 (loopI s11 (fun (i31 : Int) x32 (s27 : ((List Int) × Int)) k28 =>
 (app s27.1 ([(IntKind.u8.wrap x32)] : (List Int))).bind fun r43 =>
 k28 (r43, (wr (s27.2 + x32)))) (fun (s27 : ((List Int) × Int)) =>
 some (s27.1, s27.2)) ([], 0)).bind fun (s16 : ((List Int) × Int)) =>
 (app s16.1 ([(IntKind.u8.wrap (Int.tmod s16.2 251))] : (List Int))).bind fun r23 =>
 some (strOfNums r23)
theorem ty_railref2_Bytes {n : Nat} (hn : bigN ≤ n) (a0 : T_Msg) : Rv (fun x : ByteArray => (vt x)) (sem_railref2_Bytes n [(T_Msg.e a0)]) (t_railref2_Bytes a0) := by
  rw [eq_railref2_Bytes]
  unfold t_railref2_Bytes
  refine tb (x := (T_Msg.c a0)) rfl ?_
  refine tb (x := (vi a0.Kind)) (rfl) ?_
  refine tb (x := (vi a0.Switch)) (rfl) ?_
  refine tb (x := (vi a0.Round)) (rfl) ?_
  refine tb (x := (vi a0.Index)) (rfl) ?_
  refine tb (x := (V.sl (List.map cI ([a0.Kind, a0.Switch, a0.Round, a0.Index] : (List Int))))) (by kernel_rfl) ?_
  refine tb (x := (vi a0.Kind)) (rfl) ?_
  refine tb (x := (vb (decide (a0.Kind = 1)))) (d_eql) ?_
  refine tjb (mk := fun s11 : (List Int) => [(V.sl (List.map cI s11))]) (fun J10 => ?_) fun s11 => ?_
  · refine tcond (fun h52 => ?_) (fun h52 => ?_)
    · refine tb (x := (vb a0.Op.Add)) (rfl) ?_
      refine tjb (mk := fun s56 : ((List Int) × Int) => [(V.sl (List.map cI s56.1)), (vi s56.2)]) (fun J55 => ?_) fun s56 => ?_
      · refine tcond (fun h70 => ?_) (fun h70 => ?_)
        · refine tkeepO2 ?_ rfl
          refine tsome ?_
          exact rf_j rfl
        · refine tkeepO2 ?_ rfl
          refine tsome ?_
          exact rf_j rfl
      · refine tb (x := (T_Rule.e a0.Op.Rule)) (rfl) ?_
        refine tb (x := V.agg (T_Rule.c a0.Op.Rule)) (by kernel_rfl) ?_
        refine tb (x := (vi a0.Op.Rule.Prio)) (rfl) ?_
        refine tb (x := (vi a0.Op.Rule.Cube.Mask)) (rfl) ?_
        refine tb (x := (vi a0.Op.Rule.Cube.Bits)) (rfl) ?_
        refine tb (x := (vi a0.Op.Rule.Out)) (rfl) ?_
        refine tb (x := (vi a0.Op.Rule.Set)) (rfl) ?_
        refine tb (x := (vi a0.Op.Rule.Value)) (rfl) ?_
        refine tb (x := (V.sl (List.map cI ([s56.2, a0.Op.Rule.Prio, a0.Op.Rule.Cube.Mask, a0.Op.Rule.Cube.Bits, a0.Op.Rule.Out, a0.Op.Rule.Set, a0.Op.Rule.Value] : (List Int))))) (by kernel_rfl) ?_
        refine tbo (p_app (c := cI) (fun _ => rfl) s56.1 ([s56.2, a0.Op.Rule.Prio, a0.Op.Rule.Cube.Mask, a0.Op.Rule.Cube.Bits, a0.Op.Rule.Out, a0.Op.Rule.Set, a0.Op.Rule.Value] : (List Int))) fun r69 => ?_
        exact rf_j rfl
    · exact rf_j rfl
  · refine tjb (mk := fun s16 : ((List Int) × Int) => [(V.sl (List.map cY s16.1)), (vi s16.2)]) (fun J15 => ?_) fun s16 => ?_
    · refine rf_loopI (mk := fun (i31 : Int) (s27 : ((List Int) × Int)) => [(V.sl (List.map cI s11)), (V.sl (List.map cY s27.1)), (vi s27.2), (vi (i31 : Int))]) hn s11 ([], 0) (fun i31 x32 h33 h34 h35 s27 rec25 k28 h29 => ?_) (fun s27 rec49 h48 => ?_)
      · refine tb (x := (vi (List.length s11 : Int))) (p_len _) ?_
        refine tb (x := (vb (decide ((i31 : Int) < (List.length s11 : Int))))) (d_lss) ?_
        refine tcond_t h35 ?_
        refine tb (x := (V.ptr [(vi x32)])) (p_idx_at (c := cI) (fun _ => rfl) h33) ?_
        refine tb (x := (vi x32)) (rfl) ?_
        refine tb (x := (V.lit (.int .u8 (IntKind.u8.wrap x32)))) (scal1_lit (r := .int .u8 (IntKind.u8.wrap x32)) rfl (fun w => by kernel_rfl) rfl) ?_
        refine tb (x := (V.sl (List.map cY ([(IntKind.u8.wrap x32)] : (List Int))))) (by kernel_rfl) ?_
        refine tbo (p_app (c := cY) (fun _ => rfl) s27.1 ([(IntKind.u8.wrap x32)] : (List Int))) fun r43 => ?_
        refine tb (x := (V.ptr [(vi x32)])) (p_idx_at (c := cI) (fun _ => rfl) h33) ?_
        refine tb (x := (vi x32)) (rfl) ?_
        refine tb (x := (vi (wr (s27.2 + x32)))) (d_add) ?_
        refine tb (x := (vi ((i31 : Int) + 1))) (p_incN h34) ?_
        exact h29 (r43, (wr (s27.2 + x32)))
      · refine tb (x := (vi (List.length s11 : Int))) (p_len _) ?_
        refine tb (x := (vb (decide ((List.length s11 : Int) < (List.length s11 : Int))))) (d_lss) ?_
        refine tcond_f h48 ?_
        exact rf_j rfl
    · refine tb (x := (vi (Int.tmod s16.2 251))) (p_rem (by decide)) ?_
      refine tb (x := (V.lit (.int .u8 (IntKind.u8.wrap (Int.tmod s16.2 251))))) (scal1_lit (r := .int .u8 (IntKind.u8.wrap (Int.tmod s16.2 251))) rfl (fun w => by kernel_rfl) rfl) ?_
      refine tb (x := (V.sl (List.map cY ([(IntKind.u8.wrap (Int.tmod s16.2 251))] : (List Int))))) (by kernel_rfl) ?_
      refine tbo (p_app (c := cY) (fun _ => rfl) s16.1 ([(IntKind.u8.wrap (Int.tmod s16.2 251))] : (List Int))) fun r23 => ?_
      refine tb (x := (vt (strOfNums r23))) (p_b2s) ?_
      exact rf_ret rfl

/-! railpoint/cube.Header -/
def an_cube_Header : Ann := .seq (.reg 0 [] [] []) (.seq (.reg 0 [] [] []) (.no))
noncomputable def sem_cube_Header (n : Nat) (xs : List V) : Option V := if xs.length ≤ 9 then denF Tryd.prog (envOf []) n Tryd.f72 an_cube_Header xs else none
theorem ok_cube_Header (n : Nat) : SemOk Tryd.prog DW 72 (sem_cube_Header n) := fun xs y h => by
  unfold sem_cube_Header at h
  split at h
  · rename_i hl
    exact denF_ok stb Tryd.func72 (by kernel_rfl) (envOf_ok semsOk_nil) (by rw [Tryd.ntmps72]; exact hl) h
  · cases h
theorem eq_cube_Header (n : Nat) (x0 : V) : sem_cube_Header n [x0] =
 (bin2 Tryd.prog BinOp.geq 3 (ot 3) (oc 0) x0 (vi 0)).bind fun v1 =>
 (guardV v1 true (some x0)).bind fun v2 =>
 (guardV v1 true ((bin2 Tryd.prog BinOp.lss 3 (ot 6) (oc 16) v2 (vi 16)).bind fun v3 =>
 some v3)).bind fun v4 =>
 (pickV v1 v4 (vb false)).bind fun v5 =>
 some v5 := by kernel_rfl
noncomputable def t_cube_Header (a0 : Int) : Option Bool :=
 some ((decide (0 ≤ a0)) && (decide (a0 < 16)))
theorem ty_cube_Header {n : Nat} (hn : bigN ≤ n) (a0 : Int) : Rv (fun x : Bool => (vb x)) (sem_cube_Header n [(vi a0)]) (t_cube_Header a0) := by
  rw [eq_cube_Header]
  unfold t_cube_Header
  refine tb (x := (vb (decide (0 ≤ a0)))) (d_geq) ?_
  refine tg (x := (vi a0)) (fun h2 => rfl) ?_
  refine tg (x := (vb (decide (a0 < 16)))) (fun h4 => by simp only [gv_t h4]; exact bind_some_eq (d_lss)) ?_
  refine tb (x := (vb ((decide (0 ≤ a0)) && (decide (a0 < 16))))) (pick_and (fun h9 => gv_t h9)) ?_
  exact rf_ret rfl

/-! railpoint/cube.Check -/
def an_cube_Check : Ann := .seq (.reg 0 [] [] []) (.seq (.blk none (.seq (.reg 0 [] [] []) (.cond none (.seq (.reg 0 [] [] []) (.no)) (.seq (.reg 0 [] [] []) (.cond none (.seq (.reg 0 [] [] []) (.no)) (.no)))))) (.seq (.reg 0 [] [] []) (.no)))
noncomputable def sem_cube_Check (n : Nat) (xs : List V) : Option V := if xs.length ≤ 23 then denF Tryd.prog (envOf [(72, (sem_cube_Header n))]) n Tryd.f19 an_cube_Check xs else none
theorem ok_cube_Check (n : Nat) : SemOk Tryd.prog DW 19 (sem_cube_Check n) := fun xs y h => by
  unfold sem_cube_Check at h
  split at h
  · rename_i hl
    exact denF_ok stb Tryd.func19 (by kernel_rfl) (envOf_ok (semsOk_cons (ok_cube_Header n) semsOk_nil)) (by rw [Tryd.ntmps19]; exact hl) h
  · cases h
theorem eq_cube_Check (n : Nat) (x0 : V) : sem_cube_Check n [x0] =
 (V.cellsO x0).bind fun v1 =>
 (ldk none (List.drop 0 v1)).bind fun v2 =>
 ((sem_cube_Header n) [v2]).bind fun v3 =>
 (scal1 Tryd.prog (Op.unary Go.UnOp.not) v3).bind fun v4 =>
 (guardV v4 false (some V.any)).bind fun v5 =>
 (guardV v4 false ((gate v4 false (ldk none (List.drop 1 v1))).bind fun v6 =>
 some v6)).bind fun v7 =>
 (guardV v4 false (((sem_cube_Header n) [v7]).bind fun v8 =>
 some v8)).bind fun v9 =>
 (guardV v4 false ((scal1 Tryd.prog (Op.unary Go.UnOp.not) v9).bind fun v10 =>
 some v10)).bind fun v11 =>
 (pickV v4 (vb true) v11).bind fun v12 =>
 condV v12 (
 (scal1 Tryd.prog (Instr.makeInterface 119) (vi 1)).bind fun v13 =>
 some v13) (
 (ldk none (List.drop 1 v1)).bind fun v14 =>
 (ldk none (List.drop 0 v1)).bind fun v15 =>
 (bin2 Tryd.prog BinOp.andNot 3 (ot 17) (ot 19) v14 v15).bind fun v16 =>
 (bin2 Tryd.prog BinOp.neq 3 (ot 20) (oc 0) v16 (vi 0)).bind fun v17 =>
 condV v17 (
 (scal1 Tryd.prog (Instr.makeInterface 119) (vi 3)).bind fun v18 =>
 some v18) (
 some vn)) := by kernel_rfl
noncomputable def t_cube_Check (a0 : T_Cube) : Option Int :=
 (t_cube_Header a0.Mask).bind fun r4 =>
 (gd (!(!r4)) default (t_cube_Header a0.Bits)).bind fun r14 =>
 if ((!r4) || (!r14)) = true then (
 some 1) else (
 if (decide ((bits .andNot .i64 a0.Bits a0.Mask) ≠ 0)) = true then (
 some 3) else (
 some 0))
theorem ty_cube_Check {n : Nat} (hn : bigN ≤ n) (a0 : T_Cube) : Rv (fun x : Int => (eV x)) (sem_cube_Check n [(T_Cube.e a0)]) (t_cube_Check a0) := by
  rw [eq_cube_Check]
  unfold t_cube_Check
  refine tb (x := (T_Cube.c a0)) rfl ?_
  refine tb (x := (vi a0.Mask)) (rfl) ?_
  refine tbo (ty_cube_Header hn a0.Mask) fun r4 => ?_
  refine tb (x := (vb (!r4))) (d_not) ?_
  refine tg_f (x := V.any) (fun h6 => rfl) ?_
  refine tg_f (x := (vi a0.Bits)) (fun h8 => bind_some_eq (gate_pos (not_t h8) (rfl))) ?_
  refine tgo_f (fun h11 => by simp only [gv_t h11]; exact rf_bind_some (ty_cube_Header hn a0.Bits)) fun r14 => ?_
  refine tg_f (x := (vb (!r14))) (fun h15 => by simp only [gv_t h15]; exact bind_some_eq (d_not)) ?_
  refine tb (x := (vb ((!r4) || (!r14)))) (pick_or (fun h9 => gv_t (not_f h9))) ?_
  refine tcond (fun h19 => ?_) (fun h19 => ?_)
  · refine tb (x := (eV 1)) (p_mkE (by decide)) ?_
    exact rf_ret rfl
  · refine tb (x := (vi a0.Bits)) (rfl) ?_
    refine tb (x := (vi a0.Mask)) (rfl) ?_
    refine tb (x := (vi (bits .andNot .i64 a0.Bits a0.Mask))) (d_andNot) ?_
    refine tb (x := (vb (decide ((bits .andNot .i64 a0.Bits a0.Mask) ≠ 0)))) (d_neq) ?_
    refine tcond (fun h25 => ?_) (fun h25 => ?_)
    · refine tb (x := (eV 3)) (p_mkE (by decide)) ?_
      exact rf_ret rfl
    · exact rf_ret rfl

/-! railpoint/rule.Check -/
def an_rule_Check : Ann := .seq (.reg 0 [] [] []) (.seq (.seq (.reg 0 [] [] []) (.cond none (.seq (.reg 0 [] [] []) (.no)) (.no))) (.seq (.seq (.reg 0 [] [] []) (.seq (.reg 0 [] [] []) (.cond none (.seq (.reg 0 [] [] []) (.no)) (.no)))) (.seq (.seq (.reg 0 [] [] []) (.cond none (.seq (.reg 0 [] [] []) (.no)) (.no))) (.seq (.reg 0 [] [] []) (.no)))))
noncomputable def sem_rule_Check (n : Nat) (xs : List V) : Option V := if xs.length ≤ 58 then denF Tryd.prog (envOf [(72, (sem_cube_Header n)), (19, (sem_cube_Check n))]) n Tryd.f84 an_rule_Check xs else none
theorem ok_rule_Check (n : Nat) : SemOk Tryd.prog DW 84 (sem_rule_Check n) := fun xs y h => by
  unfold sem_rule_Check at h
  split at h
  · rename_i hl
    exact denF_ok stb Tryd.func84 (by kernel_rfl) (envOf_ok (semsOk_cons (ok_cube_Header n) (semsOk_cons (ok_cube_Check n) semsOk_nil))) (by rw [Tryd.ntmps84]; exact hl) h
  · cases h
theorem eq_rule_Check (n : Nat) (x0 : V) : sem_rule_Check n [x0] =
 (V.cellsO x0).bind fun v1 =>
 (ldk none (List.drop 0 v1)).bind fun v2 =>
 (bin2 Tryd.prog BinOp.lss 3 (ot 5) (oc 0) v2 (vi 0)).bind fun v3 =>
 (guardV v3 false (some V.any)).bind fun v4 =>
 (guardV v3 false ((gate v3 false (ldk none (List.drop 0 v1))).bind fun v5 =>
 some v5)).bind fun v6 =>
 (guardV v3 false ((bin2 Tryd.prog BinOp.gtr 3 (ot 9) (oc 99) v6 (vi 99)).bind fun v7 =>
 some v7)).bind fun v8 =>
 (pickV v3 (vb true) v8).bind fun v9 =>
 (guardV v9 false (some V.any)).bind fun v10 =>
 (guardV v9 false ((gate v9 false (ldk none (List.drop 3 v1))).bind fun v11 =>
 some v11)).bind fun v12 =>
 (guardV v9 false ((bin2 Tryd.prog BinOp.lss 3 (ot 14) (oc 0) v12 (vi 0)).bind fun v13 =>
 some v13)).bind fun v14 =>
 (pickV v9 (vb true) v14).bind fun v15 =>
 (guardV v15 false (some V.any)).bind fun v16 =>
 (guardV v15 false ((gate v15 false (ldk none (List.drop 3 v1))).bind fun v17 =>
 some v17)).bind fun v18 =>
 (guardV v15 false ((bin2 Tryd.prog BinOp.gtr 3 (ot 19) (oc 4) v18 (vi 4)).bind fun v19 =>
 some v19)).bind fun v20 =>
 (pickV v15 (vb true) v20).bind fun v21 =>
 (guardV v21 false (some V.any)).bind fun v22 =>
 (guardV v21 false ((gate v21 false (ldk none (List.drop 4 v1))).bind fun v23 =>
 some v23)).bind fun v24 =>
 (guardV v21 false (((sem_cube_Header n) [v24]).bind fun v25 =>
 some v25)).bind fun v26 =>
 (guardV v21 false ((scal1 Tryd.prog (Op.unary Go.UnOp.not) v26).bind fun v27 =>
 some v27)).bind fun v28 =>
 (pickV v21 (vb true) v28).bind fun v29 =>
 (guardV v29 false (some V.any)).bind fun v30 =>
 (guardV v29 false ((gate v29 false (ldk none (List.drop 5 v1))).bind fun v31 =>
 some v31)).bind fun v32 =>
 (guardV v29 false (((sem_cube_Header n) [v32]).bind fun v33 =>
 some v33)).bind fun v34 =>
 (guardV v29 false ((scal1 Tryd.prog (Op.unary Go.UnOp.not) v34).bind fun v35 =>
 some v35)).bind fun v36 =>
 (pickV v29 (vb true) v36).bind fun v37 =>
 condV v37 (
 (scal1 Tryd.prog (Instr.makeInterface 119) (vi 1)).bind fun v38 =>
 some v38) (
 (ldk (some 2) (List.drop 1 v1)).bind fun v39 =>
 ((sem_cube_Check n) [v39]).bind fun v40 =>
 (bin2 Tryd.prog BinOp.neq 33 (ot 38) (Operand.const Go.Value.nilIface) v40 vn).bind fun v41 =>
 condV v41 (
 some v40) (
 (ldk none (List.drop 5 v1)).bind fun v42 =>
 (ldk none (List.drop 4 v1)).bind fun v43 =>
 (bin2 Tryd.prog BinOp.andNot 3 (ot 42) (ot 44) v42 v43).bind fun v44 =>
 (bin2 Tryd.prog BinOp.neq 3 (ot 45) (oc 0) v44 (vi 0)).bind fun v45 =>
 (guardV v45 false (some V.any)).bind fun v46 =>
 (guardV v45 false ((gate v45 false (ldk none (List.drop 3 v1))).bind fun v47 =>
 some v47)).bind fun v48 =>
 (guardV v45 false ((bin2 Tryd.prog BinOp.eql 3 (ot 49) (oc 0) v48 (vi 0)).bind fun v49 =>
 some v49)).bind fun v50 =>
 (guardV v45 false (some v50)).bind fun v51 =>
 (guardV v51 true (some V.any)).bind fun v52 =>
 (guardV v51 true ((gate v51 true (ldk none (List.drop 4 v1))).bind fun v53 =>
 some v53)).bind fun v54 =>
 (guardV v51 true ((bin2 Tryd.prog BinOp.neq 3 (ot 53) (oc 0) v54 (vi 0)).bind fun v55 =>
 some v55)).bind fun v56 =>
 (guardV v45 false ((pickV v51 v56 (vb false)).bind fun v57 =>
 some v57)).bind fun v58 =>
 (pickV v45 (vb true) v58).bind fun v59 =>
 condV v59 (
 (scal1 Tryd.prog (Instr.makeInterface 119) (vi 3)).bind fun v60 =>
 some v60) (
 some vn))) := by kernel_rfl
noncomputable def t_rule_Check (a0 : T_Rule) : Option Int :=
 (gd (!((((decide (a0.Prio < 0)) || (decide (99 < a0.Prio))) || (decide (a0.Out < 0))) || (decide (4 < a0.Out)))) default (t_cube_Header a0.Set)).bind fun r39 =>
 (gd (!(((((decide (a0.Prio < 0)) || (decide (99 < a0.Prio))) || (decide (a0.Out < 0))) || (decide (4 < a0.Out))) || (!r39))) default (t_cube_Header a0.Value)).bind fun r52 =>
 if ((((((decide (a0.Prio < 0)) || (decide (99 < a0.Prio))) || (decide (a0.Out < 0))) || (decide (4 < a0.Out))) || (!r39)) || (!r52)) = true then (
 some 1) else (
 (t_cube_Check a0.Cube).bind fun r61 =>
 if (!decide (r61 = 0)) = true then (
 some r61) else (
 if ((decide ((bits .andNot .i64 a0.Value a0.Set) ≠ 0)) || ((decide (a0.Out = 0)) && (decide (a0.Set ≠ 0)))) = true then (
 some 3) else (
 some 0)))
theorem ty_rule_Check {n : Nat} (hn : bigN ≤ n) (a0 : T_Rule) : Rv (fun x : Int => (eV x)) (sem_rule_Check n [(T_Rule.e a0)]) (t_rule_Check a0) := by
  rw [eq_rule_Check]
  unfold t_rule_Check
  refine tb (x := (T_Rule.c a0)) rfl ?_
  refine tb (x := (vi a0.Prio)) (rfl) ?_
  refine tb (x := (vb (decide (a0.Prio < 0)))) (d_lss) ?_
  refine tg_f (x := V.any) (fun h4 => rfl) ?_
  refine tg_f (x := (vi a0.Prio)) (fun h6 => bind_some_eq (gate_pos (not_t h6) (rfl))) ?_
  refine tg_f (x := (vb (decide (99 < a0.Prio)))) (fun h9 => by simp only [gv_t h9]; exact bind_some_eq (d_gtr)) ?_
  refine tb (x := (vb ((decide (a0.Prio < 0)) || (decide (99 < a0.Prio))))) (pick_or (fun h9 => gv_t (not_f h9))) ?_
  refine tg_f (x := V.any) (fun h13 => rfl) ?_
  refine tg_f (x := (vi a0.Out)) (fun h15 => bind_some_eq (gate_pos (not_t h15) (rfl))) ?_
  refine tg_f (x := (vb (decide (a0.Out < 0)))) (fun h18 => by simp only [gv_t h18]; exact bind_some_eq (d_lss)) ?_
  refine tb (x := (vb (((decide (a0.Prio < 0)) || (decide (99 < a0.Prio))) || (decide (a0.Out < 0))))) (pick_or (fun h9 => gv_t (not_f h9))) ?_
  refine tg_f (x := V.any) (fun h22 => rfl) ?_
  refine tg_f (x := (vi a0.Out)) (fun h24 => bind_some_eq (gate_pos (not_t h24) (rfl))) ?_
  refine tg_f (x := (vb (decide (4 < a0.Out)))) (fun h27 => by simp only [gv_t h27]; exact bind_some_eq (d_gtr)) ?_
  refine tb (x := (vb ((((decide (a0.Prio < 0)) || (decide (99 < a0.Prio))) || (decide (a0.Out < 0))) || (decide (4 < a0.Out))))) (pick_or (fun h9 => gv_t (not_f h9))) ?_
  refine tg_f (x := V.any) (fun h31 => rfl) ?_
  refine tg_f (x := (vi a0.Set)) (fun h33 => bind_some_eq (gate_pos (not_t h33) (rfl))) ?_
  refine tgo_f (fun h36 => by simp only [gv_t h36]; exact rf_bind_some (ty_cube_Header hn a0.Set)) fun r39 => ?_
  refine tg_f (x := (vb (!r39))) (fun h40 => by simp only [gv_t h40]; exact bind_some_eq (d_not)) ?_
  refine tb (x := (vb (((((decide (a0.Prio < 0)) || (decide (99 < a0.Prio))) || (decide (a0.Out < 0))) || (decide (4 < a0.Out))) || (!r39)))) (pick_or (fun h9 => gv_t (not_f h9))) ?_
  refine tg_f (x := V.any) (fun h44 => rfl) ?_
  refine tg_f (x := (vi a0.Value)) (fun h46 => bind_some_eq (gate_pos (not_t h46) (rfl))) ?_
  refine tgo_f (fun h49 => by simp only [gv_t h49]; exact rf_bind_some (ty_cube_Header hn a0.Value)) fun r52 => ?_
  refine tg_f (x := (vb (!r52))) (fun h53 => by simp only [gv_t h53]; exact bind_some_eq (d_not)) ?_
  refine tb (x := (vb ((((((decide (a0.Prio < 0)) || (decide (99 < a0.Prio))) || (decide (a0.Out < 0))) || (decide (4 < a0.Out))) || (!r39)) || (!r52)))) (pick_or (fun h9 => gv_t (not_f h9))) ?_
  refine tcond (fun h57 => ?_) (fun h57 => ?_)
  · refine tb (x := (eV 1)) (p_mkE (by decide)) ?_
    exact rf_ret rfl
  · refine tb (x := (T_Cube.e a0.Cube)) (rfl) ?_
    refine tbo (ty_cube_Check hn a0.Cube) fun r61 => ?_
    refine tb (x := (vb (!decide (r61 = 0)))) (p_err_neq _) ?_
    refine tcond (fun h63 => ?_) (fun h63 => ?_)
    · exact rf_ret rfl
    · refine tb (x := (vi a0.Value)) (rfl) ?_
      refine tb (x := (vi a0.Set)) (rfl) ?_
      refine tb (x := (vi (bits .andNot .i64 a0.Value a0.Set))) (d_andNot) ?_
      refine tb (x := (vb (decide ((bits .andNot .i64 a0.Value a0.Set) ≠ 0)))) (d_neq) ?_
      refine tg_f (x := V.any) (fun h68 => rfl) ?_
      refine tg_f (x := (vi a0.Out)) (fun h70 => bind_some_eq (gate_pos (not_t h70) (rfl))) ?_
      refine tg_f (x := (vb (decide (a0.Out = 0)))) (fun h73 => by simp only [gv_t h73]; exact bind_some_eq (d_eql)) ?_
      refine tg_f (x := (vb (decide (a0.Out = 0)))) (fun h76 => congrArg some (gv_t h76)) ?_
      refine tg2 (x := V.any) (fun h78 => rfl) ?_
      refine tg2 (x := (vi a0.Set)) (fun h80 => bind_some_eq (gate_pos2 (and_l h80) (and_r h80) (rfl))) ?_
      refine tg2 (x := (vb (decide (a0.Set ≠ 0)))) (fun h83 => by simp only [gv_t h83]; exact bind_some_eq (d_neq)) ?_
      refine tg_f (x := (vb ((decide (a0.Out = 0)) && (decide (a0.Set ≠ 0))))) (fun h86 => by simp only [gv_t h86]; exact bind_some_eq (pick_and (fun h9 => gv_t (and_i h86 h9)))) ?_
      refine tb (x := (vb ((decide ((bits .andNot .i64 a0.Value a0.Set) ≠ 0)) || ((decide (a0.Out = 0)) && (decide (a0.Set ≠ 0)))))) (pick_or (fun h9 => gv_t (not_f h9))) ?_
      refine tcond (fun h90 => ?_) (fun h90 => ?_)
      · refine tb (x := (eV 3)) (p_mkE (by decide)) ?_
        exact rf_ret rfl
      · exact rf_ret rfl

/-! railpoint/wire.Check -/
def an_wire_Check : Ann := .seq (.reg 0 [] [] []) (.seq (.seq (.reg 0 [] [] []) (.cond none (.seq (.reg 0 [] [] []) (.no)) (.no))) (.seq (.seq (.reg 0 [] [] []) (.cond none (.seq (.seq (.reg 0 [] [] []) (.cond none (.seq (.reg 0 [] [] []) (.no)) (.no))) (.seq (.reg 0 [] [] []) (.no))) (.no))) (.seq (.seq (.reg 0 [] [] []) (.seq (.reg 0 [] [] []) (.cond none (.seq (.reg 0 [] [] []) (.no)) (.no)))) (.seq (.seq (.reg 0 [] [] []) (.cond none (.seq (.reg 0 [] [] []) (.no)) (.no))) (.seq (.reg 0 [] [] []) (.no))))))
noncomputable def sem_wire_Check (n : Nat) (xs : List V) : Option V := if xs.length ≤ 75 then denF Tryd.prog (envOf [(84, (sem_rule_Check n))]) n Tryd.f65 an_wire_Check xs else none
theorem ok_wire_Check (n : Nat) : SemOk Tryd.prog DW 65 (sem_wire_Check n) := fun xs y h => by
  unfold sem_wire_Check at h
  split at h
  · rename_i hl
    exact denF_ok stb Tryd.func65 (by kernel_rfl) (envOf_ok (semsOk_cons (ok_rule_Check n) semsOk_nil)) (by rw [Tryd.ntmps65]; exact hl) h
  · cases h
theorem eq_wire_Check (n : Nat) (x0 : V) : sem_wire_Check n [x0] =
 (V.cellsO x0).bind fun v1 =>
 (ldk none (List.drop 0 v1)).bind fun v2 =>
 (bin2 Tryd.prog BinOp.lss 3 (ot 5) (oc 1) v2 (vi 1)).bind fun v3 =>
 (guardV v3 false (some V.any)).bind fun v4 =>
 (guardV v3 false ((gate v3 false (ldk none (List.drop 0 v1))).bind fun v5 =>
 some v5)).bind fun v6 =>
 (guardV v3 false ((bin2 Tryd.prog BinOp.gtr 3 (ot 9) (oc 3) v6 (vi 3)).bind fun v7 =>
 some v7)).bind fun v8 =>
 (pickV v3 (vb true) v8).bind fun v9 =>
 (guardV v9 false (some V.any)).bind fun v10 =>
 (guardV v9 false ((gate v9 false (ldk none (List.drop 1 v1))).bind fun v11 =>
 some v11)).bind fun v12 =>
 (guardV v9 false ((bin2 Tryd.prog BinOp.lss 3 (ot 14) (oc 1) v12 (vi 1)).bind fun v13 =>
 some v13)).bind fun v14 =>
 (pickV v9 (vb true) v14).bind fun v15 =>
 (guardV v15 false (some V.any)).bind fun v16 =>
 (guardV v15 false ((gate v15 false (ldk none (List.drop 1 v1))).bind fun v17 =>
 some v17)).bind fun v18 =>
 (guardV v15 false ((bin2 Tryd.prog BinOp.gtr 3 (ot 19) (oc 6) v18 (vi 6)).bind fun v19 =>
 some v19)).bind fun v20 =>
 (pickV v15 (vb true) v20).bind fun v21 =>
 (guardV v21 false (some V.any)).bind fun v22 =>
 (guardV v21 false ((gate v21 false (ldk none (List.drop 2 v1))).bind fun v23 =>
 some v23)).bind fun v24 =>
 (guardV v21 false ((bin2 Tryd.prog BinOp.lss 3 (ot 24) (oc 0) v24 (vi 0)).bind fun v25 =>
 some v25)).bind fun v26 =>
 (pickV v21 (vb true) v26).bind fun v27 =>
 (guardV v27 false (some V.any)).bind fun v28 =>
 (guardV v27 false ((gate v27 false (ldk none (List.drop 2 v1))).bind fun v29 =>
 some v29)).bind fun v30 =>
 (guardV v27 false ((bin2 Tryd.prog BinOp.geq 3 (ot 29) (oc 20) v30 (vi 20)).bind fun v31 =>
 some v31)).bind fun v32 =>
 (pickV v27 (vb true) v32).bind fun v33 =>
 (guardV v33 false (some V.any)).bind fun v34 =>
 (guardV v33 false ((gate v33 false (ldk none (List.drop 3 v1))).bind fun v35 =>
 some v35)).bind fun v36 =>
 (guardV v33 false ((bin2 Tryd.prog BinOp.lss 3 (ot 34) (oc 0) v36 (vi 0)).bind fun v37 =>
 some v37)).bind fun v38 =>
 (pickV v33 (vb true) v38).bind fun v39 =>
 (guardV v39 false (some V.any)).bind fun v40 =>
 (guardV v39 false ((gate v39 false (ldk none (List.drop 3 v1))).bind fun v41 =>
 some v41)).bind fun v42 =>
 (guardV v39 false ((bin2 Tryd.prog BinOp.gtr 3 (ot 39) (oc 200) v42 (vi 200)).bind fun v43 =>
 some v43)).bind fun v44 =>
 (pickV v39 (vb true) v44).bind fun v45 =>
 condV v45 (
 (scal1 Tryd.prog (Instr.makeInterface 119) (vi 1)).bind fun v46 =>
 some v46) (
 (ldk none (List.drop 0 v1)).bind fun v47 =>
 (bin2 Tryd.prog BinOp.neq 3 (ot 44) (oc 1) v47 (vi 1)).bind fun v48 =>
 condV v48 (
 (ldk (some 8) (List.drop 4 v1)).bind fun v49 =>
 ((fillL [(vi 0), (vb false), (vi 0), (vi 0), (vi 0), (vi 0), (vi 0), (vi 0)] []).map V.agg).bind fun v50 =>
 (bin2 Tryd.prog BinOp.neq 27 (ot 47) (ot 48) v49 v50).bind fun v51 =>
 (guardV v51 false (some V.any)).bind fun v52 =>
 (guardV v51 false ((gate v51 false (ldk none (List.drop 0 v1))).bind fun v53 =>
 some v53)).bind fun v54 =>
 (guardV v51 false ((bin2 Tryd.prog BinOp.eql 3 (ot 52) (oc 3) v54 (vi 3)).bind fun v55 =>
 some v55)).bind fun v56 =>
 (guardV v51 false (some v56)).bind fun v57 =>
 (guardV v57 true (some V.any)).bind fun v58 =>
 (guardV v57 true ((gate v57 true (ldk none (List.drop 3 v1))).bind fun v59 =>
 some v59)).bind fun v60 =>
 (guardV v57 true ((bin2 Tryd.prog BinOp.neq 3 (ot 56) (oc 0) v60 (vi 0)).bind fun v61 =>
 some v61)).bind fun v62 =>
 (guardV v51 false ((pickV v57 v62 (vb false)).bind fun v63 =>
 some v63)).bind fun v64 =>
 (pickV v51 (vb true) v64).bind fun v65 =>
 condV v65 (
 (scal1 Tryd.prog (Instr.makeInterface 119) (vi 3)).bind fun v66 =>
 some v66) (
 some vn)) (
 (ldk (some 6) (List.drop 6 v1)).bind fun v67 =>
 ((sem_rule_Check n) [v67]).bind fun v68 =>
 (bin2 Tryd.prog BinOp.neq 33 (ot 65) (Operand.const Go.Value.nilIface) v68 vn).bind fun v69 =>
 condV v69 (
 some v68) (
 (ldk none (List.drop 4 v1)).bind fun v70 =>
 (ldk none (List.drop 1 v1)).bind fun v71 =>
 (bin2 Tryd.prog BinOp.neq 3 (ot 70) (ot 72) v70 v71).bind fun v72 =>
 condV v72 (
 (scal1 Tryd.prog (Instr.makeInterface 119) (vi 3)).bind fun v73 =>
 some v73) (
 some vn)))) := by kernel_rfl
noncomputable def t_wire_Check (a0 : T_Msg) : Option Int :=
 (some ((((((decide (a0.Kind < 1)) || (decide (3 < a0.Kind))) || (decide (a0.Switch < 1))) || (decide (6 < a0.Switch))) || (decide (a0.Round < 0))) || (decide (20 ≤ a0.Round)))).bind fun r49 =>
 if ((r49 || (decide (a0.Index < 0))) || (decide (200 < a0.Index))) = true then (
 some 1) else (
 if (decide (a0.Kind ≠ 1)) = true then (
 if ((!decide (a0.Op = (T_Op.mk 0 false (T_Rule.mk 0 (T_Cube.mk 0 0) 0 0 0)))) || ((decide (a0.Kind = 3)) && (decide (a0.Index ≠ 0)))) = true then (
 some 3) else (
 some 0)) else (
 (t_rule_Check a0.Op.Rule).bind fun r102 =>
 if (!decide (r102 = 0)) = true then (
 some r102) else (
 if (decide (a0.Op.Switch ≠ a0.Switch)) = true then (
 some 3) else (
 some 0))))
theorem ty_wire_Check {n : Nat} (hn : bigN ≤ n) (a0 : T_Msg) : Rv (fun x : Int => (eV x)) (sem_wire_Check n [(T_Msg.e a0)]) (t_wire_Check a0) := by
  rw [eq_wire_Check]
  unfold t_wire_Check
  refine tb (x := (T_Msg.c a0)) rfl ?_
  refine tb (x := (vi a0.Kind)) (rfl) ?_
  refine tb (x := (vb (decide (a0.Kind < 1)))) (d_lss) ?_
  refine tg_f (x := V.any) (fun h4 => rfl) ?_
  refine tg_f (x := (vi a0.Kind)) (fun h6 => bind_some_eq (gate_pos (not_t h6) (rfl))) ?_
  refine tg_f (x := (vb (decide (3 < a0.Kind)))) (fun h9 => by simp only [gv_t h9]; exact bind_some_eq (d_gtr)) ?_
  refine tb (x := (vb ((decide (a0.Kind < 1)) || (decide (3 < a0.Kind))))) (pick_or (fun h9 => gv_t (not_f h9))) ?_
  refine tg_f (x := V.any) (fun h13 => rfl) ?_
  refine tg_f (x := (vi a0.Switch)) (fun h15 => bind_some_eq (gate_pos (not_t h15) (rfl))) ?_
  refine tg_f (x := (vb (decide (a0.Switch < 1)))) (fun h18 => by simp only [gv_t h18]; exact bind_some_eq (d_lss)) ?_
  refine tb (x := (vb (((decide (a0.Kind < 1)) || (decide (3 < a0.Kind))) || (decide (a0.Switch < 1))))) (pick_or (fun h9 => gv_t (not_f h9))) ?_
  refine tg_f (x := V.any) (fun h22 => rfl) ?_
  refine tg_f (x := (vi a0.Switch)) (fun h24 => bind_some_eq (gate_pos (not_t h24) (rfl))) ?_
  refine tg_f (x := (vb (decide (6 < a0.Switch)))) (fun h27 => by simp only [gv_t h27]; exact bind_some_eq (d_gtr)) ?_
  refine tb (x := (vb ((((decide (a0.Kind < 1)) || (decide (3 < a0.Kind))) || (decide (a0.Switch < 1))) || (decide (6 < a0.Switch))))) (pick_or (fun h9 => gv_t (not_f h9))) ?_
  refine tg_f (x := V.any) (fun h31 => rfl) ?_
  refine tg_f (x := (vi a0.Round)) (fun h33 => bind_some_eq (gate_pos (not_t h33) (rfl))) ?_
  refine tg_f (x := (vb (decide (a0.Round < 0)))) (fun h36 => by simp only [gv_t h36]; exact bind_some_eq (d_lss)) ?_
  refine tb (x := (vb (((((decide (a0.Kind < 1)) || (decide (3 < a0.Kind))) || (decide (a0.Switch < 1))) || (decide (6 < a0.Switch))) || (decide (a0.Round < 0))))) (pick_or (fun h9 => gv_t (not_f h9))) ?_
  refine tg_f (x := V.any) (fun h40 => rfl) ?_
  refine tg_f (x := (vi a0.Round)) (fun h42 => bind_some_eq (gate_pos (not_t h42) (rfl))) ?_
  refine tg_f (x := (vb (decide (20 ≤ a0.Round)))) (fun h45 => by simp only [gv_t h45]; exact bind_some_eq (d_geq)) ?_
  refine tbo (e1 := fun x : Bool => (vb x)) (rf_eq (pick_or (fun h9 => gv_t (not_f h9))) rfl) fun r49 => ?_
  refine tg_f (x := V.any) (fun h50 => rfl) ?_
  refine tg_f (x := (vi a0.Index)) (fun h52 => bind_some_eq (gate_pos (not_t h52) (rfl))) ?_
  refine tg_f (x := (vb (decide (a0.Index < 0)))) (fun h55 => by simp only [gv_t h55]; exact bind_some_eq (d_lss)) ?_
  refine tb (x := (vb (r49 || (decide (a0.Index < 0))))) (pick_or (fun h9 => gv_t (not_f h9))) ?_
  refine tg_f (x := V.any) (fun h59 => rfl) ?_
  refine tg_f (x := (vi a0.Index)) (fun h61 => bind_some_eq (gate_pos (not_t h61) (rfl))) ?_
  refine tg_f (x := (vb (decide (200 < a0.Index)))) (fun h64 => by simp only [gv_t h64]; exact bind_some_eq (d_gtr)) ?_
  refine tb (x := (vb ((r49 || (decide (a0.Index < 0))) || (decide (200 < a0.Index))))) (pick_or (fun h9 => gv_t (not_f h9))) ?_
  refine tcond (fun h68 => ?_) (fun h68 => ?_)
  · refine tb (x := (eV 1)) (p_mkE (by decide)) ?_
    exact rf_ret rfl
  · refine tb (x := (vi a0.Kind)) (rfl) ?_
    refine tb (x := (vb (decide (a0.Kind ≠ 1)))) (d_neq) ?_
    refine tcond (fun h72 => ?_) (fun h72 => ?_)
    · refine tb (x := (T_Op.e a0.Op)) (rfl) ?_
      refine tb (x := (T_Op.e (T_Op.mk 0 false (T_Rule.mk 0 (T_Cube.mk 0 0) 0 0 0)))) (by kernel_rfl) ?_
      refine tb (x := (vb (!decide (a0.Op = (T_Op.mk 0 false (T_Rule.mk 0 (T_Cube.mk 0 0) 0 0 0)))))) (T_Op.neq a0.Op (T_Op.mk 0 false (T_Rule.mk 0 (T_Cube.mk 0 0) 0 0 0))) ?_
      refine tg_f (x := V.any) (fun h76 => rfl) ?_
      refine tg_f (x := (vi a0.Kind)) (fun h78 => bind_some_eq (gate_pos (not_t h78) (rfl))) ?_
      refine tg_f (x := (vb (decide (a0.Kind = 3)))) (fun h81 => by simp only [gv_t h81]; exact bind_some_eq (d_eql)) ?_
      refine tg_f (x := (vb (decide (a0.Kind = 3)))) (fun h84 => congrArg some (gv_t h84)) ?_
      refine tg2 (x := V.any) (fun h86 => rfl) ?_
      refine tg2 (x := (vi a0.Index)) (fun h88 => bind_some_eq (gate_pos2 (and_l h88) (and_r h88) (rfl))) ?_
      refine tg2 (x := (vb (decide (a0.Index ≠ 0)))) (fun h91 => by simp only [gv_t h91]; exact bind_some_eq (d_neq)) ?_
      refine tg_f (x := (vb ((decide (a0.Kind = 3)) && (decide (a0.Index ≠ 0))))) (fun h94 => by simp only [gv_t h94]; exact bind_some_eq (pick_and (fun h9 => gv_t (and_i h94 h9)))) ?_
      refine tb (x := (vb ((!decide (a0.Op = (T_Op.mk 0 false (T_Rule.mk 0 (T_Cube.mk 0 0) 0 0 0)))) || ((decide (a0.Kind = 3)) && (decide (a0.Index ≠ 0)))))) (pick_or (fun h9 => gv_t (not_f h9))) ?_
      refine tcond (fun h98 => ?_) (fun h98 => ?_)
      · refine tb (x := (eV 3)) (p_mkE (by decide)) ?_
        exact rf_ret rfl
      · exact rf_ret rfl
    · refine tb (x := (T_Rule.e a0.Op.Rule)) (rfl) ?_
      refine tbo (ty_rule_Check hn a0.Op.Rule) fun r102 => ?_
      refine tb (x := (vb (!decide (r102 = 0)))) (p_err_neq _) ?_
      refine tcond (fun h104 => ?_) (fun h104 => ?_)
      · exact rf_ret rfl
      · refine tb (x := (vi a0.Op.Switch)) (rfl) ?_
        refine tb (x := (vi a0.Switch)) (rfl) ?_
        refine tb (x := (vb (decide (a0.Op.Switch ≠ a0.Switch)))) (d_neq) ?_
        refine tcond (fun h108 => ?_) (fun h108 => ?_)
        · refine tb (x := (eV 3)) (p_mkE (by decide)) ?_
          exact rf_ret rfl
        · exact rf_ret rfl

/-! railpoint/wire.sum -/
def an_wire_sum : Ann := .seq (.reg 0 [] [] []) (.seq (.reg 0 [] [] []) (.seq (.seq (.reg 0 [] [] []) (.blk (some [.s 3]) (.loop [.s 3, .s 8] (.seq (.reg 0 [] [] []) (.seq (.cond none (.no) (.no)) (.seq (.blk none (.seq (.reg 0 [] [] []) (.reg 0 [] [] []))) (.reg 0 [] [] []))))))) (.seq (.reg 0 [] [] []) (.no))))
noncomputable def sem_wire_sum (n : Nat) (xs : List V) : Option V := if xs.length ≤ 20 then denF Tryd.prog (envOf []) n Tryd.f66 an_wire_sum xs else none
theorem ok_wire_sum (n : Nat) : SemOk Tryd.prog DW 66 (sem_wire_sum n) := fun xs y h => by
  unfold sem_wire_sum at h
  split at h
  · rename_i hl
    exact denF_ok stb Tryd.func66 (by kernel_rfl) (envOf_ok semsOk_nil) (by rw [Tryd.ntmps66]; exact hl) h
  · cases h
theorem eq_wire_sum (n : Nat) (x0 : V) : sem_wire_sum n [x0] =
 (lenS [x0]).bind fun v1 =>
 JoinPt (fun vs2 =>
 (bin2 Tryd.prog BinOp.rem 3 (ot 17) (oc 251) (List.getD vs2 0 V.any) (vi 251)).bind fun v4 =>
 (scal1 Tryd.prog (convert 3 5) v4).bind fun v5 =>
 some v5) fun J3 =>
 (fixN (fun rec6 vs7 =>
 (bin2 Tryd.prog BinOp.lss 3 (ot 8) (ot 7) (List.getD vs7 1 V.any) v1).bind fun v8 =>
 condV v8 (
 (idxS 1 x0 (List.getD vs7 1 V.any)).bind fun v9 =>
 (ldp none v9).bind fun v10 =>
 (scal1 Tryd.prog (convert 5 3) v10).bind fun v11 =>
 (bin2 Tryd.prog BinOp.add 3 (ot 12) (ot 14) (List.getD vs7 0 V.any) v11).bind fun v12 =>
 (bin2 Tryd.prog BinOp.add 3 (ot 8) (oc 1) (List.getD vs7 1 V.any) (vi 1)).bind fun v13 =>
 rec6 [v12, v13]) (
 J3 [(List.getD vs7 0 V.any)])) n) [(vi 0), (vi 0)] := by kernel_rfl
noncomputable def t_wire_sum (a0 : (List Int)) : Option Int :=
 (loopI a0 (fun (i15 : Int) x16 (s11 : Int) k12 =>
 k12 (wr (s11 + (wr x16)))) (fun (s11 : Int) =>
 some (s11)) (0)).bind fun (s4 : Int) =>
 some (IntKind.u8.wrap (Int.tmod s4 251))
theorem ty_wire_sum {n : Nat} (hn : bigN ≤ n) (a0 : (List Int)) : Rv (fun x : Int => (V.lit (.int .u8 x))) (sem_wire_sum n [(V.sl (List.map cY a0))]) (t_wire_sum a0) := by
  rw [eq_wire_sum]
  unfold t_wire_sum
  refine tb (x := (vi (List.length a0 : Int))) (p_len _) ?_
  refine tjb (mk := fun s4 : Int => [(vi s4)]) (fun J3 => ?_) fun s4 => ?_
  · refine rf_loopI (mk := fun (i15 : Int) (s11 : Int) => [(vi s11), (vi (i15 : Int))]) hn a0 (0) (fun i15 x16 h17 h18 h19 s11 rec9 k12 h13 => ?_) (fun s11 rec27 h26 => ?_)
    · refine tb (x := (vb (decide ((i15 : Int) < (List.length a0 : Int))))) (d_lss) ?_
      refine tcond_t h19 ?_
      refine tb (x := (V.ptr [(V.lit (.int .u8 x16))])) (p_idx_at (c := cY) (fun _ => rfl) h17) ?_
      refine tb (x := (V.lit (.int .u8 x16))) (rfl) ?_
      refine tb (x := (vi (wr x16))) (scal1_lit (r := .int .i64 (IntKind.i64.wrap x16)) rfl (fun w => by kernel_rfl) rfl) ?_
      refine tb (x := (vi (wr (s11 + (wr x16))))) (d_add) ?_
      refine tb (x := (vi ((i15 : Int) + 1))) (p_incN h18) ?_
      exact h13 (wr (s11 + (wr x16)))
    · refine tb (x := (vb (decide ((List.length a0 : Int) < (List.length a0 : Int))))) (d_lss) ?_
      refine tcond_f h26 ?_
      exact rf_j rfl
  · refine tb (x := (vi (Int.tmod s4 251))) (p_rem (by decide)) ?_
    refine tb (x := (V.lit (.int .u8 (IntKind.u8.wrap (Int.tmod s4 251))))) (scal1_lit (r := .int .u8 (IntKind.u8.wrap (Int.tmod s4 251))) rfl (fun w => by kernel_rfl) rfl) ?_
    exact rf_ret rfl

/-! railpoint/wire.Encode -/
def an_wire_Encode : Ann := .seq (.reg 0 [] [] []) (.seq (.seq (.reg 0 [] [] []) (.seq (.reg 0 [] [] []) (.cond none (.seq (.reg 0 [] [] []) (.no)) (.no)))) (.seq (.reg 0 [] [] [24]) (.seq (.seq (.reg 0 [] [] []) (.cond (some [.s 5]) (.seq (.reg 0 [] [] []) (.seq (.seq (.reg 0 [] [] []) (.cond (some [.kb 1, .r 5 3, .s 6]) (.reg 0 [] [] []) (.no))) (.seq (.reg 0 [] [] []) (.reg 0 [] [] [])))) (.no))) (.seq (.reg 0 [] [] []) (.seq (.seq (.reg 0 [] [] []) (.blk (some [.r 8 5]) (.loop [.r 8 5, .s 52, .s 54] (.seq (.reg 0 [] [] []) (.seq (.cond none (.no) (.no)) (.seq (.blk none (.seq (.reg 0 [] [] []) (.reg 0 [] [] []))) (.reg 0 [] [] []))))))) (.seq (.reg 0 [] [] []) (.no)))))))
noncomputable def sem_wire_Encode (n : Nat) (xs : List V) : Option V := if xs.length ≤ 70 then denF Tryd.prog (envOf [(65, (sem_wire_Check n)), (66, (sem_wire_sum n))]) n Tryd.f11 an_wire_Encode xs else none
theorem ok_wire_Encode (n : Nat) : SemOk Tryd.prog DW 11 (sem_wire_Encode n) := fun xs y h => by
  unfold sem_wire_Encode at h
  split at h
  · rename_i hl
    exact denF_ok stb Tryd.func11 (by kernel_rfl) (envOf_ok (semsOk_cons (ok_wire_Check n) (semsOk_cons (ok_wire_sum n) semsOk_nil))) (by rw [Tryd.ntmps11]; exact hl) h
  · cases h
theorem eq_wire_Encode (n : Nat) (x0 : V) : sem_wire_Encode n [x0] =
 (V.cellsO x0).bind fun v1 =>
 (ldk (some 12) (List.drop 0 v1)).bind fun v2 =>
 ((sem_wire_Check n) [v2]).bind fun v3 =>
 (bin2 Tryd.prog BinOp.neq 33 (ot 13) (Operand.const Go.Value.nilIface) v3 vn).bind fun v4 =>
 condV v4 (
 some (V.tup [(V.lit (Go.Value.string (ByteArray.mk #[]))), v3])) (
 (ldk none (List.drop 0 v1)).bind fun v5 =>
 (ldk none (List.drop 1 v1)).bind fun v6 =>
 (ldk none (List.drop 2 v1)).bind fun v7 =>
 (ldk none (List.drop 3 v1)).bind fun v8 =>
 (slcB 1 4 [(vi 0)] [(0, v5), (1, v6), (2, v7), (3, v8)]).bind fun v9 =>
 (ldk none (List.drop 0 v1)).bind fun v10 =>
 (bin2 Tryd.prog BinOp.eql 3 (ot 26) (oc 1) v10 (vi 1)).bind fun v11 =>
 JoinPt (fun vs12 =>
 (lenS [(List.getD vs12 0 V.any)]).bind fun v14 =>
 JoinPt (fun vs15 =>
 ((sem_wire_sum n) [(V.sl (slL (List.getD vs15 0 V.any)))]).bind fun v17 =>
 (slcB 1 1 [(V.lit (Go.Value.int Go.IntKind.u8 0))] [(0, v17)]).bind fun v18 =>
 (appV 1 (slL (List.getD vs15 0 V.any)) v18).bind fun v19 =>
 (b2s (V.sl (slL v19))).bind fun v20 =>
 some (V.tup [v20, vn])) fun J16 =>
 (fixN (fun rec21 vs22 =>
 (bin2 Tryd.prog BinOp.lss 3 (ot 54) (ot 53) (List.getD vs22 2 V.any) v14).bind fun v23 =>
 condV v23 (
 (idxS 1 (List.getD vs22 1 V.any) (List.getD vs22 2 V.any)).bind fun v24 =>
 (ldp none v24).bind fun v25 =>
 (scal1 Tryd.prog (convert 3 5) v25).bind fun v26 =>
 (slcB 1 1 [(V.lit (Go.Value.int Go.IntKind.u8 0))] [(0, v26)]).bind fun v27 =>
 (appV 1 (slL (List.getD vs22 0 V.any)) v27).bind fun v28 =>
 (bin2 Tryd.prog BinOp.add 3 (ot 54) (oc 1) (List.getD vs22 2 V.any) (vi 1)).bind fun v29 =>
 rec21 [(V.sl (slL v28)), (List.getD vs22 1 V.any), v29]) (
 J16 [(V.sl (slL (List.getD vs22 0 V.any)))])) n) [(V.sl []), (List.getD vs12 0 V.any), (vi 0)]) fun J13 =>
 condV v11 (
 (ldk none (List.drop 5 v1)).bind fun v30 =>
 JoinPt (fun vs31 =>
 (ldk (some 6) (List.drop 6 v1)).bind fun v33 =>
 (spliceV [(vi 0), (vi 0), (vi 0), (vi 0), (vi 0), (vi 0)] 0 6 v33).bind fun v34 =>
 (ldk none (List.drop 0 (aggL v34))).bind fun v35 =>
 (ldk none (List.drop 1 (aggL v34))).bind fun v36 =>
 (ldk none (List.drop 2 (aggL v34))).bind fun v37 =>
 (ldk none (List.drop 3 (aggL v34))).bind fun v38 =>
 (ldk none (List.drop 4 (aggL v34))).bind fun v39 =>
 (ldk none (List.drop 5 (aggL v34))).bind fun v40 =>
 (slcB 1 7 [(vi 0)] [(0, (List.getD vs31 1 V.any)), (1, v35), (2, v36), (3, v37), (4, v38), (5, v39), (6, v40)]).bind fun v41 =>
 (appV 1 (slL (List.getD vs31 0 V.any)) v41).bind fun v42 =>
 J13 [(V.sl (slL v42))]) fun J32 =>
 condV v30 (
 (keepO (some v1) (some v1) (some [(V.sl (slL v9)), (vi 1)])).bind J32) (
 (keepO (some v1) (some v1) (some [(V.sl (slL v9)), (vi 0)])).bind J32)) (
 J13 [(V.sl (slL v9))])) := by kernel_rfl
noncomputable def t_wire_Encode (a0 : T_Msg) : Option (ByteArray × Int) :=
 (t_wire_Check a0).bind fun r4 =>
 if (!decide (r4 = 0)) = true then (
 some ((ByteArray.mk #[]), r4)) else (
 (if (decide (a0.Kind = 1)) = true then (
 (if a0.Op.Add = true then (
 some (([a0.Kind, a0.Switch, a0.Round, a0.Index] : (List Int)), 1)) else (
 some (([a0.Kind, a0.Switch, a0.Round, a0.Index] : (List Int)), 0))).bind fun (s57 : ((List Int) × Int)) =>
 (app s57.1 ([s57.2, a0.Op.Rule.Prio, a0.Op.Rule.Cube.Mask, a0.Op.Rule.Cube.Bits, a0.Op.Rule.Out, a0.Op.Rule.Set, a0.Op.Rule.Value] : (List Int))).bind fun r70 =>
 some (r70)) else (
 some ([a0.Kind, a0.Switch, a0.Round, a0.Index] : (List Int)))).bind fun (s16 : (List Int)) =>
 (loopI s16 (fun (i37 : Int) x38 (s33 : (List Int)) k34 =>
 (app s33 ([(IntKind.u8.wrap x38)] : (List Int))).bind fun r48 =>
 k34 (r48)) (fun (s33 : (List Int)) =>
 some (s33)) ([])).bind fun (s22 : (List Int)) =>
 (t_wire_sum s22).bind fun r26 =>
 (app s22 ([r26] : (List Int))).bind fun r29 =>
 some ((strOfNums r29), 0))
theorem ty_wire_Encode {n : Nat} (hn : bigN ≤ n) (a0 : T_Msg) : Rv (fun x : (ByteArray × Int) => V.tup [(vt x.1), (eV x.2)]) (sem_wire_Encode n [(T_Msg.e a0)]) (t_wire_Encode a0) := by
  rw [eq_wire_Encode]
  unfold t_wire_Encode
  refine tb (x := (T_Msg.c a0)) rfl ?_
  refine tb (x := (T_Msg.e a0)) (rfl) ?_
  refine tbo (ty_wire_Check hn a0) fun r4 => ?_
  refine tb (x := (vb (!decide (r4 = 0)))) (p_err_neq _) ?_
  refine tcond (fun h6 => ?_) (fun h6 => ?_)
  · exact rf_ret rfl
  · refine tb (x := (vi a0.Kind)) (rfl) ?_
    refine tb (x := (vi a0.Switch)) (rfl) ?_
    refine tb (x := (vi a0.Round)) (rfl) ?_
    refine tb (x := (vi a0.Index)) (rfl) ?_
    refine tb (x := (V.sl (List.map cI ([a0.Kind, a0.Switch, a0.Round, a0.Index] : (List Int))))) (by kernel_rfl) ?_
    refine tb (x := (vi a0.Kind)) (rfl) ?_
    refine tb (x := (vb (decide (a0.Kind = 1)))) (d_eql) ?_
    refine tjb (mk := fun s16 : (List Int) => [(V.sl (List.map cI s16))]) (fun J15 => ?_) fun s16 => ?_
    · refine tcond (fun h53 => ?_) (fun h53 => ?_)
      · refine tb (x := (vb a0.Op.Add)) (rfl) ?_
        refine tjb (mk := fun s57 : ((List Int) × Int) => [(V.sl (List.map cI s57.1)), (vi s57.2)]) (fun J56 => ?_) fun s57 => ?_
        · refine tcond (fun h71 => ?_) (fun h71 => ?_)
          · refine tkeepO2 ?_ rfl
            refine tsome ?_
            exact rf_j rfl
          · refine tkeepO2 ?_ rfl
            refine tsome ?_
            exact rf_j rfl
        · refine tb (x := (T_Rule.e a0.Op.Rule)) (rfl) ?_
          refine tb (x := V.agg (T_Rule.c a0.Op.Rule)) (by kernel_rfl) ?_
          refine tb (x := (vi a0.Op.Rule.Prio)) (rfl) ?_
          refine tb (x := (vi a0.Op.Rule.Cube.Mask)) (rfl) ?_
          refine tb (x := (vi a0.Op.Rule.Cube.Bits)) (rfl) ?_
          refine tb (x := (vi a0.Op.Rule.Out)) (rfl) ?_
          refine tb (x := (vi a0.Op.Rule.Set)) (rfl) ?_
          refine tb (x := (vi a0.Op.Rule.Value)) (rfl) ?_
          refine tb (x := (V.sl (List.map cI ([s57.2, a0.Op.Rule.Prio, a0.Op.Rule.Cube.Mask, a0.Op.Rule.Cube.Bits, a0.Op.Rule.Out, a0.Op.Rule.Set, a0.Op.Rule.Value] : (List Int))))) (by kernel_rfl) ?_
          refine tbo (p_app (c := cI) (fun _ => rfl) s57.1 ([s57.2, a0.Op.Rule.Prio, a0.Op.Rule.Cube.Mask, a0.Op.Rule.Cube.Bits, a0.Op.Rule.Out, a0.Op.Rule.Set, a0.Op.Rule.Value] : (List Int))) fun r70 => ?_
          exact rf_j rfl
      · exact rf_j rfl
    · refine tb (x := (vi (List.length s16 : Int))) (p_len _) ?_
      refine tjb (mk := fun s22 : (List Int) => [(V.sl (List.map cY s22))]) (fun J21 => ?_) fun s22 => ?_
      · refine rf_loopI (mk := fun (i37 : Int) (s33 : (List Int)) => [(V.sl (List.map cY s33)), (V.sl (List.map cI s16)), (vi (i37 : Int))]) hn s16 ([]) (fun i37 x38 h39 h40 h41 s33 rec31 k34 h35 => ?_) (fun s33 rec51 h50 => ?_)
        · refine tb (x := (vb (decide ((i37 : Int) < (List.length s16 : Int))))) (d_lss) ?_
          refine tcond_t h41 ?_
          refine tb (x := (V.ptr [(vi x38)])) (p_idx_at (c := cI) (fun _ => rfl) h39) ?_
          refine tb (x := (vi x38)) (rfl) ?_
          refine tb (x := (V.lit (.int .u8 (IntKind.u8.wrap x38)))) (scal1_lit (r := .int .u8 (IntKind.u8.wrap x38)) rfl (fun w => by kernel_rfl) rfl) ?_
          refine tb (x := (V.sl (List.map cY ([(IntKind.u8.wrap x38)] : (List Int))))) (by kernel_rfl) ?_
          refine tbo (p_app (c := cY) (fun _ => rfl) s33 ([(IntKind.u8.wrap x38)] : (List Int))) fun r48 => ?_
          refine tb (x := (vi ((i37 : Int) + 1))) (p_incN h40) ?_
          exact h35 (r48)
        · refine tb (x := (vb (decide ((List.length s16 : Int) < (List.length s16 : Int))))) (d_lss) ?_
          refine tcond_f h50 ?_
          exact rf_j rfl
      · refine tbo (ty_wire_sum hn s22) fun r26 => ?_
        refine tb (x := (V.sl (List.map cY ([r26] : (List Int))))) (by kernel_rfl) ?_
        refine tbo (p_app (c := cY) (fun _ => rfl) s22 ([r26] : (List Int))) fun r29 => ?_
        refine tb (x := (vt (strOfNums r29))) (p_b2s) ?_
        exact rf_ret rfl

/-! railpoint/railref2.long -/
def an_railref2_long : Ann := .seq (.reg 0 [] [] []) (.seq (.seq (.reg 0 [] [] []) (.cond none (.seq (.reg 0 [] [] []) (.no)) (.no))) (.seq (.seq (.reg 0 [] [] []) (.cond none (.seq (.reg 0 [] [] []) (.no)) (.no))) (.seq (.reg 0 [] [] []) (.no))))
noncomputable def sem_railref2_long (n : Nat) (xs : List V) : Option V := if xs.length ≤ 11 then denF Tryd.prog (envOf []) n Tryd.f68 an_railref2_long xs else none
theorem ok_railref2_long (n : Nat) : SemOk Tryd.prog DW 68 (sem_railref2_long n) := fun xs y h => by
  unfold sem_railref2_long at h
  split at h
  · rename_i hl
    exact denF_ok stb Tryd.func68 (by kernel_rfl) (envOf_ok semsOk_nil) (by rw [Tryd.ntmps68]; exact hl) h
  · cases h
theorem eq_railref2_long (n : Nat) (x0 : V) : sem_railref2_long n [x0] =
 (bin2 Tryd.prog BinOp.eql 5 (ot 3) (Operand.const (Go.Value.int Go.IntKind.u8 1)) x0 (V.lit (Go.Value.int Go.IntKind.u8 1))).bind fun v1 =>
 condV v1 (
 some (vi 12)) (
 (bin2 Tryd.prog BinOp.eql 5 (ot 5) (Operand.const (Go.Value.int Go.IntKind.u8 2)) x0 (V.lit (Go.Value.int Go.IntKind.u8 2))).bind fun v2 =>
 (guardV v2 false (some x0)).bind fun v3 =>
 (guardV v2 false ((bin2 Tryd.prog BinOp.eql 5 (ot 8) (Operand.const (Go.Value.int Go.IntKind.u8 3)) v3 (V.lit (Go.Value.int Go.IntKind.u8 3))).bind fun v4 =>
 some v4)).bind fun v5 =>
 (pickV v2 (vb true) v5).bind fun v6 =>
 condV v6 (
 some (vi 5)) (
 some (vi 0))) := by kernel_rfl
noncomputable def t_railref2_long (a0 : Int) : Option Int :=
 if (decide (a0 = 1)) = true then (
 some 12) else (
 if ((decide (a0 = 2)) || (decide (a0 = 3))) = true then (
 some 5) else (
 some 0))
theorem ty_railref2_long {n : Nat} (hn : bigN ≤ n) (a0 : Int) : Rv (fun x : Int => (vi x)) (sem_railref2_long n [(V.lit (.int .u8 a0))]) (t_railref2_long a0) := by
  rw [eq_railref2_long]
  unfold t_railref2_long
  refine tb (x := (vb (decide (a0 = 1)))) (q_eql) ?_
  refine tcond (fun h2 => ?_) (fun h2 => ?_)
  · exact rf_ret rfl
  · refine tb (x := (vb (decide (a0 = 2)))) (q_eql) ?_
    refine tg_f (x := (V.lit (.int .u8 a0))) (fun h4 => rfl) ?_
    refine tg_f (x := (vb (decide (a0 = 3)))) (fun h6 => by simp only [gv_t h6]; exact bind_some_eq (q_eql)) ?_
    refine tb (x := (vb ((decide (a0 = 2)) || (decide (a0 = 3))))) (pick_or (fun h9 => gv_t (not_f h9))) ?_
    refine tcond (fun h10 => ?_) (fun h10 => ?_)
    · exact rf_ret rfl
    · exact rf_ret rfl

/-! railpoint/railref2.Decode -/
def an_railref2_Decode : Ann := .seq (.reg 0 [] [] []) (.seq (.seq (.reg 0 [] [] []) (.cond none (.seq (.reg 0 [] [] []) (.no)) (.no))) (.seq (.reg 14 [] [] []) (.seq (.seq (.reg 0 [] [] []) (.cond (some [.kb 2, .b 4]) (.seq (.reg 0 [] [] []) (.seq (.reg 0 [] [] []) (.seq (.reg 0 [] [] []) (.seq (.reg 0 [] [] []) (.seq (.reg 0 [] [] []) (.seq (.reg 0 [] [] []) (.seq (.reg 0 [] [] []) (.reg 0 [] [] [])))))))) (.no))) (.seq (.seq (.reg 0 [] [] []) (.cond none (.seq (.reg 0 [] [] []) (.no)) (.no))) (.seq (.reg 0 [] [] []) (.seq (.seq (.reg 0 [] [] []) (.cond none (.seq (.reg 0 [] [] []) (.no)) (.no))) (.seq (.reg 0 [] [] []) (.no))))))))
noncomputable def sem_railref2_Decode (n : Nat) (xs : List V) : Option V := if xs.length ≤ 91 then denF Tryd.prog (envOf [(68, (sem_railref2_long n)), (9, (sem_railref2_Msg n)), (10, (sem_railref2_Bytes n))]) n Tryd.f13 an_railref2_Decode xs else none
theorem ok_railref2_Decode (n : Nat) : SemOk Tryd.prog DW 13 (sem_railref2_Decode n) := fun xs y h => by
  unfold sem_railref2_Decode at h
  split at h
  · rename_i hl
    exact denF_ok stb Tryd.func13 (by kernel_rfl) (envOf_ok (semsOk_cons (ok_railref2_long n) (semsOk_cons (ok_railref2_Msg n) (semsOk_cons (ok_railref2_Bytes n) semsOk_nil)))) (by rw [Tryd.ntmps13]; exact hl) h
  · cases h
theorem eq_railref2_Decode (n : Nat) (x0 : V) : sem_railref2_Decode n [x0] =
 (bin2 Tryd.prog BinOp.eql 9 (ot 6) (Operand.const (Go.Value.string (ByteArray.mk #[]))) x0 (V.lit (Go.Value.string (ByteArray.mk #[])))).bind fun v1 =>
 (guardV v1 false (some x0)).bind fun v2 =>
 (guardV v1 false ((lenT [v2]).bind fun v3 =>
 some v3)).bind fun v4 =>
 (guardV v1 false (some x0)).bind fun v5 =>
 (guardV v1 false ((scal2 Tryd.prog (Instr.index 9) v5 (vi 0)).bind fun v6 =>
 some v6)).bind fun v7 =>
 (guardV v1 false (((sem_railref2_long n) [v7]).bind fun v8 =>
 some v8)).bind fun v9 =>
 (guardV v1 false ((bin2 Tryd.prog BinOp.neq 3 (ot 10) (ot 13) v4 v9).bind fun v10 =>
 some v10)).bind fun v11 =>
 (pickV v1 (vb true) v11).bind fun v12 =>
 condV v12 (
 ((fillL [(vi 0), (vi 0), (vi 0), (vi 0), (vi 0), (vb false), (vi 0), (vi 0), (vi 0), (vi 0), (vi 0), (vi 0)] []).map V.agg).bind fun v13 =>
 (spliceV [(vi 0), (vi 0), (vi 0), (vi 0), (vi 0), (vb false), (vi 0), (vi 0), (vi 0), (vi 0), (vi 0), (vi 0)] 0 12 v13).bind fun v14 =>
 (ldk (some 12) (List.drop 0 (aggL v14))).bind fun v15 =>
 some (V.tup [v15, (vb false)])) (
 (scal2 Tryd.prog (Instr.index 9) x0 (vi 0)).bind fun v16 =>
 (scal1 Tryd.prog (convert 5 3) v16).bind fun v17 =>
 (scal2 Tryd.prog (Instr.index 9) x0 (vi 1)).bind fun v18 =>
 (scal1 Tryd.prog (convert 5 3) v18).bind fun v19 =>
 (scal2 Tryd.prog (Instr.index 9) x0 (vi 2)).bind fun v20 =>
 (scal1 Tryd.prog (convert 5 3) v20).bind fun v21 =>
 (scal2 Tryd.prog (Instr.index 9) x0 (vi 3)).bind fun v22 =>
 (scal1 Tryd.prog (convert 5 3) v22).bind fun v23 =>
 ((fillL [(vi 0), (vi 0), (vi 0), (vi 0), (vi 0), (vb false), (vi 0), (vi 0), (vi 0), (vi 0), (vi 0), (vi 0)] [(0, 1, v17), (1, 1, v19), (2, 1, v21), (3, 1, v23)]).map V.agg).bind fun v24 =>
 (spliceV [(vi 0), (vi 0), (vi 0), (vi 0), (vi 0), (vb false), (vi 0), (vi 0), (vi 0), (vi 0), (vi 0), (vi 0)] 0 12 v24).bind fun v25 =>
 (ldk none (List.drop 0 (aggL v25))).bind fun v26 =>
 (bin2 Tryd.prog BinOp.eql 3 (ot 31) (oc 1) v26 (vi 1)).bind fun v27 =>
 JoinPt (fun vs28 =>
 (ldk (some 12) (List.drop 0 (aggL (List.getD vs28 0 V.any)))).bind fun v30 =>
 ((sem_railref2_Msg n) [v30]).bind fun v31 =>
 (bin2 Tryd.prog BinOp.neq 3 (ot 81) (oc 0) v31 (vi 0)).bind fun v32 =>
 condV v32 (
 ((fillL [(vi 0), (vi 0), (vi 0), (vi 0), (vi 0), (vb false), (vi 0), (vi 0), (vi 0), (vi 0), (vi 0), (vi 0)] []).map V.agg).bind fun v33 =>
 (spliceV [(vi 0), (vi 0), (vi 0), (vi 0), (vi 0), (vb false), (vi 0), (vi 0), (vi 0), (vi 0), (vi 0), (vi 0)] 0 12 v33).bind fun v34 =>
 (ldk (some 12) (List.drop 0 (aggL v34))).bind fun v35 =>
 some (V.tup [v35, (vb false)])) (
 (ldk (some 12) (List.drop 0 (aggL (List.getD vs28 0 V.any)))).bind fun v36 =>
 ((sem_railref2_Bytes n) [v36]).bind fun v37 =>
 (bin2 Tryd.prog BinOp.neq 9 (ot 86) (ot 87) v37 x0).bind fun v38 =>
 condV v38 (
 ((fillL [(vi 0), (vi 0), (vi 0), (vi 0), (vi 0), (vb false), (vi 0), (vi 0), (vi 0), (vi 0), (vi 0), (vi 0)] []).map V.agg).bind fun v39 =>
 (spliceV [(vi 0), (vi 0), (vi 0), (vi 0), (vi 0), (vb false), (vi 0), (vi 0), (vi 0), (vi 0), (vi 0), (vi 0)] 0 12 v39).bind fun v40 =>
 (ldk (some 12) (List.drop 0 (aggL v40))).bind fun v41 =>
 some (V.tup [v41, (vb false)])) (
 (ldk (some 12) (List.drop 0 (aggL (List.getD vs28 0 V.any)))).bind fun v42 =>
 (spliceV [(vi 0), (vi 0), (vi 0), (vi 0), (vi 0), (vb false), (vi 0), (vi 0), (vi 0), (vi 0), (vi 0), (vi 0)] 0 12 v42).bind fun v43 =>
 (ldk (some 12) (List.drop 0 (aggL v43))).bind fun v44 =>
 some (V.tup [v44, (vb true)])))) fun J29 =>
 condV v27 (
 (ldk none (List.drop 1 (aggL v25))).bind fun v45 =>
 (spliceV (aggL v25) 4 1 v45).bind fun v46 =>
 (scal2 Tryd.prog (Instr.index 9) x0 (vi 4)).bind fun v47 =>
 (bin2 Tryd.prog BinOp.eql 5 (ot 38) (Operand.const (Go.Value.int Go.IntKind.u8 1)) v47 (V.lit (Go.Value.int Go.IntKind.u8 1))).bind fun v48 =>
 (spliceV (aggL v46) 5 1 v48).bind fun v49 =>
 (scal2 Tryd.prog (Instr.index 9) x0 (vi 5)).bind fun v50 =>
 (scal1 Tryd.prog (convert 5 3) v50).bind fun v51 =>
 (spliceV (aggL v49) 6 1 v51).bind fun v52 =>
 (scal2 Tryd.prog (Instr.index 9) x0 (vi 6)).bind fun v53 =>
 (scal1 Tryd.prog (convert 5 3) v53).bind fun v54 =>
 (spliceV (aggL v52) 7 1 v54).bind fun v55 =>
 (scal2 Tryd.prog (Instr.index 9) x0 (vi 7)).bind fun v56 =>
 (scal1 Tryd.prog (convert 5 3) v56).bind fun v57 =>
 (spliceV (aggL v55) 8 1 v57).bind fun v58 =>
 (scal2 Tryd.prog (Instr.index 9) x0 (vi 8)).bind fun v59 =>
 (scal1 Tryd.prog (convert 5 3) v59).bind fun v60 =>
 (spliceV (aggL v58) 9 1 v60).bind fun v61 =>
 (scal2 Tryd.prog (Instr.index 9) x0 (vi 9)).bind fun v62 =>
 (scal1 Tryd.prog (convert 5 3) v62).bind fun v63 =>
 (spliceV (aggL v61) 10 1 v63).bind fun v64 =>
 (scal2 Tryd.prog (Instr.index 9) x0 (vi 10)).bind fun v65 =>
 (scal1 Tryd.prog (convert 5 3) v65).bind fun v66 =>
 (spliceV (aggL v64) 11 1 v66).bind fun v67 =>
 (keepO (some [(vi 0), (vi 0), (vi 0), (vi 0), (vi 0), (vb false), (vi 0), (vi 0), (vi 0), (vi 0), (vi 0), (vi 0)]) (some [(vi 0), (vi 0), (vi 0), (vi 0), (vi 0), (vb false), (vi 0), (vi 0), (vi 0), (vi 0), (vi 0), (vi 0)]) (some [(V.agg (aggL v67))])).bind J29) (
 (keepO (some [(vi 0), (vi 0), (vi 0), (vi 0), (vi 0), (vb false), (vi 0), (vi 0), (vi 0), (vi 0), (vi 0), (vi 0)]) (some [(vi 0), (vi 0), (vi 0), (vi 0), (vi 0), (vb false), (vi 0), (vi 0), (vi 0), (vi 0), (vi 0), (vi 0)]) (some [(V.agg (aggL v25))])).bind J29)) := by kernel_rfl
noncomputable def t_railref2_Decode (a0 : ByteArray) : Option (T_Msg × Bool) :=
 (gd (!(decide (a0 = (ByteArray.mk #[])))) default (sidx a0 0)).bind fun r12 =>
 (gd (!(decide (a0 = (ByteArray.mk #[])))) default (t_railref2_long r12)).bind fun r16 =>
 if ((decide (a0 = (ByteArray.mk #[]))) || (decide ((a0.size : Int) ≠ r16))) = true then (
 some ((T_Msg.mk 0 0 0 0 (T_Op.mk 0 false (T_Rule.mk 0 (T_Cube.mk 0 0) 0 0 0))), false)) else (
 (sidx a0 0).bind fun r26 =>
 (sidx a0 1).bind fun r29 =>
 (sidx a0 2).bind fun r32 =>
 (sidx a0 3).bind fun r35 =>
 (if (decide ((wr r26) = 1)) = true then (
 (sidx a0 4).bind fun r69 =>
 (sidx a0 5).bind fun r73 =>
 (sidx a0 6).bind fun r77 =>
 (sidx a0 7).bind fun r81 =>
 (sidx a0 8).bind fun r85 =>
 (sidx a0 9).bind fun r89 =>
 (sidx a0 10).bind fun r93 =>
 some (T_Msg.mk (wr r26) (wr r29) (wr r32) (wr r35) (T_Op.mk (wr r29) (decide (r69 = 1)) (T_Rule.mk (wr r73) (T_Cube.mk (wr r77) (wr r81)) (wr r85) (wr r89) (wr r93))))) else (
 some (T_Msg.mk (wr r26) (wr r29) (wr r32) (wr r35) (T_Op.mk 0 false (T_Rule.mk 0 (T_Cube.mk 0 0) 0 0 0))))).bind fun (s43 : T_Msg) =>
 (t_railref2_Msg s43).bind fun r48 =>
 if (decide (r48 ≠ 0)) = true then (
 some ((T_Msg.mk 0 0 0 0 (T_Op.mk 0 false (T_Rule.mk 0 (T_Cube.mk 0 0) 0 0 0))), false)) else (
 (t_railref2_Bytes s43).bind fun r56 =>
 if (!decide (r56 = a0)) = true then (
 some ((T_Msg.mk 0 0 0 0 (T_Op.mk 0 false (T_Rule.mk 0 (T_Cube.mk 0 0) 0 0 0))), false)) else (
 some (s43, true))))
theorem ty_railref2_Decode {n : Nat} (hn : bigN ≤ n) (a0 : ByteArray) : Rv (fun x : (T_Msg × Bool) => V.tup [(T_Msg.e x.1), (vb x.2)]) (sem_railref2_Decode n [(vt a0)]) (t_railref2_Decode a0) := by
  rw [eq_railref2_Decode]
  unfold t_railref2_Decode
  refine tb (x := (vb (decide (a0 = (ByteArray.mk #[]))))) (p_eql_str) ?_
  refine tg_f (x := (vt a0)) (fun h2 => rfl) ?_
  refine tg_f (x := (vi (a0.size : Int))) (fun h4 => by simp only [gv_t h4]; exact bind_some_eq (rfl)) ?_
  refine tg_f (x := (vt a0)) (fun h7 => rfl) ?_
  refine tgo_f (fun h9 => by simp only [gv_t h9]; exact rf_bind_some (p_sidx (Tryd.underlying9) a0 0)) fun r12 => ?_
  refine tgo_f (fun h13 => by simp only [gv_t h13]; exact rf_bind_some (ty_railref2_long hn r12)) fun r16 => ?_
  refine tg_f (x := (vb (decide ((a0.size : Int) ≠ r16)))) (fun h17 => by simp only [gv_t h17]; exact bind_some_eq (d_neq)) ?_
  refine tb (x := (vb ((decide (a0 = (ByteArray.mk #[]))) || (decide ((a0.size : Int) ≠ r16))))) (pick_or (fun h9 => gv_t (not_f h9))) ?_
  refine tcond (fun h21 => ?_) (fun h21 => ?_)
  · refine tb (x := (T_Msg.e (T_Msg.mk 0 0 0 0 (T_Op.mk 0 false (T_Rule.mk 0 (T_Cube.mk 0 0) 0 0 0))))) (by kernel_rfl) ?_
    refine tb (x := V.agg (T_Msg.c (T_Msg.mk 0 0 0 0 (T_Op.mk 0 false (T_Rule.mk 0 (T_Cube.mk 0 0) 0 0 0))))) (by kernel_rfl) ?_
    refine tb (x := (T_Msg.e (T_Msg.mk 0 0 0 0 (T_Op.mk 0 false (T_Rule.mk 0 (T_Cube.mk 0 0) 0 0 0))))) rfl ?_
    exact rf_ret rfl
  · refine tbo (p_sidx (Tryd.underlying9) a0 0) fun r26 => ?_
    refine tb (x := (vi (wr r26))) (scal1_lit (r := .int .i64 (IntKind.i64.wrap r26)) rfl (fun w => by kernel_rfl) rfl) ?_
    refine tbo (p_sidx (Tryd.underlying9) a0 1) fun r29 => ?_
    refine tb (x := (vi (wr r29))) (scal1_lit (r := .int .i64 (IntKind.i64.wrap r29)) rfl (fun w => by kernel_rfl) rfl) ?_
    refine tbo (p_sidx (Tryd.underlying9) a0 2) fun r32 => ?_
    refine tb (x := (vi (wr r32))) (scal1_lit (r := .int .i64 (IntKind.i64.wrap r32)) rfl (fun w => by kernel_rfl) rfl) ?_
    refine tbo (p_sidx (Tryd.underlying9) a0 3) fun r35 => ?_
    refine tb (x := (vi (wr r35))) (scal1_lit (r := .int .i64 (IntKind.i64.wrap r35)) rfl (fun w => by kernel_rfl) rfl) ?_
    refine tb (x := (T_Msg.e (T_Msg.mk (wr r26) (wr r29) (wr r32) (wr r35) (T_Op.mk 0 false (T_Rule.mk 0 (T_Cube.mk 0 0) 0 0 0))))) (by kernel_rfl) ?_
    refine tb (x := V.agg (T_Msg.c (T_Msg.mk (wr r26) (wr r29) (wr r32) (wr r35) (T_Op.mk 0 false (T_Rule.mk 0 (T_Cube.mk 0 0) 0 0 0))))) (by kernel_rfl) ?_
    refine tb (x := (vi (wr r26))) (rfl) ?_
    refine tb (x := (vb (decide ((wr r26) = 1)))) (d_eql) ?_
    refine tjb (mk := fun s43 : T_Msg => [(V.agg (T_Msg.c s43))]) (fun J42 => ?_) fun s43 => ?_
    · refine tcond (fun h65 => ?_) (fun h65 => ?_)
      · refine tb (x := (vi (wr r29))) (rfl) ?_
        refine tb (x := V.agg (T_Msg.c (T_Msg.mk (wr r26) (wr r29) (wr r32) (wr r35) (T_Op.mk (wr r29) false (T_Rule.mk 0 (T_Cube.mk 0 0) 0 0 0))))) (by kernel_rfl) ?_
        refine tbo (p_sidx (Tryd.underlying9) a0 4) fun r69 => ?_
        refine tb (x := (vb (decide (r69 = 1)))) (q_eql) ?_
        refine tb (x := V.agg (T_Msg.c (T_Msg.mk (wr r26) (wr r29) (wr r32) (wr r35) (T_Op.mk (wr r29) (decide (r69 = 1)) (T_Rule.mk 0 (T_Cube.mk 0 0) 0 0 0))))) (by kernel_rfl) ?_
        refine tbo (p_sidx (Tryd.underlying9) a0 5) fun r73 => ?_
        refine tb (x := (vi (wr r73))) (scal1_lit (r := .int .i64 (IntKind.i64.wrap r73)) rfl (fun w => by kernel_rfl) rfl) ?_
        refine tb (x := V.agg (T_Msg.c (T_Msg.mk (wr r26) (wr r29) (wr r32) (wr r35) (T_Op.mk (wr r29) (decide (r69 = 1)) (T_Rule.mk (wr r73) (T_Cube.mk 0 0) 0 0 0))))) (by kernel_rfl) ?_
        refine tbo (p_sidx (Tryd.underlying9) a0 6) fun r77 => ?_
        refine tb (x := (vi (wr r77))) (scal1_lit (r := .int .i64 (IntKind.i64.wrap r77)) rfl (fun w => by kernel_rfl) rfl) ?_
        refine tb (x := V.agg (T_Msg.c (T_Msg.mk (wr r26) (wr r29) (wr r32) (wr r35) (T_Op.mk (wr r29) (decide (r69 = 1)) (T_Rule.mk (wr r73) (T_Cube.mk (wr r77) 0) 0 0 0))))) (by kernel_rfl) ?_
        refine tbo (p_sidx (Tryd.underlying9) a0 7) fun r81 => ?_
        refine tb (x := (vi (wr r81))) (scal1_lit (r := .int .i64 (IntKind.i64.wrap r81)) rfl (fun w => by kernel_rfl) rfl) ?_
        refine tb (x := V.agg (T_Msg.c (T_Msg.mk (wr r26) (wr r29) (wr r32) (wr r35) (T_Op.mk (wr r29) (decide (r69 = 1)) (T_Rule.mk (wr r73) (T_Cube.mk (wr r77) (wr r81)) 0 0 0))))) (by kernel_rfl) ?_
        refine tbo (p_sidx (Tryd.underlying9) a0 8) fun r85 => ?_
        refine tb (x := (vi (wr r85))) (scal1_lit (r := .int .i64 (IntKind.i64.wrap r85)) rfl (fun w => by kernel_rfl) rfl) ?_
        refine tb (x := V.agg (T_Msg.c (T_Msg.mk (wr r26) (wr r29) (wr r32) (wr r35) (T_Op.mk (wr r29) (decide (r69 = 1)) (T_Rule.mk (wr r73) (T_Cube.mk (wr r77) (wr r81)) (wr r85) 0 0))))) (by kernel_rfl) ?_
        refine tbo (p_sidx (Tryd.underlying9) a0 9) fun r89 => ?_
        refine tb (x := (vi (wr r89))) (scal1_lit (r := .int .i64 (IntKind.i64.wrap r89)) rfl (fun w => by kernel_rfl) rfl) ?_
        refine tb (x := V.agg (T_Msg.c (T_Msg.mk (wr r26) (wr r29) (wr r32) (wr r35) (T_Op.mk (wr r29) (decide (r69 = 1)) (T_Rule.mk (wr r73) (T_Cube.mk (wr r77) (wr r81)) (wr r85) (wr r89) 0))))) (by kernel_rfl) ?_
        refine tbo (p_sidx (Tryd.underlying9) a0 10) fun r93 => ?_
        refine tb (x := (vi (wr r93))) (scal1_lit (r := .int .i64 (IntKind.i64.wrap r93)) rfl (fun w => by kernel_rfl) rfl) ?_
        refine tb (x := V.agg (T_Msg.c (T_Msg.mk (wr r26) (wr r29) (wr r32) (wr r35) (T_Op.mk (wr r29) (decide (r69 = 1)) (T_Rule.mk (wr r73) (T_Cube.mk (wr r77) (wr r81)) (wr r85) (wr r89) (wr r93)))))) (by kernel_rfl) ?_
        refine tkeepO2 ?_ rfl
        refine tsome ?_
        exact rf_j rfl
      · refine tkeepO2 ?_ rfl
        refine tsome ?_
        exact rf_j rfl
    · refine tb (x := (T_Msg.e s43)) (rfl) ?_
      refine tbo (ty_railref2_Msg hn s43) fun r48 => ?_
      refine tb (x := (vb (decide (r48 ≠ 0)))) (d_neq) ?_
      refine tcond (fun h50 => ?_) (fun h50 => ?_)
      · refine tb (x := (T_Msg.e (T_Msg.mk 0 0 0 0 (T_Op.mk 0 false (T_Rule.mk 0 (T_Cube.mk 0 0) 0 0 0))))) (by kernel_rfl) ?_
        refine tb (x := V.agg (T_Msg.c (T_Msg.mk 0 0 0 0 (T_Op.mk 0 false (T_Rule.mk 0 (T_Cube.mk 0 0) 0 0 0))))) (by kernel_rfl) ?_
        refine tb (x := (T_Msg.e (T_Msg.mk 0 0 0 0 (T_Op.mk 0 false (T_Rule.mk 0 (T_Cube.mk 0 0) 0 0 0))))) rfl ?_
        exact rf_ret rfl
      · refine tb (x := (T_Msg.e s43)) (rfl) ?_
        refine tbo (ty_railref2_Bytes hn s43) fun r56 => ?_
        refine tb (x := (vb (!decide (r56 = a0)))) (p_neq_str) ?_
        refine tcond (fun h58 => ?_) (fun h58 => ?_)
        · refine tb (x := (T_Msg.e (T_Msg.mk 0 0 0 0 (T_Op.mk 0 false (T_Rule.mk 0 (T_Cube.mk 0 0) 0 0 0))))) (by kernel_rfl) ?_
          refine tb (x := V.agg (T_Msg.c (T_Msg.mk 0 0 0 0 (T_Op.mk 0 false (T_Rule.mk 0 (T_Cube.mk 0 0) 0 0 0))))) (by kernel_rfl) ?_
          refine tb (x := (T_Msg.e (T_Msg.mk 0 0 0 0 (T_Op.mk 0 false (T_Rule.mk 0 (T_Cube.mk 0 0) 0 0 0))))) rfl ?_
          exact rf_ret rfl
        · refine tb (x := (T_Msg.e s43)) (rfl) ?_
          refine tb (x := V.agg (T_Msg.c s43)) (by kernel_rfl) ?_
          refine tb (x := (T_Msg.e s43)) rfl ?_
          exact rf_ret rfl

/-! railpoint/wire.size -/
def an_wire_size : Ann := .seq (.reg 0 [] [] []) (.seq (.seq (.reg 0 [] [] []) (.blk none (.seq (.reg 0 [] [] []) (.cond none (.seq (.reg 0 [] [] []) (.no)) (.seq (.seq (.reg 0 [] [] []) (.cond (some [.s 7]) (.no) (.reg 0 [] [] []))) (.cond none (.seq (.reg 0 [] [] []) (.no)) (.no))))))) (.seq (.reg 0 [] [] []) (.no)))
noncomputable def sem_wire_size (n : Nat) (xs : List V) : Option V := if xs.length ≤ 10 then denF Tryd.prog (envOf []) n Tryd.f69 an_wire_size xs else none
theorem ok_wire_size (n : Nat) : SemOk Tryd.prog DW 69 (sem_wire_size n) := fun xs y h => by
  unfold sem_wire_size at h
  split at h
  · rename_i hl
    exact denF_ok stb Tryd.func69 (by kernel_rfl) (envOf_ok semsOk_nil) (by rw [Tryd.ntmps69]; exact hl) h
  · cases h
theorem eq_wire_size (n : Nat) (x0 : V) : sem_wire_size n [x0] =
 (scal1 Tryd.prog (convert 5 3) x0).bind fun v1 =>
 (bin2 Tryd.prog BinOp.eql 3 (ot 4) (oc 1) v1 (vi 1)).bind fun v2 =>
 condV v2 (
 some (vi 12)) (
 (bin2 Tryd.prog BinOp.eql 3 (ot 4) (oc 2) v1 (vi 2)).bind fun v3 =>
 JoinPt (fun vs4 =>
 condV (List.getD vs4 0 V.any) (
 some (vi 5)) (
 some (vi 0))) fun J5 =>
 condV v3 (
 J5 [v3]) (
 (bin2 Tryd.prog BinOp.eql 3 (ot 4) (oc 3) v1 (vi 3)).bind fun v6 =>
 J5 [v6])) := by kernel_rfl
noncomputable def t_wire_size (a0 : Int) : Option Int :=
 if (decide ((wr a0) = 1)) = true then (
 some 12) else (
 (if (decide ((wr a0) = 2)) = true then (
 some (decide ((wr a0) = 2))) else (
 some (decide ((wr a0) = 3)))).bind fun (s7 : Bool) =>
 if s7 = true then (
 some 5) else (
 some 0))
theorem ty_wire_size {n : Nat} (hn : bigN ≤ n) (a0 : Int) : Rv (fun x : Int => (vi x)) (sem_wire_size n [(V.lit (.int .u8 a0))]) (t_wire_size a0) := by
  rw [eq_wire_size]
  unfold t_wire_size
  refine tb (x := (vi (wr a0))) (scal1_lit (r := .int .i64 (IntKind.i64.wrap a0)) rfl (fun w => by kernel_rfl) rfl) ?_
  refine tb (x := (vb (decide ((wr a0) = 1)))) (d_eql) ?_
  refine tcond (fun h3 => ?_) (fun h3 => ?_)
  · exact rf_ret rfl
  · refine tb (x := (vb (decide ((wr a0) = 2)))) (d_eql) ?_
    refine tjb (mk := fun s7 : Bool => [(vb s7)]) (fun J6 => ?_) fun s7 => ?_
    · refine tcond (fun h11 => ?_) (fun h11 => ?_)
      · exact rf_j rfl
      · refine tb (x := (vb (decide ((wr a0) = 3)))) (d_eql) ?_
        exact rf_j rfl
    · refine tcond (fun h10 => ?_) (fun h10 => ?_)
      · exact rf_ret rfl
      · exact rf_ret rfl

/-! railpoint/wire.Decode$1 -/
def an_wire_Decode_1 : Ann := .seq (.reg 0 [] [] []) (.seq (.reg 0 [] [] []) (.no))
noncomputable def sem_wire_Decode_1 (n : Nat) (xs : List V) : Option V := if xs.length ≤ 8 then denF Tryd.prog (envOf []) n Tryd.f70 an_wire_Decode_1 xs else none
theorem ok_wire_Decode_1 (n : Nat) : SemOk Tryd.prog DW 70 (sem_wire_Decode_1 n) := fun xs y h => by
  unfold sem_wire_Decode_1 at h
  split at h
  · rename_i hl
    exact denF_ok stb Tryd.func70 (by kernel_rfl) (envOf_ok semsOk_nil) (by rw [Tryd.ntmps70]; exact hl) h
  · cases h
theorem eq_wire_Decode_1 (n : Nat) (x0 x1 : V) : sem_wire_Decode_1 n [x0, x1] =
 (ldp none x1).bind fun v1 =>
 (scal2 Tryd.prog (Instr.index 9) v1 x0).bind fun v2 =>
 (scal1 Tryd.prog (convert 5 3) v2).bind fun v3 =>
 some v3 := by kernel_rfl
noncomputable def t_wire_Decode_1 (a0 : Int) (a1 : ByteArray) : Option Int :=
 (sidx a1 a0).bind fun r3 =>
 some (wr r3)
theorem ty_wire_Decode_1 {n : Nat} (hn : bigN ≤ n) (a0 : Int) (a1 : ByteArray) : Rv (fun x : Int => (vi x)) (sem_wire_Decode_1 n [(vi a0), (V.ptr [(vt a1)])]) (t_wire_Decode_1 a0 a1) := by
  rw [eq_wire_Decode_1]
  unfold t_wire_Decode_1
  refine tb (x := (vt a1)) (rfl) ?_
  refine tbo (p_sidx (Tryd.underlying9) a1 a0) fun r3 => ?_
  refine tb (x := (vi (wr r3))) (scal1_lit (r := .int .i64 (IntKind.i64.wrap r3)) rfl (fun w => by kernel_rfl) rfl) ?_
  exact rf_ret rfl

/-! railpoint/wire.Decode -/
def an_wire_Decode : Ann := .seq (.reg 0 [] [] []) (.seq (.seq (.reg 10 [] [] []) (.cond none (.seq (.reg 0 [] [] []) (.no)) (.no))) (.seq (.reg 0 [1] [] []) (.seq (.reg 0 [] [] []) (.seq (.seq (.reg 0 [] [] []) (.cond (some [.kb 2, .b 5]) (.reg 21 [] [] []) (.no))) (.seq (.seq (.reg 0 [] [] []) (.seq (.reg 0 [] [] []) (.cond none (.seq (.reg 0 [] [] []) (.no)) (.no)))) (.seq (.reg 0 [] [] []) (.no)))))))
noncomputable def sem_wire_Decode (n : Nat) (xs : List V) : Option V := if xs.length ≤ 69 then denF Tryd.prog (envOf [(69, (sem_wire_size n)), (11, (sem_wire_Encode n)), (70, (sem_wire_Decode_1 n))]) n Tryd.f14 an_wire_Decode xs else none
theorem ok_wire_Decode (n : Nat) : SemOk Tryd.prog DW 14 (sem_wire_Decode n) := fun xs y h => by
  unfold sem_wire_Decode at h
  split at h
  · rename_i hl
    exact denF_ok stb Tryd.func14 (by kernel_rfl) (envOf_ok (semsOk_cons (ok_wire_size n) (semsOk_cons (ok_wire_Encode n) (semsOk_cons (ok_wire_Decode_1 n) semsOk_nil)))) (by rw [Tryd.ntmps14]; exact hl) h
  · cases h
theorem eq_wire_Decode (n : Nat) (x0 : V) : sem_wire_Decode n [x0] =
 (V.cellsO x0).bind fun v1 =>
 (ldk none (List.drop 0 v1)).bind fun v2 =>
 (bin2 Tryd.prog BinOp.eql 9 (ot 8) (Operand.const (Go.Value.string (ByteArray.mk #[]))) v2 (V.lit (Go.Value.string (ByteArray.mk #[])))).bind fun v3 =>
 (guardV v3 false ((ldk none (List.drop 0 v1)).bind fun v4 =>
 some v4)).bind fun v5 =>
 (guardV v3 false ((lenT [v5]).bind fun v6 =>
 some v6)).bind fun v7 =>
 (guardV v3 false ((ldk none (List.drop 0 v1)).bind fun v8 =>
 some v8)).bind fun v9 =>
 (guardV v3 false ((scal2 Tryd.prog (Instr.index 9) v9 (vi 0)).bind fun v10 =>
 some v10)).bind fun v11 =>
 (guardV v3 false (((sem_wire_size n) [v11]).bind fun v12 =>
 some v12)).bind fun v13 =>
 (guardV v3 false ((bin2 Tryd.prog BinOp.neq 3 (ot 12) (ot 15) v7 v13).bind fun v14 =>
 some v14)).bind fun v15 =>
 (pickV v3 (vb true) v15).bind fun v16 =>
 condV v16 (
 ((fillL [(vi 0), (vi 0), (vi 0), (vi 0), (vi 0), (vb false), (vi 0), (vi 0), (vi 0), (vi 0), (vi 0), (vi 0)] []).map V.agg).bind fun v17 =>
 (scal1 Tryd.prog (Instr.makeInterface 119) (vi 2)).bind fun v18 =>
 (spliceV [(vi 0), (vi 0), (vi 0), (vi 0), (vi 0), (vb false), (vi 0), (vi 0), (vi 0), (vi 0), (vi 0), (vi 0)] 0 12 v17).bind fun v19 =>
 (ldk (some 12) (List.drop 0 (aggL v19))).bind fun v20 =>
 some (V.tup [v20, v18])) (
 ((sem_wire_Decode_1 n) [(vi 0), (V.ptr v1)]).bind fun v21 =>
 ((sem_wire_Decode_1 n) [(vi 1), (V.ptr v1)]).bind fun v22 =>
 ((sem_wire_Decode_1 n) [(vi 2), (V.ptr v1)]).bind fun v23 =>
 ((sem_wire_Decode_1 n) [(vi 3), (V.ptr v1)]).bind fun v24 =>
 ((fillL [(vi 0), (vi 0), (vi 0), (vi 0), (vi 0), (vb false), (vi 0), (vi 0), (vi 0), (vi 0), (vi 0), (vi 0)] [(0, 1, v21), (1, 1, v22), (2, 1, v23), (3, 1, v24)]).map V.agg).bind fun v25 =>
 (spliceV [(vi 0), (vi 0), (vi 0), (vi 0), (vi 0), (vb false), (vi 0), (vi 0), (vi 0), (vi 0), (vi 0), (vi 0)] 0 12 v25).bind fun v26 =>
 (ldk none (List.drop 0 (aggL v26))).bind fun v27 =>
 (bin2 Tryd.prog BinOp.eql 3 (ot 31) (oc 1) v27 (vi 1)).bind fun v28 =>
 JoinPt (fun vs29 =>
 (ldk (some 12) (List.drop 0 (aggL (List.getD vs29 0 V.any)))).bind fun v31 =>
 ((sem_wire_Encode n) [v31]).bind fun v32 =>
 (extractV v32 0).bind fun v33 =>
 (extractV v32 1).bind fun v34 =>
 (bin2 Tryd.prog BinOp.neq 33 (ot 59) (Operand.const Go.Value.nilIface) v34 vn).bind fun v35 =>
 (guardV v35 false (some v33)).bind fun v36 =>
 (guardV v35 false ((ldp none (V.ptr v1)).bind fun v37 =>
 some v37)).bind fun v38 =>
 (guardV v35 false ((bin2 Tryd.prog BinOp.neq 9 (ot 62) (ot 63) v36 v38).bind fun v39 =>
 some v39)).bind fun v40 =>
 (pickV v35 (vb true) v40).bind fun v41 =>
 condV v41 (
 ((fillL [(vi 0), (vi 0), (vi 0), (vi 0), (vi 0), (vb false), (vi 0), (vi 0), (vi 0), (vi 0), (vi 0), (vi 0)] []).map V.agg).bind fun v42 =>
 (scal1 Tryd.prog (Instr.makeInterface 119) (vi 2)).bind fun v43 =>
 (spliceV [(vi 0), (vi 0), (vi 0), (vi 0), (vi 0), (vb false), (vi 0), (vi 0), (vi 0), (vi 0), (vi 0), (vi 0)] 0 12 v42).bind fun v44 =>
 (ldk (some 12) (List.drop 0 (aggL v44))).bind fun v45 =>
 some (V.tup [v45, v43])) (
 (ldk (some 12) (List.drop 0 (aggL (List.getD vs29 0 V.any)))).bind fun v46 =>
 (spliceV [(vi 0), (vi 0), (vi 0), (vi 0), (vi 0), (vb false), (vi 0), (vi 0), (vi 0), (vi 0), (vi 0), (vi 0)] 0 12 v46).bind fun v47 =>
 (ldk (some 12) (List.drop 0 (aggL v47))).bind fun v48 =>
 some (V.tup [v48, vn]))) fun J30 =>
 condV v28 (
 (ldk none (List.drop 1 (aggL v26))).bind fun v49 =>
 ((sem_wire_Decode_1 n) [(vi 4), (V.ptr v1)]).bind fun v50 =>
 (bin2 Tryd.prog BinOp.eql 3 (ot 36) (oc 1) v50 (vi 1)).bind fun v51 =>
 ((sem_wire_Decode_1 n) [(vi 5), (V.ptr v1)]).bind fun v52 =>
 ((sem_wire_Decode_1 n) [(vi 6), (V.ptr v1)]).bind fun v53 =>
 ((sem_wire_Decode_1 n) [(vi 7), (V.ptr v1)]).bind fun v54 =>
 ((fillL [(vi 0), (vi 0)] [(0, 1, v53), (1, 1, v54)]).map V.agg).bind fun v55 =>
 ((sem_wire_Decode_1 n) [(vi 8), (V.ptr v1)]).bind fun v56 =>
 ((sem_wire_Decode_1 n) [(vi 9), (V.ptr v1)]).bind fun v57 =>
 ((sem_wire_Decode_1 n) [(vi 10), (V.ptr v1)]).bind fun v58 =>
 ((fillL [(vi 0), (vi 0), (vi 0), (vi 0), (vi 0), (vi 0)] [(0, 1, v52), (1, 2, v55), (3, 1, v56), (4, 1, v57), (5, 1, v58)]).map V.agg).bind fun v59 =>
 ((fillL [(vi 0), (vb false), (vi 0), (vi 0), (vi 0), (vi 0), (vi 0), (vi 0)] [(0, 1, v49), (1, 1, v51), (2, 6, v59)]).map V.agg).bind fun v60 =>
 (spliceV (aggL v26) 4 8 v60).bind fun v61 =>
 (keepO (some [(vi 0), (vi 0), (vi 0), (vi 0), (vi 0), (vb false), (vi 0), (vi 0), (vi 0), (vi 0), (vi 0), (vi 0)]) (some [(vi 0), (vi 0), (vi 0), (vi 0), (vi 0), (vb false), (vi 0), (vi 0), (vi 0), (vi 0), (vi 0), (vi 0)]) (some [(V.agg (aggL v61))])).bind J30) (
 (keepO (some [(vi 0), (vi 0), (vi 0), (vi 0), (vi 0), (vb false), (vi 0), (vi 0), (vi 0), (vi 0), (vi 0), (vi 0)]) (some [(vi 0), (vi 0), (vi 0), (vi 0), (vi 0), (vb false), (vi 0), (vi 0), (vi 0), (vi 0), (vi 0), (vi 0)]) (some [(V.agg (aggL v26))])).bind J30)) := by kernel_rfl
noncomputable def t_wire_Decode (a0 : ByteArray) : Option (T_Msg × Int) :=
 (gd (!(decide (a0 = (ByteArray.mk #[])))) default (sidx a0 0)).bind fun r16 =>
 (gd (!(decide (a0 = (ByteArray.mk #[])))) default (t_wire_size r16)).bind fun r20 =>
 if ((decide (a0 = (ByteArray.mk #[]))) || (decide ((a0.size : Int) ≠ r20))) = true then (
 some ((T_Msg.mk 0 0 0 0 (T_Op.mk 0 false (T_Rule.mk 0 (T_Cube.mk 0 0) 0 0 0))), 2)) else (
 (t_wire_Decode_1 0 a0).bind fun r31 =>
 (t_wire_Decode_1 1 a0).bind fun r33 =>
 (t_wire_Decode_1 2 a0).bind fun r35 =>
 (t_wire_Decode_1 3 a0).bind fun r37 =>
 (if (decide (r31 = 1)) = true then (
 (t_wire_Decode_1 4 a0).bind fun r73 =>
 (t_wire_Decode_1 5 a0).bind fun r76 =>
 (t_wire_Decode_1 6 a0).bind fun r78 =>
 (t_wire_Decode_1 7 a0).bind fun r80 =>
 (t_wire_Decode_1 8 a0).bind fun r83 =>
 (t_wire_Decode_1 9 a0).bind fun r85 =>
 (t_wire_Decode_1 10 a0).bind fun r87 =>
 some (T_Msg.mk r31 r33 r35 r37 (T_Op.mk r33 (decide (r73 = 1)) (T_Rule.mk r76 (T_Cube.mk r78 r80) r83 r85 r87)))) else (
 some (T_Msg.mk r31 r33 r35 r37 (T_Op.mk 0 false (T_Rule.mk 0 (T_Cube.mk 0 0) 0 0 0))))).bind fun (s44 : T_Msg) =>
 (t_wire_Encode s44).bind fun r49 =>
 if ((!decide (r49.2 = 0)) || (!decide (r49.1 = a0))) = true then (
 some ((T_Msg.mk 0 0 0 0 (T_Op.mk 0 false (T_Rule.mk 0 (T_Cube.mk 0 0) 0 0 0))), 2)) else (
 some (s44, 0)))
theorem ty_wire_Decode {n : Nat} (hn : bigN ≤ n) (a0 : ByteArray) : Rv (fun x : (T_Msg × Int) => V.tup [(T_Msg.e x.1), (eV x.2)]) (sem_wire_Decode n [(vt a0)]) (t_wire_Decode a0) := by
  rw [eq_wire_Decode]
  unfold t_wire_Decode
  refine tb (x := [(vt a0)]) rfl ?_
  refine tb (x := (vt a0)) (rfl) ?_
  refine tb (x := (vb (decide (a0 = (ByteArray.mk #[]))))) (p_eql_str) ?_
  refine tg_f (x := (vt a0)) (fun h4 => bind_some_eq (rfl)) ?_
  refine tg_f (x := (vi (a0.size : Int))) (fun h7 => by simp only [gv_t h7]; exact bind_some_eq (rfl)) ?_
  refine tg_f (x := (vt a0)) (fun h10 => bind_some_eq (rfl)) ?_
  refine tgo_f (fun h13 => by simp only [gv_t h13]; exact rf_bind_some (p_sidx (Tryd.underlying9) a0 0)) fun r16 => ?_
  refine tgo_f (fun h17 => by simp only [gv_t h17]; exact rf_bind_some (ty_wire_size hn r16)) fun r20 => ?_
  refine tg_f (x := (vb (decide ((a0.size : Int) ≠ r20)))) (fun h21 => by simp only [gv_t h21]; exact bind_some_eq (d_neq)) ?_
  refine tb (x := (vb ((decide (a0 = (ByteArray.mk #[]))) || (decide ((a0.size : Int) ≠ r20))))) (pick_or (fun h9 => gv_t (not_f h9))) ?_
  refine tcond (fun h25 => ?_) (fun h25 => ?_)
  · refine tb (x := (T_Msg.e (T_Msg.mk 0 0 0 0 (T_Op.mk 0 false (T_Rule.mk 0 (T_Cube.mk 0 0) 0 0 0))))) (by kernel_rfl) ?_
    refine tb (x := (eV 2)) (p_mkE (by decide)) ?_
    refine tb (x := V.agg (T_Msg.c (T_Msg.mk 0 0 0 0 (T_Op.mk 0 false (T_Rule.mk 0 (T_Cube.mk 0 0) 0 0 0))))) (by kernel_rfl) ?_
    refine tb (x := (T_Msg.e (T_Msg.mk 0 0 0 0 (T_Op.mk 0 false (T_Rule.mk 0 (T_Cube.mk 0 0) 0 0 0))))) rfl ?_
    exact rf_ret rfl
  · refine tbo (ty_wire_Decode_1 hn 0 a0) fun r31 => ?_
    refine tbo (ty_wire_Decode_1 hn 1 a0) fun r33 => ?_
    refine tbo (ty_wire_Decode_1 hn 2 a0) fun r35 => ?_
    refine tbo (ty_wire_Decode_1 hn 3 a0) fun r37 => ?_
    refine tb (x := (T_Msg.e (T_Msg.mk r31 r33 r35 r37 (T_Op.mk 0 false (T_Rule.mk 0 (T_Cube.mk 0 0) 0 0 0))))) (by kernel_rfl) ?_
    refine tb (x := V.agg (T_Msg.c (T_Msg.mk r31 r33 r35 r37 (T_Op.mk 0 false (T_Rule.mk 0 (T_Cube.mk 0 0) 0 0 0))))) (by kernel_rfl) ?_
    refine tb (x := (vi r31)) (rfl) ?_
    refine tb (x := (vb (decide (r31 = 1)))) (d_eql) ?_
    refine tjb (mk := fun s44 : T_Msg => [(V.agg (T_Msg.c s44))]) (fun J43 => ?_) fun s44 => ?_
    · refine tcond (fun h70 => ?_) (fun h70 => ?_)
      · refine tb (x := (vi r33)) (rfl) ?_
        refine tbo (ty_wire_Decode_1 hn 4 a0) fun r73 => ?_
        refine tb (x := (vb (decide (r73 = 1)))) (d_eql) ?_
        refine tbo (ty_wire_Decode_1 hn 5 a0) fun r76 => ?_
        refine tbo (ty_wire_Decode_1 hn 6 a0) fun r78 => ?_
        refine tbo (ty_wire_Decode_1 hn 7 a0) fun r80 => ?_
        refine tb (x := (T_Cube.e (T_Cube.mk r78 r80))) (by kernel_rfl) ?_
        refine tbo (ty_wire_Decode_1 hn 8 a0) fun r83 => ?_
        refine tbo (ty_wire_Decode_1 hn 9 a0) fun r85 => ?_
        refine tbo (ty_wire_Decode_1 hn 10 a0) fun r87 => ?_
        refine tb (x := (T_Rule.e (T_Rule.mk r76 (T_Cube.mk r78 r80) r83 r85 r87))) (by kernel_rfl) ?_
        refine tb (x := (T_Op.e (T_Op.mk r33 (decide (r73 = 1)) (T_Rule.mk r76 (T_Cube.mk r78 r80) r83 r85 r87)))) (by kernel_rfl) ?_
        refine tb (x := V.agg (T_Msg.c (T_Msg.mk r31 r33 r35 r37 (T_Op.mk r33 (decide (r73 = 1)) (T_Rule.mk r76 (T_Cube.mk r78 r80) r83 r85 r87))))) (by kernel_rfl) ?_
        refine tkeepO2 ?_ rfl
        refine tsome ?_
        exact rf_j rfl
      · refine tkeepO2 ?_ rfl
        refine tsome ?_
        exact rf_j rfl
    · refine tb (x := (T_Msg.e s44)) (rfl) ?_
      refine tbo (ty_wire_Encode hn s44) fun r49 => ?_
      refine tb (x := (vt r49.1)) (rfl) ?_
      refine tb (x := (eV r49.2)) (rfl) ?_
      refine tb (x := (vb (!decide (r49.2 = 0)))) (p_err_neq _) ?_
      refine tg_f (x := (vt r49.1)) (fun h53 => rfl) ?_
      refine tg_f (x := (vt a0)) (fun h55 => bind_some_eq (rfl)) ?_
      refine tg_f (x := (vb (!decide (r49.1 = a0)))) (fun h58 => by simp only [gv_t h58]; exact bind_some_eq (p_neq_str)) ?_
      refine tb (x := (vb ((!decide (r49.2 = 0)) || (!decide (r49.1 = a0))))) (pick_or (fun h9 => gv_t (not_f h9))) ?_
      refine tcond (fun h62 => ?_) (fun h62 => ?_)
      · refine tb (x := (T_Msg.e (T_Msg.mk 0 0 0 0 (T_Op.mk 0 false (T_Rule.mk 0 (T_Cube.mk 0 0) 0 0 0))))) (by kernel_rfl) ?_
        refine tb (x := (eV 2)) (p_mkE (by decide)) ?_
        refine tb (x := V.agg (T_Msg.c (T_Msg.mk 0 0 0 0 (T_Op.mk 0 false (T_Rule.mk 0 (T_Cube.mk 0 0) 0 0 0))))) (by kernel_rfl) ?_
        refine tb (x := (T_Msg.e (T_Msg.mk 0 0 0 0 (T_Op.mk 0 false (T_Rule.mk 0 (T_Cube.mk 0 0) 0 0 0))))) rfl ?_
        exact rf_ret rfl
      · refine tb (x := (T_Msg.e s44)) (rfl) ?_
        refine tb (x := V.agg (T_Msg.c s44)) (by kernel_rfl) ?_
        refine tb (x := (T_Msg.e s44)) rfl ?_
        exact rf_ret rfl

/-! railpoint/railref2.Cut -/
def an_railref2_Cut : Ann := .seq (.reg 0 [] [] []) (.seq (.reg 0 [] [] []) (.seq (.blk (some [.s 0, .s 5]) (.loop [.s 0, .r 5 29] (.seq (.seq (.reg 0 [] [] []) (.cond none (.no) (.no))) (.blk none (.seq (.reg 0 [] [] []) (.seq (.seq (.reg 0 [] [] []) (.cond none (.seq (.reg 0 [] [] []) (.no)) (.no))) (.seq (.seq (.reg 0 [] [] []) (.cond none (.seq (.reg 0 [] [] []) (.no)) (.no))) (.seq (.reg 0 [] [] []) (.seq (.seq (.reg 0 [] [] []) (.cond none (.seq (.reg 0 [] [] []) (.no)) (.no))) (.seq (.reg 0 [] [] []) (.reg 0 [] [] []))))))))))) (.seq (.reg 0 [] [] []) (.no))))
noncomputable def sem_railref2_Cut (n : Nat) (xs : List V) : Option V := if xs.length ≤ 40 then denF Tryd.prog (envOf [(68, (sem_railref2_long n)), (13, (sem_railref2_Decode n))]) n Tryd.f15 an_railref2_Cut xs else none
theorem ok_railref2_Cut (n : Nat) : SemOk Tryd.prog DW 15 (sem_railref2_Cut n) := fun xs y h => by
  unfold sem_railref2_Cut at h
  split at h
  · rename_i hl
    exact denF_ok stb Tryd.func15 (by kernel_rfl) (envOf_ok (semsOk_cons (ok_railref2_long n) (semsOk_cons (ok_railref2_Decode n) semsOk_nil))) (by rw [Tryd.ntmps15]; exact hl) h
  · cases h
theorem eq_railref2_Cut (n : Nat) (x0 : V) : sem_railref2_Cut n [x0] =
 JoinPt (fun vs1 =>
 some (V.tup [(List.getD vs1 1 V.any), (List.getD vs1 0 V.any), (vb true)])) fun J2 =>
 (fixN (fun rec3 vs4 =>
 (bin2 Tryd.prog BinOp.neq 9 (ot 9) (Operand.const (Go.Value.string (ByteArray.mk #[]))) (List.getD vs4 0 V.any) (V.lit (Go.Value.string (ByteArray.mk #[])))).bind fun v5 =>
 condV v5 (
 (scal2 Tryd.prog (Instr.index 9) (List.getD vs4 0 V.any) (vi 0)).bind fun v6 =>
 ((sem_railref2_long n) [v6]).bind fun v7 =>
 (bin2 Tryd.prog BinOp.eql 3 (ot 14) (oc 0) v7 (vi 0)).bind fun v8 =>
 condV v8 (
 some (V.tup [(V.sl []), (V.lit (Go.Value.string (ByteArray.mk #[]))), (vb false)])) (
 (lenT [(List.getD vs4 0 V.any)]).bind fun v9 =>
 (bin2 Tryd.prog BinOp.gtr 3 (ot 16) (ot 18) v7 v9).bind fun v10 =>
 condV v10 (
 some (V.tup [(V.sl (slL (List.getD vs4 1 V.any))), (List.getD vs4 0 V.any), (vb true)])) (
 (slc none (List.getD vs4 0 V.any) none (some v7)).bind fun v11 =>
 ((sem_railref2_Decode n) [v11]).bind fun v12 =>
 (extractV v12 0).bind fun v13 =>
 (extractV v12 1).bind fun v14 =>
 (spliceV [(vi 0), (vi 0), (vi 0), (vi 0), (vi 0), (vb false), (vi 0), (vi 0), (vi 0), (vi 0), (vi 0), (vi 0)] 0 12 v13).bind fun v15 =>
 (scal1 Tryd.prog (Op.unary Go.UnOp.not) v14).bind fun v16 =>
 condV v16 (
 some (V.tup [(V.sl []), (V.lit (Go.Value.string (ByteArray.mk #[]))), (vb false)])) (
 (ldk (some 12) (List.drop 0 (aggL v15))).bind fun v17 =>
 (slcB 12 1 [(vi 0), (vi 0), (vi 0), (vi 0), (vi 0), (vb false), (vi 0), (vi 0), (vi 0), (vi 0), (vi 0), (vi 0)] [(0, v17)]).bind fun v18 =>
 (appV 12 (slL (List.getD vs4 1 V.any)) v18).bind fun v19 =>
 (slc none (List.getD vs4 0 V.any) (some v7) none).bind fun v20 =>
 rec3 [v20, (V.sl (slL v19))])))) (
 J2 [(List.getD vs4 0 V.any), (V.sl (slL (List.getD vs4 1 V.any)))])) n) [x0, (V.sl [])] := by kernel_rfl
noncomputable def t_railref2_Cut (a0 : ByteArray) : Option ((List T_Msg) × ByteArray × Bool) :=
 join (fun (s3 : (ByteArray × (List T_Msg))) =>
 some (s3.2, s3.1, true)) fun j4 =>
 tfix (fun k9 (s8 : (ByteArray × (List T_Msg))) =>
 if (!decide (s8.1 = (ByteArray.mk #[]))) = true then (
 (sidx s8.1 0).bind fun r16 =>
 (t_railref2_long r16).bind fun r18 =>
 if (decide (r18 = 0)) = true then (
 some ([], (ByteArray.mk #[]), false)) else (
 if (decide ((s8.1.size : Int) < r18)) = true then (
 some (s8.2, s8.1, true)) else (
 (sslc_hi s8.1 r18).bind fun r25 =>
 (t_railref2_Decode r25).bind fun r27 =>
 if (!r27.2) = true then (
 some ([], (ByteArray.mk #[]), false)) else (
 (app s8.2 ([r27.1] : (List T_Msg))).bind fun r36 =>
 (sslc_lo s8.1 r18).bind fun r38 =>
 k9 (r38, r36))))) else (
 j4 (s8.1, s8.2))) bigN (a0, [])
theorem ty_railref2_Cut {n : Nat} (hn : bigN ≤ n) (a0 : ByteArray) : Rv (fun x : ((List T_Msg) × ByteArray × Bool) => V.tup [(V.sl (List.map T_Msg.c x.1)), (vt x.2.1), (vb x.2.2)]) (sem_railref2_Cut n [(vt a0)]) (t_railref2_Cut a0) := by
  rw [eq_railref2_Cut]
  unfold t_railref2_Cut
  refine tjoin (mk := fun s3 : (ByteArray × (List T_Msg)) => [(vt s3.1), (V.sl (List.map T_Msg.c s3.2))]) (fun s3 => ?_) fun J2 j4 h5 => ?_
  · exact rf_ret rfl
  · refine rf_fixN (mk := fun (s8 : (ByteArray × (List T_Msg))) => [(vt s8.1), (V.sl (List.map T_Msg.c s8.2))]) hn (a0, []) (fun rec6 k9 h10 s8 => ?_)
    refine tb (x := (vb (!decide (s8.1 = (ByteArray.mk #[]))))) (p_neq_str) ?_
    refine tcond (fun h14 => ?_) (fun h14 => ?_)
    · refine tbo (p_sidx (Tryd.underlying9) s8.1 0) fun r16 => ?_
      refine tbo (ty_railref2_long hn r16) fun r18 => ?_
      refine tb (x := (vb (decide (r18 = 0)))) (d_eql) ?_
      refine tcond (fun h20 => ?_) (fun h20 => ?_)
      · exact rf_ret rfl
      · refine tb (x := (vi (s8.1.size : Int))) (rfl) ?_
        refine tb (x := (vb (decide ((s8.1.size : Int) < r18)))) (d_gtr) ?_
        refine tcond (fun h23 => ?_) (fun h23 => ?_)
        · exact rf_ret rfl
        · refine tbo (p_sslc_hi s8.1 r18) fun r25 => ?_
          refine tbo (ty_railref2_Decode hn r25) fun r27 => ?_
          refine tb (x := (T_Msg.e r27.1)) (rfl) ?_
          refine tb (x := (vb r27.2)) (rfl) ?_
          refine tb (x := V.agg (T_Msg.c r27.1)) (by kernel_rfl) ?_
          refine tb (x := (vb (!r27.2))) (d_not) ?_
          refine tcond (fun h32 => ?_) (fun h32 => ?_)
          · exact rf_ret rfl
          · refine tb (x := (T_Msg.e r27.1)) (rfl) ?_
            refine tb (x := (V.sl (List.map T_Msg.c ([r27.1] : (List T_Msg))))) (by kernel_rfl) ?_
            refine tbo (p_app (c := T_Msg.c) (fun _ => rfl) s8.2 ([r27.1] : (List T_Msg))) fun r36 => ?_
            refine tbo (p_sslc_lo s8.1 r18) fun r38 => ?_
            exact h10 (r38, r36)
    · exact h5 (s8.1, s8.2)

/-! railpoint/wire.Cut -/
def an_wire_Cut : Ann := .seq (.reg 0 [] [] []) (.seq (.reg 0 [] [] []) (.seq (.blk (some [.s 0, .s 5]) (.loop [.s 0, .r 5 29] (.seq (.seq (.reg 0 [] [] []) (.cond none (.no) (.no))) (.blk none (.seq (.reg 0 [] [] []) (.seq (.seq (.reg 0 [] [] []) (.cond none (.seq (.reg 0 [] [] []) (.no)) (.no))) (.seq (.seq (.reg 0 [] [] []) (.cond none (.no) (.no))) (.seq (.reg 0 [] [] []) (.seq (.seq (.reg 0 [] [] []) (.cond none (.seq (.reg 0 [] [] []) (.no)) (.no))) (.reg 10 [] [] [])))))))))) (.seq (.reg 0 [] [] []) (.no))))
noncomputable def sem_wire_Cut (n : Nat) (xs : List V) : Option V := if xs.length ≤ 40 then denF Tryd.prog (envOf [(69, (sem_wire_size n)), (14, (sem_wire_Decode n))]) n Tryd.f16 an_wire_Cut xs else none
theorem ok_wire_Cut (n : Nat) : SemOk Tryd.prog DW 16 (sem_wire_Cut n) := fun xs y h => by
  unfold sem_wire_Cut at h
  split at h
  · rename_i hl
    exact denF_ok stb Tryd.func16 (by kernel_rfl) (envOf_ok (semsOk_cons (ok_wire_size n) (semsOk_cons (ok_wire_Decode n) semsOk_nil))) (by rw [Tryd.ntmps16]; exact hl) h
  · cases h
theorem eq_wire_Cut (n : Nat) (x0 : V) : sem_wire_Cut n [x0] =
 JoinPt (fun vs1 =>
 some (V.tup [(List.getD vs1 1 V.any), (List.getD vs1 0 V.any), vn])) fun J2 =>
 (fixN (fun rec3 vs4 =>
 (bin2 Tryd.prog BinOp.neq 9 (ot 9) (Operand.const (Go.Value.string (ByteArray.mk #[]))) (List.getD vs4 0 V.any) (V.lit (Go.Value.string (ByteArray.mk #[])))).bind fun v5 =>
 condV v5 (
 (scal2 Tryd.prog (Instr.index 9) (List.getD vs4 0 V.any) (vi 0)).bind fun v6 =>
 ((sem_wire_size n) [v6]).bind fun v7 =>
 (bin2 Tryd.prog BinOp.eql 3 (ot 14) (oc 0) v7 (vi 0)).bind fun v8 =>
 condV v8 (
 (scal1 Tryd.prog (Instr.makeInterface 119) (vi 2)).bind fun v9 =>
 some (V.tup [(V.sl []), (V.lit (Go.Value.string (ByteArray.mk #[]))), v9])) (
 (lenT [(List.getD vs4 0 V.any)]).bind fun v10 =>
 (bin2 Tryd.prog BinOp.gtr 3 (ot 17) (ot 19) v7 v10).bind fun v11 =>
 condV v11 (
 J2 [(List.getD vs4 0 V.any), (V.sl (slL (List.getD vs4 1 V.any)))]) (
 (slc none (List.getD vs4 0 V.any) none (some v7)).bind fun v12 =>
 ((sem_wire_Decode n) [v12]).bind fun v13 =>
 (extractV v13 0).bind fun v14 =>
 (extractV v13 1).bind fun v15 =>
 (spliceV [(vi 0), (vi 0), (vi 0), (vi 0), (vi 0), (vb false), (vi 0), (vi 0), (vi 0), (vi 0), (vi 0), (vi 0)] 0 12 v14).bind fun v16 =>
 (bin2 Tryd.prog BinOp.neq 33 (ot 28) (Operand.const Go.Value.nilIface) v15 vn).bind fun v17 =>
 condV v17 (
 some (V.tup [(V.sl []), (V.lit (Go.Value.string (ByteArray.mk #[]))), v15])) (
 (slc none (List.getD vs4 0 V.any) (some v7) none).bind fun v18 =>
 (litV v18).bind fun v19 =>
 (ldk (some 12) (List.drop 0 (aggL v16))).bind fun v20 =>
 (slcB 12 1 [(vi 0), (vi 0), (vi 0), (vi 0), (vi 0), (vb false), (vi 0), (vi 0), (vi 0), (vi 0), (vi 0), (vi 0)] [(0, v20)]).bind fun v21 =>
 (appV 12 (slL (List.getD vs4 1 V.any)) v21).bind fun v22 =>
 rec3 [v19, (V.sl (slL v22))])))) (
 J2 [(List.getD vs4 0 V.any), (V.sl (slL (List.getD vs4 1 V.any)))])) n) [x0, (V.sl [])] := by kernel_rfl
noncomputable def t_wire_Cut (a0 : ByteArray) : Option ((List T_Msg) × ByteArray × Int) :=
 join (fun (s3 : (ByteArray × (List T_Msg))) =>
 some (s3.2, s3.1, 0)) fun j4 =>
 tfix (fun k9 (s8 : (ByteArray × (List T_Msg))) =>
 if (!decide (s8.1 = (ByteArray.mk #[]))) = true then (
 (sidx s8.1 0).bind fun r16 =>
 (t_wire_size r16).bind fun r18 =>
 if (decide (r18 = 0)) = true then (
 some ([], (ByteArray.mk #[]), 2)) else (
 if (decide ((s8.1.size : Int) < r18)) = true then (
 j4 (s8.1, s8.2)) else (
 (sslc_hi s8.1 r18).bind fun r26 =>
 (t_wire_Decode r26).bind fun r28 =>
 if (!decide (r28.2 = 0)) = true then (
 some ([], (ByteArray.mk #[]), r28.2)) else (
 (sslc_lo s8.1 r18).bind fun r35 =>
 (app s8.2 ([r28.1] : (List T_Msg))).bind fun r40 =>
 k9 (r35, r40))))) else (
 j4 (s8.1, s8.2))) bigN (a0, [])
theorem ty_wire_Cut {n : Nat} (hn : bigN ≤ n) (a0 : ByteArray) : Rv (fun x : ((List T_Msg) × ByteArray × Int) => V.tup [(V.sl (List.map T_Msg.c x.1)), (vt x.2.1), (eV x.2.2)]) (sem_wire_Cut n [(vt a0)]) (t_wire_Cut a0) := by
  rw [eq_wire_Cut]
  unfold t_wire_Cut
  refine tjoin (mk := fun s3 : (ByteArray × (List T_Msg)) => [(vt s3.1), (V.sl (List.map T_Msg.c s3.2))]) (fun s3 => ?_) fun J2 j4 h5 => ?_
  · exact rf_ret rfl
  · refine rf_fixN (mk := fun (s8 : (ByteArray × (List T_Msg))) => [(vt s8.1), (V.sl (List.map T_Msg.c s8.2))]) hn (a0, []) (fun rec6 k9 h10 s8 => ?_)
    refine tb (x := (vb (!decide (s8.1 = (ByteArray.mk #[]))))) (p_neq_str) ?_
    refine tcond (fun h14 => ?_) (fun h14 => ?_)
    · refine tbo (p_sidx (Tryd.underlying9) s8.1 0) fun r16 => ?_
      refine tbo (ty_wire_size hn r16) fun r18 => ?_
      refine tb (x := (vb (decide (r18 = 0)))) (d_eql) ?_
      refine tcond (fun h20 => ?_) (fun h20 => ?_)
      · refine tb (x := (eV 2)) (p_mkE (by decide)) ?_
        exact rf_ret rfl
      · refine tb (x := (vi (s8.1.size : Int))) (rfl) ?_
        refine tb (x := (vb (decide ((s8.1.size : Int) < r18)))) (d_gtr) ?_
        refine tcond (fun h24 => ?_) (fun h24 => ?_)
        · exact h5 (s8.1, s8.2)
        · refine tbo (p_sslc_hi s8.1 r18) fun r26 => ?_
          refine tbo (ty_wire_Decode hn r26) fun r28 => ?_
          refine tb (x := (T_Msg.e r28.1)) (rfl) ?_
          refine tb (x := (eV r28.2)) (rfl) ?_
          refine tb (x := V.agg (T_Msg.c r28.1)) (by kernel_rfl) ?_
          refine tb (x := (vb (!decide (r28.2 = 0)))) (p_err_neq _) ?_
          refine tcond (fun h33 => ?_) (fun h33 => ?_)
          · exact rf_ret rfl
          · refine tbo (p_sslc_lo s8.1 r18) fun r35 => ?_
            refine tb (x := (vt r35)) rfl ?_
            refine tb (x := (T_Msg.e r28.1)) (rfl) ?_
            refine tb (x := (V.sl (List.map T_Msg.c ([r28.1] : (List T_Msg))))) (by kernel_rfl) ?_
            refine tbo (p_app (c := T_Msg.c) (fun _ => rfl) s8.2 ([r28.1] : (List T_Msg))) fun r40 => ?_
            exact h10 (r35, r40)
    · exact h5 (s8.1, s8.2)

/-! railpoint/railsame.Msgs -/
def an_railsame_Msgs : Ann := .seq (.reg 0 [] [] []) (.seq (.seq (.reg 0 [] [] []) (.cond none (.seq (.reg 0 [] [] []) (.no)) (.no))) (.seq (.seq (.reg 0 [] [] []) (.blk (some []) (.loop [.s 5] (.seq (.seq (.reg 0 [] [] []) (.cond none (.no) (.no))) (.seq (.blk none (.seq (.reg 9 [] [] []) (.cond none (.seq (.reg 0 [] [] []) (.no)) (.no)))) (.reg 0 [] [] [])))))) (.seq (.reg 0 [] [] []) (.no))))
noncomputable def sem_railsame_Msgs (n : Nat) (xs : List V) : Option V := if xs.length ≤ 26 then denF Tryd.prog (envOf []) n Tryd.f17 an_railsame_Msgs xs else none
theorem ok_railsame_Msgs (n : Nat) : SemOk Tryd.prog DW 17 (sem_railsame_Msgs n) := fun xs y h => by
  unfold sem_railsame_Msgs at h
  split at h
  · rename_i hl
    exact denF_ok stb Tryd.func17 (by kernel_rfl) (envOf_ok semsOk_nil) (by rw [Tryd.ntmps17]; exact hl) h
  · cases h
theorem eq_railsame_Msgs (n : Nat) (x0 x1 : V) : sem_railsame_Msgs n [x0, x1] =
 (lenS [x0]).bind fun v1 =>
 (lenS [x1]).bind fun v2 =>
 (bin2 Tryd.prog BinOp.neq 3 (ot 7) (ot 9) v1 v2).bind fun v3 =>
 condV v3 (
 some (vb false)) (
 JoinPt (fun vs4 =>
 some (vb true)) fun J5 =>
 (fixN (fun rec6 vs7 =>
 (lenS [x0]).bind fun v8 =>
 (bin2 Tryd.prog BinOp.lss 3 (ot 11) (ot 13) (List.getD vs7 0 V.any) v8).bind fun v9 =>
 condV v9 (
 (idxS 12 x0 (List.getD vs7 0 V.any)).bind fun v10 =>
 (ldp (some 12) v10).bind fun v11 =>
 (idxS 12 x1 (List.getD vs7 0 V.any)).bind fun v12 =>
 (ldp (some 12) v12).bind fun v13 =>
 (bin2 Tryd.prog BinOp.neq 29 (ot 20) (ot 24) v11 v13).bind fun v14 =>
 condV v14 (
 some (vb false)) (
 (bin2 Tryd.prog BinOp.add 3 (ot 15) (oc 1) (List.getD vs7 0 V.any) (vi 1)).bind fun v15 =>
 rec6 [v15])) (
 J5 [])) n) [(vi 0)]) := by kernel_rfl
noncomputable def t_railsame_Msgs (a0 : (List T_Msg)) (a1 : (List T_Msg)) : Option Bool :=
 if (decide ((List.length a0 : Int) ≠ (List.length a1 : Int))) = true then (
 some false) else (
 join (fun (s7 : Unit) =>
 some true) fun j8 =>
 loopI a0 (fun (i16 : Int) x17 (s12 : Unit) k13 =>
 (idx a1 i16).bind fun r26 =>
 if (!decide (x17 = r26)) = true then (
 some false) else (
 k13 ())) (fun (s12 : Unit) =>
 j8 ()) ())
theorem ty_railsame_Msgs {n : Nat} (hn : bigN ≤ n) (a0 : (List T_Msg)) (a1 : (List T_Msg)) : Rv (fun x : Bool => (vb x)) (sem_railsame_Msgs n [(V.sl (List.map T_Msg.c a0)), (V.sl (List.map T_Msg.c a1))]) (t_railsame_Msgs a0 a1) := by
  rw [eq_railsame_Msgs]
  unfold t_railsame_Msgs
  refine tb (x := (vi (List.length a0 : Int))) (p_len _) ?_
  refine tb (x := (vi (List.length a1 : Int))) (p_len _) ?_
  refine tb (x := (vb (decide ((List.length a0 : Int) ≠ (List.length a1 : Int))))) (d_neq) ?_
  refine tcond (fun h4 => ?_) (fun h4 => ?_)
  · exact rf_ret rfl
  · refine tjoin (mk := fun s7 : Unit => []) (fun s7 => ?_) fun J6 j8 h9 => ?_
    · exact rf_ret rfl
    · refine rf_loopI (mk := fun (i16 : Int) (s12 : Unit) => [(vi (i16 : Int))]) hn a0 () (fun i16 x17 h18 h19 h20 s12 rec10 k13 h14 => ?_) (fun s12 rec32 h31 => ?_)
      · refine tb (x := (vi (List.length a0 : Int))) (p_len _) ?_
        refine tb (x := (vb (decide ((i16 : Int) < (List.length a0 : Int))))) (d_lss) ?_
        refine tcond_t h20 ?_
        refine tb (x := (V.ptr (T_Msg.c x17))) (p_idx_at (c := T_Msg.c) (fun _ => rfl) h18) ?_
        refine tb (x := (T_Msg.e x17)) (rfl) ?_
        refine tbo (p_idx (c := T_Msg.c) (fun _ => rfl) a1 (i16 : Int)) fun r26 => ?_
        refine tb (x := (T_Msg.e r26)) (rfl) ?_
        refine tb (x := (vb (!decide (x17 = r26)))) (T_Msg.neq x17 r26) ?_
        refine tcond (fun h29 => ?_) (fun h29 => ?_)
        · exact rf_ret rfl
        · refine tb (x := (vi ((i16 : Int) + 1))) (p_incN h19) ?_
          exact h14 ()
      · refine tb (x := (vi (List.length a0 : Int))) (p_len _) ?_
        refine tb (x := (vb (decide ((List.length a0 : Int) < (List.length a0 : Int))))) (d_lss) ?_
        refine tcond_f h31 ?_
        exact h9 ()

/-! railpoint/raillaw2.WireTells -/
def an_raillaw2_WireTells : Ann := .seq (.reg 0 [] [] []) (.seq (.reg 0 [] [] []) (.seq (.reg 0 [] [] []) (.seq (.seq (.reg 0 [] [] []) (.cond (some [.kb 2, .s 6]) (.reg 0 [] [] []) (.no))) (.seq (.reg 0 [] [] []) (.seq (.reg 0 [] [] []) (.seq (.reg 0 [] [] []) (.seq (.reg 0 [] [] []) (.seq (.seq (.reg 0 [] [] []) (.cond (some [.kb 10, .s 5]) (.reg 0 [] [] []) (.no))) (.seq (.reg 0 [] [] []) (.seq (.reg 0 [] [] []) (.seq (.reg 0 [] [] []) (.seq (.reg 0 [] [] []) (.seq (.seq (.reg 0 [] [] []) (.cond (some [.kb 10, .kb 12, .s 5]) (.reg 0 [] [] []) (.no))) (.seq (.reg 0 [] [] []) (.seq (.reg 0 [] [] []) (.seq (.reg 0 [] [] []) (.seq (.reg 0 [] [] []) (.no))))))))))))))))))
noncomputable def sem_raillaw2_WireTells (n : Nat) (xs : List V) : Option V := if xs.length ≤ 94 then denF Tryd.prog (envOf [(9, (sem_railref2_Msg n)), (10, (sem_railref2_Bytes n)), (11, (sem_wire_Encode n)), (12, (sem_Error n)), (13, (sem_railref2_Decode n)), (14, (sem_wire_Decode n)), (15, (sem_railref2_Cut n)), (16, (sem_wire_Cut n)), (17, (sem_railsame_Msgs n))]) n Tryd.f3 an_raillaw2_WireTells xs else none
theorem ok_raillaw2_WireTells (n : Nat) : SemOk Tryd.prog DW 3 (sem_raillaw2_WireTells n) := fun xs y h => by
  unfold sem_raillaw2_WireTells at h
  split at h
  · rename_i hl
    exact denF_ok stb Tryd.func3 (by kernel_rfl) (envOf_ok (semsOk_cons (ok_railref2_Msg n) (semsOk_cons (ok_railref2_Bytes n) (semsOk_cons (ok_wire_Encode n) (semsOk_cons (ok_Error n) (semsOk_cons (ok_railref2_Decode n) (semsOk_cons (ok_wire_Decode n) (semsOk_cons (ok_railref2_Cut n) (semsOk_cons (ok_wire_Cut n) (semsOk_cons (ok_railsame_Msgs n) semsOk_nil)))))))))) (by rw [Tryd.ntmps3]; exact hl) h
  · cases h
theorem eq_raillaw2_WireTells (n : Nat) (x0 x1 : V) : sem_raillaw2_WireTells n [x0, x1] =
 (V.cellsO x0).bind fun v1 =>
 (ldk (some 12) (List.drop 0 v1)).bind fun v2 =>
 ((sem_railref2_Msg n) [v2]).bind fun v3 =>
 (bin2 Tryd.prog BinOp.eql 3 (ot 22) (oc 0) v3 (vi 0)).bind fun v4 =>
 JoinPt (fun vs5 =>
 (ldk (some 12) (List.drop 0 v1)).bind fun v7 =>
 ((sem_wire_Encode n) [v7]).bind fun v8 =>
 (extractV v8 0).bind fun v9 =>
 (extractV v8 1).bind fun v10 =>
 ((sem_Error n) [v10, v3]).bind fun v11 =>
 ((sem_railref2_Decode n) [x1]).bind fun v12 =>
 (extractV v12 0).bind fun v13 =>
 (extractV v12 1).bind fun v14 =>
 (spliceV [(vi 0), (vi 0), (vi 0), (vi 0), (vi 0), (vb false), (vi 0), (vi 0), (vi 0), (vi 0), (vi 0), (vi 0)] 0 12 v13).bind fun v15 =>
 (scal1 Tryd.prog (Op.unary Go.UnOp.not) v14).bind fun v16 =>
 JoinPt (fun vs17 =>
 ((sem_wire_Decode n) [x1]).bind fun v19 =>
 (extractV v19 0).bind fun v20 =>
 (extractV v19 1).bind fun v21 =>
 (spliceV [(vi 0), (vi 0), (vi 0), (vi 0), (vi 0), (vb false), (vi 0), (vi 0), (vi 0), (vi 0), (vi 0), (vi 0)] 0 12 v20).bind fun v22 =>
 ((sem_Error n) [v21, (List.getD vs17 0 V.any)]).bind fun v23 =>
 ((sem_railref2_Cut n) [x1]).bind fun v24 =>
 (extractV v24 0).bind fun v25 =>
 (extractV v24 1).bind fun v26 =>
 (extractV v24 2).bind fun v27 =>
 (scal1 Tryd.prog (Op.unary Go.UnOp.not) v27).bind fun v28 =>
 JoinPt (fun vs29 =>
 ((sem_wire_Cut n) [x1]).bind fun v31 =>
 (extractV v31 0).bind fun v32 =>
 (extractV v31 1).bind fun v33 =>
 (extractV v31 2).bind fun v34 =>
 ((sem_Error n) [v34, (List.getD vs29 0 V.any)]).bind fun v35 =>
 ((sem_railsame_Msgs n) [v32, v25]).bind fun v36 =>
 (guardV v11 true (some v23)).bind fun v37 =>
 (pickV v11 v37 (vb false)).bind fun v38 =>
 (guardV v38 true (some v35)).bind fun v39 =>
 (pickV v38 v39 (vb false)).bind fun v40 =>
 (guardV v40 true (some v36)).bind fun v41 =>
 (pickV v40 v41 (vb false)).bind fun v42 =>
 (guardV v42 true (some v9)).bind fun v43 =>
 (guardV v42 true (some (List.getD vs5 0 V.any))).bind fun v44 =>
 (guardV v42 true ((bin2 Tryd.prog BinOp.eql 9 (ot 80) (ot 81) v43 v44).bind fun v45 =>
 some v45)).bind fun v46 =>
 (pickV v42 v46 (vb false)).bind fun v47 =>
 (guardV v47 true ((ldk (some 12) (List.drop 0 (aggL v15))).bind fun v48 =>
 some v48)).bind fun v49 =>
 (guardV v47 true ((ldk (some 12) (List.drop 0 (aggL v22))).bind fun v50 =>
 some v50)).bind fun v51 =>
 (guardV v47 true ((bin2 Tryd.prog BinOp.eql 29 (ot 85) (ot 86) v49 v51).bind fun v52 =>
 some v52)).bind fun v53 =>
 (pickV v47 v53 (vb false)).bind fun v54 =>
 (guardV v54 true (some v33)).bind fun v55 =>
 (guardV v54 true (some v26)).bind fun v56 =>
 (guardV v54 true ((bin2 Tryd.prog BinOp.eql 9 (ot 90) (ot 91) v55 v56).bind fun v57 =>
 some v57)).bind fun v58 =>
 (pickV v54 v58 (vb false)).bind fun v59 =>
 some v59) fun J30 =>
 condV v28 (
 (keepO (some (aggL v15)) (some (aggL v15)) (keepO (some (aggL v22)) (some (aggL v22)) (some [(vi 2)]))).bind J30) (
 (keepO (some (aggL v15)) (some (aggL v15)) (keepO (some (aggL v22)) (some (aggL v22)) (some [(vi 0)]))).bind J30)) fun J18 =>
 condV v16 (
 (keepO (some (aggL v15)) (some (aggL v15)) (some [(vi 2)])).bind J18) (
 (keepO (some (aggL v15)) (some (aggL v15)) (some [(vi 0)])).bind J18)) fun J6 =>
 condV v4 (
 (ldk (some 12) (List.drop 0 v1)).bind fun v60 =>
 ((sem_railref2_Bytes n) [v60]).bind fun v61 =>
 (keepO (some v1) (some v1) (some [v61])).bind J6) (
 (keepO (some v1) (some v1) (some [(V.lit (Go.Value.string (ByteArray.mk #[])))])).bind J6) := by kernel_rfl
noncomputable def t_raillaw2_WireTells (a0 : T_Msg) (a1 : ByteArray) : Option Bool :=
 (t_railref2_Msg a0).bind fun r4 =>
 (if (decide (r4 = 0)) = true then (
 (t_railref2_Bytes a0).bind fun r96 =>
 some (r96)) else (
 some (ByteArray.mk #[]))).bind fun (s8 : ByteArray) =>
 (t_wire_Encode a0).bind fun r13 =>
 (t_railsame_Error r13.2 r4).bind fun r17 =>
 (t_railref2_Decode a1).bind fun r19 =>
 (if (!r19.2) = true then (
 some (2)) else (
 some (0))).bind fun (s26 : Int) =>
 (t_wire_Decode a1).bind fun r30 =>
 (t_railsame_Error r30.2 s26).bind fun r35 =>
 (t_railref2_Cut a1).bind fun r37 =>
 (if (!r37.2.2) = true then (
 some (2)) else (
 some (0))).bind fun (s44 : Int) =>
 (t_wire_Cut a1).bind fun r48 =>
 (t_railsame_Error r48.2.2 s44).bind fun r53 =>
 (t_railsame_Msgs r48.1 r37.1).bind fun r55 =>
 some ((((((r17 && r35) && r53) && r55) && (decide (r13.1 = s8))) && (decide (r19.1 = r30.1))) && (decide (r48.2.1 = r37.2.1)))
theorem ty_raillaw2_WireTells {n : Nat} (hn : bigN ≤ n) (a0 : T_Msg) (a1 : ByteArray) : Rv (fun x : Bool => (vb x)) (sem_raillaw2_WireTells n [(T_Msg.e a0), (vt a1)]) (t_raillaw2_WireTells a0 a1) := by
  rw [eq_raillaw2_WireTells]
  unfold t_raillaw2_WireTells
  refine tb (x := (T_Msg.c a0)) rfl ?_
  refine tb (x := (T_Msg.e a0)) (rfl) ?_
  refine tbo (ty_railref2_Msg hn a0) fun r4 => ?_
  refine tb (x := (vb (decide (r4 = 0)))) (d_eql) ?_
  refine tjb (mk := fun s8 : ByteArray => [(vt s8)]) (fun J7 => ?_) fun s8 => ?_
  · refine tcond (fun h93 => ?_) (fun h93 => ?_)
    · refine tb (x := (T_Msg.e a0)) (rfl) ?_
      refine tbo (ty_railref2_Bytes hn a0) fun r96 => ?_
      refine tkeepO2 ?_ rfl
      refine tsome ?_
      exact rf_j rfl
    · refine tkeepO2 ?_ rfl
      refine tsome ?_
      exact rf_j rfl
  · refine tb (x := (T_Msg.e a0)) (rfl) ?_
    refine tbo (ty_wire_Encode hn a0) fun r13 => ?_
    refine tb (x := (vt r13.1)) (rfl) ?_
    refine tb (x := (eV r13.2)) (rfl) ?_
    refine tbo (ty_railsame_Error r13.2 r4) fun r17 => ?_
    refine tbo (ty_railref2_Decode hn a1) fun r19 => ?_
    refine tb (x := (T_Msg.e r19.1)) (rfl) ?_
    refine tb (x := (vb r19.2)) (rfl) ?_
    refine tb (x := V.agg (T_Msg.c r19.1)) (by kernel_rfl) ?_
    refine tb (x := (vb (!r19.2))) (d_not) ?_
    refine tjb (mk := fun s26 : Int => [(vi s26)]) (fun J25 => ?_) fun s26 => ?_
    · refine tcond (fun h92 => ?_) (fun h92 => ?_)
      · refine tkeepO2 ?_ rfl
        refine tsome ?_
        exact rf_j rfl
      · refine tkeepO2 ?_ rfl
        refine tsome ?_
        exact rf_j rfl
    · refine tbo (ty_wire_Decode hn a1) fun r30 => ?_
      refine tb (x := (T_Msg.e r30.1)) (rfl) ?_
      refine tb (x := (eV r30.2)) (rfl) ?_
      refine tb (x := V.agg (T_Msg.c r30.1)) (by kernel_rfl) ?_
      refine tbo (ty_railsame_Error r30.2 s26) fun r35 => ?_
      refine tbo (ty_railref2_Cut hn a1) fun r37 => ?_
      refine tb (x := (V.sl (List.map T_Msg.c r37.1))) (rfl) ?_
      refine tb (x := (vt r37.2.1)) (rfl) ?_
      refine tb (x := (vb r37.2.2)) (rfl) ?_
      refine tb (x := (vb (!r37.2.2))) (d_not) ?_
      refine tjb (mk := fun s44 : Int => [(vi s44)]) (fun J43 => ?_) fun s44 => ?_
      · refine tcond (fun h91 => ?_) (fun h91 => ?_)
        · refine tkeepO2 ?_ rfl
          refine tkeepO2 ?_ rfl
          refine tsome ?_
          exact rf_j rfl
        · refine tkeepO2 ?_ rfl
          refine tkeepO2 ?_ rfl
          refine tsome ?_
          exact rf_j rfl
      · refine tbo (ty_wire_Cut hn a1) fun r48 => ?_
        refine tb (x := (V.sl (List.map T_Msg.c r48.1))) (rfl) ?_
        refine tb (x := (vt r48.2.1)) (rfl) ?_
        refine tb (x := (eV r48.2.2)) (rfl) ?_
        refine tbo (ty_railsame_Error r48.2.2 s44) fun r53 => ?_
        refine tbo (ty_railsame_Msgs hn r48.1 r37.1) fun r55 => ?_
        refine tg (x := (vb r35)) (fun h56 => rfl) ?_
        refine tb (x := (vb (r17 && r35))) (pick_and (fun h9 => gv_t h9)) ?_
        refine tg (x := (vb r53)) (fun h59 => rfl) ?_
        refine tb (x := (vb ((r17 && r35) && r53))) (pick_and (fun h9 => gv_t h9)) ?_
        refine tg (x := (vb r55)) (fun h62 => rfl) ?_
        refine tb (x := (vb (((r17 && r35) && r53) && r55))) (pick_and (fun h9 => gv_t h9)) ?_
        refine tg (x := (vt r13.1)) (fun h65 => rfl) ?_
        refine tg (x := (vt s8)) (fun h67 => rfl) ?_
        refine tg (x := (vb (decide (r13.1 = s8)))) (fun h69 => by simp only [gv_t h69]; exact bind_some_eq (p_eql_str)) ?_
        refine tb (x := (vb ((((r17 && r35) && r53) && r55) && (decide (r13.1 = s8))))) (pick_and (fun h9 => gv_t h9)) ?_
        refine tg (x := (T_Msg.e r19.1)) (fun h73 => bind_some_eq (rfl)) ?_
        refine tg (x := (T_Msg.e r30.1)) (fun h76 => bind_some_eq (rfl)) ?_
        refine tg (x := (vb (decide (r19.1 = r30.1)))) (fun h79 => by simp only [gv_t h79]; exact bind_some_eq (T_Msg.eql r19.1 r30.1)) ?_
        refine tb (x := (vb (((((r17 && r35) && r53) && r55) && (decide (r13.1 = s8))) && (decide (r19.1 = r30.1))))) (pick_and (fun h9 => gv_t h9)) ?_
        refine tg (x := (vt r48.2.1)) (fun h83 => rfl) ?_
        refine tg (x := (vt r37.2.1)) (fun h85 => rfl) ?_
        refine tg (x := (vb (decide (r48.2.1 = r37.2.1)))) (fun h87 => by simp only [gv_t h87]; exact bind_some_eq (p_eql_str)) ?_
        refine tb (x := (vb ((((((r17 && r35) && r53) && r55) && (decide (r13.1 = s8))) && (decide (r19.1 = r30.1))) && (decide (r48.2.1 = r37.2.1))))) (pick_and (fun h9 => gv_t h9)) ?_
        exact rf_ret rfl

/-! railpoint/railref1.Cubes -/
def an_railref1_Cubes : Ann := .seq (.reg 0 [] [] []) (.seq (.seq (.reg 0 [] [] []) (.cond none (.seq (.reg 0 [] [] []) (.no)) (.no))) (.seq (.seq (.reg 0 [] [] []) (.blk (some []) (.loop [.s 3] (.seq (.seq (.reg 0 [] [] []) (.cond none (.no) (.no))) (.seq (.blk none (.seq (.reg 0 [] [] []) (.seq (.reg 0 [] [] []) (.cond none (.seq (.reg 0 [] [] []) (.no)) (.no))))) (.reg 0 [] [] [])))))) (.seq (.reg 0 [] [] []) (.no))))
noncomputable def sem_railref1_Cubes (n : Nat) (xs : List V) : Option V := if xs.length ≤ 22 then denF Tryd.prog (envOf [(18, (sem_railref1_Cube n))]) n Tryd.f37 an_railref1_Cubes xs else none
theorem ok_railref1_Cubes (n : Nat) : SemOk Tryd.prog DW 37 (sem_railref1_Cubes n) := fun xs y h => by
  unfold sem_railref1_Cubes at h
  split at h
  · rename_i hl
    exact denF_ok stb Tryd.func37 (by kernel_rfl) (envOf_ok (semsOk_cons (ok_railref1_Cube n) semsOk_nil)) (by rw [Tryd.ntmps37]; exact hl) h
  · cases h
theorem eq_railref1_Cubes (n : Nat) (x0 : V) : sem_railref1_Cubes n [x0] =
 (lenS [x0]).bind fun v1 =>
 (bin2 Tryd.prog BinOp.gtr 3 (ot 6) (oc 40) v1 (vi 40)).bind fun v2 =>
 condV v2 (
 some (vi 4)) (
 JoinPt (fun vs3 =>
 some (vi 0)) fun J4 =>
 (fixN (fun rec5 vs6 =>
 (lenS [x0]).bind fun v7 =>
 (bin2 Tryd.prog BinOp.lss 3 (ot 8) (ot 10) (List.getD vs6 0 V.any) v7).bind fun v8 =>
 condV v8 (
 (idxS 2 x0 (List.getD vs6 0 V.any)).bind fun v9 =>
 (ldp (some 2) v9).bind fun v10 =>
 ((sem_railref1_Cube n) [v10]).bind fun v11 =>
 (bin2 Tryd.prog BinOp.neq 3 (ot 19) (oc 0) v11 (vi 0)).bind fun v12 =>
 condV v12 (
 some v11) (
 (bin2 Tryd.prog BinOp.add 3 (ot 12) (oc 1) (List.getD vs6 0 V.any) (vi 1)).bind fun v13 =>
 rec5 [v13])) (
 J4 [])) n) [(vi 0)]) := by kernel_rfl
noncomputable def t_railref1_Cubes (a0 : (List T_Cube)) : Option Int :=
 if (decide (40 < (List.length a0 : Int))) = true then (
 some 4) else (
 join (fun (s6 : Unit) =>
 some 0) fun j7 =>
 loopI a0 (fun (i15 : Int) x16 (s11 : Unit) k12 =>
 (t_railref1_Cube x16).bind fun r25 =>
 if (decide (r25 ≠ 0)) = true then (
 some r25) else (
 k12 ())) (fun (s11 : Unit) =>
 j7 ()) ())
theorem ty_railref1_Cubes {n : Nat} (hn : bigN ≤ n) (a0 : (List T_Cube)) : Rv (fun x : Int => (vi x)) (sem_railref1_Cubes n [(V.sl (List.map T_Cube.c a0))]) (t_railref1_Cubes a0) := by
  rw [eq_railref1_Cubes]
  unfold t_railref1_Cubes
  refine tb (x := (vi (List.length a0 : Int))) (p_len _) ?_
  refine tb (x := (vb (decide (40 < (List.length a0 : Int))))) (d_gtr) ?_
  refine tcond (fun h3 => ?_) (fun h3 => ?_)
  · exact rf_ret rfl
  · refine tjoin (mk := fun s6 : Unit => []) (fun s6 => ?_) fun J5 j7 h8 => ?_
    · exact rf_ret rfl
    · refine rf_loopI (mk := fun (i15 : Int) (s11 : Unit) => [(vi (i15 : Int))]) hn a0 () (fun i15 x16 h17 h18 h19 s11 rec9 k12 h13 => ?_) (fun s11 rec30 h29 => ?_)
      · refine tb (x := (vi (List.length a0 : Int))) (p_len _) ?_
        refine tb (x := (vb (decide ((i15 : Int) < (List.length a0 : Int))))) (d_lss) ?_
        refine tcond_t h19 ?_
        refine tb (x := (V.ptr (T_Cube.c x16))) (p_idx_at (c := T_Cube.c) (fun _ => rfl) h17) ?_
        refine tb (x := (T_Cube.e x16)) (rfl) ?_
        refine tbo (ty_railref1_Cube hn x16) fun r25 => ?_
        refine tb (x := (vb (decide (r25 ≠ 0)))) (d_neq) ?_
        refine tcond (fun h27 => ?_) (fun h27 => ?_)
        · exact rf_ret rfl
        · refine tb (x := (vi ((i15 : Int) + 1))) (p_incN h18) ?_
          exact h13 ()
      · refine tb (x := (vi (List.length a0 : Int))) (p_len _) ?_
        refine tb (x := (vb (decide ((List.length a0 : Int) < (List.length a0 : Int))))) (d_lss) ?_
        refine tcond_f h29 ?_
        exact h8 ()

/-! railpoint/cubes.Check -/
def an_cubes_Check : Ann := .seq (.reg 0 [] [] []) (.seq (.seq (.reg 0 [] [] []) (.cond none (.seq (.reg 0 [] [] []) (.no)) (.no))) (.seq (.seq (.reg 0 [] [] []) (.blk (some []) (.loop [.s 12] (.seq (.reg 0 [] [] []) (.seq (.cond none (.no) (.no)) (.seq (.blk none (.seq (.reg 0 [] [] []) (.seq (.reg 0 [] [] []) (.seq (.reg 0 [] [] []) (.cond none (.seq (.reg 0 [] [] []) (.no)) (.no)))))) (.reg 0 [] [] []))))))) (.seq (.reg 0 [] [] []) (.no))))
noncomputable def sem_cubes_Check (n : Nat) (xs : List V) : Option V := if xs.length ≤ 22 then denF Tryd.prog (envOf [(19, (sem_cube_Check n))]) n Tryd.f38 an_cubes_Check xs else none
theorem ok_cubes_Check (n : Nat) : SemOk Tryd.prog DW 38 (sem_cubes_Check n) := fun xs y h => by
  unfold sem_cubes_Check at h
  split at h
  · rename_i hl
    exact denF_ok stb Tryd.func38 (by kernel_rfl) (envOf_ok (semsOk_cons (ok_cube_Check n) semsOk_nil)) (by rw [Tryd.ntmps38]; exact hl) h
  · cases h
theorem eq_cubes_Check (n : Nat) (x0 : V) : sem_cubes_Check n [x0] =
 (lenS [x0]).bind fun v1 =>
 (bin2 Tryd.prog BinOp.gtr 3 (ot 7) (oc 40) v1 (vi 40)).bind fun v2 =>
 condV v2 (
 (scal1 Tryd.prog (Instr.makeInterface 119) (vi 4)).bind fun v3 =>
 some v3) (
 (lenS [x0]).bind fun v4 =>
 JoinPt (fun vs5 =>
 some vn) fun J6 =>
 (fixN (fun rec7 vs8 =>
 (bin2 Tryd.prog BinOp.lss 3 (ot 12) (ot 11) (List.getD vs8 0 V.any) v4).bind fun v9 =>
 condV v9 (
 (idxS 2 x0 (List.getD vs8 0 V.any)).bind fun v10 =>
 (ldp (some 2) v10).bind fun v11 =>
 (spliceV [(vi 0), (vi 0)] 0 2 v11).bind fun v12 =>
 (ldk (some 2) (List.drop 0 (aggL v12))).bind fun v13 =>
 ((sem_cube_Check n) [v13]).bind fun v14 =>
 (bin2 Tryd.prog BinOp.neq 33 (ot 18) (Operand.const Go.Value.nilIface) v14 vn).bind fun v15 =>
 condV v15 (
 some v14) (
 (bin2 Tryd.prog BinOp.add 3 (ot 12) (oc 1) (List.getD vs8 0 V.any) (vi 1)).bind fun v16 =>
 rec7 [v16])) (
 J6 [])) n) [(vi 0)]) := by kernel_rfl
noncomputable def t_cubes_Check (a0 : (List T_Cube)) : Option Int :=
 if (decide (40 < (List.length a0 : Int))) = true then (
 some 4) else (
 join (fun (s8 : Unit) =>
 some 0) fun j9 =>
 loopI a0 (fun (i17 : Int) x18 (s13 : Unit) k14 =>
 (t_cube_Check x18).bind fun r28 =>
 if (!decide (r28 = 0)) = true then (
 some r28) else (
 k14 ())) (fun (s13 : Unit) =>
 j9 ()) ())
theorem ty_cubes_Check {n : Nat} (hn : bigN ≤ n) (a0 : (List T_Cube)) : Rv (fun x : Int => (eV x)) (sem_cubes_Check n [(V.sl (List.map T_Cube.c a0))]) (t_cubes_Check a0) := by
  rw [eq_cubes_Check]
  unfold t_cubes_Check
  refine tb (x := (vi (List.length a0 : Int))) (p_len _) ?_
  refine tb (x := (vb (decide (40 < (List.length a0 : Int))))) (d_gtr) ?_
  refine tcond (fun h3 => ?_) (fun h3 => ?_)
  · refine tb (x := (eV 4)) (p_mkE (by decide)) ?_
    exact rf_ret rfl
  · refine tb (x := (vi (List.length a0 : Int))) (p_len _) ?_
    refine tjoin (mk := fun s8 : Unit => []) (fun s8 => ?_) fun J7 j9 h10 => ?_
    · exact rf_ret rfl
    · refine rf_loopI (mk := fun (i17 : Int) (s13 : Unit) => [(vi (i17 : Int))]) hn a0 () (fun i17 x18 h19 h20 h21 s13 rec11 k14 h15 => ?_) (fun s13 rec33 h32 => ?_)
      · refine tb (x := (vb (decide ((i17 : Int) < (List.length a0 : Int))))) (d_lss) ?_
        refine tcond_t h21 ?_
        refine tb (x := (V.ptr (T_Cube.c x18))) (p_idx_at (c := T_Cube.c) (fun _ => rfl) h19) ?_
        refine tb (x := (T_Cube.e x18)) (rfl) ?_
        refine tb (x := V.agg (T_Cube.c x18)) (by kernel_rfl) ?_
        refine tb (x := (T_Cube.e x18)) (rfl) ?_
        refine tbo (ty_cube_Check hn x18) fun r28 => ?_
        refine tb (x := (vb (!decide (r28 = 0)))) (p_err_neq _) ?_
        refine tcond (fun h30 => ?_) (fun h30 => ?_)
        · exact rf_ret rfl
        · refine tb (x := (vi ((i17 : Int) + 1))) (p_incN h20) ?_
          exact h15 ()
      · refine tb (x := (vb (decide ((List.length a0 : Int) < (List.length a0 : Int))))) (d_lss) ?_
        refine tcond_f h32 ?_
        exact h10 ()

/-! railpoint/railref1.Has -/
def an_railref1_Has : Ann := .seq (.reg 0 [] [] []) (.seq (.reg 0 [] [] []) (.seq (.reg 0 [] [] []) (.no)))
noncomputable def sem_railref1_Has (n : Nat) (xs : List V) : Option V := if xs.length ≤ 23 then denF Tryd.prog (envOf [(71, (sem_railref1_Header n)), (18, (sem_railref1_Cube n))]) n Tryd.f24 an_railref1_Has xs else none
theorem ok_railref1_Has (n : Nat) : SemOk Tryd.prog DW 24 (sem_railref1_Has n) := fun xs y h => by
  unfold sem_railref1_Has at h
  split at h
  · rename_i hl
    exact denF_ok stb Tryd.func24 (by kernel_rfl) (envOf_ok (semsOk_cons (ok_railref1_Header n) (semsOk_cons (ok_railref1_Cube n) semsOk_nil))) (by rw [Tryd.ntmps24]; exact hl) h
  · cases h
theorem eq_railref1_Has (n : Nat) (x0 x1 : V) : sem_railref1_Has n [x0, x1] =
 (V.cellsO x0).bind fun v1 =>
 ((sem_railref1_Header n) [x1]).bind fun v2 =>
 (guardV v2 true ((ldk (some 2) (List.drop 0 v1)).bind fun v3 =>
 some v3)).bind fun v4 =>
 (guardV v2 true (((sem_railref1_Cube n) [v4]).bind fun v5 =>
 some v5)).bind fun v6 =>
 (guardV v2 true ((bin2 Tryd.prog BinOp.eql 3 (ot 11) (oc 0) v6 (vi 0)).bind fun v7 =>
 some v7)).bind fun v8 =>
 (pickV v2 v8 (vb false)).bind fun v9 =>
 (guardV v9 true (some x1)).bind fun v10 =>
 (guardV v9 true (some V.any)).bind fun v11 =>
 (guardV v9 true ((gate v9 true (ldk none (List.drop 0 v1))).bind fun v12 =>
 some v12)).bind fun v13 =>
 (guardV v9 true ((bin2 Tryd.prog BinOp.and 3 (ot 15) (ot 17) v10 v13).bind fun v14 =>
 some v14)).bind fun v15 =>
 (guardV v9 true (some V.any)).bind fun v16 =>
 (guardV v9 true ((gate v9 true (ldk none (List.drop 1 v1))).bind fun v17 =>
 some v17)).bind fun v18 =>
 (guardV v9 true ((bin2 Tryd.prog BinOp.eql 3 (ot 18) (ot 20) v15 v18).bind fun v19 =>
 some v19)).bind fun v20 =>
 (pickV v9 v20 (vb false)).bind fun v21 =>
 some v21 := by kernel_rfl
noncomputable def t_railref1_Has (a0 : T_Cube) (a1 : Int) : Option Bool :=
 (t_railref1_Header a1).bind fun r3 =>
 (gd r3 default (t_railref1_Cube a0)).bind fun r10 =>
 some ((r3 && (decide (r10 = 0))) && (decide ((bits .and .i64 a1 a0.Mask) = a0.Bits)))
theorem ty_railref1_Has {n : Nat} (hn : bigN ≤ n) (a0 : T_Cube) (a1 : Int) : Rv (fun x : Bool => (vb x)) (sem_railref1_Has n [(T_Cube.e a0), (vi a1)]) (t_railref1_Has a0 a1) := by
  rw [eq_railref1_Has]
  unfold t_railref1_Has
  refine tb (x := (T_Cube.c a0)) rfl ?_
  refine tbo (ty_railref1_Header hn a1) fun r3 => ?_
  refine tg (x := (T_Cube.e a0)) (fun h4 => bind_some_eq (rfl)) ?_
  refine tgo (fun h7 => by simp only [gv_t h7]; exact rf_bind_some (ty_railref1_Cube hn a0)) fun r10 => ?_
  refine tg (x := (vb (decide (r10 = 0)))) (fun h11 => by simp only [gv_t h11]; exact bind_some_eq (d_eql)) ?_
  refine tb (x := (vb (r3 && (decide (r10 = 0))))) (pick_and (fun h9 => gv_t h9)) ?_
  refine tg (x := (vi a1)) (fun h15 => rfl) ?_
  refine tg (x := V.any) (fun h17 => rfl) ?_
  refine tg (x := (vi a0.Mask)) (fun h19 => bind_some_eq (gate_pos h19 (rfl))) ?_
  refine tg (x := (vi (bits .and .i64 a1 a0.Mask))) (fun h22 => by simp only [gv_t h22]; exact bind_some_eq (d_and)) ?_
  refine tg (x := V.any) (fun h25 => rfl) ?_
  refine tg (x := (vi a0.Bits)) (fun h27 => bind_some_eq (gate_pos h27 (rfl))) ?_
  refine tg (x := (vb (decide ((bits .and .i64 a1 a0.Mask) = a0.Bits)))) (fun h30 => by simp only [gv_t h30]; exact bind_some_eq (d_eql)) ?_
  refine tb (x := (vb ((r3 && (decide (r10 = 0))) && (decide ((bits .and .i64 a1 a0.Mask) = a0.Bits))))) (pick_and (fun h9 => gv_t h9)) ?_
  exact rf_ret rfl

/-! railpoint/railref1.Any -/
def an_railref1_Any : Ann := .seq (.reg 0 [] [] []) (.seq (.seq (.reg 0 [] [] []) (.blk (some []) (.loop [.s 5] (.seq (.seq (.reg 0 [] [] []) (.cond none (.no) (.no))) (.seq (.blk none (.seq (.reg 0 [] [] []) (.seq (.reg 0 [] [] []) (.cond none (.seq (.reg 0 [] [] []) (.no)) (.no))))) (.reg 0 [] [] [])))))) (.seq (.reg 0 [] [] []) (.no)))
noncomputable def sem_railref1_Any (n : Nat) (xs : List V) : Option V := if xs.length ≤ 20 then denF Tryd.prog (envOf [(24, (sem_railref1_Has n))]) n Tryd.f39 an_railref1_Any xs else none
theorem ok_railref1_Any (n : Nat) : SemOk Tryd.prog DW 39 (sem_railref1_Any n) := fun xs y h => by
  unfold sem_railref1_Any at h
  split at h
  · rename_i hl
    exact denF_ok stb Tryd.func39 (by kernel_rfl) (envOf_ok (semsOk_cons (ok_railref1_Has n) semsOk_nil)) (by rw [Tryd.ntmps39]; exact hl) h
  · cases h
theorem eq_railref1_Any (n : Nat) (x0 x1 : V) : sem_railref1_Any n [x0, x1] =
 JoinPt (fun vs1 =>
 some (vb false)) fun J2 =>
 (fixN (fun rec3 vs4 =>
 (lenS [x0]).bind fun v5 =>
 (bin2 Tryd.prog BinOp.lss 3 (ot 7) (ot 9) (List.getD vs4 0 V.any) v5).bind fun v6 =>
 condV v6 (
 (idxS 2 x0 (List.getD vs4 0 V.any)).bind fun v7 =>
 (ldp (some 2) v7).bind fun v8 =>
 ((sem_railref1_Has n) [v8, x1]).bind fun v9 =>
 condV v9 (
 some (vb true)) (
 (bin2 Tryd.prog BinOp.add 3 (ot 11) (oc 1) (List.getD vs4 0 V.any) (vi 1)).bind fun v10 =>
 rec3 [v10])) (
 J2 [])) n) [(vi 0)] := by kernel_rfl
noncomputable def t_railref1_Any (a0 : (List T_Cube)) (a1 : Int) : Option Bool :=
 join (fun (s3 : Unit) =>
 some false) fun j4 =>
 loopI a0 (fun (i12 : Int) x13 (s8 : Unit) k9 =>
 (t_railref1_Has x13 a1).bind fun r22 =>
 if r22 = true then (
 some true) else (
 k9 ())) (fun (s8 : Unit) =>
 j4 ()) ()
theorem ty_railref1_Any {n : Nat} (hn : bigN ≤ n) (a0 : (List T_Cube)) (a1 : Int) : Rv (fun x : Bool => (vb x)) (sem_railref1_Any n [(V.sl (List.map T_Cube.c a0)), (vi a1)]) (t_railref1_Any a0 a1) := by
  rw [eq_railref1_Any]
  unfold t_railref1_Any
  refine tjoin (mk := fun s3 : Unit => []) (fun s3 => ?_) fun J2 j4 h5 => ?_
  · exact rf_ret rfl
  · refine rf_loopI (mk := fun (i12 : Int) (s8 : Unit) => [(vi (i12 : Int))]) hn a0 () (fun i12 x13 h14 h15 h16 s8 rec6 k9 h10 => ?_) (fun s8 rec26 h25 => ?_)
    · refine tb (x := (vi (List.length a0 : Int))) (p_len _) ?_
      refine tb (x := (vb (decide ((i12 : Int) < (List.length a0 : Int))))) (d_lss) ?_
      refine tcond_t h16 ?_
      refine tb (x := (V.ptr (T_Cube.c x13))) (p_idx_at (c := T_Cube.c) (fun _ => rfl) h14) ?_
      refine tb (x := (T_Cube.e x13)) (rfl) ?_
      refine tbo (ty_railref1_Has hn x13 a1) fun r22 => ?_
      refine tcond (fun h23 => ?_) (fun h23 => ?_)
      · exact rf_ret rfl
      · refine tb (x := (vi ((i12 : Int) + 1))) (p_incN h15) ?_
        exact h10 ()
    · refine tb (x := (vi (List.length a0 : Int))) (p_len _) ?_
      refine tb (x := (vb (decide ((List.length a0 : Int) < (List.length a0 : Int))))) (d_lss) ?_
      refine tcond_f h25 ?_
      exact h5 ()

/-! slices.IndexFunc   railpoint/api.Cube railpoint/api.Cube  -/
def an_slices_IndexFunc_api_Cube_api_Cube : Ann := .seq (.reg 0 [] [] []) (.seq (.seq (.reg 0 [] [] []) (.blk (some []) (.loop [.s 8] (.seq (.reg 0 [] [] []) (.seq (.cond none (.no) (.no)) (.seq (.blk none (.seq (.reg 0 [] [] []) (.seq (.reg 0 [] [] []) (.cond none (.seq (.reg 0 [] [] []) (.no)) (.no))))) (.reg 0 [] [] []))))))) (.seq (.reg 0 [] [] []) (.no)))
noncomputable def sem_slices_IndexFunc_api_Cube_api_Cube (E : FuncId → List V → Option V) (n : Nat) (xs : List V) : Option V := if xs.length ≤ 19 then denF Tryd.prog (envJ [] E) n Tryd.f103 an_slices_IndexFunc_api_Cube_api_Cube xs else none
theorem ok_slices_IndexFunc_api_Cube_api_Cube {E : FuncId → List V → Option V} (hE : EnvOk Tryd.prog DW E) (n : Nat) : SemOk Tryd.prog DW 103 (sem_slices_IndexFunc_api_Cube_api_Cube E n) := fun xs y h => by
  unfold sem_slices_IndexFunc_api_Cube_api_Cube at h
  split at h
  · rename_i hl
    exact denF_ok stb Tryd.func103 (by kernel_rfl) (envJ_ok semsOk_nil hE) (by rw [Tryd.ntmps103]; exact hl) h
  · cases h
theorem eq_slices_IndexFunc_api_Cube_api_Cube (E : FuncId → List V → Option V) (n : Nat) (x0 x1 : V) : sem_slices_IndexFunc_api_Cube_api_Cube E n [x0, x1] =
 (lenS [x0]).bind fun v1 =>
 JoinPt (fun vs2 =>
 some (vi (-1 : Int))) fun J3 =>
 (fixN (fun rec4 vs5 =>
 (bin2 Tryd.prog BinOp.lss 3 (ot 8) (ot 7) (List.getD vs5 0 V.any) v1).bind fun v6 =>
 condV v6 (
 (idxS 2 x0 (List.getD vs5 0 V.any)).bind fun v7 =>
 (ldp (some 2) v7).bind fun v8 =>
 (callV (envJ [] E) x1 [v8]).bind fun v9 =>
 condV v9 (
 some (List.getD vs5 0 V.any)) (
 (bin2 Tryd.prog BinOp.add 3 (ot 8) (oc 1) (List.getD vs5 0 V.any) (vi 1)).bind fun v10 =>
 rec4 [v10])) (
 J3 [])) n) [(vi 0)] := by kernel_rfl
noncomputable def t_slices_IndexFunc_api_Cube_api_Cube (a0 : (List T_Cube)) (g1 : T_Cube → Option Bool) : Option Int :=
 join (fun (s4 : Unit) =>
 some (-1 : Int)) fun j5 =>
 loopI a0 (fun (i13 : Int) x14 (s9 : Unit) k10 =>
 (g1 x14).bind fun r22 =>
 if r22 = true then (
 some i13) else (
 k10 ())) (fun (s9 : Unit) =>
 j5 ()) ()
theorem ty_slices_IndexFunc_api_Cube_api_Cube {E : FuncId → List V → Option V} {n : Nat} (hn : bigN ≤ n) (a0 : (List T_Cube)) {x1 : V} {g1 : T_Cube → Option Bool} (hg_g1 : ∀ a0, Rv (fun x : Bool => (vb x)) (callV E x1 [(T_Cube.e a0)]) (g1 a0)) : Rv (fun x : Int => (vi x)) (sem_slices_IndexFunc_api_Cube_api_Cube E n [(V.sl (List.map T_Cube.c a0)), x1]) (t_slices_IndexFunc_api_Cube_api_Cube a0 g1) := by
  rw [eq_slices_IndexFunc_api_Cube_api_Cube]
  unfold t_slices_IndexFunc_api_Cube_api_Cube
  refine tb (x := (vi (List.length a0 : Int))) (p_len _) ?_
  refine tjoin (mk := fun s4 : Unit => []) (fun s4 => ?_) fun J3 j5 h6 => ?_
  · exact rf_ret rfl
  · refine rf_loopI (mk := fun (i13 : Int) (s9 : Unit) => [(vi (i13 : Int))]) hn a0 () (fun i13 x14 h15 h16 h17 s9 rec7 k10 h11 => ?_) (fun s9 rec26 h25 => ?_)
    · refine tb (x := (vb (decide ((i13 : Int) < (List.length a0 : Int))))) (d_lss) ?_
      refine tcond_t h17 ?_
      refine tb (x := (V.ptr (T_Cube.c x14))) (p_idx_at (c := T_Cube.c) (fun _ => rfl) h15) ?_
      refine tb (x := (T_Cube.e x14)) (rfl) ?_
      refine tbo ((callV_J0 ▸ hg_g1 x14)) fun r22 => ?_
      refine tcond (fun h23 => ?_) (fun h23 => ?_)
      · exact rf_ret rfl
      · refine tb (x := (vi ((i13 : Int) + 1))) (p_incN h16) ?_
        exact h11 ()
    · refine tb (x := (vb (decide ((List.length a0 : Int) < (List.length a0 : Int))))) (d_lss) ?_
      refine tcond_f h25 ?_
      exact h6 ()

/-! slices.ContainsFunc   railpoint/api.Cube railpoint/api.Cube  -/
def an_slices_ContainsFunc_api_Cube_api_Cube : Ann := .seq (.reg 0 [] [] []) (.seq (.reg 0 [] [] []) (.no))
noncomputable def sem_slices_ContainsFunc_api_Cube_api_Cube (E : FuncId → List V → Option V) (n : Nat) (xs : List V) : Option V := if xs.length ≤ 9 then denF Tryd.prog (envJ [(103, (sem_slices_IndexFunc_api_Cube_api_Cube E n))] E) n Tryd.f80 an_slices_ContainsFunc_api_Cube_api_Cube xs else none
theorem ok_slices_ContainsFunc_api_Cube_api_Cube {E : FuncId → List V → Option V} (hE : EnvOk Tryd.prog DW E) (n : Nat) : SemOk Tryd.prog DW 80 (sem_slices_ContainsFunc_api_Cube_api_Cube E n) := fun xs y h => by
  unfold sem_slices_ContainsFunc_api_Cube_api_Cube at h
  split at h
  · rename_i hl
    exact denF_ok stb Tryd.func80 (by kernel_rfl) (envJ_ok (semsOk_cons (ok_slices_IndexFunc_api_Cube_api_Cube hE n) semsOk_nil) hE) (by rw [Tryd.ntmps80]; exact hl) h
  · cases h
theorem eq_slices_ContainsFunc_api_Cube_api_Cube (E : FuncId → List V → Option V) (n : Nat) (x0 x1 : V) : sem_slices_ContainsFunc_api_Cube_api_Cube E n [x0, x1] =
 ((sem_slices_IndexFunc_api_Cube_api_Cube E n) [x0, x1]).bind fun v1 =>
 (bin2 Tryd.prog BinOp.geq 3 (ot 7) (oc 0) v1 (vi 0)).bind fun v2 =>
 some v2 := by kernel_rfl
noncomputable def t_slices_ContainsFunc_api_Cube_api_Cube (a0 : (List T_Cube)) (g1 : T_Cube → Option Bool) : Option Bool :=
 (t_slices_IndexFunc_api_Cube_api_Cube a0 g1).bind fun r2 =>
 some (decide (0 ≤ r2))
theorem ty_slices_ContainsFunc_api_Cube_api_Cube {E : FuncId → List V → Option V} {n : Nat} (hn : bigN ≤ n) (a0 : (List T_Cube)) {x1 : V} {g1 : T_Cube → Option Bool} (hg_g1 : ∀ a0, Rv (fun x : Bool => (vb x)) (callV E x1 [(T_Cube.e a0)]) (g1 a0)) : Rv (fun x : Bool => (vb x)) (sem_slices_ContainsFunc_api_Cube_api_Cube E n [(V.sl (List.map T_Cube.c a0)), x1]) (t_slices_ContainsFunc_api_Cube_api_Cube a0 g1) := by
  rw [eq_slices_ContainsFunc_api_Cube_api_Cube]
  unfold t_slices_ContainsFunc_api_Cube_api_Cube
  refine tbo (ty_slices_IndexFunc_api_Cube_api_Cube (E := E) (x1 := x1) (g1 := g1) hn a0 hg_g1) fun r2 => ?_
  refine tb (x := (vb (decide (0 ≤ r2)))) (d_geq) ?_
  exact rf_ret rfl

/-! railpoint/cube.Has -/
def an_cube_Has : Ann := .seq (.reg 0 [] [] []) (.seq (.reg 0 [] [] []) (.no))
noncomputable def sem_cube_Has (n : Nat) (xs : List V) : Option V := if xs.length ≤ 21 then denF Tryd.prog (envOf [(19, (sem_cube_Check n)), (72, (sem_cube_Header n))]) n Tryd.f27 an_cube_Has xs else none
theorem ok_cube_Has (n : Nat) : SemOk Tryd.prog DW 27 (sem_cube_Has n) := fun xs y h => by
  unfold sem_cube_Has at h
  split at h
  · rename_i hl
    exact denF_ok stb Tryd.func27 (by kernel_rfl) (envOf_ok (semsOk_cons (ok_cube_Check n) (semsOk_cons (ok_cube_Header n) semsOk_nil))) (by rw [Tryd.ntmps27]; exact hl) h
  · cases h
theorem eq_cube_Has (n : Nat) (x0 x1 : V) : sem_cube_Has n [x0, x1] =
 (V.cellsO x0).bind fun v1 =>
 (ldk (some 2) (List.drop 0 v1)).bind fun v2 =>
 ((sem_cube_Check n) [v2]).bind fun v3 =>
 (bin2 Tryd.prog BinOp.eql 33 (ot 6) (Operand.const Go.Value.nilIface) v3 vn).bind fun v4 =>
 (guardV v4 true (some x1)).bind fun v5 =>
 (guardV v4 true (((sem_cube_Header n) [v5]).bind fun v6 =>
 some v6)).bind fun v7 =>
 (pickV v4 v7 (vb false)).bind fun v8 =>
 (guardV v8 true (some x1)).bind fun v9 =>
 (guardV v8 true (some V.any)).bind fun v10 =>
 (guardV v8 true ((gate v8 true (ldk none (List.drop 0 v1))).bind fun v11 =>
 some v11)).bind fun v12 =>
 (guardV v8 true ((bin2 Tryd.prog BinOp.and 3 (ot 13) (ot 15) v9 v12).bind fun v13 =>
 some v13)).bind fun v14 =>
 (guardV v8 true (some V.any)).bind fun v15 =>
 (guardV v8 true ((gate v8 true (ldk none (List.drop 1 v1))).bind fun v16 =>
 some v16)).bind fun v17 =>
 (guardV v8 true ((bin2 Tryd.prog BinOp.eql 3 (ot 16) (ot 18) v14 v17).bind fun v18 =>
 some v18)).bind fun v19 =>
 (pickV v8 v19 (vb false)).bind fun v20 =>
 some v20 := by kernel_rfl
noncomputable def t_cube_Has (a0 : T_Cube) (a1 : Int) : Option Bool :=
 (t_cube_Check a0).bind fun r4 =>
 (gd (decide (r4 = 0)) default (t_cube_Header a1)).bind fun r11 =>
 some (((decide (r4 = 0)) && r11) && (decide ((bits .and .i64 a1 a0.Mask) = a0.Bits)))
theorem ty_cube_Has {n : Nat} (hn : bigN ≤ n) (a0 : T_Cube) (a1 : Int) : Rv (fun x : Bool => (vb x)) (sem_cube_Has n [(T_Cube.e a0), (vi a1)]) (t_cube_Has a0 a1) := by
  rw [eq_cube_Has]
  unfold t_cube_Has
  refine tb (x := (T_Cube.c a0)) rfl ?_
  refine tb (x := (T_Cube.e a0)) (rfl) ?_
  refine tbo (ty_cube_Check hn a0) fun r4 => ?_
  refine tb (x := (vb (decide (r4 = 0)))) (p_err_eql _) ?_
  refine tg (x := (vi a1)) (fun h6 => rfl) ?_
  refine tgo (fun h8 => by simp only [gv_t h8]; exact rf_bind_some (ty_cube_Header hn a1)) fun r11 => ?_
  refine tb (x := (vb ((decide (r4 = 0)) && r11))) (pick_and (fun h9 => gv_t h9)) ?_
  refine tg (x := (vi a1)) (fun h13 => rfl) ?_
  refine tg (x := V.any) (fun h15 => rfl) ?_
  refine tg (x := (vi a0.Mask)) (fun h17 => bind_some_eq (gate_pos h17 (rfl))) ?_
  refine tg (x := (vi (bits .and .i64 a1 a0.Mask))) (fun h20 => by simp only [gv_t h20]; exact bind_some_eq (d_and)) ?_
  refine tg (x := V.any) (fun h23 => rfl) ?_
  refine tg (x := (vi a0.Bits)) (fun h25 => bind_some_eq (gate_pos h25 (rfl))) ?_
  refine tg (x := (vb (decide ((bits .and .i64 a1 a0.Mask) = a0.Bits)))) (fun h28 => by simp only [gv_t h28]; exact bind_some_eq (d_eql)) ?_
  refine tb (x := (vb (((decide (r4 = 0)) && r11) && (decide ((bits .and .i64 a1 a0.Mask) = a0.Bits))))) (pick_and (fun h9 => gv_t h9)) ?_
  exact rf_ret rfl

/-! railpoint/cubes.Has$1 -/
def an_cubes_Has_1 : Ann := .seq (.reg 0 [] [] []) (.seq (.reg 0 [] [] []) (.no))
noncomputable def sem_cubes_Has_1 (n : Nat) (xs : List V) : Option V := if xs.length ≤ 7 then denF Tryd.prog (envOf [(27, (sem_cube_Has n))]) n Tryd.f81 an_cubes_Has_1 xs else none
theorem ok_cubes_Has_1 (n : Nat) : SemOk Tryd.prog DW 81 (sem_cubes_Has_1 n) := fun xs y h => by
  unfold sem_cubes_Has_1 at h
  split at h
  · rename_i hl
    exact denF_ok stb Tryd.func81 (by kernel_rfl) (envOf_ok (semsOk_cons (ok_cube_Has n) semsOk_nil)) (by rw [Tryd.ntmps81]; exact hl) h
  · cases h
theorem eq_cubes_Has_1 (n : Nat) (x0 x1 : V) : sem_cubes_Has_1 n [x0, x1] =
 (V.cellsO x0).bind fun v1 =>
 (ldk (some 2) (List.drop 0 v1)).bind fun v2 =>
 (ldp none x1).bind fun v3 =>
 ((sem_cube_Has n) [v2, v3]).bind fun v4 =>
 some v4 := by kernel_rfl
noncomputable def t_cubes_Has_1 (a0 : T_Cube) (a1 : Int) : Option Bool :=
 (t_cube_Has a0 a1).bind fun r5 =>
 some r5
theorem ty_cubes_Has_1 {n : Nat} (hn : bigN ≤ n) (a0 : T_Cube) (a1 : Int) : Rv (fun x : Bool => (vb x)) (sem_cubes_Has_1 n [(T_Cube.e a0), (V.ptr [(vi a1)])]) (t_cubes_Has_1 a0 a1) := by
  rw [eq_cubes_Has_1]
  unfold t_cubes_Has_1
  refine tb (x := (T_Cube.c a0)) rfl ?_
  refine tb (x := (T_Cube.e a0)) (rfl) ?_
  refine tb (x := (vi a1)) (rfl) ?_
  refine tbo (ty_cube_Has hn a0 a1) fun r5 => ?_
  exact rf_ret rfl

/-! railpoint/cubes.Has -/
def an_cubes_Has : Ann := .seq (.reg 0 [] [] []) (.seq (.reg 0 [3] [] []) (.no))
noncomputable def sem_cubes_Has (n : Nat) (xs : List V) : Option V := if xs.length ≤ 8 then denF Tryd.prog (envOf [(80, (sem_slices_ContainsFunc_api_Cube_api_Cube (envOf [(81, (sem_cubes_Has_1 n))]) n)), (81, (sem_cubes_Has_1 n))]) n Tryd.f43 an_cubes_Has xs else none
theorem ok_cubes_Has (n : Nat) : SemOk Tryd.prog DW 43 (sem_cubes_Has n) := fun xs y h => by
  unfold sem_cubes_Has at h
  split at h
  · rename_i hl
    exact denF_ok stb Tryd.func43 (by kernel_rfl) (envOf_ok (semsOk_cons (ok_slices_ContainsFunc_api_Cube_api_Cube (envOf_ok (semsOk_cons (ok_cubes_Has_1 n) semsOk_nil)) n) (semsOk_cons (ok_cubes_Has_1 n) semsOk_nil))) (by rw [Tryd.ntmps43]; exact hl) h
  · cases h
theorem eq_cubes_Has (n : Nat) (x0 x1 : V) : sem_cubes_Has n [x0, x1] =
 (V.cellsO x1).bind fun v1 =>
 ((sem_slices_ContainsFunc_api_Cube_api_Cube (envOf [(81, (sem_cubes_Has_1 n))]) n) [x0, (V.fn 81 [(V.ptr v1)])]).bind fun v2 =>
 some v2 := by kernel_rfl
noncomputable def t_cubes_Has (a0 : (List T_Cube)) (a1 : Int) : Option Bool :=
 (t_slices_ContainsFunc_api_Cube_api_Cube a0 (fun (a2 : T_Cube) => t_cubes_Has_1 a2 a1)).bind fun r4 =>
 some r4
theorem ty_cubes_Has {n : Nat} (hn : bigN ≤ n) (a0 : (List T_Cube)) (a1 : Int) : Rv (fun x : Bool => (vb x)) (sem_cubes_Has n [(V.sl (List.map T_Cube.c a0)), (vi a1)]) (t_cubes_Has a0 a1) := by
  rw [eq_cubes_Has]
  unfold t_cubes_Has
  refine tb (x := [(vi a1)]) rfl ?_
  refine tbo (ty_slices_ContainsFunc_api_Cube_api_Cube (E := (envOf [(81, (sem_cubes_Has_1 n))])) (x1 := (V.fn 81 [(V.ptr [(vi a1)])])) (g1 := (fun (a2 : T_Cube) => t_cubes_Has_1 a2 a1)) hn a0 (fun a2 => ty_cubes_Has_1 hn a2 a1)) fun r4 => ?_
  exact rf_ret rfl

/-! railpoint/cubes.Headers -/
def an_cubes_Headers : Ann := .seq (.reg 0 [] [] []) (.seq (.seq (.reg 0 [] [] []) (.seq (.reg 0 [] [] []) (.cond none (.seq (.reg 0 [] [] []) (.no)) (.no)))) (.seq (.reg 0 [] [] []) (.seq (.seq (.reg 0 [] [] []) (.blk (some [.s 5]) (.loop [.r 5 3, .s 12] (.seq (.reg 0 [] [] []) (.seq (.cond none (.no) (.no)) (.seq (.blk none (.seq (.reg 0 [] [] []) (.seq (.reg 0 [] [] []) (.cond (some [.r 5 3]) (.reg 0 [] [] []) (.no))))) (.reg 0 [] [] []))))))) (.seq (.reg 0 [] [] []) (.no)))))
noncomputable def sem_cubes_Headers (n : Nat) (xs : List V) : Option V := if xs.length ≤ 24 then denF Tryd.prog (envOf [(38, (sem_cubes_Check n)), (43, (sem_cubes_Has n))]) n Tryd.f40 an_cubes_Headers xs else none
theorem ok_cubes_Headers (n : Nat) : SemOk Tryd.prog DW 40 (sem_cubes_Headers n) := fun xs y h => by
  unfold sem_cubes_Headers at h
  split at h
  · rename_i hl
    exact denF_ok stb Tryd.func40 (by kernel_rfl) (envOf_ok (semsOk_cons (ok_cubes_Check n) (semsOk_cons (ok_cubes_Has n) semsOk_nil))) (by rw [Tryd.ntmps40]; exact hl) h
  · cases h
theorem eq_cubes_Headers (n : Nat) (x0 : V) : sem_cubes_Headers n [x0] =
 ((sem_cubes_Check n) [x0]).bind fun v1 =>
 (bin2 Tryd.prog BinOp.neq 33 (ot 9) (Operand.const Go.Value.nilIface) v1 vn).bind fun v2 =>
 condV v2 (
 some (V.tup [(V.sl []), v1])) (
 JoinPt (fun vs3 =>
 some (V.tup [(List.getD vs3 0 V.any), vn])) fun J4 =>
 (fixN (fun rec5 vs6 =>
 (bin2 Tryd.prog BinOp.lss 3 (ot 12) (oc 16) (List.getD vs6 1 V.any) (vi 16)).bind fun v7 =>
 condV v7 (
 ((sem_cubes_Has n) [x0, (List.getD vs6 1 V.any)]).bind fun v8 =>
 JoinPt (fun vs9 =>
 (bin2 Tryd.prog BinOp.add 3 (ot 12) (oc 1) (List.getD vs6 1 V.any) (vi 1)).bind fun v11 =>
 rec5 [(V.sl (slL (List.getD vs9 0 V.any))), v11]) fun J10 =>
 condV v8 (
 (slcB 1 1 [(vi 0)] [(0, (List.getD vs6 1 V.any))]).bind fun v12 =>
 (appV 1 (slL (List.getD vs6 0 V.any)) v12).bind fun v13 =>
 J10 [(V.sl (slL v13))]) (
 J10 [(V.sl (slL (List.getD vs6 0 V.any)))])) (
 J4 [(V.sl (slL (List.getD vs6 0 V.any)))])) n) [(V.sl []), (vi 0)]) := by kernel_rfl
noncomputable def t_cubes_Headers (a0 : (List T_Cube)) : Option ((List Int) × Int) :=
 (t_cubes_Check a0).bind fun r2 =>
 if (!decide (r2 = 0)) = true then (
 some ([], r2)) else (
 (loopU 0 16 (fun (i16 : Int) (s12 : (List Int)) k13 =>
 (t_cubes_Has a0 i16).bind fun r24 =>
 (if r24 = true then (
 (app s12 ([i16] : (List Int))).bind fun r34 =>
 some (r34)) else (
 some (s12))).bind fun (s27 : (List Int)) =>
 k13 (s27)) (fun (i16 : Int) (s12 : (List Int)) =>
 some (s12)) ([])).bind fun (s7 : (List Int)) =>
 some (s7, 0))
theorem ty_cubes_Headers {n : Nat} (hn : bigN ≤ n) (a0 : (List T_Cube)) : Rv (fun x : ((List Int) × Int) => V.tup [(V.sl (List.map cI x.1)), (eV x.2)]) (sem_cubes_Headers n [(V.sl (List.map T_Cube.c a0))]) (t_cubes_Headers a0) := by
  rw [eq_cubes_Headers]
  unfold t_cubes_Headers
  refine tbo (ty_cubes_Check hn a0) fun r2 => ?_
  refine tb (x := (vb (!decide (r2 = 0)))) (p_err_neq _) ?_
  refine tcond (fun h4 => ?_) (fun h4 => ?_)
  · exact rf_ret rfl
  · refine tjb (mk := fun s7 : (List Int) => [(V.sl (List.map cI s7))]) (fun J6 => ?_) fun s7 => ?_
    · refine rf_loopU (mk := fun (i16 : Int) (s12 : (List Int)) => [(V.sl (List.map cI s12)), (vi i16)]) hn _ _ ([]) (fun i16 h17 h18 h19 s12 rec10 k13 h14 => ?_) (fun i16 s12 rec21 h20 => ?_)
      · refine tb (x := (vb (decide (i16 < 16)))) (d_lss) ?_
        refine tcond_t h17 ?_
        refine tbo (ty_cubes_Has hn a0 i16) fun r24 => ?_
        refine tjb (mk := fun s27 : (List Int) => [(V.sl (List.map cI s27))]) (fun J26 => ?_) fun s27 => ?_
        · refine tcond (fun h31 => ?_) (fun h31 => ?_)
          · refine tb (x := (V.sl (List.map cI ([i16] : (List Int))))) (by kernel_rfl) ?_
            refine tbo (p_app (c := cI) (fun _ => rfl) s12 ([i16] : (List Int))) fun r34 => ?_
            exact rf_j rfl
          · exact rf_j rfl
        · refine tb (x := (vi (i16 + 1))) (p_inc h18 h19) ?_
          exact h14 (s27)
      · refine tb (x := (vb (decide (i16 < 16)))) (d_lss) ?_
        refine tcond_f h20 ?_
        exact rf_j rfl
    · exact rf_ret rfl

/-! railpoint/railsame.Ints -/
def an_railsame_Ints : Ann := .seq (.reg 0 [] [] []) (.seq (.seq (.reg 0 [] [] []) (.cond none (.seq (.reg 0 [] [] []) (.no)) (.no))) (.seq (.seq (.reg 0 [] [] []) (.blk (some []) (.loop [.s 5] (.seq (.seq (.reg 0 [] [] []) (.cond none (.no) (.no))) (.seq (.blk none (.seq (.reg 9 [] [] []) (.cond none (.seq (.reg 0 [] [] []) (.no)) (.no)))) (.reg 0 [] [] [])))))) (.seq (.reg 0 [] [] []) (.no))))
noncomputable def sem_railsame_Ints (n : Nat) (xs : List V) : Option V := if xs.length ≤ 26 then denF Tryd.prog (envOf []) n Tryd.f41 an_railsame_Ints xs else none
theorem ok_railsame_Ints (n : Nat) : SemOk Tryd.prog DW 41 (sem_railsame_Ints n) := fun xs y h => by
  unfold sem_railsame_Ints at h
  split at h
  · rename_i hl
    exact denF_ok stb Tryd.func41 (by kernel_rfl) (envOf_ok semsOk_nil) (by rw [Tryd.ntmps41]; exact hl) h
  · cases h
theorem eq_railsame_Ints (n : Nat) (x0 x1 : V) : sem_railsame_Ints n [x0, x1] =
 (lenS [x0]).bind fun v1 =>
 (lenS [x1]).bind fun v2 =>
 (bin2 Tryd.prog BinOp.neq 3 (ot 7) (ot 9) v1 v2).bind fun v3 =>
 condV v3 (
 some (vb false)) (
 JoinPt (fun vs4 =>
 some (vb true)) fun J5 =>
 (fixN (fun rec6 vs7 =>
 (lenS [x0]).bind fun v8 =>
 (bin2 Tryd.prog BinOp.lss 3 (ot 11) (ot 13) (List.getD vs7 0 V.any) v8).bind fun v9 =>
 condV v9 (
 (idxS 1 x0 (List.getD vs7 0 V.any)).bind fun v10 =>
 (ldp none v10).bind fun v11 =>
 (idxS 1 x1 (List.getD vs7 0 V.any)).bind fun v12 =>
 (ldp none v12).bind fun v13 =>
 (bin2 Tryd.prog BinOp.neq 3 (ot 20) (ot 24) v11 v13).bind fun v14 =>
 condV v14 (
 some (vb false)) (
 (bin2 Tryd.prog BinOp.add 3 (ot 15) (oc 1) (List.getD vs7 0 V.any) (vi 1)).bind fun v15 =>
 rec6 [v15])) (
 J5 [])) n) [(vi 0)]) := by kernel_rfl
noncomputable def t_railsame_Ints (a0 : (List Int)) (a1 : (List Int)) : Option Bool :=
 if (decide ((List.length a0 : Int) ≠ (List.length a1 : Int))) = true then (
 some false) else (
 join (fun (s7 : Unit) =>
 some true) fun j8 =>
 loopI a0 (fun (i16 : Int) x17 (s12 : Unit) k13 =>
 (idx a1 i16).bind fun r26 =>
 if (decide (x17 ≠ r26)) = true then (
 some false) else (
 k13 ())) (fun (s12 : Unit) =>
 j8 ()) ())
theorem ty_railsame_Ints {n : Nat} (hn : bigN ≤ n) (a0 : (List Int)) (a1 : (List Int)) : Rv (fun x : Bool => (vb x)) (sem_railsame_Ints n [(V.sl (List.map cI a0)), (V.sl (List.map cI a1))]) (t_railsame_Ints a0 a1) := by
  rw [eq_railsame_Ints]
  unfold t_railsame_Ints
  refine tb (x := (vi (List.length a0 : Int))) (p_len _) ?_
  refine tb (x := (vi (List.length a1 : Int))) (p_len _) ?_
  refine tb (x := (vb (decide ((List.length a0 : Int) ≠ (List.length a1 : Int))))) (d_neq) ?_
  refine tcond (fun h4 => ?_) (fun h4 => ?_)
  · exact rf_ret rfl
  · refine tjoin (mk := fun s7 : Unit => []) (fun s7 => ?_) fun J6 j8 h9 => ?_
    · exact rf_ret rfl
    · refine rf_loopI (mk := fun (i16 : Int) (s12 : Unit) => [(vi (i16 : Int))]) hn a0 () (fun i16 x17 h18 h19 h20 s12 rec10 k13 h14 => ?_) (fun s12 rec32 h31 => ?_)
      · refine tb (x := (vi (List.length a0 : Int))) (p_len _) ?_
        refine tb (x := (vb (decide ((i16 : Int) < (List.length a0 : Int))))) (d_lss) ?_
        refine tcond_t h20 ?_
        refine tb (x := (V.ptr [(vi x17)])) (p_idx_at (c := cI) (fun _ => rfl) h18) ?_
        refine tb (x := (vi x17)) (rfl) ?_
        refine tbo (p_idx (c := cI) (fun _ => rfl) a1 (i16 : Int)) fun r26 => ?_
        refine tb (x := (vi r26)) (rfl) ?_
        refine tb (x := (vb (decide (x17 ≠ r26)))) (d_neq) ?_
        refine tcond (fun h29 => ?_) (fun h29 => ?_)
        · exact rf_ret rfl
        · refine tb (x := (vi ((i16 : Int) + 1))) (p_incN h19) ?_
          exact h14 ()
      · refine tb (x := (vi (List.length a0 : Int))) (p_len _) ?_
        refine tb (x := (vb (decide ((List.length a0 : Int) < (List.length a0 : Int))))) (d_lss) ?_
        refine tcond_f h31 ?_
        exact h9 ()

/-! railpoint/cubes.Count -/
def an_cubes_Count : Ann := .seq (.reg 0 [] [] []) (.seq (.reg 0 [] [] []) (.seq (.reg 0 [] [] []) (.no)))
noncomputable def sem_cubes_Count (n : Nat) (xs : List V) : Option V := if xs.length ≤ 14 then denF Tryd.prog (envOf [(40, (sem_cubes_Headers n))]) n Tryd.f42 an_cubes_Count xs else none
theorem ok_cubes_Count (n : Nat) : SemOk Tryd.prog DW 42 (sem_cubes_Count n) := fun xs y h => by
  unfold sem_cubes_Count at h
  split at h
  · rename_i hl
    exact denF_ok stb Tryd.func42 (by kernel_rfl) (envOf_ok (semsOk_cons (ok_cubes_Headers n) semsOk_nil)) (by rw [Tryd.ntmps42]; exact hl) h
  · cases h
theorem eq_cubes_Count (n : Nat) (x0 : V) : sem_cubes_Count n [x0] =
 ((sem_cubes_Headers n) [x0]).bind fun v1 =>
 (extractV v1 0).bind fun v2 =>
 (extractV v1 1).bind fun v3 =>
 (lenS [v2]).bind fun v4 =>
 some (V.tup [v4, v3]) := by kernel_rfl
noncomputable def t_cubes_Count (a0 : (List T_Cube)) : Option (Int × Int) :=
 (t_cubes_Headers a0).bind fun r2 =>
 some ((List.length r2.1 : Int), r2.2)
theorem ty_cubes_Count {n : Nat} (hn : bigN ≤ n) (a0 : (List T_Cube)) : Rv (fun x : (Int × Int) => V.tup [(vi x.1), (eV x.2)]) (sem_cubes_Count n [(V.sl (List.map T_Cube.c a0))]) (t_cubes_Count a0) := by
  rw [eq_cubes_Count]
  unfold t_cubes_Count
  refine tbo (ty_cubes_Headers hn a0) fun r2 => ?_
  refine tb (x := (V.sl (List.map cI r2.1))) (rfl) ?_
  refine tb (x := (eV r2.2)) (rfl) ?_
  refine tb (x := (vi (List.length r2.1 : Int))) (p_len _) ?_
  exact rf_ret rfl

/-! railpoint/cube.both -/
def an_cube_both : Ann := .seq (.reg 0 [] [] []) (.seq (.reg 0 [] [] []) (.no))
noncomputable def sem_cube_both (n : Nat) (xs : List V) : Option V := if xs.length ≤ 13 then denF Tryd.prog (envOf [(19, (sem_cube_Check n))]) n Tryd.f74 an_cube_both xs else none
theorem ok_cube_both (n : Nat) : SemOk Tryd.prog DW 74 (sem_cube_both n) := fun xs y h => by
  unfold sem_cube_both at h
  split at h
  · rename_i hl
    exact denF_ok stb Tryd.func74 (by kernel_rfl) (envOf_ok (semsOk_cons (ok_cube_Check n) semsOk_nil)) (by rw [Tryd.ntmps74]; exact hl) h
  · cases h
theorem eq_cube_both (n : Nat) (x0 x1 : V) : sem_cube_both n [x0, x1] =
 (V.cellsO x0).bind fun v1 =>
 (V.cellsO x1).bind fun v2 =>
 (ldk (some 2) (List.drop 0 v1)).bind fun v3 =>
 ((sem_cube_Check n) [v3]).bind fun v4 =>
 (bin2 Tryd.prog BinOp.eql 33 (ot 6) (Operand.const Go.Value.nilIface) v4 vn).bind fun v5 =>
 (guardV v5 true ((ldk (some 2) (List.drop 0 v2)).bind fun v6 =>
 some v6)).bind fun v7 =>
 (guardV v5 true (((sem_cube_Check n) [v7]).bind fun v8 =>
 some v8)).bind fun v9 =>
 (guardV v5 true ((bin2 Tryd.prog BinOp.eql 33 (ot 10) (Operand.const Go.Value.nilIface) v9 vn).bind fun v10 =>
 some v10)).bind fun v11 =>
 (pickV v5 v11 (vb false)).bind fun v12 =>
 some v12 := by kernel_rfl
noncomputable def t_cube_both (a0 : T_Cube) (a1 : T_Cube) : Option Bool :=
 (t_cube_Check a0).bind fun r5 =>
 (gd (decide (r5 = 0)) default (t_cube_Check a1)).bind fun r13 =>
 some ((decide (r5 = 0)) && (decide (r13 = 0)))
theorem ty_cube_both {n : Nat} (hn : bigN ≤ n) (a0 : T_Cube) (a1 : T_Cube) : Rv (fun x : Bool => (vb x)) (sem_cube_both n [(T_Cube.e a0), (T_Cube.e a1)]) (t_cube_both a0 a1) := by
  rw [eq_cube_both]
  unfold t_cube_both
  refine tb (x := (T_Cube.c a0)) rfl ?_
  refine tb (x := (T_Cube.c a1)) rfl ?_
  refine tb (x := (T_Cube.e a0)) (rfl) ?_
  refine tbo (ty_cube_Check hn a0) fun r5 => ?_
  refine tb (x := (vb (decide (r5 = 0)))) (p_err_eql _) ?_
  refine tg (x := (T_Cube.e a1)) (fun h7 => bind_some_eq (rfl)) ?_
  refine tgo (fun h10 => by simp only [gv_t h10]; exact rf_bind_some (ty_cube_Check hn a1)) fun r13 => ?_
  refine tg (x := (vb (decide (r13 = 0)))) (fun h14 => by simp only [gv_t h14]; exact bind_some_eq (p_err_eql _)) ?_
  refine tb (x := (vb ((decide (r5 = 0)) && (decide (r13 = 0))))) (pick_and (fun h9 => gv_t h9)) ?_
  exact rf_ret rfl

/-! railpoint/cube.Meet -/
def an_cube_Meet : Ann := .seq (.reg 0 [] [] []) (.seq (.seq (.reg 0 [] [] []) (.cond none (.seq (.reg 0 [] [] []) (.no)) (.no))) (.seq (.reg 0 [] [] []) (.no)))
noncomputable def sem_cube_Meet (n : Nat) (xs : List V) : Option V := if xs.length ≤ 36 then denF Tryd.prog (envOf [(74, (sem_cube_both n))]) n Tryd.f26 an_cube_Meet xs else none
theorem ok_cube_Meet (n : Nat) : SemOk Tryd.prog DW 26 (sem_cube_Meet n) := fun xs y h => by
  unfold sem_cube_Meet at h
  split at h
  · rename_i hl
    exact denF_ok stb Tryd.func26 (by kernel_rfl) (envOf_ok (semsOk_cons (ok_cube_both n) semsOk_nil)) (by rw [Tryd.ntmps26]; exact hl) h
  · cases h
theorem eq_cube_Meet (n : Nat) (x0 x1 : V) : sem_cube_Meet n [x0, x1] =
 (V.cellsO x0).bind fun v1 =>
 (V.cellsO x1).bind fun v2 =>
 (ldk (some 2) (List.drop 0 v1)).bind fun v3 =>
 (ldk (some 2) (List.drop 0 v2)).bind fun v4 =>
 ((sem_cube_both n) [v3, v4]).bind fun v5 =>
 (scal1 Tryd.prog (Op.unary Go.UnOp.not) v5).bind fun v6 =>
 (guardV v6 false (some V.any)).bind fun v7 =>
 (guardV v6 false ((gate v6 false (ldk none (List.drop 1 v1))).bind fun v8 =>
 some v8)).bind fun v9 =>
 (guardV v6 false (some V.any)).bind fun v10 =>
 (guardV v6 false ((gate v6 false (ldk none (List.drop 1 v2))).bind fun v11 =>
 some v11)).bind fun v12 =>
 (guardV v6 false ((bin2 Tryd.prog BinOp.xor 3 (ot 12) (ot 14) v9 v12).bind fun v13 =>
 some v13)).bind fun v14 =>
 (guardV v6 false (some V.any)).bind fun v15 =>
 (guardV v6 false ((gate v6 false (ldk none (List.drop 0 v1))).bind fun v16 =>
 some v16)).bind fun v17 =>
 (guardV v6 false ((bin2 Tryd.prog BinOp.and 3 (ot 15) (ot 17) v14 v17).bind fun v18 =>
 some v18)).bind fun v19 =>
 (guardV v6 false (some V.any)).bind fun v20 =>
 (guardV v6 false ((gate v6 false (ldk none (List.drop 0 v2))).bind fun v21 =>
 some v21)).bind fun v22 =>
 (guardV v6 false ((bin2 Tryd.prog BinOp.and 3 (ot 18) (ot 20) v19 v22).bind fun v23 =>
 some v23)).bind fun v24 =>
 (guardV v6 false ((bin2 Tryd.prog BinOp.neq 3 (ot 21) (oc 0) v24 (vi 0)).bind fun v25 =>
 some v25)).bind fun v26 =>
 (pickV v6 (vb true) v26).bind fun v27 =>
 condV v27 (
 ((fillL [(vi 0), (vi 0)] []).map V.agg).bind fun v28 =>
 (spliceV [(vi 0), (vi 0)] 0 2 v28).bind fun v29 =>
 (ldk (some 2) (List.drop 0 (aggL v29))).bind fun v30 =>
 some (V.tup [v30, (vb false)])) (
 (ldk none (List.drop 0 v1)).bind fun v31 =>
 (ldk none (List.drop 0 v2)).bind fun v32 =>
 (bin2 Tryd.prog BinOp.or 3 (ot 26) (ot 28) v31 v32).bind fun v33 =>
 (ldk none (List.drop 1 v1)).bind fun v34 =>
 (ldk none (List.drop 1 v2)).bind fun v35 =>
 (bin2 Tryd.prog BinOp.or 3 (ot 31) (ot 33) v34 v35).bind fun v36 =>
 ((fillL [(vi 0), (vi 0)] [(0, 1, v33), (1, 1, v36)]).map V.agg).bind fun v37 =>
 (spliceV [(vi 0), (vi 0)] 0 2 v37).bind fun v38 =>
 (ldk (some 2) (List.drop 0 (aggL v38))).bind fun v39 =>
 some (V.tup [v39, (vb true)])) := by kernel_rfl
noncomputable def t_cube_Meet (a0 : T_Cube) (a1 : T_Cube) : Option (T_Cube × Bool) :=
 (t_cube_both a0 a1).bind fun r6 =>
 if ((!r6) || (decide ((bits .and .i64 (bits .and .i64 (bits .xor .i64 a0.Bits a1.Bits) a0.Mask) a1.Mask) ≠ 0))) = true then (
 some ((T_Cube.mk 0 0), false)) else (
 some ((T_Cube.mk (bits .or .i64 a0.Mask a1.Mask) (bits .or .i64 a0.Bits a1.Bits)), true))
theorem ty_cube_Meet {n : Nat} (hn : bigN ≤ n) (a0 : T_Cube) (a1 : T_Cube) : Rv (fun x : (T_Cube × Bool) => V.tup [(T_Cube.e x.1), (vb x.2)]) (sem_cube_Meet n [(T_Cube.e a0), (T_Cube.e a1)]) (t_cube_Meet a0 a1) := by
  rw [eq_cube_Meet]
  unfold t_cube_Meet
  refine tb (x := (T_Cube.c a0)) rfl ?_
  refine tb (x := (T_Cube.c a1)) rfl ?_
  refine tb (x := (T_Cube.e a0)) (rfl) ?_
  refine tb (x := (T_Cube.e a1)) (rfl) ?_
  refine tbo (ty_cube_both hn a0 a1) fun r6 => ?_
  refine tb (x := (vb (!r6))) (d_not) ?_
  refine tg_f (x := V.any) (fun h8 => rfl) ?_
  refine tg_f (x := (vi a0.Bits)) (fun h10 => bind_some_eq (gate_pos (not_t h10) (rfl))) ?_
  refine tg_f (x := V.any) (fun h13 => rfl) ?_
  refine tg_f (x := (vi a1.Bits)) (fun h15 => bind_some_eq (gate_pos (not_t h15) (rfl))) ?_
  refine tg_f (x := (vi (bits .xor .i64 a0.Bits a1.Bits))) (fun h18 => by simp only [gv_t h18]; exact bind_some_eq (d_xor)) ?_
  refine tg_f (x := V.any) (fun h21 => rfl) ?_
  refine tg_f (x := (vi a0.Mask)) (fun h23 => bind_some_eq (gate_pos (not_t h23) (rfl))) ?_
  refine tg_f (x := (vi (bits .and .i64 (bits .xor .i64 a0.Bits a1.Bits) a0.Mask))) (fun h26 => by simp only [gv_t h26]; exact bind_some_eq (d_and)) ?_
  refine tg_f (x := V.any) (fun h29 => rfl) ?_
  refine tg_f (x := (vi a1.Mask)) (fun h31 => bind_some_eq (gate_pos (not_t h31) (rfl))) ?_
  refine tg_f (x := (vi (bits .and .i64 (bits .and .i64 (bits .xor .i64 a0.Bits a1.Bits) a0.Mask) a1.Mask))) (fun h34 => by simp only [gv_t h34]; exact bind_some_eq (d_and)) ?_
  refine tg_f (x := (vb (decide ((bits .and .i64 (bits .and .i64 (bits .xor .i64 a0.Bits a1.Bits) a0.Mask) a1.Mask) ≠ 0)))) (fun h37 => by simp only [gv_t h37]; exact bind_some_eq (d_neq)) ?_
  refine tb (x := (vb ((!r6) || (decide ((bits .and .i64 (bits .and .i64 (bits .xor .i64 a0.Bits a1.Bits) a0.Mask) a1.Mask) ≠ 0))))) (pick_or (fun h9 => gv_t (not_f h9))) ?_
  refine tcond (fun h41 => ?_) (fun h41 => ?_)
  · refine tb (x := (T_Cube.e (T_Cube.mk 0 0))) (by kernel_rfl) ?_
    refine tb (x := V.agg (T_Cube.c (T_Cube.mk 0 0))) (by kernel_rfl) ?_
    refine tb (x := (T_Cube.e (T_Cube.mk 0 0))) rfl ?_
    exact rf_ret rfl
  · refine tb (x := (vi a0.Mask)) (rfl) ?_
    refine tb (x := (vi a1.Mask)) (rfl) ?_
    refine tb (x := (vi (bits .or .i64 a0.Mask a1.Mask))) (d_or) ?_
    refine tb (x := (vi a0.Bits)) (rfl) ?_
    refine tb (x := (vi a1.Bits)) (rfl) ?_
    refine tb (x := (vi (bits .or .i64 a0.Bits a1.Bits))) (d_or) ?_
    refine tb (x := (T_Cube.e (T_Cube.mk (bits .or .i64 a0.Mask a1.Mask) (bits .or .i64 a0.Bits a1.Bits)))) (by kernel_rfl) ?_
    refine tb (x := V.agg (T_Cube.c (T_Cube.mk (bits .or .i64 a0.Mask a1.Mask) (bits .or .i64 a0.Bits a1.Bits)))) (by kernel_rfl) ?_
    refine tb (x := (T_Cube.e (T_Cube.mk (bits .or .i64 a0.Mask a1.Mask) (bits .or .i64 a0.Bits a1.Bits)))) rfl ?_
    exact rf_ret rfl

/-! railpoint/cubes.without -/
def an_cubes_without : Ann := .seq (.reg 0 [] [] []) (.seq (.seq (.reg 0 [] [] []) (.seq (.reg 0 [] [] []) (.cond none (.seq (.reg 0 [] [] [17]) (.no)) (.no)))) (.seq (.seq (.reg 0 [] [] []) (.blk (some [.s 4]) (.loop [.kb 3, .b 2, .r 4 23, .s 7] (.seq (.seq (.reg 0 [] [] []) (.cond none (.no) (.no))) (.seq (.blk (some [.kb 3, .b 2, .r 4 23]) (.seq (.seq (.reg 0 [] [] []) (.cond none (.no) (.no))) (.seq (.reg 0 [] [] []) (.reg 0 [] [] [])))) (.reg 0 [] [] [])))))) (.seq (.reg 0 [] [] []) (.no))))
noncomputable def sem_cubes_without (n : Nat) (xs : List V) : Option V := if xs.length ≤ 58 then denF Tryd.prog (envOf [(26, (sem_cube_Meet n))]) n Tryd.f104 an_cubes_without xs else none
theorem ok_cubes_without (n : Nat) : SemOk Tryd.prog DW 104 (sem_cubes_without n) := fun xs y h => by
  unfold sem_cubes_without at h
  split at h
  · rename_i hl
    exact denF_ok stb Tryd.func104 (by kernel_rfl) (envOf_ok (semsOk_cons (ok_cube_Meet n) semsOk_nil)) (by rw [Tryd.ntmps104]; exact hl) h
  · cases h
theorem eq_cubes_without (n : Nat) (x0 x1 : V) : sem_cubes_without n [x0, x1] =
 (V.cellsO x0).bind fun v1 =>
 (V.cellsO x1).bind fun v2 =>
 (ldk (some 2) (List.drop 0 v1)).bind fun v3 =>
 (ldk (some 2) (List.drop 0 v2)).bind fun v4 =>
 ((sem_cube_Meet n) [v3, v4]).bind fun v5 =>
 (extractV v5 0).bind fun v6 =>
 (extractV v5 1).bind fun v7 =>
 (spliceV [(vi 0), (vi 0)] 0 2 v6).bind fun v8 =>
 (scal1 Tryd.prog (Op.unary Go.UnOp.not) v7).bind fun v9 =>
 condV v9 (
 (ldk (some 2) (List.drop 0 v1)).bind fun v10 =>
 (slcB 2 1 [(vi 0), (vi 0)] [(0, v10)]).bind fun v11 =>
 some (V.sl (slL v11))) (
 JoinPt (fun vs12 =>
 some (List.getD vs12 0 V.any)) fun J13 =>
 (keepO (some v2) (some v2) (some [(V.agg v1), (V.sl []), (vi 8)])).bind (fixN (fun rec14 vs15 =>
 (bin2 Tryd.prog BinOp.gtr 3 (ot 18) (oc 0) (List.getD vs15 2 V.any) (vi 0)).bind fun v16 =>
 condV v16 (
 JoinPt (fun vs17 =>
 (bin2 Tryd.prog BinOp.shr 3 (ot 20) (Operand.const (Go.Value.int Go.IntKind.u64 1)) (List.getD vs15 2 V.any) (V.lit (Go.Value.int Go.IntKind.u64 1))).bind fun v19 =>
 (keepO (some v2) (some v2) (some [(V.agg (aggL (List.getD vs17 0 V.any))), (V.sl (slL (List.getD vs17 1 V.any))), v19])).bind rec14) fun J18 =>
 (ldk none (List.drop 0 v2)).bind fun v20 =>
 (ldk none (List.drop 0 (aggL (List.getD vs15 0 V.any)))).bind fun v21 =>
 (bin2 Tryd.prog BinOp.andNot 3 (ot 23) (ot 25) v20 v21).bind fun v22 =>
 (bin2 Tryd.prog BinOp.and 3 (ot 26) (ot 27) v22 (List.getD vs15 2 V.any)).bind fun v23 =>
 (bin2 Tryd.prog BinOp.eql 3 (ot 28) (oc 0) v23 (vi 0)).bind fun v24 =>
 condV v24 (
 (keepO (some v2) (some v2) (some [(V.agg (aggL (List.getD vs15 0 V.any))), (V.sl (slL (List.getD vs15 1 V.any)))])).bind J18) (
 (ldk none (List.drop 0 (aggL (List.getD vs15 0 V.any)))).bind fun v25 =>
 (bin2 Tryd.prog BinOp.or 3 (ot 32) (ot 33) v25 (List.getD vs15 2 V.any)).bind fun v26 =>
 (ldk none (List.drop 1 (aggL (List.getD vs15 0 V.any)))).bind fun v27 =>
 (ldk none (List.drop 1 v2)).bind fun v28 =>
 (bin2 Tryd.prog BinOp.andNot 3 (ot 37) (ot 39) (List.getD vs15 2 V.any) v28).bind fun v29 =>
 (bin2 Tryd.prog BinOp.or 3 (ot 36) (ot 40) v27 v29).bind fun v30 =>
 ((fillL [(vi 0), (vi 0)] [(0, 1, v26), (1, 1, v30)]).map V.agg).bind fun v31 =>
 (slcB 2 1 [(vi 0), (vi 0)] [(0, v31)]).bind fun v32 =>
 (appV 2 (slL (List.getD vs15 1 V.any)) v32).bind fun v33 =>
 (ldk none (List.drop 0 (aggL (List.getD vs15 0 V.any)))).bind fun v34 =>
 (bin2 Tryd.prog BinOp.or 3 (ot 46) (ot 47) v34 (List.getD vs15 2 V.any)).bind fun v35 =>
 (ldk none (List.drop 1 (aggL (List.getD vs15 0 V.any)))).bind fun v36 =>
 (ldk none (List.drop 1 v2)).bind fun v37 =>
 (bin2 Tryd.prog BinOp.and 3 (ot 51) (ot 53) (List.getD vs15 2 V.any) v37).bind fun v38 =>
 (bin2 Tryd.prog BinOp.or 3 (ot 50) (ot 54) v36 v38).bind fun v39 =>
 ((fillL [(vi 0), (vi 0)] [(0, 1, v35), (1, 1, v39)]).map V.agg).bind fun v40 =>
 (spliceV (aggL (List.getD vs15 0 V.any)) 0 2 v40).bind fun v41 =>
 (keepO (some v2) (some v2) (some [(V.agg (aggL v41)), (V.sl (slL v33))])).bind J18)) (
 J13 [(V.sl (slL (List.getD vs15 1 V.any)))])) n)) := by kernel_rfl
noncomputable def t_cubes_without (a0 : T_Cube) (a1 : T_Cube) : Option (List T_Cube) :=
 (t_cube_Meet a0 a1).bind fun r6 =>
 if (!r6.2) = true then (
 some ([a0] : (List T_Cube))) else (
 (tfix (fun k22 (s21 : (T_Cube × (List T_Cube) × Int)) =>
 if (decide (0 < s21.2.2)) = true then (
 (if (decide ((bits .and .i64 (bits .andNot .i64 a1.Mask s21.1.Mask) s21.2.2) = 0)) = true then (
 some (s21.1, s21.2.1)) else (
 (app s21.2.1 ([(T_Cube.mk (bits .or .i64 s21.1.Mask s21.2.2) (bits .or .i64 s21.1.Bits (bits .andNot .i64 s21.2.2 a1.Bits)))] : (List T_Cube))).bind fun r49 =>
 some ((T_Cube.mk (bits .or .i64 s21.1.Mask s21.2.2) (bits .or .i64 s21.1.Bits (bits .and .i64 s21.2.2 a1.Bits))), r49))).bind fun (s30 : (T_Cube × (List T_Cube))) =>
 k22 (s30.1, s30.2, (Int.fdiv s21.2.2 (2 ^ (min (Int.toNat 1) 64))))) else (
 some (s21.2.1))) bigN (a0, [], 8)).bind fun (s16 : (List T_Cube)) =>
 some s16)
theorem ty_cubes_without {n : Nat} (hn : bigN ≤ n) (a0 : T_Cube) (a1 : T_Cube) : Rv (fun x : (List T_Cube) => (V.sl (List.map T_Cube.c x))) (sem_cubes_without n [(T_Cube.e a0), (T_Cube.e a1)]) (t_cubes_without a0 a1) := by
  rw [eq_cubes_without]
  unfold t_cubes_without
  refine tb (x := (T_Cube.c a0)) rfl ?_
  refine tb (x := (T_Cube.c a1)) rfl ?_
  refine tb (x := (T_Cube.e a0)) (rfl) ?_
  refine tb (x := (T_Cube.e a1)) (rfl) ?_
  refine tbo (ty_cube_Meet hn a0 a1) fun r6 => ?_
  refine tb (x := (T_Cube.e r6.1)) (rfl) ?_
  refine tb (x := (vb r6.2)) (rfl) ?_
  refine tb (x := V.agg (T_Cube.c r6.1)) (by kernel_rfl) ?_
  refine tb (x := (vb (!r6.2))) (d_not) ?_
  refine tcond (fun h11 => ?_) (fun h11 => ?_)
  · refine tb (x := (T_Cube.e a0)) (rfl) ?_
    refine tb (x := (V.sl (List.map T_Cube.c ([a0] : (List T_Cube))))) (by kernel_rfl) ?_
    exact rf_ret rfl
  · refine tjb (mk := fun s16 : (List T_Cube) => [(V.sl (List.map T_Cube.c s16))]) (fun J15 => ?_) fun s16 => ?_
    · refine tkeepO2 ?_ rfl
      refine tsome ?_
      refine rf_fixN (mk := fun (s21 : (T_Cube × (List T_Cube) × Int)) => [(V.agg (T_Cube.c s21.1)), (V.sl (List.map T_Cube.c s21.2.1)), (vi s21.2.2)]) hn (a0, [], 8) (fun rec19 k22 h23 s21 => ?_)
      refine tb (x := (vb (decide (0 < s21.2.2)))) (d_gtr) ?_
      refine tcond (fun h27 => ?_) (fun h27 => ?_)
      · refine tjb (mk := fun s30 : (T_Cube × (List T_Cube)) => [(V.agg (T_Cube.c s30.1)), (V.sl (List.map T_Cube.c s30.2))]) (fun J29 => ?_) fun s30 => ?_
        · refine tb (x := (vi a1.Mask)) (rfl) ?_
          refine tb (x := (vi s21.1.Mask)) (rfl) ?_
          refine tb (x := (vi (bits .andNot .i64 a1.Mask s21.1.Mask))) (d_andNot) ?_
          refine tb (x := (vi (bits .and .i64 (bits .andNot .i64 a1.Mask s21.1.Mask) s21.2.2))) (d_and) ?_
          refine tb (x := (vb (decide ((bits .and .i64 (bits .andNot .i64 a1.Mask s21.1.Mask) s21.2.2) = 0)))) (d_eql) ?_
          refine tcond (fun h39 => ?_) (fun h39 => ?_)
          · refine tkeepO2 ?_ rfl
            refine tsome ?_
            exact rf_j rfl
          · refine tb (x := (vi s21.1.Mask)) (rfl) ?_
            refine tb (x := (vi (bits .or .i64 s21.1.Mask s21.2.2))) (d_or) ?_
            refine tb (x := (vi s21.1.Bits)) (rfl) ?_
            refine tb (x := (vi a1.Bits)) (rfl) ?_
            refine tb (x := (vi (bits .andNot .i64 s21.2.2 a1.Bits))) (d_andNot) ?_
            refine tb (x := (vi (bits .or .i64 s21.1.Bits (bits .andNot .i64 s21.2.2 a1.Bits)))) (d_or) ?_
            refine tb (x := (T_Cube.e (T_Cube.mk (bits .or .i64 s21.1.Mask s21.2.2) (bits .or .i64 s21.1.Bits (bits .andNot .i64 s21.2.2 a1.Bits))))) (by kernel_rfl) ?_
            refine tb (x := (V.sl (List.map T_Cube.c ([(T_Cube.mk (bits .or .i64 s21.1.Mask s21.2.2) (bits .or .i64 s21.1.Bits (bits .andNot .i64 s21.2.2 a1.Bits)))] : (List T_Cube))))) (by kernel_rfl) ?_
            refine tbo (p_app (c := T_Cube.c) (fun _ => rfl) s21.2.1 ([(T_Cube.mk (bits .or .i64 s21.1.Mask s21.2.2) (bits .or .i64 s21.1.Bits (bits .andNot .i64 s21.2.2 a1.Bits)))] : (List T_Cube))) fun r49 => ?_
            refine tb (x := (vi s21.1.Mask)) (rfl) ?_
            refine tb (x := (vi (bits .or .i64 s21.1.Mask s21.2.2))) (d_or) ?_
            refine tb (x := (vi s21.1.Bits)) (rfl) ?_
            refine tb (x := (vi a1.Bits)) (rfl) ?_
            refine tb (x := (vi (bits .and .i64 s21.2.2 a1.Bits))) (d_and) ?_
            refine tb (x := (vi (bits .or .i64 s21.1.Bits (bits .and .i64 s21.2.2 a1.Bits)))) (d_or) ?_
            refine tb (x := (T_Cube.e (T_Cube.mk (bits .or .i64 s21.1.Mask s21.2.2) (bits .or .i64 s21.1.Bits (bits .and .i64 s21.2.2 a1.Bits))))) (by kernel_rfl) ?_
            refine tb (x := V.agg (T_Cube.c (T_Cube.mk (bits .or .i64 s21.1.Mask s21.2.2) (bits .or .i64 s21.1.Bits (bits .and .i64 s21.2.2 a1.Bits))))) (by kernel_rfl) ?_
            refine tkeepO2 ?_ rfl
            refine tsome ?_
            exact rf_j rfl
        · refine tb (x := (vi (Int.fdiv s21.2.2 (2 ^ (min (Int.toNat 1) 64))))) (p_shr (b := 1) (by decide)) ?_
          refine tkeepO2 ?_ rfl
          refine tsome ?_
          exact h23 (s30.1, s30.2, (Int.fdiv s21.2.2 (2 ^ (min (Int.toNat 1) 64))))
      · exact rf_j rfl
    · exact rf_ret rfl

/-! railpoint/cubes.minus -/
def an_cubes_minus : Ann := .seq (.reg 0 [] [] []) (.seq (.reg 0 [] [] []) (.seq (.seq (.reg 0 [] [] []) (.blk (some [.s 5]) (.loop [.s 5, .s 15] (.seq (.reg 0 [] [] []) (.seq (.cond none (.no) (.no)) (.seq (.blk (some [.s 5]) (.seq (.reg 0 [] [] []) (.seq (.reg 0 [] [] []) (.seq (.seq (.reg 0 [] [] []) (.blk (some [.s 8]) (.loop [.kb 7, .r 8 23, .s 19, .s 21] (.seq (.reg 0 [] [] []) (.seq (.cond none (.no) (.no)) (.seq (.blk none (.seq (.reg 0 [] [] []) (.reg 0 [] [] []))) (.reg 0 [] [] []))))))) (.reg 0 [] [] []))))) (.reg 0 [] [] []))))))) (.seq (.reg 0 [] [] []) (.no))))
noncomputable def sem_cubes_minus (n : Nat) (xs : List V) : Option V := if xs.length ≤ 34 then denF Tryd.prog (envOf [(104, (sem_cubes_without n))]) n Tryd.f82 an_cubes_minus xs else none
theorem ok_cubes_minus (n : Nat) : SemOk Tryd.prog DW 82 (sem_cubes_minus n) := fun xs y h => by
  unfold sem_cubes_minus at h
  split at h
  · rename_i hl
    exact denF_ok stb Tryd.func82 (by kernel_rfl) (envOf_ok (semsOk_cons (ok_cubes_without n) semsOk_nil)) (by rw [Tryd.ntmps82]; exact hl) h
  · cases h
theorem eq_cubes_minus (n : Nat) (x0 x1 : V) : sem_cubes_minus n [x0, x1] =
 (V.cellsO x0).bind fun v1 =>
 (ldk (some 2) (List.drop 0 v1)).bind fun v2 =>
 (slcB 2 1 [(vi 0), (vi 0)] [(0, v2)]).bind fun v3 =>
 (lenS [x1]).bind fun v4 =>
 JoinPt (fun vs5 =>
 some (List.getD vs5 0 V.any)) fun J6 =>
 (fixN (fun rec7 vs8 =>
 (bin2 Tryd.prog BinOp.lss 3 (ot 15) (ot 14) (List.getD vs8 1 V.any) v4).bind fun v9 =>
 condV v9 (
 JoinPt (fun vs10 =>
 (bin2 Tryd.prog BinOp.add 3 (ot 15) (oc 1) (List.getD vs8 1 V.any) (vi 1)).bind fun v12 =>
 rec7 [(List.getD vs10 0 V.any), v12]) fun J11 =>
 (idxS 2 x1 (List.getD vs8 1 V.any)).bind fun v13 =>
 (ldp (some 2) v13).bind fun v14 =>
 (spliceV [(vi 0), (vi 0)] 0 2 v14).bind fun v15 =>
 (lenS [(List.getD vs8 0 V.any)]).bind fun v16 =>
 JoinPt (fun vs17 =>
 J11 [(List.getD vs17 0 V.any)]) fun J18 =>
 (keepO (some (aggL v15)) (some (aggL v15)) (some [(V.sl []), (List.getD vs8 0 V.any), (vi 0)])).bind (fixN (fun rec19 vs20 =>
 (bin2 Tryd.prog BinOp.lss 3 (ot 21) (ot 20) (List.getD vs20 2 V.any) v16).bind fun v21 =>
 condV v21 (
 (idxS 2 (List.getD vs20 1 V.any) (List.getD vs20 2 V.any)).bind fun v22 =>
 (ldp (some 2) v22).bind fun v23 =>
 (spliceV [(vi 0), (vi 0)] 0 2 v23).bind fun v24 =>
 (ldk (some 2) (List.drop 0 (aggL v24))).bind fun v25 =>
 (ldk (some 2) (List.drop 0 (aggL v15))).bind fun v26 =>
 ((sem_cubes_without n) [v25, v26]).bind fun v27 =>
 (appV 2 (slL (List.getD vs20 0 V.any)) v27).bind fun v28 =>
 (bin2 Tryd.prog BinOp.add 3 (ot 21) (oc 1) (List.getD vs20 2 V.any) (vi 1)).bind fun v29 =>
 (keepO (some (aggL v15)) (some (aggL v15)) (some [(V.sl (slL v28)), (List.getD vs20 1 V.any), v29])).bind rec19) (
 J18 [(V.sl (slL (List.getD vs20 0 V.any)))])) n)) (
 J6 [(List.getD vs8 0 V.any)])) n) [v3, (vi 0)] := by kernel_rfl
noncomputable def t_cubes_minus (a0 : T_Cube) (a1 : (List T_Cube)) : Option (List T_Cube) :=
 (loopI a1 (fun (i16 : Int) x17 (s12 : (List T_Cube)) k13 =>
 ((loopI s12 (fun (i43 : Int) x44 (s39 : (List T_Cube)) k40 =>
 (t_cubes_without x44 x17).bind fun r55 =>
 (app s39 r55).bind fun r57 =>
 k40 (r57)) (fun (s39 : (List T_Cube)) =>
 some (s39)) ([])).bind fun (s34 : (List T_Cube)) =>
 some (s34)).bind fun (s24 : (List T_Cube)) =>
 k13 (s24)) (fun (s12 : (List T_Cube)) =>
 some (s12)) ([a0] : (List T_Cube))).bind fun (s7 : (List T_Cube)) =>
 some s7
theorem ty_cubes_minus {n : Nat} (hn : bigN ≤ n) (a0 : T_Cube) (a1 : (List T_Cube)) : Rv (fun x : (List T_Cube) => (V.sl (List.map T_Cube.c x))) (sem_cubes_minus n [(T_Cube.e a0), (V.sl (List.map T_Cube.c a1))]) (t_cubes_minus a0 a1) := by
  rw [eq_cubes_minus]
  unfold t_cubes_minus
  refine tb (x := (T_Cube.c a0)) rfl ?_
  refine tb (x := (T_Cube.e a0)) (rfl) ?_
  refine tb (x := (V.sl (List.map T_Cube.c ([a0] : (List T_Cube))))) (by kernel_rfl) ?_
  refine tb (x := (vi (List.length a1 : Int))) (p_len _) ?_
  refine tjb (mk := fun s7 : (List T_Cube) => [(V.sl (List.map T_Cube.c s7))]) (fun J6 => ?_) fun s7 => ?_
  · refine rf_loopI (mk := fun (i16 : Int) (s12 : (List T_Cube)) => [(V.sl (List.map T_Cube.c s12)), (vi (i16 : Int))]) hn a1 ([a0] : (List T_Cube)) (fun i16 x17 h18 h19 h20 s12 rec10 k13 h14 => ?_) (fun s12 rec63 h62 => ?_)
    · refine tb (x := (vb (decide ((i16 : Int) < (List.length a1 : Int))))) (d_lss) ?_
      refine tcond_t h20 ?_
      refine tjb (mk := fun s24 : (List T_Cube) => [(V.sl (List.map T_Cube.c s24))]) (fun J23 => ?_) fun s24 => ?_
      · refine tb (x := (V.ptr (T_Cube.c x17))) (p_idx_at (c := T_Cube.c) (fun _ => rfl) h18) ?_
        refine tb (x := (T_Cube.e x17)) (rfl) ?_
        refine tb (x := V.agg (T_Cube.c x17)) (by kernel_rfl) ?_
        refine tb (x := (vi (List.length s12 : Int))) (p_len _) ?_
        refine tjb (mk := fun s34 : (List T_Cube) => [(V.sl (List.map T_Cube.c s34))]) (fun J33 => ?_) fun s34 => ?_
        · refine tkeepO2 ?_ rfl
          refine tsome ?_
          refine rf_loopI (mk := fun (i43 : Int) (s39 : (List T_Cube)) => [(V.sl (List.map T_Cube.c s39)), (V.sl (List.map T_Cube.c s12)), (vi (i43 : Int))]) hn s12 ([]) (fun i43 x44 h45 h46 h47 s39 rec37 k40 h41 => ?_) (fun s39 rec60 h59 => ?_)
          · refine tb (x := (vb (decide ((i43 : Int) < (List.length s12 : Int))))) (d_lss) ?_
            refine tcond_t h47 ?_
            refine tb (x := (V.ptr (T_Cube.c x44))) (p_idx_at (c := T_Cube.c) (fun _ => rfl) h45) ?_
            refine tb (x := (T_Cube.e x44)) (rfl) ?_
            refine tb (x := V.agg (T_Cube.c x44)) (by kernel_rfl) ?_
            refine tb (x := (T_Cube.e x44)) (rfl) ?_
            refine tb (x := (T_Cube.e x17)) (rfl) ?_
            refine tbo (ty_cubes_without hn x44 x17) fun r55 => ?_
            refine tbo (p_app (c := T_Cube.c) (fun _ => rfl) s39 r55) fun r57 => ?_
            refine tb (x := (vi ((i43 : Int) + 1))) (p_incN h46) ?_
            refine tkeepO2 ?_ rfl
            refine tsome ?_
            exact h41 (r57)
          · refine tb (x := (vb (decide ((List.length s12 : Int) < (List.length s12 : Int))))) (d_lss) ?_
            refine tcond_f h59 ?_
            exact rf_j rfl
        · exact rf_j rfl
      · refine tb (x := (vi ((i16 : Int) + 1))) (p_incN h19) ?_
        exact h14 (s24)
    · refine tb (x := (vb (decide ((List.length a1 : Int) < (List.length a1 : Int))))) (d_lss) ?_
      refine tcond_f h62 ?_
      exact rf_j rfl
  · exact rf_ret rfl

/-! railpoint/cubes.Apart -/
def an_cubes_Apart : Ann := .seq (.reg 0 [] [] []) (.seq (.seq (.reg 0 [] [] []) (.seq (.reg 0 [] [] []) (.cond none (.seq (.reg 0 [] [] []) (.no)) (.no)))) (.seq (.reg 0 [] [] []) (.seq (.seq (.reg 0 [] [] []) (.blk (some [.s 5]) (.loop [.r 5 23, .s 15] (.seq (.reg 0 [] [] []) (.seq (.cond none (.no) (.no)) (.seq (.blk none (.seq (.reg 0 [] [] []) (.reg 6 [] [] []))) (.reg 0 [] [] []))))))) (.seq (.reg 0 [] [] []) (.no)))))
noncomputable def sem_cubes_Apart (n : Nat) (xs : List V) : Option V := if xs.length ≤ 29 then denF Tryd.prog (envOf [(38, (sem_cubes_Check n)), (82, (sem_cubes_minus n))]) n Tryd.f44 an_cubes_Apart xs else none
theorem ok_cubes_Apart (n : Nat) : SemOk Tryd.prog DW 44 (sem_cubes_Apart n) := fun xs y h => by
  unfold sem_cubes_Apart at h
  split at h
  · rename_i hl
    exact denF_ok stb Tryd.func44 (by kernel_rfl) (envOf_ok (semsOk_cons (ok_cubes_Check n) (semsOk_cons (ok_cubes_minus n) semsOk_nil))) (by rw [Tryd.ntmps44]; exact hl) h
  · cases h
theorem eq_cubes_Apart (n : Nat) (x0 : V) : sem_cubes_Apart n [x0] =
 ((sem_cubes_Check n) [x0]).bind fun v1 =>
 (bin2 Tryd.prog BinOp.neq 33 (ot 10) (Operand.const Go.Value.nilIface) v1 vn).bind fun v2 =>
 condV v2 (
 some (V.tup [(V.sl []), v1])) (
 (lenS [x0]).bind fun v3 =>
 JoinPt (fun vs4 =>
 some (V.tup [(List.getD vs4 0 V.any), vn])) fun J5 =>
 (fixN (fun rec6 vs7 =>
 (bin2 Tryd.prog BinOp.lss 3 (ot 15) (ot 14) (List.getD vs7 1 V.any) v3).bind fun v8 =>
 condV v8 (
 (idxS 2 x0 (List.getD vs7 1 V.any)).bind fun v9 =>
 (ldp (some 2) v9).bind fun v10 =>
 (spliceV [(vi 0), (vi 0)] 0 2 v10).bind fun v11 =>
 (ldk (some 2) (List.drop 0 (aggL v11))).bind fun v12 =>
 (slc (some 2) x0 none (some (List.getD vs7 1 V.any))).bind fun v13 =>
 ((sem_cubes_minus n) [v12, v13]).bind fun v14 =>
 (appV 2 (slL (List.getD vs7 0 V.any)) v14).bind fun v15 =>
 (bin2 Tryd.prog BinOp.add 3 (ot 15) (oc 1) (List.getD vs7 1 V.any) (vi 1)).bind fun v16 =>
 rec6 [(V.sl (slL v15)), v16]) (
 J5 [(V.sl (slL (List.getD vs7 0 V.any)))])) n) [(V.sl []), (vi 0)]) := by kernel_rfl
noncomputable def t_cubes_Apart (a0 : (List T_Cube)) : Option ((List T_Cube) × Int) :=
 (t_cubes_Check a0).bind fun r2 =>
 if (!decide (r2 = 0)) = true then (
 some ([], r2)) else (
 (loopI a0 (fun (i17 : Int) x18 (s13 : (List T_Cube)) k14 =>
 (slc_hi a0 i17).bind fun r28 =>
 (t_cubes_minus x18 r28).bind fun r30 =>
 (app s13 r30).bind fun r32 =>
 k14 (r32)) (fun (s13 : (List T_Cube)) =>
 some (s13)) ([])).bind fun (s8 : (List T_Cube)) =>
 some (s8, 0))
theorem ty_cubes_Apart {n : Nat} (hn : bigN ≤ n) (a0 : (List T_Cube)) : Rv (fun x : ((List T_Cube) × Int) => V.tup [(V.sl (List.map T_Cube.c x.1)), (eV x.2)]) (sem_cubes_Apart n [(V.sl (List.map T_Cube.c a0))]) (t_cubes_Apart a0) := by
  rw [eq_cubes_Apart]
  unfold t_cubes_Apart
  refine tbo (ty_cubes_Check hn a0) fun r2 => ?_
  refine tb (x := (vb (!decide (r2 = 0)))) (p_err_neq _) ?_
  refine tcond (fun h4 => ?_) (fun h4 => ?_)
  · exact rf_ret rfl
  · refine tb (x := (vi (List.length a0 : Int))) (p_len _) ?_
    refine tjb (mk := fun s8 : (List T_Cube) => [(V.sl (List.map T_Cube.c s8))]) (fun J7 => ?_) fun s8 => ?_
    · refine rf_loopI (mk := fun (i17 : Int) (s13 : (List T_Cube)) => [(V.sl (List.map T_Cube.c s13)), (vi (i17 : Int))]) hn a0 ([]) (fun i17 x18 h19 h20 h21 s13 rec11 k14 h15 => ?_) (fun s13 rec35 h34 => ?_)
      · refine tb (x := (vb (decide ((i17 : Int) < (List.length a0 : Int))))) (d_lss) ?_
        refine tcond_t h21 ?_
        refine tb (x := (V.ptr (T_Cube.c x18))) (p_idx_at (c := T_Cube.c) (fun _ => rfl) h19) ?_
        refine tb (x := (T_Cube.e x18)) (rfl) ?_
        refine tb (x := V.agg (T_Cube.c x18)) (by kernel_rfl) ?_
        refine tb (x := (T_Cube.e x18)) (rfl) ?_
        refine tbo (p_slc_hi (c := T_Cube.c) (fun _ => rfl) a0 (i17 : Int)) fun r28 => ?_
        refine tbo (ty_cubes_minus hn x18 r28) fun r30 => ?_
        refine tbo (p_app (c := T_Cube.c) (fun _ => rfl) s13 r30) fun r32 => ?_
        refine tb (x := (vi ((i17 : Int) + 1))) (p_incN h20) ?_
        exact h15 (r32)
      · refine tb (x := (vb (decide ((List.length a0 : Int) < (List.length a0 : Int))))) (d_lss) ?_
        refine tcond_f h34 ?_
        exact rf_j rfl
    · exact rf_ret rfl

/-! railpoint/railref1.Headers -/
def an_railref1_Headers : Ann := .seq (.reg 0 [] [] []) (.seq (.reg 0 [] [] []) (.seq (.seq (.reg 0 [] [] []) (.blk (some [.s 3]) (.loop [.kb 1, .r 3 3, .s 4] (.seq (.seq (.reg 0 [] [] []) (.cond none (.no) (.no))) (.seq (.blk none (.seq (.reg 0 [] [] []) (.seq (.reg 0 [] [] []) (.cond (some [.kb 1, .r 3 3]) (.reg 0 [] [] []) (.no))))) (.reg 0 [] [] [])))))) (.seq (.reg 0 [] [] []) (.no))))
noncomputable def sem_railref1_Headers (n : Nat) (xs : List V) : Option V := if xs.length ≤ 19 then denF Tryd.prog (envOf [(24, (sem_railref1_Has n))]) n Tryd.f25 an_railref1_Headers xs else none
theorem ok_railref1_Headers (n : Nat) : SemOk Tryd.prog DW 25 (sem_railref1_Headers n) := fun xs y h => by
  unfold sem_railref1_Headers at h
  split at h
  · rename_i hl
    exact denF_ok stb Tryd.func25 (by kernel_rfl) (envOf_ok (semsOk_cons (ok_railref1_Has n) semsOk_nil)) (by rw [Tryd.ntmps25]; exact hl) h
  · cases h
theorem eq_railref1_Headers (n : Nat) (x0 : V) : sem_railref1_Headers n [x0] =
 (V.cellsO x0).bind fun v1 =>
 JoinPt (fun vs2 =>
 some (List.getD vs2 0 V.any)) fun J3 =>
 (keepO (some v1) (some v1) (some [(V.sl []), (vi 0)])).bind (fixN (fun rec4 vs5 =>
 (bin2 Tryd.prog BinOp.lss 3 (ot 6) (oc 16) (List.getD vs5 1 V.any) (vi 16)).bind fun v6 =>
 condV v6 (
 (ldk (some 2) (List.drop 0 v1)).bind fun v7 =>
 ((sem_railref1_Has n) [v7, (List.getD vs5 1 V.any)]).bind fun v8 =>
 JoinPt (fun vs9 =>
 (bin2 Tryd.prog BinOp.add 3 (ot 8) (oc 1) (List.getD vs5 1 V.any) (vi 1)).bind fun v11 =>
 (keepO (some v1) (some v1) (some [(V.sl (slL (List.getD vs9 0 V.any))), v11])).bind rec4) fun J10 =>
 condV v8 (
 (slcB 1 1 [(vi 0)] [(0, (List.getD vs5 1 V.any))]).bind fun v12 =>
 (appV 1 (slL (List.getD vs5 0 V.any)) v12).bind fun v13 =>
 (keepO (some v1) (some v1) (some [(V.sl (slL v13))])).bind J10) (
 (keepO (some v1) (some v1) (some [(V.sl (slL (List.getD vs5 0 V.any)))])).bind J10)) (
 J3 [(V.sl (slL (List.getD vs5 0 V.any)))])) n) := by kernel_rfl
noncomputable def t_railref1_Headers (a0 : T_Cube) : Option (List Int) :=
 (loopU 0 16 (fun (i13 : Int) (s9 : (List Int)) k10 =>
 (t_railref1_Has a0 i13).bind fun r22 =>
 (if r22 = true then (
 (app s9 ([i13] : (List Int))).bind fun r32 =>
 some (r32)) else (
 some (s9))).bind fun (s25 : (List Int)) =>
 k10 (s25)) (fun (i13 : Int) (s9 : (List Int)) =>
 some (s9)) ([])).bind fun (s4 : (List Int)) =>
 some s4
theorem ty_railref1_Headers {n : Nat} (hn : bigN ≤ n) (a0 : T_Cube) : Rv (fun x : (List Int) => (V.sl (List.map cI x))) (sem_railref1_Headers n [(T_Cube.e a0)]) (t_railref1_Headers a0) := by
  rw [eq_railref1_Headers]
  unfold t_railref1_Headers
  refine tb (x := (T_Cube.c a0)) rfl ?_
  refine tjb (mk := fun s4 : (List Int) => [(V.sl (List.map cI s4))]) (fun J3 => ?_) fun s4 => ?_
  · refine tkeepO2 ?_ rfl
    refine tsome ?_
    refine rf_loopU (mk := fun (i13 : Int) (s9 : (List Int)) => [(V.sl (List.map cI s9)), (vi i13)]) hn _ _ ([]) (fun i13 h14 h15 h16 s9 rec7 k10 h11 => ?_) (fun i13 s9 rec18 h17 => ?_)
    · refine tb (x := (vb (decide (i13 < 16)))) (d_lss) ?_
      refine tcond_t h14 ?_
      refine tb (x := (T_Cube.e a0)) (rfl) ?_
      refine tbo (ty_railref1_Has hn a0 i13) fun r22 => ?_
      refine tjb (mk := fun s25 : (List Int) => [(V.sl (List.map cI s25))]) (fun J24 => ?_) fun s25 => ?_
      · refine tcond (fun h29 => ?_) (fun h29 => ?_)
        · refine tb (x := (V.sl (List.map cI ([i13] : (List Int))))) (by kernel_rfl) ?_
          refine tbo (p_app (c := cI) (fun _ => rfl) s9 ([i13] : (List Int))) fun r32 => ?_
          refine tkeepO2 ?_ rfl
          refine tsome ?_
          exact rf_j rfl
        · refine tkeepO2 ?_ rfl
          refine tsome ?_
          exact rf_j rfl
      · refine tb (x := (vi (i13 + 1))) (p_inc h15 h16) ?_
        refine tkeepO2 ?_ rfl
        refine tsome ?_
        exact h11 (s25)
    · refine tb (x := (vb (decide (i13 < 16)))) (d_lss) ?_
      refine tcond_f h17 ?_
      exact rf_j rfl
  · exact rf_ret rfl

/-! railpoint/raillaw1.apart -/
def an_raillaw1_apart : Ann := .seq (.reg 0 [] [] []) (.seq (.reg 0 [] [] []) (.seq (.seq (.reg 0 [] [] []) (.blk (some [.s 5]) (.loop [.s 5, .s 6] (.seq (.seq (.reg 0 [] [] []) (.cond none (.no) (.no))) (.seq (.blk none (.seq (.seq (.reg 0 [] [] []) (.cond none (.seq (.reg 0 [] [] []) (.no)) (.no))) (.reg 0 [] [] []))) (.reg 0 [] [] [])))))) (.seq (.seq (.reg 0 [] [] []) (.blk (some []) (.loop [.s 7] (.seq (.seq (.reg 0 [] [] []) (.cond none (.no) (.no))) (.seq (.blk none (.seq (.reg 0 [] [] []) (.seq (.reg 0 [] [] []) (.cond none (.seq (.reg 0 [] [] []) (.no)) (.no))))) (.reg 0 [] [] [])))))) (.seq (.reg 0 [] [] []) (.no)))))
noncomputable def sem_raillaw1_apart (n : Nat) (xs : List V) : Option V := if xs.length ≤ 56 then denF Tryd.prog (envOf [(18, (sem_railref1_Cube n)), (25, (sem_railref1_Headers n)), (39, (sem_railref1_Any n))]) n Tryd.f45 an_raillaw1_apart xs else none
theorem ok_raillaw1_apart (n : Nat) : SemOk Tryd.prog DW 45 (sem_raillaw1_apart n) := fun xs y h => by
  unfold sem_raillaw1_apart at h
  split at h
  · rename_i hl
    exact denF_ok stb Tryd.func45 (by kernel_rfl) (envOf_ok (semsOk_cons (ok_railref1_Cube n) (semsOk_cons (ok_railref1_Headers n) (semsOk_cons (ok_railref1_Any n) semsOk_nil)))) (by rw [Tryd.ntmps45]; exact hl) h
  · cases h
theorem eq_raillaw1_apart (n : Nat) (x0 x1 : V) : sem_raillaw1_apart n [x0, x1] =
 JoinPt (fun vs1 =>
 JoinPt (fun vs3 =>
 (lenS [x1]).bind fun v5 =>
 (bin2 Tryd.prog BinOp.eql 3 (ot 47) (ot 49) (List.getD vs1 0 V.any) v5).bind fun v6 =>
 (guardV v6 true (some x0)).bind fun v7 =>
 (guardV v6 true ((lenS [v7]).bind fun v8 =>
 some v8)).bind fun v9 =>
 (guardV v6 true ((bin2 Tryd.prog BinOp.leq 3 (ot 53) (oc 16) v9 (vi 16)).bind fun v10 =>
 some v10)).bind fun v11 =>
 (pickV v6 v11 (vb false)).bind fun v12 =>
 some v12) fun J4 =>
 (fixN (fun rec13 vs14 =>
 (lenS [x1]).bind fun v15 =>
 (bin2 Tryd.prog BinOp.lss 3 (ot 33) (ot 35) (List.getD vs14 0 V.any) v15).bind fun v16 =>
 condV v16 (
 (idxS 1 x1 (List.getD vs14 0 V.any)).bind fun v17 =>
 (ldp none v17).bind fun v18 =>
 ((sem_railref1_Any n) [x0, v18]).bind fun v19 =>
 (scal1 Tryd.prog (Op.unary Go.UnOp.not) v19).bind fun v20 =>
 condV v20 (
 some (vb false)) (
 (bin2 Tryd.prog BinOp.add 3 (ot 37) (oc 1) (List.getD vs14 0 V.any) (vi 1)).bind fun v21 =>
 rec13 [v21])) (
 J4 [])) n) [(vi 0)]) fun J2 =>
 (fixN (fun rec22 vs23 =>
 (lenS [x0]).bind fun v24 =>
 (bin2 Tryd.prog BinOp.lss 3 (ot 9) (ot 11) (List.getD vs23 1 V.any) v24).bind fun v25 =>
 (guardV v25 true (some (List.getD vs23 1 V.any))).bind fun v26 =>
 (guardV v25 true ((bin2 Tryd.prog BinOp.lss 3 (ot 14) (oc 20) v26 (vi 20)).bind fun v27 =>
 some v27)).bind fun v28 =>
 (pickV v25 v28 (vb false)).bind fun v29 =>
 condV v29 (
 (idxS 2 x0 (List.getD vs23 1 V.any)).bind fun v30 =>
 (ldp (some 2) v30).bind fun v31 =>
 ((sem_railref1_Cube n) [v31]).bind fun v32 =>
 (bin2 Tryd.prog BinOp.neq 3 (ot 23) (oc 0) v32 (vi 0)).bind fun v33 =>
 condV v33 (
 some (vb false)) (
 (idxS 2 x0 (List.getD vs23 1 V.any)).bind fun v34 =>
 (ldp (some 2) v34).bind fun v35 =>
 ((sem_railref1_Headers n) [v35]).bind fun v36 =>
 (lenS [v36]).bind fun v37 =>
 (bin2 Tryd.prog BinOp.add 3 (ot 25) (ot 31) (List.getD vs23 0 V.any) v37).bind fun v38 =>
 (bin2 Tryd.prog BinOp.add 3 (ot 17) (oc 1) (List.getD vs23 1 V.any) (vi 1)).bind fun v39 =>
 rec22 [v38, v39])) (
 J2 [(List.getD vs23 0 V.any)])) n) [(vi 0), (vi 0)] := by kernel_rfl
noncomputable def t_raillaw1_apart (a0 : (List T_Cube)) (a1 : (List Int)) : Option Bool :=
 join (fun (s3 : Int) =>
 join (fun (s8 : Unit) =>
 some ((decide (s3 = (List.length a1 : Int))) && (decide ((List.length a0 : Int) ≤ 16)))) fun j9 =>
 loopI a1 (fun (i28 : Int) x29 (s24 : Unit) k25 =>
 (t_railref1_Any a0 x29).bind fun r38 =>
 if (!r38) = true then (
 some false) else (
 k25 ())) (fun (s24 : Unit) =>
 j9 ()) ()) fun j4 =>
 loopI a0 (fun (i52 : Int) x53 (s48 : Int) k49 =>
 if (decide (i52 < 20)) = true then (
 (t_railref1_Cube x53).bind fun r67 =>
 if (decide (r67 ≠ 0)) = true then (
 some false) else (
 (t_railref1_Headers x53).bind fun r73 =>
 k49 (wr (s48 + (List.length r73 : Int))))) else (
 j4 (s48))) (fun (s48 : Int) =>
 j4 (s48)) (0)
theorem ty_raillaw1_apart {n : Nat} (hn : bigN ≤ n) (a0 : (List T_Cube)) (a1 : (List Int)) : Rv (fun x : Bool => (vb x)) (sem_raillaw1_apart n [(V.sl (List.map T_Cube.c a0)), (V.sl (List.map cI a1))]) (t_raillaw1_apart a0 a1) := by
  rw [eq_raillaw1_apart]
  unfold t_raillaw1_apart
  refine tjoin (mk := fun s3 : Int => [(vi s3)]) (fun s3 => ?_) fun J2 j4 h5 => ?_
  · refine tjoin (mk := fun s8 : Unit => []) (fun s8 => ?_) fun J7 j9 h10 => ?_
    · refine tb (x := (vi (List.length a1 : Int))) (p_len _) ?_
      refine tb (x := (vb (decide (s3 = (List.length a1 : Int))))) (d_eql) ?_
      refine tg (x := (V.sl (List.map T_Cube.c a0))) (fun h13 => rfl) ?_
      refine tg (x := (vi (List.length a0 : Int))) (fun h15 => by simp only [gv_t h15]; exact bind_some_eq (p_len _)) ?_
      refine tg (x := (vb (decide ((List.length a0 : Int) ≤ 16)))) (fun h18 => by simp only [gv_t h18]; exact bind_some_eq (d_leq)) ?_
      refine tb (x := (vb ((decide (s3 = (List.length a1 : Int))) && (decide ((List.length a0 : Int) ≤ 16))))) (pick_and (fun h9 => gv_t h9)) ?_
      exact rf_ret rfl
    · refine rf_loopI (mk := fun (i28 : Int) (s24 : Unit) => [(vi (i28 : Int))]) hn a1 () (fun i28 x29 h30 h31 h32 s24 rec22 k25 h26 => ?_) (fun s24 rec43 h42 => ?_)
      · refine tb (x := (vi (List.length a1 : Int))) (p_len _) ?_
        refine tb (x := (vb (decide ((i28 : Int) < (List.length a1 : Int))))) (d_lss) ?_
        refine tcond_t h32 ?_
        refine tb (x := (V.ptr [(vi x29)])) (p_idx_at (c := cI) (fun _ => rfl) h30) ?_
        refine tb (x := (vi x29)) (rfl) ?_
        refine tbo (ty_railref1_Any hn a0 x29) fun r38 => ?_
        refine tb (x := (vb (!r38))) (d_not) ?_
        refine tcond (fun h40 => ?_) (fun h40 => ?_)
        · exact rf_ret rfl
        · refine tb (x := (vi ((i28 : Int) + 1))) (p_incN h31) ?_
          exact h26 ()
      · refine tb (x := (vi (List.length a1 : Int))) (p_len _) ?_
        refine tb (x := (vb (decide ((List.length a1 : Int) < (List.length a1 : Int))))) (d_lss) ?_
        refine tcond_f h42 ?_
        exact h10 ()
  · refine rf_loopI (mk := fun (i52 : Int) (s48 : Int) => [(vi s48), (vi (i52 : Int))]) hn a0 (0) (fun i52 x53 h54 h55 h56 s48 rec46 k49 h50 => ?_) (fun s48 rec78 h77 => ?_)
    · refine tb (x := (vi (List.length a0 : Int))) (p_len _) ?_
      refine tb (x := (vb (decide ((i52 : Int) < (List.length a0 : Int))))) (d_lss) ?_
      refine tb (x := (vi (i52 : Int))) (gkt h56 rfl) ?_
      refine tkt h56 (tb (x := (vb (decide ((i52 : Int) < 20)))) (d_lss) ?_)
      refine tb (x := (vb (decide ((i52 : Int) < 20)))) (pick_kt h56) ?_
      refine tcond (fun h63 => ?_) (fun h63 => ?_)
      · refine tb (x := (V.ptr (T_Cube.c x53))) (p_idx_at (c := T_Cube.c) (fun _ => rfl) h54) ?_
        refine tb (x := (T_Cube.e x53)) (rfl) ?_
        refine tbo (ty_railref1_Cube hn x53) fun r67 => ?_
        refine tb (x := (vb (decide (r67 ≠ 0)))) (d_neq) ?_
        refine tcond (fun h69 => ?_) (fun h69 => ?_)
        · exact rf_ret rfl
        · refine tb (x := (V.ptr (T_Cube.c x53))) (p_idx_at (c := T_Cube.c) (fun _ => rfl) h54) ?_
          refine tb (x := (T_Cube.e x53)) (rfl) ?_
          refine tbo (ty_railref1_Headers hn x53) fun r73 => ?_
          refine tb (x := (vi (List.length r73 : Int))) (p_len _) ?_
          refine tb (x := (vi (wr (s48 + (List.length r73 : Int))))) (d_add) ?_
          refine tb (x := (vi ((i52 : Int) + 1))) (p_incN h55) ?_
          exact h50 (wr (s48 + (List.length r73 : Int)))
      · exact h5 (s48)
    · refine tb (x := (vi (List.length a0 : Int))) (p_len _) ?_
      refine tb (x := (vb (decide ((List.length a0 : Int) < (List.length a0 : Int))))) (d_lss) ?_
      refine tb (x := V.tup []) (gnt h77) ?_
      refine tb (x := V.tup []) (gnt h77) ?_
      refine tb (x := (vb (false))) (pick_kf h77) ?_
      refine tcond_f rfl ?_
      exact h5 (s48)

/-! railpoint/cubes.Minus -/
def an_cubes_Minus : Ann := .seq (.reg 0 [] [] []) (.seq (.seq (.reg 0 [] [] []) (.seq (.reg 0 [] [] []) (.cond none (.seq (.reg 0 [] [] []) (.no)) (.no)))) (.seq (.seq (.reg 0 [] [] []) (.seq (.reg 0 [] [] []) (.cond none (.seq (.reg 0 [] [] []) (.no)) (.no)))) (.seq (.reg 0 [] [] []) (.no))))
noncomputable def sem_cubes_Minus (n : Nat) (xs : List V) : Option V := if xs.length ≤ 21 then denF Tryd.prog (envOf [(19, (sem_cube_Check n)), (38, (sem_cubes_Check n)), (82, (sem_cubes_minus n))]) n Tryd.f46 an_cubes_Minus xs else none
theorem ok_cubes_Minus (n : Nat) : SemOk Tryd.prog DW 46 (sem_cubes_Minus n) := fun xs y h => by
  unfold sem_cubes_Minus at h
  split at h
  · rename_i hl
    exact denF_ok stb Tryd.func46 (by kernel_rfl) (envOf_ok (semsOk_cons (ok_cube_Check n) (semsOk_cons (ok_cubes_Check n) (semsOk_cons (ok_cubes_minus n) semsOk_nil)))) (by rw [Tryd.ntmps46]; exact hl) h
  · cases h
theorem eq_cubes_Minus (n : Nat) (x0 x1 : V) : sem_cubes_Minus n [x0, x1] =
 (V.cellsO x0).bind fun v1 =>
 (ldk (some 2) (List.drop 0 v1)).bind fun v2 =>
 ((sem_cube_Check n) [v2]).bind fun v3 =>
 (bin2 Tryd.prog BinOp.neq 33 (ot 10) (Operand.const Go.Value.nilIface) v3 vn).bind fun v4 =>
 condV v4 (
 some (V.tup [(V.sl []), v3])) (
 ((sem_cubes_Check n) [x1]).bind fun v5 =>
 (bin2 Tryd.prog BinOp.neq 33 (ot 15) (Operand.const Go.Value.nilIface) v5 vn).bind fun v6 =>
 condV v6 (
 some (V.tup [(V.sl []), v5])) (
 (ldk (some 2) (List.drop 0 v1)).bind fun v7 =>
 ((sem_cubes_minus n) [v7, x1]).bind fun v8 =>
 some (V.tup [v8, vn]))) := by kernel_rfl
noncomputable def t_cubes_Minus (a0 : T_Cube) (a1 : (List T_Cube)) : Option ((List T_Cube) × Int) :=
 (t_cube_Check a0).bind fun r4 =>
 if (!decide (r4 = 0)) = true then (
 some ([], r4)) else (
 (t_cubes_Check a1).bind fun r8 =>
 if (!decide (r8 = 0)) = true then (
 some ([], r8)) else (
 (t_cubes_minus a0 a1).bind fun r13 =>
 some (r13, 0)))
theorem ty_cubes_Minus {n : Nat} (hn : bigN ≤ n) (a0 : T_Cube) (a1 : (List T_Cube)) : Rv (fun x : ((List T_Cube) × Int) => V.tup [(V.sl (List.map T_Cube.c x.1)), (eV x.2)]) (sem_cubes_Minus n [(T_Cube.e a0), (V.sl (List.map T_Cube.c a1))]) (t_cubes_Minus a0 a1) := by
  rw [eq_cubes_Minus]
  unfold t_cubes_Minus
  refine tb (x := (T_Cube.c a0)) rfl ?_
  refine tb (x := (T_Cube.e a0)) (rfl) ?_
  refine tbo (ty_cube_Check hn a0) fun r4 => ?_
  refine tb (x := (vb (!decide (r4 = 0)))) (p_err_neq _) ?_
  refine tcond (fun h6 => ?_) (fun h6 => ?_)
  · exact rf_ret rfl
  · refine tbo (ty_cubes_Check hn a1) fun r8 => ?_
    refine tb (x := (vb (!decide (r8 = 0)))) (p_err_neq _) ?_
    refine tcond (fun h10 => ?_) (fun h10 => ?_)
    · exact rf_ret rfl
    · refine tb (x := (T_Cube.e a0)) (rfl) ?_
      refine tbo (ty_cubes_minus hn a0 a1) fun r13 => ?_
      exact rf_ret rfl

/-! slices.Equal   int int  -/
def an_slices_Equal_int_int : Ann := .seq (.reg 0 [] [] []) (.seq (.seq (.reg 0 [] [] []) (.cond none (.seq (.reg 0 [] [] []) (.no)) (.no))) (.seq (.seq (.reg 0 [] [] []) (.blk (some []) (.loop [.s 13] (.seq (.reg 0 [] [] []) (.seq (.cond none (.no) (.no)) (.seq (.blk none (.seq (.reg 0 [] [] []) (.seq (.reg 9 [] [] []) (.cond none (.seq (.reg 0 [] [] []) (.no)) (.no))))) (.reg 0 [] [] []))))))) (.seq (.reg 0 [] [] []) (.no))))
noncomputable def sem_slices_Equal_int_int (n : Nat) (xs : List V) : Option V := if xs.length ≤ 26 then denF Tryd.prog (envOf []) n Tryd.f83 an_slices_Equal_int_int xs else none
theorem ok_slices_Equal_int_int (n : Nat) : SemOk Tryd.prog DW 83 (sem_slices_Equal_int_int n) := fun xs y h => by
  unfold sem_slices_Equal_int_int at h
  split at h
  · rename_i hl
    exact denF_ok stb Tryd.func83 (by kernel_rfl) (envOf_ok semsOk_nil) (by rw [Tryd.ntmps83]; exact hl) h
  · cases h
theorem eq_slices_Equal_int_int (n : Nat) (x0 x1 : V) : sem_slices_Equal_int_int n [x0, x1] =
 (lenS [x0]).bind fun v1 =>
 (lenS [x1]).bind fun v2 =>
 (bin2 Tryd.prog BinOp.neq 3 (ot 7) (ot 9) v1 v2).bind fun v3 =>
 condV v3 (
 some (vb false)) (
 (lenS [x0]).bind fun v4 =>
 JoinPt (fun vs5 =>
 some (vb true)) fun J6 =>
 (fixN (fun rec7 vs8 =>
 (bin2 Tryd.prog BinOp.lss 3 (ot 13) (ot 12) (List.getD vs8 0 V.any) v4).bind fun v9 =>
 condV v9 (
 (idxS 1 x0 (List.getD vs8 0 V.any)).bind fun v10 =>
 (ldp none v10).bind fun v11 =>
 (idxS 1 x1 (List.getD vs8 0 V.any)).bind fun v12 =>
 (ldp none v12).bind fun v13 =>
 (bin2 Tryd.prog BinOp.neq 3 (ot 19) (ot 23) v11 v13).bind fun v14 =>
 condV v14 (
 some (vb false)) (
 (bin2 Tryd.prog BinOp.add 3 (ot 13) (oc 1) (List.getD vs8 0 V.any) (vi 1)).bind fun v15 =>
 rec7 [v15])) (
 J6 [])) n) [(vi 0)]) := by kernel_rfl
noncomputable def t_slices_Equal_int_int (a0 : (List Int)) (a1 : (List Int)) : Option Bool :=
 if (decide ((List.length a0 : Int) ≠ (List.length a1 : Int))) = true then (
 some false) else (
 join (fun (s8 : Unit) =>
 some true) fun j9 =>
 loopI a0 (fun (i17 : Int) x18 (s13 : Unit) k14 =>
 (idx a1 i17).bind fun r26 =>
 if (decide (x18 ≠ r26)) = true then (
 some false) else (
 k14 ())) (fun (s13 : Unit) =>
 j9 ()) ())
theorem ty_slices_Equal_int_int {n : Nat} (hn : bigN ≤ n) (a0 : (List Int)) (a1 : (List Int)) : Rv (fun x : Bool => (vb x)) (sem_slices_Equal_int_int n [(V.sl (List.map cI a0)), (V.sl (List.map cI a1))]) (t_slices_Equal_int_int a0 a1) := by
  rw [eq_slices_Equal_int_int]
  unfold t_slices_Equal_int_int
  refine tb (x := (vi (List.length a0 : Int))) (p_len _) ?_
  refine tb (x := (vi (List.length a1 : Int))) (p_len _) ?_
  refine tb (x := (vb (decide ((List.length a0 : Int) ≠ (List.length a1 : Int))))) (d_neq) ?_
  refine tcond (fun h4 => ?_) (fun h4 => ?_)
  · exact rf_ret rfl
  · refine tb (x := (vi (List.length a0 : Int))) (p_len _) ?_
    refine tjoin (mk := fun s8 : Unit => []) (fun s8 => ?_) fun J7 j9 h10 => ?_
    · exact rf_ret rfl
    · refine rf_loopI (mk := fun (i17 : Int) (s13 : Unit) => [(vi (i17 : Int))]) hn a0 () (fun i17 x18 h19 h20 h21 s13 rec11 k14 h15 => ?_) (fun s13 rec32 h31 => ?_)
      · refine tb (x := (vb (decide ((i17 : Int) < (List.length a0 : Int))))) (d_lss) ?_
        refine tcond_t h21 ?_
        refine tb (x := (V.ptr [(vi x18)])) (p_idx_at (c := cI) (fun _ => rfl) h19) ?_
        refine tb (x := (vi x18)) (rfl) ?_
        refine tbo (p_idx (c := cI) (fun _ => rfl) a1 (i17 : Int)) fun r26 => ?_
        refine tb (x := (vi r26)) (rfl) ?_
        refine tb (x := (vb (decide (x18 ≠ r26)))) (d_neq) ?_
        refine tcond (fun h29 => ?_) (fun h29 => ?_)
        · exact rf_ret rfl
        · refine tb (x := (vi ((i17 : Int) + 1))) (p_incN h20) ?_
          exact h15 ()
      · refine tb (x := (vb (decide ((List.length a0 : Int) < (List.length a0 : Int))))) (d_lss) ?_
        refine tcond_f h31 ?_
        exact h10 ()

/-! railpoint/cubes.Same -/
def an_cubes_Same : Ann := .seq (.reg 0 [] [] []) (.seq (.reg 0 [] [] []) (.seq (.seq (.reg 0 [] [] []) (.cond none (.seq (.reg 0 [] [] []) (.no)) (.no))) (.seq (.reg 0 [] [] []) (.seq (.seq (.reg 0 [] [] []) (.cond none (.seq (.reg 0 [] [] []) (.no)) (.no))) (.seq (.reg 0 [] [] []) (.no))))))
noncomputable def sem_cubes_Same (n : Nat) (xs : List V) : Option V := if xs.length ≤ 28 then denF Tryd.prog (envOf [(40, (sem_cubes_Headers n)), (83, (sem_slices_Equal_int_int n))]) n Tryd.f47 an_cubes_Same xs else none
theorem ok_cubes_Same (n : Nat) : SemOk Tryd.prog DW 47 (sem_cubes_Same n) := fun xs y h => by
  unfold sem_cubes_Same at h
  split at h
  · rename_i hl
    exact denF_ok stb Tryd.func47 (by kernel_rfl) (envOf_ok (semsOk_cons (ok_cubes_Headers n) (semsOk_cons (ok_slices_Equal_int_int n) semsOk_nil))) (by rw [Tryd.ntmps47]; exact hl) h
  · cases h
theorem eq_cubes_Same (n : Nat) (x0 x1 : V) : sem_cubes_Same n [x0, x1] =
 ((sem_cubes_Headers n) [x0]).bind fun v1 =>
 (extractV v1 0).bind fun v2 =>
 (extractV v1 1).bind fun v3 =>
 (bin2 Tryd.prog BinOp.neq 33 (ot 14) (Operand.const Go.Value.nilIface) v3 vn).bind fun v4 =>
 condV v4 (
 some (V.tup [(vb false), v3])) (
 ((sem_cubes_Headers n) [x1]).bind fun v5 =>
 (extractV v5 0).bind fun v6 =>
 (extractV v5 1).bind fun v7 =>
 (bin2 Tryd.prog BinOp.neq 33 (ot 22) (Operand.const Go.Value.nilIface) v7 vn).bind fun v8 =>
 condV v8 (
 some (V.tup [(vb false), v7])) (
 ((sem_slices_Equal_int_int n) [v2, v6]).bind fun v9 =>
 some (V.tup [v9, vn]))) := by kernel_rfl
noncomputable def t_cubes_Same (a0 : (List T_Cube)) (a1 : (List T_Cube)) : Option (Bool × Int) :=
 (t_cubes_Headers a0).bind fun r2 =>
 if (!decide (r2.2 = 0)) = true then (
 some (false, r2.2)) else (
 (t_cubes_Headers a1).bind fun r8 =>
 if (!decide (r8.2 = 0)) = true then (
 some (false, r8.2)) else (
 (t_slices_Equal_int_int r2.1 r8.1).bind fun r14 =>
 some (r14, 0)))
theorem ty_cubes_Same {n : Nat} (hn : bigN ≤ n) (a0 : (List T_Cube)) (a1 : (List T_Cube)) : Rv (fun x : (Bool × Int) => V.tup [(vb x.1), (eV x.2)]) (sem_cubes_Same n [(V.sl (List.map T_Cube.c a0)), (V.sl (List.map T_Cube.c a1))]) (t_cubes_Same a0 a1) := by
  rw [eq_cubes_Same]
  unfold t_cubes_Same
  refine tbo (ty_cubes_Headers hn a0) fun r2 => ?_
  refine tb (x := (V.sl (List.map cI r2.1))) (rfl) ?_
  refine tb (x := (eV r2.2)) (rfl) ?_
  refine tb (x := (vb (!decide (r2.2 = 0)))) (p_err_neq _) ?_
  refine tcond (fun h6 => ?_) (fun h6 => ?_)
  · exact rf_ret rfl
  · refine tbo (ty_cubes_Headers hn a1) fun r8 => ?_
    refine tb (x := (V.sl (List.map cI r8.1))) (rfl) ?_
    refine tb (x := (eV r8.2)) (rfl) ?_
    refine tb (x := (vb (!decide (r8.2 = 0)))) (p_err_neq _) ?_
    refine tcond (fun h12 => ?_) (fun h12 => ?_)
    · exact rf_ret rfl
    · refine tbo (ty_slices_Equal_int_int hn r2.1 r8.1) fun r14 => ?_
      exact rf_ret rfl

/-! railpoint/raillaw1.CubesTells -/
def an_raillaw1_CubesTells : Ann := .seq (.reg 0 [] [] []) (.seq (.reg 0 [] [] []) (.seq (.reg 0 [] [] []) (.seq (.reg 0 [] [] []) (.seq (.seq (.reg 0 [] [] []) (.blk (some [.kb 6, .s 11]) (.loop [.kb 6, .r 11 3, .s 12] (.seq (.seq (.reg 0 [] [] []) (.cond none (.no) (.no))) (.seq (.blk none (.seq (.reg 0 [] [] []) (.seq (.reg 0 [] [] []) (.cond (some [.kb 6, .r 11 3]) (.reg 0 [] [] []) (.no))))) (.reg 0 [] [] [])))))) (.seq (.reg 0 [] [] []) (.seq (.reg 0 [] [] []) (.seq (.reg 0 [] [] []) (.seq (.reg 0 [] [] []) (.seq (.reg 0 [] [] []) (.seq (.seq (.reg 0 [] [] []) (.cond none (.seq (.reg 0 [] [] []) (.no)) (.no))) (.seq (.reg 0 [] [] []) (.seq (.reg 0 [] [] []) (.seq (.reg 0 [] [] []) (.seq (.reg 0 [] [] []) (.seq (.seq (.reg 0 [] [] []) (.cond (some [.kb 6, .s 23]) (.reg 0 [] [] []) (.no))) (.seq (.reg 0 [] [] []) (.seq (.seq (.reg 0 [] [] []) (.blk (some [.kb 6, .s 24]) (.loop [.kb 6, .r 24 3, .s 25] (.seq (.seq (.reg 0 [] [] []) (.cond none (.no) (.no))) (.seq (.blk none (.seq (.reg 0 [] [] []) (.seq (.reg 0 [] [] []) (.seq (.reg 0 [] [] []) (.cond (some [.kb 6, .r 24 3]) (.reg 0 [] [] []) (.no)))))) (.reg 0 [] [] [])))))) (.seq (.reg 0 [] [] []) (.seq (.reg 0 [] [] []) (.seq (.reg 0 [] [] []) (.seq (.reg 0 [] [] []) (.seq (.seq (.reg 0 [] [] []) (.cond (some [.s 31]) (.reg 0 [] [] []) (.no))) (.seq (.reg 0 [] [] []) (.seq (.seq (.reg 0 [] [] []) (.blk (some [.s 32]) (.loop [.s 32, .s 33] (.seq (.seq (.reg 0 [] [] []) (.cond none (.no) (.no))) (.seq (.blk none (.seq (.reg 0 [] [] []) (.seq (.reg 0 [] [] []) (.reg 0 [] [] [])))) (.reg 0 [] [] [])))))) (.seq (.reg 0 [] [] []) (.seq (.reg 0 [] [] []) (.seq (.reg 0 [] [] []) (.no))))))))))))))))))))))))))))
noncomputable def sem_raillaw1_CubesTells (n : Nat) (xs : List V) : Option V := if xs.length ≤ 205 then denF Tryd.prog (envOf [(37, (sem_railref1_Cubes n)), (38, (sem_cubes_Check n)), (12, (sem_Error n)), (39, (sem_railref1_Any n)), (40, (sem_cubes_Headers n)), (41, (sem_railsame_Ints n)), (42, (sem_cubes_Count n)), (43, (sem_cubes_Has n)), (44, (sem_cubes_Apart n)), (45, (sem_raillaw1_apart n)), (18, (sem_railref1_Cube n)), (24, (sem_railref1_Has n)), (46, (sem_cubes_Minus n)), (47, (sem_cubes_Same n))]) n Tryd.f6 an_raillaw1_CubesTells xs else none
theorem ok_raillaw1_CubesTells (n : Nat) : SemOk Tryd.prog DW 6 (sem_raillaw1_CubesTells n) := fun xs y h => by
  unfold sem_raillaw1_CubesTells at h
  split at h
  · rename_i hl
    exact denF_ok stb Tryd.func6 (by kernel_rfl) (envOf_ok (semsOk_cons (ok_railref1_Cubes n) (semsOk_cons (ok_cubes_Check n) (semsOk_cons (ok_Error n) (semsOk_cons (ok_railref1_Any n) (semsOk_cons (ok_cubes_Headers n) (semsOk_cons (ok_railsame_Ints n) (semsOk_cons (ok_cubes_Count n) (semsOk_cons (ok_cubes_Has n) (semsOk_cons (ok_cubes_Apart n) (semsOk_cons (ok_raillaw1_apart n) (semsOk_cons (ok_railref1_Cube n) (semsOk_cons (ok_railref1_Has n) (semsOk_cons (ok_cubes_Minus n) (semsOk_cons (ok_cubes_Same n) semsOk_nil))))))))))))))) (by rw [Tryd.ntmps6]; exact hl) h
  · cases h
theorem eq_raillaw1_CubesTells (n : Nat) (x0 x1 x2 x3 : V) : sem_raillaw1_CubesTells n [x0, x1, x2, x3] =
 (V.cellsO x2).bind fun v1 =>
 ((sem_railref1_Cubes n) [x0]).bind fun v2 =>
 ((sem_cubes_Check n) [x0]).bind fun v3 =>
 ((sem_Error n) [v3, v2]).bind fun v4 =>
 JoinPt (fun vs5 =>
 ((sem_cubes_Headers n) [x0]).bind fun v7 =>
 (extractV v7 0).bind fun v8 =>
 (extractV v7 1).bind fun v9 =>
 ((sem_Error n) [v9, v2]).bind fun v10 =>
 ((sem_railsame_Ints n) [v8, (List.getD vs5 0 V.any)]).bind fun v11 =>
 ((sem_cubes_Count n) [x0]).bind fun v12 =>
 (extractV v12 0).bind fun v13 =>
 (extractV v12 1).bind fun v14 =>
 ((sem_Error n) [v14, v2]).bind fun v15 =>
 (lenS [(List.getD vs5 0 V.any)]).bind fun v16 =>
 (bin2 Tryd.prog BinOp.neq 3 (ot 79) (ot 81) v13 v16).bind fun v17 =>
 (guardV v17 false (some x0)).bind fun v18 =>
 (guardV v17 false (some x3)).bind fun v19 =>
 (guardV v17 false (((sem_cubes_Has n) [v18, v19]).bind fun v20 =>
 some v20)).bind fun v21 =>
 (guardV v17 false (some x0)).bind fun v22 =>
 (guardV v17 false (some x3)).bind fun v23 =>
 (guardV v17 false (((sem_railref1_Any n) [v22, v23]).bind fun v24 =>
 some v24)).bind fun v25 =>
 (guardV v17 false ((bin2 Tryd.prog BinOp.neq 4 (ot 86) (ot 89) v21 v25).bind fun v26 =>
 some v26)).bind fun v27 =>
 (pickV v17 (vb true) v27).bind fun v28 =>
 condV v28 (
 some (vb false)) (
 ((sem_cubes_Apart n) [x0]).bind fun v29 =>
 (extractV v29 0).bind fun v30 =>
 (extractV v29 1).bind fun v31 =>
 ((sem_Error n) [v31, v2]).bind fun v32 =>
 ((sem_raillaw1_apart n) [v30, (List.getD vs5 0 V.any)]).bind fun v33 =>
 (ldk (some 2) (List.drop 0 v1)).bind fun v34 =>
 ((sem_railref1_Cube n) [v34]).bind fun v35 =>
 (bin2 Tryd.prog BinOp.eql 3 (ot 105) (oc 0) v35 (vi 0)).bind fun v36 =>
 JoinPt (fun vs37 =>
 JoinPt (fun vs39 =>
 (ldk (some 2) (List.drop 0 v1)).bind fun v41 =>
 ((sem_cubes_Minus n) [v41, x0]).bind fun v42 =>
 (extractV v42 0).bind fun v43 =>
 (extractV v42 1).bind fun v44 =>
 ((sem_Error n) [v44, (List.getD vs37 0 V.any)]).bind fun v45 =>
 ((sem_raillaw1_apart n) [v43, (List.getD vs39 0 V.any)]).bind fun v46 =>
 (bin2 Tryd.prog BinOp.eql 3 (ot 144) (oc 0) v2 (vi 0)).bind fun v47 =>
 JoinPt (fun vs48 =>
 (bin2 Tryd.prog BinOp.eql 3 (ot 148) (oc 0) (List.getD vs48 0 V.any) (vi 0)).bind fun v50 =>
 JoinPt (fun vs51 =>
 ((sem_cubes_Same n) [x0, x1]).bind fun v53 =>
 (extractV v53 0).bind fun v54 =>
 (extractV v53 1).bind fun v55 =>
 ((sem_Error n) [v55, (List.getD vs48 0 V.any)]).bind fun v56 =>
 (guardV v4 true (some v10)).bind fun v57 =>
 (pickV v4 v57 (vb false)).bind fun v58 =>
 (guardV v58 true (some v15)).bind fun v59 =>
 (pickV v58 v59 (vb false)).bind fun v60 =>
 (guardV v60 true (some v32)).bind fun v61 =>
 (pickV v60 v61 (vb false)).bind fun v62 =>
 (guardV v62 true (some v45)).bind fun v63 =>
 (pickV v62 v63 (vb false)).bind fun v64 =>
 (guardV v64 true (some v56)).bind fun v65 =>
 (pickV v64 v65 (vb false)).bind fun v66 =>
 (guardV v66 true (some v11)).bind fun v67 =>
 (pickV v66 v67 (vb false)).bind fun v68 =>
 (guardV v68 true (some v33)).bind fun v69 =>
 (pickV v68 v69 (vb false)).bind fun v70 =>
 (guardV v70 true (some v46)).bind fun v71 =>
 (pickV v70 v71 (vb false)).bind fun v72 =>
 (guardV v72 true (some v54)).bind fun v73 =>
 (guardV v72 true (some (List.getD vs51 0 V.any))).bind fun v74 =>
 (guardV v72 true ((bin2 Tryd.prog BinOp.eql 4 (ot 201) (ot 202) v73 v74).bind fun v75 =>
 some v75)).bind fun v76 =>
 (pickV v72 v76 (vb false)).bind fun v77 =>
 some v77) fun J52 =>
 (fixN (fun rec78 vs79 =>
 (bin2 Tryd.prog BinOp.lss 3 (ot 150) (oc 16) (List.getD vs79 1 V.any) (vi 16)).bind fun v80 =>
 condV v80 (
 ((sem_railref1_Any n) [x0, (List.getD vs79 1 V.any)]).bind fun v81 =>
 ((sem_railref1_Any n) [x1, (List.getD vs79 1 V.any)]).bind fun v82 =>
 (guardV (List.getD vs79 0 V.any) true (some v81)).bind fun v83 =>
 (guardV (List.getD vs79 0 V.any) true (some v82)).bind fun v84 =>
 (guardV (List.getD vs79 0 V.any) true ((bin2 Tryd.prog BinOp.eql 4 (ot 162) (ot 163) v83 v84).bind fun v85 =>
 some v85)).bind fun v86 =>
 (pickV (List.getD vs79 0 V.any) v86 (vb false)).bind fun v87 =>
 (bin2 Tryd.prog BinOp.add 3 (ot 152) (oc 1) (List.getD vs79 1 V.any) (vi 1)).bind fun v88 =>
 rec78 [v87, v88]) (
 J52 [(List.getD vs79 0 V.any)])) n) [v50, (vi 0)]) fun J49 =>
 condV v47 (
 ((sem_railref1_Cubes n) [x1]).bind fun v89 =>
 J49 [v89]) (
 J49 [v2])) fun J40 =>
 (keepO (some v1) (some v1) (some [(V.sl []), (vi 0)])).bind (fixN (fun rec90 vs91 =>
 (bin2 Tryd.prog BinOp.lss 3 (ot 108) (oc 16) (List.getD vs91 1 V.any) (vi 16)).bind fun v92 =>
 (guardV v92 true (some (List.getD vs37 0 V.any))).bind fun v93 =>
 (guardV v92 true ((bin2 Tryd.prog BinOp.eql 3 (ot 111) (oc 0) v93 (vi 0)).bind fun v94 =>
 some v94)).bind fun v95 =>
 (pickV v92 v95 (vb false)).bind fun v96 =>
 condV v96 (
 (ldk (some 2) (List.drop 0 v1)).bind fun v97 =>
 ((sem_railref1_Has n) [v97, (List.getD vs91 1 V.any)]).bind fun v98 =>
 ((sem_railref1_Any n) [x0, (List.getD vs91 1 V.any)]).bind fun v99 =>
 (guardV v98 true (some v99)).bind fun v100 =>
 (guardV v98 true ((scal1 Tryd.prog (Op.unary Go.UnOp.not) v100).bind fun v101 =>
 some v101)).bind fun v102 =>
 (pickV v98 v102 (vb false)).bind fun v103 =>
 JoinPt (fun vs104 =>
 (bin2 Tryd.prog BinOp.add 3 (ot 114) (oc 1) (List.getD vs91 1 V.any) (vi 1)).bind fun v106 =>
 (keepO (some v1) (some v1) (some [(V.sl (slL (List.getD vs104 0 V.any))), v106])).bind rec90) fun J105 =>
 condV v103 (
 (slcB 1 1 [(vi 0)] [(0, (List.getD vs91 1 V.any))]).bind fun v107 =>
 (appV 1 (slL (List.getD vs91 0 V.any)) v107).bind fun v108 =>
 (keepO (some v1) (some v1) (some [(V.sl (slL v108))])).bind J105) (
 (keepO (some v1) (some v1) (some [(V.sl (slL (List.getD vs91 0 V.any)))])).bind J105)) (
 (keepO (some v1) (some v1) (some [(V.sl (slL (List.getD vs91 0 V.any)))])).bind J40)) n)) fun J38 =>
 condV v36 (
 (keepO (some v1) (some v1) (some [v2])).bind J38) (
 (keepO (some v1) (some v1) (some [v35])).bind J38))) fun J6 =>
 (keepO (some v1) (some v1) (some [(V.sl []), (vi 0)])).bind (fixN (fun rec109 vs110 =>
 (bin2 Tryd.prog BinOp.lss 3 (ot 44) (oc 16) (List.getD vs110 1 V.any) (vi 16)).bind fun v111 =>
 (guardV v111 true (some v2)).bind fun v112 =>
 (guardV v111 true ((bin2 Tryd.prog BinOp.eql 3 (ot 47) (oc 0) v112 (vi 0)).bind fun v113 =>
 some v113)).bind fun v114 =>
 (pickV v111 v114 (vb false)).bind fun v115 =>
 condV v115 (
 ((sem_railref1_Any n) [x0, (List.getD vs110 1 V.any)]).bind fun v116 =>
 JoinPt (fun vs117 =>
 (bin2 Tryd.prog BinOp.add 3 (ot 50) (oc 1) (List.getD vs110 1 V.any) (vi 1)).bind fun v119 =>
 (keepO (some v1) (some v1) (some [(V.sl (slL (List.getD vs117 0 V.any))), v119])).bind rec109) fun J118 =>
 condV v116 (
 (slcB 1 1 [(vi 0)] [(0, (List.getD vs110 1 V.any))]).bind fun v120 =>
 (appV 1 (slL (List.getD vs110 0 V.any)) v120).bind fun v121 =>
 (keepO (some v1) (some v1) (some [(V.sl (slL v121))])).bind J118) (
 (keepO (some v1) (some v1) (some [(V.sl (slL (List.getD vs110 0 V.any)))])).bind J118)) (
 (keepO (some v1) (some v1) (some [(V.sl (slL (List.getD vs110 0 V.any)))])).bind J6)) n) := by kernel_rfl
noncomputable def t_raillaw1_CubesTells (a0 : (List T_Cube)) (a1 : (List T_Cube)) (a2 : T_Cube) (a3 : Int) : Option Bool :=
 (t_railref1_Cubes a0).bind fun r3 =>
 (t_cubes_Check a0).bind fun r5 =>
 (t_railsame_Error r5 r3).bind fun r7 =>
 (loopU 0 16 (fun (i213 : Int) (s209 : (List Int)) k210 =>
 if (decide (r3 = 0)) = true then (
 (t_railref1_Any a0 i213).bind fun r226 =>
 (if r226 = true then (
 (app s209 ([i213] : (List Int))).bind fun r236 =>
 some (r236)) else (
 some (s209))).bind fun (s229 : (List Int)) =>
 k210 (s229)) else (
 some (s209))) (fun (i213 : Int) (s209 : (List Int)) =>
 some (s209)) ([])).bind fun (s10 : (List Int)) =>
 (t_cubes_Headers a0).bind fun r14 =>
 (t_railsame_Error r14.2 r3).bind fun r18 =>
 (t_railsame_Ints r14.1 s10).bind fun r20 =>
 (t_cubes_Count a0).bind fun r22 =>
 (t_railsame_Error r22.2 r3).bind fun r26 =>
 (gd (!(decide (r22.1 ≠ (List.length s10 : Int)))) default (t_cubes_Has a0 a3)).bind fun r36 =>
 (gd (!(decide (r22.1 ≠ (List.length s10 : Int)))) default (t_railref1_Any a0 a3)).bind fun r44 =>
 if ((decide (r22.1 ≠ (List.length s10 : Int))) || (r36 != r44)) = true then (
 some false) else (
 (t_cubes_Apart a0).bind fun r51 =>
 (t_railsame_Error r51.2 r3).bind fun r55 =>
 (t_raillaw1_apart r51.1 s10).bind fun r57 =>
 (t_railref1_Cube a2).bind fun r60 =>
 (if (decide (r60 = 0)) = true then (
 some (r3)) else (
 some (r60))).bind fun (s64 : Int) =>
 (loopU 0 16 (fun (i167 : Int) (s163 : (List Int)) k164 =>
 if (decide (s64 = 0)) = true then (
 (t_railref1_Has a2 i167).bind fun r181 =>
 (t_railref1_Any a0 i167).bind fun r183 =>
 (if (r181 && (!r183)) = true then (
 (app s163 ([i167] : (List Int))).bind fun r199 =>
 some (r199)) else (
 some (s163))).bind fun (s192 : (List Int)) =>
 k164 (s192)) else (
 some (s163))) (fun (i167 : Int) (s163 : (List Int)) =>
 some (s163)) ([])).bind fun (s69 : (List Int)) =>
 (t_cubes_Minus a2 a0).bind fun r74 =>
 (t_railsame_Error r74.2 s64).bind fun r78 =>
 (t_raillaw1_apart r74.1 s69).bind fun r80 =>
 (if (decide (r3 = 0)) = true then (
 (t_railref1_Cubes a1).bind fun r160 =>
 some (r160)) else (
 some (r3))).bind fun (s84 : Int) =>
 (loopU 0 16 (fun (i137 : Int) (s133 : Bool) k134 =>
 (t_railref1_Any a0 i137).bind fun r145 =>
 (t_railref1_Any a1 i137).bind fun r147 =>
 k134 (s133 && (r145 == r147))) (fun (i137 : Int) (s133 : Bool) =>
 some (s133)) (decide (s84 = 0))).bind fun (s90 : Bool) =>
 (t_cubes_Same a0 a1).bind fun r94 =>
 (t_railsame_Error r94.2 s84).bind fun r98 =>
 some (((((((((r7 && r18) && r26) && r55) && r78) && r98) && r20) && r57) && r80) && (r94.1 == s90)))
theorem ty_raillaw1_CubesTells {n : Nat} (hn : bigN ≤ n) (a0 : (List T_Cube)) (a1 : (List T_Cube)) (a2 : T_Cube) (a3 : Int) : Rv (fun x : Bool => (vb x)) (sem_raillaw1_CubesTells n [(V.sl (List.map T_Cube.c a0)), (V.sl (List.map T_Cube.c a1)), (T_Cube.e a2), (vi a3)]) (t_raillaw1_CubesTells a0 a1 a2 a3) := by
  rw [eq_raillaw1_CubesTells]
  unfold t_raillaw1_CubesTells
  refine tb (x := (T_Cube.c a2)) rfl ?_
  refine tbo (ty_railref1_Cubes hn a0) fun r3 => ?_
  refine tbo (ty_cubes_Check hn a0) fun r5 => ?_
  refine tbo (ty_railsame_Error r5 r3) fun r7 => ?_
  refine tjb (mk := fun s10 : (List Int) => [(V.sl (List.map cI s10))]) (fun J9 => ?_) fun s10 => ?_
  · refine tkeepO2 ?_ rfl
    refine tsome ?_
    refine rf_loopU (mk := fun (i213 : Int) (s209 : (List Int)) => [(V.sl (List.map cI s209)), (vi i213)]) hn _ _ ([]) (fun i213 h214 h215 h216 s209 rec207 k210 h211 => ?_) (fun i213 s209 rec218 h217 => ?_)
    · refine tb (x := (vb (decide (i213 < 16)))) (d_lss) ?_
      refine tb (x := (vi r3)) (gkt h214 rfl) ?_
      refine tkt h214 (tb (x := (vb (decide (r3 = 0)))) (d_eql) ?_)
      refine tb (x := (vb (decide (r3 = 0)))) (pick_kt h214) ?_
      refine tcond (fun h224 => ?_) (fun h224 => ?_)
      · refine tbo (ty_railref1_Any hn a0 i213) fun r226 => ?_
        refine tjb (mk := fun s229 : (List Int) => [(V.sl (List.map cI s229))]) (fun J228 => ?_) fun s229 => ?_
        · refine tcond (fun h233 => ?_) (fun h233 => ?_)
          · refine tb (x := (V.sl (List.map cI ([i213] : (List Int))))) (by kernel_rfl) ?_
            refine tbo (p_app (c := cI) (fun _ => rfl) s209 ([i213] : (List Int))) fun r236 => ?_
            refine tkeepO2 ?_ rfl
            refine tsome ?_
            exact rf_j rfl
          · refine tkeepO2 ?_ rfl
            refine tsome ?_
            exact rf_j rfl
        · refine tb (x := (vi (i213 + 1))) (p_inc h215 h216) ?_
          refine tkeepO2 ?_ rfl
          refine tsome ?_
          exact h211 (s229)
      · refine tkeepO2 ?_ rfl
        refine tsome ?_
        exact rf_j rfl
    · refine tb (x := (vb (decide (i213 < 16)))) (d_lss) ?_
      refine tb (x := V.tup []) (gnt h217) ?_
      refine tb (x := V.tup []) (gnt h217) ?_
      refine tb (x := (vb (false))) (pick_kf h217) ?_
      refine tcond_f rfl ?_
      refine tkeepO2 ?_ rfl
      refine tsome ?_
      exact rf_j rfl
  · refine tbo (ty_cubes_Headers hn a0) fun r14 => ?_
    refine tb (x := (V.sl (List.map cI r14.1))) (rfl) ?_
    refine tb (x := (eV r14.2)) (rfl) ?_
    refine tbo (ty_railsame_Error r14.2 r3) fun r18 => ?_
    refine tbo (ty_railsame_Ints hn r14.1 s10) fun r20 => ?_
    refine tbo (ty_cubes_Count hn a0) fun r22 => ?_
    refine tb (x := (vi r22.1)) (rfl) ?_
    refine tb (x := (eV r22.2)) (rfl) ?_
    refine tbo (ty_railsame_Error r22.2 r3) fun r26 => ?_
    refine tb (x := (vi (List.length s10 : Int))) (p_len _) ?_
    refine tb (x := (vb (decide (r22.1 ≠ (List.length s10 : Int))))) (d_neq) ?_
    refine tg_f (x := (V.sl (List.map T_Cube.c a0))) (fun h29 => rfl) ?_
    refine tg_f (x := (vi a3)) (fun h31 => rfl) ?_
    refine tgo_f (fun h33 => by simp only [gv_t h33]; exact rf_bind_some (ty_cubes_Has hn a0 a3)) fun r36 => ?_
    refine tg_f (x := (V.sl (List.map T_Cube.c a0))) (fun h37 => rfl) ?_
    refine tg_f (x := (vi a3)) (fun h39 => rfl) ?_
    refine tgo_f (fun h41 => by simp only [gv_t h41]; exact rf_bind_some (ty_railref1_Any hn a0 a3)) fun r44 => ?_
    refine tg_f (x := (vb (r36 != r44))) (fun h45 => by simp only [gv_t h45]; exact bind_some_eq (p_neq_bool (Tryd.underlying4))) ?_
    refine tb (x := (vb ((decide (r22.1 ≠ (List.length s10 : Int))) || (r36 != r44)))) (pick_or (fun h9 => gv_t (not_f h9))) ?_
    refine tcond (fun h49 => ?_) (fun h49 => ?_)
    · exact rf_ret rfl
    · refine tbo (ty_cubes_Apart hn a0) fun r51 => ?_
      refine tb (x := (V.sl (List.map T_Cube.c r51.1))) (rfl) ?_
      refine tb (x := (eV r51.2)) (rfl) ?_
      refine tbo (ty_railsame_Error r51.2 r3) fun r55 => ?_
      refine tbo (ty_raillaw1_apart hn r51.1 s10) fun r57 => ?_
      refine tb (x := (T_Cube.e a2)) (rfl) ?_
      refine tbo (ty_railref1_Cube hn a2) fun r60 => ?_
      refine tb (x := (vb (decide (r60 = 0)))) (d_eql) ?_
      refine tjb (mk := fun s64 : Int => [(vi s64)]) (fun J63 => ?_) fun s64 => ?_
      · refine tcond (fun h206 => ?_) (fun h206 => ?_)
        · refine tkeepO2 ?_ rfl
          refine tsome ?_
          exact rf_j rfl
        · refine tkeepO2 ?_ rfl
          refine tsome ?_
          exact rf_j rfl
      · refine tjb (mk := fun s69 : (List Int) => [(V.sl (List.map cI s69))]) (fun J68 => ?_) fun s69 => ?_
        · refine tkeepO2 ?_ rfl
          refine tsome ?_
          refine rf_loopU (mk := fun (i167 : Int) (s163 : (List Int)) => [(V.sl (List.map cI s163)), (vi i167)]) hn _ _ ([]) (fun i167 h168 h169 h170 s163 rec161 k164 h165 => ?_) (fun i167 s163 rec172 h171 => ?_)
          · refine tb (x := (vb (decide (i167 < 16)))) (d_lss) ?_
            refine tb (x := (vi s64)) (gkt h168 rfl) ?_
            refine tkt h168 (tb (x := (vb (decide (s64 = 0)))) (d_eql) ?_)
            refine tb (x := (vb (decide (s64 = 0)))) (pick_kt h168) ?_
            refine tcond (fun h178 => ?_) (fun h178 => ?_)
            · refine tb (x := (T_Cube.e a2)) (rfl) ?_
              refine tbo (ty_railref1_Has hn a2 i167) fun r181 => ?_
              refine tbo (ty_railref1_Any hn a0 i167) fun r183 => ?_
              refine tg (x := (vb r183)) (fun h184 => rfl) ?_
              refine tg (x := (vb (!r183))) (fun h186 => by simp only [gv_t h186]; exact bind_some_eq (d_not)) ?_
              refine tb (x := (vb (r181 && (!r183)))) (pick_and (fun h9 => gv_t h9)) ?_
              refine tjb (mk := fun s192 : (List Int) => [(V.sl (List.map cI s192))]) (fun J191 => ?_) fun s192 => ?_
              · refine tcond (fun h196 => ?_) (fun h196 => ?_)
                · refine tb (x := (V.sl (List.map cI ([i167] : (List Int))))) (by kernel_rfl) ?_
                  refine tbo (p_app (c := cI) (fun _ => rfl) s163 ([i167] : (List Int))) fun r199 => ?_
                  refine tkeepO2 ?_ rfl
                  refine tsome ?_
                  exact rf_j rfl
                · refine tkeepO2 ?_ rfl
                  refine tsome ?_
                  exact rf_j rfl
              · refine tb (x := (vi (i167 + 1))) (p_inc h169 h170) ?_
                refine tkeepO2 ?_ rfl
                refine tsome ?_
                exact h165 (s192)
            · refine tkeepO2 ?_ rfl
              refine tsome ?_
              exact rf_j rfl
          · refine tb (x := (vb (decide (i167 < 16)))) (d_lss) ?_
            refine tb (x := V.tup []) (gnt h171) ?_
            refine tb (x := V.tup []) (gnt h171) ?_
            refine tb (x := (vb (false))) (pick_kf h171) ?_
            refine tcond_f rfl ?_
            refine tkeepO2 ?_ rfl
            refine tsome ?_
            exact rf_j rfl
        · refine tb (x := (T_Cube.e a2)) (rfl) ?_
          refine tbo (ty_cubes_Minus hn a2 a0) fun r74 => ?_
          refine tb (x := (V.sl (List.map T_Cube.c r74.1))) (rfl) ?_
          refine tb (x := (eV r74.2)) (rfl) ?_
          refine tbo (ty_railsame_Error r74.2 s64) fun r78 => ?_
          refine tbo (ty_raillaw1_apart hn r74.1 s69) fun r80 => ?_
          refine tb (x := (vb (decide (r3 = 0)))) (d_eql) ?_
          refine tjb (mk := fun s84 : Int => [(vi s84)]) (fun J83 => ?_) fun s84 => ?_
          · refine tcond (fun h158 => ?_) (fun h158 => ?_)
            · refine tbo (ty_railref1_Cubes hn a1) fun r160 => ?_
              exact rf_j rfl
            · exact rf_j rfl
          · refine tb (x := (vb (decide (s84 = 0)))) (d_eql) ?_
            refine tjb (mk := fun s90 : Bool => [(vb s90)]) (fun J89 => ?_) fun s90 => ?_
            · refine rf_loopU (mk := fun (i137 : Int) (s133 : Bool) => [(vb s133), (vi i137)]) hn _ _ (decide (s84 = 0)) (fun i137 h138 h139 h140 s133 rec131 k134 h135 => ?_) (fun i137 s133 rec142 h141 => ?_)
              · refine tb (x := (vb (decide (i137 < 16)))) (d_lss) ?_
                refine tcond_t h138 ?_
                refine tbo (ty_railref1_Any hn a0 i137) fun r145 => ?_
                refine tbo (ty_railref1_Any hn a1 i137) fun r147 => ?_
                refine tg (x := (vb r145)) (fun h148 => rfl) ?_
                refine tg (x := (vb r147)) (fun h150 => rfl) ?_
                refine tg (x := (vb (r145 == r147))) (fun h152 => by simp only [gv_t h152]; exact bind_some_eq (p_eql_bool (Tryd.underlying4))) ?_
                refine tb (x := (vb (s133 && (r145 == r147)))) (pick_and (fun h9 => gv_t h9)) ?_
                refine tb (x := (vi (i137 + 1))) (p_inc h139 h140) ?_
                exact h135 (s133 && (r145 == r147))
              · refine tb (x := (vb (decide (i137 < 16)))) (d_lss) ?_
                refine tcond_f h141 ?_
                exact rf_j rfl
            · refine tbo (ty_cubes_Same hn a0 a1) fun r94 => ?_
              refine tb (x := (vb r94.1)) (rfl) ?_
              refine tb (x := (eV r94.2)) (rfl) ?_
              refine tbo (ty_railsame_Error r94.2 s84) fun r98 => ?_
              refine tg (x := (vb r18)) (fun h99 => rfl) ?_
              refine tb (x := (vb (r7 && r18))) (pick_and (fun h9 => gv_t h9)) ?_
              refine tg (x := (vb r26)) (fun h102 => rfl) ?_
              refine tb (x := (vb ((r7 && r18) && r26))) (pick_and (fun h9 => gv_t h9)) ?_
              refine tg (x := (vb r55)) (fun h105 => rfl) ?_
              refine tb (x := (vb (((r7 && r18) && r26) && r55))) (pick_and (fun h9 => gv_t h9)) ?_
              refine tg (x := (vb r78)) (fun h108 => rfl) ?_
              refine tb (x := (vb ((((r7 && r18) && r26) && r55) && r78))) (pick_and (fun h9 => gv_t h9)) ?_
              refine tg (x := (vb r98)) (fun h111 => rfl) ?_
              refine tb (x := (vb (((((r7 && r18) && r26) && r55) && r78) && r98))) (pick_and (fun h9 => gv_t h9)) ?_
              refine tg (x := (vb r20)) (fun h114 => rfl) ?_
              refine tb (x := (vb ((((((r7 && r18) && r26) && r55) && r78) && r98) && r20))) (pick_and (fun h9 => gv_t h9)) ?_
              refine tg (x := (vb r57)) (fun h117 => rfl) ?_
              refine tb (x := (vb (((((((r7 && r18) && r26) && r55) && r78) && r98) && r20) && r57))) (pick_and (fun h9 => gv_t h9)) ?_
              refine tg (x := (vb r80)) (fun h120 => rfl) ?_
              refine tb (x := (vb ((((((((r7 && r18) && r26) && r55) && r78) && r98) && r20) && r57) && r80))) (pick_and (fun h9 => gv_t h9)) ?_
              refine tg (x := (vb r94.1)) (fun h123 => rfl) ?_
              refine tg (x := (vb s90)) (fun h125 => rfl) ?_
              refine tg (x := (vb (r94.1 == s90))) (fun h127 => by simp only [gv_t h127]; exact bind_some_eq (p_eql_bool (Tryd.underlying4))) ?_
              refine tb (x := (vb (((((((((r7 && r18) && r26) && r55) && r78) && r98) && r20) && r57) && r80) && (r94.1 == s90)))) (pick_and (fun h9 => gv_t h9)) ?_
              exact rf_ret rfl

end Go.Proofs.YtpkcdfgjcodidaaDoor.Ty
