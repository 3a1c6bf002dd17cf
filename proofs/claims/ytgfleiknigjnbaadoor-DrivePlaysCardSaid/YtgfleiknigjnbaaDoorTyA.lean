/- What functions do, as functions on plain types, written by a program and checked by the kernel. -/
import Derived.Test.YtgfleiknigjnbaaDoorDenDoor
import Derived.Test.YtgfleiknigjnbaaDoorTy
import Derived.Test.YtgfleiknigjnbaaDoorTyT
import Derived.Test.YtgfleiknigjnbaaDoorTyZ
import Derived.Test.YtgfleiknigjnbaaDoorDen14
import Derived.Test.YtgfleiknigjnbaaDoorDenS2
import Derived.Test.YtgfleiknigjnbaaDoorShelf
import Derived.Test.YtgfleiknigjnbaaDoorClone
namespace Go.Proofs.YtgfleiknigjnbaaDoor.Ty
open Go Go.RowKit Go.Proofs.YtgfleiknigjnbaaDoor.Den
set_option linter.unusedVariables false
set_option maxRecDepth 100000

/-! railpoint/railref1.Header -/
def an_railref1_Header : Ann := .seq (.reg 0 [] [] []) (.seq (.reg 0 [] [] []) (.no))
noncomputable def sem_railref1_Header (n : Nat) (xs : List V) : Option V := if xs.length ≤ 9 then denF Tryd.prog (envOf []) n Tryd.f72 an_railref1_Header xs else none
theorem ok_railref1_Header (n : Nat) : SemOk Tryd.prog DW 72 (sem_railref1_Header n) := fun xs y h => by
  unfold sem_railref1_Header at h
  split at h
  · rename_i hl
    exact denF_ok stb Tryd.func72 (by kernel_rfl) (envOf_ok semsOk_nil) (by rw [Tryd.ntmps72]; exact hl) h
  · cases h
theorem eq_railref1_Header (n : Nat) (x0 : V) : sem_railref1_Header n [x0] =
 (bin2 Tryd.prog BinOp.geq 3 (ot 3) (oc 0) x0 (vi 0)).bind fun v1 =>
 (guardV v1 true (some x0)).bind fun v2 =>
 (guardV v1 true ((bin2 Tryd.prog BinOp.lss 3 (ot 6) (oc 16) v2 (vi 16)).bind fun v3 =>
 some v3)).bind fun v4 =>
 (pickV v1 v4 (vb false)).bind fun v5 =>
 some v5 := by kernel_rfl
noncomputable def t_railref1_Header (a0 : Int) : Option Bool :=
 some ((decide (0 ≤ a0)) && (decide (a0 < 16)))
theorem ty_railref1_Header {n : Nat} (hn : bigN ≤ n) (a0 : Int) : Rv (fun x : Bool => (vb x)) (sem_railref1_Header n [(vi a0)]) (t_railref1_Header a0) := by
  rw [eq_railref1_Header]
  unfold t_railref1_Header
  refine tb (x := (vb (decide (0 ≤ a0)))) (d_geq) ?_
  refine tg (x := (vi a0)) (fun h2 => rfl) ?_
  refine tg (x := (vb (decide (a0 < 16)))) (fun h4 => by simp only [gv_t h4]; exact bind_some_eq (d_lss)) ?_
  refine tb (x := (vb ((decide (0 ≤ a0)) && (decide (a0 < 16))))) (pick_and (fun h9 => gv_t h9)) ?_
  exact rf_ret rfl

/-! railpoint/railref1.Cube -/
def an_railref1_Cube : Ann := .seq (.reg 0 [] [] []) (.seq (.reg 0 [] [] []) (.seq (.reg 0 [] [] []) (.seq (.seq (.reg 0 [] [] []) (.cond none (.seq (.reg 0 [] [] []) (.no)) (.no))) (.seq (.seq (.reg 0 [] [] []) (.cond none (.seq (.reg 0 [] [] []) (.no)) (.no))) (.seq (.reg 0 [] [] []) (.no))))))
noncomputable def sem_railref1_Cube (n : Nat) (xs : List V) : Option V := if xs.length ≤ 25 then denF Tryd.prog (envOf [(72, (sem_railref1_Header n))]) n Tryd.f73 an_railref1_Cube xs else none
theorem ok_railref1_Cube (n : Nat) : SemOk Tryd.prog DW 73 (sem_railref1_Cube n) := fun xs y h => by
  unfold sem_railref1_Cube at h
  split at h
  · rename_i hl
    exact denF_ok stb Tryd.func73 (by kernel_rfl) (envOf_ok (semsOk_cons (ok_railref1_Header n) semsOk_nil)) (by rw [Tryd.ntmps73]; exact hl) h
  · cases h
theorem eq_railref1_Cube (n : Nat) (x0 : V) : sem_railref1_Cube n [x0] =
 (V.cellsO x0).bind fun v1 =>
 (ldk none (List.drop 0 v1)).bind fun v2 =>
 ((sem_railref1_Header n) [v2]).bind fun v3 =>
 (ldk none (List.drop 1 v1)).bind fun v4 =>
 ((sem_railref1_Header n) [v4]).bind fun v5 =>
 (scal1 Tryd.prog (Op.unary Go.UnOp.not) v3).bind fun v6 =>
 (guardV v6 false (some v5)).bind fun v7 =>
 (guardV v6 false ((scal1 Tryd.prog (Op.unary Go.UnOp.not) v7).bind fun v8 =>
 some v8)).bind fun v9 =>
 (pickV v6 (vb true) v9).bind fun v10 =>
 condV v10 (
 some (vi 1)) (
 (ldk none (List.drop 1 v1)).bind fun v11 =>
 (ldk none (List.drop 0 v1)).bind fun v12 =>
 (bin2 Tryd.prog BinOp.and 3 (ot 18) (ot 20) v11 v12).bind fun v13 =>
 (ldk none (List.drop 1 v1)).bind fun v14 =>
 (bin2 Tryd.prog BinOp.neq 3 (ot 21) (ot 23) v13 v14).bind fun v15 =>
 condV v15 (
 some (vi 3)) (
 some (vi 0))) := by kernel_rfl
noncomputable def t_railref1_Cube (a0 : T_Cube) : Option Int :=
 (t_railref1_Header a0.Mask).bind fun r4 =>
 (t_railref1_Header a0.Bits).bind fun r7 =>
 if ((!r4) || (!r7)) = true then (
 some 1) else (
 if (decide ((bits .and .i64 a0.Bits a0.Mask) ≠ a0.Bits)) = true then (
 some 3) else (
 some 0))
theorem ty_railref1_Cube {n : Nat} (hn : bigN ≤ n) (a0 : T_Cube) : Rv (fun x : Int => (vi x)) (sem_railref1_Cube n [(T_Cube.e a0)]) (t_railref1_Cube a0) := by
  rw [eq_railref1_Cube]
  unfold t_railref1_Cube
  refine tb (x := (T_Cube.c a0)) rfl ?_
  refine tb (x := (vi a0.Mask)) (rfl) ?_
  refine tbo (ty_railref1_Header hn a0.Mask) fun r4 => ?_
  refine tb (x := (vi a0.Bits)) (rfl) ?_
  refine tbo (ty_railref1_Header hn a0.Bits) fun r7 => ?_
  refine tb (x := (vb (!r4))) (d_not) ?_
  refine tg_f (x := (vb r7)) (fun h9 => rfl) ?_
  refine tg_f (x := (vb (!r7))) (fun h11 => by simp only [gv_t h11]; exact bind_some_eq (d_not)) ?_
  refine tb (x := (vb ((!r4) || (!r7)))) (pick_or (fun h9 => gv_t (not_f h9))) ?_
  refine tcond (fun h15 => ?_) (fun h15 => ?_)
  · exact rf_ret rfl
  · refine tb (x := (vi a0.Bits)) (rfl) ?_
    refine tb (x := (vi a0.Mask)) (rfl) ?_
    refine tb (x := (vi (bits .and .i64 a0.Bits a0.Mask))) (d_and) ?_
    refine tb (x := (vi a0.Bits)) (rfl) ?_
    refine tb (x := (vb (decide ((bits .and .i64 a0.Bits a0.Mask) ≠ a0.Bits)))) (d_neq) ?_
    refine tcond (fun h21 => ?_) (fun h21 => ?_)
    · exact rf_ret rfl
    · exact rf_ret rfl

/-! railpoint/railref1.Rule -/
def an_railref1_Rule : Ann := .seq (.reg 0 [] [] []) (.seq (.reg 0 [] [] []) (.seq (.reg 0 [] [] []) (.seq (.seq (.reg 0 [] [] []) (.cond none (.seq (.reg 0 [] [] []) (.no)) (.no))) (.seq (.reg 0 [] [] []) (.seq (.seq (.reg 0 [] [] []) (.cond none (.seq (.reg 0 [] [] []) (.no)) (.no))) (.seq (.seq (.reg 0 [] [] []) (.cond none (.seq (.reg 0 [] [] []) (.no)) (.no))) (.seq (.reg 0 [] [] []) (.no))))))))
noncomputable def sem_railref1_Rule (n : Nat) (xs : List V) : Option V := if xs.length ≤ 61 then denF Tryd.prog (envOf [(72, (sem_railref1_Header n)), (73, (sem_railref1_Cube n))]) n Tryd.f43 an_railref1_Rule xs else none
theorem ok_railref1_Rule (n : Nat) : SemOk Tryd.prog DW 43 (sem_railref1_Rule n) := fun xs y h => by
  unfold sem_railref1_Rule at h
  split at h
  · rename_i hl
    exact denF_ok stb Tryd.func43 (by kernel_rfl) (envOf_ok (semsOk_cons (ok_railref1_Header n) (semsOk_cons (ok_railref1_Cube n) semsOk_nil))) (by rw [Tryd.ntmps43]; exact hl) h
  · cases h
theorem eq_railref1_Rule (n : Nat) (x0 : V) : sem_railref1_Rule n [x0] =
 (V.cellsO x0).bind fun v1 =>
 (ldk none (List.drop 4 v1)).bind fun v2 =>
 ((sem_railref1_Header n) [v2]).bind fun v3 =>
 (ldk none (List.drop 5 v1)).bind fun v4 =>
 ((sem_railref1_Header n) [v4]).bind fun v5 =>
 (ldk none (List.drop 0 v1)).bind fun v6 =>
 (bin2 Tryd.prog BinOp.lss 3 (ot 13) (oc 0) v6 (vi 0)).bind fun v7 =>
 (guardV v7 false (some V.any)).bind fun v8 =>
 (guardV v7 false ((gate v7 false (ldk none (List.drop 0 v1))).bind fun v9 =>
 some v9)).bind fun v10 =>
 (guardV v7 false ((bin2 Tryd.prog BinOp.gtr 3 (ot 17) (oc 99) v10 (vi 99)).bind fun v11 =>
 some v11)).bind fun v12 =>
 (pickV v7 (vb true) v12).bind fun v13 =>
 (guardV v13 false (some V.any)).bind fun v14 =>
 (guardV v13 false ((gate v13 false (ldk none (List.drop 3 v1))).bind fun v15 =>
 some v15)).bind fun v16 =>
 (guardV v13 false ((bin2 Tryd.prog BinOp.lss 3 (ot 22) (oc 0) v16 (vi 0)).bind fun v17 =>
 some v17)).bind fun v18 =>
 (pickV v13 (vb true) v18).bind fun v19 =>
 (guardV v19 false (some V.any)).bind fun v20 =>
 (guardV v19 false ((gate v19 false (ldk none (List.drop 3 v1))).bind fun v21 =>
 some v21)).bind fun v22 =>
 (guardV v19 false ((bin2 Tryd.prog BinOp.gtr 3 (ot 27) (oc 4) v22 (vi 4)).bind fun v23 =>
 some v23)).bind fun v24 =>
 (pickV v19 (vb true) v24).bind fun v25 =>
 (guardV v25 false (some v3)).bind fun v26 =>
 (guardV v25 false ((scal1 Tryd.prog (Op.unary Go.UnOp.not) v26).bind fun v27 =>
 some v27)).bind fun v28 =>
 (pickV v25 (vb true) v28).bind fun v29 =>
 (guardV v29 false (some v5)).bind fun v30 =>
 (guardV v29 false ((scal1 Tryd.prog (Op.unary Go.UnOp.not) v30).bind fun v31 =>
 some v31)).bind fun v32 =>
 (pickV v29 (vb true) v32).bind fun v33 =>
 condV v33 (
 some (vi 1)) (
 (ldk (some 2) (List.drop 1 v1)).bind fun v34 =>
 ((sem_railref1_Cube n) [v34]).bind fun v35 =>
 (bin2 Tryd.prog BinOp.neq 3 (ot 41) (oc 0) v35 (vi 0)).bind fun v36 =>
 condV v36 (
 some v35) (
 (ldk none (List.drop 4 v1)).bind fun v37 =>
 (ldk none (List.drop 5 v1)).bind fun v38 =>
 ((fillL [(vi 0), (vi 0)] [(0, 1, v37), (1, 1, v38)]).map V.agg).bind fun v39 =>
 ((sem_railref1_Cube n) [v39]).bind fun v40 =>
 (bin2 Tryd.prog BinOp.neq 3 (ot 49) (oc 0) v40 (vi 0)).bind fun v41 =>
 (guardV v41 false (some V.any)).bind fun v42 =>
 (guardV v41 false ((gate v41 false (ldk none (List.drop 3 v1))).bind fun v43 =>
 some v43)).bind fun v44 =>
 (guardV v41 false ((bin2 Tryd.prog BinOp.eql 3 (ot 53) (oc 0) v44 (vi 0)).bind fun v45 =>
 some v45)).bind fun v46 =>
 (guardV v41 false (some v46)).bind fun v47 =>
 (guardV v47 true (some V.any)).bind fun v48 =>
 (guardV v47 true ((gate v47 true (ldk none (List.drop 4 v1))).bind fun v49 =>
 some v49)).bind fun v50 =>
 (guardV v47 true ((bin2 Tryd.prog BinOp.neq 3 (ot 57) (oc 0) v50 (vi 0)).bind fun v51 =>
 some v51)).bind fun v52 =>
 (guardV v41 false ((pickV v47 v52 (vb false)).bind fun v53 =>
 some v53)).bind fun v54 =>
 (pickV v41 (vb true) v54).bind fun v55 =>
 condV v55 (
 some (vi 3)) (
 some (vi 0)))) := by kernel_rfl
noncomputable def t_railref1_Rule (a0 : T_Rule) : Option Int :=
 (t_railref1_Header a0.Set).bind fun r4 =>
 (t_railref1_Header a0.Value).bind fun r7 =>
 if ((((((decide (a0.Prio < 0)) || (decide (99 < a0.Prio))) || (decide (a0.Out < 0))) || (decide (4 < a0.Out))) || (!r4)) || (!r7)) = true then (
 some 1) else (
 (t_railref1_Cube a0.Cube).bind fun r52 =>
 if (decide (r52 ≠ 0)) = true then (
 some r52) else (
 (t_railref1_Cube (T_Cube.mk a0.Set a0.Value)).bind fun r59 =>
 if ((decide (r59 ≠ 0)) || ((decide (a0.Out = 0)) && (decide (a0.Set ≠ 0)))) = true then (
 some 3) else (
 some 0)))
theorem ty_railref1_Rule {n : Nat} (hn : bigN ≤ n) (a0 : T_Rule) : Rv (fun x : Int => (vi x)) (sem_railref1_Rule n [(T_Rule.e a0)]) (t_railref1_Rule a0) := by
  rw [eq_railref1_Rule]
  unfold t_railref1_Rule
  refine tb (x := (T_Rule.c a0)) rfl ?_
  refine tb (x := (vi a0.Set)) (rfl) ?_
  refine tbo (ty_railref1_Header hn a0.Set) fun r4 => ?_
  refine tb (x := (vi a0.Value)) (rfl) ?_
  refine tbo (ty_railref1_Header hn a0.Value) fun r7 => ?_
  refine tb (x := (vi a0.Prio)) (rfl) ?_
  refine tb (x := (vb (decide (a0.Prio < 0)))) (d_lss) ?_
  refine tg_f (x := V.any) (fun h10 => rfl) ?_
  refine tg_f (x := (vi a0.Prio)) (fun h12 => bind_some_eq (gate_pos (not_t h12) (rfl))) ?_
  refine tg_f (x := (vb (decide (99 < a0.Prio)))) (fun h15 => by simp only [gv_t h15]; exact bind_some_eq (d_gtr)) ?_
  refine tb (x := (vb ((decide (a0.Prio < 0)) || (decide (99 < a0.Prio))))) (pick_or (fun h9 => gv_t (not_f h9))) ?_
  refine tg_f (x := V.any) (fun h19 => rfl) ?_
  refine tg_f (x := (vi a0.Out)) (fun h21 => bind_some_eq (gate_pos (not_t h21) (rfl))) ?_
  refine tg_f (x := (vb (decide (a0.Out < 0)))) (fun h24 => by simp only [gv_t h24]; exact bind_some_eq (d_lss)) ?_
  refine tb (x := (vb (((decide (a0.Prio < 0)) || (decide (99 < a0.Prio))) || (decide (a0.Out < 0))))) (pick_or (fun h9 => gv_t (not_f h9))) ?_
  refine tg_f (x := V.any) (fun h28 => rfl) ?_
  refine tg_f (x := (vi a0.Out)) (fun h30 => bind_some_eq (gate_pos (not_t h30) (rfl))) ?_
  refine tg_f (x := (vb (decide (4 < a0.Out)))) (fun h33 => by simp only [gv_t h33]; exact bind_some_eq (d_gtr)) ?_
  refine tb (x := (vb ((((decide (a0.Prio < 0)) || (decide (99 < a0.Prio))) || (decide (a0.Out < 0))) || (decide (4 < a0.Out))))) (pick_or (fun h9 => gv_t (not_f h9))) ?_
  refine tg_f (x := (vb r4)) (fun h37 => rfl) ?_
  refine tg_f (x := (vb (!r4))) (fun h39 => by simp only [gv_t h39]; exact bind_some_eq (d_not)) ?_
  refine tb (x := (vb (((((decide (a0.Prio < 0)) || (decide (99 < a0.Prio))) || (decide (a0.Out < 0))) || (decide (4 < a0.Out))) || (!r4)))) (pick_or (fun h9 => gv_t (not_f h9))) ?_
  refine tg_f (x := (vb r7)) (fun h43 => rfl) ?_
  refine tg_f (x := (vb (!r7))) (fun h45 => by simp only [gv_t h45]; exact bind_some_eq (d_not)) ?_
  refine tb (x := (vb ((((((decide (a0.Prio < 0)) || (decide (99 < a0.Prio))) || (decide (a0.Out < 0))) || (decide (4 < a0.Out))) || (!r4)) || (!r7)))) (pick_or (fun h9 => gv_t (not_f h9))) ?_
  refine tcond (fun h49 => ?_) (fun h49 => ?_)
  · exact rf_ret rfl
  · refine tb (x := (T_Cube.e a0.Cube)) (rfl) ?_
    refine tbo (ty_railref1_Cube hn a0.Cube) fun r52 => ?_
    refine tb (x := (vb (decide (r52 ≠ 0)))) (d_neq) ?_
    refine tcond (fun h54 => ?_) (fun h54 => ?_)
    · exact rf_ret rfl
    · refine tb (x := (vi a0.Set)) (rfl) ?_
      refine tb (x := (vi a0.Value)) (rfl) ?_
      refine tb (x := (T_Cube.e (T_Cube.mk a0.Set a0.Value))) (by kernel_rfl) ?_
      refine tbo (ty_railref1_Cube hn (T_Cube.mk a0.Set a0.Value)) fun r59 => ?_
      refine tb (x := (vb (decide (r59 ≠ 0)))) (d_neq) ?_
      refine tg_f (x := V.any) (fun h61 => rfl) ?_
      refine tg_f (x := (vi a0.Out)) (fun h63 => bind_some_eq (gate_pos (not_t h63) (rfl))) ?_
      refine tg_f (x := (vb (decide (a0.Out = 0)))) (fun h66 => by simp only [gv_t h66]; exact bind_some_eq (d_eql)) ?_
      refine tg_f (x := (vb (decide (a0.Out = 0)))) (fun h69 => congrArg some (gv_t h69)) ?_
      refine tg2 (x := V.any) (fun h71 => rfl) ?_
      refine tg2 (x := (vi a0.Set)) (fun h73 => bind_some_eq (gate_pos2 (and_l h73) (and_r h73) (rfl))) ?_
      refine tg2 (x := (vb (decide (a0.Set ≠ 0)))) (fun h76 => by simp only [gv_t h76]; exact bind_some_eq (d_neq)) ?_
      refine tg_f (x := (vb ((decide (a0.Out = 0)) && (decide (a0.Set ≠ 0))))) (fun h79 => by simp only [gv_t h79]; exact bind_some_eq (pick_and (fun h9 => gv_t (and_i h79 h9)))) ?_
      refine tb (x := (vb ((decide (r59 ≠ 0)) || ((decide (a0.Out = 0)) && (decide (a0.Set ≠ 0)))))) (pick_or (fun h9 => gv_t (not_f h9))) ?_
      refine tcond (fun h83 => ?_) (fun h83 => ?_)
      · exact rf_ret rfl
      · exact rf_ret rfl

/-! railpoint/railref2.Rounds -/
def an_railref2_Rounds : Ann := .seq (.reg 0 [] [] []) (.seq (.seq (.reg 0 [] [] []) (.cond none (.seq (.reg 0 [] [] []) (.no)) (.no))) (.seq (.seq (.reg 0 [] [] []) (.cond none (.seq (.reg 0 [] [] []) (.no)) (.no))) (.seq (.seq (.reg 0 [] [] []) (.blk (some []) (.loop [.s 5] (.seq (.seq (.reg 0 [] [] []) (.cond none (.no) (.no))) (.seq (.blk none (.seq (.reg 0 [] [] []) (.cond none (.seq (.reg 0 [] [] []) (.no)) (.no)))) (.reg 0 [] [] [])))))) (.seq (.seq (.reg 0 [] [] []) (.blk (some []) (.loop [.s 6] (.seq (.seq (.reg 0 [] [] []) (.cond none (.no) (.no))) (.seq (.blk (some []) (.seq (.reg 0 [] [] []) (.blk (some []) (.loop [.s 7] (.seq (.seq (.reg 0 [] [] []) (.cond none (.no) (.no))) (.seq (.blk none (.seq (.seq (.reg 0 [] [] []) (.cond none (.seq (.reg 0 [] [] []) (.no)) (.no))) (.seq (.reg 0 [] [] []) (.seq (.reg 0 [] [] []) (.cond none (.seq (.reg 0 [] [] []) (.no)) (.no)))))) (.reg 0 [] [] []))))))) (.reg 0 [] [] [])))))) (.seq (.reg 0 [] [] []) (.no))))))
noncomputable def sem_railref2_Rounds (n : Nat) (xs : List V) : Option V := if xs.length ≤ 77 then denF Tryd.prog (envOf [(43, (sem_railref1_Rule n))]) n Tryd.f32 an_railref2_Rounds xs else none
theorem ok_railref2_Rounds (n : Nat) : SemOk Tryd.prog DW 32 (sem_railref2_Rounds n) := fun xs y h => by
  unfold sem_railref2_Rounds at h
  split at h
  · rename_i hl
    exact denF_ok stb Tryd.func32 (by kernel_rfl) (envOf_ok (semsOk_cons (ok_railref1_Rule n) semsOk_nil)) (by rw [Tryd.ntmps32]; exact hl) h
  · cases h
theorem eq_railref2_Rounds (n : Nat) (x0 x1 : V) : sem_railref2_Rounds n [x0, x1] =
 (bin2 Tryd.prog BinOp.lss 3 (ot 9) (oc 1) x1 (vi 1)).bind fun v1 =>
 (guardV v1 false (some x1)).bind fun v2 =>
 (guardV v1 false ((bin2 Tryd.prog BinOp.gtr 3 (ot 12) (oc 100) v2 (vi 100)).bind fun v3 =>
 some v3)).bind fun v4 =>
 (pickV v1 (vb true) v4).bind fun v5 =>
 condV v5 (
 some (vi 1)) (
 (lenS [x0]).bind fun v6 =>
 (bin2 Tryd.prog BinOp.gtr 3 (ot 16) (oc 20) v6 (vi 20)).bind fun v7 =>
 condV v7 (
 some (vi 4)) (
 JoinPt (fun vs8 =>
 JoinPt (fun vs10 =>
 some (vi 0)) fun J11 =>
 (fixN (fun rec12 vs13 =>
 (lenS [x0]).bind fun v14 =>
 (bin2 Tryd.prog BinOp.lss 3 (ot 30) (ot 32) (List.getD vs13 0 V.any) v14).bind fun v15 =>
 condV v15 (
 JoinPt (fun vs16 =>
 (bin2 Tryd.prog BinOp.add 3 (ot 34) (oc 1) (List.getD vs13 0 V.any) (vi 1)).bind fun v18 =>
 rec12 [v18]) fun J17 =>
 JoinPt (fun vs19 =>
 J17 []) fun J20 =>
 (fixN (fun rec21 vs22 =>
 (idxS 1 x0 (List.getD vs13 0 V.any)).bind fun v23 =>
 (ldp none v23).bind fun v24 =>
 (lenS [v24]).bind fun v25 =>
 (bin2 Tryd.prog BinOp.lss 3 (ot 36) (ot 41) (List.getD vs22 0 V.any) v25).bind fun v26 =>
 condV v26 (
 (idxS 1 x0 (List.getD vs13 0 V.any)).bind fun v27 =>
 (ldp none v27).bind fun v28 =>
 (idxS 8 v28 (List.getD vs22 0 V.any)).bind fun v29 =>
 (ptrF 0 v29).bind fun v30 =>
 (ldp none v30).bind fun v31 =>
 (bin2 Tryd.prog BinOp.lss 3 (ot 52) (oc 1) v31 (vi 1)).bind fun v32 =>
 (guardV v32 false (some x0)).bind fun v33 =>
 (guardV v32 false (some (List.getD vs13 0 V.any))).bind fun v34 =>
 (guardV v32 false ((idxS 1 v33 v34).bind fun v35 =>
 some v35)).bind fun v36 =>
 (guardV v32 false ((ldp none v36).bind fun v37 =>
 some v37)).bind fun v38 =>
 (guardV v32 false (some (List.getD vs22 0 V.any))).bind fun v39 =>
 (guardV v32 false ((idxS 8 v38 v39).bind fun v40 =>
 some v40)).bind fun v41 =>
 (guardV v32 false ((ptrF 0 v41).bind fun v42 =>
 some v42)).bind fun v43 =>
 (guardV v32 false ((ldp none v43).bind fun v44 =>
 some v44)).bind fun v45 =>
 (guardV v32 false ((bin2 Tryd.prog BinOp.gtr 3 (ot 62) (oc 6) v45 (vi 6)).bind fun v46 =>
 some v46)).bind fun v47 =>
 (pickV v32 (vb true) v47).bind fun v48 =>
 condV v48 (
 some (vi 1)) (
 (idxS 1 x0 (List.getD vs13 0 V.any)).bind fun v49 =>
 (ldp none v49).bind fun v50 =>
 (idxS 8 v50 (List.getD vs22 0 V.any)).bind fun v51 =>
 (ptrF 2 v51).bind fun v52 =>
 (ldp (some 6) v52).bind fun v53 =>
 ((sem_railref1_Rule n) [v53]).bind fun v54 =>
 (bin2 Tryd.prog BinOp.neq 3 (ot 74) (oc 0) v54 (vi 0)).bind fun v55 =>
 condV v55 (
 some v54) (
 (bin2 Tryd.prog BinOp.add 3 (ot 43) (oc 1) (List.getD vs22 0 V.any) (vi 1)).bind fun v56 =>
 rec21 [v56]))) (
 J20 [])) n) [(vi 0)]) (
 J11 [])) n) [(vi 0)]) fun J9 =>
 (fixN (fun rec57 vs58 =>
 (lenS [x0]).bind fun v59 =>
 (bin2 Tryd.prog BinOp.lss 3 (ot 18) (ot 20) (List.getD vs58 0 V.any) v59).bind fun v60 =>
 condV v60 (
 (idxS 1 x0 (List.getD vs58 0 V.any)).bind fun v61 =>
 (ldp none v61).bind fun v62 =>
 (lenS [v62]).bind fun v63 =>
 (bin2 Tryd.prog BinOp.gtr 3 (ot 28) (oc 200) v63 (vi 200)).bind fun v64 =>
 condV v64 (
 some (vi 4)) (
 (bin2 Tryd.prog BinOp.add 3 (ot 22) (oc 1) (List.getD vs58 0 V.any) (vi 1)).bind fun v65 =>
 rec57 [v65])) (
 J9 [])) n) [(vi 0)])) := by kernel_rfl
noncomputable def t_railref2_Rounds (a0 : (List (List T_Op))) (a1 : Int) : Option Int :=
 if ((decide (a1 < 1)) || (decide (100 < a1))) = true then (
 some 1) else (
 if (decide (20 < (List.length a0 : Int))) = true then (
 some 4) else (
 join (fun (s14 : Unit) =>
 join (fun (s19 : Unit) =>
 some 0) fun j20 =>
 loopI a0 (fun (i28 : Int) x29 (s24 : Unit) k25 =>
 join (fun (s37 : Unit) =>
 k25 ()) fun j38 =>
 join (fun (s43 : Unit) =>
 j38 ()) fun j44 =>
 loopI x29 (fun (i52 : Int) x53 (s48 : Unit) k49 =>
 if ((decide (x53.Switch < 1)) || (decide (6 < x53.Switch))) = true then (
 some 1) else (
 (t_railref1_Rule x53.Rule).bind fun r99 =>
 if (decide (r99 ≠ 0)) = true then (
 some r99) else (
 k49 ()))) (fun (s48 : Unit) =>
 j44 ()) ()) (fun (s24 : Unit) =>
 j20 ()) ()) fun j15 =>
 loopI a0 (fun (i119 : Int) x120 (s115 : Unit) k116 =>
 if (decide (200 < (List.length x120 : Int))) = true then (
 some 4) else (
 k116 ())) (fun (s115 : Unit) =>
 j15 ()) ()))
theorem ty_railref2_Rounds {n : Nat} (hn : bigN ≤ n) (a0 : (List (List T_Op))) (a1 : Int) : Rv (fun x : Int => (vi x)) (sem_railref2_Rounds n [(V.sl (List.map (cS T_Op.c) a0)), (vi a1)]) (t_railref2_Rounds a0 a1) := by
  rw [eq_railref2_Rounds]
  unfold t_railref2_Rounds
  refine tb (x := (vb (decide (a1 < 1)))) (d_lss) ?_
  refine tg_f (x := (vi a1)) (fun h2 => rfl) ?_
  refine tg_f (x := (vb (decide (100 < a1)))) (fun h4 => by simp only [gv_t h4]; exact bind_some_eq (d_gtr)) ?_
  refine tb (x := (vb ((decide (a1 < 1)) || (decide (100 < a1))))) (pick_or (fun h9 => gv_t (not_f h9))) ?_
  refine tcond (fun h8 => ?_) (fun h8 => ?_)
  · exact rf_ret rfl
  · refine tb (x := (vi (List.length a0 : Int))) (p_len _) ?_
    refine tb (x := (vb (decide (20 < (List.length a0 : Int))))) (d_gtr) ?_
    refine tcond (fun h11 => ?_) (fun h11 => ?_)
    · exact rf_ret rfl
    · refine tjoin (mk := fun s14 : Unit => []) (fun s14 => ?_) fun J13 j15 h16 => ?_
      · refine tjoin (mk := fun s19 : Unit => []) (fun s19 => ?_) fun J18 j20 h21 => ?_
        · exact rf_ret rfl
        · refine rf_loopI (mk := fun (i28 : Int) (s24 : Unit) => [(vi (i28 : Int))]) hn a0 () (fun i28 x29 h30 h31 h32 s24 rec22 k25 h26 => ?_) (fun s24 rec110 h109 => ?_)
          · refine tb (x := (vi (List.length a0 : Int))) (p_len _) ?_
            refine tb (x := (vb (decide ((i28 : Int) < (List.length a0 : Int))))) (d_lss) ?_
            refine tcond_t h32 ?_
            refine tjoin (mk := fun s37 : Unit => []) (fun s37 => ?_) fun J36 j38 h39 => ?_
            · refine tb (x := (vi ((i28 : Int) + 1))) (p_incN h31) ?_
              exact h26 ()
            · refine tjoin (mk := fun s43 : Unit => []) (fun s43 => ?_) fun J42 j44 h45 => ?_
              · exact h39 ()
              · refine rf_loopI (mk := fun (i52 : Int) (s48 : Unit) => [(vi (i52 : Int))]) hn x29 () (fun i52 x53 h54 h55 h56 s48 rec46 k49 h50 => ?_) (fun s48 rec104 h103 => ?_)
                · refine tb (x := (V.ptr [(V.sl (List.map T_Op.c x29))])) (p_idx_at (c := (cS T_Op.c)) (fun _ => rfl) h30) ?_
                  refine tb (x := (V.sl (List.map T_Op.c x29))) (rfl) ?_
                  refine tb (x := (vi (List.length x29 : Int))) (p_len _) ?_
                  refine tb (x := (vb (decide ((i52 : Int) < (List.length x29 : Int))))) (d_lss) ?_
                  refine tcond_t h56 ?_
                  refine tb (x := (V.ptr [(V.sl (List.map T_Op.c x29))])) (p_idx_at (c := (cS T_Op.c)) (fun _ => rfl) h30) ?_
                  refine tb (x := (V.sl (List.map T_Op.c x29))) (rfl) ?_
                  refine tb (x := (V.ptr (T_Op.c x53))) (p_idx_at (c := T_Op.c) (fun _ => rfl) h54) ?_
                  refine tb (x := (V.ptr (T_Op.c x53))) (rfl) ?_
                  refine tb (x := (vi x53.Switch)) (rfl) ?_
                  refine tb (x := (vb (decide (x53.Switch < 1)))) (d_lss) ?_
                  refine tg_f (x := (V.sl (List.map (cS T_Op.c) a0))) (fun h67 => rfl) ?_
                  refine tg_f (x := (vi (i28 : Int))) (fun h69 => rfl) ?_
                  refine tg_f (x := (V.ptr [(V.sl (List.map T_Op.c x29))])) (fun h71 => by simp only [gv_t h71]; exact bind_some_eq (p_idx_at (c := (cS T_Op.c)) (fun _ => rfl) h30)) ?_
                  refine tg_f (x := (V.sl (List.map T_Op.c x29))) (fun h74 => by first | exact bind_some_eq (rfl) | (simp only [gv_t h74]; exact bind_some_eq (rfl))) ?_
                  refine tg_f (x := (vi (i52 : Int))) (fun h77 => rfl) ?_
                  refine tg_f (x := (V.ptr (T_Op.c x53))) (fun h79 => by simp only [gv_t h79]; exact bind_some_eq (p_idx_at (c := T_Op.c) (fun _ => rfl) h54)) ?_
                  refine tg_f (x := (V.ptr (T_Op.c x53))) (fun h82 => by first | exact bind_some_eq (rfl) | (simp only [gv_t h82]; exact bind_some_eq (rfl))) ?_
                  refine tg_f (x := (vi x53.Switch)) (fun h85 => by first | exact bind_some_eq (rfl) | (simp only [gv_t h85]; exact bind_some_eq (rfl))) ?_
                  refine tg_f (x := (vb (decide (6 < x53.Switch)))) (fun h88 => by simp only [gv_t h88]; exact bind_some_eq (d_gtr)) ?_
                  refine tb (x := (vb ((decide (x53.Switch < 1)) || (decide (6 < x53.Switch))))) (pick_or (fun h9 => gv_t (not_f h9))) ?_
                  refine tcond (fun h92 => ?_) (fun h92 => ?_)
                  · exact rf_ret rfl
                  · refine tb (x := (V.ptr [(V.sl (List.map T_Op.c x29))])) (p_idx_at (c := (cS T_Op.c)) (fun _ => rfl) h30) ?_
                    refine tb (x := (V.sl (List.map T_Op.c x29))) (rfl) ?_
                    refine tb (x := (V.ptr (T_Op.c x53))) (p_idx_at (c := T_Op.c) (fun _ => rfl) h54) ?_
                    refine tb (x := (V.ptr (List.drop 2 (T_Op.c x53)))) (rfl) ?_
                    refine tb (x := (T_Rule.e x53.Rule)) (rfl) ?_
                    refine tbo (ty_railref1_Rule hn x53.Rule) fun r99 => ?_
                    refine tb (x := (vb (decide (r99 ≠ 0)))) (d_neq) ?_
                    refine tcond (fun h101 => ?_) (fun h101 => ?_)
                    · exact rf_ret rfl
                    · refine tb (x := (vi ((i52 : Int) + 1))) (p_incN h55) ?_
                      exact h50 ()
                · refine tb (x := (V.ptr [(V.sl (List.map T_Op.c x29))])) (p_idx_at (c := (cS T_Op.c)) (fun _ => rfl) h30) ?_
                  refine tb (x := (V.sl (List.map T_Op.c x29))) (rfl) ?_
                  refine tb (x := (vi (List.length x29 : Int))) (p_len _) ?_
                  refine tb (x := (vb (decide ((List.length x29 : Int) < (List.length x29 : Int))))) (d_lss) ?_
                  refine tcond_f h103 ?_
                  exact h45 ()
          · refine tb (x := (vi (List.length a0 : Int))) (p_len _) ?_
            refine tb (x := (vb (decide ((List.length a0 : Int) < (List.length a0 : Int))))) (d_lss) ?_
            refine tcond_f h109 ?_
            exact h21 ()
      · refine rf_loopI (mk := fun (i119 : Int) (s115 : Unit) => [(vi (i119 : Int))]) hn a0 () (fun i119 x120 h121 h122 h123 s115 rec113 k116 h117 => ?_) (fun s115 rec133 h132 => ?_)
        · refine tb (x := (vi (List.length a0 : Int))) (p_len _) ?_
          refine tb (x := (vb (decide ((i119 : Int) < (List.length a0 : Int))))) (d_lss) ?_
          refine tcond_t h123 ?_
          refine tb (x := (V.ptr [(V.sl (List.map T_Op.c x120))])) (p_idx_at (c := (cS T_Op.c)) (fun _ => rfl) h121) ?_
          refine tb (x := (V.sl (List.map T_Op.c x120))) (rfl) ?_
          refine tb (x := (vi (List.length x120 : Int))) (p_len _) ?_
          refine tb (x := (vb (decide (200 < (List.length x120 : Int))))) (d_gtr) ?_
          refine tcond (fun h130 => ?_) (fun h130 => ?_)
          · exact rf_ret rfl
          · refine tb (x := (vi ((i119 : Int) + 1))) (p_incN h122) ?_
            exact h117 ()
        · refine tb (x := (vi (List.length a0 : Int))) (p_len _) ?_
          refine tb (x := (vb (decide ((List.length a0 : Int) < (List.length a0 : Int))))) (d_lss) ?_
          refine tcond_f h132 ?_
          exact h16 ()

/-! slices.IndexFunc   railpoint/api.Round railpoint/api.Round  -/
def an_slices_IndexFunc_api_Round_api_Round : Ann := .seq (.reg 0 [] [] []) (.seq (.seq (.reg 0 [] [] []) (.blk (some []) (.loop [.s 8] (.seq (.reg 0 [] [] []) (.seq (.cond none (.no) (.no)) (.seq (.blk none (.seq (.reg 0 [] [] []) (.seq (.reg 0 [] [] []) (.cond none (.seq (.reg 0 [] [] []) (.no)) (.no))))) (.reg 0 [] [] []))))))) (.seq (.reg 0 [] [] []) (.no)))
noncomputable def sem_slices_IndexFunc_api_Round_api_Round (E : FuncId → List V → Option V) (n : Nat) (xs : List V) : Option V := if xs.length ≤ 19 then denF Tryd.prog (envJ [] E) n Tryd.f80 an_slices_IndexFunc_api_Round_api_Round xs else none
theorem ok_slices_IndexFunc_api_Round_api_Round {E : FuncId → List V → Option V} (hE : EnvOk Tryd.prog DW E) (n : Nat) : SemOk Tryd.prog DW 80 (sem_slices_IndexFunc_api_Round_api_Round E n) := fun xs y h => by
  unfold sem_slices_IndexFunc_api_Round_api_Round at h
  split at h
  · rename_i hl
    exact denF_ok stb Tryd.func80 (by kernel_rfl) (envJ_ok semsOk_nil hE) (by rw [Tryd.ntmps80]; exact hl) h
  · cases h
theorem eq_slices_IndexFunc_api_Round_api_Round (E : FuncId → List V → Option V) (n : Nat) (x0 x1 : V) : sem_slices_IndexFunc_api_Round_api_Round E n [x0, x1] =
 (lenS [x0]).bind fun v1 =>
 JoinPt (fun vs2 =>
 some (vi (-1 : Int))) fun J3 =>
 (fixN (fun rec4 vs5 =>
 (bin2 Tryd.prog BinOp.lss 3 (ot 8) (ot 7) (List.getD vs5 0 V.any) v1).bind fun v6 =>
 condV v6 (
 (idxS 1 x0 (List.getD vs5 0 V.any)).bind fun v7 =>
 (ldp none v7).bind fun v8 =>
 (callV (envJ [] E) x1 [v8]).bind fun v9 =>
 condV v9 (
 some (List.getD vs5 0 V.any)) (
 (bin2 Tryd.prog BinOp.add 3 (ot 8) (oc 1) (List.getD vs5 0 V.any) (vi 1)).bind fun v10 =>
 rec4 [v10])) (
 J3 [])) n) [(vi 0)] := by kernel_rfl
noncomputable def t_slices_IndexFunc_api_Round_api_Round (a0 : (List (List T_Op))) (g1 : (List T_Op) → Option Bool) : Option Int :=
 join (fun (s4 : Unit) =>
 some (-1 : Int)) fun j5 =>
 loopI a0 (fun (i13 : Int) x14 (s9 : Unit) k10 =>
 (g1 x14).bind fun r22 =>
 if r22 = true then (
 some i13) else (
 k10 ())) (fun (s9 : Unit) =>
 j5 ()) ()
theorem ty_slices_IndexFunc_api_Round_api_Round {E : FuncId → List V → Option V} {n : Nat} (hn : bigN ≤ n) (a0 : (List (List T_Op))) {x1 : V} {g1 : (List T_Op) → Option Bool} (hg_g1 : ∀ a0, Rv (fun x : Bool => (vb x)) (callV E x1 [(V.sl (List.map T_Op.c a0))]) (g1 a0)) : Rv (fun x : Int => (vi x)) (sem_slices_IndexFunc_api_Round_api_Round E n [(V.sl (List.map (cS T_Op.c) a0)), x1]) (t_slices_IndexFunc_api_Round_api_Round a0 g1) := by
  rw [eq_slices_IndexFunc_api_Round_api_Round]
  unfold t_slices_IndexFunc_api_Round_api_Round
  refine tb (x := (vi (List.length a0 : Int))) (p_len _) ?_
  refine tjoin (mk := fun s4 : Unit => []) (fun s4 => ?_) fun J3 j5 h6 => ?_
  · exact rf_ret rfl
  · refine rf_loopI (mk := fun (i13 : Int) (s9 : Unit) => [(vi (i13 : Int))]) hn a0 () (fun i13 x14 h15 h16 h17 s9 rec7 k10 h11 => ?_) (fun s9 rec26 h25 => ?_)
    · refine tb (x := (vb (decide ((i13 : Int) < (List.length a0 : Int))))) (d_lss) ?_
      refine tcond_t h17 ?_
      refine tb (x := (V.ptr [(V.sl (List.map T_Op.c x14))])) (p_idx_at (c := (cS T_Op.c)) (fun _ => rfl) h15) ?_
      refine tb (x := (V.sl (List.map T_Op.c x14))) (rfl) ?_
      refine tbo ((callV_J0 ▸ hg_g1 x14)) fun r22 => ?_
      refine tcond (fun h23 => ?_) (fun h23 => ?_)
      · exact rf_ret rfl
      · refine tb (x := (vi ((i13 : Int) + 1))) (p_incN h16) ?_
        exact h11 ()
    · refine tb (x := (vb (decide ((List.length a0 : Int) < (List.length a0 : Int))))) (d_lss) ?_
      refine tcond_f h25 ?_
      exact h6 ()

/-! slices.ContainsFunc   railpoint/api.Round railpoint/api.Round  -/
def an_slices_ContainsFunc_api_Round_api_Round : Ann := .seq (.reg 0 [] [] []) (.seq (.reg 0 [] [] []) (.no))
noncomputable def sem_slices_ContainsFunc_api_Round_api_Round (E : FuncId → List V → Option V) (n : Nat) (xs : List V) : Option V := if xs.length ≤ 9 then denF Tryd.prog (envJ [(80, (sem_slices_IndexFunc_api_Round_api_Round E n))] E) n Tryd.f55 an_slices_ContainsFunc_api_Round_api_Round xs else none
theorem ok_slices_ContainsFunc_api_Round_api_Round {E : FuncId → List V → Option V} (hE : EnvOk Tryd.prog DW E) (n : Nat) : SemOk Tryd.prog DW 55 (sem_slices_ContainsFunc_api_Round_api_Round E n) := fun xs y h => by
  unfold sem_slices_ContainsFunc_api_Round_api_Round at h
  split at h
  · rename_i hl
    exact denF_ok stb Tryd.func55 (by kernel_rfl) (envJ_ok (semsOk_cons (ok_slices_IndexFunc_api_Round_api_Round hE n) semsOk_nil) hE) (by rw [Tryd.ntmps55]; exact hl) h
  · cases h
theorem eq_slices_ContainsFunc_api_Round_api_Round (E : FuncId → List V → Option V) (n : Nat) (x0 x1 : V) : sem_slices_ContainsFunc_api_Round_api_Round E n [x0, x1] =
 ((sem_slices_IndexFunc_api_Round_api_Round E n) [x0, x1]).bind fun v1 =>
 (bin2 Tryd.prog BinOp.geq 3 (ot 7) (oc 0) v1 (vi 0)).bind fun v2 =>
 some v2 := by kernel_rfl
noncomputable def t_slices_ContainsFunc_api_Round_api_Round (a0 : (List (List T_Op))) (g1 : (List T_Op) → Option Bool) : Option Bool :=
 (t_slices_IndexFunc_api_Round_api_Round a0 g1).bind fun r2 =>
 some (decide (0 ≤ r2))
theorem ty_slices_ContainsFunc_api_Round_api_Round {E : FuncId → List V → Option V} {n : Nat} (hn : bigN ≤ n) (a0 : (List (List T_Op))) {x1 : V} {g1 : (List T_Op) → Option Bool} (hg_g1 : ∀ a0, Rv (fun x : Bool => (vb x)) (callV E x1 [(V.sl (List.map T_Op.c a0))]) (g1 a0)) : Rv (fun x : Bool => (vb x)) (sem_slices_ContainsFunc_api_Round_api_Round E n [(V.sl (List.map (cS T_Op.c) a0)), x1]) (t_slices_ContainsFunc_api_Round_api_Round a0 g1) := by
  rw [eq_slices_ContainsFunc_api_Round_api_Round]
  unfold t_slices_ContainsFunc_api_Round_api_Round
  refine tbo (ty_slices_IndexFunc_api_Round_api_Round (E := E) (x1 := x1) (g1 := g1) hn a0 hg_g1) fun r2 => ?_
  refine tb (x := (vb (decide (0 ≤ r2)))) (d_geq) ?_
  exact rf_ret rfl

/-! railpoint/cube.Header -/
def an_cube_Header : Ann := .seq (.reg 0 [] [] []) (.seq (.reg 0 [] [] []) (.no))
noncomputable def sem_cube_Header (n : Nat) (xs : List V) : Option V := if xs.length ≤ 9 then denF Tryd.prog (envOf []) n Tryd.f81 an_cube_Header xs else none
theorem ok_cube_Header (n : Nat) : SemOk Tryd.prog DW 81 (sem_cube_Header n) := fun xs y h => by
  unfold sem_cube_Header at h
  split at h
  · rename_i hl
    exact denF_ok stb Tryd.func81 (by kernel_rfl) (envOf_ok semsOk_nil) (by rw [Tryd.ntmps81]; exact hl) h
  · cases h
theorem eq_cube_Header (n : Nat) (x0 : V) : sem_cube_Header n [x0] =
 (bin2 Tryd.prog BinOp.geq 3 (ot 3) (oc 0) x0 (vi 0)).bind fun v1 =>
 (guardV v1 true (some x0)).bind fun v2 =>
 (guardV v1 true ((bin2 Tryd.prog BinOp.lss 3 (ot 6) (oc 16) v2 (vi 16)).bind fun v3 =>
 some v3)).bind fun v4 =>
 (pickV v1 v4 (vb false)).bind fun v5 =>
 some v5 := by kernel_rfl
noncomputable def t_cube_Header (a0 : Int) : Option Bool :=
 some ((decide (0 ≤ a0)) && (decide (a0 < 16)))
theorem ty_cube_Header {n : Nat} (hn : bigN ≤ n) (a0 : Int) : Rv (fun x : Bool => (vb x)) (sem_cube_Header n [(vi a0)]) (t_cube_Header a0) := by
  rw [eq_cube_Header]
  unfold t_cube_Header
  refine tb (x := (vb (decide (0 ≤ a0)))) (d_geq) ?_
  refine tg (x := (vi a0)) (fun h2 => rfl) ?_
  refine tg (x := (vb (decide (a0 < 16)))) (fun h4 => by simp only [gv_t h4]; exact bind_some_eq (d_lss)) ?_
  refine tb (x := (vb ((decide (0 ≤ a0)) && (decide (a0 < 16))))) (pick_and (fun h9 => gv_t h9)) ?_
  exact rf_ret rfl

/-! railpoint/cube.Check -/
def an_cube_Check : Ann := .seq (.reg 0 [] [] []) (.seq (.blk none (.seq (.reg 0 [] [] []) (.cond none (.seq (.reg 0 [] [] []) (.no)) (.seq (.reg 0 [] [] []) (.cond none (.seq (.reg 0 [] [] []) (.no)) (.no)))))) (.seq (.reg 0 [] [] []) (.no)))
noncomputable def sem_cube_Check (n : Nat) (xs : List V) : Option V := if xs.length ≤ 23 then denF Tryd.prog (envOf [(81, (sem_cube_Header n))]) n Tryd.f82 an_cube_Check xs else none
theorem ok_cube_Check (n : Nat) : SemOk Tryd.prog DW 82 (sem_cube_Check n) := fun xs y h => by
  unfold sem_cube_Check at h
  split at h
  · rename_i hl
    exact denF_ok stb Tryd.func82 (by kernel_rfl) (envOf_ok (semsOk_cons (ok_cube_Header n) semsOk_nil)) (by rw [Tryd.ntmps82]; exact hl) h
  · cases h
theorem eq_cube_Check (n : Nat) (x0 : V) : sem_cube_Check n [x0] =
 (V.cellsO x0).bind fun v1 =>
 (ldk none (List.drop 0 v1)).bind fun v2 =>
 ((sem_cube_Header n) [v2]).bind fun v3 =>
 (scal1 Tryd.prog (Op.unary Go.UnOp.not) v3).bind fun v4 =>
 (guardV v4 false (some V.any)).bind fun v5 =>
 (guardV v4 false ((gate v4 false (ldk none (List.drop 1 v1))).bind fun v6 =>
 some v6)).bind fun v7 =>
 (guardV v4 false (((sem_cube_Header n) [v7]).bind fun v8 =>
 some v8)).bind fun v9 =>
 (guardV v4 false ((scal1 Tryd.prog (Op.unary Go.UnOp.not) v9).bind fun v10 =>
 some v10)).bind fun v11 =>
 (pickV v4 (vb true) v11).bind fun v12 =>
 condV v12 (
 (scal1 Tryd.prog (Instr.makeInterface 87) (vi 1)).bind fun v13 =>
 some v13) (
 (ldk none (List.drop 1 v1)).bind fun v14 =>
 (ldk none (List.drop 0 v1)).bind fun v15 =>
 (bin2 Tryd.prog BinOp.andNot 3 (ot 17) (ot 19) v14 v15).bind fun v16 =>
 (bin2 Tryd.prog BinOp.neq 3 (ot 20) (oc 0) v16 (vi 0)).bind fun v17 =>
 condV v17 (
 (scal1 Tryd.prog (Instr.makeInterface 87) (vi 3)).bind fun v18 =>
 some v18) (
 some vn)) := by kernel_rfl
noncomputable def t_cube_Check (a0 : T_Cube) : Option Int :=
 (t_cube_Header a0.Mask).bind fun r4 =>
 (gd (!(!r4)) default (t_cube_Header a0.Bits)).bind fun r14 =>
 if ((!r4) || (!r14)) = true then (
 some 1) else (
 if (decide ((bits .andNot .i64 a0.Bits a0.Mask) ≠ 0)) = true then (
 some 3) else (
 some 0))
theorem ty_cube_Check {n : Nat} (hn : bigN ≤ n) (a0 : T_Cube) : Rv (fun x : Int => (eV x)) (sem_cube_Check n [(T_Cube.e a0)]) (t_cube_Check a0) := by
  rw [eq_cube_Check]
  unfold t_cube_Check
  refine tb (x := (T_Cube.c a0)) rfl ?_
  refine tb (x := (vi a0.Mask)) (rfl) ?_
  refine tbo (ty_cube_Header hn a0.Mask) fun r4 => ?_
  refine tb (x := (vb (!r4))) (d_not) ?_
  refine tg_f (x := V.any) (fun h6 => rfl) ?_
  refine tg_f (x := (vi a0.Bits)) (fun h8 => bind_some_eq (gate_pos (not_t h8) (rfl))) ?_
  refine tgo_f (fun h11 => by simp only [gv_t h11]; exact rf_bind_some (ty_cube_Header hn a0.Bits)) fun r14 => ?_
  refine tg_f (x := (vb (!r14))) (fun h15 => by simp only [gv_t h15]; exact bind_some_eq (d_not)) ?_
  refine tb (x := (vb ((!r4) || (!r14)))) (pick_or (fun h9 => gv_t (not_f h9))) ?_
  refine tcond (fun h19 => ?_) (fun h19 => ?_)
  · refine tb (x := (eV 1)) (p_mkE (by decide)) ?_
    exact rf_ret rfl
  · refine tb (x := (vi a0.Bits)) (rfl) ?_
    refine tb (x := (vi a0.Mask)) (rfl) ?_
    refine tb (x := (vi (bits .andNot .i64 a0.Bits a0.Mask))) (d_andNot) ?_
    refine tb (x := (vb (decide ((bits .andNot .i64 a0.Bits a0.Mask) ≠ 0)))) (d_neq) ?_
    refine tcond (fun h25 => ?_) (fun h25 => ?_)
    · refine tb (x := (eV 3)) (p_mkE (by decide)) ?_
      exact rf_ret rfl
    · exact rf_ret rfl

/-! railpoint/rule.Check -/
def an_rule_Check : Ann := .seq (.reg 0 [] [] []) (.seq (.seq (.reg 0 [] [] []) (.cond none (.seq (.reg 0 [] [] []) (.no)) (.no))) (.seq (.seq (.reg 0 [] [] []) (.seq (.reg 0 [] [] []) (.cond none (.seq (.reg 0 [] [] []) (.no)) (.no)))) (.seq (.seq (.reg 0 [] [] []) (.cond none (.seq (.reg 0 [] [] []) (.no)) (.no))) (.seq (.reg 0 [] [] []) (.no)))))
noncomputable def sem_rule_Check (n : Nat) (xs : List V) : Option V := if xs.length ≤ 58 then denF Tryd.prog (envOf [(81, (sem_cube_Header n)), (82, (sem_cube_Check n))]) n Tryd.f57 an_rule_Check xs else none
theorem ok_rule_Check (n : Nat) : SemOk Tryd.prog DW 57 (sem_rule_Check n) := fun xs y h => by
  unfold sem_rule_Check at h
  split at h
  · rename_i hl
    exact denF_ok stb Tryd.func57 (by kernel_rfl) (envOf_ok (semsOk_cons (ok_cube_Header n) (semsOk_cons (ok_cube_Check n) semsOk_nil))) (by rw [Tryd.ntmps57]; exact hl) h
  · cases h
theorem eq_rule_Check (n : Nat) (x0 : V) : sem_rule_Check n [x0] =
 (V.cellsO x0).bind fun v1 =>
 (ldk none (List.drop 0 v1)).bind fun v2 =>
 (bin2 Tryd.prog BinOp.lss 3 (ot 5) (oc 0) v2 (vi 0)).bind fun v3 =>
 (guardV v3 false (some V.any)).bind fun v4 =>
 (guardV v3 false ((gate v3 false (ldk none (List.drop 0 v1))).bind fun v5 =>
 some v5)).bind fun v6 =>
 (guardV v3 false ((bin2 Tryd.prog BinOp.gtr 3 (ot 9) (oc 99) v6 (vi 99)).bind fun v7 =>
 some v7)).bind fun v8 =>
 (pickV v3 (vb true) v8).bind fun v9 =>
 (guardV v9 false (some V.any)).bind fun v10 =>
 (guardV v9 false ((gate v9 false (ldk none (List.drop 3 v1))).bind fun v11 =>
 some v11)).bind fun v12 =>
 (guardV v9 false ((bin2 Tryd.prog BinOp.lss 3 (ot 14) (oc 0) v12 (vi 0)).bind fun v13 =>
 some v13)).bind fun v14 =>
 (pickV v9 (vb true) v14).bind fun v15 =>
 (guardV v15 false (some V.any)).bind fun v16 =>
 (guardV v15 false ((gate v15 false (ldk none (List.drop 3 v1))).bind fun v17 =>
 some v17)).bind fun v18 =>
 (guardV v15 false ((bin2 Tryd.prog BinOp.gtr 3 (ot 19) (oc 4) v18 (vi 4)).bind fun v19 =>
 some v19)).bind fun v20 =>
 (pickV v15 (vb true) v20).bind fun v21 =>
 (guardV v21 false (some V.any)).bind fun v22 =>
 (guardV v21 false ((gate v21 false (ldk none (List.drop 4 v1))).bind fun v23 =>
 some v23)).bind fun v24 =>
 (guardV v21 false (((sem_cube_Header n) [v24]).bind fun v25 =>
 some v25)).bind fun v26 =>
 (guardV v21 false ((scal1 Tryd.prog (Op.unary Go.UnOp.not) v26).bind fun v27 =>
 some v27)).bind fun v28 =>
 (pickV v21 (vb true) v28).bind fun v29 =>
 (guardV v29 false (some V.any)).bind fun v30 =>
 (guardV v29 false ((gate v29 false (ldk none (List.drop 5 v1))).bind fun v31 =>
 some v31)).bind fun v32 =>
 (guardV v29 false (((sem_cube_Header n) [v32]).bind fun v33 =>
 some v33)).bind fun v34 =>
 (guardV v29 false ((scal1 Tryd.prog (Op.unary Go.UnOp.not) v34).bind fun v35 =>
 some v35)).bind fun v36 =>
 (pickV v29 (vb true) v36).bind fun v37 =>
 condV v37 (
 (scal1 Tryd.prog (Instr.makeInterface 87) (vi 1)).bind fun v38 =>
 some v38) (
 (ldk (some 2) (List.drop 1 v1)).bind fun v39 =>
 ((sem_cube_Check n) [v39]).bind fun v40 =>
 (bin2 Tryd.prog BinOp.neq 27 (ot 38) (Operand.const Go.Value.nilIface) v40 vn).bind fun v41 =>
 condV v41 (
 some v40) (
 (ldk none (List.drop 5 v1)).bind fun v42 =>
 (ldk none (List.drop 4 v1)).bind fun v43 =>
 (bin2 Tryd.prog BinOp.andNot 3 (ot 42) (ot 44) v42 v43).bind fun v44 =>
 (bin2 Tryd.prog BinOp.neq 3 (ot 45) (oc 0) v44 (vi 0)).bind fun v45 =>
 (guardV v45 false (some V.any)).bind fun v46 =>
 (guardV v45 false ((gate v45 false (ldk none (List.drop 3 v1))).bind fun v47 =>
 some v47)).bind fun v48 =>
 (guardV v45 false ((bin2 Tryd.prog BinOp.eql 3 (ot 49) (oc 0) v48 (vi 0)).bind fun v49 =>
 some v49)).bind fun v50 =>
 (guardV v45 false (some v50)).bind fun v51 =>
 (guardV v51 true (some V.any)).bind fun v52 =>
 (guardV v51 true ((gate v51 true (ldk none (List.drop 4 v1))).bind fun v53 =>
 some v53)).bind fun v54 =>
 (guardV v51 true ((bin2 Tryd.prog BinOp.neq 3 (ot 53) (oc 0) v54 (vi 0)).bind fun v55 =>
 some v55)).bind fun v56 =>
 (guardV v45 false ((pickV v51 v56 (vb false)).bind fun v57 =>
 some v57)).bind fun v58 =>
 (pickV v45 (vb true) v58).bind fun v59 =>
 condV v59 (
 (scal1 Tryd.prog (Instr.makeInterface 87) (vi 3)).bind fun v60 =>
 some v60) (
 some vn))) := by kernel_rfl
noncomputable def t_rule_Check (a0 : T_Rule) : Option Int :=
 (gd (!((((decide (a0.Prio < 0)) || (decide (99 < a0.Prio))) || (decide (a0.Out < 0))) || (decide (4 < a0.Out)))) default (t_cube_Header a0.Set)).bind fun r39 =>
 (gd (!(((((decide (a0.Prio < 0)) || (decide (99 < a0.Prio))) || (decide (a0.Out < 0))) || (decide (4 < a0.Out))) || (!r39))) default (t_cube_Header a0.Value)).bind fun r52 =>
 if ((((((decide (a0.Prio < 0)) || (decide (99 < a0.Prio))) || (decide (a0.Out < 0))) || (decide (4 < a0.Out))) || (!r39)) || (!r52)) = true then (
 some 1) else (
 (t_cube_Check a0.Cube).bind fun r61 =>
 if (!decide (r61 = 0)) = true then (
 some r61) else (
 if ((decide ((bits .andNot .i64 a0.Value a0.Set) ≠ 0)) || ((decide (a0.Out = 0)) && (decide (a0.Set ≠ 0)))) = true then (
 some 3) else (
 some 0)))
theorem ty_rule_Check {n : Nat} (hn : bigN ≤ n) (a0 : T_Rule) : Rv (fun x : Int => (eV x)) (sem_rule_Check n [(T_Rule.e a0)]) (t_rule_Check a0) := by
  rw [eq_rule_Check]
  unfold t_rule_Check
  refine tb (x := (T_Rule.c a0)) rfl ?_
  refine tb (x := (vi a0.Prio)) (rfl) ?_
  refine tb (x := (vb (decide (a0.Prio < 0)))) (d_lss) ?_
  refine tg_f (x := V.any) (fun h4 => rfl) ?_
  refine tg_f (x := (vi a0.Prio)) (fun h6 => bind_some_eq (gate_pos (not_t h6) (rfl))) ?_
  refine tg_f (x := (vb (decide (99 < a0.Prio)))) (fun h9 => by simp only [gv_t h9]; exact bind_some_eq (d_gtr)) ?_
  refine tb (x := (vb ((decide (a0.Prio < 0)) || (decide (99 < a0.Prio))))) (pick_or (fun h9 => gv_t (not_f h9))) ?_
  refine tg_f (x := V.any) (fun h13 => rfl) ?_
  refine tg_f (x := (vi a0.Out)) (fun h15 => bind_some_eq (gate_pos (not_t h15) (rfl))) ?_
  refine tg_f (x := (vb (decide (a0.Out < 0)))) (fun h18 => by simp only [gv_t h18]; exact bind_some_eq (d_lss)) ?_
  refine tb (x := (vb (((decide (a0.Prio < 0)) || (decide (99 < a0.Prio))) || (decide (a0.Out < 0))))) (pick_or (fun h9 => gv_t (not_f h9))) ?_
  refine tg_f (x := V.any) (fun h22 => rfl) ?_
  refine tg_f (x := (vi a0.Out)) (fun h24 => bind_some_eq (gate_pos (not_t h24) (rfl))) ?_
  refine tg_f (x := (vb (decide (4 < a0.Out)))) (fun h27 => by simp only [gv_t h27]; exact bind_some_eq (d_gtr)) ?_
  refine tb (x := (vb ((((decide (a0.Prio < 0)) || (decide (99 < a0.Prio))) || (decide (a0.Out < 0))) || (decide (4 < a0.Out))))) (pick_or (fun h9 => gv_t (not_f h9))) ?_
  refine tg_f (x := V.any) (fun h31 => rfl) ?_
  refine tg_f (x := (vi a0.Set)) (fun h33 => bind_some_eq (gate_pos (not_t h33) (rfl))) ?_
  refine tgo_f (fun h36 => by simp only [gv_t h36]; exact rf_bind_some (ty_cube_Header hn a0.Set)) fun r39 => ?_
  refine tg_f (x := (vb (!r39))) (fun h40 => by simp only [gv_t h40]; exact bind_some_eq (d_not)) ?_
  refine tb (x := (vb (((((decide (a0.Prio < 0)) || (decide (99 < a0.Prio))) || (decide (a0.Out < 0))) || (decide (4 < a0.Out))) || (!r39)))) (pick_or (fun h9 => gv_t (not_f h9))) ?_
  refine tg_f (x := V.any) (fun h44 => rfl) ?_
  refine tg_f (x := (vi a0.Value)) (fun h46 => bind_some_eq (gate_pos (not_t h46) (rfl))) ?_
  refine tgo_f (fun h49 => by simp only [gv_t h49]; exact rf_bind_some (ty_cube_Header hn a0.Value)) fun r52 => ?_
  refine tg_f (x := (vb (!r52))) (fun h53 => by simp only [gv_t h53]; exact bind_some_eq (d_not)) ?_
  refine tb (x := (vb ((((((decide (a0.Prio < 0)) || (decide (99 < a0.Prio))) || (decide (a0.Out < 0))) || (decide (4 < a0.Out))) || (!r39)) || (!r52)))) (pick_or (fun h9 => gv_t (not_f h9))) ?_
  refine tcond (fun h57 => ?_) (fun h57 => ?_)
  · refine tb (x := (eV 1)) (p_mkE (by decide)) ?_
    exact rf_ret rfl
  · refine tb (x := (T_Cube.e a0.Cube)) (rfl) ?_
    refine tbo (ty_cube_Check hn a0.Cube) fun r61 => ?_
    refine tb (x := (vb (!decide (r61 = 0)))) (p_err_neq _) ?_
    refine tcond (fun h63 => ?_) (fun h63 => ?_)
    · exact rf_ret rfl
    · refine tb (x := (vi a0.Value)) (rfl) ?_
      refine tb (x := (vi a0.Set)) (rfl) ?_
      refine tb (x := (vi (bits .andNot .i64 a0.Value a0.Set))) (d_andNot) ?_
      refine tb (x := (vb (decide ((bits .andNot .i64 a0.Value a0.Set) ≠ 0)))) (d_neq) ?_
      refine tg_f (x := V.any) (fun h68 => rfl) ?_
      refine tg_f (x := (vi a0.Out)) (fun h70 => bind_some_eq (gate_pos (not_t h70) (rfl))) ?_
      refine tg_f (x := (vb (decide (a0.Out = 0)))) (fun h73 => by simp only [gv_t h73]; exact bind_some_eq (d_eql)) ?_
      refine tg_f (x := (vb (decide (a0.Out = 0)))) (fun h76 => congrArg some (gv_t h76)) ?_
      refine tg2 (x := V.any) (fun h78 => rfl) ?_
      refine tg2 (x := (vi a0.Set)) (fun h80 => bind_some_eq (gate_pos2 (and_l h80) (and_r h80) (rfl))) ?_
      refine tg2 (x := (vb (decide (a0.Set ≠ 0)))) (fun h83 => by simp only [gv_t h83]; exact bind_some_eq (d_neq)) ?_
      refine tg_f (x := (vb ((decide (a0.Out = 0)) && (decide (a0.Set ≠ 0))))) (fun h86 => by simp only [gv_t h86]; exact bind_some_eq (pick_and (fun h9 => gv_t (and_i h86 h9)))) ?_
      refine tb (x := (vb ((decide ((bits .andNot .i64 a0.Value a0.Set) ≠ 0)) || ((decide (a0.Out = 0)) && (decide (a0.Set ≠ 0)))))) (pick_or (fun h9 => gv_t (not_f h9))) ?_
      refine tcond (fun h90 => ?_) (fun h90 => ?_)
      · refine tb (x := (eV 3)) (p_mkE (by decide)) ?_
        exact rf_ret rfl
      · exact rf_ret rfl

/-! railpoint/drive.New$1 -/
def an_drive_New_1 : Ann := .seq (.reg 0 [] [] []) (.seq (.reg 0 [] [] []) (.no))
noncomputable def sem_drive_New_1 (n : Nat) (xs : List V) : Option V := if xs.length ≤ 6 then denF Tryd.prog (envOf []) n Tryd.f56 an_drive_New_1 xs else none
theorem ok_drive_New_1 (n : Nat) : SemOk Tryd.prog DW 56 (sem_drive_New_1 n) := fun xs y h => by
  unfold sem_drive_New_1 at h
  split at h
  · rename_i hl
    exact denF_ok stb Tryd.func56 (by kernel_rfl) (envOf_ok semsOk_nil) (by rw [Tryd.ntmps56]; exact hl) h
  · cases h
theorem eq_drive_New_1 (n : Nat) (x0 : V) : sem_drive_New_1 n [x0] =
 (lenS [x0]).bind fun v1 =>
 (bin2 Tryd.prog BinOp.gtr 3 (ot 4) (oc 200) v1 (vi 200)).bind fun v2 =>
 some v2 := by kernel_rfl
noncomputable def t_drive_New_1 (a0 : (List T_Op)) : Option Bool :=
 some (decide (200 < (List.length a0 : Int)))
theorem ty_drive_New_1 {n : Nat} (hn : bigN ≤ n) (a0 : (List T_Op)) : Rv (fun x : Bool => (vb x)) (sem_drive_New_1 n [(V.sl (List.map T_Op.c a0))]) (t_drive_New_1 a0) := by
  rw [eq_drive_New_1]
  unfold t_drive_New_1
  refine tb (x := (vi (List.length a0 : Int))) (p_len _) ?_
  refine tb (x := (vb (decide (200 < (List.length a0 : Int))))) (d_gtr) ?_
  exact rf_ret rfl

/-! railpoint/drive.New -/
def an_drive_New : Ann := .seq (.reg 0 [] [] []) (.seq (.blk none (.seq (.reg 0 [] [] []) (.cond none (.seq (.reg 0 [] [] []) (.no)) (.seq (.reg 0 [] [] []) (.cond none (.seq (.reg 0 [] [] []) (.no)) (.no)))))) (.seq (.reg 0 [] [] [1000030, 31]) (.seq (.seq (.reg 0 [] [1000000031, 1003000031] []) (.blk (some [.o 6]) (.loop [.o 6, .s 34] (.seq (.reg 0 [] [] []) (.seq (.cond none (.no) (.no)) (.seq (.blk (some [.o 6]) (.seq (.reg 0 [] [] []) (.seq (.seq (.reg 0 [] [] []) (.blk (some [.ko 6]) (.loop [.ko 6, .s 40] (.seq (.reg 0 [] [] []) (.seq (.cond none (.no) (.no)) (.seq (.blk none (.seq (.reg 0 [] [] []) (.seq (.seq (.reg 0 [] [] []) (.cond none (.seq (.reg 0 [] [] []) (.no)) (.no))) (.seq (.reg 0 [] [] []) (.seq (.reg 0 [] [] []) (.cond none (.seq (.reg 0 [] [] []) (.no)) (.no))))))) (.reg 0 [] [] []))))))) (.reg 8 [] [] [64, 68])))) (.reg 0 [] [] []))))))) (.seq (.reg 0 [] [] []) (.no)))))
noncomputable def sem_drive_New (n : Nat) (xs : List V) : Option V := if xs.length ≤ 73 then denM Tryd.prog (envOf [(55, (sem_slices_ContainsFunc_api_Round_api_Round (envOf [(56, (sem_drive_New_1 n))]) n)), (57, (sem_rule_Check n)), (58, (semClone 8)), (56, (sem_drive_New_1 n))]) n Tryd.f26 an_drive_New [0, 0] (some 0) xs else none
theorem ok_drive_New (n : Nat) : MSemOk Tryd.prog DW 26 (sem_drive_New n) := fun xs y h => by
  unfold sem_drive_New at h
  split at h
  · rename_i hl
    exact denM_ok Tryd.func26 (by kernel_rfl) (envOf_ok (semsOk_cons (ok_slices_ContainsFunc_api_Round_api_Round (envOf_ok (semsOk_cons (ok_drive_New_1 n) semsOk_nil)) n) (semsOk_cons (ok_rule_Check n) (semsOk_cons (sok_slices_Clone_api_Round_api_Op) (semsOk_cons (ok_drive_New_1 n) semsOk_nil))))) (by rw [Tryd.ntmps26]; exact hl) (by decide) h
  · cases h
theorem eq_drive_New (n : Nat) (x0 x1 : V) : sem_drive_New n [x0, x1] =
 (pureO x0).bind fun v1 =>
 (pureO x1).bind fun v2 =>
 (bin2 Tryd.prog BinOp.lss 3 (ot 13) (oc 1) x1 (vi 1)).bind fun v3 =>
 (guardV v3 false (some x1)).bind fun v4 =>
 (guardV v3 false ((bin2 Tryd.prog BinOp.gtr 3 (ot 16) (oc 100) v4 (vi 100)).bind fun v5 =>
 some v5)).bind fun v6 =>
 (pickV v3 (vb true) v6).bind fun v7 =>
 condV v7 (
 (scal1 Tryd.prog (Instr.makeInterface 87) (vi 1)).bind fun v8 =>
 (pureO (V.lit (Go.Value.pointer none))).bind fun v9 =>
 (pureO v8).bind fun v10 =>
 some (V.tup [V.tup [v9, v10], V.any, V.any])) (
 (lenS [x0]).bind fun v11 =>
 (bin2 Tryd.prog BinOp.gtr 3 (ot 22) (oc 20) v11 (vi 20)).bind fun v12 =>
 (guardV v12 false (some x0)).bind fun v13 =>
 (guardV v12 false (((sem_slices_ContainsFunc_api_Round_api_Round (envOf [(56, (sem_drive_New_1 n))]) n) [v13, (V.fn 56 [])]).bind fun v14 =>
 some v14)).bind fun v15 =>
 (pickV v12 (vb true) v15).bind fun v16 =>
 condV v16 (
 (scal1 Tryd.prog (Instr.makeInterface 87) (vi 4)).bind fun v17 =>
 (pureO (V.lit (Go.Value.pointer none))).bind fun v18 =>
 (pureO v17).bind fun v19 =>
 some (V.tup [V.tup [v18, v19], V.any, V.any])) (
 ((fillL [(V.lit (Go.Value.slice none 0 0)), (vi 0), (vi 0), (V.lit (Go.Value.slice none 0 0)), (vi 0)] [(1, 1, x1)]).map V.agg).bind fun v20 =>
 (V.cellsO v20).bind fun v21 =>
 (some (softX 1000000031 (V.obj v21))).bind fun v22 =>
 (some (softX 1003000031 v22)).bind fun v23 =>
 (lenS [x0]).bind fun v24 =>
 JoinPt (fun vs25 =>
 objK (List.getD vs25 0 V.any) fun l28 =>
 (pureO vn).bind fun v27 =>
 some (V.tup [V.tup [V.obj l28, v27], V.any, V.any])) fun J26 =>
 (fixN (fun rec29 vs30 =>
 (bin2 Tryd.prog BinOp.lss 3 (ot 34) (ot 33) (List.getD vs30 1 V.any) v24).bind fun v31 =>
 condV v31 (
 JoinPt (fun vs32 =>
 (bin2 Tryd.prog BinOp.add 3 (ot 34) (oc 1) (List.getD vs30 1 V.any) (vi 1)).bind fun v34 =>
 rec29 [(List.getD vs32 0 V.any), v34]) fun J33 =>
 (idxS 1 x0 (List.getD vs30 1 V.any)).bind fun v35 =>
 (ldp none v35).bind fun v36 =>
 (lenS [v36]).bind fun v37 =>
 JoinPt (fun vs38 =>
 (some V.any).bind fun v40 =>
 (some V.any).bind fun v41 =>
 ((nodeL (List.getD vs30 0 V.any) none 0).bind fun l42 => (l42[0]?).bind ownO).bind fun v43 =>
 ((semClone 8) [v36]).bind fun v44 =>
 (slcB 1 1 [(V.sl [])] [(0, v44)]).bind fun v45 =>
 (getV (List.getD vs30 0 V.any) [(Stp.mk none 0 0)]).bind fun v46 =>
 (modX (List.getD vs30 0 V.any) [] (Stp.mk none 0 0) V.any).bind fun v47 =>
 (appS 1 v46 v45).bind fun v48 =>
 (some V.any).bind fun v49 =>
 (some V.any).bind fun v50 =>
 (V.cellsO v48).bind fun v51 =>
 (setV v47 [] (Stp.mk none 0 0) 1 v51).bind fun v52 =>
 J33 [v52]) fun J39 =>
 (keepT (some (List.getD vs30 0 V.any)) (some (List.getD vs30 0 V.any)) (some [(vi 0)])).bind (fixN (fun rec53 vs54 =>
 (bin2 Tryd.prog BinOp.lss 3 (ot 40) (ot 39) (List.getD vs54 0 V.any) v37).bind fun v55 =>
 condV v55 (
 (idxS 8 v36 (List.getD vs54 0 V.any)).bind fun v56 =>
 (ldp (some 8) v56).bind fun v57 =>
 (spliceV [(vi 0), (vb false), (vi 0), (vi 0), (vi 0), (vi 0), (vi 0), (vi 0)] 0 8 v57).bind fun v58 =>
 (ldk none (List.drop 0 (aggL v58))).bind fun v59 =>
 (bin2 Tryd.prog BinOp.lss 3 (ot 45) (oc 1) v59 (vi 1)).bind fun v60 =>
 (guardV v60 false (some V.any)).bind fun v61 =>
 (guardV v60 false ((gate v60 false (ldk none (List.drop 0 (aggL v58)))).bind fun v62 =>
 some v62)).bind fun v63 =>
 (guardV v60 false ((bin2 Tryd.prog BinOp.gtr 3 (ot 49) (oc 6) v63 (vi 6)).bind fun v64 =>
 some v64)).bind fun v65 =>
 (pickV v60 (vb true) v65).bind fun v66 =>
 condV v66 (
 (scal1 Tryd.prog (Instr.makeInterface 87) (vi 1)).bind fun v67 =>
 (pureO (V.lit (Go.Value.pointer none))).bind fun v68 =>
 (pureO v67).bind fun v69 =>
 some (V.tup [V.tup [v68, v69], V.any, V.any])) (
 (ldk (some 6) (List.drop 2 (aggL v58))).bind fun v70 =>
 ((sem_rule_Check n) [v70]).bind fun v71 =>
 (bin2 Tryd.prog BinOp.neq 27 (ot 56) (Operand.const Go.Value.nilIface) v71 vn).bind fun v72 =>
 condV v72 (
 (pureO (V.lit (Go.Value.pointer none))).bind fun v73 =>
 (pureO v71).bind fun v74 =>
 some (V.tup [V.tup [v73, v74], V.any, V.any])) (
 (bin2 Tryd.prog BinOp.add 3 (ot 40) (oc 1) (List.getD vs54 0 V.any) (vi 1)).bind fun v75 =>
 (keepT (some (List.getD vs30 0 V.any)) (some (List.getD vs30 0 V.any)) (some [v75])).bind rec53))) (
 (keepT (some (List.getD vs30 0 V.any)) (some (List.getD vs30 0 V.any)) (some [])).bind J39)) n)) (
 J26 [(List.getD vs30 0 V.any)])) n) [v23, (vi 0)])) := by kernel_rfl
noncomputable def t_drive_New (a0 : (List (List T_Op))) (a1 : Int) : Option ((Option T_drive_Drive) × Int) :=
 if ((decide (a1 < 1)) || (decide (100 < a1))) = true then (
 some (none, 1)) else (
 (gd (!(decide (20 < (List.length a0 : Int)))) default (t_slices_ContainsFunc_api_Round_api_Round a0 (fun (a17 : (List T_Op)) => t_drive_New_1 a17 ))).bind fun r20 =>
 if ((decide (20 < (List.length a0 : Int))) || r20) = true then (
 some (none, 4)) else (
 join (fun (s29 : T_drive_Drive) =>
 some ((some s29), 0)) fun j30 =>
 loopI a0 (fun (i38 : Int) x39 (s34 : T_drive_Drive) k35 =>
 join (fun (s46 : T_drive_Drive) =>
 k35 (s46)) fun j47 =>
 join (fun (s55 : Unit) =>
 (cln x39).bind fun r62 =>
 (oapp s34.rounds ([r62] : (List (List T_Op)))).bind fun r64 =>
 j47 (T_drive_Drive.mk r64 s34.wait s34.said s34.left s34.ticks)) fun j56 =>
 loopI x39 (fun (i75 : Int) x76 (s71 : Unit) k72 =>
 if ((decide (x76.Switch < 1)) || (decide (6 < x76.Switch))) = true then (
 some (none, 1)) else (
 (t_rule_Check x76.Rule).bind fun r99 =>
 if (!decide (r99 = 0)) = true then (
 some (none, r99)) else (
 k72 ()))) (fun (s71 : Unit) =>
 j56 ()) ()) (fun (s34 : T_drive_Drive) =>
 j30 (s34)) (T_drive_Drive.mk [] a1 0 [] 0)))
theorem ty_drive_New {n : Nat} (hn : bigN ≤ n) (a0 : (List (List T_Op))) (a1 : Int) : Rv (fun x : ((Option T_drive_Drive) × Int) => (V.tup [(V.tup [(pO (fun x : T_drive_Drive => [(V.osl 1 (List.map (cS T_Op.c) x.rounds)), (vi x.wait), (vi x.said), (V.osl 1 (List.map cI x.left)), (vi x.ticks)]) x.1), (eV x.2)]), V.any, V.any])) (sem_drive_New n [(V.sl (List.map (cS T_Op.c) a0)), (vi a1)]) (t_drive_New a0 a1) := by
  rw [eq_drive_New]
  unfold t_drive_New
  refine tb (x := (V.sl (List.map (cS T_Op.c) a0))) rfl ?_
  refine tb (x := (vi a1)) rfl ?_
  refine tb (x := (vb (decide (a1 < 1)))) (d_lss) ?_
  refine tg_f (x := (vi a1)) (fun h4 => rfl) ?_
  refine tg_f (x := (vb (decide (100 < a1)))) (fun h6 => by simp only [gv_t h6]; exact bind_some_eq (d_gtr)) ?_
  refine tb (x := (vb ((decide (a1 < 1)) || (decide (100 < a1))))) (pick_or (fun h9 => gv_t (not_f h9))) ?_
  refine tcond (fun h10 => ?_) (fun h10 => ?_)
  · refine tb (x := (eV 1)) (p_mkE (by decide)) ?_
    refine tb (x := (V.lit (.pointer none))) rfl ?_
    refine tb (x := (eV 1)) rfl ?_
    exact rf_ret rfl
  · refine tb (x := (vi (List.length a0 : Int))) (p_len _) ?_
    refine tb (x := (vb (decide (20 < (List.length a0 : Int))))) (d_gtr) ?_
    refine tg_f (x := (V.sl (List.map (cS T_Op.c) a0))) (fun h14 => rfl) ?_
    refine tgo_f (fun h16 => by simp only [gv_t h16]; exact rf_bind_some (ty_slices_ContainsFunc_api_Round_api_Round (E := (envOf [(56, (sem_drive_New_1 n))])) (x1 := (V.fn 56 [])) (g1 := (fun (a17 : (List T_Op)) => t_drive_New_1 a17 )) hn a0 (fun a17 => ty_drive_New_1 hn a17 ))) fun r20 => ?_
    refine tb (x := (vb ((decide (20 < (List.length a0 : Int))) || r20))) (pick_or (fun h9 => gv_t (not_f h9))) ?_
    refine tcond (fun h22 => ?_) (fun h22 => ?_)
    · refine tb (x := (eV 4)) (p_mkE (by decide)) ?_
      refine tb (x := (V.lit (.pointer none))) rfl ?_
      refine tb (x := (eV 4)) rfl ?_
      exact rf_ret rfl
    · refine tb (x := (V.agg [(V.lit (Go.Value.slice none 0 0)), (vi a1), (vi 0), (V.lit (Go.Value.slice none 0 0)), (vi 0)])) (by kernel_rfl) ?_
      refine tb (x := [(V.lit (Go.Value.slice none 0 0)), (vi a1), (vi 0), (V.lit (Go.Value.slice none 0 0)), (vi 0)]) rfl ?_
      refine tb (x := (V.obj [(V.osl 1 (List.map (cS T_Op.c) ([] : (List (List T_Op))))), (vi a1), (vi 0), (V.lit (Go.Value.slice none 0 0)), (vi 0)])) (by kernel_rfl) ?_
      refine tb (x := (V.obj [(V.osl 1 (List.map (cS T_Op.c) ([] : (List (List T_Op))))), (vi a1), (vi 0), (V.osl 1 (List.map cI ([] : (List Int)))), (vi 0)])) (by kernel_rfl) ?_
      refine tb (x := (vi (List.length a0 : Int))) (p_len _) ?_
      refine tjoin (mk := fun s29 : T_drive_Drive => [(V.obj [(V.osl 1 (List.map (cS T_Op.c) s29.rounds)), (vi s29.wait), (vi s29.said), (V.osl 1 (List.map cI s29.left)), (vi s29.ticks)])]) (fun s29 => ?_) fun J28 j30 h31 => ?_
      · refine tobjK ?_
        refine tb (x := (eV 0)) rfl ?_
        exact rf_ret rfl
      · refine rf_loopI (mk := fun (i38 : Int) (s34 : T_drive_Drive) => [(V.obj [(V.osl 1 (List.map (cS T_Op.c) s34.rounds)), (vi s34.wait), (vi s34.said), (V.osl 1 (List.map cI s34.left)), (vi s34.ticks)]), (vi (i38 : Int))]) hn a0 (T_drive_Drive.mk [] a1 0 [] 0) (fun i38 x39 h40 h41 h42 s34 rec32 k35 h36 => ?_) (fun s34 rec107 h106 => ?_)
        · refine tb (x := (vb (decide ((i38 : Int) < (List.length a0 : Int))))) (d_lss) ?_
          refine tcond_t h42 ?_
          refine tjoin (mk := fun s46 : T_drive_Drive => [(V.obj [(V.osl 1 (List.map (cS T_Op.c) s46.rounds)), (vi s46.wait), (vi s46.said), (V.osl 1 (List.map cI s46.left)), (vi s46.ticks)])]) (fun s46 => ?_) fun J45 j47 h48 => ?_
          · refine tb (x := (vi ((i38 : Int) + 1))) (p_incN h41) ?_
            exact h36 (s46)
          · refine tb (x := (V.ptr [(V.sl (List.map T_Op.c x39))])) (p_idx_at (c := (cS T_Op.c)) (fun _ => rfl) h40) ?_
            refine tb (x := (V.sl (List.map T_Op.c x39))) (rfl) ?_
            refine tb (x := (vi (List.length x39 : Int))) (p_len _) ?_
            refine tjoin (mk := fun s55 : Unit => []) (fun s55 => ?_) fun J54 j56 h57 => ?_
            · refine tb (x := V.any) rfl ?_
              refine tb (x := V.any) rfl ?_
              refine tb (x := V.any) rfl ?_
              refine tbo (p_clone (c := T_Op.c) (fun _ => rfl) x39) fun r62 => ?_
              refine tb (x := (V.sl (List.map (cS T_Op.c) ([r62] : (List (List T_Op)))))) (by kernel_rfl) ?_
              refine tb (x := (V.osl 1 (List.map (cS T_Op.c) s34.rounds))) rfl ?_
              refine tb (x := (V.obj [V.any, (vi s34.wait), (vi s34.said), (V.osl 1 (List.map cI s34.left)), (vi s34.ticks)])) (by kernel_rfl) ?_
              refine tbo (p_oapp (c := (cS T_Op.c)) (fun _ => rfl) s34.rounds ([r62] : (List (List T_Op)))) fun r64 => ?_
              refine tb (x := V.any) rfl ?_
              refine tb (x := V.any) rfl ?_
              refine tb (x := [(V.osl 1 (List.map (cS T_Op.c) r64))]) rfl ?_
              refine tb (x := (V.obj [(V.osl 1 (List.map (cS T_Op.c) r64)), (vi s34.wait), (vi s34.said), (V.osl 1 (List.map cI s34.left)), (vi s34.ticks)])) (by kernel_rfl) ?_
              exact h48 (T_drive_Drive.mk r64 s34.wait s34.said s34.left s34.ticks)
            · refine tkeepT2 ?_ rfl
              refine tsome ?_
              refine rf_loopI (mk := fun (i75 : Int) (s71 : Unit) => [(vi (i75 : Int))]) hn x39 () (fun i75 x76 h77 h78 h79 s71 rec69 k72 h73 => ?_) (fun s71 rec104 h103 => ?_)
              · refine tb (x := (vb (decide ((i75 : Int) < (List.length x39 : Int))))) (d_lss) ?_
                refine tcond_t h79 ?_
                refine tb (x := (V.ptr (T_Op.c x76))) (p_idx_at (c := T_Op.c) (fun _ => rfl) h77) ?_
                refine tb (x := (T_Op.e x76)) (rfl) ?_
                refine tb (x := V.agg (T_Op.c x76)) (by kernel_rfl) ?_
                refine tb (x := (vi x76.Switch)) (rfl) ?_
                refine tb (x := (vb (decide (x76.Switch < 1)))) (d_lss) ?_
                refine tg_f (x := V.any) (fun h86 => rfl) ?_
                refine tg_f (x := (vi x76.Switch)) (fun h88 => bind_some_eq (gate_pos (not_t h88) (rfl))) ?_
                refine tg_f (x := (vb (decide (6 < x76.Switch)))) (fun h91 => by simp only [gv_t h91]; exact bind_some_eq (d_gtr)) ?_
                refine tb (x := (vb ((decide (x76.Switch < 1)) || (decide (6 < x76.Switch))))) (pick_or (fun h9 => gv_t (not_f h9))) ?_
                refine tcond (fun h95 => ?_) (fun h95 => ?_)
                · refine tb (x := (eV 1)) (p_mkE (by decide)) ?_
                  refine tb (x := (V.lit (.pointer none))) rfl ?_
                  refine tb (x := (eV 1)) rfl ?_
                  exact rf_ret rfl
                · refine tb (x := (T_Rule.e x76.Rule)) (rfl) ?_
                  refine tbo (ty_rule_Check hn x76.Rule) fun r99 => ?_
                  refine tb (x := (vb (!decide (r99 = 0)))) (p_err_neq _) ?_
                  refine tcond (fun h101 => ?_) (fun h101 => ?_)
                  · refine tb (x := (V.lit (.pointer none))) rfl ?_
                    refine tb (x := (eV r99)) rfl ?_
                    exact rf_ret rfl
                  · refine tb (x := (vi ((i75 : Int) + 1))) (p_incN h78) ?_
                    refine tkeepT2 ?_ rfl
                    refine tsome ?_
                    exact h73 ()
              · refine tb (x := (vb (decide ((List.length x39 : Int) < (List.length x39 : Int))))) (d_lss) ?_
                refine tcond_f h103 ?_
                refine tkeepT2 ?_ rfl
                refine tsome ?_
                exact h57 ()
        · refine tb (x := (vb (decide ((List.length a0 : Int) < (List.length a0 : Int))))) (d_lss) ?_
          refine tcond_f h106 ?_
          exact h31 (s34)

/-!   railpoint/railref2.Drive .May -/
def an_railref2_Drive_May : Ann := .seq (.reg 0 [] [] []) (.seq (.reg 19 [] [] []) (.no))
noncomputable def sem_railref2_Drive_May (n : Nat) (xs : List V) : Option V := if xs.length ≤ 21 then denF Tryd.prog (envOf []) n Tryd.f64 an_railref2_Drive_May xs else none
theorem ok_railref2_Drive_May (n : Nat) : SemOk Tryd.prog DW 64 (sem_railref2_Drive_May n) := fun xs y h => by
  unfold sem_railref2_Drive_May at h
  split at h
  · rename_i hl
    exact denF_ok stb Tryd.func64 (by kernel_rfl) (envOf_ok semsOk_nil) (by rw [Tryd.ntmps64]; exact hl) h
  · cases h
theorem eq_railref2_Drive_May (n : Nat) (x0 : V) : sem_railref2_Drive_May n [x0] =
 (ptrF 0 x0).bind fun v1 =>
 (ptrF 3 v1).bind fun v2 =>
 (ldp none v2).bind fun v3 =>
 (lenS [v3]).bind fun v4 =>
 (bin2 Tryd.prog BinOp.eql 3 (ot 7) (oc 0) v4 (vi 0)).bind fun v5 =>
 (guardV v5 true (some x0)).bind fun v6 =>
 (guardV v5 true ((ptrF 0 v6).bind fun v7 =>
 some v7)).bind fun v8 =>
 (guardV v5 true ((ptrF 2 v8).bind fun v9 =>
 some v9)).bind fun v10 =>
 (guardV v5 true ((ldp none v10).bind fun v11 =>
 some v11)).bind fun v12 =>
 (guardV v5 true (some x0)).bind fun v13 =>
 (guardV v5 true ((ptrF 0 v13).bind fun v14 =>
 some v14)).bind fun v15 =>
 (guardV v5 true ((ptrF 0 v15).bind fun v16 =>
 some v16)).bind fun v17 =>
 (guardV v5 true ((ldp none v17).bind fun v18 =>
 some v18)).bind fun v19 =>
 (guardV v5 true ((lenS [v19]).bind fun v20 =>
 some v20)).bind fun v21 =>
 (guardV v5 true ((bin2 Tryd.prog BinOp.lss 3 (ot 13) (ot 18) v12 v21).bind fun v22 =>
 some v22)).bind fun v23 =>
 (pickV v5 v23 (vb false)).bind fun v24 =>
 some v24 := by kernel_rfl
noncomputable def t_railref2_Drive_May (a0 : T_railref2_Drive) : Option Bool :=
 some ((decide ((List.length a0.Left : Int) = 0)) && (decide (a0.Said < (List.length a0.Rounds : Int))))
theorem ty_railref2_Drive_May {n : Nat} (hn : bigN ≤ n) (a0 : T_railref2_Drive) : Rv (fun x : Bool => (vb x)) (sem_railref2_Drive_May n [(V.ptr (T_railref2_Drive.c a0))]) (t_railref2_Drive_May a0) := by
  rw [eq_railref2_Drive_May]
  unfold t_railref2_Drive_May
  refine tb (x := (V.ptr (T_railref2_Drive.c a0))) (rfl) ?_
  refine tb (x := (V.ptr (List.drop 3 (T_railref2_Drive.c a0)))) (rfl) ?_
  refine tb (x := (V.sl (List.map cI a0.Left))) (rfl) ?_
  refine tb (x := (vi (List.length a0.Left : Int))) (p_len _) ?_
  refine tb (x := (vb (decide ((List.length a0.Left : Int) = 0)))) (d_eql) ?_
  refine tg (x := (V.ptr (T_railref2_Drive.c a0))) (fun h6 => rfl) ?_
  refine tg (x := (V.ptr (T_railref2_Drive.c a0))) (fun h8 => by first | exact bind_some_eq (rfl) | (simp only [gv_t h8]; exact bind_some_eq (rfl))) ?_
  refine tg (x := (V.ptr (List.drop 2 (T_railref2_Drive.c a0)))) (fun h11 => by first | exact bind_some_eq (rfl) | (simp only [gv_t h11]; exact bind_some_eq (rfl))) ?_
  refine tg (x := (vi a0.Said)) (fun h14 => by first | exact bind_some_eq (rfl) | (simp only [gv_t h14]; exact bind_some_eq (rfl))) ?_
  refine tg (x := (V.ptr (T_railref2_Drive.c a0))) (fun h17 => rfl) ?_
  refine tg (x := (V.ptr (T_railref2_Drive.c a0))) (fun h19 => by first | exact bind_some_eq (rfl) | (simp only [gv_t h19]; exact bind_some_eq (rfl))) ?_
  refine tg (x := (V.ptr (T_railref2_Drive.c a0))) (fun h22 => by first | exact bind_some_eq (rfl) | (simp only [gv_t h22]; exact bind_some_eq (rfl))) ?_
  refine tg (x := (V.sl (List.map (cS T_Op.c) a0.Rounds))) (fun h25 => by first | exact bind_some_eq (rfl) | (simp only [gv_t h25]; exact bind_some_eq (rfl))) ?_
  refine tg (x := (vi (List.length a0.Rounds : Int))) (fun h28 => by simp only [gv_t h28]; exact bind_some_eq (p_len _)) ?_
  refine tg (x := (vb (decide (a0.Said < (List.length a0.Rounds : Int))))) (fun h31 => by simp only [gv_t h31]; exact bind_some_eq (d_lss)) ?_
  refine tb (x := (vb ((decide ((List.length a0.Left : Int) = 0)) && (decide (a0.Said < (List.length a0.Rounds : Int)))))) (pick_and (fun h9 => gv_t h9)) ?_
  exact rf_ret rfl

/-! railpoint/railref2.Touched -/
def an_railref2_Touched : Ann := .seq (.reg 0 [] [] []) (.seq (.reg 0 [] [] []) (.seq (.seq (.reg 0 [] [] []) (.blk (some [.s 3]) (.loop [.s 3, .s 4] (.seq (.seq (.reg 0 [] [] []) (.cond none (.no) (.no))) (.seq (.blk (some [.s 3]) (.seq (.reg 0 [] [] []) (.seq (.blk (some [.s 3, .s 5]) (.loop [.s 3, .s 5] (.seq (.seq (.reg 15 [] [] []) (.cond none (.no) (.no))) (.blk none (.reg 0 [] [] []))))) (.seq (.seq (.reg 15 [] [] []) (.cond none (.no) (.no))) (.seq (.reg 0 [] [] []) (.seq (.reg 0 [] [] []) (.seq (.reg 0 [] [] []) (.reg 0 [] [] [])))))))) (.reg 0 [] [] [])))))) (.seq (.reg 0 [] [] []) (.no))))
noncomputable def sem_railref2_Touched (n : Nat) (xs : List V) : Option V := if xs.length ≤ 66 then denF Tryd.prog (envOf []) n Tryd.f65 an_railref2_Touched xs else none
theorem ok_railref2_Touched (n : Nat) : SemOk Tryd.prog DW 65 (sem_railref2_Touched n) := fun xs y h => by
  unfold sem_railref2_Touched at h
  split at h
  · rename_i hl
    exact denF_ok stb Tryd.func65 (by kernel_rfl) (envOf_ok semsOk_nil) (by rw [Tryd.ntmps65]; exact hl) h
  · cases h
theorem eq_railref2_Touched (n : Nat) (x0 : V) : sem_railref2_Touched n [x0] =
 JoinPt (fun vs1 =>
 some (List.getD vs1 0 V.any)) fun J2 =>
 (fixN (fun rec3 vs4 =>
 (lenS [x0]).bind fun v5 =>
 (bin2 Tryd.prog BinOp.lss 3 (ot 7) (ot 9) (List.getD vs4 1 V.any) v5).bind fun v6 =>
 condV v6 (
 JoinPt (fun vs7 =>
 (bin2 Tryd.prog BinOp.add 3 (ot 11) (oc 1) (List.getD vs4 1 V.any) (vi 1)).bind fun v9 =>
 rec3 [(List.getD vs7 0 V.any), v9]) fun J8 =>
 (lenS [(List.getD vs4 0 V.any)]).bind fun v10 =>
 JoinPt (fun vs11 =>
 (bin2 Tryd.prog BinOp.gtr 3 (ot 32) (oc 0) (List.getD vs11 1 V.any) (vi 0)).bind fun v13 =>
 (guardV v13 true (some (List.getD vs11 0 V.any))).bind fun v14 =>
 (guardV v13 true (some (List.getD vs11 1 V.any))).bind fun v15 =>
 (guardV v13 true ((bin2 Tryd.prog BinOp.sub 3 (ot 36) (oc 1) v15 (vi 1)).bind fun v16 =>
 some v16)).bind fun v17 =>
 (guardV v13 true ((idxS 1 v14 v17).bind fun v18 =>
 some v18)).bind fun v19 =>
 (guardV v13 true ((ldp none v19).bind fun v20 =>
 some v20)).bind fun v21 =>
 (guardV v13 true (some x0)).bind fun v22 =>
 (guardV v13 true (some (List.getD vs4 1 V.any))).bind fun v23 =>
 (guardV v13 true ((idxS 8 v22 v23).bind fun v24 =>
 some v24)).bind fun v25 =>
 (guardV v13 true ((ptrF 0 v25).bind fun v26 =>
 some v26)).bind fun v27 =>
 (guardV v13 true ((ldp none v27).bind fun v28 =>
 some v28)).bind fun v29 =>
 (guardV v13 true ((bin2 Tryd.prog BinOp.eql 3 (ot 39) (ot 44) v21 v29).bind fun v30 =>
 some v30)).bind fun v31 =>
 (pickV v13 v31 (vb false)).bind fun v32 =>
 condV v32 (
 J8 [(List.getD vs11 0 V.any)]) (
 (slc (some 1) (List.getD vs11 0 V.any) none (some (List.getD vs11 1 V.any))).bind fun v33 =>
 (appV 1 [] v33).bind fun v34 =>
 (idxS 8 x0 (List.getD vs4 1 V.any)).bind fun v35 =>
 (ptrF 0 v35).bind fun v36 =>
 (ldp none v36).bind fun v37 =>
 (slcB 1 1 [(vi 0)] [(0, v37)]).bind fun v38 =>
 (appV 1 (slL v34) v38).bind fun v39 =>
 (slc (some 1) (List.getD vs11 0 V.any) (some (List.getD vs11 1 V.any)) none).bind fun v40 =>
 (appV 1 (slL v39) v40).bind fun v41 =>
 J8 [(V.sl (slL v41))])) fun J12 =>
 (fixN (fun rec42 vs43 =>
 (bin2 Tryd.prog BinOp.gtr 3 (ot 15) (oc 0) (List.getD vs43 1 V.any) (vi 0)).bind fun v44 =>
 (guardV v44 true (some (List.getD vs43 0 V.any))).bind fun v45 =>
 (guardV v44 true (some (List.getD vs43 1 V.any))).bind fun v46 =>
 (guardV v44 true ((bin2 Tryd.prog BinOp.sub 3 (ot 19) (oc 1) v46 (vi 1)).bind fun v47 =>
 some v47)).bind fun v48 =>
 (guardV v44 true ((idxS 1 v45 v48).bind fun v49 =>
 some v49)).bind fun v50 =>
 (guardV v44 true ((ldp none v50).bind fun v51 =>
 some v51)).bind fun v52 =>
 (guardV v44 true (some x0)).bind fun v53 =>
 (guardV v44 true (some (List.getD vs4 1 V.any))).bind fun v54 =>
 (guardV v44 true ((idxS 8 v53 v54).bind fun v55 =>
 some v55)).bind fun v56 =>
 (guardV v44 true ((ptrF 0 v56).bind fun v57 =>
 some v57)).bind fun v58 =>
 (guardV v44 true ((ldp none v58).bind fun v59 =>
 some v59)).bind fun v60 =>
 (guardV v44 true ((bin2 Tryd.prog BinOp.gtr 3 (ot 22) (ot 27) v52 v60).bind fun v61 =>
 some v61)).bind fun v62 =>
 (pickV v44 v62 (vb false)).bind fun v63 =>
 condV v63 (
 (bin2 Tryd.prog BinOp.sub 3 (ot 30) (oc 1) (List.getD vs43 1 V.any) (vi 1)).bind fun v64 =>
 rec42 [(List.getD vs43 0 V.any), v64]) (
 J12 [(List.getD vs43 0 V.any), (List.getD vs43 1 V.any)])) n) [(List.getD vs4 0 V.any), v10]) (
 J2 [(List.getD vs4 0 V.any)])) n) [(V.sl []), (vi 0)] := by kernel_rfl
noncomputable def t_railref2_Touched (a0 : (List T_Op)) : Option (List Int) :=
 (loopI a0 (fun (i12 : Int) x13 (s8 : (List Int)) k9 =>
 ((tfix (fun k81 (s80 : Int) =>
 (gd (decide (0 < s80)) default (idx s8 (wr (s80 - 1)))).bind fun r96 =>
 if ((decide (0 < s80)) && (decide (x13.Switch < r96))) = true then (
 k81 (wr (s80 - 1))) else (
 some (s8, s80))) bigN (List.length s8 : Int)).bind fun (s28 : ((List Int) × Int)) =>
 (gd (decide (0 < s28.2)) default (idx s28.1 (wr (s28.2 - 1)))).bind fun r42 =>
 if ((decide (0 < s28.2)) && (decide (r42 = x13.Switch))) = true then (
 some (s28.1)) else (
 (slc_hi s28.1 s28.2).bind fun r65 =>
 (app ([] : (List Int)) r65).bind fun r67 =>
 (app r67 ([x13.Switch] : (List Int))).bind fun r73 =>
 (slc_lo s28.1 s28.2).bind fun r75 =>
 (app r73 r75).bind fun r77 =>
 some (r77))).bind fun (s21 : (List Int)) =>
 k9 (s21)) (fun (s8 : (List Int)) =>
 some (s8)) ([])).bind fun (s3 : (List Int)) =>
 some s3
theorem ty_railref2_Touched {n : Nat} (hn : bigN ≤ n) (a0 : (List T_Op)) : Rv (fun x : (List Int) => (V.sl (List.map cI x))) (sem_railref2_Touched n [(V.sl (List.map T_Op.c a0))]) (t_railref2_Touched a0) := by
  rw [eq_railref2_Touched]
  unfold t_railref2_Touched
  refine tjb (mk := fun s3 : (List Int) => [(V.sl (List.map cI s3))]) (fun J2 => ?_) fun s3 => ?_
  · refine rf_loopI (mk := fun (i12 : Int) (s8 : (List Int)) => [(V.sl (List.map cI s8)), (vi (i12 : Int))]) hn a0 ([]) (fun i12 x13 h14 h15 h16 s8 rec6 k9 h10 => ?_) (fun s8 rec120 h119 => ?_)
    · refine tb (x := (vi (List.length a0 : Int))) (p_len _) ?_
      refine tb (x := (vb (decide ((i12 : Int) < (List.length a0 : Int))))) (d_lss) ?_
      refine tcond_t h16 ?_
      refine tjb (mk := fun s21 : (List Int) => [(V.sl (List.map cI s21))]) (fun J20 => ?_) fun s21 => ?_
      · refine tb (x := (vi (List.length s8 : Int))) (p_len _) ?_
        refine tjb (mk := fun s28 : ((List Int) × Int) => [(V.sl (List.map cI s28.1)), (vi s28.2)]) (fun J27 => ?_) fun s28 => ?_
        · refine rf_fixN (mk := fun (s80 : Int) => [(V.sl (List.map cI s8)), (vi s80)]) hn (List.length s8 : Int) (fun rec78 k81 h82 s80 => ?_)
          refine tb (x := (vb (decide (0 < s80)))) (d_gtr) ?_
          refine tg (x := (V.sl (List.map cI s8))) (fun h86 => rfl) ?_
          refine tg (x := (vi s80)) (fun h88 => rfl) ?_
          refine tg (x := (vi (wr (s80 - 1)))) (fun h90 => by simp only [gv_t h90]; exact bind_some_eq (d_sub)) ?_
          refine tgo (fun h93 => by simp only [gv_t h93]; exact rf_bind_some (p_idx (c := cI) (fun _ => rfl) s8 (wr (s80 - 1)))) fun r96 => ?_
          refine tg (x := (vi r96)) (fun h97 => by first | exact bind_some_eq (rfl) | (simp only [gv_t h97]; exact bind_some_eq (rfl))) ?_
          refine tg (x := (V.sl (List.map T_Op.c a0))) (fun h100 => rfl) ?_
          refine tg (x := (vi (i12 : Int))) (fun h102 => rfl) ?_
          refine tg (x := (V.ptr (T_Op.c x13))) (fun h104 => by simp only [gv_t h104]; exact bind_some_eq (p_idx_at (c := T_Op.c) (fun _ => rfl) h14)) ?_
          refine tg (x := (V.ptr (T_Op.c x13))) (fun h107 => by first | exact bind_some_eq (rfl) | (simp only [gv_t h107]; exact bind_some_eq (rfl))) ?_
          refine tg (x := (vi x13.Switch)) (fun h110 => by first | exact bind_some_eq (rfl) | (simp only [gv_t h110]; exact bind_some_eq (rfl))) ?_
          refine tg (x := (vb (decide (x13.Switch < r96)))) (fun h113 => by simp only [gv_t h113]; exact bind_some_eq (d_gtr)) ?_
          refine tb (x := (vb ((decide (0 < s80)) && (decide (x13.Switch < r96))))) (pick_and (fun h9 => gv_t h9)) ?_
          refine tcond (fun h117 => ?_) (fun h117 => ?_)
          · refine tb (x := (vi (wr (s80 - 1)))) (d_sub) ?_
            exact h82 (wr (s80 - 1))
          · exact rf_j rfl
        · refine tb (x := (vb (decide (0 < s28.2)))) (d_gtr) ?_
          refine tg (x := (V.sl (List.map cI s28.1))) (fun h32 => rfl) ?_
          refine tg (x := (vi s28.2)) (fun h34 => rfl) ?_
          refine tg (x := (vi (wr (s28.2 - 1)))) (fun h36 => by simp only [gv_t h36]; exact bind_some_eq (d_sub)) ?_
          refine tgo (fun h39 => by simp only [gv_t h39]; exact rf_bind_some (p_idx (c := cI) (fun _ => rfl) s28.1 (wr (s28.2 - 1)))) fun r42 => ?_
          refine tg (x := (vi r42)) (fun h43 => by first | exact bind_some_eq (rfl) | (simp only [gv_t h43]; exact bind_some_eq (rfl))) ?_
          refine tg (x := (V.sl (List.map T_Op.c a0))) (fun h46 => rfl) ?_
          refine tg (x := (vi (i12 : Int))) (fun h48 => rfl) ?_
          refine tg (x := (V.ptr (T_Op.c x13))) (fun h50 => by simp only [gv_t h50]; exact bind_some_eq (p_idx_at (c := T_Op.c) (fun _ => rfl) h14)) ?_
          refine tg (x := (V.ptr (T_Op.c x13))) (fun h53 => by first | exact bind_some_eq (rfl) | (simp only [gv_t h53]; exact bind_some_eq (rfl))) ?_
          refine tg (x := (vi x13.Switch)) (fun h56 => by first | exact bind_some_eq (rfl) | (simp only [gv_t h56]; exact bind_some_eq (rfl))) ?_
          refine tg (x := (vb (decide (r42 = x13.Switch)))) (fun h59 => by simp only [gv_t h59]; exact bind_some_eq (d_eql)) ?_
          refine tb (x := (vb ((decide (0 < s28.2)) && (decide (r42 = x13.Switch))))) (pick_and (fun h9 => gv_t h9)) ?_
          refine tcond (fun h63 => ?_) (fun h63 => ?_)
          · exact rf_j rfl
          · refine tbo (p_slc_hi (c := cI) (fun _ => rfl) s28.1 s28.2) fun r65 => ?_
            refine tbo (p_app (c := cI) (fun _ => rfl) ([] : (List Int)) r65) fun r67 => ?_
            refine tb (x := (V.ptr (T_Op.c x13))) (p_idx_at (c := T_Op.c) (fun _ => rfl) h14) ?_
            refine tb (x := (V.ptr (T_Op.c x13))) (rfl) ?_
            refine tb (x := (vi x13.Switch)) (rfl) ?_
            refine tb (x := (V.sl (List.map cI ([x13.Switch] : (List Int))))) (by kernel_rfl) ?_
            refine tbo (p_app (c := cI) (fun _ => rfl) r67 ([x13.Switch] : (List Int))) fun r73 => ?_
            refine tbo (p_slc_lo (c := cI) (fun _ => rfl) s28.1 s28.2) fun r75 => ?_
            refine tbo (p_app (c := cI) (fun _ => rfl) r73 r75) fun r77 => ?_
            exact rf_j rfl
      · refine tb (x := (vi ((i12 : Int) + 1))) (p_incN h15) ?_
        exact h10 (s21)
    · refine tb (x := (vi (List.length a0 : Int))) (p_len _) ?_
      refine tb (x := (vb (decide ((List.length a0 : Int) < (List.length a0 : Int))))) (d_lss) ?_
      refine tcond_f h119 ?_
      exact rf_j rfl
  · exact rf_ret rfl

/-!   railpoint/railref2.Drive .say -/
def an_railref2_Drive_say : Ann := .seq (.reg 0 [] [] []) (.seq (.reg 0 [] [] []) (.seq (.reg 0 [] [] []) (.seq (.seq (.reg 0 [] [] []) (.blk (some [.r 3 39]) (.loop [.r 3 39, .s 5] (.seq (.seq (.reg 0 [] [] []) (.cond none (.no) (.no))) (.seq (.blk (some [.r 3 39]) (.seq (.reg 0 [] [] []) (.seq (.reg 0 [] [] []) (.seq (.seq (.reg 0 [] [] []) (.blk (some [.r 3 39, .s 7]) (.loop [.r 3 39, .s 7, .s 8] (.seq (.seq (.reg 0 [] [] []) (.cond none (.no) (.no))) (.seq (.blk none (.seq (.reg 0 [] [] []) (.seq (.reg 0 [] [] []) (.cond (some [.r 3 39, .s 7]) (.seq (.reg 0 [] [] []) (.reg 0 [] [] [])) (.no))))) (.reg 0 [] [] [])))))) (.reg 0 [] [] []))))) (.reg 0 [] [] [])))))) (.seq (.reg 0 [] [] []) (.no)))))
noncomputable def sem_railref2_Drive_say (n : Nat) (xs : List V) : Option V := if xs.length ≤ 75 then denFR Tryd.prog (envOf []) n Tryd.f66 an_railref2_Drive_say 39 xs else none
theorem ok_railref2_Drive_say (n : Nat) : RSemOk Tryd.prog DW 66 39 (sem_railref2_Drive_say n) := fun xs y h => by
  unfold sem_railref2_Drive_say at h
  split at h
  · rename_i hl
    exact denFR_ok stb Tryd.func66 (by kernel_rfl) (envOf_ok semsOk_nil) (by rw [Tryd.ntmps66]; exact hl) h
  · cases h
theorem eq_railref2_Drive_say (n : Nat) (x0 : V) : sem_railref2_Drive_say n [x0] =
 (ptrF 0 x0).bind fun v1 =>
 (ptrF 2 v1).bind fun v2 =>
 (ldp none v2).bind fun v3 =>
 (bin2 Tryd.prog BinOp.sub 3 (ot 13) (oc 1) v3 (vi 1)).bind fun v4 =>
 JoinPt (fun vs5 =>
 some (V.sl (slL (List.getD vs5 0 V.any)))) fun J6 =>
 (fixN (fun rec7 vs8 =>
 (ptrF 0 x0).bind fun v9 =>
 (ptrF 3 v9).bind fun v10 =>
 (ldp none v10).bind fun v11 =>
 (lenS [v11]).bind fun v12 =>
 (bin2 Tryd.prog BinOp.lss 3 (ot 15) (ot 20) (List.getD vs8 1 V.any) v12).bind fun v13 =>
 condV v13 (
 JoinPt (fun vs14 =>
 (bin2 Tryd.prog BinOp.add 3 (ot 22) (oc 1) (List.getD vs8 1 V.any) (vi 1)).bind fun v16 =>
 rec7 [(V.sl (slL (List.getD vs14 0 V.any))), v16]) fun J15 =>
 (ptrF 0 x0).bind fun v17 =>
 (ptrF 3 v17).bind fun v18 =>
 (ldp none v18).bind fun v19 =>
 (idxS 1 v19 (List.getD vs8 1 V.any)).bind fun v20 =>
 (ldp none v20).bind fun v21 =>
 JoinPt (fun vs22 =>
 ((fillL [(vi 0), (vi 0), (vi 0), (vi 0), (vi 0), (vb false), (vi 0), (vi 0), (vi 0), (vi 0), (vi 0), (vi 0)] [(0, 1, (vi 2)), (1, 1, v21), (2, 1, v4), (3, 1, (List.getD vs22 1 V.any))]).map V.agg).bind fun v24 =>
 (slcB 12 1 [(vi 0), (vi 0), (vi 0), (vi 0), (vi 0), (vb false), (vi 0), (vi 0), (vi 0), (vi 0), (vi 0), (vi 0)] [(0, v24)]).bind fun v25 =>
 (appV 12 (slL (List.getD vs22 0 V.any)) v25).bind fun v26 =>
 J15 [(V.sl (slL v26))]) fun J23 =>
 (fixN (fun rec27 vs28 =>
 (ptrF 0 x0).bind fun v29 =>
 (ptrF 0 v29).bind fun v30 =>
 (ldp none v30).bind fun v31 =>
 (idxS 1 v31 v4).bind fun v32 =>
 (ldp none v32).bind fun v33 =>
 (lenS [v33]).bind fun v34 =>
 (bin2 Tryd.prog BinOp.lss 3 (ot 31) (ot 39) (List.getD vs28 2 V.any) v34).bind fun v35 =>
 condV v35 (
 (ptrF 0 x0).bind fun v36 =>
 (ptrF 0 v36).bind fun v37 =>
 (ldp none v37).bind fun v38 =>
 (idxS 1 v38 v4).bind fun v39 =>
 (ldp none v39).bind fun v40 =>
 (idxS 8 v40 (List.getD vs28 2 V.any)).bind fun v41 =>
 (ldp (some 8) v41).bind fun v42 =>
 (spliceV [(vi 0), (vb false), (vi 0), (vi 0), (vi 0), (vi 0), (vi 0), (vi 0)] 0 8 v42).bind fun v43 =>
 (ldk none (List.drop 0 (aggL v43))).bind fun v44 =>
 (bin2 Tryd.prog BinOp.eql 3 (ot 54) (ot 55) v44 v21).bind fun v45 =>
 JoinPt (fun vs46 =>
 (bin2 Tryd.prog BinOp.add 3 (ot 41) (oc 1) (List.getD vs28 2 V.any) (vi 1)).bind fun v48 =>
 rec27 [(V.sl (slL (List.getD vs46 0 V.any))), (List.getD vs46 1 V.any), v48]) fun J47 =>
 condV v45 (
 (ldk (some 8) (List.drop 0 (aggL v43))).bind fun v49 =>
 ((fillL [(vi 0), (vi 0), (vi 0), (vi 0), (vi 0), (vb false), (vi 0), (vi 0), (vi 0), (vi 0), (vi 0), (vi 0)] [(0, 1, (vi 1)), (1, 1, v21), (2, 1, v4), (3, 1, (List.getD vs28 1 V.any)), (4, 8, v49)]).map V.agg).bind fun v50 =>
 (slcB 12 1 [(vi 0), (vi 0), (vi 0), (vi 0), (vi 0), (vb false), (vi 0), (vi 0), (vi 0), (vi 0), (vi 0), (vi 0)] [(0, v50)]).bind fun v51 =>
 (appV 12 (slL (List.getD vs28 0 V.any)) v51).bind fun v52 =>
 (bin2 Tryd.prog BinOp.add 3 (ot 65) (oc 1) (List.getD vs28 1 V.any) (vi 1)).bind fun v53 =>
 J47 [(V.sl (slL v52)), v53]) (
 J47 [(V.sl (slL (List.getD vs28 0 V.any))), (List.getD vs28 1 V.any)])) (
 J23 [(V.sl (slL (List.getD vs28 0 V.any))), (List.getD vs28 1 V.any)])) n) [(V.sl (slL (List.getD vs8 0 V.any))), (vi 0), (vi 0)]) (
 J6 [(V.sl (slL (List.getD vs8 0 V.any)))])) n) [(V.sl []), (vi 0)] := by kernel_rfl
noncomputable def t_railref2_Drive_say (a0 : T_railref2_Drive) : Option (List T_Msg) :=
 (loopI a0.Left (fun (i16 : Int) x17 (s12 : (List T_Msg)) k13 =>
 ((tfix (fun k123 (s122 : ((List T_Msg) × Int × Int)) =>
 (idx a0.Rounds (wr (a0.Said - 1))).bind fun r131 =>
 if (decide (s122.2.2 < (List.length r131 : Int))) = true then (
 (idx a0.Rounds (wr (a0.Said - 1))).bind fun r140 =>
 (idx r140 s122.2.2).bind fun r143 =>
 (if (decide (r143.Switch = x17)) = true then (
 (app s122.1 ([(T_Msg.mk 1 x17 (wr (a0.Said - 1)) s122.2.1 r143)] : (List T_Msg))).bind fun r159 =>
 some (r159, (wr (s122.2.1 + 1)))) else (
 some (s122.1, s122.2.1))).bind fun (s150 : ((List T_Msg) × Int)) =>
 k123 (s150.1, s150.2, (wr (s122.2.2 + 1)))) else (
 some (s122.1, s122.2.1))) bigN (s12, 0, 0)).bind fun (s39 : ((List T_Msg) × Int)) =>
 (app s39.1 ([(T_Msg.mk 2 x17 (wr (a0.Said - 1)) s39.2 (T_Op.mk 0 false (T_Rule.mk 0 (T_Cube.mk 0 0) 0 0 0)))] : (List T_Msg))).bind fun r45 =>
 some (r45)).bind fun (s28 : (List T_Msg)) =>
 k13 (s28)) (fun (s12 : (List T_Msg)) =>
 some (s12)) ([])).bind fun (s7 : (List T_Msg)) =>
 some s7
theorem ty_railref2_Drive_say {n : Nat} (hn : bigN ≤ n) (a0 : T_railref2_Drive) : Rv (fun x : (List T_Msg) => (V.sl (List.map T_Msg.c x))) (sem_railref2_Drive_say n [(V.ptr (T_railref2_Drive.c a0))]) (t_railref2_Drive_say a0) := by
  rw [eq_railref2_Drive_say]
  unfold t_railref2_Drive_say
  refine tb (x := (V.ptr (T_railref2_Drive.c a0))) (rfl) ?_
  refine tb (x := (V.ptr (List.drop 2 (T_railref2_Drive.c a0)))) (rfl) ?_
  refine tb (x := (vi a0.Said)) (rfl) ?_
  refine tb (x := (vi (wr (a0.Said - 1)))) (d_sub) ?_
  refine tjb (mk := fun s7 : (List T_Msg) => [(V.sl (List.map T_Msg.c s7))]) (fun J6 => ?_) fun s7 => ?_
  · refine rf_loopI (mk := fun (i16 : Int) (s12 : (List T_Msg)) => [(V.sl (List.map T_Msg.c s12)), (vi (i16 : Int))]) hn a0.Left ([]) (fun i16 x17 h18 h19 h20 s12 rec10 k13 h14 => ?_) (fun s12 rec162 h161 => ?_)
    · refine tb (x := (V.ptr (T_railref2_Drive.c a0))) (rfl) ?_
      refine tb (x := (V.ptr (List.drop 3 (T_railref2_Drive.c a0)))) (rfl) ?_
      refine tb (x := (V.sl (List.map cI a0.Left))) (rfl) ?_
      refine tb (x := (vi (List.length a0.Left : Int))) (p_len _) ?_
      refine tb (x := (vb (decide ((i16 : Int) < (List.length a0.Left : Int))))) (d_lss) ?_
      refine tcond_t h20 ?_
      refine tjb (mk := fun s28 : (List T_Msg) => [(V.sl (List.map T_Msg.c s28))]) (fun J27 => ?_) fun s28 => ?_
      · refine tb (x := (V.ptr (T_railref2_Drive.c a0))) (rfl) ?_
        refine tb (x := (V.ptr (List.drop 3 (T_railref2_Drive.c a0)))) (rfl) ?_
        refine tb (x := (V.sl (List.map cI a0.Left))) (rfl) ?_
        refine tb (x := (V.ptr [(vi x17)])) (p_idx_at (c := cI) (fun _ => rfl) h18) ?_
        refine tb (x := (vi x17)) (rfl) ?_
        refine tjb (mk := fun s39 : ((List T_Msg) × Int) => [(V.sl (List.map T_Msg.c s39.1)), (vi s39.2)]) (fun J38 => ?_) fun s39 => ?_
        · refine rf_fixN (mk := fun (s122 : ((List T_Msg) × Int × Int)) => [(V.sl (List.map T_Msg.c s122.1)), (vi s122.2.1), (vi s122.2.2)]) hn (s12, 0, 0) (fun rec120 k123 h124 s122 => ?_)
          refine tb (x := (V.ptr (T_railref2_Drive.c a0))) (rfl) ?_
          refine tb (x := (V.ptr (T_railref2_Drive.c a0))) (rfl) ?_
          refine tb (x := (V.sl (List.map (cS T_Op.c) a0.Rounds))) (rfl) ?_
          refine tbo (p_idx (c := (cS T_Op.c)) (fun _ => rfl) a0.Rounds (wr (a0.Said - 1))) fun r131 => ?_
          refine tb (x := (V.sl (List.map T_Op.c r131))) (rfl) ?_
          refine tb (x := (vi (List.length r131 : Int))) (p_len _) ?_
          refine tb (x := (vb (decide (s122.2.2 < (List.length r131 : Int))))) (d_lss) ?_
          refine tcond (fun h135 => ?_) (fun h135 => ?_)
          · refine tb (x := (V.ptr (T_railref2_Drive.c a0))) (rfl) ?_
            refine tb (x := (V.ptr (T_railref2_Drive.c a0))) (rfl) ?_
            refine tb (x := (V.sl (List.map (cS T_Op.c) a0.Rounds))) (rfl) ?_
            refine tbo (p_idx (c := (cS T_Op.c)) (fun _ => rfl) a0.Rounds (wr (a0.Said - 1))) fun r140 => ?_
            refine tb (x := (V.sl (List.map T_Op.c r140))) (rfl) ?_
            refine tbo (p_idx (c := T_Op.c) (fun _ => rfl) r140 s122.2.2) fun r143 => ?_
            refine tb (x := (T_Op.e r143)) (rfl) ?_
            refine tb (x := V.agg (T_Op.c r143)) (by kernel_rfl) ?_
            refine tb (x := (vi r143.Switch)) (rfl) ?_
            refine tb (x := (vb (decide (r143.Switch = x17)))) (d_eql) ?_
            refine tjb (mk := fun s150 : ((List T_Msg) × Int) => [(V.sl (List.map T_Msg.c s150.1)), (vi s150.2)]) (fun J149 => ?_) fun s150 => ?_
            · refine tcond (fun h154 => ?_) (fun h154 => ?_)
              · refine tb (x := (T_Op.e r143)) (rfl) ?_
                refine tb (x := (T_Msg.e (T_Msg.mk 1 x17 (wr (a0.Said - 1)) s122.2.1 r143))) (by kernel_rfl) ?_
                refine tb (x := (V.sl (List.map T_Msg.c ([(T_Msg.mk 1 x17 (wr (a0.Said - 1)) s122.2.1 r143)] : (List T_Msg))))) (by kernel_rfl) ?_
                refine tbo (p_app (c := T_Msg.c) (fun _ => rfl) s122.1 ([(T_Msg.mk 1 x17 (wr (a0.Said - 1)) s122.2.1 r143)] : (List T_Msg))) fun r159 => ?_
                refine tb (x := (vi (wr (s122.2.1 + 1)))) (d_add) ?_
                exact rf_j rfl
              · exact rf_j rfl
            · refine tb (x := (vi (wr (s122.2.2 + 1)))) (d_add) ?_
              exact h124 (s150.1, s150.2, (wr (s122.2.2 + 1)))
          · exact rf_j rfl
        · refine tb (x := (T_Msg.e (T_Msg.mk 2 x17 (wr (a0.Said - 1)) s39.2 (T_Op.mk 0 false (T_Rule.mk 0 (T_Cube.mk 0 0) 0 0 0))))) (by kernel_rfl) ?_
          refine tb (x := (V.sl (List.map T_Msg.c ([(T_Msg.mk 2 x17 (wr (a0.Said - 1)) s39.2 (T_Op.mk 0 false (T_Rule.mk 0 (T_Cube.mk 0 0) 0 0 0)))] : (List T_Msg))))) (by kernel_rfl) ?_
          refine tbo (p_app (c := T_Msg.c) (fun _ => rfl) s39.1 ([(T_Msg.mk 2 x17 (wr (a0.Said - 1)) s39.2 (T_Op.mk 0 false (T_Rule.mk 0 (T_Cube.mk 0 0) 0 0 0)))] : (List T_Msg))) fun r45 => ?_
          exact rf_j rfl
      · refine tb (x := (vi ((i16 : Int) + 1))) (p_incN h19) ?_
        exact h14 (s28)
    · refine tb (x := (V.ptr (T_railref2_Drive.c a0))) (rfl) ?_
      refine tb (x := (V.ptr (List.drop 3 (T_railref2_Drive.c a0)))) (rfl) ?_
      refine tb (x := (V.sl (List.map cI a0.Left))) (rfl) ?_
      refine tb (x := (vi (List.length a0.Left : Int))) (p_len _) ?_
      refine tb (x := (vb (decide ((List.length a0.Left : Int) < (List.length a0.Left : Int))))) (d_lss) ?_
      refine tcond_f h161 ?_
      exact rf_j rfl
  · exact rf_ret rfl

/-!   railpoint/railref2.Drive .Next -/
def an_railref2_Drive_Next : Ann := .seq (.reg 0 [] [] []) (.seq (.reg 0 [] [] [2000006]) (.seq (.seq (.reg 0 [] [] []) (.cond none (.seq (.reg 0 [] [] []) (.no)) (.no))) (.seq (.reg 14 [] [] []) (.seq (.reg 0 [] [] []) (.seq (.reg 0 [] [] []) (.seq (.reg 0 [] [] [2000034, 3000034]) (.no)))))))
noncomputable def sem_railref2_Drive_Next (n : Nat) (xs : List V) : Option V := if xs.length ≤ 35 then denM Tryd.prog (envOf [(64, (sem_railref2_Drive_May n)), (65, (sem_railref2_Touched n)), (66 + 1000000 * (39 + 2), (sem_railref2_Drive_say n))]) n Tryd.f33 an_railref2_Drive_Next [2] none xs else none
theorem ok_railref2_Drive_Next (n : Nat) : MSemOk Tryd.prog DW 33 (sem_railref2_Drive_Next n) := fun xs y h => by
  unfold sem_railref2_Drive_Next at h
  split at h
  · rename_i hl
    exact denM_ok Tryd.func33 (by kernel_rfl) (envOf_ok (semsOk_cons (ok_railref2_Drive_May n) (semsOk_cons (ok_railref2_Touched n) (semsOk_consR (ok_railref2_Drive_say n) semsOk_nil)))) (by rw [Tryd.ntmps33]; exact hl) (by decide) h
  · cases h
theorem eq_railref2_Drive_Next (n : Nat) (x0 : V) : sem_railref2_Drive_Next n [x0] =
 (objG x0).bind fun v1 =>
 (some (frzQ x0)).bind fun v2 =>
 ((sem_railref2_Drive_May n) [v2]).bind fun v4 =>
 (litQ v4).bind fun v3 =>
 (scal1 Tryd.prog (Op.unary Go.UnOp.not) v3).bind fun v5 =>
 condV v5 (
 some (V.tup [(V.tup [(V.sl []), (vi 6)]), x0])) (
 (some V.any).bind fun v6 =>
 (some V.any).bind fun v7 =>
 ((nodeL x0 none 0).bind fun l8 => (ldk none (List.drop 0 l8)).bind pureO).bind fun v9 =>
 (some V.any).bind fun v10 =>
 (some V.any).bind fun v11 =>
 ((nodeL x0 none 0).bind fun l12 => (ldk none (List.drop 2 l12)).bind pureO).bind fun v13 =>
 (idxS 1 v9 v13).bind fun v14 =>
 (ldp none v14).bind fun v15 =>
 ((sem_railref2_Touched n) [v15]).bind fun v16 =>
 (some V.any).bind fun v17 =>
 (some V.any).bind fun v18 =>
 (V.cellsO v16).bind fun v19 =>
 (setV x0 [] (Stp.mk none 3 0) 1 v19).bind fun v20 =>
 (some V.any).bind fun v21 =>
 (some V.any).bind fun v22 =>
 ((nodeL v20 none 0).bind fun l23 => (ldk none (List.drop 2 l23)).bind pureO).bind fun v24 =>
 (bin2 Tryd.prog BinOp.add 3 (ot 26) (oc 1) v24 (vi 1)).bind fun v25 =>
 (some V.any).bind fun v26 =>
 (some V.any).bind fun v27 =>
 (V.cellsO v25).bind fun v28 =>
 (setV v20 [] (Stp.mk none 2 0) 1 v28).bind fun v29 =>
 (some V.any).bind fun v30 =>
 (some V.any).bind fun v31 =>
 (V.cellsO (vi 0)).bind fun v32 =>
 (setV v29 [] (Stp.mk none 4 0) 1 v32).bind fun v33 =>
 (some (frzQ v33)).bind fun v34 =>
 ((sem_railref2_Drive_say n) [v34]).bind fun v36 =>
 (flatQ v36).bind fun v35 =>
 some (V.tup [(V.tup [v35, (vi 0)]), v33])) := by kernel_rfl
noncomputable def t_railref2_Drive_Next (a0 : T_railref2_Drive) : Option ((List T_Msg) × Int × T_railref2_Drive) :=
 (t_railref2_Drive_May a0).bind fun r3 =>
 if (!r3) = true then (
 some ([], 6, a0)) else (
 (idx a0.Rounds a0.Said).bind fun r14 =>
 (t_railref2_Touched r14).bind fun r17 =>
 (t_railref2_Drive_say (T_railref2_Drive.mk a0.Rounds a0.Wait (wr (a0.Said + 1)) r17 0)).bind fun r35 =>
 some (r35, 0, (T_railref2_Drive.mk a0.Rounds a0.Wait (wr (a0.Said + 1)) r17 0)))
theorem ty_railref2_Drive_Next {n : Nat} (hn : bigN ≤ n) (a0 : T_railref2_Drive) : Rv (fun x : ((List T_Msg) × Int × T_railref2_Drive) => (V.tup [(V.tup [(V.sl (List.map T_Msg.c x.1)), (vi x.2.1)]), (V.obj (T_railref2_Drive.c x.2.2))])) (sem_railref2_Drive_Next n [(V.obj (T_railref2_Drive.c a0))]) (t_railref2_Drive_Next a0) := by
  rw [eq_railref2_Drive_Next]
  unfold t_railref2_Drive_Next
  refine tb (x := V.any) rfl ?_
  refine tb (x := V.ptr (T_railref2_Drive.c a0)) (p_frzQ (p_fzc rfl (p_fzc rfl (p_fzc rfl (p_fzc rfl (p_fzc rfl p_fz0)))))) ?_
  refine tbo (ty_railref2_Drive_May hn a0) fun r3 => ?_
  refine tb (x := (vb r3)) rfl ?_
  refine tb (x := (vb (!r3))) (d_not) ?_
  refine tcond (fun h6 => ?_) (fun h6 => ?_)
  · exact rf_ret rfl
  · refine tb (x := V.any) rfl ?_
    refine tb (x := V.any) rfl ?_
    refine tb (x := (V.sl (List.map (cS T_Op.c) a0.Rounds))) (rfl) ?_
    refine tb (x := V.any) rfl ?_
    refine tb (x := V.any) rfl ?_
    refine tb (x := (vi a0.Said)) (rfl) ?_
    refine tbo (p_idx (c := (cS T_Op.c)) (fun _ => rfl) a0.Rounds a0.Said) fun r14 => ?_
    refine tb (x := (V.sl (List.map T_Op.c r14))) (rfl) ?_
    refine tbo (ty_railref2_Touched hn r14) fun r17 => ?_
    refine tb (x := V.any) rfl ?_
    refine tb (x := V.any) rfl ?_
    refine tb (x := [(V.sl (List.map cI r17))]) rfl ?_
    refine tb (x := V.obj (T_railref2_Drive.c (T_railref2_Drive.mk a0.Rounds a0.Wait a0.Said r17 a0.Ticks))) (by kernel_rfl) ?_
    refine tb (x := V.any) rfl ?_
    refine tb (x := V.any) rfl ?_
    refine tb (x := (vi a0.Said)) (rfl) ?_
    refine tb (x := (vi (wr (a0.Said + 1)))) (d_add) ?_
    refine tb (x := V.any) rfl ?_
    refine tb (x := V.any) rfl ?_
    refine tb (x := [(vi (wr (a0.Said + 1)))]) rfl ?_
    refine tb (x := V.obj (T_railref2_Drive.c (T_railref2_Drive.mk a0.Rounds a0.Wait (wr (a0.Said + 1)) r17 a0.Ticks))) (by kernel_rfl) ?_
    refine tb (x := V.any) rfl ?_
    refine tb (x := V.any) rfl ?_
    refine tb (x := [(vi 0)]) rfl ?_
    refine tb (x := V.obj (T_railref2_Drive.c (T_railref2_Drive.mk a0.Rounds a0.Wait (wr (a0.Said + 1)) r17 0))) (by kernel_rfl) ?_
    refine tb (x := V.ptr (T_railref2_Drive.c (T_railref2_Drive.mk a0.Rounds a0.Wait (wr (a0.Said + 1)) r17 0))) (p_frzQ (p_fzc rfl (p_fzc rfl (p_fzc rfl (p_fzc rfl (p_fzc rfl p_fz0)))))) ?_
    refine tbo (ty_railref2_Drive_say hn (T_railref2_Drive.mk a0.Rounds a0.Wait (wr (a0.Said + 1)) r17 0)) fun r35 => ?_
    refine tb (x := (V.sl (List.map T_Msg.c r35))) (p_flatQ (fun _ => rfl) r35) ?_
    exact rf_ret rfl

/-!   railpoint/drive.Drive .May -/
def an_drive_Drive_May : Ann := .seq (.reg 0 [] [] []) (.seq (.reg 19 [] [] []) (.no))
noncomputable def sem_drive_Drive_May (n : Nat) (xs : List V) : Option V := if xs.length ≤ 21 then denF Tryd.prog (envOf []) n Tryd.f59 an_drive_Drive_May xs else none
theorem ok_drive_Drive_May (n : Nat) : SemOk Tryd.prog DW 59 (sem_drive_Drive_May n) := fun xs y h => by
  unfold sem_drive_Drive_May at h
  split at h
  · rename_i hl
    exact denF_ok stb Tryd.func59 (by kernel_rfl) (envOf_ok semsOk_nil) (by rw [Tryd.ntmps59]; exact hl) h
  · cases h
theorem eq_drive_Drive_May (n : Nat) (x0 : V) : sem_drive_Drive_May n [x0] =
 (ptrF 0 x0).bind fun v1 =>
 (ptrF 3 v1).bind fun v2 =>
 (ldp none v2).bind fun v3 =>
 (lenS [v3]).bind fun v4 =>
 (bin2 Tryd.prog BinOp.eql 3 (ot 7) (oc 0) v4 (vi 0)).bind fun v5 =>
 (guardV v5 true (some x0)).bind fun v6 =>
 (guardV v5 true ((ptrF 0 v6).bind fun v7 =>
 some v7)).bind fun v8 =>
 (guardV v5 true ((ptrF 2 v8).bind fun v9 =>
 some v9)).bind fun v10 =>
 (guardV v5 true ((ldp none v10).bind fun v11 =>
 some v11)).bind fun v12 =>
 (guardV v5 true (some x0)).bind fun v13 =>
 (guardV v5 true ((ptrF 0 v13).bind fun v14 =>
 some v14)).bind fun v15 =>
 (guardV v5 true ((ptrF 0 v15).bind fun v16 =>
 some v16)).bind fun v17 =>
 (guardV v5 true ((ldp none v17).bind fun v18 =>
 some v18)).bind fun v19 =>
 (guardV v5 true ((lenS [v19]).bind fun v20 =>
 some v20)).bind fun v21 =>
 (guardV v5 true ((bin2 Tryd.prog BinOp.lss 3 (ot 13) (ot 18) v12 v21).bind fun v22 =>
 some v22)).bind fun v23 =>
 (pickV v5 v23 (vb false)).bind fun v24 =>
 some v24 := by kernel_rfl
noncomputable def t_drive_Drive_May (a0 : T_drive_Drive) : Option Bool :=
 some ((decide ((List.length a0.left : Int) = 0)) && (decide (a0.said < (List.length a0.rounds : Int))))
theorem ty_drive_Drive_May {n : Nat} (hn : bigN ≤ n) (a0 : T_drive_Drive) : Rv (fun x : Bool => (vb x)) (sem_drive_Drive_May n [(V.ptr (T_drive_Drive.c a0))]) (t_drive_Drive_May a0) := by
  rw [eq_drive_Drive_May]
  unfold t_drive_Drive_May
  refine tb (x := (V.ptr (T_drive_Drive.c a0))) (rfl) ?_
  refine tb (x := (V.ptr (List.drop 3 (T_drive_Drive.c a0)))) (rfl) ?_
  refine tb (x := (V.sl (List.map cI a0.left))) (rfl) ?_
  refine tb (x := (vi (List.length a0.left : Int))) (p_len _) ?_
  refine tb (x := (vb (decide ((List.length a0.left : Int) = 0)))) (d_eql) ?_
  refine tg (x := (V.ptr (T_drive_Drive.c a0))) (fun h6 => rfl) ?_
  refine tg (x := (V.ptr (T_drive_Drive.c a0))) (fun h8 => by first | exact bind_some_eq (rfl) | (simp only [gv_t h8]; exact bind_some_eq (rfl))) ?_
  refine tg (x := (V.ptr (List.drop 2 (T_drive_Drive.c a0)))) (fun h11 => by first | exact bind_some_eq (rfl) | (simp only [gv_t h11]; exact bind_some_eq (rfl))) ?_
  refine tg (x := (vi a0.said)) (fun h14 => by first | exact bind_some_eq (rfl) | (simp only [gv_t h14]; exact bind_some_eq (rfl))) ?_
  refine tg (x := (V.ptr (T_drive_Drive.c a0))) (fun h17 => rfl) ?_
  refine tg (x := (V.ptr (T_drive_Drive.c a0))) (fun h19 => by first | exact bind_some_eq (rfl) | (simp only [gv_t h19]; exact bind_some_eq (rfl))) ?_
  refine tg (x := (V.ptr (T_drive_Drive.c a0))) (fun h22 => by first | exact bind_some_eq (rfl) | (simp only [gv_t h22]; exact bind_some_eq (rfl))) ?_
  refine tg (x := (V.sl (List.map (cS T_Op.c) a0.rounds))) (fun h25 => by first | exact bind_some_eq (rfl) | (simp only [gv_t h25]; exact bind_some_eq (rfl))) ?_
  refine tg (x := (vi (List.length a0.rounds : Int))) (fun h28 => by simp only [gv_t h28]; exact bind_some_eq (p_len _)) ?_
  refine tg (x := (vb (decide (a0.said < (List.length a0.rounds : Int))))) (fun h31 => by simp only [gv_t h31]; exact bind_some_eq (d_lss)) ?_
  refine tb (x := (vb ((decide ((List.length a0.left : Int) = 0)) && (decide (a0.said < (List.length a0.rounds : Int)))))) (pick_and (fun h9 => gv_t h9)) ?_
  exact rf_ret rfl

/-! railpoint/mix.Touched -/
def an_mix_Touched : Ann := .seq (.reg 0 [] [] []) (.seq (.reg 0 [] [] []) (.seq (.seq (.reg 0 [] [] []) (.blk (some [.n 3 1]) (.loop [.n 3 1, .s 8] (.seq (.reg 0 [] [] []) (.seq (.cond none (.no) (.no)) (.seq (.blk none (.seq (.reg 0 [] [] []) (.reg 0 [] [] [16]))) (.reg 0 [] [] []))))))) (.seq (.reg 0 [] [] []) (.seq (.reg 0 [] [] [21]) (.no)))))
noncomputable def sem_mix_Touched (n : Nat) (xs : List V) : Option V := if xs.length ≤ 22 then denM Tryd.prog (envOf [(83 + 1000000, (semSort)), (84 + 1000000, (semCompactO))]) n Tryd.f60 an_mix_Touched [0] (some 1) xs else none
theorem ok_mix_Touched (n : Nat) : MSemOk Tryd.prog DW 60 (sem_mix_Touched n) := fun xs y h => by
  unfold sem_mix_Touched at h
  split at h
  · rename_i hl
    exact denM_ok Tryd.func60 (by kernel_rfl) (envOf_ok (semsOk_consM (mok_Sort) (semsOk_consM (mok_CompactO) semsOk_nil))) (by rw [Tryd.ntmps60]; exact hl) (by decide) h
  · cases h
theorem eq_mix_Touched (n : Nat) (x0 : V) : sem_mix_Touched n [x0] =
 (pureO x0).bind fun v1 =>
 (lenS [x0]).bind fun v2 =>
 JoinPt (fun vs3 =>
 ((semSort) [(List.getD vs3 0 V.any)]).bind fun z5 =>
 (pureO (tupAt z5 0)).bind fun v6 =>
 ((semCompactO) [(tupAt z5 1)]).bind fun z7 =>
 some (V.tup [(tupAt z7 0), V.any])) fun J4 =>
 (fixN (fun rec8 vs9 =>
 (bin2 Tryd.prog BinOp.lss 3 (ot 8) (ot 7) (List.getD vs9 1 V.any) v2).bind fun v10 =>
 condV v10 (
 (idxS 8 x0 (List.getD vs9 1 V.any)).bind fun v11 =>
 (ldp (some 8) v11).bind fun v12 =>
 (spliceV [(vi 0), (vb false), (vi 0), (vi 0), (vi 0), (vi 0), (vi 0), (vi 0)] 0 8 v12).bind fun v13 =>
 (ldk none (List.drop 0 (aggL v13))).bind fun v14 =>
 (slcB 1 1 [(vi 0)] [(0, v14)]).bind fun v15 =>
 (appS 1 (List.getD vs9 0 V.any) v15).bind fun v16 =>
 (bin2 Tryd.prog BinOp.add 3 (ot 8) (oc 1) (List.getD vs9 1 V.any) (vi 1)).bind fun v17 =>
 rec8 [v16, v17]) (
 J4 [(List.getD vs9 0 V.any)])) n) [(V.osl 1 []), (vi 0)] := by kernel_rfl
noncomputable def t_mix_Touched (a0 : (List T_Op)) : Option (List Int) :=
 (loopI a0 (fun (i19 : Int) x20 (s15 : (List Int)) k16 =>
 (oapp s15 ([x20.Switch] : (List Int))).bind fun r30 =>
 k16 (r30)) (fun (s15 : (List Int)) =>
 some (s15)) ([])).bind fun (s5 : (List Int)) =>
 (sortI s5).bind fun r9 =>
 (compactI r9).bind fun r12 =>
 some r12
theorem ty_mix_Touched {n : Nat} (hn : bigN ≤ n) (a0 : (List T_Op)) : Rv (fun x : (List Int) => (V.tup [(V.osl 1 (List.map cI x)), V.any])) (sem_mix_Touched n [(V.sl (List.map T_Op.c a0))]) (t_mix_Touched a0) := by
  rw [eq_mix_Touched]
  unfold t_mix_Touched
  refine tb (x := (V.sl (List.map T_Op.c a0))) rfl ?_
  refine tb (x := (vi (List.length a0 : Int))) (p_len _) ?_
  refine tjb (mk := fun s5 : (List Int) => [(V.osl 1 (List.map cI s5))]) (fun J4 => ?_) fun s5 => ?_
  · refine rf_loopI (mk := fun (i19 : Int) (s15 : (List Int)) => [(V.osl 1 (List.map cI s15)), (vi (i19 : Int))]) hn a0 ([]) (fun i19 x20 h21 h22 h23 s15 rec13 k16 h17 => ?_) (fun s15 rec33 h32 => ?_)
    · refine tb (x := (vb (decide ((i19 : Int) < (List.length a0 : Int))))) (d_lss) ?_
      refine tcond_t h23 ?_
      refine tb (x := (V.ptr (T_Op.c x20))) (p_idx_at (c := T_Op.c) (fun _ => rfl) h21) ?_
      refine tb (x := (T_Op.e x20)) (rfl) ?_
      refine tb (x := V.agg (T_Op.c x20)) (by kernel_rfl) ?_
      refine tb (x := (vi x20.Switch)) (rfl) ?_
      refine tb (x := (V.sl (List.map cI ([x20.Switch] : (List Int))))) (by kernel_rfl) ?_
      refine tbo (p_oapp (c := cI) (fun _ => rfl) s15 ([x20.Switch] : (List Int))) fun r30 => ?_
      refine tb (x := (vi ((i19 : Int) + 1))) (p_incN h22) ?_
      exact h17 (r30)
    · refine tb (x := (vb (decide ((List.length a0 : Int) < (List.length a0 : Int))))) (d_lss) ?_
      refine tcond_f h32 ?_
      exact rf_j rfl
  · refine tbo (p_sort s5) fun r9 => ?_
    refine tb (x := (V.tup [])) rfl ?_
    refine tbo (p_compactO r9) fun r12 => ?_
    exact rf_ret rfl

/-!   railpoint/drive.Drive .say -/
def an_drive_Drive_say : Ann := .seq (.reg 0 [] [] []) (.seq (.reg 0 [] [] []) (.seq (.seq (.reg 0 [] [] []) (.blk (some [.r 2 39]) (.loop [.r 2 39, .s 19] (.seq (.reg 0 [] [] []) (.seq (.cond none (.no) (.no)) (.seq (.blk (some [.r 2 39]) (.seq (.reg 0 [] [] []) (.seq (.reg 0 [] [] []) (.seq (.seq (.reg 0 [] [] []) (.blk (some [.r 2 39, .s 6]) (.loop [.r 2 39, .s 6, .s 31] (.seq (.reg 0 [] [] []) (.seq (.cond none (.no) (.no)) (.seq (.blk none (.seq (.reg 0 [] [] []) (.seq (.reg 0 [] [] []) (.cond (some [.r 2 39, .s 6]) (.seq (.reg 0 [] [] []) (.reg 0 [] [] [])) (.no))))) (.reg 0 [] [] []))))))) (.reg 0 [] [] []))))) (.reg 0 [] [] []))))))) (.seq (.reg 0 [] [] []) (.no))))
noncomputable def sem_drive_Drive_say (n : Nat) (xs : List V) : Option V := if xs.length ≤ 59 then denFR Tryd.prog (envOf []) n Tryd.f61 an_drive_Drive_say 39 xs else none
theorem ok_drive_Drive_say (n : Nat) : RSemOk Tryd.prog DW 61 39 (sem_drive_Drive_say n) := fun xs y h => by
  unfold sem_drive_Drive_say at h
  split at h
  · rename_i hl
    exact denFR_ok stb Tryd.func61 (by kernel_rfl) (envOf_ok semsOk_nil) (by rw [Tryd.ntmps61]; exact hl) h
  · cases h
theorem eq_drive_Drive_say (n : Nat) (x0 : V) : sem_drive_Drive_say n [x0] =
 (ptrF 0 x0).bind fun v1 =>
 (ptrF 2 v1).bind fun v2 =>
 (ldp none v2).bind fun v3 =>
 (bin2 Tryd.prog BinOp.sub 3 (ot 12) (oc 1) v3 (vi 1)).bind fun v4 =>
 (ptrF 0 x0).bind fun v5 =>
 (ptrF 3 v5).bind fun v6 =>
 (ldp none v6).bind fun v7 =>
 (lenS [v7]).bind fun v8 =>
 JoinPt (fun vs9 =>
 some (V.sl (slL (List.getD vs9 0 V.any)))) fun J10 =>
 (fixN (fun rec11 vs12 =>
 (bin2 Tryd.prog BinOp.lss 3 (ot 19) (ot 18) (List.getD vs12 1 V.any) v8).bind fun v13 =>
 condV v13 (
 JoinPt (fun vs14 =>
 (bin2 Tryd.prog BinOp.add 3 (ot 19) (oc 1) (List.getD vs12 1 V.any) (vi 1)).bind fun v16 =>
 rec11 [(V.sl (slL (List.getD vs14 0 V.any))), v16]) fun J15 =>
 (idxS 1 v7 (List.getD vs12 1 V.any)).bind fun v17 =>
 (ldp none v17).bind fun v18 =>
 (ptrF 0 x0).bind fun v19 =>
 (ptrF 0 v19).bind fun v20 =>
 (ldp none v20).bind fun v21 =>
 (idxS 1 v21 v4).bind fun v22 =>
 (ldp none v22).bind fun v23 =>
 (lenS [v23]).bind fun v24 =>
 JoinPt (fun vs25 =>
 ((fillL [(vi 0), (vi 0), (vi 0), (vi 0), (vi 0), (vb false), (vi 0), (vi 0), (vi 0), (vi 0), (vi 0), (vi 0)] [(0, 1, (vi 2)), (1, 1, v18), (2, 1, v4), (3, 1, (List.getD vs25 1 V.any))]).map V.agg).bind fun v27 =>
 (slcB 12 1 [(vi 0), (vi 0), (vi 0), (vi 0), (vi 0), (vb false), (vi 0), (vi 0), (vi 0), (vi 0), (vi 0), (vi 0)] [(0, v27)]).bind fun v28 =>
 (appV 12 (slL (List.getD vs25 0 V.any)) v28).bind fun v29 =>
 J15 [(V.sl (slL v29))]) fun J26 =>
 (fixN (fun rec30 vs31 =>
 (bin2 Tryd.prog BinOp.lss 3 (ot 31) (ot 30) (List.getD vs31 2 V.any) v24).bind fun v32 =>
 condV v32 (
 (idxS 8 v23 (List.getD vs31 2 V.any)).bind fun v33 =>
 (ldp (some 8) v33).bind fun v34 =>
 (spliceV [(vi 0), (vb false), (vi 0), (vi 0), (vi 0), (vi 0), (vi 0), (vi 0)] 0 8 v34).bind fun v35 =>
 (ldk none (List.drop 0 (aggL v35))).bind fun v36 =>
 (bin2 Tryd.prog BinOp.eql 3 (ot 36) (ot 37) v36 v18).bind fun v37 =>
 JoinPt (fun vs38 =>
 (bin2 Tryd.prog BinOp.add 3 (ot 31) (oc 1) (List.getD vs31 2 V.any) (vi 1)).bind fun v40 =>
 rec30 [(V.sl (slL (List.getD vs38 0 V.any))), (List.getD vs38 1 V.any), v40]) fun J39 =>
 condV v37 (
 (ldk (some 8) (List.drop 0 (aggL v35))).bind fun v41 =>
 ((fillL [(vi 0), (vi 0), (vi 0), (vi 0), (vi 0), (vb false), (vi 0), (vi 0), (vi 0), (vi 0), (vi 0), (vi 0)] [(0, 1, (vi 1)), (1, 1, v18), (2, 1, v4), (3, 1, (List.getD vs31 1 V.any)), (4, 8, v41)]).map V.agg).bind fun v42 =>
 (slcB 12 1 [(vi 0), (vi 0), (vi 0), (vi 0), (vi 0), (vb false), (vi 0), (vi 0), (vi 0), (vi 0), (vi 0), (vi 0)] [(0, v42)]).bind fun v43 =>
 (appV 12 (slL (List.getD vs31 0 V.any)) v43).bind fun v44 =>
 (bin2 Tryd.prog BinOp.add 3 (ot 47) (oc 1) (List.getD vs31 1 V.any) (vi 1)).bind fun v45 =>
 J39 [(V.sl (slL v44)), v45]) (
 J39 [(V.sl (slL (List.getD vs31 0 V.any))), (List.getD vs31 1 V.any)])) (
 J26 [(V.sl (slL (List.getD vs31 0 V.any))), (List.getD vs31 1 V.any)])) n) [(V.sl (slL (List.getD vs12 0 V.any))), (vi 0), (vi 0)]) (
 J10 [(V.sl (slL (List.getD vs12 0 V.any)))])) n) [(V.sl []), (vi 0)] := by kernel_rfl
noncomputable def t_drive_Drive_say (a0 : T_drive_Drive) : Option (List T_Msg) :=
 (loopI a0.left (fun (i20 : Int) x21 (s16 : (List T_Msg)) k17 =>
 ((idx a0.rounds (wr (a0.said - 1))).bind fun r38 =>
 (loopI r38 (fun (i56 : Int) x57 (s52 : ((List T_Msg) × Int)) k53 =>
 (if (decide (x57.Switch = x21)) = true then (
 (app s52.1 ([(T_Msg.mk 1 x21 (wr (a0.said - 1)) s52.2 x57)] : (List T_Msg))).bind fun r78 =>
 some (r78, (wr (s52.2 + 1)))) else (
 some (s52.1, s52.2))).bind fun (s69 : ((List T_Msg) × Int)) =>
 k53 (s69.1, s69.2)) (fun (s52 : ((List T_Msg) × Int)) =>
 some (s52.1, s52.2)) (s16, 0)).bind fun (s43 : ((List T_Msg) × Int)) =>
 (app s43.1 ([(T_Msg.mk 2 x21 (wr (a0.said - 1)) s43.2 (T_Op.mk 0 false (T_Rule.mk 0 (T_Cube.mk 0 0) 0 0 0)))] : (List T_Msg))).bind fun r49 =>
 some (r49)).bind fun (s28 : (List T_Msg)) =>
 k17 (s28)) (fun (s16 : (List T_Msg)) =>
 some (s16)) ([])).bind fun (s11 : (List T_Msg)) =>
 some s11
theorem ty_drive_Drive_say {n : Nat} (hn : bigN ≤ n) (a0 : T_drive_Drive) : Rv (fun x : (List T_Msg) => (V.sl (List.map T_Msg.c x))) (sem_drive_Drive_say n [(V.ptr (T_drive_Drive.c a0))]) (t_drive_Drive_say a0) := by
  rw [eq_drive_Drive_say]
  unfold t_drive_Drive_say
  refine tb (x := (V.ptr (T_drive_Drive.c a0))) (rfl) ?_
  refine tb (x := (V.ptr (List.drop 2 (T_drive_Drive.c a0)))) (rfl) ?_
  refine tb (x := (vi a0.said)) (rfl) ?_
  refine tb (x := (vi (wr (a0.said - 1)))) (d_sub) ?_
  refine tb (x := (V.ptr (T_drive_Drive.c a0))) (rfl) ?_
  refine tb (x := (V.ptr (List.drop 3 (T_drive_Drive.c a0)))) (rfl) ?_
  refine tb (x := (V.sl (List.map cI a0.left))) (rfl) ?_
  refine tb (x := (vi (List.length a0.left : Int))) (p_len _) ?_
  refine tjb (mk := fun s11 : (List T_Msg) => [(V.sl (List.map T_Msg.c s11))]) (fun J10 => ?_) fun s11 => ?_
  · refine rf_loopI (mk := fun (i20 : Int) (s16 : (List T_Msg)) => [(V.sl (List.map T_Msg.c s16)), (vi (i20 : Int))]) hn a0.left ([]) (fun i20 x21 h22 h23 h24 s16 rec14 k17 h18 => ?_) (fun s16 rec84 h83 => ?_)
    · refine tb (x := (vb (decide ((i20 : Int) < (List.length a0.left : Int))))) (d_lss) ?_
      refine tcond_t h24 ?_
      refine tjb (mk := fun s28 : (List T_Msg) => [(V.sl (List.map T_Msg.c s28))]) (fun J27 => ?_) fun s28 => ?_
      · refine tb (x := (V.ptr [(vi x21)])) (p_idx_at (c := cI) (fun _ => rfl) h22) ?_
        refine tb (x := (vi x21)) (rfl) ?_
        refine tb (x := (V.ptr (T_drive_Drive.c a0))) (rfl) ?_
        refine tb (x := (V.ptr (T_drive_Drive.c a0))) (rfl) ?_
        refine tb (x := (V.sl (List.map (cS T_Op.c) a0.rounds))) (rfl) ?_
        refine tbo (p_idx (c := (cS T_Op.c)) (fun _ => rfl) a0.rounds (wr (a0.said - 1))) fun r38 => ?_
        refine tb (x := (V.sl (List.map T_Op.c r38))) (rfl) ?_
        refine tb (x := (vi (List.length r38 : Int))) (p_len _) ?_
        refine tjb (mk := fun s43 : ((List T_Msg) × Int) => [(V.sl (List.map T_Msg.c s43.1)), (vi s43.2)]) (fun J42 => ?_) fun s43 => ?_
        · refine rf_loopI (mk := fun (i56 : Int) (s52 : ((List T_Msg) × Int)) => [(V.sl (List.map T_Msg.c s52.1)), (vi s52.2), (vi (i56 : Int))]) hn r38 (s16, 0) (fun i56 x57 h58 h59 h60 s52 rec50 k53 h54 => ?_) (fun s52 rec81 h80 => ?_)
          · refine tb (x := (vb (decide ((i56 : Int) < (List.length r38 : Int))))) (d_lss) ?_
            refine tcond_t h60 ?_
            refine tb (x := (V.ptr (T_Op.c x57))) (p_idx_at (c := T_Op.c) (fun _ => rfl) h58) ?_
            refine tb (x := (T_Op.e x57)) (rfl) ?_
            refine tb (x := V.agg (T_Op.c x57)) (by kernel_rfl) ?_
            refine tb (x := (vi x57.Switch)) (rfl) ?_
            refine tb (x := (vb (decide (x57.Switch = x21)))) (d_eql) ?_
            refine tjb (mk := fun s69 : ((List T_Msg) × Int) => [(V.sl (List.map T_Msg.c s69.1)), (vi s69.2)]) (fun J68 => ?_) fun s69 => ?_
            · refine tcond (fun h73 => ?_) (fun h73 => ?_)
              · refine tb (x := (T_Op.e x57)) (rfl) ?_
                refine tb (x := (T_Msg.e (T_Msg.mk 1 x21 (wr (a0.said - 1)) s52.2 x57))) (by kernel_rfl) ?_
                refine tb (x := (V.sl (List.map T_Msg.c ([(T_Msg.mk 1 x21 (wr (a0.said - 1)) s52.2 x57)] : (List T_Msg))))) (by kernel_rfl) ?_
                refine tbo (p_app (c := T_Msg.c) (fun _ => rfl) s52.1 ([(T_Msg.mk 1 x21 (wr (a0.said - 1)) s52.2 x57)] : (List T_Msg))) fun r78 => ?_
                refine tb (x := (vi (wr (s52.2 + 1)))) (d_add) ?_
                exact rf_j rfl
              · exact rf_j rfl
            · refine tb (x := (vi ((i56 : Int) + 1))) (p_incN h59) ?_
              exact h54 (s69.1, s69.2)
          · refine tb (x := (vb (decide ((List.length r38 : Int) < (List.length r38 : Int))))) (d_lss) ?_
            refine tcond_f h80 ?_
            exact rf_j rfl
        · refine tb (x := (T_Msg.e (T_Msg.mk 2 x21 (wr (a0.said - 1)) s43.2 (T_Op.mk 0 false (T_Rule.mk 0 (T_Cube.mk 0 0) 0 0 0))))) (by kernel_rfl) ?_
          refine tb (x := (V.sl (List.map T_Msg.c ([(T_Msg.mk 2 x21 (wr (a0.said - 1)) s43.2 (T_Op.mk 0 false (T_Rule.mk 0 (T_Cube.mk 0 0) 0 0 0)))] : (List T_Msg))))) (by kernel_rfl) ?_
          refine tbo (p_app (c := T_Msg.c) (fun _ => rfl) s43.1 ([(T_Msg.mk 2 x21 (wr (a0.said - 1)) s43.2 (T_Op.mk 0 false (T_Rule.mk 0 (T_Cube.mk 0 0) 0 0 0)))] : (List T_Msg))) fun r49 => ?_
          exact rf_j rfl
      · refine tb (x := (vi ((i20 : Int) + 1))) (p_incN h23) ?_
        exact h18 (s28)
    · refine tb (x := (vb (decide ((List.length a0.left : Int) < (List.length a0.left : Int))))) (d_lss) ?_
      refine tcond_f h83 ?_
      exact rf_j rfl
  · exact rf_ret rfl

/-!   railpoint/drive.Drive .Next -/
def an_drive_Drive_Next : Ann := .seq (.reg 0 [] [] []) (.seq (.seq (.reg 0 [] [] [2000005]) (.cond none (.seq (.reg 0 [] [] []) (.no)) (.no))) (.seq (.reg 11 [] [] [12, 19]) (.seq (.reg 0 [] [] []) (.seq (.reg 0 [] [] []) (.seq (.reg 0 [] [] [2000033, 3000033]) (.no))))))
noncomputable def sem_drive_Drive_Next (n : Nat) (xs : List V) : Option V := if xs.length ≤ 34 then denM Tryd.prog (envOf [(59, (sem_drive_Drive_May n)), (60 + 1000000, (sem_mix_Touched n)), (61 + 1000000 * (39 + 2), (sem_drive_Drive_say n))]) n Tryd.f27 an_drive_Drive_Next [2] none xs else none
theorem ok_drive_Drive_Next (n : Nat) : MSemOk Tryd.prog DW 27 (sem_drive_Drive_Next n) := fun xs y h => by
  unfold sem_drive_Drive_Next at h
  split at h
  · rename_i hl
    exact denM_ok Tryd.func27 (by kernel_rfl) (envOf_ok (semsOk_cons (ok_drive_Drive_May n) (semsOk_consM (ok_mix_Touched n) (semsOk_consR (ok_drive_Drive_say n) semsOk_nil)))) (by rw [Tryd.ntmps27]; exact hl) (by decide) h
  · cases h
theorem eq_drive_Drive_Next (n : Nat) (x0 : V) : sem_drive_Drive_Next n [x0] =
 (objG x0).bind fun v1 =>
 (some (frzQ x0)).bind fun v2 =>
 ((sem_drive_Drive_May n) [v2]).bind fun v4 =>
 (litQ v4).bind fun v3 =>
 (scal1 Tryd.prog (Op.unary Go.UnOp.not) v3).bind fun v5 =>
 condV v5 (
 (scal1 Tryd.prog (Instr.makeInterface 87) (vi 6)).bind fun v6 =>
 some (V.tup [(V.tup [(V.sl []), v6]), x0])) (
 (some V.any).bind fun v7 =>
 (some V.any).bind fun v8 =>
 ((nodeL x0 none 0).bind fun l9 => (l9[0]?).bind ownO).bind fun v10 =>
 (some V.any).bind fun v11 =>
 (some V.any).bind fun v12 =>
 ((nodeL x0 none 0).bind fun l13 => (ldk none (List.drop 2 l13)).bind pureO).bind fun v14 =>
 (((getV x0 [(Stp.mk none 0 0)]).bind oslR).bind fun rows15 => inB (List.length rows15) v14).bind fun v16 =>
 (((getV x0 [(Stp.mk none 0 0)]).bind fun y => nodeL y (some (natOf v14)) 1).bind fun l17 => (ldk none (List.drop 0 l17)).bind pureO).bind fun v18 =>
 ((sem_mix_Touched n) [v18]).bind fun z19 =>
 (some V.any).bind fun v20 =>
 (some V.any).bind fun v21 =>
 (V.cellsO (tupAt z19 0)).bind fun v22 =>
 (setV x0 [] (Stp.mk none 3 0) 1 v22).bind fun v23 =>
 (some V.any).bind fun v24 =>
 (some V.any).bind fun v25 =>
 ((nodeL v23 none 0).bind fun l26 => (ldk none (List.drop 2 l26)).bind pureO).bind fun v27 =>
 (bin2 Tryd.prog BinOp.add 3 (ot 25) (oc 1) v27 (vi 1)).bind fun v28 =>
 (some V.any).bind fun v29 =>
 (some V.any).bind fun v30 =>
 (V.cellsO v28).bind fun v31 =>
 (setV v23 [] (Stp.mk none 2 0) 1 v31).bind fun v32 =>
 (some V.any).bind fun v33 =>
 (some V.any).bind fun v34 =>
 (V.cellsO (vi 0)).bind fun v35 =>
 (setV v32 [] (Stp.mk none 4 0) 1 v35).bind fun v36 =>
 (some (frzQ v36)).bind fun v37 =>
 ((sem_drive_Drive_say n) [v37]).bind fun v39 =>
 (flatQ v39).bind fun v38 =>
 some (V.tup [(V.tup [v38, vn]), v36])) := by kernel_rfl
noncomputable def t_drive_Drive_Next (a0 : T_drive_Drive) : Option ((List T_Msg) × Int × T_drive_Drive) :=
 (t_drive_Drive_May a0).bind fun r3 =>
 if (!r3) = true then (
 some ([], 6, a0)) else (
 need (decide (0 ≤ a0.said) && decide (a0.said < (List.length a0.rounds : Int))) (
 (idx a0.rounds a0.said).bind fun r15 =>
 (t_mix_Touched r15).bind fun r18 =>
 (t_drive_Drive_say (T_drive_Drive.mk a0.rounds a0.wait (wr (a0.said + 1)) r18 0)).bind fun r36 =>
 some (r36, 0, (T_drive_Drive.mk a0.rounds a0.wait (wr (a0.said + 1)) r18 0))))
theorem ty_drive_Drive_Next {n : Nat} (hn : bigN ≤ n) (a0 : T_drive_Drive) : Rv (fun x : ((List T_Msg) × Int × T_drive_Drive) => (V.tup [(V.tup [(V.sl (List.map T_Msg.c x.1)), (eV x.2.1)]), (V.obj [(V.osl 1 (List.map (cS T_Op.c) x.2.2.rounds)), (vi x.2.2.wait), (vi x.2.2.said), (V.osl 1 (List.map cI x.2.2.left)), (vi x.2.2.ticks)])])) (sem_drive_Drive_Next n [(V.obj [(V.osl 1 (List.map (cS T_Op.c) a0.rounds)), (vi a0.wait), (vi a0.said), (V.osl 1 (List.map cI a0.left)), (vi a0.ticks)])]) (t_drive_Drive_Next a0) := by
  rw [eq_drive_Drive_Next]
  unfold t_drive_Drive_Next
  refine tb (x := V.any) rfl ?_
  refine tb (x := V.ptr (T_drive_Drive.c a0)) (p_frzQ (p_fzc (p_frzl (c' := (cS T_Op.c)) (fun _ => rfl) _) (p_fzc rfl (p_fzc rfl (p_fzc (p_frzl (c' := cI) (fun _ => rfl) _) (p_fzc rfl p_fz0)))))) ?_
  refine tbo (ty_drive_Drive_May hn a0) fun r3 => ?_
  refine tb (x := (vb r3)) rfl ?_
  refine tb (x := (vb (!r3))) (d_not) ?_
  refine tcond (fun h6 => ?_) (fun h6 => ?_)
  · refine tb (x := (eV 6)) (p_mkE (by decide)) ?_
    exact rf_ret rfl
  · refine tb (x := V.any) rfl ?_
    refine tb (x := V.any) rfl ?_
    refine tb (x := V.any) rfl ?_
    refine tb (x := V.any) rfl ?_
    refine tb (x := V.any) rfl ?_
    refine tb (x := (vi a0.said)) (rfl) ?_
    refine p_asc ?_
    refine p_asc ?_
    refine p_inF (y := (V.osl 1 (List.map (cS T_Op.c) a0.rounds))) rfl ?_
    refine p_in0 ?_
    refine p_cas ?_
    refine tneed (x := V.any) (fun h14 => p_inB (c := (cS T_Op.c)) (k := 1) a0.rounds a0.said h14) fun h14 => ?_
    refine p_asc ?_
    refine p_asc ?_
    refine p_inF (y := (V.osl 1 (List.map (cS T_Op.c) a0.rounds))) rfl ?_
    refine p_in0 ?_
    refine p_cas ?_
    refine tbo (p_oload (e1 := fun x : (List T_Op) => (V.sl (List.map T_Op.c x))) (c := (cS T_Op.c)) (fun _ => rfl) a0.rounds a0.said (fun _ => rfl)) fun r15 => ?_
    refine tbo (ty_mix_Touched hn r15) fun r18 => ?_
    refine tb (x := V.any) rfl ?_
    refine tb (x := V.any) rfl ?_
    refine tb (x := [(V.osl 1 (List.map cI r18))]) rfl ?_
    refine tb (x := (V.obj [(V.osl 1 (List.map (cS T_Op.c) a0.rounds)), (vi a0.wait), (vi a0.said), (V.osl 1 (List.map cI r18)), (vi a0.ticks)])) (by kernel_rfl) ?_
    refine tb (x := V.any) rfl ?_
    refine tb (x := V.any) rfl ?_
    refine tb (x := (vi a0.said)) (rfl) ?_
    refine tb (x := (vi (wr (a0.said + 1)))) (d_add) ?_
    refine tb (x := V.any) rfl ?_
    refine tb (x := V.any) rfl ?_
    refine tb (x := [(vi (wr (a0.said + 1)))]) rfl ?_
    refine tb (x := (V.obj [(V.osl 1 (List.map (cS T_Op.c) a0.rounds)), (vi a0.wait), (vi (wr (a0.said + 1))), (V.osl 1 (List.map cI r18)), (vi a0.ticks)])) (by kernel_rfl) ?_
    refine tb (x := V.any) rfl ?_
    refine tb (x := V.any) rfl ?_
    refine tb (x := [(vi 0)]) rfl ?_
    refine tb (x := (V.obj [(V.osl 1 (List.map (cS T_Op.c) a0.rounds)), (vi a0.wait), (vi (wr (a0.said + 1))), (V.osl 1 (List.map cI r18)), (vi 0)])) (by kernel_rfl) ?_
    refine tb (x := V.ptr (T_drive_Drive.c (T_drive_Drive.mk a0.rounds a0.wait (wr (a0.said + 1)) r18 0))) (p_frzQ (p_fzc (p_frzl (c' := (cS T_Op.c)) (fun _ => rfl) _) (p_fzc rfl (p_fzc rfl (p_fzc (p_frzl (c' := cI) (fun _ => rfl) _) (p_fzc rfl p_fz0)))))) ?_
    refine tbo (ty_drive_Drive_say hn (T_drive_Drive.mk a0.rounds a0.wait (wr (a0.said + 1)) r18 0)) fun r36 => ?_
    refine tb (x := (V.sl (List.map T_Msg.c r36))) (p_flatQ (fun _ => rfl) r36) ?_
    exact rf_ret rfl

/-!   railpoint/railref2.Drive .Tick -/
def an_railref2_Drive_Tick : Ann := .seq (.reg 0 [] [] []) (.seq (.seq (.reg 0 [] [] []) (.cond none (.seq (.reg 0 [] [] []) (.no)) (.no))) (.seq (.reg 0 [] [] []) (.seq (.seq (.reg 10 [] [] []) (.cond none (.seq (.reg 0 [] [] []) (.no)) (.no))) (.seq (.reg 0 [] [] [2000027, 3000027]) (.no)))))
noncomputable def sem_railref2_Drive_Tick (n : Nat) (xs : List V) : Option V := if xs.length ≤ 28 then denM Tryd.prog (envOf [(66 + 1000000 * (39 + 2), (sem_railref2_Drive_say n))]) n Tryd.f34 an_railref2_Drive_Tick [2] none xs else none
theorem ok_railref2_Drive_Tick (n : Nat) : MSemOk Tryd.prog DW 34 (sem_railref2_Drive_Tick n) := fun xs y h => by
  unfold sem_railref2_Drive_Tick at h
  split at h
  · rename_i hl
    exact denM_ok Tryd.func34 (by kernel_rfl) (envOf_ok (semsOk_consR (ok_railref2_Drive_say n) semsOk_nil)) (by rw [Tryd.ntmps34]; exact hl) (by decide) h
  · cases h
theorem eq_railref2_Drive_Tick (n : Nat) (x0 : V) : sem_railref2_Drive_Tick n [x0] =
 (objG x0).bind fun v1 =>
 (some V.any).bind fun v2 =>
 (some V.any).bind fun v3 =>
 ((nodeL x0 none 0).bind fun l4 => (ldk none (List.drop 3 l4)).bind pureO).bind fun v5 =>
 (lenS [v5]).bind fun v6 =>
 (bin2 Tryd.prog BinOp.eql 3 (ot 7) (oc 0) v6 (vi 0)).bind fun v7 =>
 condV v7 (
 some (V.tup [(V.sl []), x0])) (
 (some V.any).bind fun v8 =>
 (some V.any).bind fun v9 =>
 ((nodeL x0 none 0).bind fun l10 => (ldk none (List.drop 4 l10)).bind pureO).bind fun v11 =>
 (bin2 Tryd.prog BinOp.add 3 (ot 12) (oc 1) v11 (vi 1)).bind fun v12 =>
 (some V.any).bind fun v13 =>
 (some V.any).bind fun v14 =>
 (V.cellsO v12).bind fun v15 =>
 (setV x0 [] (Stp.mk none 4 0) 1 v15).bind fun v16 =>
 (some V.any).bind fun v17 =>
 (some V.any).bind fun v18 =>
 ((nodeL v16 none 0).bind fun l19 => (ldk none (List.drop 4 l19)).bind pureO).bind fun v20 =>
 (some V.any).bind fun v21 =>
 (some V.any).bind fun v22 =>
 ((nodeL v16 none 0).bind fun l23 => (ldk none (List.drop 1 l23)).bind pureO).bind fun v24 =>
 (bin2 Tryd.prog BinOp.rem 3 (ot 19) (ot 23) v20 v24).bind fun v25 =>
 (bin2 Tryd.prog BinOp.neq 3 (ot 24) (oc 0) v25 (vi 0)).bind fun v26 =>
 condV v26 (
 some (V.tup [(V.sl []), v16])) (
 (some (frzQ v16)).bind fun v27 =>
 ((sem_railref2_Drive_say n) [v27]).bind fun v29 =>
 (flatQ v29).bind fun v28 =>
 some (V.tup [v28, v16]))) := by kernel_rfl
noncomputable def t_railref2_Drive_Tick (a0 : T_railref2_Drive) : Option ((List T_Msg) × T_railref2_Drive) :=
 if (decide ((List.length a0.Left : Int) = 0)) = true then (
 some ([], a0)) else (
 need (decide (a0.Wait ≠ 0)) (
 if (decide ((Int.tmod (wr (a0.Ticks + 1)) a0.Wait) ≠ 0)) = true then (
 some ([], (T_railref2_Drive.mk a0.Rounds a0.Wait a0.Said a0.Left (wr (a0.Ticks + 1))))) else (
 (t_railref2_Drive_say (T_railref2_Drive.mk a0.Rounds a0.Wait a0.Said a0.Left (wr (a0.Ticks + 1)))).bind fun r26 =>
 some (r26, (T_railref2_Drive.mk a0.Rounds a0.Wait a0.Said a0.Left (wr (a0.Ticks + 1)))))))
theorem ty_railref2_Drive_Tick {n : Nat} (hn : bigN ≤ n) (a0 : T_railref2_Drive) : Rv (fun x : ((List T_Msg) × T_railref2_Drive) => (V.tup [(V.sl (List.map T_Msg.c x.1)), (V.obj (T_railref2_Drive.c x.2))])) (sem_railref2_Drive_Tick n [(V.obj (T_railref2_Drive.c a0))]) (t_railref2_Drive_Tick a0) := by
  rw [eq_railref2_Drive_Tick]
  unfold t_railref2_Drive_Tick
  refine tb (x := V.any) rfl ?_
  refine tb (x := V.any) rfl ?_
  refine tb (x := V.any) rfl ?_
  refine tb (x := (V.sl (List.map cI a0.Left))) (rfl) ?_
  refine tb (x := (vi (List.length a0.Left : Int))) (p_len _) ?_
  refine tb (x := (vb (decide ((List.length a0.Left : Int) = 0)))) (d_eql) ?_
  refine tcond (fun h7 => ?_) (fun h7 => ?_)
  · exact rf_ret rfl
  · refine tb (x := V.any) rfl ?_
    refine tb (x := V.any) rfl ?_
    refine tb (x := (vi a0.Ticks)) (rfl) ?_
    refine tb (x := (vi (wr (a0.Ticks + 1)))) (d_add) ?_
    refine tb (x := V.any) rfl ?_
    refine tb (x := V.any) rfl ?_
    refine tb (x := [(vi (wr (a0.Ticks + 1)))]) rfl ?_
    refine tb (x := V.obj (T_railref2_Drive.c (T_railref2_Drive.mk a0.Rounds a0.Wait a0.Said a0.Left (wr (a0.Ticks + 1))))) (by kernel_rfl) ?_
    refine tb (x := V.any) rfl ?_
    refine tb (x := V.any) rfl ?_
    refine tb (x := (vi (wr (a0.Ticks + 1)))) (rfl) ?_
    refine tb (x := V.any) rfl ?_
    refine tb (x := V.any) rfl ?_
    refine tb (x := (vi a0.Wait)) (rfl) ?_
    refine tneed (x := (vi (Int.tmod (wr (a0.Ticks + 1)) a0.Wait))) (fun h28 => p_rem h28) fun h28 => ?_
    refine tb (x := (vb (decide ((Int.tmod (wr (a0.Ticks + 1)) a0.Wait) ≠ 0)))) (d_neq) ?_
    refine tcond (fun h24 => ?_) (fun h24 => ?_)
    · exact rf_ret rfl
    · refine tb (x := V.ptr (T_railref2_Drive.c (T_railref2_Drive.mk a0.Rounds a0.Wait a0.Said a0.Left (wr (a0.Ticks + 1))))) (p_frzQ (p_fzc rfl (p_fzc rfl (p_fzc rfl (p_fzc rfl (p_fzc rfl p_fz0)))))) ?_
      refine tbo (ty_railref2_Drive_say hn (T_railref2_Drive.mk a0.Rounds a0.Wait a0.Said a0.Left (wr (a0.Ticks + 1)))) fun r26 => ?_
      refine tb (x := (V.sl (List.map T_Msg.c r26))) (p_flatQ (fun _ => rfl) r26) ?_
      exact rf_ret rfl

/-!   railpoint/drive.Drive .Tick -/
def an_drive_Drive_Tick : Ann := .seq (.reg 0 [] [] []) (.seq (.seq (.reg 0 [] [] [6]) (.cond none (.seq (.reg 0 [] [] []) (.no)) (.no))) (.seq (.seq (.reg 0 [] [] []) (.seq (.reg 10 [] [] []) (.cond none (.seq (.reg 0 [] [] []) (.no)) (.no)))) (.seq (.reg 0 [] [] [2000027, 3000027]) (.no))))
noncomputable def sem_drive_Drive_Tick (n : Nat) (xs : List V) : Option V := if xs.length ≤ 28 then denM Tryd.prog (envOf [(61 + 1000000 * (39 + 2), (sem_drive_Drive_say n))]) n Tryd.f35 an_drive_Drive_Tick [2] none xs else none
theorem ok_drive_Drive_Tick (n : Nat) : MSemOk Tryd.prog DW 35 (sem_drive_Drive_Tick n) := fun xs y h => by
  unfold sem_drive_Drive_Tick at h
  split at h
  · rename_i hl
    exact denM_ok Tryd.func35 (by kernel_rfl) (envOf_ok (semsOk_consR (ok_drive_Drive_say n) semsOk_nil)) (by rw [Tryd.ntmps35]; exact hl) (by decide) h
  · cases h
theorem eq_drive_Drive_Tick (n : Nat) (x0 : V) : sem_drive_Drive_Tick n [x0] =
 (objG x0).bind fun v1 =>
 (some V.any).bind fun v2 =>
 (some V.any).bind fun v3 =>
 ((nodeL x0 none 0).bind fun l4 => (l4[3]?).bind ownO).bind fun v5 =>
 (((getV x0 [(Stp.mk none 3 0)]).bind oslR).map fun rows => V.lit (Go.Value.int Go.IntKind.i64 (List.length rows))).bind fun v6 =>
 (bin2 Tryd.prog BinOp.eql 3 (ot 7) (oc 0) v6 (vi 0)).bind fun v7 =>
 condV v7 (
 some (V.tup [(V.sl []), x0])) (
 (some V.any).bind fun v8 =>
 (some V.any).bind fun v9 =>
 ((nodeL x0 none 0).bind fun l10 => (ldk none (List.drop 4 l10)).bind pureO).bind fun v11 =>
 (bin2 Tryd.prog BinOp.add 3 (ot 12) (oc 1) v11 (vi 1)).bind fun v12 =>
 (some V.any).bind fun v13 =>
 (some V.any).bind fun v14 =>
 (V.cellsO v12).bind fun v15 =>
 (setV x0 [] (Stp.mk none 4 0) 1 v15).bind fun v16 =>
 (some V.any).bind fun v17 =>
 (some V.any).bind fun v18 =>
 ((nodeL v16 none 0).bind fun l19 => (ldk none (List.drop 4 l19)).bind pureO).bind fun v20 =>
 (some V.any).bind fun v21 =>
 (some V.any).bind fun v22 =>
 ((nodeL v16 none 0).bind fun l23 => (ldk none (List.drop 1 l23)).bind pureO).bind fun v24 =>
 (bin2 Tryd.prog BinOp.rem 3 (ot 19) (ot 23) v20 v24).bind fun v25 =>
 (bin2 Tryd.prog BinOp.neq 3 (ot 24) (oc 0) v25 (vi 0)).bind fun v26 =>
 condV v26 (
 some (V.tup [(V.sl []), v16])) (
 (some (frzQ v16)).bind fun v27 =>
 ((sem_drive_Drive_say n) [v27]).bind fun v29 =>
 (flatQ v29).bind fun v28 =>
 some (V.tup [v28, v16]))) := by kernel_rfl
noncomputable def t_drive_Drive_Tick (a0 : T_drive_Drive) : Option ((List T_Msg) × T_drive_Drive) :=
 if (decide ((List.length a0.left : Int) = 0)) = true then (
 some ([], a0)) else (
 need (decide (a0.wait ≠ 0)) (
 if (decide ((Int.tmod (wr (a0.ticks + 1)) a0.wait) ≠ 0)) = true then (
 some ([], (T_drive_Drive.mk a0.rounds a0.wait a0.said a0.left (wr (a0.ticks + 1))))) else (
 (t_drive_Drive_say (T_drive_Drive.mk a0.rounds a0.wait a0.said a0.left (wr (a0.ticks + 1)))).bind fun r26 =>
 some (r26, (T_drive_Drive.mk a0.rounds a0.wait a0.said a0.left (wr (a0.ticks + 1)))))))
theorem ty_drive_Drive_Tick {n : Nat} (hn : bigN ≤ n) (a0 : T_drive_Drive) : Rv (fun x : ((List T_Msg) × T_drive_Drive) => (V.tup [(V.sl (List.map T_Msg.c x.1)), (V.obj [(V.osl 1 (List.map (cS T_Op.c) x.2.rounds)), (vi x.2.wait), (vi x.2.said), (V.osl 1 (List.map cI x.2.left)), (vi x.2.ticks)])])) (sem_drive_Drive_Tick n [(V.obj [(V.osl 1 (List.map (cS T_Op.c) a0.rounds)), (vi a0.wait), (vi a0.said), (V.osl 1 (List.map cI a0.left)), (vi a0.ticks)])]) (t_drive_Drive_Tick a0) := by
  rw [eq_drive_Drive_Tick]
  unfold t_drive_Drive_Tick
  refine tb (x := V.any) rfl ?_
  refine tb (x := V.any) rfl ?_
  refine tb (x := V.any) rfl ?_
  refine tb (x := V.any) rfl ?_
  refine tb (x := (vi (List.length a0.left : Int))) (p_olenF (c := cI) rfl a0.left) ?_
  refine tb (x := (vb (decide ((List.length a0.left : Int) = 0)))) (d_eql) ?_
  refine tcond (fun h7 => ?_) (fun h7 => ?_)
  · exact rf_ret rfl
  · refine tb (x := V.any) rfl ?_
    refine tb (x := V.any) rfl ?_
    refine tb (x := (vi a0.ticks)) (rfl) ?_
    refine tb (x := (vi (wr (a0.ticks + 1)))) (d_add) ?_
    refine tb (x := V.any) rfl ?_
    refine tb (x := V.any) rfl ?_
    refine tb (x := [(vi (wr (a0.ticks + 1)))]) rfl ?_
    refine tb (x := (V.obj [(V.osl 1 (List.map (cS T_Op.c) a0.rounds)), (vi a0.wait), (vi a0.said), (V.osl 1 (List.map cI a0.left)), (vi (wr (a0.ticks + 1)))])) (by kernel_rfl) ?_
    refine tb (x := V.any) rfl ?_
    refine tb (x := V.any) rfl ?_
    refine tb (x := (vi (wr (a0.ticks + 1)))) (rfl) ?_
    refine tb (x := V.any) rfl ?_
    refine tb (x := V.any) rfl ?_
    refine tb (x := (vi a0.wait)) (rfl) ?_
    refine tneed (x := (vi (Int.tmod (wr (a0.ticks + 1)) a0.wait))) (fun h28 => p_rem h28) fun h28 => ?_
    refine tb (x := (vb (decide ((Int.tmod (wr (a0.ticks + 1)) a0.wait) ≠ 0)))) (d_neq) ?_
    refine tcond (fun h24 => ?_) (fun h24 => ?_)
    · exact rf_ret rfl
    · refine tb (x := V.ptr (T_drive_Drive.c (T_drive_Drive.mk a0.rounds a0.wait a0.said a0.left (wr (a0.ticks + 1))))) (p_frzQ (p_fzc (p_frzl (c' := (cS T_Op.c)) (fun _ => rfl) _) (p_fzc rfl (p_fzc rfl (p_fzc (p_frzl (c' := cI) (fun _ => rfl) _) (p_fzc rfl p_fz0)))))) ?_
      refine tbo (ty_drive_Drive_say hn (T_drive_Drive.mk a0.rounds a0.wait a0.said a0.left (wr (a0.ticks + 1)))) fun r26 => ?_
      refine tb (x := (V.sl (List.map T_Msg.c r26))) (p_flatQ (fun _ => rfl) r26) ?_
      exact rf_ret rfl

/-! railpoint/railref2.Msg -/
def an_railref2_Msg : Ann := .seq (.reg 0 [] [] []) (.seq (.seq (.reg 0 [] [] []) (.cond none (.seq (.reg 0 [] [] []) (.no)) (.no))) (.seq (.seq (.reg 0 [] [] []) (.cond none (.seq (.seq (.reg 0 [] [] []) (.cond none (.seq (.reg 0 [] [] []) (.no)) (.no))) (.seq (.reg 0 [] [] []) (.no))) (.no))) (.seq (.reg 0 [] [] []) (.seq (.seq (.reg 0 [] [] []) (.cond none (.seq (.reg 0 [] [] []) (.no)) (.no))) (.seq (.seq (.reg 0 [] [] []) (.cond none (.seq (.reg 0 [] [] []) (.no)) (.no))) (.seq (.reg 0 [] [] []) (.no)))))))
noncomputable def sem_railref2_Msg (n : Nat) (xs : List V) : Option V := if xs.length ≤ 72 then denF Tryd.prog (envOf [(43, (sem_railref1_Rule n))]) n Tryd.f44 an_railref2_Msg xs else none
theorem ok_railref2_Msg (n : Nat) : SemOk Tryd.prog DW 44 (sem_railref2_Msg n) := fun xs y h => by
  unfold sem_railref2_Msg at h
  split at h
  · rename_i hl
    exact denF_ok stb Tryd.func44 (by kernel_rfl) (envOf_ok (semsOk_cons (ok_railref1_Rule n) semsOk_nil)) (by rw [Tryd.ntmps44]; exact hl) h
  · cases h
theorem eq_railref2_Msg (n : Nat) (x0 : V) : sem_railref2_Msg n [x0] =
 (V.cellsO x0).bind fun v1 =>
 (ldk none (List.drop 0 v1)).bind fun v2 =>
 (bin2 Tryd.prog BinOp.lss 3 (ot 5) (oc 1) v2 (vi 1)).bind fun v3 =>
 (guardV v3 false (some V.any)).bind fun v4 =>
 (guardV v3 false ((gate v3 false (ldk none (List.drop 0 v1))).bind fun v5 =>
 some v5)).bind fun v6 =>
 (guardV v3 false ((bin2 Tryd.prog BinOp.gtr 3 (ot 9) (oc 3) v6 (vi 3)).bind fun v7 =>
 some v7)).bind fun v8 =>
 (pickV v3 (vb true) v8).bind fun v9 =>
 (guardV v9 false (some V.any)).bind fun v10 =>
 (guardV v9 false ((gate v9 false (ldk none (List.drop 1 v1))).bind fun v11 =>
 some v11)).bind fun v12 =>
 (guardV v9 false ((bin2 Tryd.prog BinOp.lss 3 (ot 14) (oc 1) v12 (vi 1)).bind fun v13 =>
 some v13)).bind fun v14 =>
 (pickV v9 (vb true) v14).bind fun v15 =>
 (guardV v15 false (some V.any)).bind fun v16 =>
 (guardV v15 false ((gate v15 false (ldk none (List.drop 1 v1))).bind fun v17 =>
 some v17)).bind fun v18 =>
 (guardV v15 false ((bin2 Tryd.prog BinOp.gtr 3 (ot 19) (oc 6) v18 (vi 6)).bind fun v19 =>
 some v19)).bind fun v20 =>
 (pickV v15 (vb true) v20).bind fun v21 =>
 (guardV v21 false (some V.any)).bind fun v22 =>
 (guardV v21 false ((gate v21 false (ldk none (List.drop 2 v1))).bind fun v23 =>
 some v23)).bind fun v24 =>
 (guardV v21 false ((bin2 Tryd.prog BinOp.lss 3 (ot 24) (oc 0) v24 (vi 0)).bind fun v25 =>
 some v25)).bind fun v26 =>
 (pickV v21 (vb true) v26).bind fun v27 =>
 (guardV v27 false (some V.any)).bind fun v28 =>
 (guardV v27 false ((gate v27 false (ldk none (List.drop 2 v1))).bind fun v29 =>
 some v29)).bind fun v30 =>
 (guardV v27 false ((bin2 Tryd.prog BinOp.gtr 3 (ot 29) (oc 19) v30 (vi 19)).bind fun v31 =>
 some v31)).bind fun v32 =>
 (pickV v27 (vb true) v32).bind fun v33 =>
 (guardV v33 false (some V.any)).bind fun v34 =>
 (guardV v33 false ((gate v33 false (ldk none (List.drop 3 v1))).bind fun v35 =>
 some v35)).bind fun v36 =>
 (guardV v33 false ((bin2 Tryd.prog BinOp.lss 3 (ot 34) (oc 0) v36 (vi 0)).bind fun v37 =>
 some v37)).bind fun v38 =>
 (pickV v33 (vb true) v38).bind fun v39 =>
 (guardV v39 false (some V.any)).bind fun v40 =>
 (guardV v39 false ((gate v39 false (ldk none (List.drop 3 v1))).bind fun v41 =>
 some v41)).bind fun v42 =>
 (guardV v39 false ((bin2 Tryd.prog BinOp.gtr 3 (ot 39) (oc 200) v42 (vi 200)).bind fun v43 =>
 some v43)).bind fun v44 =>
 (pickV v39 (vb true) v44).bind fun v45 =>
 condV v45 (
 some (vi 1)) (
 (ldk none (List.drop 0 v1)).bind fun v46 =>
 (bin2 Tryd.prog BinOp.neq 3 (ot 43) (oc 1) v46 (vi 1)).bind fun v47 =>
 condV v47 (
 (ldk (some 8) (List.drop 4 v1)).bind fun v48 =>
 ((fillL [(vi 0), (vb false), (vi 0), (vi 0), (vi 0), (vi 0), (vi 0), (vi 0)] []).map V.agg).bind fun v49 =>
 (bin2 Tryd.prog BinOp.neq 37 (ot 46) (ot 47) v48 v49).bind fun v50 =>
 (guardV v50 false (some V.any)).bind fun v51 =>
 (guardV v50 false ((gate v50 false (ldk none (List.drop 0 v1))).bind fun v52 =>
 some v52)).bind fun v53 =>
 (guardV v50 false ((bin2 Tryd.prog BinOp.eql 3 (ot 51) (oc 3) v53 (vi 3)).bind fun v54 =>
 some v54)).bind fun v55 =>
 (guardV v50 false (some v55)).bind fun v56 =>
 (guardV v56 true (some V.any)).bind fun v57 =>
 (guardV v56 true ((gate v56 true (ldk none (List.drop 3 v1))).bind fun v58 =>
 some v58)).bind fun v59 =>
 (guardV v56 true ((bin2 Tryd.prog BinOp.neq 3 (ot 55) (oc 0) v59 (vi 0)).bind fun v60 =>
 some v60)).bind fun v61 =>
 (guardV v50 false ((pickV v56 v61 (vb false)).bind fun v62 =>
 some v62)).bind fun v63 =>
 (pickV v50 (vb true) v63).bind fun v64 =>
 condV v64 (
 some (vi 3)) (
 some (vi 0))) (
 (ldk (some 6) (List.drop 6 v1)).bind fun v65 =>
 ((sem_railref1_Rule n) [v65]).bind fun v66 =>
 (bin2 Tryd.prog BinOp.neq 3 (ot 63) (oc 0) v66 (vi 0)).bind fun v67 =>
 condV v67 (
 some v66) (
 (ldk none (List.drop 4 v1)).bind fun v68 =>
 (ldk none (List.drop 1 v1)).bind fun v69 =>
 (bin2 Tryd.prog BinOp.neq 3 (ot 68) (ot 70) v68 v69).bind fun v70 =>
 condV v70 (
 some (vi 3)) (
 some (vi 0))))) := by kernel_rfl
noncomputable def t_railref2_Msg (a0 : T_Msg) : Option Int :=
 (some ((((((decide (a0.Kind < 1)) || (decide (3 < a0.Kind))) || (decide (a0.Switch < 1))) || (decide (6 < a0.Switch))) || (decide (a0.Round < 0))) || (decide (19 < a0.Round)))).bind fun r49 =>
 if ((r49 || (decide (a0.Index < 0))) || (decide (200 < a0.Index))) = true then (
 some 1) else (
 if (decide (a0.Kind ≠ 1)) = true then (
 if ((!decide (a0.Op = (T_Op.mk 0 false (T_Rule.mk 0 (T_Cube.mk 0 0) 0 0 0)))) || ((decide (a0.Kind = 3)) && (decide (a0.Index ≠ 0)))) = true then (
 some 3) else (
 some 0)) else (
 (t_railref1_Rule a0.Op.Rule).bind fun r100 =>
 if (decide (r100 ≠ 0)) = true then (
 some r100) else (
 if (decide (a0.Op.Switch ≠ a0.Switch)) = true then (
 some 3) else (
 some 0))))
theorem ty_railref2_Msg {n : Nat} (hn : bigN ≤ n) (a0 : T_Msg) : Rv (fun x : Int => (vi x)) (sem_railref2_Msg n [(T_Msg.e a0)]) (t_railref2_Msg a0) := by
  rw [eq_railref2_Msg]
  unfold t_railref2_Msg
  refine tb (x := (T_Msg.c a0)) rfl ?_
  refine tb (x := (vi a0.Kind)) (rfl) ?_
  refine tb (x := (vb (decide (a0.Kind < 1)))) (d_lss) ?_
  refine tg_f (x := V.any) (fun h4 => rfl) ?_
  refine tg_f (x := (vi a0.Kind)) (fun h6 => bind_some_eq (gate_pos (not_t h6) (rfl))) ?_
  refine tg_f (x := (vb (decide (3 < a0.Kind)))) (fun h9 => by simp only [gv_t h9]; exact bind_some_eq (d_gtr)) ?_
  refine tb (x := (vb ((decide (a0.Kind < 1)) || (decide (3 < a0.Kind))))) (pick_or (fun h9 => gv_t (not_f h9))) ?_
  refine tg_f (x := V.any) (fun h13 => rfl) ?_
  refine tg_f (x := (vi a0.Switch)) (fun h15 => bind_some_eq (gate_pos (not_t h15) (rfl))) ?_
  refine tg_f (x := (vb (decide (a0.Switch < 1)))) (fun h18 => by simp only [gv_t h18]; exact bind_some_eq (d_lss)) ?_
  refine tb (x := (vb (((decide (a0.Kind < 1)) || (decide (3 < a0.Kind))) || (decide (a0.Switch < 1))))) (pick_or (fun h9 => gv_t (not_f h9))) ?_
  refine tg_f (x := V.any) (fun h22 => rfl) ?_
  refine tg_f (x := (vi a0.Switch)) (fun h24 => bind_some_eq (gate_pos (not_t h24) (rfl))) ?_
  refine tg_f (x := (vb (decide (6 < a0.Switch)))) (fun h27 => by simp only [gv_t h27]; exact bind_some_eq (d_gtr)) ?_
  refine tb (x := (vb ((((decide (a0.Kind < 1)) || (decide (3 < a0.Kind))) || (decide (a0.Switch < 1))) || (decide (6 < a0.Switch))))) (pick_or (fun h9 => gv_t (not_f h9))) ?_
  refine tg_f (x := V.any) (fun h31 => rfl) ?_
  refine tg_f (x := (vi a0.Round)) (fun h33 => bind_some_eq (gate_pos (not_t h33) (rfl))) ?_
  refine tg_f (x := (vb (decide (a0.Round < 0)))) (fun h36 => by simp only [gv_t h36]; exact bind_some_eq (d_lss)) ?_
  refine tb (x := (vb (((((decide (a0.Kind < 1)) || (decide (3 < a0.Kind))) || (decide (a0.Switch < 1))) || (decide (6 < a0.Switch))) || (decide (a0.Round < 0))))) (pick_or (fun h9 => gv_t (not_f h9))) ?_
  refine tg_f (x := V.any) (fun h40 => rfl) ?_
  refine tg_f (x := (vi a0.Round)) (fun h42 => bind_some_eq (gate_pos (not_t h42) (rfl))) ?_
  refine tg_f (x := (vb (decide (19 < a0.Round)))) (fun h45 => by simp only [gv_t h45]; exact bind_some_eq (d_gtr)) ?_
  refine tbo (e1 := fun x : Bool => (vb x)) (rf_eq (pick_or (fun h9 => gv_t (not_f h9))) rfl) fun r49 => ?_
  refine tg_f (x := V.any) (fun h50 => rfl) ?_
  refine tg_f (x := (vi a0.Index)) (fun h52 => bind_some_eq (gate_pos (not_t h52) (rfl))) ?_
  refine tg_f (x := (vb (decide (a0.Index < 0)))) (fun h55 => by simp only [gv_t h55]; exact bind_some_eq (d_lss)) ?_
  refine tb (x := (vb (r49 || (decide (a0.Index < 0))))) (pick_or (fun h9 => gv_t (not_f h9))) ?_
  refine tg_f (x := V.any) (fun h59 => rfl) ?_
  refine tg_f (x := (vi a0.Index)) (fun h61 => bind_some_eq (gate_pos (not_t h61) (rfl))) ?_
  refine tg_f (x := (vb (decide (200 < a0.Index)))) (fun h64 => by simp only [gv_t h64]; exact bind_some_eq (d_gtr)) ?_
  refine tb (x := (vb ((r49 || (decide (a0.Index < 0))) || (decide (200 < a0.Index))))) (pick_or (fun h9 => gv_t (not_f h9))) ?_
  refine tcond (fun h68 => ?_) (fun h68 => ?_)
  · exact rf_ret rfl
  · refine tb (x := (vi a0.Kind)) (rfl) ?_
    refine tb (x := (vb (decide (a0.Kind ≠ 1)))) (d_neq) ?_
    refine tcond (fun h71 => ?_) (fun h71 => ?_)
    · refine tb (x := (T_Op.e a0.Op)) (rfl) ?_
      refine tb (x := (T_Op.e (T_Op.mk 0 false (T_Rule.mk 0 (T_Cube.mk 0 0) 0 0 0)))) (by kernel_rfl) ?_
      refine tb (x := (vb (!decide (a0.Op = (T_Op.mk 0 false (T_Rule.mk 0 (T_Cube.mk 0 0) 0 0 0)))))) (T_Op.neq a0.Op (T_Op.mk 0 false (T_Rule.mk 0 (T_Cube.mk 0 0) 0 0 0))) ?_
      refine tg_f (x := V.any) (fun h75 => rfl) ?_
      refine tg_f (x := (vi a0.Kind)) (fun h77 => bind_some_eq (gate_pos (not_t h77) (rfl))) ?_
      refine tg_f (x := (vb (decide (a0.Kind = 3)))) (fun h80 => by simp only [gv_t h80]; exact bind_some_eq (d_eql)) ?_
      refine tg_f (x := (vb (decide (a0.Kind = 3)))) (fun h83 => congrArg some (gv_t h83)) ?_
      refine tg2 (x := V.any) (fun h85 => rfl) ?_
      refine tg2 (x := (vi a0.Index)) (fun h87 => bind_some_eq (gate_pos2 (and_l h87) (and_r h87) (rfl))) ?_
      refine tg2 (x := (vb (decide (a0.Index ≠ 0)))) (fun h90 => by simp only [gv_t h90]; exact bind_some_eq (d_neq)) ?_
      refine tg_f (x := (vb ((decide (a0.Kind = 3)) && (decide (a0.Index ≠ 0))))) (fun h93 => by simp only [gv_t h93]; exact bind_some_eq (pick_and (fun h9 => gv_t (and_i h93 h9)))) ?_
      refine tb (x := (vb ((!decide (a0.Op = (T_Op.mk 0 false (T_Rule.mk 0 (T_Cube.mk 0 0) 0 0 0)))) || ((decide (a0.Kind = 3)) && (decide (a0.Index ≠ 0)))))) (pick_or (fun h9 => gv_t (not_f h9))) ?_
      refine tcond (fun h97 => ?_) (fun h97 => ?_)
      · exact rf_ret rfl
      · exact rf_ret rfl
    · refine tb (x := (T_Rule.e a0.Op.Rule)) (rfl) ?_
      refine tbo (ty_railref1_Rule hn a0.Op.Rule) fun r100 => ?_
      refine tb (x := (vb (decide (r100 ≠ 0)))) (d_neq) ?_
      refine tcond (fun h102 => ?_) (fun h102 => ?_)
      · exact rf_ret rfl
      · refine tb (x := (vi a0.Op.Switch)) (rfl) ?_
        refine tb (x := (vi a0.Switch)) (rfl) ?_
        refine tb (x := (vb (decide (a0.Op.Switch ≠ a0.Switch)))) (d_neq) ?_
        refine tcond (fun h106 => ?_) (fun h106 => ?_)
        · exact rf_ret rfl
        · exact rf_ret rfl

/-! railpoint/railref2.In -/
def an_railref2_In : Ann := .seq (.reg 0 [] [] []) (.seq (.seq (.reg 0 [] [] []) (.blk (some []) (.loop [.s 5] (.seq (.seq (.reg 0 [] [] []) (.cond none (.no) (.no))) (.seq (.blk none (.seq (.reg 0 [] [] []) (.cond none (.seq (.reg 0 [] [] []) (.no)) (.no)))) (.reg 0 [] [] [])))))) (.seq (.reg 0 [] [] []) (.no)))
noncomputable def sem_railref2_In (n : Nat) (xs : List V) : Option V := if xs.length ≤ 18 then denF Tryd.prog (envOf []) n Tryd.f45 an_railref2_In xs else none
theorem ok_railref2_In (n : Nat) : SemOk Tryd.prog DW 45 (sem_railref2_In n) := fun xs y h => by
  unfold sem_railref2_In at h
  split at h
  · rename_i hl
    exact denF_ok stb Tryd.func45 (by kernel_rfl) (envOf_ok semsOk_nil) (by rw [Tryd.ntmps45]; exact hl) h
  · cases h
theorem eq_railref2_In (n : Nat) (x0 x1 : V) : sem_railref2_In n [x0, x1] =
 JoinPt (fun vs1 =>
 some (vb false)) fun J2 =>
 (fixN (fun rec3 vs4 =>
 (lenS [x0]).bind fun v5 =>
 (bin2 Tryd.prog BinOp.lss 3 (ot 6) (ot 8) (List.getD vs4 0 V.any) v5).bind fun v6 =>
 condV v6 (
 (idxS 1 x0 (List.getD vs4 0 V.any)).bind fun v7 =>
 (ldp none v7).bind fun v8 =>
 (bin2 Tryd.prog BinOp.eql 3 (ot 15) (ot 16) v8 x1).bind fun v9 =>
 condV v9 (
 some (vb true)) (
 (bin2 Tryd.prog BinOp.add 3 (ot 10) (oc 1) (List.getD vs4 0 V.any) (vi 1)).bind fun v10 =>
 rec3 [v10])) (
 J2 [])) n) [(vi 0)] := by kernel_rfl
noncomputable def t_railref2_In (a0 : (List Int)) (a1 : Int) : Option Bool :=
 join (fun (s3 : Unit) =>
 some false) fun j4 =>
 loopI a0 (fun (i12 : Int) x13 (s8 : Unit) k9 =>
 if (decide (x13 = a1)) = true then (
 some true) else (
 k9 ())) (fun (s8 : Unit) =>
 j4 ()) ()
theorem ty_railref2_In {n : Nat} (hn : bigN ≤ n) (a0 : (List Int)) (a1 : Int) : Rv (fun x : Bool => (vb x)) (sem_railref2_In n [(V.sl (List.map cI a0)), (vi a1)]) (t_railref2_In a0 a1) := by
  rw [eq_railref2_In]
  unfold t_railref2_In
  refine tjoin (mk := fun s3 : Unit => []) (fun s3 => ?_) fun J2 j4 h5 => ?_
  · exact rf_ret rfl
  · refine rf_loopI (mk := fun (i12 : Int) (s8 : Unit) => [(vi (i12 : Int))]) hn a0 () (fun i12 x13 h14 h15 h16 s8 rec6 k9 h10 => ?_) (fun s8 rec25 h24 => ?_)
    · refine tb (x := (vi (List.length a0 : Int))) (p_len _) ?_
      refine tb (x := (vb (decide ((i12 : Int) < (List.length a0 : Int))))) (d_lss) ?_
      refine tcond_t h16 ?_
      refine tb (x := (V.ptr [(vi x13)])) (p_idx_at (c := cI) (fun _ => rfl) h14) ?_
      refine tb (x := (vi x13)) (rfl) ?_
      refine tb (x := (vb (decide (x13 = a1)))) (d_eql) ?_
      refine tcond (fun h22 => ?_) (fun h22 => ?_)
      · exact rf_ret rfl
      · refine tb (x := (vi ((i12 : Int) + 1))) (p_incN h15) ?_
        exact h10 ()
    · refine tb (x := (vi (List.length a0 : Int))) (p_len _) ?_
      refine tb (x := (vb (decide ((List.length a0 : Int) < (List.length a0 : Int))))) (d_lss) ?_
      refine tcond_f h24 ?_
      exact h5 ()

/-! railpoint/railref2.without -/
def an_railref2_without : Ann := .seq (.reg 0 [] [] []) (.seq (.reg 0 [] [] []) (.seq (.seq (.reg 0 [] [] []) (.blk (some [.s 5]) (.loop [.r 5 3, .s 6] (.seq (.seq (.reg 0 [] [] []) (.cond none (.no) (.no))) (.seq (.blk none (.seq (.reg 0 [] [] []) (.seq (.reg 0 [] [] []) (.cond (some [.r 5 3]) (.reg 0 [] [] []) (.no))))) (.reg 0 [] [] [])))))) (.seq (.reg 0 [] [] []) (.no))))
noncomputable def sem_railref2_without (n : Nat) (xs : List V) : Option V := if xs.length ≤ 30 then denF Tryd.prog (envOf [(45, (sem_railref2_In n))]) n Tryd.f67 an_railref2_without xs else none
theorem ok_railref2_without (n : Nat) : SemOk Tryd.prog DW 67 (sem_railref2_without n) := fun xs y h => by
  unfold sem_railref2_without at h
  split at h
  · rename_i hl
    exact denF_ok stb Tryd.func67 (by kernel_rfl) (envOf_ok (semsOk_cons (ok_railref2_In n) semsOk_nil)) (by rw [Tryd.ntmps67]; exact hl) h
  · cases h
theorem eq_railref2_without (n : Nat) (x0 x1 : V) : sem_railref2_without n [x0, x1] =
 JoinPt (fun vs1 =>
 some (List.getD vs1 0 V.any)) fun J2 =>
 (fixN (fun rec3 vs4 =>
 (lenS [x0]).bind fun v5 =>
 (bin2 Tryd.prog BinOp.lss 3 (ot 8) (ot 10) (List.getD vs4 1 V.any) v5).bind fun v6 =>
 condV v6 (
 (idxS 1 x0 (List.getD vs4 1 V.any)).bind fun v7 =>
 (ldp none v7).bind fun v8 =>
 ((sem_railref2_In n) [x1, v8]).bind fun v9 =>
 (scal1 Tryd.prog (Op.unary Go.UnOp.not) v9).bind fun v10 =>
 JoinPt (fun vs11 =>
 (bin2 Tryd.prog BinOp.add 3 (ot 12) (oc 1) (List.getD vs4 1 V.any) (vi 1)).bind fun v13 =>
 rec3 [(V.sl (slL (List.getD vs11 0 V.any))), v13]) fun J12 =>
 condV v10 (
 (idxS 1 x0 (List.getD vs4 1 V.any)).bind fun v14 =>
 (ldp none v14).bind fun v15 =>
 (slcB 1 1 [(vi 0)] [(0, v15)]).bind fun v16 =>
 (appV 1 (slL (List.getD vs4 0 V.any)) v16).bind fun v17 =>
 J12 [(V.sl (slL v17))]) (
 J12 [(V.sl (slL (List.getD vs4 0 V.any)))])) (
 J2 [(V.sl (slL (List.getD vs4 0 V.any)))])) n) [(V.sl []), (vi 0)] := by kernel_rfl
noncomputable def t_railref2_without (a0 : (List Int)) (a1 : (List Int)) : Option (List Int) :=
 (loopI a0 (fun (i12 : Int) x13 (s8 : (List Int)) k9 =>
 (t_railref2_In a1 x13).bind fun r22 =>
 (if (!r22) = true then (
 (app s8 ([x13] : (List Int))).bind fun r35 =>
 some (r35)) else (
 some (s8))).bind fun (s26 : (List Int)) =>
 k9 (s26)) (fun (s8 : (List Int)) =>
 some (s8)) ([])).bind fun (s3 : (List Int)) =>
 some s3
theorem ty_railref2_without {n : Nat} (hn : bigN ≤ n) (a0 : (List Int)) (a1 : (List Int)) : Rv (fun x : (List Int) => (V.sl (List.map cI x))) (sem_railref2_without n [(V.sl (List.map cI a0)), (V.sl (List.map cI a1))]) (t_railref2_without a0 a1) := by
  rw [eq_railref2_without]
  unfold t_railref2_without
  refine tjb (mk := fun s3 : (List Int) => [(V.sl (List.map cI s3))]) (fun J2 => ?_) fun s3 => ?_
  · refine rf_loopI (mk := fun (i12 : Int) (s8 : (List Int)) => [(V.sl (List.map cI s8)), (vi (i12 : Int))]) hn a0 ([]) (fun i12 x13 h14 h15 h16 s8 rec6 k9 h10 => ?_) (fun s8 rec37 h36 => ?_)
    · refine tb (x := (vi (List.length a0 : Int))) (p_len _) ?_
      refine tb (x := (vb (decide ((i12 : Int) < (List.length a0 : Int))))) (d_lss) ?_
      refine tcond_t h16 ?_
      refine tb (x := (V.ptr [(vi x13)])) (p_idx_at (c := cI) (fun _ => rfl) h14) ?_
      refine tb (x := (vi x13)) (rfl) ?_
      refine tbo (ty_railref2_In hn a1 x13) fun r22 => ?_
      refine tb (x := (vb (!r22))) (d_not) ?_
      refine tjb (mk := fun s26 : (List Int) => [(V.sl (List.map cI s26))]) (fun J25 => ?_) fun s26 => ?_
      · refine tcond (fun h30 => ?_) (fun h30 => ?_)
        · refine tb (x := (V.ptr [(vi x13)])) (p_idx_at (c := cI) (fun _ => rfl) h14) ?_
          refine tb (x := (vi x13)) (rfl) ?_
          refine tb (x := (V.sl (List.map cI ([x13] : (List Int))))) (by kernel_rfl) ?_
          refine tbo (p_app (c := cI) (fun _ => rfl) s8 ([x13] : (List Int))) fun r35 => ?_
          exact rf_j rfl
        · exact rf_j rfl
      · refine tb (x := (vi ((i12 : Int) + 1))) (p_incN h15) ?_
        exact h10 (s26)
    · refine tb (x := (vi (List.length a0 : Int))) (p_len _) ?_
      refine tb (x := (vb (decide ((List.length a0 : Int) < (List.length a0 : Int))))) (d_lss) ?_
      refine tcond_f h36 ?_
      exact rf_j rfl
  · exact rf_ret rfl

/-!   railpoint/railref2.Drive .Hear -/
def an_railref2_Drive_Hear : Ann := .seq (.reg 0 [] [] []) (.seq (.seq (.reg 0 [] [] []) (.cond none (.seq (.reg 0 [] [] []) (.no)) (.no))) (.seq (.reg 8 [] [] []) (.seq (.seq (.reg 12 [] [] []) (.cond none (.seq (.reg 0 [] [] []) (.no)) (.no))) (.seq (.reg 11 [] [] []) (.seq (.reg 0 [] [] []) (.no))))))
noncomputable def sem_railref2_Drive_Hear (n : Nat) (xs : List V) : Option V := if xs.length ≤ 44 then denM Tryd.prog (envOf [(44, (sem_railref2_Msg n)), (45, (sem_railref2_In n)), (67, (sem_railref2_without n))]) n Tryd.f36 an_railref2_Drive_Hear [2, 0] none xs else none
theorem ok_railref2_Drive_Hear (n : Nat) : MSemOk Tryd.prog DW 36 (sem_railref2_Drive_Hear n) := fun xs y h => by
  unfold sem_railref2_Drive_Hear at h
  split at h
  · rename_i hl
    exact denM_ok Tryd.func36 (by kernel_rfl) (envOf_ok (semsOk_cons (ok_railref2_Msg n) (semsOk_cons (ok_railref2_In n) (semsOk_cons (ok_railref2_without n) semsOk_nil)))) (by rw [Tryd.ntmps36]; exact hl) (by decide) h
  · cases h
theorem eq_railref2_Drive_Hear (n : Nat) (x0 x1 : V) : sem_railref2_Drive_Hear n [x0, x1] =
 (objG x0).bind fun v1 =>
 (pureO x1).bind fun v2 =>
 (V.cellsO x1).bind fun v3 =>
 (ldk (some 12) (List.drop 0 v3)).bind fun v4 =>
 ((sem_railref2_Msg n) [v4]).bind fun v5 =>
 (bin2 Tryd.prog BinOp.neq 3 (ot 7) (oc 0) v5 (vi 0)).bind fun v6 =>
 (guardV v6 false (some V.any)).bind fun v7 =>
 (guardV v6 false ((gate v6 false (ldk none (List.drop 0 v3))).bind fun v8 =>
 some v8)).bind fun v9 =>
 (guardV v6 false ((bin2 Tryd.prog BinOp.neq 3 (ot 11) (oc 3) v9 (vi 3)).bind fun v10 =>
 some v10)).bind fun v11 =>
 (pickV v6 (vb true) v11).bind fun v12 =>
 condV v12 (
 some (V.tup [(vi 3), x0, V.any])) (
 (some V.any).bind fun v13 =>
 (some V.any).bind fun v14 =>
 ((nodeL x0 none 0).bind fun l15 => (ldk none (List.drop 3 l15)).bind pureO).bind fun v16 =>
 (ldk none (List.drop 1 v3)).bind fun v17 =>
 ((sem_railref2_In n) [v16, v17]).bind fun v18 =>
 (ldk none (List.drop 2 v3)).bind fun v19 =>
 (some V.any).bind fun v20 =>
 (some V.any).bind fun v21 =>
 ((nodeL x0 none 0).bind fun l22 => (ldk none (List.drop 2 l22)).bind pureO).bind fun v23 =>
 (bin2 Tryd.prog BinOp.sub 3 (ot 26) (oc 1) v23 (vi 1)).bind fun v24 =>
 (bin2 Tryd.prog BinOp.neq 3 (ot 22) (ot 27) v19 v24).bind fun v25 =>
 (guardV v25 false (some v18)).bind fun v26 =>
 (guardV v25 false ((scal1 Tryd.prog (Op.unary Go.UnOp.not) v26).bind fun v27 =>
 some v27)).bind fun v28 =>
 (pickV v25 (vb true) v28).bind fun v29 =>
 condV v29 (
 some (V.tup [(vi 6), x0, V.any])) (
 (some V.any).bind fun v30 =>
 (some V.any).bind fun v31 =>
 ((nodeL x0 none 0).bind fun l32 => (ldk none (List.drop 3 l32)).bind pureO).bind fun v33 =>
 (ldk none (List.drop 1 v3)).bind fun v34 =>
 (slcB 1 1 [(vi 0)] [(0, v34)]).bind fun v35 =>
 ((sem_railref2_without n) [v33, v35]).bind fun v36 =>
 (some V.any).bind fun v37 =>
 (some V.any).bind fun v38 =>
 (V.cellsO v36).bind fun v39 =>
 (setV x0 [] (Stp.mk none 3 0) 1 v39).bind fun v40 =>
 some (V.tup [(vi 0), v40, V.any]))) := by kernel_rfl
noncomputable def t_railref2_Drive_Hear (a0 : T_railref2_Drive) (a1 : T_Msg) : Option (Int × T_railref2_Drive) :=
 (t_railref2_Msg a1).bind fun r6 =>
 if ((decide (r6 ≠ 0)) || (decide (a1.Kind ≠ 3))) = true then (
 some (3, a0)) else (
 (t_railref2_In a0.Left a1.Switch).bind fun r23 =>
 if ((decide (a1.Round ≠ (wr (a0.Said - 1)))) || (!r23)) = true then (
 some (6, a0)) else (
 (t_railref2_without a0.Left ([a1.Switch] : (List Int))).bind fun r43 =>
 some (0, (T_railref2_Drive.mk a0.Rounds a0.Wait a0.Said r43 a0.Ticks))))
theorem ty_railref2_Drive_Hear {n : Nat} (hn : bigN ≤ n) (a0 : T_railref2_Drive) (a1 : T_Msg) : Rv (fun x : (Int × T_railref2_Drive) => (V.tup [(vi x.1), (V.obj (T_railref2_Drive.c x.2)), V.any])) (sem_railref2_Drive_Hear n [(V.obj (T_railref2_Drive.c a0)), (T_Msg.e a1)]) (t_railref2_Drive_Hear a0 a1) := by
  rw [eq_railref2_Drive_Hear]
  unfold t_railref2_Drive_Hear
  refine tb (x := V.any) rfl ?_
  refine tb (x := (T_Msg.e a1)) rfl ?_
  refine tb (x := (T_Msg.c a1)) rfl ?_
  refine tb (x := (T_Msg.e a1)) (rfl) ?_
  refine tbo (ty_railref2_Msg hn a1) fun r6 => ?_
  refine tb (x := (vb (decide (r6 ≠ 0)))) (d_neq) ?_
  refine tg_f (x := V.any) (fun h8 => rfl) ?_
  refine tg_f (x := (vi a1.Kind)) (fun h10 => bind_some_eq (gate_pos (not_t h10) (rfl))) ?_
  refine tg_f (x := (vb (decide (a1.Kind ≠ 3)))) (fun h13 => by simp only [gv_t h13]; exact bind_some_eq (d_neq)) ?_
  refine tb (x := (vb ((decide (r6 ≠ 0)) || (decide (a1.Kind ≠ 3))))) (pick_or (fun h9 => gv_t (not_f h9))) ?_
  refine tcond (fun h17 => ?_) (fun h17 => ?_)
  · exact rf_ret rfl
  · refine tb (x := V.any) rfl ?_
    refine tb (x := V.any) rfl ?_
    refine tb (x := (V.sl (List.map cI a0.Left))) (rfl) ?_
    refine tb (x := (vi a1.Switch)) (rfl) ?_
    refine tbo (ty_railref2_In hn a0.Left a1.Switch) fun r23 => ?_
    refine tb (x := (vi a1.Round)) (rfl) ?_
    refine tb (x := V.any) rfl ?_
    refine tb (x := V.any) rfl ?_
    refine tb (x := (vi a0.Said)) (rfl) ?_
    refine tb (x := (vi (wr (a0.Said - 1)))) (d_sub) ?_
    refine tb (x := (vb (decide (a1.Round ≠ (wr (a0.Said - 1)))))) (d_neq) ?_
    refine tg_f (x := (vb r23)) (fun h30 => rfl) ?_
    refine tg_f (x := (vb (!r23))) (fun h32 => by simp only [gv_t h32]; exact bind_some_eq (d_not)) ?_
    refine tb (x := (vb ((decide (a1.Round ≠ (wr (a0.Said - 1)))) || (!r23)))) (pick_or (fun h9 => gv_t (not_f h9))) ?_
    refine tcond (fun h36 => ?_) (fun h36 => ?_)
    · exact rf_ret rfl
    · refine tb (x := V.any) rfl ?_
      refine tb (x := V.any) rfl ?_
      refine tb (x := (V.sl (List.map cI a0.Left))) (rfl) ?_
      refine tb (x := (vi a1.Switch)) (rfl) ?_
      refine tb (x := (V.sl (List.map cI ([a1.Switch] : (List Int))))) (by kernel_rfl) ?_
      refine tbo (ty_railref2_without hn a0.Left ([a1.Switch] : (List Int))) fun r43 => ?_
      refine tb (x := V.any) rfl ?_
      refine tb (x := V.any) rfl ?_
      refine tb (x := [(V.sl (List.map cI r43))]) rfl ?_
      refine tb (x := V.obj (T_railref2_Drive.c (T_railref2_Drive.mk a0.Rounds a0.Wait a0.Said r43 a0.Ticks))) (by kernel_rfl) ?_
      exact rf_ret rfl

/-! railpoint/wire.Check -/
def an_wire_Check : Ann := .seq (.reg 0 [] [] []) (.seq (.seq (.reg 0 [] [] []) (.cond none (.seq (.reg 0 [] [] []) (.no)) (.no))) (.seq (.seq (.reg 0 [] [] []) (.cond none (.seq (.seq (.reg 0 [] [] []) (.cond none (.seq (.reg 0 [] [] []) (.no)) (.no))) (.seq (.reg 0 [] [] []) (.no))) (.no))) (.seq (.seq (.reg 0 [] [] []) (.seq (.reg 0 [] [] []) (.cond none (.seq (.reg 0 [] [] []) (.no)) (.no)))) (.seq (.seq (.reg 0 [] [] []) (.cond none (.seq (.reg 0 [] [] []) (.no)) (.no))) (.seq (.reg 0 [] [] []) (.no))))))
noncomputable def sem_wire_Check (n : Nat) (xs : List V) : Option V := if xs.length ≤ 75 then denF Tryd.prog (envOf [(57, (sem_rule_Check n))]) n Tryd.f40 an_wire_Check xs else none
theorem ok_wire_Check (n : Nat) : SemOk Tryd.prog DW 40 (sem_wire_Check n) := fun xs y h => by
  unfold sem_wire_Check at h
  split at h
  · rename_i hl
    exact denF_ok stb Tryd.func40 (by kernel_rfl) (envOf_ok (semsOk_cons (ok_rule_Check n) semsOk_nil)) (by rw [Tryd.ntmps40]; exact hl) h
  · cases h
theorem eq_wire_Check (n : Nat) (x0 : V) : sem_wire_Check n [x0] =
 (V.cellsO x0).bind fun v1 =>
 (ldk none (List.drop 0 v1)).bind fun v2 =>
 (bin2 Tryd.prog BinOp.lss 3 (ot 5) (oc 1) v2 (vi 1)).bind fun v3 =>
 (guardV v3 false (some V.any)).bind fun v4 =>
 (guardV v3 false ((gate v3 false (ldk none (List.drop 0 v1))).bind fun v5 =>
 some v5)).bind fun v6 =>
 (guardV v3 false ((bin2 Tryd.prog BinOp.gtr 3 (ot 9) (oc 3) v6 (vi 3)).bind fun v7 =>
 some v7)).bind fun v8 =>
 (pickV v3 (vb true) v8).bind fun v9 =>
 (guardV v9 false (some V.any)).bind fun v10 =>
 (guardV v9 false ((gate v9 false (ldk none (List.drop 1 v1))).bind fun v11 =>
 some v11)).bind fun v12 =>
 (guardV v9 false ((bin2 Tryd.prog BinOp.lss 3 (ot 14) (oc 1) v12 (vi 1)).bind fun v13 =>
 some v13)).bind fun v14 =>
 (pickV v9 (vb true) v14).bind fun v15 =>
 (guardV v15 false (some V.any)).bind fun v16 =>
 (guardV v15 false ((gate v15 false (ldk none (List.drop 1 v1))).bind fun v17 =>
 some v17)).bind fun v18 =>
 (guardV v15 false ((bin2 Tryd.prog BinOp.gtr 3 (ot 19) (oc 6) v18 (vi 6)).bind fun v19 =>
 some v19)).bind fun v20 =>
 (pickV v15 (vb true) v20).bind fun v21 =>
 (guardV v21 false (some V.any)).bind fun v22 =>
 (guardV v21 false ((gate v21 false (ldk none (List.drop 2 v1))).bind fun v23 =>
 some v23)).bind fun v24 =>
 (guardV v21 false ((bin2 Tryd.prog BinOp.lss 3 (ot 24) (oc 0) v24 (vi 0)).bind fun v25 =>
 some v25)).bind fun v26 =>
 (pickV v21 (vb true) v26).bind fun v27 =>
 (guardV v27 false (some V.any)).bind fun v28 =>
 (guardV v27 false ((gate v27 false (ldk none (List.drop 2 v1))).bind fun v29 =>
 some v29)).bind fun v30 =>
 (guardV v27 false ((bin2 Tryd.prog BinOp.geq 3 (ot 29) (oc 20) v30 (vi 20)).bind fun v31 =>
 some v31)).bind fun v32 =>
 (pickV v27 (vb true) v32).bind fun v33 =>
 (guardV v33 false (some V.any)).bind fun v34 =>
 (guardV v33 false ((gate v33 false (ldk none (List.drop 3 v1))).bind fun v35 =>
 some v35)).bind fun v36 =>
 (guardV v33 false ((bin2 Tryd.prog BinOp.lss 3 (ot 34) (oc 0) v36 (vi 0)).bind fun v37 =>
 some v37)).bind fun v38 =>
 (pickV v33 (vb true) v38).bind fun v39 =>
 (guardV v39 false (some V.any)).bind fun v40 =>
 (guardV v39 false ((gate v39 false (ldk none (List.drop 3 v1))).bind fun v41 =>
 some v41)).bind fun v42 =>
 (guardV v39 false ((bin2 Tryd.prog BinOp.gtr 3 (ot 39) (oc 200) v42 (vi 200)).bind fun v43 =>
 some v43)).bind fun v44 =>
 (pickV v39 (vb true) v44).bind fun v45 =>
 condV v45 (
 (scal1 Tryd.prog (Instr.makeInterface 87) (vi 1)).bind fun v46 =>
 some v46) (
 (ldk none (List.drop 0 v1)).bind fun v47 =>
 (bin2 Tryd.prog BinOp.neq 3 (ot 44) (oc 1) v47 (vi 1)).bind fun v48 =>
 condV v48 (
 (ldk (some 8) (List.drop 4 v1)).bind fun v49 =>
 ((fillL [(vi 0), (vb false), (vi 0), (vi 0), (vi 0), (vi 0), (vi 0), (vi 0)] []).map V.agg).bind fun v50 =>
 (bin2 Tryd.prog BinOp.neq 37 (ot 47) (ot 48) v49 v50).bind fun v51 =>
 (guardV v51 false (some V.any)).bind fun v52 =>
 (guardV v51 false ((gate v51 false (ldk none (List.drop 0 v1))).bind fun v53 =>
 some v53)).bind fun v54 =>
 (guardV v51 false ((bin2 Tryd.prog BinOp.eql 3 (ot 52) (oc 3) v54 (vi 3)).bind fun v55 =>
 some v55)).bind fun v56 =>
 (guardV v51 false (some v56)).bind fun v57 =>
 (guardV v57 true (some V.any)).bind fun v58 =>
 (guardV v57 true ((gate v57 true (ldk none (List.drop 3 v1))).bind fun v59 =>
 some v59)).bind fun v60 =>
 (guardV v57 true ((bin2 Tryd.prog BinOp.neq 3 (ot 56) (oc 0) v60 (vi 0)).bind fun v61 =>
 some v61)).bind fun v62 =>
 (guardV v51 false ((pickV v57 v62 (vb false)).bind fun v63 =>
 some v63)).bind fun v64 =>
 (pickV v51 (vb true) v64).bind fun v65 =>
 condV v65 (
 (scal1 Tryd.prog (Instr.makeInterface 87) (vi 3)).bind fun v66 =>
 some v66) (
 some vn)) (
 (ldk (some 6) (List.drop 6 v1)).bind fun v67 =>
 ((sem_rule_Check n) [v67]).bind fun v68 =>
 (bin2 Tryd.prog BinOp.neq 27 (ot 65) (Operand.const Go.Value.nilIface) v68 vn).bind fun v69 =>
 condV v69 (
 some v68) (
 (ldk none (List.drop 4 v1)).bind fun v70 =>
 (ldk none (List.drop 1 v1)).bind fun v71 =>
 (bin2 Tryd.prog BinOp.neq 3 (ot 70) (ot 72) v70 v71).bind fun v72 =>
 condV v72 (
 (scal1 Tryd.prog (Instr.makeInterface 87) (vi 3)).bind fun v73 =>
 some v73) (
 some vn)))) := by kernel_rfl
noncomputable def t_wire_Check (a0 : T_Msg) : Option Int :=
 (some ((((((decide (a0.Kind < 1)) || (decide (3 < a0.Kind))) || (decide (a0.Switch < 1))) || (decide (6 < a0.Switch))) || (decide (a0.Round < 0))) || (decide (20 ≤ a0.Round)))).bind fun r49 =>
 if ((r49 || (decide (a0.Index < 0))) || (decide (200 < a0.Index))) = true then (
 some 1) else (
 if (decide (a0.Kind ≠ 1)) = true then (
 if ((!decide (a0.Op = (T_Op.mk 0 false (T_Rule.mk 0 (T_Cube.mk 0 0) 0 0 0)))) || ((decide (a0.Kind = 3)) && (decide (a0.Index ≠ 0)))) = true then (
 some 3) else (
 some 0)) else (
 (t_rule_Check a0.Op.Rule).bind fun r102 =>
 if (!decide (r102 = 0)) = true then (
 some r102) else (
 if (decide (a0.Op.Switch ≠ a0.Switch)) = true then (
 some 3) else (
 some 0))))
theorem ty_wire_Check {n : Nat} (hn : bigN ≤ n) (a0 : T_Msg) : Rv (fun x : Int => (eV x)) (sem_wire_Check n [(T_Msg.e a0)]) (t_wire_Check a0) := by
  rw [eq_wire_Check]
  unfold t_wire_Check
  refine tb (x := (T_Msg.c a0)) rfl ?_
  refine tb (x := (vi a0.Kind)) (rfl) ?_
  refine tb (x := (vb (decide (a0.Kind < 1)))) (d_lss) ?_
  refine tg_f (x := V.any) (fun h4 => rfl) ?_
  refine tg_f (x := (vi a0.Kind)) (fun h6 => bind_some_eq (gate_pos (not_t h6) (rfl))) ?_
  refine tg_f (x := (vb (decide (3 < a0.Kind)))) (fun h9 => by simp only [gv_t h9]; exact bind_some_eq (d_gtr)) ?_
  refine tb (x := (vb ((decide (a0.Kind < 1)) || (decide (3 < a0.Kind))))) (pick_or (fun h9 => gv_t (not_f h9))) ?_
  refine tg_f (x := V.any) (fun h13 => rfl) ?_
  refine tg_f (x := (vi a0.Switch)) (fun h15 => bind_some_eq (gate_pos (not_t h15) (rfl))) ?_
  refine tg_f (x := (vb (decide (a0.Switch < 1)))) (fun h18 => by simp only [gv_t h18]; exact bind_some_eq (d_lss)) ?_
  refine tb (x := (vb (((decide (a0.Kind < 1)) || (decide (3 < a0.Kind))) || (decide (a0.Switch < 1))))) (pick_or (fun h9 => gv_t (not_f h9))) ?_
  refine tg_f (x := V.any) (fun h22 => rfl) ?_
  refine tg_f (x := (vi a0.Switch)) (fun h24 => bind_some_eq (gate_pos (not_t h24) (rfl))) ?_
  refine tg_f (x := (vb (decide (6 < a0.Switch)))) (fun h27 => by simp only [gv_t h27]; exact bind_some_eq (d_gtr)) ?_
  refine tb (x := (vb ((((decide (a0.Kind < 1)) || (decide (3 < a0.Kind))) || (decide (a0.Switch < 1))) || (decide (6 < a0.Switch))))) (pick_or (fun h9 => gv_t (not_f h9))) ?_
  refine tg_f (x := V.any) (fun h31 => rfl) ?_
  refine tg_f (x := (vi a0.Round)) (fun h33 => bind_some_eq (gate_pos (not_t h33) (rfl))) ?_
  refine tg_f (x := (vb (decide (a0.Round < 0)))) (fun h36 => by simp only [gv_t h36]; exact bind_some_eq (d_lss)) ?_
  refine tb (x := (vb (((((decide (a0.Kind < 1)) || (decide (3 < a0.Kind))) || (decide (a0.Switch < 1))) || (decide (6 < a0.Switch))) || (decide (a0.Round < 0))))) (pick_or (fun h9 => gv_t (not_f h9))) ?_
  refine tg_f (x := V.any) (fun h40 => rfl) ?_
  refine tg_f (x := (vi a0.Round)) (fun h42 => bind_some_eq (gate_pos (not_t h42) (rfl))) ?_
  refine tg_f (x := (vb (decide (20 ≤ a0.Round)))) (fun h45 => by simp only [gv_t h45]; exact bind_some_eq (d_geq)) ?_
  refine tbo (e1 := fun x : Bool => (vb x)) (rf_eq (pick_or (fun h9 => gv_t (not_f h9))) rfl) fun r49 => ?_
  refine tg_f (x := V.any) (fun h50 => rfl) ?_
  refine tg_f (x := (vi a0.Index)) (fun h52 => bind_some_eq (gate_pos (not_t h52) (rfl))) ?_
  refine tg_f (x := (vb (decide (a0.Index < 0)))) (fun h55 => by simp only [gv_t h55]; exact bind_some_eq (d_lss)) ?_
  refine tb (x := (vb (r49 || (decide (a0.Index < 0))))) (pick_or (fun h9 => gv_t (not_f h9))) ?_
  refine tg_f (x := V.any) (fun h59 => rfl) ?_
  refine tg_f (x := (vi a0.Index)) (fun h61 => bind_some_eq (gate_pos (not_t h61) (rfl))) ?_
  refine tg_f (x := (vb (decide (200 < a0.Index)))) (fun h64 => by simp only [gv_t h64]; exact bind_some_eq (d_gtr)) ?_
  refine tb (x := (vb ((r49 || (decide (a0.Index < 0))) || (decide (200 < a0.Index))))) (pick_or (fun h9 => gv_t (not_f h9))) ?_
  refine tcond (fun h68 => ?_) (fun h68 => ?_)
  · refine tb (x := (eV 1)) (p_mkE (by decide)) ?_
    exact rf_ret rfl
  · refine tb (x := (vi a0.Kind)) (rfl) ?_
    refine tb (x := (vb (decide (a0.Kind ≠ 1)))) (d_neq) ?_
    refine tcond (fun h72 => ?_) (fun h72 => ?_)
    · refine tb (x := (T_Op.e a0.Op)) (rfl) ?_
      refine tb (x := (T_Op.e (T_Op.mk 0 false (T_Rule.mk 0 (T_Cube.mk 0 0) 0 0 0)))) (by kernel_rfl) ?_
      refine tb (x := (vb (!decide (a0.Op = (T_Op.mk 0 false (T_Rule.mk 0 (T_Cube.mk 0 0) 0 0 0)))))) (T_Op.neq a0.Op (T_Op.mk 0 false (T_Rule.mk 0 (T_Cube.mk 0 0) 0 0 0))) ?_
      refine tg_f (x := V.any) (fun h76 => rfl) ?_
      refine tg_f (x := (vi a0.Kind)) (fun h78 => bind_some_eq (gate_pos (not_t h78) (rfl))) ?_
      refine tg_f (x := (vb (decide (a0.Kind = 3)))) (fun h81 => by simp only [gv_t h81]; exact bind_some_eq (d_eql)) ?_
      refine tg_f (x := (vb (decide (a0.Kind = 3)))) (fun h84 => congrArg some (gv_t h84)) ?_
      refine tg2 (x := V.any) (fun h86 => rfl) ?_
      refine tg2 (x := (vi a0.Index)) (fun h88 => bind_some_eq (gate_pos2 (and_l h88) (and_r h88) (rfl))) ?_
      refine tg2 (x := (vb (decide (a0.Index ≠ 0)))) (fun h91 => by simp only [gv_t h91]; exact bind_some_eq (d_neq)) ?_
      refine tg_f (x := (vb ((decide (a0.Kind = 3)) && (decide (a0.Index ≠ 0))))) (fun h94 => by simp only [gv_t h94]; exact bind_some_eq (pick_and (fun h9 => gv_t (and_i h94 h9)))) ?_
      refine tb (x := (vb ((!decide (a0.Op = (T_Op.mk 0 false (T_Rule.mk 0 (T_Cube.mk 0 0) 0 0 0)))) || ((decide (a0.Kind = 3)) && (decide (a0.Index ≠ 0)))))) (pick_or (fun h9 => gv_t (not_f h9))) ?_
      refine tcond (fun h98 => ?_) (fun h98 => ?_)
      · refine tb (x := (eV 3)) (p_mkE (by decide)) ?_
        exact rf_ret rfl
      · exact rf_ret rfl
    · refine tb (x := (T_Rule.e a0.Op.Rule)) (rfl) ?_
      refine tbo (ty_rule_Check hn a0.Op.Rule) fun r102 => ?_
      refine tb (x := (vb (!decide (r102 = 0)))) (p_err_neq _) ?_
      refine tcond (fun h104 => ?_) (fun h104 => ?_)
      · exact rf_ret rfl
      · refine tb (x := (vi a0.Op.Switch)) (rfl) ?_
        refine tb (x := (vi a0.Switch)) (rfl) ?_
        refine tb (x := (vb (decide (a0.Op.Switch ≠ a0.Switch)))) (d_neq) ?_
        refine tcond (fun h108 => ?_) (fun h108 => ?_)
        · refine tb (x := (eV 3)) (p_mkE (by decide)) ?_
          exact rf_ret rfl
        · exact rf_ret rfl

/-! slices.Index   int int  -/
def an_slices_Index_int_int : Ann := .seq (.reg 0 [] [] []) (.seq (.seq (.reg 0 [] [] []) (.blk (some []) (.loop [.s 8] (.seq (.reg 0 [] [] []) (.seq (.cond none (.no) (.no)) (.seq (.blk none (.seq (.reg 0 [] [] []) (.seq (.reg 0 [] [] []) (.cond none (.seq (.reg 0 [] [] []) (.no)) (.no))))) (.reg 0 [] [] []))))))) (.seq (.reg 0 [] [] []) (.no)))
noncomputable def sem_slices_Index_int_int (n : Nat) (xs : List V) : Option V := if xs.length ≤ 19 then denF Tryd.prog (envOf []) n Tryd.f62 an_slices_Index_int_int xs else none
theorem ok_slices_Index_int_int (n : Nat) : SemOk Tryd.prog DW 62 (sem_slices_Index_int_int n) := fun xs y h => by
  unfold sem_slices_Index_int_int at h
  split at h
  · rename_i hl
    exact denF_ok stb Tryd.func62 (by kernel_rfl) (envOf_ok semsOk_nil) (by rw [Tryd.ntmps62]; exact hl) h
  · cases h
theorem eq_slices_Index_int_int (n : Nat) (x0 x1 : V) : sem_slices_Index_int_int n [x0, x1] =
 (lenS [x0]).bind fun v1 =>
 JoinPt (fun vs2 =>
 some (vi (-1 : Int))) fun J3 =>
 (fixN (fun rec4 vs5 =>
 (bin2 Tryd.prog BinOp.lss 3 (ot 8) (ot 7) (List.getD vs5 0 V.any) v1).bind fun v6 =>
 condV v6 (
 (idxS 1 x0 (List.getD vs5 0 V.any)).bind fun v7 =>
 (ldp none v7).bind fun v8 =>
 (bin2 Tryd.prog BinOp.eql 3 (ot 11) (ot 15) x1 v8).bind fun v9 =>
 condV v9 (
 some (List.getD vs5 0 V.any)) (
 (bin2 Tryd.prog BinOp.add 3 (ot 8) (oc 1) (List.getD vs5 0 V.any) (vi 1)).bind fun v10 =>
 rec4 [v10])) (
 J3 [])) n) [(vi 0)] := by kernel_rfl
noncomputable def t_slices_Index_int_int (a0 : (List Int)) (a1 : Int) : Option Int :=
 join (fun (s4 : Unit) =>
 some (-1 : Int)) fun j5 =>
 loopI a0 (fun (i13 : Int) x14 (s9 : Unit) k10 =>
 if (decide (a1 = x14)) = true then (
 some i13) else (
 k10 ())) (fun (s9 : Unit) =>
 j5 ()) ()
theorem ty_slices_Index_int_int {n : Nat} (hn : bigN ≤ n) (a0 : (List Int)) (a1 : Int) : Rv (fun x : Int => (vi x)) (sem_slices_Index_int_int n [(V.sl (List.map cI a0)), (vi a1)]) (t_slices_Index_int_int a0 a1) := by
  rw [eq_slices_Index_int_int]
  unfold t_slices_Index_int_int
  refine tb (x := (vi (List.length a0 : Int))) (p_len _) ?_
  refine tjoin (mk := fun s4 : Unit => []) (fun s4 => ?_) fun J3 j5 h6 => ?_
  · exact rf_ret rfl
  · refine rf_loopI (mk := fun (i13 : Int) (s9 : Unit) => [(vi (i13 : Int))]) hn a0 () (fun i13 x14 h15 h16 h17 s9 rec7 k10 h11 => ?_) (fun s9 rec25 h24 => ?_)
    · refine tb (x := (vb (decide ((i13 : Int) < (List.length a0 : Int))))) (d_lss) ?_
      refine tcond_t h17 ?_
      refine tb (x := (V.ptr [(vi x14)])) (p_idx_at (c := cI) (fun _ => rfl) h15) ?_
      refine tb (x := (vi x14)) (rfl) ?_
      refine tb (x := (vb (decide (a1 = x14)))) (d_eql) ?_
      refine tcond (fun h22 => ?_) (fun h22 => ?_)
      · exact rf_ret rfl
      · refine tb (x := (vi ((i13 : Int) + 1))) (p_incN h16) ?_
        exact h11 ()
    · refine tb (x := (vb (decide ((List.length a0 : Int) < (List.length a0 : Int))))) (d_lss) ?_
      refine tcond_f h24 ?_
      exact h6 ()

/-!   railpoint/drive.Drive .Hear -/
def an_drive_Drive_Hear : Ann := .seq (.reg 0 [] [] []) (.seq (.seq (.reg 0 [] [] []) (.cond none (.seq (.reg 0 [] [] []) (.no)) (.no))) (.seq (.reg 8 [] [] [18, 2000021]) (.seq (.seq (.reg 12 [] [] []) (.cond none (.seq (.reg 0 [] [] []) (.no)) (.no))) (.seq (.reg 0 [] [] [2000039, 43]) (.seq (.reg 0 [] [] []) (.no))))))
noncomputable def sem_drive_Drive_Hear (n : Nat) (xs : List V) : Option V := if xs.length ≤ 46 then denM Tryd.prog (envOf [(40, (sem_wire_Check n)), (62, (sem_slices_Index_int_int n)), (63 + 1000000, (semDelete))]) n Tryd.f29 an_drive_Drive_Hear [2, 0] none xs else none
theorem ok_drive_Drive_Hear (n : Nat) : MSemOk Tryd.prog DW 29 (sem_drive_Drive_Hear n) := fun xs y h => by
  unfold sem_drive_Drive_Hear at h
  split at h
  · rename_i hl
    exact denM_ok Tryd.func29 (by kernel_rfl) (envOf_ok (semsOk_cons (ok_wire_Check n) (semsOk_cons (ok_slices_Index_int_int n) (semsOk_consM (mok_Delete) semsOk_nil)))) (by rw [Tryd.ntmps29]; exact hl) (by decide) h
  · cases h
theorem eq_drive_Drive_Hear (n : Nat) (x0 x1 : V) : sem_drive_Drive_Hear n [x0, x1] =
 (objG x0).bind fun v1 =>
 (pureO x1).bind fun v2 =>
 (V.cellsO x1).bind fun v3 =>
 (ldk (some 12) (List.drop 0 v3)).bind fun v4 =>
 ((sem_wire_Check n) [v4]).bind fun v5 =>
 (bin2 Tryd.prog BinOp.neq 27 (ot 7) (Operand.const Go.Value.nilIface) v5 vn).bind fun v6 =>
 (guardV v6 false (some V.any)).bind fun v7 =>
 (guardV v6 false ((gate v6 false (ldk none (List.drop 0 v3))).bind fun v8 =>
 some v8)).bind fun v9 =>
 (guardV v6 false ((bin2 Tryd.prog BinOp.neq 3 (ot 11) (oc 3) v9 (vi 3)).bind fun v10 =>
 some v10)).bind fun v11 =>
 (pickV v6 (vb true) v11).bind fun v12 =>
 condV v12 (
 (scal1 Tryd.prog (Instr.makeInterface 87) (vi 3)).bind fun v13 =>
 some (V.tup [v13, x0, V.any])) (
 (some V.any).bind fun v14 =>
 (some V.any).bind fun v15 =>
 ((nodeL x0 none 0).bind fun l16 => (l16[3]?).bind ownO).bind fun v17 =>
 (ldk none (List.drop 1 v3)).bind fun v18 =>
 (some (frzC x0 [(Stp.mk none 3 0)])).bind fun v19 =>
 ((sem_slices_Index_int_int n) [v19, v18]).bind fun v21 =>
 (litQ v21).bind fun v20 =>
 (ldk none (List.drop 2 v3)).bind fun v22 =>
 (some V.any).bind fun v23 =>
 (some V.any).bind fun v24 =>
 ((nodeL x0 none 0).bind fun l25 => (ldk none (List.drop 2 l25)).bind pureO).bind fun v26 =>
 (bin2 Tryd.prog BinOp.sub 3 (ot 27) (oc 1) v26 (vi 1)).bind fun v27 =>
 (bin2 Tryd.prog BinOp.neq 3 (ot 23) (ot 28) v22 v27).bind fun v28 =>
 (guardV v28 false (some v20)).bind fun v29 =>
 (guardV v28 false ((bin2 Tryd.prog BinOp.lss 3 (ot 31) (oc 0) v29 (vi 0)).bind fun v30 =>
 some v30)).bind fun v31 =>
 (pickV v28 (vb true) v31).bind fun v32 =>
 condV v32 (
 (scal1 Tryd.prog (Instr.makeInterface 87) (vi 6)).bind fun v33 =>
 some (V.tup [v33, x0, V.any])) (
 (some V.any).bind fun v34 =>
 (some V.any).bind fun v35 =>
 ((nodeL x0 none 0).bind fun l39 => (l39[3]?).bind ownO).bind fun v36 =>
 (getV x0 [(Stp.mk none 3 0)]).bind fun v37 =>
 (modX x0 [] (Stp.mk none 3 0) V.any).bind fun v38 =>
 (bin2 Tryd.prog BinOp.add 3 (ot 41) (oc 1) v20 (vi 1)).bind fun v40 =>
 ((semDelete) [v37, v20, v40]).bind fun z41 =>
 (some V.any).bind fun v42 =>
 (some V.any).bind fun v43 =>
 (V.cellsO (tupAt z41 0)).bind fun v44 =>
 (setV v38 [] (Stp.mk none 3 0) 1 v44).bind fun v45 =>
 some (V.tup [vn, v45, V.any]))) := by kernel_rfl
noncomputable def t_drive_Drive_Hear (a0 : T_drive_Drive) (a1 : T_Msg) : Option (Int × T_drive_Drive) :=
 (t_wire_Check a1).bind fun r6 =>
 if ((!decide (r6 = 0)) || (decide (a1.Kind ≠ 3))) = true then (
 some (3, a0)) else (
 (t_slices_Index_int_int a0.left a1.Switch).bind fun r24 =>
 if ((decide (a1.Round ≠ (wr (a0.said - 1)))) || (decide (r24 < 0))) = true then (
 some (6, a0)) else (
 (deleteI a0.left r24 (wr (r24 + 1))).bind fun r44 =>
 some (0, (T_drive_Drive.mk a0.rounds a0.wait a0.said r44 a0.ticks))))
theorem ty_drive_Drive_Hear {n : Nat} (hn : bigN ≤ n) (a0 : T_drive_Drive) (a1 : T_Msg) : Rv (fun x : (Int × T_drive_Drive) => (V.tup [(eV x.1), (V.obj [(V.osl 1 (List.map (cS T_Op.c) x.2.rounds)), (vi x.2.wait), (vi x.2.said), (V.osl 1 (List.map cI x.2.left)), (vi x.2.ticks)]), V.any])) (sem_drive_Drive_Hear n [(V.obj [(V.osl 1 (List.map (cS T_Op.c) a0.rounds)), (vi a0.wait), (vi a0.said), (V.osl 1 (List.map cI a0.left)), (vi a0.ticks)]), (T_Msg.e a1)]) (t_drive_Drive_Hear a0 a1) := by
  rw [eq_drive_Drive_Hear]
  unfold t_drive_Drive_Hear
  refine tb (x := V.any) rfl ?_
  refine tb (x := (T_Msg.e a1)) rfl ?_
  refine tb (x := (T_Msg.c a1)) rfl ?_
  refine tb (x := (T_Msg.e a1)) (rfl) ?_
  refine tbo (ty_wire_Check hn a1) fun r6 => ?_
  refine tb (x := (vb (!decide (r6 = 0)))) (p_err_neq _) ?_
  refine tg_f (x := V.any) (fun h8 => rfl) ?_
  refine tg_f (x := (vi a1.Kind)) (fun h10 => bind_some_eq (gate_pos (not_t h10) (rfl))) ?_
  refine tg_f (x := (vb (decide (a1.Kind ≠ 3)))) (fun h13 => by simp only [gv_t h13]; exact bind_some_eq (d_neq)) ?_
  refine tb (x := (vb ((!decide (r6 = 0)) || (decide (a1.Kind ≠ 3))))) (pick_or (fun h9 => gv_t (not_f h9))) ?_
  refine tcond (fun h17 => ?_) (fun h17 => ?_)
  · refine tb (x := (eV 3)) (p_mkE (by decide)) ?_
    exact rf_ret rfl
  · refine tb (x := V.any) rfl ?_
    refine tb (x := V.any) rfl ?_
    refine tb (x := V.any) rfl ?_
    refine tb (x := (vi a1.Switch)) (rfl) ?_
    refine tb (x := (V.sl (List.map cI a0.left))) (p_frzS (k := 1) (c' := cI) (fun _ => rfl) a0.left) ?_
    refine tbo (ty_slices_Index_int_int hn a0.left a1.Switch) fun r24 => ?_
    refine tb (x := (vi r24)) rfl ?_
    refine tb (x := (vi a1.Round)) (rfl) ?_
    refine tb (x := V.any) rfl ?_
    refine tb (x := V.any) rfl ?_
    refine tb (x := (vi a0.said)) (rfl) ?_
    refine tb (x := (vi (wr (a0.said - 1)))) (d_sub) ?_
    refine tb (x := (vb (decide (a1.Round ≠ (wr (a0.said - 1)))))) (d_neq) ?_
    refine tg_f (x := (vi r24)) (fun h32 => rfl) ?_
    refine tg_f (x := (vb (decide (r24 < 0)))) (fun h34 => by simp only [gv_t h34]; exact bind_some_eq (d_lss)) ?_
    refine tb (x := (vb ((decide (a1.Round ≠ (wr (a0.said - 1)))) || (decide (r24 < 0))))) (pick_or (fun h9 => gv_t (not_f h9))) ?_
    refine tcond (fun h38 => ?_) (fun h38 => ?_)
    · refine tb (x := (eV 6)) (p_mkE (by decide)) ?_
      exact rf_ret rfl
    · refine tb (x := V.any) rfl ?_
      refine tb (x := V.any) rfl ?_
      refine tb (x := V.any) rfl ?_
      refine tb (x := (V.osl 1 (List.map cI a0.left))) rfl ?_
      refine tb (x := (V.obj [(V.osl 1 (List.map (cS T_Op.c) a0.rounds)), (vi a0.wait), (vi a0.said), V.any, (vi a0.ticks)])) (by kernel_rfl) ?_
      refine tb (x := (vi (wr (r24 + 1)))) (d_add) ?_
      refine tbo (p_delete a0.left r24 (wr (r24 + 1))) fun r44 => ?_
      refine tb (x := V.any) rfl ?_
      refine tb (x := V.any) rfl ?_
      refine tb (x := [(V.osl 1 (List.map cI r44))]) rfl ?_
      refine tb (x := (V.obj [(V.osl 1 (List.map (cS T_Op.c) a0.rounds)), (vi a0.wait), (vi a0.said), (V.osl 1 (List.map cI r44)), (vi a0.ticks)])) (by kernel_rfl) ?_
      exact rf_ret rfl

/-! railpoint/railsame.Msgs -/
def an_railsame_Msgs : Ann := .seq (.reg 0 [] [] []) (.seq (.seq (.reg 0 [] [] []) (.cond none (.seq (.reg 0 [] [] []) (.no)) (.no))) (.seq (.seq (.reg 0 [] [] []) (.blk (some []) (.loop [.s 5] (.seq (.seq (.reg 0 [] [] []) (.cond none (.no) (.no))) (.seq (.blk none (.seq (.reg 9 [] [] []) (.cond none (.seq (.reg 0 [] [] []) (.no)) (.no)))) (.reg 0 [] [] [])))))) (.seq (.reg 0 [] [] []) (.no))))
noncomputable def sem_railsame_Msgs (n : Nat) (xs : List V) : Option V := if xs.length ≤ 26 then denF Tryd.prog (envOf []) n Tryd.f12 an_railsame_Msgs xs else none
theorem ok_railsame_Msgs (n : Nat) : SemOk Tryd.prog DW 12 (sem_railsame_Msgs n) := fun xs y h => by
  unfold sem_railsame_Msgs at h
  split at h
  · rename_i hl
    exact denF_ok stb Tryd.func12 (by kernel_rfl) (envOf_ok semsOk_nil) (by rw [Tryd.ntmps12]; exact hl) h
  · cases h
theorem eq_railsame_Msgs (n : Nat) (x0 x1 : V) : sem_railsame_Msgs n [x0, x1] =
 (lenS [x0]).bind fun v1 =>
 (lenS [x1]).bind fun v2 =>
 (bin2 Tryd.prog BinOp.neq 3 (ot 7) (ot 9) v1 v2).bind fun v3 =>
 condV v3 (
 some (vb false)) (
 JoinPt (fun vs4 =>
 some (vb true)) fun J5 =>
 (fixN (fun rec6 vs7 =>
 (lenS [x0]).bind fun v8 =>
 (bin2 Tryd.prog BinOp.lss 3 (ot 11) (ot 13) (List.getD vs7 0 V.any) v8).bind fun v9 =>
 condV v9 (
 (idxS 12 x0 (List.getD vs7 0 V.any)).bind fun v10 =>
 (ldp (some 12) v10).bind fun v11 =>
 (idxS 12 x1 (List.getD vs7 0 V.any)).bind fun v12 =>
 (ldp (some 12) v12).bind fun v13 =>
 (bin2 Tryd.prog BinOp.neq 39 (ot 20) (ot 24) v11 v13).bind fun v14 =>
 condV v14 (
 some (vb false)) (
 (bin2 Tryd.prog BinOp.add 3 (ot 15) (oc 1) (List.getD vs7 0 V.any) (vi 1)).bind fun v15 =>
 rec6 [v15])) (
 J5 [])) n) [(vi 0)]) := by kernel_rfl
noncomputable def t_railsame_Msgs (a0 : (List T_Msg)) (a1 : (List T_Msg)) : Option Bool :=
 if (decide ((List.length a0 : Int) ≠ (List.length a1 : Int))) = true then (
 some false) else (
 join (fun (s7 : Unit) =>
 some true) fun j8 =>
 loopI a0 (fun (i16 : Int) x17 (s12 : Unit) k13 =>
 (idx a1 i16).bind fun r26 =>
 if (!decide (x17 = r26)) = true then (
 some false) else (
 k13 ())) (fun (s12 : Unit) =>
 j8 ()) ())
theorem ty_railsame_Msgs {n : Nat} (hn : bigN ≤ n) (a0 : (List T_Msg)) (a1 : (List T_Msg)) : Rv (fun x : Bool => (vb x)) (sem_railsame_Msgs n [(V.sl (List.map T_Msg.c a0)), (V.sl (List.map T_Msg.c a1))]) (t_railsame_Msgs a0 a1) := by
  rw [eq_railsame_Msgs]
  unfold t_railsame_Msgs
  refine tb (x := (vi (List.length a0 : Int))) (p_len _) ?_
  refine tb (x := (vi (List.length a1 : Int))) (p_len _) ?_
  refine tb (x := (vb (decide ((List.length a0 : Int) ≠ (List.length a1 : Int))))) (d_neq) ?_
  refine tcond (fun h4 => ?_) (fun h4 => ?_)
  · exact rf_ret rfl
  · refine tjoin (mk := fun s7 : Unit => []) (fun s7 => ?_) fun J6 j8 h9 => ?_
    · exact rf_ret rfl
    · refine rf_loopI (mk := fun (i16 : Int) (s12 : Unit) => [(vi (i16 : Int))]) hn a0 () (fun i16 x17 h18 h19 h20 s12 rec10 k13 h14 => ?_) (fun s12 rec32 h31 => ?_)
      · refine tb (x := (vi (List.length a0 : Int))) (p_len _) ?_
        refine tb (x := (vb (decide ((i16 : Int) < (List.length a0 : Int))))) (d_lss) ?_
        refine tcond_t h20 ?_
        refine tb (x := (V.ptr (T_Msg.c x17))) (p_idx_at (c := T_Msg.c) (fun _ => rfl) h18) ?_
        refine tb (x := (T_Msg.e x17)) (rfl) ?_
        refine tbo (p_idx (c := T_Msg.c) (fun _ => rfl) a1 (i16 : Int)) fun r26 => ?_
        refine tb (x := (T_Msg.e r26)) (rfl) ?_
        refine tb (x := (vb (!decide (x17 = r26)))) (T_Msg.neq x17 r26) ?_
        refine tcond (fun h29 => ?_) (fun h29 => ?_)
        · exact rf_ret rfl
        · refine tb (x := (vi ((i16 : Int) + 1))) (p_incN h19) ?_
          exact h14 ()
      · refine tb (x := (vi (List.length a0 : Int))) (p_len _) ?_
        refine tb (x := (vb (decide ((List.length a0 : Int) < (List.length a0 : Int))))) (d_lss) ?_
        refine tcond_f h31 ?_
        exact h9 ()

/-!   railpoint/drive.Drive .Left -/
def an_drive_Drive_Left : Ann := .seq (.reg 0 [] [] []) (.seq (.reg 0 [] [] [1000007]) (.no))
noncomputable def sem_drive_Drive_Left (n : Nat) (xs : List V) : Option V := if xs.length ≤ 8 then denFR Tryd.prog (envOf [(42 + 1000000 * (3 + 2), (semClone 1))]) n Tryd.f28 an_drive_Drive_Left 3 xs else none
theorem ok_drive_Drive_Left (n : Nat) : RSemOk Tryd.prog DW 28 3 (sem_drive_Drive_Left n) := fun xs y h => by
  unfold sem_drive_Drive_Left at h
  split at h
  · rename_i hl
    exact denFR_ok stb Tryd.func28 (by kernel_rfl) (envOf_ok (semsOk_consR (rok_slices_Clone_int_int) semsOk_nil)) (by rw [Tryd.ntmps28]; exact hl) h
  · cases h
theorem eq_drive_Drive_Left (n : Nat) (x0 : V) : sem_drive_Drive_Left n [x0] =
 (ptrF 0 x0).bind fun v1 =>
 (ptrF 3 v1).bind fun v2 =>
 (ldp none v2).bind fun v3 =>
 ((semClone 1) [v3]).bind fun v4 =>
 some (V.sl (slL3 v4)) := by kernel_rfl
noncomputable def t_drive_Drive_Left (a0 : T_drive_Drive) : Option (List Int) :=
 (cln a0.left).bind fun r5 =>
 some r5
theorem ty_drive_Drive_Left {n : Nat} (hn : bigN ≤ n) (a0 : T_drive_Drive) : Rv (fun x : (List Int) => (V.sl (List.map cI x))) (sem_drive_Drive_Left n [(V.ptr (T_drive_Drive.c a0))]) (t_drive_Drive_Left a0) := by
  rw [eq_drive_Drive_Left]
  unfold t_drive_Drive_Left
  refine tb (x := (V.ptr (T_drive_Drive.c a0))) (rfl) ?_
  refine tb (x := (V.ptr (List.drop 3 (T_drive_Drive.c a0)))) (rfl) ?_
  refine tb (x := (V.sl (List.map cI a0.left))) (rfl) ?_
  refine tbo (p_clone (c := cI) (fun _ => rfl) a0.left) fun r5 => ?_
  exact rf_ret rfl

/-! railpoint/railsame.Ints -/
def an_railsame_Ints : Ann := .seq (.reg 0 [] [] []) (.seq (.seq (.reg 0 [] [] []) (.cond none (.seq (.reg 0 [] [] []) (.no)) (.no))) (.seq (.seq (.reg 0 [] [] []) (.blk (some []) (.loop [.s 5] (.seq (.seq (.reg 0 [] [] []) (.cond none (.no) (.no))) (.seq (.blk none (.seq (.reg 9 [] [] []) (.cond none (.seq (.reg 0 [] [] []) (.no)) (.no)))) (.reg 0 [] [] [])))))) (.seq (.reg 0 [] [] []) (.no))))
noncomputable def sem_railsame_Ints (n : Nat) (xs : List V) : Option V := if xs.length ≤ 26 then denF Tryd.prog (envOf []) n Tryd.f21 an_railsame_Ints xs else none
theorem ok_railsame_Ints (n : Nat) : SemOk Tryd.prog DW 21 (sem_railsame_Ints n) := fun xs y h => by
  unfold sem_railsame_Ints at h
  split at h
  · rename_i hl
    exact denF_ok stb Tryd.func21 (by kernel_rfl) (envOf_ok semsOk_nil) (by rw [Tryd.ntmps21]; exact hl) h
  · cases h
theorem eq_railsame_Ints (n : Nat) (x0 x1 : V) : sem_railsame_Ints n [x0, x1] =
 (lenS [x0]).bind fun v1 =>
 (lenS [x1]).bind fun v2 =>
 (bin2 Tryd.prog BinOp.neq 3 (ot 7) (ot 9) v1 v2).bind fun v3 =>
 condV v3 (
 some (vb false)) (
 JoinPt (fun vs4 =>
 some (vb true)) fun J5 =>
 (fixN (fun rec6 vs7 =>
 (lenS [x0]).bind fun v8 =>
 (bin2 Tryd.prog BinOp.lss 3 (ot 11) (ot 13) (List.getD vs7 0 V.any) v8).bind fun v9 =>
 condV v9 (
 (idxS 1 x0 (List.getD vs7 0 V.any)).bind fun v10 =>
 (ldp none v10).bind fun v11 =>
 (idxS 1 x1 (List.getD vs7 0 V.any)).bind fun v12 =>
 (ldp none v12).bind fun v13 =>
 (bin2 Tryd.prog BinOp.neq 3 (ot 20) (ot 24) v11 v13).bind fun v14 =>
 condV v14 (
 some (vb false)) (
 (bin2 Tryd.prog BinOp.add 3 (ot 15) (oc 1) (List.getD vs7 0 V.any) (vi 1)).bind fun v15 =>
 rec6 [v15])) (
 J5 [])) n) [(vi 0)]) := by kernel_rfl
noncomputable def t_railsame_Ints (a0 : (List Int)) (a1 : (List Int)) : Option Bool :=
 if (decide ((List.length a0 : Int) ≠ (List.length a1 : Int))) = true then (
 some false) else (
 join (fun (s7 : Unit) =>
 some true) fun j8 =>
 loopI a0 (fun (i16 : Int) x17 (s12 : Unit) k13 =>
 (idx a1 i16).bind fun r26 =>
 if (decide (x17 ≠ r26)) = true then (
 some false) else (
 k13 ())) (fun (s12 : Unit) =>
 j8 ()) ())
theorem ty_railsame_Ints {n : Nat} (hn : bigN ≤ n) (a0 : (List Int)) (a1 : (List Int)) : Rv (fun x : Bool => (vb x)) (sem_railsame_Ints n [(V.sl (List.map cI a0)), (V.sl (List.map cI a1))]) (t_railsame_Ints a0 a1) := by
  rw [eq_railsame_Ints]
  unfold t_railsame_Ints
  refine tb (x := (vi (List.length a0 : Int))) (p_len _) ?_
  refine tb (x := (vi (List.length a1 : Int))) (p_len _) ?_
  refine tb (x := (vb (decide ((List.length a0 : Int) ≠ (List.length a1 : Int))))) (d_neq) ?_
  refine tcond (fun h4 => ?_) (fun h4 => ?_)
  · exact rf_ret rfl
  · refine tjoin (mk := fun s7 : Unit => []) (fun s7 => ?_) fun J6 j8 h9 => ?_
    · exact rf_ret rfl
    · refine rf_loopI (mk := fun (i16 : Int) (s12 : Unit) => [(vi (i16 : Int))]) hn a0 () (fun i16 x17 h18 h19 h20 s12 rec10 k13 h14 => ?_) (fun s12 rec32 h31 => ?_)
      · refine tb (x := (vi (List.length a0 : Int))) (p_len _) ?_
        refine tb (x := (vb (decide ((i16 : Int) < (List.length a0 : Int))))) (d_lss) ?_
        refine tcond_t h20 ?_
        refine tb (x := (V.ptr [(vi x17)])) (p_idx_at (c := cI) (fun _ => rfl) h18) ?_
        refine tb (x := (vi x17)) (rfl) ?_
        refine tbo (p_idx (c := cI) (fun _ => rfl) a1 (i16 : Int)) fun r26 => ?_
        refine tb (x := (vi r26)) (rfl) ?_
        refine tb (x := (vb (decide (x17 ≠ r26)))) (d_neq) ?_
        refine tcond (fun h29 => ?_) (fun h29 => ?_)
        · exact rf_ret rfl
        · refine tb (x := (vi ((i16 : Int) + 1))) (p_incN h19) ?_
          exact h14 ()
      · refine tb (x := (vi (List.length a0 : Int))) (p_len _) ?_
        refine tb (x := (vb (decide ((List.length a0 : Int) < (List.length a0 : Int))))) (d_lss) ?_
        refine tcond_f h31 ?_
        exact h9 ()

/-!   railpoint/drive.Drive .Round -/
def an_drive_Drive_Round : Ann := .seq (.reg 0 [] [] []) (.seq (.reg 0 [] [] []) (.no))
noncomputable def sem_drive_Drive_Round (n : Nat) (xs : List V) : Option V := if xs.length ≤ 7 then denF Tryd.prog (envOf []) n Tryd.f31 an_drive_Drive_Round xs else none
theorem ok_drive_Drive_Round (n : Nat) : SemOk Tryd.prog DW 31 (sem_drive_Drive_Round n) := fun xs y h => by
  unfold sem_drive_Drive_Round at h
  split at h
  · rename_i hl
    exact denF_ok stb Tryd.func31 (by kernel_rfl) (envOf_ok semsOk_nil) (by rw [Tryd.ntmps31]; exact hl) h
  · cases h
theorem eq_drive_Drive_Round (n : Nat) (x0 : V) : sem_drive_Drive_Round n [x0] =
 (ptrF 0 x0).bind fun v1 =>
 (ptrF 2 v1).bind fun v2 =>
 (ldp none v2).bind fun v3 =>
 some v3 := by kernel_rfl
noncomputable def t_drive_Drive_Round (a0 : T_drive_Drive) : Option Int :=
 some a0.said
theorem ty_drive_Drive_Round {n : Nat} (hn : bigN ≤ n) (a0 : T_drive_Drive) : Rv (fun x : Int => (vi x)) (sem_drive_Drive_Round n [(V.ptr (T_drive_Drive.c a0))]) (t_drive_Drive_Round a0) := by
  rw [eq_drive_Drive_Round]
  unfold t_drive_Drive_Round
  refine tb (x := (V.ptr (T_drive_Drive.c a0))) (rfl) ?_
  refine tb (x := (V.ptr (List.drop 2 (T_drive_Drive.c a0)))) (rfl) ?_
  refine tb (x := (vi a0.said)) (rfl) ?_
  exact rf_ret rfl

/-!   railpoint/drive.Drive .Done -/
def an_drive_Drive_Done : Ann := .seq (.reg 0 [] [] []) (.seq (.reg 19 [] [] []) (.no))
noncomputable def sem_drive_Drive_Done (n : Nat) (xs : List V) : Option V := if xs.length ≤ 21 then denF Tryd.prog (envOf []) n Tryd.f30 an_drive_Drive_Done xs else none
theorem ok_drive_Drive_Done (n : Nat) : SemOk Tryd.prog DW 30 (sem_drive_Drive_Done n) := fun xs y h => by
  unfold sem_drive_Drive_Done at h
  split at h
  · rename_i hl
    exact denF_ok stb Tryd.func30 (by kernel_rfl) (envOf_ok semsOk_nil) (by rw [Tryd.ntmps30]; exact hl) h
  · cases h
theorem eq_drive_Drive_Done (n : Nat) (x0 : V) : sem_drive_Drive_Done n [x0] =
 (ptrF 0 x0).bind fun v1 =>
 (ptrF 3 v1).bind fun v2 =>
 (ldp none v2).bind fun v3 =>
 (lenS [v3]).bind fun v4 =>
 (bin2 Tryd.prog BinOp.eql 3 (ot 7) (oc 0) v4 (vi 0)).bind fun v5 =>
 (guardV v5 true (some x0)).bind fun v6 =>
 (guardV v5 true ((ptrF 0 v6).bind fun v7 =>
 some v7)).bind fun v8 =>
 (guardV v5 true ((ptrF 2 v8).bind fun v9 =>
 some v9)).bind fun v10 =>
 (guardV v5 true ((ldp none v10).bind fun v11 =>
 some v11)).bind fun v12 =>
 (guardV v5 true (some x0)).bind fun v13 =>
 (guardV v5 true ((ptrF 0 v13).bind fun v14 =>
 some v14)).bind fun v15 =>
 (guardV v5 true ((ptrF 0 v15).bind fun v16 =>
 some v16)).bind fun v17 =>
 (guardV v5 true ((ldp none v17).bind fun v18 =>
 some v18)).bind fun v19 =>
 (guardV v5 true ((lenS [v19]).bind fun v20 =>
 some v20)).bind fun v21 =>
 (guardV v5 true ((bin2 Tryd.prog BinOp.eql 3 (ot 13) (ot 18) v12 v21).bind fun v22 =>
 some v22)).bind fun v23 =>
 (pickV v5 v23 (vb false)).bind fun v24 =>
 some v24 := by kernel_rfl
noncomputable def t_drive_Drive_Done (a0 : T_drive_Drive) : Option Bool :=
 some ((decide ((List.length a0.left : Int) = 0)) && (decide (a0.said = (List.length a0.rounds : Int))))
theorem ty_drive_Drive_Done {n : Nat} (hn : bigN ≤ n) (a0 : T_drive_Drive) : Rv (fun x : Bool => (vb x)) (sem_drive_Drive_Done n [(V.ptr (T_drive_Drive.c a0))]) (t_drive_Drive_Done a0) := by
  rw [eq_drive_Drive_Done]
  unfold t_drive_Drive_Done
  refine tb (x := (V.ptr (T_drive_Drive.c a0))) (rfl) ?_
  refine tb (x := (V.ptr (List.drop 3 (T_drive_Drive.c a0)))) (rfl) ?_
  refine tb (x := (V.sl (List.map cI a0.left))) (rfl) ?_
  refine tb (x := (vi (List.length a0.left : Int))) (p_len _) ?_
  refine tb (x := (vb (decide ((List.length a0.left : Int) = 0)))) (d_eql) ?_
  refine tg (x := (V.ptr (T_drive_Drive.c a0))) (fun h6 => rfl) ?_
  refine tg (x := (V.ptr (T_drive_Drive.c a0))) (fun h8 => by first | exact bind_some_eq (rfl) | (simp only [gv_t h8]; exact bind_some_eq (rfl))) ?_
  refine tg (x := (V.ptr (List.drop 2 (T_drive_Drive.c a0)))) (fun h11 => by first | exact bind_some_eq (rfl) | (simp only [gv_t h11]; exact bind_some_eq (rfl))) ?_
  refine tg (x := (vi a0.said)) (fun h14 => by first | exact bind_some_eq (rfl) | (simp only [gv_t h14]; exact bind_some_eq (rfl))) ?_
  refine tg (x := (V.ptr (T_drive_Drive.c a0))) (fun h17 => rfl) ?_
  refine tg (x := (V.ptr (T_drive_Drive.c a0))) (fun h19 => by first | exact bind_some_eq (rfl) | (simp only [gv_t h19]; exact bind_some_eq (rfl))) ?_
  refine tg (x := (V.ptr (T_drive_Drive.c a0))) (fun h22 => by first | exact bind_some_eq (rfl) | (simp only [gv_t h22]; exact bind_some_eq (rfl))) ?_
  refine tg (x := (V.sl (List.map (cS T_Op.c) a0.rounds))) (fun h25 => by first | exact bind_some_eq (rfl) | (simp only [gv_t h25]; exact bind_some_eq (rfl))) ?_
  refine tg (x := (vi (List.length a0.rounds : Int))) (fun h28 => by simp only [gv_t h28]; exact bind_some_eq (p_len _)) ?_
  refine tg (x := (vb (decide (a0.said = (List.length a0.rounds : Int))))) (fun h31 => by simp only [gv_t h31]; exact bind_some_eq (d_eql)) ?_
  refine tb (x := (vb ((decide ((List.length a0.left : Int) = 0)) && (decide (a0.said = (List.length a0.rounds : Int)))))) (pick_and (fun h9 => gv_t h9)) ?_
  exact rf_ret rfl

/-! railpoint/raillaw2.DrivePlays -/
def an_raillaw2_DrivePlays : Ann := .seq (.reg 0 [] [] []) (.seq (.reg 0 [] [] []) (.seq (.reg 0 [] [] [27, 28]) (.seq (.reg 0 [] [] []) (.seq (.seq (.reg 0 [] [] []) (.cond none (.seq (.reg 0 [] [] []) (.no)) (.no))) (.seq (.reg 0 [] [] [43]) (.seq (.seq (.reg 0 [] [] []) (.blk (some []) (.loop [.o 10, .o 13, .s 14] (.seq (.seq (.reg 0 [] [] []) (.cond none (.no) (.no))) (.seq (.blk none (.seq (.reg 0 [] [] []) (.seq (.reg 0 [] [] []) (.seq (.reg 0 [] [] []) (.seq (.seq (.reg 0 [] [] []) (.blk none (.seq (.reg 0 [] [] []) (.cond (some [.s 9, .o 10, .o 13, .s 15, .s 16, .s 17]) (.seq (.reg 0 [] [] []) (.reg 0 [] [] [])) (.seq (.reg 0 [] [] []) (.cond (some [.s 9, .o 10, .o 13, .s 15, .s 16, .s 17]) (.seq (.reg 0 [] [] []) (.reg 0 [] [] [])) (.seq (.reg 0 [] [] []) (.seq (.seq (.reg 0 [] [] []) (.cond (some [.ko 10, .ko 13, .b 18]) (.reg 0 [] [] []) (.no))) (.seq (.seq (.reg 0 [] [] []) (.cond (some [.ko 10, .ko 13, .b 18]) (.reg 12 [] [] []) (.no))) (.seq (.reg 0 [] [] []) (.reg 0 [] [] []))))))))))) (.seq (.reg 0 [] [] []) (.seq (.reg 0 [] [] []) (.seq (.reg 8 [] [] [2000124, 3000124]) (.seq (.reg 39 [] [] [2000142, 2000151]) (.cond none (.seq (.reg 0 [] [] []) (.no)) (.no))))))))))) (.reg 0 [] [] [])))))) (.seq (.reg 0 [] [] []) (.no))))))))
noncomputable def sem_raillaw2_DrivePlays (n : Nat) (xs : List V) : Option V := if xs.length ≤ 169 then denF Tryd.prog (envOf [(32, (sem_railref2_Rounds n)), (26 + 1000000, (sem_drive_New n)), (9, (sem_Error n)), (33 + 1000000, (sem_railref2_Drive_Next n)), (27 + 1000000, (sem_drive_Drive_Next n)), (34 + 1000000, (sem_railref2_Drive_Tick n)), (35 + 1000000, (sem_drive_Drive_Tick n)), (36 + 1000000, (sem_railref2_Drive_Hear n)), (29 + 1000000, (sem_drive_Drive_Hear n)), (12, (sem_railsame_Msgs n)), (28 + 1000000 * (3 + 2), (sem_drive_Drive_Left n)), (21, (sem_railsame_Ints n)), (31, (sem_drive_Drive_Round n)), (30, (sem_drive_Drive_Done n))]) n Tryd.f7 an_raillaw2_DrivePlays xs else none
theorem ok_raillaw2_DrivePlays (n : Nat) : SemOk Tryd.prog DW 7 (sem_raillaw2_DrivePlays n) := fun xs y h => by
  unfold sem_raillaw2_DrivePlays at h
  split at h
  · rename_i hl
    exact denF_ok stb Tryd.func7 (by kernel_rfl) (envOf_ok (semsOk_cons (ok_railref2_Rounds n) (semsOk_consM (ok_drive_New n) (semsOk_cons (ok_Error n) (semsOk_consM (ok_railref2_Drive_Next n) (semsOk_consM (ok_drive_Drive_Next n) (semsOk_consM (ok_railref2_Drive_Tick n) (semsOk_consM (ok_drive_Drive_Tick n) (semsOk_consM (ok_railref2_Drive_Hear n) (semsOk_consM (ok_drive_Drive_Hear n) (semsOk_cons (ok_railsame_Msgs n) (semsOk_consR (ok_drive_Drive_Left n) (semsOk_cons (ok_railsame_Ints n) (semsOk_cons (ok_drive_Drive_Round n) (semsOk_cons (ok_drive_Drive_Done n) semsOk_nil))))))))))))))) (by rw [Tryd.ntmps7]; exact hl) h
  · cases h
theorem eq_raillaw2_DrivePlays (n : Nat) (x0 x1 x2 x3 : V) : sem_raillaw2_DrivePlays n [x0, x1, x2, x3] =
 ((sem_railref2_Rounds n) [x0, x1]).bind fun v1 =>
 ((sem_drive_New n) [x0, x1]).bind fun z2 =>
 partK (tupAt z2 0) 0 (fun l4 c5 =>
 partP (V.tup l4) 1 fun v6 =>
 ((sem_Error n) [v6, v1]).bind fun v7 =>
 (scal1 Tryd.prog (Op.unary Go.UnOp.not) v7).bind fun v8 =>
 (guardV v8 false (some v1)).bind fun v9 =>
 (guardV v8 false ((bin2 Tryd.prog BinOp.neq 3 (ot 36) (oc 0) v9 (vi 0)).bind fun v10 =>
 some v10)).bind fun v11 =>
 (pickV v8 (vb true) v11).bind fun v12 =>
 condV v12 (
 some v7) (
 ((fillL [(V.sl []), (vi 0), (vi 0), (V.sl []), (vi 0)] [(0, 1, x0), (1, 1, x1)]).map V.agg).bind fun v13 =>
 (V.cellsO v13).bind fun v14 =>
 JoinPt (fun vs15 =>
 some (vb true)) fun J16 =>
 (fixN (fun rec17 vs18 =>
 (lenS [x2]).bind fun v19 =>
 (bin2 Tryd.prog BinOp.lss 3 (ot 44) (ot 46) (List.getD vs18 2 V.any) v19).bind fun v20 =>
 (guardV v20 true (some (List.getD vs18 2 V.any))).bind fun v21 =>
 (guardV v20 true ((bin2 Tryd.prog BinOp.lss 3 (ot 49) (oc 80) v21 (vi 80)).bind fun v22 =>
 some v22)).bind fun v23 =>
 (pickV v20 v23 (vb false)).bind fun v24 =>
 condV v24 (
 (idxS 1 x2 (List.getD vs18 2 V.any)).bind fun v25 =>
 (ldp none v25).bind fun v26 =>
 (bin2 Tryd.prog BinOp.eql 3 (ot 57) (oc 0) v26 (vi 0)).bind fun v27 =>
 JoinPt (fun vs28 =>
 ((sem_Error n) [(List.getD vs28 5 V.any), (List.getD vs28 0 V.any)]).bind fun v30 =>
 ((sem_railsame_Msgs n) [(List.getD vs28 4 V.any), (List.getD vs28 3 V.any)]).bind fun v31 =>
 (some (frzQ (List.getD vs28 1 V.any))).bind fun v32 =>
 ((sem_drive_Drive_Left n) [v32]).bind fun v34 =>
 (flatQ v34).bind fun v33 =>
 (some V.any).bind fun v35 =>
 (some V.any).bind fun v36 =>
 ((nodeL (List.getD vs28 2 V.any) none 0).bind fun l37 => (ldk none (List.drop 3 l37)).bind pureO).bind fun v38 =>
 ((sem_railsame_Ints n) [v33, v38]).bind fun v39 =>
 (scal1 Tryd.prog (Op.unary Go.UnOp.not) v30).bind fun v40 =>
 (guardV v40 false (some v31)).bind fun v41 =>
 (guardV v40 false ((scal1 Tryd.prog (Op.unary Go.UnOp.not) v41).bind fun v42 =>
 some v42)).bind fun v43 =>
 (pickV v40 (vb true) v43).bind fun v44 =>
 (guardV v44 false (some v39)).bind fun v45 =>
 (guardV v44 false ((scal1 Tryd.prog (Op.unary Go.UnOp.not) v45).bind fun v46 =>
 some v46)).bind fun v47 =>
 (pickV v44 (vb true) v47).bind fun v48 =>
 (guardV v48 false (some V.any)).bind fun v49 =>
 (guardV v48 false ((some (gateA [(v48, false)] (frzQ (List.getD vs28 1 V.any)))).bind fun v50 =>
 ((sem_drive_Drive_Round n) [v50]).bind litQ)).bind fun v51 =>
 (guardV v48 false (some V.any)).bind fun v52 =>
 (guardV v48 false (gate v48 false (some V.any))).bind fun v53 =>
 (guardV v48 false (gate v48 false (gate v48 false (some V.any)))).bind fun v54 =>
 (guardV v48 false ((gate v48 false (gate v48 false (gate v48 false ((nodeL (List.getD vs28 2 V.any) none 0).bind fun l55 => (ldk none (List.drop 2 l55)).bind pureO)))).bind fun v56 =>
 some v56)).bind fun v57 =>
 (guardV v48 false ((bin2 Tryd.prog BinOp.neq 3 (ot 142) (ot 146) v51 v57).bind fun v58 =>
 some v58)).bind fun v59 =>
 (pickV v48 (vb true) v59).bind fun v60 =>
 (guardV v60 false (some V.any)).bind fun v61 =>
 (guardV v60 false ((some (gateA [(v60, false)] (frzQ (List.getD vs28 1 V.any)))).bind fun v62 =>
 ((sem_drive_Drive_Done n) [v62]).bind litQ)).bind fun v63 =>
 (guardV v60 false (some V.any)).bind fun v64 =>
 (guardV v60 false (gate v60 false (some V.any))).bind fun v65 =>
 (guardV v60 false (gate v60 false (gate v60 false (some V.any)))).bind fun v66 =>
 (guardV v60 false ((gate v60 false (gate v60 false (gate v60 false ((nodeL (List.getD vs28 2 V.any) none 0).bind fun l67 => (ldk none (List.drop 3 l67)).bind pureO)))).bind fun v68 =>
 some v68)).bind fun v69 =>
 (guardV v60 false ((lenS [v69]).bind fun v70 =>
 some v70)).bind fun v71 =>
 (guardV v60 false ((bin2 Tryd.prog BinOp.eql 3 (ot 156) (oc 0) v71 (vi 0)).bind fun v72 =>
 some v72)).bind fun v73 =>
 (guardV v60 false (some v73)).bind fun v74 =>
 (guardV v74 true (some V.any)).bind fun v75 =>
 (guardV v74 true (gate v74 true (some V.any))).bind fun v76 =>
 (guardV v74 true (gate v74 true (gate v74 true (some V.any)))).bind fun v77 =>
 (guardV v74 true ((gate v74 true (gate v74 true (gate v74 true ((nodeL (List.getD vs28 2 V.any) none 0).bind fun l78 => (ldk none (List.drop 2 l78)).bind pureO)))).bind fun v79 =>
 some v79)).bind fun v80 =>
 (guardV v74 true (some x0)).bind fun v81 =>
 (guardV v74 true ((lenS [v81]).bind fun v82 =>
 some v82)).bind fun v83 =>
 (guardV v74 true ((bin2 Tryd.prog BinOp.eql 3 (ot 162) (ot 164) v80 v83).bind fun v84 =>
 some v84)).bind fun v85 =>
 (guardV v60 false ((pickV v74 v85 (vb false)).bind fun v86 =>
 some v86)).bind fun v87 =>
 (guardV v60 false ((bin2 Tryd.prog BinOp.neq 4 (ot 151) (ot 166) v63 v87).bind fun v88 =>
 some v88)).bind fun v89 =>
 (pickV v60 (vb true) v89).bind fun v90 =>
 condV v90 (
 some (vb false)) (
 (bin2 Tryd.prog BinOp.add 3 (ot 52) (oc 1) (List.getD vs18 2 V.any) (vi 1)).bind fun v91 =>
 rec17 [(List.getD vs28 1 V.any), (List.getD vs28 2 V.any), v91])) fun J29 =>
 condV v27 (
 (objG (List.getD vs18 1 V.any)).bind fun v92 =>
 ((sem_railref2_Drive_Next n) [(List.getD vs18 1 V.any)]).bind fun z93 =>
 (pureO (tupAt z93 0)).bind fun v94 =>
 (extractV v94 0).bind fun v95 =>
 (extractV v94 1).bind fun v96 =>
 (objG (List.getD vs18 0 V.any)).bind fun v97 =>
 ((sem_drive_Drive_Next n) [(List.getD vs18 0 V.any)]).bind fun z98 =>
 (pureO (tupAt z98 0)).bind fun v99 =>
 (extractV v99 0).bind fun v100 =>
 (extractV v99 1).bind fun v101 =>
 J29 [v96, (tupAt z98 1), (tupAt z93 1), v95, v100, v101]) (
 (bin2 Tryd.prog BinOp.eql 3 (ot 57) (oc 1) v26 (vi 1)).bind fun v102 =>
 JoinPt (fun vs103 =>
 J29 [(List.getD vs103 0 V.any), (List.getD vs103 1 V.any), (List.getD vs103 2 V.any), (List.getD vs103 3 V.any), (List.getD vs103 4 V.any), (List.getD vs103 5 V.any)]) fun J104 =>
 condV v102 (
 (objG (List.getD vs18 1 V.any)).bind fun v105 =>
 ((sem_railref2_Drive_Tick n) [(List.getD vs18 1 V.any)]).bind fun z106 =>
 (pureO (tupAt z106 0)).bind fun v107 =>
 (objG (List.getD vs18 0 V.any)).bind fun v108 =>
 ((sem_drive_Drive_Tick n) [(List.getD vs18 0 V.any)]).bind fun z109 =>
 (pureO (tupAt z109 0)).bind fun v110 =>
 J104 [(vi 0), (tupAt z109 1), (tupAt z106 1), v107, v110, vn]) (
 (lenS [x3]).bind fun v111 =>
 (bin2 Tryd.prog BinOp.gtr 3 (ot 59) (oc 0) v111 (vi 0)).bind fun v112 =>
 JoinPt (fun vs113 =>
 (idxS 1 x2 (List.getD vs18 2 V.any)).bind fun v115 =>
 (ldp none v115).bind fun v116 =>
 (bin2 Tryd.prog BinOp.eql 3 (ot 71) (oc 2) v116 (vi 2)).bind fun v117 =>
 (guardV v117 true (some V.any)).bind fun v118 =>
 (guardV v117 true (gate v117 true (some V.any))).bind fun v119 =>
 (guardV v117 true (gate v117 true (gate v117 true (some V.any)))).bind fun v120 =>
 (guardV v117 true ((gate v117 true (gate v117 true (gate v117 true ((nodeL (List.getD vs18 1 V.any) none 0).bind fun l121 => (ldk none (List.drop 3 l121)).bind pureO)))).bind fun v122 =>
 some v122)).bind fun v123 =>
 (guardV v117 true ((lenS [v123]).bind fun v124 =>
 some v124)).bind fun v125 =>
 (guardV v117 true ((bin2 Tryd.prog BinOp.gtr 3 (ot 78) (oc 0) v125 (vi 0)).bind fun v126 =>
 some v126)).bind fun v127 =>
 (pickV v117 v127 (vb false)).bind fun v128 =>
 JoinPt (fun vs129 =>
 (ldk (some 12) (List.drop 0 (aggL (List.getD vs129 0 V.any)))).bind fun v131 =>
 (objG (List.getD vs18 1 V.any)).bind fun v132 =>
 ((sem_railref2_Drive_Hear n) [(List.getD vs18 1 V.any), v131]).bind fun z133 =>
 (pureO (tupAt z133 0)).bind fun v134 =>
 (ldk (some 12) (List.drop 0 (aggL (List.getD vs129 0 V.any)))).bind fun v135 =>
 (objG (List.getD vs18 0 V.any)).bind fun v136 =>
 ((sem_drive_Drive_Hear n) [(List.getD vs18 0 V.any), v135]).bind fun z137 =>
 (pureO (tupAt z137 0)).bind fun v138 =>
 J104 [v134, (tupAt z137 1), (tupAt z133 1), (V.sl []), (V.sl []), v138]) fun J130 =>
 condV v128 (
 (some V.any).bind fun v139 =>
 (some V.any).bind fun v140 =>
 ((nodeL (List.getD vs18 1 V.any) none 0).bind fun l141 => (ldk none (List.drop 3 l141)).bind pureO).bind fun v142 =>
 (idxS 1 v142 (vi 0)).bind fun v143 =>
 (ldp none v143).bind fun v144 =>
 (some V.any).bind fun v145 =>
 (some V.any).bind fun v146 =>
 ((nodeL (List.getD vs18 1 V.any) none 0).bind fun l147 => (ldk none (List.drop 2 l147)).bind pureO).bind fun v148 =>
 (bin2 Tryd.prog BinOp.sub 3 (ot 90) (oc 1) v148 (vi 1)).bind fun v149 =>
 ((fillL [(vi 0), (vi 0), (vi 0), (vi 0), (vi 0), (vb false), (vi 0), (vi 0), (vi 0), (vi 0), (vi 0), (vi 0)] [(0, 1, (vi 3)), (1, 1, v144), (2, 1, v149)]).map V.agg).bind fun v150 =>
 (spliceV (aggL (List.getD vs113 0 V.any)) 0 12 v150).bind fun v151 =>
 (keepT (some (List.getD vs18 0 V.any)) (some (List.getD vs18 0 V.any)) (keepT (some (List.getD vs18 1 V.any)) (some (List.getD vs18 1 V.any)) (some [(V.agg (aggL v151))]))).bind J130) (
 (keepT (some (List.getD vs18 0 V.any)) (some (List.getD vs18 0 V.any)) (keepT (some (List.getD vs18 1 V.any)) (some (List.getD vs18 1 V.any)) (some [(V.agg (aggL (List.getD vs113 0 V.any)))]))).bind J130)) fun J114 =>
 condV v112 (
 (lenS [x3]).bind fun v152 =>
 (bin2 Tryd.prog BinOp.rem 3 (ot 62) (ot 64) (List.getD vs18 2 V.any) v152).bind fun v153 =>
 (idxS 12 x3 v153).bind fun v154 =>
 (ldp (some 12) v154).bind fun v155 =>
 (spliceV [(vi 0), (vi 0), (vi 0), (vi 0), (vi 0), (vb false), (vi 0), (vi 0), (vi 0), (vi 0), (vi 0), (vi 0)] 0 12 v155).bind fun v156 =>
 (keepT (some (List.getD vs18 0 V.any)) (some (List.getD vs18 0 V.any)) (keepT (some (List.getD vs18 1 V.any)) (some (List.getD vs18 1 V.any)) (some [(V.agg (aggL v156))]))).bind J114) (
 (keepT (some (List.getD vs18 0 V.any)) (some (List.getD vs18 0 V.any)) (keepT (some (List.getD vs18 1 V.any)) (some (List.getD vs18 1 V.any)) (some [(V.agg [(vi 0), (vi 0), (vi 0), (vi 0), (vi 0), (vb false), (vi 0), (vi 0), (vi 0), (vi 0), (vi 0), (vi 0)])]))).bind J114)))) (
 J16 [])) n) [(V.obj c5), (V.obj v14), (vi 0)])) fun v3 =>
 partP (tupAt z2 0) 1 fun v157 =>
 ((sem_Error n) [v157, v1]).bind fun v158 =>
 (scal1 Tryd.prog (Op.unary Go.UnOp.not) v158).bind fun v159 =>
 (guardV v159 false (some v1)).bind fun v160 =>
 (guardV v159 false ((bin2 Tryd.prog BinOp.neq 3 (ot 36) (oc 0) v160 (vi 0)).bind fun v161 =>
 some v161)).bind fun v162 =>
 (pickV v159 (vb true) v162).bind fun v163 =>
 condV v163 (
 some v158) (
 ((fillL [(V.sl []), (vi 0), (vi 0), (V.sl []), (vi 0)] [(0, 1, x0), (1, 1, x1)]).map V.agg).bind fun v164 =>
 (V.cellsO v164).bind fun v165 =>
 JoinPt (fun vs166 =>
 some (vb true)) fun J167 =>
 none) := by kernel_rfl
noncomputable def t_raillaw2_DrivePlays (a0 : (List (List T_Op))) (a1 : Int) (a2 : (List Int)) (a3 : (List T_Msg)) : Option Bool :=
 (t_railref2_Rounds a0 a1).bind fun r2 =>
 (t_drive_New a0 a1).bind fun r4 =>
 (caseO r4.1 (fun d8 => (
 (t_railsame_Error r4.2 r2).bind fun r11 =>
 if ((!r11) || (decide (r2 ≠ 0))) = true then (
 some r11) else (
 join (fun (s24 : Unit) =>
 some true) fun j25 =>
 loopI a2 (fun (i33 : Int) x34 (s29 : (T_drive_Drive × T_railref2_Drive)) k30 =>
 if (decide (i33 < 80)) = true then (
 (if (decide (x34 = 0)) = true then (
 (t_railref2_Drive_Next s29.2).bind fun r150 =>
 (t_drive_Drive_Next s29.1).bind fun r156 =>
 some (r150.2.1, r156.2.2, r150.2.2, r150.1, r156.1, r156.2.1)) else (
 (if (decide (x34 = 1)) = true then (
 (t_railref2_Drive_Tick s29.2).bind fun r169 =>
 (t_drive_Drive_Tick s29.1).bind fun r173 =>
 some (0, r173.2, r169.2, r169.1, r173.1, 0)) else (
 (if (decide (0 < (List.length a3 : Int))) = true then (
 need (decide ((List.length a3 : Int) ≠ 0)) (
 (idx a3 (Int.tmod i33 (List.length a3 : Int))).bind fun r233 =>
 some (r233))) else (
 some (T_Msg.mk 0 0 0 0 (T_Op.mk 0 false (T_Rule.mk 0 (T_Cube.mk 0 0) 0 0 0))))).bind fun (s179 : T_Msg) =>
 (if ((decide (x34 = 2)) && (decide (0 < (List.length s29.2.Left : Int)))) = true then (
 (idx s29.2.Left 0).bind fun r221 =>
 some (T_Msg.mk 3 r221 (wr (s29.2.Said - 1)) 0 (T_Op.mk 0 false (T_Rule.mk 0 (T_Cube.mk 0 0) 0 0 0)))) else (
 some (s179))).bind fun (s203 : T_Msg) =>
 (t_railref2_Drive_Hear s29.2 s203).bind fun r209 =>
 (t_drive_Drive_Hear s29.1 s203).bind fun r214 =>
 some (r209.1, r214.2, r209.2, [], [], r214.1))).bind fun (s163 : (Int × T_drive_Drive × T_railref2_Drive × (List T_Msg) × (List T_Msg) × Int)) =>
 some (s163.1, s163.2.1, s163.2.2.1, s163.2.2.2.1, s163.2.2.2.2.1, s163.2.2.2.2.2))).bind fun (s50 : (Int × T_drive_Drive × T_railref2_Drive × (List T_Msg) × (List T_Msg) × Int)) =>
 (t_railsame_Error s50.2.2.2.2.2 s50.1).bind fun r54 =>
 (t_railsame_Msgs s50.2.2.2.2.1 s50.2.2.2.1).bind fun r56 =>
 (t_drive_Drive_Left s50.2.1).bind fun r58 =>
 (t_railsame_Ints r58 s50.2.2.1.Left).bind fun r64 =>
 (gd (!(((!r54) || (!r56)) || (!r64))) default (t_drive_Drive_Round s50.2.1)).bind fun r82 =>
 (gd (!((((!r54) || (!r56)) || (!r64)) || (decide (r82 ≠ s50.2.2.1.Said)))) default (t_drive_Drive_Done s50.2.1)).bind fun r101 =>
 (some (((((!r54) || (!r56)) || (!r64)) || (decide (r82 ≠ s50.2.2.1.Said))) || (r101 != ((decide ((List.length s50.2.2.1.Left : Int) = 0)) && (decide (s50.2.2.1.Said = (List.length a0 : Int))))))).bind fun r144 =>
 if r144 = true then (
 some false) else (
 k30 (s50.2.1, s50.2.2.1))) else (
 j25 ())) (fun (s29 : (T_drive_Drive × T_railref2_Drive)) =>
 j25 ()) (d8, (T_railref2_Drive.mk a0 a1 0 [] 0))))) (
 (t_railsame_Error r4.2 r2).bind fun r248 =>
 if ((!r248) || (decide (r2 ≠ 0))) = true then (
 some r248) else (
 none)))
theorem ty_raillaw2_DrivePlays {n : Nat} (hn : bigN ≤ n) (a0 : (List (List T_Op))) (a1 : Int) (a2 : (List Int)) (a3 : (List T_Msg)) : Rv (fun x : Bool => (vb x)) (sem_raillaw2_DrivePlays n [(V.sl (List.map (cS T_Op.c) a0)), (vi a1), (V.sl (List.map cI a2)), (V.sl (List.map T_Msg.c a3))]) (t_raillaw2_DrivePlays a0 a1 a2 a3) := by
  rw [eq_raillaw2_DrivePlays]
  unfold t_raillaw2_DrivePlays
  refine tbo (ty_railref2_Rounds hn a0 a1) fun r2 => ?_
  refine tbo (ty_drive_New hn a0 a1) fun r4 => ?_
  refine tpartK (fun d8 => ?_) ?_
  · refine tpartP0 ?_
    refine tbo (ty_railsame_Error r4.2 r2) fun r11 => ?_
    refine tb (x := (vb (!r11))) (d_not) ?_
    refine tg_f (x := (vi r2)) (fun h13 => rfl) ?_
    refine tg_f (x := (vb (decide (r2 ≠ 0)))) (fun h15 => by simp only [gv_t h15]; exact bind_some_eq (d_neq)) ?_
    refine tb (x := (vb ((!r11) || (decide (r2 ≠ 0))))) (pick_or (fun h9 => gv_t (not_f h9))) ?_
    refine tcond (fun h19 => ?_) (fun h19 => ?_)
    · exact rf_ret rfl
    · refine tb (x := (T_railref2_Drive.e (T_railref2_Drive.mk a0 a1 0 [] 0))) (by kernel_rfl) ?_
      refine tb (x := (T_railref2_Drive.c (T_railref2_Drive.mk a0 a1 0 [] 0))) rfl ?_
      refine tjoin (mk := fun s24 : Unit => []) (fun s24 => ?_) fun J23 j25 h26 => ?_
      · exact rf_ret rfl
      · refine rf_loopI (mk := fun (i33 : Int) (s29 : (T_drive_Drive × T_railref2_Drive)) => [(V.obj [(V.osl 1 (List.map (cS T_Op.c) s29.1.rounds)), (vi s29.1.wait), (vi s29.1.said), (V.osl 1 (List.map cI s29.1.left)), (vi s29.1.ticks)]), (V.obj (T_railref2_Drive.c s29.2)), (vi (i33 : Int))]) hn a2 (d8, (T_railref2_Drive.mk a0 a1 0 [] 0)) (fun i33 x34 h35 h36 h37 s29 rec27 k30 h31 => ?_) (fun s29 rec238 h237 => ?_)
        · refine tb (x := (vi (List.length a2 : Int))) (p_len _) ?_
          refine tb (x := (vb (decide ((i33 : Int) < (List.length a2 : Int))))) (d_lss) ?_
          refine tb (x := (vi (i33 : Int))) (gkt h37 rfl) ?_
          refine tkt h37 (tb (x := (vb (decide ((i33 : Int) < 80)))) (d_lss) ?_)
          refine tb (x := (vb (decide ((i33 : Int) < 80)))) (pick_kt h37) ?_
          refine tcond (fun h44 => ?_) (fun h44 => ?_)
          · refine tb (x := (V.ptr [(vi x34)])) (p_idx_at (c := cI) (fun _ => rfl) h35) ?_
            refine tb (x := (vi x34)) (rfl) ?_
            refine tb (x := (vb (decide (x34 = 0)))) (d_eql) ?_
            refine tjb (mk := fun s50 : (Int × T_drive_Drive × T_railref2_Drive × (List T_Msg) × (List T_Msg) × Int) => [(vi s50.1), (V.obj [(V.osl 1 (List.map (cS T_Op.c) s50.2.1.rounds)), (vi s50.2.1.wait), (vi s50.2.1.said), (V.osl 1 (List.map cI s50.2.1.left)), (vi s50.2.1.ticks)]), (V.obj (T_railref2_Drive.c s50.2.2.1)), (V.sl (List.map T_Msg.c s50.2.2.2.1)), (V.sl (List.map T_Msg.c s50.2.2.2.2.1)), (eV s50.2.2.2.2.2)]) (fun J49 => ?_) fun s50 => ?_
            · refine tcond (fun h147 => ?_) (fun h147 => ?_)
              · refine tb (x := V.any) rfl ?_
                refine tbo (ty_railref2_Drive_Next hn s29.2) fun r150 => ?_
                refine tb (x := (V.tup [(V.sl (List.map T_Msg.c r150.1)), (vi r150.2.1)])) rfl ?_
                refine tb (x := (V.sl (List.map T_Msg.c r150.1))) (rfl) ?_
                refine tb (x := (vi r150.2.1)) (rfl) ?_
                refine tb (x := V.any) rfl ?_
                refine tbo (ty_drive_Drive_Next hn s29.1) fun r156 => ?_
                refine tb (x := (V.tup [(V.sl (List.map T_Msg.c r156.1)), (eV r156.2.1)])) rfl ?_
                refine tb (x := (V.sl (List.map T_Msg.c r156.1))) (rfl) ?_
                refine tb (x := (eV r156.2.1)) (rfl) ?_
                exact rf_j rfl
              · refine tb (x := (vb (decide (x34 = 1)))) (d_eql) ?_
                refine tjb (mk := fun s163 : (Int × T_drive_Drive × T_railref2_Drive × (List T_Msg) × (List T_Msg) × Int) => [(vi s163.1), (V.obj [(V.osl 1 (List.map (cS T_Op.c) s163.2.1.rounds)), (vi s163.2.1.wait), (vi s163.2.1.said), (V.osl 1 (List.map cI s163.2.1.left)), (vi s163.2.1.ticks)]), (V.obj (T_railref2_Drive.c s163.2.2.1)), (V.sl (List.map T_Msg.c s163.2.2.2.1)), (V.sl (List.map T_Msg.c s163.2.2.2.2.1)), (eV s163.2.2.2.2.2)]) (fun J162 => ?_) fun s163 => ?_
                · refine tcond (fun h166 => ?_) (fun h166 => ?_)
                  · refine tb (x := V.any) rfl ?_
                    refine tbo (ty_railref2_Drive_Tick hn s29.2) fun r169 => ?_
                    refine tb (x := (V.sl (List.map T_Msg.c r169.1))) rfl ?_
                    refine tb (x := V.any) rfl ?_
                    refine tbo (ty_drive_Drive_Tick hn s29.1) fun r173 => ?_
                    refine tb (x := (V.sl (List.map T_Msg.c r173.1))) rfl ?_
                    exact rf_j rfl
                  · refine tb (x := (vi (List.length a3 : Int))) (p_len _) ?_
                    refine tb (x := (vb (decide (0 < (List.length a3 : Int))))) (d_gtr) ?_
                    refine tjb (mk := fun s179 : T_Msg => [(V.agg (T_Msg.c s179))]) (fun J178 => ?_) fun s179 => ?_
                    · refine tcond (fun h229 => ?_) (fun h229 => ?_)
                      · refine tb (x := (vi (List.length a3 : Int))) (p_len _) ?_
                        refine tneed (x := (vi (Int.tmod (i33 : Int) (List.length a3 : Int)))) (fun h236 => p_rem h236) fun h236 => ?_
                        refine tbo (p_idx (c := T_Msg.c) (fun _ => rfl) a3 (Int.tmod (i33 : Int) (List.length a3 : Int))) fun r233 => ?_
                        refine tb (x := (T_Msg.e r233)) (rfl) ?_
                        refine tb (x := V.agg (T_Msg.c r233)) (by kernel_rfl) ?_
                        refine tkeepT2 ?_ rfl
                        refine tkeepT2 ?_ rfl
                        refine tsome ?_
                        exact rf_j rfl
                      · refine tkeepT2 ?_ rfl
                        refine tkeepT2 ?_ rfl
                        refine tsome ?_
                        exact rf_j rfl
                    · refine tb (x := (V.ptr [(vi x34)])) (p_idx_at (c := cI) (fun _ => rfl) h35) ?_
                      refine tb (x := (vi x34)) (rfl) ?_
                      refine tb (x := (vb (decide (x34 = 2)))) (d_eql) ?_
                      refine tg (x := V.any) (fun h185 => rfl) ?_
                      refine tg (x := V.any) (fun h187 => by first | exact gate_pos h187 (rfl) | (simp only [gv_t h187]; exact gate_pos h187 (rfl))) ?_
                      refine tg (x := V.any) (fun h189 => by first | exact gate_pos h189 (gate_pos h189 (rfl)) | (simp only [gv_t h189]; exact gate_pos h189 (gate_pos h189 (rfl)))) ?_
                      refine tg (x := (V.sl (List.map cI s29.2.Left))) (fun h191 => by first | exact bind_some_eq (gate_pos h191 (gate_pos h191 (gate_pos h191 (rfl)))) | (simp only [gv_t h191]; exact bind_some_eq (gate_pos h191 (gate_pos h191 (gate_pos h191 (rfl)))))) ?_
                      refine tg (x := (vi (List.length s29.2.Left : Int))) (fun h194 => by simp only [gv_t h194]; exact bind_some_eq (p_len _)) ?_
                      refine tg (x := (vb (decide (0 < (List.length s29.2.Left : Int))))) (fun h197 => by simp only [gv_t h197]; exact bind_some_eq (d_gtr)) ?_
                      refine tb (x := (vb ((decide (x34 = 2)) && (decide (0 < (List.length s29.2.Left : Int)))))) (pick_and (fun h9 => gv_t h9)) ?_
                      refine tjb (mk := fun s203 : T_Msg => [(V.agg (T_Msg.c s203))]) (fun J202 => ?_) fun s203 => ?_
                      · refine tcond (fun h216 => ?_) (fun h216 => ?_)
                        · refine tb (x := V.any) rfl ?_
                          refine tb (x := V.any) rfl ?_
                          refine tb (x := (V.sl (List.map cI s29.2.Left))) (rfl) ?_
                          refine tbo (p_idx (c := cI) (fun _ => rfl) s29.2.Left 0) fun r221 => ?_
                          refine tb (x := (vi r221)) (rfl) ?_
                          refine tb (x := V.any) rfl ?_
                          refine tb (x := V.any) rfl ?_
                          refine tb (x := (vi s29.2.Said)) (rfl) ?_
                          refine tb (x := (vi (wr (s29.2.Said - 1)))) (d_sub) ?_
                          refine tb (x := (T_Msg.e (T_Msg.mk 3 r221 (wr (s29.2.Said - 1)) 0 (T_Op.mk 0 false (T_Rule.mk 0 (T_Cube.mk 0 0) 0 0 0))))) (by kernel_rfl) ?_
                          refine tb (x := V.agg (T_Msg.c (T_Msg.mk 3 r221 (wr (s29.2.Said - 1)) 0 (T_Op.mk 0 false (T_Rule.mk 0 (T_Cube.mk 0 0) 0 0 0))))) (by kernel_rfl) ?_
                          refine tkeepT2 ?_ rfl
                          refine tkeepT2 ?_ rfl
                          refine tsome ?_
                          exact rf_j rfl
                        · refine tkeepT2 ?_ rfl
                          refine tkeepT2 ?_ rfl
                          refine tsome ?_
                          exact rf_j rfl
                      · refine tb (x := (T_Msg.e s203)) (rfl) ?_
                        refine tb (x := V.any) rfl ?_
                        refine tbo (ty_railref2_Drive_Hear hn s29.2 s203) fun r209 => ?_
                        refine tb (x := (vi r209.1)) rfl ?_
                        refine tb (x := (T_Msg.e s203)) (rfl) ?_
                        refine tb (x := V.any) rfl ?_
                        refine tbo (ty_drive_Drive_Hear hn s29.1 s203) fun r214 => ?_
                        refine tb (x := (eV r214.1)) rfl ?_
                        exact rf_j rfl
                · exact rf_j rfl
            · refine tbo (ty_railsame_Error s50.2.2.2.2.2 s50.1) fun r54 => ?_
              refine tbo (ty_railsame_Msgs hn s50.2.2.2.2.1 s50.2.2.2.1) fun r56 => ?_
              refine tb (x := V.ptr (T_drive_Drive.c s50.2.1)) (p_frzQ (p_fzc (p_frzl (c' := (cS T_Op.c)) (fun _ => rfl) _) (p_fzc rfl (p_fzc rfl (p_fzc (p_frzl (c' := cI) (fun _ => rfl) _) (p_fzc rfl p_fz0)))))) ?_
              refine tbo (ty_drive_Drive_Left hn s50.2.1) fun r58 => ?_
              refine tb (x := (V.sl (List.map cI r58))) (p_flatQ (fun _ => rfl) r58) ?_
              refine tb (x := V.any) rfl ?_
              refine tb (x := V.any) rfl ?_
              refine tb (x := (V.sl (List.map cI s50.2.2.1.Left))) (rfl) ?_
              refine tbo (ty_railsame_Ints hn r58 s50.2.2.1.Left) fun r64 => ?_
              refine tb (x := (vb (!r54))) (d_not) ?_
              refine tg_f (x := (vb r56)) (fun h66 => rfl) ?_
              refine tg_f (x := (vb (!r56))) (fun h68 => by simp only [gv_t h68]; exact bind_some_eq (d_not)) ?_
              refine tb (x := (vb ((!r54) || (!r56)))) (pick_or (fun h9 => gv_t (not_f h9))) ?_
              refine tg_f (x := (vb r64)) (fun h72 => rfl) ?_
              refine tg_f (x := (vb (!r64))) (fun h74 => by simp only [gv_t h74]; exact bind_some_eq (d_not)) ?_
              refine tb (x := (vb (((!r54) || (!r56)) || (!r64)))) (pick_or (fun h9 => gv_t (not_f h9))) ?_
              refine tg_f (x := V.any) (fun h78 => rfl) ?_
              refine tgo_f (e1 := fun r82 => (vi r82)) (fun h80 => ?_) fun r82 => ?_
              · refine tb (x := V.ptr (T_drive_Drive.c s50.2.1)) (p_gate1 (not_t h80) (p_frzQ (p_fzc (p_frzl (c' := (cS T_Op.c)) (fun _ => rfl) _) (p_fzc rfl (p_fzc rfl (p_fzc (p_frzl (c' := cI) (fun _ => rfl) _) (p_fzc rfl p_fz0))))))) ?_
                exact rf_litQ (ty_drive_Drive_Round hn s50.2.1) (fun _ => rfl)
              · refine tg_f (x := V.any) (fun h84 => rfl) ?_
                refine tg_f (x := V.any) (fun h86 => by first | exact gate_pos (not_t h86) (rfl) | (simp only [gv_t h86]; exact gate_pos (not_t h86) (rfl))) ?_
                refine tg_f (x := V.any) (fun h88 => by first | exact gate_pos (not_t h88) (gate_pos (not_t h88) (rfl)) | (simp only [gv_t h88]; exact gate_pos (not_t h88) (gate_pos (not_t h88) (rfl)))) ?_
                refine tg_f (x := (vi s50.2.2.1.Said)) (fun h90 => by first | exact bind_some_eq (gate_pos (not_t h90) (gate_pos (not_t h90) (gate_pos (not_t h90) (rfl)))) | (simp only [gv_t h90]; exact bind_some_eq (gate_pos (not_t h90) (gate_pos (not_t h90) (gate_pos (not_t h90) (rfl)))))) ?_
                refine tg_f (x := (vb (decide (r82 ≠ s50.2.2.1.Said)))) (fun h93 => by simp only [gv_t h93]; exact bind_some_eq (d_neq)) ?_
                refine tb (x := (vb ((((!r54) || (!r56)) || (!r64)) || (decide (r82 ≠ s50.2.2.1.Said))))) (pick_or (fun h9 => gv_t (not_f h9))) ?_
                refine tg_f (x := V.any) (fun h97 => rfl) ?_
                refine tgo_f (e1 := fun r101 => (vb r101)) (fun h99 => ?_) fun r101 => ?_
                · refine tb (x := V.ptr (T_drive_Drive.c s50.2.1)) (p_gate1 (not_t h99) (p_frzQ (p_fzc (p_frzl (c' := (cS T_Op.c)) (fun _ => rfl) _) (p_fzc rfl (p_fzc rfl (p_fzc (p_frzl (c' := cI) (fun _ => rfl) _) (p_fzc rfl p_fz0))))))) ?_
                  exact rf_litQ (ty_drive_Drive_Done hn s50.2.1) (fun _ => rfl)
                · refine tg_f (x := V.any) (fun h103 => rfl) ?_
                  refine tg_f (x := V.any) (fun h105 => by first | exact gate_pos (not_t h105) (rfl) | (simp only [gv_t h105]; exact gate_pos (not_t h105) (rfl))) ?_
                  refine tg_f (x := V.any) (fun h107 => by first | exact gate_pos (not_t h107) (gate_pos (not_t h107) (rfl)) | (simp only [gv_t h107]; exact gate_pos (not_t h107) (gate_pos (not_t h107) (rfl)))) ?_
                  refine tg_f (x := (V.sl (List.map cI s50.2.2.1.Left))) (fun h109 => by first | exact bind_some_eq (gate_pos (not_t h109) (gate_pos (not_t h109) (gate_pos (not_t h109) (rfl)))) | (simp only [gv_t h109]; exact bind_some_eq (gate_pos (not_t h109) (gate_pos (not_t h109) (gate_pos (not_t h109) (rfl)))))) ?_
                  refine tg_f (x := (vi (List.length s50.2.2.1.Left : Int))) (fun h112 => by simp only [gv_t h112]; exact bind_some_eq (p_len _)) ?_
                  refine tg_f (x := (vb (decide ((List.length s50.2.2.1.Left : Int) = 0)))) (fun h115 => by simp only [gv_t h115]; exact bind_some_eq (d_eql)) ?_
                  refine tg_f (x := (vb (decide ((List.length s50.2.2.1.Left : Int) = 0)))) (fun h118 => congrArg some (gv_t h118)) ?_
                  refine tg2 (x := V.any) (fun h120 => rfl) ?_
                  refine tg2 (x := V.any) (fun h122 => by first | exact gate_pos2 (and_l h122) (and_r h122) (rfl) | (simp only [gv_t h122]; exact gate_pos2 (and_l h122) (and_r h122) (rfl))) ?_
                  refine tg2 (x := V.any) (fun h124 => by first | exact gate_pos2 (and_l h124) (and_r h124) (gate_pos2 (and_l h124) (and_r h124) (rfl)) | (simp only [gv_t h124]; exact gate_pos2 (and_l h124) (and_r h124) (gate_pos2 (and_l h124) (and_r h124) (rfl)))) ?_
                  refine tg2 (x := (vi s50.2.2.1.Said)) (fun h126 => by first | exact bind_some_eq (gate_pos2 (and_l h126) (and_r h126) (gate_pos2 (and_l h126) (and_r h126) (gate_pos2 (and_l h126) (and_r h126) (rfl)))) | (simp only [gv_t h126]; exact bind_some_eq (gate_pos2 (and_l h126) (and_r h126) (gate_pos2 (and_l h126) (and_r h126) (gate_pos2 (and_l h126) (and_r h126) (rfl)))))) ?_
                  refine tg2 (x := (V.sl (List.map (cS T_Op.c) a0))) (fun h129 => rfl) ?_
                  refine tg2 (x := (vi (List.length a0 : Int))) (fun h131 => by simp only [gv_t h131]; exact bind_some_eq (p_len _)) ?_
                  refine tg2 (x := (vb (decide (s50.2.2.1.Said = (List.length a0 : Int))))) (fun h134 => by simp only [gv_t h134]; exact bind_some_eq (d_eql)) ?_
                  refine tg_f (x := (vb ((decide ((List.length s50.2.2.1.Left : Int) = 0)) && (decide (s50.2.2.1.Said = (List.length a0 : Int)))))) (fun h137 => by simp only [gv_t h137]; exact bind_some_eq (pick_and (fun h9 => gv_t (and_i h137 h9)))) ?_
                  refine tg_f (x := (vb (r101 != ((decide ((List.length s50.2.2.1.Left : Int) = 0)) && (decide (s50.2.2.1.Said = (List.length a0 : Int))))))) (fun h140 => by simp only [gv_t h140]; exact bind_some_eq (p_neq_bool (Tryd.underlying4))) ?_
                  refine tbo (e1 := fun x : Bool => (vb x)) (rf_eq (pick_or (fun h9 => gv_t (not_f h9))) rfl) fun r144 => ?_
                  refine tcond (fun h145 => ?_) (fun h145 => ?_)
                  · exact rf_ret rfl
                  · refine tb (x := (vi ((i33 : Int) + 1))) (p_incN h36) ?_
                    exact h31 (s50.2.1, s50.2.2.1)
          · exact h26 ()
        · refine tb (x := (vi (List.length a2 : Int))) (p_len _) ?_
          refine tb (x := (vb (decide ((List.length a2 : Int) < (List.length a2 : Int))))) (d_lss) ?_
          refine tb (x := V.tup []) (gnt h237) ?_
          refine tb (x := V.tup []) (gnt h237) ?_
          refine tb (x := (vb (false))) (pick_kf h237) ?_
          refine tcond_f rfl ?_
          exact h26 ()
  · refine tpartP0 ?_
    refine tbo (ty_railsame_Error r4.2 r2) fun r248 => ?_
    refine tb (x := (vb (!r248))) (d_not) ?_
    refine tg_f (x := (vi r2)) (fun h250 => rfl) ?_
    refine tg_f (x := (vb (decide (r2 ≠ 0)))) (fun h252 => by simp only [gv_t h252]; exact bind_some_eq (d_neq)) ?_
    refine tb (x := (vb ((!r248) || (decide (r2 ≠ 0))))) (pick_or (fun h9 => gv_t (not_f h9))) ?_
    refine tcond (fun h256 => ?_) (fun h256 => ?_)
    · exact rf_ret rfl
    · exact rf_none

end Go.Proofs.YtgfleiknigjnbaaDoor.Ty
