/- What functions do, as functions on plain types, written by a program and checked by the kernel. -/
import Derived.Test.YtpjadjoekdcjiaaDoorDenDoor
import Derived.Test.YtpjadjoekdcjiaaDoorTy
import Derived.Test.YtpjadjoekdcjiaaDoorTyT
import Derived.Test.YtpjadjoekdcjiaaDoorTyE
import Derived.Test.YtpjadjoekdcjiaaDoorTyO
import Derived.Test.YtpjadjoekdcjiaaDoorTyN
import Derived.Test.YtpjadjoekdcjiaaDoorTyM
import Derived.Test.YtpjadjoekdcjiaaDoorTyR
import Derived.Test.YtpjadjoekdcjiaaDoorDen14
import Derived.Test.YtpjadjoekdcjiaaDoorClone
namespace Go.Proofs.YtpjadjoekdcjiaaDoor.Ty
open Go Go.RowKit Go.Proofs.YtpjadjoekdcjiaaDoor.Den
set_option linter.unusedVariables false
set_option maxRecDepth 100000

def T_Spot.val (x : T_Spot) : Go.Value := .agg #[.int .i64 x.Switch, .int .i64 x.Port]
theorem T_Spot.mkey : MKey Tryd.prog 62 T_Spot.val where
  chk e a w := by kernel_rfl
  find vv l a w := find_ask Tryd.underlying62 (fun _ _ => rfl) (fun a b w => equal_of (T_Spot.run_eql a b w)) vv l a w
  sb a := by show Instr.sameBits (9999 + 1) _ _ = true; simp [Instr.sameBits, T_Spot.val]

/-! railpoint/railref1.Header -/
def an_railref1_Header : Ann := .seq (.reg 0 [] [] []) (.seq (.reg 0 [] [] []) (.no))
noncomputable def sem_railref1_Header (n : Nat) (xs : List V) : Option V := if xs.length ≤ 9 then denF Tryd.prog (envOf []) n Tryd.f20 an_railref1_Header xs else none
theorem ok_railref1_Header (n : Nat) : SemOk Tryd.prog DW 20 (sem_railref1_Header n) := fun xs y h => by
  unfold sem_railref1_Header at h
  split at h
  · rename_i hl
    exact denF_ok stb Tryd.func20 (by kernel_rfl) (envOf_ok semsOk_nil) (by rw [Tryd.ntmps20]; exact hl) h
  · cases h
theorem eq_railref1_Header (n : Nat) (x0 : V) : sem_railref1_Header n [x0] =
 (bin2 Tryd.prog BinOp.geq 3 (ot 3) (oc 0) x0 (vi 0)).bind fun v1 =>
 (guardV v1 true (some x0)).bind fun v2 =>
 (guardV v1 true ((bin2 Tryd.prog BinOp.lss 3 (ot 6) (oc 16) v2 (vi 16)).bind fun v3 =>
 some v3)).bind fun v4 =>
 (pickV v1 v4 (vb false)).bind fun v5 =>
 some v5 := by kernel_rfl
noncomputable def t_railref1_Header (a0 : Int) : Option Bool :=
 some ((decide (0 ≤ a0)) && (decide (a0 < 16)))
theorem ty_railref1_Header {n : Nat} (hn : bigN ≤ n) (a0 : Int) : Rv (fun x : Bool => (vb x)) (sem_railref1_Header n [(vi a0)]) (t_railref1_Header a0) := by
  rw [eq_railref1_Header]
  unfold t_railref1_Header
  refine tb (x := (vb (decide (0 ≤ a0)))) (d_geq) ?_
  refine tg (x := (vi a0)) (fun h2 => rfl) ?_
  refine tg (x := (vb (decide (a0 < 16)))) (fun h4 => by simp only [gv_t h4]; exact bind_some_eq (d_lss)) ?_
  refine tb (x := (vb ((decide (0 ≤ a0)) && (decide (a0 < 16))))) (pick_and (fun h9 => gv_t h9)) ?_
  exact rf_ret rfl

/-! railpoint/railref1.Cube -/
def an_railref1_Cube : Ann := .seq (.reg 0 [] [] []) (.seq (.reg 0 [] [] []) (.seq (.reg 0 [] [] []) (.seq (.seq (.reg 0 [] [] []) (.cond none (.seq (.reg 0 [] [] []) (.no)) (.no))) (.seq (.seq (.reg 0 [] [] []) (.cond none (.seq (.reg 0 [] [] []) (.no)) (.no))) (.seq (.reg 0 [] [] []) (.no))))))
noncomputable def sem_railref1_Cube (n : Nat) (xs : List V) : Option V := if xs.length ≤ 25 then denF Tryd.prog (envOf [(20, (sem_railref1_Header n))]) n Tryd.f126 an_railref1_Cube xs else none
theorem ok_railref1_Cube (n : Nat) : SemOk Tryd.prog DW 126 (sem_railref1_Cube n) := fun xs y h => by
  unfold sem_railref1_Cube at h
  split at h
  · rename_i hl
    exact denF_ok stb Tryd.func126 (by kernel_rfl) (envOf_ok (semsOk_cons (ok_railref1_Header n) semsOk_nil)) (by rw [Tryd.ntmps126]; exact hl) h
  · cases h
theorem eq_railref1_Cube (n : Nat) (x0 : V) : sem_railref1_Cube n [x0] =
 (V.cellsO x0).bind fun v1 =>
 (ldk none (List.drop 0 v1)).bind fun v2 =>
 ((sem_railref1_Header n) [v2]).bind fun v3 =>
 (ldk none (List.drop 1 v1)).bind fun v4 =>
 ((sem_railref1_Header n) [v4]).bind fun v5 =>
 (scal1 Tryd.prog (Op.unary Go.UnOp.not) v3).bind fun v6 =>
 (guardV v6 false (some v5)).bind fun v7 =>
 (guardV v6 false ((scal1 Tryd.prog (Op.unary Go.UnOp.not) v7).bind fun v8 =>
 some v8)).bind fun v9 =>
 (pickV v6 (vb true) v9).bind fun v10 =>
 condV v10 (
 some (vi 1)) (
 (ldk none (List.drop 1 v1)).bind fun v11 =>
 (ldk none (List.drop 0 v1)).bind fun v12 =>
 (bin2 Tryd.prog BinOp.and 3 (ot 18) (ot 20) v11 v12).bind fun v13 =>
 (ldk none (List.drop 1 v1)).bind fun v14 =>
 (bin2 Tryd.prog BinOp.neq 3 (ot 21) (ot 23) v13 v14).bind fun v15 =>
 condV v15 (
 some (vi 3)) (
 some (vi 0))) := by kernel_rfl
noncomputable def t_railref1_Cube (a0 : T_Cube) : Option Int :=
 (t_railref1_Header a0.Mask).bind fun r4 =>
 (t_railref1_Header a0.Bits).bind fun r7 =>
 if ((!r4) || (!r7)) = true then (
 some 1) else (
 if (decide ((bits .and .i64 a0.Bits a0.Mask) ≠ a0.Bits)) = true then (
 some 3) else (
 some 0))
theorem ty_railref1_Cube {n : Nat} (hn : bigN ≤ n) (a0 : T_Cube) : Rv (fun x : Int => (vi x)) (sem_railref1_Cube n [(T_Cube.e a0)]) (t_railref1_Cube a0) := by
  rw [eq_railref1_Cube]
  unfold t_railref1_Cube
  refine tb (x := (T_Cube.c a0)) rfl ?_
  refine tb (x := (vi a0.Mask)) (rfl) ?_
  refine tbo (ty_railref1_Header hn a0.Mask) fun r4 => ?_
  refine tb (x := (vi a0.Bits)) (rfl) ?_
  refine tbo (ty_railref1_Header hn a0.Bits) fun r7 => ?_
  refine tb (x := (vb (!r4))) (d_not) ?_
  refine tg_f (x := (vb r7)) (fun h9 => rfl) ?_
  refine tg_f (x := (vb (!r7))) (fun h11 => by simp only [gv_t h11]; exact bind_some_eq (d_not)) ?_
  refine tb (x := (vb ((!r4) || (!r7)))) (pick_or (fun h9 => gv_t (not_f h9))) ?_
  refine tcond (fun h15 => ?_) (fun h15 => ?_)
  · exact rf_ret rfl
  · refine tb (x := (vi a0.Bits)) (rfl) ?_
    refine tb (x := (vi a0.Mask)) (rfl) ?_
    refine tb (x := (vi (bits .and .i64 a0.Bits a0.Mask))) (d_and) ?_
    refine tb (x := (vi a0.Bits)) (rfl) ?_
    refine tb (x := (vb (decide ((bits .and .i64 a0.Bits a0.Mask) ≠ a0.Bits)))) (d_neq) ?_
    refine tcond (fun h21 => ?_) (fun h21 => ?_)
    · exact rf_ret rfl
    · exact rf_ret rfl

/-! railpoint/railref1.Rule -/
def an_railref1_Rule : Ann := .seq (.reg 0 [] [] []) (.seq (.reg 0 [] [] []) (.seq (.reg 0 [] [] []) (.seq (.seq (.reg 0 [] [] []) (.cond none (.seq (.reg 0 [] [] []) (.no)) (.no))) (.seq (.reg 0 [] [] []) (.seq (.seq (.reg 0 [] [] []) (.cond none (.seq (.reg 0 [] [] []) (.no)) (.no))) (.seq (.seq (.reg 0 [] [] []) (.cond none (.seq (.reg 0 [] [] []) (.no)) (.no))) (.seq (.reg 0 [] [] []) (.no))))))))
noncomputable def sem_railref1_Rule (n : Nat) (xs : List V) : Option V := if xs.length ≤ 61 then denF Tryd.prog (envOf [(20, (sem_railref1_Header n)), (126, (sem_railref1_Cube n))]) n Tryd.f69 an_railref1_Rule xs else none
theorem ok_railref1_Rule (n : Nat) : SemOk Tryd.prog DW 69 (sem_railref1_Rule n) := fun xs y h => by
  unfold sem_railref1_Rule at h
  split at h
  · rename_i hl
    exact denF_ok stb Tryd.func69 (by kernel_rfl) (envOf_ok (semsOk_cons (ok_railref1_Header n) (semsOk_cons (ok_railref1_Cube n) semsOk_nil))) (by rw [Tryd.ntmps69]; exact hl) h
  · cases h
theorem eq_railref1_Rule (n : Nat) (x0 : V) : sem_railref1_Rule n [x0] =
 (V.cellsO x0).bind fun v1 =>
 (ldk none (List.drop 4 v1)).bind fun v2 =>
 ((sem_railref1_Header n) [v2]).bind fun v3 =>
 (ldk none (List.drop 5 v1)).bind fun v4 =>
 ((sem_railref1_Header n) [v4]).bind fun v5 =>
 (ldk none (List.drop 0 v1)).bind fun v6 =>
 (bin2 Tryd.prog BinOp.lss 3 (ot 13) (oc 0) v6 (vi 0)).bind fun v7 =>
 (guardV v7 false (some V.any)).bind fun v8 =>
 (guardV v7 false ((gate v7 false (ldk none (List.drop 0 v1))).bind fun v9 =>
 some v9)).bind fun v10 =>
 (guardV v7 false ((bin2 Tryd.prog BinOp.gtr 3 (ot 17) (oc 99) v10 (vi 99)).bind fun v11 =>
 some v11)).bind fun v12 =>
 (pickV v7 (vb true) v12).bind fun v13 =>
 (guardV v13 false (some V.any)).bind fun v14 =>
 (guardV v13 false ((gate v13 false (ldk none (List.drop 3 v1))).bind fun v15 =>
 some v15)).bind fun v16 =>
 (guardV v13 false ((bin2 Tryd.prog BinOp.lss 3 (ot 22) (oc 0) v16 (vi 0)).bind fun v17 =>
 some v17)).bind fun v18 =>
 (pickV v13 (vb true) v18).bind fun v19 =>
 (guardV v19 false (some V.any)).bind fun v20 =>
 (guardV v19 false ((gate v19 false (ldk none (List.drop 3 v1))).bind fun v21 =>
 some v21)).bind fun v22 =>
 (guardV v19 false ((bin2 Tryd.prog BinOp.gtr 3 (ot 27) (oc 4) v22 (vi 4)).bind fun v23 =>
 some v23)).bind fun v24 =>
 (pickV v19 (vb true) v24).bind fun v25 =>
 (guardV v25 false (some v3)).bind fun v26 =>
 (guardV v25 false ((scal1 Tryd.prog (Op.unary Go.UnOp.not) v26).bind fun v27 =>
 some v27)).bind fun v28 =>
 (pickV v25 (vb true) v28).bind fun v29 =>
 (guardV v29 false (some v5)).bind fun v30 =>
 (guardV v29 false ((scal1 Tryd.prog (Op.unary Go.UnOp.not) v30).bind fun v31 =>
 some v31)).bind fun v32 =>
 (pickV v29 (vb true) v32).bind fun v33 =>
 condV v33 (
 some (vi 1)) (
 (ldk (some 2) (List.drop 1 v1)).bind fun v34 =>
 ((sem_railref1_Cube n) [v34]).bind fun v35 =>
 (bin2 Tryd.prog BinOp.neq 3 (ot 41) (oc 0) v35 (vi 0)).bind fun v36 =>
 condV v36 (
 some v35) (
 (ldk none (List.drop 4 v1)).bind fun v37 =>
 (ldk none (List.drop 5 v1)).bind fun v38 =>
 ((fillL [(vi 0), (vi 0)] [(0, 1, v37), (1, 1, v38)]).map V.agg).bind fun v39 =>
 ((sem_railref1_Cube n) [v39]).bind fun v40 =>
 (bin2 Tryd.prog BinOp.neq 3 (ot 49) (oc 0) v40 (vi 0)).bind fun v41 =>
 (guardV v41 false (some V.any)).bind fun v42 =>
 (guardV v41 false ((gate v41 false (ldk none (List.drop 3 v1))).bind fun v43 =>
 some v43)).bind fun v44 =>
 (guardV v41 false ((bin2 Tryd.prog BinOp.eql 3 (ot 53) (oc 0) v44 (vi 0)).bind fun v45 =>
 some v45)).bind fun v46 =>
 (guardV v41 false (some v46)).bind fun v47 =>
 (guardV v47 true (some V.any)).bind fun v48 =>
 (guardV v47 true ((gate v47 true (ldk none (List.drop 4 v1))).bind fun v49 =>
 some v49)).bind fun v50 =>
 (guardV v47 true ((bin2 Tryd.prog BinOp.neq 3 (ot 57) (oc 0) v50 (vi 0)).bind fun v51 =>
 some v51)).bind fun v52 =>
 (guardV v41 false ((pickV v47 v52 (vb false)).bind fun v53 =>
 some v53)).bind fun v54 =>
 (pickV v41 (vb true) v54).bind fun v55 =>
 condV v55 (
 some (vi 3)) (
 some (vi 0)))) := by kernel_rfl
noncomputable def t_railref1_Rule (a0 : T_Rule) : Option Int :=
 (t_railref1_Header a0.Set).bind fun r4 =>
 (t_railref1_Header a0.Value).bind fun r7 =>
 if ((((((decide (a0.Prio < 0)) || (decide (99 < a0.Prio))) || (decide (a0.Out < 0))) || (decide (4 < a0.Out))) || (!r4)) || (!r7)) = true then (
 some 1) else (
 (t_railref1_Cube a0.Cube).bind fun r52 =>
 if (decide (r52 ≠ 0)) = true then (
 some r52) else (
 (t_railref1_Cube (T_Cube.mk a0.Set a0.Value)).bind fun r59 =>
 if ((decide (r59 ≠ 0)) || ((decide (a0.Out = 0)) && (decide (a0.Set ≠ 0)))) = true then (
 some 3) else (
 some 0)))
theorem ty_railref1_Rule {n : Nat} (hn : bigN ≤ n) (a0 : T_Rule) : Rv (fun x : Int => (vi x)) (sem_railref1_Rule n [(T_Rule.e a0)]) (t_railref1_Rule a0) := by
  rw [eq_railref1_Rule]
  unfold t_railref1_Rule
  refine tb (x := (T_Rule.c a0)) rfl ?_
  refine tb (x := (vi a0.Set)) (rfl) ?_
  refine tbo (ty_railref1_Header hn a0.Set) fun r4 => ?_
  refine tb (x := (vi a0.Value)) (rfl) ?_
  refine tbo (ty_railref1_Header hn a0.Value) fun r7 => ?_
  refine tb (x := (vi a0.Prio)) (rfl) ?_
  refine tb (x := (vb (decide (a0.Prio < 0)))) (d_lss) ?_
  refine tg_f (x := V.any) (fun h10 => rfl) ?_
  refine tg_f (x := (vi a0.Prio)) (fun h12 => bind_some_eq (gate_pos (not_t h12) (rfl))) ?_
  refine tg_f (x := (vb (decide (99 < a0.Prio)))) (fun h15 => by simp only [gv_t h15]; exact bind_some_eq (d_gtr)) ?_
  refine tb (x := (vb ((decide (a0.Prio < 0)) || (decide (99 < a0.Prio))))) (pick_or (fun h9 => gv_t (not_f h9))) ?_
  refine tg_f (x := V.any) (fun h19 => rfl) ?_
  refine tg_f (x := (vi a0.Out)) (fun h21 => bind_some_eq (gate_pos (not_t h21) (rfl))) ?_
  refine tg_f (x := (vb (decide (a0.Out < 0)))) (fun h24 => by simp only [gv_t h24]; exact bind_some_eq (d_lss)) ?_
  refine tb (x := (vb (((decide (a0.Prio < 0)) || (decide (99 < a0.Prio))) || (decide (a0.Out < 0))))) (pick_or (fun h9 => gv_t (not_f h9))) ?_
  refine tg_f (x := V.any) (fun h28 => rfl) ?_
  refine tg_f (x := (vi a0.Out)) (fun h30 => bind_some_eq (gate_pos (not_t h30) (rfl))) ?_
  refine tg_f (x := (vb (decide (4 < a0.Out)))) (fun h33 => by simp only [gv_t h33]; exact bind_some_eq (d_gtr)) ?_
  refine tb (x := (vb ((((decide (a0.Prio < 0)) || (decide (99 < a0.Prio))) || (decide (a0.Out < 0))) || (decide (4 < a0.Out))))) (pick_or (fun h9 => gv_t (not_f h9))) ?_
  refine tg_f (x := (vb r4)) (fun h37 => rfl) ?_
  refine tg_f (x := (vb (!r4))) (fun h39 => by simp only [gv_t h39]; exact bind_some_eq (d_not)) ?_
  refine tb (x := (vb (((((decide (a0.Prio < 0)) || (decide (99 < a0.Prio))) || (decide (a0.Out < 0))) || (decide (4 < a0.Out))) || (!r4)))) (pick_or (fun h9 => gv_t (not_f h9))) ?_
  refine tg_f (x := (vb r7)) (fun h43 => rfl) ?_
  refine tg_f (x := (vb (!r7))) (fun h45 => by simp only [gv_t h45]; exact bind_some_eq (d_not)) ?_
  refine tb (x := (vb ((((((decide (a0.Prio < 0)) || (decide (99 < a0.Prio))) || (decide (a0.Out < 0))) || (decide (4 < a0.Out))) || (!r4)) || (!r7)))) (pick_or (fun h9 => gv_t (not_f h9))) ?_
  refine tcond (fun h49 => ?_) (fun h49 => ?_)
  · exact rf_ret rfl
  · refine tb (x := (T_Cube.e a0.Cube)) (rfl) ?_
    refine tbo (ty_railref1_Cube hn a0.Cube) fun r52 => ?_
    refine tb (x := (vb (decide (r52 ≠ 0)))) (d_neq) ?_
    refine tcond (fun h54 => ?_) (fun h54 => ?_)
    · exact rf_ret rfl
    · refine tb (x := (vi a0.Set)) (rfl) ?_
      refine tb (x := (vi a0.Value)) (rfl) ?_
      refine tb (x := (T_Cube.e (T_Cube.mk a0.Set a0.Value))) (by kernel_rfl) ?_
      refine tbo (ty_railref1_Cube hn (T_Cube.mk a0.Set a0.Value)) fun r59 => ?_
      refine tb (x := (vb (decide (r59 ≠ 0)))) (d_neq) ?_
      refine tg_f (x := V.any) (fun h61 => rfl) ?_
      refine tg_f (x := (vi a0.Out)) (fun h63 => bind_some_eq (gate_pos (not_t h63) (rfl))) ?_
      refine tg_f (x := (vb (decide (a0.Out = 0)))) (fun h66 => by simp only [gv_t h66]; exact bind_some_eq (d_eql)) ?_
      refine tg_f (x := (vb (decide (a0.Out = 0)))) (fun h69 => congrArg some (gv_t h69)) ?_
      refine tg2 (x := V.any) (fun h71 => rfl) ?_
      refine tg2 (x := (vi a0.Set)) (fun h73 => bind_some_eq (gate_pos2 (and_l h73) (and_r h73) (rfl))) ?_
      refine tg2 (x := (vb (decide (a0.Set ≠ 0)))) (fun h76 => by simp only [gv_t h76]; exact bind_some_eq (d_neq)) ?_
      refine tg_f (x := (vb ((decide (a0.Out = 0)) && (decide (a0.Set ≠ 0))))) (fun h79 => by simp only [gv_t h79]; exact bind_some_eq (pick_and (fun h9 => gv_t (and_i h79 h9)))) ?_
      refine tb (x := (vb ((decide (r59 ≠ 0)) || ((decide (a0.Out = 0)) && (decide (a0.Set ≠ 0)))))) (pick_or (fun h9 => gv_t (not_f h9))) ?_
      refine tcond (fun h83 => ?_) (fun h83 => ?_)
      · exact rf_ret rfl
      · exact rf_ret rfl

/-! railpoint/railref1.Table -/
def an_railref1_Table : Ann := .seq (.reg 0 [] [] []) (.seq (.seq (.reg 0 [] [] []) (.cond none (.seq (.reg 0 [] [] []) (.no)) (.no))) (.seq (.seq (.reg 0 [] [] []) (.blk (some []) (.loop [.s 3] (.seq (.seq (.reg 0 [] [] []) (.cond none (.no) (.no))) (.seq (.blk (some []) (.seq (.reg 0 [] [] []) (.seq (.seq (.reg 0 [] [] []) (.cond none (.seq (.reg 0 [] [] []) (.no)) (.no))) (.seq (.reg 0 [] [] []) (.blk (some []) (.loop [.s 5] (.seq (.seq (.reg 0 [] [] []) (.cond none (.no) (.no))) (.seq (.blk none (.seq (.reg 24 [] [] []) (.cond none (.seq (.reg 0 [] [] []) (.no)) (.no)))) (.reg 0 [] [] []))))))))) (.reg 0 [] [] [])))))) (.seq (.reg 0 [] [] []) (.no))))
noncomputable def sem_railref1_Table (n : Nat) (xs : List V) : Option V := if xs.length ≤ 52 then denF Tryd.prog (envOf [(69, (sem_railref1_Rule n))]) n Tryd.f13 an_railref1_Table xs else none
theorem ok_railref1_Table (n : Nat) : SemOk Tryd.prog DW 13 (sem_railref1_Table n) := fun xs y h => by
  unfold sem_railref1_Table at h
  split at h
  · rename_i hl
    exact denF_ok stb Tryd.func13 (by kernel_rfl) (envOf_ok (semsOk_cons (ok_railref1_Rule n) semsOk_nil)) (by rw [Tryd.ntmps13]; exact hl) h
  · cases h
theorem eq_railref1_Table (n : Nat) (x0 : V) : sem_railref1_Table n [x0] =
 (lenS [x0]).bind fun v1 =>
 (bin2 Tryd.prog BinOp.gtr 3 (ot 7) (oc 12) v1 (vi 12)).bind fun v2 =>
 condV v2 (
 some (vi 4)) (
 JoinPt (fun vs3 =>
 some (vi 0)) fun J4 =>
 (fixN (fun rec5 vs6 =>
 (lenS [x0]).bind fun v7 =>
 (bin2 Tryd.prog BinOp.lss 3 (ot 9) (ot 11) (List.getD vs6 0 V.any) v7).bind fun v8 =>
 condV v8 (
 JoinPt (fun vs9 =>
 (bin2 Tryd.prog BinOp.add 3 (ot 13) (oc 1) (List.getD vs6 0 V.any) (vi 1)).bind fun v11 =>
 rec5 [v11]) fun J10 =>
 (idxS 6 x0 (List.getD vs6 0 V.any)).bind fun v12 =>
 (ldp (some 6) v12).bind fun v13 =>
 ((sem_railref1_Rule n) [v13]).bind fun v14 =>
 (bin2 Tryd.prog BinOp.neq 3 (ot 20) (oc 0) v14 (vi 0)).bind fun v15 =>
 condV v15 (
 some v14) (
 JoinPt (fun vs16 =>
 J10 []) fun J17 =>
 (fixN (fun rec18 vs19 =>
 (bin2 Tryd.prog BinOp.lss 3 (ot 23) (ot 24) (List.getD vs19 0 V.any) (List.getD vs6 0 V.any)).bind fun v20 =>
 condV v20 (
 (idxS 6 x0 (List.getD vs19 0 V.any)).bind fun v21 =>
 (ptrF 0 v21).bind fun v22 =>
 (ldp none v22).bind fun v23 =>
 (idxS 6 x0 (List.getD vs6 0 V.any)).bind fun v24 =>
 (ptrF 0 v24).bind fun v25 =>
 (ldp none v25).bind fun v26 =>
 (bin2 Tryd.prog BinOp.eql 3 (ot 32) (ot 37) v23 v26).bind fun v27 =>
 (guardV v27 true (some x0)).bind fun v28 =>
 (guardV v27 true (some (List.getD vs19 0 V.any))).bind fun v29 =>
 (guardV v27 true ((idxS 6 v28 v29).bind fun v30 =>
 some v30)).bind fun v31 =>
 (guardV v27 true ((ptrF 1 v31).bind fun v32 =>
 some v32)).bind fun v33 =>
 (guardV v27 true ((ldp (some 2) v33).bind fun v34 =>
 some v34)).bind fun v35 =>
 (guardV v27 true (some x0)).bind fun v36 =>
 (guardV v27 true (some (List.getD vs6 0 V.any))).bind fun v37 =>
 (guardV v27 true ((idxS 6 v36 v37).bind fun v38 =>
 some v38)).bind fun v39 =>
 (guardV v27 true ((ptrF 1 v39).bind fun v40 =>
 some v40)).bind fun v41 =>
 (guardV v27 true ((ldp (some 2) v41).bind fun v42 =>
 some v42)).bind fun v43 =>
 (guardV v27 true ((bin2 Tryd.prog BinOp.eql 58 (ot 44) (ot 49) v35 v43).bind fun v44 =>
 some v44)).bind fun v45 =>
 (pickV v27 v45 (vb false)).bind fun v46 =>
 condV v46 (
 some (vi 7)) (
 (bin2 Tryd.prog BinOp.add 3 (ot 26) (oc 1) (List.getD vs19 0 V.any) (vi 1)).bind fun v47 =>
 rec18 [v47])) (
 J17 [])) n) [(vi 0)])) (
 J4 [])) n) [(vi 0)]) := by kernel_rfl
noncomputable def t_railref1_Table (a0 : (List T_Rule)) : Option Int :=
 if (decide (12 < (List.length a0 : Int))) = true then (
 some 4) else (
 join (fun (s6 : Unit) =>
 some 0) fun j7 =>
 loopI a0 (fun (i15 : Int) x16 (s11 : Unit) k12 =>
 join (fun (s24 : Unit) =>
 k12 ()) fun j25 =>
 (t_railref1_Rule x16).bind fun r31 =>
 if (decide (r31 ≠ 0)) = true then (
 some r31) else (
 join (fun (s36 : Unit) =>
 j25 ()) fun j37 =>
 loopU 0 i15 (fun (i45 : Int) (s41 : Unit) k42 =>
 (idx a0 i45).bind fun r53 =>
 (gd (decide (r53.Prio = x16.Prio)) default (idx a0 i45)).bind fun r67 =>
 if ((decide (r53.Prio = x16.Prio)) && (decide (r67.Cube = x16.Cube))) = true then (
 some 7) else (
 k42 ())) (fun (i45 : Int) (s41 : Unit) =>
 j37 ()) ())) (fun (s11 : Unit) =>
 j7 ()) ())
theorem ty_railref1_Table {n : Nat} (hn : bigN ≤ n) (a0 : (List T_Rule)) : Rv (fun x : Int => (vi x)) (sem_railref1_Table n [(V.sl (List.map T_Rule.c a0))]) (t_railref1_Table a0) := by
  rw [eq_railref1_Table]
  unfold t_railref1_Table
  refine tb (x := (vi (List.length a0 : Int))) (p_len _) ?_
  refine tb (x := (vb (decide (12 < (List.length a0 : Int))))) (d_gtr) ?_
  refine tcond (fun h3 => ?_) (fun h3 => ?_)
  · exact rf_ret rfl
  · refine tjoin (mk := fun s6 : Unit => []) (fun s6 => ?_) fun J5 j7 h8 => ?_
    · exact rf_ret rfl
    · refine rf_loopI (mk := fun (i15 : Int) (s11 : Unit) => [(vi (i15 : Int))]) hn a0 () (fun i15 x16 h17 h18 h19 s11 rec9 k12 h13 => ?_) (fun s11 rec95 h94 => ?_)
      · refine tb (x := (vi (List.length a0 : Int))) (p_len _) ?_
        refine tb (x := (vb (decide ((i15 : Int) < (List.length a0 : Int))))) (d_lss) ?_
        refine tcond_t h19 ?_
        refine tjoin (mk := fun s24 : Unit => []) (fun s24 => ?_) fun J23 j25 h26 => ?_
        · refine tb (x := (vi ((i15 : Int) + 1))) (p_incN h18) ?_
          exact h13 ()
        · refine tb (x := (V.ptr (T_Rule.c x16))) (p_idx_at (c := T_Rule.c) (fun _ => rfl) h17) ?_
          refine tb (x := (T_Rule.e x16)) (rfl) ?_
          refine tbo (ty_railref1_Rule hn x16) fun r31 => ?_
          refine tb (x := (vb (decide (r31 ≠ 0)))) (d_neq) ?_
          refine tcond (fun h33 => ?_) (fun h33 => ?_)
          · exact rf_ret rfl
          · refine tjoin (mk := fun s36 : Unit => []) (fun s36 => ?_) fun J35 j37 h38 => ?_
            · exact h26 ()
            · refine rf_loopU (mk := fun (i45 : Int) (s41 : Unit) => [(vi i45)]) hn _ _ () (fun i45 h46 h47 h48 s41 rec39 k42 h43 => ?_) (fun i45 s41 rec50 h49 => ?_)
              · refine tb (x := (vb (decide (i45 < (i15 : Int))))) (d_lss) ?_
                refine tcond_t h46 ?_
                refine tbo (p_idx (c := T_Rule.c) (fun _ => rfl) a0 i45) fun r53 => ?_
                refine tb (x := (V.ptr (T_Rule.c r53))) (rfl) ?_
                refine tb (x := (vi r53.Prio)) (rfl) ?_
                refine tb (x := (V.ptr (T_Rule.c x16))) (p_idx_at (c := T_Rule.c) (fun _ => rfl) h17) ?_
                refine tb (x := (V.ptr (T_Rule.c x16))) (rfl) ?_
                refine tb (x := (vi x16.Prio)) (rfl) ?_
                refine tb (x := (vb (decide (r53.Prio = x16.Prio)))) (d_eql) ?_
                refine tg (x := (V.sl (List.map T_Rule.c a0))) (fun h60 => rfl) ?_
                refine tg (x := (vi i45)) (fun h62 => rfl) ?_
                refine tgo (fun h64 => by simp only [gv_t h64]; exact rf_bind_some (p_idx (c := T_Rule.c) (fun _ => rfl) a0 i45)) fun r67 => ?_
                refine tg (x := (V.ptr (List.drop 1 (T_Rule.c r67)))) (fun h68 => by first | exact bind_some_eq (rfl) | (simp only [gv_t h68]; exact bind_some_eq (rfl))) ?_
                refine tg (x := (T_Cube.e r67.Cube)) (fun h71 => by first | exact bind_some_eq (rfl) | (simp only [gv_t h71]; exact bind_some_eq (rfl))) ?_
                refine tg (x := (V.sl (List.map T_Rule.c a0))) (fun h74 => rfl) ?_
                refine tg (x := (vi (i15 : Int))) (fun h76 => rfl) ?_
                refine tg (x := (V.ptr (T_Rule.c x16))) (fun h78 => by simp only [gv_t h78]; exact bind_some_eq (p_idx_at (c := T_Rule.c) (fun _ => rfl) h17)) ?_
                refine tg (x := (V.ptr (List.drop 1 (T_Rule.c x16)))) (fun h81 => by first | exact bind_some_eq (rfl) | (simp only [gv_t h81]; exact bind_some_eq (rfl))) ?_
                refine tg (x := (T_Cube.e x16.Cube)) (fun h84 => by first | exact bind_some_eq (rfl) | (simp only [gv_t h84]; exact bind_some_eq (rfl))) ?_
                refine tg (x := (vb (decide (r67.Cube = x16.Cube)))) (fun h87 => by simp only [gv_t h87]; exact bind_some_eq (T_Cube.eql r67.Cube x16.Cube)) ?_
                refine tb (x := (vb ((decide (r53.Prio = x16.Prio)) && (decide (r67.Cube = x16.Cube))))) (pick_and (fun h9 => gv_t h9)) ?_
                refine tcond (fun h91 => ?_) (fun h91 => ?_)
                · exact rf_ret rfl
                · refine tb (x := (vi (i45 + 1))) (p_inc h47 h48) ?_
                  exact h43 ()
              · refine tb (x := (vb (decide (i45 < (i15 : Int))))) (d_lss) ?_
                refine tcond_f h49 ?_
                exact h38 ()
      · refine tb (x := (vi (List.length a0 : Int))) (p_len _) ?_
        refine tb (x := (vb (decide ((List.length a0 : Int) < (List.length a0 : Int))))) (d_lss) ?_
        refine tcond_f h94 ?_
        exact h8 ()

/-! railpoint/railref1.Has -/
def an_railref1_Has : Ann := .seq (.reg 0 [] [] []) (.seq (.reg 0 [] [] []) (.seq (.reg 0 [] [] []) (.no)))
noncomputable def sem_railref1_Has (n : Nat) (xs : List V) : Option V := if xs.length ≤ 23 then denF Tryd.prog (envOf [(20, (sem_railref1_Header n)), (126, (sem_railref1_Cube n))]) n Tryd.f79 an_railref1_Has xs else none
theorem ok_railref1_Has (n : Nat) : SemOk Tryd.prog DW 79 (sem_railref1_Has n) := fun xs y h => by
  unfold sem_railref1_Has at h
  split at h
  · rename_i hl
    exact denF_ok stb Tryd.func79 (by kernel_rfl) (envOf_ok (semsOk_cons (ok_railref1_Header n) (semsOk_cons (ok_railref1_Cube n) semsOk_nil))) (by rw [Tryd.ntmps79]; exact hl) h
  · cases h
theorem eq_railref1_Has (n : Nat) (x0 x1 : V) : sem_railref1_Has n [x0, x1] =
 (V.cellsO x0).bind fun v1 =>
 ((sem_railref1_Header n) [x1]).bind fun v2 =>
 (guardV v2 true ((ldk (some 2) (List.drop 0 v1)).bind fun v3 =>
 some v3)).bind fun v4 =>
 (guardV v2 true (((sem_railref1_Cube n) [v4]).bind fun v5 =>
 some v5)).bind fun v6 =>
 (guardV v2 true ((bin2 Tryd.prog BinOp.eql 3 (ot 11) (oc 0) v6 (vi 0)).bind fun v7 =>
 some v7)).bind fun v8 =>
 (pickV v2 v8 (vb false)).bind fun v9 =>
 (guardV v9 true (some x1)).bind fun v10 =>
 (guardV v9 true (some V.any)).bind fun v11 =>
 (guardV v9 true ((gate v9 true (ldk none (List.drop 0 v1))).bind fun v12 =>
 some v12)).bind fun v13 =>
 (guardV v9 true ((bin2 Tryd.prog BinOp.and 3 (ot 15) (ot 17) v10 v13).bind fun v14 =>
 some v14)).bind fun v15 =>
 (guardV v9 true (some V.any)).bind fun v16 =>
 (guardV v9 true ((gate v9 true (ldk none (List.drop 1 v1))).bind fun v17 =>
 some v17)).bind fun v18 =>
 (guardV v9 true ((bin2 Tryd.prog BinOp.eql 3 (ot 18) (ot 20) v15 v18).bind fun v19 =>
 some v19)).bind fun v20 =>
 (pickV v9 v20 (vb false)).bind fun v21 =>
 some v21 := by kernel_rfl
noncomputable def t_railref1_Has (a0 : T_Cube) (a1 : Int) : Option Bool :=
 (t_railref1_Header a1).bind fun r3 =>
 (gd r3 default (t_railref1_Cube a0)).bind fun r10 =>
 some ((r3 && (decide (r10 = 0))) && (decide ((bits .and .i64 a1 a0.Mask) = a0.Bits)))
theorem ty_railref1_Has {n : Nat} (hn : bigN ≤ n) (a0 : T_Cube) (a1 : Int) : Rv (fun x : Bool => (vb x)) (sem_railref1_Has n [(T_Cube.e a0), (vi a1)]) (t_railref1_Has a0 a1) := by
  rw [eq_railref1_Has]
  unfold t_railref1_Has
  refine tb (x := (T_Cube.c a0)) rfl ?_
  refine tbo (ty_railref1_Header hn a1) fun r3 => ?_
  refine tg (x := (T_Cube.e a0)) (fun h4 => bind_some_eq (rfl)) ?_
  refine tgo (fun h7 => by simp only [gv_t h7]; exact rf_bind_some (ty_railref1_Cube hn a0)) fun r10 => ?_
  refine tg (x := (vb (decide (r10 = 0)))) (fun h11 => by simp only [gv_t h11]; exact bind_some_eq (d_eql)) ?_
  refine tb (x := (vb (r3 && (decide (r10 = 0))))) (pick_and (fun h9 => gv_t h9)) ?_
  refine tg (x := (vi a1)) (fun h15 => rfl) ?_
  refine tg (x := V.any) (fun h17 => rfl) ?_
  refine tg (x := (vi a0.Mask)) (fun h19 => bind_some_eq (gate_pos h19 (rfl))) ?_
  refine tg (x := (vi (bits .and .i64 a1 a0.Mask))) (fun h22 => by simp only [gv_t h22]; exact bind_some_eq (d_and)) ?_
  refine tg (x := V.any) (fun h25 => rfl) ?_
  refine tg (x := (vi a0.Bits)) (fun h27 => bind_some_eq (gate_pos h27 (rfl))) ?_
  refine tg (x := (vb (decide ((bits .and .i64 a1 a0.Mask) = a0.Bits)))) (fun h30 => by simp only [gv_t h30]; exact bind_some_eq (d_eql)) ?_
  refine tb (x := (vb ((r3 && (decide (r10 = 0))) && (decide ((bits .and .i64 a1 a0.Mask) = a0.Bits))))) (pick_and (fun h9 => gv_t h9)) ?_
  exact rf_ret rfl

/-! railpoint/railref1.above -/
def an_railref1_above : Ann := .seq (.reg 0 [] [] []) (.seq (.seq (.reg 0 [] [] []) (.cond none (.seq (.reg 0 [] [] []) (.no)) (.no))) (.seq (.seq (.reg 0 [] [] []) (.cond none (.seq (.reg 0 [] [] []) (.no)) (.no))) (.seq (.reg 0 [] [] []) (.no))))
noncomputable def sem_railref1_above (n : Nat) (xs : List V) : Option V := if xs.length ≤ 36 then denF Tryd.prog (envOf []) n Tryd.f80 an_railref1_above xs else none
theorem ok_railref1_above (n : Nat) : SemOk Tryd.prog DW 80 (sem_railref1_above n) := fun xs y h => by
  unfold sem_railref1_above at h
  split at h
  · rename_i hl
    exact denF_ok stb Tryd.func80 (by kernel_rfl) (envOf_ok semsOk_nil) (by rw [Tryd.ntmps80]; exact hl) h
  · cases h
theorem eq_railref1_above (n : Nat) (x0 x1 : V) : sem_railref1_above n [x0, x1] =
 (V.cellsO x0).bind fun v1 =>
 (V.cellsO x1).bind fun v2 =>
 (ldk none (List.drop 0 v1)).bind fun v3 =>
 (ldk none (List.drop 0 v2)).bind fun v4 =>
 (bin2 Tryd.prog BinOp.neq 3 (ot 6) (ot 8) v3 v4).bind fun v5 =>
 condV v5 (
 (ldk none (List.drop 0 v1)).bind fun v6 =>
 (ldk none (List.drop 0 v2)).bind fun v7 =>
 (bin2 Tryd.prog BinOp.gtr 3 (ot 11) (ot 13) v6 v7).bind fun v8 =>
 some v8) (
 (ldk none (List.drop 1 v1)).bind fun v9 =>
 (ldk none (List.drop 1 v2)).bind fun v10 =>
 (bin2 Tryd.prog BinOp.neq 3 (ot 17) (ot 20) v9 v10).bind fun v11 =>
 condV v11 (
 (ldk none (List.drop 1 v1)).bind fun v12 =>
 (ldk none (List.drop 1 v2)).bind fun v13 =>
 (bin2 Tryd.prog BinOp.gtr 3 (ot 24) (ot 27) v12 v13).bind fun v14 =>
 some v14) (
 (ldk none (List.drop 2 v1)).bind fun v15 =>
 (ldk none (List.drop 2 v2)).bind fun v16 =>
 (bin2 Tryd.prog BinOp.gtr 3 (ot 31) (ot 34) v15 v16).bind fun v17 =>
 some v17)) := by kernel_rfl
noncomputable def t_railref1_above (a0 : T_Rule) (a1 : T_Rule) : Option Bool :=
 if (decide (a0.Prio ≠ a1.Prio)) = true then (
 some (decide (a1.Prio < a0.Prio))) else (
 if (decide (a0.Cube.Mask ≠ a1.Cube.Mask)) = true then (
 some (decide (a1.Cube.Mask < a0.Cube.Mask))) else (
 some (decide (a1.Cube.Bits < a0.Cube.Bits))))
theorem ty_railref1_above {n : Nat} (hn : bigN ≤ n) (a0 : T_Rule) (a1 : T_Rule) : Rv (fun x : Bool => (vb x)) (sem_railref1_above n [(T_Rule.e a0), (T_Rule.e a1)]) (t_railref1_above a0 a1) := by
  rw [eq_railref1_above]
  unfold t_railref1_above
  refine tb (x := (T_Rule.c a0)) rfl ?_
  refine tb (x := (T_Rule.c a1)) rfl ?_
  refine tb (x := (vi a0.Prio)) (rfl) ?_
  refine tb (x := (vi a1.Prio)) (rfl) ?_
  refine tb (x := (vb (decide (a0.Prio ≠ a1.Prio)))) (d_neq) ?_
  refine tcond (fun h6 => ?_) (fun h6 => ?_)
  · refine tb (x := (vi a0.Prio)) (rfl) ?_
    refine tb (x := (vi a1.Prio)) (rfl) ?_
    refine tb (x := (vb (decide (a1.Prio < a0.Prio)))) (d_gtr) ?_
    exact rf_ret rfl
  · refine tb (x := (vi a0.Cube.Mask)) (rfl) ?_
    refine tb (x := (vi a1.Cube.Mask)) (rfl) ?_
    refine tb (x := (vb (decide (a0.Cube.Mask ≠ a1.Cube.Mask)))) (d_neq) ?_
    refine tcond (fun h13 => ?_) (fun h13 => ?_)
    · refine tb (x := (vi a0.Cube.Mask)) (rfl) ?_
      refine tb (x := (vi a1.Cube.Mask)) (rfl) ?_
      refine tb (x := (vb (decide (a1.Cube.Mask < a0.Cube.Mask)))) (d_gtr) ?_
      exact rf_ret rfl
    · refine tb (x := (vi a0.Cube.Bits)) (rfl) ?_
      refine tb (x := (vi a1.Cube.Bits)) (rfl) ?_
      refine tb (x := (vb (decide (a1.Cube.Bits < a0.Cube.Bits)))) (d_gtr) ?_
      exact rf_ret rfl

/-! railpoint/railref1.Find -/
def an_railref1_Find : Ann := .seq (.reg 0 [] [] []) (.seq (.reg 0 [] [] []) (.seq (.seq (.reg 0 [] [] []) (.blk (some [.s 5]) (.loop [.s 5, .s 6] (.seq (.seq (.reg 0 [] [] []) (.cond none (.no) (.no))) (.seq (.blk none (.seq (.reg 0 [] [] []) (.seq (.reg 16 [] [] []) (.cond (some [.s 5]) (.reg 0 [] [] []) (.no))))) (.reg 0 [] [] [])))))) (.seq (.reg 0 [] [] []) (.no))))
noncomputable def sem_railref1_Find (n : Nat) (xs : List V) : Option V := if xs.length ≤ 39 then denF Tryd.prog (envOf [(79, (sem_railref1_Has n)), (80, (sem_railref1_above n))]) n Tryd.f29 an_railref1_Find xs else none
theorem ok_railref1_Find (n : Nat) : SemOk Tryd.prog DW 29 (sem_railref1_Find n) := fun xs y h => by
  unfold sem_railref1_Find at h
  split at h
  · rename_i hl
    exact denF_ok stb Tryd.func29 (by kernel_rfl) (envOf_ok (semsOk_cons (ok_railref1_Has n) (semsOk_cons (ok_railref1_above n) semsOk_nil))) (by rw [Tryd.ntmps29]; exact hl) h
  · cases h
theorem eq_railref1_Find (n : Nat) (x0 x1 : V) : sem_railref1_Find n [x0, x1] =
 JoinPt (fun vs1 =>
 some (List.getD vs1 0 V.any)) fun J2 =>
 (fixN (fun rec3 vs4 =>
 (lenS [x0]).bind fun v5 =>
 (bin2 Tryd.prog BinOp.lss 3 (ot 8) (ot 10) (List.getD vs4 1 V.any) v5).bind fun v6 =>
 condV v6 (
 (idxS 6 x0 (List.getD vs4 1 V.any)).bind fun v7 =>
 (ptrF 1 v7).bind fun v8 =>
 (ldp (some 2) v8).bind fun v9 =>
 ((sem_railref1_Has n) [v9, x1]).bind fun v10 =>
 (guardV v10 true (some (List.getD vs4 0 V.any))).bind fun v11 =>
 (guardV v10 true ((bin2 Tryd.prog BinOp.lss 3 (ot 23) (oc 0) v11 (vi 0)).bind fun v12 =>
 some v12)).bind fun v13 =>
 (guardV v10 true (some v13)).bind fun v14 =>
 (guardV v14 false (some x0)).bind fun v15 =>
 (guardV v14 false (some (List.getD vs4 1 V.any))).bind fun v16 =>
 (guardV v14 false ((idxS 6 v15 v16).bind fun v17 =>
 some v17)).bind fun v18 =>
 (guardV v14 false ((ldp (some 6) v18).bind fun v19 =>
 some v19)).bind fun v20 =>
 (guardV v14 false (some x0)).bind fun v21 =>
 (guardV v14 false (some (List.getD vs4 0 V.any))).bind fun v22 =>
 (guardV v14 false ((idxS 6 v21 v22).bind fun v23 =>
 some v23)).bind fun v24 =>
 (guardV v14 false ((ldp (some 6) v24).bind fun v25 =>
 some v25)).bind fun v26 =>
 (guardV v14 false (((sem_railref1_above n) [v20, v26]).bind fun v27 =>
 some v27)).bind fun v28 =>
 (guardV v10 true ((pickV v14 (vb true) v28).bind fun v29 =>
 some v29)).bind fun v30 =>
 (pickV v10 v30 (vb false)).bind fun v31 =>
 JoinPt (fun vs32 =>
 (bin2 Tryd.prog BinOp.add 3 (ot 12) (oc 1) (List.getD vs4 1 V.any) (vi 1)).bind fun v34 =>
 rec3 [(List.getD vs32 0 V.any), v34]) fun J33 =>
 condV v31 (
 J33 [(List.getD vs4 1 V.any)]) (
 J33 [(List.getD vs4 0 V.any)])) (
 J2 [(List.getD vs4 0 V.any)])) n) [(vi (-1 : Int)), (vi 0)] := by kernel_rfl
noncomputable def t_railref1_Find (a0 : (List T_Rule)) (a1 : Int) : Option Int :=
 (loopI a0 (fun (i12 : Int) x13 (s8 : Int) k9 =>
 (t_railref1_Has x13.Cube a1).bind fun r23 =>
 (gd (r23 && (!(decide (s8 < 0)))) default (idx a0 s8)).bind fun r48 =>
 (gd (r23 && (!(decide (s8 < 0)))) default (t_railref1_above x13 r48)).bind fun r55 =>
 (if (r23 && ((decide (s8 < 0)) || r55)) = true then (
 some i12) else (
 some (s8))).bind fun (s62 : Int) =>
 k9 (s62)) (fun (s8 : Int) =>
 some (s8)) (-1 : Int)).bind fun (s3 : Int) =>
 some s3
theorem ty_railref1_Find {n : Nat} (hn : bigN ≤ n) (a0 : (List T_Rule)) (a1 : Int) : Rv (fun x : Int => (vi x)) (sem_railref1_Find n [(V.sl (List.map T_Rule.c a0)), (vi a1)]) (t_railref1_Find a0 a1) := by
  rw [eq_railref1_Find]
  unfold t_railref1_Find
  refine tjb (mk := fun s3 : Int => [(vi s3)]) (fun J2 => ?_) fun s3 => ?_
  · refine rf_loopI (mk := fun (i12 : Int) (s8 : Int) => [(vi s8), (vi (i12 : Int))]) hn a0 (-1 : Int) (fun i12 x13 h14 h15 h16 s8 rec6 k9 h10 => ?_) (fun s8 rec68 h67 => ?_)
    · refine tb (x := (vi (List.length a0 : Int))) (p_len _) ?_
      refine tb (x := (vb (decide ((i12 : Int) < (List.length a0 : Int))))) (d_lss) ?_
      refine tcond_t h16 ?_
      refine tb (x := (V.ptr (T_Rule.c x13))) (p_idx_at (c := T_Rule.c) (fun _ => rfl) h14) ?_
      refine tb (x := (V.ptr (List.drop 1 (T_Rule.c x13)))) (rfl) ?_
      refine tb (x := (T_Cube.e x13.Cube)) (rfl) ?_
      refine tbo (ty_railref1_Has hn x13.Cube a1) fun r23 => ?_
      refine tg (x := (vi s8)) (fun h24 => rfl) ?_
      refine tg (x := (vb (decide (s8 < 0)))) (fun h26 => by simp only [gv_t h26]; exact bind_some_eq (d_lss)) ?_
      refine tg (x := (vb (decide (s8 < 0)))) (fun h29 => congrArg some (gv_t h29)) ?_
      refine tg2_f (x := (V.sl (List.map T_Rule.c a0))) (fun h31 => rfl) ?_
      refine tg2_f (x := (vi (i12 : Int))) (fun h33 => rfl) ?_
      refine tg2_f (x := (V.ptr (T_Rule.c x13))) (fun h35 => by simp only [gv_t h35]; exact bind_some_eq (p_idx_at (c := T_Rule.c) (fun _ => rfl) h14)) ?_
      refine tg2_f (x := (T_Rule.e x13)) (fun h38 => by first | exact bind_some_eq (rfl) | (simp only [gv_t h38]; exact bind_some_eq (rfl))) ?_
      refine tg2_f (x := (V.sl (List.map T_Rule.c a0))) (fun h41 => rfl) ?_
      refine tg2_f (x := (vi s8)) (fun h43 => rfl) ?_
      refine tgo2_f (fun h45 => by simp only [gv_t h45]; exact rf_bind_some (p_idx (c := T_Rule.c) (fun _ => rfl) a0 s8)) fun r48 => ?_
      refine tg2_f (x := (T_Rule.e r48)) (fun h49 => by first | exact bind_some_eq (rfl) | (simp only [gv_t h49]; exact bind_some_eq (rfl))) ?_
      refine tgo2_f (fun h52 => by simp only [gv_t h52]; exact rf_bind_some (ty_railref1_above hn x13 r48)) fun r55 => ?_
      refine tg (x := (vb ((decide (s8 < 0)) || r55))) (fun h56 => by simp only [gv_t h56]; exact bind_some_eq (pick_or (fun h9 => gv_t (and_i h56 (not_f h9))))) ?_
      refine tb (x := (vb (r23 && ((decide (s8 < 0)) || r55)))) (pick_and (fun h9 => gv_t h9)) ?_
      refine tjb (mk := fun s62 : Int => [(vi s62)]) (fun J61 => ?_) fun s62 => ?_
      · refine tcond (fun h66 => ?_) (fun h66 => ?_)
        · exact rf_j rfl
        · exact rf_j rfl
      · refine tb (x := (vi ((i12 : Int) + 1))) (p_incN h15) ?_
        exact h10 (s62)
    · refine tb (x := (vi (List.length a0 : Int))) (p_len _) ?_
      refine tb (x := (vb (decide ((List.length a0 : Int) < (List.length a0 : Int))))) (d_lss) ?_
      refine tcond_f h67 ?_
      exact rf_j rfl
  · exact rf_ret rfl

/-! railpoint/railref1.Path -/
def an_railref1_Path : Ann := .seq (.reg 0 [] [] []) (.seq (.reg 0 [] [] []) (.seq (.seq (.reg 0 [] [] []) (.blk (some [.s 5]) (.loop [.r 5 3, .s 6] (.seq (.seq (.reg 0 [] [] []) (.cond none (.no) (.no))) (.seq (.blk none (.seq (.reg 0 [] [] []) (.reg 0 [] [] []))) (.reg 0 [] [] [])))))) (.seq (.reg 0 [] [] []) (.no))))
noncomputable def sem_railref1_Path (n : Nat) (xs : List V) : Option V := if xs.length ≤ 25 then denF Tryd.prog (envOf [(29, (sem_railref1_Find n))]) n Tryd.f21 an_railref1_Path xs else none
theorem ok_railref1_Path (n : Nat) : SemOk Tryd.prog DW 21 (sem_railref1_Path n) := fun xs y h => by
  unfold sem_railref1_Path at h
  split at h
  · rename_i hl
    exact denF_ok stb Tryd.func21 (by kernel_rfl) (envOf_ok (semsOk_cons (ok_railref1_Find n) semsOk_nil)) (by rw [Tryd.ntmps21]; exact hl) h
  · cases h
theorem eq_railref1_Path (n : Nat) (x0 x1 : V) : sem_railref1_Path n [x0, x1] =
 JoinPt (fun vs1 =>
 some (List.getD vs1 0 V.any)) fun J2 =>
 (fixN (fun rec3 vs4 =>
 (lenS [x0]).bind fun v5 =>
 (bin2 Tryd.prog BinOp.lss 3 (ot 8) (ot 10) (List.getD vs4 1 V.any) v5).bind fun v6 =>
 condV v6 (
 (idxS 1 x0 (List.getD vs4 1 V.any)).bind fun v7 =>
 (ldp none v7).bind fun v8 =>
 ((sem_railref1_Find n) [v8, x1]).bind fun v9 =>
 (slcB 1 1 [(vi 0)] [(0, v9)]).bind fun v10 =>
 (appV 1 (slL (List.getD vs4 0 V.any)) v10).bind fun v11 =>
 (bin2 Tryd.prog BinOp.add 3 (ot 12) (oc 1) (List.getD vs4 1 V.any) (vi 1)).bind fun v12 =>
 rec3 [(V.sl (slL v11)), v12]) (
 J2 [(V.sl (slL (List.getD vs4 0 V.any)))])) n) [(V.sl []), (vi 0)] := by kernel_rfl
noncomputable def t_railref1_Path (a0 : (List (List T_Rule))) (a1 : Int) : Option (List Int) :=
 (loopI a0 (fun (i12 : Int) x13 (s8 : (List Int)) k9 =>
 (t_railref1_Find x13 a1).bind fun r22 =>
 (app s8 ([r22] : (List Int))).bind fun r25 =>
 k9 (r25)) (fun (s8 : (List Int)) =>
 some (s8)) ([])).bind fun (s3 : (List Int)) =>
 some s3
theorem ty_railref1_Path {n : Nat} (hn : bigN ≤ n) (a0 : (List (List T_Rule))) (a1 : Int) : Rv (fun x : (List Int) => (V.sl (List.map cI x))) (sem_railref1_Path n [(V.sl (List.map (cS T_Rule.c) a0)), (vi a1)]) (t_railref1_Path a0 a1) := by
  rw [eq_railref1_Path]
  unfold t_railref1_Path
  refine tjb (mk := fun s3 : (List Int) => [(V.sl (List.map cI s3))]) (fun J2 => ?_) fun s3 => ?_
  · refine rf_loopI (mk := fun (i12 : Int) (s8 : (List Int)) => [(V.sl (List.map cI s8)), (vi (i12 : Int))]) hn a0 ([]) (fun i12 x13 h14 h15 h16 s8 rec6 k9 h10 => ?_) (fun s8 rec28 h27 => ?_)
    · refine tb (x := (vi (List.length a0 : Int))) (p_len _) ?_
      refine tb (x := (vb (decide ((i12 : Int) < (List.length a0 : Int))))) (d_lss) ?_
      refine tcond_t h16 ?_
      refine tb (x := (V.ptr [(V.sl (List.map T_Rule.c x13))])) (p_idx_at (c := (cS T_Rule.c)) (fun _ => rfl) h14) ?_
      refine tb (x := (V.sl (List.map T_Rule.c x13))) (rfl) ?_
      refine tbo (ty_railref1_Find hn x13 a1) fun r22 => ?_
      refine tb (x := (V.sl (List.map cI ([r22] : (List Int))))) (by kernel_rfl) ?_
      refine tbo (p_app (c := cI) (fun _ => rfl) s8 ([r22] : (List Int))) fun r25 => ?_
      refine tb (x := (vi ((i12 : Int) + 1))) (p_incN h15) ?_
      exact h10 (r25)
    · refine tb (x := (vi (List.length a0 : Int))) (p_len _) ?_
      refine tb (x := (vb (decide ((List.length a0 : Int) < (List.length a0 : Int))))) (d_lss) ?_
      refine tcond_f h27 ?_
      exact rf_j rfl
  · exact rf_ret rfl

/-! railpoint/railref1.Classes -/
def an_railref1_Classes : Ann := .seq (.reg 0 [] [] []) (.seq (.reg 0 [] [] []) (.seq (.reg 0 [] [] []) (.seq (.seq (.reg 0 [] [] []) (.blk (some [.n 3 1]) (.loop [.n 3 1, .r 4 43, .s 5] (.seq (.seq (.reg 0 [] [] []) (.cond none (.no) (.no))) (.seq (.blk (some [.n 3 1, .r 4 43]) (.seq (.reg 0 [] [] []) (.seq (.reg 0 [] [] []) (.seq (.seq (.reg 0 [] [] []) (.blk (some [.ko 3, .r 4 43, .s 7]) (.loop [.ko 3, .r 4 43, .s 7, .s 8] (.seq (.seq (.reg 0 [] [] []) (.cond none (.no) (.no))) (.seq (.blk (some [.ko 3, .r 4 43, .s 7]) (.seq (.reg 0 [] [] []) (.seq (.seq (.reg 0 [] [] []) (.blk (some [.ko 3, .r 4 43, .s 9]) (.loop [.ko 3, .r 4 43, .s 9, .s 10] (.seq (.seq (.reg 0 [] [] []) (.cond none (.no) (.no))) (.seq (.blk none (.reg 16 [] [] [])) (.reg 0 [] [] [])))))) (.seq (.reg 0 [] [] []) (.cond (some [.ko 3, .r 4 43, .s 7]) (.reg 0 [] [] []) (.no)))))) (.reg 0 [] [] [])))))) (.seq (.reg 0 [] [] []) (.cond (some [.n 3 1, .r 4 43]) (.seq (.reg 0 [] [] []) (.reg 0 [] [] [61, 1000059, 1000060])) (.reg 0 [] [] [67, 70]))))))) (.reg 0 [] [] [])))))) (.seq (.reg 0 [3] [] []) (.no)))))
noncomputable def sem_railref1_Classes (n : Nat) (xs : List V) : Option V := if xs.length ≤ 73 then denF Tryd.prog (envOf [(21, (sem_railref1_Path n))]) n Tryd.f14 an_railref1_Classes xs else none
theorem ok_railref1_Classes (n : Nat) : SemOk Tryd.prog DW 14 (sem_railref1_Classes n) := fun xs y h => by
  unfold sem_railref1_Classes at h
  split at h
  · rename_i hl
    exact denF_ok stb Tryd.func14 (by kernel_rfl) (envOf_ok (semsOk_cons (ok_railref1_Path n) semsOk_nil)) (by rw [Tryd.ntmps14]; exact hl) h
  · cases h
theorem eq_railref1_Classes (n : Nat) (x0 : V) : sem_railref1_Classes n [x0] =
 JoinPt (fun vs1 =>
 (some (frz (List.getD vs1 0 V.any))).bind fun v3 =>
 some v3) fun J2 =>
 (fixN (fun rec4 vs5 =>
 (bin2 Tryd.prog BinOp.lss 3 (ot 11) (oc 16) (List.getD vs5 2 V.any) (vi 16)).bind fun v6 =>
 condV v6 (
 JoinPt (fun vs7 =>
 (bin2 Tryd.prog BinOp.add 3 (ot 13) (oc 1) (List.getD vs5 2 V.any) (vi 1)).bind fun v9 =>
 rec4 [(List.getD vs7 0 V.any), (V.sl (slL (List.getD vs7 1 V.any))), v9]) fun J8 =>
 ((sem_railref1_Path n) [x0, (List.getD vs5 2 V.any)]).bind fun v10 =>
 JoinPt (fun vs11 =>
 (bin2 Tryd.prog BinOp.lss 3 (ot 51) (oc 0) (List.getD vs11 1 V.any) (vi 0)).bind fun v13 =>
 JoinPt (fun vs14 =>
 J8 [(List.getD vs14 0 V.any), (V.sl (slL (List.getD vs14 1 V.any)))]) fun J15 =>
 condV v13 (
 (slcB 1 1 [(V.sl [])] [(0, v10)]).bind fun v16 =>
 (appV 1 (slL (List.getD vs11 0 V.any)) v16).bind fun v17 =>
 (V.cellsO (List.getD vs5 2 V.any)).bind fun v18 =>
 (litS 1 v18).bind fun v19 =>
 (V.cellsO v19).bind fun v20 =>
 (litS 1 v20).bind fun v21 =>
 (appS 1 (List.getD vs5 0 V.any) v21).bind fun v22 =>
 J15 [v22, (V.sl (slL v17))]) (
 ((oslR (List.getD vs5 0 V.any)).bind fun rows23 => inB (List.length rows23) (List.getD vs11 1 V.any)).bind fun v24 =>
 ((nodeL (List.getD vs5 0 V.any) (some (natOf (List.getD vs11 1 V.any))) 1).bind fun l25 => (l25[0]?).bind ownO).bind fun v26 =>
 (slcB 1 1 [(vi 0)] [(0, (List.getD vs5 2 V.any))]).bind fun v27 =>
 (getV (List.getD vs5 0 V.any) [(Stp.mk (some (natOf (List.getD vs11 1 V.any))) 0 1)]).bind fun v28 =>
 (modX (List.getD vs5 0 V.any) [] (Stp.mk (some (natOf (List.getD vs11 1 V.any))) 0 1) V.any).bind fun v29 =>
 (appS 1 v28 v27).bind fun v30 =>
 ((oslR v29).bind fun rows31 => inB (List.length rows31) (List.getD vs11 1 V.any)).bind fun v32 =>
 (V.cellsO v30).bind fun v33 =>
 (setV v29 [] (Stp.mk (some (natOf (List.getD vs11 1 V.any))) 0 1) 1 v33).bind fun v34 =>
 J15 [v34, (V.sl (slL (List.getD vs11 0 V.any)))])) fun J12 =>
 (keepT (some (List.getD vs5 0 V.any)) (some (List.getD vs5 0 V.any)) (some [(V.sl (slL (List.getD vs5 1 V.any))), (vi (-1 : Int)), (vi 0)])).bind (fixN (fun rec35 vs36 =>
 (lenS [(V.sl (slL (List.getD vs36 0 V.any)))]).bind fun v37 =>
 (bin2 Tryd.prog BinOp.lss 3 (ot 18) (ot 20) (List.getD vs36 2 V.any) v37).bind fun v38 =>
 (guardV v38 true (some (List.getD vs36 1 V.any))).bind fun v39 =>
 (guardV v38 true ((bin2 Tryd.prog BinOp.lss 3 (ot 23) (oc 0) v39 (vi 0)).bind fun v40 =>
 some v40)).bind fun v41 =>
 (pickV v38 v41 (vb false)).bind fun v42 =>
 condV v42 (
 JoinPt (fun vs43 =>
 (bin2 Tryd.prog BinOp.add 3 (ot 26) (oc 1) (List.getD vs36 2 V.any) (vi 1)).bind fun v45 =>
 (keepT (some (List.getD vs5 0 V.any)) (some (List.getD vs5 0 V.any)) (some [(V.sl (slL (List.getD vs43 0 V.any))), (List.getD vs43 1 V.any), v45])).bind rec35) fun J44 =>
 JoinPt (fun vs46 =>
 JoinPt (fun vs48 =>
 (keepT (some (List.getD vs5 0 V.any)) (some (List.getD vs5 0 V.any)) (some [(V.sl (slL (List.getD vs48 0 V.any))), (List.getD vs48 1 V.any)])).bind J44) fun J49 =>
 condV (List.getD vs46 1 V.any) (
 (keepT (some (List.getD vs5 0 V.any)) (some (List.getD vs5 0 V.any)) (some [(V.sl (slL (List.getD vs46 0 V.any))), (List.getD vs36 2 V.any)])).bind J49) (
 (keepT (some (List.getD vs5 0 V.any)) (some (List.getD vs5 0 V.any)) (some [(V.sl (slL (List.getD vs46 0 V.any))), (List.getD vs36 1 V.any)])).bind J49)) fun J47 =>
 (keepT (some (List.getD vs5 0 V.any)) (some (List.getD vs5 0 V.any)) (some [(V.sl (slL (List.getD vs36 0 V.any))), (vb true), (vi 0)])).bind (fixN (fun rec50 vs51 =>
 (lenS [v10]).bind fun v52 =>
 (bin2 Tryd.prog BinOp.lss 3 (ot 28) (ot 30) (List.getD vs51 2 V.any) v52).bind fun v53 =>
 condV v53 (
 (guardV (List.getD vs51 1 V.any) true (some v10)).bind fun v54 =>
 (guardV (List.getD vs51 1 V.any) true (some (List.getD vs51 2 V.any))).bind fun v55 =>
 (guardV (List.getD vs51 1 V.any) true ((idxS 1 v54 v55).bind fun v56 =>
 some v56)).bind fun v57 =>
 (guardV (List.getD vs51 1 V.any) true ((ldp none v57).bind fun v58 =>
 some v58)).bind fun v59 =>
 (guardV (List.getD vs51 1 V.any) true (some (V.sl (slL (List.getD vs51 0 V.any))))).bind fun v60 =>
 (guardV (List.getD vs51 1 V.any) true (some (List.getD vs36 2 V.any))).bind fun v61 =>
 (guardV (List.getD vs51 1 V.any) true ((idxS 1 v60 v61).bind fun v62 =>
 some v62)).bind fun v63 =>
 (guardV (List.getD vs51 1 V.any) true ((ldp none v63).bind fun v64 =>
 some v64)).bind fun v65 =>
 (guardV (List.getD vs51 1 V.any) true (some (List.getD vs51 2 V.any))).bind fun v66 =>
 (guardV (List.getD vs51 1 V.any) true ((idxS 1 v65 v66).bind fun v67 =>
 some v67)).bind fun v68 =>
 (guardV (List.getD vs51 1 V.any) true ((ldp none v68).bind fun v69 =>
 some v69)).bind fun v70 =>
 (guardV (List.getD vs51 1 V.any) true ((bin2 Tryd.prog BinOp.eql 3 (ot 39) (ot 46) v59 v70).bind fun v71 =>
 some v71)).bind fun v72 =>
 (pickV (List.getD vs51 1 V.any) v72 (vb false)).bind fun v73 =>
 (bin2 Tryd.prog BinOp.add 3 (ot 32) (oc 1) (List.getD vs51 2 V.any) (vi 1)).bind fun v74 =>
 (keepT (some (List.getD vs5 0 V.any)) (some (List.getD vs5 0 V.any)) (some [(V.sl (slL (List.getD vs51 0 V.any))), v73, v74])).bind rec50) (
 (keepT (some (List.getD vs5 0 V.any)) (some (List.getD vs5 0 V.any)) (some [(V.sl (slL (List.getD vs51 0 V.any))), (List.getD vs51 1 V.any)])).bind J47)) n)) (
 (keepT (some (List.getD vs5 0 V.any)) (some (List.getD vs5 0 V.any)) (some [(V.sl (slL (List.getD vs36 0 V.any))), (List.getD vs36 1 V.any)])).bind J12)) n)) (
 J2 [(List.getD vs5 0 V.any)])) n) [(V.osl 1 []), (V.sl []), (vi 0)] := by kernel_rfl
noncomputable def t_railref1_Classes (a0 : (List (List T_Rule))) : Option (List (List Int)) :=
 (loopU 0 16 (fun (i13 : Int) (s9 : ((List (List Int)) × (List (List Int)))) k10 =>
 ((t_railref1_Path a0 i13).bind fun r27 =>
 (tfix (fun k61 (s60 : ((List (List Int)) × Int × Int)) =>
 if ((decide (s60.2.2 < (List.length s60.1 : Int))) && (decide (s60.2.1 < 0))) = true then (
 ((loopI r27 (fun (i97 : Int) x98 (s93 : Bool) k94 =>
 (gd s93 default (idx s60.1 s60.2.2)).bind fun r121 =>
 (gd s93 default (idx r121 i97)).bind fun r130 =>
 k94 (s93 && (decide (x98 = r130)))) (fun (s93 : Bool) =>
 some (s60.1, s93)) (true)).bind fun (s82 : ((List (List Int)) × Bool)) =>
 (if s82.2 = true then (
 some (s82.1, s60.2.2)) else (
 some (s82.1, s60.2.1))).bind fun (s87 : ((List (List Int)) × Int)) =>
 some (s87.1, s87.2)).bind fun (s76 : ((List (List Int)) × Int)) =>
 k61 (s76.1, s76.2, (wr (s60.2.2 + 1)))) else (
 some (s60.1, s60.2.1))) bigN (s9.2, (-1 : Int), 0)).bind fun (s30 : ((List (List Int)) × Int)) =>
 (if (decide (s30.2 < 0)) = true then (
 (app s30.1 ([r27] : (List (List Int)))).bind fun r42 =>
 (oapp s9.1 ([([i13] : (List Int))] : (List (List Int)))).bind fun r45 =>
 some (r45, r42)) else (
 need (decide (0 ≤ s30.2) && decide (s30.2 < (List.length s9.1 : Int))) (
 (idx s9.1 s30.2).bind fun r48 =>
 (idx s9.1 s30.2).bind fun r51 =>
 (oapp r51 ([i13] : (List Int))).bind fun r52 =>
 need (decide (0 ≤ s30.2) && decide (s30.2 < (List.length s9.1 : Int))) (
 (oset s9.1 s30.2 r52).bind fun r55 =>
 some (r55, s30.1))))).bind fun (s36 : ((List (List Int)) × (List (List Int)))) =>
 some (s36.1, s36.2)).bind fun (s22 : ((List (List Int)) × (List (List Int)))) =>
 k10 (s22.1, s22.2)) (fun (i13 : Int) (s9 : ((List (List Int)) × (List (List Int)))) =>
 some (s9.1)) ([], [])).bind fun (s3 : (List (List Int))) =>
 some s3
theorem ty_railref1_Classes {n : Nat} (hn : bigN ≤ n) (a0 : (List (List T_Rule))) : Rv (fun x : (List (List Int)) => (V.sl (List.map (cS cI) x))) (sem_railref1_Classes n [(V.sl (List.map (cS T_Rule.c) a0))]) (t_railref1_Classes a0) := by
  rw [eq_railref1_Classes]
  unfold t_railref1_Classes
  refine tjb (mk := fun s3 : (List (List Int)) => [(V.osl 1 (List.map (fun x : (List Int) => [(V.osl 1 (List.map cI x))]) s3))]) (fun J2 => ?_) fun s3 => ?_
  · refine rf_loopU (mk := fun (i13 : Int) (s9 : ((List (List Int)) × (List (List Int)))) => [(V.osl 1 (List.map (fun x : (List Int) => [(V.osl 1 (List.map cI x))]) s9.1)), (V.sl (List.map (cS cI) s9.2)), (vi i13)]) hn _ _ ([], []) (fun i13 h14 h15 h16 s9 rec7 k10 h11 => ?_) (fun i13 s9 rec18 h17 => ?_)
    · refine tb (x := (vb (decide (i13 < 16)))) (d_lss) ?_
      refine tcond_t h14 ?_
      refine tjb (mk := fun s22 : ((List (List Int)) × (List (List Int))) => [(V.osl 1 (List.map (fun x : (List Int) => [(V.osl 1 (List.map cI x))]) s22.1)), (V.sl (List.map (cS cI) s22.2))]) (fun J21 => ?_) fun s22 => ?_
      · refine tbo (ty_railref1_Path hn a0 i13) fun r27 => ?_
        refine tjb (mk := fun s30 : ((List (List Int)) × Int) => [(V.sl (List.map (cS cI) s30.1)), (vi s30.2)]) (fun J29 => ?_) fun s30 => ?_
        · refine tkeepT2 ?_ rfl
          refine tsome ?_
          refine rf_fixN (mk := fun (s60 : ((List (List Int)) × Int × Int)) => [(V.sl (List.map (cS cI) s60.1)), (vi s60.2.1), (vi s60.2.2)]) hn (s9.2, (-1 : Int), 0) (fun rec58 k61 h62 s60 => ?_)
          refine tb (x := (vi (List.length s60.1 : Int))) (p_len _) ?_
          refine tb (x := (vb (decide (s60.2.2 < (List.length s60.1 : Int))))) (d_lss) ?_
          refine tg (x := (vi s60.2.1)) (fun h67 => rfl) ?_
          refine tg (x := (vb (decide (s60.2.1 < 0)))) (fun h69 => by simp only [gv_t h69]; exact bind_some_eq (d_lss)) ?_
          refine tb (x := (vb ((decide (s60.2.2 < (List.length s60.1 : Int))) && (decide (s60.2.1 < 0))))) (pick_and (fun h9 => gv_t h9)) ?_
          refine tcond (fun h73 => ?_) (fun h73 => ?_)
          · refine tjb (mk := fun s76 : ((List (List Int)) × Int) => [(V.sl (List.map (cS cI) s76.1)), (vi s76.2)]) (fun J75 => ?_) fun s76 => ?_
            · refine tjb (mk := fun s82 : ((List (List Int)) × Bool) => [(V.sl (List.map (cS cI) s82.1)), (vb s82.2)]) (fun J81 => ?_) fun s82 => ?_
              · refine tkeepT2 ?_ rfl
                refine tsome ?_
                refine rf_loopI (mk := fun (i97 : Int) (s93 : Bool) => [(V.sl (List.map (cS cI) s60.1)), (vb s93), (vi (i97 : Int))]) hn r27 (true) (fun i97 x98 h99 h100 h101 s93 rec91 k94 h95 => ?_) (fun s93 rec140 h139 => ?_)
                · refine tb (x := (vi (List.length r27 : Int))) (p_len _) ?_
                  refine tb (x := (vb (decide ((i97 : Int) < (List.length r27 : Int))))) (d_lss) ?_
                  refine tcond_t h101 ?_
                  refine tg (x := (V.sl (List.map cI r27))) (fun h104 => rfl) ?_
                  refine tg (x := (vi (i97 : Int))) (fun h106 => rfl) ?_
                  refine tg (x := (V.ptr [(vi x98)])) (fun h108 => by simp only [gv_t h108]; exact bind_some_eq (p_idx_at (c := cI) (fun _ => rfl) h99)) ?_
                  refine tg (x := (vi x98)) (fun h111 => by first | exact bind_some_eq (rfl) | (simp only [gv_t h111]; exact bind_some_eq (rfl))) ?_
                  refine tg (x := (V.sl (List.map (cS cI) s60.1))) (fun h114 => rfl) ?_
                  refine tg (x := (vi s60.2.2)) (fun h116 => rfl) ?_
                  refine tgo (fun h118 => by simp only [gv_t h118]; exact rf_bind_some (p_idx (c := (cS cI)) (fun _ => rfl) s60.1 s60.2.2)) fun r121 => ?_
                  refine tg (x := (V.sl (List.map cI r121))) (fun h122 => by first | exact bind_some_eq (rfl) | (simp only [gv_t h122]; exact bind_some_eq (rfl))) ?_
                  refine tg (x := (vi (i97 : Int))) (fun h125 => rfl) ?_
                  refine tgo (fun h127 => by simp only [gv_t h127]; exact rf_bind_some (p_idx (c := cI) (fun _ => rfl) r121 (i97 : Int))) fun r130 => ?_
                  refine tg (x := (vi r130)) (fun h131 => by first | exact bind_some_eq (rfl) | (simp only [gv_t h131]; exact bind_some_eq (rfl))) ?_
                  refine tg (x := (vb (decide (x98 = r130)))) (fun h134 => by simp only [gv_t h134]; exact bind_some_eq (d_eql)) ?_
                  refine tb (x := (vb (s93 && (decide (x98 = r130))))) (pick_and (fun h9 => gv_t h9)) ?_
                  refine tb (x := (vi ((i97 : Int) + 1))) (p_incN h100) ?_
                  refine tkeepT2 ?_ rfl
                  refine tsome ?_
                  exact h95 (s93 && (decide (x98 = r130)))
                · refine tb (x := (vi (List.length r27 : Int))) (p_len _) ?_
                  refine tb (x := (vb (decide ((List.length r27 : Int) < (List.length r27 : Int))))) (d_lss) ?_
                  refine tcond_f h139 ?_
                  refine tkeepT2 ?_ rfl
                  refine tsome ?_
                  exact rf_j rfl
              · refine tjb (mk := fun s87 : ((List (List Int)) × Int) => [(V.sl (List.map (cS cI) s87.1)), (vi s87.2)]) (fun J86 => ?_) fun s87 => ?_
                · refine tcond (fun h90 => ?_) (fun h90 => ?_)
                  · refine tkeepT2 ?_ rfl
                    refine tsome ?_
                    exact rf_j rfl
                  · refine tkeepT2 ?_ rfl
                    refine tsome ?_
                    exact rf_j rfl
                · refine tkeepT2 ?_ rfl
                  refine tsome ?_
                  exact rf_j rfl
            · refine tb (x := (vi (wr (s60.2.2 + 1)))) (d_add) ?_
              refine tkeepT2 ?_ rfl
              refine tsome ?_
              exact h62 (s76.1, s76.2, (wr (s60.2.2 + 1)))
          · refine tkeepT2 ?_ rfl
            refine tsome ?_
            exact rf_j rfl
        · refine tb (x := (vb (decide (s30.2 < 0)))) (d_lss) ?_
          refine tjb (mk := fun s36 : ((List (List Int)) × (List (List Int))) => [(V.osl 1 (List.map (fun x : (List Int) => [(V.osl 1 (List.map cI x))]) s36.1)), (V.sl (List.map (cS cI) s36.2))]) (fun J35 => ?_) fun s36 => ?_
          · refine tcond (fun h39 => ?_) (fun h39 => ?_)
            · refine tb (x := (V.sl (List.map (cS cI) ([r27] : (List (List Int)))))) (by kernel_rfl) ?_
              refine tbo (p_app (c := (cS cI)) (fun _ => rfl) s30.1 ([r27] : (List (List Int)))) fun r42 => ?_
              refine tb (x := cI i13) rfl ?_
              refine tb (x := (V.osl 1 (List.map cI ([i13] : (List Int))))) (by kernel_rfl) ?_
              refine tb (x := [(V.osl 1 (List.map cI ([i13] : (List Int))))]) rfl ?_
              refine tb (x := (V.osl 1 (List.map (fun x : (List Int) => [(V.osl 1 (List.map cI x))]) ([([i13] : (List Int))] : (List (List Int)))))) (by kernel_rfl) ?_
              refine tbo (p_oappO (c := (fun x : (List Int) => [(V.osl 1 (List.map cI x))])) (fun _ => rfl) s9.1 ([([i13] : (List Int))] : (List (List Int)))) fun r45 => ?_
              exact rf_j rfl
            · refine tneed (x := V.any) (fun h57 => p_inB s9.1 s30.2 h57) fun h57 => ?_
              refine tbo (p_onest (c := (fun x : (List Int) => [(V.osl 1 (List.map cI x))])) (fun _ => rfl) s9.1 s30.2) fun r48 => ?_
              refine tb (x := (V.sl (List.map cI ([i13] : (List Int))))) (by kernel_rfl) ?_
              refine p_take (c := (fun x : (List Int) => [(V.osl 1 (List.map cI x))])) (e1 := (fun x : (List Int) => (V.osl 1 (List.map cI x)))) (fun _ => rfl) s9.1 s30.2 fun r51 => ?_
              refine tbo (p_oapp (c := cI) (fun _ => rfl) r51 ([i13] : (List Int))) fun r52 => ?_
              refine tneed (x := V.any) (fun h56 => p_inBh (c := (fun x : (List Int) => [(V.osl 1 (List.map cI x))])) (k := 1) (j := 0) s9.1 s30.2 s30.2 h56) fun h56 => ?_
              refine tb (x := [(V.osl 1 (List.map cI r52))]) rfl ?_
              refine tbo (p_fill1 (c := (fun x : (List Int) => [(V.osl 1 (List.map cI x))])) (e1 := (fun x : (List Int) => (V.osl 1 (List.map cI x)))) (fun _ => rfl) s9.1 s30.2 r52) fun r55 => ?_
              exact rf_j rfl
          · exact rf_j rfl
      · refine tb (x := (vi (i13 + 1))) (p_inc h15 h16) ?_
        exact h11 (s22.1, s22.2)
    · refine tb (x := (vb (decide (i13 < 16)))) (d_lss) ?_
      refine tcond_f h17 ?_
      exact rf_j rfl
  · refine tb (x := (V.sl (List.map (cS cI) s3))) (p_frzS (c' := (cS cI)) (fun _ => (p_fzc (p_frzl (c' := cI) (fun _ => rfl) _) p_fz0)) s3) ?_
    exact rf_ret rfl

/-! railpoint/cube.Header -/
def an_cube_Header : Ann := .seq (.reg 0 [] [] []) (.seq (.reg 0 [] [] []) (.no))
noncomputable def sem_cube_Header (n : Nat) (xs : List V) : Option V := if xs.length ≤ 9 then denF Tryd.prog (envOf []) n Tryd.f73 an_cube_Header xs else none
theorem ok_cube_Header (n : Nat) : SemOk Tryd.prog DW 73 (sem_cube_Header n) := fun xs y h => by
  unfold sem_cube_Header at h
  split at h
  · rename_i hl
    exact denF_ok stb Tryd.func73 (by kernel_rfl) (envOf_ok semsOk_nil) (by rw [Tryd.ntmps73]; exact hl) h
  · cases h
theorem eq_cube_Header (n : Nat) (x0 : V) : sem_cube_Header n [x0] =
 (bin2 Tryd.prog BinOp.geq 3 (ot 3) (oc 0) x0 (vi 0)).bind fun v1 =>
 (guardV v1 true (some x0)).bind fun v2 =>
 (guardV v1 true ((bin2 Tryd.prog BinOp.lss 3 (ot 6) (oc 16) v2 (vi 16)).bind fun v3 =>
 some v3)).bind fun v4 =>
 (pickV v1 v4 (vb false)).bind fun v5 =>
 some v5 := by kernel_rfl
noncomputable def t_cube_Header (a0 : Int) : Option Bool :=
 some ((decide (0 ≤ a0)) && (decide (a0 < 16)))
theorem ty_cube_Header {n : Nat} (hn : bigN ≤ n) (a0 : Int) : Rv (fun x : Bool => (vb x)) (sem_cube_Header n [(vi a0)]) (t_cube_Header a0) := by
  rw [eq_cube_Header]
  unfold t_cube_Header
  refine tb (x := (vb (decide (0 ≤ a0)))) (d_geq) ?_
  refine tg (x := (vi a0)) (fun h2 => rfl) ?_
  refine tg (x := (vb (decide (a0 < 16)))) (fun h4 => by simp only [gv_t h4]; exact bind_some_eq (d_lss)) ?_
  refine tb (x := (vb ((decide (0 ≤ a0)) && (decide (a0 < 16))))) (pick_and (fun h9 => gv_t h9)) ?_
  exact rf_ret rfl

/-! railpoint/cube.Check -/
def an_cube_Check : Ann := .seq (.reg 0 [] [] []) (.seq (.blk none (.seq (.reg 0 [] [] []) (.cond none (.seq (.reg 0 [] [] []) (.no)) (.seq (.reg 0 [] [] []) (.cond none (.seq (.reg 0 [] [] []) (.no)) (.no)))))) (.seq (.reg 0 [] [] []) (.no)))
noncomputable def sem_cube_Check (n : Nat) (xs : List V) : Option V := if xs.length ≤ 23 then denF Tryd.prog (envOf [(73, (sem_cube_Header n))]) n Tryd.f166 an_cube_Check xs else none
theorem ok_cube_Check (n : Nat) : SemOk Tryd.prog DW 166 (sem_cube_Check n) := fun xs y h => by
  unfold sem_cube_Check at h
  split at h
  · rename_i hl
    exact denF_ok stb Tryd.func166 (by kernel_rfl) (envOf_ok (semsOk_cons (ok_cube_Header n) semsOk_nil)) (by rw [Tryd.ntmps166]; exact hl) h
  · cases h
theorem eq_cube_Check (n : Nat) (x0 : V) : sem_cube_Check n [x0] =
 (V.cellsO x0).bind fun v1 =>
 (ldk none (List.drop 0 v1)).bind fun v2 =>
 ((sem_cube_Header n) [v2]).bind fun v3 =>
 (scal1 Tryd.prog (Op.unary Go.UnOp.not) v3).bind fun v4 =>
 (guardV v4 false (some V.any)).bind fun v5 =>
 (guardV v4 false ((gate v4 false (ldk none (List.drop 1 v1))).bind fun v6 =>
 some v6)).bind fun v7 =>
 (guardV v4 false (((sem_cube_Header n) [v7]).bind fun v8 =>
 some v8)).bind fun v9 =>
 (guardV v4 false ((scal1 Tryd.prog (Op.unary Go.UnOp.not) v9).bind fun v10 =>
 some v10)).bind fun v11 =>
 (pickV v4 (vb true) v11).bind fun v12 =>
 condV v12 (
 (scal1 Tryd.prog (Instr.makeInterface 143) (vi 1)).bind fun v13 =>
 some v13) (
 (ldk none (List.drop 1 v1)).bind fun v14 =>
 (ldk none (List.drop 0 v1)).bind fun v15 =>
 (bin2 Tryd.prog BinOp.andNot 3 (ot 17) (ot 19) v14 v15).bind fun v16 =>
 (bin2 Tryd.prog BinOp.neq 3 (ot 20) (oc 0) v16 (vi 0)).bind fun v17 =>
 condV v17 (
 (scal1 Tryd.prog (Instr.makeInterface 143) (vi 3)).bind fun v18 =>
 some v18) (
 some vn)) := by kernel_rfl
noncomputable def t_cube_Check (a0 : T_Cube) : Option Int :=
 (t_cube_Header a0.Mask).bind fun r4 =>
 (gd (!(!r4)) default (t_cube_Header a0.Bits)).bind fun r14 =>
 if ((!r4) || (!r14)) = true then (
 some 1) else (
 if (decide ((bits .andNot .i64 a0.Bits a0.Mask) ≠ 0)) = true then (
 some 3) else (
 some 0))
theorem ty_cube_Check {n : Nat} (hn : bigN ≤ n) (a0 : T_Cube) : Rv (fun x : Int => (eV x)) (sem_cube_Check n [(T_Cube.e a0)]) (t_cube_Check a0) := by
  rw [eq_cube_Check]
  unfold t_cube_Check
  refine tb (x := (T_Cube.c a0)) rfl ?_
  refine tb (x := (vi a0.Mask)) (rfl) ?_
  refine tbo (ty_cube_Header hn a0.Mask) fun r4 => ?_
  refine tb (x := (vb (!r4))) (d_not) ?_
  refine tg_f (x := V.any) (fun h6 => rfl) ?_
  refine tg_f (x := (vi a0.Bits)) (fun h8 => bind_some_eq (gate_pos (not_t h8) (rfl))) ?_
  refine tgo_f (fun h11 => by simp only [gv_t h11]; exact rf_bind_some (ty_cube_Header hn a0.Bits)) fun r14 => ?_
  refine tg_f (x := (vb (!r14))) (fun h15 => by simp only [gv_t h15]; exact bind_some_eq (d_not)) ?_
  refine tb (x := (vb ((!r4) || (!r14)))) (pick_or (fun h9 => gv_t (not_f h9))) ?_
  refine tcond (fun h19 => ?_) (fun h19 => ?_)
  · refine tb (x := (eV 1)) (p_mkE (by decide)) ?_
    exact rf_ret rfl
  · refine tb (x := (vi a0.Bits)) (rfl) ?_
    refine tb (x := (vi a0.Mask)) (rfl) ?_
    refine tb (x := (vi (bits .andNot .i64 a0.Bits a0.Mask))) (d_andNot) ?_
    refine tb (x := (vb (decide ((bits .andNot .i64 a0.Bits a0.Mask) ≠ 0)))) (d_neq) ?_
    refine tcond (fun h25 => ?_) (fun h25 => ?_)
    · refine tb (x := (eV 3)) (p_mkE (by decide)) ?_
      exact rf_ret rfl
    · exact rf_ret rfl

/-! railpoint/rule.Check -/
def an_rule_Check : Ann := .seq (.reg 0 [] [] []) (.seq (.seq (.reg 0 [] [] []) (.cond none (.seq (.reg 0 [] [] []) (.no)) (.no))) (.seq (.seq (.reg 0 [] [] []) (.seq (.reg 0 [] [] []) (.cond none (.seq (.reg 0 [] [] []) (.no)) (.no)))) (.seq (.seq (.reg 0 [] [] []) (.cond none (.seq (.reg 0 [] [] []) (.no)) (.no))) (.seq (.reg 0 [] [] []) (.no)))))
noncomputable def sem_rule_Check (n : Nat) (xs : List V) : Option V := if xs.length ≤ 58 then denF Tryd.prog (envOf [(73, (sem_cube_Header n)), (166, (sem_cube_Check n))]) n Tryd.f127 an_rule_Check xs else none
theorem ok_rule_Check (n : Nat) : SemOk Tryd.prog DW 127 (sem_rule_Check n) := fun xs y h => by
  unfold sem_rule_Check at h
  split at h
  · rename_i hl
    exact denF_ok stb Tryd.func127 (by kernel_rfl) (envOf_ok (semsOk_cons (ok_cube_Header n) (semsOk_cons (ok_cube_Check n) semsOk_nil))) (by rw [Tryd.ntmps127]; exact hl) h
  · cases h
theorem eq_rule_Check (n : Nat) (x0 : V) : sem_rule_Check n [x0] =
 (V.cellsO x0).bind fun v1 =>
 (ldk none (List.drop 0 v1)).bind fun v2 =>
 (bin2 Tryd.prog BinOp.lss 3 (ot 5) (oc 0) v2 (vi 0)).bind fun v3 =>
 (guardV v3 false (some V.any)).bind fun v4 =>
 (guardV v3 false ((gate v3 false (ldk none (List.drop 0 v1))).bind fun v5 =>
 some v5)).bind fun v6 =>
 (guardV v3 false ((bin2 Tryd.prog BinOp.gtr 3 (ot 9) (oc 99) v6 (vi 99)).bind fun v7 =>
 some v7)).bind fun v8 =>
 (pickV v3 (vb true) v8).bind fun v9 =>
 (guardV v9 false (some V.any)).bind fun v10 =>
 (guardV v9 false ((gate v9 false (ldk none (List.drop 3 v1))).bind fun v11 =>
 some v11)).bind fun v12 =>
 (guardV v9 false ((bin2 Tryd.prog BinOp.lss 3 (ot 14) (oc 0) v12 (vi 0)).bind fun v13 =>
 some v13)).bind fun v14 =>
 (pickV v9 (vb true) v14).bind fun v15 =>
 (guardV v15 false (some V.any)).bind fun v16 =>
 (guardV v15 false ((gate v15 false (ldk none (List.drop 3 v1))).bind fun v17 =>
 some v17)).bind fun v18 =>
 (guardV v15 false ((bin2 Tryd.prog BinOp.gtr 3 (ot 19) (oc 4) v18 (vi 4)).bind fun v19 =>
 some v19)).bind fun v20 =>
 (pickV v15 (vb true) v20).bind fun v21 =>
 (guardV v21 false (some V.any)).bind fun v22 =>
 (guardV v21 false ((gate v21 false (ldk none (List.drop 4 v1))).bind fun v23 =>
 some v23)).bind fun v24 =>
 (guardV v21 false (((sem_cube_Header n) [v24]).bind fun v25 =>
 some v25)).bind fun v26 =>
 (guardV v21 false ((scal1 Tryd.prog (Op.unary Go.UnOp.not) v26).bind fun v27 =>
 some v27)).bind fun v28 =>
 (pickV v21 (vb true) v28).bind fun v29 =>
 (guardV v29 false (some V.any)).bind fun v30 =>
 (guardV v29 false ((gate v29 false (ldk none (List.drop 5 v1))).bind fun v31 =>
 some v31)).bind fun v32 =>
 (guardV v29 false (((sem_cube_Header n) [v32]).bind fun v33 =>
 some v33)).bind fun v34 =>
 (guardV v29 false ((scal1 Tryd.prog (Op.unary Go.UnOp.not) v34).bind fun v35 =>
 some v35)).bind fun v36 =>
 (pickV v29 (vb true) v36).bind fun v37 =>
 condV v37 (
 (scal1 Tryd.prog (Instr.makeInterface 143) (vi 1)).bind fun v38 =>
 some v38) (
 (ldk (some 2) (List.drop 1 v1)).bind fun v39 =>
 ((sem_cube_Check n) [v39]).bind fun v40 =>
 (bin2 Tryd.prog BinOp.neq 35 (ot 38) (Operand.const Go.Value.nilIface) v40 vn).bind fun v41 =>
 condV v41 (
 some v40) (
 (ldk none (List.drop 5 v1)).bind fun v42 =>
 (ldk none (List.drop 4 v1)).bind fun v43 =>
 (bin2 Tryd.prog BinOp.andNot 3 (ot 42) (ot 44) v42 v43).bind fun v44 =>
 (bin2 Tryd.prog BinOp.neq 3 (ot 45) (oc 0) v44 (vi 0)).bind fun v45 =>
 (guardV v45 false (some V.any)).bind fun v46 =>
 (guardV v45 false ((gate v45 false (ldk none (List.drop 3 v1))).bind fun v47 =>
 some v47)).bind fun v48 =>
 (guardV v45 false ((bin2 Tryd.prog BinOp.eql 3 (ot 49) (oc 0) v48 (vi 0)).bind fun v49 =>
 some v49)).bind fun v50 =>
 (guardV v45 false (some v50)).bind fun v51 =>
 (guardV v51 true (some V.any)).bind fun v52 =>
 (guardV v51 true ((gate v51 true (ldk none (List.drop 4 v1))).bind fun v53 =>
 some v53)).bind fun v54 =>
 (guardV v51 true ((bin2 Tryd.prog BinOp.neq 3 (ot 53) (oc 0) v54 (vi 0)).bind fun v55 =>
 some v55)).bind fun v56 =>
 (guardV v45 false ((pickV v51 v56 (vb false)).bind fun v57 =>
 some v57)).bind fun v58 =>
 (pickV v45 (vb true) v58).bind fun v59 =>
 condV v59 (
 (scal1 Tryd.prog (Instr.makeInterface 143) (vi 3)).bind fun v60 =>
 some v60) (
 some vn))) := by kernel_rfl
noncomputable def t_rule_Check (a0 : T_Rule) : Option Int :=
 (gd (!((((decide (a0.Prio < 0)) || (decide (99 < a0.Prio))) || (decide (a0.Out < 0))) || (decide (4 < a0.Out)))) default (t_cube_Header a0.Set)).bind fun r39 =>
 (gd (!(((((decide (a0.Prio < 0)) || (decide (99 < a0.Prio))) || (decide (a0.Out < 0))) || (decide (4 < a0.Out))) || (!r39))) default (t_cube_Header a0.Value)).bind fun r52 =>
 if ((((((decide (a0.Prio < 0)) || (decide (99 < a0.Prio))) || (decide (a0.Out < 0))) || (decide (4 < a0.Out))) || (!r39)) || (!r52)) = true then (
 some 1) else (
 (t_cube_Check a0.Cube).bind fun r61 =>
 if (!decide (r61 = 0)) = true then (
 some r61) else (
 if ((decide ((bits .andNot .i64 a0.Value a0.Set) ≠ 0)) || ((decide (a0.Out = 0)) && (decide (a0.Set ≠ 0)))) = true then (
 some 3) else (
 some 0)))
theorem ty_rule_Check {n : Nat} (hn : bigN ≤ n) (a0 : T_Rule) : Rv (fun x : Int => (eV x)) (sem_rule_Check n [(T_Rule.e a0)]) (t_rule_Check a0) := by
  rw [eq_rule_Check]
  unfold t_rule_Check
  refine tb (x := (T_Rule.c a0)) rfl ?_
  refine tb (x := (vi a0.Prio)) (rfl) ?_
  refine tb (x := (vb (decide (a0.Prio < 0)))) (d_lss) ?_
  refine tg_f (x := V.any) (fun h4 => rfl) ?_
  refine tg_f (x := (vi a0.Prio)) (fun h6 => bind_some_eq (gate_pos (not_t h6) (rfl))) ?_
  refine tg_f (x := (vb (decide (99 < a0.Prio)))) (fun h9 => by simp only [gv_t h9]; exact bind_some_eq (d_gtr)) ?_
  refine tb (x := (vb ((decide (a0.Prio < 0)) || (decide (99 < a0.Prio))))) (pick_or (fun h9 => gv_t (not_f h9))) ?_
  refine tg_f (x := V.any) (fun h13 => rfl) ?_
  refine tg_f (x := (vi a0.Out)) (fun h15 => bind_some_eq (gate_pos (not_t h15) (rfl))) ?_
  refine tg_f (x := (vb (decide (a0.Out < 0)))) (fun h18 => by simp only [gv_t h18]; exact bind_some_eq (d_lss)) ?_
  refine tb (x := (vb (((decide (a0.Prio < 0)) || (decide (99 < a0.Prio))) || (decide (a0.Out < 0))))) (pick_or (fun h9 => gv_t (not_f h9))) ?_
  refine tg_f (x := V.any) (fun h22 => rfl) ?_
  refine tg_f (x := (vi a0.Out)) (fun h24 => bind_some_eq (gate_pos (not_t h24) (rfl))) ?_
  refine tg_f (x := (vb (decide (4 < a0.Out)))) (fun h27 => by simp only [gv_t h27]; exact bind_some_eq (d_gtr)) ?_
  refine tb (x := (vb ((((decide (a0.Prio < 0)) || (decide (99 < a0.Prio))) || (decide (a0.Out < 0))) || (decide (4 < a0.Out))))) (pick_or (fun h9 => gv_t (not_f h9))) ?_
  refine tg_f (x := V.any) (fun h31 => rfl) ?_
  refine tg_f (x := (vi a0.Set)) (fun h33 => bind_some_eq (gate_pos (not_t h33) (rfl))) ?_
  refine tgo_f (fun h36 => by simp only [gv_t h36]; exact rf_bind_some (ty_cube_Header hn a0.Set)) fun r39 => ?_
  refine tg_f (x := (vb (!r39))) (fun h40 => by simp only [gv_t h40]; exact bind_some_eq (d_not)) ?_
  refine tb (x := (vb (((((decide (a0.Prio < 0)) || (decide (99 < a0.Prio))) || (decide (a0.Out < 0))) || (decide (4 < a0.Out))) || (!r39)))) (pick_or (fun h9 => gv_t (not_f h9))) ?_
  refine tg_f (x := V.any) (fun h44 => rfl) ?_
  refine tg_f (x := (vi a0.Value)) (fun h46 => bind_some_eq (gate_pos (not_t h46) (rfl))) ?_
  refine tgo_f (fun h49 => by simp only [gv_t h49]; exact rf_bind_some (ty_cube_Header hn a0.Value)) fun r52 => ?_
  refine tg_f (x := (vb (!r52))) (fun h53 => by simp only [gv_t h53]; exact bind_some_eq (d_not)) ?_
  refine tb (x := (vb ((((((decide (a0.Prio < 0)) || (decide (99 < a0.Prio))) || (decide (a0.Out < 0))) || (decide (4 < a0.Out))) || (!r39)) || (!r52)))) (pick_or (fun h9 => gv_t (not_f h9))) ?_
  refine tcond (fun h57 => ?_) (fun h57 => ?_)
  · refine tb (x := (eV 1)) (p_mkE (by decide)) ?_
    exact rf_ret rfl
  · refine tb (x := (T_Cube.e a0.Cube)) (rfl) ?_
    refine tbo (ty_cube_Check hn a0.Cube) fun r61 => ?_
    refine tb (x := (vb (!decide (r61 = 0)))) (p_err_neq _) ?_
    refine tcond (fun h63 => ?_) (fun h63 => ?_)
    · exact rf_ret rfl
    · refine tb (x := (vi a0.Value)) (rfl) ?_
      refine tb (x := (vi a0.Set)) (rfl) ?_
      refine tb (x := (vi (bits .andNot .i64 a0.Value a0.Set))) (d_andNot) ?_
      refine tb (x := (vb (decide ((bits .andNot .i64 a0.Value a0.Set) ≠ 0)))) (d_neq) ?_
      refine tg_f (x := V.any) (fun h68 => rfl) ?_
      refine tg_f (x := (vi a0.Out)) (fun h70 => bind_some_eq (gate_pos (not_t h70) (rfl))) ?_
      refine tg_f (x := (vb (decide (a0.Out = 0)))) (fun h73 => by simp only [gv_t h73]; exact bind_some_eq (d_eql)) ?_
      refine tg_f (x := (vb (decide (a0.Out = 0)))) (fun h76 => congrArg some (gv_t h76)) ?_
      refine tg2 (x := V.any) (fun h78 => rfl) ?_
      refine tg2 (x := (vi a0.Set)) (fun h80 => bind_some_eq (gate_pos2 (and_l h80) (and_r h80) (rfl))) ?_
      refine tg2 (x := (vb (decide (a0.Set ≠ 0)))) (fun h83 => by simp only [gv_t h83]; exact bind_some_eq (d_neq)) ?_
      refine tg_f (x := (vb ((decide (a0.Out = 0)) && (decide (a0.Set ≠ 0))))) (fun h86 => by simp only [gv_t h86]; exact bind_some_eq (pick_and (fun h9 => gv_t (and_i h86 h9)))) ?_
      refine tb (x := (vb ((decide ((bits .andNot .i64 a0.Value a0.Set) ≠ 0)) || ((decide (a0.Out = 0)) && (decide (a0.Set ≠ 0)))))) (pick_or (fun h9 => gv_t (not_f h9))) ?_
      refine tcond (fun h90 => ?_) (fun h90 => ?_)
      · refine tb (x := (eV 3)) (p_mkE (by decide)) ?_
        exact rf_ret rfl
      · exact rf_ret rfl

/-! slices.IndexFunc railpoint/api.Table railpoint/api.Rule  -/
def an_slices_IndexFunc_api_Table_api_Rule : Ann := .seq (.reg 0 [] [] []) (.seq (.seq (.reg 0 [] [] []) (.blk (some []) (.loop [.s 8] (.seq (.reg 0 [] [] []) (.seq (.cond none (.no) (.no)) (.seq (.blk none (.seq (.reg 0 [] [] []) (.seq (.reg 0 [] [] []) (.cond none (.seq (.reg 0 [] [] []) (.no)) (.no))))) (.reg 0 [] [] []))))))) (.seq (.reg 0 [] [] []) (.no)))
noncomputable def sem_slices_IndexFunc_api_Table_api_Rule (E : FuncId → List V → Option V) (n : Nat) (xs : List V) : Option V := if xs.length ≤ 19 then denF Tryd.prog (envJ [] E) n Tryd.f167 an_slices_IndexFunc_api_Table_api_Rule xs else none
theorem ok_slices_IndexFunc_api_Table_api_Rule {E : FuncId → List V → Option V} (hE : EnvOk Tryd.prog DW E) (n : Nat) : SemOk Tryd.prog DW 167 (sem_slices_IndexFunc_api_Table_api_Rule E n) := fun xs y h => by
  unfold sem_slices_IndexFunc_api_Table_api_Rule at h
  split at h
  · rename_i hl
    exact denF_ok stb Tryd.func167 (by kernel_rfl) (envJ_ok semsOk_nil hE) (by rw [Tryd.ntmps167]; exact hl) h
  · cases h
theorem eq_slices_IndexFunc_api_Table_api_Rule (E : FuncId → List V → Option V) (n : Nat) (x0 x1 : V) : sem_slices_IndexFunc_api_Table_api_Rule E n [x0, x1] =
 (lenS [x0]).bind fun v1 =>
 JoinPt (fun vs2 =>
 some (vi (-1 : Int))) fun J3 =>
 (fixN (fun rec4 vs5 =>
 (bin2 Tryd.prog BinOp.lss 3 (ot 8) (ot 7) (List.getD vs5 0 V.any) v1).bind fun v6 =>
 condV v6 (
 (idxS 6 x0 (List.getD vs5 0 V.any)).bind fun v7 =>
 (ldp (some 6) v7).bind fun v8 =>
 (callV (envJ [] E) x1 [v8]).bind fun v9 =>
 condV v9 (
 some (List.getD vs5 0 V.any)) (
 (bin2 Tryd.prog BinOp.add 3 (ot 8) (oc 1) (List.getD vs5 0 V.any) (vi 1)).bind fun v10 =>
 rec4 [v10])) (
 J3 [])) n) [(vi 0)] := by kernel_rfl
noncomputable def t_slices_IndexFunc_api_Table_api_Rule (a0 : (List T_Rule)) (g1 : T_Rule → Option Bool) : Option Int :=
 join (fun (s4 : Unit) =>
 some (-1 : Int)) fun j5 =>
 loopI a0 (fun (i13 : Int) x14 (s9 : Unit) k10 =>
 (g1 x14).bind fun r22 =>
 if r22 = true then (
 some i13) else (
 k10 ())) (fun (s9 : Unit) =>
 j5 ()) ()
theorem ty_slices_IndexFunc_api_Table_api_Rule {E : FuncId → List V → Option V} {n : Nat} (hn : bigN ≤ n) (a0 : (List T_Rule)) {x1 : V} {g1 : T_Rule → Option Bool} (hg_g1 : ∀ a0, Rv (fun x : Bool => (vb x)) (callV E x1 [(T_Rule.e a0)]) (g1 a0)) : Rv (fun x : Int => (vi x)) (sem_slices_IndexFunc_api_Table_api_Rule E n [(V.sl (List.map T_Rule.c a0)), x1]) (t_slices_IndexFunc_api_Table_api_Rule a0 g1) := by
  rw [eq_slices_IndexFunc_api_Table_api_Rule]
  unfold t_slices_IndexFunc_api_Table_api_Rule
  refine tb (x := (vi (List.length a0 : Int))) (p_len _) ?_
  refine tjoin (mk := fun s4 : Unit => []) (fun s4 => ?_) fun J3 j5 h6 => ?_
  · exact rf_ret rfl
  · refine rf_loopI (mk := fun (i13 : Int) (s9 : Unit) => [(vi (i13 : Int))]) hn a0 () (fun i13 x14 h15 h16 h17 s9 rec7 k10 h11 => ?_) (fun s9 rec26 h25 => ?_)
    · refine tb (x := (vb (decide ((i13 : Int) < (List.length a0 : Int))))) (d_lss) ?_
      refine tcond_t h17 ?_
      refine tb (x := (V.ptr (T_Rule.c x14))) (p_idx_at (c := T_Rule.c) (fun _ => rfl) h15) ?_
      refine tb (x := (T_Rule.e x14)) (rfl) ?_
      refine tbo ((callV_J0 ▸ hg_g1 x14)) fun r22 => ?_
      refine tcond (fun h23 => ?_) (fun h23 => ?_)
      · exact rf_ret rfl
      · refine tb (x := (vi ((i13 : Int) + 1))) (p_incN h16) ?_
        exact h11 ()
    · refine tb (x := (vb (decide ((List.length a0 : Int) < (List.length a0 : Int))))) (d_lss) ?_
      refine tcond_f h25 ?_
      exact h6 ()

/-! slices.ContainsFunc railpoint/api.Table railpoint/api.Rule  -/
def an_slices_ContainsFunc_api_Table_api_Rule : Ann := .seq (.reg 0 [] [] []) (.seq (.reg 0 [] [] []) (.no))
noncomputable def sem_slices_ContainsFunc_api_Table_api_Rule (E : FuncId → List V → Option V) (n : Nat) (xs : List V) : Option V := if xs.length ≤ 9 then denF Tryd.prog (envJ [(167, (sem_slices_IndexFunc_api_Table_api_Rule E n))] E) n Tryd.f128 an_slices_ContainsFunc_api_Table_api_Rule xs else none
theorem ok_slices_ContainsFunc_api_Table_api_Rule {E : FuncId → List V → Option V} (hE : EnvOk Tryd.prog DW E) (n : Nat) : SemOk Tryd.prog DW 128 (sem_slices_ContainsFunc_api_Table_api_Rule E n) := fun xs y h => by
  unfold sem_slices_ContainsFunc_api_Table_api_Rule at h
  split at h
  · rename_i hl
    exact denF_ok stb Tryd.func128 (by kernel_rfl) (envJ_ok (semsOk_cons (ok_slices_IndexFunc_api_Table_api_Rule hE n) semsOk_nil) hE) (by rw [Tryd.ntmps128]; exact hl) h
  · cases h
theorem eq_slices_ContainsFunc_api_Table_api_Rule (E : FuncId → List V → Option V) (n : Nat) (x0 x1 : V) : sem_slices_ContainsFunc_api_Table_api_Rule E n [x0, x1] =
 ((sem_slices_IndexFunc_api_Table_api_Rule E n) [x0, x1]).bind fun v1 =>
 (bin2 Tryd.prog BinOp.geq 3 (ot 7) (oc 0) v1 (vi 0)).bind fun v2 =>
 some v2 := by kernel_rfl
noncomputable def t_slices_ContainsFunc_api_Table_api_Rule (a0 : (List T_Rule)) (g1 : T_Rule → Option Bool) : Option Bool :=
 (t_slices_IndexFunc_api_Table_api_Rule a0 g1).bind fun r2 =>
 some (decide (0 ≤ r2))
theorem ty_slices_ContainsFunc_api_Table_api_Rule {E : FuncId → List V → Option V} {n : Nat} (hn : bigN ≤ n) (a0 : (List T_Rule)) {x1 : V} {g1 : T_Rule → Option Bool} (hg_g1 : ∀ a0, Rv (fun x : Bool => (vb x)) (callV E x1 [(T_Rule.e a0)]) (g1 a0)) : Rv (fun x : Bool => (vb x)) (sem_slices_ContainsFunc_api_Table_api_Rule E n [(V.sl (List.map T_Rule.c a0)), x1]) (t_slices_ContainsFunc_api_Table_api_Rule a0 g1) := by
  rw [eq_slices_ContainsFunc_api_Table_api_Rule]
  unfold t_slices_ContainsFunc_api_Table_api_Rule
  refine tbo (ty_slices_IndexFunc_api_Table_api_Rule (E := E) (x1 := x1) (g1 := g1) hn a0 hg_g1) fun r2 => ?_
  refine tb (x := (vb (decide (0 ≤ r2)))) (d_geq) ?_
  exact rf_ret rfl

/-! railpoint/rule.Key -/
def an_rule_Key : Ann := .seq (.reg 0 [] [] []) (.seq (.reg 0 [] [] []) (.no))
noncomputable def sem_rule_Key (n : Nat) (xs : List V) : Option V := if xs.length ≤ 17 then denF Tryd.prog (envOf []) n Tryd.f130 an_rule_Key xs else none
theorem ok_rule_Key (n : Nat) : SemOk Tryd.prog DW 130 (sem_rule_Key n) := fun xs y h => by
  unfold sem_rule_Key at h
  split at h
  · rename_i hl
    exact denF_ok stb Tryd.func130 (by kernel_rfl) (envOf_ok semsOk_nil) (by rw [Tryd.ntmps130]; exact hl) h
  · cases h
theorem eq_rule_Key (n : Nat) (x0 x1 : V) : sem_rule_Key n [x0, x1] =
 (V.cellsO x0).bind fun v1 =>
 (V.cellsO x1).bind fun v2 =>
 (ldk none (List.drop 0 v1)).bind fun v3 =>
 (ldk none (List.drop 0 v2)).bind fun v4 =>
 (bin2 Tryd.prog BinOp.eql 3 (ot 6) (ot 8) v3 v4).bind fun v5 =>
 (guardV v5 true (some V.any)).bind fun v6 =>
 (guardV v5 true ((gate v5 true (ldk (some 2) (List.drop 1 v1))).bind fun v7 =>
 some v7)).bind fun v8 =>
 (guardV v5 true (some V.any)).bind fun v9 =>
 (guardV v5 true ((gate v5 true (ldk (some 2) (List.drop 1 v2))).bind fun v10 =>
 some v10)).bind fun v11 =>
 (guardV v5 true ((bin2 Tryd.prog BinOp.eql 58 (ot 12) (ot 14) v8 v11).bind fun v12 =>
 some v12)).bind fun v13 =>
 (pickV v5 v13 (vb false)).bind fun v14 =>
 some v14 := by kernel_rfl
noncomputable def t_rule_Key (a0 : T_Rule) (a1 : T_Rule) : Option Bool :=
 some ((decide (a0.Prio = a1.Prio)) && (decide (a0.Cube = a1.Cube)))
theorem ty_rule_Key {n : Nat} (hn : bigN ≤ n) (a0 : T_Rule) (a1 : T_Rule) : Rv (fun x : Bool => (vb x)) (sem_rule_Key n [(T_Rule.e a0), (T_Rule.e a1)]) (t_rule_Key a0 a1) := by
  rw [eq_rule_Key]
  unfold t_rule_Key
  refine tb (x := (T_Rule.c a0)) rfl ?_
  refine tb (x := (T_Rule.c a1)) rfl ?_
  refine tb (x := (vi a0.Prio)) (rfl) ?_
  refine tb (x := (vi a1.Prio)) (rfl) ?_
  refine tb (x := (vb (decide (a0.Prio = a1.Prio)))) (d_eql) ?_
  refine tg (x := V.any) (fun h6 => rfl) ?_
  refine tg (x := (T_Cube.e a0.Cube)) (fun h8 => bind_some_eq (gate_pos h8 (rfl))) ?_
  refine tg (x := V.any) (fun h11 => rfl) ?_
  refine tg (x := (T_Cube.e a1.Cube)) (fun h13 => bind_some_eq (gate_pos h13 (rfl))) ?_
  refine tg (x := (vb (decide (a0.Cube = a1.Cube)))) (fun h16 => by simp only [gv_t h16]; exact bind_some_eq (T_Cube.eql a0.Cube a1.Cube)) ?_
  refine tb (x := (vb ((decide (a0.Prio = a1.Prio)) && (decide (a0.Cube = a1.Cube))))) (pick_and (fun h9 => gv_t h9)) ?_
  exact rf_ret rfl

/-! railpoint/rule.Table$1 -/
def an_rule_Table_1 : Ann := .seq (.reg 0 [] [] []) (.seq (.reg 0 [] [] []) (.no))
noncomputable def sem_rule_Table_1 (n : Nat) (xs : List V) : Option V := if xs.length ≤ 7 then denF Tryd.prog (envOf [(130, (sem_rule_Key n))]) n Tryd.f129 an_rule_Table_1 xs else none
theorem ok_rule_Table_1 (n : Nat) : SemOk Tryd.prog DW 129 (sem_rule_Table_1 n) := fun xs y h => by
  unfold sem_rule_Table_1 at h
  split at h
  · rename_i hl
    exact denF_ok stb Tryd.func129 (by kernel_rfl) (envOf_ok (semsOk_cons (ok_rule_Key n) semsOk_nil)) (by rw [Tryd.ntmps129]; exact hl) h
  · cases h
theorem eq_rule_Table_1 (n : Nat) (x0 x1 : V) : sem_rule_Table_1 n [x0, x1] =
 (V.cellsO x0).bind fun v1 =>
 (ldk (some 6) (List.drop 0 v1)).bind fun v2 =>
 (ldp (some 6) x1).bind fun v3 =>
 ((sem_rule_Key n) [v2, v3]).bind fun v4 =>
 some v4 := by kernel_rfl
noncomputable def t_rule_Table_1 (a0 : T_Rule) (a1 : T_Rule) : Option Bool :=
 (t_rule_Key a0 a1).bind fun r5 =>
 some r5
theorem ty_rule_Table_1 {n : Nat} (hn : bigN ≤ n) (a0 : T_Rule) (a1 : T_Rule) : Rv (fun x : Bool => (vb x)) (sem_rule_Table_1 n [(T_Rule.e a0), (V.ptr (T_Rule.c a1))]) (t_rule_Table_1 a0 a1) := by
  rw [eq_rule_Table_1]
  unfold t_rule_Table_1
  refine tb (x := (T_Rule.c a0)) rfl ?_
  refine tb (x := (T_Rule.e a0)) (rfl) ?_
  refine tb (x := (T_Rule.e a1)) (rfl) ?_
  refine tbo (ty_rule_Key hn a0 a1) fun r5 => ?_
  exact rf_ret rfl

/-! railpoint/rule.Table -/
def an_rule_Table : Ann := .seq (.reg 0 [] [] []) (.seq (.seq (.reg 0 [] [] []) (.cond none (.seq (.reg 0 [] [] []) (.no)) (.no))) (.seq (.seq (.reg 0 [] [] []) (.blk (some []) (.loop [.s 12] (.seq (.reg 0 [] [] []) (.seq (.cond none (.no) (.no)) (.seq (.blk none (.seq (.reg 0 [] [] []) (.seq (.seq (.reg 0 [4] [] []) (.seq (.reg 0 [] [] []) (.cond none (.seq (.reg 0 [] [] []) (.no)) (.no)))) (.seq (.reg 0 [] [] []) (.cond none (.seq (.reg 0 [] [] []) (.no)) (.no)))))) (.reg 0 [] [] []))))))) (.seq (.reg 0 [] [] []) (.no))))
noncomputable def sem_rule_Table (n : Nat) (xs : List V) : Option V := if xs.length ≤ 29 then denF Tryd.prog (envOf [(127, (sem_rule_Check n)), (128, (sem_slices_ContainsFunc_api_Table_api_Rule (envOf [(129, (sem_rule_Table_1 n))]) n)), (129, (sem_rule_Table_1 n))]) n Tryd.f70 an_rule_Table xs else none
theorem ok_rule_Table (n : Nat) : SemOk Tryd.prog DW 70 (sem_rule_Table n) := fun xs y h => by
  unfold sem_rule_Table at h
  split at h
  · rename_i hl
    exact denF_ok stb Tryd.func70 (by kernel_rfl) (envOf_ok (semsOk_cons (ok_rule_Check n) (semsOk_cons (ok_slices_ContainsFunc_api_Table_api_Rule (envOf_ok (semsOk_cons (ok_rule_Table_1 n) semsOk_nil)) n) (semsOk_cons (ok_rule_Table_1 n) semsOk_nil)))) (by rw [Tryd.ntmps70]; exact hl) h
  · cases h
theorem eq_rule_Table (n : Nat) (x0 : V) : sem_rule_Table n [x0] =
 (lenS [x0]).bind fun v1 =>
 (bin2 Tryd.prog BinOp.gtr 3 (ot 7) (oc 12) v1 (vi 12)).bind fun v2 =>
 condV v2 (
 (scal1 Tryd.prog (Instr.makeInterface 143) (vi 4)).bind fun v3 =>
 some v3) (
 (lenS [x0]).bind fun v4 =>
 JoinPt (fun vs5 =>
 some vn) fun J6 =>
 (fixN (fun rec7 vs8 =>
 (bin2 Tryd.prog BinOp.lss 3 (ot 12) (ot 11) (List.getD vs8 0 V.any) v4).bind fun v9 =>
 condV v9 (
 (idxS 6 x0 (List.getD vs8 0 V.any)).bind fun v10 =>
 (ldp (some 6) v10).bind fun v11 =>
 (spliceV [(vi 0), (vi 0), (vi 0), (vi 0), (vi 0), (vi 0)] 0 6 v11).bind fun v12 =>
 (ldp (some 6) (V.ptr (aggL v12))).bind fun v13 =>
 ((sem_rule_Check n) [v13]).bind fun v14 =>
 (bin2 Tryd.prog BinOp.neq 35 (ot 19) (Operand.const Go.Value.nilIface) v14 vn).bind fun v15 =>
 condV v15 (
 some v14) (
 (slc (some 6) x0 none (some (List.getD vs8 0 V.any))).bind fun v16 =>
 ((sem_slices_ContainsFunc_api_Table_api_Rule (envOf [(129, (sem_rule_Table_1 n))]) n) [v16, (V.fn 129 [(V.ptr (aggL v12))])]).bind fun v17 =>
 condV v17 (
 (scal1 Tryd.prog (Instr.makeInterface 143) (vi 7)).bind fun v18 =>
 some v18) (
 (bin2 Tryd.prog BinOp.add 3 (ot 12) (oc 1) (List.getD vs8 0 V.any) (vi 1)).bind fun v19 =>
 rec7 [v19]))) (
 J6 [])) n) [(vi 0)]) := by kernel_rfl
noncomputable def t_rule_Table (a0 : (List T_Rule)) : Option Int :=
 if (decide (12 < (List.length a0 : Int))) = true then (
 some 4) else (
 join (fun (s8 : Unit) =>
 some 0) fun j9 =>
 loopI a0 (fun (i17 : Int) x18 (s13 : Unit) k14 =>
 (t_rule_Check x18).bind fun r28 =>
 if (!decide (r28 = 0)) = true then (
 some r28) else (
 (slc_hi a0 i17).bind fun r32 =>
 (t_slices_ContainsFunc_api_Table_api_Rule r32 (fun (a33 : T_Rule) => t_rule_Table_1 a33 x18)).bind fun r35 =>
 if r35 = true then (
 some 7) else (
 k14 ()))) (fun (s13 : Unit) =>
 j9 ()) ())
theorem ty_rule_Table {n : Nat} (hn : bigN ≤ n) (a0 : (List T_Rule)) : Rv (fun x : Int => (eV x)) (sem_rule_Table n [(V.sl (List.map T_Rule.c a0))]) (t_rule_Table a0) := by
  rw [eq_rule_Table]
  unfold t_rule_Table
  refine tb (x := (vi (List.length a0 : Int))) (p_len _) ?_
  refine tb (x := (vb (decide (12 < (List.length a0 : Int))))) (d_gtr) ?_
  refine tcond (fun h3 => ?_) (fun h3 => ?_)
  · refine tb (x := (eV 4)) (p_mkE (by decide)) ?_
    exact rf_ret rfl
  · refine tb (x := (vi (List.length a0 : Int))) (p_len _) ?_
    refine tjoin (mk := fun s8 : Unit => []) (fun s8 => ?_) fun J7 j9 h10 => ?_
    · exact rf_ret rfl
    · refine rf_loopI (mk := fun (i17 : Int) (s13 : Unit) => [(vi (i17 : Int))]) hn a0 () (fun i17 x18 h19 h20 h21 s13 rec11 k14 h15 => ?_) (fun s13 rec40 h39 => ?_)
      · refine tb (x := (vb (decide ((i17 : Int) < (List.length a0 : Int))))) (d_lss) ?_
        refine tcond_t h21 ?_
        refine tb (x := (V.ptr (T_Rule.c x18))) (p_idx_at (c := T_Rule.c) (fun _ => rfl) h19) ?_
        refine tb (x := (T_Rule.e x18)) (rfl) ?_
        refine tb (x := V.agg (T_Rule.c x18)) (by kernel_rfl) ?_
        refine tb (x := (T_Rule.e x18)) (rfl) ?_
        refine tbo (ty_rule_Check hn x18) fun r28 => ?_
        refine tb (x := (vb (!decide (r28 = 0)))) (p_err_neq _) ?_
        refine tcond (fun h30 => ?_) (fun h30 => ?_)
        · exact rf_ret rfl
        · refine tbo (p_slc_hi (c := T_Rule.c) (fun _ => rfl) a0 (i17 : Int)) fun r32 => ?_
          refine tbo (ty_slices_ContainsFunc_api_Table_api_Rule (E := (envOf [(129, (sem_rule_Table_1 n))])) (x1 := (V.fn 129 [(V.ptr (T_Rule.c x18))])) (g1 := (fun (a33 : T_Rule) => t_rule_Table_1 a33 x18)) hn r32 (fun a33 => ty_rule_Table_1 hn a33 x18)) fun r35 => ?_
          refine tcond (fun h36 => ?_) (fun h36 => ?_)
          · refine tb (x := (eV 7)) (p_mkE (by decide)) ?_
            exact rf_ret rfl
          · refine tb (x := (vi ((i17 : Int) + 1))) (p_incN h20) ?_
            exact h15 ()
      · refine tb (x := (vb (decide ((List.length a0 : Int) < (List.length a0 : Int))))) (d_lss) ?_
        refine tcond_f h39 ?_
        exact h10 ()

/-! slices.IndexFunc     int   int  -/
def an_slices_IndexFunc_int_int : Ann := .seq (.reg 0 [] [] []) (.seq (.seq (.reg 0 [] [] []) (.blk (some []) (.loop [.s 8] (.seq (.reg 0 [] [] []) (.seq (.cond none (.no) (.no)) (.seq (.blk none (.seq (.reg 0 [] [] []) (.seq (.reg 0 [] [] []) (.cond none (.seq (.reg 0 [] [] []) (.no)) (.no))))) (.reg 0 [] [] []))))))) (.seq (.reg 0 [] [] []) (.no)))
noncomputable def sem_slices_IndexFunc_int_int (E : FuncId → List V → Option V) (n : Nat) (xs : List V) : Option V := if xs.length ≤ 19 then denF Tryd.prog (envJ [] E) n Tryd.f131 an_slices_IndexFunc_int_int xs else none
theorem ok_slices_IndexFunc_int_int {E : FuncId → List V → Option V} (hE : EnvOk Tryd.prog DW E) (n : Nat) : SemOk Tryd.prog DW 131 (sem_slices_IndexFunc_int_int E n) := fun xs y h => by
  unfold sem_slices_IndexFunc_int_int at h
  split at h
  · rename_i hl
    exact denF_ok stb Tryd.func131 (by kernel_rfl) (envJ_ok semsOk_nil hE) (by rw [Tryd.ntmps131]; exact hl) h
  · cases h
theorem eq_slices_IndexFunc_int_int (E : FuncId → List V → Option V) (n : Nat) (x0 x1 : V) : sem_slices_IndexFunc_int_int E n [x0, x1] =
 (lenS [x0]).bind fun v1 =>
 JoinPt (fun vs2 =>
 some (vi (-1 : Int))) fun J3 =>
 (fixN (fun rec4 vs5 =>
 (bin2 Tryd.prog BinOp.lss 3 (ot 8) (ot 7) (List.getD vs5 0 V.any) v1).bind fun v6 =>
 condV v6 (
 (idxS 1 x0 (List.getD vs5 0 V.any)).bind fun v7 =>
 (ldp none v7).bind fun v8 =>
 (callV (envJ [] E) x1 [v8]).bind fun v9 =>
 condV v9 (
 some (List.getD vs5 0 V.any)) (
 (bin2 Tryd.prog BinOp.add 3 (ot 8) (oc 1) (List.getD vs5 0 V.any) (vi 1)).bind fun v10 =>
 rec4 [v10])) (
 J3 [])) n) [(vi 0)] := by kernel_rfl
noncomputable def t_slices_IndexFunc_int_int (a0 : (List (List Int))) (g1 : (List Int) → Option Bool) : Option Int :=
 join (fun (s4 : Unit) =>
 some (-1 : Int)) fun j5 =>
 loopI a0 (fun (i13 : Int) x14 (s9 : Unit) k10 =>
 (g1 x14).bind fun r22 =>
 if r22 = true then (
 some i13) else (
 k10 ())) (fun (s9 : Unit) =>
 j5 ()) ()
theorem ty_slices_IndexFunc_int_int {E : FuncId → List V → Option V} {n : Nat} (hn : bigN ≤ n) (a0 : (List (List Int))) {x1 : V} {g1 : (List Int) → Option Bool} (hg_g1 : ∀ a0, Rv (fun x : Bool => (vb x)) (callV E x1 [(V.sl (List.map cI a0))]) (g1 a0)) : Rv (fun x : Int => (vi x)) (sem_slices_IndexFunc_int_int E n [(V.sl (List.map (cS cI) a0)), x1]) (t_slices_IndexFunc_int_int a0 g1) := by
  rw [eq_slices_IndexFunc_int_int]
  unfold t_slices_IndexFunc_int_int
  refine tb (x := (vi (List.length a0 : Int))) (p_len _) ?_
  refine tjoin (mk := fun s4 : Unit => []) (fun s4 => ?_) fun J3 j5 h6 => ?_
  · exact rf_ret rfl
  · refine rf_loopI (mk := fun (i13 : Int) (s9 : Unit) => [(vi (i13 : Int))]) hn a0 () (fun i13 x14 h15 h16 h17 s9 rec7 k10 h11 => ?_) (fun s9 rec26 h25 => ?_)
    · refine tb (x := (vb (decide ((i13 : Int) < (List.length a0 : Int))))) (d_lss) ?_
      refine tcond_t h17 ?_
      refine tb (x := (V.ptr [(V.sl (List.map cI x14))])) (p_idx_at (c := (cS cI)) (fun _ => rfl) h15) ?_
      refine tb (x := (V.sl (List.map cI x14))) (rfl) ?_
      refine tbo ((callV_J0 ▸ hg_g1 x14)) fun r22 => ?_
      refine tcond (fun h23 => ?_) (fun h23 => ?_)
      · exact rf_ret rfl
      · refine tb (x := (vi ((i13 : Int) + 1))) (p_incN h16) ?_
        exact h11 ()
    · refine tb (x := (vb (decide ((List.length a0 : Int) < (List.length a0 : Int))))) (d_lss) ?_
      refine tcond_f h25 ?_
      exact h6 ()

/-! cmp.isNaN int  -/
def an_cmp_isNaN_int : Ann := .seq (.reg 0 [] [] []) (.seq (.reg 0 [] [] []) (.no))
noncomputable def sem_cmp_isNaN_int (n : Nat) (xs : List V) : Option V := if xs.length ≤ 6 then denF Tryd.prog (envOf []) n Tryd.f196 an_cmp_isNaN_int xs else none
theorem ok_cmp_isNaN_int (n : Nat) : SemOk Tryd.prog DW 196 (sem_cmp_isNaN_int n) := fun xs y h => by
  unfold sem_cmp_isNaN_int at h
  split at h
  · rename_i hl
    exact denF_ok stb Tryd.func196 (by kernel_rfl) (envOf_ok semsOk_nil) (by rw [Tryd.ntmps196]; exact hl) h
  · cases h
theorem eq_cmp_isNaN_int (n : Nat) (x0 : V) : sem_cmp_isNaN_int n [x0] =
 (bin2 Tryd.prog BinOp.neq 3 (ot 3) (ot 4) x0 x0).bind fun v1 =>
 some v1 := by kernel_rfl
noncomputable def t_cmp_isNaN_int (a0 : Int) : Option Bool :=
 some (decide (a0 ≠ a0))
theorem ty_cmp_isNaN_int {n : Nat} (hn : bigN ≤ n) (a0 : Int) : Rv (fun x : Bool => (vb x)) (sem_cmp_isNaN_int n [(vi a0)]) (t_cmp_isNaN_int a0) := by
  rw [eq_cmp_isNaN_int]
  unfold t_cmp_isNaN_int
  refine tb (x := (vb (decide (a0 ≠ a0)))) (d_neq) ?_
  exact rf_ret rfl

/-! cmp.Compare int  -/
def an_cmp_Compare_int : Ann := .seq (.reg 0 [] [] []) (.seq (.reg 0 [] [] []) (.seq (.reg 0 [] [] []) (.seq (.seq (.reg 0 [] [] []) (.cond none (.seq (.seq (.reg 0 [] [] []) (.cond none (.seq (.reg 0 [] [] []) (.no)) (.no))) (.seq (.reg 0 [] [] []) (.no))) (.no))) (.seq (.seq (.reg 0 [] [] []) (.cond none (.seq (.reg 0 [] [] []) (.no)) (.no))) (.seq (.seq (.reg 0 [] [] []) (.cond none (.seq (.reg 0 [] [] []) (.no)) (.no))) (.seq (.seq (.reg 0 [] [] []) (.cond none (.seq (.reg 0 [] [] []) (.no)) (.no))) (.seq (.reg 0 [] [] []) (.no))))))))
noncomputable def sem_cmp_Compare_int (n : Nat) (xs : List V) : Option V := if xs.length ≤ 20 then denF Tryd.prog (envOf [(196, (sem_cmp_isNaN_int n))]) n Tryd.f186 an_cmp_Compare_int xs else none
theorem ok_cmp_Compare_int (n : Nat) : SemOk Tryd.prog DW 186 (sem_cmp_Compare_int n) := fun xs y h => by
  unfold sem_cmp_Compare_int at h
  split at h
  · rename_i hl
    exact denF_ok stb Tryd.func186 (by kernel_rfl) (envOf_ok (semsOk_cons (ok_cmp_isNaN_int n) semsOk_nil)) (by rw [Tryd.ntmps186]; exact hl) h
  · cases h
theorem eq_cmp_Compare_int (n : Nat) (x0 x1 : V) : sem_cmp_Compare_int n [x0, x1] =
 ((sem_cmp_isNaN_int n) [x0]).bind fun v1 =>
 ((sem_cmp_isNaN_int n) [x1]).bind fun v2 =>
 condV v1 (
 condV v2 (
 some (vi 0)) (
 some (vi (-1 : Int)))) (
 condV v2 (
 some (vi 1)) (
 (bin2 Tryd.prog BinOp.lss 3 (ot 14) (ot 15) x0 x1).bind fun v3 =>
 condV v3 (
 some (vi (-1 : Int))) (
 (bin2 Tryd.prog BinOp.gtr 3 (ot 17) (ot 18) x0 x1).bind fun v4 =>
 condV v4 (
 some (vi 1)) (
 some (vi 0))))) := by kernel_rfl
noncomputable def t_cmp_Compare_int (a0 : Int) (a1 : Int) : Option Int :=
 (t_cmp_isNaN_int a0).bind fun r2 =>
 (t_cmp_isNaN_int a1).bind fun r4 =>
 if r2 = true then (
 if r4 = true then (
 some 0) else (
 some (-1 : Int))) else (
 if r4 = true then (
 some 1) else (
 if (decide (a0 < a1)) = true then (
 some (-1 : Int)) else (
 if (decide (a1 < a0)) = true then (
 some 1) else (
 some 0))))
theorem ty_cmp_Compare_int {n : Nat} (hn : bigN ≤ n) (a0 : Int) (a1 : Int) : Rv (fun x : Int => (vi x)) (sem_cmp_Compare_int n [(vi a0), (vi a1)]) (t_cmp_Compare_int a0 a1) := by
  rw [eq_cmp_Compare_int]
  unfold t_cmp_Compare_int
  refine tbo (ty_cmp_isNaN_int hn a0) fun r2 => ?_
  refine tbo (ty_cmp_isNaN_int hn a1) fun r4 => ?_
  refine tcond (fun h5 => ?_) (fun h5 => ?_)
  · refine tcond (fun h6 => ?_) (fun h6 => ?_)
    · exact rf_ret rfl
    · exact rf_ret rfl
  · refine tcond (fun h7 => ?_) (fun h7 => ?_)
    · exact rf_ret rfl
    · refine tb (x := (vb (decide (a0 < a1)))) (d_lss) ?_
      refine tcond (fun h9 => ?_) (fun h9 => ?_)
      · exact rf_ret rfl
      · refine tb (x := (vb (decide (a1 < a0)))) (d_gtr) ?_
        refine tcond (fun h11 => ?_) (fun h11 => ?_)
        · exact rf_ret rfl
        · exact rf_ret rfl

/-! cmp.Or int  -/
def an_cmp_Or_int : Ann := .seq (.reg 0 [] [] []) (.seq (.reg 0 [] [] []) (.seq (.seq (.reg 0 [] [] []) (.blk (some []) (.loop [.s 8] (.seq (.reg 0 [] [] []) (.seq (.cond none (.no) (.no)) (.seq (.blk none (.seq (.reg 0 [] [] []) (.seq (.reg 0 [] [] []) (.cond none (.seq (.reg 0 [] [] []) (.no)) (.no))))) (.reg 0 [] [] []))))))) (.seq (.reg 0 [] [] []) (.no))))
noncomputable def sem_cmp_Or_int (n : Nat) (xs : List V) : Option V := if xs.length ≤ 18 then denF Tryd.prog (envOf []) n Tryd.f185 an_cmp_Or_int xs else none
theorem ok_cmp_Or_int (n : Nat) : SemOk Tryd.prog DW 185 (sem_cmp_Or_int n) := fun xs y h => by
  unfold sem_cmp_Or_int at h
  split at h
  · rename_i hl
    exact denF_ok stb Tryd.func185 (by kernel_rfl) (envOf_ok semsOk_nil) (by rw [Tryd.ntmps185]; exact hl) h
  · cases h
theorem eq_cmp_Or_int (n : Nat) (x0 : V) : sem_cmp_Or_int n [x0] =
 (lenS [x0]).bind fun v1 =>
 JoinPt (fun vs2 =>
 some (vi 0)) fun J3 =>
 (fixN (fun rec4 vs5 =>
 (bin2 Tryd.prog BinOp.lss 3 (ot 8) (ot 7) (List.getD vs5 0 V.any) v1).bind fun v6 =>
 condV v6 (
 (idxS 1 x0 (List.getD vs5 0 V.any)).bind fun v7 =>
 (ldp none v7).bind fun v8 =>
 (bin2 Tryd.prog BinOp.neq 3 (ot 12) (ot 13) v8 (vi 0)).bind fun v9 =>
 condV v9 (
 some v8) (
 (bin2 Tryd.prog BinOp.add 3 (ot 8) (oc 1) (List.getD vs5 0 V.any) (vi 1)).bind fun v10 =>
 rec4 [v10])) (
 J3 [])) n) [(vi 0)] := by kernel_rfl
noncomputable def t_cmp_Or_int (a0 : (List Int)) : Option Int :=
 join (fun (s4 : Unit) =>
 some 0) fun j5 =>
 loopI a0 (fun (i13 : Int) x14 (s9 : Unit) k10 =>
 if (decide (x14 ≠ 0)) = true then (
 some x14) else (
 k10 ())) (fun (s9 : Unit) =>
 j5 ()) ()
theorem ty_cmp_Or_int {n : Nat} (hn : bigN ≤ n) (a0 : (List Int)) : Rv (fun x : Int => (vi x)) (sem_cmp_Or_int n [(V.sl (List.map cI a0))]) (t_cmp_Or_int a0) := by
  rw [eq_cmp_Or_int]
  unfold t_cmp_Or_int
  refine tb (x := (vi (List.length a0 : Int))) (p_len _) ?_
  refine tjoin (mk := fun s4 : Unit => []) (fun s4 => ?_) fun J3 j5 h6 => ?_
  · exact rf_ret rfl
  · refine rf_loopI (mk := fun (i13 : Int) (s9 : Unit) => [(vi (i13 : Int))]) hn a0 () (fun i13 x14 h15 h16 h17 s9 rec7 k10 h11 => ?_) (fun s9 rec25 h24 => ?_)
    · refine tb (x := (vb (decide ((i13 : Int) < (List.length a0 : Int))))) (d_lss) ?_
      refine tcond_t h17 ?_
      refine tb (x := (V.ptr [(vi x14)])) (p_idx_at (c := cI) (fun _ => rfl) h15) ?_
      refine tb (x := (vi x14)) (rfl) ?_
      refine tb (x := (vb (decide (x14 ≠ 0)))) (d_neq) ?_
      refine tcond (fun h22 => ?_) (fun h22 => ?_)
      · exact rf_ret rfl
      · refine tb (x := (vi ((i13 : Int) + 1))) (p_incN h16) ?_
        exact h11 ()
    · refine tb (x := (vb (decide ((List.length a0 : Int) < (List.length a0 : Int))))) (d_lss) ?_
      refine tcond_f h24 ?_
      exact h6 ()

/-! railpoint/rule.above -/
def an_rule_above : Ann := .seq (.reg 0 [] [] []) (.seq (.reg 22 [] [] []) (.no))
noncomputable def sem_rule_above (n : Nat) (xs : List V) : Option V := if xs.length ≤ 26 then denF Tryd.prog (envOf [(186, (sem_cmp_Compare_int n)), (185, (sem_cmp_Or_int n))]) n Tryd.f172 an_rule_above xs else none
theorem ok_rule_above (n : Nat) : SemOk Tryd.prog DW 172 (sem_rule_above n) := fun xs y h => by
  unfold sem_rule_above at h
  split at h
  · rename_i hl
    exact denF_ok stb Tryd.func172 (by kernel_rfl) (envOf_ok (semsOk_cons (ok_cmp_Compare_int n) (semsOk_cons (ok_cmp_Or_int n) semsOk_nil))) (by rw [Tryd.ntmps172]; exact hl) h
  · cases h
theorem eq_rule_above (n : Nat) (x0 x1 : V) : sem_rule_above n [x0, x1] =
 (V.cellsO x0).bind fun v1 =>
 (V.cellsO x1).bind fun v2 =>
 (ldk none (List.drop 0 v1)).bind fun v3 =>
 (ldk none (List.drop 0 v2)).bind fun v4 =>
 ((sem_cmp_Compare_int n) [v3, v4]).bind fun v5 =>
 (ldk none (List.drop 1 v1)).bind fun v6 =>
 (ldk none (List.drop 1 v2)).bind fun v7 =>
 ((sem_cmp_Compare_int n) [v6, v7]).bind fun v8 =>
 (ldk none (List.drop 2 v1)).bind fun v9 =>
 (ldk none (List.drop 2 v2)).bind fun v10 =>
 ((sem_cmp_Compare_int n) [v9, v10]).bind fun v11 =>
 (slcB 1 3 [(vi 0)] [(0, v5), (1, v8), (2, v11)]).bind fun v12 =>
 ((sem_cmp_Or_int n) [v12]).bind fun v13 =>
 some v13 := by kernel_rfl
noncomputable def t_rule_above (a0 : T_Rule) (a1 : T_Rule) : Option Int :=
 (t_cmp_Compare_int a0.Prio a1.Prio).bind fun r6 =>
 (t_cmp_Compare_int a0.Cube.Mask a1.Cube.Mask).bind fun r10 =>
 (t_cmp_Compare_int a0.Cube.Bits a1.Cube.Bits).bind fun r14 =>
 (t_cmp_Or_int ([r6, r10, r14] : (List Int))).bind fun r17 =>
 some r17
theorem ty_rule_above {n : Nat} (hn : bigN ≤ n) (a0 : T_Rule) (a1 : T_Rule) : Rv (fun x : Int => (vi x)) (sem_rule_above n [(T_Rule.e a0), (T_Rule.e a1)]) (t_rule_above a0 a1) := by
  rw [eq_rule_above]
  unfold t_rule_above
  refine tb (x := (T_Rule.c a0)) rfl ?_
  refine tb (x := (T_Rule.c a1)) rfl ?_
  refine tb (x := (vi a0.Prio)) (rfl) ?_
  refine tb (x := (vi a1.Prio)) (rfl) ?_
  refine tbo (ty_cmp_Compare_int hn a0.Prio a1.Prio) fun r6 => ?_
  refine tb (x := (vi a0.Cube.Mask)) (rfl) ?_
  refine tb (x := (vi a1.Cube.Mask)) (rfl) ?_
  refine tbo (ty_cmp_Compare_int hn a0.Cube.Mask a1.Cube.Mask) fun r10 => ?_
  refine tb (x := (vi a0.Cube.Bits)) (rfl) ?_
  refine tb (x := (vi a1.Cube.Bits)) (rfl) ?_
  refine tbo (ty_cmp_Compare_int hn a0.Cube.Bits a1.Cube.Bits) fun r14 => ?_
  refine tb (x := (V.sl (List.map cI ([r6, r10, r14] : (List Int))))) (by kernel_rfl) ?_
  refine tbo (ty_cmp_Or_int hn ([r6, r10, r14] : (List Int))) fun r17 => ?_
  exact rf_ret rfl

/-! railpoint/rule.Find -/
def an_rule_Find : Ann := .seq (.reg 0 [] [] []) (.seq (.reg 0 [] [] []) (.seq (.seq (.reg 0 [] [] []) (.blk (some [.s 5]) (.loop [.s 5, .s 10] (.seq (.reg 0 [] [] []) (.seq (.cond none (.no) (.no)) (.seq (.blk none (.seq (.reg 0 [] [] []) (.seq (.reg 22 [] [] []) (.cond (some [.s 5]) (.reg 0 [] [] []) (.no))))) (.reg 0 [] [] []))))))) (.seq (.reg 0 [] [] []) (.no))))
noncomputable def sem_rule_Find (n : Nat) (xs : List V) : Option V := if xs.length ≤ 40 then denF Tryd.prog (envOf [(172, (sem_rule_above n))]) n Tryd.f135 an_rule_Find xs else none
theorem ok_rule_Find (n : Nat) : SemOk Tryd.prog DW 135 (sem_rule_Find n) := fun xs y h => by
  unfold sem_rule_Find at h
  split at h
  · rename_i hl
    exact denF_ok stb Tryd.func135 (by kernel_rfl) (envOf_ok (semsOk_cons (ok_rule_above n) semsOk_nil)) (by rw [Tryd.ntmps135]; exact hl) h
  · cases h
theorem eq_rule_Find (n : Nat) (x0 x1 : V) : sem_rule_Find n [x0, x1] =
 (lenS [x0]).bind fun v1 =>
 JoinPt (fun vs2 =>
 some (List.getD vs2 0 V.any)) fun J3 =>
 (fixN (fun rec4 vs5 =>
 (bin2 Tryd.prog BinOp.lss 3 (ot 10) (ot 9) (List.getD vs5 1 V.any) v1).bind fun v6 =>
 condV v6 (
 (idxS 6 x0 (List.getD vs5 1 V.any)).bind fun v7 =>
 (ldp (some 6) v7).bind fun v8 =>
 (spliceV [(vi 0), (vi 0), (vi 0), (vi 0), (vi 0), (vi 0)] 0 6 v8).bind fun v9 =>
 (ldk none (List.drop 1 (aggL v9))).bind fun v10 =>
 (bin2 Tryd.prog BinOp.and 3 (ot 15) (ot 18) x1 v10).bind fun v11 =>
 (ldk none (List.drop 2 (aggL v9))).bind fun v12 =>
 (bin2 Tryd.prog BinOp.eql 3 (ot 19) (ot 22) v11 v12).bind fun v13 =>
 (guardV v13 true (some (List.getD vs5 0 V.any))).bind fun v14 =>
 (guardV v13 true ((bin2 Tryd.prog BinOp.lss 3 (ot 25) (oc 0) v14 (vi 0)).bind fun v15 =>
 some v15)).bind fun v16 =>
 (guardV v13 true (some v16)).bind fun v17 =>
 (guardV v17 false ((ldk (some 6) (List.drop 0 (aggL v9))).bind fun v18 =>
 some v18)).bind fun v19 =>
 (guardV v17 false (some x0)).bind fun v20 =>
 (guardV v17 false (some (List.getD vs5 0 V.any))).bind fun v21 =>
 (guardV v17 false ((idxS 6 v20 v21).bind fun v22 =>
 some v22)).bind fun v23 =>
 (guardV v17 false ((ldp (some 6) v23).bind fun v24 =>
 some v24)).bind fun v25 =>
 (guardV v17 false (((sem_rule_above n) [v19, v25]).bind fun v26 =>
 some v26)).bind fun v27 =>
 (guardV v17 false ((bin2 Tryd.prog BinOp.gtr 3 (ot 33) (oc 0) v27 (vi 0)).bind fun v28 =>
 some v28)).bind fun v29 =>
 (guardV v13 true ((pickV v17 (vb true) v29).bind fun v30 =>
 some v30)).bind fun v31 =>
 (pickV v13 v31 (vb false)).bind fun v32 =>
 JoinPt (fun vs33 =>
 (bin2 Tryd.prog BinOp.add 3 (ot 10) (oc 1) (List.getD vs5 1 V.any) (vi 1)).bind fun v35 =>
 rec4 [(List.getD vs33 0 V.any), v35]) fun J34 =>
 condV v32 (
 J34 [(List.getD vs5 1 V.any)]) (
 J34 [(List.getD vs5 0 V.any)])) (
 J3 [(List.getD vs5 0 V.any)])) n) [(vi (-1 : Int)), (vi 0)] := by kernel_rfl
noncomputable def t_rule_Find (a0 : (List T_Rule)) (a1 : Int) : Option Int :=
 (loopI a0 (fun (i13 : Int) x14 (s9 : Int) k10 =>
 (gd ((decide ((bits .and .i64 a1 x14.Cube.Mask) = x14.Cube.Bits)) && (!(decide (s9 < 0)))) default (idx a0 s9)).bind fun r43 =>
 (gd ((decide ((bits .and .i64 a1 x14.Cube.Mask) = x14.Cube.Bits)) && (!(decide (s9 < 0)))) default (t_rule_above x14 r43)).bind fun r50 =>
 (if ((decide ((bits .and .i64 a1 x14.Cube.Mask) = x14.Cube.Bits)) && ((decide (s9 < 0)) || (decide (0 < r50)))) = true then (
 some i13) else (
 some (s9))).bind fun (s60 : Int) =>
 k10 (s60)) (fun (s9 : Int) =>
 some (s9)) (-1 : Int)).bind fun (s4 : Int) =>
 some s4
theorem ty_rule_Find {n : Nat} (hn : bigN ≤ n) (a0 : (List T_Rule)) (a1 : Int) : Rv (fun x : Int => (vi x)) (sem_rule_Find n [(V.sl (List.map T_Rule.c a0)), (vi a1)]) (t_rule_Find a0 a1) := by
  rw [eq_rule_Find]
  unfold t_rule_Find
  refine tb (x := (vi (List.length a0 : Int))) (p_len _) ?_
  refine tjb (mk := fun s4 : Int => [(vi s4)]) (fun J3 => ?_) fun s4 => ?_
  · refine rf_loopI (mk := fun (i13 : Int) (s9 : Int) => [(vi s9), (vi (i13 : Int))]) hn a0 (-1 : Int) (fun i13 x14 h15 h16 h17 s9 rec7 k10 h11 => ?_) (fun s9 rec66 h65 => ?_)
    · refine tb (x := (vb (decide ((i13 : Int) < (List.length a0 : Int))))) (d_lss) ?_
      refine tcond_t h17 ?_
      refine tb (x := (V.ptr (T_Rule.c x14))) (p_idx_at (c := T_Rule.c) (fun _ => rfl) h15) ?_
      refine tb (x := (T_Rule.e x14)) (rfl) ?_
      refine tb (x := V.agg (T_Rule.c x14)) (by kernel_rfl) ?_
      refine tb (x := (vi x14.Cube.Mask)) (rfl) ?_
      refine tb (x := (vi (bits .and .i64 a1 x14.Cube.Mask))) (d_and) ?_
      refine tb (x := (vi x14.Cube.Bits)) (rfl) ?_
      refine tb (x := (vb (decide ((bits .and .i64 a1 x14.Cube.Mask) = x14.Cube.Bits)))) (d_eql) ?_
      refine tg (x := (vi s9)) (fun h26 => rfl) ?_
      refine tg (x := (vb (decide (s9 < 0)))) (fun h28 => by simp only [gv_t h28]; exact bind_some_eq (d_lss)) ?_
      refine tg (x := (vb (decide (s9 < 0)))) (fun h31 => congrArg some (gv_t h31)) ?_
      refine tg2_f (x := (T_Rule.e x14)) (fun h33 => bind_some_eq (rfl)) ?_
      refine tg2_f (x := (V.sl (List.map T_Rule.c a0))) (fun h36 => rfl) ?_
      refine tg2_f (x := (vi s9)) (fun h38 => rfl) ?_
      refine tgo2_f (fun h40 => by simp only [gv_t h40]; exact rf_bind_some (p_idx (c := T_Rule.c) (fun _ => rfl) a0 s9)) fun r43 => ?_
      refine tg2_f (x := (T_Rule.e r43)) (fun h44 => by first | exact bind_some_eq (rfl) | (simp only [gv_t h44]; exact bind_some_eq (rfl))) ?_
      refine tgo2_f (fun h47 => by simp only [gv_t h47]; exact rf_bind_some (ty_rule_above hn x14 r43)) fun r50 => ?_
      refine tg2_f (x := (vb (decide (0 < r50)))) (fun h51 => by simp only [gv_t h51]; exact bind_some_eq (d_gtr)) ?_
      refine tg (x := (vb ((decide (s9 < 0)) || (decide (0 < r50))))) (fun h54 => by simp only [gv_t h54]; exact bind_some_eq (pick_or (fun h9 => gv_t (and_i h54 (not_f h9))))) ?_
      refine tb (x := (vb ((decide ((bits .and .i64 a1 x14.Cube.Mask) = x14.Cube.Bits)) && ((decide (s9 < 0)) || (decide (0 < r50)))))) (pick_and (fun h9 => gv_t h9)) ?_
      refine tjb (mk := fun s60 : Int => [(vi s60)]) (fun J59 => ?_) fun s60 => ?_
      · refine tcond (fun h64 => ?_) (fun h64 => ?_)
        · exact rf_j rfl
        · exact rf_j rfl
      · refine tb (x := (vi ((i13 : Int) + 1))) (p_incN h16) ?_
        exact h11 (s60)
    · refine tb (x := (vb (decide ((List.length a0 : Int) < (List.length a0 : Int))))) (d_lss) ?_
      refine tcond_f h65 ?_
      exact rf_j rfl
  · exact rf_ret rfl

/-! railpoint/class.path -/
def an_class_path : Ann := .seq (.reg 0 [] [] []) (.seq (.reg 0 [] [] []) (.seq (.seq (.reg 0 [] [] []) (.blk (some [.s 5]) (.loop [.r 5 3, .s 10] (.seq (.reg 0 [] [] []) (.seq (.cond none (.no) (.no)) (.seq (.blk none (.seq (.reg 0 [] [] []) (.reg 0 [] [] []))) (.reg 0 [] [] []))))))) (.seq (.reg 0 [] [] []) (.no))))
noncomputable def sem_class_path (n : Nat) (xs : List V) : Option V := if xs.length ≤ 22 then denF Tryd.prog (envOf [(135, (sem_rule_Find n))]) n Tryd.f74 an_class_path xs else none
theorem ok_class_path (n : Nat) : SemOk Tryd.prog DW 74 (sem_class_path n) := fun xs y h => by
  unfold sem_class_path at h
  split at h
  · rename_i hl
    exact denF_ok stb Tryd.func74 (by kernel_rfl) (envOf_ok (semsOk_cons (ok_rule_Find n) semsOk_nil)) (by rw [Tryd.ntmps74]; exact hl) h
  · cases h
theorem eq_class_path (n : Nat) (x0 x1 : V) : sem_class_path n [x0, x1] =
 (lenS [x0]).bind fun v1 =>
 JoinPt (fun vs2 =>
 some (List.getD vs2 0 V.any)) fun J3 =>
 (fixN (fun rec4 vs5 =>
 (bin2 Tryd.prog BinOp.lss 3 (ot 10) (ot 9) (List.getD vs5 1 V.any) v1).bind fun v6 =>
 condV v6 (
 (idxS 1 x0 (List.getD vs5 1 V.any)).bind fun v7 =>
 (ldp none v7).bind fun v8 =>
 ((sem_rule_Find n) [v8, x1]).bind fun v9 =>
 (slcB 1 1 [(vi 0)] [(0, v9)]).bind fun v10 =>
 (appV 1 (slL (List.getD vs5 0 V.any)) v10).bind fun v11 =>
 (bin2 Tryd.prog BinOp.add 3 (ot 10) (oc 1) (List.getD vs5 1 V.any) (vi 1)).bind fun v12 =>
 rec4 [(V.sl (slL v11)), v12]) (
 J3 [(V.sl (slL (List.getD vs5 0 V.any)))])) n) [(V.sl []), (vi 0)] := by kernel_rfl
noncomputable def t_class_path (a0 : (List (List T_Rule))) (a1 : Int) : Option (List Int) :=
 (loopI a0 (fun (i13 : Int) x14 (s9 : (List Int)) k10 =>
 (t_rule_Find x14 a1).bind fun r22 =>
 (app s9 ([r22] : (List Int))).bind fun r25 =>
 k10 (r25)) (fun (s9 : (List Int)) =>
 some (s9)) ([])).bind fun (s4 : (List Int)) =>
 some s4
theorem ty_class_path {n : Nat} (hn : bigN ≤ n) (a0 : (List (List T_Rule))) (a1 : Int) : Rv (fun x : (List Int) => (V.sl (List.map cI x))) (sem_class_path n [(V.sl (List.map (cS T_Rule.c) a0)), (vi a1)]) (t_class_path a0 a1) := by
  rw [eq_class_path]
  unfold t_class_path
  refine tb (x := (vi (List.length a0 : Int))) (p_len _) ?_
  refine tjb (mk := fun s4 : (List Int) => [(V.sl (List.map cI s4))]) (fun J3 => ?_) fun s4 => ?_
  · refine rf_loopI (mk := fun (i13 : Int) (s9 : (List Int)) => [(V.sl (List.map cI s9)), (vi (i13 : Int))]) hn a0 ([]) (fun i13 x14 h15 h16 h17 s9 rec7 k10 h11 => ?_) (fun s9 rec28 h27 => ?_)
    · refine tb (x := (vb (decide ((i13 : Int) < (List.length a0 : Int))))) (d_lss) ?_
      refine tcond_t h17 ?_
      refine tb (x := (V.ptr [(V.sl (List.map T_Rule.c x14))])) (p_idx_at (c := (cS T_Rule.c)) (fun _ => rfl) h15) ?_
      refine tb (x := (V.sl (List.map T_Rule.c x14))) (rfl) ?_
      refine tbo (ty_rule_Find hn x14 a1) fun r22 => ?_
      refine tb (x := (V.sl (List.map cI ([r22] : (List Int))))) (by kernel_rfl) ?_
      refine tbo (p_app (c := cI) (fun _ => rfl) s9 ([r22] : (List Int))) fun r25 => ?_
      refine tb (x := (vi ((i13 : Int) + 1))) (p_incN h16) ?_
      exact h11 (r25)
    · refine tb (x := (vb (decide ((List.length a0 : Int) < (List.length a0 : Int))))) (d_lss) ?_
      refine tcond_f h27 ?_
      exact rf_j rfl
  · exact rf_ret rfl

/-! slices.Equal   int int  -/
def an_slices_Equal_int_int : Ann := .seq (.reg 0 [] [] []) (.seq (.seq (.reg 0 [] [] []) (.cond none (.seq (.reg 0 [] [] []) (.no)) (.no))) (.seq (.seq (.reg 0 [] [] []) (.blk (some []) (.loop [.s 13] (.seq (.reg 0 [] [] []) (.seq (.cond none (.no) (.no)) (.seq (.blk none (.seq (.reg 0 [] [] []) (.seq (.reg 9 [] [] []) (.cond none (.seq (.reg 0 [] [] []) (.no)) (.no))))) (.reg 0 [] [] []))))))) (.seq (.reg 0 [] [] []) (.no))))
noncomputable def sem_slices_Equal_int_int (n : Nat) (xs : List V) : Option V := if xs.length ≤ 26 then denF Tryd.prog (envOf []) n Tryd.f133 an_slices_Equal_int_int xs else none
theorem ok_slices_Equal_int_int (n : Nat) : SemOk Tryd.prog DW 133 (sem_slices_Equal_int_int n) := fun xs y h => by
  unfold sem_slices_Equal_int_int at h
  split at h
  · rename_i hl
    exact denF_ok stb Tryd.func133 (by kernel_rfl) (envOf_ok semsOk_nil) (by rw [Tryd.ntmps133]; exact hl) h
  · cases h
theorem eq_slices_Equal_int_int (n : Nat) (x0 x1 : V) : sem_slices_Equal_int_int n [x0, x1] =
 (lenS [x0]).bind fun v1 =>
 (lenS [x1]).bind fun v2 =>
 (bin2 Tryd.prog BinOp.neq 3 (ot 7) (ot 9) v1 v2).bind fun v3 =>
 condV v3 (
 some (vb false)) (
 (lenS [x0]).bind fun v4 =>
 JoinPt (fun vs5 =>
 some (vb true)) fun J6 =>
 (fixN (fun rec7 vs8 =>
 (bin2 Tryd.prog BinOp.lss 3 (ot 13) (ot 12) (List.getD vs8 0 V.any) v4).bind fun v9 =>
 condV v9 (
 (idxS 1 x0 (List.getD vs8 0 V.any)).bind fun v10 =>
 (ldp none v10).bind fun v11 =>
 (idxS 1 x1 (List.getD vs8 0 V.any)).bind fun v12 =>
 (ldp none v12).bind fun v13 =>
 (bin2 Tryd.prog BinOp.neq 3 (ot 19) (ot 23) v11 v13).bind fun v14 =>
 condV v14 (
 some (vb false)) (
 (bin2 Tryd.prog BinOp.add 3 (ot 13) (oc 1) (List.getD vs8 0 V.any) (vi 1)).bind fun v15 =>
 rec7 [v15])) (
 J6 [])) n) [(vi 0)]) := by kernel_rfl
noncomputable def t_slices_Equal_int_int (a0 : (List Int)) (a1 : (List Int)) : Option Bool :=
 if (decide ((List.length a0 : Int) ≠ (List.length a1 : Int))) = true then (
 some false) else (
 join (fun (s8 : Unit) =>
 some true) fun j9 =>
 loopI a0 (fun (i17 : Int) x18 (s13 : Unit) k14 =>
 (idx a1 i17).bind fun r26 =>
 if (decide (x18 ≠ r26)) = true then (
 some false) else (
 k14 ())) (fun (s13 : Unit) =>
 j9 ()) ())
theorem ty_slices_Equal_int_int {n : Nat} (hn : bigN ≤ n) (a0 : (List Int)) (a1 : (List Int)) : Rv (fun x : Bool => (vb x)) (sem_slices_Equal_int_int n [(V.sl (List.map cI a0)), (V.sl (List.map cI a1))]) (t_slices_Equal_int_int a0 a1) := by
  rw [eq_slices_Equal_int_int]
  unfold t_slices_Equal_int_int
  refine tb (x := (vi (List.length a0 : Int))) (p_len _) ?_
  refine tb (x := (vi (List.length a1 : Int))) (p_len _) ?_
  refine tb (x := (vb (decide ((List.length a0 : Int) ≠ (List.length a1 : Int))))) (d_neq) ?_
  refine tcond (fun h4 => ?_) (fun h4 => ?_)
  · exact rf_ret rfl
  · refine tb (x := (vi (List.length a0 : Int))) (p_len _) ?_
    refine tjoin (mk := fun s8 : Unit => []) (fun s8 => ?_) fun J7 j9 h10 => ?_
    · exact rf_ret rfl
    · refine rf_loopI (mk := fun (i17 : Int) (s13 : Unit) => [(vi (i17 : Int))]) hn a0 () (fun i17 x18 h19 h20 h21 s13 rec11 k14 h15 => ?_) (fun s13 rec32 h31 => ?_)
      · refine tb (x := (vb (decide ((i17 : Int) < (List.length a0 : Int))))) (d_lss) ?_
        refine tcond_t h21 ?_
        refine tb (x := (V.ptr [(vi x18)])) (p_idx_at (c := cI) (fun _ => rfl) h19) ?_
        refine tb (x := (vi x18)) (rfl) ?_
        refine tbo (p_idx (c := cI) (fun _ => rfl) a1 (i17 : Int)) fun r26 => ?_
        refine tb (x := (vi r26)) (rfl) ?_
        refine tb (x := (vb (decide (x18 ≠ r26)))) (d_neq) ?_
        refine tcond (fun h29 => ?_) (fun h29 => ?_)
        · exact rf_ret rfl
        · refine tb (x := (vi ((i17 : Int) + 1))) (p_incN h20) ?_
          exact h15 ()
      · refine tb (x := (vb (decide ((List.length a0 : Int) < (List.length a0 : Int))))) (d_lss) ?_
        refine tcond_f h31 ?_
        exact h10 ()

/-! railpoint/class.classes$1 -/
def an_class_classes_1 : Ann := .seq (.reg 0 [] [] []) (.seq (.reg 10 [] [] []) (.no))
noncomputable def sem_class_classes_1 (n : Nat) (xs : List V) : Option V := if xs.length ≤ 14 then denF Tryd.prog (envOf [(74, (sem_class_path n)), (133, (sem_slices_Equal_int_int n))]) n Tryd.f132 an_class_classes_1 xs else none
theorem ok_class_classes_1 (n : Nat) : SemOk Tryd.prog DW 132 (sem_class_classes_1 n) := fun xs y h => by
  unfold sem_class_classes_1 at h
  split at h
  · rename_i hl
    exact denF_ok stb Tryd.func132 (by kernel_rfl) (envOf_ok (semsOk_cons (ok_class_path n) (semsOk_cons (ok_slices_Equal_int_int n) semsOk_nil))) (by rw [Tryd.ntmps132]; exact hl) h
  · cases h
theorem eq_class_classes_1 (n : Nat) (x0 x1 x2 : V) : sem_class_classes_1 n [x0, x1, x2] =
 (ldp none x1).bind fun v1 =>
 (idxS 1 x0 (vi 0)).bind fun v2 =>
 (ldp none v2).bind fun v3 =>
 ((sem_class_path n) [v1, v3]).bind fun v4 =>
 (ldp none x1).bind fun v5 =>
 (ldp none x2).bind fun v6 =>
 ((sem_class_path n) [v5, v6]).bind fun v7 =>
 ((sem_slices_Equal_int_int n) [v4, v7]).bind fun v8 =>
 some v8 := by kernel_rfl
noncomputable def t_class_classes_1 (a0 : (List Int)) (a1 : (List (List T_Rule))) (a2 : Int) : Option Bool :=
 (idx a0 0).bind fun r3 =>
 (t_class_path a1 r3).bind fun r6 =>
 (t_class_path a1 a2).bind fun r10 =>
 (t_slices_Equal_int_int r6 r10).bind fun r12 =>
 some r12
theorem ty_class_classes_1 {n : Nat} (hn : bigN ≤ n) (a0 : (List Int)) (a1 : (List (List T_Rule))) (a2 : Int) : Rv (fun x : Bool => (vb x)) (sem_class_classes_1 n [(V.sl (List.map cI a0)), (V.ptr [(V.sl (List.map (cS T_Rule.c) a1))]), (V.ptr [(vi a2)])]) (t_class_classes_1 a0 a1 a2) := by
  rw [eq_class_classes_1]
  unfold t_class_classes_1
  refine tb (x := (V.sl (List.map (cS T_Rule.c) a1))) (rfl) ?_
  refine tbo (p_idx (c := cI) (fun _ => rfl) a0 0) fun r3 => ?_
  refine tb (x := (vi r3)) (rfl) ?_
  refine tbo (ty_class_path hn a1 r3) fun r6 => ?_
  refine tb (x := (V.sl (List.map (cS T_Rule.c) a1))) (rfl) ?_
  refine tb (x := (vi a2)) (rfl) ?_
  refine tbo (ty_class_path hn a1 a2) fun r10 => ?_
  refine tbo (ty_slices_Equal_int_int hn r6 r10) fun r12 => ?_
  exact rf_ret rfl

/-! railpoint/class.classes -/
def an_class_classes : Ann := .seq (.reg 0 [] [] []) (.seq (.reg 0 [1] [] []) (.seq (.seq (.reg 0 [] [] []) (.blk (some [.n 3 1]) (.loop [.n 3 1, .s 6] (.seq (.reg 0 [] [] []) (.seq (.cond none (.no) (.no)) (.seq (.blk none (.seq (.reg 0 [] [] []) (.seq (.reg 0 [4] [] [2000011]) (.seq (.reg 0 [] [] []) (.cond (some [.n 3 1]) (.reg 0 [] [] [18, 1000016, 1000017]) (.reg 8 [] [] [24, 27])))))) (.reg 0 [] [] []))))))) (.seq (.reg 0 [3] [] []) (.no))))
noncomputable def sem_class_classes (n : Nat) (xs : List V) : Option V := if xs.length ≤ 31 then denF Tryd.prog (envOf [(131, (sem_slices_IndexFunc_int_int (envOf [(132, (sem_class_classes_1 n))]) n)), (132, (sem_class_classes_1 n))]) n Tryd.f71 an_class_classes xs else none
theorem ok_class_classes (n : Nat) : SemOk Tryd.prog DW 71 (sem_class_classes n) := fun xs y h => by
  unfold sem_class_classes at h
  split at h
  · rename_i hl
    exact denF_ok stb Tryd.func71 (by kernel_rfl) (envOf_ok (semsOk_cons (ok_slices_IndexFunc_int_int (envOf_ok (semsOk_cons (ok_class_classes_1 n) semsOk_nil)) n) (semsOk_cons (ok_class_classes_1 n) semsOk_nil))) (by rw [Tryd.ntmps71]; exact hl) h
  · cases h
theorem eq_class_classes (n : Nat) (x0 : V) : sem_class_classes n [x0] =
 (V.cellsO x0).bind fun v1 =>
 JoinPt (fun vs2 =>
 (some (frz (List.getD vs2 0 V.any))).bind fun v4 =>
 some v4) fun J3 =>
 (fixN (fun rec5 vs6 =>
 (bin2 Tryd.prog BinOp.lss 3 (ot 6) (oc 16) (List.getD vs6 1 V.any) (vi 16)).bind fun v7 =>
 condV v7 (
 (spliceV [(vi 0)] 0 1 (List.getD vs6 1 V.any)).bind fun v8 =>
 (some (frz (List.getD vs6 0 V.any))).bind fun v9 =>
 ((sem_slices_IndexFunc_int_int (envOf [(132, (sem_class_classes_1 n))]) n) [v9, (V.fn 132 [(V.ptr v1), (V.ptr (aggL v8))])]).bind fun v10 =>
 (litQ v10).bind fun v11 =>
 (bin2 Tryd.prog BinOp.lss 3 (ot 12) (oc 0) v11 (vi 0)).bind fun v12 =>
 JoinPt (fun vs13 =>
 (bin2 Tryd.prog BinOp.add 3 (ot 6) (oc 1) (List.getD vs6 1 V.any) (vi 1)).bind fun v15 =>
 rec5 [(List.getD vs13 0 V.any), v15]) fun J14 =>
 condV v12 (
 (ldp none (V.ptr (aggL v8))).bind fun v16 =>
 (V.cellsO v16).bind fun v17 =>
 (litS 1 v17).bind fun v18 =>
 (V.cellsO v18).bind fun v19 =>
 (litS 1 v19).bind fun v20 =>
 (appS 1 (List.getD vs6 0 V.any) v20).bind fun v21 =>
 J14 [v21]) (
 ((oslR (List.getD vs6 0 V.any)).bind fun rows22 => inB (List.length rows22) v11).bind fun v23 =>
 ((nodeL (List.getD vs6 0 V.any) (some (natOf v11)) 1).bind fun l24 => (l24[0]?).bind ownO).bind fun v25 =>
 (ldp none (V.ptr (aggL v8))).bind fun v26 =>
 (slcB 1 1 [(vi 0)] [(0, v26)]).bind fun v27 =>
 (getV (List.getD vs6 0 V.any) [(Stp.mk (some (natOf v11)) 0 1)]).bind fun v28 =>
 (modX (List.getD vs6 0 V.any) [] (Stp.mk (some (natOf v11)) 0 1) V.any).bind fun v29 =>
 (appS 1 v28 v27).bind fun v30 =>
 ((oslR v29).bind fun rows31 => inB (List.length rows31) v11).bind fun v32 =>
 (V.cellsO v30).bind fun v33 =>
 (setV v29 [] (Stp.mk (some (natOf v11)) 0 1) 1 v33).bind fun v34 =>
 J14 [v34])) (
 J3 [(List.getD vs6 0 V.any)])) n) [(V.osl 1 []), (vi 0)] := by kernel_rfl
noncomputable def t_class_classes (a0 : (List (List T_Rule))) : Option (List (List Int)) :=
 (loopU 0 16 (fun (i14 : Int) (s10 : (List (List Int))) k11 =>
 (t_slices_IndexFunc_int_int s10 (fun (a23 : (List Int)) => t_class_classes_1 a23 a0 i14)).bind fun r24 =>
 (if (decide (r24 < 0)) = true then (
 (oapp s10 ([([i14] : (List Int))] : (List (List Int)))).bind fun r37 =>
 some (r37)) else (
 need (decide (0 ≤ r24) && decide (r24 < (List.length s10 : Int))) (
 (idx s10 r24).bind fun r40 =>
 (idx s10 r24).bind fun r44 =>
 (oapp r44 ([i14] : (List Int))).bind fun r45 =>
 need (decide (0 ≤ r24) && decide (r24 < (List.length s10 : Int))) (
 (oset s10 r24 r45).bind fun r48 =>
 some (r48))))).bind fun (s29 : (List (List Int))) =>
 k11 (s29)) (fun (i14 : Int) (s10 : (List (List Int))) =>
 some (s10)) ([])).bind fun (s4 : (List (List Int))) =>
 some s4
theorem ty_class_classes {n : Nat} (hn : bigN ≤ n) (a0 : (List (List T_Rule))) : Rv (fun x : (List (List Int)) => (V.sl (List.map (cS cI) x))) (sem_class_classes n [(V.sl (List.map (cS T_Rule.c) a0))]) (t_class_classes a0) := by
  rw [eq_class_classes]
  unfold t_class_classes
  refine tb (x := [(V.sl (List.map (cS T_Rule.c) a0))]) rfl ?_
  refine tjb (mk := fun s4 : (List (List Int)) => [(V.osl 1 (List.map (fun x : (List Int) => [(V.osl 1 (List.map cI x))]) s4))]) (fun J3 => ?_) fun s4 => ?_
  · refine rf_loopU (mk := fun (i14 : Int) (s10 : (List (List Int))) => [(V.osl 1 (List.map (fun x : (List Int) => [(V.osl 1 (List.map cI x))]) s10)), (vi i14)]) hn _ _ ([]) (fun i14 h15 h16 h17 s10 rec8 k11 h12 => ?_) (fun i14 s10 rec19 h18 => ?_)
    · refine tb (x := (vb (decide (i14 < 16)))) (d_lss) ?_
      refine tcond_t h15 ?_
      refine tb (x := V.agg [(vi i14)]) (by kernel_rfl) ?_
      refine tb (x := (V.sl (List.map (cS cI) s10))) (p_frzS (c' := (cS cI)) (fun _ => (p_fzc (p_frzl (c' := cI) (fun _ => rfl) _) p_fz0)) s10) ?_
      refine tbo (ty_slices_IndexFunc_int_int (E := (envOf [(132, (sem_class_classes_1 n))])) (x1 := (V.fn 132 [(V.ptr [(V.sl (List.map (cS T_Rule.c) a0))]), (V.ptr [(vi i14)])])) (g1 := (fun (a23 : (List Int)) => t_class_classes_1 a23 a0 i14)) hn s10 (fun a23 => ty_class_classes_1 hn a23 a0 i14)) fun r24 => ?_
      refine tb (x := (vi r24)) rfl ?_
      refine tb (x := (vb (decide (r24 < 0)))) (d_lss) ?_
      refine tjb (mk := fun s29 : (List (List Int)) => [(V.osl 1 (List.map (fun x : (List Int) => [(V.osl 1 (List.map cI x))]) s29))]) (fun J28 => ?_) fun s29 => ?_
      · refine tcond (fun h33 => ?_) (fun h33 => ?_)
        · refine tb (x := (vi i14)) (rfl) ?_
          refine tb (x := cI i14) rfl ?_
          refine tb (x := (V.osl 1 (List.map cI ([i14] : (List Int))))) (by kernel_rfl) ?_
          refine tb (x := [(V.osl 1 (List.map cI ([i14] : (List Int))))]) rfl ?_
          refine tb (x := (V.osl 1 (List.map (fun x : (List Int) => [(V.osl 1 (List.map cI x))]) ([([i14] : (List Int))] : (List (List Int)))))) (by kernel_rfl) ?_
          refine tbo (p_oappO (c := (fun x : (List Int) => [(V.osl 1 (List.map cI x))])) (fun _ => rfl) s10 ([([i14] : (List Int))] : (List (List Int)))) fun r37 => ?_
          exact rf_j rfl
        · refine tneed (x := V.any) (fun h50 => p_inB s10 r24 h50) fun h50 => ?_
          refine tbo (p_onest (c := (fun x : (List Int) => [(V.osl 1 (List.map cI x))])) (fun _ => rfl) s10 r24) fun r40 => ?_
          refine tb (x := (vi i14)) (rfl) ?_
          refine tb (x := (V.sl (List.map cI ([i14] : (List Int))))) (by kernel_rfl) ?_
          refine p_take (c := (fun x : (List Int) => [(V.osl 1 (List.map cI x))])) (e1 := (fun x : (List Int) => (V.osl 1 (List.map cI x)))) (fun _ => rfl) s10 r24 fun r44 => ?_
          refine tbo (p_oapp (c := cI) (fun _ => rfl) r44 ([i14] : (List Int))) fun r45 => ?_
          refine tneed (x := V.any) (fun h49 => p_inBh (c := (fun x : (List Int) => [(V.osl 1 (List.map cI x))])) (k := 1) (j := 0) s10 r24 r24 h49) fun h49 => ?_
          refine tb (x := [(V.osl 1 (List.map cI r45))]) rfl ?_
          refine tbo (p_fill1 (c := (fun x : (List Int) => [(V.osl 1 (List.map cI x))])) (e1 := (fun x : (List Int) => (V.osl 1 (List.map cI x)))) (fun _ => rfl) s10 r24 r45) fun r48 => ?_
          exact rf_j rfl
      · refine tb (x := (vi (i14 + 1))) (p_inc h16 h17) ?_
        exact h12 (s29)
    · refine tb (x := (vb (decide (i14 < 16)))) (d_lss) ?_
      refine tcond_f h18 ?_
      exact rf_j rfl
  · refine tb (x := (V.sl (List.map (cS cI) s4))) (p_frzS (c' := (cS cI)) (fun _ => (p_fzc (p_frzl (c' := cI) (fun _ => rfl) _) p_fz0)) s4) ?_
    exact rf_ret rfl

/-! railpoint/class.Of -/
def an_class_Of : Ann := .seq (.reg 0 [] [] []) (.seq (.seq (.reg 0 [] [] []) (.seq (.reg 0 [] [] []) (.cond none (.seq (.reg 0 [] [] []) (.no)) (.no)))) (.seq (.reg 0 [] [] []) (.no)))
noncomputable def sem_class_Of (n : Nat) (xs : List V) : Option V := if xs.length ≤ 13 then denF Tryd.prog (envOf [(70, (sem_rule_Table n)), (71, (sem_class_classes n))]) n Tryd.f15 an_class_Of xs else none
theorem ok_class_Of (n : Nat) : SemOk Tryd.prog DW 15 (sem_class_Of n) := fun xs y h => by
  unfold sem_class_Of at h
  split at h
  · rename_i hl
    exact denF_ok stb Tryd.func15 (by kernel_rfl) (envOf_ok (semsOk_cons (ok_rule_Table n) (semsOk_cons (ok_class_classes n) semsOk_nil))) (by rw [Tryd.ntmps15]; exact hl) h
  · cases h
theorem eq_class_Of (n : Nat) (x0 : V) : sem_class_Of n [x0] =
 ((sem_rule_Table n) [x0]).bind fun v1 =>
 (bin2 Tryd.prog BinOp.neq 35 (ot 7) (Operand.const Go.Value.nilIface) v1 vn).bind fun v2 =>
 condV v2 (
 some (V.tup [(V.sl []), v1])) (
 (slcB 1 1 [(V.sl [])] [(0, x0)]).bind fun v3 =>
 ((sem_class_classes n) [v3]).bind fun v4 =>
 some (V.tup [v4, vn])) := by kernel_rfl
noncomputable def t_class_Of (a0 : (List T_Rule)) : Option ((List (List Int)) × Int) :=
 (t_rule_Table a0).bind fun r2 =>
 if (!decide (r2 = 0)) = true then (
 some ([], r2)) else (
 (t_class_classes ([a0] : (List (List T_Rule)))).bind fun r7 =>
 some (r7, 0))
theorem ty_class_Of {n : Nat} (hn : bigN ≤ n) (a0 : (List T_Rule)) : Rv (fun x : ((List (List Int)) × Int) => V.tup [(V.sl (List.map (cS cI) x.1)), (eV x.2)]) (sem_class_Of n [(V.sl (List.map T_Rule.c a0))]) (t_class_Of a0) := by
  rw [eq_class_Of]
  unfold t_class_Of
  refine tbo (ty_rule_Table hn a0) fun r2 => ?_
  refine tb (x := (vb (!decide (r2 = 0)))) (p_err_neq _) ?_
  refine tcond (fun h4 => ?_) (fun h4 => ?_)
  · exact rf_ret rfl
  · refine tb (x := (V.sl (List.map (cS T_Rule.c) ([a0] : (List (List T_Rule)))))) (by kernel_rfl) ?_
    refine tbo (ty_class_classes hn ([a0] : (List (List T_Rule)))) fun r7 => ?_
    exact rf_ret rfl

/-! railpoint/railsame.Ints -/
def an_railsame_Ints : Ann := .seq (.reg 0 [] [] []) (.seq (.seq (.reg 0 [] [] []) (.cond none (.seq (.reg 0 [] [] []) (.no)) (.no))) (.seq (.seq (.reg 0 [] [] []) (.blk (some []) (.loop [.s 5] (.seq (.seq (.reg 0 [] [] []) (.cond none (.no) (.no))) (.seq (.blk none (.seq (.reg 9 [] [] []) (.cond none (.seq (.reg 0 [] [] []) (.no)) (.no)))) (.reg 0 [] [] [])))))) (.seq (.reg 0 [] [] []) (.no))))
noncomputable def sem_railsame_Ints (n : Nat) (xs : List V) : Option V := if xs.length ≤ 26 then denF Tryd.prog (envOf []) n Tryd.f23 an_railsame_Ints xs else none
theorem ok_railsame_Ints (n : Nat) : SemOk Tryd.prog DW 23 (sem_railsame_Ints n) := fun xs y h => by
  unfold sem_railsame_Ints at h
  split at h
  · rename_i hl
    exact denF_ok stb Tryd.func23 (by kernel_rfl) (envOf_ok semsOk_nil) (by rw [Tryd.ntmps23]; exact hl) h
  · cases h
theorem eq_railsame_Ints (n : Nat) (x0 x1 : V) : sem_railsame_Ints n [x0, x1] =
 (lenS [x0]).bind fun v1 =>
 (lenS [x1]).bind fun v2 =>
 (bin2 Tryd.prog BinOp.neq 3 (ot 7) (ot 9) v1 v2).bind fun v3 =>
 condV v3 (
 some (vb false)) (
 JoinPt (fun vs4 =>
 some (vb true)) fun J5 =>
 (fixN (fun rec6 vs7 =>
 (lenS [x0]).bind fun v8 =>
 (bin2 Tryd.prog BinOp.lss 3 (ot 11) (ot 13) (List.getD vs7 0 V.any) v8).bind fun v9 =>
 condV v9 (
 (idxS 1 x0 (List.getD vs7 0 V.any)).bind fun v10 =>
 (ldp none v10).bind fun v11 =>
 (idxS 1 x1 (List.getD vs7 0 V.any)).bind fun v12 =>
 (ldp none v12).bind fun v13 =>
 (bin2 Tryd.prog BinOp.neq 3 (ot 20) (ot 24) v11 v13).bind fun v14 =>
 condV v14 (
 some (vb false)) (
 (bin2 Tryd.prog BinOp.add 3 (ot 15) (oc 1) (List.getD vs7 0 V.any) (vi 1)).bind fun v15 =>
 rec6 [v15])) (
 J5 [])) n) [(vi 0)]) := by kernel_rfl
noncomputable def t_railsame_Ints (a0 : (List Int)) (a1 : (List Int)) : Option Bool :=
 if (decide ((List.length a0 : Int) ≠ (List.length a1 : Int))) = true then (
 some false) else (
 join (fun (s7 : Unit) =>
 some true) fun j8 =>
 loopI a0 (fun (i16 : Int) x17 (s12 : Unit) k13 =>
 (idx a1 i16).bind fun r26 =>
 if (decide (x17 ≠ r26)) = true then (
 some false) else (
 k13 ())) (fun (s12 : Unit) =>
 j8 ()) ())
theorem ty_railsame_Ints {n : Nat} (hn : bigN ≤ n) (a0 : (List Int)) (a1 : (List Int)) : Rv (fun x : Bool => (vb x)) (sem_railsame_Ints n [(V.sl (List.map cI a0)), (V.sl (List.map cI a1))]) (t_railsame_Ints a0 a1) := by
  rw [eq_railsame_Ints]
  unfold t_railsame_Ints
  refine tb (x := (vi (List.length a0 : Int))) (p_len _) ?_
  refine tb (x := (vi (List.length a1 : Int))) (p_len _) ?_
  refine tb (x := (vb (decide ((List.length a0 : Int) ≠ (List.length a1 : Int))))) (d_neq) ?_
  refine tcond (fun h4 => ?_) (fun h4 => ?_)
  · exact rf_ret rfl
  · refine tjoin (mk := fun s7 : Unit => []) (fun s7 => ?_) fun J6 j8 h9 => ?_
    · exact rf_ret rfl
    · refine rf_loopI (mk := fun (i16 : Int) (s12 : Unit) => [(vi (i16 : Int))]) hn a0 () (fun i16 x17 h18 h19 h20 s12 rec10 k13 h14 => ?_) (fun s12 rec32 h31 => ?_)
      · refine tb (x := (vi (List.length a0 : Int))) (p_len _) ?_
        refine tb (x := (vb (decide ((i16 : Int) < (List.length a0 : Int))))) (d_lss) ?_
        refine tcond_t h20 ?_
        refine tb (x := (V.ptr [(vi x17)])) (p_idx_at (c := cI) (fun _ => rfl) h18) ?_
        refine tb (x := (vi x17)) (rfl) ?_
        refine tbo (p_idx (c := cI) (fun _ => rfl) a1 (i16 : Int)) fun r26 => ?_
        refine tb (x := (vi r26)) (rfl) ?_
        refine tb (x := (vb (decide (x17 ≠ r26)))) (d_neq) ?_
        refine tcond (fun h29 => ?_) (fun h29 => ?_)
        · exact rf_ret rfl
        · refine tb (x := (vi ((i16 : Int) + 1))) (p_incN h19) ?_
          exact h14 ()
      · refine tb (x := (vi (List.length a0 : Int))) (p_len _) ?_
        refine tb (x := (vb (decide ((List.length a0 : Int) < (List.length a0 : Int))))) (d_lss) ?_
        refine tcond_f h31 ?_
        exact h9 ()

/-! railpoint/railsame.Lists -/
def an_railsame_Lists : Ann := .seq (.reg 0 [] [] []) (.seq (.seq (.reg 0 [] [] []) (.cond none (.seq (.reg 0 [] [] []) (.no)) (.no))) (.seq (.seq (.reg 0 [] [] []) (.blk (some []) (.loop [.s 5] (.seq (.seq (.reg 0 [] [] []) (.cond none (.no) (.no))) (.seq (.blk none (.seq (.reg 10 [] [] []) (.seq (.reg 0 [] [] []) (.cond none (.seq (.reg 0 [] [] []) (.no)) (.no))))) (.reg 0 [] [] [])))))) (.seq (.reg 0 [] [] []) (.no))))
noncomputable def sem_railsame_Lists (n : Nat) (xs : List V) : Option V := if xs.length ≤ 29 then denF Tryd.prog (envOf [(23, (sem_railsame_Ints n))]) n Tryd.f17 an_railsame_Lists xs else none
theorem ok_railsame_Lists (n : Nat) : SemOk Tryd.prog DW 17 (sem_railsame_Lists n) := fun xs y h => by
  unfold sem_railsame_Lists at h
  split at h
  · rename_i hl
    exact denF_ok stb Tryd.func17 (by kernel_rfl) (envOf_ok (semsOk_cons (ok_railsame_Ints n) semsOk_nil)) (by rw [Tryd.ntmps17]; exact hl) h
  · cases h
theorem eq_railsame_Lists (n : Nat) (x0 x1 : V) : sem_railsame_Lists n [x0, x1] =
 (lenS [x0]).bind fun v1 =>
 (lenS [x1]).bind fun v2 =>
 (bin2 Tryd.prog BinOp.neq 3 (ot 8) (ot 10) v1 v2).bind fun v3 =>
 condV v3 (
 some (vb false)) (
 JoinPt (fun vs4 =>
 some (vb true)) fun J5 =>
 (fixN (fun rec6 vs7 =>
 (lenS [x0]).bind fun v8 =>
 (bin2 Tryd.prog BinOp.lss 3 (ot 12) (ot 14) (List.getD vs7 0 V.any) v8).bind fun v9 =>
 condV v9 (
 (idxS 1 x0 (List.getD vs7 0 V.any)).bind fun v10 =>
 (ldp none v10).bind fun v11 =>
 (idxS 1 x1 (List.getD vs7 0 V.any)).bind fun v12 =>
 (ldp none v12).bind fun v13 =>
 ((sem_railsame_Ints n) [v11, v13]).bind fun v14 =>
 (scal1 Tryd.prog (Op.unary Go.UnOp.not) v14).bind fun v15 =>
 condV v15 (
 some (vb false)) (
 (bin2 Tryd.prog BinOp.add 3 (ot 16) (oc 1) (List.getD vs7 0 V.any) (vi 1)).bind fun v16 =>
 rec6 [v16])) (
 J5 [])) n) [(vi 0)]) := by kernel_rfl
noncomputable def t_railsame_Lists (a0 : (List (List Int))) (a1 : (List (List Int))) : Option Bool :=
 if (decide ((List.length a0 : Int) ≠ (List.length a1 : Int))) = true then (
 some false) else (
 join (fun (s7 : Unit) =>
 some true) fun j8 =>
 loopI a0 (fun (i16 : Int) x17 (s12 : Unit) k13 =>
 (idx a1 i16).bind fun r26 =>
 (t_railsame_Ints x17 r26).bind fun r29 =>
 if (!r29) = true then (
 some false) else (
 k13 ())) (fun (s12 : Unit) =>
 j8 ()) ())
theorem ty_railsame_Lists {n : Nat} (hn : bigN ≤ n) (a0 : (List (List Int))) (a1 : (List (List Int))) : Rv (fun x : Bool => (vb x)) (sem_railsame_Lists n [(V.sl (List.map (cS cI) a0)), (V.sl (List.map (cS cI) a1))]) (t_railsame_Lists a0 a1) := by
  rw [eq_railsame_Lists]
  unfold t_railsame_Lists
  refine tb (x := (vi (List.length a0 : Int))) (p_len _) ?_
  refine tb (x := (vi (List.length a1 : Int))) (p_len _) ?_
  refine tb (x := (vb (decide ((List.length a0 : Int) ≠ (List.length a1 : Int))))) (d_neq) ?_
  refine tcond (fun h4 => ?_) (fun h4 => ?_)
  · exact rf_ret rfl
  · refine tjoin (mk := fun s7 : Unit => []) (fun s7 => ?_) fun J6 j8 h9 => ?_
    · exact rf_ret rfl
    · refine rf_loopI (mk := fun (i16 : Int) (s12 : Unit) => [(vi (i16 : Int))]) hn a0 () (fun i16 x17 h18 h19 h20 s12 rec10 k13 h14 => ?_) (fun s12 rec34 h33 => ?_)
      · refine tb (x := (vi (List.length a0 : Int))) (p_len _) ?_
        refine tb (x := (vb (decide ((i16 : Int) < (List.length a0 : Int))))) (d_lss) ?_
        refine tcond_t h20 ?_
        refine tb (x := (V.ptr [(V.sl (List.map cI x17))])) (p_idx_at (c := (cS cI)) (fun _ => rfl) h18) ?_
        refine tb (x := (V.sl (List.map cI x17))) (rfl) ?_
        refine tbo (p_idx (c := (cS cI)) (fun _ => rfl) a1 (i16 : Int)) fun r26 => ?_
        refine tb (x := (V.sl (List.map cI r26))) (rfl) ?_
        refine tbo (ty_railsame_Ints hn x17 r26) fun r29 => ?_
        refine tb (x := (vb (!r29))) (d_not) ?_
        refine tcond (fun h31 => ?_) (fun h31 => ?_)
        · exact rf_ret rfl
        · refine tb (x := (vi ((i16 : Int) + 1))) (p_incN h19) ?_
          exact h14 ()
      · refine tb (x := (vi (List.length a0 : Int))) (p_len _) ?_
        refine tb (x := (vb (decide ((List.length a0 : Int) < (List.length a0 : Int))))) (d_lss) ?_
        refine tcond_f h33 ?_
        exact h9 ()

/-! railpoint/railref1.Spot -/
def an_railref1_Spot : Ann := .seq (.reg 0 [] [] []) (.seq (.reg 0 [] [] []) (.no))
noncomputable def sem_railref1_Spot (n : Nat) (xs : List V) : Option V := if xs.length ≤ 25 then denF Tryd.prog (envOf []) n Tryd.f28 an_railref1_Spot xs else none
theorem ok_railref1_Spot (n : Nat) : SemOk Tryd.prog DW 28 (sem_railref1_Spot n) := fun xs y h => by
  unfold sem_railref1_Spot at h
  split at h
  · rename_i hl
    exact denF_ok stb Tryd.func28 (by kernel_rfl) (envOf_ok semsOk_nil) (by rw [Tryd.ntmps28]; exact hl) h
  · cases h
theorem eq_railref1_Spot (n : Nat) (x0 x1 : V) : sem_railref1_Spot n [x0, x1] =
 (V.cellsO x0).bind fun v1 =>
 (V.cellsO x1).bind fun v2 =>
 (ldk none (List.drop 0 v2)).bind fun v3 =>
 (bin2 Tryd.prog BinOp.geq 3 (ot 6) (oc 1) v3 (vi 1)).bind fun v4 =>
 (guardV v4 true (some V.any)).bind fun v5 =>
 (guardV v4 true ((gate v4 true (ldk none (List.drop 0 v2))).bind fun v6 =>
 some v6)).bind fun v7 =>
 (guardV v4 true (some V.any)).bind fun v8 =>
 (guardV v4 true ((gate v4 true (ldk none (List.drop 0 v1))).bind fun v9 =>
 some v9)).bind fun v10 =>
 (guardV v4 true ((bin2 Tryd.prog BinOp.leq 3 (ot 10) (ot 12) v7 v10).bind fun v11 =>
 some v11)).bind fun v12 =>
 (pickV v4 v12 (vb false)).bind fun v13 =>
 (guardV v13 true (some V.any)).bind fun v14 =>
 (guardV v13 true ((gate v13 true (ldk none (List.drop 1 v2))).bind fun v15 =>
 some v15)).bind fun v16 =>
 (guardV v13 true ((bin2 Tryd.prog BinOp.geq 3 (ot 17) (oc 1) v16 (vi 1)).bind fun v17 =>
 some v17)).bind fun v18 =>
 (pickV v13 v18 (vb false)).bind fun v19 =>
 (guardV v19 true (some V.any)).bind fun v20 =>
 (guardV v19 true ((gate v19 true (ldk none (List.drop 1 v2))).bind fun v21 =>
 some v21)).bind fun v22 =>
 (guardV v19 true ((bin2 Tryd.prog BinOp.leq 3 (ot 22) (oc 4) v22 (vi 4)).bind fun v23 =>
 some v23)).bind fun v24 =>
 (pickV v19 v24 (vb false)).bind fun v25 =>
 some v25 := by kernel_rfl
noncomputable def t_railref1_Spot (a0 : T_Topo) (a1 : T_Spot) : Option Bool :=
 some ((((decide (1 ≤ a1.Switch)) && (decide (a1.Switch ≤ a0.Switches))) && (decide (1 ≤ a1.Port))) && (decide (a1.Port ≤ 4)))
theorem ty_railref1_Spot {n : Nat} (hn : bigN ≤ n) (a0 : T_Topo) (a1 : T_Spot) : Rv (fun x : Bool => (vb x)) (sem_railref1_Spot n [(T_Topo.e a0), (T_Spot.e a1)]) (t_railref1_Spot a0 a1) := by
  rw [eq_railref1_Spot]
  unfold t_railref1_Spot
  refine tb (x := (T_Topo.c a0)) rfl ?_
  refine tb (x := (T_Spot.c a1)) rfl ?_
  refine tb (x := (vi a1.Switch)) (rfl) ?_
  refine tb (x := (vb (decide (1 ≤ a1.Switch)))) (d_geq) ?_
  refine tg (x := V.any) (fun h5 => rfl) ?_
  refine tg (x := (vi a1.Switch)) (fun h7 => bind_some_eq (gate_pos h7 (rfl))) ?_
  refine tg (x := V.any) (fun h10 => rfl) ?_
  refine tg (x := (vi a0.Switches)) (fun h12 => bind_some_eq (gate_pos h12 (rfl))) ?_
  refine tg (x := (vb (decide (a1.Switch ≤ a0.Switches)))) (fun h15 => by simp only [gv_t h15]; exact bind_some_eq (d_leq)) ?_
  refine tb (x := (vb ((decide (1 ≤ a1.Switch)) && (decide (a1.Switch ≤ a0.Switches))))) (pick_and (fun h9 => gv_t h9)) ?_
  refine tg (x := V.any) (fun h19 => rfl) ?_
  refine tg (x := (vi a1.Port)) (fun h21 => bind_some_eq (gate_pos h21 (rfl))) ?_
  refine tg (x := (vb (decide (1 ≤ a1.Port)))) (fun h24 => by simp only [gv_t h24]; exact bind_some_eq (d_geq)) ?_
  refine tb (x := (vb (((decide (1 ≤ a1.Switch)) && (decide (a1.Switch ≤ a0.Switches))) && (decide (1 ≤ a1.Port))))) (pick_and (fun h9 => gv_t h9)) ?_
  refine tg (x := V.any) (fun h28 => rfl) ?_
  refine tg (x := (vi a1.Port)) (fun h30 => bind_some_eq (gate_pos h30 (rfl))) ?_
  refine tg (x := (vb (decide (a1.Port ≤ 4)))) (fun h33 => by simp only [gv_t h33]; exact bind_some_eq (d_leq)) ?_
  refine tb (x := (vb ((((decide (1 ≤ a1.Switch)) && (decide (a1.Switch ≤ a0.Switches))) && (decide (1 ≤ a1.Port))) && (decide (a1.Port ≤ 4))))) (pick_and (fun h9 => gv_t h9)) ?_
  exact rf_ret rfl

/-! railpoint/railref1.Name -/
def an_railref1_Name : Ann := .seq (.reg 0 [] [] []) (.seq (.seq (.reg 0 [] [] []) (.cond none (.seq (.reg 0 [] [] []) (.no)) (.no))) (.seq (.seq (.reg 0 [] [] []) (.blk (some []) (.loop [.s 3] (.seq (.seq (.reg 0 [] [] []) (.cond none (.no) (.no))) (.seq (.blk none (.seq (.reg 0 [] [] []) (.cond none (.seq (.reg 0 [] [] []) (.no)) (.no)))) (.reg 0 [] [] [])))))) (.seq (.reg 0 [] [] []) (.no))))
noncomputable def sem_railref1_Name (n : Nat) (xs : List V) : Option V := if xs.length ≤ 27 then denF Tryd.prog (envOf []) n Tryd.f118 an_railref1_Name xs else none
theorem ok_railref1_Name (n : Nat) : SemOk Tryd.prog DW 118 (sem_railref1_Name n) := fun xs y h => by
  unfold sem_railref1_Name at h
  split at h
  · rename_i hl
    exact denF_ok stb Tryd.func118 (by kernel_rfl) (envOf_ok semsOk_nil) (by rw [Tryd.ntmps118]; exact hl) h
  · cases h
theorem eq_railref1_Name (n : Nat) (x0 : V) : sem_railref1_Name n [x0] =
 (bin2 Tryd.prog BinOp.eql 9 (ot 4) (Operand.const (Go.Value.string (ByteArray.mk #[]))) x0 (V.lit (Go.Value.string (ByteArray.mk #[])))).bind fun v1 =>
 (guardV v1 false (some x0)).bind fun v2 =>
 (guardV v1 false ((lenT [v2]).bind fun v3 =>
 some v3)).bind fun v4 =>
 (guardV v1 false ((bin2 Tryd.prog BinOp.gtr 3 (ot 8) (oc 6) v4 (vi 6)).bind fun v5 =>
 some v5)).bind fun v6 =>
 (pickV v1 (vb true) v6).bind fun v7 =>
 condV v7 (
 some (vb false)) (
 JoinPt (fun vs8 =>
 some (vb true)) fun J9 =>
 (fixN (fun rec10 vs11 =>
 (lenT [x0]).bind fun v12 =>
 (bin2 Tryd.prog BinOp.lss 3 (ot 11) (ot 13) (List.getD vs11 0 V.any) v12).bind fun v13 =>
 condV v13 (
 (scal2 Tryd.prog (Instr.index 9) x0 (List.getD vs11 0 V.any)).bind fun v14 =>
 (bin2 Tryd.prog BinOp.lss 5 (ot 19) (Operand.const (Go.Value.int Go.IntKind.u8 97)) v14 (V.lit (Go.Value.int Go.IntKind.u8 97))).bind fun v15 =>
 (guardV v15 false (some x0)).bind fun v16 =>
 (guardV v15 false (some (List.getD vs11 0 V.any))).bind fun v17 =>
 (guardV v15 false ((scal2 Tryd.prog (Instr.index 9) v16 v17).bind fun v18 =>
 some v18)).bind fun v19 =>
 (guardV v15 false ((bin2 Tryd.prog BinOp.gtr 5 (ot 24) (Operand.const (Go.Value.int Go.IntKind.u8 122)) v19 (V.lit (Go.Value.int Go.IntKind.u8 122))).bind fun v20 =>
 some v20)).bind fun v21 =>
 (pickV v15 (vb true) v21).bind fun v22 =>
 condV v22 (
 some (vb false)) (
 (bin2 Tryd.prog BinOp.add 3 (ot 15) (oc 1) (List.getD vs11 0 V.any) (vi 1)).bind fun v23 =>
 rec10 [v23])) (
 J9 [])) n) [(vi 0)]) := by kernel_rfl
noncomputable def t_railref1_Name (a0 : ByteArray) : Option Bool :=
 if ((decide (a0 = (ByteArray.mk #[]))) || (decide (6 < (a0.size : Int)))) = true then (
 some false) else (
 join (fun (s14 : Unit) =>
 some true) fun j15 =>
 loopU 0 (a0.size : Int) (fun (i23 : Int) (s19 : Unit) k20 =>
 (sidx a0 i23).bind fun r32 =>
 (gd (!(decide (r32 < 97))) default (sidx a0 i23)).bind fun r41 =>
 if ((decide (r32 < 97)) || (decide (122 < r41))) = true then (
 some false) else (
 k20 ())) (fun (i23 : Int) (s19 : Unit) =>
 j15 ()) ())
theorem ty_railref1_Name {n : Nat} (hn : bigN ≤ n) (a0 : ByteArray) : Rv (fun x : Bool => (vb x)) (sem_railref1_Name n [(vt a0)]) (t_railref1_Name a0) := by
  rw [eq_railref1_Name]
  unfold t_railref1_Name
  refine tb (x := (vb (decide (a0 = (ByteArray.mk #[]))))) (p_eql_str) ?_
  refine tg_f (x := (vt a0)) (fun h2 => rfl) ?_
  refine tg_f (x := (vi (a0.size : Int))) (fun h4 => by simp only [gv_t h4]; exact bind_some_eq (rfl)) ?_
  refine tg_f (x := (vb (decide (6 < (a0.size : Int))))) (fun h7 => by simp only [gv_t h7]; exact bind_some_eq (d_gtr)) ?_
  refine tb (x := (vb ((decide (a0 = (ByteArray.mk #[]))) || (decide (6 < (a0.size : Int)))))) (pick_or (fun h9 => gv_t (not_f h9))) ?_
  refine tcond (fun h11 => ?_) (fun h11 => ?_)
  · exact rf_ret rfl
  · refine tjoin (mk := fun s14 : Unit => []) (fun s14 => ?_) fun J13 j15 h16 => ?_
    · exact rf_ret rfl
    · refine rf_loopU (mk := fun (i23 : Int) (s19 : Unit) => [(vi i23)]) hn _ _ () (fun i23 h24 h25 h26 s19 rec17 k20 h21 => ?_) (fun i23 s19 rec28 h27 => ?_)
      · refine tb (x := (vi (a0.size : Int))) (rfl) ?_
        refine tb (x := (vb (decide (i23 < (a0.size : Int))))) (d_lss) ?_
        refine tcond_t h24 ?_
        refine tbo (p_sidx (Tryd.underlying9) a0 i23) fun r32 => ?_
        refine tb (x := (vb (decide (r32 < 97)))) (q_lss) ?_
        refine tg_f (x := (vt a0)) (fun h34 => rfl) ?_
        refine tg_f (x := (vi i23)) (fun h36 => rfl) ?_
        refine tgo_f (fun h38 => by simp only [gv_t h38]; exact rf_bind_some (p_sidx (Tryd.underlying9) a0 i23)) fun r41 => ?_
        refine tg_f (x := (vb (decide (122 < r41)))) (fun h42 => by simp only [gv_t h42]; exact bind_some_eq (q_gtr)) ?_
        refine tb (x := (vb ((decide (r32 < 97)) || (decide (122 < r41))))) (pick_or (fun h9 => gv_t (not_f h9))) ?_
        refine tcond (fun h46 => ?_) (fun h46 => ?_)
        · exact rf_ret rfl
        · refine tb (x := (vi (i23 + 1))) (p_inc h25 h26) ?_
          exact h21 ()
      · refine tb (x := (vi (a0.size : Int))) (rfl) ?_
        refine tb (x := (vb (decide (i23 < (a0.size : Int))))) (d_lss) ?_
        refine tcond_f h27 ?_
        exact h16 ()

/-! railpoint/railref1.Topo -/
def an_railref1_Topo : Ann := .seq (.reg 0 [] [] []) (.seq (.seq (.reg 0 [] [] []) (.cond none (.seq (.reg 0 [] [] []) (.no)) (.no))) (.seq (.seq (.reg 0 [] [] []) (.cond none (.seq (.reg 0 [] [] []) (.no)) (.no))) (.seq (.reg 0 [] [] []) (.seq (.seq (.reg 0 [] [] []) (.blk (some [.kb 1, .r 3 62]) (.loop [.kb 1, .r 3 62, .s 4] (.seq (.seq (.reg 0 [] [] []) (.cond none (.no) (.no))) (.seq (.blk (some [.kb 1, .r 3 62]) (.seq (.reg 0 [] [] []) (.seq (.reg 0 [] [] []) (.seq (.reg 0 [] [] []) (.seq (.seq (.reg 0 [] [] []) (.cond none (.seq (.reg 0 [] [] []) (.no)) (.no))) (.seq (.seq (.reg 0 [] [] []) (.cond none (.seq (.reg 0 [] [] []) (.no)) (.no))) (.seq (.seq (.reg 0 [] [] []) (.blk (some [.kb 1, .kb 5, .r 3 62]) (.loop [.kb 1, .kb 5, .r 3 62, .s 8] (.seq (.seq (.reg 0 [] [] []) (.cond none (.no) (.no))) (.seq (.blk none (.seq (.reg 16 [] [] []) (.cond none (.seq (.reg 0 [] [] []) (.no)) (.no)))) (.reg 0 [] [] [])))))) (.seq (.reg 0 [] [] []) (.reg 0 [] [] []))))))))) (.reg 0 [] [] [])))))) (.seq (.seq (.reg 0 [] [] []) (.blk (some []) (.loop [.kb 1, .r 3 62, .s 9] (.seq (.seq (.reg 0 [] [] []) (.cond none (.no) (.no))) (.seq (.blk (some [.kb 1, .r 3 62]) (.seq (.reg 0 [] [] []) (.seq (.reg 0 [] [] []) (.seq (.seq (.reg 0 [] [] []) (.cond none (.seq (.reg 0 [] [] []) (.no)) (.no))) (.seq (.reg 0 [] [] []) (.seq (.seq (.reg 0 [] [] []) (.cond none (.seq (.reg 0 [] [] []) (.no)) (.no))) (.seq (.seq (.reg 0 [] [] []) (.blk (some [.kb 1, .kb 10, .r 3 62]) (.loop [.kb 1, .kb 10, .r 3 62, .s 13] (.seq (.seq (.reg 0 [] [] []) (.cond none (.no) (.no))) (.seq (.blk none (.seq (.reg 9 [] [] []) (.cond none (.seq (.reg 0 [] [] []) (.no)) (.no)))) (.reg 0 [] [] [])))))) (.seq (.seq (.reg 0 [] [] []) (.blk (some [.kb 1, .kb 10, .r 3 62]) (.loop [.kb 1, .kb 10, .r 3 62, .s 14] (.seq (.seq (.reg 0 [] [] []) (.cond none (.no) (.no))) (.seq (.blk none (.seq (.reg 7 [] [] []) (.cond none (.seq (.reg 0 [] [] []) (.no)) (.no)))) (.reg 0 [] [] [])))))) (.reg 0 [] [] []))))))))) (.reg 0 [] [] [])))))) (.seq (.reg 0 [] [] []) (.no)))))))
noncomputable def sem_railref1_Topo (n : Nat) (xs : List V) : Option V := if xs.length ≤ 151 then denF Tryd.prog (envOf [(28, (sem_railref1_Spot n)), (118, (sem_railref1_Name n))]) n Tryd.f66 an_railref1_Topo xs else none
theorem ok_railref1_Topo (n : Nat) : SemOk Tryd.prog DW 66 (sem_railref1_Topo n) := fun xs y h => by
  unfold sem_railref1_Topo at h
  split at h
  · rename_i hl
    exact denF_ok stb Tryd.func66 (by kernel_rfl) (envOf_ok (semsOk_cons (ok_railref1_Spot n) (semsOk_cons (ok_railref1_Name n) semsOk_nil))) (by rw [Tryd.ntmps66]; exact hl) h
  · cases h
theorem eq_railref1_Topo (n : Nat) (x0 : V) : sem_railref1_Topo n [x0] =
 (V.cellsO x0).bind fun v1 =>
 (ldk none (List.drop 0 v1)).bind fun v2 =>
 (bin2 Tryd.prog BinOp.lss 3 (ot 16) (oc 1) v2 (vi 1)).bind fun v3 =>
 (guardV v3 false (some V.any)).bind fun v4 =>
 (guardV v3 false ((gate v3 false (ldk none (List.drop 0 v1))).bind fun v5 =>
 some v5)).bind fun v6 =>
 (guardV v3 false ((bin2 Tryd.prog BinOp.gtr 3 (ot 20) (oc 6) v6 (vi 6)).bind fun v7 =>
 some v7)).bind fun v8 =>
 (pickV v3 (vb true) v8).bind fun v9 =>
 condV v9 (
 some (vi 1)) (
 (ldk none (List.drop 1 v1)).bind fun v10 =>
 (lenS [v10]).bind fun v11 =>
 (bin2 Tryd.prog BinOp.gtr 3 (ot 25) (oc 200) v11 (vi 200)).bind fun v12 =>
 (guardV v12 false (some V.any)).bind fun v13 =>
 (guardV v12 false ((gate v12 false (ldk none (List.drop 2 v1))).bind fun v14 =>
 some v14)).bind fun v15 =>
 (guardV v12 false ((lenS [v15]).bind fun v16 =>
 some v16)).bind fun v17 =>
 (guardV v12 false ((bin2 Tryd.prog BinOp.gtr 3 (ot 30) (oc 8) v17 (vi 8)).bind fun v18 =>
 some v18)).bind fun v19 =>
 (pickV v12 (vb true) v19).bind fun v20 =>
 condV v20 (
 some (vi 4)) (
 JoinPt (fun vs21 =>
 JoinPt (fun vs23 =>
 some (vi 0)) fun J24 =>
 (keepO (some v1) (some v1) (some [(V.sl (slL (List.getD vs21 0 V.any))), (vi 0)])).bind (fixN (fun rec25 vs26 =>
 (ldk none (List.drop 2 v1)).bind fun v27 =>
 (lenS [v27]).bind fun v28 =>
 (bin2 Tryd.prog BinOp.lss 3 (ot 96) (ot 99) (List.getD vs26 1 V.any) v28).bind fun v29 =>
 condV v29 (
 JoinPt (fun vs30 =>
 (bin2 Tryd.prog BinOp.add 3 (ot 101) (oc 1) (List.getD vs26 1 V.any) (vi 1)).bind fun v32 =>
 (keepO (some v1) (some v1) (some [(V.sl (slL (List.getD vs30 0 V.any))), v32])).bind rec25) fun J31 =>
 (ldk none (List.drop 2 v1)).bind fun v33 =>
 (idxS 3 v33 (List.getD vs26 1 V.any)).bind fun v34 =>
 (ldp (some 3) v34).bind fun v35 =>
 (spliceV [(V.lit (Go.Value.string (ByteArray.mk #[]))), (vi 0), (vi 0)] 0 3 v35).bind fun v36 =>
 (ldk none (List.drop 0 (aggL v36))).bind fun v37 =>
 ((sem_railref1_Name n) [v37]).bind fun v38 =>
 (scal1 Tryd.prog (Op.unary Go.UnOp.not) v38).bind fun v39 =>
 condV v39 (
 some (vi 2)) (
 (ldk (some 3) (List.drop 0 v1)).bind fun v40 =>
 (ldk (some 2) (List.drop 1 (aggL v36))).bind fun v41 =>
 ((sem_railref1_Spot n) [v40, v41]).bind fun v42 =>
 (scal1 Tryd.prog (Op.unary Go.UnOp.not) v42).bind fun v43 =>
 condV v43 (
 some (vi 1)) (
 JoinPt (fun vs44 =>
 JoinPt (fun vs46 =>
 (ldk (some 2) (List.drop 1 (aggL v36))).bind fun v48 =>
 (slcB 2 1 [(vi 0), (vi 0)] [(0, v48)]).bind fun v49 =>
 (appV 2 (slL (List.getD vs46 0 V.any)) v49).bind fun v50 =>
 (keepO (some v1) (some v1) (some [(V.sl (slL v50))])).bind J31) fun J47 =>
 (keepO (some v1) (some v1) (keepO (some (aggL v36)) (some (aggL v36)) (some [(V.sl (slL (List.getD vs44 0 V.any))), (vi 0)]))).bind (fixN (fun rec51 vs52 =>
 (lenS [(V.sl (slL (List.getD vs52 0 V.any)))]).bind fun v53 =>
 (bin2 Tryd.prog BinOp.lss 3 (ot 133) (ot 135) (List.getD vs52 1 V.any) v53).bind fun v54 =>
 condV v54 (
 (idxS 2 (V.sl (slL (List.getD vs52 0 V.any))) (List.getD vs52 1 V.any)).bind fun v55 =>
 (ldp (some 2) v55).bind fun v56 =>
 (ldk (some 2) (List.drop 1 (aggL v36))).bind fun v57 =>
 (bin2 Tryd.prog BinOp.eql 62 (ot 142) (ot 144) v56 v57).bind fun v58 =>
 condV v58 (
 some (vi 7)) (
 (bin2 Tryd.prog BinOp.add 3 (ot 137) (oc 1) (List.getD vs52 1 V.any) (vi 1)).bind fun v59 =>
 (keepO (some v1) (some v1) (keepO (some (aggL v36)) (some (aggL v36)) (some [(V.sl (slL (List.getD vs52 0 V.any))), v59]))).bind rec51)) (
 (keepO (some v1) (some v1) (keepO (some (aggL v36)) (some (aggL v36)) (some [(V.sl (slL (List.getD vs52 0 V.any)))]))).bind J47)) n)) fun J45 =>
 (keepO (some v1) (some v1) (keepO (some (aggL v36)) (some (aggL v36)) (some [(V.sl (slL (List.getD vs26 0 V.any))), (vi 0)]))).bind (fixN (fun rec60 vs61 =>
 (bin2 Tryd.prog BinOp.lss 3 (ot 119) (ot 120) (List.getD vs61 1 V.any) (List.getD vs26 1 V.any)).bind fun v62 =>
 condV v62 (
 (ldk none (List.drop 2 v1)).bind fun v63 =>
 (idxS 3 v63 (List.getD vs61 1 V.any)).bind fun v64 =>
 (ptrF 0 v64).bind fun v65 =>
 (ldp none v65).bind fun v66 =>
 (ldk none (List.drop 0 (aggL v36))).bind fun v67 =>
 (bin2 Tryd.prog BinOp.eql 9 (ot 129) (ot 131) v66 v67).bind fun v68 =>
 condV v68 (
 some (vi 7)) (
 (bin2 Tryd.prog BinOp.add 3 (ot 122) (oc 1) (List.getD vs61 1 V.any) (vi 1)).bind fun v69 =>
 (keepO (some v1) (some v1) (keepO (some (aggL v36)) (some (aggL v36)) (some [(V.sl (slL (List.getD vs61 0 V.any))), v69]))).bind rec60)) (
 (keepO (some v1) (some v1) (keepO (some (aggL v36)) (some (aggL v36)) (some [(V.sl (slL (List.getD vs61 0 V.any)))]))).bind J45)) n)))) (
 J24 [])) n)) fun J22 =>
 (keepO (some v1) (some v1) (some [(V.sl []), (vi 0)])).bind (fixN (fun rec70 vs71 =>
 (ldk none (List.drop 1 v1)).bind fun v72 =>
 (lenS [v72]).bind fun v73 =>
 (bin2 Tryd.prog BinOp.lss 3 (ot 33) (ot 36) (List.getD vs71 1 V.any) v73).bind fun v74 =>
 condV v74 (
 JoinPt (fun vs75 =>
 (bin2 Tryd.prog BinOp.add 3 (ot 38) (oc 1) (List.getD vs71 1 V.any) (vi 1)).bind fun v77 =>
 (keepO (some v1) (some v1) (some [(V.sl (slL (List.getD vs75 0 V.any))), v77])).bind rec70) fun J76 =>
 (ldk none (List.drop 1 v1)).bind fun v78 =>
 (idxS 4 v78 (List.getD vs71 1 V.any)).bind fun v79 =>
 (ldp (some 4) v79).bind fun v80 =>
 (spliceV [(vi 0), (vi 0), (vi 0), (vi 0)] 0 4 v80).bind fun v81 =>
 (ldk (some 3) (List.drop 0 v1)).bind fun v82 =>
 (ldk (some 2) (List.drop 0 (aggL v81))).bind fun v83 =>
 ((sem_railref1_Spot n) [v82, v83]).bind fun v84 =>
 (ldk (some 3) (List.drop 0 v1)).bind fun v85 =>
 (ldk (some 2) (List.drop 2 (aggL v81))).bind fun v86 =>
 ((sem_railref1_Spot n) [v85, v86]).bind fun v87 =>
 (scal1 Tryd.prog (Op.unary Go.UnOp.not) v84).bind fun v88 =>
 (guardV v88 false (some v87)).bind fun v89 =>
 (guardV v88 false ((scal1 Tryd.prog (Op.unary Go.UnOp.not) v89).bind fun v90 =>
 some v90)).bind fun v91 =>
 (pickV v88 (vb true) v91).bind fun v92 =>
 condV v92 (
 some (vi 1)) (
 (ldk (some 2) (List.drop 0 (aggL v81))).bind fun v93 =>
 (ldk (some 2) (List.drop 2 (aggL v81))).bind fun v94 =>
 (bin2 Tryd.prog BinOp.eql 62 (ot 60) (ot 62) v93 v94).bind fun v95 =>
 condV v95 (
 some (vi 7)) (
 JoinPt (fun vs96 =>
 (ldk (some 2) (List.drop 0 (aggL v81))).bind fun v98 =>
 (slcB 2 1 [(vi 0), (vi 0)] [(0, v98)]).bind fun v99 =>
 (appV 2 (slL (List.getD vs96 0 V.any)) v99).bind fun v100 =>
 (ldk (some 2) (List.drop 2 (aggL v81))).bind fun v101 =>
 (slcB 2 1 [(vi 0), (vi 0)] [(0, v101)]).bind fun v102 =>
 (appV 2 (slL v100) v102).bind fun v103 =>
 (keepO (some v1) (some v1) (some [(V.sl (slL v103))])).bind J76) fun J97 =>
 (keepO (some v1) (some v1) (keepO (some (aggL v81)) (some (aggL v81)) (some [(V.sl (slL (List.getD vs71 0 V.any))), (vi 0)]))).bind (fixN (fun rec104 vs105 =>
 (lenS [(V.sl (slL (List.getD vs105 0 V.any)))]).bind fun v106 =>
 (bin2 Tryd.prog BinOp.lss 3 (ot 64) (ot 66) (List.getD vs105 1 V.any) v106).bind fun v107 =>
 condV v107 (
 (idxS 2 (V.sl (slL (List.getD vs105 0 V.any))) (List.getD vs105 1 V.any)).bind fun v108 =>
 (ldp (some 2) v108).bind fun v109 =>
 (ldk (some 2) (List.drop 0 (aggL v81))).bind fun v110 =>
 (bin2 Tryd.prog BinOp.eql 62 (ot 73) (ot 75) v109 v110).bind fun v111 =>
 (guardV v111 false (some (V.sl (slL (List.getD vs105 0 V.any))))).bind fun v112 =>
 (guardV v111 false (some (List.getD vs105 1 V.any))).bind fun v113 =>
 (guardV v111 false ((idxS 2 v112 v113).bind fun v114 =>
 some v114)).bind fun v115 =>
 (guardV v111 false ((ldp (some 2) v115).bind fun v116 =>
 some v116)).bind fun v117 =>
 (guardV v111 false (some V.any)).bind fun v118 =>
 (guardV v111 false ((gate v111 false (ldk (some 2) (List.drop 2 (aggL v81)))).bind fun v119 =>
 some v119)).bind fun v120 =>
 (guardV v111 false ((bin2 Tryd.prog BinOp.eql 62 (ot 81) (ot 83) v117 v120).bind fun v121 =>
 some v121)).bind fun v122 =>
 (pickV v111 (vb true) v122).bind fun v123 =>
 condV v123 (
 some (vi 7)) (
 (bin2 Tryd.prog BinOp.add 3 (ot 68) (oc 1) (List.getD vs105 1 V.any) (vi 1)).bind fun v124 =>
 (keepO (some v1) (some v1) (keepO (some (aggL v81)) (some (aggL v81)) (some [(V.sl (slL (List.getD vs105 0 V.any))), v124]))).bind rec104)) (
 (keepO (some v1) (some v1) (keepO (some (aggL v81)) (some (aggL v81)) (some [(V.sl (slL (List.getD vs105 0 V.any)))]))).bind J97)) n)))) (
 (keepO (some v1) (some v1) (some [(V.sl (slL (List.getD vs71 0 V.any)))])).bind J22)) n))) := by kernel_rfl
noncomputable def t_railref1_Topo (a0 : T_Topo) : Option Int :=
 if ((decide (a0.Switches < 1)) || (decide (6 < a0.Switches))) = true then (
 some 1) else (
 if ((decide (200 < (List.length a0.Links : Int))) || (decide (8 < (List.length a0.Hosts : Int)))) = true then (
 some 4) else (
 join (fun (s32 : (List T_Spot)) =>
 join (fun (s37 : Unit) =>
 some 0) fun j38 =>
 loopI a0.Hosts (fun (i46 : Int) x47 (s42 : (List T_Spot)) k43 =>
 join (fun (s56 : (List T_Spot)) =>
 k43 (s56)) fun j57 =>
 (t_railref1_Name x47.Name).bind fun r66 =>
 if (!r66) = true then (
 some 2) else (
 (t_railref1_Spot a0 x47.At).bind fun r72 =>
 if (!r72) = true then (
 some 1) else (
 join (fun (s77 : (List T_Spot)) =>
 join (fun (s82 : (List T_Spot)) =>
 (app s82 ([x47.At] : (List T_Spot))).bind fun r88 =>
 j57 (r88)) fun j83 =>
 loopI s77 (fun (i95 : Int) x96 (s91 : Unit) k92 =>
 if (decide (x96 = x47.At)) = true then (
 some 7) else (
 k92 ())) (fun (s91 : Unit) =>
 j83 (s77)) ()) fun j78 =>
 loopU 0 i46 (fun (i118 : Int) (s114 : Unit) k115 =>
 (idx a0.Hosts i118).bind fun r127 =>
 if (decide (r127.Name = x47.Name)) = true then (
 some 7) else (
 k115 ())) (fun (i118 : Int) (s114 : Unit) =>
 j78 (s42)) ()))) (fun (s42 : (List T_Spot)) =>
 j38 ()) (s32)) fun j33 =>
 loopI a0.Links (fun (i146 : Int) x147 (s142 : (List T_Spot)) k143 =>
 join (fun (s156 : (List T_Spot)) =>
 k143 (s156)) fun j157 =>
 (t_railref1_Spot a0 x147.A).bind fun r167 =>
 (t_railref1_Spot a0 x147.B).bind fun r171 =>
 if ((!r167) || (!r171)) = true then (
 some 1) else (
 if (decide (x147.A = x147.B)) = true then (
 some 7) else (
 join (fun (s186 : (List T_Spot)) =>
 (app s186 ([x147.A] : (List T_Spot))).bind fun r192 =>
 (app r192 ([x147.B] : (List T_Spot))).bind fun r196 =>
 j157 (r196)) fun j187 =>
 loopI s142 (fun (i203 : Int) x204 (s199 : Unit) k200 =>
 if ((decide (x204 = x147.A)) || (decide (x204 = x147.B))) = true then (
 some 7) else (
 k200 ())) (fun (s199 : Unit) =>
 j187 (s142)) ()))) (fun (s142 : (List T_Spot)) =>
 j33 (s142)) ([])))
theorem ty_railref1_Topo {n : Nat} (hn : bigN ≤ n) (a0 : T_Topo) : Rv (fun x : Int => (vi x)) (sem_railref1_Topo n [(T_Topo.e a0)]) (t_railref1_Topo a0) := by
  rw [eq_railref1_Topo]
  unfold t_railref1_Topo
  refine tb (x := (T_Topo.c a0)) rfl ?_
  refine tb (x := (vi a0.Switches)) (rfl) ?_
  refine tb (x := (vb (decide (a0.Switches < 1)))) (d_lss) ?_
  refine tg_f (x := V.any) (fun h4 => rfl) ?_
  refine tg_f (x := (vi a0.Switches)) (fun h6 => bind_some_eq (gate_pos (not_t h6) (rfl))) ?_
  refine tg_f (x := (vb (decide (6 < a0.Switches)))) (fun h9 => by simp only [gv_t h9]; exact bind_some_eq (d_gtr)) ?_
  refine tb (x := (vb ((decide (a0.Switches < 1)) || (decide (6 < a0.Switches))))) (pick_or (fun h9 => gv_t (not_f h9))) ?_
  refine tcond (fun h13 => ?_) (fun h13 => ?_)
  · exact rf_ret rfl
  · refine tb (x := (V.sl (List.map T_Link.c a0.Links))) (rfl) ?_
    refine tb (x := (vi (List.length a0.Links : Int))) (p_len _) ?_
    refine tb (x := (vb (decide (200 < (List.length a0.Links : Int))))) (d_gtr) ?_
    refine tg_f (x := V.any) (fun h17 => rfl) ?_
    refine tg_f (x := (V.sl (List.map T_Host.c a0.Hosts))) (fun h19 => bind_some_eq (gate_pos (not_t h19) (rfl))) ?_
    refine tg_f (x := (vi (List.length a0.Hosts : Int))) (fun h22 => by simp only [gv_t h22]; exact bind_some_eq (p_len _)) ?_
    refine tg_f (x := (vb (decide (8 < (List.length a0.Hosts : Int))))) (fun h25 => by simp only [gv_t h25]; exact bind_some_eq (d_gtr)) ?_
    refine tb (x := (vb ((decide (200 < (List.length a0.Links : Int))) || (decide (8 < (List.length a0.Hosts : Int)))))) (pick_or (fun h9 => gv_t (not_f h9))) ?_
    refine tcond (fun h29 => ?_) (fun h29 => ?_)
    · exact rf_ret rfl
    · refine tjoin (mk := fun s32 : (List T_Spot) => [(V.sl (List.map T_Spot.c s32))]) (fun s32 => ?_) fun J31 j33 h34 => ?_
      · refine tjoin (mk := fun s37 : Unit => []) (fun s37 => ?_) fun J36 j38 h39 => ?_
        · exact rf_ret rfl
        · refine tkeepO2 ?_ rfl
          refine tsome ?_
          refine rf_loopI (mk := fun (i46 : Int) (s42 : (List T_Spot)) => [(V.sl (List.map T_Spot.c s42)), (vi (i46 : Int))]) hn a0.Hosts (s32) (fun i46 x47 h48 h49 h50 s42 rec40 k43 h44 => ?_) (fun s42 rec136 h135 => ?_)
          · refine tb (x := (V.sl (List.map T_Host.c a0.Hosts))) (rfl) ?_
            refine tb (x := (vi (List.length a0.Hosts : Int))) (p_len _) ?_
            refine tb (x := (vb (decide ((i46 : Int) < (List.length a0.Hosts : Int))))) (d_lss) ?_
            refine tcond_t h50 ?_
            refine tjoin (mk := fun s56 : (List T_Spot) => [(V.sl (List.map T_Spot.c s56))]) (fun s56 => ?_) fun J55 j57 h58 => ?_
            · refine tb (x := (vi ((i46 : Int) + 1))) (p_incN h49) ?_
              refine tkeepO2 ?_ rfl
              refine tsome ?_
              exact h44 (s56)
            · refine tb (x := (V.sl (List.map T_Host.c a0.Hosts))) (rfl) ?_
              refine tb (x := (V.ptr (T_Host.c x47))) (p_idx_at (c := T_Host.c) (fun _ => rfl) h48) ?_
              refine tb (x := (T_Host.e x47)) (rfl) ?_
              refine tb (x := V.agg (T_Host.c x47)) (by kernel_rfl) ?_
              refine tb (x := (vt x47.Name)) (rfl) ?_
              refine tbo (ty_railref1_Name hn x47.Name) fun r66 => ?_
              refine tb (x := (vb (!r66))) (d_not) ?_
              refine tcond (fun h68 => ?_) (fun h68 => ?_)
              · exact rf_ret rfl
              · refine tb (x := (T_Topo.e a0)) (rfl) ?_
                refine tb (x := (T_Spot.e x47.At)) (rfl) ?_
                refine tbo (ty_railref1_Spot hn a0 x47.At) fun r72 => ?_
                refine tb (x := (vb (!r72))) (d_not) ?_
                refine tcond (fun h74 => ?_) (fun h74 => ?_)
                · exact rf_ret rfl
                · refine tjoin (mk := fun s77 : (List T_Spot) => [(V.sl (List.map T_Spot.c s77))]) (fun s77 => ?_) fun J76 j78 h79 => ?_
                  · refine tjoin (mk := fun s82 : (List T_Spot) => [(V.sl (List.map T_Spot.c s82))]) (fun s82 => ?_) fun J81 j83 h84 => ?_
                    · refine tb (x := (T_Spot.e x47.At)) (rfl) ?_
                      refine tb (x := (V.sl (List.map T_Spot.c ([x47.At] : (List T_Spot))))) (by kernel_rfl) ?_
                      refine tbo (p_app (c := T_Spot.c) (fun _ => rfl) s82 ([x47.At] : (List T_Spot))) fun r88 => ?_
                      refine tkeepO2 ?_ rfl
                      refine tsome ?_
                      exact h58 (r88)
                    · refine tkeepO2 ?_ rfl
                      refine tkeepO2 ?_ rfl
                      refine tsome ?_
                      refine rf_loopI (mk := fun (i95 : Int) (s91 : Unit) => [(V.sl (List.map T_Spot.c s77)), (vi (i95 : Int))]) hn s77 () (fun i95 x96 h97 h98 h99 s91 rec89 k92 h93 => ?_) (fun s91 rec109 h108 => ?_)
                      · refine tb (x := (vi (List.length s77 : Int))) (p_len _) ?_
                        refine tb (x := (vb (decide ((i95 : Int) < (List.length s77 : Int))))) (d_lss) ?_
                        refine tcond_t h99 ?_
                        refine tb (x := (V.ptr (T_Spot.c x96))) (p_idx_at (c := T_Spot.c) (fun _ => rfl) h97) ?_
                        refine tb (x := (T_Spot.e x96)) (rfl) ?_
                        refine tb (x := (T_Spot.e x47.At)) (rfl) ?_
                        refine tb (x := (vb (decide (x96 = x47.At)))) (T_Spot.eql x96 x47.At) ?_
                        refine tcond (fun h106 => ?_) (fun h106 => ?_)
                        · exact rf_ret rfl
                        · refine tb (x := (vi ((i95 : Int) + 1))) (p_incN h98) ?_
                          refine tkeepO2 ?_ rfl
                          refine tkeepO2 ?_ rfl
                          refine tsome ?_
                          exact h93 ()
                      · refine tb (x := (vi (List.length s77 : Int))) (p_len _) ?_
                        refine tb (x := (vb (decide ((List.length s77 : Int) < (List.length s77 : Int))))) (d_lss) ?_
                        refine tcond_f h108 ?_
                        refine tkeepO2 ?_ rfl
                        refine tkeepO2 ?_ rfl
                        refine tsome ?_
                        exact h84 (s77)
                  · refine tkeepO2 ?_ rfl
                    refine tkeepO2 ?_ rfl
                    refine tsome ?_
                    refine rf_loopU (mk := fun (i118 : Int) (s114 : Unit) => [(V.sl (List.map T_Spot.c s42)), (vi i118)]) hn _ _ () (fun i118 h119 h120 h121 s114 rec112 k115 h116 => ?_) (fun i118 s114 rec123 h122 => ?_)
                    · refine tb (x := (vb (decide (i118 < (i46 : Int))))) (d_lss) ?_
                      refine tcond_t h119 ?_
                      refine tb (x := (V.sl (List.map T_Host.c a0.Hosts))) (rfl) ?_
                      refine tbo (p_idx (c := T_Host.c) (fun _ => rfl) a0.Hosts i118) fun r127 => ?_
                      refine tb (x := (V.ptr (T_Host.c r127))) (rfl) ?_
                      refine tb (x := (vt r127.Name)) (rfl) ?_
                      refine tb (x := (vt x47.Name)) (rfl) ?_
                      refine tb (x := (vb (decide (r127.Name = x47.Name)))) (p_eql_str) ?_
                      refine tcond (fun h132 => ?_) (fun h132 => ?_)
                      · exact rf_ret rfl
                      · refine tb (x := (vi (i118 + 1))) (p_inc h120 h121) ?_
                        refine tkeepO2 ?_ rfl
                        refine tkeepO2 ?_ rfl
                        refine tsome ?_
                        exact h116 ()
                    · refine tb (x := (vb (decide (i118 < (i46 : Int))))) (d_lss) ?_
                      refine tcond_f h122 ?_
                      refine tkeepO2 ?_ rfl
                      refine tkeepO2 ?_ rfl
                      refine tsome ?_
                      exact h79 (s42)
          · refine tb (x := (V.sl (List.map T_Host.c a0.Hosts))) (rfl) ?_
            refine tb (x := (vi (List.length a0.Hosts : Int))) (p_len _) ?_
            refine tb (x := (vb (decide ((List.length a0.Hosts : Int) < (List.length a0.Hosts : Int))))) (d_lss) ?_
            refine tcond_f h135 ?_
            exact h39 ()
      · refine tkeepO2 ?_ rfl
        refine tsome ?_
        refine rf_loopI (mk := fun (i146 : Int) (s142 : (List T_Spot)) => [(V.sl (List.map T_Spot.c s142)), (vi (i146 : Int))]) hn a0.Links ([]) (fun i146 x147 h148 h149 h150 s142 rec140 k143 h144 => ?_) (fun s142 rec240 h239 => ?_)
        · refine tb (x := (V.sl (List.map T_Link.c a0.Links))) (rfl) ?_
          refine tb (x := (vi (List.length a0.Links : Int))) (p_len _) ?_
          refine tb (x := (vb (decide ((i146 : Int) < (List.length a0.Links : Int))))) (d_lss) ?_
          refine tcond_t h150 ?_
          refine tjoin (mk := fun s156 : (List T_Spot) => [(V.sl (List.map T_Spot.c s156))]) (fun s156 => ?_) fun J155 j157 h158 => ?_
          · refine tb (x := (vi ((i146 : Int) + 1))) (p_incN h149) ?_
            refine tkeepO2 ?_ rfl
            refine tsome ?_
            exact h144 (s156)
          · refine tb (x := (V.sl (List.map T_Link.c a0.Links))) (rfl) ?_
            refine tb (x := (V.ptr (T_Link.c x147))) (p_idx_at (c := T_Link.c) (fun _ => rfl) h148) ?_
            refine tb (x := (T_Link.e x147)) (rfl) ?_
            refine tb (x := V.agg (T_Link.c x147)) (by kernel_rfl) ?_
            refine tb (x := (T_Topo.e a0)) (rfl) ?_
            refine tb (x := (T_Spot.e x147.A)) (rfl) ?_
            refine tbo (ty_railref1_Spot hn a0 x147.A) fun r167 => ?_
            refine tb (x := (T_Topo.e a0)) (rfl) ?_
            refine tb (x := (T_Spot.e x147.B)) (rfl) ?_
            refine tbo (ty_railref1_Spot hn a0 x147.B) fun r171 => ?_
            refine tb (x := (vb (!r167))) (d_not) ?_
            refine tg_f (x := (vb r171)) (fun h173 => rfl) ?_
            refine tg_f (x := (vb (!r171))) (fun h175 => by simp only [gv_t h175]; exact bind_some_eq (d_not)) ?_
            refine tb (x := (vb ((!r167) || (!r171)))) (pick_or (fun h9 => gv_t (not_f h9))) ?_
            refine tcond (fun h179 => ?_) (fun h179 => ?_)
            · exact rf_ret rfl
            · refine tb (x := (T_Spot.e x147.A)) (rfl) ?_
              refine tb (x := (T_Spot.e x147.B)) (rfl) ?_
              refine tb (x := (vb (decide (x147.A = x147.B)))) (T_Spot.eql x147.A x147.B) ?_
              refine tcond (fun h183 => ?_) (fun h183 => ?_)
              · exact rf_ret rfl
              · refine tjoin (mk := fun s186 : (List T_Spot) => [(V.sl (List.map T_Spot.c s186))]) (fun s186 => ?_) fun J185 j187 h188 => ?_
                · refine tb (x := (T_Spot.e x147.A)) (rfl) ?_
                  refine tb (x := (V.sl (List.map T_Spot.c ([x147.A] : (List T_Spot))))) (by kernel_rfl) ?_
                  refine tbo (p_app (c := T_Spot.c) (fun _ => rfl) s186 ([x147.A] : (List T_Spot))) fun r192 => ?_
                  refine tb (x := (T_Spot.e x147.B)) (rfl) ?_
                  refine tb (x := (V.sl (List.map T_Spot.c ([x147.B] : (List T_Spot))))) (by kernel_rfl) ?_
                  refine tbo (p_app (c := T_Spot.c) (fun _ => rfl) r192 ([x147.B] : (List T_Spot))) fun r196 => ?_
                  refine tkeepO2 ?_ rfl
                  refine tsome ?_
                  exact h158 (r196)
                · refine tkeepO2 ?_ rfl
                  refine tkeepO2 ?_ rfl
                  refine tsome ?_
                  refine rf_loopI (mk := fun (i203 : Int) (s199 : Unit) => [(V.sl (List.map T_Spot.c s142)), (vi (i203 : Int))]) hn s142 () (fun i203 x204 h205 h206 h207 s199 rec197 k200 h201 => ?_) (fun s199 rec236 h235 => ?_)
                  · refine tb (x := (vi (List.length s142 : Int))) (p_len _) ?_
                    refine tb (x := (vb (decide ((i203 : Int) < (List.length s142 : Int))))) (d_lss) ?_
                    refine tcond_t h207 ?_
                    refine tb (x := (V.ptr (T_Spot.c x204))) (p_idx_at (c := T_Spot.c) (fun _ => rfl) h205) ?_
                    refine tb (x := (T_Spot.e x204)) (rfl) ?_
                    refine tb (x := (T_Spot.e x147.A)) (rfl) ?_
                    refine tb (x := (vb (decide (x204 = x147.A)))) (T_Spot.eql x204 x147.A) ?_
                    refine tg_f (x := (V.sl (List.map T_Spot.c s142))) (fun h214 => rfl) ?_
                    refine tg_f (x := (vi (i203 : Int))) (fun h216 => rfl) ?_
                    refine tg_f (x := (V.ptr (T_Spot.c x204))) (fun h218 => by simp only [gv_t h218]; exact bind_some_eq (p_idx_at (c := T_Spot.c) (fun _ => rfl) h205)) ?_
                    refine tg_f (x := (T_Spot.e x204)) (fun h221 => by first | exact bind_some_eq (rfl) | (simp only [gv_t h221]; exact bind_some_eq (rfl))) ?_
                    refine tg_f (x := V.any) (fun h224 => rfl) ?_
                    refine tg_f (x := (T_Spot.e x147.B)) (fun h226 => bind_some_eq (gate_pos (not_t h226) (rfl))) ?_
                    refine tg_f (x := (vb (decide (x204 = x147.B)))) (fun h229 => by simp only [gv_t h229]; exact bind_some_eq (T_Spot.eql x204 x147.B)) ?_
                    refine tb (x := (vb ((decide (x204 = x147.A)) || (decide (x204 = x147.B))))) (pick_or (fun h9 => gv_t (not_f h9))) ?_
                    refine tcond (fun h233 => ?_) (fun h233 => ?_)
                    · exact rf_ret rfl
                    · refine tb (x := (vi ((i203 : Int) + 1))) (p_incN h206) ?_
                      refine tkeepO2 ?_ rfl
                      refine tkeepO2 ?_ rfl
                      refine tsome ?_
                      exact h201 ()
                  · refine tb (x := (vi (List.length s142 : Int))) (p_len _) ?_
                    refine tb (x := (vb (decide ((List.length s142 : Int) < (List.length s142 : Int))))) (d_lss) ?_
                    refine tcond_f h235 ?_
                    refine tkeepO2 ?_ rfl
                    refine tkeepO2 ?_ rfl
                    refine tsome ?_
                    exact h188 (s142)
        · refine tb (x := (V.sl (List.map T_Link.c a0.Links))) (rfl) ?_
          refine tb (x := (vi (List.length a0.Links : Int))) (p_len _) ?_
          refine tb (x := (vb (decide ((List.length a0.Links : Int) < (List.length a0.Links : Int))))) (d_lss) ?_
          refine tcond_f h239 ?_
          refine tkeepO2 ?_ rfl
          refine tsome ?_
          exact h34 (s142)

/-! railpoint/railref1.Net -/
def an_railref1_Net : Ann := .seq (.reg 0 [] [] []) (.seq (.reg 0 [] [] []) (.seq (.seq (.reg 0 [] [] []) (.cond none (.seq (.reg 0 [] [] []) (.no)) (.no))) (.seq (.seq (.reg 0 [] [] []) (.cond none (.seq (.reg 0 [] [] []) (.no)) (.no))) (.seq (.seq (.reg 0 [] [] []) (.blk (some []) (.loop [.kb 1, .s 4] (.seq (.seq (.reg 0 [] [] []) (.cond none (.no) (.no))) (.seq (.blk none (.seq (.reg 0 [] [] []) (.seq (.reg 0 [] [] []) (.cond none (.seq (.reg 0 [] [] []) (.no)) (.no))))) (.reg 0 [] [] [])))))) (.seq (.reg 0 [] [] []) (.no))))))
noncomputable def sem_railref1_Net (n : Nat) (xs : List V) : Option V := if xs.length ≤ 34 then denF Tryd.prog (envOf [(66, (sem_railref1_Topo n)), (13, (sem_railref1_Table n))]) n Tryd.f18 an_railref1_Net xs else none
theorem ok_railref1_Net (n : Nat) : SemOk Tryd.prog DW 18 (sem_railref1_Net n) := fun xs y h => by
  unfold sem_railref1_Net at h
  split at h
  · rename_i hl
    exact denF_ok stb Tryd.func18 (by kernel_rfl) (envOf_ok (semsOk_cons (ok_railref1_Topo n) (semsOk_cons (ok_railref1_Table n) semsOk_nil))) (by rw [Tryd.ntmps18]; exact hl) h
  · cases h
theorem eq_railref1_Net (n : Nat) (x0 : V) : sem_railref1_Net n [x0] =
 (V.cellsO x0).bind fun v1 =>
 (ldk (some 3) (List.drop 0 v1)).bind fun v2 =>
 ((sem_railref1_Topo n) [v2]).bind fun v3 =>
 (bin2 Tryd.prog BinOp.neq 3 (ot 8) (oc 0) v3 (vi 0)).bind fun v4 =>
 condV v4 (
 some v3) (
 (ldk none (List.drop 3 v1)).bind fun v5 =>
 (lenS [v5]).bind fun v6 =>
 (ldk none (List.drop 0 v1)).bind fun v7 =>
 (bin2 Tryd.prog BinOp.neq 3 (ot 13) (ot 16) v6 v7).bind fun v8 =>
 condV v8 (
 some (vi 3)) (
 JoinPt (fun vs9 =>
 some (vi 0)) fun J10 =>
 (keepO (some v1) (some v1) (some [(vi 0)])).bind (fixN (fun rec11 vs12 =>
 (ldk none (List.drop 3 v1)).bind fun v13 =>
 (lenS [v13]).bind fun v14 =>
 (bin2 Tryd.prog BinOp.lss 3 (ot 18) (ot 21) (List.getD vs12 0 V.any) v14).bind fun v15 =>
 condV v15 (
 (ldk none (List.drop 3 v1)).bind fun v16 =>
 (idxS 1 v16 (List.getD vs12 0 V.any)).bind fun v17 =>
 (ldp none v17).bind fun v18 =>
 ((sem_railref1_Table n) [v18]).bind fun v19 =>
 (bin2 Tryd.prog BinOp.neq 3 (ot 31) (oc 0) v19 (vi 0)).bind fun v20 =>
 condV v20 (
 some v19) (
 (bin2 Tryd.prog BinOp.add 3 (ot 23) (oc 1) (List.getD vs12 0 V.any) (vi 1)).bind fun v21 =>
 (keepO (some v1) (some v1) (some [v21])).bind rec11)) (
 J10 [])) n))) := by kernel_rfl
noncomputable def t_railref1_Net (a0 : T_Net) : Option Int :=
 (t_railref1_Topo a0.Topo).bind fun r4 =>
 if (decide (r4 ≠ 0)) = true then (
 some r4) else (
 if (decide ((List.length a0.Tables : Int) ≠ a0.Topo.Switches)) = true then (
 some 3) else (
 join (fun (s14 : Unit) =>
 some 0) fun j15 =>
 loopI a0.Tables (fun (i23 : Int) x24 (s19 : Unit) k20 =>
 (t_railref1_Table x24).bind fun r35 =>
 if (decide (r35 ≠ 0)) = true then (
 some r35) else (
 k20 ())) (fun (s19 : Unit) =>
 j15 ()) ()))
theorem ty_railref1_Net {n : Nat} (hn : bigN ≤ n) (a0 : T_Net) : Rv (fun x : Int => (vi x)) (sem_railref1_Net n [(T_Net.e a0)]) (t_railref1_Net a0) := by
  rw [eq_railref1_Net]
  unfold t_railref1_Net
  refine tb (x := (T_Net.c a0)) rfl ?_
  refine tb (x := (T_Topo.e a0.Topo)) (rfl) ?_
  refine tbo (ty_railref1_Topo hn a0.Topo) fun r4 => ?_
  refine tb (x := (vb (decide (r4 ≠ 0)))) (d_neq) ?_
  refine tcond (fun h6 => ?_) (fun h6 => ?_)
  · exact rf_ret rfl
  · refine tb (x := (V.sl (List.map (cS T_Rule.c) a0.Tables))) (rfl) ?_
    refine tb (x := (vi (List.length a0.Tables : Int))) (p_len _) ?_
    refine tb (x := (vi a0.Topo.Switches)) (rfl) ?_
    refine tb (x := (vb (decide ((List.length a0.Tables : Int) ≠ a0.Topo.Switches)))) (d_neq) ?_
    refine tcond (fun h11 => ?_) (fun h11 => ?_)
    · exact rf_ret rfl
    · refine tjoin (mk := fun s14 : Unit => []) (fun s14 => ?_) fun J13 j15 h16 => ?_
      · exact rf_ret rfl
      · refine tkeepO2 ?_ rfl
        refine tsome ?_
        refine rf_loopI (mk := fun (i23 : Int) (s19 : Unit) => [(vi (i23 : Int))]) hn a0.Tables () (fun i23 x24 h25 h26 h27 s19 rec17 k20 h21 => ?_) (fun s19 rec40 h39 => ?_)
        · refine tb (x := (V.sl (List.map (cS T_Rule.c) a0.Tables))) (rfl) ?_
          refine tb (x := (vi (List.length a0.Tables : Int))) (p_len _) ?_
          refine tb (x := (vb (decide ((i23 : Int) < (List.length a0.Tables : Int))))) (d_lss) ?_
          refine tcond_t h27 ?_
          refine tb (x := (V.sl (List.map (cS T_Rule.c) a0.Tables))) (rfl) ?_
          refine tb (x := (V.ptr [(V.sl (List.map T_Rule.c x24))])) (p_idx_at (c := (cS T_Rule.c)) (fun _ => rfl) h25) ?_
          refine tb (x := (V.sl (List.map T_Rule.c x24))) (rfl) ?_
          refine tbo (ty_railref1_Table hn x24) fun r35 => ?_
          refine tb (x := (vb (decide (r35 ≠ 0)))) (d_neq) ?_
          refine tcond (fun h37 => ?_) (fun h37 => ?_)
          · exact rf_ret rfl
          · refine tb (x := (vi ((i23 : Int) + 1))) (p_incN h26) ?_
            refine tkeepO2 ?_ rfl
            refine tsome ?_
            exact h21 ()
        · refine tb (x := (V.sl (List.map (cS T_Rule.c) a0.Tables))) (rfl) ?_
          refine tb (x := (vi (List.length a0.Tables : Int))) (p_len _) ?_
          refine tb (x := (vb (decide ((List.length a0.Tables : Int) < (List.length a0.Tables : Int))))) (d_lss) ?_
          refine tcond_f h39 ?_
          exact h16 ()

/-! railpoint/topo.Spot -/
def an_topo_Spot : Ann := .seq (.reg 0 [] [] []) (.seq (.reg 0 [] [] []) (.no))
noncomputable def sem_topo_Spot (n : Nat) (xs : List V) : Option V := if xs.length ≤ 25 then denF Tryd.prog (envOf []) n Tryd.f139 an_topo_Spot xs else none
theorem ok_topo_Spot (n : Nat) : SemOk Tryd.prog DW 139 (sem_topo_Spot n) := fun xs y h => by
  unfold sem_topo_Spot at h
  split at h
  · rename_i hl
    exact denF_ok stb Tryd.func139 (by kernel_rfl) (envOf_ok semsOk_nil) (by rw [Tryd.ntmps139]; exact hl) h
  · cases h
theorem eq_topo_Spot (n : Nat) (x0 x1 : V) : sem_topo_Spot n [x0, x1] =
 (V.cellsO x0).bind fun v1 =>
 (V.cellsO x1).bind fun v2 =>
 (ldk none (List.drop 0 v2)).bind fun v3 =>
 (bin2 Tryd.prog BinOp.geq 3 (ot 6) (oc 1) v3 (vi 1)).bind fun v4 =>
 (guardV v4 true (some V.any)).bind fun v5 =>
 (guardV v4 true ((gate v4 true (ldk none (List.drop 0 v2))).bind fun v6 =>
 some v6)).bind fun v7 =>
 (guardV v4 true (some V.any)).bind fun v8 =>
 (guardV v4 true ((gate v4 true (ldk none (List.drop 0 v1))).bind fun v9 =>
 some v9)).bind fun v10 =>
 (guardV v4 true ((bin2 Tryd.prog BinOp.leq 3 (ot 10) (ot 12) v7 v10).bind fun v11 =>
 some v11)).bind fun v12 =>
 (pickV v4 v12 (vb false)).bind fun v13 =>
 (guardV v13 true (some V.any)).bind fun v14 =>
 (guardV v13 true ((gate v13 true (ldk none (List.drop 1 v2))).bind fun v15 =>
 some v15)).bind fun v16 =>
 (guardV v13 true ((bin2 Tryd.prog BinOp.geq 3 (ot 17) (oc 1) v16 (vi 1)).bind fun v17 =>
 some v17)).bind fun v18 =>
 (pickV v13 v18 (vb false)).bind fun v19 =>
 (guardV v19 true (some V.any)).bind fun v20 =>
 (guardV v19 true ((gate v19 true (ldk none (List.drop 1 v2))).bind fun v21 =>
 some v21)).bind fun v22 =>
 (guardV v19 true ((bin2 Tryd.prog BinOp.leq 3 (ot 22) (oc 4) v22 (vi 4)).bind fun v23 =>
 some v23)).bind fun v24 =>
 (pickV v19 v24 (vb false)).bind fun v25 =>
 some v25 := by kernel_rfl
noncomputable def t_topo_Spot (a0 : T_Topo) (a1 : T_Spot) : Option Bool :=
 some ((((decide (1 ≤ a1.Switch)) && (decide (a1.Switch ≤ a0.Switches))) && (decide (1 ≤ a1.Port))) && (decide (a1.Port ≤ 4)))
theorem ty_topo_Spot {n : Nat} (hn : bigN ≤ n) (a0 : T_Topo) (a1 : T_Spot) : Rv (fun x : Bool => (vb x)) (sem_topo_Spot n [(T_Topo.e a0), (T_Spot.e a1)]) (t_topo_Spot a0 a1) := by
  rw [eq_topo_Spot]
  unfold t_topo_Spot
  refine tb (x := (T_Topo.c a0)) rfl ?_
  refine tb (x := (T_Spot.c a1)) rfl ?_
  refine tb (x := (vi a1.Switch)) (rfl) ?_
  refine tb (x := (vb (decide (1 ≤ a1.Switch)))) (d_geq) ?_
  refine tg (x := V.any) (fun h5 => rfl) ?_
  refine tg (x := (vi a1.Switch)) (fun h7 => bind_some_eq (gate_pos h7 (rfl))) ?_
  refine tg (x := V.any) (fun h10 => rfl) ?_
  refine tg (x := (vi a0.Switches)) (fun h12 => bind_some_eq (gate_pos h12 (rfl))) ?_
  refine tg (x := (vb (decide (a1.Switch ≤ a0.Switches)))) (fun h15 => by simp only [gv_t h15]; exact bind_some_eq (d_leq)) ?_
  refine tb (x := (vb ((decide (1 ≤ a1.Switch)) && (decide (a1.Switch ≤ a0.Switches))))) (pick_and (fun h9 => gv_t h9)) ?_
  refine tg (x := V.any) (fun h19 => rfl) ?_
  refine tg (x := (vi a1.Port)) (fun h21 => bind_some_eq (gate_pos h21 (rfl))) ?_
  refine tg (x := (vb (decide (1 ≤ a1.Port)))) (fun h24 => by simp only [gv_t h24]; exact bind_some_eq (d_geq)) ?_
  refine tb (x := (vb (((decide (1 ≤ a1.Switch)) && (decide (a1.Switch ≤ a0.Switches))) && (decide (1 ≤ a1.Port))))) (pick_and (fun h9 => gv_t h9)) ?_
  refine tg (x := V.any) (fun h28 => rfl) ?_
  refine tg (x := (vi a1.Port)) (fun h30 => bind_some_eq (gate_pos h30 (rfl))) ?_
  refine tg (x := (vb (decide (a1.Port ≤ 4)))) (fun h33 => by simp only [gv_t h33]; exact bind_some_eq (d_leq)) ?_
  refine tb (x := (vb ((((decide (1 ≤ a1.Switch)) && (decide (a1.Switch ≤ a0.Switches))) && (decide (1 ≤ a1.Port))) && (decide (a1.Port ≤ 4))))) (pick_and (fun h9 => gv_t h9)) ?_
  exact rf_ret rfl

/-! railpoint/topo.Name -/
def an_topo_Name : Ann := .seq (.reg 0 [] [] []) (.seq (.seq (.reg 0 [] [] []) (.blk (some []) (.loop [.s 8] (.seq (.reg 0 [] [] []) (.seq (.cond none (.no) (.no)) (.seq (.blk none (.seq (.reg 0 [] [] []) (.seq (.reg 0 [] [] []) (.cond none (.seq (.reg 0 [] [] []) (.no)) (.no))))) (.reg 0 [] [] []))))))) (.seq (.reg 0 [] [] []) (.no)))
noncomputable def sem_topo_Name (n : Nat) (xs : List V) : Option V := if xs.length ≤ 26 then denF Tryd.prog (envOf []) n Tryd.f140 an_topo_Name xs else none
theorem ok_topo_Name (n : Nat) : SemOk Tryd.prog DW 140 (sem_topo_Name n) := fun xs y h => by
  unfold sem_topo_Name at h
  split at h
  · rename_i hl
    exact denF_ok stb Tryd.func140 (by kernel_rfl) (envOf_ok semsOk_nil) (by rw [Tryd.ntmps140]; exact hl) h
  · cases h
theorem eq_topo_Name (n : Nat) (x0 : V) : sem_topo_Name n [x0] =
 (s2b x0).bind fun v1 =>
 (lenS [v1]).bind fun v2 =>
 JoinPt (fun vs3 =>
 (bin2 Tryd.prog BinOp.neq 9 (ot 19) (Operand.const (Go.Value.string (ByteArray.mk #[]))) x0 (V.lit (Go.Value.string (ByteArray.mk #[])))).bind fun v5 =>
 (guardV v5 true (some x0)).bind fun v6 =>
 (guardV v5 true ((lenT [v6]).bind fun v7 =>
 some v7)).bind fun v8 =>
 (guardV v5 true ((bin2 Tryd.prog BinOp.leq 3 (ot 23) (oc 6) v8 (vi 6)).bind fun v9 =>
 some v9)).bind fun v10 =>
 (pickV v5 v10 (vb false)).bind fun v11 =>
 some v11) fun J4 =>
 (fixN (fun rec12 vs13 =>
 (bin2 Tryd.prog BinOp.lss 3 (ot 8) (ot 7) (List.getD vs13 0 V.any) v2).bind fun v14 =>
 condV v14 (
 (idxS 1 v1 (List.getD vs13 0 V.any)).bind fun v15 =>
 (ldp none v15).bind fun v16 =>
 (bin2 Tryd.prog BinOp.lss 5 (ot 12) (Operand.const (Go.Value.int Go.IntKind.u8 97)) v16 (V.lit (Go.Value.int Go.IntKind.u8 97))).bind fun v17 =>
 (guardV v17 false (some v16)).bind fun v18 =>
 (guardV v17 false ((bin2 Tryd.prog BinOp.gtr 5 (ot 15) (Operand.const (Go.Value.int Go.IntKind.u8 122)) v18 (V.lit (Go.Value.int Go.IntKind.u8 122))).bind fun v19 =>
 some v19)).bind fun v20 =>
 (pickV v17 (vb true) v20).bind fun v21 =>
 condV v21 (
 some (vb false)) (
 (bin2 Tryd.prog BinOp.add 3 (ot 8) (oc 1) (List.getD vs13 0 V.any) (vi 1)).bind fun v22 =>
 rec12 [v22])) (
 J4 [])) n) [(vi 0)] := by kernel_rfl
noncomputable def t_topo_Name (a0 : ByteArray) : Option Bool :=
 need (decide ((a0.size : Int) ≤ maxI)) (
 join (fun (s5 : Unit) =>
 some ((!decide (a0 = (ByteArray.mk #[]))) && (decide ((a0.size : Int) ≤ 6)))) fun j6 =>
 loopI (numsOf a0) (fun (i24 : Int) x25 (s20 : Unit) k21 =>
 if ((decide (x25 < 97)) || (decide (122 < x25))) = true then (
 some false) else (
 k21 ())) (fun (s20 : Unit) =>
 j6 ()) ())
theorem ty_topo_Name {n : Nat} (hn : bigN ≤ n) (a0 : ByteArray) : Rv (fun x : Bool => (vb x)) (sem_topo_Name n [(vt a0)]) (t_topo_Name a0) := by
  rw [eq_topo_Name]
  unfold t_topo_Name
  refine tneed (x := (V.sl (List.map cY (numsOf a0)))) (fun h44 => p_s2b h44) fun h44 => ?_
  refine tb (x := (vi (List.length (numsOf a0) : Int))) (p_len _) ?_
  refine tjoin (mk := fun s5 : Unit => []) (fun s5 => ?_) fun J4 j6 h7 => ?_
  · refine tb (x := (vb (!decide (a0 = (ByteArray.mk #[]))))) (p_neq_str) ?_
    refine tg (x := (vt a0)) (fun h9 => rfl) ?_
    refine tg (x := (vi (a0.size : Int))) (fun h11 => by simp only [gv_t h11]; exact bind_some_eq (rfl)) ?_
    refine tg (x := (vb (decide ((a0.size : Int) ≤ 6)))) (fun h14 => by simp only [gv_t h14]; exact bind_some_eq (d_leq)) ?_
    refine tb (x := (vb ((!decide (a0 = (ByteArray.mk #[]))) && (decide ((a0.size : Int) ≤ 6))))) (pick_and (fun h9 => gv_t h9)) ?_
    exact rf_ret rfl
  · refine rf_loopI (mk := fun (i24 : Int) (s20 : Unit) => [(vi (i24 : Int))]) hn (numsOf a0) () (fun i24 x25 h26 h27 h28 s20 rec18 k21 h22 => ?_) (fun s20 rec42 h41 => ?_)
    · refine tb (x := (vb (decide ((i24 : Int) < (List.length (numsOf a0) : Int))))) (d_lss) ?_
      refine tcond_t h28 ?_
      refine tb (x := (V.ptr [(V.lit (.int .u8 x25))])) (p_idx_at (c := cY) (fun _ => rfl) h26) ?_
      refine tb (x := (V.lit (.int .u8 x25))) (rfl) ?_
      refine tb (x := (vb (decide (x25 < 97)))) (q_lss) ?_
      refine tg_f (x := (V.lit (.int .u8 x25))) (fun h33 => rfl) ?_
      refine tg_f (x := (vb (decide (122 < x25)))) (fun h35 => by simp only [gv_t h35]; exact bind_some_eq (q_gtr)) ?_
      refine tb (x := (vb ((decide (x25 < 97)) || (decide (122 < x25))))) (pick_or (fun h9 => gv_t (not_f h9))) ?_
      refine tcond (fun h39 => ?_) (fun h39 => ?_)
      · exact rf_ret rfl
      · refine tb (x := (vi ((i24 : Int) + 1))) (p_incN h27) ?_
        exact h22 ()
    · refine tb (x := (vb (decide ((List.length (numsOf a0) : Int) < (List.length (numsOf a0) : Int))))) (d_lss) ?_
      refine tcond_f h41 ?_
      exact h7 ()

/-! railpoint/topo.Check -/
def an_topo_Check : Ann := .seq (.reg 0 [] [] []) (.seq (.blk none (.seq (.reg 0 [] [] []) (.cond none (.seq (.reg 0 [] [] []) (.no)) (.seq (.reg 0 [] [] []) (.cond none (.seq (.reg 0 [] [] []) (.no)) (.no)))))) (.seq (.reg 0 [] [] []) (.seq (.seq (.reg 0 [] [] []) (.blk (some [.kb 1, .o 3]) (.loop [.kb 1, .o 3, .s 35] (.seq (.reg 0 [] [] []) (.seq (.cond none (.no) (.no)) (.seq (.blk none (.seq (.reg 0 [] [] []) (.seq (.seq (.reg 0 [] [] []) (.cond none (.seq (.reg 0 [] [] []) (.no)) (.no))) (.seq (.seq (.reg 0 [] [] []) (.cond none (.seq (.reg 0 [] [] []) (.no)) (.no))) (.reg 72 [] [] []))))) (.reg 0 [] [] []))))))) (.seq (.reg 0 [] [] []) (.seq (.seq (.reg 0 [] [] []) (.blk (some []) (.loop [.kb 1, .o 3, .o 6, .s 81] (.seq (.reg 0 [] [] []) (.seq (.cond none (.no) (.no)) (.seq (.blk none (.seq (.reg 0 [] [] []) (.seq (.blk none (.seq (.reg 0 [] [] []) (.cond none (.seq (.reg 0 [] [] []) (.no)) (.seq (.reg 0 [] [] []) (.cond none (.seq (.reg 0 [] [] []) (.no)) (.seq (.reg 0 [] [] []) (.cond none (.seq (.reg 0 [] [] []) (.no)) (.no)))))))) (.reg 72 [] [] [])))) (.reg 0 [] [] []))))))) (.seq (.reg 0 [] [] []) (.no)))))))
noncomputable def sem_topo_Check (n : Nat) (xs : List V) : Option V := if xs.length ≤ 117 then denF Tryd.prog (envOf [(139, (sem_topo_Spot n)), (140, (sem_topo_Name n))]) n Tryd.f78 an_topo_Check xs else none
theorem ok_topo_Check (n : Nat) : SemOk Tryd.prog DW 78 (sem_topo_Check n) := fun xs y h => by
  unfold sem_topo_Check at h
  split at h
  · rename_i hl
    exact denF_ok stb Tryd.func78 (by kernel_rfl) (envOf_ok (semsOk_cons (ok_topo_Spot n) (semsOk_cons (ok_topo_Name n) semsOk_nil))) (by rw [Tryd.ntmps78]; exact hl) h
  · cases h
theorem eq_topo_Check (n : Nat) (x0 : V) : sem_topo_Check n [x0] =
 (V.cellsO x0).bind fun v1 =>
 (ldk none (List.drop 0 v1)).bind fun v2 =>
 (bin2 Tryd.prog BinOp.lss 3 (ot 11) (oc 1) v2 (vi 1)).bind fun v3 =>
 (guardV v3 false (some V.any)).bind fun v4 =>
 (guardV v3 false ((gate v3 false (ldk none (List.drop 0 v1))).bind fun v5 =>
 some v5)).bind fun v6 =>
 (guardV v3 false ((bin2 Tryd.prog BinOp.gtr 3 (ot 15) (oc 6) v6 (vi 6)).bind fun v7 =>
 some v7)).bind fun v8 =>
 (pickV v3 (vb true) v8).bind fun v9 =>
 condV v9 (
 (scal1 Tryd.prog (Instr.makeInterface 143) (vi 1)).bind fun v10 =>
 some v10) (
 (ldk none (List.drop 1 v1)).bind fun v11 =>
 (lenS [v11]).bind fun v12 =>
 (bin2 Tryd.prog BinOp.gtr 3 (ot 22) (oc 200) v12 (vi 200)).bind fun v13 =>
 (guardV v13 false (some V.any)).bind fun v14 =>
 (guardV v13 false ((gate v13 false (ldk none (List.drop 2 v1))).bind fun v15 =>
 some v15)).bind fun v16 =>
 (guardV v13 false ((lenS [v16]).bind fun v17 =>
 some v17)).bind fun v18 =>
 (guardV v13 false ((bin2 Tryd.prog BinOp.gtr 3 (ot 27) (oc 8) v18 (vi 8)).bind fun v19 =>
 some v19)).bind fun v20 =>
 (pickV v13 (vb true) v20).bind fun v21 =>
 condV v21 (
 (scal1 Tryd.prog (Instr.makeInterface 143) (vi 4)).bind fun v22 =>
 some v22) (
 (ldk none (List.drop 1 v1)).bind fun v23 =>
 (lenS [v23]).bind fun v24 =>
 JoinPt (fun vs25 =>
 (ldk none (List.drop 2 v1)).bind fun v27 =>
 (lenS [v27]).bind fun v28 =>
 JoinPt (fun vs29 =>
 some vn) fun J30 =>
 (keepO (some v1) (some v1) (some [(List.getD vs25 0 V.any), (V.mp []), (vi 0)])).bind (fixN (fun rec31 vs32 =>
 (bin2 Tryd.prog BinOp.lss 3 (ot 81) (ot 80) (List.getD vs32 2 V.any) v28).bind fun v33 =>
 condV v33 (
 (idxS 3 v27 (List.getD vs32 2 V.any)).bind fun v34 =>
 (ldp (some 3) v34).bind fun v35 =>
 (spliceV [(V.lit (Go.Value.string (ByteArray.mk #[]))), (vi 0), (vi 0)] 0 3 v35).bind fun v36 =>
 (ldk none (List.drop 0 (aggL v36))).bind fun v37 =>
 ((sem_topo_Name n) [v37]).bind fun v38 =>
 (scal1 Tryd.prog (Op.unary Go.UnOp.not) v38).bind fun v39 =>
 condV v39 (
 (scal1 Tryd.prog (Instr.makeInterface 143) (vi 2)).bind fun v40 =>
 some v40) (
 (ldk (some 3) (List.drop 0 v1)).bind fun v41 =>
 (ldk (some 2) (List.drop 1 (aggL v36))).bind fun v42 =>
 ((sem_topo_Spot n) [v41, v42]).bind fun v43 =>
 (scal1 Tryd.prog (Op.unary Go.UnOp.not) v43).bind fun v44 =>
 condV v44 (
 (scal1 Tryd.prog (Instr.makeInterface 143) (vi 1)).bind fun v45 =>
 some v45) (
 (ldk none (List.drop 0 (aggL v36))).bind fun v46 =>
 (lookV Tryd.prog 221 false (List.getD vs32 1 V.any) v46).bind fun v47 =>
 (guardV v47 false (some V.any)).bind fun v48 =>
 (guardV v47 false (some V.any)).bind fun v49 =>
 (guardV v47 false ((gate v47 false (ldk (some 2) (List.drop 1 (aggL v36)))).bind fun v50 =>
 some v50)).bind fun v51 =>
 (guardV v47 false ((gate v47 false (lookV Tryd.prog 220 false (List.getD vs32 0 V.any) v51)).bind fun v52 =>
 some v52)).bind fun v53 =>
 (pickV v47 (vb true) v53).bind fun v54 =>
 condV v54 (
 (scal1 Tryd.prog (Instr.makeInterface 143) (vi 7)).bind fun v55 =>
 some v55) (
 (ldk none (List.drop 0 (aggL v36))).bind fun v56 =>
 (litV v56).bind fun v57 =>
 (ldk (some 2) (List.drop 1 (aggL v36))).bind fun v58 =>
 (litV v58).bind fun v59 =>
 (putV Tryd.prog 221 (List.getD vs32 1 V.any) v57 (vb true)).bind fun v60 =>
 (putV Tryd.prog 220 (List.getD vs32 0 V.any) v59 (vb true)).bind fun v61 =>
 (bin2 Tryd.prog BinOp.add 3 (ot 81) (oc 1) (List.getD vs32 2 V.any) (vi 1)).bind fun v62 =>
 (keepO (some v1) (some v1) (some [v61, v60, v62])).bind rec31)))) (
 J30 [])) n)) fun J26 =>
 (keepO (some v1) (some v1) (some [(V.mp []), (vi 0)])).bind (fixN (fun rec63 vs64 =>
 (bin2 Tryd.prog BinOp.lss 3 (ot 35) (ot 34) (List.getD vs64 1 V.any) v24).bind fun v65 =>
 condV v65 (
 (idxS 4 v23 (List.getD vs64 1 V.any)).bind fun v66 =>
 (ldp (some 4) v66).bind fun v67 =>
 (spliceV [(vi 0), (vi 0), (vi 0), (vi 0)] 0 4 v67).bind fun v68 =>
 (ldk (some 3) (List.drop 0 v1)).bind fun v69 =>
 (ldk (some 2) (List.drop 0 (aggL v68))).bind fun v70 =>
 ((sem_topo_Spot n) [v69, v70]).bind fun v71 =>
 (scal1 Tryd.prog (Op.unary Go.UnOp.not) v71).bind fun v72 =>
 (guardV v72 false ((ldk (some 3) (List.drop 0 v1)).bind fun v73 =>
 some v73)).bind fun v74 =>
 (guardV v72 false (some V.any)).bind fun v75 =>
 (guardV v72 false ((gate v72 false (ldk (some 2) (List.drop 2 (aggL v68)))).bind fun v76 =>
 some v76)).bind fun v77 =>
 (guardV v72 false (((sem_topo_Spot n) [v74, v77]).bind fun v78 =>
 some v78)).bind fun v79 =>
 (guardV v72 false ((scal1 Tryd.prog (Op.unary Go.UnOp.not) v79).bind fun v80 =>
 some v80)).bind fun v81 =>
 (pickV v72 (vb true) v81).bind fun v82 =>
 condV v82 (
 (scal1 Tryd.prog (Instr.makeInterface 143) (vi 1)).bind fun v83 =>
 some v83) (
 (ldk (some 2) (List.drop 0 (aggL v68))).bind fun v84 =>
 (lookV Tryd.prog 220 false (List.getD vs64 0 V.any) v84).bind fun v85 =>
 (guardV v85 false (some V.any)).bind fun v86 =>
 (guardV v85 false (some V.any)).bind fun v87 =>
 (guardV v85 false ((gate v85 false (ldk (some 2) (List.drop 2 (aggL v68)))).bind fun v88 =>
 some v88)).bind fun v89 =>
 (guardV v85 false ((gate v85 false (lookV Tryd.prog 220 false (List.getD vs64 0 V.any) v89)).bind fun v90 =>
 some v90)).bind fun v91 =>
 (pickV v85 (vb true) v91).bind fun v92 =>
 (guardV v92 false (some V.any)).bind fun v93 =>
 (guardV v92 false ((gate v92 false (ldk (some 2) (List.drop 0 (aggL v68)))).bind fun v94 =>
 some v94)).bind fun v95 =>
 (guardV v92 false (some V.any)).bind fun v96 =>
 (guardV v92 false ((gate v92 false (ldk (some 2) (List.drop 2 (aggL v68)))).bind fun v97 =>
 some v97)).bind fun v98 =>
 (guardV v92 false ((bin2 Tryd.prog BinOp.eql 62 (ot 64) (ot 66) v95 v98).bind fun v99 =>
 some v99)).bind fun v100 =>
 (pickV v92 (vb true) v100).bind fun v101 =>
 condV v101 (
 (scal1 Tryd.prog (Instr.makeInterface 143) (vi 7)).bind fun v102 =>
 some v102) (
 (ldk (some 2) (List.drop 0 (aggL v68))).bind fun v103 =>
 (litV v103).bind fun v104 =>
 (ldk (some 2) (List.drop 2 (aggL v68))).bind fun v105 =>
 (litV v105).bind fun v106 =>
 (putV Tryd.prog 220 (List.getD vs64 0 V.any) v104 (vb true)).bind fun v107 =>
 (putV Tryd.prog 220 v107 v106 (vb true)).bind fun v108 =>
 (bin2 Tryd.prog BinOp.add 3 (ot 35) (oc 1) (List.getD vs64 1 V.any) (vi 1)).bind fun v109 =>
 (keepO (some v1) (some v1) (some [v108, v109])).bind rec63))) (
 (keepO (some v1) (some v1) (some [(List.getD vs64 0 V.any)])).bind J26)) n))) := by kernel_rfl
noncomputable def t_topo_Check (a0 : T_Topo) : Option Int :=
 if ((decide (a0.Switches < 1)) || (decide (6 < a0.Switches))) = true then (
 some 1) else (
 if ((decide (200 < (List.length a0.Links : Int))) || (decide (8 < (List.length a0.Hosts : Int)))) = true then (
 some 4) else (
 join (fun (s36 : (List (T_Spot × Bool))) =>
 join (fun (s43 : Unit) =>
 some 0) fun j44 =>
 loopI a0.Hosts (fun (i52 : Int) x53 (s48 : ((List (T_Spot × Bool)) × (List (ByteArray × Bool)))) k49 =>
 (t_topo_Name x53.Name).bind fun r63 =>
 if (!r63) = true then (
 some 2) else (
 (t_topo_Spot a0 x53.At).bind fun r70 =>
 if (!r70) = true then (
 some 1) else (
 if ((mget s48.2 x53.Name false) || (mget s48.1 x53.At false)) = true then (
 some 7) else (
 k49 ((mput s48.1 x53.At true), (mput s48.2 x53.Name true)))))) (fun (s48 : ((List (T_Spot × Bool)) × (List (ByteArray × Bool)))) =>
 j44 ()) (s36, [])) fun j37 =>
 loopI a0.Links (fun (i105 : Int) x106 (s101 : (List (T_Spot × Bool))) k102 =>
 (t_topo_Spot a0 x106.A).bind fun r117 =>
 (gd (!(!r117)) default (t_topo_Spot a0 x106.B)).bind fun r130 =>
 if ((!r117) || (!r130)) = true then (
 some 1) else (
 if (((mget s101 x106.A false) || (mget s101 x106.B false)) || (decide (x106.A = x106.B))) = true then (
 some 7) else (
 k102 (mput (mput s101 x106.A true) x106.B true)))) (fun (s101 : (List (T_Spot × Bool))) =>
 j37 (s101)) ([])))
theorem ty_topo_Check {n : Nat} (hn : bigN ≤ n) (a0 : T_Topo) : Rv (fun x : Int => (eV x)) (sem_topo_Check n [(T_Topo.e a0)]) (t_topo_Check a0) := by
  rw [eq_topo_Check]
  unfold t_topo_Check
  refine tb (x := (T_Topo.c a0)) rfl ?_
  refine tb (x := (vi a0.Switches)) (rfl) ?_
  refine tb (x := (vb (decide (a0.Switches < 1)))) (d_lss) ?_
  refine tg_f (x := V.any) (fun h4 => rfl) ?_
  refine tg_f (x := (vi a0.Switches)) (fun h6 => bind_some_eq (gate_pos (not_t h6) (rfl))) ?_
  refine tg_f (x := (vb (decide (6 < a0.Switches)))) (fun h9 => by simp only [gv_t h9]; exact bind_some_eq (d_gtr)) ?_
  refine tb (x := (vb ((decide (a0.Switches < 1)) || (decide (6 < a0.Switches))))) (pick_or (fun h9 => gv_t (not_f h9))) ?_
  refine tcond (fun h13 => ?_) (fun h13 => ?_)
  · refine tb (x := (eV 1)) (p_mkE (by decide)) ?_
    exact rf_ret rfl
  · refine tb (x := (V.sl (List.map T_Link.c a0.Links))) (rfl) ?_
    refine tb (x := (vi (List.length a0.Links : Int))) (p_len _) ?_
    refine tb (x := (vb (decide (200 < (List.length a0.Links : Int))))) (d_gtr) ?_
    refine tg_f (x := V.any) (fun h18 => rfl) ?_
    refine tg_f (x := (V.sl (List.map T_Host.c a0.Hosts))) (fun h20 => bind_some_eq (gate_pos (not_t h20) (rfl))) ?_
    refine tg_f (x := (vi (List.length a0.Hosts : Int))) (fun h23 => by simp only [gv_t h23]; exact bind_some_eq (p_len _)) ?_
    refine tg_f (x := (vb (decide (8 < (List.length a0.Hosts : Int))))) (fun h26 => by simp only [gv_t h26]; exact bind_some_eq (d_gtr)) ?_
    refine tb (x := (vb ((decide (200 < (List.length a0.Links : Int))) || (decide (8 < (List.length a0.Hosts : Int)))))) (pick_or (fun h9 => gv_t (not_f h9))) ?_
    refine tcond (fun h30 => ?_) (fun h30 => ?_)
    · refine tb (x := (eV 4)) (p_mkE (by decide)) ?_
      exact rf_ret rfl
    · refine tb (x := (V.sl (List.map T_Link.c a0.Links))) (rfl) ?_
      refine tb (x := (vi (List.length a0.Links : Int))) (p_len _) ?_
      refine tjoin (mk := fun s36 : (List (T_Spot × Bool)) => [(V.mp (mrep T_Spot.val (fun b : Bool => Go.Value.bool b) s36))]) (fun s36 => ?_) fun J35 j37 h38 => ?_
      · refine tb (x := (V.sl (List.map T_Host.c a0.Hosts))) (rfl) ?_
        refine tb (x := (vi (List.length a0.Hosts : Int))) (p_len _) ?_
        refine tjoin (mk := fun s43 : Unit => []) (fun s43 => ?_) fun J42 j44 h45 => ?_
        · exact rf_ret rfl
        · refine tkeepO2 ?_ rfl
          refine tsome ?_
          refine rf_loopI (mk := fun (i52 : Int) (s48 : ((List (T_Spot × Bool)) × (List (ByteArray × Bool)))) => [(V.mp (mrep T_Spot.val (fun b : Bool => Go.Value.bool b) s48.1)), (V.mp (mrep (fun b : ByteArray => Go.Value.string b) (fun b : Bool => Go.Value.bool b) s48.2)), (vi (i52 : Int))]) hn a0.Hosts (s36, []) (fun i52 x53 h54 h55 h56 s48 rec46 k49 h50 => ?_) (fun s48 rec97 h96 => ?_)
          · refine tb (x := (vb (decide ((i52 : Int) < (List.length a0.Hosts : Int))))) (d_lss) ?_
            refine tcond_t h56 ?_
            refine tb (x := (V.ptr (T_Host.c x53))) (p_idx_at (c := T_Host.c) (fun _ => rfl) h54) ?_
            refine tb (x := (T_Host.e x53)) (rfl) ?_
            refine tb (x := V.agg (T_Host.c x53)) (by kernel_rfl) ?_
            refine tb (x := (vt x53.Name)) (rfl) ?_
            refine tbo (ty_topo_Name hn x53.Name) fun r63 => ?_
            refine tb (x := (vb (!r63))) (d_not) ?_
            refine tcond (fun h65 => ?_) (fun h65 => ?_)
            · refine tb (x := (eV 2)) (p_mkE (by decide)) ?_
              exact rf_ret rfl
            · refine tb (x := (T_Topo.e a0)) (rfl) ?_
              refine tb (x := (T_Spot.e x53.At)) (rfl) ?_
              refine tbo (ty_topo_Spot hn a0 x53.At) fun r70 => ?_
              refine tb (x := (vb (!r70))) (d_not) ?_
              refine tcond (fun h72 => ?_) (fun h72 => ?_)
              · refine tb (x := (eV 1)) (p_mkE (by decide)) ?_
                exact rf_ret rfl
              · refine tb (x := (vt x53.Name)) (rfl) ?_
                refine tb (x := (vb (mget s48.2 x53.Name false))) (p_look (kt := 9) (et := 4) (kv := (fun b : ByteArray => Go.Value.string b)) (vv := (fun b : Bool => Go.Value.bool b)) (e1 := fun x : Bool => (vb x)) (mkey_str (by kernel_rfl)) (by kernel_rfl) false (fun _ => by kernel_rfl) (fun _ => rfl) x53.Name rfl s48.2) ?_
                refine tg_f (x := V.any) (fun h76 => rfl) ?_
                refine tg_f (x := V.any) (fun h78 => rfl) ?_
                refine tg_f (x := (T_Spot.e x53.At)) (fun h80 => bind_some_eq (gate_pos (not_t h80) (rfl))) ?_
                refine tg_f (x := (vb (mget s48.1 x53.At false))) (fun h83 => by simp only [gv_t h83]; exact bind_some_eq (gate_pos (not_t h83) (p_look (kt := 62) (et := 4) (kv := T_Spot.val) (vv := (fun b : Bool => Go.Value.bool b)) (e1 := fun x : Bool => (vb x)) T_Spot.mkey (by kernel_rfl) false (fun _ => by kernel_rfl) (fun _ => rfl) x53.At rfl s48.1))) ?_
                refine tb (x := (vb ((mget s48.2 x53.Name false) || (mget s48.1 x53.At false)))) (pick_or (fun h9 => gv_t (not_f h9))) ?_
                refine tcond (fun h87 => ?_) (fun h87 => ?_)
                · refine tb (x := (eV 7)) (p_mkE (by decide)) ?_
                  exact rf_ret rfl
                · refine tb (x := (vt x53.Name)) (rfl) ?_
                  refine tb (x := (vt x53.Name)) rfl ?_
                  refine tb (x := (T_Spot.e x53.At)) (rfl) ?_
                  refine tb (x := (T_Spot.e x53.At)) rfl ?_
                  refine tb (x := V.mp (mrep (fun b : ByteArray => Go.Value.string b) (fun b : Bool => Go.Value.bool b) (mput s48.2 x53.Name true))) (p_put (kt := 9) (et := 4) (kv := (fun b : ByteArray => Go.Value.string b)) (vv := (fun b : Bool => Go.Value.bool b)) (mkey_str (by kernel_rfl)) (by kernel_rfl) x53.Name true rfl rfl s48.2) ?_
                  refine tb (x := V.mp (mrep T_Spot.val (fun b : Bool => Go.Value.bool b) (mput s48.1 x53.At true))) (p_put (kt := 62) (et := 4) (kv := T_Spot.val) (vv := (fun b : Bool => Go.Value.bool b)) T_Spot.mkey (by kernel_rfl) x53.At true rfl rfl s48.1) ?_
                  refine tb (x := (vi ((i52 : Int) + 1))) (p_incN h55) ?_
                  refine tkeepO2 ?_ rfl
                  refine tsome ?_
                  exact h50 ((mput s48.1 x53.At true), (mput s48.2 x53.Name true))
          · refine tb (x := (vb (decide ((List.length a0.Hosts : Int) < (List.length a0.Hosts : Int))))) (d_lss) ?_
            refine tcond_f h96 ?_
            exact h45 ()
      · refine tkeepO2 ?_ rfl
        refine tsome ?_
        refine rf_loopI (mk := fun (i105 : Int) (s101 : (List (T_Spot × Bool))) => [(V.mp (mrep T_Spot.val (fun b : Bool => Go.Value.bool b) s101)), (vi (i105 : Int))]) hn a0.Links ([]) (fun i105 x106 h107 h108 h109 s101 rec99 k102 h103 => ?_) (fun s101 rec174 h173 => ?_)
        · refine tb (x := (vb (decide ((i105 : Int) < (List.length a0.Links : Int))))) (d_lss) ?_
          refine tcond_t h109 ?_
          refine tb (x := (V.ptr (T_Link.c x106))) (p_idx_at (c := T_Link.c) (fun _ => rfl) h107) ?_
          refine tb (x := (T_Link.e x106)) (rfl) ?_
          refine tb (x := V.agg (T_Link.c x106)) (by kernel_rfl) ?_
          refine tb (x := (T_Topo.e a0)) (rfl) ?_
          refine tb (x := (T_Spot.e x106.A)) (rfl) ?_
          refine tbo (ty_topo_Spot hn a0 x106.A) fun r117 => ?_
          refine tb (x := (vb (!r117))) (d_not) ?_
          refine tg_f (x := (T_Topo.e a0)) (fun h119 => bind_some_eq (rfl)) ?_
          refine tg_f (x := V.any) (fun h122 => rfl) ?_
          refine tg_f (x := (T_Spot.e x106.B)) (fun h124 => bind_some_eq (gate_pos (not_t h124) (rfl))) ?_
          refine tgo_f (fun h127 => by simp only [gv_t h127]; exact rf_bind_some (ty_topo_Spot hn a0 x106.B)) fun r130 => ?_
          refine tg_f (x := (vb (!r130))) (fun h131 => by simp only [gv_t h131]; exact bind_some_eq (d_not)) ?_
          refine tb (x := (vb ((!r117) || (!r130)))) (pick_or (fun h9 => gv_t (not_f h9))) ?_
          refine tcond (fun h135 => ?_) (fun h135 => ?_)
          · refine tb (x := (eV 1)) (p_mkE (by decide)) ?_
            exact rf_ret rfl
          · refine tb (x := (T_Spot.e x106.A)) (rfl) ?_
            refine tb (x := (vb (mget s101 x106.A false))) (p_look (kt := 62) (et := 4) (kv := T_Spot.val) (vv := (fun b : Bool => Go.Value.bool b)) (e1 := fun x : Bool => (vb x)) T_Spot.mkey (by kernel_rfl) false (fun _ => by kernel_rfl) (fun _ => rfl) x106.A rfl s101) ?_
            refine tg_f (x := V.any) (fun h139 => rfl) ?_
            refine tg_f (x := V.any) (fun h141 => rfl) ?_
            refine tg_f (x := (T_Spot.e x106.B)) (fun h143 => bind_some_eq (gate_pos (not_t h143) (rfl))) ?_
            refine tg_f (x := (vb (mget s101 x106.B false))) (fun h146 => by simp only [gv_t h146]; exact bind_some_eq (gate_pos (not_t h146) (p_look (kt := 62) (et := 4) (kv := T_Spot.val) (vv := (fun b : Bool => Go.Value.bool b)) (e1 := fun x : Bool => (vb x)) T_Spot.mkey (by kernel_rfl) false (fun _ => by kernel_rfl) (fun _ => rfl) x106.B rfl s101))) ?_
            refine tb (x := (vb ((mget s101 x106.A false) || (mget s101 x106.B false)))) (pick_or (fun h9 => gv_t (not_f h9))) ?_
            refine tg_f (x := V.any) (fun h150 => rfl) ?_
            refine tg_f (x := (T_Spot.e x106.A)) (fun h152 => bind_some_eq (gate_pos (not_t h152) (rfl))) ?_
            refine tg_f (x := V.any) (fun h155 => rfl) ?_
            refine tg_f (x := (T_Spot.e x106.B)) (fun h157 => bind_some_eq (gate_pos (not_t h157) (rfl))) ?_
            refine tg_f (x := (vb (decide (x106.A = x106.B)))) (fun h160 => by simp only [gv_t h160]; exact bind_some_eq (T_Spot.eql x106.A x106.B)) ?_
            refine tb (x := (vb (((mget s101 x106.A false) || (mget s101 x106.B false)) || (decide (x106.A = x106.B))))) (pick_or (fun h9 => gv_t (not_f h9))) ?_
            refine tcond (fun h164 => ?_) (fun h164 => ?_)
            · refine tb (x := (eV 7)) (p_mkE (by decide)) ?_
              exact rf_ret rfl
            · refine tb (x := (T_Spot.e x106.A)) (rfl) ?_
              refine tb (x := (T_Spot.e x106.A)) rfl ?_
              refine tb (x := (T_Spot.e x106.B)) (rfl) ?_
              refine tb (x := (T_Spot.e x106.B)) rfl ?_
              refine tb (x := V.mp (mrep T_Spot.val (fun b : Bool => Go.Value.bool b) (mput s101 x106.A true))) (p_put (kt := 62) (et := 4) (kv := T_Spot.val) (vv := (fun b : Bool => Go.Value.bool b)) T_Spot.mkey (by kernel_rfl) x106.A true rfl rfl s101) ?_
              refine tb (x := V.mp (mrep T_Spot.val (fun b : Bool => Go.Value.bool b) (mput (mput s101 x106.A true) x106.B true))) (p_put (kt := 62) (et := 4) (kv := T_Spot.val) (vv := (fun b : Bool => Go.Value.bool b)) T_Spot.mkey (by kernel_rfl) x106.B true rfl rfl (mput s101 x106.A true)) ?_
              refine tb (x := (vi ((i105 : Int) + 1))) (p_incN h108) ?_
              refine tkeepO2 ?_ rfl
              refine tsome ?_
              exact h103 (mput (mput s101 x106.A true) x106.B true)
        · refine tb (x := (vb (decide ((List.length a0.Links : Int) < (List.length a0.Links : Int))))) (d_lss) ?_
          refine tcond_f h173 ?_
          refine tkeepO2 ?_ rfl
          refine tsome ?_
          exact h38 (s101)

/-! railpoint/net.Check -/
def an_net_Check : Ann := .seq (.reg 0 [] [] []) (.seq (.seq (.reg 0 [] [] []) (.seq (.reg 0 [] [] []) (.cond none (.seq (.reg 0 [] [] []) (.no)) (.no)))) (.seq (.seq (.reg 0 [] [] []) (.cond none (.seq (.reg 0 [] [] []) (.no)) (.no))) (.seq (.seq (.reg 0 [] [] []) (.blk (some []) (.loop [.s 24] (.seq (.reg 0 [] [] []) (.seq (.cond none (.no) (.no)) (.seq (.blk none (.seq (.reg 0 [] [] []) (.seq (.reg 0 [] [] []) (.seq (.reg 0 [] [] []) (.cond none (.seq (.reg 0 [] [] []) (.no)) (.no)))))) (.reg 0 [] [] []))))))) (.seq (.reg 0 [] [] []) (.no)))))
noncomputable def sem_net_Check (n : Nat) (xs : List V) : Option V := if xs.length ≤ 34 then denF Tryd.prog (envOf [(78, (sem_topo_Check n)), (70, (sem_rule_Table n))]) n Tryd.f27 an_net_Check xs else none
theorem ok_net_Check (n : Nat) : SemOk Tryd.prog DW 27 (sem_net_Check n) := fun xs y h => by
  unfold sem_net_Check at h
  split at h
  · rename_i hl
    exact denF_ok stb Tryd.func27 (by kernel_rfl) (envOf_ok (semsOk_cons (ok_topo_Check n) (semsOk_cons (ok_rule_Table n) semsOk_nil))) (by rw [Tryd.ntmps27]; exact hl) h
  · cases h
theorem eq_net_Check (n : Nat) (x0 : V) : sem_net_Check n [x0] =
 (V.cellsO x0).bind fun v1 =>
 (ldk (some 3) (List.drop 0 v1)).bind fun v2 =>
 ((sem_topo_Check n) [v2]).bind fun v3 =>
 (bin2 Tryd.prog BinOp.neq 35 (ot 10) (Operand.const Go.Value.nilIface) v3 vn).bind fun v4 =>
 condV v4 (
 some v3) (
 (ldk none (List.drop 3 v1)).bind fun v5 =>
 (lenS [v5]).bind fun v6 =>
 (ldk none (List.drop 0 v1)).bind fun v7 =>
 (bin2 Tryd.prog BinOp.neq 3 (ot 15) (ot 18) v6 v7).bind fun v8 =>
 condV v8 (
 (scal1 Tryd.prog (Instr.makeInterface 143) (vi 3)).bind fun v9 =>
 some v9) (
 (ldk none (List.drop 3 v1)).bind fun v10 =>
 (lenS [v10]).bind fun v11 =>
 JoinPt (fun vs12 =>
 some vn) fun J13 =>
 (fixN (fun rec14 vs15 =>
 (bin2 Tryd.prog BinOp.lss 3 (ot 24) (ot 23) (List.getD vs15 0 V.any) v11).bind fun v16 =>
 condV v16 (
 (idxS 1 v10 (List.getD vs15 0 V.any)).bind fun v17 =>
 (ldp none v17).bind fun v18 =>
 ((sem_rule_Table n) [v18]).bind fun v19 =>
 (bin2 Tryd.prog BinOp.neq 35 (ot 30) (Operand.const Go.Value.nilIface) v19 vn).bind fun v20 =>
 condV v20 (
 some v19) (
 (bin2 Tryd.prog BinOp.add 3 (ot 24) (oc 1) (List.getD vs15 0 V.any) (vi 1)).bind fun v21 =>
 rec14 [v21])) (
 J13 [])) n) [(vi 0)])) := by kernel_rfl
noncomputable def t_net_Check (a0 : T_Net) : Option Int :=
 (t_topo_Check a0.Topo).bind fun r4 =>
 if (!decide (r4 = 0)) = true then (
 some r4) else (
 if (decide ((List.length a0.Tables : Int) ≠ a0.Topo.Switches)) = true then (
 some 3) else (
 join (fun (s17 : Unit) =>
 some 0) fun j18 =>
 loopI a0.Tables (fun (i26 : Int) x27 (s22 : Unit) k23 =>
 (t_rule_Table x27).bind fun r35 =>
 if (!decide (r35 = 0)) = true then (
 some r35) else (
 k23 ())) (fun (s22 : Unit) =>
 j18 ()) ()))
theorem ty_net_Check {n : Nat} (hn : bigN ≤ n) (a0 : T_Net) : Rv (fun x : Int => (eV x)) (sem_net_Check n [(T_Net.e a0)]) (t_net_Check a0) := by
  rw [eq_net_Check]
  unfold t_net_Check
  refine tb (x := (T_Net.c a0)) rfl ?_
  refine tb (x := (T_Topo.e a0.Topo)) (rfl) ?_
  refine tbo (ty_topo_Check hn a0.Topo) fun r4 => ?_
  refine tb (x := (vb (!decide (r4 = 0)))) (p_err_neq _) ?_
  refine tcond (fun h6 => ?_) (fun h6 => ?_)
  · exact rf_ret rfl
  · refine tb (x := (V.sl (List.map (cS T_Rule.c) a0.Tables))) (rfl) ?_
    refine tb (x := (vi (List.length a0.Tables : Int))) (p_len _) ?_
    refine tb (x := (vi a0.Topo.Switches)) (rfl) ?_
    refine tb (x := (vb (decide ((List.length a0.Tables : Int) ≠ a0.Topo.Switches)))) (d_neq) ?_
    refine tcond (fun h11 => ?_) (fun h11 => ?_)
    · refine tb (x := (eV 3)) (p_mkE (by decide)) ?_
      exact rf_ret rfl
    · refine tb (x := (V.sl (List.map (cS T_Rule.c) a0.Tables))) (rfl) ?_
      refine tb (x := (vi (List.length a0.Tables : Int))) (p_len _) ?_
      refine tjoin (mk := fun s17 : Unit => []) (fun s17 => ?_) fun J16 j18 h19 => ?_
      · exact rf_ret rfl
      · refine rf_loopI (mk := fun (i26 : Int) (s22 : Unit) => [(vi (i26 : Int))]) hn a0.Tables () (fun i26 x27 h28 h29 h30 s22 rec20 k23 h24 => ?_) (fun s22 rec40 h39 => ?_)
        · refine tb (x := (vb (decide ((i26 : Int) < (List.length a0.Tables : Int))))) (d_lss) ?_
          refine tcond_t h30 ?_
          refine tb (x := (V.ptr [(V.sl (List.map T_Rule.c x27))])) (p_idx_at (c := (cS T_Rule.c)) (fun _ => rfl) h28) ?_
          refine tb (x := (V.sl (List.map T_Rule.c x27))) (rfl) ?_
          refine tbo (ty_rule_Table hn x27) fun r35 => ?_
          refine tb (x := (vb (!decide (r35 = 0)))) (p_err_neq _) ?_
          refine tcond (fun h37 => ?_) (fun h37 => ?_)
          · exact rf_ret rfl
          · refine tb (x := (vi ((i26 : Int) + 1))) (p_incN h29) ?_
            exact h24 ()
        · refine tb (x := (vb (decide ((List.length a0.Tables : Int) < (List.length a0.Tables : Int))))) (d_lss) ?_
          refine tcond_f h39 ?_
          exact h19 ()

/-! railpoint/class.All -/
def an_class_All : Ann := .seq (.reg 0 [] [] []) (.seq (.seq (.reg 0 [] [] []) (.seq (.reg 0 [] [] []) (.cond none (.seq (.reg 0 [] [] []) (.no)) (.no)))) (.seq (.reg 0 [] [] []) (.no)))
noncomputable def sem_class_All (n : Nat) (xs : List V) : Option V := if xs.length ≤ 13 then denF Tryd.prog (envOf [(27, (sem_net_Check n)), (71, (sem_class_classes n))]) n Tryd.f19 an_class_All xs else none
theorem ok_class_All (n : Nat) : SemOk Tryd.prog DW 19 (sem_class_All n) := fun xs y h => by
  unfold sem_class_All at h
  split at h
  · rename_i hl
    exact denF_ok stb Tryd.func19 (by kernel_rfl) (envOf_ok (semsOk_cons (ok_net_Check n) (semsOk_cons (ok_class_classes n) semsOk_nil))) (by rw [Tryd.ntmps19]; exact hl) h
  · cases h
theorem eq_class_All (n : Nat) (x0 : V) : sem_class_All n [x0] =
 (V.cellsO x0).bind fun v1 =>
 (ldk (some 4) (List.drop 0 v1)).bind fun v2 =>
 ((sem_net_Check n) [v2]).bind fun v3 =>
 (bin2 Tryd.prog BinOp.neq 35 (ot 7) (Operand.const Go.Value.nilIface) v3 vn).bind fun v4 =>
 condV v4 (
 some (V.tup [(V.sl []), v3])) (
 (ldk none (List.drop 3 v1)).bind fun v5 =>
 ((sem_class_classes n) [v5]).bind fun v6 =>
 some (V.tup [v6, vn])) := by kernel_rfl
noncomputable def t_class_All (a0 : T_Net) : Option ((List (List Int)) × Int) :=
 (t_net_Check a0).bind fun r4 =>
 if (!decide (r4 = 0)) = true then (
 some ([], r4)) else (
 (t_class_classes a0.Tables).bind fun r9 =>
 some (r9, 0))
theorem ty_class_All {n : Nat} (hn : bigN ≤ n) (a0 : T_Net) : Rv (fun x : ((List (List Int)) × Int) => V.tup [(V.sl (List.map (cS cI) x.1)), (eV x.2)]) (sem_class_All n [(T_Net.e a0)]) (t_class_All a0) := by
  rw [eq_class_All]
  unfold t_class_All
  refine tb (x := (T_Net.c a0)) rfl ?_
  refine tb (x := (T_Net.e a0)) (rfl) ?_
  refine tbo (ty_net_Check hn a0) fun r4 => ?_
  refine tb (x := (vb (!decide (r4 = 0)))) (p_err_neq _) ?_
  refine tcond (fun h6 => ?_) (fun h6 => ?_)
  · exact rf_ret rfl
  · refine tb (x := (V.sl (List.map (cS T_Rule.c) a0.Tables))) (rfl) ?_
    refine tbo (ty_class_classes hn a0.Tables) fun r9 => ?_
    exact rf_ret rfl

/-! railpoint/class.Path -/
def an_class_Path : Ann := .seq (.reg 0 [] [] []) (.seq (.seq (.reg 0 [] [] []) (.seq (.reg 0 [] [] []) (.cond none (.seq (.reg 0 [] [] []) (.no)) (.no)))) (.seq (.seq (.reg 0 [] [] []) (.cond none (.seq (.reg 0 [] [] []) (.no)) (.no))) (.seq (.reg 0 [] [] []) (.no))))
noncomputable def sem_class_Path (n : Nat) (xs : List V) : Option V := if xs.length ≤ 20 then denF Tryd.prog (envOf [(27, (sem_net_Check n)), (73, (sem_cube_Header n)), (74, (sem_class_path n))]) n Tryd.f22 an_class_Path xs else none
theorem ok_class_Path (n : Nat) : SemOk Tryd.prog DW 22 (sem_class_Path n) := fun xs y h => by
  unfold sem_class_Path at h
  split at h
  · rename_i hl
    exact denF_ok stb Tryd.func22 (by kernel_rfl) (envOf_ok (semsOk_cons (ok_net_Check n) (semsOk_cons (ok_cube_Header n) (semsOk_cons (ok_class_path n) semsOk_nil)))) (by rw [Tryd.ntmps22]; exact hl) h
  · cases h
theorem eq_class_Path (n : Nat) (x0 x1 : V) : sem_class_Path n [x0, x1] =
 (V.cellsO x0).bind fun v1 =>
 (ldk (some 4) (List.drop 0 v1)).bind fun v2 =>
 ((sem_net_Check n) [v2]).bind fun v3 =>
 (bin2 Tryd.prog BinOp.neq 35 (ot 9) (Operand.const Go.Value.nilIface) v3 vn).bind fun v4 =>
 condV v4 (
 some (V.tup [(V.sl []), v3])) (
 ((sem_cube_Header n) [x1]).bind fun v5 =>
 (scal1 Tryd.prog (Op.unary Go.UnOp.not) v5).bind fun v6 =>
 condV v6 (
 (scal1 Tryd.prog (Instr.makeInterface 143) (vi 1)).bind fun v7 =>
 some (V.tup [(V.sl []), v7])) (
 (ldk none (List.drop 3 v1)).bind fun v8 =>
 ((sem_class_path n) [v8, x1]).bind fun v9 =>
 some (V.tup [v9, vn]))) := by kernel_rfl
noncomputable def t_class_Path (a0 : T_Net) (a1 : Int) : Option ((List Int) × Int) :=
 (t_net_Check a0).bind fun r4 =>
 if (!decide (r4 = 0)) = true then (
 some ([], r4)) else (
 (t_cube_Header a1).bind fun r8 =>
 if (!r8) = true then (
 some ([], 1)) else (
 (t_class_path a0.Tables a1).bind fun r14 =>
 some (r14, 0)))
theorem ty_class_Path {n : Nat} (hn : bigN ≤ n) (a0 : T_Net) (a1 : Int) : Rv (fun x : ((List Int) × Int) => V.tup [(V.sl (List.map cI x.1)), (eV x.2)]) (sem_class_Path n [(T_Net.e a0), (vi a1)]) (t_class_Path a0 a1) := by
  rw [eq_class_Path]
  unfold t_class_Path
  refine tb (x := (T_Net.c a0)) rfl ?_
  refine tb (x := (T_Net.e a0)) (rfl) ?_
  refine tbo (ty_net_Check hn a0) fun r4 => ?_
  refine tb (x := (vb (!decide (r4 = 0)))) (p_err_neq _) ?_
  refine tcond (fun h6 => ?_) (fun h6 => ?_)
  · exact rf_ret rfl
  · refine tbo (ty_cube_Header hn a1) fun r8 => ?_
    refine tb (x := (vb (!r8))) (d_not) ?_
    refine tcond (fun h10 => ?_) (fun h10 => ?_)
    · refine tb (x := (eV 1)) (p_mkE (by decide)) ?_
      exact rf_ret rfl
    · refine tb (x := (V.sl (List.map (cS T_Rule.c) a0.Tables))) (rfl) ?_
      refine tbo (ty_class_path hn a0.Tables a1) fun r14 => ?_
      exact rf_ret rfl

/-! slices.Index   int int  -/
def an_slices_Index_int_int : Ann := .seq (.reg 0 [] [] []) (.seq (.seq (.reg 0 [] [] []) (.blk (some []) (.loop [.s 8] (.seq (.reg 0 [] [] []) (.seq (.cond none (.no) (.no)) (.seq (.blk none (.seq (.reg 0 [] [] []) (.seq (.reg 0 [] [] []) (.cond none (.seq (.reg 0 [] [] []) (.no)) (.no))))) (.reg 0 [] [] []))))))) (.seq (.reg 0 [] [] []) (.no)))
noncomputable def sem_slices_Index_int_int (n : Nat) (xs : List V) : Option V := if xs.length ≤ 19 then denF Tryd.prog (envOf []) n Tryd.f136 an_slices_Index_int_int xs else none
theorem ok_slices_Index_int_int (n : Nat) : SemOk Tryd.prog DW 136 (sem_slices_Index_int_int n) := fun xs y h => by
  unfold sem_slices_Index_int_int at h
  split at h
  · rename_i hl
    exact denF_ok stb Tryd.func136 (by kernel_rfl) (envOf_ok semsOk_nil) (by rw [Tryd.ntmps136]; exact hl) h
  · cases h
theorem eq_slices_Index_int_int (n : Nat) (x0 x1 : V) : sem_slices_Index_int_int n [x0, x1] =
 (lenS [x0]).bind fun v1 =>
 JoinPt (fun vs2 =>
 some (vi (-1 : Int))) fun J3 =>
 (fixN (fun rec4 vs5 =>
 (bin2 Tryd.prog BinOp.lss 3 (ot 8) (ot 7) (List.getD vs5 0 V.any) v1).bind fun v6 =>
 condV v6 (
 (idxS 1 x0 (List.getD vs5 0 V.any)).bind fun v7 =>
 (ldp none v7).bind fun v8 =>
 (bin2 Tryd.prog BinOp.eql 3 (ot 11) (ot 15) x1 v8).bind fun v9 =>
 condV v9 (
 some (List.getD vs5 0 V.any)) (
 (bin2 Tryd.prog BinOp.add 3 (ot 8) (oc 1) (List.getD vs5 0 V.any) (vi 1)).bind fun v10 =>
 rec4 [v10])) (
 J3 [])) n) [(vi 0)] := by kernel_rfl
noncomputable def t_slices_Index_int_int (a0 : (List Int)) (a1 : Int) : Option Int :=
 join (fun (s4 : Unit) =>
 some (-1 : Int)) fun j5 =>
 loopI a0 (fun (i13 : Int) x14 (s9 : Unit) k10 =>
 if (decide (a1 = x14)) = true then (
 some i13) else (
 k10 ())) (fun (s9 : Unit) =>
 j5 ()) ()
theorem ty_slices_Index_int_int {n : Nat} (hn : bigN ≤ n) (a0 : (List Int)) (a1 : Int) : Rv (fun x : Int => (vi x)) (sem_slices_Index_int_int n [(V.sl (List.map cI a0)), (vi a1)]) (t_slices_Index_int_int a0 a1) := by
  rw [eq_slices_Index_int_int]
  unfold t_slices_Index_int_int
  refine tb (x := (vi (List.length a0 : Int))) (p_len _) ?_
  refine tjoin (mk := fun s4 : Unit => []) (fun s4 => ?_) fun J3 j5 h6 => ?_
  · exact rf_ret rfl
  · refine rf_loopI (mk := fun (i13 : Int) (s9 : Unit) => [(vi (i13 : Int))]) hn a0 () (fun i13 x14 h15 h16 h17 s9 rec7 k10 h11 => ?_) (fun s9 rec25 h24 => ?_)
    · refine tb (x := (vb (decide ((i13 : Int) < (List.length a0 : Int))))) (d_lss) ?_
      refine tcond_t h17 ?_
      refine tb (x := (V.ptr [(vi x14)])) (p_idx_at (c := cI) (fun _ => rfl) h15) ?_
      refine tb (x := (vi x14)) (rfl) ?_
      refine tb (x := (vb (decide (a1 = x14)))) (d_eql) ?_
      refine tcond (fun h22 => ?_) (fun h22 => ?_)
      · exact rf_ret rfl
      · refine tb (x := (vi ((i13 : Int) + 1))) (p_incN h16) ?_
        exact h11 ()
    · refine tb (x := (vb (decide ((List.length a0 : Int) < (List.length a0 : Int))))) (d_lss) ?_
      refine tcond_f h24 ?_
      exact h6 ()

/-! slices.Contains   int int  -/
def an_slices_Contains_int_int : Ann := .seq (.reg 0 [] [] []) (.seq (.reg 0 [] [] []) (.no))
noncomputable def sem_slices_Contains_int_int (n : Nat) (xs : List V) : Option V := if xs.length ≤ 9 then denF Tryd.prog (envOf [(136, (sem_slices_Index_int_int n))]) n Tryd.f75 an_slices_Contains_int_int xs else none
theorem ok_slices_Contains_int_int (n : Nat) : SemOk Tryd.prog DW 75 (sem_slices_Contains_int_int n) := fun xs y h => by
  unfold sem_slices_Contains_int_int at h
  split at h
  · rename_i hl
    exact denF_ok stb Tryd.func75 (by kernel_rfl) (envOf_ok (semsOk_cons (ok_slices_Index_int_int n) semsOk_nil)) (by rw [Tryd.ntmps75]; exact hl) h
  · cases h
theorem eq_slices_Contains_int_int (n : Nat) (x0 x1 : V) : sem_slices_Contains_int_int n [x0, x1] =
 ((sem_slices_Index_int_int n) [x0, x1]).bind fun v1 =>
 (bin2 Tryd.prog BinOp.geq 3 (ot 7) (oc 0) v1 (vi 0)).bind fun v2 =>
 some v2 := by kernel_rfl
noncomputable def t_slices_Contains_int_int (a0 : (List Int)) (a1 : Int) : Option Bool :=
 (t_slices_Index_int_int a0 a1).bind fun r2 =>
 some (decide (0 ≤ r2))
theorem ty_slices_Contains_int_int {n : Nat} (hn : bigN ≤ n) (a0 : (List Int)) (a1 : Int) : Rv (fun x : Bool => (vb x)) (sem_slices_Contains_int_int n [(V.sl (List.map cI a0)), (vi a1)]) (t_slices_Contains_int_int a0 a1) := by
  rw [eq_slices_Contains_int_int]
  unfold t_slices_Contains_int_int
  refine tbo (ty_slices_Index_int_int hn a0 a1) fun r2 => ?_
  refine tb (x := (vb (decide (0 ≤ r2)))) (d_geq) ?_
  exact rf_ret rfl

/-! slices.Min   int int  -/
def an_slices_Min_int_int : Ann := .seq (.reg 0 [] [] []) (.seq (.seq (.reg 0 [] [] []) (.cond (some []) (.reg 0 [] [] []) (.no))) (.seq (.reg 0 [] [] []) (.seq (.seq (.reg 0 [] [] []) (.blk (some [.s 3]) (.loop [.s 3, .s 4] (.seq (.seq (.reg 0 [] [] []) (.cond none (.no) (.no))) (.seq (.blk none (.reg 0 [] [] [])) (.reg 0 [] [] [])))))) (.seq (.reg 0 [] [] []) (.no)))))
noncomputable def sem_slices_Min_int_int (n : Nat) (xs : List V) : Option V := if xs.length ≤ 25 then denF Tryd.prog (envOf []) n Tryd.f76 an_slices_Min_int_int xs else none
theorem ok_slices_Min_int_int (n : Nat) : SemOk Tryd.prog DW 76 (sem_slices_Min_int_int n) := fun xs y h => by
  unfold sem_slices_Min_int_int at h
  split at h
  · rename_i hl
    exact denF_ok stb Tryd.func76 (by kernel_rfl) (envOf_ok semsOk_nil) (by rw [Tryd.ntmps76]; exact hl) h
  · cases h
theorem eq_slices_Min_int_int (n : Nat) (x0 : V) : sem_slices_Min_int_int n [x0] =
 (lenS [x0]).bind fun v1 =>
 (bin2 Tryd.prog BinOp.lss 3 (ot 6) (oc 1) v1 (vi 1)).bind fun v2 =>
 JoinPt (fun vs3 =>
 (idxS 1 x0 (vi 0)).bind fun v5 =>
 (ldp none v5).bind fun v6 =>
 JoinPt (fun vs7 =>
 some (List.getD vs7 0 V.any)) fun J8 =>
 (fixN (fun rec9 vs10 =>
 (lenS [x0]).bind fun v11 =>
 (bin2 Tryd.prog BinOp.lss 3 (ot 12) (ot 14) (List.getD vs10 1 V.any) v11).bind fun v12 =>
 condV v12 (
 (idxS 1 x0 (List.getD vs10 1 V.any)).bind fun v13 =>
 (ldp none v13).bind fun v14 =>
 (scal2 Tryd.prog (fun u v => Builtin.min_ #[3, 3] 3 #[u, v]) (List.getD vs10 0 V.any) v14).bind fun v15 =>
 (bin2 Tryd.prog BinOp.add 3 (ot 16) (oc 1) (List.getD vs10 1 V.any) (vi 1)).bind fun v16 =>
 rec9 [v15, v16]) (
 J8 [(List.getD vs10 0 V.any)])) n) [v6, (vi 1)]) fun J4 =>
 condV v2 (
 (scal1 Tryd.prog (Instr.makeInterface 9) (V.lit (Go.Value.string (ByteArray.mk #[115, 108, 105, 99, 101, 115, 46, 77, 105, 110, 58, 32, 101, 109, 112, 116, 121, 32, 108, 105, 115, 116])))).bind fun v17 =>
 none) (
 J4 []) := by kernel_rfl
noncomputable def t_slices_Min_int_int (a0 : (List Int)) : Option Int :=
 (if (decide ((List.length a0 : Int) < 1)) = true then (
 none) else (
 some ())).bind fun (s5 : Unit) =>
 (idx a0 0).bind fun r9 =>
 (loopU 1 (List.length a0 : Int) (fun (i22 : Int) (s18 : Int) k19 =>
 (idx a0 i22).bind fun r31 =>
 k19 (min s18 r31)) (fun (i22 : Int) (s18 : Int) =>
 some (s18)) (r9)).bind fun (s13 : Int) =>
 some s13
theorem ty_slices_Min_int_int {n : Nat} (hn : bigN ≤ n) (a0 : (List Int)) : Rv (fun x : Int => (vi x)) (sem_slices_Min_int_int n [(V.sl (List.map cI a0))]) (t_slices_Min_int_int a0) := by
  rw [eq_slices_Min_int_int]
  unfold t_slices_Min_int_int
  refine tb (x := (vi (List.length a0 : Int))) (p_len _) ?_
  refine tb (x := (vb (decide ((List.length a0 : Int) < 1)))) (d_lss) ?_
  refine tjb (mk := fun s5 : Unit => []) (fun J4 => ?_) fun s5 => ?_
  · refine tcond (fun h37 => ?_) (fun h37 => ?_)
    · exact rf_none
    · exact rf_j rfl
  · refine tbo (p_idx (c := cI) (fun _ => rfl) a0 0) fun r9 => ?_
    refine tb (x := (vi r9)) (rfl) ?_
    refine tjb (mk := fun s13 : Int => [(vi s13)]) (fun J12 => ?_) fun s13 => ?_
    · refine rf_loopU (mk := fun (i22 : Int) (s18 : Int) => [(vi s18), (vi i22)]) hn _ _ (r9) (fun i22 h23 h24 h25 s18 rec16 k19 h20 => ?_) (fun i22 s18 rec27 h26 => ?_)
      · refine tb (x := (vi (List.length a0 : Int))) (p_len _) ?_
        refine tb (x := (vb (decide (i22 < (List.length a0 : Int))))) (d_lss) ?_
        refine tcond_t h23 ?_
        refine tbo (p_idx (c := cI) (fun _ => rfl) a0 i22) fun r31 => ?_
        refine tb (x := (vi r31)) (rfl) ?_
        refine tb (x := (vi (min s18 r31))) (p_min) ?_
        refine tb (x := (vi (i22 + 1))) (p_inc h24 h25) ?_
        exact h20 (min s18 r31)
      · refine tb (x := (vi (List.length a0 : Int))) (p_len _) ?_
        refine tb (x := (vb (decide (i22 < (List.length a0 : Int))))) (d_lss) ?_
        refine tcond_f h26 ?_
        exact rf_j rfl
    · exact rf_ret rfl

/-! railpoint/class.Rep -/
def an_class_Rep : Ann := .seq (.reg 0 [] [] []) (.seq (.seq (.reg 0 [] [] []) (.blk (some []) (.loop [.s 10] (.seq (.reg 0 [] [] []) (.seq (.cond none (.no) (.no)) (.seq (.blk none (.seq (.reg 0 [] [] []) (.seq (.reg 0 [] [] []) (.cond none (.seq (.reg 0 [] [] []) (.no)) (.no))))) (.reg 0 [] [] []))))))) (.seq (.reg 0 [] [] []) (.no)))
noncomputable def sem_class_Rep (n : Nat) (xs : List V) : Option V := if xs.length ≤ 21 then denF Tryd.prog (envOf [(75, (sem_slices_Contains_int_int n)), (76, (sem_slices_Min_int_int n))]) n Tryd.f24 an_class_Rep xs else none
theorem ok_class_Rep (n : Nat) : SemOk Tryd.prog DW 24 (sem_class_Rep n) := fun xs y h => by
  unfold sem_class_Rep at h
  split at h
  · rename_i hl
    exact denF_ok stb Tryd.func24 (by kernel_rfl) (envOf_ok (semsOk_cons (ok_slices_Contains_int_int n) (semsOk_cons (ok_slices_Min_int_int n) semsOk_nil))) (by rw [Tryd.ntmps24]; exact hl) h
  · cases h
theorem eq_class_Rep (n : Nat) (x0 x1 : V) : sem_class_Rep n [x0, x1] =
 (lenS [x0]).bind fun v1 =>
 JoinPt (fun vs2 =>
 (scal1 Tryd.prog (Instr.makeInterface 143) (vi 5)).bind fun v4 =>
 some (V.tup [(vi 0), v4])) fun J3 =>
 (fixN (fun rec5 vs6 =>
 (bin2 Tryd.prog BinOp.lss 3 (ot 10) (ot 9) (List.getD vs6 0 V.any) v1).bind fun v7 =>
 condV v7 (
 (idxS 1 x0 (List.getD vs6 0 V.any)).bind fun v8 =>
 (ldp none v8).bind fun v9 =>
 ((sem_slices_Contains_int_int n) [v9, x1]).bind fun v10 =>
 condV v10 (
 ((sem_slices_Min_int_int n) [v9]).bind fun v11 =>
 some (V.tup [v11, vn])) (
 (bin2 Tryd.prog BinOp.add 3 (ot 10) (oc 1) (List.getD vs6 0 V.any) (vi 1)).bind fun v12 =>
 rec5 [v12])) (
 J3 [])) n) [(vi 0)] := by kernel_rfl
noncomputable def t_class_Rep (a0 : (List (List Int))) (a1 : Int) : Option (Int × Int) :=
 join (fun (s4 : Unit) =>
 some (0, 5)) fun j5 =>
 loopI a0 (fun (i14 : Int) x15 (s10 : Unit) k11 =>
 (t_slices_Contains_int_int x15 a1).bind fun r23 =>
 if r23 = true then (
 (t_slices_Min_int_int x15).bind fun r26 =>
 some (r26, 0)) else (
 k11 ())) (fun (s10 : Unit) =>
 j5 ()) ()
theorem ty_class_Rep {n : Nat} (hn : bigN ≤ n) (a0 : (List (List Int))) (a1 : Int) : Rv (fun x : (Int × Int) => V.tup [(vi x.1), (eV x.2)]) (sem_class_Rep n [(V.sl (List.map (cS cI) a0)), (vi a1)]) (t_class_Rep a0 a1) := by
  rw [eq_class_Rep]
  unfold t_class_Rep
  refine tb (x := (vi (List.length a0 : Int))) (p_len _) ?_
  refine tjoin (mk := fun s4 : Unit => []) (fun s4 => ?_) fun J3 j5 h6 => ?_
  · refine tb (x := (eV 5)) (p_mkE (by decide)) ?_
    exact rf_ret rfl
  · refine rf_loopI (mk := fun (i14 : Int) (s10 : Unit) => [(vi (i14 : Int))]) hn a0 () (fun i14 x15 h16 h17 h18 s10 rec8 k11 h12 => ?_) (fun s10 rec29 h28 => ?_)
    · refine tb (x := (vb (decide ((i14 : Int) < (List.length a0 : Int))))) (d_lss) ?_
      refine tcond_t h18 ?_
      refine tb (x := (V.ptr [(V.sl (List.map cI x15))])) (p_idx_at (c := (cS cI)) (fun _ => rfl) h16) ?_
      refine tb (x := (V.sl (List.map cI x15))) (rfl) ?_
      refine tbo (ty_slices_Contains_int_int hn x15 a1) fun r23 => ?_
      refine tcond (fun h24 => ?_) (fun h24 => ?_)
      · refine tbo (ty_slices_Min_int_int hn x15) fun r26 => ?_
        exact rf_ret rfl
      · refine tb (x := (vi ((i14 : Int) + 1))) (p_incN h17) ?_
        exact h12 ()
    · refine tb (x := (vb (decide ((List.length a0 : Int) < (List.length a0 : Int))))) (d_lss) ?_
      refine tcond_f h28 ?_
      exact h6 ()

/-! railpoint/raillaw1.ClassTells -/
def an_raillaw1_ClassTells : Ann := .seq (.reg 0 [] [] []) (.seq (.reg 0 [] [] []) (.seq (.reg 0 [] [] []) (.seq (.seq (.reg 0 [] [] []) (.cond (some [.kb 4, .s 10]) (.reg 0 [] [] []) (.no))) (.seq (.reg 0 [] [] []) (.seq (.reg 0 [] [] []) (.seq (.reg 0 [] [] []) (.seq (.reg 0 [] [] []) (.seq (.reg 0 [] [] []) (.seq (.seq (.reg 0 [] [] []) (.cond (some [.kb 4, .s 10]) (.reg 0 [] [] []) (.no))) (.seq (.reg 0 [] [] []) (.seq (.reg 0 [] [] []) (.seq (.reg 0 [] [] []) (.seq (.reg 0 [] [] []) (.seq (.seq (.reg 0 [] [] []) (.cond (some [.kb 4, .s 9]) (.reg 0 [] [] []) (.no))) (.seq (.reg 0 [] [] []) (.seq (.seq (.reg 0 [] [] []) (.cond (some [.kb 4, .s 18]) (.reg 0 [] [] []) (.no))) (.seq (.reg 0 [] [] []) (.seq (.reg 0 [] [] []) (.seq (.reg 0 [] [] []) (.seq (.reg 0 [] [] []) (.seq (.reg 0 [] [] []) (.seq (.seq (.reg 0 [] [] []) (.blk (some [.s 9, .s 22]) (.loop [.s 9, .s 22, .s 23] (.seq (.seq (.reg 0 [] [] []) (.cond none (.no) (.no))) (.seq (.blk (some [.s 9, .s 22]) (.seq (.seq (.reg 0 [] [] []) (.blk (some [.s 9]) (.loop [.s 9, .s 24] (.seq (.seq (.reg 0 [] [] []) (.cond none (.no) (.no))) (.seq (.blk none (.seq (.reg 0 [] [] []) (.cond (some [.s 9]) (.reg 0 [] [] []) (.no)))) (.reg 0 [] [] [])))))) (.seq (.reg 0 [] [] []) (.blk (some [.s 22]) (.loop [.s 22, .s 25] (.seq (.seq (.reg 0 [] [] []) (.cond none (.no) (.no))) (.seq (.blk none (.seq (.reg 0 [] [] []) (.cond (some [.s 22]) (.reg 0 [] [] []) (.no)))) (.reg 0 [] [] [])))))))) (.reg 0 [] [] [])))))) (.seq (.reg 0 [] [] []) (.seq (.reg 0 [] [] []) (.seq (.reg 0 [] [] []) (.no))))))))))))))))))))))))))
noncomputable def sem_raillaw1_ClassTells (n : Nat) (xs : List V) : Option V := if xs.length ≤ 184 then denF Tryd.prog (envOf [(13, (sem_railref1_Table n)), (14, (sem_railref1_Classes n)), (15, (sem_class_Of n)), (16, (sem_Error n)), (17, (sem_railsame_Lists n)), (18, (sem_railref1_Net n)), (19, (sem_class_All n)), (20, (sem_railref1_Header n)), (21, (sem_railref1_Path n)), (22, (sem_class_Path n)), (23, (sem_railsame_Ints n)), (24, (sem_class_Rep n))]) n Tryd.f3 an_raillaw1_ClassTells xs else none
theorem ok_raillaw1_ClassTells (n : Nat) : SemOk Tryd.prog DW 3 (sem_raillaw1_ClassTells n) := fun xs y h => by
  unfold sem_raillaw1_ClassTells at h
  split at h
  · rename_i hl
    exact denF_ok stb Tryd.func3 (by kernel_rfl) (envOf_ok (semsOk_cons (ok_railref1_Table n) (semsOk_cons (ok_railref1_Classes n) (semsOk_cons (ok_class_Of n) (semsOk_cons (ok_Error n) (semsOk_cons (ok_railsame_Lists n) (semsOk_cons (ok_railref1_Net n) (semsOk_cons (ok_class_All n) (semsOk_cons (ok_railref1_Header n) (semsOk_cons (ok_railref1_Path n) (semsOk_cons (ok_class_Path n) (semsOk_cons (ok_railsame_Ints n) (semsOk_cons (ok_class_Rep n) semsOk_nil))))))))))))) (by rw [Tryd.ntmps3]; exact hl) h
  · cases h
theorem eq_raillaw1_ClassTells (n : Nat) (x0 x1 x2 x3 : V) : sem_raillaw1_ClassTells n [x0, x1, x2, x3] =
 (V.cellsO x0).bind fun v1 =>
 ((sem_railref1_Table n) [x1]).bind fun v2 =>
 (bin2 Tryd.prog BinOp.eql 3 (ot 30) (oc 0) v2 (vi 0)).bind fun v3 =>
 JoinPt (fun vs4 =>
 ((sem_class_Of n) [x1]).bind fun v6 =>
 (extractV v6 0).bind fun v7 =>
 (extractV v6 1).bind fun v8 =>
 ((sem_Error n) [v8, v2]).bind fun v9 =>
 ((sem_railsame_Lists n) [v7, (List.getD vs4 0 V.any)]).bind fun v10 =>
 (ldk (some 4) (List.drop 0 v1)).bind fun v11 =>
 ((sem_railref1_Net n) [v11]).bind fun v12 =>
 (bin2 Tryd.prog BinOp.eql 3 (ot 48) (oc 0) v12 (vi 0)).bind fun v13 =>
 JoinPt (fun vs14 =>
 (ldk (some 4) (List.drop 0 v1)).bind fun v16 =>
 ((sem_class_All n) [v16]).bind fun v17 =>
 (extractV v17 0).bind fun v18 =>
 (extractV v17 1).bind fun v19 =>
 ((sem_Error n) [v19, v12]).bind fun v20 =>
 ((sem_railsame_Lists n) [v18, (List.getD vs14 0 V.any)]).bind fun v21 =>
 ((sem_railref1_Header n) [x3]).bind fun v22 =>
 (bin2 Tryd.prog BinOp.eql 3 (ot 66) (oc 0) v12 (vi 0)).bind fun v23 =>
 (guardV v23 true (some v22)).bind fun v24 =>
 (guardV v23 true ((scal1 Tryd.prog (Op.unary Go.UnOp.not) v24).bind fun v25 =>
 some v25)).bind fun v26 =>
 (pickV v23 v26 (vb false)).bind fun v27 =>
 JoinPt (fun vs28 =>
 (bin2 Tryd.prog BinOp.eql 3 (ot 72) (oc 0) (List.getD vs28 0 V.any) (vi 0)).bind fun v30 =>
 JoinPt (fun vs31 =>
 (ldk (some 4) (List.drop 0 v1)).bind fun v33 =>
 ((sem_class_Path n) [v33, x3]).bind fun v34 =>
 (extractV v34 0).bind fun v35 =>
 (extractV v34 1).bind fun v36 =>
 ((sem_Error n) [v36, (List.getD vs28 0 V.any)]).bind fun v37 =>
 ((sem_railsame_Ints n) [v35, (List.getD vs31 0 V.any)]).bind fun v38 =>
 JoinPt (fun vs39 =>
 ((sem_class_Rep n) [x2, x3]).bind fun v41 =>
 (extractV v41 0).bind fun v42 =>
 (extractV v41 1).bind fun v43 =>
 ((sem_Error n) [v43, (List.getD vs39 0 V.any)]).bind fun v44 =>
 (guardV v9 true (some v20)).bind fun v45 =>
 (pickV v9 v45 (vb false)).bind fun v46 =>
 (guardV v46 true (some v37)).bind fun v47 =>
 (pickV v46 v47 (vb false)).bind fun v48 =>
 (guardV v48 true (some v44)).bind fun v49 =>
 (pickV v48 v49 (vb false)).bind fun v50 =>
 (guardV v50 true (some v10)).bind fun v51 =>
 (pickV v50 v51 (vb false)).bind fun v52 =>
 (guardV v52 true (some v21)).bind fun v53 =>
 (pickV v52 v53 (vb false)).bind fun v54 =>
 (guardV v54 true (some v38)).bind fun v55 =>
 (pickV v54 v55 (vb false)).bind fun v56 =>
 (guardV v56 true (some v42)).bind fun v57 =>
 (guardV v56 true (some (List.getD vs39 1 V.any))).bind fun v58 =>
 (guardV v56 true ((bin2 Tryd.prog BinOp.eql 3 (ot 180) (ot 181) v57 v58).bind fun v59 =>
 some v59)).bind fun v60 =>
 (pickV v56 v60 (vb false)).bind fun v61 =>
 some v61) fun J40 =>
 (fixN (fun rec62 vs63 =>
 (lenS [x2]).bind fun v64 =>
 (bin2 Tryd.prog BinOp.lss 3 (ot 90) (ot 92) (List.getD vs63 2 V.any) v64).bind fun v65 =>
 (guardV v65 true (some (List.getD vs63 0 V.any))).bind fun v66 =>
 (guardV v65 true ((bin2 Tryd.prog BinOp.neq 3 (ot 95) (oc 0) v66 (vi 0)).bind fun v67 =>
 some v67)).bind fun v68 =>
 (pickV v65 v68 (vb false)).bind fun v69 =>
 condV v69 (
 JoinPt (fun vs70 =>
 (bin2 Tryd.prog BinOp.add 3 (ot 98) (oc 1) (List.getD vs63 2 V.any) (vi 1)).bind fun v72 =>
 rec62 [(List.getD vs70 0 V.any), (List.getD vs70 1 V.any), v72]) fun J71 =>
 JoinPt (fun vs73 =>
 JoinPt (fun vs75 =>
 J71 [(List.getD vs73 0 V.any), (List.getD vs75 0 V.any)]) fun J76 =>
 (fixN (fun rec77 vs78 =>
 (idxS 1 x2 (List.getD vs63 2 V.any)).bind fun v79 =>
 (ldp none v79).bind fun v80 =>
 (lenS [v80]).bind fun v81 =>
 (bin2 Tryd.prog BinOp.lss 3 (ot 118) (ot 123) (List.getD vs78 1 V.any) v81).bind fun v82 =>
 (guardV v82 true (some (List.getD vs73 0 V.any))).bind fun v83 =>
 (guardV v82 true ((bin2 Tryd.prog BinOp.eql 3 (ot 126) (oc 0) v83 (vi 0)).bind fun v84 =>
 some v84)).bind fun v85 =>
 (pickV v82 v85 (vb false)).bind fun v86 =>
 condV v86 (
 (bin2 Tryd.prog BinOp.eql 3 (ot 131) (oc 0) (List.getD vs78 1 V.any) (vi 0)).bind fun v87 =>
 (guardV v87 false (some x2)).bind fun v88 =>
 (guardV v87 false (some (List.getD vs63 2 V.any))).bind fun v89 =>
 (guardV v87 false ((idxS 1 v88 v89).bind fun v90 =>
 some v90)).bind fun v91 =>
 (guardV v87 false ((ldp none v91).bind fun v92 =>
 some v92)).bind fun v93 =>
 (guardV v87 false (some (List.getD vs78 1 V.any))).bind fun v94 =>
 (guardV v87 false ((idxS 1 v93 v94).bind fun v95 =>
 some v95)).bind fun v96 =>
 (guardV v87 false ((ldp none v96).bind fun v97 =>
 some v97)).bind fun v98 =>
 (guardV v87 false (some (List.getD vs78 0 V.any))).bind fun v99 =>
 (guardV v87 false ((bin2 Tryd.prog BinOp.lss 3 (ot 140) (ot 141) v98 v99).bind fun v100 =>
 some v100)).bind fun v101 =>
 (pickV v87 (vb true) v101).bind fun v102 =>
 JoinPt (fun vs103 =>
 (bin2 Tryd.prog BinOp.add 3 (ot 129) (oc 1) (List.getD vs78 1 V.any) (vi 1)).bind fun v105 =>
 rec77 [(List.getD vs103 0 V.any), v105]) fun J104 =>
 condV v102 (
 (idxS 1 x2 (List.getD vs63 2 V.any)).bind fun v106 =>
 (ldp none v106).bind fun v107 =>
 (idxS 1 v107 (List.getD vs78 1 V.any)).bind fun v108 =>
 (ldp none v108).bind fun v109 =>
 J104 [v109]) (
 J104 [(List.getD vs78 0 V.any)])) (
 J76 [(List.getD vs78 0 V.any)])) n) [(List.getD vs63 1 V.any), (vi 0)]) fun J74 =>
 (fixN (fun rec110 vs111 =>
 (idxS 1 x2 (List.getD vs63 2 V.any)).bind fun v112 =>
 (ldp none v112).bind fun v113 =>
 (lenS [v113]).bind fun v114 =>
 (bin2 Tryd.prog BinOp.lss 3 (ot 100) (ot 105) (List.getD vs111 1 V.any) v114).bind fun v115 =>
 condV v115 (
 (idxS 1 x2 (List.getD vs63 2 V.any)).bind fun v116 =>
 (ldp none v116).bind fun v117 =>
 (idxS 1 v117 (List.getD vs111 1 V.any)).bind fun v118 =>
 (ldp none v118).bind fun v119 =>
 (bin2 Tryd.prog BinOp.eql 3 (ot 115) (ot 116) v119 x3).bind fun v120 =>
 JoinPt (fun vs121 =>
 (bin2 Tryd.prog BinOp.add 3 (ot 107) (oc 1) (List.getD vs111 1 V.any) (vi 1)).bind fun v123 =>
 rec110 [(List.getD vs121 0 V.any), v123]) fun J122 =>
 condV v120 (
 J122 [(vi 0)]) (
 J122 [(List.getD vs111 0 V.any)])) (
 J74 [(List.getD vs111 0 V.any)])) n) [(List.getD vs63 0 V.any), (vi 0)]) (
 J40 [(List.getD vs63 0 V.any), (List.getD vs63 1 V.any)])) n) [(vi 5), (vi 0), (vi 0)]) fun J32 =>
 condV v30 (
 (ldk none (List.drop 3 v1)).bind fun v124 =>
 ((sem_railref1_Path n) [v124, x3]).bind fun v125 =>
 (keepO (some v1) (some v1) (some [v125])).bind J32) (
 (keepO (some v1) (some v1) (some [(V.sl [])])).bind J32)) fun J29 =>
 condV v27 (
 (keepO (some v1) (some v1) (some [(vi 1)])).bind J29) (
 (keepO (some v1) (some v1) (some [v12])).bind J29)) fun J15 =>
 condV v13 (
 (ldk none (List.drop 3 v1)).bind fun v126 =>
 ((sem_railref1_Classes n) [v126]).bind fun v127 =>
 (keepO (some v1) (some v1) (some [v127])).bind J15) (
 (keepO (some v1) (some v1) (some [(V.sl [])])).bind J15)) fun J5 =>
 condV v3 (
 (slcB 1 1 [(V.sl [])] [(0, x1)]).bind fun v128 =>
 ((sem_railref1_Classes n) [v128]).bind fun v129 =>
 (keepO (some v1) (some v1) (some [v129])).bind J5) (
 (keepO (some v1) (some v1) (some [(V.sl [])])).bind J5) := by kernel_rfl
noncomputable def t_raillaw1_ClassTells (a0 : T_Net) (a1 : (List T_Rule)) (a2 : (List (List Int))) (a3 : Int) : Option Bool :=
 (t_railref1_Table a1).bind fun r3 =>
 (if (decide (r3 = 0)) = true then (
 (t_railref1_Classes ([a1] : (List (List T_Rule)))).bind fun r257 =>
 some (r257)) else (
 some ([]))).bind fun (s7 : (List (List Int))) =>
 (t_class_Of a1).bind fun r11 =>
 (t_railsame_Error r11.2 r3).bind fun r15 =>
 (t_railsame_Lists r11.1 s7).bind fun r17 =>
 (t_railref1_Net a0).bind fun r20 =>
 (if (decide (r20 = 0)) = true then (
 (t_railref1_Classes a0.Tables).bind fun r253 =>
 some (r253)) else (
 some ([]))).bind fun (s24 : (List (List Int))) =>
 (t_class_All a0).bind fun r29 =>
 (t_railsame_Error r29.2 r20).bind fun r33 =>
 (t_railsame_Lists r29.1 s24).bind fun r35 =>
 (t_railref1_Header a3).bind fun r37 =>
 (if ((decide (r20 = 0)) && (!r37)) = true then (
 some (1)) else (
 some (r20))).bind fun (s47 : Int) =>
 (if (decide (s47 = 0)) = true then (
 (t_railref1_Path a0.Tables a3).bind fun r248 =>
 some (r248)) else (
 some ([]))).bind fun (s53 : (List Int)) =>
 (t_class_Path a0 a3).bind fun r58 =>
 (t_railsame_Error r58.2 s47).bind fun r62 =>
 (t_railsame_Ints r58.1 s53).bind fun r64 =>
 (loopI a2 (fun (i108 : Int) x109 (s104 : (Int × Int)) k105 =>
 if (decide (s104.1 ≠ 0)) = true then (
 ((loopI x109 (fun (i209 : Int) x210 (s205 : Int) k206 =>
 (if (decide (x210 = a3)) = true then (
 some (0)) else (
 some (s205))).bind fun (s225 : Int) =>
 k206 (s225)) (fun (s205 : Int) =>
 some (s205)) (s104.1)).bind fun (s128 : Int) =>
 (loopI x109 (fun (i142 : Int) x143 (s138 : Int) k139 =>
 if (decide (s128 = 0)) = true then (
 (if ((decide (i142 = 0)) || (decide (x143 < s138))) = true then (
 some (x143)) else (
 some (s138))).bind fun (s183 : Int) =>
 k139 (s183)) else (
 some (s138))) (fun (s138 : Int) =>
 some (s138)) (s104.2)).bind fun (s133 : Int) =>
 some (s128, s133)).bind fun (s122 : (Int × Int)) =>
 k105 (s122.1, s122.2)) else (
 some (s104.1, s104.2))) (fun (s104 : (Int × Int)) =>
 some (s104.1, s104.2)) (5, 0)).bind fun (s67 : (Int × Int)) =>
 (t_class_Rep a2 a3).bind fun r71 =>
 (t_railsame_Error r71.2 s67.1).bind fun r75 =>
 some (((((((r15 && r33) && r62) && r75) && r17) && r35) && r64) && (decide (r71.1 = s67.2)))
theorem ty_raillaw1_ClassTells {n : Nat} (hn : bigN ≤ n) (a0 : T_Net) (a1 : (List T_Rule)) (a2 : (List (List Int))) (a3 : Int) : Rv (fun x : Bool => (vb x)) (sem_raillaw1_ClassTells n [(T_Net.e a0), (V.sl (List.map T_Rule.c a1)), (V.sl (List.map (cS cI) a2)), (vi a3)]) (t_raillaw1_ClassTells a0 a1 a2 a3) := by
  rw [eq_raillaw1_ClassTells]
  unfold t_raillaw1_ClassTells
  refine tb (x := (T_Net.c a0)) rfl ?_
  refine tbo (ty_railref1_Table hn a1) fun r3 => ?_
  refine tb (x := (vb (decide (r3 = 0)))) (d_eql) ?_
  refine tjb (mk := fun s7 : (List (List Int)) => [(V.sl (List.map (cS cI) s7))]) (fun J6 => ?_) fun s7 => ?_
  · refine tcond (fun h254 => ?_) (fun h254 => ?_)
    · refine tb (x := (V.sl (List.map (cS T_Rule.c) ([a1] : (List (List T_Rule)))))) (by kernel_rfl) ?_
      refine tbo (ty_railref1_Classes hn ([a1] : (List (List T_Rule)))) fun r257 => ?_
      refine tkeepO2 ?_ rfl
      refine tsome ?_
      exact rf_j rfl
    · refine tkeepO2 ?_ rfl
      refine tsome ?_
      exact rf_j rfl
  · refine tbo (ty_class_Of hn a1) fun r11 => ?_
    refine tb (x := (V.sl (List.map (cS cI) r11.1))) (rfl) ?_
    refine tb (x := (eV r11.2)) (rfl) ?_
    refine tbo (ty_railsame_Error r11.2 r3) fun r15 => ?_
    refine tbo (ty_railsame_Lists hn r11.1 s7) fun r17 => ?_
    refine tb (x := (T_Net.e a0)) (rfl) ?_
    refine tbo (ty_railref1_Net hn a0) fun r20 => ?_
    refine tb (x := (vb (decide (r20 = 0)))) (d_eql) ?_
    refine tjb (mk := fun s24 : (List (List Int)) => [(V.sl (List.map (cS cI) s24))]) (fun J23 => ?_) fun s24 => ?_
    · refine tcond (fun h250 => ?_) (fun h250 => ?_)
      · refine tb (x := (V.sl (List.map (cS T_Rule.c) a0.Tables))) (rfl) ?_
        refine tbo (ty_railref1_Classes hn a0.Tables) fun r253 => ?_
        refine tkeepO2 ?_ rfl
        refine tsome ?_
        exact rf_j rfl
      · refine tkeepO2 ?_ rfl
        refine tsome ?_
        exact rf_j rfl
    · refine tb (x := (T_Net.e a0)) (rfl) ?_
      refine tbo (ty_class_All hn a0) fun r29 => ?_
      refine tb (x := (V.sl (List.map (cS cI) r29.1))) (rfl) ?_
      refine tb (x := (eV r29.2)) (rfl) ?_
      refine tbo (ty_railsame_Error r29.2 r20) fun r33 => ?_
      refine tbo (ty_railsame_Lists hn r29.1 s24) fun r35 => ?_
      refine tbo (ty_railref1_Header hn a3) fun r37 => ?_
      refine tb (x := (vb (decide (r20 = 0)))) (d_eql) ?_
      refine tg (x := (vb r37)) (fun h39 => rfl) ?_
      refine tg (x := (vb (!r37))) (fun h41 => by simp only [gv_t h41]; exact bind_some_eq (d_not)) ?_
      refine tb (x := (vb ((decide (r20 = 0)) && (!r37)))) (pick_and (fun h9 => gv_t h9)) ?_
      refine tjb (mk := fun s47 : Int => [(vi s47)]) (fun J46 => ?_) fun s47 => ?_
      · refine tcond (fun h249 => ?_) (fun h249 => ?_)
        · refine tkeepO2 ?_ rfl
          refine tsome ?_
          exact rf_j rfl
        · refine tkeepO2 ?_ rfl
          refine tsome ?_
          exact rf_j rfl
      · refine tb (x := (vb (decide (s47 = 0)))) (d_eql) ?_
        refine tjb (mk := fun s53 : (List Int) => [(V.sl (List.map cI s53))]) (fun J52 => ?_) fun s53 => ?_
        · refine tcond (fun h245 => ?_) (fun h245 => ?_)
          · refine tb (x := (V.sl (List.map (cS T_Rule.c) a0.Tables))) (rfl) ?_
            refine tbo (ty_railref1_Path hn a0.Tables a3) fun r248 => ?_
            refine tkeepO2 ?_ rfl
            refine tsome ?_
            exact rf_j rfl
          · refine tkeepO2 ?_ rfl
            refine tsome ?_
            exact rf_j rfl
        · refine tb (x := (T_Net.e a0)) (rfl) ?_
          refine tbo (ty_class_Path hn a0 a3) fun r58 => ?_
          refine tb (x := (V.sl (List.map cI r58.1))) (rfl) ?_
          refine tb (x := (eV r58.2)) (rfl) ?_
          refine tbo (ty_railsame_Error r58.2 s47) fun r62 => ?_
          refine tbo (ty_railsame_Ints hn r58.1 s53) fun r64 => ?_
          refine tjb (mk := fun s67 : (Int × Int) => [(vi s67.1), (vi s67.2)]) (fun J66 => ?_) fun s67 => ?_
          · refine rf_loopI (mk := fun (i108 : Int) (s104 : (Int × Int)) => [(vi s104.1), (vi s104.2), (vi (i108 : Int))]) hn a2 (5, 0) (fun i108 x109 h110 h111 h112 s104 rec102 k105 h106 => ?_) (fun s104 rec237 h236 => ?_)
            · refine tb (x := (vi (List.length a2 : Int))) (p_len _) ?_
              refine tb (x := (vb (decide ((i108 : Int) < (List.length a2 : Int))))) (d_lss) ?_
              refine tb (x := (vi s104.1)) (gkt h112 rfl) ?_
              refine tkt h112 (tb (x := (vb (decide (s104.1 ≠ 0)))) (d_neq) ?_)
              refine tb (x := (vb (decide (s104.1 ≠ 0)))) (pick_kt h112) ?_
              refine tcond (fun h119 => ?_) (fun h119 => ?_)
              · refine tjb (mk := fun s122 : (Int × Int) => [(vi s122.1), (vi s122.2)]) (fun J121 => ?_) fun s122 => ?_
                · refine tjb (mk := fun s128 : Int => [(vi s128)]) (fun J127 => ?_) fun s128 => ?_
                  · refine rf_loopI (mk := fun (i209 : Int) (s205 : Int) => [(vi s205), (vi (i209 : Int))]) hn x109 (s104.1) (fun i209 x210 h211 h212 h213 s205 rec203 k206 h207 => ?_) (fun s205 rec231 h230 => ?_)
                    · refine tb (x := (V.ptr [(V.sl (List.map cI x109))])) (p_idx_at (c := (cS cI)) (fun _ => rfl) h110) ?_
                      refine tb (x := (V.sl (List.map cI x109))) (rfl) ?_
                      refine tb (x := (vi (List.length x109 : Int))) (p_len _) ?_
                      refine tb (x := (vb (decide ((i209 : Int) < (List.length x109 : Int))))) (d_lss) ?_
                      refine tcond_t h213 ?_
                      refine tb (x := (V.ptr [(V.sl (List.map cI x109))])) (p_idx_at (c := (cS cI)) (fun _ => rfl) h110) ?_
                      refine tb (x := (V.sl (List.map cI x109))) (rfl) ?_
                      refine tb (x := (V.ptr [(vi x210)])) (p_idx_at (c := cI) (fun _ => rfl) h211) ?_
                      refine tb (x := (vi x210)) (rfl) ?_
                      refine tb (x := (vb (decide (x210 = a3)))) (d_eql) ?_
                      refine tjb (mk := fun s225 : Int => [(vi s225)]) (fun J224 => ?_) fun s225 => ?_
                      · refine tcond (fun h229 => ?_) (fun h229 => ?_)
                        · exact rf_j rfl
                        · exact rf_j rfl
                      · refine tb (x := (vi ((i209 : Int) + 1))) (p_incN h212) ?_
                        exact h207 (s225)
                    · refine tb (x := (V.ptr [(V.sl (List.map cI x109))])) (p_idx_at (c := (cS cI)) (fun _ => rfl) h110) ?_
                      refine tb (x := (V.sl (List.map cI x109))) (rfl) ?_
                      refine tb (x := (vi (List.length x109 : Int))) (p_len _) ?_
                      refine tb (x := (vb (decide ((List.length x109 : Int) < (List.length x109 : Int))))) (d_lss) ?_
                      refine tcond_f h230 ?_
                      exact rf_j rfl
                  · refine tjb (mk := fun s133 : Int => [(vi s133)]) (fun J132 => ?_) fun s133 => ?_
                    · refine rf_loopI (mk := fun (i142 : Int) (s138 : Int) => [(vi s138), (vi (i142 : Int))]) hn x109 (s104.2) (fun i142 x143 h144 h145 h146 s138 rec136 k139 h140 => ?_) (fun s138 rec193 h192 => ?_)
                      · refine tb (x := (V.ptr [(V.sl (List.map cI x109))])) (p_idx_at (c := (cS cI)) (fun _ => rfl) h110) ?_
                        refine tb (x := (V.sl (List.map cI x109))) (rfl) ?_
                        refine tb (x := (vi (List.length x109 : Int))) (p_len _) ?_
                        refine tb (x := (vb (decide ((i142 : Int) < (List.length x109 : Int))))) (d_lss) ?_
                        refine tb (x := (vi s128)) (gkt h146 rfl) ?_
                        refine tkt h146 (tb (x := (vb (decide (s128 = 0)))) (d_eql) ?_)
                        refine tb (x := (vb (decide (s128 = 0)))) (pick_kt h146) ?_
                        refine tcond (fun h155 => ?_) (fun h155 => ?_)
                        · refine tb (x := (vb (decide ((i142 : Int) = 0)))) (d_eql) ?_
                          refine tg_f (x := (V.sl (List.map (cS cI) a2))) (fun h157 => rfl) ?_
                          refine tg_f (x := (vi (i108 : Int))) (fun h159 => rfl) ?_
                          refine tg_f (x := (V.ptr [(V.sl (List.map cI x109))])) (fun h161 => by simp only [gv_t h161]; exact bind_some_eq (p_idx_at (c := (cS cI)) (fun _ => rfl) h110)) ?_
                          refine tg_f (x := (V.sl (List.map cI x109))) (fun h164 => by first | exact bind_some_eq (rfl) | (simp only [gv_t h164]; exact bind_some_eq (rfl))) ?_
                          refine tg_f (x := (vi (i142 : Int))) (fun h167 => rfl) ?_
                          refine tg_f (x := (V.ptr [(vi x143)])) (fun h169 => by simp only [gv_t h169]; exact bind_some_eq (p_idx_at (c := cI) (fun _ => rfl) h144)) ?_
                          refine tg_f (x := (vi x143)) (fun h172 => by first | exact bind_some_eq (rfl) | (simp only [gv_t h172]; exact bind_some_eq (rfl))) ?_
                          refine tg_f (x := (vi s138)) (fun h175 => rfl) ?_
                          refine tg_f (x := (vb (decide (x143 < s138)))) (fun h177 => by simp only [gv_t h177]; exact bind_some_eq (d_lss)) ?_
                          refine tb (x := (vb ((decide ((i142 : Int) = 0)) || (decide (x143 < s138))))) (pick_or (fun h9 => gv_t (not_f h9))) ?_
                          refine tjb (mk := fun s183 : Int => [(vi s183)]) (fun J182 => ?_) fun s183 => ?_
                          · refine tcond (fun h187 => ?_) (fun h187 => ?_)
                            · refine tb (x := (V.ptr [(V.sl (List.map cI x109))])) (p_idx_at (c := (cS cI)) (fun _ => rfl) h110) ?_
                              refine tb (x := (V.sl (List.map cI x109))) (rfl) ?_
                              refine tb (x := (V.ptr [(vi x143)])) (p_idx_at (c := cI) (fun _ => rfl) h144) ?_
                              refine tb (x := (vi x143)) (rfl) ?_
                              exact rf_j rfl
                            · exact rf_j rfl
                          · refine tb (x := (vi ((i142 : Int) + 1))) (p_incN h145) ?_
                            exact h140 (s183)
                        · exact rf_j rfl
                      · refine tb (x := (V.ptr [(V.sl (List.map cI x109))])) (p_idx_at (c := (cS cI)) (fun _ => rfl) h110) ?_
                        refine tb (x := (V.sl (List.map cI x109))) (rfl) ?_
                        refine tb (x := (vi (List.length x109 : Int))) (p_len _) ?_
                        refine tb (x := (vb (decide ((List.length x109 : Int) < (List.length x109 : Int))))) (d_lss) ?_
                        refine tb (x := V.tup []) (gnt h192) ?_
                        refine tb (x := V.tup []) (gnt h192) ?_
                        refine tb (x := (vb (false))) (pick_kf h192) ?_
                        refine tcond_f rfl ?_
                        exact rf_j rfl
                    · exact rf_j rfl
                · refine tb (x := (vi ((i108 : Int) + 1))) (p_incN h111) ?_
                  exact h106 (s122.1, s122.2)
              · exact rf_j rfl
            · refine tb (x := (vi (List.length a2 : Int))) (p_len _) ?_
              refine tb (x := (vb (decide ((List.length a2 : Int) < (List.length a2 : Int))))) (d_lss) ?_
              refine tb (x := V.tup []) (gnt h236) ?_
              refine tb (x := V.tup []) (gnt h236) ?_
              refine tb (x := (vb (false))) (pick_kf h236) ?_
              refine tcond_f rfl ?_
              exact rf_j rfl
          · refine tbo (ty_class_Rep hn a2 a3) fun r71 => ?_
            refine tb (x := (vi r71.1)) (rfl) ?_
            refine tb (x := (eV r71.2)) (rfl) ?_
            refine tbo (ty_railsame_Error r71.2 s67.1) fun r75 => ?_
            refine tg (x := (vb r33)) (fun h76 => rfl) ?_
            refine tb (x := (vb (r15 && r33))) (pick_and (fun h9 => gv_t h9)) ?_
            refine tg (x := (vb r62)) (fun h79 => rfl) ?_
            refine tb (x := (vb ((r15 && r33) && r62))) (pick_and (fun h9 => gv_t h9)) ?_
            refine tg (x := (vb r75)) (fun h82 => rfl) ?_
            refine tb (x := (vb (((r15 && r33) && r62) && r75))) (pick_and (fun h9 => gv_t h9)) ?_
            refine tg (x := (vb r17)) (fun h85 => rfl) ?_
            refine tb (x := (vb ((((r15 && r33) && r62) && r75) && r17))) (pick_and (fun h9 => gv_t h9)) ?_
            refine tg (x := (vb r35)) (fun h88 => rfl) ?_
            refine tb (x := (vb (((((r15 && r33) && r62) && r75) && r17) && r35))) (pick_and (fun h9 => gv_t h9)) ?_
            refine tg (x := (vb r64)) (fun h91 => rfl) ?_
            refine tb (x := (vb ((((((r15 && r33) && r62) && r75) && r17) && r35) && r64))) (pick_and (fun h9 => gv_t h9)) ?_
            refine tg (x := (vi r71.1)) (fun h94 => rfl) ?_
            refine tg (x := (vi s67.2)) (fun h96 => rfl) ?_
            refine tg (x := (vb (decide (r71.1 = s67.2)))) (fun h98 => by simp only [gv_t h98]; exact bind_some_eq (d_eql)) ?_
            refine tb (x := (vb (((((((r15 && r33) && r62) && r75) && r17) && r35) && r64) && (decide (r71.1 = s67.2))))) (pick_and (fun h9 => gv_t h9)) ?_
            exact rf_ret rfl

end Go.Proofs.YtpjadjoekdcjiaaDoor.Ty
