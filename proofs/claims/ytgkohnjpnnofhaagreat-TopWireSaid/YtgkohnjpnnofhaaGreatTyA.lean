/- What functions do, as functions on plain types, written by a program and checked by the kernel. -/
import Derived.Test.YtgkohnjpnnofhaaGreatTyA0
import Derived.Test.YtgkohnjpnnofhaaGreatDenPlain
import Derived.Test.YtgkohnjpnnofhaaGreatTy
import Derived.Test.YtgkohnjpnnofhaaGreatTyT
import Derived.Test.YtgkohnjpnnofhaaGreatTyW
import Derived.Test.YtgkohnjpnnofhaaGreatDoTy
import Derived.Test.YtgkohnjpnnofhaaGreatDen14
import Derived.Test.YtgkohnjpnnofhaaGreatDenS2
import Derived.Test.YtgkohnjpnnofhaaGreatShelf
import Derived.Test.YtgkohnjpnnofhaaGreatClone
namespace Go.Proofs.YtgkohnjpnnofhaaGreat.Ty
set_option linter.unusedVariables false
open Go Go.RowKit Go.Proofs.YtgkohnjpnnofhaaGreat.Den
set_option maxRecDepth 100000
def an_wire_size : Ann := .seq (.reg 0 [] [] []) (.seq (.seq (.reg 0 [] [] []) (.blk none (.seq (.reg 0 [] [] []) (.cond none (.seq (.reg 0 [] [] []) (.no)) (.seq (.seq (.reg 0 [] [] []) (.cond (some [.s 7]) (.no) (.reg 0 [] [] []))) (.cond none (.seq (.reg 0 [] [] []) (.no)) (.no))))))) (.seq (.reg 0 [] [] []) (.no)))
noncomputable def sem_wire_size (n : Nat) (xs : List V) : Option V := if xs.length ≤ 10 then denF Tryz.prog (envOf []) n Tryz.f31 an_wire_size xs else none
theorem ok_wire_size (n : Nat) : SemOk Tryz.prog DW 31 (sem_wire_size n) := fun xs y h => by
 unfold sem_wire_size at h
 split at h
 ·rename_i hl
  exact denF_ok stb Tryz.func31 (by kernel_rfl) (envOf_ok semsOk_nil) (by rw [Tryz.ntmps31]; exact hl) h
 ·cases h
theorem eq_wire_size (n : Nat) (x0 : V) : sem_wire_size n [x0] =
 (scal1 Tryz.prog (convert 5 3) x0).bind fun v1 =>
 (bin2 Tryz.prog BinOp.eql 3 (ot 4) (oc 1) v1 (vi 1)).bind fun v2 =>
 condV v2 (
 some (vi 12)) (
 (bin2 Tryz.prog BinOp.eql 3 (ot 4) (oc 2) v1 (vi 2)).bind fun v3 =>
 JoinPt (fun vs4 =>
 condV (List.getD vs4 0 V.any) (
 some (vi 5)) (
 some (vi 0))) fun J5 =>
 condV v3 (
 J5 [v3]) (
 (bin2 Tryz.prog BinOp.eql 3 (ot 4) (oc 3) v1 (vi 3)).bind fun v6 =>
 J5 [v6])) := by kernel_rfl
noncomputable def t_wire_size (a0 : Int) : Option Int :=
 if (decide ((wr a0) = 1)) = true then (
 some 12) else (
 (if (decide ((wr a0) = 2)) = true then (
 some (decide ((wr a0) = 2))) else (
 some (decide ((wr a0) = 3)))).bind fun (s7 : Bool) =>
 if s7 = true then (
 some 5) else (
 some 0))
theorem ty_wire_size {n : Nat} (hn : bigN ≤ n) (a0 : Int) : Rv (fun x : Int => (vi x)) (sem_wire_size n [(V.lit (.int .u8 a0))]) (t_wire_size a0) := by
 rw [eq_wire_size]
 unfold t_wire_size; refine tq (vi (wr a0)) (scal1_lit (r := .int .i64 (IntKind.i64.wrap a0)) rfl (fun w => by kernel_rfl) rfl) ?_; refine tq (vb (decide ((wr a0) = 1))) (d_eql) ?_; refine tcond (fun h3 => ?_) (fun h3 => ?_)
 ·exact rf_ret rfl
 ·refine tq (vb (decide ((wr a0) = 2))) (d_eql) ?_; refine tjb (mk := fun s7 : Bool => [(vb s7)]) (fun J6 => ?_) fun s7 => ?_
  ·refine tcond (fun h11 => ?_) (fun h11 => ?_)
   ·exact rf_j rfl
   ·refine tq (vb (decide ((wr a0) = 3))) (d_eql) ?_; exact rf_j rfl
  ·refine tcond (fun h10 => ?_) (fun h10 => ?_)
   ·exact rf_ret rfl
   ·exact rf_ret rfl
def an_wire_Decode_1 : Ann := .seq (.reg 0 [] [] []) (.seq (.reg 0 [] [] []) (.no))
noncomputable def sem_wire_Decode_1 (n : Nat) (xs : List V) : Option V := if xs.length ≤ 8 then denF Tryz.prog (envOf []) n Tryz.f58 an_wire_Decode_1 xs else none
theorem ok_wire_Decode_1 (n : Nat) : SemOk Tryz.prog DW 58 (sem_wire_Decode_1 n) := fun xs y h => by
 unfold sem_wire_Decode_1 at h
 split at h
 ·rename_i hl
  exact denF_ok stb Tryz.func58 (by kernel_rfl) (envOf_ok semsOk_nil) (by rw [Tryz.ntmps58]; exact hl) h
 ·cases h
theorem eq_wire_Decode_1 (n : Nat) (x0 x1 : V) : sem_wire_Decode_1 n [x0, x1] =
 (ldp none x1).bind fun v1 =>
 (scal2 Tryz.prog (Instr.index 9) v1 x0).bind fun v2 =>
 (scal1 Tryz.prog (convert 5 3) v2).bind fun v3 =>
 some v3 := by kernel_rfl
noncomputable def t_wire_Decode_1 (a0 : Int) (a1 : ByteArray) : Option Int :=
 (sidx a1 a0).bind fun r3 =>
 some (wr r3)
theorem ty_wire_Decode_1 {n : Nat} (hn : bigN ≤ n) (a0 : Int) (a1 : ByteArray) : Rv (fun x : Int => (vi x)) (sem_wire_Decode_1 n [(vi a0), (V.ptr [(vt a1)])]) (t_wire_Decode_1 a0 a1) := by
 rw [eq_wire_Decode_1]
 unfold t_wire_Decode_1; refine tq (vt a1) (rfl) ?_; refine tbo (p_sidx (Tryz.underlying9) a1 a0) fun r3 => ?_; refine tq (vi (wr r3)) (scal1_lit (r := .int .i64 (IntKind.i64.wrap r3)) rfl (fun w => by kernel_rfl) rfl) ?_; exact rf_ret rfl
def an_wire_Decode : Ann := .seq (.reg 0 [] [] []) (.seq (.seq (.reg 10 [1] [] []) (.cond none (.seq (.reg 0 [] [] []) (.no)) (.no))) (.seq (.reg 0 [] [] []) (.seq (.reg 0 [] [] []) (.seq (.seq (.reg 0 [] [] []) (.cond (some [.kb 2, .b 5]) (.reg 21 [] [] []) (.no))) (.seq (.seq (.reg 0 [] [] []) (.seq (.reg 0 [] [] []) (.cond none (.seq (.reg 0 [] [] []) (.no)) (.no)))) (.seq (.reg 0 [] [] []) (.no)))))))
noncomputable def sem_wire_Decode (n : Nat) (xs : List V) : Option V := if xs.length ≤ 69 then denF Tryz.prog (envOf [(31, (sem_wire_size n)), (8, (sem_wire_Encode n)), (58, (sem_wire_Decode_1 n))]) n Tryz.f32 an_wire_Decode xs else none
theorem ok_wire_Decode (n : Nat) : SemOk Tryz.prog DW 32 (sem_wire_Decode n) := fun xs y h => by
 unfold sem_wire_Decode at h
 split at h
 ·rename_i hl
  exact denF_ok stb Tryz.func32 (by kernel_rfl) (envOf_ok (semsOk_cons (ok_wire_size n) (semsOk_cons (ok_wire_Encode n) (semsOk_cons (ok_wire_Decode_1 n) semsOk_nil)))) (by rw [Tryz.ntmps32]; exact hl) h
 ·cases h
theorem eq_wire_Decode (n : Nat) (x0 : V) : sem_wire_Decode n [x0] =
 (V.cellsO x0).bind fun v1 =>
 (ldp none (V.ptr v1)).bind fun v2 =>
 (bin2 Tryz.prog BinOp.eql 9 (ot 8) (Operand.const (Go.Value.string (ByteArray.mk #[]))) v2 (vt ⟨#[]⟩)).bind fun v3 =>
 (guardV v3 false ((ldp none (V.ptr v1)).bind fun v4 =>
 some v4)).bind fun v5 =>
 (guardV v3 false ((lenT [v5]).bind fun v6 =>
 some v6)).bind fun v7 =>
 (guardV v3 false ((ldp none (V.ptr v1)).bind fun v8 =>
 some v8)).bind fun v9 =>
 (guardV v3 false ((scal2 Tryz.prog (Instr.index 9) v9 (vi 0)).bind fun v10 =>
 some v10)).bind fun v11 =>
 (guardV v3 false (((sem_wire_size n) [v11]).bind fun v12 =>
 some v12)).bind fun v13 =>
 (guardV v3 false ((bin2 Tryz.prog BinOp.neq 3 (ot 12) (ot 15) v7 v13).bind fun v14 =>
 some v14)).bind fun v15 =>
 (pickV v3 (vb true) v15).bind fun v16 =>
 condV v16 (
 ((fillL [(vi 0), (vi 0), (vi 0), (vi 0), (vi 0), (vb false), (vi 0), (vi 0), (vi 0), (vi 0), (vi 0), (vi 0)] []).map V.agg).bind fun v17 =>
 (scal1 Tryz.prog (Instr.makeInterface 81) (vi 2)).bind fun v18 =>
 (spliceV [(vi 0), (vi 0), (vi 0), (vi 0), (vi 0), (vb false), (vi 0), (vi 0), (vi 0), (vi 0), (vi 0), (vi 0)] 0 12 v17).bind fun v19 =>
 (ldk (some 12) (List.drop 0 (aggL v19))).bind fun v20 =>
 some (V.tup [v20, v18])) (
 ((sem_wire_Decode_1 n) [(vi 0), (V.ptr v1)]).bind fun v21 =>
 ((sem_wire_Decode_1 n) [(vi 1), (V.ptr v1)]).bind fun v22 =>
 ((sem_wire_Decode_1 n) [(vi 2), (V.ptr v1)]).bind fun v23 =>
 ((sem_wire_Decode_1 n) [(vi 3), (V.ptr v1)]).bind fun v24 =>
 ((fillL [(vi 0), (vi 0), (vi 0), (vi 0), (vi 0), (vb false), (vi 0), (vi 0), (vi 0), (vi 0), (vi 0), (vi 0)] [(0, 1, v21), (1, 1, v22), (2, 1, v23), (3, 1, v24)]).map V.agg).bind fun v25 =>
 (spliceV [(vi 0), (vi 0), (vi 0), (vi 0), (vi 0), (vb false), (vi 0), (vi 0), (vi 0), (vi 0), (vi 0), (vi 0)] 0 12 v25).bind fun v26 =>
 (ldk none (List.drop 0 (aggL v26))).bind fun v27 =>
 (bin2 Tryz.prog BinOp.eql 3 (ot 31) (oc 1) v27 (vi 1)).bind fun v28 =>
 JoinPt (fun vs29 =>
 (ldk (some 12) (List.drop 0 (aggL (List.getD vs29 0 V.any)))).bind fun v31 =>
 ((sem_wire_Encode n) [v31]).bind fun v32 =>
 (extractV v32 0).bind fun v33 =>
 (extractV v32 1).bind fun v34 =>
 (bin2 Tryz.prog BinOp.neq 32 (ot 59) (Operand.const Go.Value.nilIface) v34 vn).bind fun v35 =>
 (guardV v35 false (some v33)).bind fun v36 =>
 (guardV v35 false ((ldp none (V.ptr v1)).bind fun v37 =>
 some v37)).bind fun v38 =>
 (guardV v35 false ((bin2 Tryz.prog BinOp.neq 9 (ot 62) (ot 63) v36 v38).bind fun v39 =>
 some v39)).bind fun v40 =>
 (pickV v35 (vb true) v40).bind fun v41 =>
 condV v41 (
 ((fillL [(vi 0), (vi 0), (vi 0), (vi 0), (vi 0), (vb false), (vi 0), (vi 0), (vi 0), (vi 0), (vi 0), (vi 0)] []).map V.agg).bind fun v42 =>
 (scal1 Tryz.prog (Instr.makeInterface 81) (vi 2)).bind fun v43 =>
 (spliceV [(vi 0), (vi 0), (vi 0), (vi 0), (vi 0), (vb false), (vi 0), (vi 0), (vi 0), (vi 0), (vi 0), (vi 0)] 0 12 v42).bind fun v44 =>
 (ldk (some 12) (List.drop 0 (aggL v44))).bind fun v45 =>
 some (V.tup [v45, v43])) (
 (ldk (some 12) (List.drop 0 (aggL (List.getD vs29 0 V.any)))).bind fun v46 =>
 (spliceV [(vi 0), (vi 0), (vi 0), (vi 0), (vi 0), (vb false), (vi 0), (vi 0), (vi 0), (vi 0), (vi 0), (vi 0)] 0 12 v46).bind fun v47 =>
 (ldk (some 12) (List.drop 0 (aggL v47))).bind fun v48 =>
 some (V.tup [v48, vn]))) fun J30 =>
 condV v28 (
 (ldk none (List.drop 1 (aggL v26))).bind fun v49 =>
 ((sem_wire_Decode_1 n) [(vi 4), (V.ptr v1)]).bind fun v50 =>
 (bin2 Tryz.prog BinOp.eql 3 (ot 36) (oc 1) v50 (vi 1)).bind fun v51 =>
 ((sem_wire_Decode_1 n) [(vi 5), (V.ptr v1)]).bind fun v52 =>
 ((sem_wire_Decode_1 n) [(vi 6), (V.ptr v1)]).bind fun v53 =>
 ((sem_wire_Decode_1 n) [(vi 7), (V.ptr v1)]).bind fun v54 =>
 ((fillL [(vi 0), (vi 0)] [(0, 1, v53), (1, 1, v54)]).map V.agg).bind fun v55 =>
 ((sem_wire_Decode_1 n) [(vi 8), (V.ptr v1)]).bind fun v56 =>
 ((sem_wire_Decode_1 n) [(vi 9), (V.ptr v1)]).bind fun v57 =>
 ((sem_wire_Decode_1 n) [(vi 10), (V.ptr v1)]).bind fun v58 =>
 ((fillL [(vi 0), (vi 0), (vi 0), (vi 0), (vi 0), (vi 0)] [(0, 1, v52), (1, 2, v55), (3, 1, v56), (4, 1, v57), (5, 1, v58)]).map V.agg).bind fun v59 =>
 ((fillL [(vi 0), (vb false), (vi 0), (vi 0), (vi 0), (vi 0), (vi 0), (vi 0)] [(0, 1, v49), (1, 1, v51), (2, 6, v59)]).map V.agg).bind fun v60 =>
 (spliceV (aggL v26) 4 8 v60).bind fun v61 =>
 (keepO (some [(vi 0), (vi 0), (vi 0), (vi 0), (vi 0), (vb false), (vi 0), (vi 0), (vi 0), (vi 0), (vi 0), (vi 0)]) (some [(vi 0), (vi 0), (vi 0), (vi 0), (vi 0), (vb false), (vi 0), (vi 0), (vi 0), (vi 0), (vi 0), (vi 0)]) (some [(V.agg (aggL v61))])).bind J30) (
 (keepO (some [(vi 0), (vi 0), (vi 0), (vi 0), (vi 0), (vb false), (vi 0), (vi 0), (vi 0), (vi 0), (vi 0), (vi 0)]) (some [(vi 0), (vi 0), (vi 0), (vi 0), (vi 0), (vb false), (vi 0), (vi 0), (vi 0), (vi 0), (vi 0), (vi 0)]) (some [(V.agg (aggL v26))])).bind J30)) := by kernel_rfl
noncomputable def t_wire_Decode (a0 : ByteArray) : Option (T_Msg × Int) :=
 (gd (!(decide (a0 = (ByteArray.mk #[])))) default (sidx a0 0)).bind fun r16 =>
 (gd (!(decide (a0 = (ByteArray.mk #[])))) default (t_wire_size r16)).bind fun r20 =>
 if ((decide (a0 = (ByteArray.mk #[]))) || (decide ((a0.size : Int) ≠ r20))) = true then (
 some ((T_Msg.mk 0 0 0 0 (T_Op.mk 0 false (T_Rule.mk 0 (T_Cube.mk 0 0) 0 0 0))), 2)) else (
 (t_wire_Decode_1 0 a0).bind fun r31 =>
 (t_wire_Decode_1 1 a0).bind fun r33 =>
 (t_wire_Decode_1 2 a0).bind fun r35 =>
 (t_wire_Decode_1 3 a0).bind fun r37 =>
 (if (decide (r31 = 1)) = true then (
 (t_wire_Decode_1 4 a0).bind fun r73 =>
 (t_wire_Decode_1 5 a0).bind fun r76 =>
 (t_wire_Decode_1 6 a0).bind fun r78 =>
 (t_wire_Decode_1 7 a0).bind fun r80 =>
 (t_wire_Decode_1 8 a0).bind fun r83 =>
 (t_wire_Decode_1 9 a0).bind fun r85 =>
 (t_wire_Decode_1 10 a0).bind fun r87 =>
 some (T_Msg.mk r31 r33 r35 r37 (T_Op.mk r33 (decide (r73 = 1)) (T_Rule.mk r76 (T_Cube.mk r78 r80) r83 r85 r87)))) else (
 some (T_Msg.mk r31 r33 r35 r37 (T_Op.mk 0 false (T_Rule.mk 0 (T_Cube.mk 0 0) 0 0 0))))).bind fun (s44 : T_Msg) =>
 (t_wire_Encode s44).bind fun r49 =>
 if ((!decide (r49.2 = 0)) || (!decide (r49.1 = a0))) = true then (
 some ((T_Msg.mk 0 0 0 0 (T_Op.mk 0 false (T_Rule.mk 0 (T_Cube.mk 0 0) 0 0 0))), 2)) else (
 some (s44, 0)))
theorem ty_wire_Decode {n : Nat} (hn : bigN ≤ n) (a0 : ByteArray) : Rv (fun x : (T_Msg × Int) => V.tup [(T_Msg.e x.1), (eV x.2)]) (sem_wire_Decode n [(vt a0)]) (t_wire_Decode a0) := by
 rw [eq_wire_Decode]
 unfold t_wire_Decode; refine tq [(vt a0)] rfl ?_; refine tq (vt a0) (rfl) ?_; refine tq (vb (decide (a0 = (ByteArray.mk #[])))) (p_eql_str) ?_; refine tg_f (x := (vt a0)) (fun h4 => bind_some_eq (rfl)) ?_; refine tg_f (x := (vi (a0.size : Int))) (fun h7 => by simp only [gv_t h7]; exact bind_some_eq (rfl)) ?_; refine tg_f (x := (vt a0)) (fun h10 => bind_some_eq (rfl)) ?_; refine tgo_f (fun h13 => by simp only [gv_t h13]; exact rf_bind_some (p_sidx (Tryz.underlying9) a0 0)) fun r16 => ?_; refine tgo_f (fun h17 => by simp only [gv_t h17]; exact rf_bind_some (ty_wire_size hn r16)) fun r20 => ?_; refine tg_f (x := (vb (decide ((a0.size : Int) ≠ r20)))) (fun h21 => by simp only [gv_t h21]; exact bind_some_eq (d_neq)) ?_; refine tq (vb ((decide (a0 = (ByteArray.mk #[]))) || (decide ((a0.size : Int) ≠ r20)))) (pick_or (fun h9 => gv_t (not_f h9))) ?_; refine tcond (fun h25 => ?_) (fun h25 => ?_)
 ·refine tq (T_Msg.e (T_Msg.mk 0 0 0 0 (T_Op.mk 0 false (T_Rule.mk 0 (T_Cube.mk 0 0) 0 0 0)))) (by kernel_rfl) ?_; refine tq (eV 2) (p_mkE (by decide)) ?_; refine tq (V.agg (T_Msg.c (T_Msg.mk 0 0 0 0 (T_Op.mk 0 false (T_Rule.mk 0 (T_Cube.mk 0 0) 0 0 0))))) (by kernel_rfl) ?_; refine tq (T_Msg.e (T_Msg.mk 0 0 0 0 (T_Op.mk 0 false (T_Rule.mk 0 (T_Cube.mk 0 0) 0 0 0)))) rfl ?_; exact rf_ret rfl
 ·refine tbo (ty_wire_Decode_1 hn 0 a0) fun r31 => ?_; refine tbo (ty_wire_Decode_1 hn 1 a0) fun r33 => ?_; refine tbo (ty_wire_Decode_1 hn 2 a0) fun r35 => ?_; refine tbo (ty_wire_Decode_1 hn 3 a0) fun r37 => ?_; refine tq (T_Msg.e (T_Msg.mk r31 r33 r35 r37 (T_Op.mk 0 false (T_Rule.mk 0 (T_Cube.mk 0 0) 0 0 0)))) (by kernel_rfl) ?_; refine tq (V.agg (T_Msg.c (T_Msg.mk r31 r33 r35 r37 (T_Op.mk 0 false (T_Rule.mk 0 (T_Cube.mk 0 0) 0 0 0))))) (by kernel_rfl) ?_; refine tq (vi r31) (rfl) ?_; refine tq (vb (decide (r31 = 1))) (d_eql) ?_; refine tjb (mk := fun s44 : T_Msg => [(V.agg (T_Msg.c s44))]) (fun J43 => ?_) fun s44 => ?_
  ·refine tcond (fun h70 => ?_) (fun h70 => ?_)
   ·refine tq (vi r33) (rfl) ?_; refine tbo (ty_wire_Decode_1 hn 4 a0) fun r73 => ?_; refine tq (vb (decide (r73 = 1))) (d_eql) ?_; refine tbo (ty_wire_Decode_1 hn 5 a0) fun r76 => ?_; refine tbo (ty_wire_Decode_1 hn 6 a0) fun r78 => ?_; refine tbo (ty_wire_Decode_1 hn 7 a0) fun r80 => ?_; refine tq (T_Cube.e (T_Cube.mk r78 r80)) (by kernel_rfl) ?_; refine tbo (ty_wire_Decode_1 hn 8 a0) fun r83 => ?_; refine tbo (ty_wire_Decode_1 hn 9 a0) fun r85 => ?_; refine tbo (ty_wire_Decode_1 hn 10 a0) fun r87 => ?_; refine tq (T_Rule.e (T_Rule.mk r76 (T_Cube.mk r78 r80) r83 r85 r87)) (by kernel_rfl) ?_; refine tq (T_Op.e (T_Op.mk r33 (decide (r73 = 1)) (T_Rule.mk r76 (T_Cube.mk r78 r80) r83 r85 r87))) (by kernel_rfl) ?_; refine tq (V.agg (T_Msg.c (T_Msg.mk r31 r33 r35 r37 (T_Op.mk r33 (decide (r73 = 1)) (T_Rule.mk r76 (T_Cube.mk r78 r80) r83 r85 r87))))) (by kernel_rfl) ?_; refine tkeepO2 ?_ rfl; refine tsome ?_; exact rf_j rfl
   ·refine tkeepO2 ?_ rfl; refine tsome ?_; exact rf_j rfl
  ·refine tq (T_Msg.e s44) (rfl) ?_; refine tbo (ty_wire_Encode hn s44) fun r49 => ?_; refine tq (vt r49.1) (rfl) ?_; refine tq (eV r49.2) (rfl) ?_; refine tq (vb (!decide (r49.2 = 0))) (p_err_neq _) ?_; refine tg_f (x := (vt r49.1)) (fun h53 => rfl) ?_; refine tg_f (x := (vt a0)) (fun h55 => bind_some_eq (rfl)) ?_; refine tg_f (x := (vb (!decide (r49.1 = a0)))) (fun h58 => by simp only [gv_t h58]; exact bind_some_eq (p_neq_str)) ?_; refine tq (vb ((!decide (r49.2 = 0)) || (!decide (r49.1 = a0)))) (pick_or (fun h9 => gv_t (not_f h9))) ?_; refine tcond (fun h62 => ?_) (fun h62 => ?_)
   ·refine tq (T_Msg.e (T_Msg.mk 0 0 0 0 (T_Op.mk 0 false (T_Rule.mk 0 (T_Cube.mk 0 0) 0 0 0)))) (by kernel_rfl) ?_; refine tq (eV 2) (p_mkE (by decide)) ?_; refine tq (V.agg (T_Msg.c (T_Msg.mk 0 0 0 0 (T_Op.mk 0 false (T_Rule.mk 0 (T_Cube.mk 0 0) 0 0 0))))) (by kernel_rfl) ?_; refine tq (T_Msg.e (T_Msg.mk 0 0 0 0 (T_Op.mk 0 false (T_Rule.mk 0 (T_Cube.mk 0 0) 0 0 0)))) rfl ?_; exact rf_ret rfl
   ·refine tq (T_Msg.e s44) (rfl) ?_; refine tq (V.agg (T_Msg.c s44)) (by kernel_rfl) ?_; refine tq (T_Msg.e s44) rfl ?_; exact rf_ret rfl
def an_wire_Cut : Ann := .seq (.reg 0 [] [] []) (.seq (.reg 0 [] [] []) (.seq (.blk (some [.s 0, .n 5 12]) (.loop [.s 0, .n 5 12] (.seq (.seq (.reg 0 [] [] []) (.cond none (.no) (.no))) (.blk none (.seq (.reg 0 [] [] []) (.seq (.seq (.reg 0 [] [] []) (.cond none (.seq (.reg 0 [] [] []) (.no)) (.no))) (.seq (.seq (.reg 0 [] [] []) (.cond none (.no) (.no))) (.seq (.reg 0 [] [] []) (.seq (.seq (.reg 0 [] [] []) (.cond none (.seq (.reg 0 [] [] []) (.no)) (.no))) (.reg 123 [] [] [34])))))))))) (.seq (.reg 0 [] [] []) (.no))))
noncomputable def sem_wire_Cut (n : Nat) (xs : List V) : Option V := if xs.length ≤ 40 then denM Tryz.prog (envOf [(31, (sem_wire_size n)), (32, (sem_wire_Decode n))]) n Tryz.f9 an_wire_Cut [0] (some 12) xs else none
theorem ok_wire_Cut (n : Nat) : MSemOk Tryz.prog DW 9 (sem_wire_Cut n) := fun xs y h => by
 unfold sem_wire_Cut at h
 split at h
 ·rename_i hl
  exact denM_ok Tryz.func9 (by kernel_rfl) (envOf_ok (semsOk_cons (ok_wire_size n) (semsOk_cons (ok_wire_Decode n) semsOk_nil))) (by rw [Tryz.ntmps9]; exact hl) (by decide) h
 ·cases h
theorem eq_wire_Cut (n : Nat) (x0 : V) : sem_wire_Cut n [x0] =
 (pureO x0).bind fun v1 =>
 JoinPt (fun vs2 =>
 (pureO (List.getD vs2 0 V.any)).bind fun v4 =>
 (pureO vn).bind fun v5 =>
 some (V.tup [V.tup [(List.getD vs2 1 V.any), v4, v5], V.any])) fun J3 =>
 (fixN (fun rec6 vs7 =>
 (bin2 Tryz.prog BinOp.neq 9 (ot 9) (Operand.const (Go.Value.string (ByteArray.mk #[]))) (List.getD vs7 0 V.any) (vt ⟨#[]⟩)).bind fun v8 =>
 condV v8 (
 (scal2 Tryz.prog (Instr.index 9) (List.getD vs7 0 V.any) (vi 0)).bind fun v9 =>
 ((sem_wire_size n) [v9]).bind fun v10 =>
 (bin2 Tryz.prog BinOp.eql 3 (ot 14) (oc 0) v10 (vi 0)).bind fun v11 =>
 condV v11 (
 (scal1 Tryz.prog (Instr.makeInterface 81) (vi 2)).bind fun v12 =>
 (pureO (vt ⟨#[]⟩)).bind fun v13 =>
 (pureO v12).bind fun v14 =>
 some (V.tup [V.tup [(V.osl 12 []), v13, v14], V.any])) (
 (lenT [(List.getD vs7 0 V.any)]).bind fun v15 =>
 (bin2 Tryz.prog BinOp.gtr 3 (ot 17) (ot 19) v10 v15).bind fun v16 =>
 condV v16 (
 J3 [(List.getD vs7 0 V.any), (List.getD vs7 1 V.any)]) (
 (slc none (List.getD vs7 0 V.any) none (some v10)).bind fun v17 =>
 ((sem_wire_Decode n) [v17]).bind fun v18 =>
 (extractV v18 0).bind fun v19 =>
 (extractV v18 1).bind fun v20 =>
 (spliceV [(vi 0), (vi 0), (vi 0), (vi 0), (vi 0), (vb false), (vi 0), (vi 0), (vi 0), (vi 0), (vi 0), (vi 0)] 0 12 v19).bind fun v21 =>
 (bin2 Tryz.prog BinOp.neq 32 (ot 28) (Operand.const Go.Value.nilIface) v20 vn).bind fun v22 =>
 condV v22 (
 (pureO (vt ⟨#[]⟩)).bind fun v23 =>
 (pureO v20).bind fun v24 =>
 some (V.tup [V.tup [(V.osl 12 []), v23, v24], V.any])) (
 (slc none (List.getD vs7 0 V.any) (some v10) none).bind fun v25 =>
 (ldk (some 12) (List.drop 0 (aggL v21))).bind fun v26 =>
 (slcB 12 1 [(vi 0), (vi 0), (vi 0), (vi 0), (vi 0), (vb false), (vi 0), (vi 0), (vi 0), (vi 0), (vi 0), (vi 0)] [(0, v26)]).bind fun v27 =>
 (appS 12 (List.getD vs7 1 V.any) v27).bind fun v28 =>
 rec6 [v25, v28])))) (
 J3 [(List.getD vs7 0 V.any), (List.getD vs7 1 V.any)])) n) [x0, (V.osl 12 [])] := by kernel_rfl
noncomputable def t_wire_Cut (a0 : ByteArray) : Option ((List T_Msg) × ByteArray × Int) :=
 join (fun (s4 : (ByteArray × (List T_Msg))) =>
 some (s4.2, s4.1, 0)) fun j5 =>
 tfix (fun k10 (s9 : (ByteArray × (List T_Msg))) =>
 if (!decide (s9.1 = (ByteArray.mk #[]))) = true then (
 (sidx s9.1 0).bind fun r17 =>
 (t_wire_size r17).bind fun r19 =>
 if (decide (r19 = 0)) = true then (
 some (([] : (List T_Msg)), (ByteArray.mk #[]), 2)) else (
 if (decide ((s9.1.size : Int) < r19)) = true then (
 j5 (s9.1, s9.2)) else (
 (sslc_hi s9.1 r19).bind fun r27 =>
 (t_wire_Decode r27).bind fun r29 =>
 if (!decide (r29.2 = 0)) = true then (
 some (([] : (List T_Msg)), (ByteArray.mk #[]), r29.2)) else (
 (sslc_lo s9.1 r19).bind fun r36 =>
 (oapp s9.2 ([r29.1] : (List T_Msg))).bind fun r39 =>
 k10 (r36, r39))))) else (
 j5 (s9.1, s9.2))) bigN (a0, [])
theorem ty_wire_Cut {n : Nat} (hn : bigN ≤ n) (a0 : ByteArray) : Rv (fun x : ((List T_Msg) × ByteArray × Int) => (V.tup [(V.tup [(V.osl 12 (List.map T_Msg.c x.1)), (vt x.2.1), (eV x.2.2)]), V.any])) (sem_wire_Cut n [(vt a0)]) (t_wire_Cut a0) := by
 rw [eq_wire_Cut]
 unfold t_wire_Cut; refine tq (vt a0) rfl ?_; refine tjoin (mk := fun s4 : (ByteArray × (List T_Msg)) => [(vt s4.1), (V.osl 12 (List.map T_Msg.c s4.2))]) (fun s4 => ?_) fun J3 j5 h6 => ?_
 ·refine tq (vt s4.1) rfl ?_; refine tq (eV 0) rfl ?_; exact rf_ret rfl
 ·refine rf_fixN (mk := fun (s9 : (ByteArray × (List T_Msg))) => [(vt s9.1), (V.osl 12 (List.map T_Msg.c s9.2))]) hn (a0, []) (fun rec7 k10 h11 s9 => ?_); refine tq (vb (!decide (s9.1 = (ByteArray.mk #[])))) (p_neq_str) ?_; refine tcond (fun h15 => ?_) (fun h15 => ?_)
  ·refine tbo (p_sidx (Tryz.underlying9) s9.1 0) fun r17 => ?_; refine tbo (ty_wire_size hn r17) fun r19 => ?_; refine tq (vb (decide (r19 = 0))) (d_eql) ?_; refine tcond (fun h21 => ?_) (fun h21 => ?_)
   ·refine tq (eV 2) (p_mkE (by decide)) ?_; refine tq (vt (ByteArray.mk #[])) rfl ?_; refine tq (eV 2) rfl ?_; exact rf_ret rfl
   ·refine tq (vi (s9.1.size : Int)) (rfl) ?_; refine tq (vb (decide ((s9.1.size : Int) < r19))) (d_gtr) ?_; refine tcond (fun h25 => ?_) (fun h25 => ?_)
    ·exact h6 (s9.1, s9.2)
    ·refine tbo (p_sslc_hi s9.1 r19) fun r27 => ?_; refine tbo (ty_wire_Decode hn r27) fun r29 => ?_; refine tq (T_Msg.e r29.1) (rfl) ?_; refine tq (eV r29.2) (rfl) ?_; refine tq (V.agg (T_Msg.c r29.1)) (by kernel_rfl) ?_; refine tq (vb (!decide (r29.2 = 0))) (p_err_neq _) ?_; refine tcond (fun h34 => ?_) (fun h34 => ?_)
     ·refine tq (vt (ByteArray.mk #[])) rfl ?_; refine tq (eV r29.2) rfl ?_; exact rf_ret rfl
     ·refine tbo (p_sslc_lo s9.1 r19) fun r36 => ?_; refine tq (T_Msg.e r29.1) (rfl) ?_; refine tq (V.sl (List.map T_Msg.c ([r29.1] : (List T_Msg)))) (by kernel_rfl) ?_; refine tbo (p_oapp (c := T_Msg.c) (fun _ => rfl) s9.2 ([r29.1] : (List T_Msg))) fun r39 => ?_; exact h11 (r36, r39)
  ·exact h6 (s9.1, s9.2)
def an_railsame_Table : Ann := .seq (.reg 0 [] [] []) (.seq (.seq (.reg 0 [] [] []) (.cond none (.seq (.reg 0 [] [] []) (.no)) (.no))) (.seq (.seq (.reg 0 [] [] []) (.blk (some []) (.loop [.s 5] (.seq (.seq (.reg 0 [] [] []) (.cond none (.no) (.no))) (.seq (.blk none (.seq (.reg 9 [] [] []) (.cond none (.seq (.reg 0 [] [] []) (.no)) (.no)))) (.reg 0 [] [] [])))))) (.seq (.reg 0 [] [] []) (.no))))
noncomputable def sem_railsame_Table (n : Nat) (xs : List V) : Option V := if xs.length ≤ 26 then denF Tryz.prog (envOf []) n Tryz.f14 an_railsame_Table xs else none
theorem ok_railsame_Table (n : Nat) : SemOk Tryz.prog DW 14 (sem_railsame_Table n) := fun xs y h => by
 unfold sem_railsame_Table at h
 split at h
 ·rename_i hl
  exact denF_ok stb Tryz.func14 (by kernel_rfl) (envOf_ok semsOk_nil) (by rw [Tryz.ntmps14]; exact hl) h
 ·cases h
theorem eq_railsame_Table (n : Nat) (x0 x1 : V) : sem_railsame_Table n [x0, x1] =
 (lenS [x0]).bind fun v1 =>
 (lenS [x1]).bind fun v2 =>
 (bin2 Tryz.prog BinOp.neq 3 (ot 7) (ot 9) v1 v2).bind fun v3 =>
 condV v3 (
 some (vb false)) (
 JoinPt (fun vs4 =>
 some (vb true)) fun J5 =>
 (fixN (fun rec6 vs7 =>
 (lenS [x0]).bind fun v8 =>
 (bin2 Tryz.prog BinOp.lss 3 (ot 11) (ot 13) (List.getD vs7 0 V.any) v8).bind fun v9 =>
 condV v9 (
 (idxS 6 x0 (List.getD vs7 0 V.any)).bind fun v10 =>
 (ldp (some 6) v10).bind fun v11 =>
 (idxS 6 x1 (List.getD vs7 0 V.any)).bind fun v12 =>
 (ldp (some 6) v12).bind fun v13 =>
 (bin2 Tryz.prog BinOp.neq 47 (ot 20) (ot 24) v11 v13).bind fun v14 =>
 condV v14 (
 some (vb false)) (
 (bin2 Tryz.prog BinOp.add 3 (ot 15) (oc 1) (List.getD vs7 0 V.any) (vi 1)).bind fun v15 =>
 rec6 [v15])) (
 J5 [])) n) [(vi 0)]) := by kernel_rfl
noncomputable def t_railsame_Table (a0 : (List T_Rule)) (a1 : (List T_Rule)) : Option Bool :=
 if (decide ((List.length a0 : Int) ≠ (List.length a1 : Int))) = true then (
 some false) else (
 join (fun (s7 : Unit) =>
 some true) fun j8 =>
 loopI a0 (fun (i16 : Int) x17 (s12 : Unit) k13 =>
 (idx a1 i16).bind fun r26 =>
 if (!decide (x17 = r26)) = true then (
 some false) else (
 k13 ())) (fun (s12 : Unit) =>
 j8 ()) ())
theorem ty_railsame_Table {n : Nat} (hn : bigN ≤ n) (a0 : (List T_Rule)) (a1 : (List T_Rule)) : Rv (fun x : Bool => (vb x)) (sem_railsame_Table n [(V.sl (List.map T_Rule.c a0)), (V.sl (List.map T_Rule.c a1))]) (t_railsame_Table a0 a1) := by
 rw [eq_railsame_Table]
 unfold t_railsame_Table; refine tq (vi (List.length a0 : Int)) (p_len _) ?_; refine tq (vi (List.length a1 : Int)) (p_len _) ?_; refine tq (vb (decide ((List.length a0 : Int) ≠ (List.length a1 : Int)))) (d_neq) ?_; refine tcond (fun h4 => ?_) (fun h4 => ?_)
 ·exact rf_ret rfl
 ·refine tjoin (mk := fun s7 : Unit => []) (fun s7 => ?_) fun J6 j8 h9 => ?_
  ·exact rf_ret rfl
  ·refine rf_loopI (mk := fun (i16 : Int) (s12 : Unit) => [(vi (i16 : Int))]) hn a0 () (fun i16 x17 h18 h19 h20 s12 rec10 k13 h14 => ?_) (fun s12 rec32 h31 => ?_)
   ·refine tq (vi (List.length a0 : Int)) (p_len _) ?_; refine tq (vb (decide ((i16 : Int) < (List.length a0 : Int)))) (d_lss) ?_; refine tcond_t h20 ?_; refine tq (V.ptr (T_Rule.c x17)) (p_idx_at (c := T_Rule.c) (fun _ => rfl) h18) ?_; refine tq (T_Rule.e x17) (rfl) ?_; refine tbo (p_idx (c := T_Rule.c) (fun _ => rfl) a1 (i16 : Int)) fun r26 => ?_; refine tq (T_Rule.e r26) (rfl) ?_; refine tq (vb (!decide (x17 = r26))) (T_Rule.neq x17 r26) ?_; refine tcond (fun h29 => ?_) (fun h29 => ?_)
    ·exact rf_ret rfl
    ·refine tq (vi ((i16 : Int) + 1)) (p_incN h19) ?_; exact h14 ()
   ·refine tq (vi (List.length a0 : Int)) (p_len _) ?_; refine tq (vb (decide ((List.length a0 : Int) < (List.length a0 : Int)))) (d_lss) ?_; refine tcond_f h31 ?_; exact h9 ()
def an_slices_IndexFunc_api_Host_api_Host : Ann := .seq (.reg 0 [] [] []) (.seq (.seq (.reg 0 [] [] []) (.blk (some []) (.loop [.s 8] (.seq (.reg 0 [] [] []) (.seq (.cond none (.no) (.no)) (.seq (.blk none (.seq (.reg 0 [] [] []) (.seq (.reg 0 [] [] []) (.cond none (.seq (.reg 0 [] [] []) (.no)) (.no))))) (.reg 0 [] [] []))))))) (.seq (.reg 0 [] [] []) (.no)))
noncomputable def sem_slices_IndexFunc_api_Host_api_Host (E : FuncId → List V → Option V) (n : Nat) (xs : List V) : Option V := if xs.length ≤ 19 then denF Tryz.prog (envJ [] E) n Tryz.f63 an_slices_IndexFunc_api_Host_api_Host xs else none
theorem ok_slices_IndexFunc_api_Host_api_Host {E : FuncId → List V → Option V} (hE : EnvOk Tryz.prog DW E) (n : Nat) : SemOk Tryz.prog DW 63 (sem_slices_IndexFunc_api_Host_api_Host E n) := fun xs y h => by
 unfold sem_slices_IndexFunc_api_Host_api_Host at h
 split at h
 ·rename_i hl
  exact denF_ok stb Tryz.func63 (by kernel_rfl) (envJ_ok semsOk_nil hE) (by rw [Tryz.ntmps63]; exact hl) h
 ·cases h
def an_topo_Where_1 : Ann := .seq (.reg 0 [] [] []) (.seq (.reg 0 [] [] []) (.no))
noncomputable def sem_topo_Where_1 (n : Nat) (xs : List V) : Option V := if xs.length ≤ 8 then denF Tryz.prog (envOf []) n Tryz.f64 an_topo_Where_1 xs else none
theorem ok_topo_Where_1 (n : Nat) : SemOk Tryz.prog DW 64 (sem_topo_Where_1 n) := fun xs y h => by
 unfold sem_topo_Where_1 at h
 split at h
 ·rename_i hl
  exact denF_ok stb Tryz.func64 (by kernel_rfl) (envOf_ok semsOk_nil) (by rw [Tryz.ntmps64]; exact hl) h
 ·cases h
def an_topo_Where : Ann := .seq (.reg 0 [] [] []) (.seq (.seq (.reg 0 [3] [] []) (.seq (.reg 0 [] [] []) (.cond none (.seq (.reg 0 [] [] []) (.no)) (.no)))) (.seq (.reg 0 [] [] []) (.seq (.seq (.reg 0 [] [] []) (.cond none (.seq (.reg 0 [] [] []) (.no)) (.no))) (.seq (.reg 0 [] [] []) (.no)))))
noncomputable def sem_topo_Where (n : Nat) (xs : List V) : Option V := if xs.length ≤ 28 then denF Tryz.prog (envOf [(46, (sem_topo_Check n)), (63, (sem_slices_IndexFunc_api_Host_api_Host (envOf [(64, (sem_topo_Where_1 n))]) n)), (64, (sem_topo_Where_1 n))]) n Tryz.f40 an_topo_Where xs else none
theorem ok_topo_Where (n : Nat) : SemOk Tryz.prog DW 40 (sem_topo_Where n) := fun xs y h => by
 unfold sem_topo_Where at h
 split at h
 ·rename_i hl
  exact denF_ok stb Tryz.func40 (by kernel_rfl) (envOf_ok (semsOk_cons (ok_topo_Check n) (semsOk_cons (ok_slices_IndexFunc_api_Host_api_Host (envOf_ok (semsOk_cons (ok_topo_Where_1 n) semsOk_nil)) n) (semsOk_cons (ok_topo_Where_1 n) semsOk_nil)))) (by rw [Tryz.ntmps40]; exact hl) h
 ·cases h
def an_net_Begin : Ann := .seq (.reg 0 [] [] []) (.seq (.reg 0 [] [] []) (.no))
noncomputable def sem_net_Begin (n : Nat) (xs : List V) : Option V := if xs.length ≤ 10 then denF Tryz.prog (envOf []) n Tryz.f65 an_net_Begin xs else none
theorem ok_net_Begin (n : Nat) : SemOk Tryz.prog DW 65 (sem_net_Begin n) := fun xs y h => by
 unfold sem_net_Begin at h
 split at h
 ·rename_i hl
  exact denF_ok stb Tryz.func65 (by kernel_rfl) (envOf_ok semsOk_nil) (by rw [Tryz.ntmps65]; exact hl) h
 ·cases h
def an_cmp_isNaN_int : Ann := .seq (.reg 0 [] [] []) (.seq (.reg 0 [] [] []) (.no))
noncomputable def sem_cmp_isNaN_int (n : Nat) (xs : List V) : Option V := if xs.length ≤ 6 then denF Tryz.prog (envOf []) n Tryz.f105 an_cmp_isNaN_int xs else none
theorem ok_cmp_isNaN_int (n : Nat) : SemOk Tryz.prog DW 105 (sem_cmp_isNaN_int n) := fun xs y h => by
 unfold sem_cmp_isNaN_int at h
 split at h
 ·rename_i hl
  exact denF_ok stb Tryz.func105 (by kernel_rfl) (envOf_ok semsOk_nil) (by rw [Tryz.ntmps105]; exact hl) h
 ·cases h
def an_cmp_Compare_int : Ann := .seq (.reg 0 [] [] []) (.seq (.reg 0 [] [] []) (.seq (.reg 0 [] [] []) (.seq (.seq (.reg 0 [] [] []) (.cond none (.seq (.seq (.reg 0 [] [] []) (.cond none (.seq (.reg 0 [] [] []) (.no)) (.no))) (.seq (.reg 0 [] [] []) (.no))) (.no))) (.seq (.seq (.reg 0 [] [] []) (.cond none (.seq (.reg 0 [] [] []) (.no)) (.no))) (.seq (.seq (.reg 0 [] [] []) (.cond none (.seq (.reg 0 [] [] []) (.no)) (.no))) (.seq (.seq (.reg 0 [] [] []) (.cond none (.seq (.reg 0 [] [] []) (.no)) (.no))) (.seq (.reg 0 [] [] []) (.no))))))))
noncomputable def sem_cmp_Compare_int (n : Nat) (xs : List V) : Option V := if xs.length ≤ 20 then denF Tryz.prog (envOf [(105, (sem_cmp_isNaN_int n))]) n Tryz.f109 an_cmp_Compare_int xs else none
theorem ok_cmp_Compare_int (n : Nat) : SemOk Tryz.prog DW 109 (sem_cmp_Compare_int n) := fun xs y h => by
 unfold sem_cmp_Compare_int at h
 split at h
 ·rename_i hl
  exact denF_ok stb Tryz.func109 (by kernel_rfl) (envOf_ok (semsOk_cons (ok_cmp_isNaN_int n) semsOk_nil)) (by rw [Tryz.ntmps109]; exact hl) h
 ·cases h
def an_cmp_Or_int : Ann := .seq (.reg 0 [] [] []) (.seq (.reg 0 [] [] []) (.seq (.seq (.reg 0 [] [] []) (.blk (some []) (.loop [.s 8] (.seq (.reg 0 [] [] []) (.seq (.cond none (.no) (.no)) (.seq (.blk none (.seq (.reg 0 [] [] []) (.seq (.reg 0 [] [] []) (.cond none (.seq (.reg 0 [] [] []) (.no)) (.no))))) (.reg 0 [] [] []))))))) (.seq (.reg 0 [] [] []) (.no))))
noncomputable def sem_cmp_Or_int (n : Nat) (xs : List V) : Option V := if xs.length ≤ 18 then denF Tryz.prog (envOf []) n Tryz.f108 an_cmp_Or_int xs else none
theorem ok_cmp_Or_int (n : Nat) : SemOk Tryz.prog DW 108 (sem_cmp_Or_int n) := fun xs y h => by
 unfold sem_cmp_Or_int at h
 split at h
 ·rename_i hl
  exact denF_ok stb Tryz.func108 (by kernel_rfl) (envOf_ok semsOk_nil) (by rw [Tryz.ntmps108]; exact hl) h
 ·cases h
def an_rule_above : Ann := .seq (.reg 0 [] [] []) (.seq (.reg 22 [] [] []) (.no))
noncomputable def sem_rule_above (n : Nat) (xs : List V) : Option V := if xs.length ≤ 26 then denF Tryz.prog (envOf [(109, (sem_cmp_Compare_int n)), (108, (sem_cmp_Or_int n))]) n Tryz.f106 an_rule_above xs else none
theorem ok_rule_above (n : Nat) : SemOk Tryz.prog DW 106 (sem_rule_above n) := fun xs y h => by
 unfold sem_rule_above at h
 split at h
 ·rename_i hl
  exact denF_ok stb Tryz.func106 (by kernel_rfl) (envOf_ok (semsOk_cons (ok_cmp_Compare_int n) (semsOk_cons (ok_cmp_Or_int n) semsOk_nil))) (by rw [Tryz.ntmps106]; exact hl) h
 ·cases h
def an_rule_Find : Ann := .seq (.reg 0 [] [] []) (.seq (.reg 0 [] [] []) (.seq (.seq (.reg 0 [] [] []) (.blk (some [.s 5]) (.loop [.s 5, .s 10] (.seq (.reg 0 [] [] []) (.seq (.cond none (.no) (.no)) (.seq (.blk none (.seq (.reg 0 [] [] []) (.seq (.reg 22 [] [] []) (.cond (some [.s 5]) (.reg 0 [] [] []) (.no))))) (.reg 0 [] [] []))))))) (.seq (.reg 0 [] [] []) (.no))))
noncomputable def sem_rule_Find (n : Nat) (xs : List V) : Option V := if xs.length ≤ 40 then denF Tryz.prog (envOf [(106, (sem_rule_above n))]) n Tryz.f96 an_rule_Find xs else none
theorem ok_rule_Find (n : Nat) : SemOk Tryz.prog DW 96 (sem_rule_Find n) := fun xs y h => by
 unfold sem_rule_Find at h
 split at h
 ·rename_i hl
  exact denF_ok stb Tryz.func96 (by kernel_rfl) (envOf_ok (semsOk_cons (ok_rule_above n) semsOk_nil)) (by rw [Tryz.ntmps96]; exact hl) h
 ·cases h
def an_net_Out : Ann := .seq (.reg 0 [] [] []) (.seq (.reg 0 [] [] []) (.seq (.seq (.reg 0 [] [] []) (.cond none (.seq (.reg 0 [] [] []) (.no)) (.no))) (.seq (.reg 2097045 [] [] []) (.no))))
noncomputable def sem_net_Out (n : Nat) (xs : List V) : Option V := if xs.length ≤ 45 then denF Tryz.prog (envOf [(96, (sem_rule_Find n))]) n Tryz.f76 an_net_Out xs else none
theorem ok_net_Out (n : Nat) : SemOk Tryz.prog DW 76 (sem_net_Out n) := fun xs y h => by
 unfold sem_net_Out at h
 split at h
 ·rename_i hl
  exact denF_ok stb Tryz.func76 (by kernel_rfl) (envOf_ok (semsOk_cons (ok_rule_Find n) semsOk_nil)) (by rw [Tryz.ntmps76]; exact hl) h
 ·cases h
def an_topo_Host_1 : Ann := .seq (.reg 0 [] [] []) (.seq (.reg 0 [] [] []) (.no))
noncomputable def sem_topo_Host_1 (n : Nat) (xs : List V) : Option V := if xs.length ≤ 8 then denF Tryz.prog (envOf []) n Tryz.f97 an_topo_Host_1 xs else none
theorem ok_topo_Host_1 (n : Nat) : SemOk Tryz.prog DW 97 (sem_topo_Host_1 n) := fun xs y h => by
 unfold sem_topo_Host_1 at h
 split at h
 ·rename_i hl
  exact denF_ok stb Tryz.func97 (by kernel_rfl) (envOf_ok semsOk_nil) (by rw [Tryz.ntmps97]; exact hl) h
 ·cases h
def an_topo_Host : Ann := .seq (.reg 0 [] [] []) (.seq (.reg 0 [3] [] []) (.seq (.seq (.reg 0 [] [] []) (.cond none (.seq (.reg 0 [] [] []) (.no)) (.no))) (.seq (.reg 0 [] [] []) (.no))))
noncomputable def sem_topo_Host (n : Nat) (xs : List V) : Option V := if xs.length ≤ 19 then denF Tryz.prog (envOf [(63, (sem_slices_IndexFunc_api_Host_api_Host (envOf [(97, (sem_topo_Host_1 n))]) n)), (97, (sem_topo_Host_1 n))]) n Tryz.f77 an_topo_Host xs else none
theorem ok_topo_Host (n : Nat) : SemOk Tryz.prog DW 77 (sem_topo_Host n) := fun xs y h => by
 unfold sem_topo_Host at h
 split at h
 ·rename_i hl
  exact denF_ok stb Tryz.func77 (by kernel_rfl) (envOf_ok (semsOk_cons (ok_slices_IndexFunc_api_Host_api_Host (envOf_ok (semsOk_cons (ok_topo_Host_1 n) semsOk_nil)) n) (semsOk_cons (ok_topo_Host_1 n) semsOk_nil))) (by rw [Tryz.ntmps77]; exact hl) h
 ·cases h
def an_topo_Other : Ann := .seq (.reg 0 [] [] []) (.seq (.seq (.reg 0 [] [] []) (.blk (some [.b 4]) (.loop [.kb 3, .b 4, .s 11] (.seq (.reg 0 [] [] []) (.seq (.cond none (.no) (.no)) (.seq (.blk none (.seq (.reg 0 [] [] []) (.seq (.reg 0 [] [] []) (.blk none (.seq (.reg 0 [] [] []) (.cond none (.seq (.reg 0 [] [] []) (.no)) (.seq (.reg 0 [] [] []) (.cond none (.seq (.reg 0 [] [] []) (.no)) (.no))))))))) (.reg 0 [] [] []))))))) (.seq (.reg 0 [] [] []) (.no)))
noncomputable def sem_topo_Other (n : Nat) (xs : List V) : Option V := if xs.length ≤ 30 then denF Tryz.prog (envOf []) n Tryz.f78 an_topo_Other xs else none
theorem ok_topo_Other (n : Nat) : SemOk Tryz.prog DW 78 (sem_topo_Other n) := fun xs y h => by
 unfold sem_topo_Other at h
 split at h
 ·rename_i hl
  exact denF_ok stb Tryz.func78 (by kernel_rfl) (envOf_ok semsOk_nil) (by rw [Tryz.ntmps78]; exact hl) h
 ·cases h
def an_slices_Index_api_Hop_api_Hop : Ann := .seq (.reg 0 [] [] []) (.seq (.seq (.reg 0 [] [] []) (.blk (some []) (.loop [.kb 3, .s 8] (.seq (.reg 0 [] [] []) (.seq (.cond none (.no) (.no)) (.seq (.blk none (.seq (.reg 0 [] [] []) (.seq (.reg 6 [] [] []) (.cond none (.seq (.reg 0 [] [] []) (.no)) (.no))))) (.reg 0 [] [] []))))))) (.seq (.reg 0 [] [] []) (.no)))
noncomputable def sem_slices_Index_api_Hop_api_Hop (n : Nat) (xs : List V) : Option V := if xs.length ≤ 19 then denF Tryz.prog (envOf []) n Tryz.f98 an_slices_Index_api_Hop_api_Hop xs else none
theorem ok_slices_Index_api_Hop_api_Hop (n : Nat) : SemOk Tryz.prog DW 98 (sem_slices_Index_api_Hop_api_Hop n) := fun xs y h => by
 unfold sem_slices_Index_api_Hop_api_Hop at h
 split at h
 ·rename_i hl
  exact denF_ok stb Tryz.func98 (by kernel_rfl) (envOf_ok semsOk_nil) (by rw [Tryz.ntmps98]; exact hl) h
 ·cases h
def an_slices_Contains_api_Hop_api_Hop : Ann := .seq (.reg 0 [] [] []) (.seq (.reg 0 [] [] []) (.no))
noncomputable def sem_slices_Contains_api_Hop_api_Hop (n : Nat) (xs : List V) : Option V := if xs.length ≤ 9 then denF Tryz.prog (envOf [(98, (sem_slices_Index_api_Hop_api_Hop n))]) n Tryz.f79 an_slices_Contains_api_Hop_api_Hop xs else none
theorem ok_slices_Contains_api_Hop_api_Hop (n : Nat) : SemOk Tryz.prog DW 79 (sem_slices_Contains_api_Hop_api_Hop n) := fun xs y h => by
 unfold sem_slices_Contains_api_Hop_api_Hop at h
 split at h
 ·rename_i hl
  exact denF_ok stb Tryz.func79 (by kernel_rfl) (envOf_ok (semsOk_cons (ok_slices_Index_api_Hop_api_Hop n) semsOk_nil)) (by rw [Tryz.ntmps79]; exact hl) h
 ·cases h
def an_net_Go : Ann := .seq (.reg 0 [] [] []) (.seq (.reg 13 [] [] []) (.seq (.reg 0 [] [] []) (.seq (.seq (.reg 0 [] [] []) (.cond none (.seq (.reg 0 [] [] []) (.seq (.reg 0 [] [] []) (.no))) (.no))) (.seq (.seq (.reg 0 [] [] []) (.seq (.reg 0 [] [] []) (.cond none (.seq (.reg 0 [] [] []) (.seq (.reg 0 [] [] []) (.no))) (.no)))) (.seq (.reg 0 [] [] []) (.seq (.seq (.reg 0 [] [] []) (.cond none (.seq (.reg 0 [] [] []) (.seq (.reg 0 [] [] []) (.no))) (.no))) (.seq (.reg 0 [] [] []) (.seq (.seq (.reg 14 [] [] []) (.cond none (.seq (.reg 0 [] [] []) (.seq (.reg 0 [] [] []) (.no))) (.no))) (.seq (.reg 8 [] [] [1000092]) (.seq (.reg 0 [] [] []) (.no)))))))))))
noncomputable def sem_net_Go (n : Nat) (xs : List V) : Option V := if xs.length ≤ 98 then denM Tryz.prog (envOf [(76, (sem_net_Out n)), (77, (sem_topo_Host n)), (78, (sem_topo_Other n)), (79, (sem_slices_Contains_api_Hop_api_Hop n)), (80 + 1000000 * (147 + 2), (semClone 3))]) n Tryz.f66 an_net_Go [0, 0, 2] none xs else none
theorem ok_net_Go (n : Nat) : MSemOk Tryz.prog DW 66 (sem_net_Go n) := fun xs y h => by
 unfold sem_net_Go at h
 split at h
 ·rename_i hl
  exact denM_ok Tryz.func66 (by kernel_rfl) (envOf_ok (semsOk_cons (ok_net_Out n) (semsOk_cons (ok_topo_Host n) (semsOk_cons (ok_topo_Other n) (semsOk_cons (ok_slices_Contains_api_Hop_api_Hop n) (semsOk_consR (rok_slices_Clone_api_Hop_api_Hop) semsOk_nil)))))) (by rw [Tryz.ntmps66]; exact hl) (by decide) h
 ·cases h
def an_net_Of : Ann := .seq (.reg 0 [] [] []) (.seq (.reg 0 [] [] [7]) (.seq (.blk (some [.kb 6, .o 7]) (.loop [.kb 3, .kb 6, .o 7] (.seq (.seq (.reg 17 [] [] []) (.cond none (.no) (.no))) (.blk none (.no))))) (.seq (.reg 0 [] [] []) (.no))))
noncomputable def sem_net_Of (n : Nat) (xs : List V) : Option V := if xs.length ≤ 30 then denF Tryz.prog (envOf [(65, (sem_net_Begin n)), (66 + 1000000, (sem_net_Go n))]) n Tryz.f42 an_net_Of xs else none
theorem ok_net_Of (n : Nat) : SemOk Tryz.prog DW 42 (sem_net_Of n) := fun xs y h => by
 unfold sem_net_Of at h
 split at h
 ·rename_i hl
  exact denF_ok stb Tryz.func42 (by kernel_rfl) (envOf_ok (semsOk_cons (ok_net_Begin n) (semsOk_consM (ok_net_Go n) semsOk_nil))) (by rw [Tryz.ntmps42]; exact hl) h
 ·cases h
def an_net_Send : Ann := .seq (.reg 0 [] [] []) (.seq (.seq (.reg 0 [] [] []) (.seq (.reg 0 [] [] []) (.cond none (.seq (.reg 0 [] [] []) (.no)) (.no)))) (.seq (.reg 0 [] [] []) (.seq (.blk none (.seq (.reg 0 [] [] []) (.cond none (.seq (.reg 0 [] [] []) (.no)) (.seq (.reg 0 [] [] []) (.cond none (.seq (.reg 0 [] [] []) (.no)) (.no)))))) (.seq (.reg 0 [] [] []) (.no)))))
noncomputable def sem_net_Send (n : Nat) (xs : List V) : Option V := if xs.length ≤ 39 then denF Tryz.prog (envOf [(19, (sem_net_Check n)), (40, (sem_topo_Where n)), (41, (sem_cube_Header n)), (42, (sem_net_Of n))]) n Tryz.f17 an_net_Send xs else none
theorem ok_net_Send (n : Nat) : SemOk Tryz.prog DW 17 (sem_net_Send n) := fun xs y h => by
 unfold sem_net_Send at h
 split at h
 ·rename_i hl
  exact denF_ok stb Tryz.func17 (by kernel_rfl) (envOf_ok (semsOk_cons (ok_net_Check n) (semsOk_cons (ok_topo_Where n) (semsOk_cons (ok_cube_Header n) (semsOk_cons (ok_net_Of n) semsOk_nil))))) (by rw [Tryz.ntmps17]; exact hl) h
 ·cases h
def an_wish_kind : Ann := .seq (.reg 0 [] [] []) (.seq (.reg 0 [] [] []) (.no))
noncomputable def sem_wish_kind (n : Nat) (xs : List V) : Option V := if xs.length ≤ 9 then denF Tryz.prog (envOf []) n Tryz.f81 an_wish_kind xs else none
theorem ok_wish_kind (n : Nat) : SemOk Tryz.prog DW 81 (sem_wish_kind n) := fun xs y h => by
 unfold sem_wish_kind at h
 split at h
 ·rename_i hl
  exact denF_ok stb Tryz.func81 (by kernel_rfl) (envOf_ok semsOk_nil) (by rw [Tryz.ntmps81]; exact hl) h
 ·cases h
def an_wish_one : Ann := .seq (.reg 0 [] [] []) (.seq (.blk none (.seq (.seq (.reg 0 [] [] []) (.cond (some [.kb 2, .kb 3, .s 9]) (.no) (.seq (.reg 0 [] [] []) (.cond (some [.kb 2, .kb 3, .s 9]) (.no) (.reg 0 [] [] []))))) (.cond none (.seq (.reg 0 [] [] []) (.no)) (.seq (.reg 0 [] [] []) (.cond none (.seq (.reg 0 [] [] []) (.no)) (.seq (.reg 0 [] [] []) (.cond none (.seq (.reg 0 [] [] []) (.no)) (.no)))))))) (.seq (.seq (.reg 0 [] [] []) (.blk (some []) (.loop [.kb 2, .s 63] (.seq (.reg 0 [] [] []) (.seq (.cond none (.no) (.no)) (.seq (.blk none (.seq (.reg 0 [] [] []) (.seq (.reg 0 [] [] []) (.seq (.reg 0 [] [] []) (.cond none (.seq (.reg 0 [] [] []) (.no)) (.no)))))) (.reg 0 [] [] []))))))) (.seq (.reg 0 [] [] []) (.no))))
noncomputable def sem_wish_one (n : Nat) (xs : List V) : Option V := if xs.length ≤ 77 then denF Tryz.prog (envOf [(81, (sem_wish_kind n)), (40, (sem_topo_Where n))]) n Tryz.f67 an_wish_one xs else none
theorem ok_wish_one (n : Nat) : SemOk Tryz.prog DW 67 (sem_wish_one n) := fun xs y h => by
 unfold sem_wish_one at h
 split at h
 ·rename_i hl
  exact denF_ok stb Tryz.func67 (by kernel_rfl) (envOf_ok (semsOk_cons (ok_wish_kind n) (semsOk_cons (ok_topo_Where n) semsOk_nil))) (by rw [Tryz.ntmps67]; exact hl) h
 ·cases h
def an_wish_Check : Ann := .seq (.reg 0 [] [] []) (.seq (.seq (.reg 0 [] [] []) (.seq (.reg 0 [] [] []) (.cond none (.seq (.reg 0 [] [] []) (.no)) (.no)))) (.seq (.seq (.reg 0 [] [] []) (.cond none (.seq (.reg 0 [] [] []) (.no)) (.no))) (.seq (.seq (.reg 0 [] [] []) (.blk (some []) (.loop [.kb 2, .s 20] (.seq (.reg 0 [] [] []) (.seq (.cond none (.no) (.no)) (.seq (.blk none (.seq (.reg 0 [] [] []) (.seq (.reg 0 [] [] []) (.seq (.reg 0 [] [] []) (.cond none (.seq (.reg 0 [] [] []) (.no)) (.no)))))) (.reg 0 [] [] []))))))) (.seq (.reg 0 [] [] []) (.no)))))
noncomputable def sem_wish_Check (n : Nat) (xs : List V) : Option V := if xs.length ≤ 31 then denF Tryz.prog (envOf [(46, (sem_topo_Check n)), (67, (sem_wish_one n))]) n Tryz.f43 an_wish_Check xs else none
theorem ok_wish_Check (n : Nat) : SemOk Tryz.prog DW 43 (sem_wish_Check n) := fun xs y h => by
 unfold sem_wish_Check at h
 split at h
 ·rename_i hl
  exact denF_ok stb Tryz.func43 (by kernel_rfl) (envOf_ok (semsOk_cons (ok_topo_Check n) (semsOk_cons (ok_wish_one n) semsOk_nil))) (by rw [Tryz.ntmps43]; exact hl) h
 ·cases h
def an_slices_IndexFunc_api_Fate_api_Fate : Ann := .seq (.reg 0 [] [] []) (.seq (.seq (.reg 0 [] [] []) (.blk (some []) (.loop [.s 8] (.seq (.reg 0 [] [] []) (.seq (.cond none (.no) (.no)) (.seq (.blk none (.seq (.reg 0 [] [] []) (.seq (.reg 0 [] [] []) (.cond none (.seq (.reg 0 [] [] []) (.no)) (.no))))) (.reg 0 [] [] []))))))) (.seq (.reg 0 [] [] []) (.no)))
noncomputable def sem_slices_IndexFunc_api_Fate_api_Fate (E : FuncId → List V → Option V) (n : Nat) (xs : List V) : Option V := if xs.length ≤ 19 then denF Tryz.prog (envJ [] E) n Tryz.f82 an_slices_IndexFunc_api_Fate_api_Fate xs else none
theorem ok_slices_IndexFunc_api_Fate_api_Fate {E : FuncId → List V → Option V} (hE : EnvOk Tryz.prog DW E) (n : Nat) : SemOk Tryz.prog DW 82 (sem_slices_IndexFunc_api_Fate_api_Fate E n) := fun xs y h => by
 unfold sem_slices_IndexFunc_api_Fate_api_Fate at h
 split at h
 ·rename_i hl
  exact denF_ok stb Tryz.func82 (by kernel_rfl) (envJ_ok semsOk_nil hE) (by rw [Tryz.ntmps82]; exact hl) h
 ·cases h
def an_slices_ContainsFunc_api_Fate_api_Fate : Ann := .seq (.reg 0 [] [] []) (.seq (.reg 0 [] [] []) (.no))
noncomputable def sem_slices_ContainsFunc_api_Fate_api_Fate (E : FuncId → List V → Option V) (n : Nat) (xs : List V) : Option V := if xs.length ≤ 9 then denF Tryz.prog (envJ [(82, (sem_slices_IndexFunc_api_Fate_api_Fate E n))] E) n Tryz.f68 an_slices_ContainsFunc_api_Fate_api_Fate xs else none
theorem ok_slices_ContainsFunc_api_Fate_api_Fate {E : FuncId → List V → Option V} (hE : EnvOk Tryz.prog DW E) (n : Nat) : SemOk Tryz.prog DW 68 (sem_slices_ContainsFunc_api_Fate_api_Fate E n) := fun xs y h => by
 unfold sem_slices_ContainsFunc_api_Fate_api_Fate at h
 split at h
 ·rename_i hl
  exact denF_ok stb Tryz.func68 (by kernel_rfl) (envJ_ok (semsOk_cons (ok_slices_IndexFunc_api_Fate_api_Fate hE n) semsOk_nil) hE) (by rw [Tryz.ntmps68]; exact hl) h
 ·cases h
def an_slices_IndexFunc_api_Hop_api_Hop : Ann := .seq (.reg 0 [] [] []) (.seq (.seq (.reg 0 [] [] []) (.blk (some []) (.loop [.s 8] (.seq (.reg 0 [] [] []) (.seq (.cond none (.no) (.no)) (.seq (.blk none (.seq (.reg 0 [] [] []) (.seq (.reg 0 [] [] []) (.cond none (.seq (.reg 0 [] [] []) (.no)) (.no))))) (.reg 0 [] [] []))))))) (.seq (.reg 0 [] [] []) (.no)))
noncomputable def sem_slices_IndexFunc_api_Hop_api_Hop (E : FuncId → List V → Option V) (n : Nat) (xs : List V) : Option V := if xs.length ≤ 19 then denF Tryz.prog (envJ [] E) n Tryz.f99 an_slices_IndexFunc_api_Hop_api_Hop xs else none
theorem ok_slices_IndexFunc_api_Hop_api_Hop {E : FuncId → List V → Option V} (hE : EnvOk Tryz.prog DW E) (n : Nat) : SemOk Tryz.prog DW 99 (sem_slices_IndexFunc_api_Hop_api_Hop E n) := fun xs y h => by
 unfold sem_slices_IndexFunc_api_Hop_api_Hop at h
 split at h
 ·rename_i hl
  exact denF_ok stb Tryz.func99 (by kernel_rfl) (envJ_ok semsOk_nil hE) (by rw [Tryz.ntmps99]; exact hl) h
 ·cases h
def an_slices_ContainsFunc_api_Hop_api_Hop : Ann := .seq (.reg 0 [] [] []) (.seq (.reg 0 [] [] []) (.no))
noncomputable def sem_slices_ContainsFunc_api_Hop_api_Hop (E : FuncId → List V → Option V) (n : Nat) (xs : List V) : Option V := if xs.length ≤ 9 then denF Tryz.prog (envJ [(99, (sem_slices_IndexFunc_api_Hop_api_Hop E n))] E) n Tryz.f83 an_slices_ContainsFunc_api_Hop_api_Hop xs else none
theorem ok_slices_ContainsFunc_api_Hop_api_Hop {E : FuncId → List V → Option V} (hE : EnvOk Tryz.prog DW E) (n : Nat) : SemOk Tryz.prog DW 83 (sem_slices_ContainsFunc_api_Hop_api_Hop E n) := fun xs y h => by
 unfold sem_slices_ContainsFunc_api_Hop_api_Hop at h
 split at h
 ·rename_i hl
  exact denF_ok stb Tryz.func83 (by kernel_rfl) (envJ_ok (semsOk_cons (ok_slices_IndexFunc_api_Hop_api_Hop hE n) semsOk_nil) hE) (by rw [Tryz.ntmps83]; exact hl) h
 ·cases h
def an_wish_Fits_1 : Ann := .seq (.reg 0 [] [] []) (.seq (.reg 0 [] [] []) (.no))
noncomputable def sem_wish_Fits_1 (n : Nat) (xs : List V) : Option V := if xs.length ≤ 10 then denF Tryz.prog (envOf []) n Tryz.f84 an_wish_Fits_1 xs else none
theorem ok_wish_Fits_1 (n : Nat) : SemOk Tryz.prog DW 84 (sem_wish_Fits_1 n) := fun xs y h => by
 unfold sem_wish_Fits_1 at h
 split at h
 ·rename_i hl
  exact denF_ok stb Tryz.func84 (by kernel_rfl) (envOf_ok semsOk_nil) (by rw [Tryz.ntmps84]; exact hl) h
 ·cases h
def an_wish_Fits : Ann := .seq (.reg 0 [] [] []) (.seq (.reg 0 [3] [] []) (.seq (.blk none (.seq (.reg 0 [] [] []) (.cond none (.seq (.reg 0 [] [] []) (.no)) (.seq (.reg 0 [] [] []) (.cond none (.seq (.reg 0 [] [] []) (.no)) (.seq (.reg 0 [] [] []) (.cond none (.seq (.reg 0 [] [] []) (.no)) (.seq (.reg 0 [] [] []) (.cond none (.seq (.reg 0 [] [] []) (.no)) (.seq (.reg 0 [] [] []) (.cond none (.seq (.reg 0 [] [] []) (.no)) (.no)))))))))))) (.seq (.reg 0 [] [] []) (.no))))
noncomputable def sem_wish_Fits (n : Nat) (xs : List V) : Option V := if xs.length ≤ 53 then denF Tryz.prog (envOf [(83, (sem_slices_ContainsFunc_api_Hop_api_Hop (envOf [(84, (sem_wish_Fits_1 n))]) n)), (84, (sem_wish_Fits_1 n))]) n Tryz.f70 an_wish_Fits xs else none
theorem ok_wish_Fits (n : Nat) : SemOk Tryz.prog DW 70 (sem_wish_Fits n) := fun xs y h => by
 unfold sem_wish_Fits at h
 split at h
 ·rename_i hl
  exact denF_ok stb Tryz.func70 (by kernel_rfl) (envOf_ok (semsOk_cons (ok_slices_ContainsFunc_api_Hop_api_Hop (envOf_ok (semsOk_cons (ok_wish_Fits_1 n) semsOk_nil)) n) (semsOk_cons (ok_wish_Fits_1 n) semsOk_nil))) (by rw [Tryz.ntmps70]; exact hl) h
 ·cases h
def an_wish_Seek_1 : Ann := .seq (.reg 0 [] [] []) (.seq (.reg 0 [] [] []) (.no))
noncomputable def sem_wish_Seek_1 (n : Nat) (xs : List V) : Option V := if xs.length ≤ 11 then denF Tryz.prog (envOf [(70, (sem_wish_Fits n))]) n Tryz.f69 an_wish_Seek_1 xs else none
theorem ok_wish_Seek_1 (n : Nat) : SemOk Tryz.prog DW 69 (sem_wish_Seek_1 n) := fun xs y h => by
 unfold sem_wish_Seek_1 at h
 split at h
 ·rename_i hl
  exact denF_ok stb Tryz.func69 (by kernel_rfl) (envOf_ok (semsOk_cons (ok_wish_Fits n) semsOk_nil)) (by rw [Tryz.ntmps69]; exact hl) h
 ·cases h
def an_wish_Seek : Ann := .seq (.reg 0 [] [] []) (.seq (.seq (.reg 0 [] [] []) (.blk (some [.b 6]) (.loop [.kb 3, .b 6, .s 15] (.seq (.reg 0 [] [] []) (.seq (.cond none (.no) (.no)) (.seq (.blk (some [.kb 3, .b 6]) (.seq (.reg 0 [] [] []) (.seq (.reg 0 [9] [] []) (.blk (some [.kb 3, .b 6]) (.loop [.kb 3, .b 6, .s 23] (.seq (.reg 0 [] [] []) (.seq (.cond none (.no) (.no)) (.seq (.blk (some [.kb 3, .b 6]) (.seq (.reg 0 [] [] []) (.seq (.seq (.reg 0 [11] [] []) (.cond none (.no) (.no))) (.seq (.reg 0 [] [] []) (.blk (some [.kb 3, .b 6]) (.loop [.kb 3, .b 6, .s 37] (.seq (.reg 0 [] [] []) (.seq (.cond none (.no) (.no)) (.seq (.blk none (.seq (.reg 0 [] [] []) (.seq (.reg 0 [] [] []) (.cond none (.seq (.reg 0 [] [] []) (.no)) (.no))))) (.reg 0 [] [] [])))))))))) (.reg 0 [] [] []))))))))) (.reg 0 [] [] []))))))) (.seq (.reg 0 [] [] []) (.no)))
noncomputable def sem_wish_Seek (E : FuncId → List V → Option V) (n : Nat) (xs : List V) : Option V := if xs.length ≤ 55 then denF Tryz.prog (envJ [(68, (sem_slices_ContainsFunc_api_Fate_api_Fate (envOf [(69, (sem_wish_Seek_1 n))]) n))] E) n Tryz.f44 an_wish_Seek xs else none
theorem ok_wish_Seek {E : FuncId → List V → Option V} (hE : EnvOk Tryz.prog DW E) (n : Nat) : SemOk Tryz.prog DW 44 (sem_wish_Seek E n) := fun xs y h => by
 unfold sem_wish_Seek at h
 split at h
 ·rename_i hl
  exact denF_ok stb Tryz.func44 (by kernel_rfl) (envJ_ok (semsOk_cons (ok_slices_ContainsFunc_api_Fate_api_Fate (envOf_ok (semsOk_cons (ok_wish_Seek_1 n) semsOk_nil)) n) semsOk_nil) hE) (by rw [Tryz.ntmps44]; exact hl) h
 ·cases h
def an_wish_Holds_1 : Ann := .seq (.reg 0 [] [] []) (.seq (.reg 0 [] [] []) (.no))
noncomputable def sem_wish_Holds_1 (n : Nat) (xs : List V) : Option V := if xs.length ≤ 12 then denF Tryz.prog (envOf [(42, (sem_net_Of n))]) n Tryz.f45 an_wish_Holds_1 xs else none
theorem ok_wish_Holds_1 (n : Nat) : SemOk Tryz.prog DW 45 (sem_wish_Holds_1 n) := fun xs y h => by
 unfold sem_wish_Holds_1 at h
 split at h
 ·rename_i hl
  exact denF_ok stb Tryz.func45 (by kernel_rfl) (envOf_ok (semsOk_cons (ok_net_Of n) semsOk_nil)) (by rw [Tryz.ntmps45]; exact hl) h
 ·cases h
def an_wish_Holds : Ann := .seq (.reg 0 [] [] []) (.seq (.seq (.reg 0 [2] [] []) (.seq (.reg 0 [] [] []) (.cond none (.seq (.reg 0 [] [] []) (.no)) (.no)))) (.seq (.seq (.reg 0 [] [] []) (.seq (.reg 0 [] [] []) (.cond none (.seq (.reg 0 [] [] []) (.no)) (.no)))) (.seq (.reg 0 [] [] []) (.seq (.seq (.reg 0 [] [] []) (.cond none (.seq (.reg 0 [] [] []) (.no)) (.no))) (.seq (.reg 0 [] [] []) (.no))))))
noncomputable def sem_wish_Holds (n : Nat) (xs : List V) : Option V := if xs.length ≤ 36 then denF Tryz.prog (envOf [(19, (sem_net_Check n)), (43, (sem_wish_Check n)), (44, (sem_wish_Seek (envOf [(45, (sem_wish_Holds_1 n))]) n)), (45, (sem_wish_Holds_1 n))]) n Tryz.f18 an_wish_Holds xs else none
theorem ok_wish_Holds (n : Nat) : SemOk Tryz.prog DW 18 (sem_wish_Holds n) := fun xs y h => by
 unfold sem_wish_Holds at h
 split at h
 ·rename_i hl
  exact denF_ok stb Tryz.func18 (by kernel_rfl) (envOf_ok (semsOk_cons (ok_net_Check n) (semsOk_cons (ok_wish_Check n) (semsOk_cons (ok_wish_Seek (envOf_ok (semsOk_cons (ok_wish_Holds_1 n) semsOk_nil)) n) (semsOk_cons (ok_wish_Holds_1 n) semsOk_nil))))) (by rw [Tryz.ntmps18]; exact hl) h
 ·cases h
def an_railtop_one : Ann := .seq (.reg 0 [] [] []) (.seq (.reg 0 [] [] []) (.seq (.reg 0 [] [] []) (.seq (.reg 0 [] [] []) (.seq (.reg 0 [] [] []) (.no)))))
noncomputable def sem_railtop_one (n : Nat) (xs : List V) : Option V := if xs.length ≤ 37 then denF Tryz.prog (envOf [(17, (sem_net_Send n)), (18, (sem_wish_Holds n))]) n Tryz.f4 an_railtop_one xs else none
theorem ok_railtop_one (n : Nat) : SemOk Tryz.prog DW 4 (sem_railtop_one n) := fun xs y h => by
 unfold sem_railtop_one at h
 split at h
 ·rename_i hl
  exact denF_ok stb Tryz.func4 (by kernel_rfl) (envOf_ok (semsOk_cons (ok_net_Send n) (semsOk_cons (ok_wish_Holds n) semsOk_nil))) (by rw [Tryz.ntmps4]; exact hl) h
 ·cases h
theorem one_v (m : Nat) : sem_railtop_one (m + 300) [] = some (vb true) := by kernel_rfl
def t_railtop_one : Option Bool := some true
theorem ty_railtop_one {n : Nat} (hn : bigN ≤ n) : Rv (fun x : Bool => (vb x)) (sem_railtop_one n []) t_railtop_one := by
  obtain ⟨m, rfl⟩ : ∃ m, n = m + 300 := ⟨n - 300, by have := bigN_gt; omega⟩
  intro b hb
  obtain rfl := oJ_ hb
  exact one_v m
end Go.Proofs.YtgkohnjpnnofhaaGreat.Ty
