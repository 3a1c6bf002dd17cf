/- What functions do, as functions on plain trees, written by a program and checked by the kernel. -/
import Derived.Test.YtedgcbcphlonpaaDoorDenDoor
namespace Go.Proofs.YtedgcbcphlonpaaDoor.Sem
open Go Go.RowKit Go.Proofs.YtedgcbcphlonpaaDoor.Den
set_option linter.unusedVariables false
set_option maxRecDepth 100000

/-! railpoint/cube.Header -/
def an_cube_Header : Ann := .seq (.reg 0 [] [] []) (.seq (.reg 0 [] [] []) (.no))
noncomputable def sem_cube_Header (n : Nat) (xs : List V) : Option V := if xs.length ≤ 9 then denF Tryd.prog (envOf []) n Tryd.f24 an_cube_Header xs else none
theorem ok_cube_Header (n : Nat) : SemOk Tryd.prog DW 24 (sem_cube_Header n) := fun xs y h => by
  unfold sem_cube_Header at h
  split at h
  · rename_i hl
    exact denF_ok stb Tryd.func24 (by kernel_rfl) (envOf_ok semsOk_nil) (by rw [Tryd.ntmps24]; exact hl) h
  · cases h
theorem eq_cube_Header (n : Nat) (x0 : V) : sem_cube_Header n [x0] =
 (bin2 Tryd.prog BinOp.geq 3 (Operand.tmp 3) (Operand.const (Go.Value.int Go.IntKind.i64 0)) x0 (V.lit (Go.Value.int Go.IntKind.i64 0))).bind fun v1 =>
 (guardV v1 true (some x0)).bind fun v2 =>
 (guardV v1 true ((bin2 Tryd.prog BinOp.lss 3 (Operand.tmp 6) (Operand.const (Go.Value.int Go.IntKind.i64 16)) v2 (V.lit (Go.Value.int Go.IntKind.i64 16))).bind fun v3 =>
 some v3)).bind fun v4 =>
 (pickV v1 v4 (V.lit (Go.Value.bool Bool.false))).bind fun v5 =>
 some v5 := by kernel_rfl

/-! railpoint/cube.Check -/
def an_cube_Check : Ann := .seq (.reg 0 [] [] []) (.seq (.blk none (.seq (.reg 0 [] [] []) (.cond none (.seq (.reg 0 [] [] []) (.no)) (.seq (.reg 0 [] [] []) (.cond none (.seq (.reg 0 [] [] []) (.no)) (.no)))))) (.seq (.reg 0 [] [] []) (.no)))
noncomputable def sem_cube_Check (n : Nat) (xs : List V) : Option V := if xs.length ≤ 23 then denF Tryd.prog (envOf [(24, (sem_cube_Header n))]) n Tryd.f25 an_cube_Check xs else none
theorem ok_cube_Check (n : Nat) : SemOk Tryd.prog DW 25 (sem_cube_Check n) := fun xs y h => by
  unfold sem_cube_Check at h
  split at h
  · rename_i hl
    exact denF_ok stb Tryd.func25 (by kernel_rfl) (envOf_ok (semsOk_cons (ok_cube_Header n) semsOk_nil)) (by rw [Tryd.ntmps25]; exact hl) h
  · cases h
theorem eq_cube_Check (n : Nat) (x0 : V) : sem_cube_Check n [x0] =
 (V.cellsO x0).bind fun v1 =>
 (ldk none (List.drop 0 v1)).bind fun v2 =>
 ((sem_cube_Header n) [v2]).bind fun v3 =>
 (scal1 Tryd.prog (Op.unary Go.UnOp.not) v3).bind fun v4 =>
 (guardV v4 false (some V.any)).bind fun v5 =>
 (guardV v4 false ((gate v4 false (ldk none (List.drop 1 v1))).bind fun v6 =>
 some v6)).bind fun v7 =>
 (guardV v4 false (((sem_cube_Header n) [v7]).bind fun v8 =>
 some v8)).bind fun v9 =>
 (guardV v4 false ((scal1 Tryd.prog (Op.unary Go.UnOp.not) v9).bind fun v10 =>
 some v10)).bind fun v11 =>
 (pickV v4 (V.lit (Go.Value.bool Bool.true)) v11).bind fun v12 =>
 condV v12 (
 (scal1 Tryd.prog (Instr.makeInterface 48) (V.lit (Go.Value.int Go.IntKind.i64 1))).bind fun v13 =>
 some v13) (
 (ldk none (List.drop 1 v1)).bind fun v14 =>
 (ldk none (List.drop 0 v1)).bind fun v15 =>
 (bin2 Tryd.prog BinOp.andNot 3 (Operand.tmp 17) (Operand.tmp 19) v14 v15).bind fun v16 =>
 (bin2 Tryd.prog BinOp.neq 3 (Operand.tmp 20) (Operand.const (Go.Value.int Go.IntKind.i64 0)) v16 (V.lit (Go.Value.int Go.IntKind.i64 0))).bind fun v17 =>
 condV v17 (
 (scal1 Tryd.prog (Instr.makeInterface 48) (V.lit (Go.Value.int Go.IntKind.i64 3))).bind fun v18 =>
 some v18) (
 some (V.lit Go.Value.nilIface))) := by kernel_rfl

/-! railpoint/rule.Check -/
def an_rule_Check : Ann := .seq (.reg 0 [] [] []) (.seq (.seq (.reg 0 [] [] []) (.cond none (.seq (.reg 0 [] [] []) (.no)) (.no))) (.seq (.seq (.reg 0 [] [] []) (.seq (.reg 0 [] [] []) (.cond none (.seq (.reg 0 [] [] []) (.no)) (.no)))) (.seq (.seq (.reg 0 [] [] []) (.cond none (.seq (.reg 0 [] [] []) (.no)) (.no))) (.seq (.reg 0 [] [] []) (.no)))))
noncomputable def sem_rule_Check (n : Nat) (xs : List V) : Option V := if xs.length ≤ 58 then denF Tryd.prog (envOf [(24, (sem_cube_Header n)), (25, (sem_cube_Check n))]) n Tryd.f15 an_rule_Check xs else none
theorem ok_rule_Check (n : Nat) : SemOk Tryd.prog DW 15 (sem_rule_Check n) := fun xs y h => by
  unfold sem_rule_Check at h
  split at h
  · rename_i hl
    exact denF_ok stb Tryd.func15 (by kernel_rfl) (envOf_ok (semsOk_cons (ok_cube_Header n) (semsOk_cons (ok_cube_Check n) semsOk_nil))) (by rw [Tryd.ntmps15]; exact hl) h
  · cases h
theorem eq_rule_Check (n : Nat) (x0 : V) : sem_rule_Check n [x0] =
 (V.cellsO x0).bind fun v1 =>
 (ldk none (List.drop 0 v1)).bind fun v2 =>
 (bin2 Tryd.prog BinOp.lss 3 (Operand.tmp 5) (Operand.const (Go.Value.int Go.IntKind.i64 0)) v2 (V.lit (Go.Value.int Go.IntKind.i64 0))).bind fun v3 =>
 (guardV v3 false (some V.any)).bind fun v4 =>
 (guardV v3 false ((gate v3 false (ldk none (List.drop 0 v1))).bind fun v5 =>
 some v5)).bind fun v6 =>
 (guardV v3 false ((bin2 Tryd.prog BinOp.gtr 3 (Operand.tmp 9) (Operand.const (Go.Value.int Go.IntKind.i64 99)) v6 (V.lit (Go.Value.int Go.IntKind.i64 99))).bind fun v7 =>
 some v7)).bind fun v8 =>
 (pickV v3 (V.lit (Go.Value.bool Bool.true)) v8).bind fun v9 =>
 (guardV v9 false (some V.any)).bind fun v10 =>
 (guardV v9 false ((gate v9 false (ldk none (List.drop 3 v1))).bind fun v11 =>
 some v11)).bind fun v12 =>
 (guardV v9 false ((bin2 Tryd.prog BinOp.lss 3 (Operand.tmp 14) (Operand.const (Go.Value.int Go.IntKind.i64 0)) v12 (V.lit (Go.Value.int Go.IntKind.i64 0))).bind fun v13 =>
 some v13)).bind fun v14 =>
 (pickV v9 (V.lit (Go.Value.bool Bool.true)) v14).bind fun v15 =>
 (guardV v15 false (some V.any)).bind fun v16 =>
 (guardV v15 false ((gate v15 false (ldk none (List.drop 3 v1))).bind fun v17 =>
 some v17)).bind fun v18 =>
 (guardV v15 false ((bin2 Tryd.prog BinOp.gtr 3 (Operand.tmp 19) (Operand.const (Go.Value.int Go.IntKind.i64 4)) v18 (V.lit (Go.Value.int Go.IntKind.i64 4))).bind fun v19 =>
 some v19)).bind fun v20 =>
 (pickV v15 (V.lit (Go.Value.bool Bool.true)) v20).bind fun v21 =>
 (guardV v21 false (some V.any)).bind fun v22 =>
 (guardV v21 false ((gate v21 false (ldk none (List.drop 4 v1))).bind fun v23 =>
 some v23)).bind fun v24 =>
 (guardV v21 false (((sem_cube_Header n) [v24]).bind fun v25 =>
 some v25)).bind fun v26 =>
 (guardV v21 false ((scal1 Tryd.prog (Op.unary Go.UnOp.not) v26).bind fun v27 =>
 some v27)).bind fun v28 =>
 (pickV v21 (V.lit (Go.Value.bool Bool.true)) v28).bind fun v29 =>
 (guardV v29 false (some V.any)).bind fun v30 =>
 (guardV v29 false ((gate v29 false (ldk none (List.drop 5 v1))).bind fun v31 =>
 some v31)).bind fun v32 =>
 (guardV v29 false (((sem_cube_Header n) [v32]).bind fun v33 =>
 some v33)).bind fun v34 =>
 (guardV v29 false ((scal1 Tryd.prog (Op.unary Go.UnOp.not) v34).bind fun v35 =>
 some v35)).bind fun v36 =>
 (pickV v29 (V.lit (Go.Value.bool Bool.true)) v36).bind fun v37 =>
 condV v37 (
 (scal1 Tryd.prog (Instr.makeInterface 48) (V.lit (Go.Value.int Go.IntKind.i64 1))).bind fun v38 =>
 some v38) (
 (ldk (some 2) (List.drop 1 v1)).bind fun v39 =>
 ((sem_cube_Check n) [v39]).bind fun v40 =>
 (bin2 Tryd.prog BinOp.neq 31 (Operand.tmp 38) (Operand.const Go.Value.nilIface) v40 (V.lit Go.Value.nilIface)).bind fun v41 =>
 condV v41 (
 some v40) (
 (ldk none (List.drop 5 v1)).bind fun v42 =>
 (ldk none (List.drop 4 v1)).bind fun v43 =>
 (bin2 Tryd.prog BinOp.andNot 3 (Operand.tmp 42) (Operand.tmp 44) v42 v43).bind fun v44 =>
 (bin2 Tryd.prog BinOp.neq 3 (Operand.tmp 45) (Operand.const (Go.Value.int Go.IntKind.i64 0)) v44 (V.lit (Go.Value.int Go.IntKind.i64 0))).bind fun v45 =>
 (guardV v45 false (some V.any)).bind fun v46 =>
 (guardV v45 false ((gate v45 false (ldk none (List.drop 3 v1))).bind fun v47 =>
 some v47)).bind fun v48 =>
 (guardV v45 false ((bin2 Tryd.prog BinOp.eql 3 (Operand.tmp 49) (Operand.const (Go.Value.int Go.IntKind.i64 0)) v48 (V.lit (Go.Value.int Go.IntKind.i64 0))).bind fun v49 =>
 some v49)).bind fun v50 =>
 (guardV v45 false (some v50)).bind fun v51 =>
 (guardV v51 true (some V.any)).bind fun v52 =>
 (guardV v51 true ((gate v51 true (ldk none (List.drop 4 v1))).bind fun v53 =>
 some v53)).bind fun v54 =>
 (guardV v51 true ((bin2 Tryd.prog BinOp.neq 3 (Operand.tmp 53) (Operand.const (Go.Value.int Go.IntKind.i64 0)) v54 (V.lit (Go.Value.int Go.IntKind.i64 0))).bind fun v55 =>
 some v55)).bind fun v56 =>
 (guardV v45 false ((pickV v51 v56 (V.lit (Go.Value.bool Bool.false))).bind fun v57 =>
 some v57)).bind fun v58 =>
 (pickV v45 (V.lit (Go.Value.bool Bool.true)) v58).bind fun v59 =>
 condV v59 (
 (scal1 Tryd.prog (Instr.makeInterface 48) (V.lit (Go.Value.int Go.IntKind.i64 3))).bind fun v60 =>
 some v60) (
 some (V.lit Go.Value.nilIface)))) := by kernel_rfl

/-! railpoint/wire.Check -/
def an_wire_Check : Ann := .seq (.reg 0 [] [] []) (.seq (.seq (.reg 0 [] [] []) (.cond none (.seq (.reg 0 [] [] []) (.no)) (.no))) (.seq (.seq (.reg 0 [] [] []) (.cond none (.seq (.seq (.reg 0 [] [] []) (.cond none (.seq (.reg 0 [] [] []) (.no)) (.no))) (.seq (.reg 0 [] [] []) (.no))) (.no))) (.seq (.seq (.reg 0 [] [] []) (.seq (.reg 0 [] [] []) (.cond none (.seq (.reg 0 [] [] []) (.no)) (.no)))) (.seq (.seq (.reg 0 [] [] []) (.cond none (.seq (.reg 0 [] [] []) (.no)) (.no))) (.seq (.reg 0 [] [] []) (.no))))))
noncomputable def sem_wire_Check (n : Nat) (xs : List V) : Option V := if xs.length ≤ 75 then denF Tryd.prog (envOf [(15, (sem_rule_Check n))]) n Tryd.f9 an_wire_Check xs else none
theorem ok_wire_Check (n : Nat) : SemOk Tryd.prog DW 9 (sem_wire_Check n) := fun xs y h => by
  unfold sem_wire_Check at h
  split at h
  · rename_i hl
    exact denF_ok stb Tryd.func9 (by kernel_rfl) (envOf_ok (semsOk_cons (ok_rule_Check n) semsOk_nil)) (by rw [Tryd.ntmps9]; exact hl) h
  · cases h
theorem eq_wire_Check (n : Nat) (x0 : V) : sem_wire_Check n [x0] =
 (V.cellsO x0).bind fun v1 =>
 (ldk none (List.drop 0 v1)).bind fun v2 =>
 (bin2 Tryd.prog BinOp.lss 3 (Operand.tmp 5) (Operand.const (Go.Value.int Go.IntKind.i64 1)) v2 (V.lit (Go.Value.int Go.IntKind.i64 1))).bind fun v3 =>
 (guardV v3 false (some V.any)).bind fun v4 =>
 (guardV v3 false ((gate v3 false (ldk none (List.drop 0 v1))).bind fun v5 =>
 some v5)).bind fun v6 =>
 (guardV v3 false ((bin2 Tryd.prog BinOp.gtr 3 (Operand.tmp 9) (Operand.const (Go.Value.int Go.IntKind.i64 3)) v6 (V.lit (Go.Value.int Go.IntKind.i64 3))).bind fun v7 =>
 some v7)).bind fun v8 =>
 (pickV v3 (V.lit (Go.Value.bool Bool.true)) v8).bind fun v9 =>
 (guardV v9 false (some V.any)).bind fun v10 =>
 (guardV v9 false ((gate v9 false (ldk none (List.drop 1 v1))).bind fun v11 =>
 some v11)).bind fun v12 =>
 (guardV v9 false ((bin2 Tryd.prog BinOp.lss 3 (Operand.tmp 14) (Operand.const (Go.Value.int Go.IntKind.i64 1)) v12 (V.lit (Go.Value.int Go.IntKind.i64 1))).bind fun v13 =>
 some v13)).bind fun v14 =>
 (pickV v9 (V.lit (Go.Value.bool Bool.true)) v14).bind fun v15 =>
 (guardV v15 false (some V.any)).bind fun v16 =>
 (guardV v15 false ((gate v15 false (ldk none (List.drop 1 v1))).bind fun v17 =>
 some v17)).bind fun v18 =>
 (guardV v15 false ((bin2 Tryd.prog BinOp.gtr 3 (Operand.tmp 19) (Operand.const (Go.Value.int Go.IntKind.i64 6)) v18 (V.lit (Go.Value.int Go.IntKind.i64 6))).bind fun v19 =>
 some v19)).bind fun v20 =>
 (pickV v15 (V.lit (Go.Value.bool Bool.true)) v20).bind fun v21 =>
 (guardV v21 false (some V.any)).bind fun v22 =>
 (guardV v21 false ((gate v21 false (ldk none (List.drop 2 v1))).bind fun v23 =>
 some v23)).bind fun v24 =>
 (guardV v21 false ((bin2 Tryd.prog BinOp.lss 3 (Operand.tmp 24) (Operand.const (Go.Value.int Go.IntKind.i64 0)) v24 (V.lit (Go.Value.int Go.IntKind.i64 0))).bind fun v25 =>
 some v25)).bind fun v26 =>
 (pickV v21 (V.lit (Go.Value.bool Bool.true)) v26).bind fun v27 =>
 (guardV v27 false (some V.any)).bind fun v28 =>
 (guardV v27 false ((gate v27 false (ldk none (List.drop 2 v1))).bind fun v29 =>
 some v29)).bind fun v30 =>
 (guardV v27 false ((bin2 Tryd.prog BinOp.geq 3 (Operand.tmp 29) (Operand.const (Go.Value.int Go.IntKind.i64 20)) v30 (V.lit (Go.Value.int Go.IntKind.i64 20))).bind fun v31 =>
 some v31)).bind fun v32 =>
 (pickV v27 (V.lit (Go.Value.bool Bool.true)) v32).bind fun v33 =>
 (guardV v33 false (some V.any)).bind fun v34 =>
 (guardV v33 false ((gate v33 false (ldk none (List.drop 3 v1))).bind fun v35 =>
 some v35)).bind fun v36 =>
 (guardV v33 false ((bin2 Tryd.prog BinOp.lss 3 (Operand.tmp 34) (Operand.const (Go.Value.int Go.IntKind.i64 0)) v36 (V.lit (Go.Value.int Go.IntKind.i64 0))).bind fun v37 =>
 some v37)).bind fun v38 =>
 (pickV v33 (V.lit (Go.Value.bool Bool.true)) v38).bind fun v39 =>
 (guardV v39 false (some V.any)).bind fun v40 =>
 (guardV v39 false ((gate v39 false (ldk none (List.drop 3 v1))).bind fun v41 =>
 some v41)).bind fun v42 =>
 (guardV v39 false ((bin2 Tryd.prog BinOp.gtr 3 (Operand.tmp 39) (Operand.const (Go.Value.int Go.IntKind.i64 200)) v42 (V.lit (Go.Value.int Go.IntKind.i64 200))).bind fun v43 =>
 some v43)).bind fun v44 =>
 (pickV v39 (V.lit (Go.Value.bool Bool.true)) v44).bind fun v45 =>
 condV v45 (
 (scal1 Tryd.prog (Instr.makeInterface 48) (V.lit (Go.Value.int Go.IntKind.i64 1))).bind fun v46 =>
 some v46) (
 (ldk none (List.drop 0 v1)).bind fun v47 =>
 (bin2 Tryd.prog BinOp.neq 3 (Operand.tmp 44) (Operand.const (Go.Value.int Go.IntKind.i64 1)) v47 (V.lit (Go.Value.int Go.IntKind.i64 1))).bind fun v48 =>
 condV v48 (
 (ldk (some 8) (List.drop 4 v1)).bind fun v49 =>
 ((fillL [(V.lit (Go.Value.int Go.IntKind.i64 0)), (V.lit (Go.Value.bool Bool.false)), (V.lit (Go.Value.int Go.IntKind.i64 0)), (V.lit (Go.Value.int Go.IntKind.i64 0)), (V.lit (Go.Value.int Go.IntKind.i64 0)), (V.lit (Go.Value.int Go.IntKind.i64 0)), (V.lit (Go.Value.int Go.IntKind.i64 0)), (V.lit (Go.Value.int Go.IntKind.i64 0))] []).map V.agg).bind fun v50 =>
 (bin2 Tryd.prog BinOp.neq 27 (Operand.tmp 47) (Operand.tmp 48) v49 v50).bind fun v51 =>
 (guardV v51 false (some V.any)).bind fun v52 =>
 (guardV v51 false ((gate v51 false (ldk none (List.drop 0 v1))).bind fun v53 =>
 some v53)).bind fun v54 =>
 (guardV v51 false ((bin2 Tryd.prog BinOp.eql 3 (Operand.tmp 52) (Operand.const (Go.Value.int Go.IntKind.i64 3)) v54 (V.lit (Go.Value.int Go.IntKind.i64 3))).bind fun v55 =>
 some v55)).bind fun v56 =>
 (guardV v51 false (some v56)).bind fun v57 =>
 (guardV v57 true (some V.any)).bind fun v58 =>
 (guardV v57 true ((gate v57 true (ldk none (List.drop 3 v1))).bind fun v59 =>
 some v59)).bind fun v60 =>
 (guardV v57 true ((bin2 Tryd.prog BinOp.neq 3 (Operand.tmp 56) (Operand.const (Go.Value.int Go.IntKind.i64 0)) v60 (V.lit (Go.Value.int Go.IntKind.i64 0))).bind fun v61 =>
 some v61)).bind fun v62 =>
 (guardV v51 false ((pickV v57 v62 (V.lit (Go.Value.bool Bool.false))).bind fun v63 =>
 some v63)).bind fun v64 =>
 (pickV v51 (V.lit (Go.Value.bool Bool.true)) v64).bind fun v65 =>
 condV v65 (
 (scal1 Tryd.prog (Instr.makeInterface 48) (V.lit (Go.Value.int Go.IntKind.i64 3))).bind fun v66 =>
 some v66) (
 some (V.lit Go.Value.nilIface))) (
 (ldk (some 6) (List.drop 6 v1)).bind fun v67 =>
 ((sem_rule_Check n) [v67]).bind fun v68 =>
 (bin2 Tryd.prog BinOp.neq 31 (Operand.tmp 65) (Operand.const Go.Value.nilIface) v68 (V.lit Go.Value.nilIface)).bind fun v69 =>
 condV v69 (
 some v68) (
 (ldk none (List.drop 4 v1)).bind fun v70 =>
 (ldk none (List.drop 1 v1)).bind fun v71 =>
 (bin2 Tryd.prog BinOp.neq 3 (Operand.tmp 70) (Operand.tmp 72) v70 v71).bind fun v72 =>
 condV v72 (
 (scal1 Tryd.prog (Instr.makeInterface 48) (V.lit (Go.Value.int Go.IntKind.i64 3))).bind fun v73 =>
 some v73) (
 some (V.lit Go.Value.nilIface))))) := by kernel_rfl

/-! railpoint/wire.sum -/
def an_wire_sum : Ann := .seq (.reg 0 [] [] []) (.seq (.reg 0 [] [] []) (.seq (.seq (.reg 0 [] [] []) (.blk none (.loop [.s 3, .s 8] (.seq (.reg 0 [] [] []) (.seq (.cond none (.no) (.no)) (.seq (.blk none (.seq (.reg 0 [] [] []) (.reg 0 [] [] []))) (.reg 0 [] [] []))))))) (.seq (.reg 0 [] [] []) (.no))))
noncomputable def sem_wire_sum (n : Nat) (xs : List V) : Option V := if xs.length ≤ 20 then denF Tryd.prog (envOf []) n Tryd.f10 an_wire_sum xs else none
theorem ok_wire_sum (n : Nat) : SemOk Tryd.prog DW 10 (sem_wire_sum n) := fun xs y h => by
  unfold sem_wire_sum at h
  split at h
  · rename_i hl
    exact denF_ok stb Tryd.func10 (by kernel_rfl) (envOf_ok semsOk_nil) (by rw [Tryd.ntmps10]; exact hl) h
  · cases h
theorem eq_wire_sum (n : Nat) (x0 : V) : sem_wire_sum n [x0] =
 (lenS [x0]).bind fun v1 =>
 (fixN (fun rec2 vs3 =>
 (bin2 Tryd.prog BinOp.lss 3 (Operand.tmp 8) (Operand.tmp 7) (List.getD vs3 1 V.any) v1).bind fun v4 =>
 condV v4 (
 (idxS 1 x0 (List.getD vs3 1 V.any)).bind fun v5 =>
 (ldp none v5).bind fun v6 =>
 (scal1 Tryd.prog (convert 5 3) v6).bind fun v7 =>
 (bin2 Tryd.prog BinOp.add 3 (Operand.tmp 12) (Operand.tmp 14) (List.getD vs3 0 V.any) v7).bind fun v8 =>
 (bin2 Tryd.prog BinOp.add 3 (Operand.tmp 8) (Operand.const (Go.Value.int Go.IntKind.i64 1)) (List.getD vs3 1 V.any) (V.lit (Go.Value.int Go.IntKind.i64 1))).bind fun v9 =>
 rec2 [v8, v9]) (
 (bin2 Tryd.prog BinOp.rem 3 (Operand.tmp 17) (Operand.const (Go.Value.int Go.IntKind.i64 251)) (List.getD vs3 0 V.any) (V.lit (Go.Value.int Go.IntKind.i64 251))).bind fun v10 =>
 (scal1 Tryd.prog (convert 3 5) v10).bind fun v11 =>
 some v11)) n) [(V.lit (Go.Value.int Go.IntKind.i64 0)), (V.lit (Go.Value.int Go.IntKind.i64 0))] := by kernel_rfl

/-! railpoint/wire.Encode -/
def an_wire_Encode : Ann := .seq (.reg 0 [] [] []) (.seq (.seq (.reg 0 [] [] []) (.seq (.reg 0 [] [] []) (.cond none (.seq (.reg 0 [] [] []) (.no)) (.no)))) (.seq (.reg 0 [] [] [24]) (.seq (.seq (.reg 0 [] [] []) (.cond (some [.s 5]) (.seq (.reg 0 [] [] []) (.seq (.seq (.reg 0 [] [] []) (.cond (some [.kb 1, .r 5 3, .s 6]) (.reg 0 [] [] []) (.no))) (.seq (.reg 0 [] [] []) (.reg 0 [] [] [])))) (.no))) (.seq (.reg 0 [] [] []) (.seq (.seq (.reg 0 [] [] []) (.blk none (.loop [.r 8 5, .s 52, .s 54] (.seq (.reg 0 [] [] []) (.seq (.cond none (.no) (.no)) (.seq (.blk none (.seq (.reg 0 [] [] []) (.reg 0 [] [] []))) (.reg 0 [] [] []))))))) (.seq (.reg 0 [] [] []) (.no)))))))
noncomputable def sem_wire_Encode (n : Nat) (xs : List V) : Option V := if xs.length ≤ 70 then denF Tryd.prog (envOf [(9, (sem_wire_Check n)), (10, (sem_wire_sum n))]) n Tryd.f5 an_wire_Encode xs else none
theorem ok_wire_Encode (n : Nat) : SemOk Tryd.prog DW 5 (sem_wire_Encode n) := fun xs y h => by
  unfold sem_wire_Encode at h
  split at h
  · rename_i hl
    exact denF_ok stb Tryd.func5 (by kernel_rfl) (envOf_ok (semsOk_cons (ok_wire_Check n) (semsOk_cons (ok_wire_sum n) semsOk_nil))) (by rw [Tryd.ntmps5]; exact hl) h
  · cases h
theorem eq_wire_Encode (n : Nat) (x0 : V) : sem_wire_Encode n [x0] =
 (V.cellsO x0).bind fun v1 =>
 (ldk (some 12) (List.drop 0 v1)).bind fun v2 =>
 ((sem_wire_Check n) [v2]).bind fun v3 =>
 (bin2 Tryd.prog BinOp.neq 31 (Operand.tmp 13) (Operand.const Go.Value.nilIface) v3 (V.lit Go.Value.nilIface)).bind fun v4 =>
 condV v4 (
 some (V.tup [(V.lit (Go.Value.string (ByteArray.mk #[]))), v3])) (
 (ldk none (List.drop 0 v1)).bind fun v5 =>
 (ldk none (List.drop 1 v1)).bind fun v6 =>
 (ldk none (List.drop 2 v1)).bind fun v7 =>
 (ldk none (List.drop 3 v1)).bind fun v8 =>
 (slcB 1 4 [(V.lit (Go.Value.int Go.IntKind.i64 0))] [(0, v5), (1, v6), (2, v7), (3, v8)]).bind fun v9 =>
 (ldk none (List.drop 0 v1)).bind fun v10 =>
 (bin2 Tryd.prog BinOp.eql 3 (Operand.tmp 26) (Operand.const (Go.Value.int Go.IntKind.i64 1)) v10 (V.lit (Go.Value.int Go.IntKind.i64 1))).bind fun v11 =>
 JoinPt (fun vs12 =>
 (lenS [(List.getD vs12 0 V.any)]).bind fun v14 =>
 (fixN (fun rec15 vs16 =>
 (bin2 Tryd.prog BinOp.lss 3 (Operand.tmp 54) (Operand.tmp 53) (List.getD vs16 2 V.any) v14).bind fun v17 =>
 condV v17 (
 (idxS 1 (List.getD vs16 1 V.any) (List.getD vs16 2 V.any)).bind fun v18 =>
 (ldp none v18).bind fun v19 =>
 (scal1 Tryd.prog (convert 3 5) v19).bind fun v20 =>
 (slcB 1 1 [(V.lit (Go.Value.int Go.IntKind.u8 0))] [(0, v20)]).bind fun v21 =>
 (appV 1 (slL (List.getD vs16 0 V.any)) v21).bind fun v22 =>
 (bin2 Tryd.prog BinOp.add 3 (Operand.tmp 54) (Operand.const (Go.Value.int Go.IntKind.i64 1)) (List.getD vs16 2 V.any) (V.lit (Go.Value.int Go.IntKind.i64 1))).bind fun v23 =>
 rec15 [(V.sl (slL v22)), (List.getD vs16 1 V.any), v23]) (
 ((sem_wire_sum n) [(V.sl (slL (List.getD vs16 0 V.any)))]).bind fun v24 =>
 (slcB 1 1 [(V.lit (Go.Value.int Go.IntKind.u8 0))] [(0, v24)]).bind fun v25 =>
 (appV 1 (slL (List.getD vs16 0 V.any)) v25).bind fun v26 =>
 (b2s (V.sl (slL v26))).bind fun v27 =>
 some (V.tup [v27, (V.lit Go.Value.nilIface)]))) n) [(V.sl []), (List.getD vs12 0 V.any), (V.lit (Go.Value.int Go.IntKind.i64 0))]) fun J13 =>
 condV v11 (
 (ldk none (List.drop 5 v1)).bind fun v28 =>
 JoinPt (fun vs29 =>
 (ldk (some 6) (List.drop 6 v1)).bind fun v31 =>
 (spliceV [(V.lit (Go.Value.int Go.IntKind.i64 0)), (V.lit (Go.Value.int Go.IntKind.i64 0)), (V.lit (Go.Value.int Go.IntKind.i64 0)), (V.lit (Go.Value.int Go.IntKind.i64 0)), (V.lit (Go.Value.int Go.IntKind.i64 0)), (V.lit (Go.Value.int Go.IntKind.i64 0))] 0 6 v31).bind fun v32 =>
 (ldk none (List.drop 0 (aggL v32))).bind fun v33 =>
 (ldk none (List.drop 1 (aggL v32))).bind fun v34 =>
 (ldk none (List.drop 2 (aggL v32))).bind fun v35 =>
 (ldk none (List.drop 3 (aggL v32))).bind fun v36 =>
 (ldk none (List.drop 4 (aggL v32))).bind fun v37 =>
 (ldk none (List.drop 5 (aggL v32))).bind fun v38 =>
 (slcB 1 7 [(V.lit (Go.Value.int Go.IntKind.i64 0))] [(0, (List.getD vs29 1 V.any)), (1, v33), (2, v34), (3, v35), (4, v36), (5, v37), (6, v38)]).bind fun v39 =>
 (appV 1 (slL (List.getD vs29 0 V.any)) v39).bind fun v40 =>
 J13 [(V.sl (slL v40))]) fun J30 =>
 condV v28 (
 (keepO (some v1) (some v1) (some [(V.sl (slL v9)), (V.lit (Go.Value.int Go.IntKind.i64 1))])).bind J30) (
 (keepO (some v1) (some v1) (some [(V.sl (slL v9)), (V.lit (Go.Value.int Go.IntKind.i64 0))])).bind J30)) (
 J13 [(V.sl (slL v9))])) := by kernel_rfl

/-! railpoint/wire.size -/
def an_wire_size : Ann := .seq (.reg 0 [] [] []) (.seq (.seq (.reg 0 [] [] []) (.blk none (.seq (.reg 0 [] [] []) (.cond none (.seq (.reg 0 [] [] []) (.no)) (.seq (.seq (.reg 0 [] [] []) (.cond (some [.s 7]) (.no) (.reg 0 [] [] []))) (.cond none (.seq (.reg 0 [] [] []) (.no)) (.no))))))) (.seq (.reg 0 [] [] []) (.no)))
noncomputable def sem_wire_size (n : Nat) (xs : List V) : Option V := if xs.length ≤ 10 then denF Tryd.prog (envOf []) n Tryd.f11 an_wire_size xs else none
theorem ok_wire_size (n : Nat) : SemOk Tryd.prog DW 11 (sem_wire_size n) := fun xs y h => by
  unfold sem_wire_size at h
  split at h
  · rename_i hl
    exact denF_ok stb Tryd.func11 (by kernel_rfl) (envOf_ok semsOk_nil) (by rw [Tryd.ntmps11]; exact hl) h
  · cases h
theorem eq_wire_size (n : Nat) (x0 : V) : sem_wire_size n [x0] =
 (scal1 Tryd.prog (convert 5 3) x0).bind fun v1 =>
 (bin2 Tryd.prog BinOp.eql 3 (Operand.tmp 4) (Operand.const (Go.Value.int Go.IntKind.i64 1)) v1 (V.lit (Go.Value.int Go.IntKind.i64 1))).bind fun v2 =>
 condV v2 (
 some (V.lit (Go.Value.int Go.IntKind.i64 12))) (
 (bin2 Tryd.prog BinOp.eql 3 (Operand.tmp 4) (Operand.const (Go.Value.int Go.IntKind.i64 2)) v1 (V.lit (Go.Value.int Go.IntKind.i64 2))).bind fun v3 =>
 JoinPt (fun vs4 =>
 condV (List.getD vs4 0 V.any) (
 some (V.lit (Go.Value.int Go.IntKind.i64 5))) (
 some (V.lit (Go.Value.int Go.IntKind.i64 0)))) fun J5 =>
 condV v3 (
 J5 [v3]) (
 (bin2 Tryd.prog BinOp.eql 3 (Operand.tmp 4) (Operand.const (Go.Value.int Go.IntKind.i64 3)) v1 (V.lit (Go.Value.int Go.IntKind.i64 3))).bind fun v6 =>
 J5 [v6])) := by kernel_rfl

/-! railpoint/wire.Decode$1 -/
def an_wire_Decode_1 : Ann := .seq (.reg 0 [] [] []) (.seq (.reg 0 [] [] []) (.no))
noncomputable def sem_wire_Decode_1 (n : Nat) (xs : List V) : Option V := if xs.length ≤ 8 then denF Tryd.prog (envOf []) n Tryd.f12 an_wire_Decode_1 xs else none
theorem ok_wire_Decode_1 (n : Nat) : SemOk Tryd.prog DW 12 (sem_wire_Decode_1 n) := fun xs y h => by
  unfold sem_wire_Decode_1 at h
  split at h
  · rename_i hl
    exact denF_ok stb Tryd.func12 (by kernel_rfl) (envOf_ok semsOk_nil) (by rw [Tryd.ntmps12]; exact hl) h
  · cases h
theorem eq_wire_Decode_1 (n : Nat) (x0 x1 : V) : sem_wire_Decode_1 n [x0, x1] =
 (ldp none x1).bind fun v1 =>
 (scal2 Tryd.prog (Instr.index 9) v1 x0).bind fun v2 =>
 (scal1 Tryd.prog (convert 5 3) v2).bind fun v3 =>
 some v3 := by kernel_rfl

/-! railpoint/wire.Decode -/
def an_wire_Decode : Ann := .seq (.reg 0 [] [] []) (.seq (.seq (.reg 10 [] [] []) (.cond none (.seq (.reg 0 [] [] []) (.no)) (.no))) (.seq (.reg 0 [1] [] []) (.seq (.reg 0 [] [] []) (.seq (.seq (.reg 0 [] [] []) (.cond (some [.kb 2, .b 5]) (.reg 21 [] [] []) (.no))) (.seq (.seq (.reg 0 [] [] []) (.seq (.reg 0 [] [] []) (.cond none (.seq (.reg 0 [] [] []) (.no)) (.no)))) (.seq (.reg 0 [] [] []) (.no)))))))
noncomputable def sem_wire_Decode (n : Nat) (xs : List V) : Option V := if xs.length ≤ 69 then denF Tryd.prog (envOf [(11, (sem_wire_size n)), (5, (sem_wire_Encode n)), (12, (sem_wire_Decode_1 n))]) n Tryd.f6 an_wire_Decode xs else none
theorem ok_wire_Decode (n : Nat) : SemOk Tryd.prog DW 6 (sem_wire_Decode n) := fun xs y h => by
  unfold sem_wire_Decode at h
  split at h
  · rename_i hl
    exact denF_ok stb Tryd.func6 (by kernel_rfl) (envOf_ok (semsOk_cons (ok_wire_size n) (semsOk_cons (ok_wire_Encode n) (semsOk_cons (ok_wire_Decode_1 n) semsOk_nil)))) (by rw [Tryd.ntmps6]; exact hl) h
  · cases h
theorem eq_wire_Decode (n : Nat) (x0 : V) : sem_wire_Decode n [x0] =
 (V.cellsO x0).bind fun v1 =>
 (ldk none (List.drop 0 v1)).bind fun v2 =>
 (bin2 Tryd.prog BinOp.eql 9 (Operand.tmp 8) (Operand.const (Go.Value.string (ByteArray.mk #[]))) v2 (V.lit (Go.Value.string (ByteArray.mk #[])))).bind fun v3 =>
 (guardV v3 false ((ldk none (List.drop 0 v1)).bind fun v4 =>
 some v4)).bind fun v5 =>
 (guardV v3 false ((lenT [v5]).bind fun v6 =>
 some v6)).bind fun v7 =>
 (guardV v3 false ((ldk none (List.drop 0 v1)).bind fun v8 =>
 some v8)).bind fun v9 =>
 (guardV v3 false ((scal2 Tryd.prog (Instr.index 9) v9 (V.lit (Go.Value.int Go.IntKind.i64 0))).bind fun v10 =>
 some v10)).bind fun v11 =>
 (guardV v3 false (((sem_wire_size n) [v11]).bind fun v12 =>
 some v12)).bind fun v13 =>
 (guardV v3 false ((bin2 Tryd.prog BinOp.neq 3 (Operand.tmp 12) (Operand.tmp 15) v7 v13).bind fun v14 =>
 some v14)).bind fun v15 =>
 (pickV v3 (V.lit (Go.Value.bool Bool.true)) v15).bind fun v16 =>
 condV v16 (
 ((fillL [(V.lit (Go.Value.int Go.IntKind.i64 0)), (V.lit (Go.Value.int Go.IntKind.i64 0)), (V.lit (Go.Value.int Go.IntKind.i64 0)), (V.lit (Go.Value.int Go.IntKind.i64 0)), (V.lit (Go.Value.int Go.IntKind.i64 0)), (V.lit (Go.Value.bool Bool.false)), (V.lit (Go.Value.int Go.IntKind.i64 0)), (V.lit (Go.Value.int Go.IntKind.i64 0)), (V.lit (Go.Value.int Go.IntKind.i64 0)), (V.lit (Go.Value.int Go.IntKind.i64 0)), (V.lit (Go.Value.int Go.IntKind.i64 0)), (V.lit (Go.Value.int Go.IntKind.i64 0))] []).map V.agg).bind fun v17 =>
 (scal1 Tryd.prog (Instr.makeInterface 48) (V.lit (Go.Value.int Go.IntKind.i64 2))).bind fun v18 =>
 (spliceV [(V.lit (Go.Value.int Go.IntKind.i64 0)), (V.lit (Go.Value.int Go.IntKind.i64 0)), (V.lit (Go.Value.int Go.IntKind.i64 0)), (V.lit (Go.Value.int Go.IntKind.i64 0)), (V.lit (Go.Value.int Go.IntKind.i64 0)), (V.lit (Go.Value.bool Bool.false)), (V.lit (Go.Value.int Go.IntKind.i64 0)), (V.lit (Go.Value.int Go.IntKind.i64 0)), (V.lit (Go.Value.int Go.IntKind.i64 0)), (V.lit (Go.Value.int Go.IntKind.i64 0)), (V.lit (Go.Value.int Go.IntKind.i64 0)), (V.lit (Go.Value.int Go.IntKind.i64 0))] 0 12 v17).bind fun v19 =>
 (ldk (some 12) (List.drop 0 (aggL v19))).bind fun v20 =>
 some (V.tup [v20, v18])) (
 ((sem_wire_Decode_1 n) [(V.lit (Go.Value.int Go.IntKind.i64 0)), (V.ptr v1)]).bind fun v21 =>
 ((sem_wire_Decode_1 n) [(V.lit (Go.Value.int Go.IntKind.i64 1)), (V.ptr v1)]).bind fun v22 =>
 ((sem_wire_Decode_1 n) [(V.lit (Go.Value.int Go.IntKind.i64 2)), (V.ptr v1)]).bind fun v23 =>
 ((sem_wire_Decode_1 n) [(V.lit (Go.Value.int Go.IntKind.i64 3)), (V.ptr v1)]).bind fun v24 =>
 ((fillL [(V.lit (Go.Value.int Go.IntKind.i64 0)), (V.lit (Go.Value.int Go.IntKind.i64 0)), (V.lit (Go.Value.int Go.IntKind.i64 0)), (V.lit (Go.Value.int Go.IntKind.i64 0)), (V.lit (Go.Value.int Go.IntKind.i64 0)), (V.lit (Go.Value.bool Bool.false)), (V.lit (Go.Value.int Go.IntKind.i64 0)), (V.lit (Go.Value.int Go.IntKind.i64 0)), (V.lit (Go.Value.int Go.IntKind.i64 0)), (V.lit (Go.Value.int Go.IntKind.i64 0)), (V.lit (Go.Value.int Go.IntKind.i64 0)), (V.lit (Go.Value.int Go.IntKind.i64 0))] [(0, 1, v21), (1, 1, v22), (2, 1, v23), (3, 1, v24)]).map V.agg).bind fun v25 =>
 (spliceV [(V.lit (Go.Value.int Go.IntKind.i64 0)), (V.lit (Go.Value.int Go.IntKind.i64 0)), (V.lit (Go.Value.int Go.IntKind.i64 0)), (V.lit (Go.Value.int Go.IntKind.i64 0)), (V.lit (Go.Value.int Go.IntKind.i64 0)), (V.lit (Go.Value.bool Bool.false)), (V.lit (Go.Value.int Go.IntKind.i64 0)), (V.lit (Go.Value.int Go.IntKind.i64 0)), (V.lit (Go.Value.int Go.IntKind.i64 0)), (V.lit (Go.Value.int Go.IntKind.i64 0)), (V.lit (Go.Value.int Go.IntKind.i64 0)), (V.lit (Go.Value.int Go.IntKind.i64 0))] 0 12 v25).bind fun v26 =>
 (ldk none (List.drop 0 (aggL v26))).bind fun v27 =>
 (bin2 Tryd.prog BinOp.eql 3 (Operand.tmp 31) (Operand.const (Go.Value.int Go.IntKind.i64 1)) v27 (V.lit (Go.Value.int Go.IntKind.i64 1))).bind fun v28 =>
 JoinPt (fun vs29 =>
 (ldk (some 12) (List.drop 0 (aggL (List.getD vs29 0 V.any)))).bind fun v31 =>
 ((sem_wire_Encode n) [v31]).bind fun v32 =>
 (extractV v32 0).bind fun v33 =>
 (extractV v32 1).bind fun v34 =>
 (bin2 Tryd.prog BinOp.neq 31 (Operand.tmp 59) (Operand.const Go.Value.nilIface) v34 (V.lit Go.Value.nilIface)).bind fun v35 =>
 (guardV v35 false (some v33)).bind fun v36 =>
 (guardV v35 false ((ldp none (V.ptr v1)).bind fun v37 =>
 some v37)).bind fun v38 =>
 (guardV v35 false ((bin2 Tryd.prog BinOp.neq 9 (Operand.tmp 62) (Operand.tmp 63) v36 v38).bind fun v39 =>
 some v39)).bind fun v40 =>
 (pickV v35 (V.lit (Go.Value.bool Bool.true)) v40).bind fun v41 =>
 condV v41 (
 ((fillL [(V.lit (Go.Value.int Go.IntKind.i64 0)), (V.lit (Go.Value.int Go.IntKind.i64 0)), (V.lit (Go.Value.int Go.IntKind.i64 0)), (V.lit (Go.Value.int Go.IntKind.i64 0)), (V.lit (Go.Value.int Go.IntKind.i64 0)), (V.lit (Go.Value.bool Bool.false)), (V.lit (Go.Value.int Go.IntKind.i64 0)), (V.lit (Go.Value.int Go.IntKind.i64 0)), (V.lit (Go.Value.int Go.IntKind.i64 0)), (V.lit (Go.Value.int Go.IntKind.i64 0)), (V.lit (Go.Value.int Go.IntKind.i64 0)), (V.lit (Go.Value.int Go.IntKind.i64 0))] []).map V.agg).bind fun v42 =>
 (scal1 Tryd.prog (Instr.makeInterface 48) (V.lit (Go.Value.int Go.IntKind.i64 2))).bind fun v43 =>
 (spliceV [(V.lit (Go.Value.int Go.IntKind.i64 0)), (V.lit (Go.Value.int Go.IntKind.i64 0)), (V.lit (Go.Value.int Go.IntKind.i64 0)), (V.lit (Go.Value.int Go.IntKind.i64 0)), (V.lit (Go.Value.int Go.IntKind.i64 0)), (V.lit (Go.Value.bool Bool.false)), (V.lit (Go.Value.int Go.IntKind.i64 0)), (V.lit (Go.Value.int Go.IntKind.i64 0)), (V.lit (Go.Value.int Go.IntKind.i64 0)), (V.lit (Go.Value.int Go.IntKind.i64 0)), (V.lit (Go.Value.int Go.IntKind.i64 0)), (V.lit (Go.Value.int Go.IntKind.i64 0))] 0 12 v42).bind fun v44 =>
 (ldk (some 12) (List.drop 0 (aggL v44))).bind fun v45 =>
 some (V.tup [v45, v43])) (
 (ldk (some 12) (List.drop 0 (aggL (List.getD vs29 0 V.any)))).bind fun v46 =>
 (spliceV [(V.lit (Go.Value.int Go.IntKind.i64 0)), (V.lit (Go.Value.int Go.IntKind.i64 0)), (V.lit (Go.Value.int Go.IntKind.i64 0)), (V.lit (Go.Value.int Go.IntKind.i64 0)), (V.lit (Go.Value.int Go.IntKind.i64 0)), (V.lit (Go.Value.bool Bool.false)), (V.lit (Go.Value.int Go.IntKind.i64 0)), (V.lit (Go.Value.int Go.IntKind.i64 0)), (V.lit (Go.Value.int Go.IntKind.i64 0)), (V.lit (Go.Value.int Go.IntKind.i64 0)), (V.lit (Go.Value.int Go.IntKind.i64 0)), (V.lit (Go.Value.int Go.IntKind.i64 0))] 0 12 v46).bind fun v47 =>
 (ldk (some 12) (List.drop 0 (aggL v47))).bind fun v48 =>
 some (V.tup [v48, (V.lit Go.Value.nilIface)]))) fun J30 =>
 condV v28 (
 (ldk none (List.drop 1 (aggL v26))).bind fun v49 =>
 ((sem_wire_Decode_1 n) [(V.lit (Go.Value.int Go.IntKind.i64 4)), (V.ptr v1)]).bind fun v50 =>
 (bin2 Tryd.prog BinOp.eql 3 (Operand.tmp 36) (Operand.const (Go.Value.int Go.IntKind.i64 1)) v50 (V.lit (Go.Value.int Go.IntKind.i64 1))).bind fun v51 =>
 ((sem_wire_Decode_1 n) [(V.lit (Go.Value.int Go.IntKind.i64 5)), (V.ptr v1)]).bind fun v52 =>
 ((sem_wire_Decode_1 n) [(V.lit (Go.Value.int Go.IntKind.i64 6)), (V.ptr v1)]).bind fun v53 =>
 ((sem_wire_Decode_1 n) [(V.lit (Go.Value.int Go.IntKind.i64 7)), (V.ptr v1)]).bind fun v54 =>
 ((fillL [(V.lit (Go.Value.int Go.IntKind.i64 0)), (V.lit (Go.Value.int Go.IntKind.i64 0))] [(0, 1, v53), (1, 1, v54)]).map V.agg).bind fun v55 =>
 ((sem_wire_Decode_1 n) [(V.lit (Go.Value.int Go.IntKind.i64 8)), (V.ptr v1)]).bind fun v56 =>
 ((sem_wire_Decode_1 n) [(V.lit (Go.Value.int Go.IntKind.i64 9)), (V.ptr v1)]).bind fun v57 =>
 ((sem_wire_Decode_1 n) [(V.lit (Go.Value.int Go.IntKind.i64 10)), (V.ptr v1)]).bind fun v58 =>
 ((fillL [(V.lit (Go.Value.int Go.IntKind.i64 0)), (V.lit (Go.Value.int Go.IntKind.i64 0)), (V.lit (Go.Value.int Go.IntKind.i64 0)), (V.lit (Go.Value.int Go.IntKind.i64 0)), (V.lit (Go.Value.int Go.IntKind.i64 0)), (V.lit (Go.Value.int Go.IntKind.i64 0))] [(0, 1, v52), (1, 2, v55), (3, 1, v56), (4, 1, v57), (5, 1, v58)]).map V.agg).bind fun v59 =>
 ((fillL [(V.lit (Go.Value.int Go.IntKind.i64 0)), (V.lit (Go.Value.bool Bool.false)), (V.lit (Go.Value.int Go.IntKind.i64 0)), (V.lit (Go.Value.int Go.IntKind.i64 0)), (V.lit (Go.Value.int Go.IntKind.i64 0)), (V.lit (Go.Value.int Go.IntKind.i64 0)), (V.lit (Go.Value.int Go.IntKind.i64 0)), (V.lit (Go.Value.int Go.IntKind.i64 0))] [(0, 1, v49), (1, 1, v51), (2, 6, v59)]).map V.agg).bind fun v60 =>
 (spliceV (aggL v26) 4 8 v60).bind fun v61 =>
 (keepO (some [(V.lit (Go.Value.int Go.IntKind.i64 0)), (V.lit (Go.Value.int Go.IntKind.i64 0)), (V.lit (Go.Value.int Go.IntKind.i64 0)), (V.lit (Go.Value.int Go.IntKind.i64 0)), (V.lit (Go.Value.int Go.IntKind.i64 0)), (V.lit (Go.Value.bool Bool.false)), (V.lit (Go.Value.int Go.IntKind.i64 0)), (V.lit (Go.Value.int Go.IntKind.i64 0)), (V.lit (Go.Value.int Go.IntKind.i64 0)), (V.lit (Go.Value.int Go.IntKind.i64 0)), (V.lit (Go.Value.int Go.IntKind.i64 0)), (V.lit (Go.Value.int Go.IntKind.i64 0))]) (some [(V.lit (Go.Value.int Go.IntKind.i64 0)), (V.lit (Go.Value.int Go.IntKind.i64 0)), (V.lit (Go.Value.int Go.IntKind.i64 0)), (V.lit (Go.Value.int Go.IntKind.i64 0)), (V.lit (Go.Value.int Go.IntKind.i64 0)), (V.lit (Go.Value.bool Bool.false)), (V.lit (Go.Value.int Go.IntKind.i64 0)), (V.lit (Go.Value.int Go.IntKind.i64 0)), (V.lit (Go.Value.int Go.IntKind.i64 0)), (V.lit (Go.Value.int Go.IntKind.i64 0)), (V.lit (Go.Value.int Go.IntKind.i64 0)), (V.lit (Go.Value.int Go.IntKind.i64 0))]) (some [(V.agg (aggL v61))])).bind J30) (
 (keepO (some [(V.lit (Go.Value.int Go.IntKind.i64 0)), (V.lit (Go.Value.int Go.IntKind.i64 0)), (V.lit (Go.Value.int Go.IntKind.i64 0)), (V.lit (Go.Value.int Go.IntKind.i64 0)), (V.lit (Go.Value.int Go.IntKind.i64 0)), (V.lit (Go.Value.bool Bool.false)), (V.lit (Go.Value.int Go.IntKind.i64 0)), (V.lit (Go.Value.int Go.IntKind.i64 0)), (V.lit (Go.Value.int Go.IntKind.i64 0)), (V.lit (Go.Value.int Go.IntKind.i64 0)), (V.lit (Go.Value.int Go.IntKind.i64 0)), (V.lit (Go.Value.int Go.IntKind.i64 0))]) (some [(V.lit (Go.Value.int Go.IntKind.i64 0)), (V.lit (Go.Value.int Go.IntKind.i64 0)), (V.lit (Go.Value.int Go.IntKind.i64 0)), (V.lit (Go.Value.int Go.IntKind.i64 0)), (V.lit (Go.Value.int Go.IntKind.i64 0)), (V.lit (Go.Value.bool Bool.false)), (V.lit (Go.Value.int Go.IntKind.i64 0)), (V.lit (Go.Value.int Go.IntKind.i64 0)), (V.lit (Go.Value.int Go.IntKind.i64 0)), (V.lit (Go.Value.int Go.IntKind.i64 0)), (V.lit (Go.Value.int Go.IntKind.i64 0)), (V.lit (Go.Value.int Go.IntKind.i64 0))]) (some [(V.agg (aggL v26))])).bind J30)) := by kernel_rfl

end Go.Proofs.YtedgcbcphlonpaaDoor.Sem
