/- What functions do, as functions on plain trees, written by a program and checked by the kernel. -/
import Derived.Test.YtedgcbcphlonpaaDoorDenDoor
import Derived.Test.YtedgcbcphlonpaaDoorSpecW3
import Derived.Test.YtedgcbcphlonpaaDoorDenLib2
namespace Go.Proofs.YtedgcbcphlonpaaDoor.Sem
open Go Go.RowKit Go.Proofs.YtedgcbcphlonpaaDoor.Den
set_option linter.unusedVariables false
set_option maxRecDepth 100000

/-! railpoint/raillaw4.WireLong -/
def an_raillaw4_WireLong : Ann := .seq (.reg 0 [] [] []) (.seq (.reg 0 [] [] []) (.seq (.seq (.reg 0 [] [] []) (.cond none (.seq (.reg 0 [] [] []) (.no)) (.no))) (.seq (.reg 0 [] [] []) (.seq (.seq (.reg 0 [] [] []) (.cond none (.seq (.reg 0 [] [] []) (.no)) (.no))) (.seq (.reg 0 [] [] []) (.seq (.seq (.reg 0 [] [] []) (.cond (some [.s 11]) (.reg 0 [] [] []) (.no))) (.seq (.seq (.reg 0 [] [] []) (.cond none (.seq (.reg 0 [] [] []) (.no)) (.no))) (.seq (.seq (.reg 0 [] [] []) (.cond none (.seq (.reg 0 [] [] []) (.no)) (.no))) (.seq (.reg 0 [] [] [60]) (.seq (.reg 0 [] [] []) (.seq (.reg 0 [] [] []) (.seq (.reg 0 [] [] []) (.no)))))))))))))
noncomputable def sem_raillaw4_WireLong (n : Nat) (xs : List V) : Option V := if xs.length ≤ 73 then denF Tryd.prog (envOf [(5, (sem_wire_Encode n)), (6, (sem_wire_Decode n)), (7, (sem_Error n))]) n Tryd.f3 an_raillaw4_WireLong xs else none
theorem ok_raillaw4_WireLong (n : Nat) : SemOk Tryd.prog DW 3 (sem_raillaw4_WireLong n) := fun xs y h => by
  unfold sem_raillaw4_WireLong at h
  split at h
  · rename_i hl
    exact denF_ok stb Tryd.func3 (by kernel_rfl) (envOf_ok (semsOk_cons (ok_wire_Encode n) (semsOk_cons (ok_wire_Decode n) (semsOk_cons (ok_Error n) semsOk_nil)))) (by rw [Tryd.ntmps3]; exact hl) h
  · cases h
theorem eq_raillaw4_WireLong (n : Nat) (x0 x1 x2 : V) : sem_raillaw4_WireLong n [x0, x1, x2] =
 (V.cellsO x0).bind fun v1 =>
 ((fillL [(V.lit (Go.Value.int Go.IntKind.i64 0)), (V.lit (Go.Value.int Go.IntKind.i64 0)), (V.lit (Go.Value.int Go.IntKind.i64 0)), (V.lit (Go.Value.int Go.IntKind.i64 0)), (V.lit (Go.Value.int Go.IntKind.i64 0)), (V.lit (Go.Value.bool Bool.false)), (V.lit (Go.Value.int Go.IntKind.i64 0)), (V.lit (Go.Value.int Go.IntKind.i64 0)), (V.lit (Go.Value.int Go.IntKind.i64 0)), (V.lit (Go.Value.int Go.IntKind.i64 0)), (V.lit (Go.Value.int Go.IntKind.i64 0)), (V.lit (Go.Value.int Go.IntKind.i64 0))] [(0, 1, (V.lit (Go.Value.int Go.IntKind.i64 2))), (1, 1, (V.lit (Go.Value.int Go.IntKind.i64 1)))]).map V.agg).bind fun v2 =>
 ((sem_wire_Encode n) [v2]).bind fun v3 =>
 (extractV v3 0).bind fun v4 =>
 (extractV v3 1).bind fun v5 =>
 (bin2 Tryd.prog BinOp.neq 31 (Operand.tmp 20) (Operand.const Go.Value.nilIface) v5 (V.lit Go.Value.nilIface)).bind fun v6 =>
 (guardV v6 false (some v4)).bind fun v7 =>
 (guardV v6 false ((lenT [v7]).bind fun v8 =>
 some v8)).bind fun v9 =>
 (guardV v6 false ((bin2 Tryd.prog BinOp.neq 3 (Operand.tmp 24) (Operand.const (Go.Value.int Go.IntKind.i64 5)) v9 (V.lit (Go.Value.int Go.IntKind.i64 5))).bind fun v10 =>
 some v10)).bind fun v11 =>
 (pickV v6 (V.lit (Go.Value.bool Bool.true)) v11).bind fun v12 =>
 condV v12 (
 some (V.lit (Go.Value.bool Bool.false))) (
 (ldk (some 12) (List.drop 0 v1)).bind fun v13 =>
 ((sem_wire_Encode n) [v13]).bind fun v14 =>
 (extractV v14 0).bind fun v15 =>
 (extractV v14 1).bind fun v16 =>
 (bin2 Tryd.prog BinOp.neq 31 (Operand.tmp 32) (Operand.const Go.Value.nilIface) v16 (V.lit Go.Value.nilIface)).bind fun v17 =>
 condV v17 (
 some (V.lit (Go.Value.bool Bool.true))) (
 (ldk none (List.drop 0 v1)).bind fun v18 =>
 (bin2 Tryd.prog BinOp.eql 3 (Operand.tmp 35) (Operand.const (Go.Value.int Go.IntKind.i64 1)) v18 (V.lit (Go.Value.int Go.IntKind.i64 1))).bind fun v19 =>
 JoinPt (fun vs20 =>
 (lenT [v15]).bind fun v22 =>
 (bin2 Tryd.prog BinOp.neq 3 (Operand.tmp 38) (Operand.tmp 39) v22 (List.getD vs20 0 V.any)).bind fun v23 =>
 condV v23 (
 some (V.lit (Go.Value.bool Bool.false))) (
 (bin2 Tryd.prog BinOp.lss 3 (Operand.tmp 41) (Operand.const (Go.Value.int Go.IntKind.i64 1)) x1 (V.lit (Go.Value.int Go.IntKind.i64 1))).bind fun v24 =>
 (guardV v24 false (some x1)).bind fun v25 =>
 (guardV v24 false (some (List.getD vs20 0 V.any))).bind fun v26 =>
 (guardV v24 false ((bin2 Tryd.prog BinOp.geq 3 (Operand.tmp 44) (Operand.tmp 45) v25 v26).bind fun v27 =>
 some v27)).bind fun v28 =>
 (pickV v24 (V.lit (Go.Value.bool Bool.true)) v28).bind fun v29 =>
 (guardV v29 false (some v15)).bind fun v30 =>
 (guardV v29 false (some x1)).bind fun v31 =>
 (guardV v29 false ((scal2 Tryd.prog (Instr.index 9) v30 v31).bind fun v32 =>
 some v32)).bind fun v33 =>
 (guardV v29 false (some x2)).bind fun v34 =>
 (guardV v29 false ((bin2 Tryd.prog BinOp.eql 5 (Operand.tmp 51) (Operand.tmp 52) v33 v34).bind fun v35 =>
 some v35)).bind fun v36 =>
 (pickV v29 (V.lit (Go.Value.bool Bool.true)) v36).bind fun v37 =>
 (guardV v37 false (some x2)).bind fun v38 =>
 (guardV v37 false ((bin2 Tryd.prog BinOp.gtr 5 (Operand.tmp 56) (Operand.const (Go.Value.int Go.IntKind.u8 250)) v38 (V.lit (Go.Value.int Go.IntKind.u8 250))).bind fun v39 =>
 some v39)).bind fun v40 =>
 (pickV v37 (V.lit (Go.Value.bool Bool.true)) v40).bind fun v41 =>
 condV v41 (
 some (V.lit (Go.Value.bool Bool.true))) (
 (s2bT v15).bind fun v42 =>
 ((oslR v42).bind fun rows43 => inB (List.length rows43) x1).bind fun v44 =>
 (V.cellsO x2).bind fun v45 =>
 (setV v42 [] (Stp.mk (some (natOf x1)) 0 1) 1 v45).bind fun v46 =>
 ((oslR v46).bind fun rows47 => b2s (V.sl rows47)).bind fun v48 =>
 ((sem_wire_Decode n) [v48]).bind fun v49 =>
 (extractV v49 0).bind fun v50 =>
 (extractV v49 1).bind fun v51 =>
 (spliceV [(V.lit (Go.Value.int Go.IntKind.i64 0)), (V.lit (Go.Value.int Go.IntKind.i64 0)), (V.lit (Go.Value.int Go.IntKind.i64 0)), (V.lit (Go.Value.int Go.IntKind.i64 0)), (V.lit (Go.Value.int Go.IntKind.i64 0)), (V.lit (Go.Value.bool Bool.false)), (V.lit (Go.Value.int Go.IntKind.i64 0)), (V.lit (Go.Value.int Go.IntKind.i64 0)), (V.lit (Go.Value.int Go.IntKind.i64 0)), (V.lit (Go.Value.int Go.IntKind.i64 0)), (V.lit (Go.Value.int Go.IntKind.i64 0)), (V.lit (Go.Value.int Go.IntKind.i64 0))] 0 12 v50).bind fun v52 =>
 ((sem_Error n) [v51, (V.lit (Go.Value.int Go.IntKind.i64 2))]).bind fun v53 =>
 some v53))) fun J21 =>
 condV v19 (
 J21 [(V.lit (Go.Value.int Go.IntKind.i64 12))]) (
 J21 [(V.lit (Go.Value.int Go.IntKind.i64 5))]))) := by kernel_rfl

end Go.Proofs.YtedgcbcphlonpaaDoor.Sem
