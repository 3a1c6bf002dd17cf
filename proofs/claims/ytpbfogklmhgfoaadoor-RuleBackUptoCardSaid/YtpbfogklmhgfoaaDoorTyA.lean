/- What functions do, as functions on plain types, written by a program and checked by the kernel. -/
import Derived.Test.YtpbfogklmhgfoaaDoorDenNums
import Derived.Test.YtpbfogklmhgfoaaDoorTy
import Derived.Test.YtpbfogklmhgfoaaDoorTyT
import Derived.Test.YtpbfogklmhgfoaaDoorTyO
import Derived.Test.YtpbfogklmhgfoaaDoorTyN
import Derived.Test.YtpbfogklmhgfoaaDoorTyM
import Derived.Test.YtpbfogklmhgfoaaDoorTyR
import Derived.Test.YtpbfogklmhgfoaaDoorDen14
import Derived.Test.YtpbfogklmhgfoaaDoorClone
import Derived.Test.YtpbfogklmhgfoaaDoorShelfT
import Derived.Test.YtpbfogklmhgfoaaDoorNumber
namespace Go.Proofs.YtpbfogklmhgfoaaDoor.Ty
open Go Go.RowKit Go.Proofs.YtpbfogklmhgfoaaDoor.Den
set_option linter.unusedVariables false
set_option maxRecDepth 100000

/-! railpoint/cube.Parse -/
def an_cube_Parse : Ann := .seq (.reg 0 [] [] []) (.seq (.reg 0 [] [] []) (.seq (.seq (.reg 0 [] [] []) (.cond none (.seq (.reg 0 [] [] []) (.no)) (.no))) (.seq (.seq (.reg 0 [] [] []) (.blk (some [.b 2, .b 4]) (.loop [.b 2, .b 4, .s 15] (.seq (.reg 0 [] [] []) (.seq (.cond none (.no) (.no)) (.seq (.blk none (.seq (.reg 0 [] [] []) (.seq (.reg 0 [] [] []) (.seq (.reg 0 [] [] []) (.blk none (.seq (.reg 0 [] [] []) (.cond (some [.b 2, .b 4]) (.reg 0 [] [] []) (.seq (.reg 0 [] [] []) (.cond (some [.b 2, .b 4]) (.reg 0 [] [] []) (.seq (.reg 0 [] [] []) (.cond none (.no) (.seq (.reg 0 [] [] []) (.no))))))))))))) (.reg 0 [] [] []))))))) (.seq (.reg 0 [] [] []) (.no)))))
noncomputable def sem_cube_Parse (n : Nat) (xs : List V) : Option V := if xs.length ≤ 50 then denF Tryd.prog (envOf []) n Tryd.f18 an_cube_Parse xs else none
theorem ok_cube_Parse (n : Nat) : SemOk Tryd.prog DW 18 (sem_cube_Parse n) := fun xs y h => by
  unfold sem_cube_Parse at h
  split at h
  · rename_i hl
    exact denF_ok stb Tryd.func18 (by kernel_rfl) (envOf_ok semsOk_nil) (by rw [Tryd.ntmps18]; exact hl) h
  · cases h
theorem eq_cube_Parse (n : Nat) (x0 : V) : sem_cube_Parse n [x0] =
 (lenT [x0]).bind fun v1 =>
 (bin2 Tryd.prog BinOp.neq 3 (ot 8) (oc 4) v1 (vi 4)).bind fun v2 =>
 condV v2 (
 (ldk (some 2) (List.drop 0 [(vi 0), (vi 0)])).bind fun v3 =>
 (scal1 Tryd.prog (Instr.makeInterface 42) (vi 2)).bind fun v4 =>
 (spliceV [(vi 0), (vi 0)] 0 2 v3).bind fun v5 =>
 (ldk (some 2) (List.drop 0 (aggL v5))).bind fun v6 =>
 some (V.tup [v6, v4])) (
 (s2b x0).bind fun v7 =>
 (lenS [v7]).bind fun v8 =>
 JoinPt (fun vs9 =>
 (ldk (some 2) (List.drop 0 (aggL (List.getD vs9 1 V.any)))).bind fun v11 =>
 (spliceV (aggL (List.getD vs9 0 V.any)) 0 2 v11).bind fun v12 =>
 (ldk (some 2) (List.drop 0 (aggL v12))).bind fun v13 =>
 some (V.tup [v13, vn])) fun J10 =>
 (fixN (fun rec14 vs15 =>
 (bin2 Tryd.prog BinOp.lss 3 (ot 15) (ot 14) (List.getD vs15 2 V.any) v8).bind fun v16 =>
 condV v16 (
 (idxS 1 v7 (List.getD vs15 2 V.any)).bind fun v17 =>
 (ldp none v17).bind fun v18 =>
 (ldk none (List.drop 0 (aggL (List.getD vs15 1 V.any)))).bind fun v19 =>
 (bin2 Tryd.prog BinOp.shl 3 (ot 20) (Operand.const (Go.Value.int Go.IntKind.u64 1)) v19 (V.lit (Go.Value.int Go.IntKind.u64 1))).bind fun v20 =>
 (ldk none (List.drop 1 (aggL (List.getD vs15 1 V.any)))).bind fun v21 =>
 (bin2 Tryd.prog BinOp.shl 3 (ot 23) (Operand.const (Go.Value.int Go.IntKind.u64 1)) v21 (V.lit (Go.Value.int Go.IntKind.u64 1))).bind fun v22 =>
 (spliceV (aggL (List.getD vs15 1 V.any)) 0 1 v20).bind fun v23 =>
 (spliceV (aggL v23) 1 1 v22).bind fun v24 =>
 (bin2 Tryd.prog BinOp.eql 5 (ot 27) (Operand.const (Go.Value.int Go.IntKind.u8 49)) v18 (V.lit (Go.Value.int Go.IntKind.u8 49))).bind fun v25 =>
 JoinPt (fun vs26 =>
 (bin2 Tryd.prog BinOp.add 3 (ot 15) (oc 1) (List.getD vs15 2 V.any) (vi 1)).bind fun v28 =>
 rec14 [(V.agg (aggL (List.getD vs26 0 V.any))), (V.agg (aggL (List.getD vs26 1 V.any))), v28]) fun J27 =>
 condV v25 (
 (ldk none (List.drop 0 (aggL v24))).bind fun v29 =>
 (bin2 Tryd.prog BinOp.or 3 (ot 33) (oc 1) v29 (vi 1)).bind fun v30 =>
 (ldk none (List.drop 1 (aggL v24))).bind fun v31 =>
 (bin2 Tryd.prog BinOp.or 3 (ot 36) (oc 1) v31 (vi 1)).bind fun v32 =>
 (spliceV (aggL v24) 0 1 v30).bind fun v33 =>
 (spliceV (aggL v33) 1 1 v32).bind fun v34 =>
 J27 [(V.agg (aggL (List.getD vs15 0 V.any))), (V.agg (aggL v34))]) (
 (bin2 Tryd.prog BinOp.eql 5 (ot 27) (Operand.const (Go.Value.int Go.IntKind.u8 48)) v18 (V.lit (Go.Value.int Go.IntKind.u8 48))).bind fun v35 =>
 JoinPt (fun vs36 =>
 J27 [(V.agg (aggL (List.getD vs36 0 V.any))), (V.agg (aggL (List.getD vs36 1 V.any)))]) fun J37 =>
 condV v35 (
 (ldk none (List.drop 0 (aggL v24))).bind fun v38 =>
 (bin2 Tryd.prog BinOp.or 3 (ot 43) (oc 1) v38 (vi 1)).bind fun v39 =>
 (spliceV (aggL v24) 0 1 v39).bind fun v40 =>
 J37 [(V.agg (aggL (List.getD vs15 0 V.any))), (V.agg (aggL v40))]) (
 (bin2 Tryd.prog BinOp.eql 5 (ot 27) (Operand.const (Go.Value.int Go.IntKind.u8 42)) v18 (V.lit (Go.Value.int Go.IntKind.u8 42))).bind fun v41 =>
 condV v41 (
 J37 [(V.agg (aggL (List.getD vs15 0 V.any))), (V.agg (aggL v24))]) (
 ((fillL [(vi 0), (vi 0)] []).map V.agg).bind fun v42 =>
 (scal1 Tryd.prog (Instr.makeInterface 42) (vi 2)).bind fun v43 =>
 (spliceV (aggL (List.getD vs15 0 V.any)) 0 2 v42).bind fun v44 =>
 (ldk (some 2) (List.drop 0 (aggL v44))).bind fun v45 =>
 some (V.tup [v45, v43]))))) (
 J10 [(V.agg (aggL (List.getD vs15 0 V.any))), (V.agg (aggL (List.getD vs15 1 V.any)))])) n) [(V.agg [(vi 0), (vi 0)]), (V.agg [(vi 0), (vi 0)]), (vi 0)]) := by kernel_rfl
noncomputable def t_cube_Parse (a0 : ByteArray) : Option (T_Cube × Int) :=
 if (decide ((a0.size : Int) ≠ 4)) = true then (
 some ((T_Cube.mk 0 0), 2)) else (
 need (decide ((a0.size : Int) ≤ maxI)) (
 join (fun (s12 : (T_Cube × T_Cube)) =>
 some (s12.2, 0)) fun j13 =>
 loopI (numsOf a0) (fun (i24 : Int) x25 (s20 : (T_Cube × T_Cube)) k21 =>
 join (fun (s41 : (T_Cube × T_Cube)) =>
 k21 (s41.1, s41.2)) fun j42 =>
 if (decide (x25 = 49)) = true then (
 j42 (s20.1, (T_Cube.mk (bits .or .i64 (wr (s20.2.Mask * 2 ^ (min (Int.toNat 1) 64))) 1) (bits .or .i64 (wr (s20.2.Bits * 2 ^ (min (Int.toNat 1) 64))) 1)))) else (
 join (fun (s55 : (T_Cube × T_Cube)) =>
 j42 (s55.1, s55.2)) fun j56 =>
 if (decide (x25 = 48)) = true then (
 j56 (s20.1, (T_Cube.mk (bits .or .i64 (wr (s20.2.Mask * 2 ^ (min (Int.toNat 1) 64))) 1) (wr (s20.2.Bits * 2 ^ (min (Int.toNat 1) 64)))))) else (
 if (decide (x25 = 42)) = true then (
 j56 (s20.1, (T_Cube.mk (wr (s20.2.Mask * 2 ^ (min (Int.toNat 1) 64))) (wr (s20.2.Bits * 2 ^ (min (Int.toNat 1) 64)))))) else (
 some ((T_Cube.mk 0 0), 2))))) (fun (s20 : (T_Cube × T_Cube)) =>
 j13 (s20.1, s20.2)) ((T_Cube.mk 0 0), (T_Cube.mk 0 0))))
theorem ty_cube_Parse {n : Nat} (hn : bigN ≤ n) (a0 : ByteArray) : Rv (fun x : (T_Cube × Int) => V.tup [(T_Cube.e x.1), (eV x.2)]) (sem_cube_Parse n [(vt a0)]) (t_cube_Parse a0) := by
  rw [eq_cube_Parse]
  unfold t_cube_Parse
  refine tb (x := (vi (a0.size : Int))) (rfl) ?_
  refine tb (x := (vb (decide ((a0.size : Int) ≠ 4)))) (d_neq) ?_
  refine tcond (fun h3 => ?_) (fun h3 => ?_)
  · refine tb (x := (T_Cube.e (T_Cube.mk 0 0))) (rfl) ?_
    refine tb (x := (eV 2)) (p_mkE (by decide)) ?_
    refine tb (x := V.agg (T_Cube.c (T_Cube.mk 0 0))) (by kernel_rfl) ?_
    refine tb (x := (T_Cube.e (T_Cube.mk 0 0))) rfl ?_
    exact rf_ret rfl
  · refine tneed (x := (V.sl (List.map cY (numsOf a0)))) (fun h71 => p_s2b h71) fun h71 => ?_
    refine tb (x := (vi (List.length (numsOf a0) : Int))) (p_len _) ?_
    refine tjoin (mk := fun s12 : (T_Cube × T_Cube) => [(V.agg (T_Cube.c s12.1)), (V.agg (T_Cube.c s12.2))]) (fun s12 => ?_) fun J11 j13 h14 => ?_
    · refine tb (x := (T_Cube.e s12.2)) (rfl) ?_
      refine tb (x := V.agg (T_Cube.c s12.2)) (by kernel_rfl) ?_
      refine tb (x := (T_Cube.e s12.2)) rfl ?_
      exact rf_ret rfl
    · refine rf_loopI (mk := fun (i24 : Int) (s20 : (T_Cube × T_Cube)) => [(V.agg (T_Cube.c s20.1)), (V.agg (T_Cube.c s20.2)), (vi (i24 : Int))]) hn (numsOf a0) ((T_Cube.mk 0 0), (T_Cube.mk 0 0)) (fun i24 x25 h26 h27 h28 s20 rec18 k21 h22 => ?_) (fun s20 rec69 h68 => ?_)
      · refine tb (x := (vb (decide ((i24 : Int) < (List.length (numsOf a0) : Int))))) (d_lss) ?_
        refine tcond_t h28 ?_
        refine tb (x := (V.ptr [(V.lit (.int .u8 x25))])) (p_idx_at (c := cY) (fun _ => rfl) h26) ?_
        refine tb (x := (V.lit (.int .u8 x25))) (rfl) ?_
        refine tb (x := (vi s20.2.Mask)) (rfl) ?_
        refine tb (x := (vi (wr (s20.2.Mask * 2 ^ (min (Int.toNat 1) 64))))) (p_shl (b := 1) (by decide)) ?_
        refine tb (x := (vi s20.2.Bits)) (rfl) ?_
        refine tb (x := (vi (wr (s20.2.Bits * 2 ^ (min (Int.toNat 1) 64))))) (p_shl (b := 1) (by decide)) ?_
        refine tb (x := V.agg (T_Cube.c (T_Cube.mk (wr (s20.2.Mask * 2 ^ (min (Int.toNat 1) 64))) s20.2.Bits))) (by kernel_rfl) ?_
        refine tb (x := V.agg (T_Cube.c (T_Cube.mk (wr (s20.2.Mask * 2 ^ (min (Int.toNat 1) 64))) (wr (s20.2.Bits * 2 ^ (min (Int.toNat 1) 64)))))) (by kernel_rfl) ?_
        refine tb (x := (vb (decide (x25 = 49)))) (q_eql) ?_
        refine tjoin (mk := fun s41 : (T_Cube × T_Cube) => [(V.agg (T_Cube.c s41.1)), (V.agg (T_Cube.c s41.2))]) (fun s41 => ?_) fun J40 j42 h43 => ?_
        · refine tb (x := (vi ((i24 : Int) + 1))) (p_incN h27) ?_
          exact h22 (s41.1, s41.2)
        · refine tcond (fun h45 => ?_) (fun h45 => ?_)
          · refine tb (x := (vi (wr (s20.2.Mask * 2 ^ (min (Int.toNat 1) 64))))) (rfl) ?_
            refine tb (x := (vi (bits .or .i64 (wr (s20.2.Mask * 2 ^ (min (Int.toNat 1) 64))) 1))) (d_or) ?_
            refine tb (x := (vi (wr (s20.2.Bits * 2 ^ (min (Int.toNat 1) 64))))) (rfl) ?_
            refine tb (x := (vi (bits .or .i64 (wr (s20.2.Bits * 2 ^ (min (Int.toNat 1) 64))) 1))) (d_or) ?_
            refine tb (x := V.agg (T_Cube.c (T_Cube.mk (bits .or .i64 (wr (s20.2.Mask * 2 ^ (min (Int.toNat 1) 64))) 1) (wr (s20.2.Bits * 2 ^ (min (Int.toNat 1) 64)))))) (by kernel_rfl) ?_
            refine tb (x := V.agg (T_Cube.c (T_Cube.mk (bits .or .i64 (wr (s20.2.Mask * 2 ^ (min (Int.toNat 1) 64))) 1) (bits .or .i64 (wr (s20.2.Bits * 2 ^ (min (Int.toNat 1) 64))) 1)))) (by kernel_rfl) ?_
            exact h43 (s20.1, (T_Cube.mk (bits .or .i64 (wr (s20.2.Mask * 2 ^ (min (Int.toNat 1) 64))) 1) (bits .or .i64 (wr (s20.2.Bits * 2 ^ (min (Int.toNat 1) 64))) 1)))
          · refine tb (x := (vb (decide (x25 = 48)))) (q_eql) ?_
            refine tjoin (mk := fun s55 : (T_Cube × T_Cube) => [(V.agg (T_Cube.c s55.1)), (V.agg (T_Cube.c s55.2))]) (fun s55 => ?_) fun J54 j56 h57 => ?_
            · exact h43 (s55.1, s55.2)
            · refine tcond (fun h58 => ?_) (fun h58 => ?_)
              · refine tb (x := (vi (wr (s20.2.Mask * 2 ^ (min (Int.toNat 1) 64))))) (rfl) ?_
                refine tb (x := (vi (bits .or .i64 (wr (s20.2.Mask * 2 ^ (min (Int.toNat 1) 64))) 1))) (d_or) ?_
                refine tb (x := V.agg (T_Cube.c (T_Cube.mk (bits .or .i64 (wr (s20.2.Mask * 2 ^ (min (Int.toNat 1) 64))) 1) (wr (s20.2.Bits * 2 ^ (min (Int.toNat 1) 64)))))) (by kernel_rfl) ?_
                exact h57 (s20.1, (T_Cube.mk (bits .or .i64 (wr (s20.2.Mask * 2 ^ (min (Int.toNat 1) 64))) 1) (wr (s20.2.Bits * 2 ^ (min (Int.toNat 1) 64)))))
              · refine tb (x := (vb (decide (x25 = 42)))) (q_eql) ?_
                refine tcond (fun h63 => ?_) (fun h63 => ?_)
                · exact h57 (s20.1, (T_Cube.mk (wr (s20.2.Mask * 2 ^ (min (Int.toNat 1) 64))) (wr (s20.2.Bits * 2 ^ (min (Int.toNat 1) 64)))))
                · refine tb (x := (T_Cube.e (T_Cube.mk 0 0))) (by kernel_rfl) ?_
                  refine tb (x := (eV 2)) (p_mkE (by decide)) ?_
                  refine tb (x := V.agg (T_Cube.c (T_Cube.mk 0 0))) (by kernel_rfl) ?_
                  refine tb (x := (T_Cube.e (T_Cube.mk 0 0))) rfl ?_
                  exact rf_ret rfl
      · refine tb (x := (vb (decide ((List.length (numsOf a0) : Int) < (List.length (numsOf a0) : Int))))) (d_lss) ?_
        refine tcond_f h68 ?_
        exact h14 (s20.1, s20.2)

/-! railpoint/rule.read -/
def an_rule_read : Ann := .seq (.reg 0 [] [] []) (.seq (.reg 0 [] [] []) (.seq (.seq (.reg 0 [] [] []) (.cond none (.seq (.reg 0 [] [] []) (.no)) (.no))) (.seq (.reg 0 [] [] []) (.seq (.reg 0 [] [] []) (.seq (.reg 10 [7] [] []) (.seq (.seq (.reg 0 [] [] []) (.cond none (.seq (.reg 0 [] [] []) (.no)) (.no))) (.seq (.seq (.reg 0 [] [] []) (.cond none (.seq (.reg 0 [] [] []) (.no)) (.no))) (.seq (.seq (.reg 0 [] [] []) (.cond none (.seq (.reg 0 [] [] []) (.no)) (.no))) (.seq (.seq (.reg 0 [] [] []) (.seq (.reg 0 [] [] []) (.cond none (.seq (.reg 0 [] [] []) (.no)) (.no)))) (.seq (.seq (.reg 0 [] [] []) (.cond none (.seq (.reg 0 [] [] []) (.seq (.reg 24 [9] [] []) (.seq (.reg 16399 [] [] []) (.no)))) (.no))) (.seq (.reg 0 [] [] []) (.no))))))))))))
noncomputable def sem_rule_read (n : Nat) (xs : List V) : Option V := if xs.length ≤ 110 then denF Tryd.prog (envOf [(17, (sem_Number)), (18, (sem_cube_Parse n))]) n Tryd.f8 an_rule_read xs else none
theorem ok_rule_read (n : Nat) : SemOk Tryd.prog DW 8 (sem_rule_read n) := fun xs y h => by
  unfold sem_rule_read at h
  split at h
  · rename_i hl
    exact denF_ok stb Tryd.func8 (by kernel_rfl) (envOf_ok (semsOk_cons (ok_Number) (semsOk_cons (ok_cube_Parse n) semsOk_nil))) (by rw [Tryd.ntmps8]; exact hl) h
  · cases h
theorem eq_rule_read (n : Nat) (x0 : V) : sem_rule_read n [x0] =
 (lenS [x0]).bind fun v1 =>
 (bin2 Tryd.prog BinOp.lss 3 (ot 12) (oc 3) v1 (vi 3)).bind fun v2 =>
 condV v2 (
 (ldk (some 6) (List.drop 0 [(vi 0), (vi 0), (vi 0), (vi 0), (vi 0), (vi 0)])).bind fun v3 =>
 (spliceV [(vi 0), (vi 0), (vi 0), (vi 0), (vi 0), (vi 0)] 0 6 v3).bind fun v4 =>
 (ldk (some 6) (List.drop 0 (aggL v4))).bind fun v5 =>
 some (V.tup [v5, (vb false)])) (
 (idxS 1 x0 (vi 0)).bind fun v6 =>
 (ldp none v6).bind fun v7 =>
 ((sem_Number) [v7]).bind fun v8 =>
 (extractV v8 0).bind fun v9 =>
 (extractV v8 1).bind fun v10 =>
 (idxS 1 x0 (vi 1)).bind fun v11 =>
 (ldp none v11).bind fun v12 =>
 ((sem_cube_Parse n) [v12]).bind fun v13 =>
 (extractV v13 0).bind fun v14 =>
 (extractV v13 1).bind fun v15 =>
 (spliceV [(vi 0), (vi 0)] 0 2 v14).bind fun v16 =>
 (ldp (some 2) (V.ptr (aggL v16))).bind fun v17 =>
 (litV v17).bind fun v18 =>
 (spliceV [(vi 0), (vi 0), (vi 0), (vi 0), (vi 0), (vi 0)] 0 1 v9).bind fun v19 =>
 (spliceV (aggL v19) 1 2 v18).bind fun v20 =>
 (scal1 Tryd.prog (Op.unary Go.UnOp.not) v10).bind fun v21 =>
 (guardV v21 false (some v15)).bind fun v22 =>
 (guardV v21 false ((bin2 Tryd.prog BinOp.neq 29 (ot 36) (Operand.const Go.Value.nilIface) v22 vn).bind fun v23 =>
 some v23)).bind fun v24 =>
 (pickV v21 (vb true) v24).bind fun v25 =>
 condV v25 (
 (ldk (some 6) (List.drop 0 (aggL v20))).bind fun v26 =>
 (spliceV [(vi 0), (vi 0), (vi 0), (vi 0), (vi 0), (vi 0)] 0 6 v26).bind fun v27 =>
 (ldk (some 6) (List.drop 0 (aggL v27))).bind fun v28 =>
 some (V.tup [v28, (vb false)])) (
 (idxS 1 x0 (vi 2)).bind fun v29 =>
 (ldp none v29).bind fun v30 =>
 (bin2 Tryd.prog BinOp.eql 9 (ot 42) (Operand.const (Go.Value.string (ByteArray.mk #[100, 114, 111, 112]))) v30 (V.lit (Go.Value.string (ByteArray.mk #[100, 114, 111, 112])))).bind fun v31 =>
 condV v31 (
 (ldk (some 6) (List.drop 0 (aggL v20))).bind fun v32 =>
 (lenS [x0]).bind fun v33 =>
 (bin2 Tryd.prog BinOp.eql 3 (ot 46) (oc 3) v33 (vi 3)).bind fun v34 =>
 (spliceV [(vi 0), (vi 0), (vi 0), (vi 0), (vi 0), (vi 0)] 0 6 v32).bind fun v35 =>
 (ldk (some 6) (List.drop 0 (aggL v35))).bind fun v36 =>
 some (V.tup [v36, v34])) (
 (idxS 1 x0 (vi 2)).bind fun v37 =>
 (ldp none v37).bind fun v38 =>
 (bin2 Tryd.prog BinOp.neq 9 (ot 50) (Operand.const (Go.Value.string (ByteArray.mk #[111, 117, 116]))) v38 (V.lit (Go.Value.string (ByteArray.mk #[111, 117, 116])))).bind fun v39 =>
 (guardV v39 false (some x0)).bind fun v40 =>
 (guardV v39 false ((lenS [v40]).bind fun v41 =>
 some v41)).bind fun v42 =>
 (guardV v39 false ((bin2 Tryd.prog BinOp.neq 3 (ot 54) (oc 4) v42 (vi 4)).bind fun v43 =>
 some v43)).bind fun v44 =>
 (guardV v39 false (some v44)).bind fun v45 =>
 (guardV v45 true (some x0)).bind fun v46 =>
 (guardV v45 true ((lenS [v46]).bind fun v47 =>
 some v47)).bind fun v48 =>
 (guardV v45 true ((bin2 Tryd.prog BinOp.neq 3 (ot 58) (oc 6) v48 (vi 6)).bind fun v49 =>
 some v49)).bind fun v50 =>
 (guardV v39 false ((pickV v45 v50 (vb false)).bind fun v51 =>
 some v51)).bind fun v52 =>
 (pickV v39 (vb true) v52).bind fun v53 =>
 condV v53 (
 (ldk (some 6) (List.drop 0 (aggL v20))).bind fun v54 =>
 (spliceV [(vi 0), (vi 0), (vi 0), (vi 0), (vi 0), (vi 0)] 0 6 v54).bind fun v55 =>
 (ldk (some 6) (List.drop 0 (aggL v55))).bind fun v56 =>
 some (V.tup [v56, (vb false)])) (
 (idxS 1 x0 (vi 3)).bind fun v57 =>
 (ldp none v57).bind fun v58 =>
 ((sem_Number) [v58]).bind fun v59 =>
 (extractV v59 0).bind fun v60 =>
 (extractV v59 1).bind fun v61 =>
 (spliceV (aggL v20) 3 1 v60).bind fun v62 =>
 (scal1 Tryd.prog (Op.unary Go.UnOp.not) v61).bind fun v63 =>
 (guardV v63 false (some V.any)).bind fun v64 =>
 (guardV v63 false ((gate v63 false (ldk none (List.drop 3 (aggL v62)))).bind fun v65 =>
 some v65)).bind fun v66 =>
 (guardV v63 false ((bin2 Tryd.prog BinOp.eql 3 (ot 75) (oc 0) v66 (vi 0)).bind fun v67 =>
 some v67)).bind fun v68 =>
 (pickV v63 (vb true) v68).bind fun v69 =>
 condV v69 (
 (ldk (some 6) (List.drop 0 (aggL v62))).bind fun v70 =>
 (spliceV [(vi 0), (vi 0), (vi 0), (vi 0), (vi 0), (vi 0)] 0 6 v70).bind fun v71 =>
 (ldk (some 6) (List.drop 0 (aggL v71))).bind fun v72 =>
 some (V.tup [v72, (vb false)])) (
 (lenS [x0]).bind fun v73 =>
 (bin2 Tryd.prog BinOp.eql 3 (ot 80) (oc 6) v73 (vi 6)).bind fun v74 =>
 condV v74 (
 (idxS 1 x0 (vi 5)).bind fun v75 =>
 (ldp none v75).bind fun v76 =>
 ((sem_cube_Parse n) [v76]).bind fun v77 =>
 (extractV v77 0).bind fun v78 =>
 (extractV v77 1).bind fun v79 =>
 (spliceV [(vi 0), (vi 0)] 0 2 v78).bind fun v80 =>
 (ptrF 0 (V.ptr (aggL v80))).bind fun v81 =>
 (ldp none v81).bind fun v82 =>
 (litV v82).bind fun v83 =>
 (ptrF 1 (V.ptr (aggL v80))).bind fun v84 =>
 (ldp none v84).bind fun v85 =>
 (litV v85).bind fun v86 =>
 (spliceV (aggL v62) 4 1 v83).bind fun v87 =>
 (spliceV (aggL v87) 5 1 v86).bind fun v88 =>
 (idxS 1 x0 (vi 4)).bind fun v89 =>
 (ldp none v89).bind fun v90 =>
 (litV v90).bind fun v91 =>
 (bin2 Tryd.prog BinOp.eql 9 (ot 98) (Operand.const (Go.Value.string (ByteArray.mk #[115, 101, 116]))) v91 (V.lit (Go.Value.string (ByteArray.mk #[115, 101, 116])))).bind fun v92 =>
 (litV v92).bind fun v93 =>
 (guardV v93 true (some v79)).bind fun v94 =>
 (guardV v93 true ((bin2 Tryd.prog BinOp.eql 29 (ot 101) (Operand.const Go.Value.nilIface) v94 vn).bind fun v95 =>
 (litV v95).bind fun v96 =>
  some v96)).bind fun v97 =>
 (pickV v93 v97 (vb false)).bind fun v98 =>
 (guardV v98 true ((ptrF 0 (V.ptr (aggL v80))).bind fun v99 =>
 some v99)).bind fun v100 =>
 (guardV v98 true ((ldp none v100).bind fun v101 =>
 (litV v101).bind fun v102 =>
  some v102)).bind fun v103 =>
 (guardV v98 true ((bin2 Tryd.prog BinOp.neq 3 (ot 106) (oc 0) v103 (vi 0)).bind fun v104 =>
 (litV v104).bind fun v105 =>
  some v105)).bind fun v106 =>
 (pickV v98 v106 (vb false)).bind fun v107 =>
 (ldk (some 6) (List.drop 0 (aggL v88))).bind fun v108 =>
 (spliceV [(vi 0), (vi 0), (vi 0), (vi 0), (vi 0), (vi 0)] 0 6 v108).bind fun v109 =>
 (ldk (some 6) (List.drop 0 (aggL v109))).bind fun v110 =>
 some (V.tup [v110, v107])) (
 (ldk (some 6) (List.drop 0 (aggL v62))).bind fun v111 =>
 (spliceV [(vi 0), (vi 0), (vi 0), (vi 0), (vi 0), (vi 0)] 0 6 v111).bind fun v112 =>
 (ldk (some 6) (List.drop 0 (aggL v112))).bind fun v113 =>
 some (V.tup [v113, (vb true)]))))))) := by kernel_rfl
noncomputable def t_rule_read (a0 : (List ByteArray)) : Option (T_Rule × Bool) :=
 if (decide ((List.length a0 : Int) < 3)) = true then (
 some ((T_Rule.mk 0 (T_Cube.mk 0 0) 0 0 0), false)) else (
 (idx a0 0).bind fun r8 =>
 (t_rule_Number r8).bind fun r11 =>
 (idx a0 1).bind fun r15 =>
 (t_cube_Parse r15).bind fun r18 =>
 if ((!r11.2) || (!decide (r18.2 = 0))) = true then (
 some ((T_Rule.mk r11.1 r18.1 0 0 0), false)) else (
 (idx a0 2).bind fun r38 =>
 if (decide (r38 = (ByteArray.mk #[100, 114, 111, 112]))) = true then (
 some ((T_Rule.mk r11.1 r18.1 0 0 0), (decide ((List.length a0 : Int) = 3)))) else (
 (idx a0 2).bind fun r48 =>
 if ((!decide (r48 = (ByteArray.mk #[111, 117, 116]))) || ((decide ((List.length a0 : Int) ≠ 4)) && (decide ((List.length a0 : Int) ≠ 6)))) = true then (
 some ((T_Rule.mk r11.1 r18.1 0 0 0), false)) else (
 (idx a0 3).bind fun r78 =>
 (t_rule_Number r78).bind fun r81 =>
 if ((!r81.2) || (decide (r81.1 = 0))) = true then (
 some ((T_Rule.mk r11.1 r18.1 r81.1 0 0), false)) else (
 if (decide ((List.length a0 : Int) = 6)) = true then (
 (idx a0 5).bind fun r103 =>
 (t_cube_Parse r103).bind fun r106 =>
 (idx a0 4).bind fun r119 =>
 some ((T_Rule.mk r11.1 r18.1 r81.1 r106.1.Mask r106.1.Bits), (((decide (r119 = (ByteArray.mk #[115, 101, 116]))) && (decide (r106.2 = 0))) && (decide (r106.1.Mask ≠ 0))))) else (
 some ((T_Rule.mk r11.1 r18.1 r81.1 0 0), true)))))))
theorem ty_rule_read {n : Nat} (hn : bigN ≤ n) (a0 : (List ByteArray)) : Rv (fun x : (T_Rule × Bool) => V.tup [(T_Rule.e x.1), (vb x.2)]) (sem_rule_read n [(V.sl (List.map cT a0))]) (t_rule_read a0) := by
  rw [eq_rule_read]
  unfold t_rule_read
  refine tb (x := (vi (List.length a0 : Int))) (p_len _) ?_
  refine tb (x := (vb (decide ((List.length a0 : Int) < 3)))) (d_lss) ?_
  refine tcond (fun h3 => ?_) (fun h3 => ?_)
  · refine tb (x := (T_Rule.e (T_Rule.mk 0 (T_Cube.mk 0 0) 0 0 0))) (rfl) ?_
    refine tb (x := V.agg (T_Rule.c (T_Rule.mk 0 (T_Cube.mk 0 0) 0 0 0))) (by kernel_rfl) ?_
    refine tb (x := (T_Rule.e (T_Rule.mk 0 (T_Cube.mk 0 0) 0 0 0))) rfl ?_
    exact rf_ret rfl
  · refine tbo (p_idx (c := cT) (fun _ => rfl) a0 0) fun r8 => ?_
    refine tb (x := (vt r8)) (rfl) ?_
    refine tbo (ty_rule_Number r8) fun r11 => ?_
    refine tb (x := (vi r11.1)) (rfl) ?_
    refine tb (x := (vb r11.2)) (rfl) ?_
    refine tbo (p_idx (c := cT) (fun _ => rfl) a0 1) fun r15 => ?_
    refine tb (x := (vt r15)) (rfl) ?_
    refine tbo (ty_cube_Parse hn r15) fun r18 => ?_
    refine tb (x := (T_Cube.e r18.1)) (rfl) ?_
    refine tb (x := (eV r18.2)) (rfl) ?_
    refine tb (x := V.agg (T_Cube.c r18.1)) (by kernel_rfl) ?_
    refine tb (x := (T_Cube.e r18.1)) (rfl) ?_
    refine tb (x := (T_Cube.e r18.1)) rfl ?_
    refine tb (x := V.agg (T_Rule.c (T_Rule.mk r11.1 (T_Cube.mk 0 0) 0 0 0))) (by kernel_rfl) ?_
    refine tb (x := V.agg (T_Rule.c (T_Rule.mk r11.1 r18.1 0 0 0))) (by kernel_rfl) ?_
    refine tb (x := (vb (!r11.2))) (d_not) ?_
    refine tg_f (x := (eV r18.2)) (fun h27 => rfl) ?_
    refine tg_f (x := (vb (!decide (r18.2 = 0)))) (fun h29 => by simp only [gv_t h29]; exact bind_some_eq (p_err_neq _)) ?_
    refine tb (x := (vb ((!r11.2) || (!decide (r18.2 = 0))))) (pick_or (fun h9 => gv_t (not_f h9))) ?_
    refine tcond (fun h33 => ?_) (fun h33 => ?_)
    · refine tb (x := (T_Rule.e (T_Rule.mk r11.1 r18.1 0 0 0))) (rfl) ?_
      refine tb (x := V.agg (T_Rule.c (T_Rule.mk r11.1 r18.1 0 0 0))) (by kernel_rfl) ?_
      refine tb (x := (T_Rule.e (T_Rule.mk r11.1 r18.1 0 0 0))) rfl ?_
      exact rf_ret rfl
    · refine tbo (p_idx (c := cT) (fun _ => rfl) a0 2) fun r38 => ?_
      refine tb (x := (vt r38)) (rfl) ?_
      refine tb (x := (vb (decide (r38 = (ByteArray.mk #[100, 114, 111, 112]))))) (p_eql_str) ?_
      refine tcond (fun h41 => ?_) (fun h41 => ?_)
      · refine tb (x := (T_Rule.e (T_Rule.mk r11.1 r18.1 0 0 0))) (rfl) ?_
        refine tb (x := (vi (List.length a0 : Int))) (p_len _) ?_
        refine tb (x := (vb (decide ((List.length a0 : Int) = 3)))) (d_eql) ?_
        refine tb (x := V.agg (T_Rule.c (T_Rule.mk r11.1 r18.1 0 0 0))) (by kernel_rfl) ?_
        refine tb (x := (T_Rule.e (T_Rule.mk r11.1 r18.1 0 0 0))) rfl ?_
        exact rf_ret rfl
      · refine tbo (p_idx (c := cT) (fun _ => rfl) a0 2) fun r48 => ?_
        refine tb (x := (vt r48)) (rfl) ?_
        refine tb (x := (vb (!decide (r48 = (ByteArray.mk #[111, 117, 116]))))) (p_neq_str) ?_
        refine tg_f (x := (V.sl (List.map cT a0))) (fun h51 => rfl) ?_
        refine tg_f (x := (vi (List.length a0 : Int))) (fun h53 => by simp only [gv_t h53]; exact bind_some_eq (p_len _)) ?_
        refine tg_f (x := (vb (decide ((List.length a0 : Int) ≠ 4)))) (fun h56 => by simp only [gv_t h56]; exact bind_some_eq (d_neq)) ?_
        refine tg_f (x := (vb (decide ((List.length a0 : Int) ≠ 4)))) (fun h59 => congrArg some (gv_t h59)) ?_
        refine tg2 (x := (V.sl (List.map cT a0))) (fun h61 => rfl) ?_
        refine tg2 (x := (vi (List.length a0 : Int))) (fun h63 => by simp only [gv_t h63]; exact bind_some_eq (p_len _)) ?_
        refine tg2 (x := (vb (decide ((List.length a0 : Int) ≠ 6)))) (fun h66 => by simp only [gv_t h66]; exact bind_some_eq (d_neq)) ?_
        refine tg_f (x := (vb ((decide ((List.length a0 : Int) ≠ 4)) && (decide ((List.length a0 : Int) ≠ 6))))) (fun h69 => by simp only [gv_t h69]; exact bind_some_eq (pick_and (fun h9 => gv_t (and_i h69 h9)))) ?_
        refine tb (x := (vb ((!decide (r48 = (ByteArray.mk #[111, 117, 116]))) || ((decide ((List.length a0 : Int) ≠ 4)) && (decide ((List.length a0 : Int) ≠ 6)))))) (pick_or (fun h9 => gv_t (not_f h9))) ?_
        refine tcond (fun h73 => ?_) (fun h73 => ?_)
        · refine tb (x := (T_Rule.e (T_Rule.mk r11.1 r18.1 0 0 0))) (rfl) ?_
          refine tb (x := V.agg (T_Rule.c (T_Rule.mk r11.1 r18.1 0 0 0))) (by kernel_rfl) ?_
          refine tb (x := (T_Rule.e (T_Rule.mk r11.1 r18.1 0 0 0))) rfl ?_
          exact rf_ret rfl
        · refine tbo (p_idx (c := cT) (fun _ => rfl) a0 3) fun r78 => ?_
          refine tb (x := (vt r78)) (rfl) ?_
          refine tbo (ty_rule_Number r78) fun r81 => ?_
          refine tb (x := (vi r81.1)) (rfl) ?_
          refine tb (x := (vb r81.2)) (rfl) ?_
          refine tb (x := V.agg (T_Rule.c (T_Rule.mk r11.1 r18.1 r81.1 0 0))) (by kernel_rfl) ?_
          refine tb (x := (vb (!r81.2))) (d_not) ?_
          refine tg_f (x := V.any) (fun h86 => rfl) ?_
          refine tg_f (x := (vi r81.1)) (fun h88 => bind_some_eq (gate_pos (not_t h88) (rfl))) ?_
          refine tg_f (x := (vb (decide (r81.1 = 0)))) (fun h91 => by simp only [gv_t h91]; exact bind_some_eq (d_eql)) ?_
          refine tb (x := (vb ((!r81.2) || (decide (r81.1 = 0))))) (pick_or (fun h9 => gv_t (not_f h9))) ?_
          refine tcond (fun h95 => ?_) (fun h95 => ?_)
          · refine tb (x := (T_Rule.e (T_Rule.mk r11.1 r18.1 r81.1 0 0))) (rfl) ?_
            refine tb (x := V.agg (T_Rule.c (T_Rule.mk r11.1 r18.1 r81.1 0 0))) (by kernel_rfl) ?_
            refine tb (x := (T_Rule.e (T_Rule.mk r11.1 r18.1 r81.1 0 0))) rfl ?_
            exact rf_ret rfl
          · refine tb (x := (vi (List.length a0 : Int))) (p_len _) ?_
            refine tb (x := (vb (decide ((List.length a0 : Int) = 6)))) (d_eql) ?_
            refine tcond (fun h101 => ?_) (fun h101 => ?_)
            · refine tbo (p_idx (c := cT) (fun _ => rfl) a0 5) fun r103 => ?_
              refine tb (x := (vt r103)) (rfl) ?_
              refine tbo (ty_cube_Parse hn r103) fun r106 => ?_
              refine tb (x := (T_Cube.e r106.1)) (rfl) ?_
              refine tb (x := (eV r106.2)) (rfl) ?_
              refine tb (x := V.agg (T_Cube.c r106.1)) (by kernel_rfl) ?_
              refine tb (x := (V.ptr (T_Cube.c r106.1))) (rfl) ?_
              refine tb (x := (vi r106.1.Mask)) (rfl) ?_
              refine tb (x := (vi r106.1.Mask)) rfl ?_
              refine tb (x := (V.ptr (List.drop 1 (T_Cube.c r106.1)))) (rfl) ?_
              refine tb (x := (vi r106.1.Bits)) (rfl) ?_
              refine tb (x := (vi r106.1.Bits)) rfl ?_
              refine tb (x := V.agg (T_Rule.c (T_Rule.mk r11.1 r18.1 r81.1 r106.1.Mask 0))) (by kernel_rfl) ?_
              refine tb (x := V.agg (T_Rule.c (T_Rule.mk r11.1 r18.1 r81.1 r106.1.Mask r106.1.Bits))) (by kernel_rfl) ?_
              refine tbo (p_idx (c := cT) (fun _ => rfl) a0 4) fun r119 => ?_
              refine tb (x := (vt r119)) (rfl) ?_
              refine tb (x := (vt r119)) rfl ?_
              refine tb (x := (vb (decide (r119 = (ByteArray.mk #[115, 101, 116]))))) (p_eql_str) ?_
              refine tb (x := (vb (decide (r119 = (ByteArray.mk #[115, 101, 116]))))) rfl ?_
              refine tg (x := (eV r106.2)) (fun h124 => rfl) ?_
              refine tg (x := (vb (decide (r106.2 = 0)))) (fun h126 => by simp only [gv_t h126]; exact bind_lit_eq (p_err_eql _) rfl) ?_
              refine tb (x := (vb ((decide (r119 = (ByteArray.mk #[115, 101, 116]))) && (decide (r106.2 = 0))))) (pick_and (fun h9 => gv_t h9)) ?_
              refine tg (x := (V.ptr (T_Cube.c r106.1))) (fun h131 => bind_some_eq (rfl)) ?_
              refine tg (x := (vi r106.1.Mask)) (fun h134 => by first | exact bind_lit_eq (rfl) rfl | (simp only [gv_t h134]; exact bind_lit_eq (rfl) rfl)) ?_
              refine tg (x := (vb (decide (r106.1.Mask ≠ 0)))) (fun h138 => by simp only [gv_t h138]; exact bind_lit_eq (d_neq) rfl) ?_
              refine tb (x := (vb (((decide (r119 = (ByteArray.mk #[115, 101, 116]))) && (decide (r106.2 = 0))) && (decide (r106.1.Mask ≠ 0))))) (pick_and (fun h9 => gv_t h9)) ?_
              refine tb (x := (T_Rule.e (T_Rule.mk r11.1 r18.1 r81.1 r106.1.Mask r106.1.Bits))) (rfl) ?_
              refine tb (x := V.agg (T_Rule.c (T_Rule.mk r11.1 r18.1 r81.1 r106.1.Mask r106.1.Bits))) (by kernel_rfl) ?_
              refine tb (x := (T_Rule.e (T_Rule.mk r11.1 r18.1 r81.1 r106.1.Mask r106.1.Bits))) rfl ?_
              exact rf_ret rfl
            · refine tb (x := (T_Rule.e (T_Rule.mk r11.1 r18.1 r81.1 0 0))) (rfl) ?_
              refine tb (x := V.agg (T_Rule.c (T_Rule.mk r11.1 r18.1 r81.1 0 0))) (by kernel_rfl) ?_
              refine tb (x := (T_Rule.e (T_Rule.mk r11.1 r18.1 r81.1 0 0))) rfl ?_
              exact rf_ret rfl

/-! railpoint/cube.Header -/
def an_cube_Header : Ann := .seq (.reg 0 [] [] []) (.seq (.reg 0 [] [] []) (.no))
noncomputable def sem_cube_Header (n : Nat) (xs : List V) : Option V := if xs.length ≤ 9 then denF Tryd.prog (envOf []) n Tryd.f14 an_cube_Header xs else none
theorem ok_cube_Header (n : Nat) : SemOk Tryd.prog DW 14 (sem_cube_Header n) := fun xs y h => by
  unfold sem_cube_Header at h
  split at h
  · rename_i hl
    exact denF_ok stb Tryd.func14 (by kernel_rfl) (envOf_ok semsOk_nil) (by rw [Tryd.ntmps14]; exact hl) h
  · cases h
theorem eq_cube_Header (n : Nat) (x0 : V) : sem_cube_Header n [x0] =
 (bin2 Tryd.prog BinOp.geq 3 (ot 3) (oc 0) x0 (vi 0)).bind fun v1 =>
 (guardV v1 true (some x0)).bind fun v2 =>
 (guardV v1 true ((bin2 Tryd.prog BinOp.lss 3 (ot 6) (oc 16) v2 (vi 16)).bind fun v3 =>
 some v3)).bind fun v4 =>
 (pickV v1 v4 (vb false)).bind fun v5 =>
 some v5 := by kernel_rfl
noncomputable def t_cube_Header (a0 : Int) : Option Bool :=
 some ((decide (0 ≤ a0)) && (decide (a0 < 16)))
theorem ty_cube_Header {n : Nat} (hn : bigN ≤ n) (a0 : Int) : Rv (fun x : Bool => (vb x)) (sem_cube_Header n [(vi a0)]) (t_cube_Header a0) := by
  rw [eq_cube_Header]
  unfold t_cube_Header
  refine tb (x := (vb (decide (0 ≤ a0)))) (d_geq) ?_
  refine tg (x := (vi a0)) (fun h2 => rfl) ?_
  refine tg (x := (vb (decide (a0 < 16)))) (fun h4 => by simp only [gv_t h4]; exact bind_some_eq (d_lss)) ?_
  refine tb (x := (vb ((decide (0 ≤ a0)) && (decide (a0 < 16))))) (pick_and (fun h9 => gv_t h9)) ?_
  exact rf_ret rfl

/-! railpoint/cube.Check -/
def an_cube_Check : Ann := .seq (.reg 0 [] [] []) (.seq (.blk none (.seq (.reg 0 [] [] []) (.cond none (.seq (.reg 0 [] [] []) (.no)) (.seq (.reg 0 [] [] []) (.cond none (.seq (.reg 0 [] [] []) (.no)) (.no)))))) (.seq (.reg 0 [] [] []) (.no)))
noncomputable def sem_cube_Check (n : Nat) (xs : List V) : Option V := if xs.length ≤ 23 then denF Tryd.prog (envOf [(14, (sem_cube_Header n))]) n Tryd.f16 an_cube_Check xs else none
theorem ok_cube_Check (n : Nat) : SemOk Tryd.prog DW 16 (sem_cube_Check n) := fun xs y h => by
  unfold sem_cube_Check at h
  split at h
  · rename_i hl
    exact denF_ok stb Tryd.func16 (by kernel_rfl) (envOf_ok (semsOk_cons (ok_cube_Header n) semsOk_nil)) (by rw [Tryd.ntmps16]; exact hl) h
  · cases h
theorem eq_cube_Check (n : Nat) (x0 : V) : sem_cube_Check n [x0] =
 (V.cellsO x0).bind fun v1 =>
 (ldk none (List.drop 0 v1)).bind fun v2 =>
 ((sem_cube_Header n) [v2]).bind fun v3 =>
 (scal1 Tryd.prog (Op.unary Go.UnOp.not) v3).bind fun v4 =>
 (guardV v4 false (some V.any)).bind fun v5 =>
 (guardV v4 false ((gate v4 false (ldk none (List.drop 1 v1))).bind fun v6 =>
 some v6)).bind fun v7 =>
 (guardV v4 false (((sem_cube_Header n) [v7]).bind fun v8 =>
 some v8)).bind fun v9 =>
 (guardV v4 false ((scal1 Tryd.prog (Op.unary Go.UnOp.not) v9).bind fun v10 =>
 some v10)).bind fun v11 =>
 (pickV v4 (vb true) v11).bind fun v12 =>
 condV v12 (
 (scal1 Tryd.prog (Instr.makeInterface 42) (vi 1)).bind fun v13 =>
 some v13) (
 (ldk none (List.drop 1 v1)).bind fun v14 =>
 (ldk none (List.drop 0 v1)).bind fun v15 =>
 (bin2 Tryd.prog BinOp.andNot 3 (ot 17) (ot 19) v14 v15).bind fun v16 =>
 (bin2 Tryd.prog BinOp.neq 3 (ot 20) (oc 0) v16 (vi 0)).bind fun v17 =>
 condV v17 (
 (scal1 Tryd.prog (Instr.makeInterface 42) (vi 3)).bind fun v18 =>
 some v18) (
 some vn)) := by kernel_rfl
noncomputable def t_cube_Check (a0 : T_Cube) : Option Int :=
 (t_cube_Header a0.Mask).bind fun r4 =>
 (gd (!(!r4)) default (t_cube_Header a0.Bits)).bind fun r14 =>
 if ((!r4) || (!r14)) = true then (
 some 1) else (
 if (decide ((bits .andNot .i64 a0.Bits a0.Mask) ≠ 0)) = true then (
 some 3) else (
 some 0))
theorem ty_cube_Check {n : Nat} (hn : bigN ≤ n) (a0 : T_Cube) : Rv (fun x : Int => (eV x)) (sem_cube_Check n [(T_Cube.e a0)]) (t_cube_Check a0) := by
  rw [eq_cube_Check]
  unfold t_cube_Check
  refine tb (x := (T_Cube.c a0)) rfl ?_
  refine tb (x := (vi a0.Mask)) (rfl) ?_
  refine tbo (ty_cube_Header hn a0.Mask) fun r4 => ?_
  refine tb (x := (vb (!r4))) (d_not) ?_
  refine tg_f (x := V.any) (fun h6 => rfl) ?_
  refine tg_f (x := (vi a0.Bits)) (fun h8 => bind_some_eq (gate_pos (not_t h8) (rfl))) ?_
  refine tgo_f (fun h11 => by simp only [gv_t h11]; exact rf_bind_some (ty_cube_Header hn a0.Bits)) fun r14 => ?_
  refine tg_f (x := (vb (!r14))) (fun h15 => by simp only [gv_t h15]; exact bind_some_eq (d_not)) ?_
  refine tb (x := (vb ((!r4) || (!r14)))) (pick_or (fun h9 => gv_t (not_f h9))) ?_
  refine tcond (fun h19 => ?_) (fun h19 => ?_)
  · refine tb (x := (eV 1)) (p_mkE (by decide)) ?_
    exact rf_ret rfl
  · refine tb (x := (vi a0.Bits)) (rfl) ?_
    refine tb (x := (vi a0.Mask)) (rfl) ?_
    refine tb (x := (vi (bits .andNot .i64 a0.Bits a0.Mask))) (d_andNot) ?_
    refine tb (x := (vb (decide ((bits .andNot .i64 a0.Bits a0.Mask) ≠ 0)))) (d_neq) ?_
    refine tcond (fun h25 => ?_) (fun h25 => ?_)
    · refine tb (x := (eV 3)) (p_mkE (by decide)) ?_
      exact rf_ret rfl
    · exact rf_ret rfl

/-! railpoint/rule.Check -/
def an_rule_Check : Ann := .seq (.reg 0 [] [] []) (.seq (.seq (.reg 0 [] [] []) (.cond none (.seq (.reg 0 [] [] []) (.no)) (.no))) (.seq (.seq (.reg 0 [] [] []) (.seq (.reg 0 [] [] []) (.cond none (.seq (.reg 0 [] [] []) (.no)) (.no)))) (.seq (.seq (.reg 0 [] [] []) (.cond none (.seq (.reg 0 [] [] []) (.no)) (.no))) (.seq (.reg 0 [] [] []) (.no)))))
noncomputable def sem_rule_Check (n : Nat) (xs : List V) : Option V := if xs.length ≤ 58 then denF Tryd.prog (envOf [(14, (sem_cube_Header n)), (16, (sem_cube_Check n))]) n Tryd.f10 an_rule_Check xs else none
theorem ok_rule_Check (n : Nat) : SemOk Tryd.prog DW 10 (sem_rule_Check n) := fun xs y h => by
  unfold sem_rule_Check at h
  split at h
  · rename_i hl
    exact denF_ok stb Tryd.func10 (by kernel_rfl) (envOf_ok (semsOk_cons (ok_cube_Header n) (semsOk_cons (ok_cube_Check n) semsOk_nil))) (by rw [Tryd.ntmps10]; exact hl) h
  · cases h
theorem eq_rule_Check (n : Nat) (x0 : V) : sem_rule_Check n [x0] =
 (V.cellsO x0).bind fun v1 =>
 (ldk none (List.drop 0 v1)).bind fun v2 =>
 (bin2 Tryd.prog BinOp.lss 3 (ot 5) (oc 0) v2 (vi 0)).bind fun v3 =>
 (guardV v3 false (some V.any)).bind fun v4 =>
 (guardV v3 false ((gate v3 false (ldk none (List.drop 0 v1))).bind fun v5 =>
 some v5)).bind fun v6 =>
 (guardV v3 false ((bin2 Tryd.prog BinOp.gtr 3 (ot 9) (oc 99) v6 (vi 99)).bind fun v7 =>
 some v7)).bind fun v8 =>
 (pickV v3 (vb true) v8).bind fun v9 =>
 (guardV v9 false (some V.any)).bind fun v10 =>
 (guardV v9 false ((gate v9 false (ldk none (List.drop 3 v1))).bind fun v11 =>
 some v11)).bind fun v12 =>
 (guardV v9 false ((bin2 Tryd.prog BinOp.lss 3 (ot 14) (oc 0) v12 (vi 0)).bind fun v13 =>
 some v13)).bind fun v14 =>
 (pickV v9 (vb true) v14).bind fun v15 =>
 (guardV v15 false (some V.any)).bind fun v16 =>
 (guardV v15 false ((gate v15 false (ldk none (List.drop 3 v1))).bind fun v17 =>
 some v17)).bind fun v18 =>
 (guardV v15 false ((bin2 Tryd.prog BinOp.gtr 3 (ot 19) (oc 4) v18 (vi 4)).bind fun v19 =>
 some v19)).bind fun v20 =>
 (pickV v15 (vb true) v20).bind fun v21 =>
 (guardV v21 false (some V.any)).bind fun v22 =>
 (guardV v21 false ((gate v21 false (ldk none (List.drop 4 v1))).bind fun v23 =>
 some v23)).bind fun v24 =>
 (guardV v21 false (((sem_cube_Header n) [v24]).bind fun v25 =>
 some v25)).bind fun v26 =>
 (guardV v21 false ((scal1 Tryd.prog (Op.unary Go.UnOp.not) v26).bind fun v27 =>
 some v27)).bind fun v28 =>
 (pickV v21 (vb true) v28).bind fun v29 =>
 (guardV v29 false (some V.any)).bind fun v30 =>
 (guardV v29 false ((gate v29 false (ldk none (List.drop 5 v1))).bind fun v31 =>
 some v31)).bind fun v32 =>
 (guardV v29 false (((sem_cube_Header n) [v32]).bind fun v33 =>
 some v33)).bind fun v34 =>
 (guardV v29 false ((scal1 Tryd.prog (Op.unary Go.UnOp.not) v34).bind fun v35 =>
 some v35)).bind fun v36 =>
 (pickV v29 (vb true) v36).bind fun v37 =>
 condV v37 (
 (scal1 Tryd.prog (Instr.makeInterface 42) (vi 1)).bind fun v38 =>
 some v38) (
 (ldk (some 2) (List.drop 1 v1)).bind fun v39 =>
 ((sem_cube_Check n) [v39]).bind fun v40 =>
 (bin2 Tryd.prog BinOp.neq 29 (ot 38) (Operand.const Go.Value.nilIface) v40 vn).bind fun v41 =>
 condV v41 (
 some v40) (
 (ldk none (List.drop 5 v1)).bind fun v42 =>
 (ldk none (List.drop 4 v1)).bind fun v43 =>
 (bin2 Tryd.prog BinOp.andNot 3 (ot 42) (ot 44) v42 v43).bind fun v44 =>
 (bin2 Tryd.prog BinOp.neq 3 (ot 45) (oc 0) v44 (vi 0)).bind fun v45 =>
 (guardV v45 false (some V.any)).bind fun v46 =>
 (guardV v45 false ((gate v45 false (ldk none (List.drop 3 v1))).bind fun v47 =>
 some v47)).bind fun v48 =>
 (guardV v45 false ((bin2 Tryd.prog BinOp.eql 3 (ot 49) (oc 0) v48 (vi 0)).bind fun v49 =>
 some v49)).bind fun v50 =>
 (guardV v45 false (some v50)).bind fun v51 =>
 (guardV v51 true (some V.any)).bind fun v52 =>
 (guardV v51 true ((gate v51 true (ldk none (List.drop 4 v1))).bind fun v53 =>
 some v53)).bind fun v54 =>
 (guardV v51 true ((bin2 Tryd.prog BinOp.neq 3 (ot 53) (oc 0) v54 (vi 0)).bind fun v55 =>
 some v55)).bind fun v56 =>
 (guardV v45 false ((pickV v51 v56 (vb false)).bind fun v57 =>
 some v57)).bind fun v58 =>
 (pickV v45 (vb true) v58).bind fun v59 =>
 condV v59 (
 (scal1 Tryd.prog (Instr.makeInterface 42) (vi 3)).bind fun v60 =>
 some v60) (
 some vn))) := by kernel_rfl
noncomputable def t_rule_Check (a0 : T_Rule) : Option Int :=
 (gd (!((((decide (a0.Prio < 0)) || (decide (99 < a0.Prio))) || (decide (a0.Out < 0))) || (decide (4 < a0.Out)))) default (t_cube_Header a0.Set)).bind fun r39 =>
 (gd (!(((((decide (a0.Prio < 0)) || (decide (99 < a0.Prio))) || (decide (a0.Out < 0))) || (decide (4 < a0.Out))) || (!r39))) default (t_cube_Header a0.Value)).bind fun r52 =>
 if ((((((decide (a0.Prio < 0)) || (decide (99 < a0.Prio))) || (decide (a0.Out < 0))) || (decide (4 < a0.Out))) || (!r39)) || (!r52)) = true then (
 some 1) else (
 (t_cube_Check a0.Cube).bind fun r61 =>
 if (!decide (r61 = 0)) = true then (
 some r61) else (
 if ((decide ((bits .andNot .i64 a0.Value a0.Set) ≠ 0)) || ((decide (a0.Out = 0)) && (decide (a0.Set ≠ 0)))) = true then (
 some 3) else (
 some 0)))
theorem ty_rule_Check {n : Nat} (hn : bigN ≤ n) (a0 : T_Rule) : Rv (fun x : Int => (eV x)) (sem_rule_Check n [(T_Rule.e a0)]) (t_rule_Check a0) := by
  rw [eq_rule_Check]
  unfold t_rule_Check
  refine tb (x := (T_Rule.c a0)) rfl ?_
  refine tb (x := (vi a0.Prio)) (rfl) ?_
  refine tb (x := (vb (decide (a0.Prio < 0)))) (d_lss) ?_
  refine tg_f (x := V.any) (fun h4 => rfl) ?_
  refine tg_f (x := (vi a0.Prio)) (fun h6 => bind_some_eq (gate_pos (not_t h6) (rfl))) ?_
  refine tg_f (x := (vb (decide (99 < a0.Prio)))) (fun h9 => by simp only [gv_t h9]; exact bind_some_eq (d_gtr)) ?_
  refine tb (x := (vb ((decide (a0.Prio < 0)) || (decide (99 < a0.Prio))))) (pick_or (fun h9 => gv_t (not_f h9))) ?_
  refine tg_f (x := V.any) (fun h13 => rfl) ?_
  refine tg_f (x := (vi a0.Out)) (fun h15 => bind_some_eq (gate_pos (not_t h15) (rfl))) ?_
  refine tg_f (x := (vb (decide (a0.Out < 0)))) (fun h18 => by simp only [gv_t h18]; exact bind_some_eq (d_lss)) ?_
  refine tb (x := (vb (((decide (a0.Prio < 0)) || (decide (99 < a0.Prio))) || (decide (a0.Out < 0))))) (pick_or (fun h9 => gv_t (not_f h9))) ?_
  refine tg_f (x := V.any) (fun h22 => rfl) ?_
  refine tg_f (x := (vi a0.Out)) (fun h24 => bind_some_eq (gate_pos (not_t h24) (rfl))) ?_
  refine tg_f (x := (vb (decide (4 < a0.Out)))) (fun h27 => by simp only [gv_t h27]; exact bind_some_eq (d_gtr)) ?_
  refine tb (x := (vb ((((decide (a0.Prio < 0)) || (decide (99 < a0.Prio))) || (decide (a0.Out < 0))) || (decide (4 < a0.Out))))) (pick_or (fun h9 => gv_t (not_f h9))) ?_
  refine tg_f (x := V.any) (fun h31 => rfl) ?_
  refine tg_f (x := (vi a0.Set)) (fun h33 => bind_some_eq (gate_pos (not_t h33) (rfl))) ?_
  refine tgo_f (fun h36 => by simp only [gv_t h36]; exact rf_bind_some (ty_cube_Header hn a0.Set)) fun r39 => ?_
  refine tg_f (x := (vb (!r39))) (fun h40 => by simp only [gv_t h40]; exact bind_some_eq (d_not)) ?_
  refine tb (x := (vb (((((decide (a0.Prio < 0)) || (decide (99 < a0.Prio))) || (decide (a0.Out < 0))) || (decide (4 < a0.Out))) || (!r39)))) (pick_or (fun h9 => gv_t (not_f h9))) ?_
  refine tg_f (x := V.any) (fun h44 => rfl) ?_
  refine tg_f (x := (vi a0.Value)) (fun h46 => bind_some_eq (gate_pos (not_t h46) (rfl))) ?_
  refine tgo_f (fun h49 => by simp only [gv_t h49]; exact rf_bind_some (ty_cube_Header hn a0.Value)) fun r52 => ?_
  refine tg_f (x := (vb (!r52))) (fun h53 => by simp only [gv_t h53]; exact bind_some_eq (d_not)) ?_
  refine tb (x := (vb ((((((decide (a0.Prio < 0)) || (decide (99 < a0.Prio))) || (decide (a0.Out < 0))) || (decide (4 < a0.Out))) || (!r39)) || (!r52)))) (pick_or (fun h9 => gv_t (not_f h9))) ?_
  refine tcond (fun h57 => ?_) (fun h57 => ?_)
  · refine tb (x := (eV 1)) (p_mkE (by decide)) ?_
    exact rf_ret rfl
  · refine tb (x := (T_Cube.e a0.Cube)) (rfl) ?_
    refine tbo (ty_cube_Check hn a0.Cube) fun r61 => ?_
    refine tb (x := (vb (!decide (r61 = 0)))) (p_err_neq _) ?_
    refine tcond (fun h63 => ?_) (fun h63 => ?_)
    · exact rf_ret rfl
    · refine tb (x := (vi a0.Value)) (rfl) ?_
      refine tb (x := (vi a0.Set)) (rfl) ?_
      refine tb (x := (vi (bits .andNot .i64 a0.Value a0.Set))) (d_andNot) ?_
      refine tb (x := (vb (decide ((bits .andNot .i64 a0.Value a0.Set) ≠ 0)))) (d_neq) ?_
      refine tg_f (x := V.any) (fun h68 => rfl) ?_
      refine tg_f (x := (vi a0.Out)) (fun h70 => bind_some_eq (gate_pos (not_t h70) (rfl))) ?_
      refine tg_f (x := (vb (decide (a0.Out = 0)))) (fun h73 => by simp only [gv_t h73]; exact bind_some_eq (d_eql)) ?_
      refine tg_f (x := (vb (decide (a0.Out = 0)))) (fun h76 => congrArg some (gv_t h76)) ?_
      refine tg2 (x := V.any) (fun h78 => rfl) ?_
      refine tg2 (x := (vi a0.Set)) (fun h80 => bind_some_eq (gate_pos2 (and_l h80) (and_r h80) (rfl))) ?_
      refine tg2 (x := (vb (decide (a0.Set ≠ 0)))) (fun h83 => by simp only [gv_t h83]; exact bind_some_eq (d_neq)) ?_
      refine tg_f (x := (vb ((decide (a0.Out = 0)) && (decide (a0.Set ≠ 0))))) (fun h86 => by simp only [gv_t h86]; exact bind_some_eq (pick_and (fun h9 => gv_t (and_i h86 h9)))) ?_
      refine tb (x := (vb ((decide ((bits .andNot .i64 a0.Value a0.Set) ≠ 0)) || ((decide (a0.Out = 0)) && (decide (a0.Set ≠ 0)))))) (pick_or (fun h9 => gv_t (not_f h9))) ?_
      refine tcond (fun h90 => ?_) (fun h90 => ?_)
      · refine tb (x := (eV 3)) (p_mkE (by decide)) ?_
        exact rf_ret rfl
      · exact rf_ret rfl

/-! railpoint/rule.Parse -/
def an_rule_Parse : Ann := .seq (.reg 0 [] [] []) (.seq (.reg 0 [] [] []) (.seq (.seq (.reg 0 [] [] []) (.cond none (.seq (.reg 0 [] [] []) (.no)) (.no))) (.seq (.seq (.reg 0 [] [] []) (.seq (.reg 0 [] [] []) (.cond none (.seq (.reg 0 [] [] []) (.no)) (.no)))) (.seq (.reg 0 [] [] []) (.no)))))
noncomputable def sem_rule_Parse (n : Nat) (xs : List V) : Option V := if xs.length ≤ 24 then denF Tryd.prog (envOf [(9, (semSplit)), (8, (sem_rule_read n)), (10, (sem_rule_Check n))]) n Tryd.f4 an_rule_Parse xs else none
theorem ok_rule_Parse (n : Nat) : SemOk Tryd.prog DW 4 (sem_rule_Parse n) := fun xs y h => by
  unfold sem_rule_Parse at h
  split at h
  · rename_i hl
    exact denF_ok stb Tryd.func4 (by kernel_rfl) (envOf_ok (semsOk_cons (ok_Split) (semsOk_cons (ok_rule_read n) (semsOk_cons (ok_rule_Check n) semsOk_nil)))) (by rw [Tryd.ntmps4]; exact hl) h
  · cases h
theorem eq_rule_Parse (n : Nat) (x0 : V) : sem_rule_Parse n [x0] =
 ((semSplit) [x0, (V.lit (Go.Value.string (ByteArray.mk #[32])))]).bind fun v1 =>
 ((sem_rule_read n) [v1]).bind fun v2 =>
 (extractV v2 0).bind fun v3 =>
 (extractV v2 1).bind fun v4 =>
 (spliceV [(vi 0), (vi 0), (vi 0), (vi 0), (vi 0), (vi 0)] 0 6 v3).bind fun v5 =>
 (scal1 Tryd.prog (Op.unary Go.UnOp.not) v4).bind fun v6 =>
 condV v6 (
 ((fillL [(vi 0), (vi 0), (vi 0), (vi 0), (vi 0), (vi 0)] []).map V.agg).bind fun v7 =>
 (scal1 Tryd.prog (Instr.makeInterface 42) (vi 2)).bind fun v8 =>
 (spliceV [(vi 0), (vi 0), (vi 0), (vi 0), (vi 0), (vi 0)] 0 6 v7).bind fun v9 =>
 (ldk (some 6) (List.drop 0 (aggL v9))).bind fun v10 =>
 some (V.tup [v10, v8])) (
 (ldk (some 6) (List.drop 0 (aggL v5))).bind fun v11 =>
 ((sem_rule_Check n) [v11]).bind fun v12 =>
 (bin2 Tryd.prog BinOp.neq 29 (ot 19) (Operand.const Go.Value.nilIface) v12 vn).bind fun v13 =>
 condV v13 (
 ((fillL [(vi 0), (vi 0), (vi 0), (vi 0), (vi 0), (vi 0)] []).map V.agg).bind fun v14 =>
 (spliceV [(vi 0), (vi 0), (vi 0), (vi 0), (vi 0), (vi 0)] 0 6 v14).bind fun v15 =>
 (ldk (some 6) (List.drop 0 (aggL v15))).bind fun v16 =>
 some (V.tup [v16, v12])) (
 (ldk (some 6) (List.drop 0 (aggL v5))).bind fun v17 =>
 (spliceV [(vi 0), (vi 0), (vi 0), (vi 0), (vi 0), (vi 0)] 0 6 v17).bind fun v18 =>
 (ldk (some 6) (List.drop 0 (aggL v18))).bind fun v19 =>
 some (V.tup [v19, vn]))) := by kernel_rfl
noncomputable def t_rule_Parse (a0 : ByteArray) : Option (T_Rule × Int) :=
 (t_Split a0 (ByteArray.mk #[32])).bind fun r2 =>
 (t_rule_read r2).bind fun r4 =>
 if (!r4.2) = true then (
 some ((T_Rule.mk 0 (T_Cube.mk 0 0) 0 0 0), 2)) else (
 (t_rule_Check r4.1).bind fun r16 =>
 if (!decide (r16 = 0)) = true then (
 some ((T_Rule.mk 0 (T_Cube.mk 0 0) 0 0 0), r16)) else (
 some (r4.1, 0)))
theorem ty_rule_Parse {n : Nat} (hn : bigN ≤ n) (a0 : ByteArray) : Rv (fun x : (T_Rule × Int) => V.tup [(T_Rule.e x.1), (eV x.2)]) (sem_rule_Parse n [(vt a0)]) (t_rule_Parse a0) := by
  rw [eq_rule_Parse]
  unfold t_rule_Parse
  refine tbo (ty_Split a0 (ByteArray.mk #[32])) fun r2 => ?_
  refine tbo (ty_rule_read hn r2) fun r4 => ?_
  refine tb (x := (T_Rule.e r4.1)) (rfl) ?_
  refine tb (x := (vb r4.2)) (rfl) ?_
  refine tb (x := V.agg (T_Rule.c r4.1)) (by kernel_rfl) ?_
  refine tb (x := (vb (!r4.2))) (d_not) ?_
  refine tcond (fun h9 => ?_) (fun h9 => ?_)
  · refine tb (x := (T_Rule.e (T_Rule.mk 0 (T_Cube.mk 0 0) 0 0 0))) (by kernel_rfl) ?_
    refine tb (x := (eV 2)) (p_mkE (by decide)) ?_
    refine tb (x := V.agg (T_Rule.c (T_Rule.mk 0 (T_Cube.mk 0 0) 0 0 0))) (by kernel_rfl) ?_
    refine tb (x := (T_Rule.e (T_Rule.mk 0 (T_Cube.mk 0 0) 0 0 0))) rfl ?_
    exact rf_ret rfl
  · refine tb (x := (T_Rule.e r4.1)) (rfl) ?_
    refine tbo (ty_rule_Check hn r4.1) fun r16 => ?_
    refine tb (x := (vb (!decide (r16 = 0)))) (p_err_neq _) ?_
    refine tcond (fun h18 => ?_) (fun h18 => ?_)
    · refine tb (x := (T_Rule.e (T_Rule.mk 0 (T_Cube.mk 0 0) 0 0 0))) (by kernel_rfl) ?_
      refine tb (x := V.agg (T_Rule.c (T_Rule.mk 0 (T_Cube.mk 0 0) 0 0 0))) (by kernel_rfl) ?_
      refine tb (x := (T_Rule.e (T_Rule.mk 0 (T_Cube.mk 0 0) 0 0 0))) rfl ?_
      exact rf_ret rfl
    · refine tb (x := (T_Rule.e r4.1)) (rfl) ?_
      refine tb (x := V.agg (T_Rule.c r4.1)) (by kernel_rfl) ?_
      refine tb (x := (T_Rule.e r4.1)) rfl ?_
      exact rf_ret rfl

/-! railpoint/cube.Print -/
def an_cube_Print : Ann := .seq (.reg 0 [] [] []) (.seq (.seq (.reg 0 [] [] []) (.seq (.reg 0 [] [] []) (.cond none (.seq (.reg 0 [] [] []) (.no)) (.no)))) (.seq (.reg 0 [] [] []) (.seq (.seq (.reg 0 [] [] []) (.blk (some [.o 5]) (.loop [.kb 1, .o 5, .s 16] (.seq (.reg 0 [] [] []) (.seq (.cond none (.no) (.no)) (.seq (.blk none (.seq (.reg 0 [] [] []) (.seq (.reg 0 [] [] []) (.blk none (.seq (.reg 0 [] [] []) (.cond (some [.kb 1, .o 5]) (.reg 0 [] [] []) (.seq (.reg 0 [] [] []) (.cond (some [.kb 1, .o 5]) (.reg 0 [] [] []) (.reg 0 [] [] []))))))))) (.reg 0 [] [] []))))))) (.seq (.reg 0 [] [] []) (.no)))))
noncomputable def sem_cube_Print (n : Nat) (xs : List V) : Option V := if xs.length ≤ 46 then denF Tryd.prog (envOf [(16, (sem_cube_Check n))]) n Tryd.f11 an_cube_Print xs else none
theorem ok_cube_Print (n : Nat) : SemOk Tryd.prog DW 11 (sem_cube_Print n) := fun xs y h => by
  unfold sem_cube_Print at h
  split at h
  · rename_i hl
    exact denF_ok stb Tryd.func11 (by kernel_rfl) (envOf_ok (semsOk_cons (ok_cube_Check n) semsOk_nil)) (by rw [Tryd.ntmps11]; exact hl) h
  · cases h
theorem eq_cube_Print (n : Nat) (x0 : V) : sem_cube_Print n [x0] =
 (V.cellsO x0).bind fun v1 =>
 (ldk (some 2) (List.drop 0 v1)).bind fun v2 =>
 ((sem_cube_Check n) [v2]).bind fun v3 =>
 (bin2 Tryd.prog BinOp.neq 29 (ot 10) (Operand.const Go.Value.nilIface) v3 vn).bind fun v4 =>
 condV v4 (
 some (V.tup [(V.lit (Go.Value.string (ByteArray.mk #[]))), v3])) (
 (makeN 1 [(V.lit (Go.Value.int Go.IntKind.u8 0))] (vi 4) (vi 4)).bind fun v5 =>
 ((oslR v5).map fun rows => V.lit (Go.Value.int Go.IntKind.i64 (List.length rows))).bind fun v6 =>
 JoinPt (fun vs7 =>
 ((oslR (List.getD vs7 0 V.any)).bind fun rows9 => b2s (V.sl rows9)).bind fun v10 =>
 some (V.tup [v10, vn])) fun J8 =>
 (keepO (some v1) (some v1) (some [v5, (vi 0)])).bind (fixN (fun rec11 vs12 =>
 (bin2 Tryd.prog BinOp.lss 3 (ot 16) (ot 15) (List.getD vs12 1 V.any) v6).bind fun v13 =>
 condV v13 (
 (bin2 Tryd.prog BinOp.sub 3 (oc 3) (ot 19) (vi 3) (List.getD vs12 1 V.any)).bind fun v14 =>
 (bin2 Tryd.prog BinOp.shl 3 (oc 1) (ot 20) (vi 1) v14).bind fun v15 =>
 (ldk none (List.drop 0 v1)).bind fun v16 =>
 (bin2 Tryd.prog BinOp.and 3 (ot 27) (ot 28) v16 v15).bind fun v17 =>
 (bin2 Tryd.prog BinOp.eql 3 (ot 29) (oc 0) v17 (vi 0)).bind fun v18 =>
 JoinPt (fun vs19 =>
 (bin2 Tryd.prog BinOp.add 3 (ot 16) (oc 1) (List.getD vs12 1 V.any) (vi 1)).bind fun v21 =>
 (keepO (some v1) (some v1) (some [(List.getD vs19 0 V.any), v21])).bind rec11) fun J20 =>
 condV v18 (
 ((oslR (List.getD vs12 0 V.any)).bind fun rows22 => inB (List.length rows22) (List.getD vs12 1 V.any)).bind fun v23 =>
 (V.cellsO (V.lit (Go.Value.int Go.IntKind.u8 42))).bind fun v24 =>
 (setV (List.getD vs12 0 V.any) [] (Stp.mk (some (natOf (List.getD vs12 1 V.any))) 0 1) 1 v24).bind fun v25 =>
 (keepO (some v1) (some v1) (some [v25])).bind J20) (
 (ldk none (List.drop 1 v1)).bind fun v26 =>
 (bin2 Tryd.prog BinOp.and 3 (ot 36) (ot 37) v26 v15).bind fun v27 =>
 (bin2 Tryd.prog BinOp.eql 3 (ot 38) (oc 0) v27 (vi 0)).bind fun v28 =>
 JoinPt (fun vs29 =>
 (keepO (some v1) (some v1) (some [(List.getD vs29 0 V.any)])).bind J20) fun J30 =>
 condV v28 (
 ((oslR (List.getD vs12 0 V.any)).bind fun rows31 => inB (List.length rows31) (List.getD vs12 1 V.any)).bind fun v32 =>
 (V.cellsO (V.lit (Go.Value.int Go.IntKind.u8 48))).bind fun v33 =>
 (setV (List.getD vs12 0 V.any) [] (Stp.mk (some (natOf (List.getD vs12 1 V.any))) 0 1) 1 v33).bind fun v34 =>
 (keepO (some v1) (some v1) (some [v34])).bind J30) (
 ((oslR (List.getD vs12 0 V.any)).bind fun rows35 => inB (List.length rows35) (List.getD vs12 1 V.any)).bind fun v36 =>
 (V.cellsO (V.lit (Go.Value.int Go.IntKind.u8 49))).bind fun v37 =>
 (setV (List.getD vs12 0 V.any) [] (Stp.mk (some (natOf (List.getD vs12 1 V.any))) 0 1) 1 v37).bind fun v38 =>
 (keepO (some v1) (some v1) (some [v38])).bind J30))) (
 J8 [(List.getD vs12 0 V.any)])) n)) := by kernel_rfl
noncomputable def t_cube_Print (a0 : T_Cube) : Option (ByteArray × Int) :=
 (t_cube_Check a0).bind fun r4 =>
 if (!decide (r4 = 0)) = true then (
 some ((ByteArray.mk #[]), r4)) else (
 (omake 4 4 0).bind fun r8 =>
 (loopI r8 (fun (i23 : Int) x24 (s19 : (List Int)) k20 =>
 need (decide (0 ≤ (wr (3 - i23)))) (
 (if (decide ((bits .and .i64 a0.Mask (wr (1 * 2 ^ (min (Int.toNat (wr (3 - i23))) 64)))) = 0)) = true then (
 need (decide (0 ≤ i23) && decide (i23 < (List.length s19 : Int))) (
 (oset s19 i23 42).bind fun r45 =>
 some (r45))) else (
 (if (decide ((bits .and .i64 a0.Bits (wr (1 * 2 ^ (min (Int.toNat (wr (3 - i23))) 64)))) = 0)) = true then (
 need (decide (0 ≤ i23) && decide (i23 < (List.length s19 : Int))) (
 (oset s19 i23 48).bind fun r60 =>
 some (r60))) else (
 need (decide (0 ≤ i23) && decide (i23 < (List.length s19 : Int))) (
 (oset s19 i23 49).bind fun r66 =>
 some (r66)))).bind fun (s52 : (List Int)) =>
 some (s52))).bind fun (s36 : (List Int)) =>
 k20 (s36))) (fun (s19 : (List Int)) =>
 some (s19)) (r8)).bind fun (s12 : (List Int)) =>
 some ((strOfNums s12), 0))
theorem ty_cube_Print {n : Nat} (hn : bigN ≤ n) (a0 : T_Cube) : Rv (fun x : (ByteArray × Int) => V.tup [(vt x.1), (eV x.2)]) (sem_cube_Print n [(T_Cube.e a0)]) (t_cube_Print a0) := by
  rw [eq_cube_Print]
  unfold t_cube_Print
  refine tb (x := (T_Cube.c a0)) rfl ?_
  refine tb (x := (T_Cube.e a0)) (rfl) ?_
  refine tbo (ty_cube_Check hn a0) fun r4 => ?_
  refine tb (x := (vb (!decide (r4 = 0)))) (p_err_neq _) ?_
  refine tcond (fun h6 => ?_) (fun h6 => ?_)
  · exact rf_ret rfl
  · refine tbo (p_omake (c := cY) 4 4 0 rfl) fun r8 => ?_
    refine tb (x := (vi (List.length r8 : Int))) (p_olen _) ?_
    refine tjb (mk := fun s12 : (List Int) => [(V.osl 1 (List.map cY s12))]) (fun J11 => ?_) fun s12 => ?_
    · refine tkeepO2 ?_ rfl
      refine tsome ?_
      refine rf_loopI (mk := fun (i23 : Int) (s19 : (List Int)) => [(V.osl 1 (List.map cY s19)), (vi (i23 : Int))]) hn r8 (r8) (fun i23 x24 h25 h26 h27 s19 rec17 k20 h21 => ?_) (fun s19 rec70 h69 => ?_)
      · refine tb (x := (vb (decide ((i23 : Int) < (List.length r8 : Int))))) (d_lss) ?_
        refine tcond_t h27 ?_
        refine tb (x := (vi (wr (3 - (i23 : Int))))) (d_sub) ?_
        refine tneed (x := (vi (wr (1 * 2 ^ (min (Int.toNat (wr (3 - (i23 : Int)))) 64))))) (fun h68 => p_shl h68) fun h68 => ?_
        refine tb (x := (vi a0.Mask)) (rfl) ?_
        refine tb (x := (vi (bits .and .i64 a0.Mask (wr (1 * 2 ^ (min (Int.toNat (wr (3 - (i23 : Int)))) 64)))))) (d_and) ?_
        refine tb (x := (vb (decide ((bits .and .i64 a0.Mask (wr (1 * 2 ^ (min (Int.toNat (wr (3 - (i23 : Int)))) 64)))) = 0)))) (d_eql) ?_
        refine tjb (mk := fun s36 : (List Int) => [(V.osl 1 (List.map cY s36))]) (fun J35 => ?_) fun s36 => ?_
        · refine tcond (fun h40 => ?_) (fun h40 => ?_)
          · refine tneed (x := V.any) (fun h46 => p_inB s19 (i23 : Int) h46) fun h46 => ?_
            refine tb (x := cY 42) rfl ?_
            refine tbo (p_oset (c := cY) (fun _ => rfl) s19 (i23 : Int) 42) fun r45 => ?_
            refine tkeepO2 ?_ rfl
            refine tsome ?_
            exact rf_j rfl
          · refine tb (x := (vi a0.Bits)) (rfl) ?_
            refine tb (x := (vi (bits .and .i64 a0.Bits (wr (1 * 2 ^ (min (Int.toNat (wr (3 - (i23 : Int)))) 64)))))) (d_and) ?_
            refine tb (x := (vb (decide ((bits .and .i64 a0.Bits (wr (1 * 2 ^ (min (Int.toNat (wr (3 - (i23 : Int)))) 64)))) = 0)))) (d_eql) ?_
            refine tjb (mk := fun s52 : (List Int) => [(V.osl 1 (List.map cY s52))]) (fun J51 => ?_) fun s52 => ?_
            · refine tcond (fun h55 => ?_) (fun h55 => ?_)
              · refine tneed (x := V.any) (fun h61 => p_inB s19 (i23 : Int) h61) fun h61 => ?_
                refine tb (x := cY 48) rfl ?_
                refine tbo (p_oset (c := cY) (fun _ => rfl) s19 (i23 : Int) 48) fun r60 => ?_
                refine tkeepO2 ?_ rfl
                refine tsome ?_
                exact rf_j rfl
              · refine tneed (x := V.any) (fun h67 => p_inB s19 (i23 : Int) h67) fun h67 => ?_
                refine tb (x := cY 49) rfl ?_
                refine tbo (p_oset (c := cY) (fun _ => rfl) s19 (i23 : Int) 49) fun r66 => ?_
                refine tkeepO2 ?_ rfl
                refine tsome ?_
                exact rf_j rfl
            · refine tkeepO2 ?_ rfl
              refine tsome ?_
              exact rf_j rfl
        · refine tb (x := (vi ((i23 : Int) + 1))) (p_incN h26) ?_
          refine tkeepO2 ?_ rfl
          refine tsome ?_
          exact h21 (s36)
      · refine tb (x := (vb (decide ((List.length r8 : Int) < (List.length r8 : Int))))) (d_lss) ?_
        refine tcond_f h69 ?_
        exact rf_j rfl
    · refine tb (x := (vt (strOfNums s12))) (p_oslB) ?_
      exact rf_ret rfl

/-! railpoint/rule.Print -/
def an_rule_Print : Ann := .seq (.reg 0 [] [] []) (.seq (.seq (.reg 0 [] [] []) (.seq (.reg 0 [] [] []) (.cond none (.seq (.reg 0 [] [] []) (.no)) (.no)))) (.seq (.reg 0 [] [] []) (.seq (.seq (.reg 0 [] [] []) (.cond none (.seq (.reg 0 [] [] []) (.no)) (.no))) (.seq (.reg 0 [] [] []) (.seq (.seq (.reg 0 [] [] []) (.cond none (.seq (.reg 0 [] [] []) (.no)) (.no))) (.seq (.reg 0 [] [] []) (.seq (.seq (.reg 0 [] [] []) (.cond (some [.s 7]) (.seq (.reg 0 [] [] []) (.seq (.seq (.reg 0 [] [] []) (.cond none (.seq (.reg 0 [] [] []) (.no)) (.no))) (.reg 0 [] [] []))) (.no))) (.seq (.reg 0 [] [] []) (.no)))))))))
noncomputable def sem_rule_Print (n : Nat) (xs : List V) : Option V := if xs.length ≤ 61 then denF Tryd.prog (envOf [(10, (sem_rule_Check n)), (11, (sem_cube_Print n)), (12, (semItoa))]) n Tryd.f5 an_rule_Print xs else none
theorem ok_rule_Print (n : Nat) : SemOk Tryd.prog DW 5 (sem_rule_Print n) := fun xs y h => by
  unfold sem_rule_Print at h
  split at h
  · rename_i hl
    exact denF_ok stb Tryd.func5 (by kernel_rfl) (envOf_ok (semsOk_cons (ok_rule_Check n) (semsOk_cons (ok_cube_Print n) (semsOk_cons (ok_Itoa) semsOk_nil)))) (by rw [Tryd.ntmps5]; exact hl) h
  · cases h
theorem eq_rule_Print (n : Nat) (x0 : V) : sem_rule_Print n [x0] =
 (V.cellsO x0).bind fun v1 =>
 (ldk (some 6) (List.drop 0 v1)).bind fun v2 =>
 ((sem_rule_Check n) [v2]).bind fun v3 =>
 (bin2 Tryd.prog BinOp.neq 29 (ot 12) (Operand.const Go.Value.nilIface) v3 vn).bind fun v4 =>
 condV v4 (
 some (V.tup [(V.lit (Go.Value.string (ByteArray.mk #[]))), v3])) (
 (ldk (some 2) (List.drop 1 v1)).bind fun v5 =>
 ((sem_cube_Print n) [v5]).bind fun v6 =>
 (extractV v6 0).bind fun v7 =>
 (extractV v6 1).bind fun v8 =>
 (bin2 Tryd.prog BinOp.neq 29 (ot 21) (Operand.const Go.Value.nilIface) v8 vn).bind fun v9 =>
 condV v9 (
 some (V.tup [(V.lit (Go.Value.string (ByteArray.mk #[]))), v8])) (
 (ldk none (List.drop 0 v1)).bind fun v10 =>
 ((semItoa) [v10]).bind fun v11 =>
 (bin2 Tryd.prog BinOp.add 9 (ot 26) (Operand.const (Go.Value.string (ByteArray.mk #[32]))) v11 (V.lit (Go.Value.string (ByteArray.mk #[32])))).bind fun v12 =>
 (bin2 Tryd.prog BinOp.add 9 (ot 27) (ot 28) v12 v7).bind fun v13 =>
 (ldk none (List.drop 3 v1)).bind fun v14 =>
 (bin2 Tryd.prog BinOp.eql 3 (ot 31) (oc 0) v14 (vi 0)).bind fun v15 =>
 condV v15 (
 (bin2 Tryd.prog BinOp.add 9 (ot 33) (Operand.const (Go.Value.string (ByteArray.mk #[32, 100, 114, 111, 112]))) v13 (V.lit (Go.Value.string (ByteArray.mk #[32, 100, 114, 111, 112])))).bind fun v16 =>
 some (V.tup [v16, vn])) (
 (ldk none (List.drop 3 v1)).bind fun v17 =>
 ((semItoa) [v17]).bind fun v18 =>
 (bin2 Tryd.prog BinOp.add 9 (Operand.const (Go.Value.string (ByteArray.mk #[32, 111, 117, 116, 32]))) (ot 38) (V.lit (Go.Value.string (ByteArray.mk #[32, 111, 117, 116, 32]))) v18).bind fun v19 =>
 (bin2 Tryd.prog BinOp.add 9 (ot 35) (ot 39) v13 v19).bind fun v20 =>
 (ldk none (List.drop 4 v1)).bind fun v21 =>
 (bin2 Tryd.prog BinOp.neq 3 (ot 42) (oc 0) v21 (vi 0)).bind fun v22 =>
 JoinPt (fun vs23 =>
 some (V.tup [(List.getD vs23 0 V.any), vn])) fun J24 =>
 condV v22 (
 (ldk none (List.drop 4 v1)).bind fun v25 =>
 (ldk none (List.drop 5 v1)).bind fun v26 =>
 ((fillL [(vi 0), (vi 0)] [(0, 1, v25), (1, 1, v26)]).map V.agg).bind fun v27 =>
 ((sem_cube_Print n) [v27]).bind fun v28 =>
 (extractV v28 0).bind fun v29 =>
 (extractV v28 1).bind fun v30 =>
 (bin2 Tryd.prog BinOp.neq 29 (ot 53) (Operand.const Go.Value.nilIface) v30 vn).bind fun v31 =>
 condV v31 (
 some (V.tup [(V.lit (Go.Value.string (ByteArray.mk #[]))), v30])) (
 (bin2 Tryd.prog BinOp.add 9 (Operand.const (Go.Value.string (ByteArray.mk #[32, 115, 101, 116, 32]))) (ot 57) (V.lit (Go.Value.string (ByteArray.mk #[32, 115, 101, 116, 32]))) v29).bind fun v32 =>
 (bin2 Tryd.prog BinOp.add 9 (ot 56) (ot 58) v20 v32).bind fun v33 =>
 J24 [v33])) (
 J24 [v20])))) := by kernel_rfl
noncomputable def t_rule_Print (a0 : T_Rule) : Option (ByteArray × Int) :=
 (t_rule_Check a0).bind fun r4 =>
 if (!decide (r4 = 0)) = true then (
 some ((ByteArray.mk #[]), r4)) else (
 (t_cube_Print a0.Cube).bind fun r9 =>
 if (!decide (r9.2 = 0)) = true then (
 some ((ByteArray.mk #[]), r9.2)) else (
 (t_Itoa a0.Prio).bind fun r16 =>
 need (decide ((r16.size : Int) + (ByteArray.mk #[32]).size ≤ maxI)) (
 need (decide (((r16 ++ (ByteArray.mk #[32])).size : Int) + r9.1.size ≤ maxI)) (
 if (decide (a0.Out = 0)) = true then (
 need (decide ((((r16 ++ (ByteArray.mk #[32])) ++ r9.1).size : Int) + (ByteArray.mk #[32, 100, 114, 111, 112]).size ≤ maxI)) (
 some ((((r16 ++ (ByteArray.mk #[32])) ++ r9.1) ++ (ByteArray.mk #[32, 100, 114, 111, 112])), 0))) else (
 (t_Itoa a0.Out).bind fun r26 =>
 need (decide (((ByteArray.mk #[32, 111, 117, 116, 32]).size : Int) + r26.size ≤ maxI)) (
 need (decide ((((r16 ++ (ByteArray.mk #[32])) ++ r9.1).size : Int) + ((ByteArray.mk #[32, 111, 117, 116, 32]) ++ r26).size ≤ maxI)) (
 join (fun (s33 : ByteArray) =>
 some (s33, 0)) fun j34 =>
 if (decide (a0.Set ≠ 0)) = true then (
 (t_cube_Print (T_Cube.mk a0.Set a0.Value)).bind fun r41 =>
 if (!decide (r41.2 = 0)) = true then (
 some ((ByteArray.mk #[]), r41.2)) else (
 need (decide (((ByteArray.mk #[32, 115, 101, 116, 32]).size : Int) + r41.1.size ≤ maxI)) (
 need (decide (((((r16 ++ (ByteArray.mk #[32])) ++ r9.1) ++ ((ByteArray.mk #[32, 111, 117, 116, 32]) ++ r26)).size : Int) + ((ByteArray.mk #[32, 115, 101, 116, 32]) ++ r41.1).size ≤ maxI)) (
 j34 ((((r16 ++ (ByteArray.mk #[32])) ++ r9.1) ++ ((ByteArray.mk #[32, 111, 117, 116, 32]) ++ r26)) ++ ((ByteArray.mk #[32, 115, 101, 116, 32]) ++ r41.1)))))) else (
 j34 (((r16 ++ (ByteArray.mk #[32])) ++ r9.1) ++ ((ByteArray.mk #[32, 111, 117, 116, 32]) ++ r26))))))))))
theorem ty_rule_Print {n : Nat} (hn : bigN ≤ n) (a0 : T_Rule) : Rv (fun x : (ByteArray × Int) => V.tup [(vt x.1), (eV x.2)]) (sem_rule_Print n [(T_Rule.e a0)]) (t_rule_Print a0) := by
  rw [eq_rule_Print]
  unfold t_rule_Print
  refine tb (x := (T_Rule.c a0)) rfl ?_
  refine tb (x := (T_Rule.e a0)) (rfl) ?_
  refine tbo (ty_rule_Check hn a0) fun r4 => ?_
  refine tb (x := (vb (!decide (r4 = 0)))) (p_err_neq _) ?_
  refine tcond (fun h6 => ?_) (fun h6 => ?_)
  · exact rf_ret rfl
  · refine tb (x := (T_Cube.e a0.Cube)) (rfl) ?_
    refine tbo (ty_cube_Print hn a0.Cube) fun r9 => ?_
    refine tb (x := (vt r9.1)) (rfl) ?_
    refine tb (x := (eV r9.2)) (rfl) ?_
    refine tb (x := (vb (!decide (r9.2 = 0)))) (p_err_neq _) ?_
    refine tcond (fun h13 => ?_) (fun h13 => ?_)
    · exact rf_ret rfl
    · refine tb (x := (vi a0.Prio)) (rfl) ?_
      refine tbo (ty_Itoa a0.Prio) fun r16 => ?_
      refine tneed (x := (vt (r16 ++ (ByteArray.mk #[32])))) (fun h53 => p_add_str h53) fun h53 => ?_
      refine tneed (x := (vt ((r16 ++ (ByteArray.mk #[32])) ++ r9.1))) (fun h52 => p_add_str h52) fun h52 => ?_
      refine tb (x := (vi a0.Out)) (rfl) ?_
      refine tb (x := (vb (decide (a0.Out = 0)))) (d_eql) ?_
      refine tcond (fun h21 => ?_) (fun h21 => ?_)
      · refine tneed (x := (vt (((r16 ++ (ByteArray.mk #[32])) ++ r9.1) ++ (ByteArray.mk #[32, 100, 114, 111, 112])))) (fun h23 => p_add_str h23) fun h23 => ?_
        exact rf_ret rfl
      · refine tb (x := (vi a0.Out)) (rfl) ?_
        refine tbo (ty_Itoa a0.Out) fun r26 => ?_
        refine tneed (x := (vt ((ByteArray.mk #[32, 111, 117, 116, 32]) ++ r26))) (fun h51 => p_add_str h51) fun h51 => ?_
        refine tneed (x := (vt (((r16 ++ (ByteArray.mk #[32])) ++ r9.1) ++ ((ByteArray.mk #[32, 111, 117, 116, 32]) ++ r26)))) (fun h50 => p_add_str h50) fun h50 => ?_
        refine tb (x := (vi a0.Set)) (rfl) ?_
        refine tb (x := (vb (decide (a0.Set ≠ 0)))) (d_neq) ?_
        refine tjoin (mk := fun s33 : ByteArray => [(vt s33)]) (fun s33 => ?_) fun J32 j34 h35 => ?_
        · exact rf_ret rfl
        · refine tcond (fun h36 => ?_) (fun h36 => ?_)
          · refine tb (x := (vi a0.Set)) (rfl) ?_
            refine tb (x := (vi a0.Value)) (rfl) ?_
            refine tb (x := (T_Cube.e (T_Cube.mk a0.Set a0.Value))) (by kernel_rfl) ?_
            refine tbo (ty_cube_Print hn (T_Cube.mk a0.Set a0.Value)) fun r41 => ?_
            refine tb (x := (vt r41.1)) (rfl) ?_
            refine tb (x := (eV r41.2)) (rfl) ?_
            refine tb (x := (vb (!decide (r41.2 = 0)))) (p_err_neq _) ?_
            refine tcond (fun h45 => ?_) (fun h45 => ?_)
            · exact rf_ret rfl
            · refine tneed (x := (vt ((ByteArray.mk #[32, 115, 101, 116, 32]) ++ r41.1))) (fun h49 => p_add_str h49) fun h49 => ?_
              refine tneed (x := (vt ((((r16 ++ (ByteArray.mk #[32])) ++ r9.1) ++ ((ByteArray.mk #[32, 111, 117, 116, 32]) ++ r26)) ++ ((ByteArray.mk #[32, 115, 101, 116, 32]) ++ r41.1)))) (fun h48 => p_add_str h48) fun h48 => ?_
              exact h35 ((((r16 ++ (ByteArray.mk #[32])) ++ r9.1) ++ ((ByteArray.mk #[32, 111, 117, 116, 32]) ++ r26)) ++ ((ByteArray.mk #[32, 115, 101, 116, 32]) ++ r41.1))
          · exact h35 (((r16 ++ (ByteArray.mk #[32])) ++ r9.1) ++ ((ByteArray.mk #[32, 111, 117, 116, 32]) ++ r26))

/-! slices.IndexFunc railpoint/api.Table railpoint/api.Rule  -/
def an_slices_IndexFunc_api_Table_api_Rule : Ann := .seq (.reg 0 [] [] []) (.seq (.seq (.reg 0 [] [] []) (.blk (some []) (.loop [.s 8] (.seq (.reg 0 [] [] []) (.seq (.cond none (.no) (.no)) (.seq (.blk none (.seq (.reg 0 [] [] []) (.seq (.reg 0 [] [] []) (.cond none (.seq (.reg 0 [] [] []) (.no)) (.no))))) (.reg 0 [] [] []))))))) (.seq (.reg 0 [] [] []) (.no)))
noncomputable def sem_slices_IndexFunc_api_Table_api_Rule (E : FuncId → List V → Option V) (n : Nat) (xs : List V) : Option V := if xs.length ≤ 19 then denF Tryd.prog (envJ [] E) n Tryd.f30 an_slices_IndexFunc_api_Table_api_Rule xs else none
theorem ok_slices_IndexFunc_api_Table_api_Rule {E : FuncId → List V → Option V} (hE : EnvOk Tryd.prog DW E) (n : Nat) : SemOk Tryd.prog DW 30 (sem_slices_IndexFunc_api_Table_api_Rule E n) := fun xs y h => by
  unfold sem_slices_IndexFunc_api_Table_api_Rule at h
  split at h
  · rename_i hl
    exact denF_ok stb Tryd.func30 (by kernel_rfl) (envJ_ok semsOk_nil hE) (by rw [Tryd.ntmps30]; exact hl) h
  · cases h
theorem eq_slices_IndexFunc_api_Table_api_Rule (E : FuncId → List V → Option V) (n : Nat) (x0 x1 : V) : sem_slices_IndexFunc_api_Table_api_Rule E n [x0, x1] =
 (lenS [x0]).bind fun v1 =>
 JoinPt (fun vs2 =>
 some (vi (-1 : Int))) fun J3 =>
 (fixN (fun rec4 vs5 =>
 (bin2 Tryd.prog BinOp.lss 3 (ot 8) (ot 7) (List.getD vs5 0 V.any) v1).bind fun v6 =>
 condV v6 (
 (idxS 6 x0 (List.getD vs5 0 V.any)).bind fun v7 =>
 (ldp (some 6) v7).bind fun v8 =>
 (callV (envJ [] E) x1 [v8]).bind fun v9 =>
 condV v9 (
 some (List.getD vs5 0 V.any)) (
 (bin2 Tryd.prog BinOp.add 3 (ot 8) (oc 1) (List.getD vs5 0 V.any) (vi 1)).bind fun v10 =>
 rec4 [v10])) (
 J3 [])) n) [(vi 0)] := by kernel_rfl
noncomputable def t_slices_IndexFunc_api_Table_api_Rule (a0 : (List T_Rule)) (g1 : T_Rule → Option Bool) : Option Int :=
 join (fun (s4 : Unit) =>
 some (-1 : Int)) fun j5 =>
 loopI a0 (fun (i13 : Int) x14 (s9 : Unit) k10 =>
 (g1 x14).bind fun r22 =>
 if r22 = true then (
 some i13) else (
 k10 ())) (fun (s9 : Unit) =>
 j5 ()) ()
theorem ty_slices_IndexFunc_api_Table_api_Rule {E : FuncId → List V → Option V} {n : Nat} (hn : bigN ≤ n) (a0 : (List T_Rule)) {x1 : V} {g1 : T_Rule → Option Bool} (hg_g1 : ∀ a0, Rv (fun x : Bool => (vb x)) (callV E x1 [(T_Rule.e a0)]) (g1 a0)) : Rv (fun x : Int => (vi x)) (sem_slices_IndexFunc_api_Table_api_Rule E n [(V.sl (List.map T_Rule.c a0)), x1]) (t_slices_IndexFunc_api_Table_api_Rule a0 g1) := by
  rw [eq_slices_IndexFunc_api_Table_api_Rule]
  unfold t_slices_IndexFunc_api_Table_api_Rule
  refine tb (x := (vi (List.length a0 : Int))) (p_len _) ?_
  refine tjoin (mk := fun s4 : Unit => []) (fun s4 => ?_) fun J3 j5 h6 => ?_
  · exact rf_ret rfl
  · refine rf_loopI (mk := fun (i13 : Int) (s9 : Unit) => [(vi (i13 : Int))]) hn a0 () (fun i13 x14 h15 h16 h17 s9 rec7 k10 h11 => ?_) (fun s9 rec26 h25 => ?_)
    · refine tb (x := (vb (decide ((i13 : Int) < (List.length a0 : Int))))) (d_lss) ?_
      refine tcond_t h17 ?_
      refine tb (x := (V.ptr (T_Rule.c x14))) (p_idx_at (c := T_Rule.c) (fun _ => rfl) h15) ?_
      refine tb (x := (T_Rule.e x14)) (rfl) ?_
      refine tbo ((callV_J0 ▸ hg_g1 x14)) fun r22 => ?_
      refine tcond (fun h23 => ?_) (fun h23 => ?_)
      · exact rf_ret rfl
      · refine tb (x := (vi ((i13 : Int) + 1))) (p_incN h16) ?_
        exact h11 ()
    · refine tb (x := (vb (decide ((List.length a0 : Int) < (List.length a0 : Int))))) (d_lss) ?_
      refine tcond_f h25 ?_
      exact h6 ()

/-! slices.ContainsFunc railpoint/api.Table railpoint/api.Rule  -/
def an_slices_ContainsFunc_api_Table_api_Rule : Ann := .seq (.reg 0 [] [] []) (.seq (.reg 0 [] [] []) (.no))
noncomputable def sem_slices_ContainsFunc_api_Table_api_Rule (E : FuncId → List V → Option V) (n : Nat) (xs : List V) : Option V := if xs.length ≤ 9 then denF Tryd.prog (envJ [(30, (sem_slices_IndexFunc_api_Table_api_Rule E n))] E) n Tryd.f21 an_slices_ContainsFunc_api_Table_api_Rule xs else none
theorem ok_slices_ContainsFunc_api_Table_api_Rule {E : FuncId → List V → Option V} (hE : EnvOk Tryd.prog DW E) (n : Nat) : SemOk Tryd.prog DW 21 (sem_slices_ContainsFunc_api_Table_api_Rule E n) := fun xs y h => by
  unfold sem_slices_ContainsFunc_api_Table_api_Rule at h
  split at h
  · rename_i hl
    exact denF_ok stb Tryd.func21 (by kernel_rfl) (envJ_ok (semsOk_cons (ok_slices_IndexFunc_api_Table_api_Rule hE n) semsOk_nil) hE) (by rw [Tryd.ntmps21]; exact hl) h
  · cases h
theorem eq_slices_ContainsFunc_api_Table_api_Rule (E : FuncId → List V → Option V) (n : Nat) (x0 x1 : V) : sem_slices_ContainsFunc_api_Table_api_Rule E n [x0, x1] =
 ((sem_slices_IndexFunc_api_Table_api_Rule E n) [x0, x1]).bind fun v1 =>
 (bin2 Tryd.prog BinOp.geq 3 (ot 7) (oc 0) v1 (vi 0)).bind fun v2 =>
 some v2 := by kernel_rfl
noncomputable def t_slices_ContainsFunc_api_Table_api_Rule (a0 : (List T_Rule)) (g1 : T_Rule → Option Bool) : Option Bool :=
 (t_slices_IndexFunc_api_Table_api_Rule a0 g1).bind fun r2 =>
 some (decide (0 ≤ r2))
theorem ty_slices_ContainsFunc_api_Table_api_Rule {E : FuncId → List V → Option V} {n : Nat} (hn : bigN ≤ n) (a0 : (List T_Rule)) {x1 : V} {g1 : T_Rule → Option Bool} (hg_g1 : ∀ a0, Rv (fun x : Bool => (vb x)) (callV E x1 [(T_Rule.e a0)]) (g1 a0)) : Rv (fun x : Bool => (vb x)) (sem_slices_ContainsFunc_api_Table_api_Rule E n [(V.sl (List.map T_Rule.c a0)), x1]) (t_slices_ContainsFunc_api_Table_api_Rule a0 g1) := by
  rw [eq_slices_ContainsFunc_api_Table_api_Rule]
  unfold t_slices_ContainsFunc_api_Table_api_Rule
  refine tbo (ty_slices_IndexFunc_api_Table_api_Rule (E := E) (x1 := x1) (g1 := g1) hn a0 hg_g1) fun r2 => ?_
  refine tb (x := (vb (decide (0 ≤ r2)))) (d_geq) ?_
  exact rf_ret rfl

/-! railpoint/rule.Key -/
def an_rule_Key : Ann := .seq (.reg 0 [] [] []) (.seq (.reg 0 [] [] []) (.no))
noncomputable def sem_rule_Key (n : Nat) (xs : List V) : Option V := if xs.length ≤ 17 then denF Tryd.prog (envOf []) n Tryd.f23 an_rule_Key xs else none
theorem ok_rule_Key (n : Nat) : SemOk Tryd.prog DW 23 (sem_rule_Key n) := fun xs y h => by
  unfold sem_rule_Key at h
  split at h
  · rename_i hl
    exact denF_ok stb Tryd.func23 (by kernel_rfl) (envOf_ok semsOk_nil) (by rw [Tryd.ntmps23]; exact hl) h
  · cases h
theorem eq_rule_Key (n : Nat) (x0 x1 : V) : sem_rule_Key n [x0, x1] =
 (V.cellsO x0).bind fun v1 =>
 (V.cellsO x1).bind fun v2 =>
 (ldk none (List.drop 0 v1)).bind fun v3 =>
 (ldk none (List.drop 0 v2)).bind fun v4 =>
 (bin2 Tryd.prog BinOp.eql 3 (ot 6) (ot 8) v3 v4).bind fun v5 =>
 (guardV v5 true (some V.any)).bind fun v6 =>
 (guardV v5 true ((gate v5 true (ldk (some 2) (List.drop 1 v1))).bind fun v7 =>
 some v7)).bind fun v8 =>
 (guardV v5 true (some V.any)).bind fun v9 =>
 (guardV v5 true ((gate v5 true (ldk (some 2) (List.drop 1 v2))).bind fun v10 =>
 some v10)).bind fun v11 =>
 (guardV v5 true ((bin2 Tryd.prog BinOp.eql 23 (ot 12) (ot 14) v8 v11).bind fun v12 =>
 some v12)).bind fun v13 =>
 (pickV v5 v13 (vb false)).bind fun v14 =>
 some v14 := by kernel_rfl
noncomputable def t_rule_Key (a0 : T_Rule) (a1 : T_Rule) : Option Bool :=
 some ((decide (a0.Prio = a1.Prio)) && (decide (a0.Cube = a1.Cube)))
theorem ty_rule_Key {n : Nat} (hn : bigN ≤ n) (a0 : T_Rule) (a1 : T_Rule) : Rv (fun x : Bool => (vb x)) (sem_rule_Key n [(T_Rule.e a0), (T_Rule.e a1)]) (t_rule_Key a0 a1) := by
  rw [eq_rule_Key]
  unfold t_rule_Key
  refine tb (x := (T_Rule.c a0)) rfl ?_
  refine tb (x := (T_Rule.c a1)) rfl ?_
  refine tb (x := (vi a0.Prio)) (rfl) ?_
  refine tb (x := (vi a1.Prio)) (rfl) ?_
  refine tb (x := (vb (decide (a0.Prio = a1.Prio)))) (d_eql) ?_
  refine tg (x := V.any) (fun h6 => rfl) ?_
  refine tg (x := (T_Cube.e a0.Cube)) (fun h8 => bind_some_eq (gate_pos h8 (rfl))) ?_
  refine tg (x := V.any) (fun h11 => rfl) ?_
  refine tg (x := (T_Cube.e a1.Cube)) (fun h13 => bind_some_eq (gate_pos h13 (rfl))) ?_
  refine tg (x := (vb (decide (a0.Cube = a1.Cube)))) (fun h16 => by simp only [gv_t h16]; exact bind_some_eq (T_Cube.eql a0.Cube a1.Cube)) ?_
  refine tb (x := (vb ((decide (a0.Prio = a1.Prio)) && (decide (a0.Cube = a1.Cube))))) (pick_and (fun h9 => gv_t h9)) ?_
  exact rf_ret rfl

/-! railpoint/rule.Table$1 -/
def an_rule_Table_1 : Ann := .seq (.reg 0 [] [] []) (.seq (.reg 0 [] [] []) (.no))
noncomputable def sem_rule_Table_1 (n : Nat) (xs : List V) : Option V := if xs.length ≤ 7 then denF Tryd.prog (envOf [(23, (sem_rule_Key n))]) n Tryd.f22 an_rule_Table_1 xs else none
theorem ok_rule_Table_1 (n : Nat) : SemOk Tryd.prog DW 22 (sem_rule_Table_1 n) := fun xs y h => by
  unfold sem_rule_Table_1 at h
  split at h
  · rename_i hl
    exact denF_ok stb Tryd.func22 (by kernel_rfl) (envOf_ok (semsOk_cons (ok_rule_Key n) semsOk_nil)) (by rw [Tryd.ntmps22]; exact hl) h
  · cases h
theorem eq_rule_Table_1 (n : Nat) (x0 x1 : V) : sem_rule_Table_1 n [x0, x1] =
 (V.cellsO x0).bind fun v1 =>
 (ldk (some 6) (List.drop 0 v1)).bind fun v2 =>
 (ldp (some 6) x1).bind fun v3 =>
 ((sem_rule_Key n) [v2, v3]).bind fun v4 =>
 some v4 := by kernel_rfl
noncomputable def t_rule_Table_1 (a0 : T_Rule) (a1 : T_Rule) : Option Bool :=
 (t_rule_Key a0 a1).bind fun r5 =>
 some r5
theorem ty_rule_Table_1 {n : Nat} (hn : bigN ≤ n) (a0 : T_Rule) (a1 : T_Rule) : Rv (fun x : Bool => (vb x)) (sem_rule_Table_1 n [(T_Rule.e a0), (V.ptr (T_Rule.c a1))]) (t_rule_Table_1 a0 a1) := by
  rw [eq_rule_Table_1]
  unfold t_rule_Table_1
  refine tb (x := (T_Rule.c a0)) rfl ?_
  refine tb (x := (T_Rule.e a0)) (rfl) ?_
  refine tb (x := (T_Rule.e a1)) (rfl) ?_
  refine tbo (ty_rule_Key hn a0 a1) fun r5 => ?_
  exact rf_ret rfl

/-! railpoint/rule.Table -/
def an_rule_Table : Ann := .seq (.reg 0 [] [] []) (.seq (.seq (.reg 0 [] [] []) (.cond none (.seq (.reg 0 [] [] []) (.no)) (.no))) (.seq (.seq (.reg 0 [] [] []) (.blk (some []) (.loop [.s 12] (.seq (.reg 0 [] [] []) (.seq (.cond none (.no) (.no)) (.seq (.blk none (.seq (.reg 0 [] [] []) (.seq (.seq (.reg 0 [4] [] []) (.seq (.reg 0 [] [] []) (.cond none (.seq (.reg 0 [] [] []) (.no)) (.no)))) (.seq (.reg 0 [] [] []) (.cond none (.seq (.reg 0 [] [] []) (.no)) (.no)))))) (.reg 0 [] [] []))))))) (.seq (.reg 0 [] [] []) (.no))))
noncomputable def sem_rule_Table (n : Nat) (xs : List V) : Option V := if xs.length ≤ 29 then denF Tryd.prog (envOf [(10, (sem_rule_Check n)), (21, (sem_slices_ContainsFunc_api_Table_api_Rule (envOf [(22, (sem_rule_Table_1 n))]) n)), (22, (sem_rule_Table_1 n))]) n Tryd.f13 an_rule_Table xs else none
theorem ok_rule_Table (n : Nat) : SemOk Tryd.prog DW 13 (sem_rule_Table n) := fun xs y h => by
  unfold sem_rule_Table at h
  split at h
  · rename_i hl
    exact denF_ok stb Tryd.func13 (by kernel_rfl) (envOf_ok (semsOk_cons (ok_rule_Check n) (semsOk_cons (ok_slices_ContainsFunc_api_Table_api_Rule (envOf_ok (semsOk_cons (ok_rule_Table_1 n) semsOk_nil)) n) (semsOk_cons (ok_rule_Table_1 n) semsOk_nil)))) (by rw [Tryd.ntmps13]; exact hl) h
  · cases h
theorem eq_rule_Table (n : Nat) (x0 : V) : sem_rule_Table n [x0] =
 (lenS [x0]).bind fun v1 =>
 (bin2 Tryd.prog BinOp.gtr 3 (ot 7) (oc 12) v1 (vi 12)).bind fun v2 =>
 condV v2 (
 (scal1 Tryd.prog (Instr.makeInterface 42) (vi 4)).bind fun v3 =>
 some v3) (
 (lenS [x0]).bind fun v4 =>
 JoinPt (fun vs5 =>
 some vn) fun J6 =>
 (fixN (fun rec7 vs8 =>
 (bin2 Tryd.prog BinOp.lss 3 (ot 12) (ot 11) (List.getD vs8 0 V.any) v4).bind fun v9 =>
 condV v9 (
 (idxS 6 x0 (List.getD vs8 0 V.any)).bind fun v10 =>
 (ldp (some 6) v10).bind fun v11 =>
 (spliceV [(vi 0), (vi 0), (vi 0), (vi 0), (vi 0), (vi 0)] 0 6 v11).bind fun v12 =>
 (ldp (some 6) (V.ptr (aggL v12))).bind fun v13 =>
 ((sem_rule_Check n) [v13]).bind fun v14 =>
 (bin2 Tryd.prog BinOp.neq 29 (ot 19) (Operand.const Go.Value.nilIface) v14 vn).bind fun v15 =>
 condV v15 (
 some v14) (
 (slc (some 6) x0 none (some (List.getD vs8 0 V.any))).bind fun v16 =>
 ((sem_slices_ContainsFunc_api_Table_api_Rule (envOf [(22, (sem_rule_Table_1 n))]) n) [v16, (V.fn 22 [(V.ptr (aggL v12))])]).bind fun v17 =>
 condV v17 (
 (scal1 Tryd.prog (Instr.makeInterface 42) (vi 7)).bind fun v18 =>
 some v18) (
 (bin2 Tryd.prog BinOp.add 3 (ot 12) (oc 1) (List.getD vs8 0 V.any) (vi 1)).bind fun v19 =>
 rec7 [v19]))) (
 J6 [])) n) [(vi 0)]) := by kernel_rfl
noncomputable def t_rule_Table (a0 : (List T_Rule)) : Option Int :=
 if (decide (12 < (List.length a0 : Int))) = true then (
 some 4) else (
 join (fun (s8 : Unit) =>
 some 0) fun j9 =>
 loopI a0 (fun (i17 : Int) x18 (s13 : Unit) k14 =>
 (t_rule_Check x18).bind fun r28 =>
 if (!decide (r28 = 0)) = true then (
 some r28) else (
 (slc_hi a0 i17).bind fun r32 =>
 (t_slices_ContainsFunc_api_Table_api_Rule r32 (fun (a33 : T_Rule) => t_rule_Table_1 a33 x18)).bind fun r35 =>
 if r35 = true then (
 some 7) else (
 k14 ()))) (fun (s13 : Unit) =>
 j9 ()) ())
theorem ty_rule_Table {n : Nat} (hn : bigN ≤ n) (a0 : (List T_Rule)) : Rv (fun x : Int => (eV x)) (sem_rule_Table n [(V.sl (List.map T_Rule.c a0))]) (t_rule_Table a0) := by
  rw [eq_rule_Table]
  unfold t_rule_Table
  refine tb (x := (vi (List.length a0 : Int))) (p_len _) ?_
  refine tb (x := (vb (decide (12 < (List.length a0 : Int))))) (d_gtr) ?_
  refine tcond (fun h3 => ?_) (fun h3 => ?_)
  · refine tb (x := (eV 4)) (p_mkE (by decide)) ?_
    exact rf_ret rfl
  · refine tb (x := (vi (List.length a0 : Int))) (p_len _) ?_
    refine tjoin (mk := fun s8 : Unit => []) (fun s8 => ?_) fun J7 j9 h10 => ?_
    · exact rf_ret rfl
    · refine rf_loopI (mk := fun (i17 : Int) (s13 : Unit) => [(vi (i17 : Int))]) hn a0 () (fun i17 x18 h19 h20 h21 s13 rec11 k14 h15 => ?_) (fun s13 rec40 h39 => ?_)
      · refine tb (x := (vb (decide ((i17 : Int) < (List.length a0 : Int))))) (d_lss) ?_
        refine tcond_t h21 ?_
        refine tb (x := (V.ptr (T_Rule.c x18))) (p_idx_at (c := T_Rule.c) (fun _ => rfl) h19) ?_
        refine tb (x := (T_Rule.e x18)) (rfl) ?_
        refine tb (x := V.agg (T_Rule.c x18)) (by kernel_rfl) ?_
        refine tb (x := (T_Rule.e x18)) (rfl) ?_
        refine tbo (ty_rule_Check hn x18) fun r28 => ?_
        refine tb (x := (vb (!decide (r28 = 0)))) (p_err_neq _) ?_
        refine tcond (fun h30 => ?_) (fun h30 => ?_)
        · exact rf_ret rfl
        · refine tbo (p_slc_hi (c := T_Rule.c) (fun _ => rfl) a0 (i17 : Int)) fun r32 => ?_
          refine tbo (ty_slices_ContainsFunc_api_Table_api_Rule (E := (envOf [(22, (sem_rule_Table_1 n))])) (x1 := (V.fn 22 [(V.ptr (T_Rule.c x18))])) (g1 := (fun (a33 : T_Rule) => t_rule_Table_1 a33 x18)) hn r32 (fun a33 => ty_rule_Table_1 hn a33 x18)) fun r35 => ?_
          refine tcond (fun h36 => ?_) (fun h36 => ?_)
          · refine tb (x := (eV 7)) (p_mkE (by decide)) ?_
            exact rf_ret rfl
          · refine tb (x := (vi ((i17 : Int) + 1))) (p_incN h20) ?_
            exact h15 ()
      · refine tb (x := (vb (decide ((List.length a0 : Int) < (List.length a0 : Int))))) (d_lss) ?_
        refine tcond_f h39 ?_
        exact h10 ()

/-! cmp.isNaN int  -/
def an_cmp_isNaN_int : Ann := .seq (.reg 0 [] [] []) (.seq (.reg 0 [] [] []) (.no))
noncomputable def sem_cmp_isNaN_int (n : Nat) (xs : List V) : Option V := if xs.length ≤ 6 then denF Tryd.prog (envOf []) n Tryd.f43 an_cmp_isNaN_int xs else none
theorem ok_cmp_isNaN_int (n : Nat) : SemOk Tryd.prog DW 43 (sem_cmp_isNaN_int n) := fun xs y h => by
  unfold sem_cmp_isNaN_int at h
  split at h
  · rename_i hl
    exact denF_ok stb Tryd.func43 (by kernel_rfl) (envOf_ok semsOk_nil) (by rw [Tryd.ntmps43]; exact hl) h
  · cases h
theorem eq_cmp_isNaN_int (n : Nat) (x0 : V) : sem_cmp_isNaN_int n [x0] =
 (bin2 Tryd.prog BinOp.neq 3 (ot 3) (ot 4) x0 x0).bind fun v1 =>
 some v1 := by kernel_rfl
noncomputable def t_cmp_isNaN_int (a0 : Int) : Option Bool :=
 some (decide (a0 ≠ a0))
theorem ty_cmp_isNaN_int {n : Nat} (hn : bigN ≤ n) (a0 : Int) : Rv (fun x : Bool => (vb x)) (sem_cmp_isNaN_int n [(vi a0)]) (t_cmp_isNaN_int a0) := by
  rw [eq_cmp_isNaN_int]
  unfold t_cmp_isNaN_int
  refine tb (x := (vb (decide (a0 ≠ a0)))) (d_neq) ?_
  exact rf_ret rfl

/-! cmp.Compare int  -/
def an_cmp_Compare_int : Ann := .seq (.reg 0 [] [] []) (.seq (.reg 0 [] [] []) (.seq (.reg 0 [] [] []) (.seq (.seq (.reg 0 [] [] []) (.cond none (.seq (.seq (.reg 0 [] [] []) (.cond none (.seq (.reg 0 [] [] []) (.no)) (.no))) (.seq (.reg 0 [] [] []) (.no))) (.no))) (.seq (.seq (.reg 0 [] [] []) (.cond none (.seq (.reg 0 [] [] []) (.no)) (.no))) (.seq (.seq (.reg 0 [] [] []) (.cond none (.seq (.reg 0 [] [] []) (.no)) (.no))) (.seq (.seq (.reg 0 [] [] []) (.cond none (.seq (.reg 0 [] [] []) (.no)) (.no))) (.seq (.reg 0 [] [] []) (.no))))))))
noncomputable def sem_cmp_Compare_int (n : Nat) (xs : List V) : Option V := if xs.length ≤ 20 then denF Tryd.prog (envOf [(43, (sem_cmp_isNaN_int n))]) n Tryd.f32 an_cmp_Compare_int xs else none
theorem ok_cmp_Compare_int (n : Nat) : SemOk Tryd.prog DW 32 (sem_cmp_Compare_int n) := fun xs y h => by
  unfold sem_cmp_Compare_int at h
  split at h
  · rename_i hl
    exact denF_ok stb Tryd.func32 (by kernel_rfl) (envOf_ok (semsOk_cons (ok_cmp_isNaN_int n) semsOk_nil)) (by rw [Tryd.ntmps32]; exact hl) h
  · cases h
theorem eq_cmp_Compare_int (n : Nat) (x0 x1 : V) : sem_cmp_Compare_int n [x0, x1] =
 ((sem_cmp_isNaN_int n) [x0]).bind fun v1 =>
 ((sem_cmp_isNaN_int n) [x1]).bind fun v2 =>
 condV v1 (
 condV v2 (
 some (vi 0)) (
 some (vi (-1 : Int)))) (
 condV v2 (
 some (vi 1)) (
 (bin2 Tryd.prog BinOp.lss 3 (ot 14) (ot 15) x0 x1).bind fun v3 =>
 condV v3 (
 some (vi (-1 : Int))) (
 (bin2 Tryd.prog BinOp.gtr 3 (ot 17) (ot 18) x0 x1).bind fun v4 =>
 condV v4 (
 some (vi 1)) (
 some (vi 0))))) := by kernel_rfl
noncomputable def t_cmp_Compare_int (a0 : Int) (a1 : Int) : Option Int :=
 (t_cmp_isNaN_int a0).bind fun r2 =>
 (t_cmp_isNaN_int a1).bind fun r4 =>
 if r2 = true then (
 if r4 = true then (
 some 0) else (
 some (-1 : Int))) else (
 if r4 = true then (
 some 1) else (
 if (decide (a0 < a1)) = true then (
 some (-1 : Int)) else (
 if (decide (a1 < a0)) = true then (
 some 1) else (
 some 0))))
theorem ty_cmp_Compare_int {n : Nat} (hn : bigN ≤ n) (a0 : Int) (a1 : Int) : Rv (fun x : Int => (vi x)) (sem_cmp_Compare_int n [(vi a0), (vi a1)]) (t_cmp_Compare_int a0 a1) := by
  rw [eq_cmp_Compare_int]
  unfold t_cmp_Compare_int
  refine tbo (ty_cmp_isNaN_int hn a0) fun r2 => ?_
  refine tbo (ty_cmp_isNaN_int hn a1) fun r4 => ?_
  refine tcond (fun h5 => ?_) (fun h5 => ?_)
  · refine tcond (fun h6 => ?_) (fun h6 => ?_)
    · exact rf_ret rfl
    · exact rf_ret rfl
  · refine tcond (fun h7 => ?_) (fun h7 => ?_)
    · exact rf_ret rfl
    · refine tb (x := (vb (decide (a0 < a1)))) (d_lss) ?_
      refine tcond (fun h9 => ?_) (fun h9 => ?_)
      · exact rf_ret rfl
      · refine tb (x := (vb (decide (a1 < a0)))) (d_gtr) ?_
        refine tcond (fun h11 => ?_) (fun h11 => ?_)
        · exact rf_ret rfl
        · exact rf_ret rfl

/-! cmp.Or int  -/
def an_cmp_Or_int : Ann := .seq (.reg 0 [] [] []) (.seq (.reg 0 [] [] []) (.seq (.seq (.reg 0 [] [] []) (.blk (some []) (.loop [.s 8] (.seq (.reg 0 [] [] []) (.seq (.cond none (.no) (.no)) (.seq (.blk none (.seq (.reg 0 [] [] []) (.seq (.reg 0 [] [] []) (.cond none (.seq (.reg 0 [] [] []) (.no)) (.no))))) (.reg 0 [] [] []))))))) (.seq (.reg 0 [] [] []) (.no))))
noncomputable def sem_cmp_Or_int (n : Nat) (xs : List V) : Option V := if xs.length ≤ 18 then denF Tryd.prog (envOf []) n Tryd.f31 an_cmp_Or_int xs else none
theorem ok_cmp_Or_int (n : Nat) : SemOk Tryd.prog DW 31 (sem_cmp_Or_int n) := fun xs y h => by
  unfold sem_cmp_Or_int at h
  split at h
  · rename_i hl
    exact denF_ok stb Tryd.func31 (by kernel_rfl) (envOf_ok semsOk_nil) (by rw [Tryd.ntmps31]; exact hl) h
  · cases h
theorem eq_cmp_Or_int (n : Nat) (x0 : V) : sem_cmp_Or_int n [x0] =
 (lenS [x0]).bind fun v1 =>
 JoinPt (fun vs2 =>
 some (vi 0)) fun J3 =>
 (fixN (fun rec4 vs5 =>
 (bin2 Tryd.prog BinOp.lss 3 (ot 8) (ot 7) (List.getD vs5 0 V.any) v1).bind fun v6 =>
 condV v6 (
 (idxS 1 x0 (List.getD vs5 0 V.any)).bind fun v7 =>
 (ldp none v7).bind fun v8 =>
 (bin2 Tryd.prog BinOp.neq 3 (ot 12) (ot 13) v8 (vi 0)).bind fun v9 =>
 condV v9 (
 some v8) (
 (bin2 Tryd.prog BinOp.add 3 (ot 8) (oc 1) (List.getD vs5 0 V.any) (vi 1)).bind fun v10 =>
 rec4 [v10])) (
 J3 [])) n) [(vi 0)] := by kernel_rfl
noncomputable def t_cmp_Or_int (a0 : (List Int)) : Option Int :=
 join (fun (s4 : Unit) =>
 some 0) fun j5 =>
 loopI a0 (fun (i13 : Int) x14 (s9 : Unit) k10 =>
 if (decide (x14 ≠ 0)) = true then (
 some x14) else (
 k10 ())) (fun (s9 : Unit) =>
 j5 ()) ()
theorem ty_cmp_Or_int {n : Nat} (hn : bigN ≤ n) (a0 : (List Int)) : Rv (fun x : Int => (vi x)) (sem_cmp_Or_int n [(V.sl (List.map cI a0))]) (t_cmp_Or_int a0) := by
  rw [eq_cmp_Or_int]
  unfold t_cmp_Or_int
  refine tb (x := (vi (List.length a0 : Int))) (p_len _) ?_
  refine tjoin (mk := fun s4 : Unit => []) (fun s4 => ?_) fun J3 j5 h6 => ?_
  · exact rf_ret rfl
  · refine rf_loopI (mk := fun (i13 : Int) (s9 : Unit) => [(vi (i13 : Int))]) hn a0 () (fun i13 x14 h15 h16 h17 s9 rec7 k10 h11 => ?_) (fun s9 rec25 h24 => ?_)
    · refine tb (x := (vb (decide ((i13 : Int) < (List.length a0 : Int))))) (d_lss) ?_
      refine tcond_t h17 ?_
      refine tb (x := (V.ptr [(vi x14)])) (p_idx_at (c := cI) (fun _ => rfl) h15) ?_
      refine tb (x := (vi x14)) (rfl) ?_
      refine tb (x := (vb (decide (x14 ≠ 0)))) (d_neq) ?_
      refine tcond (fun h22 => ?_) (fun h22 => ?_)
      · exact rf_ret rfl
      · refine tb (x := (vi ((i13 : Int) + 1))) (p_incN h16) ?_
        exact h11 ()
    · refine tb (x := (vb (decide ((List.length a0 : Int) < (List.length a0 : Int))))) (d_lss) ?_
      refine tcond_f h24 ?_
      exact h6 ()

/-! railpoint/rule.above -/
def an_rule_above : Ann := .seq (.reg 0 [] [] []) (.seq (.reg 22 [] [] []) (.no))
noncomputable def sem_rule_above (n : Nat) (xs : List V) : Option V := if xs.length ≤ 26 then denF Tryd.prog (envOf [(32, (sem_cmp_Compare_int n)), (31, (sem_cmp_Or_int n))]) n Tryd.f24 an_rule_above xs else none
theorem ok_rule_above (n : Nat) : SemOk Tryd.prog DW 24 (sem_rule_above n) := fun xs y h => by
  unfold sem_rule_above at h
  split at h
  · rename_i hl
    exact denF_ok stb Tryd.func24 (by kernel_rfl) (envOf_ok (semsOk_cons (ok_cmp_Compare_int n) (semsOk_cons (ok_cmp_Or_int n) semsOk_nil))) (by rw [Tryd.ntmps24]; exact hl) h
  · cases h
theorem eq_rule_above (n : Nat) (x0 x1 : V) : sem_rule_above n [x0, x1] =
 (V.cellsO x0).bind fun v1 =>
 (V.cellsO x1).bind fun v2 =>
 (ldk none (List.drop 0 v1)).bind fun v3 =>
 (ldk none (List.drop 0 v2)).bind fun v4 =>
 ((sem_cmp_Compare_int n) [v3, v4]).bind fun v5 =>
 (ldk none (List.drop 1 v1)).bind fun v6 =>
 (ldk none (List.drop 1 v2)).bind fun v7 =>
 ((sem_cmp_Compare_int n) [v6, v7]).bind fun v8 =>
 (ldk none (List.drop 2 v1)).bind fun v9 =>
 (ldk none (List.drop 2 v2)).bind fun v10 =>
 ((sem_cmp_Compare_int n) [v9, v10]).bind fun v11 =>
 (slcB 1 3 [(vi 0)] [(0, v5), (1, v8), (2, v11)]).bind fun v12 =>
 ((sem_cmp_Or_int n) [v12]).bind fun v13 =>
 some v13 := by kernel_rfl
noncomputable def t_rule_above (a0 : T_Rule) (a1 : T_Rule) : Option Int :=
 (t_cmp_Compare_int a0.Prio a1.Prio).bind fun r6 =>
 (t_cmp_Compare_int a0.Cube.Mask a1.Cube.Mask).bind fun r10 =>
 (t_cmp_Compare_int a0.Cube.Bits a1.Cube.Bits).bind fun r14 =>
 (t_cmp_Or_int ([r6, r10, r14] : (List Int))).bind fun r17 =>
 some r17
theorem ty_rule_above {n : Nat} (hn : bigN ≤ n) (a0 : T_Rule) (a1 : T_Rule) : Rv (fun x : Int => (vi x)) (sem_rule_above n [(T_Rule.e a0), (T_Rule.e a1)]) (t_rule_above a0 a1) := by
  rw [eq_rule_above]
  unfold t_rule_above
  refine tb (x := (T_Rule.c a0)) rfl ?_
  refine tb (x := (T_Rule.c a1)) rfl ?_
  refine tb (x := (vi a0.Prio)) (rfl) ?_
  refine tb (x := (vi a1.Prio)) (rfl) ?_
  refine tbo (ty_cmp_Compare_int hn a0.Prio a1.Prio) fun r6 => ?_
  refine tb (x := (vi a0.Cube.Mask)) (rfl) ?_
  refine tb (x := (vi a1.Cube.Mask)) (rfl) ?_
  refine tbo (ty_cmp_Compare_int hn a0.Cube.Mask a1.Cube.Mask) fun r10 => ?_
  refine tb (x := (vi a0.Cube.Bits)) (rfl) ?_
  refine tb (x := (vi a1.Cube.Bits)) (rfl) ?_
  refine tbo (ty_cmp_Compare_int hn a0.Cube.Bits a1.Cube.Bits) fun r14 => ?_
  refine tb (x := (V.sl (List.map cI ([r6, r10, r14] : (List Int))))) (by kernel_rfl) ?_
  refine tbo (ty_cmp_Or_int hn ([r6, r10, r14] : (List Int))) fun r17 => ?_
  exact rf_ret rfl

/-! railpoint/rule.Find -/
def an_rule_Find : Ann := .seq (.reg 0 [] [] []) (.seq (.reg 0 [] [] []) (.seq (.seq (.reg 0 [] [] []) (.blk (some [.s 5]) (.loop [.s 5, .s 10] (.seq (.reg 0 [] [] []) (.seq (.cond none (.no) (.no)) (.seq (.blk none (.seq (.reg 0 [] [] []) (.seq (.reg 22 [] [] []) (.cond (some [.s 5]) (.reg 0 [] [] []) (.no))))) (.reg 0 [] [] []))))))) (.seq (.reg 0 [] [] []) (.no))))
noncomputable def sem_rule_Find (n : Nat) (xs : List V) : Option V := if xs.length ≤ 40 then denF Tryd.prog (envOf [(24, (sem_rule_above n))]) n Tryd.f15 an_rule_Find xs else none
theorem ok_rule_Find (n : Nat) : SemOk Tryd.prog DW 15 (sem_rule_Find n) := fun xs y h => by
  unfold sem_rule_Find at h
  split at h
  · rename_i hl
    exact denF_ok stb Tryd.func15 (by kernel_rfl) (envOf_ok (semsOk_cons (ok_rule_above n) semsOk_nil)) (by rw [Tryd.ntmps15]; exact hl) h
  · cases h
theorem eq_rule_Find (n : Nat) (x0 x1 : V) : sem_rule_Find n [x0, x1] =
 (lenS [x0]).bind fun v1 =>
 JoinPt (fun vs2 =>
 some (List.getD vs2 0 V.any)) fun J3 =>
 (fixN (fun rec4 vs5 =>
 (bin2 Tryd.prog BinOp.lss 3 (ot 10) (ot 9) (List.getD vs5 1 V.any) v1).bind fun v6 =>
 condV v6 (
 (idxS 6 x0 (List.getD vs5 1 V.any)).bind fun v7 =>
 (ldp (some 6) v7).bind fun v8 =>
 (spliceV [(vi 0), (vi 0), (vi 0), (vi 0), (vi 0), (vi 0)] 0 6 v8).bind fun v9 =>
 (ldk none (List.drop 1 (aggL v9))).bind fun v10 =>
 (bin2 Tryd.prog BinOp.and 3 (ot 15) (ot 18) x1 v10).bind fun v11 =>
 (ldk none (List.drop 2 (aggL v9))).bind fun v12 =>
 (bin2 Tryd.prog BinOp.eql 3 (ot 19) (ot 22) v11 v12).bind fun v13 =>
 (guardV v13 true (some (List.getD vs5 0 V.any))).bind fun v14 =>
 (guardV v13 true ((bin2 Tryd.prog BinOp.lss 3 (ot 25) (oc 0) v14 (vi 0)).bind fun v15 =>
 some v15)).bind fun v16 =>
 (guardV v13 true (some v16)).bind fun v17 =>
 (guardV v17 false ((ldk (some 6) (List.drop 0 (aggL v9))).bind fun v18 =>
 some v18)).bind fun v19 =>
 (guardV v17 false (some x0)).bind fun v20 =>
 (guardV v17 false (some (List.getD vs5 0 V.any))).bind fun v21 =>
 (guardV v17 false ((idxS 6 v20 v21).bind fun v22 =>
 some v22)).bind fun v23 =>
 (guardV v17 false ((ldp (some 6) v23).bind fun v24 =>
 some v24)).bind fun v25 =>
 (guardV v17 false (((sem_rule_above n) [v19, v25]).bind fun v26 =>
 some v26)).bind fun v27 =>
 (guardV v17 false ((bin2 Tryd.prog BinOp.gtr 3 (ot 33) (oc 0) v27 (vi 0)).bind fun v28 =>
 some v28)).bind fun v29 =>
 (guardV v13 true ((pickV v17 (vb true) v29).bind fun v30 =>
 some v30)).bind fun v31 =>
 (pickV v13 v31 (vb false)).bind fun v32 =>
 JoinPt (fun vs33 =>
 (bin2 Tryd.prog BinOp.add 3 (ot 10) (oc 1) (List.getD vs5 1 V.any) (vi 1)).bind fun v35 =>
 rec4 [(List.getD vs33 0 V.any), v35]) fun J34 =>
 condV v32 (
 J34 [(List.getD vs5 1 V.any)]) (
 J34 [(List.getD vs5 0 V.any)])) (
 J3 [(List.getD vs5 0 V.any)])) n) [(vi (-1 : Int)), (vi 0)] := by kernel_rfl
noncomputable def t_rule_Find (a0 : (List T_Rule)) (a1 : Int) : Option Int :=
 (loopI a0 (fun (i13 : Int) x14 (s9 : Int) k10 =>
 (gd ((decide ((bits .and .i64 a1 x14.Cube.Mask) = x14.Cube.Bits)) && (!(decide (s9 < 0)))) default (idx a0 s9)).bind fun r43 =>
 (gd ((decide ((bits .and .i64 a1 x14.Cube.Mask) = x14.Cube.Bits)) && (!(decide (s9 < 0)))) default (t_rule_above x14 r43)).bind fun r50 =>
 (if ((decide ((bits .and .i64 a1 x14.Cube.Mask) = x14.Cube.Bits)) && ((decide (s9 < 0)) || (decide (0 < r50)))) = true then (
 some i13) else (
 some (s9))).bind fun (s60 : Int) =>
 k10 (s60)) (fun (s9 : Int) =>
 some (s9)) (-1 : Int)).bind fun (s4 : Int) =>
 some s4
theorem ty_rule_Find {n : Nat} (hn : bigN ≤ n) (a0 : (List T_Rule)) (a1 : Int) : Rv (fun x : Int => (vi x)) (sem_rule_Find n [(V.sl (List.map T_Rule.c a0)), (vi a1)]) (t_rule_Find a0 a1) := by
  rw [eq_rule_Find]
  unfold t_rule_Find
  refine tb (x := (vi (List.length a0 : Int))) (p_len _) ?_
  refine tjb (mk := fun s4 : Int => [(vi s4)]) (fun J3 => ?_) fun s4 => ?_
  · refine rf_loopI (mk := fun (i13 : Int) (s9 : Int) => [(vi s9), (vi (i13 : Int))]) hn a0 (-1 : Int) (fun i13 x14 h15 h16 h17 s9 rec7 k10 h11 => ?_) (fun s9 rec66 h65 => ?_)
    · refine tb (x := (vb (decide ((i13 : Int) < (List.length a0 : Int))))) (d_lss) ?_
      refine tcond_t h17 ?_
      refine tb (x := (V.ptr (T_Rule.c x14))) (p_idx_at (c := T_Rule.c) (fun _ => rfl) h15) ?_
      refine tb (x := (T_Rule.e x14)) (rfl) ?_
      refine tb (x := V.agg (T_Rule.c x14)) (by kernel_rfl) ?_
      refine tb (x := (vi x14.Cube.Mask)) (rfl) ?_
      refine tb (x := (vi (bits .and .i64 a1 x14.Cube.Mask))) (d_and) ?_
      refine tb (x := (vi x14.Cube.Bits)) (rfl) ?_
      refine tb (x := (vb (decide ((bits .and .i64 a1 x14.Cube.Mask) = x14.Cube.Bits)))) (d_eql) ?_
      refine tg (x := (vi s9)) (fun h26 => rfl) ?_
      refine tg (x := (vb (decide (s9 < 0)))) (fun h28 => by simp only [gv_t h28]; exact bind_some_eq (d_lss)) ?_
      refine tg (x := (vb (decide (s9 < 0)))) (fun h31 => congrArg some (gv_t h31)) ?_
      refine tg2_f (x := (T_Rule.e x14)) (fun h33 => bind_some_eq (rfl)) ?_
      refine tg2_f (x := (V.sl (List.map T_Rule.c a0))) (fun h36 => rfl) ?_
      refine tg2_f (x := (vi s9)) (fun h38 => rfl) ?_
      refine tgo2_f (fun h40 => by simp only [gv_t h40]; exact rf_bind_some (p_idx (c := T_Rule.c) (fun _ => rfl) a0 s9)) fun r43 => ?_
      refine tg2_f (x := (T_Rule.e r43)) (fun h44 => by first | exact bind_some_eq (rfl) | (simp only [gv_t h44]; exact bind_some_eq (rfl))) ?_
      refine tgo2_f (fun h47 => by simp only [gv_t h47]; exact rf_bind_some (ty_rule_above hn x14 r43)) fun r50 => ?_
      refine tg2_f (x := (vb (decide (0 < r50)))) (fun h51 => by simp only [gv_t h51]; exact bind_some_eq (d_gtr)) ?_
      refine tg (x := (vb ((decide (s9 < 0)) || (decide (0 < r50))))) (fun h54 => by simp only [gv_t h54]; exact bind_some_eq (pick_or (fun h9 => gv_t (and_i h54 (not_f h9))))) ?_
      refine tb (x := (vb ((decide ((bits .and .i64 a1 x14.Cube.Mask) = x14.Cube.Bits)) && ((decide (s9 < 0)) || (decide (0 < r50)))))) (pick_and (fun h9 => gv_t h9)) ?_
      refine tjb (mk := fun s60 : Int => [(vi s60)]) (fun J59 => ?_) fun s60 => ?_
      · refine tcond (fun h64 => ?_) (fun h64 => ?_)
        · exact rf_j rfl
        · exact rf_j rfl
      · refine tb (x := (vi ((i13 : Int) + 1))) (p_incN h16) ?_
        exact h11 (s60)
    · refine tb (x := (vb (decide ((List.length a0 : Int) < (List.length a0 : Int))))) (d_lss) ?_
      refine tcond_f h65 ?_
      exact rf_j rfl
  · exact rf_ret rfl

/-! railpoint/rule.Lookup -/
def an_rule_Lookup : Ann := .seq (.reg 0 [] [] []) (.seq (.seq (.reg 0 [] [] []) (.seq (.reg 0 [] [] []) (.cond none (.seq (.reg 0 [] [] []) (.no)) (.no)))) (.seq (.seq (.reg 0 [] [] []) (.cond none (.seq (.reg 0 [] [] []) (.no)) (.no))) (.seq (.reg 0 [] [] []) (.seq (.seq (.reg 0 [] [] []) (.cond none (.seq (.reg 0 [] [] []) (.no)) (.no))) (.seq (.reg 0 [] [] []) (.no))))))
noncomputable def sem_rule_Lookup (n : Nat) (xs : List V) : Option V := if xs.length ≤ 24 then denF Tryd.prog (envOf [(13, (sem_rule_Table n)), (14, (sem_cube_Header n)), (15, (sem_rule_Find n))]) n Tryd.f6 an_rule_Lookup xs else none
theorem ok_rule_Lookup (n : Nat) : SemOk Tryd.prog DW 6 (sem_rule_Lookup n) := fun xs y h => by
  unfold sem_rule_Lookup at h
  split at h
  · rename_i hl
    exact denF_ok stb Tryd.func6 (by kernel_rfl) (envOf_ok (semsOk_cons (ok_rule_Table n) (semsOk_cons (ok_cube_Header n) (semsOk_cons (ok_rule_Find n) semsOk_nil)))) (by rw [Tryd.ntmps6]; exact hl) h
  · cases h
theorem eq_rule_Lookup (n : Nat) (x0 x1 : V) : sem_rule_Lookup n [x0, x1] =
 ((sem_rule_Table n) [x0]).bind fun v1 =>
 (bin2 Tryd.prog BinOp.neq 29 (ot 10) (Operand.const Go.Value.nilIface) v1 vn).bind fun v2 =>
 condV v2 (
 some (V.tup [(vi 0), v1])) (
 ((sem_cube_Header n) [x1]).bind fun v3 =>
 (scal1 Tryd.prog (Op.unary Go.UnOp.not) v3).bind fun v4 =>
 condV v4 (
 (scal1 Tryd.prog (Instr.makeInterface 42) (vi 1)).bind fun v5 =>
 some (V.tup [(vi 0), v5])) (
 ((sem_rule_Find n) [x0, x1]).bind fun v6 =>
 (bin2 Tryd.prog BinOp.lss 3 (ot 20) (oc 0) v6 (vi 0)).bind fun v7 =>
 condV v7 (
 (scal1 Tryd.prog (Instr.makeInterface 42) (vi 5)).bind fun v8 =>
 some (V.tup [(vi 0), v8])) (
 some (V.tup [v6, vn])))) := by kernel_rfl
noncomputable def t_rule_Lookup (a0 : (List T_Rule)) (a1 : Int) : Option (Int × Int) :=
 (t_rule_Table a0).bind fun r2 =>
 if (!decide (r2 = 0)) = true then (
 some (0, r2)) else (
 (t_cube_Header a1).bind fun r6 =>
 if (!r6) = true then (
 some (0, 1)) else (
 (t_rule_Find a0 a1).bind fun r11 =>
 if (decide (r11 < 0)) = true then (
 some (0, 5)) else (
 some (r11, 0))))
theorem ty_rule_Lookup {n : Nat} (hn : bigN ≤ n) (a0 : (List T_Rule)) (a1 : Int) : Rv (fun x : (Int × Int) => V.tup [(vi x.1), (eV x.2)]) (sem_rule_Lookup n [(V.sl (List.map T_Rule.c a0)), (vi a1)]) (t_rule_Lookup a0 a1) := by
  rw [eq_rule_Lookup]
  unfold t_rule_Lookup
  refine tbo (ty_rule_Table hn a0) fun r2 => ?_
  refine tb (x := (vb (!decide (r2 = 0)))) (p_err_neq _) ?_
  refine tcond (fun h4 => ?_) (fun h4 => ?_)
  · exact rf_ret rfl
  · refine tbo (ty_cube_Header hn a1) fun r6 => ?_
    refine tb (x := (vb (!r6))) (d_not) ?_
    refine tcond (fun h8 => ?_) (fun h8 => ?_)
    · refine tb (x := (eV 1)) (p_mkE (by decide)) ?_
      exact rf_ret rfl
    · refine tbo (ty_rule_Find hn a0 a1) fun r11 => ?_
      refine tb (x := (vb (decide (r11 < 0)))) (d_lss) ?_
      refine tcond (fun h13 => ?_) (fun h13 => ?_)
      · refine tb (x := (eV 5)) (p_mkE (by decide)) ?_
        exact rf_ret rfl
      · exact rf_ret rfl

/-! railpoint/cube.Has -/
def an_cube_Has : Ann := .seq (.reg 0 [] [] []) (.seq (.reg 0 [] [] []) (.no))
noncomputable def sem_cube_Has (n : Nat) (xs : List V) : Option V := if xs.length ≤ 21 then denF Tryd.prog (envOf [(16, (sem_cube_Check n)), (14, (sem_cube_Header n))]) n Tryd.f7 an_cube_Has xs else none
theorem ok_cube_Has (n : Nat) : SemOk Tryd.prog DW 7 (sem_cube_Has n) := fun xs y h => by
  unfold sem_cube_Has at h
  split at h
  · rename_i hl
    exact denF_ok stb Tryd.func7 (by kernel_rfl) (envOf_ok (semsOk_cons (ok_cube_Check n) (semsOk_cons (ok_cube_Header n) semsOk_nil))) (by rw [Tryd.ntmps7]; exact hl) h
  · cases h
theorem eq_cube_Has (n : Nat) (x0 x1 : V) : sem_cube_Has n [x0, x1] =
 (V.cellsO x0).bind fun v1 =>
 (ldk (some 2) (List.drop 0 v1)).bind fun v2 =>
 ((sem_cube_Check n) [v2]).bind fun v3 =>
 (bin2 Tryd.prog BinOp.eql 29 (ot 6) (Operand.const Go.Value.nilIface) v3 vn).bind fun v4 =>
 (guardV v4 true (some x1)).bind fun v5 =>
 (guardV v4 true (((sem_cube_Header n) [v5]).bind fun v6 =>
 some v6)).bind fun v7 =>
 (pickV v4 v7 (vb false)).bind fun v8 =>
 (guardV v8 true (some x1)).bind fun v9 =>
 (guardV v8 true (some V.any)).bind fun v10 =>
 (guardV v8 true ((gate v8 true (ldk none (List.drop 0 v1))).bind fun v11 =>
 some v11)).bind fun v12 =>
 (guardV v8 true ((bin2 Tryd.prog BinOp.and 3 (ot 13) (ot 15) v9 v12).bind fun v13 =>
 some v13)).bind fun v14 =>
 (guardV v8 true (some V.any)).bind fun v15 =>
 (guardV v8 true ((gate v8 true (ldk none (List.drop 1 v1))).bind fun v16 =>
 some v16)).bind fun v17 =>
 (guardV v8 true ((bin2 Tryd.prog BinOp.eql 3 (ot 16) (ot 18) v14 v17).bind fun v18 =>
 some v18)).bind fun v19 =>
 (pickV v8 v19 (vb false)).bind fun v20 =>
 some v20 := by kernel_rfl
noncomputable def t_cube_Has (a0 : T_Cube) (a1 : Int) : Option Bool :=
 (t_cube_Check a0).bind fun r4 =>
 (gd (decide (r4 = 0)) default (t_cube_Header a1)).bind fun r11 =>
 some (((decide (r4 = 0)) && r11) && (decide ((bits .and .i64 a1 a0.Mask) = a0.Bits)))
theorem ty_cube_Has {n : Nat} (hn : bigN ≤ n) (a0 : T_Cube) (a1 : Int) : Rv (fun x : Bool => (vb x)) (sem_cube_Has n [(T_Cube.e a0), (vi a1)]) (t_cube_Has a0 a1) := by
  rw [eq_cube_Has]
  unfold t_cube_Has
  refine tb (x := (T_Cube.c a0)) rfl ?_
  refine tb (x := (T_Cube.e a0)) (rfl) ?_
  refine tbo (ty_cube_Check hn a0) fun r4 => ?_
  refine tb (x := (vb (decide (r4 = 0)))) (p_err_eql _) ?_
  refine tg (x := (vi a1)) (fun h6 => rfl) ?_
  refine tgo (fun h8 => by simp only [gv_t h8]; exact rf_bind_some (ty_cube_Header hn a1)) fun r11 => ?_
  refine tb (x := (vb ((decide (r4 = 0)) && r11))) (pick_and (fun h9 => gv_t h9)) ?_
  refine tg (x := (vi a1)) (fun h13 => rfl) ?_
  refine tg (x := V.any) (fun h15 => rfl) ?_
  refine tg (x := (vi a0.Mask)) (fun h17 => bind_some_eq (gate_pos h17 (rfl))) ?_
  refine tg (x := (vi (bits .and .i64 a1 a0.Mask))) (fun h20 => by simp only [gv_t h20]; exact bind_some_eq (d_and)) ?_
  refine tg (x := V.any) (fun h23 => rfl) ?_
  refine tg (x := (vi a0.Bits)) (fun h25 => bind_some_eq (gate_pos h25 (rfl))) ?_
  refine tg (x := (vb (decide ((bits .and .i64 a1 a0.Mask) = a0.Bits)))) (fun h28 => by simp only [gv_t h28]; exact bind_some_eq (d_eql)) ?_
  refine tb (x := (vb (((decide (r4 = 0)) && r11) && (decide ((bits .and .i64 a1 a0.Mask) = a0.Bits))))) (pick_and (fun h9 => gv_t h9)) ?_
  exact rf_ret rfl

/-! railpoint/raillaw1.RuleBack -/
def an_raillaw1_RuleBack : Ann := .seq (.reg 0 [] [] []) (.seq (.reg 0 [] [] []) (.seq (.seq (.reg 0 [] [] []) (.cond none (.seq (.reg 0 [] [] []) (.no)) (.no))) (.seq (.reg 0 [] [] []) (.seq (.seq (.reg 0 [] [] []) (.cond (some []) (.seq (.reg 0 [] [] []) (.seq (.reg 0 [] [] []) (.cond none (.seq (.reg 0 [] [] []) (.no)) (.no)))) (.no))) (.seq (.reg 0 [] [] []) (.seq (.seq (.reg 0 [] [] []) (.cond (some []) (.seq (.reg 0 [] [] []) (.seq (.reg 0 [] [] []) (.cond none (.seq (.reg 0 [] [] []) (.no)) (.no)))) (.no))) (.seq (.reg 0 [] [] []) (.seq (.seq (.reg 0 [] [] []) (.blk (some [.s 18]) (.loop [.r 18 25, .s 19] (.seq (.seq (.reg 0 [] [] []) (.cond none (.no) (.no))) (.seq (.blk none (.reg 0 [] [] [])) (.reg 0 [] [] [])))))) (.seq (.seq (.reg 0 [] [] []) (.cond none (.seq (.reg 0 [] [] []) (.no)) (.no))) (.seq (.reg 0 [] [] []) (.seq (.reg 0 [] [] []) (.seq (.seq (.reg 5 [] [] []) (.cond none (.seq (.reg 0 [] [] []) (.no)) (.no))) (.seq (.seq (.reg 0 [] [] []) (.cond none (.seq (.reg 0 [] [] []) (.no)) (.no))) (.seq (.seq (.reg 19 [] [] []) (.cond none (.seq (.reg 0 [] [] []) (.no)) (.no))) (.seq (.seq (.reg 0 [] [] []) (.blk (some []) (.loop [.s 23] (.seq (.seq (.reg 0 [] [] []) (.cond none (.no) (.no))) (.seq (.blk none (.seq (.reg 20 [] [] []) (.cond none (.seq (.reg 0 [] [] []) (.no)) (.no)))) (.reg 0 [] [] [])))))) (.seq (.reg 0 [] [] []) (.no)))))))))))))))))
noncomputable def sem_raillaw1_RuleBack (n : Nat) (xs : List V) : Option V := if xs.length ≤ 175 then denF Tryd.prog (envOf [(4, (sem_rule_Parse n)), (5, (sem_rule_Print n)), (6, (sem_rule_Lookup n)), (7, (sem_cube_Has n))]) n Tryd.f3 an_raillaw1_RuleBack xs else none
theorem ok_raillaw1_RuleBack (n : Nat) : SemOk Tryd.prog DW 3 (sem_raillaw1_RuleBack n) := fun xs y h => by
  unfold sem_raillaw1_RuleBack at h
  split at h
  · rename_i hl
    exact denF_ok stb Tryd.func3 (by kernel_rfl) (envOf_ok (semsOk_cons (ok_rule_Parse n) (semsOk_cons (ok_rule_Print n) (semsOk_cons (ok_rule_Lookup n) (semsOk_cons (ok_cube_Has n) semsOk_nil))))) (by rw [Tryd.ntmps3]; exact hl) h
  · cases h
theorem eq_raillaw1_RuleBack (n : Nat) (x0 x1 x2 x3 : V) : sem_raillaw1_RuleBack n [x0, x1, x2, x3] =
 (V.cellsO x0).bind fun v1 =>
 ((sem_rule_Parse n) [(V.lit (Go.Value.string (ByteArray.mk #[55, 32, 49, 42, 48, 42, 32, 111, 117, 116, 32, 50, 32, 115, 101, 116, 32, 42, 42, 49, 49])))]).bind fun v2 =>
 (extractV v2 0).bind fun v3 =>
 (extractV v2 1).bind fun v4 =>
 (spliceV [(vi 0), (vi 0), (vi 0), (vi 0), (vi 0), (vi 0)] 0 6 v3).bind fun v5 =>
 (bin2 Tryd.prog BinOp.neq 29 (ot 28) (Operand.const Go.Value.nilIface) v4 vn).bind fun v6 =>
 (guardV v6 false (some V.any)).bind fun v7 =>
 (guardV v6 false ((gate v6 false (ldk none (List.drop 0 (aggL v5)))).bind fun v8 =>
 some v8)).bind fun v9 =>
 (guardV v6 false ((bin2 Tryd.prog BinOp.neq 3 (ot 32) (oc 7) v9 (vi 7)).bind fun v10 =>
 some v10)).bind fun v11 =>
 (pickV v6 (vb true) v11).bind fun v12 =>
 (guardV v12 false (some V.any)).bind fun v13 =>
 (guardV v12 false ((gate v12 false (ldk none (List.drop 3 (aggL v5)))).bind fun v14 =>
 some v14)).bind fun v15 =>
 (guardV v12 false ((bin2 Tryd.prog BinOp.neq 3 (ot 37) (oc 2) v15 (vi 2)).bind fun v16 =>
 some v16)).bind fun v17 =>
 (pickV v12 (vb true) v17).bind fun v18 =>
 (guardV v18 false (some V.any)).bind fun v19 =>
 (guardV v18 false ((gate v18 false (ldk none (List.drop 4 (aggL v5)))).bind fun v20 =>
 some v20)).bind fun v21 =>
 (guardV v18 false ((bin2 Tryd.prog BinOp.neq 3 (ot 42) (oc 3) v21 (vi 3)).bind fun v22 =>
 some v22)).bind fun v23 =>
 (pickV v18 (vb true) v23).bind fun v24 =>
 (guardV v24 false (some V.any)).bind fun v25 =>
 (guardV v24 false ((gate v24 false (ldk none (List.drop 5 (aggL v5)))).bind fun v26 =>
 some v26)).bind fun v27 =>
 (guardV v24 false ((bin2 Tryd.prog BinOp.neq 3 (ot 47) (oc 3) v27 (vi 3)).bind fun v28 =>
 some v28)).bind fun v29 =>
 (pickV v24 (vb true) v29).bind fun v30 =>
 condV v30 (
 some (vb false)) (
 (ldk (some 6) (List.drop 0 v1)).bind fun v31 =>
 ((sem_rule_Print n) [v31]).bind fun v32 =>
 (extractV v32 0).bind fun v33 =>
 (extractV v32 1).bind fun v34 =>
 (bin2 Tryd.prog BinOp.eql 29 (ot 55) (Operand.const Go.Value.nilIface) v34 vn).bind fun v35 =>
 JoinPt (fun vs36 =>
 ((sem_rule_Parse n) [x1]).bind fun v38 =>
 (extractV v38 0).bind fun v39 =>
 (extractV v38 1).bind fun v40 =>
 (spliceV [(vi 0), (vi 0), (vi 0), (vi 0), (vi 0), (vi 0)] 0 6 v39).bind fun v41 =>
 (bin2 Tryd.prog BinOp.eql 29 (ot 74) (Operand.const Go.Value.nilIface) v40 vn).bind fun v42 =>
 JoinPt (fun vs43 =>
 (lenS [x3]).bind fun v45 =>
 (bin2 Tryd.prog BinOp.sub 3 (ot 89) (oc 1) v45 (vi 1)).bind fun v46 =>
 JoinPt (fun vs47 =>
 (lenS [(List.getD vs47 0 V.any)]).bind fun v49 =>
 (lenS [x3]).bind fun v50 =>
 (bin2 Tryd.prog BinOp.neq 3 (ot 107) (ot 109) v49 v50).bind fun v51 =>
 condV v51 (
 some (vb true)) (
 ((sem_rule_Lookup n) [x3, x2]).bind fun v52 =>
 (extractV v52 0).bind fun v53 =>
 (extractV v52 1).bind fun v54 =>
 ((sem_rule_Lookup n) [(List.getD vs47 0 V.any), x2]).bind fun v55 =>
 (extractV v55 0).bind fun v56 =>
 (extractV v55 1).bind fun v57 =>
 (bin2 Tryd.prog BinOp.eql 29 (ot 123) (Operand.const Go.Value.nilIface) v54 vn).bind fun v58 =>
 (bin2 Tryd.prog BinOp.eql 29 (ot 125) (Operand.const Go.Value.nilIface) v57 vn).bind fun v59 =>
 (bin2 Tryd.prog BinOp.neq 4 (ot 124) (ot 126) v58 v59).bind fun v60 =>
 condV v60 (
 some (vb false)) (
 (bin2 Tryd.prog BinOp.neq 29 (ot 128) (Operand.const Go.Value.nilIface) v54 vn).bind fun v61 =>
 condV v61 (
 some (vb true)) (
 (idxS 6 (List.getD vs47 0 V.any) v56).bind fun v62 =>
 (ldp (some 6) v62).bind fun v63 =>
 (idxS 6 x3 v53).bind fun v64 =>
 (ldp (some 6) v64).bind fun v65 =>
 (bin2 Tryd.prog BinOp.neq 25 (ot 133) (ot 137) v63 v65).bind fun v66 =>
 (guardV v66 false (some x3)).bind fun v67 =>
 (guardV v66 false (some v53)).bind fun v68 =>
 (guardV v66 false ((idxS 6 v67 v68).bind fun v69 =>
 some v69)).bind fun v70 =>
 (guardV v66 false ((ptrF 1 v70).bind fun v71 =>
 some v71)).bind fun v72 =>
 (guardV v66 false ((ldp (some 2) v72).bind fun v73 =>
 some v73)).bind fun v74 =>
 (guardV v66 false (some x2)).bind fun v75 =>
 (guardV v66 false (((sem_cube_Has n) [v74, v75]).bind fun v76 =>
 some v76)).bind fun v77 =>
 (guardV v66 false ((scal1 Tryd.prog (Op.unary Go.UnOp.not) v77).bind fun v78 =>
 some v78)).bind fun v79 =>
 (pickV v66 (vb true) v79).bind fun v80 =>
 condV v80 (
 some (vb false)) (
 JoinPt (fun vs81 =>
 some (vb true)) fun J82 =>
 (fixN (fun rec83 vs84 =>
 (lenS [x3]).bind fun v85 =>
 (bin2 Tryd.prog BinOp.lss 3 (ot 149) (ot 151) (List.getD vs84 0 V.any) v85).bind fun v86 =>
 condV v86 (
 (idxS 6 x3 (List.getD vs84 0 V.any)).bind fun v87 =>
 (ptrF 1 v87).bind fun v88 =>
 (ldp (some 2) v88).bind fun v89 =>
 ((sem_cube_Has n) [v89, x2]).bind fun v90 =>
 (guardV v90 true (some x3)).bind fun v91 =>
 (guardV v90 true (some (List.getD vs84 0 V.any))).bind fun v92 =>
 (guardV v90 true ((idxS 6 v91 v92).bind fun v93 =>
 some v93)).bind fun v94 =>
 (guardV v90 true ((ptrF 0 v94).bind fun v95 =>
 some v95)).bind fun v96 =>
 (guardV v90 true ((ldp none v96).bind fun v97 =>
 some v97)).bind fun v98 =>
 (guardV v90 true (some x3)).bind fun v99 =>
 (guardV v90 true (some v53)).bind fun v100 =>
 (guardV v90 true ((idxS 6 v99 v100).bind fun v101 =>
 some v101)).bind fun v102 =>
 (guardV v90 true ((ptrF 0 v102).bind fun v103 =>
 some v103)).bind fun v104 =>
 (guardV v90 true ((ldp none v104).bind fun v105 =>
 some v105)).bind fun v106 =>
 (guardV v90 true ((bin2 Tryd.prog BinOp.gtr 3 (ot 167) (ot 172) v98 v106).bind fun v107 =>
 some v107)).bind fun v108 =>
 (pickV v90 v108 (vb false)).bind fun v109 =>
 condV v109 (
 some (vb false)) (
 (bin2 Tryd.prog BinOp.add 3 (ot 153) (oc 1) (List.getD vs84 0 V.any) (vi 1)).bind fun v110 =>
 rec83 [v110])) (
 J82 [])) n) [(vi 0)]))))) fun J48 =>
 (fixN (fun rec111 vs112 =>
 (bin2 Tryd.prog BinOp.geq 3 (ot 91) (oc 0) (List.getD vs112 1 V.any) (vi 0)).bind fun v113 =>
 (guardV v113 true (some (List.getD vs112 1 V.any))).bind fun v114 =>
 (guardV v113 true ((bin2 Tryd.prog BinOp.lss 3 (ot 94) (oc 100) v114 (vi 100)).bind fun v115 =>
 some v115)).bind fun v116 =>
 (pickV v113 v116 (vb false)).bind fun v117 =>
 condV v117 (
 (idxS 6 x3 (List.getD vs112 1 V.any)).bind fun v118 =>
 (ldp (some 6) v118).bind fun v119 =>
 (slcB 6 1 [(vi 0), (vi 0), (vi 0), (vi 0), (vi 0), (vi 0)] [(0, v119)]).bind fun v120 =>
 (appV 6 (slL (List.getD vs112 0 V.any)) v120).bind fun v121 =>
 (bin2 Tryd.prog BinOp.sub 3 (ot 97) (oc 1) (List.getD vs112 1 V.any) (vi 1)).bind fun v122 =>
 rec111 [(V.sl (slL v121)), v122]) (
 J48 [(V.sl (slL (List.getD vs112 0 V.any)))])) n) [(V.sl []), v46]) fun J44 =>
 condV v42 (
 (ldk (some 6) (List.drop 0 (aggL v41))).bind fun v123 =>
 ((sem_rule_Print n) [v123]).bind fun v124 =>
 (extractV v124 0).bind fun v125 =>
 (extractV v124 1).bind fun v126 =>
 (bin2 Tryd.prog BinOp.neq 29 (ot 81) (Operand.const Go.Value.nilIface) v126 vn).bind fun v127 =>
 (guardV v127 false (some v125)).bind fun v128 =>
 (guardV v127 false (some x1)).bind fun v129 =>
 (guardV v127 false ((bin2 Tryd.prog BinOp.neq 9 (ot 84) (ot 85) v128 v129).bind fun v130 =>
 some v130)).bind fun v131 =>
 (pickV v127 (vb true) v131).bind fun v132 =>
 condV v132 (
 some (vb false)) (
 J44 [])) (
 J44 [])) fun J37 =>
 condV v35 (
 ((sem_rule_Parse n) [v33]).bind fun v133 =>
 (extractV v133 0).bind fun v134 =>
 (extractV v133 1).bind fun v135 =>
 (spliceV [(vi 0), (vi 0), (vi 0), (vi 0), (vi 0), (vi 0)] 0 6 v134).bind fun v136 =>
 (bin2 Tryd.prog BinOp.neq 29 (ot 62) (Operand.const Go.Value.nilIface) v135 vn).bind fun v137 =>
 (guardV v137 false ((ldk (some 6) (List.drop 0 (aggL v136))).bind fun v138 =>
 some v138)).bind fun v139 =>
 (guardV v137 false ((ldk (some 6) (List.drop 0 v1)).bind fun v140 =>
 some v140)).bind fun v141 =>
 (guardV v137 false ((bin2 Tryd.prog BinOp.neq 25 (ot 65) (ot 66) v139 v141).bind fun v142 =>
 some v142)).bind fun v143 =>
 (pickV v137 (vb true) v143).bind fun v144 =>
 condV v144 (
 some (vb false)) (
 J37 [])) (
 J37 [])) := by kernel_rfl
noncomputable def t_raillaw1_RuleBack (a0 : T_Rule) (a1 : ByteArray) (a2 : Int) (a3 : (List T_Rule)) : Option Bool :=
 (t_rule_Parse (ByteArray.mk #[55, 32, 49, 42, 48, 42, 32, 111, 117, 116, 32, 50, 32, 115, 101, 116, 32, 42, 42, 49, 49])).bind fun r3 =>
 if (((((!decide (r3.2 = 0)) || (decide (r3.1.Prio ≠ 7))) || (decide (r3.1.Out ≠ 2))) || (decide (r3.1.Set ≠ 3))) || (decide (r3.1.Value ≠ 3))) = true then (
 some false) else (
 (t_rule_Print a0).bind fun r47 =>
 join (fun (s53 : Unit) =>
 (t_rule_Parse a1).bind fun r57 =>
 join (fun (s64 : Unit) =>
 (tfix (fun k187 (s186 : ((List T_Rule) × Int)) =>
 if ((decide (0 ≤ s186.2)) && (decide (s186.2 < 100))) = true then (
 (idx a3 s186.2).bind fun r200 =>
 (app s186.1 ([r200] : (List T_Rule))).bind fun r204 =>
 k187 (r204, (wr (s186.2 - 1)))) else (
 some (s186.1))) bigN ([], (wr ((List.length a3 : Int) - 1)))).bind fun (s71 : (List T_Rule)) =>
 if (decide ((List.length s71 : Int) ≠ (List.length a3 : Int))) = true then (
 some true) else (
 (t_rule_Lookup a3 a2).bind fun r79 =>
 (t_rule_Lookup s71 a2).bind fun r83 =>
 if ((decide (r79.2 = 0)) != (decide (r83.2 = 0))) = true then (
 some false) else (
 if (!decide (r79.2 = 0)) = true then (
 some true) else (
 (idx s71 r83.1).bind fun r93 =>
 (idx a3 r79.1).bind fun r96 =>
 (gd (!(!decide (r93 = r96))) default (idx a3 r79.1)).bind fun r106 =>
 (gd (!(!decide (r93 = r96))) default (t_cube_Has r106.Cube a2)).bind fun r118 =>
 if ((!decide (r93 = r96)) || (!r118)) = true then (
 some false) else (
 join (fun (s126 : Unit) =>
 some true) fun j127 =>
 loopI a3 (fun (i135 : Int) x136 (s131 : Unit) k132 =>
 (t_cube_Has x136.Cube a2).bind fun r146 =>
 (gd r146 default (idx a3 r79.1)).bind fun r167 =>
 if (r146 && (decide (r167.Prio < x136.Prio))) = true then (
 some false) else (
 k132 ())) (fun (s131 : Unit) =>
 j127 ()) ()))))) fun j65 =>
 if (decide (r57.2 = 0)) = true then (
 (t_rule_Print r57.1).bind fun r209 =>
 if ((!decide (r209.2 = 0)) || (!decide (r209.1 = a1))) = true then (
 some false) else (
 j65 ())) else (
 j65 ())) fun j54 =>
 if (decide (r47.2 = 0)) = true then (
 (t_rule_Parse r47.1).bind fun r224 =>
 if ((!decide (r224.2 = 0)) || (!decide (r224.1 = a0))) = true then (
 some false) else (
 j54 ())) else (
 j54 ()))
theorem ty_raillaw1_RuleBack {n : Nat} (hn : bigN ≤ n) (a0 : T_Rule) (a1 : ByteArray) (a2 : Int) (a3 : (List T_Rule)) : Rv (fun x : Bool => (vb x)) (sem_raillaw1_RuleBack n [(T_Rule.e a0), (vt a1), (vi a2), (V.sl (List.map T_Rule.c a3))]) (t_raillaw1_RuleBack a0 a1 a2 a3) := by
  rw [eq_raillaw1_RuleBack]
  unfold t_raillaw1_RuleBack
  refine tb (x := (T_Rule.c a0)) rfl ?_
  refine tbo (ty_rule_Parse hn (ByteArray.mk #[55, 32, 49, 42, 48, 42, 32, 111, 117, 116, 32, 50, 32, 115, 101, 116, 32, 42, 42, 49, 49])) fun r3 => ?_
  refine tb (x := (T_Rule.e r3.1)) (rfl) ?_
  refine tb (x := (eV r3.2)) (rfl) ?_
  refine tb (x := V.agg (T_Rule.c r3.1)) (by kernel_rfl) ?_
  refine tb (x := (vb (!decide (r3.2 = 0)))) (p_err_neq _) ?_
  refine tg_f (x := V.any) (fun h8 => rfl) ?_
  refine tg_f (x := (vi r3.1.Prio)) (fun h10 => bind_some_eq (gate_pos (not_t h10) (rfl))) ?_
  refine tg_f (x := (vb (decide (r3.1.Prio ≠ 7)))) (fun h13 => by simp only [gv_t h13]; exact bind_some_eq (d_neq)) ?_
  refine tb (x := (vb ((!decide (r3.2 = 0)) || (decide (r3.1.Prio ≠ 7))))) (pick_or (fun h9 => gv_t (not_f h9))) ?_
  refine tg_f (x := V.any) (fun h17 => rfl) ?_
  refine tg_f (x := (vi r3.1.Out)) (fun h19 => bind_some_eq (gate_pos (not_t h19) (rfl))) ?_
  refine tg_f (x := (vb (decide (r3.1.Out ≠ 2)))) (fun h22 => by simp only [gv_t h22]; exact bind_some_eq (d_neq)) ?_
  refine tb (x := (vb (((!decide (r3.2 = 0)) || (decide (r3.1.Prio ≠ 7))) || (decide (r3.1.Out ≠ 2))))) (pick_or (fun h9 => gv_t (not_f h9))) ?_
  refine tg_f (x := V.any) (fun h26 => rfl) ?_
  refine tg_f (x := (vi r3.1.Set)) (fun h28 => bind_some_eq (gate_pos (not_t h28) (rfl))) ?_
  refine tg_f (x := (vb (decide (r3.1.Set ≠ 3)))) (fun h31 => by simp only [gv_t h31]; exact bind_some_eq (d_neq)) ?_
  refine tb (x := (vb ((((!decide (r3.2 = 0)) || (decide (r3.1.Prio ≠ 7))) || (decide (r3.1.Out ≠ 2))) || (decide (r3.1.Set ≠ 3))))) (pick_or (fun h9 => gv_t (not_f h9))) ?_
  refine tg_f (x := V.any) (fun h35 => rfl) ?_
  refine tg_f (x := (vi r3.1.Value)) (fun h37 => bind_some_eq (gate_pos (not_t h37) (rfl))) ?_
  refine tg_f (x := (vb (decide (r3.1.Value ≠ 3)))) (fun h40 => by simp only [gv_t h40]; exact bind_some_eq (d_neq)) ?_
  refine tb (x := (vb (((((!decide (r3.2 = 0)) || (decide (r3.1.Prio ≠ 7))) || (decide (r3.1.Out ≠ 2))) || (decide (r3.1.Set ≠ 3))) || (decide (r3.1.Value ≠ 3))))) (pick_or (fun h9 => gv_t (not_f h9))) ?_
  refine tcond (fun h44 => ?_) (fun h44 => ?_)
  · exact rf_ret rfl
  · refine tb (x := (T_Rule.e a0)) (rfl) ?_
    refine tbo (ty_rule_Print hn a0) fun r47 => ?_
    refine tb (x := (vt r47.1)) (rfl) ?_
    refine tb (x := (eV r47.2)) (rfl) ?_
    refine tb (x := (vb (decide (r47.2 = 0)))) (p_err_eql _) ?_
    refine tjoin (mk := fun s53 : Unit => []) (fun s53 => ?_) fun J52 j54 h55 => ?_
    · refine tbo (ty_rule_Parse hn a1) fun r57 => ?_
      refine tb (x := (T_Rule.e r57.1)) (rfl) ?_
      refine tb (x := (eV r57.2)) (rfl) ?_
      refine tb (x := V.agg (T_Rule.c r57.1)) (by kernel_rfl) ?_
      refine tb (x := (vb (decide (r57.2 = 0)))) (p_err_eql _) ?_
      refine tjoin (mk := fun s64 : Unit => []) (fun s64 => ?_) fun J63 j65 h66 => ?_
      · refine tb (x := (vi (List.length a3 : Int))) (p_len _) ?_
        refine tb (x := (vi (wr ((List.length a3 : Int) - 1)))) (d_sub) ?_
        refine tjb (mk := fun s71 : (List T_Rule) => [(V.sl (List.map T_Rule.c s71))]) (fun J70 => ?_) fun s71 => ?_
        · refine rf_fixN (mk := fun (s186 : ((List T_Rule) × Int)) => [(V.sl (List.map T_Rule.c s186.1)), (vi s186.2)]) hn ([], (wr ((List.length a3 : Int) - 1))) (fun rec184 k187 h188 s186 => ?_)
          refine tb (x := (vb (decide (0 ≤ s186.2)))) (d_geq) ?_
          refine tg (x := (vi s186.2)) (fun h192 => rfl) ?_
          refine tg (x := (vb (decide (s186.2 < 100)))) (fun h194 => by simp only [gv_t h194]; exact bind_some_eq (d_lss)) ?_
          refine tb (x := (vb ((decide (0 ≤ s186.2)) && (decide (s186.2 < 100))))) (pick_and (fun h9 => gv_t h9)) ?_
          refine tcond (fun h198 => ?_) (fun h198 => ?_)
          · refine tbo (p_idx (c := T_Rule.c) (fun _ => rfl) a3 s186.2) fun r200 => ?_
            refine tb (x := (T_Rule.e r200)) (rfl) ?_
            refine tb (x := (V.sl (List.map T_Rule.c ([r200] : (List T_Rule))))) (by kernel_rfl) ?_
            refine tbo (p_app (c := T_Rule.c) (fun _ => rfl) s186.1 ([r200] : (List T_Rule))) fun r204 => ?_
            refine tb (x := (vi (wr (s186.2 - 1)))) (d_sub) ?_
            exact h188 (r204, (wr (s186.2 - 1)))
          · exact rf_j rfl
        · refine tb (x := (vi (List.length s71 : Int))) (p_len _) ?_
          refine tb (x := (vi (List.length a3 : Int))) (p_len _) ?_
          refine tb (x := (vb (decide ((List.length s71 : Int) ≠ (List.length a3 : Int))))) (d_neq) ?_
          refine tcond (fun h77 => ?_) (fun h77 => ?_)
          · exact rf_ret rfl
          · refine tbo (ty_rule_Lookup hn a3 a2) fun r79 => ?_
            refine tb (x := (vi r79.1)) (rfl) ?_
            refine tb (x := (eV r79.2)) (rfl) ?_
            refine tbo (ty_rule_Lookup hn s71 a2) fun r83 => ?_
            refine tb (x := (vi r83.1)) (rfl) ?_
            refine tb (x := (eV r83.2)) (rfl) ?_
            refine tb (x := (vb (decide (r79.2 = 0)))) (p_err_eql _) ?_
            refine tb (x := (vb (decide (r83.2 = 0)))) (p_err_eql _) ?_
            refine tb (x := (vb ((decide (r79.2 = 0)) != (decide (r83.2 = 0))))) (p_neq_bool (Tryd.underlying4)) ?_
            refine tcond (fun h89 => ?_) (fun h89 => ?_)
            · exact rf_ret rfl
            · refine tb (x := (vb (!decide (r79.2 = 0)))) (p_err_neq _) ?_
              refine tcond (fun h91 => ?_) (fun h91 => ?_)
              · exact rf_ret rfl
              · refine tbo (p_idx (c := T_Rule.c) (fun _ => rfl) s71 r83.1) fun r93 => ?_
                refine tb (x := (T_Rule.e r93)) (rfl) ?_
                refine tbo (p_idx (c := T_Rule.c) (fun _ => rfl) a3 r79.1) fun r96 => ?_
                refine tb (x := (T_Rule.e r96)) (rfl) ?_
                refine tb (x := (vb (!decide (r93 = r96)))) (T_Rule.neq r93 r96) ?_
                refine tg_f (x := (V.sl (List.map T_Rule.c a3))) (fun h99 => rfl) ?_
                refine tg_f (x := (vi r79.1)) (fun h101 => rfl) ?_
                refine tgo_f (fun h103 => by simp only [gv_t h103]; exact rf_bind_some (p_idx (c := T_Rule.c) (fun _ => rfl) a3 r79.1)) fun r106 => ?_
                refine tg_f (x := (V.ptr (List.drop 1 (T_Rule.c r106)))) (fun h107 => by first | exact bind_some_eq (rfl) | (simp only [gv_t h107]; exact bind_some_eq (rfl))) ?_
                refine tg_f (x := (T_Cube.e r106.Cube)) (fun h110 => by first | exact bind_some_eq (rfl) | (simp only [gv_t h110]; exact bind_some_eq (rfl))) ?_
                refine tg_f (x := (vi a2)) (fun h113 => rfl) ?_
                refine tgo_f (fun h115 => by simp only [gv_t h115]; exact rf_bind_some (ty_cube_Has hn r106.Cube a2)) fun r118 => ?_
                refine tg_f (x := (vb (!r118))) (fun h119 => by simp only [gv_t h119]; exact bind_some_eq (d_not)) ?_
                refine tb (x := (vb ((!decide (r93 = r96)) || (!r118)))) (pick_or (fun h9 => gv_t (not_f h9))) ?_
                refine tcond (fun h123 => ?_) (fun h123 => ?_)
                · exact rf_ret rfl
                · refine tjoin (mk := fun s126 : Unit => []) (fun s126 => ?_) fun J125 j127 h128 => ?_
                  · exact rf_ret rfl
                  · refine rf_loopI (mk := fun (i135 : Int) (s131 : Unit) => [(vi (i135 : Int))]) hn a3 () (fun i135 x136 h137 h138 h139 s131 rec129 k132 h133 => ?_) (fun s131 rec181 h180 => ?_)
                    · refine tb (x := (vi (List.length a3 : Int))) (p_len _) ?_
                      refine tb (x := (vb (decide ((i135 : Int) < (List.length a3 : Int))))) (d_lss) ?_
                      refine tcond_t h139 ?_
                      refine tb (x := (V.ptr (T_Rule.c x136))) (p_idx_at (c := T_Rule.c) (fun _ => rfl) h137) ?_
                      refine tb (x := (V.ptr (List.drop 1 (T_Rule.c x136)))) (rfl) ?_
                      refine tb (x := (T_Cube.e x136.Cube)) (rfl) ?_
                      refine tbo (ty_cube_Has hn x136.Cube a2) fun r146 => ?_
                      refine tg (x := (V.sl (List.map T_Rule.c a3))) (fun h147 => rfl) ?_
                      refine tg (x := (vi (i135 : Int))) (fun h149 => rfl) ?_
                      refine tg (x := (V.ptr (T_Rule.c x136))) (fun h151 => by simp only [gv_t h151]; exact bind_some_eq (p_idx_at (c := T_Rule.c) (fun _ => rfl) h137)) ?_
                      refine tg (x := (V.ptr (T_Rule.c x136))) (fun h154 => by first | exact bind_some_eq (rfl) | (simp only [gv_t h154]; exact bind_some_eq (rfl))) ?_
                      refine tg (x := (vi x136.Prio)) (fun h157 => by first | exact bind_some_eq (rfl) | (simp only [gv_t h157]; exact bind_some_eq (rfl))) ?_
                      refine tg (x := (V.sl (List.map T_Rule.c a3))) (fun h160 => rfl) ?_
                      refine tg (x := (vi r79.1)) (fun h162 => rfl) ?_
                      refine tgo (fun h164 => by simp only [gv_t h164]; exact rf_bind_some (p_idx (c := T_Rule.c) (fun _ => rfl) a3 r79.1)) fun r167 => ?_
                      refine tg (x := (V.ptr (T_Rule.c r167))) (fun h168 => by first | exact bind_some_eq (rfl) | (simp only [gv_t h168]; exact bind_some_eq (rfl))) ?_
                      refine tg (x := (vi r167.Prio)) (fun h171 => by first | exact bind_some_eq (rfl) | (simp only [gv_t h171]; exact bind_some_eq (rfl))) ?_
                      refine tg (x := (vb (decide (r167.Prio < x136.Prio)))) (fun h174 => by simp only [gv_t h174]; exact bind_some_eq (d_gtr)) ?_
                      refine tb (x := (vb (r146 && (decide (r167.Prio < x136.Prio))))) (pick_and (fun h9 => gv_t h9)) ?_
                      refine tcond (fun h178 => ?_) (fun h178 => ?_)
                      · exact rf_ret rfl
                      · refine tb (x := (vi ((i135 : Int) + 1))) (p_incN h138) ?_
                        exact h133 ()
                    · refine tb (x := (vi (List.length a3 : Int))) (p_len _) ?_
                      refine tb (x := (vb (decide ((List.length a3 : Int) < (List.length a3 : Int))))) (d_lss) ?_
                      refine tcond_f h180 ?_
                      exact h128 ()
      · refine tcond (fun h206 => ?_) (fun h206 => ?_)
        · refine tb (x := (T_Rule.e r57.1)) (rfl) ?_
          refine tbo (ty_rule_Print hn r57.1) fun r209 => ?_
          refine tb (x := (vt r209.1)) (rfl) ?_
          refine tb (x := (eV r209.2)) (rfl) ?_
          refine tb (x := (vb (!decide (r209.2 = 0)))) (p_err_neq _) ?_
          refine tg_f (x := (vt r209.1)) (fun h213 => rfl) ?_
          refine tg_f (x := (vt a1)) (fun h215 => rfl) ?_
          refine tg_f (x := (vb (!decide (r209.1 = a1)))) (fun h217 => by simp only [gv_t h217]; exact bind_some_eq (p_neq_str)) ?_
          refine tb (x := (vb ((!decide (r209.2 = 0)) || (!decide (r209.1 = a1))))) (pick_or (fun h9 => gv_t (not_f h9))) ?_
          refine tcond (fun h221 => ?_) (fun h221 => ?_)
          · exact rf_ret rfl
          · exact h66 ()
        · exact h66 ()
    · refine tcond (fun h222 => ?_) (fun h222 => ?_)
      · refine tbo (ty_rule_Parse hn r47.1) fun r224 => ?_
        refine tb (x := (T_Rule.e r224.1)) (rfl) ?_
        refine tb (x := (eV r224.2)) (rfl) ?_
        refine tb (x := V.agg (T_Rule.c r224.1)) (by kernel_rfl) ?_
        refine tb (x := (vb (!decide (r224.2 = 0)))) (p_err_neq _) ?_
        refine tg_f (x := (T_Rule.e r224.1)) (fun h229 => bind_some_eq (rfl)) ?_
        refine tg_f (x := (T_Rule.e a0)) (fun h232 => bind_some_eq (rfl)) ?_
        refine tg_f (x := (vb (!decide (r224.1 = a0)))) (fun h235 => by simp only [gv_t h235]; exact bind_some_eq (T_Rule.neq r224.1 a0)) ?_
        refine tb (x := (vb ((!decide (r224.2 = 0)) || (!decide (r224.1 = a0))))) (pick_or (fun h9 => gv_t (not_f h9))) ?_
        refine tcond (fun h239 => ?_) (fun h239 => ?_)
        · exact rf_ret rfl
        · exact h55 ()
      · exact h55 ()

end Go.Proofs.YtpbfogklmhgfoaaDoor.Ty
