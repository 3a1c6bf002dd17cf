/- What functions do, as functions on plain types, written by a program and checked by the kernel. -/
import Derived.Test.YtpjadjoekdcjiaaDoorDenDoor
import Derived.Test.YtpjadjoekdcjiaaDoorTy
import Derived.Test.YtpjadjoekdcjiaaDoorTyT
import Derived.Test.YtpjadjoekdcjiaaDoorTyX
import Derived.Test.YtpjadjoekdcjiaaDoorDen14
import Derived.Test.YtpjadjoekdcjiaaDoorDDTy
import Derived.Test.YtpjadjoekdcjiaaDoorClone
namespace Go.Proofs.YtpjadjoekdcjiaaDoor.Ty
open Go Go.RowKit Go.Proofs.YtpjadjoekdcjiaaDoor.Den
set_option linter.unusedVariables false
set_option maxRecDepth 100000

def T_Spot.val (x : T_Spot) : Go.Value := .agg #[.int .i64 x.Switch, .int .i64 x.Port]
theorem T_Spot.mkey : MKey Tryd.prog 62 T_Spot.val where
  chk e a w := by kernel_rfl
  find vv l a w := find_ask Tryd.underlying62 (fun _ _ => rfl) (fun a b w => equal_of (T_Spot.run_eql a b w)) vv l a w
  sb a := by show Instr.sameBits (9999 + 1) _ _ = true; simp [Instr.sameBits, T_Spot.val]

/-! railpoint/railref1.Spot -/
def an_railref1_Spot : Ann := .seq (.reg 0 [] [] []) (.seq (.reg 0 [] [] []) (.no))
noncomputable def sem_railref1_Spot (n : Nat) (xs : List V) : Option V := if xs.length ≤ 25 then denF Tryd.prog (envOf []) n Tryd.f28 an_railref1_Spot xs else none
theorem ok_railref1_Spot (n : Nat) : SemOk Tryd.prog DW 28 (sem_railref1_Spot n) := fun xs y h => by
  unfold sem_railref1_Spot at h
  split at h
  · rename_i hl
    exact denF_ok stb Tryd.func28 (by kernel_rfl) (envOf_ok semsOk_nil) (by rw [Tryd.ntmps28]; exact hl) h
  · cases h
theorem eq_railref1_Spot (n : Nat) (x0 x1 : V) : sem_railref1_Spot n [x0, x1] =
 (V.cellsO x0).bind fun v1 =>
 (V.cellsO x1).bind fun v2 =>
 (ldk none (List.drop 0 v2)).bind fun v3 =>
 (bin2 Tryd.prog BinOp.geq 3 (ot 6) (oc 1) v3 (vi 1)).bind fun v4 =>
 (guardV v4 true (some V.any)).bind fun v5 =>
 (guardV v4 true ((gate v4 true (ldk none (List.drop 0 v2))).bind fun v6 =>
 some v6)).bind fun v7 =>
 (guardV v4 true (some V.any)).bind fun v8 =>
 (guardV v4 true ((gate v4 true (ldk none (List.drop 0 v1))).bind fun v9 =>
 some v9)).bind fun v10 =>
 (guardV v4 true ((bin2 Tryd.prog BinOp.leq 3 (ot 10) (ot 12) v7 v10).bind fun v11 =>
 some v11)).bind fun v12 =>
 (pickV v4 v12 (vb false)).bind fun v13 =>
 (guardV v13 true (some V.any)).bind fun v14 =>
 (guardV v13 true ((gate v13 true (ldk none (List.drop 1 v2))).bind fun v15 =>
 some v15)).bind fun v16 =>
 (guardV v13 true ((bin2 Tryd.prog BinOp.geq 3 (ot 17) (oc 1) v16 (vi 1)).bind fun v17 =>
 some v17)).bind fun v18 =>
 (pickV v13 v18 (vb false)).bind fun v19 =>
 (guardV v19 true (some V.any)).bind fun v20 =>
 (guardV v19 true ((gate v19 true (ldk none (List.drop 1 v2))).bind fun v21 =>
 some v21)).bind fun v22 =>
 (guardV v19 true ((bin2 Tryd.prog BinOp.leq 3 (ot 22) (oc 4) v22 (vi 4)).bind fun v23 =>
 some v23)).bind fun v24 =>
 (pickV v19 v24 (vb false)).bind fun v25 =>
 some v25 := by kernel_rfl
noncomputable def t_railref1_Spot (a0 : T_Topo) (a1 : T_Spot) : Option Bool :=
 some ((((decide (1 ≤ a1.Switch)) && (decide (a1.Switch ≤ a0.Switches))) && (decide (1 ≤ a1.Port))) && (decide (a1.Port ≤ 4)))
theorem ty_railref1_Spot {n : Nat} (hn : bigN ≤ n) (a0 : T_Topo) (a1 : T_Spot) : Rv (fun x : Bool => (vb x)) (sem_railref1_Spot n [(T_Topo.e a0), (T_Spot.e a1)]) (t_railref1_Spot a0 a1) := by
  rw [eq_railref1_Spot]
  unfold t_railref1_Spot
  refine tb (x := (T_Topo.c a0)) rfl ?_
  refine tb (x := (T_Spot.c a1)) rfl ?_
  refine tb (x := (vi a1.Switch)) (rfl) ?_
  refine tb (x := (vb (decide (1 ≤ a1.Switch)))) (d_geq) ?_
  refine tg (x := V.any) (fun h5 => rfl) ?_
  refine tg (x := (vi a1.Switch)) (fun h7 => bind_some_eq (gate_pos h7 (rfl))) ?_
  refine tg (x := V.any) (fun h10 => rfl) ?_
  refine tg (x := (vi a0.Switches)) (fun h12 => bind_some_eq (gate_pos h12 (rfl))) ?_
  refine tg (x := (vb (decide (a1.Switch ≤ a0.Switches)))) (fun h15 => by simp only [gv_t h15]; exact bind_some_eq (d_leq)) ?_
  refine tb (x := (vb ((decide (1 ≤ a1.Switch)) && (decide (a1.Switch ≤ a0.Switches))))) (pick_and (fun h9 => gv_t h9)) ?_
  refine tg (x := V.any) (fun h19 => rfl) ?_
  refine tg (x := (vi a1.Port)) (fun h21 => bind_some_eq (gate_pos h21 (rfl))) ?_
  refine tg (x := (vb (decide (1 ≤ a1.Port)))) (fun h24 => by simp only [gv_t h24]; exact bind_some_eq (d_geq)) ?_
  refine tb (x := (vb (((decide (1 ≤ a1.Switch)) && (decide (a1.Switch ≤ a0.Switches))) && (decide (1 ≤ a1.Port))))) (pick_and (fun h9 => gv_t h9)) ?_
  refine tg (x := V.any) (fun h28 => rfl) ?_
  refine tg (x := (vi a1.Port)) (fun h30 => bind_some_eq (gate_pos h30 (rfl))) ?_
  refine tg (x := (vb (decide (a1.Port ≤ 4)))) (fun h33 => by simp only [gv_t h33]; exact bind_some_eq (d_leq)) ?_
  refine tb (x := (vb ((((decide (1 ≤ a1.Switch)) && (decide (a1.Switch ≤ a0.Switches))) && (decide (1 ≤ a1.Port))) && (decide (a1.Port ≤ 4))))) (pick_and (fun h9 => gv_t h9)) ?_
  exact rf_ret rfl

/-! railpoint/railref1.Name -/
def an_railref1_Name : Ann := .seq (.reg 0 [] [] []) (.seq (.seq (.reg 0 [] [] []) (.cond none (.seq (.reg 0 [] [] []) (.no)) (.no))) (.seq (.seq (.reg 0 [] [] []) (.blk (some []) (.loop [.s 3] (.seq (.seq (.reg 0 [] [] []) (.cond none (.no) (.no))) (.seq (.blk none (.seq (.reg 0 [] [] []) (.cond none (.seq (.reg 0 [] [] []) (.no)) (.no)))) (.reg 0 [] [] [])))))) (.seq (.reg 0 [] [] []) (.no))))
noncomputable def sem_railref1_Name (n : Nat) (xs : List V) : Option V := if xs.length ≤ 27 then denF Tryd.prog (envOf []) n Tryd.f118 an_railref1_Name xs else none
theorem ok_railref1_Name (n : Nat) : SemOk Tryd.prog DW 118 (sem_railref1_Name n) := fun xs y h => by
  unfold sem_railref1_Name at h
  split at h
  · rename_i hl
    exact denF_ok stb Tryd.func118 (by kernel_rfl) (envOf_ok semsOk_nil) (by rw [Tryd.ntmps118]; exact hl) h
  · cases h
theorem eq_railref1_Name (n : Nat) (x0 : V) : sem_railref1_Name n [x0] =
 (bin2 Tryd.prog BinOp.eql 9 (ot 4) (Operand.const (Go.Value.string (ByteArray.mk #[]))) x0 (V.lit (Go.Value.string (ByteArray.mk #[])))).bind fun v1 =>
 (guardV v1 false (some x0)).bind fun v2 =>
 (guardV v1 false ((lenT [v2]).bind fun v3 =>
 some v3)).bind fun v4 =>
 (guardV v1 false ((bin2 Tryd.prog BinOp.gtr 3 (ot 8) (oc 6) v4 (vi 6)).bind fun v5 =>
 some v5)).bind fun v6 =>
 (pickV v1 (vb true) v6).bind fun v7 =>
 condV v7 (
 some (vb false)) (
 JoinPt (fun vs8 =>
 some (vb true)) fun J9 =>
 (fixN (fun rec10 vs11 =>
 (lenT [x0]).bind fun v12 =>
 (bin2 Tryd.prog BinOp.lss 3 (ot 11) (ot 13) (List.getD vs11 0 V.any) v12).bind fun v13 =>
 condV v13 (
 (scal2 Tryd.prog (Instr.index 9) x0 (List.getD vs11 0 V.any)).bind fun v14 =>
 (bin2 Tryd.prog BinOp.lss 5 (ot 19) (Operand.const (Go.Value.int Go.IntKind.u8 97)) v14 (V.lit (Go.Value.int Go.IntKind.u8 97))).bind fun v15 =>
 (guardV v15 false (some x0)).bind fun v16 =>
 (guardV v15 false (some (List.getD vs11 0 V.any))).bind fun v17 =>
 (guardV v15 false ((scal2 Tryd.prog (Instr.index 9) v16 v17).bind fun v18 =>
 some v18)).bind fun v19 =>
 (guardV v15 false ((bin2 Tryd.prog BinOp.gtr 5 (ot 24) (Operand.const (Go.Value.int Go.IntKind.u8 122)) v19 (V.lit (Go.Value.int Go.IntKind.u8 122))).bind fun v20 =>
 some v20)).bind fun v21 =>
 (pickV v15 (vb true) v21).bind fun v22 =>
 condV v22 (
 some (vb false)) (
 (bin2 Tryd.prog BinOp.add 3 (ot 15) (oc 1) (List.getD vs11 0 V.any) (vi 1)).bind fun v23 =>
 rec10 [v23])) (
 J9 [])) n) [(vi 0)]) := by kernel_rfl
noncomputable def t_railref1_Name (a0 : ByteArray) : Option Bool :=
 if ((decide (a0 = (ByteArray.mk #[]))) || (decide (6 < (a0.size : Int)))) = true then (
 some false) else (
 join (fun (s14 : Unit) =>
 some true) fun j15 =>
 loopU 0 (a0.size : Int) (fun (i23 : Int) (s19 : Unit) k20 =>
 (sidx a0 i23).bind fun r32 =>
 (gd (!(decide (r32 < 97))) default (sidx a0 i23)).bind fun r41 =>
 if ((decide (r32 < 97)) || (decide (122 < r41))) = true then (
 some false) else (
 k20 ())) (fun (i23 : Int) (s19 : Unit) =>
 j15 ()) ())
theorem ty_railref1_Name {n : Nat} (hn : bigN ≤ n) (a0 : ByteArray) : Rv (fun x : Bool => (vb x)) (sem_railref1_Name n [(vt a0)]) (t_railref1_Name a0) := by
  rw [eq_railref1_Name]
  unfold t_railref1_Name
  refine tb (x := (vb (decide (a0 = (ByteArray.mk #[]))))) (p_eql_str) ?_
  refine tg_f (x := (vt a0)) (fun h2 => rfl) ?_
  refine tg_f (x := (vi (a0.size : Int))) (fun h4 => by simp only [gv_t h4]; exact bind_some_eq (rfl)) ?_
  refine tg_f (x := (vb (decide (6 < (a0.size : Int))))) (fun h7 => by simp only [gv_t h7]; exact bind_some_eq (d_gtr)) ?_
  refine tb (x := (vb ((decide (a0 = (ByteArray.mk #[]))) || (decide (6 < (a0.size : Int)))))) (pick_or (fun h9 => gv_t (not_f h9))) ?_
  refine tcond (fun h11 => ?_) (fun h11 => ?_)
  · exact rf_ret rfl
  · refine tjoin (mk := fun s14 : Unit => []) (fun s14 => ?_) fun J13 j15 h16 => ?_
    · exact rf_ret rfl
    · refine rf_loopU (mk := fun (i23 : Int) (s19 : Unit) => [(vi i23)]) hn _ _ () (fun i23 h24 h25 h26 s19 rec17 k20 h21 => ?_) (fun i23 s19 rec28 h27 => ?_)
      · refine tb (x := (vi (a0.size : Int))) (rfl) ?_
        refine tb (x := (vb (decide (i23 < (a0.size : Int))))) (d_lss) ?_
        refine tcond_t h24 ?_
        refine tbo (p_sidx (Tryd.underlying9) a0 i23) fun r32 => ?_
        refine tb (x := (vb (decide (r32 < 97)))) (q_lss) ?_
        refine tg_f (x := (vt a0)) (fun h34 => rfl) ?_
        refine tg_f (x := (vi i23)) (fun h36 => rfl) ?_
        refine tgo_f (fun h38 => by simp only [gv_t h38]; exact rf_bind_some (p_sidx (Tryd.underlying9) a0 i23)) fun r41 => ?_
        refine tg_f (x := (vb (decide (122 < r41)))) (fun h42 => by simp only [gv_t h42]; exact bind_some_eq (q_gtr)) ?_
        refine tb (x := (vb ((decide (r32 < 97)) || (decide (122 < r41))))) (pick_or (fun h9 => gv_t (not_f h9))) ?_
        refine tcond (fun h46 => ?_) (fun h46 => ?_)
        · exact rf_ret rfl
        · refine tb (x := (vi (i23 + 1))) (p_inc h25 h26) ?_
          exact h21 ()
      · refine tb (x := (vi (a0.size : Int))) (rfl) ?_
        refine tb (x := (vb (decide (i23 < (a0.size : Int))))) (d_lss) ?_
        refine tcond_f h27 ?_
        exact h16 ()

/-! railpoint/railref1.Topo -/
def an_railref1_Topo : Ann := .seq (.reg 0 [] [] []) (.seq (.seq (.reg 0 [] [] []) (.cond none (.seq (.reg 0 [] [] []) (.no)) (.no))) (.seq (.seq (.reg 0 [] [] []) (.cond none (.seq (.reg 0 [] [] []) (.no)) (.no))) (.seq (.reg 0 [] [] []) (.seq (.seq (.reg 0 [] [] []) (.blk (some [.kb 1, .r 3 62]) (.loop [.kb 1, .r 3 62, .s 4] (.seq (.seq (.reg 0 [] [] []) (.cond none (.no) (.no))) (.seq (.blk (some [.kb 1, .r 3 62]) (.seq (.reg 0 [] [] []) (.seq (.reg 0 [] [] []) (.seq (.reg 0 [] [] []) (.seq (.seq (.reg 0 [] [] []) (.cond none (.seq (.reg 0 [] [] []) (.no)) (.no))) (.seq (.seq (.reg 0 [] [] []) (.cond none (.seq (.reg 0 [] [] []) (.no)) (.no))) (.seq (.seq (.reg 0 [] [] []) (.blk (some [.kb 1, .kb 5, .r 3 62]) (.loop [.kb 1, .kb 5, .r 3 62, .s 8] (.seq (.seq (.reg 0 [] [] []) (.cond none (.no) (.no))) (.seq (.blk none (.seq (.reg 16 [] [] []) (.cond none (.seq (.reg 0 [] [] []) (.no)) (.no)))) (.reg 0 [] [] [])))))) (.seq (.reg 0 [] [] []) (.reg 0 [] [] []))))))))) (.reg 0 [] [] [])))))) (.seq (.seq (.reg 0 [] [] []) (.blk (some []) (.loop [.kb 1, .r 3 62, .s 9] (.seq (.seq (.reg 0 [] [] []) (.cond none (.no) (.no))) (.seq (.blk (some [.kb 1, .r 3 62]) (.seq (.reg 0 [] [] []) (.seq (.reg 0 [] [] []) (.seq (.seq (.reg 0 [] [] []) (.cond none (.seq (.reg 0 [] [] []) (.no)) (.no))) (.seq (.reg 0 [] [] []) (.seq (.seq (.reg 0 [] [] []) (.cond none (.seq (.reg 0 [] [] []) (.no)) (.no))) (.seq (.seq (.reg 0 [] [] []) (.blk (some [.kb 1, .kb 10, .r 3 62]) (.loop [.kb 1, .kb 10, .r 3 62, .s 13] (.seq (.seq (.reg 0 [] [] []) (.cond none (.no) (.no))) (.seq (.blk none (.seq (.reg 9 [] [] []) (.cond none (.seq (.reg 0 [] [] []) (.no)) (.no)))) (.reg 0 [] [] [])))))) (.seq (.seq (.reg 0 [] [] []) (.blk (some [.kb 1, .kb 10, .r 3 62]) (.loop [.kb 1, .kb 10, .r 3 62, .s 14] (.seq (.seq (.reg 0 [] [] []) (.cond none (.no) (.no))) (.seq (.blk none (.seq (.reg 7 [] [] []) (.cond none (.seq (.reg 0 [] [] []) (.no)) (.no)))) (.reg 0 [] [] [])))))) (.reg 0 [] [] []))))))))) (.reg 0 [] [] [])))))) (.seq (.reg 0 [] [] []) (.no)))))))
noncomputable def sem_railref1_Topo (n : Nat) (xs : List V) : Option V := if xs.length ≤ 151 then denF Tryd.prog (envOf [(28, (sem_railref1_Spot n)), (118, (sem_railref1_Name n))]) n Tryd.f66 an_railref1_Topo xs else none
theorem ok_railref1_Topo (n : Nat) : SemOk Tryd.prog DW 66 (sem_railref1_Topo n) := fun xs y h => by
  unfold sem_railref1_Topo at h
  split at h
  · rename_i hl
    exact denF_ok stb Tryd.func66 (by kernel_rfl) (envOf_ok (semsOk_cons (ok_railref1_Spot n) (semsOk_cons (ok_railref1_Name n) semsOk_nil))) (by rw [Tryd.ntmps66]; exact hl) h
  · cases h
theorem eq_railref1_Topo (n : Nat) (x0 : V) : sem_railref1_Topo n [x0] =
 (V.cellsO x0).bind fun v1 =>
 (ldk none (List.drop 0 v1)).bind fun v2 =>
 (bin2 Tryd.prog BinOp.lss 3 (ot 16) (oc 1) v2 (vi 1)).bind fun v3 =>
 (guardV v3 false (some V.any)).bind fun v4 =>
 (guardV v3 false ((gate v3 false (ldk none (List.drop 0 v1))).bind fun v5 =>
 some v5)).bind fun v6 =>
 (guardV v3 false ((bin2 Tryd.prog BinOp.gtr 3 (ot 20) (oc 6) v6 (vi 6)).bind fun v7 =>
 some v7)).bind fun v8 =>
 (pickV v3 (vb true) v8).bind fun v9 =>
 condV v9 (
 some (vi 1)) (
 (ldk none (List.drop 1 v1)).bind fun v10 =>
 (lenS [v10]).bind fun v11 =>
 (bin2 Tryd.prog BinOp.gtr 3 (ot 25) (oc 200) v11 (vi 200)).bind fun v12 =>
 (guardV v12 false (some V.any)).bind fun v13 =>
 (guardV v12 false ((gate v12 false (ldk none (List.drop 2 v1))).bind fun v14 =>
 some v14)).bind fun v15 =>
 (guardV v12 false ((lenS [v15]).bind fun v16 =>
 some v16)).bind fun v17 =>
 (guardV v12 false ((bin2 Tryd.prog BinOp.gtr 3 (ot 30) (oc 8) v17 (vi 8)).bind fun v18 =>
 some v18)).bind fun v19 =>
 (pickV v12 (vb true) v19).bind fun v20 =>
 condV v20 (
 some (vi 4)) (
 JoinPt (fun vs21 =>
 JoinPt (fun vs23 =>
 some (vi 0)) fun J24 =>
 (keepO (some v1) (some v1) (some [(V.sl (slL (List.getD vs21 0 V.any))), (vi 0)])).bind (fixN (fun rec25 vs26 =>
 (ldk none (List.drop 2 v1)).bind fun v27 =>
 (lenS [v27]).bind fun v28 =>
 (bin2 Tryd.prog BinOp.lss 3 (ot 96) (ot 99) (List.getD vs26 1 V.any) v28).bind fun v29 =>
 condV v29 (
 JoinPt (fun vs30 =>
 (bin2 Tryd.prog BinOp.add 3 (ot 101) (oc 1) (List.getD vs26 1 V.any) (vi 1)).bind fun v32 =>
 (keepO (some v1) (some v1) (some [(V.sl (slL (List.getD vs30 0 V.any))), v32])).bind rec25) fun J31 =>
 (ldk none (List.drop 2 v1)).bind fun v33 =>
 (idxS 3 v33 (List.getD vs26 1 V.any)).bind fun v34 =>
 (ldp (some 3) v34).bind fun v35 =>
 (spliceV [(V.lit (Go.Value.string (ByteArray.mk #[]))), (vi 0), (vi 0)] 0 3 v35).bind fun v36 =>
 (ldk none (List.drop 0 (aggL v36))).bind fun v37 =>
 ((sem_railref1_Name n) [v37]).bind fun v38 =>
 (scal1 Tryd.prog (Op.unary Go.UnOp.not) v38).bind fun v39 =>
 condV v39 (
 some (vi 2)) (
 (ldk (some 3) (List.drop 0 v1)).bind fun v40 =>
 (ldk (some 2) (List.drop 1 (aggL v36))).bind fun v41 =>
 ((sem_railref1_Spot n) [v40, v41]).bind fun v42 =>
 (scal1 Tryd.prog (Op.unary Go.UnOp.not) v42).bind fun v43 =>
 condV v43 (
 some (vi 1)) (
 JoinPt (fun vs44 =>
 JoinPt (fun vs46 =>
 (ldk (some 2) (List.drop 1 (aggL v36))).bind fun v48 =>
 (slcB 2 1 [(vi 0), (vi 0)] [(0, v48)]).bind fun v49 =>
 (appV 2 (slL (List.getD vs46 0 V.any)) v49).bind fun v50 =>
 (keepO (some v1) (some v1) (some [(V.sl (slL v50))])).bind J31) fun J47 =>
 (keepO (some v1) (some v1) (keepO (some (aggL v36)) (some (aggL v36)) (some [(V.sl (slL (List.getD vs44 0 V.any))), (vi 0)]))).bind (fixN (fun rec51 vs52 =>
 (lenS [(V.sl (slL (List.getD vs52 0 V.any)))]).bind fun v53 =>
 (bin2 Tryd.prog BinOp.lss 3 (ot 133) (ot 135) (List.getD vs52 1 V.any) v53).bind fun v54 =>
 condV v54 (
 (idxS 2 (V.sl (slL (List.getD vs52 0 V.any))) (List.getD vs52 1 V.any)).bind fun v55 =>
 (ldp (some 2) v55).bind fun v56 =>
 (ldk (some 2) (List.drop 1 (aggL v36))).bind fun v57 =>
 (bin2 Tryd.prog BinOp.eql 62 (ot 142) (ot 144) v56 v57).bind fun v58 =>
 condV v58 (
 some (vi 7)) (
 (bin2 Tryd.prog BinOp.add 3 (ot 137) (oc 1) (List.getD vs52 1 V.any) (vi 1)).bind fun v59 =>
 (keepO (some v1) (some v1) (keepO (some (aggL v36)) (some (aggL v36)) (some [(V.sl (slL (List.getD vs52 0 V.any))), v59]))).bind rec51)) (
 (keepO (some v1) (some v1) (keepO (some (aggL v36)) (some (aggL v36)) (some [(V.sl (slL (List.getD vs52 0 V.any)))]))).bind J47)) n)) fun J45 =>
 (keepO (some v1) (some v1) (keepO (some (aggL v36)) (some (aggL v36)) (some [(V.sl (slL (List.getD vs26 0 V.any))), (vi 0)]))).bind (fixN (fun rec60 vs61 =>
 (bin2 Tryd.prog BinOp.lss 3 (ot 119) (ot 120) (List.getD vs61 1 V.any) (List.getD vs26 1 V.any)).bind fun v62 =>
 condV v62 (
 (ldk none (List.drop 2 v1)).bind fun v63 =>
 (idxS 3 v63 (List.getD vs61 1 V.any)).bind fun v64 =>
 (ptrF 0 v64).bind fun v65 =>
 (ldp none v65).bind fun v66 =>
 (ldk none (List.drop 0 (aggL v36))).bind fun v67 =>
 (bin2 Tryd.prog BinOp.eql 9 (ot 129) (ot 131) v66 v67).bind fun v68 =>
 condV v68 (
 some (vi 7)) (
 (bin2 Tryd.prog BinOp.add 3 (ot 122) (oc 1) (List.getD vs61 1 V.any) (vi 1)).bind fun v69 =>
 (keepO (some v1) (some v1) (keepO (some (aggL v36)) (some (aggL v36)) (some [(V.sl (slL (List.getD vs61 0 V.any))), v69]))).bind rec60)) (
 (keepO (some v1) (some v1) (keepO (some (aggL v36)) (some (aggL v36)) (some [(V.sl (slL (List.getD vs61 0 V.any)))]))).bind J45)) n)))) (
 J24 [])) n)) fun J22 =>
 (keepO (some v1) (some v1) (some [(V.sl []), (vi 0)])).bind (fixN (fun rec70 vs71 =>
 (ldk none (List.drop 1 v1)).bind fun v72 =>
 (lenS [v72]).bind fun v73 =>
 (bin2 Tryd.prog BinOp.lss 3 (ot 33) (ot 36) (List.getD vs71 1 V.any) v73).bind fun v74 =>
 condV v74 (
 JoinPt (fun vs75 =>
 (bin2 Tryd.prog BinOp.add 3 (ot 38) (oc 1) (List.getD vs71 1 V.any) (vi 1)).bind fun v77 =>
 (keepO (some v1) (some v1) (some [(V.sl (slL (List.getD vs75 0 V.any))), v77])).bind rec70) fun J76 =>
 (ldk none (List.drop 1 v1)).bind fun v78 =>
 (idxS 4 v78 (List.getD vs71 1 V.any)).bind fun v79 =>
 (ldp (some 4) v79).bind fun v80 =>
 (spliceV [(vi 0), (vi 0), (vi 0), (vi 0)] 0 4 v80).bind fun v81 =>
 (ldk (some 3) (List.drop 0 v1)).bind fun v82 =>
 (ldk (some 2) (List.drop 0 (aggL v81))).bind fun v83 =>
 ((sem_railref1_Spot n) [v82, v83]).bind fun v84 =>
 (ldk (some 3) (List.drop 0 v1)).bind fun v85 =>
 (ldk (some 2) (List.drop 2 (aggL v81))).bind fun v86 =>
 ((sem_railref1_Spot n) [v85, v86]).bind fun v87 =>
 (scal1 Tryd.prog (Op.unary Go.UnOp.not) v84).bind fun v88 =>
 (guardV v88 false (some v87)).bind fun v89 =>
 (guardV v88 false ((scal1 Tryd.prog (Op.unary Go.UnOp.not) v89).bind fun v90 =>
 some v90)).bind fun v91 =>
 (pickV v88 (vb true) v91).bind fun v92 =>
 condV v92 (
 some (vi 1)) (
 (ldk (some 2) (List.drop 0 (aggL v81))).bind fun v93 =>
 (ldk (some 2) (List.drop 2 (aggL v81))).bind fun v94 =>
 (bin2 Tryd.prog BinOp.eql 62 (ot 60) (ot 62) v93 v94).bind fun v95 =>
 condV v95 (
 some (vi 7)) (
 JoinPt (fun vs96 =>
 (ldk (some 2) (List.drop 0 (aggL v81))).bind fun v98 =>
 (slcB 2 1 [(vi 0), (vi 0)] [(0, v98)]).bind fun v99 =>
 (appV 2 (slL (List.getD vs96 0 V.any)) v99).bind fun v100 =>
 (ldk (some 2) (List.drop 2 (aggL v81))).bind fun v101 =>
 (slcB 2 1 [(vi 0), (vi 0)] [(0, v101)]).bind fun v102 =>
 (appV 2 (slL v100) v102).bind fun v103 =>
 (keepO (some v1) (some v1) (some [(V.sl (slL v103))])).bind J76) fun J97 =>
 (keepO (some v1) (some v1) (keepO (some (aggL v81)) (some (aggL v81)) (some [(V.sl (slL (List.getD vs71 0 V.any))), (vi 0)]))).bind (fixN (fun rec104 vs105 =>
 (lenS [(V.sl (slL (List.getD vs105 0 V.any)))]).bind fun v106 =>
 (bin2 Tryd.prog BinOp.lss 3 (ot 64) (ot 66) (List.getD vs105 1 V.any) v106).bind fun v107 =>
 condV v107 (
 (idxS 2 (V.sl (slL (List.getD vs105 0 V.any))) (List.getD vs105 1 V.any)).bind fun v108 =>
 (ldp (some 2) v108).bind fun v109 =>
 (ldk (some 2) (List.drop 0 (aggL v81))).bind fun v110 =>
 (bin2 Tryd.prog BinOp.eql 62 (ot 73) (ot 75) v109 v110).bind fun v111 =>
 (guardV v111 false (some (V.sl (slL (List.getD vs105 0 V.any))))).bind fun v112 =>
 (guardV v111 false (some (List.getD vs105 1 V.any))).bind fun v113 =>
 (guardV v111 false ((idxS 2 v112 v113).bind fun v114 =>
 some v114)).bind fun v115 =>
 (guardV v111 false ((ldp (some 2) v115).bind fun v116 =>
 some v116)).bind fun v117 =>
 (guardV v111 false (some V.any)).bind fun v118 =>
 (guardV v111 false ((gate v111 false (ldk (some 2) (List.drop 2 (aggL v81)))).bind fun v119 =>
 some v119)).bind fun v120 =>
 (guardV v111 false ((bin2 Tryd.prog BinOp.eql 62 (ot 81) (ot 83) v117 v120).bind fun v121 =>
 some v121)).bind fun v122 =>
 (pickV v111 (vb true) v122).bind fun v123 =>
 condV v123 (
 some (vi 7)) (
 (bin2 Tryd.prog BinOp.add 3 (ot 68) (oc 1) (List.getD vs105 1 V.any) (vi 1)).bind fun v124 =>
 (keepO (some v1) (some v1) (keepO (some (aggL v81)) (some (aggL v81)) (some [(V.sl (slL (List.getD vs105 0 V.any))), v124]))).bind rec104)) (
 (keepO (some v1) (some v1) (keepO (some (aggL v81)) (some (aggL v81)) (some [(V.sl (slL (List.getD vs105 0 V.any)))]))).bind J97)) n)))) (
 (keepO (some v1) (some v1) (some [(V.sl (slL (List.getD vs71 0 V.any)))])).bind J22)) n))) := by kernel_rfl
noncomputable def t_railref1_Topo (a0 : T_Topo) : Option Int :=
 if ((decide (a0.Switches < 1)) || (decide (6 < a0.Switches))) = true then (
 some 1) else (
 if ((decide (200 < (List.length a0.Links : Int))) || (decide (8 < (List.length a0.Hosts : Int)))) = true then (
 some 4) else (
 join (fun (s32 : (List T_Spot)) =>
 join (fun (s37 : Unit) =>
 some 0) fun j38 =>
 loopI a0.Hosts (fun (i46 : Int) x47 (s42 : (List T_Spot)) k43 =>
 join (fun (s56 : (List T_Spot)) =>
 k43 (s56)) fun j57 =>
 (t_railref1_Name x47.Name).bind fun r66 =>
 if (!r66) = true then (
 some 2) else (
 (t_railref1_Spot a0 x47.At).bind fun r72 =>
 if (!r72) = true then (
 some 1) else (
 join (fun (s77 : (List T_Spot)) =>
 join (fun (s82 : (List T_Spot)) =>
 (app s82 ([x47.At] : (List T_Spot))).bind fun r88 =>
 j57 (r88)) fun j83 =>
 loopI s77 (fun (i95 : Int) x96 (s91 : Unit) k92 =>
 if (decide (x96 = x47.At)) = true then (
 some 7) else (
 k92 ())) (fun (s91 : Unit) =>
 j83 (s77)) ()) fun j78 =>
 loopU 0 i46 (fun (i118 : Int) (s114 : Unit) k115 =>
 (idx a0.Hosts i118).bind fun r127 =>
 if (decide (r127.Name = x47.Name)) = true then (
 some 7) else (
 k115 ())) (fun (i118 : Int) (s114 : Unit) =>
 j78 (s42)) ()))) (fun (s42 : (List T_Spot)) =>
 j38 ()) (s32)) fun j33 =>
 loopI a0.Links (fun (i146 : Int) x147 (s142 : (List T_Spot)) k143 =>
 join (fun (s156 : (List T_Spot)) =>
 k143 (s156)) fun j157 =>
 (t_railref1_Spot a0 x147.A).bind fun r167 =>
 (t_railref1_Spot a0 x147.B).bind fun r171 =>
 if ((!r167) || (!r171)) = true then (
 some 1) else (
 if (decide (x147.A = x147.B)) = true then (
 some 7) else (
 join (fun (s186 : (List T_Spot)) =>
 (app s186 ([x147.A] : (List T_Spot))).bind fun r192 =>
 (app r192 ([x147.B] : (List T_Spot))).bind fun r196 =>
 j157 (r196)) fun j187 =>
 loopI s142 (fun (i203 : Int) x204 (s199 : Unit) k200 =>
 if ((decide (x204 = x147.A)) || (decide (x204 = x147.B))) = true then (
 some 7) else (
 k200 ())) (fun (s199 : Unit) =>
 j187 (s142)) ()))) (fun (s142 : (List T_Spot)) =>
 j33 (s142)) ([])))
theorem ty_railref1_Topo {n : Nat} (hn : bigN ≤ n) (a0 : T_Topo) : Rv (fun x : Int => (vi x)) (sem_railref1_Topo n [(T_Topo.e a0)]) (t_railref1_Topo a0) := by
  rw [eq_railref1_Topo]
  unfold t_railref1_Topo
  refine tb (x := (T_Topo.c a0)) rfl ?_
  refine tb (x := (vi a0.Switches)) (rfl) ?_
  refine tb (x := (vb (decide (a0.Switches < 1)))) (d_lss) ?_
  refine tg_f (x := V.any) (fun h4 => rfl) ?_
  refine tg_f (x := (vi a0.Switches)) (fun h6 => bind_some_eq (gate_pos (not_t h6) (rfl))) ?_
  refine tg_f (x := (vb (decide (6 < a0.Switches)))) (fun h9 => by simp only [gv_t h9]; exact bind_some_eq (d_gtr)) ?_
  refine tb (x := (vb ((decide (a0.Switches < 1)) || (decide (6 < a0.Switches))))) (pick_or (fun h9 => gv_t (not_f h9))) ?_
  refine tcond (fun h13 => ?_) (fun h13 => ?_)
  · exact rf_ret rfl
  · refine tb (x := (V.sl (List.map T_Link.c a0.Links))) (rfl) ?_
    refine tb (x := (vi (List.length a0.Links : Int))) (p_len _) ?_
    refine tb (x := (vb (decide (200 < (List.length a0.Links : Int))))) (d_gtr) ?_
    refine tg_f (x := V.any) (fun h17 => rfl) ?_
    refine tg_f (x := (V.sl (List.map T_Host.c a0.Hosts))) (fun h19 => bind_some_eq (gate_pos (not_t h19) (rfl))) ?_
    refine tg_f (x := (vi (List.length a0.Hosts : Int))) (fun h22 => by simp only [gv_t h22]; exact bind_some_eq (p_len _)) ?_
    refine tg_f (x := (vb (decide (8 < (List.length a0.Hosts : Int))))) (fun h25 => by simp only [gv_t h25]; exact bind_some_eq (d_gtr)) ?_
    refine tb (x := (vb ((decide (200 < (List.length a0.Links : Int))) || (decide (8 < (List.length a0.Hosts : Int)))))) (pick_or (fun h9 => gv_t (not_f h9))) ?_
    refine tcond (fun h29 => ?_) (fun h29 => ?_)
    · exact rf_ret rfl
    · refine tjoin (mk := fun s32 : (List T_Spot) => [(V.sl (List.map T_Spot.c s32))]) (fun s32 => ?_) fun J31 j33 h34 => ?_
      · refine tjoin (mk := fun s37 : Unit => []) (fun s37 => ?_) fun J36 j38 h39 => ?_
        · exact rf_ret rfl
        · refine tkeepO2 ?_ rfl
          refine tsome ?_
          refine rf_loopI (mk := fun (i46 : Int) (s42 : (List T_Spot)) => [(V.sl (List.map T_Spot.c s42)), (vi (i46 : Int))]) hn a0.Hosts (s32) (fun i46 x47 h48 h49 h50 s42 rec40 k43 h44 => ?_) (fun s42 rec136 h135 => ?_)
          · refine tb (x := (V.sl (List.map T_Host.c a0.Hosts))) (rfl) ?_
            refine tb (x := (vi (List.length a0.Hosts : Int))) (p_len _) ?_
            refine tb (x := (vb (decide ((i46 : Int) < (List.length a0.Hosts : Int))))) (d_lss) ?_
            refine tcond_t h50 ?_
            refine tjoin (mk := fun s56 : (List T_Spot) => [(V.sl (List.map T_Spot.c s56))]) (fun s56 => ?_) fun J55 j57 h58 => ?_
            · refine tb (x := (vi ((i46 : Int) + 1))) (p_incN h49) ?_
              refine tkeepO2 ?_ rfl
              refine tsome ?_
              exact h44 (s56)
            · refine tb (x := (V.sl (List.map T_Host.c a0.Hosts))) (rfl) ?_
              refine tb (x := (V.ptr (T_Host.c x47))) (p_idx_at (c := T_Host.c) (fun _ => rfl) h48) ?_
              refine tb (x := (T_Host.e x47)) (rfl) ?_
              refine tb (x := V.agg (T_Host.c x47)) (by kernel_rfl) ?_
              refine tb (x := (vt x47.Name)) (rfl) ?_
              refine tbo (ty_railref1_Name hn x47.Name) fun r66 => ?_
              refine tb (x := (vb (!r66))) (d_not) ?_
              refine tcond (fun h68 => ?_) (fun h68 => ?_)
              · exact rf_ret rfl
              · refine tb (x := (T_Topo.e a0)) (rfl) ?_
                refine tb (x := (T_Spot.e x47.At)) (rfl) ?_
                refine tbo (ty_railref1_Spot hn a0 x47.At) fun r72 => ?_
                refine tb (x := (vb (!r72))) (d_not) ?_
                refine tcond (fun h74 => ?_) (fun h74 => ?_)
                · exact rf_ret rfl
                · refine tjoin (mk := fun s77 : (List T_Spot) => [(V.sl (List.map T_Spot.c s77))]) (fun s77 => ?_) fun J76 j78 h79 => ?_
                  · refine tjoin (mk := fun s82 : (List T_Spot) => [(V.sl (List.map T_Spot.c s82))]) (fun s82 => ?_) fun J81 j83 h84 => ?_
                    · refine tb (x := (T_Spot.e x47.At)) (rfl) ?_
                      refine tb (x := (V.sl (List.map T_Spot.c ([x47.At] : (List T_Spot))))) (by kernel_rfl) ?_
                      refine tbo (p_app (c := T_Spot.c) (fun _ => rfl) s82 ([x47.At] : (List T_Spot))) fun r88 => ?_
                      refine tkeepO2 ?_ rfl
                      refine tsome ?_
                      exact h58 (r88)
                    · refine tkeepO2 ?_ rfl
                      refine tkeepO2 ?_ rfl
                      refine tsome ?_
                      refine rf_loopI (mk := fun (i95 : Int) (s91 : Unit) => [(V.sl (List.map T_Spot.c s77)), (vi (i95 : Int))]) hn s77 () (fun i95 x96 h97 h98 h99 s91 rec89 k92 h93 => ?_) (fun s91 rec109 h108 => ?_)
                      · refine tb (x := (vi (List.length s77 : Int))) (p_len _) ?_
                        refine tb (x := (vb (decide ((i95 : Int) < (List.length s77 : Int))))) (d_lss) ?_
                        refine tcond_t h99 ?_
                        refine tb (x := (V.ptr (T_Spot.c x96))) (p_idx_at (c := T_Spot.c) (fun _ => rfl) h97) ?_
                        refine tb (x := (T_Spot.e x96)) (rfl) ?_
                        refine tb (x := (T_Spot.e x47.At)) (rfl) ?_
                        refine tb (x := (vb (decide (x96 = x47.At)))) (T_Spot.eql x96 x47.At) ?_
                        refine tcond (fun h106 => ?_) (fun h106 => ?_)
                        · exact rf_ret rfl
                        · refine tb (x := (vi ((i95 : Int) + 1))) (p_incN h98) ?_
                          refine tkeepO2 ?_ rfl
                          refine tkeepO2 ?_ rfl
                          refine tsome ?_
                          exact h93 ()
                      · refine tb (x := (vi (List.length s77 : Int))) (p_len _) ?_
                        refine tb (x := (vb (decide ((List.length s77 : Int) < (List.length s77 : Int))))) (d_lss) ?_
                        refine tcond_f h108 ?_
                        refine tkeepO2 ?_ rfl
                        refine tkeepO2 ?_ rfl
                        refine tsome ?_
                        exact h84 (s77)
                  · refine tkeepO2 ?_ rfl
                    refine tkeepO2 ?_ rfl
                    refine tsome ?_
                    refine rf_loopU (mk := fun (i118 : Int) (s114 : Unit) => [(V.sl (List.map T_Spot.c s42)), (vi i118)]) hn _ _ () (fun i118 h119 h120 h121 s114 rec112 k115 h116 => ?_) (fun i118 s114 rec123 h122 => ?_)
                    · refine tb (x := (vb (decide (i118 < (i46 : Int))))) (d_lss) ?_
                      refine tcond_t h119 ?_
                      refine tb (x := (V.sl (List.map T_Host.c a0.Hosts))) (rfl) ?_
                      refine tbo (p_idx (c := T_Host.c) (fun _ => rfl) a0.Hosts i118) fun r127 => ?_
                      refine tb (x := (V.ptr (T_Host.c r127))) (rfl) ?_
                      refine tb (x := (vt r127.Name)) (rfl) ?_
                      refine tb (x := (vt x47.Name)) (rfl) ?_
                      refine tb (x := (vb (decide (r127.Name = x47.Name)))) (p_eql_str) ?_
                      refine tcond (fun h132 => ?_) (fun h132 => ?_)
                      · exact rf_ret rfl
                      · refine tb (x := (vi (i118 + 1))) (p_inc h120 h121) ?_
                        refine tkeepO2 ?_ rfl
                        refine tkeepO2 ?_ rfl
                        refine tsome ?_
                        exact h116 ()
                    · refine tb (x := (vb (decide (i118 < (i46 : Int))))) (d_lss) ?_
                      refine tcond_f h122 ?_
                      refine tkeepO2 ?_ rfl
                      refine tkeepO2 ?_ rfl
                      refine tsome ?_
                      exact h79 (s42)
          · refine tb (x := (V.sl (List.map T_Host.c a0.Hosts))) (rfl) ?_
            refine tb (x := (vi (List.length a0.Hosts : Int))) (p_len _) ?_
            refine tb (x := (vb (decide ((List.length a0.Hosts : Int) < (List.length a0.Hosts : Int))))) (d_lss) ?_
            refine tcond_f h135 ?_
            exact h39 ()
      · refine tkeepO2 ?_ rfl
        refine tsome ?_
        refine rf_loopI (mk := fun (i146 : Int) (s142 : (List T_Spot)) => [(V.sl (List.map T_Spot.c s142)), (vi (i146 : Int))]) hn a0.Links ([]) (fun i146 x147 h148 h149 h150 s142 rec140 k143 h144 => ?_) (fun s142 rec240 h239 => ?_)
        · refine tb (x := (V.sl (List.map T_Link.c a0.Links))) (rfl) ?_
          refine tb (x := (vi (List.length a0.Links : Int))) (p_len _) ?_
          refine tb (x := (vb (decide ((i146 : Int) < (List.length a0.Links : Int))))) (d_lss) ?_
          refine tcond_t h150 ?_
          refine tjoin (mk := fun s156 : (List T_Spot) => [(V.sl (List.map T_Spot.c s156))]) (fun s156 => ?_) fun J155 j157 h158 => ?_
          · refine tb (x := (vi ((i146 : Int) + 1))) (p_incN h149) ?_
            refine tkeepO2 ?_ rfl
            refine tsome ?_
            exact h144 (s156)
          · refine tb (x := (V.sl (List.map T_Link.c a0.Links))) (rfl) ?_
            refine tb (x := (V.ptr (T_Link.c x147))) (p_idx_at (c := T_Link.c) (fun _ => rfl) h148) ?_
            refine tb (x := (T_Link.e x147)) (rfl) ?_
            refine tb (x := V.agg (T_Link.c x147)) (by kernel_rfl) ?_
            refine tb (x := (T_Topo.e a0)) (rfl) ?_
            refine tb (x := (T_Spot.e x147.A)) (rfl) ?_
            refine tbo (ty_railref1_Spot hn a0 x147.A) fun r167 => ?_
            refine tb (x := (T_Topo.e a0)) (rfl) ?_
            refine tb (x := (T_Spot.e x147.B)) (rfl) ?_
            refine tbo (ty_railref1_Spot hn a0 x147.B) fun r171 => ?_
            refine tb (x := (vb (!r167))) (d_not) ?_
            refine tg_f (x := (vb r171)) (fun h173 => rfl) ?_
            refine tg_f (x := (vb (!r171))) (fun h175 => by simp only [gv_t h175]; exact bind_some_eq (d_not)) ?_
            refine tb (x := (vb ((!r167) || (!r171)))) (pick_or (fun h9 => gv_t (not_f h9))) ?_
            refine tcond (fun h179 => ?_) (fun h179 => ?_)
            · exact rf_ret rfl
            · refine tb (x := (T_Spot.e x147.A)) (rfl) ?_
              refine tb (x := (T_Spot.e x147.B)) (rfl) ?_
              refine tb (x := (vb (decide (x147.A = x147.B)))) (T_Spot.eql x147.A x147.B) ?_
              refine tcond (fun h183 => ?_) (fun h183 => ?_)
              · exact rf_ret rfl
              · refine tjoin (mk := fun s186 : (List T_Spot) => [(V.sl (List.map T_Spot.c s186))]) (fun s186 => ?_) fun J185 j187 h188 => ?_
                · refine tb (x := (T_Spot.e x147.A)) (rfl) ?_
                  refine tb (x := (V.sl (List.map T_Spot.c ([x147.A] : (List T_Spot))))) (by kernel_rfl) ?_
                  refine tbo (p_app (c := T_Spot.c) (fun _ => rfl) s186 ([x147.A] : (List T_Spot))) fun r192 => ?_
                  refine tb (x := (T_Spot.e x147.B)) (rfl) ?_
                  refine tb (x := (V.sl (List.map T_Spot.c ([x147.B] : (List T_Spot))))) (by kernel_rfl) ?_
                  refine tbo (p_app (c := T_Spot.c) (fun _ => rfl) r192 ([x147.B] : (List T_Spot))) fun r196 => ?_
                  refine tkeepO2 ?_ rfl
                  refine tsome ?_
                  exact h158 (r196)
                · refine tkeepO2 ?_ rfl
                  refine tkeepO2 ?_ rfl
                  refine tsome ?_
                  refine rf_loopI (mk := fun (i203 : Int) (s199 : Unit) => [(V.sl (List.map T_Spot.c s142)), (vi (i203 : Int))]) hn s142 () (fun i203 x204 h205 h206 h207 s199 rec197 k200 h201 => ?_) (fun s199 rec236 h235 => ?_)
                  · refine tb (x := (vi (List.length s142 : Int))) (p_len _) ?_
                    refine tb (x := (vb (decide ((i203 : Int) < (List.length s142 : Int))))) (d_lss) ?_
                    refine tcond_t h207 ?_
                    refine tb (x := (V.ptr (T_Spot.c x204))) (p_idx_at (c := T_Spot.c) (fun _ => rfl) h205) ?_
                    refine tb (x := (T_Spot.e x204)) (rfl) ?_
                    refine tb (x := (T_Spot.e x147.A)) (rfl) ?_
                    refine tb (x := (vb (decide (x204 = x147.A)))) (T_Spot.eql x204 x147.A) ?_
                    refine tg_f (x := (V.sl (List.map T_Spot.c s142))) (fun h214 => rfl) ?_
                    refine tg_f (x := (vi (i203 : Int))) (fun h216 => rfl) ?_
                    refine tg_f (x := (V.ptr (T_Spot.c x204))) (fun h218 => by simp only [gv_t h218]; exact bind_some_eq (p_idx_at (c := T_Spot.c) (fun _ => rfl) h205)) ?_
                    refine tg_f (x := (T_Spot.e x204)) (fun h221 => by first | exact bind_some_eq (rfl) | (simp only [gv_t h221]; exact bind_some_eq (rfl))) ?_
                    refine tg_f (x := V.any) (fun h224 => rfl) ?_
                    refine tg_f (x := (T_Spot.e x147.B)) (fun h226 => bind_some_eq (gate_pos (not_t h226) (rfl))) ?_
                    refine tg_f (x := (vb (decide (x204 = x147.B)))) (fun h229 => by simp only [gv_t h229]; exact bind_some_eq (T_Spot.eql x204 x147.B)) ?_
                    refine tb (x := (vb ((decide (x204 = x147.A)) || (decide (x204 = x147.B))))) (pick_or (fun h9 => gv_t (not_f h9))) ?_
                    refine tcond (fun h233 => ?_) (fun h233 => ?_)
                    · exact rf_ret rfl
                    · refine tb (x := (vi ((i203 : Int) + 1))) (p_incN h206) ?_
                      refine tkeepO2 ?_ rfl
                      refine tkeepO2 ?_ rfl
                      refine tsome ?_
                      exact h201 ()
                  · refine tb (x := (vi (List.length s142 : Int))) (p_len _) ?_
                    refine tb (x := (vb (decide ((List.length s142 : Int) < (List.length s142 : Int))))) (d_lss) ?_
                    refine tcond_f h235 ?_
                    refine tkeepO2 ?_ rfl
                    refine tkeepO2 ?_ rfl
                    refine tsome ?_
                    exact h188 (s142)
        · refine tb (x := (V.sl (List.map T_Link.c a0.Links))) (rfl) ?_
          refine tb (x := (vi (List.length a0.Links : Int))) (p_len _) ?_
          refine tb (x := (vb (decide ((List.length a0.Links : Int) < (List.length a0.Links : Int))))) (d_lss) ?_
          refine tcond_f h239 ?_
          refine tkeepO2 ?_ rfl
          refine tsome ?_
          exact h34 (s142)

/-! railpoint/railref1.Header -/
def an_railref1_Header : Ann := .seq (.reg 0 [] [] []) (.seq (.reg 0 [] [] []) (.no))
noncomputable def sem_railref1_Header (n : Nat) (xs : List V) : Option V := if xs.length ≤ 9 then denF Tryd.prog (envOf []) n Tryd.f20 an_railref1_Header xs else none
theorem ok_railref1_Header (n : Nat) : SemOk Tryd.prog DW 20 (sem_railref1_Header n) := fun xs y h => by
  unfold sem_railref1_Header at h
  split at h
  · rename_i hl
    exact denF_ok stb Tryd.func20 (by kernel_rfl) (envOf_ok semsOk_nil) (by rw [Tryd.ntmps20]; exact hl) h
  · cases h
theorem eq_railref1_Header (n : Nat) (x0 : V) : sem_railref1_Header n [x0] =
 (bin2 Tryd.prog BinOp.geq 3 (ot 3) (oc 0) x0 (vi 0)).bind fun v1 =>
 (guardV v1 true (some x0)).bind fun v2 =>
 (guardV v1 true ((bin2 Tryd.prog BinOp.lss 3 (ot 6) (oc 16) v2 (vi 16)).bind fun v3 =>
 some v3)).bind fun v4 =>
 (pickV v1 v4 (vb false)).bind fun v5 =>
 some v5 := by kernel_rfl
noncomputable def t_railref1_Header (a0 : Int) : Option Bool :=
 some ((decide (0 ≤ a0)) && (decide (a0 < 16)))
theorem ty_railref1_Header {n : Nat} (hn : bigN ≤ n) (a0 : Int) : Rv (fun x : Bool => (vb x)) (sem_railref1_Header n [(vi a0)]) (t_railref1_Header a0) := by
  rw [eq_railref1_Header]
  unfold t_railref1_Header
  refine tb (x := (vb (decide (0 ≤ a0)))) (d_geq) ?_
  refine tg (x := (vi a0)) (fun h2 => rfl) ?_
  refine tg (x := (vb (decide (a0 < 16)))) (fun h4 => by simp only [gv_t h4]; exact bind_some_eq (d_lss)) ?_
  refine tb (x := (vb ((decide (0 ≤ a0)) && (decide (a0 < 16))))) (pick_and (fun h9 => gv_t h9)) ?_
  exact rf_ret rfl

/-! railpoint/railref1.Cube -/
def an_railref1_Cube : Ann := .seq (.reg 0 [] [] []) (.seq (.reg 0 [] [] []) (.seq (.reg 0 [] [] []) (.seq (.seq (.reg 0 [] [] []) (.cond none (.seq (.reg 0 [] [] []) (.no)) (.no))) (.seq (.seq (.reg 0 [] [] []) (.cond none (.seq (.reg 0 [] [] []) (.no)) (.no))) (.seq (.reg 0 [] [] []) (.no))))))
noncomputable def sem_railref1_Cube (n : Nat) (xs : List V) : Option V := if xs.length ≤ 25 then denF Tryd.prog (envOf [(20, (sem_railref1_Header n))]) n Tryd.f126 an_railref1_Cube xs else none
theorem ok_railref1_Cube (n : Nat) : SemOk Tryd.prog DW 126 (sem_railref1_Cube n) := fun xs y h => by
  unfold sem_railref1_Cube at h
  split at h
  · rename_i hl
    exact denF_ok stb Tryd.func126 (by kernel_rfl) (envOf_ok (semsOk_cons (ok_railref1_Header n) semsOk_nil)) (by rw [Tryd.ntmps126]; exact hl) h
  · cases h
theorem eq_railref1_Cube (n : Nat) (x0 : V) : sem_railref1_Cube n [x0] =
 (V.cellsO x0).bind fun v1 =>
 (ldk none (List.drop 0 v1)).bind fun v2 =>
 ((sem_railref1_Header n) [v2]).bind fun v3 =>
 (ldk none (List.drop 1 v1)).bind fun v4 =>
 ((sem_railref1_Header n) [v4]).bind fun v5 =>
 (scal1 Tryd.prog (Op.unary Go.UnOp.not) v3).bind fun v6 =>
 (guardV v6 false (some v5)).bind fun v7 =>
 (guardV v6 false ((scal1 Tryd.prog (Op.unary Go.UnOp.not) v7).bind fun v8 =>
 some v8)).bind fun v9 =>
 (pickV v6 (vb true) v9).bind fun v10 =>
 condV v10 (
 some (vi 1)) (
 (ldk none (List.drop 1 v1)).bind fun v11 =>
 (ldk none (List.drop 0 v1)).bind fun v12 =>
 (bin2 Tryd.prog BinOp.and 3 (ot 18) (ot 20) v11 v12).bind fun v13 =>
 (ldk none (List.drop 1 v1)).bind fun v14 =>
 (bin2 Tryd.prog BinOp.neq 3 (ot 21) (ot 23) v13 v14).bind fun v15 =>
 condV v15 (
 some (vi 3)) (
 some (vi 0))) := by kernel_rfl
noncomputable def t_railref1_Cube (a0 : T_Cube) : Option Int :=
 (t_railref1_Header a0.Mask).bind fun r4 =>
 (t_railref1_Header a0.Bits).bind fun r7 =>
 if ((!r4) || (!r7)) = true then (
 some 1) else (
 if (decide ((bits .and .i64 a0.Bits a0.Mask) ≠ a0.Bits)) = true then (
 some 3) else (
 some 0))
theorem ty_railref1_Cube {n : Nat} (hn : bigN ≤ n) (a0 : T_Cube) : Rv (fun x : Int => (vi x)) (sem_railref1_Cube n [(T_Cube.e a0)]) (t_railref1_Cube a0) := by
  rw [eq_railref1_Cube]
  unfold t_railref1_Cube
  refine tb (x := (T_Cube.c a0)) rfl ?_
  refine tb (x := (vi a0.Mask)) (rfl) ?_
  refine tbo (ty_railref1_Header hn a0.Mask) fun r4 => ?_
  refine tb (x := (vi a0.Bits)) (rfl) ?_
  refine tbo (ty_railref1_Header hn a0.Bits) fun r7 => ?_
  refine tb (x := (vb (!r4))) (d_not) ?_
  refine tg_f (x := (vb r7)) (fun h9 => rfl) ?_
  refine tg_f (x := (vb (!r7))) (fun h11 => by simp only [gv_t h11]; exact bind_some_eq (d_not)) ?_
  refine tb (x := (vb ((!r4) || (!r7)))) (pick_or (fun h9 => gv_t (not_f h9))) ?_
  refine tcond (fun h15 => ?_) (fun h15 => ?_)
  · exact rf_ret rfl
  · refine tb (x := (vi a0.Bits)) (rfl) ?_
    refine tb (x := (vi a0.Mask)) (rfl) ?_
    refine tb (x := (vi (bits .and .i64 a0.Bits a0.Mask))) (d_and) ?_
    refine tb (x := (vi a0.Bits)) (rfl) ?_
    refine tb (x := (vb (decide ((bits .and .i64 a0.Bits a0.Mask) ≠ a0.Bits)))) (d_neq) ?_
    refine tcond (fun h21 => ?_) (fun h21 => ?_)
    · exact rf_ret rfl
    · exact rf_ret rfl

/-! railpoint/railref1.Rule -/
def an_railref1_Rule : Ann := .seq (.reg 0 [] [] []) (.seq (.reg 0 [] [] []) (.seq (.reg 0 [] [] []) (.seq (.seq (.reg 0 [] [] []) (.cond none (.seq (.reg 0 [] [] []) (.no)) (.no))) (.seq (.reg 0 [] [] []) (.seq (.seq (.reg 0 [] [] []) (.cond none (.seq (.reg 0 [] [] []) (.no)) (.no))) (.seq (.seq (.reg 0 [] [] []) (.cond none (.seq (.reg 0 [] [] []) (.no)) (.no))) (.seq (.reg 0 [] [] []) (.no))))))))
noncomputable def sem_railref1_Rule (n : Nat) (xs : List V) : Option V := if xs.length ≤ 61 then denF Tryd.prog (envOf [(20, (sem_railref1_Header n)), (126, (sem_railref1_Cube n))]) n Tryd.f69 an_railref1_Rule xs else none
theorem ok_railref1_Rule (n : Nat) : SemOk Tryd.prog DW 69 (sem_railref1_Rule n) := fun xs y h => by
  unfold sem_railref1_Rule at h
  split at h
  · rename_i hl
    exact denF_ok stb Tryd.func69 (by kernel_rfl) (envOf_ok (semsOk_cons (ok_railref1_Header n) (semsOk_cons (ok_railref1_Cube n) semsOk_nil))) (by rw [Tryd.ntmps69]; exact hl) h
  · cases h
theorem eq_railref1_Rule (n : Nat) (x0 : V) : sem_railref1_Rule n [x0] =
 (V.cellsO x0).bind fun v1 =>
 (ldk none (List.drop 4 v1)).bind fun v2 =>
 ((sem_railref1_Header n) [v2]).bind fun v3 =>
 (ldk none (List.drop 5 v1)).bind fun v4 =>
 ((sem_railref1_Header n) [v4]).bind fun v5 =>
 (ldk none (List.drop 0 v1)).bind fun v6 =>
 (bin2 Tryd.prog BinOp.lss 3 (ot 13) (oc 0) v6 (vi 0)).bind fun v7 =>
 (guardV v7 false (some V.any)).bind fun v8 =>
 (guardV v7 false ((gate v7 false (ldk none (List.drop 0 v1))).bind fun v9 =>
 some v9)).bind fun v10 =>
 (guardV v7 false ((bin2 Tryd.prog BinOp.gtr 3 (ot 17) (oc 99) v10 (vi 99)).bind fun v11 =>
 some v11)).bind fun v12 =>
 (pickV v7 (vb true) v12).bind fun v13 =>
 (guardV v13 false (some V.any)).bind fun v14 =>
 (guardV v13 false ((gate v13 false (ldk none (List.drop 3 v1))).bind fun v15 =>
 some v15)).bind fun v16 =>
 (guardV v13 false ((bin2 Tryd.prog BinOp.lss 3 (ot 22) (oc 0) v16 (vi 0)).bind fun v17 =>
 some v17)).bind fun v18 =>
 (pickV v13 (vb true) v18).bind fun v19 =>
 (guardV v19 false (some V.any)).bind fun v20 =>
 (guardV v19 false ((gate v19 false (ldk none (List.drop 3 v1))).bind fun v21 =>
 some v21)).bind fun v22 =>
 (guardV v19 false ((bin2 Tryd.prog BinOp.gtr 3 (ot 27) (oc 4) v22 (vi 4)).bind fun v23 =>
 some v23)).bind fun v24 =>
 (pickV v19 (vb true) v24).bind fun v25 =>
 (guardV v25 false (some v3)).bind fun v26 =>
 (guardV v25 false ((scal1 Tryd.prog (Op.unary Go.UnOp.not) v26).bind fun v27 =>
 some v27)).bind fun v28 =>
 (pickV v25 (vb true) v28).bind fun v29 =>
 (guardV v29 false (some v5)).bind fun v30 =>
 (guardV v29 false ((scal1 Tryd.prog (Op.unary Go.UnOp.not) v30).bind fun v31 =>
 some v31)).bind fun v32 =>
 (pickV v29 (vb true) v32).bind fun v33 =>
 condV v33 (
 some (vi 1)) (
 (ldk (some 2) (List.drop 1 v1)).bind fun v34 =>
 ((sem_railref1_Cube n) [v34]).bind fun v35 =>
 (bin2 Tryd.prog BinOp.neq 3 (ot 41) (oc 0) v35 (vi 0)).bind fun v36 =>
 condV v36 (
 some v35) (
 (ldk none (List.drop 4 v1)).bind fun v37 =>
 (ldk none (List.drop 5 v1)).bind fun v38 =>
 ((fillL [(vi 0), (vi 0)] [(0, 1, v37), (1, 1, v38)]).map V.agg).bind fun v39 =>
 ((sem_railref1_Cube n) [v39]).bind fun v40 =>
 (bin2 Tryd.prog BinOp.neq 3 (ot 49) (oc 0) v40 (vi 0)).bind fun v41 =>
 (guardV v41 false (some V.any)).bind fun v42 =>
 (guardV v41 false ((gate v41 false (ldk none (List.drop 3 v1))).bind fun v43 =>
 some v43)).bind fun v44 =>
 (guardV v41 false ((bin2 Tryd.prog BinOp.eql 3 (ot 53) (oc 0) v44 (vi 0)).bind fun v45 =>
 some v45)).bind fun v46 =>
 (guardV v41 false (some v46)).bind fun v47 =>
 (guardV v47 true (some V.any)).bind fun v48 =>
 (guardV v47 true ((gate v47 true (ldk none (List.drop 4 v1))).bind fun v49 =>
 some v49)).bind fun v50 =>
 (guardV v47 true ((bin2 Tryd.prog BinOp.neq 3 (ot 57) (oc 0) v50 (vi 0)).bind fun v51 =>
 some v51)).bind fun v52 =>
 (guardV v41 false ((pickV v47 v52 (vb false)).bind fun v53 =>
 some v53)).bind fun v54 =>
 (pickV v41 (vb true) v54).bind fun v55 =>
 condV v55 (
 some (vi 3)) (
 some (vi 0)))) := by kernel_rfl
noncomputable def t_railref1_Rule (a0 : T_Rule) : Option Int :=
 (t_railref1_Header a0.Set).bind fun r4 =>
 (t_railref1_Header a0.Value).bind fun r7 =>
 if ((((((decide (a0.Prio < 0)) || (decide (99 < a0.Prio))) || (decide (a0.Out < 0))) || (decide (4 < a0.Out))) || (!r4)) || (!r7)) = true then (
 some 1) else (
 (t_railref1_Cube a0.Cube).bind fun r52 =>
 if (decide (r52 ≠ 0)) = true then (
 some r52) else (
 (t_railref1_Cube (T_Cube.mk a0.Set a0.Value)).bind fun r59 =>
 if ((decide (r59 ≠ 0)) || ((decide (a0.Out = 0)) && (decide (a0.Set ≠ 0)))) = true then (
 some 3) else (
 some 0)))
theorem ty_railref1_Rule {n : Nat} (hn : bigN ≤ n) (a0 : T_Rule) : Rv (fun x : Int => (vi x)) (sem_railref1_Rule n [(T_Rule.e a0)]) (t_railref1_Rule a0) := by
  rw [eq_railref1_Rule]
  unfold t_railref1_Rule
  refine tb (x := (T_Rule.c a0)) rfl ?_
  refine tb (x := (vi a0.Set)) (rfl) ?_
  refine tbo (ty_railref1_Header hn a0.Set) fun r4 => ?_
  refine tb (x := (vi a0.Value)) (rfl) ?_
  refine tbo (ty_railref1_Header hn a0.Value) fun r7 => ?_
  refine tb (x := (vi a0.Prio)) (rfl) ?_
  refine tb (x := (vb (decide (a0.Prio < 0)))) (d_lss) ?_
  refine tg_f (x := V.any) (fun h10 => rfl) ?_
  refine tg_f (x := (vi a0.Prio)) (fun h12 => bind_some_eq (gate_pos (not_t h12) (rfl))) ?_
  refine tg_f (x := (vb (decide (99 < a0.Prio)))) (fun h15 => by simp only [gv_t h15]; exact bind_some_eq (d_gtr)) ?_
  refine tb (x := (vb ((decide (a0.Prio < 0)) || (decide (99 < a0.Prio))))) (pick_or (fun h9 => gv_t (not_f h9))) ?_
  refine tg_f (x := V.any) (fun h19 => rfl) ?_
  refine tg_f (x := (vi a0.Out)) (fun h21 => bind_some_eq (gate_pos (not_t h21) (rfl))) ?_
  refine tg_f (x := (vb (decide (a0.Out < 0)))) (fun h24 => by simp only [gv_t h24]; exact bind_some_eq (d_lss)) ?_
  refine tb (x := (vb (((decide (a0.Prio < 0)) || (decide (99 < a0.Prio))) || (decide (a0.Out < 0))))) (pick_or (fun h9 => gv_t (not_f h9))) ?_
  refine tg_f (x := V.any) (fun h28 => rfl) ?_
  refine tg_f (x := (vi a0.Out)) (fun h30 => bind_some_eq (gate_pos (not_t h30) (rfl))) ?_
  refine tg_f (x := (vb (decide (4 < a0.Out)))) (fun h33 => by simp only [gv_t h33]; exact bind_some_eq (d_gtr)) ?_
  refine tb (x := (vb ((((decide (a0.Prio < 0)) || (decide (99 < a0.Prio))) || (decide (a0.Out < 0))) || (decide (4 < a0.Out))))) (pick_or (fun h9 => gv_t (not_f h9))) ?_
  refine tg_f (x := (vb r4)) (fun h37 => rfl) ?_
  refine tg_f (x := (vb (!r4))) (fun h39 => by simp only [gv_t h39]; exact bind_some_eq (d_not)) ?_
  refine tb (x := (vb (((((decide (a0.Prio < 0)) || (decide (99 < a0.Prio))) || (decide (a0.Out < 0))) || (decide (4 < a0.Out))) || (!r4)))) (pick_or (fun h9 => gv_t (not_f h9))) ?_
  refine tg_f (x := (vb r7)) (fun h43 => rfl) ?_
  refine tg_f (x := (vb (!r7))) (fun h45 => by simp only [gv_t h45]; exact bind_some_eq (d_not)) ?_
  refine tb (x := (vb ((((((decide (a0.Prio < 0)) || (decide (99 < a0.Prio))) || (decide (a0.Out < 0))) || (decide (4 < a0.Out))) || (!r4)) || (!r7)))) (pick_or (fun h9 => gv_t (not_f h9))) ?_
  refine tcond (fun h49 => ?_) (fun h49 => ?_)
  · exact rf_ret rfl
  · refine tb (x := (T_Cube.e a0.Cube)) (rfl) ?_
    refine tbo (ty_railref1_Cube hn a0.Cube) fun r52 => ?_
    refine tb (x := (vb (decide (r52 ≠ 0)))) (d_neq) ?_
    refine tcond (fun h54 => ?_) (fun h54 => ?_)
    · exact rf_ret rfl
    · refine tb (x := (vi a0.Set)) (rfl) ?_
      refine tb (x := (vi a0.Value)) (rfl) ?_
      refine tb (x := (T_Cube.e (T_Cube.mk a0.Set a0.Value))) (by kernel_rfl) ?_
      refine tbo (ty_railref1_Cube hn (T_Cube.mk a0.Set a0.Value)) fun r59 => ?_
      refine tb (x := (vb (decide (r59 ≠ 0)))) (d_neq) ?_
      refine tg_f (x := V.any) (fun h61 => rfl) ?_
      refine tg_f (x := (vi a0.Out)) (fun h63 => bind_some_eq (gate_pos (not_t h63) (rfl))) ?_
      refine tg_f (x := (vb (decide (a0.Out = 0)))) (fun h66 => by simp only [gv_t h66]; exact bind_some_eq (d_eql)) ?_
      refine tg_f (x := (vb (decide (a0.Out = 0)))) (fun h69 => congrArg some (gv_t h69)) ?_
      refine tg2 (x := V.any) (fun h71 => rfl) ?_
      refine tg2 (x := (vi a0.Set)) (fun h73 => bind_some_eq (gate_pos2 (and_l h73) (and_r h73) (rfl))) ?_
      refine tg2 (x := (vb (decide (a0.Set ≠ 0)))) (fun h76 => by simp only [gv_t h76]; exact bind_some_eq (d_neq)) ?_
      refine tg_f (x := (vb ((decide (a0.Out = 0)) && (decide (a0.Set ≠ 0))))) (fun h79 => by simp only [gv_t h79]; exact bind_some_eq (pick_and (fun h9 => gv_t (and_i h79 h9)))) ?_
      refine tb (x := (vb ((decide (r59 ≠ 0)) || ((decide (a0.Out = 0)) && (decide (a0.Set ≠ 0)))))) (pick_or (fun h9 => gv_t (not_f h9))) ?_
      refine tcond (fun h83 => ?_) (fun h83 => ?_)
      · exact rf_ret rfl
      · exact rf_ret rfl

/-! railpoint/railref1.Table -/
def an_railref1_Table : Ann := .seq (.reg 0 [] [] []) (.seq (.seq (.reg 0 [] [] []) (.cond none (.seq (.reg 0 [] [] []) (.no)) (.no))) (.seq (.seq (.reg 0 [] [] []) (.blk (some []) (.loop [.s 3] (.seq (.seq (.reg 0 [] [] []) (.cond none (.no) (.no))) (.seq (.blk (some []) (.seq (.reg 0 [] [] []) (.seq (.seq (.reg 0 [] [] []) (.cond none (.seq (.reg 0 [] [] []) (.no)) (.no))) (.seq (.reg 0 [] [] []) (.blk (some []) (.loop [.s 5] (.seq (.seq (.reg 0 [] [] []) (.cond none (.no) (.no))) (.seq (.blk none (.seq (.reg 24 [] [] []) (.cond none (.seq (.reg 0 [] [] []) (.no)) (.no)))) (.reg 0 [] [] []))))))))) (.reg 0 [] [] [])))))) (.seq (.reg 0 [] [] []) (.no))))
noncomputable def sem_railref1_Table (n : Nat) (xs : List V) : Option V := if xs.length ≤ 52 then denF Tryd.prog (envOf [(69, (sem_railref1_Rule n))]) n Tryd.f13 an_railref1_Table xs else none
theorem ok_railref1_Table (n : Nat) : SemOk Tryd.prog DW 13 (sem_railref1_Table n) := fun xs y h => by
  unfold sem_railref1_Table at h
  split at h
  · rename_i hl
    exact denF_ok stb Tryd.func13 (by kernel_rfl) (envOf_ok (semsOk_cons (ok_railref1_Rule n) semsOk_nil)) (by rw [Tryd.ntmps13]; exact hl) h
  · cases h
theorem eq_railref1_Table (n : Nat) (x0 : V) : sem_railref1_Table n [x0] =
 (lenS [x0]).bind fun v1 =>
 (bin2 Tryd.prog BinOp.gtr 3 (ot 7) (oc 12) v1 (vi 12)).bind fun v2 =>
 condV v2 (
 some (vi 4)) (
 JoinPt (fun vs3 =>
 some (vi 0)) fun J4 =>
 (fixN (fun rec5 vs6 =>
 (lenS [x0]).bind fun v7 =>
 (bin2 Tryd.prog BinOp.lss 3 (ot 9) (ot 11) (List.getD vs6 0 V.any) v7).bind fun v8 =>
 condV v8 (
 JoinPt (fun vs9 =>
 (bin2 Tryd.prog BinOp.add 3 (ot 13) (oc 1) (List.getD vs6 0 V.any) (vi 1)).bind fun v11 =>
 rec5 [v11]) fun J10 =>
 (idxS 6 x0 (List.getD vs6 0 V.any)).bind fun v12 =>
 (ldp (some 6) v12).bind fun v13 =>
 ((sem_railref1_Rule n) [v13]).bind fun v14 =>
 (bin2 Tryd.prog BinOp.neq 3 (ot 20) (oc 0) v14 (vi 0)).bind fun v15 =>
 condV v15 (
 some v14) (
 JoinPt (fun vs16 =>
 J10 []) fun J17 =>
 (fixN (fun rec18 vs19 =>
 (bin2 Tryd.prog BinOp.lss 3 (ot 23) (ot 24) (List.getD vs19 0 V.any) (List.getD vs6 0 V.any)).bind fun v20 =>
 condV v20 (
 (idxS 6 x0 (List.getD vs19 0 V.any)).bind fun v21 =>
 (ptrF 0 v21).bind fun v22 =>
 (ldp none v22).bind fun v23 =>
 (idxS 6 x0 (List.getD vs6 0 V.any)).bind fun v24 =>
 (ptrF 0 v24).bind fun v25 =>
 (ldp none v25).bind fun v26 =>
 (bin2 Tryd.prog BinOp.eql 3 (ot 32) (ot 37) v23 v26).bind fun v27 =>
 (guardV v27 true (some x0)).bind fun v28 =>
 (guardV v27 true (some (List.getD vs19 0 V.any))).bind fun v29 =>
 (guardV v27 true ((idxS 6 v28 v29).bind fun v30 =>
 some v30)).bind fun v31 =>
 (guardV v27 true ((ptrF 1 v31).bind fun v32 =>
 some v32)).bind fun v33 =>
 (guardV v27 true ((ldp (some 2) v33).bind fun v34 =>
 some v34)).bind fun v35 =>
 (guardV v27 true (some x0)).bind fun v36 =>
 (guardV v27 true (some (List.getD vs6 0 V.any))).bind fun v37 =>
 (guardV v27 true ((idxS 6 v36 v37).bind fun v38 =>
 some v38)).bind fun v39 =>
 (guardV v27 true ((ptrF 1 v39).bind fun v40 =>
 some v40)).bind fun v41 =>
 (guardV v27 true ((ldp (some 2) v41).bind fun v42 =>
 some v42)).bind fun v43 =>
 (guardV v27 true ((bin2 Tryd.prog BinOp.eql 58 (ot 44) (ot 49) v35 v43).bind fun v44 =>
 some v44)).bind fun v45 =>
 (pickV v27 v45 (vb false)).bind fun v46 =>
 condV v46 (
 some (vi 7)) (
 (bin2 Tryd.prog BinOp.add 3 (ot 26) (oc 1) (List.getD vs19 0 V.any) (vi 1)).bind fun v47 =>
 rec18 [v47])) (
 J17 [])) n) [(vi 0)])) (
 J4 [])) n) [(vi 0)]) := by kernel_rfl
noncomputable def t_railref1_Table (a0 : (List T_Rule)) : Option Int :=
 if (decide (12 < (List.length a0 : Int))) = true then (
 some 4) else (
 join (fun (s6 : Unit) =>
 some 0) fun j7 =>
 loopI a0 (fun (i15 : Int) x16 (s11 : Unit) k12 =>
 join (fun (s24 : Unit) =>
 k12 ()) fun j25 =>
 (t_railref1_Rule x16).bind fun r31 =>
 if (decide (r31 ≠ 0)) = true then (
 some r31) else (
 join (fun (s36 : Unit) =>
 j25 ()) fun j37 =>
 loopU 0 i15 (fun (i45 : Int) (s41 : Unit) k42 =>
 (idx a0 i45).bind fun r53 =>
 (gd (decide (r53.Prio = x16.Prio)) default (idx a0 i45)).bind fun r67 =>
 if ((decide (r53.Prio = x16.Prio)) && (decide (r67.Cube = x16.Cube))) = true then (
 some 7) else (
 k42 ())) (fun (i45 : Int) (s41 : Unit) =>
 j37 ()) ())) (fun (s11 : Unit) =>
 j7 ()) ())
theorem ty_railref1_Table {n : Nat} (hn : bigN ≤ n) (a0 : (List T_Rule)) : Rv (fun x : Int => (vi x)) (sem_railref1_Table n [(V.sl (List.map T_Rule.c a0))]) (t_railref1_Table a0) := by
  rw [eq_railref1_Table]
  unfold t_railref1_Table
  refine tb (x := (vi (List.length a0 : Int))) (p_len _) ?_
  refine tb (x := (vb (decide (12 < (List.length a0 : Int))))) (d_gtr) ?_
  refine tcond (fun h3 => ?_) (fun h3 => ?_)
  · exact rf_ret rfl
  · refine tjoin (mk := fun s6 : Unit => []) (fun s6 => ?_) fun J5 j7 h8 => ?_
    · exact rf_ret rfl
    · refine rf_loopI (mk := fun (i15 : Int) (s11 : Unit) => [(vi (i15 : Int))]) hn a0 () (fun i15 x16 h17 h18 h19 s11 rec9 k12 h13 => ?_) (fun s11 rec95 h94 => ?_)
      · refine tb (x := (vi (List.length a0 : Int))) (p_len _) ?_
        refine tb (x := (vb (decide ((i15 : Int) < (List.length a0 : Int))))) (d_lss) ?_
        refine tcond_t h19 ?_
        refine tjoin (mk := fun s24 : Unit => []) (fun s24 => ?_) fun J23 j25 h26 => ?_
        · refine tb (x := (vi ((i15 : Int) + 1))) (p_incN h18) ?_
          exact h13 ()
        · refine tb (x := (V.ptr (T_Rule.c x16))) (p_idx_at (c := T_Rule.c) (fun _ => rfl) h17) ?_
          refine tb (x := (T_Rule.e x16)) (rfl) ?_
          refine tbo (ty_railref1_Rule hn x16) fun r31 => ?_
          refine tb (x := (vb (decide (r31 ≠ 0)))) (d_neq) ?_
          refine tcond (fun h33 => ?_) (fun h33 => ?_)
          · exact rf_ret rfl
          · refine tjoin (mk := fun s36 : Unit => []) (fun s36 => ?_) fun J35 j37 h38 => ?_
            · exact h26 ()
            · refine rf_loopU (mk := fun (i45 : Int) (s41 : Unit) => [(vi i45)]) hn _ _ () (fun i45 h46 h47 h48 s41 rec39 k42 h43 => ?_) (fun i45 s41 rec50 h49 => ?_)
              · refine tb (x := (vb (decide (i45 < (i15 : Int))))) (d_lss) ?_
                refine tcond_t h46 ?_
                refine tbo (p_idx (c := T_Rule.c) (fun _ => rfl) a0 i45) fun r53 => ?_
                refine tb (x := (V.ptr (T_Rule.c r53))) (rfl) ?_
                refine tb (x := (vi r53.Prio)) (rfl) ?_
                refine tb (x := (V.ptr (T_Rule.c x16))) (p_idx_at (c := T_Rule.c) (fun _ => rfl) h17) ?_
                refine tb (x := (V.ptr (T_Rule.c x16))) (rfl) ?_
                refine tb (x := (vi x16.Prio)) (rfl) ?_
                refine tb (x := (vb (decide (r53.Prio = x16.Prio)))) (d_eql) ?_
                refine tg (x := (V.sl (List.map T_Rule.c a0))) (fun h60 => rfl) ?_
                refine tg (x := (vi i45)) (fun h62 => rfl) ?_
                refine tgo (fun h64 => by simp only [gv_t h64]; exact rf_bind_some (p_idx (c := T_Rule.c) (fun _ => rfl) a0 i45)) fun r67 => ?_
                refine tg (x := (V.ptr (List.drop 1 (T_Rule.c r67)))) (fun h68 => by first | exact bind_some_eq (rfl) | (simp only [gv_t h68]; exact bind_some_eq (rfl))) ?_
                refine tg (x := (T_Cube.e r67.Cube)) (fun h71 => by first | exact bind_some_eq (rfl) | (simp only [gv_t h71]; exact bind_some_eq (rfl))) ?_
                refine tg (x := (V.sl (List.map T_Rule.c a0))) (fun h74 => rfl) ?_
                refine tg (x := (vi (i15 : Int))) (fun h76 => rfl) ?_
                refine tg (x := (V.ptr (T_Rule.c x16))) (fun h78 => by simp only [gv_t h78]; exact bind_some_eq (p_idx_at (c := T_Rule.c) (fun _ => rfl) h17)) ?_
                refine tg (x := (V.ptr (List.drop 1 (T_Rule.c x16)))) (fun h81 => by first | exact bind_some_eq (rfl) | (simp only [gv_t h81]; exact bind_some_eq (rfl))) ?_
                refine tg (x := (T_Cube.e x16.Cube)) (fun h84 => by first | exact bind_some_eq (rfl) | (simp only [gv_t h84]; exact bind_some_eq (rfl))) ?_
                refine tg (x := (vb (decide (r67.Cube = x16.Cube)))) (fun h87 => by simp only [gv_t h87]; exact bind_some_eq (T_Cube.eql r67.Cube x16.Cube)) ?_
                refine tb (x := (vb ((decide (r53.Prio = x16.Prio)) && (decide (r67.Cube = x16.Cube))))) (pick_and (fun h9 => gv_t h9)) ?_
                refine tcond (fun h91 => ?_) (fun h91 => ?_)
                · exact rf_ret rfl
                · refine tb (x := (vi (i45 + 1))) (p_inc h47 h48) ?_
                  exact h43 ()
              · refine tb (x := (vb (decide (i45 < (i15 : Int))))) (d_lss) ?_
                refine tcond_f h49 ?_
                exact h38 ()
      · refine tb (x := (vi (List.length a0 : Int))) (p_len _) ?_
        refine tb (x := (vb (decide ((List.length a0 : Int) < (List.length a0 : Int))))) (d_lss) ?_
        refine tcond_f h94 ?_
        exact h8 ()

/-! railpoint/railref1.Net -/
def an_railref1_Net : Ann := .seq (.reg 0 [] [] []) (.seq (.reg 0 [] [] []) (.seq (.seq (.reg 0 [] [] []) (.cond none (.seq (.reg 0 [] [] []) (.no)) (.no))) (.seq (.seq (.reg 0 [] [] []) (.cond none (.seq (.reg 0 [] [] []) (.no)) (.no))) (.seq (.seq (.reg 0 [] [] []) (.blk (some []) (.loop [.kb 1, .s 4] (.seq (.seq (.reg 0 [] [] []) (.cond none (.no) (.no))) (.seq (.blk none (.seq (.reg 0 [] [] []) (.seq (.reg 0 [] [] []) (.cond none (.seq (.reg 0 [] [] []) (.no)) (.no))))) (.reg 0 [] [] [])))))) (.seq (.reg 0 [] [] []) (.no))))))
noncomputable def sem_railref1_Net (n : Nat) (xs : List V) : Option V := if xs.length ≤ 34 then denF Tryd.prog (envOf [(66, (sem_railref1_Topo n)), (13, (sem_railref1_Table n))]) n Tryd.f18 an_railref1_Net xs else none
theorem ok_railref1_Net (n : Nat) : SemOk Tryd.prog DW 18 (sem_railref1_Net n) := fun xs y h => by
  unfold sem_railref1_Net at h
  split at h
  · rename_i hl
    exact denF_ok stb Tryd.func18 (by kernel_rfl) (envOf_ok (semsOk_cons (ok_railref1_Topo n) (semsOk_cons (ok_railref1_Table n) semsOk_nil))) (by rw [Tryd.ntmps18]; exact hl) h
  · cases h
theorem eq_railref1_Net (n : Nat) (x0 : V) : sem_railref1_Net n [x0] =
 (V.cellsO x0).bind fun v1 =>
 (ldk (some 3) (List.drop 0 v1)).bind fun v2 =>
 ((sem_railref1_Topo n) [v2]).bind fun v3 =>
 (bin2 Tryd.prog BinOp.neq 3 (ot 8) (oc 0) v3 (vi 0)).bind fun v4 =>
 condV v4 (
 some v3) (
 (ldk none (List.drop 3 v1)).bind fun v5 =>
 (lenS [v5]).bind fun v6 =>
 (ldk none (List.drop 0 v1)).bind fun v7 =>
 (bin2 Tryd.prog BinOp.neq 3 (ot 13) (ot 16) v6 v7).bind fun v8 =>
 condV v8 (
 some (vi 3)) (
 JoinPt (fun vs9 =>
 some (vi 0)) fun J10 =>
 (keepO (some v1) (some v1) (some [(vi 0)])).bind (fixN (fun rec11 vs12 =>
 (ldk none (List.drop 3 v1)).bind fun v13 =>
 (lenS [v13]).bind fun v14 =>
 (bin2 Tryd.prog BinOp.lss 3 (ot 18) (ot 21) (List.getD vs12 0 V.any) v14).bind fun v15 =>
 condV v15 (
 (ldk none (List.drop 3 v1)).bind fun v16 =>
 (idxS 1 v16 (List.getD vs12 0 V.any)).bind fun v17 =>
 (ldp none v17).bind fun v18 =>
 ((sem_railref1_Table n) [v18]).bind fun v19 =>
 (bin2 Tryd.prog BinOp.neq 3 (ot 31) (oc 0) v19 (vi 0)).bind fun v20 =>
 condV v20 (
 some v19) (
 (bin2 Tryd.prog BinOp.add 3 (ot 23) (oc 1) (List.getD vs12 0 V.any) (vi 1)).bind fun v21 =>
 (keepO (some v1) (some v1) (some [v21])).bind rec11)) (
 J10 [])) n))) := by kernel_rfl
noncomputable def t_railref1_Net (a0 : T_Net) : Option Int :=
 (t_railref1_Topo a0.Topo).bind fun r4 =>
 if (decide (r4 ≠ 0)) = true then (
 some r4) else (
 if (decide ((List.length a0.Tables : Int) ≠ a0.Topo.Switches)) = true then (
 some 3) else (
 join (fun (s14 : Unit) =>
 some 0) fun j15 =>
 loopI a0.Tables (fun (i23 : Int) x24 (s19 : Unit) k20 =>
 (t_railref1_Table x24).bind fun r35 =>
 if (decide (r35 ≠ 0)) = true then (
 some r35) else (
 k20 ())) (fun (s19 : Unit) =>
 j15 ()) ()))
theorem ty_railref1_Net {n : Nat} (hn : bigN ≤ n) (a0 : T_Net) : Rv (fun x : Int => (vi x)) (sem_railref1_Net n [(T_Net.e a0)]) (t_railref1_Net a0) := by
  rw [eq_railref1_Net]
  unfold t_railref1_Net
  refine tb (x := (T_Net.c a0)) rfl ?_
  refine tb (x := (T_Topo.e a0.Topo)) (rfl) ?_
  refine tbo (ty_railref1_Topo hn a0.Topo) fun r4 => ?_
  refine tb (x := (vb (decide (r4 ≠ 0)))) (d_neq) ?_
  refine tcond (fun h6 => ?_) (fun h6 => ?_)
  · exact rf_ret rfl
  · refine tb (x := (V.sl (List.map (cS T_Rule.c) a0.Tables))) (rfl) ?_
    refine tb (x := (vi (List.length a0.Tables : Int))) (p_len _) ?_
    refine tb (x := (vi a0.Topo.Switches)) (rfl) ?_
    refine tb (x := (vb (decide ((List.length a0.Tables : Int) ≠ a0.Topo.Switches)))) (d_neq) ?_
    refine tcond (fun h11 => ?_) (fun h11 => ?_)
    · exact rf_ret rfl
    · refine tjoin (mk := fun s14 : Unit => []) (fun s14 => ?_) fun J13 j15 h16 => ?_
      · exact rf_ret rfl
      · refine tkeepO2 ?_ rfl
        refine tsome ?_
        refine rf_loopI (mk := fun (i23 : Int) (s19 : Unit) => [(vi (i23 : Int))]) hn a0.Tables () (fun i23 x24 h25 h26 h27 s19 rec17 k20 h21 => ?_) (fun s19 rec40 h39 => ?_)
        · refine tb (x := (V.sl (List.map (cS T_Rule.c) a0.Tables))) (rfl) ?_
          refine tb (x := (vi (List.length a0.Tables : Int))) (p_len _) ?_
          refine tb (x := (vb (decide ((i23 : Int) < (List.length a0.Tables : Int))))) (d_lss) ?_
          refine tcond_t h27 ?_
          refine tb (x := (V.sl (List.map (cS T_Rule.c) a0.Tables))) (rfl) ?_
          refine tb (x := (V.ptr [(V.sl (List.map T_Rule.c x24))])) (p_idx_at (c := (cS T_Rule.c)) (fun _ => rfl) h25) ?_
          refine tb (x := (V.sl (List.map T_Rule.c x24))) (rfl) ?_
          refine tbo (ty_railref1_Table hn x24) fun r35 => ?_
          refine tb (x := (vb (decide (r35 ≠ 0)))) (d_neq) ?_
          refine tcond (fun h37 => ?_) (fun h37 => ?_)
          · exact rf_ret rfl
          · refine tb (x := (vi ((i23 : Int) + 1))) (p_incN h26) ?_
            refine tkeepO2 ?_ rfl
            refine tsome ?_
            exact h21 ()
        · refine tb (x := (V.sl (List.map (cS T_Rule.c) a0.Tables))) (rfl) ?_
          refine tb (x := (vi (List.length a0.Tables : Int))) (p_len _) ?_
          refine tb (x := (vb (decide ((List.length a0.Tables : Int) < (List.length a0.Tables : Int))))) (d_lss) ?_
          refine tcond_f h39 ?_
          exact h16 ()

/-! railpoint/railref1.Do -/
def an_railref1_Do : Ann := .seq (.reg 0 [] [] []) (.seq (.reg 0 [] [] []) (.seq (.reg 0 [] [] []) (.seq (.seq (.reg 0 [] [] []) (.blk (some [.kb 5, .s 8, .s 9]) (.loop [.kb 5, .s 8, .s 9, .s 10] (.seq (.seq (.reg 0 [] [] []) (.cond none (.no) (.no))) (.seq (.blk none (.seq (.reg 18 [] [] []) (.cond (some [.kb 5, .s 8, .s 9]) (.seq (.reg 0 [] [] []) (.seq (.reg 6 [] [] []) (.cond (some [.kb 5, .s 8]) (.reg 0 [] [] []) (.no)))) (.no)))) (.reg 0 [] [] [])))))) (.seq (.reg 0 [] [] []) (.seq (.seq (.reg 0 [] [] []) (.cond none (.seq (.seq (.reg 0 [] [] []) (.cond none (.seq (.reg 0 [] [] []) (.no)) (.no))) (.seq (.seq (.reg 0 [] [] []) (.cond none (.seq (.reg 0 [] [] []) (.no)) (.no))) (.seq (.reg 0 [] [] []) (.seq (.reg 0 [] [] []) (.no))))) (.no))) (.seq (.seq (.reg 0 [] [] []) (.cond none (.seq (.reg 0 [] [] []) (.no)) (.no))) (.seq (.reg 0 [] [] []) (.seq (.reg 0 [] [] []) (.no)))))))))
noncomputable def sem_railref1_Do (n : Nat) (xs : List V) : Option V := if xs.length ≤ 68 then denF Tryd.prog (envOf []) n Tryd.f85 an_railref1_Do xs else none
theorem ok_railref1_Do (n : Nat) : SemOk Tryd.prog DW 85 (sem_railref1_Do n) := fun xs y h => by
  unfold sem_railref1_Do at h
  split at h
  · rename_i hl
    exact denF_ok stb Tryd.func85 (by kernel_rfl) (envOf_ok semsOk_nil) (by rw [Tryd.ntmps85]; exact hl) h
  · cases h
theorem eq_railref1_Do (n : Nat) (x0 x1 x2 : V) : sem_railref1_Do n [x0, x1, x2] =
 (V.cellsO x2).bind fun v1 =>
 JoinPt (fun vs2 =>
 condV x1 (
 condV (List.getD vs2 1 V.any) (
 some (V.tup [(V.sl []), (vi 7)])) (
 (lenS [x0]).bind fun v4 =>
 (bin2 Tryd.prog BinOp.geq 3 (ot 46) (oc 12) v4 (vi 12)).bind fun v5 =>
 condV v5 (
 some (V.tup [(V.sl []), (vi 4)])) (
 (appV 6 [] x0).bind fun v6 =>
 (ldk (some 6) (List.drop 0 v1)).bind fun v7 =>
 (slcB 6 1 [(vi 0), (vi 0), (vi 0), (vi 0), (vi 0), (vi 0)] [(0, v7)]).bind fun v8 =>
 (appV 6 (slL v6) v8).bind fun v9 =>
 some (V.tup [(V.sl (slL v9)), (vi 0)])))) (
 (bin2 Tryd.prog BinOp.lss 3 (ot 55) (oc 0) (List.getD vs2 0 V.any) (vi 0)).bind fun v10 =>
 condV v10 (
 some (V.tup [(V.sl []), (vi 5)])) (
 (slc (some 6) x0 none (some (List.getD vs2 0 V.any))).bind fun v11 =>
 (appV 6 [] v11).bind fun v12 =>
 (bin2 Tryd.prog BinOp.add 3 (ot 64) (oc 1) (List.getD vs2 0 V.any) (vi 1)).bind fun v13 =>
 (slc (some 6) x0 (some v13) none).bind fun v14 =>
 (appV 6 (slL v12) v14).bind fun v15 =>
 some (V.tup [(V.sl (slL v15)), (vi 0)])))) fun J3 =>
 (keepO (some v1) (some v1) (some [(vi (-1 : Int)), (vb false), (vi 0)])).bind (fixN (fun rec16 vs17 =>
 (lenS [x0]).bind fun v18 =>
 (bin2 Tryd.prog BinOp.lss 3 (ot 12) (ot 14) (List.getD vs17 2 V.any) v18).bind fun v19 =>
 condV v19 (
 (idxS 6 x0 (List.getD vs17 2 V.any)).bind fun v20 =>
 (ptrF 0 v20).bind fun v21 =>
 (ldp none v21).bind fun v22 =>
 (ldk none (List.drop 0 v1)).bind fun v23 =>
 (bin2 Tryd.prog BinOp.eql 3 (ot 22) (ot 24) v22 v23).bind fun v24 =>
 (guardV v24 true (some x0)).bind fun v25 =>
 (guardV v24 true (some (List.getD vs17 2 V.any))).bind fun v26 =>
 (guardV v24 true ((idxS 6 v25 v26).bind fun v27 =>
 some v27)).bind fun v28 =>
 (guardV v24 true ((ptrF 1 v28).bind fun v29 =>
 some v29)).bind fun v30 =>
 (guardV v24 true ((ldp (some 2) v30).bind fun v31 =>
 some v31)).bind fun v32 =>
 (guardV v24 true (some V.any)).bind fun v33 =>
 (guardV v24 true ((gate v24 true (ldk (some 2) (List.drop 1 v1))).bind fun v34 =>
 some v34)).bind fun v35 =>
 (guardV v24 true ((bin2 Tryd.prog BinOp.eql 58 (ot 31) (ot 33) v32 v35).bind fun v36 =>
 some v36)).bind fun v37 =>
 (pickV v24 v37 (vb false)).bind fun v38 =>
 JoinPt (fun vs39 =>
 (bin2 Tryd.prog BinOp.add 3 (ot 16) (oc 1) (List.getD vs17 2 V.any) (vi 1)).bind fun v41 =>
 (keepO (some v1) (some v1) (some [(List.getD vs39 0 V.any), (List.getD vs39 1 V.any), v41])).bind rec16) fun J40 =>
 condV v38 (
 (idxS 6 x0 (List.getD vs17 2 V.any)).bind fun v42 =>
 (ldp (some 6) v42).bind fun v43 =>
 (ldk (some 6) (List.drop 0 v1)).bind fun v44 =>
 (bin2 Tryd.prog BinOp.eql 60 (ot 39) (ot 40) v43 v44).bind fun v45 =>
 JoinPt (fun vs46 =>
 (keepO (some v1) (some v1) (some [(List.getD vs46 0 V.any), (vb true)])).bind J40) fun J47 =>
 condV v45 (
 (keepO (some v1) (some v1) (some [(List.getD vs17 2 V.any)])).bind J47) (
 (keepO (some v1) (some v1) (some [(List.getD vs17 0 V.any)])).bind J47)) (
 (keepO (some v1) (some v1) (some [(List.getD vs17 0 V.any), (List.getD vs17 1 V.any)])).bind J40)) (
 (keepO (some v1) (some v1) (some [(List.getD vs17 0 V.any), (List.getD vs17 1 V.any)])).bind J3)) n) := by kernel_rfl
noncomputable def t_railref1_Do (a0 : (List T_Rule)) (a1 : Bool) (a2 : T_Rule) : Option ((List T_Rule) × Int) :=
 (loopI a0 (fun (i35 : Int) x36 (s31 : (Int × Bool)) k32 =>
 (if ((decide (x36.Prio = a2.Prio)) && (decide (x36.Cube = a2.Cube))) = true then (
 (if (decide (x36 = a2)) = true then (
 some i35) else (
 some (s31.1))).bind fun (s82 : Int) =>
 some (s82, true)) else (
 some (s31.1, s31.2))).bind fun (s71 : (Int × Bool)) =>
 k32 (s71.1, s71.2)) (fun (s31 : (Int × Bool)) =>
 some (s31.1, s31.2)) ((-1 : Int), false)).bind fun (s4 : (Int × Bool)) =>
 if a1 = true then (
 if s4.2 = true then (
 some ([], 7)) else (
 if (decide (12 ≤ (List.length a0 : Int))) = true then (
 some ([], 4)) else (
 (app ([] : (List T_Rule)) a0).bind fun r13 =>
 (app r13 ([a2] : (List T_Rule))).bind fun r17 =>
 some (r17, 0)))) else (
 if (decide (s4.1 < 0)) = true then (
 some ([], 5)) else (
 (slc_hi a0 s4.1).bind fun r21 =>
 (app ([] : (List T_Rule)) r21).bind fun r23 =>
 (slc_lo a0 (wr (s4.1 + 1))).bind fun r26 =>
 (app r23 r26).bind fun r28 =>
 some (r28, 0)))
theorem ty_railref1_Do {n : Nat} (hn : bigN ≤ n) (a0 : (List T_Rule)) (a1 : Bool) (a2 : T_Rule) : Rv (fun x : ((List T_Rule) × Int) => V.tup [(V.sl (List.map T_Rule.c x.1)), (vi x.2)]) (sem_railref1_Do n [(V.sl (List.map T_Rule.c a0)), (vb a1), (T_Rule.e a2)]) (t_railref1_Do a0 a1 a2) := by
  rw [eq_railref1_Do]
  unfold t_railref1_Do
  refine tb (x := (T_Rule.c a2)) rfl ?_
  refine tjb (mk := fun s4 : (Int × Bool) => [(vi s4.1), (vb s4.2)]) (fun J3 => ?_) fun s4 => ?_
  · refine tkeepO2 ?_ rfl
    refine tsome ?_
    refine rf_loopI (mk := fun (i35 : Int) (s31 : (Int × Bool)) => [(vi s31.1), (vb s31.2), (vi (i35 : Int))]) hn a0 ((-1 : Int), false) (fun i35 x36 h37 h38 h39 s31 rec29 k32 h33 => ?_) (fun s31 rec87 h86 => ?_)
    · refine tb (x := (vi (List.length a0 : Int))) (p_len _) ?_
      refine tb (x := (vb (decide ((i35 : Int) < (List.length a0 : Int))))) (d_lss) ?_
      refine tcond_t h39 ?_
      refine tb (x := (V.ptr (T_Rule.c x36))) (p_idx_at (c := T_Rule.c) (fun _ => rfl) h37) ?_
      refine tb (x := (V.ptr (T_Rule.c x36))) (rfl) ?_
      refine tb (x := (vi x36.Prio)) (rfl) ?_
      refine tb (x := (vi a2.Prio)) (rfl) ?_
      refine tb (x := (vb (decide (x36.Prio = a2.Prio)))) (d_eql) ?_
      refine tg (x := (V.sl (List.map T_Rule.c a0))) (fun h47 => rfl) ?_
      refine tg (x := (vi (i35 : Int))) (fun h49 => rfl) ?_
      refine tg (x := (V.ptr (T_Rule.c x36))) (fun h51 => by simp only [gv_t h51]; exact bind_some_eq (p_idx_at (c := T_Rule.c) (fun _ => rfl) h37)) ?_
      refine tg (x := (V.ptr (List.drop 1 (T_Rule.c x36)))) (fun h54 => by first | exact bind_some_eq (rfl) | (simp only [gv_t h54]; exact bind_some_eq (rfl))) ?_
      refine tg (x := (T_Cube.e x36.Cube)) (fun h57 => by first | exact bind_some_eq (rfl) | (simp only [gv_t h57]; exact bind_some_eq (rfl))) ?_
      refine tg (x := V.any) (fun h60 => rfl) ?_
      refine tg (x := (T_Cube.e a2.Cube)) (fun h62 => bind_some_eq (gate_pos h62 (rfl))) ?_
      refine tg (x := (vb (decide (x36.Cube = a2.Cube)))) (fun h65 => by simp only [gv_t h65]; exact bind_some_eq (T_Cube.eql x36.Cube a2.Cube)) ?_
      refine tb (x := (vb ((decide (x36.Prio = a2.Prio)) && (decide (x36.Cube = a2.Cube))))) (pick_and (fun h9 => gv_t h9)) ?_
      refine tjb (mk := fun s71 : (Int × Bool) => [(vi s71.1), (vb s71.2)]) (fun J70 => ?_) fun s71 => ?_
      · refine tcond (fun h75 => ?_) (fun h75 => ?_)
        · refine tb (x := (V.ptr (T_Rule.c x36))) (p_idx_at (c := T_Rule.c) (fun _ => rfl) h37) ?_
          refine tb (x := (T_Rule.e x36)) (rfl) ?_
          refine tb (x := (T_Rule.e a2)) (rfl) ?_
          refine tb (x := (vb (decide (x36 = a2)))) (T_Rule.eql x36 a2) ?_
          refine tjb (mk := fun s82 : Int => [(vi s82)]) (fun J81 => ?_) fun s82 => ?_
          · refine tcond (fun h85 => ?_) (fun h85 => ?_)
            · refine tkeepO2 ?_ rfl
              refine tsome ?_
              exact rf_j rfl
            · refine tkeepO2 ?_ rfl
              refine tsome ?_
              exact rf_j rfl
          · refine tkeepO2 ?_ rfl
            refine tsome ?_
            exact rf_j rfl
        · refine tkeepO2 ?_ rfl
          refine tsome ?_
          exact rf_j rfl
      · refine tb (x := (vi ((i35 : Int) + 1))) (p_incN h38) ?_
        refine tkeepO2 ?_ rfl
        refine tsome ?_
        exact h33 (s71.1, s71.2)
    · refine tb (x := (vi (List.length a0 : Int))) (p_len _) ?_
      refine tb (x := (vb (decide ((List.length a0 : Int) < (List.length a0 : Int))))) (d_lss) ?_
      refine tcond_f h86 ?_
      refine tkeepO2 ?_ rfl
      refine tsome ?_
      exact rf_j rfl
  · refine tcond (fun h7 => ?_) (fun h7 => ?_)
    · refine tcond (fun h8 => ?_) (fun h8 => ?_)
      · exact rf_ret rfl
      · refine tb (x := (vi (List.length a0 : Int))) (p_len _) ?_
        refine tb (x := (vb (decide (12 ≤ (List.length a0 : Int))))) (d_geq) ?_
        refine tcond (fun h11 => ?_) (fun h11 => ?_)
        · exact rf_ret rfl
        · refine tbo (p_app (c := T_Rule.c) (fun _ => rfl) ([] : (List T_Rule)) a0) fun r13 => ?_
          refine tb (x := (T_Rule.e a2)) (rfl) ?_
          refine tb (x := (V.sl (List.map T_Rule.c ([a2] : (List T_Rule))))) (by kernel_rfl) ?_
          refine tbo (p_app (c := T_Rule.c) (fun _ => rfl) r13 ([a2] : (List T_Rule))) fun r17 => ?_
          exact rf_ret rfl
    · refine tb (x := (vb (decide (s4.1 < 0)))) (d_lss) ?_
      refine tcond (fun h19 => ?_) (fun h19 => ?_)
      · exact rf_ret rfl
      · refine tbo (p_slc_hi (c := T_Rule.c) (fun _ => rfl) a0 s4.1) fun r21 => ?_
        refine tbo (p_app (c := T_Rule.c) (fun _ => rfl) ([] : (List T_Rule)) r21) fun r23 => ?_
        refine tb (x := (vi (wr (s4.1 + 1)))) (d_add) ?_
        refine tbo (p_slc_lo (c := T_Rule.c) (fun _ => rfl) a0 (wr (s4.1 + 1))) fun r26 => ?_
        refine tbo (p_app (c := T_Rule.c) (fun _ => rfl) r23 r26) fun r28 => ?_
        exact rf_ret rfl

/-! railpoint/railref1.Apply -/
def an_railref1_Apply : Ann := .seq (.reg 0 [] [] []) (.seq (.seq (.reg 0 [] [] []) (.cond none (.seq (.reg 0 [] [] []) (.no)) (.no))) (.seq (.reg 0 [] [] []) (.seq (.reg 0 [] [] [18]) (.seq (.seq (.reg 0 [] [] []) (.blk (some [.kb 2, .b 4, .o 6]) (.loop [.kb 2, .b 4, .o 6, .s 7] (.seq (.seq (.reg 0 [] [] []) (.cond none (.no) (.no))) (.seq (.blk none (.seq (.reg 0 [] [] []) (.seq (.seq (.reg 0 [] [] []) (.cond none (.seq (.reg 0 [] [] []) (.no)) (.no))) (.seq (.reg 0 [] [] []) (.seq (.seq (.reg 0 [] [] []) (.cond none (.seq (.reg 0 [] [] []) (.no)) (.no))) (.seq (.reg 16 [] [] []) (.seq (.seq (.reg 0 [] [] []) (.cond none (.seq (.reg 0 [] [] []) (.no)) (.no))) (.reg 0 [] [] [])))))))) (.reg 0 [] [] [])))))) (.seq (.reg 0 [6] [] []) (.no))))))
noncomputable def sem_railref1_Apply (n : Nat) (xs : List V) : Option V := if xs.length ≤ 76 then denF Tryd.prog (envOf [(69, (sem_railref1_Rule n)), (85, (sem_railref1_Do n))]) n Tryd.f36 an_railref1_Apply xs else none
theorem ok_railref1_Apply (n : Nat) : SemOk Tryd.prog DW 36 (sem_railref1_Apply n) := fun xs y h => by
  unfold sem_railref1_Apply at h
  split at h
  · rename_i hl
    exact denF_ok stb Tryd.func36 (by kernel_rfl) (envOf_ok (semsOk_cons (ok_railref1_Rule n) (semsOk_cons (ok_railref1_Do n) semsOk_nil))) (by rw [Tryd.ntmps36]; exact hl) h
  · cases h
theorem eq_railref1_Apply (n : Nat) (x0 x1 : V) : sem_railref1_Apply n [x0, x1] =
 (V.cellsO x0).bind fun v1 =>
 (lenS [x1]).bind fun v2 =>
 (bin2 Tryd.prog BinOp.gtr 3 (ot 12) (oc 200) v2 (vi 200)).bind fun v3 =>
 condV v3 (
 ((fillL [(vi 0), (V.sl []), (V.sl []), (V.sl [])] []).map V.agg).bind fun v4 =>
 (spliceV [(vi 0), (V.sl []), (V.sl []), (V.sl [])] 0 4 v4).bind fun v5 =>
 (ldk (some 4) (List.drop 0 (aggL v5))).bind fun v6 =>
 some (V.tup [v6, (vi 4)])) (
 (ldk none (List.drop 3 v1)).bind fun v7 =>
 (appS 1 (V.osl 1 []) v7).bind fun v8 =>
 JoinPt (fun vs9 =>
 (some (frz (List.getD vs9 1 V.any))).bind fun v11 =>
 (ldk (some 3) (List.drop 0 v1)).bind fun v12 =>
 ((fillL [(vi 0), (V.sl []), (V.sl []), (V.sl [])] [(0, 3, v12), (3, 1, v11)]).map V.agg).bind fun v13 =>
 (spliceV (aggL (List.getD vs9 0 V.any)) 0 4 v13).bind fun v14 =>
 (ldk (some 4) (List.drop 0 (aggL v14))).bind fun v15 =>
 some (V.tup [v15, (vi 0)])) fun J10 =>
 (keepO (some v1) (some v1) (some [(V.agg [(vi 0), (V.sl []), (V.sl []), (V.sl [])]), v8, (vi 0)])).bind (fixN (fun rec16 vs17 =>
 (lenS [x1]).bind fun v18 =>
 (bin2 Tryd.prog BinOp.lss 3 (ot 19) (ot 21) (List.getD vs17 2 V.any) v18).bind fun v19 =>
 condV v19 (
 (idxS 8 x1 (List.getD vs17 2 V.any)).bind fun v20 =>
 (ldp (some 8) v20).bind fun v21 =>
 (spliceV [(vi 0), (vb false), (vi 0), (vi 0), (vi 0), (vi 0), (vi 0), (vi 0)] 0 8 v21).bind fun v22 =>
 (ldk none (List.drop 0 (aggL v22))).bind fun v23 =>
 (bin2 Tryd.prog BinOp.lss 3 (ot 30) (oc 1) v23 (vi 1)).bind fun v24 =>
 (guardV v24 false (some V.any)).bind fun v25 =>
 (guardV v24 false ((gate v24 false (ldk none (List.drop 0 (aggL v22)))).bind fun v26 =>
 some v26)).bind fun v27 =>
 (guardV v24 false (some V.any)).bind fun v28 =>
 (guardV v24 false (gate v24 false (some V.any))).bind fun v29 =>
 (guardV v24 false ((gate v24 false (gate v24 false (ldk none (List.drop 0 v1)))).bind fun v30 =>
 some v30)).bind fun v31 =>
 (guardV v24 false ((bin2 Tryd.prog BinOp.gtr 3 (ot 34) (ot 37) v27 v31).bind fun v32 =>
 some v32)).bind fun v33 =>
 (pickV v24 (vb true) v33).bind fun v34 =>
 condV v34 (
 ((fillL [(vi 0), (V.sl []), (V.sl []), (V.sl [])] []).map V.agg).bind fun v35 =>
 (spliceV (aggL (List.getD vs17 0 V.any)) 0 4 v35).bind fun v36 =>
 (ldk (some 4) (List.drop 0 (aggL v36))).bind fun v37 =>
 some (V.tup [v37, (vi 1)])) (
 (ldk (some 6) (List.drop 2 (aggL v22))).bind fun v38 =>
 ((sem_railref1_Rule n) [v38]).bind fun v39 =>
 (bin2 Tryd.prog BinOp.neq 3 (ot 44) (oc 0) v39 (vi 0)).bind fun v40 =>
 condV v40 (
 ((fillL [(vi 0), (V.sl []), (V.sl []), (V.sl [])] []).map V.agg).bind fun v41 =>
 (spliceV (aggL (List.getD vs17 0 V.any)) 0 4 v41).bind fun v42 =>
 (ldk (some 4) (List.drop 0 (aggL v42))).bind fun v43 =>
 some (V.tup [v43, v39])) (
 (ldk none (List.drop 0 (aggL v22))).bind fun v44 =>
 (bin2 Tryd.prog BinOp.sub 3 (ot 51) (oc 1) v44 (vi 1)).bind fun v45 =>
 ((oslR (List.getD vs17 1 V.any)).bind fun rows46 => inB (List.length rows46) v45).bind fun v47 =>
 ((nodeL (List.getD vs17 1 V.any) (some (natOf v45)) 1).bind fun l48 => (ldk none (List.drop 0 l48)).bind pureO).bind fun v49 =>
 (ldk none (List.drop 1 (aggL v22))).bind fun v50 =>
 (ldk (some 6) (List.drop 2 (aggL v22))).bind fun v51 =>
 ((sem_railref1_Do n) [v49, v50, v51]).bind fun v52 =>
 (extractV v52 0).bind fun v53 =>
 (extractV v52 1).bind fun v54 =>
 (bin2 Tryd.prog BinOp.neq 3 (ot 62) (oc 0) v54 (vi 0)).bind fun v55 =>
 condV v55 (
 ((fillL [(vi 0), (V.sl []), (V.sl []), (V.sl [])] []).map V.agg).bind fun v56 =>
 (spliceV (aggL (List.getD vs17 0 V.any)) 0 4 v56).bind fun v57 =>
 (ldk (some 4) (List.drop 0 (aggL v57))).bind fun v58 =>
 some (V.tup [v58, v54])) (
 (ldk none (List.drop 0 (aggL v22))).bind fun v59 =>
 (bin2 Tryd.prog BinOp.sub 3 (ot 68) (oc 1) v59 (vi 1)).bind fun v60 =>
 ((oslR (List.getD vs17 1 V.any)).bind fun rows61 => inB (List.length rows61) v60).bind fun v62 =>
 (V.cellsO v53).bind fun v63 =>
 (setV (List.getD vs17 1 V.any) [] (Stp.mk (some (natOf v60)) 0 1) 1 v63).bind fun v64 =>
 (bin2 Tryd.prog BinOp.add 3 (ot 23) (oc 1) (List.getD vs17 2 V.any) (vi 1)).bind fun v65 =>
 (keepO (some v1) (some v1) (some [(V.agg (aggL (List.getD vs17 0 V.any))), v64, v65])).bind rec16)))) (
 (keepO (some v1) (some v1) (some [(V.agg (aggL (List.getD vs17 0 V.any))), (List.getD vs17 1 V.any)])).bind J10)) n)) := by kernel_rfl
noncomputable def t_railref1_Apply (a0 : T_Net) (a1 : (List T_Op)) : Option (T_Net × Int) :=
 if (decide (200 < (List.length a1 : Int))) = true then (
 some ((T_Net.mk (T_Topo.mk 0 [] []) []), 4)) else (
 (oapp ([] : (List (List T_Rule))) a0.Tables).bind fun r9 =>
 join (fun (s12 : (T_Net × (List (List T_Rule)))) =>
 some ((T_Net.mk a0.Topo s12.2), 0)) fun j13 =>
 loopI a1 (fun (i26 : Int) x27 (s22 : (List (List T_Rule))) k23 =>
 if ((decide (x27.Switch < 1)) || (decide (a0.Topo.Switches < x27.Switch))) = true then (
 some ((T_Net.mk (T_Topo.mk 0 [] []) []), 1)) else (
 (t_railref1_Rule x27.Rule).bind fun r60 =>
 if (decide (r60 ≠ 0)) = true then (
 some ((T_Net.mk (T_Topo.mk 0 [] []) []), r60)) else (
 need (decide (0 ≤ (wr (x27.Switch - 1))) && decide ((wr (x27.Switch - 1)) < (List.length s22 : Int))) (
 (idx s22 (wr (x27.Switch - 1))).bind fun r71 =>
 (t_railref1_Do r71 x27.Add x27.Rule).bind fun r75 =>
 if (decide (r75.2 ≠ 0)) = true then (
 some ((T_Net.mk (T_Topo.mk 0 [] []) []), r75.2)) else (
 need (decide (0 ≤ (wr (x27.Switch - 1))) && decide ((wr (x27.Switch - 1)) < (List.length s22 : Int))) (
 (oset s22 (wr (x27.Switch - 1)) r75.1).bind fun r89 =>
 k23 (r89))))))) (fun (s22 : (List (List T_Rule))) =>
 j13 ((T_Net.mk (T_Topo.mk 0 [] []) []), s22)) (r9))
theorem ty_railref1_Apply {n : Nat} (hn : bigN ≤ n) (a0 : T_Net) (a1 : (List T_Op)) : Rv (fun x : (T_Net × Int) => V.tup [(T_Net.e x.1), (vi x.2)]) (sem_railref1_Apply n [(T_Net.e a0), (V.sl (List.map T_Op.c a1))]) (t_railref1_Apply a0 a1) := by
  rw [eq_railref1_Apply]
  unfold t_railref1_Apply
  refine tb (x := (T_Net.c a0)) rfl ?_
  refine tb (x := (vi (List.length a1 : Int))) (p_len _) ?_
  refine tb (x := (vb (decide (200 < (List.length a1 : Int))))) (d_gtr) ?_
  refine tcond (fun h4 => ?_) (fun h4 => ?_)
  · refine tb (x := (T_Net.e (T_Net.mk (T_Topo.mk 0 [] []) []))) (by kernel_rfl) ?_
    refine tb (x := V.agg (T_Net.c (T_Net.mk (T_Topo.mk 0 [] []) []))) (by kernel_rfl) ?_
    refine tb (x := (T_Net.e (T_Net.mk (T_Topo.mk 0 [] []) []))) rfl ?_
    exact rf_ret rfl
  · refine tb (x := (V.sl (List.map (cS T_Rule.c) a0.Tables))) (rfl) ?_
    refine tbo (p_oapp (c := (cS T_Rule.c)) (fun _ => rfl) ([] : (List (List T_Rule))) a0.Tables) fun r9 => ?_
    refine tjoin (mk := fun s12 : (T_Net × (List (List T_Rule))) => [(V.agg (T_Net.c s12.1)), (V.osl 1 (List.map (cS T_Rule.c) s12.2))]) (fun s12 => ?_) fun J11 j13 h14 => ?_
    · refine tb (x := (V.sl (List.map (cS T_Rule.c) s12.2))) (p_frz (c := (cS T_Rule.c)) (fun _ => rfl) s12.2) ?_
      refine tb (x := (T_Topo.e a0.Topo)) (rfl) ?_
      refine tb (x := (T_Net.e (T_Net.mk a0.Topo s12.2))) (by kernel_rfl) ?_
      refine tb (x := V.agg (T_Net.c (T_Net.mk a0.Topo s12.2))) (by kernel_rfl) ?_
      refine tb (x := (T_Net.e (T_Net.mk a0.Topo s12.2))) rfl ?_
      exact rf_ret rfl
    · refine tkeepO2 ?_ rfl
      refine tsome ?_
      refine rf_loopI (mk := fun (i26 : Int) (s22 : (List (List T_Rule))) => [(V.agg (T_Net.c (T_Net.mk (T_Topo.mk 0 [] []) []))), (V.osl 1 (List.map (cS T_Rule.c) s22)), (vi (i26 : Int))]) hn a1 (r9) (fun i26 x27 h28 h29 h30 s22 rec20 k23 h24 => ?_) (fun s22 rec94 h93 => ?_)
      · refine tb (x := (vi (List.length a1 : Int))) (p_len _) ?_
        refine tb (x := (vb (decide ((i26 : Int) < (List.length a1 : Int))))) (d_lss) ?_
        refine tcond_t h30 ?_
        refine tb (x := (V.ptr (T_Op.c x27))) (p_idx_at (c := T_Op.c) (fun _ => rfl) h28) ?_
        refine tb (x := (T_Op.e x27)) (rfl) ?_
        refine tb (x := V.agg (T_Op.c x27)) (by kernel_rfl) ?_
        refine tb (x := (vi x27.Switch)) (rfl) ?_
        refine tb (x := (vb (decide (x27.Switch < 1)))) (d_lss) ?_
        refine tg_f (x := V.any) (fun h38 => rfl) ?_
        refine tg_f (x := (vi x27.Switch)) (fun h40 => bind_some_eq (gate_pos (not_t h40) (rfl))) ?_
        refine tg_f (x := V.any) (fun h43 => rfl) ?_
        refine tg_f (x := V.any) (fun h45 => gate_pos (not_t h45) (rfl)) ?_
        refine tg_f (x := (vi a0.Topo.Switches)) (fun h47 => bind_some_eq (gate_pos (not_t h47) (gate_pos (not_t h47) (rfl)))) ?_
        refine tg_f (x := (vb (decide (a0.Topo.Switches < x27.Switch)))) (fun h50 => by simp only [gv_t h50]; exact bind_some_eq (d_gtr)) ?_
        refine tb (x := (vb ((decide (x27.Switch < 1)) || (decide (a0.Topo.Switches < x27.Switch))))) (pick_or (fun h9 => gv_t (not_f h9))) ?_
        refine tcond (fun h54 => ?_) (fun h54 => ?_)
        · refine tb (x := (T_Net.e (T_Net.mk (T_Topo.mk 0 [] []) []))) (by kernel_rfl) ?_
          refine tb (x := V.agg (T_Net.c (T_Net.mk (T_Topo.mk 0 [] []) []))) (by kernel_rfl) ?_
          refine tb (x := (T_Net.e (T_Net.mk (T_Topo.mk 0 [] []) []))) rfl ?_
          exact rf_ret rfl
        · refine tb (x := (T_Rule.e x27.Rule)) (rfl) ?_
          refine tbo (ty_railref1_Rule hn x27.Rule) fun r60 => ?_
          refine tb (x := (vb (decide (r60 ≠ 0)))) (d_neq) ?_
          refine tcond (fun h62 => ?_) (fun h62 => ?_)
          · refine tb (x := (T_Net.e (T_Net.mk (T_Topo.mk 0 [] []) []))) (by kernel_rfl) ?_
            refine tb (x := V.agg (T_Net.c (T_Net.mk (T_Topo.mk 0 [] []) []))) (by kernel_rfl) ?_
            refine tb (x := (T_Net.e (T_Net.mk (T_Topo.mk 0 [] []) []))) rfl ?_
            exact rf_ret rfl
          · refine tb (x := (vi x27.Switch)) (rfl) ?_
            refine tb (x := (vi (wr (x27.Switch - 1)))) (d_sub) ?_
            refine tneed (x := V.any) (fun h92 => p_inB s22 (wr (x27.Switch - 1)) h92) fun h92 => ?_
            refine tbo (p_oload (e1 := fun x : (List T_Rule) => (V.sl (List.map T_Rule.c x))) (c := (cS T_Rule.c)) (fun _ => rfl) s22 (wr (x27.Switch - 1)) (fun _ => rfl)) fun r71 => ?_
            refine tb (x := (vb x27.Add)) (rfl) ?_
            refine tb (x := (T_Rule.e x27.Rule)) (rfl) ?_
            refine tbo (ty_railref1_Do hn r71 x27.Add x27.Rule) fun r75 => ?_
            refine tb (x := (V.sl (List.map T_Rule.c r75.1))) (rfl) ?_
            refine tb (x := (vi r75.2)) (rfl) ?_
            refine tb (x := (vb (decide (r75.2 ≠ 0)))) (d_neq) ?_
            refine tcond (fun h79 => ?_) (fun h79 => ?_)
            · refine tb (x := (T_Net.e (T_Net.mk (T_Topo.mk 0 [] []) []))) (by kernel_rfl) ?_
              refine tb (x := V.agg (T_Net.c (T_Net.mk (T_Topo.mk 0 [] []) []))) (by kernel_rfl) ?_
              refine tb (x := (T_Net.e (T_Net.mk (T_Topo.mk 0 [] []) []))) rfl ?_
              exact rf_ret rfl
            · refine tb (x := (vi x27.Switch)) (rfl) ?_
              refine tb (x := (vi (wr (x27.Switch - 1)))) (d_sub) ?_
              refine tneed (x := V.any) (fun h91 => p_inB s22 (wr (x27.Switch - 1)) h91) fun h91 => ?_
              refine tb (x := (cS T_Rule.c) r75.1) rfl ?_
              refine tbo (p_oset (c := (cS T_Rule.c)) (fun _ => rfl) s22 (wr (x27.Switch - 1)) r75.1) fun r89 => ?_
              refine tb (x := (vi ((i26 : Int) + 1))) (p_incN h29) ?_
              refine tkeepO2 ?_ rfl
              refine tsome ?_
              exact h24 (r89)
      · refine tb (x := (vi (List.length a1 : Int))) (p_len _) ?_
        refine tb (x := (vb (decide ((List.length a1 : Int) < (List.length a1 : Int))))) (d_lss) ?_
        refine tcond_f h93 ?_
        refine tkeepO2 ?_ rfl
        refine tsome ?_
        exact h14 ((T_Net.mk (T_Topo.mk 0 [] []) []), s22)

/-! railpoint/topo.Spot -/
def an_topo_Spot : Ann := .seq (.reg 0 [] [] []) (.seq (.reg 0 [] [] []) (.no))
noncomputable def sem_topo_Spot (n : Nat) (xs : List V) : Option V := if xs.length ≤ 25 then denF Tryd.prog (envOf []) n Tryd.f139 an_topo_Spot xs else none
theorem ok_topo_Spot (n : Nat) : SemOk Tryd.prog DW 139 (sem_topo_Spot n) := fun xs y h => by
  unfold sem_topo_Spot at h
  split at h
  · rename_i hl
    exact denF_ok stb Tryd.func139 (by kernel_rfl) (envOf_ok semsOk_nil) (by rw [Tryd.ntmps139]; exact hl) h
  · cases h
theorem eq_topo_Spot (n : Nat) (x0 x1 : V) : sem_topo_Spot n [x0, x1] =
 (V.cellsO x0).bind fun v1 =>
 (V.cellsO x1).bind fun v2 =>
 (ldk none (List.drop 0 v2)).bind fun v3 =>
 (bin2 Tryd.prog BinOp.geq 3 (ot 6) (oc 1) v3 (vi 1)).bind fun v4 =>
 (guardV v4 true (some V.any)).bind fun v5 =>
 (guardV v4 true ((gate v4 true (ldk none (List.drop 0 v2))).bind fun v6 =>
 some v6)).bind fun v7 =>
 (guardV v4 true (some V.any)).bind fun v8 =>
 (guardV v4 true ((gate v4 true (ldk none (List.drop 0 v1))).bind fun v9 =>
 some v9)).bind fun v10 =>
 (guardV v4 true ((bin2 Tryd.prog BinOp.leq 3 (ot 10) (ot 12) v7 v10).bind fun v11 =>
 some v11)).bind fun v12 =>
 (pickV v4 v12 (vb false)).bind fun v13 =>
 (guardV v13 true (some V.any)).bind fun v14 =>
 (guardV v13 true ((gate v13 true (ldk none (List.drop 1 v2))).bind fun v15 =>
 some v15)).bind fun v16 =>
 (guardV v13 true ((bin2 Tryd.prog BinOp.geq 3 (ot 17) (oc 1) v16 (vi 1)).bind fun v17 =>
 some v17)).bind fun v18 =>
 (pickV v13 v18 (vb false)).bind fun v19 =>
 (guardV v19 true (some V.any)).bind fun v20 =>
 (guardV v19 true ((gate v19 true (ldk none (List.drop 1 v2))).bind fun v21 =>
 some v21)).bind fun v22 =>
 (guardV v19 true ((bin2 Tryd.prog BinOp.leq 3 (ot 22) (oc 4) v22 (vi 4)).bind fun v23 =>
 some v23)).bind fun v24 =>
 (pickV v19 v24 (vb false)).bind fun v25 =>
 some v25 := by kernel_rfl
noncomputable def t_topo_Spot (a0 : T_Topo) (a1 : T_Spot) : Option Bool :=
 some ((((decide (1 ≤ a1.Switch)) && (decide (a1.Switch ≤ a0.Switches))) && (decide (1 ≤ a1.Port))) && (decide (a1.Port ≤ 4)))
theorem ty_topo_Spot {n : Nat} (hn : bigN ≤ n) (a0 : T_Topo) (a1 : T_Spot) : Rv (fun x : Bool => (vb x)) (sem_topo_Spot n [(T_Topo.e a0), (T_Spot.e a1)]) (t_topo_Spot a0 a1) := by
  rw [eq_topo_Spot]
  unfold t_topo_Spot
  refine tb (x := (T_Topo.c a0)) rfl ?_
  refine tb (x := (T_Spot.c a1)) rfl ?_
  refine tb (x := (vi a1.Switch)) (rfl) ?_
  refine tb (x := (vb (decide (1 ≤ a1.Switch)))) (d_geq) ?_
  refine tg (x := V.any) (fun h5 => rfl) ?_
  refine tg (x := (vi a1.Switch)) (fun h7 => bind_some_eq (gate_pos h7 (rfl))) ?_
  refine tg (x := V.any) (fun h10 => rfl) ?_
  refine tg (x := (vi a0.Switches)) (fun h12 => bind_some_eq (gate_pos h12 (rfl))) ?_
  refine tg (x := (vb (decide (a1.Switch ≤ a0.Switches)))) (fun h15 => by simp only [gv_t h15]; exact bind_some_eq (d_leq)) ?_
  refine tb (x := (vb ((decide (1 ≤ a1.Switch)) && (decide (a1.Switch ≤ a0.Switches))))) (pick_and (fun h9 => gv_t h9)) ?_
  refine tg (x := V.any) (fun h19 => rfl) ?_
  refine tg (x := (vi a1.Port)) (fun h21 => bind_some_eq (gate_pos h21 (rfl))) ?_
  refine tg (x := (vb (decide (1 ≤ a1.Port)))) (fun h24 => by simp only [gv_t h24]; exact bind_some_eq (d_geq)) ?_
  refine tb (x := (vb (((decide (1 ≤ a1.Switch)) && (decide (a1.Switch ≤ a0.Switches))) && (decide (1 ≤ a1.Port))))) (pick_and (fun h9 => gv_t h9)) ?_
  refine tg (x := V.any) (fun h28 => rfl) ?_
  refine tg (x := (vi a1.Port)) (fun h30 => bind_some_eq (gate_pos h30 (rfl))) ?_
  refine tg (x := (vb (decide (a1.Port ≤ 4)))) (fun h33 => by simp only [gv_t h33]; exact bind_some_eq (d_leq)) ?_
  refine tb (x := (vb ((((decide (1 ≤ a1.Switch)) && (decide (a1.Switch ≤ a0.Switches))) && (decide (1 ≤ a1.Port))) && (decide (a1.Port ≤ 4))))) (pick_and (fun h9 => gv_t h9)) ?_
  exact rf_ret rfl

/-! railpoint/topo.Name -/
def an_topo_Name : Ann := .seq (.reg 0 [] [] []) (.seq (.seq (.reg 0 [] [] []) (.blk (some []) (.loop [.s 8] (.seq (.reg 0 [] [] []) (.seq (.cond none (.no) (.no)) (.seq (.blk none (.seq (.reg 0 [] [] []) (.seq (.reg 0 [] [] []) (.cond none (.seq (.reg 0 [] [] []) (.no)) (.no))))) (.reg 0 [] [] []))))))) (.seq (.reg 0 [] [] []) (.no)))
noncomputable def sem_topo_Name (n : Nat) (xs : List V) : Option V := if xs.length ≤ 26 then denF Tryd.prog (envOf []) n Tryd.f140 an_topo_Name xs else none
theorem ok_topo_Name (n : Nat) : SemOk Tryd.prog DW 140 (sem_topo_Name n) := fun xs y h => by
  unfold sem_topo_Name at h
  split at h
  · rename_i hl
    exact denF_ok stb Tryd.func140 (by kernel_rfl) (envOf_ok semsOk_nil) (by rw [Tryd.ntmps140]; exact hl) h
  · cases h
theorem eq_topo_Name (n : Nat) (x0 : V) : sem_topo_Name n [x0] =
 (s2b x0).bind fun v1 =>
 (lenS [v1]).bind fun v2 =>
 JoinPt (fun vs3 =>
 (bin2 Tryd.prog BinOp.neq 9 (ot 19) (Operand.const (Go.Value.string (ByteArray.mk #[]))) x0 (V.lit (Go.Value.string (ByteArray.mk #[])))).bind fun v5 =>
 (guardV v5 true (some x0)).bind fun v6 =>
 (guardV v5 true ((lenT [v6]).bind fun v7 =>
 some v7)).bind fun v8 =>
 (guardV v5 true ((bin2 Tryd.prog BinOp.leq 3 (ot 23) (oc 6) v8 (vi 6)).bind fun v9 =>
 some v9)).bind fun v10 =>
 (pickV v5 v10 (vb false)).bind fun v11 =>
 some v11) fun J4 =>
 (fixN (fun rec12 vs13 =>
 (bin2 Tryd.prog BinOp.lss 3 (ot 8) (ot 7) (List.getD vs13 0 V.any) v2).bind fun v14 =>
 condV v14 (
 (idxS 1 v1 (List.getD vs13 0 V.any)).bind fun v15 =>
 (ldp none v15).bind fun v16 =>
 (bin2 Tryd.prog BinOp.lss 5 (ot 12) (Operand.const (Go.Value.int Go.IntKind.u8 97)) v16 (V.lit (Go.Value.int Go.IntKind.u8 97))).bind fun v17 =>
 (guardV v17 false (some v16)).bind fun v18 =>
 (guardV v17 false ((bin2 Tryd.prog BinOp.gtr 5 (ot 15) (Operand.const (Go.Value.int Go.IntKind.u8 122)) v18 (V.lit (Go.Value.int Go.IntKind.u8 122))).bind fun v19 =>
 some v19)).bind fun v20 =>
 (pickV v17 (vb true) v20).bind fun v21 =>
 condV v21 (
 some (vb false)) (
 (bin2 Tryd.prog BinOp.add 3 (ot 8) (oc 1) (List.getD vs13 0 V.any) (vi 1)).bind fun v22 =>
 rec12 [v22])) (
 J4 [])) n) [(vi 0)] := by kernel_rfl
noncomputable def t_topo_Name (a0 : ByteArray) : Option Bool :=
 need (decide ((a0.size : Int) ≤ maxI)) (
 join (fun (s5 : Unit) =>
 some ((!decide (a0 = (ByteArray.mk #[]))) && (decide ((a0.size : Int) ≤ 6)))) fun j6 =>
 loopI (numsOf a0) (fun (i24 : Int) x25 (s20 : Unit) k21 =>
 if ((decide (x25 < 97)) || (decide (122 < x25))) = true then (
 some false) else (
 k21 ())) (fun (s20 : Unit) =>
 j6 ()) ())
theorem ty_topo_Name {n : Nat} (hn : bigN ≤ n) (a0 : ByteArray) : Rv (fun x : Bool => (vb x)) (sem_topo_Name n [(vt a0)]) (t_topo_Name a0) := by
  rw [eq_topo_Name]
  unfold t_topo_Name
  refine tneed (x := (V.sl (List.map cY (numsOf a0)))) (fun h44 => p_s2b h44) fun h44 => ?_
  refine tb (x := (vi (List.length (numsOf a0) : Int))) (p_len _) ?_
  refine tjoin (mk := fun s5 : Unit => []) (fun s5 => ?_) fun J4 j6 h7 => ?_
  · refine tb (x := (vb (!decide (a0 = (ByteArray.mk #[]))))) (p_neq_str) ?_
    refine tg (x := (vt a0)) (fun h9 => rfl) ?_
    refine tg (x := (vi (a0.size : Int))) (fun h11 => by simp only [gv_t h11]; exact bind_some_eq (rfl)) ?_
    refine tg (x := (vb (decide ((a0.size : Int) ≤ 6)))) (fun h14 => by simp only [gv_t h14]; exact bind_some_eq (d_leq)) ?_
    refine tb (x := (vb ((!decide (a0 = (ByteArray.mk #[]))) && (decide ((a0.size : Int) ≤ 6))))) (pick_and (fun h9 => gv_t h9)) ?_
    exact rf_ret rfl
  · refine rf_loopI (mk := fun (i24 : Int) (s20 : Unit) => [(vi (i24 : Int))]) hn (numsOf a0) () (fun i24 x25 h26 h27 h28 s20 rec18 k21 h22 => ?_) (fun s20 rec42 h41 => ?_)
    · refine tb (x := (vb (decide ((i24 : Int) < (List.length (numsOf a0) : Int))))) (d_lss) ?_
      refine tcond_t h28 ?_
      refine tb (x := (V.ptr [(V.lit (.int .u8 x25))])) (p_idx_at (c := cY) (fun _ => rfl) h26) ?_
      refine tb (x := (V.lit (.int .u8 x25))) (rfl) ?_
      refine tb (x := (vb (decide (x25 < 97)))) (q_lss) ?_
      refine tg_f (x := (V.lit (.int .u8 x25))) (fun h33 => rfl) ?_
      refine tg_f (x := (vb (decide (122 < x25)))) (fun h35 => by simp only [gv_t h35]; exact bind_some_eq (q_gtr)) ?_
      refine tb (x := (vb ((decide (x25 < 97)) || (decide (122 < x25))))) (pick_or (fun h9 => gv_t (not_f h9))) ?_
      refine tcond (fun h39 => ?_) (fun h39 => ?_)
      · exact rf_ret rfl
      · refine tb (x := (vi ((i24 : Int) + 1))) (p_incN h27) ?_
        exact h22 ()
    · refine tb (x := (vb (decide ((List.length (numsOf a0) : Int) < (List.length (numsOf a0) : Int))))) (d_lss) ?_
      refine tcond_f h41 ?_
      exact h7 ()

/-! railpoint/topo.Check -/
def an_topo_Check : Ann := .seq (.reg 0 [] [] []) (.seq (.blk none (.seq (.reg 0 [] [] []) (.cond none (.seq (.reg 0 [] [] []) (.no)) (.seq (.reg 0 [] [] []) (.cond none (.seq (.reg 0 [] [] []) (.no)) (.no)))))) (.seq (.reg 0 [] [] []) (.seq (.seq (.reg 0 [] [] []) (.blk (some [.kb 1, .o 3]) (.loop [.kb 1, .o 3, .s 35] (.seq (.reg 0 [] [] []) (.seq (.cond none (.no) (.no)) (.seq (.blk none (.seq (.reg 0 [] [] []) (.seq (.seq (.reg 0 [] [] []) (.cond none (.seq (.reg 0 [] [] []) (.no)) (.no))) (.seq (.seq (.reg 0 [] [] []) (.cond none (.seq (.reg 0 [] [] []) (.no)) (.no))) (.reg 72 [] [] []))))) (.reg 0 [] [] []))))))) (.seq (.reg 0 [] [] []) (.seq (.seq (.reg 0 [] [] []) (.blk (some []) (.loop [.kb 1, .o 3, .o 6, .s 81] (.seq (.reg 0 [] [] []) (.seq (.cond none (.no) (.no)) (.seq (.blk none (.seq (.reg 0 [] [] []) (.seq (.blk none (.seq (.reg 0 [] [] []) (.cond none (.seq (.reg 0 [] [] []) (.no)) (.seq (.reg 0 [] [] []) (.cond none (.seq (.reg 0 [] [] []) (.no)) (.seq (.reg 0 [] [] []) (.cond none (.seq (.reg 0 [] [] []) (.no)) (.no)))))))) (.reg 72 [] [] [])))) (.reg 0 [] [] []))))))) (.seq (.reg 0 [] [] []) (.no)))))))
noncomputable def sem_topo_Check (n : Nat) (xs : List V) : Option V := if xs.length ≤ 117 then denF Tryd.prog (envOf [(139, (sem_topo_Spot n)), (140, (sem_topo_Name n))]) n Tryd.f78 an_topo_Check xs else none
theorem ok_topo_Check (n : Nat) : SemOk Tryd.prog DW 78 (sem_topo_Check n) := fun xs y h => by
  unfold sem_topo_Check at h
  split at h
  · rename_i hl
    exact denF_ok stb Tryd.func78 (by kernel_rfl) (envOf_ok (semsOk_cons (ok_topo_Spot n) (semsOk_cons (ok_topo_Name n) semsOk_nil))) (by rw [Tryd.ntmps78]; exact hl) h
  · cases h
theorem eq_topo_Check (n : Nat) (x0 : V) : sem_topo_Check n [x0] =
 (V.cellsO x0).bind fun v1 =>
 (ldk none (List.drop 0 v1)).bind fun v2 =>
 (bin2 Tryd.prog BinOp.lss 3 (ot 11) (oc 1) v2 (vi 1)).bind fun v3 =>
 (guardV v3 false (some V.any)).bind fun v4 =>
 (guardV v3 false ((gate v3 false (ldk none (List.drop 0 v1))).bind fun v5 =>
 some v5)).bind fun v6 =>
 (guardV v3 false ((bin2 Tryd.prog BinOp.gtr 3 (ot 15) (oc 6) v6 (vi 6)).bind fun v7 =>
 some v7)).bind fun v8 =>
 (pickV v3 (vb true) v8).bind fun v9 =>
 condV v9 (
 (scal1 Tryd.prog (Instr.makeInterface 143) (vi 1)).bind fun v10 =>
 some v10) (
 (ldk none (List.drop 1 v1)).bind fun v11 =>
 (lenS [v11]).bind fun v12 =>
 (bin2 Tryd.prog BinOp.gtr 3 (ot 22) (oc 200) v12 (vi 200)).bind fun v13 =>
 (guardV v13 false (some V.any)).bind fun v14 =>
 (guardV v13 false ((gate v13 false (ldk none (List.drop 2 v1))).bind fun v15 =>
 some v15)).bind fun v16 =>
 (guardV v13 false ((lenS [v16]).bind fun v17 =>
 some v17)).bind fun v18 =>
 (guardV v13 false ((bin2 Tryd.prog BinOp.gtr 3 (ot 27) (oc 8) v18 (vi 8)).bind fun v19 =>
 some v19)).bind fun v20 =>
 (pickV v13 (vb true) v20).bind fun v21 =>
 condV v21 (
 (scal1 Tryd.prog (Instr.makeInterface 143) (vi 4)).bind fun v22 =>
 some v22) (
 (ldk none (List.drop 1 v1)).bind fun v23 =>
 (lenS [v23]).bind fun v24 =>
 JoinPt (fun vs25 =>
 (ldk none (List.drop 2 v1)).bind fun v27 =>
 (lenS [v27]).bind fun v28 =>
 JoinPt (fun vs29 =>
 some vn) fun J30 =>
 (keepO (some v1) (some v1) (some [(List.getD vs25 0 V.any), (V.mp []), (vi 0)])).bind (fixN (fun rec31 vs32 =>
 (bin2 Tryd.prog BinOp.lss 3 (ot 81) (ot 80) (List.getD vs32 2 V.any) v28).bind fun v33 =>
 condV v33 (
 (idxS 3 v27 (List.getD vs32 2 V.any)).bind fun v34 =>
 (ldp (some 3) v34).bind fun v35 =>
 (spliceV [(V.lit (Go.Value.string (ByteArray.mk #[]))), (vi 0), (vi 0)] 0 3 v35).bind fun v36 =>
 (ldk none (List.drop 0 (aggL v36))).bind fun v37 =>
 ((sem_topo_Name n) [v37]).bind fun v38 =>
 (scal1 Tryd.prog (Op.unary Go.UnOp.not) v38).bind fun v39 =>
 condV v39 (
 (scal1 Tryd.prog (Instr.makeInterface 143) (vi 2)).bind fun v40 =>
 some v40) (
 (ldk (some 3) (List.drop 0 v1)).bind fun v41 =>
 (ldk (some 2) (List.drop 1 (aggL v36))).bind fun v42 =>
 ((sem_topo_Spot n) [v41, v42]).bind fun v43 =>
 (scal1 Tryd.prog (Op.unary Go.UnOp.not) v43).bind fun v44 =>
 condV v44 (
 (scal1 Tryd.prog (Instr.makeInterface 143) (vi 1)).bind fun v45 =>
 some v45) (
 (ldk none (List.drop 0 (aggL v36))).bind fun v46 =>
 (lookV Tryd.prog 221 false (List.getD vs32 1 V.any) v46).bind fun v47 =>
 (guardV v47 false (some V.any)).bind fun v48 =>
 (guardV v47 false (some V.any)).bind fun v49 =>
 (guardV v47 false ((gate v47 false (ldk (some 2) (List.drop 1 (aggL v36)))).bind fun v50 =>
 some v50)).bind fun v51 =>
 (guardV v47 false ((gate v47 false (lookV Tryd.prog 220 false (List.getD vs32 0 V.any) v51)).bind fun v52 =>
 some v52)).bind fun v53 =>
 (pickV v47 (vb true) v53).bind fun v54 =>
 condV v54 (
 (scal1 Tryd.prog (Instr.makeInterface 143) (vi 7)).bind fun v55 =>
 some v55) (
 (ldk none (List.drop 0 (aggL v36))).bind fun v56 =>
 (litV v56).bind fun v57 =>
 (ldk (some 2) (List.drop 1 (aggL v36))).bind fun v58 =>
 (litV v58).bind fun v59 =>
 (putV Tryd.prog 221 (List.getD vs32 1 V.any) v57 (vb true)).bind fun v60 =>
 (putV Tryd.prog 220 (List.getD vs32 0 V.any) v59 (vb true)).bind fun v61 =>
 (bin2 Tryd.prog BinOp.add 3 (ot 81) (oc 1) (List.getD vs32 2 V.any) (vi 1)).bind fun v62 =>
 (keepO (some v1) (some v1) (some [v61, v60, v62])).bind rec31)))) (
 J30 [])) n)) fun J26 =>
 (keepO (some v1) (some v1) (some [(V.mp []), (vi 0)])).bind (fixN (fun rec63 vs64 =>
 (bin2 Tryd.prog BinOp.lss 3 (ot 35) (ot 34) (List.getD vs64 1 V.any) v24).bind fun v65 =>
 condV v65 (
 (idxS 4 v23 (List.getD vs64 1 V.any)).bind fun v66 =>
 (ldp (some 4) v66).bind fun v67 =>
 (spliceV [(vi 0), (vi 0), (vi 0), (vi 0)] 0 4 v67).bind fun v68 =>
 (ldk (some 3) (List.drop 0 v1)).bind fun v69 =>
 (ldk (some 2) (List.drop 0 (aggL v68))).bind fun v70 =>
 ((sem_topo_Spot n) [v69, v70]).bind fun v71 =>
 (scal1 Tryd.prog (Op.unary Go.UnOp.not) v71).bind fun v72 =>
 (guardV v72 false ((ldk (some 3) (List.drop 0 v1)).bind fun v73 =>
 some v73)).bind fun v74 =>
 (guardV v72 false (some V.any)).bind fun v75 =>
 (guardV v72 false ((gate v72 false (ldk (some 2) (List.drop 2 (aggL v68)))).bind fun v76 =>
 some v76)).bind fun v77 =>
 (guardV v72 false (((sem_topo_Spot n) [v74, v77]).bind fun v78 =>
 some v78)).bind fun v79 =>
 (guardV v72 false ((scal1 Tryd.prog (Op.unary Go.UnOp.not) v79).bind fun v80 =>
 some v80)).bind fun v81 =>
 (pickV v72 (vb true) v81).bind fun v82 =>
 condV v82 (
 (scal1 Tryd.prog (Instr.makeInterface 143) (vi 1)).bind fun v83 =>
 some v83) (
 (ldk (some 2) (List.drop 0 (aggL v68))).bind fun v84 =>
 (lookV Tryd.prog 220 false (List.getD vs64 0 V.any) v84).bind fun v85 =>
 (guardV v85 false (some V.any)).bind fun v86 =>
 (guardV v85 false (some V.any)).bind fun v87 =>
 (guardV v85 false ((gate v85 false (ldk (some 2) (List.drop 2 (aggL v68)))).bind fun v88 =>
 some v88)).bind fun v89 =>
 (guardV v85 false ((gate v85 false (lookV Tryd.prog 220 false (List.getD vs64 0 V.any) v89)).bind fun v90 =>
 some v90)).bind fun v91 =>
 (pickV v85 (vb true) v91).bind fun v92 =>
 (guardV v92 false (some V.any)).bind fun v93 =>
 (guardV v92 false ((gate v92 false (ldk (some 2) (List.drop 0 (aggL v68)))).bind fun v94 =>
 some v94)).bind fun v95 =>
 (guardV v92 false (some V.any)).bind fun v96 =>
 (guardV v92 false ((gate v92 false (ldk (some 2) (List.drop 2 (aggL v68)))).bind fun v97 =>
 some v97)).bind fun v98 =>
 (guardV v92 false ((bin2 Tryd.prog BinOp.eql 62 (ot 64) (ot 66) v95 v98).bind fun v99 =>
 some v99)).bind fun v100 =>
 (pickV v92 (vb true) v100).bind fun v101 =>
 condV v101 (
 (scal1 Tryd.prog (Instr.makeInterface 143) (vi 7)).bind fun v102 =>
 some v102) (
 (ldk (some 2) (List.drop 0 (aggL v68))).bind fun v103 =>
 (litV v103).bind fun v104 =>
 (ldk (some 2) (List.drop 2 (aggL v68))).bind fun v105 =>
 (litV v105).bind fun v106 =>
 (putV Tryd.prog 220 (List.getD vs64 0 V.any) v104 (vb true)).bind fun v107 =>
 (putV Tryd.prog 220 v107 v106 (vb true)).bind fun v108 =>
 (bin2 Tryd.prog BinOp.add 3 (ot 35) (oc 1) (List.getD vs64 1 V.any) (vi 1)).bind fun v109 =>
 (keepO (some v1) (some v1) (some [v108, v109])).bind rec63))) (
 (keepO (some v1) (some v1) (some [(List.getD vs64 0 V.any)])).bind J26)) n))) := by kernel_rfl
noncomputable def t_topo_Check (a0 : T_Topo) : Option Int :=
 if ((decide (a0.Switches < 1)) || (decide (6 < a0.Switches))) = true then (
 some 1) else (
 if ((decide (200 < (List.length a0.Links : Int))) || (decide (8 < (List.length a0.Hosts : Int)))) = true then (
 some 4) else (
 join (fun (s36 : (List (T_Spot × Bool))) =>
 join (fun (s43 : Unit) =>
 some 0) fun j44 =>
 loopI a0.Hosts (fun (i52 : Int) x53 (s48 : ((List (T_Spot × Bool)) × (List (ByteArray × Bool)))) k49 =>
 (t_topo_Name x53.Name).bind fun r63 =>
 if (!r63) = true then (
 some 2) else (
 (t_topo_Spot a0 x53.At).bind fun r70 =>
 if (!r70) = true then (
 some 1) else (
 if ((mget s48.2 x53.Name false) || (mget s48.1 x53.At false)) = true then (
 some 7) else (
 k49 ((mput s48.1 x53.At true), (mput s48.2 x53.Name true)))))) (fun (s48 : ((List (T_Spot × Bool)) × (List (ByteArray × Bool)))) =>
 j44 ()) (s36, [])) fun j37 =>
 loopI a0.Links (fun (i105 : Int) x106 (s101 : (List (T_Spot × Bool))) k102 =>
 (t_topo_Spot a0 x106.A).bind fun r117 =>
 (gd (!(!r117)) default (t_topo_Spot a0 x106.B)).bind fun r130 =>
 if ((!r117) || (!r130)) = true then (
 some 1) else (
 if (((mget s101 x106.A false) || (mget s101 x106.B false)) || (decide (x106.A = x106.B))) = true then (
 some 7) else (
 k102 (mput (mput s101 x106.A true) x106.B true)))) (fun (s101 : (List (T_Spot × Bool))) =>
 j37 (s101)) ([])))
theorem ty_topo_Check {n : Nat} (hn : bigN ≤ n) (a0 : T_Topo) : Rv (fun x : Int => (eV x)) (sem_topo_Check n [(T_Topo.e a0)]) (t_topo_Check a0) := by
  rw [eq_topo_Check]
  unfold t_topo_Check
  refine tb (x := (T_Topo.c a0)) rfl ?_
  refine tb (x := (vi a0.Switches)) (rfl) ?_
  refine tb (x := (vb (decide (a0.Switches < 1)))) (d_lss) ?_
  refine tg_f (x := V.any) (fun h4 => rfl) ?_
  refine tg_f (x := (vi a0.Switches)) (fun h6 => bind_some_eq (gate_pos (not_t h6) (rfl))) ?_
  refine tg_f (x := (vb (decide (6 < a0.Switches)))) (fun h9 => by simp only [gv_t h9]; exact bind_some_eq (d_gtr)) ?_
  refine tb (x := (vb ((decide (a0.Switches < 1)) || (decide (6 < a0.Switches))))) (pick_or (fun h9 => gv_t (not_f h9))) ?_
  refine tcond (fun h13 => ?_) (fun h13 => ?_)
  · refine tb (x := (eV 1)) (p_mkE (by decide)) ?_
    exact rf_ret rfl
  · refine tb (x := (V.sl (List.map T_Link.c a0.Links))) (rfl) ?_
    refine tb (x := (vi (List.length a0.Links : Int))) (p_len _) ?_
    refine tb (x := (vb (decide (200 < (List.length a0.Links : Int))))) (d_gtr) ?_
    refine tg_f (x := V.any) (fun h18 => rfl) ?_
    refine tg_f (x := (V.sl (List.map T_Host.c a0.Hosts))) (fun h20 => bind_some_eq (gate_pos (not_t h20) (rfl))) ?_
    refine tg_f (x := (vi (List.length a0.Hosts : Int))) (fun h23 => by simp only [gv_t h23]; exact bind_some_eq (p_len _)) ?_
    refine tg_f (x := (vb (decide (8 < (List.length a0.Hosts : Int))))) (fun h26 => by simp only [gv_t h26]; exact bind_some_eq (d_gtr)) ?_
    refine tb (x := (vb ((decide (200 < (List.length a0.Links : Int))) || (decide (8 < (List.length a0.Hosts : Int)))))) (pick_or (fun h9 => gv_t (not_f h9))) ?_
    refine tcond (fun h30 => ?_) (fun h30 => ?_)
    · refine tb (x := (eV 4)) (p_mkE (by decide)) ?_
      exact rf_ret rfl
    · refine tb (x := (V.sl (List.map T_Link.c a0.Links))) (rfl) ?_
      refine tb (x := (vi (List.length a0.Links : Int))) (p_len _) ?_
      refine tjoin (mk := fun s36 : (List (T_Spot × Bool)) => [(V.mp (mrep T_Spot.val (fun b : Bool => Go.Value.bool b) s36))]) (fun s36 => ?_) fun J35 j37 h38 => ?_
      · refine tb (x := (V.sl (List.map T_Host.c a0.Hosts))) (rfl) ?_
        refine tb (x := (vi (List.length a0.Hosts : Int))) (p_len _) ?_
        refine tjoin (mk := fun s43 : Unit => []) (fun s43 => ?_) fun J42 j44 h45 => ?_
        · exact rf_ret rfl
        · refine tkeepO2 ?_ rfl
          refine tsome ?_
          refine rf_loopI (mk := fun (i52 : Int) (s48 : ((List (T_Spot × Bool)) × (List (ByteArray × Bool)))) => [(V.mp (mrep T_Spot.val (fun b : Bool => Go.Value.bool b) s48.1)), (V.mp (mrep (fun b : ByteArray => Go.Value.string b) (fun b : Bool => Go.Value.bool b) s48.2)), (vi (i52 : Int))]) hn a0.Hosts (s36, []) (fun i52 x53 h54 h55 h56 s48 rec46 k49 h50 => ?_) (fun s48 rec97 h96 => ?_)
          · refine tb (x := (vb (decide ((i52 : Int) < (List.length a0.Hosts : Int))))) (d_lss) ?_
            refine tcond_t h56 ?_
            refine tb (x := (V.ptr (T_Host.c x53))) (p_idx_at (c := T_Host.c) (fun _ => rfl) h54) ?_
            refine tb (x := (T_Host.e x53)) (rfl) ?_
            refine tb (x := V.agg (T_Host.c x53)) (by kernel_rfl) ?_
            refine tb (x := (vt x53.Name)) (rfl) ?_
            refine tbo (ty_topo_Name hn x53.Name) fun r63 => ?_
            refine tb (x := (vb (!r63))) (d_not) ?_
            refine tcond (fun h65 => ?_) (fun h65 => ?_)
            · refine tb (x := (eV 2)) (p_mkE (by decide)) ?_
              exact rf_ret rfl
            · refine tb (x := (T_Topo.e a0)) (rfl) ?_
              refine tb (x := (T_Spot.e x53.At)) (rfl) ?_
              refine tbo (ty_topo_Spot hn a0 x53.At) fun r70 => ?_
              refine tb (x := (vb (!r70))) (d_not) ?_
              refine tcond (fun h72 => ?_) (fun h72 => ?_)
              · refine tb (x := (eV 1)) (p_mkE (by decide)) ?_
                exact rf_ret rfl
              · refine tb (x := (vt x53.Name)) (rfl) ?_
                refine tb (x := (vb (mget s48.2 x53.Name false))) (p_look (kt := 9) (et := 4) (kv := (fun b : ByteArray => Go.Value.string b)) (vv := (fun b : Bool => Go.Value.bool b)) (e1 := fun x : Bool => (vb x)) (mkey_str (by kernel_rfl)) (by kernel_rfl) false (fun _ => by kernel_rfl) (fun _ => rfl) x53.Name rfl s48.2) ?_
                refine tg_f (x := V.any) (fun h76 => rfl) ?_
                refine tg_f (x := V.any) (fun h78 => rfl) ?_
                refine tg_f (x := (T_Spot.e x53.At)) (fun h80 => bind_some_eq (gate_pos (not_t h80) (rfl))) ?_
                refine tg_f (x := (vb (mget s48.1 x53.At false))) (fun h83 => by simp only [gv_t h83]; exact bind_some_eq (gate_pos (not_t h83) (p_look (kt := 62) (et := 4) (kv := T_Spot.val) (vv := (fun b : Bool => Go.Value.bool b)) (e1 := fun x : Bool => (vb x)) T_Spot.mkey (by kernel_rfl) false (fun _ => by kernel_rfl) (fun _ => rfl) x53.At rfl s48.1))) ?_
                refine tb (x := (vb ((mget s48.2 x53.Name false) || (mget s48.1 x53.At false)))) (pick_or (fun h9 => gv_t (not_f h9))) ?_
                refine tcond (fun h87 => ?_) (fun h87 => ?_)
                · refine tb (x := (eV 7)) (p_mkE (by decide)) ?_
                  exact rf_ret rfl
                · refine tb (x := (vt x53.Name)) (rfl) ?_
                  refine tb (x := (vt x53.Name)) rfl ?_
                  refine tb (x := (T_Spot.e x53.At)) (rfl) ?_
                  refine tb (x := (T_Spot.e x53.At)) rfl ?_
                  refine tb (x := V.mp (mrep (fun b : ByteArray => Go.Value.string b) (fun b : Bool => Go.Value.bool b) (mput s48.2 x53.Name true))) (p_put (kt := 9) (et := 4) (kv := (fun b : ByteArray => Go.Value.string b)) (vv := (fun b : Bool => Go.Value.bool b)) (mkey_str (by kernel_rfl)) (by kernel_rfl) x53.Name true rfl rfl s48.2) ?_
                  refine tb (x := V.mp (mrep T_Spot.val (fun b : Bool => Go.Value.bool b) (mput s48.1 x53.At true))) (p_put (kt := 62) (et := 4) (kv := T_Spot.val) (vv := (fun b : Bool => Go.Value.bool b)) T_Spot.mkey (by kernel_rfl) x53.At true rfl rfl s48.1) ?_
                  refine tb (x := (vi ((i52 : Int) + 1))) (p_incN h55) ?_
                  refine tkeepO2 ?_ rfl
                  refine tsome ?_
                  exact h50 ((mput s48.1 x53.At true), (mput s48.2 x53.Name true))
          · refine tb (x := (vb (decide ((List.length a0.Hosts : Int) < (List.length a0.Hosts : Int))))) (d_lss) ?_
            refine tcond_f h96 ?_
            exact h45 ()
      · refine tkeepO2 ?_ rfl
        refine tsome ?_
        refine rf_loopI (mk := fun (i105 : Int) (s101 : (List (T_Spot × Bool))) => [(V.mp (mrep T_Spot.val (fun b : Bool => Go.Value.bool b) s101)), (vi (i105 : Int))]) hn a0.Links ([]) (fun i105 x106 h107 h108 h109 s101 rec99 k102 h103 => ?_) (fun s101 rec174 h173 => ?_)
        · refine tb (x := (vb (decide ((i105 : Int) < (List.length a0.Links : Int))))) (d_lss) ?_
          refine tcond_t h109 ?_
          refine tb (x := (V.ptr (T_Link.c x106))) (p_idx_at (c := T_Link.c) (fun _ => rfl) h107) ?_
          refine tb (x := (T_Link.e x106)) (rfl) ?_
          refine tb (x := V.agg (T_Link.c x106)) (by kernel_rfl) ?_
          refine tb (x := (T_Topo.e a0)) (rfl) ?_
          refine tb (x := (T_Spot.e x106.A)) (rfl) ?_
          refine tbo (ty_topo_Spot hn a0 x106.A) fun r117 => ?_
          refine tb (x := (vb (!r117))) (d_not) ?_
          refine tg_f (x := (T_Topo.e a0)) (fun h119 => bind_some_eq (rfl)) ?_
          refine tg_f (x := V.any) (fun h122 => rfl) ?_
          refine tg_f (x := (T_Spot.e x106.B)) (fun h124 => bind_some_eq (gate_pos (not_t h124) (rfl))) ?_
          refine tgo_f (fun h127 => by simp only [gv_t h127]; exact rf_bind_some (ty_topo_Spot hn a0 x106.B)) fun r130 => ?_
          refine tg_f (x := (vb (!r130))) (fun h131 => by simp only [gv_t h131]; exact bind_some_eq (d_not)) ?_
          refine tb (x := (vb ((!r117) || (!r130)))) (pick_or (fun h9 => gv_t (not_f h9))) ?_
          refine tcond (fun h135 => ?_) (fun h135 => ?_)
          · refine tb (x := (eV 1)) (p_mkE (by decide)) ?_
            exact rf_ret rfl
          · refine tb (x := (T_Spot.e x106.A)) (rfl) ?_
            refine tb (x := (vb (mget s101 x106.A false))) (p_look (kt := 62) (et := 4) (kv := T_Spot.val) (vv := (fun b : Bool => Go.Value.bool b)) (e1 := fun x : Bool => (vb x)) T_Spot.mkey (by kernel_rfl) false (fun _ => by kernel_rfl) (fun _ => rfl) x106.A rfl s101) ?_
            refine tg_f (x := V.any) (fun h139 => rfl) ?_
            refine tg_f (x := V.any) (fun h141 => rfl) ?_
            refine tg_f (x := (T_Spot.e x106.B)) (fun h143 => bind_some_eq (gate_pos (not_t h143) (rfl))) ?_
            refine tg_f (x := (vb (mget s101 x106.B false))) (fun h146 => by simp only [gv_t h146]; exact bind_some_eq (gate_pos (not_t h146) (p_look (kt := 62) (et := 4) (kv := T_Spot.val) (vv := (fun b : Bool => Go.Value.bool b)) (e1 := fun x : Bool => (vb x)) T_Spot.mkey (by kernel_rfl) false (fun _ => by kernel_rfl) (fun _ => rfl) x106.B rfl s101))) ?_
            refine tb (x := (vb ((mget s101 x106.A false) || (mget s101 x106.B false)))) (pick_or (fun h9 => gv_t (not_f h9))) ?_
            refine tg_f (x := V.any) (fun h150 => rfl) ?_
            refine tg_f (x := (T_Spot.e x106.A)) (fun h152 => bind_some_eq (gate_pos (not_t h152) (rfl))) ?_
            refine tg_f (x := V.any) (fun h155 => rfl) ?_
            refine tg_f (x := (T_Spot.e x106.B)) (fun h157 => bind_some_eq (gate_pos (not_t h157) (rfl))) ?_
            refine tg_f (x := (vb (decide (x106.A = x106.B)))) (fun h160 => by simp only [gv_t h160]; exact bind_some_eq (T_Spot.eql x106.A x106.B)) ?_
            refine tb (x := (vb (((mget s101 x106.A false) || (mget s101 x106.B false)) || (decide (x106.A = x106.B))))) (pick_or (fun h9 => gv_t (not_f h9))) ?_
            refine tcond (fun h164 => ?_) (fun h164 => ?_)
            · refine tb (x := (eV 7)) (p_mkE (by decide)) ?_
              exact rf_ret rfl
            · refine tb (x := (T_Spot.e x106.A)) (rfl) ?_
              refine tb (x := (T_Spot.e x106.A)) rfl ?_
              refine tb (x := (T_Spot.e x106.B)) (rfl) ?_
              refine tb (x := (T_Spot.e x106.B)) rfl ?_
              refine tb (x := V.mp (mrep T_Spot.val (fun b : Bool => Go.Value.bool b) (mput s101 x106.A true))) (p_put (kt := 62) (et := 4) (kv := T_Spot.val) (vv := (fun b : Bool => Go.Value.bool b)) T_Spot.mkey (by kernel_rfl) x106.A true rfl rfl s101) ?_
              refine tb (x := V.mp (mrep T_Spot.val (fun b : Bool => Go.Value.bool b) (mput (mput s101 x106.A true) x106.B true))) (p_put (kt := 62) (et := 4) (kv := T_Spot.val) (vv := (fun b : Bool => Go.Value.bool b)) T_Spot.mkey (by kernel_rfl) x106.B true rfl rfl (mput s101 x106.A true)) ?_
              refine tb (x := (vi ((i105 : Int) + 1))) (p_incN h108) ?_
              refine tkeepO2 ?_ rfl
              refine tsome ?_
              exact h103 (mput (mput s101 x106.A true) x106.B true)
        · refine tb (x := (vb (decide ((List.length a0.Links : Int) < (List.length a0.Links : Int))))) (d_lss) ?_
          refine tcond_f h173 ?_
          refine tkeepO2 ?_ rfl
          refine tsome ?_
          exact h38 (s101)

/-! railpoint/cube.Header -/
def an_cube_Header : Ann := .seq (.reg 0 [] [] []) (.seq (.reg 0 [] [] []) (.no))
noncomputable def sem_cube_Header (n : Nat) (xs : List V) : Option V := if xs.length ≤ 9 then denF Tryd.prog (envOf []) n Tryd.f73 an_cube_Header xs else none
theorem ok_cube_Header (n : Nat) : SemOk Tryd.prog DW 73 (sem_cube_Header n) := fun xs y h => by
  unfold sem_cube_Header at h
  split at h
  · rename_i hl
    exact denF_ok stb Tryd.func73 (by kernel_rfl) (envOf_ok semsOk_nil) (by rw [Tryd.ntmps73]; exact hl) h
  · cases h
theorem eq_cube_Header (n : Nat) (x0 : V) : sem_cube_Header n [x0] =
 (bin2 Tryd.prog BinOp.geq 3 (ot 3) (oc 0) x0 (vi 0)).bind fun v1 =>
 (guardV v1 true (some x0)).bind fun v2 =>
 (guardV v1 true ((bin2 Tryd.prog BinOp.lss 3 (ot 6) (oc 16) v2 (vi 16)).bind fun v3 =>
 some v3)).bind fun v4 =>
 (pickV v1 v4 (vb false)).bind fun v5 =>
 some v5 := by kernel_rfl
noncomputable def t_cube_Header (a0 : Int) : Option Bool :=
 some ((decide (0 ≤ a0)) && (decide (a0 < 16)))
theorem ty_cube_Header {n : Nat} (hn : bigN ≤ n) (a0 : Int) : Rv (fun x : Bool => (vb x)) (sem_cube_Header n [(vi a0)]) (t_cube_Header a0) := by
  rw [eq_cube_Header]
  unfold t_cube_Header
  refine tb (x := (vb (decide (0 ≤ a0)))) (d_geq) ?_
  refine tg (x := (vi a0)) (fun h2 => rfl) ?_
  refine tg (x := (vb (decide (a0 < 16)))) (fun h4 => by simp only [gv_t h4]; exact bind_some_eq (d_lss)) ?_
  refine tb (x := (vb ((decide (0 ≤ a0)) && (decide (a0 < 16))))) (pick_and (fun h9 => gv_t h9)) ?_
  exact rf_ret rfl

/-! railpoint/cube.Check -/
def an_cube_Check : Ann := .seq (.reg 0 [] [] []) (.seq (.blk none (.seq (.reg 0 [] [] []) (.cond none (.seq (.reg 0 [] [] []) (.no)) (.seq (.reg 0 [] [] []) (.cond none (.seq (.reg 0 [] [] []) (.no)) (.no)))))) (.seq (.reg 0 [] [] []) (.no)))
noncomputable def sem_cube_Check (n : Nat) (xs : List V) : Option V := if xs.length ≤ 23 then denF Tryd.prog (envOf [(73, (sem_cube_Header n))]) n Tryd.f166 an_cube_Check xs else none
theorem ok_cube_Check (n : Nat) : SemOk Tryd.prog DW 166 (sem_cube_Check n) := fun xs y h => by
  unfold sem_cube_Check at h
  split at h
  · rename_i hl
    exact denF_ok stb Tryd.func166 (by kernel_rfl) (envOf_ok (semsOk_cons (ok_cube_Header n) semsOk_nil)) (by rw [Tryd.ntmps166]; exact hl) h
  · cases h
theorem eq_cube_Check (n : Nat) (x0 : V) : sem_cube_Check n [x0] =
 (V.cellsO x0).bind fun v1 =>
 (ldk none (List.drop 0 v1)).bind fun v2 =>
 ((sem_cube_Header n) [v2]).bind fun v3 =>
 (scal1 Tryd.prog (Op.unary Go.UnOp.not) v3).bind fun v4 =>
 (guardV v4 false (some V.any)).bind fun v5 =>
 (guardV v4 false ((gate v4 false (ldk none (List.drop 1 v1))).bind fun v6 =>
 some v6)).bind fun v7 =>
 (guardV v4 false (((sem_cube_Header n) [v7]).bind fun v8 =>
 some v8)).bind fun v9 =>
 (guardV v4 false ((scal1 Tryd.prog (Op.unary Go.UnOp.not) v9).bind fun v10 =>
 some v10)).bind fun v11 =>
 (pickV v4 (vb true) v11).bind fun v12 =>
 condV v12 (
 (scal1 Tryd.prog (Instr.makeInterface 143) (vi 1)).bind fun v13 =>
 some v13) (
 (ldk none (List.drop 1 v1)).bind fun v14 =>
 (ldk none (List.drop 0 v1)).bind fun v15 =>
 (bin2 Tryd.prog BinOp.andNot 3 (ot 17) (ot 19) v14 v15).bind fun v16 =>
 (bin2 Tryd.prog BinOp.neq 3 (ot 20) (oc 0) v16 (vi 0)).bind fun v17 =>
 condV v17 (
 (scal1 Tryd.prog (Instr.makeInterface 143) (vi 3)).bind fun v18 =>
 some v18) (
 some vn)) := by kernel_rfl
noncomputable def t_cube_Check (a0 : T_Cube) : Option Int :=
 (t_cube_Header a0.Mask).bind fun r4 =>
 (gd (!(!r4)) default (t_cube_Header a0.Bits)).bind fun r14 =>
 if ((!r4) || (!r14)) = true then (
 some 1) else (
 if (decide ((bits .andNot .i64 a0.Bits a0.Mask) ≠ 0)) = true then (
 some 3) else (
 some 0))
theorem ty_cube_Check {n : Nat} (hn : bigN ≤ n) (a0 : T_Cube) : Rv (fun x : Int => (eV x)) (sem_cube_Check n [(T_Cube.e a0)]) (t_cube_Check a0) := by
  rw [eq_cube_Check]
  unfold t_cube_Check
  refine tb (x := (T_Cube.c a0)) rfl ?_
  refine tb (x := (vi a0.Mask)) (rfl) ?_
  refine tbo (ty_cube_Header hn a0.Mask) fun r4 => ?_
  refine tb (x := (vb (!r4))) (d_not) ?_
  refine tg_f (x := V.any) (fun h6 => rfl) ?_
  refine tg_f (x := (vi a0.Bits)) (fun h8 => bind_some_eq (gate_pos (not_t h8) (rfl))) ?_
  refine tgo_f (fun h11 => by simp only [gv_t h11]; exact rf_bind_some (ty_cube_Header hn a0.Bits)) fun r14 => ?_
  refine tg_f (x := (vb (!r14))) (fun h15 => by simp only [gv_t h15]; exact bind_some_eq (d_not)) ?_
  refine tb (x := (vb ((!r4) || (!r14)))) (pick_or (fun h9 => gv_t (not_f h9))) ?_
  refine tcond (fun h19 => ?_) (fun h19 => ?_)
  · refine tb (x := (eV 1)) (p_mkE (by decide)) ?_
    exact rf_ret rfl
  · refine tb (x := (vi a0.Bits)) (rfl) ?_
    refine tb (x := (vi a0.Mask)) (rfl) ?_
    refine tb (x := (vi (bits .andNot .i64 a0.Bits a0.Mask))) (d_andNot) ?_
    refine tb (x := (vb (decide ((bits .andNot .i64 a0.Bits a0.Mask) ≠ 0)))) (d_neq) ?_
    refine tcond (fun h25 => ?_) (fun h25 => ?_)
    · refine tb (x := (eV 3)) (p_mkE (by decide)) ?_
      exact rf_ret rfl
    · exact rf_ret rfl

/-! railpoint/rule.Check -/
def an_rule_Check : Ann := .seq (.reg 0 [] [] []) (.seq (.seq (.reg 0 [] [] []) (.cond none (.seq (.reg 0 [] [] []) (.no)) (.no))) (.seq (.seq (.reg 0 [] [] []) (.seq (.reg 0 [] [] []) (.cond none (.seq (.reg 0 [] [] []) (.no)) (.no)))) (.seq (.seq (.reg 0 [] [] []) (.cond none (.seq (.reg 0 [] [] []) (.no)) (.no))) (.seq (.reg 0 [] [] []) (.no)))))
noncomputable def sem_rule_Check (n : Nat) (xs : List V) : Option V := if xs.length ≤ 58 then denF Tryd.prog (envOf [(73, (sem_cube_Header n)), (166, (sem_cube_Check n))]) n Tryd.f127 an_rule_Check xs else none
theorem ok_rule_Check (n : Nat) : SemOk Tryd.prog DW 127 (sem_rule_Check n) := fun xs y h => by
  unfold sem_rule_Check at h
  split at h
  · rename_i hl
    exact denF_ok stb Tryd.func127 (by kernel_rfl) (envOf_ok (semsOk_cons (ok_cube_Header n) (semsOk_cons (ok_cube_Check n) semsOk_nil))) (by rw [Tryd.ntmps127]; exact hl) h
  · cases h
theorem eq_rule_Check (n : Nat) (x0 : V) : sem_rule_Check n [x0] =
 (V.cellsO x0).bind fun v1 =>
 (ldk none (List.drop 0 v1)).bind fun v2 =>
 (bin2 Tryd.prog BinOp.lss 3 (ot 5) (oc 0) v2 (vi 0)).bind fun v3 =>
 (guardV v3 false (some V.any)).bind fun v4 =>
 (guardV v3 false ((gate v3 false (ldk none (List.drop 0 v1))).bind fun v5 =>
 some v5)).bind fun v6 =>
 (guardV v3 false ((bin2 Tryd.prog BinOp.gtr 3 (ot 9) (oc 99) v6 (vi 99)).bind fun v7 =>
 some v7)).bind fun v8 =>
 (pickV v3 (vb true) v8).bind fun v9 =>
 (guardV v9 false (some V.any)).bind fun v10 =>
 (guardV v9 false ((gate v9 false (ldk none (List.drop 3 v1))).bind fun v11 =>
 some v11)).bind fun v12 =>
 (guardV v9 false ((bin2 Tryd.prog BinOp.lss 3 (ot 14) (oc 0) v12 (vi 0)).bind fun v13 =>
 some v13)).bind fun v14 =>
 (pickV v9 (vb true) v14).bind fun v15 =>
 (guardV v15 false (some V.any)).bind fun v16 =>
 (guardV v15 false ((gate v15 false (ldk none (List.drop 3 v1))).bind fun v17 =>
 some v17)).bind fun v18 =>
 (guardV v15 false ((bin2 Tryd.prog BinOp.gtr 3 (ot 19) (oc 4) v18 (vi 4)).bind fun v19 =>
 some v19)).bind fun v20 =>
 (pickV v15 (vb true) v20).bind fun v21 =>
 (guardV v21 false (some V.any)).bind fun v22 =>
 (guardV v21 false ((gate v21 false (ldk none (List.drop 4 v1))).bind fun v23 =>
 some v23)).bind fun v24 =>
 (guardV v21 false (((sem_cube_Header n) [v24]).bind fun v25 =>
 some v25)).bind fun v26 =>
 (guardV v21 false ((scal1 Tryd.prog (Op.unary Go.UnOp.not) v26).bind fun v27 =>
 some v27)).bind fun v28 =>
 (pickV v21 (vb true) v28).bind fun v29 =>
 (guardV v29 false (some V.any)).bind fun v30 =>
 (guardV v29 false ((gate v29 false (ldk none (List.drop 5 v1))).bind fun v31 =>
 some v31)).bind fun v32 =>
 (guardV v29 false (((sem_cube_Header n) [v32]).bind fun v33 =>
 some v33)).bind fun v34 =>
 (guardV v29 false ((scal1 Tryd.prog (Op.unary Go.UnOp.not) v34).bind fun v35 =>
 some v35)).bind fun v36 =>
 (pickV v29 (vb true) v36).bind fun v37 =>
 condV v37 (
 (scal1 Tryd.prog (Instr.makeInterface 143) (vi 1)).bind fun v38 =>
 some v38) (
 (ldk (some 2) (List.drop 1 v1)).bind fun v39 =>
 ((sem_cube_Check n) [v39]).bind fun v40 =>
 (bin2 Tryd.prog BinOp.neq 35 (ot 38) (Operand.const Go.Value.nilIface) v40 vn).bind fun v41 =>
 condV v41 (
 some v40) (
 (ldk none (List.drop 5 v1)).bind fun v42 =>
 (ldk none (List.drop 4 v1)).bind fun v43 =>
 (bin2 Tryd.prog BinOp.andNot 3 (ot 42) (ot 44) v42 v43).bind fun v44 =>
 (bin2 Tryd.prog BinOp.neq 3 (ot 45) (oc 0) v44 (vi 0)).bind fun v45 =>
 (guardV v45 false (some V.any)).bind fun v46 =>
 (guardV v45 false ((gate v45 false (ldk none (List.drop 3 v1))).bind fun v47 =>
 some v47)).bind fun v48 =>
 (guardV v45 false ((bin2 Tryd.prog BinOp.eql 3 (ot 49) (oc 0) v48 (vi 0)).bind fun v49 =>
 some v49)).bind fun v50 =>
 (guardV v45 false (some v50)).bind fun v51 =>
 (guardV v51 true (some V.any)).bind fun v52 =>
 (guardV v51 true ((gate v51 true (ldk none (List.drop 4 v1))).bind fun v53 =>
 some v53)).bind fun v54 =>
 (guardV v51 true ((bin2 Tryd.prog BinOp.neq 3 (ot 53) (oc 0) v54 (vi 0)).bind fun v55 =>
 some v55)).bind fun v56 =>
 (guardV v45 false ((pickV v51 v56 (vb false)).bind fun v57 =>
 some v57)).bind fun v58 =>
 (pickV v45 (vb true) v58).bind fun v59 =>
 condV v59 (
 (scal1 Tryd.prog (Instr.makeInterface 143) (vi 3)).bind fun v60 =>
 some v60) (
 some vn))) := by kernel_rfl
noncomputable def t_rule_Check (a0 : T_Rule) : Option Int :=
 (gd (!((((decide (a0.Prio < 0)) || (decide (99 < a0.Prio))) || (decide (a0.Out < 0))) || (decide (4 < a0.Out)))) default (t_cube_Header a0.Set)).bind fun r39 =>
 (gd (!(((((decide (a0.Prio < 0)) || (decide (99 < a0.Prio))) || (decide (a0.Out < 0))) || (decide (4 < a0.Out))) || (!r39))) default (t_cube_Header a0.Value)).bind fun r52 =>
 if ((((((decide (a0.Prio < 0)) || (decide (99 < a0.Prio))) || (decide (a0.Out < 0))) || (decide (4 < a0.Out))) || (!r39)) || (!r52)) = true then (
 some 1) else (
 (t_cube_Check a0.Cube).bind fun r61 =>
 if (!decide (r61 = 0)) = true then (
 some r61) else (
 if ((decide ((bits .andNot .i64 a0.Value a0.Set) ≠ 0)) || ((decide (a0.Out = 0)) && (decide (a0.Set ≠ 0)))) = true then (
 some 3) else (
 some 0)))
theorem ty_rule_Check {n : Nat} (hn : bigN ≤ n) (a0 : T_Rule) : Rv (fun x : Int => (eV x)) (sem_rule_Check n [(T_Rule.e a0)]) (t_rule_Check a0) := by
  rw [eq_rule_Check]
  unfold t_rule_Check
  refine tb (x := (T_Rule.c a0)) rfl ?_
  refine tb (x := (vi a0.Prio)) (rfl) ?_
  refine tb (x := (vb (decide (a0.Prio < 0)))) (d_lss) ?_
  refine tg_f (x := V.any) (fun h4 => rfl) ?_
  refine tg_f (x := (vi a0.Prio)) (fun h6 => bind_some_eq (gate_pos (not_t h6) (rfl))) ?_
  refine tg_f (x := (vb (decide (99 < a0.Prio)))) (fun h9 => by simp only [gv_t h9]; exact bind_some_eq (d_gtr)) ?_
  refine tb (x := (vb ((decide (a0.Prio < 0)) || (decide (99 < a0.Prio))))) (pick_or (fun h9 => gv_t (not_f h9))) ?_
  refine tg_f (x := V.any) (fun h13 => rfl) ?_
  refine tg_f (x := (vi a0.Out)) (fun h15 => bind_some_eq (gate_pos (not_t h15) (rfl))) ?_
  refine tg_f (x := (vb (decide (a0.Out < 0)))) (fun h18 => by simp only [gv_t h18]; exact bind_some_eq (d_lss)) ?_
  refine tb (x := (vb (((decide (a0.Prio < 0)) || (decide (99 < a0.Prio))) || (decide (a0.Out < 0))))) (pick_or (fun h9 => gv_t (not_f h9))) ?_
  refine tg_f (x := V.any) (fun h22 => rfl) ?_
  refine tg_f (x := (vi a0.Out)) (fun h24 => bind_some_eq (gate_pos (not_t h24) (rfl))) ?_
  refine tg_f (x := (vb (decide (4 < a0.Out)))) (fun h27 => by simp only [gv_t h27]; exact bind_some_eq (d_gtr)) ?_
  refine tb (x := (vb ((((decide (a0.Prio < 0)) || (decide (99 < a0.Prio))) || (decide (a0.Out < 0))) || (decide (4 < a0.Out))))) (pick_or (fun h9 => gv_t (not_f h9))) ?_
  refine tg_f (x := V.any) (fun h31 => rfl) ?_
  refine tg_f (x := (vi a0.Set)) (fun h33 => bind_some_eq (gate_pos (not_t h33) (rfl))) ?_
  refine tgo_f (fun h36 => by simp only [gv_t h36]; exact rf_bind_some (ty_cube_Header hn a0.Set)) fun r39 => ?_
  refine tg_f (x := (vb (!r39))) (fun h40 => by simp only [gv_t h40]; exact bind_some_eq (d_not)) ?_
  refine tb (x := (vb (((((decide (a0.Prio < 0)) || (decide (99 < a0.Prio))) || (decide (a0.Out < 0))) || (decide (4 < a0.Out))) || (!r39)))) (pick_or (fun h9 => gv_t (not_f h9))) ?_
  refine tg_f (x := V.any) (fun h44 => rfl) ?_
  refine tg_f (x := (vi a0.Value)) (fun h46 => bind_some_eq (gate_pos (not_t h46) (rfl))) ?_
  refine tgo_f (fun h49 => by simp only [gv_t h49]; exact rf_bind_some (ty_cube_Header hn a0.Value)) fun r52 => ?_
  refine tg_f (x := (vb (!r52))) (fun h53 => by simp only [gv_t h53]; exact bind_some_eq (d_not)) ?_
  refine tb (x := (vb ((((((decide (a0.Prio < 0)) || (decide (99 < a0.Prio))) || (decide (a0.Out < 0))) || (decide (4 < a0.Out))) || (!r39)) || (!r52)))) (pick_or (fun h9 => gv_t (not_f h9))) ?_
  refine tcond (fun h57 => ?_) (fun h57 => ?_)
  · refine tb (x := (eV 1)) (p_mkE (by decide)) ?_
    exact rf_ret rfl
  · refine tb (x := (T_Cube.e a0.Cube)) (rfl) ?_
    refine tbo (ty_cube_Check hn a0.Cube) fun r61 => ?_
    refine tb (x := (vb (!decide (r61 = 0)))) (p_err_neq _) ?_
    refine tcond (fun h63 => ?_) (fun h63 => ?_)
    · exact rf_ret rfl
    · refine tb (x := (vi a0.Value)) (rfl) ?_
      refine tb (x := (vi a0.Set)) (rfl) ?_
      refine tb (x := (vi (bits .andNot .i64 a0.Value a0.Set))) (d_andNot) ?_
      refine tb (x := (vb (decide ((bits .andNot .i64 a0.Value a0.Set) ≠ 0)))) (d_neq) ?_
      refine tg_f (x := V.any) (fun h68 => rfl) ?_
      refine tg_f (x := (vi a0.Out)) (fun h70 => bind_some_eq (gate_pos (not_t h70) (rfl))) ?_
      refine tg_f (x := (vb (decide (a0.Out = 0)))) (fun h73 => by simp only [gv_t h73]; exact bind_some_eq (d_eql)) ?_
      refine tg_f (x := (vb (decide (a0.Out = 0)))) (fun h76 => congrArg some (gv_t h76)) ?_
      refine tg2 (x := V.any) (fun h78 => rfl) ?_
      refine tg2 (x := (vi a0.Set)) (fun h80 => bind_some_eq (gate_pos2 (and_l h80) (and_r h80) (rfl))) ?_
      refine tg2 (x := (vb (decide (a0.Set ≠ 0)))) (fun h83 => by simp only [gv_t h83]; exact bind_some_eq (d_neq)) ?_
      refine tg_f (x := (vb ((decide (a0.Out = 0)) && (decide (a0.Set ≠ 0))))) (fun h86 => by simp only [gv_t h86]; exact bind_some_eq (pick_and (fun h9 => gv_t (and_i h86 h9)))) ?_
      refine tb (x := (vb ((decide ((bits .andNot .i64 a0.Value a0.Set) ≠ 0)) || ((decide (a0.Out = 0)) && (decide (a0.Set ≠ 0)))))) (pick_or (fun h9 => gv_t (not_f h9))) ?_
      refine tcond (fun h90 => ?_) (fun h90 => ?_)
      · refine tb (x := (eV 3)) (p_mkE (by decide)) ?_
        exact rf_ret rfl
      · exact rf_ret rfl

/-! slices.IndexFunc railpoint/api.Table railpoint/api.Rule  -/
def an_slices_IndexFunc_api_Table_api_Rule : Ann := .seq (.reg 0 [] [] []) (.seq (.seq (.reg 0 [] [] []) (.blk (some []) (.loop [.s 8] (.seq (.reg 0 [] [] []) (.seq (.cond none (.no) (.no)) (.seq (.blk none (.seq (.reg 0 [] [] []) (.seq (.reg 0 [] [] []) (.cond none (.seq (.reg 0 [] [] []) (.no)) (.no))))) (.reg 0 [] [] []))))))) (.seq (.reg 0 [] [] []) (.no)))
noncomputable def sem_slices_IndexFunc_api_Table_api_Rule (E : FuncId → List V → Option V) (n : Nat) (xs : List V) : Option V := if xs.length ≤ 19 then denF Tryd.prog (envJ [] E) n Tryd.f167 an_slices_IndexFunc_api_Table_api_Rule xs else none
theorem ok_slices_IndexFunc_api_Table_api_Rule {E : FuncId → List V → Option V} (hE : EnvOk Tryd.prog DW E) (n : Nat) : SemOk Tryd.prog DW 167 (sem_slices_IndexFunc_api_Table_api_Rule E n) := fun xs y h => by
  unfold sem_slices_IndexFunc_api_Table_api_Rule at h
  split at h
  · rename_i hl
    exact denF_ok stb Tryd.func167 (by kernel_rfl) (envJ_ok semsOk_nil hE) (by rw [Tryd.ntmps167]; exact hl) h
  · cases h
theorem eq_slices_IndexFunc_api_Table_api_Rule (E : FuncId → List V → Option V) (n : Nat) (x0 x1 : V) : sem_slices_IndexFunc_api_Table_api_Rule E n [x0, x1] =
 (lenS [x0]).bind fun v1 =>
 JoinPt (fun vs2 =>
 some (vi (-1 : Int))) fun J3 =>
 (fixN (fun rec4 vs5 =>
 (bin2 Tryd.prog BinOp.lss 3 (ot 8) (ot 7) (List.getD vs5 0 V.any) v1).bind fun v6 =>
 condV v6 (
 (idxS 6 x0 (List.getD vs5 0 V.any)).bind fun v7 =>
 (ldp (some 6) v7).bind fun v8 =>
 (callV (envJ [] E) x1 [v8]).bind fun v9 =>
 condV v9 (
 some (List.getD vs5 0 V.any)) (
 (bin2 Tryd.prog BinOp.add 3 (ot 8) (oc 1) (List.getD vs5 0 V.any) (vi 1)).bind fun v10 =>
 rec4 [v10])) (
 J3 [])) n) [(vi 0)] := by kernel_rfl
noncomputable def t_slices_IndexFunc_api_Table_api_Rule (a0 : (List T_Rule)) (g1 : T_Rule → Option Bool) : Option Int :=
 join (fun (s4 : Unit) =>
 some (-1 : Int)) fun j5 =>
 loopI a0 (fun (i13 : Int) x14 (s9 : Unit) k10 =>
 (g1 x14).bind fun r22 =>
 if r22 = true then (
 some i13) else (
 k10 ())) (fun (s9 : Unit) =>
 j5 ()) ()
theorem ty_slices_IndexFunc_api_Table_api_Rule {E : FuncId → List V → Option V} {n : Nat} (hn : bigN ≤ n) (a0 : (List T_Rule)) {x1 : V} {g1 : T_Rule → Option Bool} (hg_g1 : ∀ a0, Rv (fun x : Bool => (vb x)) (callV E x1 [(T_Rule.e a0)]) (g1 a0)) : Rv (fun x : Int => (vi x)) (sem_slices_IndexFunc_api_Table_api_Rule E n [(V.sl (List.map T_Rule.c a0)), x1]) (t_slices_IndexFunc_api_Table_api_Rule a0 g1) := by
  rw [eq_slices_IndexFunc_api_Table_api_Rule]
  unfold t_slices_IndexFunc_api_Table_api_Rule
  refine tb (x := (vi (List.length a0 : Int))) (p_len _) ?_
  refine tjoin (mk := fun s4 : Unit => []) (fun s4 => ?_) fun J3 j5 h6 => ?_
  · exact rf_ret rfl
  · refine rf_loopI (mk := fun (i13 : Int) (s9 : Unit) => [(vi (i13 : Int))]) hn a0 () (fun i13 x14 h15 h16 h17 s9 rec7 k10 h11 => ?_) (fun s9 rec26 h25 => ?_)
    · refine tb (x := (vb (decide ((i13 : Int) < (List.length a0 : Int))))) (d_lss) ?_
      refine tcond_t h17 ?_
      refine tb (x := (V.ptr (T_Rule.c x14))) (p_idx_at (c := T_Rule.c) (fun _ => rfl) h15) ?_
      refine tb (x := (T_Rule.e x14)) (rfl) ?_
      refine tbo ((callV_J0 ▸ hg_g1 x14)) fun r22 => ?_
      refine tcond (fun h23 => ?_) (fun h23 => ?_)
      · exact rf_ret rfl
      · refine tb (x := (vi ((i13 : Int) + 1))) (p_incN h16) ?_
        exact h11 ()
    · refine tb (x := (vb (decide ((List.length a0 : Int) < (List.length a0 : Int))))) (d_lss) ?_
      refine tcond_f h25 ?_
      exact h6 ()

/-! slices.ContainsFunc railpoint/api.Table railpoint/api.Rule  -/
def an_slices_ContainsFunc_api_Table_api_Rule : Ann := .seq (.reg 0 [] [] []) (.seq (.reg 0 [] [] []) (.no))
noncomputable def sem_slices_ContainsFunc_api_Table_api_Rule (E : FuncId → List V → Option V) (n : Nat) (xs : List V) : Option V := if xs.length ≤ 9 then denF Tryd.prog (envJ [(167, (sem_slices_IndexFunc_api_Table_api_Rule E n))] E) n Tryd.f128 an_slices_ContainsFunc_api_Table_api_Rule xs else none
theorem ok_slices_ContainsFunc_api_Table_api_Rule {E : FuncId → List V → Option V} (hE : EnvOk Tryd.prog DW E) (n : Nat) : SemOk Tryd.prog DW 128 (sem_slices_ContainsFunc_api_Table_api_Rule E n) := fun xs y h => by
  unfold sem_slices_ContainsFunc_api_Table_api_Rule at h
  split at h
  · rename_i hl
    exact denF_ok stb Tryd.func128 (by kernel_rfl) (envJ_ok (semsOk_cons (ok_slices_IndexFunc_api_Table_api_Rule hE n) semsOk_nil) hE) (by rw [Tryd.ntmps128]; exact hl) h
  · cases h
theorem eq_slices_ContainsFunc_api_Table_api_Rule (E : FuncId → List V → Option V) (n : Nat) (x0 x1 : V) : sem_slices_ContainsFunc_api_Table_api_Rule E n [x0, x1] =
 ((sem_slices_IndexFunc_api_Table_api_Rule E n) [x0, x1]).bind fun v1 =>
 (bin2 Tryd.prog BinOp.geq 3 (ot 7) (oc 0) v1 (vi 0)).bind fun v2 =>
 some v2 := by kernel_rfl
noncomputable def t_slices_ContainsFunc_api_Table_api_Rule (a0 : (List T_Rule)) (g1 : T_Rule → Option Bool) : Option Bool :=
 (t_slices_IndexFunc_api_Table_api_Rule a0 g1).bind fun r2 =>
 some (decide (0 ≤ r2))
theorem ty_slices_ContainsFunc_api_Table_api_Rule {E : FuncId → List V → Option V} {n : Nat} (hn : bigN ≤ n) (a0 : (List T_Rule)) {x1 : V} {g1 : T_Rule → Option Bool} (hg_g1 : ∀ a0, Rv (fun x : Bool => (vb x)) (callV E x1 [(T_Rule.e a0)]) (g1 a0)) : Rv (fun x : Bool => (vb x)) (sem_slices_ContainsFunc_api_Table_api_Rule E n [(V.sl (List.map T_Rule.c a0)), x1]) (t_slices_ContainsFunc_api_Table_api_Rule a0 g1) := by
  rw [eq_slices_ContainsFunc_api_Table_api_Rule]
  unfold t_slices_ContainsFunc_api_Table_api_Rule
  refine tbo (ty_slices_IndexFunc_api_Table_api_Rule (E := E) (x1 := x1) (g1 := g1) hn a0 hg_g1) fun r2 => ?_
  refine tb (x := (vb (decide (0 ≤ r2)))) (d_geq) ?_
  exact rf_ret rfl

/-! railpoint/rule.Key -/
def an_rule_Key : Ann := .seq (.reg 0 [] [] []) (.seq (.reg 0 [] [] []) (.no))
noncomputable def sem_rule_Key (n : Nat) (xs : List V) : Option V := if xs.length ≤ 17 then denF Tryd.prog (envOf []) n Tryd.f130 an_rule_Key xs else none
theorem ok_rule_Key (n : Nat) : SemOk Tryd.prog DW 130 (sem_rule_Key n) := fun xs y h => by
  unfold sem_rule_Key at h
  split at h
  · rename_i hl
    exact denF_ok stb Tryd.func130 (by kernel_rfl) (envOf_ok semsOk_nil) (by rw [Tryd.ntmps130]; exact hl) h
  · cases h
theorem eq_rule_Key (n : Nat) (x0 x1 : V) : sem_rule_Key n [x0, x1] =
 (V.cellsO x0).bind fun v1 =>
 (V.cellsO x1).bind fun v2 =>
 (ldk none (List.drop 0 v1)).bind fun v3 =>
 (ldk none (List.drop 0 v2)).bind fun v4 =>
 (bin2 Tryd.prog BinOp.eql 3 (ot 6) (ot 8) v3 v4).bind fun v5 =>
 (guardV v5 true (some V.any)).bind fun v6 =>
 (guardV v5 true ((gate v5 true (ldk (some 2) (List.drop 1 v1))).bind fun v7 =>
 some v7)).bind fun v8 =>
 (guardV v5 true (some V.any)).bind fun v9 =>
 (guardV v5 true ((gate v5 true (ldk (some 2) (List.drop 1 v2))).bind fun v10 =>
 some v10)).bind fun v11 =>
 (guardV v5 true ((bin2 Tryd.prog BinOp.eql 58 (ot 12) (ot 14) v8 v11).bind fun v12 =>
 some v12)).bind fun v13 =>
 (pickV v5 v13 (vb false)).bind fun v14 =>
 some v14 := by kernel_rfl
noncomputable def t_rule_Key (a0 : T_Rule) (a1 : T_Rule) : Option Bool :=
 some ((decide (a0.Prio = a1.Prio)) && (decide (a0.Cube = a1.Cube)))
theorem ty_rule_Key {n : Nat} (hn : bigN ≤ n) (a0 : T_Rule) (a1 : T_Rule) : Rv (fun x : Bool => (vb x)) (sem_rule_Key n [(T_Rule.e a0), (T_Rule.e a1)]) (t_rule_Key a0 a1) := by
  rw [eq_rule_Key]
  unfold t_rule_Key
  refine tb (x := (T_Rule.c a0)) rfl ?_
  refine tb (x := (T_Rule.c a1)) rfl ?_
  refine tb (x := (vi a0.Prio)) (rfl) ?_
  refine tb (x := (vi a1.Prio)) (rfl) ?_
  refine tb (x := (vb (decide (a0.Prio = a1.Prio)))) (d_eql) ?_
  refine tg (x := V.any) (fun h6 => rfl) ?_
  refine tg (x := (T_Cube.e a0.Cube)) (fun h8 => bind_some_eq (gate_pos h8 (rfl))) ?_
  refine tg (x := V.any) (fun h11 => rfl) ?_
  refine tg (x := (T_Cube.e a1.Cube)) (fun h13 => bind_some_eq (gate_pos h13 (rfl))) ?_
  refine tg (x := (vb (decide (a0.Cube = a1.Cube)))) (fun h16 => by simp only [gv_t h16]; exact bind_some_eq (T_Cube.eql a0.Cube a1.Cube)) ?_
  refine tb (x := (vb ((decide (a0.Prio = a1.Prio)) && (decide (a0.Cube = a1.Cube))))) (pick_and (fun h9 => gv_t h9)) ?_
  exact rf_ret rfl

/-! railpoint/rule.Table$1 -/
def an_rule_Table_1 : Ann := .seq (.reg 0 [] [] []) (.seq (.reg 0 [] [] []) (.no))
noncomputable def sem_rule_Table_1 (n : Nat) (xs : List V) : Option V := if xs.length ≤ 7 then denF Tryd.prog (envOf [(130, (sem_rule_Key n))]) n Tryd.f129 an_rule_Table_1 xs else none
theorem ok_rule_Table_1 (n : Nat) : SemOk Tryd.prog DW 129 (sem_rule_Table_1 n) := fun xs y h => by
  unfold sem_rule_Table_1 at h
  split at h
  · rename_i hl
    exact denF_ok stb Tryd.func129 (by kernel_rfl) (envOf_ok (semsOk_cons (ok_rule_Key n) semsOk_nil)) (by rw [Tryd.ntmps129]; exact hl) h
  · cases h
theorem eq_rule_Table_1 (n : Nat) (x0 x1 : V) : sem_rule_Table_1 n [x0, x1] =
 (V.cellsO x0).bind fun v1 =>
 (ldk (some 6) (List.drop 0 v1)).bind fun v2 =>
 (ldp (some 6) x1).bind fun v3 =>
 ((sem_rule_Key n) [v2, v3]).bind fun v4 =>
 some v4 := by kernel_rfl
noncomputable def t_rule_Table_1 (a0 : T_Rule) (a1 : T_Rule) : Option Bool :=
 (t_rule_Key a0 a1).bind fun r5 =>
 some r5
theorem ty_rule_Table_1 {n : Nat} (hn : bigN ≤ n) (a0 : T_Rule) (a1 : T_Rule) : Rv (fun x : Bool => (vb x)) (sem_rule_Table_1 n [(T_Rule.e a0), (V.ptr (T_Rule.c a1))]) (t_rule_Table_1 a0 a1) := by
  rw [eq_rule_Table_1]
  unfold t_rule_Table_1
  refine tb (x := (T_Rule.c a0)) rfl ?_
  refine tb (x := (T_Rule.e a0)) (rfl) ?_
  refine tb (x := (T_Rule.e a1)) (rfl) ?_
  refine tbo (ty_rule_Key hn a0 a1) fun r5 => ?_
  exact rf_ret rfl

/-! railpoint/rule.Table -/
def an_rule_Table : Ann := .seq (.reg 0 [] [] []) (.seq (.seq (.reg 0 [] [] []) (.cond none (.seq (.reg 0 [] [] []) (.no)) (.no))) (.seq (.seq (.reg 0 [] [] []) (.blk (some []) (.loop [.s 12] (.seq (.reg 0 [] [] []) (.seq (.cond none (.no) (.no)) (.seq (.blk none (.seq (.reg 0 [] [] []) (.seq (.seq (.reg 0 [4] [] []) (.seq (.reg 0 [] [] []) (.cond none (.seq (.reg 0 [] [] []) (.no)) (.no)))) (.seq (.reg 0 [] [] []) (.cond none (.seq (.reg 0 [] [] []) (.no)) (.no)))))) (.reg 0 [] [] []))))))) (.seq (.reg 0 [] [] []) (.no))))
noncomputable def sem_rule_Table (n : Nat) (xs : List V) : Option V := if xs.length ≤ 29 then denF Tryd.prog (envOf [(127, (sem_rule_Check n)), (128, (sem_slices_ContainsFunc_api_Table_api_Rule (envOf [(129, (sem_rule_Table_1 n))]) n)), (129, (sem_rule_Table_1 n))]) n Tryd.f70 an_rule_Table xs else none
theorem ok_rule_Table (n : Nat) : SemOk Tryd.prog DW 70 (sem_rule_Table n) := fun xs y h => by
  unfold sem_rule_Table at h
  split at h
  · rename_i hl
    exact denF_ok stb Tryd.func70 (by kernel_rfl) (envOf_ok (semsOk_cons (ok_rule_Check n) (semsOk_cons (ok_slices_ContainsFunc_api_Table_api_Rule (envOf_ok (semsOk_cons (ok_rule_Table_1 n) semsOk_nil)) n) (semsOk_cons (ok_rule_Table_1 n) semsOk_nil)))) (by rw [Tryd.ntmps70]; exact hl) h
  · cases h
theorem eq_rule_Table (n : Nat) (x0 : V) : sem_rule_Table n [x0] =
 (lenS [x0]).bind fun v1 =>
 (bin2 Tryd.prog BinOp.gtr 3 (ot 7) (oc 12) v1 (vi 12)).bind fun v2 =>
 condV v2 (
 (scal1 Tryd.prog (Instr.makeInterface 143) (vi 4)).bind fun v3 =>
 some v3) (
 (lenS [x0]).bind fun v4 =>
 JoinPt (fun vs5 =>
 some vn) fun J6 =>
 (fixN (fun rec7 vs8 =>
 (bin2 Tryd.prog BinOp.lss 3 (ot 12) (ot 11) (List.getD vs8 0 V.any) v4).bind fun v9 =>
 condV v9 (
 (idxS 6 x0 (List.getD vs8 0 V.any)).bind fun v10 =>
 (ldp (some 6) v10).bind fun v11 =>
 (spliceV [(vi 0), (vi 0), (vi 0), (vi 0), (vi 0), (vi 0)] 0 6 v11).bind fun v12 =>
 (ldp (some 6) (V.ptr (aggL v12))).bind fun v13 =>
 ((sem_rule_Check n) [v13]).bind fun v14 =>
 (bin2 Tryd.prog BinOp.neq 35 (ot 19) (Operand.const Go.Value.nilIface) v14 vn).bind fun v15 =>
 condV v15 (
 some v14) (
 (slc (some 6) x0 none (some (List.getD vs8 0 V.any))).bind fun v16 =>
 ((sem_slices_ContainsFunc_api_Table_api_Rule (envOf [(129, (sem_rule_Table_1 n))]) n) [v16, (V.fn 129 [(V.ptr (aggL v12))])]).bind fun v17 =>
 condV v17 (
 (scal1 Tryd.prog (Instr.makeInterface 143) (vi 7)).bind fun v18 =>
 some v18) (
 (bin2 Tryd.prog BinOp.add 3 (ot 12) (oc 1) (List.getD vs8 0 V.any) (vi 1)).bind fun v19 =>
 rec7 [v19]))) (
 J6 [])) n) [(vi 0)]) := by kernel_rfl
noncomputable def t_rule_Table (a0 : (List T_Rule)) : Option Int :=
 if (decide (12 < (List.length a0 : Int))) = true then (
 some 4) else (
 join (fun (s8 : Unit) =>
 some 0) fun j9 =>
 loopI a0 (fun (i17 : Int) x18 (s13 : Unit) k14 =>
 (t_rule_Check x18).bind fun r28 =>
 if (!decide (r28 = 0)) = true then (
 some r28) else (
 (slc_hi a0 i17).bind fun r32 =>
 (t_slices_ContainsFunc_api_Table_api_Rule r32 (fun (a33 : T_Rule) => t_rule_Table_1 a33 x18)).bind fun r35 =>
 if r35 = true then (
 some 7) else (
 k14 ()))) (fun (s13 : Unit) =>
 j9 ()) ())
theorem ty_rule_Table {n : Nat} (hn : bigN ≤ n) (a0 : (List T_Rule)) : Rv (fun x : Int => (eV x)) (sem_rule_Table n [(V.sl (List.map T_Rule.c a0))]) (t_rule_Table a0) := by
  rw [eq_rule_Table]
  unfold t_rule_Table
  refine tb (x := (vi (List.length a0 : Int))) (p_len _) ?_
  refine tb (x := (vb (decide (12 < (List.length a0 : Int))))) (d_gtr) ?_
  refine tcond (fun h3 => ?_) (fun h3 => ?_)
  · refine tb (x := (eV 4)) (p_mkE (by decide)) ?_
    exact rf_ret rfl
  · refine tb (x := (vi (List.length a0 : Int))) (p_len _) ?_
    refine tjoin (mk := fun s8 : Unit => []) (fun s8 => ?_) fun J7 j9 h10 => ?_
    · exact rf_ret rfl
    · refine rf_loopI (mk := fun (i17 : Int) (s13 : Unit) => [(vi (i17 : Int))]) hn a0 () (fun i17 x18 h19 h20 h21 s13 rec11 k14 h15 => ?_) (fun s13 rec40 h39 => ?_)
      · refine tb (x := (vb (decide ((i17 : Int) < (List.length a0 : Int))))) (d_lss) ?_
        refine tcond_t h21 ?_
        refine tb (x := (V.ptr (T_Rule.c x18))) (p_idx_at (c := T_Rule.c) (fun _ => rfl) h19) ?_
        refine tb (x := (T_Rule.e x18)) (rfl) ?_
        refine tb (x := V.agg (T_Rule.c x18)) (by kernel_rfl) ?_
        refine tb (x := (T_Rule.e x18)) (rfl) ?_
        refine tbo (ty_rule_Check hn x18) fun r28 => ?_
        refine tb (x := (vb (!decide (r28 = 0)))) (p_err_neq _) ?_
        refine tcond (fun h30 => ?_) (fun h30 => ?_)
        · exact rf_ret rfl
        · refine tbo (p_slc_hi (c := T_Rule.c) (fun _ => rfl) a0 (i17 : Int)) fun r32 => ?_
          refine tbo (ty_slices_ContainsFunc_api_Table_api_Rule (E := (envOf [(129, (sem_rule_Table_1 n))])) (x1 := (V.fn 129 [(V.ptr (T_Rule.c x18))])) (g1 := (fun (a33 : T_Rule) => t_rule_Table_1 a33 x18)) hn r32 (fun a33 => ty_rule_Table_1 hn a33 x18)) fun r35 => ?_
          refine tcond (fun h36 => ?_) (fun h36 => ?_)
          · refine tb (x := (eV 7)) (p_mkE (by decide)) ?_
            exact rf_ret rfl
          · refine tb (x := (vi ((i17 : Int) + 1))) (p_incN h20) ?_
            exact h15 ()
      · refine tb (x := (vb (decide ((List.length a0 : Int) < (List.length a0 : Int))))) (d_lss) ?_
        refine tcond_f h39 ?_
        exact h10 ()

/-! railpoint/net.Check -/
def an_net_Check : Ann := .seq (.reg 0 [] [] []) (.seq (.seq (.reg 0 [] [] []) (.seq (.reg 0 [] [] []) (.cond none (.seq (.reg 0 [] [] []) (.no)) (.no)))) (.seq (.seq (.reg 0 [] [] []) (.cond none (.seq (.reg 0 [] [] []) (.no)) (.no))) (.seq (.seq (.reg 0 [] [] []) (.blk (some []) (.loop [.s 24] (.seq (.reg 0 [] [] []) (.seq (.cond none (.no) (.no)) (.seq (.blk none (.seq (.reg 0 [] [] []) (.seq (.reg 0 [] [] []) (.seq (.reg 0 [] [] []) (.cond none (.seq (.reg 0 [] [] []) (.no)) (.no)))))) (.reg 0 [] [] []))))))) (.seq (.reg 0 [] [] []) (.no)))))
noncomputable def sem_net_Check (n : Nat) (xs : List V) : Option V := if xs.length ≤ 34 then denF Tryd.prog (envOf [(78, (sem_topo_Check n)), (70, (sem_rule_Table n))]) n Tryd.f27 an_net_Check xs else none
theorem ok_net_Check (n : Nat) : SemOk Tryd.prog DW 27 (sem_net_Check n) := fun xs y h => by
  unfold sem_net_Check at h
  split at h
  · rename_i hl
    exact denF_ok stb Tryd.func27 (by kernel_rfl) (envOf_ok (semsOk_cons (ok_topo_Check n) (semsOk_cons (ok_rule_Table n) semsOk_nil))) (by rw [Tryd.ntmps27]; exact hl) h
  · cases h
theorem eq_net_Check (n : Nat) (x0 : V) : sem_net_Check n [x0] =
 (V.cellsO x0).bind fun v1 =>
 (ldk (some 3) (List.drop 0 v1)).bind fun v2 =>
 ((sem_topo_Check n) [v2]).bind fun v3 =>
 (bin2 Tryd.prog BinOp.neq 35 (ot 10) (Operand.const Go.Value.nilIface) v3 vn).bind fun v4 =>
 condV v4 (
 some v3) (
 (ldk none (List.drop 3 v1)).bind fun v5 =>
 (lenS [v5]).bind fun v6 =>
 (ldk none (List.drop 0 v1)).bind fun v7 =>
 (bin2 Tryd.prog BinOp.neq 3 (ot 15) (ot 18) v6 v7).bind fun v8 =>
 condV v8 (
 (scal1 Tryd.prog (Instr.makeInterface 143) (vi 3)).bind fun v9 =>
 some v9) (
 (ldk none (List.drop 3 v1)).bind fun v10 =>
 (lenS [v10]).bind fun v11 =>
 JoinPt (fun vs12 =>
 some vn) fun J13 =>
 (fixN (fun rec14 vs15 =>
 (bin2 Tryd.prog BinOp.lss 3 (ot 24) (ot 23) (List.getD vs15 0 V.any) v11).bind fun v16 =>
 condV v16 (
 (idxS 1 v10 (List.getD vs15 0 V.any)).bind fun v17 =>
 (ldp none v17).bind fun v18 =>
 ((sem_rule_Table n) [v18]).bind fun v19 =>
 (bin2 Tryd.prog BinOp.neq 35 (ot 30) (Operand.const Go.Value.nilIface) v19 vn).bind fun v20 =>
 condV v20 (
 some v19) (
 (bin2 Tryd.prog BinOp.add 3 (ot 24) (oc 1) (List.getD vs15 0 V.any) (vi 1)).bind fun v21 =>
 rec14 [v21])) (
 J13 [])) n) [(vi 0)])) := by kernel_rfl
noncomputable def t_net_Check (a0 : T_Net) : Option Int :=
 (t_topo_Check a0.Topo).bind fun r4 =>
 if (!decide (r4 = 0)) = true then (
 some r4) else (
 if (decide ((List.length a0.Tables : Int) ≠ a0.Topo.Switches)) = true then (
 some 3) else (
 join (fun (s17 : Unit) =>
 some 0) fun j18 =>
 loopI a0.Tables (fun (i26 : Int) x27 (s22 : Unit) k23 =>
 (t_rule_Table x27).bind fun r35 =>
 if (!decide (r35 = 0)) = true then (
 some r35) else (
 k23 ())) (fun (s22 : Unit) =>
 j18 ()) ()))
theorem ty_net_Check {n : Nat} (hn : bigN ≤ n) (a0 : T_Net) : Rv (fun x : Int => (eV x)) (sem_net_Check n [(T_Net.e a0)]) (t_net_Check a0) := by
  rw [eq_net_Check]
  unfold t_net_Check
  refine tb (x := (T_Net.c a0)) rfl ?_
  refine tb (x := (T_Topo.e a0.Topo)) (rfl) ?_
  refine tbo (ty_topo_Check hn a0.Topo) fun r4 => ?_
  refine tb (x := (vb (!decide (r4 = 0)))) (p_err_neq _) ?_
  refine tcond (fun h6 => ?_) (fun h6 => ?_)
  · exact rf_ret rfl
  · refine tb (x := (V.sl (List.map (cS T_Rule.c) a0.Tables))) (rfl) ?_
    refine tb (x := (vi (List.length a0.Tables : Int))) (p_len _) ?_
    refine tb (x := (vi a0.Topo.Switches)) (rfl) ?_
    refine tb (x := (vb (decide ((List.length a0.Tables : Int) ≠ a0.Topo.Switches)))) (d_neq) ?_
    refine tcond (fun h11 => ?_) (fun h11 => ?_)
    · refine tb (x := (eV 3)) (p_mkE (by decide)) ?_
      exact rf_ret rfl
    · refine tb (x := (V.sl (List.map (cS T_Rule.c) a0.Tables))) (rfl) ?_
      refine tb (x := (vi (List.length a0.Tables : Int))) (p_len _) ?_
      refine tjoin (mk := fun s17 : Unit => []) (fun s17 => ?_) fun J16 j18 h19 => ?_
      · exact rf_ret rfl
      · refine rf_loopI (mk := fun (i26 : Int) (s22 : Unit) => [(vi (i26 : Int))]) hn a0.Tables () (fun i26 x27 h28 h29 h30 s22 rec20 k23 h24 => ?_) (fun s22 rec40 h39 => ?_)
        · refine tb (x := (vb (decide ((i26 : Int) < (List.length a0.Tables : Int))))) (d_lss) ?_
          refine tcond_t h30 ?_
          refine tb (x := (V.ptr [(V.sl (List.map T_Rule.c x27))])) (p_idx_at (c := (cS T_Rule.c)) (fun _ => rfl) h28) ?_
          refine tb (x := (V.sl (List.map T_Rule.c x27))) (rfl) ?_
          refine tbo (ty_rule_Table hn x27) fun r35 => ?_
          refine tb (x := (vb (!decide (r35 = 0)))) (p_err_neq _) ?_
          refine tcond (fun h37 => ?_) (fun h37 => ?_)
          · exact rf_ret rfl
          · refine tb (x := (vi ((i26 : Int) + 1))) (p_incN h29) ?_
            exact h24 ()
        · refine tb (x := (vb (decide ((List.length a0.Tables : Int) < (List.length a0.Tables : Int))))) (d_lss) ?_
          refine tcond_f h39 ?_
          exact h19 ()

/-! railpoint/change.Own -/
def an_change_Own : Ann := .seq (.reg 0 [] [] [1, 2]) (.seq (.reg 10 [] [] []) (.seq (.reg 0 [] [] []) (.seq (.seq (.reg 0 [] [] []) (.blk (some [.ko 1, .ko 2, .o 3]) (.loop [.ko 1, .ko 2, .o 3, .s 25] (.seq (.reg 0 [] [] []) (.seq (.cond none (.no) (.no)) (.seq (.blk none (.seq (.reg 0 [] [] []) (.reg 0 [] [] []))) (.reg 0 [] [] []))))))) (.seq (.reg 0 [] [] []) (.seq (.reg 0 [] [] [1000038]) (.no))))))
noncomputable def sem_change_Own (n : Nat) (xs : List V) : Option V := if xs.length ≤ 39 then denM Tryd.prog (envOf [(143, (semClone 4)), (144, (semClone 3)), (95, (semClone 6))]) n Tryd.f86 an_change_Own [0] (some 0) xs else none
theorem ok_change_Own (n : Nat) : MSemOk Tryd.prog DW 86 (sem_change_Own n) := fun xs y h => by
  unfold sem_change_Own at h
  split at h
  · rename_i hl
    exact denM_ok Tryd.func86 (by kernel_rfl) (envOf_ok (semsOk_cons (sok_slices_Clone_api_Link_api_Link) (semsOk_cons (sok_slices_Clone_api_Host_api_Host) (semsOk_cons (sok_slices_Clone_api_Table_api_Rule) semsOk_nil)))) (by rw [Tryd.ntmps86]; exact hl) (by decide) h
  · cases h
theorem eq_change_Own (n : Nat) (x0 : V) : sem_change_Own n [x0] =
 (pureO x0).bind fun v1 =>
 (V.cellsO x0).bind fun v2 =>
 (some V.any).bind fun v3 =>
 (some V.any).bind fun v4 =>
 ((nodeL (V.obj v2) none 0).bind fun l5 => (ldk none (List.drop 1 l5)).bind pureO).bind fun v6 =>
 ((semClone 4) [v6]).bind fun v7 =>
 (some V.any).bind fun v8 =>
 (some V.any).bind fun v9 =>
 ((nodeL (V.obj v2) none 0).bind fun l10 => (ldk none (List.drop 2 l10)).bind pureO).bind fun v11 =>
 ((semClone 3) [v11]).bind fun v12 =>
 (some V.any).bind fun v13 =>
 (some V.any).bind fun v14 =>
 (V.cellsO v7).bind fun v15 =>
 (setV (V.obj v2) [] (Stp.mk none 1 0) 1 v15).bind fun v16 =>
 (some V.any).bind fun v17 =>
 (some V.any).bind fun v18 =>
 (V.cellsO v12).bind fun v19 =>
 (setV v16 [] (Stp.mk none 2 0) 1 v19).bind fun v20 =>
 (some V.any).bind fun v21 =>
 ((nodeL v20 none 0).bind fun l22 => (ldk none (List.drop 3 l22)).bind pureO).bind fun v23 =>
 (lenS [v23]).bind fun v24 =>
 (makeN 1 [(V.sl [])] v24 v24).bind fun v25 =>
 (some V.any).bind fun v26 =>
 ((nodeL v20 none 0).bind fun l27 => (ldk none (List.drop 3 l27)).bind pureO).bind fun v28 =>
 (lenS [v28]).bind fun v29 =>
 JoinPt (fun vs30 =>
 (some V.any).bind fun v32 =>
 (V.cellsO (List.getD vs30 0 V.any)).bind fun v33 =>
 (setV v20 [] (Stp.mk none 3 0) 1 v33).bind fun v34 =>
 (wholeO Tryd.prog 28 v34).bind fun v35 =>
 (V.cellsO v35).bind fun v36 =>
 (setV (V.obj [(vi 0), (V.sl []), (V.sl []), (V.sl [])]) [] (Stp.mk none 0 0) 4 v36).bind fun v37 =>
 (wholeO Tryd.prog 28 v37).bind fun v38 =>
 some (V.tup [v38, V.any])) fun J31 =>
 (keepT (some v20) (some v20) (keepT (some (V.obj [(vi 0), (V.sl []), (V.sl []), (V.sl [])])) (some (V.obj [(vi 0), (V.sl []), (V.sl []), (V.sl [])])) (some [v25, (vi 0)]))).bind (fixN (fun rec39 vs40 =>
 (bin2 Tryd.prog BinOp.lss 3 (ot 25) (ot 24) (List.getD vs40 1 V.any) v29).bind fun v41 =>
 condV v41 (
 (idxS 1 v28 (List.getD vs40 1 V.any)).bind fun v42 =>
 (ldp none v42).bind fun v43 =>
 ((semClone 6) [v43]).bind fun v44 =>
 ((oslR (List.getD vs40 0 V.any)).bind fun rows45 => inB (List.length rows45) (List.getD vs40 1 V.any)).bind fun v46 =>
 (V.cellsO v44).bind fun v47 =>
 (setV (List.getD vs40 0 V.any) [] (Stp.mk (some (natOf (List.getD vs40 1 V.any))) 0 1) 1 v47).bind fun v48 =>
 (bin2 Tryd.prog BinOp.add 3 (ot 25) (oc 1) (List.getD vs40 1 V.any) (vi 1)).bind fun v49 =>
 (keepT (some v20) (some v20) (keepT (some (V.obj [(vi 0), (V.sl []), (V.sl []), (V.sl [])])) (some (V.obj [(vi 0), (V.sl []), (V.sl []), (V.sl [])])) (some [v48, v49]))).bind rec39) (
 (keepT (some v20) (some v20) (keepT (some (V.obj [(vi 0), (V.sl []), (V.sl []), (V.sl [])])) (some (V.obj [(vi 0), (V.sl []), (V.sl []), (V.sl [])])) (some [(List.getD vs40 0 V.any)]))).bind J31)) n) := by kernel_rfl
noncomputable def t_change_Own (a0 : T_Net) : Option T_Net :=
 (cln a0.Topo.Links).bind fun r7 =>
 (cln a0.Topo.Hosts).bind fun r12 =>
 (omake (List.length a0.Tables : Int) (List.length a0.Tables : Int) []).bind fun r25 =>
 (loopI a0.Tables (fun (i46 : Int) x47 (s42 : (List (List T_Rule))) k43 =>
 (cln x47).bind fun r55 =>
 need (decide (0 ≤ i46) && decide (i46 < (List.length s42 : Int))) (
 (oset s42 i46 r55).bind fun r60 =>
 k43 (r60))) (fun (s42 : (List (List T_Rule))) =>
 some (s42)) (r25)).bind fun (s31 : (List (List T_Rule))) =>
 some (T_Net.mk (T_Topo.mk a0.Topo.Switches r7 r12) s31)
theorem ty_change_Own {n : Nat} (hn : bigN ≤ n) (a0 : T_Net) : Rv (fun x : T_Net => (V.tup [(V.agg [(vi x.Topo.Switches), (V.sl (List.map T_Link.c x.Topo.Links)), (V.sl (List.map T_Host.c x.Topo.Hosts)), (V.osl 1 (List.map (cS T_Rule.c) x.Tables))]), V.any])) (sem_change_Own n [(T_Net.e a0)]) (t_change_Own a0) := by
  rw [eq_change_Own]
  unfold t_change_Own
  refine tb (x := (T_Net.e a0)) rfl ?_
  refine tb (x := (T_Net.c a0)) rfl ?_
  refine tb (x := V.any) rfl ?_
  refine tb (x := V.any) rfl ?_
  refine tb (x := (V.sl (List.map T_Link.c a0.Topo.Links))) (rfl) ?_
  refine tbo (p_clone (c := T_Link.c) (fun _ => rfl) a0.Topo.Links) fun r7 => ?_
  refine tb (x := V.any) rfl ?_
  refine tb (x := V.any) rfl ?_
  refine tb (x := (V.sl (List.map T_Host.c a0.Topo.Hosts))) (rfl) ?_
  refine tbo (p_clone (c := T_Host.c) (fun _ => rfl) a0.Topo.Hosts) fun r12 => ?_
  refine tb (x := V.any) rfl ?_
  refine tb (x := V.any) rfl ?_
  refine tb (x := [(V.sl (List.map T_Link.c r7))]) rfl ?_
  refine tb (x := V.obj (T_Net.c (T_Net.mk (T_Topo.mk a0.Topo.Switches r7 a0.Topo.Hosts) a0.Tables))) (by kernel_rfl) ?_
  refine tb (x := V.any) rfl ?_
  refine tb (x := V.any) rfl ?_
  refine tb (x := [(V.sl (List.map T_Host.c r12))]) rfl ?_
  refine tb (x := V.obj (T_Net.c (T_Net.mk (T_Topo.mk a0.Topo.Switches r7 r12) a0.Tables))) (by kernel_rfl) ?_
  refine tb (x := V.any) rfl ?_
  refine tb (x := (V.sl (List.map (cS T_Rule.c) a0.Tables))) (rfl) ?_
  refine tb (x := (vi (List.length a0.Tables : Int))) (p_len _) ?_
  refine tbo (p_omake (c := (cS T_Rule.c)) (List.length a0.Tables : Int) (List.length a0.Tables : Int) [] rfl) fun r25 => ?_
  refine tb (x := V.any) rfl ?_
  refine tb (x := (V.sl (List.map (cS T_Rule.c) a0.Tables))) (rfl) ?_
  refine tb (x := (vi (List.length a0.Tables : Int))) (p_len _) ?_
  refine tjb (mk := fun s31 : (List (List T_Rule)) => [(V.osl 1 (List.map (cS T_Rule.c) s31))]) (fun J30 => ?_) fun s31 => ?_
  · refine tkeepT2 ?_ rfl
    refine tkeepT2 ?_ rfl
    refine tsome ?_
    refine rf_loopI (mk := fun (i46 : Int) (s42 : (List (List T_Rule))) => [(V.osl 1 (List.map (cS T_Rule.c) s42)), (vi (i46 : Int))]) hn a0.Tables (r25) (fun i46 x47 h48 h49 h50 s42 rec40 k43 h44 => ?_) (fun s42 rec64 h63 => ?_)
    · refine tb (x := (vb (decide ((i46 : Int) < (List.length a0.Tables : Int))))) (d_lss) ?_
      refine tcond_t h50 ?_
      refine tb (x := (V.ptr [(V.sl (List.map T_Rule.c x47))])) (p_idx_at (c := (cS T_Rule.c)) (fun _ => rfl) h48) ?_
      refine tb (x := (V.sl (List.map T_Rule.c x47))) (rfl) ?_
      refine tbo (p_clone (c := T_Rule.c) (fun _ => rfl) x47) fun r55 => ?_
      refine tneed (x := V.any) (fun h62 => p_inB s42 (i46 : Int) h62) fun h62 => ?_
      refine tb (x := (cS T_Rule.c) r55) rfl ?_
      refine tbo (p_oset (c := (cS T_Rule.c)) (fun _ => rfl) s42 (i46 : Int) r55) fun r60 => ?_
      refine tb (x := (vi ((i46 : Int) + 1))) (p_incN h49) ?_
      refine tkeepT2 ?_ rfl
      refine tkeepT2 ?_ rfl
      refine tsome ?_
      exact h44 (r60)
    · refine tb (x := (vb (decide ((List.length a0.Tables : Int) < (List.length a0.Tables : Int))))) (d_lss) ?_
      refine tcond_f h63 ?_
      refine tkeepT2 ?_ rfl
      refine tkeepT2 ?_ rfl
      refine tsome ?_
      exact rf_j rfl
  · refine tb (x := V.any) rfl ?_
    refine tb (x := [(V.osl 1 (List.map (cS T_Rule.c) s31))]) rfl ?_
    refine tb (x := (V.obj [(vi a0.Topo.Switches), (V.sl (List.map T_Link.c r7)), (V.sl (List.map T_Host.c r12)), (V.osl 1 (List.map (cS T_Rule.c) s31))])) (by kernel_rfl) ?_
    refine tb (x := (V.agg [(vi a0.Topo.Switches), (V.sl (List.map T_Link.c r7)), (V.sl (List.map T_Host.c r12)), (V.osl 1 (List.map (cS T_Rule.c) s31))])) (by kernel_rfl) ?_
    refine tb (x := [(vi a0.Topo.Switches), (V.sl (List.map T_Link.c r7)), (V.sl (List.map T_Host.c r12)), (V.osl 1 (List.map (cS T_Rule.c) s31))]) rfl ?_
    refine tb (x := (V.obj [(vi a0.Topo.Switches), (V.sl (List.map T_Link.c r7)), (V.sl (List.map T_Host.c r12)), (V.osl 1 (List.map (cS T_Rule.c) s31))])) (by kernel_rfl) ?_
    refine tb (x := (V.agg [(vi a0.Topo.Switches), (V.sl (List.map T_Link.c r7)), (V.sl (List.map T_Host.c r12)), (V.osl 1 (List.map (cS T_Rule.c) s31))])) (by kernel_rfl) ?_
    exact rf_ret rfl

/-! railpoint/change.Apply -/
def an_change_Apply : Ann := .seq (.reg 0 [] [] [2]) (.seq (.seq (.reg 0 [] [] []) (.seq (.reg 0 [] [] []) (.cond none (.seq (.reg 0 [] [] []) (.no)) (.no)))) (.seq (.seq (.reg 0 [] [] []) (.cond none (.seq (.reg 0 [] [] []) (.no)) (.no))) (.seq (.reg 0 [] [] [23]) (.seq (.seq (.reg 0 [] [] []) (.blk (some [.o 2, .b 4]) (.loop [.o 2, .b 4, .s 26] (.seq (.reg 0 [] [] []) (.seq (.cond none (.no) (.no)) (.seq (.blk none (.seq (.reg 0 [] [] []) (.seq (.seq (.reg 0 [] [] []) (.cond none (.seq (.reg 0 [] [] []) (.no)) (.no))) (.seq (.reg 17 [] [] [45]) (.seq (.seq (.reg 0 [] [] []) (.cond none (.seq (.reg 0 [] [] []) (.no)) (.no))) (.reg 0 [] [] [63])))))) (.reg 0 [] [] []))))))) (.seq (.reg 0 [2] [] []) (.no))))))
noncomputable def sem_change_Apply (n : Nat) (xs : List V) : Option V := if xs.length ≤ 71 then denF Tryd.prog (envOf [(27, (sem_net_Check n)), (86 + 1000000, (sem_change_Own n)), (87, (sem_Do n))]) n Tryd.f37 an_change_Apply xs else none
theorem ok_change_Apply (n : Nat) : SemOk Tryd.prog DW 37 (sem_change_Apply n) := fun xs y h => by
  unfold sem_change_Apply at h
  split at h
  · rename_i hl
    exact denF_ok stb Tryd.func37 (by kernel_rfl) (envOf_ok (semsOk_cons (ok_net_Check n) (semsOk_consM (ok_change_Own n) (semsOk_cons (ok_Do n) semsOk_nil)))) (by rw [Tryd.ntmps37]; exact hl) h
  · cases h
theorem eq_change_Apply (n : Nat) (x0 x1 : V) : sem_change_Apply n [x0, x1] =
 (V.cellsO x0).bind fun v1 =>
 ((nodeL (V.obj v1) none 0).bind fun l2 => (ldk (some 4) (List.drop 0 l2)).bind pureO).bind fun v3 =>
 ((sem_net_Check n) [v3]).bind fun v4 =>
 (bin2 Tryd.prog BinOp.neq 35 (ot 13) (Operand.const Go.Value.nilIface) v4 vn).bind fun v5 =>
 condV v5 (
 ((fillL [(vi 0), (V.sl []), (V.sl []), (V.sl [])] []).map V.agg).bind fun v6 =>
 (spliceV [(vi 0), (V.sl []), (V.sl []), (V.sl [])] 0 4 v6).bind fun v7 =>
 (ldk (some 4) (List.drop 0 (aggL v7))).bind fun v8 =>
 some (V.tup [v8, v4])) (
 (lenS [x1]).bind fun v9 =>
 (bin2 Tryd.prog BinOp.gtr 3 (ot 18) (oc 200) v9 (vi 200)).bind fun v10 =>
 condV v10 (
 ((fillL [(vi 0), (V.sl []), (V.sl []), (V.sl [])] []).map V.agg).bind fun v11 =>
 (scal1 Tryd.prog (Instr.makeInterface 143) (vi 4)).bind fun v12 =>
 (spliceV [(vi 0), (V.sl []), (V.sl []), (V.sl [])] 0 4 v11).bind fun v13 =>
 (ldk (some 4) (List.drop 0 (aggL v13))).bind fun v14 =>
 some (V.tup [v14, v12])) (
 ((nodeL (V.obj v1) none 0).bind fun l15 => (ldk (some 4) (List.drop 0 l15)).bind pureO).bind fun v16 =>
 ((sem_change_Own n) [v16]).bind fun z17 =>
 (V.cellsO (tupAt z17 0)).bind fun v18 =>
 (setV (V.obj v1) [] (Stp.mk none 0 0) 4 v18).bind fun v19 =>
 (lenS [x1]).bind fun v20 =>
 JoinPt (fun vs21 =>
 (some (frzP (List.getD vs21 0 V.any))).bind fun v23 =>
 (ldp (some 4) v23).bind fun v24 =>
 (spliceV (aggL (List.getD vs21 1 V.any)) 0 4 v24).bind fun v25 =>
 (ldk (some 4) (List.drop 0 (aggL v25))).bind fun v26 =>
 some (V.tup [v26, vn])) fun J22 =>
 (fixN (fun rec27 vs28 =>
 (bin2 Tryd.prog BinOp.lss 3 (ot 26) (ot 25) (List.getD vs28 2 V.any) v20).bind fun v29 =>
 condV v29 (
 (idxS 8 x1 (List.getD vs28 2 V.any)).bind fun v30 =>
 (ldp (some 8) v30).bind fun v31 =>
 (spliceV [(vi 0), (vb false), (vi 0), (vi 0), (vi 0), (vi 0), (vi 0), (vi 0)] 0 8 v31).bind fun v32 =>
 (ldk none (List.drop 0 (aggL v32))).bind fun v33 =>
 (bin2 Tryd.prog BinOp.lss 3 (ot 31) (oc 1) v33 (vi 1)).bind fun v34 =>
 (guardV v34 false (some V.any)).bind fun v35 =>
 (guardV v34 false ((gate v34 false (ldk none (List.drop 0 (aggL v32)))).bind fun v36 =>
 some v36)).bind fun v37 =>
 (guardV v34 false (some V.any)).bind fun v38 =>
 (guardV v34 false (gate v34 false (some V.any))).bind fun v39 =>
 (guardV v34 false ((gate v34 false (gate v34 false ((nodeL (List.getD vs28 0 V.any) none 0).bind fun l40 => (ldk none (List.drop 0 l40)).bind pureO))).bind fun v41 =>
 some v41)).bind fun v42 =>
 (guardV v34 false ((bin2 Tryd.prog BinOp.gtr 3 (ot 35) (ot 38) v37 v42).bind fun v43 =>
 some v43)).bind fun v44 =>
 (pickV v34 (vb true) v44).bind fun v45 =>
 condV v45 (
 ((fillL [(vi 0), (V.sl []), (V.sl []), (V.sl [])] []).map V.agg).bind fun v46 =>
 (scal1 Tryd.prog (Instr.makeInterface 143) (vi 1)).bind fun v47 =>
 (spliceV (aggL (List.getD vs28 1 V.any)) 0 4 v46).bind fun v48 =>
 (ldk (some 4) (List.drop 0 (aggL v48))).bind fun v49 =>
 some (V.tup [v49, v47])) (
 (some V.any).bind fun v50 =>
 ((nodeL (List.getD vs28 0 V.any) none 0).bind fun l51 => (l51[3]?).bind ownO).bind fun v52 =>
 (ldk none (List.drop 0 (aggL v32))).bind fun v53 =>
 (bin2 Tryd.prog BinOp.sub 3 (ot 47) (oc 1) v53 (vi 1)).bind fun v54 =>
 (((getV (List.getD vs28 0 V.any) [(Stp.mk none 3 0)]).bind oslR).bind fun rows55 => inB (List.length rows55) v54).bind fun v56 =>
 (((getV (List.getD vs28 0 V.any) [(Stp.mk none 3 0)]).bind fun y => nodeL y (some (natOf v54)) 1).bind fun l57 => (ldk none (List.drop 0 l57)).bind pureO).bind fun v58 =>
 (ldk none (List.drop 1 (aggL v32))).bind fun v59 =>
 (ldk (some 6) (List.drop 2 (aggL v32))).bind fun v60 =>
 ((sem_Do n) [v58, v59, v60]).bind fun v61 =>
 (extractV v61 0).bind fun v62 =>
 (extractV v61 1).bind fun v63 =>
 (bin2 Tryd.prog BinOp.neq 35 (ot 58) (Operand.const Go.Value.nilIface) v63 vn).bind fun v64 =>
 condV v64 (
 ((fillL [(vi 0), (V.sl []), (V.sl []), (V.sl [])] []).map V.agg).bind fun v65 =>
 (spliceV (aggL (List.getD vs28 1 V.any)) 0 4 v65).bind fun v66 =>
 (ldk (some 4) (List.drop 0 (aggL v66))).bind fun v67 =>
 some (V.tup [v67, v63])) (
 (some V.any).bind fun v68 =>
 ((nodeL (List.getD vs28 0 V.any) none 0).bind fun l69 => (l69[3]?).bind ownO).bind fun v70 =>
 (ldk none (List.drop 0 (aggL v32))).bind fun v71 =>
 (bin2 Tryd.prog BinOp.sub 3 (ot 65) (oc 1) v71 (vi 1)).bind fun v72 =>
 (((getV (List.getD vs28 0 V.any) [(Stp.mk none 3 0)]).bind oslR).bind fun rows73 => inB (List.length rows73) v72).bind fun v74 =>
 (V.cellsO v62).bind fun v75 =>
 (setV (List.getD vs28 0 V.any) [(Stp.mk none 3 0)] (Stp.mk (some (natOf v72)) 0 1) 1 v75).bind fun v76 =>
 (bin2 Tryd.prog BinOp.add 3 (ot 26) (oc 1) (List.getD vs28 2 V.any) (vi 1)).bind fun v77 =>
 rec27 [v76, (V.agg (aggL (List.getD vs28 1 V.any))), v77]))) (
 J22 [(List.getD vs28 0 V.any), (V.agg (aggL (List.getD vs28 1 V.any)))])) n) [v19, (V.agg [(vi 0), (V.sl []), (V.sl []), (V.sl [])]), (vi 0)])) := by kernel_rfl
noncomputable def t_change_Apply (a0 : T_Net) (a1 : (List T_Op)) : Option (T_Net × Int) :=
 (t_net_Check a0).bind fun r4 =>
 if (!decide (r4 = 0)) = true then (
 some ((T_Net.mk (T_Topo.mk 0 [] []) []), r4)) else (
 if (decide (200 < (List.length a1 : Int))) = true then (
 some ((T_Net.mk (T_Topo.mk 0 [] []) []), 4)) else (
 (t_change_Own a0).bind fun r19 =>
 join (fun (s25 : (T_Net × T_Net)) =>
 some (s25.1, 0)) fun j26 =>
 loopI a1 (fun (i38 : Int) x39 (s34 : T_Net) k35 =>
 if ((decide (x39.Switch < 1)) || (decide (s34.Topo.Switches < x39.Switch))) = true then (
 some ((T_Net.mk (T_Topo.mk 0 [] []) []), 1)) else (
 need (decide (0 ≤ (wr (x39.Switch - 1))) && decide ((wr (x39.Switch - 1)) < (List.length s34.Tables : Int))) (
 (idx s34.Tables (wr (x39.Switch - 1))).bind fun r75 =>
 (t_table_Do r75 x39.Add x39.Rule).bind fun r80 =>
 if (!decide (r80.2 = 0)) = true then (
 some ((T_Net.mk (T_Topo.mk 0 [] []) []), r80.2)) else (
 need (decide (0 ≤ (wr (x39.Switch - 1))) && decide ((wr (x39.Switch - 1)) < (List.length s34.Tables : Int))) (
 (oset s34.Tables (wr (x39.Switch - 1)) r80.1).bind fun r94 =>
 k35 (T_Net.mk s34.Topo r94)))))) (fun (s34 : T_Net) =>
 j26 (s34, (T_Net.mk (T_Topo.mk 0 [] []) []))) (r19)))
theorem ty_change_Apply {n : Nat} (hn : bigN ≤ n) (a0 : T_Net) (a1 : (List T_Op)) : Rv (fun x : (T_Net × Int) => V.tup [(T_Net.e x.1), (eV x.2)]) (sem_change_Apply n [(T_Net.e a0), (V.sl (List.map T_Op.c a1))]) (t_change_Apply a0 a1) := by
  rw [eq_change_Apply]
  unfold t_change_Apply
  refine tb (x := (T_Net.c a0)) rfl ?_
  refine tb (x := (T_Net.e a0)) (rfl) ?_
  refine tbo (ty_net_Check hn a0) fun r4 => ?_
  refine tb (x := (vb (!decide (r4 = 0)))) (p_err_neq _) ?_
  refine tcond (fun h6 => ?_) (fun h6 => ?_)
  · refine tb (x := (T_Net.e (T_Net.mk (T_Topo.mk 0 [] []) []))) (by kernel_rfl) ?_
    refine tb (x := V.agg (T_Net.c (T_Net.mk (T_Topo.mk 0 [] []) []))) (by kernel_rfl) ?_
    refine tb (x := (T_Net.e (T_Net.mk (T_Topo.mk 0 [] []) []))) rfl ?_
    exact rf_ret rfl
  · refine tb (x := (vi (List.length a1 : Int))) (p_len _) ?_
    refine tb (x := (vb (decide (200 < (List.length a1 : Int))))) (d_gtr) ?_
    refine tcond (fun h12 => ?_) (fun h12 => ?_)
    · refine tb (x := (T_Net.e (T_Net.mk (T_Topo.mk 0 [] []) []))) (by kernel_rfl) ?_
      refine tb (x := (eV 4)) (p_mkE (by decide)) ?_
      refine tb (x := V.agg (T_Net.c (T_Net.mk (T_Topo.mk 0 [] []) []))) (by kernel_rfl) ?_
      refine tb (x := (T_Net.e (T_Net.mk (T_Topo.mk 0 [] []) []))) rfl ?_
      exact rf_ret rfl
    · refine tb (x := (T_Net.e a0)) (rfl) ?_
      refine tbo (ty_change_Own hn a0) fun r19 => ?_
      refine tb (x := [(vi r19.Topo.Switches), (V.sl (List.map T_Link.c r19.Topo.Links)), (V.sl (List.map T_Host.c r19.Topo.Hosts)), (V.osl 1 (List.map (cS T_Rule.c) r19.Tables))]) rfl ?_
      refine tb (x := (V.obj [(vi r19.Topo.Switches), (V.sl (List.map T_Link.c r19.Topo.Links)), (V.sl (List.map T_Host.c r19.Topo.Hosts)), (V.osl 1 (List.map (cS T_Rule.c) r19.Tables))])) (by kernel_rfl) ?_
      refine tb (x := (vi (List.length a1 : Int))) (p_len _) ?_
      refine tjoin (mk := fun s25 : (T_Net × T_Net) => [(V.obj [(vi s25.1.Topo.Switches), (V.sl (List.map T_Link.c s25.1.Topo.Links)), (V.sl (List.map T_Host.c s25.1.Topo.Hosts)), (V.osl 1 (List.map (cS T_Rule.c) s25.1.Tables))]), (V.agg (T_Net.c s25.2))]) (fun s25 => ?_) fun J24 j26 h27 => ?_
      · refine tb (x := (V.ptr (T_Net.c s25.1))) (p_frzP (p_fzc rfl (p_fzc rfl (p_fzc rfl (p_fzc (p_frzl (c' := (cS T_Rule.c)) (fun _ => rfl) _) p_fz0))))) ?_
        refine tb (x := (T_Net.e s25.1)) (rfl) ?_
        refine tb (x := V.agg (T_Net.c s25.1)) (by kernel_rfl) ?_
        refine tb (x := (T_Net.e s25.1)) rfl ?_
        exact rf_ret rfl
      · refine rf_loopI (mk := fun (i38 : Int) (s34 : T_Net) => [(V.obj [(vi s34.Topo.Switches), (V.sl (List.map T_Link.c s34.Topo.Links)), (V.sl (List.map T_Host.c s34.Topo.Hosts)), (V.osl 1 (List.map (cS T_Rule.c) s34.Tables))]), (V.agg (T_Net.c (T_Net.mk (T_Topo.mk 0 [] []) []))), (vi (i38 : Int))]) hn a1 (r19) (fun i38 x39 h40 h41 h42 s34 rec32 k35 h36 => ?_) (fun s34 rec97 h96 => ?_)
        · refine tb (x := (vb (decide ((i38 : Int) < (List.length a1 : Int))))) (d_lss) ?_
          refine tcond_t h42 ?_
          refine tb (x := (V.ptr (T_Op.c x39))) (p_idx_at (c := T_Op.c) (fun _ => rfl) h40) ?_
          refine tb (x := (T_Op.e x39)) (rfl) ?_
          refine tb (x := V.agg (T_Op.c x39)) (by kernel_rfl) ?_
          refine tb (x := (vi x39.Switch)) (rfl) ?_
          refine tb (x := (vb (decide (x39.Switch < 1)))) (d_lss) ?_
          refine tg_f (x := V.any) (fun h49 => rfl) ?_
          refine tg_f (x := (vi x39.Switch)) (fun h51 => bind_some_eq (gate_pos (not_t h51) (rfl))) ?_
          refine tg_f (x := V.any) (fun h54 => rfl) ?_
          refine tg_f (x := V.any) (fun h56 => by first | exact gate_pos (not_t h56) (rfl) | (simp only [gv_t h56]; exact gate_pos (not_t h56) (rfl))) ?_
          refine tg_f (x := (vi s34.Topo.Switches)) (fun h58 => by first | exact bind_some_eq (gate_pos (not_t h58) (gate_pos (not_t h58) (rfl))) | (simp only [gv_t h58]; exact bind_some_eq (gate_pos (not_t h58) (gate_pos (not_t h58) (rfl))))) ?_
          refine tg_f (x := (vb (decide (s34.Topo.Switches < x39.Switch)))) (fun h61 => by simp only [gv_t h61]; exact bind_some_eq (d_gtr)) ?_
          refine tb (x := (vb ((decide (x39.Switch < 1)) || (decide (s34.Topo.Switches < x39.Switch))))) (pick_or (fun h9 => gv_t (not_f h9))) ?_
          refine tcond (fun h65 => ?_) (fun h65 => ?_)
          · refine tb (x := (T_Net.e (T_Net.mk (T_Topo.mk 0 [] []) []))) (by kernel_rfl) ?_
            refine tb (x := (eV 1)) (p_mkE (by decide)) ?_
            refine tb (x := V.agg (T_Net.c (T_Net.mk (T_Topo.mk 0 [] []) []))) (by kernel_rfl) ?_
            refine tb (x := (T_Net.e (T_Net.mk (T_Topo.mk 0 [] []) []))) rfl ?_
            exact rf_ret rfl
          · refine tb (x := V.any) rfl ?_
            refine tb (x := V.any) rfl ?_
            refine tb (x := (vi x39.Switch)) (rfl) ?_
            refine tb (x := (vi (wr (x39.Switch - 1)))) (d_sub) ?_
            refine p_asc ?_
            refine p_asc ?_
            refine p_inF (y := (V.osl 1 (List.map (cS T_Rule.c) s34.Tables))) rfl ?_
            refine p_in0 ?_
            refine p_cas ?_
            refine tneed (x := V.any) (fun h74 => p_inB (c := (cS T_Rule.c)) (k := 1) s34.Tables (wr (x39.Switch - 1)) h74) fun h74 => ?_
            refine p_asc ?_
            refine p_asc ?_
            refine p_inF (y := (V.osl 1 (List.map (cS T_Rule.c) s34.Tables))) rfl ?_
            refine p_in0 ?_
            refine p_cas ?_
            refine tbo (p_oload (e1 := fun x : (List T_Rule) => (V.sl (List.map T_Rule.c x))) (c := (cS T_Rule.c)) (fun _ => rfl) s34.Tables (wr (x39.Switch - 1)) (fun _ => rfl)) fun r75 => ?_
            refine tb (x := (vb x39.Add)) (rfl) ?_
            refine tb (x := (T_Rule.e x39.Rule)) (rfl) ?_
            refine tbo (ty_table_Do r75 x39.Add x39.Rule) fun r80 => ?_
            refine tb (x := (V.sl (List.map T_Rule.c r80.1))) (rfl) ?_
            refine tb (x := (eV r80.2)) (rfl) ?_
            refine tb (x := (vb (!decide (r80.2 = 0)))) (p_err_neq _) ?_
            refine tcond (fun h84 => ?_) (fun h84 => ?_)
            · refine tb (x := (T_Net.e (T_Net.mk (T_Topo.mk 0 [] []) []))) (by kernel_rfl) ?_
              refine tb (x := V.agg (T_Net.c (T_Net.mk (T_Topo.mk 0 [] []) []))) (by kernel_rfl) ?_
              refine tb (x := (T_Net.e (T_Net.mk (T_Topo.mk 0 [] []) []))) rfl ?_
              exact rf_ret rfl
            · refine tb (x := V.any) rfl ?_
              refine tb (x := V.any) rfl ?_
              refine tb (x := (vi x39.Switch)) (rfl) ?_
              refine tb (x := (vi (wr (x39.Switch - 1)))) (d_sub) ?_
              refine p_asc ?_
              refine p_asc ?_
              refine p_inF (y := (V.osl 1 (List.map (cS T_Rule.c) s34.Tables))) rfl ?_
              refine p_in0 ?_
              refine p_cas ?_
              refine tneed (x := V.any) (fun h92 => p_inB (c := (cS T_Rule.c)) (k := 1) s34.Tables (wr (x39.Switch - 1)) h92) fun h92 => ?_
              refine tb (x := (cS T_Rule.c) r80.1) rfl ?_
              refine tbo (p_setF (e1 := fun a => (V.osl 1 (List.map (cS T_Rule.c) a))) (y := (V.osl 1 (List.map (cS T_Rule.c) s34.Tables))) rfl (p_oset (c := (cS T_Rule.c)) (fun _ => rfl) s34.Tables (wr (x39.Switch - 1)) r80.1)) fun r94 => ?_
              refine tb (x := (vi ((i38 : Int) + 1))) (p_incN h41) ?_
              exact h36 (T_Net.mk s34.Topo r94)
        · refine tb (x := (vb (decide ((List.length a1 : Int) < (List.length a1 : Int))))) (d_lss) ?_
          refine tcond_f h96 ?_
          exact h27 (s34, (T_Net.mk (T_Topo.mk 0 [] []) []))

/-! railpoint/change.Check -/
def an_change_Check : Ann := .seq (.reg 0 [] [] []) (.seq (.reg 0 [] [] []) (.seq (.reg 0 [] [] []) (.no)))
noncomputable def sem_change_Check (n : Nat) (xs : List V) : Option V := if xs.length ≤ 14 then denF Tryd.prog (envOf [(37, (sem_change_Apply n))]) n Tryd.f38 an_change_Check xs else none
theorem ok_change_Check (n : Nat) : SemOk Tryd.prog DW 38 (sem_change_Check n) := fun xs y h => by
  unfold sem_change_Check at h
  split at h
  · rename_i hl
    exact denF_ok stb Tryd.func38 (by kernel_rfl) (envOf_ok (semsOk_cons (ok_change_Apply n) semsOk_nil)) (by rw [Tryd.ntmps38]; exact hl) h
  · cases h
theorem eq_change_Check (n : Nat) (x0 x1 : V) : sem_change_Check n [x0, x1] =
 (V.cellsO x0).bind fun v1 =>
 (ldk (some 4) (List.drop 0 v1)).bind fun v2 =>
 ((sem_change_Apply n) [v2, x1]).bind fun v3 =>
 (extractV v3 0).bind fun v4 =>
 (extractV v3 1).bind fun v5 =>
 (spliceV [(vi 0), (V.sl []), (V.sl []), (V.sl [])] 0 4 v4).bind fun v6 =>
 some v5 := by kernel_rfl
noncomputable def t_change_Check (a0 : T_Net) (a1 : (List T_Op)) : Option Int :=
 (t_change_Apply a0 a1).bind fun r4 =>
 some r4.2
theorem ty_change_Check {n : Nat} (hn : bigN ≤ n) (a0 : T_Net) (a1 : (List T_Op)) : Rv (fun x : Int => (eV x)) (sem_change_Check n [(T_Net.e a0), (V.sl (List.map T_Op.c a1))]) (t_change_Check a0 a1) := by
  rw [eq_change_Check]
  unfold t_change_Check
  refine tb (x := (T_Net.c a0)) rfl ?_
  refine tb (x := (T_Net.e a0)) (rfl) ?_
  refine tbo (ty_change_Apply hn a0 a1) fun r4 => ?_
  refine tb (x := (T_Net.e r4.1)) (rfl) ?_
  refine tb (x := (eV r4.2)) (rfl) ?_
  refine tb (x := V.agg (T_Net.c r4.1)) (by kernel_rfl) ?_
  exact rf_ret rfl

/-! railpoint/railsame.Topo -/
def an_railsame_Topo : Ann := .seq (.reg 0 [] [] []) (.seq (.seq (.reg 0 [] [] []) (.cond none (.seq (.reg 0 [] [] []) (.no)) (.no))) (.seq (.seq (.reg 0 [] [] []) (.blk (some [.kb 2, .kb 3]) (.loop [.kb 2, .kb 3, .s 5] (.seq (.seq (.reg 0 [] [] []) (.cond none (.no) (.no))) (.seq (.blk none (.seq (.reg 11 [] [] []) (.cond none (.seq (.reg 0 [] [] []) (.no)) (.no)))) (.reg 0 [] [] [])))))) (.seq (.seq (.reg 0 [] [] []) (.blk (some []) (.loop [.kb 2, .kb 3, .s 6] (.seq (.seq (.reg 0 [] [] []) (.cond none (.no) (.no))) (.seq (.blk none (.seq (.reg 11 [] [] []) (.cond none (.seq (.reg 0 [] [] []) (.no)) (.no)))) (.reg 0 [] [] [])))))) (.seq (.reg 0 [] [] []) (.no)))))
noncomputable def sem_railsame_Topo (n : Nat) (xs : List V) : Option V := if xs.length ≤ 66 then denF Tryd.prog (envOf []) n Tryd.f88 an_railsame_Topo xs else none
theorem ok_railsame_Topo (n : Nat) : SemOk Tryd.prog DW 88 (sem_railsame_Topo n) := fun xs y h => by
  unfold sem_railsame_Topo at h
  split at h
  · rename_i hl
    exact denF_ok stb Tryd.func88 (by kernel_rfl) (envOf_ok semsOk_nil) (by rw [Tryd.ntmps88]; exact hl) h
  · cases h
theorem eq_railsame_Topo (n : Nat) (x0 x1 : V) : sem_railsame_Topo n [x0, x1] =
 (V.cellsO x0).bind fun v1 =>
 (V.cellsO x1).bind fun v2 =>
 (ldk none (List.drop 0 v1)).bind fun v3 =>
 (ldk none (List.drop 0 v2)).bind fun v4 =>
 (bin2 Tryd.prog BinOp.neq 3 (ot 8) (ot 10) v3 v4).bind fun v5 =>
 (guardV v5 false (some V.any)).bind fun v6 =>
 (guardV v5 false ((gate v5 false (ldk none (List.drop 1 v1))).bind fun v7 =>
 some v7)).bind fun v8 =>
 (guardV v5 false ((lenS [v8]).bind fun v9 =>
 some v9)).bind fun v10 =>
 (guardV v5 false (some V.any)).bind fun v11 =>
 (guardV v5 false ((gate v5 false (ldk none (List.drop 1 v2))).bind fun v12 =>
 some v12)).bind fun v13 =>
 (guardV v5 false ((lenS [v13]).bind fun v14 =>
 some v14)).bind fun v15 =>
 (guardV v5 false ((bin2 Tryd.prog BinOp.neq 3 (ot 15) (ot 18) v10 v15).bind fun v16 =>
 some v16)).bind fun v17 =>
 (pickV v5 (vb true) v17).bind fun v18 =>
 (guardV v18 false (some V.any)).bind fun v19 =>
 (guardV v18 false ((gate v18 false (ldk none (List.drop 2 v1))).bind fun v20 =>
 some v20)).bind fun v21 =>
 (guardV v18 false ((lenS [v21]).bind fun v22 =>
 some v22)).bind fun v23 =>
 (guardV v18 false (some V.any)).bind fun v24 =>
 (guardV v18 false ((gate v18 false (ldk none (List.drop 2 v2))).bind fun v25 =>
 some v25)).bind fun v26 =>
 (guardV v18 false ((lenS [v26]).bind fun v27 =>
 some v27)).bind fun v28 =>
 (guardV v18 false ((bin2 Tryd.prog BinOp.neq 3 (ot 24) (ot 27) v23 v28).bind fun v29 =>
 some v29)).bind fun v30 =>
 (pickV v18 (vb true) v30).bind fun v31 =>
 condV v31 (
 some (vb false)) (
 JoinPt (fun vs32 =>
 JoinPt (fun vs34 =>
 some (vb true)) fun J35 =>
 (keepO (some v1) (some v1) (keepO (some v2) (some v2) (some [(vi 0)]))).bind (fixN (fun rec36 vs37 =>
 (ldk none (List.drop 2 v1)).bind fun v38 =>
 (lenS [v38]).bind fun v39 =>
 (bin2 Tryd.prog BinOp.lss 3 (ot 48) (ot 51) (List.getD vs37 0 V.any) v39).bind fun v40 =>
 condV v40 (
 (ldk none (List.drop 2 v1)).bind fun v41 =>
 (idxS 3 v41 (List.getD vs37 0 V.any)).bind fun v42 =>
 (ldp (some 3) v42).bind fun v43 =>
 (ldk none (List.drop 2 v2)).bind fun v44 =>
 (idxS 3 v44 (List.getD vs37 0 V.any)).bind fun v45 =>
 (ldp (some 3) v45).bind fun v46 =>
 (bin2 Tryd.prog BinOp.neq 74 (ot 59) (ot 64) v43 v46).bind fun v47 =>
 condV v47 (
 some (vb false)) (
 (bin2 Tryd.prog BinOp.add 3 (ot 53) (oc 1) (List.getD vs37 0 V.any) (vi 1)).bind fun v48 =>
 (keepO (some v1) (some v1) (keepO (some v2) (some v2) (some [v48]))).bind rec36)) (
 J35 [])) n)) fun J33 =>
 (keepO (some v1) (some v1) (keepO (some v2) (some v2) (some [(vi 0)]))).bind (fixN (fun rec49 vs50 =>
 (ldk none (List.drop 1 v1)).bind fun v51 =>
 (lenS [v51]).bind fun v52 =>
 (bin2 Tryd.prog BinOp.lss 3 (ot 30) (ot 33) (List.getD vs50 0 V.any) v52).bind fun v53 =>
 condV v53 (
 (ldk none (List.drop 1 v1)).bind fun v54 =>
 (idxS 4 v54 (List.getD vs50 0 V.any)).bind fun v55 =>
 (ldp (some 4) v55).bind fun v56 =>
 (ldk none (List.drop 1 v2)).bind fun v57 =>
 (idxS 4 v57 (List.getD vs50 0 V.any)).bind fun v58 =>
 (ldp (some 4) v58).bind fun v59 =>
 (bin2 Tryd.prog BinOp.neq 148 (ot 41) (ot 46) v56 v59).bind fun v60 =>
 condV v60 (
 some (vb false)) (
 (bin2 Tryd.prog BinOp.add 3 (ot 35) (oc 1) (List.getD vs50 0 V.any) (vi 1)).bind fun v61 =>
 (keepO (some v1) (some v1) (keepO (some v2) (some v2) (some [v61]))).bind rec49)) (
 (keepO (some v1) (some v1) (keepO (some v2) (some v2) (some []))).bind J33)) n)) := by kernel_rfl
noncomputable def t_railsame_Topo (a0 : T_Topo) (a1 : T_Topo) : Option Bool :=
 (some (((decide (a0.Switches ≠ a1.Switches)) || (decide ((List.length a0.Links : Int) ≠ (List.length a1.Links : Int)))) || (decide ((List.length a0.Hosts : Int) ≠ (List.length a1.Hosts : Int))))).bind fun r46 =>
 if r46 = true then (
 some false) else (
 join (fun (s50 : Unit) =>
 join (fun (s55 : Unit) =>
 some true) fun j56 =>
 loopI a0.Hosts (fun (i64 : Int) x65 (s60 : Unit) k61 =>
 (idx a1.Hosts i64).bind fun r77 =>
 if (!decide (x65 = r77)) = true then (
 some false) else (
 k61 ())) (fun (s60 : Unit) =>
 j56 ()) ()) fun j51 =>
 loopI a0.Links (fun (i93 : Int) x94 (s89 : Unit) k90 =>
 (idx a1.Links i93).bind fun r106 =>
 if (!decide (x94 = r106)) = true then (
 some false) else (
 k90 ())) (fun (s89 : Unit) =>
 j51 ()) ())
theorem ty_railsame_Topo {n : Nat} (hn : bigN ≤ n) (a0 : T_Topo) (a1 : T_Topo) : Rv (fun x : Bool => (vb x)) (sem_railsame_Topo n [(T_Topo.e a0), (T_Topo.e a1)]) (t_railsame_Topo a0 a1) := by
  rw [eq_railsame_Topo]
  unfold t_railsame_Topo
  refine tb (x := (T_Topo.c a0)) rfl ?_
  refine tb (x := (T_Topo.c a1)) rfl ?_
  refine tb (x := (vi a0.Switches)) (rfl) ?_
  refine tb (x := (vi a1.Switches)) (rfl) ?_
  refine tb (x := (vb (decide (a0.Switches ≠ a1.Switches)))) (d_neq) ?_
  refine tg_f (x := V.any) (fun h6 => rfl) ?_
  refine tg_f (x := (V.sl (List.map T_Link.c a0.Links))) (fun h8 => bind_some_eq (gate_pos (not_t h8) (rfl))) ?_
  refine tg_f (x := (vi (List.length a0.Links : Int))) (fun h11 => by simp only [gv_t h11]; exact bind_some_eq (p_len _)) ?_
  refine tg_f (x := V.any) (fun h14 => rfl) ?_
  refine tg_f (x := (V.sl (List.map T_Link.c a1.Links))) (fun h16 => bind_some_eq (gate_pos (not_t h16) (rfl))) ?_
  refine tg_f (x := (vi (List.length a1.Links : Int))) (fun h19 => by simp only [gv_t h19]; exact bind_some_eq (p_len _)) ?_
  refine tg_f (x := (vb (decide ((List.length a0.Links : Int) ≠ (List.length a1.Links : Int))))) (fun h22 => by simp only [gv_t h22]; exact bind_some_eq (d_neq)) ?_
  refine tb (x := (vb ((decide (a0.Switches ≠ a1.Switches)) || (decide ((List.length a0.Links : Int) ≠ (List.length a1.Links : Int)))))) (pick_or (fun h9 => gv_t (not_f h9))) ?_
  refine tg_f (x := V.any) (fun h26 => rfl) ?_
  refine tg_f (x := (V.sl (List.map T_Host.c a0.Hosts))) (fun h28 => bind_some_eq (gate_pos (not_t h28) (rfl))) ?_
  refine tg_f (x := (vi (List.length a0.Hosts : Int))) (fun h31 => by simp only [gv_t h31]; exact bind_some_eq (p_len _)) ?_
  refine tg_f (x := V.any) (fun h34 => rfl) ?_
  refine tg_f (x := (V.sl (List.map T_Host.c a1.Hosts))) (fun h36 => bind_some_eq (gate_pos (not_t h36) (rfl))) ?_
  refine tg_f (x := (vi (List.length a1.Hosts : Int))) (fun h39 => by simp only [gv_t h39]; exact bind_some_eq (p_len _)) ?_
  refine tg_f (x := (vb (decide ((List.length a0.Hosts : Int) ≠ (List.length a1.Hosts : Int))))) (fun h42 => by simp only [gv_t h42]; exact bind_some_eq (d_neq)) ?_
  refine tbo (e1 := fun x : Bool => (vb x)) (rf_eq (pick_or (fun h9 => gv_t (not_f h9))) rfl) fun r46 => ?_
  refine tcond (fun h47 => ?_) (fun h47 => ?_)
  · exact rf_ret rfl
  · refine tjoin (mk := fun s50 : Unit => []) (fun s50 => ?_) fun J49 j51 h52 => ?_
    · refine tjoin (mk := fun s55 : Unit => []) (fun s55 => ?_) fun J54 j56 h57 => ?_
      · exact rf_ret rfl
      · refine tkeepO2 ?_ rfl
        refine tkeepO2 ?_ rfl
        refine tsome ?_
        refine rf_loopI (mk := fun (i64 : Int) (s60 : Unit) => [(vi (i64 : Int))]) hn a0.Hosts () (fun i64 x65 h66 h67 h68 s60 rec58 k61 h62 => ?_) (fun s60 rec83 h82 => ?_)
        · refine tb (x := (V.sl (List.map T_Host.c a0.Hosts))) (rfl) ?_
          refine tb (x := (vi (List.length a0.Hosts : Int))) (p_len _) ?_
          refine tb (x := (vb (decide ((i64 : Int) < (List.length a0.Hosts : Int))))) (d_lss) ?_
          refine tcond_t h68 ?_
          refine tb (x := (V.sl (List.map T_Host.c a0.Hosts))) (rfl) ?_
          refine tb (x := (V.ptr (T_Host.c x65))) (p_idx_at (c := T_Host.c) (fun _ => rfl) h66) ?_
          refine tb (x := (T_Host.e x65)) (rfl) ?_
          refine tb (x := (V.sl (List.map T_Host.c a1.Hosts))) (rfl) ?_
          refine tbo (p_idx (c := T_Host.c) (fun _ => rfl) a1.Hosts (i64 : Int)) fun r77 => ?_
          refine tb (x := (T_Host.e r77)) (rfl) ?_
          refine tb (x := (vb (!decide (x65 = r77)))) (T_Host.neq x65 r77) ?_
          refine tcond (fun h80 => ?_) (fun h80 => ?_)
          · exact rf_ret rfl
          · refine tb (x := (vi ((i64 : Int) + 1))) (p_incN h67) ?_
            refine tkeepO2 ?_ rfl
            refine tkeepO2 ?_ rfl
            refine tsome ?_
            exact h62 ()
        · refine tb (x := (V.sl (List.map T_Host.c a0.Hosts))) (rfl) ?_
          refine tb (x := (vi (List.length a0.Hosts : Int))) (p_len _) ?_
          refine tb (x := (vb (decide ((List.length a0.Hosts : Int) < (List.length a0.Hosts : Int))))) (d_lss) ?_
          refine tcond_f h82 ?_
          exact h57 ()
    · refine tkeepO2 ?_ rfl
      refine tkeepO2 ?_ rfl
      refine tsome ?_
      refine rf_loopI (mk := fun (i93 : Int) (s89 : Unit) => [(vi (i93 : Int))]) hn a0.Links () (fun i93 x94 h95 h96 h97 s89 rec87 k90 h91 => ?_) (fun s89 rec112 h111 => ?_)
      · refine tb (x := (V.sl (List.map T_Link.c a0.Links))) (rfl) ?_
        refine tb (x := (vi (List.length a0.Links : Int))) (p_len _) ?_
        refine tb (x := (vb (decide ((i93 : Int) < (List.length a0.Links : Int))))) (d_lss) ?_
        refine tcond_t h97 ?_
        refine tb (x := (V.sl (List.map T_Link.c a0.Links))) (rfl) ?_
        refine tb (x := (V.ptr (T_Link.c x94))) (p_idx_at (c := T_Link.c) (fun _ => rfl) h95) ?_
        refine tb (x := (T_Link.e x94)) (rfl) ?_
        refine tb (x := (V.sl (List.map T_Link.c a1.Links))) (rfl) ?_
        refine tbo (p_idx (c := T_Link.c) (fun _ => rfl) a1.Links (i93 : Int)) fun r106 => ?_
        refine tb (x := (T_Link.e r106)) (rfl) ?_
        refine tb (x := (vb (!decide (x94 = r106)))) (T_Link.neq x94 r106) ?_
        refine tcond (fun h109 => ?_) (fun h109 => ?_)
        · exact rf_ret rfl
        · refine tb (x := (vi ((i93 : Int) + 1))) (p_incN h96) ?_
          refine tkeepO2 ?_ rfl
          refine tkeepO2 ?_ rfl
          refine tsome ?_
          exact h91 ()
      · refine tb (x := (V.sl (List.map T_Link.c a0.Links))) (rfl) ?_
        refine tb (x := (vi (List.length a0.Links : Int))) (p_len _) ?_
        refine tb (x := (vb (decide ((List.length a0.Links : Int) < (List.length a0.Links : Int))))) (d_lss) ?_
        refine tcond_f h111 ?_
        refine tkeepO2 ?_ rfl
        refine tkeepO2 ?_ rfl
        refine tsome ?_
        exact h52 ()

/-! railpoint/railsame.Table -/
def an_railsame_Table : Ann := .seq (.reg 0 [] [] []) (.seq (.seq (.reg 0 [] [] []) (.cond none (.seq (.reg 0 [] [] []) (.no)) (.no))) (.seq (.seq (.reg 0 [] [] []) (.blk (some []) (.loop [.s 5] (.seq (.seq (.reg 0 [] [] []) (.cond none (.no) (.no))) (.seq (.blk none (.seq (.reg 9 [] [] []) (.cond none (.seq (.reg 0 [] [] []) (.no)) (.no)))) (.reg 0 [] [] [])))))) (.seq (.reg 0 [] [] []) (.no))))
noncomputable def sem_railsame_Table (n : Nat) (xs : List V) : Option V := if xs.length ≤ 26 then denF Tryd.prog (envOf []) n Tryd.f49 an_railsame_Table xs else none
theorem ok_railsame_Table (n : Nat) : SemOk Tryd.prog DW 49 (sem_railsame_Table n) := fun xs y h => by
  unfold sem_railsame_Table at h
  split at h
  · rename_i hl
    exact denF_ok stb Tryd.func49 (by kernel_rfl) (envOf_ok semsOk_nil) (by rw [Tryd.ntmps49]; exact hl) h
  · cases h
theorem eq_railsame_Table (n : Nat) (x0 x1 : V) : sem_railsame_Table n [x0, x1] =
 (lenS [x0]).bind fun v1 =>
 (lenS [x1]).bind fun v2 =>
 (bin2 Tryd.prog BinOp.neq 3 (ot 7) (ot 9) v1 v2).bind fun v3 =>
 condV v3 (
 some (vb false)) (
 JoinPt (fun vs4 =>
 some (vb true)) fun J5 =>
 (fixN (fun rec6 vs7 =>
 (lenS [x0]).bind fun v8 =>
 (bin2 Tryd.prog BinOp.lss 3 (ot 11) (ot 13) (List.getD vs7 0 V.any) v8).bind fun v9 =>
 condV v9 (
 (idxS 6 x0 (List.getD vs7 0 V.any)).bind fun v10 =>
 (ldp (some 6) v10).bind fun v11 =>
 (idxS 6 x1 (List.getD vs7 0 V.any)).bind fun v12 =>
 (ldp (some 6) v12).bind fun v13 =>
 (bin2 Tryd.prog BinOp.neq 60 (ot 20) (ot 24) v11 v13).bind fun v14 =>
 condV v14 (
 some (vb false)) (
 (bin2 Tryd.prog BinOp.add 3 (ot 15) (oc 1) (List.getD vs7 0 V.any) (vi 1)).bind fun v15 =>
 rec6 [v15])) (
 J5 [])) n) [(vi 0)]) := by kernel_rfl
noncomputable def t_railsame_Table (a0 : (List T_Rule)) (a1 : (List T_Rule)) : Option Bool :=
 if (decide ((List.length a0 : Int) ≠ (List.length a1 : Int))) = true then (
 some false) else (
 join (fun (s7 : Unit) =>
 some true) fun j8 =>
 loopI a0 (fun (i16 : Int) x17 (s12 : Unit) k13 =>
 (idx a1 i16).bind fun r26 =>
 if (!decide (x17 = r26)) = true then (
 some false) else (
 k13 ())) (fun (s12 : Unit) =>
 j8 ()) ())
theorem ty_railsame_Table {n : Nat} (hn : bigN ≤ n) (a0 : (List T_Rule)) (a1 : (List T_Rule)) : Rv (fun x : Bool => (vb x)) (sem_railsame_Table n [(V.sl (List.map T_Rule.c a0)), (V.sl (List.map T_Rule.c a1))]) (t_railsame_Table a0 a1) := by
  rw [eq_railsame_Table]
  unfold t_railsame_Table
  refine tb (x := (vi (List.length a0 : Int))) (p_len _) ?_
  refine tb (x := (vi (List.length a1 : Int))) (p_len _) ?_
  refine tb (x := (vb (decide ((List.length a0 : Int) ≠ (List.length a1 : Int))))) (d_neq) ?_
  refine tcond (fun h4 => ?_) (fun h4 => ?_)
  · exact rf_ret rfl
  · refine tjoin (mk := fun s7 : Unit => []) (fun s7 => ?_) fun J6 j8 h9 => ?_
    · exact rf_ret rfl
    · refine rf_loopI (mk := fun (i16 : Int) (s12 : Unit) => [(vi (i16 : Int))]) hn a0 () (fun i16 x17 h18 h19 h20 s12 rec10 k13 h14 => ?_) (fun s12 rec32 h31 => ?_)
      · refine tb (x := (vi (List.length a0 : Int))) (p_len _) ?_
        refine tb (x := (vb (decide ((i16 : Int) < (List.length a0 : Int))))) (d_lss) ?_
        refine tcond_t h20 ?_
        refine tb (x := (V.ptr (T_Rule.c x17))) (p_idx_at (c := T_Rule.c) (fun _ => rfl) h18) ?_
        refine tb (x := (T_Rule.e x17)) (rfl) ?_
        refine tbo (p_idx (c := T_Rule.c) (fun _ => rfl) a1 (i16 : Int)) fun r26 => ?_
        refine tb (x := (T_Rule.e r26)) (rfl) ?_
        refine tb (x := (vb (!decide (x17 = r26)))) (T_Rule.neq x17 r26) ?_
        refine tcond (fun h29 => ?_) (fun h29 => ?_)
        · exact rf_ret rfl
        · refine tb (x := (vi ((i16 : Int) + 1))) (p_incN h19) ?_
          exact h14 ()
      · refine tb (x := (vi (List.length a0 : Int))) (p_len _) ?_
        refine tb (x := (vb (decide ((List.length a0 : Int) < (List.length a0 : Int))))) (d_lss) ?_
        refine tcond_f h31 ?_
        exact h9 ()

/-! railpoint/railsame.Net -/
def an_railsame_Net : Ann := .seq (.reg 0 [] [] []) (.seq (.reg 0 [] [] []) (.seq (.seq (.reg 0 [] [] []) (.cond none (.seq (.reg 0 [] [] []) (.no)) (.no))) (.seq (.seq (.reg 0 [] [] []) (.blk (some []) (.loop [.kb 2, .kb 3, .s 6] (.seq (.seq (.reg 0 [] [] []) (.cond none (.no) (.no))) (.seq (.blk none (.seq (.reg 12 [] [] []) (.seq (.reg 0 [] [] []) (.cond none (.seq (.reg 0 [] [] []) (.no)) (.no))))) (.reg 0 [] [] [])))))) (.seq (.reg 0 [] [] []) (.no)))))
noncomputable def sem_railsame_Net (n : Nat) (xs : List V) : Option V := if xs.length ≤ 44 then denF Tryd.prog (envOf [(88, (sem_railsame_Topo n)), (49, (sem_railsame_Table n))]) n Tryd.f39 an_railsame_Net xs else none
theorem ok_railsame_Net (n : Nat) : SemOk Tryd.prog DW 39 (sem_railsame_Net n) := fun xs y h => by
  unfold sem_railsame_Net at h
  split at h
  · rename_i hl
    exact denF_ok stb Tryd.func39 (by kernel_rfl) (envOf_ok (semsOk_cons (ok_railsame_Topo n) (semsOk_cons (ok_railsame_Table n) semsOk_nil))) (by rw [Tryd.ntmps39]; exact hl) h
  · cases h
theorem eq_railsame_Net (n : Nat) (x0 x1 : V) : sem_railsame_Net n [x0, x1] =
 (V.cellsO x0).bind fun v1 =>
 (V.cellsO x1).bind fun v2 =>
 (ldk (some 3) (List.drop 0 v1)).bind fun v3 =>
 (ldk (some 3) (List.drop 0 v2)).bind fun v4 =>
 ((sem_railsame_Topo n) [v3, v4]).bind fun v5 =>
 (scal1 Tryd.prog (Op.unary Go.UnOp.not) v5).bind fun v6 =>
 (guardV v6 false (some V.any)).bind fun v7 =>
 (guardV v6 false ((gate v6 false (ldk none (List.drop 3 v1))).bind fun v8 =>
 some v8)).bind fun v9 =>
 (guardV v6 false ((lenS [v9]).bind fun v10 =>
 some v10)).bind fun v11 =>
 (guardV v6 false (some V.any)).bind fun v12 =>
 (guardV v6 false ((gate v6 false (ldk none (List.drop 3 v2))).bind fun v13 =>
 some v13)).bind fun v14 =>
 (guardV v6 false ((lenS [v14]).bind fun v15 =>
 some v15)).bind fun v16 =>
 (guardV v6 false ((bin2 Tryd.prog BinOp.neq 3 (ot 18) (ot 21) v11 v16).bind fun v17 =>
 some v17)).bind fun v18 =>
 (pickV v6 (vb true) v18).bind fun v19 =>
 condV v19 (
 some (vb false)) (
 JoinPt (fun vs20 =>
 some (vb true)) fun J21 =>
 (keepO (some v1) (some v1) (keepO (some v2) (some v2) (some [(vi 0)]))).bind (fixN (fun rec22 vs23 =>
 (ldk none (List.drop 3 v1)).bind fun v24 =>
 (lenS [v24]).bind fun v25 =>
 (bin2 Tryd.prog BinOp.lss 3 (ot 24) (ot 27) (List.getD vs23 0 V.any) v25).bind fun v26 =>
 condV v26 (
 (ldk none (List.drop 3 v1)).bind fun v27 =>
 (idxS 1 v27 (List.getD vs23 0 V.any)).bind fun v28 =>
 (ldp none v28).bind fun v29 =>
 (ldk none (List.drop 3 v2)).bind fun v30 =>
 (idxS 1 v30 (List.getD vs23 0 V.any)).bind fun v31 =>
 (ldp none v31).bind fun v32 =>
 ((sem_railsame_Table n) [v29, v32]).bind fun v33 =>
 (scal1 Tryd.prog (Op.unary Go.UnOp.not) v33).bind fun v34 =>
 condV v34 (
 some (vb false)) (
 (bin2 Tryd.prog BinOp.add 3 (ot 29) (oc 1) (List.getD vs23 0 V.any) (vi 1)).bind fun v35 =>
 (keepO (some v1) (some v1) (keepO (some v2) (some v2) (some [v35]))).bind rec22)) (
 J21 [])) n)) := by kernel_rfl
noncomputable def t_railsame_Net (a0 : T_Net) (a1 : T_Net) : Option Bool :=
 (t_railsame_Topo a0.Topo a1.Topo).bind fun r6 =>
 if ((!r6) || (decide ((List.length a0.Tables : Int) ≠ (List.length a1.Tables : Int)))) = true then (
 some false) else (
 join (fun (s31 : Unit) =>
 some true) fun j32 =>
 loopI a0.Tables (fun (i40 : Int) x41 (s36 : Unit) k37 =>
 (idx a1.Tables i40).bind fun r53 =>
 (t_railsame_Table x41 r53).bind fun r56 =>
 if (!r56) = true then (
 some false) else (
 k37 ())) (fun (s36 : Unit) =>
 j32 ()) ())
theorem ty_railsame_Net {n : Nat} (hn : bigN ≤ n) (a0 : T_Net) (a1 : T_Net) : Rv (fun x : Bool => (vb x)) (sem_railsame_Net n [(T_Net.e a0), (T_Net.e a1)]) (t_railsame_Net a0 a1) := by
  rw [eq_railsame_Net]
  unfold t_railsame_Net
  refine tb (x := (T_Net.c a0)) rfl ?_
  refine tb (x := (T_Net.c a1)) rfl ?_
  refine tb (x := (T_Topo.e a0.Topo)) (rfl) ?_
  refine tb (x := (T_Topo.e a1.Topo)) (rfl) ?_
  refine tbo (ty_railsame_Topo hn a0.Topo a1.Topo) fun r6 => ?_
  refine tb (x := (vb (!r6))) (d_not) ?_
  refine tg_f (x := V.any) (fun h8 => rfl) ?_
  refine tg_f (x := (V.sl (List.map (cS T_Rule.c) a0.Tables))) (fun h10 => bind_some_eq (gate_pos (not_t h10) (rfl))) ?_
  refine tg_f (x := (vi (List.length a0.Tables : Int))) (fun h13 => by simp only [gv_t h13]; exact bind_some_eq (p_len _)) ?_
  refine tg_f (x := V.any) (fun h16 => rfl) ?_
  refine tg_f (x := (V.sl (List.map (cS T_Rule.c) a1.Tables))) (fun h18 => bind_some_eq (gate_pos (not_t h18) (rfl))) ?_
  refine tg_f (x := (vi (List.length a1.Tables : Int))) (fun h21 => by simp only [gv_t h21]; exact bind_some_eq (p_len _)) ?_
  refine tg_f (x := (vb (decide ((List.length a0.Tables : Int) ≠ (List.length a1.Tables : Int))))) (fun h24 => by simp only [gv_t h24]; exact bind_some_eq (d_neq)) ?_
  refine tb (x := (vb ((!r6) || (decide ((List.length a0.Tables : Int) ≠ (List.length a1.Tables : Int)))))) (pick_or (fun h9 => gv_t (not_f h9))) ?_
  refine tcond (fun h28 => ?_) (fun h28 => ?_)
  · exact rf_ret rfl
  · refine tjoin (mk := fun s31 : Unit => []) (fun s31 => ?_) fun J30 j32 h33 => ?_
    · exact rf_ret rfl
    · refine tkeepO2 ?_ rfl
      refine tkeepO2 ?_ rfl
      refine tsome ?_
      refine rf_loopI (mk := fun (i40 : Int) (s36 : Unit) => [(vi (i40 : Int))]) hn a0.Tables () (fun i40 x41 h42 h43 h44 s36 rec34 k37 h38 => ?_) (fun s36 rec61 h60 => ?_)
      · refine tb (x := (V.sl (List.map (cS T_Rule.c) a0.Tables))) (rfl) ?_
        refine tb (x := (vi (List.length a0.Tables : Int))) (p_len _) ?_
        refine tb (x := (vb (decide ((i40 : Int) < (List.length a0.Tables : Int))))) (d_lss) ?_
        refine tcond_t h44 ?_
        refine tb (x := (V.sl (List.map (cS T_Rule.c) a0.Tables))) (rfl) ?_
        refine tb (x := (V.ptr [(V.sl (List.map T_Rule.c x41))])) (p_idx_at (c := (cS T_Rule.c)) (fun _ => rfl) h42) ?_
        refine tb (x := (V.sl (List.map T_Rule.c x41))) (rfl) ?_
        refine tb (x := (V.sl (List.map (cS T_Rule.c) a1.Tables))) (rfl) ?_
        refine tbo (p_idx (c := (cS T_Rule.c)) (fun _ => rfl) a1.Tables (i40 : Int)) fun r53 => ?_
        refine tb (x := (V.sl (List.map T_Rule.c r53))) (rfl) ?_
        refine tbo (ty_railsame_Table hn x41 r53) fun r56 => ?_
        refine tb (x := (vb (!r56))) (d_not) ?_
        refine tcond (fun h58 => ?_) (fun h58 => ?_)
        · exact rf_ret rfl
        · refine tb (x := (vi ((i40 : Int) + 1))) (p_incN h43) ?_
          refine tkeepO2 ?_ rfl
          refine tkeepO2 ?_ rfl
          refine tsome ?_
          exact h38 ()
      · refine tb (x := (V.sl (List.map (cS T_Rule.c) a0.Tables))) (rfl) ?_
        refine tb (x := (vi (List.length a0.Tables : Int))) (p_len _) ?_
        refine tb (x := (vb (decide ((List.length a0.Tables : Int) < (List.length a0.Tables : Int))))) (d_lss) ?_
        refine tcond_f h60 ?_
        exact h33 ()

/-! railpoint/railref1.Alike -/
def an_railref1_Alike : Ann := .seq (.reg 0 [] [] []) (.seq (.seq (.reg 0 [] [] []) (.cond none (.seq (.reg 0 [] [] []) (.no)) (.no))) (.seq (.seq (.reg 0 [] [] []) (.blk (some [.kb 2, .kb 3]) (.loop [.kb 2, .kb 3, .s 5] (.seq (.seq (.reg 0 [] [] []) (.cond none (.no) (.no))) (.seq (.blk none (.seq (.reg 11 [] [] []) (.cond none (.seq (.reg 0 [] [] []) (.no)) (.no)))) (.reg 0 [] [] [])))))) (.seq (.seq (.reg 0 [] [] []) (.blk (some []) (.loop [.kb 2, .kb 3, .s 6] (.seq (.seq (.reg 0 [] [] []) (.cond none (.no) (.no))) (.seq (.blk none (.seq (.reg 11 [] [] []) (.cond none (.seq (.reg 0 [] [] []) (.no)) (.no)))) (.reg 0 [] [] [])))))) (.seq (.reg 0 [] [] []) (.no)))))
noncomputable def sem_railref1_Alike (n : Nat) (xs : List V) : Option V := if xs.length ≤ 66 then denF Tryd.prog (envOf []) n Tryd.f40 an_railref1_Alike xs else none
theorem ok_railref1_Alike (n : Nat) : SemOk Tryd.prog DW 40 (sem_railref1_Alike n) := fun xs y h => by
  unfold sem_railref1_Alike at h
  split at h
  · rename_i hl
    exact denF_ok stb Tryd.func40 (by kernel_rfl) (envOf_ok semsOk_nil) (by rw [Tryd.ntmps40]; exact hl) h
  · cases h
theorem eq_railref1_Alike (n : Nat) (x0 x1 : V) : sem_railref1_Alike n [x0, x1] =
 (V.cellsO x0).bind fun v1 =>
 (V.cellsO x1).bind fun v2 =>
 (ldk none (List.drop 0 v1)).bind fun v3 =>
 (ldk none (List.drop 0 v2)).bind fun v4 =>
 (bin2 Tryd.prog BinOp.neq 3 (ot 8) (ot 10) v3 v4).bind fun v5 =>
 (guardV v5 false (some V.any)).bind fun v6 =>
 (guardV v5 false ((gate v5 false (ldk none (List.drop 1 v1))).bind fun v7 =>
 some v7)).bind fun v8 =>
 (guardV v5 false ((lenS [v8]).bind fun v9 =>
 some v9)).bind fun v10 =>
 (guardV v5 false (some V.any)).bind fun v11 =>
 (guardV v5 false ((gate v5 false (ldk none (List.drop 1 v2))).bind fun v12 =>
 some v12)).bind fun v13 =>
 (guardV v5 false ((lenS [v13]).bind fun v14 =>
 some v14)).bind fun v15 =>
 (guardV v5 false ((bin2 Tryd.prog BinOp.neq 3 (ot 15) (ot 18) v10 v15).bind fun v16 =>
 some v16)).bind fun v17 =>
 (pickV v5 (vb true) v17).bind fun v18 =>
 (guardV v18 false (some V.any)).bind fun v19 =>
 (guardV v18 false ((gate v18 false (ldk none (List.drop 2 v1))).bind fun v20 =>
 some v20)).bind fun v21 =>
 (guardV v18 false ((lenS [v21]).bind fun v22 =>
 some v22)).bind fun v23 =>
 (guardV v18 false (some V.any)).bind fun v24 =>
 (guardV v18 false ((gate v18 false (ldk none (List.drop 2 v2))).bind fun v25 =>
 some v25)).bind fun v26 =>
 (guardV v18 false ((lenS [v26]).bind fun v27 =>
 some v27)).bind fun v28 =>
 (guardV v18 false ((bin2 Tryd.prog BinOp.neq 3 (ot 24) (ot 27) v23 v28).bind fun v29 =>
 some v29)).bind fun v30 =>
 (pickV v18 (vb true) v30).bind fun v31 =>
 condV v31 (
 some (vb false)) (
 JoinPt (fun vs32 =>
 JoinPt (fun vs34 =>
 some (vb true)) fun J35 =>
 (keepO (some v1) (some v1) (keepO (some v2) (some v2) (some [(vi 0)]))).bind (fixN (fun rec36 vs37 =>
 (ldk none (List.drop 2 v1)).bind fun v38 =>
 (lenS [v38]).bind fun v39 =>
 (bin2 Tryd.prog BinOp.lss 3 (ot 48) (ot 51) (List.getD vs37 0 V.any) v39).bind fun v40 =>
 condV v40 (
 (ldk none (List.drop 2 v1)).bind fun v41 =>
 (idxS 3 v41 (List.getD vs37 0 V.any)).bind fun v42 =>
 (ldp (some 3) v42).bind fun v43 =>
 (ldk none (List.drop 2 v2)).bind fun v44 =>
 (idxS 3 v44 (List.getD vs37 0 V.any)).bind fun v45 =>
 (ldp (some 3) v45).bind fun v46 =>
 (bin2 Tryd.prog BinOp.neq 74 (ot 59) (ot 64) v43 v46).bind fun v47 =>
 condV v47 (
 some (vb false)) (
 (bin2 Tryd.prog BinOp.add 3 (ot 53) (oc 1) (List.getD vs37 0 V.any) (vi 1)).bind fun v48 =>
 (keepO (some v1) (some v1) (keepO (some v2) (some v2) (some [v48]))).bind rec36)) (
 J35 [])) n)) fun J33 =>
 (keepO (some v1) (some v1) (keepO (some v2) (some v2) (some [(vi 0)]))).bind (fixN (fun rec49 vs50 =>
 (ldk none (List.drop 1 v1)).bind fun v51 =>
 (lenS [v51]).bind fun v52 =>
 (bin2 Tryd.prog BinOp.lss 3 (ot 30) (ot 33) (List.getD vs50 0 V.any) v52).bind fun v53 =>
 condV v53 (
 (ldk none (List.drop 1 v1)).bind fun v54 =>
 (idxS 4 v54 (List.getD vs50 0 V.any)).bind fun v55 =>
 (ldp (some 4) v55).bind fun v56 =>
 (ldk none (List.drop 1 v2)).bind fun v57 =>
 (idxS 4 v57 (List.getD vs50 0 V.any)).bind fun v58 =>
 (ldp (some 4) v58).bind fun v59 =>
 (bin2 Tryd.prog BinOp.neq 148 (ot 41) (ot 46) v56 v59).bind fun v60 =>
 condV v60 (
 some (vb false)) (
 (bin2 Tryd.prog BinOp.add 3 (ot 35) (oc 1) (List.getD vs50 0 V.any) (vi 1)).bind fun v61 =>
 (keepO (some v1) (some v1) (keepO (some v2) (some v2) (some [v61]))).bind rec49)) (
 (keepO (some v1) (some v1) (keepO (some v2) (some v2) (some []))).bind J33)) n)) := by kernel_rfl
noncomputable def t_railref1_Alike (a0 : T_Topo) (a1 : T_Topo) : Option Bool :=
 (some (((decide (a0.Switches ≠ a1.Switches)) || (decide ((List.length a0.Links : Int) ≠ (List.length a1.Links : Int)))) || (decide ((List.length a0.Hosts : Int) ≠ (List.length a1.Hosts : Int))))).bind fun r46 =>
 if r46 = true then (
 some false) else (
 join (fun (s50 : Unit) =>
 join (fun (s55 : Unit) =>
 some true) fun j56 =>
 loopI a0.Hosts (fun (i64 : Int) x65 (s60 : Unit) k61 =>
 (idx a1.Hosts i64).bind fun r77 =>
 if (!decide (x65 = r77)) = true then (
 some false) else (
 k61 ())) (fun (s60 : Unit) =>
 j56 ()) ()) fun j51 =>
 loopI a0.Links (fun (i93 : Int) x94 (s89 : Unit) k90 =>
 (idx a1.Links i93).bind fun r106 =>
 if (!decide (x94 = r106)) = true then (
 some false) else (
 k90 ())) (fun (s89 : Unit) =>
 j51 ()) ())
theorem ty_railref1_Alike {n : Nat} (hn : bigN ≤ n) (a0 : T_Topo) (a1 : T_Topo) : Rv (fun x : Bool => (vb x)) (sem_railref1_Alike n [(T_Topo.e a0), (T_Topo.e a1)]) (t_railref1_Alike a0 a1) := by
  rw [eq_railref1_Alike]
  unfold t_railref1_Alike
  refine tb (x := (T_Topo.c a0)) rfl ?_
  refine tb (x := (T_Topo.c a1)) rfl ?_
  refine tb (x := (vi a0.Switches)) (rfl) ?_
  refine tb (x := (vi a1.Switches)) (rfl) ?_
  refine tb (x := (vb (decide (a0.Switches ≠ a1.Switches)))) (d_neq) ?_
  refine tg_f (x := V.any) (fun h6 => rfl) ?_
  refine tg_f (x := (V.sl (List.map T_Link.c a0.Links))) (fun h8 => bind_some_eq (gate_pos (not_t h8) (rfl))) ?_
  refine tg_f (x := (vi (List.length a0.Links : Int))) (fun h11 => by simp only [gv_t h11]; exact bind_some_eq (p_len _)) ?_
  refine tg_f (x := V.any) (fun h14 => rfl) ?_
  refine tg_f (x := (V.sl (List.map T_Link.c a1.Links))) (fun h16 => bind_some_eq (gate_pos (not_t h16) (rfl))) ?_
  refine tg_f (x := (vi (List.length a1.Links : Int))) (fun h19 => by simp only [gv_t h19]; exact bind_some_eq (p_len _)) ?_
  refine tg_f (x := (vb (decide ((List.length a0.Links : Int) ≠ (List.length a1.Links : Int))))) (fun h22 => by simp only [gv_t h22]; exact bind_some_eq (d_neq)) ?_
  refine tb (x := (vb ((decide (a0.Switches ≠ a1.Switches)) || (decide ((List.length a0.Links : Int) ≠ (List.length a1.Links : Int)))))) (pick_or (fun h9 => gv_t (not_f h9))) ?_
  refine tg_f (x := V.any) (fun h26 => rfl) ?_
  refine tg_f (x := (V.sl (List.map T_Host.c a0.Hosts))) (fun h28 => bind_some_eq (gate_pos (not_t h28) (rfl))) ?_
  refine tg_f (x := (vi (List.length a0.Hosts : Int))) (fun h31 => by simp only [gv_t h31]; exact bind_some_eq (p_len _)) ?_
  refine tg_f (x := V.any) (fun h34 => rfl) ?_
  refine tg_f (x := (V.sl (List.map T_Host.c a1.Hosts))) (fun h36 => bind_some_eq (gate_pos (not_t h36) (rfl))) ?_
  refine tg_f (x := (vi (List.length a1.Hosts : Int))) (fun h39 => by simp only [gv_t h39]; exact bind_some_eq (p_len _)) ?_
  refine tg_f (x := (vb (decide ((List.length a0.Hosts : Int) ≠ (List.length a1.Hosts : Int))))) (fun h42 => by simp only [gv_t h42]; exact bind_some_eq (d_neq)) ?_
  refine tbo (e1 := fun x : Bool => (vb x)) (rf_eq (pick_or (fun h9 => gv_t (not_f h9))) rfl) fun r46 => ?_
  refine tcond (fun h47 => ?_) (fun h47 => ?_)
  · exact rf_ret rfl
  · refine tjoin (mk := fun s50 : Unit => []) (fun s50 => ?_) fun J49 j51 h52 => ?_
    · refine tjoin (mk := fun s55 : Unit => []) (fun s55 => ?_) fun J54 j56 h57 => ?_
      · exact rf_ret rfl
      · refine tkeepO2 ?_ rfl
        refine tkeepO2 ?_ rfl
        refine tsome ?_
        refine rf_loopI (mk := fun (i64 : Int) (s60 : Unit) => [(vi (i64 : Int))]) hn a0.Hosts () (fun i64 x65 h66 h67 h68 s60 rec58 k61 h62 => ?_) (fun s60 rec83 h82 => ?_)
        · refine tb (x := (V.sl (List.map T_Host.c a0.Hosts))) (rfl) ?_
          refine tb (x := (vi (List.length a0.Hosts : Int))) (p_len _) ?_
          refine tb (x := (vb (decide ((i64 : Int) < (List.length a0.Hosts : Int))))) (d_lss) ?_
          refine tcond_t h68 ?_
          refine tb (x := (V.sl (List.map T_Host.c a0.Hosts))) (rfl) ?_
          refine tb (x := (V.ptr (T_Host.c x65))) (p_idx_at (c := T_Host.c) (fun _ => rfl) h66) ?_
          refine tb (x := (T_Host.e x65)) (rfl) ?_
          refine tb (x := (V.sl (List.map T_Host.c a1.Hosts))) (rfl) ?_
          refine tbo (p_idx (c := T_Host.c) (fun _ => rfl) a1.Hosts (i64 : Int)) fun r77 => ?_
          refine tb (x := (T_Host.e r77)) (rfl) ?_
          refine tb (x := (vb (!decide (x65 = r77)))) (T_Host.neq x65 r77) ?_
          refine tcond (fun h80 => ?_) (fun h80 => ?_)
          · exact rf_ret rfl
          · refine tb (x := (vi ((i64 : Int) + 1))) (p_incN h67) ?_
            refine tkeepO2 ?_ rfl
            refine tkeepO2 ?_ rfl
            refine tsome ?_
            exact h62 ()
        · refine tb (x := (V.sl (List.map T_Host.c a0.Hosts))) (rfl) ?_
          refine tb (x := (vi (List.length a0.Hosts : Int))) (p_len _) ?_
          refine tb (x := (vb (decide ((List.length a0.Hosts : Int) < (List.length a0.Hosts : Int))))) (d_lss) ?_
          refine tcond_f h82 ?_
          exact h57 ()
    · refine tkeepO2 ?_ rfl
      refine tkeepO2 ?_ rfl
      refine tsome ?_
      refine rf_loopI (mk := fun (i93 : Int) (s89 : Unit) => [(vi (i93 : Int))]) hn a0.Links () (fun i93 x94 h95 h96 h97 s89 rec87 k90 h91 => ?_) (fun s89 rec112 h111 => ?_)
      · refine tb (x := (V.sl (List.map T_Link.c a0.Links))) (rfl) ?_
        refine tb (x := (vi (List.length a0.Links : Int))) (p_len _) ?_
        refine tb (x := (vb (decide ((i93 : Int) < (List.length a0.Links : Int))))) (d_lss) ?_
        refine tcond_t h97 ?_
        refine tb (x := (V.sl (List.map T_Link.c a0.Links))) (rfl) ?_
        refine tb (x := (V.ptr (T_Link.c x94))) (p_idx_at (c := T_Link.c) (fun _ => rfl) h95) ?_
        refine tb (x := (T_Link.e x94)) (rfl) ?_
        refine tb (x := (V.sl (List.map T_Link.c a1.Links))) (rfl) ?_
        refine tbo (p_idx (c := T_Link.c) (fun _ => rfl) a1.Links (i93 : Int)) fun r106 => ?_
        refine tb (x := (T_Link.e r106)) (rfl) ?_
        refine tb (x := (vb (!decide (x94 = r106)))) (T_Link.neq x94 r106) ?_
        refine tcond (fun h109 => ?_) (fun h109 => ?_)
        · exact rf_ret rfl
        · refine tb (x := (vi ((i93 : Int) + 1))) (p_incN h96) ?_
          refine tkeepO2 ?_ rfl
          refine tkeepO2 ?_ rfl
          refine tsome ?_
          exact h91 ()
      · refine tb (x := (V.sl (List.map T_Link.c a0.Links))) (rfl) ?_
        refine tb (x := (vi (List.length a0.Links : Int))) (p_len _) ?_
        refine tb (x := (vb (decide ((List.length a0.Links : Int) < (List.length a0.Links : Int))))) (d_lss) ?_
        refine tcond_f h111 ?_
        refine tkeepO2 ?_ rfl
        refine tkeepO2 ?_ rfl
        refine tsome ?_
        exact h52 ()

/-! railpoint/railref1.in -/
def an_railref1_in : Ann := .seq (.reg 0 [] [] []) (.seq (.seq (.reg 0 [] [] []) (.blk (some []) (.loop [.kb 3, .s 5] (.seq (.seq (.reg 0 [] [] []) (.cond none (.no) (.no))) (.seq (.blk none (.seq (.reg 6 [] [] []) (.cond none (.seq (.reg 0 [] [] []) (.no)) (.no)))) (.reg 0 [] [] [])))))) (.seq (.reg 0 [] [] []) (.no)))
noncomputable def sem_railref1_in (n : Nat) (xs : List V) : Option V := if xs.length ≤ 18 then denF Tryd.prog (envOf []) n Tryd.f148 an_railref1_in xs else none
theorem ok_railref1_in (n : Nat) : SemOk Tryd.prog DW 148 (sem_railref1_in n) := fun xs y h => by
  unfold sem_railref1_in at h
  split at h
  · rename_i hl
    exact denF_ok stb Tryd.func148 (by kernel_rfl) (envOf_ok semsOk_nil) (by rw [Tryd.ntmps148]; exact hl) h
  · cases h
theorem eq_railref1_in (n : Nat) (x0 x1 : V) : sem_railref1_in n [x0, x1] =
 (V.cellsO x1).bind fun v1 =>
 JoinPt (fun vs2 =>
 some (vb false)) fun J3 =>
 (keepO (some v1) (some v1) (some [(vi 0)])).bind (fixN (fun rec4 vs5 =>
 (lenS [x0]).bind fun v6 =>
 (bin2 Tryd.prog BinOp.lss 3 (ot 6) (ot 8) (List.getD vs5 0 V.any) v6).bind fun v7 =>
 condV v7 (
 (idxS 6 x0 (List.getD vs5 0 V.any)).bind fun v8 =>
 (ldp (some 6) v8).bind fun v9 =>
 (ldk (some 6) (List.drop 0 v1)).bind fun v10 =>
 (bin2 Tryd.prog BinOp.eql 60 (ot 15) (ot 16) v9 v10).bind fun v11 =>
 condV v11 (
 some (vb true)) (
 (bin2 Tryd.prog BinOp.add 3 (ot 10) (oc 1) (List.getD vs5 0 V.any) (vi 1)).bind fun v12 =>
 (keepO (some v1) (some v1) (some [v12])).bind rec4)) (
 J3 [])) n) := by kernel_rfl
noncomputable def t_railref1_in (a0 : (List T_Rule)) (a1 : T_Rule) : Option Bool :=
 join (fun (s4 : Unit) =>
 some false) fun j5 =>
 loopI a0 (fun (i13 : Int) x14 (s9 : Unit) k10 =>
 if (decide (x14 = a1)) = true then (
 some true) else (
 k10 ())) (fun (s9 : Unit) =>
 j5 ()) ()
theorem ty_railref1_in {n : Nat} (hn : bigN ≤ n) (a0 : (List T_Rule)) (a1 : T_Rule) : Rv (fun x : Bool => (vb x)) (sem_railref1_in n [(V.sl (List.map T_Rule.c a0)), (T_Rule.e a1)]) (t_railref1_in a0 a1) := by
  rw [eq_railref1_in]
  unfold t_railref1_in
  refine tb (x := (T_Rule.c a1)) rfl ?_
  refine tjoin (mk := fun s4 : Unit => []) (fun s4 => ?_) fun J3 j5 h6 => ?_
  · exact rf_ret rfl
  · refine tkeepO2 ?_ rfl
    refine tsome ?_
    refine rf_loopI (mk := fun (i13 : Int) (s9 : Unit) => [(vi (i13 : Int))]) hn a0 () (fun i13 x14 h15 h16 h17 s9 rec7 k10 h11 => ?_) (fun s9 rec27 h26 => ?_)
    · refine tb (x := (vi (List.length a0 : Int))) (p_len _) ?_
      refine tb (x := (vb (decide ((i13 : Int) < (List.length a0 : Int))))) (d_lss) ?_
      refine tcond_t h17 ?_
      refine tb (x := (V.ptr (T_Rule.c x14))) (p_idx_at (c := T_Rule.c) (fun _ => rfl) h15) ?_
      refine tb (x := (T_Rule.e x14)) (rfl) ?_
      refine tb (x := (T_Rule.e a1)) (rfl) ?_
      refine tb (x := (vb (decide (x14 = a1)))) (T_Rule.eql x14 a1) ?_
      refine tcond (fun h24 => ?_) (fun h24 => ?_)
      · exact rf_ret rfl
      · refine tb (x := (vi ((i13 : Int) + 1))) (p_incN h16) ?_
        refine tkeepO2 ?_ rfl
        refine tsome ?_
        exact h11 ()
    · refine tb (x := (vi (List.length a0 : Int))) (p_len _) ?_
      refine tb (x := (vb (decide ((List.length a0 : Int) < (List.length a0 : Int))))) (d_lss) ?_
      refine tcond_f h26 ?_
      exact h6 ()

/-! railpoint/railref1.Diff -/
def an_railref1_Diff : Ann := .seq (.reg 0 [] [] []) (.seq (.reg 0 [] [] []) (.seq (.seq (.reg 0 [] [] []) (.blk (some [.r 7 92]) (.loop [.r 7 92, .s 8] (.seq (.seq (.reg 0 [] [] []) (.cond none (.no) (.no))) (.seq (.blk none (.seq (.reg 0 [] [] []) (.seq (.reg 0 [] [] []) (.cond (some [.r 7 92]) (.reg 0 [] [] []) (.no))))) (.reg 0 [] [] [])))))) (.seq (.seq (.reg 0 [] [] []) (.blk (some [.s 7]) (.loop [.r 7 92, .s 10] (.seq (.seq (.reg 0 [] [] []) (.cond none (.no) (.no))) (.seq (.blk none (.seq (.reg 0 [] [] []) (.seq (.reg 0 [] [] []) (.cond (some [.r 7 92]) (.reg 0 [] [] []) (.no))))) (.reg 0 [] [] [])))))) (.seq (.reg 0 [] [] []) (.no)))))
noncomputable def sem_railref1_Diff (n : Nat) (xs : List V) : Option V := if xs.length ≤ 59 then denF Tryd.prog (envOf [(148, (sem_railref1_in n))]) n Tryd.f89 an_railref1_Diff xs else none
theorem ok_railref1_Diff (n : Nat) : SemOk Tryd.prog DW 89 (sem_railref1_Diff n) := fun xs y h => by
  unfold sem_railref1_Diff at h
  split at h
  · rename_i hl
    exact denF_ok stb Tryd.func89 (by kernel_rfl) (envOf_ok (semsOk_cons (ok_railref1_in n) semsOk_nil)) (by rw [Tryd.ntmps89]; exact hl) h
  · cases h
theorem eq_railref1_Diff (n : Nat) (x0 x1 x2 : V) : sem_railref1_Diff n [x0, x1, x2] =
 JoinPt (fun vs1 =>
 JoinPt (fun vs3 =>
 some (List.getD vs3 0 V.any)) fun J4 =>
 (fixN (fun rec5 vs6 =>
 (lenS [x1]).bind fun v7 =>
 (bin2 Tryd.prog BinOp.lss 3 (ot 35) (ot 37) (List.getD vs6 1 V.any) v7).bind fun v8 =>
 condV v8 (
 (idxS 6 x1 (List.getD vs6 1 V.any)).bind fun v9 =>
 (ldp (some 6) v9).bind fun v10 =>
 ((sem_railref1_in n) [x0, v10]).bind fun v11 =>
 (scal1 Tryd.prog (Op.unary Go.UnOp.not) v11).bind fun v12 =>
 JoinPt (fun vs13 =>
 (bin2 Tryd.prog BinOp.add 3 (ot 39) (oc 1) (List.getD vs6 1 V.any) (vi 1)).bind fun v15 =>
 rec5 [(V.sl (slL (List.getD vs13 0 V.any))), v15]) fun J14 =>
 condV v12 (
 (idxS 6 x1 (List.getD vs6 1 V.any)).bind fun v16 =>
 (ldp (some 6) v16).bind fun v17 =>
 ((fillL [(vi 0), (vb false), (vi 0), (vi 0), (vi 0), (vi 0), (vi 0), (vi 0)] [(0, 1, x2), (1, 1, (vb true)), (2, 6, v17)]).map V.agg).bind fun v18 =>
 (slcB 8 1 [(vi 0), (vb false), (vi 0), (vi 0), (vi 0), (vi 0), (vi 0), (vi 0)] [(0, v18)]).bind fun v19 =>
 (appV 8 (slL (List.getD vs6 0 V.any)) v19).bind fun v20 =>
 J14 [(V.sl (slL v20))]) (
 J14 [(V.sl (slL (List.getD vs6 0 V.any)))])) (
 J4 [(V.sl (slL (List.getD vs6 0 V.any)))])) n) [(V.sl (slL (List.getD vs1 0 V.any))), (vi 0)]) fun J2 =>
 (fixN (fun rec21 vs22 =>
 (lenS [x0]).bind fun v23 =>
 (bin2 Tryd.prog BinOp.lss 3 (ot 12) (ot 14) (List.getD vs22 1 V.any) v23).bind fun v24 =>
 condV v24 (
 (idxS 6 x0 (List.getD vs22 1 V.any)).bind fun v25 =>
 (ldp (some 6) v25).bind fun v26 =>
 ((sem_railref1_in n) [x1, v26]).bind fun v27 =>
 (scal1 Tryd.prog (Op.unary Go.UnOp.not) v27).bind fun v28 =>
 JoinPt (fun vs29 =>
 (bin2 Tryd.prog BinOp.add 3 (ot 16) (oc 1) (List.getD vs22 1 V.any) (vi 1)).bind fun v31 =>
 rec21 [(V.sl (slL (List.getD vs29 0 V.any))), v31]) fun J30 =>
 condV v28 (
 (idxS 6 x0 (List.getD vs22 1 V.any)).bind fun v32 =>
 (ldp (some 6) v32).bind fun v33 =>
 ((fillL [(vi 0), (vb false), (vi 0), (vi 0), (vi 0), (vi 0), (vi 0), (vi 0)] [(0, 1, x2), (2, 6, v33)]).map V.agg).bind fun v34 =>
 (slcB 8 1 [(vi 0), (vb false), (vi 0), (vi 0), (vi 0), (vi 0), (vi 0), (vi 0)] [(0, v34)]).bind fun v35 =>
 (appV 8 (slL (List.getD vs22 0 V.any)) v35).bind fun v36 =>
 J30 [(V.sl (slL v36))]) (
 J30 [(V.sl (slL (List.getD vs22 0 V.any)))])) (
 J2 [(V.sl (slL (List.getD vs22 0 V.any)))])) n) [(V.sl []), (vi 0)] := by kernel_rfl
noncomputable def t_railref1_Diff (a0 : (List T_Rule)) (a1 : (List T_Rule)) (a2 : Int) : Option (List T_Op) :=
 (loopI a0 (fun (i52 : Int) x53 (s48 : (List T_Op)) k49 =>
 (t_railref1_in a1 x53).bind fun r62 =>
 (if (!r62) = true then (
 (app s48 ([(T_Op.mk a2 false x53)] : (List T_Op))).bind fun r76 =>
 some (r76)) else (
 some (s48))).bind fun (s66 : (List T_Op)) =>
 k49 (s66)) (fun (s48 : (List T_Op)) =>
 some (s48)) ([])).bind fun (s3 : (List T_Op)) =>
 (loopI a1 (fun (i17 : Int) x18 (s13 : (List T_Op)) k14 =>
 (t_railref1_in a0 x18).bind fun r27 =>
 (if (!r27) = true then (
 (app s13 ([(T_Op.mk a2 true x18)] : (List T_Op))).bind fun r41 =>
 some (r41)) else (
 some (s13))).bind fun (s31 : (List T_Op)) =>
 k14 (s31)) (fun (s13 : (List T_Op)) =>
 some (s13)) (s3)).bind fun (s8 : (List T_Op)) =>
 some s8
theorem ty_railref1_Diff {n : Nat} (hn : bigN ≤ n) (a0 : (List T_Rule)) (a1 : (List T_Rule)) (a2 : Int) : Rv (fun x : (List T_Op) => (V.sl (List.map T_Op.c x))) (sem_railref1_Diff n [(V.sl (List.map T_Rule.c a0)), (V.sl (List.map T_Rule.c a1)), (vi a2)]) (t_railref1_Diff a0 a1 a2) := by
  rw [eq_railref1_Diff]
  unfold t_railref1_Diff
  refine tjb (mk := fun s3 : (List T_Op) => [(V.sl (List.map T_Op.c s3))]) (fun J2 => ?_) fun s3 => ?_
  · refine rf_loopI (mk := fun (i52 : Int) (s48 : (List T_Op)) => [(V.sl (List.map T_Op.c s48)), (vi (i52 : Int))]) hn a0 ([]) (fun i52 x53 h54 h55 h56 s48 rec46 k49 h50 => ?_) (fun s48 rec78 h77 => ?_)
    · refine tb (x := (vi (List.length a0 : Int))) (p_len _) ?_
      refine tb (x := (vb (decide ((i52 : Int) < (List.length a0 : Int))))) (d_lss) ?_
      refine tcond_t h56 ?_
      refine tb (x := (V.ptr (T_Rule.c x53))) (p_idx_at (c := T_Rule.c) (fun _ => rfl) h54) ?_
      refine tb (x := (T_Rule.e x53)) (rfl) ?_
      refine tbo (ty_railref1_in hn a1 x53) fun r62 => ?_
      refine tb (x := (vb (!r62))) (d_not) ?_
      refine tjb (mk := fun s66 : (List T_Op) => [(V.sl (List.map T_Op.c s66))]) (fun J65 => ?_) fun s66 => ?_
      · refine tcond (fun h70 => ?_) (fun h70 => ?_)
        · refine tb (x := (V.ptr (T_Rule.c x53))) (p_idx_at (c := T_Rule.c) (fun _ => rfl) h54) ?_
          refine tb (x := (T_Rule.e x53)) (rfl) ?_
          refine tb (x := (T_Op.e (T_Op.mk a2 false x53))) (by kernel_rfl) ?_
          refine tb (x := (V.sl (List.map T_Op.c ([(T_Op.mk a2 false x53)] : (List T_Op))))) (by kernel_rfl) ?_
          refine tbo (p_app (c := T_Op.c) (fun _ => rfl) s48 ([(T_Op.mk a2 false x53)] : (List T_Op))) fun r76 => ?_
          exact rf_j rfl
        · exact rf_j rfl
      · refine tb (x := (vi ((i52 : Int) + 1))) (p_incN h55) ?_
        exact h50 (s66)
    · refine tb (x := (vi (List.length a0 : Int))) (p_len _) ?_
      refine tb (x := (vb (decide ((List.length a0 : Int) < (List.length a0 : Int))))) (d_lss) ?_
      refine tcond_f h77 ?_
      exact rf_j rfl
  · refine tjb (mk := fun s8 : (List T_Op) => [(V.sl (List.map T_Op.c s8))]) (fun J7 => ?_) fun s8 => ?_
    · refine rf_loopI (mk := fun (i17 : Int) (s13 : (List T_Op)) => [(V.sl (List.map T_Op.c s13)), (vi (i17 : Int))]) hn a1 (s3) (fun i17 x18 h19 h20 h21 s13 rec11 k14 h15 => ?_) (fun s13 rec43 h42 => ?_)
      · refine tb (x := (vi (List.length a1 : Int))) (p_len _) ?_
        refine tb (x := (vb (decide ((i17 : Int) < (List.length a1 : Int))))) (d_lss) ?_
        refine tcond_t h21 ?_
        refine tb (x := (V.ptr (T_Rule.c x18))) (p_idx_at (c := T_Rule.c) (fun _ => rfl) h19) ?_
        refine tb (x := (T_Rule.e x18)) (rfl) ?_
        refine tbo (ty_railref1_in hn a0 x18) fun r27 => ?_
        refine tb (x := (vb (!r27))) (d_not) ?_
        refine tjb (mk := fun s31 : (List T_Op) => [(V.sl (List.map T_Op.c s31))]) (fun J30 => ?_) fun s31 => ?_
        · refine tcond (fun h35 => ?_) (fun h35 => ?_)
          · refine tb (x := (V.ptr (T_Rule.c x18))) (p_idx_at (c := T_Rule.c) (fun _ => rfl) h19) ?_
            refine tb (x := (T_Rule.e x18)) (rfl) ?_
            refine tb (x := (T_Op.e (T_Op.mk a2 true x18))) (by kernel_rfl) ?_
            refine tb (x := (V.sl (List.map T_Op.c ([(T_Op.mk a2 true x18)] : (List T_Op))))) (by kernel_rfl) ?_
            refine tbo (p_app (c := T_Op.c) (fun _ => rfl) s13 ([(T_Op.mk a2 true x18)] : (List T_Op))) fun r41 => ?_
            exact rf_j rfl
          · exact rf_j rfl
        · refine tb (x := (vi ((i17 : Int) + 1))) (p_incN h20) ?_
          exact h15 (s31)
      · refine tb (x := (vi (List.length a1 : Int))) (p_len _) ?_
        refine tb (x := (vb (decide ((List.length a1 : Int) < (List.length a1 : Int))))) (d_lss) ?_
        refine tcond_f h42 ?_
        exact rf_j rfl
    · exact rf_ret rfl

/-! railpoint/railref1.Changes -/
def an_railref1_Changes : Ann := .seq (.reg 0 [] [] []) (.seq (.reg 0 [] [] []) (.seq (.seq (.reg 0 [] [] []) (.blk (some [.s 5]) (.loop [.kb 2, .kb 3, .r 5 92, .s 6] (.seq (.seq (.reg 0 [] [] []) (.cond none (.no) (.no))) (.seq (.blk none (.seq (.reg 14 [] [] []) (.reg 0 [] [] []))) (.reg 0 [] [] [])))))) (.seq (.reg 0 [] [] []) (.no))))
noncomputable def sem_railref1_Changes (n : Nat) (xs : List V) : Option V := if xs.length ≤ 32 then denF Tryd.prog (envOf [(89, (sem_railref1_Diff n))]) n Tryd.f41 an_railref1_Changes xs else none
theorem ok_railref1_Changes (n : Nat) : SemOk Tryd.prog DW 41 (sem_railref1_Changes n) := fun xs y h => by
  unfold sem_railref1_Changes at h
  split at h
  · rename_i hl
    exact denF_ok stb Tryd.func41 (by kernel_rfl) (envOf_ok (semsOk_cons (ok_railref1_Diff n) semsOk_nil)) (by rw [Tryd.ntmps41]; exact hl) h
  · cases h
theorem eq_railref1_Changes (n : Nat) (x0 x1 : V) : sem_railref1_Changes n [x0, x1] =
 (V.cellsO x0).bind fun v1 =>
 (V.cellsO x1).bind fun v2 =>
 JoinPt (fun vs3 =>
 some (List.getD vs3 0 V.any)) fun J4 =>
 (keepO (some v1) (some v1) (keepO (some v2) (some v2) (some [(V.sl []), (vi 0)]))).bind (fixN (fun rec5 vs6 =>
 (ldk none (List.drop 3 v1)).bind fun v7 =>
 (lenS [v7]).bind fun v8 =>
 (bin2 Tryd.prog BinOp.lss 3 (ot 8) (ot 11) (List.getD vs6 1 V.any) v8).bind fun v9 =>
 condV v9 (
 (ldk none (List.drop 3 v1)).bind fun v10 =>
 (idxS 1 v10 (List.getD vs6 1 V.any)).bind fun v11 =>
 (ldp none v11).bind fun v12 =>
 (ldk none (List.drop 3 v2)).bind fun v13 =>
 (idxS 1 v13 (List.getD vs6 1 V.any)).bind fun v14 =>
 (ldp none v14).bind fun v15 =>
 (bin2 Tryd.prog BinOp.add 3 (ot 25) (oc 1) (List.getD vs6 1 V.any) (vi 1)).bind fun v16 =>
 ((sem_railref1_Diff n) [v12, v15, v16]).bind fun v17 =>
 (appV 8 (slL (List.getD vs6 0 V.any)) v17).bind fun v18 =>
 (bin2 Tryd.prog BinOp.add 3 (ot 13) (oc 1) (List.getD vs6 1 V.any) (vi 1)).bind fun v19 =>
 (keepO (some v1) (some v1) (keepO (some v2) (some v2) (some [(V.sl (slL v18)), v19]))).bind rec5) (
 J4 [(V.sl (slL (List.getD vs6 0 V.any)))])) n) := by kernel_rfl
noncomputable def t_railref1_Changes (a0 : T_Net) (a1 : T_Net) : Option (List T_Op) :=
 (loopI a0.Tables (fun (i14 : Int) x15 (s10 : (List T_Op)) k11 =>
 (idx a1.Tables i14).bind fun r27 =>
 (t_railref1_Diff x15 r27 (i14 + 1)).bind fun r31 =>
 (app s10 r31).bind fun r33 =>
 k11 (r33)) (fun (s10 : (List T_Op)) =>
 some (s10)) ([])).bind fun (s5 : (List T_Op)) =>
 some s5
theorem ty_railref1_Changes {n : Nat} (hn : bigN ≤ n) (a0 : T_Net) (a1 : T_Net) : Rv (fun x : (List T_Op) => (V.sl (List.map T_Op.c x))) (sem_railref1_Changes n [(T_Net.e a0), (T_Net.e a1)]) (t_railref1_Changes a0 a1) := by
  rw [eq_railref1_Changes]
  unfold t_railref1_Changes
  refine tb (x := (T_Net.c a0)) rfl ?_
  refine tb (x := (T_Net.c a1)) rfl ?_
  refine tjb (mk := fun s5 : (List T_Op) => [(V.sl (List.map T_Op.c s5))]) (fun J4 => ?_) fun s5 => ?_
  · refine tkeepO2 ?_ rfl
    refine tkeepO2 ?_ rfl
    refine tsome ?_
    refine rf_loopI (mk := fun (i14 : Int) (s10 : (List T_Op)) => [(V.sl (List.map T_Op.c s10)), (vi (i14 : Int))]) hn a0.Tables ([]) (fun i14 x15 h16 h17 h18 s10 rec8 k11 h12 => ?_) (fun s10 rec36 h35 => ?_)
    · refine tb (x := (V.sl (List.map (cS T_Rule.c) a0.Tables))) (rfl) ?_
      refine tb (x := (vi (List.length a0.Tables : Int))) (p_len _) ?_
      refine tb (x := (vb (decide ((i14 : Int) < (List.length a0.Tables : Int))))) (d_lss) ?_
      refine tcond_t h18 ?_
      refine tb (x := (V.sl (List.map (cS T_Rule.c) a0.Tables))) (rfl) ?_
      refine tb (x := (V.ptr [(V.sl (List.map T_Rule.c x15))])) (p_idx_at (c := (cS T_Rule.c)) (fun _ => rfl) h16) ?_
      refine tb (x := (V.sl (List.map T_Rule.c x15))) (rfl) ?_
      refine tb (x := (V.sl (List.map (cS T_Rule.c) a1.Tables))) (rfl) ?_
      refine tbo (p_idx (c := (cS T_Rule.c)) (fun _ => rfl) a1.Tables (i14 : Int)) fun r27 => ?_
      refine tb (x := (V.sl (List.map T_Rule.c r27))) (rfl) ?_
      refine tb (x := (vi ((i14 : Int) + 1))) (p_incN h17) ?_
      refine tbo (ty_railref1_Diff hn x15 r27 ((i14 : Int) + 1)) fun r31 => ?_
      refine tbo (p_app (c := T_Op.c) (fun _ => rfl) s10 r31) fun r33 => ?_
      refine tb (x := (vi ((i14 : Int) + 1))) (p_incN h17) ?_
      refine tkeepO2 ?_ rfl
      refine tkeepO2 ?_ rfl
      refine tsome ?_
      exact h12 (r33)
    · refine tb (x := (V.sl (List.map (cS T_Rule.c) a0.Tables))) (rfl) ?_
      refine tb (x := (vi (List.length a0.Tables : Int))) (p_len _) ?_
      refine tb (x := (vb (decide ((List.length a0.Tables : Int) < (List.length a0.Tables : Int))))) (d_lss) ?_
      refine tcond_f h35 ?_
      exact rf_j rfl
  · exact rf_ret rfl

/-! railpoint/change.both -/
def an_change_both : Ann := .seq (.reg 0 [] [] []) (.seq (.seq (.reg 0 [] [] []) (.seq (.reg 0 [] [] []) (.cond none (.seq (.reg 0 [] [] []) (.no)) (.no)))) (.seq (.reg 0 [] [] []) (.no)))
noncomputable def sem_change_both (n : Nat) (xs : List V) : Option V := if xs.length ≤ 13 then denF Tryd.prog (envOf [(27, (sem_net_Check n))]) n Tryd.f90 an_change_both xs else none
theorem ok_change_both (n : Nat) : SemOk Tryd.prog DW 90 (sem_change_both n) := fun xs y h => by
  unfold sem_change_both at h
  split at h
  · rename_i hl
    exact denF_ok stb Tryd.func90 (by kernel_rfl) (envOf_ok (semsOk_cons (ok_net_Check n) semsOk_nil)) (by rw [Tryd.ntmps90]; exact hl) h
  · cases h
theorem eq_change_both (n : Nat) (x0 x1 : V) : sem_change_both n [x0, x1] =
 (V.cellsO x0).bind fun v1 =>
 (V.cellsO x1).bind fun v2 =>
 (ldk (some 4) (List.drop 0 v1)).bind fun v3 =>
 ((sem_net_Check n) [v3]).bind fun v4 =>
 (bin2 Tryd.prog BinOp.neq 35 (ot 8) (Operand.const Go.Value.nilIface) v4 vn).bind fun v5 =>
 condV v5 (
 some v4) (
 (ldk (some 4) (List.drop 0 v2)).bind fun v6 =>
 ((sem_net_Check n) [v6]).bind fun v7 =>
 some v7) := by kernel_rfl
noncomputable def t_change_both (a0 : T_Net) (a1 : T_Net) : Option Int :=
 (t_net_Check a0).bind fun r5 =>
 if (!decide (r5 = 0)) = true then (
 some r5) else (
 (t_net_Check a1).bind fun r10 =>
 some r10)
theorem ty_change_both {n : Nat} (hn : bigN ≤ n) (a0 : T_Net) (a1 : T_Net) : Rv (fun x : Int => (eV x)) (sem_change_both n [(T_Net.e a0), (T_Net.e a1)]) (t_change_both a0 a1) := by
  rw [eq_change_both]
  unfold t_change_both
  refine tb (x := (T_Net.c a0)) rfl ?_
  refine tb (x := (T_Net.c a1)) rfl ?_
  refine tb (x := (T_Net.e a0)) (rfl) ?_
  refine tbo (ty_net_Check hn a0) fun r5 => ?_
  refine tb (x := (vb (!decide (r5 = 0)))) (p_err_neq _) ?_
  refine tcond (fun h7 => ?_) (fun h7 => ?_)
  · exact rf_ret rfl
  · refine tb (x := (T_Net.e a1)) (rfl) ?_
    refine tbo (ty_net_Check hn a1) fun r10 => ?_
    exact rf_ret rfl

/-! slices.Equal   railpoint/api.Link railpoint/api.Link  -/
def an_slices_Equal_api_Link_api_Link : Ann := .seq (.reg 0 [] [] []) (.seq (.seq (.reg 0 [] [] []) (.cond none (.seq (.reg 0 [] [] []) (.no)) (.no))) (.seq (.seq (.reg 0 [] [] []) (.blk (some []) (.loop [.s 13] (.seq (.reg 0 [] [] []) (.seq (.cond none (.no) (.no)) (.seq (.blk none (.seq (.reg 0 [] [] []) (.seq (.reg 9 [] [] []) (.cond none (.seq (.reg 0 [] [] []) (.no)) (.no))))) (.reg 0 [] [] []))))))) (.seq (.reg 0 [] [] []) (.no))))
noncomputable def sem_slices_Equal_api_Link_api_Link (n : Nat) (xs : List V) : Option V := if xs.length ≤ 26 then denF Tryd.prog (envOf []) n Tryd.f149 an_slices_Equal_api_Link_api_Link xs else none
theorem ok_slices_Equal_api_Link_api_Link (n : Nat) : SemOk Tryd.prog DW 149 (sem_slices_Equal_api_Link_api_Link n) := fun xs y h => by
  unfold sem_slices_Equal_api_Link_api_Link at h
  split at h
  · rename_i hl
    exact denF_ok stb Tryd.func149 (by kernel_rfl) (envOf_ok semsOk_nil) (by rw [Tryd.ntmps149]; exact hl) h
  · cases h
theorem eq_slices_Equal_api_Link_api_Link (n : Nat) (x0 x1 : V) : sem_slices_Equal_api_Link_api_Link n [x0, x1] =
 (lenS [x0]).bind fun v1 =>
 (lenS [x1]).bind fun v2 =>
 (bin2 Tryd.prog BinOp.neq 3 (ot 7) (ot 9) v1 v2).bind fun v3 =>
 condV v3 (
 some (vb false)) (
 (lenS [x0]).bind fun v4 =>
 JoinPt (fun vs5 =>
 some (vb true)) fun J6 =>
 (fixN (fun rec7 vs8 =>
 (bin2 Tryd.prog BinOp.lss 3 (ot 13) (ot 12) (List.getD vs8 0 V.any) v4).bind fun v9 =>
 condV v9 (
 (idxS 4 x0 (List.getD vs8 0 V.any)).bind fun v10 =>
 (ldp (some 4) v10).bind fun v11 =>
 (idxS 4 x1 (List.getD vs8 0 V.any)).bind fun v12 =>
 (ldp (some 4) v12).bind fun v13 =>
 (bin2 Tryd.prog BinOp.neq 148 (ot 19) (ot 23) v11 v13).bind fun v14 =>
 condV v14 (
 some (vb false)) (
 (bin2 Tryd.prog BinOp.add 3 (ot 13) (oc 1) (List.getD vs8 0 V.any) (vi 1)).bind fun v15 =>
 rec7 [v15])) (
 J6 [])) n) [(vi 0)]) := by kernel_rfl
noncomputable def t_slices_Equal_api_Link_api_Link (a0 : (List T_Link)) (a1 : (List T_Link)) : Option Bool :=
 if (decide ((List.length a0 : Int) ≠ (List.length a1 : Int))) = true then (
 some false) else (
 join (fun (s8 : Unit) =>
 some true) fun j9 =>
 loopI a0 (fun (i17 : Int) x18 (s13 : Unit) k14 =>
 (idx a1 i17).bind fun r26 =>
 if (!decide (x18 = r26)) = true then (
 some false) else (
 k14 ())) (fun (s13 : Unit) =>
 j9 ()) ())
theorem ty_slices_Equal_api_Link_api_Link {n : Nat} (hn : bigN ≤ n) (a0 : (List T_Link)) (a1 : (List T_Link)) : Rv (fun x : Bool => (vb x)) (sem_slices_Equal_api_Link_api_Link n [(V.sl (List.map T_Link.c a0)), (V.sl (List.map T_Link.c a1))]) (t_slices_Equal_api_Link_api_Link a0 a1) := by
  rw [eq_slices_Equal_api_Link_api_Link]
  unfold t_slices_Equal_api_Link_api_Link
  refine tb (x := (vi (List.length a0 : Int))) (p_len _) ?_
  refine tb (x := (vi (List.length a1 : Int))) (p_len _) ?_
  refine tb (x := (vb (decide ((List.length a0 : Int) ≠ (List.length a1 : Int))))) (d_neq) ?_
  refine tcond (fun h4 => ?_) (fun h4 => ?_)
  · exact rf_ret rfl
  · refine tb (x := (vi (List.length a0 : Int))) (p_len _) ?_
    refine tjoin (mk := fun s8 : Unit => []) (fun s8 => ?_) fun J7 j9 h10 => ?_
    · exact rf_ret rfl
    · refine rf_loopI (mk := fun (i17 : Int) (s13 : Unit) => [(vi (i17 : Int))]) hn a0 () (fun i17 x18 h19 h20 h21 s13 rec11 k14 h15 => ?_) (fun s13 rec32 h31 => ?_)
      · refine tb (x := (vb (decide ((i17 : Int) < (List.length a0 : Int))))) (d_lss) ?_
        refine tcond_t h21 ?_
        refine tb (x := (V.ptr (T_Link.c x18))) (p_idx_at (c := T_Link.c) (fun _ => rfl) h19) ?_
        refine tb (x := (T_Link.e x18)) (rfl) ?_
        refine tbo (p_idx (c := T_Link.c) (fun _ => rfl) a1 (i17 : Int)) fun r26 => ?_
        refine tb (x := (T_Link.e r26)) (rfl) ?_
        refine tb (x := (vb (!decide (x18 = r26)))) (T_Link.neq x18 r26) ?_
        refine tcond (fun h29 => ?_) (fun h29 => ?_)
        · exact rf_ret rfl
        · refine tb (x := (vi ((i17 : Int) + 1))) (p_incN h20) ?_
          exact h15 ()
      · refine tb (x := (vb (decide ((List.length a0 : Int) < (List.length a0 : Int))))) (d_lss) ?_
        refine tcond_f h31 ?_
        exact h10 ()

/-! slices.Equal   railpoint/api.Host railpoint/api.Host  -/
def an_slices_Equal_api_Host_api_Host : Ann := .seq (.reg 0 [] [] []) (.seq (.seq (.reg 0 [] [] []) (.cond none (.seq (.reg 0 [] [] []) (.no)) (.no))) (.seq (.seq (.reg 0 [] [] []) (.blk (some []) (.loop [.s 13] (.seq (.reg 0 [] [] []) (.seq (.cond none (.no) (.no)) (.seq (.blk none (.seq (.reg 0 [] [] []) (.seq (.reg 9 [] [] []) (.cond none (.seq (.reg 0 [] [] []) (.no)) (.no))))) (.reg 0 [] [] []))))))) (.seq (.reg 0 [] [] []) (.no))))
noncomputable def sem_slices_Equal_api_Host_api_Host (n : Nat) (xs : List V) : Option V := if xs.length ≤ 26 then denF Tryd.prog (envOf []) n Tryd.f150 an_slices_Equal_api_Host_api_Host xs else none
theorem ok_slices_Equal_api_Host_api_Host (n : Nat) : SemOk Tryd.prog DW 150 (sem_slices_Equal_api_Host_api_Host n) := fun xs y h => by
  unfold sem_slices_Equal_api_Host_api_Host at h
  split at h
  · rename_i hl
    exact denF_ok stb Tryd.func150 (by kernel_rfl) (envOf_ok semsOk_nil) (by rw [Tryd.ntmps150]; exact hl) h
  · cases h
theorem eq_slices_Equal_api_Host_api_Host (n : Nat) (x0 x1 : V) : sem_slices_Equal_api_Host_api_Host n [x0, x1] =
 (lenS [x0]).bind fun v1 =>
 (lenS [x1]).bind fun v2 =>
 (bin2 Tryd.prog BinOp.neq 3 (ot 7) (ot 9) v1 v2).bind fun v3 =>
 condV v3 (
 some (vb false)) (
 (lenS [x0]).bind fun v4 =>
 JoinPt (fun vs5 =>
 some (vb true)) fun J6 =>
 (fixN (fun rec7 vs8 =>
 (bin2 Tryd.prog BinOp.lss 3 (ot 13) (ot 12) (List.getD vs8 0 V.any) v4).bind fun v9 =>
 condV v9 (
 (idxS 3 x0 (List.getD vs8 0 V.any)).bind fun v10 =>
 (ldp (some 3) v10).bind fun v11 =>
 (idxS 3 x1 (List.getD vs8 0 V.any)).bind fun v12 =>
 (ldp (some 3) v12).bind fun v13 =>
 (bin2 Tryd.prog BinOp.neq 74 (ot 19) (ot 23) v11 v13).bind fun v14 =>
 condV v14 (
 some (vb false)) (
 (bin2 Tryd.prog BinOp.add 3 (ot 13) (oc 1) (List.getD vs8 0 V.any) (vi 1)).bind fun v15 =>
 rec7 [v15])) (
 J6 [])) n) [(vi 0)]) := by kernel_rfl
noncomputable def t_slices_Equal_api_Host_api_Host (a0 : (List T_Host)) (a1 : (List T_Host)) : Option Bool :=
 if (decide ((List.length a0 : Int) ≠ (List.length a1 : Int))) = true then (
 some false) else (
 join (fun (s8 : Unit) =>
 some true) fun j9 =>
 loopI a0 (fun (i17 : Int) x18 (s13 : Unit) k14 =>
 (idx a1 i17).bind fun r26 =>
 if (!decide (x18 = r26)) = true then (
 some false) else (
 k14 ())) (fun (s13 : Unit) =>
 j9 ()) ())
theorem ty_slices_Equal_api_Host_api_Host {n : Nat} (hn : bigN ≤ n) (a0 : (List T_Host)) (a1 : (List T_Host)) : Rv (fun x : Bool => (vb x)) (sem_slices_Equal_api_Host_api_Host n [(V.sl (List.map T_Host.c a0)), (V.sl (List.map T_Host.c a1))]) (t_slices_Equal_api_Host_api_Host a0 a1) := by
  rw [eq_slices_Equal_api_Host_api_Host]
  unfold t_slices_Equal_api_Host_api_Host
  refine tb (x := (vi (List.length a0 : Int))) (p_len _) ?_
  refine tb (x := (vi (List.length a1 : Int))) (p_len _) ?_
  refine tb (x := (vb (decide ((List.length a0 : Int) ≠ (List.length a1 : Int))))) (d_neq) ?_
  refine tcond (fun h4 => ?_) (fun h4 => ?_)
  · exact rf_ret rfl
  · refine tb (x := (vi (List.length a0 : Int))) (p_len _) ?_
    refine tjoin (mk := fun s8 : Unit => []) (fun s8 => ?_) fun J7 j9 h10 => ?_
    · exact rf_ret rfl
    · refine rf_loopI (mk := fun (i17 : Int) (s13 : Unit) => [(vi (i17 : Int))]) hn a0 () (fun i17 x18 h19 h20 h21 s13 rec11 k14 h15 => ?_) (fun s13 rec32 h31 => ?_)
      · refine tb (x := (vb (decide ((i17 : Int) < (List.length a0 : Int))))) (d_lss) ?_
        refine tcond_t h21 ?_
        refine tb (x := (V.ptr (T_Host.c x18))) (p_idx_at (c := T_Host.c) (fun _ => rfl) h19) ?_
        refine tb (x := (T_Host.e x18)) (rfl) ?_
        refine tbo (p_idx (c := T_Host.c) (fun _ => rfl) a1 (i17 : Int)) fun r26 => ?_
        refine tb (x := (T_Host.e r26)) (rfl) ?_
        refine tb (x := (vb (!decide (x18 = r26)))) (T_Host.neq x18 r26) ?_
        refine tcond (fun h29 => ?_) (fun h29 => ?_)
        · exact rf_ret rfl
        · refine tb (x := (vi ((i17 : Int) + 1))) (p_incN h20) ?_
          exact h15 ()
      · refine tb (x := (vb (decide ((List.length a0 : Int) < (List.length a0 : Int))))) (d_lss) ?_
        refine tcond_f h31 ?_
        exact h10 ()

/-! railpoint/change.Alike -/
def an_change_Alike : Ann := .seq (.reg 0 [] [] []) (.seq (.reg 0 [] [] []) (.no))
noncomputable def sem_change_Alike (n : Nat) (xs : List V) : Option V := if xs.length ≤ 30 then denF Tryd.prog (envOf [(149, (sem_slices_Equal_api_Link_api_Link n)), (150, (sem_slices_Equal_api_Host_api_Host n))]) n Tryd.f91 an_change_Alike xs else none
theorem ok_change_Alike (n : Nat) : SemOk Tryd.prog DW 91 (sem_change_Alike n) := fun xs y h => by
  unfold sem_change_Alike at h
  split at h
  · rename_i hl
    exact denF_ok stb Tryd.func91 (by kernel_rfl) (envOf_ok (semsOk_cons (ok_slices_Equal_api_Link_api_Link n) (semsOk_cons (ok_slices_Equal_api_Host_api_Host n) semsOk_nil))) (by rw [Tryd.ntmps91]; exact hl) h
  · cases h
theorem eq_change_Alike (n : Nat) (x0 x1 : V) : sem_change_Alike n [x0, x1] =
 (V.cellsO x0).bind fun v1 =>
 (V.cellsO x1).bind fun v2 =>
 (ldk none (List.drop 0 v1)).bind fun v3 =>
 (ldk none (List.drop 0 v2)).bind fun v4 =>
 (bin2 Tryd.prog BinOp.eql 3 (ot 7) (ot 10) v3 v4).bind fun v5 =>
 (guardV v5 true (some V.any)).bind fun v6 =>
 (guardV v5 true (gate v5 true (some V.any))).bind fun v7 =>
 (guardV v5 true ((gate v5 true (gate v5 true (ldk none (List.drop 1 v1)))).bind fun v8 =>
 some v8)).bind fun v9 =>
 (guardV v5 true (some V.any)).bind fun v10 =>
 (guardV v5 true (gate v5 true (some V.any))).bind fun v11 =>
 (guardV v5 true ((gate v5 true (gate v5 true (ldk none (List.drop 1 v2)))).bind fun v12 =>
 some v12)).bind fun v13 =>
 (guardV v5 true (((sem_slices_Equal_api_Link_api_Link n) [v9, v13]).bind fun v14 =>
 some v14)).bind fun v15 =>
 (pickV v5 v15 (vb false)).bind fun v16 =>
 (guardV v16 true (some V.any)).bind fun v17 =>
 (guardV v16 true (gate v16 true (some V.any))).bind fun v18 =>
 (guardV v16 true ((gate v16 true (gate v16 true (ldk none (List.drop 2 v1)))).bind fun v19 =>
 some v19)).bind fun v20 =>
 (guardV v16 true (some V.any)).bind fun v21 =>
 (guardV v16 true (gate v16 true (some V.any))).bind fun v22 =>
 (guardV v16 true ((gate v16 true (gate v16 true (ldk none (List.drop 2 v2)))).bind fun v23 =>
 some v23)).bind fun v24 =>
 (guardV v16 true (((sem_slices_Equal_api_Host_api_Host n) [v20, v24]).bind fun v25 =>
 some v25)).bind fun v26 =>
 (pickV v16 v26 (vb false)).bind fun v27 =>
 some v27 := by kernel_rfl
noncomputable def t_change_Alike (a0 : T_Net) (a1 : T_Net) : Option Bool :=
 (gd (decide (a0.Topo.Switches = a1.Topo.Switches)) default (t_slices_Equal_api_Link_api_Link a0.Topo.Links a1.Topo.Links)).bind fun r23 =>
 (gd ((decide (a0.Topo.Switches = a1.Topo.Switches)) && r23) default (t_slices_Equal_api_Host_api_Host a0.Topo.Hosts a1.Topo.Hosts)).bind fun r42 =>
 some (((decide (a0.Topo.Switches = a1.Topo.Switches)) && r23) && r42)
theorem ty_change_Alike {n : Nat} (hn : bigN ≤ n) (a0 : T_Net) (a1 : T_Net) : Rv (fun x : Bool => (vb x)) (sem_change_Alike n [(T_Net.e a0), (T_Net.e a1)]) (t_change_Alike a0 a1) := by
  rw [eq_change_Alike]
  unfold t_change_Alike
  refine tb (x := (T_Net.c a0)) rfl ?_
  refine tb (x := (T_Net.c a1)) rfl ?_
  refine tb (x := (vi a0.Topo.Switches)) (rfl) ?_
  refine tb (x := (vi a1.Topo.Switches)) (rfl) ?_
  refine tb (x := (vb (decide (a0.Topo.Switches = a1.Topo.Switches)))) (d_eql) ?_
  refine tg (x := V.any) (fun h6 => rfl) ?_
  refine tg (x := V.any) (fun h8 => gate_pos h8 (rfl)) ?_
  refine tg (x := (V.sl (List.map T_Link.c a0.Topo.Links))) (fun h10 => bind_some_eq (gate_pos h10 (gate_pos h10 (rfl)))) ?_
  refine tg (x := V.any) (fun h13 => rfl) ?_
  refine tg (x := V.any) (fun h15 => gate_pos h15 (rfl)) ?_
  refine tg (x := (V.sl (List.map T_Link.c a1.Topo.Links))) (fun h17 => bind_some_eq (gate_pos h17 (gate_pos h17 (rfl)))) ?_
  refine tgo (fun h20 => by simp only [gv_t h20]; exact rf_bind_some (ty_slices_Equal_api_Link_api_Link hn a0.Topo.Links a1.Topo.Links)) fun r23 => ?_
  refine tb (x := (vb ((decide (a0.Topo.Switches = a1.Topo.Switches)) && r23))) (pick_and (fun h9 => gv_t h9)) ?_
  refine tg (x := V.any) (fun h25 => rfl) ?_
  refine tg (x := V.any) (fun h27 => gate_pos h27 (rfl)) ?_
  refine tg (x := (V.sl (List.map T_Host.c a0.Topo.Hosts))) (fun h29 => bind_some_eq (gate_pos h29 (gate_pos h29 (rfl)))) ?_
  refine tg (x := V.any) (fun h32 => rfl) ?_
  refine tg (x := V.any) (fun h34 => gate_pos h34 (rfl)) ?_
  refine tg (x := (V.sl (List.map T_Host.c a1.Topo.Hosts))) (fun h36 => bind_some_eq (gate_pos h36 (gate_pos h36 (rfl)))) ?_
  refine tgo (fun h39 => by simp only [gv_t h39]; exact rf_bind_some (ty_slices_Equal_api_Host_api_Host hn a0.Topo.Hosts a1.Topo.Hosts)) fun r42 => ?_
  refine tb (x := (vb (((decide (a0.Topo.Switches = a1.Topo.Switches)) && r23) && r42))) (pick_and (fun h9 => gv_t h9)) ?_
  exact rf_ret rfl

/-! railpoint/change.diff -/
def an_change_diff : Ann := .seq (.reg 0 [] [] []) (.seq (.seq (.reg 0 [] [] []) (.blk (some [.s 4]) (.loop [.kb 2, .kb 3, .r 4 92, .s 14] (.seq (.reg 0 [] [] []) (.seq (.cond none (.no) (.no)) (.seq (.blk (some [.kb 2, .kb 3, .r 4 92]) (.seq (.reg 0 [] [] []) (.seq (.reg 16 [] [] []) (.seq (.seq (.reg 0 [] [] []) (.cond none (.seq (.reg 0 [] [] []) (.no)) (.no))) (.seq (.reg 0 [] [] []) (.blk (some [.kb 2, .kb 3, .r 4 92]) (.loop [.kb 2, .kb 3, .r 4 92, .s 36] (.seq (.reg 0 [] [] []) (.seq (.cond none (.no) (.no)) (.seq (.blk none (.seq (.reg 0 [] [] []) (.seq (.reg 0 [] [] []) (.reg 0 [] [] [])))) (.reg 0 [] [] []))))))))))) (.reg 0 [] [] []))))))) (.seq (.reg 0 [] [] []) (.no)))
noncomputable def sem_change_diff (n : Nat) (xs : List V) : Option V := if xs.length ≤ 50 then denF Tryd.prog (envOf [(151, (sem_TDiff n))]) n Tryd.f92 an_change_diff xs else none
theorem ok_change_diff (n : Nat) : SemOk Tryd.prog DW 92 (sem_change_diff n) := fun xs y h => by
  unfold sem_change_diff at h
  split at h
  · rename_i hl
    exact denF_ok stb Tryd.func92 (by kernel_rfl) (envOf_ok (semsOk_cons (ok_TDiff n) semsOk_nil)) (by rw [Tryd.ntmps92]; exact hl) h
  · cases h
theorem eq_change_diff (n : Nat) (x0 x1 : V) : sem_change_diff n [x0, x1] =
 (V.cellsO x0).bind fun v1 =>
 (V.cellsO x1).bind fun v2 =>
 (ldk none (List.drop 3 v1)).bind fun v3 =>
 (lenS [v3]).bind fun v4 =>
 JoinPt (fun vs5 =>
 some (V.tup [(List.getD vs5 0 V.any), vn])) fun J6 =>
 (keepO (some v1) (some v1) (keepO (some v2) (some v2) (some [(V.sl []), (vi 0)]))).bind (fixN (fun rec7 vs8 =>
 (bin2 Tryd.prog BinOp.lss 3 (ot 14) (ot 13) (List.getD vs8 1 V.any) v4).bind fun v9 =>
 condV v9 (
 JoinPt (fun vs10 =>
 (bin2 Tryd.prog BinOp.add 3 (ot 14) (oc 1) (List.getD vs8 1 V.any) (vi 1)).bind fun v12 =>
 (keepO (some v1) (some v1) (keepO (some v2) (some v2) (some [(V.sl (slL (List.getD vs10 0 V.any))), v12]))).bind rec7) fun J11 =>
 (ldk none (List.drop 3 v1)).bind fun v13 =>
 (idxS 1 v13 (List.getD vs8 1 V.any)).bind fun v14 =>
 (ldp none v14).bind fun v15 =>
 (ldk none (List.drop 3 v2)).bind fun v16 =>
 (idxS 1 v16 (List.getD vs8 1 V.any)).bind fun v17 =>
 (ldp none v17).bind fun v18 =>
 ((sem_TDiff n) [v15, v18]).bind fun v19 =>
 (extractV v19 0).bind fun v20 =>
 (extractV v19 1).bind fun v21 =>
 (bin2 Tryd.prog BinOp.neq 35 (ot 31) (Operand.const Go.Value.nilIface) v21 vn).bind fun v22 =>
 condV v22 (
 some (V.tup [(V.sl []), v21])) (
 (lenS [v20]).bind fun v23 =>
 JoinPt (fun vs24 =>
 (keepO (some v1) (some v1) (keepO (some v2) (some v2) (some [(V.sl (slL (List.getD vs24 0 V.any)))]))).bind J11) fun J25 =>
 (keepO (some v1) (some v1) (keepO (some v2) (some v2) (some [(V.sl (slL (List.getD vs8 0 V.any))), (vi 0)]))).bind (fixN (fun rec26 vs27 =>
 (bin2 Tryd.prog BinOp.lss 3 (ot 36) (ot 35) (List.getD vs27 1 V.any) v23).bind fun v28 =>
 condV v28 (
 (idxS 8 v20 (List.getD vs27 1 V.any)).bind fun v29 =>
 (ldp (some 8) v29).bind fun v30 =>
 (spliceV [(vi 0), (vb false), (vi 0), (vi 0), (vi 0), (vi 0), (vi 0), (vi 0)] 0 8 v30).bind fun v31 =>
 (bin2 Tryd.prog BinOp.add 3 (ot 40) (oc 1) (List.getD vs8 1 V.any) (vi 1)).bind fun v32 =>
 (spliceV (aggL v31) 0 1 v32).bind fun v33 =>
 (ldk (some 8) (List.drop 0 (aggL v33))).bind fun v34 =>
 (slcB 8 1 [(vi 0), (vb false), (vi 0), (vi 0), (vi 0), (vi 0), (vi 0), (vi 0)] [(0, v34)]).bind fun v35 =>
 (appV 8 (slL (List.getD vs27 0 V.any)) v35).bind fun v36 =>
 (bin2 Tryd.prog BinOp.add 3 (ot 36) (oc 1) (List.getD vs27 1 V.any) (vi 1)).bind fun v37 =>
 (keepO (some v1) (some v1) (keepO (some v2) (some v2) (some [(V.sl (slL v36)), v37]))).bind rec26) (
 (keepO (some v1) (some v1) (keepO (some v2) (some v2) (some [(V.sl (slL (List.getD vs27 0 V.any)))]))).bind J25)) n))) (
 J6 [(V.sl (slL (List.getD vs8 0 V.any)))])) n) := by kernel_rfl
noncomputable def t_change_diff (a0 : T_Net) (a1 : T_Net) : Option ((List T_Op) × Int) :=
 join (fun (s7 : (List T_Op)) =>
 some (s7, 0)) fun j8 =>
 loopI a0.Tables (fun (i16 : Int) x17 (s12 : (List T_Op)) k13 =>
 join (fun (s24 : (List T_Op)) =>
 k13 (s24)) fun j25 =>
 (idx a1.Tables i16).bind fun r33 =>
 (t_table_Diff x17 r33).bind fun r36 =>
 if (!decide (r36.2 = 0)) = true then (
 some ([], r36.2)) else (
 (loopI r36.1 (fun (i53 : Int) x54 (s49 : (List T_Op)) k50 =>
 (app s49 ([(T_Op.mk (i16 + 1) x54.Add x54.Rule)] : (List T_Op))).bind fun r67 =>
 k50 (r67)) (fun (s49 : (List T_Op)) =>
 some (s49)) (s12)).bind fun (s44 : (List T_Op)) =>
 j25 (s44))) (fun (s12 : (List T_Op)) =>
 j8 (s12)) ([])
theorem ty_change_diff {n : Nat} (hn : bigN ≤ n) (a0 : T_Net) (a1 : T_Net) : Rv (fun x : ((List T_Op) × Int) => V.tup [(V.sl (List.map T_Op.c x.1)), (eV x.2)]) (sem_change_diff n [(T_Net.e a0), (T_Net.e a1)]) (t_change_diff a0 a1) := by
  rw [eq_change_diff]
  unfold t_change_diff
  refine tb (x := (T_Net.c a0)) rfl ?_
  refine tb (x := (T_Net.c a1)) rfl ?_
  refine tb (x := (V.sl (List.map (cS T_Rule.c) a0.Tables))) (rfl) ?_
  refine tb (x := (vi (List.length a0.Tables : Int))) (p_len _) ?_
  refine tjoin (mk := fun s7 : (List T_Op) => [(V.sl (List.map T_Op.c s7))]) (fun s7 => ?_) fun J6 j8 h9 => ?_
  · exact rf_ret rfl
  · refine tkeepO2 ?_ rfl
    refine tkeepO2 ?_ rfl
    refine tsome ?_
    refine rf_loopI (mk := fun (i16 : Int) (s12 : (List T_Op)) => [(V.sl (List.map T_Op.c s12)), (vi (i16 : Int))]) hn a0.Tables ([]) (fun i16 x17 h18 h19 h20 s12 rec10 k13 h14 => ?_) (fun s12 rec73 h72 => ?_)
    · refine tb (x := (vb (decide ((i16 : Int) < (List.length a0.Tables : Int))))) (d_lss) ?_
      refine tcond_t h20 ?_
      refine tjoin (mk := fun s24 : (List T_Op) => [(V.sl (List.map T_Op.c s24))]) (fun s24 => ?_) fun J23 j25 h26 => ?_
      · refine tb (x := (vi ((i16 : Int) + 1))) (p_incN h19) ?_
        refine tkeepO2 ?_ rfl
        refine tkeepO2 ?_ rfl
        refine tsome ?_
        exact h14 (s24)
      · refine tb (x := (V.sl (List.map (cS T_Rule.c) a0.Tables))) (rfl) ?_
        refine tb (x := (V.ptr [(V.sl (List.map T_Rule.c x17))])) (p_idx_at (c := (cS T_Rule.c)) (fun _ => rfl) h18) ?_
        refine tb (x := (V.sl (List.map T_Rule.c x17))) (rfl) ?_
        refine tb (x := (V.sl (List.map (cS T_Rule.c) a1.Tables))) (rfl) ?_
        refine tbo (p_idx (c := (cS T_Rule.c)) (fun _ => rfl) a1.Tables (i16 : Int)) fun r33 => ?_
        refine tb (x := (V.sl (List.map T_Rule.c r33))) (rfl) ?_
        refine tbo (ty_table_Diff x17 r33) fun r36 => ?_
        refine tb (x := (V.sl (List.map T_Op.c r36.1))) (rfl) ?_
        refine tb (x := (eV r36.2)) (rfl) ?_
        refine tb (x := (vb (!decide (r36.2 = 0)))) (p_err_neq _) ?_
        refine tcond (fun h40 => ?_) (fun h40 => ?_)
        · exact rf_ret rfl
        · refine tb (x := (vi (List.length r36.1 : Int))) (p_len _) ?_
          refine tjb (mk := fun s44 : (List T_Op) => [(V.sl (List.map T_Op.c s44))]) (fun J43 => ?_) fun s44 => ?_
          · refine tkeepO2 ?_ rfl
            refine tkeepO2 ?_ rfl
            refine tsome ?_
            refine rf_loopI (mk := fun (i53 : Int) (s49 : (List T_Op)) => [(V.sl (List.map T_Op.c s49)), (vi (i53 : Int))]) hn r36.1 (s12) (fun i53 x54 h55 h56 h57 s49 rec47 k50 h51 => ?_) (fun s49 rec70 h69 => ?_)
            · refine tb (x := (vb (decide ((i53 : Int) < (List.length r36.1 : Int))))) (d_lss) ?_
              refine tcond_t h57 ?_
              refine tb (x := (V.ptr (T_Op.c x54))) (p_idx_at (c := T_Op.c) (fun _ => rfl) h55) ?_
              refine tb (x := (T_Op.e x54)) (rfl) ?_
              refine tb (x := V.agg (T_Op.c x54)) (by kernel_rfl) ?_
              refine tb (x := (vi ((i16 : Int) + 1))) (p_incN h19) ?_
              refine tb (x := V.agg (T_Op.c (T_Op.mk ((i16 : Int) + 1) x54.Add x54.Rule))) (by kernel_rfl) ?_
              refine tb (x := (T_Op.e (T_Op.mk ((i16 : Int) + 1) x54.Add x54.Rule))) (rfl) ?_
              refine tb (x := (V.sl (List.map T_Op.c ([(T_Op.mk ((i16 : Int) + 1) x54.Add x54.Rule)] : (List T_Op))))) (by kernel_rfl) ?_
              refine tbo (p_app (c := T_Op.c) (fun _ => rfl) s49 ([(T_Op.mk ((i16 : Int) + 1) x54.Add x54.Rule)] : (List T_Op))) fun r67 => ?_
              refine tb (x := (vi ((i53 : Int) + 1))) (p_incN h56) ?_
              refine tkeepO2 ?_ rfl
              refine tkeepO2 ?_ rfl
              refine tsome ?_
              exact h51 (r67)
            · refine tb (x := (vb (decide ((List.length r36.1 : Int) < (List.length r36.1 : Int))))) (d_lss) ?_
              refine tcond_f h69 ?_
              refine tkeepO2 ?_ rfl
              refine tkeepO2 ?_ rfl
              refine tsome ?_
              exact rf_j rfl
          · refine tkeepO2 ?_ rfl
            refine tkeepO2 ?_ rfl
            refine tsome ?_
            exact h26 (s44)
    · refine tb (x := (vb (decide ((List.length a0.Tables : Int) < (List.length a0.Tables : Int))))) (d_lss) ?_
      refine tcond_f h72 ?_
      exact h9 (s12)

/-! railpoint/change.Diff -/
def an_change_Diff : Ann := .seq (.reg 0 [] [] []) (.seq (.seq (.reg 0 [] [] []) (.seq (.reg 0 [] [] []) (.cond none (.seq (.reg 0 [] [] []) (.no)) (.no)))) (.seq (.seq (.reg 0 [] [] []) (.cond none (.seq (.reg 0 [] [] []) (.no)) (.no))) (.seq (.reg 0 [] [] []) (.no))))
noncomputable def sem_change_Diff (n : Nat) (xs : List V) : Option V := if xs.length ≤ 23 then denF Tryd.prog (envOf [(90, (sem_change_both n)), (91, (sem_change_Alike n)), (92, (sem_change_diff n))]) n Tryd.f42 an_change_Diff xs else none
theorem ok_change_Diff (n : Nat) : SemOk Tryd.prog DW 42 (sem_change_Diff n) := fun xs y h => by
  unfold sem_change_Diff at h
  split at h
  · rename_i hl
    exact denF_ok stb Tryd.func42 (by kernel_rfl) (envOf_ok (semsOk_cons (ok_change_both n) (semsOk_cons (ok_change_Alike n) (semsOk_cons (ok_change_diff n) semsOk_nil)))) (by rw [Tryd.ntmps42]; exact hl) h
  · cases h
theorem eq_change_Diff (n : Nat) (x0 x1 : V) : sem_change_Diff n [x0, x1] =
 (V.cellsO x0).bind fun v1 =>
 (V.cellsO x1).bind fun v2 =>
 (ldk (some 4) (List.drop 0 v1)).bind fun v3 =>
 (ldk (some 4) (List.drop 0 v2)).bind fun v4 =>
 ((sem_change_both n) [v3, v4]).bind fun v5 =>
 (bin2 Tryd.prog BinOp.neq 35 (ot 10) (Operand.const Go.Value.nilIface) v5 vn).bind fun v6 =>
 condV v6 (
 some (V.tup [(V.sl []), v5])) (
 (ldk (some 4) (List.drop 0 v1)).bind fun v7 =>
 (ldk (some 4) (List.drop 0 v2)).bind fun v8 =>
 ((sem_change_Alike n) [v7, v8]).bind fun v9 =>
 (scal1 Tryd.prog (Op.unary Go.UnOp.not) v9).bind fun v10 =>
 condV v10 (
 (scal1 Tryd.prog (Instr.makeInterface 143) (vi 3)).bind fun v11 =>
 some (V.tup [(V.sl []), v11])) (
 (ldk (some 4) (List.drop 0 v1)).bind fun v12 =>
 (ldk (some 4) (List.drop 0 v2)).bind fun v13 =>
 ((sem_change_diff n) [v12, v13]).bind fun v14 =>
 (extractV v14 0).bind fun v15 =>
 (extractV v14 1).bind fun v16 =>
 some (V.tup [v15, v16]))) := by kernel_rfl
noncomputable def t_change_Diff (a0 : T_Net) (a1 : T_Net) : Option ((List T_Op) × Int) :=
 (t_change_both a0 a1).bind fun r6 =>
 if (!decide (r6 = 0)) = true then (
 some ([], r6)) else (
 (t_change_Alike a0 a1).bind fun r12 =>
 if (!r12) = true then (
 some ([], 3)) else (
 (t_change_diff a0 a1).bind fun r19 =>
 some (r19.1, r19.2)))
theorem ty_change_Diff {n : Nat} (hn : bigN ≤ n) (a0 : T_Net) (a1 : T_Net) : Rv (fun x : ((List T_Op) × Int) => V.tup [(V.sl (List.map T_Op.c x.1)), (eV x.2)]) (sem_change_Diff n [(T_Net.e a0), (T_Net.e a1)]) (t_change_Diff a0 a1) := by
  rw [eq_change_Diff]
  unfold t_change_Diff
  refine tb (x := (T_Net.c a0)) rfl ?_
  refine tb (x := (T_Net.c a1)) rfl ?_
  refine tb (x := (T_Net.e a0)) (rfl) ?_
  refine tb (x := (T_Net.e a1)) (rfl) ?_
  refine tbo (ty_change_both hn a0 a1) fun r6 => ?_
  refine tb (x := (vb (!decide (r6 = 0)))) (p_err_neq _) ?_
  refine tcond (fun h8 => ?_) (fun h8 => ?_)
  · exact rf_ret rfl
  · refine tb (x := (T_Net.e a0)) (rfl) ?_
    refine tb (x := (T_Net.e a1)) (rfl) ?_
    refine tbo (ty_change_Alike hn a0 a1) fun r12 => ?_
    refine tb (x := (vb (!r12))) (d_not) ?_
    refine tcond (fun h14 => ?_) (fun h14 => ?_)
    · refine tb (x := (eV 3)) (p_mkE (by decide)) ?_
      exact rf_ret rfl
    · refine tb (x := (T_Net.e a0)) (rfl) ?_
      refine tb (x := (T_Net.e a1)) (rfl) ?_
      refine tbo (ty_change_diff hn a0 a1) fun r19 => ?_
      refine tb (x := (V.sl (List.map T_Op.c r19.1))) (rfl) ?_
      refine tb (x := (eV r19.2)) (rfl) ?_
      exact rf_ret rfl

/-! railpoint/railsame.Ops -/
def an_railsame_Ops : Ann := .seq (.reg 0 [] [] []) (.seq (.seq (.reg 0 [] [] []) (.cond none (.seq (.reg 0 [] [] []) (.no)) (.no))) (.seq (.seq (.reg 0 [] [] []) (.blk (some []) (.loop [.s 5] (.seq (.seq (.reg 0 [] [] []) (.cond none (.no) (.no))) (.seq (.blk none (.seq (.reg 9 [] [] []) (.cond none (.seq (.reg 0 [] [] []) (.no)) (.no)))) (.reg 0 [] [] [])))))) (.seq (.reg 0 [] [] []) (.no))))
noncomputable def sem_railsame_Ops (n : Nat) (xs : List V) : Option V := if xs.length ≤ 26 then denF Tryd.prog (envOf []) n Tryd.f43 an_railsame_Ops xs else none
theorem ok_railsame_Ops (n : Nat) : SemOk Tryd.prog DW 43 (sem_railsame_Ops n) := fun xs y h => by
  unfold sem_railsame_Ops at h
  split at h
  · rename_i hl
    exact denF_ok stb Tryd.func43 (by kernel_rfl) (envOf_ok semsOk_nil) (by rw [Tryd.ntmps43]; exact hl) h
  · cases h
theorem eq_railsame_Ops (n : Nat) (x0 x1 : V) : sem_railsame_Ops n [x0, x1] =
 (lenS [x0]).bind fun v1 =>
 (lenS [x1]).bind fun v2 =>
 (bin2 Tryd.prog BinOp.neq 3 (ot 7) (ot 9) v1 v2).bind fun v3 =>
 condV v3 (
 some (vb false)) (
 JoinPt (fun vs4 =>
 some (vb true)) fun J5 =>
 (fixN (fun rec6 vs7 =>
 (lenS [x0]).bind fun v8 =>
 (bin2 Tryd.prog BinOp.lss 3 (ot 11) (ot 13) (List.getD vs7 0 V.any) v8).bind fun v9 =>
 condV v9 (
 (idxS 8 x0 (List.getD vs7 0 V.any)).bind fun v10 =>
 (ldp (some 8) v10).bind fun v11 =>
 (idxS 8 x1 (List.getD vs7 0 V.any)).bind fun v12 =>
 (ldp (some 8) v12).bind fun v13 =>
 (bin2 Tryd.prog BinOp.neq 92 (ot 20) (ot 24) v11 v13).bind fun v14 =>
 condV v14 (
 some (vb false)) (
 (bin2 Tryd.prog BinOp.add 3 (ot 15) (oc 1) (List.getD vs7 0 V.any) (vi 1)).bind fun v15 =>
 rec6 [v15])) (
 J5 [])) n) [(vi 0)]) := by kernel_rfl
noncomputable def t_railsame_Ops (a0 : (List T_Op)) (a1 : (List T_Op)) : Option Bool :=
 if (decide ((List.length a0 : Int) ≠ (List.length a1 : Int))) = true then (
 some false) else (
 join (fun (s7 : Unit) =>
 some true) fun j8 =>
 loopI a0 (fun (i16 : Int) x17 (s12 : Unit) k13 =>
 (idx a1 i16).bind fun r26 =>
 if (!decide (x17 = r26)) = true then (
 some false) else (
 k13 ())) (fun (s12 : Unit) =>
 j8 ()) ())
theorem ty_railsame_Ops {n : Nat} (hn : bigN ≤ n) (a0 : (List T_Op)) (a1 : (List T_Op)) : Rv (fun x : Bool => (vb x)) (sem_railsame_Ops n [(V.sl (List.map T_Op.c a0)), (V.sl (List.map T_Op.c a1))]) (t_railsame_Ops a0 a1) := by
  rw [eq_railsame_Ops]
  unfold t_railsame_Ops
  refine tb (x := (vi (List.length a0 : Int))) (p_len _) ?_
  refine tb (x := (vi (List.length a1 : Int))) (p_len _) ?_
  refine tb (x := (vb (decide ((List.length a0 : Int) ≠ (List.length a1 : Int))))) (d_neq) ?_
  refine tcond (fun h4 => ?_) (fun h4 => ?_)
  · exact rf_ret rfl
  · refine tjoin (mk := fun s7 : Unit => []) (fun s7 => ?_) fun J6 j8 h9 => ?_
    · exact rf_ret rfl
    · refine rf_loopI (mk := fun (i16 : Int) (s12 : Unit) => [(vi (i16 : Int))]) hn a0 () (fun i16 x17 h18 h19 h20 s12 rec10 k13 h14 => ?_) (fun s12 rec32 h31 => ?_)
      · refine tb (x := (vi (List.length a0 : Int))) (p_len _) ?_
        refine tb (x := (vb (decide ((i16 : Int) < (List.length a0 : Int))))) (d_lss) ?_
        refine tcond_t h20 ?_
        refine tb (x := (V.ptr (T_Op.c x17))) (p_idx_at (c := T_Op.c) (fun _ => rfl) h18) ?_
        refine tb (x := (T_Op.e x17)) (rfl) ?_
        refine tbo (p_idx (c := T_Op.c) (fun _ => rfl) a1 (i16 : Int)) fun r26 => ?_
        refine tb (x := (T_Op.e r26)) (rfl) ?_
        refine tb (x := (vb (!decide (x17 = r26)))) (T_Op.neq x17 r26) ?_
        refine tcond (fun h29 => ?_) (fun h29 => ?_)
        · exact rf_ret rfl
        · refine tb (x := (vi ((i16 : Int) + 1))) (p_incN h19) ?_
          exact h14 ()
      · refine tb (x := (vi (List.length a0 : Int))) (p_len _) ?_
        refine tb (x := (vb (decide ((List.length a0 : Int) < (List.length a0 : Int))))) (d_lss) ?_
        refine tcond_f h31 ?_
        exact h9 ()

/-! railpoint/change.Same -/
def an_change_Same : Ann := .seq (.reg 0 [] [] []) (.seq (.seq (.reg 0 [] [] []) (.seq (.reg 0 [] [] []) (.cond none (.seq (.reg 0 [] [] []) (.no)) (.no)))) (.seq (.seq (.reg 0 [] [] []) (.cond none (.seq (.reg 0 [] [] []) (.no)) (.no))) (.seq (.reg 0 [] [] []) (.seq (.reg 0 [] [] []) (.no)))))
noncomputable def sem_change_Same (n : Nat) (xs : List V) : Option V := if xs.length ≤ 33 then denF Tryd.prog (envOf [(90, (sem_change_both n)), (91, (sem_change_Alike n)), (92, (sem_change_diff n))]) n Tryd.f44 an_change_Same xs else none
theorem ok_change_Same (n : Nat) : SemOk Tryd.prog DW 44 (sem_change_Same n) := fun xs y h => by
  unfold sem_change_Same at h
  split at h
  · rename_i hl
    exact denF_ok stb Tryd.func44 (by kernel_rfl) (envOf_ok (semsOk_cons (ok_change_both n) (semsOk_cons (ok_change_Alike n) (semsOk_cons (ok_change_diff n) semsOk_nil)))) (by rw [Tryd.ntmps44]; exact hl) h
  · cases h
theorem eq_change_Same (n : Nat) (x0 x1 : V) : sem_change_Same n [x0, x1] =
 (V.cellsO x0).bind fun v1 =>
 (V.cellsO x1).bind fun v2 =>
 (ldk (some 4) (List.drop 0 v1)).bind fun v3 =>
 (ldk (some 4) (List.drop 0 v2)).bind fun v4 =>
 ((sem_change_both n) [v3, v4]).bind fun v5 =>
 (bin2 Tryd.prog BinOp.neq 35 (ot 12) (Operand.const Go.Value.nilIface) v5 vn).bind fun v6 =>
 condV v6 (
 some (V.tup [(vb false), v5])) (
 (ldk (some 4) (List.drop 0 v1)).bind fun v7 =>
 (ldk (some 4) (List.drop 0 v2)).bind fun v8 =>
 ((sem_change_Alike n) [v7, v8]).bind fun v9 =>
 (scal1 Tryd.prog (Op.unary Go.UnOp.not) v9).bind fun v10 =>
 condV v10 (
 some (V.tup [(vb false), vn])) (
 (ldk (some 4) (List.drop 0 v1)).bind fun v11 =>
 (ldk (some 4) (List.drop 0 v2)).bind fun v12 =>
 ((sem_change_diff n) [v11, v12]).bind fun v13 =>
 (extractV v13 0).bind fun v14 =>
 (extractV v13 1).bind fun v15 =>
 (bin2 Tryd.prog BinOp.eql 35 (ot 25) (Operand.const Go.Value.nilIface) v15 vn).bind fun v16 =>
 (guardV v16 true (some v14)).bind fun v17 =>
 (guardV v16 true ((lenS [v17]).bind fun v18 =>
 some v18)).bind fun v19 =>
 (guardV v16 true ((bin2 Tryd.prog BinOp.eql 3 (ot 29) (oc 0) v19 (vi 0)).bind fun v20 =>
 some v20)).bind fun v21 =>
 (pickV v16 v21 (vb false)).bind fun v22 =>
 some (V.tup [v22, v15]))) := by kernel_rfl
noncomputable def t_change_Same (a0 : T_Net) (a1 : T_Net) : Option (Bool × Int) :=
 (t_change_both a0 a1).bind fun r6 =>
 if (!decide (r6 = 0)) = true then (
 some (false, r6)) else (
 (t_change_Alike a0 a1).bind fun r12 =>
 if (!r12) = true then (
 some (false, 0)) else (
 (t_change_diff a0 a1).bind fun r18 =>
 some (((decide (r18.2 = 0)) && (decide ((List.length r18.1 : Int) = 0))), r18.2)))
theorem ty_change_Same {n : Nat} (hn : bigN ≤ n) (a0 : T_Net) (a1 : T_Net) : Rv (fun x : (Bool × Int) => V.tup [(vb x.1), (eV x.2)]) (sem_change_Same n [(T_Net.e a0), (T_Net.e a1)]) (t_change_Same a0 a1) := by
  rw [eq_change_Same]
  unfold t_change_Same
  refine tb (x := (T_Net.c a0)) rfl ?_
  refine tb (x := (T_Net.c a1)) rfl ?_
  refine tb (x := (T_Net.e a0)) (rfl) ?_
  refine tb (x := (T_Net.e a1)) (rfl) ?_
  refine tbo (ty_change_both hn a0 a1) fun r6 => ?_
  refine tb (x := (vb (!decide (r6 = 0)))) (p_err_neq _) ?_
  refine tcond (fun h8 => ?_) (fun h8 => ?_)
  · exact rf_ret rfl
  · refine tb (x := (T_Net.e a0)) (rfl) ?_
    refine tb (x := (T_Net.e a1)) (rfl) ?_
    refine tbo (ty_change_Alike hn a0 a1) fun r12 => ?_
    refine tb (x := (vb (!r12))) (d_not) ?_
    refine tcond (fun h14 => ?_) (fun h14 => ?_)
    · exact rf_ret rfl
    · refine tb (x := (T_Net.e a0)) (rfl) ?_
      refine tb (x := (T_Net.e a1)) (rfl) ?_
      refine tbo (ty_change_diff hn a0 a1) fun r18 => ?_
      refine tb (x := (V.sl (List.map T_Op.c r18.1))) (rfl) ?_
      refine tb (x := (eV r18.2)) (rfl) ?_
      refine tb (x := (vb (decide (r18.2 = 0)))) (p_err_eql _) ?_
      refine tg (x := (V.sl (List.map T_Op.c r18.1))) (fun h22 => rfl) ?_
      refine tg (x := (vi (List.length r18.1 : Int))) (fun h24 => by simp only [gv_t h24]; exact bind_some_eq (p_len _)) ?_
      refine tg (x := (vb (decide ((List.length r18.1 : Int) = 0)))) (fun h27 => by simp only [gv_t h27]; exact bind_some_eq (d_eql)) ?_
      refine tb (x := (vb ((decide (r18.2 = 0)) && (decide ((List.length r18.1 : Int) = 0))))) (pick_and (fun h9 => gv_t h9)) ?_
      exact rf_ret rfl

/-! slices.Reverse   railpoint/api.Op railpoint/api.Op  -/
def an_slices_Reverse_api_Op_api_Op : Ann := .seq (.reg 0 [] [] []) (.blk (some [.o 0]) (.loop [.o 0, .s 2, .s 3] (.seq (.seq (.reg 0 [] [] []) (.cond none (.no) (.no))) (.seq (.blk none (.reg 13 [] [] [])) (.reg 0 [] [] [])))))
noncomputable def sem_slices_Reverse_api_Op_api_Op (n : Nat) (xs : List V) : Option V := if xs.length ≤ 28 then denM Tryd.prog (envOf []) n Tryd.f94 an_slices_Reverse_api_Op_api_Op [1] none xs else none
theorem ok_slices_Reverse_api_Op_api_Op (n : Nat) : MSemOk Tryd.prog DW 94 (sem_slices_Reverse_api_Op_api_Op n) := fun xs y h => by
  unfold sem_slices_Reverse_api_Op_api_Op at h
  split at h
  · rename_i hl
    exact denM_ok Tryd.func94 (by kernel_rfl) (envOf_ok semsOk_nil) (by rw [Tryd.ntmps94]; exact hl) (by decide) h
  · cases h
theorem eq_slices_Reverse_api_Op_api_Op (n : Nat) (x0 : V) : sem_slices_Reverse_api_Op_api_Op n [x0] =
 ((oslR x0).map fun rows => V.lit (Go.Value.int Go.IntKind.i64 (List.length rows))).bind fun v1 =>
 (bin2 Tryd.prog BinOp.sub 3 (ot 5) (oc 1) v1 (vi 1)).bind fun v2 =>
 JoinPt (fun vs3 =>
 some (V.tup [(V.tup []), (List.getD vs3 0 V.any)])) fun J4 =>
 (fixN (fun rec5 vs6 =>
 (bin2 Tryd.prog BinOp.lss 3 (ot 7) (ot 8) (List.getD vs6 1 V.any) (List.getD vs6 2 V.any)).bind fun v7 =>
 condV v7 (
 ((oslR (List.getD vs6 0 V.any)).bind fun rows8 => inB (List.length rows8) (List.getD vs6 2 V.any)).bind fun v9 =>
 ((nodeL (List.getD vs6 0 V.any) (some (natOf (List.getD vs6 2 V.any))) 8).bind fun l10 => (ldk (some 8) (List.drop 0 l10)).bind pureO).bind fun v11 =>
 ((oslR (List.getD vs6 0 V.any)).bind fun rows12 => inB (List.length rows12) (List.getD vs6 1 V.any)).bind fun v13 =>
 ((nodeL (List.getD vs6 0 V.any) (some (natOf (List.getD vs6 1 V.any))) 8).bind fun l14 => (ldk (some 8) (List.drop 0 l14)).bind pureO).bind fun v15 =>
 ((oslR (List.getD vs6 0 V.any)).bind fun rows16 => inB (List.length rows16) (List.getD vs6 1 V.any)).bind fun v17 =>
 (V.cellsO v11).bind fun v18 =>
 (setV (List.getD vs6 0 V.any) [] (Stp.mk (some (natOf (List.getD vs6 1 V.any))) 0 8) 8 v18).bind fun v19 =>
 ((oslR v19).bind fun rows20 => inB (List.length rows20) (List.getD vs6 2 V.any)).bind fun v21 =>
 (V.cellsO v15).bind fun v22 =>
 (setV v19 [] (Stp.mk (some (natOf (List.getD vs6 2 V.any))) 0 8) 8 v22).bind fun v23 =>
 (bin2 Tryd.prog BinOp.add 3 (ot 10) (oc 1) (List.getD vs6 1 V.any) (vi 1)).bind fun v24 =>
 (bin2 Tryd.prog BinOp.sub 3 (ot 12) (oc 1) (List.getD vs6 2 V.any) (vi 1)).bind fun v25 =>
 rec5 [v23, v24, v25]) (
 J4 [(List.getD vs6 0 V.any)])) n) [x0, (vi 0), v2] := by kernel_rfl
noncomputable def t_slices_Reverse_api_Op_api_Op (a0 : (List T_Op)) : Option (List T_Op) :=
 (tfix (fun k11 (s10 : ((List T_Op) × Int × Int)) =>
 if (decide (s10.2.1 < s10.2.2)) = true then (
 need (decide (0 ≤ s10.2.2) && decide (s10.2.2 < (List.length s10.1 : Int))) (
 (idx s10.1 s10.2.2).bind fun r20 =>
 need (decide (0 ≤ s10.2.1) && decide (s10.2.1 < (List.length s10.1 : Int))) (
 (idx s10.1 s10.2.1).bind fun r24 =>
 need (decide (0 ≤ s10.2.1) && decide (s10.2.1 < (List.length s10.1 : Int))) (
 (oset s10.1 s10.2.1 r20).bind fun r29 =>
 need (decide (0 ≤ s10.2.2) && decide (s10.2.2 < (List.length r29 : Int))) (
 (oset r29 s10.2.2 r24).bind fun r34 =>
 k11 (r34, (wr (s10.2.1 + 1)), (wr (s10.2.2 - 1)))))))) else (
 some (s10.1))) bigN (a0, 0, (wr ((List.length a0 : Int) - 1)))).bind fun (s5 : (List T_Op)) =>
 some s5
theorem ty_slices_Reverse_api_Op_api_Op {n : Nat} (hn : bigN ≤ n) (a0 : (List T_Op)) : Rv (fun x : (List T_Op) => (V.tup [(V.tup []), (V.osl 8 (List.map T_Op.c x))])) (sem_slices_Reverse_api_Op_api_Op n [(V.osl 8 (List.map T_Op.c a0))]) (t_slices_Reverse_api_Op_api_Op a0) := by
  rw [eq_slices_Reverse_api_Op_api_Op]
  unfold t_slices_Reverse_api_Op_api_Op
  refine tb (x := (vi (List.length a0 : Int))) (p_olen _) ?_
  refine tb (x := (vi (wr ((List.length a0 : Int) - 1)))) (d_sub) ?_
  refine tjb (mk := fun s5 : (List T_Op) => [(V.osl 8 (List.map T_Op.c s5))]) (fun J4 => ?_) fun s5 => ?_
  · refine rf_fixN (mk := fun (s10 : ((List T_Op) × Int × Int)) => [(V.osl 8 (List.map T_Op.c s10.1)), (vi s10.2.1), (vi s10.2.2)]) hn (a0, 0, (wr ((List.length a0 : Int) - 1))) (fun rec8 k11 h12 s10 => ?_)
    refine tb (x := (vb (decide (s10.2.1 < s10.2.2)))) (d_lss) ?_
    refine tcond (fun h16 => ?_) (fun h16 => ?_)
    · refine tneed (x := V.any) (fun h40 => p_inB s10.1 s10.2.2 h40) fun h40 => ?_
      refine tbo (p_oload (e1 := fun x : T_Op => (T_Op.e x)) (c := T_Op.c) (fun _ => rfl) s10.1 s10.2.2 (fun _ => rfl)) fun r20 => ?_
      refine tneed (x := V.any) (fun h39 => p_inB s10.1 s10.2.1 h39) fun h39 => ?_
      refine tbo (p_oload (e1 := fun x : T_Op => (T_Op.e x)) (c := T_Op.c) (fun _ => rfl) s10.1 s10.2.1 (fun _ => rfl)) fun r24 => ?_
      refine tneed (x := V.any) (fun h38 => p_inB s10.1 s10.2.1 h38) fun h38 => ?_
      refine tb (x := T_Op.c r20) rfl ?_
      refine tbo (p_oset (c := T_Op.c) (fun _ => rfl) s10.1 s10.2.1 r20) fun r29 => ?_
      refine tneed (x := V.any) (fun h37 => p_inB r29 s10.2.2 h37) fun h37 => ?_
      refine tb (x := T_Op.c r24) rfl ?_
      refine tbo (p_oset (c := T_Op.c) (fun _ => rfl) r29 s10.2.2 r24) fun r34 => ?_
      refine tb (x := (vi (wr (s10.2.1 + 1)))) (d_add) ?_
      refine tb (x := (vi (wr (s10.2.2 - 1)))) (d_sub) ?_
      exact h12 (r34, (wr (s10.2.1 + 1)), (wr (s10.2.2 - 1)))
    · exact rf_j rfl
  · exact rf_ret rfl

/-! railpoint/change.Turn -/
def an_change_Turn : Ann := .seq (.reg 0 [] [] []) (.seq (.reg 0 [] [] [5]) (.seq (.reg 0 [] [] []) (.seq (.seq (.reg 0 [] [] []) (.blk (some [.o 0]) (.loop [.o 0, .s 10] (.seq (.reg 0 [] [] []) (.seq (.cond none (.no) (.no)) (.seq (.blk none (.seq (.reg 0 [] [] []) (.reg 0 [] [] []))) (.reg 0 [] [] []))))))) (.seq (.reg 0 [0] [] []) (.no)))))
noncomputable def sem_change_Turn (n : Nat) (xs : List V) : Option V := if xs.length ≤ 25 then denF Tryd.prog (envOf [(93 + 1000000, (semCloneM 8)), (94 + 1000000, (sem_slices_Reverse_api_Op_api_Op n))]) n Tryd.f45 an_change_Turn xs else none
theorem ok_change_Turn (n : Nat) : SemOk Tryd.prog DW 45 (sem_change_Turn n) := fun xs y h => by
  unfold sem_change_Turn at h
  split at h
  · rename_i hl
    exact denF_ok stb Tryd.func45 (by kernel_rfl) (envOf_ok (semsOk_consM (mok_slices_Clone_api_Op_api_Op) (semsOk_consM (ok_slices_Reverse_api_Op_api_Op n) semsOk_nil))) (by rw [Tryd.ntmps45]; exact hl) h
  · cases h
theorem eq_change_Turn (n : Nat) (x0 : V) : sem_change_Turn n [x0] =
 ((semCloneM 8) [x0]).bind fun z1 =>
 ((sem_slices_Reverse_api_Op_api_Op n) [(tupAt z1 0)]).bind fun z2 =>
 (pureO (tupAt z2 0)).bind fun v3 =>
 ((oslR (tupAt z2 1)).map fun rows => V.lit (Go.Value.int Go.IntKind.i64 (List.length rows))).bind fun v4 =>
 JoinPt (fun vs5 =>
 (some (frz (List.getD vs5 0 V.any))).bind fun v7 =>
 some v7) fun J6 =>
 (fixN (fun rec8 vs9 =>
 (bin2 Tryd.prog BinOp.lss 3 (ot 10) (ot 9) (List.getD vs9 1 V.any) v4).bind fun v10 =>
 condV v10 (
 ((oslR (List.getD vs9 0 V.any)).bind fun rows11 => inB (List.length rows11) (List.getD vs9 1 V.any)).bind fun v12 =>
 (some V.any).bind fun v13 =>
 ((nodeL (List.getD vs9 0 V.any) (some (natOf (List.getD vs9 1 V.any))) 8).bind fun l14 => (ldk none (List.drop 1 l14)).bind pureO).bind fun v15 =>
 (scal1 Tryd.prog (Op.unary Go.UnOp.not) v15).bind fun v16 =>
 ((oslR (List.getD vs9 0 V.any)).bind fun rows17 => inB (List.length rows17) (List.getD vs9 1 V.any)).bind fun v18 =>
 (some V.any).bind fun v19 =>
 (V.cellsO v16).bind fun v20 =>
 (setV (List.getD vs9 0 V.any) [] (Stp.mk (some (natOf (List.getD vs9 1 V.any))) 1 8) 1 v20).bind fun v21 =>
 (bin2 Tryd.prog BinOp.add 3 (ot 10) (oc 1) (List.getD vs9 1 V.any) (vi 1)).bind fun v22 =>
 rec8 [v21, v22]) (
 J6 [(List.getD vs9 0 V.any)])) n) [(tupAt z2 1), (vi 0)] := by kernel_rfl
noncomputable def t_change_Turn (a0 : (List T_Op)) : Option (List T_Op) :=
 (cln a0).bind fun r2 =>
 (t_slices_Reverse_api_Op_api_Op r2).bind fun r4 =>
 (loopI r4 (fun (i19 : Int) x20 (s15 : (List T_Op)) k16 =>
 need (decide (0 ≤ i19) && decide (i19 < (List.length s15 : Int))) (
 (idx s15 i19).bind fun r29 =>
 need (decide (0 ≤ i19) && decide (i19 < (List.length s15 : Int))) (
 (oupd s15 i19 (fun a_ : T_Op => (T_Op.mk a_.Switch (!r29.Add) a_.Rule))).bind fun r36 =>
 k16 (r36)))) (fun (s15 : (List T_Op)) =>
 some (s15)) (r4)).bind fun (s9 : (List T_Op)) =>
 some s9
theorem ty_change_Turn {n : Nat} (hn : bigN ≤ n) (a0 : (List T_Op)) : Rv (fun x : (List T_Op) => (V.sl (List.map T_Op.c x))) (sem_change_Turn n [(V.sl (List.map T_Op.c a0))]) (t_change_Turn a0) := by
  rw [eq_change_Turn]
  unfold t_change_Turn
  refine tbo (p_cloneM (c := T_Op.c) (fun _ => rfl) a0) fun r2 => ?_
  refine tbo (ty_slices_Reverse_api_Op_api_Op hn r2) fun r4 => ?_
  refine tb (x := (V.tup [])) rfl ?_
  refine tb (x := (vi (List.length r4 : Int))) (p_olen _) ?_
  refine tjb (mk := fun s9 : (List T_Op) => [(V.osl 8 (List.map T_Op.c s9))]) (fun J8 => ?_) fun s9 => ?_
  · refine rf_loopI (mk := fun (i19 : Int) (s15 : (List T_Op)) => [(V.osl 8 (List.map T_Op.c s15)), (vi (i19 : Int))]) hn r4 (r4) (fun i19 x20 h21 h22 h23 s15 rec13 k16 h17 => ?_) (fun s15 rec41 h40 => ?_)
    · refine tb (x := (vb (decide ((i19 : Int) < (List.length r4 : Int))))) (d_lss) ?_
      refine tcond_t h23 ?_
      refine tneed (x := V.any) (fun h39 => p_inB s15 (i19 : Int) h39) fun h39 => ?_
      refine tb (x := V.any) rfl ?_
      refine tbo (p_oload (e1 := fun x : T_Op => (vb x.Add)) (c := T_Op.c) (fun _ => rfl) s15 (i19 : Int) (fun _ => rfl)) fun r29 => ?_
      refine tb (x := (vb (!r29.Add))) (d_not) ?_
      refine tneed (x := V.any) (fun h38 => p_inB s15 (i19 : Int) h38) fun h38 => ?_
      refine tb (x := V.any) rfl ?_
      refine tb (x := [(vb (!r29.Add))]) rfl ?_
      refine tbo (p_oupd (c := T_Op.c) (cs := [(vb (!r29.Add))]) (off := 1) (kn := 1) (fun a_ : T_Op => (T_Op.mk a_.Switch (!r29.Add) a_.Rule)) (fun _ => rfl) (fun _ => rfl) s15 (i19 : Int)) fun r36 => ?_
      refine tb (x := (vi ((i19 : Int) + 1))) (p_incN h22) ?_
      exact h17 (r36)
    · refine tb (x := (vb (decide ((List.length r4 : Int) < (List.length r4 : Int))))) (d_lss) ?_
      refine tcond_f h40 ?_
      exact rf_j rfl
  · refine tb (x := (V.sl (List.map T_Op.c s9))) (p_frz (c := T_Op.c) (fun _ => rfl) s9) ?_
    exact rf_ret rfl

/-! railpoint/raillaw1.ChangeTells -/
def an_raillaw1_ChangeTells : Ann := .seq (.reg 0 [] [] []) (.seq (.reg 0 [] [] []) (.seq (.reg 0 [] [] []) (.seq (.reg 0 [] [] []) (.seq (.seq (.reg 0 [] [] []) (.cond (some [.kb 3, .kb 5, .s 8, .b 9]) (.reg 0 [] [] []) (.no))) (.seq (.reg 0 [] [] []) (.seq (.reg 0 [] [] []) (.seq (.reg 0 [] [] []) (.seq (.reg 0 [] [] []) (.seq (.seq (.reg 0 [] [] []) (.cond (some [.kb 3, .kb 5, .s 7]) (.reg 0 [] [] []) (.no))) (.seq (.reg 0 [] [] []) (.seq (.reg 0 [] [] []) (.seq (.reg 0 [] [] []) (.seq (.seq (.reg 0 [] [] []) (.cond (some [.kb 3, .kb 5, .s 8]) (.reg 0 [] [] []) (.no))) (.seq (.seq (.reg 0 [] [] []) (.cond (some [.kb 3, .kb 5, .s 16]) (.reg 0 [] [] []) (.no))) (.seq (.reg 0 [] [] []) (.seq (.reg 0 [] [] []) (.seq (.reg 0 [] [] []) (.seq (.reg 0 [] [] []) (.seq (.reg 0 [] [] []) (.seq (.reg 0 [] [] []) (.seq (.reg 0 [] [] []) (.seq (.seq (.reg 0 [] [] []) (.cond none (.seq (.reg 0 [] [] []) (.no)) (.no))) (.seq (.seq (.reg 0 [] [] []) (.blk (some []) (.loop [.s 24] (.seq (.seq (.reg 0 [] [] []) (.cond none (.no) (.no))) (.seq (.blk none (.seq (.reg 0 [] [] []) (.seq (.reg 28 [] [] []) (.cond none (.seq (.reg 0 [] [] []) (.no)) (.no))))) (.reg 0 [] [] [])))))) (.seq (.reg 0 [] [] []) (.no)))))))))))))))))))))))))
noncomputable def sem_raillaw1_ChangeTells (n : Nat) (xs : List V) : Option V := if xs.length ≤ 173 then denF Tryd.prog (envOf [(18, (sem_railref1_Net n)), (36, (sem_railref1_Apply n)), (37, (sem_change_Apply n)), (16, (sem_Error n)), (38, (sem_change_Check n)), (39, (sem_railsame_Net n)), (40, (sem_railref1_Alike n)), (41, (sem_railref1_Changes n)), (42, (sem_change_Diff n)), (43, (sem_railsame_Ops n)), (44, (sem_change_Same n)), (45, (sem_change_Turn n))]) n Tryd.f6 an_raillaw1_ChangeTells xs else none
theorem ok_raillaw1_ChangeTells (n : Nat) : SemOk Tryd.prog DW 6 (sem_raillaw1_ChangeTells n) := fun xs y h => by
  unfold sem_raillaw1_ChangeTells at h
  split at h
  · rename_i hl
    exact denF_ok stb Tryd.func6 (by kernel_rfl) (envOf_ok (semsOk_cons (ok_railref1_Net n) (semsOk_cons (ok_railref1_Apply n) (semsOk_cons (ok_change_Apply n) (semsOk_cons (ok_Error n) (semsOk_cons (ok_change_Check n) (semsOk_cons (ok_railsame_Net n) (semsOk_cons (ok_railref1_Alike n) (semsOk_cons (ok_railref1_Changes n) (semsOk_cons (ok_change_Diff n) (semsOk_cons (ok_railsame_Ops n) (semsOk_cons (ok_change_Same n) (semsOk_cons (ok_change_Turn n) semsOk_nil))))))))))))) (by rw [Tryd.ntmps6]; exact hl) h
  · cases h
theorem eq_raillaw1_ChangeTells (n : Nat) (x0 x1 x2 : V) : sem_raillaw1_ChangeTells n [x0, x1, x2] =
 (V.cellsO x0).bind fun v1 =>
 (V.cellsO x2).bind fun v2 =>
 (ldk (some 4) (List.drop 0 v1)).bind fun v3 =>
 ((sem_railref1_Net n) [v3]).bind fun v4 =>
 (bin2 Tryd.prog BinOp.eql 3 (ot 29) (oc 0) v4 (vi 0)).bind fun v5 =>
 JoinPt (fun vs6 =>
 (ldk (some 4) (List.drop 0 v1)).bind fun v8 =>
 ((sem_change_Apply n) [v8, x1]).bind fun v9 =>
 (extractV v9 0).bind fun v10 =>
 (extractV v9 1).bind fun v11 =>
 (spliceV [(vi 0), (V.sl []), (V.sl []), (V.sl [])] 0 4 v10).bind fun v12 =>
 ((sem_Error n) [v11, (List.getD vs6 0 V.any)]).bind fun v13 =>
 (ldk (some 4) (List.drop 0 v1)).bind fun v14 =>
 ((sem_change_Check n) [v14, x1]).bind fun v15 =>
 ((sem_Error n) [v15, (List.getD vs6 0 V.any)]).bind fun v16 =>
 (ldk (some 4) (List.drop 0 (aggL v12))).bind fun v17 =>
 (ldk (some 4) (List.drop 0 (aggL (List.getD vs6 1 V.any)))).bind fun v18 =>
 ((sem_railsame_Net n) [v17, v18]).bind fun v19 =>
 (bin2 Tryd.prog BinOp.eql 3 (ot 54) (oc 0) v4 (vi 0)).bind fun v20 =>
 JoinPt (fun vs21 =>
 (ldk (some 3) (List.drop 0 v1)).bind fun v23 =>
 (ldk (some 3) (List.drop 0 v2)).bind fun v24 =>
 ((sem_railref1_Alike n) [v23, v24]).bind fun v25 =>
 (bin2 Tryd.prog BinOp.eql 3 (ot 64) (oc 0) (List.getD vs21 0 V.any) (vi 0)).bind fun v26 =>
 (guardV v26 true (some v25)).bind fun v27 =>
 (guardV v26 true ((scal1 Tryd.prog (Op.unary Go.UnOp.not) v27).bind fun v28 =>
 some v28)).bind fun v29 =>
 (pickV v26 v29 (vb false)).bind fun v30 =>
 JoinPt (fun vs31 =>
 (bin2 Tryd.prog BinOp.eql 3 (ot 70) (oc 0) (List.getD vs31 0 V.any) (vi 0)).bind fun v33 =>
 JoinPt (fun vs34 =>
 (ldk (some 4) (List.drop 0 v1)).bind fun v36 =>
 (ldk (some 4) (List.drop 0 v2)).bind fun v37 =>
 ((sem_change_Diff n) [v36, v37]).bind fun v38 =>
 (extractV v38 0).bind fun v39 =>
 (extractV v38 1).bind fun v40 =>
 ((sem_Error n) [v40, (List.getD vs31 0 V.any)]).bind fun v41 =>
 ((sem_railsame_Ops n) [v39, (List.getD vs34 0 V.any)]).bind fun v42 =>
 (ldk (some 4) (List.drop 0 v1)).bind fun v43 =>
 (ldk (some 4) (List.drop 0 v2)).bind fun v44 =>
 ((sem_change_Same n) [v43, v44]).bind fun v45 =>
 (extractV v45 0).bind fun v46 =>
 (extractV v45 1).bind fun v47 =>
 ((sem_Error n) [v47, (List.getD vs21 0 V.any)]).bind fun v48 =>
 (bin2 Tryd.prog BinOp.eql 3 (ot 96) (oc 0) (List.getD vs31 0 V.any) (vi 0)).bind fun v49 =>
 (guardV v49 true (some (List.getD vs34 0 V.any))).bind fun v50 =>
 (guardV v49 true ((lenS [v50]).bind fun v51 =>
 some v51)).bind fun v52 =>
 (guardV v49 true ((bin2 Tryd.prog BinOp.eql 3 (ot 100) (oc 0) v52 (vi 0)).bind fun v53 =>
 some v53)).bind fun v54 =>
 (pickV v49 v54 (vb false)).bind fun v55 =>
 ((sem_change_Turn n) [x1]).bind fun v56 =>
 (lenS [v56]).bind fun v57 =>
 (lenS [x1]).bind fun v58 =>
 (bin2 Tryd.prog BinOp.neq 3 (ot 106) (ot 108) v57 v58).bind fun v59 =>
 condV v59 (
 some (vb false)) (
 JoinPt (fun vs60 =>
 (guardV v13 true (some v16)).bind fun v62 =>
 (pickV v13 v62 (vb false)).bind fun v63 =>
 (guardV v63 true (some v41)).bind fun v64 =>
 (pickV v63 v64 (vb false)).bind fun v65 =>
 (guardV v65 true (some v48)).bind fun v66 =>
 (pickV v65 v66 (vb false)).bind fun v67 =>
 (guardV v67 true (some v19)).bind fun v68 =>
 (pickV v67 v68 (vb false)).bind fun v69 =>
 (guardV v69 true (some v42)).bind fun v70 =>
 (pickV v69 v70 (vb false)).bind fun v71 =>
 (guardV v71 true (some v46)).bind fun v72 =>
 (guardV v71 true (some v55)).bind fun v73 =>
 (guardV v71 true ((bin2 Tryd.prog BinOp.eql 4 (ot 169) (ot 170) v72 v73).bind fun v74 =>
 some v74)).bind fun v75 =>
 (pickV v71 v75 (vb false)).bind fun v76 =>
 some v76) fun J61 =>
 (fixN (fun rec77 vs78 =>
 (lenS [x1]).bind fun v79 =>
 (bin2 Tryd.prog BinOp.lss 3 (ot 110) (ot 112) (List.getD vs78 0 V.any) v79).bind fun v80 =>
 condV v80 (
 (lenS [x1]).bind fun v81 =>
 (bin2 Tryd.prog BinOp.sub 3 (ot 118) (oc 1) v81 (vi 1)).bind fun v82 =>
 (bin2 Tryd.prog BinOp.sub 3 (ot 119) (ot 120) v82 (List.getD vs78 0 V.any)).bind fun v83 =>
 (idxS 8 x1 v83).bind fun v84 =>
 (ldp (some 8) v84).bind fun v85 =>
 (spliceV [(vi 0), (vb false), (vi 0), (vi 0), (vi 0), (vi 0), (vi 0), (vi 0)] 0 8 v85).bind fun v86 =>
 (idxS 8 v56 (List.getD vs78 0 V.any)).bind fun v87 =>
 (ptrF 0 v87).bind fun v88 =>
 (ldp none v88).bind fun v89 =>
 (ldk none (List.drop 0 (aggL v86))).bind fun v90 =>
 (bin2 Tryd.prog BinOp.neq 3 (ot 128) (ot 130) v89 v90).bind fun v91 =>
 (guardV v91 false (some v56)).bind fun v92 =>
 (guardV v91 false (some (List.getD vs78 0 V.any))).bind fun v93 =>
 (guardV v91 false ((idxS 8 v92 v93).bind fun v94 =>
 some v94)).bind fun v95 =>
 (guardV v91 false ((ptrF 1 v95).bind fun v96 =>
 some v96)).bind fun v97 =>
 (guardV v91 false ((ldp none v97).bind fun v98 =>
 some v98)).bind fun v99 =>
 (guardV v91 false (some V.any)).bind fun v100 =>
 (guardV v91 false ((gate v91 false (ldk none (List.drop 1 (aggL v86)))).bind fun v101 =>
 some v101)).bind fun v102 =>
 (guardV v91 false ((bin2 Tryd.prog BinOp.eql 4 (ot 137) (ot 139) v99 v102).bind fun v103 =>
 some v103)).bind fun v104 =>
 (pickV v91 (vb true) v104).bind fun v105 =>
 (guardV v105 false (some v56)).bind fun v106 =>
 (guardV v105 false (some (List.getD vs78 0 V.any))).bind fun v107 =>
 (guardV v105 false ((idxS 8 v106 v107).bind fun v108 =>
 some v108)).bind fun v109 =>
 (guardV v105 false ((ptrF 2 v109).bind fun v110 =>
 some v110)).bind fun v111 =>
 (guardV v105 false ((ldp (some 6) v111).bind fun v112 =>
 some v112)).bind fun v113 =>
 (guardV v105 false (some V.any)).bind fun v114 =>
 (guardV v105 false ((gate v105 false (ldk (some 6) (List.drop 2 (aggL v86)))).bind fun v115 =>
 some v115)).bind fun v116 =>
 (guardV v105 false ((bin2 Tryd.prog BinOp.neq 60 (ot 147) (ot 149) v113 v116).bind fun v117 =>
 some v117)).bind fun v118 =>
 (pickV v105 (vb true) v118).bind fun v119 =>
 condV v119 (
 some (vb false)) (
 (bin2 Tryd.prog BinOp.add 3 (ot 114) (oc 1) (List.getD vs78 0 V.any) (vi 1)).bind fun v120 =>
 rec77 [v120])) (
 J61 [])) n) [(vi 0)])) fun J35 =>
 condV v33 (
 (ldk (some 4) (List.drop 0 v1)).bind fun v121 =>
 (ldk (some 4) (List.drop 0 v2)).bind fun v122 =>
 ((sem_railref1_Changes n) [v121, v122]).bind fun v123 =>
 (keepO (some v1) (some v1) (keepO (some v2) (some v2) (some [v123]))).bind J35) (
 (keepO (some v1) (some v1) (keepO (some v2) (some v2) (some [(V.sl [])]))).bind J35)) fun J32 =>
 condV v30 (
 (keepO (some v1) (some v1) (keepO (some v2) (some v2) (some [(vi 3)]))).bind J32) (
 (keepO (some v1) (some v1) (keepO (some v2) (some v2) (some [(List.getD vs21 0 V.any)]))).bind J32)) fun J22 =>
 condV v20 (
 (ldk (some 4) (List.drop 0 v2)).bind fun v124 =>
 ((sem_railref1_Net n) [v124]).bind fun v125 =>
 (keepO (some v1) (some v1) (keepO (some v2) (some v2) (some [v125]))).bind J22) (
 (keepO (some v1) (some v1) (keepO (some v2) (some v2) (some [v4]))).bind J22)) fun J7 =>
 condV v5 (
 (ldk (some 4) (List.drop 0 v1)).bind fun v126 =>
 ((sem_railref1_Apply n) [v126, x1]).bind fun v127 =>
 (extractV v127 0).bind fun v128 =>
 (extractV v127 1).bind fun v129 =>
 (spliceV [(vi 0), (V.sl []), (V.sl []), (V.sl [])] 0 4 v128).bind fun v130 =>
 (keepO (some v1) (some v1) (keepO (some v2) (some v2) (some [v129, (V.agg (aggL v130))]))).bind J7) (
 (keepO (some v1) (some v1) (keepO (some v2) (some v2) (some [v4, (V.agg [(vi 0), (V.sl []), (V.sl []), (V.sl [])])]))).bind J7) := by kernel_rfl
noncomputable def t_raillaw1_ChangeTells (a0 : T_Net) (a1 : (List T_Op)) (a2 : T_Net) : Option Bool :=
 (t_railref1_Net a0).bind fun r5 =>
 (if (decide (r5 = 0)) = true then (
 (t_railref1_Apply a0 a1).bind fun r210 =>
 some (r210.2, r210.1)) else (
 some (r5, (T_Net.mk (T_Topo.mk 0 [] []) [])))).bind fun (s9 : (Int × T_Net)) =>
 (t_change_Apply a0 a1).bind fun r14 =>
 (t_railsame_Error r14.2 s9.1).bind fun r19 =>
 (t_change_Check a0 a1).bind fun r22 =>
 (t_railsame_Error r22 s9.1).bind fun r24 =>
 (t_railsame_Net r14.1 s9.2).bind fun r28 =>
 (if (decide (r5 = 0)) = true then (
 (t_railref1_Net a2).bind fun r206 =>
 some (r206)) else (
 some (r5))).bind fun (s32 : Int) =>
 (t_railref1_Alike a0.Topo a2.Topo).bind fun r38 =>
 (if ((decide (s32 = 0)) && (!r38)) = true then (
 some (3)) else (
 some (s32))).bind fun (s48 : Int) =>
 (if (decide (s48 = 0)) = true then (
 (t_railref1_Changes a0 a2).bind fun r201 =>
 some (r201)) else (
 some ([]))).bind fun (s54 : (List T_Op)) =>
 (t_change_Diff a0 a2).bind fun r60 =>
 (t_railsame_Error r60.2 s48).bind fun r64 =>
 (t_railsame_Ops r60.1 s54).bind fun r66 =>
 (t_change_Same a0 a2).bind fun r70 =>
 (t_railsame_Error r70.2 s32).bind fun r74 =>
 (t_change_Turn a1).bind fun r86 =>
 if (decide ((List.length r86 : Int) ≠ (List.length a1 : Int))) = true then (
 some false) else (
 join (fun (s93 : Unit) =>
 some ((((((r19 && r24) && r64) && r74) && r28) && r66) && (r70.1 == ((decide (s48 = 0)) && (decide ((List.length s54 : Int) = 0)))))) fun j94 =>
 loopI a1 (fun (i125 : Int) x126 (s121 : Unit) k122 =>
 (idx a1 (wr ((wr ((List.length a1 : Int) - 1)) - i125))).bind fun r136 =>
 (idx r86 i125).bind fun r140 =>
 (gd (!(decide (r140.Switch ≠ r136.Switch))) default (idx r86 i125)).bind fun r152 =>
 (gd (!((decide (r140.Switch ≠ r136.Switch)) || (r152.Add == r136.Add))) default (idx r86 i125)).bind fun r175 =>
 if (((decide (r140.Switch ≠ r136.Switch)) || (r152.Add == r136.Add)) || (!decide (r175.Rule = r136.Rule))) = true then (
 some false) else (
 k122 ())) (fun (s121 : Unit) =>
 j94 ()) ())
theorem ty_raillaw1_ChangeTells {n : Nat} (hn : bigN ≤ n) (a0 : T_Net) (a1 : (List T_Op)) (a2 : T_Net) : Rv (fun x : Bool => (vb x)) (sem_raillaw1_ChangeTells n [(T_Net.e a0), (V.sl (List.map T_Op.c a1)), (T_Net.e a2)]) (t_raillaw1_ChangeTells a0 a1 a2) := by
  rw [eq_raillaw1_ChangeTells]
  unfold t_raillaw1_ChangeTells
  refine tb (x := (T_Net.c a0)) rfl ?_
  refine tb (x := (T_Net.c a2)) rfl ?_
  refine tb (x := (T_Net.e a0)) (rfl) ?_
  refine tbo (ty_railref1_Net hn a0) fun r5 => ?_
  refine tb (x := (vb (decide (r5 = 0)))) (d_eql) ?_
  refine tjb (mk := fun s9 : (Int × T_Net) => [(vi s9.1), (V.agg (T_Net.c s9.2))]) (fun J8 => ?_) fun s9 => ?_
  · refine tcond (fun h207 => ?_) (fun h207 => ?_)
    · refine tb (x := (T_Net.e a0)) (rfl) ?_
      refine tbo (ty_railref1_Apply hn a0 a1) fun r210 => ?_
      refine tb (x := (T_Net.e r210.1)) (rfl) ?_
      refine tb (x := (vi r210.2)) (rfl) ?_
      refine tb (x := V.agg (T_Net.c r210.1)) (by kernel_rfl) ?_
      refine tkeepO2 ?_ rfl
      refine tkeepO2 ?_ rfl
      refine tsome ?_
      exact rf_j rfl
    · refine tkeepO2 ?_ rfl
      refine tkeepO2 ?_ rfl
      refine tsome ?_
      exact rf_j rfl
  · refine tb (x := (T_Net.e a0)) (rfl) ?_
    refine tbo (ty_change_Apply hn a0 a1) fun r14 => ?_
    refine tb (x := (T_Net.e r14.1)) (rfl) ?_
    refine tb (x := (eV r14.2)) (rfl) ?_
    refine tb (x := V.agg (T_Net.c r14.1)) (by kernel_rfl) ?_
    refine tbo (ty_railsame_Error r14.2 s9.1) fun r19 => ?_
    refine tb (x := (T_Net.e a0)) (rfl) ?_
    refine tbo (ty_change_Check hn a0 a1) fun r22 => ?_
    refine tbo (ty_railsame_Error r22 s9.1) fun r24 => ?_
    refine tb (x := (T_Net.e r14.1)) (rfl) ?_
    refine tb (x := (T_Net.e s9.2)) (rfl) ?_
    refine tbo (ty_railsame_Net hn r14.1 s9.2) fun r28 => ?_
    refine tb (x := (vb (decide (r5 = 0)))) (d_eql) ?_
    refine tjb (mk := fun s32 : Int => [(vi s32)]) (fun J31 => ?_) fun s32 => ?_
    · refine tcond (fun h203 => ?_) (fun h203 => ?_)
      · refine tb (x := (T_Net.e a2)) (rfl) ?_
        refine tbo (ty_railref1_Net hn a2) fun r206 => ?_
        refine tkeepO2 ?_ rfl
        refine tkeepO2 ?_ rfl
        refine tsome ?_
        exact rf_j rfl
      · refine tkeepO2 ?_ rfl
        refine tkeepO2 ?_ rfl
        refine tsome ?_
        exact rf_j rfl
    · refine tb (x := (T_Topo.e a0.Topo)) (rfl) ?_
      refine tb (x := (T_Topo.e a2.Topo)) (rfl) ?_
      refine tbo (ty_railref1_Alike hn a0.Topo a2.Topo) fun r38 => ?_
      refine tb (x := (vb (decide (s32 = 0)))) (d_eql) ?_
      refine tg (x := (vb r38)) (fun h40 => rfl) ?_
      refine tg (x := (vb (!r38))) (fun h42 => by simp only [gv_t h42]; exact bind_some_eq (d_not)) ?_
      refine tb (x := (vb ((decide (s32 = 0)) && (!r38)))) (pick_and (fun h9 => gv_t h9)) ?_
      refine tjb (mk := fun s48 : Int => [(vi s48)]) (fun J47 => ?_) fun s48 => ?_
      · refine tcond (fun h202 => ?_) (fun h202 => ?_)
        · refine tkeepO2 ?_ rfl
          refine tkeepO2 ?_ rfl
          refine tsome ?_
          exact rf_j rfl
        · refine tkeepO2 ?_ rfl
          refine tkeepO2 ?_ rfl
          refine tsome ?_
          exact rf_j rfl
      · refine tb (x := (vb (decide (s48 = 0)))) (d_eql) ?_
        refine tjb (mk := fun s54 : (List T_Op) => [(V.sl (List.map T_Op.c s54))]) (fun J53 => ?_) fun s54 => ?_
        · refine tcond (fun h197 => ?_) (fun h197 => ?_)
          · refine tb (x := (T_Net.e a0)) (rfl) ?_
            refine tb (x := (T_Net.e a2)) (rfl) ?_
            refine tbo (ty_railref1_Changes hn a0 a2) fun r201 => ?_
            refine tkeepO2 ?_ rfl
            refine tkeepO2 ?_ rfl
            refine tsome ?_
            exact rf_j rfl
          · refine tkeepO2 ?_ rfl
            refine tkeepO2 ?_ rfl
            refine tsome ?_
            exact rf_j rfl
        · refine tb (x := (T_Net.e a0)) (rfl) ?_
          refine tb (x := (T_Net.e a2)) (rfl) ?_
          refine tbo (ty_change_Diff hn a0 a2) fun r60 => ?_
          refine tb (x := (V.sl (List.map T_Op.c r60.1))) (rfl) ?_
          refine tb (x := (eV r60.2)) (rfl) ?_
          refine tbo (ty_railsame_Error r60.2 s48) fun r64 => ?_
          refine tbo (ty_railsame_Ops hn r60.1 s54) fun r66 => ?_
          refine tb (x := (T_Net.e a0)) (rfl) ?_
          refine tb (x := (T_Net.e a2)) (rfl) ?_
          refine tbo (ty_change_Same hn a0 a2) fun r70 => ?_
          refine tb (x := (vb r70.1)) (rfl) ?_
          refine tb (x := (eV r70.2)) (rfl) ?_
          refine tbo (ty_railsame_Error r70.2 s32) fun r74 => ?_
          refine tb (x := (vb (decide (s48 = 0)))) (d_eql) ?_
          refine tg (x := (V.sl (List.map T_Op.c s54))) (fun h76 => rfl) ?_
          refine tg (x := (vi (List.length s54 : Int))) (fun h78 => by simp only [gv_t h78]; exact bind_some_eq (p_len _)) ?_
          refine tg (x := (vb (decide ((List.length s54 : Int) = 0)))) (fun h81 => by simp only [gv_t h81]; exact bind_some_eq (d_eql)) ?_
          refine tb (x := (vb ((decide (s48 = 0)) && (decide ((List.length s54 : Int) = 0))))) (pick_and (fun h9 => gv_t h9)) ?_
          refine tbo (ty_change_Turn hn a1) fun r86 => ?_
          refine tb (x := (vi (List.length r86 : Int))) (p_len _) ?_
          refine tb (x := (vi (List.length a1 : Int))) (p_len _) ?_
          refine tb (x := (vb (decide ((List.length r86 : Int) ≠ (List.length a1 : Int))))) (d_neq) ?_
          refine tcond (fun h90 => ?_) (fun h90 => ?_)
          · exact rf_ret rfl
          · refine tjoin (mk := fun s93 : Unit => []) (fun s93 => ?_) fun J92 j94 h95 => ?_
            · refine tg (x := (vb r24)) (fun h96 => rfl) ?_
              refine tb (x := (vb (r19 && r24))) (pick_and (fun h9 => gv_t h9)) ?_
              refine tg (x := (vb r64)) (fun h99 => rfl) ?_
              refine tb (x := (vb ((r19 && r24) && r64))) (pick_and (fun h9 => gv_t h9)) ?_
              refine tg (x := (vb r74)) (fun h102 => rfl) ?_
              refine tb (x := (vb (((r19 && r24) && r64) && r74))) (pick_and (fun h9 => gv_t h9)) ?_
              refine tg (x := (vb r28)) (fun h105 => rfl) ?_
              refine tb (x := (vb ((((r19 && r24) && r64) && r74) && r28))) (pick_and (fun h9 => gv_t h9)) ?_
              refine tg (x := (vb r66)) (fun h108 => rfl) ?_
              refine tb (x := (vb (((((r19 && r24) && r64) && r74) && r28) && r66))) (pick_and (fun h9 => gv_t h9)) ?_
              refine tg (x := (vb r70.1)) (fun h111 => rfl) ?_
              refine tg (x := (vb ((decide (s48 = 0)) && (decide ((List.length s54 : Int) = 0))))) (fun h113 => rfl) ?_
              refine tg (x := (vb (r70.1 == ((decide (s48 = 0)) && (decide ((List.length s54 : Int) = 0)))))) (fun h115 => by simp only [gv_t h115]; exact bind_some_eq (p_eql_bool (Tryd.underlying4))) ?_
              refine tb (x := (vb ((((((r19 && r24) && r64) && r74) && r28) && r66) && (r70.1 == ((decide (s48 = 0)) && (decide ((List.length s54 : Int) = 0))))))) (pick_and (fun h9 => gv_t h9)) ?_
              exact rf_ret rfl
            · refine rf_loopI (mk := fun (i125 : Int) (s121 : Unit) => [(vi (i125 : Int))]) hn a1 () (fun i125 x126 h127 h128 h129 s121 rec119 k122 h123 => ?_) (fun s121 rec194 h193 => ?_)
              · refine tb (x := (vi (List.length a1 : Int))) (p_len _) ?_
                refine tb (x := (vb (decide ((i125 : Int) < (List.length a1 : Int))))) (d_lss) ?_
                refine tcond_t h129 ?_
                refine tb (x := (vi (List.length a1 : Int))) (p_len _) ?_
                refine tb (x := (vi (wr ((List.length a1 : Int) - 1)))) (d_sub) ?_
                refine tb (x := (vi (wr ((wr ((List.length a1 : Int) - 1)) - (i125 : Int))))) (d_sub) ?_
                refine tbo (p_idx (c := T_Op.c) (fun _ => rfl) a1 (wr ((wr ((List.length a1 : Int) - 1)) - (i125 : Int)))) fun r136 => ?_
                refine tb (x := (T_Op.e r136)) (rfl) ?_
                refine tb (x := V.agg (T_Op.c r136)) (by kernel_rfl) ?_
                refine tbo (p_idx (c := T_Op.c) (fun _ => rfl) r86 (i125 : Int)) fun r140 => ?_
                refine tb (x := (V.ptr (T_Op.c r140))) (rfl) ?_
                refine tb (x := (vi r140.Switch)) (rfl) ?_
                refine tb (x := (vi r136.Switch)) (rfl) ?_
                refine tb (x := (vb (decide (r140.Switch ≠ r136.Switch)))) (d_neq) ?_
                refine tg_f (x := (V.sl (List.map T_Op.c r86))) (fun h145 => rfl) ?_
                refine tg_f (x := (vi (i125 : Int))) (fun h147 => rfl) ?_
                refine tgo_f (fun h149 => by simp only [gv_t h149]; exact rf_bind_some (p_idx (c := T_Op.c) (fun _ => rfl) r86 (i125 : Int))) fun r152 => ?_
                refine tg_f (x := (V.ptr (List.drop 1 (T_Op.c r152)))) (fun h153 => by first | exact bind_some_eq (rfl) | (simp only [gv_t h153]; exact bind_some_eq (rfl))) ?_
                refine tg_f (x := (vb r152.Add)) (fun h156 => by first | exact bind_some_eq (rfl) | (simp only [gv_t h156]; exact bind_some_eq (rfl))) ?_
                refine tg_f (x := V.any) (fun h159 => rfl) ?_
                refine tg_f (x := (vb r136.Add)) (fun h161 => bind_some_eq (gate_pos (not_t h161) (rfl))) ?_
                refine tg_f (x := (vb (r152.Add == r136.Add))) (fun h164 => by simp only [gv_t h164]; exact bind_some_eq (p_eql_bool (Tryd.underlying4))) ?_
                refine tb (x := (vb ((decide (r140.Switch ≠ r136.Switch)) || (r152.Add == r136.Add)))) (pick_or (fun h9 => gv_t (not_f h9))) ?_
                refine tg_f (x := (V.sl (List.map T_Op.c r86))) (fun h168 => rfl) ?_
                refine tg_f (x := (vi (i125 : Int))) (fun h170 => rfl) ?_
                refine tgo_f (fun h172 => by simp only [gv_t h172]; exact rf_bind_some (p_idx (c := T_Op.c) (fun _ => rfl) r86 (i125 : Int))) fun r175 => ?_
                refine tg_f (x := (V.ptr (List.drop 2 (T_Op.c r175)))) (fun h176 => by first | exact bind_some_eq (rfl) | (simp only [gv_t h176]; exact bind_some_eq (rfl))) ?_
                refine tg_f (x := (T_Rule.e r175.Rule)) (fun h179 => by first | exact bind_some_eq (rfl) | (simp only [gv_t h179]; exact bind_some_eq (rfl))) ?_
                refine tg_f (x := V.any) (fun h182 => rfl) ?_
                refine tg_f (x := (T_Rule.e r136.Rule)) (fun h184 => bind_some_eq (gate_pos (not_t h184) (rfl))) ?_
                refine tg_f (x := (vb (!decide (r175.Rule = r136.Rule)))) (fun h187 => by simp only [gv_t h187]; exact bind_some_eq (T_Rule.neq r175.Rule r136.Rule)) ?_
                refine tb (x := (vb (((decide (r140.Switch ≠ r136.Switch)) || (r152.Add == r136.Add)) || (!decide (r175.Rule = r136.Rule))))) (pick_or (fun h9 => gv_t (not_f h9))) ?_
                refine tcond (fun h191 => ?_) (fun h191 => ?_)
                · exact rf_ret rfl
                · refine tb (x := (vi ((i125 : Int) + 1))) (p_incN h128) ?_
                  exact h123 ()
              · refine tb (x := (vi (List.length a1 : Int))) (p_len _) ?_
                refine tb (x := (vb (decide ((List.length a1 : Int) < (List.length a1 : Int))))) (d_lss) ?_
                refine tcond_f h193 ?_
                exact h95 ()

end Go.Proofs.YtpjadjoekdcjiaaDoor.Ty
