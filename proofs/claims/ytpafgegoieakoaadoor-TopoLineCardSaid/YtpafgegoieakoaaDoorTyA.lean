/- What functions do, as functions on plain types, written by a program and checked by the kernel. -/
import Derived.Test.YtpafgegoieakoaaDoorDenDoor
import Derived.Test.YtpafgegoieakoaaDoorTy
import Derived.Test.YtpafgegoieakoaaDoorTyE
import Derived.Test.YtpafgegoieakoaaDoorTyT
import Derived.Test.YtpafgegoieakoaaDoorTyO
import Derived.Test.YtpafgegoieakoaaDoorTyN
import Derived.Test.YtpafgegoieakoaaDoorTyM
import Derived.Test.YtpafgegoieakoaaDoorTyR
import Derived.Test.YtpafgegoieakoaaDoorTyS
import Derived.Test.YtpafgegoieakoaaDoorDen14
import Derived.Test.YtpafgegoieakoaaDoorShelf
import Derived.Test.YtpafgegoieakoaaDoorClone
namespace Go.Proofs.YtpafgegoieakoaaDoor.Ty
open Go Go.RowKit Go.Proofs.YtpafgegoieakoaaDoor.Den
set_option linter.unusedVariables false
set_option maxRecDepth 100000

def T_Spot.val (x : T_Spot) : Go.Value := .agg #[.int .i64 x.Switch, .int .i64 x.Port]
theorem T_Spot.mkey : MKey Tryd.prog 38 T_Spot.val where
  chk e a w := by kernel_rfl
  find vv l a w := find_ask Tryd.underlying38 (fun _ _ => rfl) (fun a b w => equal_of (T_Spot.run_eql a b w)) vv l a w
  sb a := by show Instr.sameBits (9999 + 1) _ _ = true; simp [Instr.sameBits, T_Spot.val]

/-! railpoint/railref1.Spot -/
def an_railref1_Spot : Ann := .seq (.reg 0 [] [] []) (.seq (.reg 0 [] [] []) (.no))
noncomputable def sem_railref1_Spot (n : Nat) (xs : List V) : Option V := if xs.length ≤ 25 then denF Tryd.prog (envOf []) n Tryd.f12 an_railref1_Spot xs else none
theorem ok_railref1_Spot (n : Nat) : SemOk Tryd.prog DW 12 (sem_railref1_Spot n) := fun xs y h => by
  unfold sem_railref1_Spot at h
  split at h
  · rename_i hl
    exact denF_ok stb Tryd.func12 (by kernel_rfl) (envOf_ok semsOk_nil) (by rw [Tryd.ntmps12]; exact hl) h
  · cases h
theorem eq_railref1_Spot (n : Nat) (x0 x1 : V) : sem_railref1_Spot n [x0, x1] =
 (V.cellsO x0).bind fun v1 =>
 (V.cellsO x1).bind fun v2 =>
 (ldk none (List.drop 0 v2)).bind fun v3 =>
 (bin2 Tryd.prog BinOp.geq 3 (ot 6) (oc 1) v3 (vi 1)).bind fun v4 =>
 (guardV v4 true (some V.any)).bind fun v5 =>
 (guardV v4 true ((gate v4 true (ldk none (List.drop 0 v2))).bind fun v6 =>
 some v6)).bind fun v7 =>
 (guardV v4 true (some V.any)).bind fun v8 =>
 (guardV v4 true ((gate v4 true (ldk none (List.drop 0 v1))).bind fun v9 =>
 some v9)).bind fun v10 =>
 (guardV v4 true ((bin2 Tryd.prog BinOp.leq 3 (ot 10) (ot 12) v7 v10).bind fun v11 =>
 some v11)).bind fun v12 =>
 (pickV v4 v12 (vb false)).bind fun v13 =>
 (guardV v13 true (some V.any)).bind fun v14 =>
 (guardV v13 true ((gate v13 true (ldk none (List.drop 1 v2))).bind fun v15 =>
 some v15)).bind fun v16 =>
 (guardV v13 true ((bin2 Tryd.prog BinOp.geq 3 (ot 17) (oc 1) v16 (vi 1)).bind fun v17 =>
 some v17)).bind fun v18 =>
 (pickV v13 v18 (vb false)).bind fun v19 =>
 (guardV v19 true (some V.any)).bind fun v20 =>
 (guardV v19 true ((gate v19 true (ldk none (List.drop 1 v2))).bind fun v21 =>
 some v21)).bind fun v22 =>
 (guardV v19 true ((bin2 Tryd.prog BinOp.leq 3 (ot 22) (oc 4) v22 (vi 4)).bind fun v23 =>
 some v23)).bind fun v24 =>
 (pickV v19 v24 (vb false)).bind fun v25 =>
 some v25 := by kernel_rfl
noncomputable def t_railref1_Spot (a0 : T_Topo) (a1 : T_Spot) : Option Bool :=
 some ((((decide (1 ≤ a1.Switch)) && (decide (a1.Switch ≤ a0.Switches))) && (decide (1 ≤ a1.Port))) && (decide (a1.Port ≤ 4)))
theorem ty_railref1_Spot {n : Nat} (hn : bigN ≤ n) (a0 : T_Topo) (a1 : T_Spot) : Rv (fun x : Bool => (vb x)) (sem_railref1_Spot n [(T_Topo.e a0), (T_Spot.e a1)]) (t_railref1_Spot a0 a1) := by
  rw [eq_railref1_Spot]
  unfold t_railref1_Spot
  refine tb (x := (T_Topo.c a0)) rfl ?_
  refine tb (x := (T_Spot.c a1)) rfl ?_
  refine tb (x := (vi a1.Switch)) (rfl) ?_
  refine tb (x := (vb (decide (1 ≤ a1.Switch)))) (d_geq) ?_
  refine tg (x := V.any) (fun h5 => rfl) ?_
  refine tg (x := (vi a1.Switch)) (fun h7 => bind_some_eq (gate_pos h7 (rfl))) ?_
  refine tg (x := V.any) (fun h10 => rfl) ?_
  refine tg (x := (vi a0.Switches)) (fun h12 => bind_some_eq (gate_pos h12 (rfl))) ?_
  refine tg (x := (vb (decide (a1.Switch ≤ a0.Switches)))) (fun h15 => by simp only [gv_t h15]; exact bind_some_eq (d_leq)) ?_
  refine tb (x := (vb ((decide (1 ≤ a1.Switch)) && (decide (a1.Switch ≤ a0.Switches))))) (pick_and (fun h9 => gv_t h9)) ?_
  refine tg (x := V.any) (fun h19 => rfl) ?_
  refine tg (x := (vi a1.Port)) (fun h21 => bind_some_eq (gate_pos h21 (rfl))) ?_
  refine tg (x := (vb (decide (1 ≤ a1.Port)))) (fun h24 => by simp only [gv_t h24]; exact bind_some_eq (d_geq)) ?_
  refine tb (x := (vb (((decide (1 ≤ a1.Switch)) && (decide (a1.Switch ≤ a0.Switches))) && (decide (1 ≤ a1.Port))))) (pick_and (fun h9 => gv_t h9)) ?_
  refine tg (x := V.any) (fun h28 => rfl) ?_
  refine tg (x := (vi a1.Port)) (fun h30 => bind_some_eq (gate_pos h30 (rfl))) ?_
  refine tg (x := (vb (decide (a1.Port ≤ 4)))) (fun h33 => by simp only [gv_t h33]; exact bind_some_eq (d_leq)) ?_
  refine tb (x := (vb ((((decide (1 ≤ a1.Switch)) && (decide (a1.Switch ≤ a0.Switches))) && (decide (1 ≤ a1.Port))) && (decide (a1.Port ≤ 4))))) (pick_and (fun h9 => gv_t h9)) ?_
  exact rf_ret rfl

/-! railpoint/railref1.Name -/
def an_railref1_Name : Ann := .seq (.reg 0 [] [] []) (.seq (.seq (.reg 0 [] [] []) (.cond none (.seq (.reg 0 [] [] []) (.no)) (.no))) (.seq (.seq (.reg 0 [] [] []) (.blk (some []) (.loop [.s 3] (.seq (.seq (.reg 0 [] [] []) (.cond none (.no) (.no))) (.seq (.blk none (.seq (.reg 0 [] [] []) (.cond none (.seq (.reg 0 [] [] []) (.no)) (.no)))) (.reg 0 [] [] [])))))) (.seq (.reg 0 [] [] []) (.no))))
noncomputable def sem_railref1_Name (n : Nat) (xs : List V) : Option V := if xs.length ≤ 27 then denF Tryd.prog (envOf []) n Tryd.f37 an_railref1_Name xs else none
theorem ok_railref1_Name (n : Nat) : SemOk Tryd.prog DW 37 (sem_railref1_Name n) := fun xs y h => by
  unfold sem_railref1_Name at h
  split at h
  · rename_i hl
    exact denF_ok stb Tryd.func37 (by kernel_rfl) (envOf_ok semsOk_nil) (by rw [Tryd.ntmps37]; exact hl) h
  · cases h
theorem eq_railref1_Name (n : Nat) (x0 : V) : sem_railref1_Name n [x0] =
 (bin2 Tryd.prog BinOp.eql 9 (ot 4) (Operand.const (Go.Value.string (ByteArray.mk #[]))) x0 (V.lit (Go.Value.string (ByteArray.mk #[])))).bind fun v1 =>
 (guardV v1 false (some x0)).bind fun v2 =>
 (guardV v1 false ((lenT [v2]).bind fun v3 =>
 some v3)).bind fun v4 =>
 (guardV v1 false ((bin2 Tryd.prog BinOp.gtr 3 (ot 8) (oc 6) v4 (vi 6)).bind fun v5 =>
 some v5)).bind fun v6 =>
 (pickV v1 (vb true) v6).bind fun v7 =>
 condV v7 (
 some (vb false)) (
 JoinPt (fun vs8 =>
 some (vb true)) fun J9 =>
 (fixN (fun rec10 vs11 =>
 (lenT [x0]).bind fun v12 =>
 (bin2 Tryd.prog BinOp.lss 3 (ot 11) (ot 13) (List.getD vs11 0 V.any) v12).bind fun v13 =>
 condV v13 (
 (scal2 Tryd.prog (Instr.index 9) x0 (List.getD vs11 0 V.any)).bind fun v14 =>
 (bin2 Tryd.prog BinOp.lss 5 (ot 19) (Operand.const (Go.Value.int Go.IntKind.u8 97)) v14 (V.lit (Go.Value.int Go.IntKind.u8 97))).bind fun v15 =>
 (guardV v15 false (some x0)).bind fun v16 =>
 (guardV v15 false (some (List.getD vs11 0 V.any))).bind fun v17 =>
 (guardV v15 false ((scal2 Tryd.prog (Instr.index 9) v16 v17).bind fun v18 =>
 some v18)).bind fun v19 =>
 (guardV v15 false ((bin2 Tryd.prog BinOp.gtr 5 (ot 24) (Operand.const (Go.Value.int Go.IntKind.u8 122)) v19 (V.lit (Go.Value.int Go.IntKind.u8 122))).bind fun v20 =>
 some v20)).bind fun v21 =>
 (pickV v15 (vb true) v21).bind fun v22 =>
 condV v22 (
 some (vb false)) (
 (bin2 Tryd.prog BinOp.add 3 (ot 15) (oc 1) (List.getD vs11 0 V.any) (vi 1)).bind fun v23 =>
 rec10 [v23])) (
 J9 [])) n) [(vi 0)]) := by kernel_rfl
noncomputable def t_railref1_Name (a0 : ByteArray) : Option Bool :=
 if ((decide (a0 = (ByteArray.mk #[]))) || (decide (6 < (a0.size : Int)))) = true then (
 some false) else (
 join (fun (s14 : Unit) =>
 some true) fun j15 =>
 loopU 0 (a0.size : Int) (fun (i23 : Int) (s19 : Unit) k20 =>
 (sidx a0 i23).bind fun r32 =>
 (gd (!(decide (r32 < 97))) default (sidx a0 i23)).bind fun r41 =>
 if ((decide (r32 < 97)) || (decide (122 < r41))) = true then (
 some false) else (
 k20 ())) (fun (i23 : Int) (s19 : Unit) =>
 j15 ()) ())
theorem ty_railref1_Name {n : Nat} (hn : bigN ≤ n) (a0 : ByteArray) : Rv (fun x : Bool => (vb x)) (sem_railref1_Name n [(vt a0)]) (t_railref1_Name a0) := by
  rw [eq_railref1_Name]
  unfold t_railref1_Name
  refine tb (x := (vb (decide (a0 = (ByteArray.mk #[]))))) (p_eql_str) ?_
  refine tg_f (x := (vt a0)) (fun h2 => rfl) ?_
  refine tg_f (x := (vi (a0.size : Int))) (fun h4 => by simp only [gv_t h4]; exact bind_some_eq (rfl)) ?_
  refine tg_f (x := (vb (decide (6 < (a0.size : Int))))) (fun h7 => by simp only [gv_t h7]; exact bind_some_eq (d_gtr)) ?_
  refine tb (x := (vb ((decide (a0 = (ByteArray.mk #[]))) || (decide (6 < (a0.size : Int)))))) (pick_or (fun h9 => gv_t (not_f h9))) ?_
  refine tcond (fun h11 => ?_) (fun h11 => ?_)
  · exact rf_ret rfl
  · refine tjoin (mk := fun s14 : Unit => []) (fun s14 => ?_) fun J13 j15 h16 => ?_
    · exact rf_ret rfl
    · refine rf_loopU (mk := fun (i23 : Int) (s19 : Unit) => [(vi i23)]) hn _ _ () (fun i23 h24 h25 h26 s19 rec17 k20 h21 => ?_) (fun i23 s19 rec28 h27 => ?_)
      · refine tb (x := (vi (a0.size : Int))) (rfl) ?_
        refine tb (x := (vb (decide (i23 < (a0.size : Int))))) (d_lss) ?_
        refine tcond_t h24 ?_
        refine tbo (p_sidx (Tryd.underlying9) a0 i23) fun r32 => ?_
        refine tb (x := (vb (decide (r32 < 97)))) (q_lss) ?_
        refine tg_f (x := (vt a0)) (fun h34 => rfl) ?_
        refine tg_f (x := (vi i23)) (fun h36 => rfl) ?_
        refine tgo_f (fun h38 => by simp only [gv_t h38]; exact rf_bind_some (p_sidx (Tryd.underlying9) a0 i23)) fun r41 => ?_
        refine tg_f (x := (vb (decide (122 < r41)))) (fun h42 => by simp only [gv_t h42]; exact bind_some_eq (q_gtr)) ?_
        refine tb (x := (vb ((decide (r32 < 97)) || (decide (122 < r41))))) (pick_or (fun h9 => gv_t (not_f h9))) ?_
        refine tcond (fun h46 => ?_) (fun h46 => ?_)
        · exact rf_ret rfl
        · refine tb (x := (vi (i23 + 1))) (p_inc h25 h26) ?_
          exact h21 ()
      · refine tb (x := (vi (a0.size : Int))) (rfl) ?_
        refine tb (x := (vb (decide (i23 < (a0.size : Int))))) (d_lss) ?_
        refine tcond_f h27 ?_
        exact h16 ()

/-! railpoint/railref1.Topo -/
def an_railref1_Topo : Ann := .seq (.reg 0 [] [] []) (.seq (.seq (.reg 0 [] [] []) (.cond none (.seq (.reg 0 [] [] []) (.no)) (.no))) (.seq (.seq (.reg 0 [] [] []) (.cond none (.seq (.reg 0 [] [] []) (.no)) (.no))) (.seq (.reg 0 [] [] []) (.seq (.seq (.reg 0 [] [] []) (.blk (some [.kb 1, .r 3 38]) (.loop [.kb 1, .r 3 38, .s 4] (.seq (.seq (.reg 0 [] [] []) (.cond none (.no) (.no))) (.seq (.blk (some [.kb 1, .r 3 38]) (.seq (.reg 0 [] [] []) (.seq (.reg 0 [] [] []) (.seq (.reg 0 [] [] []) (.seq (.seq (.reg 0 [] [] []) (.cond none (.seq (.reg 0 [] [] []) (.no)) (.no))) (.seq (.seq (.reg 0 [] [] []) (.cond none (.seq (.reg 0 [] [] []) (.no)) (.no))) (.seq (.seq (.reg 0 [] [] []) (.blk (some [.kb 1, .kb 5, .r 3 38]) (.loop [.kb 1, .kb 5, .r 3 38, .s 8] (.seq (.seq (.reg 0 [] [] []) (.cond none (.no) (.no))) (.seq (.blk none (.seq (.reg 16 [] [] []) (.cond none (.seq (.reg 0 [] [] []) (.no)) (.no)))) (.reg 0 [] [] [])))))) (.seq (.reg 0 [] [] []) (.reg 0 [] [] []))))))))) (.reg 0 [] [] [])))))) (.seq (.seq (.reg 0 [] [] []) (.blk (some []) (.loop [.kb 1, .r 3 38, .s 9] (.seq (.seq (.reg 0 [] [] []) (.cond none (.no) (.no))) (.seq (.blk (some [.kb 1, .r 3 38]) (.seq (.reg 0 [] [] []) (.seq (.reg 0 [] [] []) (.seq (.seq (.reg 0 [] [] []) (.cond none (.seq (.reg 0 [] [] []) (.no)) (.no))) (.seq (.reg 0 [] [] []) (.seq (.seq (.reg 0 [] [] []) (.cond none (.seq (.reg 0 [] [] []) (.no)) (.no))) (.seq (.seq (.reg 0 [] [] []) (.blk (some [.kb 1, .kb 10, .r 3 38]) (.loop [.kb 1, .kb 10, .r 3 38, .s 13] (.seq (.seq (.reg 0 [] [] []) (.cond none (.no) (.no))) (.seq (.blk none (.seq (.reg 9 [] [] []) (.cond none (.seq (.reg 0 [] [] []) (.no)) (.no)))) (.reg 0 [] [] [])))))) (.seq (.seq (.reg 0 [] [] []) (.blk (some [.kb 1, .kb 10, .r 3 38]) (.loop [.kb 1, .kb 10, .r 3 38, .s 14] (.seq (.seq (.reg 0 [] [] []) (.cond none (.no) (.no))) (.seq (.blk none (.seq (.reg 7 [] [] []) (.cond none (.seq (.reg 0 [] [] []) (.no)) (.no)))) (.reg 0 [] [] [])))))) (.reg 0 [] [] []))))))))) (.reg 0 [] [] [])))))) (.seq (.reg 0 [] [] []) (.no)))))))
noncomputable def sem_railref1_Topo (n : Nat) (xs : List V) : Option V := if xs.length ≤ 151 then denF Tryd.prog (envOf [(12, (sem_railref1_Spot n)), (37, (sem_railref1_Name n))]) n Tryd.f11 an_railref1_Topo xs else none
theorem ok_railref1_Topo (n : Nat) : SemOk Tryd.prog DW 11 (sem_railref1_Topo n) := fun xs y h => by
  unfold sem_railref1_Topo at h
  split at h
  · rename_i hl
    exact denF_ok stb Tryd.func11 (by kernel_rfl) (envOf_ok (semsOk_cons (ok_railref1_Spot n) (semsOk_cons (ok_railref1_Name n) semsOk_nil))) (by rw [Tryd.ntmps11]; exact hl) h
  · cases h
theorem eq_railref1_Topo (n : Nat) (x0 : V) : sem_railref1_Topo n [x0] =
 (V.cellsO x0).bind fun v1 =>
 (ldk none (List.drop 0 v1)).bind fun v2 =>
 (bin2 Tryd.prog BinOp.lss 3 (ot 16) (oc 1) v2 (vi 1)).bind fun v3 =>
 (guardV v3 false (some V.any)).bind fun v4 =>
 (guardV v3 false ((gate v3 false (ldk none (List.drop 0 v1))).bind fun v5 =>
 some v5)).bind fun v6 =>
 (guardV v3 false ((bin2 Tryd.prog BinOp.gtr 3 (ot 20) (oc 6) v6 (vi 6)).bind fun v7 =>
 some v7)).bind fun v8 =>
 (pickV v3 (vb true) v8).bind fun v9 =>
 condV v9 (
 some (vi 1)) (
 (ldk none (List.drop 1 v1)).bind fun v10 =>
 (lenS [v10]).bind fun v11 =>
 (bin2 Tryd.prog BinOp.gtr 3 (ot 25) (oc 200) v11 (vi 200)).bind fun v12 =>
 (guardV v12 false (some V.any)).bind fun v13 =>
 (guardV v12 false ((gate v12 false (ldk none (List.drop 2 v1))).bind fun v14 =>
 some v14)).bind fun v15 =>
 (guardV v12 false ((lenS [v15]).bind fun v16 =>
 some v16)).bind fun v17 =>
 (guardV v12 false ((bin2 Tryd.prog BinOp.gtr 3 (ot 30) (oc 8) v17 (vi 8)).bind fun v18 =>
 some v18)).bind fun v19 =>
 (pickV v12 (vb true) v19).bind fun v20 =>
 condV v20 (
 some (vi 4)) (
 JoinPt (fun vs21 =>
 JoinPt (fun vs23 =>
 some (vi 0)) fun J24 =>
 (keepO (some v1) (some v1) (some [(V.sl (slL (List.getD vs21 0 V.any))), (vi 0)])).bind (fixN (fun rec25 vs26 =>
 (ldk none (List.drop 2 v1)).bind fun v27 =>
 (lenS [v27]).bind fun v28 =>
 (bin2 Tryd.prog BinOp.lss 3 (ot 96) (ot 99) (List.getD vs26 1 V.any) v28).bind fun v29 =>
 condV v29 (
 JoinPt (fun vs30 =>
 (bin2 Tryd.prog BinOp.add 3 (ot 101) (oc 1) (List.getD vs26 1 V.any) (vi 1)).bind fun v32 =>
 (keepO (some v1) (some v1) (some [(V.sl (slL (List.getD vs30 0 V.any))), v32])).bind rec25) fun J31 =>
 (ldk none (List.drop 2 v1)).bind fun v33 =>
 (idxS 3 v33 (List.getD vs26 1 V.any)).bind fun v34 =>
 (ldp (some 3) v34).bind fun v35 =>
 (spliceV [(V.lit (Go.Value.string (ByteArray.mk #[]))), (vi 0), (vi 0)] 0 3 v35).bind fun v36 =>
 (ldk none (List.drop 0 (aggL v36))).bind fun v37 =>
 ((sem_railref1_Name n) [v37]).bind fun v38 =>
 (scal1 Tryd.prog (Op.unary Go.UnOp.not) v38).bind fun v39 =>
 condV v39 (
 some (vi 2)) (
 (ldk (some 3) (List.drop 0 v1)).bind fun v40 =>
 (ldk (some 2) (List.drop 1 (aggL v36))).bind fun v41 =>
 ((sem_railref1_Spot n) [v40, v41]).bind fun v42 =>
 (scal1 Tryd.prog (Op.unary Go.UnOp.not) v42).bind fun v43 =>
 condV v43 (
 some (vi 1)) (
 JoinPt (fun vs44 =>
 JoinPt (fun vs46 =>
 (ldk (some 2) (List.drop 1 (aggL v36))).bind fun v48 =>
 (slcB 2 1 [(vi 0), (vi 0)] [(0, v48)]).bind fun v49 =>
 (appV 2 (slL (List.getD vs46 0 V.any)) v49).bind fun v50 =>
 (keepO (some v1) (some v1) (some [(V.sl (slL v50))])).bind J31) fun J47 =>
 (keepO (some v1) (some v1) (keepO (some (aggL v36)) (some (aggL v36)) (some [(V.sl (slL (List.getD vs44 0 V.any))), (vi 0)]))).bind (fixN (fun rec51 vs52 =>
 (lenS [(V.sl (slL (List.getD vs52 0 V.any)))]).bind fun v53 =>
 (bin2 Tryd.prog BinOp.lss 3 (ot 133) (ot 135) (List.getD vs52 1 V.any) v53).bind fun v54 =>
 condV v54 (
 (idxS 2 (V.sl (slL (List.getD vs52 0 V.any))) (List.getD vs52 1 V.any)).bind fun v55 =>
 (ldp (some 2) v55).bind fun v56 =>
 (ldk (some 2) (List.drop 1 (aggL v36))).bind fun v57 =>
 (bin2 Tryd.prog BinOp.eql 38 (ot 142) (ot 144) v56 v57).bind fun v58 =>
 condV v58 (
 some (vi 7)) (
 (bin2 Tryd.prog BinOp.add 3 (ot 137) (oc 1) (List.getD vs52 1 V.any) (vi 1)).bind fun v59 =>
 (keepO (some v1) (some v1) (keepO (some (aggL v36)) (some (aggL v36)) (some [(V.sl (slL (List.getD vs52 0 V.any))), v59]))).bind rec51)) (
 (keepO (some v1) (some v1) (keepO (some (aggL v36)) (some (aggL v36)) (some [(V.sl (slL (List.getD vs52 0 V.any)))]))).bind J47)) n)) fun J45 =>
 (keepO (some v1) (some v1) (keepO (some (aggL v36)) (some (aggL v36)) (some [(V.sl (slL (List.getD vs26 0 V.any))), (vi 0)]))).bind (fixN (fun rec60 vs61 =>
 (bin2 Tryd.prog BinOp.lss 3 (ot 119) (ot 120) (List.getD vs61 1 V.any) (List.getD vs26 1 V.any)).bind fun v62 =>
 condV v62 (
 (ldk none (List.drop 2 v1)).bind fun v63 =>
 (idxS 3 v63 (List.getD vs61 1 V.any)).bind fun v64 =>
 (ptrF 0 v64).bind fun v65 =>
 (ldp none v65).bind fun v66 =>
 (ldk none (List.drop 0 (aggL v36))).bind fun v67 =>
 (bin2 Tryd.prog BinOp.eql 9 (ot 129) (ot 131) v66 v67).bind fun v68 =>
 condV v68 (
 some (vi 7)) (
 (bin2 Tryd.prog BinOp.add 3 (ot 122) (oc 1) (List.getD vs61 1 V.any) (vi 1)).bind fun v69 =>
 (keepO (some v1) (some v1) (keepO (some (aggL v36)) (some (aggL v36)) (some [(V.sl (slL (List.getD vs61 0 V.any))), v69]))).bind rec60)) (
 (keepO (some v1) (some v1) (keepO (some (aggL v36)) (some (aggL v36)) (some [(V.sl (slL (List.getD vs61 0 V.any)))]))).bind J45)) n)))) (
 J24 [])) n)) fun J22 =>
 (keepO (some v1) (some v1) (some [(V.sl []), (vi 0)])).bind (fixN (fun rec70 vs71 =>
 (ldk none (List.drop 1 v1)).bind fun v72 =>
 (lenS [v72]).bind fun v73 =>
 (bin2 Tryd.prog BinOp.lss 3 (ot 33) (ot 36) (List.getD vs71 1 V.any) v73).bind fun v74 =>
 condV v74 (
 JoinPt (fun vs75 =>
 (bin2 Tryd.prog BinOp.add 3 (ot 38) (oc 1) (List.getD vs71 1 V.any) (vi 1)).bind fun v77 =>
 (keepO (some v1) (some v1) (some [(V.sl (slL (List.getD vs75 0 V.any))), v77])).bind rec70) fun J76 =>
 (ldk none (List.drop 1 v1)).bind fun v78 =>
 (idxS 4 v78 (List.getD vs71 1 V.any)).bind fun v79 =>
 (ldp (some 4) v79).bind fun v80 =>
 (spliceV [(vi 0), (vi 0), (vi 0), (vi 0)] 0 4 v80).bind fun v81 =>
 (ldk (some 3) (List.drop 0 v1)).bind fun v82 =>
 (ldk (some 2) (List.drop 0 (aggL v81))).bind fun v83 =>
 ((sem_railref1_Spot n) [v82, v83]).bind fun v84 =>
 (ldk (some 3) (List.drop 0 v1)).bind fun v85 =>
 (ldk (some 2) (List.drop 2 (aggL v81))).bind fun v86 =>
 ((sem_railref1_Spot n) [v85, v86]).bind fun v87 =>
 (scal1 Tryd.prog (Op.unary Go.UnOp.not) v84).bind fun v88 =>
 (guardV v88 false (some v87)).bind fun v89 =>
 (guardV v88 false ((scal1 Tryd.prog (Op.unary Go.UnOp.not) v89).bind fun v90 =>
 some v90)).bind fun v91 =>
 (pickV v88 (vb true) v91).bind fun v92 =>
 condV v92 (
 some (vi 1)) (
 (ldk (some 2) (List.drop 0 (aggL v81))).bind fun v93 =>
 (ldk (some 2) (List.drop 2 (aggL v81))).bind fun v94 =>
 (bin2 Tryd.prog BinOp.eql 38 (ot 60) (ot 62) v93 v94).bind fun v95 =>
 condV v95 (
 some (vi 7)) (
 JoinPt (fun vs96 =>
 (ldk (some 2) (List.drop 0 (aggL v81))).bind fun v98 =>
 (slcB 2 1 [(vi 0), (vi 0)] [(0, v98)]).bind fun v99 =>
 (appV 2 (slL (List.getD vs96 0 V.any)) v99).bind fun v100 =>
 (ldk (some 2) (List.drop 2 (aggL v81))).bind fun v101 =>
 (slcB 2 1 [(vi 0), (vi 0)] [(0, v101)]).bind fun v102 =>
 (appV 2 (slL v100) v102).bind fun v103 =>
 (keepO (some v1) (some v1) (some [(V.sl (slL v103))])).bind J76) fun J97 =>
 (keepO (some v1) (some v1) (keepO (some (aggL v81)) (some (aggL v81)) (some [(V.sl (slL (List.getD vs71 0 V.any))), (vi 0)]))).bind (fixN (fun rec104 vs105 =>
 (lenS [(V.sl (slL (List.getD vs105 0 V.any)))]).bind fun v106 =>
 (bin2 Tryd.prog BinOp.lss 3 (ot 64) (ot 66) (List.getD vs105 1 V.any) v106).bind fun v107 =>
 condV v107 (
 (idxS 2 (V.sl (slL (List.getD vs105 0 V.any))) (List.getD vs105 1 V.any)).bind fun v108 =>
 (ldp (some 2) v108).bind fun v109 =>
 (ldk (some 2) (List.drop 0 (aggL v81))).bind fun v110 =>
 (bin2 Tryd.prog BinOp.eql 38 (ot 73) (ot 75) v109 v110).bind fun v111 =>
 (guardV v111 false (some (V.sl (slL (List.getD vs105 0 V.any))))).bind fun v112 =>
 (guardV v111 false (some (List.getD vs105 1 V.any))).bind fun v113 =>
 (guardV v111 false ((idxS 2 v112 v113).bind fun v114 =>
 some v114)).bind fun v115 =>
 (guardV v111 false ((ldp (some 2) v115).bind fun v116 =>
 some v116)).bind fun v117 =>
 (guardV v111 false (some V.any)).bind fun v118 =>
 (guardV v111 false ((gate v111 false (ldk (some 2) (List.drop 2 (aggL v81)))).bind fun v119 =>
 some v119)).bind fun v120 =>
 (guardV v111 false ((bin2 Tryd.prog BinOp.eql 38 (ot 81) (ot 83) v117 v120).bind fun v121 =>
 some v121)).bind fun v122 =>
 (pickV v111 (vb true) v122).bind fun v123 =>
 condV v123 (
 some (vi 7)) (
 (bin2 Tryd.prog BinOp.add 3 (ot 68) (oc 1) (List.getD vs105 1 V.any) (vi 1)).bind fun v124 =>
 (keepO (some v1) (some v1) (keepO (some (aggL v81)) (some (aggL v81)) (some [(V.sl (slL (List.getD vs105 0 V.any))), v124]))).bind rec104)) (
 (keepO (some v1) (some v1) (keepO (some (aggL v81)) (some (aggL v81)) (some [(V.sl (slL (List.getD vs105 0 V.any)))]))).bind J97)) n)))) (
 (keepO (some v1) (some v1) (some [(V.sl (slL (List.getD vs71 0 V.any)))])).bind J22)) n))) := by kernel_rfl
noncomputable def t_railref1_Topo (a0 : T_Topo) : Option Int :=
 if ((decide (a0.Switches < 1)) || (decide (6 < a0.Switches))) = true then (
 some 1) else (
 if ((decide (200 < (List.length a0.Links : Int))) || (decide (8 < (List.length a0.Hosts : Int)))) = true then (
 some 4) else (
 join (fun (s32 : (List T_Spot)) =>
 join (fun (s37 : Unit) =>
 some 0) fun j38 =>
 loopI a0.Hosts (fun (i46 : Int) x47 (s42 : (List T_Spot)) k43 =>
 join (fun (s56 : (List T_Spot)) =>
 k43 (s56)) fun j57 =>
 (t_railref1_Name x47.Name).bind fun r66 =>
 if (!r66) = true then (
 some 2) else (
 (t_railref1_Spot a0 x47.At).bind fun r72 =>
 if (!r72) = true then (
 some 1) else (
 join (fun (s77 : (List T_Spot)) =>
 join (fun (s82 : (List T_Spot)) =>
 (app s82 ([x47.At] : (List T_Spot))).bind fun r88 =>
 j57 (r88)) fun j83 =>
 loopI s77 (fun (i95 : Int) x96 (s91 : Unit) k92 =>
 if (decide (x96 = x47.At)) = true then (
 some 7) else (
 k92 ())) (fun (s91 : Unit) =>
 j83 (s77)) ()) fun j78 =>
 loopU 0 i46 (fun (i118 : Int) (s114 : Unit) k115 =>
 (idx a0.Hosts i118).bind fun r127 =>
 if (decide (r127.Name = x47.Name)) = true then (
 some 7) else (
 k115 ())) (fun (i118 : Int) (s114 : Unit) =>
 j78 (s42)) ()))) (fun (s42 : (List T_Spot)) =>
 j38 ()) (s32)) fun j33 =>
 loopI a0.Links (fun (i146 : Int) x147 (s142 : (List T_Spot)) k143 =>
 join (fun (s156 : (List T_Spot)) =>
 k143 (s156)) fun j157 =>
 (t_railref1_Spot a0 x147.A).bind fun r167 =>
 (t_railref1_Spot a0 x147.B).bind fun r171 =>
 if ((!r167) || (!r171)) = true then (
 some 1) else (
 if (decide (x147.A = x147.B)) = true then (
 some 7) else (
 join (fun (s186 : (List T_Spot)) =>
 (app s186 ([x147.A] : (List T_Spot))).bind fun r192 =>
 (app r192 ([x147.B] : (List T_Spot))).bind fun r196 =>
 j157 (r196)) fun j187 =>
 loopI s142 (fun (i203 : Int) x204 (s199 : Unit) k200 =>
 if ((decide (x204 = x147.A)) || (decide (x204 = x147.B))) = true then (
 some 7) else (
 k200 ())) (fun (s199 : Unit) =>
 j187 (s142)) ()))) (fun (s142 : (List T_Spot)) =>
 j33 (s142)) ([])))
theorem ty_railref1_Topo {n : Nat} (hn : bigN ≤ n) (a0 : T_Topo) : Rv (fun x : Int => (vi x)) (sem_railref1_Topo n [(T_Topo.e a0)]) (t_railref1_Topo a0) := by
  rw [eq_railref1_Topo]
  unfold t_railref1_Topo
  refine tb (x := (T_Topo.c a0)) rfl ?_
  refine tb (x := (vi a0.Switches)) (rfl) ?_
  refine tb (x := (vb (decide (a0.Switches < 1)))) (d_lss) ?_
  refine tg_f (x := V.any) (fun h4 => rfl) ?_
  refine tg_f (x := (vi a0.Switches)) (fun h6 => bind_some_eq (gate_pos (not_t h6) (rfl))) ?_
  refine tg_f (x := (vb (decide (6 < a0.Switches)))) (fun h9 => by simp only [gv_t h9]; exact bind_some_eq (d_gtr)) ?_
  refine tb (x := (vb ((decide (a0.Switches < 1)) || (decide (6 < a0.Switches))))) (pick_or (fun h9 => gv_t (not_f h9))) ?_
  refine tcond (fun h13 => ?_) (fun h13 => ?_)
  · exact rf_ret rfl
  · refine tb (x := (V.sl (List.map T_Link.c a0.Links))) (rfl) ?_
    refine tb (x := (vi (List.length a0.Links : Int))) (p_len _) ?_
    refine tb (x := (vb (decide (200 < (List.length a0.Links : Int))))) (d_gtr) ?_
    refine tg_f (x := V.any) (fun h17 => rfl) ?_
    refine tg_f (x := (V.sl (List.map T_Host.c a0.Hosts))) (fun h19 => bind_some_eq (gate_pos (not_t h19) (rfl))) ?_
    refine tg_f (x := (vi (List.length a0.Hosts : Int))) (fun h22 => by simp only [gv_t h22]; exact bind_some_eq (p_len _)) ?_
    refine tg_f (x := (vb (decide (8 < (List.length a0.Hosts : Int))))) (fun h25 => by simp only [gv_t h25]; exact bind_some_eq (d_gtr)) ?_
    refine tb (x := (vb ((decide (200 < (List.length a0.Links : Int))) || (decide (8 < (List.length a0.Hosts : Int)))))) (pick_or (fun h9 => gv_t (not_f h9))) ?_
    refine tcond (fun h29 => ?_) (fun h29 => ?_)
    · exact rf_ret rfl
    · refine tjoin (mk := fun s32 : (List T_Spot) => [(V.sl (List.map T_Spot.c s32))]) (fun s32 => ?_) fun J31 j33 h34 => ?_
      · refine tjoin (mk := fun s37 : Unit => []) (fun s37 => ?_) fun J36 j38 h39 => ?_
        · exact rf_ret rfl
        · refine tkeepO2 ?_ rfl
          refine tsome ?_
          refine rf_loopI (mk := fun (i46 : Int) (s42 : (List T_Spot)) => [(V.sl (List.map T_Spot.c s42)), (vi (i46 : Int))]) hn a0.Hosts (s32) (fun i46 x47 h48 h49 h50 s42 rec40 k43 h44 => ?_) (fun s42 rec136 h135 => ?_)
          · refine tb (x := (V.sl (List.map T_Host.c a0.Hosts))) (rfl) ?_
            refine tb (x := (vi (List.length a0.Hosts : Int))) (p_len _) ?_
            refine tb (x := (vb (decide ((i46 : Int) < (List.length a0.Hosts : Int))))) (d_lss) ?_
            refine tcond_t h50 ?_
            refine tjoin (mk := fun s56 : (List T_Spot) => [(V.sl (List.map T_Spot.c s56))]) (fun s56 => ?_) fun J55 j57 h58 => ?_
            · refine tb (x := (vi ((i46 : Int) + 1))) (p_incN h49) ?_
              refine tkeepO2 ?_ rfl
              refine tsome ?_
              exact h44 (s56)
            · refine tb (x := (V.sl (List.map T_Host.c a0.Hosts))) (rfl) ?_
              refine tb (x := (V.ptr (T_Host.c x47))) (p_idx_at (c := T_Host.c) (fun _ => rfl) h48) ?_
              refine tb (x := (T_Host.e x47)) (rfl) ?_
              refine tb (x := V.agg (T_Host.c x47)) (by kernel_rfl) ?_
              refine tb (x := (vt x47.Name)) (rfl) ?_
              refine tbo (ty_railref1_Name hn x47.Name) fun r66 => ?_
              refine tb (x := (vb (!r66))) (d_not) ?_
              refine tcond (fun h68 => ?_) (fun h68 => ?_)
              · exact rf_ret rfl
              · refine tb (x := (T_Topo.e a0)) (rfl) ?_
                refine tb (x := (T_Spot.e x47.At)) (rfl) ?_
                refine tbo (ty_railref1_Spot hn a0 x47.At) fun r72 => ?_
                refine tb (x := (vb (!r72))) (d_not) ?_
                refine tcond (fun h74 => ?_) (fun h74 => ?_)
                · exact rf_ret rfl
                · refine tjoin (mk := fun s77 : (List T_Spot) => [(V.sl (List.map T_Spot.c s77))]) (fun s77 => ?_) fun J76 j78 h79 => ?_
                  · refine tjoin (mk := fun s82 : (List T_Spot) => [(V.sl (List.map T_Spot.c s82))]) (fun s82 => ?_) fun J81 j83 h84 => ?_
                    · refine tb (x := (T_Spot.e x47.At)) (rfl) ?_
                      refine tb (x := (V.sl (List.map T_Spot.c ([x47.At] : (List T_Spot))))) (by kernel_rfl) ?_
                      refine tbo (p_app (c := T_Spot.c) (fun _ => rfl) s82 ([x47.At] : (List T_Spot))) fun r88 => ?_
                      refine tkeepO2 ?_ rfl
                      refine tsome ?_
                      exact h58 (r88)
                    · refine tkeepO2 ?_ rfl
                      refine tkeepO2 ?_ rfl
                      refine tsome ?_
                      refine rf_loopI (mk := fun (i95 : Int) (s91 : Unit) => [(V.sl (List.map T_Spot.c s77)), (vi (i95 : Int))]) hn s77 () (fun i95 x96 h97 h98 h99 s91 rec89 k92 h93 => ?_) (fun s91 rec109 h108 => ?_)
                      · refine tb (x := (vi (List.length s77 : Int))) (p_len _) ?_
                        refine tb (x := (vb (decide ((i95 : Int) < (List.length s77 : Int))))) (d_lss) ?_
                        refine tcond_t h99 ?_
                        refine tb (x := (V.ptr (T_Spot.c x96))) (p_idx_at (c := T_Spot.c) (fun _ => rfl) h97) ?_
                        refine tb (x := (T_Spot.e x96)) (rfl) ?_
                        refine tb (x := (T_Spot.e x47.At)) (rfl) ?_
                        refine tb (x := (vb (decide (x96 = x47.At)))) (T_Spot.eql x96 x47.At) ?_
                        refine tcond (fun h106 => ?_) (fun h106 => ?_)
                        · exact rf_ret rfl
                        · refine tb (x := (vi ((i95 : Int) + 1))) (p_incN h98) ?_
                          refine tkeepO2 ?_ rfl
                          refine tkeepO2 ?_ rfl
                          refine tsome ?_
                          exact h93 ()
                      · refine tb (x := (vi (List.length s77 : Int))) (p_len _) ?_
                        refine tb (x := (vb (decide ((List.length s77 : Int) < (List.length s77 : Int))))) (d_lss) ?_
                        refine tcond_f h108 ?_
                        refine tkeepO2 ?_ rfl
                        refine tkeepO2 ?_ rfl
                        refine tsome ?_
                        exact h84 (s77)
                  · refine tkeepO2 ?_ rfl
                    refine tkeepO2 ?_ rfl
                    refine tsome ?_
                    refine rf_loopU (mk := fun (i118 : Int) (s114 : Unit) => [(V.sl (List.map T_Spot.c s42)), (vi i118)]) hn _ _ () (fun i118 h119 h120 h121 s114 rec112 k115 h116 => ?_) (fun i118 s114 rec123 h122 => ?_)
                    · refine tb (x := (vb (decide (i118 < (i46 : Int))))) (d_lss) ?_
                      refine tcond_t h119 ?_
                      refine tb (x := (V.sl (List.map T_Host.c a0.Hosts))) (rfl) ?_
                      refine tbo (p_idx (c := T_Host.c) (fun _ => rfl) a0.Hosts i118) fun r127 => ?_
                      refine tb (x := (V.ptr (T_Host.c r127))) (rfl) ?_
                      refine tb (x := (vt r127.Name)) (rfl) ?_
                      refine tb (x := (vt x47.Name)) (rfl) ?_
                      refine tb (x := (vb (decide (r127.Name = x47.Name)))) (p_eql_str) ?_
                      refine tcond (fun h132 => ?_) (fun h132 => ?_)
                      · exact rf_ret rfl
                      · refine tb (x := (vi (i118 + 1))) (p_inc h120 h121) ?_
                        refine tkeepO2 ?_ rfl
                        refine tkeepO2 ?_ rfl
                        refine tsome ?_
                        exact h116 ()
                    · refine tb (x := (vb (decide (i118 < (i46 : Int))))) (d_lss) ?_
                      refine tcond_f h122 ?_
                      refine tkeepO2 ?_ rfl
                      refine tkeepO2 ?_ rfl
                      refine tsome ?_
                      exact h79 (s42)
          · refine tb (x := (V.sl (List.map T_Host.c a0.Hosts))) (rfl) ?_
            refine tb (x := (vi (List.length a0.Hosts : Int))) (p_len _) ?_
            refine tb (x := (vb (decide ((List.length a0.Hosts : Int) < (List.length a0.Hosts : Int))))) (d_lss) ?_
            refine tcond_f h135 ?_
            exact h39 ()
      · refine tkeepO2 ?_ rfl
        refine tsome ?_
        refine rf_loopI (mk := fun (i146 : Int) (s142 : (List T_Spot)) => [(V.sl (List.map T_Spot.c s142)), (vi (i146 : Int))]) hn a0.Links ([]) (fun i146 x147 h148 h149 h150 s142 rec140 k143 h144 => ?_) (fun s142 rec240 h239 => ?_)
        · refine tb (x := (V.sl (List.map T_Link.c a0.Links))) (rfl) ?_
          refine tb (x := (vi (List.length a0.Links : Int))) (p_len _) ?_
          refine tb (x := (vb (decide ((i146 : Int) < (List.length a0.Links : Int))))) (d_lss) ?_
          refine tcond_t h150 ?_
          refine tjoin (mk := fun s156 : (List T_Spot) => [(V.sl (List.map T_Spot.c s156))]) (fun s156 => ?_) fun J155 j157 h158 => ?_
          · refine tb (x := (vi ((i146 : Int) + 1))) (p_incN h149) ?_
            refine tkeepO2 ?_ rfl
            refine tsome ?_
            exact h144 (s156)
          · refine tb (x := (V.sl (List.map T_Link.c a0.Links))) (rfl) ?_
            refine tb (x := (V.ptr (T_Link.c x147))) (p_idx_at (c := T_Link.c) (fun _ => rfl) h148) ?_
            refine tb (x := (T_Link.e x147)) (rfl) ?_
            refine tb (x := V.agg (T_Link.c x147)) (by kernel_rfl) ?_
            refine tb (x := (T_Topo.e a0)) (rfl) ?_
            refine tb (x := (T_Spot.e x147.A)) (rfl) ?_
            refine tbo (ty_railref1_Spot hn a0 x147.A) fun r167 => ?_
            refine tb (x := (T_Topo.e a0)) (rfl) ?_
            refine tb (x := (T_Spot.e x147.B)) (rfl) ?_
            refine tbo (ty_railref1_Spot hn a0 x147.B) fun r171 => ?_
            refine tb (x := (vb (!r167))) (d_not) ?_
            refine tg_f (x := (vb r171)) (fun h173 => rfl) ?_
            refine tg_f (x := (vb (!r171))) (fun h175 => by simp only [gv_t h175]; exact bind_some_eq (d_not)) ?_
            refine tb (x := (vb ((!r167) || (!r171)))) (pick_or (fun h9 => gv_t (not_f h9))) ?_
            refine tcond (fun h179 => ?_) (fun h179 => ?_)
            · exact rf_ret rfl
            · refine tb (x := (T_Spot.e x147.A)) (rfl) ?_
              refine tb (x := (T_Spot.e x147.B)) (rfl) ?_
              refine tb (x := (vb (decide (x147.A = x147.B)))) (T_Spot.eql x147.A x147.B) ?_
              refine tcond (fun h183 => ?_) (fun h183 => ?_)
              · exact rf_ret rfl
              · refine tjoin (mk := fun s186 : (List T_Spot) => [(V.sl (List.map T_Spot.c s186))]) (fun s186 => ?_) fun J185 j187 h188 => ?_
                · refine tb (x := (T_Spot.e x147.A)) (rfl) ?_
                  refine tb (x := (V.sl (List.map T_Spot.c ([x147.A] : (List T_Spot))))) (by kernel_rfl) ?_
                  refine tbo (p_app (c := T_Spot.c) (fun _ => rfl) s186 ([x147.A] : (List T_Spot))) fun r192 => ?_
                  refine tb (x := (T_Spot.e x147.B)) (rfl) ?_
                  refine tb (x := (V.sl (List.map T_Spot.c ([x147.B] : (List T_Spot))))) (by kernel_rfl) ?_
                  refine tbo (p_app (c := T_Spot.c) (fun _ => rfl) r192 ([x147.B] : (List T_Spot))) fun r196 => ?_
                  refine tkeepO2 ?_ rfl
                  refine tsome ?_
                  exact h158 (r196)
                · refine tkeepO2 ?_ rfl
                  refine tkeepO2 ?_ rfl
                  refine tsome ?_
                  refine rf_loopI (mk := fun (i203 : Int) (s199 : Unit) => [(V.sl (List.map T_Spot.c s142)), (vi (i203 : Int))]) hn s142 () (fun i203 x204 h205 h206 h207 s199 rec197 k200 h201 => ?_) (fun s199 rec236 h235 => ?_)
                  · refine tb (x := (vi (List.length s142 : Int))) (p_len _) ?_
                    refine tb (x := (vb (decide ((i203 : Int) < (List.length s142 : Int))))) (d_lss) ?_
                    refine tcond_t h207 ?_
                    refine tb (x := (V.ptr (T_Spot.c x204))) (p_idx_at (c := T_Spot.c) (fun _ => rfl) h205) ?_
                    refine tb (x := (T_Spot.e x204)) (rfl) ?_
                    refine tb (x := (T_Spot.e x147.A)) (rfl) ?_
                    refine tb (x := (vb (decide (x204 = x147.A)))) (T_Spot.eql x204 x147.A) ?_
                    refine tg_f (x := (V.sl (List.map T_Spot.c s142))) (fun h214 => rfl) ?_
                    refine tg_f (x := (vi (i203 : Int))) (fun h216 => rfl) ?_
                    refine tg_f (x := (V.ptr (T_Spot.c x204))) (fun h218 => by simp only [gv_t h218]; exact bind_some_eq (p_idx_at (c := T_Spot.c) (fun _ => rfl) h205)) ?_
                    refine tg_f (x := (T_Spot.e x204)) (fun h221 => by first | exact bind_some_eq (rfl) | (simp only [gv_t h221]; exact bind_some_eq (rfl))) ?_
                    refine tg_f (x := V.any) (fun h224 => rfl) ?_
                    refine tg_f (x := (T_Spot.e x147.B)) (fun h226 => bind_some_eq (gate_pos (not_t h226) (rfl))) ?_
                    refine tg_f (x := (vb (decide (x204 = x147.B)))) (fun h229 => by simp only [gv_t h229]; exact bind_some_eq (T_Spot.eql x204 x147.B)) ?_
                    refine tb (x := (vb ((decide (x204 = x147.A)) || (decide (x204 = x147.B))))) (pick_or (fun h9 => gv_t (not_f h9))) ?_
                    refine tcond (fun h233 => ?_) (fun h233 => ?_)
                    · exact rf_ret rfl
                    · refine tb (x := (vi ((i203 : Int) + 1))) (p_incN h206) ?_
                      refine tkeepO2 ?_ rfl
                      refine tkeepO2 ?_ rfl
                      refine tsome ?_
                      exact h201 ()
                  · refine tb (x := (vi (List.length s142 : Int))) (p_len _) ?_
                    refine tb (x := (vb (decide ((List.length s142 : Int) < (List.length s142 : Int))))) (d_lss) ?_
                    refine tcond_f h235 ?_
                    refine tkeepO2 ?_ rfl
                    refine tkeepO2 ?_ rfl
                    refine tsome ?_
                    exact h188 (s142)
        · refine tb (x := (V.sl (List.map T_Link.c a0.Links))) (rfl) ?_
          refine tb (x := (vi (List.length a0.Links : Int))) (p_len _) ?_
          refine tb (x := (vb (decide ((List.length a0.Links : Int) < (List.length a0.Links : Int))))) (d_lss) ?_
          refine tcond_f h239 ?_
          refine tkeepO2 ?_ rfl
          refine tsome ?_
          exact h34 (s142)

/-! railpoint/topo.Spot -/
def an_topo_Spot : Ann := .seq (.reg 0 [] [] []) (.seq (.reg 0 [] [] []) (.no))
noncomputable def sem_topo_Spot (n : Nat) (xs : List V) : Option V := if xs.length ≤ 25 then denF Tryd.prog (envOf []) n Tryd.f31 an_topo_Spot xs else none
theorem ok_topo_Spot (n : Nat) : SemOk Tryd.prog DW 31 (sem_topo_Spot n) := fun xs y h => by
  unfold sem_topo_Spot at h
  split at h
  · rename_i hl
    exact denF_ok stb Tryd.func31 (by kernel_rfl) (envOf_ok semsOk_nil) (by rw [Tryd.ntmps31]; exact hl) h
  · cases h
theorem eq_topo_Spot (n : Nat) (x0 x1 : V) : sem_topo_Spot n [x0, x1] =
 (V.cellsO x0).bind fun v1 =>
 (V.cellsO x1).bind fun v2 =>
 (ldk none (List.drop 0 v2)).bind fun v3 =>
 (bin2 Tryd.prog BinOp.geq 3 (ot 6) (oc 1) v3 (vi 1)).bind fun v4 =>
 (guardV v4 true (some V.any)).bind fun v5 =>
 (guardV v4 true ((gate v4 true (ldk none (List.drop 0 v2))).bind fun v6 =>
 some v6)).bind fun v7 =>
 (guardV v4 true (some V.any)).bind fun v8 =>
 (guardV v4 true ((gate v4 true (ldk none (List.drop 0 v1))).bind fun v9 =>
 some v9)).bind fun v10 =>
 (guardV v4 true ((bin2 Tryd.prog BinOp.leq 3 (ot 10) (ot 12) v7 v10).bind fun v11 =>
 some v11)).bind fun v12 =>
 (pickV v4 v12 (vb false)).bind fun v13 =>
 (guardV v13 true (some V.any)).bind fun v14 =>
 (guardV v13 true ((gate v13 true (ldk none (List.drop 1 v2))).bind fun v15 =>
 some v15)).bind fun v16 =>
 (guardV v13 true ((bin2 Tryd.prog BinOp.geq 3 (ot 17) (oc 1) v16 (vi 1)).bind fun v17 =>
 some v17)).bind fun v18 =>
 (pickV v13 v18 (vb false)).bind fun v19 =>
 (guardV v19 true (some V.any)).bind fun v20 =>
 (guardV v19 true ((gate v19 true (ldk none (List.drop 1 v2))).bind fun v21 =>
 some v21)).bind fun v22 =>
 (guardV v19 true ((bin2 Tryd.prog BinOp.leq 3 (ot 22) (oc 4) v22 (vi 4)).bind fun v23 =>
 some v23)).bind fun v24 =>
 (pickV v19 v24 (vb false)).bind fun v25 =>
 some v25 := by kernel_rfl
noncomputable def t_topo_Spot (a0 : T_Topo) (a1 : T_Spot) : Option Bool :=
 some ((((decide (1 ≤ a1.Switch)) && (decide (a1.Switch ≤ a0.Switches))) && (decide (1 ≤ a1.Port))) && (decide (a1.Port ≤ 4)))
theorem ty_topo_Spot {n : Nat} (hn : bigN ≤ n) (a0 : T_Topo) (a1 : T_Spot) : Rv (fun x : Bool => (vb x)) (sem_topo_Spot n [(T_Topo.e a0), (T_Spot.e a1)]) (t_topo_Spot a0 a1) := by
  rw [eq_topo_Spot]
  unfold t_topo_Spot
  refine tb (x := (T_Topo.c a0)) rfl ?_
  refine tb (x := (T_Spot.c a1)) rfl ?_
  refine tb (x := (vi a1.Switch)) (rfl) ?_
  refine tb (x := (vb (decide (1 ≤ a1.Switch)))) (d_geq) ?_
  refine tg (x := V.any) (fun h5 => rfl) ?_
  refine tg (x := (vi a1.Switch)) (fun h7 => bind_some_eq (gate_pos h7 (rfl))) ?_
  refine tg (x := V.any) (fun h10 => rfl) ?_
  refine tg (x := (vi a0.Switches)) (fun h12 => bind_some_eq (gate_pos h12 (rfl))) ?_
  refine tg (x := (vb (decide (a1.Switch ≤ a0.Switches)))) (fun h15 => by simp only [gv_t h15]; exact bind_some_eq (d_leq)) ?_
  refine tb (x := (vb ((decide (1 ≤ a1.Switch)) && (decide (a1.Switch ≤ a0.Switches))))) (pick_and (fun h9 => gv_t h9)) ?_
  refine tg (x := V.any) (fun h19 => rfl) ?_
  refine tg (x := (vi a1.Port)) (fun h21 => bind_some_eq (gate_pos h21 (rfl))) ?_
  refine tg (x := (vb (decide (1 ≤ a1.Port)))) (fun h24 => by simp only [gv_t h24]; exact bind_some_eq (d_geq)) ?_
  refine tb (x := (vb (((decide (1 ≤ a1.Switch)) && (decide (a1.Switch ≤ a0.Switches))) && (decide (1 ≤ a1.Port))))) (pick_and (fun h9 => gv_t h9)) ?_
  refine tg (x := V.any) (fun h28 => rfl) ?_
  refine tg (x := (vi a1.Port)) (fun h30 => bind_some_eq (gate_pos h30 (rfl))) ?_
  refine tg (x := (vb (decide (a1.Port ≤ 4)))) (fun h33 => by simp only [gv_t h33]; exact bind_some_eq (d_leq)) ?_
  refine tb (x := (vb ((((decide (1 ≤ a1.Switch)) && (decide (a1.Switch ≤ a0.Switches))) && (decide (1 ≤ a1.Port))) && (decide (a1.Port ≤ 4))))) (pick_and (fun h9 => gv_t h9)) ?_
  exact rf_ret rfl

/-! railpoint/topo.Name -/
def an_topo_Name : Ann := .seq (.reg 0 [] [] []) (.seq (.seq (.reg 0 [] [] []) (.blk (some []) (.loop [.s 8] (.seq (.reg 0 [] [] []) (.seq (.cond none (.no) (.no)) (.seq (.blk none (.seq (.reg 0 [] [] []) (.seq (.reg 0 [] [] []) (.cond none (.seq (.reg 0 [] [] []) (.no)) (.no))))) (.reg 0 [] [] []))))))) (.seq (.reg 0 [] [] []) (.no)))
noncomputable def sem_topo_Name (n : Nat) (xs : List V) : Option V := if xs.length ≤ 26 then denF Tryd.prog (envOf []) n Tryd.f32 an_topo_Name xs else none
theorem ok_topo_Name (n : Nat) : SemOk Tryd.prog DW 32 (sem_topo_Name n) := fun xs y h => by
  unfold sem_topo_Name at h
  split at h
  · rename_i hl
    exact denF_ok stb Tryd.func32 (by kernel_rfl) (envOf_ok semsOk_nil) (by rw [Tryd.ntmps32]; exact hl) h
  · cases h
theorem eq_topo_Name (n : Nat) (x0 : V) : sem_topo_Name n [x0] =
 (s2b x0).bind fun v1 =>
 (lenS [v1]).bind fun v2 =>
 JoinPt (fun vs3 =>
 (bin2 Tryd.prog BinOp.neq 9 (ot 19) (Operand.const (Go.Value.string (ByteArray.mk #[]))) x0 (V.lit (Go.Value.string (ByteArray.mk #[])))).bind fun v5 =>
 (guardV v5 true (some x0)).bind fun v6 =>
 (guardV v5 true ((lenT [v6]).bind fun v7 =>
 some v7)).bind fun v8 =>
 (guardV v5 true ((bin2 Tryd.prog BinOp.leq 3 (ot 23) (oc 6) v8 (vi 6)).bind fun v9 =>
 some v9)).bind fun v10 =>
 (pickV v5 v10 (vb false)).bind fun v11 =>
 some v11) fun J4 =>
 (fixN (fun rec12 vs13 =>
 (bin2 Tryd.prog BinOp.lss 3 (ot 8) (ot 7) (List.getD vs13 0 V.any) v2).bind fun v14 =>
 condV v14 (
 (idxS 1 v1 (List.getD vs13 0 V.any)).bind fun v15 =>
 (ldp none v15).bind fun v16 =>
 (bin2 Tryd.prog BinOp.lss 5 (ot 12) (Operand.const (Go.Value.int Go.IntKind.u8 97)) v16 (V.lit (Go.Value.int Go.IntKind.u8 97))).bind fun v17 =>
 (guardV v17 false (some v16)).bind fun v18 =>
 (guardV v17 false ((bin2 Tryd.prog BinOp.gtr 5 (ot 15) (Operand.const (Go.Value.int Go.IntKind.u8 122)) v18 (V.lit (Go.Value.int Go.IntKind.u8 122))).bind fun v19 =>
 some v19)).bind fun v20 =>
 (pickV v17 (vb true) v20).bind fun v21 =>
 condV v21 (
 some (vb false)) (
 (bin2 Tryd.prog BinOp.add 3 (ot 8) (oc 1) (List.getD vs13 0 V.any) (vi 1)).bind fun v22 =>
 rec12 [v22])) (
 J4 [])) n) [(vi 0)] := by kernel_rfl
noncomputable def t_topo_Name (a0 : ByteArray) : Option Bool :=
 need (decide ((a0.size : Int) ≤ maxI)) (
 join (fun (s5 : Unit) =>
 some ((!decide (a0 = (ByteArray.mk #[]))) && (decide ((a0.size : Int) ≤ 6)))) fun j6 =>
 loopI (numsOf a0) (fun (i24 : Int) x25 (s20 : Unit) k21 =>
 if ((decide (x25 < 97)) || (decide (122 < x25))) = true then (
 some false) else (
 k21 ())) (fun (s20 : Unit) =>
 j6 ()) ())
theorem ty_topo_Name {n : Nat} (hn : bigN ≤ n) (a0 : ByteArray) : Rv (fun x : Bool => (vb x)) (sem_topo_Name n [(vt a0)]) (t_topo_Name a0) := by
  rw [eq_topo_Name]
  unfold t_topo_Name
  refine tneed (x := (V.sl (List.map cY (numsOf a0)))) (fun h44 => p_s2b h44) fun h44 => ?_
  refine tb (x := (vi (List.length (numsOf a0) : Int))) (p_len _) ?_
  refine tjoin (mk := fun s5 : Unit => []) (fun s5 => ?_) fun J4 j6 h7 => ?_
  · refine tb (x := (vb (!decide (a0 = (ByteArray.mk #[]))))) (p_neq_str) ?_
    refine tg (x := (vt a0)) (fun h9 => rfl) ?_
    refine tg (x := (vi (a0.size : Int))) (fun h11 => by simp only [gv_t h11]; exact bind_some_eq (rfl)) ?_
    refine tg (x := (vb (decide ((a0.size : Int) ≤ 6)))) (fun h14 => by simp only [gv_t h14]; exact bind_some_eq (d_leq)) ?_
    refine tb (x := (vb ((!decide (a0 = (ByteArray.mk #[]))) && (decide ((a0.size : Int) ≤ 6))))) (pick_and (fun h9 => gv_t h9)) ?_
    exact rf_ret rfl
  · refine rf_loopI (mk := fun (i24 : Int) (s20 : Unit) => [(vi (i24 : Int))]) hn (numsOf a0) () (fun i24 x25 h26 h27 h28 s20 rec18 k21 h22 => ?_) (fun s20 rec42 h41 => ?_)
    · refine tb (x := (vb (decide ((i24 : Int) < (List.length (numsOf a0) : Int))))) (d_lss) ?_
      refine tcond_t h28 ?_
      refine tb (x := (V.ptr [(V.lit (.int .u8 x25))])) (p_idx_at (c := cY) (fun _ => rfl) h26) ?_
      refine tb (x := (V.lit (.int .u8 x25))) (rfl) ?_
      refine tb (x := (vb (decide (x25 < 97)))) (q_lss) ?_
      refine tg_f (x := (V.lit (.int .u8 x25))) (fun h33 => rfl) ?_
      refine tg_f (x := (vb (decide (122 < x25)))) (fun h35 => by simp only [gv_t h35]; exact bind_some_eq (q_gtr)) ?_
      refine tb (x := (vb ((decide (x25 < 97)) || (decide (122 < x25))))) (pick_or (fun h9 => gv_t (not_f h9))) ?_
      refine tcond (fun h39 => ?_) (fun h39 => ?_)
      · exact rf_ret rfl
      · refine tb (x := (vi ((i24 : Int) + 1))) (p_incN h27) ?_
        exact h22 ()
    · refine tb (x := (vb (decide ((List.length (numsOf a0) : Int) < (List.length (numsOf a0) : Int))))) (d_lss) ?_
      refine tcond_f h41 ?_
      exact h7 ()

/-! railpoint/topo.Check -/
def an_topo_Check : Ann := .seq (.reg 0 [] [] []) (.seq (.blk none (.seq (.reg 0 [] [] []) (.cond none (.seq (.reg 0 [] [] []) (.no)) (.seq (.reg 0 [] [] []) (.cond none (.seq (.reg 0 [] [] []) (.no)) (.no)))))) (.seq (.reg 0 [] [] []) (.seq (.seq (.reg 0 [] [] []) (.blk (some [.kb 1, .o 3]) (.loop [.kb 1, .o 3, .s 35] (.seq (.reg 0 [] [] []) (.seq (.cond none (.no) (.no)) (.seq (.blk none (.seq (.reg 0 [] [] []) (.seq (.seq (.reg 0 [] [] []) (.cond none (.seq (.reg 0 [] [] []) (.no)) (.no))) (.seq (.seq (.reg 0 [] [] []) (.cond none (.seq (.reg 0 [] [] []) (.no)) (.no))) (.reg 72 [] [] []))))) (.reg 0 [] [] []))))))) (.seq (.reg 0 [] [] []) (.seq (.seq (.reg 0 [] [] []) (.blk (some []) (.loop [.kb 1, .o 3, .o 6, .s 81] (.seq (.reg 0 [] [] []) (.seq (.cond none (.no) (.no)) (.seq (.blk none (.seq (.reg 0 [] [] []) (.seq (.blk none (.seq (.reg 0 [] [] []) (.cond none (.seq (.reg 0 [] [] []) (.no)) (.seq (.reg 0 [] [] []) (.cond none (.seq (.reg 0 [] [] []) (.no)) (.seq (.reg 0 [] [] []) (.cond none (.seq (.reg 0 [] [] []) (.no)) (.no)))))))) (.reg 72 [] [] [])))) (.reg 0 [] [] []))))))) (.seq (.reg 0 [] [] []) (.no)))))))
noncomputable def sem_topo_Check (n : Nat) (xs : List V) : Option V := if xs.length ≤ 117 then denF Tryd.prog (envOf [(31, (sem_topo_Spot n)), (32, (sem_topo_Name n))]) n Tryd.f6 an_topo_Check xs else none
theorem ok_topo_Check (n : Nat) : SemOk Tryd.prog DW 6 (sem_topo_Check n) := fun xs y h => by
  unfold sem_topo_Check at h
  split at h
  · rename_i hl
    exact denF_ok stb Tryd.func6 (by kernel_rfl) (envOf_ok (semsOk_cons (ok_topo_Spot n) (semsOk_cons (ok_topo_Name n) semsOk_nil))) (by rw [Tryd.ntmps6]; exact hl) h
  · cases h
theorem eq_topo_Check (n : Nat) (x0 : V) : sem_topo_Check n [x0] =
 (V.cellsO x0).bind fun v1 =>
 (ldk none (List.drop 0 v1)).bind fun v2 =>
 (bin2 Tryd.prog BinOp.lss 3 (ot 11) (oc 1) v2 (vi 1)).bind fun v3 =>
 (guardV v3 false (some V.any)).bind fun v4 =>
 (guardV v3 false ((gate v3 false (ldk none (List.drop 0 v1))).bind fun v5 =>
 some v5)).bind fun v6 =>
 (guardV v3 false ((bin2 Tryd.prog BinOp.gtr 3 (ot 15) (oc 6) v6 (vi 6)).bind fun v7 =>
 some v7)).bind fun v8 =>
 (pickV v3 (vb true) v8).bind fun v9 =>
 condV v9 (
 (scal1 Tryd.prog (Instr.makeInterface 78) (vi 1)).bind fun v10 =>
 some v10) (
 (ldk none (List.drop 1 v1)).bind fun v11 =>
 (lenS [v11]).bind fun v12 =>
 (bin2 Tryd.prog BinOp.gtr 3 (ot 22) (oc 200) v12 (vi 200)).bind fun v13 =>
 (guardV v13 false (some V.any)).bind fun v14 =>
 (guardV v13 false ((gate v13 false (ldk none (List.drop 2 v1))).bind fun v15 =>
 some v15)).bind fun v16 =>
 (guardV v13 false ((lenS [v16]).bind fun v17 =>
 some v17)).bind fun v18 =>
 (guardV v13 false ((bin2 Tryd.prog BinOp.gtr 3 (ot 27) (oc 8) v18 (vi 8)).bind fun v19 =>
 some v19)).bind fun v20 =>
 (pickV v13 (vb true) v20).bind fun v21 =>
 condV v21 (
 (scal1 Tryd.prog (Instr.makeInterface 78) (vi 4)).bind fun v22 =>
 some v22) (
 (ldk none (List.drop 1 v1)).bind fun v23 =>
 (lenS [v23]).bind fun v24 =>
 JoinPt (fun vs25 =>
 (ldk none (List.drop 2 v1)).bind fun v27 =>
 (lenS [v27]).bind fun v28 =>
 JoinPt (fun vs29 =>
 some vn) fun J30 =>
 (keepO (some v1) (some v1) (some [(List.getD vs25 0 V.any), (V.mp []), (vi 0)])).bind (fixN (fun rec31 vs32 =>
 (bin2 Tryd.prog BinOp.lss 3 (ot 81) (ot 80) (List.getD vs32 2 V.any) v28).bind fun v33 =>
 condV v33 (
 (idxS 3 v27 (List.getD vs32 2 V.any)).bind fun v34 =>
 (ldp (some 3) v34).bind fun v35 =>
 (spliceV [(V.lit (Go.Value.string (ByteArray.mk #[]))), (vi 0), (vi 0)] 0 3 v35).bind fun v36 =>
 (ldk none (List.drop 0 (aggL v36))).bind fun v37 =>
 ((sem_topo_Name n) [v37]).bind fun v38 =>
 (scal1 Tryd.prog (Op.unary Go.UnOp.not) v38).bind fun v39 =>
 condV v39 (
 (scal1 Tryd.prog (Instr.makeInterface 78) (vi 2)).bind fun v40 =>
 some v40) (
 (ldk (some 3) (List.drop 0 v1)).bind fun v41 =>
 (ldk (some 2) (List.drop 1 (aggL v36))).bind fun v42 =>
 ((sem_topo_Spot n) [v41, v42]).bind fun v43 =>
 (scal1 Tryd.prog (Op.unary Go.UnOp.not) v43).bind fun v44 =>
 condV v44 (
 (scal1 Tryd.prog (Instr.makeInterface 78) (vi 1)).bind fun v45 =>
 some v45) (
 (ldk none (List.drop 0 (aggL v36))).bind fun v46 =>
 (lookV Tryd.prog 82 false (List.getD vs32 1 V.any) v46).bind fun v47 =>
 (guardV v47 false (some V.any)).bind fun v48 =>
 (guardV v47 false (some V.any)).bind fun v49 =>
 (guardV v47 false ((gate v47 false (ldk (some 2) (List.drop 1 (aggL v36)))).bind fun v50 =>
 some v50)).bind fun v51 =>
 (guardV v47 false ((gate v47 false (lookV Tryd.prog 79 false (List.getD vs32 0 V.any) v51)).bind fun v52 =>
 some v52)).bind fun v53 =>
 (pickV v47 (vb true) v53).bind fun v54 =>
 condV v54 (
 (scal1 Tryd.prog (Instr.makeInterface 78) (vi 7)).bind fun v55 =>
 some v55) (
 (ldk none (List.drop 0 (aggL v36))).bind fun v56 =>
 (litV v56).bind fun v57 =>
 (ldk (some 2) (List.drop 1 (aggL v36))).bind fun v58 =>
 (litV v58).bind fun v59 =>
 (putV Tryd.prog 82 (List.getD vs32 1 V.any) v57 (vb true)).bind fun v60 =>
 (putV Tryd.prog 79 (List.getD vs32 0 V.any) v59 (vb true)).bind fun v61 =>
 (bin2 Tryd.prog BinOp.add 3 (ot 81) (oc 1) (List.getD vs32 2 V.any) (vi 1)).bind fun v62 =>
 (keepO (some v1) (some v1) (some [v61, v60, v62])).bind rec31)))) (
 J30 [])) n)) fun J26 =>
 (keepO (some v1) (some v1) (some [(V.mp []), (vi 0)])).bind (fixN (fun rec63 vs64 =>
 (bin2 Tryd.prog BinOp.lss 3 (ot 35) (ot 34) (List.getD vs64 1 V.any) v24).bind fun v65 =>
 condV v65 (
 (idxS 4 v23 (List.getD vs64 1 V.any)).bind fun v66 =>
 (ldp (some 4) v66).bind fun v67 =>
 (spliceV [(vi 0), (vi 0), (vi 0), (vi 0)] 0 4 v67).bind fun v68 =>
 (ldk (some 3) (List.drop 0 v1)).bind fun v69 =>
 (ldk (some 2) (List.drop 0 (aggL v68))).bind fun v70 =>
 ((sem_topo_Spot n) [v69, v70]).bind fun v71 =>
 (scal1 Tryd.prog (Op.unary Go.UnOp.not) v71).bind fun v72 =>
 (guardV v72 false ((ldk (some 3) (List.drop 0 v1)).bind fun v73 =>
 some v73)).bind fun v74 =>
 (guardV v72 false (some V.any)).bind fun v75 =>
 (guardV v72 false ((gate v72 false (ldk (some 2) (List.drop 2 (aggL v68)))).bind fun v76 =>
 some v76)).bind fun v77 =>
 (guardV v72 false (((sem_topo_Spot n) [v74, v77]).bind fun v78 =>
 some v78)).bind fun v79 =>
 (guardV v72 false ((scal1 Tryd.prog (Op.unary Go.UnOp.not) v79).bind fun v80 =>
 some v80)).bind fun v81 =>
 (pickV v72 (vb true) v81).bind fun v82 =>
 condV v82 (
 (scal1 Tryd.prog (Instr.makeInterface 78) (vi 1)).bind fun v83 =>
 some v83) (
 (ldk (some 2) (List.drop 0 (aggL v68))).bind fun v84 =>
 (lookV Tryd.prog 79 false (List.getD vs64 0 V.any) v84).bind fun v85 =>
 (guardV v85 false (some V.any)).bind fun v86 =>
 (guardV v85 false (some V.any)).bind fun v87 =>
 (guardV v85 false ((gate v85 false (ldk (some 2) (List.drop 2 (aggL v68)))).bind fun v88 =>
 some v88)).bind fun v89 =>
 (guardV v85 false ((gate v85 false (lookV Tryd.prog 79 false (List.getD vs64 0 V.any) v89)).bind fun v90 =>
 some v90)).bind fun v91 =>
 (pickV v85 (vb true) v91).bind fun v92 =>
 (guardV v92 false (some V.any)).bind fun v93 =>
 (guardV v92 false ((gate v92 false (ldk (some 2) (List.drop 0 (aggL v68)))).bind fun v94 =>
 some v94)).bind fun v95 =>
 (guardV v92 false (some V.any)).bind fun v96 =>
 (guardV v92 false ((gate v92 false (ldk (some 2) (List.drop 2 (aggL v68)))).bind fun v97 =>
 some v97)).bind fun v98 =>
 (guardV v92 false ((bin2 Tryd.prog BinOp.eql 38 (ot 64) (ot 66) v95 v98).bind fun v99 =>
 some v99)).bind fun v100 =>
 (pickV v92 (vb true) v100).bind fun v101 =>
 condV v101 (
 (scal1 Tryd.prog (Instr.makeInterface 78) (vi 7)).bind fun v102 =>
 some v102) (
 (ldk (some 2) (List.drop 0 (aggL v68))).bind fun v103 =>
 (litV v103).bind fun v104 =>
 (ldk (some 2) (List.drop 2 (aggL v68))).bind fun v105 =>
 (litV v105).bind fun v106 =>
 (putV Tryd.prog 79 (List.getD vs64 0 V.any) v104 (vb true)).bind fun v107 =>
 (putV Tryd.prog 79 v107 v106 (vb true)).bind fun v108 =>
 (bin2 Tryd.prog BinOp.add 3 (ot 35) (oc 1) (List.getD vs64 1 V.any) (vi 1)).bind fun v109 =>
 (keepO (some v1) (some v1) (some [v108, v109])).bind rec63))) (
 (keepO (some v1) (some v1) (some [(List.getD vs64 0 V.any)])).bind J26)) n))) := by kernel_rfl
noncomputable def t_topo_Check (a0 : T_Topo) : Option Int :=
 if ((decide (a0.Switches < 1)) || (decide (6 < a0.Switches))) = true then (
 some 1) else (
 if ((decide (200 < (List.length a0.Links : Int))) || (decide (8 < (List.length a0.Hosts : Int)))) = true then (
 some 4) else (
 join (fun (s36 : (List (T_Spot × Bool))) =>
 join (fun (s43 : Unit) =>
 some 0) fun j44 =>
 loopI a0.Hosts (fun (i52 : Int) x53 (s48 : ((List (T_Spot × Bool)) × (List (ByteArray × Bool)))) k49 =>
 (t_topo_Name x53.Name).bind fun r63 =>
 if (!r63) = true then (
 some 2) else (
 (t_topo_Spot a0 x53.At).bind fun r70 =>
 if (!r70) = true then (
 some 1) else (
 if ((mget s48.2 x53.Name false) || (mget s48.1 x53.At false)) = true then (
 some 7) else (
 k49 ((mput s48.1 x53.At true), (mput s48.2 x53.Name true)))))) (fun (s48 : ((List (T_Spot × Bool)) × (List (ByteArray × Bool)))) =>
 j44 ()) (s36, [])) fun j37 =>
 loopI a0.Links (fun (i105 : Int) x106 (s101 : (List (T_Spot × Bool))) k102 =>
 (t_topo_Spot a0 x106.A).bind fun r117 =>
 (gd (!(!r117)) default (t_topo_Spot a0 x106.B)).bind fun r130 =>
 if ((!r117) || (!r130)) = true then (
 some 1) else (
 if (((mget s101 x106.A false) || (mget s101 x106.B false)) || (decide (x106.A = x106.B))) = true then (
 some 7) else (
 k102 (mput (mput s101 x106.A true) x106.B true)))) (fun (s101 : (List (T_Spot × Bool))) =>
 j37 (s101)) ([])))
theorem ty_topo_Check {n : Nat} (hn : bigN ≤ n) (a0 : T_Topo) : Rv (fun x : Int => (eV x)) (sem_topo_Check n [(T_Topo.e a0)]) (t_topo_Check a0) := by
  rw [eq_topo_Check]
  unfold t_topo_Check
  refine tb (x := (T_Topo.c a0)) rfl ?_
  refine tb (x := (vi a0.Switches)) (rfl) ?_
  refine tb (x := (vb (decide (a0.Switches < 1)))) (d_lss) ?_
  refine tg_f (x := V.any) (fun h4 => rfl) ?_
  refine tg_f (x := (vi a0.Switches)) (fun h6 => bind_some_eq (gate_pos (not_t h6) (rfl))) ?_
  refine tg_f (x := (vb (decide (6 < a0.Switches)))) (fun h9 => by simp only [gv_t h9]; exact bind_some_eq (d_gtr)) ?_
  refine tb (x := (vb ((decide (a0.Switches < 1)) || (decide (6 < a0.Switches))))) (pick_or (fun h9 => gv_t (not_f h9))) ?_
  refine tcond (fun h13 => ?_) (fun h13 => ?_)
  · refine tb (x := (eV 1)) (p_mkE (by decide)) ?_
    exact rf_ret rfl
  · refine tb (x := (V.sl (List.map T_Link.c a0.Links))) (rfl) ?_
    refine tb (x := (vi (List.length a0.Links : Int))) (p_len _) ?_
    refine tb (x := (vb (decide (200 < (List.length a0.Links : Int))))) (d_gtr) ?_
    refine tg_f (x := V.any) (fun h18 => rfl) ?_
    refine tg_f (x := (V.sl (List.map T_Host.c a0.Hosts))) (fun h20 => bind_some_eq (gate_pos (not_t h20) (rfl))) ?_
    refine tg_f (x := (vi (List.length a0.Hosts : Int))) (fun h23 => by simp only [gv_t h23]; exact bind_some_eq (p_len _)) ?_
    refine tg_f (x := (vb (decide (8 < (List.length a0.Hosts : Int))))) (fun h26 => by simp only [gv_t h26]; exact bind_some_eq (d_gtr)) ?_
    refine tb (x := (vb ((decide (200 < (List.length a0.Links : Int))) || (decide (8 < (List.length a0.Hosts : Int)))))) (pick_or (fun h9 => gv_t (not_f h9))) ?_
    refine tcond (fun h30 => ?_) (fun h30 => ?_)
    · refine tb (x := (eV 4)) (p_mkE (by decide)) ?_
      exact rf_ret rfl
    · refine tb (x := (V.sl (List.map T_Link.c a0.Links))) (rfl) ?_
      refine tb (x := (vi (List.length a0.Links : Int))) (p_len _) ?_
      refine tjoin (mk := fun s36 : (List (T_Spot × Bool)) => [(V.mp (mrep T_Spot.val (fun b : Bool => Go.Value.bool b) s36))]) (fun s36 => ?_) fun J35 j37 h38 => ?_
      · refine tb (x := (V.sl (List.map T_Host.c a0.Hosts))) (rfl) ?_
        refine tb (x := (vi (List.length a0.Hosts : Int))) (p_len _) ?_
        refine tjoin (mk := fun s43 : Unit => []) (fun s43 => ?_) fun J42 j44 h45 => ?_
        · exact rf_ret rfl
        · refine tkeepO2 ?_ rfl
          refine tsome ?_
          refine rf_loopI (mk := fun (i52 : Int) (s48 : ((List (T_Spot × Bool)) × (List (ByteArray × Bool)))) => [(V.mp (mrep T_Spot.val (fun b : Bool => Go.Value.bool b) s48.1)), (V.mp (mrep (fun b : ByteArray => Go.Value.string b) (fun b : Bool => Go.Value.bool b) s48.2)), (vi (i52 : Int))]) hn a0.Hosts (s36, []) (fun i52 x53 h54 h55 h56 s48 rec46 k49 h50 => ?_) (fun s48 rec97 h96 => ?_)
          · refine tb (x := (vb (decide ((i52 : Int) < (List.length a0.Hosts : Int))))) (d_lss) ?_
            refine tcond_t h56 ?_
            refine tb (x := (V.ptr (T_Host.c x53))) (p_idx_at (c := T_Host.c) (fun _ => rfl) h54) ?_
            refine tb (x := (T_Host.e x53)) (rfl) ?_
            refine tb (x := V.agg (T_Host.c x53)) (by kernel_rfl) ?_
            refine tb (x := (vt x53.Name)) (rfl) ?_
            refine tbo (ty_topo_Name hn x53.Name) fun r63 => ?_
            refine tb (x := (vb (!r63))) (d_not) ?_
            refine tcond (fun h65 => ?_) (fun h65 => ?_)
            · refine tb (x := (eV 2)) (p_mkE (by decide)) ?_
              exact rf_ret rfl
            · refine tb (x := (T_Topo.e a0)) (rfl) ?_
              refine tb (x := (T_Spot.e x53.At)) (rfl) ?_
              refine tbo (ty_topo_Spot hn a0 x53.At) fun r70 => ?_
              refine tb (x := (vb (!r70))) (d_not) ?_
              refine tcond (fun h72 => ?_) (fun h72 => ?_)
              · refine tb (x := (eV 1)) (p_mkE (by decide)) ?_
                exact rf_ret rfl
              · refine tb (x := (vt x53.Name)) (rfl) ?_
                refine tb (x := (vb (mget s48.2 x53.Name false))) (p_look (kt := 9) (et := 4) (kv := (fun b : ByteArray => Go.Value.string b)) (vv := (fun b : Bool => Go.Value.bool b)) (e1 := fun x : Bool => (vb x)) (mkey_str (by kernel_rfl)) (by kernel_rfl) false (fun _ => by kernel_rfl) (fun _ => rfl) x53.Name rfl s48.2) ?_
                refine tg_f (x := V.any) (fun h76 => rfl) ?_
                refine tg_f (x := V.any) (fun h78 => rfl) ?_
                refine tg_f (x := (T_Spot.e x53.At)) (fun h80 => bind_some_eq (gate_pos (not_t h80) (rfl))) ?_
                refine tg_f (x := (vb (mget s48.1 x53.At false))) (fun h83 => by simp only [gv_t h83]; exact bind_some_eq (gate_pos (not_t h83) (p_look (kt := 38) (et := 4) (kv := T_Spot.val) (vv := (fun b : Bool => Go.Value.bool b)) (e1 := fun x : Bool => (vb x)) T_Spot.mkey (by kernel_rfl) false (fun _ => by kernel_rfl) (fun _ => rfl) x53.At rfl s48.1))) ?_
                refine tb (x := (vb ((mget s48.2 x53.Name false) || (mget s48.1 x53.At false)))) (pick_or (fun h9 => gv_t (not_f h9))) ?_
                refine tcond (fun h87 => ?_) (fun h87 => ?_)
                · refine tb (x := (eV 7)) (p_mkE (by decide)) ?_
                  exact rf_ret rfl
                · refine tb (x := (vt x53.Name)) (rfl) ?_
                  refine tb (x := (vt x53.Name)) rfl ?_
                  refine tb (x := (T_Spot.e x53.At)) (rfl) ?_
                  refine tb (x := (T_Spot.e x53.At)) rfl ?_
                  refine tb (x := V.mp (mrep (fun b : ByteArray => Go.Value.string b) (fun b : Bool => Go.Value.bool b) (mput s48.2 x53.Name true))) (p_put (kt := 9) (et := 4) (kv := (fun b : ByteArray => Go.Value.string b)) (vv := (fun b : Bool => Go.Value.bool b)) (mkey_str (by kernel_rfl)) (by kernel_rfl) x53.Name true rfl rfl s48.2) ?_
                  refine tb (x := V.mp (mrep T_Spot.val (fun b : Bool => Go.Value.bool b) (mput s48.1 x53.At true))) (p_put (kt := 38) (et := 4) (kv := T_Spot.val) (vv := (fun b : Bool => Go.Value.bool b)) T_Spot.mkey (by kernel_rfl) x53.At true rfl rfl s48.1) ?_
                  refine tb (x := (vi ((i52 : Int) + 1))) (p_incN h55) ?_
                  refine tkeepO2 ?_ rfl
                  refine tsome ?_
                  exact h50 ((mput s48.1 x53.At true), (mput s48.2 x53.Name true))
          · refine tb (x := (vb (decide ((List.length a0.Hosts : Int) < (List.length a0.Hosts : Int))))) (d_lss) ?_
            refine tcond_f h96 ?_
            exact h45 ()
      · refine tkeepO2 ?_ rfl
        refine tsome ?_
        refine rf_loopI (mk := fun (i105 : Int) (s101 : (List (T_Spot × Bool))) => [(V.mp (mrep T_Spot.val (fun b : Bool => Go.Value.bool b) s101)), (vi (i105 : Int))]) hn a0.Links ([]) (fun i105 x106 h107 h108 h109 s101 rec99 k102 h103 => ?_) (fun s101 rec174 h173 => ?_)
        · refine tb (x := (vb (decide ((i105 : Int) < (List.length a0.Links : Int))))) (d_lss) ?_
          refine tcond_t h109 ?_
          refine tb (x := (V.ptr (T_Link.c x106))) (p_idx_at (c := T_Link.c) (fun _ => rfl) h107) ?_
          refine tb (x := (T_Link.e x106)) (rfl) ?_
          refine tb (x := V.agg (T_Link.c x106)) (by kernel_rfl) ?_
          refine tb (x := (T_Topo.e a0)) (rfl) ?_
          refine tb (x := (T_Spot.e x106.A)) (rfl) ?_
          refine tbo (ty_topo_Spot hn a0 x106.A) fun r117 => ?_
          refine tb (x := (vb (!r117))) (d_not) ?_
          refine tg_f (x := (T_Topo.e a0)) (fun h119 => bind_some_eq (rfl)) ?_
          refine tg_f (x := V.any) (fun h122 => rfl) ?_
          refine tg_f (x := (T_Spot.e x106.B)) (fun h124 => bind_some_eq (gate_pos (not_t h124) (rfl))) ?_
          refine tgo_f (fun h127 => by simp only [gv_t h127]; exact rf_bind_some (ty_topo_Spot hn a0 x106.B)) fun r130 => ?_
          refine tg_f (x := (vb (!r130))) (fun h131 => by simp only [gv_t h131]; exact bind_some_eq (d_not)) ?_
          refine tb (x := (vb ((!r117) || (!r130)))) (pick_or (fun h9 => gv_t (not_f h9))) ?_
          refine tcond (fun h135 => ?_) (fun h135 => ?_)
          · refine tb (x := (eV 1)) (p_mkE (by decide)) ?_
            exact rf_ret rfl
          · refine tb (x := (T_Spot.e x106.A)) (rfl) ?_
            refine tb (x := (vb (mget s101 x106.A false))) (p_look (kt := 38) (et := 4) (kv := T_Spot.val) (vv := (fun b : Bool => Go.Value.bool b)) (e1 := fun x : Bool => (vb x)) T_Spot.mkey (by kernel_rfl) false (fun _ => by kernel_rfl) (fun _ => rfl) x106.A rfl s101) ?_
            refine tg_f (x := V.any) (fun h139 => rfl) ?_
            refine tg_f (x := V.any) (fun h141 => rfl) ?_
            refine tg_f (x := (T_Spot.e x106.B)) (fun h143 => bind_some_eq (gate_pos (not_t h143) (rfl))) ?_
            refine tg_f (x := (vb (mget s101 x106.B false))) (fun h146 => by simp only [gv_t h146]; exact bind_some_eq (gate_pos (not_t h146) (p_look (kt := 38) (et := 4) (kv := T_Spot.val) (vv := (fun b : Bool => Go.Value.bool b)) (e1 := fun x : Bool => (vb x)) T_Spot.mkey (by kernel_rfl) false (fun _ => by kernel_rfl) (fun _ => rfl) x106.B rfl s101))) ?_
            refine tb (x := (vb ((mget s101 x106.A false) || (mget s101 x106.B false)))) (pick_or (fun h9 => gv_t (not_f h9))) ?_
            refine tg_f (x := V.any) (fun h150 => rfl) ?_
            refine tg_f (x := (T_Spot.e x106.A)) (fun h152 => bind_some_eq (gate_pos (not_t h152) (rfl))) ?_
            refine tg_f (x := V.any) (fun h155 => rfl) ?_
            refine tg_f (x := (T_Spot.e x106.B)) (fun h157 => bind_some_eq (gate_pos (not_t h157) (rfl))) ?_
            refine tg_f (x := (vb (decide (x106.A = x106.B)))) (fun h160 => by simp only [gv_t h160]; exact bind_some_eq (T_Spot.eql x106.A x106.B)) ?_
            refine tb (x := (vb (((mget s101 x106.A false) || (mget s101 x106.B false)) || (decide (x106.A = x106.B))))) (pick_or (fun h9 => gv_t (not_f h9))) ?_
            refine tcond (fun h164 => ?_) (fun h164 => ?_)
            · refine tb (x := (eV 7)) (p_mkE (by decide)) ?_
              exact rf_ret rfl
            · refine tb (x := (T_Spot.e x106.A)) (rfl) ?_
              refine tb (x := (T_Spot.e x106.A)) rfl ?_
              refine tb (x := (T_Spot.e x106.B)) (rfl) ?_
              refine tb (x := (T_Spot.e x106.B)) rfl ?_
              refine tb (x := V.mp (mrep T_Spot.val (fun b : Bool => Go.Value.bool b) (mput s101 x106.A true))) (p_put (kt := 38) (et := 4) (kv := T_Spot.val) (vv := (fun b : Bool => Go.Value.bool b)) T_Spot.mkey (by kernel_rfl) x106.A true rfl rfl s101) ?_
              refine tb (x := V.mp (mrep T_Spot.val (fun b : Bool => Go.Value.bool b) (mput (mput s101 x106.A true) x106.B true))) (p_put (kt := 38) (et := 4) (kv := T_Spot.val) (vv := (fun b : Bool => Go.Value.bool b)) T_Spot.mkey (by kernel_rfl) x106.B true rfl rfl (mput s101 x106.A true)) ?_
              refine tb (x := (vi ((i105 : Int) + 1))) (p_incN h108) ?_
              refine tkeepO2 ?_ rfl
              refine tsome ?_
              exact h103 (mput (mput s101 x106.A true) x106.B true)
        · refine tb (x := (vb (decide ((List.length a0.Links : Int) < (List.length a0.Links : Int))))) (d_lss) ?_
          refine tcond_f h173 ?_
          refine tkeepO2 ?_ rfl
          refine tsome ?_
          exact h38 (s101)

/-! railpoint/railref1.Peer -/
def an_railref1_Peer : Ann := .seq (.reg 0 [] [] []) (.seq (.seq (.reg 0 [] [] []) (.blk (some [.b 4]) (.loop [.kb 2, .kb 3, .b 4, .s 6] (.seq (.seq (.reg 0 [] [] []) (.cond none (.no) (.no))) (.seq (.blk none (.seq (.seq (.reg 8 [] [] []) (.cond none (.seq (.reg 0 [] [] []) (.no)) (.no))) (.seq (.reg 8 [] [] []) (.cond none (.seq (.reg 0 [] [] []) (.no)) (.no))))) (.reg 0 [] [] [])))))) (.seq (.reg 0 [] [] []) (.no)))
noncomputable def sem_railref1_Peer (n : Nat) (xs : List V) : Option V := if xs.length ≤ 43 then denF Tryd.prog (envOf []) n Tryd.f13 an_railref1_Peer xs else none
theorem ok_railref1_Peer (n : Nat) : SemOk Tryd.prog DW 13 (sem_railref1_Peer n) := fun xs y h => by
  unfold sem_railref1_Peer at h
  split at h
  · rename_i hl
    exact denF_ok stb Tryd.func13 (by kernel_rfl) (envOf_ok semsOk_nil) (by rw [Tryd.ntmps13]; exact hl) h
  · cases h
theorem eq_railref1_Peer (n : Nat) (x0 x1 : V) : sem_railref1_Peer n [x0, x1] =
 (V.cellsO x0).bind fun v1 =>
 (V.cellsO x1).bind fun v2 =>
 JoinPt (fun vs3 =>
 ((fillL [(vi 0), (vi 0)] []).map V.agg).bind fun v5 =>
 (spliceV (aggL (List.getD vs3 0 V.any)) 0 2 v5).bind fun v6 =>
 (ldk (some 2) (List.drop 0 (aggL v6))).bind fun v7 =>
 some (V.tup [v7, (vb false)])) fun J4 =>
 (keepO (some v1) (some v1) (keepO (some v2) (some v2) (some [(V.agg [(vi 0), (vi 0)]), (vi 0)]))).bind (fixN (fun rec8 vs9 =>
 (ldk none (List.drop 1 v1)).bind fun v10 =>
 (lenS [v10]).bind fun v11 =>
 (bin2 Tryd.prog BinOp.lss 3 (ot 7) (ot 10) (List.getD vs9 1 V.any) v11).bind fun v12 =>
 condV v12 (
 (ldk none (List.drop 1 v1)).bind fun v13 =>
 (idxS 4 v13 (List.getD vs9 1 V.any)).bind fun v14 =>
 (ptrF 0 v14).bind fun v15 =>
 (ldp (some 2) v15).bind fun v16 =>
 (ldk (some 2) (List.drop 0 v2)).bind fun v17 =>
 (bin2 Tryd.prog BinOp.eql 38 (ot 19) (ot 20) v16 v17).bind fun v18 =>
 condV v18 (
 (ldk none (List.drop 1 v1)).bind fun v19 =>
 (idxS 4 v19 (List.getD vs9 1 V.any)).bind fun v20 =>
 (ptrF 2 v20).bind fun v21 =>
 (ldp (some 2) v21).bind fun v22 =>
 (spliceV (aggL (List.getD vs9 0 V.any)) 0 2 v22).bind fun v23 =>
 (ldk (some 2) (List.drop 0 (aggL v23))).bind fun v24 =>
 some (V.tup [v24, (vb true)])) (
 (ldk none (List.drop 1 v1)).bind fun v25 =>
 (idxS 4 v25 (List.getD vs9 1 V.any)).bind fun v26 =>
 (ptrF 2 v26).bind fun v27 =>
 (ldp (some 2) v27).bind fun v28 =>
 (ldk (some 2) (List.drop 0 v2)).bind fun v29 =>
 (bin2 Tryd.prog BinOp.eql 38 (ot 33) (ot 34) v28 v29).bind fun v30 =>
 condV v30 (
 (ldk none (List.drop 1 v1)).bind fun v31 =>
 (idxS 4 v31 (List.getD vs9 1 V.any)).bind fun v32 =>
 (ptrF 0 v32).bind fun v33 =>
 (ldp (some 2) v33).bind fun v34 =>
 (spliceV (aggL (List.getD vs9 0 V.any)) 0 2 v34).bind fun v35 =>
 (ldk (some 2) (List.drop 0 (aggL v35))).bind fun v36 =>
 some (V.tup [v36, (vb true)])) (
 (bin2 Tryd.prog BinOp.add 3 (ot 12) (oc 1) (List.getD vs9 1 V.any) (vi 1)).bind fun v37 =>
 (keepO (some v1) (some v1) (keepO (some v2) (some v2) (some [(V.agg (aggL (List.getD vs9 0 V.any))), v37]))).bind rec8))) (
 J4 [(V.agg (aggL (List.getD vs9 0 V.any)))])) n) := by kernel_rfl
noncomputable def t_railref1_Peer (a0 : T_Topo) (a1 : T_Spot) : Option (T_Spot × Bool) :=
 join (fun (s5 : T_Spot) =>
 some ((T_Spot.mk 0 0), false)) fun j6 =>
 loopI a0.Links (fun (i17 : Int) x18 (s13 : Unit) k14 =>
 if (decide (x18.A = a1)) = true then (
 some (x18.B, true)) else (
 if (decide (x18.B = a1)) = true then (
 some (x18.A, true)) else (
 k14 ()))) (fun (s13 : Unit) =>
 j6 (T_Spot.mk 0 0)) ()
theorem ty_railref1_Peer {n : Nat} (hn : bigN ≤ n) (a0 : T_Topo) (a1 : T_Spot) : Rv (fun x : (T_Spot × Bool) => V.tup [(T_Spot.e x.1), (vb x.2)]) (sem_railref1_Peer n [(T_Topo.e a0), (T_Spot.e a1)]) (t_railref1_Peer a0 a1) := by
  rw [eq_railref1_Peer]
  unfold t_railref1_Peer
  refine tb (x := (T_Topo.c a0)) rfl ?_
  refine tb (x := (T_Spot.c a1)) rfl ?_
  refine tjoin (mk := fun s5 : T_Spot => [(V.agg (T_Spot.c s5))]) (fun s5 => ?_) fun J4 j6 h7 => ?_
  · refine tb (x := (T_Spot.e (T_Spot.mk 0 0))) (by kernel_rfl) ?_
    refine tb (x := V.agg (T_Spot.c (T_Spot.mk 0 0))) (by kernel_rfl) ?_
    refine tb (x := (T_Spot.e (T_Spot.mk 0 0))) rfl ?_
    exact rf_ret rfl
  · refine tkeepO2 ?_ rfl
    refine tkeepO2 ?_ rfl
    refine tsome ?_
    refine rf_loopI (mk := fun (i17 : Int) (s13 : Unit) => [(V.agg (T_Spot.c (T_Spot.mk 0 0))), (vi (i17 : Int))]) hn a0.Links () (fun i17 x18 h19 h20 h21 s13 rec11 k14 h15 => ?_) (fun s13 rec53 h52 => ?_)
    · refine tb (x := (V.sl (List.map T_Link.c a0.Links))) (rfl) ?_
      refine tb (x := (vi (List.length a0.Links : Int))) (p_len _) ?_
      refine tb (x := (vb (decide ((i17 : Int) < (List.length a0.Links : Int))))) (d_lss) ?_
      refine tcond_t h21 ?_
      refine tb (x := (V.sl (List.map T_Link.c a0.Links))) (rfl) ?_
      refine tb (x := (V.ptr (T_Link.c x18))) (p_idx_at (c := T_Link.c) (fun _ => rfl) h19) ?_
      refine tb (x := (V.ptr (T_Link.c x18))) (rfl) ?_
      refine tb (x := (T_Spot.e x18.A)) (rfl) ?_
      refine tb (x := (T_Spot.e a1)) (rfl) ?_
      refine tb (x := (vb (decide (x18.A = a1)))) (T_Spot.eql x18.A a1) ?_
      refine tcond (fun h31 => ?_) (fun h31 => ?_)
      · refine tb (x := (V.sl (List.map T_Link.c a0.Links))) (rfl) ?_
        refine tb (x := (V.ptr (T_Link.c x18))) (p_idx_at (c := T_Link.c) (fun _ => rfl) h19) ?_
        refine tb (x := (V.ptr (List.drop 2 (T_Link.c x18)))) (rfl) ?_
        refine tb (x := (T_Spot.e x18.B)) (rfl) ?_
        refine tb (x := V.agg (T_Spot.c x18.B)) (by kernel_rfl) ?_
        refine tb (x := (T_Spot.e x18.B)) rfl ?_
        exact rf_ret rfl
      · refine tb (x := (V.sl (List.map T_Link.c a0.Links))) (rfl) ?_
        refine tb (x := (V.ptr (T_Link.c x18))) (p_idx_at (c := T_Link.c) (fun _ => rfl) h19) ?_
        refine tb (x := (V.ptr (List.drop 2 (T_Link.c x18)))) (rfl) ?_
        refine tb (x := (T_Spot.e x18.B)) (rfl) ?_
        refine tb (x := (T_Spot.e a1)) (rfl) ?_
        refine tb (x := (vb (decide (x18.B = a1)))) (T_Spot.eql x18.B a1) ?_
        refine tcond (fun h44 => ?_) (fun h44 => ?_)
        · refine tb (x := (V.sl (List.map T_Link.c a0.Links))) (rfl) ?_
          refine tb (x := (V.ptr (T_Link.c x18))) (p_idx_at (c := T_Link.c) (fun _ => rfl) h19) ?_
          refine tb (x := (V.ptr (T_Link.c x18))) (rfl) ?_
          refine tb (x := (T_Spot.e x18.A)) (rfl) ?_
          refine tb (x := V.agg (T_Spot.c x18.A)) (by kernel_rfl) ?_
          refine tb (x := (T_Spot.e x18.A)) rfl ?_
          exact rf_ret rfl
        · refine tb (x := (vi ((i17 : Int) + 1))) (p_incN h20) ?_
          refine tkeepO2 ?_ rfl
          refine tkeepO2 ?_ rfl
          refine tsome ?_
          exact h15 ()
    · refine tb (x := (V.sl (List.map T_Link.c a0.Links))) (rfl) ?_
      refine tb (x := (vi (List.length a0.Links : Int))) (p_len _) ?_
      refine tb (x := (vb (decide ((List.length a0.Links : Int) < (List.length a0.Links : Int))))) (d_lss) ?_
      refine tcond_f h52 ?_
      exact h7 (T_Spot.mk 0 0)

/-! railpoint/railref1.Host -/
def an_railref1_Host : Ann := .seq (.reg 0 [] [] []) (.seq (.seq (.reg 0 [] [] []) (.blk (some []) (.loop [.kb 2, .kb 3, .s 5] (.seq (.seq (.reg 0 [] [] []) (.cond none (.no) (.no))) (.seq (.blk none (.seq (.reg 8 [] [] []) (.cond none (.seq (.reg 0 [] [] []) (.no)) (.no)))) (.reg 0 [] [] [])))))) (.seq (.reg 0 [] [] []) (.no)))
noncomputable def sem_railref1_Host (n : Nat) (xs : List V) : Option V := if xs.length ≤ 22 then denF Tryd.prog (envOf []) n Tryd.f14 an_railref1_Host xs else none
theorem ok_railref1_Host (n : Nat) : SemOk Tryd.prog DW 14 (sem_railref1_Host n) := fun xs y h => by
  unfold sem_railref1_Host at h
  split at h
  · rename_i hl
    exact denF_ok stb Tryd.func14 (by kernel_rfl) (envOf_ok semsOk_nil) (by rw [Tryd.ntmps14]; exact hl) h
  · cases h
theorem eq_railref1_Host (n : Nat) (x0 x1 : V) : sem_railref1_Host n [x0, x1] =
 (V.cellsO x0).bind fun v1 =>
 (V.cellsO x1).bind fun v2 =>
 JoinPt (fun vs3 =>
 some (vi (-1 : Int))) fun J4 =>
 (keepO (some v1) (some v1) (keepO (some v2) (some v2) (some [(vi 0)]))).bind (fixN (fun rec5 vs6 =>
 (ldk none (List.drop 2 v1)).bind fun v7 =>
 (lenS [v7]).bind fun v8 =>
 (bin2 Tryd.prog BinOp.lss 3 (ot 6) (ot 9) (List.getD vs6 0 V.any) v8).bind fun v9 =>
 condV v9 (
 (ldk none (List.drop 2 v1)).bind fun v10 =>
 (idxS 3 v10 (List.getD vs6 0 V.any)).bind fun v11 =>
 (ptrF 1 v11).bind fun v12 =>
 (ldp (some 2) v12).bind fun v13 =>
 (ldk (some 2) (List.drop 0 v2)).bind fun v14 =>
 (bin2 Tryd.prog BinOp.eql 38 (ot 18) (ot 19) v13 v14).bind fun v15 =>
 condV v15 (
 some (List.getD vs6 0 V.any)) (
 (bin2 Tryd.prog BinOp.add 3 (ot 11) (oc 1) (List.getD vs6 0 V.any) (vi 1)).bind fun v16 =>
 (keepO (some v1) (some v1) (keepO (some v2) (some v2) (some [v16]))).bind rec5)) (
 J4 [])) n) := by kernel_rfl
noncomputable def t_railref1_Host (a0 : T_Topo) (a1 : T_Spot) : Option Int :=
 join (fun (s5 : Unit) =>
 some (-1 : Int)) fun j6 =>
 loopI a0.Hosts (fun (i14 : Int) x15 (s10 : Unit) k11 =>
 if (decide (x15.At = a1)) = true then (
 some i14) else (
 k11 ())) (fun (s10 : Unit) =>
 j6 ()) ()
theorem ty_railref1_Host {n : Nat} (hn : bigN ≤ n) (a0 : T_Topo) (a1 : T_Spot) : Rv (fun x : Int => (vi x)) (sem_railref1_Host n [(T_Topo.e a0), (T_Spot.e a1)]) (t_railref1_Host a0 a1) := by
  rw [eq_railref1_Host]
  unfold t_railref1_Host
  refine tb (x := (T_Topo.c a0)) rfl ?_
  refine tb (x := (T_Spot.c a1)) rfl ?_
  refine tjoin (mk := fun s5 : Unit => []) (fun s5 => ?_) fun J4 j6 h7 => ?_
  · exact rf_ret rfl
  · refine tkeepO2 ?_ rfl
    refine tkeepO2 ?_ rfl
    refine tsome ?_
    refine rf_loopI (mk := fun (i14 : Int) (s10 : Unit) => [(vi (i14 : Int))]) hn a0.Hosts () (fun i14 x15 h16 h17 h18 s10 rec8 k11 h12 => ?_) (fun s10 rec31 h30 => ?_)
    · refine tb (x := (V.sl (List.map T_Host.c a0.Hosts))) (rfl) ?_
      refine tb (x := (vi (List.length a0.Hosts : Int))) (p_len _) ?_
      refine tb (x := (vb (decide ((i14 : Int) < (List.length a0.Hosts : Int))))) (d_lss) ?_
      refine tcond_t h18 ?_
      refine tb (x := (V.sl (List.map T_Host.c a0.Hosts))) (rfl) ?_
      refine tb (x := (V.ptr (T_Host.c x15))) (p_idx_at (c := T_Host.c) (fun _ => rfl) h16) ?_
      refine tb (x := (V.ptr (List.drop 1 (T_Host.c x15)))) (rfl) ?_
      refine tb (x := (T_Spot.e x15.At)) (rfl) ?_
      refine tb (x := (T_Spot.e a1)) (rfl) ?_
      refine tb (x := (vb (decide (x15.At = a1)))) (T_Spot.eql x15.At a1) ?_
      refine tcond (fun h28 => ?_) (fun h28 => ?_)
      · exact rf_ret rfl
      · refine tb (x := (vi ((i14 : Int) + 1))) (p_incN h17) ?_
        refine tkeepO2 ?_ rfl
        refine tkeepO2 ?_ rfl
        refine tsome ?_
        exact h12 ()
    · refine tb (x := (V.sl (List.map T_Host.c a0.Hosts))) (rfl) ?_
      refine tb (x := (vi (List.length a0.Hosts : Int))) (p_len _) ?_
      refine tb (x := (vb (decide ((List.length a0.Hosts : Int) < (List.length a0.Hosts : Int))))) (d_lss) ?_
      refine tcond_f h30 ?_
      exact h7 ()

/-! railpoint/topo.ready -/
def an_topo_ready : Ann := .seq (.reg 0 [] [] []) (.seq (.seq (.reg 0 [] [] []) (.seq (.reg 0 [] [] []) (.cond none (.seq (.reg 0 [] [] []) (.no)) (.no)))) (.seq (.seq (.reg 0 [] [] []) (.cond none (.seq (.reg 0 [] [] []) (.no)) (.no))) (.seq (.reg 0 [] [] []) (.no))))
noncomputable def sem_topo_ready (n : Nat) (xs : List V) : Option V := if xs.length ≤ 16 then denF Tryd.prog (envOf [(6, (sem_topo_Check n)), (31, (sem_topo_Spot n))]) n Tryd.f33 an_topo_ready xs else none
theorem ok_topo_ready (n : Nat) : SemOk Tryd.prog DW 33 (sem_topo_ready n) := fun xs y h => by
  unfold sem_topo_ready at h
  split at h
  · rename_i hl
    exact denF_ok stb Tryd.func33 (by kernel_rfl) (envOf_ok (semsOk_cons (ok_topo_Check n) (semsOk_cons (ok_topo_Spot n) semsOk_nil))) (by rw [Tryd.ntmps33]; exact hl) h
  · cases h
theorem eq_topo_ready (n : Nat) (x0 x1 : V) : sem_topo_ready n [x0, x1] =
 (V.cellsO x0).bind fun v1 =>
 (V.cellsO x1).bind fun v2 =>
 (ldk (some 3) (List.drop 0 v1)).bind fun v3 =>
 ((sem_topo_Check n) [v3]).bind fun v4 =>
 (bin2 Tryd.prog BinOp.neq 23 (ot 8) (Operand.const Go.Value.nilIface) v4 vn).bind fun v5 =>
 condV v5 (
 some v4) (
 (ldk (some 3) (List.drop 0 v1)).bind fun v6 =>
 (ldk (some 2) (List.drop 0 v2)).bind fun v7 =>
 ((sem_topo_Spot n) [v6, v7]).bind fun v8 =>
 (scal1 Tryd.prog (Op.unary Go.UnOp.not) v8).bind fun v9 =>
 condV v9 (
 (scal1 Tryd.prog (Instr.makeInterface 78) (vi 1)).bind fun v10 =>
 some v10) (
 some vn)) := by kernel_rfl
noncomputable def t_topo_ready (a0 : T_Topo) (a1 : T_Spot) : Option Int :=
 (t_topo_Check a0).bind fun r5 =>
 if (!decide (r5 = 0)) = true then (
 some r5) else (
 (t_topo_Spot a0 a1).bind fun r11 =>
 if (!r11) = true then (
 some 1) else (
 some 0))
theorem ty_topo_ready {n : Nat} (hn : bigN ≤ n) (a0 : T_Topo) (a1 : T_Spot) : Rv (fun x : Int => (eV x)) (sem_topo_ready n [(T_Topo.e a0), (T_Spot.e a1)]) (t_topo_ready a0 a1) := by
  rw [eq_topo_ready]
  unfold t_topo_ready
  refine tb (x := (T_Topo.c a0)) rfl ?_
  refine tb (x := (T_Spot.c a1)) rfl ?_
  refine tb (x := (T_Topo.e a0)) (rfl) ?_
  refine tbo (ty_topo_Check hn a0) fun r5 => ?_
  refine tb (x := (vb (!decide (r5 = 0)))) (p_err_neq _) ?_
  refine tcond (fun h7 => ?_) (fun h7 => ?_)
  · exact rf_ret rfl
  · refine tb (x := (T_Topo.e a0)) (rfl) ?_
    refine tb (x := (T_Spot.e a1)) (rfl) ?_
    refine tbo (ty_topo_Spot hn a0 a1) fun r11 => ?_
    refine tb (x := (vb (!r11))) (d_not) ?_
    refine tcond (fun h13 => ?_) (fun h13 => ?_)
    · refine tb (x := (eV 1)) (p_mkE (by decide)) ?_
      exact rf_ret rfl
    · exact rf_ret rfl

/-! railpoint/topo.Other -/
def an_topo_Other : Ann := .seq (.reg 0 [] [] []) (.seq (.seq (.reg 0 [] [] []) (.blk (some [.b 4]) (.loop [.kb 3, .b 4, .s 11] (.seq (.reg 0 [] [] []) (.seq (.cond none (.no) (.no)) (.seq (.blk none (.seq (.reg 0 [] [] []) (.seq (.reg 0 [] [] []) (.blk none (.seq (.reg 0 [] [] []) (.cond none (.seq (.reg 0 [] [] []) (.no)) (.seq (.reg 0 [] [] []) (.cond none (.seq (.reg 0 [] [] []) (.no)) (.no))))))))) (.reg 0 [] [] []))))))) (.seq (.reg 0 [] [] []) (.no)))
noncomputable def sem_topo_Other (n : Nat) (xs : List V) : Option V := if xs.length ≤ 30 then denF Tryd.prog (envOf []) n Tryd.f38 an_topo_Other xs else none
theorem ok_topo_Other (n : Nat) : SemOk Tryd.prog DW 38 (sem_topo_Other n) := fun xs y h => by
  unfold sem_topo_Other at h
  split at h
  · rename_i hl
    exact denF_ok stb Tryd.func38 (by kernel_rfl) (envOf_ok semsOk_nil) (by rw [Tryd.ntmps38]; exact hl) h
  · cases h
theorem eq_topo_Other (n : Nat) (x0 x1 : V) : sem_topo_Other n [x0, x1] =
 (V.cellsO x0).bind fun v1 =>
 (V.cellsO x1).bind fun v2 =>
 (ldk none (List.drop 1 v1)).bind fun v3 =>
 (lenS [v3]).bind fun v4 =>
 JoinPt (fun vs5 =>
 ((fillL [(vi 0), (vi 0)] []).map V.agg).bind fun v7 =>
 (spliceV (aggL (List.getD vs5 0 V.any)) 0 2 v7).bind fun v8 =>
 (ldk (some 2) (List.drop 0 (aggL v8))).bind fun v9 =>
 some (V.tup [v9, (vb false)])) fun J6 =>
 (keepO (some v2) (some v2) (some [(V.agg [(vi 0), (vi 0)]), (vi 0)])).bind (fixN (fun rec10 vs11 =>
 (bin2 Tryd.prog BinOp.lss 3 (ot 11) (ot 10) (List.getD vs11 1 V.any) v4).bind fun v12 =>
 condV v12 (
 (idxS 4 v3 (List.getD vs11 1 V.any)).bind fun v13 =>
 (ldp (some 4) v13).bind fun v14 =>
 (spliceV [(vi 0), (vi 0), (vi 0), (vi 0)] 0 4 v14).bind fun v15 =>
 (ldk (some 2) (List.drop 0 v2)).bind fun v16 =>
 (ldk (some 2) (List.drop 0 (aggL v15))).bind fun v17 =>
 (bin2 Tryd.prog BinOp.eql 38 (ot 15) (ot 18) v16 v17).bind fun v18 =>
 condV v18 (
 (ldk (some 2) (List.drop 2 (aggL v15))).bind fun v19 =>
 (spliceV (aggL (List.getD vs11 0 V.any)) 0 2 v19).bind fun v20 =>
 (ldk (some 2) (List.drop 0 (aggL v20))).bind fun v21 =>
 some (V.tup [v21, (vb true)])) (
 (ldk (some 2) (List.drop 2 (aggL v15))).bind fun v22 =>
 (bin2 Tryd.prog BinOp.eql 38 (ot 15) (ot 24) v16 v22).bind fun v23 =>
 condV v23 (
 (ldk (some 2) (List.drop 0 (aggL v15))).bind fun v24 =>
 (spliceV (aggL (List.getD vs11 0 V.any)) 0 2 v24).bind fun v25 =>
 (ldk (some 2) (List.drop 0 (aggL v25))).bind fun v26 =>
 some (V.tup [v26, (vb true)])) (
 (bin2 Tryd.prog BinOp.add 3 (ot 11) (oc 1) (List.getD vs11 1 V.any) (vi 1)).bind fun v27 =>
 (keepO (some v2) (some v2) (some [(V.agg (aggL (List.getD vs11 0 V.any))), v27])).bind rec10))) (
 J6 [(V.agg (aggL (List.getD vs11 0 V.any)))])) n) := by kernel_rfl
noncomputable def t_topo_Other (a0 : T_Topo) (a1 : T_Spot) : Option (T_Spot × Bool) :=
 join (fun (s7 : T_Spot) =>
 some ((T_Spot.mk 0 0), false)) fun j8 =>
 loopI a0.Links (fun (i19 : Int) x20 (s15 : Unit) k16 =>
 if (decide (a1 = x20.A)) = true then (
 some (x20.B, true)) else (
 if (decide (a1 = x20.B)) = true then (
 some (x20.A, true)) else (
 k16 ()))) (fun (s15 : Unit) =>
 j8 (T_Spot.mk 0 0)) ()
theorem ty_topo_Other {n : Nat} (hn : bigN ≤ n) (a0 : T_Topo) (a1 : T_Spot) : Rv (fun x : (T_Spot × Bool) => V.tup [(T_Spot.e x.1), (vb x.2)]) (sem_topo_Other n [(T_Topo.e a0), (T_Spot.e a1)]) (t_topo_Other a0 a1) := by
  rw [eq_topo_Other]
  unfold t_topo_Other
  refine tb (x := (T_Topo.c a0)) rfl ?_
  refine tb (x := (T_Spot.c a1)) rfl ?_
  refine tb (x := (V.sl (List.map T_Link.c a0.Links))) (rfl) ?_
  refine tb (x := (vi (List.length a0.Links : Int))) (p_len _) ?_
  refine tjoin (mk := fun s7 : T_Spot => [(V.agg (T_Spot.c s7))]) (fun s7 => ?_) fun J6 j8 h9 => ?_
  · refine tb (x := (T_Spot.e (T_Spot.mk 0 0))) (by kernel_rfl) ?_
    refine tb (x := V.agg (T_Spot.c (T_Spot.mk 0 0))) (by kernel_rfl) ?_
    refine tb (x := (T_Spot.e (T_Spot.mk 0 0))) rfl ?_
    exact rf_ret rfl
  · refine tkeepO2 ?_ rfl
    refine tsome ?_
    refine rf_loopI (mk := fun (i19 : Int) (s15 : Unit) => [(V.agg (T_Spot.c (T_Spot.mk 0 0))), (vi (i19 : Int))]) hn a0.Links () (fun i19 x20 h21 h22 h23 s15 rec13 k16 h17 => ?_) (fun s15 rec43 h42 => ?_)
    · refine tb (x := (vb (decide ((i19 : Int) < (List.length a0.Links : Int))))) (d_lss) ?_
      refine tcond_t h23 ?_
      refine tb (x := (V.ptr (T_Link.c x20))) (p_idx_at (c := T_Link.c) (fun _ => rfl) h21) ?_
      refine tb (x := (T_Link.e x20)) (rfl) ?_
      refine tb (x := V.agg (T_Link.c x20)) (by kernel_rfl) ?_
      refine tb (x := (T_Spot.e a1)) (rfl) ?_
      refine tb (x := (T_Spot.e x20.A)) (rfl) ?_
      refine tb (x := (vb (decide (a1 = x20.A)))) (T_Spot.eql a1 x20.A) ?_
      refine tcond (fun h31 => ?_) (fun h31 => ?_)
      · refine tb (x := (T_Spot.e x20.B)) (rfl) ?_
        refine tb (x := V.agg (T_Spot.c x20.B)) (by kernel_rfl) ?_
        refine tb (x := (T_Spot.e x20.B)) rfl ?_
        exact rf_ret rfl
      · refine tb (x := (T_Spot.e x20.B)) (rfl) ?_
        refine tb (x := (vb (decide (a1 = x20.B)))) (T_Spot.eql a1 x20.B) ?_
        refine tcond (fun h37 => ?_) (fun h37 => ?_)
        · refine tb (x := (T_Spot.e x20.A)) (rfl) ?_
          refine tb (x := V.agg (T_Spot.c x20.A)) (by kernel_rfl) ?_
          refine tb (x := (T_Spot.e x20.A)) rfl ?_
          exact rf_ret rfl
        · refine tb (x := (vi ((i19 : Int) + 1))) (p_incN h22) ?_
          refine tkeepO2 ?_ rfl
          refine tsome ?_
          exact h17 ()
    · refine tb (x := (vb (decide ((List.length a0.Links : Int) < (List.length a0.Links : Int))))) (d_lss) ?_
      refine tcond_f h42 ?_
      exact h9 (T_Spot.mk 0 0)

/-! railpoint/topo.Peer -/
def an_topo_Peer : Ann := .seq (.reg 0 [] [] []) (.seq (.seq (.reg 0 [] [] []) (.seq (.reg 0 [] [] []) (.cond none (.seq (.reg 0 [] [] []) (.no)) (.no)))) (.seq (.reg 0 [] [] []) (.seq (.seq (.reg 0 [] [] []) (.cond none (.seq (.reg 0 [] [] []) (.no)) (.no))) (.seq (.reg 0 [] [] []) (.no)))))
noncomputable def sem_topo_Peer (n : Nat) (xs : List V) : Option V := if xs.length ≤ 27 then denF Tryd.prog (envOf [(33, (sem_topo_ready n)), (38, (sem_topo_Other n))]) n Tryd.f15 an_topo_Peer xs else none
theorem ok_topo_Peer (n : Nat) : SemOk Tryd.prog DW 15 (sem_topo_Peer n) := fun xs y h => by
  unfold sem_topo_Peer at h
  split at h
  · rename_i hl
    exact denF_ok stb Tryd.func15 (by kernel_rfl) (envOf_ok (semsOk_cons (ok_topo_ready n) (semsOk_cons (ok_topo_Other n) semsOk_nil))) (by rw [Tryd.ntmps15]; exact hl) h
  · cases h
theorem eq_topo_Peer (n : Nat) (x0 x1 : V) : sem_topo_Peer n [x0, x1] =
 (V.cellsO x0).bind fun v1 =>
 (V.cellsO x1).bind fun v2 =>
 (ldk (some 3) (List.drop 0 v1)).bind fun v3 =>
 (ldk (some 2) (List.drop 0 v2)).bind fun v4 =>
 ((sem_topo_ready n) [v3, v4]).bind fun v5 =>
 (bin2 Tryd.prog BinOp.neq 23 (ot 12) (Operand.const Go.Value.nilIface) v5 vn).bind fun v6 =>
 condV v6 (
 ((fillL [(vi 0), (vi 0)] []).map V.agg).bind fun v7 =>
 (spliceV [(vi 0), (vi 0)] 0 2 v7).bind fun v8 =>
 (ldk (some 2) (List.drop 0 (aggL v8))).bind fun v9 =>
 some (V.tup [v9, v5])) (
 (ldk (some 3) (List.drop 0 v1)).bind fun v10 =>
 (ldk (some 2) (List.drop 0 v2)).bind fun v11 =>
 ((sem_topo_Other n) [v10, v11]).bind fun v12 =>
 (extractV v12 0).bind fun v13 =>
 (extractV v12 1).bind fun v14 =>
 (spliceV [(vi 0), (vi 0)] 0 2 v13).bind fun v15 =>
 (scal1 Tryd.prog (Op.unary Go.UnOp.not) v14).bind fun v16 =>
 condV v16 (
 ((fillL [(vi 0), (vi 0)] []).map V.agg).bind fun v17 =>
 (scal1 Tryd.prog (Instr.makeInterface 78) (vi 5)).bind fun v18 =>
 (spliceV [(vi 0), (vi 0)] 0 2 v17).bind fun v19 =>
 (ldk (some 2) (List.drop 0 (aggL v19))).bind fun v20 =>
 some (V.tup [v20, v18])) (
 (ldk (some 2) (List.drop 0 (aggL v15))).bind fun v21 =>
 (spliceV [(vi 0), (vi 0)] 0 2 v21).bind fun v22 =>
 (ldk (some 2) (List.drop 0 (aggL v22))).bind fun v23 =>
 some (V.tup [v23, vn]))) := by kernel_rfl
noncomputable def t_topo_Peer (a0 : T_Topo) (a1 : T_Spot) : Option (T_Spot × Int) :=
 (t_topo_ready a0 a1).bind fun r6 =>
 if (!decide (r6 = 0)) = true then (
 some ((T_Spot.mk 0 0), r6)) else (
 (t_topo_Other a0 a1).bind fun r15 =>
 if (!r15.2) = true then (
 some ((T_Spot.mk 0 0), 5)) else (
 some (r15.1, 0)))
theorem ty_topo_Peer {n : Nat} (hn : bigN ≤ n) (a0 : T_Topo) (a1 : T_Spot) : Rv (fun x : (T_Spot × Int) => V.tup [(T_Spot.e x.1), (eV x.2)]) (sem_topo_Peer n [(T_Topo.e a0), (T_Spot.e a1)]) (t_topo_Peer a0 a1) := by
  rw [eq_topo_Peer]
  unfold t_topo_Peer
  refine tb (x := (T_Topo.c a0)) rfl ?_
  refine tb (x := (T_Spot.c a1)) rfl ?_
  refine tb (x := (T_Topo.e a0)) (rfl) ?_
  refine tb (x := (T_Spot.e a1)) (rfl) ?_
  refine tbo (ty_topo_ready hn a0 a1) fun r6 => ?_
  refine tb (x := (vb (!decide (r6 = 0)))) (p_err_neq _) ?_
  refine tcond (fun h8 => ?_) (fun h8 => ?_)
  · refine tb (x := (T_Spot.e (T_Spot.mk 0 0))) (by kernel_rfl) ?_
    refine tb (x := V.agg (T_Spot.c (T_Spot.mk 0 0))) (by kernel_rfl) ?_
    refine tb (x := (T_Spot.e (T_Spot.mk 0 0))) rfl ?_
    exact rf_ret rfl
  · refine tb (x := (T_Topo.e a0)) (rfl) ?_
    refine tb (x := (T_Spot.e a1)) (rfl) ?_
    refine tbo (ty_topo_Other hn a0 a1) fun r15 => ?_
    refine tb (x := (T_Spot.e r15.1)) (rfl) ?_
    refine tb (x := (vb r15.2)) (rfl) ?_
    refine tb (x := V.agg (T_Spot.c r15.1)) (by kernel_rfl) ?_
    refine tb (x := (vb (!r15.2))) (d_not) ?_
    refine tcond (fun h20 => ?_) (fun h20 => ?_)
    · refine tb (x := (T_Spot.e (T_Spot.mk 0 0))) (by kernel_rfl) ?_
      refine tb (x := (eV 5)) (p_mkE (by decide)) ?_
      refine tb (x := V.agg (T_Spot.c (T_Spot.mk 0 0))) (by kernel_rfl) ?_
      refine tb (x := (T_Spot.e (T_Spot.mk 0 0))) rfl ?_
      exact rf_ret rfl
    · refine tb (x := (T_Spot.e r15.1)) (rfl) ?_
      refine tb (x := V.agg (T_Spot.c r15.1)) (by kernel_rfl) ?_
      refine tb (x := (T_Spot.e r15.1)) rfl ?_
      exact rf_ret rfl

/-! slices.IndexFunc   railpoint/api.Host railpoint/api.Host  -/
def an_slices_IndexFunc_api_Host_api_Host : Ann := .seq (.reg 0 [] [] []) (.seq (.seq (.reg 0 [] [] []) (.blk (some []) (.loop [.s 8] (.seq (.reg 0 [] [] []) (.seq (.cond none (.no) (.no)) (.seq (.blk none (.seq (.reg 0 [] [] []) (.seq (.reg 0 [] [] []) (.cond none (.seq (.reg 0 [] [] []) (.no)) (.no))))) (.reg 0 [] [] []))))))) (.seq (.reg 0 [] [] []) (.no)))
noncomputable def sem_slices_IndexFunc_api_Host_api_Host (E : FuncId → List V → Option V) (n : Nat) (xs : List V) : Option V := if xs.length ≤ 19 then denF Tryd.prog (envJ [] E) n Tryd.f40 an_slices_IndexFunc_api_Host_api_Host xs else none
theorem ok_slices_IndexFunc_api_Host_api_Host {E : FuncId → List V → Option V} (hE : EnvOk Tryd.prog DW E) (n : Nat) : SemOk Tryd.prog DW 40 (sem_slices_IndexFunc_api_Host_api_Host E n) := fun xs y h => by
  unfold sem_slices_IndexFunc_api_Host_api_Host at h
  split at h
  · rename_i hl
    exact denF_ok stb Tryd.func40 (by kernel_rfl) (envJ_ok semsOk_nil hE) (by rw [Tryd.ntmps40]; exact hl) h
  · cases h
theorem eq_slices_IndexFunc_api_Host_api_Host (E : FuncId → List V → Option V) (n : Nat) (x0 x1 : V) : sem_slices_IndexFunc_api_Host_api_Host E n [x0, x1] =
 (lenS [x0]).bind fun v1 =>
 JoinPt (fun vs2 =>
 some (vi (-1 : Int))) fun J3 =>
 (fixN (fun rec4 vs5 =>
 (bin2 Tryd.prog BinOp.lss 3 (ot 8) (ot 7) (List.getD vs5 0 V.any) v1).bind fun v6 =>
 condV v6 (
 (idxS 3 x0 (List.getD vs5 0 V.any)).bind fun v7 =>
 (ldp (some 3) v7).bind fun v8 =>
 (callV (envJ [] E) x1 [v8]).bind fun v9 =>
 condV v9 (
 some (List.getD vs5 0 V.any)) (
 (bin2 Tryd.prog BinOp.add 3 (ot 8) (oc 1) (List.getD vs5 0 V.any) (vi 1)).bind fun v10 =>
 rec4 [v10])) (
 J3 [])) n) [(vi 0)] := by kernel_rfl
noncomputable def t_slices_IndexFunc_api_Host_api_Host (a0 : (List T_Host)) (g1 : T_Host → Option Bool) : Option Int :=
 join (fun (s4 : Unit) =>
 some (-1 : Int)) fun j5 =>
 loopI a0 (fun (i13 : Int) x14 (s9 : Unit) k10 =>
 (g1 x14).bind fun r22 =>
 if r22 = true then (
 some i13) else (
 k10 ())) (fun (s9 : Unit) =>
 j5 ()) ()
theorem ty_slices_IndexFunc_api_Host_api_Host {E : FuncId → List V → Option V} {n : Nat} (hn : bigN ≤ n) (a0 : (List T_Host)) {x1 : V} {g1 : T_Host → Option Bool} (hg_g1 : ∀ a0, Rv (fun x : Bool => (vb x)) (callV E x1 [(T_Host.e a0)]) (g1 a0)) : Rv (fun x : Int => (vi x)) (sem_slices_IndexFunc_api_Host_api_Host E n [(V.sl (List.map T_Host.c a0)), x1]) (t_slices_IndexFunc_api_Host_api_Host a0 g1) := by
  rw [eq_slices_IndexFunc_api_Host_api_Host]
  unfold t_slices_IndexFunc_api_Host_api_Host
  refine tb (x := (vi (List.length a0 : Int))) (p_len _) ?_
  refine tjoin (mk := fun s4 : Unit => []) (fun s4 => ?_) fun J3 j5 h6 => ?_
  · exact rf_ret rfl
  · refine rf_loopI (mk := fun (i13 : Int) (s9 : Unit) => [(vi (i13 : Int))]) hn a0 () (fun i13 x14 h15 h16 h17 s9 rec7 k10 h11 => ?_) (fun s9 rec26 h25 => ?_)
    · refine tb (x := (vb (decide ((i13 : Int) < (List.length a0 : Int))))) (d_lss) ?_
      refine tcond_t h17 ?_
      refine tb (x := (V.ptr (T_Host.c x14))) (p_idx_at (c := T_Host.c) (fun _ => rfl) h15) ?_
      refine tb (x := (T_Host.e x14)) (rfl) ?_
      refine tbo ((callV_J0 ▸ hg_g1 x14)) fun r22 => ?_
      refine tcond (fun h23 => ?_) (fun h23 => ?_)
      · exact rf_ret rfl
      · refine tb (x := (vi ((i13 : Int) + 1))) (p_incN h16) ?_
        exact h11 ()
    · refine tb (x := (vb (decide ((List.length a0 : Int) < (List.length a0 : Int))))) (d_lss) ?_
      refine tcond_f h25 ?_
      exact h6 ()

/-! railpoint/topo.Host$1 -/
def an_topo_Host_1 : Ann := .seq (.reg 0 [] [] []) (.seq (.reg 0 [] [] []) (.no))
noncomputable def sem_topo_Host_1 (n : Nat) (xs : List V) : Option V := if xs.length ≤ 8 then denF Tryd.prog (envOf []) n Tryd.f56 an_topo_Host_1 xs else none
theorem ok_topo_Host_1 (n : Nat) : SemOk Tryd.prog DW 56 (sem_topo_Host_1 n) := fun xs y h => by
  unfold sem_topo_Host_1 at h
  split at h
  · rename_i hl
    exact denF_ok stb Tryd.func56 (by kernel_rfl) (envOf_ok semsOk_nil) (by rw [Tryd.ntmps56]; exact hl) h
  · cases h
theorem eq_topo_Host_1 (n : Nat) (x0 x1 : V) : sem_topo_Host_1 n [x0, x1] =
 (V.cellsO x0).bind fun v1 =>
 (ldk (some 2) (List.drop 1 v1)).bind fun v2 =>
 (ldp (some 2) x1).bind fun v3 =>
 (bin2 Tryd.prog BinOp.eql 38 (ot 5) (ot 6) v2 v3).bind fun v4 =>
 some v4 := by kernel_rfl
noncomputable def t_topo_Host_1 (a0 : T_Host) (a1 : T_Spot) : Option Bool :=
 some (decide (a0.At = a1))
theorem ty_topo_Host_1 {n : Nat} (hn : bigN ≤ n) (a0 : T_Host) (a1 : T_Spot) : Rv (fun x : Bool => (vb x)) (sem_topo_Host_1 n [(T_Host.e a0), (V.ptr (T_Spot.c a1))]) (t_topo_Host_1 a0 a1) := by
  rw [eq_topo_Host_1]
  unfold t_topo_Host_1
  refine tb (x := (T_Host.c a0)) rfl ?_
  refine tb (x := (T_Spot.e a0.At)) (rfl) ?_
  refine tb (x := (T_Spot.e a1)) (rfl) ?_
  refine tb (x := (vb (decide (a0.At = a1)))) (T_Spot.eql a0.At a1) ?_
  exact rf_ret rfl

/-! railpoint/topo.Host -/
def an_topo_Host : Ann := .seq (.reg 0 [] [] []) (.seq (.reg 0 [3] [] []) (.seq (.seq (.reg 0 [] [] []) (.cond none (.seq (.reg 0 [] [] []) (.no)) (.no))) (.seq (.reg 0 [] [] []) (.no))))
noncomputable def sem_topo_Host (n : Nat) (xs : List V) : Option V := if xs.length ≤ 19 then denF Tryd.prog (envOf [(40, (sem_slices_IndexFunc_api_Host_api_Host (envOf [(56, (sem_topo_Host_1 n))]) n)), (56, (sem_topo_Host_1 n))]) n Tryd.f39 an_topo_Host xs else none
theorem ok_topo_Host (n : Nat) : SemOk Tryd.prog DW 39 (sem_topo_Host n) := fun xs y h => by
  unfold sem_topo_Host at h
  split at h
  · rename_i hl
    exact denF_ok stb Tryd.func39 (by kernel_rfl) (envOf_ok (semsOk_cons (ok_slices_IndexFunc_api_Host_api_Host (envOf_ok (semsOk_cons (ok_topo_Host_1 n) semsOk_nil)) n) (semsOk_cons (ok_topo_Host_1 n) semsOk_nil))) (by rw [Tryd.ntmps39]; exact hl) h
  · cases h
theorem eq_topo_Host (n : Nat) (x0 x1 : V) : sem_topo_Host n [x0, x1] =
 (V.cellsO x0).bind fun v1 =>
 (V.cellsO x1).bind fun v2 =>
 (ldk none (List.drop 2 v1)).bind fun v3 =>
 ((sem_slices_IndexFunc_api_Host_api_Host (envOf [(56, (sem_topo_Host_1 n))]) n) [v3, (V.fn 56 [(V.ptr v2)])]).bind fun v4 =>
 (bin2 Tryd.prog BinOp.lss 3 (ot 11) (oc 0) v4 (vi 0)).bind fun v5 =>
 condV v5 (
 some (V.tup [(V.lit (Go.Value.string (ByteArray.mk #[]))), (vb false)])) (
 (ldk none (List.drop 2 v1)).bind fun v6 =>
 (idxS 3 v6 v4).bind fun v7 =>
 (ptrF 0 v7).bind fun v8 =>
 (ldp none v8).bind fun v9 =>
 some (V.tup [v9, (vb true)])) := by kernel_rfl
noncomputable def t_topo_Host (a0 : T_Topo) (a1 : T_Spot) : Option (ByteArray × Bool) :=
 (t_slices_IndexFunc_api_Host_api_Host a0.Hosts (fun (a4 : T_Host) => t_topo_Host_1 a4 a1)).bind fun r6 =>
 if (decide (r6 < 0)) = true then (
 some ((ByteArray.mk #[]), false)) else (
 (idx a0.Hosts r6).bind fun r11 =>
 some (r11.Name, true))
theorem ty_topo_Host {n : Nat} (hn : bigN ≤ n) (a0 : T_Topo) (a1 : T_Spot) : Rv (fun x : (ByteArray × Bool) => V.tup [(vt x.1), (vb x.2)]) (sem_topo_Host n [(T_Topo.e a0), (T_Spot.e a1)]) (t_topo_Host a0 a1) := by
  rw [eq_topo_Host]
  unfold t_topo_Host
  refine tb (x := (T_Topo.c a0)) rfl ?_
  refine tb (x := (T_Spot.c a1)) rfl ?_
  refine tb (x := (V.sl (List.map T_Host.c a0.Hosts))) (rfl) ?_
  refine tbo (ty_slices_IndexFunc_api_Host_api_Host (E := (envOf [(56, (sem_topo_Host_1 n))])) (x1 := (V.fn 56 [(V.ptr (T_Spot.c a1))])) (g1 := (fun (a4 : T_Host) => t_topo_Host_1 a4 a1)) hn a0.Hosts (fun a4 => ty_topo_Host_1 hn a4 a1)) fun r6 => ?_
  refine tb (x := (vb (decide (r6 < 0)))) (d_lss) ?_
  refine tcond (fun h8 => ?_) (fun h8 => ?_)
  · exact rf_ret rfl
  · refine tb (x := (V.sl (List.map T_Host.c a0.Hosts))) (rfl) ?_
    refine tbo (p_idx (c := T_Host.c) (fun _ => rfl) a0.Hosts r6) fun r11 => ?_
    refine tb (x := (V.ptr (T_Host.c r11))) (rfl) ?_
    refine tb (x := (vt r11.Name)) (rfl) ?_
    exact rf_ret rfl

/-! railpoint/topo.At -/
def an_topo_At : Ann := .seq (.reg 0 [] [] []) (.seq (.seq (.reg 0 [] [] []) (.seq (.reg 0 [] [] []) (.cond none (.seq (.reg 0 [] [] []) (.no)) (.no)))) (.seq (.reg 0 [] [] []) (.seq (.seq (.reg 0 [] [] []) (.cond none (.seq (.reg 0 [] [] []) (.no)) (.no))) (.seq (.reg 0 [] [] []) (.no)))))
noncomputable def sem_topo_At (n : Nat) (xs : List V) : Option V := if xs.length ≤ 25 then denF Tryd.prog (envOf [(33, (sem_topo_ready n)), (39, (sem_topo_Host n))]) n Tryd.f16 an_topo_At xs else none
theorem ok_topo_At (n : Nat) : SemOk Tryd.prog DW 16 (sem_topo_At n) := fun xs y h => by
  unfold sem_topo_At at h
  split at h
  · rename_i hl
    exact denF_ok stb Tryd.func16 (by kernel_rfl) (envOf_ok (semsOk_cons (ok_topo_ready n) (semsOk_cons (ok_topo_Host n) semsOk_nil))) (by rw [Tryd.ntmps16]; exact hl) h
  · cases h
theorem eq_topo_At (n : Nat) (x0 x1 : V) : sem_topo_At n [x0, x1] =
 (V.cellsO x0).bind fun v1 =>
 (V.cellsO x1).bind fun v2 =>
 (ldk (some 3) (List.drop 0 v1)).bind fun v3 =>
 (ldk (some 2) (List.drop 0 v2)).bind fun v4 =>
 ((sem_topo_ready n) [v3, v4]).bind fun v5 =>
 (bin2 Tryd.prog BinOp.neq 23 (ot 12) (Operand.const Go.Value.nilIface) v5 vn).bind fun v6 =>
 condV v6 (
 some (V.tup [(V.lit (Go.Value.string (ByteArray.mk #[]))), v5])) (
 (ldk (some 3) (List.drop 0 v1)).bind fun v7 =>
 (ldk (some 2) (List.drop 0 v2)).bind fun v8 =>
 ((sem_topo_Host n) [v7, v8]).bind fun v9 =>
 (extractV v9 0).bind fun v10 =>
 (extractV v9 1).bind fun v11 =>
 (scal1 Tryd.prog (Op.unary Go.UnOp.not) v11).bind fun v12 =>
 condV v12 (
 (scal1 Tryd.prog (Instr.makeInterface 78) (vi 5)).bind fun v13 =>
 some (V.tup [(V.lit (Go.Value.string (ByteArray.mk #[]))), v13])) (
 some (V.tup [v10, vn]))) := by kernel_rfl
noncomputable def t_topo_At (a0 : T_Topo) (a1 : T_Spot) : Option (ByteArray × Int) :=
 (t_topo_ready a0 a1).bind fun r6 =>
 if (!decide (r6 = 0)) = true then (
 some ((ByteArray.mk #[]), r6)) else (
 (t_topo_Host a0 a1).bind fun r12 =>
 if (!r12.2) = true then (
 some ((ByteArray.mk #[]), 5)) else (
 some (r12.1, 0)))
theorem ty_topo_At {n : Nat} (hn : bigN ≤ n) (a0 : T_Topo) (a1 : T_Spot) : Rv (fun x : (ByteArray × Int) => V.tup [(vt x.1), (eV x.2)]) (sem_topo_At n [(T_Topo.e a0), (T_Spot.e a1)]) (t_topo_At a0 a1) := by
  rw [eq_topo_At]
  unfold t_topo_At
  refine tb (x := (T_Topo.c a0)) rfl ?_
  refine tb (x := (T_Spot.c a1)) rfl ?_
  refine tb (x := (T_Topo.e a0)) (rfl) ?_
  refine tb (x := (T_Spot.e a1)) (rfl) ?_
  refine tbo (ty_topo_ready hn a0 a1) fun r6 => ?_
  refine tb (x := (vb (!decide (r6 = 0)))) (p_err_neq _) ?_
  refine tcond (fun h8 => ?_) (fun h8 => ?_)
  · exact rf_ret rfl
  · refine tb (x := (T_Topo.e a0)) (rfl) ?_
    refine tb (x := (T_Spot.e a1)) (rfl) ?_
    refine tbo (ty_topo_Host hn a0 a1) fun r12 => ?_
    refine tb (x := (vt r12.1)) (rfl) ?_
    refine tb (x := (vb r12.2)) (rfl) ?_
    refine tb (x := (vb (!r12.2))) (d_not) ?_
    refine tcond (fun h16 => ?_) (fun h16 => ?_)
    · refine tb (x := (eV 5)) (p_mkE (by decide)) ?_
      exact rf_ret rfl
    · exact rf_ret rfl

/-! railpoint/railref1.Named -/
def an_railref1_Named : Ann := .seq (.reg 0 [] [] []) (.seq (.seq (.reg 0 [] [] []) (.blk (some []) (.loop [.kb 2, .s 5] (.seq (.seq (.reg 0 [] [] []) (.cond none (.no) (.no))) (.seq (.blk none (.seq (.reg 0 [] [] []) (.cond none (.seq (.reg 0 [] [] []) (.no)) (.no)))) (.reg 0 [] [] [])))))) (.seq (.reg 0 [] [] []) (.no)))
noncomputable def sem_railref1_Named (n : Nat) (xs : List V) : Option V := if xs.length ≤ 22 then denF Tryd.prog (envOf []) n Tryd.f17 an_railref1_Named xs else none
theorem ok_railref1_Named (n : Nat) : SemOk Tryd.prog DW 17 (sem_railref1_Named n) := fun xs y h => by
  unfold sem_railref1_Named at h
  split at h
  · rename_i hl
    exact denF_ok stb Tryd.func17 (by kernel_rfl) (envOf_ok semsOk_nil) (by rw [Tryd.ntmps17]; exact hl) h
  · cases h
theorem eq_railref1_Named (n : Nat) (x0 x1 : V) : sem_railref1_Named n [x0, x1] =
 (V.cellsO x0).bind fun v1 =>
 JoinPt (fun vs2 =>
 some (vi (-1 : Int))) fun J3 =>
 (keepO (some v1) (some v1) (some [(vi 0)])).bind (fixN (fun rec4 vs5 =>
 (ldk none (List.drop 2 v1)).bind fun v6 =>
 (lenS [v6]).bind fun v7 =>
 (bin2 Tryd.prog BinOp.lss 3 (ot 6) (ot 9) (List.getD vs5 0 V.any) v7).bind fun v8 =>
 condV v8 (
 (ldk none (List.drop 2 v1)).bind fun v9 =>
 (idxS 3 v9 (List.getD vs5 0 V.any)).bind fun v10 =>
 (ptrF 0 v10).bind fun v11 =>
 (ldp none v11).bind fun v12 =>
 (bin2 Tryd.prog BinOp.eql 9 (ot 18) (ot 19) v12 x1).bind fun v13 =>
 condV v13 (
 some (List.getD vs5 0 V.any)) (
 (bin2 Tryd.prog BinOp.add 3 (ot 11) (oc 1) (List.getD vs5 0 V.any) (vi 1)).bind fun v14 =>
 (keepO (some v1) (some v1) (some [v14])).bind rec4)) (
 J3 [])) n) := by kernel_rfl
noncomputable def t_railref1_Named (a0 : T_Topo) (a1 : ByteArray) : Option Int :=
 join (fun (s4 : Unit) =>
 some (-1 : Int)) fun j5 =>
 loopI a0.Hosts (fun (i13 : Int) x14 (s9 : Unit) k10 =>
 if (decide (x14.Name = a1)) = true then (
 some i13) else (
 k10 ())) (fun (s9 : Unit) =>
 j5 ()) ()
theorem ty_railref1_Named {n : Nat} (hn : bigN ≤ n) (a0 : T_Topo) (a1 : ByteArray) : Rv (fun x : Int => (vi x)) (sem_railref1_Named n [(T_Topo.e a0), (vt a1)]) (t_railref1_Named a0 a1) := by
  rw [eq_railref1_Named]
  unfold t_railref1_Named
  refine tb (x := (T_Topo.c a0)) rfl ?_
  refine tjoin (mk := fun s4 : Unit => []) (fun s4 => ?_) fun J3 j5 h6 => ?_
  · exact rf_ret rfl
  · refine tkeepO2 ?_ rfl
    refine tsome ?_
    refine rf_loopI (mk := fun (i13 : Int) (s9 : Unit) => [(vi (i13 : Int))]) hn a0.Hosts () (fun i13 x14 h15 h16 h17 s9 rec7 k10 h11 => ?_) (fun s9 rec29 h28 => ?_)
    · refine tb (x := (V.sl (List.map T_Host.c a0.Hosts))) (rfl) ?_
      refine tb (x := (vi (List.length a0.Hosts : Int))) (p_len _) ?_
      refine tb (x := (vb (decide ((i13 : Int) < (List.length a0.Hosts : Int))))) (d_lss) ?_
      refine tcond_t h17 ?_
      refine tb (x := (V.sl (List.map T_Host.c a0.Hosts))) (rfl) ?_
      refine tb (x := (V.ptr (T_Host.c x14))) (p_idx_at (c := T_Host.c) (fun _ => rfl) h15) ?_
      refine tb (x := (V.ptr (T_Host.c x14))) (rfl) ?_
      refine tb (x := (vt x14.Name)) (rfl) ?_
      refine tb (x := (vb (decide (x14.Name = a1)))) (p_eql_str) ?_
      refine tcond (fun h26 => ?_) (fun h26 => ?_)
      · exact rf_ret rfl
      · refine tb (x := (vi ((i13 : Int) + 1))) (p_incN h16) ?_
        refine tkeepO2 ?_ rfl
        refine tsome ?_
        exact h11 ()
    · refine tb (x := (V.sl (List.map T_Host.c a0.Hosts))) (rfl) ?_
      refine tb (x := (vi (List.length a0.Hosts : Int))) (p_len _) ?_
      refine tb (x := (vb (decide ((List.length a0.Hosts : Int) < (List.length a0.Hosts : Int))))) (d_lss) ?_
      refine tcond_f h28 ?_
      exact h6 ()

/-! railpoint/topo.Where$1 -/
def an_topo_Where_1 : Ann := .seq (.reg 0 [] [] []) (.seq (.reg 0 [] [] []) (.no))
noncomputable def sem_topo_Where_1 (n : Nat) (xs : List V) : Option V := if xs.length ≤ 8 then denF Tryd.prog (envOf []) n Tryd.f41 an_topo_Where_1 xs else none
theorem ok_topo_Where_1 (n : Nat) : SemOk Tryd.prog DW 41 (sem_topo_Where_1 n) := fun xs y h => by
  unfold sem_topo_Where_1 at h
  split at h
  · rename_i hl
    exact denF_ok stb Tryd.func41 (by kernel_rfl) (envOf_ok semsOk_nil) (by rw [Tryd.ntmps41]; exact hl) h
  · cases h
theorem eq_topo_Where_1 (n : Nat) (x0 x1 : V) : sem_topo_Where_1 n [x0, x1] =
 (V.cellsO x0).bind fun v1 =>
 (ldk none (List.drop 0 v1)).bind fun v2 =>
 (ldp none x1).bind fun v3 =>
 (bin2 Tryd.prog BinOp.eql 9 (ot 5) (ot 6) v2 v3).bind fun v4 =>
 some v4 := by kernel_rfl
noncomputable def t_topo_Where_1 (a0 : T_Host) (a1 : ByteArray) : Option Bool :=
 some (decide (a0.Name = a1))
theorem ty_topo_Where_1 {n : Nat} (hn : bigN ≤ n) (a0 : T_Host) (a1 : ByteArray) : Rv (fun x : Bool => (vb x)) (sem_topo_Where_1 n [(T_Host.e a0), (V.ptr [(vt a1)])]) (t_topo_Where_1 a0 a1) := by
  rw [eq_topo_Where_1]
  unfold t_topo_Where_1
  refine tb (x := (T_Host.c a0)) rfl ?_
  refine tb (x := (vt a0.Name)) (rfl) ?_
  refine tb (x := (vt a1)) (rfl) ?_
  refine tb (x := (vb (decide (a0.Name = a1)))) (p_eql_str) ?_
  exact rf_ret rfl

/-! railpoint/topo.Where -/
def an_topo_Where : Ann := .seq (.reg 0 [] [] []) (.seq (.seq (.reg 0 [3] [] []) (.seq (.reg 0 [] [] []) (.cond none (.seq (.reg 0 [] [] []) (.no)) (.no)))) (.seq (.reg 0 [] [] []) (.seq (.seq (.reg 0 [] [] []) (.cond none (.seq (.reg 0 [] [] []) (.no)) (.no))) (.seq (.reg 0 [] [] []) (.no)))))
noncomputable def sem_topo_Where (n : Nat) (xs : List V) : Option V := if xs.length ≤ 28 then denF Tryd.prog (envOf [(6, (sem_topo_Check n)), (40, (sem_slices_IndexFunc_api_Host_api_Host (envOf [(41, (sem_topo_Where_1 n))]) n)), (41, (sem_topo_Where_1 n))]) n Tryd.f18 an_topo_Where xs else none
theorem ok_topo_Where (n : Nat) : SemOk Tryd.prog DW 18 (sem_topo_Where n) := fun xs y h => by
  unfold sem_topo_Where at h
  split at h
  · rename_i hl
    exact denF_ok stb Tryd.func18 (by kernel_rfl) (envOf_ok (semsOk_cons (ok_topo_Check n) (semsOk_cons (ok_slices_IndexFunc_api_Host_api_Host (envOf_ok (semsOk_cons (ok_topo_Where_1 n) semsOk_nil)) n) (semsOk_cons (ok_topo_Where_1 n) semsOk_nil)))) (by rw [Tryd.ntmps18]; exact hl) h
  · cases h
theorem eq_topo_Where (n : Nat) (x0 x1 : V) : sem_topo_Where n [x0, x1] =
 (V.cellsO x0).bind fun v1 =>
 (V.cellsO x1).bind fun v2 =>
 (ldk (some 3) (List.drop 0 v1)).bind fun v3 =>
 ((sem_topo_Check n) [v3]).bind fun v4 =>
 (bin2 Tryd.prog BinOp.neq 23 (ot 10) (Operand.const Go.Value.nilIface) v4 vn).bind fun v5 =>
 condV v5 (
 ((fillL [(vi 0), (vi 0)] []).map V.agg).bind fun v6 =>
 (spliceV [(vi 0), (vi 0)] 0 2 v6).bind fun v7 =>
 (ldk (some 2) (List.drop 0 (aggL v7))).bind fun v8 =>
 some (V.tup [v8, v4])) (
 (ldk none (List.drop 2 v1)).bind fun v9 =>
 ((sem_slices_IndexFunc_api_Host_api_Host (envOf [(41, (sem_topo_Where_1 n))]) n) [v9, (V.fn 41 [(V.ptr v2)])]).bind fun v10 =>
 (bin2 Tryd.prog BinOp.lss 3 (ot 18) (oc 0) v10 (vi 0)).bind fun v11 =>
 condV v11 (
 ((fillL [(vi 0), (vi 0)] []).map V.agg).bind fun v12 =>
 (scal1 Tryd.prog (Instr.makeInterface 78) (vi 5)).bind fun v13 =>
 (spliceV [(vi 0), (vi 0)] 0 2 v12).bind fun v14 =>
 (ldk (some 2) (List.drop 0 (aggL v14))).bind fun v15 =>
 some (V.tup [v15, v13])) (
 (ldk none (List.drop 2 v1)).bind fun v16 =>
 (idxS 3 v16 v10).bind fun v17 =>
 (ptrF 1 v17).bind fun v18 =>
 (ldp (some 2) v18).bind fun v19 =>
 (spliceV [(vi 0), (vi 0)] 0 2 v19).bind fun v20 =>
 (ldk (some 2) (List.drop 0 (aggL v20))).bind fun v21 =>
 some (V.tup [v21, vn]))) := by kernel_rfl
noncomputable def t_topo_Where (a0 : T_Topo) (a1 : ByteArray) : Option (T_Spot × Int) :=
 (t_topo_Check a0).bind fun r5 =>
 if (!decide (r5 = 0)) = true then (
 some ((T_Spot.mk 0 0), r5)) else (
 (t_slices_IndexFunc_api_Host_api_Host a0.Hosts (fun (a12 : T_Host) => t_topo_Where_1 a12 a1)).bind fun r14 =>
 if (decide (r14 < 0)) = true then (
 some ((T_Spot.mk 0 0), 5)) else (
 (idx a0.Hosts r14).bind fun r23 =>
 some (r23.At, 0)))
theorem ty_topo_Where {n : Nat} (hn : bigN ≤ n) (a0 : T_Topo) (a1 : ByteArray) : Rv (fun x : (T_Spot × Int) => V.tup [(T_Spot.e x.1), (eV x.2)]) (sem_topo_Where n [(T_Topo.e a0), (vt a1)]) (t_topo_Where a0 a1) := by
  rw [eq_topo_Where]
  unfold t_topo_Where
  refine tb (x := (T_Topo.c a0)) rfl ?_
  refine tb (x := [(vt a1)]) rfl ?_
  refine tb (x := (T_Topo.e a0)) (rfl) ?_
  refine tbo (ty_topo_Check hn a0) fun r5 => ?_
  refine tb (x := (vb (!decide (r5 = 0)))) (p_err_neq _) ?_
  refine tcond (fun h7 => ?_) (fun h7 => ?_)
  · refine tb (x := (T_Spot.e (T_Spot.mk 0 0))) (by kernel_rfl) ?_
    refine tb (x := V.agg (T_Spot.c (T_Spot.mk 0 0))) (by kernel_rfl) ?_
    refine tb (x := (T_Spot.e (T_Spot.mk 0 0))) rfl ?_
    exact rf_ret rfl
  · refine tb (x := (V.sl (List.map T_Host.c a0.Hosts))) (rfl) ?_
    refine tbo (ty_slices_IndexFunc_api_Host_api_Host (E := (envOf [(41, (sem_topo_Where_1 n))])) (x1 := (V.fn 41 [(V.ptr [(vt a1)])])) (g1 := (fun (a12 : T_Host) => t_topo_Where_1 a12 a1)) hn a0.Hosts (fun a12 => ty_topo_Where_1 hn a12 a1)) fun r14 => ?_
    refine tb (x := (vb (decide (r14 < 0)))) (d_lss) ?_
    refine tcond (fun h16 => ?_) (fun h16 => ?_)
    · refine tb (x := (T_Spot.e (T_Spot.mk 0 0))) (by kernel_rfl) ?_
      refine tb (x := (eV 5)) (p_mkE (by decide)) ?_
      refine tb (x := V.agg (T_Spot.c (T_Spot.mk 0 0))) (by kernel_rfl) ?_
      refine tb (x := (T_Spot.e (T_Spot.mk 0 0))) rfl ?_
      exact rf_ret rfl
    · refine tb (x := (V.sl (List.map T_Host.c a0.Hosts))) (rfl) ?_
      refine tbo (p_idx (c := T_Host.c) (fun _ => rfl) a0.Hosts r14) fun r23 => ?_
      refine tb (x := (V.ptr (List.drop 1 (T_Host.c r23)))) (rfl) ?_
      refine tb (x := (T_Spot.e r23.At)) (rfl) ?_
      refine tb (x := V.agg (T_Spot.c r23.At)) (by kernel_rfl) ?_
      refine tb (x := (T_Spot.e r23.At)) rfl ?_
      exact rf_ret rfl

/-! railpoint/railref1.Joined -/
def an_railref1_Joined : Ann := .seq (.reg 0 [] [] []) (.seq (.seq (.reg 0 [] [] []) (.blk (some []) (.loop [.kb 3, .s 7] (.seq (.seq (.reg 0 [] [] []) (.cond none (.no) (.no))) (.seq (.blk none (.seq (.reg 0 [] [] []) (.seq (.reg 0 [] [] []) (.seq (.reg 0 [] [] []) (.cond none (.seq (.reg 0 [] [] []) (.no)) (.no)))))) (.reg 0 [] [] [])))))) (.seq (.reg 0 [] [] []) (.no)))
noncomputable def sem_railref1_Joined (n : Nat) (xs : List V) : Option V := if xs.length ≤ 49 then denF Tryd.prog (envOf []) n Tryd.f19 an_railref1_Joined xs else none
theorem ok_railref1_Joined (n : Nat) : SemOk Tryd.prog DW 19 (sem_railref1_Joined n) := fun xs y h => by
  unfold sem_railref1_Joined at h
  split at h
  · rename_i hl
    exact denF_ok stb Tryd.func19 (by kernel_rfl) (envOf_ok semsOk_nil) (by rw [Tryd.ntmps19]; exact hl) h
  · cases h
theorem eq_railref1_Joined (n : Nat) (x0 x1 x2 : V) : sem_railref1_Joined n [x0, x1, x2] =
 (V.cellsO x0).bind fun v1 =>
 JoinPt (fun vs2 =>
 some (vb false)) fun J3 =>
 (keepO (some v1) (some v1) (some [(vi 0)])).bind (fixN (fun rec4 vs5 =>
 (ldk none (List.drop 1 v1)).bind fun v6 =>
 (lenS [v6]).bind fun v7 =>
 (bin2 Tryd.prog BinOp.lss 3 (ot 10) (ot 13) (List.getD vs5 0 V.any) v7).bind fun v8 =>
 condV v8 (
 (ldk none (List.drop 1 v1)).bind fun v9 =>
 (idxS 4 v9 (List.getD vs5 0 V.any)).bind fun v10 =>
 (ptrF 0 v10).bind fun v11 =>
 (ptrF 0 v11).bind fun v12 =>
 (ldp none v12).bind fun v13 =>
 (ldk none (List.drop 1 v1)).bind fun v14 =>
 (idxS 4 v14 (List.getD vs5 0 V.any)).bind fun v15 =>
 (ptrF 2 v15).bind fun v16 =>
 (ptrF 0 v16).bind fun v17 =>
 (ldp none v17).bind fun v18 =>
 (bin2 Tryd.prog BinOp.eql 3 (ot 31) (ot 32) v13 x1).bind fun v19 =>
 (guardV v19 true (some v18)).bind fun v20 =>
 (guardV v19 true (some x2)).bind fun v21 =>
 (guardV v19 true ((bin2 Tryd.prog BinOp.eql 3 (ot 35) (ot 36) v20 v21).bind fun v22 =>
 some v22)).bind fun v23 =>
 (pickV v19 v23 (vb false)).bind fun v24 =>
 (guardV v24 false (some v13)).bind fun v25 =>
 (guardV v24 false (some x2)).bind fun v26 =>
 (guardV v24 false ((bin2 Tryd.prog BinOp.eql 3 (ot 40) (ot 41) v25 v26).bind fun v27 =>
 some v27)).bind fun v28 =>
 (guardV v24 false (some v28)).bind fun v29 =>
 (guardV v29 true (some v18)).bind fun v30 =>
 (guardV v29 true (some x1)).bind fun v31 =>
 (guardV v29 true ((bin2 Tryd.prog BinOp.eql 3 (ot 44) (ot 45) v30 v31).bind fun v32 =>
 some v32)).bind fun v33 =>
 (guardV v24 false ((pickV v29 v33 (vb false)).bind fun v34 =>
 some v34)).bind fun v35 =>
 (pickV v24 (vb true) v35).bind fun v36 =>
 condV v36 (
 some (vb true)) (
 (bin2 Tryd.prog BinOp.add 3 (ot 15) (oc 1) (List.getD vs5 0 V.any) (vi 1)).bind fun v37 =>
 (keepO (some v1) (some v1) (some [v37])).bind rec4)) (
 J3 [])) n) := by kernel_rfl
noncomputable def t_railref1_Joined (a0 : T_Topo) (a1 : Int) (a2 : Int) : Option Bool :=
 join (fun (s4 : Unit) =>
 some false) fun j5 =>
 loopI a0.Links (fun (i13 : Int) x14 (s9 : Unit) k10 =>
 if (((decide (x14.A.Switch = a1)) && (decide (x14.B.Switch = a2))) || ((decide (x14.A.Switch = a2)) && (decide (x14.B.Switch = a1)))) = true then (
 some true) else (
 k10 ())) (fun (s9 : Unit) =>
 j5 ()) ()
theorem ty_railref1_Joined {n : Nat} (hn : bigN ≤ n) (a0 : T_Topo) (a1 : Int) (a2 : Int) : Rv (fun x : Bool => (vb x)) (sem_railref1_Joined n [(T_Topo.e a0), (vi a1), (vi a2)]) (t_railref1_Joined a0 a1 a2) := by
  rw [eq_railref1_Joined]
  unfold t_railref1_Joined
  refine tb (x := (T_Topo.c a0)) rfl ?_
  refine tjoin (mk := fun s4 : Unit => []) (fun s4 => ?_) fun J3 j5 h6 => ?_
  · exact rf_ret rfl
  · refine tkeepO2 ?_ rfl
    refine tsome ?_
    refine rf_loopI (mk := fun (i13 : Int) (s9 : Unit) => [(vi (i13 : Int))]) hn a0.Links () (fun i13 x14 h15 h16 h17 s9 rec7 k10 h11 => ?_) (fun s9 rec63 h62 => ?_)
    · refine tb (x := (V.sl (List.map T_Link.c a0.Links))) (rfl) ?_
      refine tb (x := (vi (List.length a0.Links : Int))) (p_len _) ?_
      refine tb (x := (vb (decide ((i13 : Int) < (List.length a0.Links : Int))))) (d_lss) ?_
      refine tcond_t h17 ?_
      refine tb (x := (V.sl (List.map T_Link.c a0.Links))) (rfl) ?_
      refine tb (x := (V.ptr (T_Link.c x14))) (p_idx_at (c := T_Link.c) (fun _ => rfl) h15) ?_
      refine tb (x := (V.ptr (T_Link.c x14))) (rfl) ?_
      refine tb (x := (V.ptr (T_Link.c x14))) (rfl) ?_
      refine tb (x := (vi x14.A.Switch)) (rfl) ?_
      refine tb (x := (V.sl (List.map T_Link.c a0.Links))) (rfl) ?_
      refine tb (x := (V.ptr (T_Link.c x14))) (p_idx_at (c := T_Link.c) (fun _ => rfl) h15) ?_
      refine tb (x := (V.ptr (List.drop 2 (T_Link.c x14)))) (rfl) ?_
      refine tb (x := (V.ptr (List.drop 2 (T_Link.c x14)))) (rfl) ?_
      refine tb (x := (vi x14.B.Switch)) (rfl) ?_
      refine tb (x := (vb (decide (x14.A.Switch = a1)))) (d_eql) ?_
      refine tg (x := (vi x14.B.Switch)) (fun h32 => rfl) ?_
      refine tg (x := (vi a2)) (fun h34 => rfl) ?_
      refine tg (x := (vb (decide (x14.B.Switch = a2)))) (fun h36 => by simp only [gv_t h36]; exact bind_some_eq (d_eql)) ?_
      refine tb (x := (vb ((decide (x14.A.Switch = a1)) && (decide (x14.B.Switch = a2))))) (pick_and (fun h9 => gv_t h9)) ?_
      refine tg_f (x := (vi x14.A.Switch)) (fun h40 => rfl) ?_
      refine tg_f (x := (vi a2)) (fun h42 => rfl) ?_
      refine tg_f (x := (vb (decide (x14.A.Switch = a2)))) (fun h44 => by simp only [gv_t h44]; exact bind_some_eq (d_eql)) ?_
      refine tg_f (x := (vb (decide (x14.A.Switch = a2)))) (fun h47 => congrArg some (gv_t h47)) ?_
      refine tg2 (x := (vi x14.B.Switch)) (fun h49 => rfl) ?_
      refine tg2 (x := (vi a1)) (fun h51 => rfl) ?_
      refine tg2 (x := (vb (decide (x14.B.Switch = a1)))) (fun h53 => by simp only [gv_t h53]; exact bind_some_eq (d_eql)) ?_
      refine tg_f (x := (vb ((decide (x14.A.Switch = a2)) && (decide (x14.B.Switch = a1))))) (fun h56 => by simp only [gv_t h56]; exact bind_some_eq (pick_and (fun h9 => gv_t (and_i h56 h9)))) ?_
      refine tb (x := (vb (((decide (x14.A.Switch = a1)) && (decide (x14.B.Switch = a2))) || ((decide (x14.A.Switch = a2)) && (decide (x14.B.Switch = a1)))))) (pick_or (fun h9 => gv_t (not_f h9))) ?_
      refine tcond (fun h60 => ?_) (fun h60 => ?_)
      · exact rf_ret rfl
      · refine tb (x := (vi ((i13 : Int) + 1))) (p_incN h16) ?_
        refine tkeepO2 ?_ rfl
        refine tsome ?_
        exact h11 ()
    · refine tb (x := (V.sl (List.map T_Link.c a0.Links))) (rfl) ?_
      refine tb (x := (vi (List.length a0.Links : Int))) (p_len _) ?_
      refine tb (x := (vb (decide ((List.length a0.Links : Int) < (List.length a0.Links : Int))))) (d_lss) ?_
      refine tcond_f h62 ?_
      exact h6 ()

/-! railpoint/topo.near -/
def an_topo_near : Ann := .seq (.reg 0 [] [] []) (.seq (.seq (.reg 0 [] [] []) (.blk (some [.n 4 1]) (.loop [.n 4 1, .s 10] (.seq (.reg 0 [] [] []) (.seq (.cond none (.no) (.no)) (.seq (.blk none (.seq (.reg 0 [] [] []) (.seq (.seq (.reg 0 [] [] []) (.cond (some [.kb 6, .n 4 1]) (.reg 0 [] [] [24]) (.no))) (.seq (.reg 0 [] [] []) (.cond (some [.n 4 1]) (.reg 0 [] [] [35]) (.no)))))) (.reg 0 [] [] []))))))) (.seq (.reg 0 [] [] []) (.seq (.reg 0 [] [] []) (.no))))
noncomputable def sem_topo_near (n : Nat) (xs : List V) : Option V := if xs.length ≤ 41 then denF Tryd.prog (envOf [(54 + 1000000, (semSort)), (55 + 1000000, (semCompact))]) n Tryd.f36 an_topo_near xs else none
theorem ok_topo_near (n : Nat) : SemOk Tryd.prog DW 36 (sem_topo_near n) := fun xs y h => by
  unfold sem_topo_near at h
  split at h
  · rename_i hl
    exact denF_ok stb Tryd.func36 (by kernel_rfl) (envOf_ok (semsOk_consM (mok_Sort) (semsOk_consM (mok_Compact) semsOk_nil))) (by rw [Tryd.ntmps36]; exact hl) h
  · cases h
theorem eq_topo_near (n : Nat) (x0 x1 : V) : sem_topo_near n [x0, x1] =
 (V.cellsO x0).bind fun v1 =>
 (ldk none (List.drop 1 v1)).bind fun v2 =>
 (lenS [v2]).bind fun v3 =>
 JoinPt (fun vs4 =>
 ((semSort) [(List.getD vs4 0 V.any)]).bind fun z6 =>
 (pureO (tupAt z6 0)).bind fun v7 =>
 ((semCompact) [(tupAt z6 1)]).bind fun z8 =>
 (pureO (tupAt z8 0)).bind fun v9 =>
 some v9) fun J5 =>
 (fixN (fun rec10 vs11 =>
 (bin2 Tryd.prog BinOp.lss 3 (ot 10) (ot 9) (List.getD vs11 1 V.any) v3).bind fun v12 =>
 condV v12 (
 (idxS 4 v2 (List.getD vs11 1 V.any)).bind fun v13 =>
 (ldp (some 4) v13).bind fun v14 =>
 (spliceV [(vi 0), (vi 0), (vi 0), (vi 0)] 0 4 v14).bind fun v15 =>
 (ldk none (List.drop 0 (aggL v15))).bind fun v16 =>
 (bin2 Tryd.prog BinOp.eql 3 (ot 16) (ot 17) v16 x1).bind fun v17 =>
 JoinPt (fun vs18 =>
 (ldk none (List.drop 2 (aggL v15))).bind fun v20 =>
 (bin2 Tryd.prog BinOp.eql 3 (ot 27) (ot 28) v20 x1).bind fun v21 =>
 JoinPt (fun vs22 =>
 (bin2 Tryd.prog BinOp.add 3 (ot 10) (oc 1) (List.getD vs11 1 V.any) (vi 1)).bind fun v24 =>
 rec10 [(List.getD vs22 0 V.any), v24]) fun J23 =>
 condV v21 (
 (ldk none (List.drop 0 (aggL v15))).bind fun v25 =>
 (slcB 1 1 [(vi 0)] [(0, v25)]).bind fun v26 =>
 (appS 1 (List.getD vs18 0 V.any) v26).bind fun v27 =>
 J23 [v27]) (
 J23 [(List.getD vs18 0 V.any)])) fun J19 =>
 condV v17 (
 (ldk none (List.drop 2 (aggL v15))).bind fun v28 =>
 (slcB 1 1 [(vi 0)] [(0, v28)]).bind fun v29 =>
 (appS 1 (List.getD vs11 0 V.any) v29).bind fun v30 =>
 (keepO (some (aggL v15)) (some (aggL v15)) (some [v30])).bind J19) (
 (keepO (some (aggL v15)) (some (aggL v15)) (some [(List.getD vs11 0 V.any)])).bind J19)) (
 J5 [(List.getD vs11 0 V.any)])) n) [(V.osl 1 []), (vi 0)] := by kernel_rfl
noncomputable def t_topo_near (a0 : T_Topo) (a1 : Int) : Option (List Int) :=
 (loopI a0.Links (fun (i21 : Int) x22 (s17 : (List Int)) k18 =>
 (if (decide (x22.A.Switch = a1)) = true then (
 (oapp s17 ([x22.B.Switch] : (List Int))).bind fun r52 =>
 some (r52)) else (
 some (s17))).bind fun (s34 : (List Int)) =>
 (if (decide (x22.B.Switch = a1)) = true then (
 (oapp s34 ([x22.A.Switch] : (List Int))).bind fun r48 =>
 some (r48)) else (
 some (s34))).bind fun (s41 : (List Int)) =>
 k18 (s41)) (fun (s17 : (List Int)) =>
 some (s17)) ([])).bind fun (s6 : (List Int)) =>
 (sortI s6).bind fun r10 =>
 (compactI r10).bind fun r13 =>
 some r13
theorem ty_topo_near {n : Nat} (hn : bigN ≤ n) (a0 : T_Topo) (a1 : Int) : Rv (fun x : (List Int) => (V.sl (List.map cI x))) (sem_topo_near n [(T_Topo.e a0), (vi a1)]) (t_topo_near a0 a1) := by
  rw [eq_topo_near]
  unfold t_topo_near
  refine tb (x := (T_Topo.c a0)) rfl ?_
  refine tb (x := (V.sl (List.map T_Link.c a0.Links))) (rfl) ?_
  refine tb (x := (vi (List.length a0.Links : Int))) (p_len _) ?_
  refine tjb (mk := fun s6 : (List Int) => [(V.osl 1 (List.map cI s6))]) (fun J5 => ?_) fun s6 => ?_
  · refine rf_loopI (mk := fun (i21 : Int) (s17 : (List Int)) => [(V.osl 1 (List.map cI s17)), (vi (i21 : Int))]) hn a0.Links ([]) (fun i21 x22 h23 h24 h25 s17 rec15 k18 h19 => ?_) (fun s17 rec54 h53 => ?_)
    · refine tb (x := (vb (decide ((i21 : Int) < (List.length a0.Links : Int))))) (d_lss) ?_
      refine tcond_t h25 ?_
      refine tb (x := (V.ptr (T_Link.c x22))) (p_idx_at (c := T_Link.c) (fun _ => rfl) h23) ?_
      refine tb (x := (T_Link.e x22)) (rfl) ?_
      refine tb (x := V.agg (T_Link.c x22)) (by kernel_rfl) ?_
      refine tb (x := (vi x22.A.Switch)) (rfl) ?_
      refine tb (x := (vb (decide (x22.A.Switch = a1)))) (d_eql) ?_
      refine tjb (mk := fun s34 : (List Int) => [(V.osl 1 (List.map cI s34))]) (fun J33 => ?_) fun s34 => ?_
      · refine tcond (fun h49 => ?_) (fun h49 => ?_)
        · refine tb (x := (vi x22.B.Switch)) (rfl) ?_
          refine tb (x := (V.sl (List.map cI ([x22.B.Switch] : (List Int))))) (by kernel_rfl) ?_
          refine tbo (p_oapp (c := cI) (fun _ => rfl) s17 ([x22.B.Switch] : (List Int))) fun r52 => ?_
          refine tkeepO2 ?_ rfl
          refine tsome ?_
          exact rf_j rfl
        · refine tkeepO2 ?_ rfl
          refine tsome ?_
          exact rf_j rfl
      · refine tb (x := (vi x22.B.Switch)) (rfl) ?_
        refine tb (x := (vb (decide (x22.B.Switch = a1)))) (d_eql) ?_
        refine tjb (mk := fun s41 : (List Int) => [(V.osl 1 (List.map cI s41))]) (fun J40 => ?_) fun s41 => ?_
        · refine tcond (fun h45 => ?_) (fun h45 => ?_)
          · refine tb (x := (vi x22.A.Switch)) (rfl) ?_
            refine tb (x := (V.sl (List.map cI ([x22.A.Switch] : (List Int))))) (by kernel_rfl) ?_
            refine tbo (p_oapp (c := cI) (fun _ => rfl) s34 ([x22.A.Switch] : (List Int))) fun r48 => ?_
            exact rf_j rfl
          · exact rf_j rfl
        · refine tb (x := (vi ((i21 : Int) + 1))) (p_incN h24) ?_
          exact h19 (s41)
    · refine tb (x := (vb (decide ((List.length a0.Links : Int) < (List.length a0.Links : Int))))) (d_lss) ?_
      refine tcond_f h53 ?_
      exact rf_j rfl
  · refine tbo (p_sort s6) fun r10 => ?_
    refine tb (x := (V.tup [])) rfl ?_
    refine tbo (p_compact r10) fun r13 => ?_
    refine tb (x := (V.sl (List.map cI r13))) rfl ?_
    exact rf_ret rfl

/-! railpoint/topo.Near -/
def an_topo_Near : Ann := .seq (.reg 0 [] [] []) (.seq (.seq (.reg 0 [] [] []) (.seq (.reg 0 [] [] []) (.cond none (.seq (.reg 0 [] [] []) (.no)) (.no)))) (.seq (.reg 0 [] [] []) (.no)))
noncomputable def sem_topo_Near (n : Nat) (xs : List V) : Option V := if xs.length ≤ 17 then denF Tryd.prog (envOf [(33, (sem_topo_ready n)), (36, (sem_topo_near n))]) n Tryd.f10 an_topo_Near xs else none
theorem ok_topo_Near (n : Nat) : SemOk Tryd.prog DW 10 (sem_topo_Near n) := fun xs y h => by
  unfold sem_topo_Near at h
  split at h
  · rename_i hl
    exact denF_ok stb Tryd.func10 (by kernel_rfl) (envOf_ok (semsOk_cons (ok_topo_ready n) (semsOk_cons (ok_topo_near n) semsOk_nil))) (by rw [Tryd.ntmps10]; exact hl) h
  · cases h
theorem eq_topo_Near (n : Nat) (x0 x1 : V) : sem_topo_Near n [x0, x1] =
 (V.cellsO x0).bind fun v1 =>
 (ldk (some 3) (List.drop 0 v1)).bind fun v2 =>
 ((fillL [(vi 0), (vi 0)] [(0, 1, x1), (1, 1, (vi 1))]).map V.agg).bind fun v3 =>
 ((sem_topo_ready n) [v2, v3]).bind fun v4 =>
 (bin2 Tryd.prog BinOp.neq 23 (ot 11) (Operand.const Go.Value.nilIface) v4 vn).bind fun v5 =>
 condV v5 (
 some (V.tup [(V.sl []), v4])) (
 (ldk (some 3) (List.drop 0 v1)).bind fun v6 =>
 ((sem_topo_near n) [v6, x1]).bind fun v7 =>
 some (V.tup [v7, vn])) := by kernel_rfl
noncomputable def t_topo_Near (a0 : T_Topo) (a1 : Int) : Option ((List Int) × Int) :=
 (t_topo_ready a0 (T_Spot.mk a1 1)).bind fun r5 =>
 if (!decide (r5 = 0)) = true then (
 some ([], r5)) else (
 (t_topo_near a0 a1).bind fun r10 =>
 some (r10, 0))
theorem ty_topo_Near {n : Nat} (hn : bigN ≤ n) (a0 : T_Topo) (a1 : Int) : Rv (fun x : ((List Int) × Int) => V.tup [(V.sl (List.map cI x.1)), (eV x.2)]) (sem_topo_Near n [(T_Topo.e a0), (vi a1)]) (t_topo_Near a0 a1) := by
  rw [eq_topo_Near]
  unfold t_topo_Near
  refine tb (x := (T_Topo.c a0)) rfl ?_
  refine tb (x := (T_Topo.e a0)) (rfl) ?_
  refine tb (x := (T_Spot.e (T_Spot.mk a1 1))) (by kernel_rfl) ?_
  refine tbo (ty_topo_ready hn a0 (T_Spot.mk a1 1)) fun r5 => ?_
  refine tb (x := (vb (!decide (r5 = 0)))) (p_err_neq _) ?_
  refine tcond (fun h7 => ?_) (fun h7 => ?_)
  · exact rf_ret rfl
  · refine tb (x := (T_Topo.e a0)) (rfl) ?_
    refine tbo (ty_topo_near hn a0 a1) fun r10 => ?_
    exact rf_ret rfl

/-! railpoint/railsame.Ints -/
def an_railsame_Ints : Ann := .seq (.reg 0 [] [] []) (.seq (.seq (.reg 0 [] [] []) (.cond none (.seq (.reg 0 [] [] []) (.no)) (.no))) (.seq (.seq (.reg 0 [] [] []) (.blk (some []) (.loop [.s 5] (.seq (.seq (.reg 0 [] [] []) (.cond none (.no) (.no))) (.seq (.blk none (.seq (.reg 9 [] [] []) (.cond none (.seq (.reg 0 [] [] []) (.no)) (.no)))) (.reg 0 [] [] [])))))) (.seq (.reg 0 [] [] []) (.no))))
noncomputable def sem_railsame_Ints (n : Nat) (xs : List V) : Option V := if xs.length ≤ 26 then denF Tryd.prog (envOf []) n Tryd.f20 an_railsame_Ints xs else none
theorem ok_railsame_Ints (n : Nat) : SemOk Tryd.prog DW 20 (sem_railsame_Ints n) := fun xs y h => by
  unfold sem_railsame_Ints at h
  split at h
  · rename_i hl
    exact denF_ok stb Tryd.func20 (by kernel_rfl) (envOf_ok semsOk_nil) (by rw [Tryd.ntmps20]; exact hl) h
  · cases h
theorem eq_railsame_Ints (n : Nat) (x0 x1 : V) : sem_railsame_Ints n [x0, x1] =
 (lenS [x0]).bind fun v1 =>
 (lenS [x1]).bind fun v2 =>
 (bin2 Tryd.prog BinOp.neq 3 (ot 7) (ot 9) v1 v2).bind fun v3 =>
 condV v3 (
 some (vb false)) (
 JoinPt (fun vs4 =>
 some (vb true)) fun J5 =>
 (fixN (fun rec6 vs7 =>
 (lenS [x0]).bind fun v8 =>
 (bin2 Tryd.prog BinOp.lss 3 (ot 11) (ot 13) (List.getD vs7 0 V.any) v8).bind fun v9 =>
 condV v9 (
 (idxS 1 x0 (List.getD vs7 0 V.any)).bind fun v10 =>
 (ldp none v10).bind fun v11 =>
 (idxS 1 x1 (List.getD vs7 0 V.any)).bind fun v12 =>
 (ldp none v12).bind fun v13 =>
 (bin2 Tryd.prog BinOp.neq 3 (ot 20) (ot 24) v11 v13).bind fun v14 =>
 condV v14 (
 some (vb false)) (
 (bin2 Tryd.prog BinOp.add 3 (ot 15) (oc 1) (List.getD vs7 0 V.any) (vi 1)).bind fun v15 =>
 rec6 [v15])) (
 J5 [])) n) [(vi 0)]) := by kernel_rfl
noncomputable def t_railsame_Ints (a0 : (List Int)) (a1 : (List Int)) : Option Bool :=
 if (decide ((List.length a0 : Int) ≠ (List.length a1 : Int))) = true then (
 some false) else (
 join (fun (s7 : Unit) =>
 some true) fun j8 =>
 loopI a0 (fun (i16 : Int) x17 (s12 : Unit) k13 =>
 (idx a1 i16).bind fun r26 =>
 if (decide (x17 ≠ r26)) = true then (
 some false) else (
 k13 ())) (fun (s12 : Unit) =>
 j8 ()) ())
theorem ty_railsame_Ints {n : Nat} (hn : bigN ≤ n) (a0 : (List Int)) (a1 : (List Int)) : Rv (fun x : Bool => (vb x)) (sem_railsame_Ints n [(V.sl (List.map cI a0)), (V.sl (List.map cI a1))]) (t_railsame_Ints a0 a1) := by
  rw [eq_railsame_Ints]
  unfold t_railsame_Ints
  refine tb (x := (vi (List.length a0 : Int))) (p_len _) ?_
  refine tb (x := (vi (List.length a1 : Int))) (p_len _) ?_
  refine tb (x := (vb (decide ((List.length a0 : Int) ≠ (List.length a1 : Int))))) (d_neq) ?_
  refine tcond (fun h4 => ?_) (fun h4 => ?_)
  · exact rf_ret rfl
  · refine tjoin (mk := fun s7 : Unit => []) (fun s7 => ?_) fun J6 j8 h9 => ?_
    · exact rf_ret rfl
    · refine rf_loopI (mk := fun (i16 : Int) (s12 : Unit) => [(vi (i16 : Int))]) hn a0 () (fun i16 x17 h18 h19 h20 s12 rec10 k13 h14 => ?_) (fun s12 rec32 h31 => ?_)
      · refine tb (x := (vi (List.length a0 : Int))) (p_len _) ?_
        refine tb (x := (vb (decide ((i16 : Int) < (List.length a0 : Int))))) (d_lss) ?_
        refine tcond_t h20 ?_
        refine tb (x := (V.ptr [(vi x17)])) (p_idx_at (c := cI) (fun _ => rfl) h18) ?_
        refine tb (x := (vi x17)) (rfl) ?_
        refine tbo (p_idx (c := cI) (fun _ => rfl) a1 (i16 : Int)) fun r26 => ?_
        refine tb (x := (vi r26)) (rfl) ?_
        refine tb (x := (vb (decide (x17 ≠ r26)))) (d_neq) ?_
        refine tcond (fun h29 => ?_) (fun h29 => ?_)
        · exact rf_ret rfl
        · refine tb (x := (vi ((i16 : Int) + 1))) (p_incN h19) ?_
          exact h14 ()
      · refine tb (x := (vi (List.length a0 : Int))) (p_len _) ?_
        refine tb (x := (vb (decide ((List.length a0 : Int) < (List.length a0 : Int))))) (d_lss) ?_
        refine tcond_f h31 ?_
        exact h9 ()

/-! railpoint/railref1.Far -/
def an_railref1_Far : Ann := .seq (.reg 0 [] [] []) (.seq (.reg 0 [] [] []) (.seq (.reg 0 [] [] []) (.seq (.seq (.reg 0 [] [] []) (.blk (some []) (.loop [.kb 3, .n 7 1, .s 8] (.seq (.seq (.reg 0 [] [] []) (.cond none (.no) (.no))) (.seq (.blk (some [.kb 3, .n 7 1]) (.seq (.seq (.reg 0 [] [] []) (.cond none (.seq (.reg 0 [] [] []) (.no)) (.no))) (.seq (.reg 0 [] [] []) (.seq (.seq (.reg 0 [] [] []) (.blk (some [.kb 3, .o 9]) (.loop [.kb 3, .ko 7, .o 9, .s 10] (.seq (.seq (.reg 0 [] [] []) (.cond none (.no) (.no))) (.seq (.blk (some [.kb 3, .ko 7, .o 9]) (.seq (.reg 0 [] [] []) (.seq (.reg 0 [] [] []) (.blk (some [.kb 3, .ko 7, .o 9]) (.loop [.kb 3, .ko 7, .o 9, .s 11] (.seq (.seq (.reg 0 [] [] []) (.cond none (.no) (.no))) (.seq (.blk none (.seq (.reg 0 [] [] []) (.reg 0 [] [] []))) (.reg 0 [] [] [])))))))) (.reg 0 [] [] [])))))) (.reg 0 [] [] []))))) (.reg 0 [] [] [])))))) (.seq (.reg 0 [] [] []) (.no)))))
noncomputable def sem_railref1_Far (n : Nat) (xs : List V) : Option V := if xs.length ≤ 67 then denF Tryd.prog (envOf [(19, (sem_railref1_Joined n))]) n Tryd.f21 an_railref1_Far xs else none
theorem ok_railref1_Far (n : Nat) : SemOk Tryd.prog DW 21 (sem_railref1_Far n) := fun xs y h => by
  unfold sem_railref1_Far at h
  split at h
  · rename_i hl
    exact denF_ok stb Tryd.func21 (by kernel_rfl) (envOf_ok (semsOk_cons (ok_railref1_Joined n) semsOk_nil)) (by rw [Tryd.ntmps21]; exact hl) h
  · cases h
theorem eq_railref1_Far (n : Nat) (x0 x1 x2 : V) : sem_railref1_Far n [x0, x1, x2] =
 (V.cellsO x0).bind fun v1 =>
 (makeN 1 [(vb false)] (vi 7) (vi 7)).bind fun v2 =>
 ((oslR v2).bind fun rows3 => inB (List.length rows3) x1).bind fun v4 =>
 (V.cellsO (vb true)).bind fun v5 =>
 (setV v2 [] (Stp.mk (some (natOf x1)) 0 1) 1 v5).bind fun v6 =>
 JoinPt (fun vs7 =>
 some (vi (-1 : Int))) fun J8 =>
 (keepO (some v1) (some v1) (some [v6, (vi 0)])).bind (fixN (fun rec9 vs10 =>
 (bin2 Tryd.prog BinOp.leq 3 (ot 17) (oc 6) (List.getD vs10 1 V.any) (vi 6)).bind fun v11 =>
 condV v11 (
 JoinPt (fun vs12 =>
 (bin2 Tryd.prog BinOp.add 3 (ot 19) (oc 1) (List.getD vs10 1 V.any) (vi 1)).bind fun v14 =>
 (keepO (some v1) (some v1) (some [(List.getD vs12 0 V.any), v14])).bind rec9) fun J13 =>
 ((oslR (List.getD vs10 0 V.any)).bind fun rows15 => inB (List.length rows15) x2).bind fun v16 =>
 ((nodeL (List.getD vs10 0 V.any) (some (natOf x2)) 1).bind fun l17 => (ldk none (List.drop 0 l17)).bind pureO).bind fun v18 =>
 condV v18 (
 some (List.getD vs10 1 V.any)) (
 (makeN 1 [(vb false)] (vi 7) (vi 7)).bind fun v19 =>
 JoinPt (fun vs20 =>
 (keepO (some v1) (some v1) (some [(List.getD vs20 0 V.any)])).bind J13) fun J21 =>
 (keepO (some v1) (some v1) (keepT (some (List.getD vs10 0 V.any)) (some (List.getD vs10 0 V.any)) (some [v19, (vi 1)]))).bind (fixN (fun rec22 vs23 =>
 (ldk none (List.drop 0 v1)).bind fun v24 =>
 (bin2 Tryd.prog BinOp.leq 3 (ot 27) (ot 29) (List.getD vs23 1 V.any) v24).bind fun v25 =>
 condV v25 (
 JoinPt (fun vs26 =>
 (bin2 Tryd.prog BinOp.add 3 (ot 31) (oc 1) (List.getD vs23 1 V.any) (vi 1)).bind fun v28 =>
 (keepO (some v1) (some v1) (keepT (some (List.getD vs10 0 V.any)) (some (List.getD vs10 0 V.any)) (some [(List.getD vs26 0 V.any), v28]))).bind rec22) fun J27 =>
 ((oslR (List.getD vs10 0 V.any)).bind fun rows29 => inB (List.length rows29) (List.getD vs23 1 V.any)).bind fun v30 =>
 ((nodeL (List.getD vs10 0 V.any) (some (natOf (List.getD vs23 1 V.any))) 1).bind fun l31 => (ldk none (List.drop 0 l31)).bind pureO).bind fun v32 =>
 ((oslR (List.getD vs23 0 V.any)).bind fun rows33 => inB (List.length rows33) (List.getD vs23 1 V.any)).bind fun v34 =>
 (V.cellsO v32).bind fun v35 =>
 (setV (List.getD vs23 0 V.any) [] (Stp.mk (some (natOf (List.getD vs23 1 V.any))) 0 1) 1 v35).bind fun v36 =>
 JoinPt (fun vs37 =>
 (keepO (some v1) (some v1) (keepT (some (List.getD vs10 0 V.any)) (some (List.getD vs10 0 V.any)) (some [(List.getD vs37 0 V.any)]))).bind J27) fun J38 =>
 (keepO (some v1) (some v1) (keepT (some (List.getD vs10 0 V.any)) (some (List.getD vs10 0 V.any)) (some [v36, (vi 1)]))).bind (fixN (fun rec39 vs40 =>
 (ldk none (List.drop 0 v1)).bind fun v41 =>
 (bin2 Tryd.prog BinOp.leq 3 (ot 40) (ot 42) (List.getD vs40 1 V.any) v41).bind fun v42 =>
 condV v42 (
 (ldk (some 3) (List.drop 0 v1)).bind fun v43 =>
 ((sem_railref1_Joined n) [v43, (List.getD vs40 1 V.any), (List.getD vs23 1 V.any)]).bind fun v44 =>
 ((oslR (List.getD vs40 0 V.any)).bind fun rows45 => inB (List.length rows45) (List.getD vs23 1 V.any)).bind fun v46 =>
 ((nodeL (List.getD vs40 0 V.any) (some (natOf (List.getD vs23 1 V.any))) 1).bind fun l47 => (ldk none (List.drop 0 l47)).bind pureO).bind fun v48 =>
 (guardV v48 false (some V.any)).bind fun v49 =>
 (guardV v48 false (some (List.getD vs40 1 V.any))).bind fun v50 =>
 (guardV v48 false (gate v48 false ((oslR (List.getD vs10 0 V.any)).bind fun rows51 => inB (List.length rows51) v50))).bind fun v52 =>
 (guardV v48 false ((gate v48 false (gate v48 false ((nodeL (List.getD vs10 0 V.any) (some (natOf v50)) 1).bind fun l53 => (ldk none (List.drop 0 l53)).bind pureO))).bind fun v54 =>
 some v54)).bind fun v55 =>
 (guardV v48 false (some v55)).bind fun v56 =>
 (guardV v56 true (some v44)).bind fun v57 =>
 (guardV v48 false ((pickV v56 v57 (vb false)).bind fun v58 =>
 some v58)).bind fun v59 =>
 (pickV v48 (vb true) v59).bind fun v60 =>
 ((oslR (List.getD vs40 0 V.any)).bind fun rows61 => inB (List.length rows61) (List.getD vs23 1 V.any)).bind fun v62 =>
 (V.cellsO v60).bind fun v63 =>
 (setV (List.getD vs40 0 V.any) [] (Stp.mk (some (natOf (List.getD vs23 1 V.any))) 0 1) 1 v63).bind fun v64 =>
 (bin2 Tryd.prog BinOp.add 3 (ot 44) (oc 1) (List.getD vs40 1 V.any) (vi 1)).bind fun v65 =>
 (keepO (some v1) (some v1) (keepT (some (List.getD vs10 0 V.any)) (some (List.getD vs10 0 V.any)) (some [v64, v65]))).bind rec39) (
 (keepO (some v1) (some v1) (keepT (some (List.getD vs10 0 V.any)) (some (List.getD vs10 0 V.any)) (some [(List.getD vs40 0 V.any)]))).bind J38)) n)) (
 (keepO (some v1) (some v1) (some [(List.getD vs23 0 V.any)])).bind J21)) n))) (
 J8 [])) n) := by kernel_rfl
noncomputable def t_railref1_Far (a0 : T_Topo) (a1 : Int) (a2 : Int) : Option Int :=
 (omake 7 7 false).bind fun r3 =>
 need (decide (0 ≤ a1) && decide (a1 < (List.length r3 : Int))) (
 (oset r3 a1 true).bind fun r8 =>
 join (fun (s11 : Unit) =>
 some (-1 : Int)) fun j12 =>
 loopU 0 (6 + 1) (fun (i20 : Int) (s16 : (List Bool)) k17 =>
 join (fun (s29 : (List Bool)) =>
 k17 (s29)) fun j30 =>
 need (decide (0 ≤ a2) && decide (a2 < (List.length s16 : Int))) (
 (idx s16 a2).bind fun r36 =>
 if r36 = true then (
 some i20) else (
 (omake 7 7 false).bind fun r39 =>
 (loopU 1 (a0.Switches + 1) (fun (i51 : Int) (s47 : (List Bool)) k48 =>
 (need (decide (0 ≤ i51) && decide (i51 < (List.length s16 : Int))) (
 (idx s16 i51).bind fun r68 =>
 need (decide (0 ≤ i51) && decide (i51 < (List.length s47 : Int))) (
 (oset s47 i51 r68).bind fun r73 =>
 (loopU 1 (a0.Switches + 1) (fun (i85 : Int) (s81 : (List Bool)) k82 =>
 (t_railref1_Joined a0 i85 i51).bind fun r95 =>
 need (decide (0 ≤ i51) && decide (i51 < (List.length s81 : Int))) (
 (idx s81 i51).bind fun r99 =>
 need (r99 || (decide (0 ≤ i85) && decide (i85 < (List.length s16 : Int)))) (
 (gd (!r99) default (idx s16 i85)).bind fun r112 =>
 need (decide (0 ≤ i51) && decide (i51 < (List.length s81 : Int))) (
 (oset s81 i51 (r99 || (r112 && r95))).bind fun r125 =>
 k82 (r125))))) (fun (i85 : Int) (s81 : (List Bool)) =>
 some (s81)) (r73)).bind fun (s76 : (List Bool)) =>
 some (s76)))).bind fun (s61 : (List Bool)) =>
 k48 (s61)) (fun (i51 : Int) (s47 : (List Bool)) =>
 some (s47)) (r39)).bind fun (s42 : (List Bool)) =>
 j30 (s42)))) (fun (i20 : Int) (s16 : (List Bool)) =>
 j12 ()) (r8))
theorem ty_railref1_Far {n : Nat} (hn : bigN ≤ n) (a0 : T_Topo) (a1 : Int) (a2 : Int) : Rv (fun x : Int => (vi x)) (sem_railref1_Far n [(T_Topo.e a0), (vi a1), (vi a2)]) (t_railref1_Far a0 a1 a2) := by
  rw [eq_railref1_Far]
  unfold t_railref1_Far
  refine tb (x := (T_Topo.c a0)) rfl ?_
  refine tbo (p_omake (c := cB) 7 7 false rfl) fun r3 => ?_
  refine tneed (x := V.any) (fun h137 => p_inB r3 a1 h137) fun h137 => ?_
  refine tb (x := cB true) rfl ?_
  refine tbo (p_oset (c := cB) (fun _ => rfl) r3 a1 true) fun r8 => ?_
  refine tjoin (mk := fun s11 : Unit => []) (fun s11 => ?_) fun J10 j12 h13 => ?_
  · exact rf_ret rfl
  · refine tkeepO2 ?_ rfl
    refine tsome ?_
    refine rf_loopU (mk := fun (i20 : Int) (s16 : (List Bool)) => [(V.osl 1 (List.map cB s16)), (vi i20)]) hn _ _ (r8) (fun i20 h21 h22 h23 s16 rec14 k17 h18 => ?_) (fun i20 s16 rec25 h24 => ?_)
    · refine tb (x := (vb (decide (i20 ≤ 6)))) (d_leq) ?_
      refine tcond_t (le_of_lt1 h21) ?_
      refine tjoin (mk := fun s29 : (List Bool) => [(V.osl 1 (List.map cB s29))]) (fun s29 => ?_) fun J28 j30 h31 => ?_
      · refine tb (x := (vi (i20 + 1))) (p_inc h22 h23) ?_
        refine tkeepO2 ?_ rfl
        refine tsome ?_
        exact h18 (s29)
      · refine tneed (x := V.any) (fun h135 => p_inB s16 a2 h135) fun h135 => ?_
        refine tbo (p_oload (e1 := fun x : Bool => (vb x)) (c := cB) (fun _ => rfl) s16 a2 (fun _ => rfl)) fun r36 => ?_
        refine tcond (fun h37 => ?_) (fun h37 => ?_)
        · exact rf_ret rfl
        · refine tbo (p_omake (c := cB) 7 7 false rfl) fun r39 => ?_
          refine tjb (mk := fun s42 : (List Bool) => [(V.osl 1 (List.map cB s42))]) (fun J41 => ?_) fun s42 => ?_
          · refine tkeepO2 ?_ rfl
            refine tkeepT2 ?_ rfl
            refine tsome ?_
            refine rf_loopU (mk := fun (i51 : Int) (s47 : (List Bool)) => [(V.osl 1 (List.map cB s47)), (vi i51)]) hn _ _ (r39) (fun i51 h52 h53 h54 s47 rec45 k48 h49 => ?_) (fun i51 s47 rec56 h55 => ?_)
            · refine tb (x := (vi a0.Switches)) (rfl) ?_
              refine tb (x := (vb (decide (i51 ≤ a0.Switches)))) (d_leq) ?_
              refine tcond_t (le_of_lt1 h52) ?_
              refine tjb (mk := fun s61 : (List Bool) => [(V.osl 1 (List.map cB s61))]) (fun J60 => ?_) fun s61 => ?_
              · refine tneed (x := V.any) (fun h132 => p_inB s16 i51 h132) fun h132 => ?_
                refine tbo (p_oload (e1 := fun x : Bool => (vb x)) (c := cB) (fun _ => rfl) s16 i51 (fun _ => rfl)) fun r68 => ?_
                refine tneed (x := V.any) (fun h131 => p_inB s47 i51 h131) fun h131 => ?_
                refine tb (x := cB r68) rfl ?_
                refine tbo (p_oset (c := cB) (fun _ => rfl) s47 i51 r68) fun r73 => ?_
                refine tjb (mk := fun s76 : (List Bool) => [(V.osl 1 (List.map cB s76))]) (fun J75 => ?_) fun s76 => ?_
                · refine tkeepO2 ?_ rfl
                  refine tkeepT2 ?_ rfl
                  refine tsome ?_
                  refine rf_loopU (mk := fun (i85 : Int) (s81 : (List Bool)) => [(V.osl 1 (List.map cB s81)), (vi i85)]) hn _ _ (r73) (fun i85 h86 h87 h88 s81 rec79 k82 h83 => ?_) (fun i85 s81 rec90 h89 => ?_)
                  · refine tb (x := (vi a0.Switches)) (rfl) ?_
                    refine tb (x := (vb (decide (i85 ≤ a0.Switches)))) (d_leq) ?_
                    refine tcond_t (le_of_lt1 h86) ?_
                    refine tb (x := (T_Topo.e a0)) (rfl) ?_
                    refine tbo (ty_railref1_Joined hn a0 i85 i51) fun r95 => ?_
                    refine tneed (x := V.any) (fun h128 => p_inB s81 i51 h128) fun h128 => ?_
                    refine tbo (p_oload (e1 := fun x : Bool => (vb x)) (c := cB) (fun _ => rfl) s81 i51 (fun _ => rfl)) fun r99 => ?_
                    refine tg_f (x := V.any) (fun h100 => rfl) ?_
                    refine tg_f (x := (vi i85)) (fun h102 => rfl) ?_
                    refine tgn_f (x := V.any) (fun h104 h107 => by simp only [gv_t h104]; exact gate_pos (not_t h104) (p_inB s16 i85 h107)) fun h108 => ?_
                    refine tgo_f (fun h109 => by first | exact rf_bind_some (gate_rv (not_t h109) (gate_rv (not_t h109) (p_oload (e1 := fun x : Bool => (vb x)) (c := cB) (fun _ => rfl) s16 i85 (fun _ => rfl)))) | (simp only [gv_t h109]; exact rf_bind_some (gate_rv (not_t h109) (gate_rv (not_t h109) (p_oload (e1 := fun x : Bool => (vb x)) (c := cB) (fun _ => rfl) s16 i85 (fun _ => rfl)))))) fun r112 => ?_
                    refine tg_f (x := (vb r112)) (fun h113 => congrArg some (gv_t h113)) ?_
                    refine tg2 (x := (vb r95)) (fun h115 => rfl) ?_
                    refine tg_f (x := (vb (r112 && r95))) (fun h117 => by simp only [gv_t h117]; exact bind_some_eq (pick_and (fun h9 => gv_t (and_i h117 h9)))) ?_
                    refine tb (x := (vb (r99 || (r112 && r95)))) (pick_or (fun h9 => gv_t (not_f h9))) ?_
                    refine tneed (x := V.any) (fun h127 => p_inB s81 i51 h127) fun h127 => ?_
                    refine tb (x := cB (r99 || (r112 && r95))) rfl ?_
                    refine tbo (p_oset (c := cB) (fun _ => rfl) s81 i51 (r99 || (r112 && r95))) fun r125 => ?_
                    refine tb (x := (vi (i85 + 1))) (p_inc h87 h88) ?_
                    refine tkeepO2 ?_ rfl
                    refine tkeepT2 ?_ rfl
                    refine tsome ?_
                    exact h83 (r125)
                  · refine tb (x := (vi a0.Switches)) (rfl) ?_
                    refine tb (x := (vb (decide (i85 ≤ a0.Switches)))) (d_leq) ?_
                    refine tcond_f (nle_of_nlt1 h89) ?_
                    refine tkeepO2 ?_ rfl
                    refine tkeepT2 ?_ rfl
                    refine tsome ?_
                    exact rf_j rfl
                · refine tkeepO2 ?_ rfl
                  refine tkeepT2 ?_ rfl
                  refine tsome ?_
                  exact rf_j rfl
              · refine tb (x := (vi (i51 + 1))) (p_inc h53 h54) ?_
                refine tkeepO2 ?_ rfl
                refine tkeepT2 ?_ rfl
                refine tsome ?_
                exact h49 (s61)
            · refine tb (x := (vi a0.Switches)) (rfl) ?_
              refine tb (x := (vb (decide (i51 ≤ a0.Switches)))) (d_leq) ?_
              refine tcond_f (nle_of_nlt1 h55) ?_
              refine tkeepO2 ?_ rfl
              refine tsome ?_
              exact rf_j rfl
          · refine tkeepO2 ?_ rfl
            refine tsome ?_
            exact h31 (s42)
    · refine tb (x := (vb (decide (i20 ≤ 6)))) (d_leq) ?_
      refine tcond_f (nle_of_nlt1 h24) ?_
      exact h13 ()

/-! railpoint/topo.Links -/
def an_topo_Links : Ann := .seq (.reg 0 [] [] []) (.seq (.reg 0 [] [] []) (.seq (.seq (.reg 0 [] [] []) (.blk (some [.kb 2, .o 5]) (.loop [.kb 2, .o 5, .s 16] (.seq (.reg 0 [] [] []) (.seq (.cond none (.no) (.no)) (.seq (.blk none (.seq (.reg 0 [] [] []) (.reg 0 [] [] []))) (.reg 0 [] [] []))))))) (.seq (.reg 0 [] [] []) (.seq (.seq (.reg 0 [] [] [27]) (.blk (some [.o 5]) (.loop [.kb 2, .o 5, .r 7 3] (.seq (.seq (.reg 0 [] [] []) (.cond none (.no) (.no))) (.seq (.blk (some [.kb 2, .o 5, .r 7 3]) (.seq (.reg 7 [] [] []) (.blk (some [.kb 2, .o 5, .r 7 3]) (.loop [.kb 2, .o 5, .r 7 3, .s 39] (.seq (.reg 0 [] [] []) (.seq (.cond none (.no) (.no)) (.seq (.blk none (.seq (.reg 0 [] [] []) (.seq (.reg 0 [] [] []) (.cond (some [.kb 2, .o 5, .r 7 3]) (.seq (.reg 0 [] [] []) (.reg 0 [] [] [])) (.no))))) (.reg 0 [] [] [])))))))) (.reg 0 [] [] [1000032])))))) (.seq (.reg 0 [5] [] []) (.no))))))
noncomputable def sem_topo_Links (n : Nat) (xs : List V) : Option V := if xs.length ≤ 64 then denF Tryd.prog (envOf [(36, (sem_topo_near n))]) n Tryd.f34 an_topo_Links xs else none
theorem ok_topo_Links (n : Nat) : SemOk Tryd.prog DW 34 (sem_topo_Links n) := fun xs y h => by
  unfold sem_topo_Links at h
  split at h
  · rename_i hl
    exact denF_ok stb Tryd.func34 (by kernel_rfl) (envOf_ok (semsOk_cons (ok_topo_near n) semsOk_nil)) (by rw [Tryd.ntmps34]; exact hl) h
  · cases h
theorem eq_topo_Links (n : Nat) (x0 x1 : V) : sem_topo_Links n [x0, x1] =
 (V.cellsO x0).bind fun v1 =>
 (ldk none (List.drop 0 v1)).bind fun v2 =>
 (bin2 Tryd.prog BinOp.add 3 (ot 11) (oc 1) v2 (vi 1)).bind fun v3 =>
 (makeN 1 [(vi 0)] v3 v3).bind fun v4 =>
 ((oslR v4).map fun rows => V.lit (Go.Value.int Go.IntKind.i64 (List.length rows))).bind fun v5 =>
 JoinPt (fun vs6 =>
 ((oslR (List.getD vs6 0 V.any)).bind fun rows8 => inB (List.length rows8) x1).bind fun v9 =>
 (V.cellsO (vi 0)).bind fun v10 =>
 (setV (List.getD vs6 0 V.any) [] (Stp.mk (some (natOf x1)) 0 1) 1 v10).bind fun v11 =>
 (slcB 1 1 [(vi 0)] [(0, x1)]).bind fun v12 =>
 JoinPt (fun vs13 =>
 (some (frz (List.getD vs13 0 V.any))).bind fun v15 =>
 some v15) fun J14 =>
 (keepO (some v1) (some v1) (some [v11, (V.sl (slL v12))])).bind (fixN (fun rec16 vs17 =>
 (lenS [(V.sl (slL (List.getD vs17 1 V.any)))]).bind fun v18 =>
 (bin2 Tryd.prog BinOp.gtr 3 (ot 29) (oc 0) v18 (vi 0)).bind fun v19 =>
 condV v19 (
 JoinPt (fun vs20 =>
 (tailV (slL (List.getD vs20 1 V.any)) (vi 1)).bind fun v22 =>
 (keepO (some v1) (some v1) (some [(List.getD vs20 0 V.any), (V.sl (slL v22))])).bind rec16) fun J21 =>
 (ldk (some 3) (List.drop 0 v1)).bind fun v23 =>
 (idxS 1 (V.sl (slL (List.getD vs17 1 V.any))) (vi 0)).bind fun v24 =>
 (ldp none v24).bind fun v25 =>
 ((sem_topo_near n) [v23, v25]).bind fun v26 =>
 (lenS [v26]).bind fun v27 =>
 JoinPt (fun vs28 =>
 (keepO (some v1) (some v1) (some [(List.getD vs28 0 V.any), (V.sl (slL (List.getD vs28 1 V.any)))])).bind J21) fun J29 =>
 (keepO (some v1) (some v1) (some [(List.getD vs17 0 V.any), (V.sl (slL (List.getD vs17 1 V.any))), (vi 0)])).bind (fixN (fun rec30 vs31 =>
 (bin2 Tryd.prog BinOp.lss 3 (ot 39) (ot 38) (List.getD vs31 2 V.any) v27).bind fun v32 =>
 condV v32 (
 (idxS 1 v26 (List.getD vs31 2 V.any)).bind fun v33 =>
 (ldp none v33).bind fun v34 =>
 ((oslR (List.getD vs31 0 V.any)).bind fun rows35 => inB (List.length rows35) v34).bind fun v36 =>
 ((nodeL (List.getD vs31 0 V.any) (some (natOf v34)) 1).bind fun l37 => (ldk none (List.drop 0 l37)).bind pureO).bind fun v38 =>
 (bin2 Tryd.prog BinOp.lss 3 (ot 46) (oc 0) v38 (vi 0)).bind fun v39 =>
 JoinPt (fun vs40 =>
 (bin2 Tryd.prog BinOp.add 3 (ot 39) (oc 1) (List.getD vs31 2 V.any) (vi 1)).bind fun v42 =>
 (keepO (some v1) (some v1) (some [(List.getD vs40 0 V.any), (V.sl (slL (List.getD vs40 1 V.any))), v42])).bind rec30) fun J41 =>
 condV v39 (
 (idxS 1 (V.sl (slL (List.getD vs31 1 V.any))) (vi 0)).bind fun v43 =>
 (ldp none v43).bind fun v44 =>
 ((oslR (List.getD vs31 0 V.any)).bind fun rows45 => inB (List.length rows45) v44).bind fun v46 =>
 ((nodeL (List.getD vs31 0 V.any) (some (natOf v44)) 1).bind fun l47 => (ldk none (List.drop 0 l47)).bind pureO).bind fun v48 =>
 (bin2 Tryd.prog BinOp.add 3 (ot 55) (oc 1) v48 (vi 1)).bind fun v49 =>
 ((oslR (List.getD vs31 0 V.any)).bind fun rows50 => inB (List.length rows50) v34).bind fun v51 =>
 (V.cellsO v49).bind fun v52 =>
 (setV (List.getD vs31 0 V.any) [] (Stp.mk (some (natOf v34)) 0 1) 1 v52).bind fun v53 =>
 (slcB 1 1 [(vi 0)] [(0, v34)]).bind fun v54 =>
 (appV 1 (slL (List.getD vs31 1 V.any)) v54).bind fun v55 =>
 (keepO (some v1) (some v1) (some [v53, (V.sl (slL v55))])).bind J41) (
 (keepO (some v1) (some v1) (some [(List.getD vs31 0 V.any), (V.sl (slL (List.getD vs31 1 V.any)))])).bind J41)) (
 (keepO (some v1) (some v1) (some [(List.getD vs31 0 V.any), (V.sl (slL (List.getD vs31 1 V.any)))])).bind J29)) n)) (
 J14 [(List.getD vs17 0 V.any)])) n)) fun J7 =>
 (keepO (some v1) (some v1) (some [v4, (vi 0)])).bind (fixN (fun rec56 vs57 =>
 (bin2 Tryd.prog BinOp.lss 3 (ot 16) (ot 15) (List.getD vs57 1 V.any) v5).bind fun v58 =>
 condV v58 (
 ((oslR (List.getD vs57 0 V.any)).bind fun rows59 => inB (List.length rows59) (List.getD vs57 1 V.any)).bind fun v60 =>
 (V.cellsO (vi (-1 : Int))).bind fun v61 =>
 (setV (List.getD vs57 0 V.any) [] (Stp.mk (some (natOf (List.getD vs57 1 V.any))) 0 1) 1 v61).bind fun v62 =>
 (bin2 Tryd.prog BinOp.add 3 (ot 16) (oc 1) (List.getD vs57 1 V.any) (vi 1)).bind fun v63 =>
 (keepO (some v1) (some v1) (some [v62, v63])).bind rec56) (
 (keepO (some v1) (some v1) (some [(List.getD vs57 0 V.any)])).bind J7)) n) := by kernel_rfl
noncomputable def t_topo_Links (a0 : T_Topo) (a1 : Int) : Option (List Int) :=
 (omake (wr (a0.Switches + 1)) (wr (a0.Switches + 1)) 0).bind fun r5 =>
 (loopI r5 (fun (i108 : Int) x109 (s104 : (List Int)) k105 =>
 need (decide (0 ≤ i108) && decide (i108 < (List.length s104 : Int))) (
 (oset s104 i108 (-1 : Int)).bind fun r118 =>
 k105 (r118))) (fun (s104 : (List Int)) =>
 some (s104)) (r5)).bind fun (s9 : (List Int)) =>
 need (decide (0 ≤ a1) && decide (a1 < (List.length s9 : Int))) (
 (oset s9 a1 0).bind fun r16 =>
 (tfix (fun k27 (s26 : ((List Int) × (List Int))) =>
 if (decide (0 < (List.length s26.2 : Int))) = true then (
 ((idx s26.2 0).bind fun r43 =>
 (t_topo_near a0 r43).bind fun r46 =>
 (loopI r46 (fun (i59 : Int) x60 (s55 : ((List Int) × (List Int))) k56 =>
 need (decide (0 ≤ x60) && decide (x60 < (List.length s55.1 : Int))) (
 (idx s55.1 x60).bind fun r70 =>
 (if (decide (r70 < 0)) = true then (
 (idx s55.2 0).bind fun r80 =>
 need (decide (0 ≤ r80) && decide (r80 < (List.length s55.1 : Int))) (
 (idx s55.1 r80).bind fun r85 =>
 need (decide (0 ≤ x60) && decide (x60 < (List.length s55.1 : Int))) (
 (oset s55.1 x60 (wr (r85 + 1))).bind fun r91 =>
 (app s55.2 ([x60] : (List Int))).bind fun r94 =>
 some (r91, r94)))) else (
 some (s55.1, s55.2))).bind fun (s74 : ((List Int) × (List Int))) =>
 k56 (s74.1, s74.2))) (fun (s55 : ((List Int) × (List Int))) =>
 some (s55.1, s55.2)) (s26.1, s26.2)).bind fun (s50 : ((List Int) × (List Int))) =>
 some (s50.1, s50.2)).bind fun (s36 : ((List Int) × (List Int))) =>
 (slc_lo s36.2 1).bind fun r40 =>
 k27 (s36.1, r40)) else (
 some (s26.1))) bigN (r16, ([a1] : (List Int)))).bind fun (s20 : (List Int)) =>
 some s20)
theorem ty_topo_Links {n : Nat} (hn : bigN ≤ n) (a0 : T_Topo) (a1 : Int) : Rv (fun x : (List Int) => (V.sl (List.map cI x))) (sem_topo_Links n [(T_Topo.e a0), (vi a1)]) (t_topo_Links a0 a1) := by
  rw [eq_topo_Links]
  unfold t_topo_Links
  refine tb (x := (T_Topo.c a0)) rfl ?_
  refine tb (x := (vi a0.Switches)) (rfl) ?_
  refine tb (x := (vi (wr (a0.Switches + 1)))) (d_add) ?_
  refine tbo (p_omake (c := cI) (wr (a0.Switches + 1)) (wr (a0.Switches + 1)) 0 rfl) fun r5 => ?_
  refine tb (x := (vi (List.length r5 : Int))) (p_olen _) ?_
  refine tjb (mk := fun s9 : (List Int) => [(V.osl 1 (List.map cI s9))]) (fun J8 => ?_) fun s9 => ?_
  · refine tkeepO2 ?_ rfl
    refine tsome ?_
    refine rf_loopI (mk := fun (i108 : Int) (s104 : (List Int)) => [(V.osl 1 (List.map cI s104)), (vi (i108 : Int))]) hn r5 (r5) (fun i108 x109 h110 h111 h112 s104 rec102 k105 h106 => ?_) (fun s104 rec122 h121 => ?_)
    · refine tb (x := (vb (decide ((i108 : Int) < (List.length r5 : Int))))) (d_lss) ?_
      refine tcond_t h112 ?_
      refine tneed (x := V.any) (fun h120 => p_inB s104 (i108 : Int) h120) fun h120 => ?_
      refine tb (x := cI (-1 : Int)) rfl ?_
      refine tbo (p_oset (c := cI) (fun _ => rfl) s104 (i108 : Int) (-1 : Int)) fun r118 => ?_
      refine tb (x := (vi ((i108 : Int) + 1))) (p_incN h111) ?_
      refine tkeepO2 ?_ rfl
      refine tsome ?_
      exact h106 (r118)
    · refine tb (x := (vb (decide ((List.length r5 : Int) < (List.length r5 : Int))))) (d_lss) ?_
      refine tcond_f h121 ?_
      refine tkeepO2 ?_ rfl
      refine tsome ?_
      exact rf_j rfl
  · refine tneed (x := V.any) (fun h101 => p_inB s9 a1 h101) fun h101 => ?_
    refine tb (x := cI 0) rfl ?_
    refine tbo (p_oset (c := cI) (fun _ => rfl) s9 a1 0) fun r16 => ?_
    refine tb (x := (V.sl (List.map cI ([a1] : (List Int))))) (by kernel_rfl) ?_
    refine tjb (mk := fun s20 : (List Int) => [(V.osl 1 (List.map cI s20))]) (fun J19 => ?_) fun s20 => ?_
    · refine tkeepO2 ?_ rfl
      refine tsome ?_
      refine rf_fixN (mk := fun (s26 : ((List Int) × (List Int))) => [(V.osl 1 (List.map cI s26.1)), (V.sl (List.map cI s26.2))]) hn (r16, ([a1] : (List Int))) (fun rec24 k27 h28 s26 => ?_)
      refine tb (x := (vi (List.length s26.2 : Int))) (p_len _) ?_
      refine tb (x := (vb (decide (0 < (List.length s26.2 : Int))))) (d_gtr) ?_
      refine tcond (fun h33 => ?_) (fun h33 => ?_)
      · refine tjb (mk := fun s36 : ((List Int) × (List Int)) => [(V.osl 1 (List.map cI s36.1)), (V.sl (List.map cI s36.2))]) (fun J35 => ?_) fun s36 => ?_
        · refine tb (x := (T_Topo.e a0)) (rfl) ?_
          refine tbo (p_idx (c := cI) (fun _ => rfl) s26.2 0) fun r43 => ?_
          refine tb (x := (vi r43)) (rfl) ?_
          refine tbo (ty_topo_near hn a0 r43) fun r46 => ?_
          refine tb (x := (vi (List.length r46 : Int))) (p_len _) ?_
          refine tjb (mk := fun s50 : ((List Int) × (List Int)) => [(V.osl 1 (List.map cI s50.1)), (V.sl (List.map cI s50.2))]) (fun J49 => ?_) fun s50 => ?_
          · refine tkeepO2 ?_ rfl
            refine tsome ?_
            refine rf_loopI (mk := fun (i59 : Int) (s55 : ((List Int) × (List Int))) => [(V.osl 1 (List.map cI s55.1)), (V.sl (List.map cI s55.2)), (vi (i59 : Int))]) hn r46 (s26.1, s26.2) (fun i59 x60 h61 h62 h63 s55 rec53 k56 h57 => ?_) (fun s55 rec99 h98 => ?_)
            · refine tb (x := (vb (decide ((i59 : Int) < (List.length r46 : Int))))) (d_lss) ?_
              refine tcond_t h63 ?_
              refine tb (x := (V.ptr [(vi x60)])) (p_idx_at (c := cI) (fun _ => rfl) h61) ?_
              refine tb (x := (vi x60)) (rfl) ?_
              refine tneed (x := V.any) (fun h97 => p_inB s55.1 x60 h97) fun h97 => ?_
              refine tbo (p_oload (e1 := fun x : Int => (vi x)) (c := cI) (fun _ => rfl) s55.1 x60 (fun _ => rfl)) fun r70 => ?_
              refine tb (x := (vb (decide (r70 < 0)))) (d_lss) ?_
              refine tjb (mk := fun s74 : ((List Int) × (List Int)) => [(V.osl 1 (List.map cI s74.1)), (V.sl (List.map cI s74.2))]) (fun J73 => ?_) fun s74 => ?_
              · refine tcond (fun h78 => ?_) (fun h78 => ?_)
                · refine tbo (p_idx (c := cI) (fun _ => rfl) s55.2 0) fun r80 => ?_
                  refine tb (x := (vi r80)) (rfl) ?_
                  refine tneed (x := V.any) (fun h96 => p_inB s55.1 r80 h96) fun h96 => ?_
                  refine tbo (p_oload (e1 := fun x : Int => (vi x)) (c := cI) (fun _ => rfl) s55.1 r80 (fun _ => rfl)) fun r85 => ?_
                  refine tb (x := (vi (wr (r85 + 1)))) (d_add) ?_
                  refine tneed (x := V.any) (fun h95 => p_inB s55.1 x60 h95) fun h95 => ?_
                  refine tb (x := cI (wr (r85 + 1))) rfl ?_
                  refine tbo (p_oset (c := cI) (fun _ => rfl) s55.1 x60 (wr (r85 + 1))) fun r91 => ?_
                  refine tb (x := (V.sl (List.map cI ([x60] : (List Int))))) (by kernel_rfl) ?_
                  refine tbo (p_app (c := cI) (fun _ => rfl) s55.2 ([x60] : (List Int))) fun r94 => ?_
                  refine tkeepO2 ?_ rfl
                  refine tsome ?_
                  exact rf_j rfl
                · refine tkeepO2 ?_ rfl
                  refine tsome ?_
                  exact rf_j rfl
              · refine tb (x := (vi ((i59 : Int) + 1))) (p_incN h62) ?_
                refine tkeepO2 ?_ rfl
                refine tsome ?_
                exact h57 (s74.1, s74.2)
            · refine tb (x := (vb (decide ((List.length r46 : Int) < (List.length r46 : Int))))) (d_lss) ?_
              refine tcond_f h98 ?_
              refine tkeepO2 ?_ rfl
              refine tsome ?_
              exact rf_j rfl
          · refine tkeepO2 ?_ rfl
            refine tsome ?_
            exact rf_j rfl
        · refine tbo (p_tail (c := cI) s36.2 1) fun r40 => ?_
          refine tkeepO2 ?_ rfl
          refine tsome ?_
          exact h28 (s36.1, r40)
      · exact rf_j rfl
    · refine tb (x := (V.sl (List.map cI s20))) (p_frz (c := cI) (fun _ => rfl) s20) ?_
      exact rf_ret rfl

/-! railpoint/topo.Far -/
def an_topo_Far : Ann := .seq (.reg 0 [] [] []) (.seq (.seq (.reg 0 [] [] []) (.blk (some [.kb 3]) (.loop [.kb 3, .s 16] (.seq (.reg 0 [] [] []) (.seq (.cond none (.no) (.no)) (.seq (.blk none (.seq (.reg 0 [] [] []) (.seq (.reg 0 [] [] []) (.seq (.reg 0 [] [] []) (.cond none (.seq (.reg 0 [] [] []) (.no)) (.no)))))) (.reg 0 [] [] []))))))) (.seq (.reg 0 [] [] []) (.seq (.seq (.reg 0 [] [] []) (.cond none (.seq (.reg 0 [] [] []) (.no)) (.no))) (.seq (.reg 0 [] [] []) (.no)))))
noncomputable def sem_topo_Far (n : Nat) (xs : List V) : Option V := if xs.length ≤ 38 then denF Tryd.prog (envOf [(33, (sem_topo_ready n)), (34, (sem_topo_Links n))]) n Tryd.f8 an_topo_Far xs else none
theorem ok_topo_Far (n : Nat) : SemOk Tryd.prog DW 8 (sem_topo_Far n) := fun xs y h => by
  unfold sem_topo_Far at h
  split at h
  · rename_i hl
    exact denF_ok stb Tryd.func8 (by kernel_rfl) (envOf_ok (semsOk_cons (ok_topo_ready n) (semsOk_cons (ok_topo_Links n) semsOk_nil))) (by rw [Tryd.ntmps8]; exact hl) h
  · cases h
theorem eq_topo_Far (n : Nat) (x0 x1 x2 : V) : sem_topo_Far n [x0, x1, x2] =
 (V.cellsO x0).bind fun v1 =>
 (slcB 1 2 [(vi 0)] [(0, x1), (1, x2)]).bind fun v2 =>
 (lenS [v2]).bind fun v3 =>
 JoinPt (fun vs4 =>
 (ldk (some 3) (List.drop 0 v1)).bind fun v6 =>
 ((sem_topo_Links n) [v6, x1]).bind fun v7 =>
 (idxS 1 v7 x2).bind fun v8 =>
 (ldp none v8).bind fun v9 =>
 (bin2 Tryd.prog BinOp.lss 3 (ot 34) (oc 0) v9 (vi 0)).bind fun v10 =>
 condV v10 (
 (scal1 Tryd.prog (Instr.makeInterface 78) (vi 5)).bind fun v11 =>
 some (V.tup [(vi 0), v11])) (
 some (V.tup [v9, vn]))) fun J5 =>
 (keepO (some v1) (some v1) (some [(vi 0)])).bind (fixN (fun rec12 vs13 =>
 (bin2 Tryd.prog BinOp.lss 3 (ot 16) (ot 15) (List.getD vs13 0 V.any) v3).bind fun v14 =>
 condV v14 (
 (idxS 1 v2 (List.getD vs13 0 V.any)).bind fun v15 =>
 (ldp none v15).bind fun v16 =>
 (ldk (some 3) (List.drop 0 v1)).bind fun v17 =>
 ((fillL [(vi 0), (vi 0)] [(0, 1, v16), (1, 1, (vi 1))]).map V.agg).bind fun v18 =>
 ((sem_topo_ready n) [v17, v18]).bind fun v19 =>
 (bin2 Tryd.prog BinOp.neq 23 (ot 24) (Operand.const Go.Value.nilIface) v19 vn).bind fun v20 =>
 condV v20 (
 some (V.tup [(vi 0), v19])) (
 (bin2 Tryd.prog BinOp.add 3 (ot 16) (oc 1) (List.getD vs13 0 V.any) (vi 1)).bind fun v21 =>
 (keepO (some v1) (some v1) (some [v21])).bind rec12)) (
 (keepO (some v1) (some v1) (some [])).bind J5)) n) := by kernel_rfl
noncomputable def t_topo_Far (a0 : T_Topo) (a1 : Int) (a2 : Int) : Option (Int × Int) :=
 join (fun (s6 : Unit) =>
 (t_topo_Links a0 a1).bind fun r11 =>
 (idx r11 a2).bind fun r13 =>
 if (decide (r13 < 0)) = true then (
 some (0, 5)) else (
 some (r13, 0))) fun j7 =>
 loopI ([a1, a2] : (List Int)) (fun (i24 : Int) x25 (s20 : Unit) k21 =>
 (t_topo_ready a0 (T_Spot.mk x25 1)).bind fun r35 =>
 if (!decide (r35 = 0)) = true then (
 some (0, r35)) else (
 k21 ())) (fun (s20 : Unit) =>
 j7 ()) ()
theorem ty_topo_Far {n : Nat} (hn : bigN ≤ n) (a0 : T_Topo) (a1 : Int) (a2 : Int) : Rv (fun x : (Int × Int) => V.tup [(vi x.1), (eV x.2)]) (sem_topo_Far n [(T_Topo.e a0), (vi a1), (vi a2)]) (t_topo_Far a0 a1 a2) := by
  rw [eq_topo_Far]
  unfold t_topo_Far
  refine tb (x := (T_Topo.c a0)) rfl ?_
  refine tb (x := (V.sl (List.map cI ([a1, a2] : (List Int))))) (by kernel_rfl) ?_
  refine tb (x := (vi (List.length ([a1, a2] : (List Int)) : Int))) (p_len _) ?_
  refine tjoin (mk := fun s6 : Unit => []) (fun s6 => ?_) fun J5 j7 h8 => ?_
  · refine tb (x := (T_Topo.e a0)) (rfl) ?_
    refine tbo (ty_topo_Links hn a0 a1) fun r11 => ?_
    refine tbo (p_idx (c := cI) (fun _ => rfl) r11 a2) fun r13 => ?_
    refine tb (x := (vi r13)) (rfl) ?_
    refine tb (x := (vb (decide (r13 < 0)))) (d_lss) ?_
    refine tcond (fun h16 => ?_) (fun h16 => ?_)
    · refine tb (x := (eV 5)) (p_mkE (by decide)) ?_
      exact rf_ret rfl
    · exact rf_ret rfl
  · refine tkeepO2 ?_ rfl
    refine tsome ?_
    refine rf_loopI (mk := fun (i24 : Int) (s20 : Unit) => [(vi (i24 : Int))]) hn ([a1, a2] : (List Int)) () (fun i24 x25 h26 h27 h28 s20 rec18 k21 h22 => ?_) (fun s20 rec40 h39 => ?_)
    · refine tb (x := (vb (decide ((i24 : Int) < (List.length ([a1, a2] : (List Int)) : Int))))) (d_lss) ?_
      refine tcond_t h28 ?_
      refine tb (x := (V.ptr [(vi x25)])) (p_idx_at (c := cI) (fun _ => rfl) h26) ?_
      refine tb (x := (vi x25)) (rfl) ?_
      refine tb (x := (T_Topo.e a0)) (rfl) ?_
      refine tb (x := (T_Spot.e (T_Spot.mk x25 1))) (by kernel_rfl) ?_
      refine tbo (ty_topo_ready hn a0 (T_Spot.mk x25 1)) fun r35 => ?_
      refine tb (x := (vb (!decide (r35 = 0)))) (p_err_neq _) ?_
      refine tcond (fun h37 => ?_) (fun h37 => ?_)
      · exact rf_ret rfl
      · refine tb (x := (vi ((i24 : Int) + 1))) (p_incN h27) ?_
        refine tkeepO2 ?_ rfl
        refine tsome ?_
        exact h22 ()
    · refine tb (x := (vb (decide ((List.length ([a1, a2] : (List Int)) : Int) < (List.length ([a1, a2] : (List Int)) : Int))))) (d_lss) ?_
      refine tcond_f h39 ?_
      refine tkeepO2 ?_ rfl
      refine tsome ?_
      exact h8 ()

/-! railpoint/raillaw1.TopoTells -/
def an_raillaw1_TopoTells : Ann := .seq (.reg 0 [] [] []) (.seq (.reg 0 [] [] []) (.seq (.reg 0 [] [] []) (.seq (.reg 0 [] [] []) (.seq (.reg 0 [] [] []) (.seq (.seq (.reg 0 [] [] []) (.cond (some [.kb 5, .kb 6, .s 13]) (.reg 0 [] [] []) (.no))) (.seq (.reg 0 [] [] []) (.seq (.reg 0 [] [] []) (.seq (.reg 0 [] [] []) (.seq (.seq (.reg 0 [] [] []) (.cond (some [.kb 5, .kb 6, .s 13, .s 15, .b 16, .s 17]) (.seq (.reg 0 [] [] []) (.seq (.reg 0 [] [] []) (.seq (.seq (.reg 0 [] [] []) (.cond (some [.kb 5, .kb 6, .kb 16, .s 13]) (.reg 0 [] [] []) (.no))) (.seq (.reg 0 [] [] []) (.seq (.reg 0 [] [] []) (.cond (some [.kb 5, .kb 6, .kb 16, .s 15, .s 17]) (.reg 0 [] [] []) (.reg 0 [] [] []))))))) (.no))) (.seq (.reg 0 [] [] []) (.seq (.reg 0 [] [] []) (.seq (.reg 0 [] [] []) (.seq (.reg 0 [] [] []) (.seq (.reg 0 [] [] []) (.seq (.reg 0 [] [] []) (.seq (.seq (.reg 0 [] [] []) (.cond (some [.kb 5, .kb 16, .kb 21, .s 13, .b 26]) (.seq (.reg 0 [] [] []) (.seq (.reg 0 [] [] []) (.cond (some [.kb 5, .kb 16, .kb 21, .s 13, .b 26]) (.reg 0 [] [] []) (.reg 0 [] [] [])))) (.no))) (.seq (.reg 0 [] [] []) (.seq (.reg 0 [] [] []) (.seq (.reg 0 [] [] []) (.seq (.seq (.reg 0 [] [] []) (.cond (some [.kb 5, .kb 16, .kb 21, .kb 26, .kb 28, .s 13]) (.reg 0 [] [] []) (.no))) (.seq (.reg 0 [] [] []) (.seq (.seq (.reg 0 [] [] []) (.blk (some [.kb 5, .kb 16, .kb 21, .kb 26, .kb 28, .s 30]) (.loop [.kb 5, .kb 16, .kb 21, .kb 26, .kb 28, .r 30 3, .s 31] (.seq (.seq (.reg 0 [] [] []) (.cond none (.no) (.no))) (.seq (.blk none (.seq (.reg 0 [] [] []) (.seq (.reg 0 [] [] []) (.cond (some [.kb 5, .kb 16, .kb 21, .kb 26, .kb 28, .r 30 3]) (.reg 0 [] [] []) (.no))))) (.reg 0 [] [] [])))))) (.seq (.reg 0 [] [] []) (.seq (.reg 0 [] [] []) (.seq (.reg 0 [] [] []) (.seq (.seq (.reg 0 [] [] []) (.cond (some [.kb 5, .kb 16, .kb 21, .kb 26, .kb 28, .s 13]) (.reg 0 [] [] []) (.no))) (.seq (.reg 0 [] [] []) (.seq (.seq (.reg 0 [] [] []) (.cond (some [.kb 5, .kb 16, .kb 21, .kb 26, .kb 28, .s 13, .s 36]) (.seq (.reg 0 [] [] []) (.seq (.reg 0 [] [] []) (.cond (some [.kb 5, .kb 16, .kb 21, .kb 26, .kb 28, .s 13, .s 36]) (.seq (.reg 0 [] [] []) (.reg 0 [] [] [])) (.no)))) (.no))) (.seq (.reg 0 [] [] []) (.seq (.reg 0 [] [] []) (.seq (.reg 0 [] [] []) (.no))))))))))))))))))))))))))))))))
noncomputable def sem_raillaw1_TopoTells (n : Nat) (xs : List V) : Option V := if xs.length ≤ 230 then denF Tryd.prog (envOf [(11, (sem_railref1_Topo n)), (6, (sem_topo_Check n)), (9, (sem_Error n)), (12, (sem_railref1_Spot n)), (13, (sem_railref1_Peer n)), (14, (sem_railref1_Host n)), (15, (sem_topo_Peer n)), (16, (sem_topo_At n)), (17, (sem_railref1_Named n)), (18, (sem_topo_Where n)), (19, (sem_railref1_Joined n)), (10, (sem_topo_Near n)), (20, (sem_railsame_Ints n)), (21, (sem_railref1_Far n)), (8, (sem_topo_Far n))]) n Tryd.f4 an_raillaw1_TopoTells xs else none
theorem ok_raillaw1_TopoTells (n : Nat) : SemOk Tryd.prog DW 4 (sem_raillaw1_TopoTells n) := fun xs y h => by
  unfold sem_raillaw1_TopoTells at h
  split at h
  · rename_i hl
    exact denF_ok stb Tryd.func4 (by kernel_rfl) (envOf_ok (semsOk_cons (ok_railref1_Topo n) (semsOk_cons (ok_topo_Check n) (semsOk_cons (ok_Error n) (semsOk_cons (ok_railref1_Spot n) (semsOk_cons (ok_railref1_Peer n) (semsOk_cons (ok_railref1_Host n) (semsOk_cons (ok_topo_Peer n) (semsOk_cons (ok_topo_At n) (semsOk_cons (ok_railref1_Named n) (semsOk_cons (ok_topo_Where n) (semsOk_cons (ok_railref1_Joined n) (semsOk_cons (ok_topo_Near n) (semsOk_cons (ok_railsame_Ints n) (semsOk_cons (ok_railref1_Far n) (semsOk_cons (ok_topo_Far n) semsOk_nil)))))))))))))))) (by rw [Tryd.ntmps4]; exact hl) h
  · cases h
theorem eq_raillaw1_TopoTells (n : Nat) (x0 x1 x2 x3 x4 : V) : sem_raillaw1_TopoTells n [x0, x1, x2, x3, x4] =
 (V.cellsO x0).bind fun v1 =>
 (V.cellsO x1).bind fun v2 =>
 (ldk (some 3) (List.drop 0 v1)).bind fun v3 =>
 ((sem_railref1_Topo n) [v3]).bind fun v4 =>
 (ldk (some 3) (List.drop 0 v1)).bind fun v5 =>
 ((sem_topo_Check n) [v5]).bind fun v6 =>
 ((sem_Error n) [v6, v4]).bind fun v7 =>
 (ldk (some 3) (List.drop 0 v1)).bind fun v8 =>
 (ldk (some 2) (List.drop 0 v2)).bind fun v9 =>
 ((sem_railref1_Spot n) [v8, v9]).bind fun v10 =>
 (bin2 Tryd.prog BinOp.eql 3 (ot 49) (oc 0) v4 (vi 0)).bind fun v11 =>
 (guardV v11 true (some v10)).bind fun v12 =>
 (guardV v11 true ((scal1 Tryd.prog (Op.unary Go.UnOp.not) v12).bind fun v13 =>
 some v13)).bind fun v14 =>
 (pickV v11 v14 (vb false)).bind fun v15 =>
 JoinPt (fun vs16 =>
 (bin2 Tryd.prog BinOp.eql 3 (ot 56) (oc 0) (List.getD vs16 0 V.any) (vi 0)).bind fun v18 =>
 JoinPt (fun vs19 =>
 (ldk (some 3) (List.drop 0 v1)).bind fun v21 =>
 (ldk (some 2) (List.drop 0 v2)).bind fun v22 =>
 ((sem_topo_Peer n) [v21, v22]).bind fun v23 =>
 (extractV v23 0).bind fun v24 =>
 (extractV v23 1).bind fun v25 =>
 (spliceV [(vi 0), (vi 0)] 0 2 v24).bind fun v26 =>
 ((sem_Error n) [v25, (List.getD vs19 0 V.any)]).bind fun v27 =>
 (ldk (some 3) (List.drop 0 v1)).bind fun v28 =>
 (ldk (some 2) (List.drop 0 v2)).bind fun v29 =>
 ((sem_topo_At n) [v28, v29]).bind fun v30 =>
 (extractV v30 0).bind fun v31 =>
 (extractV v30 1).bind fun v32 =>
 ((sem_Error n) [v32, (List.getD vs19 1 V.any)]).bind fun v33 =>
 (bin2 Tryd.prog BinOp.eql 3 (ot 97) (oc 0) v4 (vi 0)).bind fun v34 =>
 JoinPt (fun vs35 =>
 (ldk (some 3) (List.drop 0 v1)).bind fun v37 =>
 ((sem_topo_Where n) [v37, x2]).bind fun v38 =>
 (extractV v38 0).bind fun v39 =>
 (extractV v38 1).bind fun v40 =>
 (spliceV [(vi 0), (vi 0)] 0 2 v39).bind fun v41 =>
 ((sem_Error n) [v40, (List.getD vs35 0 V.any)]).bind fun v42 =>
 (bin2 Tryd.prog BinOp.eql 3 (ot 120) (oc 0) v4 (vi 0)).bind fun v43 =>
 (guardV v43 true (some x3)).bind fun v44 =>
 (guardV v43 true ((bin2 Tryd.prog BinOp.lss 3 (ot 123) (oc 1) v44 (vi 1)).bind fun v45 =>
 some v45)).bind fun v46 =>
 (guardV v43 true (some v46)).bind fun v47 =>
 (guardV v47 false (some x3)).bind fun v48 =>
 (guardV v47 false (some V.any)).bind fun v49 =>
 (guardV v47 false ((gate v47 false (ldk none (List.drop 0 v1))).bind fun v50 =>
 some v50)).bind fun v51 =>
 (guardV v47 false ((bin2 Tryd.prog BinOp.gtr 3 (ot 126) (ot 128) v48 v51).bind fun v52 =>
 some v52)).bind fun v53 =>
 (guardV v43 true ((pickV v47 (vb true) v53).bind fun v54 =>
 some v54)).bind fun v55 =>
 (pickV v43 v55 (vb false)).bind fun v56 =>
 JoinPt (fun vs57 =>
 JoinPt (fun vs59 =>
 (ldk (some 3) (List.drop 0 v1)).bind fun v61 =>
 ((sem_topo_Near n) [v61, x3]).bind fun v62 =>
 (extractV v62 0).bind fun v63 =>
 (extractV v62 1).bind fun v64 =>
 ((sem_Error n) [v64, (List.getD vs57 0 V.any)]).bind fun v65 =>
 ((sem_railsame_Ints n) [v63, (List.getD vs59 0 V.any)]).bind fun v66 =>
 (bin2 Tryd.prog BinOp.eql 3 (ot 161) (oc 0) (List.getD vs57 0 V.any) (vi 0)).bind fun v67 =>
 (guardV v67 true (some x4)).bind fun v68 =>
 (guardV v67 true ((bin2 Tryd.prog BinOp.lss 3 (ot 164) (oc 1) v68 (vi 1)).bind fun v69 =>
 some v69)).bind fun v70 =>
 (guardV v67 true (some v70)).bind fun v71 =>
 (guardV v71 false (some x4)).bind fun v72 =>
 (guardV v71 false (some V.any)).bind fun v73 =>
 (guardV v71 false ((gate v71 false (ldk none (List.drop 0 v1))).bind fun v74 =>
 some v74)).bind fun v75 =>
 (guardV v71 false ((bin2 Tryd.prog BinOp.gtr 3 (ot 167) (ot 169) v72 v75).bind fun v76 =>
 some v76)).bind fun v77 =>
 (guardV v67 true ((pickV v71 (vb true) v77).bind fun v78 =>
 some v78)).bind fun v79 =>
 (pickV v67 v79 (vb false)).bind fun v80 =>
 JoinPt (fun vs81 =>
 (bin2 Tryd.prog BinOp.eql 3 (ot 173) (oc 0) (List.getD vs81 0 V.any) (vi 0)).bind fun v83 =>
 JoinPt (fun vs84 =>
 (ldk (some 3) (List.drop 0 v1)).bind fun v86 =>
 ((sem_topo_Far n) [v86, x3, x4]).bind fun v87 =>
 (extractV v87 0).bind fun v88 =>
 (extractV v87 1).bind fun v89 =>
 ((sem_Error n) [v89, (List.getD vs84 0 V.any)]).bind fun v90 =>
 (guardV v7 true (some v27)).bind fun v91 =>
 (pickV v7 v91 (vb false)).bind fun v92 =>
 (guardV v92 true (some v33)).bind fun v93 =>
 (pickV v92 v93 (vb false)).bind fun v94 =>
 (guardV v94 true (some v42)).bind fun v95 =>
 (pickV v94 v95 (vb false)).bind fun v96 =>
 (guardV v96 true (some v65)).bind fun v97 =>
 (pickV v96 v97 (vb false)).bind fun v98 =>
 (guardV v98 true (some v90)).bind fun v99 =>
 (pickV v98 v99 (vb false)).bind fun v100 =>
 (guardV v100 true (some v66)).bind fun v101 =>
 (pickV v100 v101 (vb false)).bind fun v102 =>
 (guardV v102 true ((ldk (some 2) (List.drop 0 (aggL v26))).bind fun v103 =>
 some v103)).bind fun v104 =>
 (guardV v102 true ((ldk (some 2) (List.drop 0 (aggL (List.getD vs19 2 V.any)))).bind fun v105 =>
 some v105)).bind fun v106 =>
 (guardV v102 true ((bin2 Tryd.prog BinOp.eql 38 (ot 211) (ot 212) v104 v106).bind fun v107 =>
 some v107)).bind fun v108 =>
 (pickV v102 v108 (vb false)).bind fun v109 =>
 (guardV v109 true (some v31)).bind fun v110 =>
 (guardV v109 true (some (List.getD vs19 3 V.any))).bind fun v111 =>
 (guardV v109 true ((bin2 Tryd.prog BinOp.eql 9 (ot 216) (ot 217) v110 v111).bind fun v112 =>
 some v112)).bind fun v113 =>
 (pickV v109 v113 (vb false)).bind fun v114 =>
 (guardV v114 true ((ldk (some 2) (List.drop 0 (aggL v41))).bind fun v115 =>
 some v115)).bind fun v116 =>
 (guardV v114 true ((ldk (some 2) (List.drop 0 (aggL (List.getD vs35 1 V.any)))).bind fun v117 =>
 some v117)).bind fun v118 =>
 (guardV v114 true ((bin2 Tryd.prog BinOp.eql 38 (ot 221) (ot 222) v116 v118).bind fun v119 =>
 some v119)).bind fun v120 =>
 (pickV v114 v120 (vb false)).bind fun v121 =>
 (guardV v121 true (some v88)).bind fun v122 =>
 (guardV v121 true (some (List.getD vs84 1 V.any))).bind fun v123 =>
 (guardV v121 true ((bin2 Tryd.prog BinOp.eql 3 (ot 226) (ot 227) v122 v123).bind fun v124 =>
 some v124)).bind fun v125 =>
 (pickV v121 v125 (vb false)).bind fun v126 =>
 some v126) fun J85 =>
 condV v83 (
 (ldk (some 3) (List.drop 0 v1)).bind fun v127 =>
 ((sem_railref1_Far n) [v127, x3, x4]).bind fun v128 =>
 (bin2 Tryd.prog BinOp.lss 3 (ot 179) (oc 0) v128 (vi 0)).bind fun v129 =>
 JoinPt (fun vs130 =>
 (keepO (some v1) (some v1) (keepO (some (aggL (List.getD vs19 2 V.any))) (some (aggL (List.getD vs19 2 V.any))) (keepO (some (aggL v26)) (some (aggL v26)) (keepO (some (aggL (List.getD vs35 1 V.any))) (some (aggL (List.getD vs35 1 V.any))) (keepO (some (aggL v41)) (some (aggL v41)) (some [(List.getD vs130 0 V.any), (List.getD vs130 1 V.any)])))))).bind J85) fun J131 =>
 condV v129 (
 (keepO (some v1) (some v1) (keepO (some (aggL (List.getD vs19 2 V.any))) (some (aggL (List.getD vs19 2 V.any))) (keepO (some (aggL v26)) (some (aggL v26)) (keepO (some (aggL (List.getD vs35 1 V.any))) (some (aggL (List.getD vs35 1 V.any))) (keepO (some (aggL v41)) (some (aggL v41)) (some [(vi 5), (vi 0)])))))).bind J131) (
 (keepO (some v1) (some v1) (keepO (some (aggL (List.getD vs19 2 V.any))) (some (aggL (List.getD vs19 2 V.any))) (keepO (some (aggL v26)) (some (aggL v26)) (keepO (some (aggL (List.getD vs35 1 V.any))) (some (aggL (List.getD vs35 1 V.any))) (keepO (some (aggL v41)) (some (aggL v41)) (some [(List.getD vs81 0 V.any), v128])))))).bind J131)) (
 (keepO (some v1) (some v1) (keepO (some (aggL (List.getD vs19 2 V.any))) (some (aggL (List.getD vs19 2 V.any))) (keepO (some (aggL v26)) (some (aggL v26)) (keepO (some (aggL (List.getD vs35 1 V.any))) (some (aggL (List.getD vs35 1 V.any))) (keepO (some (aggL v41)) (some (aggL v41)) (some [(List.getD vs81 0 V.any), (vi 0)])))))).bind J85)) fun J82 =>
 condV v80 (
 (keepO (some v1) (some v1) (keepO (some (aggL (List.getD vs19 2 V.any))) (some (aggL (List.getD vs19 2 V.any))) (keepO (some (aggL v26)) (some (aggL v26)) (keepO (some (aggL (List.getD vs35 1 V.any))) (some (aggL (List.getD vs35 1 V.any))) (keepO (some (aggL v41)) (some (aggL v41)) (some [(vi 1)])))))).bind J82) (
 (keepO (some v1) (some v1) (keepO (some (aggL (List.getD vs19 2 V.any))) (some (aggL (List.getD vs19 2 V.any))) (keepO (some (aggL v26)) (some (aggL v26)) (keepO (some (aggL (List.getD vs35 1 V.any))) (some (aggL (List.getD vs35 1 V.any))) (keepO (some (aggL v41)) (some (aggL v41)) (some [(List.getD vs57 0 V.any)])))))).bind J82)) fun J60 =>
 (keepO (some v1) (some v1) (keepO (some (aggL (List.getD vs19 2 V.any))) (some (aggL (List.getD vs19 2 V.any))) (keepO (some (aggL v26)) (some (aggL v26)) (keepO (some (aggL (List.getD vs35 1 V.any))) (some (aggL (List.getD vs35 1 V.any))) (keepO (some (aggL v41)) (some (aggL v41)) (some [(V.sl []), (vi 1)])))))).bind (fixN (fun rec132 vs133 =>
 (bin2 Tryd.prog BinOp.leq 3 (ot 132) (oc 6) (List.getD vs133 1 V.any) (vi 6)).bind fun v134 =>
 (guardV v134 true (some (List.getD vs57 0 V.any))).bind fun v135 =>
 (guardV v134 true ((bin2 Tryd.prog BinOp.eql 3 (ot 135) (oc 0) v135 (vi 0)).bind fun v136 =>
 some v136)).bind fun v137 =>
 (pickV v134 v137 (vb false)).bind fun v138 =>
 condV v138 (
 (ldk (some 3) (List.drop 0 v1)).bind fun v139 =>
 ((sem_railref1_Joined n) [v139, x3, (List.getD vs133 1 V.any)]).bind fun v140 =>
 JoinPt (fun vs141 =>
 (bin2 Tryd.prog BinOp.add 3 (ot 138) (oc 1) (List.getD vs133 1 V.any) (vi 1)).bind fun v143 =>
 (keepO (some v1) (some v1) (keepO (some (aggL (List.getD vs19 2 V.any))) (some (aggL (List.getD vs19 2 V.any))) (keepO (some (aggL v26)) (some (aggL v26)) (keepO (some (aggL (List.getD vs35 1 V.any))) (some (aggL (List.getD vs35 1 V.any))) (keepO (some (aggL v41)) (some (aggL v41)) (some [(V.sl (slL (List.getD vs141 0 V.any))), v143])))))).bind rec132) fun J142 =>
 condV v140 (
 (slcB 1 1 [(vi 0)] [(0, (List.getD vs133 1 V.any))]).bind fun v144 =>
 (appV 1 (slL (List.getD vs133 0 V.any)) v144).bind fun v145 =>
 (keepO (some v1) (some v1) (keepO (some (aggL (List.getD vs19 2 V.any))) (some (aggL (List.getD vs19 2 V.any))) (keepO (some (aggL v26)) (some (aggL v26)) (keepO (some (aggL (List.getD vs35 1 V.any))) (some (aggL (List.getD vs35 1 V.any))) (keepO (some (aggL v41)) (some (aggL v41)) (some [(V.sl (slL v145))])))))).bind J142) (
 (keepO (some v1) (some v1) (keepO (some (aggL (List.getD vs19 2 V.any))) (some (aggL (List.getD vs19 2 V.any))) (keepO (some (aggL v26)) (some (aggL v26)) (keepO (some (aggL (List.getD vs35 1 V.any))) (some (aggL (List.getD vs35 1 V.any))) (keepO (some (aggL v41)) (some (aggL v41)) (some [(V.sl (slL (List.getD vs133 0 V.any)))])))))).bind J142)) (
 (keepO (some v1) (some v1) (keepO (some (aggL (List.getD vs19 2 V.any))) (some (aggL (List.getD vs19 2 V.any))) (keepO (some (aggL v26)) (some (aggL v26)) (keepO (some (aggL (List.getD vs35 1 V.any))) (some (aggL (List.getD vs35 1 V.any))) (keepO (some (aggL v41)) (some (aggL v41)) (some [(V.sl (slL (List.getD vs133 0 V.any)))])))))).bind J60)) n)) fun J58 =>
 condV v56 (
 (keepO (some v1) (some v1) (keepO (some (aggL (List.getD vs19 2 V.any))) (some (aggL (List.getD vs19 2 V.any))) (keepO (some (aggL v26)) (some (aggL v26)) (keepO (some (aggL (List.getD vs35 1 V.any))) (some (aggL (List.getD vs35 1 V.any))) (keepO (some (aggL v41)) (some (aggL v41)) (some [(vi 1)])))))).bind J58) (
 (keepO (some v1) (some v1) (keepO (some (aggL (List.getD vs19 2 V.any))) (some (aggL (List.getD vs19 2 V.any))) (keepO (some (aggL v26)) (some (aggL v26)) (keepO (some (aggL (List.getD vs35 1 V.any))) (some (aggL (List.getD vs35 1 V.any))) (keepO (some (aggL v41)) (some (aggL v41)) (some [v4])))))).bind J58)) fun J36 =>
 condV v34 (
 (ldk (some 3) (List.drop 0 v1)).bind fun v146 =>
 ((sem_railref1_Named n) [v146, x2]).bind fun v147 =>
 (bin2 Tryd.prog BinOp.lss 3 (ot 102) (oc 0) v147 (vi 0)).bind fun v148 =>
 JoinPt (fun vs149 =>
 (keepO (some v1) (some v1) (keepO (some (aggL (List.getD vs19 2 V.any))) (some (aggL (List.getD vs19 2 V.any))) (keepO (some (aggL v26)) (some (aggL v26)) (some [(List.getD vs149 0 V.any), (V.agg (aggL (List.getD vs149 1 V.any)))])))).bind J36) fun J150 =>
 condV v148 (
 (keepO (some v1) (some v1) (keepO (some (aggL (List.getD vs19 2 V.any))) (some (aggL (List.getD vs19 2 V.any))) (keepO (some (aggL v26)) (some (aggL v26)) (some [(vi 5), (V.agg [(vi 0), (vi 0)])])))).bind J150) (
 (ldk none (List.drop 2 v1)).bind fun v151 =>
 (idxS 3 v151 v147).bind fun v152 =>
 (ptrF 1 v152).bind fun v153 =>
 (ldp (some 2) v153).bind fun v154 =>
 (spliceV [(vi 0), (vi 0)] 0 2 v154).bind fun v155 =>
 (keepO (some v1) (some v1) (keepO (some (aggL (List.getD vs19 2 V.any))) (some (aggL (List.getD vs19 2 V.any))) (keepO (some (aggL v26)) (some (aggL v26)) (some [v4, (V.agg (aggL v155))])))).bind J150)) (
 (keepO (some v1) (some v1) (keepO (some (aggL (List.getD vs19 2 V.any))) (some (aggL (List.getD vs19 2 V.any))) (keepO (some (aggL v26)) (some (aggL v26)) (some [v4, (V.agg [(vi 0), (vi 0)])])))).bind J36)) fun J20 =>
 condV v18 (
 (ldk (some 3) (List.drop 0 v1)).bind fun v156 =>
 (ldk (some 2) (List.drop 0 v2)).bind fun v157 =>
 ((sem_railref1_Peer n) [v156, v157]).bind fun v158 =>
 (extractV v158 0).bind fun v159 =>
 (extractV v158 1).bind fun v160 =>
 (spliceV [(vi 0), (vi 0)] 0 2 v159).bind fun v161 =>
 (ldk (some 2) (List.drop 0 (aggL v161))).bind fun v162 =>
 (spliceV [(vi 0), (vi 0)] 0 2 v162).bind fun v163 =>
 (scal1 Tryd.prog (Op.unary Go.UnOp.not) v160).bind fun v164 =>
 JoinPt (fun vs165 =>
 (ldk (some 3) (List.drop 0 v1)).bind fun v167 =>
 (ldk (some 2) (List.drop 0 v2)).bind fun v168 =>
 ((sem_railref1_Host n) [v167, v168]).bind fun v169 =>
 (bin2 Tryd.prog BinOp.lss 3 (ot 70) (oc 0) v169 (vi 0)).bind fun v170 =>
 JoinPt (fun vs171 =>
 (keepO (some v1) (some v1) (keepO (some v2) (some v2) (some [(List.getD vs165 0 V.any), (List.getD vs171 0 V.any), (V.agg (aggL v163)), (List.getD vs171 1 V.any)]))).bind J20) fun J172 =>
 condV v170 (
 (keepO (some v1) (some v1) (keepO (some v2) (some v2) (keepO (some (aggL v163)) (some (aggL v163)) (some [(vi 5), (V.lit (Go.Value.string (ByteArray.mk #[])))])))).bind J172) (
 (ldk none (List.drop 2 v1)).bind fun v173 =>
 (idxS 3 v173 v169).bind fun v174 =>
 (ptrF 0 v174).bind fun v175 =>
 (ldp none v175).bind fun v176 =>
 (keepO (some v1) (some v1) (keepO (some v2) (some v2) (keepO (some (aggL v163)) (some (aggL v163)) (some [(List.getD vs16 0 V.any), v176])))).bind J172)) fun J166 =>
 condV v164 (
 (keepO (some v1) (some v1) (keepO (some v2) (some v2) (keepO (some (aggL v163)) (some (aggL v163)) (some [(vi 5)])))).bind J166) (
 (keepO (some v1) (some v1) (keepO (some v2) (some v2) (keepO (some (aggL v163)) (some (aggL v163)) (some [(List.getD vs16 0 V.any)])))).bind J166)) (
 (keepO (some v1) (some v1) (keepO (some v2) (some v2) (some [(List.getD vs16 0 V.any), (List.getD vs16 0 V.any), (V.agg [(vi 0), (vi 0)]), (V.lit (Go.Value.string (ByteArray.mk #[])))]))).bind J20)) fun J17 =>
 condV v15 (
 (keepO (some v1) (some v1) (keepO (some v2) (some v2) (some [(vi 1)]))).bind J17) (
 (keepO (some v1) (some v1) (keepO (some v2) (some v2) (some [v4]))).bind J17) := by kernel_rfl
noncomputable def t_raillaw1_TopoTells (a0 : T_Topo) (a1 : T_Spot) (a2 : ByteArray) (a3 : Int) (a4 : Int) : Option Bool :=
 (t_railref1_Topo a0).bind fun r5 =>
 (t_topo_Check a0).bind fun r8 =>
 (t_railsame_Error r8 r5).bind fun r10 =>
 (t_railref1_Spot a0 a1).bind fun r14 =>
 (if ((decide (r5 = 0)) && (!r14)) = true then (
 some (1)) else (
 some (r5))).bind fun (s24 : Int) =>
 (if (decide (s24 = 0)) = true then (
 (t_railref1_Peer a0 a1).bind fun r271 =>
 (if (!r271.2) = true then (
 some (5)) else (
 some (s24))).bind fun (s280 : Int) =>
 (t_railref1_Host a0 a1).bind fun r286 =>
 (if (decide (r286 < 0)) = true then (
 some (5, (ByteArray.mk #[]))) else (
 (idx a0.Hosts r286).bind fun r296 =>
 some (s24, r296.Name))).bind fun (s290 : (Int × ByteArray)) =>
 some (s280, s290.1, r271.1, s290.2)) else (
 some (s24, s24, (T_Spot.mk 0 0), (ByteArray.mk #[])))).bind fun (s30 : (Int × Int × T_Spot × ByteArray)) =>
 (t_topo_Peer a0 a1).bind fun r36 =>
 (t_railsame_Error r36.2 s30.1).bind fun r41 =>
 (t_topo_At a0 a1).bind fun r45 =>
 (t_railsame_Error r45.2 s30.2.1).bind fun r49 =>
 (if (decide (r5 = 0)) = true then (
 (t_railref1_Named a0 a2).bind fun r253 =>
 (if (decide (r253 < 0)) = true then (
 some (5, (T_Spot.mk 0 0))) else (
 (idx a0.Hosts r253).bind fun r263 =>
 some (r5, r263.At))).bind fun (s257 : (Int × T_Spot)) =>
 some (s257.1, s257.2)) else (
 some (r5, (T_Spot.mk 0 0)))).bind fun (s53 : (Int × T_Spot)) =>
 (t_topo_Where a0 a2).bind fun r58 =>
 (t_railsame_Error r58.2 s53.1).bind fun r63 =>
 (if ((decide (r5 = 0)) && ((decide (a3 < 1)) || (decide (a0.Switches < a3)))) = true then (
 some (1)) else (
 some (r5))).bind fun (s88 : Int) =>
 (loopU 1 (6 + 1) (fun (i218 : Int) (s214 : (List Int)) k215 =>
 if (decide (s88 = 0)) = true then (
 (t_railref1_Joined a0 a3 i218).bind fun r232 =>
 (if r232 = true then (
 (app s214 ([i218] : (List Int))).bind fun r242 =>
 some (r242)) else (
 some (s214))).bind fun (s235 : (List Int)) =>
 k215 (s235)) else (
 some (s214))) (fun (i218 : Int) (s214 : (List Int)) =>
 some (s214)) ([])).bind fun (s93 : (List Int)) =>
 (t_topo_Near a0 a3).bind fun r98 =>
 (t_railsame_Error r98.2 s88).bind fun r102 =>
 (t_railsame_Ints r98.1 s93).bind fun r104 =>
 (if ((decide (s88 = 0)) && ((decide (a4 < 1)) || (decide (a0.Switches < a4)))) = true then (
 some (1)) else (
 some (s88))).bind fun (s129 : Int) =>
 (if (decide (s129 = 0)) = true then (
 (t_railref1_Far a0 a3 a4).bind fun r203 =>
 (if (decide (r203 < 0)) = true then (
 some (5, 0)) else (
 some (s129, r203))).bind fun (s207 : (Int × Int)) =>
 some (s207.1, s207.2)) else (
 some (s129, 0))).bind fun (s135 : (Int × Int)) =>
 (t_topo_Far a0 a3 a4).bind fun r140 =>
 (t_railsame_Error r140.2 s135.1).bind fun r144 =>
 (some (((((((((r10 && r41) && r49) && r63) && r102) && r144) && r104) && (decide (r36.1 = s30.2.2.1))) && (decide (r45.1 = s30.2.2.2))) && (decide (r58.1 = s53.2)))).bind fun r191 =>
 some (r191 && (decide (r140.1 = s135.2)))
theorem ty_raillaw1_TopoTells {n : Nat} (hn : bigN ≤ n) (a0 : T_Topo) (a1 : T_Spot) (a2 : ByteArray) (a3 : Int) (a4 : Int) : Rv (fun x : Bool => (vb x)) (sem_raillaw1_TopoTells n [(T_Topo.e a0), (T_Spot.e a1), (vt a2), (vi a3), (vi a4)]) (t_raillaw1_TopoTells a0 a1 a2 a3 a4) := by
  rw [eq_raillaw1_TopoTells]
  unfold t_raillaw1_TopoTells
  refine tb (x := (T_Topo.c a0)) rfl ?_
  refine tb (x := (T_Spot.c a1)) rfl ?_
  refine tb (x := (T_Topo.e a0)) (rfl) ?_
  refine tbo (ty_railref1_Topo hn a0) fun r5 => ?_
  refine tb (x := (T_Topo.e a0)) (rfl) ?_
  refine tbo (ty_topo_Check hn a0) fun r8 => ?_
  refine tbo (ty_railsame_Error r8 r5) fun r10 => ?_
  refine tb (x := (T_Topo.e a0)) (rfl) ?_
  refine tb (x := (T_Spot.e a1)) (rfl) ?_
  refine tbo (ty_railref1_Spot hn a0 a1) fun r14 => ?_
  refine tb (x := (vb (decide (r5 = 0)))) (d_eql) ?_
  refine tg (x := (vb r14)) (fun h16 => rfl) ?_
  refine tg (x := (vb (!r14))) (fun h18 => by simp only [gv_t h18]; exact bind_some_eq (d_not)) ?_
  refine tb (x := (vb ((decide (r5 = 0)) && (!r14)))) (pick_and (fun h9 => gv_t h9)) ?_
  refine tjb (mk := fun s24 : Int => [(vi s24)]) (fun J23 => ?_) fun s24 => ?_
  · refine tcond (fun h300 => ?_) (fun h300 => ?_)
    · refine tkeepO2 ?_ rfl
      refine tkeepO2 ?_ rfl
      refine tsome ?_
      exact rf_j rfl
    · refine tkeepO2 ?_ rfl
      refine tkeepO2 ?_ rfl
      refine tsome ?_
      exact rf_j rfl
  · refine tb (x := (vb (decide (s24 = 0)))) (d_eql) ?_
    refine tjb (mk := fun s30 : (Int × Int × T_Spot × ByteArray) => [(vi s30.1), (vi s30.2.1), (V.agg (T_Spot.c s30.2.2.1)), (vt s30.2.2.2)]) (fun J29 => ?_) fun s30 => ?_
    · refine tcond (fun h267 => ?_) (fun h267 => ?_)
      · refine tb (x := (T_Topo.e a0)) (rfl) ?_
        refine tb (x := (T_Spot.e a1)) (rfl) ?_
        refine tbo (ty_railref1_Peer hn a0 a1) fun r271 => ?_
        refine tb (x := (T_Spot.e r271.1)) (rfl) ?_
        refine tb (x := (vb r271.2)) (rfl) ?_
        refine tb (x := V.agg (T_Spot.c r271.1)) (by kernel_rfl) ?_
        refine tb (x := (T_Spot.e r271.1)) (rfl) ?_
        refine tb (x := V.agg (T_Spot.c r271.1)) (by kernel_rfl) ?_
        refine tb (x := (vb (!r271.2))) (d_not) ?_
        refine tjb (mk := fun s280 : Int => [(vi s280)]) (fun J279 => ?_) fun s280 => ?_
        · refine tcond (fun h299 => ?_) (fun h299 => ?_)
          · refine tkeepO2 ?_ rfl
            refine tkeepO2 ?_ rfl
            refine tkeepO2 ?_ rfl
            refine tsome ?_
            exact rf_j rfl
          · refine tkeepO2 ?_ rfl
            refine tkeepO2 ?_ rfl
            refine tkeepO2 ?_ rfl
            refine tsome ?_
            exact rf_j rfl
        · refine tb (x := (T_Topo.e a0)) (rfl) ?_
          refine tb (x := (T_Spot.e a1)) (rfl) ?_
          refine tbo (ty_railref1_Host hn a0 a1) fun r286 => ?_
          refine tb (x := (vb (decide (r286 < 0)))) (d_lss) ?_
          refine tjb (mk := fun s290 : (Int × ByteArray) => [(vi s290.1), (vt s290.2)]) (fun J289 => ?_) fun s290 => ?_
          · refine tcond (fun h293 => ?_) (fun h293 => ?_)
            · refine tkeepO2 ?_ rfl
              refine tkeepO2 ?_ rfl
              refine tkeepO2 ?_ rfl
              refine tsome ?_
              exact rf_j rfl
            · refine tb (x := (V.sl (List.map T_Host.c a0.Hosts))) (rfl) ?_
              refine tbo (p_idx (c := T_Host.c) (fun _ => rfl) a0.Hosts r286) fun r296 => ?_
              refine tb (x := (V.ptr (T_Host.c r296))) (rfl) ?_
              refine tb (x := (vt r296.Name)) (rfl) ?_
              refine tkeepO2 ?_ rfl
              refine tkeepO2 ?_ rfl
              refine tkeepO2 ?_ rfl
              refine tsome ?_
              exact rf_j rfl
          · refine tkeepO2 ?_ rfl
            refine tkeepO2 ?_ rfl
            refine tsome ?_
            exact rf_j rfl
      · refine tkeepO2 ?_ rfl
        refine tkeepO2 ?_ rfl
        refine tsome ?_
        exact rf_j rfl
    · refine tb (x := (T_Topo.e a0)) (rfl) ?_
      refine tb (x := (T_Spot.e a1)) (rfl) ?_
      refine tbo (ty_topo_Peer hn a0 a1) fun r36 => ?_
      refine tb (x := (T_Spot.e r36.1)) (rfl) ?_
      refine tb (x := (eV r36.2)) (rfl) ?_
      refine tb (x := V.agg (T_Spot.c r36.1)) (by kernel_rfl) ?_
      refine tbo (ty_railsame_Error r36.2 s30.1) fun r41 => ?_
      refine tb (x := (T_Topo.e a0)) (rfl) ?_
      refine tb (x := (T_Spot.e a1)) (rfl) ?_
      refine tbo (ty_topo_At hn a0 a1) fun r45 => ?_
      refine tb (x := (vt r45.1)) (rfl) ?_
      refine tb (x := (eV r45.2)) (rfl) ?_
      refine tbo (ty_railsame_Error r45.2 s30.2.1) fun r49 => ?_
      refine tb (x := (vb (decide (r5 = 0)))) (d_eql) ?_
      refine tjb (mk := fun s53 : (Int × T_Spot) => [(vi s53.1), (V.agg (T_Spot.c s53.2))]) (fun J52 => ?_) fun s53 => ?_
      · refine tcond (fun h250 => ?_) (fun h250 => ?_)
        · refine tb (x := (T_Topo.e a0)) (rfl) ?_
          refine tbo (ty_railref1_Named hn a0 a2) fun r253 => ?_
          refine tb (x := (vb (decide (r253 < 0)))) (d_lss) ?_
          refine tjb (mk := fun s257 : (Int × T_Spot) => [(vi s257.1), (V.agg (T_Spot.c s257.2))]) (fun J256 => ?_) fun s257 => ?_
          · refine tcond (fun h260 => ?_) (fun h260 => ?_)
            · refine tkeepO2 ?_ rfl
              refine tkeepO2 ?_ rfl
              refine tkeepO2 ?_ rfl
              refine tsome ?_
              exact rf_j rfl
            · refine tb (x := (V.sl (List.map T_Host.c a0.Hosts))) (rfl) ?_
              refine tbo (p_idx (c := T_Host.c) (fun _ => rfl) a0.Hosts r253) fun r263 => ?_
              refine tb (x := (V.ptr (List.drop 1 (T_Host.c r263)))) (rfl) ?_
              refine tb (x := (T_Spot.e r263.At)) (rfl) ?_
              refine tb (x := V.agg (T_Spot.c r263.At)) (by kernel_rfl) ?_
              refine tkeepO2 ?_ rfl
              refine tkeepO2 ?_ rfl
              refine tkeepO2 ?_ rfl
              refine tsome ?_
              exact rf_j rfl
          · refine tkeepO2 ?_ rfl
            refine tkeepO2 ?_ rfl
            refine tkeepO2 ?_ rfl
            refine tsome ?_
            exact rf_j rfl
        · refine tkeepO2 ?_ rfl
          refine tkeepO2 ?_ rfl
          refine tkeepO2 ?_ rfl
          refine tsome ?_
          exact rf_j rfl
      · refine tb (x := (T_Topo.e a0)) (rfl) ?_
        refine tbo (ty_topo_Where hn a0 a2) fun r58 => ?_
        refine tb (x := (T_Spot.e r58.1)) (rfl) ?_
        refine tb (x := (eV r58.2)) (rfl) ?_
        refine tb (x := V.agg (T_Spot.c r58.1)) (by kernel_rfl) ?_
        refine tbo (ty_railsame_Error r58.2 s53.1) fun r63 => ?_
        refine tb (x := (vb (decide (r5 = 0)))) (d_eql) ?_
        refine tg (x := (vi a3)) (fun h65 => rfl) ?_
        refine tg (x := (vb (decide (a3 < 1)))) (fun h67 => by simp only [gv_t h67]; exact bind_some_eq (d_lss)) ?_
        refine tg (x := (vb (decide (a3 < 1)))) (fun h70 => congrArg some (gv_t h70)) ?_
        refine tg2_f (x := (vi a3)) (fun h72 => rfl) ?_
        refine tg2_f (x := V.any) (fun h74 => rfl) ?_
        refine tg2_f (x := (vi a0.Switches)) (fun h76 => bind_some_eq (gate_pos2 (and_l h76) (not_t (and_r h76)) (rfl))) ?_
        refine tg2_f (x := (vb (decide (a0.Switches < a3)))) (fun h79 => by simp only [gv_t h79]; exact bind_some_eq (d_gtr)) ?_
        refine tg (x := (vb ((decide (a3 < 1)) || (decide (a0.Switches < a3))))) (fun h82 => by simp only [gv_t h82]; exact bind_some_eq (pick_or (fun h9 => gv_t (and_i h82 (not_f h9))))) ?_
        refine tb (x := (vb ((decide (r5 = 0)) && ((decide (a3 < 1)) || (decide (a0.Switches < a3)))))) (pick_and (fun h9 => gv_t h9)) ?_
        refine tjb (mk := fun s88 : Int => [(vi s88)]) (fun J87 => ?_) fun s88 => ?_
        · refine tcond (fun h249 => ?_) (fun h249 => ?_)
          · refine tkeepO2 ?_ rfl
            refine tkeepO2 ?_ rfl
            refine tkeepO2 ?_ rfl
            refine tkeepO2 ?_ rfl
            refine tkeepO2 ?_ rfl
            refine tsome ?_
            exact rf_j rfl
          · refine tkeepO2 ?_ rfl
            refine tkeepO2 ?_ rfl
            refine tkeepO2 ?_ rfl
            refine tkeepO2 ?_ rfl
            refine tkeepO2 ?_ rfl
            refine tsome ?_
            exact rf_j rfl
        · refine tjb (mk := fun s93 : (List Int) => [(V.sl (List.map cI s93))]) (fun J92 => ?_) fun s93 => ?_
          · refine tkeepO2 ?_ rfl
            refine tkeepO2 ?_ rfl
            refine tkeepO2 ?_ rfl
            refine tkeepO2 ?_ rfl
            refine tkeepO2 ?_ rfl
            refine tsome ?_
            refine rf_loopU (mk := fun (i218 : Int) (s214 : (List Int)) => [(V.sl (List.map cI s214)), (vi i218)]) hn _ _ ([]) (fun i218 h219 h220 h221 s214 rec212 k215 h216 => ?_) (fun i218 s214 rec223 h222 => ?_)
            · refine tb (x := (vb (decide (i218 ≤ 6)))) (d_leq) ?_
              refine tb (x := (vi s88)) (gkt (le_of_lt1 h219) rfl) ?_
              refine tkt (le_of_lt1 h219) (tb (x := (vb (decide (s88 = 0)))) (d_eql) ?_)
              refine tb (x := (vb (decide (s88 = 0)))) (pick_kt (le_of_lt1 h219)) ?_
              refine tcond (fun h229 => ?_) (fun h229 => ?_)
              · refine tb (x := (T_Topo.e a0)) (rfl) ?_
                refine tbo (ty_railref1_Joined hn a0 a3 i218) fun r232 => ?_
                refine tjb (mk := fun s235 : (List Int) => [(V.sl (List.map cI s235))]) (fun J234 => ?_) fun s235 => ?_
                · refine tcond (fun h239 => ?_) (fun h239 => ?_)
                  · refine tb (x := (V.sl (List.map cI ([i218] : (List Int))))) (by kernel_rfl) ?_
                    refine tbo (p_app (c := cI) (fun _ => rfl) s214 ([i218] : (List Int))) fun r242 => ?_
                    refine tkeepO2 ?_ rfl
                    refine tkeepO2 ?_ rfl
                    refine tkeepO2 ?_ rfl
                    refine tkeepO2 ?_ rfl
                    refine tkeepO2 ?_ rfl
                    refine tsome ?_
                    exact rf_j rfl
                  · refine tkeepO2 ?_ rfl
                    refine tkeepO2 ?_ rfl
                    refine tkeepO2 ?_ rfl
                    refine tkeepO2 ?_ rfl
                    refine tkeepO2 ?_ rfl
                    refine tsome ?_
                    exact rf_j rfl
                · refine tb (x := (vi (i218 + 1))) (p_inc h220 h221) ?_
                  refine tkeepO2 ?_ rfl
                  refine tkeepO2 ?_ rfl
                  refine tkeepO2 ?_ rfl
                  refine tkeepO2 ?_ rfl
                  refine tkeepO2 ?_ rfl
                  refine tsome ?_
                  exact h216 (s235)
              · refine tkeepO2 ?_ rfl
                refine tkeepO2 ?_ rfl
                refine tkeepO2 ?_ rfl
                refine tkeepO2 ?_ rfl
                refine tkeepO2 ?_ rfl
                refine tsome ?_
                exact rf_j rfl
            · refine tb (x := (vb (decide (i218 ≤ 6)))) (d_leq) ?_
              refine tb (x := V.tup []) (gnt (nle_of_nlt1 h222)) ?_
              refine tb (x := V.tup []) (gnt (nle_of_nlt1 h222)) ?_
              refine tb (x := (vb (false))) (pick_kf (nle_of_nlt1 h222)) ?_
              refine tcond_f rfl ?_
              refine tkeepO2 ?_ rfl
              refine tkeepO2 ?_ rfl
              refine tkeepO2 ?_ rfl
              refine tkeepO2 ?_ rfl
              refine tkeepO2 ?_ rfl
              refine tsome ?_
              exact rf_j rfl
          · refine tb (x := (T_Topo.e a0)) (rfl) ?_
            refine tbo (ty_topo_Near hn a0 a3) fun r98 => ?_
            refine tb (x := (V.sl (List.map cI r98.1))) (rfl) ?_
            refine tb (x := (eV r98.2)) (rfl) ?_
            refine tbo (ty_railsame_Error r98.2 s88) fun r102 => ?_
            refine tbo (ty_railsame_Ints hn r98.1 s93) fun r104 => ?_
            refine tb (x := (vb (decide (s88 = 0)))) (d_eql) ?_
            refine tg (x := (vi a4)) (fun h106 => rfl) ?_
            refine tg (x := (vb (decide (a4 < 1)))) (fun h108 => by simp only [gv_t h108]; exact bind_some_eq (d_lss)) ?_
            refine tg (x := (vb (decide (a4 < 1)))) (fun h111 => congrArg some (gv_t h111)) ?_
            refine tg2_f (x := (vi a4)) (fun h113 => rfl) ?_
            refine tg2_f (x := V.any) (fun h115 => rfl) ?_
            refine tg2_f (x := (vi a0.Switches)) (fun h117 => bind_some_eq (gate_pos2 (and_l h117) (not_t (and_r h117)) (rfl))) ?_
            refine tg2_f (x := (vb (decide (a0.Switches < a4)))) (fun h120 => by simp only [gv_t h120]; exact bind_some_eq (d_gtr)) ?_
            refine tg (x := (vb ((decide (a4 < 1)) || (decide (a0.Switches < a4))))) (fun h123 => by simp only [gv_t h123]; exact bind_some_eq (pick_or (fun h9 => gv_t (and_i h123 (not_f h9))))) ?_
            refine tb (x := (vb ((decide (s88 = 0)) && ((decide (a4 < 1)) || (decide (a0.Switches < a4)))))) (pick_and (fun h9 => gv_t h9)) ?_
            refine tjb (mk := fun s129 : Int => [(vi s129)]) (fun J128 => ?_) fun s129 => ?_
            · refine tcond (fun h211 => ?_) (fun h211 => ?_)
              · refine tkeepO2 ?_ rfl
                refine tkeepO2 ?_ rfl
                refine tkeepO2 ?_ rfl
                refine tkeepO2 ?_ rfl
                refine tkeepO2 ?_ rfl
                refine tsome ?_
                exact rf_j rfl
              · refine tkeepO2 ?_ rfl
                refine tkeepO2 ?_ rfl
                refine tkeepO2 ?_ rfl
                refine tkeepO2 ?_ rfl
                refine tkeepO2 ?_ rfl
                refine tsome ?_
                exact rf_j rfl
            · refine tb (x := (vb (decide (s129 = 0)))) (d_eql) ?_
              refine tjb (mk := fun s135 : (Int × Int) => [(vi s135.1), (vi s135.2)]) (fun J134 => ?_) fun s135 => ?_
              · refine tcond (fun h200 => ?_) (fun h200 => ?_)
                · refine tb (x := (T_Topo.e a0)) (rfl) ?_
                  refine tbo (ty_railref1_Far hn a0 a3 a4) fun r203 => ?_
                  refine tb (x := (vb (decide (r203 < 0)))) (d_lss) ?_
                  refine tjb (mk := fun s207 : (Int × Int) => [(vi s207.1), (vi s207.2)]) (fun J206 => ?_) fun s207 => ?_
                  · refine tcond (fun h210 => ?_) (fun h210 => ?_)
                    · refine tkeepO2 ?_ rfl
                      refine tkeepO2 ?_ rfl
                      refine tkeepO2 ?_ rfl
                      refine tkeepO2 ?_ rfl
                      refine tkeepO2 ?_ rfl
                      refine tsome ?_
                      exact rf_j rfl
                    · refine tkeepO2 ?_ rfl
                      refine tkeepO2 ?_ rfl
                      refine tkeepO2 ?_ rfl
                      refine tkeepO2 ?_ rfl
                      refine tkeepO2 ?_ rfl
                      refine tsome ?_
                      exact rf_j rfl
                  · refine tkeepO2 ?_ rfl
                    refine tkeepO2 ?_ rfl
                    refine tkeepO2 ?_ rfl
                    refine tkeepO2 ?_ rfl
                    refine tkeepO2 ?_ rfl
                    refine tsome ?_
                    exact rf_j rfl
                · refine tkeepO2 ?_ rfl
                  refine tkeepO2 ?_ rfl
                  refine tkeepO2 ?_ rfl
                  refine tkeepO2 ?_ rfl
                  refine tkeepO2 ?_ rfl
                  refine tsome ?_
                  exact rf_j rfl
              · refine tb (x := (T_Topo.e a0)) (rfl) ?_
                refine tbo (ty_topo_Far hn a0 a3 a4) fun r140 => ?_
                refine tb (x := (vi r140.1)) (rfl) ?_
                refine tb (x := (eV r140.2)) (rfl) ?_
                refine tbo (ty_railsame_Error r140.2 s135.1) fun r144 => ?_
                refine tg (x := (vb r41)) (fun h145 => rfl) ?_
                refine tb (x := (vb (r10 && r41))) (pick_and (fun h9 => gv_t h9)) ?_
                refine tg (x := (vb r49)) (fun h148 => rfl) ?_
                refine tb (x := (vb ((r10 && r41) && r49))) (pick_and (fun h9 => gv_t h9)) ?_
                refine tg (x := (vb r63)) (fun h151 => rfl) ?_
                refine tb (x := (vb (((r10 && r41) && r49) && r63))) (pick_and (fun h9 => gv_t h9)) ?_
                refine tg (x := (vb r102)) (fun h154 => rfl) ?_
                refine tb (x := (vb ((((r10 && r41) && r49) && r63) && r102))) (pick_and (fun h9 => gv_t h9)) ?_
                refine tg (x := (vb r144)) (fun h157 => rfl) ?_
                refine tb (x := (vb (((((r10 && r41) && r49) && r63) && r102) && r144))) (pick_and (fun h9 => gv_t h9)) ?_
                refine tg (x := (vb r104)) (fun h160 => rfl) ?_
                refine tb (x := (vb ((((((r10 && r41) && r49) && r63) && r102) && r144) && r104))) (pick_and (fun h9 => gv_t h9)) ?_
                refine tg (x := (T_Spot.e r36.1)) (fun h163 => bind_some_eq (rfl)) ?_
                refine tg (x := (T_Spot.e s30.2.2.1)) (fun h166 => bind_some_eq (rfl)) ?_
                refine tg (x := (vb (decide (r36.1 = s30.2.2.1)))) (fun h169 => by simp only [gv_t h169]; exact bind_some_eq (T_Spot.eql r36.1 s30.2.2.1)) ?_
                refine tb (x := (vb (((((((r10 && r41) && r49) && r63) && r102) && r144) && r104) && (decide (r36.1 = s30.2.2.1))))) (pick_and (fun h9 => gv_t h9)) ?_
                refine tg (x := (vt r45.1)) (fun h173 => rfl) ?_
                refine tg (x := (vt s30.2.2.2)) (fun h175 => rfl) ?_
                refine tg (x := (vb (decide (r45.1 = s30.2.2.2)))) (fun h177 => by simp only [gv_t h177]; exact bind_some_eq (p_eql_str)) ?_
                refine tb (x := (vb ((((((((r10 && r41) && r49) && r63) && r102) && r144) && r104) && (decide (r36.1 = s30.2.2.1))) && (decide (r45.1 = s30.2.2.2))))) (pick_and (fun h9 => gv_t h9)) ?_
                refine tg (x := (T_Spot.e r58.1)) (fun h181 => bind_some_eq (rfl)) ?_
                refine tg (x := (T_Spot.e s53.2)) (fun h184 => bind_some_eq (rfl)) ?_
                refine tg (x := (vb (decide (r58.1 = s53.2)))) (fun h187 => by simp only [gv_t h187]; exact bind_some_eq (T_Spot.eql r58.1 s53.2)) ?_
                refine tbo (e1 := fun x : Bool => (vb x)) (rf_eq (pick_and (fun h9 => gv_t h9)) rfl) fun r191 => ?_
                refine tg (x := (vi r140.1)) (fun h192 => rfl) ?_
                refine tg (x := (vi s135.2)) (fun h194 => rfl) ?_
                refine tg (x := (vb (decide (r140.1 = s135.2)))) (fun h196 => by simp only [gv_t h196]; exact bind_some_eq (d_eql)) ?_
                refine tb (x := (vb (r191 && (decide (r140.1 = s135.2))))) (pick_and (fun h9 => gv_t h9)) ?_
                exact rf_ret rfl

/-! railpoint/raillaw4.line -/
def an_raillaw4_line : Ann := .seq (.reg 0 [] [] []) (.seq (.reg 0 [] [] [1000006, 3]) (.seq (.seq (.reg 0 [] [4001000003, 3002000003] []) (.blk (some [.kb 2, .o 3]) (.loop [.kb 2, .o 3, .s 4] (.seq (.seq (.reg 0 [] [] []) (.cond none (.no) (.no))) (.seq (.blk none (.reg 0 [] [] [13, 21])) (.reg 0 [] [] [])))))) (.seq (.reg 0 [] [] [24, 28]) (.seq (.reg 0 [] [] [31, 36]) (.seq (.reg 0 [3] [] []) (.no))))))
noncomputable def sem_raillaw4_line (n : Nat) (xs : List V) : Option V := if xs.length ≤ 39 then denF Tryd.prog (envOf []) n Tryd.f7 an_raillaw4_line xs else none
theorem ok_raillaw4_line (n : Nat) : SemOk Tryd.prog DW 7 (sem_raillaw4_line n) := fun xs y h => by
  unfold sem_raillaw4_line at h
  split at h
  · rename_i hl
    exact denF_ok stb Tryd.func7 (by kernel_rfl) (envOf_ok semsOk_nil) (by rw [Tryd.ntmps7]; exact hl) h
  · cases h
theorem eq_raillaw4_line (n : Nat) (x0 : V) : sem_raillaw4_line n [x0] =
 ((fillL [(vi 0), (V.lit (Go.Value.slice none 0 0)), (V.lit (Go.Value.slice none 0 0))] [(0, 1, x0)]).map V.agg).bind fun v1 =>
 (V.cellsO v1).bind fun v2 =>
 (setV (V.obj [(vi 0), (V.sl []), (V.sl [])]) [] (Stp.mk none 0 0) 3 v2).bind fun v3 =>
 (some (softX 4001000003 v3)).bind fun v4 =>
 (some (softX 3002000003 v4)).bind fun v5 =>
 JoinPt (fun vs6 =>
 (some V.any).bind fun v8 =>
 ((nodeL (List.getD vs6 0 V.any) none 0).bind fun l9 => (l9[2]?).bind ownO).bind fun v10 =>
 ((fillL [(vi 0), (vi 0)] [(0, 1, (vi 1)), (1, 1, (vi 3))]).map V.agg).bind fun v11 =>
 ((fillL [(V.lit (Go.Value.string (ByteArray.mk #[]))), (vi 0), (vi 0)] [(0, 1, (V.lit (Go.Value.string (ByteArray.mk #[97])))), (1, 2, v11)]).map V.agg).bind fun v12 =>
 (slcB 3 1 [(V.lit (Go.Value.string (ByteArray.mk #[]))), (vi 0), (vi 0)] [(0, v12)]).bind fun v13 =>
 (getV (List.getD vs6 0 V.any) [(Stp.mk none 2 0)]).bind fun v14 =>
 (modX (List.getD vs6 0 V.any) [] (Stp.mk none 2 0) V.any).bind fun v15 =>
 (appS 3 v14 v13).bind fun v16 =>
 (some V.any).bind fun v17 =>
 (V.cellsO v16).bind fun v18 =>
 (setV v15 [] (Stp.mk none 2 0) 1 v18).bind fun v19 =>
 (some V.any).bind fun v20 =>
 ((nodeL v19 none 0).bind fun l21 => (l21[2]?).bind ownO).bind fun v22 =>
 ((fillL [(vi 0), (vi 0)] [(0, 1, x0), (1, 1, (vi 4))]).map V.agg).bind fun v23 =>
 ((fillL [(V.lit (Go.Value.string (ByteArray.mk #[]))), (vi 0), (vi 0)] [(0, 1, (V.lit (Go.Value.string (ByteArray.mk #[98])))), (1, 2, v23)]).map V.agg).bind fun v24 =>
 (slcB 3 1 [(V.lit (Go.Value.string (ByteArray.mk #[]))), (vi 0), (vi 0)] [(0, v24)]).bind fun v25 =>
 (getV v19 [(Stp.mk none 2 0)]).bind fun v26 =>
 (modX v19 [] (Stp.mk none 2 0) V.any).bind fun v27 =>
 (appS 3 v26 v25).bind fun v28 =>
 (some V.any).bind fun v29 =>
 (V.cellsO v28).bind fun v30 =>
 (setV v27 [] (Stp.mk none 2 0) 1 v30).bind fun v31 =>
 (some (frzP v31)).bind fun v32 =>
 (ldp (some 3) v32).bind fun v33 =>
 (spliceV [(vi 0), (V.sl []), (V.sl [])] 0 3 v33).bind fun v34 =>
 (ldk (some 3) (List.drop 0 (aggL v34))).bind fun v35 =>
 some v35) fun J7 =>
 (keepO (some [(vi 0), (V.sl []), (V.sl [])]) (some [(vi 0), (V.sl []), (V.sl [])]) (some [v5, (vi 1)])).bind (fixN (fun rec36 vs37 =>
 (bin2 Tryd.prog BinOp.lss 3 (ot 7) (ot 8) (List.getD vs37 1 V.any) x0).bind fun v38 =>
 condV v38 (
 (some V.any).bind fun v39 =>
 ((nodeL (List.getD vs37 0 V.any) none 0).bind fun l40 => (l40[1]?).bind ownO).bind fun v41 =>
 ((fillL [(vi 0), (vi 0)] [(0, 1, (List.getD vs37 1 V.any)), (1, 1, (vi 2))]).map V.agg).bind fun v42 =>
 (bin2 Tryd.prog BinOp.add 3 (ot 16) (oc 1) (List.getD vs37 1 V.any) (vi 1)).bind fun v43 =>
 ((fillL [(vi 0), (vi 0)] [(0, 1, v43), (1, 1, (vi 1))]).map V.agg).bind fun v44 =>
 ((fillL [(vi 0), (vi 0), (vi 0), (vi 0)] [(0, 2, v42), (2, 2, v44)]).map V.agg).bind fun v45 =>
 (slcB 4 1 [(vi 0), (vi 0), (vi 0), (vi 0)] [(0, v45)]).bind fun v46 =>
 (getV (List.getD vs37 0 V.any) [(Stp.mk none 1 0)]).bind fun v47 =>
 (modX (List.getD vs37 0 V.any) [] (Stp.mk none 1 0) V.any).bind fun v48 =>
 (appS 4 v47 v46).bind fun v49 =>
 (some V.any).bind fun v50 =>
 (V.cellsO v49).bind fun v51 =>
 (setV v48 [] (Stp.mk none 1 0) 1 v51).bind fun v52 =>
 (bin2 Tryd.prog BinOp.add 3 (ot 10) (oc 1) (List.getD vs37 1 V.any) (vi 1)).bind fun v53 =>
 (keepO (some [(vi 0), (V.sl []), (V.sl [])]) (some [(vi 0), (V.sl []), (V.sl [])]) (some [v52, v53])).bind rec36) (
 (keepO (some [(vi 0), (V.sl []), (V.sl [])]) (some [(vi 0), (V.sl []), (V.sl [])]) (some [(List.getD vs37 0 V.any)])).bind J7)) n) := by kernel_rfl
noncomputable def t_raillaw4_line (a0 : Int) : Option T_Topo :=
 (loopU 1 a0 (fun (i37 : Int) (s33 : T_Topo) k34 =>
 (oapp s33.Links ([(T_Link.mk (T_Spot.mk i37 2) (T_Spot.mk (i37 + 1) 1))] : (List T_Link))).bind fun r51 =>
 k34 (T_Topo.mk s33.Switches r51 s33.Hosts)) (fun (i37 : Int) (s33 : T_Topo) =>
 some (s33)) (T_Topo.mk a0 [] [])).bind fun (s6 : T_Topo) =>
 (oapp s6.Hosts ([(T_Host.mk (ByteArray.mk #[97]) (T_Spot.mk 1 3))] : (List T_Host))).bind fun r14 =>
 (oapp r14 ([(T_Host.mk (ByteArray.mk #[98]) (T_Spot.mk a0 4))] : (List T_Host))).bind fun r23 =>
 some (T_Topo.mk s6.Switches s6.Links r23)
theorem ty_raillaw4_line {n : Nat} (hn : bigN ≤ n) (a0 : Int) : Rv (fun x : T_Topo => (T_Topo.e x)) (sem_raillaw4_line n [(vi a0)]) (t_raillaw4_line a0) := by
  rw [eq_raillaw4_line]
  unfold t_raillaw4_line
  refine tb (x := (V.agg [(vi a0), (V.lit (Go.Value.slice none 0 0)), (V.lit (Go.Value.slice none 0 0))])) (by kernel_rfl) ?_
  refine tb (x := [(vi a0), (V.lit (Go.Value.slice none 0 0)), (V.lit (Go.Value.slice none 0 0))]) rfl ?_
  refine tb (x := (V.obj [(vi a0), (V.lit (Go.Value.slice none 0 0)), (V.lit (Go.Value.slice none 0 0))])) (by kernel_rfl) ?_
  refine tb (x := (V.obj [(vi a0), (V.osl 4 (List.map T_Link.c ([] : (List T_Link)))), (V.lit (Go.Value.slice none 0 0))])) (by kernel_rfl) ?_
  refine tb (x := (V.obj [(vi a0), (V.osl 4 (List.map T_Link.c ([] : (List T_Link)))), (V.osl 3 (List.map T_Host.c ([] : (List T_Host))))])) (by kernel_rfl) ?_
  refine tjb (mk := fun s6 : T_Topo => [(V.obj [(vi s6.Switches), (V.osl 4 (List.map T_Link.c s6.Links)), (V.osl 3 (List.map T_Host.c s6.Hosts))])]) (fun J5 => ?_) fun s6 => ?_
  · refine tkeepO2 ?_ rfl
    refine tsome ?_
    refine rf_loopU (mk := fun (i37 : Int) (s33 : T_Topo) => [(V.obj [(vi s33.Switches), (V.osl 4 (List.map T_Link.c s33.Links)), (V.osl 3 (List.map T_Host.c s33.Hosts))]), (vi i37)]) hn _ _ (T_Topo.mk a0 [] []) (fun i37 h38 h39 h40 s33 rec31 k34 h35 => ?_) (fun i37 s33 rec42 h41 => ?_)
    · refine tb (x := (vb (decide (i37 < a0)))) (d_lss) ?_
      refine tcond_t h38 ?_
      refine tb (x := V.any) rfl ?_
      refine tb (x := V.any) rfl ?_
      refine tb (x := (T_Spot.e (T_Spot.mk i37 2))) (by kernel_rfl) ?_
      refine tb (x := (vi (i37 + 1))) (p_inc h39 h40) ?_
      refine tb (x := (T_Spot.e (T_Spot.mk (i37 + 1) 1))) (by kernel_rfl) ?_
      refine tb (x := (T_Link.e (T_Link.mk (T_Spot.mk i37 2) (T_Spot.mk (i37 + 1) 1)))) (by kernel_rfl) ?_
      refine tb (x := (V.sl (List.map T_Link.c ([(T_Link.mk (T_Spot.mk i37 2) (T_Spot.mk (i37 + 1) 1))] : (List T_Link))))) (by kernel_rfl) ?_
      refine tb (x := (V.osl 4 (List.map T_Link.c s33.Links))) rfl ?_
      refine tb (x := (V.obj [(vi s33.Switches), V.any, (V.osl 3 (List.map T_Host.c s33.Hosts))])) (by kernel_rfl) ?_
      refine tbo (p_oapp (c := T_Link.c) (fun _ => rfl) s33.Links ([(T_Link.mk (T_Spot.mk i37 2) (T_Spot.mk (i37 + 1) 1))] : (List T_Link))) fun r51 => ?_
      refine tb (x := V.any) rfl ?_
      refine tb (x := [(V.osl 4 (List.map T_Link.c r51))]) rfl ?_
      refine tb (x := (V.obj [(vi s33.Switches), (V.osl 4 (List.map T_Link.c r51)), (V.osl 3 (List.map T_Host.c s33.Hosts))])) (by kernel_rfl) ?_
      refine tb (x := (vi (i37 + 1))) (p_inc h39 h40) ?_
      refine tkeepO2 ?_ rfl
      refine tsome ?_
      exact h35 (T_Topo.mk s33.Switches r51 s33.Hosts)
    · refine tb (x := (vb (decide (i37 < a0)))) (d_lss) ?_
      refine tcond_f h41 ?_
      refine tkeepO2 ?_ rfl
      refine tsome ?_
      exact rf_j rfl
  · refine tb (x := V.any) rfl ?_
    refine tb (x := V.any) rfl ?_
    refine tb (x := (T_Spot.e (T_Spot.mk 1 3))) (by kernel_rfl) ?_
    refine tb (x := (T_Host.e (T_Host.mk (ByteArray.mk #[97]) (T_Spot.mk 1 3)))) (by kernel_rfl) ?_
    refine tb (x := (V.sl (List.map T_Host.c ([(T_Host.mk (ByteArray.mk #[97]) (T_Spot.mk 1 3))] : (List T_Host))))) (by kernel_rfl) ?_
    refine tb (x := (V.osl 3 (List.map T_Host.c s6.Hosts))) rfl ?_
    refine tb (x := (V.obj [(vi s6.Switches), (V.osl 4 (List.map T_Link.c s6.Links)), V.any])) (by kernel_rfl) ?_
    refine tbo (p_oapp (c := T_Host.c) (fun _ => rfl) s6.Hosts ([(T_Host.mk (ByteArray.mk #[97]) (T_Spot.mk 1 3))] : (List T_Host))) fun r14 => ?_
    refine tb (x := V.any) rfl ?_
    refine tb (x := [(V.osl 3 (List.map T_Host.c r14))]) rfl ?_
    refine tb (x := (V.obj [(vi s6.Switches), (V.osl 4 (List.map T_Link.c s6.Links)), (V.osl 3 (List.map T_Host.c r14))])) (by kernel_rfl) ?_
    refine tb (x := V.any) rfl ?_
    refine tb (x := V.any) rfl ?_
    refine tb (x := (T_Spot.e (T_Spot.mk a0 4))) (by kernel_rfl) ?_
    refine tb (x := (T_Host.e (T_Host.mk (ByteArray.mk #[98]) (T_Spot.mk a0 4)))) (by kernel_rfl) ?_
    refine tb (x := (V.sl (List.map T_Host.c ([(T_Host.mk (ByteArray.mk #[98]) (T_Spot.mk a0 4))] : (List T_Host))))) (by kernel_rfl) ?_
    refine tb (x := (V.osl 3 (List.map T_Host.c r14))) rfl ?_
    refine tb (x := (V.obj [(vi s6.Switches), (V.osl 4 (List.map T_Link.c s6.Links)), V.any])) (by kernel_rfl) ?_
    refine tbo (p_oapp (c := T_Host.c) (fun _ => rfl) r14 ([(T_Host.mk (ByteArray.mk #[98]) (T_Spot.mk a0 4))] : (List T_Host))) fun r23 => ?_
    refine tb (x := V.any) rfl ?_
    refine tb (x := [(V.osl 3 (List.map T_Host.c r23))]) rfl ?_
    refine tb (x := (V.obj [(vi s6.Switches), (V.osl 4 (List.map T_Link.c s6.Links)), (V.osl 3 (List.map T_Host.c r23))])) (by kernel_rfl) ?_
    refine tb (x := (V.ptr (T_Topo.c (T_Topo.mk s6.Switches s6.Links r23)))) (p_frzP (p_fzc rfl (p_fzc (p_frzl (c' := T_Link.c) (fun _ => rfl) _) (p_fzc (p_frzl (c' := T_Host.c) (fun _ => rfl) _) p_fz0)))) ?_
    refine tb (x := (T_Topo.e (T_Topo.mk s6.Switches s6.Links r23))) (rfl) ?_
    refine tb (x := V.agg (T_Topo.c (T_Topo.mk s6.Switches s6.Links r23))) (by kernel_rfl) ?_
    refine tb (x := (T_Topo.e (T_Topo.mk s6.Switches s6.Links r23))) rfl ?_
    exact rf_ret rfl

/-! railpoint/raillaw4.TopoLine -/
def an_raillaw4_TopoLine : Ann := .seq (.reg 0 [] [] []) (.seq (.seq (.reg 0 [] [] []) (.cond none (.seq (.reg 0 [] [] []) (.no)) (.no))) (.seq (.reg 0 [] [] []) (.seq (.seq (.reg 0 [] [] []) (.cond none (.seq (.reg 0 [] [] []) (.no)) (.no))) (.seq (.reg 0 [] [] []) (.seq (.seq (.reg 0 [] [] []) (.cond none (.seq (.reg 0 [] [] []) (.no)) (.no))) (.seq (.reg 0 [] [] []) (.seq (.seq (.reg 0 [] [] []) (.cond (some [.kb 7, .s 10]) (.reg 0 [] [] []) (.no))) (.seq (.reg 0 [] [] []) (.seq (.reg 0 [] [] []) (.seq (.seq (.reg 0 [] [] []) (.cond (some [.s 13]) (.reg 0 [] [] []) (.no))) (.seq (.seq (.reg 0 [] [] []) (.cond (some [.s 13]) (.reg 0 [] [] []) (.no))) (.seq (.reg 0 [] [] []) (.no)))))))))))))
noncomputable def sem_raillaw4_TopoLine (n : Nat) (xs : List V) : Option V := if xs.length ≤ 92 then denF Tryd.prog (envOf [(7, (sem_raillaw4_line n)), (6, (sem_topo_Check n)), (8, (sem_topo_Far n)), (9, (sem_Error n)), (10, (sem_topo_Near n))]) n Tryd.f3 an_raillaw4_TopoLine xs else none
theorem ok_raillaw4_TopoLine (n : Nat) : SemOk Tryd.prog DW 3 (sem_raillaw4_TopoLine n) := fun xs y h => by
  unfold sem_raillaw4_TopoLine at h
  split at h
  · rename_i hl
    exact denF_ok stb Tryd.func3 (by kernel_rfl) (envOf_ok (semsOk_cons (ok_raillaw4_line n) (semsOk_cons (ok_topo_Check n) (semsOk_cons (ok_topo_Far n) (semsOk_cons (ok_Error n) (semsOk_cons (ok_topo_Near n) semsOk_nil)))))) (by rw [Tryd.ntmps3]; exact hl) h
  · cases h
theorem eq_raillaw4_TopoLine (n : Nat) (x0 x1 x2 : V) : sem_raillaw4_TopoLine n [x0, x1, x2] =
 (bin2 Tryd.prog BinOp.lss 3 (ot 14) (oc 1) x0 (vi 1)).bind fun v1 =>
 (guardV v1 false (some x0)).bind fun v2 =>
 (guardV v1 false ((bin2 Tryd.prog BinOp.gtr 3 (ot 17) (oc 6) v2 (vi 6)).bind fun v3 =>
 some v3)).bind fun v4 =>
 (pickV v1 (vb true) v4).bind fun v5 =>
 condV v5 (
 ((sem_raillaw4_line n) [(vi 7)]).bind fun v6 =>
 ((sem_topo_Check n) [v6]).bind fun v7 =>
 (bin2 Tryd.prog BinOp.neq 23 (ot 21) (Operand.const Go.Value.nilIface) v7 vn).bind fun v8 =>
 some v8) (
 ((sem_raillaw4_line n) [x0]).bind fun v9 =>
 (spliceV [(vi 0), (V.sl []), (V.sl [])] 0 3 v9).bind fun v10 =>
 (ldk (some 3) (List.drop 0 (aggL v10))).bind fun v11 =>
 ((sem_topo_Check n) [v11]).bind fun v12 =>
 (bin2 Tryd.prog BinOp.neq 23 (ot 26) (Operand.const Go.Value.nilIface) v12 vn).bind fun v13 =>
 condV v13 (
 some (vb false)) (
 (ldk (some 3) (List.drop 0 (aggL v10))).bind fun v14 =>
 ((sem_topo_Far n) [v14, x1, x2]).bind fun v15 =>
 (extractV v15 0).bind fun v16 =>
 (extractV v15 1).bind fun v17 =>
 (bin2 Tryd.prog BinOp.lss 3 (ot 35) (oc 1) x1 (vi 1)).bind fun v18 =>
 (guardV v18 false (some x1)).bind fun v19 =>
 (guardV v18 false (some x0)).bind fun v20 =>
 (guardV v18 false ((bin2 Tryd.prog BinOp.gtr 3 (ot 38) (ot 39) v19 v20).bind fun v21 =>
 some v21)).bind fun v22 =>
 (pickV v18 (vb true) v22).bind fun v23 =>
 (guardV v23 false (some x2)).bind fun v24 =>
 (guardV v23 false ((bin2 Tryd.prog BinOp.lss 3 (ot 43) (oc 1) v24 (vi 1)).bind fun v25 =>
 some v25)).bind fun v26 =>
 (pickV v23 (vb true) v26).bind fun v27 =>
 (guardV v27 false (some x2)).bind fun v28 =>
 (guardV v27 false (some x0)).bind fun v29 =>
 (guardV v27 false ((bin2 Tryd.prog BinOp.gtr 3 (ot 47) (ot 48) v28 v29).bind fun v30 =>
 some v30)).bind fun v31 =>
 (pickV v27 (vb true) v31).bind fun v32 =>
 condV v32 (
 ((sem_Error n) [v17, (vi 1)]).bind fun v33 =>
 some v33) (
 (bin2 Tryd.prog BinOp.sub 3 (ot 53) (ot 54) x1 x2).bind fun v34 =>
 (bin2 Tryd.prog BinOp.lss 3 (ot 56) (oc 0) v34 (vi 0)).bind fun v35 =>
 JoinPt (fun vs36 =>
 (ldk (some 3) (List.drop 0 (aggL v10))).bind fun v38 =>
 ((sem_topo_Near n) [v38, x1]).bind fun v39 =>
 (extractV v39 0).bind fun v40 =>
 (extractV v39 1).bind fun v41 =>
 (bin2 Tryd.prog BinOp.eql 3 (ot 66) (oc 1) x1 (vi 1)).bind fun v42 =>
 JoinPt (fun vs43 =>
 (bin2 Tryd.prog BinOp.eql 3 (ot 70) (ot 71) x1 x0).bind fun v45 =>
 JoinPt (fun vs46 =>
 (bin2 Tryd.prog BinOp.eql 23 (ot 75) (Operand.const Go.Value.nilIface) v17 vn).bind fun v48 =>
 (guardV v48 true (some v41)).bind fun v49 =>
 (guardV v48 true ((bin2 Tryd.prog BinOp.eql 23 (ot 78) (Operand.const Go.Value.nilIface) v49 vn).bind fun v50 =>
 some v50)).bind fun v51 =>
 (pickV v48 v51 (vb false)).bind fun v52 =>
 (guardV v52 true (some v16)).bind fun v53 =>
 (guardV v52 true (some (List.getD vs36 0 V.any))).bind fun v54 =>
 (guardV v52 true ((bin2 Tryd.prog BinOp.eql 3 (ot 82) (ot 83) v53 v54).bind fun v55 =>
 some v55)).bind fun v56 =>
 (pickV v52 v56 (vb false)).bind fun v57 =>
 (guardV v57 true (some v40)).bind fun v58 =>
 (guardV v57 true ((lenS [v58]).bind fun v59 =>
 some v59)).bind fun v60 =>
 (guardV v57 true (some (List.getD vs46 0 V.any))).bind fun v61 =>
 (guardV v57 true ((bin2 Tryd.prog BinOp.eql 3 (ot 88) (ot 89) v60 v61).bind fun v62 =>
 some v62)).bind fun v63 =>
 (pickV v57 v63 (vb false)).bind fun v64 =>
 some v64) fun J47 =>
 condV v45 (
 (bin2 Tryd.prog BinOp.sub 3 (ot 73) (oc 1) (List.getD vs43 0 V.any) (vi 1)).bind fun v65 =>
 J47 [v65]) (
 J47 [(List.getD vs43 0 V.any)])) fun J44 =>
 condV v42 (
 (bin2 Tryd.prog BinOp.sub 3 (ot 68) (oc 1) (vi 2) (vi 1)).bind fun v66 =>
 J44 [v66]) (
 J44 [(vi 2)])) fun J37 =>
 condV v35 (
 (scal1 Tryd.prog (Op.unary Go.UnOp.neg) v34).bind fun v67 =>
 (keepO (some (aggL v10)) (some (aggL v10)) (some [v67])).bind J37) (
 (keepO (some (aggL v10)) (some (aggL v10)) (some [v34])).bind J37)))) := by kernel_rfl
noncomputable def t_raillaw4_TopoLine (a0 : Int) (a1 : Int) (a2 : Int) : Option Bool :=
 if ((decide (a0 < 1)) || (decide (6 < a0))) = true then (
 (t_raillaw4_line 7).bind fun r10 =>
 (t_topo_Check r10).bind fun r12 =>
 some (!decide (r12 = 0))) else (
 (t_raillaw4_line a0).bind fun r15 =>
 (t_topo_Check r15).bind fun r19 =>
 if (!decide (r19 = 0)) = true then (
 some false) else (
 (t_topo_Far r15 a1 a2).bind fun r24 =>
 if ((((decide (a1 < 1)) || (decide (a0 < a1))) || (decide (a2 < 1))) || (decide (a0 < a2))) = true then (
 (t_railsame_Error r24.2 1).bind fun r52 =>
 some r52) else (
 (if (decide ((wr (a1 - a2)) < 0)) = true then (
 some (wr (-(wr (a1 - a2))))) else (
 some (wr (a1 - a2)))).bind fun (s57 : Int) =>
 (t_topo_Near r15 a1).bind fun r62 =>
 (if (decide (a1 = 1)) = true then (
 some (wr (2 - 1))) else (
 some (2))).bind fun (s68 : Int) =>
 (if (decide (a1 = a0)) = true then (
 some (wr (s68 - 1))) else (
 some (s68))).bind fun (s74 : Int) =>
 some ((((decide (r24.2 = 0)) && (decide (r62.2 = 0))) && (decide (r24.1 = s57))) && (decide ((List.length r62.1 : Int) = s74))))))
theorem ty_raillaw4_TopoLine {n : Nat} (hn : bigN ≤ n) (a0 : Int) (a1 : Int) (a2 : Int) : Rv (fun x : Bool => (vb x)) (sem_raillaw4_TopoLine n [(vi a0), (vi a1), (vi a2)]) (t_raillaw4_TopoLine a0 a1 a2) := by
  rw [eq_raillaw4_TopoLine]
  unfold t_raillaw4_TopoLine
  refine tb (x := (vb (decide (a0 < 1)))) (d_lss) ?_
  refine tg_f (x := (vi a0)) (fun h2 => rfl) ?_
  refine tg_f (x := (vb (decide (6 < a0)))) (fun h4 => by simp only [gv_t h4]; exact bind_some_eq (d_gtr)) ?_
  refine tb (x := (vb ((decide (a0 < 1)) || (decide (6 < a0))))) (pick_or (fun h9 => gv_t (not_f h9))) ?_
  refine tcond (fun h8 => ?_) (fun h8 => ?_)
  · refine tbo (ty_raillaw4_line hn 7) fun r10 => ?_
    refine tbo (ty_topo_Check hn r10) fun r12 => ?_
    refine tb (x := (vb (!decide (r12 = 0)))) (p_err_neq _) ?_
    exact rf_ret rfl
  · refine tbo (ty_raillaw4_line hn a0) fun r15 => ?_
    refine tb (x := V.agg (T_Topo.c r15)) (by kernel_rfl) ?_
    refine tb (x := (T_Topo.e r15)) (rfl) ?_
    refine tbo (ty_topo_Check hn r15) fun r19 => ?_
    refine tb (x := (vb (!decide (r19 = 0)))) (p_err_neq _) ?_
    refine tcond (fun h21 => ?_) (fun h21 => ?_)
    · exact rf_ret rfl
    · refine tb (x := (T_Topo.e r15)) (rfl) ?_
      refine tbo (ty_topo_Far hn r15 a1 a2) fun r24 => ?_
      refine tb (x := (vi r24.1)) (rfl) ?_
      refine tb (x := (eV r24.2)) (rfl) ?_
      refine tb (x := (vb (decide (a1 < 1)))) (d_lss) ?_
      refine tg_f (x := (vi a1)) (fun h28 => rfl) ?_
      refine tg_f (x := (vi a0)) (fun h30 => rfl) ?_
      refine tg_f (x := (vb (decide (a0 < a1)))) (fun h32 => by simp only [gv_t h32]; exact bind_some_eq (d_gtr)) ?_
      refine tb (x := (vb ((decide (a1 < 1)) || (decide (a0 < a1))))) (pick_or (fun h9 => gv_t (not_f h9))) ?_
      refine tg_f (x := (vi a2)) (fun h36 => rfl) ?_
      refine tg_f (x := (vb (decide (a2 < 1)))) (fun h38 => by simp only [gv_t h38]; exact bind_some_eq (d_lss)) ?_
      refine tb (x := (vb (((decide (a1 < 1)) || (decide (a0 < a1))) || (decide (a2 < 1))))) (pick_or (fun h9 => gv_t (not_f h9))) ?_
      refine tg_f (x := (vi a2)) (fun h42 => rfl) ?_
      refine tg_f (x := (vi a0)) (fun h44 => rfl) ?_
      refine tg_f (x := (vb (decide (a0 < a2)))) (fun h46 => by simp only [gv_t h46]; exact bind_some_eq (d_gtr)) ?_
      refine tb (x := (vb ((((decide (a1 < 1)) || (decide (a0 < a1))) || (decide (a2 < 1))) || (decide (a0 < a2))))) (pick_or (fun h9 => gv_t (not_f h9))) ?_
      refine tcond (fun h50 => ?_) (fun h50 => ?_)
      · refine tbo (ty_railsame_Error r24.2 1) fun r52 => ?_
        exact rf_ret rfl
      · refine tb (x := (vi (wr (a1 - a2)))) (d_sub) ?_
        refine tb (x := (vb (decide ((wr (a1 - a2)) < 0)))) (d_lss) ?_
        refine tjb (mk := fun s57 : Int => [(vi s57)]) (fun J56 => ?_) fun s57 => ?_
        · refine tcond (fun h107 => ?_) (fun h107 => ?_)
          · refine tb (x := (vi (wr (-(wr (a1 - a2)))))) (d_neg) ?_
            refine tkeepO2 ?_ rfl
            refine tsome ?_
            exact rf_j rfl
          · refine tkeepO2 ?_ rfl
            refine tsome ?_
            exact rf_j rfl
        · refine tb (x := (T_Topo.e r15)) (rfl) ?_
          refine tbo (ty_topo_Near hn r15 a1) fun r62 => ?_
          refine tb (x := (V.sl (List.map cI r62.1))) (rfl) ?_
          refine tb (x := (eV r62.2)) (rfl) ?_
          refine tb (x := (vb (decide (a1 = 1)))) (d_eql) ?_
          refine tjb (mk := fun s68 : Int => [(vi s68)]) (fun J67 => ?_) fun s68 => ?_
          · refine tcond (fun h105 => ?_) (fun h105 => ?_)
            · refine tb (x := (vi (wr (2 - 1)))) (d_sub) ?_
              exact rf_j rfl
            · exact rf_j rfl
          · refine tb (x := (vb (decide (a1 = a0)))) (d_eql) ?_
            refine tjb (mk := fun s74 : Int => [(vi s74)]) (fun J73 => ?_) fun s74 => ?_
            · refine tcond (fun h103 => ?_) (fun h103 => ?_)
              · refine tb (x := (vi (wr (s68 - 1)))) (d_sub) ?_
                exact rf_j rfl
              · exact rf_j rfl
            · refine tb (x := (vb (decide (r24.2 = 0)))) (p_err_eql _) ?_
              refine tg (x := (eV r62.2)) (fun h78 => rfl) ?_
              refine tg (x := (vb (decide (r62.2 = 0)))) (fun h80 => by simp only [gv_t h80]; exact bind_some_eq (p_err_eql _)) ?_
              refine tb (x := (vb ((decide (r24.2 = 0)) && (decide (r62.2 = 0))))) (pick_and (fun h9 => gv_t h9)) ?_
              refine tg (x := (vi r24.1)) (fun h84 => rfl) ?_
              refine tg (x := (vi s57)) (fun h86 => rfl) ?_
              refine tg (x := (vb (decide (r24.1 = s57)))) (fun h88 => by simp only [gv_t h88]; exact bind_some_eq (d_eql)) ?_
              refine tb (x := (vb (((decide (r24.2 = 0)) && (decide (r62.2 = 0))) && (decide (r24.1 = s57))))) (pick_and (fun h9 => gv_t h9)) ?_
              refine tg (x := (V.sl (List.map cI r62.1))) (fun h92 => rfl) ?_
              refine tg (x := (vi (List.length r62.1 : Int))) (fun h94 => by simp only [gv_t h94]; exact bind_some_eq (p_len _)) ?_
              refine tg (x := (vi s74)) (fun h97 => rfl) ?_
              refine tg (x := (vb (decide ((List.length r62.1 : Int) = s74)))) (fun h99 => by simp only [gv_t h99]; exact bind_some_eq (d_eql)) ?_
              refine tb (x := (vb ((((decide (r24.2 = 0)) && (decide (r62.2 = 0))) && (decide (r24.1 = s57))) && (decide ((List.length r62.1 : Int) = s74))))) (pick_and (fun h9 => gv_t h9)) ?_
              exact rf_ret rfl

end Go.Proofs.YtpafgegoieakoaaDoor.Ty
