/- What functions do, as functions on plain types, written by a program and checked by the kernel. -/
import Derived.Test.YtjflahgnjmdikaaDoorDenDoor
import Derived.Test.YtjflahgnjmdikaaDoorTy
import Derived.Test.YtjflahgnjmdikaaDoorTyT
import Derived.Test.YtjflahgnjmdikaaDoorTyE
import Derived.Test.YtjflahgnjmdikaaDoorTyO
import Derived.Test.YtjflahgnjmdikaaDoorTyN
import Derived.Test.YtjflahgnjmdikaaDoorTyM
import Derived.Test.YtjflahgnjmdikaaDoorTyR
import Derived.Test.YtjflahgnjmdikaaDoorDen14
import Derived.Test.YtjflahgnjmdikaaDoorClone
namespace Go.Proofs.YtjflahgnjmdikaaDoor.Ty
open Go Go.RowKit Go.Proofs.YtjflahgnjmdikaaDoor.Den
set_option linter.unusedVariables false
set_option maxRecDepth 100000

def T_Spot.val (x : T_Spot) : Go.Value := .agg #[.int .i64 x.Switch, .int .i64 x.Port]
theorem T_Spot.mkey : MKey Tryd.prog 43 T_Spot.val where
  chk e a w := by kernel_rfl
  find vv l a w := find_ask Tryd.underlying43 (fun _ _ => rfl) (fun a b w => equal_of (T_Spot.run_eql a b w)) vv l a w
  sb a := by show Instr.sameBits (9999 + 1) _ _ = true; simp [Instr.sameBits, T_Spot.val]

/-! railpoint/railref1.Spot -/
def an_railref1_Spot : Ann := .seq (.reg 0 [] [] []) (.seq (.reg 0 [] [] []) (.no))
noncomputable def sem_railref1_Spot (n : Nat) (xs : List V) : Option V := if xs.length ≤ 25 then denF Tryd.prog (envOf []) n Tryd.f45 an_railref1_Spot xs else none
theorem ok_railref1_Spot (n : Nat) : SemOk Tryd.prog DW 45 (sem_railref1_Spot n) := fun xs y h => by
  unfold sem_railref1_Spot at h
  split at h
  · rename_i hl
    exact denF_ok stb Tryd.func45 (by kernel_rfl) (envOf_ok semsOk_nil) (by rw [Tryd.ntmps45]; exact hl) h
  · cases h
theorem eq_railref1_Spot (n : Nat) (x0 x1 : V) : sem_railref1_Spot n [x0, x1] =
 (V.cellsO x0).bind fun v1 =>
 (V.cellsO x1).bind fun v2 =>
 (ldk none (List.drop 0 v2)).bind fun v3 =>
 (bin2 Tryd.prog BinOp.geq 3 (ot 6) (oc 1) v3 (vi 1)).bind fun v4 =>
 (guardV v4 true (some V.any)).bind fun v5 =>
 (guardV v4 true ((gate v4 true (ldk none (List.drop 0 v2))).bind fun v6 =>
 some v6)).bind fun v7 =>
 (guardV v4 true (some V.any)).bind fun v8 =>
 (guardV v4 true ((gate v4 true (ldk none (List.drop 0 v1))).bind fun v9 =>
 some v9)).bind fun v10 =>
 (guardV v4 true ((bin2 Tryd.prog BinOp.leq 3 (ot 10) (ot 12) v7 v10).bind fun v11 =>
 some v11)).bind fun v12 =>
 (pickV v4 v12 (vb false)).bind fun v13 =>
 (guardV v13 true (some V.any)).bind fun v14 =>
 (guardV v13 true ((gate v13 true (ldk none (List.drop 1 v2))).bind fun v15 =>
 some v15)).bind fun v16 =>
 (guardV v13 true ((bin2 Tryd.prog BinOp.geq 3 (ot 17) (oc 1) v16 (vi 1)).bind fun v17 =>
 some v17)).bind fun v18 =>
 (pickV v13 v18 (vb false)).bind fun v19 =>
 (guardV v19 true (some V.any)).bind fun v20 =>
 (guardV v19 true ((gate v19 true (ldk none (List.drop 1 v2))).bind fun v21 =>
 some v21)).bind fun v22 =>
 (guardV v19 true ((bin2 Tryd.prog BinOp.leq 3 (ot 22) (oc 4) v22 (vi 4)).bind fun v23 =>
 some v23)).bind fun v24 =>
 (pickV v19 v24 (vb false)).bind fun v25 =>
 some v25 := by kernel_rfl
noncomputable def t_railref1_Spot (a0 : T_Topo) (a1 : T_Spot) : Option Bool :=
 some ((((decide (1 ≤ a1.Switch)) && (decide (a1.Switch ≤ a0.Switches))) && (decide (1 ≤ a1.Port))) && (decide (a1.Port ≤ 4)))
theorem ty_railref1_Spot {n : Nat} (hn : bigN ≤ n) (a0 : T_Topo) (a1 : T_Spot) : Rv (fun x : Bool => (vb x)) (sem_railref1_Spot n [(T_Topo.e a0), (T_Spot.e a1)]) (t_railref1_Spot a0 a1) := by
  rw [eq_railref1_Spot]
  unfold t_railref1_Spot
  refine tb (x := (T_Topo.c a0)) rfl ?_
  refine tb (x := (T_Spot.c a1)) rfl ?_
  refine tb (x := (vi a1.Switch)) (rfl) ?_
  refine tb (x := (vb (decide (1 ≤ a1.Switch)))) (d_geq) ?_
  refine tg (x := V.any) (fun h5 => rfl) ?_
  refine tg (x := (vi a1.Switch)) (fun h7 => bind_some_eq (gate_pos h7 (rfl))) ?_
  refine tg (x := V.any) (fun h10 => rfl) ?_
  refine tg (x := (vi a0.Switches)) (fun h12 => bind_some_eq (gate_pos h12 (rfl))) ?_
  refine tg (x := (vb (decide (a1.Switch ≤ a0.Switches)))) (fun h15 => by simp only [gv_t h15]; exact bind_some_eq (d_leq)) ?_
  refine tb (x := (vb ((decide (1 ≤ a1.Switch)) && (decide (a1.Switch ≤ a0.Switches))))) (pick_and (fun h9 => gv_t h9)) ?_
  refine tg (x := V.any) (fun h19 => rfl) ?_
  refine tg (x := (vi a1.Port)) (fun h21 => bind_some_eq (gate_pos h21 (rfl))) ?_
  refine tg (x := (vb (decide (1 ≤ a1.Port)))) (fun h24 => by simp only [gv_t h24]; exact bind_some_eq (d_geq)) ?_
  refine tb (x := (vb (((decide (1 ≤ a1.Switch)) && (decide (a1.Switch ≤ a0.Switches))) && (decide (1 ≤ a1.Port))))) (pick_and (fun h9 => gv_t h9)) ?_
  refine tg (x := V.any) (fun h28 => rfl) ?_
  refine tg (x := (vi a1.Port)) (fun h30 => bind_some_eq (gate_pos h30 (rfl))) ?_
  refine tg (x := (vb (decide (a1.Port ≤ 4)))) (fun h33 => by simp only [gv_t h33]; exact bind_some_eq (d_leq)) ?_
  refine tb (x := (vb ((((decide (1 ≤ a1.Switch)) && (decide (a1.Switch ≤ a0.Switches))) && (decide (1 ≤ a1.Port))) && (decide (a1.Port ≤ 4))))) (pick_and (fun h9 => gv_t h9)) ?_
  exact rf_ret rfl

/-! railpoint/railref1.Name -/
def an_railref1_Name : Ann := .seq (.reg 0 [] [] []) (.seq (.seq (.reg 0 [] [] []) (.cond none (.seq (.reg 0 [] [] []) (.no)) (.no))) (.seq (.seq (.reg 0 [] [] []) (.blk (some []) (.loop [.s 3] (.seq (.seq (.reg 0 [] [] []) (.cond none (.no) (.no))) (.seq (.blk none (.seq (.reg 0 [] [] []) (.cond none (.seq (.reg 0 [] [] []) (.no)) (.no)))) (.reg 0 [] [] [])))))) (.seq (.reg 0 [] [] []) (.no))))
noncomputable def sem_railref1_Name (n : Nat) (xs : List V) : Option V := if xs.length ≤ 27 then denF Tryd.prog (envOf []) n Tryd.f46 an_railref1_Name xs else none
theorem ok_railref1_Name (n : Nat) : SemOk Tryd.prog DW 46 (sem_railref1_Name n) := fun xs y h => by
  unfold sem_railref1_Name at h
  split at h
  · rename_i hl
    exact denF_ok stb Tryd.func46 (by kernel_rfl) (envOf_ok semsOk_nil) (by rw [Tryd.ntmps46]; exact hl) h
  · cases h
theorem eq_railref1_Name (n : Nat) (x0 : V) : sem_railref1_Name n [x0] =
 (bin2 Tryd.prog BinOp.eql 9 (ot 4) (Operand.const (Go.Value.string (ByteArray.mk #[]))) x0 (V.lit (Go.Value.string (ByteArray.mk #[])))).bind fun v1 =>
 (guardV v1 false (some x0)).bind fun v2 =>
 (guardV v1 false ((lenT [v2]).bind fun v3 =>
 some v3)).bind fun v4 =>
 (guardV v1 false ((bin2 Tryd.prog BinOp.gtr 3 (ot 8) (oc 6) v4 (vi 6)).bind fun v5 =>
 some v5)).bind fun v6 =>
 (pickV v1 (vb true) v6).bind fun v7 =>
 condV v7 (
 some (vb false)) (
 JoinPt (fun vs8 =>
 some (vb true)) fun J9 =>
 (fixN (fun rec10 vs11 =>
 (lenT [x0]).bind fun v12 =>
 (bin2 Tryd.prog BinOp.lss 3 (ot 11) (ot 13) (List.getD vs11 0 V.any) v12).bind fun v13 =>
 condV v13 (
 (scal2 Tryd.prog (Instr.index 9) x0 (List.getD vs11 0 V.any)).bind fun v14 =>
 (bin2 Tryd.prog BinOp.lss 5 (ot 19) (Operand.const (Go.Value.int Go.IntKind.u8 97)) v14 (V.lit (Go.Value.int Go.IntKind.u8 97))).bind fun v15 =>
 (guardV v15 false (some x0)).bind fun v16 =>
 (guardV v15 false (some (List.getD vs11 0 V.any))).bind fun v17 =>
 (guardV v15 false ((scal2 Tryd.prog (Instr.index 9) v16 v17).bind fun v18 =>
 some v18)).bind fun v19 =>
 (guardV v15 false ((bin2 Tryd.prog BinOp.gtr 5 (ot 24) (Operand.const (Go.Value.int Go.IntKind.u8 122)) v19 (V.lit (Go.Value.int Go.IntKind.u8 122))).bind fun v20 =>
 some v20)).bind fun v21 =>
 (pickV v15 (vb true) v21).bind fun v22 =>
 condV v22 (
 some (vb false)) (
 (bin2 Tryd.prog BinOp.add 3 (ot 15) (oc 1) (List.getD vs11 0 V.any) (vi 1)).bind fun v23 =>
 rec10 [v23])) (
 J9 [])) n) [(vi 0)]) := by kernel_rfl
noncomputable def t_railref1_Name (a0 : ByteArray) : Option Bool :=
 if ((decide (a0 = (ByteArray.mk #[]))) || (decide (6 < (a0.size : Int)))) = true then (
 some false) else (
 join (fun (s14 : Unit) =>
 some true) fun j15 =>
 loopU 0 (a0.size : Int) (fun (i23 : Int) (s19 : Unit) k20 =>
 (sidx a0 i23).bind fun r32 =>
 (gd (!(decide (r32 < 97))) default (sidx a0 i23)).bind fun r41 =>
 if ((decide (r32 < 97)) || (decide (122 < r41))) = true then (
 some false) else (
 k20 ())) (fun (i23 : Int) (s19 : Unit) =>
 j15 ()) ())
theorem ty_railref1_Name {n : Nat} (hn : bigN ≤ n) (a0 : ByteArray) : Rv (fun x : Bool => (vb x)) (sem_railref1_Name n [(vt a0)]) (t_railref1_Name a0) := by
  rw [eq_railref1_Name]
  unfold t_railref1_Name
  refine tb (x := (vb (decide (a0 = (ByteArray.mk #[]))))) (p_eql_str) ?_
  refine tg_f (x := (vt a0)) (fun h2 => rfl) ?_
  refine tg_f (x := (vi (a0.size : Int))) (fun h4 => by simp only [gv_t h4]; exact bind_some_eq (rfl)) ?_
  refine tg_f (x := (vb (decide (6 < (a0.size : Int))))) (fun h7 => by simp only [gv_t h7]; exact bind_some_eq (d_gtr)) ?_
  refine tb (x := (vb ((decide (a0 = (ByteArray.mk #[]))) || (decide (6 < (a0.size : Int)))))) (pick_or (fun h9 => gv_t (not_f h9))) ?_
  refine tcond (fun h11 => ?_) (fun h11 => ?_)
  · exact rf_ret rfl
  · refine tjoin (mk := fun s14 : Unit => []) (fun s14 => ?_) fun J13 j15 h16 => ?_
    · exact rf_ret rfl
    · refine rf_loopU (mk := fun (i23 : Int) (s19 : Unit) => [(vi i23)]) hn _ _ () (fun i23 h24 h25 h26 s19 rec17 k20 h21 => ?_) (fun i23 s19 rec28 h27 => ?_)
      · refine tb (x := (vi (a0.size : Int))) (rfl) ?_
        refine tb (x := (vb (decide (i23 < (a0.size : Int))))) (d_lss) ?_
        refine tcond_t h24 ?_
        refine tbo (p_sidx (Tryd.underlying9) a0 i23) fun r32 => ?_
        refine tb (x := (vb (decide (r32 < 97)))) (q_lss) ?_
        refine tg_f (x := (vt a0)) (fun h34 => rfl) ?_
        refine tg_f (x := (vi i23)) (fun h36 => rfl) ?_
        refine tgo_f (fun h38 => by simp only [gv_t h38]; exact rf_bind_some (p_sidx (Tryd.underlying9) a0 i23)) fun r41 => ?_
        refine tg_f (x := (vb (decide (122 < r41)))) (fun h42 => by simp only [gv_t h42]; exact bind_some_eq (q_gtr)) ?_
        refine tb (x := (vb ((decide (r32 < 97)) || (decide (122 < r41))))) (pick_or (fun h9 => gv_t (not_f h9))) ?_
        refine tcond (fun h46 => ?_) (fun h46 => ?_)
        · exact rf_ret rfl
        · refine tb (x := (vi (i23 + 1))) (p_inc h25 h26) ?_
          exact h21 ()
      · refine tb (x := (vi (a0.size : Int))) (rfl) ?_
        refine tb (x := (vb (decide (i23 < (a0.size : Int))))) (d_lss) ?_
        refine tcond_f h27 ?_
        exact h16 ()

/-! railpoint/railref1.Topo -/
def an_railref1_Topo : Ann := .seq (.reg 0 [] [] []) (.seq (.seq (.reg 0 [] [] []) (.cond none (.seq (.reg 0 [] [] []) (.no)) (.no))) (.seq (.seq (.reg 0 [] [] []) (.cond none (.seq (.reg 0 [] [] []) (.no)) (.no))) (.seq (.reg 0 [] [] []) (.seq (.seq (.reg 0 [] [] []) (.blk (some [.kb 1, .r 3 43]) (.loop [.kb 1, .r 3 43, .s 4] (.seq (.seq (.reg 0 [] [] []) (.cond none (.no) (.no))) (.seq (.blk (some [.kb 1, .r 3 43]) (.seq (.reg 0 [] [] []) (.seq (.reg 0 [] [] []) (.seq (.reg 0 [] [] []) (.seq (.seq (.reg 0 [] [] []) (.cond none (.seq (.reg 0 [] [] []) (.no)) (.no))) (.seq (.seq (.reg 0 [] [] []) (.cond none (.seq (.reg 0 [] [] []) (.no)) (.no))) (.seq (.seq (.reg 0 [] [] []) (.blk (some [.kb 1, .kb 5, .r 3 43]) (.loop [.kb 1, .kb 5, .r 3 43, .s 8] (.seq (.seq (.reg 0 [] [] []) (.cond none (.no) (.no))) (.seq (.blk none (.seq (.reg 16 [] [] []) (.cond none (.seq (.reg 0 [] [] []) (.no)) (.no)))) (.reg 0 [] [] [])))))) (.seq (.reg 0 [] [] []) (.reg 0 [] [] []))))))))) (.reg 0 [] [] [])))))) (.seq (.seq (.reg 0 [] [] []) (.blk (some []) (.loop [.kb 1, .r 3 43, .s 9] (.seq (.seq (.reg 0 [] [] []) (.cond none (.no) (.no))) (.seq (.blk (some [.kb 1, .r 3 43]) (.seq (.reg 0 [] [] []) (.seq (.reg 0 [] [] []) (.seq (.seq (.reg 0 [] [] []) (.cond none (.seq (.reg 0 [] [] []) (.no)) (.no))) (.seq (.reg 0 [] [] []) (.seq (.seq (.reg 0 [] [] []) (.cond none (.seq (.reg 0 [] [] []) (.no)) (.no))) (.seq (.seq (.reg 0 [] [] []) (.blk (some [.kb 1, .kb 10, .r 3 43]) (.loop [.kb 1, .kb 10, .r 3 43, .s 13] (.seq (.seq (.reg 0 [] [] []) (.cond none (.no) (.no))) (.seq (.blk none (.seq (.reg 9 [] [] []) (.cond none (.seq (.reg 0 [] [] []) (.no)) (.no)))) (.reg 0 [] [] [])))))) (.seq (.seq (.reg 0 [] [] []) (.blk (some [.kb 1, .kb 10, .r 3 43]) (.loop [.kb 1, .kb 10, .r 3 43, .s 14] (.seq (.seq (.reg 0 [] [] []) (.cond none (.no) (.no))) (.seq (.blk none (.seq (.reg 7 [] [] []) (.cond none (.seq (.reg 0 [] [] []) (.no)) (.no)))) (.reg 0 [] [] [])))))) (.reg 0 [] [] []))))))))) (.reg 0 [] [] [])))))) (.seq (.reg 0 [] [] []) (.no)))))))
noncomputable def sem_railref1_Topo (n : Nat) (xs : List V) : Option V := if xs.length ≤ 151 then denF Tryd.prog (envOf [(45, (sem_railref1_Spot n)), (46, (sem_railref1_Name n))]) n Tryd.f22 an_railref1_Topo xs else none
theorem ok_railref1_Topo (n : Nat) : SemOk Tryd.prog DW 22 (sem_railref1_Topo n) := fun xs y h => by
  unfold sem_railref1_Topo at h
  split at h
  · rename_i hl
    exact denF_ok stb Tryd.func22 (by kernel_rfl) (envOf_ok (semsOk_cons (ok_railref1_Spot n) (semsOk_cons (ok_railref1_Name n) semsOk_nil))) (by rw [Tryd.ntmps22]; exact hl) h
  · cases h
theorem eq_railref1_Topo (n : Nat) (x0 : V) : sem_railref1_Topo n [x0] =
 (V.cellsO x0).bind fun v1 =>
 (ldk none (List.drop 0 v1)).bind fun v2 =>
 (bin2 Tryd.prog BinOp.lss 3 (ot 16) (oc 1) v2 (vi 1)).bind fun v3 =>
 (guardV v3 false (some V.any)).bind fun v4 =>
 (guardV v3 false ((gate v3 false (ldk none (List.drop 0 v1))).bind fun v5 =>
 some v5)).bind fun v6 =>
 (guardV v3 false ((bin2 Tryd.prog BinOp.gtr 3 (ot 20) (oc 6) v6 (vi 6)).bind fun v7 =>
 some v7)).bind fun v8 =>
 (pickV v3 (vb true) v8).bind fun v9 =>
 condV v9 (
 some (vi 1)) (
 (ldk none (List.drop 1 v1)).bind fun v10 =>
 (lenS [v10]).bind fun v11 =>
 (bin2 Tryd.prog BinOp.gtr 3 (ot 25) (oc 200) v11 (vi 200)).bind fun v12 =>
 (guardV v12 false (some V.any)).bind fun v13 =>
 (guardV v12 false ((gate v12 false (ldk none (List.drop 2 v1))).bind fun v14 =>
 some v14)).bind fun v15 =>
 (guardV v12 false ((lenS [v15]).bind fun v16 =>
 some v16)).bind fun v17 =>
 (guardV v12 false ((bin2 Tryd.prog BinOp.gtr 3 (ot 30) (oc 8) v17 (vi 8)).bind fun v18 =>
 some v18)).bind fun v19 =>
 (pickV v12 (vb true) v19).bind fun v20 =>
 condV v20 (
 some (vi 4)) (
 JoinPt (fun vs21 =>
 JoinPt (fun vs23 =>
 some (vi 0)) fun J24 =>
 (keepO (some v1) (some v1) (some [(V.sl (slL (List.getD vs21 0 V.any))), (vi 0)])).bind (fixN (fun rec25 vs26 =>
 (ldk none (List.drop 2 v1)).bind fun v27 =>
 (lenS [v27]).bind fun v28 =>
 (bin2 Tryd.prog BinOp.lss 3 (ot 96) (ot 99) (List.getD vs26 1 V.any) v28).bind fun v29 =>
 condV v29 (
 JoinPt (fun vs30 =>
 (bin2 Tryd.prog BinOp.add 3 (ot 101) (oc 1) (List.getD vs26 1 V.any) (vi 1)).bind fun v32 =>
 (keepO (some v1) (some v1) (some [(V.sl (slL (List.getD vs30 0 V.any))), v32])).bind rec25) fun J31 =>
 (ldk none (List.drop 2 v1)).bind fun v33 =>
 (idxS 3 v33 (List.getD vs26 1 V.any)).bind fun v34 =>
 (ldp (some 3) v34).bind fun v35 =>
 (spliceV [(V.lit (Go.Value.string (ByteArray.mk #[]))), (vi 0), (vi 0)] 0 3 v35).bind fun v36 =>
 (ldk none (List.drop 0 (aggL v36))).bind fun v37 =>
 ((sem_railref1_Name n) [v37]).bind fun v38 =>
 (scal1 Tryd.prog (Op.unary Go.UnOp.not) v38).bind fun v39 =>
 condV v39 (
 some (vi 2)) (
 (ldk (some 3) (List.drop 0 v1)).bind fun v40 =>
 (ldk (some 2) (List.drop 1 (aggL v36))).bind fun v41 =>
 ((sem_railref1_Spot n) [v40, v41]).bind fun v42 =>
 (scal1 Tryd.prog (Op.unary Go.UnOp.not) v42).bind fun v43 =>
 condV v43 (
 some (vi 1)) (
 JoinPt (fun vs44 =>
 JoinPt (fun vs46 =>
 (ldk (some 2) (List.drop 1 (aggL v36))).bind fun v48 =>
 (slcB 2 1 [(vi 0), (vi 0)] [(0, v48)]).bind fun v49 =>
 (appV 2 (slL (List.getD vs46 0 V.any)) v49).bind fun v50 =>
 (keepO (some v1) (some v1) (some [(V.sl (slL v50))])).bind J31) fun J47 =>
 (keepO (some v1) (some v1) (keepO (some (aggL v36)) (some (aggL v36)) (some [(V.sl (slL (List.getD vs44 0 V.any))), (vi 0)]))).bind (fixN (fun rec51 vs52 =>
 (lenS [(V.sl (slL (List.getD vs52 0 V.any)))]).bind fun v53 =>
 (bin2 Tryd.prog BinOp.lss 3 (ot 133) (ot 135) (List.getD vs52 1 V.any) v53).bind fun v54 =>
 condV v54 (
 (idxS 2 (V.sl (slL (List.getD vs52 0 V.any))) (List.getD vs52 1 V.any)).bind fun v55 =>
 (ldp (some 2) v55).bind fun v56 =>
 (ldk (some 2) (List.drop 1 (aggL v36))).bind fun v57 =>
 (bin2 Tryd.prog BinOp.eql 43 (ot 142) (ot 144) v56 v57).bind fun v58 =>
 condV v58 (
 some (vi 7)) (
 (bin2 Tryd.prog BinOp.add 3 (ot 137) (oc 1) (List.getD vs52 1 V.any) (vi 1)).bind fun v59 =>
 (keepO (some v1) (some v1) (keepO (some (aggL v36)) (some (aggL v36)) (some [(V.sl (slL (List.getD vs52 0 V.any))), v59]))).bind rec51)) (
 (keepO (some v1) (some v1) (keepO (some (aggL v36)) (some (aggL v36)) (some [(V.sl (slL (List.getD vs52 0 V.any)))]))).bind J47)) n)) fun J45 =>
 (keepO (some v1) (some v1) (keepO (some (aggL v36)) (some (aggL v36)) (some [(V.sl (slL (List.getD vs26 0 V.any))), (vi 0)]))).bind (fixN (fun rec60 vs61 =>
 (bin2 Tryd.prog BinOp.lss 3 (ot 119) (ot 120) (List.getD vs61 1 V.any) (List.getD vs26 1 V.any)).bind fun v62 =>
 condV v62 (
 (ldk none (List.drop 2 v1)).bind fun v63 =>
 (idxS 3 v63 (List.getD vs61 1 V.any)).bind fun v64 =>
 (ptrF 0 v64).bind fun v65 =>
 (ldp none v65).bind fun v66 =>
 (ldk none (List.drop 0 (aggL v36))).bind fun v67 =>
 (bin2 Tryd.prog BinOp.eql 9 (ot 129) (ot 131) v66 v67).bind fun v68 =>
 condV v68 (
 some (vi 7)) (
 (bin2 Tryd.prog BinOp.add 3 (ot 122) (oc 1) (List.getD vs61 1 V.any) (vi 1)).bind fun v69 =>
 (keepO (some v1) (some v1) (keepO (some (aggL v36)) (some (aggL v36)) (some [(V.sl (slL (List.getD vs61 0 V.any))), v69]))).bind rec60)) (
 (keepO (some v1) (some v1) (keepO (some (aggL v36)) (some (aggL v36)) (some [(V.sl (slL (List.getD vs61 0 V.any)))]))).bind J45)) n)))) (
 J24 [])) n)) fun J22 =>
 (keepO (some v1) (some v1) (some [(V.sl []), (vi 0)])).bind (fixN (fun rec70 vs71 =>
 (ldk none (List.drop 1 v1)).bind fun v72 =>
 (lenS [v72]).bind fun v73 =>
 (bin2 Tryd.prog BinOp.lss 3 (ot 33) (ot 36) (List.getD vs71 1 V.any) v73).bind fun v74 =>
 condV v74 (
 JoinPt (fun vs75 =>
 (bin2 Tryd.prog BinOp.add 3 (ot 38) (oc 1) (List.getD vs71 1 V.any) (vi 1)).bind fun v77 =>
 (keepO (some v1) (some v1) (some [(V.sl (slL (List.getD vs75 0 V.any))), v77])).bind rec70) fun J76 =>
 (ldk none (List.drop 1 v1)).bind fun v78 =>
 (idxS 4 v78 (List.getD vs71 1 V.any)).bind fun v79 =>
 (ldp (some 4) v79).bind fun v80 =>
 (spliceV [(vi 0), (vi 0), (vi 0), (vi 0)] 0 4 v80).bind fun v81 =>
 (ldk (some 3) (List.drop 0 v1)).bind fun v82 =>
 (ldk (some 2) (List.drop 0 (aggL v81))).bind fun v83 =>
 ((sem_railref1_Spot n) [v82, v83]).bind fun v84 =>
 (ldk (some 3) (List.drop 0 v1)).bind fun v85 =>
 (ldk (some 2) (List.drop 2 (aggL v81))).bind fun v86 =>
 ((sem_railref1_Spot n) [v85, v86]).bind fun v87 =>
 (scal1 Tryd.prog (Op.unary Go.UnOp.not) v84).bind fun v88 =>
 (guardV v88 false (some v87)).bind fun v89 =>
 (guardV v88 false ((scal1 Tryd.prog (Op.unary Go.UnOp.not) v89).bind fun v90 =>
 some v90)).bind fun v91 =>
 (pickV v88 (vb true) v91).bind fun v92 =>
 condV v92 (
 some (vi 1)) (
 (ldk (some 2) (List.drop 0 (aggL v81))).bind fun v93 =>
 (ldk (some 2) (List.drop 2 (aggL v81))).bind fun v94 =>
 (bin2 Tryd.prog BinOp.eql 43 (ot 60) (ot 62) v93 v94).bind fun v95 =>
 condV v95 (
 some (vi 7)) (
 JoinPt (fun vs96 =>
 (ldk (some 2) (List.drop 0 (aggL v81))).bind fun v98 =>
 (slcB 2 1 [(vi 0), (vi 0)] [(0, v98)]).bind fun v99 =>
 (appV 2 (slL (List.getD vs96 0 V.any)) v99).bind fun v100 =>
 (ldk (some 2) (List.drop 2 (aggL v81))).bind fun v101 =>
 (slcB 2 1 [(vi 0), (vi 0)] [(0, v101)]).bind fun v102 =>
 (appV 2 (slL v100) v102).bind fun v103 =>
 (keepO (some v1) (some v1) (some [(V.sl (slL v103))])).bind J76) fun J97 =>
 (keepO (some v1) (some v1) (keepO (some (aggL v81)) (some (aggL v81)) (some [(V.sl (slL (List.getD vs71 0 V.any))), (vi 0)]))).bind (fixN (fun rec104 vs105 =>
 (lenS [(V.sl (slL (List.getD vs105 0 V.any)))]).bind fun v106 =>
 (bin2 Tryd.prog BinOp.lss 3 (ot 64) (ot 66) (List.getD vs105 1 V.any) v106).bind fun v107 =>
 condV v107 (
 (idxS 2 (V.sl (slL (List.getD vs105 0 V.any))) (List.getD vs105 1 V.any)).bind fun v108 =>
 (ldp (some 2) v108).bind fun v109 =>
 (ldk (some 2) (List.drop 0 (aggL v81))).bind fun v110 =>
 (bin2 Tryd.prog BinOp.eql 43 (ot 73) (ot 75) v109 v110).bind fun v111 =>
 (guardV v111 false (some (V.sl (slL (List.getD vs105 0 V.any))))).bind fun v112 =>
 (guardV v111 false (some (List.getD vs105 1 V.any))).bind fun v113 =>
 (guardV v111 false ((idxS 2 v112 v113).bind fun v114 =>
 some v114)).bind fun v115 =>
 (guardV v111 false ((ldp (some 2) v115).bind fun v116 =>
 some v116)).bind fun v117 =>
 (guardV v111 false (some V.any)).bind fun v118 =>
 (guardV v111 false ((gate v111 false (ldk (some 2) (List.drop 2 (aggL v81)))).bind fun v119 =>
 some v119)).bind fun v120 =>
 (guardV v111 false ((bin2 Tryd.prog BinOp.eql 43 (ot 81) (ot 83) v117 v120).bind fun v121 =>
 some v121)).bind fun v122 =>
 (pickV v111 (vb true) v122).bind fun v123 =>
 condV v123 (
 some (vi 7)) (
 (bin2 Tryd.prog BinOp.add 3 (ot 68) (oc 1) (List.getD vs105 1 V.any) (vi 1)).bind fun v124 =>
 (keepO (some v1) (some v1) (keepO (some (aggL v81)) (some (aggL v81)) (some [(V.sl (slL (List.getD vs105 0 V.any))), v124]))).bind rec104)) (
 (keepO (some v1) (some v1) (keepO (some (aggL v81)) (some (aggL v81)) (some [(V.sl (slL (List.getD vs105 0 V.any)))]))).bind J97)) n)))) (
 (keepO (some v1) (some v1) (some [(V.sl (slL (List.getD vs71 0 V.any)))])).bind J22)) n))) := by kernel_rfl
noncomputable def t_railref1_Topo (a0 : T_Topo) : Option Int :=
 if ((decide (a0.Switches < 1)) || (decide (6 < a0.Switches))) = true then (
 some 1) else (
 if ((decide (200 < (List.length a0.Links : Int))) || (decide (8 < (List.length a0.Hosts : Int)))) = true then (
 some 4) else (
 join (fun (s32 : (List T_Spot)) =>
 join (fun (s37 : Unit) =>
 some 0) fun j38 =>
 loopI a0.Hosts (fun (i46 : Int) x47 (s42 : (List T_Spot)) k43 =>
 join (fun (s56 : (List T_Spot)) =>
 k43 (s56)) fun j57 =>
 (t_railref1_Name x47.Name).bind fun r66 =>
 if (!r66) = true then (
 some 2) else (
 (t_railref1_Spot a0 x47.At).bind fun r72 =>
 if (!r72) = true then (
 some 1) else (
 join (fun (s77 : (List T_Spot)) =>
 join (fun (s82 : (List T_Spot)) =>
 (app s82 ([x47.At] : (List T_Spot))).bind fun r88 =>
 j57 (r88)) fun j83 =>
 loopI s77 (fun (i95 : Int) x96 (s91 : Unit) k92 =>
 if (decide (x96 = x47.At)) = true then (
 some 7) else (
 k92 ())) (fun (s91 : Unit) =>
 j83 (s77)) ()) fun j78 =>
 loopU 0 i46 (fun (i118 : Int) (s114 : Unit) k115 =>
 (idx a0.Hosts i118).bind fun r127 =>
 if (decide (r127.Name = x47.Name)) = true then (
 some 7) else (
 k115 ())) (fun (i118 : Int) (s114 : Unit) =>
 j78 (s42)) ()))) (fun (s42 : (List T_Spot)) =>
 j38 ()) (s32)) fun j33 =>
 loopI a0.Links (fun (i146 : Int) x147 (s142 : (List T_Spot)) k143 =>
 join (fun (s156 : (List T_Spot)) =>
 k143 (s156)) fun j157 =>
 (t_railref1_Spot a0 x147.A).bind fun r167 =>
 (t_railref1_Spot a0 x147.B).bind fun r171 =>
 if ((!r167) || (!r171)) = true then (
 some 1) else (
 if (decide (x147.A = x147.B)) = true then (
 some 7) else (
 join (fun (s186 : (List T_Spot)) =>
 (app s186 ([x147.A] : (List T_Spot))).bind fun r192 =>
 (app r192 ([x147.B] : (List T_Spot))).bind fun r196 =>
 j157 (r196)) fun j187 =>
 loopI s142 (fun (i203 : Int) x204 (s199 : Unit) k200 =>
 if ((decide (x204 = x147.A)) || (decide (x204 = x147.B))) = true then (
 some 7) else (
 k200 ())) (fun (s199 : Unit) =>
 j187 (s142)) ()))) (fun (s142 : (List T_Spot)) =>
 j33 (s142)) ([])))
theorem ty_railref1_Topo {n : Nat} (hn : bigN ≤ n) (a0 : T_Topo) : Rv (fun x : Int => (vi x)) (sem_railref1_Topo n [(T_Topo.e a0)]) (t_railref1_Topo a0) := by
  rw [eq_railref1_Topo]
  unfold t_railref1_Topo
  refine tb (x := (T_Topo.c a0)) rfl ?_
  refine tb (x := (vi a0.Switches)) (rfl) ?_
  refine tb (x := (vb (decide (a0.Switches < 1)))) (d_lss) ?_
  refine tg_f (x := V.any) (fun h4 => rfl) ?_
  refine tg_f (x := (vi a0.Switches)) (fun h6 => bind_some_eq (gate_pos (not_t h6) (rfl))) ?_
  refine tg_f (x := (vb (decide (6 < a0.Switches)))) (fun h9 => by simp only [gv_t h9]; exact bind_some_eq (d_gtr)) ?_
  refine tb (x := (vb ((decide (a0.Switches < 1)) || (decide (6 < a0.Switches))))) (pick_or (fun h9 => gv_t (not_f h9))) ?_
  refine tcond (fun h13 => ?_) (fun h13 => ?_)
  · exact rf_ret rfl
  · refine tb (x := (V.sl (List.map T_Link.c a0.Links))) (rfl) ?_
    refine tb (x := (vi (List.length a0.Links : Int))) (p_len _) ?_
    refine tb (x := (vb (decide (200 < (List.length a0.Links : Int))))) (d_gtr) ?_
    refine tg_f (x := V.any) (fun h17 => rfl) ?_
    refine tg_f (x := (V.sl (List.map T_Host.c a0.Hosts))) (fun h19 => bind_some_eq (gate_pos (not_t h19) (rfl))) ?_
    refine tg_f (x := (vi (List.length a0.Hosts : Int))) (fun h22 => by simp only [gv_t h22]; exact bind_some_eq (p_len _)) ?_
    refine tg_f (x := (vb (decide (8 < (List.length a0.Hosts : Int))))) (fun h25 => by simp only [gv_t h25]; exact bind_some_eq (d_gtr)) ?_
    refine tb (x := (vb ((decide (200 < (List.length a0.Links : Int))) || (decide (8 < (List.length a0.Hosts : Int)))))) (pick_or (fun h9 => gv_t (not_f h9))) ?_
    refine tcond (fun h29 => ?_) (fun h29 => ?_)
    · exact rf_ret rfl
    · refine tjoin (mk := fun s32 : (List T_Spot) => [(V.sl (List.map T_Spot.c s32))]) (fun s32 => ?_) fun J31 j33 h34 => ?_
      · refine tjoin (mk := fun s37 : Unit => []) (fun s37 => ?_) fun J36 j38 h39 => ?_
        · exact rf_ret rfl
        · refine tkeepO2 ?_ rfl
          refine tsome ?_
          refine rf_loopI (mk := fun (i46 : Int) (s42 : (List T_Spot)) => [(V.sl (List.map T_Spot.c s42)), (vi (i46 : Int))]) hn a0.Hosts (s32) (fun i46 x47 h48 h49 h50 s42 rec40 k43 h44 => ?_) (fun s42 rec136 h135 => ?_)
          · refine tb (x := (V.sl (List.map T_Host.c a0.Hosts))) (rfl) ?_
            refine tb (x := (vi (List.length a0.Hosts : Int))) (p_len _) ?_
            refine tb (x := (vb (decide ((i46 : Int) < (List.length a0.Hosts : Int))))) (d_lss) ?_
            refine tcond_t h50 ?_
            refine tjoin (mk := fun s56 : (List T_Spot) => [(V.sl (List.map T_Spot.c s56))]) (fun s56 => ?_) fun J55 j57 h58 => ?_
            · refine tb (x := (vi ((i46 : Int) + 1))) (p_incN h49) ?_
              refine tkeepO2 ?_ rfl
              refine tsome ?_
              exact h44 (s56)
            · refine tb (x := (V.sl (List.map T_Host.c a0.Hosts))) (rfl) ?_
              refine tb (x := (V.ptr (T_Host.c x47))) (p_idx_at (c := T_Host.c) (fun _ => rfl) h48) ?_
              refine tb (x := (T_Host.e x47)) (rfl) ?_
              refine tb (x := V.agg (T_Host.c x47)) (by kernel_rfl) ?_
              refine tb (x := (vt x47.Name)) (rfl) ?_
              refine tbo (ty_railref1_Name hn x47.Name) fun r66 => ?_
              refine tb (x := (vb (!r66))) (d_not) ?_
              refine tcond (fun h68 => ?_) (fun h68 => ?_)
              · exact rf_ret rfl
              · refine tb (x := (T_Topo.e a0)) (rfl) ?_
                refine tb (x := (T_Spot.e x47.At)) (rfl) ?_
                refine tbo (ty_railref1_Spot hn a0 x47.At) fun r72 => ?_
                refine tb (x := (vb (!r72))) (d_not) ?_
                refine tcond (fun h74 => ?_) (fun h74 => ?_)
                · exact rf_ret rfl
                · refine tjoin (mk := fun s77 : (List T_Spot) => [(V.sl (List.map T_Spot.c s77))]) (fun s77 => ?_) fun J76 j78 h79 => ?_
                  · refine tjoin (mk := fun s82 : (List T_Spot) => [(V.sl (List.map T_Spot.c s82))]) (fun s82 => ?_) fun J81 j83 h84 => ?_
                    · refine tb (x := (T_Spot.e x47.At)) (rfl) ?_
                      refine tb (x := (V.sl (List.map T_Spot.c ([x47.At] : (List T_Spot))))) (by kernel_rfl) ?_
                      refine tbo (p_app (c := T_Spot.c) (fun _ => rfl) s82 ([x47.At] : (List T_Spot))) fun r88 => ?_
                      refine tkeepO2 ?_ rfl
                      refine tsome ?_
                      exact h58 (r88)
                    · refine tkeepO2 ?_ rfl
                      refine tkeepO2 ?_ rfl
                      refine tsome ?_
                      refine rf_loopI (mk := fun (i95 : Int) (s91 : Unit) => [(V.sl (List.map T_Spot.c s77)), (vi (i95 : Int))]) hn s77 () (fun i95 x96 h97 h98 h99 s91 rec89 k92 h93 => ?_) (fun s91 rec109 h108 => ?_)
                      · refine tb (x := (vi (List.length s77 : Int))) (p_len _) ?_
                        refine tb (x := (vb (decide ((i95 : Int) < (List.length s77 : Int))))) (d_lss) ?_
                        refine tcond_t h99 ?_
                        refine tb (x := (V.ptr (T_Spot.c x96))) (p_idx_at (c := T_Spot.c) (fun _ => rfl) h97) ?_
                        refine tb (x := (T_Spot.e x96)) (rfl) ?_
                        refine tb (x := (T_Spot.e x47.At)) (rfl) ?_
                        refine tb (x := (vb (decide (x96 = x47.At)))) (T_Spot.eql x96 x47.At) ?_
                        refine tcond (fun h106 => ?_) (fun h106 => ?_)
                        · exact rf_ret rfl
                        · refine tb (x := (vi ((i95 : Int) + 1))) (p_incN h98) ?_
                          refine tkeepO2 ?_ rfl
                          refine tkeepO2 ?_ rfl
                          refine tsome ?_
                          exact h93 ()
                      · refine tb (x := (vi (List.length s77 : Int))) (p_len _) ?_
                        refine tb (x := (vb (decide ((List.length s77 : Int) < (List.length s77 : Int))))) (d_lss) ?_
                        refine tcond_f h108 ?_
                        refine tkeepO2 ?_ rfl
                        refine tkeepO2 ?_ rfl
                        refine tsome ?_
                        exact h84 (s77)
                  · refine tkeepO2 ?_ rfl
                    refine tkeepO2 ?_ rfl
                    refine tsome ?_
                    refine rf_loopU (mk := fun (i118 : Int) (s114 : Unit) => [(V.sl (List.map T_Spot.c s42)), (vi i118)]) hn _ _ () (fun i118 h119 h120 h121 s114 rec112 k115 h116 => ?_) (fun i118 s114 rec123 h122 => ?_)
                    · refine tb (x := (vb (decide (i118 < (i46 : Int))))) (d_lss) ?_
                      refine tcond_t h119 ?_
                      refine tb (x := (V.sl (List.map T_Host.c a0.Hosts))) (rfl) ?_
                      refine tbo (p_idx (c := T_Host.c) (fun _ => rfl) a0.Hosts i118) fun r127 => ?_
                      refine tb (x := (V.ptr (T_Host.c r127))) (rfl) ?_
                      refine tb (x := (vt r127.Name)) (rfl) ?_
                      refine tb (x := (vt x47.Name)) (rfl) ?_
                      refine tb (x := (vb (decide (r127.Name = x47.Name)))) (p_eql_str) ?_
                      refine tcond (fun h132 => ?_) (fun h132 => ?_)
                      · exact rf_ret rfl
                      · refine tb (x := (vi (i118 + 1))) (p_inc h120 h121) ?_
                        refine tkeepO2 ?_ rfl
                        refine tkeepO2 ?_ rfl
                        refine tsome ?_
                        exact h116 ()
                    · refine tb (x := (vb (decide (i118 < (i46 : Int))))) (d_lss) ?_
                      refine tcond_f h122 ?_
                      refine tkeepO2 ?_ rfl
                      refine tkeepO2 ?_ rfl
                      refine tsome ?_
                      exact h79 (s42)
          · refine tb (x := (V.sl (List.map T_Host.c a0.Hosts))) (rfl) ?_
            refine tb (x := (vi (List.length a0.Hosts : Int))) (p_len _) ?_
            refine tb (x := (vb (decide ((List.length a0.Hosts : Int) < (List.length a0.Hosts : Int))))) (d_lss) ?_
            refine tcond_f h135 ?_
            exact h39 ()
      · refine tkeepO2 ?_ rfl
        refine tsome ?_
        refine rf_loopI (mk := fun (i146 : Int) (s142 : (List T_Spot)) => [(V.sl (List.map T_Spot.c s142)), (vi (i146 : Int))]) hn a0.Links ([]) (fun i146 x147 h148 h149 h150 s142 rec140 k143 h144 => ?_) (fun s142 rec240 h239 => ?_)
        · refine tb (x := (V.sl (List.map T_Link.c a0.Links))) (rfl) ?_
          refine tb (x := (vi (List.length a0.Links : Int))) (p_len _) ?_
          refine tb (x := (vb (decide ((i146 : Int) < (List.length a0.Links : Int))))) (d_lss) ?_
          refine tcond_t h150 ?_
          refine tjoin (mk := fun s156 : (List T_Spot) => [(V.sl (List.map T_Spot.c s156))]) (fun s156 => ?_) fun J155 j157 h158 => ?_
          · refine tb (x := (vi ((i146 : Int) + 1))) (p_incN h149) ?_
            refine tkeepO2 ?_ rfl
            refine tsome ?_
            exact h144 (s156)
          · refine tb (x := (V.sl (List.map T_Link.c a0.Links))) (rfl) ?_
            refine tb (x := (V.ptr (T_Link.c x147))) (p_idx_at (c := T_Link.c) (fun _ => rfl) h148) ?_
            refine tb (x := (T_Link.e x147)) (rfl) ?_
            refine tb (x := V.agg (T_Link.c x147)) (by kernel_rfl) ?_
            refine tb (x := (T_Topo.e a0)) (rfl) ?_
            refine tb (x := (T_Spot.e x147.A)) (rfl) ?_
            refine tbo (ty_railref1_Spot hn a0 x147.A) fun r167 => ?_
            refine tb (x := (T_Topo.e a0)) (rfl) ?_
            refine tb (x := (T_Spot.e x147.B)) (rfl) ?_
            refine tbo (ty_railref1_Spot hn a0 x147.B) fun r171 => ?_
            refine tb (x := (vb (!r167))) (d_not) ?_
            refine tg_f (x := (vb r171)) (fun h173 => rfl) ?_
            refine tg_f (x := (vb (!r171))) (fun h175 => by simp only [gv_t h175]; exact bind_some_eq (d_not)) ?_
            refine tb (x := (vb ((!r167) || (!r171)))) (pick_or (fun h9 => gv_t (not_f h9))) ?_
            refine tcond (fun h179 => ?_) (fun h179 => ?_)
            · exact rf_ret rfl
            · refine tb (x := (T_Spot.e x147.A)) (rfl) ?_
              refine tb (x := (T_Spot.e x147.B)) (rfl) ?_
              refine tb (x := (vb (decide (x147.A = x147.B)))) (T_Spot.eql x147.A x147.B) ?_
              refine tcond (fun h183 => ?_) (fun h183 => ?_)
              · exact rf_ret rfl
              · refine tjoin (mk := fun s186 : (List T_Spot) => [(V.sl (List.map T_Spot.c s186))]) (fun s186 => ?_) fun J185 j187 h188 => ?_
                · refine tb (x := (T_Spot.e x147.A)) (rfl) ?_
                  refine tb (x := (V.sl (List.map T_Spot.c ([x147.A] : (List T_Spot))))) (by kernel_rfl) ?_
                  refine tbo (p_app (c := T_Spot.c) (fun _ => rfl) s186 ([x147.A] : (List T_Spot))) fun r192 => ?_
                  refine tb (x := (T_Spot.e x147.B)) (rfl) ?_
                  refine tb (x := (V.sl (List.map T_Spot.c ([x147.B] : (List T_Spot))))) (by kernel_rfl) ?_
                  refine tbo (p_app (c := T_Spot.c) (fun _ => rfl) r192 ([x147.B] : (List T_Spot))) fun r196 => ?_
                  refine tkeepO2 ?_ rfl
                  refine tsome ?_
                  exact h158 (r196)
                · refine tkeepO2 ?_ rfl
                  refine tkeepO2 ?_ rfl
                  refine tsome ?_
                  refine rf_loopI (mk := fun (i203 : Int) (s199 : Unit) => [(V.sl (List.map T_Spot.c s142)), (vi (i203 : Int))]) hn s142 () (fun i203 x204 h205 h206 h207 s199 rec197 k200 h201 => ?_) (fun s199 rec236 h235 => ?_)
                  · refine tb (x := (vi (List.length s142 : Int))) (p_len _) ?_
                    refine tb (x := (vb (decide ((i203 : Int) < (List.length s142 : Int))))) (d_lss) ?_
                    refine tcond_t h207 ?_
                    refine tb (x := (V.ptr (T_Spot.c x204))) (p_idx_at (c := T_Spot.c) (fun _ => rfl) h205) ?_
                    refine tb (x := (T_Spot.e x204)) (rfl) ?_
                    refine tb (x := (T_Spot.e x147.A)) (rfl) ?_
                    refine tb (x := (vb (decide (x204 = x147.A)))) (T_Spot.eql x204 x147.A) ?_
                    refine tg_f (x := (V.sl (List.map T_Spot.c s142))) (fun h214 => rfl) ?_
                    refine tg_f (x := (vi (i203 : Int))) (fun h216 => rfl) ?_
                    refine tg_f (x := (V.ptr (T_Spot.c x204))) (fun h218 => by simp only [gv_t h218]; exact bind_some_eq (p_idx_at (c := T_Spot.c) (fun _ => rfl) h205)) ?_
                    refine tg_f (x := (T_Spot.e x204)) (fun h221 => by first | exact bind_some_eq (rfl) | (simp only [gv_t h221]; exact bind_some_eq (rfl))) ?_
                    refine tg_f (x := V.any) (fun h224 => rfl) ?_
                    refine tg_f (x := (T_Spot.e x147.B)) (fun h226 => bind_some_eq (gate_pos (not_t h226) (rfl))) ?_
                    refine tg_f (x := (vb (decide (x204 = x147.B)))) (fun h229 => by simp only [gv_t h229]; exact bind_some_eq (T_Spot.eql x204 x147.B)) ?_
                    refine tb (x := (vb ((decide (x204 = x147.A)) || (decide (x204 = x147.B))))) (pick_or (fun h9 => gv_t (not_f h9))) ?_
                    refine tcond (fun h233 => ?_) (fun h233 => ?_)
                    · exact rf_ret rfl
                    · refine tb (x := (vi ((i203 : Int) + 1))) (p_incN h206) ?_
                      refine tkeepO2 ?_ rfl
                      refine tkeepO2 ?_ rfl
                      refine tsome ?_
                      exact h201 ()
                  · refine tb (x := (vi (List.length s142 : Int))) (p_len _) ?_
                    refine tb (x := (vb (decide ((List.length s142 : Int) < (List.length s142 : Int))))) (d_lss) ?_
                    refine tcond_f h235 ?_
                    refine tkeepO2 ?_ rfl
                    refine tkeepO2 ?_ rfl
                    refine tsome ?_
                    exact h188 (s142)
        · refine tb (x := (V.sl (List.map T_Link.c a0.Links))) (rfl) ?_
          refine tb (x := (vi (List.length a0.Links : Int))) (p_len _) ?_
          refine tb (x := (vb (decide ((List.length a0.Links : Int) < (List.length a0.Links : Int))))) (d_lss) ?_
          refine tcond_f h239 ?_
          refine tkeepO2 ?_ rfl
          refine tsome ?_
          exact h34 (s142)

/-! railpoint/railref1.Header -/
def an_railref1_Header : Ann := .seq (.reg 0 [] [] []) (.seq (.reg 0 [] [] []) (.no))
noncomputable def sem_railref1_Header (n : Nat) (xs : List V) : Option V := if xs.length ≤ 9 then denF Tryd.prog (envOf []) n Tryd.f52 an_railref1_Header xs else none
theorem ok_railref1_Header (n : Nat) : SemOk Tryd.prog DW 52 (sem_railref1_Header n) := fun xs y h => by
  unfold sem_railref1_Header at h
  split at h
  · rename_i hl
    exact denF_ok stb Tryd.func52 (by kernel_rfl) (envOf_ok semsOk_nil) (by rw [Tryd.ntmps52]; exact hl) h
  · cases h
theorem eq_railref1_Header (n : Nat) (x0 : V) : sem_railref1_Header n [x0] =
 (bin2 Tryd.prog BinOp.geq 3 (ot 3) (oc 0) x0 (vi 0)).bind fun v1 =>
 (guardV v1 true (some x0)).bind fun v2 =>
 (guardV v1 true ((bin2 Tryd.prog BinOp.lss 3 (ot 6) (oc 16) v2 (vi 16)).bind fun v3 =>
 some v3)).bind fun v4 =>
 (pickV v1 v4 (vb false)).bind fun v5 =>
 some v5 := by kernel_rfl
noncomputable def t_railref1_Header (a0 : Int) : Option Bool :=
 some ((decide (0 ≤ a0)) && (decide (a0 < 16)))
theorem ty_railref1_Header {n : Nat} (hn : bigN ≤ n) (a0 : Int) : Rv (fun x : Bool => (vb x)) (sem_railref1_Header n [(vi a0)]) (t_railref1_Header a0) := by
  rw [eq_railref1_Header]
  unfold t_railref1_Header
  refine tb (x := (vb (decide (0 ≤ a0)))) (d_geq) ?_
  refine tg (x := (vi a0)) (fun h2 => rfl) ?_
  refine tg (x := (vb (decide (a0 < 16)))) (fun h4 => by simp only [gv_t h4]; exact bind_some_eq (d_lss)) ?_
  refine tb (x := (vb ((decide (0 ≤ a0)) && (decide (a0 < 16))))) (pick_and (fun h9 => gv_t h9)) ?_
  exact rf_ret rfl

/-! railpoint/railref1.Cube -/
def an_railref1_Cube : Ann := .seq (.reg 0 [] [] []) (.seq (.reg 0 [] [] []) (.seq (.reg 0 [] [] []) (.seq (.seq (.reg 0 [] [] []) (.cond none (.seq (.reg 0 [] [] []) (.no)) (.no))) (.seq (.seq (.reg 0 [] [] []) (.cond none (.seq (.reg 0 [] [] []) (.no)) (.no))) (.seq (.reg 0 [] [] []) (.no))))))
noncomputable def sem_railref1_Cube (n : Nat) (xs : List V) : Option V := if xs.length ≤ 25 then denF Tryd.prog (envOf [(52, (sem_railref1_Header n))]) n Tryd.f53 an_railref1_Cube xs else none
theorem ok_railref1_Cube (n : Nat) : SemOk Tryd.prog DW 53 (sem_railref1_Cube n) := fun xs y h => by
  unfold sem_railref1_Cube at h
  split at h
  · rename_i hl
    exact denF_ok stb Tryd.func53 (by kernel_rfl) (envOf_ok (semsOk_cons (ok_railref1_Header n) semsOk_nil)) (by rw [Tryd.ntmps53]; exact hl) h
  · cases h
theorem eq_railref1_Cube (n : Nat) (x0 : V) : sem_railref1_Cube n [x0] =
 (V.cellsO x0).bind fun v1 =>
 (ldk none (List.drop 0 v1)).bind fun v2 =>
 ((sem_railref1_Header n) [v2]).bind fun v3 =>
 (ldk none (List.drop 1 v1)).bind fun v4 =>
 ((sem_railref1_Header n) [v4]).bind fun v5 =>
 (scal1 Tryd.prog (Op.unary Go.UnOp.not) v3).bind fun v6 =>
 (guardV v6 false (some v5)).bind fun v7 =>
 (guardV v6 false ((scal1 Tryd.prog (Op.unary Go.UnOp.not) v7).bind fun v8 =>
 some v8)).bind fun v9 =>
 (pickV v6 (vb true) v9).bind fun v10 =>
 condV v10 (
 some (vi 1)) (
 (ldk none (List.drop 1 v1)).bind fun v11 =>
 (ldk none (List.drop 0 v1)).bind fun v12 =>
 (bin2 Tryd.prog BinOp.and 3 (ot 18) (ot 20) v11 v12).bind fun v13 =>
 (ldk none (List.drop 1 v1)).bind fun v14 =>
 (bin2 Tryd.prog BinOp.neq 3 (ot 21) (ot 23) v13 v14).bind fun v15 =>
 condV v15 (
 some (vi 3)) (
 some (vi 0))) := by kernel_rfl
noncomputable def t_railref1_Cube (a0 : T_Cube) : Option Int :=
 (t_railref1_Header a0.Mask).bind fun r4 =>
 (t_railref1_Header a0.Bits).bind fun r7 =>
 if ((!r4) || (!r7)) = true then (
 some 1) else (
 if (decide ((bits .and .i64 a0.Bits a0.Mask) ≠ a0.Bits)) = true then (
 some 3) else (
 some 0))
theorem ty_railref1_Cube {n : Nat} (hn : bigN ≤ n) (a0 : T_Cube) : Rv (fun x : Int => (vi x)) (sem_railref1_Cube n [(T_Cube.e a0)]) (t_railref1_Cube a0) := by
  rw [eq_railref1_Cube]
  unfold t_railref1_Cube
  refine tb (x := (T_Cube.c a0)) rfl ?_
  refine tb (x := (vi a0.Mask)) (rfl) ?_
  refine tbo (ty_railref1_Header hn a0.Mask) fun r4 => ?_
  refine tb (x := (vi a0.Bits)) (rfl) ?_
  refine tbo (ty_railref1_Header hn a0.Bits) fun r7 => ?_
  refine tb (x := (vb (!r4))) (d_not) ?_
  refine tg_f (x := (vb r7)) (fun h9 => rfl) ?_
  refine tg_f (x := (vb (!r7))) (fun h11 => by simp only [gv_t h11]; exact bind_some_eq (d_not)) ?_
  refine tb (x := (vb ((!r4) || (!r7)))) (pick_or (fun h9 => gv_t (not_f h9))) ?_
  refine tcond (fun h15 => ?_) (fun h15 => ?_)
  · exact rf_ret rfl
  · refine tb (x := (vi a0.Bits)) (rfl) ?_
    refine tb (x := (vi a0.Mask)) (rfl) ?_
    refine tb (x := (vi (bits .and .i64 a0.Bits a0.Mask))) (d_and) ?_
    refine tb (x := (vi a0.Bits)) (rfl) ?_
    refine tb (x := (vb (decide ((bits .and .i64 a0.Bits a0.Mask) ≠ a0.Bits)))) (d_neq) ?_
    refine tcond (fun h21 => ?_) (fun h21 => ?_)
    · exact rf_ret rfl
    · exact rf_ret rfl

/-! railpoint/railref1.Rule -/
def an_railref1_Rule : Ann := .seq (.reg 0 [] [] []) (.seq (.reg 0 [] [] []) (.seq (.reg 0 [] [] []) (.seq (.seq (.reg 0 [] [] []) (.cond none (.seq (.reg 0 [] [] []) (.no)) (.no))) (.seq (.reg 0 [] [] []) (.seq (.seq (.reg 0 [] [] []) (.cond none (.seq (.reg 0 [] [] []) (.no)) (.no))) (.seq (.seq (.reg 0 [] [] []) (.cond none (.seq (.reg 0 [] [] []) (.no)) (.no))) (.seq (.reg 0 [] [] []) (.no))))))))
noncomputable def sem_railref1_Rule (n : Nat) (xs : List V) : Option V := if xs.length ≤ 61 then denF Tryd.prog (envOf [(52, (sem_railref1_Header n)), (53, (sem_railref1_Cube n))]) n Tryd.f50 an_railref1_Rule xs else none
theorem ok_railref1_Rule (n : Nat) : SemOk Tryd.prog DW 50 (sem_railref1_Rule n) := fun xs y h => by
  unfold sem_railref1_Rule at h
  split at h
  · rename_i hl
    exact denF_ok stb Tryd.func50 (by kernel_rfl) (envOf_ok (semsOk_cons (ok_railref1_Header n) (semsOk_cons (ok_railref1_Cube n) semsOk_nil))) (by rw [Tryd.ntmps50]; exact hl) h
  · cases h
theorem eq_railref1_Rule (n : Nat) (x0 : V) : sem_railref1_Rule n [x0] =
 (V.cellsO x0).bind fun v1 =>
 (ldk none (List.drop 4 v1)).bind fun v2 =>
 ((sem_railref1_Header n) [v2]).bind fun v3 =>
 (ldk none (List.drop 5 v1)).bind fun v4 =>
 ((sem_railref1_Header n) [v4]).bind fun v5 =>
 (ldk none (List.drop 0 v1)).bind fun v6 =>
 (bin2 Tryd.prog BinOp.lss 3 (ot 13) (oc 0) v6 (vi 0)).bind fun v7 =>
 (guardV v7 false (some V.any)).bind fun v8 =>
 (guardV v7 false ((gate v7 false (ldk none (List.drop 0 v1))).bind fun v9 =>
 some v9)).bind fun v10 =>
 (guardV v7 false ((bin2 Tryd.prog BinOp.gtr 3 (ot 17) (oc 99) v10 (vi 99)).bind fun v11 =>
 some v11)).bind fun v12 =>
 (pickV v7 (vb true) v12).bind fun v13 =>
 (guardV v13 false (some V.any)).bind fun v14 =>
 (guardV v13 false ((gate v13 false (ldk none (List.drop 3 v1))).bind fun v15 =>
 some v15)).bind fun v16 =>
 (guardV v13 false ((bin2 Tryd.prog BinOp.lss 3 (ot 22) (oc 0) v16 (vi 0)).bind fun v17 =>
 some v17)).bind fun v18 =>
 (pickV v13 (vb true) v18).bind fun v19 =>
 (guardV v19 false (some V.any)).bind fun v20 =>
 (guardV v19 false ((gate v19 false (ldk none (List.drop 3 v1))).bind fun v21 =>
 some v21)).bind fun v22 =>
 (guardV v19 false ((bin2 Tryd.prog BinOp.gtr 3 (ot 27) (oc 4) v22 (vi 4)).bind fun v23 =>
 some v23)).bind fun v24 =>
 (pickV v19 (vb true) v24).bind fun v25 =>
 (guardV v25 false (some v3)).bind fun v26 =>
 (guardV v25 false ((scal1 Tryd.prog (Op.unary Go.UnOp.not) v26).bind fun v27 =>
 some v27)).bind fun v28 =>
 (pickV v25 (vb true) v28).bind fun v29 =>
 (guardV v29 false (some v5)).bind fun v30 =>
 (guardV v29 false ((scal1 Tryd.prog (Op.unary Go.UnOp.not) v30).bind fun v31 =>
 some v31)).bind fun v32 =>
 (pickV v29 (vb true) v32).bind fun v33 =>
 condV v33 (
 some (vi 1)) (
 (ldk (some 2) (List.drop 1 v1)).bind fun v34 =>
 ((sem_railref1_Cube n) [v34]).bind fun v35 =>
 (bin2 Tryd.prog BinOp.neq 3 (ot 41) (oc 0) v35 (vi 0)).bind fun v36 =>
 condV v36 (
 some v35) (
 (ldk none (List.drop 4 v1)).bind fun v37 =>
 (ldk none (List.drop 5 v1)).bind fun v38 =>
 ((fillL [(vi 0), (vi 0)] [(0, 1, v37), (1, 1, v38)]).map V.agg).bind fun v39 =>
 ((sem_railref1_Cube n) [v39]).bind fun v40 =>
 (bin2 Tryd.prog BinOp.neq 3 (ot 49) (oc 0) v40 (vi 0)).bind fun v41 =>
 (guardV v41 false (some V.any)).bind fun v42 =>
 (guardV v41 false ((gate v41 false (ldk none (List.drop 3 v1))).bind fun v43 =>
 some v43)).bind fun v44 =>
 (guardV v41 false ((bin2 Tryd.prog BinOp.eql 3 (ot 53) (oc 0) v44 (vi 0)).bind fun v45 =>
 some v45)).bind fun v46 =>
 (guardV v41 false (some v46)).bind fun v47 =>
 (guardV v47 true (some V.any)).bind fun v48 =>
 (guardV v47 true ((gate v47 true (ldk none (List.drop 4 v1))).bind fun v49 =>
 some v49)).bind fun v50 =>
 (guardV v47 true ((bin2 Tryd.prog BinOp.neq 3 (ot 57) (oc 0) v50 (vi 0)).bind fun v51 =>
 some v51)).bind fun v52 =>
 (guardV v41 false ((pickV v47 v52 (vb false)).bind fun v53 =>
 some v53)).bind fun v54 =>
 (pickV v41 (vb true) v54).bind fun v55 =>
 condV v55 (
 some (vi 3)) (
 some (vi 0)))) := by kernel_rfl
noncomputable def t_railref1_Rule (a0 : T_Rule) : Option Int :=
 (t_railref1_Header a0.Set).bind fun r4 =>
 (t_railref1_Header a0.Value).bind fun r7 =>
 if ((((((decide (a0.Prio < 0)) || (decide (99 < a0.Prio))) || (decide (a0.Out < 0))) || (decide (4 < a0.Out))) || (!r4)) || (!r7)) = true then (
 some 1) else (
 (t_railref1_Cube a0.Cube).bind fun r52 =>
 if (decide (r52 ≠ 0)) = true then (
 some r52) else (
 (t_railref1_Cube (T_Cube.mk a0.Set a0.Value)).bind fun r59 =>
 if ((decide (r59 ≠ 0)) || ((decide (a0.Out = 0)) && (decide (a0.Set ≠ 0)))) = true then (
 some 3) else (
 some 0)))
theorem ty_railref1_Rule {n : Nat} (hn : bigN ≤ n) (a0 : T_Rule) : Rv (fun x : Int => (vi x)) (sem_railref1_Rule n [(T_Rule.e a0)]) (t_railref1_Rule a0) := by
  rw [eq_railref1_Rule]
  unfold t_railref1_Rule
  refine tb (x := (T_Rule.c a0)) rfl ?_
  refine tb (x := (vi a0.Set)) (rfl) ?_
  refine tbo (ty_railref1_Header hn a0.Set) fun r4 => ?_
  refine tb (x := (vi a0.Value)) (rfl) ?_
  refine tbo (ty_railref1_Header hn a0.Value) fun r7 => ?_
  refine tb (x := (vi a0.Prio)) (rfl) ?_
  refine tb (x := (vb (decide (a0.Prio < 0)))) (d_lss) ?_
  refine tg_f (x := V.any) (fun h10 => rfl) ?_
  refine tg_f (x := (vi a0.Prio)) (fun h12 => bind_some_eq (gate_pos (not_t h12) (rfl))) ?_
  refine tg_f (x := (vb (decide (99 < a0.Prio)))) (fun h15 => by simp only [gv_t h15]; exact bind_some_eq (d_gtr)) ?_
  refine tb (x := (vb ((decide (a0.Prio < 0)) || (decide (99 < a0.Prio))))) (pick_or (fun h9 => gv_t (not_f h9))) ?_
  refine tg_f (x := V.any) (fun h19 => rfl) ?_
  refine tg_f (x := (vi a0.Out)) (fun h21 => bind_some_eq (gate_pos (not_t h21) (rfl))) ?_
  refine tg_f (x := (vb (decide (a0.Out < 0)))) (fun h24 => by simp only [gv_t h24]; exact bind_some_eq (d_lss)) ?_
  refine tb (x := (vb (((decide (a0.Prio < 0)) || (decide (99 < a0.Prio))) || (decide (a0.Out < 0))))) (pick_or (fun h9 => gv_t (not_f h9))) ?_
  refine tg_f (x := V.any) (fun h28 => rfl) ?_
  refine tg_f (x := (vi a0.Out)) (fun h30 => bind_some_eq (gate_pos (not_t h30) (rfl))) ?_
  refine tg_f (x := (vb (decide (4 < a0.Out)))) (fun h33 => by simp only [gv_t h33]; exact bind_some_eq (d_gtr)) ?_
  refine tb (x := (vb ((((decide (a0.Prio < 0)) || (decide (99 < a0.Prio))) || (decide (a0.Out < 0))) || (decide (4 < a0.Out))))) (pick_or (fun h9 => gv_t (not_f h9))) ?_
  refine tg_f (x := (vb r4)) (fun h37 => rfl) ?_
  refine tg_f (x := (vb (!r4))) (fun h39 => by simp only [gv_t h39]; exact bind_some_eq (d_not)) ?_
  refine tb (x := (vb (((((decide (a0.Prio < 0)) || (decide (99 < a0.Prio))) || (decide (a0.Out < 0))) || (decide (4 < a0.Out))) || (!r4)))) (pick_or (fun h9 => gv_t (not_f h9))) ?_
  refine tg_f (x := (vb r7)) (fun h43 => rfl) ?_
  refine tg_f (x := (vb (!r7))) (fun h45 => by simp only [gv_t h45]; exact bind_some_eq (d_not)) ?_
  refine tb (x := (vb ((((((decide (a0.Prio < 0)) || (decide (99 < a0.Prio))) || (decide (a0.Out < 0))) || (decide (4 < a0.Out))) || (!r4)) || (!r7)))) (pick_or (fun h9 => gv_t (not_f h9))) ?_
  refine tcond (fun h49 => ?_) (fun h49 => ?_)
  · exact rf_ret rfl
  · refine tb (x := (T_Cube.e a0.Cube)) (rfl) ?_
    refine tbo (ty_railref1_Cube hn a0.Cube) fun r52 => ?_
    refine tb (x := (vb (decide (r52 ≠ 0)))) (d_neq) ?_
    refine tcond (fun h54 => ?_) (fun h54 => ?_)
    · exact rf_ret rfl
    · refine tb (x := (vi a0.Set)) (rfl) ?_
      refine tb (x := (vi a0.Value)) (rfl) ?_
      refine tb (x := (T_Cube.e (T_Cube.mk a0.Set a0.Value))) (by kernel_rfl) ?_
      refine tbo (ty_railref1_Cube hn (T_Cube.mk a0.Set a0.Value)) fun r59 => ?_
      refine tb (x := (vb (decide (r59 ≠ 0)))) (d_neq) ?_
      refine tg_f (x := V.any) (fun h61 => rfl) ?_
      refine tg_f (x := (vi a0.Out)) (fun h63 => bind_some_eq (gate_pos (not_t h63) (rfl))) ?_
      refine tg_f (x := (vb (decide (a0.Out = 0)))) (fun h66 => by simp only [gv_t h66]; exact bind_some_eq (d_eql)) ?_
      refine tg_f (x := (vb (decide (a0.Out = 0)))) (fun h69 => congrArg some (gv_t h69)) ?_
      refine tg2 (x := V.any) (fun h71 => rfl) ?_
      refine tg2 (x := (vi a0.Set)) (fun h73 => bind_some_eq (gate_pos2 (and_l h73) (and_r h73) (rfl))) ?_
      refine tg2 (x := (vb (decide (a0.Set ≠ 0)))) (fun h76 => by simp only [gv_t h76]; exact bind_some_eq (d_neq)) ?_
      refine tg_f (x := (vb ((decide (a0.Out = 0)) && (decide (a0.Set ≠ 0))))) (fun h79 => by simp only [gv_t h79]; exact bind_some_eq (pick_and (fun h9 => gv_t (and_i h79 h9)))) ?_
      refine tb (x := (vb ((decide (r59 ≠ 0)) || ((decide (a0.Out = 0)) && (decide (a0.Set ≠ 0)))))) (pick_or (fun h9 => gv_t (not_f h9))) ?_
      refine tcond (fun h83 => ?_) (fun h83 => ?_)
      · exact rf_ret rfl
      · exact rf_ret rfl

/-! railpoint/railref1.Table -/
def an_railref1_Table : Ann := .seq (.reg 0 [] [] []) (.seq (.seq (.reg 0 [] [] []) (.cond none (.seq (.reg 0 [] [] []) (.no)) (.no))) (.seq (.seq (.reg 0 [] [] []) (.blk (some []) (.loop [.s 3] (.seq (.seq (.reg 0 [] [] []) (.cond none (.no) (.no))) (.seq (.blk (some []) (.seq (.reg 0 [] [] []) (.seq (.seq (.reg 0 [] [] []) (.cond none (.seq (.reg 0 [] [] []) (.no)) (.no))) (.seq (.reg 0 [] [] []) (.blk (some []) (.loop [.s 5] (.seq (.seq (.reg 0 [] [] []) (.cond none (.no) (.no))) (.seq (.blk none (.seq (.reg 24 [] [] []) (.cond none (.seq (.reg 0 [] [] []) (.no)) (.no)))) (.reg 0 [] [] []))))))))) (.reg 0 [] [] [])))))) (.seq (.reg 0 [] [] []) (.no))))
noncomputable def sem_railref1_Table (n : Nat) (xs : List V) : Option V := if xs.length ≤ 52 then denF Tryd.prog (envOf [(50, (sem_railref1_Rule n))]) n Tryd.f24 an_railref1_Table xs else none
theorem ok_railref1_Table (n : Nat) : SemOk Tryd.prog DW 24 (sem_railref1_Table n) := fun xs y h => by
  unfold sem_railref1_Table at h
  split at h
  · rename_i hl
    exact denF_ok stb Tryd.func24 (by kernel_rfl) (envOf_ok (semsOk_cons (ok_railref1_Rule n) semsOk_nil)) (by rw [Tryd.ntmps24]; exact hl) h
  · cases h
theorem eq_railref1_Table (n : Nat) (x0 : V) : sem_railref1_Table n [x0] =
 (lenS [x0]).bind fun v1 =>
 (bin2 Tryd.prog BinOp.gtr 3 (ot 7) (oc 12) v1 (vi 12)).bind fun v2 =>
 condV v2 (
 some (vi 4)) (
 JoinPt (fun vs3 =>
 some (vi 0)) fun J4 =>
 (fixN (fun rec5 vs6 =>
 (lenS [x0]).bind fun v7 =>
 (bin2 Tryd.prog BinOp.lss 3 (ot 9) (ot 11) (List.getD vs6 0 V.any) v7).bind fun v8 =>
 condV v8 (
 JoinPt (fun vs9 =>
 (bin2 Tryd.prog BinOp.add 3 (ot 13) (oc 1) (List.getD vs6 0 V.any) (vi 1)).bind fun v11 =>
 rec5 [v11]) fun J10 =>
 (idxS 6 x0 (List.getD vs6 0 V.any)).bind fun v12 =>
 (ldp (some 6) v12).bind fun v13 =>
 ((sem_railref1_Rule n) [v13]).bind fun v14 =>
 (bin2 Tryd.prog BinOp.neq 3 (ot 20) (oc 0) v14 (vi 0)).bind fun v15 =>
 condV v15 (
 some v14) (
 JoinPt (fun vs16 =>
 J10 []) fun J17 =>
 (fixN (fun rec18 vs19 =>
 (bin2 Tryd.prog BinOp.lss 3 (ot 23) (ot 24) (List.getD vs19 0 V.any) (List.getD vs6 0 V.any)).bind fun v20 =>
 condV v20 (
 (idxS 6 x0 (List.getD vs19 0 V.any)).bind fun v21 =>
 (ptrF 0 v21).bind fun v22 =>
 (ldp none v22).bind fun v23 =>
 (idxS 6 x0 (List.getD vs6 0 V.any)).bind fun v24 =>
 (ptrF 0 v24).bind fun v25 =>
 (ldp none v25).bind fun v26 =>
 (bin2 Tryd.prog BinOp.eql 3 (ot 32) (ot 37) v23 v26).bind fun v27 =>
 (guardV v27 true (some x0)).bind fun v28 =>
 (guardV v27 true (some (List.getD vs19 0 V.any))).bind fun v29 =>
 (guardV v27 true ((idxS 6 v28 v29).bind fun v30 =>
 some v30)).bind fun v31 =>
 (guardV v27 true ((ptrF 1 v31).bind fun v32 =>
 some v32)).bind fun v33 =>
 (guardV v27 true ((ldp (some 2) v33).bind fun v34 =>
 some v34)).bind fun v35 =>
 (guardV v27 true (some x0)).bind fun v36 =>
 (guardV v27 true (some (List.getD vs6 0 V.any))).bind fun v37 =>
 (guardV v27 true ((idxS 6 v36 v37).bind fun v38 =>
 some v38)).bind fun v39 =>
 (guardV v27 true ((ptrF 1 v39).bind fun v40 =>
 some v40)).bind fun v41 =>
 (guardV v27 true ((ldp (some 2) v41).bind fun v42 =>
 some v42)).bind fun v43 =>
 (guardV v27 true ((bin2 Tryd.prog BinOp.eql 47 (ot 44) (ot 49) v35 v43).bind fun v44 =>
 some v44)).bind fun v45 =>
 (pickV v27 v45 (vb false)).bind fun v46 =>
 condV v46 (
 some (vi 7)) (
 (bin2 Tryd.prog BinOp.add 3 (ot 26) (oc 1) (List.getD vs19 0 V.any) (vi 1)).bind fun v47 =>
 rec18 [v47])) (
 J17 [])) n) [(vi 0)])) (
 J4 [])) n) [(vi 0)]) := by kernel_rfl
noncomputable def t_railref1_Table (a0 : (List T_Rule)) : Option Int :=
 if (decide (12 < (List.length a0 : Int))) = true then (
 some 4) else (
 join (fun (s6 : Unit) =>
 some 0) fun j7 =>
 loopI a0 (fun (i15 : Int) x16 (s11 : Unit) k12 =>
 join (fun (s24 : Unit) =>
 k12 ()) fun j25 =>
 (t_railref1_Rule x16).bind fun r31 =>
 if (decide (r31 ≠ 0)) = true then (
 some r31) else (
 join (fun (s36 : Unit) =>
 j25 ()) fun j37 =>
 loopU 0 i15 (fun (i45 : Int) (s41 : Unit) k42 =>
 (idx a0 i45).bind fun r53 =>
 (gd (decide (r53.Prio = x16.Prio)) default (idx a0 i45)).bind fun r67 =>
 if ((decide (r53.Prio = x16.Prio)) && (decide (r67.Cube = x16.Cube))) = true then (
 some 7) else (
 k42 ())) (fun (i45 : Int) (s41 : Unit) =>
 j37 ()) ())) (fun (s11 : Unit) =>
 j7 ()) ())
theorem ty_railref1_Table {n : Nat} (hn : bigN ≤ n) (a0 : (List T_Rule)) : Rv (fun x : Int => (vi x)) (sem_railref1_Table n [(V.sl (List.map T_Rule.c a0))]) (t_railref1_Table a0) := by
  rw [eq_railref1_Table]
  unfold t_railref1_Table
  refine tb (x := (vi (List.length a0 : Int))) (p_len _) ?_
  refine tb (x := (vb (decide (12 < (List.length a0 : Int))))) (d_gtr) ?_
  refine tcond (fun h3 => ?_) (fun h3 => ?_)
  · exact rf_ret rfl
  · refine tjoin (mk := fun s6 : Unit => []) (fun s6 => ?_) fun J5 j7 h8 => ?_
    · exact rf_ret rfl
    · refine rf_loopI (mk := fun (i15 : Int) (s11 : Unit) => [(vi (i15 : Int))]) hn a0 () (fun i15 x16 h17 h18 h19 s11 rec9 k12 h13 => ?_) (fun s11 rec95 h94 => ?_)
      · refine tb (x := (vi (List.length a0 : Int))) (p_len _) ?_
        refine tb (x := (vb (decide ((i15 : Int) < (List.length a0 : Int))))) (d_lss) ?_
        refine tcond_t h19 ?_
        refine tjoin (mk := fun s24 : Unit => []) (fun s24 => ?_) fun J23 j25 h26 => ?_
        · refine tb (x := (vi ((i15 : Int) + 1))) (p_incN h18) ?_
          exact h13 ()
        · refine tb (x := (V.ptr (T_Rule.c x16))) (p_idx_at (c := T_Rule.c) (fun _ => rfl) h17) ?_
          refine tb (x := (T_Rule.e x16)) (rfl) ?_
          refine tbo (ty_railref1_Rule hn x16) fun r31 => ?_
          refine tb (x := (vb (decide (r31 ≠ 0)))) (d_neq) ?_
          refine tcond (fun h33 => ?_) (fun h33 => ?_)
          · exact rf_ret rfl
          · refine tjoin (mk := fun s36 : Unit => []) (fun s36 => ?_) fun J35 j37 h38 => ?_
            · exact h26 ()
            · refine rf_loopU (mk := fun (i45 : Int) (s41 : Unit) => [(vi i45)]) hn _ _ () (fun i45 h46 h47 h48 s41 rec39 k42 h43 => ?_) (fun i45 s41 rec50 h49 => ?_)
              · refine tb (x := (vb (decide (i45 < (i15 : Int))))) (d_lss) ?_
                refine tcond_t h46 ?_
                refine tbo (p_idx (c := T_Rule.c) (fun _ => rfl) a0 i45) fun r53 => ?_
                refine tb (x := (V.ptr (T_Rule.c r53))) (rfl) ?_
                refine tb (x := (vi r53.Prio)) (rfl) ?_
                refine tb (x := (V.ptr (T_Rule.c x16))) (p_idx_at (c := T_Rule.c) (fun _ => rfl) h17) ?_
                refine tb (x := (V.ptr (T_Rule.c x16))) (rfl) ?_
                refine tb (x := (vi x16.Prio)) (rfl) ?_
                refine tb (x := (vb (decide (r53.Prio = x16.Prio)))) (d_eql) ?_
                refine tg (x := (V.sl (List.map T_Rule.c a0))) (fun h60 => rfl) ?_
                refine tg (x := (vi i45)) (fun h62 => rfl) ?_
                refine tgo (fun h64 => by simp only [gv_t h64]; exact rf_bind_some (p_idx (c := T_Rule.c) (fun _ => rfl) a0 i45)) fun r67 => ?_
                refine tg (x := (V.ptr (List.drop 1 (T_Rule.c r67)))) (fun h68 => by first | exact bind_some_eq (rfl) | (simp only [gv_t h68]; exact bind_some_eq (rfl))) ?_
                refine tg (x := (T_Cube.e r67.Cube)) (fun h71 => by first | exact bind_some_eq (rfl) | (simp only [gv_t h71]; exact bind_some_eq (rfl))) ?_
                refine tg (x := (V.sl (List.map T_Rule.c a0))) (fun h74 => rfl) ?_
                refine tg (x := (vi (i15 : Int))) (fun h76 => rfl) ?_
                refine tg (x := (V.ptr (T_Rule.c x16))) (fun h78 => by simp only [gv_t h78]; exact bind_some_eq (p_idx_at (c := T_Rule.c) (fun _ => rfl) h17)) ?_
                refine tg (x := (V.ptr (List.drop 1 (T_Rule.c x16)))) (fun h81 => by first | exact bind_some_eq (rfl) | (simp only [gv_t h81]; exact bind_some_eq (rfl))) ?_
                refine tg (x := (T_Cube.e x16.Cube)) (fun h84 => by first | exact bind_some_eq (rfl) | (simp only [gv_t h84]; exact bind_some_eq (rfl))) ?_
                refine tg (x := (vb (decide (r67.Cube = x16.Cube)))) (fun h87 => by simp only [gv_t h87]; exact bind_some_eq (T_Cube.eql r67.Cube x16.Cube)) ?_
                refine tb (x := (vb ((decide (r53.Prio = x16.Prio)) && (decide (r67.Cube = x16.Cube))))) (pick_and (fun h9 => gv_t h9)) ?_
                refine tcond (fun h91 => ?_) (fun h91 => ?_)
                · exact rf_ret rfl
                · refine tb (x := (vi (i45 + 1))) (p_inc h47 h48) ?_
                  exact h43 ()
              · refine tb (x := (vb (decide (i45 < (i15 : Int))))) (d_lss) ?_
                refine tcond_f h49 ?_
                exact h38 ()
      · refine tb (x := (vi (List.length a0 : Int))) (p_len _) ?_
        refine tb (x := (vb (decide ((List.length a0 : Int) < (List.length a0 : Int))))) (d_lss) ?_
        refine tcond_f h94 ?_
        exact h8 ()

/-! railpoint/railref1.Net -/
def an_railref1_Net : Ann := .seq (.reg 0 [] [] []) (.seq (.reg 0 [] [] []) (.seq (.seq (.reg 0 [] [] []) (.cond none (.seq (.reg 0 [] [] []) (.no)) (.no))) (.seq (.seq (.reg 0 [] [] []) (.cond none (.seq (.reg 0 [] [] []) (.no)) (.no))) (.seq (.seq (.reg 0 [] [] []) (.blk (some []) (.loop [.kb 1, .s 4] (.seq (.seq (.reg 0 [] [] []) (.cond none (.no) (.no))) (.seq (.blk none (.seq (.reg 0 [] [] []) (.seq (.reg 0 [] [] []) (.cond none (.seq (.reg 0 [] [] []) (.no)) (.no))))) (.reg 0 [] [] [])))))) (.seq (.reg 0 [] [] []) (.no))))))
noncomputable def sem_railref1_Net (n : Nat) (xs : List V) : Option V := if xs.length ≤ 34 then denF Tryd.prog (envOf [(22, (sem_railref1_Topo n)), (24, (sem_railref1_Table n))]) n Tryd.f5 an_railref1_Net xs else none
theorem ok_railref1_Net (n : Nat) : SemOk Tryd.prog DW 5 (sem_railref1_Net n) := fun xs y h => by
  unfold sem_railref1_Net at h
  split at h
  · rename_i hl
    exact denF_ok stb Tryd.func5 (by kernel_rfl) (envOf_ok (semsOk_cons (ok_railref1_Topo n) (semsOk_cons (ok_railref1_Table n) semsOk_nil))) (by rw [Tryd.ntmps5]; exact hl) h
  · cases h
theorem eq_railref1_Net (n : Nat) (x0 : V) : sem_railref1_Net n [x0] =
 (V.cellsO x0).bind fun v1 =>
 (ldk (some 3) (List.drop 0 v1)).bind fun v2 =>
 ((sem_railref1_Topo n) [v2]).bind fun v3 =>
 (bin2 Tryd.prog BinOp.neq 3 (ot 8) (oc 0) v3 (vi 0)).bind fun v4 =>
 condV v4 (
 some v3) (
 (ldk none (List.drop 3 v1)).bind fun v5 =>
 (lenS [v5]).bind fun v6 =>
 (ldk none (List.drop 0 v1)).bind fun v7 =>
 (bin2 Tryd.prog BinOp.neq 3 (ot 13) (ot 16) v6 v7).bind fun v8 =>
 condV v8 (
 some (vi 3)) (
 JoinPt (fun vs9 =>
 some (vi 0)) fun J10 =>
 (keepO (some v1) (some v1) (some [(vi 0)])).bind (fixN (fun rec11 vs12 =>
 (ldk none (List.drop 3 v1)).bind fun v13 =>
 (lenS [v13]).bind fun v14 =>
 (bin2 Tryd.prog BinOp.lss 3 (ot 18) (ot 21) (List.getD vs12 0 V.any) v14).bind fun v15 =>
 condV v15 (
 (ldk none (List.drop 3 v1)).bind fun v16 =>
 (idxS 1 v16 (List.getD vs12 0 V.any)).bind fun v17 =>
 (ldp none v17).bind fun v18 =>
 ((sem_railref1_Table n) [v18]).bind fun v19 =>
 (bin2 Tryd.prog BinOp.neq 3 (ot 31) (oc 0) v19 (vi 0)).bind fun v20 =>
 condV v20 (
 some v19) (
 (bin2 Tryd.prog BinOp.add 3 (ot 23) (oc 1) (List.getD vs12 0 V.any) (vi 1)).bind fun v21 =>
 (keepO (some v1) (some v1) (some [v21])).bind rec11)) (
 J10 [])) n))) := by kernel_rfl
noncomputable def t_railref1_Net (a0 : T_Net) : Option Int :=
 (t_railref1_Topo a0.Topo).bind fun r4 =>
 if (decide (r4 ≠ 0)) = true then (
 some r4) else (
 if (decide ((List.length a0.Tables : Int) ≠ a0.Topo.Switches)) = true then (
 some 3) else (
 join (fun (s14 : Unit) =>
 some 0) fun j15 =>
 loopI a0.Tables (fun (i23 : Int) x24 (s19 : Unit) k20 =>
 (t_railref1_Table x24).bind fun r35 =>
 if (decide (r35 ≠ 0)) = true then (
 some r35) else (
 k20 ())) (fun (s19 : Unit) =>
 j15 ()) ()))
theorem ty_railref1_Net {n : Nat} (hn : bigN ≤ n) (a0 : T_Net) : Rv (fun x : Int => (vi x)) (sem_railref1_Net n [(T_Net.e a0)]) (t_railref1_Net a0) := by
  rw [eq_railref1_Net]
  unfold t_railref1_Net
  refine tb (x := (T_Net.c a0)) rfl ?_
  refine tb (x := (T_Topo.e a0.Topo)) (rfl) ?_
  refine tbo (ty_railref1_Topo hn a0.Topo) fun r4 => ?_
  refine tb (x := (vb (decide (r4 ≠ 0)))) (d_neq) ?_
  refine tcond (fun h6 => ?_) (fun h6 => ?_)
  · exact rf_ret rfl
  · refine tb (x := (V.sl (List.map (cS T_Rule.c) a0.Tables))) (rfl) ?_
    refine tb (x := (vi (List.length a0.Tables : Int))) (p_len _) ?_
    refine tb (x := (vi a0.Topo.Switches)) (rfl) ?_
    refine tb (x := (vb (decide ((List.length a0.Tables : Int) ≠ a0.Topo.Switches)))) (d_neq) ?_
    refine tcond (fun h11 => ?_) (fun h11 => ?_)
    · exact rf_ret rfl
    · refine tjoin (mk := fun s14 : Unit => []) (fun s14 => ?_) fun J13 j15 h16 => ?_
      · exact rf_ret rfl
      · refine tkeepO2 ?_ rfl
        refine tsome ?_
        refine rf_loopI (mk := fun (i23 : Int) (s19 : Unit) => [(vi (i23 : Int))]) hn a0.Tables () (fun i23 x24 h25 h26 h27 s19 rec17 k20 h21 => ?_) (fun s19 rec40 h39 => ?_)
        · refine tb (x := (V.sl (List.map (cS T_Rule.c) a0.Tables))) (rfl) ?_
          refine tb (x := (vi (List.length a0.Tables : Int))) (p_len _) ?_
          refine tb (x := (vb (decide ((i23 : Int) < (List.length a0.Tables : Int))))) (d_lss) ?_
          refine tcond_t h27 ?_
          refine tb (x := (V.sl (List.map (cS T_Rule.c) a0.Tables))) (rfl) ?_
          refine tb (x := (V.ptr [(V.sl (List.map T_Rule.c x24))])) (p_idx_at (c := (cS T_Rule.c)) (fun _ => rfl) h25) ?_
          refine tb (x := (V.sl (List.map T_Rule.c x24))) (rfl) ?_
          refine tbo (ty_railref1_Table hn x24) fun r35 => ?_
          refine tb (x := (vb (decide (r35 ≠ 0)))) (d_neq) ?_
          refine tcond (fun h37 => ?_) (fun h37 => ?_)
          · exact rf_ret rfl
          · refine tb (x := (vi ((i23 : Int) + 1))) (p_incN h26) ?_
            refine tkeepO2 ?_ rfl
            refine tsome ?_
            exact h21 ()
        · refine tb (x := (V.sl (List.map (cS T_Rule.c) a0.Tables))) (rfl) ?_
          refine tb (x := (vi (List.length a0.Tables : Int))) (p_len _) ?_
          refine tb (x := (vb (decide ((List.length a0.Tables : Int) < (List.length a0.Tables : Int))))) (d_lss) ?_
          refine tcond_f h39 ?_
          exact h16 ()

/-! railpoint/railref1.Has -/
def an_railref1_Has : Ann := .seq (.reg 0 [] [] []) (.seq (.reg 0 [] [] []) (.seq (.reg 0 [] [] []) (.no)))
noncomputable def sem_railref1_Has (n : Nat) (xs : List V) : Option V := if xs.length ≤ 23 then denF Tryd.prog (envOf [(52, (sem_railref1_Header n)), (53, (sem_railref1_Cube n))]) n Tryd.f26 an_railref1_Has xs else none
theorem ok_railref1_Has (n : Nat) : SemOk Tryd.prog DW 26 (sem_railref1_Has n) := fun xs y h => by
  unfold sem_railref1_Has at h
  split at h
  · rename_i hl
    exact denF_ok stb Tryd.func26 (by kernel_rfl) (envOf_ok (semsOk_cons (ok_railref1_Header n) (semsOk_cons (ok_railref1_Cube n) semsOk_nil))) (by rw [Tryd.ntmps26]; exact hl) h
  · cases h
theorem eq_railref1_Has (n : Nat) (x0 x1 : V) : sem_railref1_Has n [x0, x1] =
 (V.cellsO x0).bind fun v1 =>
 ((sem_railref1_Header n) [x1]).bind fun v2 =>
 (guardV v2 true ((ldk (some 2) (List.drop 0 v1)).bind fun v3 =>
 some v3)).bind fun v4 =>
 (guardV v2 true (((sem_railref1_Cube n) [v4]).bind fun v5 =>
 some v5)).bind fun v6 =>
 (guardV v2 true ((bin2 Tryd.prog BinOp.eql 3 (ot 11) (oc 0) v6 (vi 0)).bind fun v7 =>
 some v7)).bind fun v8 =>
 (pickV v2 v8 (vb false)).bind fun v9 =>
 (guardV v9 true (some x1)).bind fun v10 =>
 (guardV v9 true (some V.any)).bind fun v11 =>
 (guardV v9 true ((gate v9 true (ldk none (List.drop 0 v1))).bind fun v12 =>
 some v12)).bind fun v13 =>
 (guardV v9 true ((bin2 Tryd.prog BinOp.and 3 (ot 15) (ot 17) v10 v13).bind fun v14 =>
 some v14)).bind fun v15 =>
 (guardV v9 true (some V.any)).bind fun v16 =>
 (guardV v9 true ((gate v9 true (ldk none (List.drop 1 v1))).bind fun v17 =>
 some v17)).bind fun v18 =>
 (guardV v9 true ((bin2 Tryd.prog BinOp.eql 3 (ot 18) (ot 20) v15 v18).bind fun v19 =>
 some v19)).bind fun v20 =>
 (pickV v9 v20 (vb false)).bind fun v21 =>
 some v21 := by kernel_rfl
noncomputable def t_railref1_Has (a0 : T_Cube) (a1 : Int) : Option Bool :=
 (t_railref1_Header a1).bind fun r3 =>
 (gd r3 default (t_railref1_Cube a0)).bind fun r10 =>
 some ((r3 && (decide (r10 = 0))) && (decide ((bits .and .i64 a1 a0.Mask) = a0.Bits)))
theorem ty_railref1_Has {n : Nat} (hn : bigN ≤ n) (a0 : T_Cube) (a1 : Int) : Rv (fun x : Bool => (vb x)) (sem_railref1_Has n [(T_Cube.e a0), (vi a1)]) (t_railref1_Has a0 a1) := by
  rw [eq_railref1_Has]
  unfold t_railref1_Has
  refine tb (x := (T_Cube.c a0)) rfl ?_
  refine tbo (ty_railref1_Header hn a1) fun r3 => ?_
  refine tg (x := (T_Cube.e a0)) (fun h4 => bind_some_eq (rfl)) ?_
  refine tgo (fun h7 => by simp only [gv_t h7]; exact rf_bind_some (ty_railref1_Cube hn a0)) fun r10 => ?_
  refine tg (x := (vb (decide (r10 = 0)))) (fun h11 => by simp only [gv_t h11]; exact bind_some_eq (d_eql)) ?_
  refine tb (x := (vb (r3 && (decide (r10 = 0))))) (pick_and (fun h9 => gv_t h9)) ?_
  refine tg (x := (vi a1)) (fun h15 => rfl) ?_
  refine tg (x := V.any) (fun h17 => rfl) ?_
  refine tg (x := (vi a0.Mask)) (fun h19 => bind_some_eq (gate_pos h19 (rfl))) ?_
  refine tg (x := (vi (bits .and .i64 a1 a0.Mask))) (fun h22 => by simp only [gv_t h22]; exact bind_some_eq (d_and)) ?_
  refine tg (x := V.any) (fun h25 => rfl) ?_
  refine tg (x := (vi a0.Bits)) (fun h27 => bind_some_eq (gate_pos h27 (rfl))) ?_
  refine tg (x := (vb (decide ((bits .and .i64 a1 a0.Mask) = a0.Bits)))) (fun h30 => by simp only [gv_t h30]; exact bind_some_eq (d_eql)) ?_
  refine tb (x := (vb ((r3 && (decide (r10 = 0))) && (decide ((bits .and .i64 a1 a0.Mask) = a0.Bits))))) (pick_and (fun h9 => gv_t h9)) ?_
  exact rf_ret rfl

/-! railpoint/railref1.above -/
def an_railref1_above : Ann := .seq (.reg 0 [] [] []) (.seq (.seq (.reg 0 [] [] []) (.cond none (.seq (.reg 0 [] [] []) (.no)) (.no))) (.seq (.seq (.reg 0 [] [] []) (.cond none (.seq (.reg 0 [] [] []) (.no)) (.no))) (.seq (.reg 0 [] [] []) (.no))))
noncomputable def sem_railref1_above (n : Nat) (xs : List V) : Option V := if xs.length ≤ 36 then denF Tryd.prog (envOf []) n Tryd.f27 an_railref1_above xs else none
theorem ok_railref1_above (n : Nat) : SemOk Tryd.prog DW 27 (sem_railref1_above n) := fun xs y h => by
  unfold sem_railref1_above at h
  split at h
  · rename_i hl
    exact denF_ok stb Tryd.func27 (by kernel_rfl) (envOf_ok semsOk_nil) (by rw [Tryd.ntmps27]; exact hl) h
  · cases h
theorem eq_railref1_above (n : Nat) (x0 x1 : V) : sem_railref1_above n [x0, x1] =
 (V.cellsO x0).bind fun v1 =>
 (V.cellsO x1).bind fun v2 =>
 (ldk none (List.drop 0 v1)).bind fun v3 =>
 (ldk none (List.drop 0 v2)).bind fun v4 =>
 (bin2 Tryd.prog BinOp.neq 3 (ot 6) (ot 8) v3 v4).bind fun v5 =>
 condV v5 (
 (ldk none (List.drop 0 v1)).bind fun v6 =>
 (ldk none (List.drop 0 v2)).bind fun v7 =>
 (bin2 Tryd.prog BinOp.gtr 3 (ot 11) (ot 13) v6 v7).bind fun v8 =>
 some v8) (
 (ldk none (List.drop 1 v1)).bind fun v9 =>
 (ldk none (List.drop 1 v2)).bind fun v10 =>
 (bin2 Tryd.prog BinOp.neq 3 (ot 17) (ot 20) v9 v10).bind fun v11 =>
 condV v11 (
 (ldk none (List.drop 1 v1)).bind fun v12 =>
 (ldk none (List.drop 1 v2)).bind fun v13 =>
 (bin2 Tryd.prog BinOp.gtr 3 (ot 24) (ot 27) v12 v13).bind fun v14 =>
 some v14) (
 (ldk none (List.drop 2 v1)).bind fun v15 =>
 (ldk none (List.drop 2 v2)).bind fun v16 =>
 (bin2 Tryd.prog BinOp.gtr 3 (ot 31) (ot 34) v15 v16).bind fun v17 =>
 some v17)) := by kernel_rfl
noncomputable def t_railref1_above (a0 : T_Rule) (a1 : T_Rule) : Option Bool :=
 if (decide (a0.Prio ≠ a1.Prio)) = true then (
 some (decide (a1.Prio < a0.Prio))) else (
 if (decide (a0.Cube.Mask ≠ a1.Cube.Mask)) = true then (
 some (decide (a1.Cube.Mask < a0.Cube.Mask))) else (
 some (decide (a1.Cube.Bits < a0.Cube.Bits))))
theorem ty_railref1_above {n : Nat} (hn : bigN ≤ n) (a0 : T_Rule) (a1 : T_Rule) : Rv (fun x : Bool => (vb x)) (sem_railref1_above n [(T_Rule.e a0), (T_Rule.e a1)]) (t_railref1_above a0 a1) := by
  rw [eq_railref1_above]
  unfold t_railref1_above
  refine tb (x := (T_Rule.c a0)) rfl ?_
  refine tb (x := (T_Rule.c a1)) rfl ?_
  refine tb (x := (vi a0.Prio)) (rfl) ?_
  refine tb (x := (vi a1.Prio)) (rfl) ?_
  refine tb (x := (vb (decide (a0.Prio ≠ a1.Prio)))) (d_neq) ?_
  refine tcond (fun h6 => ?_) (fun h6 => ?_)
  · refine tb (x := (vi a0.Prio)) (rfl) ?_
    refine tb (x := (vi a1.Prio)) (rfl) ?_
    refine tb (x := (vb (decide (a1.Prio < a0.Prio)))) (d_gtr) ?_
    exact rf_ret rfl
  · refine tb (x := (vi a0.Cube.Mask)) (rfl) ?_
    refine tb (x := (vi a1.Cube.Mask)) (rfl) ?_
    refine tb (x := (vb (decide (a0.Cube.Mask ≠ a1.Cube.Mask)))) (d_neq) ?_
    refine tcond (fun h13 => ?_) (fun h13 => ?_)
    · refine tb (x := (vi a0.Cube.Mask)) (rfl) ?_
      refine tb (x := (vi a1.Cube.Mask)) (rfl) ?_
      refine tb (x := (vb (decide (a1.Cube.Mask < a0.Cube.Mask)))) (d_gtr) ?_
      exact rf_ret rfl
    · refine tb (x := (vi a0.Cube.Bits)) (rfl) ?_
      refine tb (x := (vi a1.Cube.Bits)) (rfl) ?_
      refine tb (x := (vb (decide (a1.Cube.Bits < a0.Cube.Bits)))) (d_gtr) ?_
      exact rf_ret rfl

/-! railpoint/railref1.Find -/
def an_railref1_Find : Ann := .seq (.reg 0 [] [] []) (.seq (.reg 0 [] [] []) (.seq (.seq (.reg 0 [] [] []) (.blk (some [.s 5]) (.loop [.s 5, .s 6] (.seq (.seq (.reg 0 [] [] []) (.cond none (.no) (.no))) (.seq (.blk none (.seq (.reg 0 [] [] []) (.seq (.reg 16 [] [] []) (.cond (some [.s 5]) (.reg 0 [] [] []) (.no))))) (.reg 0 [] [] [])))))) (.seq (.reg 0 [] [] []) (.no))))
noncomputable def sem_railref1_Find (n : Nat) (xs : List V) : Option V := if xs.length ≤ 39 then denF Tryd.prog (envOf [(26, (sem_railref1_Has n)), (27, (sem_railref1_above n))]) n Tryd.f8 an_railref1_Find xs else none
theorem ok_railref1_Find (n : Nat) : SemOk Tryd.prog DW 8 (sem_railref1_Find n) := fun xs y h => by
  unfold sem_railref1_Find at h
  split at h
  · rename_i hl
    exact denF_ok stb Tryd.func8 (by kernel_rfl) (envOf_ok (semsOk_cons (ok_railref1_Has n) (semsOk_cons (ok_railref1_above n) semsOk_nil))) (by rw [Tryd.ntmps8]; exact hl) h
  · cases h
theorem eq_railref1_Find (n : Nat) (x0 x1 : V) : sem_railref1_Find n [x0, x1] =
 JoinPt (fun vs1 =>
 some (List.getD vs1 0 V.any)) fun J2 =>
 (fixN (fun rec3 vs4 =>
 (lenS [x0]).bind fun v5 =>
 (bin2 Tryd.prog BinOp.lss 3 (ot 8) (ot 10) (List.getD vs4 1 V.any) v5).bind fun v6 =>
 condV v6 (
 (idxS 6 x0 (List.getD vs4 1 V.any)).bind fun v7 =>
 (ptrF 1 v7).bind fun v8 =>
 (ldp (some 2) v8).bind fun v9 =>
 ((sem_railref1_Has n) [v9, x1]).bind fun v10 =>
 (guardV v10 true (some (List.getD vs4 0 V.any))).bind fun v11 =>
 (guardV v10 true ((bin2 Tryd.prog BinOp.lss 3 (ot 23) (oc 0) v11 (vi 0)).bind fun v12 =>
 some v12)).bind fun v13 =>
 (guardV v10 true (some v13)).bind fun v14 =>
 (guardV v14 false (some x0)).bind fun v15 =>
 (guardV v14 false (some (List.getD vs4 1 V.any))).bind fun v16 =>
 (guardV v14 false ((idxS 6 v15 v16).bind fun v17 =>
 some v17)).bind fun v18 =>
 (guardV v14 false ((ldp (some 6) v18).bind fun v19 =>
 some v19)).bind fun v20 =>
 (guardV v14 false (some x0)).bind fun v21 =>
 (guardV v14 false (some (List.getD vs4 0 V.any))).bind fun v22 =>
 (guardV v14 false ((idxS 6 v21 v22).bind fun v23 =>
 some v23)).bind fun v24 =>
 (guardV v14 false ((ldp (some 6) v24).bind fun v25 =>
 some v25)).bind fun v26 =>
 (guardV v14 false (((sem_railref1_above n) [v20, v26]).bind fun v27 =>
 some v27)).bind fun v28 =>
 (guardV v10 true ((pickV v14 (vb true) v28).bind fun v29 =>
 some v29)).bind fun v30 =>
 (pickV v10 v30 (vb false)).bind fun v31 =>
 JoinPt (fun vs32 =>
 (bin2 Tryd.prog BinOp.add 3 (ot 12) (oc 1) (List.getD vs4 1 V.any) (vi 1)).bind fun v34 =>
 rec3 [(List.getD vs32 0 V.any), v34]) fun J33 =>
 condV v31 (
 J33 [(List.getD vs4 1 V.any)]) (
 J33 [(List.getD vs4 0 V.any)])) (
 J2 [(List.getD vs4 0 V.any)])) n) [(vi (-1 : Int)), (vi 0)] := by kernel_rfl
noncomputable def t_railref1_Find (a0 : (List T_Rule)) (a1 : Int) : Option Int :=
 (loopI a0 (fun (i12 : Int) x13 (s8 : Int) k9 =>
 (t_railref1_Has x13.Cube a1).bind fun r23 =>
 (gd (r23 && (!(decide (s8 < 0)))) default (idx a0 s8)).bind fun r48 =>
 (gd (r23 && (!(decide (s8 < 0)))) default (t_railref1_above x13 r48)).bind fun r55 =>
 (if (r23 && ((decide (s8 < 0)) || r55)) = true then (
 some i12) else (
 some (s8))).bind fun (s62 : Int) =>
 k9 (s62)) (fun (s8 : Int) =>
 some (s8)) (-1 : Int)).bind fun (s3 : Int) =>
 some s3
theorem ty_railref1_Find {n : Nat} (hn : bigN ≤ n) (a0 : (List T_Rule)) (a1 : Int) : Rv (fun x : Int => (vi x)) (sem_railref1_Find n [(V.sl (List.map T_Rule.c a0)), (vi a1)]) (t_railref1_Find a0 a1) := by
  rw [eq_railref1_Find]
  unfold t_railref1_Find
  refine tjb (mk := fun s3 : Int => [(vi s3)]) (fun J2 => ?_) fun s3 => ?_
  · refine rf_loopI (mk := fun (i12 : Int) (s8 : Int) => [(vi s8), (vi (i12 : Int))]) hn a0 (-1 : Int) (fun i12 x13 h14 h15 h16 s8 rec6 k9 h10 => ?_) (fun s8 rec68 h67 => ?_)
    · refine tb (x := (vi (List.length a0 : Int))) (p_len _) ?_
      refine tb (x := (vb (decide ((i12 : Int) < (List.length a0 : Int))))) (d_lss) ?_
      refine tcond_t h16 ?_
      refine tb (x := (V.ptr (T_Rule.c x13))) (p_idx_at (c := T_Rule.c) (fun _ => rfl) h14) ?_
      refine tb (x := (V.ptr (List.drop 1 (T_Rule.c x13)))) (rfl) ?_
      refine tb (x := (T_Cube.e x13.Cube)) (rfl) ?_
      refine tbo (ty_railref1_Has hn x13.Cube a1) fun r23 => ?_
      refine tg (x := (vi s8)) (fun h24 => rfl) ?_
      refine tg (x := (vb (decide (s8 < 0)))) (fun h26 => by simp only [gv_t h26]; exact bind_some_eq (d_lss)) ?_
      refine tg (x := (vb (decide (s8 < 0)))) (fun h29 => congrArg some (gv_t h29)) ?_
      refine tg2_f (x := (V.sl (List.map T_Rule.c a0))) (fun h31 => rfl) ?_
      refine tg2_f (x := (vi (i12 : Int))) (fun h33 => rfl) ?_
      refine tg2_f (x := (V.ptr (T_Rule.c x13))) (fun h35 => by simp only [gv_t h35]; exact bind_some_eq (p_idx_at (c := T_Rule.c) (fun _ => rfl) h14)) ?_
      refine tg2_f (x := (T_Rule.e x13)) (fun h38 => by first | exact bind_some_eq (rfl) | (simp only [gv_t h38]; exact bind_some_eq (rfl))) ?_
      refine tg2_f (x := (V.sl (List.map T_Rule.c a0))) (fun h41 => rfl) ?_
      refine tg2_f (x := (vi s8)) (fun h43 => rfl) ?_
      refine tgo2_f (fun h45 => by simp only [gv_t h45]; exact rf_bind_some (p_idx (c := T_Rule.c) (fun _ => rfl) a0 s8)) fun r48 => ?_
      refine tg2_f (x := (T_Rule.e r48)) (fun h49 => by first | exact bind_some_eq (rfl) | (simp only [gv_t h49]; exact bind_some_eq (rfl))) ?_
      refine tgo2_f (fun h52 => by simp only [gv_t h52]; exact rf_bind_some (ty_railref1_above hn x13 r48)) fun r55 => ?_
      refine tg (x := (vb ((decide (s8 < 0)) || r55))) (fun h56 => by simp only [gv_t h56]; exact bind_some_eq (pick_or (fun h9 => gv_t (and_i h56 (not_f h9))))) ?_
      refine tb (x := (vb (r23 && ((decide (s8 < 0)) || r55)))) (pick_and (fun h9 => gv_t h9)) ?_
      refine tjb (mk := fun s62 : Int => [(vi s62)]) (fun J61 => ?_) fun s62 => ?_
      · refine tcond (fun h66 => ?_) (fun h66 => ?_)
        · exact rf_j rfl
        · exact rf_j rfl
      · refine tb (x := (vi ((i12 : Int) + 1))) (p_incN h15) ?_
        exact h10 (s62)
    · refine tb (x := (vi (List.length a0 : Int))) (p_len _) ?_
      refine tb (x := (vb (decide ((List.length a0 : Int) < (List.length a0 : Int))))) (d_lss) ?_
      refine tcond_f h67 ?_
      exact rf_j rfl
  · exact rf_ret rfl

/-! railpoint/railref1.Host -/
def an_railref1_Host : Ann := .seq (.reg 0 [] [] []) (.seq (.seq (.reg 0 [] [] []) (.blk (some []) (.loop [.kb 2, .kb 3, .s 5] (.seq (.seq (.reg 0 [] [] []) (.cond none (.no) (.no))) (.seq (.blk none (.seq (.reg 8 [] [] []) (.cond none (.seq (.reg 0 [] [] []) (.no)) (.no)))) (.reg 0 [] [] [])))))) (.seq (.reg 0 [] [] []) (.no)))
noncomputable def sem_railref1_Host (n : Nat) (xs : List V) : Option V := if xs.length ≤ 22 then denF Tryd.prog (envOf []) n Tryd.f73 an_railref1_Host xs else none
theorem ok_railref1_Host (n : Nat) : SemOk Tryd.prog DW 73 (sem_railref1_Host n) := fun xs y h => by
  unfold sem_railref1_Host at h
  split at h
  · rename_i hl
    exact denF_ok stb Tryd.func73 (by kernel_rfl) (envOf_ok semsOk_nil) (by rw [Tryd.ntmps73]; exact hl) h
  · cases h
theorem eq_railref1_Host (n : Nat) (x0 x1 : V) : sem_railref1_Host n [x0, x1] =
 (V.cellsO x0).bind fun v1 =>
 (V.cellsO x1).bind fun v2 =>
 JoinPt (fun vs3 =>
 some (vi (-1 : Int))) fun J4 =>
 (keepO (some v1) (some v1) (keepO (some v2) (some v2) (some [(vi 0)]))).bind (fixN (fun rec5 vs6 =>
 (ldk none (List.drop 2 v1)).bind fun v7 =>
 (lenS [v7]).bind fun v8 =>
 (bin2 Tryd.prog BinOp.lss 3 (ot 6) (ot 9) (List.getD vs6 0 V.any) v8).bind fun v9 =>
 condV v9 (
 (ldk none (List.drop 2 v1)).bind fun v10 =>
 (idxS 3 v10 (List.getD vs6 0 V.any)).bind fun v11 =>
 (ptrF 1 v11).bind fun v12 =>
 (ldp (some 2) v12).bind fun v13 =>
 (ldk (some 2) (List.drop 0 v2)).bind fun v14 =>
 (bin2 Tryd.prog BinOp.eql 43 (ot 18) (ot 19) v13 v14).bind fun v15 =>
 condV v15 (
 some (List.getD vs6 0 V.any)) (
 (bin2 Tryd.prog BinOp.add 3 (ot 11) (oc 1) (List.getD vs6 0 V.any) (vi 1)).bind fun v16 =>
 (keepO (some v1) (some v1) (keepO (some v2) (some v2) (some [v16]))).bind rec5)) (
 J4 [])) n) := by kernel_rfl
noncomputable def t_railref1_Host (a0 : T_Topo) (a1 : T_Spot) : Option Int :=
 join (fun (s5 : Unit) =>
 some (-1 : Int)) fun j6 =>
 loopI a0.Hosts (fun (i14 : Int) x15 (s10 : Unit) k11 =>
 if (decide (x15.At = a1)) = true then (
 some i14) else (
 k11 ())) (fun (s10 : Unit) =>
 j6 ()) ()
theorem ty_railref1_Host {n : Nat} (hn : bigN ≤ n) (a0 : T_Topo) (a1 : T_Spot) : Rv (fun x : Int => (vi x)) (sem_railref1_Host n [(T_Topo.e a0), (T_Spot.e a1)]) (t_railref1_Host a0 a1) := by
  rw [eq_railref1_Host]
  unfold t_railref1_Host
  refine tb (x := (T_Topo.c a0)) rfl ?_
  refine tb (x := (T_Spot.c a1)) rfl ?_
  refine tjoin (mk := fun s5 : Unit => []) (fun s5 => ?_) fun J4 j6 h7 => ?_
  · exact rf_ret rfl
  · refine tkeepO2 ?_ rfl
    refine tkeepO2 ?_ rfl
    refine tsome ?_
    refine rf_loopI (mk := fun (i14 : Int) (s10 : Unit) => [(vi (i14 : Int))]) hn a0.Hosts () (fun i14 x15 h16 h17 h18 s10 rec8 k11 h12 => ?_) (fun s10 rec31 h30 => ?_)
    · refine tb (x := (V.sl (List.map T_Host.c a0.Hosts))) (rfl) ?_
      refine tb (x := (vi (List.length a0.Hosts : Int))) (p_len _) ?_
      refine tb (x := (vb (decide ((i14 : Int) < (List.length a0.Hosts : Int))))) (d_lss) ?_
      refine tcond_t h18 ?_
      refine tb (x := (V.sl (List.map T_Host.c a0.Hosts))) (rfl) ?_
      refine tb (x := (V.ptr (T_Host.c x15))) (p_idx_at (c := T_Host.c) (fun _ => rfl) h16) ?_
      refine tb (x := (V.ptr (List.drop 1 (T_Host.c x15)))) (rfl) ?_
      refine tb (x := (T_Spot.e x15.At)) (rfl) ?_
      refine tb (x := (T_Spot.e a1)) (rfl) ?_
      refine tb (x := (vb (decide (x15.At = a1)))) (T_Spot.eql x15.At a1) ?_
      refine tcond (fun h28 => ?_) (fun h28 => ?_)
      · exact rf_ret rfl
      · refine tb (x := (vi ((i14 : Int) + 1))) (p_incN h17) ?_
        refine tkeepO2 ?_ rfl
        refine tkeepO2 ?_ rfl
        refine tsome ?_
        exact h12 ()
    · refine tb (x := (V.sl (List.map T_Host.c a0.Hosts))) (rfl) ?_
      refine tb (x := (vi (List.length a0.Hosts : Int))) (p_len _) ?_
      refine tb (x := (vb (decide ((List.length a0.Hosts : Int) < (List.length a0.Hosts : Int))))) (d_lss) ?_
      refine tcond_f h30 ?_
      exact h7 ()

/-! railpoint/railref1.Peer -/
def an_railref1_Peer : Ann := .seq (.reg 0 [] [] []) (.seq (.seq (.reg 0 [] [] []) (.blk (some [.b 4]) (.loop [.kb 2, .kb 3, .b 4, .s 6] (.seq (.seq (.reg 0 [] [] []) (.cond none (.no) (.no))) (.seq (.blk none (.seq (.seq (.reg 8 [] [] []) (.cond none (.seq (.reg 0 [] [] []) (.no)) (.no))) (.seq (.reg 8 [] [] []) (.cond none (.seq (.reg 0 [] [] []) (.no)) (.no))))) (.reg 0 [] [] [])))))) (.seq (.reg 0 [] [] []) (.no)))
noncomputable def sem_railref1_Peer (n : Nat) (xs : List V) : Option V := if xs.length ≤ 43 then denF Tryd.prog (envOf []) n Tryd.f74 an_railref1_Peer xs else none
theorem ok_railref1_Peer (n : Nat) : SemOk Tryd.prog DW 74 (sem_railref1_Peer n) := fun xs y h => by
  unfold sem_railref1_Peer at h
  split at h
  · rename_i hl
    exact denF_ok stb Tryd.func74 (by kernel_rfl) (envOf_ok semsOk_nil) (by rw [Tryd.ntmps74]; exact hl) h
  · cases h
theorem eq_railref1_Peer (n : Nat) (x0 x1 : V) : sem_railref1_Peer n [x0, x1] =
 (V.cellsO x0).bind fun v1 =>
 (V.cellsO x1).bind fun v2 =>
 JoinPt (fun vs3 =>
 ((fillL [(vi 0), (vi 0)] []).map V.agg).bind fun v5 =>
 (spliceV (aggL (List.getD vs3 0 V.any)) 0 2 v5).bind fun v6 =>
 (ldk (some 2) (List.drop 0 (aggL v6))).bind fun v7 =>
 some (V.tup [v7, (vb false)])) fun J4 =>
 (keepO (some v1) (some v1) (keepO (some v2) (some v2) (some [(V.agg [(vi 0), (vi 0)]), (vi 0)]))).bind (fixN (fun rec8 vs9 =>
 (ldk none (List.drop 1 v1)).bind fun v10 =>
 (lenS [v10]).bind fun v11 =>
 (bin2 Tryd.prog BinOp.lss 3 (ot 7) (ot 10) (List.getD vs9 1 V.any) v11).bind fun v12 =>
 condV v12 (
 (ldk none (List.drop 1 v1)).bind fun v13 =>
 (idxS 4 v13 (List.getD vs9 1 V.any)).bind fun v14 =>
 (ptrF 0 v14).bind fun v15 =>
 (ldp (some 2) v15).bind fun v16 =>
 (ldk (some 2) (List.drop 0 v2)).bind fun v17 =>
 (bin2 Tryd.prog BinOp.eql 43 (ot 19) (ot 20) v16 v17).bind fun v18 =>
 condV v18 (
 (ldk none (List.drop 1 v1)).bind fun v19 =>
 (idxS 4 v19 (List.getD vs9 1 V.any)).bind fun v20 =>
 (ptrF 2 v20).bind fun v21 =>
 (ldp (some 2) v21).bind fun v22 =>
 (spliceV (aggL (List.getD vs9 0 V.any)) 0 2 v22).bind fun v23 =>
 (ldk (some 2) (List.drop 0 (aggL v23))).bind fun v24 =>
 some (V.tup [v24, (vb true)])) (
 (ldk none (List.drop 1 v1)).bind fun v25 =>
 (idxS 4 v25 (List.getD vs9 1 V.any)).bind fun v26 =>
 (ptrF 2 v26).bind fun v27 =>
 (ldp (some 2) v27).bind fun v28 =>
 (ldk (some 2) (List.drop 0 v2)).bind fun v29 =>
 (bin2 Tryd.prog BinOp.eql 43 (ot 33) (ot 34) v28 v29).bind fun v30 =>
 condV v30 (
 (ldk none (List.drop 1 v1)).bind fun v31 =>
 (idxS 4 v31 (List.getD vs9 1 V.any)).bind fun v32 =>
 (ptrF 0 v32).bind fun v33 =>
 (ldp (some 2) v33).bind fun v34 =>
 (spliceV (aggL (List.getD vs9 0 V.any)) 0 2 v34).bind fun v35 =>
 (ldk (some 2) (List.drop 0 (aggL v35))).bind fun v36 =>
 some (V.tup [v36, (vb true)])) (
 (bin2 Tryd.prog BinOp.add 3 (ot 12) (oc 1) (List.getD vs9 1 V.any) (vi 1)).bind fun v37 =>
 (keepO (some v1) (some v1) (keepO (some v2) (some v2) (some [(V.agg (aggL (List.getD vs9 0 V.any))), v37]))).bind rec8))) (
 J4 [(V.agg (aggL (List.getD vs9 0 V.any)))])) n) := by kernel_rfl
noncomputable def t_railref1_Peer (a0 : T_Topo) (a1 : T_Spot) : Option (T_Spot × Bool) :=
 join (fun (s5 : T_Spot) =>
 some ((T_Spot.mk 0 0), false)) fun j6 =>
 loopI a0.Links (fun (i17 : Int) x18 (s13 : Unit) k14 =>
 if (decide (x18.A = a1)) = true then (
 some (x18.B, true)) else (
 if (decide (x18.B = a1)) = true then (
 some (x18.A, true)) else (
 k14 ()))) (fun (s13 : Unit) =>
 j6 (T_Spot.mk 0 0)) ()
theorem ty_railref1_Peer {n : Nat} (hn : bigN ≤ n) (a0 : T_Topo) (a1 : T_Spot) : Rv (fun x : (T_Spot × Bool) => V.tup [(T_Spot.e x.1), (vb x.2)]) (sem_railref1_Peer n [(T_Topo.e a0), (T_Spot.e a1)]) (t_railref1_Peer a0 a1) := by
  rw [eq_railref1_Peer]
  unfold t_railref1_Peer
  refine tb (x := (T_Topo.c a0)) rfl ?_
  refine tb (x := (T_Spot.c a1)) rfl ?_
  refine tjoin (mk := fun s5 : T_Spot => [(V.agg (T_Spot.c s5))]) (fun s5 => ?_) fun J4 j6 h7 => ?_
  · refine tb (x := (T_Spot.e (T_Spot.mk 0 0))) (by kernel_rfl) ?_
    refine tb (x := V.agg (T_Spot.c (T_Spot.mk 0 0))) (by kernel_rfl) ?_
    refine tb (x := (T_Spot.e (T_Spot.mk 0 0))) rfl ?_
    exact rf_ret rfl
  · refine tkeepO2 ?_ rfl
    refine tkeepO2 ?_ rfl
    refine tsome ?_
    refine rf_loopI (mk := fun (i17 : Int) (s13 : Unit) => [(V.agg (T_Spot.c (T_Spot.mk 0 0))), (vi (i17 : Int))]) hn a0.Links () (fun i17 x18 h19 h20 h21 s13 rec11 k14 h15 => ?_) (fun s13 rec53 h52 => ?_)
    · refine tb (x := (V.sl (List.map T_Link.c a0.Links))) (rfl) ?_
      refine tb (x := (vi (List.length a0.Links : Int))) (p_len _) ?_
      refine tb (x := (vb (decide ((i17 : Int) < (List.length a0.Links : Int))))) (d_lss) ?_
      refine tcond_t h21 ?_
      refine tb (x := (V.sl (List.map T_Link.c a0.Links))) (rfl) ?_
      refine tb (x := (V.ptr (T_Link.c x18))) (p_idx_at (c := T_Link.c) (fun _ => rfl) h19) ?_
      refine tb (x := (V.ptr (T_Link.c x18))) (rfl) ?_
      refine tb (x := (T_Spot.e x18.A)) (rfl) ?_
      refine tb (x := (T_Spot.e a1)) (rfl) ?_
      refine tb (x := (vb (decide (x18.A = a1)))) (T_Spot.eql x18.A a1) ?_
      refine tcond (fun h31 => ?_) (fun h31 => ?_)
      · refine tb (x := (V.sl (List.map T_Link.c a0.Links))) (rfl) ?_
        refine tb (x := (V.ptr (T_Link.c x18))) (p_idx_at (c := T_Link.c) (fun _ => rfl) h19) ?_
        refine tb (x := (V.ptr (List.drop 2 (T_Link.c x18)))) (rfl) ?_
        refine tb (x := (T_Spot.e x18.B)) (rfl) ?_
        refine tb (x := V.agg (T_Spot.c x18.B)) (by kernel_rfl) ?_
        refine tb (x := (T_Spot.e x18.B)) rfl ?_
        exact rf_ret rfl
      · refine tb (x := (V.sl (List.map T_Link.c a0.Links))) (rfl) ?_
        refine tb (x := (V.ptr (T_Link.c x18))) (p_idx_at (c := T_Link.c) (fun _ => rfl) h19) ?_
        refine tb (x := (V.ptr (List.drop 2 (T_Link.c x18)))) (rfl) ?_
        refine tb (x := (T_Spot.e x18.B)) (rfl) ?_
        refine tb (x := (T_Spot.e a1)) (rfl) ?_
        refine tb (x := (vb (decide (x18.B = a1)))) (T_Spot.eql x18.B a1) ?_
        refine tcond (fun h44 => ?_) (fun h44 => ?_)
        · refine tb (x := (V.sl (List.map T_Link.c a0.Links))) (rfl) ?_
          refine tb (x := (V.ptr (T_Link.c x18))) (p_idx_at (c := T_Link.c) (fun _ => rfl) h19) ?_
          refine tb (x := (V.ptr (T_Link.c x18))) (rfl) ?_
          refine tb (x := (T_Spot.e x18.A)) (rfl) ?_
          refine tb (x := V.agg (T_Spot.c x18.A)) (by kernel_rfl) ?_
          refine tb (x := (T_Spot.e x18.A)) rfl ?_
          exact rf_ret rfl
        · refine tb (x := (vi ((i17 : Int) + 1))) (p_incN h20) ?_
          refine tkeepO2 ?_ rfl
          refine tkeepO2 ?_ rfl
          refine tsome ?_
          exact h15 ()
    · refine tb (x := (V.sl (List.map T_Link.c a0.Links))) (rfl) ?_
      refine tb (x := (vi (List.length a0.Links : Int))) (p_len _) ?_
      refine tb (x := (vb (decide ((List.length a0.Links : Int) < (List.length a0.Links : Int))))) (d_lss) ?_
      refine tcond_f h52 ?_
      exact h7 (T_Spot.mk 0 0)

/-! railpoint/railref1.bit -/
def an_railref1_bit : Ann := .seq (.reg 0 [] [] []) (.seq (.seq (.reg 0 [] [] []) (.blk (some [.s 0]) (.loop [.s 0, .s 5] (.seq (.seq (.reg 0 [] [] []) (.cond none (.no) (.no))) (.seq (.blk none (.reg 0 [] [] [])) (.reg 0 [] [] [])))))) (.seq (.reg 0 [] [] []) (.no)))
noncomputable def sem_railref1_bit (n : Nat) (xs : List V) : Option V := if xs.length ≤ 16 then denF Tryd.prog (envOf []) n Tryd.f96 an_railref1_bit xs else none
theorem ok_railref1_bit (n : Nat) : SemOk Tryd.prog DW 96 (sem_railref1_bit n) := fun xs y h => by
  unfold sem_railref1_bit at h
  split at h
  · rename_i hl
    exact denF_ok stb Tryd.func96 (by kernel_rfl) (envOf_ok semsOk_nil) (by rw [Tryd.ntmps96]; exact hl) h
  · cases h
theorem eq_railref1_bit (n : Nat) (x0 x1 : V) : sem_railref1_bit n [x0, x1] =
 JoinPt (fun vs1 =>
 (bin2 Tryd.prog BinOp.rem 3 (ot 13) (oc 2) (List.getD vs1 0 V.any) (vi 2)).bind fun v3 =>
 (bin2 Tryd.prog BinOp.eql 3 (ot 14) (oc 1) v3 (vi 1)).bind fun v4 =>
 some v4) fun J2 =>
 (fixN (fun rec5 vs6 =>
 (bin2 Tryd.prog BinOp.lss 3 (ot 6) (ot 7) (List.getD vs6 1 V.any) x1).bind fun v7 =>
 condV v7 (
 (bin2 Tryd.prog BinOp.quo 3 (ot 11) (oc 2) (List.getD vs6 0 V.any) (vi 2)).bind fun v8 =>
 (bin2 Tryd.prog BinOp.add 3 (ot 9) (oc 1) (List.getD vs6 1 V.any) (vi 1)).bind fun v9 =>
 rec5 [v8, v9]) (
 J2 [(List.getD vs6 0 V.any)])) n) [x0, (vi 0)] := by kernel_rfl
noncomputable def t_railref1_bit (a0 : Int) (a1 : Int) : Option Bool :=
 (loopU 0 a1 (fun (i14 : Int) (s10 : Int) k11 =>
 k11 (wr (Int.tdiv s10 2))) (fun (i14 : Int) (s10 : Int) =>
 some (s10)) (a0)).bind fun (s3 : Int) =>
 some (decide ((Int.tmod s3 2) = 1))
theorem ty_railref1_bit {n : Nat} (hn : bigN ≤ n) (a0 : Int) (a1 : Int) : Rv (fun x : Bool => (vb x)) (sem_railref1_bit n [(vi a0), (vi a1)]) (t_railref1_bit a0 a1) := by
  rw [eq_railref1_bit]
  unfold t_railref1_bit
  refine tjb (mk := fun s3 : Int => [(vi s3)]) (fun J2 => ?_) fun s3 => ?_
  · refine rf_loopU (mk := fun (i14 : Int) (s10 : Int) => [(vi s10), (vi i14)]) hn _ _ (a0) (fun i14 h15 h16 h17 s10 rec8 k11 h12 => ?_) (fun i14 s10 rec19 h18 => ?_)
    · refine tb (x := (vb (decide (i14 < a1)))) (d_lss) ?_
      refine tcond_t h15 ?_
      refine tb (x := (vi (wr (Int.tdiv s10 2)))) (p_quo (by decide)) ?_
      refine tb (x := (vi (i14 + 1))) (p_inc h16 h17) ?_
      exact h12 (wr (Int.tdiv s10 2))
    · refine tb (x := (vb (decide (i14 < a1)))) (d_lss) ?_
      refine tcond_f h18 ?_
      exact rf_j rfl
  · refine tb (x := (vi (Int.tmod s3 2))) (p_rem (by decide)) ?_
    refine tb (x := (vb (decide ((Int.tmod s3 2) = 1)))) (d_eql) ?_
    exact rf_ret rfl

/-! railpoint/railref1.Turned -/
def an_railref1_Turned : Ann := .seq (.reg 0 [] [] []) (.seq (.reg 0 [] [] []) (.seq (.seq (.reg 0 [] [] []) (.blk (some [.s 5]) (.loop [.kb 2, .s 5, .s 6] (.seq (.seq (.reg 0 [] [] []) (.cond none (.no) (.no))) (.seq (.blk none (.seq (.reg 0 [] [] []) (.seq (.reg 0 [] [] []) (.seq (.reg 0 [] [] []) (.seq (.reg 0 [] [] []) (.seq (.reg 0 [] [] []) (.cond (some [.kb 2, .s 5]) (.reg 0 [] [] []) (.no)))))))) (.reg 0 [] [] [])))))) (.seq (.reg 0 [] [] []) (.no))))
noncomputable def sem_railref1_Turned (n : Nat) (xs : List V) : Option V := if xs.length ≤ 41 then denF Tryd.prog (envOf [(96, (sem_railref1_bit n))]) n Tryd.f75 an_railref1_Turned xs else none
theorem ok_railref1_Turned (n : Nat) : SemOk Tryd.prog DW 75 (sem_railref1_Turned n) := fun xs y h => by
  unfold sem_railref1_Turned at h
  split at h
  · rename_i hl
    exact denF_ok stb Tryd.func75 (by kernel_rfl) (envOf_ok (semsOk_cons (ok_railref1_bit n) semsOk_nil)) (by rw [Tryd.ntmps75]; exact hl) h
  · cases h
theorem eq_railref1_Turned (n : Nat) (x0 x1 : V) : sem_railref1_Turned n [x0, x1] =
 (V.cellsO x0).bind fun v1 =>
 JoinPt (fun vs2 =>
 some (List.getD vs2 0 V.any)) fun J3 =>
 (keepO (some v1) (some v1) (some [(vi 0), (vi 3)])).bind (fixN (fun rec4 vs5 =>
 (bin2 Tryd.prog BinOp.geq 3 (ot 10) (oc 0) (List.getD vs5 1 V.any) (vi 0)).bind fun v6 =>
 condV v6 (
 (ldk none (List.drop 4 v1)).bind fun v7 =>
 ((sem_railref1_bit n) [v7, (List.getD vs5 1 V.any)]).bind fun v8 =>
 (ldk none (List.drop 5 v1)).bind fun v9 =>
 ((sem_railref1_bit n) [v9, (List.getD vs5 1 V.any)]).bind fun v10 =>
 ((sem_railref1_bit n) [x1, (List.getD vs5 1 V.any)]).bind fun v11 =>
 (bin2 Tryd.prog BinOp.mul 3 (ot 25) (oc 2) (List.getD vs5 0 V.any) (vi 2)).bind fun v12 =>
 (guardV v8 true (some v10)).bind fun v13 =>
 (pickV v8 v13 (vb false)).bind fun v14 =>
 (guardV v14 false (some v8)).bind fun v15 =>
 (guardV v14 false ((scal1 Tryd.prog (Op.unary Go.UnOp.not) v15).bind fun v16 =>
 some v16)).bind fun v17 =>
 (guardV v14 false (some v17)).bind fun v18 =>
 (guardV v18 true (some v11)).bind fun v19 =>
 (guardV v14 false ((pickV v18 v19 (vb false)).bind fun v20 =>
 some v20)).bind fun v21 =>
 (pickV v14 (vb true) v21).bind fun v22 =>
 JoinPt (fun vs23 =>
 (bin2 Tryd.prog BinOp.sub 3 (ot 12) (oc 1) (List.getD vs5 1 V.any) (vi 1)).bind fun v25 =>
 (keepO (some v1) (some v1) (some [(List.getD vs23 0 V.any), v25])).bind rec4) fun J24 =>
 condV v22 (
 (bin2 Tryd.prog BinOp.add 3 (ot 38) (oc 1) v12 (vi 1)).bind fun v26 =>
 (keepO (some v1) (some v1) (some [v26])).bind J24) (
 (keepO (some v1) (some v1) (some [v12])).bind J24)) (
 J3 [(List.getD vs5 0 V.any)])) n) := by kernel_rfl
noncomputable def t_railref1_Turned (a0 : T_Rule) (a1 : Int) : Option Int :=
 (tfix (fun k10 (s9 : (Int × Int)) =>
 if (decide (0 ≤ s9.2)) = true then (
 (t_railref1_bit a0.Set s9.2).bind fun r18 =>
 (t_railref1_bit a0.Value s9.2).bind fun r21 =>
 (t_railref1_bit a1 s9.2).bind fun r23 =>
 (if ((r18 && r21) || ((!r18) && r23)) = true then (
 some (wr ((wr (s9.1 * 2)) + 1))) else (
 some (wr (s9.1 * 2)))).bind fun (s43 : Int) =>
 k10 (s43, (wr (s9.2 - 1)))) else (
 some (s9.1))) bigN (0, 3)).bind fun (s4 : Int) =>
 some s4
theorem ty_railref1_Turned {n : Nat} (hn : bigN ≤ n) (a0 : T_Rule) (a1 : Int) : Rv (fun x : Int => (vi x)) (sem_railref1_Turned n [(T_Rule.e a0), (vi a1)]) (t_railref1_Turned a0 a1) := by
  rw [eq_railref1_Turned]
  unfold t_railref1_Turned
  refine tb (x := (T_Rule.c a0)) rfl ?_
  refine tjb (mk := fun s4 : Int => [(vi s4)]) (fun J3 => ?_) fun s4 => ?_
  · refine tkeepO2 ?_ rfl
    refine tsome ?_
    refine rf_fixN (mk := fun (s9 : (Int × Int)) => [(vi s9.1), (vi s9.2)]) hn (0, 3) (fun rec7 k10 h11 s9 => ?_)
    refine tb (x := (vb (decide (0 ≤ s9.2)))) (d_geq) ?_
    refine tcond (fun h15 => ?_) (fun h15 => ?_)
    · refine tb (x := (vi a0.Set)) (rfl) ?_
      refine tbo (ty_railref1_bit hn a0.Set s9.2) fun r18 => ?_
      refine tb (x := (vi a0.Value)) (rfl) ?_
      refine tbo (ty_railref1_bit hn a0.Value s9.2) fun r21 => ?_
      refine tbo (ty_railref1_bit hn a1 s9.2) fun r23 => ?_
      refine tb (x := (vi (wr (s9.1 * 2)))) (d_mul) ?_
      refine tg (x := (vb r21)) (fun h25 => rfl) ?_
      refine tb (x := (vb (r18 && r21))) (pick_and (fun h9 => gv_t h9)) ?_
      refine tg_f (x := (vb r18)) (fun h28 => rfl) ?_
      refine tg_f (x := (vb (!r18))) (fun h30 => by simp only [gv_t h30]; exact bind_some_eq (d_not)) ?_
      refine tg_f (x := (vb (!r18))) (fun h33 => congrArg some (gv_t h33)) ?_
      refine tg2 (x := (vb r23)) (fun h35 => rfl) ?_
      refine tg_f (x := (vb ((!r18) && r23))) (fun h37 => by simp only [gv_t h37]; exact bind_some_eq (pick_and (fun h9 => gv_t (and_i h37 h9)))) ?_
      refine tb (x := (vb ((r18 && r21) || ((!r18) && r23)))) (pick_or (fun h9 => gv_t (not_f h9))) ?_
      refine tjb (mk := fun s43 : Int => [(vi s43)]) (fun J42 => ?_) fun s43 => ?_
      · refine tcond (fun h47 => ?_) (fun h47 => ?_)
        · refine tb (x := (vi (wr ((wr (s9.1 * 2)) + 1)))) (d_add) ?_
          refine tkeepO2 ?_ rfl
          refine tsome ?_
          exact rf_j rfl
        · refine tkeepO2 ?_ rfl
          refine tsome ?_
          exact rf_j rfl
      · refine tb (x := (vi (wr (s9.2 - 1)))) (d_sub) ?_
        refine tkeepO2 ?_ rfl
        refine tsome ?_
        exact h11 (s43, (wr (s9.2 - 1)))
    · exact rf_j rfl
  · exact rf_ret rfl

/-! railpoint/railref1.Go -/
def an_railref1_Go : Ann := .seq (.reg 0 [] [] []) (.seq (.reg 0 [] [] []) (.seq (.reg 0 [] [] []) (.seq (.seq (.reg 0 [] [] []) (.cond none (.seq (.reg 0 [] [] []) (.seq (.reg 0 [] [] []) (.no))) (.no))) (.seq (.reg 10 [] [] []) (.seq (.reg 0 [] [] []) (.seq (.seq (.reg 0 [] [] []) (.cond none (.seq (.reg 0 [] [] []) (.seq (.reg 0 [] [] []) (.seq (.reg 0 [] [] []) (.no)))) (.no))) (.seq (.reg 0 [] [] []) (.seq (.seq (.reg 0 [] [] []) (.cond none (.seq (.reg 0 [] [] []) (.seq (.reg 0 [] [] []) (.no))) (.no))) (.seq (.reg 10 [] [] []) (.seq (.reg 0 [] [] []) (.seq (.seq (.reg 0 [] [] []) (.blk (some [.kb 5, .kb 6, .kb 14, .s 15]) (.loop [.kb 5, .kb 6, .kb 14, .s 15, .s 16] (.seq (.seq (.reg 0 [] [] []) (.cond none (.no) (.no))) (.seq (.blk none (.reg 11 [] [] [])) (.reg 0 [] [] [])))))) (.seq (.seq (.reg 0 [] [] []) (.cond none (.seq (.reg 0 [] [] []) (.seq (.reg 0 [] [] []) (.no))) (.no))) (.seq (.reg 0 [] [] []) (.seq (.reg 0 [] [] []) (.seq (.reg 0 [] [] []) (.seq (.reg 0 [] [] []) (.no)))))))))))))))))
noncomputable def sem_railref1_Go (n : Nat) (xs : List V) : Option V := if xs.length ≤ 118 then denF Tryd.prog (envOf [(8, (sem_railref1_Find n)), (73, (sem_railref1_Host n)), (74, (sem_railref1_Peer n)), (75, (sem_railref1_Turned n))]) n Tryd.f51 an_railref1_Go xs else none
theorem ok_railref1_Go (n : Nat) : SemOk Tryd.prog DW 51 (sem_railref1_Go n) := fun xs y h => by
  unfold sem_railref1_Go at h
  split at h
  · rename_i hl
    exact denF_ok stb Tryd.func51 (by kernel_rfl) (envOf_ok (semsOk_cons (ok_railref1_Find n) (semsOk_cons (ok_railref1_Host n) (semsOk_cons (ok_railref1_Peer n) (semsOk_cons (ok_railref1_Turned n) semsOk_nil))))) (by rw [Tryd.ntmps51]; exact hl) h
  · cases h
theorem eq_railref1_Go (n : Nat) (x0 x1 x2 : V) : sem_railref1_Go n [x0, x1, x2] =
 (V.cellsO x0).bind fun v1 =>
 (V.cellsO x2).bind fun v2 =>
 (ldk none (List.drop 2 v2)).bind fun v3 =>
 (ldk none (List.drop 2 v2)).bind fun v4 =>
 (lenS [v4]).bind fun v5 =>
 (bin2 Tryd.prog BinOp.sub 3 (ot 22) (oc 1) v5 (vi 1)).bind fun v6 =>
 (idxS 3 v3 v6).bind fun v7 =>
 (ldp (some 3) v7).bind fun v8 =>
 (spliceV [(vi 0), (vi 0), (vi 0)] 0 3 v8).bind fun v9 =>
 (ldk none (List.drop 2 (aggL v9))).bind fun v10 =>
 ((sem_railref1_Find n) [x1, v10]).bind fun v11 =>
 (bin2 Tryd.prog BinOp.lss 3 (ot 30) (oc 0) v11 (vi 0)).bind fun v12 =>
 (guardV v12 false (some x1)).bind fun v13 =>
 (guardV v12 false (some v11)).bind fun v14 =>
 (guardV v12 false ((idxS 6 v13 v14).bind fun v15 =>
 some v15)).bind fun v16 =>
 (guardV v12 false ((ptrF 3 v16).bind fun v17 =>
 some v17)).bind fun v18 =>
 (guardV v12 false ((ldp none v18).bind fun v19 =>
 some v19)).bind fun v20 =>
 (guardV v12 false ((bin2 Tryd.prog BinOp.eql 3 (ot 37) (oc 0) v20 (vi 0)).bind fun v21 =>
 some v21)).bind fun v22 =>
 (pickV v12 (vb true) v22).bind fun v23 =>
 condV v23 (
 (spliceV v2 0 1 (vi 2)).bind fun v24 =>
 (ldk (some 3) (List.drop 0 (aggL v24))).bind fun v25 =>
 (spliceV [(vi 0), (V.lit (Go.Value.string (ByteArray.mk #[]))), (V.sl [])] 0 3 v25).bind fun v26 =>
 (ldk (some 3) (List.drop 0 (aggL v26))).bind fun v27 =>
 some (V.tup [v27, (vb false)])) (
 (ldk none (List.drop 0 (aggL v9))).bind fun v28 =>
 (idxS 6 x1 v11).bind fun v29 =>
 (ptrF 3 v29).bind fun v30 =>
 (ldp none v30).bind fun v31 =>
 ((fillL [(vi 0), (vi 0)] [(0, 1, v28), (1, 1, v31)]).map V.agg).bind fun v32 =>
 (spliceV [(vi 0), (vi 0)] 0 2 v32).bind fun v33 =>
 (ldk (some 3) (List.drop 0 v1)).bind fun v34 =>
 (ldk (some 2) (List.drop 0 (aggL v33))).bind fun v35 =>
 ((sem_railref1_Host n) [v34, v35]).bind fun v36 =>
 (bin2 Tryd.prog BinOp.geq 3 (ot 54) (oc 0) v36 (vi 0)).bind fun v37 =>
 condV v37 (
 (spliceV v2 0 1 (vi 1)).bind fun v38 =>
 (ldk none (List.drop 2 v1)).bind fun v39 =>
 (idxS 3 v39 v36).bind fun v40 =>
 (ptrF 0 v40).bind fun v41 =>
 (ldp none v41).bind fun v42 =>
 (spliceV (aggL v38) 1 1 v42).bind fun v43 =>
 (ldk (some 3) (List.drop 0 (aggL v43))).bind fun v44 =>
 (spliceV [(vi 0), (V.lit (Go.Value.string (ByteArray.mk #[]))), (V.sl [])] 0 3 v44).bind fun v45 =>
 (ldk (some 3) (List.drop 0 (aggL v45))).bind fun v46 =>
 some (V.tup [v46, (vb false)])) (
 (ldk (some 3) (List.drop 0 v1)).bind fun v47 =>
 (ldk (some 2) (List.drop 0 (aggL v33))).bind fun v48 =>
 ((sem_railref1_Peer n) [v47, v48]).bind fun v49 =>
 (extractV v49 0).bind fun v50 =>
 (extractV v49 1).bind fun v51 =>
 (spliceV [(vi 0), (vi 0)] 0 2 v50).bind fun v52 =>
 (scal1 Tryd.prog (Op.unary Go.UnOp.not) v51).bind fun v53 =>
 condV v53 (
 (spliceV v2 0 1 (vi 3)).bind fun v54 =>
 (ldk (some 3) (List.drop 0 (aggL v54))).bind fun v55 =>
 (spliceV [(vi 0), (V.lit (Go.Value.string (ByteArray.mk #[]))), (V.sl [])] 0 3 v55).bind fun v56 =>
 (ldk (some 3) (List.drop 0 (aggL v56))).bind fun v57 =>
 some (V.tup [v57, (vb false)])) (
 (ldk (some 2) (List.drop 0 (aggL v52))).bind fun v58 =>
 (idxS 6 x1 v11).bind fun v59 =>
 (ldp (some 6) v59).bind fun v60 =>
 (ldk none (List.drop 2 (aggL v9))).bind fun v61 =>
 ((sem_railref1_Turned n) [v60, v61]).bind fun v62 =>
 ((fillL [(vi 0), (vi 0), (vi 0)] [(0, 2, v58), (2, 1, v62)]).map V.agg).bind fun v63 =>
 (spliceV [(vi 0), (vi 0), (vi 0)] 0 3 v63).bind fun v64 =>
 (ldk none (List.drop 2 v2)).bind fun v65 =>
 (lenS [v65]).bind fun v66 =>
 (bin2 Tryd.prog BinOp.geq 3 (ot 86) (oc 24) v66 (vi 24)).bind fun v67 =>
 JoinPt (fun vs68 =>
 condV (List.getD vs68 0 V.any) (
 (spliceV v2 0 1 (vi 4)).bind fun v70 =>
 (ldk (some 3) (List.drop 0 (aggL v70))).bind fun v71 =>
 (spliceV [(vi 0), (V.lit (Go.Value.string (ByteArray.mk #[]))), (V.sl [])] 0 3 v71).bind fun v72 =>
 (ldk (some 3) (List.drop 0 (aggL v72))).bind fun v73 =>
 some (V.tup [v73, (vb false)])) (
 (ldk none (List.drop 2 v2)).bind fun v74 =>
 (appV 3 [] v74).bind fun v75 =>
 (ldk (some 3) (List.drop 0 (aggL v64))).bind fun v76 =>
 (slcB 3 1 [(vi 0), (vi 0), (vi 0)] [(0, v76)]).bind fun v77 =>
 (appV 3 (slL v75) v77).bind fun v78 =>
 (spliceV v2 2 1 (V.sl (slL v78))).bind fun v79 =>
 (ldk (some 3) (List.drop 0 (aggL v79))).bind fun v80 =>
 (spliceV [(vi 0), (V.lit (Go.Value.string (ByteArray.mk #[]))), (V.sl [])] 0 3 v80).bind fun v81 =>
 (ldk (some 3) (List.drop 0 (aggL v81))).bind fun v82 =>
 some (V.tup [v82, (vb true)]))) fun J69 =>
 (keepO (some v2) (some v2) (keepO (some [(vi 0), (V.lit (Go.Value.string (ByteArray.mk #[]))), (V.sl [])]) (some [(vi 0), (V.lit (Go.Value.string (ByteArray.mk #[]))), (V.sl [])]) (keepO (some (aggL v64)) (some (aggL v64)) (some [v67, (vi 0)])))).bind (fixN (fun rec83 vs84 =>
 (ldk none (List.drop 2 v2)).bind fun v85 =>
 (lenS [v85]).bind fun v86 =>
 (bin2 Tryd.prog BinOp.lss 3 (ot 88) (ot 91) (List.getD vs84 1 V.any) v86).bind fun v87 =>
 condV v87 (
 (guardV (List.getD vs84 0 V.any) false (some V.any)).bind fun v88 =>
 (guardV (List.getD vs84 0 V.any) false ((gate (List.getD vs84 0 V.any) false (ldk none (List.drop 2 v2))).bind fun v89 =>
 some v89)).bind fun v90 =>
 (guardV (List.getD vs84 0 V.any) false (some (List.getD vs84 1 V.any))).bind fun v91 =>
 (guardV (List.getD vs84 0 V.any) false ((idxS 3 v90 v91).bind fun v92 =>
 some v92)).bind fun v93 =>
 (guardV (List.getD vs84 0 V.any) false ((ldp (some 3) v93).bind fun v94 =>
 some v94)).bind fun v95 =>
 (guardV (List.getD vs84 0 V.any) false ((ldk (some 3) (List.drop 0 (aggL v64))).bind fun v96 =>
 some v96)).bind fun v97 =>
 (guardV (List.getD vs84 0 V.any) false ((bin2 Tryd.prog BinOp.eql 45 (ot 101) (ot 102) v95 v97).bind fun v98 =>
 some v98)).bind fun v99 =>
 (pickV (List.getD vs84 0 V.any) (vb true) v99).bind fun v100 =>
 (bin2 Tryd.prog BinOp.add 3 (ot 93) (oc 1) (List.getD vs84 1 V.any) (vi 1)).bind fun v101 =>
 (keepO (some v2) (some v2) (keepO (some [(vi 0), (V.lit (Go.Value.string (ByteArray.mk #[]))), (V.sl [])]) (some [(vi 0), (V.lit (Go.Value.string (ByteArray.mk #[]))), (V.sl [])]) (keepO (some (aggL v64)) (some (aggL v64)) (some [v100, v101])))).bind rec83) (
 (keepO (some v2) (some v2) (keepO (some [(vi 0), (V.lit (Go.Value.string (ByteArray.mk #[]))), (V.sl [])]) (some [(vi 0), (V.lit (Go.Value.string (ByteArray.mk #[]))), (V.sl [])]) (keepO (some (aggL v64)) (some (aggL v64)) (some [(List.getD vs84 0 V.any)])))).bind J69)) n)))) := by kernel_rfl
noncomputable def t_railref1_Go (a0 : T_Topo) (a1 : (List T_Rule)) (a2 : T_Fate) : Option (T_Fate × Bool) :=
 (idx a2.Hops (wr ((List.length a2.Hops : Int) - 1))).bind fun r8 =>
 (t_railref1_Find a1 r8.Header).bind fun r13 =>
 (gd (!(decide (r13 < 0))) default (idx a1 r13)).bind fun r22 =>
 if ((decide (r13 < 0)) || (decide (r22.Out = 0))) = true then (
 some ((T_Fate.mk 2 a2.Host a2.Hops), false)) else (
 (idx a1 r13).bind fun r40 =>
 (t_railref1_Host a0 (T_Spot.mk r8.At.Switch r40.Out)).bind fun r48 =>
 if (decide (0 ≤ r48)) = true then (
 (idx a0.Hosts r48).bind fun r54 =>
 some ((T_Fate.mk 1 r54.Name a2.Hops), false)) else (
 (t_railref1_Peer a0 (T_Spot.mk r8.At.Switch r40.Out)).bind fun r64 =>
 if (!r64.2) = true then (
 some ((T_Fate.mk 3 a2.Host a2.Hops), false)) else (
 (idx a1 r13).bind fun r76 =>
 (t_railref1_Turned r76 r8.Header).bind fun r80 =>
 (loopI a2.Hops (fun (i113 : Int) x114 (s109 : Bool) k110 =>
 k110 (s109 || (decide (x114 = (T_Hop.mk r64.1 r80))))) (fun (s109 : Bool) =>
 some (s109)) (decide (24 ≤ (List.length a2.Hops : Int)))).bind fun (s88 : Bool) =>
 if s88 = true then (
 some ((T_Fate.mk 4 a2.Host a2.Hops), false)) else (
 (app ([] : (List T_Hop)) a2.Hops).bind fun r98 =>
 (app r98 ([(T_Hop.mk r64.1 r80)] : (List T_Hop))).bind fun r102 =>
 some ((T_Fate.mk a2.How a2.Host r102), true)))))
theorem ty_railref1_Go {n : Nat} (hn : bigN ≤ n) (a0 : T_Topo) (a1 : (List T_Rule)) (a2 : T_Fate) : Rv (fun x : (T_Fate × Bool) => V.tup [(T_Fate.e x.1), (vb x.2)]) (sem_railref1_Go n [(T_Topo.e a0), (V.sl (List.map T_Rule.c a1)), (T_Fate.e a2)]) (t_railref1_Go a0 a1 a2) := by
  rw [eq_railref1_Go]
  unfold t_railref1_Go
  refine tb (x := (T_Topo.c a0)) rfl ?_
  refine tb (x := (T_Fate.c a2)) rfl ?_
  refine tb (x := (V.sl (List.map T_Hop.c a2.Hops))) (rfl) ?_
  refine tb (x := (V.sl (List.map T_Hop.c a2.Hops))) (rfl) ?_
  refine tb (x := (vi (List.length a2.Hops : Int))) (p_len _) ?_
  refine tb (x := (vi (wr ((List.length a2.Hops : Int) - 1)))) (d_sub) ?_
  refine tbo (p_idx (c := T_Hop.c) (fun _ => rfl) a2.Hops (wr ((List.length a2.Hops : Int) - 1))) fun r8 => ?_
  refine tb (x := (T_Hop.e r8)) (rfl) ?_
  refine tb (x := V.agg (T_Hop.c r8)) (by kernel_rfl) ?_
  refine tb (x := (vi r8.Header)) (rfl) ?_
  refine tbo (ty_railref1_Find hn a1 r8.Header) fun r13 => ?_
  refine tb (x := (vb (decide (r13 < 0)))) (d_lss) ?_
  refine tg_f (x := (V.sl (List.map T_Rule.c a1))) (fun h15 => rfl) ?_
  refine tg_f (x := (vi r13)) (fun h17 => rfl) ?_
  refine tgo_f (fun h19 => by simp only [gv_t h19]; exact rf_bind_some (p_idx (c := T_Rule.c) (fun _ => rfl) a1 r13)) fun r22 => ?_
  refine tg_f (x := (V.ptr (List.drop 3 (T_Rule.c r22)))) (fun h23 => by first | exact bind_some_eq (rfl) | (simp only [gv_t h23]; exact bind_some_eq (rfl))) ?_
  refine tg_f (x := (vi r22.Out)) (fun h26 => by first | exact bind_some_eq (rfl) | (simp only [gv_t h26]; exact bind_some_eq (rfl))) ?_
  refine tg_f (x := (vb (decide (r22.Out = 0)))) (fun h29 => by simp only [gv_t h29]; exact bind_some_eq (d_eql)) ?_
  refine tb (x := (vb ((decide (r13 < 0)) || (decide (r22.Out = 0))))) (pick_or (fun h9 => gv_t (not_f h9))) ?_
  refine tcond (fun h33 => ?_) (fun h33 => ?_)
  · refine tb (x := V.agg (T_Fate.c (T_Fate.mk 2 a2.Host a2.Hops))) (by kernel_rfl) ?_
    refine tb (x := (T_Fate.e (T_Fate.mk 2 a2.Host a2.Hops))) (rfl) ?_
    refine tb (x := V.agg (T_Fate.c (T_Fate.mk 2 a2.Host a2.Hops))) (by kernel_rfl) ?_
    refine tb (x := (T_Fate.e (T_Fate.mk 2 a2.Host a2.Hops))) rfl ?_
    exact rf_ret rfl
  · refine tb (x := (vi r8.At.Switch)) (rfl) ?_
    refine tbo (p_idx (c := T_Rule.c) (fun _ => rfl) a1 r13) fun r40 => ?_
    refine tb (x := (V.ptr (List.drop 3 (T_Rule.c r40)))) (rfl) ?_
    refine tb (x := (vi r40.Out)) (rfl) ?_
    refine tb (x := (T_Spot.e (T_Spot.mk r8.At.Switch r40.Out))) (by kernel_rfl) ?_
    refine tb (x := V.agg (T_Spot.c (T_Spot.mk r8.At.Switch r40.Out))) (by kernel_rfl) ?_
    refine tb (x := (T_Topo.e a0)) (rfl) ?_
    refine tb (x := (T_Spot.e (T_Spot.mk r8.At.Switch r40.Out))) (rfl) ?_
    refine tbo (ty_railref1_Host hn a0 (T_Spot.mk r8.At.Switch r40.Out)) fun r48 => ?_
    refine tb (x := (vb (decide (0 ≤ r48)))) (d_geq) ?_
    refine tcond (fun h50 => ?_) (fun h50 => ?_)
    · refine tb (x := V.agg (T_Fate.c (T_Fate.mk 1 a2.Host a2.Hops))) (by kernel_rfl) ?_
      refine tb (x := (V.sl (List.map T_Host.c a0.Hosts))) (rfl) ?_
      refine tbo (p_idx (c := T_Host.c) (fun _ => rfl) a0.Hosts r48) fun r54 => ?_
      refine tb (x := (V.ptr (T_Host.c r54))) (rfl) ?_
      refine tb (x := (vt r54.Name)) (rfl) ?_
      refine tb (x := V.agg (T_Fate.c (T_Fate.mk 1 r54.Name a2.Hops))) (by kernel_rfl) ?_
      refine tb (x := (T_Fate.e (T_Fate.mk 1 r54.Name a2.Hops))) (rfl) ?_
      refine tb (x := V.agg (T_Fate.c (T_Fate.mk 1 r54.Name a2.Hops))) (by kernel_rfl) ?_
      refine tb (x := (T_Fate.e (T_Fate.mk 1 r54.Name a2.Hops))) rfl ?_
      exact rf_ret rfl
    · refine tb (x := (T_Topo.e a0)) (rfl) ?_
      refine tb (x := (T_Spot.e (T_Spot.mk r8.At.Switch r40.Out))) (rfl) ?_
      refine tbo (ty_railref1_Peer hn a0 (T_Spot.mk r8.At.Switch r40.Out)) fun r64 => ?_
      refine tb (x := (T_Spot.e r64.1)) (rfl) ?_
      refine tb (x := (vb r64.2)) (rfl) ?_
      refine tb (x := V.agg (T_Spot.c r64.1)) (by kernel_rfl) ?_
      refine tb (x := (vb (!r64.2))) (d_not) ?_
      refine tcond (fun h69 => ?_) (fun h69 => ?_)
      · refine tb (x := V.agg (T_Fate.c (T_Fate.mk 3 a2.Host a2.Hops))) (by kernel_rfl) ?_
        refine tb (x := (T_Fate.e (T_Fate.mk 3 a2.Host a2.Hops))) (rfl) ?_
        refine tb (x := V.agg (T_Fate.c (T_Fate.mk 3 a2.Host a2.Hops))) (by kernel_rfl) ?_
        refine tb (x := (T_Fate.e (T_Fate.mk 3 a2.Host a2.Hops))) rfl ?_
        exact rf_ret rfl
      · refine tb (x := (T_Spot.e r64.1)) (rfl) ?_
        refine tbo (p_idx (c := T_Rule.c) (fun _ => rfl) a1 r13) fun r76 => ?_
        refine tb (x := (T_Rule.e r76)) (rfl) ?_
        refine tb (x := (vi r8.Header)) (rfl) ?_
        refine tbo (ty_railref1_Turned hn r76 r8.Header) fun r80 => ?_
        refine tb (x := (T_Hop.e (T_Hop.mk r64.1 r80))) (by kernel_rfl) ?_
        refine tb (x := V.agg (T_Hop.c (T_Hop.mk r64.1 r80))) (by kernel_rfl) ?_
        refine tb (x := (V.sl (List.map T_Hop.c a2.Hops))) (rfl) ?_
        refine tb (x := (vi (List.length a2.Hops : Int))) (p_len _) ?_
        refine tb (x := (vb (decide (24 ≤ (List.length a2.Hops : Int))))) (d_geq) ?_
        refine tjb (mk := fun s88 : Bool => [(vb s88)]) (fun J87 => ?_) fun s88 => ?_
        · refine tkeepO2 ?_ rfl
          refine tkeepO2 ?_ rfl
          refine tkeepO2 ?_ rfl
          refine tsome ?_
          refine rf_loopI (mk := fun (i113 : Int) (s109 : Bool) => [(vb s109), (vi (i113 : Int))]) hn a2.Hops (decide (24 ≤ (List.length a2.Hops : Int))) (fun i113 x114 h115 h116 h117 s109 rec107 k110 h111 => ?_) (fun s109 rec143 h142 => ?_)
          · refine tb (x := (V.sl (List.map T_Hop.c a2.Hops))) (rfl) ?_
            refine tb (x := (vi (List.length a2.Hops : Int))) (p_len _) ?_
            refine tb (x := (vb (decide ((i113 : Int) < (List.length a2.Hops : Int))))) (d_lss) ?_
            refine tcond_t h117 ?_
            refine tg_f (x := V.any) (fun h121 => rfl) ?_
            refine tg_f (x := (V.sl (List.map T_Hop.c a2.Hops))) (fun h123 => bind_some_eq (gate_pos (not_t h123) (rfl))) ?_
            refine tg_f (x := (vi (i113 : Int))) (fun h126 => rfl) ?_
            refine tg_f (x := (V.ptr (T_Hop.c x114))) (fun h128 => by simp only [gv_t h128]; exact bind_some_eq (p_idx_at (c := T_Hop.c) (fun _ => rfl) h115)) ?_
            refine tg_f (x := (T_Hop.e x114)) (fun h131 => by first | exact bind_some_eq (rfl) | (simp only [gv_t h131]; exact bind_some_eq (rfl))) ?_
            refine tg_f (x := (T_Hop.e (T_Hop.mk r64.1 r80))) (fun h134 => bind_some_eq (rfl)) ?_
            refine tg_f (x := (vb (decide (x114 = (T_Hop.mk r64.1 r80))))) (fun h137 => by simp only [gv_t h137]; exact bind_some_eq (T_Hop.eql x114 (T_Hop.mk r64.1 r80))) ?_
            refine tb (x := (vb (s109 || (decide (x114 = (T_Hop.mk r64.1 r80)))))) (pick_or (fun h9 => gv_t (not_f h9))) ?_
            refine tb (x := (vi ((i113 : Int) + 1))) (p_incN h116) ?_
            refine tkeepO2 ?_ rfl
            refine tkeepO2 ?_ rfl
            refine tkeepO2 ?_ rfl
            refine tsome ?_
            exact h111 (s109 || (decide (x114 = (T_Hop.mk r64.1 r80))))
          · refine tb (x := (V.sl (List.map T_Hop.c a2.Hops))) (rfl) ?_
            refine tb (x := (vi (List.length a2.Hops : Int))) (p_len _) ?_
            refine tb (x := (vb (decide ((List.length a2.Hops : Int) < (List.length a2.Hops : Int))))) (d_lss) ?_
            refine tcond_f h142 ?_
            refine tkeepO2 ?_ rfl
            refine tkeepO2 ?_ rfl
            refine tkeepO2 ?_ rfl
            refine tsome ?_
            exact rf_j rfl
        · refine tcond (fun h91 => ?_) (fun h91 => ?_)
          · refine tb (x := V.agg (T_Fate.c (T_Fate.mk 4 a2.Host a2.Hops))) (by kernel_rfl) ?_
            refine tb (x := (T_Fate.e (T_Fate.mk 4 a2.Host a2.Hops))) (rfl) ?_
            refine tb (x := V.agg (T_Fate.c (T_Fate.mk 4 a2.Host a2.Hops))) (by kernel_rfl) ?_
            refine tb (x := (T_Fate.e (T_Fate.mk 4 a2.Host a2.Hops))) rfl ?_
            exact rf_ret rfl
          · refine tb (x := (V.sl (List.map T_Hop.c a2.Hops))) (rfl) ?_
            refine tbo (p_app (c := T_Hop.c) (fun _ => rfl) ([] : (List T_Hop)) a2.Hops) fun r98 => ?_
            refine tb (x := (T_Hop.e (T_Hop.mk r64.1 r80))) (rfl) ?_
            refine tb (x := (V.sl (List.map T_Hop.c ([(T_Hop.mk r64.1 r80)] : (List T_Hop))))) (by kernel_rfl) ?_
            refine tbo (p_app (c := T_Hop.c) (fun _ => rfl) r98 ([(T_Hop.mk r64.1 r80)] : (List T_Hop))) fun r102 => ?_
            refine tb (x := V.agg (T_Fate.c (T_Fate.mk a2.How a2.Host r102))) (by kernel_rfl) ?_
            refine tb (x := (T_Fate.e (T_Fate.mk a2.How a2.Host r102))) (rfl) ?_
            refine tb (x := V.agg (T_Fate.c (T_Fate.mk a2.How a2.Host r102))) (by kernel_rfl) ?_
            refine tb (x := (T_Fate.e (T_Fate.mk a2.How a2.Host r102))) rfl ?_
            exact rf_ret rfl

/-! railpoint/railref1.From -/
def an_railref1_From : Ann := .seq (.reg 0 [] [] []) (.seq (.reg 0 [] [] []) (.seq (.reg 0 [] [] []) (.seq (.blk (some [.kb 6, .b 7]) (.loop [.kb 3, .kb 6, .b 7, .s 8] (.seq (.seq (.reg 0 [] [] []) (.cond none (.no) (.no))) (.blk none (.seq (.reg 0 [] [] []) (.reg 13 [] [] [])))))) (.seq (.reg 0 [] [] []) (.no)))))
noncomputable def sem_railref1_From (n : Nat) (xs : List V) : Option V := if xs.length ≤ 40 then denF Tryd.prog (envOf [(51, (sem_railref1_Go n))]) n Tryd.f25 an_railref1_From xs else none
theorem ok_railref1_From (n : Nat) : SemOk Tryd.prog DW 25 (sem_railref1_From n) := fun xs y h => by
  unfold sem_railref1_From at h
  split at h
  · rename_i hl
    exact denF_ok stb Tryd.func25 (by kernel_rfl) (envOf_ok (semsOk_cons (ok_railref1_Go n) semsOk_nil)) (by rw [Tryd.ntmps25]; exact hl) h
  · cases h
theorem eq_railref1_From (n : Nat) (x0 x1 x2 : V) : sem_railref1_From n [x0, x1, x2] =
 (V.cellsO x0).bind fun v1 =>
 (V.cellsO x1).bind fun v2 =>
 (ldk (some 2) (List.drop 0 v2)).bind fun v3 =>
 ((fillL [(vi 0), (vi 0), (vi 0)] [(0, 2, v3), (2, 1, x2)]).map V.agg).bind fun v4 =>
 (slcB 3 1 [(vi 0), (vi 0), (vi 0)] [(0, v4)]).bind fun v5 =>
 ((fillL [(vi 0), (V.lit (Go.Value.string (ByteArray.mk #[]))), (V.sl [])] [(2, 1, v5)]).map V.agg).bind fun v6 =>
 (spliceV [(vi 0), (V.lit (Go.Value.string (ByteArray.mk #[]))), (V.sl [])] 0 3 v6).bind fun v7 =>
 JoinPt (fun vs8 =>
 (ldk (some 3) (List.drop 0 (aggL (List.getD vs8 0 V.any)))).bind fun v10 =>
 (spliceV [(vi 0), (V.lit (Go.Value.string (ByteArray.mk #[]))), (V.sl [])] 0 3 v10).bind fun v11 =>
 (ldk (some 3) (List.drop 0 (aggL v11))).bind fun v12 =>
 some v12) fun J9 =>
 (keepO (some v1) (some v1) (keepO (some [(vi 0), (V.lit (Go.Value.string (ByteArray.mk #[]))), (V.sl [])]) (some [(vi 0), (V.lit (Go.Value.string (ByteArray.mk #[]))), (V.sl [])]) (some [(V.agg (aggL v7)), (vb true)]))).bind (fixN (fun rec13 vs14 =>
 condV (List.getD vs14 1 V.any) (
 (ldk none (List.drop 2 (aggL (List.getD vs14 0 V.any)))).bind fun v15 =>
 (ldk none (List.drop 2 (aggL (List.getD vs14 0 V.any)))).bind fun v16 =>
 (lenS [v16]).bind fun v17 =>
 (bin2 Tryd.prog BinOp.sub 3 (ot 20) (oc 1) v17 (vi 1)).bind fun v18 =>
 (idxS 3 v15 v18).bind fun v19 =>
 (ptrF 0 v19).bind fun v20 =>
 (ptrF 0 v20).bind fun v21 =>
 (ldp none v21).bind fun v22 =>
 (ldk (some 3) (List.drop 0 v1)).bind fun v23 =>
 (ldk none (List.drop 3 v1)).bind fun v24 =>
 (bin2 Tryd.prog BinOp.sub 3 (ot 31) (oc 1) v22 (vi 1)).bind fun v25 =>
 (idxS 1 v24 v25).bind fun v26 =>
 (ldp none v26).bind fun v27 =>
 (ldk (some 3) (List.drop 0 (aggL (List.getD vs14 0 V.any)))).bind fun v28 =>
 ((sem_railref1_Go n) [v23, v27, v28]).bind fun v29 =>
 (extractV v29 0).bind fun v30 =>
 (extractV v29 1).bind fun v31 =>
 (spliceV (aggL (List.getD vs14 0 V.any)) 0 3 v30).bind fun v32 =>
 (keepO (some v1) (some v1) (keepO (some [(vi 0), (V.lit (Go.Value.string (ByteArray.mk #[]))), (V.sl [])]) (some [(vi 0), (V.lit (Go.Value.string (ByteArray.mk #[]))), (V.sl [])]) (some [(V.agg (aggL v32)), v31]))).bind rec13) (
 (keepO (some [(vi 0), (V.lit (Go.Value.string (ByteArray.mk #[]))), (V.sl [])]) (some [(vi 0), (V.lit (Go.Value.string (ByteArray.mk #[]))), (V.sl [])]) (some [(V.agg (aggL (List.getD vs14 0 V.any)))])).bind J9)) n) := by kernel_rfl
noncomputable def t_railref1_From (a0 : T_Net) (a1 : T_Spot) (a2 : Int) : Option T_Fate :=
 (tfix (fun k19 (s18 : (T_Fate × Bool)) =>
 if s18.2 = true then (
 (idx s18.1.Hops (wr ((List.length s18.1.Hops : Int) - 1))).bind fun r29 =>
 (idx a0.Tables (wr (r29.At.Switch - 1))).bind fun r37 =>
 (t_railref1_Go a0.Topo r37 s18.1).bind fun r41 =>
 k19 (r41.1, r41.2)) else (
 some (s18.1))) bigN ((T_Fate.mk 0 (ByteArray.mk #[]) ([(T_Hop.mk a1 a2)] : (List T_Hop))), true)).bind fun (s10 : T_Fate) =>
 some s10
theorem ty_railref1_From {n : Nat} (hn : bigN ≤ n) (a0 : T_Net) (a1 : T_Spot) (a2 : Int) : Rv (fun x : T_Fate => (T_Fate.e x)) (sem_railref1_From n [(T_Net.e a0), (T_Spot.e a1), (vi a2)]) (t_railref1_From a0 a1 a2) := by
  rw [eq_railref1_From]
  unfold t_railref1_From
  refine tb (x := (T_Net.c a0)) rfl ?_
  refine tb (x := (T_Spot.c a1)) rfl ?_
  refine tb (x := (T_Spot.e a1)) (rfl) ?_
  refine tb (x := (T_Hop.e (T_Hop.mk a1 a2))) (by kernel_rfl) ?_
  refine tb (x := (V.sl (List.map T_Hop.c ([(T_Hop.mk a1 a2)] : (List T_Hop))))) (by kernel_rfl) ?_
  refine tb (x := (T_Fate.e (T_Fate.mk 0 (ByteArray.mk #[]) ([(T_Hop.mk a1 a2)] : (List T_Hop))))) (by kernel_rfl) ?_
  refine tb (x := V.agg (T_Fate.c (T_Fate.mk 0 (ByteArray.mk #[]) ([(T_Hop.mk a1 a2)] : (List T_Hop))))) (by kernel_rfl) ?_
  refine tjb (mk := fun s10 : T_Fate => [(V.agg (T_Fate.c s10))]) (fun J9 => ?_) fun s10 => ?_
  · refine tkeepO2 ?_ rfl
    refine tkeepO2 ?_ rfl
    refine tsome ?_
    refine rf_fixN (mk := fun (s18 : (T_Fate × Bool)) => [(V.agg (T_Fate.c s18.1)), (vb s18.2)]) hn ((T_Fate.mk 0 (ByteArray.mk #[]) ([(T_Hop.mk a1 a2)] : (List T_Hop))), true) (fun rec16 k19 h20 s18 => ?_)
    refine tcond (fun h23 => ?_) (fun h23 => ?_)
    · refine tb (x := (V.sl (List.map T_Hop.c s18.1.Hops))) (rfl) ?_
      refine tb (x := (V.sl (List.map T_Hop.c s18.1.Hops))) (rfl) ?_
      refine tb (x := (vi (List.length s18.1.Hops : Int))) (p_len _) ?_
      refine tb (x := (vi (wr ((List.length s18.1.Hops : Int) - 1)))) (d_sub) ?_
      refine tbo (p_idx (c := T_Hop.c) (fun _ => rfl) s18.1.Hops (wr ((List.length s18.1.Hops : Int) - 1))) fun r29 => ?_
      refine tb (x := (V.ptr (T_Hop.c r29))) (rfl) ?_
      refine tb (x := (V.ptr (T_Hop.c r29))) (rfl) ?_
      refine tb (x := (vi r29.At.Switch)) (rfl) ?_
      refine tb (x := (T_Topo.e a0.Topo)) (rfl) ?_
      refine tb (x := (V.sl (List.map (cS T_Rule.c) a0.Tables))) (rfl) ?_
      refine tb (x := (vi (wr (r29.At.Switch - 1)))) (d_sub) ?_
      refine tbo (p_idx (c := (cS T_Rule.c)) (fun _ => rfl) a0.Tables (wr (r29.At.Switch - 1))) fun r37 => ?_
      refine tb (x := (V.sl (List.map T_Rule.c r37))) (rfl) ?_
      refine tb (x := (T_Fate.e s18.1)) (rfl) ?_
      refine tbo (ty_railref1_Go hn a0.Topo r37 s18.1) fun r41 => ?_
      refine tb (x := (T_Fate.e r41.1)) (rfl) ?_
      refine tb (x := (vb r41.2)) (rfl) ?_
      refine tb (x := V.agg (T_Fate.c r41.1)) (by kernel_rfl) ?_
      refine tkeepO2 ?_ rfl
      refine tkeepO2 ?_ rfl
      refine tsome ?_
      exact h20 (r41.1, r41.2)
    · refine tkeepO2 ?_ rfl
      refine tsome ?_
      exact rf_j rfl
  · refine tb (x := (T_Fate.e s10)) (rfl) ?_
    refine tb (x := V.agg (T_Fate.c s10)) (by kernel_rfl) ?_
    refine tb (x := (T_Fate.e s10)) rfl ?_
    exact rf_ret rfl

/-! railpoint/railref2.All -/
def an_railref2_All : Ann := .seq (.reg 0 [] [] []) (.seq (.reg 0 [] [] []) (.seq (.seq (.reg 0 [] [] []) (.blk (some [.s 3]) (.loop [.kb 1, .r 3 40, .s 4] (.seq (.seq (.reg 0 [] [] []) (.cond none (.no) (.no))) (.seq (.blk (some [.kb 1, .r 3 40]) (.seq (.reg 0 [] [] []) (.blk (some [.kb 1, .r 3 40]) (.loop [.kb 1, .r 3 40, .s 5] (.seq (.seq (.reg 0 [] [] []) (.cond none (.no) (.no))) (.seq (.blk none (.seq (.reg 11 [] [] []) (.reg 0 [] [] []))) (.reg 0 [] [] []))))))) (.reg 0 [] [] [])))))) (.seq (.reg 0 [] [] []) (.no))))
noncomputable def sem_railref2_All (n : Nat) (xs : List V) : Option V := if xs.length ≤ 34 then denF Tryd.prog (envOf [(25, (sem_railref1_From n))]) n Tryd.f6 an_railref2_All xs else none
theorem ok_railref2_All (n : Nat) : SemOk Tryd.prog DW 6 (sem_railref2_All n) := fun xs y h => by
  unfold sem_railref2_All at h
  split at h
  · rename_i hl
    exact denF_ok stb Tryd.func6 (by kernel_rfl) (envOf_ok (semsOk_cons (ok_railref1_From n) semsOk_nil)) (by rw [Tryd.ntmps6]; exact hl) h
  · cases h
theorem eq_railref2_All (n : Nat) (x0 : V) : sem_railref2_All n [x0] =
 (V.cellsO x0).bind fun v1 =>
 JoinPt (fun vs2 =>
 some (List.getD vs2 0 V.any)) fun J3 =>
 (keepO (some v1) (some v1) (some [(V.sl []), (vi 0)])).bind (fixN (fun rec4 vs5 =>
 (ldk none (List.drop 2 v1)).bind fun v6 =>
 (lenS [v6]).bind fun v7 =>
 (bin2 Tryd.prog BinOp.lss 3 (ot 7) (ot 11) (List.getD vs5 1 V.any) v7).bind fun v8 =>
 condV v8 (
 JoinPt (fun vs9 =>
 (bin2 Tryd.prog BinOp.add 3 (ot 13) (oc 1) (List.getD vs5 1 V.any) (vi 1)).bind fun v11 =>
 (keepO (some v1) (some v1) (some [(V.sl (slL (List.getD vs9 0 V.any))), v11])).bind rec4) fun J10 =>
 JoinPt (fun vs12 =>
 (keepO (some v1) (some v1) (some [(V.sl (slL (List.getD vs12 0 V.any)))])).bind J10) fun J13 =>
 (keepO (some v1) (some v1) (some [(V.sl (slL (List.getD vs5 0 V.any))), (vi 0)])).bind (fixN (fun rec14 vs15 =>
 (bin2 Tryd.prog BinOp.lss 3 (ot 15) (oc 16) (List.getD vs15 1 V.any) (vi 16)).bind fun v16 =>
 condV v16 (
 (ldk (some 4) (List.drop 0 v1)).bind fun v17 =>
 (ldk none (List.drop 2 v1)).bind fun v18 =>
 (idxS 3 v18 (List.getD vs5 1 V.any)).bind fun v19 =>
 (ptrF 1 v19).bind fun v20 =>
 (ldp (some 2) v20).bind fun v21 =>
 ((sem_railref1_From n) [v17, v21, (List.getD vs15 1 V.any)]).bind fun v22 =>
 (spliceV [(vi 0), (V.lit (Go.Value.string (ByteArray.mk #[]))), (V.sl [])] 0 3 v22).bind fun v23 =>
 (ldk (some 3) (List.drop 0 (aggL v23))).bind fun v24 =>
 (slcB 3 1 [(vi 0), (V.lit (Go.Value.string (ByteArray.mk #[]))), (V.sl [])] [(0, v24)]).bind fun v25 =>
 (appV 3 (slL (List.getD vs15 0 V.any)) v25).bind fun v26 =>
 (bin2 Tryd.prog BinOp.add 3 (ot 17) (oc 1) (List.getD vs15 1 V.any) (vi 1)).bind fun v27 =>
 (keepO (some v1) (some v1) (some [(V.sl (slL v26)), v27])).bind rec14) (
 (keepO (some v1) (some v1) (some [(V.sl (slL (List.getD vs15 0 V.any)))])).bind J13)) n)) (
 J3 [(V.sl (slL (List.getD vs5 0 V.any)))])) n) := by kernel_rfl
noncomputable def t_railref2_All (a0 : T_Net) : Option (List T_Fate) :=
 (loopI a0.Topo.Hosts (fun (i13 : Int) x14 (s9 : (List T_Fate)) k10 =>
 ((loopU 0 16 (fun (i38 : Int) (s34 : (List T_Fate)) k35 =>
 (t_railref1_From a0 x14.At i38).bind fun r51 =>
 (app s34 ([r51] : (List T_Fate))).bind fun r56 =>
 k35 (r56)) (fun (i38 : Int) (s34 : (List T_Fate)) =>
 some (s34)) (s9)).bind fun (s29 : (List T_Fate)) =>
 some (s29)).bind fun (s23 : (List T_Fate)) =>
 k10 (s23)) (fun (s9 : (List T_Fate)) =>
 some (s9)) ([])).bind fun (s4 : (List T_Fate)) =>
 some s4
theorem ty_railref2_All {n : Nat} (hn : bigN ≤ n) (a0 : T_Net) : Rv (fun x : (List T_Fate) => (V.sl (List.map T_Fate.c x))) (sem_railref2_All n [(T_Net.e a0)]) (t_railref2_All a0) := by
  rw [eq_railref2_All]
  unfold t_railref2_All
  refine tb (x := (T_Net.c a0)) rfl ?_
  refine tjb (mk := fun s4 : (List T_Fate) => [(V.sl (List.map T_Fate.c s4))]) (fun J3 => ?_) fun s4 => ?_
  · refine tkeepO2 ?_ rfl
    refine tsome ?_
    refine rf_loopI (mk := fun (i13 : Int) (s9 : (List T_Fate)) => [(V.sl (List.map T_Fate.c s9)), (vi (i13 : Int))]) hn a0.Topo.Hosts ([]) (fun i13 x14 h15 h16 h17 s9 rec7 k10 h11 => ?_) (fun s9 rec60 h59 => ?_)
    · refine tb (x := (V.sl (List.map T_Host.c a0.Topo.Hosts))) (rfl) ?_
      refine tb (x := (vi (List.length a0.Topo.Hosts : Int))) (p_len _) ?_
      refine tb (x := (vb (decide ((i13 : Int) < (List.length a0.Topo.Hosts : Int))))) (d_lss) ?_
      refine tcond_t h17 ?_
      refine tjb (mk := fun s23 : (List T_Fate) => [(V.sl (List.map T_Fate.c s23))]) (fun J22 => ?_) fun s23 => ?_
      · refine tjb (mk := fun s29 : (List T_Fate) => [(V.sl (List.map T_Fate.c s29))]) (fun J28 => ?_) fun s29 => ?_
        · refine tkeepO2 ?_ rfl
          refine tsome ?_
          refine rf_loopU (mk := fun (i38 : Int) (s34 : (List T_Fate)) => [(V.sl (List.map T_Fate.c s34)), (vi i38)]) hn _ _ (s9) (fun i38 h39 h40 h41 s34 rec32 k35 h36 => ?_) (fun i38 s34 rec43 h42 => ?_)
          · refine tb (x := (vb (decide (i38 < 16)))) (d_lss) ?_
            refine tcond_t h39 ?_
            refine tb (x := (T_Net.e a0)) (rfl) ?_
            refine tb (x := (V.sl (List.map T_Host.c a0.Topo.Hosts))) (rfl) ?_
            refine tb (x := (V.ptr (T_Host.c x14))) (p_idx_at (c := T_Host.c) (fun _ => rfl) h15) ?_
            refine tb (x := (V.ptr (List.drop 1 (T_Host.c x14)))) (rfl) ?_
            refine tb (x := (T_Spot.e x14.At)) (rfl) ?_
            refine tbo (ty_railref1_From hn a0 x14.At i38) fun r51 => ?_
            refine tb (x := V.agg (T_Fate.c r51)) (by kernel_rfl) ?_
            refine tb (x := (T_Fate.e r51)) (rfl) ?_
            refine tb (x := (V.sl (List.map T_Fate.c ([r51] : (List T_Fate))))) (by kernel_rfl) ?_
            refine tbo (p_app (c := T_Fate.c) (fun _ => rfl) s34 ([r51] : (List T_Fate))) fun r56 => ?_
            refine tb (x := (vi (i38 + 1))) (p_inc h40 h41) ?_
            refine tkeepO2 ?_ rfl
            refine tsome ?_
            exact h36 (r56)
          · refine tb (x := (vb (decide (i38 < 16)))) (d_lss) ?_
            refine tcond_f h42 ?_
            refine tkeepO2 ?_ rfl
            refine tsome ?_
            exact rf_j rfl
        · refine tkeepO2 ?_ rfl
          refine tsome ?_
          exact rf_j rfl
      · refine tb (x := (vi ((i13 : Int) + 1))) (p_incN h16) ?_
        refine tkeepO2 ?_ rfl
        refine tsome ?_
        exact h11 (s23)
    · refine tb (x := (V.sl (List.map T_Host.c a0.Topo.Hosts))) (rfl) ?_
      refine tb (x := (vi (List.length a0.Topo.Hosts : Int))) (p_len _) ?_
      refine tb (x := (vb (decide ((List.length a0.Topo.Hosts : Int) < (List.length a0.Topo.Hosts : Int))))) (d_lss) ?_
      refine tcond_f h59 ?_
      exact rf_j rfl
  · exact rf_ret rfl

/-! railpoint/railref2.Links -/
def an_railref2_Links : Ann := .seq (.reg 0 [] [] []) (.seq (.reg 0 [] [] []) (.seq (.seq (.reg 0 [] [] []) (.blk (some [.o 5]) (.loop [.kb 2, .o 5, .s 6] (.seq (.seq (.reg 0 [] [] []) (.cond none (.no) (.no))) (.seq (.blk (some [.kb 2, .o 5]) (.seq (.reg 0 [] [] []) (.blk (some [.kb 2, .o 5]) (.loop [.kb 2, .o 5, .s 7] (.seq (.seq (.reg 0 [] [] []) (.cond none (.no) (.no))) (.seq (.blk (some [.kb 2, .o 5]) (.seq (.reg 0 [] [] []) (.blk (some [.kb 2, .o 5]) (.loop [.kb 2, .o 5, .s 8] (.seq (.seq (.reg 0 [] [] []) (.cond none (.no) (.no))) (.seq (.blk none (.seq (.reg 34 [] [] []) (.cond (some [.kb 2, .o 5]) (.reg 0 [] [] []) (.no)))) (.reg 0 [] [] []))))))) (.reg 0 [] [] []))))))) (.reg 0 [] [] [])))))) (.seq (.reg 0 [5] [] []) (.no))))
noncomputable def sem_railref2_Links (n : Nat) (xs : List V) : Option V := if xs.length ≤ 79 then denF Tryd.prog (envOf []) n Tryd.f7 an_railref2_Links xs else none
theorem ok_railref2_Links (n : Nat) : SemOk Tryd.prog DW 7 (sem_railref2_Links n) := fun xs y h => by
  unfold sem_railref2_Links at h
  split at h
  · rename_i hl
    exact denF_ok stb Tryd.func7 (by kernel_rfl) (envOf_ok semsOk_nil) (by rw [Tryd.ntmps7]; exact hl) h
  · cases h
theorem eq_railref2_Links (n : Nat) (x0 x1 : V) : sem_railref2_Links n [x0, x1] =
 (V.cellsO x0).bind fun v1 =>
 (ldk none (List.drop 1 v1)).bind fun v2 =>
 (lenS [v2]).bind fun v3 =>
 (makeN 1 [(vi 0)] v3 v3).bind fun v4 =>
 JoinPt (fun vs5 =>
 (some (frz (List.getD vs5 0 V.any))).bind fun v7 =>
 some v7) fun J6 =>
 (keepO (some v1) (some v1) (some [v4, (vi 0)])).bind (fixN (fun rec8 vs9 =>
 (lenS [x1]).bind fun v10 =>
 (bin2 Tryd.prog BinOp.lss 3 (ot 13) (ot 15) (List.getD vs9 1 V.any) v10).bind fun v11 =>
 condV v11 (
 JoinPt (fun vs12 =>
 (bin2 Tryd.prog BinOp.add 3 (ot 17) (oc 1) (List.getD vs9 1 V.any) (vi 1)).bind fun v14 =>
 (keepO (some v1) (some v1) (some [(List.getD vs12 0 V.any), v14])).bind rec8) fun J13 =>
 JoinPt (fun vs15 =>
 (keepO (some v1) (some v1) (some [(List.getD vs15 0 V.any)])).bind J13) fun J16 =>
 (keepO (some v1) (some v1) (some [(List.getD vs9 0 V.any), (vi 1)])).bind (fixN (fun rec17 vs18 =>
 (idxS 3 x1 (List.getD vs9 1 V.any)).bind fun v19 =>
 (ptrF 2 v19).bind fun v20 =>
 (ldp none v20).bind fun v21 =>
 (lenS [v21]).bind fun v22 =>
 (bin2 Tryd.prog BinOp.lss 3 (ot 19) (ot 25) (List.getD vs18 1 V.any) v22).bind fun v23 =>
 condV v23 (
 JoinPt (fun vs24 =>
 (bin2 Tryd.prog BinOp.add 3 (ot 27) (oc 1) (List.getD vs18 1 V.any) (vi 1)).bind fun v26 =>
 (keepO (some v1) (some v1) (some [(List.getD vs24 0 V.any), v26])).bind rec17) fun J25 =>
 JoinPt (fun vs27 =>
 (keepO (some v1) (some v1) (some [(List.getD vs27 0 V.any)])).bind J25) fun J28 =>
 (keepO (some v1) (some v1) (some [(List.getD vs18 0 V.any), (vi 0)])).bind (fixN (fun rec29 vs30 =>
 (ldk none (List.drop 1 v1)).bind fun v31 =>
 (lenS [v31]).bind fun v32 =>
 (bin2 Tryd.prog BinOp.lss 3 (ot 29) (ot 32) (List.getD vs30 1 V.any) v32).bind fun v33 =>
 condV v33 (
 (ldk none (List.drop 1 v1)).bind fun v34 =>
 (idxS 4 v34 (List.getD vs30 1 V.any)).bind fun v35 =>
 (ptrF 0 v35).bind fun v36 =>
 (ldp (some 2) v36).bind fun v37 =>
 (idxS 3 x1 (List.getD vs9 1 V.any)).bind fun v38 =>
 (ptrF 2 v38).bind fun v39 =>
 (ldp none v39).bind fun v40 =>
 (idxS 3 v40 (List.getD vs18 1 V.any)).bind fun v41 =>
 (ptrF 0 v41).bind fun v42 =>
 (ldp (some 2) v42).bind fun v43 =>
 (bin2 Tryd.prog BinOp.eql 43 (ot 41) (ot 50) v37 v43).bind fun v44 =>
 (guardV v44 false (some V.any)).bind fun v45 =>
 (guardV v44 false ((gate v44 false (ldk none (List.drop 1 v1))).bind fun v46 =>
 some v46)).bind fun v47 =>
 (guardV v44 false (some (List.getD vs30 1 V.any))).bind fun v48 =>
 (guardV v44 false ((idxS 4 v47 v48).bind fun v49 =>
 some v49)).bind fun v50 =>
 (guardV v44 false ((ptrF 2 v50).bind fun v51 =>
 some v51)).bind fun v52 =>
 (guardV v44 false ((ldp (some 2) v52).bind fun v53 =>
 some v53)).bind fun v54 =>
 (guardV v44 false (some x1)).bind fun v55 =>
 (guardV v44 false (some (List.getD vs9 1 V.any))).bind fun v56 =>
 (guardV v44 false ((idxS 3 v55 v56).bind fun v57 =>
 some v57)).bind fun v58 =>
 (guardV v44 false ((ptrF 2 v58).bind fun v59 =>
 some v59)).bind fun v60 =>
 (guardV v44 false ((ldp none v60).bind fun v61 =>
 some v61)).bind fun v62 =>
 (guardV v44 false (some (List.getD vs18 1 V.any))).bind fun v63 =>
 (guardV v44 false ((idxS 3 v62 v63).bind fun v64 =>
 some v64)).bind fun v65 =>
 (guardV v44 false ((ptrF 0 v65).bind fun v66 =>
 some v66)).bind fun v67 =>
 (guardV v44 false ((ldp (some 2) v67).bind fun v68 =>
 some v68)).bind fun v69 =>
 (guardV v44 false ((bin2 Tryd.prog BinOp.eql 43 (ot 58) (ot 67) v54 v69).bind fun v70 =>
 some v70)).bind fun v71 =>
 (pickV v44 (vb true) v71).bind fun v72 =>
 JoinPt (fun vs73 =>
 (bin2 Tryd.prog BinOp.add 3 (ot 34) (oc 1) (List.getD vs30 1 V.any) (vi 1)).bind fun v75 =>
 (keepO (some v1) (some v1) (some [(List.getD vs73 0 V.any), v75])).bind rec29) fun J74 =>
 condV v72 (
 ((oslR (List.getD vs30 0 V.any)).bind fun rows76 => inB (List.length rows76) (List.getD vs30 1 V.any)).bind fun v77 =>
 ((nodeL (List.getD vs30 0 V.any) (some (natOf (List.getD vs30 1 V.any))) 1).bind fun l78 => (ldk none (List.drop 0 l78)).bind pureO).bind fun v79 =>
 (bin2 Tryd.prog BinOp.add 3 (ot 75) (oc 1) v79 (vi 1)).bind fun v80 =>
 ((oslR (List.getD vs30 0 V.any)).bind fun rows81 => inB (List.length rows81) (List.getD vs30 1 V.any)).bind fun v82 =>
 (V.cellsO v80).bind fun v83 =>
 (setV (List.getD vs30 0 V.any) [] (Stp.mk (some (natOf (List.getD vs30 1 V.any))) 0 1) 1 v83).bind fun v84 =>
 (keepO (some v1) (some v1) (some [v84])).bind J74) (
 (keepO (some v1) (some v1) (some [(List.getD vs30 0 V.any)])).bind J74)) (
 (keepO (some v1) (some v1) (some [(List.getD vs30 0 V.any)])).bind J28)) n)) (
 (keepO (some v1) (some v1) (some [(List.getD vs18 0 V.any)])).bind J16)) n)) (
 J6 [(List.getD vs9 0 V.any)])) n) := by kernel_rfl
noncomputable def t_railref2_Links (a0 : T_Topo) (a1 : (List T_Fate)) : Option (List Int) :=
 (omake (List.length a0.Links : Int) (List.length a0.Links : Int) 0).bind fun r5 =>
 (loopI a1 (fun (i18 : Int) x19 (s14 : (List Int)) k15 =>
 ((loopU 1 (List.length x19.Hops : Int) (fun (i42 : Int) (s38 : (List Int)) k39 =>
 ((loopI a0.Links (fun (i70 : Int) x71 (s66 : (List Int)) k67 =>
 (idx x19.Hops i42).bind fun r86 =>
 (gd (!(decide (x71.A = r86.At))) default (idx x19.Hops i42)).bind fun r124 =>
 (if ((decide (x71.A = r86.At)) || (decide (x71.B = r124.At))) = true then (
 need (decide (0 ≤ i70) && decide (i70 < (List.length s66 : Int))) (
 (idx s66 i70).bind fun r145 =>
 need (decide (0 ≤ i70) && decide (i70 < (List.length s66 : Int))) (
 (oset s66 i70 (wr (r145 + 1))).bind fun r151 =>
 some (r151)))) else (
 some (s66))).bind fun (s137 : (List Int)) =>
 k67 (s137)) (fun (s66 : (List Int)) =>
 some (s66)) (s38)).bind fun (s61 : (List Int)) =>
 some (s61)).bind fun (s55 : (List Int)) =>
 k39 (s55)) (fun (i42 : Int) (s38 : (List Int)) =>
 some (s38)) (s14)).bind fun (s33 : (List Int)) =>
 some (s33)).bind fun (s27 : (List Int)) =>
 k15 (s27)) (fun (s14 : (List Int)) =>
 some (s14)) (r5)).bind fun (s8 : (List Int)) =>
 some s8
theorem ty_railref2_Links {n : Nat} (hn : bigN ≤ n) (a0 : T_Topo) (a1 : (List T_Fate)) : Rv (fun x : (List Int) => (V.sl (List.map cI x))) (sem_railref2_Links n [(T_Topo.e a0), (V.sl (List.map T_Fate.c a1))]) (t_railref2_Links a0 a1) := by
  rw [eq_railref2_Links]
  unfold t_railref2_Links
  refine tb (x := (T_Topo.c a0)) rfl ?_
  refine tb (x := (V.sl (List.map T_Link.c a0.Links))) (rfl) ?_
  refine tb (x := (vi (List.length a0.Links : Int))) (p_len _) ?_
  refine tbo (p_omake (c := cI) (List.length a0.Links : Int) (List.length a0.Links : Int) 0 rfl) fun r5 => ?_
  refine tjb (mk := fun s8 : (List Int) => [(V.osl 1 (List.map cI s8))]) (fun J7 => ?_) fun s8 => ?_
  · refine tkeepO2 ?_ rfl
    refine tsome ?_
    refine rf_loopI (mk := fun (i18 : Int) (s14 : (List Int)) => [(V.osl 1 (List.map cI s14)), (vi (i18 : Int))]) hn a1 (r5) (fun i18 x19 h20 h21 h22 s14 rec12 k15 h16 => ?_) (fun s14 rec165 h164 => ?_)
    · refine tb (x := (vi (List.length a1 : Int))) (p_len _) ?_
      refine tb (x := (vb (decide ((i18 : Int) < (List.length a1 : Int))))) (d_lss) ?_
      refine tcond_t h22 ?_
      refine tjb (mk := fun s27 : (List Int) => [(V.osl 1 (List.map cI s27))]) (fun J26 => ?_) fun s27 => ?_
      · refine tjb (mk := fun s33 : (List Int) => [(V.osl 1 (List.map cI s33))]) (fun J32 => ?_) fun s33 => ?_
        · refine tkeepO2 ?_ rfl
          refine tsome ?_
          refine rf_loopU (mk := fun (i42 : Int) (s38 : (List Int)) => [(V.osl 1 (List.map cI s38)), (vi i42)]) hn _ _ (s14) (fun i42 h43 h44 h45 s38 rec36 k39 h40 => ?_) (fun i42 s38 rec47 h46 => ?_)
          · refine tb (x := (V.ptr (T_Fate.c x19))) (p_idx_at (c := T_Fate.c) (fun _ => rfl) h20) ?_
            refine tb (x := (V.ptr (List.drop 2 (T_Fate.c x19)))) (rfl) ?_
            refine tb (x := (V.sl (List.map T_Hop.c x19.Hops))) (rfl) ?_
            refine tb (x := (vi (List.length x19.Hops : Int))) (p_len _) ?_
            refine tb (x := (vb (decide (i42 < (List.length x19.Hops : Int))))) (d_lss) ?_
            refine tcond_t h43 ?_
            refine tjb (mk := fun s55 : (List Int) => [(V.osl 1 (List.map cI s55))]) (fun J54 => ?_) fun s55 => ?_
            · refine tjb (mk := fun s61 : (List Int) => [(V.osl 1 (List.map cI s61))]) (fun J60 => ?_) fun s61 => ?_
              · refine tkeepO2 ?_ rfl
                refine tsome ?_
                refine rf_loopI (mk := fun (i70 : Int) (s66 : (List Int)) => [(V.osl 1 (List.map cI s66)), (vi (i70 : Int))]) hn a0.Links (s38) (fun i70 x71 h72 h73 h74 s66 rec64 k67 h68 => ?_) (fun s66 rec155 h154 => ?_)
                · refine tb (x := (V.sl (List.map T_Link.c a0.Links))) (rfl) ?_
                  refine tb (x := (vi (List.length a0.Links : Int))) (p_len _) ?_
                  refine tb (x := (vb (decide ((i70 : Int) < (List.length a0.Links : Int))))) (d_lss) ?_
                  refine tcond_t h74 ?_
                  refine tb (x := (V.sl (List.map T_Link.c a0.Links))) (rfl) ?_
                  refine tb (x := (V.ptr (T_Link.c x71))) (p_idx_at (c := T_Link.c) (fun _ => rfl) h72) ?_
                  refine tb (x := (V.ptr (T_Link.c x71))) (rfl) ?_
                  refine tb (x := (T_Spot.e x71.A)) (rfl) ?_
                  refine tb (x := (V.ptr (T_Fate.c x19))) (p_idx_at (c := T_Fate.c) (fun _ => rfl) h20) ?_
                  refine tb (x := (V.ptr (List.drop 2 (T_Fate.c x19)))) (rfl) ?_
                  refine tb (x := (V.sl (List.map T_Hop.c x19.Hops))) (rfl) ?_
                  refine tbo (p_idx (c := T_Hop.c) (fun _ => rfl) x19.Hops i42) fun r86 => ?_
                  refine tb (x := (V.ptr (T_Hop.c r86))) (rfl) ?_
                  refine tb (x := (T_Spot.e r86.At)) (rfl) ?_
                  refine tb (x := (vb (decide (x71.A = r86.At)))) (T_Spot.eql x71.A r86.At) ?_
                  refine tg_f (x := V.any) (fun h90 => rfl) ?_
                  refine tg_f (x := (V.sl (List.map T_Link.c a0.Links))) (fun h92 => bind_some_eq (gate_pos (not_t h92) (rfl))) ?_
                  refine tg_f (x := (vi (i70 : Int))) (fun h95 => rfl) ?_
                  refine tg_f (x := (V.ptr (T_Link.c x71))) (fun h97 => by simp only [gv_t h97]; exact bind_some_eq (p_idx_at (c := T_Link.c) (fun _ => rfl) h72)) ?_
                  refine tg_f (x := (V.ptr (List.drop 2 (T_Link.c x71)))) (fun h100 => by first | exact bind_some_eq (rfl) | (simp only [gv_t h100]; exact bind_some_eq (rfl))) ?_
                  refine tg_f (x := (T_Spot.e x71.B)) (fun h103 => by first | exact bind_some_eq (rfl) | (simp only [gv_t h103]; exact bind_some_eq (rfl))) ?_
                  refine tg_f (x := (V.sl (List.map T_Fate.c a1))) (fun h106 => rfl) ?_
                  refine tg_f (x := (vi (i18 : Int))) (fun h108 => rfl) ?_
                  refine tg_f (x := (V.ptr (T_Fate.c x19))) (fun h110 => by simp only [gv_t h110]; exact bind_some_eq (p_idx_at (c := T_Fate.c) (fun _ => rfl) h20)) ?_
                  refine tg_f (x := (V.ptr (List.drop 2 (T_Fate.c x19)))) (fun h113 => by first | exact bind_some_eq (rfl) | (simp only [gv_t h113]; exact bind_some_eq (rfl))) ?_
                  refine tg_f (x := (V.sl (List.map T_Hop.c x19.Hops))) (fun h116 => by first | exact bind_some_eq (rfl) | (simp only [gv_t h116]; exact bind_some_eq (rfl))) ?_
                  refine tg_f (x := (vi i42)) (fun h119 => rfl) ?_
                  refine tgo_f (fun h121 => by simp only [gv_t h121]; exact rf_bind_some (p_idx (c := T_Hop.c) (fun _ => rfl) x19.Hops i42)) fun r124 => ?_
                  refine tg_f (x := (V.ptr (T_Hop.c r124))) (fun h125 => by first | exact bind_some_eq (rfl) | (simp only [gv_t h125]; exact bind_some_eq (rfl))) ?_
                  refine tg_f (x := (T_Spot.e r124.At)) (fun h128 => by first | exact bind_some_eq (rfl) | (simp only [gv_t h128]; exact bind_some_eq (rfl))) ?_
                  refine tg_f (x := (vb (decide (x71.B = r124.At)))) (fun h131 => by simp only [gv_t h131]; exact bind_some_eq (T_Spot.eql x71.B r124.At)) ?_
                  refine tb (x := (vb ((decide (x71.A = r86.At)) || (decide (x71.B = r124.At))))) (pick_or (fun h9 => gv_t (not_f h9))) ?_
                  refine tjb (mk := fun s137 : (List Int) => [(V.osl 1 (List.map cI s137))]) (fun J136 => ?_) fun s137 => ?_
                  · refine tcond (fun h141 => ?_) (fun h141 => ?_)
                    · refine tneed (x := V.any) (fun h153 => p_inB s66 (i70 : Int) h153) fun h153 => ?_
                      refine tbo (p_oload (e1 := fun x : Int => (vi x)) (c := cI) (fun _ => rfl) s66 (i70 : Int) (fun _ => rfl)) fun r145 => ?_
                      refine tb (x := (vi (wr (r145 + 1)))) (d_add) ?_
                      refine tneed (x := V.any) (fun h152 => p_inB s66 (i70 : Int) h152) fun h152 => ?_
                      refine tb (x := cI (wr (r145 + 1))) rfl ?_
                      refine tbo (p_oset (c := cI) (fun _ => rfl) s66 (i70 : Int) (wr (r145 + 1))) fun r151 => ?_
                      refine tkeepO2 ?_ rfl
                      refine tsome ?_
                      exact rf_j rfl
                    · refine tkeepO2 ?_ rfl
                      refine tsome ?_
                      exact rf_j rfl
                  · refine tb (x := (vi ((i70 : Int) + 1))) (p_incN h73) ?_
                    refine tkeepO2 ?_ rfl
                    refine tsome ?_
                    exact h68 (s137)
                · refine tb (x := (V.sl (List.map T_Link.c a0.Links))) (rfl) ?_
                  refine tb (x := (vi (List.length a0.Links : Int))) (p_len _) ?_
                  refine tb (x := (vb (decide ((List.length a0.Links : Int) < (List.length a0.Links : Int))))) (d_lss) ?_
                  refine tcond_f h154 ?_
                  refine tkeepO2 ?_ rfl
                  refine tsome ?_
                  exact rf_j rfl
              · refine tkeepO2 ?_ rfl
                refine tsome ?_
                exact rf_j rfl
            · refine tb (x := (vi (i42 + 1))) (p_inc h44 h45) ?_
              refine tkeepO2 ?_ rfl
              refine tsome ?_
              exact h40 (s55)
          · refine tb (x := (V.ptr (T_Fate.c x19))) (p_idx_at (c := T_Fate.c) (fun _ => rfl) h20) ?_
            refine tb (x := (V.ptr (List.drop 2 (T_Fate.c x19)))) (rfl) ?_
            refine tb (x := (V.sl (List.map T_Hop.c x19.Hops))) (rfl) ?_
            refine tb (x := (vi (List.length x19.Hops : Int))) (p_len _) ?_
            refine tb (x := (vb (decide (i42 < (List.length x19.Hops : Int))))) (d_lss) ?_
            refine tcond_f h46 ?_
            refine tkeepO2 ?_ rfl
            refine tsome ?_
            exact rf_j rfl
        · refine tkeepO2 ?_ rfl
          refine tsome ?_
          exact rf_j rfl
      · refine tb (x := (vi ((i18 : Int) + 1))) (p_incN h21) ?_
        refine tkeepO2 ?_ rfl
        refine tsome ?_
        exact h16 (s27)
    · refine tb (x := (vi (List.length a1 : Int))) (p_len _) ?_
      refine tb (x := (vb (decide ((List.length a1 : Int) < (List.length a1 : Int))))) (d_lss) ?_
      refine tcond_f h164 ?_
      exact rf_j rfl
  · refine tb (x := (V.sl (List.map cI s8))) (p_frz (c := cI) (fun _ => rfl) s8) ?_
    exact rf_ret rfl

/-! railpoint/railref1.Named -/
def an_railref1_Named : Ann := .seq (.reg 0 [] [] []) (.seq (.seq (.reg 0 [] [] []) (.blk (some []) (.loop [.kb 2, .s 5] (.seq (.seq (.reg 0 [] [] []) (.cond none (.no) (.no))) (.seq (.blk none (.seq (.reg 0 [] [] []) (.cond none (.seq (.reg 0 [] [] []) (.no)) (.no)))) (.reg 0 [] [] [])))))) (.seq (.reg 0 [] [] []) (.no)))
noncomputable def sem_railref1_Named (n : Nat) (xs : List V) : Option V := if xs.length ≤ 22 then denF Tryd.prog (envOf []) n Tryd.f9 an_railref1_Named xs else none
theorem ok_railref1_Named (n : Nat) : SemOk Tryd.prog DW 9 (sem_railref1_Named n) := fun xs y h => by
  unfold sem_railref1_Named at h
  split at h
  · rename_i hl
    exact denF_ok stb Tryd.func9 (by kernel_rfl) (envOf_ok semsOk_nil) (by rw [Tryd.ntmps9]; exact hl) h
  · cases h
theorem eq_railref1_Named (n : Nat) (x0 x1 : V) : sem_railref1_Named n [x0, x1] =
 (V.cellsO x0).bind fun v1 =>
 JoinPt (fun vs2 =>
 some (vi (-1 : Int))) fun J3 =>
 (keepO (some v1) (some v1) (some [(vi 0)])).bind (fixN (fun rec4 vs5 =>
 (ldk none (List.drop 2 v1)).bind fun v6 =>
 (lenS [v6]).bind fun v7 =>
 (bin2 Tryd.prog BinOp.lss 3 (ot 6) (ot 9) (List.getD vs5 0 V.any) v7).bind fun v8 =>
 condV v8 (
 (ldk none (List.drop 2 v1)).bind fun v9 =>
 (idxS 3 v9 (List.getD vs5 0 V.any)).bind fun v10 =>
 (ptrF 0 v10).bind fun v11 =>
 (ldp none v11).bind fun v12 =>
 (bin2 Tryd.prog BinOp.eql 9 (ot 18) (ot 19) v12 x1).bind fun v13 =>
 condV v13 (
 some (List.getD vs5 0 V.any)) (
 (bin2 Tryd.prog BinOp.add 3 (ot 11) (oc 1) (List.getD vs5 0 V.any) (vi 1)).bind fun v14 =>
 (keepO (some v1) (some v1) (some [v14])).bind rec4)) (
 J3 [])) n) := by kernel_rfl
noncomputable def t_railref1_Named (a0 : T_Topo) (a1 : ByteArray) : Option Int :=
 join (fun (s4 : Unit) =>
 some (-1 : Int)) fun j5 =>
 loopI a0.Hosts (fun (i13 : Int) x14 (s9 : Unit) k10 =>
 if (decide (x14.Name = a1)) = true then (
 some i13) else (
 k10 ())) (fun (s9 : Unit) =>
 j5 ()) ()
theorem ty_railref1_Named {n : Nat} (hn : bigN ≤ n) (a0 : T_Topo) (a1 : ByteArray) : Rv (fun x : Int => (vi x)) (sem_railref1_Named n [(T_Topo.e a0), (vt a1)]) (t_railref1_Named a0 a1) := by
  rw [eq_railref1_Named]
  unfold t_railref1_Named
  refine tb (x := (T_Topo.c a0)) rfl ?_
  refine tjoin (mk := fun s4 : Unit => []) (fun s4 => ?_) fun J3 j5 h6 => ?_
  · exact rf_ret rfl
  · refine tkeepO2 ?_ rfl
    refine tsome ?_
    refine rf_loopI (mk := fun (i13 : Int) (s9 : Unit) => [(vi (i13 : Int))]) hn a0.Hosts () (fun i13 x14 h15 h16 h17 s9 rec7 k10 h11 => ?_) (fun s9 rec29 h28 => ?_)
    · refine tb (x := (V.sl (List.map T_Host.c a0.Hosts))) (rfl) ?_
      refine tb (x := (vi (List.length a0.Hosts : Int))) (p_len _) ?_
      refine tb (x := (vb (decide ((i13 : Int) < (List.length a0.Hosts : Int))))) (d_lss) ?_
      refine tcond_t h17 ?_
      refine tb (x := (V.sl (List.map T_Host.c a0.Hosts))) (rfl) ?_
      refine tb (x := (V.ptr (T_Host.c x14))) (p_idx_at (c := T_Host.c) (fun _ => rfl) h15) ?_
      refine tb (x := (V.ptr (T_Host.c x14))) (rfl) ?_
      refine tb (x := (vt x14.Name)) (rfl) ?_
      refine tb (x := (vb (decide (x14.Name = a1)))) (p_eql_str) ?_
      refine tcond (fun h26 => ?_) (fun h26 => ?_)
      · exact rf_ret rfl
      · refine tb (x := (vi ((i13 : Int) + 1))) (p_incN h16) ?_
        refine tkeepO2 ?_ rfl
        refine tsome ?_
        exact h11 ()
    · refine tb (x := (V.sl (List.map T_Host.c a0.Hosts))) (rfl) ?_
      refine tb (x := (vi (List.length a0.Hosts : Int))) (p_len _) ?_
      refine tb (x := (vb (decide ((List.length a0.Hosts : Int) < (List.length a0.Hosts : Int))))) (d_lss) ?_
      refine tcond_f h28 ?_
      exact h6 ()

/-! railpoint/topo.Spot -/
def an_topo_Spot : Ann := .seq (.reg 0 [] [] []) (.seq (.reg 0 [] [] []) (.no))
noncomputable def sem_topo_Spot (n : Nat) (xs : List V) : Option V := if xs.length ≤ 25 then denF Tryd.prog (envOf []) n Tryd.f70 an_topo_Spot xs else none
theorem ok_topo_Spot (n : Nat) : SemOk Tryd.prog DW 70 (sem_topo_Spot n) := fun xs y h => by
  unfold sem_topo_Spot at h
  split at h
  · rename_i hl
    exact denF_ok stb Tryd.func70 (by kernel_rfl) (envOf_ok semsOk_nil) (by rw [Tryd.ntmps70]; exact hl) h
  · cases h
theorem eq_topo_Spot (n : Nat) (x0 x1 : V) : sem_topo_Spot n [x0, x1] =
 (V.cellsO x0).bind fun v1 =>
 (V.cellsO x1).bind fun v2 =>
 (ldk none (List.drop 0 v2)).bind fun v3 =>
 (bin2 Tryd.prog BinOp.geq 3 (ot 6) (oc 1) v3 (vi 1)).bind fun v4 =>
 (guardV v4 true (some V.any)).bind fun v5 =>
 (guardV v4 true ((gate v4 true (ldk none (List.drop 0 v2))).bind fun v6 =>
 some v6)).bind fun v7 =>
 (guardV v4 true (some V.any)).bind fun v8 =>
 (guardV v4 true ((gate v4 true (ldk none (List.drop 0 v1))).bind fun v9 =>
 some v9)).bind fun v10 =>
 (guardV v4 true ((bin2 Tryd.prog BinOp.leq 3 (ot 10) (ot 12) v7 v10).bind fun v11 =>
 some v11)).bind fun v12 =>
 (pickV v4 v12 (vb false)).bind fun v13 =>
 (guardV v13 true (some V.any)).bind fun v14 =>
 (guardV v13 true ((gate v13 true (ldk none (List.drop 1 v2))).bind fun v15 =>
 some v15)).bind fun v16 =>
 (guardV v13 true ((bin2 Tryd.prog BinOp.geq 3 (ot 17) (oc 1) v16 (vi 1)).bind fun v17 =>
 some v17)).bind fun v18 =>
 (pickV v13 v18 (vb false)).bind fun v19 =>
 (guardV v19 true (some V.any)).bind fun v20 =>
 (guardV v19 true ((gate v19 true (ldk none (List.drop 1 v2))).bind fun v21 =>
 some v21)).bind fun v22 =>
 (guardV v19 true ((bin2 Tryd.prog BinOp.leq 3 (ot 22) (oc 4) v22 (vi 4)).bind fun v23 =>
 some v23)).bind fun v24 =>
 (pickV v19 v24 (vb false)).bind fun v25 =>
 some v25 := by kernel_rfl
noncomputable def t_topo_Spot (a0 : T_Topo) (a1 : T_Spot) : Option Bool :=
 some ((((decide (1 ≤ a1.Switch)) && (decide (a1.Switch ≤ a0.Switches))) && (decide (1 ≤ a1.Port))) && (decide (a1.Port ≤ 4)))
theorem ty_topo_Spot {n : Nat} (hn : bigN ≤ n) (a0 : T_Topo) (a1 : T_Spot) : Rv (fun x : Bool => (vb x)) (sem_topo_Spot n [(T_Topo.e a0), (T_Spot.e a1)]) (t_topo_Spot a0 a1) := by
  rw [eq_topo_Spot]
  unfold t_topo_Spot
  refine tb (x := (T_Topo.c a0)) rfl ?_
  refine tb (x := (T_Spot.c a1)) rfl ?_
  refine tb (x := (vi a1.Switch)) (rfl) ?_
  refine tb (x := (vb (decide (1 ≤ a1.Switch)))) (d_geq) ?_
  refine tg (x := V.any) (fun h5 => rfl) ?_
  refine tg (x := (vi a1.Switch)) (fun h7 => bind_some_eq (gate_pos h7 (rfl))) ?_
  refine tg (x := V.any) (fun h10 => rfl) ?_
  refine tg (x := (vi a0.Switches)) (fun h12 => bind_some_eq (gate_pos h12 (rfl))) ?_
  refine tg (x := (vb (decide (a1.Switch ≤ a0.Switches)))) (fun h15 => by simp only [gv_t h15]; exact bind_some_eq (d_leq)) ?_
  refine tb (x := (vb ((decide (1 ≤ a1.Switch)) && (decide (a1.Switch ≤ a0.Switches))))) (pick_and (fun h9 => gv_t h9)) ?_
  refine tg (x := V.any) (fun h19 => rfl) ?_
  refine tg (x := (vi a1.Port)) (fun h21 => bind_some_eq (gate_pos h21 (rfl))) ?_
  refine tg (x := (vb (decide (1 ≤ a1.Port)))) (fun h24 => by simp only [gv_t h24]; exact bind_some_eq (d_geq)) ?_
  refine tb (x := (vb (((decide (1 ≤ a1.Switch)) && (decide (a1.Switch ≤ a0.Switches))) && (decide (1 ≤ a1.Port))))) (pick_and (fun h9 => gv_t h9)) ?_
  refine tg (x := V.any) (fun h28 => rfl) ?_
  refine tg (x := (vi a1.Port)) (fun h30 => bind_some_eq (gate_pos h30 (rfl))) ?_
  refine tg (x := (vb (decide (a1.Port ≤ 4)))) (fun h33 => by simp only [gv_t h33]; exact bind_some_eq (d_leq)) ?_
  refine tb (x := (vb ((((decide (1 ≤ a1.Switch)) && (decide (a1.Switch ≤ a0.Switches))) && (decide (1 ≤ a1.Port))) && (decide (a1.Port ≤ 4))))) (pick_and (fun h9 => gv_t h9)) ?_
  exact rf_ret rfl

/-! railpoint/topo.Name -/
def an_topo_Name : Ann := .seq (.reg 0 [] [] []) (.seq (.seq (.reg 0 [] [] []) (.blk (some []) (.loop [.s 8] (.seq (.reg 0 [] [] []) (.seq (.cond none (.no) (.no)) (.seq (.blk none (.seq (.reg 0 [] [] []) (.seq (.reg 0 [] [] []) (.cond none (.seq (.reg 0 [] [] []) (.no)) (.no))))) (.reg 0 [] [] []))))))) (.seq (.reg 0 [] [] []) (.no)))
noncomputable def sem_topo_Name (n : Nat) (xs : List V) : Option V := if xs.length ≤ 26 then denF Tryd.prog (envOf []) n Tryd.f71 an_topo_Name xs else none
theorem ok_topo_Name (n : Nat) : SemOk Tryd.prog DW 71 (sem_topo_Name n) := fun xs y h => by
  unfold sem_topo_Name at h
  split at h
  · rename_i hl
    exact denF_ok stb Tryd.func71 (by kernel_rfl) (envOf_ok semsOk_nil) (by rw [Tryd.ntmps71]; exact hl) h
  · cases h
theorem eq_topo_Name (n : Nat) (x0 : V) : sem_topo_Name n [x0] =
 (s2b x0).bind fun v1 =>
 (lenS [v1]).bind fun v2 =>
 JoinPt (fun vs3 =>
 (bin2 Tryd.prog BinOp.neq 9 (ot 19) (Operand.const (Go.Value.string (ByteArray.mk #[]))) x0 (V.lit (Go.Value.string (ByteArray.mk #[])))).bind fun v5 =>
 (guardV v5 true (some x0)).bind fun v6 =>
 (guardV v5 true ((lenT [v6]).bind fun v7 =>
 some v7)).bind fun v8 =>
 (guardV v5 true ((bin2 Tryd.prog BinOp.leq 3 (ot 23) (oc 6) v8 (vi 6)).bind fun v9 =>
 some v9)).bind fun v10 =>
 (pickV v5 v10 (vb false)).bind fun v11 =>
 some v11) fun J4 =>
 (fixN (fun rec12 vs13 =>
 (bin2 Tryd.prog BinOp.lss 3 (ot 8) (ot 7) (List.getD vs13 0 V.any) v2).bind fun v14 =>
 condV v14 (
 (idxS 1 v1 (List.getD vs13 0 V.any)).bind fun v15 =>
 (ldp none v15).bind fun v16 =>
 (bin2 Tryd.prog BinOp.lss 5 (ot 12) (Operand.const (Go.Value.int Go.IntKind.u8 97)) v16 (V.lit (Go.Value.int Go.IntKind.u8 97))).bind fun v17 =>
 (guardV v17 false (some v16)).bind fun v18 =>
 (guardV v17 false ((bin2 Tryd.prog BinOp.gtr 5 (ot 15) (Operand.const (Go.Value.int Go.IntKind.u8 122)) v18 (V.lit (Go.Value.int Go.IntKind.u8 122))).bind fun v19 =>
 some v19)).bind fun v20 =>
 (pickV v17 (vb true) v20).bind fun v21 =>
 condV v21 (
 some (vb false)) (
 (bin2 Tryd.prog BinOp.add 3 (ot 8) (oc 1) (List.getD vs13 0 V.any) (vi 1)).bind fun v22 =>
 rec12 [v22])) (
 J4 [])) n) [(vi 0)] := by kernel_rfl
noncomputable def t_topo_Name (a0 : ByteArray) : Option Bool :=
 need (decide ((a0.size : Int) ≤ maxI)) (
 join (fun (s5 : Unit) =>
 some ((!decide (a0 = (ByteArray.mk #[]))) && (decide ((a0.size : Int) ≤ 6)))) fun j6 =>
 loopI (numsOf a0) (fun (i24 : Int) x25 (s20 : Unit) k21 =>
 if ((decide (x25 < 97)) || (decide (122 < x25))) = true then (
 some false) else (
 k21 ())) (fun (s20 : Unit) =>
 j6 ()) ())
theorem ty_topo_Name {n : Nat} (hn : bigN ≤ n) (a0 : ByteArray) : Rv (fun x : Bool => (vb x)) (sem_topo_Name n [(vt a0)]) (t_topo_Name a0) := by
  rw [eq_topo_Name]
  unfold t_topo_Name
  refine tneed (x := (V.sl (List.map cY (numsOf a0)))) (fun h44 => p_s2b h44) fun h44 => ?_
  refine tb (x := (vi (List.length (numsOf a0) : Int))) (p_len _) ?_
  refine tjoin (mk := fun s5 : Unit => []) (fun s5 => ?_) fun J4 j6 h7 => ?_
  · refine tb (x := (vb (!decide (a0 = (ByteArray.mk #[]))))) (p_neq_str) ?_
    refine tg (x := (vt a0)) (fun h9 => rfl) ?_
    refine tg (x := (vi (a0.size : Int))) (fun h11 => by simp only [gv_t h11]; exact bind_some_eq (rfl)) ?_
    refine tg (x := (vb (decide ((a0.size : Int) ≤ 6)))) (fun h14 => by simp only [gv_t h14]; exact bind_some_eq (d_leq)) ?_
    refine tb (x := (vb ((!decide (a0 = (ByteArray.mk #[]))) && (decide ((a0.size : Int) ≤ 6))))) (pick_and (fun h9 => gv_t h9)) ?_
    exact rf_ret rfl
  · refine rf_loopI (mk := fun (i24 : Int) (s20 : Unit) => [(vi (i24 : Int))]) hn (numsOf a0) () (fun i24 x25 h26 h27 h28 s20 rec18 k21 h22 => ?_) (fun s20 rec42 h41 => ?_)
    · refine tb (x := (vb (decide ((i24 : Int) < (List.length (numsOf a0) : Int))))) (d_lss) ?_
      refine tcond_t h28 ?_
      refine tb (x := (V.ptr [(V.lit (.int .u8 x25))])) (p_idx_at (c := cY) (fun _ => rfl) h26) ?_
      refine tb (x := (V.lit (.int .u8 x25))) (rfl) ?_
      refine tb (x := (vb (decide (x25 < 97)))) (q_lss) ?_
      refine tg_f (x := (V.lit (.int .u8 x25))) (fun h33 => rfl) ?_
      refine tg_f (x := (vb (decide (122 < x25)))) (fun h35 => by simp only [gv_t h35]; exact bind_some_eq (q_gtr)) ?_
      refine tb (x := (vb ((decide (x25 < 97)) || (decide (122 < x25))))) (pick_or (fun h9 => gv_t (not_f h9))) ?_
      refine tcond (fun h39 => ?_) (fun h39 => ?_)
      · exact rf_ret rfl
      · refine tb (x := (vi ((i24 : Int) + 1))) (p_incN h27) ?_
        exact h22 ()
    · refine tb (x := (vb (decide ((List.length (numsOf a0) : Int) < (List.length (numsOf a0) : Int))))) (d_lss) ?_
      refine tcond_f h41 ?_
      exact h7 ()

/-! railpoint/topo.Check -/
def an_topo_Check : Ann := .seq (.reg 0 [] [] []) (.seq (.blk none (.seq (.reg 0 [] [] []) (.cond none (.seq (.reg 0 [] [] []) (.no)) (.seq (.reg 0 [] [] []) (.cond none (.seq (.reg 0 [] [] []) (.no)) (.no)))))) (.seq (.reg 0 [] [] []) (.seq (.seq (.reg 0 [] [] []) (.blk (some [.kb 1, .o 3]) (.loop [.kb 1, .o 3, .s 35] (.seq (.reg 0 [] [] []) (.seq (.cond none (.no) (.no)) (.seq (.blk none (.seq (.reg 0 [] [] []) (.seq (.seq (.reg 0 [] [] []) (.cond none (.seq (.reg 0 [] [] []) (.no)) (.no))) (.seq (.seq (.reg 0 [] [] []) (.cond none (.seq (.reg 0 [] [] []) (.no)) (.no))) (.reg 72 [] [] []))))) (.reg 0 [] [] []))))))) (.seq (.reg 0 [] [] []) (.seq (.seq (.reg 0 [] [] []) (.blk (some []) (.loop [.kb 1, .o 3, .o 6, .s 81] (.seq (.reg 0 [] [] []) (.seq (.cond none (.no) (.no)) (.seq (.blk none (.seq (.reg 0 [] [] []) (.seq (.blk none (.seq (.reg 0 [] [] []) (.cond none (.seq (.reg 0 [] [] []) (.no)) (.seq (.reg 0 [] [] []) (.cond none (.seq (.reg 0 [] [] []) (.no)) (.seq (.reg 0 [] [] []) (.cond none (.seq (.reg 0 [] [] []) (.no)) (.no)))))))) (.reg 72 [] [] [])))) (.reg 0 [] [] []))))))) (.seq (.reg 0 [] [] []) (.no)))))))
noncomputable def sem_topo_Check (n : Nat) (xs : List V) : Option V := if xs.length ≤ 117 then denF Tryd.prog (envOf [(70, (sem_topo_Spot n)), (71, (sem_topo_Name n))]) n Tryd.f47 an_topo_Check xs else none
theorem ok_topo_Check (n : Nat) : SemOk Tryd.prog DW 47 (sem_topo_Check n) := fun xs y h => by
  unfold sem_topo_Check at h
  split at h
  · rename_i hl
    exact denF_ok stb Tryd.func47 (by kernel_rfl) (envOf_ok (semsOk_cons (ok_topo_Spot n) (semsOk_cons (ok_topo_Name n) semsOk_nil))) (by rw [Tryd.ntmps47]; exact hl) h
  · cases h
theorem eq_topo_Check (n : Nat) (x0 : V) : sem_topo_Check n [x0] =
 (V.cellsO x0).bind fun v1 =>
 (ldk none (List.drop 0 v1)).bind fun v2 =>
 (bin2 Tryd.prog BinOp.lss 3 (ot 11) (oc 1) v2 (vi 1)).bind fun v3 =>
 (guardV v3 false (some V.any)).bind fun v4 =>
 (guardV v3 false ((gate v3 false (ldk none (List.drop 0 v1))).bind fun v5 =>
 some v5)).bind fun v6 =>
 (guardV v3 false ((bin2 Tryd.prog BinOp.gtr 3 (ot 15) (oc 6) v6 (vi 6)).bind fun v7 =>
 some v7)).bind fun v8 =>
 (pickV v3 (vb true) v8).bind fun v9 =>
 condV v9 (
 (scal1 Tryd.prog (Instr.makeInterface 90) (vi 1)).bind fun v10 =>
 some v10) (
 (ldk none (List.drop 1 v1)).bind fun v11 =>
 (lenS [v11]).bind fun v12 =>
 (bin2 Tryd.prog BinOp.gtr 3 (ot 22) (oc 200) v12 (vi 200)).bind fun v13 =>
 (guardV v13 false (some V.any)).bind fun v14 =>
 (guardV v13 false ((gate v13 false (ldk none (List.drop 2 v1))).bind fun v15 =>
 some v15)).bind fun v16 =>
 (guardV v13 false ((lenS [v16]).bind fun v17 =>
 some v17)).bind fun v18 =>
 (guardV v13 false ((bin2 Tryd.prog BinOp.gtr 3 (ot 27) (oc 8) v18 (vi 8)).bind fun v19 =>
 some v19)).bind fun v20 =>
 (pickV v13 (vb true) v20).bind fun v21 =>
 condV v21 (
 (scal1 Tryd.prog (Instr.makeInterface 90) (vi 4)).bind fun v22 =>
 some v22) (
 (ldk none (List.drop 1 v1)).bind fun v23 =>
 (lenS [v23]).bind fun v24 =>
 JoinPt (fun vs25 =>
 (ldk none (List.drop 2 v1)).bind fun v27 =>
 (lenS [v27]).bind fun v28 =>
 JoinPt (fun vs29 =>
 some vn) fun J30 =>
 (keepO (some v1) (some v1) (some [(List.getD vs25 0 V.any), (V.mp []), (vi 0)])).bind (fixN (fun rec31 vs32 =>
 (bin2 Tryd.prog BinOp.lss 3 (ot 81) (ot 80) (List.getD vs32 2 V.any) v28).bind fun v33 =>
 condV v33 (
 (idxS 3 v27 (List.getD vs32 2 V.any)).bind fun v34 =>
 (ldp (some 3) v34).bind fun v35 =>
 (spliceV [(V.lit (Go.Value.string (ByteArray.mk #[]))), (vi 0), (vi 0)] 0 3 v35).bind fun v36 =>
 (ldk none (List.drop 0 (aggL v36))).bind fun v37 =>
 ((sem_topo_Name n) [v37]).bind fun v38 =>
 (scal1 Tryd.prog (Op.unary Go.UnOp.not) v38).bind fun v39 =>
 condV v39 (
 (scal1 Tryd.prog (Instr.makeInterface 90) (vi 2)).bind fun v40 =>
 some v40) (
 (ldk (some 3) (List.drop 0 v1)).bind fun v41 =>
 (ldk (some 2) (List.drop 1 (aggL v36))).bind fun v42 =>
 ((sem_topo_Spot n) [v41, v42]).bind fun v43 =>
 (scal1 Tryd.prog (Op.unary Go.UnOp.not) v43).bind fun v44 =>
 condV v44 (
 (scal1 Tryd.prog (Instr.makeInterface 90) (vi 1)).bind fun v45 =>
 some v45) (
 (ldk none (List.drop 0 (aggL v36))).bind fun v46 =>
 (lookV Tryd.prog 140 false (List.getD vs32 1 V.any) v46).bind fun v47 =>
 (guardV v47 false (some V.any)).bind fun v48 =>
 (guardV v47 false (some V.any)).bind fun v49 =>
 (guardV v47 false ((gate v47 false (ldk (some 2) (List.drop 1 (aggL v36)))).bind fun v50 =>
 some v50)).bind fun v51 =>
 (guardV v47 false ((gate v47 false (lookV Tryd.prog 139 false (List.getD vs32 0 V.any) v51)).bind fun v52 =>
 some v52)).bind fun v53 =>
 (pickV v47 (vb true) v53).bind fun v54 =>
 condV v54 (
 (scal1 Tryd.prog (Instr.makeInterface 90) (vi 7)).bind fun v55 =>
 some v55) (
 (ldk none (List.drop 0 (aggL v36))).bind fun v56 =>
 (litV v56).bind fun v57 =>
 (ldk (some 2) (List.drop 1 (aggL v36))).bind fun v58 =>
 (litV v58).bind fun v59 =>
 (putV Tryd.prog 140 (List.getD vs32 1 V.any) v57 (vb true)).bind fun v60 =>
 (putV Tryd.prog 139 (List.getD vs32 0 V.any) v59 (vb true)).bind fun v61 =>
 (bin2 Tryd.prog BinOp.add 3 (ot 81) (oc 1) (List.getD vs32 2 V.any) (vi 1)).bind fun v62 =>
 (keepO (some v1) (some v1) (some [v61, v60, v62])).bind rec31)))) (
 J30 [])) n)) fun J26 =>
 (keepO (some v1) (some v1) (some [(V.mp []), (vi 0)])).bind (fixN (fun rec63 vs64 =>
 (bin2 Tryd.prog BinOp.lss 3 (ot 35) (ot 34) (List.getD vs64 1 V.any) v24).bind fun v65 =>
 condV v65 (
 (idxS 4 v23 (List.getD vs64 1 V.any)).bind fun v66 =>
 (ldp (some 4) v66).bind fun v67 =>
 (spliceV [(vi 0), (vi 0), (vi 0), (vi 0)] 0 4 v67).bind fun v68 =>
 (ldk (some 3) (List.drop 0 v1)).bind fun v69 =>
 (ldk (some 2) (List.drop 0 (aggL v68))).bind fun v70 =>
 ((sem_topo_Spot n) [v69, v70]).bind fun v71 =>
 (scal1 Tryd.prog (Op.unary Go.UnOp.not) v71).bind fun v72 =>
 (guardV v72 false ((ldk (some 3) (List.drop 0 v1)).bind fun v73 =>
 some v73)).bind fun v74 =>
 (guardV v72 false (some V.any)).bind fun v75 =>
 (guardV v72 false ((gate v72 false (ldk (some 2) (List.drop 2 (aggL v68)))).bind fun v76 =>
 some v76)).bind fun v77 =>
 (guardV v72 false (((sem_topo_Spot n) [v74, v77]).bind fun v78 =>
 some v78)).bind fun v79 =>
 (guardV v72 false ((scal1 Tryd.prog (Op.unary Go.UnOp.not) v79).bind fun v80 =>
 some v80)).bind fun v81 =>
 (pickV v72 (vb true) v81).bind fun v82 =>
 condV v82 (
 (scal1 Tryd.prog (Instr.makeInterface 90) (vi 1)).bind fun v83 =>
 some v83) (
 (ldk (some 2) (List.drop 0 (aggL v68))).bind fun v84 =>
 (lookV Tryd.prog 139 false (List.getD vs64 0 V.any) v84).bind fun v85 =>
 (guardV v85 false (some V.any)).bind fun v86 =>
 (guardV v85 false (some V.any)).bind fun v87 =>
 (guardV v85 false ((gate v85 false (ldk (some 2) (List.drop 2 (aggL v68)))).bind fun v88 =>
 some v88)).bind fun v89 =>
 (guardV v85 false ((gate v85 false (lookV Tryd.prog 139 false (List.getD vs64 0 V.any) v89)).bind fun v90 =>
 some v90)).bind fun v91 =>
 (pickV v85 (vb true) v91).bind fun v92 =>
 (guardV v92 false (some V.any)).bind fun v93 =>
 (guardV v92 false ((gate v92 false (ldk (some 2) (List.drop 0 (aggL v68)))).bind fun v94 =>
 some v94)).bind fun v95 =>
 (guardV v92 false (some V.any)).bind fun v96 =>
 (guardV v92 false ((gate v92 false (ldk (some 2) (List.drop 2 (aggL v68)))).bind fun v97 =>
 some v97)).bind fun v98 =>
 (guardV v92 false ((bin2 Tryd.prog BinOp.eql 43 (ot 64) (ot 66) v95 v98).bind fun v99 =>
 some v99)).bind fun v100 =>
 (pickV v92 (vb true) v100).bind fun v101 =>
 condV v101 (
 (scal1 Tryd.prog (Instr.makeInterface 90) (vi 7)).bind fun v102 =>
 some v102) (
 (ldk (some 2) (List.drop 0 (aggL v68))).bind fun v103 =>
 (litV v103).bind fun v104 =>
 (ldk (some 2) (List.drop 2 (aggL v68))).bind fun v105 =>
 (litV v105).bind fun v106 =>
 (putV Tryd.prog 139 (List.getD vs64 0 V.any) v104 (vb true)).bind fun v107 =>
 (putV Tryd.prog 139 v107 v106 (vb true)).bind fun v108 =>
 (bin2 Tryd.prog BinOp.add 3 (ot 35) (oc 1) (List.getD vs64 1 V.any) (vi 1)).bind fun v109 =>
 (keepO (some v1) (some v1) (some [v108, v109])).bind rec63))) (
 (keepO (some v1) (some v1) (some [(List.getD vs64 0 V.any)])).bind J26)) n))) := by kernel_rfl
noncomputable def t_topo_Check (a0 : T_Topo) : Option Int :=
 if ((decide (a0.Switches < 1)) || (decide (6 < a0.Switches))) = true then (
 some 1) else (
 if ((decide (200 < (List.length a0.Links : Int))) || (decide (8 < (List.length a0.Hosts : Int)))) = true then (
 some 4) else (
 join (fun (s36 : (List (T_Spot × Bool))) =>
 join (fun (s43 : Unit) =>
 some 0) fun j44 =>
 loopI a0.Hosts (fun (i52 : Int) x53 (s48 : ((List (T_Spot × Bool)) × (List (ByteArray × Bool)))) k49 =>
 (t_topo_Name x53.Name).bind fun r63 =>
 if (!r63) = true then (
 some 2) else (
 (t_topo_Spot a0 x53.At).bind fun r70 =>
 if (!r70) = true then (
 some 1) else (
 if ((mget s48.2 x53.Name false) || (mget s48.1 x53.At false)) = true then (
 some 7) else (
 k49 ((mput s48.1 x53.At true), (mput s48.2 x53.Name true)))))) (fun (s48 : ((List (T_Spot × Bool)) × (List (ByteArray × Bool)))) =>
 j44 ()) (s36, [])) fun j37 =>
 loopI a0.Links (fun (i105 : Int) x106 (s101 : (List (T_Spot × Bool))) k102 =>
 (t_topo_Spot a0 x106.A).bind fun r117 =>
 (gd (!(!r117)) default (t_topo_Spot a0 x106.B)).bind fun r130 =>
 if ((!r117) || (!r130)) = true then (
 some 1) else (
 if (((mget s101 x106.A false) || (mget s101 x106.B false)) || (decide (x106.A = x106.B))) = true then (
 some 7) else (
 k102 (mput (mput s101 x106.A true) x106.B true)))) (fun (s101 : (List (T_Spot × Bool))) =>
 j37 (s101)) ([])))
theorem ty_topo_Check {n : Nat} (hn : bigN ≤ n) (a0 : T_Topo) : Rv (fun x : Int => (eV x)) (sem_topo_Check n [(T_Topo.e a0)]) (t_topo_Check a0) := by
  rw [eq_topo_Check]
  unfold t_topo_Check
  refine tb (x := (T_Topo.c a0)) rfl ?_
  refine tb (x := (vi a0.Switches)) (rfl) ?_
  refine tb (x := (vb (decide (a0.Switches < 1)))) (d_lss) ?_
  refine tg_f (x := V.any) (fun h4 => rfl) ?_
  refine tg_f (x := (vi a0.Switches)) (fun h6 => bind_some_eq (gate_pos (not_t h6) (rfl))) ?_
  refine tg_f (x := (vb (decide (6 < a0.Switches)))) (fun h9 => by simp only [gv_t h9]; exact bind_some_eq (d_gtr)) ?_
  refine tb (x := (vb ((decide (a0.Switches < 1)) || (decide (6 < a0.Switches))))) (pick_or (fun h9 => gv_t (not_f h9))) ?_
  refine tcond (fun h13 => ?_) (fun h13 => ?_)
  · refine tb (x := (eV 1)) (p_mkE (by decide)) ?_
    exact rf_ret rfl
  · refine tb (x := (V.sl (List.map T_Link.c a0.Links))) (rfl) ?_
    refine tb (x := (vi (List.length a0.Links : Int))) (p_len _) ?_
    refine tb (x := (vb (decide (200 < (List.length a0.Links : Int))))) (d_gtr) ?_
    refine tg_f (x := V.any) (fun h18 => rfl) ?_
    refine tg_f (x := (V.sl (List.map T_Host.c a0.Hosts))) (fun h20 => bind_some_eq (gate_pos (not_t h20) (rfl))) ?_
    refine tg_f (x := (vi (List.length a0.Hosts : Int))) (fun h23 => by simp only [gv_t h23]; exact bind_some_eq (p_len _)) ?_
    refine tg_f (x := (vb (decide (8 < (List.length a0.Hosts : Int))))) (fun h26 => by simp only [gv_t h26]; exact bind_some_eq (d_gtr)) ?_
    refine tb (x := (vb ((decide (200 < (List.length a0.Links : Int))) || (decide (8 < (List.length a0.Hosts : Int)))))) (pick_or (fun h9 => gv_t (not_f h9))) ?_
    refine tcond (fun h30 => ?_) (fun h30 => ?_)
    · refine tb (x := (eV 4)) (p_mkE (by decide)) ?_
      exact rf_ret rfl
    · refine tb (x := (V.sl (List.map T_Link.c a0.Links))) (rfl) ?_
      refine tb (x := (vi (List.length a0.Links : Int))) (p_len _) ?_
      refine tjoin (mk := fun s36 : (List (T_Spot × Bool)) => [(V.mp (mrep T_Spot.val (fun b : Bool => Go.Value.bool b) s36))]) (fun s36 => ?_) fun J35 j37 h38 => ?_
      · refine tb (x := (V.sl (List.map T_Host.c a0.Hosts))) (rfl) ?_
        refine tb (x := (vi (List.length a0.Hosts : Int))) (p_len _) ?_
        refine tjoin (mk := fun s43 : Unit => []) (fun s43 => ?_) fun J42 j44 h45 => ?_
        · exact rf_ret rfl
        · refine tkeepO2 ?_ rfl
          refine tsome ?_
          refine rf_loopI (mk := fun (i52 : Int) (s48 : ((List (T_Spot × Bool)) × (List (ByteArray × Bool)))) => [(V.mp (mrep T_Spot.val (fun b : Bool => Go.Value.bool b) s48.1)), (V.mp (mrep (fun b : ByteArray => Go.Value.string b) (fun b : Bool => Go.Value.bool b) s48.2)), (vi (i52 : Int))]) hn a0.Hosts (s36, []) (fun i52 x53 h54 h55 h56 s48 rec46 k49 h50 => ?_) (fun s48 rec97 h96 => ?_)
          · refine tb (x := (vb (decide ((i52 : Int) < (List.length a0.Hosts : Int))))) (d_lss) ?_
            refine tcond_t h56 ?_
            refine tb (x := (V.ptr (T_Host.c x53))) (p_idx_at (c := T_Host.c) (fun _ => rfl) h54) ?_
            refine tb (x := (T_Host.e x53)) (rfl) ?_
            refine tb (x := V.agg (T_Host.c x53)) (by kernel_rfl) ?_
            refine tb (x := (vt x53.Name)) (rfl) ?_
            refine tbo (ty_topo_Name hn x53.Name) fun r63 => ?_
            refine tb (x := (vb (!r63))) (d_not) ?_
            refine tcond (fun h65 => ?_) (fun h65 => ?_)
            · refine tb (x := (eV 2)) (p_mkE (by decide)) ?_
              exact rf_ret rfl
            · refine tb (x := (T_Topo.e a0)) (rfl) ?_
              refine tb (x := (T_Spot.e x53.At)) (rfl) ?_
              refine tbo (ty_topo_Spot hn a0 x53.At) fun r70 => ?_
              refine tb (x := (vb (!r70))) (d_not) ?_
              refine tcond (fun h72 => ?_) (fun h72 => ?_)
              · refine tb (x := (eV 1)) (p_mkE (by decide)) ?_
                exact rf_ret rfl
              · refine tb (x := (vt x53.Name)) (rfl) ?_
                refine tb (x := (vb (mget s48.2 x53.Name false))) (p_look (kt := 9) (et := 4) (kv := (fun b : ByteArray => Go.Value.string b)) (vv := (fun b : Bool => Go.Value.bool b)) (e1 := fun x : Bool => (vb x)) (mkey_str (by kernel_rfl)) (by kernel_rfl) false (fun _ => by kernel_rfl) (fun _ => rfl) x53.Name rfl s48.2) ?_
                refine tg_f (x := V.any) (fun h76 => rfl) ?_
                refine tg_f (x := V.any) (fun h78 => rfl) ?_
                refine tg_f (x := (T_Spot.e x53.At)) (fun h80 => bind_some_eq (gate_pos (not_t h80) (rfl))) ?_
                refine tg_f (x := (vb (mget s48.1 x53.At false))) (fun h83 => by simp only [gv_t h83]; exact bind_some_eq (gate_pos (not_t h83) (p_look (kt := 43) (et := 4) (kv := T_Spot.val) (vv := (fun b : Bool => Go.Value.bool b)) (e1 := fun x : Bool => (vb x)) T_Spot.mkey (by kernel_rfl) false (fun _ => by kernel_rfl) (fun _ => rfl) x53.At rfl s48.1))) ?_
                refine tb (x := (vb ((mget s48.2 x53.Name false) || (mget s48.1 x53.At false)))) (pick_or (fun h9 => gv_t (not_f h9))) ?_
                refine tcond (fun h87 => ?_) (fun h87 => ?_)
                · refine tb (x := (eV 7)) (p_mkE (by decide)) ?_
                  exact rf_ret rfl
                · refine tb (x := (vt x53.Name)) (rfl) ?_
                  refine tb (x := (vt x53.Name)) rfl ?_
                  refine tb (x := (T_Spot.e x53.At)) (rfl) ?_
                  refine tb (x := (T_Spot.e x53.At)) rfl ?_
                  refine tb (x := V.mp (mrep (fun b : ByteArray => Go.Value.string b) (fun b : Bool => Go.Value.bool b) (mput s48.2 x53.Name true))) (p_put (kt := 9) (et := 4) (kv := (fun b : ByteArray => Go.Value.string b)) (vv := (fun b : Bool => Go.Value.bool b)) (mkey_str (by kernel_rfl)) (by kernel_rfl) x53.Name true rfl rfl s48.2) ?_
                  refine tb (x := V.mp (mrep T_Spot.val (fun b : Bool => Go.Value.bool b) (mput s48.1 x53.At true))) (p_put (kt := 43) (et := 4) (kv := T_Spot.val) (vv := (fun b : Bool => Go.Value.bool b)) T_Spot.mkey (by kernel_rfl) x53.At true rfl rfl s48.1) ?_
                  refine tb (x := (vi ((i52 : Int) + 1))) (p_incN h55) ?_
                  refine tkeepO2 ?_ rfl
                  refine tsome ?_
                  exact h50 ((mput s48.1 x53.At true), (mput s48.2 x53.Name true))
          · refine tb (x := (vb (decide ((List.length a0.Hosts : Int) < (List.length a0.Hosts : Int))))) (d_lss) ?_
            refine tcond_f h96 ?_
            exact h45 ()
      · refine tkeepO2 ?_ rfl
        refine tsome ?_
        refine rf_loopI (mk := fun (i105 : Int) (s101 : (List (T_Spot × Bool))) => [(V.mp (mrep T_Spot.val (fun b : Bool => Go.Value.bool b) s101)), (vi (i105 : Int))]) hn a0.Links ([]) (fun i105 x106 h107 h108 h109 s101 rec99 k102 h103 => ?_) (fun s101 rec174 h173 => ?_)
        · refine tb (x := (vb (decide ((i105 : Int) < (List.length a0.Links : Int))))) (d_lss) ?_
          refine tcond_t h109 ?_
          refine tb (x := (V.ptr (T_Link.c x106))) (p_idx_at (c := T_Link.c) (fun _ => rfl) h107) ?_
          refine tb (x := (T_Link.e x106)) (rfl) ?_
          refine tb (x := V.agg (T_Link.c x106)) (by kernel_rfl) ?_
          refine tb (x := (T_Topo.e a0)) (rfl) ?_
          refine tb (x := (T_Spot.e x106.A)) (rfl) ?_
          refine tbo (ty_topo_Spot hn a0 x106.A) fun r117 => ?_
          refine tb (x := (vb (!r117))) (d_not) ?_
          refine tg_f (x := (T_Topo.e a0)) (fun h119 => bind_some_eq (rfl)) ?_
          refine tg_f (x := V.any) (fun h122 => rfl) ?_
          refine tg_f (x := (T_Spot.e x106.B)) (fun h124 => bind_some_eq (gate_pos (not_t h124) (rfl))) ?_
          refine tgo_f (fun h127 => by simp only [gv_t h127]; exact rf_bind_some (ty_topo_Spot hn a0 x106.B)) fun r130 => ?_
          refine tg_f (x := (vb (!r130))) (fun h131 => by simp only [gv_t h131]; exact bind_some_eq (d_not)) ?_
          refine tb (x := (vb ((!r117) || (!r130)))) (pick_or (fun h9 => gv_t (not_f h9))) ?_
          refine tcond (fun h135 => ?_) (fun h135 => ?_)
          · refine tb (x := (eV 1)) (p_mkE (by decide)) ?_
            exact rf_ret rfl
          · refine tb (x := (T_Spot.e x106.A)) (rfl) ?_
            refine tb (x := (vb (mget s101 x106.A false))) (p_look (kt := 43) (et := 4) (kv := T_Spot.val) (vv := (fun b : Bool => Go.Value.bool b)) (e1 := fun x : Bool => (vb x)) T_Spot.mkey (by kernel_rfl) false (fun _ => by kernel_rfl) (fun _ => rfl) x106.A rfl s101) ?_
            refine tg_f (x := V.any) (fun h139 => rfl) ?_
            refine tg_f (x := V.any) (fun h141 => rfl) ?_
            refine tg_f (x := (T_Spot.e x106.B)) (fun h143 => bind_some_eq (gate_pos (not_t h143) (rfl))) ?_
            refine tg_f (x := (vb (mget s101 x106.B false))) (fun h146 => by simp only [gv_t h146]; exact bind_some_eq (gate_pos (not_t h146) (p_look (kt := 43) (et := 4) (kv := T_Spot.val) (vv := (fun b : Bool => Go.Value.bool b)) (e1 := fun x : Bool => (vb x)) T_Spot.mkey (by kernel_rfl) false (fun _ => by kernel_rfl) (fun _ => rfl) x106.B rfl s101))) ?_
            refine tb (x := (vb ((mget s101 x106.A false) || (mget s101 x106.B false)))) (pick_or (fun h9 => gv_t (not_f h9))) ?_
            refine tg_f (x := V.any) (fun h150 => rfl) ?_
            refine tg_f (x := (T_Spot.e x106.A)) (fun h152 => bind_some_eq (gate_pos (not_t h152) (rfl))) ?_
            refine tg_f (x := V.any) (fun h155 => rfl) ?_
            refine tg_f (x := (T_Spot.e x106.B)) (fun h157 => bind_some_eq (gate_pos (not_t h157) (rfl))) ?_
            refine tg_f (x := (vb (decide (x106.A = x106.B)))) (fun h160 => by simp only [gv_t h160]; exact bind_some_eq (T_Spot.eql x106.A x106.B)) ?_
            refine tb (x := (vb (((mget s101 x106.A false) || (mget s101 x106.B false)) || (decide (x106.A = x106.B))))) (pick_or (fun h9 => gv_t (not_f h9))) ?_
            refine tcond (fun h164 => ?_) (fun h164 => ?_)
            · refine tb (x := (eV 7)) (p_mkE (by decide)) ?_
              exact rf_ret rfl
            · refine tb (x := (T_Spot.e x106.A)) (rfl) ?_
              refine tb (x := (T_Spot.e x106.A)) rfl ?_
              refine tb (x := (T_Spot.e x106.B)) (rfl) ?_
              refine tb (x := (T_Spot.e x106.B)) rfl ?_
              refine tb (x := V.mp (mrep T_Spot.val (fun b : Bool => Go.Value.bool b) (mput s101 x106.A true))) (p_put (kt := 43) (et := 4) (kv := T_Spot.val) (vv := (fun b : Bool => Go.Value.bool b)) T_Spot.mkey (by kernel_rfl) x106.A true rfl rfl s101) ?_
              refine tb (x := V.mp (mrep T_Spot.val (fun b : Bool => Go.Value.bool b) (mput (mput s101 x106.A true) x106.B true))) (p_put (kt := 43) (et := 4) (kv := T_Spot.val) (vv := (fun b : Bool => Go.Value.bool b)) T_Spot.mkey (by kernel_rfl) x106.B true rfl rfl (mput s101 x106.A true)) ?_
              refine tb (x := (vi ((i105 : Int) + 1))) (p_incN h108) ?_
              refine tkeepO2 ?_ rfl
              refine tsome ?_
              exact h103 (mput (mput s101 x106.A true) x106.B true)
        · refine tb (x := (vb (decide ((List.length a0.Links : Int) < (List.length a0.Links : Int))))) (d_lss) ?_
          refine tcond_f h173 ?_
          refine tkeepO2 ?_ rfl
          refine tsome ?_
          exact h38 (s101)

/-! railpoint/cube.Header -/
def an_cube_Header : Ann := .seq (.reg 0 [] [] []) (.seq (.reg 0 [] [] []) (.no))
noncomputable def sem_cube_Header (n : Nat) (xs : List V) : Option V := if xs.length ≤ 9 then denF Tryd.prog (envOf []) n Tryd.f97 an_cube_Header xs else none
theorem ok_cube_Header (n : Nat) : SemOk Tryd.prog DW 97 (sem_cube_Header n) := fun xs y h => by
  unfold sem_cube_Header at h
  split at h
  · rename_i hl
    exact denF_ok stb Tryd.func97 (by kernel_rfl) (envOf_ok semsOk_nil) (by rw [Tryd.ntmps97]; exact hl) h
  · cases h
theorem eq_cube_Header (n : Nat) (x0 : V) : sem_cube_Header n [x0] =
 (bin2 Tryd.prog BinOp.geq 3 (ot 3) (oc 0) x0 (vi 0)).bind fun v1 =>
 (guardV v1 true (some x0)).bind fun v2 =>
 (guardV v1 true ((bin2 Tryd.prog BinOp.lss 3 (ot 6) (oc 16) v2 (vi 16)).bind fun v3 =>
 some v3)).bind fun v4 =>
 (pickV v1 v4 (vb false)).bind fun v5 =>
 some v5 := by kernel_rfl
noncomputable def t_cube_Header (a0 : Int) : Option Bool :=
 some ((decide (0 ≤ a0)) && (decide (a0 < 16)))
theorem ty_cube_Header {n : Nat} (hn : bigN ≤ n) (a0 : Int) : Rv (fun x : Bool => (vb x)) (sem_cube_Header n [(vi a0)]) (t_cube_Header a0) := by
  rw [eq_cube_Header]
  unfold t_cube_Header
  refine tb (x := (vb (decide (0 ≤ a0)))) (d_geq) ?_
  refine tg (x := (vi a0)) (fun h2 => rfl) ?_
  refine tg (x := (vb (decide (a0 < 16)))) (fun h4 => by simp only [gv_t h4]; exact bind_some_eq (d_lss)) ?_
  refine tb (x := (vb ((decide (0 ≤ a0)) && (decide (a0 < 16))))) (pick_and (fun h9 => gv_t h9)) ?_
  exact rf_ret rfl

/-! railpoint/cube.Check -/
def an_cube_Check : Ann := .seq (.reg 0 [] [] []) (.seq (.blk none (.seq (.reg 0 [] [] []) (.cond none (.seq (.reg 0 [] [] []) (.no)) (.seq (.reg 0 [] [] []) (.cond none (.seq (.reg 0 [] [] []) (.no)) (.no)))))) (.seq (.reg 0 [] [] []) (.no)))
noncomputable def sem_cube_Check (n : Nat) (xs : List V) : Option V := if xs.length ≤ 23 then denF Tryd.prog (envOf [(97, (sem_cube_Header n))]) n Tryd.f98 an_cube_Check xs else none
theorem ok_cube_Check (n : Nat) : SemOk Tryd.prog DW 98 (sem_cube_Check n) := fun xs y h => by
  unfold sem_cube_Check at h
  split at h
  · rename_i hl
    exact denF_ok stb Tryd.func98 (by kernel_rfl) (envOf_ok (semsOk_cons (ok_cube_Header n) semsOk_nil)) (by rw [Tryd.ntmps98]; exact hl) h
  · cases h
theorem eq_cube_Check (n : Nat) (x0 : V) : sem_cube_Check n [x0] =
 (V.cellsO x0).bind fun v1 =>
 (ldk none (List.drop 0 v1)).bind fun v2 =>
 ((sem_cube_Header n) [v2]).bind fun v3 =>
 (scal1 Tryd.prog (Op.unary Go.UnOp.not) v3).bind fun v4 =>
 (guardV v4 false (some V.any)).bind fun v5 =>
 (guardV v4 false ((gate v4 false (ldk none (List.drop 1 v1))).bind fun v6 =>
 some v6)).bind fun v7 =>
 (guardV v4 false (((sem_cube_Header n) [v7]).bind fun v8 =>
 some v8)).bind fun v9 =>
 (guardV v4 false ((scal1 Tryd.prog (Op.unary Go.UnOp.not) v9).bind fun v10 =>
 some v10)).bind fun v11 =>
 (pickV v4 (vb true) v11).bind fun v12 =>
 condV v12 (
 (scal1 Tryd.prog (Instr.makeInterface 90) (vi 1)).bind fun v13 =>
 some v13) (
 (ldk none (List.drop 1 v1)).bind fun v14 =>
 (ldk none (List.drop 0 v1)).bind fun v15 =>
 (bin2 Tryd.prog BinOp.andNot 3 (ot 17) (ot 19) v14 v15).bind fun v16 =>
 (bin2 Tryd.prog BinOp.neq 3 (ot 20) (oc 0) v16 (vi 0)).bind fun v17 =>
 condV v17 (
 (scal1 Tryd.prog (Instr.makeInterface 90) (vi 3)).bind fun v18 =>
 some v18) (
 some vn)) := by kernel_rfl
noncomputable def t_cube_Check (a0 : T_Cube) : Option Int :=
 (t_cube_Header a0.Mask).bind fun r4 =>
 (gd (!(!r4)) default (t_cube_Header a0.Bits)).bind fun r14 =>
 if ((!r4) || (!r14)) = true then (
 some 1) else (
 if (decide ((bits .andNot .i64 a0.Bits a0.Mask) ≠ 0)) = true then (
 some 3) else (
 some 0))
theorem ty_cube_Check {n : Nat} (hn : bigN ≤ n) (a0 : T_Cube) : Rv (fun x : Int => (eV x)) (sem_cube_Check n [(T_Cube.e a0)]) (t_cube_Check a0) := by
  rw [eq_cube_Check]
  unfold t_cube_Check
  refine tb (x := (T_Cube.c a0)) rfl ?_
  refine tb (x := (vi a0.Mask)) (rfl) ?_
  refine tbo (ty_cube_Header hn a0.Mask) fun r4 => ?_
  refine tb (x := (vb (!r4))) (d_not) ?_
  refine tg_f (x := V.any) (fun h6 => rfl) ?_
  refine tg_f (x := (vi a0.Bits)) (fun h8 => bind_some_eq (gate_pos (not_t h8) (rfl))) ?_
  refine tgo_f (fun h11 => by simp only [gv_t h11]; exact rf_bind_some (ty_cube_Header hn a0.Bits)) fun r14 => ?_
  refine tg_f (x := (vb (!r14))) (fun h15 => by simp only [gv_t h15]; exact bind_some_eq (d_not)) ?_
  refine tb (x := (vb ((!r4) || (!r14)))) (pick_or (fun h9 => gv_t (not_f h9))) ?_
  refine tcond (fun h19 => ?_) (fun h19 => ?_)
  · refine tb (x := (eV 1)) (p_mkE (by decide)) ?_
    exact rf_ret rfl
  · refine tb (x := (vi a0.Bits)) (rfl) ?_
    refine tb (x := (vi a0.Mask)) (rfl) ?_
    refine tb (x := (vi (bits .andNot .i64 a0.Bits a0.Mask))) (d_andNot) ?_
    refine tb (x := (vb (decide ((bits .andNot .i64 a0.Bits a0.Mask) ≠ 0)))) (d_neq) ?_
    refine tcond (fun h25 => ?_) (fun h25 => ?_)
    · refine tb (x := (eV 3)) (p_mkE (by decide)) ?_
      exact rf_ret rfl
    · exact rf_ret rfl

/-! railpoint/rule.Check -/
def an_rule_Check : Ann := .seq (.reg 0 [] [] []) (.seq (.seq (.reg 0 [] [] []) (.cond none (.seq (.reg 0 [] [] []) (.no)) (.no))) (.seq (.seq (.reg 0 [] [] []) (.seq (.reg 0 [] [] []) (.cond none (.seq (.reg 0 [] [] []) (.no)) (.no)))) (.seq (.seq (.reg 0 [] [] []) (.cond none (.seq (.reg 0 [] [] []) (.no)) (.no))) (.seq (.reg 0 [] [] []) (.no)))))
noncomputable def sem_rule_Check (n : Nat) (xs : List V) : Option V := if xs.length ≤ 58 then denF Tryd.prog (envOf [(97, (sem_cube_Header n)), (98, (sem_cube_Check n))]) n Tryd.f76 an_rule_Check xs else none
theorem ok_rule_Check (n : Nat) : SemOk Tryd.prog DW 76 (sem_rule_Check n) := fun xs y h => by
  unfold sem_rule_Check at h
  split at h
  · rename_i hl
    exact denF_ok stb Tryd.func76 (by kernel_rfl) (envOf_ok (semsOk_cons (ok_cube_Header n) (semsOk_cons (ok_cube_Check n) semsOk_nil))) (by rw [Tryd.ntmps76]; exact hl) h
  · cases h
theorem eq_rule_Check (n : Nat) (x0 : V) : sem_rule_Check n [x0] =
 (V.cellsO x0).bind fun v1 =>
 (ldk none (List.drop 0 v1)).bind fun v2 =>
 (bin2 Tryd.prog BinOp.lss 3 (ot 5) (oc 0) v2 (vi 0)).bind fun v3 =>
 (guardV v3 false (some V.any)).bind fun v4 =>
 (guardV v3 false ((gate v3 false (ldk none (List.drop 0 v1))).bind fun v5 =>
 some v5)).bind fun v6 =>
 (guardV v3 false ((bin2 Tryd.prog BinOp.gtr 3 (ot 9) (oc 99) v6 (vi 99)).bind fun v7 =>
 some v7)).bind fun v8 =>
 (pickV v3 (vb true) v8).bind fun v9 =>
 (guardV v9 false (some V.any)).bind fun v10 =>
 (guardV v9 false ((gate v9 false (ldk none (List.drop 3 v1))).bind fun v11 =>
 some v11)).bind fun v12 =>
 (guardV v9 false ((bin2 Tryd.prog BinOp.lss 3 (ot 14) (oc 0) v12 (vi 0)).bind fun v13 =>
 some v13)).bind fun v14 =>
 (pickV v9 (vb true) v14).bind fun v15 =>
 (guardV v15 false (some V.any)).bind fun v16 =>
 (guardV v15 false ((gate v15 false (ldk none (List.drop 3 v1))).bind fun v17 =>
 some v17)).bind fun v18 =>
 (guardV v15 false ((bin2 Tryd.prog BinOp.gtr 3 (ot 19) (oc 4) v18 (vi 4)).bind fun v19 =>
 some v19)).bind fun v20 =>
 (pickV v15 (vb true) v20).bind fun v21 =>
 (guardV v21 false (some V.any)).bind fun v22 =>
 (guardV v21 false ((gate v21 false (ldk none (List.drop 4 v1))).bind fun v23 =>
 some v23)).bind fun v24 =>
 (guardV v21 false (((sem_cube_Header n) [v24]).bind fun v25 =>
 some v25)).bind fun v26 =>
 (guardV v21 false ((scal1 Tryd.prog (Op.unary Go.UnOp.not) v26).bind fun v27 =>
 some v27)).bind fun v28 =>
 (pickV v21 (vb true) v28).bind fun v29 =>
 (guardV v29 false (some V.any)).bind fun v30 =>
 (guardV v29 false ((gate v29 false (ldk none (List.drop 5 v1))).bind fun v31 =>
 some v31)).bind fun v32 =>
 (guardV v29 false (((sem_cube_Header n) [v32]).bind fun v33 =>
 some v33)).bind fun v34 =>
 (guardV v29 false ((scal1 Tryd.prog (Op.unary Go.UnOp.not) v34).bind fun v35 =>
 some v35)).bind fun v36 =>
 (pickV v29 (vb true) v36).bind fun v37 =>
 condV v37 (
 (scal1 Tryd.prog (Instr.makeInterface 90) (vi 1)).bind fun v38 =>
 some v38) (
 (ldk (some 2) (List.drop 1 v1)).bind fun v39 =>
 ((sem_cube_Check n) [v39]).bind fun v40 =>
 (bin2 Tryd.prog BinOp.neq 54 (ot 38) (Operand.const Go.Value.nilIface) v40 vn).bind fun v41 =>
 condV v41 (
 some v40) (
 (ldk none (List.drop 5 v1)).bind fun v42 =>
 (ldk none (List.drop 4 v1)).bind fun v43 =>
 (bin2 Tryd.prog BinOp.andNot 3 (ot 42) (ot 44) v42 v43).bind fun v44 =>
 (bin2 Tryd.prog BinOp.neq 3 (ot 45) (oc 0) v44 (vi 0)).bind fun v45 =>
 (guardV v45 false (some V.any)).bind fun v46 =>
 (guardV v45 false ((gate v45 false (ldk none (List.drop 3 v1))).bind fun v47 =>
 some v47)).bind fun v48 =>
 (guardV v45 false ((bin2 Tryd.prog BinOp.eql 3 (ot 49) (oc 0) v48 (vi 0)).bind fun v49 =>
 some v49)).bind fun v50 =>
 (guardV v45 false (some v50)).bind fun v51 =>
 (guardV v51 true (some V.any)).bind fun v52 =>
 (guardV v51 true ((gate v51 true (ldk none (List.drop 4 v1))).bind fun v53 =>
 some v53)).bind fun v54 =>
 (guardV v51 true ((bin2 Tryd.prog BinOp.neq 3 (ot 53) (oc 0) v54 (vi 0)).bind fun v55 =>
 some v55)).bind fun v56 =>
 (guardV v45 false ((pickV v51 v56 (vb false)).bind fun v57 =>
 some v57)).bind fun v58 =>
 (pickV v45 (vb true) v58).bind fun v59 =>
 condV v59 (
 (scal1 Tryd.prog (Instr.makeInterface 90) (vi 3)).bind fun v60 =>
 some v60) (
 some vn))) := by kernel_rfl
noncomputable def t_rule_Check (a0 : T_Rule) : Option Int :=
 (gd (!((((decide (a0.Prio < 0)) || (decide (99 < a0.Prio))) || (decide (a0.Out < 0))) || (decide (4 < a0.Out)))) default (t_cube_Header a0.Set)).bind fun r39 =>
 (gd (!(((((decide (a0.Prio < 0)) || (decide (99 < a0.Prio))) || (decide (a0.Out < 0))) || (decide (4 < a0.Out))) || (!r39))) default (t_cube_Header a0.Value)).bind fun r52 =>
 if ((((((decide (a0.Prio < 0)) || (decide (99 < a0.Prio))) || (decide (a0.Out < 0))) || (decide (4 < a0.Out))) || (!r39)) || (!r52)) = true then (
 some 1) else (
 (t_cube_Check a0.Cube).bind fun r61 =>
 if (!decide (r61 = 0)) = true then (
 some r61) else (
 if ((decide ((bits .andNot .i64 a0.Value a0.Set) ≠ 0)) || ((decide (a0.Out = 0)) && (decide (a0.Set ≠ 0)))) = true then (
 some 3) else (
 some 0)))
theorem ty_rule_Check {n : Nat} (hn : bigN ≤ n) (a0 : T_Rule) : Rv (fun x : Int => (eV x)) (sem_rule_Check n [(T_Rule.e a0)]) (t_rule_Check a0) := by
  rw [eq_rule_Check]
  unfold t_rule_Check
  refine tb (x := (T_Rule.c a0)) rfl ?_
  refine tb (x := (vi a0.Prio)) (rfl) ?_
  refine tb (x := (vb (decide (a0.Prio < 0)))) (d_lss) ?_
  refine tg_f (x := V.any) (fun h4 => rfl) ?_
  refine tg_f (x := (vi a0.Prio)) (fun h6 => bind_some_eq (gate_pos (not_t h6) (rfl))) ?_
  refine tg_f (x := (vb (decide (99 < a0.Prio)))) (fun h9 => by simp only [gv_t h9]; exact bind_some_eq (d_gtr)) ?_
  refine tb (x := (vb ((decide (a0.Prio < 0)) || (decide (99 < a0.Prio))))) (pick_or (fun h9 => gv_t (not_f h9))) ?_
  refine tg_f (x := V.any) (fun h13 => rfl) ?_
  refine tg_f (x := (vi a0.Out)) (fun h15 => bind_some_eq (gate_pos (not_t h15) (rfl))) ?_
  refine tg_f (x := (vb (decide (a0.Out < 0)))) (fun h18 => by simp only [gv_t h18]; exact bind_some_eq (d_lss)) ?_
  refine tb (x := (vb (((decide (a0.Prio < 0)) || (decide (99 < a0.Prio))) || (decide (a0.Out < 0))))) (pick_or (fun h9 => gv_t (not_f h9))) ?_
  refine tg_f (x := V.any) (fun h22 => rfl) ?_
  refine tg_f (x := (vi a0.Out)) (fun h24 => bind_some_eq (gate_pos (not_t h24) (rfl))) ?_
  refine tg_f (x := (vb (decide (4 < a0.Out)))) (fun h27 => by simp only [gv_t h27]; exact bind_some_eq (d_gtr)) ?_
  refine tb (x := (vb ((((decide (a0.Prio < 0)) || (decide (99 < a0.Prio))) || (decide (a0.Out < 0))) || (decide (4 < a0.Out))))) (pick_or (fun h9 => gv_t (not_f h9))) ?_
  refine tg_f (x := V.any) (fun h31 => rfl) ?_
  refine tg_f (x := (vi a0.Set)) (fun h33 => bind_some_eq (gate_pos (not_t h33) (rfl))) ?_
  refine tgo_f (fun h36 => by simp only [gv_t h36]; exact rf_bind_some (ty_cube_Header hn a0.Set)) fun r39 => ?_
  refine tg_f (x := (vb (!r39))) (fun h40 => by simp only [gv_t h40]; exact bind_some_eq (d_not)) ?_
  refine tb (x := (vb (((((decide (a0.Prio < 0)) || (decide (99 < a0.Prio))) || (decide (a0.Out < 0))) || (decide (4 < a0.Out))) || (!r39)))) (pick_or (fun h9 => gv_t (not_f h9))) ?_
  refine tg_f (x := V.any) (fun h44 => rfl) ?_
  refine tg_f (x := (vi a0.Value)) (fun h46 => bind_some_eq (gate_pos (not_t h46) (rfl))) ?_
  refine tgo_f (fun h49 => by simp only [gv_t h49]; exact rf_bind_some (ty_cube_Header hn a0.Value)) fun r52 => ?_
  refine tg_f (x := (vb (!r52))) (fun h53 => by simp only [gv_t h53]; exact bind_some_eq (d_not)) ?_
  refine tb (x := (vb ((((((decide (a0.Prio < 0)) || (decide (99 < a0.Prio))) || (decide (a0.Out < 0))) || (decide (4 < a0.Out))) || (!r39)) || (!r52)))) (pick_or (fun h9 => gv_t (not_f h9))) ?_
  refine tcond (fun h57 => ?_) (fun h57 => ?_)
  · refine tb (x := (eV 1)) (p_mkE (by decide)) ?_
    exact rf_ret rfl
  · refine tb (x := (T_Cube.e a0.Cube)) (rfl) ?_
    refine tbo (ty_cube_Check hn a0.Cube) fun r61 => ?_
    refine tb (x := (vb (!decide (r61 = 0)))) (p_err_neq _) ?_
    refine tcond (fun h63 => ?_) (fun h63 => ?_)
    · exact rf_ret rfl
    · refine tb (x := (vi a0.Value)) (rfl) ?_
      refine tb (x := (vi a0.Set)) (rfl) ?_
      refine tb (x := (vi (bits .andNot .i64 a0.Value a0.Set))) (d_andNot) ?_
      refine tb (x := (vb (decide ((bits .andNot .i64 a0.Value a0.Set) ≠ 0)))) (d_neq) ?_
      refine tg_f (x := V.any) (fun h68 => rfl) ?_
      refine tg_f (x := (vi a0.Out)) (fun h70 => bind_some_eq (gate_pos (not_t h70) (rfl))) ?_
      refine tg_f (x := (vb (decide (a0.Out = 0)))) (fun h73 => by simp only [gv_t h73]; exact bind_some_eq (d_eql)) ?_
      refine tg_f (x := (vb (decide (a0.Out = 0)))) (fun h76 => congrArg some (gv_t h76)) ?_
      refine tg2 (x := V.any) (fun h78 => rfl) ?_
      refine tg2 (x := (vi a0.Set)) (fun h80 => bind_some_eq (gate_pos2 (and_l h80) (and_r h80) (rfl))) ?_
      refine tg2 (x := (vb (decide (a0.Set ≠ 0)))) (fun h83 => by simp only [gv_t h83]; exact bind_some_eq (d_neq)) ?_
      refine tg_f (x := (vb ((decide (a0.Out = 0)) && (decide (a0.Set ≠ 0))))) (fun h86 => by simp only [gv_t h86]; exact bind_some_eq (pick_and (fun h9 => gv_t (and_i h86 h9)))) ?_
      refine tb (x := (vb ((decide ((bits .andNot .i64 a0.Value a0.Set) ≠ 0)) || ((decide (a0.Out = 0)) && (decide (a0.Set ≠ 0)))))) (pick_or (fun h9 => gv_t (not_f h9))) ?_
      refine tcond (fun h90 => ?_) (fun h90 => ?_)
      · refine tb (x := (eV 3)) (p_mkE (by decide)) ?_
        exact rf_ret rfl
      · exact rf_ret rfl

/-! slices.IndexFunc railpoint/api.Table railpoint/api.Rule  -/
def an_slices_IndexFunc_api_Table_api_Rule : Ann := .seq (.reg 0 [] [] []) (.seq (.seq (.reg 0 [] [] []) (.blk (some []) (.loop [.s 8] (.seq (.reg 0 [] [] []) (.seq (.cond none (.no) (.no)) (.seq (.blk none (.seq (.reg 0 [] [] []) (.seq (.reg 0 [] [] []) (.cond none (.seq (.reg 0 [] [] []) (.no)) (.no))))) (.reg 0 [] [] []))))))) (.seq (.reg 0 [] [] []) (.no)))
noncomputable def sem_slices_IndexFunc_api_Table_api_Rule (E : FuncId → List V → Option V) (n : Nat) (xs : List V) : Option V := if xs.length ≤ 19 then denF Tryd.prog (envJ [] E) n Tryd.f99 an_slices_IndexFunc_api_Table_api_Rule xs else none
theorem ok_slices_IndexFunc_api_Table_api_Rule {E : FuncId → List V → Option V} (hE : EnvOk Tryd.prog DW E) (n : Nat) : SemOk Tryd.prog DW 99 (sem_slices_IndexFunc_api_Table_api_Rule E n) := fun xs y h => by
  unfold sem_slices_IndexFunc_api_Table_api_Rule at h
  split at h
  · rename_i hl
    exact denF_ok stb Tryd.func99 (by kernel_rfl) (envJ_ok semsOk_nil hE) (by rw [Tryd.ntmps99]; exact hl) h
  · cases h
theorem eq_slices_IndexFunc_api_Table_api_Rule (E : FuncId → List V → Option V) (n : Nat) (x0 x1 : V) : sem_slices_IndexFunc_api_Table_api_Rule E n [x0, x1] =
 (lenS [x0]).bind fun v1 =>
 JoinPt (fun vs2 =>
 some (vi (-1 : Int))) fun J3 =>
 (fixN (fun rec4 vs5 =>
 (bin2 Tryd.prog BinOp.lss 3 (ot 8) (ot 7) (List.getD vs5 0 V.any) v1).bind fun v6 =>
 condV v6 (
 (idxS 6 x0 (List.getD vs5 0 V.any)).bind fun v7 =>
 (ldp (some 6) v7).bind fun v8 =>
 (callV (envJ [] E) x1 [v8]).bind fun v9 =>
 condV v9 (
 some (List.getD vs5 0 V.any)) (
 (bin2 Tryd.prog BinOp.add 3 (ot 8) (oc 1) (List.getD vs5 0 V.any) (vi 1)).bind fun v10 =>
 rec4 [v10])) (
 J3 [])) n) [(vi 0)] := by kernel_rfl
noncomputable def t_slices_IndexFunc_api_Table_api_Rule (a0 : (List T_Rule)) (g1 : T_Rule → Option Bool) : Option Int :=
 join (fun (s4 : Unit) =>
 some (-1 : Int)) fun j5 =>
 loopI a0 (fun (i13 : Int) x14 (s9 : Unit) k10 =>
 (g1 x14).bind fun r22 =>
 if r22 = true then (
 some i13) else (
 k10 ())) (fun (s9 : Unit) =>
 j5 ()) ()
theorem ty_slices_IndexFunc_api_Table_api_Rule {E : FuncId → List V → Option V} {n : Nat} (hn : bigN ≤ n) (a0 : (List T_Rule)) {x1 : V} {g1 : T_Rule → Option Bool} (hg_g1 : ∀ a0, Rv (fun x : Bool => (vb x)) (callV E x1 [(T_Rule.e a0)]) (g1 a0)) : Rv (fun x : Int => (vi x)) (sem_slices_IndexFunc_api_Table_api_Rule E n [(V.sl (List.map T_Rule.c a0)), x1]) (t_slices_IndexFunc_api_Table_api_Rule a0 g1) := by
  rw [eq_slices_IndexFunc_api_Table_api_Rule]
  unfold t_slices_IndexFunc_api_Table_api_Rule
  refine tb (x := (vi (List.length a0 : Int))) (p_len _) ?_
  refine tjoin (mk := fun s4 : Unit => []) (fun s4 => ?_) fun J3 j5 h6 => ?_
  · exact rf_ret rfl
  · refine rf_loopI (mk := fun (i13 : Int) (s9 : Unit) => [(vi (i13 : Int))]) hn a0 () (fun i13 x14 h15 h16 h17 s9 rec7 k10 h11 => ?_) (fun s9 rec26 h25 => ?_)
    · refine tb (x := (vb (decide ((i13 : Int) < (List.length a0 : Int))))) (d_lss) ?_
      refine tcond_t h17 ?_
      refine tb (x := (V.ptr (T_Rule.c x14))) (p_idx_at (c := T_Rule.c) (fun _ => rfl) h15) ?_
      refine tb (x := (T_Rule.e x14)) (rfl) ?_
      refine tbo ((callV_J0 ▸ hg_g1 x14)) fun r22 => ?_
      refine tcond (fun h23 => ?_) (fun h23 => ?_)
      · exact rf_ret rfl
      · refine tb (x := (vi ((i13 : Int) + 1))) (p_incN h16) ?_
        exact h11 ()
    · refine tb (x := (vb (decide ((List.length a0 : Int) < (List.length a0 : Int))))) (d_lss) ?_
      refine tcond_f h25 ?_
      exact h6 ()

/-! slices.ContainsFunc railpoint/api.Table railpoint/api.Rule  -/
end Go.Proofs.YtjflahgnjmdikaaDoor.Ty
