/- What functions do, as functions on plain types, written by a program and checked by the kernel. -/
import Derived.Test.YtjflahgnjmdikaaDoorTyA0
import Derived.Test.YtjflahgnjmdikaaDoorDenDoor
import Derived.Test.YtjflahgnjmdikaaDoorTy
import Derived.Test.YtjflahgnjmdikaaDoorTyT
import Derived.Test.YtjflahgnjmdikaaDoorTyE
import Derived.Test.YtjflahgnjmdikaaDoorTyO
import Derived.Test.YtjflahgnjmdikaaDoorTyN
import Derived.Test.YtjflahgnjmdikaaDoorTyM
import Derived.Test.YtjflahgnjmdikaaDoorTyR
import Derived.Test.YtjflahgnjmdikaaDoorDen14
import Derived.Test.YtjflahgnjmdikaaDoorClone
namespace Go.Proofs.YtjflahgnjmdikaaDoor.Ty
open Go Go.RowKit Go.Proofs.YtjflahgnjmdikaaDoor.Den
set_option linter.unusedVariables false
set_option maxRecDepth 100000
def an_slices_ContainsFunc_api_Table_api_Rule : Ann := .seq (.reg 0 [] [] []) (.seq (.reg 0 [] [] []) (.no))
noncomputable def sem_slices_ContainsFunc_api_Table_api_Rule (E : FuncId → List V → Option V) (n : Nat) (xs : List V) : Option V := if xs.length ≤ 9 then denF Tryd.prog (envJ [(99, (sem_slices_IndexFunc_api_Table_api_Rule E n))] E) n Tryd.f77 an_slices_ContainsFunc_api_Table_api_Rule xs else none
theorem ok_slices_ContainsFunc_api_Table_api_Rule {E : FuncId → List V → Option V} (hE : EnvOk Tryd.prog DW E) (n : Nat) : SemOk Tryd.prog DW 77 (sem_slices_ContainsFunc_api_Table_api_Rule E n) := fun xs y h => by
  unfold sem_slices_ContainsFunc_api_Table_api_Rule at h
  split at h
  · rename_i hl
    exact denF_ok stb Tryd.func77 (by kernel_rfl) (envJ_ok (semsOk_cons (ok_slices_IndexFunc_api_Table_api_Rule hE n) semsOk_nil) hE) (by rw [Tryd.ntmps77]; exact hl) h
  · cases h
theorem eq_slices_ContainsFunc_api_Table_api_Rule (E : FuncId → List V → Option V) (n : Nat) (x0 x1 : V) : sem_slices_ContainsFunc_api_Table_api_Rule E n [x0, x1] =
 ((sem_slices_IndexFunc_api_Table_api_Rule E n) [x0, x1]).bind fun v1 =>
 (bin2 Tryd.prog BinOp.geq 3 (ot 7) (oc 0) v1 (vi 0)).bind fun v2 =>
 some v2 := by kernel_rfl
noncomputable def t_slices_ContainsFunc_api_Table_api_Rule (a0 : (List T_Rule)) (g1 : T_Rule → Option Bool) : Option Bool :=
 (t_slices_IndexFunc_api_Table_api_Rule a0 g1).bind fun r2 =>
 some (decide (0 ≤ r2))
theorem ty_slices_ContainsFunc_api_Table_api_Rule {E : FuncId → List V → Option V} {n : Nat} (hn : bigN ≤ n) (a0 : (List T_Rule)) {x1 : V} {g1 : T_Rule → Option Bool} (hg_g1 : ∀ a0, Rv (fun x : Bool => (vb x)) (callV E x1 [(T_Rule.e a0)]) (g1 a0)) : Rv (fun x : Bool => (vb x)) (sem_slices_ContainsFunc_api_Table_api_Rule E n [(V.sl (List.map T_Rule.c a0)), x1]) (t_slices_ContainsFunc_api_Table_api_Rule a0 g1) := by
  rw [eq_slices_ContainsFunc_api_Table_api_Rule]
  unfold t_slices_ContainsFunc_api_Table_api_Rule
  refine tbo (ty_slices_IndexFunc_api_Table_api_Rule (E := E) (x1 := x1) (g1 := g1) hn a0 hg_g1) fun r2 => ?_
  refine tb (x := (vb (decide (0 ≤ r2)))) (d_geq) ?_
  exact rf_ret rfl

/-! railpoint/rule.Key -/
def an_rule_Key : Ann := .seq (.reg 0 [] [] []) (.seq (.reg 0 [] [] []) (.no))
noncomputable def sem_rule_Key (n : Nat) (xs : List V) : Option V := if xs.length ≤ 17 then denF Tryd.prog (envOf []) n Tryd.f79 an_rule_Key xs else none
theorem ok_rule_Key (n : Nat) : SemOk Tryd.prog DW 79 (sem_rule_Key n) := fun xs y h => by
  unfold sem_rule_Key at h
  split at h
  · rename_i hl
    exact denF_ok stb Tryd.func79 (by kernel_rfl) (envOf_ok semsOk_nil) (by rw [Tryd.ntmps79]; exact hl) h
  · cases h
theorem eq_rule_Key (n : Nat) (x0 x1 : V) : sem_rule_Key n [x0, x1] =
 (V.cellsO x0).bind fun v1 =>
 (V.cellsO x1).bind fun v2 =>
 (ldk none (List.drop 0 v1)).bind fun v3 =>
 (ldk none (List.drop 0 v2)).bind fun v4 =>
 (bin2 Tryd.prog BinOp.eql 3 (ot 6) (ot 8) v3 v4).bind fun v5 =>
 (guardV v5 true (some V.any)).bind fun v6 =>
 (guardV v5 true ((gate v5 true (ldk (some 2) (List.drop 1 v1))).bind fun v7 =>
 some v7)).bind fun v8 =>
 (guardV v5 true (some V.any)).bind fun v9 =>
 (guardV v5 true ((gate v5 true (ldk (some 2) (List.drop 1 v2))).bind fun v10 =>
 some v10)).bind fun v11 =>
 (guardV v5 true ((bin2 Tryd.prog BinOp.eql 47 (ot 12) (ot 14) v8 v11).bind fun v12 =>
 some v12)).bind fun v13 =>
 (pickV v5 v13 (vb false)).bind fun v14 =>
 some v14 := by kernel_rfl
noncomputable def t_rule_Key (a0 : T_Rule) (a1 : T_Rule) : Option Bool :=
 some ((decide (a0.Prio = a1.Prio)) && (decide (a0.Cube = a1.Cube)))
theorem ty_rule_Key {n : Nat} (hn : bigN ≤ n) (a0 : T_Rule) (a1 : T_Rule) : Rv (fun x : Bool => (vb x)) (sem_rule_Key n [(T_Rule.e a0), (T_Rule.e a1)]) (t_rule_Key a0 a1) := by
  rw [eq_rule_Key]
  unfold t_rule_Key
  refine tb (x := (T_Rule.c a0)) rfl ?_
  refine tb (x := (T_Rule.c a1)) rfl ?_
  refine tb (x := (vi a0.Prio)) (rfl) ?_
  refine tb (x := (vi a1.Prio)) (rfl) ?_
  refine tb (x := (vb (decide (a0.Prio = a1.Prio)))) (d_eql) ?_
  refine tg (x := V.any) (fun h6 => rfl) ?_
  refine tg (x := (T_Cube.e a0.Cube)) (fun h8 => bind_some_eq (gate_pos h8 (rfl))) ?_
  refine tg (x := V.any) (fun h11 => rfl) ?_
  refine tg (x := (T_Cube.e a1.Cube)) (fun h13 => bind_some_eq (gate_pos h13 (rfl))) ?_
  refine tg (x := (vb (decide (a0.Cube = a1.Cube)))) (fun h16 => by simp only [gv_t h16]; exact bind_some_eq (T_Cube.eql a0.Cube a1.Cube)) ?_
  refine tb (x := (vb ((decide (a0.Prio = a1.Prio)) && (decide (a0.Cube = a1.Cube))))) (pick_and (fun h9 => gv_t h9)) ?_
  exact rf_ret rfl

/-! railpoint/rule.Table$1 -/
def an_rule_Table_1 : Ann := .seq (.reg 0 [] [] []) (.seq (.reg 0 [] [] []) (.no))
noncomputable def sem_rule_Table_1 (n : Nat) (xs : List V) : Option V := if xs.length ≤ 7 then denF Tryd.prog (envOf [(79, (sem_rule_Key n))]) n Tryd.f78 an_rule_Table_1 xs else none
theorem ok_rule_Table_1 (n : Nat) : SemOk Tryd.prog DW 78 (sem_rule_Table_1 n) := fun xs y h => by
  unfold sem_rule_Table_1 at h
  split at h
  · rename_i hl
    exact denF_ok stb Tryd.func78 (by kernel_rfl) (envOf_ok (semsOk_cons (ok_rule_Key n) semsOk_nil)) (by rw [Tryd.ntmps78]; exact hl) h
  · cases h
theorem eq_rule_Table_1 (n : Nat) (x0 x1 : V) : sem_rule_Table_1 n [x0, x1] =
 (V.cellsO x0).bind fun v1 =>
 (ldk (some 6) (List.drop 0 v1)).bind fun v2 =>
 (ldp (some 6) x1).bind fun v3 =>
 ((sem_rule_Key n) [v2, v3]).bind fun v4 =>
 some v4 := by kernel_rfl
noncomputable def t_rule_Table_1 (a0 : T_Rule) (a1 : T_Rule) : Option Bool :=
 (t_rule_Key a0 a1).bind fun r5 =>
 some r5
theorem ty_rule_Table_1 {n : Nat} (hn : bigN ≤ n) (a0 : T_Rule) (a1 : T_Rule) : Rv (fun x : Bool => (vb x)) (sem_rule_Table_1 n [(T_Rule.e a0), (V.ptr (T_Rule.c a1))]) (t_rule_Table_1 a0 a1) := by
  rw [eq_rule_Table_1]
  unfold t_rule_Table_1
  refine tb (x := (T_Rule.c a0)) rfl ?_
  refine tb (x := (T_Rule.e a0)) (rfl) ?_
  refine tb (x := (T_Rule.e a1)) (rfl) ?_
  refine tbo (ty_rule_Key hn a0 a1) fun r5 => ?_
  exact rf_ret rfl

/-! railpoint/rule.Table -/
def an_rule_Table : Ann := .seq (.reg 0 [] [] []) (.seq (.seq (.reg 0 [] [] []) (.cond none (.seq (.reg 0 [] [] []) (.no)) (.no))) (.seq (.seq (.reg 0 [] [] []) (.blk (some []) (.loop [.s 12] (.seq (.reg 0 [] [] []) (.seq (.cond none (.no) (.no)) (.seq (.blk none (.seq (.reg 0 [] [] []) (.seq (.seq (.reg 0 [4] [] []) (.seq (.reg 0 [] [] []) (.cond none (.seq (.reg 0 [] [] []) (.no)) (.no)))) (.seq (.reg 0 [] [] []) (.cond none (.seq (.reg 0 [] [] []) (.no)) (.no)))))) (.reg 0 [] [] []))))))) (.seq (.reg 0 [] [] []) (.no))))
noncomputable def sem_rule_Table (n : Nat) (xs : List V) : Option V := if xs.length ≤ 29 then denF Tryd.prog (envOf [(76, (sem_rule_Check n)), (77, (sem_slices_ContainsFunc_api_Table_api_Rule (envOf [(78, (sem_rule_Table_1 n))]) n)), (78, (sem_rule_Table_1 n))]) n Tryd.f54 an_rule_Table xs else none
theorem ok_rule_Table (n : Nat) : SemOk Tryd.prog DW 54 (sem_rule_Table n) := fun xs y h => by
  unfold sem_rule_Table at h
  split at h
  · rename_i hl
    exact denF_ok stb Tryd.func54 (by kernel_rfl) (envOf_ok (semsOk_cons (ok_rule_Check n) (semsOk_cons (ok_slices_ContainsFunc_api_Table_api_Rule (envOf_ok (semsOk_cons (ok_rule_Table_1 n) semsOk_nil)) n) (semsOk_cons (ok_rule_Table_1 n) semsOk_nil)))) (by rw [Tryd.ntmps54]; exact hl) h
  · cases h
theorem eq_rule_Table (n : Nat) (x0 : V) : sem_rule_Table n [x0] =
 (lenS [x0]).bind fun v1 =>
 (bin2 Tryd.prog BinOp.gtr 3 (ot 7) (oc 12) v1 (vi 12)).bind fun v2 =>
 condV v2 (
 (scal1 Tryd.prog (Instr.makeInterface 90) (vi 4)).bind fun v3 =>
 some v3) (
 (lenS [x0]).bind fun v4 =>
 JoinPt (fun vs5 =>
 some vn) fun J6 =>
 (fixN (fun rec7 vs8 =>
 (bin2 Tryd.prog BinOp.lss 3 (ot 12) (ot 11) (List.getD vs8 0 V.any) v4).bind fun v9 =>
 condV v9 (
 (idxS 6 x0 (List.getD vs8 0 V.any)).bind fun v10 =>
 (ldp (some 6) v10).bind fun v11 =>
 (spliceV [(vi 0), (vi 0), (vi 0), (vi 0), (vi 0), (vi 0)] 0 6 v11).bind fun v12 =>
 (ldp (some 6) (V.ptr (aggL v12))).bind fun v13 =>
 ((sem_rule_Check n) [v13]).bind fun v14 =>
 (bin2 Tryd.prog BinOp.neq 54 (ot 19) (Operand.const Go.Value.nilIface) v14 vn).bind fun v15 =>
 condV v15 (
 some v14) (
 (slc (some 6) x0 none (some (List.getD vs8 0 V.any))).bind fun v16 =>
 ((sem_slices_ContainsFunc_api_Table_api_Rule (envOf [(78, (sem_rule_Table_1 n))]) n) [v16, (V.fn 78 [(V.ptr (aggL v12))])]).bind fun v17 =>
 condV v17 (
 (scal1 Tryd.prog (Instr.makeInterface 90) (vi 7)).bind fun v18 =>
 some v18) (
 (bin2 Tryd.prog BinOp.add 3 (ot 12) (oc 1) (List.getD vs8 0 V.any) (vi 1)).bind fun v19 =>
 rec7 [v19]))) (
 J6 [])) n) [(vi 0)]) := by kernel_rfl
noncomputable def t_rule_Table (a0 : (List T_Rule)) : Option Int :=
 if (decide (12 < (List.length a0 : Int))) = true then (
 some 4) else (
 join (fun (s8 : Unit) =>
 some 0) fun j9 =>
 loopI a0 (fun (i17 : Int) x18 (s13 : Unit) k14 =>
 (t_rule_Check x18).bind fun r28 =>
 if (!decide (r28 = 0)) = true then (
 some r28) else (
 (slc_hi a0 i17).bind fun r32 =>
 (t_slices_ContainsFunc_api_Table_api_Rule r32 (fun (a33 : T_Rule) => t_rule_Table_1 a33 x18)).bind fun r35 =>
 if r35 = true then (
 some 7) else (
 k14 ()))) (fun (s13 : Unit) =>
 j9 ()) ())
theorem ty_rule_Table {n : Nat} (hn : bigN ≤ n) (a0 : (List T_Rule)) : Rv (fun x : Int => (eV x)) (sem_rule_Table n [(V.sl (List.map T_Rule.c a0))]) (t_rule_Table a0) := by
  rw [eq_rule_Table]
  unfold t_rule_Table
  refine tb (x := (vi (List.length a0 : Int))) (p_len _) ?_
  refine tb (x := (vb (decide (12 < (List.length a0 : Int))))) (d_gtr) ?_
  refine tcond (fun h3 => ?_) (fun h3 => ?_)
  · refine tb (x := (eV 4)) (p_mkE (by decide)) ?_
    exact rf_ret rfl
  · refine tb (x := (vi (List.length a0 : Int))) (p_len _) ?_
    refine tjoin (mk := fun s8 : Unit => []) (fun s8 => ?_) fun J7 j9 h10 => ?_
    · exact rf_ret rfl
    · refine rf_loopI (mk := fun (i17 : Int) (s13 : Unit) => [(vi (i17 : Int))]) hn a0 () (fun i17 x18 h19 h20 h21 s13 rec11 k14 h15 => ?_) (fun s13 rec40 h39 => ?_)
      · refine tb (x := (vb (decide ((i17 : Int) < (List.length a0 : Int))))) (d_lss) ?_
        refine tcond_t h21 ?_
        refine tb (x := (V.ptr (T_Rule.c x18))) (p_idx_at (c := T_Rule.c) (fun _ => rfl) h19) ?_
        refine tb (x := (T_Rule.e x18)) (rfl) ?_
        refine tb (x := V.agg (T_Rule.c x18)) (by kernel_rfl) ?_
        refine tb (x := (T_Rule.e x18)) (rfl) ?_
        refine tbo (ty_rule_Check hn x18) fun r28 => ?_
        refine tb (x := (vb (!decide (r28 = 0)))) (p_err_neq _) ?_
        refine tcond (fun h30 => ?_) (fun h30 => ?_)
        · exact rf_ret rfl
        · refine tbo (p_slc_hi (c := T_Rule.c) (fun _ => rfl) a0 (i17 : Int)) fun r32 => ?_
          refine tbo (ty_slices_ContainsFunc_api_Table_api_Rule (E := (envOf [(78, (sem_rule_Table_1 n))])) (x1 := (V.fn 78 [(V.ptr (T_Rule.c x18))])) (g1 := (fun (a33 : T_Rule) => t_rule_Table_1 a33 x18)) hn r32 (fun a33 => ty_rule_Table_1 hn a33 x18)) fun r35 => ?_
          refine tcond (fun h36 => ?_) (fun h36 => ?_)
          · refine tb (x := (eV 7)) (p_mkE (by decide)) ?_
            exact rf_ret rfl
          · refine tb (x := (vi ((i17 : Int) + 1))) (p_incN h20) ?_
            exact h15 ()
      · refine tb (x := (vb (decide ((List.length a0 : Int) < (List.length a0 : Int))))) (d_lss) ?_
        refine tcond_f h39 ?_
        exact h10 ()

/-! railpoint/net.Check -/
def an_net_Check : Ann := .seq (.reg 0 [] [] []) (.seq (.seq (.reg 0 [] [] []) (.seq (.reg 0 [] [] []) (.cond none (.seq (.reg 0 [] [] []) (.no)) (.no)))) (.seq (.seq (.reg 0 [] [] []) (.cond none (.seq (.reg 0 [] [] []) (.no)) (.no))) (.seq (.seq (.reg 0 [] [] []) (.blk (some []) (.loop [.s 24] (.seq (.reg 0 [] [] []) (.seq (.cond none (.no) (.no)) (.seq (.blk none (.seq (.reg 0 [] [] []) (.seq (.reg 0 [] [] []) (.seq (.reg 0 [] [] []) (.cond none (.seq (.reg 0 [] [] []) (.no)) (.no)))))) (.reg 0 [] [] []))))))) (.seq (.reg 0 [] [] []) (.no)))))
noncomputable def sem_net_Check (n : Nat) (xs : List V) : Option V := if xs.length ≤ 34 then denF Tryd.prog (envOf [(47, (sem_topo_Check n)), (54, (sem_rule_Table n))]) n Tryd.f28 an_net_Check xs else none
theorem ok_net_Check (n : Nat) : SemOk Tryd.prog DW 28 (sem_net_Check n) := fun xs y h => by
  unfold sem_net_Check at h
  split at h
  · rename_i hl
    exact denF_ok stb Tryd.func28 (by kernel_rfl) (envOf_ok (semsOk_cons (ok_topo_Check n) (semsOk_cons (ok_rule_Table n) semsOk_nil))) (by rw [Tryd.ntmps28]; exact hl) h
  · cases h
theorem eq_net_Check (n : Nat) (x0 : V) : sem_net_Check n [x0] =
 (V.cellsO x0).bind fun v1 =>
 (ldk (some 3) (List.drop 0 v1)).bind fun v2 =>
 ((sem_topo_Check n) [v2]).bind fun v3 =>
 (bin2 Tryd.prog BinOp.neq 54 (ot 10) (Operand.const Go.Value.nilIface) v3 vn).bind fun v4 =>
 condV v4 (
 some v3) (
 (ldk none (List.drop 3 v1)).bind fun v5 =>
 (lenS [v5]).bind fun v6 =>
 (ldk none (List.drop 0 v1)).bind fun v7 =>
 (bin2 Tryd.prog BinOp.neq 3 (ot 15) (ot 18) v6 v7).bind fun v8 =>
 condV v8 (
 (scal1 Tryd.prog (Instr.makeInterface 90) (vi 3)).bind fun v9 =>
 some v9) (
 (ldk none (List.drop 3 v1)).bind fun v10 =>
 (lenS [v10]).bind fun v11 =>
 JoinPt (fun vs12 =>
 some vn) fun J13 =>
 (fixN (fun rec14 vs15 =>
 (bin2 Tryd.prog BinOp.lss 3 (ot 24) (ot 23) (List.getD vs15 0 V.any) v11).bind fun v16 =>
 condV v16 (
 (idxS 1 v10 (List.getD vs15 0 V.any)).bind fun v17 =>
 (ldp none v17).bind fun v18 =>
 ((sem_rule_Table n) [v18]).bind fun v19 =>
 (bin2 Tryd.prog BinOp.neq 54 (ot 30) (Operand.const Go.Value.nilIface) v19 vn).bind fun v20 =>
 condV v20 (
 some v19) (
 (bin2 Tryd.prog BinOp.add 3 (ot 24) (oc 1) (List.getD vs15 0 V.any) (vi 1)).bind fun v21 =>
 rec14 [v21])) (
 J13 [])) n) [(vi 0)])) := by kernel_rfl
noncomputable def t_net_Check (a0 : T_Net) : Option Int :=
 (t_topo_Check a0.Topo).bind fun r4 =>
 if (!decide (r4 = 0)) = true then (
 some r4) else (
 if (decide ((List.length a0.Tables : Int) ≠ a0.Topo.Switches)) = true then (
 some 3) else (
 join (fun (s17 : Unit) =>
 some 0) fun j18 =>
 loopI a0.Tables (fun (i26 : Int) x27 (s22 : Unit) k23 =>
 (t_rule_Table x27).bind fun r35 =>
 if (!decide (r35 = 0)) = true then (
 some r35) else (
 k23 ())) (fun (s22 : Unit) =>
 j18 ()) ()))
theorem ty_net_Check {n : Nat} (hn : bigN ≤ n) (a0 : T_Net) : Rv (fun x : Int => (eV x)) (sem_net_Check n [(T_Net.e a0)]) (t_net_Check a0) := by
  rw [eq_net_Check]
  unfold t_net_Check
  refine tb (x := (T_Net.c a0)) rfl ?_
  refine tb (x := (T_Topo.e a0.Topo)) (rfl) ?_
  refine tbo (ty_topo_Check hn a0.Topo) fun r4 => ?_
  refine tb (x := (vb (!decide (r4 = 0)))) (p_err_neq _) ?_
  refine tcond (fun h6 => ?_) (fun h6 => ?_)
  · exact rf_ret rfl
  · refine tb (x := (V.sl (List.map (cS T_Rule.c) a0.Tables))) (rfl) ?_
    refine tb (x := (vi (List.length a0.Tables : Int))) (p_len _) ?_
    refine tb (x := (vi a0.Topo.Switches)) (rfl) ?_
    refine tb (x := (vb (decide ((List.length a0.Tables : Int) ≠ a0.Topo.Switches)))) (d_neq) ?_
    refine tcond (fun h11 => ?_) (fun h11 => ?_)
    · refine tb (x := (eV 3)) (p_mkE (by decide)) ?_
      exact rf_ret rfl
    · refine tb (x := (V.sl (List.map (cS T_Rule.c) a0.Tables))) (rfl) ?_
      refine tb (x := (vi (List.length a0.Tables : Int))) (p_len _) ?_
      refine tjoin (mk := fun s17 : Unit => []) (fun s17 => ?_) fun J16 j18 h19 => ?_
      · exact rf_ret rfl
      · refine rf_loopI (mk := fun (i26 : Int) (s22 : Unit) => [(vi (i26 : Int))]) hn a0.Tables () (fun i26 x27 h28 h29 h30 s22 rec20 k23 h24 => ?_) (fun s22 rec40 h39 => ?_)
        · refine tb (x := (vb (decide ((i26 : Int) < (List.length a0.Tables : Int))))) (d_lss) ?_
          refine tcond_t h30 ?_
          refine tb (x := (V.ptr [(V.sl (List.map T_Rule.c x27))])) (p_idx_at (c := (cS T_Rule.c)) (fun _ => rfl) h28) ?_
          refine tb (x := (V.sl (List.map T_Rule.c x27))) (rfl) ?_
          refine tbo (ty_rule_Table hn x27) fun r35 => ?_
          refine tb (x := (vb (!decide (r35 = 0)))) (p_err_neq _) ?_
          refine tcond (fun h37 => ?_) (fun h37 => ?_)
          · exact rf_ret rfl
          · refine tb (x := (vi ((i26 : Int) + 1))) (p_incN h29) ?_
            exact h24 ()
        · refine tb (x := (vb (decide ((List.length a0.Tables : Int) < (List.length a0.Tables : Int))))) (d_lss) ?_
          refine tcond_f h39 ?_
          exact h19 ()

/-! railpoint/net.Begin -/
def an_net_Begin : Ann := .seq (.reg 0 [] [] []) (.seq (.reg 0 [] [] []) (.no))
noncomputable def sem_net_Begin (n : Nat) (xs : List V) : Option V := if xs.length ≤ 10 then denF Tryd.prog (envOf []) n Tryd.f80 an_net_Begin xs else none
theorem ok_net_Begin (n : Nat) : SemOk Tryd.prog DW 80 (sem_net_Begin n) := fun xs y h => by
  unfold sem_net_Begin at h
  split at h
  · rename_i hl
    exact denF_ok stb Tryd.func80 (by kernel_rfl) (envOf_ok semsOk_nil) (by rw [Tryd.ntmps80]; exact hl) h
  · cases h
theorem eq_net_Begin (n : Nat) (x0 x1 : V) : sem_net_Begin n [x0, x1] =
 (V.cellsO x0).bind fun v1 =>
 (ldk (some 2) (List.drop 0 v1)).bind fun v2 =>
 ((fillL [(vi 0), (vi 0), (vi 0)] [(0, 2, v2), (2, 1, x1)]).map V.agg).bind fun v3 =>
 (slcB 3 1 [(vi 0), (vi 0), (vi 0)] [(0, v3)]).bind fun v4 =>
 ((fillL [(vi 0), (V.lit (Go.Value.string (ByteArray.mk #[]))), (V.sl [])] [(2, 1, v4)]).map V.agg).bind fun v5 =>
 (spliceV [(vi 0), (V.lit (Go.Value.string (ByteArray.mk #[]))), (V.sl [])] 0 3 v5).bind fun v6 =>
 (ldk (some 3) (List.drop 0 (aggL v6))).bind fun v7 =>
 some v7 := by kernel_rfl
noncomputable def t_net_Begin (a0 : T_Spot) (a1 : Int) : Option T_Fate :=
 some (T_Fate.mk 0 (ByteArray.mk #[]) ([(T_Hop.mk a0 a1)] : (List T_Hop)))
theorem ty_net_Begin {n : Nat} (hn : bigN ≤ n) (a0 : T_Spot) (a1 : Int) : Rv (fun x : T_Fate => (T_Fate.e x)) (sem_net_Begin n [(T_Spot.e a0), (vi a1)]) (t_net_Begin a0 a1) := by
  rw [eq_net_Begin]
  unfold t_net_Begin
  refine tb (x := (T_Spot.c a0)) rfl ?_
  refine tb (x := (T_Spot.e a0)) (rfl) ?_
  refine tb (x := (T_Hop.e (T_Hop.mk a0 a1))) (by kernel_rfl) ?_
  refine tb (x := (V.sl (List.map T_Hop.c ([(T_Hop.mk a0 a1)] : (List T_Hop))))) (by kernel_rfl) ?_
  refine tb (x := (T_Fate.e (T_Fate.mk 0 (ByteArray.mk #[]) ([(T_Hop.mk a0 a1)] : (List T_Hop))))) (by kernel_rfl) ?_
  refine tb (x := V.agg (T_Fate.c (T_Fate.mk 0 (ByteArray.mk #[]) ([(T_Hop.mk a0 a1)] : (List T_Hop))))) (by kernel_rfl) ?_
  refine tb (x := (T_Fate.e (T_Fate.mk 0 (ByteArray.mk #[]) ([(T_Hop.mk a0 a1)] : (List T_Hop))))) rfl ?_
  exact rf_ret rfl

/-! cmp.isNaN int  -/
def an_cmp_isNaN_int : Ann := .seq (.reg 0 [] [] []) (.seq (.reg 0 [] [] []) (.no))
noncomputable def sem_cmp_isNaN_int (n : Nat) (xs : List V) : Option V := if xs.length ≤ 6 then denF Tryd.prog (envOf []) n Tryd.f114 an_cmp_isNaN_int xs else none
theorem ok_cmp_isNaN_int (n : Nat) : SemOk Tryd.prog DW 114 (sem_cmp_isNaN_int n) := fun xs y h => by
  unfold sem_cmp_isNaN_int at h
  split at h
  · rename_i hl
    exact denF_ok stb Tryd.func114 (by kernel_rfl) (envOf_ok semsOk_nil) (by rw [Tryd.ntmps114]; exact hl) h
  · cases h
theorem eq_cmp_isNaN_int (n : Nat) (x0 : V) : sem_cmp_isNaN_int n [x0] =
 (bin2 Tryd.prog BinOp.neq 3 (ot 3) (ot 4) x0 x0).bind fun v1 =>
 some v1 := by kernel_rfl
noncomputable def t_cmp_isNaN_int (a0 : Int) : Option Bool :=
 some (decide (a0 ≠ a0))
theorem ty_cmp_isNaN_int {n : Nat} (hn : bigN ≤ n) (a0 : Int) : Rv (fun x : Bool => (vb x)) (sem_cmp_isNaN_int n [(vi a0)]) (t_cmp_isNaN_int a0) := by
  rw [eq_cmp_isNaN_int]
  unfold t_cmp_isNaN_int
  refine tb (x := (vb (decide (a0 ≠ a0)))) (d_neq) ?_
  exact rf_ret rfl

/-! cmp.Compare int  -/
def an_cmp_Compare_int : Ann := .seq (.reg 0 [] [] []) (.seq (.reg 0 [] [] []) (.seq (.reg 0 [] [] []) (.seq (.seq (.reg 0 [] [] []) (.cond none (.seq (.seq (.reg 0 [] [] []) (.cond none (.seq (.reg 0 [] [] []) (.no)) (.no))) (.seq (.reg 0 [] [] []) (.no))) (.no))) (.seq (.seq (.reg 0 [] [] []) (.cond none (.seq (.reg 0 [] [] []) (.no)) (.no))) (.seq (.seq (.reg 0 [] [] []) (.cond none (.seq (.reg 0 [] [] []) (.no)) (.no))) (.seq (.seq (.reg 0 [] [] []) (.cond none (.seq (.reg 0 [] [] []) (.no)) (.no))) (.seq (.reg 0 [] [] []) (.no))))))))
noncomputable def sem_cmp_Compare_int (n : Nat) (xs : List V) : Option V := if xs.length ≤ 20 then denF Tryd.prog (envOf [(114, (sem_cmp_isNaN_int n))]) n Tryd.f109 an_cmp_Compare_int xs else none
theorem ok_cmp_Compare_int (n : Nat) : SemOk Tryd.prog DW 109 (sem_cmp_Compare_int n) := fun xs y h => by
  unfold sem_cmp_Compare_int at h
  split at h
  · rename_i hl
    exact denF_ok stb Tryd.func109 (by kernel_rfl) (envOf_ok (semsOk_cons (ok_cmp_isNaN_int n) semsOk_nil)) (by rw [Tryd.ntmps109]; exact hl) h
  · cases h
theorem eq_cmp_Compare_int (n : Nat) (x0 x1 : V) : sem_cmp_Compare_int n [x0, x1] =
 ((sem_cmp_isNaN_int n) [x0]).bind fun v1 =>
 ((sem_cmp_isNaN_int n) [x1]).bind fun v2 =>
 condV v1 (
 condV v2 (
 some (vi 0)) (
 some (vi (-1 : Int)))) (
 condV v2 (
 some (vi 1)) (
 (bin2 Tryd.prog BinOp.lss 3 (ot 14) (ot 15) x0 x1).bind fun v3 =>
 condV v3 (
 some (vi (-1 : Int))) (
 (bin2 Tryd.prog BinOp.gtr 3 (ot 17) (ot 18) x0 x1).bind fun v4 =>
 condV v4 (
 some (vi 1)) (
 some (vi 0))))) := by kernel_rfl
noncomputable def t_cmp_Compare_int (a0 : Int) (a1 : Int) : Option Int :=
 (t_cmp_isNaN_int a0).bind fun r2 =>
 (t_cmp_isNaN_int a1).bind fun r4 =>
 if r2 = true then (
 if r4 = true then (
 some 0) else (
 some (-1 : Int))) else (
 if r4 = true then (
 some 1) else (
 if (decide (a0 < a1)) = true then (
 some (-1 : Int)) else (
 if (decide (a1 < a0)) = true then (
 some 1) else (
 some 0))))
theorem ty_cmp_Compare_int {n : Nat} (hn : bigN ≤ n) (a0 : Int) (a1 : Int) : Rv (fun x : Int => (vi x)) (sem_cmp_Compare_int n [(vi a0), (vi a1)]) (t_cmp_Compare_int a0 a1) := by
  rw [eq_cmp_Compare_int]
  unfold t_cmp_Compare_int
  refine tbo (ty_cmp_isNaN_int hn a0) fun r2 => ?_
  refine tbo (ty_cmp_isNaN_int hn a1) fun r4 => ?_
  refine tcond (fun h5 => ?_) (fun h5 => ?_)
  · refine tcond (fun h6 => ?_) (fun h6 => ?_)
    · exact rf_ret rfl
    · exact rf_ret rfl
  · refine tcond (fun h7 => ?_) (fun h7 => ?_)
    · exact rf_ret rfl
    · refine tb (x := (vb (decide (a0 < a1)))) (d_lss) ?_
      refine tcond (fun h9 => ?_) (fun h9 => ?_)
      · exact rf_ret rfl
      · refine tb (x := (vb (decide (a1 < a0)))) (d_gtr) ?_
        refine tcond (fun h11 => ?_) (fun h11 => ?_)
        · exact rf_ret rfl
        · exact rf_ret rfl

/-! cmp.Or int  -/
def an_cmp_Or_int : Ann := .seq (.reg 0 [] [] []) (.seq (.reg 0 [] [] []) (.seq (.seq (.reg 0 [] [] []) (.blk (some []) (.loop [.s 8] (.seq (.reg 0 [] [] []) (.seq (.cond none (.no) (.no)) (.seq (.blk none (.seq (.reg 0 [] [] []) (.seq (.reg 0 [] [] []) (.cond none (.seq (.reg 0 [] [] []) (.no)) (.no))))) (.reg 0 [] [] []))))))) (.seq (.reg 0 [] [] []) (.no))))
noncomputable def sem_cmp_Or_int (n : Nat) (xs : List V) : Option V := if xs.length ≤ 18 then denF Tryd.prog (envOf []) n Tryd.f108 an_cmp_Or_int xs else none
theorem ok_cmp_Or_int (n : Nat) : SemOk Tryd.prog DW 108 (sem_cmp_Or_int n) := fun xs y h => by
  unfold sem_cmp_Or_int at h
  split at h
  · rename_i hl
    exact denF_ok stb Tryd.func108 (by kernel_rfl) (envOf_ok semsOk_nil) (by rw [Tryd.ntmps108]; exact hl) h
  · cases h
theorem eq_cmp_Or_int (n : Nat) (x0 : V) : sem_cmp_Or_int n [x0] =
 (lenS [x0]).bind fun v1 =>
 JoinPt (fun vs2 =>
 some (vi 0)) fun J3 =>
 (fixN (fun rec4 vs5 =>
 (bin2 Tryd.prog BinOp.lss 3 (ot 8) (ot 7) (List.getD vs5 0 V.any) v1).bind fun v6 =>
 condV v6 (
 (idxS 1 x0 (List.getD vs5 0 V.any)).bind fun v7 =>
 (ldp none v7).bind fun v8 =>
 (bin2 Tryd.prog BinOp.neq 3 (ot 12) (ot 13) v8 (vi 0)).bind fun v9 =>
 condV v9 (
 some v8) (
 (bin2 Tryd.prog BinOp.add 3 (ot 8) (oc 1) (List.getD vs5 0 V.any) (vi 1)).bind fun v10 =>
 rec4 [v10])) (
 J3 [])) n) [(vi 0)] := by kernel_rfl
noncomputable def t_cmp_Or_int (a0 : (List Int)) : Option Int :=
 join (fun (s4 : Unit) =>
 some 0) fun j5 =>
 loopI a0 (fun (i13 : Int) x14 (s9 : Unit) k10 =>
 if (decide (x14 ≠ 0)) = true then (
 some x14) else (
 k10 ())) (fun (s9 : Unit) =>
 j5 ()) ()
theorem ty_cmp_Or_int {n : Nat} (hn : bigN ≤ n) (a0 : (List Int)) : Rv (fun x : Int => (vi x)) (sem_cmp_Or_int n [(V.sl (List.map cI a0))]) (t_cmp_Or_int a0) := by
  rw [eq_cmp_Or_int]
  unfold t_cmp_Or_int
  refine tb (x := (vi (List.length a0 : Int))) (p_len _) ?_
  refine tjoin (mk := fun s4 : Unit => []) (fun s4 => ?_) fun J3 j5 h6 => ?_
  · exact rf_ret rfl
  · refine rf_loopI (mk := fun (i13 : Int) (s9 : Unit) => [(vi (i13 : Int))]) hn a0 () (fun i13 x14 h15 h16 h17 s9 rec7 k10 h11 => ?_) (fun s9 rec25 h24 => ?_)
    · refine tb (x := (vb (decide ((i13 : Int) < (List.length a0 : Int))))) (d_lss) ?_
      refine tcond_t h17 ?_
      refine tb (x := (V.ptr [(vi x14)])) (p_idx_at (c := cI) (fun _ => rfl) h15) ?_
      refine tb (x := (vi x14)) (rfl) ?_
      refine tb (x := (vb (decide (x14 ≠ 0)))) (d_neq) ?_
      refine tcond (fun h22 => ?_) (fun h22 => ?_)
      · exact rf_ret rfl
      · refine tb (x := (vi ((i13 : Int) + 1))) (p_incN h16) ?_
        exact h11 ()
    · refine tb (x := (vb (decide ((List.length a0 : Int) < (List.length a0 : Int))))) (d_lss) ?_
      refine tcond_f h24 ?_
      exact h6 ()

/-! railpoint/rule.above -/
def an_rule_above : Ann := .seq (.reg 0 [] [] []) (.seq (.reg 22 [] [] []) (.no))
noncomputable def sem_rule_above (n : Nat) (xs : List V) : Option V := if xs.length ≤ 26 then denF Tryd.prog (envOf [(109, (sem_cmp_Compare_int n)), (108, (sem_cmp_Or_int n))]) n Tryd.f86 an_rule_above xs else none
theorem ok_rule_above (n : Nat) : SemOk Tryd.prog DW 86 (sem_rule_above n) := fun xs y h => by
  unfold sem_rule_above at h
  split at h
  · rename_i hl
    exact denF_ok stb Tryd.func86 (by kernel_rfl) (envOf_ok (semsOk_cons (ok_cmp_Compare_int n) (semsOk_cons (ok_cmp_Or_int n) semsOk_nil))) (by rw [Tryd.ntmps86]; exact hl) h
  · cases h
theorem eq_rule_above (n : Nat) (x0 x1 : V) : sem_rule_above n [x0, x1] =
 (V.cellsO x0).bind fun v1 =>
 (V.cellsO x1).bind fun v2 =>
 (ldk none (List.drop 0 v1)).bind fun v3 =>
 (ldk none (List.drop 0 v2)).bind fun v4 =>
 ((sem_cmp_Compare_int n) [v3, v4]).bind fun v5 =>
 (ldk none (List.drop 1 v1)).bind fun v6 =>
 (ldk none (List.drop 1 v2)).bind fun v7 =>
 ((sem_cmp_Compare_int n) [v6, v7]).bind fun v8 =>
 (ldk none (List.drop 2 v1)).bind fun v9 =>
 (ldk none (List.drop 2 v2)).bind fun v10 =>
 ((sem_cmp_Compare_int n) [v9, v10]).bind fun v11 =>
 (slcB 1 3 [(vi 0)] [(0, v5), (1, v8), (2, v11)]).bind fun v12 =>
 ((sem_cmp_Or_int n) [v12]).bind fun v13 =>
 some v13 := by kernel_rfl
noncomputable def t_rule_above (a0 : T_Rule) (a1 : T_Rule) : Option Int :=
 (t_cmp_Compare_int a0.Prio a1.Prio).bind fun r6 =>
 (t_cmp_Compare_int a0.Cube.Mask a1.Cube.Mask).bind fun r10 =>
 (t_cmp_Compare_int a0.Cube.Bits a1.Cube.Bits).bind fun r14 =>
 (t_cmp_Or_int ([r6, r10, r14] : (List Int))).bind fun r17 =>
 some r17
theorem ty_rule_above {n : Nat} (hn : bigN ≤ n) (a0 : T_Rule) (a1 : T_Rule) : Rv (fun x : Int => (vi x)) (sem_rule_above n [(T_Rule.e a0), (T_Rule.e a1)]) (t_rule_above a0 a1) := by
  rw [eq_rule_above]
  unfold t_rule_above
  refine tb (x := (T_Rule.c a0)) rfl ?_
  refine tb (x := (T_Rule.c a1)) rfl ?_
  refine tb (x := (vi a0.Prio)) (rfl) ?_
  refine tb (x := (vi a1.Prio)) (rfl) ?_
  refine tbo (ty_cmp_Compare_int hn a0.Prio a1.Prio) fun r6 => ?_
  refine tb (x := (vi a0.Cube.Mask)) (rfl) ?_
  refine tb (x := (vi a1.Cube.Mask)) (rfl) ?_
  refine tbo (ty_cmp_Compare_int hn a0.Cube.Mask a1.Cube.Mask) fun r10 => ?_
  refine tb (x := (vi a0.Cube.Bits)) (rfl) ?_
  refine tb (x := (vi a1.Cube.Bits)) (rfl) ?_
  refine tbo (ty_cmp_Compare_int hn a0.Cube.Bits a1.Cube.Bits) fun r14 => ?_
  refine tb (x := (V.sl (List.map cI ([r6, r10, r14] : (List Int))))) (by kernel_rfl) ?_
  refine tbo (ty_cmp_Or_int hn ([r6, r10, r14] : (List Int))) fun r17 => ?_
  exact rf_ret rfl

/-! railpoint/rule.Find -/
def an_rule_Find : Ann := .seq (.reg 0 [] [] []) (.seq (.reg 0 [] [] []) (.seq (.seq (.reg 0 [] [] []) (.blk (some [.s 5]) (.loop [.s 5, .s 10] (.seq (.reg 0 [] [] []) (.seq (.cond none (.no) (.no)) (.seq (.blk none (.seq (.reg 0 [] [] []) (.seq (.reg 22 [] [] []) (.cond (some [.s 5]) (.reg 0 [] [] []) (.no))))) (.reg 0 [] [] []))))))) (.seq (.reg 0 [] [] []) (.no))))
noncomputable def sem_rule_Find (n : Nat) (xs : List V) : Option V := if xs.length ≤ 40 then denF Tryd.prog (envOf [(86, (sem_rule_above n))]) n Tryd.f59 an_rule_Find xs else none
theorem ok_rule_Find (n : Nat) : SemOk Tryd.prog DW 59 (sem_rule_Find n) := fun xs y h => by
  unfold sem_rule_Find at h
  split at h
  · rename_i hl
    exact denF_ok stb Tryd.func59 (by kernel_rfl) (envOf_ok (semsOk_cons (ok_rule_above n) semsOk_nil)) (by rw [Tryd.ntmps59]; exact hl) h
  · cases h
theorem eq_rule_Find (n : Nat) (x0 x1 : V) : sem_rule_Find n [x0, x1] =
 (lenS [x0]).bind fun v1 =>
 JoinPt (fun vs2 =>
 some (List.getD vs2 0 V.any)) fun J3 =>
 (fixN (fun rec4 vs5 =>
 (bin2 Tryd.prog BinOp.lss 3 (ot 10) (ot 9) (List.getD vs5 1 V.any) v1).bind fun v6 =>
 condV v6 (
 (idxS 6 x0 (List.getD vs5 1 V.any)).bind fun v7 =>
 (ldp (some 6) v7).bind fun v8 =>
 (spliceV [(vi 0), (vi 0), (vi 0), (vi 0), (vi 0), (vi 0)] 0 6 v8).bind fun v9 =>
 (ldk none (List.drop 1 (aggL v9))).bind fun v10 =>
 (bin2 Tryd.prog BinOp.and 3 (ot 15) (ot 18) x1 v10).bind fun v11 =>
 (ldk none (List.drop 2 (aggL v9))).bind fun v12 =>
 (bin2 Tryd.prog BinOp.eql 3 (ot 19) (ot 22) v11 v12).bind fun v13 =>
 (guardV v13 true (some (List.getD vs5 0 V.any))).bind fun v14 =>
 (guardV v13 true ((bin2 Tryd.prog BinOp.lss 3 (ot 25) (oc 0) v14 (vi 0)).bind fun v15 =>
 some v15)).bind fun v16 =>
 (guardV v13 true (some v16)).bind fun v17 =>
 (guardV v17 false ((ldk (some 6) (List.drop 0 (aggL v9))).bind fun v18 =>
 some v18)).bind fun v19 =>
 (guardV v17 false (some x0)).bind fun v20 =>
 (guardV v17 false (some (List.getD vs5 0 V.any))).bind fun v21 =>
 (guardV v17 false ((idxS 6 v20 v21).bind fun v22 =>
 some v22)).bind fun v23 =>
 (guardV v17 false ((ldp (some 6) v23).bind fun v24 =>
 some v24)).bind fun v25 =>
 (guardV v17 false (((sem_rule_above n) [v19, v25]).bind fun v26 =>
 some v26)).bind fun v27 =>
 (guardV v17 false ((bin2 Tryd.prog BinOp.gtr 3 (ot 33) (oc 0) v27 (vi 0)).bind fun v28 =>
 some v28)).bind fun v29 =>
 (guardV v13 true ((pickV v17 (vb true) v29).bind fun v30 =>
 some v30)).bind fun v31 =>
 (pickV v13 v31 (vb false)).bind fun v32 =>
 JoinPt (fun vs33 =>
 (bin2 Tryd.prog BinOp.add 3 (ot 10) (oc 1) (List.getD vs5 1 V.any) (vi 1)).bind fun v35 =>
 rec4 [(List.getD vs33 0 V.any), v35]) fun J34 =>
 condV v32 (
 J34 [(List.getD vs5 1 V.any)]) (
 J34 [(List.getD vs5 0 V.any)])) (
 J3 [(List.getD vs5 0 V.any)])) n) [(vi (-1 : Int)), (vi 0)] := by kernel_rfl
noncomputable def t_rule_Find (a0 : (List T_Rule)) (a1 : Int) : Option Int :=
 (loopI a0 (fun (i13 : Int) x14 (s9 : Int) k10 =>
 (gd ((decide ((bits .and .i64 a1 x14.Cube.Mask) = x14.Cube.Bits)) && (!(decide (s9 < 0)))) default (idx a0 s9)).bind fun r43 =>
 (gd ((decide ((bits .and .i64 a1 x14.Cube.Mask) = x14.Cube.Bits)) && (!(decide (s9 < 0)))) default (t_rule_above x14 r43)).bind fun r50 =>
 (if ((decide ((bits .and .i64 a1 x14.Cube.Mask) = x14.Cube.Bits)) && ((decide (s9 < 0)) || (decide (0 < r50)))) = true then (
 some i13) else (
 some (s9))).bind fun (s60 : Int) =>
 k10 (s60)) (fun (s9 : Int) =>
 some (s9)) (-1 : Int)).bind fun (s4 : Int) =>
 some s4
theorem ty_rule_Find {n : Nat} (hn : bigN ≤ n) (a0 : (List T_Rule)) (a1 : Int) : Rv (fun x : Int => (vi x)) (sem_rule_Find n [(V.sl (List.map T_Rule.c a0)), (vi a1)]) (t_rule_Find a0 a1) := by
  rw [eq_rule_Find]
  unfold t_rule_Find
  refine tb (x := (vi (List.length a0 : Int))) (p_len _) ?_
  refine tjb (mk := fun s4 : Int => [(vi s4)]) (fun J3 => ?_) fun s4 => ?_
  · refine rf_loopI (mk := fun (i13 : Int) (s9 : Int) => [(vi s9), (vi (i13 : Int))]) hn a0 (-1 : Int) (fun i13 x14 h15 h16 h17 s9 rec7 k10 h11 => ?_) (fun s9 rec66 h65 => ?_)
    · refine tb (x := (vb (decide ((i13 : Int) < (List.length a0 : Int))))) (d_lss) ?_
      refine tcond_t h17 ?_
      refine tb (x := (V.ptr (T_Rule.c x14))) (p_idx_at (c := T_Rule.c) (fun _ => rfl) h15) ?_
      refine tb (x := (T_Rule.e x14)) (rfl) ?_
      refine tb (x := V.agg (T_Rule.c x14)) (by kernel_rfl) ?_
      refine tb (x := (vi x14.Cube.Mask)) (rfl) ?_
      refine tb (x := (vi (bits .and .i64 a1 x14.Cube.Mask))) (d_and) ?_
      refine tb (x := (vi x14.Cube.Bits)) (rfl) ?_
      refine tb (x := (vb (decide ((bits .and .i64 a1 x14.Cube.Mask) = x14.Cube.Bits)))) (d_eql) ?_
      refine tg (x := (vi s9)) (fun h26 => rfl) ?_
      refine tg (x := (vb (decide (s9 < 0)))) (fun h28 => by simp only [gv_t h28]; exact bind_some_eq (d_lss)) ?_
      refine tg (x := (vb (decide (s9 < 0)))) (fun h31 => congrArg some (gv_t h31)) ?_
      refine tg2_f (x := (T_Rule.e x14)) (fun h33 => bind_some_eq (rfl)) ?_
      refine tg2_f (x := (V.sl (List.map T_Rule.c a0))) (fun h36 => rfl) ?_
      refine tg2_f (x := (vi s9)) (fun h38 => rfl) ?_
      refine tgo2_f (fun h40 => by simp only [gv_t h40]; exact rf_bind_some (p_idx (c := T_Rule.c) (fun _ => rfl) a0 s9)) fun r43 => ?_
      refine tg2_f (x := (T_Rule.e r43)) (fun h44 => by first | exact bind_some_eq (rfl) | (simp only [gv_t h44]; exact bind_some_eq (rfl))) ?_
      refine tgo2_f (fun h47 => by simp only [gv_t h47]; exact rf_bind_some (ty_rule_above hn x14 r43)) fun r50 => ?_
      refine tg2_f (x := (vb (decide (0 < r50)))) (fun h51 => by simp only [gv_t h51]; exact bind_some_eq (d_gtr)) ?_
      refine tg (x := (vb ((decide (s9 < 0)) || (decide (0 < r50))))) (fun h54 => by simp only [gv_t h54]; exact bind_some_eq (pick_or (fun h9 => gv_t (and_i h54 (not_f h9))))) ?_
      refine tb (x := (vb ((decide ((bits .and .i64 a1 x14.Cube.Mask) = x14.Cube.Bits)) && ((decide (s9 < 0)) || (decide (0 < r50)))))) (pick_and (fun h9 => gv_t h9)) ?_
      refine tjb (mk := fun s60 : Int => [(vi s60)]) (fun J59 => ?_) fun s60 => ?_
      · refine tcond (fun h64 => ?_) (fun h64 => ?_)
        · exact rf_j rfl
        · exact rf_j rfl
      · refine tb (x := (vi ((i13 : Int) + 1))) (p_incN h16) ?_
        exact h11 (s60)
    · refine tb (x := (vb (decide ((List.length a0 : Int) < (List.length a0 : Int))))) (d_lss) ?_
      refine tcond_f h65 ?_
      exact rf_j rfl
  · exact rf_ret rfl

/-! railpoint/net.Out -/
def an_net_Out : Ann := .seq (.reg 0 [] [] []) (.seq (.reg 0 [] [] []) (.seq (.seq (.reg 0 [] [] []) (.cond none (.seq (.reg 0 [] [] []) (.no)) (.no))) (.seq (.reg 2097045 [] [] []) (.no))))
noncomputable def sem_net_Out (n : Nat) (xs : List V) : Option V := if xs.length ≤ 45 then denF Tryd.prog (envOf [(59, (sem_rule_Find n))]) n Tryd.f100 an_net_Out xs else none
theorem ok_net_Out (n : Nat) : SemOk Tryd.prog DW 100 (sem_net_Out n) := fun xs y h => by
  unfold sem_net_Out at h
  split at h
  · rename_i hl
    exact denF_ok stb Tryd.func100 (by kernel_rfl) (envOf_ok (semsOk_cons (ok_rule_Find n) semsOk_nil)) (by rw [Tryd.ntmps100]; exact hl) h
  · cases h
theorem eq_net_Out (n : Nat) (x0 x1 x2 : V) : sem_net_Out n [x0, x1, x2] =
 (V.cellsO x1).bind fun v1 =>
 ((sem_rule_Find n) [x0, x2]).bind fun v2 =>
 (bin2 Tryd.prog BinOp.lss 3 (ot 13) (oc 0) v2 (vi 0)).bind fun v3 =>
 (guardV v3 false (some x0)).bind fun v4 =>
 (guardV v3 false (some v2)).bind fun v5 =>
 (guardV v3 false ((idxS 6 v4 v5).bind fun v6 =>
 some v6)).bind fun v7 =>
 (guardV v3 false ((ptrF 3 v7).bind fun v8 =>
 some v8)).bind fun v9 =>
 (guardV v3 false ((ldp none v9).bind fun v10 =>
 some v10)).bind fun v11 =>
 (guardV v3 false ((bin2 Tryd.prog BinOp.eql 3 (ot 20) (oc 0) v11 (vi 0)).bind fun v12 =>
 some v12)).bind fun v13 =>
 (pickV v3 (vb true) v13).bind fun v14 =>
 condV v14 (
 ((fillL [(vi 0), (vi 0)] []).map V.agg).bind fun v15 =>
 (spliceV [(vi 0), (vi 0)] 0 2 v15).bind fun v16 =>
 (ldk (some 2) (List.drop 0 (aggL v16))).bind fun v17 =>
 some (V.tup [v17, (vi 0), (vb false)])) (
 (idxS 6 x0 v2).bind fun v18 =>
 (ptrF 3 v18).bind fun v19 =>
 (ldp none v19).bind fun v20 =>
 (litV v20).bind fun v21 =>
 (idxS 6 x0 v2).bind fun v22 =>
 (ptrF 4 v22).bind fun v23 =>
 (ldp none v23).bind fun v24 =>
 (litV v24).bind fun v25 =>
 (bin2 Tryd.prog BinOp.andNot 3 (ot 32) (ot 37) x2 v25).bind fun v26 =>
 (litV v26).bind fun v27 =>
 (idxS 6 x0 v2).bind fun v28 =>
 (ptrF 5 v28).bind fun v29 =>
 (ldp none v29).bind fun v30 =>
 (litV v30).bind fun v31 =>
 (bin2 Tryd.prog BinOp.or 3 (ot 38) (ot 43) v27 v31).bind fun v32 =>
 (litV v32).bind fun v33 =>
 (ldk none (List.drop 0 v1)).bind fun v34 =>
 ((fillL [(vi 0), (vi 0)] [(0, 1, v34), (1, 1, v21)]).map V.agg).bind fun v35 =>
 (spliceV [(vi 0), (vi 0)] 0 2 v35).bind fun v36 =>
 (ldk (some 2) (List.drop 0 (aggL v36))).bind fun v37 =>
 some (V.tup [v37, v33, (vb true)])) := by kernel_rfl
noncomputable def t_net_Out (a0 : (List T_Rule)) (a1 : T_Spot) (a2 : Int) : Option (T_Spot × Int × Bool) :=
 (t_rule_Find a0 a2).bind fun r3 =>
 (gd (!(decide (r3 < 0))) default (idx a0 r3)).bind fun r12 =>
 if ((decide (r3 < 0)) || (decide (r12.Out = 0))) = true then (
 some ((T_Spot.mk 0 0), 0, false)) else (
 (idx a0 r3).bind fun r28 =>
 (idx a0 r3).bind fun r33 =>
 (idx a0 r3).bind fun r40 =>
 some ((T_Spot.mk a1.Switch r28.Out), (bits .or .i64 (bits .andNot .i64 a2 r33.Set) r40.Value), true))
theorem ty_net_Out {n : Nat} (hn : bigN ≤ n) (a0 : (List T_Rule)) (a1 : T_Spot) (a2 : Int) : Rv (fun x : (T_Spot × Int × Bool) => V.tup [(T_Spot.e x.1), (vi x.2.1), (vb x.2.2)]) (sem_net_Out n [(V.sl (List.map T_Rule.c a0)), (T_Spot.e a1), (vi a2)]) (t_net_Out a0 a1 a2) := by
  rw [eq_net_Out]
  unfold t_net_Out
  refine tb (x := (T_Spot.c a1)) rfl ?_
  refine tbo (ty_rule_Find hn a0 a2) fun r3 => ?_
  refine tb (x := (vb (decide (r3 < 0)))) (d_lss) ?_
  refine tg_f (x := (V.sl (List.map T_Rule.c a0))) (fun h5 => rfl) ?_
  refine tg_f (x := (vi r3)) (fun h7 => rfl) ?_
  refine tgo_f (fun h9 => by simp only [gv_t h9]; exact rf_bind_some (p_idx (c := T_Rule.c) (fun _ => rfl) a0 r3)) fun r12 => ?_
  refine tg_f (x := (V.ptr (List.drop 3 (T_Rule.c r12)))) (fun h13 => by first | exact bind_some_eq (rfl) | (simp only [gv_t h13]; exact bind_some_eq (rfl))) ?_
  refine tg_f (x := (vi r12.Out)) (fun h16 => by first | exact bind_some_eq (rfl) | (simp only [gv_t h16]; exact bind_some_eq (rfl))) ?_
  refine tg_f (x := (vb (decide (r12.Out = 0)))) (fun h19 => by simp only [gv_t h19]; exact bind_some_eq (d_eql)) ?_
  refine tb (x := (vb ((decide (r3 < 0)) || (decide (r12.Out = 0))))) (pick_or (fun h9 => gv_t (not_f h9))) ?_
  refine tcond (fun h23 => ?_) (fun h23 => ?_)
  · refine tb (x := (T_Spot.e (T_Spot.mk 0 0))) (by kernel_rfl) ?_
    refine tb (x := V.agg (T_Spot.c (T_Spot.mk 0 0))) (by kernel_rfl) ?_
    refine tb (x := (T_Spot.e (T_Spot.mk 0 0))) rfl ?_
    exact rf_ret rfl
  · refine tbo (p_idx (c := T_Rule.c) (fun _ => rfl) a0 r3) fun r28 => ?_
    refine tb (x := (V.ptr (List.drop 3 (T_Rule.c r28)))) (rfl) ?_
    refine tb (x := (vi r28.Out)) (rfl) ?_
    refine tb (x := (vi r28.Out)) rfl ?_
    refine tbo (p_idx (c := T_Rule.c) (fun _ => rfl) a0 r3) fun r33 => ?_
    refine tb (x := (V.ptr (List.drop 4 (T_Rule.c r33)))) (rfl) ?_
    refine tb (x := (vi r33.Set)) (rfl) ?_
    refine tb (x := (vi r33.Set)) rfl ?_
    refine tb (x := (vi (bits .andNot .i64 a2 r33.Set))) (d_andNot) ?_
    refine tb (x := (vi (bits .andNot .i64 a2 r33.Set))) rfl ?_
    refine tbo (p_idx (c := T_Rule.c) (fun _ => rfl) a0 r3) fun r40 => ?_
    refine tb (x := (V.ptr (List.drop 5 (T_Rule.c r40)))) (rfl) ?_
    refine tb (x := (vi r40.Value)) (rfl) ?_
    refine tb (x := (vi r40.Value)) rfl ?_
    refine tb (x := (vi (bits .or .i64 (bits .andNot .i64 a2 r33.Set) r40.Value))) (d_or) ?_
    refine tb (x := (vi (bits .or .i64 (bits .andNot .i64 a2 r33.Set) r40.Value))) rfl ?_
    refine tb (x := (vi a1.Switch)) (rfl) ?_
    refine tb (x := (T_Spot.e (T_Spot.mk a1.Switch r28.Out))) (by kernel_rfl) ?_
    refine tb (x := V.agg (T_Spot.c (T_Spot.mk a1.Switch r28.Out))) (by kernel_rfl) ?_
    refine tb (x := (T_Spot.e (T_Spot.mk a1.Switch r28.Out))) rfl ?_
    exact rf_ret rfl

/-! slices.IndexFunc   railpoint/api.Host railpoint/api.Host  -/
def an_slices_IndexFunc_api_Host_api_Host : Ann := .seq (.reg 0 [] [] []) (.seq (.seq (.reg 0 [] [] []) (.blk (some []) (.loop [.s 8] (.seq (.reg 0 [] [] []) (.seq (.cond none (.no) (.no)) (.seq (.blk none (.seq (.reg 0 [] [] []) (.seq (.reg 0 [] [] []) (.cond none (.seq (.reg 0 [] [] []) (.no)) (.no))))) (.reg 0 [] [] []))))))) (.seq (.reg 0 [] [] []) (.no)))
noncomputable def sem_slices_IndexFunc_api_Host_api_Host (E : FuncId → List V → Option V) (n : Nat) (xs : List V) : Option V := if xs.length ≤ 19 then denF Tryd.prog (envJ [] E) n Tryd.f33 an_slices_IndexFunc_api_Host_api_Host xs else none
theorem ok_slices_IndexFunc_api_Host_api_Host {E : FuncId → List V → Option V} (hE : EnvOk Tryd.prog DW E) (n : Nat) : SemOk Tryd.prog DW 33 (sem_slices_IndexFunc_api_Host_api_Host E n) := fun xs y h => by
  unfold sem_slices_IndexFunc_api_Host_api_Host at h
  split at h
  · rename_i hl
    exact denF_ok stb Tryd.func33 (by kernel_rfl) (envJ_ok semsOk_nil hE) (by rw [Tryd.ntmps33]; exact hl) h
  · cases h
theorem eq_slices_IndexFunc_api_Host_api_Host (E : FuncId → List V → Option V) (n : Nat) (x0 x1 : V) : sem_slices_IndexFunc_api_Host_api_Host E n [x0, x1] =
 (lenS [x0]).bind fun v1 =>
 JoinPt (fun vs2 =>
 some (vi (-1 : Int))) fun J3 =>
 (fixN (fun rec4 vs5 =>
 (bin2 Tryd.prog BinOp.lss 3 (ot 8) (ot 7) (List.getD vs5 0 V.any) v1).bind fun v6 =>
 condV v6 (
 (idxS 3 x0 (List.getD vs5 0 V.any)).bind fun v7 =>
 (ldp (some 3) v7).bind fun v8 =>
 (callV (envJ [] E) x1 [v8]).bind fun v9 =>
 condV v9 (
 some (List.getD vs5 0 V.any)) (
 (bin2 Tryd.prog BinOp.add 3 (ot 8) (oc 1) (List.getD vs5 0 V.any) (vi 1)).bind fun v10 =>
 rec4 [v10])) (
 J3 [])) n) [(vi 0)] := by kernel_rfl
noncomputable def t_slices_IndexFunc_api_Host_api_Host (a0 : (List T_Host)) (g1 : T_Host → Option Bool) : Option Int :=
 join (fun (s4 : Unit) =>
 some (-1 : Int)) fun j5 =>
 loopI a0 (fun (i13 : Int) x14 (s9 : Unit) k10 =>
 (g1 x14).bind fun r22 =>
 if r22 = true then (
 some i13) else (
 k10 ())) (fun (s9 : Unit) =>
 j5 ()) ()
theorem ty_slices_IndexFunc_api_Host_api_Host {E : FuncId → List V → Option V} {n : Nat} (hn : bigN ≤ n) (a0 : (List T_Host)) {x1 : V} {g1 : T_Host → Option Bool} (hg_g1 : ∀ a0, Rv (fun x : Bool => (vb x)) (callV E x1 [(T_Host.e a0)]) (g1 a0)) : Rv (fun x : Int => (vi x)) (sem_slices_IndexFunc_api_Host_api_Host E n [(V.sl (List.map T_Host.c a0)), x1]) (t_slices_IndexFunc_api_Host_api_Host a0 g1) := by
  rw [eq_slices_IndexFunc_api_Host_api_Host]
  unfold t_slices_IndexFunc_api_Host_api_Host
  refine tb (x := (vi (List.length a0 : Int))) (p_len _) ?_
  refine tjoin (mk := fun s4 : Unit => []) (fun s4 => ?_) fun J3 j5 h6 => ?_
  · exact rf_ret rfl
  · refine rf_loopI (mk := fun (i13 : Int) (s9 : Unit) => [(vi (i13 : Int))]) hn a0 () (fun i13 x14 h15 h16 h17 s9 rec7 k10 h11 => ?_) (fun s9 rec26 h25 => ?_)
    · refine tb (x := (vb (decide ((i13 : Int) < (List.length a0 : Int))))) (d_lss) ?_
      refine tcond_t h17 ?_
      refine tb (x := (V.ptr (T_Host.c x14))) (p_idx_at (c := T_Host.c) (fun _ => rfl) h15) ?_
      refine tb (x := (T_Host.e x14)) (rfl) ?_
      refine tbo ((callV_J0 ▸ hg_g1 x14)) fun r22 => ?_
      refine tcond (fun h23 => ?_) (fun h23 => ?_)
      · exact rf_ret rfl
      · refine tb (x := (vi ((i13 : Int) + 1))) (p_incN h16) ?_
        exact h11 ()
    · refine tb (x := (vb (decide ((List.length a0 : Int) < (List.length a0 : Int))))) (d_lss) ?_
      refine tcond_f h25 ?_
      exact h6 ()

/-! railpoint/topo.Host$1 -/
def an_topo_Host_1 : Ann := .seq (.reg 0 [] [] []) (.seq (.reg 0 [] [] []) (.no))
noncomputable def sem_topo_Host_1 (n : Nat) (xs : List V) : Option V := if xs.length ≤ 8 then denF Tryd.prog (envOf []) n Tryd.f112 an_topo_Host_1 xs else none
theorem ok_topo_Host_1 (n : Nat) : SemOk Tryd.prog DW 112 (sem_topo_Host_1 n) := fun xs y h => by
  unfold sem_topo_Host_1 at h
  split at h
  · rename_i hl
    exact denF_ok stb Tryd.func112 (by kernel_rfl) (envOf_ok semsOk_nil) (by rw [Tryd.ntmps112]; exact hl) h
  · cases h
theorem eq_topo_Host_1 (n : Nat) (x0 x1 : V) : sem_topo_Host_1 n [x0, x1] =
 (V.cellsO x0).bind fun v1 =>
 (ldk (some 2) (List.drop 1 v1)).bind fun v2 =>
 (ldp (some 2) x1).bind fun v3 =>
 (bin2 Tryd.prog BinOp.eql 43 (ot 5) (ot 6) v2 v3).bind fun v4 =>
 some v4 := by kernel_rfl
noncomputable def t_topo_Host_1 (a0 : T_Host) (a1 : T_Spot) : Option Bool :=
 some (decide (a0.At = a1))
theorem ty_topo_Host_1 {n : Nat} (hn : bigN ≤ n) (a0 : T_Host) (a1 : T_Spot) : Rv (fun x : Bool => (vb x)) (sem_topo_Host_1 n [(T_Host.e a0), (V.ptr (T_Spot.c a1))]) (t_topo_Host_1 a0 a1) := by
  rw [eq_topo_Host_1]
  unfold t_topo_Host_1
  refine tb (x := (T_Host.c a0)) rfl ?_
  refine tb (x := (T_Spot.e a0.At)) (rfl) ?_
  refine tb (x := (T_Spot.e a1)) (rfl) ?_
  refine tb (x := (vb (decide (a0.At = a1)))) (T_Spot.eql a0.At a1) ?_
  exact rf_ret rfl

/-! railpoint/topo.Host -/
def an_topo_Host : Ann := .seq (.reg 0 [] [] []) (.seq (.reg 0 [3] [] []) (.seq (.seq (.reg 0 [] [] []) (.cond none (.seq (.reg 0 [] [] []) (.no)) (.no))) (.seq (.reg 0 [] [] []) (.no))))
noncomputable def sem_topo_Host (n : Nat) (xs : List V) : Option V := if xs.length ≤ 19 then denF Tryd.prog (envOf [(33, (sem_slices_IndexFunc_api_Host_api_Host (envOf [(112, (sem_topo_Host_1 n))]) n)), (112, (sem_topo_Host_1 n))]) n Tryd.f101 an_topo_Host xs else none
theorem ok_topo_Host (n : Nat) : SemOk Tryd.prog DW 101 (sem_topo_Host n) := fun xs y h => by
  unfold sem_topo_Host at h
  split at h
  · rename_i hl
    exact denF_ok stb Tryd.func101 (by kernel_rfl) (envOf_ok (semsOk_cons (ok_slices_IndexFunc_api_Host_api_Host (envOf_ok (semsOk_cons (ok_topo_Host_1 n) semsOk_nil)) n) (semsOk_cons (ok_topo_Host_1 n) semsOk_nil))) (by rw [Tryd.ntmps101]; exact hl) h
  · cases h
theorem eq_topo_Host (n : Nat) (x0 x1 : V) : sem_topo_Host n [x0, x1] =
 (V.cellsO x0).bind fun v1 =>
 (V.cellsO x1).bind fun v2 =>
 (ldk none (List.drop 2 v1)).bind fun v3 =>
 ((sem_slices_IndexFunc_api_Host_api_Host (envOf [(112, (sem_topo_Host_1 n))]) n) [v3, (V.fn 112 [(V.ptr v2)])]).bind fun v4 =>
 (bin2 Tryd.prog BinOp.lss 3 (ot 11) (oc 0) v4 (vi 0)).bind fun v5 =>
 condV v5 (
 some (V.tup [(V.lit (Go.Value.string (ByteArray.mk #[]))), (vb false)])) (
 (ldk none (List.drop 2 v1)).bind fun v6 =>
 (idxS 3 v6 v4).bind fun v7 =>
 (ptrF 0 v7).bind fun v8 =>
 (ldp none v8).bind fun v9 =>
 some (V.tup [v9, (vb true)])) := by kernel_rfl
noncomputable def t_topo_Host (a0 : T_Topo) (a1 : T_Spot) : Option (ByteArray × Bool) :=
 (t_slices_IndexFunc_api_Host_api_Host a0.Hosts (fun (a4 : T_Host) => t_topo_Host_1 a4 a1)).bind fun r6 =>
 if (decide (r6 < 0)) = true then (
 some ((ByteArray.mk #[]), false)) else (
 (idx a0.Hosts r6).bind fun r11 =>
 some (r11.Name, true))
theorem ty_topo_Host {n : Nat} (hn : bigN ≤ n) (a0 : T_Topo) (a1 : T_Spot) : Rv (fun x : (ByteArray × Bool) => V.tup [(vt x.1), (vb x.2)]) (sem_topo_Host n [(T_Topo.e a0), (T_Spot.e a1)]) (t_topo_Host a0 a1) := by
  rw [eq_topo_Host]
  unfold t_topo_Host
  refine tb (x := (T_Topo.c a0)) rfl ?_
  refine tb (x := (T_Spot.c a1)) rfl ?_
  refine tb (x := (V.sl (List.map T_Host.c a0.Hosts))) (rfl) ?_
  refine tbo (ty_slices_IndexFunc_api_Host_api_Host (E := (envOf [(112, (sem_topo_Host_1 n))])) (x1 := (V.fn 112 [(V.ptr (T_Spot.c a1))])) (g1 := (fun (a4 : T_Host) => t_topo_Host_1 a4 a1)) hn a0.Hosts (fun a4 => ty_topo_Host_1 hn a4 a1)) fun r6 => ?_
  refine tb (x := (vb (decide (r6 < 0)))) (d_lss) ?_
  refine tcond (fun h8 => ?_) (fun h8 => ?_)
  · exact rf_ret rfl
  · refine tb (x := (V.sl (List.map T_Host.c a0.Hosts))) (rfl) ?_
    refine tbo (p_idx (c := T_Host.c) (fun _ => rfl) a0.Hosts r6) fun r11 => ?_
    refine tb (x := (V.ptr (T_Host.c r11))) (rfl) ?_
    refine tb (x := (vt r11.Name)) (rfl) ?_
    exact rf_ret rfl

/-! railpoint/topo.Other -/
def an_topo_Other : Ann := .seq (.reg 0 [] [] []) (.seq (.seq (.reg 0 [] [] []) (.blk (some [.b 4]) (.loop [.kb 3, .b 4, .s 11] (.seq (.reg 0 [] [] []) (.seq (.cond none (.no) (.no)) (.seq (.blk none (.seq (.reg 0 [] [] []) (.seq (.reg 0 [] [] []) (.blk none (.seq (.reg 0 [] [] []) (.cond none (.seq (.reg 0 [] [] []) (.no)) (.seq (.reg 0 [] [] []) (.cond none (.seq (.reg 0 [] [] []) (.no)) (.no))))))))) (.reg 0 [] [] []))))))) (.seq (.reg 0 [] [] []) (.no)))
noncomputable def sem_topo_Other (n : Nat) (xs : List V) : Option V := if xs.length ≤ 30 then denF Tryd.prog (envOf []) n Tryd.f102 an_topo_Other xs else none
theorem ok_topo_Other (n : Nat) : SemOk Tryd.prog DW 102 (sem_topo_Other n) := fun xs y h => by
  unfold sem_topo_Other at h
  split at h
  · rename_i hl
    exact denF_ok stb Tryd.func102 (by kernel_rfl) (envOf_ok semsOk_nil) (by rw [Tryd.ntmps102]; exact hl) h
  · cases h
theorem eq_topo_Other (n : Nat) (x0 x1 : V) : sem_topo_Other n [x0, x1] =
 (V.cellsO x0).bind fun v1 =>
 (V.cellsO x1).bind fun v2 =>
 (ldk none (List.drop 1 v1)).bind fun v3 =>
 (lenS [v3]).bind fun v4 =>
 JoinPt (fun vs5 =>
 ((fillL [(vi 0), (vi 0)] []).map V.agg).bind fun v7 =>
 (spliceV (aggL (List.getD vs5 0 V.any)) 0 2 v7).bind fun v8 =>
 (ldk (some 2) (List.drop 0 (aggL v8))).bind fun v9 =>
 some (V.tup [v9, (vb false)])) fun J6 =>
 (keepO (some v2) (some v2) (some [(V.agg [(vi 0), (vi 0)]), (vi 0)])).bind (fixN (fun rec10 vs11 =>
 (bin2 Tryd.prog BinOp.lss 3 (ot 11) (ot 10) (List.getD vs11 1 V.any) v4).bind fun v12 =>
 condV v12 (
 (idxS 4 v3 (List.getD vs11 1 V.any)).bind fun v13 =>
 (ldp (some 4) v13).bind fun v14 =>
 (spliceV [(vi 0), (vi 0), (vi 0), (vi 0)] 0 4 v14).bind fun v15 =>
 (ldk (some 2) (List.drop 0 v2)).bind fun v16 =>
 (ldk (some 2) (List.drop 0 (aggL v15))).bind fun v17 =>
 (bin2 Tryd.prog BinOp.eql 43 (ot 15) (ot 18) v16 v17).bind fun v18 =>
 condV v18 (
 (ldk (some 2) (List.drop 2 (aggL v15))).bind fun v19 =>
 (spliceV (aggL (List.getD vs11 0 V.any)) 0 2 v19).bind fun v20 =>
 (ldk (some 2) (List.drop 0 (aggL v20))).bind fun v21 =>
 some (V.tup [v21, (vb true)])) (
 (ldk (some 2) (List.drop 2 (aggL v15))).bind fun v22 =>
 (bin2 Tryd.prog BinOp.eql 43 (ot 15) (ot 24) v16 v22).bind fun v23 =>
 condV v23 (
 (ldk (some 2) (List.drop 0 (aggL v15))).bind fun v24 =>
 (spliceV (aggL (List.getD vs11 0 V.any)) 0 2 v24).bind fun v25 =>
 (ldk (some 2) (List.drop 0 (aggL v25))).bind fun v26 =>
 some (V.tup [v26, (vb true)])) (
 (bin2 Tryd.prog BinOp.add 3 (ot 11) (oc 1) (List.getD vs11 1 V.any) (vi 1)).bind fun v27 =>
 (keepO (some v2) (some v2) (some [(V.agg (aggL (List.getD vs11 0 V.any))), v27])).bind rec10))) (
 J6 [(V.agg (aggL (List.getD vs11 0 V.any)))])) n) := by kernel_rfl
noncomputable def t_topo_Other (a0 : T_Topo) (a1 : T_Spot) : Option (T_Spot × Bool) :=
 join (fun (s7 : T_Spot) =>
 some ((T_Spot.mk 0 0), false)) fun j8 =>
 loopI a0.Links (fun (i19 : Int) x20 (s15 : Unit) k16 =>
 if (decide (a1 = x20.A)) = true then (
 some (x20.B, true)) else (
 if (decide (a1 = x20.B)) = true then (
 some (x20.A, true)) else (
 k16 ()))) (fun (s15 : Unit) =>
 j8 (T_Spot.mk 0 0)) ()
theorem ty_topo_Other {n : Nat} (hn : bigN ≤ n) (a0 : T_Topo) (a1 : T_Spot) : Rv (fun x : (T_Spot × Bool) => V.tup [(T_Spot.e x.1), (vb x.2)]) (sem_topo_Other n [(T_Topo.e a0), (T_Spot.e a1)]) (t_topo_Other a0 a1) := by
  rw [eq_topo_Other]
  unfold t_topo_Other
  refine tb (x := (T_Topo.c a0)) rfl ?_
  refine tb (x := (T_Spot.c a1)) rfl ?_
  refine tb (x := (V.sl (List.map T_Link.c a0.Links))) (rfl) ?_
  refine tb (x := (vi (List.length a0.Links : Int))) (p_len _) ?_
  refine tjoin (mk := fun s7 : T_Spot => [(V.agg (T_Spot.c s7))]) (fun s7 => ?_) fun J6 j8 h9 => ?_
  · refine tb (x := (T_Spot.e (T_Spot.mk 0 0))) (by kernel_rfl) ?_
    refine tb (x := V.agg (T_Spot.c (T_Spot.mk 0 0))) (by kernel_rfl) ?_
    refine tb (x := (T_Spot.e (T_Spot.mk 0 0))) rfl ?_
    exact rf_ret rfl
  · refine tkeepO2 ?_ rfl
    refine tsome ?_
    refine rf_loopI (mk := fun (i19 : Int) (s15 : Unit) => [(V.agg (T_Spot.c (T_Spot.mk 0 0))), (vi (i19 : Int))]) hn a0.Links () (fun i19 x20 h21 h22 h23 s15 rec13 k16 h17 => ?_) (fun s15 rec43 h42 => ?_)
    · refine tb (x := (vb (decide ((i19 : Int) < (List.length a0.Links : Int))))) (d_lss) ?_
      refine tcond_t h23 ?_
      refine tb (x := (V.ptr (T_Link.c x20))) (p_idx_at (c := T_Link.c) (fun _ => rfl) h21) ?_
      refine tb (x := (T_Link.e x20)) (rfl) ?_
      refine tb (x := V.agg (T_Link.c x20)) (by kernel_rfl) ?_
      refine tb (x := (T_Spot.e a1)) (rfl) ?_
      refine tb (x := (T_Spot.e x20.A)) (rfl) ?_
      refine tb (x := (vb (decide (a1 = x20.A)))) (T_Spot.eql a1 x20.A) ?_
      refine tcond (fun h31 => ?_) (fun h31 => ?_)
      · refine tb (x := (T_Spot.e x20.B)) (rfl) ?_
        refine tb (x := V.agg (T_Spot.c x20.B)) (by kernel_rfl) ?_
        refine tb (x := (T_Spot.e x20.B)) rfl ?_
        exact rf_ret rfl
      · refine tb (x := (T_Spot.e x20.B)) (rfl) ?_
        refine tb (x := (vb (decide (a1 = x20.B)))) (T_Spot.eql a1 x20.B) ?_
        refine tcond (fun h37 => ?_) (fun h37 => ?_)
        · refine tb (x := (T_Spot.e x20.A)) (rfl) ?_
          refine tb (x := V.agg (T_Spot.c x20.A)) (by kernel_rfl) ?_
          refine tb (x := (T_Spot.e x20.A)) rfl ?_
          exact rf_ret rfl
        · refine tb (x := (vi ((i19 : Int) + 1))) (p_incN h22) ?_
          refine tkeepO2 ?_ rfl
          refine tsome ?_
          exact h17 ()
    · refine tb (x := (vb (decide ((List.length a0.Links : Int) < (List.length a0.Links : Int))))) (d_lss) ?_
      refine tcond_f h42 ?_
      exact h9 (T_Spot.mk 0 0)

/-! slices.Index   railpoint/api.Hop railpoint/api.Hop  -/
def an_slices_Index_api_Hop_api_Hop : Ann := .seq (.reg 0 [] [] []) (.seq (.seq (.reg 0 [] [] []) (.blk (some []) (.loop [.kb 3, .s 8] (.seq (.reg 0 [] [] []) (.seq (.cond none (.no) (.no)) (.seq (.blk none (.seq (.reg 0 [] [] []) (.seq (.reg 6 [] [] []) (.cond none (.seq (.reg 0 [] [] []) (.no)) (.no))))) (.reg 0 [] [] []))))))) (.seq (.reg 0 [] [] []) (.no)))
noncomputable def sem_slices_Index_api_Hop_api_Hop (n : Nat) (xs : List V) : Option V := if xs.length ≤ 19 then denF Tryd.prog (envOf []) n Tryd.f113 an_slices_Index_api_Hop_api_Hop xs else none
theorem ok_slices_Index_api_Hop_api_Hop (n : Nat) : SemOk Tryd.prog DW 113 (sem_slices_Index_api_Hop_api_Hop n) := fun xs y h => by
  unfold sem_slices_Index_api_Hop_api_Hop at h
  split at h
  · rename_i hl
    exact denF_ok stb Tryd.func113 (by kernel_rfl) (envOf_ok semsOk_nil) (by rw [Tryd.ntmps113]; exact hl) h
  · cases h
theorem eq_slices_Index_api_Hop_api_Hop (n : Nat) (x0 x1 : V) : sem_slices_Index_api_Hop_api_Hop n [x0, x1] =
 (V.cellsO x1).bind fun v1 =>
 (lenS [x0]).bind fun v2 =>
 JoinPt (fun vs3 =>
 some (vi (-1 : Int))) fun J4 =>
 (keepO (some v1) (some v1) (some [(vi 0)])).bind (fixN (fun rec5 vs6 =>
 (bin2 Tryd.prog BinOp.lss 3 (ot 8) (ot 7) (List.getD vs6 0 V.any) v2).bind fun v7 =>
 condV v7 (
 (ldk (some 3) (List.drop 0 v1)).bind fun v8 =>
 (idxS 3 x0 (List.getD vs6 0 V.any)).bind fun v9 =>
 (ldp (some 3) v9).bind fun v10 =>
 (bin2 Tryd.prog BinOp.eql 45 (ot 11) (ot 15) v8 v10).bind fun v11 =>
 condV v11 (
 some (List.getD vs6 0 V.any)) (
 (bin2 Tryd.prog BinOp.add 3 (ot 8) (oc 1) (List.getD vs6 0 V.any) (vi 1)).bind fun v12 =>
 (keepO (some v1) (some v1) (some [v12])).bind rec5)) (
 J4 [])) n) := by kernel_rfl
noncomputable def t_slices_Index_api_Hop_api_Hop (a0 : (List T_Hop)) (a1 : T_Hop) : Option Int :=
 join (fun (s5 : Unit) =>
 some (-1 : Int)) fun j6 =>
 loopI a0 (fun (i14 : Int) x15 (s10 : Unit) k11 =>
 if (decide (a1 = x15)) = true then (
 some i14) else (
 k11 ())) (fun (s10 : Unit) =>
 j6 ()) ()
theorem ty_slices_Index_api_Hop_api_Hop {n : Nat} (hn : bigN ≤ n) (a0 : (List T_Hop)) (a1 : T_Hop) : Rv (fun x : Int => (vi x)) (sem_slices_Index_api_Hop_api_Hop n [(V.sl (List.map T_Hop.c a0)), (T_Hop.e a1)]) (t_slices_Index_api_Hop_api_Hop a0 a1) := by
  rw [eq_slices_Index_api_Hop_api_Hop]
  unfold t_slices_Index_api_Hop_api_Hop
  refine tb (x := (T_Hop.c a1)) rfl ?_
  refine tb (x := (vi (List.length a0 : Int))) (p_len _) ?_
  refine tjoin (mk := fun s5 : Unit => []) (fun s5 => ?_) fun J4 j6 h7 => ?_
  · exact rf_ret rfl
  · refine tkeepO2 ?_ rfl
    refine tsome ?_
    refine rf_loopI (mk := fun (i14 : Int) (s10 : Unit) => [(vi (i14 : Int))]) hn a0 () (fun i14 x15 h16 h17 h18 s10 rec8 k11 h12 => ?_) (fun s10 rec27 h26 => ?_)
    · refine tb (x := (vb (decide ((i14 : Int) < (List.length a0 : Int))))) (d_lss) ?_
      refine tcond_t h18 ?_
      refine tb (x := (T_Hop.e a1)) (rfl) ?_
      refine tb (x := (V.ptr (T_Hop.c x15))) (p_idx_at (c := T_Hop.c) (fun _ => rfl) h16) ?_
      refine tb (x := (T_Hop.e x15)) (rfl) ?_
      refine tb (x := (vb (decide (a1 = x15)))) (T_Hop.eql a1 x15) ?_
      refine tcond (fun h24 => ?_) (fun h24 => ?_)
      · exact rf_ret rfl
      · refine tb (x := (vi ((i14 : Int) + 1))) (p_incN h17) ?_
        refine tkeepO2 ?_ rfl
        refine tsome ?_
        exact h12 ()
    · refine tb (x := (vb (decide ((List.length a0 : Int) < (List.length a0 : Int))))) (d_lss) ?_
      refine tcond_f h26 ?_
      exact h7 ()

/-! slices.Contains   railpoint/api.Hop railpoint/api.Hop  -/
def an_slices_Contains_api_Hop_api_Hop : Ann := .seq (.reg 0 [] [] []) (.seq (.reg 0 [] [] []) (.no))
noncomputable def sem_slices_Contains_api_Hop_api_Hop (n : Nat) (xs : List V) : Option V := if xs.length ≤ 9 then denF Tryd.prog (envOf [(113, (sem_slices_Index_api_Hop_api_Hop n))]) n Tryd.f103 an_slices_Contains_api_Hop_api_Hop xs else none
theorem ok_slices_Contains_api_Hop_api_Hop (n : Nat) : SemOk Tryd.prog DW 103 (sem_slices_Contains_api_Hop_api_Hop n) := fun xs y h => by
  unfold sem_slices_Contains_api_Hop_api_Hop at h
  split at h
  · rename_i hl
    exact denF_ok stb Tryd.func103 (by kernel_rfl) (envOf_ok (semsOk_cons (ok_slices_Index_api_Hop_api_Hop n) semsOk_nil)) (by rw [Tryd.ntmps103]; exact hl) h
  · cases h
theorem eq_slices_Contains_api_Hop_api_Hop (n : Nat) (x0 x1 : V) : sem_slices_Contains_api_Hop_api_Hop n [x0, x1] =
 (V.cellsO x1).bind fun v1 =>
 (ldk (some 3) (List.drop 0 v1)).bind fun v2 =>
 ((sem_slices_Index_api_Hop_api_Hop n) [x0, v2]).bind fun v3 =>
 (bin2 Tryd.prog BinOp.geq 3 (ot 7) (oc 0) v3 (vi 0)).bind fun v4 =>
 some v4 := by kernel_rfl
noncomputable def t_slices_Contains_api_Hop_api_Hop (a0 : (List T_Hop)) (a1 : T_Hop) : Option Bool :=
 (t_slices_Index_api_Hop_api_Hop a0 a1).bind fun r4 =>
 some (decide (0 ≤ r4))
theorem ty_slices_Contains_api_Hop_api_Hop {n : Nat} (hn : bigN ≤ n) (a0 : (List T_Hop)) (a1 : T_Hop) : Rv (fun x : Bool => (vb x)) (sem_slices_Contains_api_Hop_api_Hop n [(V.sl (List.map T_Hop.c a0)), (T_Hop.e a1)]) (t_slices_Contains_api_Hop_api_Hop a0 a1) := by
  rw [eq_slices_Contains_api_Hop_api_Hop]
  unfold t_slices_Contains_api_Hop_api_Hop
  refine tb (x := (T_Hop.c a1)) rfl ?_
  refine tb (x := (T_Hop.e a1)) (rfl) ?_
  refine tbo (ty_slices_Index_api_Hop_api_Hop hn a0 a1) fun r4 => ?_
  refine tb (x := (vb (decide (0 ≤ r4)))) (d_geq) ?_
  exact rf_ret rfl

/-! railpoint/net.Go -/
def an_net_Go : Ann := .seq (.reg 0 [] [] []) (.seq (.reg 13 [] [] []) (.seq (.reg 0 [] [] []) (.seq (.seq (.reg 0 [] [] []) (.cond none (.seq (.reg 0 [] [] []) (.seq (.reg 0 [] [] []) (.no))) (.no))) (.seq (.seq (.reg 0 [] [] []) (.seq (.reg 0 [] [] []) (.cond none (.seq (.reg 0 [] [] []) (.seq (.reg 0 [] [] []) (.no))) (.no)))) (.seq (.reg 0 [] [] []) (.seq (.seq (.reg 0 [] [] []) (.cond none (.seq (.reg 0 [] [] []) (.seq (.reg 0 [] [] []) (.no))) (.no))) (.seq (.reg 0 [] [] []) (.seq (.seq (.reg 14 [] [] []) (.cond none (.seq (.reg 0 [] [] []) (.seq (.reg 0 [] [] []) (.no))) (.no))) (.seq (.reg 8 [] [] [1000092]) (.seq (.reg 0 [] [] []) (.no)))))))))))
noncomputable def sem_net_Go (n : Nat) (xs : List V) : Option V := if xs.length ≤ 98 then denM Tryd.prog (envOf [(100, (sem_net_Out n)), (101, (sem_topo_Host n)), (102, (sem_topo_Other n)), (103, (sem_slices_Contains_api_Hop_api_Hop n)), (104 + 1000000 * (45 + 2), (semClone 3))]) n Tryd.f81 an_net_Go [0, 0, 2] none xs else none
theorem ok_net_Go (n : Nat) : MSemOk Tryd.prog DW 81 (sem_net_Go n) := fun xs y h => by
  unfold sem_net_Go at h
  split at h
  · rename_i hl
    exact denM_ok Tryd.func81 (by kernel_rfl) (envOf_ok (semsOk_cons (ok_net_Out n) (semsOk_cons (ok_topo_Host n) (semsOk_cons (ok_topo_Other n) (semsOk_cons (ok_slices_Contains_api_Hop_api_Hop n) (semsOk_consR (rok_slices_Clone_api_Hop_api_Hop) semsOk_nil)))))) (by rw [Tryd.ntmps81]; exact hl) (by decide) h
  · cases h
theorem eq_net_Go (n : Nat) (x0 x1 x2 : V) : sem_net_Go n [x0, x1, x2] =
 (pureO x0).bind fun v1 =>
 (pureO x1).bind fun v2 =>
 (objG x2).bind fun v3 =>
 (V.cellsO x0).bind fun v4 =>
 (some V.any).bind fun v5 =>
 (some V.any).bind fun v6 =>
 ((nodeL x2 none 0).bind fun l7 => (ldk none (List.drop 2 l7)).bind pureO).bind fun v8 =>
 (some V.any).bind fun v9 =>
 (some V.any).bind fun v10 =>
 ((nodeL x2 none 0).bind fun l11 => (ldk none (List.drop 2 l11)).bind pureO).bind fun v12 =>
 (lenS [v12]).bind fun v13 =>
 (bin2 Tryd.prog BinOp.sub 3 (ot 23) (oc 1) v13 (vi 1)).bind fun v14 =>
 (idxS 3 v8 v14).bind fun v15 =>
 (ldp (some 3) v15).bind fun v16 =>
 (spliceV [(vi 0), (vi 0), (vi 0)] 0 3 v16).bind fun v17 =>
 (ldk (some 2) (List.drop 0 (aggL v17))).bind fun v18 =>
 (ldk none (List.drop 2 (aggL v17))).bind fun v19 =>
 ((sem_net_Out n) [x1, v18, v19]).bind fun v20 =>
 (extractV v20 0).bind fun v21 =>
 (extractV v20 1).bind fun v22 =>
 (extractV v20 2).bind fun v23 =>
 (spliceV [(vi 0), (vi 0)] 0 2 v21).bind fun v24 =>
 (scal1 Tryd.prog (Op.unary Go.UnOp.not) v23).bind fun v25 =>
 condV v25 (
 (some V.any).bind fun v26 =>
 (some V.any).bind fun v27 =>
 (V.cellsO (vi 2)).bind fun v28 =>
 (setV x2 [] (Stp.mk none 0 0) 1 v28).bind fun v29 =>
 some (V.tup [(vb false), V.any, V.any, v29])) (
 (ldk (some 3) (List.drop 0 v4)).bind fun v30 =>
 (ldk (some 2) (List.drop 0 (aggL v24))).bind fun v31 =>
 ((sem_topo_Host n) [v30, v31]).bind fun v32 =>
 (extractV v32 0).bind fun v33 =>
 (extractV v32 1).bind fun v34 =>
 condV v34 (
 (some V.any).bind fun v35 =>
 (some V.any).bind fun v36 =>
 (V.cellsO (vi 1)).bind fun v37 =>
 (setV x2 [] (Stp.mk none 0 0) 1 v37).bind fun v38 =>
 (some V.any).bind fun v39 =>
 (some V.any).bind fun v40 =>
 (V.cellsO v33).bind fun v41 =>
 (setV v38 [] (Stp.mk none 1 0) 1 v41).bind fun v42 =>
 some (V.tup [(vb false), V.any, V.any, v42])) (
 (ldk (some 3) (List.drop 0 v4)).bind fun v43 =>
 (ldk (some 2) (List.drop 0 (aggL v24))).bind fun v44 =>
 ((sem_topo_Other n) [v43, v44]).bind fun v45 =>
 (extractV v45 0).bind fun v46 =>
 (extractV v45 1).bind fun v47 =>
 (spliceV [(vi 0), (vi 0)] 0 2 v46).bind fun v48 =>
 (scal1 Tryd.prog (Op.unary Go.UnOp.not) v47).bind fun v49 =>
 condV v49 (
 (some V.any).bind fun v50 =>
 (some V.any).bind fun v51 =>
 (V.cellsO (vi 3)).bind fun v52 =>
 (setV x2 [] (Stp.mk none 0 0) 1 v52).bind fun v53 =>
 some (V.tup [(vb false), V.any, V.any, v53])) (
 (ldk (some 2) (List.drop 0 (aggL v48))).bind fun v54 =>
 ((fillL [(vi 0), (vi 0), (vi 0)] [(0, 2, v54), (2, 1, v22)]).map V.agg).bind fun v55 =>
 (spliceV [(vi 0), (vi 0), (vi 0)] 0 3 v55).bind fun v56 =>
 (some V.any).bind fun v57 =>
 (some V.any).bind fun v58 =>
 ((nodeL x2 none 0).bind fun l59 => (ldk none (List.drop 2 l59)).bind pureO).bind fun v60 =>
 (ldk (some 3) (List.drop 0 (aggL v56))).bind fun v61 =>
 ((sem_slices_Contains_api_Hop_api_Hop n) [v60, v61]).bind fun v62 =>
 (guardV v62 false (some V.any)).bind fun v63 =>
 (guardV v62 false (gate v62 false (some V.any))).bind fun v64 =>
 (guardV v62 false (gate v62 false (gate v62 false (some V.any)))).bind fun v65 =>
 (guardV v62 false ((gate v62 false (gate v62 false (gate v62 false ((nodeL x2 none 0).bind fun l66 => (ldk none (List.drop 2 l66)).bind pureO)))).bind fun v67 =>
 some v67)).bind fun v68 =>
 (guardV v62 false ((lenS [v68]).bind fun v69 =>
 some v69)).bind fun v70 =>
 (guardV v62 false ((bin2 Tryd.prog BinOp.geq 3 (ot 81) (oc 24) v70 (vi 24)).bind fun v71 =>
 some v71)).bind fun v72 =>
 (pickV v62 (vb true) v72).bind fun v73 =>
 condV v73 (
 (some V.any).bind fun v74 =>
 (some V.any).bind fun v75 =>
 (V.cellsO (vi 4)).bind fun v76 =>
 (setV x2 [] (Stp.mk none 0 0) 1 v76).bind fun v77 =>
 some (V.tup [(vb false), V.any, V.any, v77])) (
 (some V.any).bind fun v78 =>
 (some V.any).bind fun v79 =>
 ((nodeL x2 none 0).bind fun l80 => (ldk none (List.drop 2 l80)).bind pureO).bind fun v81 =>
 ((semClone 3) [v81]).bind fun v82 =>
 (ldk (some 3) (List.drop 0 (aggL v56))).bind fun v83 =>
 (slcB 3 1 [(vi 0), (vi 0), (vi 0)] [(0, v83)]).bind fun v84 =>
 (appV 3 (slL3 v82) v84).bind fun v85 =>
 (some V.any).bind fun v86 =>
 (some V.any).bind fun v87 =>
 (V.cellsO (V.sl (slL v85))).bind fun v88 =>
 (setV x2 [] (Stp.mk none 2 0) 1 v88).bind fun v89 =>
 some (V.tup [(vb true), V.any, V.any, v89]))))) := by kernel_rfl
noncomputable def t_net_Go (a0 : T_Topo) (a1 : (List T_Rule)) (a2 : T_Fate) : Option (Bool × T_Fate) :=
 (idx a2.Hops (wr ((List.length a2.Hops : Int) - 1))).bind fun r14 =>
 (t_net_Out a1 r14.At r14.Header).bind fun r20 =>
 if (!r20.2.2) = true then (
 some (false, (T_Fate.mk 2 a2.Host a2.Hops))) else (
 (t_topo_Host a0 r20.1).bind fun r34 =>
 if r34.2 = true then (
 some (false, (T_Fate.mk 1 r34.1 a2.Hops))) else (
 (t_topo_Other a0 r20.1).bind fun r49 =>
 if (!r49.2) = true then (
 some (false, (T_Fate.mk 3 a2.Host a2.Hops))) else (
 (t_slices_Contains_api_Hop_api_Hop a2.Hops (T_Hop.mk r49.1 r20.2.1)).bind fun r67 =>
 if (r67 || (decide (24 ≤ (List.length a2.Hops : Int)))) = true then (
 some (false, (T_Fate.mk 4 a2.Host a2.Hops))) else (
 (cln a2.Hops).bind fun r93 =>
 (app r93 ([(T_Hop.mk r49.1 r20.2.1)] : (List T_Hop))).bind fun r97 =>
 some (true, (T_Fate.mk a2.How a2.Host r97))))))
theorem ty_net_Go {n : Nat} (hn : bigN ≤ n) (a0 : T_Topo) (a1 : (List T_Rule)) (a2 : T_Fate) : Rv (fun x : (Bool × T_Fate) => (V.tup [(vb x.1), V.any, V.any, (V.obj (T_Fate.c x.2))])) (sem_net_Go n [(T_Topo.e a0), (V.sl (List.map T_Rule.c a1)), (V.obj (T_Fate.c a2))]) (t_net_Go a0 a1 a2) := by
  rw [eq_net_Go]
  unfold t_net_Go
  refine tb (x := (T_Topo.e a0)) rfl ?_
  refine tb (x := (V.sl (List.map T_Rule.c a1))) rfl ?_
  refine tb (x := V.any) rfl ?_
  refine tb (x := (T_Topo.c a0)) rfl ?_
  refine tb (x := V.any) rfl ?_
  refine tb (x := V.any) rfl ?_
  refine tb (x := (V.sl (List.map T_Hop.c a2.Hops))) (rfl) ?_
  refine tb (x := V.any) rfl ?_
  refine tb (x := V.any) rfl ?_
  refine tb (x := (V.sl (List.map T_Hop.c a2.Hops))) (rfl) ?_
  refine tb (x := (vi (List.length a2.Hops : Int))) (p_len _) ?_
  refine tb (x := (vi (wr ((List.length a2.Hops : Int) - 1)))) (d_sub) ?_
  refine tbo (p_idx (c := T_Hop.c) (fun _ => rfl) a2.Hops (wr ((List.length a2.Hops : Int) - 1))) fun r14 => ?_
  refine tb (x := (T_Hop.e r14)) (rfl) ?_
  refine tb (x := V.agg (T_Hop.c r14)) (by kernel_rfl) ?_
  refine tb (x := (T_Spot.e r14.At)) (rfl) ?_
  refine tb (x := (vi r14.Header)) (rfl) ?_
  refine tbo (ty_net_Out hn a1 r14.At r14.Header) fun r20 => ?_
  refine tb (x := (T_Spot.e r20.1)) (rfl) ?_
  refine tb (x := (vi r20.2.1)) (rfl) ?_
  refine tb (x := (vb r20.2.2)) (rfl) ?_
  refine tb (x := V.agg (T_Spot.c r20.1)) (by kernel_rfl) ?_
  refine tb (x := (vb (!r20.2.2))) (d_not) ?_
  refine tcond (fun h26 => ?_) (fun h26 => ?_)
  · refine tb (x := V.any) rfl ?_
    refine tb (x := V.any) rfl ?_
    refine tb (x := [(vi 2)]) rfl ?_
    refine tb (x := V.obj (T_Fate.c (T_Fate.mk 2 a2.Host a2.Hops))) (by kernel_rfl) ?_
    exact rf_ret rfl
  · refine tb (x := (T_Topo.e a0)) (rfl) ?_
    refine tb (x := (T_Spot.e r20.1)) (rfl) ?_
    refine tbo (ty_topo_Host hn a0 r20.1) fun r34 => ?_
    refine tb (x := (vt r34.1)) (rfl) ?_
    refine tb (x := (vb r34.2)) (rfl) ?_
    refine tcond (fun h37 => ?_) (fun h37 => ?_)
    · refine tb (x := V.any) rfl ?_
      refine tb (x := V.any) rfl ?_
      refine tb (x := [(vi 1)]) rfl ?_
      refine tb (x := V.obj (T_Fate.c (T_Fate.mk 1 a2.Host a2.Hops))) (by kernel_rfl) ?_
      refine tb (x := V.any) rfl ?_
      refine tb (x := V.any) rfl ?_
      refine tb (x := [(vt r34.1)]) rfl ?_
      refine tb (x := V.obj (T_Fate.c (T_Fate.mk 1 r34.1 a2.Hops))) (by kernel_rfl) ?_
      exact rf_ret rfl
    · refine tb (x := (T_Topo.e a0)) (rfl) ?_
      refine tb (x := (T_Spot.e r20.1)) (rfl) ?_
      refine tbo (ty_topo_Other hn a0 r20.1) fun r49 => ?_
      refine tb (x := (T_Spot.e r49.1)) (rfl) ?_
      refine tb (x := (vb r49.2)) (rfl) ?_
      refine tb (x := V.agg (T_Spot.c r49.1)) (by kernel_rfl) ?_
      refine tb (x := (vb (!r49.2))) (d_not) ?_
      refine tcond (fun h54 => ?_) (fun h54 => ?_)
      · refine tb (x := V.any) rfl ?_
        refine tb (x := V.any) rfl ?_
        refine tb (x := [(vi 3)]) rfl ?_
        refine tb (x := V.obj (T_Fate.c (T_Fate.mk 3 a2.Host a2.Hops))) (by kernel_rfl) ?_
        exact rf_ret rfl
      · refine tb (x := (T_Spot.e r49.1)) (rfl) ?_
        refine tb (x := (T_Hop.e (T_Hop.mk r49.1 r20.2.1))) (by kernel_rfl) ?_
        refine tb (x := V.agg (T_Hop.c (T_Hop.mk r49.1 r20.2.1))) (by kernel_rfl) ?_
        refine tb (x := V.any) rfl ?_
        refine tb (x := V.any) rfl ?_
        refine tb (x := (V.sl (List.map T_Hop.c a2.Hops))) (rfl) ?_
        refine tb (x := (T_Hop.e (T_Hop.mk r49.1 r20.2.1))) (rfl) ?_
        refine tbo (ty_slices_Contains_api_Hop_api_Hop hn a2.Hops (T_Hop.mk r49.1 r20.2.1)) fun r67 => ?_
        refine tg_f (x := V.any) (fun h68 => rfl) ?_
        refine tg_f (x := V.any) (fun h70 => by first | exact gate_pos (not_t h70) (rfl) | (simp only [gv_t h70]; exact gate_pos (not_t h70) (rfl))) ?_
        refine tg_f (x := V.any) (fun h72 => by first | exact gate_pos (not_t h72) (gate_pos (not_t h72) (rfl)) | (simp only [gv_t h72]; exact gate_pos (not_t h72) (gate_pos (not_t h72) (rfl)))) ?_
        refine tg_f (x := (V.sl (List.map T_Hop.c a2.Hops))) (fun h74 => by first | exact bind_some_eq (gate_pos (not_t h74) (gate_pos (not_t h74) (gate_pos (not_t h74) (rfl)))) | (simp only [gv_t h74]; exact bind_some_eq (gate_pos (not_t h74) (gate_pos (not_t h74) (gate_pos (not_t h74) (rfl)))))) ?_
        refine tg_f (x := (vi (List.length a2.Hops : Int))) (fun h77 => by simp only [gv_t h77]; exact bind_some_eq (p_len _)) ?_
        refine tg_f (x := (vb (decide (24 ≤ (List.length a2.Hops : Int))))) (fun h80 => by simp only [gv_t h80]; exact bind_some_eq (d_geq)) ?_
        refine tb (x := (vb (r67 || (decide (24 ≤ (List.length a2.Hops : Int)))))) (pick_or (fun h9 => gv_t (not_f h9))) ?_
        refine tcond (fun h84 => ?_) (fun h84 => ?_)
        · refine tb (x := V.any) rfl ?_
          refine tb (x := V.any) rfl ?_
          refine tb (x := [(vi 4)]) rfl ?_
          refine tb (x := V.obj (T_Fate.c (T_Fate.mk 4 a2.Host a2.Hops))) (by kernel_rfl) ?_
          exact rf_ret rfl
        · refine tb (x := V.any) rfl ?_
          refine tb (x := V.any) rfl ?_
          refine tb (x := (V.sl (List.map T_Hop.c a2.Hops))) (rfl) ?_
          refine tbo (p_clone (c := T_Hop.c) (fun _ => rfl) a2.Hops) fun r93 => ?_
          refine tb (x := (T_Hop.e (T_Hop.mk r49.1 r20.2.1))) (rfl) ?_
          refine tb (x := (V.sl (List.map T_Hop.c ([(T_Hop.mk r49.1 r20.2.1)] : (List T_Hop))))) (by kernel_rfl) ?_
          refine tbo (p_app (c := T_Hop.c) (fun _ => rfl) r93 ([(T_Hop.mk r49.1 r20.2.1)] : (List T_Hop))) fun r97 => ?_
          refine tb (x := V.any) rfl ?_
          refine tb (x := V.any) rfl ?_
          refine tb (x := [(V.sl (List.map T_Hop.c r97))]) rfl ?_
          refine tb (x := V.obj (T_Fate.c (T_Fate.mk a2.How a2.Host r97))) (by kernel_rfl) ?_
          exact rf_ret rfl

/-! railpoint/net.Of -/
def an_net_Of : Ann := .seq (.reg 0 [] [] []) (.seq (.reg 0 [] [] [7]) (.seq (.blk (some [.kb 6, .o 7]) (.loop [.kb 3, .kb 6, .o 7] (.seq (.seq (.reg 17 [] [] []) (.cond none (.no) (.no))) (.blk none (.no))))) (.seq (.reg 0 [] [] []) (.no))))
noncomputable def sem_net_Of (n : Nat) (xs : List V) : Option V := if xs.length ≤ 30 then denF Tryd.prog (envOf [(80, (sem_net_Begin n)), (81 + 1000000, (sem_net_Go n))]) n Tryd.f57 an_net_Of xs else none
theorem ok_net_Of (n : Nat) : SemOk Tryd.prog DW 57 (sem_net_Of n) := fun xs y h => by
  unfold sem_net_Of at h
  split at h
  · rename_i hl
    exact denF_ok stb Tryd.func57 (by kernel_rfl) (envOf_ok (semsOk_cons (ok_net_Begin n) (semsOk_consM (ok_net_Go n) semsOk_nil))) (by rw [Tryd.ntmps57]; exact hl) h
  · cases h
theorem eq_net_Of (n : Nat) (x0 x1 x2 : V) : sem_net_Of n [x0, x1, x2] =
 (V.cellsO x0).bind fun v1 =>
 (V.cellsO x1).bind fun v2 =>
 (ldk (some 2) (List.drop 0 v2)).bind fun v3 =>
 ((sem_net_Begin n) [v3, x2]).bind fun v4 =>
 (V.cellsO v4).bind fun v5 =>
 (setV (V.obj [(vi 0), (V.lit (Go.Value.string (ByteArray.mk #[]))), (V.sl [])]) [] (Stp.mk none 0 0) 3 v5).bind fun v6 =>
 JoinPt (fun vs7 =>
 ((nodeL (List.getD vs7 0 V.any) none 0).bind fun l9 => (ldk (some 3) (List.drop 0 l9)).bind pureO).bind fun v10 =>
 (spliceV [(vi 0), (V.lit (Go.Value.string (ByteArray.mk #[]))), (V.sl [])] 0 3 v10).bind fun v11 =>
 (ldk (some 3) (List.drop 0 (aggL v11))).bind fun v12 =>
 some v12) fun J8 =>
 (keepO (some v1) (some v1) (keepO (some [(vi 0), (V.lit (Go.Value.string (ByteArray.mk #[]))), (V.sl [])]) (some [(vi 0), (V.lit (Go.Value.string (ByteArray.mk #[]))), (V.sl [])]) (some [v6]))).bind (fixN (fun rec13 vs14 =>
 (ldk (some 3) (List.drop 0 v1)).bind fun v15 =>
 (ldk none (List.drop 3 v1)).bind fun v16 =>
 (some V.any).bind fun v17 =>
 ((nodeL (List.getD vs14 0 V.any) none 0).bind fun l18 => (ldk none (List.drop 2 l18)).bind pureO).bind fun v19 =>
 (some V.any).bind fun v20 =>
 ((nodeL (List.getD vs14 0 V.any) none 0).bind fun l21 => (ldk none (List.drop 2 l21)).bind pureO).bind fun v22 =>
 (lenS [v22]).bind fun v23 =>
 (bin2 Tryd.prog BinOp.sub 3 (ot 19) (oc 1) v23 (vi 1)).bind fun v24 =>
 (idxS 3 v19 v24).bind fun v25 =>
 (ptrF 0 v25).bind fun v26 =>
 (ptrF 0 v26).bind fun v27 =>
 (ldp none v27).bind fun v28 =>
 (bin2 Tryd.prog BinOp.sub 3 (ot 24) (oc 1) v28 (vi 1)).bind fun v29 =>
 (idxS 1 v16 v29).bind fun v30 =>
 (ldp none v30).bind fun v31 =>
 (objG (List.getD vs14 0 V.any)).bind fun v32 =>
 ((sem_net_Go n) [v15, v31, (List.getD vs14 0 V.any)]).bind fun z33 =>
 (pureO (tupAt z33 0)).bind fun v34 =>
 condV v34 (
 (keepO (some v1) (some v1) (keepO (some [(vi 0), (V.lit (Go.Value.string (ByteArray.mk #[]))), (V.sl [])]) (some [(vi 0), (V.lit (Go.Value.string (ByteArray.mk #[]))), (V.sl [])]) (some [(tupAt z33 3)]))).bind rec13) (
 (keepO (some [(vi 0), (V.lit (Go.Value.string (ByteArray.mk #[]))), (V.sl [])]) (some [(vi 0), (V.lit (Go.Value.string (ByteArray.mk #[]))), (V.sl [])]) (some [(tupAt z33 3)])).bind J8)) n) := by kernel_rfl
noncomputable def t_net_Of (a0 : T_Net) (a1 : T_Spot) (a2 : Int) : Option T_Fate :=
 (t_net_Begin a1 a2).bind fun r5 =>
 (tfix (fun k19 (s18 : T_Fate) =>
 (idx s18.Hops (wr ((List.length s18.Hops : Int) - 1))).bind fun r32 =>
 (idx a0.Tables (wr (r32.At.Switch - 1))).bind fun r38 =>
 (t_net_Go a0.Topo r38 s18).bind fun r42 =>
 if r42.1 = true then (
 k19 (r42.2)) else (
 some (r42.2))) bigN (r5)).bind fun (s10 : T_Fate) =>
 some s10
theorem ty_net_Of {n : Nat} (hn : bigN ≤ n) (a0 : T_Net) (a1 : T_Spot) (a2 : Int) : Rv (fun x : T_Fate => (T_Fate.e x)) (sem_net_Of n [(T_Net.e a0), (T_Spot.e a1), (vi a2)]) (t_net_Of a0 a1 a2) := by
  rw [eq_net_Of]
  unfold t_net_Of
  refine tb (x := (T_Net.c a0)) rfl ?_
  refine tb (x := (T_Spot.c a1)) rfl ?_
  refine tb (x := (T_Spot.e a1)) (rfl) ?_
  refine tbo (ty_net_Begin hn a1 a2) fun r5 => ?_
  refine tb (x := (T_Fate.c r5)) rfl ?_
  refine tb (x := V.obj (T_Fate.c r5)) (by kernel_rfl) ?_
  refine tjb (mk := fun s10 : T_Fate => [(V.obj (T_Fate.c s10))]) (fun J9 => ?_) fun s10 => ?_
  · refine tkeepO2 ?_ rfl
    refine tkeepO2 ?_ rfl
    refine tsome ?_
    refine rf_fixN (mk := fun (s18 : T_Fate) => [(V.obj (T_Fate.c s18))]) hn (r5) (fun rec16 k19 h20 s18 => ?_)
    refine tb (x := (T_Topo.e a0.Topo)) (rfl) ?_
    refine tb (x := (V.sl (List.map (cS T_Rule.c) a0.Tables))) (rfl) ?_
    refine tb (x := V.any) rfl ?_
    refine tb (x := (V.sl (List.map T_Hop.c s18.Hops))) (rfl) ?_
    refine tb (x := V.any) rfl ?_
    refine tb (x := (V.sl (List.map T_Hop.c s18.Hops))) (rfl) ?_
    refine tb (x := (vi (List.length s18.Hops : Int))) (p_len _) ?_
    refine tb (x := (vi (wr ((List.length s18.Hops : Int) - 1)))) (d_sub) ?_
    refine tbo (p_idx (c := T_Hop.c) (fun _ => rfl) s18.Hops (wr ((List.length s18.Hops : Int) - 1))) fun r32 => ?_
    refine tb (x := (V.ptr (T_Hop.c r32))) (rfl) ?_
    refine tb (x := (V.ptr (T_Hop.c r32))) (rfl) ?_
    refine tb (x := (vi r32.At.Switch)) (rfl) ?_
    refine tb (x := (vi (wr (r32.At.Switch - 1)))) (d_sub) ?_
    refine tbo (p_idx (c := (cS T_Rule.c)) (fun _ => rfl) a0.Tables (wr (r32.At.Switch - 1))) fun r38 => ?_
    refine tb (x := (V.sl (List.map T_Rule.c r38))) (rfl) ?_
    refine tb (x := V.any) rfl ?_
    refine tbo (ty_net_Go hn a0.Topo r38 s18) fun r42 => ?_
    refine tb (x := (vb r42.1)) rfl ?_
    refine tcond (fun h44 => ?_) (fun h44 => ?_)
    · refine tkeepO2 ?_ rfl
      refine tkeepO2 ?_ rfl
      refine tsome ?_
      exact h20 (r42.2)
    · refine tkeepO2 ?_ rfl
      refine tsome ?_
      exact rf_j rfl
  · refine tb (x := (T_Fate.e s10)) (rfl) ?_
    refine tb (x := V.agg (T_Fate.c s10)) (by kernel_rfl) ?_
    refine tb (x := (T_Fate.e s10)) rfl ?_
    exact rf_ret rfl

/-! railpoint/load.fates -/
def an_load_fates : Ann := .seq (.reg 0 [] [] []) (.seq (.seq (.reg 0 [] [] []) (.blk (some [.s 2]) (.loop [.kb 1, .r 2 40, .s 10] (.seq (.reg 0 [] [] []) (.seq (.cond none (.no) (.no)) (.seq (.blk (some [.kb 1, .r 2 40]) (.seq (.reg 0 [] [] []) (.seq (.reg 0 [] [] []) (.blk (some [.kb 1, .r 2 40]) (.loop [.kb 1, .kb 4, .r 2 40, .s 14] (.seq (.reg 0 [] [] []) (.seq (.cond none (.no) (.no)) (.seq (.blk none (.seq (.reg 0 [] [] []) (.reg 0 [] [] []))) (.reg 0 [] [] []))))))))) (.reg 0 [] [] []))))))) (.seq (.reg 0 [] [] []) (.no)))
noncomputable def sem_load_fates (n : Nat) (xs : List V) : Option V := if xs.length ≤ 28 then denF Tryd.prog (envOf [(57, (sem_net_Of n))]) n Tryd.f30 an_load_fates xs else none
theorem ok_load_fates (n : Nat) : SemOk Tryd.prog DW 30 (sem_load_fates n) := fun xs y h => by
  unfold sem_load_fates at h
  split at h
  · rename_i hl
    exact denF_ok stb Tryd.func30 (by kernel_rfl) (envOf_ok (semsOk_cons (ok_net_Of n) semsOk_nil)) (by rw [Tryd.ntmps30]; exact hl) h
  · cases h
theorem eq_load_fates (n : Nat) (x0 : V) : sem_load_fates n [x0] =
 (V.cellsO x0).bind fun v1 =>
 (ldk none (List.drop 2 v1)).bind fun v2 =>
 (lenS [v2]).bind fun v3 =>
 JoinPt (fun vs4 =>
 some (List.getD vs4 0 V.any)) fun J5 =>
 (keepO (some v1) (some v1) (some [(V.sl []), (vi 0)])).bind (fixN (fun rec6 vs7 =>
 (bin2 Tryd.prog BinOp.lss 3 (ot 10) (ot 9) (List.getD vs7 1 V.any) v3).bind fun v8 =>
 condV v8 (
 JoinPt (fun vs9 =>
 (bin2 Tryd.prog BinOp.add 3 (ot 10) (oc 1) (List.getD vs7 1 V.any) (vi 1)).bind fun v11 =>
 (keepO (some v1) (some v1) (some [(V.sl (slL (List.getD vs9 0 V.any))), v11])).bind rec6) fun J10 =>
 (idxS 3 v2 (List.getD vs7 1 V.any)).bind fun v12 =>
 (ldp (some 3) v12).bind fun v13 =>
 (spliceV [(V.lit (Go.Value.string (ByteArray.mk #[]))), (vi 0), (vi 0)] 0 3 v13).bind fun v14 =>
 JoinPt (fun vs15 =>
 (keepO (some v1) (some v1) (some [(V.sl (slL (List.getD vs15 0 V.any)))])).bind J10) fun J16 =>
 (keepO (some v1) (some v1) (keepO (some (aggL v14)) (some (aggL v14)) (some [(V.sl (slL (List.getD vs7 0 V.any))), (vi 0)]))).bind (fixN (fun rec17 vs18 =>
 (bin2 Tryd.prog BinOp.lss 3 (ot 14) (oc 16) (List.getD vs18 1 V.any) (vi 16)).bind fun v19 =>
 condV v19 (
 (ldk (some 4) (List.drop 0 v1)).bind fun v20 =>
 (ldk (some 2) (List.drop 1 (aggL v14))).bind fun v21 =>
 ((sem_net_Of n) [v20, v21, (List.getD vs18 1 V.any)]).bind fun v22 =>
 (slcB 3 1 [(vi 0), (V.lit (Go.Value.string (ByteArray.mk #[]))), (V.sl [])] [(0, v22)]).bind fun v23 =>
 (appV 3 (slL (List.getD vs18 0 V.any)) v23).bind fun v24 =>
 (bin2 Tryd.prog BinOp.add 3 (ot 14) (oc 1) (List.getD vs18 1 V.any) (vi 1)).bind fun v25 =>
 (keepO (some v1) (some v1) (keepO (some (aggL v14)) (some (aggL v14)) (some [(V.sl (slL v24)), v25]))).bind rec17) (
 (keepO (some v1) (some v1) (some [(V.sl (slL (List.getD vs18 0 V.any)))])).bind J16)) n)) (
 J5 [(V.sl (slL (List.getD vs7 0 V.any)))])) n) := by kernel_rfl
noncomputable def t_load_fates (a0 : T_Net) : Option (List T_Fate) :=
 (loopI a0.Topo.Hosts (fun (i15 : Int) x16 (s11 : (List T_Fate)) k12 =>
 ((loopU 0 16 (fun (i41 : Int) (s37 : (List T_Fate)) k38 =>
 (t_net_Of a0 x16.At i41).bind fun r51 =>
 (app s37 ([r51] : (List T_Fate))).bind fun r54 =>
 k38 (r54)) (fun (i41 : Int) (s37 : (List T_Fate)) =>
 some (s37)) (s11)).bind fun (s32 : (List T_Fate)) =>
 some (s32)).bind fun (s23 : (List T_Fate)) =>
 k12 (s23)) (fun (s11 : (List T_Fate)) =>
 some (s11)) ([])).bind fun (s6 : (List T_Fate)) =>
 some s6
theorem ty_load_fates {n : Nat} (hn : bigN ≤ n) (a0 : T_Net) : Rv (fun x : (List T_Fate) => (V.sl (List.map T_Fate.c x))) (sem_load_fates n [(T_Net.e a0)]) (t_load_fates a0) := by
  rw [eq_load_fates]
  unfold t_load_fates
  refine tb (x := (T_Net.c a0)) rfl ?_
  refine tb (x := (V.sl (List.map T_Host.c a0.Topo.Hosts))) (rfl) ?_
  refine tb (x := (vi (List.length a0.Topo.Hosts : Int))) (p_len _) ?_
  refine tjb (mk := fun s6 : (List T_Fate) => [(V.sl (List.map T_Fate.c s6))]) (fun J5 => ?_) fun s6 => ?_
  · refine tkeepO2 ?_ rfl
    refine tsome ?_
    refine rf_loopI (mk := fun (i15 : Int) (s11 : (List T_Fate)) => [(V.sl (List.map T_Fate.c s11)), (vi (i15 : Int))]) hn a0.Topo.Hosts ([]) (fun i15 x16 h17 h18 h19 s11 rec9 k12 h13 => ?_) (fun s11 rec58 h57 => ?_)
    · refine tb (x := (vb (decide ((i15 : Int) < (List.length a0.Topo.Hosts : Int))))) (d_lss) ?_
      refine tcond_t h19 ?_
      refine tjb (mk := fun s23 : (List T_Fate) => [(V.sl (List.map T_Fate.c s23))]) (fun J22 => ?_) fun s23 => ?_
      · refine tb (x := (V.ptr (T_Host.c x16))) (p_idx_at (c := T_Host.c) (fun _ => rfl) h17) ?_
        refine tb (x := (T_Host.e x16)) (rfl) ?_
        refine tb (x := V.agg (T_Host.c x16)) (by kernel_rfl) ?_
        refine tjb (mk := fun s32 : (List T_Fate) => [(V.sl (List.map T_Fate.c s32))]) (fun J31 => ?_) fun s32 => ?_
        · refine tkeepO2 ?_ rfl
          refine tkeepO2 ?_ rfl
          refine tsome ?_
          refine rf_loopU (mk := fun (i41 : Int) (s37 : (List T_Fate)) => [(V.sl (List.map T_Fate.c s37)), (vi i41)]) hn _ _ (s11) (fun i41 h42 h43 h44 s37 rec35 k38 h39 => ?_) (fun i41 s37 rec46 h45 => ?_)
          · refine tb (x := (vb (decide (i41 < 16)))) (d_lss) ?_
            refine tcond_t h42 ?_
            refine tb (x := (T_Net.e a0)) (rfl) ?_
            refine tb (x := (T_Spot.e x16.At)) (rfl) ?_
            refine tbo (ty_net_Of hn a0 x16.At i41) fun r51 => ?_
            refine tb (x := (V.sl (List.map T_Fate.c ([r51] : (List T_Fate))))) (by kernel_rfl) ?_
            refine tbo (p_app (c := T_Fate.c) (fun _ => rfl) s37 ([r51] : (List T_Fate))) fun r54 => ?_
            refine tb (x := (vi (i41 + 1))) (p_inc h43 h44) ?_
            refine tkeepO2 ?_ rfl
            refine tkeepO2 ?_ rfl
            refine tsome ?_
            exact h39 (r54)
          · refine tb (x := (vb (decide (i41 < 16)))) (d_lss) ?_
            refine tcond_f h45 ?_
            refine tkeepO2 ?_ rfl
            refine tsome ?_
            exact rf_j rfl
        · refine tkeepO2 ?_ rfl
          refine tsome ?_
          exact rf_j rfl
      · refine tb (x := (vi ((i15 : Int) + 1))) (p_incN h18) ?_
        refine tkeepO2 ?_ rfl
        refine tsome ?_
        exact h13 (s23)
    · refine tb (x := (vb (decide ((List.length a0.Topo.Hosts : Int) < (List.length a0.Topo.Hosts : Int))))) (d_lss) ?_
      refine tcond_f h57 ?_
      exact rf_j rfl
  · exact rf_ret rfl

/-! slices.IndexFunc   railpoint/api.Link railpoint/api.Link  -/
def an_slices_IndexFunc_api_Link_api_Link : Ann := .seq (.reg 0 [] [] []) (.seq (.seq (.reg 0 [] [] []) (.blk (some []) (.loop [.s 8] (.seq (.reg 0 [] [] []) (.seq (.cond none (.no) (.no)) (.seq (.blk none (.seq (.reg 0 [] [] []) (.seq (.reg 0 [] [] []) (.cond none (.seq (.reg 0 [] [] []) (.no)) (.no))))) (.reg 0 [] [] []))))))) (.seq (.reg 0 [] [] []) (.no)))
noncomputable def sem_slices_IndexFunc_api_Link_api_Link (E : FuncId → List V → Option V) (n : Nat) (xs : List V) : Option V := if xs.length ≤ 19 then denF Tryd.prog (envJ [] E) n Tryd.f55 an_slices_IndexFunc_api_Link_api_Link xs else none
theorem ok_slices_IndexFunc_api_Link_api_Link {E : FuncId → List V → Option V} (hE : EnvOk Tryd.prog DW E) (n : Nat) : SemOk Tryd.prog DW 55 (sem_slices_IndexFunc_api_Link_api_Link E n) := fun xs y h => by
  unfold sem_slices_IndexFunc_api_Link_api_Link at h
  split at h
  · rename_i hl
    exact denF_ok stb Tryd.func55 (by kernel_rfl) (envJ_ok semsOk_nil hE) (by rw [Tryd.ntmps55]; exact hl) h
  · cases h
theorem eq_slices_IndexFunc_api_Link_api_Link (E : FuncId → List V → Option V) (n : Nat) (x0 x1 : V) : sem_slices_IndexFunc_api_Link_api_Link E n [x0, x1] =
 (lenS [x0]).bind fun v1 =>
 JoinPt (fun vs2 =>
 some (vi (-1 : Int))) fun J3 =>
 (fixN (fun rec4 vs5 =>
 (bin2 Tryd.prog BinOp.lss 3 (ot 8) (ot 7) (List.getD vs5 0 V.any) v1).bind fun v6 =>
 condV v6 (
 (idxS 4 x0 (List.getD vs5 0 V.any)).bind fun v7 =>
 (ldp (some 4) v7).bind fun v8 =>
 (callV (envJ [] E) x1 [v8]).bind fun v9 =>
 condV v9 (
 some (List.getD vs5 0 V.any)) (
 (bin2 Tryd.prog BinOp.add 3 (ot 8) (oc 1) (List.getD vs5 0 V.any) (vi 1)).bind fun v10 =>
 rec4 [v10])) (
 J3 [])) n) [(vi 0)] := by kernel_rfl
noncomputable def t_slices_IndexFunc_api_Link_api_Link (a0 : (List T_Link)) (g1 : T_Link → Option Bool) : Option Int :=
 join (fun (s4 : Unit) =>
 some (-1 : Int)) fun j5 =>
 loopI a0 (fun (i13 : Int) x14 (s9 : Unit) k10 =>
 (g1 x14).bind fun r22 =>
 if r22 = true then (
 some i13) else (
 k10 ())) (fun (s9 : Unit) =>
 j5 ()) ()
theorem ty_slices_IndexFunc_api_Link_api_Link {E : FuncId → List V → Option V} {n : Nat} (hn : bigN ≤ n) (a0 : (List T_Link)) {x1 : V} {g1 : T_Link → Option Bool} (hg_g1 : ∀ a0, Rv (fun x : Bool => (vb x)) (callV E x1 [(T_Link.e a0)]) (g1 a0)) : Rv (fun x : Int => (vi x)) (sem_slices_IndexFunc_api_Link_api_Link E n [(V.sl (List.map T_Link.c a0)), x1]) (t_slices_IndexFunc_api_Link_api_Link a0 g1) := by
  rw [eq_slices_IndexFunc_api_Link_api_Link]
  unfold t_slices_IndexFunc_api_Link_api_Link
  refine tb (x := (vi (List.length a0 : Int))) (p_len _) ?_
  refine tjoin (mk := fun s4 : Unit => []) (fun s4 => ?_) fun J3 j5 h6 => ?_
  · exact rf_ret rfl
  · refine rf_loopI (mk := fun (i13 : Int) (s9 : Unit) => [(vi (i13 : Int))]) hn a0 () (fun i13 x14 h15 h16 h17 s9 rec7 k10 h11 => ?_) (fun s9 rec26 h25 => ?_)
    · refine tb (x := (vb (decide ((i13 : Int) < (List.length a0 : Int))))) (d_lss) ?_
      refine tcond_t h17 ?_
      refine tb (x := (V.ptr (T_Link.c x14))) (p_idx_at (c := T_Link.c) (fun _ => rfl) h15) ?_
      refine tb (x := (T_Link.e x14)) (rfl) ?_
      refine tbo ((callV_J0 ▸ hg_g1 x14)) fun r22 => ?_
      refine tcond (fun h23 => ?_) (fun h23 => ?_)
      · exact rf_ret rfl
      · refine tb (x := (vi ((i13 : Int) + 1))) (p_incN h16) ?_
        exact h11 ()
    · refine tb (x := (vb (decide ((List.length a0 : Int) < (List.length a0 : Int))))) (d_lss) ?_
      refine tcond_f h25 ?_
      exact h6 ()

/-! railpoint/judge.Count$1 -/
def an_judge_Count_1 : Ann := .seq (.reg 0 [] [] []) (.seq (.reg 0 [] [] []) (.no))
noncomputable def sem_judge_Count_1 (n : Nat) (xs : List V) : Option V := if xs.length ≤ 16 then denF Tryd.prog (envOf []) n Tryd.f56 an_judge_Count_1 xs else none
theorem ok_judge_Count_1 (n : Nat) : SemOk Tryd.prog DW 56 (sem_judge_Count_1 n) := fun xs y h => by
  unfold sem_judge_Count_1 at h
  split at h
  · rename_i hl
    exact denF_ok stb Tryd.func56 (by kernel_rfl) (envOf_ok semsOk_nil) (by rw [Tryd.ntmps56]; exact hl) h
  · cases h
theorem eq_judge_Count_1 (n : Nat) (x0 x1 : V) : sem_judge_Count_1 n [x0, x1] =
 (V.cellsO x0).bind fun v1 =>
 (ldk (some 2) (List.drop 0 v1)).bind fun v2 =>
 (ptrF 0 x1).bind fun v3 =>
 (ldp (some 2) v3).bind fun v4 =>
 (bin2 Tryd.prog BinOp.eql 43 (ot 5) (ot 7) v2 v4).bind fun v5 =>
 (guardV v5 false (some V.any)).bind fun v6 =>
 (guardV v5 false ((gate v5 false (ldk (some 2) (List.drop 2 v1))).bind fun v7 =>
 some v7)).bind fun v8 =>
 (guardV v5 false ((ptrF 0 x1).bind fun v9 =>
 some v9)).bind fun v10 =>
 (guardV v5 false ((ldp (some 2) v10).bind fun v11 =>
 some v11)).bind fun v12 =>
 (guardV v5 false ((bin2 Tryd.prog BinOp.eql 43 (ot 11) (ot 13) v8 v12).bind fun v13 =>
 some v13)).bind fun v14 =>
 (pickV v5 (vb true) v14).bind fun v15 =>
 some v15 := by kernel_rfl
noncomputable def t_judge_Count_1 (a0 : T_Link) (a1 : T_Hop) : Option Bool :=
 some ((decide (a0.A = a1.At)) || (decide (a0.B = a1.At)))
theorem ty_judge_Count_1 {n : Nat} (hn : bigN ≤ n) (a0 : T_Link) (a1 : T_Hop) : Rv (fun x : Bool => (vb x)) (sem_judge_Count_1 n [(T_Link.e a0), (V.ptr (T_Hop.c a1))]) (t_judge_Count_1 a0 a1) := by
  rw [eq_judge_Count_1]
  unfold t_judge_Count_1
  refine tb (x := (T_Link.c a0)) rfl ?_
  refine tb (x := (T_Spot.e a0.A)) (rfl) ?_
  refine tb (x := (V.ptr (T_Hop.c a1))) (rfl) ?_
  refine tb (x := (T_Spot.e a1.At)) (rfl) ?_
  refine tb (x := (vb (decide (a0.A = a1.At)))) (T_Spot.eql a0.A a1.At) ?_
  refine tg_f (x := V.any) (fun h6 => rfl) ?_
  refine tg_f (x := (T_Spot.e a0.B)) (fun h8 => bind_some_eq (gate_pos (not_t h8) (rfl))) ?_
  refine tg_f (x := (V.ptr (T_Hop.c a1))) (fun h11 => bind_some_eq (rfl)) ?_
  refine tg_f (x := (T_Spot.e a1.At)) (fun h14 => by first | exact bind_some_eq (rfl) | (simp only [gv_t h14]; exact bind_some_eq (rfl))) ?_
  refine tg_f (x := (vb (decide (a0.B = a1.At)))) (fun h17 => by simp only [gv_t h17]; exact bind_some_eq (T_Spot.eql a0.B a1.At)) ?_
  refine tb (x := (vb ((decide (a0.A = a1.At)) || (decide (a0.B = a1.At))))) (pick_or (fun h9 => gv_t (not_f h9))) ?_
  exact rf_ret rfl

/-! railpoint/judge.Count -/
def an_judge_Count : Ann := .seq (.reg 0 [] [] []) (.seq (.reg 0 [] [] []) (.seq (.seq (.reg 0 [] [] []) (.blk (some [.o 5]) (.loop [.kb 2, .o 5, .s 17] (.seq (.reg 0 [] [] []) (.seq (.cond none (.no) (.no)) (.seq (.blk (some [.kb 2, .o 5]) (.seq (.reg 0 [] [] []) (.seq (.reg 0 [] [] []) (.blk (some [.kb 2, .o 5]) (.loop [.kb 2, .o 5, .s 29] (.seq (.reg 0 [] [] []) (.seq (.cond none (.no) (.no)) (.seq (.blk none (.seq (.reg 0 [] [] []) (.seq (.reg 0 [9] [] []) (.seq (.reg 0 [] [] []) (.cond (some [.kb 2, .o 5]) (.reg 0 [] [] []) (.no)))))) (.reg 0 [] [] []))))))))) (.reg 0 [] [] []))))))) (.seq (.reg 0 [5] [] []) (.no))))
noncomputable def sem_judge_Count (n : Nat) (xs : List V) : Option V := if xs.length ≤ 48 then denF Tryd.prog (envOf [(55, (sem_slices_IndexFunc_api_Link_api_Link (envOf [(56, (sem_judge_Count_1 n))]) n)), (56, (sem_judge_Count_1 n))]) n Tryd.f29 an_judge_Count xs else none
theorem ok_judge_Count (n : Nat) : SemOk Tryd.prog DW 29 (sem_judge_Count n) := fun xs y h => by
  unfold sem_judge_Count at h
  split at h
  · rename_i hl
    exact denF_ok stb Tryd.func29 (by kernel_rfl) (envOf_ok (semsOk_cons (ok_slices_IndexFunc_api_Link_api_Link (envOf_ok (semsOk_cons (ok_judge_Count_1 n) semsOk_nil)) n) (semsOk_cons (ok_judge_Count_1 n) semsOk_nil))) (by rw [Tryd.ntmps29]; exact hl) h
  · cases h
theorem eq_judge_Count (n : Nat) (x0 x1 : V) : sem_judge_Count n [x0, x1] =
 (V.cellsO x0).bind fun v1 =>
 (ldk none (List.drop 1 v1)).bind fun v2 =>
 (lenS [v2]).bind fun v3 =>
 (makeN 1 [(vi 0)] v3 v3).bind fun v4 =>
 (lenS [x1]).bind fun v5 =>
 JoinPt (fun vs6 =>
 (some (frz (List.getD vs6 0 V.any))).bind fun v8 =>
 some v8) fun J7 =>
 (keepO (some v1) (some v1) (some [v4, (vi 0)])).bind (fixN (fun rec9 vs10 =>
 (bin2 Tryd.prog BinOp.lss 3 (ot 17) (ot 16) (List.getD vs10 1 V.any) v5).bind fun v11 =>
 condV v11 (
 JoinPt (fun vs12 =>
 (bin2 Tryd.prog BinOp.add 3 (ot 17) (oc 1) (List.getD vs10 1 V.any) (vi 1)).bind fun v14 =>
 (keepO (some v1) (some v1) (some [(List.getD vs12 0 V.any), v14])).bind rec9) fun J13 =>
 (idxS 3 x1 (List.getD vs10 1 V.any)).bind fun v15 =>
 (ldp (some 3) v15).bind fun v16 =>
 (spliceV [(vi 0), (V.lit (Go.Value.string (ByteArray.mk #[]))), (V.sl [])] 0 3 v16).bind fun v17 =>
 (ldk none (List.drop 2 (aggL v17))).bind fun v18 =>
 (ldk none (List.drop 2 (aggL v17))).bind fun v19 =>
 (lenS [v19]).bind fun v20 =>
 (scal2 Tryd.prog (fun u v => Builtin.min_ #[3, 3] 3 #[u, v]) (vi 1) v20).bind fun v21 =>
 (slc (some 3) v18 (some v21) none).bind fun v22 =>
 (lenS [v22]).bind fun v23 =>
 JoinPt (fun vs24 =>
 (keepO (some v1) (some v1) (some [(List.getD vs24 0 V.any)])).bind J13) fun J25 =>
 (keepO (some v1) (some v1) (some [(List.getD vs10 0 V.any), (vi 0)])).bind (fixN (fun rec26 vs27 =>
 (bin2 Tryd.prog BinOp.lss 3 (ot 29) (ot 28) (List.getD vs27 1 V.any) v23).bind fun v28 =>
 condV v28 (
 (idxS 3 v22 (List.getD vs27 1 V.any)).bind fun v29 =>
 (ldp (some 3) v29).bind fun v30 =>
 (spliceV [(vi 0), (vi 0), (vi 0)] 0 3 v30).bind fun v31 =>
 (ldk none (List.drop 1 v1)).bind fun v32 =>
 ((sem_slices_IndexFunc_api_Link_api_Link (envOf [(56, (sem_judge_Count_1 n))]) n) [v32, (V.fn 56 [(V.ptr (aggL v31))])]).bind fun v33 =>
 (bin2 Tryd.prog BinOp.geq 3 (ot 37) (oc 0) v33 (vi 0)).bind fun v34 =>
 JoinPt (fun vs35 =>
 (bin2 Tryd.prog BinOp.add 3 (ot 29) (oc 1) (List.getD vs27 1 V.any) (vi 1)).bind fun v37 =>
 (keepO (some v1) (some v1) (some [(List.getD vs35 0 V.any), v37])).bind rec26) fun J36 =>
 condV v34 (
 ((oslR (List.getD vs27 0 V.any)).bind fun rows38 => inB (List.length rows38) v33).bind fun v39 =>
 ((nodeL (List.getD vs27 0 V.any) (some (natOf v33)) 1).bind fun l40 => (ldk none (List.drop 0 l40)).bind pureO).bind fun v41 =>
 (bin2 Tryd.prog BinOp.add 3 (ot 42) (oc 1) v41 (vi 1)).bind fun v42 =>
 ((oslR (List.getD vs27 0 V.any)).bind fun rows43 => inB (List.length rows43) v33).bind fun v44 =>
 (V.cellsO v42).bind fun v45 =>
 (setV (List.getD vs27 0 V.any) [] (Stp.mk (some (natOf v33)) 0 1) 1 v45).bind fun v46 =>
 (keepO (some v1) (some v1) (some [v46])).bind J36) (
 (keepO (some v1) (some v1) (some [(List.getD vs27 0 V.any)])).bind J36)) (
 (keepO (some v1) (some v1) (some [(List.getD vs27 0 V.any)])).bind J25)) n)) (
 J7 [(List.getD vs10 0 V.any)])) n) := by kernel_rfl
noncomputable def t_judge_Count (a0 : T_Topo) (a1 : (List T_Fate)) : Option (List Int) :=
 (omake (List.length a0.Links : Int) (List.length a0.Links : Int) 0).bind fun r5 =>
 (loopI a1 (fun (i19 : Int) x20 (s15 : (List Int)) k16 =>
 ((slc_lo x20.Hops (min 1 (List.length x20.Hops : Int))).bind fun r39 =>
 (loopI r39 (fun (i52 : Int) x53 (s48 : (List Int)) k49 =>
 (t_slices_IndexFunc_api_Link_api_Link a0.Links (fun (a62 : T_Link) => t_judge_Count_1 a62 x53)).bind fun r64 =>
 (if (decide (0 ≤ r64)) = true then (
 need (decide (0 ≤ r64) && decide (r64 < (List.length s48 : Int))) (
 (idx s48 r64).bind fun r76 =>
 need (decide (0 ≤ r64) && decide (r64 < (List.length s48 : Int))) (
 (oset s48 r64 (wr (r76 + 1))).bind fun r82 =>
 some (r82)))) else (
 some (s48))).bind fun (s68 : (List Int)) =>
 k49 (s68)) (fun (s48 : (List Int)) =>
 some (s48)) (s15)).bind fun (s43 : (List Int)) =>
 some (s43)).bind fun (s27 : (List Int)) =>
 k16 (s27)) (fun (s15 : (List Int)) =>
 some (s15)) (r5)).bind fun (s9 : (List Int)) =>
 some s9
theorem ty_judge_Count {n : Nat} (hn : bigN ≤ n) (a0 : T_Topo) (a1 : (List T_Fate)) : Rv (fun x : (List Int) => (V.sl (List.map cI x))) (sem_judge_Count n [(T_Topo.e a0), (V.sl (List.map T_Fate.c a1))]) (t_judge_Count a0 a1) := by
  rw [eq_judge_Count]
  unfold t_judge_Count
  refine tb (x := (T_Topo.c a0)) rfl ?_
  refine tb (x := (V.sl (List.map T_Link.c a0.Links))) (rfl) ?_
  refine tb (x := (vi (List.length a0.Links : Int))) (p_len _) ?_
  refine tbo (p_omake (c := cI) (List.length a0.Links : Int) (List.length a0.Links : Int) 0 rfl) fun r5 => ?_
  refine tb (x := (vi (List.length a1 : Int))) (p_len _) ?_
  refine tjb (mk := fun s9 : (List Int) => [(V.osl 1 (List.map cI s9))]) (fun J8 => ?_) fun s9 => ?_
  · refine tkeepO2 ?_ rfl
    refine tsome ?_
    refine rf_loopI (mk := fun (i19 : Int) (s15 : (List Int)) => [(V.osl 1 (List.map cI s15)), (vi (i19 : Int))]) hn a1 (r5) (fun i19 x20 h21 h22 h23 s15 rec13 k16 h17 => ?_) (fun s15 rec89 h88 => ?_)
    · refine tb (x := (vb (decide ((i19 : Int) < (List.length a1 : Int))))) (d_lss) ?_
      refine tcond_t h23 ?_
      refine tjb (mk := fun s27 : (List Int) => [(V.osl 1 (List.map cI s27))]) (fun J26 => ?_) fun s27 => ?_
      · refine tb (x := (V.ptr (T_Fate.c x20))) (p_idx_at (c := T_Fate.c) (fun _ => rfl) h21) ?_
        refine tb (x := (T_Fate.e x20)) (rfl) ?_
        refine tb (x := V.agg (T_Fate.c x20)) (by kernel_rfl) ?_
        refine tb (x := (V.sl (List.map T_Hop.c x20.Hops))) (rfl) ?_
        refine tb (x := (V.sl (List.map T_Hop.c x20.Hops))) (rfl) ?_
        refine tb (x := (vi (List.length x20.Hops : Int))) (p_len _) ?_
        refine tb (x := (vi (min 1 (List.length x20.Hops : Int)))) (p_min) ?_
        refine tbo (p_slc_lo (c := T_Hop.c) (fun _ => rfl) x20.Hops (min 1 (List.length x20.Hops : Int))) fun r39 => ?_
        refine tb (x := (vi (List.length r39 : Int))) (p_len _) ?_
        refine tjb (mk := fun s43 : (List Int) => [(V.osl 1 (List.map cI s43))]) (fun J42 => ?_) fun s43 => ?_
        · refine tkeepO2 ?_ rfl
          refine tsome ?_
          refine rf_loopI (mk := fun (i52 : Int) (s48 : (List Int)) => [(V.osl 1 (List.map cI s48)), (vi (i52 : Int))]) hn r39 (s15) (fun i52 x53 h54 h55 h56 s48 rec46 k49 h50 => ?_) (fun s48 rec86 h85 => ?_)
          · refine tb (x := (vb (decide ((i52 : Int) < (List.length r39 : Int))))) (d_lss) ?_
            refine tcond_t h56 ?_
            refine tb (x := (V.ptr (T_Hop.c x53))) (p_idx_at (c := T_Hop.c) (fun _ => rfl) h54) ?_
            refine tb (x := (T_Hop.e x53)) (rfl) ?_
            refine tb (x := V.agg (T_Hop.c x53)) (by kernel_rfl) ?_
            refine tb (x := (V.sl (List.map T_Link.c a0.Links))) (rfl) ?_
            refine tbo (ty_slices_IndexFunc_api_Link_api_Link (E := (envOf [(56, (sem_judge_Count_1 n))])) (x1 := (V.fn 56 [(V.ptr (T_Hop.c x53))])) (g1 := (fun (a62 : T_Link) => t_judge_Count_1 a62 x53)) hn a0.Links (fun a62 => ty_judge_Count_1 hn a62 x53)) fun r64 => ?_
            refine tb (x := (vb (decide (0 ≤ r64)))) (d_geq) ?_
            refine tjb (mk := fun s68 : (List Int) => [(V.osl 1 (List.map cI s68))]) (fun J67 => ?_) fun s68 => ?_
            · refine tcond (fun h72 => ?_) (fun h72 => ?_)
              · refine tneed (x := V.any) (fun h84 => p_inB s48 r64 h84) fun h84 => ?_
                refine tbo (p_oload (e1 := fun x : Int => (vi x)) (c := cI) (fun _ => rfl) s48 r64 (fun _ => rfl)) fun r76 => ?_
                refine tb (x := (vi (wr (r76 + 1)))) (d_add) ?_
                refine tneed (x := V.any) (fun h83 => p_inB s48 r64 h83) fun h83 => ?_
                refine tb (x := cI (wr (r76 + 1))) rfl ?_
                refine tbo (p_oset (c := cI) (fun _ => rfl) s48 r64 (wr (r76 + 1))) fun r82 => ?_
                refine tkeepO2 ?_ rfl
                refine tsome ?_
                exact rf_j rfl
              · refine tkeepO2 ?_ rfl
                refine tsome ?_
                exact rf_j rfl
            · refine tb (x := (vi ((i52 : Int) + 1))) (p_incN h55) ?_
              refine tkeepO2 ?_ rfl
              refine tsome ?_
              exact h50 (s68)
          · refine tb (x := (vb (decide ((List.length r39 : Int) < (List.length r39 : Int))))) (d_lss) ?_
            refine tcond_f h85 ?_
            refine tkeepO2 ?_ rfl
            refine tsome ?_
            exact rf_j rfl
        · refine tkeepO2 ?_ rfl
          refine tsome ?_
          exact rf_j rfl
      · refine tb (x := (vi ((i19 : Int) + 1))) (p_incN h22) ?_
        refine tkeepO2 ?_ rfl
        refine tsome ?_
        exact h17 (s27)
    · refine tb (x := (vb (decide ((List.length a1 : Int) < (List.length a1 : Int))))) (d_lss) ?_
      refine tcond_f h88 ?_
      exact rf_j rfl
  · refine tb (x := (V.sl (List.map cI s9))) (p_frz (c := cI) (fun _ => rfl) s9) ?_
    exact rf_ret rfl

/-! railpoint/load.Links -/
def an_load_Links : Ann := .seq (.reg 0 [] [] []) (.seq (.seq (.reg 0 [] [] []) (.seq (.reg 0 [] [] []) (.cond none (.seq (.reg 0 [] [] []) (.no)) (.no)))) (.seq (.reg 7 [] [] []) (.no)))
noncomputable def sem_load_Links (n : Nat) (xs : List V) : Option V := if xs.length ≤ 15 then denF Tryd.prog (envOf [(28, (sem_net_Check n)), (30, (sem_load_fates n)), (29, (sem_judge_Count n))]) n Tryd.f10 an_load_Links xs else none
theorem ok_load_Links (n : Nat) : SemOk Tryd.prog DW 10 (sem_load_Links n) := fun xs y h => by
  unfold sem_load_Links at h
  split at h
  · rename_i hl
    exact denF_ok stb Tryd.func10 (by kernel_rfl) (envOf_ok (semsOk_cons (ok_net_Check n) (semsOk_cons (ok_load_fates n) (semsOk_cons (ok_judge_Count n) semsOk_nil)))) (by rw [Tryd.ntmps10]; exact hl) h
  · cases h
theorem eq_load_Links (n : Nat) (x0 : V) : sem_load_Links n [x0] =
 (V.cellsO x0).bind fun v1 =>
 (ldk (some 4) (List.drop 0 v1)).bind fun v2 =>
 ((sem_net_Check n) [v2]).bind fun v3 =>
 (bin2 Tryd.prog BinOp.neq 54 (ot 7) (Operand.const Go.Value.nilIface) v3 vn).bind fun v4 =>
 condV v4 (
 some (V.tup [(V.sl []), v3])) (
 (ldk (some 3) (List.drop 0 v1)).bind fun v5 =>
 (ldk (some 4) (List.drop 0 v1)).bind fun v6 =>
 ((sem_load_fates n) [v6]).bind fun v7 =>
 ((sem_judge_Count n) [v5, v7]).bind fun v8 =>
 some (V.tup [v8, vn])) := by kernel_rfl
noncomputable def t_load_Links (a0 : T_Net) : Option ((List Int) × Int) :=
 (t_net_Check a0).bind fun r4 =>
 if (!decide (r4 = 0)) = true then (
 some ([], r4)) else (
 (t_load_fates a0).bind fun r10 =>
 (t_judge_Count a0.Topo r10).bind fun r12 =>
 some (r12, 0))
theorem ty_load_Links {n : Nat} (hn : bigN ≤ n) (a0 : T_Net) : Rv (fun x : ((List Int) × Int) => V.tup [(V.sl (List.map cI x.1)), (eV x.2)]) (sem_load_Links n [(T_Net.e a0)]) (t_load_Links a0) := by
  rw [eq_load_Links]
  unfold t_load_Links
  refine tb (x := (T_Net.c a0)) rfl ?_
  refine tb (x := (T_Net.e a0)) (rfl) ?_
  refine tbo (ty_net_Check hn a0) fun r4 => ?_
  refine tb (x := (vb (!decide (r4 = 0)))) (p_err_neq _) ?_
  refine tcond (fun h6 => ?_) (fun h6 => ?_)
  · exact rf_ret rfl
  · refine tb (x := (T_Topo.e a0.Topo)) (rfl) ?_
    refine tb (x := (T_Net.e a0)) (rfl) ?_
    refine tbo (ty_load_fates hn a0) fun r10 => ?_
    refine tbo (ty_judge_Count hn a0.Topo r10) fun r12 => ?_
    exact rf_ret rfl

/-! railpoint/load.count -/
def an_load_count : Ann := .seq (.reg 0 [] [] []) (.seq (.reg 0 [] [] []) (.seq (.seq (.reg 0 [] [] []) (.blk (some [.kb 1, .n 3 1]) (.loop [.kb 1, .n 3 1, .s 15] (.seq (.reg 0 [] [] []) (.seq (.cond none (.no) (.no)) (.seq (.blk none (.seq (.reg 0 [] [] []) (.reg 0 [] [] [24, 1000023]))) (.reg 0 [] [] []))))))) (.seq (.seq (.reg 0 [] [] []) (.blk (some [.o 3]) (.loop [.kb 1, .o 3, .s 29] (.seq (.reg 0 [] [] []) (.seq (.cond none (.no) (.no)) (.seq (.blk (some [.kb 1, .o 3]) (.seq (.reg 0 [] [] []) (.seq (.reg 0 [] [] []) (.blk (some [.kb 1, .o 3]) (.loop [.kb 1, .o 3, .s 36] (.seq (.reg 0 [] [] []) (.seq (.cond none (.no) (.no)) (.seq (.blk none (.seq (.reg 0 [] [] []) (.seq (.reg 0 [] [] []) (.seq (.reg 9 [] [] []) (.seq (.reg 0 [] [] []) (.cond (some [.kb 1, .o 3]) (.reg 0 [] [] [57]) (.no))))))) (.reg 0 [] [] []))))))))) (.reg 0 [] [] []))))))) (.seq (.reg 0 [3] [] []) (.no)))))
noncomputable def sem_load_count (n : Nat) (xs : List V) : Option V := if xs.length ≤ 66 then denF Tryd.prog (envOf [(30, (sem_load_fates n)), (59, (sem_rule_Find n))]) n Tryd.f32 an_load_count xs else none
theorem ok_load_count (n : Nat) : SemOk Tryd.prog DW 32 (sem_load_count n) := fun xs y h => by
  unfold sem_load_count at h
  split at h
  · rename_i hl
    exact denF_ok stb Tryd.func32 (by kernel_rfl) (envOf_ok (semsOk_cons (ok_load_fates n) (semsOk_cons (ok_rule_Find n) semsOk_nil))) (by rw [Tryd.ntmps32]; exact hl) h
  · cases h
theorem eq_load_count (n : Nat) (x0 : V) : sem_load_count n [x0] =
 (V.cellsO x0).bind fun v1 =>
 (ldk none (List.drop 3 v1)).bind fun v2 =>
 (lenS [v2]).bind fun v3 =>
 JoinPt (fun vs4 =>
 (ldk (some 4) (List.drop 0 v1)).bind fun v6 =>
 ((sem_load_fates n) [v6]).bind fun v7 =>
 (lenS [v7]).bind fun v8 =>
 JoinPt (fun vs9 =>
 (some (frz (List.getD vs9 0 V.any))).bind fun v11 =>
 some v11) fun J10 =>
 (keepO (some v1) (some v1) (some [(List.getD vs4 0 V.any), (vi 0)])).bind (fixN (fun rec12 vs13 =>
 (bin2 Tryd.prog BinOp.lss 3 (ot 29) (ot 28) (List.getD vs13 1 V.any) v8).bind fun v14 =>
 condV v14 (
 JoinPt (fun vs15 =>
 (bin2 Tryd.prog BinOp.add 3 (ot 29) (oc 1) (List.getD vs13 1 V.any) (vi 1)).bind fun v17 =>
 (keepO (some v1) (some v1) (some [(List.getD vs15 0 V.any), v17])).bind rec12) fun J16 =>
 (idxS 3 v7 (List.getD vs13 1 V.any)).bind fun v18 =>
 (ldp (some 3) v18).bind fun v19 =>
 (spliceV [(vi 0), (V.lit (Go.Value.string (ByteArray.mk #[]))), (V.sl [])] 0 3 v19).bind fun v20 =>
 (ldk none (List.drop 2 (aggL v20))).bind fun v21 =>
 (lenS [v21]).bind fun v22 =>
 JoinPt (fun vs23 =>
 (keepO (some v1) (some v1) (some [(List.getD vs23 0 V.any)])).bind J16) fun J24 =>
 (keepO (some v1) (some v1) (some [(List.getD vs13 0 V.any), (vi 0)])).bind (fixN (fun rec25 vs26 =>
 (bin2 Tryd.prog BinOp.lss 3 (ot 36) (ot 35) (List.getD vs26 1 V.any) v22).bind fun v27 =>
 condV v27 (
 (idxS 3 v21 (List.getD vs26 1 V.any)).bind fun v28 =>
 (ldp (some 3) v28).bind fun v29 =>
 (spliceV [(vi 0), (vi 0), (vi 0)] 0 3 v29).bind fun v30 =>
 (ldk none (List.drop 0 (aggL v30))).bind fun v31 =>
 (bin2 Tryd.prog BinOp.sub 3 (ot 42) (oc 1) v31 (vi 1)).bind fun v32 =>
 (ldk none (List.drop 3 v1)).bind fun v33 =>
 (idxS 1 v33 v32).bind fun v34 =>
 (ldp none v34).bind fun v35 =>
 (ldk none (List.drop 2 (aggL v30))).bind fun v36 =>
 ((sem_rule_Find n) [v35, v36]).bind fun v37 =>
 (bin2 Tryd.prog BinOp.geq 3 (ot 52) (oc 0) v37 (vi 0)).bind fun v38 =>
 JoinPt (fun vs39 =>
 (bin2 Tryd.prog BinOp.add 3 (ot 36) (oc 1) (List.getD vs26 1 V.any) (vi 1)).bind fun v41 =>
 (keepO (some v1) (some v1) (some [(List.getD vs39 0 V.any), v41])).bind rec25) fun J40 =>
 condV v38 (
 ((oslR (List.getD vs26 0 V.any)).bind fun rows42 => inB (List.length rows42) v32).bind fun v43 =>
 ((nodeL (List.getD vs26 0 V.any) (some (natOf v32)) 1).bind fun l44 => (l44[0]?).bind ownO).bind fun v45 =>
 (((getV (List.getD vs26 0 V.any) [(Stp.mk (some (natOf v32)) 0 1)]).bind oslR).bind fun rows46 => inB (List.length rows46) v37).bind fun v47 =>
 (((getV (List.getD vs26 0 V.any) [(Stp.mk (some (natOf v32)) 0 1)]).bind fun y => nodeL y (some (natOf v37)) 1).bind fun l48 => (ldk none (List.drop 0 l48)).bind pureO).bind fun v49 =>
 (bin2 Tryd.prog BinOp.add 3 (ot 60) (oc 1) v49 (vi 1)).bind fun v50 =>
 (((getV (List.getD vs26 0 V.any) [(Stp.mk (some (natOf v32)) 0 1)]).bind oslR).bind fun rows51 => inB (List.length rows51) v37).bind fun v52 =>
 (V.cellsO v50).bind fun v53 =>
 (setV (List.getD vs26 0 V.any) [(Stp.mk (some (natOf v32)) 0 1)] (Stp.mk (some (natOf v37)) 0 1) 1 v53).bind fun v54 =>
 (keepO (some v1) (some v1) (some [v54])).bind J40) (
 (keepO (some v1) (some v1) (some [(List.getD vs26 0 V.any)])).bind J40)) (
 (keepO (some v1) (some v1) (some [(List.getD vs26 0 V.any)])).bind J24)) n)) (
 J10 [(List.getD vs13 0 V.any)])) n)) fun J5 =>
 (keepO (some v1) (some v1) (some [(V.osl 1 []), (vi 0)])).bind (fixN (fun rec55 vs56 =>
 (bin2 Tryd.prog BinOp.lss 3 (ot 15) (ot 14) (List.getD vs56 1 V.any) v3).bind fun v57 =>
 condV v57 (
 (idxS 1 v2 (List.getD vs56 1 V.any)).bind fun v58 =>
 (ldp none v58).bind fun v59 =>
 (lenS [v59]).bind fun v60 =>
 (makeN 1 [(vi 0)] v60 v60).bind fun v61 =>
 (V.cellsO v61).bind fun v62 =>
 (litS 1 v62).bind fun v63 =>
 (appS 1 (List.getD vs56 0 V.any) v63).bind fun v64 =>
 (bin2 Tryd.prog BinOp.add 3 (ot 15) (oc 1) (List.getD vs56 1 V.any) (vi 1)).bind fun v65 =>
 (keepO (some v1) (some v1) (some [v64, v65])).bind rec55) (
 (keepO (some v1) (some v1) (some [(List.getD vs56 0 V.any)])).bind J5)) n) := by kernel_rfl
noncomputable def t_load_count (a0 : T_Net) : Option (List (List Int)) :=
 (loopI a0.Tables (fun (i106 : Int) x107 (s102 : (List (List Int))) k103 =>
 (omake (List.length x107 : Int) (List.length x107 : Int) 0).bind fun r116 =>
 (oapp s102 ([r116] : (List (List Int)))).bind fun r118 =>
 k103 (r118)) (fun (s102 : (List (List Int))) =>
 some (s102)) ([])).bind fun (s6 : (List (List Int))) =>
 (t_load_fates a0).bind fun r11 =>
 (loopI r11 (fun (i25 : Int) x26 (s21 : (List (List Int))) k22 =>
 ((loopI x26.Hops (fun (i53 : Int) x54 (s49 : (List (List Int))) k50 =>
 (idx a0.Tables (wr (x54.At.Switch - 1))).bind fun r66 =>
 (t_rule_Find r66 x54.Header).bind fun r70 =>
 (if (decide (0 ≤ r70)) = true then (
 need (decide (0 ≤ (wr (x54.At.Switch - 1))) && decide ((wr (x54.At.Switch - 1)) < (List.length s49 : Int))) (
 (idx s49 (wr (x54.At.Switch - 1))).bind fun r81 =>
 (idx s49 (wr (x54.At.Switch - 1))).bind fun r83 =>
 need (decide (0 ≤ r70) && decide (r70 < (List.length r83 : Int))) (
 (idx s49 (wr (x54.At.Switch - 1))).bind fun r85 =>
 (idx r85 r70).bind fun r86 =>
 (idx s49 (wr (x54.At.Switch - 1))).bind fun r89 =>
 need (decide (0 ≤ r70) && decide (r70 < (List.length r89 : Int))) (
 ((idx s49 (wr (x54.At.Switch - 1))).bind fun a_ => (oset a_ r70 (wr (r86 + 1))).map fun b_ => List.set s49 (Int.toNat (wr (x54.At.Switch - 1))) b_).bind fun r92 =>
 some (r92))))) else (
 some (s49))).bind fun (s74 : (List (List Int))) =>
 k50 (s74)) (fun (s49 : (List (List Int))) =>
 some (s49)) (s21)).bind fun (s44 : (List (List Int))) =>
 some (s44)).bind fun (s33 : (List (List Int))) =>
 k22 (s33)) (fun (s21 : (List (List Int))) =>
 some (s21)) (s6)).bind fun (s15 : (List (List Int))) =>
 some s15
theorem ty_load_count {n : Nat} (hn : bigN ≤ n) (a0 : T_Net) : Rv (fun x : (List (List Int)) => (V.sl (List.map (cS cI) x))) (sem_load_count n [(T_Net.e a0)]) (t_load_count a0) := by
  rw [eq_load_count]
  unfold t_load_count
  refine tb (x := (T_Net.c a0)) rfl ?_
  refine tb (x := (V.sl (List.map (cS T_Rule.c) a0.Tables))) (rfl) ?_
  refine tb (x := (vi (List.length a0.Tables : Int))) (p_len _) ?_
  refine tjb (mk := fun s6 : (List (List Int)) => [(V.osl 1 (List.map (fun x : (List Int) => [(V.osl 1 (List.map cI x))]) s6))]) (fun J5 => ?_) fun s6 => ?_
  · refine tkeepO2 ?_ rfl
    refine tsome ?_
    refine rf_loopI (mk := fun (i106 : Int) (s102 : (List (List Int))) => [(V.osl 1 (List.map (fun x : (List Int) => [(V.osl 1 (List.map cI x))]) s102)), (vi (i106 : Int))]) hn a0.Tables ([]) (fun i106 x107 h108 h109 h110 s102 rec100 k103 h104 => ?_) (fun s102 rec121 h120 => ?_)
    · refine tb (x := (vb (decide ((i106 : Int) < (List.length a0.Tables : Int))))) (d_lss) ?_
      refine tcond_t h110 ?_
      refine tb (x := (V.ptr [(V.sl (List.map T_Rule.c x107))])) (p_idx_at (c := (cS T_Rule.c)) (fun _ => rfl) h108) ?_
      refine tb (x := (V.sl (List.map T_Rule.c x107))) (rfl) ?_
      refine tb (x := (vi (List.length x107 : Int))) (p_len _) ?_
      refine tbo (p_omake (c := cI) (List.length x107 : Int) (List.length x107 : Int) 0 rfl) fun r116 => ?_
      refine tb (x := [(V.osl 1 (List.map cI r116))]) rfl ?_
      refine tb (x := (V.osl 1 (List.map (fun x : (List Int) => [(V.osl 1 (List.map cI x))]) ([r116] : (List (List Int)))))) (by kernel_rfl) ?_
      refine tbo (p_oappO (c := (fun x : (List Int) => [(V.osl 1 (List.map cI x))])) (fun _ => rfl) s102 ([r116] : (List (List Int)))) fun r118 => ?_
      refine tb (x := (vi ((i106 : Int) + 1))) (p_incN h109) ?_
      refine tkeepO2 ?_ rfl
      refine tsome ?_
      exact h104 (r118)
    · refine tb (x := (vb (decide ((List.length a0.Tables : Int) < (List.length a0.Tables : Int))))) (d_lss) ?_
      refine tcond_f h120 ?_
      refine tkeepO2 ?_ rfl
      refine tsome ?_
      exact rf_j rfl
  · refine tb (x := (T_Net.e a0)) (rfl) ?_
    refine tbo (ty_load_fates hn a0) fun r11 => ?_
    refine tb (x := (vi (List.length r11 : Int))) (p_len _) ?_
    refine tjb (mk := fun s15 : (List (List Int)) => [(V.osl 1 (List.map (fun x : (List Int) => [(V.osl 1 (List.map cI x))]) s15))]) (fun J14 => ?_) fun s15 => ?_
    · refine tkeepO2 ?_ rfl
      refine tsome ?_
      refine rf_loopI (mk := fun (i25 : Int) (s21 : (List (List Int))) => [(V.osl 1 (List.map (fun x : (List Int) => [(V.osl 1 (List.map cI x))]) s21)), (vi (i25 : Int))]) hn r11 (s6) (fun i25 x26 h27 h28 h29 s21 rec19 k22 h23 => ?_) (fun s21 rec98 h97 => ?_)
      · refine tb (x := (vb (decide ((i25 : Int) < (List.length r11 : Int))))) (d_lss) ?_
        refine tcond_t h29 ?_
        refine tjb (mk := fun s33 : (List (List Int)) => [(V.osl 1 (List.map (fun x : (List Int) => [(V.osl 1 (List.map cI x))]) s33))]) (fun J32 => ?_) fun s33 => ?_
        · refine tb (x := (V.ptr (T_Fate.c x26))) (p_idx_at (c := T_Fate.c) (fun _ => rfl) h27) ?_
          refine tb (x := (T_Fate.e x26)) (rfl) ?_
          refine tb (x := V.agg (T_Fate.c x26)) (by kernel_rfl) ?_
          refine tb (x := (V.sl (List.map T_Hop.c x26.Hops))) (rfl) ?_
          refine tb (x := (vi (List.length x26.Hops : Int))) (p_len _) ?_
          refine tjb (mk := fun s44 : (List (List Int)) => [(V.osl 1 (List.map (fun x : (List Int) => [(V.osl 1 (List.map cI x))]) s44))]) (fun J43 => ?_) fun s44 => ?_
          · refine tkeepO2 ?_ rfl
            refine tsome ?_
            refine rf_loopI (mk := fun (i53 : Int) (s49 : (List (List Int))) => [(V.osl 1 (List.map (fun x : (List Int) => [(V.osl 1 (List.map cI x))]) s49)), (vi (i53 : Int))]) hn x26.Hops (s21) (fun i53 x54 h55 h56 h57 s49 rec47 k50 h51 => ?_) (fun s49 rec95 h94 => ?_)
            · refine tb (x := (vb (decide ((i53 : Int) < (List.length x26.Hops : Int))))) (d_lss) ?_
              refine tcond_t h57 ?_
              refine tb (x := (V.ptr (T_Hop.c x54))) (p_idx_at (c := T_Hop.c) (fun _ => rfl) h55) ?_
              refine tb (x := (T_Hop.e x54)) (rfl) ?_
              refine tb (x := V.agg (T_Hop.c x54)) (by kernel_rfl) ?_
              refine tb (x := (vi x54.At.Switch)) (rfl) ?_
              refine tb (x := (vi (wr (x54.At.Switch - 1)))) (d_sub) ?_
              refine tb (x := (V.sl (List.map (cS T_Rule.c) a0.Tables))) (rfl) ?_
              refine tbo (p_idx (c := (cS T_Rule.c)) (fun _ => rfl) a0.Tables (wr (x54.At.Switch - 1))) fun r66 => ?_
              refine tb (x := (V.sl (List.map T_Rule.c r66))) (rfl) ?_
              refine tb (x := (vi x54.Header)) (rfl) ?_
              refine tbo (ty_rule_Find hn r66 x54.Header) fun r70 => ?_
              refine tb (x := (vb (decide (0 ≤ r70)))) (d_geq) ?_
              refine tjb (mk := fun s74 : (List (List Int)) => [(V.osl 1 (List.map (fun x : (List Int) => [(V.osl 1 (List.map cI x))]) s74))]) (fun J73 => ?_) fun s74 => ?_
              · refine tcond (fun h78 => ?_) (fun h78 => ?_)
                · refine tneed (x := V.any) (fun h93 => p_inB s49 (wr (x54.At.Switch - 1)) h93) fun h93 => ?_
                  refine tbo (p_onest (c := (fun x : (List Int) => [(V.osl 1 (List.map cI x))])) (fun _ => rfl) s49 (wr (x54.At.Switch - 1))) fun r81 => ?_
                  refine p_asc ?_
                  refine p_asc ?_
                  refine p_inI (c := (fun x : (List Int) => [(V.osl 1 (List.map cI x))])) (e1 := (fun x : (List Int) => (V.osl 1 (List.map cI x)))) (fun _ => rfl) s49 (wr (x54.At.Switch - 1)) fun r83 => ?_
                  refine p_in0 ?_
                  refine p_cas ?_
                  refine tneed (x := V.any) (fun h84 => p_inB (c := cI) (k := 1) r83 r70 h84) fun h84 => ?_
                  refine p_asc ?_
                  refine p_asc ?_
                  refine p_inI (c := (fun x : (List Int) => [(V.osl 1 (List.map cI x))])) (e1 := (fun x : (List Int) => (V.osl 1 (List.map cI x)))) (fun _ => rfl) s49 (wr (x54.At.Switch - 1)) fun r85 => ?_
                  refine p_in0 ?_
                  refine p_cas ?_
                  refine tbo (p_oload (e1 := fun x : Int => (vi x)) (c := cI) (fun _ => rfl) r85 r70 (fun _ => rfl)) fun r86 => ?_
                  refine tb (x := (vi (wr (r86 + 1)))) (d_add) ?_
                  refine p_asc ?_
                  refine p_asc ?_
                  refine p_inI (c := (fun x : (List Int) => [(V.osl 1 (List.map cI x))])) (e1 := (fun x : (List Int) => (V.osl 1 (List.map cI x)))) (fun _ => rfl) s49 (wr (x54.At.Switch - 1)) fun r89 => ?_
                  refine p_in0 ?_
                  refine p_cas ?_
                  refine tneed (x := V.any) (fun h90 => p_inB (c := cI) (k := 1) r89 r70 h90) fun h90 => ?_
                  refine tb (x := cI (wr (r86 + 1))) rfl ?_
                  refine tbo (p_setI1 (c := (fun x : (List Int) => [(V.osl 1 (List.map cI x))])) (e1 := (fun x : (List Int) => (V.osl 1 (List.map cI x)))) (fun _ => rfl) s49 (wr (x54.At.Switch - 1)) (fun a_ => p_oset (c := cI) (fun _ => rfl) a_ r70 (wr (r86 + 1)))) fun r92 => ?_
                  refine tkeepO2 ?_ rfl
                  refine tsome ?_
                  exact rf_j rfl
                · refine tkeepO2 ?_ rfl
                  refine tsome ?_
                  exact rf_j rfl
              · refine tb (x := (vi ((i53 : Int) + 1))) (p_incN h56) ?_
                refine tkeepO2 ?_ rfl
                refine tsome ?_
                exact h51 (s74)
            · refine tb (x := (vb (decide ((List.length x26.Hops : Int) < (List.length x26.Hops : Int))))) (d_lss) ?_
              refine tcond_f h94 ?_
              refine tkeepO2 ?_ rfl
              refine tsome ?_
              exact rf_j rfl
          · refine tkeepO2 ?_ rfl
            refine tsome ?_
            exact rf_j rfl
        · refine tb (x := (vi ((i25 : Int) + 1))) (p_incN h28) ?_
          refine tkeepO2 ?_ rfl
          refine tsome ?_
          exact h23 (s33)
      · refine tb (x := (vb (decide ((List.length r11 : Int) < (List.length r11 : Int))))) (d_lss) ?_
        refine tcond_f h97 ?_
        exact rf_j rfl
    · refine tb (x := (V.sl (List.map (cS cI) s15))) (p_frzS (c' := (cS cI)) (fun _ => (p_fzc (p_frzl (c' := cI) (fun _ => rfl) _) p_fz0)) s15) ?_
      exact rf_ret rfl

/-! railpoint/load.Rules -/
def an_load_Rules : Ann := .seq (.reg 0 [] [] []) (.seq (.seq (.reg 0 [] [] []) (.seq (.reg 0 [] [] []) (.cond none (.seq (.reg 0 [] [] []) (.no)) (.no)))) (.seq (.reg 0 [] [] []) (.no)))
noncomputable def sem_load_Rules (n : Nat) (xs : List V) : Option V := if xs.length ≤ 12 then denF Tryd.prog (envOf [(28, (sem_net_Check n)), (32, (sem_load_count n))]) n Tryd.f12 an_load_Rules xs else none
theorem ok_load_Rules (n : Nat) : SemOk Tryd.prog DW 12 (sem_load_Rules n) := fun xs y h => by
  unfold sem_load_Rules at h
  split at h
  · rename_i hl
    exact denF_ok stb Tryd.func12 (by kernel_rfl) (envOf_ok (semsOk_cons (ok_net_Check n) (semsOk_cons (ok_load_count n) semsOk_nil))) (by rw [Tryd.ntmps12]; exact hl) h
  · cases h
theorem eq_load_Rules (n : Nat) (x0 : V) : sem_load_Rules n [x0] =
 (V.cellsO x0).bind fun v1 =>
 (ldk (some 4) (List.drop 0 v1)).bind fun v2 =>
 ((sem_net_Check n) [v2]).bind fun v3 =>
 (bin2 Tryd.prog BinOp.neq 54 (ot 7) (Operand.const Go.Value.nilIface) v3 vn).bind fun v4 =>
 condV v4 (
 some (V.tup [(V.sl []), v3])) (
 (ldk (some 4) (List.drop 0 v1)).bind fun v5 =>
 ((sem_load_count n) [v5]).bind fun v6 =>
 some (V.tup [v6, vn])) := by kernel_rfl
noncomputable def t_load_Rules (a0 : T_Net) : Option ((List (List Int)) × Int) :=
 (t_net_Check a0).bind fun r4 =>
 if (!decide (r4 = 0)) = true then (
 some ([], r4)) else (
 (t_load_count a0).bind fun r9 =>
 some (r9, 0))
theorem ty_load_Rules {n : Nat} (hn : bigN ≤ n) (a0 : T_Net) : Rv (fun x : ((List (List Int)) × Int) => V.tup [(V.sl (List.map (cS cI) x.1)), (eV x.2)]) (sem_load_Rules n [(T_Net.e a0)]) (t_load_Rules a0) := by
  rw [eq_load_Rules]
  unfold t_load_Rules
  refine tb (x := (T_Net.c a0)) rfl ?_
  refine tb (x := (T_Net.e a0)) (rfl) ?_
  refine tbo (ty_net_Check hn a0) fun r4 => ?_
  refine tb (x := (vb (!decide (r4 = 0)))) (p_err_neq _) ?_
  refine tcond (fun h6 => ?_) (fun h6 => ?_)
  · exact rf_ret rfl
  · refine tb (x := (T_Net.e a0)) (rfl) ?_
    refine tbo (ty_load_count hn a0) fun r9 => ?_
    exact rf_ret rfl

/-! railpoint/load.Unused -/
def an_load_Unused : Ann := .seq (.reg 0 [] [] []) (.seq (.seq (.reg 0 [] [] []) (.seq (.reg 0 [] [] []) (.cond none (.seq (.reg 0 [] [] []) (.no)) (.no)))) (.seq (.reg 0 [] [] []) (.seq (.seq (.reg 0 [] [] []) (.blk (some [.s 5]) (.loop [.kb 1, .r 5 51, .s 18] (.seq (.reg 0 [] [] []) (.seq (.cond none (.no) (.no)) (.seq (.blk (some [.kb 1, .r 5 51]) (.seq (.reg 0 [] [] []) (.seq (.reg 0 [] [] []) (.blk (some [.kb 1, .r 5 51]) (.loop [.kb 1, .r 5 51, .s 25] (.seq (.reg 0 [] [] []) (.seq (.cond none (.no) (.no)) (.seq (.blk none (.seq (.reg 0 [] [] []) (.seq (.reg 0 [] [] []) (.cond (some [.kb 1, .r 5 51]) (.reg 0 [] [] []) (.no))))) (.reg 0 [] [] []))))))))) (.reg 0 [] [] []))))))) (.seq (.reg 0 [] [] []) (.no)))))
noncomputable def sem_load_Unused (n : Nat) (xs : List V) : Option V := if xs.length ≤ 49 then denF Tryd.prog (envOf [(28, (sem_net_Check n)), (32, (sem_load_count n))]) n Tryd.f13 an_load_Unused xs else none
theorem ok_load_Unused (n : Nat) : SemOk Tryd.prog DW 13 (sem_load_Unused n) := fun xs y h => by
  unfold sem_load_Unused at h
  split at h
  · rename_i hl
    exact denF_ok stb Tryd.func13 (by kernel_rfl) (envOf_ok (semsOk_cons (ok_net_Check n) (semsOk_cons (ok_load_count n) semsOk_nil))) (by rw [Tryd.ntmps13]; exact hl) h
  · cases h
theorem eq_load_Unused (n : Nat) (x0 : V) : sem_load_Unused n [x0] =
 (V.cellsO x0).bind fun v1 =>
 (ldk (some 4) (List.drop 0 v1)).bind fun v2 =>
 ((sem_net_Check n) [v2]).bind fun v3 =>
 (bin2 Tryd.prog BinOp.neq 54 (ot 12) (Operand.const Go.Value.nilIface) v3 vn).bind fun v4 =>
 condV v4 (
 some (V.tup [(V.sl []), v3])) (
 (ldk (some 4) (List.drop 0 v1)).bind fun v5 =>
 ((sem_load_count n) [v5]).bind fun v6 =>
 (lenS [v6]).bind fun v7 =>
 JoinPt (fun vs8 =>
 some (V.tup [(List.getD vs8 0 V.any), vn])) fun J9 =>
 (keepO (some v1) (some v1) (some [(V.sl []), (vi 0)])).bind (fixN (fun rec10 vs11 =>
 (bin2 Tryd.prog BinOp.lss 3 (ot 18) (ot 17) (List.getD vs11 1 V.any) v7).bind fun v12 =>
 condV v12 (
 JoinPt (fun vs13 =>
 (bin2 Tryd.prog BinOp.add 3 (ot 18) (oc 1) (List.getD vs11 1 V.any) (vi 1)).bind fun v15 =>
 (keepO (some v1) (some v1) (some [(V.sl (slL (List.getD vs13 0 V.any))), v15])).bind rec10) fun J14 =>
 (idxS 1 v6 (List.getD vs11 1 V.any)).bind fun v16 =>
 (ldp none v16).bind fun v17 =>
 (lenS [v17]).bind fun v18 =>
 JoinPt (fun vs19 =>
 (keepO (some v1) (some v1) (some [(V.sl (slL (List.getD vs19 0 V.any)))])).bind J14) fun J20 =>
 (keepO (some v1) (some v1) (some [(V.sl (slL (List.getD vs11 0 V.any))), (vi 0)])).bind (fixN (fun rec21 vs22 =>
 (bin2 Tryd.prog BinOp.lss 3 (ot 25) (ot 24) (List.getD vs22 1 V.any) v18).bind fun v23 =>
 condV v23 (
 (idxS 1 v17 (List.getD vs22 1 V.any)).bind fun v24 =>
 (ldp none v24).bind fun v25 =>
 (bin2 Tryd.prog BinOp.eql 3 (ot 30) (oc 0) v25 (vi 0)).bind fun v26 =>
 JoinPt (fun vs27 =>
 (bin2 Tryd.prog BinOp.add 3 (ot 25) (oc 1) (List.getD vs22 1 V.any) (vi 1)).bind fun v29 =>
 (keepO (some v1) (some v1) (some [(V.sl (slL (List.getD vs27 0 V.any))), v29])).bind rec21) fun J28 =>
 condV v26 (
 (bin2 Tryd.prog BinOp.add 3 (ot 33) (oc 1) (List.getD vs11 1 V.any) (vi 1)).bind fun v30 =>
 (ldk none (List.drop 3 v1)).bind fun v31 =>
 (idxS 1 v31 (List.getD vs11 1 V.any)).bind fun v32 =>
 (ldp none v32).bind fun v33 =>
 (idxS 6 v33 (List.getD vs22 1 V.any)).bind fun v34 =>
 (ldp (some 6) v34).bind fun v35 =>
 ((fillL [(vi 0), (vb false), (vi 0), (vi 0), (vi 0), (vi 0), (vi 0), (vi 0)] [(0, 1, v30), (2, 6, v35)]).map V.agg).bind fun v36 =>
 (slcB 8 1 [(vi 0), (vb false), (vi 0), (vi 0), (vi 0), (vi 0), (vi 0), (vi 0)] [(0, v36)]).bind fun v37 =>
 (appV 8 (slL (List.getD vs22 0 V.any)) v37).bind fun v38 =>
 (keepO (some v1) (some v1) (some [(V.sl (slL v38))])).bind J28) (
 (keepO (some v1) (some v1) (some [(V.sl (slL (List.getD vs22 0 V.any)))])).bind J28)) (
 (keepO (some v1) (some v1) (some [(V.sl (slL (List.getD vs22 0 V.any)))])).bind J20)) n)) (
 J9 [(V.sl (slL (List.getD vs11 0 V.any)))])) n)) := by kernel_rfl
noncomputable def t_load_Unused (a0 : T_Net) : Option ((List T_Op) × Int) :=
 (t_net_Check a0).bind fun r4 =>
 if (!decide (r4 = 0)) = true then (
 some ([], r4)) else (
 (t_load_count a0).bind fun r9 =>
 (loopI r9 (fun (i22 : Int) x23 (s18 : (List T_Op)) k19 =>
 ((loopI x23 (fun (i48 : Int) x49 (s44 : (List T_Op)) k45 =>
 (if (decide (x49 = 0)) = true then (
 (idx a0.Tables i22).bind fun r67 =>
 (idx r67 i48).bind fun r70 =>
 (app s44 ([(T_Op.mk (i22 + 1) false r70)] : (List T_Op))).bind fun r75 =>
 some (r75)) else (
 some (s44))).bind fun (s59 : (List T_Op)) =>
 k45 (s59)) (fun (s44 : (List T_Op)) =>
 some (s44)) (s18)).bind fun (s39 : (List T_Op)) =>
 some (s39)).bind fun (s30 : (List T_Op)) =>
 k19 (s30)) (fun (s18 : (List T_Op)) =>
 some (s18)) ([])).bind fun (s13 : (List T_Op)) =>
 some (s13, 0))
theorem ty_load_Unused {n : Nat} (hn : bigN ≤ n) (a0 : T_Net) : Rv (fun x : ((List T_Op) × Int) => V.tup [(V.sl (List.map T_Op.c x.1)), (eV x.2)]) (sem_load_Unused n [(T_Net.e a0)]) (t_load_Unused a0) := by
  rw [eq_load_Unused]
  unfold t_load_Unused
  refine tb (x := (T_Net.c a0)) rfl ?_
  refine tb (x := (T_Net.e a0)) (rfl) ?_
  refine tbo (ty_net_Check hn a0) fun r4 => ?_
  refine tb (x := (vb (!decide (r4 = 0)))) (p_err_neq _) ?_
  refine tcond (fun h6 => ?_) (fun h6 => ?_)
  · exact rf_ret rfl
  · refine tb (x := (T_Net.e a0)) (rfl) ?_
    refine tbo (ty_load_count hn a0) fun r9 => ?_
    refine tb (x := (vi (List.length r9 : Int))) (p_len _) ?_
    refine tjb (mk := fun s13 : (List T_Op) => [(V.sl (List.map T_Op.c s13))]) (fun J12 => ?_) fun s13 => ?_
    · refine tkeepO2 ?_ rfl
      refine tsome ?_
      refine rf_loopI (mk := fun (i22 : Int) (s18 : (List T_Op)) => [(V.sl (List.map T_Op.c s18)), (vi (i22 : Int))]) hn r9 ([]) (fun i22 x23 h24 h25 h26 s18 rec16 k19 h20 => ?_) (fun s18 rec80 h79 => ?_)
      · refine tb (x := (vb (decide ((i22 : Int) < (List.length r9 : Int))))) (d_lss) ?_
        refine tcond_t h26 ?_
        refine tjb (mk := fun s30 : (List T_Op) => [(V.sl (List.map T_Op.c s30))]) (fun J29 => ?_) fun s30 => ?_
        · refine tb (x := (V.ptr [(V.sl (List.map cI x23))])) (p_idx_at (c := (cS cI)) (fun _ => rfl) h24) ?_
          refine tb (x := (V.sl (List.map cI x23))) (rfl) ?_
          refine tb (x := (vi (List.length x23 : Int))) (p_len _) ?_
          refine tjb (mk := fun s39 : (List T_Op) => [(V.sl (List.map T_Op.c s39))]) (fun J38 => ?_) fun s39 => ?_
          · refine tkeepO2 ?_ rfl
            refine tsome ?_
            refine rf_loopI (mk := fun (i48 : Int) (s44 : (List T_Op)) => [(V.sl (List.map T_Op.c s44)), (vi (i48 : Int))]) hn x23 (s18) (fun i48 x49 h50 h51 h52 s44 rec42 k45 h46 => ?_) (fun s44 rec77 h76 => ?_)
            · refine tb (x := (vb (decide ((i48 : Int) < (List.length x23 : Int))))) (d_lss) ?_
              refine tcond_t h52 ?_
              refine tb (x := (V.ptr [(vi x49)])) (p_idx_at (c := cI) (fun _ => rfl) h50) ?_
              refine tb (x := (vi x49)) (rfl) ?_
              refine tb (x := (vb (decide (x49 = 0)))) (d_eql) ?_
              refine tjb (mk := fun s59 : (List T_Op) => [(V.sl (List.map T_Op.c s59))]) (fun J58 => ?_) fun s59 => ?_
              · refine tcond (fun h63 => ?_) (fun h63 => ?_)
                · refine tb (x := (vi ((i22 : Int) + 1))) (p_incN h25) ?_
                  refine tb (x := (V.sl (List.map (cS T_Rule.c) a0.Tables))) (rfl) ?_
                  refine tbo (p_idx (c := (cS T_Rule.c)) (fun _ => rfl) a0.Tables (i22 : Int)) fun r67 => ?_
                  refine tb (x := (V.sl (List.map T_Rule.c r67))) (rfl) ?_
                  refine tbo (p_idx (c := T_Rule.c) (fun _ => rfl) r67 (i48 : Int)) fun r70 => ?_
                  refine tb (x := (T_Rule.e r70)) (rfl) ?_
                  refine tb (x := (T_Op.e (T_Op.mk ((i22 : Int) + 1) false r70))) (by kernel_rfl) ?_
                  refine tb (x := (V.sl (List.map T_Op.c ([(T_Op.mk ((i22 : Int) + 1) false r70)] : (List T_Op))))) (by kernel_rfl) ?_
                  refine tbo (p_app (c := T_Op.c) (fun _ => rfl) s44 ([(T_Op.mk ((i22 : Int) + 1) false r70)] : (List T_Op))) fun r75 => ?_
                  refine tkeepO2 ?_ rfl
                  refine tsome ?_
                  exact rf_j rfl
                · refine tkeepO2 ?_ rfl
                  refine tsome ?_
                  exact rf_j rfl
              · refine tb (x := (vi ((i48 : Int) + 1))) (p_incN h51) ?_
                refine tkeepO2 ?_ rfl
                refine tsome ?_
                exact h46 (s59)
            · refine tb (x := (vb (decide ((List.length x23 : Int) < (List.length x23 : Int))))) (d_lss) ?_
              refine tcond_f h76 ?_
              refine tkeepO2 ?_ rfl
              refine tsome ?_
              exact rf_j rfl
          · refine tkeepO2 ?_ rfl
            refine tsome ?_
            exact rf_j rfl
        · refine tb (x := (vi ((i22 : Int) + 1))) (p_incN h25) ?_
          refine tkeepO2 ?_ rfl
          refine tsome ?_
          exact h20 (s30)
      · refine tb (x := (vb (decide ((List.length r9 : Int) < (List.length r9 : Int))))) (d_lss) ?_
        refine tcond_f h79 ?_
        exact rf_j rfl
    · exact rf_ret rfl

/-! railpoint/load.Pairs$1 -/
def an_load_Pairs_1 : Ann := .seq (.reg 0 [] [] []) (.seq (.reg 0 [] [] []) (.no))
noncomputable def sem_load_Pairs_1 (n : Nat) (xs : List V) : Option V := if xs.length ≤ 14 then denF Tryd.prog (envOf []) n Tryd.f34 an_load_Pairs_1 xs else none
theorem ok_load_Pairs_1 (n : Nat) : SemOk Tryd.prog DW 34 (sem_load_Pairs_1 n) := fun xs y h => by
  unfold sem_load_Pairs_1 at h
  split at h
  · rename_i hl
    exact denF_ok stb Tryd.func34 (by kernel_rfl) (envOf_ok semsOk_nil) (by rw [Tryd.ntmps34]; exact hl) h
  · cases h
theorem eq_load_Pairs_1 (n : Nat) (x0 x1 : V) : sem_load_Pairs_1 n [x0, x1] =
 (V.cellsO x0).bind fun v1 =>
 (ptrF 0 x1).bind fun v2 =>
 (ldp none v2).bind fun v3 =>
 (bin2 Tryd.prog BinOp.eql 3 (ot 5) (oc 1) v3 (vi 1)).bind fun v4 =>
 (guardV v4 true (some V.any)).bind fun v5 =>
 (guardV v4 true ((gate v4 true (ldk none (List.drop 0 v1))).bind fun v6 =>
 some v6)).bind fun v7 =>
 (guardV v4 true ((ptrF 1 x1).bind fun v8 =>
 some v8)).bind fun v9 =>
 (guardV v4 true ((ldp none v9).bind fun v10 =>
 some v10)).bind fun v11 =>
 (guardV v4 true ((bin2 Tryd.prog BinOp.eql 9 (ot 9) (ot 11) v7 v11).bind fun v12 =>
 some v12)).bind fun v13 =>
 (pickV v4 v13 (vb false)).bind fun v14 =>
 some v14 := by kernel_rfl
noncomputable def t_load_Pairs_1 (a0 : T_Host) (a1 : T_Fate) : Option Bool :=
 some ((decide (a1.How = 1)) && (decide (a0.Name = a1.Host)))
theorem ty_load_Pairs_1 {n : Nat} (hn : bigN ≤ n) (a0 : T_Host) (a1 : T_Fate) : Rv (fun x : Bool => (vb x)) (sem_load_Pairs_1 n [(T_Host.e a0), (V.ptr (T_Fate.c a1))]) (t_load_Pairs_1 a0 a1) := by
  rw [eq_load_Pairs_1]
  unfold t_load_Pairs_1
  refine tb (x := (T_Host.c a0)) rfl ?_
  refine tb (x := (V.ptr (T_Fate.c a1))) (rfl) ?_
  refine tb (x := (vi a1.How)) (rfl) ?_
  refine tb (x := (vb (decide (a1.How = 1)))) (d_eql) ?_
  refine tg (x := V.any) (fun h5 => rfl) ?_
  refine tg (x := (vt a0.Name)) (fun h7 => bind_some_eq (gate_pos h7 (rfl))) ?_
  refine tg (x := (V.ptr (List.drop 1 (T_Fate.c a1)))) (fun h10 => bind_some_eq (rfl)) ?_
  refine tg (x := (vt a1.Host)) (fun h13 => by first | exact bind_some_eq (rfl) | (simp only [gv_t h13]; exact bind_some_eq (rfl))) ?_
  refine tg (x := (vb (decide (a0.Name = a1.Host)))) (fun h16 => by simp only [gv_t h16]; exact bind_some_eq (p_eql_str)) ?_
  refine tb (x := (vb ((decide (a1.How = 1)) && (decide (a0.Name = a1.Host))))) (pick_and (fun h9 => gv_t h9)) ?_
  exact rf_ret rfl

/-! railpoint/load.Pairs -/
def an_load_Pairs : Ann := .seq (.reg 0 [] [] []) (.seq (.seq (.reg 0 [] [] []) (.seq (.reg 0 [] [] []) (.cond none (.seq (.reg 0 [] [] []) (.no)) (.no)))) (.seq (.reg 0 [] [] []) (.seq (.reg 0 [] [] []) (.seq (.seq (.reg 0 [] [] []) (.blk (some [.o 6]) (.loop [.o 6, .s 27] (.seq (.reg 0 [] [] []) (.seq (.cond none (.no) (.no)) (.seq (.blk none (.seq (.reg 0 [] [] []) (.seq (.reg 0 [8] [] []) (.seq (.reg 0 [] [] []) (.cond (some [.o 6]) (.reg 0 [] [] []) (.no)))))) (.reg 0 [] [] []))))))) (.seq (.reg 0 [6] [] []) (.no))))))
noncomputable def sem_load_Pairs (n : Nat) (xs : List V) : Option V := if xs.length ≤ 51 then denF Tryd.prog (envOf [(28, (sem_net_Check n)), (30, (sem_load_fates n)), (33, (sem_slices_IndexFunc_api_Host_api_Host (envOf [(34, (sem_load_Pairs_1 n))]) n)), (34, (sem_load_Pairs_1 n))]) n Tryd.f14 an_load_Pairs xs else none
theorem ok_load_Pairs (n : Nat) : SemOk Tryd.prog DW 14 (sem_load_Pairs n) := fun xs y h => by
  unfold sem_load_Pairs at h
  split at h
  · rename_i hl
    exact denF_ok stb Tryd.func14 (by kernel_rfl) (envOf_ok (semsOk_cons (ok_net_Check n) (semsOk_cons (ok_load_fates n) (semsOk_cons (ok_slices_IndexFunc_api_Host_api_Host (envOf_ok (semsOk_cons (ok_load_Pairs_1 n) semsOk_nil)) n) (semsOk_cons (ok_load_Pairs_1 n) semsOk_nil))))) (by rw [Tryd.ntmps14]; exact hl) h
  · cases h
theorem eq_load_Pairs (n : Nat) (x0 : V) : sem_load_Pairs n [x0] =
 (V.cellsO x0).bind fun v1 =>
 (ldk (some 4) (List.drop 0 v1)).bind fun v2 =>
 ((sem_net_Check n) [v2]).bind fun v3 =>
 (bin2 Tryd.prog BinOp.neq 54 (ot 12) (Operand.const Go.Value.nilIface) v3 vn).bind fun v4 =>
 condV v4 (
 some (V.tup [(V.sl []), v3])) (
 (ldk none (List.drop 2 v1)).bind fun v5 =>
 (lenS [v5]).bind fun v6 =>
 (lenS [v5]).bind fun v7 =>
 (bin2 Tryd.prog BinOp.mul 3 (ot 19) (ot 21) v6 v7).bind fun v8 =>
 (makeN 1 [(vi 0)] v8 v8).bind fun v9 =>
 (ldk (some 4) (List.drop 0 v1)).bind fun v10 =>
 ((sem_load_fates n) [v10]).bind fun v11 =>
 (lenS [v11]).bind fun v12 =>
 JoinPt (fun vs13 =>
 (some (frz (List.getD vs13 0 V.any))).bind fun v15 =>
 some (V.tup [v15, vn])) fun J14 =>
 (fixN (fun rec16 vs17 =>
 (bin2 Tryd.prog BinOp.lss 3 (ot 27) (ot 26) (List.getD vs17 1 V.any) v12).bind fun v18 =>
 condV v18 (
 (idxS 3 v11 (List.getD vs17 1 V.any)).bind fun v19 =>
 (ldp (some 3) v19).bind fun v20 =>
 (spliceV [(vi 0), (V.lit (Go.Value.string (ByteArray.mk #[]))), (V.sl [])] 0 3 v20).bind fun v21 =>
 ((sem_slices_IndexFunc_api_Host_api_Host (envOf [(34, (sem_load_Pairs_1 n))]) n) [v5, (V.fn 34 [(V.ptr (aggL v21))])]).bind fun v22 =>
 (bin2 Tryd.prog BinOp.geq 3 (ot 35) (oc 0) v22 (vi 0)).bind fun v23 =>
 JoinPt (fun vs24 =>
 (bin2 Tryd.prog BinOp.add 3 (ot 27) (oc 1) (List.getD vs17 1 V.any) (vi 1)).bind fun v26 =>
 rec16 [(List.getD vs24 0 V.any), v26]) fun J25 =>
 condV v23 (
 (bin2 Tryd.prog BinOp.quo 3 (ot 38) (oc 16) (List.getD vs17 1 V.any) (vi 16)).bind fun v27 =>
 (lenS [v5]).bind fun v28 =>
 (bin2 Tryd.prog BinOp.mul 3 (ot 39) (ot 41) v27 v28).bind fun v29 =>
 (bin2 Tryd.prog BinOp.add 3 (ot 42) (ot 43) v29 v22).bind fun v30 =>
 ((oslR (List.getD vs17 0 V.any)).bind fun rows31 => inB (List.length rows31) v30).bind fun v32 =>
 ((nodeL (List.getD vs17 0 V.any) (some (natOf v30)) 1).bind fun l33 => (ldk none (List.drop 0 l33)).bind pureO).bind fun v34 =>
 (bin2 Tryd.prog BinOp.add 3 (ot 46) (oc 1) v34 (vi 1)).bind fun v35 =>
 ((oslR (List.getD vs17 0 V.any)).bind fun rows36 => inB (List.length rows36) v30).bind fun v37 =>
 (V.cellsO v35).bind fun v38 =>
 (setV (List.getD vs17 0 V.any) [] (Stp.mk (some (natOf v30)) 0 1) 1 v38).bind fun v39 =>
 J25 [v39]) (
 J25 [(List.getD vs17 0 V.any)])) (
 J14 [(List.getD vs17 0 V.any)])) n) [v9, (vi 0)]) := by kernel_rfl
noncomputable def t_load_Pairs (a0 : T_Net) : Option ((List Int) × Int) :=
 (t_net_Check a0).bind fun r4 =>
 if (!decide (r4 = 0)) = true then (
 some ([], r4)) else (
 (omake (wr ((List.length a0.Topo.Hosts : Int) * (List.length a0.Topo.Hosts : Int))) (wr ((List.length a0.Topo.Hosts : Int) * (List.length a0.Topo.Hosts : Int))) 0).bind fun r12 =>
 (t_load_fates a0).bind fun r15 =>
 (loopI r15 (fun (i29 : Int) x30 (s25 : (List Int)) k26 =>
 (t_slices_IndexFunc_api_Host_api_Host a0.Topo.Hosts (fun (a38 : T_Host) => t_load_Pairs_1 a38 x30)).bind fun r40 =>
 (if (decide (0 ≤ r40)) = true then (
 need (decide (0 ≤ (wr ((wr ((wr (Int.tdiv i29 16)) * (List.length a0.Topo.Hosts : Int))) + r40))) && decide ((wr ((wr ((wr (Int.tdiv i29 16)) * (List.length a0.Topo.Hosts : Int))) + r40)) < (List.length s25 : Int))) (
 (idx s25 (wr ((wr ((wr (Int.tdiv i29 16)) * (List.length a0.Topo.Hosts : Int))) + r40))).bind fun r56 =>
 need (decide (0 ≤ (wr ((wr ((wr (Int.tdiv i29 16)) * (List.length a0.Topo.Hosts : Int))) + r40))) && decide ((wr ((wr ((wr (Int.tdiv i29 16)) * (List.length a0.Topo.Hosts : Int))) + r40)) < (List.length s25 : Int))) (
 (oset s25 (wr ((wr ((wr (Int.tdiv i29 16)) * (List.length a0.Topo.Hosts : Int))) + r40)) (wr (r56 + 1))).bind fun r62 =>
 some (r62)))) else (
 some (s25))).bind fun (s44 : (List Int)) =>
 k26 (s44)) (fun (s25 : (List Int)) =>
 some (s25)) (r12)).bind fun (s19 : (List Int)) =>
 some (s19, 0))
theorem ty_load_Pairs {n : Nat} (hn : bigN ≤ n) (a0 : T_Net) : Rv (fun x : ((List Int) × Int) => V.tup [(V.sl (List.map cI x.1)), (eV x.2)]) (sem_load_Pairs n [(T_Net.e a0)]) (t_load_Pairs a0) := by
  rw [eq_load_Pairs]
  unfold t_load_Pairs
  refine tb (x := (T_Net.c a0)) rfl ?_
  refine tb (x := (T_Net.e a0)) (rfl) ?_
  refine tbo (ty_net_Check hn a0) fun r4 => ?_
  refine tb (x := (vb (!decide (r4 = 0)))) (p_err_neq _) ?_
  refine tcond (fun h6 => ?_) (fun h6 => ?_)
  · exact rf_ret rfl
  · refine tb (x := (V.sl (List.map T_Host.c a0.Topo.Hosts))) (rfl) ?_
    refine tb (x := (vi (List.length a0.Topo.Hosts : Int))) (p_len _) ?_
    refine tb (x := (vi (List.length a0.Topo.Hosts : Int))) (p_len _) ?_
    refine tb (x := (vi (wr ((List.length a0.Topo.Hosts : Int) * (List.length a0.Topo.Hosts : Int))))) (d_mul) ?_
    refine tbo (p_omake (c := cI) (wr ((List.length a0.Topo.Hosts : Int) * (List.length a0.Topo.Hosts : Int))) (wr ((List.length a0.Topo.Hosts : Int) * (List.length a0.Topo.Hosts : Int))) 0 rfl) fun r12 => ?_
    refine tb (x := (T_Net.e a0)) (rfl) ?_
    refine tbo (ty_load_fates hn a0) fun r15 => ?_
    refine tb (x := (vi (List.length r15 : Int))) (p_len _) ?_
    refine tjb (mk := fun s19 : (List Int) => [(V.osl 1 (List.map cI s19))]) (fun J18 => ?_) fun s19 => ?_
    · refine rf_loopI (mk := fun (i29 : Int) (s25 : (List Int)) => [(V.osl 1 (List.map cI s25)), (vi (i29 : Int))]) hn r15 (r12) (fun i29 x30 h31 h32 h33 s25 rec23 k26 h27 => ?_) (fun s25 rec66 h65 => ?_)
      · refine tb (x := (vb (decide ((i29 : Int) < (List.length r15 : Int))))) (d_lss) ?_
        refine tcond_t h33 ?_
        refine tb (x := (V.ptr (T_Fate.c x30))) (p_idx_at (c := T_Fate.c) (fun _ => rfl) h31) ?_
        refine tb (x := (T_Fate.e x30)) (rfl) ?_
        refine tb (x := V.agg (T_Fate.c x30)) (by kernel_rfl) ?_
        refine tbo (ty_slices_IndexFunc_api_Host_api_Host (E := (envOf [(34, (sem_load_Pairs_1 n))])) (x1 := (V.fn 34 [(V.ptr (T_Fate.c x30))])) (g1 := (fun (a38 : T_Host) => t_load_Pairs_1 a38 x30)) hn a0.Topo.Hosts (fun a38 => ty_load_Pairs_1 hn a38 x30)) fun r40 => ?_
        refine tb (x := (vb (decide (0 ≤ r40)))) (d_geq) ?_
        refine tjb (mk := fun s44 : (List Int) => [(V.osl 1 (List.map cI s44))]) (fun J43 => ?_) fun s44 => ?_
        · refine tcond (fun h48 => ?_) (fun h48 => ?_)
          · refine tb (x := (vi (wr (Int.tdiv (i29 : Int) 16)))) (p_quo (by decide)) ?_
            refine tb (x := (vi (List.length a0.Topo.Hosts : Int))) (p_len _) ?_
            refine tb (x := (vi (wr ((wr (Int.tdiv (i29 : Int) 16)) * (List.length a0.Topo.Hosts : Int))))) (d_mul) ?_
            refine tb (x := (vi (wr ((wr ((wr (Int.tdiv (i29 : Int) 16)) * (List.length a0.Topo.Hosts : Int))) + r40)))) (d_add) ?_
            refine tneed (x := V.any) (fun h64 => p_inB s25 (wr ((wr ((wr (Int.tdiv (i29 : Int) 16)) * (List.length a0.Topo.Hosts : Int))) + r40)) h64) fun h64 => ?_
            refine tbo (p_oload (e1 := fun x : Int => (vi x)) (c := cI) (fun _ => rfl) s25 (wr ((wr ((wr (Int.tdiv (i29 : Int) 16)) * (List.length a0.Topo.Hosts : Int))) + r40)) (fun _ => rfl)) fun r56 => ?_
            refine tb (x := (vi (wr (r56 + 1)))) (d_add) ?_
            refine tneed (x := V.any) (fun h63 => p_inB s25 (wr ((wr ((wr (Int.tdiv (i29 : Int) 16)) * (List.length a0.Topo.Hosts : Int))) + r40)) h63) fun h63 => ?_
            refine tb (x := cI (wr (r56 + 1))) rfl ?_
            refine tbo (p_oset (c := cI) (fun _ => rfl) s25 (wr ((wr ((wr (Int.tdiv (i29 : Int) 16)) * (List.length a0.Topo.Hosts : Int))) + r40)) (wr (r56 + 1))) fun r62 => ?_
            exact rf_j rfl
          · exact rf_j rfl
        · refine tb (x := (vi ((i29 : Int) + 1))) (p_incN h32) ?_
          exact h27 (s44)
      · refine tb (x := (vb (decide ((List.length r15 : Int) < (List.length r15 : Int))))) (d_lss) ?_
        refine tcond_f h65 ?_
        exact rf_j rfl
    · refine tb (x := (V.sl (List.map cI s19))) (p_frz (c := cI) (fun _ => rfl) s19) ?_
      exact rf_ret rfl

/-! railpoint/railsame.Ints -/
def an_railsame_Ints : Ann := .seq (.reg 0 [] [] []) (.seq (.seq (.reg 0 [] [] []) (.cond none (.seq (.reg 0 [] [] []) (.no)) (.no))) (.seq (.seq (.reg 0 [] [] []) (.blk (some []) (.loop [.s 5] (.seq (.seq (.reg 0 [] [] []) (.cond none (.no) (.no))) (.seq (.blk none (.seq (.reg 9 [] [] []) (.cond none (.seq (.reg 0 [] [] []) (.no)) (.no)))) (.reg 0 [] [] [])))))) (.seq (.reg 0 [] [] []) (.no))))
noncomputable def sem_railsame_Ints (n : Nat) (xs : List V) : Option V := if xs.length ≤ 26 then denF Tryd.prog (envOf []) n Tryd.f15 an_railsame_Ints xs else none
theorem ok_railsame_Ints (n : Nat) : SemOk Tryd.prog DW 15 (sem_railsame_Ints n) := fun xs y h => by
  unfold sem_railsame_Ints at h
  split at h
  · rename_i hl
    exact denF_ok stb Tryd.func15 (by kernel_rfl) (envOf_ok semsOk_nil) (by rw [Tryd.ntmps15]; exact hl) h
  · cases h
theorem eq_railsame_Ints (n : Nat) (x0 x1 : V) : sem_railsame_Ints n [x0, x1] =
 (lenS [x0]).bind fun v1 =>
 (lenS [x1]).bind fun v2 =>
 (bin2 Tryd.prog BinOp.neq 3 (ot 7) (ot 9) v1 v2).bind fun v3 =>
 condV v3 (
 some (vb false)) (
 JoinPt (fun vs4 =>
 some (vb true)) fun J5 =>
 (fixN (fun rec6 vs7 =>
 (lenS [x0]).bind fun v8 =>
 (bin2 Tryd.prog BinOp.lss 3 (ot 11) (ot 13) (List.getD vs7 0 V.any) v8).bind fun v9 =>
 condV v9 (
 (idxS 1 x0 (List.getD vs7 0 V.any)).bind fun v10 =>
 (ldp none v10).bind fun v11 =>
 (idxS 1 x1 (List.getD vs7 0 V.any)).bind fun v12 =>
 (ldp none v12).bind fun v13 =>
 (bin2 Tryd.prog BinOp.neq 3 (ot 20) (ot 24) v11 v13).bind fun v14 =>
 condV v14 (
 some (vb false)) (
 (bin2 Tryd.prog BinOp.add 3 (ot 15) (oc 1) (List.getD vs7 0 V.any) (vi 1)).bind fun v15 =>
 rec6 [v15])) (
 J5 [])) n) [(vi 0)]) := by kernel_rfl
noncomputable def t_railsame_Ints (a0 : (List Int)) (a1 : (List Int)) : Option Bool :=
 if (decide ((List.length a0 : Int) ≠ (List.length a1 : Int))) = true then (
 some false) else (
 join (fun (s7 : Unit) =>
 some true) fun j8 =>
 loopI a0 (fun (i16 : Int) x17 (s12 : Unit) k13 =>
 (idx a1 i16).bind fun r26 =>
 if (decide (x17 ≠ r26)) = true then (
 some false) else (
 k13 ())) (fun (s12 : Unit) =>
 j8 ()) ())
theorem ty_railsame_Ints {n : Nat} (hn : bigN ≤ n) (a0 : (List Int)) (a1 : (List Int)) : Rv (fun x : Bool => (vb x)) (sem_railsame_Ints n [(V.sl (List.map cI a0)), (V.sl (List.map cI a1))]) (t_railsame_Ints a0 a1) := by
  rw [eq_railsame_Ints]
  unfold t_railsame_Ints
  refine tb (x := (vi (List.length a0 : Int))) (p_len _) ?_
  refine tb (x := (vi (List.length a1 : Int))) (p_len _) ?_
  refine tb (x := (vb (decide ((List.length a0 : Int) ≠ (List.length a1 : Int))))) (d_neq) ?_
  refine tcond (fun h4 => ?_) (fun h4 => ?_)
  · exact rf_ret rfl
  · refine tjoin (mk := fun s7 : Unit => []) (fun s7 => ?_) fun J6 j8 h9 => ?_
    · exact rf_ret rfl
    · refine rf_loopI (mk := fun (i16 : Int) (s12 : Unit) => [(vi (i16 : Int))]) hn a0 () (fun i16 x17 h18 h19 h20 s12 rec10 k13 h14 => ?_) (fun s12 rec32 h31 => ?_)
      · refine tb (x := (vi (List.length a0 : Int))) (p_len _) ?_
        refine tb (x := (vb (decide ((i16 : Int) < (List.length a0 : Int))))) (d_lss) ?_
        refine tcond_t h20 ?_
        refine tb (x := (V.ptr [(vi x17)])) (p_idx_at (c := cI) (fun _ => rfl) h18) ?_
        refine tb (x := (vi x17)) (rfl) ?_
        refine tbo (p_idx (c := cI) (fun _ => rfl) a1 (i16 : Int)) fun r26 => ?_
        refine tb (x := (vi r26)) (rfl) ?_
        refine tb (x := (vb (decide (x17 ≠ r26)))) (d_neq) ?_
        refine tcond (fun h29 => ?_) (fun h29 => ?_)
        · exact rf_ret rfl
        · refine tb (x := (vi ((i16 : Int) + 1))) (p_incN h19) ?_
          exact h14 ()
      · refine tb (x := (vi (List.length a0 : Int))) (p_len _) ?_
        refine tb (x := (vb (decide ((List.length a0 : Int) < (List.length a0 : Int))))) (d_lss) ?_
        refine tcond_f h31 ?_
        exact h9 ()

/-! railpoint/railsame.Lists -/
def an_railsame_Lists : Ann := .seq (.reg 0 [] [] []) (.seq (.seq (.reg 0 [] [] []) (.cond none (.seq (.reg 0 [] [] []) (.no)) (.no))) (.seq (.seq (.reg 0 [] [] []) (.blk (some []) (.loop [.s 5] (.seq (.seq (.reg 0 [] [] []) (.cond none (.no) (.no))) (.seq (.blk none (.seq (.reg 10 [] [] []) (.seq (.reg 0 [] [] []) (.cond none (.seq (.reg 0 [] [] []) (.no)) (.no))))) (.reg 0 [] [] [])))))) (.seq (.reg 0 [] [] []) (.no))))
noncomputable def sem_railsame_Lists (n : Nat) (xs : List V) : Option V := if xs.length ≤ 29 then denF Tryd.prog (envOf [(15, (sem_railsame_Ints n))]) n Tryd.f16 an_railsame_Lists xs else none
theorem ok_railsame_Lists (n : Nat) : SemOk Tryd.prog DW 16 (sem_railsame_Lists n) := fun xs y h => by
  unfold sem_railsame_Lists at h
  split at h
  · rename_i hl
    exact denF_ok stb Tryd.func16 (by kernel_rfl) (envOf_ok (semsOk_cons (ok_railsame_Ints n) semsOk_nil)) (by rw [Tryd.ntmps16]; exact hl) h
  · cases h
theorem eq_railsame_Lists (n : Nat) (x0 x1 : V) : sem_railsame_Lists n [x0, x1] =
 (lenS [x0]).bind fun v1 =>
 (lenS [x1]).bind fun v2 =>
 (bin2 Tryd.prog BinOp.neq 3 (ot 8) (ot 10) v1 v2).bind fun v3 =>
 condV v3 (
 some (vb false)) (
 JoinPt (fun vs4 =>
 some (vb true)) fun J5 =>
 (fixN (fun rec6 vs7 =>
 (lenS [x0]).bind fun v8 =>
 (bin2 Tryd.prog BinOp.lss 3 (ot 12) (ot 14) (List.getD vs7 0 V.any) v8).bind fun v9 =>
 condV v9 (
 (idxS 1 x0 (List.getD vs7 0 V.any)).bind fun v10 =>
 (ldp none v10).bind fun v11 =>
 (idxS 1 x1 (List.getD vs7 0 V.any)).bind fun v12 =>
 (ldp none v12).bind fun v13 =>
 ((sem_railsame_Ints n) [v11, v13]).bind fun v14 =>
 (scal1 Tryd.prog (Op.unary Go.UnOp.not) v14).bind fun v15 =>
 condV v15 (
 some (vb false)) (
 (bin2 Tryd.prog BinOp.add 3 (ot 16) (oc 1) (List.getD vs7 0 V.any) (vi 1)).bind fun v16 =>
 rec6 [v16])) (
 J5 [])) n) [(vi 0)]) := by kernel_rfl
noncomputable def t_railsame_Lists (a0 : (List (List Int))) (a1 : (List (List Int))) : Option Bool :=
 if (decide ((List.length a0 : Int) ≠ (List.length a1 : Int))) = true then (
 some false) else (
 join (fun (s7 : Unit) =>
 some true) fun j8 =>
 loopI a0 (fun (i16 : Int) x17 (s12 : Unit) k13 =>
 (idx a1 i16).bind fun r26 =>
 (t_railsame_Ints x17 r26).bind fun r29 =>
 if (!r29) = true then (
 some false) else (
 k13 ())) (fun (s12 : Unit) =>
 j8 ()) ())
theorem ty_railsame_Lists {n : Nat} (hn : bigN ≤ n) (a0 : (List (List Int))) (a1 : (List (List Int))) : Rv (fun x : Bool => (vb x)) (sem_railsame_Lists n [(V.sl (List.map (cS cI) a0)), (V.sl (List.map (cS cI) a1))]) (t_railsame_Lists a0 a1) := by
  rw [eq_railsame_Lists]
  unfold t_railsame_Lists
  refine tb (x := (vi (List.length a0 : Int))) (p_len _) ?_
  refine tb (x := (vi (List.length a1 : Int))) (p_len _) ?_
  refine tb (x := (vb (decide ((List.length a0 : Int) ≠ (List.length a1 : Int))))) (d_neq) ?_
  refine tcond (fun h4 => ?_) (fun h4 => ?_)
  · exact rf_ret rfl
  · refine tjoin (mk := fun s7 : Unit => []) (fun s7 => ?_) fun J6 j8 h9 => ?_
    · exact rf_ret rfl
    · refine rf_loopI (mk := fun (i16 : Int) (s12 : Unit) => [(vi (i16 : Int))]) hn a0 () (fun i16 x17 h18 h19 h20 s12 rec10 k13 h14 => ?_) (fun s12 rec34 h33 => ?_)
      · refine tb (x := (vi (List.length a0 : Int))) (p_len _) ?_
        refine tb (x := (vb (decide ((i16 : Int) < (List.length a0 : Int))))) (d_lss) ?_
        refine tcond_t h20 ?_
        refine tb (x := (V.ptr [(V.sl (List.map cI x17))])) (p_idx_at (c := (cS cI)) (fun _ => rfl) h18) ?_
        refine tb (x := (V.sl (List.map cI x17))) (rfl) ?_
        refine tbo (p_idx (c := (cS cI)) (fun _ => rfl) a1 (i16 : Int)) fun r26 => ?_
        refine tb (x := (V.sl (List.map cI r26))) (rfl) ?_
        refine tbo (ty_railsame_Ints hn x17 r26) fun r29 => ?_
        refine tb (x := (vb (!r29))) (d_not) ?_
        refine tcond (fun h31 => ?_) (fun h31 => ?_)
        · exact rf_ret rfl
        · refine tb (x := (vi ((i16 : Int) + 1))) (p_incN h19) ?_
          exact h14 ()
      · refine tb (x := (vi (List.length a0 : Int))) (p_len _) ?_
        refine tb (x := (vb (decide ((List.length a0 : Int) < (List.length a0 : Int))))) (d_lss) ?_
        refine tcond_f h33 ?_
        exact h9 ()

/-! railpoint/railsame.Ops -/
def an_railsame_Ops : Ann := .seq (.reg 0 [] [] []) (.seq (.seq (.reg 0 [] [] []) (.cond none (.seq (.reg 0 [] [] []) (.no)) (.no))) (.seq (.seq (.reg 0 [] [] []) (.blk (some []) (.loop [.s 5] (.seq (.seq (.reg 0 [] [] []) (.cond none (.no) (.no))) (.seq (.blk none (.seq (.reg 9 [] [] []) (.cond none (.seq (.reg 0 [] [] []) (.no)) (.no)))) (.reg 0 [] [] [])))))) (.seq (.reg 0 [] [] []) (.no))))
noncomputable def sem_railsame_Ops (n : Nat) (xs : List V) : Option V := if xs.length ≤ 26 then denF Tryd.prog (envOf []) n Tryd.f17 an_railsame_Ops xs else none
theorem ok_railsame_Ops (n : Nat) : SemOk Tryd.prog DW 17 (sem_railsame_Ops n) := fun xs y h => by
  unfold sem_railsame_Ops at h
  split at h
  · rename_i hl
    exact denF_ok stb Tryd.func17 (by kernel_rfl) (envOf_ok semsOk_nil) (by rw [Tryd.ntmps17]; exact hl) h
  · cases h
theorem eq_railsame_Ops (n : Nat) (x0 x1 : V) : sem_railsame_Ops n [x0, x1] =
 (lenS [x0]).bind fun v1 =>
 (lenS [x1]).bind fun v2 =>
 (bin2 Tryd.prog BinOp.neq 3 (ot 7) (ot 9) v1 v2).bind fun v3 =>
 condV v3 (
 some (vb false)) (
 JoinPt (fun vs4 =>
 some (vb true)) fun J5 =>
 (fixN (fun rec6 vs7 =>
 (lenS [x0]).bind fun v8 =>
 (bin2 Tryd.prog BinOp.lss 3 (ot 11) (ot 13) (List.getD vs7 0 V.any) v8).bind fun v9 =>
 condV v9 (
 (idxS 8 x0 (List.getD vs7 0 V.any)).bind fun v10 =>
 (ldp (some 8) v10).bind fun v11 =>
 (idxS 8 x1 (List.getD vs7 0 V.any)).bind fun v12 =>
 (ldp (some 8) v12).bind fun v13 =>
 (bin2 Tryd.prog BinOp.neq 51 (ot 20) (ot 24) v11 v13).bind fun v14 =>
 condV v14 (
 some (vb false)) (
 (bin2 Tryd.prog BinOp.add 3 (ot 15) (oc 1) (List.getD vs7 0 V.any) (vi 1)).bind fun v15 =>
 rec6 [v15])) (
 J5 [])) n) [(vi 0)]) := by kernel_rfl
noncomputable def t_railsame_Ops (a0 : (List T_Op)) (a1 : (List T_Op)) : Option Bool :=
 if (decide ((List.length a0 : Int) ≠ (List.length a1 : Int))) = true then (
 some false) else (
 join (fun (s7 : Unit) =>
 some true) fun j8 =>
 loopI a0 (fun (i16 : Int) x17 (s12 : Unit) k13 =>
 (idx a1 i16).bind fun r26 =>
 if (!decide (x17 = r26)) = true then (
 some false) else (
 k13 ())) (fun (s12 : Unit) =>
 j8 ()) ())
theorem ty_railsame_Ops {n : Nat} (hn : bigN ≤ n) (a0 : (List T_Op)) (a1 : (List T_Op)) : Rv (fun x : Bool => (vb x)) (sem_railsame_Ops n [(V.sl (List.map T_Op.c a0)), (V.sl (List.map T_Op.c a1))]) (t_railsame_Ops a0 a1) := by
  rw [eq_railsame_Ops]
  unfold t_railsame_Ops
  refine tb (x := (vi (List.length a0 : Int))) (p_len _) ?_
  refine tb (x := (vi (List.length a1 : Int))) (p_len _) ?_
  refine tb (x := (vb (decide ((List.length a0 : Int) ≠ (List.length a1 : Int))))) (d_neq) ?_
  refine tcond (fun h4 => ?_) (fun h4 => ?_)
  · exact rf_ret rfl
  · refine tjoin (mk := fun s7 : Unit => []) (fun s7 => ?_) fun J6 j8 h9 => ?_
    · exact rf_ret rfl
    · refine rf_loopI (mk := fun (i16 : Int) (s12 : Unit) => [(vi (i16 : Int))]) hn a0 () (fun i16 x17 h18 h19 h20 s12 rec10 k13 h14 => ?_) (fun s12 rec32 h31 => ?_)
      · refine tb (x := (vi (List.length a0 : Int))) (p_len _) ?_
        refine tb (x := (vb (decide ((i16 : Int) < (List.length a0 : Int))))) (d_lss) ?_
        refine tcond_t h20 ?_
        refine tb (x := (V.ptr (T_Op.c x17))) (p_idx_at (c := T_Op.c) (fun _ => rfl) h18) ?_
        refine tb (x := (T_Op.e x17)) (rfl) ?_
        refine tbo (p_idx (c := T_Op.c) (fun _ => rfl) a1 (i16 : Int)) fun r26 => ?_
        refine tb (x := (T_Op.e r26)) (rfl) ?_
        refine tb (x := (vb (!decide (x17 = r26)))) (T_Op.neq x17 r26) ?_
        refine tcond (fun h29 => ?_) (fun h29 => ?_)
        · exact rf_ret rfl
        · refine tb (x := (vi ((i16 : Int) + 1))) (p_incN h19) ?_
          exact h14 ()
      · refine tb (x := (vi (List.length a0 : Int))) (p_len _) ?_
        refine tb (x := (vb (decide ((List.length a0 : Int) < (List.length a0 : Int))))) (d_lss) ?_
        refine tcond_f h31 ?_
        exact h9 ()

/-! railpoint/raillaw3.LoadTells -/
def an_raillaw3_LoadTells : Ann := .seq (.reg 0 [] [] []) (.seq (.reg 0 [] [] []) (.seq (.reg 0 [] [] []) (.seq (.reg 0 [] [] []) (.seq (.reg 0 [] [] []) (.seq (.reg 0 [] [] [1000007]) (.seq (.seq (.reg 0 [] [] []) (.cond (some [.kb 1, .s 4, .s 5, .s 6, .n 7 1]) (.seq (.reg 0 [] [] []) (.seq (.reg 0 [] [] []) (.seq (.reg 0 [] [] []) (.seq (.reg 0 [] [] []) (.seq (.seq (.reg 0 [] [] []) (.blk (some [.kb 1, .ko 7, .s 5, .s 6]) (.loop [.kb 1, .ko 7, .r 5 30, .r 6 51, .s 10] (.seq (.seq (.reg 0 [] [] []) (.cond none (.no) (.no))) (.seq (.blk (some [.kb 1, .ko 7, .r 5 30, .r 6 51]) (.seq (.reg 0 [] [] []) (.seq (.seq (.reg 0 [] [] []) (.blk (some [.kb 1, .ko 7, .r 5 30, .r 6 51, .o 11]) (.loop [.kb 1, .ko 7, .r 5 30, .r 6 51, .o 11, .s 12] (.seq (.seq (.reg 0 [] [] []) (.cond none (.no) (.no))) (.seq (.blk (some [.kb 1, .ko 7, .r 5 30, .r 6 51, .o 11]) (.seq (.reg 0 [] [] []) (.blk (some [.kb 1, .ko 7, .r 5 30, .r 6 51, .o 11]) (.loop [.kb 1, .ko 7, .r 5 30, .r 6 51, .o 11, .s 13] (.seq (.seq (.reg 0 [] [] []) (.cond none (.no) (.no))) (.seq (.blk none (.seq (.reg 16 [] [] []) (.seq (.reg 0 [] [] []) (.cond (some [.kb 1, .ko 7, .r 5 30, .r 6 51, .o 11]) (.reg 0 [] [] []) (.no))))) (.reg 0 [] [] []))))))) (.reg 0 [] [] [])))))) (.seq (.reg 0 [11] [] []) (.seq (.reg 0 [] [] []) (.blk (some [.kb 1, .ko 7, .r 5 30, .r 6 51]) (.loop [.kb 1, .ko 7, .r 5 30, .r 6 51, .s 15] (.seq (.seq (.reg 0 [] [] []) (.cond none (.no) (.no))) (.seq (.blk none (.seq (.reg 0 [] [] []) (.cond (some [.kb 1, .ko 7, .r 5 30, .r 6 51]) (.reg 0 [] [] []) (.no)))) (.reg 0 [] [] [])))))))))) (.reg 0 [] [] [])))))) (.seq (.reg 0 [] [] []) (.blk (some [.kb 1, .s 5, .s 6, .o 7]) (.loop [.kb 1, .s 5, .s 6, .o 7, .s 16] (.seq (.seq (.reg 0 [] [] []) (.cond none (.no) (.no))) (.seq (.blk none (.seq (.reg 9 [] [] []) (.seq (.reg 0 [] [] []) (.cond (some [.kb 1, .s 5, .s 6, .o 7]) (.seq (.reg 0 [] [] []) (.reg 0 [] [] [])) (.no))))) (.reg 0 [] [] []))))))))))) (.no))) (.seq (.reg 0 [] [] []) (.seq (.reg 0 [] [] []) (.seq (.reg 0 [] [] []) (.seq (.reg 0 [] [] []) (.seq (.reg 0 [] [] []) (.seq (.reg 0 [] [] []) (.seq (.reg 0 [] [] []) (.seq (.reg 0 [] [] []) (.seq (.reg 0 [] [] []) (.seq (.reg 0 [] [] []) (.seq (.reg 0 [] [] []) (.seq (.reg 0 [7] [] []) (.seq (.reg 0 [] [] []) (.no))))))))))))))))))))
noncomputable def sem_raillaw3_LoadTells (n : Nat) (xs : List V) : Option V := if xs.length ≤ 253 then denF Tryd.prog (envOf [(5, (sem_railref1_Net n)), (6, (sem_railref2_All n)), (7, (sem_railref2_Links n)), (8, (sem_railref1_Find n)), (9, (sem_railref1_Named n)), (10, (sem_load_Links n)), (11, (sem_Error n)), (12, (sem_load_Rules n)), (13, (sem_load_Unused n)), (14, (sem_load_Pairs n)), (15, (sem_railsame_Ints n)), (16, (sem_railsame_Lists n)), (17, (sem_railsame_Ops n))]) n Tryd.f3 an_raillaw3_LoadTells xs else none
theorem ok_raillaw3_LoadTells (n : Nat) : SemOk Tryd.prog DW 3 (sem_raillaw3_LoadTells n) := fun xs y h => by
  unfold sem_raillaw3_LoadTells at h
  split at h
  · rename_i hl
    exact denF_ok stb Tryd.func3 (by kernel_rfl) (envOf_ok (semsOk_cons (ok_railref1_Net n) (semsOk_cons (ok_railref2_All n) (semsOk_cons (ok_railref2_Links n) (semsOk_cons (ok_railref1_Find n) (semsOk_cons (ok_railref1_Named n) (semsOk_cons (ok_load_Links n) (semsOk_cons (ok_Error n) (semsOk_cons (ok_load_Rules n) (semsOk_cons (ok_load_Unused n) (semsOk_cons (ok_load_Pairs n) (semsOk_cons (ok_railsame_Ints n) (semsOk_cons (ok_railsame_Lists n) (semsOk_cons (ok_railsame_Ops n) semsOk_nil)))))))))))))) (by rw [Tryd.ntmps3]; exact hl) h
  · cases h
theorem eq_raillaw3_LoadTells (n : Nat) (x0 : V) : sem_raillaw3_LoadTells n [x0] =
 (V.cellsO x0).bind fun v1 =>
 (ldk (some 4) (List.drop 0 v1)).bind fun v2 =>
 ((sem_railref1_Net n) [v2]).bind fun v3 =>
 (bin2 Tryd.prog BinOp.eql 3 (ot 34) (oc 0) v3 (vi 0)).bind fun v4 =>
 JoinPt (fun vs5 =>
 (ldk (some 4) (List.drop 0 v1)).bind fun v7 =>
 ((sem_load_Links n) [v7]).bind fun v8 =>
 (extractV v8 0).bind fun v9 =>
 (extractV v8 1).bind fun v10 =>
 ((sem_Error n) [v10, v3]).bind fun v11 =>
 (ldk (some 4) (List.drop 0 v1)).bind fun v12 =>
 ((sem_load_Rules n) [v12]).bind fun v13 =>
 (extractV v13 0).bind fun v14 =>
 (extractV v13 1).bind fun v15 =>
 ((sem_Error n) [v15, v3]).bind fun v16 =>
 (ldk (some 4) (List.drop 0 v1)).bind fun v17 =>
 ((sem_load_Unused n) [v17]).bind fun v18 =>
 (extractV v18 0).bind fun v19 =>
 (extractV v18 1).bind fun v20 =>
 ((sem_Error n) [v20, v3]).bind fun v21 =>
 (ldk (some 4) (List.drop 0 v1)).bind fun v22 =>
 ((sem_load_Pairs n) [v22]).bind fun v23 =>
 (extractV v23 0).bind fun v24 =>
 (extractV v23 1).bind fun v25 =>
 ((sem_Error n) [v25, v3]).bind fun v26 =>
 ((sem_railsame_Ints n) [v9, (List.getD vs5 0 V.any)]).bind fun v27 =>
 ((sem_railsame_Lists n) [v14, (List.getD vs5 1 V.any)]).bind fun v28 =>
 ((sem_railsame_Ops n) [v19, (List.getD vs5 2 V.any)]).bind fun v29 =>
 (some (frz (List.getD vs5 3 V.any))).bind fun v30 =>
 ((sem_railsame_Ints n) [v24, v30]).bind fun v31 =>
 (guardV v11 true (some v16)).bind fun v32 =>
 (pickV v11 v32 (vb false)).bind fun v33 =>
 (guardV v33 true (some v21)).bind fun v34 =>
 (pickV v33 v34 (vb false)).bind fun v35 =>
 (guardV v35 true (some v26)).bind fun v36 =>
 (pickV v35 v36 (vb false)).bind fun v37 =>
 (guardV v37 true (some v27)).bind fun v38 =>
 (pickV v37 v38 (vb false)).bind fun v39 =>
 (guardV v39 true (some v28)).bind fun v40 =>
 (pickV v39 v40 (vb false)).bind fun v41 =>
 (guardV v41 true (some v29)).bind fun v42 =>
 (pickV v41 v42 (vb false)).bind fun v43 =>
 (guardV v43 true (some v31)).bind fun v44 =>
 (pickV v43 v44 (vb false)).bind fun v45 =>
 some v45) fun J6 =>
 condV v4 (
 (ldk (some 4) (List.drop 0 v1)).bind fun v46 =>
 ((sem_railref2_All n) [v46]).bind fun v47 =>
 (ldk (some 3) (List.drop 0 v1)).bind fun v48 =>
 ((sem_railref2_Links n) [v48, v47]).bind fun v49 =>
 (ldk none (List.drop 2 v1)).bind fun v50 =>
 (lenS [v50]).bind fun v51 =>
 (bin2 Tryd.prog BinOp.mul 3 (ot 46) (ot 47) v51 v51).bind fun v52 =>
 (makeN 1 [(vi 0)] v52 v52).bind fun v53 =>
 JoinPt (fun vs54 =>
 JoinPt (fun vs56 =>
 (keepO (some v1) (some v1) (some [v49, (List.getD vs56 0 V.any), (List.getD vs56 1 V.any), (List.getD vs56 2 V.any)])).bind J6) fun J57 =>
 (keepO (some v1) (some v1) (some [(List.getD vs54 0 V.any), (List.getD vs54 1 V.any), v53, (vi 0)])).bind (fixN (fun rec58 vs59 =>
 (lenS [v47]).bind fun v60 =>
 (bin2 Tryd.prog BinOp.lss 3 (ot 149) (ot 151) (List.getD vs59 3 V.any) v60).bind fun v61 =>
 condV v61 (
 (ldk (some 3) (List.drop 0 v1)).bind fun v62 =>
 (idxS 3 v47 (List.getD vs59 3 V.any)).bind fun v63 =>
 (ptrF 1 v63).bind fun v64 =>
 (ldp none v64).bind fun v65 =>
 ((sem_railref1_Named n) [v62, v65]).bind fun v66 =>
 (idxS 3 v47 (List.getD vs59 3 V.any)).bind fun v67 =>
 (ptrF 0 v67).bind fun v68 =>
 (ldp none v68).bind fun v69 =>
 (bin2 Tryd.prog BinOp.eql 3 (ot 167) (oc 1) v69 (vi 1)).bind fun v70 =>
 (guardV v70 true (some v66)).bind fun v71 =>
 (guardV v70 true ((bin2 Tryd.prog BinOp.geq 3 (ot 170) (oc 0) v71 (vi 0)).bind fun v72 =>
 some v72)).bind fun v73 =>
 (pickV v70 v73 (vb false)).bind fun v74 =>
 JoinPt (fun vs75 =>
 (bin2 Tryd.prog BinOp.add 3 (ot 153) (oc 1) (List.getD vs59 3 V.any) (vi 1)).bind fun v77 =>
 (keepO (some v1) (some v1) (some [(List.getD vs75 0 V.any), (List.getD vs75 1 V.any), (List.getD vs75 2 V.any), v77])).bind rec58) fun J76 =>
 condV v74 (
 (bin2 Tryd.prog BinOp.quo 3 (ot 173) (oc 16) (List.getD vs59 3 V.any) (vi 16)).bind fun v78 =>
 (bin2 Tryd.prog BinOp.mul 3 (ot 174) (ot 175) v78 v51).bind fun v79 =>
 (bin2 Tryd.prog BinOp.add 3 (ot 176) (ot 177) v79 v66).bind fun v80 =>
 ((oslR (List.getD vs59 2 V.any)).bind fun rows81 => inB (List.length rows81) v80).bind fun v82 =>
 ((nodeL (List.getD vs59 2 V.any) (some (natOf v80)) 1).bind fun l83 => (ldk none (List.drop 0 l83)).bind pureO).bind fun v84 =>
 (bin2 Tryd.prog BinOp.add 3 (ot 184) (oc 1) v84 (vi 1)).bind fun v85 =>
 ((oslR (List.getD vs59 2 V.any)).bind fun rows86 => inB (List.length rows86) v80).bind fun v87 =>
 (V.cellsO v85).bind fun v88 =>
 (setV (List.getD vs59 2 V.any) [] (Stp.mk (some (natOf v80)) 0 1) 1 v88).bind fun v89 =>
 (keepO (some v1) (some v1) (some [(List.getD vs59 0 V.any), (List.getD vs59 1 V.any), v89])).bind J76) (
 (keepO (some v1) (some v1) (some [(List.getD vs59 0 V.any), (List.getD vs59 1 V.any), (List.getD vs59 2 V.any)])).bind J76)) (
 (keepO (some v1) (some v1) (some [(List.getD vs59 0 V.any), (List.getD vs59 1 V.any), (List.getD vs59 2 V.any)])).bind J57)) n)) fun J55 =>
 (keepO (some v1) (some v1) (keepT (some v53) (some v53) (some [(V.sl []), (V.sl []), (vi 0)]))).bind (fixN (fun rec90 vs91 =>
 (ldk none (List.drop 3 v1)).bind fun v92 =>
 (lenS [v92]).bind fun v93 =>
 (bin2 Tryd.prog BinOp.lss 3 (ot 50) (ot 53) (List.getD vs91 2 V.any) v93).bind fun v94 =>
 condV v94 (
 JoinPt (fun vs95 =>
 (bin2 Tryd.prog BinOp.add 3 (ot 55) (oc 1) (List.getD vs91 2 V.any) (vi 1)).bind fun v97 =>
 (keepO (some v1) (some v1) (keepT (some v53) (some v53) (some [(V.sl (slL (List.getD vs95 0 V.any))), (V.sl (slL (List.getD vs95 1 V.any))), v97]))).bind rec90) fun J96 =>
 (ldk none (List.drop 3 v1)).bind fun v98 =>
 (idxS 1 v98 (List.getD vs91 2 V.any)).bind fun v99 =>
 (ldp none v99).bind fun v100 =>
 (lenS [v100]).bind fun v101 =>
 (makeN 1 [(vi 0)] v101 v101).bind fun v102 =>
 JoinPt (fun vs103 =>
 (some (frz (List.getD vs103 2 V.any))).bind fun v105 =>
 (slcB 1 1 [(V.sl [])] [(0, v105)]).bind fun v106 =>
 (appV 1 (slL (List.getD vs103 0 V.any)) v106).bind fun v107 =>
 JoinPt (fun vs108 =>
 (keepO (some v1) (some v1) (keepT (some v53) (some v53) (some [(V.sl (slL (List.getD vs108 0 V.any))), (V.sl (slL (List.getD vs108 1 V.any)))]))).bind J96) fun J109 =>
 (keepO (some v1) (some v1) (keepT (some v53) (some v53) (some [(V.sl (slL v107)), (V.sl (slL (List.getD vs103 1 V.any))), (vi 0)]))).bind (fixN (fun rec110 vs111 =>
 (lenS [v105]).bind fun v112 =>
 (bin2 Tryd.prog BinOp.lss 3 (ot 124) (ot 126) (List.getD vs111 2 V.any) v112).bind fun v113 =>
 condV v113 (
 (idxS 1 v105 (List.getD vs111 2 V.any)).bind fun v114 =>
 (ldp none v114).bind fun v115 =>
 (bin2 Tryd.prog BinOp.eql 3 (ot 133) (oc 0) v115 (vi 0)).bind fun v116 =>
 JoinPt (fun vs117 =>
 (bin2 Tryd.prog BinOp.add 3 (ot 128) (oc 1) (List.getD vs111 2 V.any) (vi 1)).bind fun v119 =>
 (keepO (some v1) (some v1) (keepT (some v53) (some v53) (some [(V.sl (slL (List.getD vs117 0 V.any))), (V.sl (slL (List.getD vs117 1 V.any))), v119]))).bind rec110) fun J118 =>
 condV v116 (
 (bin2 Tryd.prog BinOp.add 3 (ot 136) (oc 1) (List.getD vs91 2 V.any) (vi 1)).bind fun v120 =>
 (ldk none (List.drop 3 v1)).bind fun v121 =>
 (idxS 1 v121 (List.getD vs91 2 V.any)).bind fun v122 =>
 (ldp none v122).bind fun v123 =>
 (idxS 6 v123 (List.getD vs111 2 V.any)).bind fun v124 =>
 (ldp (some 6) v124).bind fun v125 =>
 ((fillL [(vi 0), (vb false), (vi 0), (vi 0), (vi 0), (vi 0), (vi 0), (vi 0)] [(0, 1, v120), (2, 6, v125)]).map V.agg).bind fun v126 =>
 (slcB 8 1 [(vi 0), (vb false), (vi 0), (vi 0), (vi 0), (vi 0), (vi 0), (vi 0)] [(0, v126)]).bind fun v127 =>
 (appV 8 (slL (List.getD vs111 1 V.any)) v127).bind fun v128 =>
 (keepO (some v1) (some v1) (keepT (some v53) (some v53) (some [(V.sl (slL (List.getD vs111 0 V.any))), (V.sl (slL v128))]))).bind J118) (
 (keepO (some v1) (some v1) (keepT (some v53) (some v53) (some [(V.sl (slL (List.getD vs111 0 V.any))), (V.sl (slL (List.getD vs111 1 V.any)))]))).bind J118)) (
 (keepO (some v1) (some v1) (keepT (some v53) (some v53) (some [(V.sl (slL (List.getD vs111 0 V.any))), (V.sl (slL (List.getD vs111 1 V.any)))]))).bind J109)) n)) fun J104 =>
 (keepO (some v1) (some v1) (keepT (some v53) (some v53) (some [(V.sl (slL (List.getD vs91 0 V.any))), (V.sl (slL (List.getD vs91 1 V.any))), v102, (vi 0)]))).bind (fixN (fun rec129 vs130 =>
 (lenS [v47]).bind fun v131 =>
 (bin2 Tryd.prog BinOp.lss 3 (ot 64) (ot 66) (List.getD vs130 3 V.any) v131).bind fun v132 =>
 condV v132 (
 JoinPt (fun vs133 =>
 (bin2 Tryd.prog BinOp.add 3 (ot 68) (oc 1) (List.getD vs130 3 V.any) (vi 1)).bind fun v135 =>
 (keepO (some v1) (some v1) (keepT (some v53) (some v53) (some [(V.sl (slL (List.getD vs133 0 V.any))), (V.sl (slL (List.getD vs133 1 V.any))), (List.getD vs133 2 V.any), v135]))).bind rec129) fun J134 =>
 JoinPt (fun vs136 =>
 (keepO (some v1) (some v1) (keepT (some v53) (some v53) (some [(V.sl (slL (List.getD vs136 0 V.any))), (V.sl (slL (List.getD vs136 1 V.any))), (List.getD vs136 2 V.any)]))).bind J134) fun J137 =>
 (keepO (some v1) (some v1) (keepT (some v53) (some v53) (some [(V.sl (slL (List.getD vs130 0 V.any))), (V.sl (slL (List.getD vs130 1 V.any))), (List.getD vs130 2 V.any), (vi 0)]))).bind (fixN (fun rec138 vs139 =>
 (idxS 3 v47 (List.getD vs130 3 V.any)).bind fun v140 =>
 (ptrF 2 v140).bind fun v141 =>
 (ldp none v141).bind fun v142 =>
 (lenS [v142]).bind fun v143 =>
 (bin2 Tryd.prog BinOp.lss 3 (ot 70) (ot 76) (List.getD vs139 3 V.any) v143).bind fun v144 =>
 condV v144 (
 (ldk none (List.drop 3 v1)).bind fun v145 =>
 (idxS 1 v145 (List.getD vs91 2 V.any)).bind fun v146 =>
 (ldp none v146).bind fun v147 =>
 (idxS 3 v47 (List.getD vs130 3 V.any)).bind fun v148 =>
 (ptrF 2 v148).bind fun v149 =>
 (ldp none v149).bind fun v150 =>
 (idxS 3 v150 (List.getD vs139 3 V.any)).bind fun v151 =>
 (ptrF 2 v151).bind fun v152 =>
 (ldp none v152).bind fun v153 =>
 ((sem_railref1_Find n) [v147, v153]).bind fun v154 =>
 (idxS 3 v47 (List.getD vs130 3 V.any)).bind fun v155 =>
 (ptrF 2 v155).bind fun v156 =>
 (ldp none v156).bind fun v157 =>
 (idxS 3 v157 (List.getD vs139 3 V.any)).bind fun v158 =>
 (ptrF 0 v158).bind fun v159 =>
 (ptrF 0 v159).bind fun v160 =>
 (ldp none v160).bind fun v161 =>
 (bin2 Tryd.prog BinOp.add 3 (ot 105) (oc 1) (List.getD vs91 2 V.any) (vi 1)).bind fun v162 =>
 (bin2 Tryd.prog BinOp.eql 3 (ot 104) (ot 106) v161 v162).bind fun v163 =>
 (guardV v163 true (some v154)).bind fun v164 =>
 (guardV v163 true ((bin2 Tryd.prog BinOp.geq 3 (ot 109) (oc 0) v164 (vi 0)).bind fun v165 =>
 some v165)).bind fun v166 =>
 (pickV v163 v166 (vb false)).bind fun v167 =>
 JoinPt (fun vs168 =>
 (bin2 Tryd.prog BinOp.add 3 (ot 78) (oc 1) (List.getD vs139 3 V.any) (vi 1)).bind fun v170 =>
 (keepO (some v1) (some v1) (keepT (some v53) (some v53) (some [(V.sl (slL (List.getD vs168 0 V.any))), (V.sl (slL (List.getD vs168 1 V.any))), (List.getD vs168 2 V.any), v170]))).bind rec138) fun J169 =>
 condV v167 (
 ((oslR (List.getD vs139 2 V.any)).bind fun rows171 => inB (List.length rows171) v154).bind fun v172 =>
 ((nodeL (List.getD vs139 2 V.any) (some (natOf v154)) 1).bind fun l173 => (ldk none (List.drop 0 l173)).bind pureO).bind fun v174 =>
 (bin2 Tryd.prog BinOp.add 3 (ot 117) (oc 1) v174 (vi 1)).bind fun v175 =>
 ((oslR (List.getD vs139 2 V.any)).bind fun rows176 => inB (List.length rows176) v154).bind fun v177 =>
 (V.cellsO v175).bind fun v178 =>
 (setV (List.getD vs139 2 V.any) [] (Stp.mk (some (natOf v154)) 0 1) 1 v178).bind fun v179 =>
 (keepO (some v1) (some v1) (keepT (some v53) (some v53) (some [(V.sl (slL (List.getD vs139 0 V.any))), (V.sl (slL (List.getD vs139 1 V.any))), v179]))).bind J169) (
 (keepO (some v1) (some v1) (keepT (some v53) (some v53) (some [(V.sl (slL (List.getD vs139 0 V.any))), (V.sl (slL (List.getD vs139 1 V.any))), (List.getD vs139 2 V.any)]))).bind J169)) (
 (keepO (some v1) (some v1) (keepT (some v53) (some v53) (some [(V.sl (slL (List.getD vs139 0 V.any))), (V.sl (slL (List.getD vs139 1 V.any))), (List.getD vs139 2 V.any)]))).bind J137)) n)) (
 (keepO (some v1) (some v1) (keepT (some v53) (some v53) (some [(V.sl (slL (List.getD vs130 0 V.any))), (V.sl (slL (List.getD vs130 1 V.any))), (List.getD vs130 2 V.any)]))).bind J104)) n)) (
 (keepO (some v1) (some v1) (keepT (some v53) (some v53) (some [(V.sl (slL (List.getD vs91 0 V.any))), (V.sl (slL (List.getD vs91 1 V.any)))]))).bind J55)) n)) (
 (keepO (some v1) (some v1) (some [(V.sl []), (V.sl []), (V.sl []), (V.osl 1 [])])).bind J6) := by kernel_rfl
noncomputable def t_raillaw3_LoadTells (a0 : T_Net) : Option Bool :=
 (t_railref1_Net a0).bind fun r4 =>
 (if (decide (r4 = 0)) = true then (
 (t_railref2_All a0).bind fun r72 =>
 (t_railref2_Links a0.Topo r72).bind fun r75 =>
 (omake (wr ((List.length a0.Topo.Hosts : Int) * (List.length a0.Topo.Hosts : Int))) (wr ((List.length a0.Topo.Hosts : Int) * (List.length a0.Topo.Hosts : Int))) 0).bind fun r80 =>
 (loopI a0.Tables (fun (i152 : Int) x153 (s148 : ((List (List Int)) × (List T_Op))) k149 =>
 ((omake (List.length x153 : Int) (List.length x153 : Int) 0).bind fun r171 =>
 (loopI r72 (fun (i230 : Int) x231 (s226 : ((List (List Int)) × (List T_Op) × (List Int))) k227 =>
 ((loopI x231.Hops (fun (i254 : Int) x255 (s250 : ((List (List Int)) × (List T_Op) × (List Int))) k251 =>
 (t_railref1_Find x153 x255.Header).bind fun r274 =>
 (if ((decide (x255.At.Switch = (i152 + 1))) && (decide (0 ≤ r274))) = true then (
 need (decide (0 ≤ r274) && decide (r274 < (List.length s250.2.2 : Int))) (
 (idx s250.2.2 r274).bind fun r300 =>
 need (decide (0 ≤ r274) && decide (r274 < (List.length s250.2.2 : Int))) (
 (oset s250.2.2 r274 (wr (r300 + 1))).bind fun r306 =>
 some (s250.1, s250.2.1, r306)))) else (
 some (s250.1, s250.2.1, s250.2.2))).bind fun (s292 : ((List (List Int)) × (List T_Op) × (List Int))) =>
 k251 (s292.1, s292.2.1, s292.2.2)) (fun (s250 : ((List (List Int)) × (List T_Op) × (List Int))) =>
 some (s250.1, s250.2.1, s250.2.2)) (s226.1, s226.2.1, s226.2.2)).bind fun (s245 : ((List (List Int)) × (List T_Op) × (List Int))) =>
 some (s245.1, s245.2.1, s245.2.2)).bind fun (s239 : ((List (List Int)) × (List T_Op) × (List Int))) =>
 k227 (s239.1, s239.2.1, s239.2.2)) (fun (s226 : ((List (List Int)) × (List T_Op) × (List Int))) =>
 some (s226.1, s226.2.1, s226.2.2)) (s148.1, s148.2, r171)).bind fun (s174 : ((List (List Int)) × (List T_Op) × (List Int))) =>
 (app s174.1 ([s174.2.2] : (List (List Int)))).bind fun r180 =>
 (loopI s174.2.2 (fun (i192 : Int) x193 (s188 : ((List (List Int)) × (List T_Op))) k189 =>
 (if (decide (x193 = 0)) = true then (
 (idx x153 i192).bind fun r214 =>
 (app s188.2 ([(T_Op.mk (i152 + 1) false r214)] : (List T_Op))).bind fun r219 =>
 some (s188.1, r219)) else (
 some (s188.1, s188.2))).bind fun (s204 : ((List (List Int)) × (List T_Op))) =>
 k189 (s204.1, s204.2)) (fun (s188 : ((List (List Int)) × (List T_Op))) =>
 some (s188.1, s188.2)) (r180, s174.2.1)).bind fun (s183 : ((List (List Int)) × (List T_Op))) =>
 some (s183.1, s183.2)).bind fun (s162 : ((List (List Int)) × (List T_Op))) =>
 k149 (s162.1, s162.2)) (fun (s148 : ((List (List Int)) × (List T_Op))) =>
 some (s148.1, s148.2)) ([], [])).bind fun (s83 : ((List (List Int)) × (List T_Op))) =>
 (loopI r72 (fun (i97 : Int) x98 (s93 : ((List (List Int)) × (List T_Op) × (List Int))) k94 =>
 (t_railref1_Named a0.Topo x98.Host).bind fun r109 =>
 (if ((decide (x98.How = 1)) && (decide (0 ≤ r109))) = true then (
 need (decide (0 ≤ (wr ((wr ((wr (Int.tdiv i97 16)) * (List.length a0.Topo.Hosts : Int))) + r109))) && decide ((wr ((wr ((wr (Int.tdiv i97 16)) * (List.length a0.Topo.Hosts : Int))) + r109)) < (List.length s93.2.2 : Int))) (
 (idx s93.2.2 (wr ((wr ((wr (Int.tdiv i97 16)) * (List.length a0.Topo.Hosts : Int))) + r109))).bind fun r133 =>
 need (decide (0 ≤ (wr ((wr ((wr (Int.tdiv i97 16)) * (List.length a0.Topo.Hosts : Int))) + r109))) && decide ((wr ((wr ((wr (Int.tdiv i97 16)) * (List.length a0.Topo.Hosts : Int))) + r109)) < (List.length s93.2.2 : Int))) (
 (oset s93.2.2 (wr ((wr ((wr (Int.tdiv i97 16)) * (List.length a0.Topo.Hosts : Int))) + r109)) (wr (r133 + 1))).bind fun r139 =>
 some (s93.1, s93.2.1, r139)))) else (
 some (s93.1, s93.2.1, s93.2.2))).bind fun (s122 : ((List (List Int)) × (List T_Op) × (List Int))) =>
 k94 (s122.1, s122.2.1, s122.2.2)) (fun (s93 : ((List (List Int)) × (List T_Op) × (List Int))) =>
 some (s93.1, s93.2.1, s93.2.2)) (s83.1, s83.2, r80)).bind fun (s88 : ((List (List Int)) × (List T_Op) × (List Int))) =>
 some (r75, s88.1, s88.2.1, s88.2.2)) else (
 some ([], [], [], ([] : (List Int))))).bind fun (s8 : ((List Int) × (List (List Int)) × (List T_Op) × (List Int))) =>
 (t_load_Links a0).bind fun r13 =>
 (t_railsame_Error r13.2 r4).bind fun r17 =>
 (t_load_Rules a0).bind fun r20 =>
 (t_railsame_Error r20.2 r4).bind fun r24 =>
 (t_load_Unused a0).bind fun r27 =>
 (t_railsame_Error r27.2 r4).bind fun r31 =>
 (t_load_Pairs a0).bind fun r34 =>
 (t_railsame_Error r34.2 r4).bind fun r38 =>
 (t_railsame_Ints r13.1 s8.1).bind fun r40 =>
 (t_railsame_Lists r20.1 s8.2.1).bind fun r42 =>
 (t_railsame_Ops r27.1 s8.2.2.1).bind fun r44 =>
 (t_railsame_Ints r34.1 s8.2.2.2).bind fun r47 =>
 some (((((((r17 && r24) && r31) && r38) && r40) && r42) && r44) && r47)
theorem ty_raillaw3_LoadTells {n : Nat} (hn : bigN ≤ n) (a0 : T_Net) : Rv (fun x : Bool => (vb x)) (sem_raillaw3_LoadTells n [(T_Net.e a0)]) (t_raillaw3_LoadTells a0) := by
  rw [eq_raillaw3_LoadTells]
  unfold t_raillaw3_LoadTells
  refine tb (x := (T_Net.c a0)) rfl ?_
  refine tb (x := (T_Net.e a0)) (rfl) ?_
  refine tbo (ty_railref1_Net hn a0) fun r4 => ?_
  refine tb (x := (vb (decide (r4 = 0)))) (d_eql) ?_
  refine tjb (mk := fun s8 : ((List Int) × (List (List Int)) × (List T_Op) × (List Int)) => [(V.sl (List.map cI s8.1)), (V.sl (List.map (cS cI) s8.2.1)), (V.sl (List.map T_Op.c s8.2.2.1)), (V.osl 1 (List.map cI s8.2.2.2))]) (fun J7 => ?_) fun s8 => ?_
  · refine tcond (fun h69 => ?_) (fun h69 => ?_)
    · refine tb (x := (T_Net.e a0)) (rfl) ?_
      refine tbo (ty_railref2_All hn a0) fun r72 => ?_
      refine tb (x := (T_Topo.e a0.Topo)) (rfl) ?_
      refine tbo (ty_railref2_Links hn a0.Topo r72) fun r75 => ?_
      refine tb (x := (V.sl (List.map T_Host.c a0.Topo.Hosts))) (rfl) ?_
      refine tb (x := (vi (List.length a0.Topo.Hosts : Int))) (p_len _) ?_
      refine tb (x := (vi (wr ((List.length a0.Topo.Hosts : Int) * (List.length a0.Topo.Hosts : Int))))) (d_mul) ?_
      refine tbo (p_omake (c := cI) (wr ((List.length a0.Topo.Hosts : Int) * (List.length a0.Topo.Hosts : Int))) (wr ((List.length a0.Topo.Hosts : Int) * (List.length a0.Topo.Hosts : Int))) 0 rfl) fun r80 => ?_
      refine tjb (mk := fun s83 : ((List (List Int)) × (List T_Op)) => [(V.sl (List.map (cS cI) s83.1)), (V.sl (List.map T_Op.c s83.2))]) (fun J82 => ?_) fun s83 => ?_
      · refine tkeepO2 ?_ rfl
        refine tkeepT2 ?_ rfl
        refine tsome ?_
        refine rf_loopI (mk := fun (i152 : Int) (s148 : ((List (List Int)) × (List T_Op))) => [(V.sl (List.map (cS cI) s148.1)), (V.sl (List.map T_Op.c s148.2)), (vi (i152 : Int))]) hn a0.Tables ([], []) (fun i152 x153 h154 h155 h156 s148 rec146 k149 h150 => ?_) (fun s148 rec321 h320 => ?_)
        · refine tb (x := (V.sl (List.map (cS T_Rule.c) a0.Tables))) (rfl) ?_
          refine tb (x := (vi (List.length a0.Tables : Int))) (p_len _) ?_
          refine tb (x := (vb (decide ((i152 : Int) < (List.length a0.Tables : Int))))) (d_lss) ?_
          refine tcond_t h156 ?_
          refine tjb (mk := fun s162 : ((List (List Int)) × (List T_Op)) => [(V.sl (List.map (cS cI) s162.1)), (V.sl (List.map T_Op.c s162.2))]) (fun J161 => ?_) fun s162 => ?_
          · refine tb (x := (V.sl (List.map (cS T_Rule.c) a0.Tables))) (rfl) ?_
            refine tb (x := (V.ptr [(V.sl (List.map T_Rule.c x153))])) (p_idx_at (c := (cS T_Rule.c)) (fun _ => rfl) h154) ?_
            refine tb (x := (V.sl (List.map T_Rule.c x153))) (rfl) ?_
            refine tb (x := (vi (List.length x153 : Int))) (p_len _) ?_
            refine tbo (p_omake (c := cI) (List.length x153 : Int) (List.length x153 : Int) 0 rfl) fun r171 => ?_
            refine tjb (mk := fun s174 : ((List (List Int)) × (List T_Op) × (List Int)) => [(V.sl (List.map (cS cI) s174.1)), (V.sl (List.map T_Op.c s174.2.1)), (V.osl 1 (List.map cI s174.2.2))]) (fun J173 => ?_) fun s174 => ?_
            · refine tkeepO2 ?_ rfl
              refine tkeepT2 ?_ rfl
              refine tsome ?_
              refine rf_loopI (mk := fun (i230 : Int) (s226 : ((List (List Int)) × (List T_Op) × (List Int))) => [(V.sl (List.map (cS cI) s226.1)), (V.sl (List.map T_Op.c s226.2.1)), (V.osl 1 (List.map cI s226.2.2)), (vi (i230 : Int))]) hn r72 (s148.1, s148.2, r171) (fun i230 x231 h232 h233 h234 s226 rec224 k227 h228 => ?_) (fun s226 rec317 h316 => ?_)
              · refine tb (x := (vi (List.length r72 : Int))) (p_len _) ?_
                refine tb (x := (vb (decide ((i230 : Int) < (List.length r72 : Int))))) (d_lss) ?_
                refine tcond_t h234 ?_
                refine tjb (mk := fun s239 : ((List (List Int)) × (List T_Op) × (List Int)) => [(V.sl (List.map (cS cI) s239.1)), (V.sl (List.map T_Op.c s239.2.1)), (V.osl 1 (List.map cI s239.2.2))]) (fun J238 => ?_) fun s239 => ?_
                · refine tjb (mk := fun s245 : ((List (List Int)) × (List T_Op) × (List Int)) => [(V.sl (List.map (cS cI) s245.1)), (V.sl (List.map T_Op.c s245.2.1)), (V.osl 1 (List.map cI s245.2.2))]) (fun J244 => ?_) fun s245 => ?_
                  · refine tkeepO2 ?_ rfl
                    refine tkeepT2 ?_ rfl
                    refine tsome ?_
                    refine rf_loopI (mk := fun (i254 : Int) (s250 : ((List (List Int)) × (List T_Op) × (List Int))) => [(V.sl (List.map (cS cI) s250.1)), (V.sl (List.map T_Op.c s250.2.1)), (V.osl 1 (List.map cI s250.2.2)), (vi (i254 : Int))]) hn x231.Hops (s226.1, s226.2.1, s226.2.2) (fun i254 x255 h256 h257 h258 s250 rec248 k251 h252 => ?_) (fun s250 rec310 h309 => ?_)
                    · refine tb (x := (V.ptr (T_Fate.c x231))) (p_idx_at (c := T_Fate.c) (fun _ => rfl) h232) ?_
                      refine tb (x := (V.ptr (List.drop 2 (T_Fate.c x231)))) (rfl) ?_
                      refine tb (x := (V.sl (List.map T_Hop.c x231.Hops))) (rfl) ?_
                      refine tb (x := (vi (List.length x231.Hops : Int))) (p_len _) ?_
                      refine tb (x := (vb (decide ((i254 : Int) < (List.length x231.Hops : Int))))) (d_lss) ?_
                      refine tcond_t h258 ?_
                      refine tb (x := (V.sl (List.map (cS T_Rule.c) a0.Tables))) (rfl) ?_
                      refine tb (x := (V.ptr [(V.sl (List.map T_Rule.c x153))])) (p_idx_at (c := (cS T_Rule.c)) (fun _ => rfl) h154) ?_
                      refine tb (x := (V.sl (List.map T_Rule.c x153))) (rfl) ?_
                      refine tb (x := (V.ptr (T_Fate.c x231))) (p_idx_at (c := T_Fate.c) (fun _ => rfl) h232) ?_
                      refine tb (x := (V.ptr (List.drop 2 (T_Fate.c x231)))) (rfl) ?_
                      refine tb (x := (V.sl (List.map T_Hop.c x231.Hops))) (rfl) ?_
                      refine tb (x := (V.ptr (T_Hop.c x255))) (p_idx_at (c := T_Hop.c) (fun _ => rfl) h256) ?_
                      refine tb (x := (V.ptr (List.drop 2 (T_Hop.c x255)))) (rfl) ?_
                      refine tb (x := (vi x255.Header)) (rfl) ?_
                      refine tbo (ty_railref1_Find hn x153 x255.Header) fun r274 => ?_
                      refine tb (x := (V.ptr (T_Fate.c x231))) (p_idx_at (c := T_Fate.c) (fun _ => rfl) h232) ?_
                      refine tb (x := (V.ptr (List.drop 2 (T_Fate.c x231)))) (rfl) ?_
                      refine tb (x := (V.sl (List.map T_Hop.c x231.Hops))) (rfl) ?_
                      refine tb (x := (V.ptr (T_Hop.c x255))) (p_idx_at (c := T_Hop.c) (fun _ => rfl) h256) ?_
                      refine tb (x := (V.ptr (T_Hop.c x255))) (rfl) ?_
                      refine tb (x := (V.ptr (T_Hop.c x255))) (rfl) ?_
                      refine tb (x := (vi x255.At.Switch)) (rfl) ?_
                      refine tb (x := (vi ((i152 : Int) + 1))) (p_incN h155) ?_
                      refine tb (x := (vb (decide (x255.At.Switch = ((i152 : Int) + 1))))) (d_eql) ?_
                      refine tg (x := (vi r274)) (fun h284 => rfl) ?_
                      refine tg (x := (vb (decide (0 ≤ r274)))) (fun h286 => by simp only [gv_t h286]; exact bind_some_eq (d_geq)) ?_
                      refine tb (x := (vb ((decide (x255.At.Switch = ((i152 : Int) + 1))) && (decide (0 ≤ r274))))) (pick_and (fun h9 => gv_t h9)) ?_
                      refine tjb (mk := fun s292 : ((List (List Int)) × (List T_Op) × (List Int)) => [(V.sl (List.map (cS cI) s292.1)), (V.sl (List.map T_Op.c s292.2.1)), (V.osl 1 (List.map cI s292.2.2))]) (fun J291 => ?_) fun s292 => ?_
                      · refine tcond (fun h296 => ?_) (fun h296 => ?_)
                        · refine tneed (x := V.any) (fun h308 => p_inB s250.2.2 r274 h308) fun h308 => ?_
                          refine tbo (p_oload (e1 := fun x : Int => (vi x)) (c := cI) (fun _ => rfl) s250.2.2 r274 (fun _ => rfl)) fun r300 => ?_
                          refine tb (x := (vi (wr (r300 + 1)))) (d_add) ?_
                          refine tneed (x := V.any) (fun h307 => p_inB s250.2.2 r274 h307) fun h307 => ?_
                          refine tb (x := cI (wr (r300 + 1))) rfl ?_
                          refine tbo (p_oset (c := cI) (fun _ => rfl) s250.2.2 r274 (wr (r300 + 1))) fun r306 => ?_
                          refine tkeepO2 ?_ rfl
                          refine tkeepT2 ?_ rfl
                          refine tsome ?_
                          exact rf_j rfl
                        · refine tkeepO2 ?_ rfl
                          refine tkeepT2 ?_ rfl
                          refine tsome ?_
                          exact rf_j rfl
                      · refine tb (x := (vi ((i254 : Int) + 1))) (p_incN h257) ?_
                        refine tkeepO2 ?_ rfl
                        refine tkeepT2 ?_ rfl
                        refine tsome ?_
                        exact h252 (s292.1, s292.2.1, s292.2.2)
                    · refine tb (x := (V.ptr (T_Fate.c x231))) (p_idx_at (c := T_Fate.c) (fun _ => rfl) h232) ?_
                      refine tb (x := (V.ptr (List.drop 2 (T_Fate.c x231)))) (rfl) ?_
                      refine tb (x := (V.sl (List.map T_Hop.c x231.Hops))) (rfl) ?_
                      refine tb (x := (vi (List.length x231.Hops : Int))) (p_len _) ?_
                      refine tb (x := (vb (decide ((List.length x231.Hops : Int) < (List.length x231.Hops : Int))))) (d_lss) ?_
                      refine tcond_f h309 ?_
                      refine tkeepO2 ?_ rfl
                      refine tkeepT2 ?_ rfl
                      refine tsome ?_
                      exact rf_j rfl
                  · refine tkeepO2 ?_ rfl
                    refine tkeepT2 ?_ rfl
                    refine tsome ?_
                    exact rf_j rfl
                · refine tb (x := (vi ((i230 : Int) + 1))) (p_incN h233) ?_
                  refine tkeepO2 ?_ rfl
                  refine tkeepT2 ?_ rfl
                  refine tsome ?_
                  exact h228 (s239.1, s239.2.1, s239.2.2)
              · refine tb (x := (vi (List.length r72 : Int))) (p_len _) ?_
                refine tb (x := (vb (decide ((List.length r72 : Int) < (List.length r72 : Int))))) (d_lss) ?_
                refine tcond_f h316 ?_
                refine tkeepO2 ?_ rfl
                refine tkeepT2 ?_ rfl
                refine tsome ?_
                exact rf_j rfl
            · refine tb (x := (V.sl (List.map cI s174.2.2))) (p_frz (c := cI) (fun _ => rfl) s174.2.2) ?_
              refine tb (x := (V.sl (List.map (cS cI) ([s174.2.2] : (List (List Int)))))) (by kernel_rfl) ?_
              refine tbo (p_app (c := (cS cI)) (fun _ => rfl) s174.1 ([s174.2.2] : (List (List Int)))) fun r180 => ?_
              refine tjb (mk := fun s183 : ((List (List Int)) × (List T_Op)) => [(V.sl (List.map (cS cI) s183.1)), (V.sl (List.map T_Op.c s183.2))]) (fun J182 => ?_) fun s183 => ?_
              · refine tkeepO2 ?_ rfl
                refine tkeepT2 ?_ rfl
                refine tsome ?_
                refine rf_loopI (mk := fun (i192 : Int) (s188 : ((List (List Int)) × (List T_Op))) => [(V.sl (List.map (cS cI) s188.1)), (V.sl (List.map T_Op.c s188.2)), (vi (i192 : Int))]) hn s174.2.2 (r180, s174.2.1) (fun i192 x193 h194 h195 h196 s188 rec186 k189 h190 => ?_) (fun s188 rec221 h220 => ?_)
                · refine tb (x := (vi (List.length s174.2.2 : Int))) (p_len _) ?_
                  refine tb (x := (vb (decide ((i192 : Int) < (List.length s174.2.2 : Int))))) (d_lss) ?_
                  refine tcond_t h196 ?_
                  refine tb (x := (V.ptr [(vi x193)])) (p_idx_at (c := cI) (fun _ => rfl) h194) ?_
                  refine tb (x := (vi x193)) (rfl) ?_
                  refine tb (x := (vb (decide (x193 = 0)))) (d_eql) ?_
                  refine tjb (mk := fun s204 : ((List (List Int)) × (List T_Op)) => [(V.sl (List.map (cS cI) s204.1)), (V.sl (List.map T_Op.c s204.2))]) (fun J203 => ?_) fun s204 => ?_
                  · refine tcond (fun h208 => ?_) (fun h208 => ?_)
                    · refine tb (x := (vi ((i152 : Int) + 1))) (p_incN h155) ?_
                      refine tb (x := (V.sl (List.map (cS T_Rule.c) a0.Tables))) (rfl) ?_
                      refine tb (x := (V.ptr [(V.sl (List.map T_Rule.c x153))])) (p_idx_at (c := (cS T_Rule.c)) (fun _ => rfl) h154) ?_
                      refine tb (x := (V.sl (List.map T_Rule.c x153))) (rfl) ?_
                      refine tbo (p_idx (c := T_Rule.c) (fun _ => rfl) x153 (i192 : Int)) fun r214 => ?_
                      refine tb (x := (T_Rule.e r214)) (rfl) ?_
                      refine tb (x := (T_Op.e (T_Op.mk ((i152 : Int) + 1) false r214))) (by kernel_rfl) ?_
                      refine tb (x := (V.sl (List.map T_Op.c ([(T_Op.mk ((i152 : Int) + 1) false r214)] : (List T_Op))))) (by kernel_rfl) ?_
                      refine tbo (p_app (c := T_Op.c) (fun _ => rfl) s188.2 ([(T_Op.mk ((i152 : Int) + 1) false r214)] : (List T_Op))) fun r219 => ?_
                      refine tkeepO2 ?_ rfl
                      refine tkeepT2 ?_ rfl
                      refine tsome ?_
                      exact rf_j rfl
                    · refine tkeepO2 ?_ rfl
                      refine tkeepT2 ?_ rfl
                      refine tsome ?_
                      exact rf_j rfl
                  · refine tb (x := (vi ((i192 : Int) + 1))) (p_incN h195) ?_
                    refine tkeepO2 ?_ rfl
                    refine tkeepT2 ?_ rfl
                    refine tsome ?_
                    exact h190 (s204.1, s204.2)
                · refine tb (x := (vi (List.length s174.2.2 : Int))) (p_len _) ?_
                  refine tb (x := (vb (decide ((List.length s174.2.2 : Int) < (List.length s174.2.2 : Int))))) (d_lss) ?_
                  refine tcond_f h220 ?_
                  refine tkeepO2 ?_ rfl
                  refine tkeepT2 ?_ rfl
                  refine tsome ?_
                  exact rf_j rfl
              · refine tkeepO2 ?_ rfl
                refine tkeepT2 ?_ rfl
                refine tsome ?_
                exact rf_j rfl
          · refine tb (x := (vi ((i152 : Int) + 1))) (p_incN h155) ?_
            refine tkeepO2 ?_ rfl
            refine tkeepT2 ?_ rfl
            refine tsome ?_
            exact h150 (s162.1, s162.2)
        · refine tb (x := (V.sl (List.map (cS T_Rule.c) a0.Tables))) (rfl) ?_
          refine tb (x := (vi (List.length a0.Tables : Int))) (p_len _) ?_
          refine tb (x := (vb (decide ((List.length a0.Tables : Int) < (List.length a0.Tables : Int))))) (d_lss) ?_
          refine tcond_f h320 ?_
          refine tkeepO2 ?_ rfl
          refine tkeepT2 ?_ rfl
          refine tsome ?_
          exact rf_j rfl
      · refine tjb (mk := fun s88 : ((List (List Int)) × (List T_Op) × (List Int)) => [(V.sl (List.map (cS cI) s88.1)), (V.sl (List.map T_Op.c s88.2.1)), (V.osl 1 (List.map cI s88.2.2))]) (fun J87 => ?_) fun s88 => ?_
        · refine tkeepO2 ?_ rfl
          refine tsome ?_
          refine rf_loopI (mk := fun (i97 : Int) (s93 : ((List (List Int)) × (List T_Op) × (List Int))) => [(V.sl (List.map (cS cI) s93.1)), (V.sl (List.map T_Op.c s93.2.1)), (V.osl 1 (List.map cI s93.2.2)), (vi (i97 : Int))]) hn r72 (s83.1, s83.2, r80) (fun i97 x98 h99 h100 h101 s93 rec91 k94 h95 => ?_) (fun s93 rec143 h142 => ?_)
          · refine tb (x := (vi (List.length r72 : Int))) (p_len _) ?_
            refine tb (x := (vb (decide ((i97 : Int) < (List.length r72 : Int))))) (d_lss) ?_
            refine tcond_t h101 ?_
            refine tb (x := (T_Topo.e a0.Topo)) (rfl) ?_
            refine tb (x := (V.ptr (T_Fate.c x98))) (p_idx_at (c := T_Fate.c) (fun _ => rfl) h99) ?_
            refine tb (x := (V.ptr (List.drop 1 (T_Fate.c x98)))) (rfl) ?_
            refine tb (x := (vt x98.Host)) (rfl) ?_
            refine tbo (ty_railref1_Named hn a0.Topo x98.Host) fun r109 => ?_
            refine tb (x := (V.ptr (T_Fate.c x98))) (p_idx_at (c := T_Fate.c) (fun _ => rfl) h99) ?_
            refine tb (x := (V.ptr (T_Fate.c x98))) (rfl) ?_
            refine tb (x := (vi x98.How)) (rfl) ?_
            refine tb (x := (vb (decide (x98.How = 1)))) (d_eql) ?_
            refine tg (x := (vi r109)) (fun h114 => rfl) ?_
            refine tg (x := (vb (decide (0 ≤ r109)))) (fun h116 => by simp only [gv_t h116]; exact bind_some_eq (d_geq)) ?_
            refine tb (x := (vb ((decide (x98.How = 1)) && (decide (0 ≤ r109))))) (pick_and (fun h9 => gv_t h9)) ?_
            refine tjb (mk := fun s122 : ((List (List Int)) × (List T_Op) × (List Int)) => [(V.sl (List.map (cS cI) s122.1)), (V.sl (List.map T_Op.c s122.2.1)), (V.osl 1 (List.map cI s122.2.2))]) (fun J121 => ?_) fun s122 => ?_
            · refine tcond (fun h126 => ?_) (fun h126 => ?_)
              · refine tb (x := (vi (wr (Int.tdiv (i97 : Int) 16)))) (p_quo (by decide)) ?_
                refine tb (x := (vi (wr ((wr (Int.tdiv (i97 : Int) 16)) * (List.length a0.Topo.Hosts : Int))))) (d_mul) ?_
                refine tb (x := (vi (wr ((wr ((wr (Int.tdiv (i97 : Int) 16)) * (List.length a0.Topo.Hosts : Int))) + r109)))) (d_add) ?_
                refine tneed (x := V.any) (fun h141 => p_inB s93.2.2 (wr ((wr ((wr (Int.tdiv (i97 : Int) 16)) * (List.length a0.Topo.Hosts : Int))) + r109)) h141) fun h141 => ?_
                refine tbo (p_oload (e1 := fun x : Int => (vi x)) (c := cI) (fun _ => rfl) s93.2.2 (wr ((wr ((wr (Int.tdiv (i97 : Int) 16)) * (List.length a0.Topo.Hosts : Int))) + r109)) (fun _ => rfl)) fun r133 => ?_
                refine tb (x := (vi (wr (r133 + 1)))) (d_add) ?_
                refine tneed (x := V.any) (fun h140 => p_inB s93.2.2 (wr ((wr ((wr (Int.tdiv (i97 : Int) 16)) * (List.length a0.Topo.Hosts : Int))) + r109)) h140) fun h140 => ?_
                refine tb (x := cI (wr (r133 + 1))) rfl ?_
                refine tbo (p_oset (c := cI) (fun _ => rfl) s93.2.2 (wr ((wr ((wr (Int.tdiv (i97 : Int) 16)) * (List.length a0.Topo.Hosts : Int))) + r109)) (wr (r133 + 1))) fun r139 => ?_
                refine tkeepO2 ?_ rfl
                refine tsome ?_
                exact rf_j rfl
              · refine tkeepO2 ?_ rfl
                refine tsome ?_
                exact rf_j rfl
            · refine tb (x := (vi ((i97 : Int) + 1))) (p_incN h100) ?_
              refine tkeepO2 ?_ rfl
              refine tsome ?_
              exact h95 (s122.1, s122.2.1, s122.2.2)
          · refine tb (x := (vi (List.length r72 : Int))) (p_len _) ?_
            refine tb (x := (vb (decide ((List.length r72 : Int) < (List.length r72 : Int))))) (d_lss) ?_
            refine tcond_f h142 ?_
            refine tkeepO2 ?_ rfl
            refine tsome ?_
            exact rf_j rfl
        · refine tkeepO2 ?_ rfl
          refine tsome ?_
          exact rf_j rfl
    · refine tkeepO2 ?_ rfl
      refine tsome ?_
      exact rf_j rfl
  · refine tb (x := (T_Net.e a0)) (rfl) ?_
    refine tbo (ty_load_Links hn a0) fun r13 => ?_
    refine tb (x := (V.sl (List.map cI r13.1))) (rfl) ?_
    refine tb (x := (eV r13.2)) (rfl) ?_
    refine tbo (ty_railsame_Error r13.2 r4) fun r17 => ?_
    refine tb (x := (T_Net.e a0)) (rfl) ?_
    refine tbo (ty_load_Rules hn a0) fun r20 => ?_
    refine tb (x := (V.sl (List.map (cS cI) r20.1))) (rfl) ?_
    refine tb (x := (eV r20.2)) (rfl) ?_
    refine tbo (ty_railsame_Error r20.2 r4) fun r24 => ?_
    refine tb (x := (T_Net.e a0)) (rfl) ?_
    refine tbo (ty_load_Unused hn a0) fun r27 => ?_
    refine tb (x := (V.sl (List.map T_Op.c r27.1))) (rfl) ?_
    refine tb (x := (eV r27.2)) (rfl) ?_
    refine tbo (ty_railsame_Error r27.2 r4) fun r31 => ?_
    refine tb (x := (T_Net.e a0)) (rfl) ?_
    refine tbo (ty_load_Pairs hn a0) fun r34 => ?_
    refine tb (x := (V.sl (List.map cI r34.1))) (rfl) ?_
    refine tb (x := (eV r34.2)) (rfl) ?_
    refine tbo (ty_railsame_Error r34.2 r4) fun r38 => ?_
    refine tbo (ty_railsame_Ints hn r13.1 s8.1) fun r40 => ?_
    refine tbo (ty_railsame_Lists hn r20.1 s8.2.1) fun r42 => ?_
    refine tbo (ty_railsame_Ops hn r27.1 s8.2.2.1) fun r44 => ?_
    refine tb (x := (V.sl (List.map cI s8.2.2.2))) (p_frz (c := cI) (fun _ => rfl) s8.2.2.2) ?_
    refine tbo (ty_railsame_Ints hn r34.1 s8.2.2.2) fun r47 => ?_
    refine tg (x := (vb r24)) (fun h48 => rfl) ?_
    refine tb (x := (vb (r17 && r24))) (pick_and (fun h9 => gv_t h9)) ?_
    refine tg (x := (vb r31)) (fun h51 => rfl) ?_
    refine tb (x := (vb ((r17 && r24) && r31))) (pick_and (fun h9 => gv_t h9)) ?_
    refine tg (x := (vb r38)) (fun h54 => rfl) ?_
    refine tb (x := (vb (((r17 && r24) && r31) && r38))) (pick_and (fun h9 => gv_t h9)) ?_
    refine tg (x := (vb r40)) (fun h57 => rfl) ?_
    refine tb (x := (vb ((((r17 && r24) && r31) && r38) && r40))) (pick_and (fun h9 => gv_t h9)) ?_
    refine tg (x := (vb r42)) (fun h60 => rfl) ?_
    refine tb (x := (vb (((((r17 && r24) && r31) && r38) && r40) && r42))) (pick_and (fun h9 => gv_t h9)) ?_
    refine tg (x := (vb r44)) (fun h63 => rfl) ?_
    refine tb (x := (vb ((((((r17 && r24) && r31) && r38) && r40) && r42) && r44))) (pick_and (fun h9 => gv_t h9)) ?_
    refine tg (x := (vb r47)) (fun h66 => rfl) ?_
    refine tb (x := (vb (((((((r17 && r24) && r31) && r38) && r40) && r42) && r44) && r47))) (pick_and (fun h9 => gv_t h9)) ?_
    exact rf_ret rfl

end Go.Proofs.YtjflahgnjmdikaaDoor.Ty
