/- What functions do, as functions on plain types, written by a program and checked by the kernel. -/
import Derived.Test.YtpjadjoekdcjiaaDoorTyA0
import Derived.Test.YtpjadjoekdcjiaaDoorDenDoor
import Derived.Test.YtpjadjoekdcjiaaDoorTy
import Derived.Test.YtpjadjoekdcjiaaDoorTyT
import Derived.Test.YtpjadjoekdcjiaaDoorTyE
import Derived.Test.YtpjadjoekdcjiaaDoorTyO
import Derived.Test.YtpjadjoekdcjiaaDoorTyM
import Derived.Test.YtpjadjoekdcjiaaDoorTyR
import Derived.Test.YtpjadjoekdcjiaaDoorDen14
import Derived.Test.YtpjadjoekdcjiaaDoorClone
namespace Go.Proofs.YtpjadjoekdcjiaaDoor.Ty
open Go Go.RowKit Go.Proofs.YtpjadjoekdcjiaaDoor.Den
set_option linter.unusedVariables false
set_option maxRecDepth 100000
def an_net_Begin : Ann := .seq (.reg 0 [] [] []) (.seq (.reg 0 [] [] []) (.no))
noncomputable def sem_net_Begin (n : Nat) (xs : List V) : Option V := if xs.length ≤ 10 then denF Tryd.prog (envOf []) n Tryd.f137 an_net_Begin xs else none
theorem ok_net_Begin (n : Nat) : SemOk Tryd.prog DW 137 (sem_net_Begin n) := fun xs y h => by
  unfold sem_net_Begin at h
  split at h
  · rename_i hl
    exact denF_ok stb Tryd.func137 (by kernel_rfl) (envOf_ok semsOk_nil) (by rw [Tryd.ntmps137]; exact hl) h
  · cases h
theorem eq_net_Begin (n : Nat) (x0 x1 : V) : sem_net_Begin n [x0, x1] =
 (V.cellsO x0).bind fun v1 =>
 (ldk (some 2) (List.drop 0 v1)).bind fun v2 =>
 ((fillL [(vi 0), (vi 0), (vi 0)] [(0, 2, v2), (2, 1, x1)]).map V.agg).bind fun v3 =>
 (slcB 3 1 [(vi 0), (vi 0), (vi 0)] [(0, v3)]).bind fun v4 =>
 ((fillL [(vi 0), (V.lit (Go.Value.string (ByteArray.mk #[]))), (V.sl [])] [(2, 1, v4)]).map V.agg).bind fun v5 =>
 (spliceV [(vi 0), (V.lit (Go.Value.string (ByteArray.mk #[]))), (V.sl [])] 0 3 v5).bind fun v6 =>
 (ldk (some 3) (List.drop 0 (aggL v6))).bind fun v7 =>
 some v7 := by kernel_rfl
noncomputable def t_net_Begin (a0 : T_Spot) (a1 : Int) : Option T_Fate :=
 some (T_Fate.mk 0 (ByteArray.mk #[]) ([(T_Hop.mk a0 a1)] : (List T_Hop)))
theorem ty_net_Begin {n : Nat} (hn : bigN ≤ n) (a0 : T_Spot) (a1 : Int) : Rv (fun x : T_Fate => (T_Fate.e x)) (sem_net_Begin n [(T_Spot.e a0), (vi a1)]) (t_net_Begin a0 a1) := by
  rw [eq_net_Begin]
  unfold t_net_Begin
  refine tb (x := (T_Spot.c a0)) rfl ?_
  refine tb (x := (T_Spot.e a0)) (rfl) ?_
  refine tb (x := (T_Hop.e (T_Hop.mk a0 a1))) (by kernel_rfl) ?_
  refine tb (x := (V.sl (List.map T_Hop.c ([(T_Hop.mk a0 a1)] : (List T_Hop))))) (by kernel_rfl) ?_
  refine tb (x := (T_Fate.e (T_Fate.mk 0 (ByteArray.mk #[]) ([(T_Hop.mk a0 a1)] : (List T_Hop))))) (by kernel_rfl) ?_
  refine tb (x := V.agg (T_Fate.c (T_Fate.mk 0 (ByteArray.mk #[]) ([(T_Hop.mk a0 a1)] : (List T_Hop))))) (by kernel_rfl) ?_
  refine tb (x := (T_Fate.e (T_Fate.mk 0 (ByteArray.mk #[]) ([(T_Hop.mk a0 a1)] : (List T_Hop))))) rfl ?_
  exact rf_ret rfl

/-! cmp.isNaN int  -/
def an_cmp_isNaN_int : Ann := .seq (.reg 0 [] [] []) (.seq (.reg 0 [] [] []) (.no))
noncomputable def sem_cmp_isNaN_int (n : Nat) (xs : List V) : Option V := if xs.length ≤ 6 then denF Tryd.prog (envOf []) n Tryd.f196 an_cmp_isNaN_int xs else none
theorem ok_cmp_isNaN_int (n : Nat) : SemOk Tryd.prog DW 196 (sem_cmp_isNaN_int n) := fun xs y h => by
  unfold sem_cmp_isNaN_int at h
  split at h
  · rename_i hl
    exact denF_ok stb Tryd.func196 (by kernel_rfl) (envOf_ok semsOk_nil) (by rw [Tryd.ntmps196]; exact hl) h
  · cases h
theorem eq_cmp_isNaN_int (n : Nat) (x0 : V) : sem_cmp_isNaN_int n [x0] =
 (bin2 Tryd.prog BinOp.neq 3 (ot 3) (ot 4) x0 x0).bind fun v1 =>
 some v1 := by kernel_rfl
noncomputable def t_cmp_isNaN_int (a0 : Int) : Option Bool :=
 some (decide (a0 ≠ a0))
theorem ty_cmp_isNaN_int {n : Nat} (hn : bigN ≤ n) (a0 : Int) : Rv (fun x : Bool => (vb x)) (sem_cmp_isNaN_int n [(vi a0)]) (t_cmp_isNaN_int a0) := by
  rw [eq_cmp_isNaN_int]
  unfold t_cmp_isNaN_int
  refine tb (x := (vb (decide (a0 ≠ a0)))) (d_neq) ?_
  exact rf_ret rfl

/-! cmp.Compare int  -/
def an_cmp_Compare_int : Ann := .seq (.reg 0 [] [] []) (.seq (.reg 0 [] [] []) (.seq (.reg 0 [] [] []) (.seq (.seq (.reg 0 [] [] []) (.cond none (.seq (.seq (.reg 0 [] [] []) (.cond none (.seq (.reg 0 [] [] []) (.no)) (.no))) (.seq (.reg 0 [] [] []) (.no))) (.no))) (.seq (.seq (.reg 0 [] [] []) (.cond none (.seq (.reg 0 [] [] []) (.no)) (.no))) (.seq (.seq (.reg 0 [] [] []) (.cond none (.seq (.reg 0 [] [] []) (.no)) (.no))) (.seq (.seq (.reg 0 [] [] []) (.cond none (.seq (.reg 0 [] [] []) (.no)) (.no))) (.seq (.reg 0 [] [] []) (.no))))))))
noncomputable def sem_cmp_Compare_int (n : Nat) (xs : List V) : Option V := if xs.length ≤ 20 then denF Tryd.prog (envOf [(196, (sem_cmp_isNaN_int n))]) n Tryd.f186 an_cmp_Compare_int xs else none
theorem ok_cmp_Compare_int (n : Nat) : SemOk Tryd.prog DW 186 (sem_cmp_Compare_int n) := fun xs y h => by
  unfold sem_cmp_Compare_int at h
  split at h
  · rename_i hl
    exact denF_ok stb Tryd.func186 (by kernel_rfl) (envOf_ok (semsOk_cons (ok_cmp_isNaN_int n) semsOk_nil)) (by rw [Tryd.ntmps186]; exact hl) h
  · cases h
theorem eq_cmp_Compare_int (n : Nat) (x0 x1 : V) : sem_cmp_Compare_int n [x0, x1] =
 ((sem_cmp_isNaN_int n) [x0]).bind fun v1 =>
 ((sem_cmp_isNaN_int n) [x1]).bind fun v2 =>
 condV v1 (
 condV v2 (
 some (vi 0)) (
 some (vi (-1 : Int)))) (
 condV v2 (
 some (vi 1)) (
 (bin2 Tryd.prog BinOp.lss 3 (ot 14) (ot 15) x0 x1).bind fun v3 =>
 condV v3 (
 some (vi (-1 : Int))) (
 (bin2 Tryd.prog BinOp.gtr 3 (ot 17) (ot 18) x0 x1).bind fun v4 =>
 condV v4 (
 some (vi 1)) (
 some (vi 0))))) := by kernel_rfl
noncomputable def t_cmp_Compare_int (a0 : Int) (a1 : Int) : Option Int :=
 (t_cmp_isNaN_int a0).bind fun r2 =>
 (t_cmp_isNaN_int a1).bind fun r4 =>
 if r2 = true then (
 if r4 = true then (
 some 0) else (
 some (-1 : Int))) else (
 if r4 = true then (
 some 1) else (
 if (decide (a0 < a1)) = true then (
 some (-1 : Int)) else (
 if (decide (a1 < a0)) = true then (
 some 1) else (
 some 0))))
theorem ty_cmp_Compare_int {n : Nat} (hn : bigN ≤ n) (a0 : Int) (a1 : Int) : Rv (fun x : Int => (vi x)) (sem_cmp_Compare_int n [(vi a0), (vi a1)]) (t_cmp_Compare_int a0 a1) := by
  rw [eq_cmp_Compare_int]
  unfold t_cmp_Compare_int
  refine tbo (ty_cmp_isNaN_int hn a0) fun r2 => ?_
  refine tbo (ty_cmp_isNaN_int hn a1) fun r4 => ?_
  refine tcond (fun h5 => ?_) (fun h5 => ?_)
  · refine tcond (fun h6 => ?_) (fun h6 => ?_)
    · exact rf_ret rfl
    · exact rf_ret rfl
  · refine tcond (fun h7 => ?_) (fun h7 => ?_)
    · exact rf_ret rfl
    · refine tb (x := (vb (decide (a0 < a1)))) (d_lss) ?_
      refine tcond (fun h9 => ?_) (fun h9 => ?_)
      · exact rf_ret rfl
      · refine tb (x := (vb (decide (a1 < a0)))) (d_gtr) ?_
        refine tcond (fun h11 => ?_) (fun h11 => ?_)
        · exact rf_ret rfl
        · exact rf_ret rfl

/-! cmp.Or int  -/
def an_cmp_Or_int : Ann := .seq (.reg 0 [] [] []) (.seq (.reg 0 [] [] []) (.seq (.seq (.reg 0 [] [] []) (.blk (some []) (.loop [.s 8] (.seq (.reg 0 [] [] []) (.seq (.cond none (.no) (.no)) (.seq (.blk none (.seq (.reg 0 [] [] []) (.seq (.reg 0 [] [] []) (.cond none (.seq (.reg 0 [] [] []) (.no)) (.no))))) (.reg 0 [] [] []))))))) (.seq (.reg 0 [] [] []) (.no))))
noncomputable def sem_cmp_Or_int (n : Nat) (xs : List V) : Option V := if xs.length ≤ 18 then denF Tryd.prog (envOf []) n Tryd.f185 an_cmp_Or_int xs else none
theorem ok_cmp_Or_int (n : Nat) : SemOk Tryd.prog DW 185 (sem_cmp_Or_int n) := fun xs y h => by
  unfold sem_cmp_Or_int at h
  split at h
  · rename_i hl
    exact denF_ok stb Tryd.func185 (by kernel_rfl) (envOf_ok semsOk_nil) (by rw [Tryd.ntmps185]; exact hl) h
  · cases h
theorem eq_cmp_Or_int (n : Nat) (x0 : V) : sem_cmp_Or_int n [x0] =
 (lenS [x0]).bind fun v1 =>
 JoinPt (fun vs2 =>
 some (vi 0)) fun J3 =>
 (fixN (fun rec4 vs5 =>
 (bin2 Tryd.prog BinOp.lss 3 (ot 8) (ot 7) (List.getD vs5 0 V.any) v1).bind fun v6 =>
 condV v6 (
 (idxS 1 x0 (List.getD vs5 0 V.any)).bind fun v7 =>
 (ldp none v7).bind fun v8 =>
 (bin2 Tryd.prog BinOp.neq 3 (ot 12) (ot 13) v8 (vi 0)).bind fun v9 =>
 condV v9 (
 some v8) (
 (bin2 Tryd.prog BinOp.add 3 (ot 8) (oc 1) (List.getD vs5 0 V.any) (vi 1)).bind fun v10 =>
 rec4 [v10])) (
 J3 [])) n) [(vi 0)] := by kernel_rfl
noncomputable def t_cmp_Or_int (a0 : (List Int)) : Option Int :=
 join (fun (s4 : Unit) =>
 some 0) fun j5 =>
 loopI a0 (fun (i13 : Int) x14 (s9 : Unit) k10 =>
 if (decide (x14 ≠ 0)) = true then (
 some x14) else (
 k10 ())) (fun (s9 : Unit) =>
 j5 ()) ()
theorem ty_cmp_Or_int {n : Nat} (hn : bigN ≤ n) (a0 : (List Int)) : Rv (fun x : Int => (vi x)) (sem_cmp_Or_int n [(V.sl (List.map cI a0))]) (t_cmp_Or_int a0) := by
  rw [eq_cmp_Or_int]
  unfold t_cmp_Or_int
  refine tb (x := (vi (List.length a0 : Int))) (p_len _) ?_
  refine tjoin (mk := fun s4 : Unit => []) (fun s4 => ?_) fun J3 j5 h6 => ?_
  · exact rf_ret rfl
  · refine rf_loopI (mk := fun (i13 : Int) (s9 : Unit) => [(vi (i13 : Int))]) hn a0 () (fun i13 x14 h15 h16 h17 s9 rec7 k10 h11 => ?_) (fun s9 rec25 h24 => ?_)
    · refine tb (x := (vb (decide ((i13 : Int) < (List.length a0 : Int))))) (d_lss) ?_
      refine tcond_t h17 ?_
      refine tb (x := (V.ptr [(vi x14)])) (p_idx_at (c := cI) (fun _ => rfl) h15) ?_
      refine tb (x := (vi x14)) (rfl) ?_
      refine tb (x := (vb (decide (x14 ≠ 0)))) (d_neq) ?_
      refine tcond (fun h22 => ?_) (fun h22 => ?_)
      · exact rf_ret rfl
      · refine tb (x := (vi ((i13 : Int) + 1))) (p_incN h16) ?_
        exact h11 ()
    · refine tb (x := (vb (decide ((List.length a0 : Int) < (List.length a0 : Int))))) (d_lss) ?_
      refine tcond_f h24 ?_
      exact h6 ()

/-! railpoint/rule.above -/
def an_rule_above : Ann := .seq (.reg 0 [] [] []) (.seq (.reg 22 [] [] []) (.no))
noncomputable def sem_rule_above (n : Nat) (xs : List V) : Option V := if xs.length ≤ 26 then denF Tryd.prog (envOf [(186, (sem_cmp_Compare_int n)), (185, (sem_cmp_Or_int n))]) n Tryd.f172 an_rule_above xs else none
theorem ok_rule_above (n : Nat) : SemOk Tryd.prog DW 172 (sem_rule_above n) := fun xs y h => by
  unfold sem_rule_above at h
  split at h
  · rename_i hl
    exact denF_ok stb Tryd.func172 (by kernel_rfl) (envOf_ok (semsOk_cons (ok_cmp_Compare_int n) (semsOk_cons (ok_cmp_Or_int n) semsOk_nil))) (by rw [Tryd.ntmps172]; exact hl) h
  · cases h
theorem eq_rule_above (n : Nat) (x0 x1 : V) : sem_rule_above n [x0, x1] =
 (V.cellsO x0).bind fun v1 =>
 (V.cellsO x1).bind fun v2 =>
 (ldk none (List.drop 0 v1)).bind fun v3 =>
 (ldk none (List.drop 0 v2)).bind fun v4 =>
 ((sem_cmp_Compare_int n) [v3, v4]).bind fun v5 =>
 (ldk none (List.drop 1 v1)).bind fun v6 =>
 (ldk none (List.drop 1 v2)).bind fun v7 =>
 ((sem_cmp_Compare_int n) [v6, v7]).bind fun v8 =>
 (ldk none (List.drop 2 v1)).bind fun v9 =>
 (ldk none (List.drop 2 v2)).bind fun v10 =>
 ((sem_cmp_Compare_int n) [v9, v10]).bind fun v11 =>
 (slcB 1 3 [(vi 0)] [(0, v5), (1, v8), (2, v11)]).bind fun v12 =>
 ((sem_cmp_Or_int n) [v12]).bind fun v13 =>
 some v13 := by kernel_rfl
noncomputable def t_rule_above (a0 : T_Rule) (a1 : T_Rule) : Option Int :=
 (t_cmp_Compare_int a0.Prio a1.Prio).bind fun r6 =>
 (t_cmp_Compare_int a0.Cube.Mask a1.Cube.Mask).bind fun r10 =>
 (t_cmp_Compare_int a0.Cube.Bits a1.Cube.Bits).bind fun r14 =>
 (t_cmp_Or_int ([r6, r10, r14] : (List Int))).bind fun r17 =>
 some r17
theorem ty_rule_above {n : Nat} (hn : bigN ≤ n) (a0 : T_Rule) (a1 : T_Rule) : Rv (fun x : Int => (vi x)) (sem_rule_above n [(T_Rule.e a0), (T_Rule.e a1)]) (t_rule_above a0 a1) := by
  rw [eq_rule_above]
  unfold t_rule_above
  refine tb (x := (T_Rule.c a0)) rfl ?_
  refine tb (x := (T_Rule.c a1)) rfl ?_
  refine tb (x := (vi a0.Prio)) (rfl) ?_
  refine tb (x := (vi a1.Prio)) (rfl) ?_
  refine tbo (ty_cmp_Compare_int hn a0.Prio a1.Prio) fun r6 => ?_
  refine tb (x := (vi a0.Cube.Mask)) (rfl) ?_
  refine tb (x := (vi a1.Cube.Mask)) (rfl) ?_
  refine tbo (ty_cmp_Compare_int hn a0.Cube.Mask a1.Cube.Mask) fun r10 => ?_
  refine tb (x := (vi a0.Cube.Bits)) (rfl) ?_
  refine tb (x := (vi a1.Cube.Bits)) (rfl) ?_
  refine tbo (ty_cmp_Compare_int hn a0.Cube.Bits a1.Cube.Bits) fun r14 => ?_
  refine tb (x := (V.sl (List.map cI ([r6, r10, r14] : (List Int))))) (by kernel_rfl) ?_
  refine tbo (ty_cmp_Or_int hn ([r6, r10, r14] : (List Int))) fun r17 => ?_
  exact rf_ret rfl

/-! railpoint/rule.Find -/
def an_rule_Find : Ann := .seq (.reg 0 [] [] []) (.seq (.reg 0 [] [] []) (.seq (.seq (.reg 0 [] [] []) (.blk (some [.s 5]) (.loop [.s 5, .s 10] (.seq (.reg 0 [] [] []) (.seq (.cond none (.no) (.no)) (.seq (.blk none (.seq (.reg 0 [] [] []) (.seq (.reg 22 [] [] []) (.cond (some [.s 5]) (.reg 0 [] [] []) (.no))))) (.reg 0 [] [] []))))))) (.seq (.reg 0 [] [] []) (.no))))
noncomputable def sem_rule_Find (n : Nat) (xs : List V) : Option V := if xs.length ≤ 40 then denF Tryd.prog (envOf [(172, (sem_rule_above n))]) n Tryd.f135 an_rule_Find xs else none
theorem ok_rule_Find (n : Nat) : SemOk Tryd.prog DW 135 (sem_rule_Find n) := fun xs y h => by
  unfold sem_rule_Find at h
  split at h
  · rename_i hl
    exact denF_ok stb Tryd.func135 (by kernel_rfl) (envOf_ok (semsOk_cons (ok_rule_above n) semsOk_nil)) (by rw [Tryd.ntmps135]; exact hl) h
  · cases h
theorem eq_rule_Find (n : Nat) (x0 x1 : V) : sem_rule_Find n [x0, x1] =
 (lenS [x0]).bind fun v1 =>
 JoinPt (fun vs2 =>
 some (List.getD vs2 0 V.any)) fun J3 =>
 (fixN (fun rec4 vs5 =>
 (bin2 Tryd.prog BinOp.lss 3 (ot 10) (ot 9) (List.getD vs5 1 V.any) v1).bind fun v6 =>
 condV v6 (
 (idxS 6 x0 (List.getD vs5 1 V.any)).bind fun v7 =>
 (ldp (some 6) v7).bind fun v8 =>
 (spliceV [(vi 0), (vi 0), (vi 0), (vi 0), (vi 0), (vi 0)] 0 6 v8).bind fun v9 =>
 (ldk none (List.drop 1 (aggL v9))).bind fun v10 =>
 (bin2 Tryd.prog BinOp.and 3 (ot 15) (ot 18) x1 v10).bind fun v11 =>
 (ldk none (List.drop 2 (aggL v9))).bind fun v12 =>
 (bin2 Tryd.prog BinOp.eql 3 (ot 19) (ot 22) v11 v12).bind fun v13 =>
 (guardV v13 true (some (List.getD vs5 0 V.any))).bind fun v14 =>
 (guardV v13 true ((bin2 Tryd.prog BinOp.lss 3 (ot 25) (oc 0) v14 (vi 0)).bind fun v15 =>
 some v15)).bind fun v16 =>
 (guardV v13 true (some v16)).bind fun v17 =>
 (guardV v17 false ((ldk (some 6) (List.drop 0 (aggL v9))).bind fun v18 =>
 some v18)).bind fun v19 =>
 (guardV v17 false (some x0)).bind fun v20 =>
 (guardV v17 false (some (List.getD vs5 0 V.any))).bind fun v21 =>
 (guardV v17 false ((idxS 6 v20 v21).bind fun v22 =>
 some v22)).bind fun v23 =>
 (guardV v17 false ((ldp (some 6) v23).bind fun v24 =>
 some v24)).bind fun v25 =>
 (guardV v17 false (((sem_rule_above n) [v19, v25]).bind fun v26 =>
 some v26)).bind fun v27 =>
 (guardV v17 false ((bin2 Tryd.prog BinOp.gtr 3 (ot 33) (oc 0) v27 (vi 0)).bind fun v28 =>
 some v28)).bind fun v29 =>
 (guardV v13 true ((pickV v17 (vb true) v29).bind fun v30 =>
 some v30)).bind fun v31 =>
 (pickV v13 v31 (vb false)).bind fun v32 =>
 JoinPt (fun vs33 =>
 (bin2 Tryd.prog BinOp.add 3 (ot 10) (oc 1) (List.getD vs5 1 V.any) (vi 1)).bind fun v35 =>
 rec4 [(List.getD vs33 0 V.any), v35]) fun J34 =>
 condV v32 (
 J34 [(List.getD vs5 1 V.any)]) (
 J34 [(List.getD vs5 0 V.any)])) (
 J3 [(List.getD vs5 0 V.any)])) n) [(vi (-1 : Int)), (vi 0)] := by kernel_rfl
noncomputable def t_rule_Find (a0 : (List T_Rule)) (a1 : Int) : Option Int :=
 (loopI a0 (fun (i13 : Int) x14 (s9 : Int) k10 =>
 (gd ((decide ((bits .and .i64 a1 x14.Cube.Mask) = x14.Cube.Bits)) && (!(decide (s9 < 0)))) default (idx a0 s9)).bind fun r43 =>
 (gd ((decide ((bits .and .i64 a1 x14.Cube.Mask) = x14.Cube.Bits)) && (!(decide (s9 < 0)))) default (t_rule_above x14 r43)).bind fun r50 =>
 (if ((decide ((bits .and .i64 a1 x14.Cube.Mask) = x14.Cube.Bits)) && ((decide (s9 < 0)) || (decide (0 < r50)))) = true then (
 some i13) else (
 some (s9))).bind fun (s60 : Int) =>
 k10 (s60)) (fun (s9 : Int) =>
 some (s9)) (-1 : Int)).bind fun (s4 : Int) =>
 some s4
theorem ty_rule_Find {n : Nat} (hn : bigN ≤ n) (a0 : (List T_Rule)) (a1 : Int) : Rv (fun x : Int => (vi x)) (sem_rule_Find n [(V.sl (List.map T_Rule.c a0)), (vi a1)]) (t_rule_Find a0 a1) := by
  rw [eq_rule_Find]
  unfold t_rule_Find
  refine tb (x := (vi (List.length a0 : Int))) (p_len _) ?_
  refine tjb (mk := fun s4 : Int => [(vi s4)]) (fun J3 => ?_) fun s4 => ?_
  · refine rf_loopI (mk := fun (i13 : Int) (s9 : Int) => [(vi s9), (vi (i13 : Int))]) hn a0 (-1 : Int) (fun i13 x14 h15 h16 h17 s9 rec7 k10 h11 => ?_) (fun s9 rec66 h65 => ?_)
    · refine tb (x := (vb (decide ((i13 : Int) < (List.length a0 : Int))))) (d_lss) ?_
      refine tcond_t h17 ?_
      refine tb (x := (V.ptr (T_Rule.c x14))) (p_idx_at (c := T_Rule.c) (fun _ => rfl) h15) ?_
      refine tb (x := (T_Rule.e x14)) (rfl) ?_
      refine tb (x := V.agg (T_Rule.c x14)) (by kernel_rfl) ?_
      refine tb (x := (vi x14.Cube.Mask)) (rfl) ?_
      refine tb (x := (vi (bits .and .i64 a1 x14.Cube.Mask))) (d_and) ?_
      refine tb (x := (vi x14.Cube.Bits)) (rfl) ?_
      refine tb (x := (vb (decide ((bits .and .i64 a1 x14.Cube.Mask) = x14.Cube.Bits)))) (d_eql) ?_
      refine tg (x := (vi s9)) (fun h26 => rfl) ?_
      refine tg (x := (vb (decide (s9 < 0)))) (fun h28 => by simp only [gv_t h28]; exact bind_some_eq (d_lss)) ?_
      refine tg (x := (vb (decide (s9 < 0)))) (fun h31 => congrArg some (gv_t h31)) ?_
      refine tg2_f (x := (T_Rule.e x14)) (fun h33 => bind_some_eq (rfl)) ?_
      refine tg2_f (x := (V.sl (List.map T_Rule.c a0))) (fun h36 => rfl) ?_
      refine tg2_f (x := (vi s9)) (fun h38 => rfl) ?_
      refine tgo2_f (fun h40 => by simp only [gv_t h40]; exact rf_bind_some (p_idx (c := T_Rule.c) (fun _ => rfl) a0 s9)) fun r43 => ?_
      refine tg2_f (x := (T_Rule.e r43)) (fun h44 => by first | exact bind_some_eq (rfl) | (simp only [gv_t h44]; exact bind_some_eq (rfl))) ?_
      refine tgo2_f (fun h47 => by simp only [gv_t h47]; exact rf_bind_some (ty_rule_above hn x14 r43)) fun r50 => ?_
      refine tg2_f (x := (vb (decide (0 < r50)))) (fun h51 => by simp only [gv_t h51]; exact bind_some_eq (d_gtr)) ?_
      refine tg (x := (vb ((decide (s9 < 0)) || (decide (0 < r50))))) (fun h54 => by simp only [gv_t h54]; exact bind_some_eq (pick_or (fun h9 => gv_t (and_i h54 (not_f h9))))) ?_
      refine tb (x := (vb ((decide ((bits .and .i64 a1 x14.Cube.Mask) = x14.Cube.Bits)) && ((decide (s9 < 0)) || (decide (0 < r50)))))) (pick_and (fun h9 => gv_t h9)) ?_
      refine tjb (mk := fun s60 : Int => [(vi s60)]) (fun J59 => ?_) fun s60 => ?_
      · refine tcond (fun h64 => ?_) (fun h64 => ?_)
        · exact rf_j rfl
        · exact rf_j rfl
      · refine tb (x := (vi ((i13 : Int) + 1))) (p_incN h16) ?_
        exact h11 (s60)
    · refine tb (x := (vb (decide ((List.length a0 : Int) < (List.length a0 : Int))))) (d_lss) ?_
      refine tcond_f h65 ?_
      exact rf_j rfl
  · exact rf_ret rfl

/-! railpoint/net.Out -/
def an_net_Out : Ann := .seq (.reg 0 [] [] []) (.seq (.reg 0 [] [] []) (.seq (.seq (.reg 0 [] [] []) (.cond none (.seq (.reg 0 [] [] []) (.no)) (.no))) (.seq (.reg 2097045 [] [] []) (.no))))
noncomputable def sem_net_Out (n : Nat) (xs : List V) : Option V := if xs.length ≤ 45 then denF Tryd.prog (envOf [(135, (sem_rule_Find n))]) n Tryd.f84 an_net_Out xs else none
theorem ok_net_Out (n : Nat) : SemOk Tryd.prog DW 84 (sem_net_Out n) := fun xs y h => by
  unfold sem_net_Out at h
  split at h
  · rename_i hl
    exact denF_ok stb Tryd.func84 (by kernel_rfl) (envOf_ok (semsOk_cons (ok_rule_Find n) semsOk_nil)) (by rw [Tryd.ntmps84]; exact hl) h
  · cases h
theorem eq_net_Out (n : Nat) (x0 x1 x2 : V) : sem_net_Out n [x0, x1, x2] =
 (V.cellsO x1).bind fun v1 =>
 ((sem_rule_Find n) [x0, x2]).bind fun v2 =>
 (bin2 Tryd.prog BinOp.lss 3 (ot 13) (oc 0) v2 (vi 0)).bind fun v3 =>
 (guardV v3 false (some x0)).bind fun v4 =>
 (guardV v3 false (some v2)).bind fun v5 =>
 (guardV v3 false ((idxS 6 v4 v5).bind fun v6 =>
 some v6)).bind fun v7 =>
 (guardV v3 false ((ptrF 3 v7).bind fun v8 =>
 some v8)).bind fun v9 =>
 (guardV v3 false ((ldp none v9).bind fun v10 =>
 some v10)).bind fun v11 =>
 (guardV v3 false ((bin2 Tryd.prog BinOp.eql 3 (ot 20) (oc 0) v11 (vi 0)).bind fun v12 =>
 some v12)).bind fun v13 =>
 (pickV v3 (vb true) v13).bind fun v14 =>
 condV v14 (
 ((fillL [(vi 0), (vi 0)] []).map V.agg).bind fun v15 =>
 (spliceV [(vi 0), (vi 0)] 0 2 v15).bind fun v16 =>
 (ldk (some 2) (List.drop 0 (aggL v16))).bind fun v17 =>
 some (V.tup [v17, (vi 0), (vb false)])) (
 (idxS 6 x0 v2).bind fun v18 =>
 (ptrF 3 v18).bind fun v19 =>
 (ldp none v19).bind fun v20 =>
 (litV v20).bind fun v21 =>
 (idxS 6 x0 v2).bind fun v22 =>
 (ptrF 4 v22).bind fun v23 =>
 (ldp none v23).bind fun v24 =>
 (litV v24).bind fun v25 =>
 (bin2 Tryd.prog BinOp.andNot 3 (ot 32) (ot 37) x2 v25).bind fun v26 =>
 (litV v26).bind fun v27 =>
 (idxS 6 x0 v2).bind fun v28 =>
 (ptrF 5 v28).bind fun v29 =>
 (ldp none v29).bind fun v30 =>
 (litV v30).bind fun v31 =>
 (bin2 Tryd.prog BinOp.or 3 (ot 38) (ot 43) v27 v31).bind fun v32 =>
 (litV v32).bind fun v33 =>
 (ldk none (List.drop 0 v1)).bind fun v34 =>
 ((fillL [(vi 0), (vi 0)] [(0, 1, v34), (1, 1, v21)]).map V.agg).bind fun v35 =>
 (spliceV [(vi 0), (vi 0)] 0 2 v35).bind fun v36 =>
 (ldk (some 2) (List.drop 0 (aggL v36))).bind fun v37 =>
 some (V.tup [v37, v33, (vb true)])) := by kernel_rfl
noncomputable def t_net_Out (a0 : (List T_Rule)) (a1 : T_Spot) (a2 : Int) : Option (T_Spot × Int × Bool) :=
 (t_rule_Find a0 a2).bind fun r3 =>
 (gd (!(decide (r3 < 0))) default (idx a0 r3)).bind fun r12 =>
 if ((decide (r3 < 0)) || (decide (r12.Out = 0))) = true then (
 some ((T_Spot.mk 0 0), 0, false)) else (
 (idx a0 r3).bind fun r28 =>
 (idx a0 r3).bind fun r33 =>
 (idx a0 r3).bind fun r40 =>
 some ((T_Spot.mk a1.Switch r28.Out), (bits .or .i64 (bits .andNot .i64 a2 r33.Set) r40.Value), true))
theorem ty_net_Out {n : Nat} (hn : bigN ≤ n) (a0 : (List T_Rule)) (a1 : T_Spot) (a2 : Int) : Rv (fun x : (T_Spot × Int × Bool) => V.tup [(T_Spot.e x.1), (vi x.2.1), (vb x.2.2)]) (sem_net_Out n [(V.sl (List.map T_Rule.c a0)), (T_Spot.e a1), (vi a2)]) (t_net_Out a0 a1 a2) := by
  rw [eq_net_Out]
  unfold t_net_Out
  refine tb (x := (T_Spot.c a1)) rfl ?_
  refine tbo (ty_rule_Find hn a0 a2) fun r3 => ?_
  refine tb (x := (vb (decide (r3 < 0)))) (d_lss) ?_
  refine tg_f (x := (V.sl (List.map T_Rule.c a0))) (fun h5 => rfl) ?_
  refine tg_f (x := (vi r3)) (fun h7 => rfl) ?_
  refine tgo_f (fun h9 => by simp only [gv_t h9]; exact rf_bind_some (p_idx (c := T_Rule.c) (fun _ => rfl) a0 r3)) fun r12 => ?_
  refine tg_f (x := (V.ptr (List.drop 3 (T_Rule.c r12)))) (fun h13 => by first | exact bind_some_eq (rfl) | (simp only [gv_t h13]; exact bind_some_eq (rfl))) ?_
  refine tg_f (x := (vi r12.Out)) (fun h16 => by first | exact bind_some_eq (rfl) | (simp only [gv_t h16]; exact bind_some_eq (rfl))) ?_
  refine tg_f (x := (vb (decide (r12.Out = 0)))) (fun h19 => by simp only [gv_t h19]; exact bind_some_eq (d_eql)) ?_
  refine tb (x := (vb ((decide (r3 < 0)) || (decide (r12.Out = 0))))) (pick_or (fun h9 => gv_t (not_f h9))) ?_
  refine tcond (fun h23 => ?_) (fun h23 => ?_)
  · refine tb (x := (T_Spot.e (T_Spot.mk 0 0))) (by kernel_rfl) ?_
    refine tb (x := V.agg (T_Spot.c (T_Spot.mk 0 0))) (by kernel_rfl) ?_
    refine tb (x := (T_Spot.e (T_Spot.mk 0 0))) rfl ?_
    exact rf_ret rfl
  · refine tbo (p_idx (c := T_Rule.c) (fun _ => rfl) a0 r3) fun r28 => ?_
    refine tb (x := (V.ptr (List.drop 3 (T_Rule.c r28)))) (rfl) ?_
    refine tb (x := (vi r28.Out)) (rfl) ?_
    refine tb (x := (vi r28.Out)) rfl ?_
    refine tbo (p_idx (c := T_Rule.c) (fun _ => rfl) a0 r3) fun r33 => ?_
    refine tb (x := (V.ptr (List.drop 4 (T_Rule.c r33)))) (rfl) ?_
    refine tb (x := (vi r33.Set)) (rfl) ?_
    refine tb (x := (vi r33.Set)) rfl ?_
    refine tb (x := (vi (bits .andNot .i64 a2 r33.Set))) (d_andNot) ?_
    refine tb (x := (vi (bits .andNot .i64 a2 r33.Set))) rfl ?_
    refine tbo (p_idx (c := T_Rule.c) (fun _ => rfl) a0 r3) fun r40 => ?_
    refine tb (x := (V.ptr (List.drop 5 (T_Rule.c r40)))) (rfl) ?_
    refine tb (x := (vi r40.Value)) (rfl) ?_
    refine tb (x := (vi r40.Value)) rfl ?_
    refine tb (x := (vi (bits .or .i64 (bits .andNot .i64 a2 r33.Set) r40.Value))) (d_or) ?_
    refine tb (x := (vi (bits .or .i64 (bits .andNot .i64 a2 r33.Set) r40.Value))) rfl ?_
    refine tb (x := (vi a1.Switch)) (rfl) ?_
    refine tb (x := (T_Spot.e (T_Spot.mk a1.Switch r28.Out))) (by kernel_rfl) ?_
    refine tb (x := V.agg (T_Spot.c (T_Spot.mk a1.Switch r28.Out))) (by kernel_rfl) ?_
    refine tb (x := (T_Spot.e (T_Spot.mk a1.Switch r28.Out))) rfl ?_
    exact rf_ret rfl

/-! railpoint/topo.Host$1 -/
def an_topo_Host_1 : Ann := .seq (.reg 0 [] [] []) (.seq (.reg 0 [] [] []) (.no))
noncomputable def sem_topo_Host_1 (n : Nat) (xs : List V) : Option V := if xs.length ≤ 8 then denF Tryd.prog (envOf []) n Tryd.f187 an_topo_Host_1 xs else none
theorem ok_topo_Host_1 (n : Nat) : SemOk Tryd.prog DW 187 (sem_topo_Host_1 n) := fun xs y h => by
  unfold sem_topo_Host_1 at h
  split at h
  · rename_i hl
    exact denF_ok stb Tryd.func187 (by kernel_rfl) (envOf_ok semsOk_nil) (by rw [Tryd.ntmps187]; exact hl) h
  · cases h
theorem eq_topo_Host_1 (n : Nat) (x0 x1 : V) : sem_topo_Host_1 n [x0, x1] =
 (V.cellsO x0).bind fun v1 =>
 (ldk (some 2) (List.drop 1 v1)).bind fun v2 =>
 (ldp (some 2) x1).bind fun v3 =>
 (bin2 Tryd.prog BinOp.eql 62 (ot 5) (ot 6) v2 v3).bind fun v4 =>
 some v4 := by kernel_rfl
noncomputable def t_topo_Host_1 (a0 : T_Host) (a1 : T_Spot) : Option Bool :=
 some (decide (a0.At = a1))
theorem ty_topo_Host_1 {n : Nat} (hn : bigN ≤ n) (a0 : T_Host) (a1 : T_Spot) : Rv (fun x : Bool => (vb x)) (sem_topo_Host_1 n [(T_Host.e a0), (V.ptr (T_Spot.c a1))]) (t_topo_Host_1 a0 a1) := by
  rw [eq_topo_Host_1]
  unfold t_topo_Host_1
  refine tb (x := (T_Host.c a0)) rfl ?_
  refine tb (x := (T_Spot.e a0.At)) (rfl) ?_
  refine tb (x := (T_Spot.e a1)) (rfl) ?_
  refine tb (x := (vb (decide (a0.At = a1)))) (T_Spot.eql a0.At a1) ?_
  exact rf_ret rfl

/-! railpoint/topo.Host -/
def an_topo_Host : Ann := .seq (.reg 0 [] [] []) (.seq (.reg 0 [3] [] []) (.seq (.seq (.reg 0 [] [] []) (.cond none (.seq (.reg 0 [] [] []) (.no)) (.no))) (.seq (.reg 0 [] [] []) (.no))))
noncomputable def sem_topo_Host (n : Nat) (xs : List V) : Option V := if xs.length ≤ 19 then denF Tryd.prog (envOf [(105, (sem_slices_IndexFunc_api_Host_api_Host (envOf [(187, (sem_topo_Host_1 n))]) n)), (187, (sem_topo_Host_1 n))]) n Tryd.f173 an_topo_Host xs else none
theorem ok_topo_Host (n : Nat) : SemOk Tryd.prog DW 173 (sem_topo_Host n) := fun xs y h => by
  unfold sem_topo_Host at h
  split at h
  · rename_i hl
    exact denF_ok stb Tryd.func173 (by kernel_rfl) (envOf_ok (semsOk_cons (ok_slices_IndexFunc_api_Host_api_Host (envOf_ok (semsOk_cons (ok_topo_Host_1 n) semsOk_nil)) n) (semsOk_cons (ok_topo_Host_1 n) semsOk_nil))) (by rw [Tryd.ntmps173]; exact hl) h
  · cases h
theorem eq_topo_Host (n : Nat) (x0 x1 : V) : sem_topo_Host n [x0, x1] =
 (V.cellsO x0).bind fun v1 =>
 (V.cellsO x1).bind fun v2 =>
 (ldk none (List.drop 2 v1)).bind fun v3 =>
 ((sem_slices_IndexFunc_api_Host_api_Host (envOf [(187, (sem_topo_Host_1 n))]) n) [v3, (V.fn 187 [(V.ptr v2)])]).bind fun v4 =>
 (bin2 Tryd.prog BinOp.lss 3 (ot 11) (oc 0) v4 (vi 0)).bind fun v5 =>
 condV v5 (
 some (V.tup [(V.lit (Go.Value.string (ByteArray.mk #[]))), (vb false)])) (
 (ldk none (List.drop 2 v1)).bind fun v6 =>
 (idxS 3 v6 v4).bind fun v7 =>
 (ptrF 0 v7).bind fun v8 =>
 (ldp none v8).bind fun v9 =>
 some (V.tup [v9, (vb true)])) := by kernel_rfl
noncomputable def t_topo_Host (a0 : T_Topo) (a1 : T_Spot) : Option (ByteArray × Bool) :=
 (t_slices_IndexFunc_api_Host_api_Host a0.Hosts (fun (a4 : T_Host) => t_topo_Host_1 a4 a1)).bind fun r6 =>
 if (decide (r6 < 0)) = true then (
 some ((ByteArray.mk #[]), false)) else (
 (idx a0.Hosts r6).bind fun r11 =>
 some (r11.Name, true))
theorem ty_topo_Host {n : Nat} (hn : bigN ≤ n) (a0 : T_Topo) (a1 : T_Spot) : Rv (fun x : (ByteArray × Bool) => V.tup [(vt x.1), (vb x.2)]) (sem_topo_Host n [(T_Topo.e a0), (T_Spot.e a1)]) (t_topo_Host a0 a1) := by
  rw [eq_topo_Host]
  unfold t_topo_Host
  refine tb (x := (T_Topo.c a0)) rfl ?_
  refine tb (x := (T_Spot.c a1)) rfl ?_
  refine tb (x := (V.sl (List.map T_Host.c a0.Hosts))) (rfl) ?_
  refine tbo (ty_slices_IndexFunc_api_Host_api_Host (E := (envOf [(187, (sem_topo_Host_1 n))])) (x1 := (V.fn 187 [(V.ptr (T_Spot.c a1))])) (g1 := (fun (a4 : T_Host) => t_topo_Host_1 a4 a1)) hn a0.Hosts (fun a4 => ty_topo_Host_1 hn a4 a1)) fun r6 => ?_
  refine tb (x := (vb (decide (r6 < 0)))) (d_lss) ?_
  refine tcond (fun h8 => ?_) (fun h8 => ?_)
  · exact rf_ret rfl
  · refine tb (x := (V.sl (List.map T_Host.c a0.Hosts))) (rfl) ?_
    refine tbo (p_idx (c := T_Host.c) (fun _ => rfl) a0.Hosts r6) fun r11 => ?_
    refine tb (x := (V.ptr (T_Host.c r11))) (rfl) ?_
    refine tb (x := (vt r11.Name)) (rfl) ?_
    exact rf_ret rfl

/-! railpoint/topo.Other -/
def an_topo_Other : Ann := .seq (.reg 0 [] [] []) (.seq (.seq (.reg 0 [] [] []) (.blk (some [.b 4]) (.loop [.kb 3, .b 4, .s 11] (.seq (.reg 0 [] [] []) (.seq (.cond none (.no) (.no)) (.seq (.blk none (.seq (.reg 0 [] [] []) (.seq (.reg 0 [] [] []) (.blk none (.seq (.reg 0 [] [] []) (.cond none (.seq (.reg 0 [] [] []) (.no)) (.seq (.reg 0 [] [] []) (.cond none (.seq (.reg 0 [] [] []) (.no)) (.no))))))))) (.reg 0 [] [] []))))))) (.seq (.reg 0 [] [] []) (.no)))
noncomputable def sem_topo_Other (n : Nat) (xs : List V) : Option V := if xs.length ≤ 30 then denF Tryd.prog (envOf []) n Tryd.f174 an_topo_Other xs else none
theorem ok_topo_Other (n : Nat) : SemOk Tryd.prog DW 174 (sem_topo_Other n) := fun xs y h => by
  unfold sem_topo_Other at h
  split at h
  · rename_i hl
    exact denF_ok stb Tryd.func174 (by kernel_rfl) (envOf_ok semsOk_nil) (by rw [Tryd.ntmps174]; exact hl) h
  · cases h
theorem eq_topo_Other (n : Nat) (x0 x1 : V) : sem_topo_Other n [x0, x1] =
 (V.cellsO x0).bind fun v1 =>
 (V.cellsO x1).bind fun v2 =>
 (ldk none (List.drop 1 v1)).bind fun v3 =>
 (lenS [v3]).bind fun v4 =>
 JoinPt (fun vs5 =>
 ((fillL [(vi 0), (vi 0)] []).map V.agg).bind fun v7 =>
 (spliceV (aggL (List.getD vs5 0 V.any)) 0 2 v7).bind fun v8 =>
 (ldk (some 2) (List.drop 0 (aggL v8))).bind fun v9 =>
 some (V.tup [v9, (vb false)])) fun J6 =>
 (keepO (some v2) (some v2) (some [(V.agg [(vi 0), (vi 0)]), (vi 0)])).bind (fixN (fun rec10 vs11 =>
 (bin2 Tryd.prog BinOp.lss 3 (ot 11) (ot 10) (List.getD vs11 1 V.any) v4).bind fun v12 =>
 condV v12 (
 (idxS 4 v3 (List.getD vs11 1 V.any)).bind fun v13 =>
 (ldp (some 4) v13).bind fun v14 =>
 (spliceV [(vi 0), (vi 0), (vi 0), (vi 0)] 0 4 v14).bind fun v15 =>
 (ldk (some 2) (List.drop 0 v2)).bind fun v16 =>
 (ldk (some 2) (List.drop 0 (aggL v15))).bind fun v17 =>
 (bin2 Tryd.prog BinOp.eql 62 (ot 15) (ot 18) v16 v17).bind fun v18 =>
 condV v18 (
 (ldk (some 2) (List.drop 2 (aggL v15))).bind fun v19 =>
 (spliceV (aggL (List.getD vs11 0 V.any)) 0 2 v19).bind fun v20 =>
 (ldk (some 2) (List.drop 0 (aggL v20))).bind fun v21 =>
 some (V.tup [v21, (vb true)])) (
 (ldk (some 2) (List.drop 2 (aggL v15))).bind fun v22 =>
 (bin2 Tryd.prog BinOp.eql 62 (ot 15) (ot 24) v16 v22).bind fun v23 =>
 condV v23 (
 (ldk (some 2) (List.drop 0 (aggL v15))).bind fun v24 =>
 (spliceV (aggL (List.getD vs11 0 V.any)) 0 2 v24).bind fun v25 =>
 (ldk (some 2) (List.drop 0 (aggL v25))).bind fun v26 =>
 some (V.tup [v26, (vb true)])) (
 (bin2 Tryd.prog BinOp.add 3 (ot 11) (oc 1) (List.getD vs11 1 V.any) (vi 1)).bind fun v27 =>
 (keepO (some v2) (some v2) (some [(V.agg (aggL (List.getD vs11 0 V.any))), v27])).bind rec10))) (
 J6 [(V.agg (aggL (List.getD vs11 0 V.any)))])) n) := by kernel_rfl
noncomputable def t_topo_Other (a0 : T_Topo) (a1 : T_Spot) : Option (T_Spot × Bool) :=
 join (fun (s7 : T_Spot) =>
 some ((T_Spot.mk 0 0), false)) fun j8 =>
 loopI a0.Links (fun (i19 : Int) x20 (s15 : Unit) k16 =>
 if (decide (a1 = x20.A)) = true then (
 some (x20.B, true)) else (
 if (decide (a1 = x20.B)) = true then (
 some (x20.A, true)) else (
 k16 ()))) (fun (s15 : Unit) =>
 j8 (T_Spot.mk 0 0)) ()
theorem ty_topo_Other {n : Nat} (hn : bigN ≤ n) (a0 : T_Topo) (a1 : T_Spot) : Rv (fun x : (T_Spot × Bool) => V.tup [(T_Spot.e x.1), (vb x.2)]) (sem_topo_Other n [(T_Topo.e a0), (T_Spot.e a1)]) (t_topo_Other a0 a1) := by
  rw [eq_topo_Other]
  unfold t_topo_Other
  refine tb (x := (T_Topo.c a0)) rfl ?_
  refine tb (x := (T_Spot.c a1)) rfl ?_
  refine tb (x := (V.sl (List.map T_Link.c a0.Links))) (rfl) ?_
  refine tb (x := (vi (List.length a0.Links : Int))) (p_len _) ?_
  refine tjoin (mk := fun s7 : T_Spot => [(V.agg (T_Spot.c s7))]) (fun s7 => ?_) fun J6 j8 h9 => ?_
  · refine tb (x := (T_Spot.e (T_Spot.mk 0 0))) (by kernel_rfl) ?_
    refine tb (x := V.agg (T_Spot.c (T_Spot.mk 0 0))) (by kernel_rfl) ?_
    refine tb (x := (T_Spot.e (T_Spot.mk 0 0))) rfl ?_
    exact rf_ret rfl
  · refine tkeepO2 ?_ rfl
    refine tsome ?_
    refine rf_loopI (mk := fun (i19 : Int) (s15 : Unit) => [(V.agg (T_Spot.c (T_Spot.mk 0 0))), (vi (i19 : Int))]) hn a0.Links () (fun i19 x20 h21 h22 h23 s15 rec13 k16 h17 => ?_) (fun s15 rec43 h42 => ?_)
    · refine tb (x := (vb (decide ((i19 : Int) < (List.length a0.Links : Int))))) (d_lss) ?_
      refine tcond_t h23 ?_
      refine tb (x := (V.ptr (T_Link.c x20))) (p_idx_at (c := T_Link.c) (fun _ => rfl) h21) ?_
      refine tb (x := (T_Link.e x20)) (rfl) ?_
      refine tb (x := V.agg (T_Link.c x20)) (by kernel_rfl) ?_
      refine tb (x := (T_Spot.e a1)) (rfl) ?_
      refine tb (x := (T_Spot.e x20.A)) (rfl) ?_
      refine tb (x := (vb (decide (a1 = x20.A)))) (T_Spot.eql a1 x20.A) ?_
      refine tcond (fun h31 => ?_) (fun h31 => ?_)
      · refine tb (x := (T_Spot.e x20.B)) (rfl) ?_
        refine tb (x := V.agg (T_Spot.c x20.B)) (by kernel_rfl) ?_
        refine tb (x := (T_Spot.e x20.B)) rfl ?_
        exact rf_ret rfl
      · refine tb (x := (T_Spot.e x20.B)) (rfl) ?_
        refine tb (x := (vb (decide (a1 = x20.B)))) (T_Spot.eql a1 x20.B) ?_
        refine tcond (fun h37 => ?_) (fun h37 => ?_)
        · refine tb (x := (T_Spot.e x20.A)) (rfl) ?_
          refine tb (x := V.agg (T_Spot.c x20.A)) (by kernel_rfl) ?_
          refine tb (x := (T_Spot.e x20.A)) rfl ?_
          exact rf_ret rfl
        · refine tb (x := (vi ((i19 : Int) + 1))) (p_incN h22) ?_
          refine tkeepO2 ?_ rfl
          refine tsome ?_
          exact h17 ()
    · refine tb (x := (vb (decide ((List.length a0.Links : Int) < (List.length a0.Links : Int))))) (d_lss) ?_
      refine tcond_f h42 ?_
      exact h9 (T_Spot.mk 0 0)

/-! slices.Index   railpoint/api.Hop railpoint/api.Hop  -/
def an_slices_Index_api_Hop_api_Hop : Ann := .seq (.reg 0 [] [] []) (.seq (.seq (.reg 0 [] [] []) (.blk (some []) (.loop [.kb 3, .s 8] (.seq (.reg 0 [] [] []) (.seq (.cond none (.no) (.no)) (.seq (.blk none (.seq (.reg 0 [] [] []) (.seq (.reg 6 [] [] []) (.cond none (.seq (.reg 0 [] [] []) (.no)) (.no))))) (.reg 0 [] [] []))))))) (.seq (.reg 0 [] [] []) (.no)))
noncomputable def sem_slices_Index_api_Hop_api_Hop (n : Nat) (xs : List V) : Option V := if xs.length ≤ 19 then denF Tryd.prog (envOf []) n Tryd.f188 an_slices_Index_api_Hop_api_Hop xs else none
theorem ok_slices_Index_api_Hop_api_Hop (n : Nat) : SemOk Tryd.prog DW 188 (sem_slices_Index_api_Hop_api_Hop n) := fun xs y h => by
  unfold sem_slices_Index_api_Hop_api_Hop at h
  split at h
  · rename_i hl
    exact denF_ok stb Tryd.func188 (by kernel_rfl) (envOf_ok semsOk_nil) (by rw [Tryd.ntmps188]; exact hl) h
  · cases h
theorem eq_slices_Index_api_Hop_api_Hop (n : Nat) (x0 x1 : V) : sem_slices_Index_api_Hop_api_Hop n [x0, x1] =
 (V.cellsO x1).bind fun v1 =>
 (lenS [x0]).bind fun v2 =>
 JoinPt (fun vs3 =>
 some (vi (-1 : Int))) fun J4 =>
 (keepO (some v1) (some v1) (some [(vi 0)])).bind (fixN (fun rec5 vs6 =>
 (bin2 Tryd.prog BinOp.lss 3 (ot 8) (ot 7) (List.getD vs6 0 V.any) v2).bind fun v7 =>
 condV v7 (
 (ldk (some 3) (List.drop 0 v1)).bind fun v8 =>
 (idxS 3 x0 (List.getD vs6 0 V.any)).bind fun v9 =>
 (ldp (some 3) v9).bind fun v10 =>
 (bin2 Tryd.prog BinOp.eql 112 (ot 11) (ot 15) v8 v10).bind fun v11 =>
 condV v11 (
 some (List.getD vs6 0 V.any)) (
 (bin2 Tryd.prog BinOp.add 3 (ot 8) (oc 1) (List.getD vs6 0 V.any) (vi 1)).bind fun v12 =>
 (keepO (some v1) (some v1) (some [v12])).bind rec5)) (
 J4 [])) n) := by kernel_rfl
noncomputable def t_slices_Index_api_Hop_api_Hop (a0 : (List T_Hop)) (a1 : T_Hop) : Option Int :=
 join (fun (s5 : Unit) =>
 some (-1 : Int)) fun j6 =>
 loopI a0 (fun (i14 : Int) x15 (s10 : Unit) k11 =>
 if (decide (a1 = x15)) = true then (
 some i14) else (
 k11 ())) (fun (s10 : Unit) =>
 j6 ()) ()
theorem ty_slices_Index_api_Hop_api_Hop {n : Nat} (hn : bigN ≤ n) (a0 : (List T_Hop)) (a1 : T_Hop) : Rv (fun x : Int => (vi x)) (sem_slices_Index_api_Hop_api_Hop n [(V.sl (List.map T_Hop.c a0)), (T_Hop.e a1)]) (t_slices_Index_api_Hop_api_Hop a0 a1) := by
  rw [eq_slices_Index_api_Hop_api_Hop]
  unfold t_slices_Index_api_Hop_api_Hop
  refine tb (x := (T_Hop.c a1)) rfl ?_
  refine tb (x := (vi (List.length a0 : Int))) (p_len _) ?_
  refine tjoin (mk := fun s5 : Unit => []) (fun s5 => ?_) fun J4 j6 h7 => ?_
  · exact rf_ret rfl
  · refine tkeepO2 ?_ rfl
    refine tsome ?_
    refine rf_loopI (mk := fun (i14 : Int) (s10 : Unit) => [(vi (i14 : Int))]) hn a0 () (fun i14 x15 h16 h17 h18 s10 rec8 k11 h12 => ?_) (fun s10 rec27 h26 => ?_)
    · refine tb (x := (vb (decide ((i14 : Int) < (List.length a0 : Int))))) (d_lss) ?_
      refine tcond_t h18 ?_
      refine tb (x := (T_Hop.e a1)) (rfl) ?_
      refine tb (x := (V.ptr (T_Hop.c x15))) (p_idx_at (c := T_Hop.c) (fun _ => rfl) h16) ?_
      refine tb (x := (T_Hop.e x15)) (rfl) ?_
      refine tb (x := (vb (decide (a1 = x15)))) (T_Hop.eql a1 x15) ?_
      refine tcond (fun h24 => ?_) (fun h24 => ?_)
      · exact rf_ret rfl
      · refine tb (x := (vi ((i14 : Int) + 1))) (p_incN h17) ?_
        refine tkeepO2 ?_ rfl
        refine tsome ?_
        exact h12 ()
    · refine tb (x := (vb (decide ((List.length a0 : Int) < (List.length a0 : Int))))) (d_lss) ?_
      refine tcond_f h26 ?_
      exact h7 ()

/-! slices.Contains   railpoint/api.Hop railpoint/api.Hop  -/
def an_slices_Contains_api_Hop_api_Hop : Ann := .seq (.reg 0 [] [] []) (.seq (.reg 0 [] [] []) (.no))
noncomputable def sem_slices_Contains_api_Hop_api_Hop (n : Nat) (xs : List V) : Option V := if xs.length ≤ 9 then denF Tryd.prog (envOf [(188, (sem_slices_Index_api_Hop_api_Hop n))]) n Tryd.f175 an_slices_Contains_api_Hop_api_Hop xs else none
theorem ok_slices_Contains_api_Hop_api_Hop (n : Nat) : SemOk Tryd.prog DW 175 (sem_slices_Contains_api_Hop_api_Hop n) := fun xs y h => by
  unfold sem_slices_Contains_api_Hop_api_Hop at h
  split at h
  · rename_i hl
    exact denF_ok stb Tryd.func175 (by kernel_rfl) (envOf_ok (semsOk_cons (ok_slices_Index_api_Hop_api_Hop n) semsOk_nil)) (by rw [Tryd.ntmps175]; exact hl) h
  · cases h
theorem eq_slices_Contains_api_Hop_api_Hop (n : Nat) (x0 x1 : V) : sem_slices_Contains_api_Hop_api_Hop n [x0, x1] =
 (V.cellsO x1).bind fun v1 =>
 (ldk (some 3) (List.drop 0 v1)).bind fun v2 =>
 ((sem_slices_Index_api_Hop_api_Hop n) [x0, v2]).bind fun v3 =>
 (bin2 Tryd.prog BinOp.geq 3 (ot 7) (oc 0) v3 (vi 0)).bind fun v4 =>
 some v4 := by kernel_rfl
noncomputable def t_slices_Contains_api_Hop_api_Hop (a0 : (List T_Hop)) (a1 : T_Hop) : Option Bool :=
 (t_slices_Index_api_Hop_api_Hop a0 a1).bind fun r4 =>
 some (decide (0 ≤ r4))
theorem ty_slices_Contains_api_Hop_api_Hop {n : Nat} (hn : bigN ≤ n) (a0 : (List T_Hop)) (a1 : T_Hop) : Rv (fun x : Bool => (vb x)) (sem_slices_Contains_api_Hop_api_Hop n [(V.sl (List.map T_Hop.c a0)), (T_Hop.e a1)]) (t_slices_Contains_api_Hop_api_Hop a0 a1) := by
  rw [eq_slices_Contains_api_Hop_api_Hop]
  unfold t_slices_Contains_api_Hop_api_Hop
  refine tb (x := (T_Hop.c a1)) rfl ?_
  refine tb (x := (T_Hop.e a1)) (rfl) ?_
  refine tbo (ty_slices_Index_api_Hop_api_Hop hn a0 a1) fun r4 => ?_
  refine tb (x := (vb (decide (0 ≤ r4)))) (d_geq) ?_
  exact rf_ret rfl

/-! railpoint/net.Go -/
def an_net_Go : Ann := .seq (.reg 0 [] [] []) (.seq (.reg 13 [] [] []) (.seq (.reg 0 [] [] []) (.seq (.seq (.reg 0 [] [] []) (.cond none (.seq (.reg 0 [] [] []) (.seq (.reg 0 [] [] []) (.no))) (.no))) (.seq (.seq (.reg 0 [] [] []) (.seq (.reg 0 [] [] []) (.cond none (.seq (.reg 0 [] [] []) (.seq (.reg 0 [] [] []) (.no))) (.no)))) (.seq (.reg 0 [] [] []) (.seq (.seq (.reg 0 [] [] []) (.cond none (.seq (.reg 0 [] [] []) (.seq (.reg 0 [] [] []) (.no))) (.no))) (.seq (.reg 0 [] [] []) (.seq (.seq (.reg 14 [] [] []) (.cond none (.seq (.reg 0 [] [] []) (.seq (.reg 0 [] [] []) (.no))) (.no))) (.seq (.reg 8 [] [] [1000092]) (.seq (.reg 0 [] [] []) (.no)))))))))))
noncomputable def sem_net_Go (n : Nat) (xs : List V) : Option V := if xs.length ≤ 98 then denM Tryd.prog (envOf [(84, (sem_net_Out n)), (173, (sem_topo_Host n)), (174, (sem_topo_Other n)), (175, (sem_slices_Contains_api_Hop_api_Hop n)), (176 + 1000000 * (112 + 2), (semClone 3))]) n Tryd.f138 an_net_Go [0, 0, 2] none xs else none
theorem ok_net_Go (n : Nat) : MSemOk Tryd.prog DW 138 (sem_net_Go n) := fun xs y h => by
  unfold sem_net_Go at h
  split at h
  · rename_i hl
    exact denM_ok Tryd.func138 (by kernel_rfl) (envOf_ok (semsOk_cons (ok_net_Out n) (semsOk_cons (ok_topo_Host n) (semsOk_cons (ok_topo_Other n) (semsOk_cons (ok_slices_Contains_api_Hop_api_Hop n) (semsOk_consR (rok_slices_Clone_api_Hop_api_Hop) semsOk_nil)))))) (by rw [Tryd.ntmps138]; exact hl) (by decide) h
  · cases h
theorem eq_net_Go (n : Nat) (x0 x1 x2 : V) : sem_net_Go n [x0, x1, x2] =
 (pureO x0).bind fun v1 =>
 (pureO x1).bind fun v2 =>
 (objG x2).bind fun v3 =>
 (V.cellsO x0).bind fun v4 =>
 (some V.any).bind fun v5 =>
 (some V.any).bind fun v6 =>
 ((nodeL x2 none 0).bind fun l7 => (ldk none (List.drop 2 l7)).bind pureO).bind fun v8 =>
 (some V.any).bind fun v9 =>
 (some V.any).bind fun v10 =>
 ((nodeL x2 none 0).bind fun l11 => (ldk none (List.drop 2 l11)).bind pureO).bind fun v12 =>
 (lenS [v12]).bind fun v13 =>
 (bin2 Tryd.prog BinOp.sub 3 (ot 23) (oc 1) v13 (vi 1)).bind fun v14 =>
 (idxS 3 v8 v14).bind fun v15 =>
 (ldp (some 3) v15).bind fun v16 =>
 (spliceV [(vi 0), (vi 0), (vi 0)] 0 3 v16).bind fun v17 =>
 (ldk (some 2) (List.drop 0 (aggL v17))).bind fun v18 =>
 (ldk none (List.drop 2 (aggL v17))).bind fun v19 =>
 ((sem_net_Out n) [x1, v18, v19]).bind fun v20 =>
 (extractV v20 0).bind fun v21 =>
 (extractV v20 1).bind fun v22 =>
 (extractV v20 2).bind fun v23 =>
 (spliceV [(vi 0), (vi 0)] 0 2 v21).bind fun v24 =>
 (scal1 Tryd.prog (Op.unary Go.UnOp.not) v23).bind fun v25 =>
 condV v25 (
 (some V.any).bind fun v26 =>
 (some V.any).bind fun v27 =>
 (V.cellsO (vi 2)).bind fun v28 =>
 (setV x2 [] (Stp.mk none 0 0) 1 v28).bind fun v29 =>
 some (V.tup [(vb false), V.any, V.any, v29])) (
 (ldk (some 3) (List.drop 0 v4)).bind fun v30 =>
 (ldk (some 2) (List.drop 0 (aggL v24))).bind fun v31 =>
 ((sem_topo_Host n) [v30, v31]).bind fun v32 =>
 (extractV v32 0).bind fun v33 =>
 (extractV v32 1).bind fun v34 =>
 condV v34 (
 (some V.any).bind fun v35 =>
 (some V.any).bind fun v36 =>
 (V.cellsO (vi 1)).bind fun v37 =>
 (setV x2 [] (Stp.mk none 0 0) 1 v37).bind fun v38 =>
 (some V.any).bind fun v39 =>
 (some V.any).bind fun v40 =>
 (V.cellsO v33).bind fun v41 =>
 (setV v38 [] (Stp.mk none 1 0) 1 v41).bind fun v42 =>
 some (V.tup [(vb false), V.any, V.any, v42])) (
 (ldk (some 3) (List.drop 0 v4)).bind fun v43 =>
 (ldk (some 2) (List.drop 0 (aggL v24))).bind fun v44 =>
 ((sem_topo_Other n) [v43, v44]).bind fun v45 =>
 (extractV v45 0).bind fun v46 =>
 (extractV v45 1).bind fun v47 =>
 (spliceV [(vi 0), (vi 0)] 0 2 v46).bind fun v48 =>
 (scal1 Tryd.prog (Op.unary Go.UnOp.not) v47).bind fun v49 =>
 condV v49 (
 (some V.any).bind fun v50 =>
 (some V.any).bind fun v51 =>
 (V.cellsO (vi 3)).bind fun v52 =>
 (setV x2 [] (Stp.mk none 0 0) 1 v52).bind fun v53 =>
 some (V.tup [(vb false), V.any, V.any, v53])) (
 (ldk (some 2) (List.drop 0 (aggL v48))).bind fun v54 =>
 ((fillL [(vi 0), (vi 0), (vi 0)] [(0, 2, v54), (2, 1, v22)]).map V.agg).bind fun v55 =>
 (spliceV [(vi 0), (vi 0), (vi 0)] 0 3 v55).bind fun v56 =>
 (some V.any).bind fun v57 =>
 (some V.any).bind fun v58 =>
 ((nodeL x2 none 0).bind fun l59 => (ldk none (List.drop 2 l59)).bind pureO).bind fun v60 =>
 (ldk (some 3) (List.drop 0 (aggL v56))).bind fun v61 =>
 ((sem_slices_Contains_api_Hop_api_Hop n) [v60, v61]).bind fun v62 =>
 (guardV v62 false (some V.any)).bind fun v63 =>
 (guardV v62 false (gate v62 false (some V.any))).bind fun v64 =>
 (guardV v62 false (gate v62 false (gate v62 false (some V.any)))).bind fun v65 =>
 (guardV v62 false ((gate v62 false (gate v62 false (gate v62 false ((nodeL x2 none 0).bind fun l66 => (ldk none (List.drop 2 l66)).bind pureO)))).bind fun v67 =>
 some v67)).bind fun v68 =>
 (guardV v62 false ((lenS [v68]).bind fun v69 =>
 some v69)).bind fun v70 =>
 (guardV v62 false ((bin2 Tryd.prog BinOp.geq 3 (ot 81) (oc 24) v70 (vi 24)).bind fun v71 =>
 some v71)).bind fun v72 =>
 (pickV v62 (vb true) v72).bind fun v73 =>
 condV v73 (
 (some V.any).bind fun v74 =>
 (some V.any).bind fun v75 =>
 (V.cellsO (vi 4)).bind fun v76 =>
 (setV x2 [] (Stp.mk none 0 0) 1 v76).bind fun v77 =>
 some (V.tup [(vb false), V.any, V.any, v77])) (
 (some V.any).bind fun v78 =>
 (some V.any).bind fun v79 =>
 ((nodeL x2 none 0).bind fun l80 => (ldk none (List.drop 2 l80)).bind pureO).bind fun v81 =>
 ((semClone 3) [v81]).bind fun v82 =>
 (ldk (some 3) (List.drop 0 (aggL v56))).bind fun v83 =>
 (slcB 3 1 [(vi 0), (vi 0), (vi 0)] [(0, v83)]).bind fun v84 =>
 (appV 3 (slL3 v82) v84).bind fun v85 =>
 (some V.any).bind fun v86 =>
 (some V.any).bind fun v87 =>
 (V.cellsO (V.sl (slL v85))).bind fun v88 =>
 (setV x2 [] (Stp.mk none 2 0) 1 v88).bind fun v89 =>
 some (V.tup [(vb true), V.any, V.any, v89]))))) := by kernel_rfl
noncomputable def t_net_Go (a0 : T_Topo) (a1 : (List T_Rule)) (a2 : T_Fate) : Option (Bool × T_Fate) :=
 (idx a2.Hops (wr ((List.length a2.Hops : Int) - 1))).bind fun r14 =>
 (t_net_Out a1 r14.At r14.Header).bind fun r20 =>
 if (!r20.2.2) = true then (
 some (false, (T_Fate.mk 2 a2.Host a2.Hops))) else (
 (t_topo_Host a0 r20.1).bind fun r34 =>
 if r34.2 = true then (
 some (false, (T_Fate.mk 1 r34.1 a2.Hops))) else (
 (t_topo_Other a0 r20.1).bind fun r49 =>
 if (!r49.2) = true then (
 some (false, (T_Fate.mk 3 a2.Host a2.Hops))) else (
 (t_slices_Contains_api_Hop_api_Hop a2.Hops (T_Hop.mk r49.1 r20.2.1)).bind fun r67 =>
 if (r67 || (decide (24 ≤ (List.length a2.Hops : Int)))) = true then (
 some (false, (T_Fate.mk 4 a2.Host a2.Hops))) else (
 (cln a2.Hops).bind fun r93 =>
 (app r93 ([(T_Hop.mk r49.1 r20.2.1)] : (List T_Hop))).bind fun r97 =>
 some (true, (T_Fate.mk a2.How a2.Host r97))))))
theorem ty_net_Go {n : Nat} (hn : bigN ≤ n) (a0 : T_Topo) (a1 : (List T_Rule)) (a2 : T_Fate) : Rv (fun x : (Bool × T_Fate) => (V.tup [(vb x.1), V.any, V.any, (V.obj (T_Fate.c x.2))])) (sem_net_Go n [(T_Topo.e a0), (V.sl (List.map T_Rule.c a1)), (V.obj (T_Fate.c a2))]) (t_net_Go a0 a1 a2) := by
  rw [eq_net_Go]
  unfold t_net_Go
  refine tb (x := (T_Topo.e a0)) rfl ?_
  refine tb (x := (V.sl (List.map T_Rule.c a1))) rfl ?_
  refine tb (x := V.any) rfl ?_
  refine tb (x := (T_Topo.c a0)) rfl ?_
  refine tb (x := V.any) rfl ?_
  refine tb (x := V.any) rfl ?_
  refine tb (x := (V.sl (List.map T_Hop.c a2.Hops))) (rfl) ?_
  refine tb (x := V.any) rfl ?_
  refine tb (x := V.any) rfl ?_
  refine tb (x := (V.sl (List.map T_Hop.c a2.Hops))) (rfl) ?_
  refine tb (x := (vi (List.length a2.Hops : Int))) (p_len _) ?_
  refine tb (x := (vi (wr ((List.length a2.Hops : Int) - 1)))) (d_sub) ?_
  refine tbo (p_idx (c := T_Hop.c) (fun _ => rfl) a2.Hops (wr ((List.length a2.Hops : Int) - 1))) fun r14 => ?_
  refine tb (x := (T_Hop.e r14)) (rfl) ?_
  refine tb (x := V.agg (T_Hop.c r14)) (by kernel_rfl) ?_
  refine tb (x := (T_Spot.e r14.At)) (rfl) ?_
  refine tb (x := (vi r14.Header)) (rfl) ?_
  refine tbo (ty_net_Out hn a1 r14.At r14.Header) fun r20 => ?_
  refine tb (x := (T_Spot.e r20.1)) (rfl) ?_
  refine tb (x := (vi r20.2.1)) (rfl) ?_
  refine tb (x := (vb r20.2.2)) (rfl) ?_
  refine tb (x := V.agg (T_Spot.c r20.1)) (by kernel_rfl) ?_
  refine tb (x := (vb (!r20.2.2))) (d_not) ?_
  refine tcond (fun h26 => ?_) (fun h26 => ?_)
  · refine tb (x := V.any) rfl ?_
    refine tb (x := V.any) rfl ?_
    refine tb (x := [(vi 2)]) rfl ?_
    refine tb (x := V.obj (T_Fate.c (T_Fate.mk 2 a2.Host a2.Hops))) (by kernel_rfl) ?_
    exact rf_ret rfl
  · refine tb (x := (T_Topo.e a0)) (rfl) ?_
    refine tb (x := (T_Spot.e r20.1)) (rfl) ?_
    refine tbo (ty_topo_Host hn a0 r20.1) fun r34 => ?_
    refine tb (x := (vt r34.1)) (rfl) ?_
    refine tb (x := (vb r34.2)) (rfl) ?_
    refine tcond (fun h37 => ?_) (fun h37 => ?_)
    · refine tb (x := V.any) rfl ?_
      refine tb (x := V.any) rfl ?_
      refine tb (x := [(vi 1)]) rfl ?_
      refine tb (x := V.obj (T_Fate.c (T_Fate.mk 1 a2.Host a2.Hops))) (by kernel_rfl) ?_
      refine tb (x := V.any) rfl ?_
      refine tb (x := V.any) rfl ?_
      refine tb (x := [(vt r34.1)]) rfl ?_
      refine tb (x := V.obj (T_Fate.c (T_Fate.mk 1 r34.1 a2.Hops))) (by kernel_rfl) ?_
      exact rf_ret rfl
    · refine tb (x := (T_Topo.e a0)) (rfl) ?_
      refine tb (x := (T_Spot.e r20.1)) (rfl) ?_
      refine tbo (ty_topo_Other hn a0 r20.1) fun r49 => ?_
      refine tb (x := (T_Spot.e r49.1)) (rfl) ?_
      refine tb (x := (vb r49.2)) (rfl) ?_
      refine tb (x := V.agg (T_Spot.c r49.1)) (by kernel_rfl) ?_
      refine tb (x := (vb (!r49.2))) (d_not) ?_
      refine tcond (fun h54 => ?_) (fun h54 => ?_)
      · refine tb (x := V.any) rfl ?_
        refine tb (x := V.any) rfl ?_
        refine tb (x := [(vi 3)]) rfl ?_
        refine tb (x := V.obj (T_Fate.c (T_Fate.mk 3 a2.Host a2.Hops))) (by kernel_rfl) ?_
        exact rf_ret rfl
      · refine tb (x := (T_Spot.e r49.1)) (rfl) ?_
        refine tb (x := (T_Hop.e (T_Hop.mk r49.1 r20.2.1))) (by kernel_rfl) ?_
        refine tb (x := V.agg (T_Hop.c (T_Hop.mk r49.1 r20.2.1))) (by kernel_rfl) ?_
        refine tb (x := V.any) rfl ?_
        refine tb (x := V.any) rfl ?_
        refine tb (x := (V.sl (List.map T_Hop.c a2.Hops))) (rfl) ?_
        refine tb (x := (T_Hop.e (T_Hop.mk r49.1 r20.2.1))) (rfl) ?_
        refine tbo (ty_slices_Contains_api_Hop_api_Hop hn a2.Hops (T_Hop.mk r49.1 r20.2.1)) fun r67 => ?_
        refine tg_f (x := V.any) (fun h68 => rfl) ?_
        refine tg_f (x := V.any) (fun h70 => by first | exact gate_pos (not_t h70) (rfl) | (simp only [gv_t h70]; exact gate_pos (not_t h70) (rfl))) ?_
        refine tg_f (x := V.any) (fun h72 => by first | exact gate_pos (not_t h72) (gate_pos (not_t h72) (rfl)) | (simp only [gv_t h72]; exact gate_pos (not_t h72) (gate_pos (not_t h72) (rfl)))) ?_
        refine tg_f (x := (V.sl (List.map T_Hop.c a2.Hops))) (fun h74 => by first | exact bind_some_eq (gate_pos (not_t h74) (gate_pos (not_t h74) (gate_pos (not_t h74) (rfl)))) | (simp only [gv_t h74]; exact bind_some_eq (gate_pos (not_t h74) (gate_pos (not_t h74) (gate_pos (not_t h74) (rfl)))))) ?_
        refine tg_f (x := (vi (List.length a2.Hops : Int))) (fun h77 => by simp only [gv_t h77]; exact bind_some_eq (p_len _)) ?_
        refine tg_f (x := (vb (decide (24 ≤ (List.length a2.Hops : Int))))) (fun h80 => by simp only [gv_t h80]; exact bind_some_eq (d_geq)) ?_
        refine tb (x := (vb (r67 || (decide (24 ≤ (List.length a2.Hops : Int)))))) (pick_or (fun h9 => gv_t (not_f h9))) ?_
        refine tcond (fun h84 => ?_) (fun h84 => ?_)
        · refine tb (x := V.any) rfl ?_
          refine tb (x := V.any) rfl ?_
          refine tb (x := [(vi 4)]) rfl ?_
          refine tb (x := V.obj (T_Fate.c (T_Fate.mk 4 a2.Host a2.Hops))) (by kernel_rfl) ?_
          exact rf_ret rfl
        · refine tb (x := V.any) rfl ?_
          refine tb (x := V.any) rfl ?_
          refine tb (x := (V.sl (List.map T_Hop.c a2.Hops))) (rfl) ?_
          refine tbo (p_clone (c := T_Hop.c) (fun _ => rfl) a2.Hops) fun r93 => ?_
          refine tb (x := (T_Hop.e (T_Hop.mk r49.1 r20.2.1))) (rfl) ?_
          refine tb (x := (V.sl (List.map T_Hop.c ([(T_Hop.mk r49.1 r20.2.1)] : (List T_Hop))))) (by kernel_rfl) ?_
          refine tbo (p_app (c := T_Hop.c) (fun _ => rfl) r93 ([(T_Hop.mk r49.1 r20.2.1)] : (List T_Hop))) fun r97 => ?_
          refine tb (x := V.any) rfl ?_
          refine tb (x := V.any) rfl ?_
          refine tb (x := [(V.sl (List.map T_Hop.c r97))]) rfl ?_
          refine tb (x := V.obj (T_Fate.c (T_Fate.mk a2.How a2.Host r97))) (by kernel_rfl) ?_
          exact rf_ret rfl

/-! railpoint/net.Of -/
def an_net_Of : Ann := .seq (.reg 0 [] [] []) (.seq (.reg 0 [] [] [7]) (.seq (.blk (some [.kb 6, .o 7]) (.loop [.kb 3, .kb 6, .o 7] (.seq (.seq (.reg 17 [] [] []) (.cond none (.no) (.no))) (.blk none (.no))))) (.seq (.reg 0 [] [] []) (.no))))
noncomputable def sem_net_Of (n : Nat) (xs : List V) : Option V := if xs.length ≤ 30 then denF Tryd.prog (envOf [(137, (sem_net_Begin n)), (138 + 1000000, (sem_net_Go n))]) n Tryd.f77 an_net_Of xs else none
theorem ok_net_Of (n : Nat) : SemOk Tryd.prog DW 77 (sem_net_Of n) := fun xs y h => by
  unfold sem_net_Of at h
  split at h
  · rename_i hl
    exact denF_ok stb Tryd.func77 (by kernel_rfl) (envOf_ok (semsOk_cons (ok_net_Begin n) (semsOk_consM (ok_net_Go n) semsOk_nil))) (by rw [Tryd.ntmps77]; exact hl) h
  · cases h
theorem eq_net_Of (n : Nat) (x0 x1 x2 : V) : sem_net_Of n [x0, x1, x2] =
 (V.cellsO x0).bind fun v1 =>
 (V.cellsO x1).bind fun v2 =>
 (ldk (some 2) (List.drop 0 v2)).bind fun v3 =>
 ((sem_net_Begin n) [v3, x2]).bind fun v4 =>
 (V.cellsO v4).bind fun v5 =>
 (setV (V.obj [(vi 0), (V.lit (Go.Value.string (ByteArray.mk #[]))), (V.sl [])]) [] (Stp.mk none 0 0) 3 v5).bind fun v6 =>
 JoinPt (fun vs7 =>
 ((nodeL (List.getD vs7 0 V.any) none 0).bind fun l9 => (ldk (some 3) (List.drop 0 l9)).bind pureO).bind fun v10 =>
 (spliceV [(vi 0), (V.lit (Go.Value.string (ByteArray.mk #[]))), (V.sl [])] 0 3 v10).bind fun v11 =>
 (ldk (some 3) (List.drop 0 (aggL v11))).bind fun v12 =>
 some v12) fun J8 =>
 (keepO (some v1) (some v1) (keepO (some [(vi 0), (V.lit (Go.Value.string (ByteArray.mk #[]))), (V.sl [])]) (some [(vi 0), (V.lit (Go.Value.string (ByteArray.mk #[]))), (V.sl [])]) (some [v6]))).bind (fixN (fun rec13 vs14 =>
 (ldk (some 3) (List.drop 0 v1)).bind fun v15 =>
 (ldk none (List.drop 3 v1)).bind fun v16 =>
 (some V.any).bind fun v17 =>
 ((nodeL (List.getD vs14 0 V.any) none 0).bind fun l18 => (ldk none (List.drop 2 l18)).bind pureO).bind fun v19 =>
 (some V.any).bind fun v20 =>
 ((nodeL (List.getD vs14 0 V.any) none 0).bind fun l21 => (ldk none (List.drop 2 l21)).bind pureO).bind fun v22 =>
 (lenS [v22]).bind fun v23 =>
 (bin2 Tryd.prog BinOp.sub 3 (ot 19) (oc 1) v23 (vi 1)).bind fun v24 =>
 (idxS 3 v19 v24).bind fun v25 =>
 (ptrF 0 v25).bind fun v26 =>
 (ptrF 0 v26).bind fun v27 =>
 (ldp none v27).bind fun v28 =>
 (bin2 Tryd.prog BinOp.sub 3 (ot 24) (oc 1) v28 (vi 1)).bind fun v29 =>
 (idxS 1 v16 v29).bind fun v30 =>
 (ldp none v30).bind fun v31 =>
 (objG (List.getD vs14 0 V.any)).bind fun v32 =>
 ((sem_net_Go n) [v15, v31, (List.getD vs14 0 V.any)]).bind fun z33 =>
 (pureO (tupAt z33 0)).bind fun v34 =>
 condV v34 (
 (keepO (some v1) (some v1) (keepO (some [(vi 0), (V.lit (Go.Value.string (ByteArray.mk #[]))), (V.sl [])]) (some [(vi 0), (V.lit (Go.Value.string (ByteArray.mk #[]))), (V.sl [])]) (some [(tupAt z33 3)]))).bind rec13) (
 (keepO (some [(vi 0), (V.lit (Go.Value.string (ByteArray.mk #[]))), (V.sl [])]) (some [(vi 0), (V.lit (Go.Value.string (ByteArray.mk #[]))), (V.sl [])]) (some [(tupAt z33 3)])).bind J8)) n) := by kernel_rfl
noncomputable def t_net_Of (a0 : T_Net) (a1 : T_Spot) (a2 : Int) : Option T_Fate :=
 (t_net_Begin a1 a2).bind fun r5 =>
 (tfix (fun k19 (s18 : T_Fate) =>
 (idx s18.Hops (wr ((List.length s18.Hops : Int) - 1))).bind fun r32 =>
 (idx a0.Tables (wr (r32.At.Switch - 1))).bind fun r38 =>
 (t_net_Go a0.Topo r38 s18).bind fun r42 =>
 if r42.1 = true then (
 k19 (r42.2)) else (
 some (r42.2))) bigN (r5)).bind fun (s10 : T_Fate) =>
 some s10
theorem ty_net_Of {n : Nat} (hn : bigN ≤ n) (a0 : T_Net) (a1 : T_Spot) (a2 : Int) : Rv (fun x : T_Fate => (T_Fate.e x)) (sem_net_Of n [(T_Net.e a0), (T_Spot.e a1), (vi a2)]) (t_net_Of a0 a1 a2) := by
  rw [eq_net_Of]
  unfold t_net_Of
  refine tb (x := (T_Net.c a0)) rfl ?_
  refine tb (x := (T_Spot.c a1)) rfl ?_
  refine tb (x := (T_Spot.e a1)) (rfl) ?_
  refine tbo (ty_net_Begin hn a1 a2) fun r5 => ?_
  refine tb (x := (T_Fate.c r5)) rfl ?_
  refine tb (x := V.obj (T_Fate.c r5)) (by kernel_rfl) ?_
  refine tjb (mk := fun s10 : T_Fate => [(V.obj (T_Fate.c s10))]) (fun J9 => ?_) fun s10 => ?_
  · refine tkeepO2 ?_ rfl
    refine tkeepO2 ?_ rfl
    refine tsome ?_
    refine rf_fixN (mk := fun (s18 : T_Fate) => [(V.obj (T_Fate.c s18))]) hn (r5) (fun rec16 k19 h20 s18 => ?_)
    refine tb (x := (T_Topo.e a0.Topo)) (rfl) ?_
    refine tb (x := (V.sl (List.map (cS T_Rule.c) a0.Tables))) (rfl) ?_
    refine tb (x := V.any) rfl ?_
    refine tb (x := (V.sl (List.map T_Hop.c s18.Hops))) (rfl) ?_
    refine tb (x := V.any) rfl ?_
    refine tb (x := (V.sl (List.map T_Hop.c s18.Hops))) (rfl) ?_
    refine tb (x := (vi (List.length s18.Hops : Int))) (p_len _) ?_
    refine tb (x := (vi (wr ((List.length s18.Hops : Int) - 1)))) (d_sub) ?_
    refine tbo (p_idx (c := T_Hop.c) (fun _ => rfl) s18.Hops (wr ((List.length s18.Hops : Int) - 1))) fun r32 => ?_
    refine tb (x := (V.ptr (T_Hop.c r32))) (rfl) ?_
    refine tb (x := (V.ptr (T_Hop.c r32))) (rfl) ?_
    refine tb (x := (vi r32.At.Switch)) (rfl) ?_
    refine tb (x := (vi (wr (r32.At.Switch - 1)))) (d_sub) ?_
    refine tbo (p_idx (c := (cS T_Rule.c)) (fun _ => rfl) a0.Tables (wr (r32.At.Switch - 1))) fun r38 => ?_
    refine tb (x := (V.sl (List.map T_Rule.c r38))) (rfl) ?_
    refine tb (x := V.any) rfl ?_
    refine tbo (ty_net_Go hn a0.Topo r38 s18) fun r42 => ?_
    refine tb (x := (vb r42.1)) rfl ?_
    refine tcond (fun h44 => ?_) (fun h44 => ?_)
    · refine tkeepO2 ?_ rfl
      refine tkeepO2 ?_ rfl
      refine tsome ?_
      exact h20 (r42.2)
    · refine tkeepO2 ?_ rfl
      refine tsome ?_
      exact rf_j rfl
  · refine tb (x := (T_Fate.e s10)) (rfl) ?_
    refine tb (x := V.agg (T_Fate.c s10)) (by kernel_rfl) ?_
    refine tb (x := (T_Fate.e s10)) rfl ?_
    exact rf_ret rfl

/-! railpoint/wish.Holds$1 -/
def an_wish_Holds_1 : Ann := .seq (.reg 0 [] [] []) (.seq (.reg 0 [] [] []) (.no))
noncomputable def sem_wish_Holds_1 (n : Nat) (xs : List V) : Option V := if xs.length ≤ 12 then denF Tryd.prog (envOf [(77, (sem_net_Of n))]) n Tryd.f111 an_wish_Holds_1 xs else none
theorem ok_wish_Holds_1 (n : Nat) : SemOk Tryd.prog DW 111 (sem_wish_Holds_1 n) := fun xs y h => by
  unfold sem_wish_Holds_1 at h
  split at h
  · rename_i hl
    exact denF_ok stb Tryd.func111 (by kernel_rfl) (envOf_ok (semsOk_cons (ok_net_Of n) semsOk_nil)) (by rw [Tryd.ntmps111]; exact hl) h
  · cases h
theorem eq_wish_Holds_1 (n : Nat) (x0 x1 x2 : V) : sem_wish_Holds_1 n [x0, x1, x2] =
 (V.cellsO x0).bind fun v1 =>
 (ldp (some 4) x2).bind fun v2 =>
 (ldk (some 2) (List.drop 1 v1)).bind fun v3 =>
 ((sem_net_Of n) [v2, v3, x1]).bind fun v4 =>
 (slcB 3 1 [(vi 0), (V.lit (Go.Value.string (ByteArray.mk #[]))), (V.sl [])] [(0, v4)]).bind fun v5 =>
 some v5 := by kernel_rfl
noncomputable def t_wish_Holds_1 (a0 : T_Host) (a1 : Int) (a2 : T_Net) : Option (List T_Fate) :=
 (t_net_Of a2 a0.At a1).bind fun r5 =>
 some ([r5] : (List T_Fate))
theorem ty_wish_Holds_1 {n : Nat} (hn : bigN ≤ n) (a0 : T_Host) (a1 : Int) (a2 : T_Net) : Rv (fun x : (List T_Fate) => (V.sl (List.map T_Fate.c x))) (sem_wish_Holds_1 n [(T_Host.e a0), (vi a1), (V.ptr (T_Net.c a2))]) (t_wish_Holds_1 a0 a1 a2) := by
  rw [eq_wish_Holds_1]
  unfold t_wish_Holds_1
  refine tb (x := (T_Host.c a0)) rfl ?_
  refine tb (x := (T_Net.e a2)) (rfl) ?_
  refine tb (x := (T_Spot.e a0.At)) (rfl) ?_
  refine tbo (ty_net_Of hn a2 a0.At a1) fun r5 => ?_
  refine tb (x := (V.sl (List.map T_Fate.c ([r5] : (List T_Fate))))) (by kernel_rfl) ?_
  exact rf_ret rfl

/-! railpoint/wish.Holds -/
def an_wish_Holds : Ann := .seq (.reg 0 [] [] []) (.seq (.seq (.reg 0 [2] [] []) (.seq (.reg 0 [] [] []) (.cond none (.seq (.reg 0 [] [] []) (.no)) (.no)))) (.seq (.seq (.reg 0 [] [] []) (.seq (.reg 0 [] [] []) (.cond none (.seq (.reg 0 [] [] []) (.no)) (.no)))) (.seq (.reg 0 [] [] []) (.seq (.seq (.reg 0 [] [] []) (.cond none (.seq (.reg 0 [] [] []) (.no)) (.no))) (.seq (.reg 0 [] [] []) (.no))))))
noncomputable def sem_wish_Holds (n : Nat) (xs : List V) : Option V := if xs.length ≤ 36 then denF Tryd.prog (envOf [(27, (sem_net_Check n)), (109, (sem_wish_Check n)), (110, (sem_wish_Seek (envOf [(111, (sem_wish_Holds_1 n))]) n)), (111, (sem_wish_Holds_1 n))]) n Tryd.f60 an_wish_Holds xs else none
theorem ok_wish_Holds (n : Nat) : SemOk Tryd.prog DW 60 (sem_wish_Holds n) := fun xs y h => by
  unfold sem_wish_Holds at h
  split at h
  · rename_i hl
    exact denF_ok stb Tryd.func60 (by kernel_rfl) (envOf_ok (semsOk_cons (ok_net_Check n) (semsOk_cons (ok_wish_Check n) (semsOk_cons (ok_wish_Seek (envOf_ok (semsOk_cons (ok_wish_Holds_1 n) semsOk_nil)) n) (semsOk_cons (ok_wish_Holds_1 n) semsOk_nil))))) (by rw [Tryd.ntmps60]; exact hl) h
  · cases h
theorem eq_wish_Holds (n : Nat) (x0 x1 : V) : sem_wish_Holds n [x0, x1] =
 (V.cellsO x0).bind fun v1 =>
 (ldp (some 4) (V.ptr v1)).bind fun v2 =>
 ((sem_net_Check n) [v2]).bind fun v3 =>
 (bin2 Tryd.prog BinOp.neq 35 (ot 12) (Operand.const Go.Value.nilIface) v3 vn).bind fun v4 =>
 condV v4 (
 ((fillL [(vi 0), (V.lit (Go.Value.string (ByteArray.mk #[]))), (vi 0)] []).map V.agg).bind fun v5 =>
 (spliceV [(vi 0), (V.lit (Go.Value.string (ByteArray.mk #[]))), (vi 0)] 0 3 v5).bind fun v6 =>
 (ldk (some 3) (List.drop 0 (aggL v6))).bind fun v7 =>
 some (V.tup [v7, v3])) (
 (ptrF 0 (V.ptr v1)).bind fun v8 =>
 (ldp (some 3) v8).bind fun v9 =>
 ((sem_wish_Check n) [v9, x1]).bind fun v10 =>
 (bin2 Tryd.prog BinOp.neq 35 (ot 20) (Operand.const Go.Value.nilIface) v10 vn).bind fun v11 =>
 condV v11 (
 ((fillL [(vi 0), (V.lit (Go.Value.string (ByteArray.mk #[]))), (vi 0)] []).map V.agg).bind fun v12 =>
 (spliceV [(vi 0), (V.lit (Go.Value.string (ByteArray.mk #[]))), (vi 0)] 0 3 v12).bind fun v13 =>
 (ldk (some 3) (List.drop 0 (aggL v13))).bind fun v14 =>
 some (V.tup [v14, v10])) (
 (ptrF 0 (V.ptr v1)).bind fun v15 =>
 (ldp (some 3) v15).bind fun v16 =>
 ((sem_wish_Seek (envOf [(111, (sem_wish_Holds_1 n))]) n) [v16, x1, (V.fn 111 [(V.ptr v1)])]).bind fun v17 =>
 (extractV v17 0).bind fun v18 =>
 (extractV v17 1).bind fun v19 =>
 (spliceV [(vi 0), (V.lit (Go.Value.string (ByteArray.mk #[]))), (vi 0)] 0 3 v18).bind fun v20 =>
 condV v19 (
 (ldk (some 3) (List.drop 0 (aggL v20))).bind fun v21 =>
 (scal1 Tryd.prog (Instr.makeInterface 143) (vi 9)).bind fun v22 =>
 (spliceV [(vi 0), (V.lit (Go.Value.string (ByteArray.mk #[]))), (vi 0)] 0 3 v21).bind fun v23 =>
 (ldk (some 3) (List.drop 0 (aggL v23))).bind fun v24 =>
 some (V.tup [v24, v22])) (
 (ldk (some 3) (List.drop 0 (aggL v20))).bind fun v25 =>
 (spliceV [(vi 0), (V.lit (Go.Value.string (ByteArray.mk #[]))), (vi 0)] 0 3 v25).bind fun v26 =>
 (ldk (some 3) (List.drop 0 (aggL v26))).bind fun v27 =>
 some (V.tup [v27, vn])))) := by kernel_rfl
noncomputable def t_wish_Holds (a0 : T_Net) (a1 : (List T_Wish)) : Option (T_PProof × Int) :=
 (t_net_Check a0).bind fun r4 =>
 if (!decide (r4 = 0)) = true then (
 some ((T_PProof.mk 0 (ByteArray.mk #[]) 0), r4)) else (
 (t_wish_Check a0.Topo a1).bind fun r13 =>
 if (!decide (r13 = 0)) = true then (
 some ((T_PProof.mk 0 (ByteArray.mk #[]) 0), r13)) else (
 (t_wish_Seek a0.Topo a1 (fun (a21 : T_Host) (a22 : Int) => t_wish_Holds_1 a21 a22 a0)).bind fun r24 =>
 if r24.2 = true then (
 some (r24.1, 9)) else (
 some (r24.1, 0))))
theorem ty_wish_Holds {n : Nat} (hn : bigN ≤ n) (a0 : T_Net) (a1 : (List T_Wish)) : Rv (fun x : (T_PProof × Int) => V.tup [(T_PProof.e x.1), (eV x.2)]) (sem_wish_Holds n [(T_Net.e a0), (V.sl (List.map T_Wish.c a1))]) (t_wish_Holds a0 a1) := by
  rw [eq_wish_Holds]
  unfold t_wish_Holds
  refine tb (x := (T_Net.c a0)) rfl ?_
  refine tb (x := (T_Net.e a0)) (rfl) ?_
  refine tbo (ty_net_Check hn a0) fun r4 => ?_
  refine tb (x := (vb (!decide (r4 = 0)))) (p_err_neq _) ?_
  refine tcond (fun h6 => ?_) (fun h6 => ?_)
  · refine tb (x := (T_PProof.e (T_PProof.mk 0 (ByteArray.mk #[]) 0))) (by kernel_rfl) ?_
    refine tb (x := V.agg (T_PProof.c (T_PProof.mk 0 (ByteArray.mk #[]) 0))) (by kernel_rfl) ?_
    refine tb (x := (T_PProof.e (T_PProof.mk 0 (ByteArray.mk #[]) 0))) rfl ?_
    exact rf_ret rfl
  · refine tb (x := (V.ptr (T_Net.c a0))) (rfl) ?_
    refine tb (x := (T_Topo.e a0.Topo)) (rfl) ?_
    refine tbo (ty_wish_Check hn a0.Topo a1) fun r13 => ?_
    refine tb (x := (vb (!decide (r13 = 0)))) (p_err_neq _) ?_
    refine tcond (fun h15 => ?_) (fun h15 => ?_)
    · refine tb (x := (T_PProof.e (T_PProof.mk 0 (ByteArray.mk #[]) 0))) (by kernel_rfl) ?_
      refine tb (x := V.agg (T_PProof.c (T_PProof.mk 0 (ByteArray.mk #[]) 0))) (by kernel_rfl) ?_
      refine tb (x := (T_PProof.e (T_PProof.mk 0 (ByteArray.mk #[]) 0))) rfl ?_
      exact rf_ret rfl
    · refine tb (x := (V.ptr (T_Net.c a0))) (rfl) ?_
      refine tb (x := (T_Topo.e a0.Topo)) (rfl) ?_
      refine tbo (ty_wish_Seek (E := (envOf [(111, (sem_wish_Holds_1 n))])) (x2 := (V.fn 111 [(V.ptr (T_Net.c a0))])) (g2 := (fun (a21 : T_Host) (a22 : Int) => t_wish_Holds_1 a21 a22 a0)) hn a0.Topo a1 (fun a21 a22 => ty_wish_Holds_1 hn a21 a22 a0) (fun _ => rfl)) fun r24 => ?_
      refine tb (x := (T_PProof.e r24.1)) (rfl) ?_
      refine tb (x := (vb r24.2)) (rfl) ?_
      refine tb (x := V.agg (T_PProof.c r24.1)) (by kernel_rfl) ?_
      refine tcond (fun h28 => ?_) (fun h28 => ?_)
      · refine tb (x := (T_PProof.e r24.1)) (rfl) ?_
        refine tb (x := (eV 9)) (p_mkE (by decide)) ?_
        refine tb (x := V.agg (T_PProof.c r24.1)) (by kernel_rfl) ?_
        refine tb (x := (T_PProof.e r24.1)) rfl ?_
        exact rf_ret rfl
      · refine tb (x := (T_PProof.e r24.1)) (rfl) ?_
        refine tb (x := V.agg (T_PProof.c r24.1)) (by kernel_rfl) ?_
        refine tb (x := (T_PProof.e r24.1)) rfl ?_
        exact rf_ret rfl

/-! railpoint/raillaw4.WishClash -/
def an_raillaw4_WishClash : Ann := .seq (.reg 0 [] [] []) (.seq (.reg 0 [] [] []) (.seq (.reg 0 [] [] []) (.seq (.reg 0 [] [] []) (.seq (.seq (.reg 0 [] [] []) (.cond none (.seq (.reg 0 [] [] []) (.no)) (.no))) (.seq (.reg 0 [] [] []) (.seq (.reg 0 [] [] []) (.seq (.seq (.reg 0 [] [] []) (.cond none (.seq (.reg 0 [] [] []) (.no)) (.no))) (.seq (.reg 0 [] [] []) (.seq (.seq (.reg 0 [] [] []) (.cond none (.seq (.reg 0 [] [] []) (.no)) (.no))) (.seq (.reg 0 [] [] []) (.seq (.reg 0 [] [] []) (.no))))))))))))
noncomputable def sem_raillaw4_WishClash (n : Nat) (xs : List V) : Option V := if xs.length ≤ 82 then denF Tryd.prog (envOf [(59, (sem_wish_Fits n)), (60, (sem_wish_Holds n)), (61, (sem_topo_Where n)), (16, (sem_Error n))]) n Tryd.f9 an_raillaw4_WishClash xs else none
theorem ok_raillaw4_WishClash (n : Nat) : SemOk Tryd.prog DW 9 (sem_raillaw4_WishClash n) := fun xs y h => by
  unfold sem_raillaw4_WishClash at h
  split at h
  · rename_i hl
    exact denF_ok stb Tryd.func9 (by kernel_rfl) (envOf_ok (semsOk_cons (ok_wish_Fits n) (semsOk_cons (ok_wish_Holds n) (semsOk_cons (ok_topo_Where n) (semsOk_cons (ok_Error n) semsOk_nil))))) (by rw [Tryd.ntmps9]; exact hl) h
  · cases h
theorem eq_raillaw4_WishClash (n : Nat) (x0 x1 x2 : V) : sem_raillaw4_WishClash n [x0, x1, x2] =
 (V.cellsO x0).bind fun v1 =>
 ((fillL [(vi 0), (V.lit (Go.Value.string (ByteArray.mk #[]))), (V.lit (Go.Value.string (ByteArray.mk #[]))), (vi 0)] [(0, 1, (vi 1)), (1, 1, x1), (2, 1, x2)]).map V.agg).bind fun v2 =>
 (spliceV [(vi 0), (V.lit (Go.Value.string (ByteArray.mk #[]))), (V.lit (Go.Value.string (ByteArray.mk #[]))), (vi 0)] 0 4 v2).bind fun v3 =>
 ((fillL [(vi 0), (V.lit (Go.Value.string (ByteArray.mk #[]))), (V.lit (Go.Value.string (ByteArray.mk #[]))), (vi 0)] [(0, 1, (vi 2)), (1, 1, x1), (2, 1, x2)]).map V.agg).bind fun v4 =>
 (spliceV [(vi 0), (V.lit (Go.Value.string (ByteArray.mk #[]))), (V.lit (Go.Value.string (ByteArray.mk #[]))), (vi 0)] 0 4 v4).bind fun v5 =>
 ((fillL [(vi 0), (V.lit (Go.Value.string (ByteArray.mk #[]))), (V.sl [])] [(0, 1, (vi 1)), (1, 1, x2)]).map V.agg).bind fun v6 =>
 (spliceV [(vi 0), (V.lit (Go.Value.string (ByteArray.mk #[]))), (V.sl [])] 0 3 v6).bind fun v7 =>
 (ldk (some 4) (List.drop 0 (aggL v3))).bind fun v8 =>
 (ldk (some 3) (List.drop 0 (aggL v7))).bind fun v9 =>
 ((sem_wish_Fits n) [v8, x1, v9]).bind fun v10 =>
 (scal1 Tryd.prog (Op.unary Go.UnOp.not) v10).bind fun v11 =>
 (guardV v11 false ((ldk (some 4) (List.drop 0 (aggL v5))).bind fun v12 =>
 some v12)).bind fun v13 =>
 (guardV v11 false (some x1)).bind fun v14 =>
 (guardV v11 false ((ldk (some 3) (List.drop 0 (aggL v7))).bind fun v15 =>
 some v15)).bind fun v16 =>
 (guardV v11 false (((sem_wish_Fits n) [v13, v14, v16]).bind fun v17 =>
 some v17)).bind fun v18 =>
 (pickV v11 (vb true) v18).bind fun v19 =>
 condV v19 (
 some (vb false)) (
 (ldk (some 4) (List.drop 0 v1)).bind fun v20 =>
 (ldk (some 4) (List.drop 0 (aggL v3))).bind fun v21 =>
 (slcB 4 1 [(vi 0), (V.lit (Go.Value.string (ByteArray.mk #[]))), (V.lit (Go.Value.string (ByteArray.mk #[]))), (vi 0)] [(0, v21)]).bind fun v22 =>
 ((sem_wish_Holds n) [v20, v22]).bind fun v23 =>
 (extractV v23 0).bind fun v24 =>
 (extractV v23 1).bind fun v25 =>
 (spliceV [(vi 0), (V.lit (Go.Value.string (ByteArray.mk #[]))), (vi 0)] 0 3 v24).bind fun v26 =>
 (ldk (some 4) (List.drop 0 v1)).bind fun v27 =>
 (ldk (some 4) (List.drop 0 (aggL v5))).bind fun v28 =>
 (slcB 4 1 [(vi 0), (V.lit (Go.Value.string (ByteArray.mk #[]))), (V.lit (Go.Value.string (ByteArray.mk #[]))), (vi 0)] [(0, v28)]).bind fun v29 =>
 ((sem_wish_Holds n) [v27, v29]).bind fun v30 =>
 (extractV v30 0).bind fun v31 =>
 (extractV v30 1).bind fun v32 =>
 (spliceV [(vi 0), (V.lit (Go.Value.string (ByteArray.mk #[]))), (vi 0)] 0 3 v31).bind fun v33 =>
 (bin2 Tryd.prog BinOp.eql 35 (ot 49) (Operand.const Go.Value.nilIface) v25 vn).bind fun v34 =>
 (guardV v34 true (some v32)).bind fun v35 =>
 (guardV v34 true ((bin2 Tryd.prog BinOp.eql 35 (ot 52) (Operand.const Go.Value.nilIface) v35 vn).bind fun v36 =>
 some v36)).bind fun v37 =>
 (pickV v34 v37 (vb false)).bind fun v38 =>
 condV v38 (
 some (vb false)) (
 (ldk (some 3) (List.drop 0 v1)).bind fun v39 =>
 ((sem_topo_Where n) [v39, x1]).bind fun v40 =>
 (extractV v40 0).bind fun v41 =>
 (extractV v40 1).bind fun v42 =>
 (spliceV [(vi 0), (vi 0)] 0 2 v41).bind fun v43 =>
 (bin2 Tryd.prog BinOp.neq 35 (ot 62) (Operand.const Go.Value.nilIface) v42 vn).bind fun v44 =>
 condV v44 (
 some (vb true)) (
 (ldk (some 4) (List.drop 0 v1)).bind fun v45 =>
 (ldk none (List.drop 0 (aggL v43))).bind fun v46 =>
 ((fillL [(vi 0), (V.lit (Go.Value.string (ByteArray.mk #[]))), (V.lit (Go.Value.string (ByteArray.mk #[]))), (vi 0)] [(0, 1, (vi 3)), (1, 1, x1), (2, 1, x2), (3, 1, v46)]).map V.agg).bind fun v47 =>
 (slcB 4 1 [(vi 0), (V.lit (Go.Value.string (ByteArray.mk #[]))), (V.lit (Go.Value.string (ByteArray.mk #[]))), (vi 0)] [(0, v47)]).bind fun v48 =>
 ((sem_wish_Holds n) [v45, v48]).bind fun v49 =>
 (extractV v49 0).bind fun v50 =>
 (extractV v49 1).bind fun v51 =>
 (bin2 Tryd.prog BinOp.eql 35 (ot 75) (Operand.const Go.Value.nilIface) v51 vn).bind fun v52 =>
 (guardV v52 false (some v51)).bind fun v53 =>
 (guardV v52 false (((sem_Error n) [v53, (vi 9)]).bind fun v54 =>
 some v54)).bind fun v55 =>
 (guardV v52 false ((scal1 Tryd.prog (Op.unary Go.UnOp.not) v55).bind fun v56 =>
 some v56)).bind fun v57 =>
 (pickV v52 (vb true) v57).bind fun v58 =>
 some v58))) := by kernel_rfl
noncomputable def t_raillaw4_WishClash (a0 : T_Net) (a1 : ByteArray) (a2 : ByteArray) : Option Bool :=
 (t_wish_Fits (T_Wish.mk 1 a1 a2 0) a1 (T_Fate.mk 1 a2 [])).bind fun r11 =>
 (gd (!(!r11)) default (t_wish_Fits (T_Wish.mk 2 a1 a2 0) a1 (T_Fate.mk 1 a2 []))).bind fun r24 =>
 if ((!r11) || r24) = true then (
 some false) else (
 (t_wish_Holds a0 ([(T_Wish.mk 1 a1 a2 0)] : (List T_Wish))).bind fun r31 =>
 (t_wish_Holds a0 ([(T_Wish.mk 2 a1 a2 0)] : (List T_Wish))).bind fun r39 =>
 if ((decide (r31.2 = 0)) && (decide (r39.2 = 0))) = true then (
 some false) else (
 (t_topo_Where a0.Topo a1).bind fun r53 =>
 if (!decide (r53.2 = 0)) = true then (
 some true) else (
 (t_wish_Holds a0 ([(T_Wish.mk 3 a1 a2 r53.1.Switch)] : (List T_Wish))).bind fun r64 =>
 (gd (!(decide (r64.2 = 0))) default (t_railsame_Error r64.2 9)).bind fun r73 =>
 some ((decide (r64.2 = 0)) || (!r73)))))
theorem ty_raillaw4_WishClash {n : Nat} (hn : bigN ≤ n) (a0 : T_Net) (a1 : ByteArray) (a2 : ByteArray) : Rv (fun x : Bool => (vb x)) (sem_raillaw4_WishClash n [(T_Net.e a0), (vt a1), (vt a2)]) (t_raillaw4_WishClash a0 a1 a2) := by
  rw [eq_raillaw4_WishClash]
  unfold t_raillaw4_WishClash
  refine tb (x := (T_Net.c a0)) rfl ?_
  refine tb (x := (T_Wish.e (T_Wish.mk 1 a1 a2 0))) (by kernel_rfl) ?_
  refine tb (x := V.agg (T_Wish.c (T_Wish.mk 1 a1 a2 0))) (by kernel_rfl) ?_
  refine tb (x := (T_Wish.e (T_Wish.mk 2 a1 a2 0))) (by kernel_rfl) ?_
  refine tb (x := V.agg (T_Wish.c (T_Wish.mk 2 a1 a2 0))) (by kernel_rfl) ?_
  refine tb (x := (T_Fate.e (T_Fate.mk 1 a2 []))) (by kernel_rfl) ?_
  refine tb (x := V.agg (T_Fate.c (T_Fate.mk 1 a2 []))) (by kernel_rfl) ?_
  refine tb (x := (T_Wish.e (T_Wish.mk 1 a1 a2 0))) (rfl) ?_
  refine tb (x := (T_Fate.e (T_Fate.mk 1 a2 []))) (rfl) ?_
  refine tbo (ty_wish_Fits hn (T_Wish.mk 1 a1 a2 0) a1 (T_Fate.mk 1 a2 [])) fun r11 => ?_
  refine tb (x := (vb (!r11))) (d_not) ?_
  refine tg_f (x := (T_Wish.e (T_Wish.mk 2 a1 a2 0))) (fun h13 => bind_some_eq (rfl)) ?_
  refine tg_f (x := (vt a1)) (fun h16 => rfl) ?_
  refine tg_f (x := (T_Fate.e (T_Fate.mk 1 a2 []))) (fun h18 => bind_some_eq (rfl)) ?_
  refine tgo_f (fun h21 => by simp only [gv_t h21]; exact rf_bind_some (ty_wish_Fits hn (T_Wish.mk 2 a1 a2 0) a1 (T_Fate.mk 1 a2 []))) fun r24 => ?_
  refine tb (x := (vb ((!r11) || r24))) (pick_or (fun h9 => gv_t (not_f h9))) ?_
  refine tcond (fun h26 => ?_) (fun h26 => ?_)
  · exact rf_ret rfl
  · refine tb (x := (T_Net.e a0)) (rfl) ?_
    refine tb (x := (T_Wish.e (T_Wish.mk 1 a1 a2 0))) (rfl) ?_
    refine tb (x := (V.sl (List.map T_Wish.c ([(T_Wish.mk 1 a1 a2 0)] : (List T_Wish))))) (by kernel_rfl) ?_
    refine tbo (ty_wish_Holds hn a0 ([(T_Wish.mk 1 a1 a2 0)] : (List T_Wish))) fun r31 => ?_
    refine tb (x := (T_PProof.e r31.1)) (rfl) ?_
    refine tb (x := (eV r31.2)) (rfl) ?_
    refine tb (x := V.agg (T_PProof.c r31.1)) (by kernel_rfl) ?_
    refine tb (x := (T_Net.e a0)) (rfl) ?_
    refine tb (x := (T_Wish.e (T_Wish.mk 2 a1 a2 0))) (rfl) ?_
    refine tb (x := (V.sl (List.map T_Wish.c ([(T_Wish.mk 2 a1 a2 0)] : (List T_Wish))))) (by kernel_rfl) ?_
    refine tbo (ty_wish_Holds hn a0 ([(T_Wish.mk 2 a1 a2 0)] : (List T_Wish))) fun r39 => ?_
    refine tb (x := (T_PProof.e r39.1)) (rfl) ?_
    refine tb (x := (eV r39.2)) (rfl) ?_
    refine tb (x := V.agg (T_PProof.c r39.1)) (by kernel_rfl) ?_
    refine tb (x := (vb (decide (r31.2 = 0)))) (p_err_eql _) ?_
    refine tg (x := (eV r39.2)) (fun h44 => rfl) ?_
    refine tg (x := (vb (decide (r39.2 = 0)))) (fun h46 => by simp only [gv_t h46]; exact bind_some_eq (p_err_eql _)) ?_
    refine tb (x := (vb ((decide (r31.2 = 0)) && (decide (r39.2 = 0))))) (pick_and (fun h9 => gv_t h9)) ?_
    refine tcond (fun h50 => ?_) (fun h50 => ?_)
    · exact rf_ret rfl
    · refine tb (x := (T_Topo.e a0.Topo)) (rfl) ?_
      refine tbo (ty_topo_Where hn a0.Topo a1) fun r53 => ?_
      refine tb (x := (T_Spot.e r53.1)) (rfl) ?_
      refine tb (x := (eV r53.2)) (rfl) ?_
      refine tb (x := V.agg (T_Spot.c r53.1)) (by kernel_rfl) ?_
      refine tb (x := (vb (!decide (r53.2 = 0)))) (p_err_neq _) ?_
      refine tcond (fun h58 => ?_) (fun h58 => ?_)
      · exact rf_ret rfl
      · refine tb (x := (T_Net.e a0)) (rfl) ?_
        refine tb (x := (vi r53.1.Switch)) (rfl) ?_
        refine tb (x := (T_Wish.e (T_Wish.mk 3 a1 a2 r53.1.Switch))) (by kernel_rfl) ?_
        refine tb (x := (V.sl (List.map T_Wish.c ([(T_Wish.mk 3 a1 a2 r53.1.Switch)] : (List T_Wish))))) (by kernel_rfl) ?_
        refine tbo (ty_wish_Holds hn a0 ([(T_Wish.mk 3 a1 a2 r53.1.Switch)] : (List T_Wish))) fun r64 => ?_
        refine tb (x := (T_PProof.e r64.1)) (rfl) ?_
        refine tb (x := (eV r64.2)) (rfl) ?_
        refine tb (x := (vb (decide (r64.2 = 0)))) (p_err_eql _) ?_
        refine tg_f (x := (eV r64.2)) (fun h68 => rfl) ?_
        refine tgo_f (fun h70 => by simp only [gv_t h70]; exact rf_bind_some (ty_railsame_Error r64.2 9)) fun r73 => ?_
        refine tg_f (x := (vb (!r73))) (fun h74 => by simp only [gv_t h74]; exact bind_some_eq (d_not)) ?_
        refine tb (x := (vb ((decide (r64.2 = 0)) || (!r73)))) (pick_or (fun h9 => gv_t (not_f h9))) ?_
        exact rf_ret rfl

/-! railpoint/net.Send -/
def an_net_Send : Ann := .seq (.reg 0 [] [] []) (.seq (.seq (.reg 0 [] [] []) (.seq (.reg 0 [] [] []) (.cond none (.seq (.reg 0 [] [] []) (.no)) (.no)))) (.seq (.reg 0 [] [] []) (.seq (.blk none (.seq (.reg 0 [] [] []) (.cond none (.seq (.reg 0 [] [] []) (.no)) (.seq (.reg 0 [] [] []) (.cond none (.seq (.reg 0 [] [] []) (.no)) (.no)))))) (.seq (.reg 0 [] [] []) (.no)))))
noncomputable def sem_net_Send (n : Nat) (xs : List V) : Option V := if xs.length ≤ 39 then denF Tryd.prog (envOf [(27, (sem_net_Check n)), (61, (sem_topo_Where n)), (73, (sem_cube_Header n)), (77, (sem_net_Of n))]) n Tryd.f25 an_net_Send xs else none
theorem ok_net_Send (n : Nat) : SemOk Tryd.prog DW 25 (sem_net_Send n) := fun xs y h => by
  unfold sem_net_Send at h
  split at h
  · rename_i hl
    exact denF_ok stb Tryd.func25 (by kernel_rfl) (envOf_ok (semsOk_cons (ok_net_Check n) (semsOk_cons (ok_topo_Where n) (semsOk_cons (ok_cube_Header n) (semsOk_cons (ok_net_Of n) semsOk_nil))))) (by rw [Tryd.ntmps25]; exact hl) h
  · cases h
theorem eq_net_Send (n : Nat) (x0 x1 x2 : V) : sem_net_Send n [x0, x1, x2] =
 (V.cellsO x0).bind fun v1 =>
 (ldk (some 4) (List.drop 0 v1)).bind fun v2 =>
 ((sem_net_Check n) [v2]).bind fun v3 =>
 (bin2 Tryd.prog BinOp.neq 35 (ot 13) (Operand.const Go.Value.nilIface) v3 vn).bind fun v4 =>
 condV v4 (
 ((fillL [(vi 0), (V.lit (Go.Value.string (ByteArray.mk #[]))), (V.sl [])] []).map V.agg).bind fun v5 =>
 (spliceV [(vi 0), (V.lit (Go.Value.string (ByteArray.mk #[]))), (V.sl [])] 0 3 v5).bind fun v6 =>
 (ldk (some 3) (List.drop 0 (aggL v6))).bind fun v7 =>
 some (V.tup [v7, v3])) (
 (ldk (some 3) (List.drop 0 v1)).bind fun v8 =>
 ((sem_topo_Where n) [v8, x1]).bind fun v9 =>
 (extractV v9 0).bind fun v10 =>
 (extractV v9 1).bind fun v11 =>
 (spliceV [(vi 0), (vi 0)] 0 2 v10).bind fun v12 =>
 (bin2 Tryd.prog BinOp.neq 35 (ot 25) (Operand.const Go.Value.nilIface) v11 vn).bind fun v13 =>
 condV v13 (
 ((fillL [(vi 0), (V.lit (Go.Value.string (ByteArray.mk #[]))), (V.sl [])] []).map V.agg).bind fun v14 =>
 (spliceV [(vi 0), (V.lit (Go.Value.string (ByteArray.mk #[]))), (V.sl [])] 0 3 v14).bind fun v15 =>
 (ldk (some 3) (List.drop 0 (aggL v15))).bind fun v16 =>
 some (V.tup [v16, v11])) (
 ((sem_cube_Header n) [x2]).bind fun v17 =>
 (scal1 Tryd.prog (Op.unary Go.UnOp.not) v17).bind fun v18 =>
 condV v18 (
 ((fillL [(vi 0), (V.lit (Go.Value.string (ByteArray.mk #[]))), (V.sl [])] []).map V.agg).bind fun v19 =>
 (scal1 Tryd.prog (Instr.makeInterface 143) (vi 1)).bind fun v20 =>
 (spliceV [(vi 0), (V.lit (Go.Value.string (ByteArray.mk #[]))), (V.sl [])] 0 3 v19).bind fun v21 =>
 (ldk (some 3) (List.drop 0 (aggL v21))).bind fun v22 =>
 some (V.tup [v22, v20])) (
 (ldk (some 4) (List.drop 0 v1)).bind fun v23 =>
 (ldk (some 2) (List.drop 0 (aggL v12))).bind fun v24 =>
 ((sem_net_Of n) [v23, v24, x2]).bind fun v25 =>
 (spliceV [(vi 0), (V.lit (Go.Value.string (ByteArray.mk #[]))), (V.sl [])] 0 3 v25).bind fun v26 =>
 (ldk (some 3) (List.drop 0 (aggL v26))).bind fun v27 =>
 some (V.tup [v27, vn])))) := by kernel_rfl
noncomputable def t_net_Send (a0 : T_Net) (a1 : ByteArray) (a2 : Int) : Option (T_Fate × Int) :=
 (t_net_Check a0).bind fun r4 =>
 if (!decide (r4 = 0)) = true then (
 some ((T_Fate.mk 0 (ByteArray.mk #[]) []), r4)) else (
 (t_topo_Where a0.Topo a1).bind fun r12 =>
 if (!decide (r12.2 = 0)) = true then (
 some ((T_Fate.mk 0 (ByteArray.mk #[]) []), r12.2)) else (
 (t_cube_Header a2).bind fun r22 =>
 if (!r22) = true then (
 some ((T_Fate.mk 0 (ByteArray.mk #[]) []), 1)) else (
 (t_net_Of a0 r12.1 a2).bind fun r32 =>
 some (r32, 0))))
theorem ty_net_Send {n : Nat} (hn : bigN ≤ n) (a0 : T_Net) (a1 : ByteArray) (a2 : Int) : Rv (fun x : (T_Fate × Int) => V.tup [(T_Fate.e x.1), (eV x.2)]) (sem_net_Send n [(T_Net.e a0), (vt a1), (vi a2)]) (t_net_Send a0 a1 a2) := by
  rw [eq_net_Send]
  unfold t_net_Send
  refine tb (x := (T_Net.c a0)) rfl ?_
  refine tb (x := (T_Net.e a0)) (rfl) ?_
  refine tbo (ty_net_Check hn a0) fun r4 => ?_
  refine tb (x := (vb (!decide (r4 = 0)))) (p_err_neq _) ?_
  refine tcond (fun h6 => ?_) (fun h6 => ?_)
  · refine tb (x := (T_Fate.e (T_Fate.mk 0 (ByteArray.mk #[]) []))) (by kernel_rfl) ?_
    refine tb (x := V.agg (T_Fate.c (T_Fate.mk 0 (ByteArray.mk #[]) []))) (by kernel_rfl) ?_
    refine tb (x := (T_Fate.e (T_Fate.mk 0 (ByteArray.mk #[]) []))) rfl ?_
    exact rf_ret rfl
  · refine tb (x := (T_Topo.e a0.Topo)) (rfl) ?_
    refine tbo (ty_topo_Where hn a0.Topo a1) fun r12 => ?_
    refine tb (x := (T_Spot.e r12.1)) (rfl) ?_
    refine tb (x := (eV r12.2)) (rfl) ?_
    refine tb (x := V.agg (T_Spot.c r12.1)) (by kernel_rfl) ?_
    refine tb (x := (vb (!decide (r12.2 = 0)))) (p_err_neq _) ?_
    refine tcond (fun h17 => ?_) (fun h17 => ?_)
    · refine tb (x := (T_Fate.e (T_Fate.mk 0 (ByteArray.mk #[]) []))) (by kernel_rfl) ?_
      refine tb (x := V.agg (T_Fate.c (T_Fate.mk 0 (ByteArray.mk #[]) []))) (by kernel_rfl) ?_
      refine tb (x := (T_Fate.e (T_Fate.mk 0 (ByteArray.mk #[]) []))) rfl ?_
      exact rf_ret rfl
    · refine tbo (ty_cube_Header hn a2) fun r22 => ?_
      refine tb (x := (vb (!r22))) (d_not) ?_
      refine tcond (fun h24 => ?_) (fun h24 => ?_)
      · refine tb (x := (T_Fate.e (T_Fate.mk 0 (ByteArray.mk #[]) []))) (by kernel_rfl) ?_
        refine tb (x := (eV 1)) (p_mkE (by decide)) ?_
        refine tb (x := V.agg (T_Fate.c (T_Fate.mk 0 (ByteArray.mk #[]) []))) (by kernel_rfl) ?_
        refine tb (x := (T_Fate.e (T_Fate.mk 0 (ByteArray.mk #[]) []))) rfl ?_
        exact rf_ret rfl
      · refine tb (x := (T_Net.e a0)) (rfl) ?_
        refine tb (x := (T_Spot.e r12.1)) (rfl) ?_
        refine tbo (ty_net_Of hn a0 r12.1 a2) fun r32 => ?_
        refine tb (x := V.agg (T_Fate.c r32)) (by kernel_rfl) ?_
        refine tb (x := (T_Fate.e r32)) rfl ?_
        exact rf_ret rfl

/-! railpoint/raillaw1.WishProves -/
def an_raillaw1_WishProves : Ann := .seq (.reg 0 [] [] []) (.seq (.reg 0 [] [] []) (.seq (.reg 0 [] [] []) (.seq (.reg 0 [] [] []) (.seq (.seq (.reg 0 [] [] []) (.cond none (.seq (.reg 0 [] [] []) (.no)) (.no))) (.seq (.reg 0 [] [] []) (.seq (.seq (.reg 0 [] [] []) (.cond none (.seq (.reg 0 [] [] []) (.seq (.seq (.reg 0 [] [] []) (.cond none (.seq (.reg 0 [] [] []) (.no)) (.no))) (.seq (.reg 0 [] [] []) (.seq (.reg 27 [] [] []) (.no))))) (.no))) (.seq (.reg 0 [] [] []) (.seq (.seq (.reg 0 [] [] []) (.blk (some []) (.loop [.kb 17, .s 19] (.seq (.seq (.reg 0 [] [] []) (.cond none (.no) (.no))) (.seq (.blk none (.seq (.reg 8 [] [] []) (.cond none (.seq (.reg 0 [] [] []) (.no)) (.no)))) (.reg 0 [] [] [])))))) (.seq (.reg 0 [] [] []) (.no))))))))))
noncomputable def sem_raillaw1_WishProves (n : Nat) (xs : List V) : Option V := if xs.length ≤ 119 then denF Tryd.prog (envOf [(60, (sem_wish_Holds n)), (16, (sem_Error n)), (25, (sem_net_Send n)), (59, (sem_wish_Fits n))]) n Tryd.f11 an_raillaw1_WishProves xs else none
theorem ok_raillaw1_WishProves (n : Nat) : SemOk Tryd.prog DW 11 (sem_raillaw1_WishProves n) := fun xs y h => by
  unfold sem_raillaw1_WishProves at h
  split at h
  · rename_i hl
    exact denF_ok stb Tryd.func11 (by kernel_rfl) (envOf_ok (semsOk_cons (ok_wish_Holds n) (semsOk_cons (ok_Error n) (semsOk_cons (ok_net_Send n) (semsOk_cons (ok_wish_Fits n) semsOk_nil))))) (by rw [Tryd.ntmps11]; exact hl) h
  · cases h
theorem eq_raillaw1_WishProves (n : Nat) (x0 x1 x2 x3 : V) : sem_raillaw1_WishProves n [x0, x1, x2, x3] =
 (V.cellsO x0).bind fun v1 =>
 ((fillL [(vi 0), (vi 0)] [(0, 1, (vi 1)), (1, 1, (vi 2))]).map V.agg).bind fun v2 =>
 ((fillL [(V.lit (Go.Value.string (ByteArray.mk #[]))), (vi 0), (vi 0)] [(0, 1, (V.lit (Go.Value.string (ByteArray.mk #[97])))), (1, 2, v2)]).map V.agg).bind fun v3 =>
 (slcB 3 1 [(V.lit (Go.Value.string (ByteArray.mk #[]))), (vi 0), (vi 0)] [(0, v3)]).bind fun v4 =>
 ((fillL [(vi 0), (V.sl []), (V.sl [])] [(0, 1, (vi 1)), (2, 1, v4)]).map V.agg).bind fun v5 =>
 (slcB 1 1 [(V.sl [])] [(0, (V.sl []))]).bind fun v6 =>
 ((fillL [(vi 0), (V.sl []), (V.sl []), (V.sl [])] [(0, 3, v5), (3, 1, v6)]).map V.agg).bind fun v7 =>
 (spliceV [(vi 0), (V.sl []), (V.sl []), (V.sl [])] 0 4 v7).bind fun v8 =>
 (ldk (some 4) (List.drop 0 (aggL v8))).bind fun v9 =>
 ((fillL [(vi 0), (V.lit (Go.Value.string (ByteArray.mk #[]))), (V.lit (Go.Value.string (ByteArray.mk #[]))), (vi 0)] [(0, 1, (vi 1)), (1, 1, (V.lit (Go.Value.string (ByteArray.mk #[97])))), (2, 1, (V.lit (Go.Value.string (ByteArray.mk #[97]))))]).map V.agg).bind fun v10 =>
 (slcB 4 1 [(vi 0), (V.lit (Go.Value.string (ByteArray.mk #[]))), (V.lit (Go.Value.string (ByteArray.mk #[]))), (vi 0)] [(0, v10)]).bind fun v11 =>
 ((sem_wish_Holds n) [v9, v11]).bind fun v12 =>
 (extractV v12 0).bind fun v13 =>
 (extractV v12 1).bind fun v14 =>
 (spliceV [(vi 0), (V.lit (Go.Value.string (ByteArray.mk #[]))), (vi 0)] 0 3 v13).bind fun v15 =>
 ((sem_Error n) [v14, (vi 9)]).bind fun v16 =>
 (scal1 Tryd.prog (Op.unary Go.UnOp.not) v16).bind fun v17 =>
 (guardV v17 false (some V.any)).bind fun v18 =>
 (guardV v17 false ((gate v17 false (ldk none (List.drop 1 (aggL v15)))).bind fun v19 =>
 some v19)).bind fun v20 =>
 (guardV v17 false ((bin2 Tryd.prog BinOp.neq 9 (ot 39) (Operand.const (Go.Value.string (ByteArray.mk #[97]))) v20 (V.lit (Go.Value.string (ByteArray.mk #[97])))).bind fun v21 =>
 some v21)).bind fun v22 =>
 (pickV v17 (vb true) v22).bind fun v23 =>
 (guardV v23 false (some V.any)).bind fun v24 =>
 (guardV v23 false ((gate v23 false (ldk none (List.drop 2 (aggL v15)))).bind fun v25 =>
 some v25)).bind fun v26 =>
 (guardV v23 false ((bin2 Tryd.prog BinOp.neq 3 (ot 44) (oc 0) v26 (vi 0)).bind fun v27 =>
 some v27)).bind fun v28 =>
 (pickV v23 (vb true) v28).bind fun v29 =>
 condV v29 (
 some (vb false)) (
 (ldk (some 4) (List.drop 0 v1)).bind fun v30 =>
 ((sem_wish_Holds n) [v30, x1]).bind fun v31 =>
 (extractV v31 0).bind fun v32 =>
 (extractV v31 1).bind fun v33 =>
 (spliceV [(vi 0), (V.lit (Go.Value.string (ByteArray.mk #[]))), (vi 0)] 0 3 v32).bind fun v34 =>
 (bin2 Tryd.prog BinOp.neq 35 (ot 53) (Operand.const Go.Value.nilIface) v33 vn).bind fun v35 =>
 condV v35 (
 ((sem_Error n) [v33, (vi 9)]).bind fun v36 =>
 (scal1 Tryd.prog (Op.unary Go.UnOp.not) v36).bind fun v37 =>
 condV v37 (
 some (vb true)) (
 (ldk (some 4) (List.drop 0 v1)).bind fun v38 =>
 (ldk none (List.drop 1 (aggL v34))).bind fun v39 =>
 (ldk none (List.drop 2 (aggL v34))).bind fun v40 =>
 ((sem_net_Send n) [v38, v39, v40]).bind fun v41 =>
 (extractV v41 0).bind fun v42 =>
 (extractV v41 1).bind fun v43 =>
 (spliceV [(vi 0), (V.lit (Go.Value.string (ByteArray.mk #[]))), (V.sl [])] 0 3 v42).bind fun v44 =>
 (bin2 Tryd.prog BinOp.eql 35 (ot 68) (Operand.const Go.Value.nilIface) v43 vn).bind fun v45 =>
 (guardV v45 true (some V.any)).bind fun v46 =>
 (guardV v45 true ((gate v45 true (ldk none (List.drop 0 (aggL v34)))).bind fun v47 =>
 some v47)).bind fun v48 =>
 (guardV v45 true ((bin2 Tryd.prog BinOp.geq 3 (ot 72) (oc 0) v48 (vi 0)).bind fun v49 =>
 some v49)).bind fun v50 =>
 (pickV v45 v50 (vb false)).bind fun v51 =>
 (guardV v51 true (some V.any)).bind fun v52 =>
 (guardV v51 true ((gate v51 true (ldk none (List.drop 0 (aggL v34)))).bind fun v53 =>
 some v53)).bind fun v54 =>
 (guardV v51 true (some x1)).bind fun v55 =>
 (guardV v51 true ((lenS [v55]).bind fun v56 =>
 some v56)).bind fun v57 =>
 (guardV v51 true ((bin2 Tryd.prog BinOp.lss 3 (ot 77) (ot 79) v54 v57).bind fun v58 =>
 some v58)).bind fun v59 =>
 (pickV v51 v59 (vb false)).bind fun v60 =>
 (guardV v60 true (some x1)).bind fun v61 =>
 (guardV v60 true (some V.any)).bind fun v62 =>
 (guardV v60 true ((gate v60 true (ldk none (List.drop 0 (aggL v34)))).bind fun v63 =>
 some v63)).bind fun v64 =>
 (guardV v60 true ((idxS 4 v61 v64).bind fun v65 =>
 some v65)).bind fun v66 =>
 (guardV v60 true ((ldp (some 4) v66).bind fun v67 =>
 some v67)).bind fun v68 =>
 (guardV v60 true (some V.any)).bind fun v69 =>
 (guardV v60 true ((gate v60 true (ldk none (List.drop 1 (aggL v34)))).bind fun v70 =>
 some v70)).bind fun v71 =>
 (guardV v60 true ((ldk (some 3) (List.drop 0 (aggL v44))).bind fun v72 =>
 some v72)).bind fun v73 =>
 (guardV v60 true (((sem_wish_Fits n) [v68, v71, v73]).bind fun v74 =>
 some v74)).bind fun v75 =>
 (guardV v60 true ((scal1 Tryd.prog (Op.unary Go.UnOp.not) v75).bind fun v76 =>
 some v76)).bind fun v77 =>
 (pickV v60 v77 (vb false)).bind fun v78 =>
 some v78)) (
 (ldk (some 4) (List.drop 0 v1)).bind fun v79 =>
 ((sem_net_Send n) [v79, x2, x3]).bind fun v80 =>
 (extractV v80 0).bind fun v81 =>
 (extractV v80 1).bind fun v82 =>
 (spliceV [(vi 0), (V.lit (Go.Value.string (ByteArray.mk #[]))), (V.sl [])] 0 3 v81).bind fun v83 =>
 JoinPt (fun vs84 =>
 some (vb true)) fun J85 =>
 (keepO (some (aggL v83)) (some (aggL v83)) (some [(vi 0)])).bind (fixN (fun rec86 vs87 =>
 (lenS [x1]).bind fun v88 =>
 (bin2 Tryd.prog BinOp.lss 3 (ot 101) (ot 103) (List.getD vs87 0 V.any) v88).bind fun v89 =>
 (guardV v89 true (some v82)).bind fun v90 =>
 (guardV v89 true ((bin2 Tryd.prog BinOp.eql 35 (ot 106) (Operand.const Go.Value.nilIface) v90 vn).bind fun v91 =>
 some v91)).bind fun v92 =>
 (pickV v89 v92 (vb false)).bind fun v93 =>
 condV v93 (
 (idxS 4 x1 (List.getD vs87 0 V.any)).bind fun v94 =>
 (ldp (some 4) v94).bind fun v95 =>
 (ldk (some 3) (List.drop 0 (aggL v83))).bind fun v96 =>
 ((sem_wish_Fits n) [v95, x2, v96]).bind fun v97 =>
 (scal1 Tryd.prog (Op.unary Go.UnOp.not) v97).bind fun v98 =>
 condV v98 (
 some (vb false)) (
 (bin2 Tryd.prog BinOp.add 3 (ot 109) (oc 1) (List.getD vs87 0 V.any) (vi 1)).bind fun v99 =>
 (keepO (some (aggL v83)) (some (aggL v83)) (some [v99])).bind rec86)) (
 J85 [])) n))) := by kernel_rfl
noncomputable def t_raillaw1_WishProves (a0 : T_Net) (a1 : (List T_Wish)) (a2 : ByteArray) (a3 : Int) : Option Bool :=
 (t_wish_Holds (T_Net.mk (T_Topo.mk 1 [] ([(T_Host.mk (ByteArray.mk #[97]) (T_Spot.mk 1 2))] : (List T_Host))) ([[]] : (List (List T_Rule)))) ([(T_Wish.mk 1 (ByteArray.mk #[97]) (ByteArray.mk #[97]) 0)] : (List T_Wish))).bind fun r13 =>
 (t_railsame_Error r13.2 9).bind fun r18 =>
 if (((!r18) || (!decide (r13.1.From = (ByteArray.mk #[97])))) || (decide (r13.1.Header ≠ 0))) = true then (
 some false) else (
 (t_wish_Holds a0 a1).bind fun r41 =>
 if (!decide (r41.2 = 0)) = true then (
 (t_railsame_Error r41.2 9).bind fun r48 =>
 if (!r48) = true then (
 some true) else (
 (t_net_Send a0 r41.1.From r41.1.Header).bind fun r55 =>
 (gd (((decide (r55.2 = 0)) && (decide (0 ≤ r41.1.Wish))) && (decide (r41.1.Wish < (List.length a1 : Int)))) default (idx a1 r41.1.Wish)).bind fun r93 =>
 (gd (((decide (r55.2 = 0)) && (decide (0 ≤ r41.1.Wish))) && (decide (r41.1.Wish < (List.length a1 : Int)))) default (t_wish_Fits r93 r41.1.From r55.1)).bind fun r108 =>
 some ((((decide (r55.2 = 0)) && (decide (0 ≤ r41.1.Wish))) && (decide (r41.1.Wish < (List.length a1 : Int)))) && (!r108)))) else (
 (t_net_Send a0 a2 a3).bind fun r115 =>
 join (fun (s121 : Unit) =>
 some true) fun j122 =>
 loopI a1 (fun (i130 : Int) x131 (s126 : Unit) k127 =>
 if (decide (r115.2 = 0)) = true then (
 (t_wish_Fits x131 a2 r115.1).bind fun r146 =>
 if (!r146) = true then (
 some false) else (
 k127 ())) else (
 j122 ())) (fun (s126 : Unit) =>
 j122 ()) ()))
theorem ty_raillaw1_WishProves {n : Nat} (hn : bigN ≤ n) (a0 : T_Net) (a1 : (List T_Wish)) (a2 : ByteArray) (a3 : Int) : Rv (fun x : Bool => (vb x)) (sem_raillaw1_WishProves n [(T_Net.e a0), (V.sl (List.map T_Wish.c a1)), (vt a2), (vi a3)]) (t_raillaw1_WishProves a0 a1 a2 a3) := by
  rw [eq_raillaw1_WishProves]
  unfold t_raillaw1_WishProves
  refine tb (x := (T_Net.c a0)) rfl ?_
  refine tb (x := (T_Spot.e (T_Spot.mk 1 2))) (by kernel_rfl) ?_
  refine tb (x := (T_Host.e (T_Host.mk (ByteArray.mk #[97]) (T_Spot.mk 1 2)))) (by kernel_rfl) ?_
  refine tb (x := (V.sl (List.map T_Host.c ([(T_Host.mk (ByteArray.mk #[97]) (T_Spot.mk 1 2))] : (List T_Host))))) (by kernel_rfl) ?_
  refine tb (x := (T_Topo.e (T_Topo.mk 1 [] ([(T_Host.mk (ByteArray.mk #[97]) (T_Spot.mk 1 2))] : (List T_Host))))) (by kernel_rfl) ?_
  refine tb (x := (V.sl (List.map (cS T_Rule.c) ([[]] : (List (List T_Rule)))))) (by kernel_rfl) ?_
  refine tb (x := (T_Net.e (T_Net.mk (T_Topo.mk 1 [] ([(T_Host.mk (ByteArray.mk #[97]) (T_Spot.mk 1 2))] : (List T_Host))) ([[]] : (List (List T_Rule)))))) (by kernel_rfl) ?_
  refine tb (x := V.agg (T_Net.c (T_Net.mk (T_Topo.mk 1 [] ([(T_Host.mk (ByteArray.mk #[97]) (T_Spot.mk 1 2))] : (List T_Host))) ([[]] : (List (List T_Rule)))))) (by kernel_rfl) ?_
  refine tb (x := (T_Net.e (T_Net.mk (T_Topo.mk 1 [] ([(T_Host.mk (ByteArray.mk #[97]) (T_Spot.mk 1 2))] : (List T_Host))) ([[]] : (List (List T_Rule)))))) (rfl) ?_
  refine tb (x := (T_Wish.e (T_Wish.mk 1 (ByteArray.mk #[97]) (ByteArray.mk #[97]) 0))) (by kernel_rfl) ?_
  refine tb (x := (V.sl (List.map T_Wish.c ([(T_Wish.mk 1 (ByteArray.mk #[97]) (ByteArray.mk #[97]) 0)] : (List T_Wish))))) (by kernel_rfl) ?_
  refine tbo (ty_wish_Holds hn (T_Net.mk (T_Topo.mk 1 [] ([(T_Host.mk (ByteArray.mk #[97]) (T_Spot.mk 1 2))] : (List T_Host))) ([[]] : (List (List T_Rule)))) ([(T_Wish.mk 1 (ByteArray.mk #[97]) (ByteArray.mk #[97]) 0)] : (List T_Wish))) fun r13 => ?_
  refine tb (x := (T_PProof.e r13.1)) (rfl) ?_
  refine tb (x := (eV r13.2)) (rfl) ?_
  refine tb (x := V.agg (T_PProof.c r13.1)) (by kernel_rfl) ?_
  refine tbo (ty_railsame_Error r13.2 9) fun r18 => ?_
  refine tb (x := (vb (!r18))) (d_not) ?_
  refine tg_f (x := V.any) (fun h20 => rfl) ?_
  refine tg_f (x := (vt r13.1.From)) (fun h22 => bind_some_eq (gate_pos (not_t h22) (rfl))) ?_
  refine tg_f (x := (vb (!decide (r13.1.From = (ByteArray.mk #[97]))))) (fun h25 => by simp only [gv_t h25]; exact bind_some_eq (p_neq_str)) ?_
  refine tb (x := (vb ((!r18) || (!decide (r13.1.From = (ByteArray.mk #[97])))))) (pick_or (fun h9 => gv_t (not_f h9))) ?_
  refine tg_f (x := V.any) (fun h29 => rfl) ?_
  refine tg_f (x := (vi r13.1.Header)) (fun h31 => bind_some_eq (gate_pos (not_t h31) (rfl))) ?_
  refine tg_f (x := (vb (decide (r13.1.Header ≠ 0)))) (fun h34 => by simp only [gv_t h34]; exact bind_some_eq (d_neq)) ?_
  refine tb (x := (vb (((!r18) || (!decide (r13.1.From = (ByteArray.mk #[97])))) || (decide (r13.1.Header ≠ 0))))) (pick_or (fun h9 => gv_t (not_f h9))) ?_
  refine tcond (fun h38 => ?_) (fun h38 => ?_)
  · exact rf_ret rfl
  · refine tb (x := (T_Net.e a0)) (rfl) ?_
    refine tbo (ty_wish_Holds hn a0 a1) fun r41 => ?_
    refine tb (x := (T_PProof.e r41.1)) (rfl) ?_
    refine tb (x := (eV r41.2)) (rfl) ?_
    refine tb (x := V.agg (T_PProof.c r41.1)) (by kernel_rfl) ?_
    refine tb (x := (vb (!decide (r41.2 = 0)))) (p_err_neq _) ?_
    refine tcond (fun h46 => ?_) (fun h46 => ?_)
    · refine tbo (ty_railsame_Error r41.2 9) fun r48 => ?_
      refine tb (x := (vb (!r48))) (d_not) ?_
      refine tcond (fun h50 => ?_) (fun h50 => ?_)
      · exact rf_ret rfl
      · refine tb (x := (T_Net.e a0)) (rfl) ?_
        refine tb (x := (vt r41.1.From)) (rfl) ?_
        refine tb (x := (vi r41.1.Header)) (rfl) ?_
        refine tbo (ty_net_Send hn a0 r41.1.From r41.1.Header) fun r55 => ?_
        refine tb (x := (T_Fate.e r55.1)) (rfl) ?_
        refine tb (x := (eV r55.2)) (rfl) ?_
        refine tb (x := V.agg (T_Fate.c r55.1)) (by kernel_rfl) ?_
        refine tb (x := (vb (decide (r55.2 = 0)))) (p_err_eql _) ?_
        refine tg (x := V.any) (fun h60 => rfl) ?_
        refine tg (x := (vi r41.1.Wish)) (fun h62 => bind_some_eq (gate_pos h62 (rfl))) ?_
        refine tg (x := (vb (decide (0 ≤ r41.1.Wish)))) (fun h65 => by simp only [gv_t h65]; exact bind_some_eq (d_geq)) ?_
        refine tb (x := (vb ((decide (r55.2 = 0)) && (decide (0 ≤ r41.1.Wish))))) (pick_and (fun h9 => gv_t h9)) ?_
        refine tg (x := V.any) (fun h69 => rfl) ?_
        refine tg (x := (vi r41.1.Wish)) (fun h71 => bind_some_eq (gate_pos h71 (rfl))) ?_
        refine tg (x := (V.sl (List.map T_Wish.c a1))) (fun h74 => rfl) ?_
        refine tg (x := (vi (List.length a1 : Int))) (fun h76 => by simp only [gv_t h76]; exact bind_some_eq (p_len _)) ?_
        refine tg (x := (vb (decide (r41.1.Wish < (List.length a1 : Int))))) (fun h79 => by simp only [gv_t h79]; exact bind_some_eq (d_lss)) ?_
        refine tb (x := (vb (((decide (r55.2 = 0)) && (decide (0 ≤ r41.1.Wish))) && (decide (r41.1.Wish < (List.length a1 : Int)))))) (pick_and (fun h9 => gv_t h9)) ?_
        refine tg (x := (V.sl (List.map T_Wish.c a1))) (fun h83 => rfl) ?_
        refine tg (x := V.any) (fun h85 => rfl) ?_
        refine tg (x := (vi r41.1.Wish)) (fun h87 => bind_some_eq (gate_pos h87 (rfl))) ?_
        refine tgo (fun h90 => by simp only [gv_t h90]; exact rf_bind_some (p_idx (c := T_Wish.c) (fun _ => rfl) a1 r41.1.Wish)) fun r93 => ?_
        refine tg (x := (T_Wish.e r93)) (fun h94 => by first | exact bind_some_eq (rfl) | (simp only [gv_t h94]; exact bind_some_eq (rfl))) ?_
        refine tg (x := V.any) (fun h97 => rfl) ?_
        refine tg (x := (vt r41.1.From)) (fun h99 => bind_some_eq (gate_pos h99 (rfl))) ?_
        refine tg (x := (T_Fate.e r55.1)) (fun h102 => bind_some_eq (rfl)) ?_
        refine tgo (fun h105 => by simp only [gv_t h105]; exact rf_bind_some (ty_wish_Fits hn r93 r41.1.From r55.1)) fun r108 => ?_
        refine tg (x := (vb (!r108))) (fun h109 => by simp only [gv_t h109]; exact bind_some_eq (d_not)) ?_
        refine tb (x := (vb ((((decide (r55.2 = 0)) && (decide (0 ≤ r41.1.Wish))) && (decide (r41.1.Wish < (List.length a1 : Int)))) && (!r108)))) (pick_and (fun h9 => gv_t h9)) ?_
        exact rf_ret rfl
    · refine tb (x := (T_Net.e a0)) (rfl) ?_
      refine tbo (ty_net_Send hn a0 a2 a3) fun r115 => ?_
      refine tb (x := (T_Fate.e r115.1)) (rfl) ?_
      refine tb (x := (eV r115.2)) (rfl) ?_
      refine tb (x := V.agg (T_Fate.c r115.1)) (by kernel_rfl) ?_
      refine tjoin (mk := fun s121 : Unit => []) (fun s121 => ?_) fun J120 j122 h123 => ?_
      · exact rf_ret rfl
      · refine tkeepO2 ?_ rfl
        refine tsome ?_
        refine rf_loopI (mk := fun (i130 : Int) (s126 : Unit) => [(vi (i130 : Int))]) hn a1 () (fun i130 x131 h132 h133 h134 s126 rec124 k127 h128 => ?_) (fun s126 rec151 h150 => ?_)
        · refine tb (x := (vi (List.length a1 : Int))) (p_len _) ?_
          refine tb (x := (vb (decide ((i130 : Int) < (List.length a1 : Int))))) (d_lss) ?_
          refine tb (x := (eV r115.2)) (gkt h134 rfl) ?_
          refine tkt h134 (tb (x := (vb (decide (r115.2 = 0)))) (p_err_eql _) ?_)
          refine tb (x := (vb (decide (r115.2 = 0)))) (pick_kt h134) ?_
          refine tcond (fun h141 => ?_) (fun h141 => ?_)
          · refine tb (x := (V.ptr (T_Wish.c x131))) (p_idx_at (c := T_Wish.c) (fun _ => rfl) h132) ?_
            refine tb (x := (T_Wish.e x131)) (rfl) ?_
            refine tb (x := (T_Fate.e r115.1)) (rfl) ?_
            refine tbo (ty_wish_Fits hn x131 a2 r115.1) fun r146 => ?_
            refine tb (x := (vb (!r146))) (d_not) ?_
            refine tcond (fun h148 => ?_) (fun h148 => ?_)
            · exact rf_ret rfl
            · refine tb (x := (vi ((i130 : Int) + 1))) (p_incN h133) ?_
              refine tkeepO2 ?_ rfl
              refine tsome ?_
              exact h128 ()
          · exact h123 ()
        · refine tb (x := (vi (List.length a1 : Int))) (p_len _) ?_
          refine tb (x := (vb (decide ((List.length a1 : Int) < (List.length a1 : Int))))) (d_lss) ?_
          refine tb (x := V.tup []) (gnt h150) ?_
          refine tb (x := V.tup []) (gnt h150) ?_
          refine tb (x := (vb (false))) (pick_kf h150) ?_
          refine tcond_f rfl ?_
          exact h123 ()

/-! railpoint/net.ready -/
def an_net_ready : Ann := .seq (.reg 0 [] [] []) (.seq (.seq (.reg 0 [] [] []) (.seq (.reg 0 [] [] []) (.cond none (.seq (.reg 0 [] [] []) (.no)) (.no)))) (.seq (.seq (.reg 0 [] [] []) (.cond none (.seq (.reg 0 [] [] []) (.no)) (.no))) (.seq (.reg 0 [] [] []) (.no))))
noncomputable def sem_net_ready (n : Nat) (xs : List V) : Option V := if xs.length ≤ 24 then denF Tryd.prog (envOf [(27, (sem_net_Check n)), (139, (sem_topo_Spot n)), (73, (sem_cube_Header n))]) n Tryd.f83 an_net_ready xs else none
theorem ok_net_ready (n : Nat) : SemOk Tryd.prog DW 83 (sem_net_ready n) := fun xs y h => by
  unfold sem_net_ready at h
  split at h
  · rename_i hl
    exact denF_ok stb Tryd.func83 (by kernel_rfl) (envOf_ok (semsOk_cons (ok_net_Check n) (semsOk_cons (ok_topo_Spot n) (semsOk_cons (ok_cube_Header n) semsOk_nil)))) (by rw [Tryd.ntmps83]; exact hl) h
  · cases h
theorem eq_net_ready (n : Nat) (x0 x1 x2 : V) : sem_net_ready n [x0, x1, x2] =
 (V.cellsO x0).bind fun v1 =>
 (V.cellsO x1).bind fun v2 =>
 (ldk (some 4) (List.drop 0 v1)).bind fun v3 =>
 ((sem_net_Check n) [v3]).bind fun v4 =>
 (bin2 Tryd.prog BinOp.neq 35 (ot 10) (Operand.const Go.Value.nilIface) v4 vn).bind fun v5 =>
 condV v5 (
 some v4) (
 (ldk (some 3) (List.drop 0 v1)).bind fun v6 =>
 (ldk (some 2) (List.drop 0 v2)).bind fun v7 =>
 ((sem_topo_Spot n) [v6, v7]).bind fun v8 =>
 (scal1 Tryd.prog (Op.unary Go.UnOp.not) v8).bind fun v9 =>
 (guardV v9 false (some x2)).bind fun v10 =>
 (guardV v9 false (((sem_cube_Header n) [v10]).bind fun v11 =>
 some v11)).bind fun v12 =>
 (guardV v9 false ((scal1 Tryd.prog (Op.unary Go.UnOp.not) v12).bind fun v13 =>
 some v13)).bind fun v14 =>
 (pickV v9 (vb true) v14).bind fun v15 =>
 condV v15 (
 (scal1 Tryd.prog (Instr.makeInterface 143) (vi 1)).bind fun v16 =>
 some v16) (
 some vn)) := by kernel_rfl
noncomputable def t_net_ready (a0 : T_Net) (a1 : T_Spot) (a2 : Int) : Option Int :=
 (t_net_Check a0).bind fun r5 =>
 if (!decide (r5 = 0)) = true then (
 some r5) else (
 (t_topo_Spot a0.Topo a1).bind fun r11 =>
 (gd (!(!r11)) default (t_cube_Header a2)).bind fun r18 =>
 if ((!r11) || (!r18)) = true then (
 some 1) else (
 some 0))
theorem ty_net_ready {n : Nat} (hn : bigN ≤ n) (a0 : T_Net) (a1 : T_Spot) (a2 : Int) : Rv (fun x : Int => (eV x)) (sem_net_ready n [(T_Net.e a0), (T_Spot.e a1), (vi a2)]) (t_net_ready a0 a1 a2) := by
  rw [eq_net_ready]
  unfold t_net_ready
  refine tb (x := (T_Net.c a0)) rfl ?_
  refine tb (x := (T_Spot.c a1)) rfl ?_
  refine tb (x := (T_Net.e a0)) (rfl) ?_
  refine tbo (ty_net_Check hn a0) fun r5 => ?_
  refine tb (x := (vb (!decide (r5 = 0)))) (p_err_neq _) ?_
  refine tcond (fun h7 => ?_) (fun h7 => ?_)
  · exact rf_ret rfl
  · refine tb (x := (T_Topo.e a0.Topo)) (rfl) ?_
    refine tb (x := (T_Spot.e a1)) (rfl) ?_
    refine tbo (ty_topo_Spot hn a0.Topo a1) fun r11 => ?_
    refine tb (x := (vb (!r11))) (d_not) ?_
    refine tg_f (x := (vi a2)) (fun h13 => rfl) ?_
    refine tgo_f (fun h15 => by simp only [gv_t h15]; exact rf_bind_some (ty_cube_Header hn a2)) fun r18 => ?_
    refine tg_f (x := (vb (!r18))) (fun h19 => by simp only [gv_t h19]; exact bind_some_eq (d_not)) ?_
    refine tb (x := (vb ((!r11) || (!r18)))) (pick_or (fun h9 => gv_t (not_f h9))) ?_
    refine tcond (fun h23 => ?_) (fun h23 => ?_)
    · refine tb (x := (eV 1)) (p_mkE (by decide)) ?_
      exact rf_ret rfl
    · exact rf_ret rfl

/-! railpoint/net.From -/
def an_net_From : Ann := .seq (.reg 0 [] [] []) (.seq (.seq (.reg 0 [] [] []) (.seq (.reg 0 [] [] []) (.cond none (.seq (.reg 0 [] [] []) (.no)) (.no)))) (.seq (.reg 0 [] [] []) (.no)))
noncomputable def sem_net_From (n : Nat) (xs : List V) : Option V := if xs.length ≤ 21 then denF Tryd.prog (envOf [(83, (sem_net_ready n)), (77, (sem_net_Of n))]) n Tryd.f33 an_net_From xs else none
theorem ok_net_From (n : Nat) : SemOk Tryd.prog DW 33 (sem_net_From n) := fun xs y h => by
  unfold sem_net_From at h
  split at h
  · rename_i hl
    exact denF_ok stb Tryd.func33 (by kernel_rfl) (envOf_ok (semsOk_cons (ok_net_ready n) (semsOk_cons (ok_net_Of n) semsOk_nil))) (by rw [Tryd.ntmps33]; exact hl) h
  · cases h
theorem eq_net_From (n : Nat) (x0 x1 x2 : V) : sem_net_From n [x0, x1, x2] =
 (V.cellsO x0).bind fun v1 =>
 (V.cellsO x1).bind fun v2 =>
 (ldk (some 4) (List.drop 0 v1)).bind fun v3 =>
 (ldk (some 2) (List.drop 0 v2)).bind fun v4 =>
 ((sem_net_ready n) [v3, v4, x2]).bind fun v5 =>
 (bin2 Tryd.prog BinOp.neq 35 (ot 13) (Operand.const Go.Value.nilIface) v5 vn).bind fun v6 =>
 condV v6 (
 ((fillL [(vi 0), (V.lit (Go.Value.string (ByteArray.mk #[]))), (V.sl [])] []).map V.agg).bind fun v7 =>
 (spliceV [(vi 0), (V.lit (Go.Value.string (ByteArray.mk #[]))), (V.sl [])] 0 3 v7).bind fun v8 =>
 (ldk (some 3) (List.drop 0 (aggL v8))).bind fun v9 =>
 some (V.tup [v9, v5])) (
 (ldk (some 4) (List.drop 0 v1)).bind fun v10 =>
 (ldk (some 2) (List.drop 0 v2)).bind fun v11 =>
 ((sem_net_Of n) [v10, v11, x2]).bind fun v12 =>
 (spliceV [(vi 0), (V.lit (Go.Value.string (ByteArray.mk #[]))), (V.sl [])] 0 3 v12).bind fun v13 =>
 (ldk (some 3) (List.drop 0 (aggL v13))).bind fun v14 =>
 some (V.tup [v14, vn])) := by kernel_rfl
noncomputable def t_net_From (a0 : T_Net) (a1 : T_Spot) (a2 : Int) : Option (T_Fate × Int) :=
 (t_net_ready a0 a1 a2).bind fun r6 =>
 if (!decide (r6 = 0)) = true then (
 some ((T_Fate.mk 0 (ByteArray.mk #[]) []), r6)) else (
 (t_net_Of a0 a1 a2).bind fun r15 =>
 some (r15, 0))
theorem ty_net_From {n : Nat} (hn : bigN ≤ n) (a0 : T_Net) (a1 : T_Spot) (a2 : Int) : Rv (fun x : (T_Fate × Int) => V.tup [(T_Fate.e x.1), (eV x.2)]) (sem_net_From n [(T_Net.e a0), (T_Spot.e a1), (vi a2)]) (t_net_From a0 a1 a2) := by
  rw [eq_net_From]
  unfold t_net_From
  refine tb (x := (T_Net.c a0)) rfl ?_
  refine tb (x := (T_Spot.c a1)) rfl ?_
  refine tb (x := (T_Net.e a0)) (rfl) ?_
  refine tb (x := (T_Spot.e a1)) (rfl) ?_
  refine tbo (ty_net_ready hn a0 a1 a2) fun r6 => ?_
  refine tb (x := (vb (!decide (r6 = 0)))) (p_err_neq _) ?_
  refine tcond (fun h8 => ?_) (fun h8 => ?_)
  · refine tb (x := (T_Fate.e (T_Fate.mk 0 (ByteArray.mk #[]) []))) (by kernel_rfl) ?_
    refine tb (x := V.agg (T_Fate.c (T_Fate.mk 0 (ByteArray.mk #[]) []))) (by kernel_rfl) ?_
    refine tb (x := (T_Fate.e (T_Fate.mk 0 (ByteArray.mk #[]) []))) rfl ?_
    exact rf_ret rfl
  · refine tb (x := (T_Net.e a0)) (rfl) ?_
    refine tb (x := (T_Spot.e a1)) (rfl) ?_
    refine tbo (ty_net_Of hn a0 a1 a2) fun r15 => ?_
    refine tb (x := V.agg (T_Fate.c r15)) (by kernel_rfl) ?_
    refine tb (x := (T_Fate.e r15)) rfl ?_
    exact rf_ret rfl

end Go.Proofs.YtpjadjoekdcjiaaDoor.Ty
