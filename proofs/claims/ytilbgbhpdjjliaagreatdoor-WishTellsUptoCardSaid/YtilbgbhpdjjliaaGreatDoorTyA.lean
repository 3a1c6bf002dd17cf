/- What functions do, as functions on plain types, written by a program and checked by the kernel. -/
import Derived.Test.YtilbgbhpdjjliaaGreatDoorTyB
import Derived.Test.YtilbgbhpdjjliaaGreatDoorDenGreatW
import Derived.Test.YtilbgbhpdjjliaaGreatDoorTy
import Derived.Test.YtilbgbhpdjjliaaGreatDoorTyT
import Derived.Test.YtilbgbhpdjjliaaGreatDoorTyX
import Derived.Test.YtilbgbhpdjjliaaGreatDoorDen14
import Derived.Test.YtilbgbhpdjjliaaGreatDoorClone
import Derived.Test.YtilbgbhpdjjliaaGreatDoorShelfT
import Derived.Test.YtilbgbhpdjjliaaGreatDoorTyA0
import Derived.Test.YtilbgbhpdjjliaaGreatDoorWN
namespace Go.Proofs.YtilbgbhpdjjliaaGreatDoor.Ty
open Go Go.RowKit Go.Proofs.YtilbgbhpdjjliaaGreatDoor.Den
set_option linter.unusedVariables false
set_option maxRecDepth 100000
def an_railref1_bit : Ann := .seq (.reg 0 [] [] []) (.seq (.seq (.reg 0 [] [] []) (.blk (some [.s 0]) (.loop [.s 0, .s 5] (.seq (.seq (.reg 0 [] [] []) (.cond none (.no) (.no))) (.seq (.blk none (.reg 0 [] [] [])) (.reg 0 [] [] [])))))) (.seq (.reg 0 [] [] []) (.no)))
noncomputable def sem_railref1_bit (n : Nat) (xs : List V) : Option V := if xs.length ≤ 16 then denF Tryz.prog (envOf []) n Tryz.f46 an_railref1_bit xs else none
theorem ok_railref1_bit (n : Nat) : SemOk Tryz.prog DW 46 (sem_railref1_bit n) := fun xs y h => by
 unfold sem_railref1_bit at h
 split at h
 ·rename_i hl
  exact denF_ok stb Tryz.func46 (by kernel_rfl) (envOf_ok semsOk_nil) (by rw [Tryz.ntmps46]; exact hl) h
 ·cases h
theorem eq_railref1_bit (n : Nat) (x0 x1 : V) : sem_railref1_bit n [x0, x1] =
 JoinPt (fun vs1 =>
 (bin2 Tryz.prog BinOp.rem 3 (ot 13) (oc 2) (List.getD vs1 0 V.any) (vi 2)).bind fun v3 =>
 (bin2 Tryz.prog BinOp.eql 3 (ot 14) (oc 1) v3 (vi 1)).bind fun v4 =>
 some v4) fun J2 =>
 (fixN (fun rec5 vs6 =>
 (bin2 Tryz.prog BinOp.lss 3 (ot 6) (ot 7) (List.getD vs6 1 V.any) x1).bind fun v7 =>
 condV v7 (
 (bin2 Tryz.prog BinOp.quo 3 (ot 11) (oc 2) (List.getD vs6 0 V.any) (vi 2)).bind fun v8 =>
 (bin2 Tryz.prog BinOp.add 3 (ot 9) (oc 1) (List.getD vs6 1 V.any) (vi 1)).bind fun v9 =>
 rec5 [v8, v9]) (
 J2 [(List.getD vs6 0 V.any)])) n) [x0, (vi 0)] := by kernel_rfl
noncomputable def t_railref1_bit (a0 : Int) (a1 : Int) : Option Bool :=
 (loopU 0 a1 (fun (i14 : Int) (s10 : Int) k11 =>
 k11 (wr (Int.tdiv s10 2))) (fun (i14 : Int) (s10 : Int) =>
 some (s10)) (a0)).bind fun (s3 : Int) =>
 some (decide ((Int.tmod s3 2) = 1))
theorem ty_railref1_bit {n : Nat} (hn : bigN ≤ n) (a0 : Int) (a1 : Int) : Rv (fun x : Bool => (vb x)) (sem_railref1_bit n [(vi a0), (vi a1)]) (t_railref1_bit a0 a1) := by
 rw [eq_railref1_bit]
 unfold t_railref1_bit; refine tjb (mk := fun s3 : Int => [(vi s3)]) (fun J2 => ?_) fun s3 => ?_
 ·refine rf_loopU (mk := fun (i14 : Int) (s10 : Int) => [(vi s10), (vi i14)]) hn _ _ (a0) (fun i14 h15 h16 h17 s10 rec8 k11 h12 => ?_) (fun i14 s10 rec19 h18 => ?_)
  ·refine tb (x := (vb (decide (i14 < a1)))) (d_lss) ?_; refine tcond_t h15 ?_; refine tb (x := (vi (wr (Int.tdiv s10 2)))) (p_quo (by decide)) ?_; refine tb (x := (vi (i14 + 1))) (p_inc h16 h17) ?_; exact h12 (wr (Int.tdiv s10 2))
  ·refine tb (x := (vb (decide (i14 < a1)))) (d_lss) ?_; refine tcond_f h18 ?_; exact rf_j rfl
 ·refine tb (x := (vi (Int.tmod s3 2))) (p_rem (by decide)) ?_; refine tb (x := (vb (decide ((Int.tmod s3 2) = 1)))) (d_eql) ?_; exact rf_ret rfl
def an_railref1_Turned : Ann := .seq (.reg 0 [] [] []) (.seq (.reg 0 [] [] []) (.seq (.seq (.reg 0 [] [] []) (.blk (some [.s 5]) (.loop [.kb 2, .s 5, .s 6] (.seq (.seq (.reg 0 [] [] []) (.cond none (.no) (.no))) (.seq (.blk none (.seq (.reg 0 [] [] []) (.seq (.reg 0 [] [] []) (.seq (.reg 0 [] [] []) (.seq (.reg 0 [] [] []) (.seq (.reg 0 [] [] []) (.cond (some [.kb 2, .s 5]) (.reg 0 [] [] []) (.no)))))))) (.reg 0 [] [] [])))))) (.seq (.reg 0 [] [] []) (.no))))
noncomputable def sem_railref1_Turned (n : Nat) (xs : List V) : Option V := if xs.length ≤ 41 then denF Tryz.prog (envOf [(46, (sem_railref1_bit n))]) n Tryz.f14 an_railref1_Turned xs else none
theorem ok_railref1_Turned (n : Nat) : SemOk Tryz.prog DW 14 (sem_railref1_Turned n) := fun xs y h => by
 unfold sem_railref1_Turned at h
 split at h
 ·rename_i hl
  exact denF_ok stb Tryz.func14 (by kernel_rfl) (envOf_ok (semsOk_cons (ok_railref1_bit n) semsOk_nil)) (by rw [Tryz.ntmps14]; exact hl) h
 ·cases h
theorem eq_railref1_Turned (n : Nat) (x0 x1 : V) : sem_railref1_Turned n [x0, x1] =
 (V.cellsO x0).bind fun v1 =>
 JoinPt (fun vs2 =>
 some (List.getD vs2 0 V.any)) fun J3 =>
 (keepO (some v1) (some v1) (some [(vi 0), (vi 3)])).bind (fixN (fun rec4 vs5 =>
 (bin2 Tryz.prog BinOp.geq 3 (ot 10) (oc 0) (List.getD vs5 1 V.any) (vi 0)).bind fun v6 =>
 condV v6 (
 (ldk none (List.drop 4 v1)).bind fun v7 =>
 ((sem_railref1_bit n) [v7, (List.getD vs5 1 V.any)]).bind fun v8 =>
 (ldk none (List.drop 5 v1)).bind fun v9 =>
 ((sem_railref1_bit n) [v9, (List.getD vs5 1 V.any)]).bind fun v10 =>
 ((sem_railref1_bit n) [x1, (List.getD vs5 1 V.any)]).bind fun v11 =>
 (bin2 Tryz.prog BinOp.mul 3 (ot 25) (oc 2) (List.getD vs5 0 V.any) (vi 2)).bind fun v12 =>
 (guardV v8 true (some v10)).bind fun v13 =>
 (pickV v8 v13 (vb false)).bind fun v14 =>
 (guardV v14 false (some v8)).bind fun v15 =>
 (guardV v14 false ((scal1 Tryz.prog (Op.unary Go.UnOp.not) v15).bind fun v16 =>
 some v16)).bind fun v17 =>
 (guardV v14 false (some v17)).bind fun v18 =>
 (guardV v18 true (some v11)).bind fun v19 =>
 (guardV v14 false ((pickV v18 v19 (vb false)).bind fun v20 =>
 some v20)).bind fun v21 =>
 (pickV v14 (vb true) v21).bind fun v22 =>
 JoinPt (fun vs23 =>
 (bin2 Tryz.prog BinOp.sub 3 (ot 12) (oc 1) (List.getD vs5 1 V.any) (vi 1)).bind fun v25 =>
 (keepO (some v1) (some v1) (some [(List.getD vs23 0 V.any), v25])).bind rec4) fun J24 =>
 condV v22 (
 (bin2 Tryz.prog BinOp.add 3 (ot 38) (oc 1) v12 (vi 1)).bind fun v26 =>
 (keepO (some v1) (some v1) (some [v26])).bind J24) (
 (keepO (some v1) (some v1) (some [v12])).bind J24)) (
 J3 [(List.getD vs5 0 V.any)])) n) := by kernel_rfl
noncomputable def t_railref1_Turned (a0 : T_Rule) (a1 : Int) : Option Int :=
 (tfix (fun k10 (s9 : (Int × Int)) =>
 if (decide (0 ≤ s9.2)) = true then (
 (t_railref1_bit a0.Set s9.2).bind fun r18 =>
 (t_railref1_bit a0.Value s9.2).bind fun r21 =>
 (t_railref1_bit a1 s9.2).bind fun r23 =>
 (if ((r18 && r21) || ((!r18) && r23)) = true then (
 some (wr ((wr (s9.1 * 2)) + 1))) else (
 some (wr (s9.1 * 2)))).bind fun (s43 : Int) =>
 k10 (s43, (wr (s9.2 - 1)))) else (
 some (s9.1))) bigN (0, 3)).bind fun (s4 : Int) =>
 some s4
theorem ty_railref1_Turned {n : Nat} (hn : bigN ≤ n) (a0 : T_Rule) (a1 : Int) : Rv (fun x : Int => (vi x)) (sem_railref1_Turned n [(T_Rule.e a0), (vi a1)]) (t_railref1_Turned a0 a1) := by
 rw [eq_railref1_Turned]
 unfold t_railref1_Turned; refine tb (x := (T_Rule.c a0)) rfl ?_; refine tjb (mk := fun s4 : Int => [(vi s4)]) (fun J3 => ?_) fun s4 => ?_
 ·refine tkeepO2 ?_ rfl; refine tsome ?_; refine rf_fixN (mk := fun (s9 : (Int × Int)) => [(vi s9.1), (vi s9.2)]) hn (0, 3) (fun rec7 k10 h11 s9 => ?_); refine tb (x := (vb (decide (0 ≤ s9.2)))) (d_geq) ?_; refine tcond (fun h15 => ?_) (fun h15 => ?_)
  ·refine tb (x := (vi a0.Set)) (rfl) ?_; refine tbo (ty_railref1_bit hn a0.Set s9.2) fun r18 => ?_; refine tb (x := (vi a0.Value)) (rfl) ?_; refine tbo (ty_railref1_bit hn a0.Value s9.2) fun r21 => ?_; refine tbo (ty_railref1_bit hn a1 s9.2) fun r23 => ?_; refine tb (x := (vi (wr (s9.1 * 2)))) (d_mul) ?_; refine tg (x := (vb r21)) (fun h25 => rfl) ?_; refine tb (x := (vb (r18 && r21))) (pick_and (fun h9 => gv_t h9)) ?_; refine tg_f (x := (vb r18)) (fun h28 => rfl) ?_; refine tg_f (x := (vb (!r18))) (fun h30 => by simp only [gv_t h30]; exact bind_some_eq (d_not)) ?_; refine tg_f (x := (vb (!r18))) (fun h33 => congrArg some (gv_t h33)) ?_; refine tg2 (x := (vb r23)) (fun h35 => rfl) ?_; refine tg_f (x := (vb ((!r18) && r23))) (fun h37 => by simp only [gv_t h37]; exact bind_some_eq (pick_and (fun h9 => gv_t (and_i h37 h9)))) ?_; refine tb (x := (vb ((r18 && r21) || ((!r18) && r23)))) (pick_or (fun h9 => gv_t (not_f h9))) ?_; refine tjb (mk := fun s43 : Int => [(vi s43)]) (fun J42 => ?_) fun s43 => ?_
   ·refine tcond (fun h47 => ?_) (fun h47 => ?_)
    ·refine tb (x := (vi (wr ((wr (s9.1 * 2)) + 1)))) (d_add) ?_; refine tkeepO2 ?_ rfl; refine tsome ?_; exact rf_j rfl
    ·refine tkeepO2 ?_ rfl; refine tsome ?_; exact rf_j rfl
   ·refine tb (x := (vi (wr (s9.2 - 1)))) (d_sub) ?_; refine tkeepO2 ?_ rfl; refine tsome ?_; exact h11 (s43, (wr (s9.2 - 1)))
  ·exact rf_j rfl
 ·exact rf_ret rfl
def an_railref1_Go : Ann := .seq (.reg 0 [] [] []) (.seq (.reg 0 [] [] []) (.seq (.reg 0 [] [] []) (.seq (.seq (.reg 0 [] [] []) (.cond none (.seq (.reg 0 [] [] []) (.seq (.reg 0 [] [] []) (.no))) (.no))) (.seq (.reg 10 [] [] []) (.seq (.reg 0 [] [] []) (.seq (.seq (.reg 0 [] [] []) (.cond none (.seq (.reg 0 [] [] []) (.seq (.reg 0 [] [] []) (.seq (.reg 0 [] [] []) (.no)))) (.no))) (.seq (.reg 0 [] [] []) (.seq (.seq (.reg 0 [] [] []) (.cond none (.seq (.reg 0 [] [] []) (.seq (.reg 0 [] [] []) (.no))) (.no))) (.seq (.reg 10 [] [] []) (.seq (.reg 0 [] [] []) (.seq (.seq (.reg 0 [] [] []) (.blk (some [.kb 5, .kb 6, .kb 14, .s 15]) (.loop [.kb 5, .kb 6, .kb 14, .s 15, .s 16] (.seq (.seq (.reg 0 [] [] []) (.cond none (.no) (.no))) (.seq (.blk none (.reg 11 [] [] [])) (.reg 0 [] [] [])))))) (.seq (.seq (.reg 0 [] [] []) (.cond none (.seq (.reg 0 [] [] []) (.seq (.reg 0 [] [] []) (.no))) (.no))) (.seq (.reg 0 [] [] []) (.seq (.reg 0 [] [] []) (.seq (.reg 0 [] [] []) (.seq (.reg 0 [] [] []) (.no)))))))))))))))))
noncomputable def sem_railref1_Go (n : Nat) (xs : List V) : Option V := if xs.length ≤ 118 then denF Tryz.prog (envOf [(18, (sem_railref1_Find n)), (99, (sem_railref1_Host n)), (100, (sem_railref1_Peer n)), (14, (sem_railref1_Turned n))]) n Tryz.f79 an_railref1_Go xs else none
theorem ok_railref1_Go (n : Nat) : SemOk Tryz.prog DW 79 (sem_railref1_Go n) := fun xs y h => by
 unfold sem_railref1_Go at h
 split at h
 ·rename_i hl
  exact denF_ok stb Tryz.func79 (by kernel_rfl) (envOf_ok (semsOk_cons (ok_railref1_Find n) (semsOk_cons (ok_railref1_Host n) (semsOk_cons (ok_railref1_Peer n) (semsOk_cons (ok_railref1_Turned n) semsOk_nil))))) (by rw [Tryz.ntmps79]; exact hl) h
 ·cases h
theorem eq_railref1_Go (n : Nat) (x0 x1 x2 : V) : sem_railref1_Go n [x0, x1, x2] =
 (V.cellsO x0).bind fun v1 =>
 (V.cellsO x2).bind fun v2 =>
 (ldk none (List.drop 2 v2)).bind fun v3 =>
 (ldk none (List.drop 2 v2)).bind fun v4 =>
 (lenS [v4]).bind fun v5 =>
 (bin2 Tryz.prog BinOp.sub 3 (ot 22) (oc 1) v5 (vi 1)).bind fun v6 =>
 (idxS 3 v3 v6).bind fun v7 =>
 (ldp (some 3) v7).bind fun v8 =>
 (spliceV [(vi 0), (vi 0), (vi 0)] 0 3 v8).bind fun v9 =>
 (ldk none (List.drop 2 (aggL v9))).bind fun v10 =>
 ((sem_railref1_Find n) [x1, v10]).bind fun v11 =>
 (bin2 Tryz.prog BinOp.lss 3 (ot 30) (oc 0) v11 (vi 0)).bind fun v12 =>
 (guardV v12 false (some x1)).bind fun v13 =>
 (guardV v12 false (some v11)).bind fun v14 =>
 (guardV v12 false ((idxS 6 v13 v14).bind fun v15 =>
 some v15)).bind fun v16 =>
 (guardV v12 false ((ptrF 3 v16).bind fun v17 =>
 some v17)).bind fun v18 =>
 (guardV v12 false ((ldp none v18).bind fun v19 =>
 some v19)).bind fun v20 =>
 (guardV v12 false ((bin2 Tryz.prog BinOp.eql 3 (ot 37) (oc 0) v20 (vi 0)).bind fun v21 =>
 some v21)).bind fun v22 =>
 (pickV v12 (vb true) v22).bind fun v23 =>
 condV v23 (
 (spliceV v2 0 1 (vi 2)).bind fun v24 =>
 (ldk (some 3) (List.drop 0 (aggL v24))).bind fun v25 =>
 (spliceV [(vi 0), (vt ⟨#[]⟩), (V.sl [])] 0 3 v25).bind fun v26 =>
 (ldk (some 3) (List.drop 0 (aggL v26))).bind fun v27 =>
 some (V.tup [v27, (vb false)])) (
 (ldk none (List.drop 0 (aggL v9))).bind fun v28 =>
 (idxS 6 x1 v11).bind fun v29 =>
 (ptrF 3 v29).bind fun v30 =>
 (ldp none v30).bind fun v31 =>
 ((fillL [(vi 0), (vi 0)] [(0, 1, v28), (1, 1, v31)]).map V.agg).bind fun v32 =>
 (spliceV [(vi 0), (vi 0)] 0 2 v32).bind fun v33 =>
 (ldk (some 3) (List.drop 0 v1)).bind fun v34 =>
 (ldk (some 2) (List.drop 0 (aggL v33))).bind fun v35 =>
 ((sem_railref1_Host n) [v34, v35]).bind fun v36 =>
 (bin2 Tryz.prog BinOp.geq 3 (ot 54) (oc 0) v36 (vi 0)).bind fun v37 =>
 condV v37 (
 (spliceV v2 0 1 (vi 1)).bind fun v38 =>
 (ldk none (List.drop 2 v1)).bind fun v39 =>
 (idxS 3 v39 v36).bind fun v40 =>
 (ptrF 0 v40).bind fun v41 =>
 (ldp none v41).bind fun v42 =>
 (spliceV (aggL v38) 1 1 v42).bind fun v43 =>
 (ldk (some 3) (List.drop 0 (aggL v43))).bind fun v44 =>
 (spliceV [(vi 0), (vt ⟨#[]⟩), (V.sl [])] 0 3 v44).bind fun v45 =>
 (ldk (some 3) (List.drop 0 (aggL v45))).bind fun v46 =>
 some (V.tup [v46, (vb false)])) (
 (ldk (some 3) (List.drop 0 v1)).bind fun v47 =>
 (ldk (some 2) (List.drop 0 (aggL v33))).bind fun v48 =>
 ((sem_railref1_Peer n) [v47, v48]).bind fun v49 =>
 (extractV v49 0).bind fun v50 =>
 (extractV v49 1).bind fun v51 =>
 (spliceV [(vi 0), (vi 0)] 0 2 v50).bind fun v52 =>
 (scal1 Tryz.prog (Op.unary Go.UnOp.not) v51).bind fun v53 =>
 condV v53 (
 (spliceV v2 0 1 (vi 3)).bind fun v54 =>
 (ldk (some 3) (List.drop 0 (aggL v54))).bind fun v55 =>
 (spliceV [(vi 0), (vt ⟨#[]⟩), (V.sl [])] 0 3 v55).bind fun v56 =>
 (ldk (some 3) (List.drop 0 (aggL v56))).bind fun v57 =>
 some (V.tup [v57, (vb false)])) (
 (ldk (some 2) (List.drop 0 (aggL v52))).bind fun v58 =>
 (idxS 6 x1 v11).bind fun v59 =>
 (ldp (some 6) v59).bind fun v60 =>
 (ldk none (List.drop 2 (aggL v9))).bind fun v61 =>
 ((sem_railref1_Turned n) [v60, v61]).bind fun v62 =>
 ((fillL [(vi 0), (vi 0), (vi 0)] [(0, 2, v58), (2, 1, v62)]).map V.agg).bind fun v63 =>
 (spliceV [(vi 0), (vi 0), (vi 0)] 0 3 v63).bind fun v64 =>
 (ldk none (List.drop 2 v2)).bind fun v65 =>
 (lenS [v65]).bind fun v66 =>
 (bin2 Tryz.prog BinOp.geq 3 (ot 86) (oc 24) v66 (vi 24)).bind fun v67 =>
 JoinPt (fun vs68 =>
 condV (List.getD vs68 0 V.any) (
 (spliceV v2 0 1 (vi 4)).bind fun v70 =>
 (ldk (some 3) (List.drop 0 (aggL v70))).bind fun v71 =>
 (spliceV [(vi 0), (vt ⟨#[]⟩), (V.sl [])] 0 3 v71).bind fun v72 =>
 (ldk (some 3) (List.drop 0 (aggL v72))).bind fun v73 =>
 some (V.tup [v73, (vb false)])) (
 (ldk none (List.drop 2 v2)).bind fun v74 =>
 (appV 3 [] v74).bind fun v75 =>
 (ldk (some 3) (List.drop 0 (aggL v64))).bind fun v76 =>
 (slcB 3 1 [(vi 0), (vi 0), (vi 0)] [(0, v76)]).bind fun v77 =>
 (appV 3 (slL v75) v77).bind fun v78 =>
 (spliceV v2 2 1 (V.sl (slL v78))).bind fun v79 =>
 (ldk (some 3) (List.drop 0 (aggL v79))).bind fun v80 =>
 (spliceV [(vi 0), (vt ⟨#[]⟩), (V.sl [])] 0 3 v80).bind fun v81 =>
 (ldk (some 3) (List.drop 0 (aggL v81))).bind fun v82 =>
 some (V.tup [v82, (vb true)]))) fun J69 =>
 (keepO (some v2) (some v2) (keepO (some [(vi 0), (vt ⟨#[]⟩), (V.sl [])]) (some [(vi 0), (vt ⟨#[]⟩), (V.sl [])]) (keepO (some (aggL v64)) (some (aggL v64)) (some [v67, (vi 0)])))).bind (fixN (fun rec83 vs84 =>
 (ldk none (List.drop 2 v2)).bind fun v85 =>
 (lenS [v85]).bind fun v86 =>
 (bin2 Tryz.prog BinOp.lss 3 (ot 88) (ot 91) (List.getD vs84 1 V.any) v86).bind fun v87 =>
 condV v87 (
 (guardV (List.getD vs84 0 V.any) false (some V.any)).bind fun v88 =>
 (guardV (List.getD vs84 0 V.any) false ((gate (List.getD vs84 0 V.any) false (ldk none (List.drop 2 v2))).bind fun v89 =>
 some v89)).bind fun v90 =>
 (guardV (List.getD vs84 0 V.any) false (some (List.getD vs84 1 V.any))).bind fun v91 =>
 (guardV (List.getD vs84 0 V.any) false ((idxS 3 v90 v91).bind fun v92 =>
 some v92)).bind fun v93 =>
 (guardV (List.getD vs84 0 V.any) false ((ldp (some 3) v93).bind fun v94 =>
 some v94)).bind fun v95 =>
 (guardV (List.getD vs84 0 V.any) false ((ldk (some 3) (List.drop 0 (aggL v64))).bind fun v96 =>
 some v96)).bind fun v97 =>
 (guardV (List.getD vs84 0 V.any) false ((bin2 Tryz.prog BinOp.eql 124 (ot 101) (ot 102) v95 v97).bind fun v98 =>
 some v98)).bind fun v99 =>
 (pickV (List.getD vs84 0 V.any) (vb true) v99).bind fun v100 =>
 (bin2 Tryz.prog BinOp.add 3 (ot 93) (oc 1) (List.getD vs84 1 V.any) (vi 1)).bind fun v101 =>
 (keepO (some v2) (some v2) (keepO (some [(vi 0), (vt ⟨#[]⟩), (V.sl [])]) (some [(vi 0), (vt ⟨#[]⟩), (V.sl [])]) (keepO (some (aggL v64)) (some (aggL v64)) (some [v100, v101])))).bind rec83) (
 (keepO (some v2) (some v2) (keepO (some [(vi 0), (vt ⟨#[]⟩), (V.sl [])]) (some [(vi 0), (vt ⟨#[]⟩), (V.sl [])]) (keepO (some (aggL v64)) (some (aggL v64)) (some [(List.getD vs84 0 V.any)])))).bind J69)) n)))) := by kernel_rfl
noncomputable def t_railref1_Go (a0 : T_Topo) (a1 : (List T_Rule)) (a2 : T_Fate) : Option (T_Fate × Bool) :=
 (idx a2.Hops (wr ((List.length a2.Hops : Int) - 1))).bind fun r8 =>
 (t_railref1_Find a1 r8.Header).bind fun r13 =>
 (gd (!(decide (r13 < 0))) default (idx a1 r13)).bind fun r22 =>
 if ((decide (r13 < 0)) || (decide (r22.Out = 0))) = true then (
 some ((T_Fate.mk 2 a2.Host a2.Hops), false)) else (
 (idx a1 r13).bind fun r40 =>
 (t_railref1_Host a0 (T_Spot.mk r8.At.Switch r40.Out)).bind fun r48 =>
 if (decide (0 ≤ r48)) = true then (
 (idx a0.Hosts r48).bind fun r54 =>
 some ((T_Fate.mk 1 r54.Name a2.Hops), false)) else (
 (t_railref1_Peer a0 (T_Spot.mk r8.At.Switch r40.Out)).bind fun r64 =>
 if (!r64.2) = true then (
 some ((T_Fate.mk 3 a2.Host a2.Hops), false)) else (
 (idx a1 r13).bind fun r76 =>
 (t_railref1_Turned r76 r8.Header).bind fun r80 =>
 (loopI a2.Hops (fun (i113 : Int) x114 (s109 : Bool) k110 =>
 k110 (s109 || (decide (x114 = (T_Hop.mk r64.1 r80))))) (fun (s109 : Bool) =>
 some (s109)) (decide (24 ≤ (List.length a2.Hops : Int)))).bind fun (s88 : Bool) =>
 if s88 = true then (
 some ((T_Fate.mk 4 a2.Host a2.Hops), false)) else (
 (app ([] : (List T_Hop)) a2.Hops).bind fun r98 =>
 (app r98 ([(T_Hop.mk r64.1 r80)] : (List T_Hop))).bind fun r102 =>
 some ((T_Fate.mk a2.How a2.Host r102), true)))))
theorem ty_railref1_Go {n : Nat} (hn : bigN ≤ n) (a0 : T_Topo) (a1 : (List T_Rule)) (a2 : T_Fate) : Rv (fun x : (T_Fate × Bool) => V.tup [(T_Fate.e x.1), (vb x.2)]) (sem_railref1_Go n [(T_Topo.e a0), (V.sl (List.map T_Rule.c a1)), (T_Fate.e a2)]) (t_railref1_Go a0 a1 a2) := by
 rw [eq_railref1_Go]
 unfold t_railref1_Go; refine tb (x := (T_Topo.c a0)) rfl ?_; refine tb (x := (T_Fate.c a2)) rfl ?_; refine tb (x := (V.sl (List.map T_Hop.c a2.Hops))) (rfl) ?_; refine tb (x := (V.sl (List.map T_Hop.c a2.Hops))) (rfl) ?_; refine tb (x := (vi (List.length a2.Hops : Int))) (p_len _) ?_; refine tb (x := (vi (wr ((List.length a2.Hops : Int) - 1)))) (d_sub) ?_; refine tbo (p_idx (c := T_Hop.c) (fun _ => rfl) a2.Hops (wr ((List.length a2.Hops : Int) - 1))) fun r8 => ?_; refine tb (x := (T_Hop.e r8)) (rfl) ?_; refine tb (x := V.agg (T_Hop.c r8)) (by kernel_rfl) ?_; refine tb (x := (vi r8.Header)) (rfl) ?_; refine tbo (ty_railref1_Find hn a1 r8.Header) fun r13 => ?_; refine tb (x := (vb (decide (r13 < 0)))) (d_lss) ?_; refine tg_f (x := (V.sl (List.map T_Rule.c a1))) (fun h15 => rfl) ?_; refine tg_f (x := (vi r13)) (fun h17 => rfl) ?_; refine tgo_f (fun h19 => by simp only [gv_t h19]; exact rf_bind_some (p_idx (c := T_Rule.c) (fun _ => rfl) a1 r13)) fun r22 => ?_; refine tg_f (x := (V.ptr (List.drop 3 (T_Rule.c r22)))) (fun h23 => by first | exact bind_some_eq (rfl) | (simp only [gv_t h23]; exact bind_some_eq (rfl))) ?_; refine tg_f (x := (vi r22.Out)) (fun h26 => by first | exact bind_some_eq (rfl) | (simp only [gv_t h26]; exact bind_some_eq (rfl))) ?_; refine tg_f (x := (vb (decide (r22.Out = 0)))) (fun h29 => by simp only [gv_t h29]; exact bind_some_eq (d_eql)) ?_; refine tb (x := (vb ((decide (r13 < 0)) || (decide (r22.Out = 0))))) (pick_or (fun h9 => gv_t (not_f h9))) ?_; refine tcond (fun h33 => ?_) (fun h33 => ?_)
 ·refine tb (x := V.agg (T_Fate.c (T_Fate.mk 2 a2.Host a2.Hops))) (by kernel_rfl) ?_; refine tb (x := (T_Fate.e (T_Fate.mk 2 a2.Host a2.Hops))) (rfl) ?_; refine tb (x := V.agg (T_Fate.c (T_Fate.mk 2 a2.Host a2.Hops))) (by kernel_rfl) ?_; refine tb (x := (T_Fate.e (T_Fate.mk 2 a2.Host a2.Hops))) rfl ?_; exact rf_ret rfl
 ·refine tb (x := (vi r8.At.Switch)) (rfl) ?_; refine tbo (p_idx (c := T_Rule.c) (fun _ => rfl) a1 r13) fun r40 => ?_; refine tb (x := (V.ptr (List.drop 3 (T_Rule.c r40)))) (rfl) ?_; refine tb (x := (vi r40.Out)) (rfl) ?_; refine tb (x := (T_Spot.e (T_Spot.mk r8.At.Switch r40.Out))) (by kernel_rfl) ?_; refine tb (x := V.agg (T_Spot.c (T_Spot.mk r8.At.Switch r40.Out))) (by kernel_rfl) ?_; refine tb (x := (T_Topo.e a0)) (rfl) ?_; refine tb (x := (T_Spot.e (T_Spot.mk r8.At.Switch r40.Out))) (rfl) ?_; refine tbo (ty_railref1_Host hn a0 (T_Spot.mk r8.At.Switch r40.Out)) fun r48 => ?_; refine tb (x := (vb (decide (0 ≤ r48)))) (d_geq) ?_; refine tcond (fun h50 => ?_) (fun h50 => ?_)
  ·refine tb (x := V.agg (T_Fate.c (T_Fate.mk 1 a2.Host a2.Hops))) (by kernel_rfl) ?_; refine tb (x := (V.sl (List.map T_Host.c a0.Hosts))) (rfl) ?_; refine tbo (p_idx (c := T_Host.c) (fun _ => rfl) a0.Hosts r48) fun r54 => ?_; refine tb (x := (V.ptr (T_Host.c r54))) (rfl) ?_; refine tb (x := (vt r54.Name)) (rfl) ?_; refine tb (x := V.agg (T_Fate.c (T_Fate.mk 1 r54.Name a2.Hops))) (by kernel_rfl) ?_; refine tb (x := (T_Fate.e (T_Fate.mk 1 r54.Name a2.Hops))) (rfl) ?_; refine tb (x := V.agg (T_Fate.c (T_Fate.mk 1 r54.Name a2.Hops))) (by kernel_rfl) ?_; refine tb (x := (T_Fate.e (T_Fate.mk 1 r54.Name a2.Hops))) rfl ?_; exact rf_ret rfl
  ·refine tb (x := (T_Topo.e a0)) (rfl) ?_; refine tb (x := (T_Spot.e (T_Spot.mk r8.At.Switch r40.Out))) (rfl) ?_; refine tbo (ty_railref1_Peer hn a0 (T_Spot.mk r8.At.Switch r40.Out)) fun r64 => ?_; refine tb (x := (T_Spot.e r64.1)) (rfl) ?_; refine tb (x := (vb r64.2)) (rfl) ?_; refine tb (x := V.agg (T_Spot.c r64.1)) (by kernel_rfl) ?_; refine tb (x := (vb (!r64.2))) (d_not) ?_; refine tcond (fun h69 => ?_) (fun h69 => ?_)
   ·refine tb (x := V.agg (T_Fate.c (T_Fate.mk 3 a2.Host a2.Hops))) (by kernel_rfl) ?_; refine tb (x := (T_Fate.e (T_Fate.mk 3 a2.Host a2.Hops))) (rfl) ?_; refine tb (x := V.agg (T_Fate.c (T_Fate.mk 3 a2.Host a2.Hops))) (by kernel_rfl) ?_; refine tb (x := (T_Fate.e (T_Fate.mk 3 a2.Host a2.Hops))) rfl ?_; exact rf_ret rfl
   ·refine tb (x := (T_Spot.e r64.1)) (rfl) ?_; refine tbo (p_idx (c := T_Rule.c) (fun _ => rfl) a1 r13) fun r76 => ?_; refine tb (x := (T_Rule.e r76)) (rfl) ?_; refine tb (x := (vi r8.Header)) (rfl) ?_; refine tbo (ty_railref1_Turned hn r76 r8.Header) fun r80 => ?_; refine tb (x := (T_Hop.e (T_Hop.mk r64.1 r80))) (by kernel_rfl) ?_; refine tb (x := V.agg (T_Hop.c (T_Hop.mk r64.1 r80))) (by kernel_rfl) ?_; refine tb (x := (V.sl (List.map T_Hop.c a2.Hops))) (rfl) ?_; refine tb (x := (vi (List.length a2.Hops : Int))) (p_len _) ?_; refine tb (x := (vb (decide (24 ≤ (List.length a2.Hops : Int))))) (d_geq) ?_; refine tjb (mk := fun s88 : Bool => [(vb s88)]) (fun J87 => ?_) fun s88 => ?_
    ·refine tkeepO2 ?_ rfl; refine tkeepO2 ?_ rfl; refine tkeepO2 ?_ rfl; refine tsome ?_; refine rf_loopI (mk := fun (i113 : Int) (s109 : Bool) => [(vb s109), (vi (i113 : Int))]) hn a2.Hops (decide (24 ≤ (List.length a2.Hops : Int))) (fun i113 x114 h115 h116 h117 s109 rec107 k110 h111 => ?_) (fun s109 rec143 h142 => ?_)
     ·refine tb (x := (V.sl (List.map T_Hop.c a2.Hops))) (rfl) ?_; refine tb (x := (vi (List.length a2.Hops : Int))) (p_len _) ?_; refine tb (x := (vb (decide ((i113 : Int) < (List.length a2.Hops : Int))))) (d_lss) ?_; refine tcond_t h117 ?_; refine tg_f (x := V.any) (fun h121 => rfl) ?_; refine tg_f (x := (V.sl (List.map T_Hop.c a2.Hops))) (fun h123 => bind_some_eq (gate_pos (not_t h123) (rfl))) ?_; refine tg_f (x := (vi (i113 : Int))) (fun h126 => rfl) ?_; refine tg_f (x := (V.ptr (T_Hop.c x114))) (fun h128 => by simp only [gv_t h128]; exact bind_some_eq (p_idx_at (c := T_Hop.c) (fun _ => rfl) h115)) ?_; refine tg_f (x := (T_Hop.e x114)) (fun h131 => by first | exact bind_some_eq (rfl) | (simp only [gv_t h131]; exact bind_some_eq (rfl))) ?_; refine tg_f (x := (T_Hop.e (T_Hop.mk r64.1 r80))) (fun h134 => bind_some_eq (rfl)) ?_; refine tg_f (x := (vb (decide (x114 = (T_Hop.mk r64.1 r80))))) (fun h137 => by simp only [gv_t h137]; exact bind_some_eq (T_Hop.eql x114 (T_Hop.mk r64.1 r80))) ?_; refine tb (x := (vb (s109 || (decide (x114 = (T_Hop.mk r64.1 r80)))))) (pick_or (fun h9 => gv_t (not_f h9))) ?_; refine tb (x := (vi ((i113 : Int) + 1))) (p_incN h116) ?_; refine tkeepO2 ?_ rfl; refine tkeepO2 ?_ rfl; refine tkeepO2 ?_ rfl; refine tsome ?_; exact h111 (s109 || (decide (x114 = (T_Hop.mk r64.1 r80))))
     ·refine tb (x := (V.sl (List.map T_Hop.c a2.Hops))) (rfl) ?_; refine tb (x := (vi (List.length a2.Hops : Int))) (p_len _) ?_; refine tb (x := (vb (decide ((List.length a2.Hops : Int) < (List.length a2.Hops : Int))))) (d_lss) ?_; refine tcond_f h142 ?_; refine tkeepO2 ?_ rfl; refine tkeepO2 ?_ rfl; refine tkeepO2 ?_ rfl; refine tsome ?_; exact rf_j rfl
    ·refine tcond (fun h91 => ?_) (fun h91 => ?_)
     ·refine tb (x := V.agg (T_Fate.c (T_Fate.mk 4 a2.Host a2.Hops))) (by kernel_rfl) ?_; refine tb (x := (T_Fate.e (T_Fate.mk 4 a2.Host a2.Hops))) (rfl) ?_; refine tb (x := V.agg (T_Fate.c (T_Fate.mk 4 a2.Host a2.Hops))) (by kernel_rfl) ?_; refine tb (x := (T_Fate.e (T_Fate.mk 4 a2.Host a2.Hops))) rfl ?_; exact rf_ret rfl
     ·refine tb (x := (V.sl (List.map T_Hop.c a2.Hops))) (rfl) ?_; refine tbo (p_app (c := T_Hop.c) (fun _ => rfl) ([] : (List T_Hop)) a2.Hops) fun r98 => ?_; refine tb (x := (T_Hop.e (T_Hop.mk r64.1 r80))) (rfl) ?_; refine tb (x := (V.sl (List.map T_Hop.c ([(T_Hop.mk r64.1 r80)] : (List T_Hop))))) (by kernel_rfl) ?_; refine tbo (p_app (c := T_Hop.c) (fun _ => rfl) r98 ([(T_Hop.mk r64.1 r80)] : (List T_Hop))) fun r102 => ?_; refine tb (x := V.agg (T_Fate.c (T_Fate.mk a2.How a2.Host r102))) (by kernel_rfl) ?_; refine tb (x := (T_Fate.e (T_Fate.mk a2.How a2.Host r102))) (rfl) ?_; refine tb (x := V.agg (T_Fate.c (T_Fate.mk a2.How a2.Host r102))) (by kernel_rfl) ?_; refine tb (x := (T_Fate.e (T_Fate.mk a2.How a2.Host r102))) rfl ?_; exact rf_ret rfl
def an_railref1_From : Ann := .seq (.reg 0 [] [] []) (.seq (.reg 0 [] [] []) (.seq (.reg 0 [] [] []) (.seq (.blk (some [.kb 6, .b 7]) (.loop [.kb 3, .kb 6, .b 7, .s 8] (.seq (.seq (.reg 0 [] [] []) (.cond none (.no) (.no))) (.blk none (.seq (.reg 0 [] [] []) (.reg 13 [] [] [])))))) (.seq (.reg 0 [] [] []) (.no)))))
noncomputable def sem_railref1_From (n : Nat) (xs : List V) : Option V := if xs.length ≤ 40 then denF Tryz.prog (envOf [(79, (sem_railref1_Go n))]) n Tryz.f62 an_railref1_From xs else none
theorem ok_railref1_From (n : Nat) : SemOk Tryz.prog DW 62 (sem_railref1_From n) := fun xs y h => by
 unfold sem_railref1_From at h
 split at h
 ·rename_i hl
  exact denF_ok stb Tryz.func62 (by kernel_rfl) (envOf_ok (semsOk_cons (ok_railref1_Go n) semsOk_nil)) (by rw [Tryz.ntmps62]; exact hl) h
 ·cases h
theorem eq_railref1_From (n : Nat) (x0 x1 x2 : V) : sem_railref1_From n [x0, x1, x2] =
 (V.cellsO x0).bind fun v1 =>
 (V.cellsO x1).bind fun v2 =>
 (ldk (some 2) (List.drop 0 v2)).bind fun v3 =>
 ((fillL [(vi 0), (vi 0), (vi 0)] [(0, 2, v3), (2, 1, x2)]).map V.agg).bind fun v4 =>
 (slcB 3 1 [(vi 0), (vi 0), (vi 0)] [(0, v4)]).bind fun v5 =>
 ((fillL [(vi 0), (vt ⟨#[]⟩), (V.sl [])] [(2, 1, v5)]).map V.agg).bind fun v6 =>
 (spliceV [(vi 0), (vt ⟨#[]⟩), (V.sl [])] 0 3 v6).bind fun v7 =>
 JoinPt (fun vs8 =>
 (ldk (some 3) (List.drop 0 (aggL (List.getD vs8 0 V.any)))).bind fun v10 =>
 (spliceV [(vi 0), (vt ⟨#[]⟩), (V.sl [])] 0 3 v10).bind fun v11 =>
 (ldk (some 3) (List.drop 0 (aggL v11))).bind fun v12 =>
 some v12) fun J9 =>
 (keepO (some v1) (some v1) (keepO (some [(vi 0), (vt ⟨#[]⟩), (V.sl [])]) (some [(vi 0), (vt ⟨#[]⟩), (V.sl [])]) (some [(V.agg (aggL v7)), (vb true)]))).bind (fixN (fun rec13 vs14 =>
 condV (List.getD vs14 1 V.any) (
 (ldk none (List.drop 2 (aggL (List.getD vs14 0 V.any)))).bind fun v15 =>
 (ldk none (List.drop 2 (aggL (List.getD vs14 0 V.any)))).bind fun v16 =>
 (lenS [v16]).bind fun v17 =>
 (bin2 Tryz.prog BinOp.sub 3 (ot 20) (oc 1) v17 (vi 1)).bind fun v18 =>
 (idxS 3 v15 v18).bind fun v19 =>
 (ptrF 0 v19).bind fun v20 =>
 (ptrF 0 v20).bind fun v21 =>
 (ldp none v21).bind fun v22 =>
 (ldk (some 3) (List.drop 0 v1)).bind fun v23 =>
 (ldk none (List.drop 3 v1)).bind fun v24 =>
 (bin2 Tryz.prog BinOp.sub 3 (ot 31) (oc 1) v22 (vi 1)).bind fun v25 =>
 (idxS 1 v24 v25).bind fun v26 =>
 (ldp none v26).bind fun v27 =>
 (ldk (some 3) (List.drop 0 (aggL (List.getD vs14 0 V.any)))).bind fun v28 =>
 ((sem_railref1_Go n) [v23, v27, v28]).bind fun v29 =>
 (extractV v29 0).bind fun v30 =>
 (extractV v29 1).bind fun v31 =>
 (spliceV (aggL (List.getD vs14 0 V.any)) 0 3 v30).bind fun v32 =>
 (keepO (some v1) (some v1) (keepO (some [(vi 0), (vt ⟨#[]⟩), (V.sl [])]) (some [(vi 0), (vt ⟨#[]⟩), (V.sl [])]) (some [(V.agg (aggL v32)), v31]))).bind rec13) (
 (keepO (some [(vi 0), (vt ⟨#[]⟩), (V.sl [])]) (some [(vi 0), (vt ⟨#[]⟩), (V.sl [])]) (some [(V.agg (aggL (List.getD vs14 0 V.any)))])).bind J9)) n) := by kernel_rfl
noncomputable def t_railref1_From (a0 : T_Net) (a1 : T_Spot) (a2 : Int) : Option T_Fate :=
 (tfix (fun k19 (s18 : (T_Fate × Bool)) =>
 if s18.2 = true then (
 (idx s18.1.Hops (wr ((List.length s18.1.Hops : Int) - 1))).bind fun r29 =>
 (idx a0.Tables (wr (r29.At.Switch - 1))).bind fun r37 =>
 (t_railref1_Go a0.Topo r37 s18.1).bind fun r41 =>
 k19 (r41.1, r41.2)) else (
 some (s18.1))) bigN ((T_Fate.mk 0 (ByteArray.mk #[]) ([(T_Hop.mk a1 a2)] : (List T_Hop))), true)).bind fun (s10 : T_Fate) =>
 some s10
theorem ty_railref1_From {n : Nat} (hn : bigN ≤ n) (a0 : T_Net) (a1 : T_Spot) (a2 : Int) : Rv (fun x : T_Fate => (T_Fate.e x)) (sem_railref1_From n [(T_Net.e a0), (T_Spot.e a1), (vi a2)]) (t_railref1_From a0 a1 a2) := by
 rw [eq_railref1_From]
 unfold t_railref1_From; refine tb (x := (T_Net.c a0)) rfl ?_; refine tb (x := (T_Spot.c a1)) rfl ?_; refine tb (x := (T_Spot.e a1)) (rfl) ?_; refine tb (x := (T_Hop.e (T_Hop.mk a1 a2))) (by kernel_rfl) ?_; refine tb (x := (V.sl (List.map T_Hop.c ([(T_Hop.mk a1 a2)] : (List T_Hop))))) (by kernel_rfl) ?_; refine tb (x := (T_Fate.e (T_Fate.mk 0 (ByteArray.mk #[]) ([(T_Hop.mk a1 a2)] : (List T_Hop))))) (by kernel_rfl) ?_; refine tb (x := V.agg (T_Fate.c (T_Fate.mk 0 (ByteArray.mk #[]) ([(T_Hop.mk a1 a2)] : (List T_Hop))))) (by kernel_rfl) ?_; refine tjb (mk := fun s10 : T_Fate => [(V.agg (T_Fate.c s10))]) (fun J9 => ?_) fun s10 => ?_
 ·refine tkeepO2 ?_ rfl; refine tkeepO2 ?_ rfl; refine tsome ?_; refine rf_fixN (mk := fun (s18 : (T_Fate × Bool)) => [(V.agg (T_Fate.c s18.1)), (vb s18.2)]) hn ((T_Fate.mk 0 (ByteArray.mk #[]) ([(T_Hop.mk a1 a2)] : (List T_Hop))), true) (fun rec16 k19 h20 s18 => ?_); refine tcond (fun h23 => ?_) (fun h23 => ?_)
  ·refine tb (x := (V.sl (List.map T_Hop.c s18.1.Hops))) (rfl) ?_; refine tb (x := (V.sl (List.map T_Hop.c s18.1.Hops))) (rfl) ?_; refine tb (x := (vi (List.length s18.1.Hops : Int))) (p_len _) ?_; refine tb (x := (vi (wr ((List.length s18.1.Hops : Int) - 1)))) (d_sub) ?_; refine tbo (p_idx (c := T_Hop.c) (fun _ => rfl) s18.1.Hops (wr ((List.length s18.1.Hops : Int) - 1))) fun r29 => ?_; refine tb (x := (V.ptr (T_Hop.c r29))) (rfl) ?_; refine tb (x := (V.ptr (T_Hop.c r29))) (rfl) ?_; refine tb (x := (vi r29.At.Switch)) (rfl) ?_; refine tb (x := (T_Topo.e a0.Topo)) (rfl) ?_; refine tb (x := (V.sl (List.map (cS T_Rule.c) a0.Tables))) (rfl) ?_; refine tb (x := (vi (wr (r29.At.Switch - 1)))) (d_sub) ?_; refine tbo (p_idx (c := (cS T_Rule.c)) (fun _ => rfl) a0.Tables (wr (r29.At.Switch - 1))) fun r37 => ?_; refine tb (x := (V.sl (List.map T_Rule.c r37))) (rfl) ?_; refine tb (x := (T_Fate.e s18.1)) (rfl) ?_; refine tbo (ty_railref1_Go hn a0.Topo r37 s18.1) fun r41 => ?_; refine tb (x := (T_Fate.e r41.1)) (rfl) ?_; refine tb (x := (vb r41.2)) (rfl) ?_; refine tb (x := V.agg (T_Fate.c r41.1)) (by kernel_rfl) ?_; refine tkeepO2 ?_ rfl; refine tkeepO2 ?_ rfl; refine tsome ?_; exact h20 (r41.1, r41.2)
  ·refine tkeepO2 ?_ rfl; refine tsome ?_; exact rf_j rfl
 ·refine tb (x := (T_Fate.e s10)) (rfl) ?_; refine tb (x := V.agg (T_Fate.c s10)) (by kernel_rfl) ?_; refine tb (x := (T_Fate.e s10)) rfl ?_; exact rf_ret rfl
def an_railref1_Fits : Ann := .seq (.reg 0 [] [] []) (.seq (.seq (.reg 0 [] [] []) (.cond none (.seq (.reg 0 [] [] []) (.no)) (.no))) (.seq (.seq (.reg 0 [] [] []) (.cond none (.seq (.reg 0 [] [] []) (.no)) (.no))) (.seq (.reg 0 [] [] []) (.seq (.seq (.reg 0 [] [] []) (.cond none (.seq (.reg 0 [] [] []) (.no)) (.no))) (.seq (.seq (.reg 0 [] [] []) (.cond none (.seq (.reg 0 [] [] []) (.no)) (.no))) (.seq (.seq (.reg 0 [] [] []) (.cond none (.seq (.reg 0 [] [] []) (.no)) (.no))) (.seq (.seq (.reg 0 [] [] []) (.blk (some []) (.loop [.kb 3, .kb 5, .s 8] (.seq (.seq (.reg 0 [] [] []) (.cond none (.no) (.no))) (.seq (.blk none (.seq (.reg 10 [] [] []) (.cond none (.seq (.reg 0 [] [] []) (.no)) (.no)))) (.reg 0 [] [] [])))))) (.seq (.reg 0 [] [] []) (.no)))))))))
noncomputable def sem_railref1_Fits (n : Nat) (xs : List V) : Option V := if xs.length ≤ 62 then denF Tryz.prog (envOf []) n Tryz.f32 an_railref1_Fits xs else none
theorem ok_railref1_Fits (n : Nat) : SemOk Tryz.prog DW 32 (sem_railref1_Fits n) := fun xs y h => by
 unfold sem_railref1_Fits at h
 split at h
 ·rename_i hl
  exact denF_ok stb Tryz.func32 (by kernel_rfl) (envOf_ok semsOk_nil) (by rw [Tryz.ntmps32]; exact hl) h
 ·cases h
theorem eq_railref1_Fits (n : Nat) (x0 x1 x2 : V) : sem_railref1_Fits n [x0, x1, x2] =
 (V.cellsO x0).bind fun v1 =>
 (V.cellsO x2).bind fun v2 =>
 (ldk none (List.drop 0 v1)).bind fun v3 =>
 (bin2 Tryz.prog BinOp.eql 3 (ot 10) (oc 4) v3 (vi 4)).bind fun v4 =>
 condV v4 (
 (ldk none (List.drop 0 v2)).bind fun v5 =>
 (bin2 Tryz.prog BinOp.neq 3 (ot 13) (oc 4) v5 (vi 4)).bind fun v6 =>
 some v6) (
 (ldk none (List.drop 1 v1)).bind fun v7 =>
 (bin2 Tryz.prog BinOp.neq 9 (ot 15) (ot 17) x1 v7).bind fun v8 =>
 condV v8 (
 some (vb true)) (
 (ldk none (List.drop 0 v2)).bind fun v9 =>
 (bin2 Tryz.prog BinOp.eql 3 (ot 20) (oc 1) v9 (vi 1)).bind fun v10 =>
 (guardV v10 true (some V.any)).bind fun v11 =>
 (guardV v10 true ((gate v10 true (ldk none (List.drop 1 v2))).bind fun v12 =>
 some v12)).bind fun v13 =>
 (guardV v10 true (some V.any)).bind fun v14 =>
 (guardV v10 true ((gate v10 true (ldk none (List.drop 2 v1))).bind fun v15 =>
 some v15)).bind fun v16 =>
 (guardV v10 true ((bin2 Tryz.prog BinOp.eql 9 (ot 24) (ot 26) v13 v16).bind fun v17 =>
 some v17)).bind fun v18 =>
 (pickV v10 v18 (vb false)).bind fun v19 =>
 (ldk none (List.drop 0 v1)).bind fun v20 =>
 (bin2 Tryz.prog BinOp.eql 3 (ot 30) (oc 1) v20 (vi 1)).bind fun v21 =>
 condV v21 (
 some v19) (
 (ldk none (List.drop 0 v1)).bind fun v22 =>
 (bin2 Tryz.prog BinOp.eql 3 (ot 34) (oc 2) v22 (vi 2)).bind fun v23 =>
 condV v23 (
 (scal1 Tryz.prog (Op.unary Go.UnOp.not) v19).bind fun v24 =>
 some v24) (
 (ldk none (List.drop 0 v1)).bind fun v25 =>
 (bin2 Tryz.prog BinOp.neq 3 (ot 39) (oc 3) v25 (vi 3)).bind fun v26 =>
 (guardV v26 false (some v19)).bind fun v27 =>
 (guardV v26 false ((scal1 Tryz.prog (Op.unary Go.UnOp.not) v27).bind fun v28 =>
 some v28)).bind fun v29 =>
 (pickV v26 (vb true) v29).bind fun v30 =>
 condV v30 (
 some (vb true)) (
 JoinPt (fun vs31 =>
 some (vb false)) fun J32 =>
 (keepO (some v1) (some v1) (keepO (some v2) (some v2) (some [(vi 0)]))).bind (fixN (fun rec33 vs34 =>
 (ldk none (List.drop 2 v2)).bind fun v35 =>
 (lenS [v35]).bind fun v36 =>
 (bin2 Tryz.prog BinOp.lss 3 (ot 45) (ot 48) (List.getD vs34 0 V.any) v36).bind fun v37 =>
 condV v37 (
 (ldk none (List.drop 2 v2)).bind fun v38 =>
 (idxS 3 v38 (List.getD vs34 0 V.any)).bind fun v39 =>
 (ptrF 0 v39).bind fun v40 =>
 (ptrF 0 v40).bind fun v41 =>
 (ldp none v41).bind fun v42 =>
 (ldk none (List.drop 3 v1)).bind fun v43 =>
 (bin2 Tryz.prog BinOp.eql 3 (ot 58) (ot 60) v42 v43).bind fun v44 =>
 condV v44 (
 some (vb true)) (
 (bin2 Tryz.prog BinOp.add 3 (ot 50) (oc 1) (List.getD vs34 0 V.any) (vi 1)).bind fun v45 =>
 (keepO (some v1) (some v1) (keepO (some v2) (some v2) (some [v45]))).bind rec33)) (
 J32 [])) n)))))) := by kernel_rfl
noncomputable def t_railref1_Fits (a0 : T_Wish) (a1 : ByteArray) (a2 : T_Fate) : Option Bool :=
 if (decide (a0.What = 4)) = true then (
 some (decide (a2.How ≠ 4))) else (
 if (!decide (a1 = a0.From)) = true then (
 some true) else (
 if (decide (a0.What = 1)) = true then (
 some ((decide (a2.How = 1)) && (decide (a2.Host = a0.To)))) else (
 if (decide (a0.What = 2)) = true then (
 some (!((decide (a2.How = 1)) && (decide (a2.Host = a0.To))))) else (
 if ((decide (a0.What ≠ 3)) || (!((decide (a2.How = 1)) && (decide (a2.Host = a0.To))))) = true then (
 some true) else (
 join (fun (s45 : Unit) =>
 some false) fun j46 =>
 loopI a2.Hops (fun (i54 : Int) x55 (s50 : Unit) k51 =>
 if (decide (x55.At.Switch = a0.Via)) = true then (
 some true) else (
 k51 ())) (fun (s50 : Unit) =>
 j46 ()) ())))))
theorem ty_railref1_Fits {n : Nat} (hn : bigN ≤ n) (a0 : T_Wish) (a1 : ByteArray) (a2 : T_Fate) : Rv (fun x : Bool => (vb x)) (sem_railref1_Fits n [(T_Wish.e a0), (vt a1), (T_Fate.e a2)]) (t_railref1_Fits a0 a1 a2) := by
 rw [eq_railref1_Fits]
 unfold t_railref1_Fits; refine tb (x := (T_Wish.c a0)) rfl ?_; refine tb (x := (T_Fate.c a2)) rfl ?_; refine tb (x := (vi a0.What)) (rfl) ?_; refine tb (x := (vb (decide (a0.What = 4)))) (d_eql) ?_; refine tcond (fun h5 => ?_) (fun h5 => ?_)
 ·refine tb (x := (vi a2.How)) (rfl) ?_; refine tb (x := (vb (decide (a2.How ≠ 4)))) (d_neq) ?_; exact rf_ret rfl
 ·refine tb (x := (vt a0.From)) (rfl) ?_; refine tb (x := (vb (!decide (a1 = a0.From)))) (p_neq_str) ?_; refine tcond (fun h10 => ?_) (fun h10 => ?_)
  ·exact rf_ret rfl
  ·refine tb (x := (vi a2.How)) (rfl) ?_; refine tb (x := (vb (decide (a2.How = 1)))) (d_eql) ?_; refine tg (x := V.any) (fun h13 => rfl) ?_; refine tg (x := (vt a2.Host)) (fun h15 => bind_some_eq (gate_pos h15 (rfl))) ?_; refine tg (x := V.any) (fun h18 => rfl) ?_; refine tg (x := (vt a0.To)) (fun h20 => bind_some_eq (gate_pos h20 (rfl))) ?_; refine tg (x := (vb (decide (a2.Host = a0.To)))) (fun h23 => by simp only [gv_t h23]; exact bind_some_eq (p_eql_str)) ?_; refine tb (x := (vb ((decide (a2.How = 1)) && (decide (a2.Host = a0.To))))) (pick_and (fun h9 => gv_t h9)) ?_; refine tb (x := (vi a0.What)) (rfl) ?_; refine tb (x := (vb (decide (a0.What = 1)))) (d_eql) ?_; refine tcond (fun h29 => ?_) (fun h29 => ?_)
   ·exact rf_ret rfl
   ·refine tb (x := (vi a0.What)) (rfl) ?_; refine tb (x := (vb (decide (a0.What = 2)))) (d_eql) ?_; refine tcond (fun h32 => ?_) (fun h32 => ?_)
    ·refine tb (x := (vb (!((decide (a2.How = 1)) && (decide (a2.Host = a0.To)))))) (d_not) ?_; exact rf_ret rfl
    ·refine tb (x := (vi a0.What)) (rfl) ?_; refine tb (x := (vb (decide (a0.What ≠ 3)))) (d_neq) ?_; refine tg_f (x := (vb ((decide (a2.How = 1)) && (decide (a2.Host = a0.To))))) (fun h36 => rfl) ?_; refine tg_f (x := (vb (!((decide (a2.How = 1)) && (decide (a2.Host = a0.To)))))) (fun h38 => by simp only [gv_t h38]; exact bind_some_eq (d_not)) ?_; refine tb (x := (vb ((decide (a0.What ≠ 3)) || (!((decide (a2.How = 1)) && (decide (a2.Host = a0.To))))))) (pick_or (fun h9 => gv_t (not_f h9))) ?_; refine tcond (fun h42 => ?_) (fun h42 => ?_)
     ·exact rf_ret rfl
     ·refine tjoin (mk := fun s45 : Unit => []) (fun s45 => ?_) fun J44 j46 h47 => ?_
      ·exact rf_ret rfl
      ·refine tkeepO2 ?_ rfl; refine tkeepO2 ?_ rfl; refine tsome ?_; refine rf_loopI (mk := fun (i54 : Int) (s50 : Unit) => [(vi (i54 : Int))]) hn a2.Hops () (fun i54 x55 h56 h57 h58 s50 rec48 k51 h52 => ?_) (fun s50 rec72 h71 => ?_)
       ·refine tb (x := (V.sl (List.map T_Hop.c a2.Hops))) (rfl) ?_; refine tb (x := (vi (List.length a2.Hops : Int))) (p_len _) ?_; refine tb (x := (vb (decide ((i54 : Int) < (List.length a2.Hops : Int))))) (d_lss) ?_; refine tcond_t h58 ?_; refine tb (x := (V.sl (List.map T_Hop.c a2.Hops))) (rfl) ?_; refine tb (x := (V.ptr (T_Hop.c x55))) (p_idx_at (c := T_Hop.c) (fun _ => rfl) h56) ?_; refine tb (x := (V.ptr (T_Hop.c x55))) (rfl) ?_; refine tb (x := (V.ptr (T_Hop.c x55))) (rfl) ?_; refine tb (x := (vi x55.At.Switch)) (rfl) ?_; refine tb (x := (vi a0.Via)) (rfl) ?_; refine tb (x := (vb (decide (x55.At.Switch = a0.Via)))) (d_eql) ?_; refine tcond (fun h69 => ?_) (fun h69 => ?_)
        ·exact rf_ret rfl
        ·refine tb (x := (vi ((i54 : Int) + 1))) (p_incN h57) ?_; refine tkeepO2 ?_ rfl; refine tkeepO2 ?_ rfl; refine tsome ?_; exact h52 ()
       ·refine tb (x := (V.sl (List.map T_Hop.c a2.Hops))) (rfl) ?_; refine tb (x := (vi (List.length a2.Hops : Int))) (p_len _) ?_; refine tb (x := (vb (decide ((List.length a2.Hops : Int) < (List.length a2.Hops : Int))))) (d_lss) ?_; refine tcond_f h71 ?_; exact h47 ()
def an_railref1_Holds : Ann := .seq (.reg 0 [] [] []) (.seq (.seq (.reg 0 [] [] []) (.blk (some [.b 4]) (.loop [.kb 2, .b 4, .s 6] (.seq (.seq (.reg 0 [] [] []) (.cond none (.no) (.no))) (.seq (.blk (some [.kb 2, .b 4]) (.seq (.reg 0 [] [] []) (.blk (some [.kb 2, .b 4]) (.loop [.kb 2, .b 4, .s 7] (.seq (.seq (.reg 0 [] [] []) (.cond none (.no) (.no))) (.seq (.blk (some [.kb 2, .b 4]) (.seq (.reg 0 [] [] []) (.seq (.reg 0 [] [] []) (.blk (some [.kb 2, .b 4]) (.loop [.kb 2, .kb 8, .b 4, .s 9] (.seq (.seq (.reg 0 [] [] []) (.cond none (.no) (.no))) (.seq (.blk none (.seq (.reg 13 [] [] []) (.seq (.reg 0 [] [] []) (.cond none (.seq (.reg 0 [] [] []) (.no)) (.no))))) (.reg 0 [] [] [])))))))) (.reg 0 [] [] []))))))) (.reg 0 [] [] [])))))) (.seq (.reg 0 [] [] []) (.no)))
noncomputable def sem_railref1_Holds (n : Nat) (xs : List V) : Option V := if xs.length ≤ 55 then denF Tryz.prog (envOf [(62, (sem_railref1_From n)), (32, (sem_railref1_Fits n))]) n Tryz.f29 an_railref1_Holds xs else none
theorem ok_railref1_Holds (n : Nat) : SemOk Tryz.prog DW 29 (sem_railref1_Holds n) := fun xs y h => by
 unfold sem_railref1_Holds at h
 split at h
 ·rename_i hl
  exact denF_ok stb Tryz.func29 (by kernel_rfl) (envOf_ok (semsOk_cons (ok_railref1_From n) (semsOk_cons (ok_railref1_Fits n) semsOk_nil))) (by rw [Tryz.ntmps29]; exact hl) h
 ·cases h
theorem eq_railref1_Holds (n : Nat) (x0 x1 : V) : sem_railref1_Holds n [x0, x1] =
 (V.cellsO x0).bind fun v1 =>
 JoinPt (fun vs2 =>
 ((fillL [(vi 0), (vt ⟨#[]⟩), (vi 0)] []).map V.agg).bind fun v4 =>
 (spliceV (aggL (List.getD vs2 0 V.any)) 0 3 v4).bind fun v5 =>
 (ldk (some 3) (List.drop 0 (aggL v5))).bind fun v6 =>
 some (V.tup [v6, (vb true)])) fun J3 =>
 (keepO (some v1) (some v1) (some [(V.agg [(vi 0), (vt ⟨#[]⟩), (vi 0)]), (vi 0)])).bind (fixN (fun rec7 vs8 =>
 (lenS [x1]).bind fun v9 =>
 (bin2 Tryz.prog BinOp.lss 3 (ot 11) (ot 13) (List.getD vs8 1 V.any) v9).bind fun v10 =>
 condV v10 (
 JoinPt (fun vs11 =>
 (bin2 Tryz.prog BinOp.add 3 (ot 15) (oc 1) (List.getD vs8 1 V.any) (vi 1)).bind fun v13 =>
 (keepO (some v1) (some v1) (some [(V.agg (aggL (List.getD vs11 0 V.any))), v13])).bind rec7) fun J12 =>
 JoinPt (fun vs14 =>
 (keepO (some v1) (some v1) (some [(V.agg (aggL (List.getD vs14 0 V.any)))])).bind J12) fun J15 =>
 (keepO (some v1) (some v1) (some [(V.agg (aggL (List.getD vs8 0 V.any))), (vi 0)])).bind (fixN (fun rec16 vs17 =>
 (ldk none (List.drop 2 v1)).bind fun v18 =>
 (lenS [v18]).bind fun v19 =>
 (bin2 Tryz.prog BinOp.lss 3 (ot 17) (ot 21) (List.getD vs17 1 V.any) v19).bind fun v20 =>
 condV v20 (
 JoinPt (fun vs21 =>
 (bin2 Tryz.prog BinOp.add 3 (ot 23) (oc 1) (List.getD vs17 1 V.any) (vi 1)).bind fun v23 =>
 (keepO (some v1) (some v1) (some [(V.agg (aggL (List.getD vs21 0 V.any))), v23])).bind rec16) fun J22 =>
 (ldk none (List.drop 2 v1)).bind fun v24 =>
 (idxS 3 v24 (List.getD vs17 1 V.any)).bind fun v25 =>
 (ldp (some 3) v25).bind fun v26 =>
 (spliceV [(vt ⟨#[]⟩), (vi 0), (vi 0)] 0 3 v26).bind fun v27 =>
 JoinPt (fun vs28 =>
 (keepO (some v1) (some v1) (some [(V.agg (aggL (List.getD vs28 0 V.any)))])).bind J22) fun J29 =>
 (keepO (some v1) (some v1) (keepO (some (aggL v27)) (some (aggL v27)) (some [(V.agg (aggL (List.getD vs17 0 V.any))), (vi 0)]))).bind (fixN (fun rec30 vs31 =>
 (bin2 Tryz.prog BinOp.lss 3 (ot 31) (oc 16) (List.getD vs31 1 V.any) (vi 16)).bind fun v32 =>
 condV v32 (
 (idxS 4 x1 (List.getD vs8 1 V.any)).bind fun v33 =>
 (ldp (some 4) v33).bind fun v34 =>
 (ldk none (List.drop 0 (aggL v27))).bind fun v35 =>
 (ldk (some 4) (List.drop 0 v1)).bind fun v36 =>
 (ldk (some 2) (List.drop 1 (aggL v27))).bind fun v37 =>
 ((sem_railref1_From n) [v36, v37, (List.getD vs31 1 V.any)]).bind fun v38 =>
 ((sem_railref1_Fits n) [v34, v35, v38]).bind fun v39 =>
 (scal1 Tryz.prog (Op.unary Go.UnOp.not) v39).bind fun v40 =>
 condV v40 (
 (ldk none (List.drop 0 (aggL v27))).bind fun v41 =>
 ((fillL [(vi 0), (vt ⟨#[]⟩), (vi 0)] [(0, 1, (List.getD vs8 1 V.any)), (1, 1, v41), (2, 1, (List.getD vs31 1 V.any))]).map V.agg).bind fun v42 =>
 (spliceV (aggL (List.getD vs31 0 V.any)) 0 3 v42).bind fun v43 =>
 (ldk (some 3) (List.drop 0 (aggL v43))).bind fun v44 =>
 some (V.tup [v44, (vb false)])) (
 (bin2 Tryz.prog BinOp.add 3 (ot 33) (oc 1) (List.getD vs31 1 V.any) (vi 1)).bind fun v45 =>
 (keepO (some v1) (some v1) (keepO (some (aggL v27)) (some (aggL v27)) (some [(V.agg (aggL (List.getD vs31 0 V.any))), v45]))).bind rec30)) (
 (keepO (some v1) (some v1) (some [(V.agg (aggL (List.getD vs31 0 V.any)))])).bind J29)) n)) (
 (keepO (some v1) (some v1) (some [(V.agg (aggL (List.getD vs17 0 V.any)))])).bind J15)) n)) (
 J3 [(V.agg (aggL (List.getD vs8 0 V.any)))])) n) := by kernel_rfl
noncomputable def t_railref1_Holds (a0 : T_Net) (a1 : (List T_Wish)) : Option (T_PProof × Bool) :=
 join (fun (s4 : T_PProof) =>
 some ((T_PProof.mk 0 (ByteArray.mk #[]) 0), true)) fun j5 =>
 loopI a1 (fun (i16 : Int) x17 (s12 : T_PProof) k13 =>
 join (fun (s25 : T_PProof) =>
 k13 (s25)) fun j26 =>
 join (fun (s31 : T_PProof) =>
 j26 (s31)) fun j32 =>
 loopI a0.Topo.Hosts (fun (i40 : Int) x41 (s36 : T_PProof) k37 =>
 join (fun (s50 : T_PProof) =>
 k37 (s50)) fun j51 =>
 join (fun (s60 : T_PProof) =>
 j51 (s60)) fun j61 =>
 loopU 0 16 (fun (i69 : Int) (s65 : Unit) k66 =>
 (t_railref1_From a0 x41.At i69).bind fun r82 =>
 (t_railref1_Fits x17 x41.Name r82).bind fun r84 =>
 if (!r84) = true then (
 some ((T_PProof.mk i16 x41.Name i69), false)) else (
 k66 ())) (fun (i69 : Int) (s65 : Unit) =>
 j61 (s36)) ()) (fun (s36 : T_PProof) =>
 j32 (s36)) (s12)) (fun (s12 : T_PProof) =>
 j5 (s12)) (T_PProof.mk 0 (ByteArray.mk #[]) 0)
theorem ty_railref1_Holds {n : Nat} (hn : bigN ≤ n) (a0 : T_Net) (a1 : (List T_Wish)) : Rv (fun x : (T_PProof × Bool) => V.tup [(T_PProof.e x.1), (vb x.2)]) (sem_railref1_Holds n [(T_Net.e a0), (V.sl (List.map T_Wish.c a1))]) (t_railref1_Holds a0 a1) := by
 rw [eq_railref1_Holds]
 unfold t_railref1_Holds; refine tb (x := (T_Net.c a0)) rfl ?_; refine tjoin (mk := fun s4 : T_PProof => [(V.agg (T_PProof.c s4))]) (fun s4 => ?_) fun J3 j5 h6 => ?_
 ·refine tb (x := (T_PProof.e (T_PProof.mk 0 (ByteArray.mk #[]) 0))) (by kernel_rfl) ?_; refine tb (x := V.agg (T_PProof.c (T_PProof.mk 0 (ByteArray.mk #[]) 0))) (by kernel_rfl) ?_; refine tb (x := (T_PProof.e (T_PProof.mk 0 (ByteArray.mk #[]) 0))) rfl ?_; exact rf_ret rfl
 ·refine tkeepO2 ?_ rfl; refine tsome ?_; refine rf_loopI (mk := fun (i16 : Int) (s12 : T_PProof) => [(V.agg (T_PProof.c s12)), (vi (i16 : Int))]) hn a1 (T_PProof.mk 0 (ByteArray.mk #[]) 0) (fun i16 x17 h18 h19 h20 s12 rec10 k13 h14 => ?_) (fun s12 rec99 h98 => ?_)
  ·refine tb (x := (vi (List.length a1 : Int))) (p_len _) ?_; refine tb (x := (vb (decide ((i16 : Int) < (List.length a1 : Int))))) (d_lss) ?_; refine tcond_t h20 ?_; refine tjoin (mk := fun s25 : T_PProof => [(V.agg (T_PProof.c s25))]) (fun s25 => ?_) fun J24 j26 h27 => ?_
   ·refine tb (x := (vi ((i16 : Int) + 1))) (p_incN h19) ?_; refine tkeepO2 ?_ rfl; refine tsome ?_; exact h14 (s25)
   ·refine tjoin (mk := fun s31 : T_PProof => [(V.agg (T_PProof.c s31))]) (fun s31 => ?_) fun J30 j32 h33 => ?_
    ·refine tkeepO2 ?_ rfl; refine tsome ?_; exact h27 (s31)
    ·refine tkeepO2 ?_ rfl; refine tsome ?_; refine rf_loopI (mk := fun (i40 : Int) (s36 : T_PProof) => [(V.agg (T_PProof.c s36)), (vi (i40 : Int))]) hn a0.Topo.Hosts (s12) (fun i40 x41 h42 h43 h44 s36 rec34 k37 h38 => ?_) (fun s36 rec94 h93 => ?_)
     ·refine tb (x := (V.sl (List.map T_Host.c a0.Topo.Hosts))) (rfl) ?_; refine tb (x := (vi (List.length a0.Topo.Hosts : Int))) (p_len _) ?_; refine tb (x := (vb (decide ((i40 : Int) < (List.length a0.Topo.Hosts : Int))))) (d_lss) ?_; refine tcond_t h44 ?_; refine tjoin (mk := fun s50 : T_PProof => [(V.agg (T_PProof.c s50))]) (fun s50 => ?_) fun J49 j51 h52 => ?_
      ·refine tb (x := (vi ((i40 : Int) + 1))) (p_incN h43) ?_; refine tkeepO2 ?_ rfl; refine tsome ?_; exact h38 (s50)
      ·refine tb (x := (V.sl (List.map T_Host.c a0.Topo.Hosts))) (rfl) ?_; refine tb (x := (V.ptr (T_Host.c x41))) (p_idx_at (c := T_Host.c) (fun _ => rfl) h42) ?_; refine tb (x := (T_Host.e x41)) (rfl) ?_; refine tb (x := V.agg (T_Host.c x41)) (by kernel_rfl) ?_; refine tjoin (mk := fun s60 : T_PProof => [(V.agg (T_PProof.c s60))]) (fun s60 => ?_) fun J59 j61 h62 => ?_
       ·refine tkeepO2 ?_ rfl; refine tsome ?_; exact h52 (s60)
       ·refine tkeepO2 ?_ rfl; refine tkeepO2 ?_ rfl; refine tsome ?_; refine rf_loopU (mk := fun (i69 : Int) (s65 : Unit) => [(V.agg (T_PProof.c s36)), (vi i69)]) hn _ _ () (fun i69 h70 h71 h72 s65 rec63 k66 h67 => ?_) (fun i69 s65 rec74 h73 => ?_)
        ·refine tb (x := (vb (decide (i69 < 16)))) (d_lss) ?_; refine tcond_t h70 ?_; refine tb (x := (V.ptr (T_Wish.c x17))) (p_idx_at (c := T_Wish.c) (fun _ => rfl) h18) ?_; refine tb (x := (T_Wish.e x17)) (rfl) ?_; refine tb (x := (vt x41.Name)) (rfl) ?_; refine tb (x := (T_Net.e a0)) (rfl) ?_; refine tb (x := (T_Spot.e x41.At)) (rfl) ?_; refine tbo (ty_railref1_From hn a0 x41.At i69) fun r82 => ?_; refine tbo (ty_railref1_Fits hn x17 x41.Name r82) fun r84 => ?_; refine tb (x := (vb (!r84))) (d_not) ?_; refine tcond (fun h86 => ?_) (fun h86 => ?_)
         ·refine tb (x := (vt x41.Name)) (rfl) ?_; refine tb (x := (T_PProof.e (T_PProof.mk (i16 : Int) x41.Name i69))) (by kernel_rfl) ?_; refine tb (x := V.agg (T_PProof.c (T_PProof.mk (i16 : Int) x41.Name i69))) (by kernel_rfl) ?_; refine tb (x := (T_PProof.e (T_PProof.mk (i16 : Int) x41.Name i69))) rfl ?_; exact rf_ret rfl
         ·refine tb (x := (vi (i69 + 1))) (p_inc h71 h72) ?_; refine tkeepO2 ?_ rfl; refine tkeepO2 ?_ rfl; refine tsome ?_; exact h67 ()
        ·refine tb (x := (vb (decide (i69 < 16)))) (d_lss) ?_; refine tcond_f h73 ?_; refine tkeepO2 ?_ rfl; refine tsome ?_; exact h62 (s36)
     ·refine tb (x := (V.sl (List.map T_Host.c a0.Topo.Hosts))) (rfl) ?_; refine tb (x := (vi (List.length a0.Topo.Hosts : Int))) (p_len _) ?_; refine tb (x := (vb (decide ((List.length a0.Topo.Hosts : Int) < (List.length a0.Topo.Hosts : Int))))) (d_lss) ?_; refine tcond_f h93 ?_; refine tkeepO2 ?_ rfl; refine tsome ?_; exact h33 (s36)
  ·refine tb (x := (vi (List.length a1 : Int))) (p_len _) ?_; refine tb (x := (vb (decide ((List.length a1 : Int) < (List.length a1 : Int))))) (d_lss) ?_; refine tcond_f h98 ?_; exact h6 (s12)
def an_cube_Header : Ann := .seq (.reg 0 [] [] []) (.seq (.reg 0 [] [] []) (.no))
noncomputable def sem_cube_Header (n : Nat) (xs : List V) : Option V := if xs.length ≤ 9 then denF Tryz.prog (envOf []) n Tryz.f35 an_cube_Header xs else none
theorem ok_cube_Header (n : Nat) : SemOk Tryz.prog DW 35 (sem_cube_Header n) := fun xs y h => by
 unfold sem_cube_Header at h
 split at h
 ·rename_i hl
  exact denF_ok stb Tryz.func35 (by kernel_rfl) (envOf_ok semsOk_nil) (by rw [Tryz.ntmps35]; exact hl) h
 ·cases h
theorem eq_cube_Header (n : Nat) (x0 : V) : sem_cube_Header n [x0] =
 (bin2 Tryz.prog BinOp.geq 3 (ot 3) (oc 0) x0 (vi 0)).bind fun v1 =>
 (guardV v1 true (some x0)).bind fun v2 =>
 (guardV v1 true ((bin2 Tryz.prog BinOp.lss 3 (ot 6) (oc 16) v2 (vi 16)).bind fun v3 =>
 some v3)).bind fun v4 =>
 (pickV v1 v4 (vb false)).bind fun v5 =>
 some v5 := by kernel_rfl
noncomputable def t_cube_Header (a0 : Int) : Option Bool :=
 some ((decide (0 ≤ a0)) && (decide (a0 < 16)))
theorem ty_cube_Header {n : Nat} (hn : bigN ≤ n) (a0 : Int) : Rv (fun x : Bool => (vb x)) (sem_cube_Header n [(vi a0)]) (t_cube_Header a0) := by
 rw [eq_cube_Header]
 unfold t_cube_Header; refine tb (x := (vb (decide (0 ≤ a0)))) (d_geq) ?_; refine tg (x := (vi a0)) (fun h2 => rfl) ?_; refine tg (x := (vb (decide (a0 < 16)))) (fun h4 => by simp only [gv_t h4]; exact bind_some_eq (d_lss)) ?_; refine tb (x := (vb ((decide (0 ≤ a0)) && (decide (a0 < 16))))) (pick_and (fun h9 => gv_t h9)) ?_; exact rf_ret rfl
def an_cube_Check : Ann := .seq (.reg 0 [] [] []) (.seq (.blk none (.seq (.reg 0 [] [] []) (.cond none (.seq (.reg 0 [] [] []) (.no)) (.seq (.reg 0 [] [] []) (.cond none (.seq (.reg 0 [] [] []) (.no)) (.no)))))) (.seq (.reg 0 [] [] []) (.no)))
noncomputable def sem_cube_Check (n : Nat) (xs : List V) : Option V := if xs.length ≤ 23 then denF Tryz.prog (envOf [(35, (sem_cube_Header n))]) n Tryz.f36 an_cube_Check xs else none
theorem ok_cube_Check (n : Nat) : SemOk Tryz.prog DW 36 (sem_cube_Check n) := fun xs y h => by
 unfold sem_cube_Check at h
 split at h
 ·rename_i hl
  exact denF_ok stb Tryz.func36 (by kernel_rfl) (envOf_ok (semsOk_cons (ok_cube_Header n) semsOk_nil)) (by rw [Tryz.ntmps36]; exact hl) h
 ·cases h
theorem eq_cube_Check (n : Nat) (x0 : V) : sem_cube_Check n [x0] =
 (V.cellsO x0).bind fun v1 =>
 (ldk none (List.drop 0 v1)).bind fun v2 =>
 ((sem_cube_Header n) [v2]).bind fun v3 =>
 (scal1 Tryz.prog (Op.unary Go.UnOp.not) v3).bind fun v4 =>
 (guardV v4 false (some V.any)).bind fun v5 =>
 (guardV v4 false ((gate v4 false (ldk none (List.drop 1 v1))).bind fun v6 =>
 some v6)).bind fun v7 =>
 (guardV v4 false (((sem_cube_Header n) [v7]).bind fun v8 =>
 some v8)).bind fun v9 =>
 (guardV v4 false ((scal1 Tryz.prog (Op.unary Go.UnOp.not) v9).bind fun v10 =>
 some v10)).bind fun v11 =>
 (pickV v4 (vb true) v11).bind fun v12 =>
 condV v12 (
 (scal1 Tryz.prog (Instr.makeInterface 86) (vi 1)).bind fun v13 =>
 some v13) (
 (ldk none (List.drop 1 v1)).bind fun v14 =>
 (ldk none (List.drop 0 v1)).bind fun v15 =>
 (bin2 Tryz.prog BinOp.andNot 3 (ot 17) (ot 19) v14 v15).bind fun v16 =>
 (bin2 Tryz.prog BinOp.neq 3 (ot 20) (oc 0) v16 (vi 0)).bind fun v17 =>
 condV v17 (
 (scal1 Tryz.prog (Instr.makeInterface 86) (vi 3)).bind fun v18 =>
 some v18) (
 some vn)) := by kernel_rfl
noncomputable def t_cube_Check (a0 : T_Cube) : Option Int :=
 (t_cube_Header a0.Mask).bind fun r4 =>
 (gd (!(!r4)) default (t_cube_Header a0.Bits)).bind fun r14 =>
 if ((!r4) || (!r14)) = true then (
 some 1) else (
 if (decide ((bits .andNot .i64 a0.Bits a0.Mask) ≠ 0)) = true then (
 some 3) else (
 some 0))
theorem ty_cube_Check {n : Nat} (hn : bigN ≤ n) (a0 : T_Cube) : Rv (fun x : Int => (eV x)) (sem_cube_Check n [(T_Cube.e a0)]) (t_cube_Check a0) := by
 rw [eq_cube_Check]
 unfold t_cube_Check; refine tb (x := (T_Cube.c a0)) rfl ?_; refine tb (x := (vi a0.Mask)) (rfl) ?_; refine tbo (ty_cube_Header hn a0.Mask) fun r4 => ?_; refine tb (x := (vb (!r4))) (d_not) ?_; refine tg_f (x := V.any) (fun h6 => rfl) ?_; refine tg_f (x := (vi a0.Bits)) (fun h8 => bind_some_eq (gate_pos (not_t h8) (rfl))) ?_; refine tgo_f (fun h11 => by simp only [gv_t h11]; exact rf_bind_some (ty_cube_Header hn a0.Bits)) fun r14 => ?_; refine tg_f (x := (vb (!r14))) (fun h15 => by simp only [gv_t h15]; exact bind_some_eq (d_not)) ?_; refine tb (x := (vb ((!r4) || (!r14)))) (pick_or (fun h9 => gv_t (not_f h9))) ?_; refine tcond (fun h19 => ?_) (fun h19 => ?_)
 ·refine tb (x := (eV 1)) (p_mkE (by decide)) ?_; exact rf_ret rfl
 ·refine tb (x := (vi a0.Bits)) (rfl) ?_; refine tb (x := (vi a0.Mask)) (rfl) ?_; refine tb (x := (vi (bits .andNot .i64 a0.Bits a0.Mask))) (d_andNot) ?_; refine tb (x := (vb (decide ((bits .andNot .i64 a0.Bits a0.Mask) ≠ 0)))) (d_neq) ?_; refine tcond (fun h25 => ?_) (fun h25 => ?_)
  ·refine tb (x := (eV 3)) (p_mkE (by decide)) ?_; exact rf_ret rfl
  ·exact rf_ret rfl
def an_rule_Check : Ann := .seq (.reg 0 [] [] []) (.seq (.seq (.reg 0 [] [] []) (.cond none (.seq (.reg 0 [] [] []) (.no)) (.no))) (.seq (.seq (.reg 0 [] [] []) (.seq (.reg 0 [] [] []) (.cond none (.seq (.reg 0 [] [] []) (.no)) (.no)))) (.seq (.seq (.reg 0 [] [] []) (.cond none (.seq (.reg 0 [] [] []) (.no)) (.no))) (.seq (.reg 0 [] [] []) (.no)))))
noncomputable def sem_rule_Check (n : Nat) (xs : List V) : Option V := if xs.length ≤ 58 then denF Tryz.prog (envOf [(35, (sem_cube_Header n)), (36, (sem_cube_Check n))]) n Tryz.f7 an_rule_Check xs else none
theorem ok_rule_Check (n : Nat) : SemOk Tryz.prog DW 7 (sem_rule_Check n) := fun xs y h => by
 unfold sem_rule_Check at h
 split at h
 ·rename_i hl
  exact denF_ok stb Tryz.func7 (by kernel_rfl) (envOf_ok (semsOk_cons (ok_cube_Header n) (semsOk_cons (ok_cube_Check n) semsOk_nil))) (by rw [Tryz.ntmps7]; exact hl) h
 ·cases h
theorem eq_rule_Check (n : Nat) (x0 : V) : sem_rule_Check n [x0] =
 (V.cellsO x0).bind fun v1 =>
 (ldk none (List.drop 0 v1)).bind fun v2 =>
 (bin2 Tryz.prog BinOp.lss 3 (ot 5) (oc 0) v2 (vi 0)).bind fun v3 =>
 (guardV v3 false (some V.any)).bind fun v4 =>
 (guardV v3 false ((gate v3 false (ldk none (List.drop 0 v1))).bind fun v5 =>
 some v5)).bind fun v6 =>
 (guardV v3 false ((bin2 Tryz.prog BinOp.gtr 3 (ot 9) (oc 99) v6 (vi 99)).bind fun v7 =>
 some v7)).bind fun v8 =>
 (pickV v3 (vb true) v8).bind fun v9 =>
 (guardV v9 false (some V.any)).bind fun v10 =>
 (guardV v9 false ((gate v9 false (ldk none (List.drop 3 v1))).bind fun v11 =>
 some v11)).bind fun v12 =>
 (guardV v9 false ((bin2 Tryz.prog BinOp.lss 3 (ot 14) (oc 0) v12 (vi 0)).bind fun v13 =>
 some v13)).bind fun v14 =>
 (pickV v9 (vb true) v14).bind fun v15 =>
 (guardV v15 false (some V.any)).bind fun v16 =>
 (guardV v15 false ((gate v15 false (ldk none (List.drop 3 v1))).bind fun v17 =>
 some v17)).bind fun v18 =>
 (guardV v15 false ((bin2 Tryz.prog BinOp.gtr 3 (ot 19) (oc 4) v18 (vi 4)).bind fun v19 =>
 some v19)).bind fun v20 =>
 (pickV v15 (vb true) v20).bind fun v21 =>
 (guardV v21 false (some V.any)).bind fun v22 =>
 (guardV v21 false ((gate v21 false (ldk none (List.drop 4 v1))).bind fun v23 =>
 some v23)).bind fun v24 =>
 (guardV v21 false (((sem_cube_Header n) [v24]).bind fun v25 =>
 some v25)).bind fun v26 =>
 (guardV v21 false ((scal1 Tryz.prog (Op.unary Go.UnOp.not) v26).bind fun v27 =>
 some v27)).bind fun v28 =>
 (pickV v21 (vb true) v28).bind fun v29 =>
 (guardV v29 false (some V.any)).bind fun v30 =>
 (guardV v29 false ((gate v29 false (ldk none (List.drop 5 v1))).bind fun v31 =>
 some v31)).bind fun v32 =>
 (guardV v29 false (((sem_cube_Header n) [v32]).bind fun v33 =>
 some v33)).bind fun v34 =>
 (guardV v29 false ((scal1 Tryz.prog (Op.unary Go.UnOp.not) v34).bind fun v35 =>
 some v35)).bind fun v36 =>
 (pickV v29 (vb true) v36).bind fun v37 =>
 condV v37 (
 (scal1 Tryz.prog (Instr.makeInterface 86) (vi 1)).bind fun v38 =>
 some v38) (
 (ldk (some 2) (List.drop 1 v1)).bind fun v39 =>
 ((sem_cube_Check n) [v39]).bind fun v40 =>
 (bin2 Tryz.prog BinOp.neq 31 (ot 38) (Operand.const Go.Value.nilIface) v40 vn).bind fun v41 =>
 condV v41 (
 some v40) (
 (ldk none (List.drop 5 v1)).bind fun v42 =>
 (ldk none (List.drop 4 v1)).bind fun v43 =>
 (bin2 Tryz.prog BinOp.andNot 3 (ot 42) (ot 44) v42 v43).bind fun v44 =>
 (bin2 Tryz.prog BinOp.neq 3 (ot 45) (oc 0) v44 (vi 0)).bind fun v45 =>
 (guardV v45 false (some V.any)).bind fun v46 =>
 (guardV v45 false ((gate v45 false (ldk none (List.drop 3 v1))).bind fun v47 =>
 some v47)).bind fun v48 =>
 (guardV v45 false ((bin2 Tryz.prog BinOp.eql 3 (ot 49) (oc 0) v48 (vi 0)).bind fun v49 =>
 some v49)).bind fun v50 =>
 (guardV v45 false (some v50)).bind fun v51 =>
 (guardV v51 true (some V.any)).bind fun v52 =>
 (guardV v51 true ((gate v51 true (ldk none (List.drop 4 v1))).bind fun v53 =>
 some v53)).bind fun v54 =>
 (guardV v51 true ((bin2 Tryz.prog BinOp.neq 3 (ot 53) (oc 0) v54 (vi 0)).bind fun v55 =>
 some v55)).bind fun v56 =>
 (guardV v45 false ((pickV v51 v56 (vb false)).bind fun v57 =>
 some v57)).bind fun v58 =>
 (pickV v45 (vb true) v58).bind fun v59 =>
 condV v59 (
 (scal1 Tryz.prog (Instr.makeInterface 86) (vi 3)).bind fun v60 =>
 some v60) (
 some vn))) := by kernel_rfl
noncomputable def t_rule_Check (a0 : T_Rule) : Option Int :=
 (gd (!((((decide (a0.Prio < 0)) || (decide (99 < a0.Prio))) || (decide (a0.Out < 0))) || (decide (4 < a0.Out)))) default (t_cube_Header a0.Set)).bind fun r39 =>
 (gd (!(((((decide (a0.Prio < 0)) || (decide (99 < a0.Prio))) || (decide (a0.Out < 0))) || (decide (4 < a0.Out))) || (!r39))) default (t_cube_Header a0.Value)).bind fun r52 =>
 if ((((((decide (a0.Prio < 0)) || (decide (99 < a0.Prio))) || (decide (a0.Out < 0))) || (decide (4 < a0.Out))) || (!r39)) || (!r52)) = true then (
 some 1) else (
 (t_cube_Check a0.Cube).bind fun r61 =>
 if (!decide (r61 = 0)) = true then (
 some r61) else (
 if ((decide ((bits .andNot .i64 a0.Value a0.Set) ≠ 0)) || ((decide (a0.Out = 0)) && (decide (a0.Set ≠ 0)))) = true then (
 some 3) else (
 some 0)))
theorem ty_rule_Check {n : Nat} (hn : bigN ≤ n) (a0 : T_Rule) : Rv (fun x : Int => (eV x)) (sem_rule_Check n [(T_Rule.e a0)]) (t_rule_Check a0) := by
 rw [eq_rule_Check]
 unfold t_rule_Check; refine tb (x := (T_Rule.c a0)) rfl ?_; refine tb (x := (vi a0.Prio)) (rfl) ?_; refine tb (x := (vb (decide (a0.Prio < 0)))) (d_lss) ?_; refine tg_f (x := V.any) (fun h4 => rfl) ?_; refine tg_f (x := (vi a0.Prio)) (fun h6 => bind_some_eq (gate_pos (not_t h6) (rfl))) ?_; refine tg_f (x := (vb (decide (99 < a0.Prio)))) (fun h9 => by simp only [gv_t h9]; exact bind_some_eq (d_gtr)) ?_; refine tb (x := (vb ((decide (a0.Prio < 0)) || (decide (99 < a0.Prio))))) (pick_or (fun h9 => gv_t (not_f h9))) ?_; refine tg_f (x := V.any) (fun h13 => rfl) ?_; refine tg_f (x := (vi a0.Out)) (fun h15 => bind_some_eq (gate_pos (not_t h15) (rfl))) ?_; refine tg_f (x := (vb (decide (a0.Out < 0)))) (fun h18 => by simp only [gv_t h18]; exact bind_some_eq (d_lss)) ?_; refine tb (x := (vb (((decide (a0.Prio < 0)) || (decide (99 < a0.Prio))) || (decide (a0.Out < 0))))) (pick_or (fun h9 => gv_t (not_f h9))) ?_; refine tg_f (x := V.any) (fun h22 => rfl) ?_; refine tg_f (x := (vi a0.Out)) (fun h24 => bind_some_eq (gate_pos (not_t h24) (rfl))) ?_; refine tg_f (x := (vb (decide (4 < a0.Out)))) (fun h27 => by simp only [gv_t h27]; exact bind_some_eq (d_gtr)) ?_; refine tb (x := (vb ((((decide (a0.Prio < 0)) || (decide (99 < a0.Prio))) || (decide (a0.Out < 0))) || (decide (4 < a0.Out))))) (pick_or (fun h9 => gv_t (not_f h9))) ?_; refine tg_f (x := V.any) (fun h31 => rfl) ?_; refine tg_f (x := (vi a0.Set)) (fun h33 => bind_some_eq (gate_pos (not_t h33) (rfl))) ?_; refine tgo_f (fun h36 => by simp only [gv_t h36]; exact rf_bind_some (ty_cube_Header hn a0.Set)) fun r39 => ?_; refine tg_f (x := (vb (!r39))) (fun h40 => by simp only [gv_t h40]; exact bind_some_eq (d_not)) ?_; refine tb (x := (vb (((((decide (a0.Prio < 0)) || (decide (99 < a0.Prio))) || (decide (a0.Out < 0))) || (decide (4 < a0.Out))) || (!r39)))) (pick_or (fun h9 => gv_t (not_f h9))) ?_; refine tg_f (x := V.any) (fun h44 => rfl) ?_; refine tg_f (x := (vi a0.Value)) (fun h46 => bind_some_eq (gate_pos (not_t h46) (rfl))) ?_; refine tgo_f (fun h49 => by simp only [gv_t h49]; exact rf_bind_some (ty_cube_Header hn a0.Value)) fun r52 => ?_; refine tg_f (x := (vb (!r52))) (fun h53 => by simp only [gv_t h53]; exact bind_some_eq (d_not)) ?_; refine tb (x := (vb ((((((decide (a0.Prio < 0)) || (decide (99 < a0.Prio))) || (decide (a0.Out < 0))) || (decide (4 < a0.Out))) || (!r39)) || (!r52)))) (pick_or (fun h9 => gv_t (not_f h9))) ?_; refine tcond (fun h57 => ?_) (fun h57 => ?_)
 ·refine tb (x := (eV 1)) (p_mkE (by decide)) ?_; exact rf_ret rfl
 ·refine tb (x := (T_Cube.e a0.Cube)) (rfl) ?_; refine tbo (ty_cube_Check hn a0.Cube) fun r61 => ?_; refine tb (x := (vb (!decide (r61 = 0)))) (p_err_neq _) ?_; refine tcond (fun h63 => ?_) (fun h63 => ?_)
  ·exact rf_ret rfl
  ·refine tb (x := (vi a0.Value)) (rfl) ?_; refine tb (x := (vi a0.Set)) (rfl) ?_; refine tb (x := (vi (bits .andNot .i64 a0.Value a0.Set))) (d_andNot) ?_; refine tb (x := (vb (decide ((bits .andNot .i64 a0.Value a0.Set) ≠ 0)))) (d_neq) ?_; refine tg_f (x := V.any) (fun h68 => rfl) ?_; refine tg_f (x := (vi a0.Out)) (fun h70 => bind_some_eq (gate_pos (not_t h70) (rfl))) ?_; refine tg_f (x := (vb (decide (a0.Out = 0)))) (fun h73 => by simp only [gv_t h73]; exact bind_some_eq (d_eql)) ?_; refine tg_f (x := (vb (decide (a0.Out = 0)))) (fun h76 => congrArg some (gv_t h76)) ?_; refine tg2 (x := V.any) (fun h78 => rfl) ?_; refine tg2 (x := (vi a0.Set)) (fun h80 => bind_some_eq (gate_pos2 (and_l h80) (and_r h80) (rfl))) ?_; refine tg2 (x := (vb (decide (a0.Set ≠ 0)))) (fun h83 => by simp only [gv_t h83]; exact bind_some_eq (d_neq)) ?_; refine tg_f (x := (vb ((decide (a0.Out = 0)) && (decide (a0.Set ≠ 0))))) (fun h86 => by simp only [gv_t h86]; exact bind_some_eq (pick_and (fun h9 => gv_t (and_i h86 h9)))) ?_; refine tb (x := (vb ((decide ((bits .andNot .i64 a0.Value a0.Set) ≠ 0)) || ((decide (a0.Out = 0)) && (decide (a0.Set ≠ 0)))))) (pick_or (fun h9 => gv_t (not_f h9))) ?_; refine tcond (fun h90 => ?_) (fun h90 => ?_)
   ·refine tb (x := (eV 3)) (p_mkE (by decide)) ?_; exact rf_ret rfl
   ·exact rf_ret rfl
def an_slices_IndexFunc_api_Table_api_Rule : Ann := .seq (.reg 0 [] [] []) (.seq (.seq (.reg 0 [] [] []) (.blk (some []) (.loop [.s 8] (.seq (.reg 0 [] [] []) (.seq (.cond none (.no) (.no)) (.seq (.blk none (.seq (.reg 0 [] [] []) (.seq (.reg 0 [] [] []) (.cond none (.seq (.reg 0 [] [] []) (.no)) (.no))))) (.reg 0 [] [] []))))))) (.seq (.reg 0 [] [] []) (.no)))
noncomputable def sem_slices_IndexFunc_api_Table_api_Rule (E : FuncId → List V → Option V) (n : Nat) (xs : List V) : Option V := if xs.length ≤ 19 then denF Tryz.prog (envJ [] E) n Tryz.f73 an_slices_IndexFunc_api_Table_api_Rule xs else none
theorem ok_slices_IndexFunc_api_Table_api_Rule {E : FuncId → List V → Option V} (hE : EnvOk Tryz.prog DW E) (n : Nat) : SemOk Tryz.prog DW 73 (sem_slices_IndexFunc_api_Table_api_Rule E n) := fun xs y h => by
 unfold sem_slices_IndexFunc_api_Table_api_Rule at h
 split at h
 ·rename_i hl
  exact denF_ok stb Tryz.func73 (by kernel_rfl) (envJ_ok semsOk_nil hE) (by rw [Tryz.ntmps73]; exact hl) h
 ·cases h
theorem eq_slices_IndexFunc_api_Table_api_Rule (E : FuncId → List V → Option V) (n : Nat) (x0 x1 : V) : sem_slices_IndexFunc_api_Table_api_Rule E n [x0, x1] =
 (lenS [x0]).bind fun v1 =>
 JoinPt (fun vs2 =>
 some (vi (-1 : Int))) fun J3 =>
 (fixN (fun rec4 vs5 =>
 (bin2 Tryz.prog BinOp.lss 3 (ot 8) (ot 7) (List.getD vs5 0 V.any) v1).bind fun v6 =>
 condV v6 (
 (idxS 6 x0 (List.getD vs5 0 V.any)).bind fun v7 =>
 (ldp (some 6) v7).bind fun v8 =>
 (callV (envJ [] E) x1 [v8]).bind fun v9 =>
 condV v9 (
 some (List.getD vs5 0 V.any)) (
 (bin2 Tryz.prog BinOp.add 3 (ot 8) (oc 1) (List.getD vs5 0 V.any) (vi 1)).bind fun v10 =>
 rec4 [v10])) (
 J3 [])) n) [(vi 0)] := by kernel_rfl
noncomputable def t_slices_IndexFunc_api_Table_api_Rule (a0 : (List T_Rule)) (g1 : T_Rule → Option Bool) : Option Int :=
 join (fun (s4 : Unit) =>
 some (-1 : Int)) fun j5 =>
 loopI a0 (fun (i13 : Int) x14 (s9 : Unit) k10 =>
 (g1 x14).bind fun r22 =>
 if r22 = true then (
 some i13) else (
 k10 ())) (fun (s9 : Unit) =>
 j5 ()) ()
theorem ty_slices_IndexFunc_api_Table_api_Rule {E : FuncId → List V → Option V} {n : Nat} (hn : bigN ≤ n) (a0 : (List T_Rule)) {x1 : V} {g1 : T_Rule → Option Bool} (hg_g1 : ∀ a0, Rv (fun x : Bool => (vb x)) (callV E x1 [(T_Rule.e a0)]) (g1 a0)) : Rv (fun x : Int => (vi x)) (sem_slices_IndexFunc_api_Table_api_Rule E n [(V.sl (List.map T_Rule.c a0)), x1]) (t_slices_IndexFunc_api_Table_api_Rule a0 g1) := by
 rw [eq_slices_IndexFunc_api_Table_api_Rule]
 unfold t_slices_IndexFunc_api_Table_api_Rule; refine tb (x := (vi (List.length a0 : Int))) (p_len _) ?_; refine tjoin (mk := fun s4 : Unit => []) (fun s4 => ?_) fun J3 j5 h6 => ?_
 ·exact rf_ret rfl
 ·refine rf_loopI (mk := fun (i13 : Int) (s9 : Unit) => [(vi (i13 : Int))]) hn a0 () (fun i13 x14 h15 h16 h17 s9 rec7 k10 h11 => ?_) (fun s9 rec26 h25 => ?_)
  ·refine tb (x := (vb (decide ((i13 : Int) < (List.length a0 : Int))))) (d_lss) ?_; refine tcond_t h17 ?_; refine tb (x := (V.ptr (T_Rule.c x14))) (p_idx_at (c := T_Rule.c) (fun _ => rfl) h15) ?_; refine tb (x := (T_Rule.e x14)) (rfl) ?_; refine tbo ((callV_J0 ▸ hg_g1 x14)) fun r22 => ?_; refine tcond (fun h23 => ?_) (fun h23 => ?_)
   ·exact rf_ret rfl
   ·refine tb (x := (vi ((i13 : Int) + 1))) (p_incN h16) ?_; exact h11 ()
  ·refine tb (x := (vb (decide ((List.length a0 : Int) < (List.length a0 : Int))))) (d_lss) ?_; refine tcond_f h25 ?_; exact h6 ()
def an_slices_ContainsFunc_api_Table_api_Rule : Ann := .seq (.reg 0 [] [] []) (.seq (.reg 0 [] [] []) (.no))
noncomputable def sem_slices_ContainsFunc_api_Table_api_Rule (E : FuncId → List V → Option V) (n : Nat) (xs : List V) : Option V := if xs.length ≤ 9 then denF Tryz.prog (envJ [(73, (sem_slices_IndexFunc_api_Table_api_Rule E n))] E) n Tryz.f48 an_slices_ContainsFunc_api_Table_api_Rule xs else none
theorem ok_slices_ContainsFunc_api_Table_api_Rule {E : FuncId → List V → Option V} (hE : EnvOk Tryz.prog DW E) (n : Nat) : SemOk Tryz.prog DW 48 (sem_slices_ContainsFunc_api_Table_api_Rule E n) := fun xs y h => by
 unfold sem_slices_ContainsFunc_api_Table_api_Rule at h
 split at h
 ·rename_i hl
  exact denF_ok stb Tryz.func48 (by kernel_rfl) (envJ_ok (semsOk_cons (ok_slices_IndexFunc_api_Table_api_Rule hE n) semsOk_nil) hE) (by rw [Tryz.ntmps48]; exact hl) h
 ·cases h
theorem eq_slices_ContainsFunc_api_Table_api_Rule (E : FuncId → List V → Option V) (n : Nat) (x0 x1 : V) : sem_slices_ContainsFunc_api_Table_api_Rule E n [x0, x1] =
 ((sem_slices_IndexFunc_api_Table_api_Rule E n) [x0, x1]).bind fun v1 =>
 (bin2 Tryz.prog BinOp.geq 3 (ot 7) (oc 0) v1 (vi 0)).bind fun v2 =>
 some v2 := by kernel_rfl
noncomputable def t_slices_ContainsFunc_api_Table_api_Rule (a0 : (List T_Rule)) (g1 : T_Rule → Option Bool) : Option Bool :=
 (t_slices_IndexFunc_api_Table_api_Rule a0 g1).bind fun r2 =>
 some (decide (0 ≤ r2))
theorem ty_slices_ContainsFunc_api_Table_api_Rule {E : FuncId → List V → Option V} {n : Nat} (hn : bigN ≤ n) (a0 : (List T_Rule)) {x1 : V} {g1 : T_Rule → Option Bool} (hg_g1 : ∀ a0, Rv (fun x : Bool => (vb x)) (callV E x1 [(T_Rule.e a0)]) (g1 a0)) : Rv (fun x : Bool => (vb x)) (sem_slices_ContainsFunc_api_Table_api_Rule E n [(V.sl (List.map T_Rule.c a0)), x1]) (t_slices_ContainsFunc_api_Table_api_Rule a0 g1) := by
 rw [eq_slices_ContainsFunc_api_Table_api_Rule]
 unfold t_slices_ContainsFunc_api_Table_api_Rule; refine tbo (ty_slices_IndexFunc_api_Table_api_Rule (E := E) (x1 := x1) (g1 := g1) hn a0 hg_g1) fun r2 => ?_; refine tb (x := (vb (decide (0 ≤ r2)))) (d_geq) ?_; exact rf_ret rfl
def an_rule_Key : Ann := .seq (.reg 0 [] [] []) (.seq (.reg 0 [] [] []) (.no))
noncomputable def sem_rule_Key (n : Nat) (xs : List V) : Option V := if xs.length ≤ 17 then denF Tryz.prog (envOf []) n Tryz.f50 an_rule_Key xs else none
theorem ok_rule_Key (n : Nat) : SemOk Tryz.prog DW 50 (sem_rule_Key n) := fun xs y h => by
 unfold sem_rule_Key at h
 split at h
 ·rename_i hl
  exact denF_ok stb Tryz.func50 (by kernel_rfl) (envOf_ok semsOk_nil) (by rw [Tryz.ntmps50]; exact hl) h
 ·cases h
theorem eq_rule_Key (n : Nat) (x0 x1 : V) : sem_rule_Key n [x0, x1] =
 (V.cellsO x0).bind fun v1 =>
 (V.cellsO x1).bind fun v2 =>
 (ldk none (List.drop 0 v1)).bind fun v3 =>
 (ldk none (List.drop 0 v2)).bind fun v4 =>
 (bin2 Tryz.prog BinOp.eql 3 (ot 6) (ot 8) v3 v4).bind fun v5 =>
 (guardV v5 true (some V.any)).bind fun v6 =>
 (guardV v5 true ((gate v5 true (ldk (some 2) (List.drop 1 v1))).bind fun v7 =>
 some v7)).bind fun v8 =>
 (guardV v5 true (some V.any)).bind fun v9 =>
 (guardV v5 true ((gate v5 true (ldk (some 2) (List.drop 1 v2))).bind fun v10 =>
 some v10)).bind fun v11 =>
 (guardV v5 true ((bin2 Tryz.prog BinOp.eql 23 (ot 12) (ot 14) v8 v11).bind fun v12 =>
 some v12)).bind fun v13 =>
 (pickV v5 v13 (vb false)).bind fun v14 =>
 some v14 := by kernel_rfl
noncomputable def t_rule_Key (a0 : T_Rule) (a1 : T_Rule) : Option Bool :=
 some ((decide (a0.Prio = a1.Prio)) && (decide (a0.Cube = a1.Cube)))
theorem ty_rule_Key {n : Nat} (hn : bigN ≤ n) (a0 : T_Rule) (a1 : T_Rule) : Rv (fun x : Bool => (vb x)) (sem_rule_Key n [(T_Rule.e a0), (T_Rule.e a1)]) (t_rule_Key a0 a1) := by
 rw [eq_rule_Key]
 unfold t_rule_Key; refine tb (x := (T_Rule.c a0)) rfl ?_; refine tb (x := (T_Rule.c a1)) rfl ?_; refine tb (x := (vi a0.Prio)) (rfl) ?_; refine tb (x := (vi a1.Prio)) (rfl) ?_; refine tb (x := (vb (decide (a0.Prio = a1.Prio)))) (d_eql) ?_; refine tg (x := V.any) (fun h6 => rfl) ?_; refine tg (x := (T_Cube.e a0.Cube)) (fun h8 => bind_some_eq (gate_pos h8 (rfl))) ?_; refine tg (x := V.any) (fun h11 => rfl) ?_; refine tg (x := (T_Cube.e a1.Cube)) (fun h13 => bind_some_eq (gate_pos h13 (rfl))) ?_; refine tg (x := (vb (decide (a0.Cube = a1.Cube)))) (fun h16 => by simp only [gv_t h16]; exact bind_some_eq (T_Cube.eql a0.Cube a1.Cube)) ?_; refine tb (x := (vb ((decide (a0.Prio = a1.Prio)) && (decide (a0.Cube = a1.Cube))))) (pick_and (fun h9 => gv_t h9)) ?_; exact rf_ret rfl
def an_rule_Table_1 : Ann := .seq (.reg 0 [] [] []) (.seq (.reg 0 [] [] []) (.no))
noncomputable def sem_rule_Table_1 (n : Nat) (xs : List V) : Option V := if xs.length ≤ 7 then denF Tryz.prog (envOf [(50, (sem_rule_Key n))]) n Tryz.f49 an_rule_Table_1 xs else none
theorem ok_rule_Table_1 (n : Nat) : SemOk Tryz.prog DW 49 (sem_rule_Table_1 n) := fun xs y h => by
 unfold sem_rule_Table_1 at h
 split at h
 ·rename_i hl
  exact denF_ok stb Tryz.func49 (by kernel_rfl) (envOf_ok (semsOk_cons (ok_rule_Key n) semsOk_nil)) (by rw [Tryz.ntmps49]; exact hl) h
 ·cases h
theorem eq_rule_Table_1 (n : Nat) (x0 x1 : V) : sem_rule_Table_1 n [x0, x1] =
 (V.cellsO x0).bind fun v1 =>
 (ldk (some 6) (List.drop 0 v1)).bind fun v2 =>
 (ldp (some 6) x1).bind fun v3 =>
 ((sem_rule_Key n) [v2, v3]).bind fun v4 =>
 some v4 := by kernel_rfl
noncomputable def t_rule_Table_1 (a0 : T_Rule) (a1 : T_Rule) : Option Bool :=
 (t_rule_Key a0 a1).bind fun r5 =>
 some r5
theorem ty_rule_Table_1 {n : Nat} (hn : bigN ≤ n) (a0 : T_Rule) (a1 : T_Rule) : Rv (fun x : Bool => (vb x)) (sem_rule_Table_1 n [(T_Rule.e a0), (V.ptr (T_Rule.c a1))]) (t_rule_Table_1 a0 a1) := by
 rw [eq_rule_Table_1]
 unfold t_rule_Table_1; refine tb (x := (T_Rule.c a0)) rfl ?_; refine tb (x := (T_Rule.e a0)) (rfl) ?_; refine tb (x := (T_Rule.e a1)) (rfl) ?_; refine tbo (ty_rule_Key hn a0 a1) fun r5 => ?_; exact rf_ret rfl
def an_rule_Table : Ann := .seq (.reg 0 [] [] []) (.seq (.seq (.reg 0 [] [] []) (.cond none (.seq (.reg 0 [] [] []) (.no)) (.no))) (.seq (.seq (.reg 0 [] [] []) (.blk (some []) (.loop [.s 12] (.seq (.reg 0 [] [] []) (.seq (.cond none (.no) (.no)) (.seq (.blk none (.seq (.reg 0 [] [] []) (.seq (.seq (.reg 0 [4] [] []) (.seq (.reg 0 [] [] []) (.cond none (.seq (.reg 0 [] [] []) (.no)) (.no)))) (.seq (.reg 0 [] [] []) (.cond none (.seq (.reg 0 [] [] []) (.no)) (.no)))))) (.reg 0 [] [] []))))))) (.seq (.reg 0 [] [] []) (.no))))
noncomputable def sem_rule_Table (n : Nat) (xs : List V) : Option V := if xs.length ≤ 29 then denF Tryz.prog (envOf [(7, (sem_rule_Check n)), (48, (sem_slices_ContainsFunc_api_Table_api_Rule (envOf [(49, (sem_rule_Table_1 n))]) n)), (49, (sem_rule_Table_1 n))]) n Tryz.f17 an_rule_Table xs else none
theorem ok_rule_Table (n : Nat) : SemOk Tryz.prog DW 17 (sem_rule_Table n) := fun xs y h => by
 unfold sem_rule_Table at h
 split at h
 ·rename_i hl
  exact denF_ok stb Tryz.func17 (by kernel_rfl) (envOf_ok (semsOk_cons (ok_rule_Check n) (semsOk_cons (ok_slices_ContainsFunc_api_Table_api_Rule (envOf_ok (semsOk_cons (ok_rule_Table_1 n) semsOk_nil)) n) (semsOk_cons (ok_rule_Table_1 n) semsOk_nil)))) (by rw [Tryz.ntmps17]; exact hl) h
 ·cases h
theorem eq_rule_Table (n : Nat) (x0 : V) : sem_rule_Table n [x0] =
 (lenS [x0]).bind fun v1 =>
 (bin2 Tryz.prog BinOp.gtr 3 (ot 7) (oc 12) v1 (vi 12)).bind fun v2 =>
 condV v2 (
 (scal1 Tryz.prog (Instr.makeInterface 86) (vi 4)).bind fun v3 =>
 some v3) (
 (lenS [x0]).bind fun v4 =>
 JoinPt (fun vs5 =>
 some vn) fun J6 =>
 (fixN (fun rec7 vs8 =>
 (bin2 Tryz.prog BinOp.lss 3 (ot 12) (ot 11) (List.getD vs8 0 V.any) v4).bind fun v9 =>
 condV v9 (
 (idxS 6 x0 (List.getD vs8 0 V.any)).bind fun v10 =>
 (ldp (some 6) v10).bind fun v11 =>
 (spliceV [(vi 0), (vi 0), (vi 0), (vi 0), (vi 0), (vi 0)] 0 6 v11).bind fun v12 =>
 (ldp (some 6) (V.ptr (aggL v12))).bind fun v13 =>
 ((sem_rule_Check n) [v13]).bind fun v14 =>
 (bin2 Tryz.prog BinOp.neq 31 (ot 19) (Operand.const Go.Value.nilIface) v14 vn).bind fun v15 =>
 condV v15 (
 some v14) (
 (slc (some 6) x0 none (some (List.getD vs8 0 V.any))).bind fun v16 =>
 ((sem_slices_ContainsFunc_api_Table_api_Rule (envOf [(49, (sem_rule_Table_1 n))]) n) [v16, (V.fn 49 [(V.ptr (aggL v12))])]).bind fun v17 =>
 condV v17 (
 (scal1 Tryz.prog (Instr.makeInterface 86) (vi 7)).bind fun v18 =>
 some v18) (
 (bin2 Tryz.prog BinOp.add 3 (ot 12) (oc 1) (List.getD vs8 0 V.any) (vi 1)).bind fun v19 =>
 rec7 [v19]))) (
 J6 [])) n) [(vi 0)]) := by kernel_rfl
noncomputable def t_rule_Table (a0 : (List T_Rule)) : Option Int :=
 if (decide (12 < (List.length a0 : Int))) = true then (
 some 4) else (
 join (fun (s8 : Unit) =>
 some 0) fun j9 =>
 loopI a0 (fun (i17 : Int) x18 (s13 : Unit) k14 =>
 (t_rule_Check x18).bind fun r28 =>
 if (!decide (r28 = 0)) = true then (
 some r28) else (
 (slc_hi a0 i17).bind fun r32 =>
 (t_slices_ContainsFunc_api_Table_api_Rule r32 (fun (a33 : T_Rule) => t_rule_Table_1 a33 x18)).bind fun r35 =>
 if r35 = true then (
 some 7) else (
 k14 ()))) (fun (s13 : Unit) =>
 j9 ()) ())
theorem ty_rule_Table {n : Nat} (hn : bigN ≤ n) (a0 : (List T_Rule)) : Rv (fun x : Int => (eV x)) (sem_rule_Table n [(V.sl (List.map T_Rule.c a0))]) (t_rule_Table a0) := by
 rw [eq_rule_Table]
 unfold t_rule_Table; refine tb (x := (vi (List.length a0 : Int))) (p_len _) ?_; refine tb (x := (vb (decide (12 < (List.length a0 : Int))))) (d_gtr) ?_; refine tcond (fun h3 => ?_) (fun h3 => ?_)
 ·refine tb (x := (eV 4)) (p_mkE (by decide)) ?_; exact rf_ret rfl
 ·refine tb (x := (vi (List.length a0 : Int))) (p_len _) ?_; refine tjoin (mk := fun s8 : Unit => []) (fun s8 => ?_) fun J7 j9 h10 => ?_
  ·exact rf_ret rfl
  ·refine rf_loopI (mk := fun (i17 : Int) (s13 : Unit) => [(vi (i17 : Int))]) hn a0 () (fun i17 x18 h19 h20 h21 s13 rec11 k14 h15 => ?_) (fun s13 rec40 h39 => ?_)
   ·refine tb (x := (vb (decide ((i17 : Int) < (List.length a0 : Int))))) (d_lss) ?_; refine tcond_t h21 ?_; refine tb (x := (V.ptr (T_Rule.c x18))) (p_idx_at (c := T_Rule.c) (fun _ => rfl) h19) ?_; refine tb (x := (T_Rule.e x18)) (rfl) ?_; refine tb (x := V.agg (T_Rule.c x18)) (by kernel_rfl) ?_; refine tb (x := (T_Rule.e x18)) (rfl) ?_; refine tbo (ty_rule_Check hn x18) fun r28 => ?_; refine tb (x := (vb (!decide (r28 = 0)))) (p_err_neq _) ?_; refine tcond (fun h30 => ?_) (fun h30 => ?_)
    ·exact rf_ret rfl
    ·refine tbo (p_slc_hi (c := T_Rule.c) (fun _ => rfl) a0 (i17 : Int)) fun r32 => ?_; refine tbo (ty_slices_ContainsFunc_api_Table_api_Rule (E := (envOf [(49, (sem_rule_Table_1 n))])) (x1 := (V.fn 49 [(V.ptr (T_Rule.c x18))])) (g1 := (fun (a33 : T_Rule) => t_rule_Table_1 a33 x18)) hn r32 (fun a33 => ty_rule_Table_1 hn a33 x18)) fun r35 => ?_; refine tcond (fun h36 => ?_) (fun h36 => ?_)
     ·refine tb (x := (eV 7)) (p_mkE (by decide)) ?_; exact rf_ret rfl
     ·refine tb (x := (vi ((i17 : Int) + 1))) (p_incN h20) ?_; exact h15 ()
   ·refine tb (x := (vb (decide ((List.length a0 : Int) < (List.length a0 : Int))))) (d_lss) ?_; refine tcond_f h39 ?_; exact h10 ()
def an_net_Check : Ann := .seq (.reg 0 [] [] []) (.seq (.seq (.reg 0 [] [] []) (.seq (.reg 0 [] [] []) (.cond none (.seq (.reg 0 [] [] []) (.no)) (.no)))) (.seq (.seq (.reg 0 [] [] []) (.cond none (.seq (.reg 0 [] [] []) (.no)) (.no))) (.seq (.seq (.reg 0 [] [] []) (.blk (some []) (.loop [.s 24] (.seq (.reg 0 [] [] []) (.seq (.cond none (.no) (.no)) (.seq (.blk none (.seq (.reg 0 [] [] []) (.seq (.reg 0 [] [] []) (.seq (.reg 0 [] [] []) (.cond none (.seq (.reg 0 [] [] []) (.no)) (.no)))))) (.reg 0 [] [] []))))))) (.seq (.reg 0 [] [] []) (.no)))))
noncomputable def sem_net_Check (n : Nat) (xs : List V) : Option V := if xs.length ≤ 34 then denF Tryz.prog (envOf [(53, (sem_topo_Check n)), (17, (sem_rule_Table n))]) n Tryz.f63 an_net_Check xs else none
theorem ok_net_Check (n : Nat) : SemOk Tryz.prog DW 63 (sem_net_Check n) := fun xs y h => by
 unfold sem_net_Check at h
 split at h
 ·rename_i hl
  exact denF_ok stb Tryz.func63 (by kernel_rfl) (envOf_ok (semsOk_cons (ok_topo_Check n) (semsOk_cons (ok_rule_Table n) semsOk_nil))) (by rw [Tryz.ntmps63]; exact hl) h
 ·cases h
theorem eq_net_Check (n : Nat) (x0 : V) : sem_net_Check n [x0] =
 (V.cellsO x0).bind fun v1 =>
 (ldk (some 3) (List.drop 0 v1)).bind fun v2 =>
 ((sem_topo_Check n) [v2]).bind fun v3 =>
 (bin2 Tryz.prog BinOp.neq 31 (ot 10) (Operand.const Go.Value.nilIface) v3 vn).bind fun v4 =>
 condV v4 (
 some v3) (
 (ldk none (List.drop 3 v1)).bind fun v5 =>
 (lenS [v5]).bind fun v6 =>
 (ldk none (List.drop 0 v1)).bind fun v7 =>
 (bin2 Tryz.prog BinOp.neq 3 (ot 15) (ot 18) v6 v7).bind fun v8 =>
 condV v8 (
 (scal1 Tryz.prog (Instr.makeInterface 86) (vi 3)).bind fun v9 =>
 some v9) (
 (ldk none (List.drop 3 v1)).bind fun v10 =>
 (lenS [v10]).bind fun v11 =>
 JoinPt (fun vs12 =>
 some vn) fun J13 =>
 (fixN (fun rec14 vs15 =>
 (bin2 Tryz.prog BinOp.lss 3 (ot 24) (ot 23) (List.getD vs15 0 V.any) v11).bind fun v16 =>
 condV v16 (
 (idxS 1 v10 (List.getD vs15 0 V.any)).bind fun v17 =>
 (ldp none v17).bind fun v18 =>
 ((sem_rule_Table n) [v18]).bind fun v19 =>
 (bin2 Tryz.prog BinOp.neq 31 (ot 30) (Operand.const Go.Value.nilIface) v19 vn).bind fun v20 =>
 condV v20 (
 some v19) (
 (bin2 Tryz.prog BinOp.add 3 (ot 24) (oc 1) (List.getD vs15 0 V.any) (vi 1)).bind fun v21 =>
 rec14 [v21])) (
 J13 [])) n) [(vi 0)])) := by kernel_rfl
noncomputable def t_net_Check (a0 : T_Net) : Option Int :=
 (t_topo_Check a0.Topo).bind fun r4 =>
 if (!decide (r4 = 0)) = true then (
 some r4) else (
 if (decide ((List.length a0.Tables : Int) ≠ a0.Topo.Switches)) = true then (
 some 3) else (
 join (fun (s17 : Unit) =>
 some 0) fun j18 =>
 loopI a0.Tables (fun (i26 : Int) x27 (s22 : Unit) k23 =>
 (t_rule_Table x27).bind fun r35 =>
 if (!decide (r35 = 0)) = true then (
 some r35) else (
 k23 ())) (fun (s22 : Unit) =>
 j18 ()) ()))
theorem ty_net_Check {n : Nat} (hn : bigN ≤ n) (a0 : T_Net) : Rv (fun x : Int => (eV x)) (sem_net_Check n [(T_Net.e a0)]) (t_net_Check a0) := by
 rw [eq_net_Check]
 unfold t_net_Check; refine tb (x := (T_Net.c a0)) rfl ?_; refine tb (x := (T_Topo.e a0.Topo)) (rfl) ?_; refine tbo (ty_topo_Check hn a0.Topo) fun r4 => ?_; refine tb (x := (vb (!decide (r4 = 0)))) (p_err_neq _) ?_; refine tcond (fun h6 => ?_) (fun h6 => ?_)
 ·exact rf_ret rfl
 ·refine tb (x := (V.sl (List.map (cS T_Rule.c) a0.Tables))) (rfl) ?_; refine tb (x := (vi (List.length a0.Tables : Int))) (p_len _) ?_; refine tb (x := (vi a0.Topo.Switches)) (rfl) ?_; refine tb (x := (vb (decide ((List.length a0.Tables : Int) ≠ a0.Topo.Switches)))) (d_neq) ?_; refine tcond (fun h11 => ?_) (fun h11 => ?_)
  ·refine tb (x := (eV 3)) (p_mkE (by decide)) ?_; exact rf_ret rfl
  ·refine tb (x := (V.sl (List.map (cS T_Rule.c) a0.Tables))) (rfl) ?_; refine tb (x := (vi (List.length a0.Tables : Int))) (p_len _) ?_; refine tjoin (mk := fun s17 : Unit => []) (fun s17 => ?_) fun J16 j18 h19 => ?_
   ·exact rf_ret rfl
   ·refine rf_loopI (mk := fun (i26 : Int) (s22 : Unit) => [(vi (i26 : Int))]) hn a0.Tables () (fun i26 x27 h28 h29 h30 s22 rec20 k23 h24 => ?_) (fun s22 rec40 h39 => ?_)
    ·refine tb (x := (vb (decide ((i26 : Int) < (List.length a0.Tables : Int))))) (d_lss) ?_; refine tcond_t h30 ?_; refine tb (x := (V.ptr [(V.sl (List.map T_Rule.c x27))])) (p_idx_at (c := (cS T_Rule.c)) (fun _ => rfl) h28) ?_; refine tb (x := (V.sl (List.map T_Rule.c x27))) (rfl) ?_; refine tbo (ty_rule_Table hn x27) fun r35 => ?_; refine tb (x := (vb (!decide (r35 = 0)))) (p_err_neq _) ?_; refine tcond (fun h37 => ?_) (fun h37 => ?_)
     ·exact rf_ret rfl
     ·refine tb (x := (vi ((i26 : Int) + 1))) (p_incN h29) ?_; exact h24 ()
    ·refine tb (x := (vb (decide ((List.length a0.Tables : Int) < (List.length a0.Tables : Int))))) (d_lss) ?_; refine tcond_f h39 ?_; exact h19 ()
def an_slices_IndexFunc_api_Fate_api_Fate : Ann := .seq (.reg 0 [] [] []) (.seq (.seq (.reg 0 [] [] []) (.blk (some []) (.loop [.s 8] (.seq (.reg 0 [] [] []) (.seq (.cond none (.no) (.no)) (.seq (.blk none (.seq (.reg 0 [] [] []) (.seq (.reg 0 [] [] []) (.cond none (.seq (.reg 0 [] [] []) (.no)) (.no))))) (.reg 0 [] [] []))))))) (.seq (.reg 0 [] [] []) (.no)))
noncomputable def sem_slices_IndexFunc_api_Fate_api_Fate (E : FuncId → List V → Option V) (n : Nat) (xs : List V) : Option V := if xs.length ≤ 19 then denF Tryz.prog (envJ [] E) n Tryz.f101 an_slices_IndexFunc_api_Fate_api_Fate xs else none
theorem ok_slices_IndexFunc_api_Fate_api_Fate {E : FuncId → List V → Option V} (hE : EnvOk Tryz.prog DW E) (n : Nat) : SemOk Tryz.prog DW 101 (sem_slices_IndexFunc_api_Fate_api_Fate E n) := fun xs y h => by
 unfold sem_slices_IndexFunc_api_Fate_api_Fate at h
 split at h
 ·rename_i hl
  exact denF_ok stb Tryz.func101 (by kernel_rfl) (envJ_ok semsOk_nil hE) (by rw [Tryz.ntmps101]; exact hl) h
 ·cases h
theorem eq_slices_IndexFunc_api_Fate_api_Fate (E : FuncId → List V → Option V) (n : Nat) (x0 x1 : V) : sem_slices_IndexFunc_api_Fate_api_Fate E n [x0, x1] =
 (lenS [x0]).bind fun v1 =>
 JoinPt (fun vs2 =>
 some (vi (-1 : Int))) fun J3 =>
 (fixN (fun rec4 vs5 =>
 (bin2 Tryz.prog BinOp.lss 3 (ot 8) (ot 7) (List.getD vs5 0 V.any) v1).bind fun v6 =>
 condV v6 (
 (idxS 3 x0 (List.getD vs5 0 V.any)).bind fun v7 =>
 (ldp (some 3) v7).bind fun v8 =>
 (callV (envJ [] E) x1 [v8]).bind fun v9 =>
 condV v9 (
 some (List.getD vs5 0 V.any)) (
 (bin2 Tryz.prog BinOp.add 3 (ot 8) (oc 1) (List.getD vs5 0 V.any) (vi 1)).bind fun v10 =>
 rec4 [v10])) (
 J3 [])) n) [(vi 0)] := by kernel_rfl
noncomputable def t_slices_IndexFunc_api_Fate_api_Fate (a0 : (List T_Fate)) (g1 : T_Fate → Option Bool) : Option Int :=
 join (fun (s4 : Unit) =>
 some (-1 : Int)) fun j5 =>
 loopI a0 (fun (i13 : Int) x14 (s9 : Unit) k10 =>
 (g1 x14).bind fun r22 =>
 if r22 = true then (
 some i13) else (
 k10 ())) (fun (s9 : Unit) =>
 j5 ()) ()
theorem ty_slices_IndexFunc_api_Fate_api_Fate {E : FuncId → List V → Option V} {n : Nat} (hn : bigN ≤ n) (a0 : (List T_Fate)) {x1 : V} {g1 : T_Fate → Option Bool} (hg_g1 : ∀ a0, Rv (fun x : Bool => (vb x)) (callV E x1 [(T_Fate.e a0)]) (g1 a0)) : Rv (fun x : Int => (vi x)) (sem_slices_IndexFunc_api_Fate_api_Fate E n [(V.sl (List.map T_Fate.c a0)), x1]) (t_slices_IndexFunc_api_Fate_api_Fate a0 g1) := by
 rw [eq_slices_IndexFunc_api_Fate_api_Fate]
 unfold t_slices_IndexFunc_api_Fate_api_Fate; refine tb (x := (vi (List.length a0 : Int))) (p_len _) ?_; refine tjoin (mk := fun s4 : Unit => []) (fun s4 => ?_) fun J3 j5 h6 => ?_
 ·exact rf_ret rfl
 ·refine rf_loopI (mk := fun (i13 : Int) (s9 : Unit) => [(vi (i13 : Int))]) hn a0 () (fun i13 x14 h15 h16 h17 s9 rec7 k10 h11 => ?_) (fun s9 rec26 h25 => ?_)
  ·refine tb (x := (vb (decide ((i13 : Int) < (List.length a0 : Int))))) (d_lss) ?_; refine tcond_t h17 ?_; refine tb (x := (V.ptr (T_Fate.c x14))) (p_idx_at (c := T_Fate.c) (fun _ => rfl) h15) ?_; refine tb (x := (T_Fate.e x14)) (rfl) ?_; refine tbo ((callV_J0 ▸ hg_g1 x14)) fun r22 => ?_; refine tcond (fun h23 => ?_) (fun h23 => ?_)
   ·exact rf_ret rfl
   ·refine tb (x := (vi ((i13 : Int) + 1))) (p_incN h16) ?_; exact h11 ()
  ·refine tb (x := (vb (decide ((List.length a0 : Int) < (List.length a0 : Int))))) (d_lss) ?_; refine tcond_f h25 ?_; exact h6 ()
def an_slices_ContainsFunc_api_Fate_api_Fate : Ann := .seq (.reg 0 [] [] []) (.seq (.reg 0 [] [] []) (.no))
noncomputable def sem_slices_ContainsFunc_api_Fate_api_Fate (E : FuncId → List V → Option V) (n : Nat) (xs : List V) : Option V := if xs.length ≤ 9 then denF Tryz.prog (envJ [(101, (sem_slices_IndexFunc_api_Fate_api_Fate E n))] E) n Tryz.f80 an_slices_ContainsFunc_api_Fate_api_Fate xs else none
theorem ok_slices_ContainsFunc_api_Fate_api_Fate {E : FuncId → List V → Option V} (hE : EnvOk Tryz.prog DW E) (n : Nat) : SemOk Tryz.prog DW 80 (sem_slices_ContainsFunc_api_Fate_api_Fate E n) := fun xs y h => by
 unfold sem_slices_ContainsFunc_api_Fate_api_Fate at h
 split at h
 ·rename_i hl
  exact denF_ok stb Tryz.func80 (by kernel_rfl) (envJ_ok (semsOk_cons (ok_slices_IndexFunc_api_Fate_api_Fate hE n) semsOk_nil) hE) (by rw [Tryz.ntmps80]; exact hl) h
 ·cases h
theorem eq_slices_ContainsFunc_api_Fate_api_Fate (E : FuncId → List V → Option V) (n : Nat) (x0 x1 : V) : sem_slices_ContainsFunc_api_Fate_api_Fate E n [x0, x1] =
 ((sem_slices_IndexFunc_api_Fate_api_Fate E n) [x0, x1]).bind fun v1 =>
 (bin2 Tryz.prog BinOp.geq 3 (ot 7) (oc 0) v1 (vi 0)).bind fun v2 =>
 some v2 := by kernel_rfl
noncomputable def t_slices_ContainsFunc_api_Fate_api_Fate (a0 : (List T_Fate)) (g1 : T_Fate → Option Bool) : Option Bool :=
 (t_slices_IndexFunc_api_Fate_api_Fate a0 g1).bind fun r2 =>
 some (decide (0 ≤ r2))
theorem ty_slices_ContainsFunc_api_Fate_api_Fate {E : FuncId → List V → Option V} {n : Nat} (hn : bigN ≤ n) (a0 : (List T_Fate)) {x1 : V} {g1 : T_Fate → Option Bool} (hg_g1 : ∀ a0, Rv (fun x : Bool => (vb x)) (callV E x1 [(T_Fate.e a0)]) (g1 a0)) : Rv (fun x : Bool => (vb x)) (sem_slices_ContainsFunc_api_Fate_api_Fate E n [(V.sl (List.map T_Fate.c a0)), x1]) (t_slices_ContainsFunc_api_Fate_api_Fate a0 g1) := by
 rw [eq_slices_ContainsFunc_api_Fate_api_Fate]
 unfold t_slices_ContainsFunc_api_Fate_api_Fate; refine tbo (ty_slices_IndexFunc_api_Fate_api_Fate (E := E) (x1 := x1) (g1 := g1) hn a0 hg_g1) fun r2 => ?_; refine tb (x := (vb (decide (0 ≤ r2)))) (d_geq) ?_; exact rf_ret rfl
def an_slices_IndexFunc_api_Hop_api_Hop : Ann := .seq (.reg 0 [] [] []) (.seq (.seq (.reg 0 [] [] []) (.blk (some []) (.loop [.s 8] (.seq (.reg 0 [] [] []) (.seq (.cond none (.no) (.no)) (.seq (.blk none (.seq (.reg 0 [] [] []) (.seq (.reg 0 [] [] []) (.cond none (.seq (.reg 0 [] [] []) (.no)) (.no))))) (.reg 0 [] [] []))))))) (.seq (.reg 0 [] [] []) (.no)))
noncomputable def sem_slices_IndexFunc_api_Hop_api_Hop (E : FuncId → List V → Option V) (n : Nat) (xs : List V) : Option V := if xs.length ≤ 19 then denF Tryz.prog (envJ [] E) n Tryz.f84 an_slices_IndexFunc_api_Hop_api_Hop xs else none
theorem ok_slices_IndexFunc_api_Hop_api_Hop {E : FuncId → List V → Option V} (hE : EnvOk Tryz.prog DW E) (n : Nat) : SemOk Tryz.prog DW 84 (sem_slices_IndexFunc_api_Hop_api_Hop E n) := fun xs y h => by
 unfold sem_slices_IndexFunc_api_Hop_api_Hop at h
 split at h
 ·rename_i hl
  exact denF_ok stb Tryz.func84 (by kernel_rfl) (envJ_ok semsOk_nil hE) (by rw [Tryz.ntmps84]; exact hl) h
 ·cases h
theorem eq_slices_IndexFunc_api_Hop_api_Hop (E : FuncId → List V → Option V) (n : Nat) (x0 x1 : V) : sem_slices_IndexFunc_api_Hop_api_Hop E n [x0, x1] =
 (lenS [x0]).bind fun v1 =>
 JoinPt (fun vs2 =>
 some (vi (-1 : Int))) fun J3 =>
 (fixN (fun rec4 vs5 =>
 (bin2 Tryz.prog BinOp.lss 3 (ot 8) (ot 7) (List.getD vs5 0 V.any) v1).bind fun v6 =>
 condV v6 (
 (idxS 3 x0 (List.getD vs5 0 V.any)).bind fun v7 =>
 (ldp (some 3) v7).bind fun v8 =>
 (callV (envJ [] E) x1 [v8]).bind fun v9 =>
 condV v9 (
 some (List.getD vs5 0 V.any)) (
 (bin2 Tryz.prog BinOp.add 3 (ot 8) (oc 1) (List.getD vs5 0 V.any) (vi 1)).bind fun v10 =>
 rec4 [v10])) (
 J3 [])) n) [(vi 0)] := by kernel_rfl
noncomputable def t_slices_IndexFunc_api_Hop_api_Hop (a0 : (List T_Hop)) (g1 : T_Hop → Option Bool) : Option Int :=
 join (fun (s4 : Unit) =>
 some (-1 : Int)) fun j5 =>
 loopI a0 (fun (i13 : Int) x14 (s9 : Unit) k10 =>
 (g1 x14).bind fun r22 =>
 if r22 = true then (
 some i13) else (
 k10 ())) (fun (s9 : Unit) =>
 j5 ()) ()
theorem ty_slices_IndexFunc_api_Hop_api_Hop {E : FuncId → List V → Option V} {n : Nat} (hn : bigN ≤ n) (a0 : (List T_Hop)) {x1 : V} {g1 : T_Hop → Option Bool} (hg_g1 : ∀ a0, Rv (fun x : Bool => (vb x)) (callV E x1 [(T_Hop.e a0)]) (g1 a0)) : Rv (fun x : Int => (vi x)) (sem_slices_IndexFunc_api_Hop_api_Hop E n [(V.sl (List.map T_Hop.c a0)), x1]) (t_slices_IndexFunc_api_Hop_api_Hop a0 g1) := by
 rw [eq_slices_IndexFunc_api_Hop_api_Hop]
 unfold t_slices_IndexFunc_api_Hop_api_Hop; refine tb (x := (vi (List.length a0 : Int))) (p_len _) ?_; refine tjoin (mk := fun s4 : Unit => []) (fun s4 => ?_) fun J3 j5 h6 => ?_
 ·exact rf_ret rfl
 ·refine rf_loopI (mk := fun (i13 : Int) (s9 : Unit) => [(vi (i13 : Int))]) hn a0 () (fun i13 x14 h15 h16 h17 s9 rec7 k10 h11 => ?_) (fun s9 rec26 h25 => ?_)
  ·refine tb (x := (vb (decide ((i13 : Int) < (List.length a0 : Int))))) (d_lss) ?_; refine tcond_t h17 ?_; refine tb (x := (V.ptr (T_Hop.c x14))) (p_idx_at (c := T_Hop.c) (fun _ => rfl) h15) ?_; refine tb (x := (T_Hop.e x14)) (rfl) ?_; refine tbo ((callV_J0 ▸ hg_g1 x14)) fun r22 => ?_; refine tcond (fun h23 => ?_) (fun h23 => ?_)
   ·exact rf_ret rfl
   ·refine tb (x := (vi ((i13 : Int) + 1))) (p_incN h16) ?_; exact h11 ()
  ·refine tb (x := (vb (decide ((List.length a0 : Int) < (List.length a0 : Int))))) (d_lss) ?_; refine tcond_f h25 ?_; exact h6 ()
def an_slices_ContainsFunc_api_Hop_api_Hop : Ann := .seq (.reg 0 [] [] []) (.seq (.reg 0 [] [] []) (.no))
noncomputable def sem_slices_ContainsFunc_api_Hop_api_Hop (E : FuncId → List V → Option V) (n : Nat) (xs : List V) : Option V := if xs.length ≤ 9 then denF Tryz.prog (envJ [(84, (sem_slices_IndexFunc_api_Hop_api_Hop E n))] E) n Tryz.f67 an_slices_ContainsFunc_api_Hop_api_Hop xs else none
theorem ok_slices_ContainsFunc_api_Hop_api_Hop {E : FuncId → List V → Option V} (hE : EnvOk Tryz.prog DW E) (n : Nat) : SemOk Tryz.prog DW 67 (sem_slices_ContainsFunc_api_Hop_api_Hop E n) := fun xs y h => by
 unfold sem_slices_ContainsFunc_api_Hop_api_Hop at h
 split at h
 ·rename_i hl
  exact denF_ok stb Tryz.func67 (by kernel_rfl) (envJ_ok (semsOk_cons (ok_slices_IndexFunc_api_Hop_api_Hop hE n) semsOk_nil) hE) (by rw [Tryz.ntmps67]; exact hl) h
 ·cases h
theorem eq_slices_ContainsFunc_api_Hop_api_Hop (E : FuncId → List V → Option V) (n : Nat) (x0 x1 : V) : sem_slices_ContainsFunc_api_Hop_api_Hop E n [x0, x1] =
 ((sem_slices_IndexFunc_api_Hop_api_Hop E n) [x0, x1]).bind fun v1 =>
 (bin2 Tryz.prog BinOp.geq 3 (ot 7) (oc 0) v1 (vi 0)).bind fun v2 =>
 some v2 := by kernel_rfl
noncomputable def t_slices_ContainsFunc_api_Hop_api_Hop (a0 : (List T_Hop)) (g1 : T_Hop → Option Bool) : Option Bool :=
 (t_slices_IndexFunc_api_Hop_api_Hop a0 g1).bind fun r2 =>
 some (decide (0 ≤ r2))
theorem ty_slices_ContainsFunc_api_Hop_api_Hop {E : FuncId → List V → Option V} {n : Nat} (hn : bigN ≤ n) (a0 : (List T_Hop)) {x1 : V} {g1 : T_Hop → Option Bool} (hg_g1 : ∀ a0, Rv (fun x : Bool => (vb x)) (callV E x1 [(T_Hop.e a0)]) (g1 a0)) : Rv (fun x : Bool => (vb x)) (sem_slices_ContainsFunc_api_Hop_api_Hop E n [(V.sl (List.map T_Hop.c a0)), x1]) (t_slices_ContainsFunc_api_Hop_api_Hop a0 g1) := by
 rw [eq_slices_ContainsFunc_api_Hop_api_Hop]
 unfold t_slices_ContainsFunc_api_Hop_api_Hop; refine tbo (ty_slices_IndexFunc_api_Hop_api_Hop (E := E) (x1 := x1) (g1 := g1) hn a0 hg_g1) fun r2 => ?_; refine tb (x := (vb (decide (0 ≤ r2)))) (d_geq) ?_; exact rf_ret rfl
def an_wish_Fits_1 : Ann := .seq (.reg 0 [] [] []) (.seq (.reg 0 [] [] []) (.no))
noncomputable def sem_wish_Fits_1 (n : Nat) (xs : List V) : Option V := if xs.length ≤ 10 then denF Tryz.prog (envOf []) n Tryz.f68 an_wish_Fits_1 xs else none
theorem ok_wish_Fits_1 (n : Nat) : SemOk Tryz.prog DW 68 (sem_wish_Fits_1 n) := fun xs y h => by
 unfold sem_wish_Fits_1 at h
 split at h
 ·rename_i hl
  exact denF_ok stb Tryz.func68 (by kernel_rfl) (envOf_ok semsOk_nil) (by rw [Tryz.ntmps68]; exact hl) h
 ·cases h
theorem eq_wish_Fits_1 (n : Nat) (x0 x1 : V) : sem_wish_Fits_1 n [x0, x1] =
 (V.cellsO x0).bind fun v1 =>
 (ldk none (List.drop 0 v1)).bind fun v2 =>
 (ptrF 3 x1).bind fun v3 =>
 (ldp none v3).bind fun v4 =>
 (bin2 Tryz.prog BinOp.eql 3 (ot 6) (ot 8) v2 v4).bind fun v5 =>
 some v5 := by kernel_rfl
noncomputable def t_wish_Fits_1 (a0 : T_Hop) (a1 : T_Wish) : Option Bool :=
 some (decide (a0.At.Switch = a1.Via))
theorem ty_wish_Fits_1 {n : Nat} (hn : bigN ≤ n) (a0 : T_Hop) (a1 : T_Wish) : Rv (fun x : Bool => (vb x)) (sem_wish_Fits_1 n [(T_Hop.e a0), (V.ptr (T_Wish.c a1))]) (t_wish_Fits_1 a0 a1) := by
 rw [eq_wish_Fits_1]
 unfold t_wish_Fits_1; refine tb (x := (T_Hop.c a0)) rfl ?_; refine tb (x := (vi a0.At.Switch)) (rfl) ?_; refine tb (x := (V.ptr (List.drop 3 (T_Wish.c a1)))) (rfl) ?_; refine tb (x := (vi a1.Via)) (rfl) ?_; refine tb (x := (vb (decide (a0.At.Switch = a1.Via)))) (d_eql) ?_; exact rf_ret rfl
def an_wish_Fits : Ann := .seq (.reg 0 [] [] []) (.seq (.reg 0 [3] [] []) (.seq (.blk none (.seq (.reg 0 [] [] []) (.cond none (.seq (.reg 0 [] [] []) (.no)) (.seq (.reg 0 [] [] []) (.cond none (.seq (.reg 0 [] [] []) (.no)) (.seq (.reg 0 [] [] []) (.cond none (.seq (.reg 0 [] [] []) (.no)) (.seq (.reg 0 [] [] []) (.cond none (.seq (.reg 0 [] [] []) (.no)) (.seq (.reg 0 [] [] []) (.cond none (.seq (.reg 0 [] [] []) (.no)) (.no)))))))))))) (.seq (.reg 0 [] [] []) (.no))))
noncomputable def sem_wish_Fits (n : Nat) (xs : List V) : Option V := if xs.length ≤ 53 then denF Tryz.prog (envOf [(67, (sem_slices_ContainsFunc_api_Hop_api_Hop (envOf [(68, (sem_wish_Fits_1 n))]) n)), (68, (sem_wish_Fits_1 n))]) n Tryz.f31 an_wish_Fits xs else none
theorem ok_wish_Fits (n : Nat) : SemOk Tryz.prog DW 31 (sem_wish_Fits n) := fun xs y h => by
 unfold sem_wish_Fits at h
 split at h
 ·rename_i hl
  exact denF_ok stb Tryz.func31 (by kernel_rfl) (envOf_ok (semsOk_cons (ok_slices_ContainsFunc_api_Hop_api_Hop (envOf_ok (semsOk_cons (ok_wish_Fits_1 n) semsOk_nil)) n) (semsOk_cons (ok_wish_Fits_1 n) semsOk_nil))) (by rw [Tryz.ntmps31]; exact hl) h
 ·cases h
theorem eq_wish_Fits (n : Nat) (x0 x1 x2 : V) : sem_wish_Fits n [x0, x1, x2] =
 (V.cellsO x0).bind fun v1 =>
 (V.cellsO x2).bind fun v2 =>
 (ldk none (List.drop 0 v2)).bind fun v3 =>
 (bin2 Tryz.prog BinOp.eql 3 (ot 9) (oc 1) v3 (vi 1)).bind fun v4 =>
 (guardV v4 true (some V.any)).bind fun v5 =>
 (guardV v4 true ((gate v4 true (ldk none (List.drop 1 v2))).bind fun v6 =>
 some v6)).bind fun v7 =>
 (guardV v4 true ((ptrF 2 (V.ptr v1)).bind fun v8 =>
 some v8)).bind fun v9 =>
 (guardV v4 true ((ldp none v9).bind fun v10 =>
 some v10)).bind fun v11 =>
 (guardV v4 true ((bin2 Tryz.prog BinOp.eql 9 (ot 13) (ot 15) v7 v11).bind fun v12 =>
 some v12)).bind fun v13 =>
 (pickV v4 v13 (vb false)).bind fun v14 =>
 (ptrF 0 (V.ptr v1)).bind fun v15 =>
 (ldp none v15).bind fun v16 =>
 (bin2 Tryz.prog BinOp.eql 3 (ot 20) (oc 4) v16 (vi 4)).bind fun v17 =>
 condV v17 (
 (ldk none (List.drop 0 v2)).bind fun v18 =>
 (bin2 Tryz.prog BinOp.neq 3 (ot 23) (oc 4) v18 (vi 4)).bind fun v19 =>
 some v19) (
 (ptrF 1 (V.ptr v1)).bind fun v20 =>
 (ldp none v20).bind fun v21 =>
 (bin2 Tryz.prog BinOp.neq 9 (ot 26) (ot 28) x1 v21).bind fun v22 =>
 condV v22 (
 some (vb true)) (
 (ptrF 0 (V.ptr v1)).bind fun v23 =>
 (ldp none v23).bind fun v24 =>
 (bin2 Tryz.prog BinOp.eql 3 (ot 32) (oc 1) v24 (vi 1)).bind fun v25 =>
 condV v25 (
 some v14) (
 (ptrF 0 (V.ptr v1)).bind fun v26 =>
 (ldp none v26).bind fun v27 =>
 (bin2 Tryz.prog BinOp.eql 3 (ot 37) (oc 2) v27 (vi 2)).bind fun v28 =>
 condV v28 (
 (scal1 Tryz.prog (Op.unary Go.UnOp.not) v14).bind fun v29 =>
 some v29) (
 (ptrF 0 (V.ptr v1)).bind fun v30 =>
 (ldp none v30).bind fun v31 =>
 (bin2 Tryz.prog BinOp.eql 3 (ot 43) (oc 3) v31 (vi 3)).bind fun v32 =>
 condV v32 (
 (scal1 Tryz.prog (Op.unary Go.UnOp.not) v14).bind fun v33 =>
 (guardV v33 false (some V.any)).bind fun v34 =>
 (guardV v33 false ((gate v33 false (ldk none (List.drop 2 v2))).bind fun v35 =>
 some v35)).bind fun v36 =>
 (guardV v33 false (some (V.fn 68 [(V.ptr v1)]))).bind fun v37 =>
 (guardV v33 false (((sem_slices_ContainsFunc_api_Hop_api_Hop (envOf [(68, (sem_wish_Fits_1 n))]) n) [v36, v37]).bind fun v38 =>
 some v38)).bind fun v39 =>
 (pickV v33 (vb true) v39).bind fun v40 =>
 some v40) (
 some (vb true)))))) := by kernel_rfl
noncomputable def t_wish_Fits (a0 : T_Wish) (a1 : ByteArray) (a2 : T_Fate) : Option Bool :=
 if (decide (a0.What = 4)) = true then (
 some (decide (a2.How ≠ 4))) else (
 if (!decide (a1 = a0.From)) = true then (
 some true) else (
 if (decide (a0.What = 1)) = true then (
 some ((decide (a2.How = 1)) && (decide (a2.Host = a0.To)))) else (
 if (decide (a0.What = 2)) = true then (
 some (!((decide (a2.How = 1)) && (decide (a2.Host = a0.To))))) else (
 if (decide (a0.What = 3)) = true then (
 (gd (!(!((decide (a2.How = 1)) && (decide (a2.Host = a0.To))))) default (t_slices_ContainsFunc_api_Hop_api_Hop a2.Hops (fun (a52 : T_Hop) => t_wish_Fits_1 a52 a0))).bind fun r55 =>
 some ((!((decide (a2.How = 1)) && (decide (a2.Host = a0.To)))) || r55)) else (
 some true)))))
theorem ty_wish_Fits {n : Nat} (hn : bigN ≤ n) (a0 : T_Wish) (a1 : ByteArray) (a2 : T_Fate) : Rv (fun x : Bool => (vb x)) (sem_wish_Fits n [(T_Wish.e a0), (vt a1), (T_Fate.e a2)]) (t_wish_Fits a0 a1 a2) := by
 rw [eq_wish_Fits]
 unfold t_wish_Fits; refine tb (x := (T_Wish.c a0)) rfl ?_; refine tb (x := (T_Fate.c a2)) rfl ?_; refine tb (x := (vi a2.How)) (rfl) ?_; refine tb (x := (vb (decide (a2.How = 1)))) (d_eql) ?_; refine tg (x := V.any) (fun h5 => rfl) ?_; refine tg (x := (vt a2.Host)) (fun h7 => bind_some_eq (gate_pos h7 (rfl))) ?_; refine tg (x := (V.ptr (List.drop 2 (T_Wish.c a0)))) (fun h10 => bind_some_eq (rfl)) ?_; refine tg (x := (vt a0.To)) (fun h13 => by first | exact bind_some_eq (rfl) | (simp only [gv_t h13]; exact bind_some_eq (rfl))) ?_; refine tg (x := (vb (decide (a2.Host = a0.To)))) (fun h16 => by simp only [gv_t h16]; exact bind_some_eq (p_eql_str)) ?_; refine tb (x := (vb ((decide (a2.How = 1)) && (decide (a2.Host = a0.To))))) (pick_and (fun h9 => gv_t h9)) ?_; refine tb (x := (V.ptr (T_Wish.c a0))) (rfl) ?_; refine tb (x := (vi a0.What)) (rfl) ?_; refine tb (x := (vb (decide (a0.What = 4)))) (d_eql) ?_; refine tcond (fun h23 => ?_) (fun h23 => ?_)
 ·refine tb (x := (vi a2.How)) (rfl) ?_; refine tb (x := (vb (decide (a2.How ≠ 4)))) (d_neq) ?_; exact rf_ret rfl
 ·refine tb (x := (V.ptr (List.drop 1 (T_Wish.c a0)))) (rfl) ?_; refine tb (x := (vt a0.From)) (rfl) ?_; refine tb (x := (vb (!decide (a1 = a0.From)))) (p_neq_str) ?_; refine tcond (fun h29 => ?_) (fun h29 => ?_)
  ·exact rf_ret rfl
  ·refine tb (x := (V.ptr (T_Wish.c a0))) (rfl) ?_; refine tb (x := (vi a0.What)) (rfl) ?_; refine tb (x := (vb (decide (a0.What = 1)))) (d_eql) ?_; refine tcond (fun h33 => ?_) (fun h33 => ?_)
   ·exact rf_ret rfl
   ·refine tb (x := (V.ptr (T_Wish.c a0))) (rfl) ?_; refine tb (x := (vi a0.What)) (rfl) ?_; refine tb (x := (vb (decide (a0.What = 2)))) (d_eql) ?_; refine tcond (fun h37 => ?_) (fun h37 => ?_)
    ·refine tb (x := (vb (!((decide (a2.How = 1)) && (decide (a2.Host = a0.To)))))) (d_not) ?_; exact rf_ret rfl
    ·refine tb (x := (V.ptr (T_Wish.c a0))) (rfl) ?_; refine tb (x := (vi a0.What)) (rfl) ?_; refine tb (x := (vb (decide (a0.What = 3)))) (d_eql) ?_; refine tcond (fun h42 => ?_) (fun h42 => ?_)
     ·refine tb (x := (vb (!((decide (a2.How = 1)) && (decide (a2.Host = a0.To)))))) (d_not) ?_; refine tg_f (x := V.any) (fun h44 => rfl) ?_; refine tg_f (x := (V.sl (List.map T_Hop.c a2.Hops))) (fun h46 => bind_some_eq (gate_pos (not_t h46) (rfl))) ?_; refine tg_f (x := (V.fn 68 [(V.ptr (T_Wish.c a0))])) (fun h49 => rfl) ?_; refine tgo_f (fun h51 => by simp only [gv_t h51]; exact rf_bind_some (ty_slices_ContainsFunc_api_Hop_api_Hop (E := (envOf [(68, (sem_wish_Fits_1 n))])) (x1 := (V.fn 68 [(V.ptr (T_Wish.c a0))])) (g1 := (fun (a52 : T_Hop) => t_wish_Fits_1 a52 a0)) hn a2.Hops (fun a52 => ty_wish_Fits_1 hn a52 a0))) fun r55 => ?_; refine tb (x := (vb ((!((decide (a2.How = 1)) && (decide (a2.Host = a0.To)))) || r55))) (pick_or (fun h9 => gv_t (not_f h9))) ?_; exact rf_ret rfl
     ·exact rf_ret rfl
def an_wish_Seek_1 : Ann := .seq (.reg 0 [] [] []) (.seq (.reg 0 [] [] []) (.no))
noncomputable def sem_wish_Seek_1 (n : Nat) (xs : List V) : Option V := if xs.length ≤ 11 then denF Tryz.prog (envOf [(31, (sem_wish_Fits n))]) n Tryz.f81 an_wish_Seek_1 xs else none
theorem ok_wish_Seek_1 (n : Nat) : SemOk Tryz.prog DW 81 (sem_wish_Seek_1 n) := fun xs y h => by
 unfold sem_wish_Seek_1 at h
 split at h
 ·rename_i hl
  exact denF_ok stb Tryz.func81 (by kernel_rfl) (envOf_ok (semsOk_cons (ok_wish_Fits n) semsOk_nil)) (by rw [Tryz.ntmps81]; exact hl) h
 ·cases h
theorem eq_wish_Seek_1 (n : Nat) (x0 x1 x2 : V) : sem_wish_Seek_1 n [x0, x1, x2] =
 (V.cellsO x0).bind fun v1 =>
 (ldp (some 4) x1).bind fun v2 =>
 (ptrF 0 x2).bind fun v3 =>
 (ldp none v3).bind fun v4 =>
 (ldk (some 3) (List.drop 0 v1)).bind fun v5 =>
 ((sem_wish_Fits n) [v2, v4, v5]).bind fun v6 =>
 (scal1 Tryz.prog (Op.unary Go.UnOp.not) v6).bind fun v7 =>
 some v7 := by kernel_rfl
noncomputable def t_wish_Seek_1 (a0 : T_Fate) (a1 : T_Wish) (a2 : T_Host) : Option Bool :=
 (t_wish_Fits a1 a2.Name a0).bind fun r7 =>
 some (!r7)
theorem ty_wish_Seek_1 {n : Nat} (hn : bigN ≤ n) (a0 : T_Fate) (a1 : T_Wish) (a2 : T_Host) : Rv (fun x : Bool => (vb x)) (sem_wish_Seek_1 n [(T_Fate.e a0), (V.ptr (T_Wish.c a1)), (V.ptr (T_Host.c a2))]) (t_wish_Seek_1 a0 a1 a2) := by
 rw [eq_wish_Seek_1]
 unfold t_wish_Seek_1; refine tb (x := (T_Fate.c a0)) rfl ?_; refine tb (x := (T_Wish.e a1)) (rfl) ?_; refine tb (x := (V.ptr (T_Host.c a2))) (rfl) ?_; refine tb (x := (vt a2.Name)) (rfl) ?_; refine tb (x := (T_Fate.e a0)) (rfl) ?_; refine tbo (ty_wish_Fits hn a1 a2.Name a0) fun r7 => ?_; refine tb (x := (vb (!r7))) (d_not) ?_; exact rf_ret rfl
def an_wish_Seek : Ann := .seq (.reg 0 [] [] []) (.seq (.seq (.reg 0 [] [] []) (.blk (some [.b 6]) (.loop [.kb 3, .b 6, .s 15] (.seq (.reg 0 [] [] []) (.seq (.cond none (.no) (.no)) (.seq (.blk (some [.kb 3, .b 6]) (.seq (.reg 0 [] [] []) (.seq (.reg 0 [9] [] []) (.blk (some [.kb 3, .b 6]) (.loop [.kb 3, .b 6, .s 23] (.seq (.reg 0 [] [] []) (.seq (.cond none (.no) (.no)) (.seq (.blk (some [.kb 3, .b 6]) (.seq (.reg 0 [] [] []) (.seq (.seq (.reg 0 [11] [] []) (.cond none (.no) (.no))) (.seq (.reg 0 [] [] []) (.blk (some [.kb 3, .b 6]) (.loop [.kb 3, .b 6, .s 37] (.seq (.reg 0 [] [] []) (.seq (.cond none (.no) (.no)) (.seq (.blk none (.seq (.reg 0 [] [] []) (.seq (.reg 0 [] [] []) (.cond none (.seq (.reg 0 [] [] []) (.no)) (.no))))) (.reg 0 [] [] [])))))))))) (.reg 0 [] [] []))))))))) (.reg 0 [] [] []))))))) (.seq (.reg 0 [] [] []) (.no)))
noncomputable def sem_wish_Seek (E : FuncId → List V → Option V) (n : Nat) (xs : List V) : Option V := if xs.length ≤ 55 then denF Tryz.prog (envJ [(80, (sem_slices_ContainsFunc_api_Fate_api_Fate (envOf [(81, (sem_wish_Seek_1 n))]) n))] E) n Tryz.f64 an_wish_Seek xs else none
theorem ok_wish_Seek {E : FuncId → List V → Option V} (hE : EnvOk Tryz.prog DW E) (n : Nat) : SemOk Tryz.prog DW 64 (sem_wish_Seek E n) := fun xs y h => by
 unfold sem_wish_Seek at h
 split at h
 ·rename_i hl
  exact denF_ok stb Tryz.func64 (by kernel_rfl) (envJ_ok (semsOk_cons (ok_slices_ContainsFunc_api_Fate_api_Fate (envOf_ok (semsOk_cons (ok_wish_Seek_1 n) semsOk_nil)) n) semsOk_nil) hE) (by rw [Tryz.ntmps64]; exact hl) h
 ·cases h
theorem eq_wish_Seek (E : FuncId → List V → Option V) (n : Nat) (x0 x1 x2 : V) : sem_wish_Seek E n [x0, x1, x2] =
 (V.cellsO x0).bind fun v1 =>
 (lenS [x1]).bind fun v2 =>
 JoinPt (fun vs3 =>
 ((fillL [(vi 0), (vt ⟨#[]⟩), (vi 0)] []).map V.agg).bind fun v5 =>
 (spliceV (aggL (List.getD vs3 0 V.any)) 0 3 v5).bind fun v6 =>
 (ldk (some 3) (List.drop 0 (aggL v6))).bind fun v7 =>
 some (V.tup [v7, (vb false)])) fun J4 =>
 (keepO (some v1) (some v1) (some [(V.agg [(vi 0), (vt ⟨#[]⟩), (vi 0)]), (vi 0)])).bind (fixN (fun rec8 vs9 =>
 (bin2 Tryz.prog BinOp.lss 3 (ot 15) (ot 14) (List.getD vs9 1 V.any) v2).bind fun v10 =>
 condV v10 (
 JoinPt (fun vs11 =>
 (bin2 Tryz.prog BinOp.add 3 (ot 15) (oc 1) (List.getD vs9 1 V.any) (vi 1)).bind fun v13 =>
 (keepO (some v1) (some v1) (some [(V.agg (aggL (List.getD vs11 0 V.any))), v13])).bind rec8) fun J12 =>
 (idxS 4 x1 (List.getD vs9 1 V.any)).bind fun v14 =>
 (ldp (some 4) v14).bind fun v15 =>
 (spliceV [(vi 0), (vt ⟨#[]⟩), (vt ⟨#[]⟩), (vi 0)] 0 4 v15).bind fun v16 =>
 (ldk none (List.drop 2 v1)).bind fun v17 =>
 (lenS [v17]).bind fun v18 =>
 JoinPt (fun vs19 =>
 (keepO (some v1) (some v1) (some [(V.agg (aggL (List.getD vs19 0 V.any)))])).bind J12) fun J20 =>
 (keepO (some v1) (some v1) (some [(V.agg (aggL (List.getD vs9 0 V.any))), (vi 0)])).bind (fixN (fun rec21 vs22 =>
 (bin2 Tryz.prog BinOp.lss 3 (ot 23) (ot 22) (List.getD vs22 1 V.any) v18).bind fun v23 =>
 condV v23 (
 JoinPt (fun vs24 =>
 (bin2 Tryz.prog BinOp.add 3 (ot 23) (oc 1) (List.getD vs22 1 V.any) (vi 1)).bind fun v26 =>
 (keepO (some v1) (some v1) (some [(V.agg (aggL (List.getD vs24 0 V.any))), v26])).bind rec21) fun J25 =>
 (idxS 3 v17 (List.getD vs22 1 V.any)).bind fun v27 =>
 (ldp (some 3) v27).bind fun v28 =>
 (spliceV [(vt ⟨#[]⟩), (vi 0), (vi 0)] 0 3 v28).bind fun v29 =>
 (ptrF 0 (V.ptr (aggL v16))).bind fun v30 =>
 (ldp none v30).bind fun v31 =>
 (bin2 Tryz.prog BinOp.neq 3 (ot 28) (oc 4) v31 (vi 4)).bind fun v32 =>
 (guardV v32 true ((ptrF 0 (V.ptr (aggL v29))).bind fun v33 =>
 some v33)).bind fun v34 =>
 (guardV v32 true ((ldp none v34).bind fun v35 =>
 some v35)).bind fun v36 =>
 (guardV v32 true ((ptrF 1 (V.ptr (aggL v16))).bind fun v37 =>
 some v37)).bind fun v38 =>
 (guardV v32 true ((ldp none v38).bind fun v39 =>
 some v39)).bind fun v40 =>
 (guardV v32 true ((bin2 Tryz.prog BinOp.neq 9 (ot 32) (ot 34) v36 v40).bind fun v41 =>
 some v41)).bind fun v42 =>
 (pickV v32 v42 (vb false)).bind fun v43 =>
 condV v43 (
 (keepO (some v1) (some v1) (some [(V.agg (aggL (List.getD vs22 0 V.any)))])).bind J25) (
 JoinPt (fun vs44 =>
 (keepO (some v1) (some v1) (some [(V.agg (aggL (List.getD vs44 0 V.any)))])).bind J25) fun J45 =>
 (keepO (some v1) (some v1) (some [(V.agg (aggL (List.getD vs22 0 V.any))), (vi 0)])).bind (fixN (fun rec46 vs47 =>
 (bin2 Tryz.prog BinOp.lss 3 (ot 37) (oc 16) (List.getD vs47 1 V.any) (vi 16)).bind fun v48 =>
 condV v48 (
 (ldp (some 3) (V.ptr (aggL v29))).bind fun v49 =>
 (callV (envJ [(80, (sem_slices_ContainsFunc_api_Fate_api_Fate (envOf [(81, (sem_wish_Seek_1 n))]) n))] E) x2 [v49, (List.getD vs47 1 V.any)]).bind fun v50 =>
 ((sem_slices_ContainsFunc_api_Fate_api_Fate (envOf [(81, (sem_wish_Seek_1 n))]) n) [v50, (V.fn 81 [(V.ptr (aggL v16)), (V.ptr (aggL v29))])]).bind fun v51 =>
 condV v51 (
 (ptrF 0 (V.ptr (aggL v29))).bind fun v52 =>
 (ldp none v52).bind fun v53 =>
 ((fillL [(vi 0), (vt ⟨#[]⟩), (vi 0)] [(0, 1, (List.getD vs9 1 V.any)), (1, 1, v53), (2, 1, (List.getD vs47 1 V.any))]).map V.agg).bind fun v54 =>
 (spliceV (aggL (List.getD vs47 0 V.any)) 0 3 v54).bind fun v55 =>
 (ldk (some 3) (List.drop 0 (aggL v55))).bind fun v56 =>
 some (V.tup [v56, (vb true)])) (
 (bin2 Tryz.prog BinOp.add 3 (ot 37) (oc 1) (List.getD vs47 1 V.any) (vi 1)).bind fun v57 =>
 (keepO (some v1) (some v1) (some [(V.agg (aggL (List.getD vs47 0 V.any))), v57])).bind rec46)) (
 (keepO (some v1) (some v1) (some [(V.agg (aggL (List.getD vs47 0 V.any)))])).bind J45)) n))) (
 (keepO (some v1) (some v1) (some [(V.agg (aggL (List.getD vs22 0 V.any)))])).bind J20)) n)) (
 J4 [(V.agg (aggL (List.getD vs9 0 V.any)))])) n) := by kernel_rfl
noncomputable def t_wish_Seek (a0 : T_Topo) (a1 : (List T_Wish)) (g2 : T_Host → Int → Option (List T_Fate)) : Option (T_PProof × Bool) :=
 join (fun (s5 : T_PProof) =>
 some ((T_PProof.mk 0 (ByteArray.mk #[]) 0), false)) fun j6 =>
 loopI a1 (fun (i17 : Int) x18 (s13 : T_PProof) k14 =>
 join (fun (s25 : T_PProof) =>
 k14 (s25)) fun j26 =>
 join (fun (s36 : T_PProof) =>
 j26 (s36)) fun j37 =>
 loopI a0.Hosts (fun (i45 : Int) x46 (s41 : T_PProof) k42 =>
 join (fun (s53 : T_PProof) =>
 k42 (s53)) fun j54 =>
 if ((decide (x18.What ≠ 4)) && (!decide (x46.Name = x18.From))) = true then (
 j54 (s41)) else (
 join (fun (s82 : T_PProof) =>
 j54 (s82)) fun j83 =>
 loopU 0 16 (fun (i91 : Int) (s87 : Unit) k88 =>
 (g2 x46 i91).bind fun r100 =>
 (t_slices_ContainsFunc_api_Fate_api_Fate r100 (fun (a101 : T_Fate) => t_wish_Seek_1 a101 x18 x46)).bind fun r103 =>
 if r103 = true then (
 some ((T_PProof.mk i17 x46.Name i91), true)) else (
 k88 ())) (fun (i91 : Int) (s87 : Unit) =>
 j83 (s41)) ())) (fun (s41 : T_PProof) =>
 j37 (s41)) (s13)) (fun (s13 : T_PProof) =>
 j6 (s13)) (T_PProof.mk 0 (ByteArray.mk #[]) 0)
theorem ty_wish_Seek {E : FuncId → List V → Option V} {n : Nat} (hn : bigN ≤ n) (a0 : T_Topo) (a1 : (List T_Wish)) {x2 : V} {g2 : T_Host → Int → Option (List T_Fate)} (hg_g2 : ∀ a0 a1, Rv (fun x : (List T_Fate) => (V.sl (List.map T_Fate.c x))) (callV E x2 [(T_Host.e a0), (vi a1)]) (g2 a0 a1)) (hl_g2 : ∀ xs, callV (envJ [(80, (sem_slices_ContainsFunc_api_Fate_api_Fate (envOf [(81, (sem_wish_Seek_1 n))]) n))] E) x2 xs = callV E x2 xs) : Rv (fun x : (T_PProof × Bool) => V.tup [(T_PProof.e x.1), (vb x.2)]) (sem_wish_Seek E n [(T_Topo.e a0), (V.sl (List.map T_Wish.c a1)), x2]) (t_wish_Seek a0 a1 g2) := by
 rw [eq_wish_Seek]
 unfold t_wish_Seek; refine tb (x := (T_Topo.c a0)) rfl ?_; refine tb (x := (vi (List.length a1 : Int))) (p_len _) ?_; refine tjoin (mk := fun s5 : T_PProof => [(V.agg (T_PProof.c s5))]) (fun s5 => ?_) fun J4 j6 h7 => ?_
 ·refine tb (x := (T_PProof.e (T_PProof.mk 0 (ByteArray.mk #[]) 0))) (by kernel_rfl) ?_; refine tb (x := V.agg (T_PProof.c (T_PProof.mk 0 (ByteArray.mk #[]) 0))) (by kernel_rfl) ?_; refine tb (x := (T_PProof.e (T_PProof.mk 0 (ByteArray.mk #[]) 0))) rfl ?_; exact rf_ret rfl
 ·refine tkeepO2 ?_ rfl; refine tsome ?_; refine rf_loopI (mk := fun (i17 : Int) (s13 : T_PProof) => [(V.agg (T_PProof.c s13)), (vi (i17 : Int))]) hn a1 (T_PProof.mk 0 (ByteArray.mk #[]) 0) (fun i17 x18 h19 h20 h21 s13 rec11 k14 h15 => ?_) (fun s13 rec116 h115 => ?_)
  ·refine tb (x := (vb (decide ((i17 : Int) < (List.length a1 : Int))))) (d_lss) ?_; refine tcond_t h21 ?_; refine tjoin (mk := fun s25 : T_PProof => [(V.agg (T_PProof.c s25))]) (fun s25 => ?_) fun J24 j26 h27 => ?_
   ·refine tb (x := (vi ((i17 : Int) + 1))) (p_incN h20) ?_; refine tkeepO2 ?_ rfl; refine tsome ?_; exact h15 (s25)
   ·refine tb (x := (V.ptr (T_Wish.c x18))) (p_idx_at (c := T_Wish.c) (fun _ => rfl) h19) ?_; refine tb (x := (T_Wish.e x18)) (rfl) ?_; refine tb (x := V.agg (T_Wish.c x18)) (by kernel_rfl) ?_; refine tb (x := (V.sl (List.map T_Host.c a0.Hosts))) (rfl) ?_; refine tb (x := (vi (List.length a0.Hosts : Int))) (p_len _) ?_; refine tjoin (mk := fun s36 : T_PProof => [(V.agg (T_PProof.c s36))]) (fun s36 => ?_) fun J35 j37 h38 => ?_
    ·refine tkeepO2 ?_ rfl; refine tsome ?_; exact h27 (s36)
    ·refine tkeepO2 ?_ rfl; refine tsome ?_; refine rf_loopI (mk := fun (i45 : Int) (s41 : T_PProof) => [(V.agg (T_PProof.c s41)), (vi (i45 : Int))]) hn a0.Hosts (s13) (fun i45 x46 h47 h48 h49 s41 rec39 k42 h43 => ?_) (fun s41 rec113 h112 => ?_)
     ·refine tb (x := (vb (decide ((i45 : Int) < (List.length a0.Hosts : Int))))) (d_lss) ?_; refine tcond_t h49 ?_; refine tjoin (mk := fun s53 : T_PProof => [(V.agg (T_PProof.c s53))]) (fun s53 => ?_) fun J52 j54 h55 => ?_
      ·refine tb (x := (vi ((i45 : Int) + 1))) (p_incN h48) ?_; refine tkeepO2 ?_ rfl; refine tsome ?_; exact h43 (s53)
      ·refine tb (x := (V.ptr (T_Host.c x46))) (p_idx_at (c := T_Host.c) (fun _ => rfl) h47) ?_; refine tb (x := (T_Host.e x46)) (rfl) ?_; refine tb (x := V.agg (T_Host.c x46)) (by kernel_rfl) ?_; refine tb (x := (V.ptr (T_Wish.c x18))) (rfl) ?_; refine tb (x := (vi x18.What)) (rfl) ?_; refine tb (x := (vb (decide (x18.What ≠ 4)))) (d_neq) ?_; refine tg (x := (V.ptr (T_Host.c x46))) (fun h63 => bind_some_eq (rfl)) ?_; refine tg (x := (vt x46.Name)) (fun h66 => by first | exact bind_some_eq (rfl) | (simp only [gv_t h66]; exact bind_some_eq (rfl))) ?_; refine tg (x := (V.ptr (List.drop 1 (T_Wish.c x18)))) (fun h69 => bind_some_eq (rfl)) ?_; refine tg (x := (vt x18.From)) (fun h72 => by first | exact bind_some_eq (rfl) | (simp only [gv_t h72]; exact bind_some_eq (rfl))) ?_; refine tg (x := (vb (!decide (x46.Name = x18.From)))) (fun h75 => by simp only [gv_t h75]; exact bind_some_eq (p_neq_str)) ?_; refine tb (x := (vb ((decide (x18.What ≠ 4)) && (!decide (x46.Name = x18.From))))) (pick_and (fun h9 => gv_t h9)) ?_; refine tcond (fun h79 => ?_) (fun h79 => ?_)
       ·refine tkeepO2 ?_ rfl; refine tsome ?_; exact h55 (s41)
       ·refine tjoin (mk := fun s82 : T_PProof => [(V.agg (T_PProof.c s82))]) (fun s82 => ?_) fun J81 j83 h84 => ?_
        ·refine tkeepO2 ?_ rfl; refine tsome ?_; exact h55 (s82)
        ·refine tkeepO2 ?_ rfl; refine tsome ?_; refine rf_loopU (mk := fun (i91 : Int) (s87 : Unit) => [(V.agg (T_PProof.c s41)), (vi i91)]) hn _ _ () (fun i91 h92 h93 h94 s87 rec85 k88 h89 => ?_) (fun i91 s87 rec96 h95 => ?_)
         ·refine tb (x := (vb (decide (i91 < 16)))) (d_lss) ?_; refine tcond_t h92 ?_; refine tb (x := (T_Host.e x46)) (rfl) ?_; refine tbo ((by rw [hl_g2]; exact hg_g2 x46 i91)) fun r100 => ?_; refine tbo (ty_slices_ContainsFunc_api_Fate_api_Fate (E := (envOf [(81, (sem_wish_Seek_1 n))])) (x1 := (V.fn 81 [(V.ptr (T_Wish.c x18)), (V.ptr (T_Host.c x46))])) (g1 := (fun (a101 : T_Fate) => t_wish_Seek_1 a101 x18 x46)) hn r100 (fun a101 => ty_wish_Seek_1 hn a101 x18 x46)) fun r103 => ?_; refine tcond (fun h104 => ?_) (fun h104 => ?_)
          ·refine tb (x := (V.ptr (T_Host.c x46))) (rfl) ?_; refine tb (x := (vt x46.Name)) (rfl) ?_; refine tb (x := (T_PProof.e (T_PProof.mk (i17 : Int) x46.Name i91))) (by kernel_rfl) ?_; refine tb (x := V.agg (T_PProof.c (T_PProof.mk (i17 : Int) x46.Name i91))) (by kernel_rfl) ?_; refine tb (x := (T_PProof.e (T_PProof.mk (i17 : Int) x46.Name i91))) rfl ?_; exact rf_ret rfl
          ·refine tb (x := (vi (i91 + 1))) (p_inc h93 h94) ?_; refine tkeepO2 ?_ rfl; refine tsome ?_; exact h89 ()
         ·refine tb (x := (vb (decide (i91 < 16)))) (d_lss) ?_; refine tcond_f h95 ?_; refine tkeepO2 ?_ rfl; refine tsome ?_; exact h84 (s41)
     ·refine tb (x := (vb (decide ((List.length a0.Hosts : Int) < (List.length a0.Hosts : Int))))) (d_lss) ?_; refine tcond_f h112 ?_; refine tkeepO2 ?_ rfl; refine tsome ?_; exact h38 (s41)
  ·refine tb (x := (vb (decide ((List.length a1 : Int) < (List.length a1 : Int))))) (d_lss) ?_; refine tcond_f h115 ?_; exact h7 (s13)
def an_net_Begin : Ann := .seq (.reg 0 [] [] []) (.seq (.reg 0 [] [] []) (.no))
noncomputable def sem_net_Begin (n : Nat) (xs : List V) : Option V := if xs.length ≤ 10 then denF Tryz.prog (envOf []) n Tryz.f82 an_net_Begin xs else none
theorem ok_net_Begin (n : Nat) : SemOk Tryz.prog DW 82 (sem_net_Begin n) := fun xs y h => by
 unfold sem_net_Begin at h
 split at h
 ·rename_i hl
  exact denF_ok stb Tryz.func82 (by kernel_rfl) (envOf_ok semsOk_nil) (by rw [Tryz.ntmps82]; exact hl) h
 ·cases h
theorem eq_net_Begin (n : Nat) (x0 x1 : V) : sem_net_Begin n [x0, x1] =
 (V.cellsO x0).bind fun v1 =>
 (ldk (some 2) (List.drop 0 v1)).bind fun v2 =>
 ((fillL [(vi 0), (vi 0), (vi 0)] [(0, 2, v2), (2, 1, x1)]).map V.agg).bind fun v3 =>
 (slcB 3 1 [(vi 0), (vi 0), (vi 0)] [(0, v3)]).bind fun v4 =>
 ((fillL [(vi 0), (vt ⟨#[]⟩), (V.sl [])] [(2, 1, v4)]).map V.agg).bind fun v5 =>
 (spliceV [(vi 0), (vt ⟨#[]⟩), (V.sl [])] 0 3 v5).bind fun v6 =>
 (ldk (some 3) (List.drop 0 (aggL v6))).bind fun v7 =>
 some v7 := by kernel_rfl
noncomputable def t_net_Begin (a0 : T_Spot) (a1 : Int) : Option T_Fate :=
 some (T_Fate.mk 0 (ByteArray.mk #[]) ([(T_Hop.mk a0 a1)] : (List T_Hop)))
theorem ty_net_Begin {n : Nat} (hn : bigN ≤ n) (a0 : T_Spot) (a1 : Int) : Rv (fun x : T_Fate => (T_Fate.e x)) (sem_net_Begin n [(T_Spot.e a0), (vi a1)]) (t_net_Begin a0 a1) := by
 rw [eq_net_Begin]
 unfold t_net_Begin; refine tb (x := (T_Spot.c a0)) rfl ?_; refine tb (x := (T_Spot.e a0)) (rfl) ?_; refine tb (x := (T_Hop.e (T_Hop.mk a0 a1))) (by kernel_rfl) ?_; refine tb (x := (V.sl (List.map T_Hop.c ([(T_Hop.mk a0 a1)] : (List T_Hop))))) (by kernel_rfl) ?_; refine tb (x := (T_Fate.e (T_Fate.mk 0 (ByteArray.mk #[]) ([(T_Hop.mk a0 a1)] : (List T_Hop))))) (by kernel_rfl) ?_; refine tb (x := V.agg (T_Fate.c (T_Fate.mk 0 (ByteArray.mk #[]) ([(T_Hop.mk a0 a1)] : (List T_Hop))))) (by kernel_rfl) ?_; refine tb (x := (T_Fate.e (T_Fate.mk 0 (ByteArray.mk #[]) ([(T_Hop.mk a0 a1)] : (List T_Hop))))) rfl ?_; exact rf_ret rfl
def an_cmp_isNaN_int : Ann := .seq (.reg 0 [] [] []) (.seq (.reg 0 [] [] []) (.no))
noncomputable def sem_cmp_isNaN_int (n : Nat) (xs : List V) : Option V := if xs.length ≤ 6 then denF Tryz.prog (envOf []) n Tryz.f118 an_cmp_isNaN_int xs else none
theorem ok_cmp_isNaN_int (n : Nat) : SemOk Tryz.prog DW 118 (sem_cmp_isNaN_int n) := fun xs y h => by
 unfold sem_cmp_isNaN_int at h
 split at h
 ·rename_i hl
  exact denF_ok stb Tryz.func118 (by kernel_rfl) (envOf_ok semsOk_nil) (by rw [Tryz.ntmps118]; exact hl) h
 ·cases h
theorem eq_cmp_isNaN_int (n : Nat) (x0 : V) : sem_cmp_isNaN_int n [x0] =
 (bin2 Tryz.prog BinOp.neq 3 (ot 3) (ot 4) x0 x0).bind fun v1 =>
 some v1 := by kernel_rfl
noncomputable def t_cmp_isNaN_int (a0 : Int) : Option Bool :=
 some (decide (a0 ≠ a0))
theorem ty_cmp_isNaN_int {n : Nat} (hn : bigN ≤ n) (a0 : Int) : Rv (fun x : Bool => (vb x)) (sem_cmp_isNaN_int n [(vi a0)]) (t_cmp_isNaN_int a0) := by
 rw [eq_cmp_isNaN_int]
 unfold t_cmp_isNaN_int; refine tb (x := (vb (decide (a0 ≠ a0)))) (d_neq) ?_; exact rf_ret rfl
def an_cmp_Compare_int : Ann := .seq (.reg 0 [] [] []) (.seq (.reg 0 [] [] []) (.seq (.reg 0 [] [] []) (.seq (.seq (.reg 0 [] [] []) (.cond none (.seq (.seq (.reg 0 [] [] []) (.cond none (.seq (.reg 0 [] [] []) (.no)) (.no))) (.seq (.reg 0 [] [] []) (.no))) (.no))) (.seq (.seq (.reg 0 [] [] []) (.cond none (.seq (.reg 0 [] [] []) (.no)) (.no))) (.seq (.seq (.reg 0 [] [] []) (.cond none (.seq (.reg 0 [] [] []) (.no)) (.no))) (.seq (.seq (.reg 0 [] [] []) (.cond none (.seq (.reg 0 [] [] []) (.no)) (.no))) (.seq (.reg 0 [] [] []) (.no))))))))
noncomputable def sem_cmp_Compare_int (n : Nat) (xs : List V) : Option V := if xs.length ≤ 20 then denF Tryz.prog (envOf [(118, (sem_cmp_isNaN_int n))]) n Tryz.f94 an_cmp_Compare_int xs else none
theorem ok_cmp_Compare_int (n : Nat) : SemOk Tryz.prog DW 94 (sem_cmp_Compare_int n) := fun xs y h => by
 unfold sem_cmp_Compare_int at h
 split at h
 ·rename_i hl
  exact denF_ok stb Tryz.func94 (by kernel_rfl) (envOf_ok (semsOk_cons (ok_cmp_isNaN_int n) semsOk_nil)) (by rw [Tryz.ntmps94]; exact hl) h
 ·cases h
theorem eq_cmp_Compare_int (n : Nat) (x0 x1 : V) : sem_cmp_Compare_int n [x0, x1] =
 ((sem_cmp_isNaN_int n) [x0]).bind fun v1 =>
 ((sem_cmp_isNaN_int n) [x1]).bind fun v2 =>
 condV v1 (
 condV v2 (
 some (vi 0)) (
 some (vi (-1 : Int)))) (
 condV v2 (
 some (vi 1)) (
 (bin2 Tryz.prog BinOp.lss 3 (ot 14) (ot 15) x0 x1).bind fun v3 =>
 condV v3 (
 some (vi (-1 : Int))) (
 (bin2 Tryz.prog BinOp.gtr 3 (ot 17) (ot 18) x0 x1).bind fun v4 =>
 condV v4 (
 some (vi 1)) (
 some (vi 0))))) := by kernel_rfl
noncomputable def t_cmp_Compare_int (a0 : Int) (a1 : Int) : Option Int :=
 (t_cmp_isNaN_int a0).bind fun r2 =>
 (t_cmp_isNaN_int a1).bind fun r4 =>
 if r2 = true then (
 if r4 = true then (
 some 0) else (
 some (-1 : Int))) else (
 if r4 = true then (
 some 1) else (
 if (decide (a0 < a1)) = true then (
 some (-1 : Int)) else (
 if (decide (a1 < a0)) = true then (
 some 1) else (
 some 0))))
theorem ty_cmp_Compare_int {n : Nat} (hn : bigN ≤ n) (a0 : Int) (a1 : Int) : Rv (fun x : Int => (vi x)) (sem_cmp_Compare_int n [(vi a0), (vi a1)]) (t_cmp_Compare_int a0 a1) := by
 rw [eq_cmp_Compare_int]
 unfold t_cmp_Compare_int; refine tbo (ty_cmp_isNaN_int hn a0) fun r2 => ?_; refine tbo (ty_cmp_isNaN_int hn a1) fun r4 => ?_; refine tcond (fun h5 => ?_) (fun h5 => ?_)
 ·refine tcond (fun h6 => ?_) (fun h6 => ?_)
  ·exact rf_ret rfl
  ·exact rf_ret rfl
 ·refine tcond (fun h7 => ?_) (fun h7 => ?_)
  ·exact rf_ret rfl
  ·refine tb (x := (vb (decide (a0 < a1)))) (d_lss) ?_; refine tcond (fun h9 => ?_) (fun h9 => ?_)
   ·exact rf_ret rfl
   ·refine tb (x := (vb (decide (a1 < a0)))) (d_gtr) ?_; refine tcond (fun h11 => ?_) (fun h11 => ?_)
    ·exact rf_ret rfl
    ·exact rf_ret rfl
def an_cmp_Or_int : Ann := .seq (.reg 0 [] [] []) (.seq (.reg 0 [] [] []) (.seq (.seq (.reg 0 [] [] []) (.blk (some []) (.loop [.s 8] (.seq (.reg 0 [] [] []) (.seq (.cond none (.no) (.no)) (.seq (.blk none (.seq (.reg 0 [] [] []) (.seq (.reg 0 [] [] []) (.cond none (.seq (.reg 0 [] [] []) (.no)) (.no))))) (.reg 0 [] [] []))))))) (.seq (.reg 0 [] [] []) (.no))))
noncomputable def sem_cmp_Or_int (n : Nat) (xs : List V) : Option V := if xs.length ≤ 18 then denF Tryz.prog (envOf []) n Tryz.f93 an_cmp_Or_int xs else none
theorem ok_cmp_Or_int (n : Nat) : SemOk Tryz.prog DW 93 (sem_cmp_Or_int n) := fun xs y h => by
 unfold sem_cmp_Or_int at h
 split at h
 ·rename_i hl
  exact denF_ok stb Tryz.func93 (by kernel_rfl) (envOf_ok semsOk_nil) (by rw [Tryz.ntmps93]; exact hl) h
 ·cases h
theorem eq_cmp_Or_int (n : Nat) (x0 : V) : sem_cmp_Or_int n [x0] =
 (lenS [x0]).bind fun v1 =>
 JoinPt (fun vs2 =>
 some (vi 0)) fun J3 =>
 (fixN (fun rec4 vs5 =>
 (bin2 Tryz.prog BinOp.lss 3 (ot 8) (ot 7) (List.getD vs5 0 V.any) v1).bind fun v6 =>
 condV v6 (
 (idxS 1 x0 (List.getD vs5 0 V.any)).bind fun v7 =>
 (ldp none v7).bind fun v8 =>
 (bin2 Tryz.prog BinOp.neq 3 (ot 12) (ot 13) v8 (vi 0)).bind fun v9 =>
 condV v9 (
 some v8) (
 (bin2 Tryz.prog BinOp.add 3 (ot 8) (oc 1) (List.getD vs5 0 V.any) (vi 1)).bind fun v10 =>
 rec4 [v10])) (
 J3 [])) n) [(vi 0)] := by kernel_rfl
noncomputable def t_cmp_Or_int (a0 : (List Int)) : Option Int :=
 join (fun (s4 : Unit) =>
 some 0) fun j5 =>
 loopI a0 (fun (i13 : Int) x14 (s9 : Unit) k10 =>
 if (decide (x14 ≠ 0)) = true then (
 some x14) else (
 k10 ())) (fun (s9 : Unit) =>
 j5 ()) ()
theorem ty_cmp_Or_int {n : Nat} (hn : bigN ≤ n) (a0 : (List Int)) : Rv (fun x : Int => (vi x)) (sem_cmp_Or_int n [(V.sl (List.map cI a0))]) (t_cmp_Or_int a0) := by
 rw [eq_cmp_Or_int]
 unfold t_cmp_Or_int; refine tb (x := (vi (List.length a0 : Int))) (p_len _) ?_; refine tjoin (mk := fun s4 : Unit => []) (fun s4 => ?_) fun J3 j5 h6 => ?_
 ·exact rf_ret rfl
 ·refine rf_loopI (mk := fun (i13 : Int) (s9 : Unit) => [(vi (i13 : Int))]) hn a0 () (fun i13 x14 h15 h16 h17 s9 rec7 k10 h11 => ?_) (fun s9 rec25 h24 => ?_)
  ·refine tb (x := (vb (decide ((i13 : Int) < (List.length a0 : Int))))) (d_lss) ?_; refine tcond_t h17 ?_; refine tb (x := (V.ptr [(vi x14)])) (p_idx_at (c := cI) (fun _ => rfl) h15) ?_; refine tb (x := (vi x14)) (rfl) ?_; refine tb (x := (vb (decide (x14 ≠ 0)))) (d_neq) ?_; refine tcond (fun h22 => ?_) (fun h22 => ?_)
   ·exact rf_ret rfl
   ·refine tb (x := (vi ((i13 : Int) + 1))) (p_incN h16) ?_; exact h11 ()
  ·refine tb (x := (vb (decide ((List.length a0 : Int) < (List.length a0 : Int))))) (d_lss) ?_; refine tcond_f h24 ?_; exact h6 ()
def an_rule_above : Ann := .seq (.reg 0 [] [] []) (.seq (.reg 22 [] [] []) (.no))
noncomputable def sem_rule_above (n : Nat) (xs : List V) : Option V := if xs.length ≤ 26 then denF Tryz.prog (envOf [(94, (sem_cmp_Compare_int n)), (93, (sem_cmp_Or_int n))]) n Tryz.f74 an_rule_above xs else none
theorem ok_rule_above (n : Nat) : SemOk Tryz.prog DW 74 (sem_rule_above n) := fun xs y h => by
 unfold sem_rule_above at h
 split at h
 ·rename_i hl
  exact denF_ok stb Tryz.func74 (by kernel_rfl) (envOf_ok (semsOk_cons (ok_cmp_Compare_int n) (semsOk_cons (ok_cmp_Or_int n) semsOk_nil))) (by rw [Tryz.ntmps74]; exact hl) h
 ·cases h
theorem eq_rule_above (n : Nat) (x0 x1 : V) : sem_rule_above n [x0, x1] =
 (V.cellsO x0).bind fun v1 =>
 (V.cellsO x1).bind fun v2 =>
 (ldk none (List.drop 0 v1)).bind fun v3 =>
 (ldk none (List.drop 0 v2)).bind fun v4 =>
 ((sem_cmp_Compare_int n) [v3, v4]).bind fun v5 =>
 (ldk none (List.drop 1 v1)).bind fun v6 =>
 (ldk none (List.drop 1 v2)).bind fun v7 =>
 ((sem_cmp_Compare_int n) [v6, v7]).bind fun v8 =>
 (ldk none (List.drop 2 v1)).bind fun v9 =>
 (ldk none (List.drop 2 v2)).bind fun v10 =>
 ((sem_cmp_Compare_int n) [v9, v10]).bind fun v11 =>
 (slcB 1 3 [(vi 0)] [(0, v5), (1, v8), (2, v11)]).bind fun v12 =>
 ((sem_cmp_Or_int n) [v12]).bind fun v13 =>
 some v13 := by kernel_rfl
noncomputable def t_rule_above (a0 : T_Rule) (a1 : T_Rule) : Option Int :=
 (t_cmp_Compare_int a0.Prio a1.Prio).bind fun r6 =>
 (t_cmp_Compare_int a0.Cube.Mask a1.Cube.Mask).bind fun r10 =>
 (t_cmp_Compare_int a0.Cube.Bits a1.Cube.Bits).bind fun r14 =>
 (t_cmp_Or_int ([r6, r10, r14] : (List Int))).bind fun r17 =>
 some r17
theorem ty_rule_above {n : Nat} (hn : bigN ≤ n) (a0 : T_Rule) (a1 : T_Rule) : Rv (fun x : Int => (vi x)) (sem_rule_above n [(T_Rule.e a0), (T_Rule.e a1)]) (t_rule_above a0 a1) := by
 rw [eq_rule_above]
 unfold t_rule_above; refine tb (x := (T_Rule.c a0)) rfl ?_; refine tb (x := (T_Rule.c a1)) rfl ?_; refine tb (x := (vi a0.Prio)) (rfl) ?_; refine tb (x := (vi a1.Prio)) (rfl) ?_; refine tbo (ty_cmp_Compare_int hn a0.Prio a1.Prio) fun r6 => ?_; refine tb (x := (vi a0.Cube.Mask)) (rfl) ?_; refine tb (x := (vi a1.Cube.Mask)) (rfl) ?_; refine tbo (ty_cmp_Compare_int hn a0.Cube.Mask a1.Cube.Mask) fun r10 => ?_; refine tb (x := (vi a0.Cube.Bits)) (rfl) ?_; refine tb (x := (vi a1.Cube.Bits)) (rfl) ?_; refine tbo (ty_cmp_Compare_int hn a0.Cube.Bits a1.Cube.Bits) fun r14 => ?_; refine tb (x := (V.sl (List.map cI ([r6, r10, r14] : (List Int))))) (by kernel_rfl) ?_; refine tbo (ty_cmp_Or_int hn ([r6, r10, r14] : (List Int))) fun r17 => ?_; exact rf_ret rfl
def an_rule_Find : Ann := .seq (.reg 0 [] [] []) (.seq (.reg 0 [] [] []) (.seq (.seq (.reg 0 [] [] []) (.blk (some [.s 5]) (.loop [.s 5, .s 10] (.seq (.reg 0 [] [] []) (.seq (.cond none (.no) (.no)) (.seq (.blk none (.seq (.reg 0 [] [] []) (.seq (.reg 22 [] [] []) (.cond (some [.s 5]) (.reg 0 [] [] []) (.no))))) (.reg 0 [] [] []))))))) (.seq (.reg 0 [] [] []) (.no))))
noncomputable def sem_rule_Find (n : Nat) (xs : List V) : Option V := if xs.length ≤ 40 then denF Tryz.prog (envOf [(74, (sem_rule_above n))]) n Tryz.f52 an_rule_Find xs else none
theorem ok_rule_Find (n : Nat) : SemOk Tryz.prog DW 52 (sem_rule_Find n) := fun xs y h => by
 unfold sem_rule_Find at h
 split at h
 ·rename_i hl
  exact denF_ok stb Tryz.func52 (by kernel_rfl) (envOf_ok (semsOk_cons (ok_rule_above n) semsOk_nil)) (by rw [Tryz.ntmps52]; exact hl) h
 ·cases h
theorem eq_rule_Find (n : Nat) (x0 x1 : V) : sem_rule_Find n [x0, x1] =
 (lenS [x0]).bind fun v1 =>
 JoinPt (fun vs2 =>
 some (List.getD vs2 0 V.any)) fun J3 =>
 (fixN (fun rec4 vs5 =>
 (bin2 Tryz.prog BinOp.lss 3 (ot 10) (ot 9) (List.getD vs5 1 V.any) v1).bind fun v6 =>
 condV v6 (
 (idxS 6 x0 (List.getD vs5 1 V.any)).bind fun v7 =>
 (ldp (some 6) v7).bind fun v8 =>
 (spliceV [(vi 0), (vi 0), (vi 0), (vi 0), (vi 0), (vi 0)] 0 6 v8).bind fun v9 =>
 (ldk none (List.drop 1 (aggL v9))).bind fun v10 =>
 (bin2 Tryz.prog BinOp.and 3 (ot 15) (ot 18) x1 v10).bind fun v11 =>
 (ldk none (List.drop 2 (aggL v9))).bind fun v12 =>
 (bin2 Tryz.prog BinOp.eql 3 (ot 19) (ot 22) v11 v12).bind fun v13 =>
 (guardV v13 true (some (List.getD vs5 0 V.any))).bind fun v14 =>
 (guardV v13 true ((bin2 Tryz.prog BinOp.lss 3 (ot 25) (oc 0) v14 (vi 0)).bind fun v15 =>
 some v15)).bind fun v16 =>
 (guardV v13 true (some v16)).bind fun v17 =>
 (guardV v17 false ((ldk (some 6) (List.drop 0 (aggL v9))).bind fun v18 =>
 some v18)).bind fun v19 =>
 (guardV v17 false (some x0)).bind fun v20 =>
 (guardV v17 false (some (List.getD vs5 0 V.any))).bind fun v21 =>
 (guardV v17 false ((idxS 6 v20 v21).bind fun v22 =>
 some v22)).bind fun v23 =>
 (guardV v17 false ((ldp (some 6) v23).bind fun v24 =>
 some v24)).bind fun v25 =>
 (guardV v17 false (((sem_rule_above n) [v19, v25]).bind fun v26 =>
 some v26)).bind fun v27 =>
 (guardV v17 false ((bin2 Tryz.prog BinOp.gtr 3 (ot 33) (oc 0) v27 (vi 0)).bind fun v28 =>
 some v28)).bind fun v29 =>
 (guardV v13 true ((pickV v17 (vb true) v29).bind fun v30 =>
 some v30)).bind fun v31 =>
 (pickV v13 v31 (vb false)).bind fun v32 =>
 JoinPt (fun vs33 =>
 (bin2 Tryz.prog BinOp.add 3 (ot 10) (oc 1) (List.getD vs5 1 V.any) (vi 1)).bind fun v35 =>
 rec4 [(List.getD vs33 0 V.any), v35]) fun J34 =>
 condV v32 (
 J34 [(List.getD vs5 1 V.any)]) (
 J34 [(List.getD vs5 0 V.any)])) (
 J3 [(List.getD vs5 0 V.any)])) n) [(vi (-1 : Int)), (vi 0)] := by kernel_rfl
noncomputable def t_rule_Find (a0 : (List T_Rule)) (a1 : Int) : Option Int :=
 (loopI a0 (fun (i13 : Int) x14 (s9 : Int) k10 =>
 (gd ((decide ((bits .and .i64 a1 x14.Cube.Mask) = x14.Cube.Bits)) && (!(decide (s9 < 0)))) default (idx a0 s9)).bind fun r43 =>
 (gd ((decide ((bits .and .i64 a1 x14.Cube.Mask) = x14.Cube.Bits)) && (!(decide (s9 < 0)))) default (t_rule_above x14 r43)).bind fun r50 =>
 (if ((decide ((bits .and .i64 a1 x14.Cube.Mask) = x14.Cube.Bits)) && ((decide (s9 < 0)) || (decide (0 < r50)))) = true then (
 some i13) else (
 some (s9))).bind fun (s60 : Int) =>
 k10 (s60)) (fun (s9 : Int) =>
 some (s9)) (-1 : Int)).bind fun (s4 : Int) =>
 some s4
theorem ty_rule_Find {n : Nat} (hn : bigN ≤ n) (a0 : (List T_Rule)) (a1 : Int) : Rv (fun x : Int => (vi x)) (sem_rule_Find n [(V.sl (List.map T_Rule.c a0)), (vi a1)]) (t_rule_Find a0 a1) := by
 rw [eq_rule_Find]
 unfold t_rule_Find; refine tb (x := (vi (List.length a0 : Int))) (p_len _) ?_; refine tjb (mk := fun s4 : Int => [(vi s4)]) (fun J3 => ?_) fun s4 => ?_
 ·refine rf_loopI (mk := fun (i13 : Int) (s9 : Int) => [(vi s9), (vi (i13 : Int))]) hn a0 (-1 : Int) (fun i13 x14 h15 h16 h17 s9 rec7 k10 h11 => ?_) (fun s9 rec66 h65 => ?_)
  ·refine tb (x := (vb (decide ((i13 : Int) < (List.length a0 : Int))))) (d_lss) ?_; refine tcond_t h17 ?_; refine tb (x := (V.ptr (T_Rule.c x14))) (p_idx_at (c := T_Rule.c) (fun _ => rfl) h15) ?_; refine tb (x := (T_Rule.e x14)) (rfl) ?_; refine tb (x := V.agg (T_Rule.c x14)) (by kernel_rfl) ?_; refine tb (x := (vi x14.Cube.Mask)) (rfl) ?_; refine tb (x := (vi (bits .and .i64 a1 x14.Cube.Mask))) (d_and) ?_; refine tb (x := (vi x14.Cube.Bits)) (rfl) ?_; refine tb (x := (vb (decide ((bits .and .i64 a1 x14.Cube.Mask) = x14.Cube.Bits)))) (d_eql) ?_; refine tg (x := (vi s9)) (fun h26 => rfl) ?_; refine tg (x := (vb (decide (s9 < 0)))) (fun h28 => by simp only [gv_t h28]; exact bind_some_eq (d_lss)) ?_; refine tg (x := (vb (decide (s9 < 0)))) (fun h31 => congrArg some (gv_t h31)) ?_; refine tg2_f (x := (T_Rule.e x14)) (fun h33 => bind_some_eq (rfl)) ?_; refine tg2_f (x := (V.sl (List.map T_Rule.c a0))) (fun h36 => rfl) ?_; refine tg2_f (x := (vi s9)) (fun h38 => rfl) ?_; refine tgo2_f (fun h40 => by simp only [gv_t h40]; exact rf_bind_some (p_idx (c := T_Rule.c) (fun _ => rfl) a0 s9)) fun r43 => ?_; refine tg2_f (x := (T_Rule.e r43)) (fun h44 => by first | exact bind_some_eq (rfl) | (simp only [gv_t h44]; exact bind_some_eq (rfl))) ?_; refine tgo2_f (fun h47 => by simp only [gv_t h47]; exact rf_bind_some (ty_rule_above hn x14 r43)) fun r50 => ?_; refine tg2_f (x := (vb (decide (0 < r50)))) (fun h51 => by simp only [gv_t h51]; exact bind_some_eq (d_gtr)) ?_; refine tg (x := (vb ((decide (s9 < 0)) || (decide (0 < r50))))) (fun h54 => by simp only [gv_t h54]; exact bind_some_eq (pick_or (fun h9 => gv_t (and_i h54 (not_f h9))))) ?_; refine tb (x := (vb ((decide ((bits .and .i64 a1 x14.Cube.Mask) = x14.Cube.Bits)) && ((decide (s9 < 0)) || (decide (0 < r50)))))) (pick_and (fun h9 => gv_t h9)) ?_; refine tjb (mk := fun s60 : Int => [(vi s60)]) (fun J59 => ?_) fun s60 => ?_
   ·refine tcond (fun h64 => ?_) (fun h64 => ?_)
    ·exact rf_j rfl
    ·exact rf_j rfl
   ·refine tb (x := (vi ((i13 : Int) + 1))) (p_incN h16) ?_; exact h11 (s60)
  ·refine tb (x := (vb (decide ((List.length a0 : Int) < (List.length a0 : Int))))) (d_lss) ?_; refine tcond_f h65 ?_; exact rf_j rfl
 ·exact rf_ret rfl
def an_net_Out : Ann := .seq (.reg 0 [] [] []) (.seq (.reg 0 [] [] []) (.seq (.seq (.reg 0 [] [] []) (.cond none (.seq (.reg 0 [] [] []) (.no)) (.no))) (.seq (.reg 2097045 [] [] []) (.no))))
noncomputable def sem_net_Out (n : Nat) (xs : List V) : Option V := if xs.length ≤ 45 then denF Tryz.prog (envOf [(52, (sem_rule_Find n))]) n Tryz.f102 an_net_Out xs else none
theorem ok_net_Out (n : Nat) : SemOk Tryz.prog DW 102 (sem_net_Out n) := fun xs y h => by
 unfold sem_net_Out at h
 split at h
 ·rename_i hl
  exact denF_ok stb Tryz.func102 (by kernel_rfl) (envOf_ok (semsOk_cons (ok_rule_Find n) semsOk_nil)) (by rw [Tryz.ntmps102]; exact hl) h
 ·cases h
theorem eq_net_Out (n : Nat) (x0 x1 x2 : V) : sem_net_Out n [x0, x1, x2] =
 (V.cellsO x1).bind fun v1 =>
 ((sem_rule_Find n) [x0, x2]).bind fun v2 =>
 (bin2 Tryz.prog BinOp.lss 3 (ot 13) (oc 0) v2 (vi 0)).bind fun v3 =>
 (guardV v3 false (some x0)).bind fun v4 =>
 (guardV v3 false (some v2)).bind fun v5 =>
 (guardV v3 false ((idxS 6 v4 v5).bind fun v6 =>
 some v6)).bind fun v7 =>
 (guardV v3 false ((ptrF 3 v7).bind fun v8 =>
 some v8)).bind fun v9 =>
 (guardV v3 false ((ldp none v9).bind fun v10 =>
 some v10)).bind fun v11 =>
 (guardV v3 false ((bin2 Tryz.prog BinOp.eql 3 (ot 20) (oc 0) v11 (vi 0)).bind fun v12 =>
 some v12)).bind fun v13 =>
 (pickV v3 (vb true) v13).bind fun v14 =>
 condV v14 (
 ((fillL [(vi 0), (vi 0)] []).map V.agg).bind fun v15 =>
 (spliceV [(vi 0), (vi 0)] 0 2 v15).bind fun v16 =>
 (ldk (some 2) (List.drop 0 (aggL v16))).bind fun v17 =>
 some (V.tup [v17, (vi 0), (vb false)])) (
 (idxS 6 x0 v2).bind fun v18 =>
 (ptrF 3 v18).bind fun v19 =>
 (ldp none v19).bind fun v20 =>
 (litV v20).bind fun v21 =>
 (idxS 6 x0 v2).bind fun v22 =>
 (ptrF 4 v22).bind fun v23 =>
 (ldp none v23).bind fun v24 =>
 (litV v24).bind fun v25 =>
 (bin2 Tryz.prog BinOp.andNot 3 (ot 32) (ot 37) x2 v25).bind fun v26 =>
 (litV v26).bind fun v27 =>
 (idxS 6 x0 v2).bind fun v28 =>
 (ptrF 5 v28).bind fun v29 =>
 (ldp none v29).bind fun v30 =>
 (litV v30).bind fun v31 =>
 (bin2 Tryz.prog BinOp.or 3 (ot 38) (ot 43) v27 v31).bind fun v32 =>
 (litV v32).bind fun v33 =>
 (ldk none (List.drop 0 v1)).bind fun v34 =>
 ((fillL [(vi 0), (vi 0)] [(0, 1, v34), (1, 1, v21)]).map V.agg).bind fun v35 =>
 (spliceV [(vi 0), (vi 0)] 0 2 v35).bind fun v36 =>
 (ldk (some 2) (List.drop 0 (aggL v36))).bind fun v37 =>
 some (V.tup [v37, v33, (vb true)])) := by kernel_rfl
noncomputable def t_net_Out (a0 : (List T_Rule)) (a1 : T_Spot) (a2 : Int) : Option (T_Spot × Int × Bool) :=
 (t_rule_Find a0 a2).bind fun r3 =>
 (gd (!(decide (r3 < 0))) default (idx a0 r3)).bind fun r12 =>
 if ((decide (r3 < 0)) || (decide (r12.Out = 0))) = true then (
 some ((T_Spot.mk 0 0), 0, false)) else (
 (idx a0 r3).bind fun r28 =>
 (idx a0 r3).bind fun r33 =>
 (idx a0 r3).bind fun r40 =>
 some ((T_Spot.mk a1.Switch r28.Out), (bits .or .i64 (bits .andNot .i64 a2 r33.Set) r40.Value), true))
theorem ty_net_Out {n : Nat} (hn : bigN ≤ n) (a0 : (List T_Rule)) (a1 : T_Spot) (a2 : Int) : Rv (fun x : (T_Spot × Int × Bool) => V.tup [(T_Spot.e x.1), (vi x.2.1), (vb x.2.2)]) (sem_net_Out n [(V.sl (List.map T_Rule.c a0)), (T_Spot.e a1), (vi a2)]) (t_net_Out a0 a1 a2) := by
 rw [eq_net_Out]
 unfold t_net_Out; refine tb (x := (T_Spot.c a1)) rfl ?_; refine tbo (ty_rule_Find hn a0 a2) fun r3 => ?_; refine tb (x := (vb (decide (r3 < 0)))) (d_lss) ?_; refine tg_f (x := (V.sl (List.map T_Rule.c a0))) (fun h5 => rfl) ?_; refine tg_f (x := (vi r3)) (fun h7 => rfl) ?_; refine tgo_f (fun h9 => by simp only [gv_t h9]; exact rf_bind_some (p_idx (c := T_Rule.c) (fun _ => rfl) a0 r3)) fun r12 => ?_; refine tg_f (x := (V.ptr (List.drop 3 (T_Rule.c r12)))) (fun h13 => by first | exact bind_some_eq (rfl) | (simp only [gv_t h13]; exact bind_some_eq (rfl))) ?_; refine tg_f (x := (vi r12.Out)) (fun h16 => by first | exact bind_some_eq (rfl) | (simp only [gv_t h16]; exact bind_some_eq (rfl))) ?_; refine tg_f (x := (vb (decide (r12.Out = 0)))) (fun h19 => by simp only [gv_t h19]; exact bind_some_eq (d_eql)) ?_; refine tb (x := (vb ((decide (r3 < 0)) || (decide (r12.Out = 0))))) (pick_or (fun h9 => gv_t (not_f h9))) ?_; refine tcond (fun h23 => ?_) (fun h23 => ?_)
 ·refine tb (x := (T_Spot.e (T_Spot.mk 0 0))) (by kernel_rfl) ?_; refine tb (x := V.agg (T_Spot.c (T_Spot.mk 0 0))) (by kernel_rfl) ?_; refine tb (x := (T_Spot.e (T_Spot.mk 0 0))) rfl ?_; exact rf_ret rfl
 ·refine tbo (p_idx (c := T_Rule.c) (fun _ => rfl) a0 r3) fun r28 => ?_; refine tb (x := (V.ptr (List.drop 3 (T_Rule.c r28)))) (rfl) ?_; refine tb (x := (vi r28.Out)) (rfl) ?_; refine tb (x := (vi r28.Out)) rfl ?_; refine tbo (p_idx (c := T_Rule.c) (fun _ => rfl) a0 r3) fun r33 => ?_; refine tb (x := (V.ptr (List.drop 4 (T_Rule.c r33)))) (rfl) ?_; refine tb (x := (vi r33.Set)) (rfl) ?_; refine tb (x := (vi r33.Set)) rfl ?_; refine tb (x := (vi (bits .andNot .i64 a2 r33.Set))) (d_andNot) ?_; refine tb (x := (vi (bits .andNot .i64 a2 r33.Set))) rfl ?_; refine tbo (p_idx (c := T_Rule.c) (fun _ => rfl) a0 r3) fun r40 => ?_; refine tb (x := (V.ptr (List.drop 5 (T_Rule.c r40)))) (rfl) ?_; refine tb (x := (vi r40.Value)) (rfl) ?_; refine tb (x := (vi r40.Value)) rfl ?_; refine tb (x := (vi (bits .or .i64 (bits .andNot .i64 a2 r33.Set) r40.Value))) (d_or) ?_; refine tb (x := (vi (bits .or .i64 (bits .andNot .i64 a2 r33.Set) r40.Value))) rfl ?_; refine tb (x := (vi a1.Switch)) (rfl) ?_; refine tb (x := (T_Spot.e (T_Spot.mk a1.Switch r28.Out))) (by kernel_rfl) ?_; refine tb (x := V.agg (T_Spot.c (T_Spot.mk a1.Switch r28.Out))) (by kernel_rfl) ?_; refine tb (x := (T_Spot.e (T_Spot.mk a1.Switch r28.Out))) rfl ?_; exact rf_ret rfl
def an_topo_Host_1 : Ann := .seq (.reg 0 [] [] []) (.seq (.reg 0 [] [] []) (.no))
noncomputable def sem_topo_Host_1 (n : Nat) (xs : List V) : Option V := if xs.length ≤ 8 then denF Tryz.prog (envOf []) n Tryz.f124 an_topo_Host_1 xs else none
theorem ok_topo_Host_1 (n : Nat) : SemOk Tryz.prog DW 124 (sem_topo_Host_1 n) := fun xs y h => by
 unfold sem_topo_Host_1 at h
 split at h
 ·rename_i hl
  exact denF_ok stb Tryz.func124 (by kernel_rfl) (envOf_ok semsOk_nil) (by rw [Tryz.ntmps124]; exact hl) h
 ·cases h
theorem eq_topo_Host_1 (n : Nat) (x0 x1 : V) : sem_topo_Host_1 n [x0, x1] =
 (V.cellsO x0).bind fun v1 =>
 (ldk (some 2) (List.drop 1 v1)).bind fun v2 =>
 (ldp (some 2) x1).bind fun v3 =>
 (bin2 Tryz.prog BinOp.eql 114 (ot 5) (ot 6) v2 v3).bind fun v4 =>
 some v4 := by kernel_rfl
noncomputable def t_topo_Host_1 (a0 : T_Host) (a1 : T_Spot) : Option Bool :=
 some (decide (a0.At = a1))
theorem ty_topo_Host_1 {n : Nat} (hn : bigN ≤ n) (a0 : T_Host) (a1 : T_Spot) : Rv (fun x : Bool => (vb x)) (sem_topo_Host_1 n [(T_Host.e a0), (V.ptr (T_Spot.c a1))]) (t_topo_Host_1 a0 a1) := by
 rw [eq_topo_Host_1]
 unfold t_topo_Host_1; refine tb (x := (T_Host.c a0)) rfl ?_; refine tb (x := (T_Spot.e a0.At)) (rfl) ?_; refine tb (x := (T_Spot.e a1)) (rfl) ?_; refine tb (x := (vb (decide (a0.At = a1)))) (T_Spot.eql a0.At a1) ?_; exact rf_ret rfl
def an_topo_Host : Ann := .seq (.reg 0 [] [] []) (.seq (.reg 0 [3] [] []) (.seq (.seq (.reg 0 [] [] []) (.cond none (.seq (.reg 0 [] [] []) (.no)) (.no))) (.seq (.reg 0 [] [] []) (.no))))
noncomputable def sem_topo_Host (n : Nat) (xs : List V) : Option V := if xs.length ≤ 19 then denF Tryz.prog (envOf [(95, (sem_slices_IndexFunc_api_Host_api_Host (envOf [(124, (sem_topo_Host_1 n))]) n)), (124, (sem_topo_Host_1 n))]) n Tryz.f103 an_topo_Host xs else none
theorem ok_topo_Host (n : Nat) : SemOk Tryz.prog DW 103 (sem_topo_Host n) := fun xs y h => by
 unfold sem_topo_Host at h
 split at h
 ·rename_i hl
  exact denF_ok stb Tryz.func103 (by kernel_rfl) (envOf_ok (semsOk_cons (ok_slices_IndexFunc_api_Host_api_Host (envOf_ok (semsOk_cons (ok_topo_Host_1 n) semsOk_nil)) n) (semsOk_cons (ok_topo_Host_1 n) semsOk_nil))) (by rw [Tryz.ntmps103]; exact hl) h
 ·cases h
theorem eq_topo_Host (n : Nat) (x0 x1 : V) : sem_topo_Host n [x0, x1] =
 (V.cellsO x0).bind fun v1 =>
 (V.cellsO x1).bind fun v2 =>
 (ldk none (List.drop 2 v1)).bind fun v3 =>
 ((sem_slices_IndexFunc_api_Host_api_Host (envOf [(124, (sem_topo_Host_1 n))]) n) [v3, (V.fn 124 [(V.ptr v2)])]).bind fun v4 =>
 (bin2 Tryz.prog BinOp.lss 3 (ot 11) (oc 0) v4 (vi 0)).bind fun v5 =>
 condV v5 (
 some (V.tup [(vt ⟨#[]⟩), (vb false)])) (
 (ldk none (List.drop 2 v1)).bind fun v6 =>
 (idxS 3 v6 v4).bind fun v7 =>
 (ptrF 0 v7).bind fun v8 =>
 (ldp none v8).bind fun v9 =>
 some (V.tup [v9, (vb true)])) := by kernel_rfl
noncomputable def t_topo_Host (a0 : T_Topo) (a1 : T_Spot) : Option (ByteArray × Bool) :=
 (t_slices_IndexFunc_api_Host_api_Host a0.Hosts (fun (a4 : T_Host) => t_topo_Host_1 a4 a1)).bind fun r6 =>
 if (decide (r6 < 0)) = true then (
 some ((ByteArray.mk #[]), false)) else (
 (idx a0.Hosts r6).bind fun r11 =>
 some (r11.Name, true))
theorem ty_topo_Host {n : Nat} (hn : bigN ≤ n) (a0 : T_Topo) (a1 : T_Spot) : Rv (fun x : (ByteArray × Bool) => V.tup [(vt x.1), (vb x.2)]) (sem_topo_Host n [(T_Topo.e a0), (T_Spot.e a1)]) (t_topo_Host a0 a1) := by
 rw [eq_topo_Host]
 unfold t_topo_Host; refine tb (x := (T_Topo.c a0)) rfl ?_; refine tb (x := (T_Spot.c a1)) rfl ?_; refine tb (x := (V.sl (List.map T_Host.c a0.Hosts))) (rfl) ?_; refine tbo (ty_slices_IndexFunc_api_Host_api_Host (E := (envOf [(124, (sem_topo_Host_1 n))])) (x1 := (V.fn 124 [(V.ptr (T_Spot.c a1))])) (g1 := (fun (a4 : T_Host) => t_topo_Host_1 a4 a1)) hn a0.Hosts (fun a4 => ty_topo_Host_1 hn a4 a1)) fun r6 => ?_; refine tb (x := (vb (decide (r6 < 0)))) (d_lss) ?_; refine tcond (fun h8 => ?_) (fun h8 => ?_)
 ·exact rf_ret rfl
 ·refine tb (x := (V.sl (List.map T_Host.c a0.Hosts))) (rfl) ?_; refine tbo (p_idx (c := T_Host.c) (fun _ => rfl) a0.Hosts r6) fun r11 => ?_; refine tb (x := (V.ptr (T_Host.c r11))) (rfl) ?_; refine tb (x := (vt r11.Name)) (rfl) ?_; exact rf_ret rfl
def an_topo_Other : Ann := .seq (.reg 0 [] [] []) (.seq (.seq (.reg 0 [] [] []) (.blk (some [.b 4]) (.loop [.kb 3, .b 4, .s 11] (.seq (.reg 0 [] [] []) (.seq (.cond none (.no) (.no)) (.seq (.blk none (.seq (.reg 0 [] [] []) (.seq (.reg 0 [] [] []) (.blk none (.seq (.reg 0 [] [] []) (.cond none (.seq (.reg 0 [] [] []) (.no)) (.seq (.reg 0 [] [] []) (.cond none (.seq (.reg 0 [] [] []) (.no)) (.no))))))))) (.reg 0 [] [] []))))))) (.seq (.reg 0 [] [] []) (.no)))
noncomputable def sem_topo_Other (n : Nat) (xs : List V) : Option V := if xs.length ≤ 30 then denF Tryz.prog (envOf []) n Tryz.f104 an_topo_Other xs else none
theorem ok_topo_Other (n : Nat) : SemOk Tryz.prog DW 104 (sem_topo_Other n) := fun xs y h => by
 unfold sem_topo_Other at h
 split at h
 ·rename_i hl
  exact denF_ok stb Tryz.func104 (by kernel_rfl) (envOf_ok semsOk_nil) (by rw [Tryz.ntmps104]; exact hl) h
 ·cases h
theorem eq_topo_Other (n : Nat) (x0 x1 : V) : sem_topo_Other n [x0, x1] =
 (V.cellsO x0).bind fun v1 =>
 (V.cellsO x1).bind fun v2 =>
 (ldk none (List.drop 1 v1)).bind fun v3 =>
 (lenS [v3]).bind fun v4 =>
 JoinPt (fun vs5 =>
 ((fillL [(vi 0), (vi 0)] []).map V.agg).bind fun v7 =>
 (spliceV (aggL (List.getD vs5 0 V.any)) 0 2 v7).bind fun v8 =>
 (ldk (some 2) (List.drop 0 (aggL v8))).bind fun v9 =>
 some (V.tup [v9, (vb false)])) fun J6 =>
 (keepO (some v2) (some v2) (some [(V.agg [(vi 0), (vi 0)]), (vi 0)])).bind (fixN (fun rec10 vs11 =>
 (bin2 Tryz.prog BinOp.lss 3 (ot 11) (ot 10) (List.getD vs11 1 V.any) v4).bind fun v12 =>
 condV v12 (
 (idxS 4 v3 (List.getD vs11 1 V.any)).bind fun v13 =>
 (ldp (some 4) v13).bind fun v14 =>
 (spliceV [(vi 0), (vi 0), (vi 0), (vi 0)] 0 4 v14).bind fun v15 =>
 (ldk (some 2) (List.drop 0 v2)).bind fun v16 =>
 (ldk (some 2) (List.drop 0 (aggL v15))).bind fun v17 =>
 (bin2 Tryz.prog BinOp.eql 114 (ot 15) (ot 18) v16 v17).bind fun v18 =>
 condV v18 (
 (ldk (some 2) (List.drop 2 (aggL v15))).bind fun v19 =>
 (spliceV (aggL (List.getD vs11 0 V.any)) 0 2 v19).bind fun v20 =>
 (ldk (some 2) (List.drop 0 (aggL v20))).bind fun v21 =>
 some (V.tup [v21, (vb true)])) (
 (ldk (some 2) (List.drop 2 (aggL v15))).bind fun v22 =>
 (bin2 Tryz.prog BinOp.eql 114 (ot 15) (ot 24) v16 v22).bind fun v23 =>
 condV v23 (
 (ldk (some 2) (List.drop 0 (aggL v15))).bind fun v24 =>
 (spliceV (aggL (List.getD vs11 0 V.any)) 0 2 v24).bind fun v25 =>
 (ldk (some 2) (List.drop 0 (aggL v25))).bind fun v26 =>
 some (V.tup [v26, (vb true)])) (
 (bin2 Tryz.prog BinOp.add 3 (ot 11) (oc 1) (List.getD vs11 1 V.any) (vi 1)).bind fun v27 =>
 (keepO (some v2) (some v2) (some [(V.agg (aggL (List.getD vs11 0 V.any))), v27])).bind rec10))) (
 J6 [(V.agg (aggL (List.getD vs11 0 V.any)))])) n) := by kernel_rfl
noncomputable def t_topo_Other (a0 : T_Topo) (a1 : T_Spot) : Option (T_Spot × Bool) :=
 join (fun (s7 : T_Spot) =>
 some ((T_Spot.mk 0 0), false)) fun j8 =>
 loopI a0.Links (fun (i19 : Int) x20 (s15 : Unit) k16 =>
 if (decide (a1 = x20.A)) = true then (
 some (x20.B, true)) else (
 if (decide (a1 = x20.B)) = true then (
 some (x20.A, true)) else (
 k16 ()))) (fun (s15 : Unit) =>
 j8 (T_Spot.mk 0 0)) ()
theorem ty_topo_Other {n : Nat} (hn : bigN ≤ n) (a0 : T_Topo) (a1 : T_Spot) : Rv (fun x : (T_Spot × Bool) => V.tup [(T_Spot.e x.1), (vb x.2)]) (sem_topo_Other n [(T_Topo.e a0), (T_Spot.e a1)]) (t_topo_Other a0 a1) := by
 rw [eq_topo_Other]
 unfold t_topo_Other; refine tb (x := (T_Topo.c a0)) rfl ?_; refine tb (x := (T_Spot.c a1)) rfl ?_; refine tb (x := (V.sl (List.map T_Link.c a0.Links))) (rfl) ?_; refine tb (x := (vi (List.length a0.Links : Int))) (p_len _) ?_; refine tjoin (mk := fun s7 : T_Spot => [(V.agg (T_Spot.c s7))]) (fun s7 => ?_) fun J6 j8 h9 => ?_
 ·refine tb (x := (T_Spot.e (T_Spot.mk 0 0))) (by kernel_rfl) ?_; refine tb (x := V.agg (T_Spot.c (T_Spot.mk 0 0))) (by kernel_rfl) ?_; refine tb (x := (T_Spot.e (T_Spot.mk 0 0))) rfl ?_; exact rf_ret rfl
 ·refine tkeepO2 ?_ rfl; refine tsome ?_; refine rf_loopI (mk := fun (i19 : Int) (s15 : Unit) => [(V.agg (T_Spot.c (T_Spot.mk 0 0))), (vi (i19 : Int))]) hn a0.Links () (fun i19 x20 h21 h22 h23 s15 rec13 k16 h17 => ?_) (fun s15 rec43 h42 => ?_)
  ·refine tb (x := (vb (decide ((i19 : Int) < (List.length a0.Links : Int))))) (d_lss) ?_; refine tcond_t h23 ?_; refine tb (x := (V.ptr (T_Link.c x20))) (p_idx_at (c := T_Link.c) (fun _ => rfl) h21) ?_; refine tb (x := (T_Link.e x20)) (rfl) ?_; refine tb (x := V.agg (T_Link.c x20)) (by kernel_rfl) ?_; refine tb (x := (T_Spot.e a1)) (rfl) ?_; refine tb (x := (T_Spot.e x20.A)) (rfl) ?_; refine tb (x := (vb (decide (a1 = x20.A)))) (T_Spot.eql a1 x20.A) ?_; refine tcond (fun h31 => ?_) (fun h31 => ?_)
   ·refine tb (x := (T_Spot.e x20.B)) (rfl) ?_; refine tb (x := V.agg (T_Spot.c x20.B)) (by kernel_rfl) ?_; refine tb (x := (T_Spot.e x20.B)) rfl ?_; exact rf_ret rfl
   ·refine tb (x := (T_Spot.e x20.B)) (rfl) ?_; refine tb (x := (vb (decide (a1 = x20.B)))) (T_Spot.eql a1 x20.B) ?_; refine tcond (fun h37 => ?_) (fun h37 => ?_)
    ·refine tb (x := (T_Spot.e x20.A)) (rfl) ?_; refine tb (x := V.agg (T_Spot.c x20.A)) (by kernel_rfl) ?_; refine tb (x := (T_Spot.e x20.A)) rfl ?_; exact rf_ret rfl
    ·refine tb (x := (vi ((i19 : Int) + 1))) (p_incN h22) ?_; refine tkeepO2 ?_ rfl; refine tsome ?_; exact h17 ()
  ·refine tb (x := (vb (decide ((List.length a0.Links : Int) < (List.length a0.Links : Int))))) (d_lss) ?_; refine tcond_f h42 ?_; exact h9 (T_Spot.mk 0 0)
def an_slices_Index_api_Hop_api_Hop : Ann := .seq (.reg 0 [] [] []) (.seq (.seq (.reg 0 [] [] []) (.blk (some []) (.loop [.kb 3, .s 8] (.seq (.reg 0 [] [] []) (.seq (.cond none (.no) (.no)) (.seq (.blk none (.seq (.reg 0 [] [] []) (.seq (.reg 6 [] [] []) (.cond none (.seq (.reg 0 [] [] []) (.no)) (.no))))) (.reg 0 [] [] []))))))) (.seq (.reg 0 [] [] []) (.no)))
noncomputable def sem_slices_Index_api_Hop_api_Hop (n : Nat) (xs : List V) : Option V := if xs.length ≤ 19 then denF Tryz.prog (envOf []) n Tryz.f125 an_slices_Index_api_Hop_api_Hop xs else none
theorem ok_slices_Index_api_Hop_api_Hop (n : Nat) : SemOk Tryz.prog DW 125 (sem_slices_Index_api_Hop_api_Hop n) := fun xs y h => by
 unfold sem_slices_Index_api_Hop_api_Hop at h
 split at h
 ·rename_i hl
  exact denF_ok stb Tryz.func125 (by kernel_rfl) (envOf_ok semsOk_nil) (by rw [Tryz.ntmps125]; exact hl) h
 ·cases h
theorem eq_slices_Index_api_Hop_api_Hop (n : Nat) (x0 x1 : V) : sem_slices_Index_api_Hop_api_Hop n [x0, x1] =
 (V.cellsO x1).bind fun v1 =>
 (lenS [x0]).bind fun v2 =>
 JoinPt (fun vs3 =>
 some (vi (-1 : Int))) fun J4 =>
 (keepO (some v1) (some v1) (some [(vi 0)])).bind (fixN (fun rec5 vs6 =>
 (bin2 Tryz.prog BinOp.lss 3 (ot 8) (ot 7) (List.getD vs6 0 V.any) v2).bind fun v7 =>
 condV v7 (
 (ldk (some 3) (List.drop 0 v1)).bind fun v8 =>
 (idxS 3 x0 (List.getD vs6 0 V.any)).bind fun v9 =>
 (ldp (some 3) v9).bind fun v10 =>
 (bin2 Tryz.prog BinOp.eql 124 (ot 11) (ot 15) v8 v10).bind fun v11 =>
 condV v11 (
 some (List.getD vs6 0 V.any)) (
 (bin2 Tryz.prog BinOp.add 3 (ot 8) (oc 1) (List.getD vs6 0 V.any) (vi 1)).bind fun v12 =>
 (keepO (some v1) (some v1) (some [v12])).bind rec5)) (
 J4 [])) n) := by kernel_rfl
noncomputable def t_slices_Index_api_Hop_api_Hop (a0 : (List T_Hop)) (a1 : T_Hop) : Option Int :=
 join (fun (s5 : Unit) =>
 some (-1 : Int)) fun j6 =>
 loopI a0 (fun (i14 : Int) x15 (s10 : Unit) k11 =>
 if (decide (a1 = x15)) = true then (
 some i14) else (
 k11 ())) (fun (s10 : Unit) =>
 j6 ()) ()
theorem ty_slices_Index_api_Hop_api_Hop {n : Nat} (hn : bigN ≤ n) (a0 : (List T_Hop)) (a1 : T_Hop) : Rv (fun x : Int => (vi x)) (sem_slices_Index_api_Hop_api_Hop n [(V.sl (List.map T_Hop.c a0)), (T_Hop.e a1)]) (t_slices_Index_api_Hop_api_Hop a0 a1) := by
 rw [eq_slices_Index_api_Hop_api_Hop]
 unfold t_slices_Index_api_Hop_api_Hop; refine tb (x := (T_Hop.c a1)) rfl ?_; refine tb (x := (vi (List.length a0 : Int))) (p_len _) ?_; refine tjoin (mk := fun s5 : Unit => []) (fun s5 => ?_) fun J4 j6 h7 => ?_
 ·exact rf_ret rfl
 ·refine tkeepO2 ?_ rfl; refine tsome ?_; refine rf_loopI (mk := fun (i14 : Int) (s10 : Unit) => [(vi (i14 : Int))]) hn a0 () (fun i14 x15 h16 h17 h18 s10 rec8 k11 h12 => ?_) (fun s10 rec27 h26 => ?_)
  ·refine tb (x := (vb (decide ((i14 : Int) < (List.length a0 : Int))))) (d_lss) ?_; refine tcond_t h18 ?_; refine tb (x := (T_Hop.e a1)) (rfl) ?_; refine tb (x := (V.ptr (T_Hop.c x15))) (p_idx_at (c := T_Hop.c) (fun _ => rfl) h16) ?_; refine tb (x := (T_Hop.e x15)) (rfl) ?_; refine tb (x := (vb (decide (a1 = x15)))) (T_Hop.eql a1 x15) ?_; refine tcond (fun h24 => ?_) (fun h24 => ?_)
   ·exact rf_ret rfl
   ·refine tb (x := (vi ((i14 : Int) + 1))) (p_incN h17) ?_; refine tkeepO2 ?_ rfl; refine tsome ?_; exact h12 ()
  ·refine tb (x := (vb (decide ((List.length a0 : Int) < (List.length a0 : Int))))) (d_lss) ?_; refine tcond_f h26 ?_; exact h7 ()
def an_slices_Contains_api_Hop_api_Hop : Ann := .seq (.reg 0 [] [] []) (.seq (.reg 0 [] [] []) (.no))
noncomputable def sem_slices_Contains_api_Hop_api_Hop (n : Nat) (xs : List V) : Option V := if xs.length ≤ 9 then denF Tryz.prog (envOf [(125, (sem_slices_Index_api_Hop_api_Hop n))]) n Tryz.f105 an_slices_Contains_api_Hop_api_Hop xs else none
theorem ok_slices_Contains_api_Hop_api_Hop (n : Nat) : SemOk Tryz.prog DW 105 (sem_slices_Contains_api_Hop_api_Hop n) := fun xs y h => by
 unfold sem_slices_Contains_api_Hop_api_Hop at h
 split at h
 ·rename_i hl
  exact denF_ok stb Tryz.func105 (by kernel_rfl) (envOf_ok (semsOk_cons (ok_slices_Index_api_Hop_api_Hop n) semsOk_nil)) (by rw [Tryz.ntmps105]; exact hl) h
 ·cases h
theorem eq_slices_Contains_api_Hop_api_Hop (n : Nat) (x0 x1 : V) : sem_slices_Contains_api_Hop_api_Hop n [x0, x1] =
 (V.cellsO x1).bind fun v1 =>
 (ldk (some 3) (List.drop 0 v1)).bind fun v2 =>
 ((sem_slices_Index_api_Hop_api_Hop n) [x0, v2]).bind fun v3 =>
 (bin2 Tryz.prog BinOp.geq 3 (ot 7) (oc 0) v3 (vi 0)).bind fun v4 =>
 some v4 := by kernel_rfl
noncomputable def t_slices_Contains_api_Hop_api_Hop (a0 : (List T_Hop)) (a1 : T_Hop) : Option Bool :=
 (t_slices_Index_api_Hop_api_Hop a0 a1).bind fun r4 =>
 some (decide (0 ≤ r4))
theorem ty_slices_Contains_api_Hop_api_Hop {n : Nat} (hn : bigN ≤ n) (a0 : (List T_Hop)) (a1 : T_Hop) : Rv (fun x : Bool => (vb x)) (sem_slices_Contains_api_Hop_api_Hop n [(V.sl (List.map T_Hop.c a0)), (T_Hop.e a1)]) (t_slices_Contains_api_Hop_api_Hop a0 a1) := by
 rw [eq_slices_Contains_api_Hop_api_Hop]
 unfold t_slices_Contains_api_Hop_api_Hop; refine tb (x := (T_Hop.c a1)) rfl ?_; refine tb (x := (T_Hop.e a1)) (rfl) ?_; refine tbo (ty_slices_Index_api_Hop_api_Hop hn a0 a1) fun r4 => ?_; refine tb (x := (vb (decide (0 ≤ r4)))) (d_geq) ?_; exact rf_ret rfl
def an_net_Go : Ann := .seq (.reg 0 [] [] []) (.seq (.reg 13 [] [] []) (.seq (.reg 0 [] [] []) (.seq (.seq (.reg 0 [] [] []) (.cond none (.seq (.reg 0 [] [] []) (.seq (.reg 0 [] [] []) (.no))) (.no))) (.seq (.seq (.reg 0 [] [] []) (.seq (.reg 0 [] [] []) (.cond none (.seq (.reg 0 [] [] []) (.seq (.reg 0 [] [] []) (.no))) (.no)))) (.seq (.reg 0 [] [] []) (.seq (.seq (.reg 0 [] [] []) (.cond none (.seq (.reg 0 [] [] []) (.seq (.reg 0 [] [] []) (.no))) (.no))) (.seq (.reg 0 [] [] []) (.seq (.seq (.reg 14 [] [] []) (.cond none (.seq (.reg 0 [] [] []) (.seq (.reg 0 [] [] []) (.no))) (.no))) (.seq (.reg 8 [] [] [1000092]) (.seq (.reg 0 [] [] []) (.no)))))))))))
noncomputable def sem_net_Go (n : Nat) (xs : List V) : Option V := if xs.length ≤ 98 then denM Tryz.prog (envOf [(102, (sem_net_Out n)), (103, (sem_topo_Host n)), (104, (sem_topo_Other n)), (105, (sem_slices_Contains_api_Hop_api_Hop n)), (106 + 1000000 * (124 + 2), (semClone 3))]) n Tryz.f83 an_net_Go [0, 0, 2] none xs else none
theorem ok_net_Go (n : Nat) : MSemOk Tryz.prog DW 83 (sem_net_Go n) := fun xs y h => by
 unfold sem_net_Go at h
 split at h
 ·rename_i hl
  exact denM_ok Tryz.func83 (by kernel_rfl) (envOf_ok (semsOk_cons (ok_net_Out n) (semsOk_cons (ok_topo_Host n) (semsOk_cons (ok_topo_Other n) (semsOk_cons (ok_slices_Contains_api_Hop_api_Hop n) (semsOk_consR (rok_slices_Clone_api_Hop_api_Hop) semsOk_nil)))))) (by rw [Tryz.ntmps83]; exact hl) (by decide) h
 ·cases h
theorem eq_net_Go (n : Nat) (x0 x1 x2 : V) : sem_net_Go n [x0, x1, x2] =
 (pureO x0).bind fun v1 =>
 (pureO x1).bind fun v2 =>
 (objG x2).bind fun v3 =>
 (V.cellsO x0).bind fun v4 =>
 (some V.any).bind fun v5 =>
 (some V.any).bind fun v6 =>
 ((nodeL x2 none 0).bind fun l7 => (ldk none (List.drop 2 l7)).bind pureO).bind fun v8 =>
 (some V.any).bind fun v9 =>
 (some V.any).bind fun v10 =>
 ((nodeL x2 none 0).bind fun l11 => (ldk none (List.drop 2 l11)).bind pureO).bind fun v12 =>
 (lenS [v12]).bind fun v13 =>
 (bin2 Tryz.prog BinOp.sub 3 (ot 23) (oc 1) v13 (vi 1)).bind fun v14 =>
 (idxS 3 v8 v14).bind fun v15 =>
 (ldp (some 3) v15).bind fun v16 =>
 (spliceV [(vi 0), (vi 0), (vi 0)] 0 3 v16).bind fun v17 =>
 (ldk (some 2) (List.drop 0 (aggL v17))).bind fun v18 =>
 (ldk none (List.drop 2 (aggL v17))).bind fun v19 =>
 ((sem_net_Out n) [x1, v18, v19]).bind fun v20 =>
 (extractV v20 0).bind fun v21 =>
 (extractV v20 1).bind fun v22 =>
 (extractV v20 2).bind fun v23 =>
 (spliceV [(vi 0), (vi 0)] 0 2 v21).bind fun v24 =>
 (scal1 Tryz.prog (Op.unary Go.UnOp.not) v23).bind fun v25 =>
 condV v25 (
 (some V.any).bind fun v26 =>
 (some V.any).bind fun v27 =>
 (V.cellsO (vi 2)).bind fun v28 =>
 (setV x2 [] (Stp.mk none 0 0) 1 v28).bind fun v29 =>
 some (V.tup [(vb false), V.any, V.any, v29])) (
 (ldk (some 3) (List.drop 0 v4)).bind fun v30 =>
 (ldk (some 2) (List.drop 0 (aggL v24))).bind fun v31 =>
 ((sem_topo_Host n) [v30, v31]).bind fun v32 =>
 (extractV v32 0).bind fun v33 =>
 (extractV v32 1).bind fun v34 =>
 condV v34 (
 (some V.any).bind fun v35 =>
 (some V.any).bind fun v36 =>
 (V.cellsO (vi 1)).bind fun v37 =>
 (setV x2 [] (Stp.mk none 0 0) 1 v37).bind fun v38 =>
 (some V.any).bind fun v39 =>
 (some V.any).bind fun v40 =>
 (V.cellsO v33).bind fun v41 =>
 (setV v38 [] (Stp.mk none 1 0) 1 v41).bind fun v42 =>
 some (V.tup [(vb false), V.any, V.any, v42])) (
 (ldk (some 3) (List.drop 0 v4)).bind fun v43 =>
 (ldk (some 2) (List.drop 0 (aggL v24))).bind fun v44 =>
 ((sem_topo_Other n) [v43, v44]).bind fun v45 =>
 (extractV v45 0).bind fun v46 =>
 (extractV v45 1).bind fun v47 =>
 (spliceV [(vi 0), (vi 0)] 0 2 v46).bind fun v48 =>
 (scal1 Tryz.prog (Op.unary Go.UnOp.not) v47).bind fun v49 =>
 condV v49 (
 (some V.any).bind fun v50 =>
 (some V.any).bind fun v51 =>
 (V.cellsO (vi 3)).bind fun v52 =>
 (setV x2 [] (Stp.mk none 0 0) 1 v52).bind fun v53 =>
 some (V.tup [(vb false), V.any, V.any, v53])) (
 (ldk (some 2) (List.drop 0 (aggL v48))).bind fun v54 =>
 ((fillL [(vi 0), (vi 0), (vi 0)] [(0, 2, v54), (2, 1, v22)]).map V.agg).bind fun v55 =>
 (spliceV [(vi 0), (vi 0), (vi 0)] 0 3 v55).bind fun v56 =>
 (some V.any).bind fun v57 =>
 (some V.any).bind fun v58 =>
 ((nodeL x2 none 0).bind fun l59 => (ldk none (List.drop 2 l59)).bind pureO).bind fun v60 =>
 (ldk (some 3) (List.drop 0 (aggL v56))).bind fun v61 =>
 ((sem_slices_Contains_api_Hop_api_Hop n) [v60, v61]).bind fun v62 =>
 (guardV v62 false (some V.any)).bind fun v63 =>
 (guardV v62 false (gate v62 false (some V.any))).bind fun v64 =>
 (guardV v62 false (gate v62 false (gate v62 false (some V.any)))).bind fun v65 =>
 (guardV v62 false ((gate v62 false (gate v62 false (gate v62 false ((nodeL x2 none 0).bind fun l66 => (ldk none (List.drop 2 l66)).bind pureO)))).bind fun v67 =>
 some v67)).bind fun v68 =>
 (guardV v62 false ((lenS [v68]).bind fun v69 =>
 some v69)).bind fun v70 =>
 (guardV v62 false ((bin2 Tryz.prog BinOp.geq 3 (ot 81) (oc 24) v70 (vi 24)).bind fun v71 =>
 some v71)).bind fun v72 =>
 (pickV v62 (vb true) v72).bind fun v73 =>
 condV v73 (
 (some V.any).bind fun v74 =>
 (some V.any).bind fun v75 =>
 (V.cellsO (vi 4)).bind fun v76 =>
 (setV x2 [] (Stp.mk none 0 0) 1 v76).bind fun v77 =>
 some (V.tup [(vb false), V.any, V.any, v77])) (
 (some V.any).bind fun v78 =>
 (some V.any).bind fun v79 =>
 ((nodeL x2 none 0).bind fun l80 => (ldk none (List.drop 2 l80)).bind pureO).bind fun v81 =>
 ((semClone 3) [v81]).bind fun v82 =>
 (ldk (some 3) (List.drop 0 (aggL v56))).bind fun v83 =>
 (slcB 3 1 [(vi 0), (vi 0), (vi 0)] [(0, v83)]).bind fun v84 =>
 (appV 3 (slL3 v82) v84).bind fun v85 =>
 (some V.any).bind fun v86 =>
 (some V.any).bind fun v87 =>
 (V.cellsO (V.sl (slL v85))).bind fun v88 =>
 (setV x2 [] (Stp.mk none 2 0) 1 v88).bind fun v89 =>
 some (V.tup [(vb true), V.any, V.any, v89]))))) := by kernel_rfl
noncomputable def t_net_Go (a0 : T_Topo) (a1 : (List T_Rule)) (a2 : T_Fate) : Option (Bool × T_Fate) :=
 (idx a2.Hops (wr ((List.length a2.Hops : Int) - 1))).bind fun r14 =>
 (t_net_Out a1 r14.At r14.Header).bind fun r20 =>
 if (!r20.2.2) = true then (
 some (false, (T_Fate.mk 2 a2.Host a2.Hops))) else (
 (t_topo_Host a0 r20.1).bind fun r34 =>
 if r34.2 = true then (
 some (false, (T_Fate.mk 1 r34.1 a2.Hops))) else (
 (t_topo_Other a0 r20.1).bind fun r49 =>
 if (!r49.2) = true then (
 some (false, (T_Fate.mk 3 a2.Host a2.Hops))) else (
 (t_slices_Contains_api_Hop_api_Hop a2.Hops (T_Hop.mk r49.1 r20.2.1)).bind fun r67 =>
 if (r67 || (decide (24 ≤ (List.length a2.Hops : Int)))) = true then (
 some (false, (T_Fate.mk 4 a2.Host a2.Hops))) else (
 (cln a2.Hops).bind fun r93 =>
 (app r93 ([(T_Hop.mk r49.1 r20.2.1)] : (List T_Hop))).bind fun r97 =>
 some (true, (T_Fate.mk a2.How a2.Host r97))))))
theorem ty_net_Go {n : Nat} (hn : bigN ≤ n) (a0 : T_Topo) (a1 : (List T_Rule)) (a2 : T_Fate) : Rv (fun x : (Bool × T_Fate) => (V.tup [(vb x.1), V.any, V.any, (V.obj (T_Fate.c x.2))])) (sem_net_Go n [(T_Topo.e a0), (V.sl (List.map T_Rule.c a1)), (V.obj (T_Fate.c a2))]) (t_net_Go a0 a1 a2) := by
 rw [eq_net_Go]
 unfold t_net_Go; refine tb (x := (T_Topo.e a0)) rfl ?_; refine tb (x := (V.sl (List.map T_Rule.c a1))) rfl ?_; refine tb (x := V.any) rfl ?_; refine tb (x := (T_Topo.c a0)) rfl ?_; refine tb (x := V.any) rfl ?_; refine tb (x := V.any) rfl ?_; refine tb (x := (V.sl (List.map T_Hop.c a2.Hops))) (rfl) ?_; refine tb (x := V.any) rfl ?_; refine tb (x := V.any) rfl ?_; refine tb (x := (V.sl (List.map T_Hop.c a2.Hops))) (rfl) ?_; refine tb (x := (vi (List.length a2.Hops : Int))) (p_len _) ?_; refine tb (x := (vi (wr ((List.length a2.Hops : Int) - 1)))) (d_sub) ?_; refine tbo (p_idx (c := T_Hop.c) (fun _ => rfl) a2.Hops (wr ((List.length a2.Hops : Int) - 1))) fun r14 => ?_; refine tb (x := (T_Hop.e r14)) (rfl) ?_; refine tb (x := V.agg (T_Hop.c r14)) (by kernel_rfl) ?_; refine tb (x := (T_Spot.e r14.At)) (rfl) ?_; refine tb (x := (vi r14.Header)) (rfl) ?_; refine tbo (ty_net_Out hn a1 r14.At r14.Header) fun r20 => ?_; refine tb (x := (T_Spot.e r20.1)) (rfl) ?_; refine tb (x := (vi r20.2.1)) (rfl) ?_; refine tb (x := (vb r20.2.2)) (rfl) ?_; refine tb (x := V.agg (T_Spot.c r20.1)) (by kernel_rfl) ?_; refine tb (x := (vb (!r20.2.2))) (d_not) ?_; refine tcond (fun h26 => ?_) (fun h26 => ?_)
 ·refine tb (x := V.any) rfl ?_; refine tb (x := V.any) rfl ?_; refine tb (x := [(vi 2)]) rfl ?_; refine tb (x := V.obj (T_Fate.c (T_Fate.mk 2 a2.Host a2.Hops))) (by kernel_rfl) ?_; exact rf_ret rfl
 ·refine tb (x := (T_Topo.e a0)) (rfl) ?_; refine tb (x := (T_Spot.e r20.1)) (rfl) ?_; refine tbo (ty_topo_Host hn a0 r20.1) fun r34 => ?_; refine tb (x := (vt r34.1)) (rfl) ?_; refine tb (x := (vb r34.2)) (rfl) ?_; refine tcond (fun h37 => ?_) (fun h37 => ?_)
  ·refine tb (x := V.any) rfl ?_; refine tb (x := V.any) rfl ?_; refine tb (x := [(vi 1)]) rfl ?_; refine tb (x := V.obj (T_Fate.c (T_Fate.mk 1 a2.Host a2.Hops))) (by kernel_rfl) ?_; refine tb (x := V.any) rfl ?_; refine tb (x := V.any) rfl ?_; refine tb (x := [(vt r34.1)]) rfl ?_; refine tb (x := V.obj (T_Fate.c (T_Fate.mk 1 r34.1 a2.Hops))) (by kernel_rfl) ?_; exact rf_ret rfl
  ·refine tb (x := (T_Topo.e a0)) (rfl) ?_; refine tb (x := (T_Spot.e r20.1)) (rfl) ?_; refine tbo (ty_topo_Other hn a0 r20.1) fun r49 => ?_; refine tb (x := (T_Spot.e r49.1)) (rfl) ?_; refine tb (x := (vb r49.2)) (rfl) ?_; refine tb (x := V.agg (T_Spot.c r49.1)) (by kernel_rfl) ?_; refine tb (x := (vb (!r49.2))) (d_not) ?_; refine tcond (fun h54 => ?_) (fun h54 => ?_)
   ·refine tb (x := V.any) rfl ?_; refine tb (x := V.any) rfl ?_; refine tb (x := [(vi 3)]) rfl ?_; refine tb (x := V.obj (T_Fate.c (T_Fate.mk 3 a2.Host a2.Hops))) (by kernel_rfl) ?_; exact rf_ret rfl
   ·refine tb (x := (T_Spot.e r49.1)) (rfl) ?_; refine tb (x := (T_Hop.e (T_Hop.mk r49.1 r20.2.1))) (by kernel_rfl) ?_; refine tb (x := V.agg (T_Hop.c (T_Hop.mk r49.1 r20.2.1))) (by kernel_rfl) ?_; refine tb (x := V.any) rfl ?_; refine tb (x := V.any) rfl ?_; refine tb (x := (V.sl (List.map T_Hop.c a2.Hops))) (rfl) ?_; refine tb (x := (T_Hop.e (T_Hop.mk r49.1 r20.2.1))) (rfl) ?_; refine tbo (ty_slices_Contains_api_Hop_api_Hop hn a2.Hops (T_Hop.mk r49.1 r20.2.1)) fun r67 => ?_; refine tg_f (x := V.any) (fun h68 => rfl) ?_; refine tg_f (x := V.any) (fun h70 => by first | exact gate_pos (not_t h70) (rfl) | (simp only [gv_t h70]; exact gate_pos (not_t h70) (rfl))) ?_; refine tg_f (x := V.any) (fun h72 => by first | exact gate_pos (not_t h72) (gate_pos (not_t h72) (rfl)) | (simp only [gv_t h72]; exact gate_pos (not_t h72) (gate_pos (not_t h72) (rfl)))) ?_; refine tg_f (x := (V.sl (List.map T_Hop.c a2.Hops))) (fun h74 => by first | exact bind_some_eq (gate_pos (not_t h74) (gate_pos (not_t h74) (gate_pos (not_t h74) (rfl)))) | (simp only [gv_t h74]; exact bind_some_eq (gate_pos (not_t h74) (gate_pos (not_t h74) (gate_pos (not_t h74) (rfl)))))) ?_; refine tg_f (x := (vi (List.length a2.Hops : Int))) (fun h77 => by simp only [gv_t h77]; exact bind_some_eq (p_len _)) ?_; refine tg_f (x := (vb (decide (24 ≤ (List.length a2.Hops : Int))))) (fun h80 => by simp only [gv_t h80]; exact bind_some_eq (d_geq)) ?_; refine tb (x := (vb (r67 || (decide (24 ≤ (List.length a2.Hops : Int)))))) (pick_or (fun h9 => gv_t (not_f h9))) ?_; refine tcond (fun h84 => ?_) (fun h84 => ?_)
    ·refine tb (x := V.any) rfl ?_; refine tb (x := V.any) rfl ?_; refine tb (x := [(vi 4)]) rfl ?_; refine tb (x := V.obj (T_Fate.c (T_Fate.mk 4 a2.Host a2.Hops))) (by kernel_rfl) ?_; exact rf_ret rfl
    ·refine tb (x := V.any) rfl ?_; refine tb (x := V.any) rfl ?_; refine tb (x := (V.sl (List.map T_Hop.c a2.Hops))) (rfl) ?_; refine tbo (p_clone (c := T_Hop.c) (fun _ => rfl) a2.Hops) fun r93 => ?_; refine tb (x := (T_Hop.e (T_Hop.mk r49.1 r20.2.1))) (rfl) ?_; refine tb (x := (V.sl (List.map T_Hop.c ([(T_Hop.mk r49.1 r20.2.1)] : (List T_Hop))))) (by kernel_rfl) ?_; refine tbo (p_app (c := T_Hop.c) (fun _ => rfl) r93 ([(T_Hop.mk r49.1 r20.2.1)] : (List T_Hop))) fun r97 => ?_; refine tb (x := V.any) rfl ?_; refine tb (x := V.any) rfl ?_; refine tb (x := [(V.sl (List.map T_Hop.c r97))]) rfl ?_; refine tb (x := V.obj (T_Fate.c (T_Fate.mk a2.How a2.Host r97))) (by kernel_rfl) ?_; exact rf_ret rfl
def an_net_Of : Ann := .seq (.reg 0 [] [] []) (.seq (.reg 0 [] [] [7]) (.seq (.blk (some [.kb 6, .o 7]) (.loop [.kb 3, .kb 6, .o 7] (.seq (.seq (.reg 17 [] [] []) (.cond none (.no) (.no))) (.blk none (.no))))) (.seq (.reg 0 [] [] []) (.no))))
noncomputable def sem_net_Of (n : Nat) (xs : List V) : Option V := if xs.length ≤ 30 then denF Tryz.prog (envOf [(82, (sem_net_Begin n)), (83 + 1000000, (sem_net_Go n))]) n Tryz.f66 an_net_Of xs else none
theorem ok_net_Of (n : Nat) : SemOk Tryz.prog DW 66 (sem_net_Of n) := fun xs y h => by
 unfold sem_net_Of at h
 split at h
 ·rename_i hl
  exact denF_ok stb Tryz.func66 (by kernel_rfl) (envOf_ok (semsOk_cons (ok_net_Begin n) (semsOk_consM (ok_net_Go n) semsOk_nil))) (by rw [Tryz.ntmps66]; exact hl) h
 ·cases h
theorem eq_net_Of (n : Nat) (x0 x1 x2 : V) : sem_net_Of n [x0, x1, x2] =
 (V.cellsO x0).bind fun v1 =>
 (V.cellsO x1).bind fun v2 =>
 (ldk (some 2) (List.drop 0 v2)).bind fun v3 =>
 ((sem_net_Begin n) [v3, x2]).bind fun v4 =>
 (V.cellsO v4).bind fun v5 =>
 (setV (V.obj [(vi 0), (vt ⟨#[]⟩), (V.sl [])]) [] (Stp.mk none 0 0) 3 v5).bind fun v6 =>
 JoinPt (fun vs7 =>
 ((nodeL (List.getD vs7 0 V.any) none 0).bind fun l9 => (ldk (some 3) (List.drop 0 l9)).bind pureO).bind fun v10 =>
 (spliceV [(vi 0), (vt ⟨#[]⟩), (V.sl [])] 0 3 v10).bind fun v11 =>
 (ldk (some 3) (List.drop 0 (aggL v11))).bind fun v12 =>
 some v12) fun J8 =>
 (keepO (some v1) (some v1) (keepO (some [(vi 0), (vt ⟨#[]⟩), (V.sl [])]) (some [(vi 0), (vt ⟨#[]⟩), (V.sl [])]) (some [v6]))).bind (fixN (fun rec13 vs14 =>
 (ldk (some 3) (List.drop 0 v1)).bind fun v15 =>
 (ldk none (List.drop 3 v1)).bind fun v16 =>
 (some V.any).bind fun v17 =>
 ((nodeL (List.getD vs14 0 V.any) none 0).bind fun l18 => (ldk none (List.drop 2 l18)).bind pureO).bind fun v19 =>
 (some V.any).bind fun v20 =>
 ((nodeL (List.getD vs14 0 V.any) none 0).bind fun l21 => (ldk none (List.drop 2 l21)).bind pureO).bind fun v22 =>
 (lenS [v22]).bind fun v23 =>
 (bin2 Tryz.prog BinOp.sub 3 (ot 19) (oc 1) v23 (vi 1)).bind fun v24 =>
 (idxS 3 v19 v24).bind fun v25 =>
 (ptrF 0 v25).bind fun v26 =>
 (ptrF 0 v26).bind fun v27 =>
 (ldp none v27).bind fun v28 =>
 (bin2 Tryz.prog BinOp.sub 3 (ot 24) (oc 1) v28 (vi 1)).bind fun v29 =>
 (idxS 1 v16 v29).bind fun v30 =>
 (ldp none v30).bind fun v31 =>
 (objG (List.getD vs14 0 V.any)).bind fun v32 =>
 ((sem_net_Go n) [v15, v31, (List.getD vs14 0 V.any)]).bind fun z33 =>
 (pureO (tupAt z33 0)).bind fun v34 =>
 condV v34 (
 (keepO (some v1) (some v1) (keepO (some [(vi 0), (vt ⟨#[]⟩), (V.sl [])]) (some [(vi 0), (vt ⟨#[]⟩), (V.sl [])]) (some [(tupAt z33 3)]))).bind rec13) (
 (keepO (some [(vi 0), (vt ⟨#[]⟩), (V.sl [])]) (some [(vi 0), (vt ⟨#[]⟩), (V.sl [])]) (some [(tupAt z33 3)])).bind J8)) n) := by kernel_rfl
noncomputable def t_net_Of (a0 : T_Net) (a1 : T_Spot) (a2 : Int) : Option T_Fate :=
 (t_net_Begin a1 a2).bind fun r5 =>
 (tfix (fun k19 (s18 : T_Fate) =>
 (idx s18.Hops (wr ((List.length s18.Hops : Int) - 1))).bind fun r32 =>
 (idx a0.Tables (wr (r32.At.Switch - 1))).bind fun r38 =>
 (t_net_Go a0.Topo r38 s18).bind fun r42 =>
 if r42.1 = true then (
 k19 (r42.2)) else (
 some (r42.2))) bigN (r5)).bind fun (s10 : T_Fate) =>
 some s10
theorem ty_net_Of {n : Nat} (hn : bigN ≤ n) (a0 : T_Net) (a1 : T_Spot) (a2 : Int) : Rv (fun x : T_Fate => (T_Fate.e x)) (sem_net_Of n [(T_Net.e a0), (T_Spot.e a1), (vi a2)]) (t_net_Of a0 a1 a2) := by
 rw [eq_net_Of]
 unfold t_net_Of; refine tb (x := (T_Net.c a0)) rfl ?_; refine tb (x := (T_Spot.c a1)) rfl ?_; refine tb (x := (T_Spot.e a1)) (rfl) ?_; refine tbo (ty_net_Begin hn a1 a2) fun r5 => ?_; refine tb (x := (T_Fate.c r5)) rfl ?_; refine tb (x := V.obj (T_Fate.c r5)) (by kernel_rfl) ?_; refine tjb (mk := fun s10 : T_Fate => [(V.obj (T_Fate.c s10))]) (fun J9 => ?_) fun s10 => ?_
 ·refine tkeepO2 ?_ rfl; refine tkeepO2 ?_ rfl; refine tsome ?_; refine rf_fixN (mk := fun (s18 : T_Fate) => [(V.obj (T_Fate.c s18))]) hn (r5) (fun rec16 k19 h20 s18 => ?_); refine tb (x := (T_Topo.e a0.Topo)) (rfl) ?_; refine tb (x := (V.sl (List.map (cS T_Rule.c) a0.Tables))) (rfl) ?_; refine tb (x := V.any) rfl ?_; refine tb (x := (V.sl (List.map T_Hop.c s18.Hops))) (rfl) ?_; refine tb (x := V.any) rfl ?_; refine tb (x := (V.sl (List.map T_Hop.c s18.Hops))) (rfl) ?_; refine tb (x := (vi (List.length s18.Hops : Int))) (p_len _) ?_; refine tb (x := (vi (wr ((List.length s18.Hops : Int) - 1)))) (d_sub) ?_; refine tbo (p_idx (c := T_Hop.c) (fun _ => rfl) s18.Hops (wr ((List.length s18.Hops : Int) - 1))) fun r32 => ?_; refine tb (x := (V.ptr (T_Hop.c r32))) (rfl) ?_; refine tb (x := (V.ptr (T_Hop.c r32))) (rfl) ?_; refine tb (x := (vi r32.At.Switch)) (rfl) ?_; refine tb (x := (vi (wr (r32.At.Switch - 1)))) (d_sub) ?_; refine tbo (p_idx (c := (cS T_Rule.c)) (fun _ => rfl) a0.Tables (wr (r32.At.Switch - 1))) fun r38 => ?_; refine tb (x := (V.sl (List.map T_Rule.c r38))) (rfl) ?_; refine tb (x := V.any) rfl ?_; refine tbo (ty_net_Go hn a0.Topo r38 s18) fun r42 => ?_; refine tb (x := (vb r42.1)) rfl ?_; refine tcond (fun h44 => ?_) (fun h44 => ?_)
  ·refine tkeepO2 ?_ rfl; refine tkeepO2 ?_ rfl; refine tsome ?_; exact h20 (r42.2)
  ·refine tkeepO2 ?_ rfl; refine tsome ?_; exact rf_j rfl
 ·refine tb (x := (T_Fate.e s10)) (rfl) ?_; refine tb (x := V.agg (T_Fate.c s10)) (by kernel_rfl) ?_; refine tb (x := (T_Fate.e s10)) rfl ?_; exact rf_ret rfl
def an_wish_Holds_1 : Ann := .seq (.reg 0 [] [] []) (.seq (.reg 0 [] [] []) (.no))
noncomputable def sem_wish_Holds_1 (n : Nat) (xs : List V) : Option V := if xs.length ≤ 12 then denF Tryz.prog (envOf [(66, (sem_net_Of n))]) n Tryz.f65 an_wish_Holds_1 xs else none
theorem ok_wish_Holds_1 (n : Nat) : SemOk Tryz.prog DW 65 (sem_wish_Holds_1 n) := fun xs y h => by
 unfold sem_wish_Holds_1 at h
 split at h
 ·rename_i hl
  exact denF_ok stb Tryz.func65 (by kernel_rfl) (envOf_ok (semsOk_cons (ok_net_Of n) semsOk_nil)) (by rw [Tryz.ntmps65]; exact hl) h
 ·cases h
theorem eq_wish_Holds_1 (n : Nat) (x0 x1 x2 : V) : sem_wish_Holds_1 n [x0, x1, x2] =
 (V.cellsO x0).bind fun v1 =>
 (ldp (some 4) x2).bind fun v2 =>
 (ldk (some 2) (List.drop 1 v1)).bind fun v3 =>
 ((sem_net_Of n) [v2, v3, x1]).bind fun v4 =>
 (slcB 3 1 [(vi 0), (vt ⟨#[]⟩), (V.sl [])] [(0, v4)]).bind fun v5 =>
 some v5 := by kernel_rfl
noncomputable def t_wish_Holds_1 (a0 : T_Host) (a1 : Int) (a2 : T_Net) : Option (List T_Fate) :=
 (t_net_Of a2 a0.At a1).bind fun r5 =>
 some ([r5] : (List T_Fate))
theorem ty_wish_Holds_1 {n : Nat} (hn : bigN ≤ n) (a0 : T_Host) (a1 : Int) (a2 : T_Net) : Rv (fun x : (List T_Fate) => (V.sl (List.map T_Fate.c x))) (sem_wish_Holds_1 n [(T_Host.e a0), (vi a1), (V.ptr (T_Net.c a2))]) (t_wish_Holds_1 a0 a1 a2) := by
 rw [eq_wish_Holds_1]
 unfold t_wish_Holds_1; refine tb (x := (T_Host.c a0)) rfl ?_; refine tb (x := (T_Net.e a2)) (rfl) ?_; refine tb (x := (T_Spot.e a0.At)) (rfl) ?_; refine tbo (ty_net_Of hn a2 a0.At a1) fun r5 => ?_; refine tb (x := (V.sl (List.map T_Fate.c ([r5] : (List T_Fate))))) (by kernel_rfl) ?_; exact rf_ret rfl
def an_wish_Holds : Ann := .seq (.reg 0 [] [] []) (.seq (.seq (.reg 0 [2] [] []) (.seq (.reg 0 [] [] []) (.cond none (.seq (.reg 0 [] [] []) (.no)) (.no)))) (.seq (.seq (.reg 0 [] [] []) (.seq (.reg 0 [] [] []) (.cond none (.seq (.reg 0 [] [] []) (.no)) (.no)))) (.seq (.reg 0 [] [] []) (.seq (.seq (.reg 0 [] [] []) (.cond none (.seq (.reg 0 [] [] []) (.no)) (.no))) (.seq (.reg 0 [] [] []) (.no))))))
noncomputable def sem_wish_Holds (n : Nat) (xs : List V) : Option V := if xs.length ≤ 36 then denF Tryz.prog (envOf [(63, (sem_net_Check n)), (22, (sem_wish_Check n)), (64, (sem_wish_Seek (envOf [(65, (sem_wish_Holds_1 n))]) n)), (65, (sem_wish_Holds_1 n))]) n Tryz.f30 an_wish_Holds xs else none
theorem ok_wish_Holds (n : Nat) : SemOk Tryz.prog DW 30 (sem_wish_Holds n) := fun xs y h => by
 unfold sem_wish_Holds at h
 split at h
 ·rename_i hl
  exact denF_ok stb Tryz.func30 (by kernel_rfl) (envOf_ok (semsOk_cons (ok_net_Check n) (semsOk_cons (ok_wish_Check n) (semsOk_cons (ok_wish_Seek (envOf_ok (semsOk_cons (ok_wish_Holds_1 n) semsOk_nil)) n) (semsOk_cons (ok_wish_Holds_1 n) semsOk_nil))))) (by rw [Tryz.ntmps30]; exact hl) h
 ·cases h
theorem eq_wish_Holds (n : Nat) (x0 x1 : V) : sem_wish_Holds n [x0, x1] =
 (V.cellsO x0).bind fun v1 =>
 (ldp (some 4) (V.ptr v1)).bind fun v2 =>
 ((sem_net_Check n) [v2]).bind fun v3 =>
 (bin2 Tryz.prog BinOp.neq 31 (ot 12) (Operand.const Go.Value.nilIface) v3 vn).bind fun v4 =>
 condV v4 (
 ((fillL [(vi 0), (vt ⟨#[]⟩), (vi 0)] []).map V.agg).bind fun v5 =>
 (spliceV [(vi 0), (vt ⟨#[]⟩), (vi 0)] 0 3 v5).bind fun v6 =>
 (ldk (some 3) (List.drop 0 (aggL v6))).bind fun v7 =>
 some (V.tup [v7, v3])) (
 (ptrF 0 (V.ptr v1)).bind fun v8 =>
 (ldp (some 3) v8).bind fun v9 =>
 ((sem_wish_Check n) [v9, x1]).bind fun v10 =>
 (bin2 Tryz.prog BinOp.neq 31 (ot 20) (Operand.const Go.Value.nilIface) v10 vn).bind fun v11 =>
 condV v11 (
 ((fillL [(vi 0), (vt ⟨#[]⟩), (vi 0)] []).map V.agg).bind fun v12 =>
 (spliceV [(vi 0), (vt ⟨#[]⟩), (vi 0)] 0 3 v12).bind fun v13 =>
 (ldk (some 3) (List.drop 0 (aggL v13))).bind fun v14 =>
 some (V.tup [v14, v10])) (
 (ptrF 0 (V.ptr v1)).bind fun v15 =>
 (ldp (some 3) v15).bind fun v16 =>
 ((sem_wish_Seek (envOf [(65, (sem_wish_Holds_1 n))]) n) [v16, x1, (V.fn 65 [(V.ptr v1)])]).bind fun v17 =>
 (extractV v17 0).bind fun v18 =>
 (extractV v17 1).bind fun v19 =>
 (spliceV [(vi 0), (vt ⟨#[]⟩), (vi 0)] 0 3 v18).bind fun v20 =>
 condV v19 (
 (ldk (some 3) (List.drop 0 (aggL v20))).bind fun v21 =>
 (scal1 Tryz.prog (Instr.makeInterface 86) (vi 9)).bind fun v22 =>
 (spliceV [(vi 0), (vt ⟨#[]⟩), (vi 0)] 0 3 v21).bind fun v23 =>
 (ldk (some 3) (List.drop 0 (aggL v23))).bind fun v24 =>
 some (V.tup [v24, v22])) (
 (ldk (some 3) (List.drop 0 (aggL v20))).bind fun v25 =>
 (spliceV [(vi 0), (vt ⟨#[]⟩), (vi 0)] 0 3 v25).bind fun v26 =>
 (ldk (some 3) (List.drop 0 (aggL v26))).bind fun v27 =>
 some (V.tup [v27, vn])))) := by kernel_rfl
noncomputable def t_wish_Holds (a0 : T_Net) (a1 : (List T_Wish)) : Option (T_PProof × Int) :=
 (t_net_Check a0).bind fun r4 =>
 if (!decide (r4 = 0)) = true then (
 some ((T_PProof.mk 0 (ByteArray.mk #[]) 0), r4)) else (
 (t_wish_Check a0.Topo a1).bind fun r13 =>
 if (!decide (r13 = 0)) = true then (
 some ((T_PProof.mk 0 (ByteArray.mk #[]) 0), r13)) else (
 (t_wish_Seek a0.Topo a1 (fun (a21 : T_Host) (a22 : Int) => t_wish_Holds_1 a21 a22 a0)).bind fun r24 =>
 if r24.2 = true then (
 some (r24.1, 9)) else (
 some (r24.1, 0))))
theorem ty_wish_Holds {n : Nat} (hn : bigN ≤ n) (a0 : T_Net) (a1 : (List T_Wish)) : Rv (fun x : (T_PProof × Int) => V.tup [(T_PProof.e x.1), (eV x.2)]) (sem_wish_Holds n [(T_Net.e a0), (V.sl (List.map T_Wish.c a1))]) (t_wish_Holds a0 a1) := by
 rw [eq_wish_Holds]
 unfold t_wish_Holds; refine tb (x := (T_Net.c a0)) rfl ?_; refine tb (x := (T_Net.e a0)) (rfl) ?_; refine tbo (ty_net_Check hn a0) fun r4 => ?_; refine tb (x := (vb (!decide (r4 = 0)))) (p_err_neq _) ?_; refine tcond (fun h6 => ?_) (fun h6 => ?_)
 ·refine tb (x := (T_PProof.e (T_PProof.mk 0 (ByteArray.mk #[]) 0))) (by kernel_rfl) ?_; refine tb (x := V.agg (T_PProof.c (T_PProof.mk 0 (ByteArray.mk #[]) 0))) (by kernel_rfl) ?_; refine tb (x := (T_PProof.e (T_PProof.mk 0 (ByteArray.mk #[]) 0))) rfl ?_; exact rf_ret rfl
 ·refine tb (x := (V.ptr (T_Net.c a0))) (rfl) ?_; refine tb (x := (T_Topo.e a0.Topo)) (rfl) ?_; refine tbo (ty_wish_Check hn a0.Topo a1) fun r13 => ?_; refine tb (x := (vb (!decide (r13 = 0)))) (p_err_neq _) ?_; refine tcond (fun h15 => ?_) (fun h15 => ?_)
  ·refine tb (x := (T_PProof.e (T_PProof.mk 0 (ByteArray.mk #[]) 0))) (by kernel_rfl) ?_; refine tb (x := V.agg (T_PProof.c (T_PProof.mk 0 (ByteArray.mk #[]) 0))) (by kernel_rfl) ?_; refine tb (x := (T_PProof.e (T_PProof.mk 0 (ByteArray.mk #[]) 0))) rfl ?_; exact rf_ret rfl
  ·refine tb (x := (V.ptr (T_Net.c a0))) (rfl) ?_; refine tb (x := (T_Topo.e a0.Topo)) (rfl) ?_; refine tbo (ty_wish_Seek (E := (envOf [(65, (sem_wish_Holds_1 n))])) (x2 := (V.fn 65 [(V.ptr (T_Net.c a0))])) (g2 := (fun (a21 : T_Host) (a22 : Int) => t_wish_Holds_1 a21 a22 a0)) hn a0.Topo a1 (fun a21 a22 => ty_wish_Holds_1 hn a21 a22 a0) (fun _ => rfl)) fun r24 => ?_; refine tb (x := (T_PProof.e r24.1)) (rfl) ?_; refine tb (x := (vb r24.2)) (rfl) ?_; refine tb (x := V.agg (T_PProof.c r24.1)) (by kernel_rfl) ?_; refine tcond (fun h28 => ?_) (fun h28 => ?_)
   ·refine tb (x := (T_PProof.e r24.1)) (rfl) ?_; refine tb (x := (eV 9)) (p_mkE (by decide)) ?_; refine tb (x := V.agg (T_PProof.c r24.1)) (by kernel_rfl) ?_; refine tb (x := (T_PProof.e r24.1)) rfl ?_; exact rf_ret rfl
   ·refine tb (x := (T_PProof.e r24.1)) (rfl) ?_; refine tb (x := V.agg (T_PProof.c r24.1)) (by kernel_rfl) ?_; refine tb (x := (T_PProof.e r24.1)) rfl ?_; exact rf_ret rfl
def an_raillaw1_WishTells : Ann := .seq (.reg 0 [] [] []) (.seq (.reg 10 [] [] []) (.seq (.reg 0 [] [] []) (.seq (.reg 0 [] [] []) (.seq (.reg 0 [] [] []) (.seq (.reg 0 [] [] []) (.seq (.reg 0 [] [] []) (.seq (.seq (.reg 0 [] [] []) (.cond (some [.kb 6, .kb 8, .kb 11, .s 15, .b 19]) (.seq (.reg 0 [] [] []) (.reg 0 [] [] [])) (.no))) (.seq (.reg 0 [] [] []) (.seq (.reg 0 [] [] []) (.seq (.reg 0 [] [] []) (.seq (.seq (.reg 0 [] [] []) (.cond (some [.kb 6, .kb 8, .kb 11, .kb 19, .kb 21, .s 15]) (.reg 0 [] [] []) (.no))) (.seq (.reg 0 [] [] []) (.seq (.seq (.reg 0 [] [] []) (.cond (some [.kb 6, .kb 8, .kb 11, .kb 19, .kb 21, .s 15, .b 23]) (.seq (.reg 0 [] [] []) (.seq (.reg 0 [] [] []) (.seq (.reg 0 [] [] []) (.cond (some [.kb 6, .kb 8, .kb 11, .kb 19, .kb 21, .kb 23, .s 15]) (.reg 0 [] [] []) (.no))))) (.no))) (.seq (.reg 0 [] [] []) (.seq (.reg 0 [] [] []) (.seq (.reg 20 [] [] []) (.seq (.reg 0 [] [] []) (.no))))))))))))))))))
noncomputable def sem_raillaw1_WishTells (n : Nat) (xs : List V) : Option V := if xs.length ≤ 142 then denF Tryz.prog (envOf [(22, (sem_wish_Check n)), (23, (sem_railref1_Wishes n)), (6, (sem_Error n)), (24, (sem_railref1_ShowWish n)), (25, (sem_WPrint n)), (26, (sem_railref1_ReadWish n)), (27, (sem_wish_Parse n)), (28, (sem_railref1_Net n)), (29, (sem_railref1_Holds n)), (30, (sem_wish_Holds n)), (31, (sem_wish_Fits n)), (32, (sem_railref1_Fits n))]) n Tryz.f4 an_raillaw1_WishTells xs else none
theorem ok_raillaw1_WishTells (n : Nat) : SemOk Tryz.prog DW 4 (sem_raillaw1_WishTells n) := fun xs y h => by
 unfold sem_raillaw1_WishTells at h
 split at h
 ·rename_i hl
  exact denF_ok stb Tryz.func4 (by kernel_rfl) (envOf_ok (semsOk_cons (ok_wish_Check n) (semsOk_cons (ok_railref1_Wishes n) (semsOk_cons (ok_Error n) (semsOk_cons (ok_railref1_ShowWish n) (semsOk_cons (ok_WPrint n) (semsOk_cons (ok_railref1_ReadWish n) (semsOk_cons (ok_wish_Parse n) (semsOk_cons (ok_railref1_Net n) (semsOk_cons (ok_railref1_Holds n) (semsOk_cons (ok_wish_Holds n) (semsOk_cons (ok_wish_Fits n) (semsOk_cons (ok_railref1_Fits n) semsOk_nil))))))))))))) (by rw [Tryz.ntmps4]; exact hl) h
 ·cases h
theorem eq_raillaw1_WishTells (n : Nat) (x0 x1 x2 x3 x4 x5 : V) : sem_raillaw1_WishTells n [x0, x1, x2, x3, x4, x5] =
 (V.cellsO x0).bind fun v1 =>
 (V.cellsO x2).bind fun v2 =>
 (V.cellsO x5).bind fun v3 =>
 (ldk (some 3) (List.drop 0 v1)).bind fun v4 =>
 ((sem_wish_Check n) [v4, x1]).bind fun v5 =>
 (ldk (some 3) (List.drop 0 v1)).bind fun v6 =>
 ((sem_railref1_Wishes n) [v6, x1]).bind fun v7 =>
 ((sem_Error n) [v5, v7]).bind fun v8 =>
 (ldk (some 4) (List.drop 0 v2)).bind fun v9 =>
 ((sem_railref1_ShowWish n) [v9]).bind fun v10 =>
 (extractV v10 0).bind fun v11 =>
 (extractV v10 1).bind fun v12 =>
 (ldk (some 4) (List.drop 0 v2)).bind fun v13 =>
 ((sem_WPrint n) [v13]).bind fun v14 =>
 (extractV v14 0).bind fun v15 =>
 (extractV v14 1).bind fun v16 =>
 ((sem_Error n) [v16, v12]).bind fun v17 =>
 ((sem_railref1_ReadWish n) [x3]).bind fun v18 =>
 (extractV v18 0).bind fun v19 =>
 (extractV v18 1).bind fun v20 =>
 (spliceV [(vi 0), (vt ⟨#[]⟩), (vt ⟨#[]⟩), (vi 0)] 0 4 v19).bind fun v21 =>
 (scal1 Tryz.prog (Op.unary Go.UnOp.not) v20).bind fun v22 =>
 JoinPt (fun vs23 =>
 ((sem_wish_Parse n) [x3]).bind fun v25 =>
 (extractV v25 0).bind fun v26 =>
 (extractV v25 1).bind fun v27 =>
 (spliceV [(vi 0), (vt ⟨#[]⟩), (vt ⟨#[]⟩), (vi 0)] 0 4 v26).bind fun v28 =>
 ((sem_Error n) [v27, (List.getD vs23 0 V.any)]).bind fun v29 =>
 (ldk (some 4) (List.drop 0 v1)).bind fun v30 =>
 ((sem_railref1_Net n) [v30]).bind fun v31 =>
 (bin2 Tryz.prog BinOp.eql 3 (ot 69) (oc 0) v31 (vi 0)).bind fun v32 =>
 JoinPt (fun vs33 =>
 (bin2 Tryz.prog BinOp.eql 3 (ot 75) (oc 0) (List.getD vs33 0 V.any) (vi 0)).bind fun v35 =>
 JoinPt (fun vs36 =>
 (ldk (some 4) (List.drop 0 v1)).bind fun v38 =>
 ((sem_wish_Holds n) [v38, x1]).bind fun v39 =>
 (extractV v39 0).bind fun v40 =>
 (extractV v39 1).bind fun v41 =>
 (spliceV [(vi 0), (vt ⟨#[]⟩), (vi 0)] 0 3 v40).bind fun v42 =>
 ((sem_Error n) [v41, (List.getD vs36 0 V.any)]).bind fun v43 =>
 (ldk none (List.drop 0 v2)).bind fun v44 =>
 (bin2 Tryz.prog BinOp.lss 3 (ot 96) (oc 1) v44 (vi 1)).bind fun v45 =>
 (guardV v45 false (some V.any)).bind fun v46 =>
 (guardV v45 false ((gate v45 false (ldk none (List.drop 0 v2))).bind fun v47 =>
 some v47)).bind fun v48 =>
 (guardV v45 false ((bin2 Tryz.prog BinOp.gtr 3 (ot 100) (oc 4) v48 (vi 4)).bind fun v49 =>
 some v49)).bind fun v50 =>
 (pickV v45 (vb true) v50).bind fun v51 =>
 (guardV v51 false ((ldk (some 4) (List.drop 0 v2)).bind fun v52 =>
 some v52)).bind fun v53 =>
 (guardV v51 false (some x4)).bind fun v54 =>
 (guardV v51 false ((ldk (some 3) (List.drop 0 v3)).bind fun v55 =>
 some v55)).bind fun v56 =>
 (guardV v51 false (((sem_wish_Fits n) [v53, v54, v56]).bind fun v57 =>
 some v57)).bind fun v58 =>
 (guardV v51 false ((ldk (some 4) (List.drop 0 v2)).bind fun v59 =>
 some v59)).bind fun v60 =>
 (guardV v51 false (some x4)).bind fun v61 =>
 (guardV v51 false ((ldk (some 3) (List.drop 0 v3)).bind fun v62 =>
 some v62)).bind fun v63 =>
 (guardV v51 false (((sem_railref1_Fits n) [v60, v61, v63]).bind fun v64 =>
 some v64)).bind fun v65 =>
 (guardV v51 false ((bin2 Tryz.prog BinOp.eql 4 (ot 107) (ot 111) v58 v65).bind fun v66 =>
 some v66)).bind fun v67 =>
 (pickV v51 (vb true) v67).bind fun v68 =>
 (guardV v8 true (some v17)).bind fun v69 =>
 (pickV v8 v69 (vb false)).bind fun v70 =>
 (guardV v70 true (some v29)).bind fun v71 =>
 (pickV v70 v71 (vb false)).bind fun v72 =>
 (guardV v72 true (some v43)).bind fun v73 =>
 (pickV v72 v73 (vb false)).bind fun v74 =>
 (guardV v74 true (some v68)).bind fun v75 =>
 (pickV v74 v75 (vb false)).bind fun v76 =>
 (guardV v76 true (some v15)).bind fun v77 =>
 (guardV v76 true (some v11)).bind fun v78 =>
 (guardV v76 true ((bin2 Tryz.prog BinOp.eql 9 (ot 128) (ot 129) v77 v78).bind fun v79 =>
 some v79)).bind fun v80 =>
 (pickV v76 v80 (vb false)).bind fun v81 =>
 (guardV v81 true ((ldk (some 4) (List.drop 0 (aggL (List.getD vs23 1 V.any)))).bind fun v82 =>
 some v82)).bind fun v83 =>
 (guardV v81 true ((ldk (some 4) (List.drop 0 (aggL v28))).bind fun v84 =>
 some v84)).bind fun v85 =>
 (guardV v81 true ((bin2 Tryz.prog BinOp.eql 63 (ot 133) (ot 134) v83 v85).bind fun v86 =>
 some v86)).bind fun v87 =>
 (pickV v81 v87 (vb false)).bind fun v88 =>
 (guardV v88 true ((ldk (some 3) (List.drop 0 (aggL v42))).bind fun v89 =>
 some v89)).bind fun v90 =>
 (guardV v88 true ((ldk (some 3) (List.drop 0 (aggL (List.getD vs36 1 V.any)))).bind fun v91 =>
 some v91)).bind fun v92 =>
 (guardV v88 true ((bin2 Tryz.prog BinOp.eql 78 (ot 138) (ot 139) v90 v92).bind fun v93 =>
 some v93)).bind fun v94 =>
 (pickV v88 v94 (vb false)).bind fun v95 =>
 some v95) fun J37 =>
 condV v35 (
 (ldk (some 4) (List.drop 0 v1)).bind fun v96 =>
 ((sem_railref1_Holds n) [v96, x1]).bind fun v97 =>
 (extractV v97 0).bind fun v98 =>
 (extractV v97 1).bind fun v99 =>
 (spliceV [(vi 0), (vt ⟨#[]⟩), (vi 0)] 0 3 v98).bind fun v100 =>
 (ldk (some 3) (List.drop 0 (aggL v100))).bind fun v101 =>
 (spliceV [(vi 0), (vt ⟨#[]⟩), (vi 0)] 0 3 v101).bind fun v102 =>
 (scal1 Tryz.prog (Op.unary Go.UnOp.not) v99).bind fun v103 =>
 JoinPt (fun vs104 =>
 (keepO (some v1) (some v1) (keepO (some v2) (some v2) (keepO (some v3) (some v3) (keepO (some (aggL (List.getD vs23 1 V.any))) (some (aggL (List.getD vs23 1 V.any))) (keepO (some (aggL v28)) (some (aggL v28)) (some [(List.getD vs104 0 V.any), (V.agg (aggL v102))])))))).bind J37) fun J105 =>
 condV v103 (
 (keepO (some v1) (some v1) (keepO (some v2) (some v2) (keepO (some v3) (some v3) (keepO (some (aggL (List.getD vs23 1 V.any))) (some (aggL (List.getD vs23 1 V.any))) (keepO (some (aggL v28)) (some (aggL v28)) (keepO (some (aggL v102)) (some (aggL v102)) (some [(vi 9)]))))))).bind J105) (
 (keepO (some v1) (some v1) (keepO (some v2) (some v2) (keepO (some v3) (some v3) (keepO (some (aggL (List.getD vs23 1 V.any))) (some (aggL (List.getD vs23 1 V.any))) (keepO (some (aggL v28)) (some (aggL v28)) (keepO (some (aggL v102)) (some (aggL v102)) (some [(List.getD vs33 0 V.any)]))))))).bind J105)) (
 (keepO (some v1) (some v1) (keepO (some v2) (some v2) (keepO (some v3) (some v3) (keepO (some (aggL (List.getD vs23 1 V.any))) (some (aggL (List.getD vs23 1 V.any))) (keepO (some (aggL v28)) (some (aggL v28)) (some [(List.getD vs33 0 V.any), (V.agg [(vi 0), (vt ⟨#[]⟩), (vi 0)])])))))).bind J37)) fun J34 =>
 condV v32 (
 (ldk (some 3) (List.drop 0 v1)).bind fun v106 =>
 ((sem_railref1_Wishes n) [v106, x1]).bind fun v107 =>
 (keepO (some v1) (some v1) (keepO (some v2) (some v2) (keepO (some v3) (some v3) (keepO (some (aggL (List.getD vs23 1 V.any))) (some (aggL (List.getD vs23 1 V.any))) (keepO (some (aggL v28)) (some (aggL v28)) (some [v107])))))).bind J34) (
 (keepO (some v1) (some v1) (keepO (some v2) (some v2) (keepO (some v3) (some v3) (keepO (some (aggL (List.getD vs23 1 V.any))) (some (aggL (List.getD vs23 1 V.any))) (keepO (some (aggL v28)) (some (aggL v28)) (some [v31])))))).bind J34)) fun J24 =>
 condV v22 (
 ((fillL [(vi 0), (vt ⟨#[]⟩), (vt ⟨#[]⟩), (vi 0)] []).map V.agg).bind fun v108 =>
 (spliceV (aggL v21) 0 4 v108).bind fun v109 =>
 (keepO (some v1) (some v1) (keepO (some v2) (some v2) (keepO (some v3) (some v3) (some [(vi 2), (V.agg (aggL v109))])))).bind J24) (
 (keepO (some v1) (some v1) (keepO (some v2) (some v2) (keepO (some v3) (some v3) (some [(vi 0), (V.agg (aggL v21))])))).bind J24) := by kernel_rfl
noncomputable def t_raillaw1_WishTells (a0 : T_Net) (a1 : (List T_Wish)) (a2 : T_Wish) (a3 : ByteArray) (a4 : ByteArray) (a5 : T_Fate) : Option Bool :=
 (t_wish_Check a0.Topo a1).bind fun r6 =>
 (t_railref1_Wishes a0.Topo a1).bind fun r9 =>
 (t_railsame_Error r6 r9).bind fun r11 =>
 (t_railref1_ShowWish a2).bind fun r14 =>
 (t_wish_Print a2).bind fun r19 =>
 (t_railsame_Error r19.2 r14.2).bind fun r23 =>
 (t_railref1_ReadWish a3).bind fun r25 =>
 (if (!r25.2) = true then (
 some (2, (T_Wish.mk 0 (ByteArray.mk #[]) (ByteArray.mk #[]) 0))) else (
 some (0, r25.1))).bind fun (s32 : (Int × T_Wish)) =>
 (t_wish_Parse a3).bind fun r36 =>
 (t_railsame_Error r36.2 s32.1).bind fun r41 =>
 (t_railref1_Net a0).bind fun r44 =>
 (if (decide (r44 = 0)) = true then (
 (t_railref1_Wishes a0.Topo a1).bind fun r164 =>
 some (r164)) else (
 some (r44))).bind fun (s48 : Int) =>
 (if (decide (s48 = 0)) = true then (
 (t_railref1_Holds a0 a1).bind fun r148 =>
 (if (!r148.2) = true then (
 some (9)) else (
 some (s48))).bind fun (s157 : Int) =>
 some (s157, r148.1)) else (
 some (s48, (T_PProof.mk 0 (ByteArray.mk #[]) 0)))).bind fun (s54 : (Int × T_PProof)) =>
 (t_wish_Holds a0 a1).bind fun r59 =>
 (t_railsame_Error r59.2 s54.1).bind fun r64 =>
 (gd (!((decide (a2.What < 1)) || (decide (4 < a2.What)))) default (t_wish_Fits a2 a4 a5)).bind fun r87 =>
 (gd (!((decide (a2.What < 1)) || (decide (4 < a2.What)))) default (t_railref1_Fits a2 a4 a5)).bind fun r99 =>
 (some ((((((r11 && r23) && r41) && r64) && (((decide (a2.What < 1)) || (decide (4 < a2.What))) || (r87 == r99))) && (decide (r19.1 = r14.1))) && (decide (s32.2 = r36.1)))).bind fun r134 =>
 some (r134 && (decide (r59.1 = s54.2)))
theorem ty_raillaw1_WishTells {n : Nat} (hn : bigN ≤ n) (a0 : T_Net) (a1 : (List T_Wish)) (a2 : T_Wish) (a3 : ByteArray) (a4 : ByteArray) (a5 : T_Fate) : Rv (fun x : Bool => (vb x)) (sem_raillaw1_WishTells n [(T_Net.e a0), (V.sl (List.map T_Wish.c a1)), (T_Wish.e a2), (vt a3), (vt a4), (T_Fate.e a5)]) (t_raillaw1_WishTells a0 a1 a2 a3 a4 a5) := by
 rw [eq_raillaw1_WishTells]
 unfold t_raillaw1_WishTells; refine tb (x := (T_Net.c a0)) rfl ?_; refine tb (x := (T_Wish.c a2)) rfl ?_; refine tb (x := (T_Fate.c a5)) rfl ?_; refine tb (x := (T_Topo.e a0.Topo)) (rfl) ?_; refine tbo (ty_wish_Check hn a0.Topo a1) fun r6 => ?_; refine tb (x := (T_Topo.e a0.Topo)) (rfl) ?_; refine tbo (ty_railref1_Wishes hn a0.Topo a1) fun r9 => ?_; refine tbo (ty_railsame_Error r6 r9) fun r11 => ?_; refine tb (x := (T_Wish.e a2)) (rfl) ?_; refine tbo (ty_railref1_ShowWish hn a2) fun r14 => ?_; refine tb (x := (vt r14.1)) (rfl) ?_; refine tb (x := (vi r14.2)) (rfl) ?_; refine tb (x := (T_Wish.e a2)) (rfl) ?_; refine tbo (ty_wish_Print a2) fun r19 => ?_; refine tb (x := (vt r19.1)) (rfl) ?_; refine tb (x := (eV r19.2)) (rfl) ?_; refine tbo (ty_railsame_Error r19.2 r14.2) fun r23 => ?_; refine tbo (ty_railref1_ReadWish hn a3) fun r25 => ?_; refine tb (x := (T_Wish.e r25.1)) (rfl) ?_; refine tb (x := (vb r25.2)) (rfl) ?_; refine tb (x := V.agg (T_Wish.c r25.1)) (by kernel_rfl) ?_; refine tb (x := (vb (!r25.2))) (d_not) ?_; refine tjb (mk := fun s32 : (Int × T_Wish) => [(vi s32.1), (V.agg (T_Wish.c s32.2))]) (fun J31 => ?_) fun s32 => ?_
 ·refine tcond (fun h165 => ?_) (fun h165 => ?_)
  ·refine tb (x := (T_Wish.e (T_Wish.mk 0 (ByteArray.mk #[]) (ByteArray.mk #[]) 0))) (by kernel_rfl) ?_; refine tb (x := V.agg (T_Wish.c (T_Wish.mk 0 (ByteArray.mk #[]) (ByteArray.mk #[]) 0))) (by kernel_rfl) ?_; refine tkeepO2 ?_ rfl; refine tkeepO2 ?_ rfl; refine tkeepO2 ?_ rfl; refine tsome ?_; exact rf_j rfl
  ·refine tkeepO2 ?_ rfl; refine tkeepO2 ?_ rfl; refine tkeepO2 ?_ rfl; refine tsome ?_; exact rf_j rfl
 ·refine tbo (ty_wish_Parse hn a3) fun r36 => ?_; refine tb (x := (T_Wish.e r36.1)) (rfl) ?_; refine tb (x := (eV r36.2)) (rfl) ?_; refine tb (x := V.agg (T_Wish.c r36.1)) (by kernel_rfl) ?_; refine tbo (ty_railsame_Error r36.2 s32.1) fun r41 => ?_; refine tb (x := (T_Net.e a0)) (rfl) ?_; refine tbo (ty_railref1_Net hn a0) fun r44 => ?_; refine tb (x := (vb (decide (r44 = 0)))) (d_eql) ?_; refine tjb (mk := fun s48 : Int => [(vi s48)]) (fun J47 => ?_) fun s48 => ?_
  ·refine tcond (fun h161 => ?_) (fun h161 => ?_)
   ·refine tb (x := (T_Topo.e a0.Topo)) (rfl) ?_; refine tbo (ty_railref1_Wishes hn a0.Topo a1) fun r164 => ?_; refine tkeepO2 ?_ rfl; refine tkeepO2 ?_ rfl; refine tkeepO2 ?_ rfl; refine tkeepO2 ?_ rfl; refine tkeepO2 ?_ rfl; refine tsome ?_; exact rf_j rfl
   ·refine tkeepO2 ?_ rfl; refine tkeepO2 ?_ rfl; refine tkeepO2 ?_ rfl; refine tkeepO2 ?_ rfl; refine tkeepO2 ?_ rfl; refine tsome ?_; exact rf_j rfl
  ·refine tb (x := (vb (decide (s48 = 0)))) (d_eql) ?_; refine tjb (mk := fun s54 : (Int × T_PProof) => [(vi s54.1), (V.agg (T_PProof.c s54.2))]) (fun J53 => ?_) fun s54 => ?_
   ·refine tcond (fun h145 => ?_) (fun h145 => ?_)
    ·refine tb (x := (T_Net.e a0)) (rfl) ?_; refine tbo (ty_railref1_Holds hn a0 a1) fun r148 => ?_; refine tb (x := (T_PProof.e r148.1)) (rfl) ?_; refine tb (x := (vb r148.2)) (rfl) ?_; refine tb (x := V.agg (T_PProof.c r148.1)) (by kernel_rfl) ?_; refine tb (x := (T_PProof.e r148.1)) (rfl) ?_; refine tb (x := V.agg (T_PProof.c r148.1)) (by kernel_rfl) ?_; refine tb (x := (vb (!r148.2))) (d_not) ?_; refine tjb (mk := fun s157 : Int => [(vi s157)]) (fun J156 => ?_) fun s157 => ?_
     ·refine tcond (fun h160 => ?_) (fun h160 => ?_)
      ·refine tkeepO2 ?_ rfl; refine tkeepO2 ?_ rfl; refine tkeepO2 ?_ rfl; refine tkeepO2 ?_ rfl; refine tkeepO2 ?_ rfl; refine tkeepO2 ?_ rfl; refine tsome ?_; exact rf_j rfl
      ·refine tkeepO2 ?_ rfl; refine tkeepO2 ?_ rfl; refine tkeepO2 ?_ rfl; refine tkeepO2 ?_ rfl; refine tkeepO2 ?_ rfl; refine tkeepO2 ?_ rfl; refine tsome ?_; exact rf_j rfl
     ·refine tkeepO2 ?_ rfl; refine tkeepO2 ?_ rfl; refine tkeepO2 ?_ rfl; refine tkeepO2 ?_ rfl; refine tkeepO2 ?_ rfl; refine tsome ?_; exact rf_j rfl
    ·refine tkeepO2 ?_ rfl; refine tkeepO2 ?_ rfl; refine tkeepO2 ?_ rfl; refine tkeepO2 ?_ rfl; refine tkeepO2 ?_ rfl; refine tsome ?_; exact rf_j rfl
   ·refine tb (x := (T_Net.e a0)) (rfl) ?_; refine tbo (ty_wish_Holds hn a0 a1) fun r59 => ?_; refine tb (x := (T_PProof.e r59.1)) (rfl) ?_; refine tb (x := (eV r59.2)) (rfl) ?_; refine tb (x := V.agg (T_PProof.c r59.1)) (by kernel_rfl) ?_; refine tbo (ty_railsame_Error r59.2 s54.1) fun r64 => ?_; refine tb (x := (vi a2.What)) (rfl) ?_; refine tb (x := (vb (decide (a2.What < 1)))) (d_lss) ?_; refine tg_f (x := V.any) (fun h67 => rfl) ?_; refine tg_f (x := (vi a2.What)) (fun h69 => bind_some_eq (gate_pos (not_t h69) (rfl))) ?_; refine tg_f (x := (vb (decide (4 < a2.What)))) (fun h72 => by simp only [gv_t h72]; exact bind_some_eq (d_gtr)) ?_; refine tb (x := (vb ((decide (a2.What < 1)) || (decide (4 < a2.What))))) (pick_or (fun h9 => gv_t (not_f h9))) ?_; refine tg_f (x := (T_Wish.e a2)) (fun h76 => bind_some_eq (rfl)) ?_; refine tg_f (x := (vt a4)) (fun h79 => rfl) ?_; refine tg_f (x := (T_Fate.e a5)) (fun h81 => bind_some_eq (rfl)) ?_; refine tgo_f (fun h84 => by simp only [gv_t h84]; exact rf_bind_some (ty_wish_Fits hn a2 a4 a5)) fun r87 => ?_; refine tg_f (x := (T_Wish.e a2)) (fun h88 => bind_some_eq (rfl)) ?_; refine tg_f (x := (vt a4)) (fun h91 => rfl) ?_; refine tg_f (x := (T_Fate.e a5)) (fun h93 => bind_some_eq (rfl)) ?_; refine tgo_f (fun h96 => by simp only [gv_t h96]; exact rf_bind_some (ty_railref1_Fits hn a2 a4 a5)) fun r99 => ?_; refine tg_f (x := (vb (r87 == r99))) (fun h100 => by simp only [gv_t h100]; exact bind_some_eq (p_eql_bool (Tryz.underlying4))) ?_; refine tb (x := (vb (((decide (a2.What < 1)) || (decide (4 < a2.What))) || (r87 == r99)))) (pick_or (fun h9 => gv_t (not_f h9))) ?_; refine tg (x := (vb r23)) (fun h104 => rfl) ?_; refine tb (x := (vb (r11 && r23))) (pick_and (fun h9 => gv_t h9)) ?_; refine tg (x := (vb r41)) (fun h107 => rfl) ?_; refine tb (x := (vb ((r11 && r23) && r41))) (pick_and (fun h9 => gv_t h9)) ?_; refine tg (x := (vb r64)) (fun h110 => rfl) ?_; refine tb (x := (vb (((r11 && r23) && r41) && r64))) (pick_and (fun h9 => gv_t h9)) ?_; refine tg (x := (vb (((decide (a2.What < 1)) || (decide (4 < a2.What))) || (r87 == r99)))) (fun h113 => rfl) ?_; refine tb (x := (vb ((((r11 && r23) && r41) && r64) && (((decide (a2.What < 1)) || (decide (4 < a2.What))) || (r87 == r99))))) (pick_and (fun h9 => gv_t h9)) ?_; refine tg (x := (vt r19.1)) (fun h116 => rfl) ?_; refine tg (x := (vt r14.1)) (fun h118 => rfl) ?_; refine tg (x := (vb (decide (r19.1 = r14.1)))) (fun h120 => by simp only [gv_t h120]; exact bind_some_eq (p_eql_str)) ?_; refine tb (x := (vb (((((r11 && r23) && r41) && r64) && (((decide (a2.What < 1)) || (decide (4 < a2.What))) || (r87 == r99))) && (decide (r19.1 = r14.1))))) (pick_and (fun h9 => gv_t h9)) ?_; refine tg (x := (T_Wish.e s32.2)) (fun h124 => bind_some_eq (rfl)) ?_; refine tg (x := (T_Wish.e r36.1)) (fun h127 => bind_some_eq (rfl)) ?_; refine tg (x := (vb (decide (s32.2 = r36.1)))) (fun h130 => by simp only [gv_t h130]; exact bind_some_eq (T_Wish.eql s32.2 r36.1)) ?_; refine tbo (e1 := fun x : Bool => (vb x)) (rf_eq (pick_and (fun h9 => gv_t h9)) rfl) fun r134 => ?_; refine tg (x := (T_PProof.e r59.1)) (fun h135 => bind_some_eq (rfl)) ?_; refine tg (x := (T_PProof.e s54.2)) (fun h138 => bind_some_eq (rfl)) ?_; refine tg (x := (vb (decide (r59.1 = s54.2)))) (fun h141 => by simp only [gv_t h141]; exact bind_some_eq (T_PProof.eql r59.1 s54.2)) ?_; refine tb (x := (vb (r134 && (decide (r59.1 = s54.2))))) (pick_and (fun h9 => gv_t h9)) ?_; exact rf_ret rfl
end Go.Proofs.YtilbgbhpdjjliaaGreatDoor.Ty
