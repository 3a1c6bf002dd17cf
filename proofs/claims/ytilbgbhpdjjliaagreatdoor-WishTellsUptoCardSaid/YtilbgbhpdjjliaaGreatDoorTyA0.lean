/- What functions do, as functions on plain types, written by a program and checked by the kernel. -/
import Derived.Test.YtilbgbhpdjjliaaGreatDoorDenGreatW
import Derived.Test.YtilbgbhpdjjliaaGreatDoorTy
import Derived.Test.YtilbgbhpdjjliaaGreatDoorTyT
import Derived.Test.YtilbgbhpdjjliaaGreatDoorTyX
import Derived.Test.YtilbgbhpdjjliaaGreatDoorDen14
namespace Go.Proofs.YtilbgbhpdjjliaaGreatDoor.Ty
open Go Go.RowKit Go.Proofs.YtilbgbhpdjjliaaGreatDoor.Den
set_option linter.unusedVariables false
set_option maxRecDepth 100000
def an_topo_Name : Ann := .seq (.reg 0 [] [] []) (.seq (.seq (.reg 0 [] [] []) (.blk (some []) (.loop [.s 8] (.seq (.reg 0 [] [] []) (.seq (.cond none (.no) (.no)) (.seq (.blk none (.seq (.reg 0 [] [] []) (.seq (.reg 0 [] [] []) (.cond none (.seq (.reg 0 [] [] []) (.no)) (.no))))) (.reg 0 [] [] []))))))) (.seq (.reg 0 [] [] []) (.no)))
noncomputable def sem_topo_Name (n : Nat) (xs : List V) : Option V := if xs.length ≤ 26 then denF Tryz.prog (envOf []) n Tryz.f59 an_topo_Name xs else none
theorem ok_topo_Name (n : Nat) : SemOk Tryz.prog DW 59 (sem_topo_Name n) := fun xs y h => by
 unfold sem_topo_Name at h
 split at h
 ·rename_i hl
  exact denF_ok stb Tryz.func59 (by kernel_rfl) (envOf_ok semsOk_nil) (by rw [Tryz.ntmps59]; exact hl) h
 ·cases h
theorem eq_topo_Name (n : Nat) (x0 : V) : sem_topo_Name n [x0] =
 (s2b x0).bind fun v1 =>
 (lenS [v1]).bind fun v2 =>
 JoinPt (fun vs3 =>
 (bin2 Tryz.prog BinOp.neq 9 (ot 19) (Operand.const (Go.Value.string (ByteArray.mk #[]))) x0 (vt ⟨#[]⟩)).bind fun v5 =>
 (guardV v5 true (some x0)).bind fun v6 =>
 (guardV v5 true ((lenT [v6]).bind fun v7 =>
 some v7)).bind fun v8 =>
 (guardV v5 true ((bin2 Tryz.prog BinOp.leq 3 (ot 23) (oc 6) v8 (vi 6)).bind fun v9 =>
 some v9)).bind fun v10 =>
 (pickV v5 v10 (vb false)).bind fun v11 =>
 some v11) fun J4 =>
 (fixN (fun rec12 vs13 =>
 (bin2 Tryz.prog BinOp.lss 3 (ot 8) (ot 7) (List.getD vs13 0 V.any) v2).bind fun v14 =>
 condV v14 (
 (idxS 1 v1 (List.getD vs13 0 V.any)).bind fun v15 =>
 (ldp none v15).bind fun v16 =>
 (bin2 Tryz.prog BinOp.lss 5 (ot 12) (Operand.const (Go.Value.int Go.IntKind.u8 97)) v16 (V.lit (Go.Value.int Go.IntKind.u8 97))).bind fun v17 =>
 (guardV v17 false (some v16)).bind fun v18 =>
 (guardV v17 false ((bin2 Tryz.prog BinOp.gtr 5 (ot 15) (Operand.const (Go.Value.int Go.IntKind.u8 122)) v18 (V.lit (Go.Value.int Go.IntKind.u8 122))).bind fun v19 =>
 some v19)).bind fun v20 =>
 (pickV v17 (vb true) v20).bind fun v21 =>
 condV v21 (
 some (vb false)) (
 (bin2 Tryz.prog BinOp.add 3 (ot 8) (oc 1) (List.getD vs13 0 V.any) (vi 1)).bind fun v22 =>
 rec12 [v22])) (
 J4 [])) n) [(vi 0)] := by kernel_rfl
noncomputable def t_topo_Name (a0 : ByteArray) : Option Bool :=
 need (decide ((a0.size : Int) ≤ maxI)) (
 join (fun (s5 : Unit) =>
 some ((!decide (a0 = (ByteArray.mk #[]))) && (decide ((a0.size : Int) ≤ 6)))) fun j6 =>
 loopI (numsOf a0) (fun (i24 : Int) x25 (s20 : Unit) k21 =>
 if ((decide (x25 < 97)) || (decide (122 < x25))) = true then (
 some false) else (
 k21 ())) (fun (s20 : Unit) =>
 j6 ()) ())
theorem ty_topo_Name {n : Nat} (hn : bigN ≤ n) (a0 : ByteArray) : Rv (fun x : Bool => (vb x)) (sem_topo_Name n [(vt a0)]) (t_topo_Name a0) := by
 rw [eq_topo_Name]
 unfold t_topo_Name; refine tneed (x := (V.sl (List.map cY (numsOf a0)))) (fun h44 => p_s2b h44) fun h44 => ?_; refine tb (x := (vi (List.length (numsOf a0) : Int))) (p_len _) ?_; refine tjoin (mk := fun s5 : Unit => []) (fun s5 => ?_) fun J4 j6 h7 => ?_
 ·refine tb (x := (vb (!decide (a0 = (ByteArray.mk #[]))))) (p_neq_str) ?_; refine tg (x := (vt a0)) (fun h9 => rfl) ?_; refine tg (x := (vi (a0.size : Int))) (fun h11 => by simp only [gv_t h11]; exact bind_some_eq (rfl)) ?_; refine tg (x := (vb (decide ((a0.size : Int) ≤ 6)))) (fun h14 => by simp only [gv_t h14]; exact bind_some_eq (d_leq)) ?_; refine tb (x := (vb ((!decide (a0 = (ByteArray.mk #[]))) && (decide ((a0.size : Int) ≤ 6))))) (pick_and (fun h9 => gv_t h9)) ?_; exact rf_ret rfl
 ·refine rf_loopI (mk := fun (i24 : Int) (s20 : Unit) => [(vi (i24 : Int))]) hn (numsOf a0) () (fun i24 x25 h26 h27 h28 s20 rec18 k21 h22 => ?_) (fun s20 rec42 h41 => ?_)
  ·refine tb (x := (vb (decide ((i24 : Int) < (List.length (numsOf a0) : Int))))) (d_lss) ?_; refine tcond_t h28 ?_; refine tb (x := (V.ptr [(V.lit (.int .u8 x25))])) (p_idx_at (c := cY) (fun _ => rfl) h26) ?_; refine tb (x := (V.lit (.int .u8 x25))) (rfl) ?_; refine tb (x := (vb (decide (x25 < 97)))) (q_lss) ?_; refine tg_f (x := (V.lit (.int .u8 x25))) (fun h33 => rfl) ?_; refine tg_f (x := (vb (decide (122 < x25)))) (fun h35 => by simp only [gv_t h35]; exact bind_some_eq (q_gtr)) ?_; refine tb (x := (vb ((decide (x25 < 97)) || (decide (122 < x25))))) (pick_or (fun h9 => gv_t (not_f h9))) ?_; refine tcond (fun h39 => ?_) (fun h39 => ?_)
   ·exact rf_ret rfl
   ·refine tb (x := (vi ((i24 : Int) + 1))) (p_incN h27) ?_; exact h22 ()
  ·refine tb (x := (vb (decide ((List.length (numsOf a0) : Int) < (List.length (numsOf a0) : Int))))) (d_lss) ?_; refine tcond_f h41 ?_; exact h7 ()
def an_wish_kind : Ann := .seq (.reg 0 [] [] []) (.seq (.reg 0 [] [] []) (.no))
noncomputable def sem_wish_kind (n : Nat) (xs : List V) : Option V := if xs.length ≤ 9 then denF Tryz.prog (envOf []) n Tryz.f58 an_wish_kind xs else none
theorem ok_wish_kind (n : Nat) : SemOk Tryz.prog DW 58 (sem_wish_kind n) := fun xs y h => by
 unfold sem_wish_kind at h
 split at h
 ·rename_i hl
  exact denF_ok stb Tryz.func58 (by kernel_rfl) (envOf_ok semsOk_nil) (by rw [Tryz.ntmps58]; exact hl) h
 ·cases h
theorem eq_wish_kind (n : Nat) (x0 : V) : sem_wish_kind n [x0] =
 (bin2 Tryz.prog BinOp.geq 3 (ot 3) (oc 1) x0 (vi 1)).bind fun v1 =>
 (guardV v1 true (some x0)).bind fun v2 =>
 (guardV v1 true ((bin2 Tryz.prog BinOp.leq 3 (ot 6) (oc 4) v2 (vi 4)).bind fun v3 =>
 some v3)).bind fun v4 =>
 (pickV v1 v4 (vb false)).bind fun v5 =>
 some v5 := by kernel_rfl
noncomputable def t_wish_kind (a0 : Int) : Option Bool :=
 some ((decide (1 ≤ a0)) && (decide (a0 ≤ 4)))
theorem ty_wish_kind {n : Nat} (hn : bigN ≤ n) (a0 : Int) : Rv (fun x : Bool => (vb x)) (sem_wish_kind n [(vi a0)]) (t_wish_kind a0) := by
 rw [eq_wish_kind]
 unfold t_wish_kind; refine tb (x := (vb (decide (1 ≤ a0)))) (d_geq) ?_; refine tg (x := (vi a0)) (fun h2 => rfl) ?_; refine tg (x := (vb (decide (a0 ≤ 4)))) (fun h4 => by simp only [gv_t h4]; exact bind_some_eq (d_leq)) ?_; refine tb (x := (vb ((decide (1 ≤ a0)) && (decide (a0 ≤ 4))))) (pick_and (fun h9 => gv_t h9)) ?_; exact rf_ret rfl
end Go.Proofs.YtilbgbhpdjjliaaGreatDoor.Ty
