/- What functions do, as functions on plain types, written by a program and checked by the kernel. -/
import Derived.Test.YtpjadjoekdcjiaaDoorDenDoor
import Derived.Test.YtpjadjoekdcjiaaDoorTy
import Derived.Test.YtpjadjoekdcjiaaDoorTyT
import Derived.Test.YtpjadjoekdcjiaaDoorTyE
import Derived.Test.YtpjadjoekdcjiaaDoorTyO
import Derived.Test.YtpjadjoekdcjiaaDoorTyM
import Derived.Test.YtpjadjoekdcjiaaDoorTyR
import Derived.Test.YtpjadjoekdcjiaaDoorDen14
import Derived.Test.YtpjadjoekdcjiaaDoorClone
namespace Go.Proofs.YtpjadjoekdcjiaaDoor.Ty
open Go Go.RowKit Go.Proofs.YtpjadjoekdcjiaaDoor.Den
set_option linter.unusedVariables false
set_option maxRecDepth 100000

def T_Spot.val (x : T_Spot) : Go.Value := .agg #[.int .i64 x.Switch, .int .i64 x.Port]
theorem T_Spot.mkey : MKey Tryd.prog 62 T_Spot.val where
  chk e a w := by kernel_rfl
  find vv l a w := find_ask Tryd.underlying62 (fun _ _ => rfl) (fun a b w => equal_of (T_Spot.run_eql a b w)) vv l a w
  sb a := by show Instr.sameBits (9999 + 1) _ _ = true; simp [Instr.sameBits, T_Spot.val]

/-! slices.IndexFunc   railpoint/api.Hop railpoint/api.Hop  -/
def an_slices_IndexFunc_api_Hop_api_Hop : Ann := .seq (.reg 0 [] [] []) (.seq (.seq (.reg 0 [] [] []) (.blk (some []) (.loop [.s 8] (.seq (.reg 0 [] [] []) (.seq (.cond none (.no) (.no)) (.seq (.blk none (.seq (.reg 0 [] [] []) (.seq (.reg 0 [] [] []) (.cond none (.seq (.reg 0 [] [] []) (.no)) (.no))))) (.reg 0 [] [] []))))))) (.seq (.reg 0 [] [] []) (.no)))
noncomputable def sem_slices_IndexFunc_api_Hop_api_Hop (E : FuncId → List V → Option V) (n : Nat) (xs : List V) : Option V := if xs.length ≤ 19 then denF Tryd.prog (envJ [] E) n Tryd.f154 an_slices_IndexFunc_api_Hop_api_Hop xs else none
theorem ok_slices_IndexFunc_api_Hop_api_Hop {E : FuncId → List V → Option V} (hE : EnvOk Tryd.prog DW E) (n : Nat) : SemOk Tryd.prog DW 154 (sem_slices_IndexFunc_api_Hop_api_Hop E n) := fun xs y h => by
  unfold sem_slices_IndexFunc_api_Hop_api_Hop at h
  split at h
  · rename_i hl
    exact denF_ok stb Tryd.func154 (by kernel_rfl) (envJ_ok semsOk_nil hE) (by rw [Tryd.ntmps154]; exact hl) h
  · cases h
theorem eq_slices_IndexFunc_api_Hop_api_Hop (E : FuncId → List V → Option V) (n : Nat) (x0 x1 : V) : sem_slices_IndexFunc_api_Hop_api_Hop E n [x0, x1] =
 (lenS [x0]).bind fun v1 =>
 JoinPt (fun vs2 =>
 some (vi (-1 : Int))) fun J3 =>
 (fixN (fun rec4 vs5 =>
 (bin2 Tryd.prog BinOp.lss 3 (ot 8) (ot 7) (List.getD vs5 0 V.any) v1).bind fun v6 =>
 condV v6 (
 (idxS 3 x0 (List.getD vs5 0 V.any)).bind fun v7 =>
 (ldp (some 3) v7).bind fun v8 =>
 (callV (envJ [] E) x1 [v8]).bind fun v9 =>
 condV v9 (
 some (List.getD vs5 0 V.any)) (
 (bin2 Tryd.prog BinOp.add 3 (ot 8) (oc 1) (List.getD vs5 0 V.any) (vi 1)).bind fun v10 =>
 rec4 [v10])) (
 J3 [])) n) [(vi 0)] := by kernel_rfl
noncomputable def t_slices_IndexFunc_api_Hop_api_Hop (a0 : (List T_Hop)) (g1 : T_Hop → Option Bool) : Option Int :=
 join (fun (s4 : Unit) =>
 some (-1 : Int)) fun j5 =>
 loopI a0 (fun (i13 : Int) x14 (s9 : Unit) k10 =>
 (g1 x14).bind fun r22 =>
 if r22 = true then (
 some i13) else (
 k10 ())) (fun (s9 : Unit) =>
 j5 ()) ()
theorem ty_slices_IndexFunc_api_Hop_api_Hop {E : FuncId → List V → Option V} {n : Nat} (hn : bigN ≤ n) (a0 : (List T_Hop)) {x1 : V} {g1 : T_Hop → Option Bool} (hg_g1 : ∀ a0, Rv (fun x : Bool => (vb x)) (callV E x1 [(T_Hop.e a0)]) (g1 a0)) : Rv (fun x : Int => (vi x)) (sem_slices_IndexFunc_api_Hop_api_Hop E n [(V.sl (List.map T_Hop.c a0)), x1]) (t_slices_IndexFunc_api_Hop_api_Hop a0 g1) := by
  rw [eq_slices_IndexFunc_api_Hop_api_Hop]
  unfold t_slices_IndexFunc_api_Hop_api_Hop
  refine tb (x := (vi (List.length a0 : Int))) (p_len _) ?_
  refine tjoin (mk := fun s4 : Unit => []) (fun s4 => ?_) fun J3 j5 h6 => ?_
  · exact rf_ret rfl
  · refine rf_loopI (mk := fun (i13 : Int) (s9 : Unit) => [(vi (i13 : Int))]) hn a0 () (fun i13 x14 h15 h16 h17 s9 rec7 k10 h11 => ?_) (fun s9 rec26 h25 => ?_)
    · refine tb (x := (vb (decide ((i13 : Int) < (List.length a0 : Int))))) (d_lss) ?_
      refine tcond_t h17 ?_
      refine tb (x := (V.ptr (T_Hop.c x14))) (p_idx_at (c := T_Hop.c) (fun _ => rfl) h15) ?_
      refine tb (x := (T_Hop.e x14)) (rfl) ?_
      refine tbo ((callV_J0 ▸ hg_g1 x14)) fun r22 => ?_
      refine tcond (fun h23 => ?_) (fun h23 => ?_)
      · exact rf_ret rfl
      · refine tb (x := (vi ((i13 : Int) + 1))) (p_incN h16) ?_
        exact h11 ()
    · refine tb (x := (vb (decide ((List.length a0 : Int) < (List.length a0 : Int))))) (d_lss) ?_
      refine tcond_f h25 ?_
      exact h6 ()

/-! slices.ContainsFunc   railpoint/api.Hop railpoint/api.Hop  -/
def an_slices_ContainsFunc_api_Hop_api_Hop : Ann := .seq (.reg 0 [] [] []) (.seq (.reg 0 [] [] []) (.no))
noncomputable def sem_slices_ContainsFunc_api_Hop_api_Hop (E : FuncId → List V → Option V) (n : Nat) (xs : List V) : Option V := if xs.length ≤ 9 then denF Tryd.prog (envJ [(154, (sem_slices_IndexFunc_api_Hop_api_Hop E n))] E) n Tryd.f107 an_slices_ContainsFunc_api_Hop_api_Hop xs else none
theorem ok_slices_ContainsFunc_api_Hop_api_Hop {E : FuncId → List V → Option V} (hE : EnvOk Tryd.prog DW E) (n : Nat) : SemOk Tryd.prog DW 107 (sem_slices_ContainsFunc_api_Hop_api_Hop E n) := fun xs y h => by
  unfold sem_slices_ContainsFunc_api_Hop_api_Hop at h
  split at h
  · rename_i hl
    exact denF_ok stb Tryd.func107 (by kernel_rfl) (envJ_ok (semsOk_cons (ok_slices_IndexFunc_api_Hop_api_Hop hE n) semsOk_nil) hE) (by rw [Tryd.ntmps107]; exact hl) h
  · cases h
theorem eq_slices_ContainsFunc_api_Hop_api_Hop (E : FuncId → List V → Option V) (n : Nat) (x0 x1 : V) : sem_slices_ContainsFunc_api_Hop_api_Hop E n [x0, x1] =
 ((sem_slices_IndexFunc_api_Hop_api_Hop E n) [x0, x1]).bind fun v1 =>
 (bin2 Tryd.prog BinOp.geq 3 (ot 7) (oc 0) v1 (vi 0)).bind fun v2 =>
 some v2 := by kernel_rfl
noncomputable def t_slices_ContainsFunc_api_Hop_api_Hop (a0 : (List T_Hop)) (g1 : T_Hop → Option Bool) : Option Bool :=
 (t_slices_IndexFunc_api_Hop_api_Hop a0 g1).bind fun r2 =>
 some (decide (0 ≤ r2))
theorem ty_slices_ContainsFunc_api_Hop_api_Hop {E : FuncId → List V → Option V} {n : Nat} (hn : bigN ≤ n) (a0 : (List T_Hop)) {x1 : V} {g1 : T_Hop → Option Bool} (hg_g1 : ∀ a0, Rv (fun x : Bool => (vb x)) (callV E x1 [(T_Hop.e a0)]) (g1 a0)) : Rv (fun x : Bool => (vb x)) (sem_slices_ContainsFunc_api_Hop_api_Hop E n [(V.sl (List.map T_Hop.c a0)), x1]) (t_slices_ContainsFunc_api_Hop_api_Hop a0 g1) := by
  rw [eq_slices_ContainsFunc_api_Hop_api_Hop]
  unfold t_slices_ContainsFunc_api_Hop_api_Hop
  refine tbo (ty_slices_IndexFunc_api_Hop_api_Hop (E := E) (x1 := x1) (g1 := g1) hn a0 hg_g1) fun r2 => ?_
  refine tb (x := (vb (decide (0 ≤ r2)))) (d_geq) ?_
  exact rf_ret rfl

/-! railpoint/wish.Fits$1 -/
def an_wish_Fits_1 : Ann := .seq (.reg 0 [] [] []) (.seq (.reg 0 [] [] []) (.no))
noncomputable def sem_wish_Fits_1 (n : Nat) (xs : List V) : Option V := if xs.length ≤ 10 then denF Tryd.prog (envOf []) n Tryd.f108 an_wish_Fits_1 xs else none
theorem ok_wish_Fits_1 (n : Nat) : SemOk Tryd.prog DW 108 (sem_wish_Fits_1 n) := fun xs y h => by
  unfold sem_wish_Fits_1 at h
  split at h
  · rename_i hl
    exact denF_ok stb Tryd.func108 (by kernel_rfl) (envOf_ok semsOk_nil) (by rw [Tryd.ntmps108]; exact hl) h
  · cases h
theorem eq_wish_Fits_1 (n : Nat) (x0 x1 : V) : sem_wish_Fits_1 n [x0, x1] =
 (V.cellsO x0).bind fun v1 =>
 (ldk none (List.drop 0 v1)).bind fun v2 =>
 (ptrF 3 x1).bind fun v3 =>
 (ldp none v3).bind fun v4 =>
 (bin2 Tryd.prog BinOp.eql 3 (ot 6) (ot 8) v2 v4).bind fun v5 =>
 some v5 := by kernel_rfl
noncomputable def t_wish_Fits_1 (a0 : T_Hop) (a1 : T_Wish) : Option Bool :=
 some (decide (a0.At.Switch = a1.Via))
theorem ty_wish_Fits_1 {n : Nat} (hn : bigN ≤ n) (a0 : T_Hop) (a1 : T_Wish) : Rv (fun x : Bool => (vb x)) (sem_wish_Fits_1 n [(T_Hop.e a0), (V.ptr (T_Wish.c a1))]) (t_wish_Fits_1 a0 a1) := by
  rw [eq_wish_Fits_1]
  unfold t_wish_Fits_1
  refine tb (x := (T_Hop.c a0)) rfl ?_
  refine tb (x := (vi a0.At.Switch)) (rfl) ?_
  refine tb (x := (V.ptr (List.drop 3 (T_Wish.c a1)))) (rfl) ?_
  refine tb (x := (vi a1.Via)) (rfl) ?_
  refine tb (x := (vb (decide (a0.At.Switch = a1.Via)))) (d_eql) ?_
  exact rf_ret rfl

/-! railpoint/wish.Fits -/
def an_wish_Fits : Ann := .seq (.reg 0 [] [] []) (.seq (.reg 0 [3] [] []) (.seq (.blk none (.seq (.reg 0 [] [] []) (.cond none (.seq (.reg 0 [] [] []) (.no)) (.seq (.reg 0 [] [] []) (.cond none (.seq (.reg 0 [] [] []) (.no)) (.seq (.reg 0 [] [] []) (.cond none (.seq (.reg 0 [] [] []) (.no)) (.seq (.reg 0 [] [] []) (.cond none (.seq (.reg 0 [] [] []) (.no)) (.seq (.reg 0 [] [] []) (.cond none (.seq (.reg 0 [] [] []) (.no)) (.no)))))))))))) (.seq (.reg 0 [] [] []) (.no))))
noncomputable def sem_wish_Fits (n : Nat) (xs : List V) : Option V := if xs.length ≤ 53 then denF Tryd.prog (envOf [(107, (sem_slices_ContainsFunc_api_Hop_api_Hop (envOf [(108, (sem_wish_Fits_1 n))]) n)), (108, (sem_wish_Fits_1 n))]) n Tryd.f59 an_wish_Fits xs else none
theorem ok_wish_Fits (n : Nat) : SemOk Tryd.prog DW 59 (sem_wish_Fits n) := fun xs y h => by
  unfold sem_wish_Fits at h
  split at h
  · rename_i hl
    exact denF_ok stb Tryd.func59 (by kernel_rfl) (envOf_ok (semsOk_cons (ok_slices_ContainsFunc_api_Hop_api_Hop (envOf_ok (semsOk_cons (ok_wish_Fits_1 n) semsOk_nil)) n) (semsOk_cons (ok_wish_Fits_1 n) semsOk_nil))) (by rw [Tryd.ntmps59]; exact hl) h
  · cases h
theorem eq_wish_Fits (n : Nat) (x0 x1 x2 : V) : sem_wish_Fits n [x0, x1, x2] =
 (V.cellsO x0).bind fun v1 =>
 (V.cellsO x2).bind fun v2 =>
 (ldk none (List.drop 0 v2)).bind fun v3 =>
 (bin2 Tryd.prog BinOp.eql 3 (ot 9) (oc 1) v3 (vi 1)).bind fun v4 =>
 (guardV v4 true (some V.any)).bind fun v5 =>
 (guardV v4 true ((gate v4 true (ldk none (List.drop 1 v2))).bind fun v6 =>
 some v6)).bind fun v7 =>
 (guardV v4 true ((ptrF 2 (V.ptr v1)).bind fun v8 =>
 some v8)).bind fun v9 =>
 (guardV v4 true ((ldp none v9).bind fun v10 =>
 some v10)).bind fun v11 =>
 (guardV v4 true ((bin2 Tryd.prog BinOp.eql 9 (ot 13) (ot 15) v7 v11).bind fun v12 =>
 some v12)).bind fun v13 =>
 (pickV v4 v13 (vb false)).bind fun v14 =>
 (ptrF 0 (V.ptr v1)).bind fun v15 =>
 (ldp none v15).bind fun v16 =>
 (bin2 Tryd.prog BinOp.eql 3 (ot 20) (oc 4) v16 (vi 4)).bind fun v17 =>
 condV v17 (
 (ldk none (List.drop 0 v2)).bind fun v18 =>
 (bin2 Tryd.prog BinOp.neq 3 (ot 23) (oc 4) v18 (vi 4)).bind fun v19 =>
 some v19) (
 (ptrF 1 (V.ptr v1)).bind fun v20 =>
 (ldp none v20).bind fun v21 =>
 (bin2 Tryd.prog BinOp.neq 9 (ot 26) (ot 28) x1 v21).bind fun v22 =>
 condV v22 (
 some (vb true)) (
 (ptrF 0 (V.ptr v1)).bind fun v23 =>
 (ldp none v23).bind fun v24 =>
 (bin2 Tryd.prog BinOp.eql 3 (ot 32) (oc 1) v24 (vi 1)).bind fun v25 =>
 condV v25 (
 some v14) (
 (ptrF 0 (V.ptr v1)).bind fun v26 =>
 (ldp none v26).bind fun v27 =>
 (bin2 Tryd.prog BinOp.eql 3 (ot 37) (oc 2) v27 (vi 2)).bind fun v28 =>
 condV v28 (
 (scal1 Tryd.prog (Op.unary Go.UnOp.not) v14).bind fun v29 =>
 some v29) (
 (ptrF 0 (V.ptr v1)).bind fun v30 =>
 (ldp none v30).bind fun v31 =>
 (bin2 Tryd.prog BinOp.eql 3 (ot 43) (oc 3) v31 (vi 3)).bind fun v32 =>
 condV v32 (
 (scal1 Tryd.prog (Op.unary Go.UnOp.not) v14).bind fun v33 =>
 (guardV v33 false (some V.any)).bind fun v34 =>
 (guardV v33 false ((gate v33 false (ldk none (List.drop 2 v2))).bind fun v35 =>
 some v35)).bind fun v36 =>
 (guardV v33 false (some (V.fn 108 [(V.ptr v1)]))).bind fun v37 =>
 (guardV v33 false (((sem_slices_ContainsFunc_api_Hop_api_Hop (envOf [(108, (sem_wish_Fits_1 n))]) n) [v36, v37]).bind fun v38 =>
 some v38)).bind fun v39 =>
 (pickV v33 (vb true) v39).bind fun v40 =>
 some v40) (
 some (vb true)))))) := by kernel_rfl
noncomputable def t_wish_Fits (a0 : T_Wish) (a1 : ByteArray) (a2 : T_Fate) : Option Bool :=
 if (decide (a0.What = 4)) = true then (
 some (decide (a2.How ≠ 4))) else (
 if (!decide (a1 = a0.From)) = true then (
 some true) else (
 if (decide (a0.What = 1)) = true then (
 some ((decide (a2.How = 1)) && (decide (a2.Host = a0.To)))) else (
 if (decide (a0.What = 2)) = true then (
 some (!((decide (a2.How = 1)) && (decide (a2.Host = a0.To))))) else (
 if (decide (a0.What = 3)) = true then (
 (gd (!(!((decide (a2.How = 1)) && (decide (a2.Host = a0.To))))) default (t_slices_ContainsFunc_api_Hop_api_Hop a2.Hops (fun (a52 : T_Hop) => t_wish_Fits_1 a52 a0))).bind fun r55 =>
 some ((!((decide (a2.How = 1)) && (decide (a2.Host = a0.To)))) || r55)) else (
 some true)))))
theorem ty_wish_Fits {n : Nat} (hn : bigN ≤ n) (a0 : T_Wish) (a1 : ByteArray) (a2 : T_Fate) : Rv (fun x : Bool => (vb x)) (sem_wish_Fits n [(T_Wish.e a0), (vt a1), (T_Fate.e a2)]) (t_wish_Fits a0 a1 a2) := by
  rw [eq_wish_Fits]
  unfold t_wish_Fits
  refine tb (x := (T_Wish.c a0)) rfl ?_
  refine tb (x := (T_Fate.c a2)) rfl ?_
  refine tb (x := (vi a2.How)) (rfl) ?_
  refine tb (x := (vb (decide (a2.How = 1)))) (d_eql) ?_
  refine tg (x := V.any) (fun h5 => rfl) ?_
  refine tg (x := (vt a2.Host)) (fun h7 => bind_some_eq (gate_pos h7 (rfl))) ?_
  refine tg (x := (V.ptr (List.drop 2 (T_Wish.c a0)))) (fun h10 => bind_some_eq (rfl)) ?_
  refine tg (x := (vt a0.To)) (fun h13 => by first | exact bind_some_eq (rfl) | (simp only [gv_t h13]; exact bind_some_eq (rfl))) ?_
  refine tg (x := (vb (decide (a2.Host = a0.To)))) (fun h16 => by simp only [gv_t h16]; exact bind_some_eq (p_eql_str)) ?_
  refine tb (x := (vb ((decide (a2.How = 1)) && (decide (a2.Host = a0.To))))) (pick_and (fun h9 => gv_t h9)) ?_
  refine tb (x := (V.ptr (T_Wish.c a0))) (rfl) ?_
  refine tb (x := (vi a0.What)) (rfl) ?_
  refine tb (x := (vb (decide (a0.What = 4)))) (d_eql) ?_
  refine tcond (fun h23 => ?_) (fun h23 => ?_)
  · refine tb (x := (vi a2.How)) (rfl) ?_
    refine tb (x := (vb (decide (a2.How ≠ 4)))) (d_neq) ?_
    exact rf_ret rfl
  · refine tb (x := (V.ptr (List.drop 1 (T_Wish.c a0)))) (rfl) ?_
    refine tb (x := (vt a0.From)) (rfl) ?_
    refine tb (x := (vb (!decide (a1 = a0.From)))) (p_neq_str) ?_
    refine tcond (fun h29 => ?_) (fun h29 => ?_)
    · exact rf_ret rfl
    · refine tb (x := (V.ptr (T_Wish.c a0))) (rfl) ?_
      refine tb (x := (vi a0.What)) (rfl) ?_
      refine tb (x := (vb (decide (a0.What = 1)))) (d_eql) ?_
      refine tcond (fun h33 => ?_) (fun h33 => ?_)
      · exact rf_ret rfl
      · refine tb (x := (V.ptr (T_Wish.c a0))) (rfl) ?_
        refine tb (x := (vi a0.What)) (rfl) ?_
        refine tb (x := (vb (decide (a0.What = 2)))) (d_eql) ?_
        refine tcond (fun h37 => ?_) (fun h37 => ?_)
        · refine tb (x := (vb (!((decide (a2.How = 1)) && (decide (a2.Host = a0.To)))))) (d_not) ?_
          exact rf_ret rfl
        · refine tb (x := (V.ptr (T_Wish.c a0))) (rfl) ?_
          refine tb (x := (vi a0.What)) (rfl) ?_
          refine tb (x := (vb (decide (a0.What = 3)))) (d_eql) ?_
          refine tcond (fun h42 => ?_) (fun h42 => ?_)
          · refine tb (x := (vb (!((decide (a2.How = 1)) && (decide (a2.Host = a0.To)))))) (d_not) ?_
            refine tg_f (x := V.any) (fun h44 => rfl) ?_
            refine tg_f (x := (V.sl (List.map T_Hop.c a2.Hops))) (fun h46 => bind_some_eq (gate_pos (not_t h46) (rfl))) ?_
            refine tg_f (x := (V.fn 108 [(V.ptr (T_Wish.c a0))])) (fun h49 => rfl) ?_
            refine tgo_f (fun h51 => by simp only [gv_t h51]; exact rf_bind_some (ty_slices_ContainsFunc_api_Hop_api_Hop (E := (envOf [(108, (sem_wish_Fits_1 n))])) (x1 := (V.fn 108 [(V.ptr (T_Wish.c a0))])) (g1 := (fun (a52 : T_Hop) => t_wish_Fits_1 a52 a0)) hn a2.Hops (fun a52 => ty_wish_Fits_1 hn a52 a0))) fun r55 => ?_
            refine tb (x := (vb ((!((decide (a2.How = 1)) && (decide (a2.Host = a0.To)))) || r55))) (pick_or (fun h9 => gv_t (not_f h9))) ?_
            exact rf_ret rfl
          · exact rf_ret rfl

/-! railpoint/topo.Spot -/
def an_topo_Spot : Ann := .seq (.reg 0 [] [] []) (.seq (.reg 0 [] [] []) (.no))
noncomputable def sem_topo_Spot (n : Nat) (xs : List V) : Option V := if xs.length ≤ 25 then denF Tryd.prog (envOf []) n Tryd.f139 an_topo_Spot xs else none
theorem ok_topo_Spot (n : Nat) : SemOk Tryd.prog DW 139 (sem_topo_Spot n) := fun xs y h => by
  unfold sem_topo_Spot at h
  split at h
  · rename_i hl
    exact denF_ok stb Tryd.func139 (by kernel_rfl) (envOf_ok semsOk_nil) (by rw [Tryd.ntmps139]; exact hl) h
  · cases h
theorem eq_topo_Spot (n : Nat) (x0 x1 : V) : sem_topo_Spot n [x0, x1] =
 (V.cellsO x0).bind fun v1 =>
 (V.cellsO x1).bind fun v2 =>
 (ldk none (List.drop 0 v2)).bind fun v3 =>
 (bin2 Tryd.prog BinOp.geq 3 (ot 6) (oc 1) v3 (vi 1)).bind fun v4 =>
 (guardV v4 true (some V.any)).bind fun v5 =>
 (guardV v4 true ((gate v4 true (ldk none (List.drop 0 v2))).bind fun v6 =>
 some v6)).bind fun v7 =>
 (guardV v4 true (some V.any)).bind fun v8 =>
 (guardV v4 true ((gate v4 true (ldk none (List.drop 0 v1))).bind fun v9 =>
 some v9)).bind fun v10 =>
 (guardV v4 true ((bin2 Tryd.prog BinOp.leq 3 (ot 10) (ot 12) v7 v10).bind fun v11 =>
 some v11)).bind fun v12 =>
 (pickV v4 v12 (vb false)).bind fun v13 =>
 (guardV v13 true (some V.any)).bind fun v14 =>
 (guardV v13 true ((gate v13 true (ldk none (List.drop 1 v2))).bind fun v15 =>
 some v15)).bind fun v16 =>
 (guardV v13 true ((bin2 Tryd.prog BinOp.geq 3 (ot 17) (oc 1) v16 (vi 1)).bind fun v17 =>
 some v17)).bind fun v18 =>
 (pickV v13 v18 (vb false)).bind fun v19 =>
 (guardV v19 true (some V.any)).bind fun v20 =>
 (guardV v19 true ((gate v19 true (ldk none (List.drop 1 v2))).bind fun v21 =>
 some v21)).bind fun v22 =>
 (guardV v19 true ((bin2 Tryd.prog BinOp.leq 3 (ot 22) (oc 4) v22 (vi 4)).bind fun v23 =>
 some v23)).bind fun v24 =>
 (pickV v19 v24 (vb false)).bind fun v25 =>
 some v25 := by kernel_rfl
noncomputable def t_topo_Spot (a0 : T_Topo) (a1 : T_Spot) : Option Bool :=
 some ((((decide (1 ≤ a1.Switch)) && (decide (a1.Switch ≤ a0.Switches))) && (decide (1 ≤ a1.Port))) && (decide (a1.Port ≤ 4)))
theorem ty_topo_Spot {n : Nat} (hn : bigN ≤ n) (a0 : T_Topo) (a1 : T_Spot) : Rv (fun x : Bool => (vb x)) (sem_topo_Spot n [(T_Topo.e a0), (T_Spot.e a1)]) (t_topo_Spot a0 a1) := by
  rw [eq_topo_Spot]
  unfold t_topo_Spot
  refine tb (x := (T_Topo.c a0)) rfl ?_
  refine tb (x := (T_Spot.c a1)) rfl ?_
  refine tb (x := (vi a1.Switch)) (rfl) ?_
  refine tb (x := (vb (decide (1 ≤ a1.Switch)))) (d_geq) ?_
  refine tg (x := V.any) (fun h5 => rfl) ?_
  refine tg (x := (vi a1.Switch)) (fun h7 => bind_some_eq (gate_pos h7 (rfl))) ?_
  refine tg (x := V.any) (fun h10 => rfl) ?_
  refine tg (x := (vi a0.Switches)) (fun h12 => bind_some_eq (gate_pos h12 (rfl))) ?_
  refine tg (x := (vb (decide (a1.Switch ≤ a0.Switches)))) (fun h15 => by simp only [gv_t h15]; exact bind_some_eq (d_leq)) ?_
  refine tb (x := (vb ((decide (1 ≤ a1.Switch)) && (decide (a1.Switch ≤ a0.Switches))))) (pick_and (fun h9 => gv_t h9)) ?_
  refine tg (x := V.any) (fun h19 => rfl) ?_
  refine tg (x := (vi a1.Port)) (fun h21 => bind_some_eq (gate_pos h21 (rfl))) ?_
  refine tg (x := (vb (decide (1 ≤ a1.Port)))) (fun h24 => by simp only [gv_t h24]; exact bind_some_eq (d_geq)) ?_
  refine tb (x := (vb (((decide (1 ≤ a1.Switch)) && (decide (a1.Switch ≤ a0.Switches))) && (decide (1 ≤ a1.Port))))) (pick_and (fun h9 => gv_t h9)) ?_
  refine tg (x := V.any) (fun h28 => rfl) ?_
  refine tg (x := (vi a1.Port)) (fun h30 => bind_some_eq (gate_pos h30 (rfl))) ?_
  refine tg (x := (vb (decide (a1.Port ≤ 4)))) (fun h33 => by simp only [gv_t h33]; exact bind_some_eq (d_leq)) ?_
  refine tb (x := (vb ((((decide (1 ≤ a1.Switch)) && (decide (a1.Switch ≤ a0.Switches))) && (decide (1 ≤ a1.Port))) && (decide (a1.Port ≤ 4))))) (pick_and (fun h9 => gv_t h9)) ?_
  exact rf_ret rfl

/-! railpoint/topo.Name -/
def an_topo_Name : Ann := .seq (.reg 0 [] [] []) (.seq (.seq (.reg 0 [] [] []) (.blk (some []) (.loop [.s 8] (.seq (.reg 0 [] [] []) (.seq (.cond none (.no) (.no)) (.seq (.blk none (.seq (.reg 0 [] [] []) (.seq (.reg 0 [] [] []) (.cond none (.seq (.reg 0 [] [] []) (.no)) (.no))))) (.reg 0 [] [] []))))))) (.seq (.reg 0 [] [] []) (.no)))
noncomputable def sem_topo_Name (n : Nat) (xs : List V) : Option V := if xs.length ≤ 26 then denF Tryd.prog (envOf []) n Tryd.f140 an_topo_Name xs else none
theorem ok_topo_Name (n : Nat) : SemOk Tryd.prog DW 140 (sem_topo_Name n) := fun xs y h => by
  unfold sem_topo_Name at h
  split at h
  · rename_i hl
    exact denF_ok stb Tryd.func140 (by kernel_rfl) (envOf_ok semsOk_nil) (by rw [Tryd.ntmps140]; exact hl) h
  · cases h
theorem eq_topo_Name (n : Nat) (x0 : V) : sem_topo_Name n [x0] =
 (s2b x0).bind fun v1 =>
 (lenS [v1]).bind fun v2 =>
 JoinPt (fun vs3 =>
 (bin2 Tryd.prog BinOp.neq 9 (ot 19) (Operand.const (Go.Value.string (ByteArray.mk #[]))) x0 (V.lit (Go.Value.string (ByteArray.mk #[])))).bind fun v5 =>
 (guardV v5 true (some x0)).bind fun v6 =>
 (guardV v5 true ((lenT [v6]).bind fun v7 =>
 some v7)).bind fun v8 =>
 (guardV v5 true ((bin2 Tryd.prog BinOp.leq 3 (ot 23) (oc 6) v8 (vi 6)).bind fun v9 =>
 some v9)).bind fun v10 =>
 (pickV v5 v10 (vb false)).bind fun v11 =>
 some v11) fun J4 =>
 (fixN (fun rec12 vs13 =>
 (bin2 Tryd.prog BinOp.lss 3 (ot 8) (ot 7) (List.getD vs13 0 V.any) v2).bind fun v14 =>
 condV v14 (
 (idxS 1 v1 (List.getD vs13 0 V.any)).bind fun v15 =>
 (ldp none v15).bind fun v16 =>
 (bin2 Tryd.prog BinOp.lss 5 (ot 12) (Operand.const (Go.Value.int Go.IntKind.u8 97)) v16 (V.lit (Go.Value.int Go.IntKind.u8 97))).bind fun v17 =>
 (guardV v17 false (some v16)).bind fun v18 =>
 (guardV v17 false ((bin2 Tryd.prog BinOp.gtr 5 (ot 15) (Operand.const (Go.Value.int Go.IntKind.u8 122)) v18 (V.lit (Go.Value.int Go.IntKind.u8 122))).bind fun v19 =>
 some v19)).bind fun v20 =>
 (pickV v17 (vb true) v20).bind fun v21 =>
 condV v21 (
 some (vb false)) (
 (bin2 Tryd.prog BinOp.add 3 (ot 8) (oc 1) (List.getD vs13 0 V.any) (vi 1)).bind fun v22 =>
 rec12 [v22])) (
 J4 [])) n) [(vi 0)] := by kernel_rfl
noncomputable def t_topo_Name (a0 : ByteArray) : Option Bool :=
 need (decide ((a0.size : Int) ≤ maxI)) (
 join (fun (s5 : Unit) =>
 some ((!decide (a0 = (ByteArray.mk #[]))) && (decide ((a0.size : Int) ≤ 6)))) fun j6 =>
 loopI (numsOf a0) (fun (i24 : Int) x25 (s20 : Unit) k21 =>
 if ((decide (x25 < 97)) || (decide (122 < x25))) = true then (
 some false) else (
 k21 ())) (fun (s20 : Unit) =>
 j6 ()) ())
theorem ty_topo_Name {n : Nat} (hn : bigN ≤ n) (a0 : ByteArray) : Rv (fun x : Bool => (vb x)) (sem_topo_Name n [(vt a0)]) (t_topo_Name a0) := by
  rw [eq_topo_Name]
  unfold t_topo_Name
  refine tneed (x := (V.sl (List.map cY (numsOf a0)))) (fun h44 => p_s2b h44) fun h44 => ?_
  refine tb (x := (vi (List.length (numsOf a0) : Int))) (p_len _) ?_
  refine tjoin (mk := fun s5 : Unit => []) (fun s5 => ?_) fun J4 j6 h7 => ?_
  · refine tb (x := (vb (!decide (a0 = (ByteArray.mk #[]))))) (p_neq_str) ?_
    refine tg (x := (vt a0)) (fun h9 => rfl) ?_
    refine tg (x := (vi (a0.size : Int))) (fun h11 => by simp only [gv_t h11]; exact bind_some_eq (rfl)) ?_
    refine tg (x := (vb (decide ((a0.size : Int) ≤ 6)))) (fun h14 => by simp only [gv_t h14]; exact bind_some_eq (d_leq)) ?_
    refine tb (x := (vb ((!decide (a0 = (ByteArray.mk #[]))) && (decide ((a0.size : Int) ≤ 6))))) (pick_and (fun h9 => gv_t h9)) ?_
    exact rf_ret rfl
  · refine rf_loopI (mk := fun (i24 : Int) (s20 : Unit) => [(vi (i24 : Int))]) hn (numsOf a0) () (fun i24 x25 h26 h27 h28 s20 rec18 k21 h22 => ?_) (fun s20 rec42 h41 => ?_)
    · refine tb (x := (vb (decide ((i24 : Int) < (List.length (numsOf a0) : Int))))) (d_lss) ?_
      refine tcond_t h28 ?_
      refine tb (x := (V.ptr [(V.lit (.int .u8 x25))])) (p_idx_at (c := cY) (fun _ => rfl) h26) ?_
      refine tb (x := (V.lit (.int .u8 x25))) (rfl) ?_
      refine tb (x := (vb (decide (x25 < 97)))) (q_lss) ?_
      refine tg_f (x := (V.lit (.int .u8 x25))) (fun h33 => rfl) ?_
      refine tg_f (x := (vb (decide (122 < x25)))) (fun h35 => by simp only [gv_t h35]; exact bind_some_eq (q_gtr)) ?_
      refine tb (x := (vb ((decide (x25 < 97)) || (decide (122 < x25))))) (pick_or (fun h9 => gv_t (not_f h9))) ?_
      refine tcond (fun h39 => ?_) (fun h39 => ?_)
      · exact rf_ret rfl
      · refine tb (x := (vi ((i24 : Int) + 1))) (p_incN h27) ?_
        exact h22 ()
    · refine tb (x := (vb (decide ((List.length (numsOf a0) : Int) < (List.length (numsOf a0) : Int))))) (d_lss) ?_
      refine tcond_f h41 ?_
      exact h7 ()

/-! railpoint/topo.Check -/
def an_topo_Check : Ann := .seq (.reg 0 [] [] []) (.seq (.blk none (.seq (.reg 0 [] [] []) (.cond none (.seq (.reg 0 [] [] []) (.no)) (.seq (.reg 0 [] [] []) (.cond none (.seq (.reg 0 [] [] []) (.no)) (.no)))))) (.seq (.reg 0 [] [] []) (.seq (.seq (.reg 0 [] [] []) (.blk (some [.kb 1, .o 3]) (.loop [.kb 1, .o 3, .s 35] (.seq (.reg 0 [] [] []) (.seq (.cond none (.no) (.no)) (.seq (.blk none (.seq (.reg 0 [] [] []) (.seq (.seq (.reg 0 [] [] []) (.cond none (.seq (.reg 0 [] [] []) (.no)) (.no))) (.seq (.seq (.reg 0 [] [] []) (.cond none (.seq (.reg 0 [] [] []) (.no)) (.no))) (.reg 72 [] [] []))))) (.reg 0 [] [] []))))))) (.seq (.reg 0 [] [] []) (.seq (.seq (.reg 0 [] [] []) (.blk (some []) (.loop [.kb 1, .o 3, .o 6, .s 81] (.seq (.reg 0 [] [] []) (.seq (.cond none (.no) (.no)) (.seq (.blk none (.seq (.reg 0 [] [] []) (.seq (.blk none (.seq (.reg 0 [] [] []) (.cond none (.seq (.reg 0 [] [] []) (.no)) (.seq (.reg 0 [] [] []) (.cond none (.seq (.reg 0 [] [] []) (.no)) (.seq (.reg 0 [] [] []) (.cond none (.seq (.reg 0 [] [] []) (.no)) (.no)))))))) (.reg 72 [] [] [])))) (.reg 0 [] [] []))))))) (.seq (.reg 0 [] [] []) (.no)))))))
noncomputable def sem_topo_Check (n : Nat) (xs : List V) : Option V := if xs.length ≤ 117 then denF Tryd.prog (envOf [(139, (sem_topo_Spot n)), (140, (sem_topo_Name n))]) n Tryd.f78 an_topo_Check xs else none
theorem ok_topo_Check (n : Nat) : SemOk Tryd.prog DW 78 (sem_topo_Check n) := fun xs y h => by
  unfold sem_topo_Check at h
  split at h
  · rename_i hl
    exact denF_ok stb Tryd.func78 (by kernel_rfl) (envOf_ok (semsOk_cons (ok_topo_Spot n) (semsOk_cons (ok_topo_Name n) semsOk_nil))) (by rw [Tryd.ntmps78]; exact hl) h
  · cases h
theorem eq_topo_Check (n : Nat) (x0 : V) : sem_topo_Check n [x0] =
 (V.cellsO x0).bind fun v1 =>
 (ldk none (List.drop 0 v1)).bind fun v2 =>
 (bin2 Tryd.prog BinOp.lss 3 (ot 11) (oc 1) v2 (vi 1)).bind fun v3 =>
 (guardV v3 false (some V.any)).bind fun v4 =>
 (guardV v3 false ((gate v3 false (ldk none (List.drop 0 v1))).bind fun v5 =>
 some v5)).bind fun v6 =>
 (guardV v3 false ((bin2 Tryd.prog BinOp.gtr 3 (ot 15) (oc 6) v6 (vi 6)).bind fun v7 =>
 some v7)).bind fun v8 =>
 (pickV v3 (vb true) v8).bind fun v9 =>
 condV v9 (
 (scal1 Tryd.prog (Instr.makeInterface 143) (vi 1)).bind fun v10 =>
 some v10) (
 (ldk none (List.drop 1 v1)).bind fun v11 =>
 (lenS [v11]).bind fun v12 =>
 (bin2 Tryd.prog BinOp.gtr 3 (ot 22) (oc 200) v12 (vi 200)).bind fun v13 =>
 (guardV v13 false (some V.any)).bind fun v14 =>
 (guardV v13 false ((gate v13 false (ldk none (List.drop 2 v1))).bind fun v15 =>
 some v15)).bind fun v16 =>
 (guardV v13 false ((lenS [v16]).bind fun v17 =>
 some v17)).bind fun v18 =>
 (guardV v13 false ((bin2 Tryd.prog BinOp.gtr 3 (ot 27) (oc 8) v18 (vi 8)).bind fun v19 =>
 some v19)).bind fun v20 =>
 (pickV v13 (vb true) v20).bind fun v21 =>
 condV v21 (
 (scal1 Tryd.prog (Instr.makeInterface 143) (vi 4)).bind fun v22 =>
 some v22) (
 (ldk none (List.drop 1 v1)).bind fun v23 =>
 (lenS [v23]).bind fun v24 =>
 JoinPt (fun vs25 =>
 (ldk none (List.drop 2 v1)).bind fun v27 =>
 (lenS [v27]).bind fun v28 =>
 JoinPt (fun vs29 =>
 some vn) fun J30 =>
 (keepO (some v1) (some v1) (some [(List.getD vs25 0 V.any), (V.mp []), (vi 0)])).bind (fixN (fun rec31 vs32 =>
 (bin2 Tryd.prog BinOp.lss 3 (ot 81) (ot 80) (List.getD vs32 2 V.any) v28).bind fun v33 =>
 condV v33 (
 (idxS 3 v27 (List.getD vs32 2 V.any)).bind fun v34 =>
 (ldp (some 3) v34).bind fun v35 =>
 (spliceV [(V.lit (Go.Value.string (ByteArray.mk #[]))), (vi 0), (vi 0)] 0 3 v35).bind fun v36 =>
 (ldk none (List.drop 0 (aggL v36))).bind fun v37 =>
 ((sem_topo_Name n) [v37]).bind fun v38 =>
 (scal1 Tryd.prog (Op.unary Go.UnOp.not) v38).bind fun v39 =>
 condV v39 (
 (scal1 Tryd.prog (Instr.makeInterface 143) (vi 2)).bind fun v40 =>
 some v40) (
 (ldk (some 3) (List.drop 0 v1)).bind fun v41 =>
 (ldk (some 2) (List.drop 1 (aggL v36))).bind fun v42 =>
 ((sem_topo_Spot n) [v41, v42]).bind fun v43 =>
 (scal1 Tryd.prog (Op.unary Go.UnOp.not) v43).bind fun v44 =>
 condV v44 (
 (scal1 Tryd.prog (Instr.makeInterface 143) (vi 1)).bind fun v45 =>
 some v45) (
 (ldk none (List.drop 0 (aggL v36))).bind fun v46 =>
 (lookV Tryd.prog 221 false (List.getD vs32 1 V.any) v46).bind fun v47 =>
 (guardV v47 false (some V.any)).bind fun v48 =>
 (guardV v47 false (some V.any)).bind fun v49 =>
 (guardV v47 false ((gate v47 false (ldk (some 2) (List.drop 1 (aggL v36)))).bind fun v50 =>
 some v50)).bind fun v51 =>
 (guardV v47 false ((gate v47 false (lookV Tryd.prog 220 false (List.getD vs32 0 V.any) v51)).bind fun v52 =>
 some v52)).bind fun v53 =>
 (pickV v47 (vb true) v53).bind fun v54 =>
 condV v54 (
 (scal1 Tryd.prog (Instr.makeInterface 143) (vi 7)).bind fun v55 =>
 some v55) (
 (ldk none (List.drop 0 (aggL v36))).bind fun v56 =>
 (litV v56).bind fun v57 =>
 (ldk (some 2) (List.drop 1 (aggL v36))).bind fun v58 =>
 (litV v58).bind fun v59 =>
 (putV Tryd.prog 221 (List.getD vs32 1 V.any) v57 (vb true)).bind fun v60 =>
 (putV Tryd.prog 220 (List.getD vs32 0 V.any) v59 (vb true)).bind fun v61 =>
 (bin2 Tryd.prog BinOp.add 3 (ot 81) (oc 1) (List.getD vs32 2 V.any) (vi 1)).bind fun v62 =>
 (keepO (some v1) (some v1) (some [v61, v60, v62])).bind rec31)))) (
 J30 [])) n)) fun J26 =>
 (keepO (some v1) (some v1) (some [(V.mp []), (vi 0)])).bind (fixN (fun rec63 vs64 =>
 (bin2 Tryd.prog BinOp.lss 3 (ot 35) (ot 34) (List.getD vs64 1 V.any) v24).bind fun v65 =>
 condV v65 (
 (idxS 4 v23 (List.getD vs64 1 V.any)).bind fun v66 =>
 (ldp (some 4) v66).bind fun v67 =>
 (spliceV [(vi 0), (vi 0), (vi 0), (vi 0)] 0 4 v67).bind fun v68 =>
 (ldk (some 3) (List.drop 0 v1)).bind fun v69 =>
 (ldk (some 2) (List.drop 0 (aggL v68))).bind fun v70 =>
 ((sem_topo_Spot n) [v69, v70]).bind fun v71 =>
 (scal1 Tryd.prog (Op.unary Go.UnOp.not) v71).bind fun v72 =>
 (guardV v72 false ((ldk (some 3) (List.drop 0 v1)).bind fun v73 =>
 some v73)).bind fun v74 =>
 (guardV v72 false (some V.any)).bind fun v75 =>
 (guardV v72 false ((gate v72 false (ldk (some 2) (List.drop 2 (aggL v68)))).bind fun v76 =>
 some v76)).bind fun v77 =>
 (guardV v72 false (((sem_topo_Spot n) [v74, v77]).bind fun v78 =>
 some v78)).bind fun v79 =>
 (guardV v72 false ((scal1 Tryd.prog (Op.unary Go.UnOp.not) v79).bind fun v80 =>
 some v80)).bind fun v81 =>
 (pickV v72 (vb true) v81).bind fun v82 =>
 condV v82 (
 (scal1 Tryd.prog (Instr.makeInterface 143) (vi 1)).bind fun v83 =>
 some v83) (
 (ldk (some 2) (List.drop 0 (aggL v68))).bind fun v84 =>
 (lookV Tryd.prog 220 false (List.getD vs64 0 V.any) v84).bind fun v85 =>
 (guardV v85 false (some V.any)).bind fun v86 =>
 (guardV v85 false (some V.any)).bind fun v87 =>
 (guardV v85 false ((gate v85 false (ldk (some 2) (List.drop 2 (aggL v68)))).bind fun v88 =>
 some v88)).bind fun v89 =>
 (guardV v85 false ((gate v85 false (lookV Tryd.prog 220 false (List.getD vs64 0 V.any) v89)).bind fun v90 =>
 some v90)).bind fun v91 =>
 (pickV v85 (vb true) v91).bind fun v92 =>
 (guardV v92 false (some V.any)).bind fun v93 =>
 (guardV v92 false ((gate v92 false (ldk (some 2) (List.drop 0 (aggL v68)))).bind fun v94 =>
 some v94)).bind fun v95 =>
 (guardV v92 false (some V.any)).bind fun v96 =>
 (guardV v92 false ((gate v92 false (ldk (some 2) (List.drop 2 (aggL v68)))).bind fun v97 =>
 some v97)).bind fun v98 =>
 (guardV v92 false ((bin2 Tryd.prog BinOp.eql 62 (ot 64) (ot 66) v95 v98).bind fun v99 =>
 some v99)).bind fun v100 =>
 (pickV v92 (vb true) v100).bind fun v101 =>
 condV v101 (
 (scal1 Tryd.prog (Instr.makeInterface 143) (vi 7)).bind fun v102 =>
 some v102) (
 (ldk (some 2) (List.drop 0 (aggL v68))).bind fun v103 =>
 (litV v103).bind fun v104 =>
 (ldk (some 2) (List.drop 2 (aggL v68))).bind fun v105 =>
 (litV v105).bind fun v106 =>
 (putV Tryd.prog 220 (List.getD vs64 0 V.any) v104 (vb true)).bind fun v107 =>
 (putV Tryd.prog 220 v107 v106 (vb true)).bind fun v108 =>
 (bin2 Tryd.prog BinOp.add 3 (ot 35) (oc 1) (List.getD vs64 1 V.any) (vi 1)).bind fun v109 =>
 (keepO (some v1) (some v1) (some [v108, v109])).bind rec63))) (
 (keepO (some v1) (some v1) (some [(List.getD vs64 0 V.any)])).bind J26)) n))) := by kernel_rfl
noncomputable def t_topo_Check (a0 : T_Topo) : Option Int :=
 if ((decide (a0.Switches < 1)) || (decide (6 < a0.Switches))) = true then (
 some 1) else (
 if ((decide (200 < (List.length a0.Links : Int))) || (decide (8 < (List.length a0.Hosts : Int)))) = true then (
 some 4) else (
 join (fun (s36 : (List (T_Spot × Bool))) =>
 join (fun (s43 : Unit) =>
 some 0) fun j44 =>
 loopI a0.Hosts (fun (i52 : Int) x53 (s48 : ((List (T_Spot × Bool)) × (List (ByteArray × Bool)))) k49 =>
 (t_topo_Name x53.Name).bind fun r63 =>
 if (!r63) = true then (
 some 2) else (
 (t_topo_Spot a0 x53.At).bind fun r70 =>
 if (!r70) = true then (
 some 1) else (
 if ((mget s48.2 x53.Name false) || (mget s48.1 x53.At false)) = true then (
 some 7) else (
 k49 ((mput s48.1 x53.At true), (mput s48.2 x53.Name true)))))) (fun (s48 : ((List (T_Spot × Bool)) × (List (ByteArray × Bool)))) =>
 j44 ()) (s36, [])) fun j37 =>
 loopI a0.Links (fun (i105 : Int) x106 (s101 : (List (T_Spot × Bool))) k102 =>
 (t_topo_Spot a0 x106.A).bind fun r117 =>
 (gd (!(!r117)) default (t_topo_Spot a0 x106.B)).bind fun r130 =>
 if ((!r117) || (!r130)) = true then (
 some 1) else (
 if (((mget s101 x106.A false) || (mget s101 x106.B false)) || (decide (x106.A = x106.B))) = true then (
 some 7) else (
 k102 (mput (mput s101 x106.A true) x106.B true)))) (fun (s101 : (List (T_Spot × Bool))) =>
 j37 (s101)) ([])))
theorem ty_topo_Check {n : Nat} (hn : bigN ≤ n) (a0 : T_Topo) : Rv (fun x : Int => (eV x)) (sem_topo_Check n [(T_Topo.e a0)]) (t_topo_Check a0) := by
  rw [eq_topo_Check]
  unfold t_topo_Check
  refine tb (x := (T_Topo.c a0)) rfl ?_
  refine tb (x := (vi a0.Switches)) (rfl) ?_
  refine tb (x := (vb (decide (a0.Switches < 1)))) (d_lss) ?_
  refine tg_f (x := V.any) (fun h4 => rfl) ?_
  refine tg_f (x := (vi a0.Switches)) (fun h6 => bind_some_eq (gate_pos (not_t h6) (rfl))) ?_
  refine tg_f (x := (vb (decide (6 < a0.Switches)))) (fun h9 => by simp only [gv_t h9]; exact bind_some_eq (d_gtr)) ?_
  refine tb (x := (vb ((decide (a0.Switches < 1)) || (decide (6 < a0.Switches))))) (pick_or (fun h9 => gv_t (not_f h9))) ?_
  refine tcond (fun h13 => ?_) (fun h13 => ?_)
  · refine tb (x := (eV 1)) (p_mkE (by decide)) ?_
    exact rf_ret rfl
  · refine tb (x := (V.sl (List.map T_Link.c a0.Links))) (rfl) ?_
    refine tb (x := (vi (List.length a0.Links : Int))) (p_len _) ?_
    refine tb (x := (vb (decide (200 < (List.length a0.Links : Int))))) (d_gtr) ?_
    refine tg_f (x := V.any) (fun h18 => rfl) ?_
    refine tg_f (x := (V.sl (List.map T_Host.c a0.Hosts))) (fun h20 => bind_some_eq (gate_pos (not_t h20) (rfl))) ?_
    refine tg_f (x := (vi (List.length a0.Hosts : Int))) (fun h23 => by simp only [gv_t h23]; exact bind_some_eq (p_len _)) ?_
    refine tg_f (x := (vb (decide (8 < (List.length a0.Hosts : Int))))) (fun h26 => by simp only [gv_t h26]; exact bind_some_eq (d_gtr)) ?_
    refine tb (x := (vb ((decide (200 < (List.length a0.Links : Int))) || (decide (8 < (List.length a0.Hosts : Int)))))) (pick_or (fun h9 => gv_t (not_f h9))) ?_
    refine tcond (fun h30 => ?_) (fun h30 => ?_)
    · refine tb (x := (eV 4)) (p_mkE (by decide)) ?_
      exact rf_ret rfl
    · refine tb (x := (V.sl (List.map T_Link.c a0.Links))) (rfl) ?_
      refine tb (x := (vi (List.length a0.Links : Int))) (p_len _) ?_
      refine tjoin (mk := fun s36 : (List (T_Spot × Bool)) => [(V.mp (mrep T_Spot.val (fun b : Bool => Go.Value.bool b) s36))]) (fun s36 => ?_) fun J35 j37 h38 => ?_
      · refine tb (x := (V.sl (List.map T_Host.c a0.Hosts))) (rfl) ?_
        refine tb (x := (vi (List.length a0.Hosts : Int))) (p_len _) ?_
        refine tjoin (mk := fun s43 : Unit => []) (fun s43 => ?_) fun J42 j44 h45 => ?_
        · exact rf_ret rfl
        · refine tkeepO2 ?_ rfl
          refine tsome ?_
          refine rf_loopI (mk := fun (i52 : Int) (s48 : ((List (T_Spot × Bool)) × (List (ByteArray × Bool)))) => [(V.mp (mrep T_Spot.val (fun b : Bool => Go.Value.bool b) s48.1)), (V.mp (mrep (fun b : ByteArray => Go.Value.string b) (fun b : Bool => Go.Value.bool b) s48.2)), (vi (i52 : Int))]) hn a0.Hosts (s36, []) (fun i52 x53 h54 h55 h56 s48 rec46 k49 h50 => ?_) (fun s48 rec97 h96 => ?_)
          · refine tb (x := (vb (decide ((i52 : Int) < (List.length a0.Hosts : Int))))) (d_lss) ?_
            refine tcond_t h56 ?_
            refine tb (x := (V.ptr (T_Host.c x53))) (p_idx_at (c := T_Host.c) (fun _ => rfl) h54) ?_
            refine tb (x := (T_Host.e x53)) (rfl) ?_
            refine tb (x := V.agg (T_Host.c x53)) (by kernel_rfl) ?_
            refine tb (x := (vt x53.Name)) (rfl) ?_
            refine tbo (ty_topo_Name hn x53.Name) fun r63 => ?_
            refine tb (x := (vb (!r63))) (d_not) ?_
            refine tcond (fun h65 => ?_) (fun h65 => ?_)
            · refine tb (x := (eV 2)) (p_mkE (by decide)) ?_
              exact rf_ret rfl
            · refine tb (x := (T_Topo.e a0)) (rfl) ?_
              refine tb (x := (T_Spot.e x53.At)) (rfl) ?_
              refine tbo (ty_topo_Spot hn a0 x53.At) fun r70 => ?_
              refine tb (x := (vb (!r70))) (d_not) ?_
              refine tcond (fun h72 => ?_) (fun h72 => ?_)
              · refine tb (x := (eV 1)) (p_mkE (by decide)) ?_
                exact rf_ret rfl
              · refine tb (x := (vt x53.Name)) (rfl) ?_
                refine tb (x := (vb (mget s48.2 x53.Name false))) (p_look (kt := 9) (et := 4) (kv := (fun b : ByteArray => Go.Value.string b)) (vv := (fun b : Bool => Go.Value.bool b)) (e1 := fun x : Bool => (vb x)) (mkey_str (by kernel_rfl)) (by kernel_rfl) false (fun _ => by kernel_rfl) (fun _ => rfl) x53.Name rfl s48.2) ?_
                refine tg_f (x := V.any) (fun h76 => rfl) ?_
                refine tg_f (x := V.any) (fun h78 => rfl) ?_
                refine tg_f (x := (T_Spot.e x53.At)) (fun h80 => bind_some_eq (gate_pos (not_t h80) (rfl))) ?_
                refine tg_f (x := (vb (mget s48.1 x53.At false))) (fun h83 => by simp only [gv_t h83]; exact bind_some_eq (gate_pos (not_t h83) (p_look (kt := 62) (et := 4) (kv := T_Spot.val) (vv := (fun b : Bool => Go.Value.bool b)) (e1 := fun x : Bool => (vb x)) T_Spot.mkey (by kernel_rfl) false (fun _ => by kernel_rfl) (fun _ => rfl) x53.At rfl s48.1))) ?_
                refine tb (x := (vb ((mget s48.2 x53.Name false) || (mget s48.1 x53.At false)))) (pick_or (fun h9 => gv_t (not_f h9))) ?_
                refine tcond (fun h87 => ?_) (fun h87 => ?_)
                · refine tb (x := (eV 7)) (p_mkE (by decide)) ?_
                  exact rf_ret rfl
                · refine tb (x := (vt x53.Name)) (rfl) ?_
                  refine tb (x := (vt x53.Name)) rfl ?_
                  refine tb (x := (T_Spot.e x53.At)) (rfl) ?_
                  refine tb (x := (T_Spot.e x53.At)) rfl ?_
                  refine tb (x := V.mp (mrep (fun b : ByteArray => Go.Value.string b) (fun b : Bool => Go.Value.bool b) (mput s48.2 x53.Name true))) (p_put (kt := 9) (et := 4) (kv := (fun b : ByteArray => Go.Value.string b)) (vv := (fun b : Bool => Go.Value.bool b)) (mkey_str (by kernel_rfl)) (by kernel_rfl) x53.Name true rfl rfl s48.2) ?_
                  refine tb (x := V.mp (mrep T_Spot.val (fun b : Bool => Go.Value.bool b) (mput s48.1 x53.At true))) (p_put (kt := 62) (et := 4) (kv := T_Spot.val) (vv := (fun b : Bool => Go.Value.bool b)) T_Spot.mkey (by kernel_rfl) x53.At true rfl rfl s48.1) ?_
                  refine tb (x := (vi ((i52 : Int) + 1))) (p_incN h55) ?_
                  refine tkeepO2 ?_ rfl
                  refine tsome ?_
                  exact h50 ((mput s48.1 x53.At true), (mput s48.2 x53.Name true))
          · refine tb (x := (vb (decide ((List.length a0.Hosts : Int) < (List.length a0.Hosts : Int))))) (d_lss) ?_
            refine tcond_f h96 ?_
            exact h45 ()
      · refine tkeepO2 ?_ rfl
        refine tsome ?_
        refine rf_loopI (mk := fun (i105 : Int) (s101 : (List (T_Spot × Bool))) => [(V.mp (mrep T_Spot.val (fun b : Bool => Go.Value.bool b) s101)), (vi (i105 : Int))]) hn a0.Links ([]) (fun i105 x106 h107 h108 h109 s101 rec99 k102 h103 => ?_) (fun s101 rec174 h173 => ?_)
        · refine tb (x := (vb (decide ((i105 : Int) < (List.length a0.Links : Int))))) (d_lss) ?_
          refine tcond_t h109 ?_
          refine tb (x := (V.ptr (T_Link.c x106))) (p_idx_at (c := T_Link.c) (fun _ => rfl) h107) ?_
          refine tb (x := (T_Link.e x106)) (rfl) ?_
          refine tb (x := V.agg (T_Link.c x106)) (by kernel_rfl) ?_
          refine tb (x := (T_Topo.e a0)) (rfl) ?_
          refine tb (x := (T_Spot.e x106.A)) (rfl) ?_
          refine tbo (ty_topo_Spot hn a0 x106.A) fun r117 => ?_
          refine tb (x := (vb (!r117))) (d_not) ?_
          refine tg_f (x := (T_Topo.e a0)) (fun h119 => bind_some_eq (rfl)) ?_
          refine tg_f (x := V.any) (fun h122 => rfl) ?_
          refine tg_f (x := (T_Spot.e x106.B)) (fun h124 => bind_some_eq (gate_pos (not_t h124) (rfl))) ?_
          refine tgo_f (fun h127 => by simp only [gv_t h127]; exact rf_bind_some (ty_topo_Spot hn a0 x106.B)) fun r130 => ?_
          refine tg_f (x := (vb (!r130))) (fun h131 => by simp only [gv_t h131]; exact bind_some_eq (d_not)) ?_
          refine tb (x := (vb ((!r117) || (!r130)))) (pick_or (fun h9 => gv_t (not_f h9))) ?_
          refine tcond (fun h135 => ?_) (fun h135 => ?_)
          · refine tb (x := (eV 1)) (p_mkE (by decide)) ?_
            exact rf_ret rfl
          · refine tb (x := (T_Spot.e x106.A)) (rfl) ?_
            refine tb (x := (vb (mget s101 x106.A false))) (p_look (kt := 62) (et := 4) (kv := T_Spot.val) (vv := (fun b : Bool => Go.Value.bool b)) (e1 := fun x : Bool => (vb x)) T_Spot.mkey (by kernel_rfl) false (fun _ => by kernel_rfl) (fun _ => rfl) x106.A rfl s101) ?_
            refine tg_f (x := V.any) (fun h139 => rfl) ?_
            refine tg_f (x := V.any) (fun h141 => rfl) ?_
            refine tg_f (x := (T_Spot.e x106.B)) (fun h143 => bind_some_eq (gate_pos (not_t h143) (rfl))) ?_
            refine tg_f (x := (vb (mget s101 x106.B false))) (fun h146 => by simp only [gv_t h146]; exact bind_some_eq (gate_pos (not_t h146) (p_look (kt := 62) (et := 4) (kv := T_Spot.val) (vv := (fun b : Bool => Go.Value.bool b)) (e1 := fun x : Bool => (vb x)) T_Spot.mkey (by kernel_rfl) false (fun _ => by kernel_rfl) (fun _ => rfl) x106.B rfl s101))) ?_
            refine tb (x := (vb ((mget s101 x106.A false) || (mget s101 x106.B false)))) (pick_or (fun h9 => gv_t (not_f h9))) ?_
            refine tg_f (x := V.any) (fun h150 => rfl) ?_
            refine tg_f (x := (T_Spot.e x106.A)) (fun h152 => bind_some_eq (gate_pos (not_t h152) (rfl))) ?_
            refine tg_f (x := V.any) (fun h155 => rfl) ?_
            refine tg_f (x := (T_Spot.e x106.B)) (fun h157 => bind_some_eq (gate_pos (not_t h157) (rfl))) ?_
            refine tg_f (x := (vb (decide (x106.A = x106.B)))) (fun h160 => by simp only [gv_t h160]; exact bind_some_eq (T_Spot.eql x106.A x106.B)) ?_
            refine tb (x := (vb (((mget s101 x106.A false) || (mget s101 x106.B false)) || (decide (x106.A = x106.B))))) (pick_or (fun h9 => gv_t (not_f h9))) ?_
            refine tcond (fun h164 => ?_) (fun h164 => ?_)
            · refine tb (x := (eV 7)) (p_mkE (by decide)) ?_
              exact rf_ret rfl
            · refine tb (x := (T_Spot.e x106.A)) (rfl) ?_
              refine tb (x := (T_Spot.e x106.A)) rfl ?_
              refine tb (x := (T_Spot.e x106.B)) (rfl) ?_
              refine tb (x := (T_Spot.e x106.B)) rfl ?_
              refine tb (x := V.mp (mrep T_Spot.val (fun b : Bool => Go.Value.bool b) (mput s101 x106.A true))) (p_put (kt := 62) (et := 4) (kv := T_Spot.val) (vv := (fun b : Bool => Go.Value.bool b)) T_Spot.mkey (by kernel_rfl) x106.A true rfl rfl s101) ?_
              refine tb (x := V.mp (mrep T_Spot.val (fun b : Bool => Go.Value.bool b) (mput (mput s101 x106.A true) x106.B true))) (p_put (kt := 62) (et := 4) (kv := T_Spot.val) (vv := (fun b : Bool => Go.Value.bool b)) T_Spot.mkey (by kernel_rfl) x106.B true rfl rfl (mput s101 x106.A true)) ?_
              refine tb (x := (vi ((i105 : Int) + 1))) (p_incN h108) ?_
              refine tkeepO2 ?_ rfl
              refine tsome ?_
              exact h103 (mput (mput s101 x106.A true) x106.B true)
        · refine tb (x := (vb (decide ((List.length a0.Links : Int) < (List.length a0.Links : Int))))) (d_lss) ?_
          refine tcond_f h173 ?_
          refine tkeepO2 ?_ rfl
          refine tsome ?_
          exact h38 (s101)

/-! railpoint/cube.Header -/
def an_cube_Header : Ann := .seq (.reg 0 [] [] []) (.seq (.reg 0 [] [] []) (.no))
noncomputable def sem_cube_Header (n : Nat) (xs : List V) : Option V := if xs.length ≤ 9 then denF Tryd.prog (envOf []) n Tryd.f73 an_cube_Header xs else none
theorem ok_cube_Header (n : Nat) : SemOk Tryd.prog DW 73 (sem_cube_Header n) := fun xs y h => by
  unfold sem_cube_Header at h
  split at h
  · rename_i hl
    exact denF_ok stb Tryd.func73 (by kernel_rfl) (envOf_ok semsOk_nil) (by rw [Tryd.ntmps73]; exact hl) h
  · cases h
theorem eq_cube_Header (n : Nat) (x0 : V) : sem_cube_Header n [x0] =
 (bin2 Tryd.prog BinOp.geq 3 (ot 3) (oc 0) x0 (vi 0)).bind fun v1 =>
 (guardV v1 true (some x0)).bind fun v2 =>
 (guardV v1 true ((bin2 Tryd.prog BinOp.lss 3 (ot 6) (oc 16) v2 (vi 16)).bind fun v3 =>
 some v3)).bind fun v4 =>
 (pickV v1 v4 (vb false)).bind fun v5 =>
 some v5 := by kernel_rfl
noncomputable def t_cube_Header (a0 : Int) : Option Bool :=
 some ((decide (0 ≤ a0)) && (decide (a0 < 16)))
theorem ty_cube_Header {n : Nat} (hn : bigN ≤ n) (a0 : Int) : Rv (fun x : Bool => (vb x)) (sem_cube_Header n [(vi a0)]) (t_cube_Header a0) := by
  rw [eq_cube_Header]
  unfold t_cube_Header
  refine tb (x := (vb (decide (0 ≤ a0)))) (d_geq) ?_
  refine tg (x := (vi a0)) (fun h2 => rfl) ?_
  refine tg (x := (vb (decide (a0 < 16)))) (fun h4 => by simp only [gv_t h4]; exact bind_some_eq (d_lss)) ?_
  refine tb (x := (vb ((decide (0 ≤ a0)) && (decide (a0 < 16))))) (pick_and (fun h9 => gv_t h9)) ?_
  exact rf_ret rfl

/-! railpoint/cube.Check -/
def an_cube_Check : Ann := .seq (.reg 0 [] [] []) (.seq (.blk none (.seq (.reg 0 [] [] []) (.cond none (.seq (.reg 0 [] [] []) (.no)) (.seq (.reg 0 [] [] []) (.cond none (.seq (.reg 0 [] [] []) (.no)) (.no)))))) (.seq (.reg 0 [] [] []) (.no)))
noncomputable def sem_cube_Check (n : Nat) (xs : List V) : Option V := if xs.length ≤ 23 then denF Tryd.prog (envOf [(73, (sem_cube_Header n))]) n Tryd.f166 an_cube_Check xs else none
theorem ok_cube_Check (n : Nat) : SemOk Tryd.prog DW 166 (sem_cube_Check n) := fun xs y h => by
  unfold sem_cube_Check at h
  split at h
  · rename_i hl
    exact denF_ok stb Tryd.func166 (by kernel_rfl) (envOf_ok (semsOk_cons (ok_cube_Header n) semsOk_nil)) (by rw [Tryd.ntmps166]; exact hl) h
  · cases h
theorem eq_cube_Check (n : Nat) (x0 : V) : sem_cube_Check n [x0] =
 (V.cellsO x0).bind fun v1 =>
 (ldk none (List.drop 0 v1)).bind fun v2 =>
 ((sem_cube_Header n) [v2]).bind fun v3 =>
 (scal1 Tryd.prog (Op.unary Go.UnOp.not) v3).bind fun v4 =>
 (guardV v4 false (some V.any)).bind fun v5 =>
 (guardV v4 false ((gate v4 false (ldk none (List.drop 1 v1))).bind fun v6 =>
 some v6)).bind fun v7 =>
 (guardV v4 false (((sem_cube_Header n) [v7]).bind fun v8 =>
 some v8)).bind fun v9 =>
 (guardV v4 false ((scal1 Tryd.prog (Op.unary Go.UnOp.not) v9).bind fun v10 =>
 some v10)).bind fun v11 =>
 (pickV v4 (vb true) v11).bind fun v12 =>
 condV v12 (
 (scal1 Tryd.prog (Instr.makeInterface 143) (vi 1)).bind fun v13 =>
 some v13) (
 (ldk none (List.drop 1 v1)).bind fun v14 =>
 (ldk none (List.drop 0 v1)).bind fun v15 =>
 (bin2 Tryd.prog BinOp.andNot 3 (ot 17) (ot 19) v14 v15).bind fun v16 =>
 (bin2 Tryd.prog BinOp.neq 3 (ot 20) (oc 0) v16 (vi 0)).bind fun v17 =>
 condV v17 (
 (scal1 Tryd.prog (Instr.makeInterface 143) (vi 3)).bind fun v18 =>
 some v18) (
 some vn)) := by kernel_rfl
noncomputable def t_cube_Check (a0 : T_Cube) : Option Int :=
 (t_cube_Header a0.Mask).bind fun r4 =>
 (gd (!(!r4)) default (t_cube_Header a0.Bits)).bind fun r14 =>
 if ((!r4) || (!r14)) = true then (
 some 1) else (
 if (decide ((bits .andNot .i64 a0.Bits a0.Mask) ≠ 0)) = true then (
 some 3) else (
 some 0))
theorem ty_cube_Check {n : Nat} (hn : bigN ≤ n) (a0 : T_Cube) : Rv (fun x : Int => (eV x)) (sem_cube_Check n [(T_Cube.e a0)]) (t_cube_Check a0) := by
  rw [eq_cube_Check]
  unfold t_cube_Check
  refine tb (x := (T_Cube.c a0)) rfl ?_
  refine tb (x := (vi a0.Mask)) (rfl) ?_
  refine tbo (ty_cube_Header hn a0.Mask) fun r4 => ?_
  refine tb (x := (vb (!r4))) (d_not) ?_
  refine tg_f (x := V.any) (fun h6 => rfl) ?_
  refine tg_f (x := (vi a0.Bits)) (fun h8 => bind_some_eq (gate_pos (not_t h8) (rfl))) ?_
  refine tgo_f (fun h11 => by simp only [gv_t h11]; exact rf_bind_some (ty_cube_Header hn a0.Bits)) fun r14 => ?_
  refine tg_f (x := (vb (!r14))) (fun h15 => by simp only [gv_t h15]; exact bind_some_eq (d_not)) ?_
  refine tb (x := (vb ((!r4) || (!r14)))) (pick_or (fun h9 => gv_t (not_f h9))) ?_
  refine tcond (fun h19 => ?_) (fun h19 => ?_)
  · refine tb (x := (eV 1)) (p_mkE (by decide)) ?_
    exact rf_ret rfl
  · refine tb (x := (vi a0.Bits)) (rfl) ?_
    refine tb (x := (vi a0.Mask)) (rfl) ?_
    refine tb (x := (vi (bits .andNot .i64 a0.Bits a0.Mask))) (d_andNot) ?_
    refine tb (x := (vb (decide ((bits .andNot .i64 a0.Bits a0.Mask) ≠ 0)))) (d_neq) ?_
    refine tcond (fun h25 => ?_) (fun h25 => ?_)
    · refine tb (x := (eV 3)) (p_mkE (by decide)) ?_
      exact rf_ret rfl
    · exact rf_ret rfl

/-! railpoint/rule.Check -/
def an_rule_Check : Ann := .seq (.reg 0 [] [] []) (.seq (.seq (.reg 0 [] [] []) (.cond none (.seq (.reg 0 [] [] []) (.no)) (.no))) (.seq (.seq (.reg 0 [] [] []) (.seq (.reg 0 [] [] []) (.cond none (.seq (.reg 0 [] [] []) (.no)) (.no)))) (.seq (.seq (.reg 0 [] [] []) (.cond none (.seq (.reg 0 [] [] []) (.no)) (.no))) (.seq (.reg 0 [] [] []) (.no)))))
noncomputable def sem_rule_Check (n : Nat) (xs : List V) : Option V := if xs.length ≤ 58 then denF Tryd.prog (envOf [(73, (sem_cube_Header n)), (166, (sem_cube_Check n))]) n Tryd.f127 an_rule_Check xs else none
theorem ok_rule_Check (n : Nat) : SemOk Tryd.prog DW 127 (sem_rule_Check n) := fun xs y h => by
  unfold sem_rule_Check at h
  split at h
  · rename_i hl
    exact denF_ok stb Tryd.func127 (by kernel_rfl) (envOf_ok (semsOk_cons (ok_cube_Header n) (semsOk_cons (ok_cube_Check n) semsOk_nil))) (by rw [Tryd.ntmps127]; exact hl) h
  · cases h
theorem eq_rule_Check (n : Nat) (x0 : V) : sem_rule_Check n [x0] =
 (V.cellsO x0).bind fun v1 =>
 (ldk none (List.drop 0 v1)).bind fun v2 =>
 (bin2 Tryd.prog BinOp.lss 3 (ot 5) (oc 0) v2 (vi 0)).bind fun v3 =>
 (guardV v3 false (some V.any)).bind fun v4 =>
 (guardV v3 false ((gate v3 false (ldk none (List.drop 0 v1))).bind fun v5 =>
 some v5)).bind fun v6 =>
 (guardV v3 false ((bin2 Tryd.prog BinOp.gtr 3 (ot 9) (oc 99) v6 (vi 99)).bind fun v7 =>
 some v7)).bind fun v8 =>
 (pickV v3 (vb true) v8).bind fun v9 =>
 (guardV v9 false (some V.any)).bind fun v10 =>
 (guardV v9 false ((gate v9 false (ldk none (List.drop 3 v1))).bind fun v11 =>
 some v11)).bind fun v12 =>
 (guardV v9 false ((bin2 Tryd.prog BinOp.lss 3 (ot 14) (oc 0) v12 (vi 0)).bind fun v13 =>
 some v13)).bind fun v14 =>
 (pickV v9 (vb true) v14).bind fun v15 =>
 (guardV v15 false (some V.any)).bind fun v16 =>
 (guardV v15 false ((gate v15 false (ldk none (List.drop 3 v1))).bind fun v17 =>
 some v17)).bind fun v18 =>
 (guardV v15 false ((bin2 Tryd.prog BinOp.gtr 3 (ot 19) (oc 4) v18 (vi 4)).bind fun v19 =>
 some v19)).bind fun v20 =>
 (pickV v15 (vb true) v20).bind fun v21 =>
 (guardV v21 false (some V.any)).bind fun v22 =>
 (guardV v21 false ((gate v21 false (ldk none (List.drop 4 v1))).bind fun v23 =>
 some v23)).bind fun v24 =>
 (guardV v21 false (((sem_cube_Header n) [v24]).bind fun v25 =>
 some v25)).bind fun v26 =>
 (guardV v21 false ((scal1 Tryd.prog (Op.unary Go.UnOp.not) v26).bind fun v27 =>
 some v27)).bind fun v28 =>
 (pickV v21 (vb true) v28).bind fun v29 =>
 (guardV v29 false (some V.any)).bind fun v30 =>
 (guardV v29 false ((gate v29 false (ldk none (List.drop 5 v1))).bind fun v31 =>
 some v31)).bind fun v32 =>
 (guardV v29 false (((sem_cube_Header n) [v32]).bind fun v33 =>
 some v33)).bind fun v34 =>
 (guardV v29 false ((scal1 Tryd.prog (Op.unary Go.UnOp.not) v34).bind fun v35 =>
 some v35)).bind fun v36 =>
 (pickV v29 (vb true) v36).bind fun v37 =>
 condV v37 (
 (scal1 Tryd.prog (Instr.makeInterface 143) (vi 1)).bind fun v38 =>
 some v38) (
 (ldk (some 2) (List.drop 1 v1)).bind fun v39 =>
 ((sem_cube_Check n) [v39]).bind fun v40 =>
 (bin2 Tryd.prog BinOp.neq 35 (ot 38) (Operand.const Go.Value.nilIface) v40 vn).bind fun v41 =>
 condV v41 (
 some v40) (
 (ldk none (List.drop 5 v1)).bind fun v42 =>
 (ldk none (List.drop 4 v1)).bind fun v43 =>
 (bin2 Tryd.prog BinOp.andNot 3 (ot 42) (ot 44) v42 v43).bind fun v44 =>
 (bin2 Tryd.prog BinOp.neq 3 (ot 45) (oc 0) v44 (vi 0)).bind fun v45 =>
 (guardV v45 false (some V.any)).bind fun v46 =>
 (guardV v45 false ((gate v45 false (ldk none (List.drop 3 v1))).bind fun v47 =>
 some v47)).bind fun v48 =>
 (guardV v45 false ((bin2 Tryd.prog BinOp.eql 3 (ot 49) (oc 0) v48 (vi 0)).bind fun v49 =>
 some v49)).bind fun v50 =>
 (guardV v45 false (some v50)).bind fun v51 =>
 (guardV v51 true (some V.any)).bind fun v52 =>
 (guardV v51 true ((gate v51 true (ldk none (List.drop 4 v1))).bind fun v53 =>
 some v53)).bind fun v54 =>
 (guardV v51 true ((bin2 Tryd.prog BinOp.neq 3 (ot 53) (oc 0) v54 (vi 0)).bind fun v55 =>
 some v55)).bind fun v56 =>
 (guardV v45 false ((pickV v51 v56 (vb false)).bind fun v57 =>
 some v57)).bind fun v58 =>
 (pickV v45 (vb true) v58).bind fun v59 =>
 condV v59 (
 (scal1 Tryd.prog (Instr.makeInterface 143) (vi 3)).bind fun v60 =>
 some v60) (
 some vn))) := by kernel_rfl
noncomputable def t_rule_Check (a0 : T_Rule) : Option Int :=
 (gd (!((((decide (a0.Prio < 0)) || (decide (99 < a0.Prio))) || (decide (a0.Out < 0))) || (decide (4 < a0.Out)))) default (t_cube_Header a0.Set)).bind fun r39 =>
 (gd (!(((((decide (a0.Prio < 0)) || (decide (99 < a0.Prio))) || (decide (a0.Out < 0))) || (decide (4 < a0.Out))) || (!r39))) default (t_cube_Header a0.Value)).bind fun r52 =>
 if ((((((decide (a0.Prio < 0)) || (decide (99 < a0.Prio))) || (decide (a0.Out < 0))) || (decide (4 < a0.Out))) || (!r39)) || (!r52)) = true then (
 some 1) else (
 (t_cube_Check a0.Cube).bind fun r61 =>
 if (!decide (r61 = 0)) = true then (
 some r61) else (
 if ((decide ((bits .andNot .i64 a0.Value a0.Set) ≠ 0)) || ((decide (a0.Out = 0)) && (decide (a0.Set ≠ 0)))) = true then (
 some 3) else (
 some 0)))
theorem ty_rule_Check {n : Nat} (hn : bigN ≤ n) (a0 : T_Rule) : Rv (fun x : Int => (eV x)) (sem_rule_Check n [(T_Rule.e a0)]) (t_rule_Check a0) := by
  rw [eq_rule_Check]
  unfold t_rule_Check
  refine tb (x := (T_Rule.c a0)) rfl ?_
  refine tb (x := (vi a0.Prio)) (rfl) ?_
  refine tb (x := (vb (decide (a0.Prio < 0)))) (d_lss) ?_
  refine tg_f (x := V.any) (fun h4 => rfl) ?_
  refine tg_f (x := (vi a0.Prio)) (fun h6 => bind_some_eq (gate_pos (not_t h6) (rfl))) ?_
  refine tg_f (x := (vb (decide (99 < a0.Prio)))) (fun h9 => by simp only [gv_t h9]; exact bind_some_eq (d_gtr)) ?_
  refine tb (x := (vb ((decide (a0.Prio < 0)) || (decide (99 < a0.Prio))))) (pick_or (fun h9 => gv_t (not_f h9))) ?_
  refine tg_f (x := V.any) (fun h13 => rfl) ?_
  refine tg_f (x := (vi a0.Out)) (fun h15 => bind_some_eq (gate_pos (not_t h15) (rfl))) ?_
  refine tg_f (x := (vb (decide (a0.Out < 0)))) (fun h18 => by simp only [gv_t h18]; exact bind_some_eq (d_lss)) ?_
  refine tb (x := (vb (((decide (a0.Prio < 0)) || (decide (99 < a0.Prio))) || (decide (a0.Out < 0))))) (pick_or (fun h9 => gv_t (not_f h9))) ?_
  refine tg_f (x := V.any) (fun h22 => rfl) ?_
  refine tg_f (x := (vi a0.Out)) (fun h24 => bind_some_eq (gate_pos (not_t h24) (rfl))) ?_
  refine tg_f (x := (vb (decide (4 < a0.Out)))) (fun h27 => by simp only [gv_t h27]; exact bind_some_eq (d_gtr)) ?_
  refine tb (x := (vb ((((decide (a0.Prio < 0)) || (decide (99 < a0.Prio))) || (decide (a0.Out < 0))) || (decide (4 < a0.Out))))) (pick_or (fun h9 => gv_t (not_f h9))) ?_
  refine tg_f (x := V.any) (fun h31 => rfl) ?_
  refine tg_f (x := (vi a0.Set)) (fun h33 => bind_some_eq (gate_pos (not_t h33) (rfl))) ?_
  refine tgo_f (fun h36 => by simp only [gv_t h36]; exact rf_bind_some (ty_cube_Header hn a0.Set)) fun r39 => ?_
  refine tg_f (x := (vb (!r39))) (fun h40 => by simp only [gv_t h40]; exact bind_some_eq (d_not)) ?_
  refine tb (x := (vb (((((decide (a0.Prio < 0)) || (decide (99 < a0.Prio))) || (decide (a0.Out < 0))) || (decide (4 < a0.Out))) || (!r39)))) (pick_or (fun h9 => gv_t (not_f h9))) ?_
  refine tg_f (x := V.any) (fun h44 => rfl) ?_
  refine tg_f (x := (vi a0.Value)) (fun h46 => bind_some_eq (gate_pos (not_t h46) (rfl))) ?_
  refine tgo_f (fun h49 => by simp only [gv_t h49]; exact rf_bind_some (ty_cube_Header hn a0.Value)) fun r52 => ?_
  refine tg_f (x := (vb (!r52))) (fun h53 => by simp only [gv_t h53]; exact bind_some_eq (d_not)) ?_
  refine tb (x := (vb ((((((decide (a0.Prio < 0)) || (decide (99 < a0.Prio))) || (decide (a0.Out < 0))) || (decide (4 < a0.Out))) || (!r39)) || (!r52)))) (pick_or (fun h9 => gv_t (not_f h9))) ?_
  refine tcond (fun h57 => ?_) (fun h57 => ?_)
  · refine tb (x := (eV 1)) (p_mkE (by decide)) ?_
    exact rf_ret rfl
  · refine tb (x := (T_Cube.e a0.Cube)) (rfl) ?_
    refine tbo (ty_cube_Check hn a0.Cube) fun r61 => ?_
    refine tb (x := (vb (!decide (r61 = 0)))) (p_err_neq _) ?_
    refine tcond (fun h63 => ?_) (fun h63 => ?_)
    · exact rf_ret rfl
    · refine tb (x := (vi a0.Value)) (rfl) ?_
      refine tb (x := (vi a0.Set)) (rfl) ?_
      refine tb (x := (vi (bits .andNot .i64 a0.Value a0.Set))) (d_andNot) ?_
      refine tb (x := (vb (decide ((bits .andNot .i64 a0.Value a0.Set) ≠ 0)))) (d_neq) ?_
      refine tg_f (x := V.any) (fun h68 => rfl) ?_
      refine tg_f (x := (vi a0.Out)) (fun h70 => bind_some_eq (gate_pos (not_t h70) (rfl))) ?_
      refine tg_f (x := (vb (decide (a0.Out = 0)))) (fun h73 => by simp only [gv_t h73]; exact bind_some_eq (d_eql)) ?_
      refine tg_f (x := (vb (decide (a0.Out = 0)))) (fun h76 => congrArg some (gv_t h76)) ?_
      refine tg2 (x := V.any) (fun h78 => rfl) ?_
      refine tg2 (x := (vi a0.Set)) (fun h80 => bind_some_eq (gate_pos2 (and_l h80) (and_r h80) (rfl))) ?_
      refine tg2 (x := (vb (decide (a0.Set ≠ 0)))) (fun h83 => by simp only [gv_t h83]; exact bind_some_eq (d_neq)) ?_
      refine tg_f (x := (vb ((decide (a0.Out = 0)) && (decide (a0.Set ≠ 0))))) (fun h86 => by simp only [gv_t h86]; exact bind_some_eq (pick_and (fun h9 => gv_t (and_i h86 h9)))) ?_
      refine tb (x := (vb ((decide ((bits .andNot .i64 a0.Value a0.Set) ≠ 0)) || ((decide (a0.Out = 0)) && (decide (a0.Set ≠ 0)))))) (pick_or (fun h9 => gv_t (not_f h9))) ?_
      refine tcond (fun h90 => ?_) (fun h90 => ?_)
      · refine tb (x := (eV 3)) (p_mkE (by decide)) ?_
        exact rf_ret rfl
      · exact rf_ret rfl

/-! slices.IndexFunc railpoint/api.Table railpoint/api.Rule  -/
def an_slices_IndexFunc_api_Table_api_Rule : Ann := .seq (.reg 0 [] [] []) (.seq (.seq (.reg 0 [] [] []) (.blk (some []) (.loop [.s 8] (.seq (.reg 0 [] [] []) (.seq (.cond none (.no) (.no)) (.seq (.blk none (.seq (.reg 0 [] [] []) (.seq (.reg 0 [] [] []) (.cond none (.seq (.reg 0 [] [] []) (.no)) (.no))))) (.reg 0 [] [] []))))))) (.seq (.reg 0 [] [] []) (.no)))
noncomputable def sem_slices_IndexFunc_api_Table_api_Rule (E : FuncId → List V → Option V) (n : Nat) (xs : List V) : Option V := if xs.length ≤ 19 then denF Tryd.prog (envJ [] E) n Tryd.f167 an_slices_IndexFunc_api_Table_api_Rule xs else none
theorem ok_slices_IndexFunc_api_Table_api_Rule {E : FuncId → List V → Option V} (hE : EnvOk Tryd.prog DW E) (n : Nat) : SemOk Tryd.prog DW 167 (sem_slices_IndexFunc_api_Table_api_Rule E n) := fun xs y h => by
  unfold sem_slices_IndexFunc_api_Table_api_Rule at h
  split at h
  · rename_i hl
    exact denF_ok stb Tryd.func167 (by kernel_rfl) (envJ_ok semsOk_nil hE) (by rw [Tryd.ntmps167]; exact hl) h
  · cases h
theorem eq_slices_IndexFunc_api_Table_api_Rule (E : FuncId → List V → Option V) (n : Nat) (x0 x1 : V) : sem_slices_IndexFunc_api_Table_api_Rule E n [x0, x1] =
 (lenS [x0]).bind fun v1 =>
 JoinPt (fun vs2 =>
 some (vi (-1 : Int))) fun J3 =>
 (fixN (fun rec4 vs5 =>
 (bin2 Tryd.prog BinOp.lss 3 (ot 8) (ot 7) (List.getD vs5 0 V.any) v1).bind fun v6 =>
 condV v6 (
 (idxS 6 x0 (List.getD vs5 0 V.any)).bind fun v7 =>
 (ldp (some 6) v7).bind fun v8 =>
 (callV (envJ [] E) x1 [v8]).bind fun v9 =>
 condV v9 (
 some (List.getD vs5 0 V.any)) (
 (bin2 Tryd.prog BinOp.add 3 (ot 8) (oc 1) (List.getD vs5 0 V.any) (vi 1)).bind fun v10 =>
 rec4 [v10])) (
 J3 [])) n) [(vi 0)] := by kernel_rfl
noncomputable def t_slices_IndexFunc_api_Table_api_Rule (a0 : (List T_Rule)) (g1 : T_Rule → Option Bool) : Option Int :=
 join (fun (s4 : Unit) =>
 some (-1 : Int)) fun j5 =>
 loopI a0 (fun (i13 : Int) x14 (s9 : Unit) k10 =>
 (g1 x14).bind fun r22 =>
 if r22 = true then (
 some i13) else (
 k10 ())) (fun (s9 : Unit) =>
 j5 ()) ()
theorem ty_slices_IndexFunc_api_Table_api_Rule {E : FuncId → List V → Option V} {n : Nat} (hn : bigN ≤ n) (a0 : (List T_Rule)) {x1 : V} {g1 : T_Rule → Option Bool} (hg_g1 : ∀ a0, Rv (fun x : Bool => (vb x)) (callV E x1 [(T_Rule.e a0)]) (g1 a0)) : Rv (fun x : Int => (vi x)) (sem_slices_IndexFunc_api_Table_api_Rule E n [(V.sl (List.map T_Rule.c a0)), x1]) (t_slices_IndexFunc_api_Table_api_Rule a0 g1) := by
  rw [eq_slices_IndexFunc_api_Table_api_Rule]
  unfold t_slices_IndexFunc_api_Table_api_Rule
  refine tb (x := (vi (List.length a0 : Int))) (p_len _) ?_
  refine tjoin (mk := fun s4 : Unit => []) (fun s4 => ?_) fun J3 j5 h6 => ?_
  · exact rf_ret rfl
  · refine rf_loopI (mk := fun (i13 : Int) (s9 : Unit) => [(vi (i13 : Int))]) hn a0 () (fun i13 x14 h15 h16 h17 s9 rec7 k10 h11 => ?_) (fun s9 rec26 h25 => ?_)
    · refine tb (x := (vb (decide ((i13 : Int) < (List.length a0 : Int))))) (d_lss) ?_
      refine tcond_t h17 ?_
      refine tb (x := (V.ptr (T_Rule.c x14))) (p_idx_at (c := T_Rule.c) (fun _ => rfl) h15) ?_
      refine tb (x := (T_Rule.e x14)) (rfl) ?_
      refine tbo ((callV_J0 ▸ hg_g1 x14)) fun r22 => ?_
      refine tcond (fun h23 => ?_) (fun h23 => ?_)
      · exact rf_ret rfl
      · refine tb (x := (vi ((i13 : Int) + 1))) (p_incN h16) ?_
        exact h11 ()
    · refine tb (x := (vb (decide ((List.length a0 : Int) < (List.length a0 : Int))))) (d_lss) ?_
      refine tcond_f h25 ?_
      exact h6 ()

/-! slices.ContainsFunc railpoint/api.Table railpoint/api.Rule  -/
def an_slices_ContainsFunc_api_Table_api_Rule : Ann := .seq (.reg 0 [] [] []) (.seq (.reg 0 [] [] []) (.no))
noncomputable def sem_slices_ContainsFunc_api_Table_api_Rule (E : FuncId → List V → Option V) (n : Nat) (xs : List V) : Option V := if xs.length ≤ 9 then denF Tryd.prog (envJ [(167, (sem_slices_IndexFunc_api_Table_api_Rule E n))] E) n Tryd.f128 an_slices_ContainsFunc_api_Table_api_Rule xs else none
theorem ok_slices_ContainsFunc_api_Table_api_Rule {E : FuncId → List V → Option V} (hE : EnvOk Tryd.prog DW E) (n : Nat) : SemOk Tryd.prog DW 128 (sem_slices_ContainsFunc_api_Table_api_Rule E n) := fun xs y h => by
  unfold sem_slices_ContainsFunc_api_Table_api_Rule at h
  split at h
  · rename_i hl
    exact denF_ok stb Tryd.func128 (by kernel_rfl) (envJ_ok (semsOk_cons (ok_slices_IndexFunc_api_Table_api_Rule hE n) semsOk_nil) hE) (by rw [Tryd.ntmps128]; exact hl) h
  · cases h
theorem eq_slices_ContainsFunc_api_Table_api_Rule (E : FuncId → List V → Option V) (n : Nat) (x0 x1 : V) : sem_slices_ContainsFunc_api_Table_api_Rule E n [x0, x1] =
 ((sem_slices_IndexFunc_api_Table_api_Rule E n) [x0, x1]).bind fun v1 =>
 (bin2 Tryd.prog BinOp.geq 3 (ot 7) (oc 0) v1 (vi 0)).bind fun v2 =>
 some v2 := by kernel_rfl
noncomputable def t_slices_ContainsFunc_api_Table_api_Rule (a0 : (List T_Rule)) (g1 : T_Rule → Option Bool) : Option Bool :=
 (t_slices_IndexFunc_api_Table_api_Rule a0 g1).bind fun r2 =>
 some (decide (0 ≤ r2))
theorem ty_slices_ContainsFunc_api_Table_api_Rule {E : FuncId → List V → Option V} {n : Nat} (hn : bigN ≤ n) (a0 : (List T_Rule)) {x1 : V} {g1 : T_Rule → Option Bool} (hg_g1 : ∀ a0, Rv (fun x : Bool => (vb x)) (callV E x1 [(T_Rule.e a0)]) (g1 a0)) : Rv (fun x : Bool => (vb x)) (sem_slices_ContainsFunc_api_Table_api_Rule E n [(V.sl (List.map T_Rule.c a0)), x1]) (t_slices_ContainsFunc_api_Table_api_Rule a0 g1) := by
  rw [eq_slices_ContainsFunc_api_Table_api_Rule]
  unfold t_slices_ContainsFunc_api_Table_api_Rule
  refine tbo (ty_slices_IndexFunc_api_Table_api_Rule (E := E) (x1 := x1) (g1 := g1) hn a0 hg_g1) fun r2 => ?_
  refine tb (x := (vb (decide (0 ≤ r2)))) (d_geq) ?_
  exact rf_ret rfl

/-! railpoint/rule.Key -/
def an_rule_Key : Ann := .seq (.reg 0 [] [] []) (.seq (.reg 0 [] [] []) (.no))
noncomputable def sem_rule_Key (n : Nat) (xs : List V) : Option V := if xs.length ≤ 17 then denF Tryd.prog (envOf []) n Tryd.f130 an_rule_Key xs else none
theorem ok_rule_Key (n : Nat) : SemOk Tryd.prog DW 130 (sem_rule_Key n) := fun xs y h => by
  unfold sem_rule_Key at h
  split at h
  · rename_i hl
    exact denF_ok stb Tryd.func130 (by kernel_rfl) (envOf_ok semsOk_nil) (by rw [Tryd.ntmps130]; exact hl) h
  · cases h
theorem eq_rule_Key (n : Nat) (x0 x1 : V) : sem_rule_Key n [x0, x1] =
 (V.cellsO x0).bind fun v1 =>
 (V.cellsO x1).bind fun v2 =>
 (ldk none (List.drop 0 v1)).bind fun v3 =>
 (ldk none (List.drop 0 v2)).bind fun v4 =>
 (bin2 Tryd.prog BinOp.eql 3 (ot 6) (ot 8) v3 v4).bind fun v5 =>
 (guardV v5 true (some V.any)).bind fun v6 =>
 (guardV v5 true ((gate v5 true (ldk (some 2) (List.drop 1 v1))).bind fun v7 =>
 some v7)).bind fun v8 =>
 (guardV v5 true (some V.any)).bind fun v9 =>
 (guardV v5 true ((gate v5 true (ldk (some 2) (List.drop 1 v2))).bind fun v10 =>
 some v10)).bind fun v11 =>
 (guardV v5 true ((bin2 Tryd.prog BinOp.eql 58 (ot 12) (ot 14) v8 v11).bind fun v12 =>
 some v12)).bind fun v13 =>
 (pickV v5 v13 (vb false)).bind fun v14 =>
 some v14 := by kernel_rfl
noncomputable def t_rule_Key (a0 : T_Rule) (a1 : T_Rule) : Option Bool :=
 some ((decide (a0.Prio = a1.Prio)) && (decide (a0.Cube = a1.Cube)))
theorem ty_rule_Key {n : Nat} (hn : bigN ≤ n) (a0 : T_Rule) (a1 : T_Rule) : Rv (fun x : Bool => (vb x)) (sem_rule_Key n [(T_Rule.e a0), (T_Rule.e a1)]) (t_rule_Key a0 a1) := by
  rw [eq_rule_Key]
  unfold t_rule_Key
  refine tb (x := (T_Rule.c a0)) rfl ?_
  refine tb (x := (T_Rule.c a1)) rfl ?_
  refine tb (x := (vi a0.Prio)) (rfl) ?_
  refine tb (x := (vi a1.Prio)) (rfl) ?_
  refine tb (x := (vb (decide (a0.Prio = a1.Prio)))) (d_eql) ?_
  refine tg (x := V.any) (fun h6 => rfl) ?_
  refine tg (x := (T_Cube.e a0.Cube)) (fun h8 => bind_some_eq (gate_pos h8 (rfl))) ?_
  refine tg (x := V.any) (fun h11 => rfl) ?_
  refine tg (x := (T_Cube.e a1.Cube)) (fun h13 => bind_some_eq (gate_pos h13 (rfl))) ?_
  refine tg (x := (vb (decide (a0.Cube = a1.Cube)))) (fun h16 => by simp only [gv_t h16]; exact bind_some_eq (T_Cube.eql a0.Cube a1.Cube)) ?_
  refine tb (x := (vb ((decide (a0.Prio = a1.Prio)) && (decide (a0.Cube = a1.Cube))))) (pick_and (fun h9 => gv_t h9)) ?_
  exact rf_ret rfl

/-! railpoint/rule.Table$1 -/
def an_rule_Table_1 : Ann := .seq (.reg 0 [] [] []) (.seq (.reg 0 [] [] []) (.no))
noncomputable def sem_rule_Table_1 (n : Nat) (xs : List V) : Option V := if xs.length ≤ 7 then denF Tryd.prog (envOf [(130, (sem_rule_Key n))]) n Tryd.f129 an_rule_Table_1 xs else none
theorem ok_rule_Table_1 (n : Nat) : SemOk Tryd.prog DW 129 (sem_rule_Table_1 n) := fun xs y h => by
  unfold sem_rule_Table_1 at h
  split at h
  · rename_i hl
    exact denF_ok stb Tryd.func129 (by kernel_rfl) (envOf_ok (semsOk_cons (ok_rule_Key n) semsOk_nil)) (by rw [Tryd.ntmps129]; exact hl) h
  · cases h
theorem eq_rule_Table_1 (n : Nat) (x0 x1 : V) : sem_rule_Table_1 n [x0, x1] =
 (V.cellsO x0).bind fun v1 =>
 (ldk (some 6) (List.drop 0 v1)).bind fun v2 =>
 (ldp (some 6) x1).bind fun v3 =>
 ((sem_rule_Key n) [v2, v3]).bind fun v4 =>
 some v4 := by kernel_rfl
noncomputable def t_rule_Table_1 (a0 : T_Rule) (a1 : T_Rule) : Option Bool :=
 (t_rule_Key a0 a1).bind fun r5 =>
 some r5
theorem ty_rule_Table_1 {n : Nat} (hn : bigN ≤ n) (a0 : T_Rule) (a1 : T_Rule) : Rv (fun x : Bool => (vb x)) (sem_rule_Table_1 n [(T_Rule.e a0), (V.ptr (T_Rule.c a1))]) (t_rule_Table_1 a0 a1) := by
  rw [eq_rule_Table_1]
  unfold t_rule_Table_1
  refine tb (x := (T_Rule.c a0)) rfl ?_
  refine tb (x := (T_Rule.e a0)) (rfl) ?_
  refine tb (x := (T_Rule.e a1)) (rfl) ?_
  refine tbo (ty_rule_Key hn a0 a1) fun r5 => ?_
  exact rf_ret rfl

/-! railpoint/rule.Table -/
def an_rule_Table : Ann := .seq (.reg 0 [] [] []) (.seq (.seq (.reg 0 [] [] []) (.cond none (.seq (.reg 0 [] [] []) (.no)) (.no))) (.seq (.seq (.reg 0 [] [] []) (.blk (some []) (.loop [.s 12] (.seq (.reg 0 [] [] []) (.seq (.cond none (.no) (.no)) (.seq (.blk none (.seq (.reg 0 [] [] []) (.seq (.seq (.reg 0 [4] [] []) (.seq (.reg 0 [] [] []) (.cond none (.seq (.reg 0 [] [] []) (.no)) (.no)))) (.seq (.reg 0 [] [] []) (.cond none (.seq (.reg 0 [] [] []) (.no)) (.no)))))) (.reg 0 [] [] []))))))) (.seq (.reg 0 [] [] []) (.no))))
noncomputable def sem_rule_Table (n : Nat) (xs : List V) : Option V := if xs.length ≤ 29 then denF Tryd.prog (envOf [(127, (sem_rule_Check n)), (128, (sem_slices_ContainsFunc_api_Table_api_Rule (envOf [(129, (sem_rule_Table_1 n))]) n)), (129, (sem_rule_Table_1 n))]) n Tryd.f70 an_rule_Table xs else none
theorem ok_rule_Table (n : Nat) : SemOk Tryd.prog DW 70 (sem_rule_Table n) := fun xs y h => by
  unfold sem_rule_Table at h
  split at h
  · rename_i hl
    exact denF_ok stb Tryd.func70 (by kernel_rfl) (envOf_ok (semsOk_cons (ok_rule_Check n) (semsOk_cons (ok_slices_ContainsFunc_api_Table_api_Rule (envOf_ok (semsOk_cons (ok_rule_Table_1 n) semsOk_nil)) n) (semsOk_cons (ok_rule_Table_1 n) semsOk_nil)))) (by rw [Tryd.ntmps70]; exact hl) h
  · cases h
theorem eq_rule_Table (n : Nat) (x0 : V) : sem_rule_Table n [x0] =
 (lenS [x0]).bind fun v1 =>
 (bin2 Tryd.prog BinOp.gtr 3 (ot 7) (oc 12) v1 (vi 12)).bind fun v2 =>
 condV v2 (
 (scal1 Tryd.prog (Instr.makeInterface 143) (vi 4)).bind fun v3 =>
 some v3) (
 (lenS [x0]).bind fun v4 =>
 JoinPt (fun vs5 =>
 some vn) fun J6 =>
 (fixN (fun rec7 vs8 =>
 (bin2 Tryd.prog BinOp.lss 3 (ot 12) (ot 11) (List.getD vs8 0 V.any) v4).bind fun v9 =>
 condV v9 (
 (idxS 6 x0 (List.getD vs8 0 V.any)).bind fun v10 =>
 (ldp (some 6) v10).bind fun v11 =>
 (spliceV [(vi 0), (vi 0), (vi 0), (vi 0), (vi 0), (vi 0)] 0 6 v11).bind fun v12 =>
 (ldp (some 6) (V.ptr (aggL v12))).bind fun v13 =>
 ((sem_rule_Check n) [v13]).bind fun v14 =>
 (bin2 Tryd.prog BinOp.neq 35 (ot 19) (Operand.const Go.Value.nilIface) v14 vn).bind fun v15 =>
 condV v15 (
 some v14) (
 (slc (some 6) x0 none (some (List.getD vs8 0 V.any))).bind fun v16 =>
 ((sem_slices_ContainsFunc_api_Table_api_Rule (envOf [(129, (sem_rule_Table_1 n))]) n) [v16, (V.fn 129 [(V.ptr (aggL v12))])]).bind fun v17 =>
 condV v17 (
 (scal1 Tryd.prog (Instr.makeInterface 143) (vi 7)).bind fun v18 =>
 some v18) (
 (bin2 Tryd.prog BinOp.add 3 (ot 12) (oc 1) (List.getD vs8 0 V.any) (vi 1)).bind fun v19 =>
 rec7 [v19]))) (
 J6 [])) n) [(vi 0)]) := by kernel_rfl
noncomputable def t_rule_Table (a0 : (List T_Rule)) : Option Int :=
 if (decide (12 < (List.length a0 : Int))) = true then (
 some 4) else (
 join (fun (s8 : Unit) =>
 some 0) fun j9 =>
 loopI a0 (fun (i17 : Int) x18 (s13 : Unit) k14 =>
 (t_rule_Check x18).bind fun r28 =>
 if (!decide (r28 = 0)) = true then (
 some r28) else (
 (slc_hi a0 i17).bind fun r32 =>
 (t_slices_ContainsFunc_api_Table_api_Rule r32 (fun (a33 : T_Rule) => t_rule_Table_1 a33 x18)).bind fun r35 =>
 if r35 = true then (
 some 7) else (
 k14 ()))) (fun (s13 : Unit) =>
 j9 ()) ())
theorem ty_rule_Table {n : Nat} (hn : bigN ≤ n) (a0 : (List T_Rule)) : Rv (fun x : Int => (eV x)) (sem_rule_Table n [(V.sl (List.map T_Rule.c a0))]) (t_rule_Table a0) := by
  rw [eq_rule_Table]
  unfold t_rule_Table
  refine tb (x := (vi (List.length a0 : Int))) (p_len _) ?_
  refine tb (x := (vb (decide (12 < (List.length a0 : Int))))) (d_gtr) ?_
  refine tcond (fun h3 => ?_) (fun h3 => ?_)
  · refine tb (x := (eV 4)) (p_mkE (by decide)) ?_
    exact rf_ret rfl
  · refine tb (x := (vi (List.length a0 : Int))) (p_len _) ?_
    refine tjoin (mk := fun s8 : Unit => []) (fun s8 => ?_) fun J7 j9 h10 => ?_
    · exact rf_ret rfl
    · refine rf_loopI (mk := fun (i17 : Int) (s13 : Unit) => [(vi (i17 : Int))]) hn a0 () (fun i17 x18 h19 h20 h21 s13 rec11 k14 h15 => ?_) (fun s13 rec40 h39 => ?_)
      · refine tb (x := (vb (decide ((i17 : Int) < (List.length a0 : Int))))) (d_lss) ?_
        refine tcond_t h21 ?_
        refine tb (x := (V.ptr (T_Rule.c x18))) (p_idx_at (c := T_Rule.c) (fun _ => rfl) h19) ?_
        refine tb (x := (T_Rule.e x18)) (rfl) ?_
        refine tb (x := V.agg (T_Rule.c x18)) (by kernel_rfl) ?_
        refine tb (x := (T_Rule.e x18)) (rfl) ?_
        refine tbo (ty_rule_Check hn x18) fun r28 => ?_
        refine tb (x := (vb (!decide (r28 = 0)))) (p_err_neq _) ?_
        refine tcond (fun h30 => ?_) (fun h30 => ?_)
        · exact rf_ret rfl
        · refine tbo (p_slc_hi (c := T_Rule.c) (fun _ => rfl) a0 (i17 : Int)) fun r32 => ?_
          refine tbo (ty_slices_ContainsFunc_api_Table_api_Rule (E := (envOf [(129, (sem_rule_Table_1 n))])) (x1 := (V.fn 129 [(V.ptr (T_Rule.c x18))])) (g1 := (fun (a33 : T_Rule) => t_rule_Table_1 a33 x18)) hn r32 (fun a33 => ty_rule_Table_1 hn a33 x18)) fun r35 => ?_
          refine tcond (fun h36 => ?_) (fun h36 => ?_)
          · refine tb (x := (eV 7)) (p_mkE (by decide)) ?_
            exact rf_ret rfl
          · refine tb (x := (vi ((i17 : Int) + 1))) (p_incN h20) ?_
            exact h15 ()
      · refine tb (x := (vb (decide ((List.length a0 : Int) < (List.length a0 : Int))))) (d_lss) ?_
        refine tcond_f h39 ?_
        exact h10 ()

/-! railpoint/net.Check -/
def an_net_Check : Ann := .seq (.reg 0 [] [] []) (.seq (.seq (.reg 0 [] [] []) (.seq (.reg 0 [] [] []) (.cond none (.seq (.reg 0 [] [] []) (.no)) (.no)))) (.seq (.seq (.reg 0 [] [] []) (.cond none (.seq (.reg 0 [] [] []) (.no)) (.no))) (.seq (.seq (.reg 0 [] [] []) (.blk (some []) (.loop [.s 24] (.seq (.reg 0 [] [] []) (.seq (.cond none (.no) (.no)) (.seq (.blk none (.seq (.reg 0 [] [] []) (.seq (.reg 0 [] [] []) (.seq (.reg 0 [] [] []) (.cond none (.seq (.reg 0 [] [] []) (.no)) (.no)))))) (.reg 0 [] [] []))))))) (.seq (.reg 0 [] [] []) (.no)))))
noncomputable def sem_net_Check (n : Nat) (xs : List V) : Option V := if xs.length ≤ 34 then denF Tryd.prog (envOf [(78, (sem_topo_Check n)), (70, (sem_rule_Table n))]) n Tryd.f27 an_net_Check xs else none
theorem ok_net_Check (n : Nat) : SemOk Tryd.prog DW 27 (sem_net_Check n) := fun xs y h => by
  unfold sem_net_Check at h
  split at h
  · rename_i hl
    exact denF_ok stb Tryd.func27 (by kernel_rfl) (envOf_ok (semsOk_cons (ok_topo_Check n) (semsOk_cons (ok_rule_Table n) semsOk_nil))) (by rw [Tryd.ntmps27]; exact hl) h
  · cases h
theorem eq_net_Check (n : Nat) (x0 : V) : sem_net_Check n [x0] =
 (V.cellsO x0).bind fun v1 =>
 (ldk (some 3) (List.drop 0 v1)).bind fun v2 =>
 ((sem_topo_Check n) [v2]).bind fun v3 =>
 (bin2 Tryd.prog BinOp.neq 35 (ot 10) (Operand.const Go.Value.nilIface) v3 vn).bind fun v4 =>
 condV v4 (
 some v3) (
 (ldk none (List.drop 3 v1)).bind fun v5 =>
 (lenS [v5]).bind fun v6 =>
 (ldk none (List.drop 0 v1)).bind fun v7 =>
 (bin2 Tryd.prog BinOp.neq 3 (ot 15) (ot 18) v6 v7).bind fun v8 =>
 condV v8 (
 (scal1 Tryd.prog (Instr.makeInterface 143) (vi 3)).bind fun v9 =>
 some v9) (
 (ldk none (List.drop 3 v1)).bind fun v10 =>
 (lenS [v10]).bind fun v11 =>
 JoinPt (fun vs12 =>
 some vn) fun J13 =>
 (fixN (fun rec14 vs15 =>
 (bin2 Tryd.prog BinOp.lss 3 (ot 24) (ot 23) (List.getD vs15 0 V.any) v11).bind fun v16 =>
 condV v16 (
 (idxS 1 v10 (List.getD vs15 0 V.any)).bind fun v17 =>
 (ldp none v17).bind fun v18 =>
 ((sem_rule_Table n) [v18]).bind fun v19 =>
 (bin2 Tryd.prog BinOp.neq 35 (ot 30) (Operand.const Go.Value.nilIface) v19 vn).bind fun v20 =>
 condV v20 (
 some v19) (
 (bin2 Tryd.prog BinOp.add 3 (ot 24) (oc 1) (List.getD vs15 0 V.any) (vi 1)).bind fun v21 =>
 rec14 [v21])) (
 J13 [])) n) [(vi 0)])) := by kernel_rfl
noncomputable def t_net_Check (a0 : T_Net) : Option Int :=
 (t_topo_Check a0.Topo).bind fun r4 =>
 if (!decide (r4 = 0)) = true then (
 some r4) else (
 if (decide ((List.length a0.Tables : Int) ≠ a0.Topo.Switches)) = true then (
 some 3) else (
 join (fun (s17 : Unit) =>
 some 0) fun j18 =>
 loopI a0.Tables (fun (i26 : Int) x27 (s22 : Unit) k23 =>
 (t_rule_Table x27).bind fun r35 =>
 if (!decide (r35 = 0)) = true then (
 some r35) else (
 k23 ())) (fun (s22 : Unit) =>
 j18 ()) ()))
theorem ty_net_Check {n : Nat} (hn : bigN ≤ n) (a0 : T_Net) : Rv (fun x : Int => (eV x)) (sem_net_Check n [(T_Net.e a0)]) (t_net_Check a0) := by
  rw [eq_net_Check]
  unfold t_net_Check
  refine tb (x := (T_Net.c a0)) rfl ?_
  refine tb (x := (T_Topo.e a0.Topo)) (rfl) ?_
  refine tbo (ty_topo_Check hn a0.Topo) fun r4 => ?_
  refine tb (x := (vb (!decide (r4 = 0)))) (p_err_neq _) ?_
  refine tcond (fun h6 => ?_) (fun h6 => ?_)
  · exact rf_ret rfl
  · refine tb (x := (V.sl (List.map (cS T_Rule.c) a0.Tables))) (rfl) ?_
    refine tb (x := (vi (List.length a0.Tables : Int))) (p_len _) ?_
    refine tb (x := (vi a0.Topo.Switches)) (rfl) ?_
    refine tb (x := (vb (decide ((List.length a0.Tables : Int) ≠ a0.Topo.Switches)))) (d_neq) ?_
    refine tcond (fun h11 => ?_) (fun h11 => ?_)
    · refine tb (x := (eV 3)) (p_mkE (by decide)) ?_
      exact rf_ret rfl
    · refine tb (x := (V.sl (List.map (cS T_Rule.c) a0.Tables))) (rfl) ?_
      refine tb (x := (vi (List.length a0.Tables : Int))) (p_len _) ?_
      refine tjoin (mk := fun s17 : Unit => []) (fun s17 => ?_) fun J16 j18 h19 => ?_
      · exact rf_ret rfl
      · refine rf_loopI (mk := fun (i26 : Int) (s22 : Unit) => [(vi (i26 : Int))]) hn a0.Tables () (fun i26 x27 h28 h29 h30 s22 rec20 k23 h24 => ?_) (fun s22 rec40 h39 => ?_)
        · refine tb (x := (vb (decide ((i26 : Int) < (List.length a0.Tables : Int))))) (d_lss) ?_
          refine tcond_t h30 ?_
          refine tb (x := (V.ptr [(V.sl (List.map T_Rule.c x27))])) (p_idx_at (c := (cS T_Rule.c)) (fun _ => rfl) h28) ?_
          refine tb (x := (V.sl (List.map T_Rule.c x27))) (rfl) ?_
          refine tbo (ty_rule_Table hn x27) fun r35 => ?_
          refine tb (x := (vb (!decide (r35 = 0)))) (p_err_neq _) ?_
          refine tcond (fun h37 => ?_) (fun h37 => ?_)
          · exact rf_ret rfl
          · refine tb (x := (vi ((i26 : Int) + 1))) (p_incN h29) ?_
            exact h24 ()
        · refine tb (x := (vb (decide ((List.length a0.Tables : Int) < (List.length a0.Tables : Int))))) (d_lss) ?_
          refine tcond_f h39 ?_
          exact h19 ()

/-! railpoint/wish.kind -/
def an_wish_kind : Ann := .seq (.reg 0 [] [] []) (.seq (.reg 0 [] [] []) (.no))
noncomputable def sem_wish_kind (n : Nat) (xs : List V) : Option V := if xs.length ≤ 9 then denF Tryd.prog (envOf []) n Tryd.f162 an_wish_kind xs else none
theorem ok_wish_kind (n : Nat) : SemOk Tryd.prog DW 162 (sem_wish_kind n) := fun xs y h => by
  unfold sem_wish_kind at h
  split at h
  · rename_i hl
    exact denF_ok stb Tryd.func162 (by kernel_rfl) (envOf_ok semsOk_nil) (by rw [Tryd.ntmps162]; exact hl) h
  · cases h
theorem eq_wish_kind (n : Nat) (x0 : V) : sem_wish_kind n [x0] =
 (bin2 Tryd.prog BinOp.geq 3 (ot 3) (oc 1) x0 (vi 1)).bind fun v1 =>
 (guardV v1 true (some x0)).bind fun v2 =>
 (guardV v1 true ((bin2 Tryd.prog BinOp.leq 3 (ot 6) (oc 4) v2 (vi 4)).bind fun v3 =>
 some v3)).bind fun v4 =>
 (pickV v1 v4 (vb false)).bind fun v5 =>
 some v5 := by kernel_rfl
noncomputable def t_wish_kind (a0 : Int) : Option Bool :=
 some ((decide (1 ≤ a0)) && (decide (a0 ≤ 4)))
theorem ty_wish_kind {n : Nat} (hn : bigN ≤ n) (a0 : Int) : Rv (fun x : Bool => (vb x)) (sem_wish_kind n [(vi a0)]) (t_wish_kind a0) := by
  rw [eq_wish_kind]
  unfold t_wish_kind
  refine tb (x := (vb (decide (1 ≤ a0)))) (d_geq) ?_
  refine tg (x := (vi a0)) (fun h2 => rfl) ?_
  refine tg (x := (vb (decide (a0 ≤ 4)))) (fun h4 => by simp only [gv_t h4]; exact bind_some_eq (d_leq)) ?_
  refine tb (x := (vb ((decide (1 ≤ a0)) && (decide (a0 ≤ 4))))) (pick_and (fun h9 => gv_t h9)) ?_
  exact rf_ret rfl

/-! slices.IndexFunc   railpoint/api.Host railpoint/api.Host  -/
def an_slices_IndexFunc_api_Host_api_Host : Ann := .seq (.reg 0 [] [] []) (.seq (.seq (.reg 0 [] [] []) (.blk (some []) (.loop [.s 8] (.seq (.reg 0 [] [] []) (.seq (.cond none (.no) (.no)) (.seq (.blk none (.seq (.reg 0 [] [] []) (.seq (.reg 0 [] [] []) (.cond none (.seq (.reg 0 [] [] []) (.no)) (.no))))) (.reg 0 [] [] []))))))) (.seq (.reg 0 [] [] []) (.no)))
noncomputable def sem_slices_IndexFunc_api_Host_api_Host (E : FuncId → List V → Option V) (n : Nat) (xs : List V) : Option V := if xs.length ≤ 19 then denF Tryd.prog (envJ [] E) n Tryd.f105 an_slices_IndexFunc_api_Host_api_Host xs else none
theorem ok_slices_IndexFunc_api_Host_api_Host {E : FuncId → List V → Option V} (hE : EnvOk Tryd.prog DW E) (n : Nat) : SemOk Tryd.prog DW 105 (sem_slices_IndexFunc_api_Host_api_Host E n) := fun xs y h => by
  unfold sem_slices_IndexFunc_api_Host_api_Host at h
  split at h
  · rename_i hl
    exact denF_ok stb Tryd.func105 (by kernel_rfl) (envJ_ok semsOk_nil hE) (by rw [Tryd.ntmps105]; exact hl) h
  · cases h
theorem eq_slices_IndexFunc_api_Host_api_Host (E : FuncId → List V → Option V) (n : Nat) (x0 x1 : V) : sem_slices_IndexFunc_api_Host_api_Host E n [x0, x1] =
 (lenS [x0]).bind fun v1 =>
 JoinPt (fun vs2 =>
 some (vi (-1 : Int))) fun J3 =>
 (fixN (fun rec4 vs5 =>
 (bin2 Tryd.prog BinOp.lss 3 (ot 8) (ot 7) (List.getD vs5 0 V.any) v1).bind fun v6 =>
 condV v6 (
 (idxS 3 x0 (List.getD vs5 0 V.any)).bind fun v7 =>
 (ldp (some 3) v7).bind fun v8 =>
 (callV (envJ [] E) x1 [v8]).bind fun v9 =>
 condV v9 (
 some (List.getD vs5 0 V.any)) (
 (bin2 Tryd.prog BinOp.add 3 (ot 8) (oc 1) (List.getD vs5 0 V.any) (vi 1)).bind fun v10 =>
 rec4 [v10])) (
 J3 [])) n) [(vi 0)] := by kernel_rfl
noncomputable def t_slices_IndexFunc_api_Host_api_Host (a0 : (List T_Host)) (g1 : T_Host → Option Bool) : Option Int :=
 join (fun (s4 : Unit) =>
 some (-1 : Int)) fun j5 =>
 loopI a0 (fun (i13 : Int) x14 (s9 : Unit) k10 =>
 (g1 x14).bind fun r22 =>
 if r22 = true then (
 some i13) else (
 k10 ())) (fun (s9 : Unit) =>
 j5 ()) ()
theorem ty_slices_IndexFunc_api_Host_api_Host {E : FuncId → List V → Option V} {n : Nat} (hn : bigN ≤ n) (a0 : (List T_Host)) {x1 : V} {g1 : T_Host → Option Bool} (hg_g1 : ∀ a0, Rv (fun x : Bool => (vb x)) (callV E x1 [(T_Host.e a0)]) (g1 a0)) : Rv (fun x : Int => (vi x)) (sem_slices_IndexFunc_api_Host_api_Host E n [(V.sl (List.map T_Host.c a0)), x1]) (t_slices_IndexFunc_api_Host_api_Host a0 g1) := by
  rw [eq_slices_IndexFunc_api_Host_api_Host]
  unfold t_slices_IndexFunc_api_Host_api_Host
  refine tb (x := (vi (List.length a0 : Int))) (p_len _) ?_
  refine tjoin (mk := fun s4 : Unit => []) (fun s4 => ?_) fun J3 j5 h6 => ?_
  · exact rf_ret rfl
  · refine rf_loopI (mk := fun (i13 : Int) (s9 : Unit) => [(vi (i13 : Int))]) hn a0 () (fun i13 x14 h15 h16 h17 s9 rec7 k10 h11 => ?_) (fun s9 rec26 h25 => ?_)
    · refine tb (x := (vb (decide ((i13 : Int) < (List.length a0 : Int))))) (d_lss) ?_
      refine tcond_t h17 ?_
      refine tb (x := (V.ptr (T_Host.c x14))) (p_idx_at (c := T_Host.c) (fun _ => rfl) h15) ?_
      refine tb (x := (T_Host.e x14)) (rfl) ?_
      refine tbo ((callV_J0 ▸ hg_g1 x14)) fun r22 => ?_
      refine tcond (fun h23 => ?_) (fun h23 => ?_)
      · exact rf_ret rfl
      · refine tb (x := (vi ((i13 : Int) + 1))) (p_incN h16) ?_
        exact h11 ()
    · refine tb (x := (vb (decide ((List.length a0 : Int) < (List.length a0 : Int))))) (d_lss) ?_
      refine tcond_f h25 ?_
      exact h6 ()

/-! railpoint/topo.Where$1 -/
def an_topo_Where_1 : Ann := .seq (.reg 0 [] [] []) (.seq (.reg 0 [] [] []) (.no))
noncomputable def sem_topo_Where_1 (n : Nat) (xs : List V) : Option V := if xs.length ≤ 8 then denF Tryd.prog (envOf []) n Tryd.f112 an_topo_Where_1 xs else none
theorem ok_topo_Where_1 (n : Nat) : SemOk Tryd.prog DW 112 (sem_topo_Where_1 n) := fun xs y h => by
  unfold sem_topo_Where_1 at h
  split at h
  · rename_i hl
    exact denF_ok stb Tryd.func112 (by kernel_rfl) (envOf_ok semsOk_nil) (by rw [Tryd.ntmps112]; exact hl) h
  · cases h
theorem eq_topo_Where_1 (n : Nat) (x0 x1 : V) : sem_topo_Where_1 n [x0, x1] =
 (V.cellsO x0).bind fun v1 =>
 (ldk none (List.drop 0 v1)).bind fun v2 =>
 (ldp none x1).bind fun v3 =>
 (bin2 Tryd.prog BinOp.eql 9 (ot 5) (ot 6) v2 v3).bind fun v4 =>
 some v4 := by kernel_rfl
noncomputable def t_topo_Where_1 (a0 : T_Host) (a1 : ByteArray) : Option Bool :=
 some (decide (a0.Name = a1))
theorem ty_topo_Where_1 {n : Nat} (hn : bigN ≤ n) (a0 : T_Host) (a1 : ByteArray) : Rv (fun x : Bool => (vb x)) (sem_topo_Where_1 n [(T_Host.e a0), (V.ptr [(vt a1)])]) (t_topo_Where_1 a0 a1) := by
  rw [eq_topo_Where_1]
  unfold t_topo_Where_1
  refine tb (x := (T_Host.c a0)) rfl ?_
  refine tb (x := (vt a0.Name)) (rfl) ?_
  refine tb (x := (vt a1)) (rfl) ?_
  refine tb (x := (vb (decide (a0.Name = a1)))) (p_eql_str) ?_
  exact rf_ret rfl

/-! railpoint/topo.Where -/
def an_topo_Where : Ann := .seq (.reg 0 [] [] []) (.seq (.seq (.reg 0 [3] [] []) (.seq (.reg 0 [] [] []) (.cond none (.seq (.reg 0 [] [] []) (.no)) (.no)))) (.seq (.reg 0 [] [] []) (.seq (.seq (.reg 0 [] [] []) (.cond none (.seq (.reg 0 [] [] []) (.no)) (.no))) (.seq (.reg 0 [] [] []) (.no)))))
noncomputable def sem_topo_Where (n : Nat) (xs : List V) : Option V := if xs.length ≤ 28 then denF Tryd.prog (envOf [(78, (sem_topo_Check n)), (105, (sem_slices_IndexFunc_api_Host_api_Host (envOf [(112, (sem_topo_Where_1 n))]) n)), (112, (sem_topo_Where_1 n))]) n Tryd.f61 an_topo_Where xs else none
theorem ok_topo_Where (n : Nat) : SemOk Tryd.prog DW 61 (sem_topo_Where n) := fun xs y h => by
  unfold sem_topo_Where at h
  split at h
  · rename_i hl
    exact denF_ok stb Tryd.func61 (by kernel_rfl) (envOf_ok (semsOk_cons (ok_topo_Check n) (semsOk_cons (ok_slices_IndexFunc_api_Host_api_Host (envOf_ok (semsOk_cons (ok_topo_Where_1 n) semsOk_nil)) n) (semsOk_cons (ok_topo_Where_1 n) semsOk_nil)))) (by rw [Tryd.ntmps61]; exact hl) h
  · cases h
theorem eq_topo_Where (n : Nat) (x0 x1 : V) : sem_topo_Where n [x0, x1] =
 (V.cellsO x0).bind fun v1 =>
 (V.cellsO x1).bind fun v2 =>
 (ldk (some 3) (List.drop 0 v1)).bind fun v3 =>
 ((sem_topo_Check n) [v3]).bind fun v4 =>
 (bin2 Tryd.prog BinOp.neq 35 (ot 10) (Operand.const Go.Value.nilIface) v4 vn).bind fun v5 =>
 condV v5 (
 ((fillL [(vi 0), (vi 0)] []).map V.agg).bind fun v6 =>
 (spliceV [(vi 0), (vi 0)] 0 2 v6).bind fun v7 =>
 (ldk (some 2) (List.drop 0 (aggL v7))).bind fun v8 =>
 some (V.tup [v8, v4])) (
 (ldk none (List.drop 2 v1)).bind fun v9 =>
 ((sem_slices_IndexFunc_api_Host_api_Host (envOf [(112, (sem_topo_Where_1 n))]) n) [v9, (V.fn 112 [(V.ptr v2)])]).bind fun v10 =>
 (bin2 Tryd.prog BinOp.lss 3 (ot 18) (oc 0) v10 (vi 0)).bind fun v11 =>
 condV v11 (
 ((fillL [(vi 0), (vi 0)] []).map V.agg).bind fun v12 =>
 (scal1 Tryd.prog (Instr.makeInterface 143) (vi 5)).bind fun v13 =>
 (spliceV [(vi 0), (vi 0)] 0 2 v12).bind fun v14 =>
 (ldk (some 2) (List.drop 0 (aggL v14))).bind fun v15 =>
 some (V.tup [v15, v13])) (
 (ldk none (List.drop 2 v1)).bind fun v16 =>
 (idxS 3 v16 v10).bind fun v17 =>
 (ptrF 1 v17).bind fun v18 =>
 (ldp (some 2) v18).bind fun v19 =>
 (spliceV [(vi 0), (vi 0)] 0 2 v19).bind fun v20 =>
 (ldk (some 2) (List.drop 0 (aggL v20))).bind fun v21 =>
 some (V.tup [v21, vn]))) := by kernel_rfl
noncomputable def t_topo_Where (a0 : T_Topo) (a1 : ByteArray) : Option (T_Spot × Int) :=
 (t_topo_Check a0).bind fun r5 =>
 if (!decide (r5 = 0)) = true then (
 some ((T_Spot.mk 0 0), r5)) else (
 (t_slices_IndexFunc_api_Host_api_Host a0.Hosts (fun (a12 : T_Host) => t_topo_Where_1 a12 a1)).bind fun r14 =>
 if (decide (r14 < 0)) = true then (
 some ((T_Spot.mk 0 0), 5)) else (
 (idx a0.Hosts r14).bind fun r23 =>
 some (r23.At, 0)))
theorem ty_topo_Where {n : Nat} (hn : bigN ≤ n) (a0 : T_Topo) (a1 : ByteArray) : Rv (fun x : (T_Spot × Int) => V.tup [(T_Spot.e x.1), (eV x.2)]) (sem_topo_Where n [(T_Topo.e a0), (vt a1)]) (t_topo_Where a0 a1) := by
  rw [eq_topo_Where]
  unfold t_topo_Where
  refine tb (x := (T_Topo.c a0)) rfl ?_
  refine tb (x := [(vt a1)]) rfl ?_
  refine tb (x := (T_Topo.e a0)) (rfl) ?_
  refine tbo (ty_topo_Check hn a0) fun r5 => ?_
  refine tb (x := (vb (!decide (r5 = 0)))) (p_err_neq _) ?_
  refine tcond (fun h7 => ?_) (fun h7 => ?_)
  · refine tb (x := (T_Spot.e (T_Spot.mk 0 0))) (by kernel_rfl) ?_
    refine tb (x := V.agg (T_Spot.c (T_Spot.mk 0 0))) (by kernel_rfl) ?_
    refine tb (x := (T_Spot.e (T_Spot.mk 0 0))) rfl ?_
    exact rf_ret rfl
  · refine tb (x := (V.sl (List.map T_Host.c a0.Hosts))) (rfl) ?_
    refine tbo (ty_slices_IndexFunc_api_Host_api_Host (E := (envOf [(112, (sem_topo_Where_1 n))])) (x1 := (V.fn 112 [(V.ptr [(vt a1)])])) (g1 := (fun (a12 : T_Host) => t_topo_Where_1 a12 a1)) hn a0.Hosts (fun a12 => ty_topo_Where_1 hn a12 a1)) fun r14 => ?_
    refine tb (x := (vb (decide (r14 < 0)))) (d_lss) ?_
    refine tcond (fun h16 => ?_) (fun h16 => ?_)
    · refine tb (x := (T_Spot.e (T_Spot.mk 0 0))) (by kernel_rfl) ?_
      refine tb (x := (eV 5)) (p_mkE (by decide)) ?_
      refine tb (x := V.agg (T_Spot.c (T_Spot.mk 0 0))) (by kernel_rfl) ?_
      refine tb (x := (T_Spot.e (T_Spot.mk 0 0))) rfl ?_
      exact rf_ret rfl
    · refine tb (x := (V.sl (List.map T_Host.c a0.Hosts))) (rfl) ?_
      refine tbo (p_idx (c := T_Host.c) (fun _ => rfl) a0.Hosts r14) fun r23 => ?_
      refine tb (x := (V.ptr (List.drop 1 (T_Host.c r23)))) (rfl) ?_
      refine tb (x := (T_Spot.e r23.At)) (rfl) ?_
      refine tb (x := V.agg (T_Spot.c r23.At)) (by kernel_rfl) ?_
      refine tb (x := (T_Spot.e r23.At)) rfl ?_
      exact rf_ret rfl

/-! railpoint/wish.one -/
def an_wish_one : Ann := .seq (.reg 0 [] [] []) (.seq (.blk none (.seq (.seq (.reg 0 [] [] []) (.cond (some [.kb 2, .kb 3, .s 9]) (.no) (.seq (.reg 0 [] [] []) (.cond (some [.kb 2, .kb 3, .s 9]) (.no) (.reg 0 [] [] []))))) (.cond none (.seq (.reg 0 [] [] []) (.no)) (.seq (.reg 0 [] [] []) (.cond none (.seq (.reg 0 [] [] []) (.no)) (.seq (.reg 0 [] [] []) (.cond none (.seq (.reg 0 [] [] []) (.no)) (.no)))))))) (.seq (.seq (.reg 0 [] [] []) (.blk (some []) (.loop [.kb 2, .s 63] (.seq (.reg 0 [] [] []) (.seq (.cond none (.no) (.no)) (.seq (.blk none (.seq (.reg 0 [] [] []) (.seq (.reg 0 [] [] []) (.seq (.reg 0 [] [] []) (.cond none (.seq (.reg 0 [] [] []) (.no)) (.no)))))) (.reg 0 [] [] []))))))) (.seq (.reg 0 [] [] []) (.no))))
noncomputable def sem_wish_one (n : Nat) (xs : List V) : Option V := if xs.length ≤ 77 then denF Tryd.prog (envOf [(162, (sem_wish_kind n)), (61, (sem_topo_Where n))]) n Tryd.f155 an_wish_one xs else none
theorem ok_wish_one (n : Nat) : SemOk Tryd.prog DW 155 (sem_wish_one n) := fun xs y h => by
  unfold sem_wish_one at h
  split at h
  · rename_i hl
    exact denF_ok stb Tryd.func155 (by kernel_rfl) (envOf_ok (semsOk_cons (ok_wish_kind n) (semsOk_cons (ok_topo_Where n) semsOk_nil))) (by rw [Tryd.ntmps155]; exact hl) h
  · cases h
theorem eq_wish_one (n : Nat) (x0 x1 : V) : sem_wish_one n [x0, x1] =
 (V.cellsO x0).bind fun v1 =>
 (V.cellsO x1).bind fun v2 =>
 (ldk none (List.drop 0 v2)).bind fun v3 =>
 ((sem_wish_kind n) [v3]).bind fun v4 =>
 (scal1 Tryd.prog (Op.unary Go.UnOp.not) v4).bind fun v5 =>
 JoinPt (fun vs6 =>
 condV (List.getD vs6 0 V.any) (
 (scal1 Tryd.prog (Instr.makeInterface 143) (vi 1)).bind fun v8 =>
 some v8) (
 (ldk none (List.drop 0 v2)).bind fun v9 =>
 (bin2 Tryd.prog BinOp.eql 3 (ot 40) (oc 4) v9 (vi 4)).bind fun v10 =>
 (guardV v10 true (some V.any)).bind fun v11 =>
 (guardV v10 true ((gate v10 true (ldk none (List.drop 1 v2))).bind fun v12 =>
 some v12)).bind fun v13 =>
 (guardV v10 true ((bin2 Tryd.prog BinOp.neq 9 (ot 44) (Operand.const (Go.Value.string (ByteArray.mk #[]))) v13 (V.lit (Go.Value.string (ByteArray.mk #[])))).bind fun v14 =>
 some v14)).bind fun v15 =>
 (guardV v10 true (some v15)).bind fun v16 =>
 (guardV v16 false (some V.any)).bind fun v17 =>
 (guardV v16 false ((gate v16 false (ldk none (List.drop 2 v2))).bind fun v18 =>
 some v18)).bind fun v19 =>
 (guardV v16 false ((bin2 Tryd.prog BinOp.neq 9 (ot 48) (Operand.const (Go.Value.string (ByteArray.mk #[]))) v19 (V.lit (Go.Value.string (ByteArray.mk #[])))).bind fun v20 =>
 some v20)).bind fun v21 =>
 (guardV v10 true ((pickV v16 (vb true) v21).bind fun v22 =>
 some v22)).bind fun v23 =>
 (pickV v10 v23 (vb false)).bind fun v24 =>
 condV v24 (
 (scal1 Tryd.prog (Instr.makeInterface 143) (vi 3)).bind fun v25 =>
 some v25) (
 (ldk none (List.drop 0 v2)).bind fun v26 =>
 (bin2 Tryd.prog BinOp.eql 3 (ot 55) (oc 4) v26 (vi 4)).bind fun v27 =>
 condV v27 (
 some vn) (
 (ldk none (List.drop 1 v2)).bind fun v28 =>
 (ldk none (List.drop 2 v2)).bind fun v29 =>
 (slcB 1 2 [(V.lit (Go.Value.string (ByteArray.mk #[])))] [(0, v28), (1, v29)]).bind fun v30 =>
 (lenS [v30]).bind fun v31 =>
 JoinPt (fun vs32 =>
 some vn) fun J33 =>
 (keepO (some v1) (some v1) (some [(vi 0)])).bind (fixN (fun rec34 vs35 =>
 (bin2 Tryd.prog BinOp.lss 3 (ot 63) (ot 62) (List.getD vs35 0 V.any) v31).bind fun v36 =>
 condV v36 (
 (idxS 1 v30 (List.getD vs35 0 V.any)).bind fun v37 =>
 (ldp none v37).bind fun v38 =>
 (ldk (some 3) (List.drop 0 v1)).bind fun v39 =>
 ((sem_topo_Where n) [v39, v38]).bind fun v40 =>
 (extractV v40 0).bind fun v41 =>
 (extractV v40 1).bind fun v42 =>
 (spliceV [(vi 0), (vi 0)] 0 2 v41).bind fun v43 =>
 (bin2 Tryd.prog BinOp.neq 35 (ot 73) (Operand.const Go.Value.nilIface) v42 vn).bind fun v44 =>
 condV v44 (
 some v42) (
 (bin2 Tryd.prog BinOp.add 3 (ot 63) (oc 1) (List.getD vs35 0 V.any) (vi 1)).bind fun v45 =>
 (keepO (some v1) (some v1) (some [v45])).bind rec34)) (
 J33 [])) n))))) fun J7 =>
 condV v5 (
 (keepO (some v1) (some v1) (keepO (some v2) (some v2) (some [v5]))).bind J7) (
 (ldk none (List.drop 0 v2)).bind fun v46 =>
 (bin2 Tryd.prog BinOp.eql 3 (ot 15) (oc 3) v46 (vi 3)).bind fun v47 =>
 (guardV v47 true (some V.any)).bind fun v48 =>
 (guardV v47 true ((gate v47 true (ldk none (List.drop 3 v2))).bind fun v49 =>
 some v49)).bind fun v50 =>
 (guardV v47 true ((bin2 Tryd.prog BinOp.lss 3 (ot 19) (oc 1) v50 (vi 1)).bind fun v51 =>
 some v51)).bind fun v52 =>
 (guardV v47 true (some v52)).bind fun v53 =>
 (guardV v53 false (some V.any)).bind fun v54 =>
 (guardV v53 false ((gate v53 false (ldk none (List.drop 3 v2))).bind fun v55 =>
 some v55)).bind fun v56 =>
 (guardV v53 false (some V.any)).bind fun v57 =>
 (guardV v53 false ((gate v53 false (ldk none (List.drop 0 v1))).bind fun v58 =>
 some v58)).bind fun v59 =>
 (guardV v53 false ((bin2 Tryd.prog BinOp.gtr 3 (ot 23) (ot 25) v56 v59).bind fun v60 =>
 some v60)).bind fun v61 =>
 (guardV v47 true ((pickV v53 (vb true) v61).bind fun v62 =>
 some v62)).bind fun v63 =>
 (pickV v47 v63 (vb false)).bind fun v64 =>
 JoinPt (fun vs65 =>
 (keepO (some v1) (some v1) (keepO (some v2) (some v2) (some [(List.getD vs65 0 V.any)]))).bind J7) fun J66 =>
 condV v64 (
 (keepO (some v1) (some v1) (keepO (some v2) (some v2) (some [v64]))).bind J66) (
 (ldk none (List.drop 0 v2)).bind fun v67 =>
 (bin2 Tryd.prog BinOp.neq 3 (ot 30) (oc 3) v67 (vi 3)).bind fun v68 =>
 (guardV v68 true (some V.any)).bind fun v69 =>
 (guardV v68 true ((gate v68 true (ldk none (List.drop 3 v2))).bind fun v70 =>
 some v70)).bind fun v71 =>
 (guardV v68 true ((bin2 Tryd.prog BinOp.neq 3 (ot 34) (oc 0) v71 (vi 0)).bind fun v72 =>
 some v72)).bind fun v73 =>
 (pickV v68 v73 (vb false)).bind fun v74 =>
 (keepO (some v1) (some v1) (keepO (some v2) (some v2) (some [v74]))).bind J66)) := by kernel_rfl
noncomputable def t_wish_one (a0 : T_Topo) (a1 : T_Wish) : Option Int :=
 (t_wish_kind a1.What).bind fun r5 =>
 (if (!r5) = true then (
 some (!r5)) else (
 (if ((decide (a1.What = 3)) && ((decide (a1.Via < 1)) || (decide (a0.Switches < a1.Via)))) = true then (
 some ((decide (a1.What = 3)) && ((decide (a1.Via < 1)) || (decide (a0.Switches < a1.Via))))) else (
 some ((decide (a1.What ≠ 3)) && (decide (a1.Via ≠ 0))))).bind fun (s110 : Bool) =>
 some (s110))).bind fun (s9 : Bool) =>
 if s9 = true then (
 some 1) else (
 if ((decide (a1.What = 4)) && ((!decide (a1.From = (ByteArray.mk #[]))) || (!decide (a1.To = (ByteArray.mk #[]))))) = true then (
 some 3) else (
 if (decide (a1.What = 4)) = true then (
 some 0) else (
 join (fun (s49 : Unit) =>
 some 0) fun j50 =>
 loopI ([a1.From, a1.To] : (List ByteArray)) (fun (i58 : Int) x59 (s54 : Unit) k55 =>
 (t_topo_Where a0 x59).bind fun r68 =>
 if (!decide (r68.2 = 0)) = true then (
 some r68.2) else (
 k55 ())) (fun (s54 : Unit) =>
 j50 ()) ())))
theorem ty_wish_one {n : Nat} (hn : bigN ≤ n) (a0 : T_Topo) (a1 : T_Wish) : Rv (fun x : Int => (eV x)) (sem_wish_one n [(T_Topo.e a0), (T_Wish.e a1)]) (t_wish_one a0 a1) := by
  rw [eq_wish_one]
  unfold t_wish_one
  refine tb (x := (T_Topo.c a0)) rfl ?_
  refine tb (x := (T_Wish.c a1)) rfl ?_
  refine tb (x := (vi a1.What)) (rfl) ?_
  refine tbo (ty_wish_kind hn a1.What) fun r5 => ?_
  refine tb (x := (vb (!r5))) (d_not) ?_
  refine tjb (mk := fun s9 : Bool => [(vb s9)]) (fun J8 => ?_) fun s9 => ?_
  · refine tcond (fun h78 => ?_) (fun h78 => ?_)
    · refine tkeepO2 ?_ rfl
      refine tkeepO2 ?_ rfl
      refine tsome ?_
      exact rf_j rfl
    · refine tb (x := (vi a1.What)) (rfl) ?_
      refine tb (x := (vb (decide (a1.What = 3)))) (d_eql) ?_
      refine tg (x := V.any) (fun h81 => rfl) ?_
      refine tg (x := (vi a1.Via)) (fun h83 => bind_some_eq (gate_pos h83 (rfl))) ?_
      refine tg (x := (vb (decide (a1.Via < 1)))) (fun h86 => by simp only [gv_t h86]; exact bind_some_eq (d_lss)) ?_
      refine tg (x := (vb (decide (a1.Via < 1)))) (fun h89 => congrArg some (gv_t h89)) ?_
      refine tg2_f (x := V.any) (fun h91 => rfl) ?_
      refine tg2_f (x := (vi a1.Via)) (fun h93 => bind_some_eq (gate_pos2 (and_l h93) (not_t (and_r h93)) (rfl))) ?_
      refine tg2_f (x := V.any) (fun h96 => rfl) ?_
      refine tg2_f (x := (vi a0.Switches)) (fun h98 => bind_some_eq (gate_pos2 (and_l h98) (not_t (and_r h98)) (rfl))) ?_
      refine tg2_f (x := (vb (decide (a0.Switches < a1.Via)))) (fun h101 => by simp only [gv_t h101]; exact bind_some_eq (d_gtr)) ?_
      refine tg (x := (vb ((decide (a1.Via < 1)) || (decide (a0.Switches < a1.Via))))) (fun h104 => by simp only [gv_t h104]; exact bind_some_eq (pick_or (fun h9 => gv_t (and_i h104 (not_f h9))))) ?_
      refine tb (x := (vb ((decide (a1.What = 3)) && ((decide (a1.Via < 1)) || (decide (a0.Switches < a1.Via)))))) (pick_and (fun h9 => gv_t h9)) ?_
      refine tjb (mk := fun s110 : Bool => [(vb s110)]) (fun J109 => ?_) fun s110 => ?_
      · refine tcond (fun h113 => ?_) (fun h113 => ?_)
        · refine tkeepO2 ?_ rfl
          refine tkeepO2 ?_ rfl
          refine tsome ?_
          exact rf_j rfl
        · refine tb (x := (vi a1.What)) (rfl) ?_
          refine tb (x := (vb (decide (a1.What ≠ 3)))) (d_neq) ?_
          refine tg (x := V.any) (fun h116 => rfl) ?_
          refine tg (x := (vi a1.Via)) (fun h118 => bind_some_eq (gate_pos h118 (rfl))) ?_
          refine tg (x := (vb (decide (a1.Via ≠ 0)))) (fun h121 => by simp only [gv_t h121]; exact bind_some_eq (d_neq)) ?_
          refine tb (x := (vb ((decide (a1.What ≠ 3)) && (decide (a1.Via ≠ 0))))) (pick_and (fun h9 => gv_t h9)) ?_
          refine tkeepO2 ?_ rfl
          refine tkeepO2 ?_ rfl
          refine tsome ?_
          exact rf_j rfl
      · refine tkeepO2 ?_ rfl
        refine tkeepO2 ?_ rfl
        refine tsome ?_
        exact rf_j rfl
  · refine tcond (fun h12 => ?_) (fun h12 => ?_)
    · refine tb (x := (eV 1)) (p_mkE (by decide)) ?_
      exact rf_ret rfl
    · refine tb (x := (vi a1.What)) (rfl) ?_
      refine tb (x := (vb (decide (a1.What = 4)))) (d_eql) ?_
      refine tg (x := V.any) (fun h16 => rfl) ?_
      refine tg (x := (vt a1.From)) (fun h18 => bind_some_eq (gate_pos h18 (rfl))) ?_
      refine tg (x := (vb (!decide (a1.From = (ByteArray.mk #[]))))) (fun h21 => by simp only [gv_t h21]; exact bind_some_eq (p_neq_str)) ?_
      refine tg (x := (vb (!decide (a1.From = (ByteArray.mk #[]))))) (fun h24 => congrArg some (gv_t h24)) ?_
      refine tg2_f (x := V.any) (fun h26 => rfl) ?_
      refine tg2_f (x := (vt a1.To)) (fun h28 => bind_some_eq (gate_pos2 (and_l h28) (not_t (and_r h28)) (rfl))) ?_
      refine tg2_f (x := (vb (!decide (a1.To = (ByteArray.mk #[]))))) (fun h31 => by simp only [gv_t h31]; exact bind_some_eq (p_neq_str)) ?_
      refine tg (x := (vb ((!decide (a1.From = (ByteArray.mk #[]))) || (!decide (a1.To = (ByteArray.mk #[])))))) (fun h34 => by simp only [gv_t h34]; exact bind_some_eq (pick_or (fun h9 => gv_t (and_i h34 (not_f h9))))) ?_
      refine tb (x := (vb ((decide (a1.What = 4)) && ((!decide (a1.From = (ByteArray.mk #[]))) || (!decide (a1.To = (ByteArray.mk #[]))))))) (pick_and (fun h9 => gv_t h9)) ?_
      refine tcond (fun h38 => ?_) (fun h38 => ?_)
      · refine tb (x := (eV 3)) (p_mkE (by decide)) ?_
        exact rf_ret rfl
      · refine tb (x := (vi a1.What)) (rfl) ?_
        refine tb (x := (vb (decide (a1.What = 4)))) (d_eql) ?_
        refine tcond (fun h42 => ?_) (fun h42 => ?_)
        · exact rf_ret rfl
        · refine tb (x := (vt a1.From)) (rfl) ?_
          refine tb (x := (vt a1.To)) (rfl) ?_
          refine tb (x := (V.sl (List.map cT ([a1.From, a1.To] : (List ByteArray))))) (by kernel_rfl) ?_
          refine tb (x := (vi (List.length ([a1.From, a1.To] : (List ByteArray)) : Int))) (p_len _) ?_
          refine tjoin (mk := fun s49 : Unit => []) (fun s49 => ?_) fun J48 j50 h51 => ?_
          · exact rf_ret rfl
          · refine tkeepO2 ?_ rfl
            refine tsome ?_
            refine rf_loopI (mk := fun (i58 : Int) (s54 : Unit) => [(vi (i58 : Int))]) hn ([a1.From, a1.To] : (List ByteArray)) () (fun i58 x59 h60 h61 h62 s54 rec52 k55 h56 => ?_) (fun s54 rec76 h75 => ?_)
            · refine tb (x := (vb (decide ((i58 : Int) < (List.length ([a1.From, a1.To] : (List ByteArray)) : Int))))) (d_lss) ?_
              refine tcond_t h62 ?_
              refine tb (x := (V.ptr [(vt x59)])) (p_idx_at (c := cT) (fun _ => rfl) h60) ?_
              refine tb (x := (vt x59)) (rfl) ?_
              refine tb (x := (T_Topo.e a0)) (rfl) ?_
              refine tbo (ty_topo_Where hn a0 x59) fun r68 => ?_
              refine tb (x := (T_Spot.e r68.1)) (rfl) ?_
              refine tb (x := (eV r68.2)) (rfl) ?_
              refine tb (x := V.agg (T_Spot.c r68.1)) (by kernel_rfl) ?_
              refine tb (x := (vb (!decide (r68.2 = 0)))) (p_err_neq _) ?_
              refine tcond (fun h73 => ?_) (fun h73 => ?_)
              · exact rf_ret rfl
              · refine tb (x := (vi ((i58 : Int) + 1))) (p_incN h61) ?_
                refine tkeepO2 ?_ rfl
                refine tsome ?_
                exact h56 ()
            · refine tb (x := (vb (decide ((List.length ([a1.From, a1.To] : (List ByteArray)) : Int) < (List.length ([a1.From, a1.To] : (List ByteArray)) : Int))))) (d_lss) ?_
              refine tcond_f h75 ?_
              exact h51 ()

/-! railpoint/wish.Check -/
def an_wish_Check : Ann := .seq (.reg 0 [] [] []) (.seq (.seq (.reg 0 [] [] []) (.seq (.reg 0 [] [] []) (.cond none (.seq (.reg 0 [] [] []) (.no)) (.no)))) (.seq (.seq (.reg 0 [] [] []) (.cond none (.seq (.reg 0 [] [] []) (.no)) (.no))) (.seq (.seq (.reg 0 [] [] []) (.blk (some []) (.loop [.kb 2, .s 20] (.seq (.reg 0 [] [] []) (.seq (.cond none (.no) (.no)) (.seq (.blk none (.seq (.reg 0 [] [] []) (.seq (.reg 0 [] [] []) (.seq (.reg 0 [] [] []) (.cond none (.seq (.reg 0 [] [] []) (.no)) (.no)))))) (.reg 0 [] [] []))))))) (.seq (.reg 0 [] [] []) (.no)))))
noncomputable def sem_wish_Check (n : Nat) (xs : List V) : Option V := if xs.length ≤ 31 then denF Tryd.prog (envOf [(78, (sem_topo_Check n)), (155, (sem_wish_one n))]) n Tryd.f109 an_wish_Check xs else none
theorem ok_wish_Check (n : Nat) : SemOk Tryd.prog DW 109 (sem_wish_Check n) := fun xs y h => by
  unfold sem_wish_Check at h
  split at h
  · rename_i hl
    exact denF_ok stb Tryd.func109 (by kernel_rfl) (envOf_ok (semsOk_cons (ok_topo_Check n) (semsOk_cons (ok_wish_one n) semsOk_nil))) (by rw [Tryd.ntmps109]; exact hl) h
  · cases h
theorem eq_wish_Check (n : Nat) (x0 x1 : V) : sem_wish_Check n [x0, x1] =
 (V.cellsO x0).bind fun v1 =>
 (ldk (some 3) (List.drop 0 v1)).bind fun v2 =>
 ((sem_topo_Check n) [v2]).bind fun v3 =>
 (bin2 Tryd.prog BinOp.neq 35 (ot 11) (Operand.const Go.Value.nilIface) v3 vn).bind fun v4 =>
 condV v4 (
 some v3) (
 (lenS [x1]).bind fun v5 =>
 (bin2 Tryd.prog BinOp.gtr 3 (ot 15) (oc 8) v5 (vi 8)).bind fun v6 =>
 condV v6 (
 (scal1 Tryd.prog (Instr.makeInterface 143) (vi 4)).bind fun v7 =>
 some v7) (
 (lenS [x1]).bind fun v8 =>
 JoinPt (fun vs9 =>
 some vn) fun J10 =>
 (keepO (some v1) (some v1) (some [(vi 0)])).bind (fixN (fun rec11 vs12 =>
 (bin2 Tryd.prog BinOp.lss 3 (ot 20) (ot 19) (List.getD vs12 0 V.any) v8).bind fun v13 =>
 condV v13 (
 (idxS 4 x1 (List.getD vs12 0 V.any)).bind fun v14 =>
 (ldp (some 4) v14).bind fun v15 =>
 (spliceV [(vi 0), (V.lit (Go.Value.string (ByteArray.mk #[]))), (V.lit (Go.Value.string (ByteArray.mk #[]))), (vi 0)] 0 4 v15).bind fun v16 =>
 (ldk (some 3) (List.drop 0 v1)).bind fun v17 =>
 (ldk (some 4) (List.drop 0 (aggL v16))).bind fun v18 =>
 ((sem_wish_one n) [v17, v18]).bind fun v19 =>
 (bin2 Tryd.prog BinOp.neq 35 (ot 27) (Operand.const Go.Value.nilIface) v19 vn).bind fun v20 =>
 condV v20 (
 some v19) (
 (bin2 Tryd.prog BinOp.add 3 (ot 20) (oc 1) (List.getD vs12 0 V.any) (vi 1)).bind fun v21 =>
 (keepO (some v1) (some v1) (some [v21])).bind rec11)) (
 J10 [])) n))) := by kernel_rfl
noncomputable def t_wish_Check (a0 : T_Topo) (a1 : (List T_Wish)) : Option Int :=
 (t_topo_Check a0).bind fun r4 =>
 if (!decide (r4 = 0)) = true then (
 some r4) else (
 if (decide (8 < (List.length a1 : Int))) = true then (
 some 4) else (
 join (fun (s14 : Unit) =>
 some 0) fun j15 =>
 loopI a1 (fun (i23 : Int) x24 (s19 : Unit) k20 =>
 (t_wish_one a0 x24).bind fun r35 =>
 if (!decide (r35 = 0)) = true then (
 some r35) else (
 k20 ())) (fun (s19 : Unit) =>
 j15 ()) ()))
theorem ty_wish_Check {n : Nat} (hn : bigN ≤ n) (a0 : T_Topo) (a1 : (List T_Wish)) : Rv (fun x : Int => (eV x)) (sem_wish_Check n [(T_Topo.e a0), (V.sl (List.map T_Wish.c a1))]) (t_wish_Check a0 a1) := by
  rw [eq_wish_Check]
  unfold t_wish_Check
  refine tb (x := (T_Topo.c a0)) rfl ?_
  refine tb (x := (T_Topo.e a0)) (rfl) ?_
  refine tbo (ty_topo_Check hn a0) fun r4 => ?_
  refine tb (x := (vb (!decide (r4 = 0)))) (p_err_neq _) ?_
  refine tcond (fun h6 => ?_) (fun h6 => ?_)
  · exact rf_ret rfl
  · refine tb (x := (vi (List.length a1 : Int))) (p_len _) ?_
    refine tb (x := (vb (decide (8 < (List.length a1 : Int))))) (d_gtr) ?_
    refine tcond (fun h9 => ?_) (fun h9 => ?_)
    · refine tb (x := (eV 4)) (p_mkE (by decide)) ?_
      exact rf_ret rfl
    · refine tb (x := (vi (List.length a1 : Int))) (p_len _) ?_
      refine tjoin (mk := fun s14 : Unit => []) (fun s14 => ?_) fun J13 j15 h16 => ?_
      · exact rf_ret rfl
      · refine tkeepO2 ?_ rfl
        refine tsome ?_
        refine rf_loopI (mk := fun (i23 : Int) (s19 : Unit) => [(vi (i23 : Int))]) hn a1 () (fun i23 x24 h25 h26 h27 s19 rec17 k20 h21 => ?_) (fun s19 rec40 h39 => ?_)
        · refine tb (x := (vb (decide ((i23 : Int) < (List.length a1 : Int))))) (d_lss) ?_
          refine tcond_t h27 ?_
          refine tb (x := (V.ptr (T_Wish.c x24))) (p_idx_at (c := T_Wish.c) (fun _ => rfl) h25) ?_
          refine tb (x := (T_Wish.e x24)) (rfl) ?_
          refine tb (x := V.agg (T_Wish.c x24)) (by kernel_rfl) ?_
          refine tb (x := (T_Topo.e a0)) (rfl) ?_
          refine tb (x := (T_Wish.e x24)) (rfl) ?_
          refine tbo (ty_wish_one hn a0 x24) fun r35 => ?_
          refine tb (x := (vb (!decide (r35 = 0)))) (p_err_neq _) ?_
          refine tcond (fun h37 => ?_) (fun h37 => ?_)
          · exact rf_ret rfl
          · refine tb (x := (vi ((i23 : Int) + 1))) (p_incN h26) ?_
            refine tkeepO2 ?_ rfl
            refine tsome ?_
            exact h21 ()
        · refine tb (x := (vb (decide ((List.length a1 : Int) < (List.length a1 : Int))))) (d_lss) ?_
          refine tcond_f h39 ?_
          exact h16 ()

/-! slices.IndexFunc   railpoint/api.Fate railpoint/api.Fate  -/
def an_slices_IndexFunc_api_Fate_api_Fate : Ann := .seq (.reg 0 [] [] []) (.seq (.seq (.reg 0 [] [] []) (.blk (some []) (.loop [.s 8] (.seq (.reg 0 [] [] []) (.seq (.cond none (.no) (.no)) (.seq (.blk none (.seq (.reg 0 [] [] []) (.seq (.reg 0 [] [] []) (.cond none (.seq (.reg 0 [] [] []) (.no)) (.no))))) (.reg 0 [] [] []))))))) (.seq (.reg 0 [] [] []) (.no)))
noncomputable def sem_slices_IndexFunc_api_Fate_api_Fate (E : FuncId → List V → Option V) (n : Nat) (xs : List V) : Option V := if xs.length ≤ 19 then denF Tryd.prog (envJ [] E) n Tryd.f159 an_slices_IndexFunc_api_Fate_api_Fate xs else none
theorem ok_slices_IndexFunc_api_Fate_api_Fate {E : FuncId → List V → Option V} (hE : EnvOk Tryd.prog DW E) (n : Nat) : SemOk Tryd.prog DW 159 (sem_slices_IndexFunc_api_Fate_api_Fate E n) := fun xs y h => by
  unfold sem_slices_IndexFunc_api_Fate_api_Fate at h
  split at h
  · rename_i hl
    exact denF_ok stb Tryd.func159 (by kernel_rfl) (envJ_ok semsOk_nil hE) (by rw [Tryd.ntmps159]; exact hl) h
  · cases h
theorem eq_slices_IndexFunc_api_Fate_api_Fate (E : FuncId → List V → Option V) (n : Nat) (x0 x1 : V) : sem_slices_IndexFunc_api_Fate_api_Fate E n [x0, x1] =
 (lenS [x0]).bind fun v1 =>
 JoinPt (fun vs2 =>
 some (vi (-1 : Int))) fun J3 =>
 (fixN (fun rec4 vs5 =>
 (bin2 Tryd.prog BinOp.lss 3 (ot 8) (ot 7) (List.getD vs5 0 V.any) v1).bind fun v6 =>
 condV v6 (
 (idxS 3 x0 (List.getD vs5 0 V.any)).bind fun v7 =>
 (ldp (some 3) v7).bind fun v8 =>
 (callV (envJ [] E) x1 [v8]).bind fun v9 =>
 condV v9 (
 some (List.getD vs5 0 V.any)) (
 (bin2 Tryd.prog BinOp.add 3 (ot 8) (oc 1) (List.getD vs5 0 V.any) (vi 1)).bind fun v10 =>
 rec4 [v10])) (
 J3 [])) n) [(vi 0)] := by kernel_rfl
noncomputable def t_slices_IndexFunc_api_Fate_api_Fate (a0 : (List T_Fate)) (g1 : T_Fate → Option Bool) : Option Int :=
 join (fun (s4 : Unit) =>
 some (-1 : Int)) fun j5 =>
 loopI a0 (fun (i13 : Int) x14 (s9 : Unit) k10 =>
 (g1 x14).bind fun r22 =>
 if r22 = true then (
 some i13) else (
 k10 ())) (fun (s9 : Unit) =>
 j5 ()) ()
theorem ty_slices_IndexFunc_api_Fate_api_Fate {E : FuncId → List V → Option V} {n : Nat} (hn : bigN ≤ n) (a0 : (List T_Fate)) {x1 : V} {g1 : T_Fate → Option Bool} (hg_g1 : ∀ a0, Rv (fun x : Bool => (vb x)) (callV E x1 [(T_Fate.e a0)]) (g1 a0)) : Rv (fun x : Int => (vi x)) (sem_slices_IndexFunc_api_Fate_api_Fate E n [(V.sl (List.map T_Fate.c a0)), x1]) (t_slices_IndexFunc_api_Fate_api_Fate a0 g1) := by
  rw [eq_slices_IndexFunc_api_Fate_api_Fate]
  unfold t_slices_IndexFunc_api_Fate_api_Fate
  refine tb (x := (vi (List.length a0 : Int))) (p_len _) ?_
  refine tjoin (mk := fun s4 : Unit => []) (fun s4 => ?_) fun J3 j5 h6 => ?_
  · exact rf_ret rfl
  · refine rf_loopI (mk := fun (i13 : Int) (s9 : Unit) => [(vi (i13 : Int))]) hn a0 () (fun i13 x14 h15 h16 h17 s9 rec7 k10 h11 => ?_) (fun s9 rec26 h25 => ?_)
    · refine tb (x := (vb (decide ((i13 : Int) < (List.length a0 : Int))))) (d_lss) ?_
      refine tcond_t h17 ?_
      refine tb (x := (V.ptr (T_Fate.c x14))) (p_idx_at (c := T_Fate.c) (fun _ => rfl) h15) ?_
      refine tb (x := (T_Fate.e x14)) (rfl) ?_
      refine tbo ((callV_J0 ▸ hg_g1 x14)) fun r22 => ?_
      refine tcond (fun h23 => ?_) (fun h23 => ?_)
      · exact rf_ret rfl
      · refine tb (x := (vi ((i13 : Int) + 1))) (p_incN h16) ?_
        exact h11 ()
    · refine tb (x := (vb (decide ((List.length a0 : Int) < (List.length a0 : Int))))) (d_lss) ?_
      refine tcond_f h25 ?_
      exact h6 ()

/-! slices.ContainsFunc   railpoint/api.Fate railpoint/api.Fate  -/
def an_slices_ContainsFunc_api_Fate_api_Fate : Ann := .seq (.reg 0 [] [] []) (.seq (.reg 0 [] [] []) (.no))
noncomputable def sem_slices_ContainsFunc_api_Fate_api_Fate (E : FuncId → List V → Option V) (n : Nat) (xs : List V) : Option V := if xs.length ≤ 9 then denF Tryd.prog (envJ [(159, (sem_slices_IndexFunc_api_Fate_api_Fate E n))] E) n Tryd.f119 an_slices_ContainsFunc_api_Fate_api_Fate xs else none
theorem ok_slices_ContainsFunc_api_Fate_api_Fate {E : FuncId → List V → Option V} (hE : EnvOk Tryd.prog DW E) (n : Nat) : SemOk Tryd.prog DW 119 (sem_slices_ContainsFunc_api_Fate_api_Fate E n) := fun xs y h => by
  unfold sem_slices_ContainsFunc_api_Fate_api_Fate at h
  split at h
  · rename_i hl
    exact denF_ok stb Tryd.func119 (by kernel_rfl) (envJ_ok (semsOk_cons (ok_slices_IndexFunc_api_Fate_api_Fate hE n) semsOk_nil) hE) (by rw [Tryd.ntmps119]; exact hl) h
  · cases h
theorem eq_slices_ContainsFunc_api_Fate_api_Fate (E : FuncId → List V → Option V) (n : Nat) (x0 x1 : V) : sem_slices_ContainsFunc_api_Fate_api_Fate E n [x0, x1] =
 ((sem_slices_IndexFunc_api_Fate_api_Fate E n) [x0, x1]).bind fun v1 =>
 (bin2 Tryd.prog BinOp.geq 3 (ot 7) (oc 0) v1 (vi 0)).bind fun v2 =>
 some v2 := by kernel_rfl
noncomputable def t_slices_ContainsFunc_api_Fate_api_Fate (a0 : (List T_Fate)) (g1 : T_Fate → Option Bool) : Option Bool :=
 (t_slices_IndexFunc_api_Fate_api_Fate a0 g1).bind fun r2 =>
 some (decide (0 ≤ r2))
theorem ty_slices_ContainsFunc_api_Fate_api_Fate {E : FuncId → List V → Option V} {n : Nat} (hn : bigN ≤ n) (a0 : (List T_Fate)) {x1 : V} {g1 : T_Fate → Option Bool} (hg_g1 : ∀ a0, Rv (fun x : Bool => (vb x)) (callV E x1 [(T_Fate.e a0)]) (g1 a0)) : Rv (fun x : Bool => (vb x)) (sem_slices_ContainsFunc_api_Fate_api_Fate E n [(V.sl (List.map T_Fate.c a0)), x1]) (t_slices_ContainsFunc_api_Fate_api_Fate a0 g1) := by
  rw [eq_slices_ContainsFunc_api_Fate_api_Fate]
  unfold t_slices_ContainsFunc_api_Fate_api_Fate
  refine tbo (ty_slices_IndexFunc_api_Fate_api_Fate (E := E) (x1 := x1) (g1 := g1) hn a0 hg_g1) fun r2 => ?_
  refine tb (x := (vb (decide (0 ≤ r2)))) (d_geq) ?_
  exact rf_ret rfl

/-! railpoint/wish.Seek$1 -/
def an_wish_Seek_1 : Ann := .seq (.reg 0 [] [] []) (.seq (.reg 0 [] [] []) (.no))
noncomputable def sem_wish_Seek_1 (n : Nat) (xs : List V) : Option V := if xs.length ≤ 11 then denF Tryd.prog (envOf [(59, (sem_wish_Fits n))]) n Tryd.f156 an_wish_Seek_1 xs else none
theorem ok_wish_Seek_1 (n : Nat) : SemOk Tryd.prog DW 156 (sem_wish_Seek_1 n) := fun xs y h => by
  unfold sem_wish_Seek_1 at h
  split at h
  · rename_i hl
    exact denF_ok stb Tryd.func156 (by kernel_rfl) (envOf_ok (semsOk_cons (ok_wish_Fits n) semsOk_nil)) (by rw [Tryd.ntmps156]; exact hl) h
  · cases h
theorem eq_wish_Seek_1 (n : Nat) (x0 x1 x2 : V) : sem_wish_Seek_1 n [x0, x1, x2] =
 (V.cellsO x0).bind fun v1 =>
 (ldp (some 4) x1).bind fun v2 =>
 (ptrF 0 x2).bind fun v3 =>
 (ldp none v3).bind fun v4 =>
 (ldk (some 3) (List.drop 0 v1)).bind fun v5 =>
 ((sem_wish_Fits n) [v2, v4, v5]).bind fun v6 =>
 (scal1 Tryd.prog (Op.unary Go.UnOp.not) v6).bind fun v7 =>
 some v7 := by kernel_rfl
noncomputable def t_wish_Seek_1 (a0 : T_Fate) (a1 : T_Wish) (a2 : T_Host) : Option Bool :=
 (t_wish_Fits a1 a2.Name a0).bind fun r7 =>
 some (!r7)
theorem ty_wish_Seek_1 {n : Nat} (hn : bigN ≤ n) (a0 : T_Fate) (a1 : T_Wish) (a2 : T_Host) : Rv (fun x : Bool => (vb x)) (sem_wish_Seek_1 n [(T_Fate.e a0), (V.ptr (T_Wish.c a1)), (V.ptr (T_Host.c a2))]) (t_wish_Seek_1 a0 a1 a2) := by
  rw [eq_wish_Seek_1]
  unfold t_wish_Seek_1
  refine tb (x := (T_Fate.c a0)) rfl ?_
  refine tb (x := (T_Wish.e a1)) (rfl) ?_
  refine tb (x := (V.ptr (T_Host.c a2))) (rfl) ?_
  refine tb (x := (vt a2.Name)) (rfl) ?_
  refine tb (x := (T_Fate.e a0)) (rfl) ?_
  refine tbo (ty_wish_Fits hn a1 a2.Name a0) fun r7 => ?_
  refine tb (x := (vb (!r7))) (d_not) ?_
  exact rf_ret rfl

/-! railpoint/wish.Seek -/
def an_wish_Seek : Ann := .seq (.reg 0 [] [] []) (.seq (.seq (.reg 0 [] [] []) (.blk (some [.b 6]) (.loop [.kb 3, .b 6, .s 15] (.seq (.reg 0 [] [] []) (.seq (.cond none (.no) (.no)) (.seq (.blk (some [.kb 3, .b 6]) (.seq (.reg 0 [] [] []) (.seq (.reg 0 [9] [] []) (.blk (some [.kb 3, .b 6]) (.loop [.kb 3, .b 6, .s 23] (.seq (.reg 0 [] [] []) (.seq (.cond none (.no) (.no)) (.seq (.blk (some [.kb 3, .b 6]) (.seq (.reg 0 [] [] []) (.seq (.seq (.reg 0 [11] [] []) (.cond none (.no) (.no))) (.seq (.reg 0 [] [] []) (.blk (some [.kb 3, .b 6]) (.loop [.kb 3, .b 6, .s 37] (.seq (.reg 0 [] [] []) (.seq (.cond none (.no) (.no)) (.seq (.blk none (.seq (.reg 0 [] [] []) (.seq (.reg 0 [] [] []) (.cond none (.seq (.reg 0 [] [] []) (.no)) (.no))))) (.reg 0 [] [] [])))))))))) (.reg 0 [] [] []))))))))) (.reg 0 [] [] []))))))) (.seq (.reg 0 [] [] []) (.no)))
noncomputable def sem_wish_Seek (E : FuncId → List V → Option V) (n : Nat) (xs : List V) : Option V := if xs.length ≤ 55 then denF Tryd.prog (envJ [(119, (sem_slices_ContainsFunc_api_Fate_api_Fate (envOf [(156, (sem_wish_Seek_1 n))]) n))] E) n Tryd.f110 an_wish_Seek xs else none
theorem ok_wish_Seek {E : FuncId → List V → Option V} (hE : EnvOk Tryd.prog DW E) (n : Nat) : SemOk Tryd.prog DW 110 (sem_wish_Seek E n) := fun xs y h => by
  unfold sem_wish_Seek at h
  split at h
  · rename_i hl
    exact denF_ok stb Tryd.func110 (by kernel_rfl) (envJ_ok (semsOk_cons (ok_slices_ContainsFunc_api_Fate_api_Fate (envOf_ok (semsOk_cons (ok_wish_Seek_1 n) semsOk_nil)) n) semsOk_nil) hE) (by rw [Tryd.ntmps110]; exact hl) h
  · cases h
theorem eq_wish_Seek (E : FuncId → List V → Option V) (n : Nat) (x0 x1 x2 : V) : sem_wish_Seek E n [x0, x1, x2] =
 (V.cellsO x0).bind fun v1 =>
 (lenS [x1]).bind fun v2 =>
 JoinPt (fun vs3 =>
 ((fillL [(vi 0), (V.lit (Go.Value.string (ByteArray.mk #[]))), (vi 0)] []).map V.agg).bind fun v5 =>
 (spliceV (aggL (List.getD vs3 0 V.any)) 0 3 v5).bind fun v6 =>
 (ldk (some 3) (List.drop 0 (aggL v6))).bind fun v7 =>
 some (V.tup [v7, (vb false)])) fun J4 =>
 (keepO (some v1) (some v1) (some [(V.agg [(vi 0), (V.lit (Go.Value.string (ByteArray.mk #[]))), (vi 0)]), (vi 0)])).bind (fixN (fun rec8 vs9 =>
 (bin2 Tryd.prog BinOp.lss 3 (ot 15) (ot 14) (List.getD vs9 1 V.any) v2).bind fun v10 =>
 condV v10 (
 JoinPt (fun vs11 =>
 (bin2 Tryd.prog BinOp.add 3 (ot 15) (oc 1) (List.getD vs9 1 V.any) (vi 1)).bind fun v13 =>
 (keepO (some v1) (some v1) (some [(V.agg (aggL (List.getD vs11 0 V.any))), v13])).bind rec8) fun J12 =>
 (idxS 4 x1 (List.getD vs9 1 V.any)).bind fun v14 =>
 (ldp (some 4) v14).bind fun v15 =>
 (spliceV [(vi 0), (V.lit (Go.Value.string (ByteArray.mk #[]))), (V.lit (Go.Value.string (ByteArray.mk #[]))), (vi 0)] 0 4 v15).bind fun v16 =>
 (ldk none (List.drop 2 v1)).bind fun v17 =>
 (lenS [v17]).bind fun v18 =>
 JoinPt (fun vs19 =>
 (keepO (some v1) (some v1) (some [(V.agg (aggL (List.getD vs19 0 V.any)))])).bind J12) fun J20 =>
 (keepO (some v1) (some v1) (some [(V.agg (aggL (List.getD vs9 0 V.any))), (vi 0)])).bind (fixN (fun rec21 vs22 =>
 (bin2 Tryd.prog BinOp.lss 3 (ot 23) (ot 22) (List.getD vs22 1 V.any) v18).bind fun v23 =>
 condV v23 (
 JoinPt (fun vs24 =>
 (bin2 Tryd.prog BinOp.add 3 (ot 23) (oc 1) (List.getD vs22 1 V.any) (vi 1)).bind fun v26 =>
 (keepO (some v1) (some v1) (some [(V.agg (aggL (List.getD vs24 0 V.any))), v26])).bind rec21) fun J25 =>
 (idxS 3 v17 (List.getD vs22 1 V.any)).bind fun v27 =>
 (ldp (some 3) v27).bind fun v28 =>
 (spliceV [(V.lit (Go.Value.string (ByteArray.mk #[]))), (vi 0), (vi 0)] 0 3 v28).bind fun v29 =>
 (ptrF 0 (V.ptr (aggL v16))).bind fun v30 =>
 (ldp none v30).bind fun v31 =>
 (bin2 Tryd.prog BinOp.neq 3 (ot 28) (oc 4) v31 (vi 4)).bind fun v32 =>
 (guardV v32 true ((ptrF 0 (V.ptr (aggL v29))).bind fun v33 =>
 some v33)).bind fun v34 =>
 (guardV v32 true ((ldp none v34).bind fun v35 =>
 some v35)).bind fun v36 =>
 (guardV v32 true ((ptrF 1 (V.ptr (aggL v16))).bind fun v37 =>
 some v37)).bind fun v38 =>
 (guardV v32 true ((ldp none v38).bind fun v39 =>
 some v39)).bind fun v40 =>
 (guardV v32 true ((bin2 Tryd.prog BinOp.neq 9 (ot 32) (ot 34) v36 v40).bind fun v41 =>
 some v41)).bind fun v42 =>
 (pickV v32 v42 (vb false)).bind fun v43 =>
 condV v43 (
 (keepO (some v1) (some v1) (some [(V.agg (aggL (List.getD vs22 0 V.any)))])).bind J25) (
 JoinPt (fun vs44 =>
 (keepO (some v1) (some v1) (some [(V.agg (aggL (List.getD vs44 0 V.any)))])).bind J25) fun J45 =>
 (keepO (some v1) (some v1) (some [(V.agg (aggL (List.getD vs22 0 V.any))), (vi 0)])).bind (fixN (fun rec46 vs47 =>
 (bin2 Tryd.prog BinOp.lss 3 (ot 37) (oc 16) (List.getD vs47 1 V.any) (vi 16)).bind fun v48 =>
 condV v48 (
 (ldp (some 3) (V.ptr (aggL v29))).bind fun v49 =>
 (callV (envJ [(119, (sem_slices_ContainsFunc_api_Fate_api_Fate (envOf [(156, (sem_wish_Seek_1 n))]) n))] E) x2 [v49, (List.getD vs47 1 V.any)]).bind fun v50 =>
 ((sem_slices_ContainsFunc_api_Fate_api_Fate (envOf [(156, (sem_wish_Seek_1 n))]) n) [v50, (V.fn 156 [(V.ptr (aggL v16)), (V.ptr (aggL v29))])]).bind fun v51 =>
 condV v51 (
 (ptrF 0 (V.ptr (aggL v29))).bind fun v52 =>
 (ldp none v52).bind fun v53 =>
 ((fillL [(vi 0), (V.lit (Go.Value.string (ByteArray.mk #[]))), (vi 0)] [(0, 1, (List.getD vs9 1 V.any)), (1, 1, v53), (2, 1, (List.getD vs47 1 V.any))]).map V.agg).bind fun v54 =>
 (spliceV (aggL (List.getD vs47 0 V.any)) 0 3 v54).bind fun v55 =>
 (ldk (some 3) (List.drop 0 (aggL v55))).bind fun v56 =>
 some (V.tup [v56, (vb true)])) (
 (bin2 Tryd.prog BinOp.add 3 (ot 37) (oc 1) (List.getD vs47 1 V.any) (vi 1)).bind fun v57 =>
 (keepO (some v1) (some v1) (some [(V.agg (aggL (List.getD vs47 0 V.any))), v57])).bind rec46)) (
 (keepO (some v1) (some v1) (some [(V.agg (aggL (List.getD vs47 0 V.any)))])).bind J45)) n))) (
 (keepO (some v1) (some v1) (some [(V.agg (aggL (List.getD vs22 0 V.any)))])).bind J20)) n)) (
 J4 [(V.agg (aggL (List.getD vs9 0 V.any)))])) n) := by kernel_rfl
noncomputable def t_wish_Seek (a0 : T_Topo) (a1 : (List T_Wish)) (g2 : T_Host → Int → Option (List T_Fate)) : Option (T_PProof × Bool) :=
 join (fun (s5 : T_PProof) =>
 some ((T_PProof.mk 0 (ByteArray.mk #[]) 0), false)) fun j6 =>
 loopI a1 (fun (i17 : Int) x18 (s13 : T_PProof) k14 =>
 join (fun (s25 : T_PProof) =>
 k14 (s25)) fun j26 =>
 join (fun (s36 : T_PProof) =>
 j26 (s36)) fun j37 =>
 loopI a0.Hosts (fun (i45 : Int) x46 (s41 : T_PProof) k42 =>
 join (fun (s53 : T_PProof) =>
 k42 (s53)) fun j54 =>
 if ((decide (x18.What ≠ 4)) && (!decide (x46.Name = x18.From))) = true then (
 j54 (s41)) else (
 join (fun (s82 : T_PProof) =>
 j54 (s82)) fun j83 =>
 loopU 0 16 (fun (i91 : Int) (s87 : Unit) k88 =>
 (g2 x46 i91).bind fun r100 =>
 (t_slices_ContainsFunc_api_Fate_api_Fate r100 (fun (a101 : T_Fate) => t_wish_Seek_1 a101 x18 x46)).bind fun r103 =>
 if r103 = true then (
 some ((T_PProof.mk i17 x46.Name i91), true)) else (
 k88 ())) (fun (i91 : Int) (s87 : Unit) =>
 j83 (s41)) ())) (fun (s41 : T_PProof) =>
 j37 (s41)) (s13)) (fun (s13 : T_PProof) =>
 j6 (s13)) (T_PProof.mk 0 (ByteArray.mk #[]) 0)
theorem ty_wish_Seek {E : FuncId → List V → Option V} {n : Nat} (hn : bigN ≤ n) (a0 : T_Topo) (a1 : (List T_Wish)) {x2 : V} {g2 : T_Host → Int → Option (List T_Fate)} (hg_g2 : ∀ a0 a1, Rv (fun x : (List T_Fate) => (V.sl (List.map T_Fate.c x))) (callV E x2 [(T_Host.e a0), (vi a1)]) (g2 a0 a1)) (hl_g2 : ∀ xs, callV (envJ [(119, (sem_slices_ContainsFunc_api_Fate_api_Fate (envOf [(156, (sem_wish_Seek_1 n))]) n))] E) x2 xs = callV E x2 xs) : Rv (fun x : (T_PProof × Bool) => V.tup [(T_PProof.e x.1), (vb x.2)]) (sem_wish_Seek E n [(T_Topo.e a0), (V.sl (List.map T_Wish.c a1)), x2]) (t_wish_Seek a0 a1 g2) := by
  rw [eq_wish_Seek]
  unfold t_wish_Seek
  refine tb (x := (T_Topo.c a0)) rfl ?_
  refine tb (x := (vi (List.length a1 : Int))) (p_len _) ?_
  refine tjoin (mk := fun s5 : T_PProof => [(V.agg (T_PProof.c s5))]) (fun s5 => ?_) fun J4 j6 h7 => ?_
  · refine tb (x := (T_PProof.e (T_PProof.mk 0 (ByteArray.mk #[]) 0))) (by kernel_rfl) ?_
    refine tb (x := V.agg (T_PProof.c (T_PProof.mk 0 (ByteArray.mk #[]) 0))) (by kernel_rfl) ?_
    refine tb (x := (T_PProof.e (T_PProof.mk 0 (ByteArray.mk #[]) 0))) rfl ?_
    exact rf_ret rfl
  · refine tkeepO2 ?_ rfl
    refine tsome ?_
    refine rf_loopI (mk := fun (i17 : Int) (s13 : T_PProof) => [(V.agg (T_PProof.c s13)), (vi (i17 : Int))]) hn a1 (T_PProof.mk 0 (ByteArray.mk #[]) 0) (fun i17 x18 h19 h20 h21 s13 rec11 k14 h15 => ?_) (fun s13 rec116 h115 => ?_)
    · refine tb (x := (vb (decide ((i17 : Int) < (List.length a1 : Int))))) (d_lss) ?_
      refine tcond_t h21 ?_
      refine tjoin (mk := fun s25 : T_PProof => [(V.agg (T_PProof.c s25))]) (fun s25 => ?_) fun J24 j26 h27 => ?_
      · refine tb (x := (vi ((i17 : Int) + 1))) (p_incN h20) ?_
        refine tkeepO2 ?_ rfl
        refine tsome ?_
        exact h15 (s25)
      · refine tb (x := (V.ptr (T_Wish.c x18))) (p_idx_at (c := T_Wish.c) (fun _ => rfl) h19) ?_
        refine tb (x := (T_Wish.e x18)) (rfl) ?_
        refine tb (x := V.agg (T_Wish.c x18)) (by kernel_rfl) ?_
        refine tb (x := (V.sl (List.map T_Host.c a0.Hosts))) (rfl) ?_
        refine tb (x := (vi (List.length a0.Hosts : Int))) (p_len _) ?_
        refine tjoin (mk := fun s36 : T_PProof => [(V.agg (T_PProof.c s36))]) (fun s36 => ?_) fun J35 j37 h38 => ?_
        · refine tkeepO2 ?_ rfl
          refine tsome ?_
          exact h27 (s36)
        · refine tkeepO2 ?_ rfl
          refine tsome ?_
          refine rf_loopI (mk := fun (i45 : Int) (s41 : T_PProof) => [(V.agg (T_PProof.c s41)), (vi (i45 : Int))]) hn a0.Hosts (s13) (fun i45 x46 h47 h48 h49 s41 rec39 k42 h43 => ?_) (fun s41 rec113 h112 => ?_)
          · refine tb (x := (vb (decide ((i45 : Int) < (List.length a0.Hosts : Int))))) (d_lss) ?_
            refine tcond_t h49 ?_
            refine tjoin (mk := fun s53 : T_PProof => [(V.agg (T_PProof.c s53))]) (fun s53 => ?_) fun J52 j54 h55 => ?_
            · refine tb (x := (vi ((i45 : Int) + 1))) (p_incN h48) ?_
              refine tkeepO2 ?_ rfl
              refine tsome ?_
              exact h43 (s53)
            · refine tb (x := (V.ptr (T_Host.c x46))) (p_idx_at (c := T_Host.c) (fun _ => rfl) h47) ?_
              refine tb (x := (T_Host.e x46)) (rfl) ?_
              refine tb (x := V.agg (T_Host.c x46)) (by kernel_rfl) ?_
              refine tb (x := (V.ptr (T_Wish.c x18))) (rfl) ?_
              refine tb (x := (vi x18.What)) (rfl) ?_
              refine tb (x := (vb (decide (x18.What ≠ 4)))) (d_neq) ?_
              refine tg (x := (V.ptr (T_Host.c x46))) (fun h63 => bind_some_eq (rfl)) ?_
              refine tg (x := (vt x46.Name)) (fun h66 => by first | exact bind_some_eq (rfl) | (simp only [gv_t h66]; exact bind_some_eq (rfl))) ?_
              refine tg (x := (V.ptr (List.drop 1 (T_Wish.c x18)))) (fun h69 => bind_some_eq (rfl)) ?_
              refine tg (x := (vt x18.From)) (fun h72 => by first | exact bind_some_eq (rfl) | (simp only [gv_t h72]; exact bind_some_eq (rfl))) ?_
              refine tg (x := (vb (!decide (x46.Name = x18.From)))) (fun h75 => by simp only [gv_t h75]; exact bind_some_eq (p_neq_str)) ?_
              refine tb (x := (vb ((decide (x18.What ≠ 4)) && (!decide (x46.Name = x18.From))))) (pick_and (fun h9 => gv_t h9)) ?_
              refine tcond (fun h79 => ?_) (fun h79 => ?_)
              · refine tkeepO2 ?_ rfl
                refine tsome ?_
                exact h55 (s41)
              · refine tjoin (mk := fun s82 : T_PProof => [(V.agg (T_PProof.c s82))]) (fun s82 => ?_) fun J81 j83 h84 => ?_
                · refine tkeepO2 ?_ rfl
                  refine tsome ?_
                  exact h55 (s82)
                · refine tkeepO2 ?_ rfl
                  refine tsome ?_
                  refine rf_loopU (mk := fun (i91 : Int) (s87 : Unit) => [(V.agg (T_PProof.c s41)), (vi i91)]) hn _ _ () (fun i91 h92 h93 h94 s87 rec85 k88 h89 => ?_) (fun i91 s87 rec96 h95 => ?_)
                  · refine tb (x := (vb (decide (i91 < 16)))) (d_lss) ?_
                    refine tcond_t h92 ?_
                    refine tb (x := (T_Host.e x46)) (rfl) ?_
                    refine tbo ((by rw [hl_g2]; exact hg_g2 x46 i91)) fun r100 => ?_
                    refine tbo (ty_slices_ContainsFunc_api_Fate_api_Fate (E := (envOf [(156, (sem_wish_Seek_1 n))])) (x1 := (V.fn 156 [(V.ptr (T_Wish.c x18)), (V.ptr (T_Host.c x46))])) (g1 := (fun (a101 : T_Fate) => t_wish_Seek_1 a101 x18 x46)) hn r100 (fun a101 => ty_wish_Seek_1 hn a101 x18 x46)) fun r103 => ?_
                    refine tcond (fun h104 => ?_) (fun h104 => ?_)
                    · refine tb (x := (V.ptr (T_Host.c x46))) (rfl) ?_
                      refine tb (x := (vt x46.Name)) (rfl) ?_
                      refine tb (x := (T_PProof.e (T_PProof.mk (i17 : Int) x46.Name i91))) (by kernel_rfl) ?_
                      refine tb (x := V.agg (T_PProof.c (T_PProof.mk (i17 : Int) x46.Name i91))) (by kernel_rfl) ?_
                      refine tb (x := (T_PProof.e (T_PProof.mk (i17 : Int) x46.Name i91))) rfl ?_
                      exact rf_ret rfl
                    · refine tb (x := (vi (i91 + 1))) (p_inc h93 h94) ?_
                      refine tkeepO2 ?_ rfl
                      refine tsome ?_
                      exact h89 ()
                  · refine tb (x := (vb (decide (i91 < 16)))) (d_lss) ?_
                    refine tcond_f h95 ?_
                    refine tkeepO2 ?_ rfl
                    refine tsome ?_
                    exact h84 (s41)
          · refine tb (x := (vb (decide ((List.length a0.Hosts : Int) < (List.length a0.Hosts : Int))))) (d_lss) ?_
            refine tcond_f h112 ?_
            refine tkeepO2 ?_ rfl
            refine tsome ?_
            exact h38 (s41)
    · refine tb (x := (vb (decide ((List.length a1 : Int) < (List.length a1 : Int))))) (d_lss) ?_
      refine tcond_f h115 ?_
      exact h7 (s13)

/-! railpoint/net.Begin -/
end Go.Proofs.YtpjadjoekdcjiaaDoor.Ty
