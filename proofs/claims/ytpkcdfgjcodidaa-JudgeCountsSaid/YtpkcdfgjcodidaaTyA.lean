/- What functions do, as functions on plain types, written by a program and checked by the kernel. -/
import Derived.Test.YtpkcdfgjcodidaaDenPlain
import Derived.Test.YtpkcdfgjcodidaaTy
import Derived.Test.YtpkcdfgjcodidaaTyT
import Derived.Test.YtpkcdfgjcodidaaTyO
import Derived.Test.YtpkcdfgjcodidaaTyN
import Derived.Test.YtpkcdfgjcodidaaTyM
import Derived.Test.YtpkcdfgjcodidaaTyR
import Derived.Test.YtpkcdfgjcodidaaDen14
import Derived.Test.YtpkcdfgjcodidaaClone
namespace Go.Proofs.Ytpkcdfgjcodidaa.Ty
open Go Go.RowKit Go.Proofs.Ytpkcdfgjcodidaa.Den
set_option linter.unusedVariables false
set_option maxRecDepth 100000

def T_Spot.val (x : T_Spot) : Go.Value := .agg #[.int .i64 x.Switch, .int .i64 x.Port]
theorem T_Spot.mkey : MKey Try.prog 51 T_Spot.val where
  chk e a w := by kernel_rfl
  find vv l a w := find_ask Try.underlying51 (fun _ _ => rfl) (fun a b w => equal_of (T_Spot.run_eql a b w)) vv l a w
  sb a := by show Instr.sameBits (9999 + 1) _ _ = true; simp [Instr.sameBits, T_Spot.val]

/-! railpoint/raillaw4.line -/
def an_raillaw4_line : Ann := .seq (.reg 0 [] [] []) (.seq (.reg 0 [] [] [1000006, 3]) (.seq (.seq (.reg 0 [] [4001000003, 3002000003] []) (.blk (some [.kb 2, .o 3]) (.loop [.kb 2, .o 3, .s 4] (.seq (.seq (.reg 0 [] [] []) (.cond none (.no) (.no))) (.seq (.blk none (.reg 0 [] [] [13, 21])) (.reg 0 [] [] [])))))) (.seq (.reg 0 [] [] [24, 28]) (.seq (.reg 0 [] [] [31, 36]) (.seq (.reg 0 [3] [] []) (.no))))))
noncomputable def sem_raillaw4_line (n : Nat) (xs : List V) : Option V := if xs.length ≤ 39 then denF Try.prog (envOf []) n Try.f11 an_raillaw4_line xs else none
theorem ok_raillaw4_line (n : Nat) : SemOk Try.prog DW 11 (sem_raillaw4_line n) := fun xs y h => by
  unfold sem_raillaw4_line at h
  split at h
  · rename_i hl
    exact denF_ok stb Try.func11 (by kernel_rfl) (envOf_ok semsOk_nil) (by rw [Try.ntmps11]; exact hl) h
  · cases h
theorem eq_raillaw4_line (n : Nat) (x0 : V) : sem_raillaw4_line n [x0] =
 ((fillL [(vi 0), (V.lit (Go.Value.slice none 0 0)), (V.lit (Go.Value.slice none 0 0))] [(0, 1, x0)]).map V.agg).bind fun v1 =>
 (V.cellsO v1).bind fun v2 =>
 (setV (V.obj [(vi 0), (V.sl []), (V.sl [])]) [] (Stp.mk none 0 0) 3 v2).bind fun v3 =>
 (some (softX 4001000003 v3)).bind fun v4 =>
 (some (softX 3002000003 v4)).bind fun v5 =>
 JoinPt (fun vs6 =>
 (some V.any).bind fun v8 =>
 ((nodeL (List.getD vs6 0 V.any) none 0).bind fun l9 => (l9[2]?).bind ownO).bind fun v10 =>
 ((fillL [(vi 0), (vi 0)] [(0, 1, (vi 1)), (1, 1, (vi 3))]).map V.agg).bind fun v11 =>
 ((fillL [(V.lit (Go.Value.string (ByteArray.mk #[]))), (vi 0), (vi 0)] [(0, 1, (V.lit (Go.Value.string (ByteArray.mk #[97])))), (1, 2, v11)]).map V.agg).bind fun v12 =>
 (slcB 3 1 [(V.lit (Go.Value.string (ByteArray.mk #[]))), (vi 0), (vi 0)] [(0, v12)]).bind fun v13 =>
 (getV (List.getD vs6 0 V.any) [(Stp.mk none 2 0)]).bind fun v14 =>
 (modX (List.getD vs6 0 V.any) [] (Stp.mk none 2 0) V.any).bind fun v15 =>
 (appS 3 v14 v13).bind fun v16 =>
 (some V.any).bind fun v17 =>
 (V.cellsO v16).bind fun v18 =>
 (setV v15 [] (Stp.mk none 2 0) 1 v18).bind fun v19 =>
 (some V.any).bind fun v20 =>
 ((nodeL v19 none 0).bind fun l21 => (l21[2]?).bind ownO).bind fun v22 =>
 ((fillL [(vi 0), (vi 0)] [(0, 1, x0), (1, 1, (vi 4))]).map V.agg).bind fun v23 =>
 ((fillL [(V.lit (Go.Value.string (ByteArray.mk #[]))), (vi 0), (vi 0)] [(0, 1, (V.lit (Go.Value.string (ByteArray.mk #[98])))), (1, 2, v23)]).map V.agg).bind fun v24 =>
 (slcB 3 1 [(V.lit (Go.Value.string (ByteArray.mk #[]))), (vi 0), (vi 0)] [(0, v24)]).bind fun v25 =>
 (getV v19 [(Stp.mk none 2 0)]).bind fun v26 =>
 (modX v19 [] (Stp.mk none 2 0) V.any).bind fun v27 =>
 (appS 3 v26 v25).bind fun v28 =>
 (some V.any).bind fun v29 =>
 (V.cellsO v28).bind fun v30 =>
 (setV v27 [] (Stp.mk none 2 0) 1 v30).bind fun v31 =>
 (some (frzP v31)).bind fun v32 =>
 (ldp (some 3) v32).bind fun v33 =>
 (spliceV [(vi 0), (V.sl []), (V.sl [])] 0 3 v33).bind fun v34 =>
 (ldk (some 3) (List.drop 0 (aggL v34))).bind fun v35 =>
 some v35) fun J7 =>
 (keepO (some [(vi 0), (V.sl []), (V.sl [])]) (some [(vi 0), (V.sl []), (V.sl [])]) (some [v5, (vi 1)])).bind (fixN (fun rec36 vs37 =>
 (bin2 Try.prog BinOp.lss 3 (ot 7) (ot 8) (List.getD vs37 1 V.any) x0).bind fun v38 =>
 condV v38 (
 (some V.any).bind fun v39 =>
 ((nodeL (List.getD vs37 0 V.any) none 0).bind fun l40 => (l40[1]?).bind ownO).bind fun v41 =>
 ((fillL [(vi 0), (vi 0)] [(0, 1, (List.getD vs37 1 V.any)), (1, 1, (vi 2))]).map V.agg).bind fun v42 =>
 (bin2 Try.prog BinOp.add 3 (ot 16) (oc 1) (List.getD vs37 1 V.any) (vi 1)).bind fun v43 =>
 ((fillL [(vi 0), (vi 0)] [(0, 1, v43), (1, 1, (vi 1))]).map V.agg).bind fun v44 =>
 ((fillL [(vi 0), (vi 0), (vi 0), (vi 0)] [(0, 2, v42), (2, 2, v44)]).map V.agg).bind fun v45 =>
 (slcB 4 1 [(vi 0), (vi 0), (vi 0), (vi 0)] [(0, v45)]).bind fun v46 =>
 (getV (List.getD vs37 0 V.any) [(Stp.mk none 1 0)]).bind fun v47 =>
 (modX (List.getD vs37 0 V.any) [] (Stp.mk none 1 0) V.any).bind fun v48 =>
 (appS 4 v47 v46).bind fun v49 =>
 (some V.any).bind fun v50 =>
 (V.cellsO v49).bind fun v51 =>
 (setV v48 [] (Stp.mk none 1 0) 1 v51).bind fun v52 =>
 (bin2 Try.prog BinOp.add 3 (ot 10) (oc 1) (List.getD vs37 1 V.any) (vi 1)).bind fun v53 =>
 (keepO (some [(vi 0), (V.sl []), (V.sl [])]) (some [(vi 0), (V.sl []), (V.sl [])]) (some [v52, v53])).bind rec36) (
 (keepO (some [(vi 0), (V.sl []), (V.sl [])]) (some [(vi 0), (V.sl []), (V.sl [])]) (some [(List.getD vs37 0 V.any)])).bind J7)) n) := by kernel_rfl
noncomputable def t_raillaw4_line (a0 : Int) : Option T_Topo :=
 (loopU 1 a0 (fun (i37 : Int) (s33 : T_Topo) k34 =>
 (oapp s33.Links ([(T_Link.mk (T_Spot.mk i37 2) (T_Spot.mk (i37 + 1) 1))] : (List T_Link))).bind fun r51 =>
 k34 (T_Topo.mk s33.Switches r51 s33.Hosts)) (fun (i37 : Int) (s33 : T_Topo) =>
 some (s33)) (T_Topo.mk a0 [] [])).bind fun (s6 : T_Topo) =>
 (oapp s6.Hosts ([(T_Host.mk (ByteArray.mk #[97]) (T_Spot.mk 1 3))] : (List T_Host))).bind fun r14 =>
 (oapp r14 ([(T_Host.mk (ByteArray.mk #[98]) (T_Spot.mk a0 4))] : (List T_Host))).bind fun r23 =>
 some (T_Topo.mk s6.Switches s6.Links r23)
theorem ty_raillaw4_line {n : Nat} (hn : bigN ≤ n) (a0 : Int) : Rv (fun x : T_Topo => (T_Topo.e x)) (sem_raillaw4_line n [(vi a0)]) (t_raillaw4_line a0) := by
  rw [eq_raillaw4_line]
  unfold t_raillaw4_line
  refine tb (x := (V.agg [(vi a0), (V.lit (Go.Value.slice none 0 0)), (V.lit (Go.Value.slice none 0 0))])) (by kernel_rfl) ?_
  refine tb (x := [(vi a0), (V.lit (Go.Value.slice none 0 0)), (V.lit (Go.Value.slice none 0 0))]) rfl ?_
  refine tb (x := (V.obj [(vi a0), (V.lit (Go.Value.slice none 0 0)), (V.lit (Go.Value.slice none 0 0))])) (by kernel_rfl) ?_
  refine tb (x := (V.obj [(vi a0), (V.osl 4 (List.map T_Link.c ([] : (List T_Link)))), (V.lit (Go.Value.slice none 0 0))])) (by kernel_rfl) ?_
  refine tb (x := (V.obj [(vi a0), (V.osl 4 (List.map T_Link.c ([] : (List T_Link)))), (V.osl 3 (List.map T_Host.c ([] : (List T_Host))))])) (by kernel_rfl) ?_
  refine tjb (mk := fun s6 : T_Topo => [(V.obj [(vi s6.Switches), (V.osl 4 (List.map T_Link.c s6.Links)), (V.osl 3 (List.map T_Host.c s6.Hosts))])]) (fun J5 => ?_) fun s6 => ?_
  · refine tkeepO2 ?_ rfl
    refine tsome ?_
    refine rf_loopU (mk := fun (i37 : Int) (s33 : T_Topo) => [(V.obj [(vi s33.Switches), (V.osl 4 (List.map T_Link.c s33.Links)), (V.osl 3 (List.map T_Host.c s33.Hosts))]), (vi i37)]) hn _ _ (T_Topo.mk a0 [] []) (fun i37 h38 h39 h40 s33 rec31 k34 h35 => ?_) (fun i37 s33 rec42 h41 => ?_)
    · refine tb (x := (vb (decide (i37 < a0)))) (d_lss) ?_
      refine tcond_t h38 ?_
      refine tb (x := V.any) rfl ?_
      refine tb (x := V.any) rfl ?_
      refine tb (x := (T_Spot.e (T_Spot.mk i37 2))) (by kernel_rfl) ?_
      refine tb (x := (vi (i37 + 1))) (p_inc h39 h40) ?_
      refine tb (x := (T_Spot.e (T_Spot.mk (i37 + 1) 1))) (by kernel_rfl) ?_
      refine tb (x := (T_Link.e (T_Link.mk (T_Spot.mk i37 2) (T_Spot.mk (i37 + 1) 1)))) (by kernel_rfl) ?_
      refine tb (x := (V.sl (List.map T_Link.c ([(T_Link.mk (T_Spot.mk i37 2) (T_Spot.mk (i37 + 1) 1))] : (List T_Link))))) (by kernel_rfl) ?_
      refine tb (x := (V.osl 4 (List.map T_Link.c s33.Links))) rfl ?_
      refine tb (x := (V.obj [(vi s33.Switches), V.any, (V.osl 3 (List.map T_Host.c s33.Hosts))])) (by kernel_rfl) ?_
      refine tbo (p_oapp (c := T_Link.c) (fun _ => rfl) s33.Links ([(T_Link.mk (T_Spot.mk i37 2) (T_Spot.mk (i37 + 1) 1))] : (List T_Link))) fun r51 => ?_
      refine tb (x := V.any) rfl ?_
      refine tb (x := [(V.osl 4 (List.map T_Link.c r51))]) rfl ?_
      refine tb (x := (V.obj [(vi s33.Switches), (V.osl 4 (List.map T_Link.c r51)), (V.osl 3 (List.map T_Host.c s33.Hosts))])) (by kernel_rfl) ?_
      refine tb (x := (vi (i37 + 1))) (p_inc h39 h40) ?_
      refine tkeepO2 ?_ rfl
      refine tsome ?_
      exact h35 (T_Topo.mk s33.Switches r51 s33.Hosts)
    · refine tb (x := (vb (decide (i37 < a0)))) (d_lss) ?_
      refine tcond_f h41 ?_
      refine tkeepO2 ?_ rfl
      refine tsome ?_
      exact rf_j rfl
  · refine tb (x := V.any) rfl ?_
    refine tb (x := V.any) rfl ?_
    refine tb (x := (T_Spot.e (T_Spot.mk 1 3))) (by kernel_rfl) ?_
    refine tb (x := (T_Host.e (T_Host.mk (ByteArray.mk #[97]) (T_Spot.mk 1 3)))) (by kernel_rfl) ?_
    refine tb (x := (V.sl (List.map T_Host.c ([(T_Host.mk (ByteArray.mk #[97]) (T_Spot.mk 1 3))] : (List T_Host))))) (by kernel_rfl) ?_
    refine tb (x := (V.osl 3 (List.map T_Host.c s6.Hosts))) rfl ?_
    refine tb (x := (V.obj [(vi s6.Switches), (V.osl 4 (List.map T_Link.c s6.Links)), V.any])) (by kernel_rfl) ?_
    refine tbo (p_oapp (c := T_Host.c) (fun _ => rfl) s6.Hosts ([(T_Host.mk (ByteArray.mk #[97]) (T_Spot.mk 1 3))] : (List T_Host))) fun r14 => ?_
    refine tb (x := V.any) rfl ?_
    refine tb (x := [(V.osl 3 (List.map T_Host.c r14))]) rfl ?_
    refine tb (x := (V.obj [(vi s6.Switches), (V.osl 4 (List.map T_Link.c s6.Links)), (V.osl 3 (List.map T_Host.c r14))])) (by kernel_rfl) ?_
    refine tb (x := V.any) rfl ?_
    refine tb (x := V.any) rfl ?_
    refine tb (x := (T_Spot.e (T_Spot.mk a0 4))) (by kernel_rfl) ?_
    refine tb (x := (T_Host.e (T_Host.mk (ByteArray.mk #[98]) (T_Spot.mk a0 4)))) (by kernel_rfl) ?_
    refine tb (x := (V.sl (List.map T_Host.c ([(T_Host.mk (ByteArray.mk #[98]) (T_Spot.mk a0 4))] : (List T_Host))))) (by kernel_rfl) ?_
    refine tb (x := (V.osl 3 (List.map T_Host.c r14))) rfl ?_
    refine tb (x := (V.obj [(vi s6.Switches), (V.osl 4 (List.map T_Link.c s6.Links)), V.any])) (by kernel_rfl) ?_
    refine tbo (p_oapp (c := T_Host.c) (fun _ => rfl) r14 ([(T_Host.mk (ByteArray.mk #[98]) (T_Spot.mk a0 4))] : (List T_Host))) fun r23 => ?_
    refine tb (x := V.any) rfl ?_
    refine tb (x := [(V.osl 3 (List.map T_Host.c r23))]) rfl ?_
    refine tb (x := (V.obj [(vi s6.Switches), (V.osl 4 (List.map T_Link.c s6.Links)), (V.osl 3 (List.map T_Host.c r23))])) (by kernel_rfl) ?_
    refine tb (x := (V.ptr (T_Topo.c (T_Topo.mk s6.Switches s6.Links r23)))) (p_frzP (p_fzc rfl (p_fzc (p_frzl (c' := T_Link.c) (fun _ => rfl) _) (p_fzc (p_frzl (c' := T_Host.c) (fun _ => rfl) _) p_fz0)))) ?_
    refine tb (x := (T_Topo.e (T_Topo.mk s6.Switches s6.Links r23))) (rfl) ?_
    refine tb (x := V.agg (T_Topo.c (T_Topo.mk s6.Switches s6.Links r23))) (by kernel_rfl) ?_
    refine tb (x := (T_Topo.e (T_Topo.mk s6.Switches s6.Links r23))) rfl ?_
    exact rf_ret rfl

/-! railpoint/topo.Spot -/
def an_topo_Spot : Ann := .seq (.reg 0 [] [] []) (.seq (.reg 0 [] [] []) (.no))
noncomputable def sem_topo_Spot (n : Nat) (xs : List V) : Option V := if xs.length ≤ 25 then denF Try.prog (envOf []) n Try.f35 an_topo_Spot xs else none
theorem ok_topo_Spot (n : Nat) : SemOk Try.prog DW 35 (sem_topo_Spot n) := fun xs y h => by
  unfold sem_topo_Spot at h
  split at h
  · rename_i hl
    exact denF_ok stb Try.func35 (by kernel_rfl) (envOf_ok semsOk_nil) (by rw [Try.ntmps35]; exact hl) h
  · cases h
theorem eq_topo_Spot (n : Nat) (x0 x1 : V) : sem_topo_Spot n [x0, x1] =
 (V.cellsO x0).bind fun v1 =>
 (V.cellsO x1).bind fun v2 =>
 (ldk none (List.drop 0 v2)).bind fun v3 =>
 (bin2 Try.prog BinOp.geq 3 (ot 6) (oc 1) v3 (vi 1)).bind fun v4 =>
 (guardV v4 true (some V.any)).bind fun v5 =>
 (guardV v4 true ((gate v4 true (ldk none (List.drop 0 v2))).bind fun v6 =>
 some v6)).bind fun v7 =>
 (guardV v4 true (some V.any)).bind fun v8 =>
 (guardV v4 true ((gate v4 true (ldk none (List.drop 0 v1))).bind fun v9 =>
 some v9)).bind fun v10 =>
 (guardV v4 true ((bin2 Try.prog BinOp.leq 3 (ot 10) (ot 12) v7 v10).bind fun v11 =>
 some v11)).bind fun v12 =>
 (pickV v4 v12 (vb false)).bind fun v13 =>
 (guardV v13 true (some V.any)).bind fun v14 =>
 (guardV v13 true ((gate v13 true (ldk none (List.drop 1 v2))).bind fun v15 =>
 some v15)).bind fun v16 =>
 (guardV v13 true ((bin2 Try.prog BinOp.geq 3 (ot 17) (oc 1) v16 (vi 1)).bind fun v17 =>
 some v17)).bind fun v18 =>
 (pickV v13 v18 (vb false)).bind fun v19 =>
 (guardV v19 true (some V.any)).bind fun v20 =>
 (guardV v19 true ((gate v19 true (ldk none (List.drop 1 v2))).bind fun v21 =>
 some v21)).bind fun v22 =>
 (guardV v19 true ((bin2 Try.prog BinOp.leq 3 (ot 22) (oc 4) v22 (vi 4)).bind fun v23 =>
 some v23)).bind fun v24 =>
 (pickV v19 v24 (vb false)).bind fun v25 =>
 some v25 := by kernel_rfl
noncomputable def t_topo_Spot (a0 : T_Topo) (a1 : T_Spot) : Option Bool :=
 some ((((decide (1 ≤ a1.Switch)) && (decide (a1.Switch ≤ a0.Switches))) && (decide (1 ≤ a1.Port))) && (decide (a1.Port ≤ 4)))
theorem ty_topo_Spot {n : Nat} (hn : bigN ≤ n) (a0 : T_Topo) (a1 : T_Spot) : Rv (fun x : Bool => (vb x)) (sem_topo_Spot n [(T_Topo.e a0), (T_Spot.e a1)]) (t_topo_Spot a0 a1) := by
  rw [eq_topo_Spot]
  unfold t_topo_Spot
  refine tb (x := (T_Topo.c a0)) rfl ?_
  refine tb (x := (T_Spot.c a1)) rfl ?_
  refine tb (x := (vi a1.Switch)) (rfl) ?_
  refine tb (x := (vb (decide (1 ≤ a1.Switch)))) (d_geq) ?_
  refine tg (x := V.any) (fun h5 => rfl) ?_
  refine tg (x := (vi a1.Switch)) (fun h7 => bind_some_eq (gate_pos h7 (rfl))) ?_
  refine tg (x := V.any) (fun h10 => rfl) ?_
  refine tg (x := (vi a0.Switches)) (fun h12 => bind_some_eq (gate_pos h12 (rfl))) ?_
  refine tg (x := (vb (decide (a1.Switch ≤ a0.Switches)))) (fun h15 => by simp only [gv_t h15]; exact bind_some_eq (d_leq)) ?_
  refine tb (x := (vb ((decide (1 ≤ a1.Switch)) && (decide (a1.Switch ≤ a0.Switches))))) (pick_and (fun h9 => gv_t h9)) ?_
  refine tg (x := V.any) (fun h19 => rfl) ?_
  refine tg (x := (vi a1.Port)) (fun h21 => bind_some_eq (gate_pos h21 (rfl))) ?_
  refine tg (x := (vb (decide (1 ≤ a1.Port)))) (fun h24 => by simp only [gv_t h24]; exact bind_some_eq (d_geq)) ?_
  refine tb (x := (vb (((decide (1 ≤ a1.Switch)) && (decide (a1.Switch ≤ a0.Switches))) && (decide (1 ≤ a1.Port))))) (pick_and (fun h9 => gv_t h9)) ?_
  refine tg (x := V.any) (fun h28 => rfl) ?_
  refine tg (x := (vi a1.Port)) (fun h30 => bind_some_eq (gate_pos h30 (rfl))) ?_
  refine tg (x := (vb (decide (a1.Port ≤ 4)))) (fun h33 => by simp only [gv_t h33]; exact bind_some_eq (d_leq)) ?_
  refine tb (x := (vb ((((decide (1 ≤ a1.Switch)) && (decide (a1.Switch ≤ a0.Switches))) && (decide (1 ≤ a1.Port))) && (decide (a1.Port ≤ 4))))) (pick_and (fun h9 => gv_t h9)) ?_
  exact rf_ret rfl

/-! railpoint/topo.Name -/
def an_topo_Name : Ann := .seq (.reg 0 [] [] []) (.seq (.seq (.reg 0 [] [] []) (.blk (some []) (.loop [.s 8] (.seq (.reg 0 [] [] []) (.seq (.cond none (.no) (.no)) (.seq (.blk none (.seq (.reg 0 [] [] []) (.seq (.reg 0 [] [] []) (.cond none (.seq (.reg 0 [] [] []) (.no)) (.no))))) (.reg 0 [] [] []))))))) (.seq (.reg 0 [] [] []) (.no)))
noncomputable def sem_topo_Name (n : Nat) (xs : List V) : Option V := if xs.length ≤ 26 then denF Try.prog (envOf []) n Try.f36 an_topo_Name xs else none
theorem ok_topo_Name (n : Nat) : SemOk Try.prog DW 36 (sem_topo_Name n) := fun xs y h => by
  unfold sem_topo_Name at h
  split at h
  · rename_i hl
    exact denF_ok stb Try.func36 (by kernel_rfl) (envOf_ok semsOk_nil) (by rw [Try.ntmps36]; exact hl) h
  · cases h
theorem eq_topo_Name (n : Nat) (x0 : V) : sem_topo_Name n [x0] =
 (s2b x0).bind fun v1 =>
 (lenS [v1]).bind fun v2 =>
 JoinPt (fun vs3 =>
 (bin2 Try.prog BinOp.neq 9 (ot 19) (Operand.const (Go.Value.string (ByteArray.mk #[]))) x0 (V.lit (Go.Value.string (ByteArray.mk #[])))).bind fun v5 =>
 (guardV v5 true (some x0)).bind fun v6 =>
 (guardV v5 true ((lenT [v6]).bind fun v7 =>
 some v7)).bind fun v8 =>
 (guardV v5 true ((bin2 Try.prog BinOp.leq 3 (ot 23) (oc 6) v8 (vi 6)).bind fun v9 =>
 some v9)).bind fun v10 =>
 (pickV v5 v10 (vb false)).bind fun v11 =>
 some v11) fun J4 =>
 (fixN (fun rec12 vs13 =>
 (bin2 Try.prog BinOp.lss 3 (ot 8) (ot 7) (List.getD vs13 0 V.any) v2).bind fun v14 =>
 condV v14 (
 (idxS 1 v1 (List.getD vs13 0 V.any)).bind fun v15 =>
 (ldp none v15).bind fun v16 =>
 (bin2 Try.prog BinOp.lss 5 (ot 12) (Operand.const (Go.Value.int Go.IntKind.u8 97)) v16 (V.lit (Go.Value.int Go.IntKind.u8 97))).bind fun v17 =>
 (guardV v17 false (some v16)).bind fun v18 =>
 (guardV v17 false ((bin2 Try.prog BinOp.gtr 5 (ot 15) (Operand.const (Go.Value.int Go.IntKind.u8 122)) v18 (V.lit (Go.Value.int Go.IntKind.u8 122))).bind fun v19 =>
 some v19)).bind fun v20 =>
 (pickV v17 (vb true) v20).bind fun v21 =>
 condV v21 (
 some (vb false)) (
 (bin2 Try.prog BinOp.add 3 (ot 8) (oc 1) (List.getD vs13 0 V.any) (vi 1)).bind fun v22 =>
 rec12 [v22])) (
 J4 [])) n) [(vi 0)] := by kernel_rfl
noncomputable def t_topo_Name (a0 : ByteArray) : Option Bool :=
 need (decide ((a0.size : Int) ≤ maxI)) (
 join (fun (s5 : Unit) =>
 some ((!decide (a0 = (ByteArray.mk #[]))) && (decide ((a0.size : Int) ≤ 6)))) fun j6 =>
 loopI (numsOf a0) (fun (i24 : Int) x25 (s20 : Unit) k21 =>
 if ((decide (x25 < 97)) || (decide (122 < x25))) = true then (
 some false) else (
 k21 ())) (fun (s20 : Unit) =>
 j6 ()) ())
theorem ty_topo_Name {n : Nat} (hn : bigN ≤ n) (a0 : ByteArray) : Rv (fun x : Bool => (vb x)) (sem_topo_Name n [(vt a0)]) (t_topo_Name a0) := by
  rw [eq_topo_Name]
  unfold t_topo_Name
  refine tneed (x := (V.sl (List.map cY (numsOf a0)))) (fun h44 => p_s2b h44) fun h44 => ?_
  refine tb (x := (vi (List.length (numsOf a0) : Int))) (p_len _) ?_
  refine tjoin (mk := fun s5 : Unit => []) (fun s5 => ?_) fun J4 j6 h7 => ?_
  · refine tb (x := (vb (!decide (a0 = (ByteArray.mk #[]))))) (p_neq_str) ?_
    refine tg (x := (vt a0)) (fun h9 => rfl) ?_
    refine tg (x := (vi (a0.size : Int))) (fun h11 => by simp only [gv_t h11]; exact bind_some_eq (rfl)) ?_
    refine tg (x := (vb (decide ((a0.size : Int) ≤ 6)))) (fun h14 => by simp only [gv_t h14]; exact bind_some_eq (d_leq)) ?_
    refine tb (x := (vb ((!decide (a0 = (ByteArray.mk #[]))) && (decide ((a0.size : Int) ≤ 6))))) (pick_and (fun h9 => gv_t h9)) ?_
    exact rf_ret rfl
  · refine rf_loopI (mk := fun (i24 : Int) (s20 : Unit) => [(vi (i24 : Int))]) hn (numsOf a0) () (fun i24 x25 h26 h27 h28 s20 rec18 k21 h22 => ?_) (fun s20 rec42 h41 => ?_)
    · refine tb (x := (vb (decide ((i24 : Int) < (List.length (numsOf a0) : Int))))) (d_lss) ?_
      refine tcond_t h28 ?_
      refine tb (x := (V.ptr [(V.lit (.int .u8 x25))])) (p_idx_at (c := cY) (fun _ => rfl) h26) ?_
      refine tb (x := (V.lit (.int .u8 x25))) (rfl) ?_
      refine tb (x := (vb (decide (x25 < 97)))) (q_lss) ?_
      refine tg_f (x := (V.lit (.int .u8 x25))) (fun h33 => rfl) ?_
      refine tg_f (x := (vb (decide (122 < x25)))) (fun h35 => by simp only [gv_t h35]; exact bind_some_eq (q_gtr)) ?_
      refine tb (x := (vb ((decide (x25 < 97)) || (decide (122 < x25))))) (pick_or (fun h9 => gv_t (not_f h9))) ?_
      refine tcond (fun h39 => ?_) (fun h39 => ?_)
      · exact rf_ret rfl
      · refine tb (x := (vi ((i24 : Int) + 1))) (p_incN h27) ?_
        exact h22 ()
    · refine tb (x := (vb (decide ((List.length (numsOf a0) : Int) < (List.length (numsOf a0) : Int))))) (d_lss) ?_
      refine tcond_f h41 ?_
      exact h7 ()

/-! railpoint/topo.Check -/
def an_topo_Check : Ann := .seq (.reg 0 [] [] []) (.seq (.blk none (.seq (.reg 0 [] [] []) (.cond none (.seq (.reg 0 [] [] []) (.no)) (.seq (.reg 0 [] [] []) (.cond none (.seq (.reg 0 [] [] []) (.no)) (.no)))))) (.seq (.reg 0 [] [] []) (.seq (.seq (.reg 0 [] [] []) (.blk (some [.kb 1, .o 3]) (.loop [.kb 1, .o 3, .s 35] (.seq (.reg 0 [] [] []) (.seq (.cond none (.no) (.no)) (.seq (.blk none (.seq (.reg 0 [] [] []) (.seq (.seq (.reg 0 [] [] []) (.cond none (.seq (.reg 0 [] [] []) (.no)) (.no))) (.seq (.seq (.reg 0 [] [] []) (.cond none (.seq (.reg 0 [] [] []) (.no)) (.no))) (.reg 72 [] [] []))))) (.reg 0 [] [] []))))))) (.seq (.reg 0 [] [] []) (.seq (.seq (.reg 0 [] [] []) (.blk (some []) (.loop [.kb 1, .o 3, .o 6, .s 81] (.seq (.reg 0 [] [] []) (.seq (.cond none (.no) (.no)) (.seq (.blk none (.seq (.reg 0 [] [] []) (.seq (.blk none (.seq (.reg 0 [] [] []) (.cond none (.seq (.reg 0 [] [] []) (.no)) (.seq (.reg 0 [] [] []) (.cond none (.seq (.reg 0 [] [] []) (.no)) (.seq (.reg 0 [] [] []) (.cond none (.seq (.reg 0 [] [] []) (.no)) (.no)))))))) (.reg 72 [] [] [])))) (.reg 0 [] [] []))))))) (.seq (.reg 0 [] [] []) (.no)))))))
noncomputable def sem_topo_Check (n : Nat) (xs : List V) : Option V := if xs.length ≤ 117 then denF Try.prog (envOf [(35, (sem_topo_Spot n)), (36, (sem_topo_Name n))]) n Try.f14 an_topo_Check xs else none
theorem ok_topo_Check (n : Nat) : SemOk Try.prog DW 14 (sem_topo_Check n) := fun xs y h => by
  unfold sem_topo_Check at h
  split at h
  · rename_i hl
    exact denF_ok stb Try.func14 (by kernel_rfl) (envOf_ok (semsOk_cons (ok_topo_Spot n) (semsOk_cons (ok_topo_Name n) semsOk_nil))) (by rw [Try.ntmps14]; exact hl) h
  · cases h
theorem eq_topo_Check (n : Nat) (x0 : V) : sem_topo_Check n [x0] =
 (V.cellsO x0).bind fun v1 =>
 (ldk none (List.drop 0 v1)).bind fun v2 =>
 (bin2 Try.prog BinOp.lss 3 (ot 11) (oc 1) v2 (vi 1)).bind fun v3 =>
 (guardV v3 false (some V.any)).bind fun v4 =>
 (guardV v3 false ((gate v3 false (ldk none (List.drop 0 v1))).bind fun v5 =>
 some v5)).bind fun v6 =>
 (guardV v3 false ((bin2 Try.prog BinOp.gtr 3 (ot 15) (oc 6) v6 (vi 6)).bind fun v7 =>
 some v7)).bind fun v8 =>
 (pickV v3 (vb true) v8).bind fun v9 =>
 condV v9 (
 (scal1 Try.prog (Instr.makeInterface 79) (vi 1)).bind fun v10 =>
 some v10) (
 (ldk none (List.drop 1 v1)).bind fun v11 =>
 (lenS [v11]).bind fun v12 =>
 (bin2 Try.prog BinOp.gtr 3 (ot 22) (oc 200) v12 (vi 200)).bind fun v13 =>
 (guardV v13 false (some V.any)).bind fun v14 =>
 (guardV v13 false ((gate v13 false (ldk none (List.drop 2 v1))).bind fun v15 =>
 some v15)).bind fun v16 =>
 (guardV v13 false ((lenS [v16]).bind fun v17 =>
 some v17)).bind fun v18 =>
 (guardV v13 false ((bin2 Try.prog BinOp.gtr 3 (ot 27) (oc 8) v18 (vi 8)).bind fun v19 =>
 some v19)).bind fun v20 =>
 (pickV v13 (vb true) v20).bind fun v21 =>
 condV v21 (
 (scal1 Try.prog (Instr.makeInterface 79) (vi 4)).bind fun v22 =>
 some v22) (
 (ldk none (List.drop 1 v1)).bind fun v23 =>
 (lenS [v23]).bind fun v24 =>
 JoinPt (fun vs25 =>
 (ldk none (List.drop 2 v1)).bind fun v27 =>
 (lenS [v27]).bind fun v28 =>
 JoinPt (fun vs29 =>
 some vn) fun J30 =>
 (keepO (some v1) (some v1) (some [(List.getD vs25 0 V.any), (V.mp []), (vi 0)])).bind (fixN (fun rec31 vs32 =>
 (bin2 Try.prog BinOp.lss 3 (ot 81) (ot 80) (List.getD vs32 2 V.any) v28).bind fun v33 =>
 condV v33 (
 (idxS 3 v27 (List.getD vs32 2 V.any)).bind fun v34 =>
 (ldp (some 3) v34).bind fun v35 =>
 (spliceV [(V.lit (Go.Value.string (ByteArray.mk #[]))), (vi 0), (vi 0)] 0 3 v35).bind fun v36 =>
 (ldk none (List.drop 0 (aggL v36))).bind fun v37 =>
 ((sem_topo_Name n) [v37]).bind fun v38 =>
 (scal1 Try.prog (Op.unary Go.UnOp.not) v38).bind fun v39 =>
 condV v39 (
 (scal1 Try.prog (Instr.makeInterface 79) (vi 2)).bind fun v40 =>
 some v40) (
 (ldk (some 3) (List.drop 0 v1)).bind fun v41 =>
 (ldk (some 2) (List.drop 1 (aggL v36))).bind fun v42 =>
 ((sem_topo_Spot n) [v41, v42]).bind fun v43 =>
 (scal1 Try.prog (Op.unary Go.UnOp.not) v43).bind fun v44 =>
 condV v44 (
 (scal1 Try.prog (Instr.makeInterface 79) (vi 1)).bind fun v45 =>
 some v45) (
 (ldk none (List.drop 0 (aggL v36))).bind fun v46 =>
 (lookV Try.prog 96 false (List.getD vs32 1 V.any) v46).bind fun v47 =>
 (guardV v47 false (some V.any)).bind fun v48 =>
 (guardV v47 false (some V.any)).bind fun v49 =>
 (guardV v47 false ((gate v47 false (ldk (some 2) (List.drop 1 (aggL v36)))).bind fun v50 =>
 some v50)).bind fun v51 =>
 (guardV v47 false ((gate v47 false (lookV Try.prog 94 false (List.getD vs32 0 V.any) v51)).bind fun v52 =>
 some v52)).bind fun v53 =>
 (pickV v47 (vb true) v53).bind fun v54 =>
 condV v54 (
 (scal1 Try.prog (Instr.makeInterface 79) (vi 7)).bind fun v55 =>
 some v55) (
 (ldk none (List.drop 0 (aggL v36))).bind fun v56 =>
 (litV v56).bind fun v57 =>
 (ldk (some 2) (List.drop 1 (aggL v36))).bind fun v58 =>
 (litV v58).bind fun v59 =>
 (putV Try.prog 96 (List.getD vs32 1 V.any) v57 (vb true)).bind fun v60 =>
 (putV Try.prog 94 (List.getD vs32 0 V.any) v59 (vb true)).bind fun v61 =>
 (bin2 Try.prog BinOp.add 3 (ot 81) (oc 1) (List.getD vs32 2 V.any) (vi 1)).bind fun v62 =>
 (keepO (some v1) (some v1) (some [v61, v60, v62])).bind rec31)))) (
 J30 [])) n)) fun J26 =>
 (keepO (some v1) (some v1) (some [(V.mp []), (vi 0)])).bind (fixN (fun rec63 vs64 =>
 (bin2 Try.prog BinOp.lss 3 (ot 35) (ot 34) (List.getD vs64 1 V.any) v24).bind fun v65 =>
 condV v65 (
 (idxS 4 v23 (List.getD vs64 1 V.any)).bind fun v66 =>
 (ldp (some 4) v66).bind fun v67 =>
 (spliceV [(vi 0), (vi 0), (vi 0), (vi 0)] 0 4 v67).bind fun v68 =>
 (ldk (some 3) (List.drop 0 v1)).bind fun v69 =>
 (ldk (some 2) (List.drop 0 (aggL v68))).bind fun v70 =>
 ((sem_topo_Spot n) [v69, v70]).bind fun v71 =>
 (scal1 Try.prog (Op.unary Go.UnOp.not) v71).bind fun v72 =>
 (guardV v72 false ((ldk (some 3) (List.drop 0 v1)).bind fun v73 =>
 some v73)).bind fun v74 =>
 (guardV v72 false (some V.any)).bind fun v75 =>
 (guardV v72 false ((gate v72 false (ldk (some 2) (List.drop 2 (aggL v68)))).bind fun v76 =>
 some v76)).bind fun v77 =>
 (guardV v72 false (((sem_topo_Spot n) [v74, v77]).bind fun v78 =>
 some v78)).bind fun v79 =>
 (guardV v72 false ((scal1 Try.prog (Op.unary Go.UnOp.not) v79).bind fun v80 =>
 some v80)).bind fun v81 =>
 (pickV v72 (vb true) v81).bind fun v82 =>
 condV v82 (
 (scal1 Try.prog (Instr.makeInterface 79) (vi 1)).bind fun v83 =>
 some v83) (
 (ldk (some 2) (List.drop 0 (aggL v68))).bind fun v84 =>
 (lookV Try.prog 94 false (List.getD vs64 0 V.any) v84).bind fun v85 =>
 (guardV v85 false (some V.any)).bind fun v86 =>
 (guardV v85 false (some V.any)).bind fun v87 =>
 (guardV v85 false ((gate v85 false (ldk (some 2) (List.drop 2 (aggL v68)))).bind fun v88 =>
 some v88)).bind fun v89 =>
 (guardV v85 false ((gate v85 false (lookV Try.prog 94 false (List.getD vs64 0 V.any) v89)).bind fun v90 =>
 some v90)).bind fun v91 =>
 (pickV v85 (vb true) v91).bind fun v92 =>
 (guardV v92 false (some V.any)).bind fun v93 =>
 (guardV v92 false ((gate v92 false (ldk (some 2) (List.drop 0 (aggL v68)))).bind fun v94 =>
 some v94)).bind fun v95 =>
 (guardV v92 false (some V.any)).bind fun v96 =>
 (guardV v92 false ((gate v92 false (ldk (some 2) (List.drop 2 (aggL v68)))).bind fun v97 =>
 some v97)).bind fun v98 =>
 (guardV v92 false ((bin2 Try.prog BinOp.eql 51 (ot 64) (ot 66) v95 v98).bind fun v99 =>
 some v99)).bind fun v100 =>
 (pickV v92 (vb true) v100).bind fun v101 =>
 condV v101 (
 (scal1 Try.prog (Instr.makeInterface 79) (vi 7)).bind fun v102 =>
 some v102) (
 (ldk (some 2) (List.drop 0 (aggL v68))).bind fun v103 =>
 (litV v103).bind fun v104 =>
 (ldk (some 2) (List.drop 2 (aggL v68))).bind fun v105 =>
 (litV v105).bind fun v106 =>
 (putV Try.prog 94 (List.getD vs64 0 V.any) v104 (vb true)).bind fun v107 =>
 (putV Try.prog 94 v107 v106 (vb true)).bind fun v108 =>
 (bin2 Try.prog BinOp.add 3 (ot 35) (oc 1) (List.getD vs64 1 V.any) (vi 1)).bind fun v109 =>
 (keepO (some v1) (some v1) (some [v108, v109])).bind rec63))) (
 (keepO (some v1) (some v1) (some [(List.getD vs64 0 V.any)])).bind J26)) n))) := by kernel_rfl
noncomputable def t_topo_Check (a0 : T_Topo) : Option Int :=
 if ((decide (a0.Switches < 1)) || (decide (6 < a0.Switches))) = true then (
 some 1) else (
 if ((decide (200 < (List.length a0.Links : Int))) || (decide (8 < (List.length a0.Hosts : Int)))) = true then (
 some 4) else (
 join (fun (s36 : (List (T_Spot × Bool))) =>
 join (fun (s43 : Unit) =>
 some 0) fun j44 =>
 loopI a0.Hosts (fun (i52 : Int) x53 (s48 : ((List (T_Spot × Bool)) × (List (ByteArray × Bool)))) k49 =>
 (t_topo_Name x53.Name).bind fun r63 =>
 if (!r63) = true then (
 some 2) else (
 (t_topo_Spot a0 x53.At).bind fun r70 =>
 if (!r70) = true then (
 some 1) else (
 if ((mget s48.2 x53.Name false) || (mget s48.1 x53.At false)) = true then (
 some 7) else (
 k49 ((mput s48.1 x53.At true), (mput s48.2 x53.Name true)))))) (fun (s48 : ((List (T_Spot × Bool)) × (List (ByteArray × Bool)))) =>
 j44 ()) (s36, [])) fun j37 =>
 loopI a0.Links (fun (i105 : Int) x106 (s101 : (List (T_Spot × Bool))) k102 =>
 (t_topo_Spot a0 x106.A).bind fun r117 =>
 (gd (!(!r117)) default (t_topo_Spot a0 x106.B)).bind fun r130 =>
 if ((!r117) || (!r130)) = true then (
 some 1) else (
 if (((mget s101 x106.A false) || (mget s101 x106.B false)) || (decide (x106.A = x106.B))) = true then (
 some 7) else (
 k102 (mput (mput s101 x106.A true) x106.B true)))) (fun (s101 : (List (T_Spot × Bool))) =>
 j37 (s101)) ([])))
theorem ty_topo_Check {n : Nat} (hn : bigN ≤ n) (a0 : T_Topo) : Rv (fun x : Int => (eV x)) (sem_topo_Check n [(T_Topo.e a0)]) (t_topo_Check a0) := by
  rw [eq_topo_Check]
  unfold t_topo_Check
  refine tb (x := (T_Topo.c a0)) rfl ?_
  refine tb (x := (vi a0.Switches)) (rfl) ?_
  refine tb (x := (vb (decide (a0.Switches < 1)))) (d_lss) ?_
  refine tg_f (x := V.any) (fun h4 => rfl) ?_
  refine tg_f (x := (vi a0.Switches)) (fun h6 => bind_some_eq (gate_pos (not_t h6) (rfl))) ?_
  refine tg_f (x := (vb (decide (6 < a0.Switches)))) (fun h9 => by simp only [gv_t h9]; exact bind_some_eq (d_gtr)) ?_
  refine tb (x := (vb ((decide (a0.Switches < 1)) || (decide (6 < a0.Switches))))) (pick_or (fun h9 => gv_t (not_f h9))) ?_
  refine tcond (fun h13 => ?_) (fun h13 => ?_)
  · refine tb (x := (eV 1)) (p_mkE (by decide)) ?_
    exact rf_ret rfl
  · refine tb (x := (V.sl (List.map T_Link.c a0.Links))) (rfl) ?_
    refine tb (x := (vi (List.length a0.Links : Int))) (p_len _) ?_
    refine tb (x := (vb (decide (200 < (List.length a0.Links : Int))))) (d_gtr) ?_
    refine tg_f (x := V.any) (fun h18 => rfl) ?_
    refine tg_f (x := (V.sl (List.map T_Host.c a0.Hosts))) (fun h20 => bind_some_eq (gate_pos (not_t h20) (rfl))) ?_
    refine tg_f (x := (vi (List.length a0.Hosts : Int))) (fun h23 => by simp only [gv_t h23]; exact bind_some_eq (p_len _)) ?_
    refine tg_f (x := (vb (decide (8 < (List.length a0.Hosts : Int))))) (fun h26 => by simp only [gv_t h26]; exact bind_some_eq (d_gtr)) ?_
    refine tb (x := (vb ((decide (200 < (List.length a0.Links : Int))) || (decide (8 < (List.length a0.Hosts : Int)))))) (pick_or (fun h9 => gv_t (not_f h9))) ?_
    refine tcond (fun h30 => ?_) (fun h30 => ?_)
    · refine tb (x := (eV 4)) (p_mkE (by decide)) ?_
      exact rf_ret rfl
    · refine tb (x := (V.sl (List.map T_Link.c a0.Links))) (rfl) ?_
      refine tb (x := (vi (List.length a0.Links : Int))) (p_len _) ?_
      refine tjoin (mk := fun s36 : (List (T_Spot × Bool)) => [(V.mp (mrep T_Spot.val (fun b : Bool => Go.Value.bool b) s36))]) (fun s36 => ?_) fun J35 j37 h38 => ?_
      · refine tb (x := (V.sl (List.map T_Host.c a0.Hosts))) (rfl) ?_
        refine tb (x := (vi (List.length a0.Hosts : Int))) (p_len _) ?_
        refine tjoin (mk := fun s43 : Unit => []) (fun s43 => ?_) fun J42 j44 h45 => ?_
        · exact rf_ret rfl
        · refine tkeepO2 ?_ rfl
          refine tsome ?_
          refine rf_loopI (mk := fun (i52 : Int) (s48 : ((List (T_Spot × Bool)) × (List (ByteArray × Bool)))) => [(V.mp (mrep T_Spot.val (fun b : Bool => Go.Value.bool b) s48.1)), (V.mp (mrep (fun b : ByteArray => Go.Value.string b) (fun b : Bool => Go.Value.bool b) s48.2)), (vi (i52 : Int))]) hn a0.Hosts (s36, []) (fun i52 x53 h54 h55 h56 s48 rec46 k49 h50 => ?_) (fun s48 rec97 h96 => ?_)
          · refine tb (x := (vb (decide ((i52 : Int) < (List.length a0.Hosts : Int))))) (d_lss) ?_
            refine tcond_t h56 ?_
            refine tb (x := (V.ptr (T_Host.c x53))) (p_idx_at (c := T_Host.c) (fun _ => rfl) h54) ?_
            refine tb (x := (T_Host.e x53)) (rfl) ?_
            refine tb (x := V.agg (T_Host.c x53)) (by kernel_rfl) ?_
            refine tb (x := (vt x53.Name)) (rfl) ?_
            refine tbo (ty_topo_Name hn x53.Name) fun r63 => ?_
            refine tb (x := (vb (!r63))) (d_not) ?_
            refine tcond (fun h65 => ?_) (fun h65 => ?_)
            · refine tb (x := (eV 2)) (p_mkE (by decide)) ?_
              exact rf_ret rfl
            · refine tb (x := (T_Topo.e a0)) (rfl) ?_
              refine tb (x := (T_Spot.e x53.At)) (rfl) ?_
              refine tbo (ty_topo_Spot hn a0 x53.At) fun r70 => ?_
              refine tb (x := (vb (!r70))) (d_not) ?_
              refine tcond (fun h72 => ?_) (fun h72 => ?_)
              · refine tb (x := (eV 1)) (p_mkE (by decide)) ?_
                exact rf_ret rfl
              · refine tb (x := (vt x53.Name)) (rfl) ?_
                refine tb (x := (vb (mget s48.2 x53.Name false))) (p_look (kt := 9) (et := 4) (kv := (fun b : ByteArray => Go.Value.string b)) (vv := (fun b : Bool => Go.Value.bool b)) (e1 := fun x : Bool => (vb x)) (mkey_str (by kernel_rfl)) (by kernel_rfl) false (fun _ => by kernel_rfl) (fun _ => rfl) x53.Name rfl s48.2) ?_
                refine tg_f (x := V.any) (fun h76 => rfl) ?_
                refine tg_f (x := V.any) (fun h78 => rfl) ?_
                refine tg_f (x := (T_Spot.e x53.At)) (fun h80 => bind_some_eq (gate_pos (not_t h80) (rfl))) ?_
                refine tg_f (x := (vb (mget s48.1 x53.At false))) (fun h83 => by simp only [gv_t h83]; exact bind_some_eq (gate_pos (not_t h83) (p_look (kt := 51) (et := 4) (kv := T_Spot.val) (vv := (fun b : Bool => Go.Value.bool b)) (e1 := fun x : Bool => (vb x)) T_Spot.mkey (by kernel_rfl) false (fun _ => by kernel_rfl) (fun _ => rfl) x53.At rfl s48.1))) ?_
                refine tb (x := (vb ((mget s48.2 x53.Name false) || (mget s48.1 x53.At false)))) (pick_or (fun h9 => gv_t (not_f h9))) ?_
                refine tcond (fun h87 => ?_) (fun h87 => ?_)
                · refine tb (x := (eV 7)) (p_mkE (by decide)) ?_
                  exact rf_ret rfl
                · refine tb (x := (vt x53.Name)) (rfl) ?_
                  refine tb (x := (vt x53.Name)) rfl ?_
                  refine tb (x := (T_Spot.e x53.At)) (rfl) ?_
                  refine tb (x := (T_Spot.e x53.At)) rfl ?_
                  refine tb (x := V.mp (mrep (fun b : ByteArray => Go.Value.string b) (fun b : Bool => Go.Value.bool b) (mput s48.2 x53.Name true))) (p_put (kt := 9) (et := 4) (kv := (fun b : ByteArray => Go.Value.string b)) (vv := (fun b : Bool => Go.Value.bool b)) (mkey_str (by kernel_rfl)) (by kernel_rfl) x53.Name true rfl rfl s48.2) ?_
                  refine tb (x := V.mp (mrep T_Spot.val (fun b : Bool => Go.Value.bool b) (mput s48.1 x53.At true))) (p_put (kt := 51) (et := 4) (kv := T_Spot.val) (vv := (fun b : Bool => Go.Value.bool b)) T_Spot.mkey (by kernel_rfl) x53.At true rfl rfl s48.1) ?_
                  refine tb (x := (vi ((i52 : Int) + 1))) (p_incN h55) ?_
                  refine tkeepO2 ?_ rfl
                  refine tsome ?_
                  exact h50 ((mput s48.1 x53.At true), (mput s48.2 x53.Name true))
          · refine tb (x := (vb (decide ((List.length a0.Hosts : Int) < (List.length a0.Hosts : Int))))) (d_lss) ?_
            refine tcond_f h96 ?_
            exact h45 ()
      · refine tkeepO2 ?_ rfl
        refine tsome ?_
        refine rf_loopI (mk := fun (i105 : Int) (s101 : (List (T_Spot × Bool))) => [(V.mp (mrep T_Spot.val (fun b : Bool => Go.Value.bool b) s101)), (vi (i105 : Int))]) hn a0.Links ([]) (fun i105 x106 h107 h108 h109 s101 rec99 k102 h103 => ?_) (fun s101 rec174 h173 => ?_)
        · refine tb (x := (vb (decide ((i105 : Int) < (List.length a0.Links : Int))))) (d_lss) ?_
          refine tcond_t h109 ?_
          refine tb (x := (V.ptr (T_Link.c x106))) (p_idx_at (c := T_Link.c) (fun _ => rfl) h107) ?_
          refine tb (x := (T_Link.e x106)) (rfl) ?_
          refine tb (x := V.agg (T_Link.c x106)) (by kernel_rfl) ?_
          refine tb (x := (T_Topo.e a0)) (rfl) ?_
          refine tb (x := (T_Spot.e x106.A)) (rfl) ?_
          refine tbo (ty_topo_Spot hn a0 x106.A) fun r117 => ?_
          refine tb (x := (vb (!r117))) (d_not) ?_
          refine tg_f (x := (T_Topo.e a0)) (fun h119 => bind_some_eq (rfl)) ?_
          refine tg_f (x := V.any) (fun h122 => rfl) ?_
          refine tg_f (x := (T_Spot.e x106.B)) (fun h124 => bind_some_eq (gate_pos (not_t h124) (rfl))) ?_
          refine tgo_f (fun h127 => by simp only [gv_t h127]; exact rf_bind_some (ty_topo_Spot hn a0 x106.B)) fun r130 => ?_
          refine tg_f (x := (vb (!r130))) (fun h131 => by simp only [gv_t h131]; exact bind_some_eq (d_not)) ?_
          refine tb (x := (vb ((!r117) || (!r130)))) (pick_or (fun h9 => gv_t (not_f h9))) ?_
          refine tcond (fun h135 => ?_) (fun h135 => ?_)
          · refine tb (x := (eV 1)) (p_mkE (by decide)) ?_
            exact rf_ret rfl
          · refine tb (x := (T_Spot.e x106.A)) (rfl) ?_
            refine tb (x := (vb (mget s101 x106.A false))) (p_look (kt := 51) (et := 4) (kv := T_Spot.val) (vv := (fun b : Bool => Go.Value.bool b)) (e1 := fun x : Bool => (vb x)) T_Spot.mkey (by kernel_rfl) false (fun _ => by kernel_rfl) (fun _ => rfl) x106.A rfl s101) ?_
            refine tg_f (x := V.any) (fun h139 => rfl) ?_
            refine tg_f (x := V.any) (fun h141 => rfl) ?_
            refine tg_f (x := (T_Spot.e x106.B)) (fun h143 => bind_some_eq (gate_pos (not_t h143) (rfl))) ?_
            refine tg_f (x := (vb (mget s101 x106.B false))) (fun h146 => by simp only [gv_t h146]; exact bind_some_eq (gate_pos (not_t h146) (p_look (kt := 51) (et := 4) (kv := T_Spot.val) (vv := (fun b : Bool => Go.Value.bool b)) (e1 := fun x : Bool => (vb x)) T_Spot.mkey (by kernel_rfl) false (fun _ => by kernel_rfl) (fun _ => rfl) x106.B rfl s101))) ?_
            refine tb (x := (vb ((mget s101 x106.A false) || (mget s101 x106.B false)))) (pick_or (fun h9 => gv_t (not_f h9))) ?_
            refine tg_f (x := V.any) (fun h150 => rfl) ?_
            refine tg_f (x := (T_Spot.e x106.A)) (fun h152 => bind_some_eq (gate_pos (not_t h152) (rfl))) ?_
            refine tg_f (x := V.any) (fun h155 => rfl) ?_
            refine tg_f (x := (T_Spot.e x106.B)) (fun h157 => bind_some_eq (gate_pos (not_t h157) (rfl))) ?_
            refine tg_f (x := (vb (decide (x106.A = x106.B)))) (fun h160 => by simp only [gv_t h160]; exact bind_some_eq (T_Spot.eql x106.A x106.B)) ?_
            refine tb (x := (vb (((mget s101 x106.A false) || (mget s101 x106.B false)) || (decide (x106.A = x106.B))))) (pick_or (fun h9 => gv_t (not_f h9))) ?_
            refine tcond (fun h164 => ?_) (fun h164 => ?_)
            · refine tb (x := (eV 7)) (p_mkE (by decide)) ?_
              exact rf_ret rfl
            · refine tb (x := (T_Spot.e x106.A)) (rfl) ?_
              refine tb (x := (T_Spot.e x106.A)) rfl ?_
              refine tb (x := (T_Spot.e x106.B)) (rfl) ?_
              refine tb (x := (T_Spot.e x106.B)) rfl ?_
              refine tb (x := V.mp (mrep T_Spot.val (fun b : Bool => Go.Value.bool b) (mput s101 x106.A true))) (p_put (kt := 51) (et := 4) (kv := T_Spot.val) (vv := (fun b : Bool => Go.Value.bool b)) T_Spot.mkey (by kernel_rfl) x106.A true rfl rfl s101) ?_
              refine tb (x := V.mp (mrep T_Spot.val (fun b : Bool => Go.Value.bool b) (mput (mput s101 x106.A true) x106.B true))) (p_put (kt := 51) (et := 4) (kv := T_Spot.val) (vv := (fun b : Bool => Go.Value.bool b)) T_Spot.mkey (by kernel_rfl) x106.B true rfl rfl (mput s101 x106.A true)) ?_
              refine tb (x := (vi ((i105 : Int) + 1))) (p_incN h108) ?_
              refine tkeepO2 ?_ rfl
              refine tsome ?_
              exact h103 (mput (mput s101 x106.A true) x106.B true)
        · refine tb (x := (vb (decide ((List.length a0.Links : Int) < (List.length a0.Links : Int))))) (d_lss) ?_
          refine tcond_f h173 ?_
          refine tkeepO2 ?_ rfl
          refine tsome ?_
          exact h38 (s101)

/-! slices.IndexFunc   railpoint/api.Fate railpoint/api.Fate  -/
def an_slices_IndexFunc_api_Fate_api_Fate : Ann := .seq (.reg 0 [] [] []) (.seq (.seq (.reg 0 [] [] []) (.blk (some []) (.loop [.s 8] (.seq (.reg 0 [] [] []) (.seq (.cond none (.no) (.no)) (.seq (.blk none (.seq (.reg 0 [] [] []) (.seq (.reg 0 [] [] []) (.cond none (.seq (.reg 0 [] [] []) (.no)) (.no))))) (.reg 0 [] [] []))))))) (.seq (.reg 0 [] [] []) (.no)))
noncomputable def sem_slices_IndexFunc_api_Fate_api_Fate (E : FuncId → List V → Option V) (n : Nat) (xs : List V) : Option V := if xs.length ≤ 19 then denF Try.prog (envJ [] E) n Try.f58 an_slices_IndexFunc_api_Fate_api_Fate xs else none
theorem ok_slices_IndexFunc_api_Fate_api_Fate {E : FuncId → List V → Option V} (hE : EnvOk Try.prog DW E) (n : Nat) : SemOk Try.prog DW 58 (sem_slices_IndexFunc_api_Fate_api_Fate E n) := fun xs y h => by
  unfold sem_slices_IndexFunc_api_Fate_api_Fate at h
  split at h
  · rename_i hl
    exact denF_ok stb Try.func58 (by kernel_rfl) (envJ_ok semsOk_nil hE) (by rw [Try.ntmps58]; exact hl) h
  · cases h
theorem eq_slices_IndexFunc_api_Fate_api_Fate (E : FuncId → List V → Option V) (n : Nat) (x0 x1 : V) : sem_slices_IndexFunc_api_Fate_api_Fate E n [x0, x1] =
 (lenS [x0]).bind fun v1 =>
 JoinPt (fun vs2 =>
 some (vi (-1 : Int))) fun J3 =>
 (fixN (fun rec4 vs5 =>
 (bin2 Try.prog BinOp.lss 3 (ot 8) (ot 7) (List.getD vs5 0 V.any) v1).bind fun v6 =>
 condV v6 (
 (idxS 3 x0 (List.getD vs5 0 V.any)).bind fun v7 =>
 (ldp (some 3) v7).bind fun v8 =>
 (callV (envJ [] E) x1 [v8]).bind fun v9 =>
 condV v9 (
 some (List.getD vs5 0 V.any)) (
 (bin2 Try.prog BinOp.add 3 (ot 8) (oc 1) (List.getD vs5 0 V.any) (vi 1)).bind fun v10 =>
 rec4 [v10])) (
 J3 [])) n) [(vi 0)] := by kernel_rfl
noncomputable def t_slices_IndexFunc_api_Fate_api_Fate (a0 : (List T_Fate)) (g1 : T_Fate → Option Bool) : Option Int :=
 join (fun (s4 : Unit) =>
 some (-1 : Int)) fun j5 =>
 loopI a0 (fun (i13 : Int) x14 (s9 : Unit) k10 =>
 (g1 x14).bind fun r22 =>
 if r22 = true then (
 some i13) else (
 k10 ())) (fun (s9 : Unit) =>
 j5 ()) ()
theorem ty_slices_IndexFunc_api_Fate_api_Fate {E : FuncId → List V → Option V} {n : Nat} (hn : bigN ≤ n) (a0 : (List T_Fate)) {x1 : V} {g1 : T_Fate → Option Bool} (hg_g1 : ∀ a0, Rv (fun x : Bool => (vb x)) (callV E x1 [(T_Fate.e a0)]) (g1 a0)) : Rv (fun x : Int => (vi x)) (sem_slices_IndexFunc_api_Fate_api_Fate E n [(V.sl (List.map T_Fate.c a0)), x1]) (t_slices_IndexFunc_api_Fate_api_Fate a0 g1) := by
  rw [eq_slices_IndexFunc_api_Fate_api_Fate]
  unfold t_slices_IndexFunc_api_Fate_api_Fate
  refine tb (x := (vi (List.length a0 : Int))) (p_len _) ?_
  refine tjoin (mk := fun s4 : Unit => []) (fun s4 => ?_) fun J3 j5 h6 => ?_
  · exact rf_ret rfl
  · refine rf_loopI (mk := fun (i13 : Int) (s9 : Unit) => [(vi (i13 : Int))]) hn a0 () (fun i13 x14 h15 h16 h17 s9 rec7 k10 h11 => ?_) (fun s9 rec26 h25 => ?_)
    · refine tb (x := (vb (decide ((i13 : Int) < (List.length a0 : Int))))) (d_lss) ?_
      refine tcond_t h17 ?_
      refine tb (x := (V.ptr (T_Fate.c x14))) (p_idx_at (c := T_Fate.c) (fun _ => rfl) h15) ?_
      refine tb (x := (T_Fate.e x14)) (rfl) ?_
      refine tbo ((callV_J0 ▸ hg_g1 x14)) fun r22 => ?_
      refine tcond (fun h23 => ?_) (fun h23 => ?_)
      · exact rf_ret rfl
      · refine tb (x := (vi ((i13 : Int) + 1))) (p_incN h16) ?_
        exact h11 ()
    · refine tb (x := (vb (decide ((List.length a0 : Int) < (List.length a0 : Int))))) (d_lss) ?_
      refine tcond_f h25 ?_
      exact h6 ()

/-! slices.ContainsFunc   railpoint/api.Fate railpoint/api.Fate  -/
def an_slices_ContainsFunc_api_Fate_api_Fate : Ann := .seq (.reg 0 [] [] []) (.seq (.reg 0 [] [] []) (.no))
noncomputable def sem_slices_ContainsFunc_api_Fate_api_Fate (E : FuncId → List V → Option V) (n : Nat) (xs : List V) : Option V := if xs.length ≤ 9 then denF Try.prog (envJ [(58, (sem_slices_IndexFunc_api_Fate_api_Fate E n))] E) n Try.f29 an_slices_ContainsFunc_api_Fate_api_Fate xs else none
theorem ok_slices_ContainsFunc_api_Fate_api_Fate {E : FuncId → List V → Option V} (hE : EnvOk Try.prog DW E) (n : Nat) : SemOk Try.prog DW 29 (sem_slices_ContainsFunc_api_Fate_api_Fate E n) := fun xs y h => by
  unfold sem_slices_ContainsFunc_api_Fate_api_Fate at h
  split at h
  · rename_i hl
    exact denF_ok stb Try.func29 (by kernel_rfl) (envJ_ok (semsOk_cons (ok_slices_IndexFunc_api_Fate_api_Fate hE n) semsOk_nil) hE) (by rw [Try.ntmps29]; exact hl) h
  · cases h
theorem eq_slices_ContainsFunc_api_Fate_api_Fate (E : FuncId → List V → Option V) (n : Nat) (x0 x1 : V) : sem_slices_ContainsFunc_api_Fate_api_Fate E n [x0, x1] =
 ((sem_slices_IndexFunc_api_Fate_api_Fate E n) [x0, x1]).bind fun v1 =>
 (bin2 Try.prog BinOp.geq 3 (ot 7) (oc 0) v1 (vi 0)).bind fun v2 =>
 some v2 := by kernel_rfl
noncomputable def t_slices_ContainsFunc_api_Fate_api_Fate (a0 : (List T_Fate)) (g1 : T_Fate → Option Bool) : Option Bool :=
 (t_slices_IndexFunc_api_Fate_api_Fate a0 g1).bind fun r2 =>
 some (decide (0 ≤ r2))
theorem ty_slices_ContainsFunc_api_Fate_api_Fate {E : FuncId → List V → Option V} {n : Nat} (hn : bigN ≤ n) (a0 : (List T_Fate)) {x1 : V} {g1 : T_Fate → Option Bool} (hg_g1 : ∀ a0, Rv (fun x : Bool => (vb x)) (callV E x1 [(T_Fate.e a0)]) (g1 a0)) : Rv (fun x : Bool => (vb x)) (sem_slices_ContainsFunc_api_Fate_api_Fate E n [(V.sl (List.map T_Fate.c a0)), x1]) (t_slices_ContainsFunc_api_Fate_api_Fate a0 g1) := by
  rw [eq_slices_ContainsFunc_api_Fate_api_Fate]
  unfold t_slices_ContainsFunc_api_Fate_api_Fate
  refine tbo (ty_slices_IndexFunc_api_Fate_api_Fate (E := E) (x1 := x1) (g1 := g1) hn a0 hg_g1) fun r2 => ?_
  refine tb (x := (vb (decide (0 ≤ r2)))) (d_geq) ?_
  exact rf_ret rfl

/-! slices.IndexFunc   railpoint/api.Link railpoint/api.Link  -/
def an_slices_IndexFunc_api_Link_api_Link : Ann := .seq (.reg 0 [] [] []) (.seq (.seq (.reg 0 [] [] []) (.blk (some []) (.loop [.s 8] (.seq (.reg 0 [] [] []) (.seq (.cond none (.no) (.no)) (.seq (.blk none (.seq (.reg 0 [] [] []) (.seq (.reg 0 [] [] []) (.cond none (.seq (.reg 0 [] [] []) (.no)) (.no))))) (.reg 0 [] [] []))))))) (.seq (.reg 0 [] [] []) (.no)))
noncomputable def sem_slices_IndexFunc_api_Link_api_Link (E : FuncId → List V → Option V) (n : Nat) (xs : List V) : Option V := if xs.length ≤ 19 then denF Try.prog (envJ [] E) n Try.f59 an_slices_IndexFunc_api_Link_api_Link xs else none
theorem ok_slices_IndexFunc_api_Link_api_Link {E : FuncId → List V → Option V} (hE : EnvOk Try.prog DW E) (n : Nat) : SemOk Try.prog DW 59 (sem_slices_IndexFunc_api_Link_api_Link E n) := fun xs y h => by
  unfold sem_slices_IndexFunc_api_Link_api_Link at h
  split at h
  · rename_i hl
    exact denF_ok stb Try.func59 (by kernel_rfl) (envJ_ok semsOk_nil hE) (by rw [Try.ntmps59]; exact hl) h
  · cases h
theorem eq_slices_IndexFunc_api_Link_api_Link (E : FuncId → List V → Option V) (n : Nat) (x0 x1 : V) : sem_slices_IndexFunc_api_Link_api_Link E n [x0, x1] =
 (lenS [x0]).bind fun v1 =>
 JoinPt (fun vs2 =>
 some (vi (-1 : Int))) fun J3 =>
 (fixN (fun rec4 vs5 =>
 (bin2 Try.prog BinOp.lss 3 (ot 8) (ot 7) (List.getD vs5 0 V.any) v1).bind fun v6 =>
 condV v6 (
 (idxS 4 x0 (List.getD vs5 0 V.any)).bind fun v7 =>
 (ldp (some 4) v7).bind fun v8 =>
 (callV (envJ [] E) x1 [v8]).bind fun v9 =>
 condV v9 (
 some (List.getD vs5 0 V.any)) (
 (bin2 Try.prog BinOp.add 3 (ot 8) (oc 1) (List.getD vs5 0 V.any) (vi 1)).bind fun v10 =>
 rec4 [v10])) (
 J3 [])) n) [(vi 0)] := by kernel_rfl
noncomputable def t_slices_IndexFunc_api_Link_api_Link (a0 : (List T_Link)) (g1 : T_Link → Option Bool) : Option Int :=
 join (fun (s4 : Unit) =>
 some (-1 : Int)) fun j5 =>
 loopI a0 (fun (i13 : Int) x14 (s9 : Unit) k10 =>
 (g1 x14).bind fun r22 =>
 if r22 = true then (
 some i13) else (
 k10 ())) (fun (s9 : Unit) =>
 j5 ()) ()
theorem ty_slices_IndexFunc_api_Link_api_Link {E : FuncId → List V → Option V} {n : Nat} (hn : bigN ≤ n) (a0 : (List T_Link)) {x1 : V} {g1 : T_Link → Option Bool} (hg_g1 : ∀ a0, Rv (fun x : Bool => (vb x)) (callV E x1 [(T_Link.e a0)]) (g1 a0)) : Rv (fun x : Int => (vi x)) (sem_slices_IndexFunc_api_Link_api_Link E n [(V.sl (List.map T_Link.c a0)), x1]) (t_slices_IndexFunc_api_Link_api_Link a0 g1) := by
  rw [eq_slices_IndexFunc_api_Link_api_Link]
  unfold t_slices_IndexFunc_api_Link_api_Link
  refine tb (x := (vi (List.length a0 : Int))) (p_len _) ?_
  refine tjoin (mk := fun s4 : Unit => []) (fun s4 => ?_) fun J3 j5 h6 => ?_
  · exact rf_ret rfl
  · refine rf_loopI (mk := fun (i13 : Int) (s9 : Unit) => [(vi (i13 : Int))]) hn a0 () (fun i13 x14 h15 h16 h17 s9 rec7 k10 h11 => ?_) (fun s9 rec26 h25 => ?_)
    · refine tb (x := (vb (decide ((i13 : Int) < (List.length a0 : Int))))) (d_lss) ?_
      refine tcond_t h17 ?_
      refine tb (x := (V.ptr (T_Link.c x14))) (p_idx_at (c := T_Link.c) (fun _ => rfl) h15) ?_
      refine tb (x := (T_Link.e x14)) (rfl) ?_
      refine tbo ((callV_J0 ▸ hg_g1 x14)) fun r22 => ?_
      refine tcond (fun h23 => ?_) (fun h23 => ?_)
      · exact rf_ret rfl
      · refine tb (x := (vi ((i13 : Int) + 1))) (p_incN h16) ?_
        exact h11 ()
    · refine tb (x := (vb (decide ((List.length a0 : Int) < (List.length a0 : Int))))) (d_lss) ?_
      refine tcond_f h25 ?_
      exact h6 ()

/-! railpoint/judge.Count$1 -/
def an_judge_Count_1 : Ann := .seq (.reg 0 [] [] []) (.seq (.reg 0 [] [] []) (.no))
noncomputable def sem_judge_Count_1 (n : Nat) (xs : List V) : Option V := if xs.length ≤ 16 then denF Try.prog (envOf []) n Try.f60 an_judge_Count_1 xs else none
theorem ok_judge_Count_1 (n : Nat) : SemOk Try.prog DW 60 (sem_judge_Count_1 n) := fun xs y h => by
  unfold sem_judge_Count_1 at h
  split at h
  · rename_i hl
    exact denF_ok stb Try.func60 (by kernel_rfl) (envOf_ok semsOk_nil) (by rw [Try.ntmps60]; exact hl) h
  · cases h
theorem eq_judge_Count_1 (n : Nat) (x0 x1 : V) : sem_judge_Count_1 n [x0, x1] =
 (V.cellsO x0).bind fun v1 =>
 (ldk (some 2) (List.drop 0 v1)).bind fun v2 =>
 (ptrF 0 x1).bind fun v3 =>
 (ldp (some 2) v3).bind fun v4 =>
 (bin2 Try.prog BinOp.eql 51 (ot 5) (ot 7) v2 v4).bind fun v5 =>
 (guardV v5 false (some V.any)).bind fun v6 =>
 (guardV v5 false ((gate v5 false (ldk (some 2) (List.drop 2 v1))).bind fun v7 =>
 some v7)).bind fun v8 =>
 (guardV v5 false ((ptrF 0 x1).bind fun v9 =>
 some v9)).bind fun v10 =>
 (guardV v5 false ((ldp (some 2) v10).bind fun v11 =>
 some v11)).bind fun v12 =>
 (guardV v5 false ((bin2 Try.prog BinOp.eql 51 (ot 11) (ot 13) v8 v12).bind fun v13 =>
 some v13)).bind fun v14 =>
 (pickV v5 (vb true) v14).bind fun v15 =>
 some v15 := by kernel_rfl
noncomputable def t_judge_Count_1 (a0 : T_Link) (a1 : T_Hop) : Option Bool :=
 some ((decide (a0.A = a1.At)) || (decide (a0.B = a1.At)))
theorem ty_judge_Count_1 {n : Nat} (hn : bigN ≤ n) (a0 : T_Link) (a1 : T_Hop) : Rv (fun x : Bool => (vb x)) (sem_judge_Count_1 n [(T_Link.e a0), (V.ptr (T_Hop.c a1))]) (t_judge_Count_1 a0 a1) := by
  rw [eq_judge_Count_1]
  unfold t_judge_Count_1
  refine tb (x := (T_Link.c a0)) rfl ?_
  refine tb (x := (T_Spot.e a0.A)) (rfl) ?_
  refine tb (x := (V.ptr (T_Hop.c a1))) (rfl) ?_
  refine tb (x := (T_Spot.e a1.At)) (rfl) ?_
  refine tb (x := (vb (decide (a0.A = a1.At)))) (T_Spot.eql a0.A a1.At) ?_
  refine tg_f (x := V.any) (fun h6 => rfl) ?_
  refine tg_f (x := (T_Spot.e a0.B)) (fun h8 => bind_some_eq (gate_pos (not_t h8) (rfl))) ?_
  refine tg_f (x := (V.ptr (T_Hop.c a1))) (fun h11 => bind_some_eq (rfl)) ?_
  refine tg_f (x := (T_Spot.e a1.At)) (fun h14 => by first | exact bind_some_eq (rfl) | (simp only [gv_t h14]; exact bind_some_eq (rfl))) ?_
  refine tg_f (x := (vb (decide (a0.B = a1.At)))) (fun h17 => by simp only [gv_t h17]; exact bind_some_eq (T_Spot.eql a0.B a1.At)) ?_
  refine tb (x := (vb ((decide (a0.A = a1.At)) || (decide (a0.B = a1.At))))) (pick_or (fun h9 => gv_t (not_f h9))) ?_
  exact rf_ret rfl

/-! railpoint/judge.Count -/
def an_judge_Count : Ann := .seq (.reg 0 [] [] []) (.seq (.reg 0 [] [] []) (.seq (.seq (.reg 0 [] [] []) (.blk (some [.o 5]) (.loop [.kb 2, .o 5, .s 17] (.seq (.reg 0 [] [] []) (.seq (.cond none (.no) (.no)) (.seq (.blk (some [.kb 2, .o 5]) (.seq (.reg 0 [] [] []) (.seq (.reg 0 [] [] []) (.blk (some [.kb 2, .o 5]) (.loop [.kb 2, .o 5, .s 29] (.seq (.reg 0 [] [] []) (.seq (.cond none (.no) (.no)) (.seq (.blk none (.seq (.reg 0 [] [] []) (.seq (.reg 0 [9] [] []) (.seq (.reg 0 [] [] []) (.cond (some [.kb 2, .o 5]) (.reg 0 [] [] []) (.no)))))) (.reg 0 [] [] []))))))))) (.reg 0 [] [] []))))))) (.seq (.reg 0 [5] [] []) (.no))))
noncomputable def sem_judge_Count (n : Nat) (xs : List V) : Option V := if xs.length ≤ 48 then denF Try.prog (envOf [(59, (sem_slices_IndexFunc_api_Link_api_Link (envOf [(60, (sem_judge_Count_1 n))]) n)), (60, (sem_judge_Count_1 n))]) n Try.f31 an_judge_Count xs else none
theorem ok_judge_Count (n : Nat) : SemOk Try.prog DW 31 (sem_judge_Count n) := fun xs y h => by
  unfold sem_judge_Count at h
  split at h
  · rename_i hl
    exact denF_ok stb Try.func31 (by kernel_rfl) (envOf_ok (semsOk_cons (ok_slices_IndexFunc_api_Link_api_Link (envOf_ok (semsOk_cons (ok_judge_Count_1 n) semsOk_nil)) n) (semsOk_cons (ok_judge_Count_1 n) semsOk_nil))) (by rw [Try.ntmps31]; exact hl) h
  · cases h
theorem eq_judge_Count (n : Nat) (x0 x1 : V) : sem_judge_Count n [x0, x1] =
 (V.cellsO x0).bind fun v1 =>
 (ldk none (List.drop 1 v1)).bind fun v2 =>
 (lenS [v2]).bind fun v3 =>
 (makeN 1 [(vi 0)] v3 v3).bind fun v4 =>
 (lenS [x1]).bind fun v5 =>
 JoinPt (fun vs6 =>
 (some (frz (List.getD vs6 0 V.any))).bind fun v8 =>
 some v8) fun J7 =>
 (keepO (some v1) (some v1) (some [v4, (vi 0)])).bind (fixN (fun rec9 vs10 =>
 (bin2 Try.prog BinOp.lss 3 (ot 17) (ot 16) (List.getD vs10 1 V.any) v5).bind fun v11 =>
 condV v11 (
 JoinPt (fun vs12 =>
 (bin2 Try.prog BinOp.add 3 (ot 17) (oc 1) (List.getD vs10 1 V.any) (vi 1)).bind fun v14 =>
 (keepO (some v1) (some v1) (some [(List.getD vs12 0 V.any), v14])).bind rec9) fun J13 =>
 (idxS 3 x1 (List.getD vs10 1 V.any)).bind fun v15 =>
 (ldp (some 3) v15).bind fun v16 =>
 (spliceV [(vi 0), (V.lit (Go.Value.string (ByteArray.mk #[]))), (V.sl [])] 0 3 v16).bind fun v17 =>
 (ldk none (List.drop 2 (aggL v17))).bind fun v18 =>
 (ldk none (List.drop 2 (aggL v17))).bind fun v19 =>
 (lenS [v19]).bind fun v20 =>
 (scal2 Try.prog (fun u v => Builtin.min_ #[3, 3] 3 #[u, v]) (vi 1) v20).bind fun v21 =>
 (slc (some 3) v18 (some v21) none).bind fun v22 =>
 (lenS [v22]).bind fun v23 =>
 JoinPt (fun vs24 =>
 (keepO (some v1) (some v1) (some [(List.getD vs24 0 V.any)])).bind J13) fun J25 =>
 (keepO (some v1) (some v1) (some [(List.getD vs10 0 V.any), (vi 0)])).bind (fixN (fun rec26 vs27 =>
 (bin2 Try.prog BinOp.lss 3 (ot 29) (ot 28) (List.getD vs27 1 V.any) v23).bind fun v28 =>
 condV v28 (
 (idxS 3 v22 (List.getD vs27 1 V.any)).bind fun v29 =>
 (ldp (some 3) v29).bind fun v30 =>
 (spliceV [(vi 0), (vi 0), (vi 0)] 0 3 v30).bind fun v31 =>
 (ldk none (List.drop 1 v1)).bind fun v32 =>
 ((sem_slices_IndexFunc_api_Link_api_Link (envOf [(60, (sem_judge_Count_1 n))]) n) [v32, (V.fn 60 [(V.ptr (aggL v31))])]).bind fun v33 =>
 (bin2 Try.prog BinOp.geq 3 (ot 37) (oc 0) v33 (vi 0)).bind fun v34 =>
 JoinPt (fun vs35 =>
 (bin2 Try.prog BinOp.add 3 (ot 29) (oc 1) (List.getD vs27 1 V.any) (vi 1)).bind fun v37 =>
 (keepO (some v1) (some v1) (some [(List.getD vs35 0 V.any), v37])).bind rec26) fun J36 =>
 condV v34 (
 ((oslR (List.getD vs27 0 V.any)).bind fun rows38 => inB (List.length rows38) v33).bind fun v39 =>
 ((nodeL (List.getD vs27 0 V.any) (some (natOf v33)) 1).bind fun l40 => (ldk none (List.drop 0 l40)).bind pureO).bind fun v41 =>
 (bin2 Try.prog BinOp.add 3 (ot 42) (oc 1) v41 (vi 1)).bind fun v42 =>
 ((oslR (List.getD vs27 0 V.any)).bind fun rows43 => inB (List.length rows43) v33).bind fun v44 =>
 (V.cellsO v42).bind fun v45 =>
 (setV (List.getD vs27 0 V.any) [] (Stp.mk (some (natOf v33)) 0 1) 1 v45).bind fun v46 =>
 (keepO (some v1) (some v1) (some [v46])).bind J36) (
 (keepO (some v1) (some v1) (some [(List.getD vs27 0 V.any)])).bind J36)) (
 (keepO (some v1) (some v1) (some [(List.getD vs27 0 V.any)])).bind J25)) n)) (
 J7 [(List.getD vs10 0 V.any)])) n) := by kernel_rfl
noncomputable def t_judge_Count (a0 : T_Topo) (a1 : (List T_Fate)) : Option (List Int) :=
 (omake (List.length a0.Links : Int) (List.length a0.Links : Int) 0).bind fun r5 =>
 (loopI a1 (fun (i19 : Int) x20 (s15 : (List Int)) k16 =>
 ((slc_lo x20.Hops (min 1 (List.length x20.Hops : Int))).bind fun r39 =>
 (loopI r39 (fun (i52 : Int) x53 (s48 : (List Int)) k49 =>
 (t_slices_IndexFunc_api_Link_api_Link a0.Links (fun (a62 : T_Link) => t_judge_Count_1 a62 x53)).bind fun r64 =>
 (if (decide (0 ≤ r64)) = true then (
 need (decide (0 ≤ r64) && decide (r64 < (List.length s48 : Int))) (
 (idx s48 r64).bind fun r76 =>
 need (decide (0 ≤ r64) && decide (r64 < (List.length s48 : Int))) (
 (oset s48 r64 (wr (r76 + 1))).bind fun r82 =>
 some (r82)))) else (
 some (s48))).bind fun (s68 : (List Int)) =>
 k49 (s68)) (fun (s48 : (List Int)) =>
 some (s48)) (s15)).bind fun (s43 : (List Int)) =>
 some (s43)).bind fun (s27 : (List Int)) =>
 k16 (s27)) (fun (s15 : (List Int)) =>
 some (s15)) (r5)).bind fun (s9 : (List Int)) =>
 some s9
theorem ty_judge_Count {n : Nat} (hn : bigN ≤ n) (a0 : T_Topo) (a1 : (List T_Fate)) : Rv (fun x : (List Int) => (V.sl (List.map cI x))) (sem_judge_Count n [(T_Topo.e a0), (V.sl (List.map T_Fate.c a1))]) (t_judge_Count a0 a1) := by
  rw [eq_judge_Count]
  unfold t_judge_Count
  refine tb (x := (T_Topo.c a0)) rfl ?_
  refine tb (x := (V.sl (List.map T_Link.c a0.Links))) (rfl) ?_
  refine tb (x := (vi (List.length a0.Links : Int))) (p_len _) ?_
  refine tbo (p_omake (c := cI) (List.length a0.Links : Int) (List.length a0.Links : Int) 0 rfl) fun r5 => ?_
  refine tb (x := (vi (List.length a1 : Int))) (p_len _) ?_
  refine tjb (mk := fun s9 : (List Int) => [(V.osl 1 (List.map cI s9))]) (fun J8 => ?_) fun s9 => ?_
  · refine tkeepO2 ?_ rfl
    refine tsome ?_
    refine rf_loopI (mk := fun (i19 : Int) (s15 : (List Int)) => [(V.osl 1 (List.map cI s15)), (vi (i19 : Int))]) hn a1 (r5) (fun i19 x20 h21 h22 h23 s15 rec13 k16 h17 => ?_) (fun s15 rec89 h88 => ?_)
    · refine tb (x := (vb (decide ((i19 : Int) < (List.length a1 : Int))))) (d_lss) ?_
      refine tcond_t h23 ?_
      refine tjb (mk := fun s27 : (List Int) => [(V.osl 1 (List.map cI s27))]) (fun J26 => ?_) fun s27 => ?_
      · refine tb (x := (V.ptr (T_Fate.c x20))) (p_idx_at (c := T_Fate.c) (fun _ => rfl) h21) ?_
        refine tb (x := (T_Fate.e x20)) (rfl) ?_
        refine tb (x := V.agg (T_Fate.c x20)) (by kernel_rfl) ?_
        refine tb (x := (V.sl (List.map T_Hop.c x20.Hops))) (rfl) ?_
        refine tb (x := (V.sl (List.map T_Hop.c x20.Hops))) (rfl) ?_
        refine tb (x := (vi (List.length x20.Hops : Int))) (p_len _) ?_
        refine tb (x := (vi (min 1 (List.length x20.Hops : Int)))) (p_min) ?_
        refine tbo (p_slc_lo (c := T_Hop.c) (fun _ => rfl) x20.Hops (min 1 (List.length x20.Hops : Int))) fun r39 => ?_
        refine tb (x := (vi (List.length r39 : Int))) (p_len _) ?_
        refine tjb (mk := fun s43 : (List Int) => [(V.osl 1 (List.map cI s43))]) (fun J42 => ?_) fun s43 => ?_
        · refine tkeepO2 ?_ rfl
          refine tsome ?_
          refine rf_loopI (mk := fun (i52 : Int) (s48 : (List Int)) => [(V.osl 1 (List.map cI s48)), (vi (i52 : Int))]) hn r39 (s15) (fun i52 x53 h54 h55 h56 s48 rec46 k49 h50 => ?_) (fun s48 rec86 h85 => ?_)
          · refine tb (x := (vb (decide ((i52 : Int) < (List.length r39 : Int))))) (d_lss) ?_
            refine tcond_t h56 ?_
            refine tb (x := (V.ptr (T_Hop.c x53))) (p_idx_at (c := T_Hop.c) (fun _ => rfl) h54) ?_
            refine tb (x := (T_Hop.e x53)) (rfl) ?_
            refine tb (x := V.agg (T_Hop.c x53)) (by kernel_rfl) ?_
            refine tb (x := (V.sl (List.map T_Link.c a0.Links))) (rfl) ?_
            refine tbo (ty_slices_IndexFunc_api_Link_api_Link (E := (envOf [(60, (sem_judge_Count_1 n))])) (x1 := (V.fn 60 [(V.ptr (T_Hop.c x53))])) (g1 := (fun (a62 : T_Link) => t_judge_Count_1 a62 x53)) hn a0.Links (fun a62 => ty_judge_Count_1 hn a62 x53)) fun r64 => ?_
            refine tb (x := (vb (decide (0 ≤ r64)))) (d_geq) ?_
            refine tjb (mk := fun s68 : (List Int) => [(V.osl 1 (List.map cI s68))]) (fun J67 => ?_) fun s68 => ?_
            · refine tcond (fun h72 => ?_) (fun h72 => ?_)
              · refine tneed (x := V.any) (fun h84 => p_inB s48 r64 h84) fun h84 => ?_
                refine tbo (p_oload (e1 := fun x : Int => (vi x)) (c := cI) (fun _ => rfl) s48 r64 (fun _ => rfl)) fun r76 => ?_
                refine tb (x := (vi (wr (r76 + 1)))) (d_add) ?_
                refine tneed (x := V.any) (fun h83 => p_inB s48 r64 h83) fun h83 => ?_
                refine tb (x := cI (wr (r76 + 1))) rfl ?_
                refine tbo (p_oset (c := cI) (fun _ => rfl) s48 r64 (wr (r76 + 1))) fun r82 => ?_
                refine tkeepO2 ?_ rfl
                refine tsome ?_
                exact rf_j rfl
              · refine tkeepO2 ?_ rfl
                refine tsome ?_
                exact rf_j rfl
            · refine tb (x := (vi ((i52 : Int) + 1))) (p_incN h55) ?_
              refine tkeepO2 ?_ rfl
              refine tsome ?_
              exact h50 (s68)
          · refine tb (x := (vb (decide ((List.length r39 : Int) < (List.length r39 : Int))))) (d_lss) ?_
            refine tcond_f h85 ?_
            refine tkeepO2 ?_ rfl
            refine tsome ?_
            exact rf_j rfl
        · refine tkeepO2 ?_ rfl
          refine tsome ?_
          exact rf_j rfl
      · refine tb (x := (vi ((i19 : Int) + 1))) (p_incN h22) ?_
        refine tkeepO2 ?_ rfl
        refine tsome ?_
        exact h17 (s27)
    · refine tb (x := (vb (decide ((List.length a1 : Int) < (List.length a1 : Int))))) (d_lss) ?_
      refine tcond_f h88 ?_
      exact rf_j rfl
  · refine tb (x := (V.sl (List.map cI s9))) (p_frz (c := cI) (fun _ => rfl) s9) ?_
    exact rf_ret rfl

/-! railpoint/judge.Links$1 -/
def an_judge_Links_1 : Ann := .seq (.reg 0 [] [] []) (.seq (.reg 0 [] [] []) (.no))
noncomputable def sem_judge_Links_1 (n : Nat) (xs : List V) : Option V := if xs.length ≤ 7 then denF Try.prog (envOf []) n Try.f30 an_judge_Links_1 xs else none
theorem ok_judge_Links_1 (n : Nat) : SemOk Try.prog DW 30 (sem_judge_Links_1 n) := fun xs y h => by
  unfold sem_judge_Links_1 at h
  split at h
  · rename_i hl
    exact denF_ok stb Try.func30 (by kernel_rfl) (envOf_ok semsOk_nil) (by rw [Try.ntmps30]; exact hl) h
  · cases h
theorem eq_judge_Links_1 (n : Nat) (x0 : V) : sem_judge_Links_1 n [x0] =
 (V.cellsO x0).bind fun v1 =>
 (ldk none (List.drop 2 v1)).bind fun v2 =>
 (lenS [v2]).bind fun v3 =>
 (bin2 Try.prog BinOp.gtr 3 (ot 5) (oc 24) v3 (vi 24)).bind fun v4 =>
 some v4 := by kernel_rfl
noncomputable def t_judge_Links_1 (a0 : T_Fate) : Option Bool :=
 some (decide (24 < (List.length a0.Hops : Int)))
theorem ty_judge_Links_1 {n : Nat} (hn : bigN ≤ n) (a0 : T_Fate) : Rv (fun x : Bool => (vb x)) (sem_judge_Links_1 n [(T_Fate.e a0)]) (t_judge_Links_1 a0) := by
  rw [eq_judge_Links_1]
  unfold t_judge_Links_1
  refine tb (x := (T_Fate.c a0)) rfl ?_
  refine tb (x := (V.sl (List.map T_Hop.c a0.Hops))) (rfl) ?_
  refine tb (x := (vi (List.length a0.Hops : Int))) (p_len _) ?_
  refine tb (x := (vb (decide (24 < (List.length a0.Hops : Int))))) (d_gtr) ?_
  exact rf_ret rfl

/-! railpoint/judge.Links -/
def an_judge_Links : Ann := .seq (.reg 0 [] [] []) (.seq (.seq (.reg 0 [] [] []) (.seq (.reg 0 [] [] []) (.cond none (.seq (.reg 0 [] [] []) (.no)) (.no)))) (.seq (.seq (.reg 0 [] [] []) (.cond none (.seq (.reg 0 [] [] []) (.no)) (.no))) (.seq (.reg 0 [] [] []) (.no))))
noncomputable def sem_judge_Links (n : Nat) (xs : List V) : Option V := if xs.length ≤ 23 then denF Try.prog (envOf [(14, (sem_topo_Check n)), (29, (sem_slices_ContainsFunc_api_Fate_api_Fate (envOf [(30, (sem_judge_Links_1 n))]) n)), (31, (sem_judge_Count n)), (30, (sem_judge_Links_1 n))]) n Try.f12 an_judge_Links xs else none
theorem ok_judge_Links (n : Nat) : SemOk Try.prog DW 12 (sem_judge_Links n) := fun xs y h => by
  unfold sem_judge_Links at h
  split at h
  · rename_i hl
    exact denF_ok stb Try.func12 (by kernel_rfl) (envOf_ok (semsOk_cons (ok_topo_Check n) (semsOk_cons (ok_slices_ContainsFunc_api_Fate_api_Fate (envOf_ok (semsOk_cons (ok_judge_Links_1 n) semsOk_nil)) n) (semsOk_cons (ok_judge_Count n) (semsOk_cons (ok_judge_Links_1 n) semsOk_nil))))) (by rw [Try.ntmps12]; exact hl) h
  · cases h
theorem eq_judge_Links (n : Nat) (x0 x1 : V) : sem_judge_Links n [x0, x1] =
 (V.cellsO x0).bind fun v1 =>
 (ldk (some 3) (List.drop 0 v1)).bind fun v2 =>
 ((sem_topo_Check n) [v2]).bind fun v3 =>
 (bin2 Try.prog BinOp.neq 31 (ot 9) (Operand.const Go.Value.nilIface) v3 vn).bind fun v4 =>
 condV v4 (
 some (V.tup [(V.sl []), v3])) (
 (lenS [x1]).bind fun v5 =>
 (bin2 Try.prog BinOp.gtr 3 (ot 13) (oc 200) v5 (vi 200)).bind fun v6 =>
 (guardV v6 false (some x1)).bind fun v7 =>
 (guardV v6 false (((sem_slices_ContainsFunc_api_Fate_api_Fate (envOf [(30, (sem_judge_Links_1 n))]) n) [v7, (V.fn 30 [])]).bind fun v8 =>
 some v8)).bind fun v9 =>
 (pickV v6 (vb true) v9).bind fun v10 =>
 condV v10 (
 (scal1 Try.prog (Instr.makeInterface 79) (vi 4)).bind fun v11 =>
 some (V.tup [(V.sl []), v11])) (
 (ldk (some 3) (List.drop 0 v1)).bind fun v12 =>
 ((sem_judge_Count n) [v12, x1]).bind fun v13 =>
 some (V.tup [v13, vn]))) := by kernel_rfl
noncomputable def t_judge_Links (a0 : T_Topo) (a1 : (List T_Fate)) : Option ((List Int) × Int) :=
 (t_topo_Check a0).bind fun r4 =>
 if (!decide (r4 = 0)) = true then (
 some ([], r4)) else (
 (gd (!(decide (200 < (List.length a1 : Int)))) default (t_slices_ContainsFunc_api_Fate_api_Fate a1 (fun (a12 : T_Fate) => t_judge_Links_1 a12 ))).bind fun r15 =>
 if ((decide (200 < (List.length a1 : Int))) || r15) = true then (
 some ([], 4)) else (
 (t_judge_Count a0 a1).bind fun r21 =>
 some (r21, 0)))
theorem ty_judge_Links {n : Nat} (hn : bigN ≤ n) (a0 : T_Topo) (a1 : (List T_Fate)) : Rv (fun x : ((List Int) × Int) => V.tup [(V.sl (List.map cI x.1)), (eV x.2)]) (sem_judge_Links n [(T_Topo.e a0), (V.sl (List.map T_Fate.c a1))]) (t_judge_Links a0 a1) := by
  rw [eq_judge_Links]
  unfold t_judge_Links
  refine tb (x := (T_Topo.c a0)) rfl ?_
  refine tb (x := (T_Topo.e a0)) (rfl) ?_
  refine tbo (ty_topo_Check hn a0) fun r4 => ?_
  refine tb (x := (vb (!decide (r4 = 0)))) (p_err_neq _) ?_
  refine tcond (fun h6 => ?_) (fun h6 => ?_)
  · exact rf_ret rfl
  · refine tb (x := (vi (List.length a1 : Int))) (p_len _) ?_
    refine tb (x := (vb (decide (200 < (List.length a1 : Int))))) (d_gtr) ?_
    refine tg_f (x := (V.sl (List.map T_Fate.c a1))) (fun h9 => rfl) ?_
    refine tgo_f (fun h11 => by simp only [gv_t h11]; exact rf_bind_some (ty_slices_ContainsFunc_api_Fate_api_Fate (E := (envOf [(30, (sem_judge_Links_1 n))])) (x1 := (V.fn 30 [])) (g1 := (fun (a12 : T_Fate) => t_judge_Links_1 a12 )) hn a1 (fun a12 => ty_judge_Links_1 hn a12 ))) fun r15 => ?_
    refine tb (x := (vb ((decide (200 < (List.length a1 : Int))) || r15))) (pick_or (fun h9 => gv_t (not_f h9))) ?_
    refine tcond (fun h17 => ?_) (fun h17 => ?_)
    · refine tb (x := (eV 4)) (p_mkE (by decide)) ?_
      exact rf_ret rfl
    · refine tb (x := (T_Topo.e a0)) (rfl) ?_
      refine tbo (ty_judge_Count hn a0 a1) fun r21 => ?_
      exact rf_ret rfl

/-! railpoint/cube.Header -/
def an_cube_Header : Ann := .seq (.reg 0 [] [] []) (.seq (.reg 0 [] [] []) (.no))
noncomputable def sem_cube_Header (n : Nat) (xs : List V) : Option V := if xs.length ≤ 9 then denF Try.prog (envOf []) n Try.f33 an_cube_Header xs else none
theorem ok_cube_Header (n : Nat) : SemOk Try.prog DW 33 (sem_cube_Header n) := fun xs y h => by
  unfold sem_cube_Header at h
  split at h
  · rename_i hl
    exact denF_ok stb Try.func33 (by kernel_rfl) (envOf_ok semsOk_nil) (by rw [Try.ntmps33]; exact hl) h
  · cases h
theorem eq_cube_Header (n : Nat) (x0 : V) : sem_cube_Header n [x0] =
 (bin2 Try.prog BinOp.geq 3 (ot 3) (oc 0) x0 (vi 0)).bind fun v1 =>
 (guardV v1 true (some x0)).bind fun v2 =>
 (guardV v1 true ((bin2 Try.prog BinOp.lss 3 (ot 6) (oc 16) v2 (vi 16)).bind fun v3 =>
 some v3)).bind fun v4 =>
 (pickV v1 v4 (vb false)).bind fun v5 =>
 some v5 := by kernel_rfl
noncomputable def t_cube_Header (a0 : Int) : Option Bool :=
 some ((decide (0 ≤ a0)) && (decide (a0 < 16)))
theorem ty_cube_Header {n : Nat} (hn : bigN ≤ n) (a0 : Int) : Rv (fun x : Bool => (vb x)) (sem_cube_Header n [(vi a0)]) (t_cube_Header a0) := by
  rw [eq_cube_Header]
  unfold t_cube_Header
  refine tb (x := (vb (decide (0 ≤ a0)))) (d_geq) ?_
  refine tg (x := (vi a0)) (fun h2 => rfl) ?_
  refine tg (x := (vb (decide (a0 < 16)))) (fun h4 => by simp only [gv_t h4]; exact bind_some_eq (d_lss)) ?_
  refine tb (x := (vb ((decide (0 ≤ a0)) && (decide (a0 < 16))))) (pick_and (fun h9 => gv_t h9)) ?_
  exact rf_ret rfl

/-! railpoint/cube.Check -/
def an_cube_Check : Ann := .seq (.reg 0 [] [] []) (.seq (.blk none (.seq (.reg 0 [] [] []) (.cond none (.seq (.reg 0 [] [] []) (.no)) (.seq (.reg 0 [] [] []) (.cond none (.seq (.reg 0 [] [] []) (.no)) (.no)))))) (.seq (.reg 0 [] [] []) (.no)))
noncomputable def sem_cube_Check (n : Nat) (xs : List V) : Option V := if xs.length ≤ 23 then denF Try.prog (envOf [(33, (sem_cube_Header n))]) n Try.f66 an_cube_Check xs else none
theorem ok_cube_Check (n : Nat) : SemOk Try.prog DW 66 (sem_cube_Check n) := fun xs y h => by
  unfold sem_cube_Check at h
  split at h
  · rename_i hl
    exact denF_ok stb Try.func66 (by kernel_rfl) (envOf_ok (semsOk_cons (ok_cube_Header n) semsOk_nil)) (by rw [Try.ntmps66]; exact hl) h
  · cases h
theorem eq_cube_Check (n : Nat) (x0 : V) : sem_cube_Check n [x0] =
 (V.cellsO x0).bind fun v1 =>
 (ldk none (List.drop 0 v1)).bind fun v2 =>
 ((sem_cube_Header n) [v2]).bind fun v3 =>
 (scal1 Try.prog (Op.unary Go.UnOp.not) v3).bind fun v4 =>
 (guardV v4 false (some V.any)).bind fun v5 =>
 (guardV v4 false ((gate v4 false (ldk none (List.drop 1 v1))).bind fun v6 =>
 some v6)).bind fun v7 =>
 (guardV v4 false (((sem_cube_Header n) [v7]).bind fun v8 =>
 some v8)).bind fun v9 =>
 (guardV v4 false ((scal1 Try.prog (Op.unary Go.UnOp.not) v9).bind fun v10 =>
 some v10)).bind fun v11 =>
 (pickV v4 (vb true) v11).bind fun v12 =>
 condV v12 (
 (scal1 Try.prog (Instr.makeInterface 79) (vi 1)).bind fun v13 =>
 some v13) (
 (ldk none (List.drop 1 v1)).bind fun v14 =>
 (ldk none (List.drop 0 v1)).bind fun v15 =>
 (bin2 Try.prog BinOp.andNot 3 (ot 17) (ot 19) v14 v15).bind fun v16 =>
 (bin2 Try.prog BinOp.neq 3 (ot 20) (oc 0) v16 (vi 0)).bind fun v17 =>
 condV v17 (
 (scal1 Try.prog (Instr.makeInterface 79) (vi 3)).bind fun v18 =>
 some v18) (
 some vn)) := by kernel_rfl
noncomputable def t_cube_Check (a0 : T_Cube) : Option Int :=
 (t_cube_Header a0.Mask).bind fun r4 =>
 (gd (!(!r4)) default (t_cube_Header a0.Bits)).bind fun r14 =>
 if ((!r4) || (!r14)) = true then (
 some 1) else (
 if (decide ((bits .andNot .i64 a0.Bits a0.Mask) ≠ 0)) = true then (
 some 3) else (
 some 0))
theorem ty_cube_Check {n : Nat} (hn : bigN ≤ n) (a0 : T_Cube) : Rv (fun x : Int => (eV x)) (sem_cube_Check n [(T_Cube.e a0)]) (t_cube_Check a0) := by
  rw [eq_cube_Check]
  unfold t_cube_Check
  refine tb (x := (T_Cube.c a0)) rfl ?_
  refine tb (x := (vi a0.Mask)) (rfl) ?_
  refine tbo (ty_cube_Header hn a0.Mask) fun r4 => ?_
  refine tb (x := (vb (!r4))) (d_not) ?_
  refine tg_f (x := V.any) (fun h6 => rfl) ?_
  refine tg_f (x := (vi a0.Bits)) (fun h8 => bind_some_eq (gate_pos (not_t h8) (rfl))) ?_
  refine tgo_f (fun h11 => by simp only [gv_t h11]; exact rf_bind_some (ty_cube_Header hn a0.Bits)) fun r14 => ?_
  refine tg_f (x := (vb (!r14))) (fun h15 => by simp only [gv_t h15]; exact bind_some_eq (d_not)) ?_
  refine tb (x := (vb ((!r4) || (!r14)))) (pick_or (fun h9 => gv_t (not_f h9))) ?_
  refine tcond (fun h19 => ?_) (fun h19 => ?_)
  · refine tb (x := (eV 1)) (p_mkE (by decide)) ?_
    exact rf_ret rfl
  · refine tb (x := (vi a0.Bits)) (rfl) ?_
    refine tb (x := (vi a0.Mask)) (rfl) ?_
    refine tb (x := (vi (bits .andNot .i64 a0.Bits a0.Mask))) (d_andNot) ?_
    refine tb (x := (vb (decide ((bits .andNot .i64 a0.Bits a0.Mask) ≠ 0)))) (d_neq) ?_
    refine tcond (fun h25 => ?_) (fun h25 => ?_)
    · refine tb (x := (eV 3)) (p_mkE (by decide)) ?_
      exact rf_ret rfl
    · exact rf_ret rfl

/-! railpoint/rule.Check -/
def an_rule_Check : Ann := .seq (.reg 0 [] [] []) (.seq (.seq (.reg 0 [] [] []) (.cond none (.seq (.reg 0 [] [] []) (.no)) (.no))) (.seq (.seq (.reg 0 [] [] []) (.seq (.reg 0 [] [] []) (.cond none (.seq (.reg 0 [] [] []) (.no)) (.no)))) (.seq (.seq (.reg 0 [] [] []) (.cond none (.seq (.reg 0 [] [] []) (.no)) (.no))) (.seq (.reg 0 [] [] []) (.no)))))
noncomputable def sem_rule_Check (n : Nat) (xs : List V) : Option V := if xs.length ≤ 58 then denF Try.prog (envOf [(33, (sem_cube_Header n)), (66, (sem_cube_Check n))]) n Try.f49 an_rule_Check xs else none
theorem ok_rule_Check (n : Nat) : SemOk Try.prog DW 49 (sem_rule_Check n) := fun xs y h => by
  unfold sem_rule_Check at h
  split at h
  · rename_i hl
    exact denF_ok stb Try.func49 (by kernel_rfl) (envOf_ok (semsOk_cons (ok_cube_Header n) (semsOk_cons (ok_cube_Check n) semsOk_nil))) (by rw [Try.ntmps49]; exact hl) h
  · cases h
theorem eq_rule_Check (n : Nat) (x0 : V) : sem_rule_Check n [x0] =
 (V.cellsO x0).bind fun v1 =>
 (ldk none (List.drop 0 v1)).bind fun v2 =>
 (bin2 Try.prog BinOp.lss 3 (ot 5) (oc 0) v2 (vi 0)).bind fun v3 =>
 (guardV v3 false (some V.any)).bind fun v4 =>
 (guardV v3 false ((gate v3 false (ldk none (List.drop 0 v1))).bind fun v5 =>
 some v5)).bind fun v6 =>
 (guardV v3 false ((bin2 Try.prog BinOp.gtr 3 (ot 9) (oc 99) v6 (vi 99)).bind fun v7 =>
 some v7)).bind fun v8 =>
 (pickV v3 (vb true) v8).bind fun v9 =>
 (guardV v9 false (some V.any)).bind fun v10 =>
 (guardV v9 false ((gate v9 false (ldk none (List.drop 3 v1))).bind fun v11 =>
 some v11)).bind fun v12 =>
 (guardV v9 false ((bin2 Try.prog BinOp.lss 3 (ot 14) (oc 0) v12 (vi 0)).bind fun v13 =>
 some v13)).bind fun v14 =>
 (pickV v9 (vb true) v14).bind fun v15 =>
 (guardV v15 false (some V.any)).bind fun v16 =>
 (guardV v15 false ((gate v15 false (ldk none (List.drop 3 v1))).bind fun v17 =>
 some v17)).bind fun v18 =>
 (guardV v15 false ((bin2 Try.prog BinOp.gtr 3 (ot 19) (oc 4) v18 (vi 4)).bind fun v19 =>
 some v19)).bind fun v20 =>
 (pickV v15 (vb true) v20).bind fun v21 =>
 (guardV v21 false (some V.any)).bind fun v22 =>
 (guardV v21 false ((gate v21 false (ldk none (List.drop 4 v1))).bind fun v23 =>
 some v23)).bind fun v24 =>
 (guardV v21 false (((sem_cube_Header n) [v24]).bind fun v25 =>
 some v25)).bind fun v26 =>
 (guardV v21 false ((scal1 Try.prog (Op.unary Go.UnOp.not) v26).bind fun v27 =>
 some v27)).bind fun v28 =>
 (pickV v21 (vb true) v28).bind fun v29 =>
 (guardV v29 false (some V.any)).bind fun v30 =>
 (guardV v29 false ((gate v29 false (ldk none (List.drop 5 v1))).bind fun v31 =>
 some v31)).bind fun v32 =>
 (guardV v29 false (((sem_cube_Header n) [v32]).bind fun v33 =>
 some v33)).bind fun v34 =>
 (guardV v29 false ((scal1 Try.prog (Op.unary Go.UnOp.not) v34).bind fun v35 =>
 some v35)).bind fun v36 =>
 (pickV v29 (vb true) v36).bind fun v37 =>
 condV v37 (
 (scal1 Try.prog (Instr.makeInterface 79) (vi 1)).bind fun v38 =>
 some v38) (
 (ldk (some 2) (List.drop 1 v1)).bind fun v39 =>
 ((sem_cube_Check n) [v39]).bind fun v40 =>
 (bin2 Try.prog BinOp.neq 31 (ot 38) (Operand.const Go.Value.nilIface) v40 vn).bind fun v41 =>
 condV v41 (
 some v40) (
 (ldk none (List.drop 5 v1)).bind fun v42 =>
 (ldk none (List.drop 4 v1)).bind fun v43 =>
 (bin2 Try.prog BinOp.andNot 3 (ot 42) (ot 44) v42 v43).bind fun v44 =>
 (bin2 Try.prog BinOp.neq 3 (ot 45) (oc 0) v44 (vi 0)).bind fun v45 =>
 (guardV v45 false (some V.any)).bind fun v46 =>
 (guardV v45 false ((gate v45 false (ldk none (List.drop 3 v1))).bind fun v47 =>
 some v47)).bind fun v48 =>
 (guardV v45 false ((bin2 Try.prog BinOp.eql 3 (ot 49) (oc 0) v48 (vi 0)).bind fun v49 =>
 some v49)).bind fun v50 =>
 (guardV v45 false (some v50)).bind fun v51 =>
 (guardV v51 true (some V.any)).bind fun v52 =>
 (guardV v51 true ((gate v51 true (ldk none (List.drop 4 v1))).bind fun v53 =>
 some v53)).bind fun v54 =>
 (guardV v51 true ((bin2 Try.prog BinOp.neq 3 (ot 53) (oc 0) v54 (vi 0)).bind fun v55 =>
 some v55)).bind fun v56 =>
 (guardV v45 false ((pickV v51 v56 (vb false)).bind fun v57 =>
 some v57)).bind fun v58 =>
 (pickV v45 (vb true) v58).bind fun v59 =>
 condV v59 (
 (scal1 Try.prog (Instr.makeInterface 79) (vi 3)).bind fun v60 =>
 some v60) (
 some vn))) := by kernel_rfl
noncomputable def t_rule_Check (a0 : T_Rule) : Option Int :=
 (gd (!((((decide (a0.Prio < 0)) || (decide (99 < a0.Prio))) || (decide (a0.Out < 0))) || (decide (4 < a0.Out)))) default (t_cube_Header a0.Set)).bind fun r39 =>
 (gd (!(((((decide (a0.Prio < 0)) || (decide (99 < a0.Prio))) || (decide (a0.Out < 0))) || (decide (4 < a0.Out))) || (!r39))) default (t_cube_Header a0.Value)).bind fun r52 =>
 if ((((((decide (a0.Prio < 0)) || (decide (99 < a0.Prio))) || (decide (a0.Out < 0))) || (decide (4 < a0.Out))) || (!r39)) || (!r52)) = true then (
 some 1) else (
 (t_cube_Check a0.Cube).bind fun r61 =>
 if (!decide (r61 = 0)) = true then (
 some r61) else (
 if ((decide ((bits .andNot .i64 a0.Value a0.Set) ≠ 0)) || ((decide (a0.Out = 0)) && (decide (a0.Set ≠ 0)))) = true then (
 some 3) else (
 some 0)))
theorem ty_rule_Check {n : Nat} (hn : bigN ≤ n) (a0 : T_Rule) : Rv (fun x : Int => (eV x)) (sem_rule_Check n [(T_Rule.e a0)]) (t_rule_Check a0) := by
  rw [eq_rule_Check]
  unfold t_rule_Check
  refine tb (x := (T_Rule.c a0)) rfl ?_
  refine tb (x := (vi a0.Prio)) (rfl) ?_
  refine tb (x := (vb (decide (a0.Prio < 0)))) (d_lss) ?_
  refine tg_f (x := V.any) (fun h4 => rfl) ?_
  refine tg_f (x := (vi a0.Prio)) (fun h6 => bind_some_eq (gate_pos (not_t h6) (rfl))) ?_
  refine tg_f (x := (vb (decide (99 < a0.Prio)))) (fun h9 => by simp only [gv_t h9]; exact bind_some_eq (d_gtr)) ?_
  refine tb (x := (vb ((decide (a0.Prio < 0)) || (decide (99 < a0.Prio))))) (pick_or (fun h9 => gv_t (not_f h9))) ?_
  refine tg_f (x := V.any) (fun h13 => rfl) ?_
  refine tg_f (x := (vi a0.Out)) (fun h15 => bind_some_eq (gate_pos (not_t h15) (rfl))) ?_
  refine tg_f (x := (vb (decide (a0.Out < 0)))) (fun h18 => by simp only [gv_t h18]; exact bind_some_eq (d_lss)) ?_
  refine tb (x := (vb (((decide (a0.Prio < 0)) || (decide (99 < a0.Prio))) || (decide (a0.Out < 0))))) (pick_or (fun h9 => gv_t (not_f h9))) ?_
  refine tg_f (x := V.any) (fun h22 => rfl) ?_
  refine tg_f (x := (vi a0.Out)) (fun h24 => bind_some_eq (gate_pos (not_t h24) (rfl))) ?_
  refine tg_f (x := (vb (decide (4 < a0.Out)))) (fun h27 => by simp only [gv_t h27]; exact bind_some_eq (d_gtr)) ?_
  refine tb (x := (vb ((((decide (a0.Prio < 0)) || (decide (99 < a0.Prio))) || (decide (a0.Out < 0))) || (decide (4 < a0.Out))))) (pick_or (fun h9 => gv_t (not_f h9))) ?_
  refine tg_f (x := V.any) (fun h31 => rfl) ?_
  refine tg_f (x := (vi a0.Set)) (fun h33 => bind_some_eq (gate_pos (not_t h33) (rfl))) ?_
  refine tgo_f (fun h36 => by simp only [gv_t h36]; exact rf_bind_some (ty_cube_Header hn a0.Set)) fun r39 => ?_
  refine tg_f (x := (vb (!r39))) (fun h40 => by simp only [gv_t h40]; exact bind_some_eq (d_not)) ?_
  refine tb (x := (vb (((((decide (a0.Prio < 0)) || (decide (99 < a0.Prio))) || (decide (a0.Out < 0))) || (decide (4 < a0.Out))) || (!r39)))) (pick_or (fun h9 => gv_t (not_f h9))) ?_
  refine tg_f (x := V.any) (fun h44 => rfl) ?_
  refine tg_f (x := (vi a0.Value)) (fun h46 => bind_some_eq (gate_pos (not_t h46) (rfl))) ?_
  refine tgo_f (fun h49 => by simp only [gv_t h49]; exact rf_bind_some (ty_cube_Header hn a0.Value)) fun r52 => ?_
  refine tg_f (x := (vb (!r52))) (fun h53 => by simp only [gv_t h53]; exact bind_some_eq (d_not)) ?_
  refine tb (x := (vb ((((((decide (a0.Prio < 0)) || (decide (99 < a0.Prio))) || (decide (a0.Out < 0))) || (decide (4 < a0.Out))) || (!r39)) || (!r52)))) (pick_or (fun h9 => gv_t (not_f h9))) ?_
  refine tcond (fun h57 => ?_) (fun h57 => ?_)
  · refine tb (x := (eV 1)) (p_mkE (by decide)) ?_
    exact rf_ret rfl
  · refine tb (x := (T_Cube.e a0.Cube)) (rfl) ?_
    refine tbo (ty_cube_Check hn a0.Cube) fun r61 => ?_
    refine tb (x := (vb (!decide (r61 = 0)))) (p_err_neq _) ?_
    refine tcond (fun h63 => ?_) (fun h63 => ?_)
    · exact rf_ret rfl
    · refine tb (x := (vi a0.Value)) (rfl) ?_
      refine tb (x := (vi a0.Set)) (rfl) ?_
      refine tb (x := (vi (bits .andNot .i64 a0.Value a0.Set))) (d_andNot) ?_
      refine tb (x := (vb (decide ((bits .andNot .i64 a0.Value a0.Set) ≠ 0)))) (d_neq) ?_
      refine tg_f (x := V.any) (fun h68 => rfl) ?_
      refine tg_f (x := (vi a0.Out)) (fun h70 => bind_some_eq (gate_pos (not_t h70) (rfl))) ?_
      refine tg_f (x := (vb (decide (a0.Out = 0)))) (fun h73 => by simp only [gv_t h73]; exact bind_some_eq (d_eql)) ?_
      refine tg_f (x := (vb (decide (a0.Out = 0)))) (fun h76 => congrArg some (gv_t h76)) ?_
      refine tg2 (x := V.any) (fun h78 => rfl) ?_
      refine tg2 (x := (vi a0.Set)) (fun h80 => bind_some_eq (gate_pos2 (and_l h80) (and_r h80) (rfl))) ?_
      refine tg2 (x := (vb (decide (a0.Set ≠ 0)))) (fun h83 => by simp only [gv_t h83]; exact bind_some_eq (d_neq)) ?_
      refine tg_f (x := (vb ((decide (a0.Out = 0)) && (decide (a0.Set ≠ 0))))) (fun h86 => by simp only [gv_t h86]; exact bind_some_eq (pick_and (fun h9 => gv_t (and_i h86 h9)))) ?_
      refine tb (x := (vb ((decide ((bits .andNot .i64 a0.Value a0.Set) ≠ 0)) || ((decide (a0.Out = 0)) && (decide (a0.Set ≠ 0)))))) (pick_or (fun h9 => gv_t (not_f h9))) ?_
      refine tcond (fun h90 => ?_) (fun h90 => ?_)
      · refine tb (x := (eV 3)) (p_mkE (by decide)) ?_
        exact rf_ret rfl
      · exact rf_ret rfl

/-! slices.IndexFunc railpoint/api.Table railpoint/api.Rule  -/
def an_slices_IndexFunc_api_Table_api_Rule : Ann := .seq (.reg 0 [] [] []) (.seq (.seq (.reg 0 [] [] []) (.blk (some []) (.loop [.s 8] (.seq (.reg 0 [] [] []) (.seq (.cond none (.no) (.no)) (.seq (.blk none (.seq (.reg 0 [] [] []) (.seq (.reg 0 [] [] []) (.cond none (.seq (.reg 0 [] [] []) (.no)) (.no))))) (.reg 0 [] [] []))))))) (.seq (.reg 0 [] [] []) (.no)))
noncomputable def sem_slices_IndexFunc_api_Table_api_Rule (E : FuncId → List V → Option V) (n : Nat) (xs : List V) : Option V := if xs.length ≤ 19 then denF Try.prog (envJ [] E) n Try.f67 an_slices_IndexFunc_api_Table_api_Rule xs else none
theorem ok_slices_IndexFunc_api_Table_api_Rule {E : FuncId → List V → Option V} (hE : EnvOk Try.prog DW E) (n : Nat) : SemOk Try.prog DW 67 (sem_slices_IndexFunc_api_Table_api_Rule E n) := fun xs y h => by
  unfold sem_slices_IndexFunc_api_Table_api_Rule at h
  split at h
  · rename_i hl
    exact denF_ok stb Try.func67 (by kernel_rfl) (envJ_ok semsOk_nil hE) (by rw [Try.ntmps67]; exact hl) h
  · cases h
theorem eq_slices_IndexFunc_api_Table_api_Rule (E : FuncId → List V → Option V) (n : Nat) (x0 x1 : V) : sem_slices_IndexFunc_api_Table_api_Rule E n [x0, x1] =
 (lenS [x0]).bind fun v1 =>
 JoinPt (fun vs2 =>
 some (vi (-1 : Int))) fun J3 =>
 (fixN (fun rec4 vs5 =>
 (bin2 Try.prog BinOp.lss 3 (ot 8) (ot 7) (List.getD vs5 0 V.any) v1).bind fun v6 =>
 condV v6 (
 (idxS 6 x0 (List.getD vs5 0 V.any)).bind fun v7 =>
 (ldp (some 6) v7).bind fun v8 =>
 (callV (envJ [] E) x1 [v8]).bind fun v9 =>
 condV v9 (
 some (List.getD vs5 0 V.any)) (
 (bin2 Try.prog BinOp.add 3 (ot 8) (oc 1) (List.getD vs5 0 V.any) (vi 1)).bind fun v10 =>
 rec4 [v10])) (
 J3 [])) n) [(vi 0)] := by kernel_rfl
noncomputable def t_slices_IndexFunc_api_Table_api_Rule (a0 : (List T_Rule)) (g1 : T_Rule → Option Bool) : Option Int :=
 join (fun (s4 : Unit) =>
 some (-1 : Int)) fun j5 =>
 loopI a0 (fun (i13 : Int) x14 (s9 : Unit) k10 =>
 (g1 x14).bind fun r22 =>
 if r22 = true then (
 some i13) else (
 k10 ())) (fun (s9 : Unit) =>
 j5 ()) ()
theorem ty_slices_IndexFunc_api_Table_api_Rule {E : FuncId → List V → Option V} {n : Nat} (hn : bigN ≤ n) (a0 : (List T_Rule)) {x1 : V} {g1 : T_Rule → Option Bool} (hg_g1 : ∀ a0, Rv (fun x : Bool => (vb x)) (callV E x1 [(T_Rule.e a0)]) (g1 a0)) : Rv (fun x : Int => (vi x)) (sem_slices_IndexFunc_api_Table_api_Rule E n [(V.sl (List.map T_Rule.c a0)), x1]) (t_slices_IndexFunc_api_Table_api_Rule a0 g1) := by
  rw [eq_slices_IndexFunc_api_Table_api_Rule]
  unfold t_slices_IndexFunc_api_Table_api_Rule
  refine tb (x := (vi (List.length a0 : Int))) (p_len _) ?_
  refine tjoin (mk := fun s4 : Unit => []) (fun s4 => ?_) fun J3 j5 h6 => ?_
  · exact rf_ret rfl
  · refine rf_loopI (mk := fun (i13 : Int) (s9 : Unit) => [(vi (i13 : Int))]) hn a0 () (fun i13 x14 h15 h16 h17 s9 rec7 k10 h11 => ?_) (fun s9 rec26 h25 => ?_)
    · refine tb (x := (vb (decide ((i13 : Int) < (List.length a0 : Int))))) (d_lss) ?_
      refine tcond_t h17 ?_
      refine tb (x := (V.ptr (T_Rule.c x14))) (p_idx_at (c := T_Rule.c) (fun _ => rfl) h15) ?_
      refine tb (x := (T_Rule.e x14)) (rfl) ?_
      refine tbo ((callV_J0 ▸ hg_g1 x14)) fun r22 => ?_
      refine tcond (fun h23 => ?_) (fun h23 => ?_)
      · exact rf_ret rfl
      · refine tb (x := (vi ((i13 : Int) + 1))) (p_incN h16) ?_
        exact h11 ()
    · refine tb (x := (vb (decide ((List.length a0 : Int) < (List.length a0 : Int))))) (d_lss) ?_
      refine tcond_f h25 ?_
      exact h6 ()

/-! slices.ContainsFunc railpoint/api.Table railpoint/api.Rule  -/
def an_slices_ContainsFunc_api_Table_api_Rule : Ann := .seq (.reg 0 [] [] []) (.seq (.reg 0 [] [] []) (.no))
noncomputable def sem_slices_ContainsFunc_api_Table_api_Rule (E : FuncId → List V → Option V) (n : Nat) (xs : List V) : Option V := if xs.length ≤ 9 then denF Try.prog (envJ [(67, (sem_slices_IndexFunc_api_Table_api_Rule E n))] E) n Try.f51 an_slices_ContainsFunc_api_Table_api_Rule xs else none
theorem ok_slices_ContainsFunc_api_Table_api_Rule {E : FuncId → List V → Option V} (hE : EnvOk Try.prog DW E) (n : Nat) : SemOk Try.prog DW 51 (sem_slices_ContainsFunc_api_Table_api_Rule E n) := fun xs y h => by
  unfold sem_slices_ContainsFunc_api_Table_api_Rule at h
  split at h
  · rename_i hl
    exact denF_ok stb Try.func51 (by kernel_rfl) (envJ_ok (semsOk_cons (ok_slices_IndexFunc_api_Table_api_Rule hE n) semsOk_nil) hE) (by rw [Try.ntmps51]; exact hl) h
  · cases h
theorem eq_slices_ContainsFunc_api_Table_api_Rule (E : FuncId → List V → Option V) (n : Nat) (x0 x1 : V) : sem_slices_ContainsFunc_api_Table_api_Rule E n [x0, x1] =
 ((sem_slices_IndexFunc_api_Table_api_Rule E n) [x0, x1]).bind fun v1 =>
 (bin2 Try.prog BinOp.geq 3 (ot 7) (oc 0) v1 (vi 0)).bind fun v2 =>
 some v2 := by kernel_rfl
noncomputable def t_slices_ContainsFunc_api_Table_api_Rule (a0 : (List T_Rule)) (g1 : T_Rule → Option Bool) : Option Bool :=
 (t_slices_IndexFunc_api_Table_api_Rule a0 g1).bind fun r2 =>
 some (decide (0 ≤ r2))
theorem ty_slices_ContainsFunc_api_Table_api_Rule {E : FuncId → List V → Option V} {n : Nat} (hn : bigN ≤ n) (a0 : (List T_Rule)) {x1 : V} {g1 : T_Rule → Option Bool} (hg_g1 : ∀ a0, Rv (fun x : Bool => (vb x)) (callV E x1 [(T_Rule.e a0)]) (g1 a0)) : Rv (fun x : Bool => (vb x)) (sem_slices_ContainsFunc_api_Table_api_Rule E n [(V.sl (List.map T_Rule.c a0)), x1]) (t_slices_ContainsFunc_api_Table_api_Rule a0 g1) := by
  rw [eq_slices_ContainsFunc_api_Table_api_Rule]
  unfold t_slices_ContainsFunc_api_Table_api_Rule
  refine tbo (ty_slices_IndexFunc_api_Table_api_Rule (E := E) (x1 := x1) (g1 := g1) hn a0 hg_g1) fun r2 => ?_
  refine tb (x := (vb (decide (0 ≤ r2)))) (d_geq) ?_
  exact rf_ret rfl

/-! railpoint/rule.Key -/
def an_rule_Key : Ann := .seq (.reg 0 [] [] []) (.seq (.reg 0 [] [] []) (.no))
noncomputable def sem_rule_Key (n : Nat) (xs : List V) : Option V := if xs.length ≤ 17 then denF Try.prog (envOf []) n Try.f53 an_rule_Key xs else none
theorem ok_rule_Key (n : Nat) : SemOk Try.prog DW 53 (sem_rule_Key n) := fun xs y h => by
  unfold sem_rule_Key at h
  split at h
  · rename_i hl
    exact denF_ok stb Try.func53 (by kernel_rfl) (envOf_ok semsOk_nil) (by rw [Try.ntmps53]; exact hl) h
  · cases h
theorem eq_rule_Key (n : Nat) (x0 x1 : V) : sem_rule_Key n [x0, x1] =
 (V.cellsO x0).bind fun v1 =>
 (V.cellsO x1).bind fun v2 =>
 (ldk none (List.drop 0 v1)).bind fun v3 =>
 (ldk none (List.drop 0 v2)).bind fun v4 =>
 (bin2 Try.prog BinOp.eql 3 (ot 6) (ot 8) v3 v4).bind fun v5 =>
 (guardV v5 true (some V.any)).bind fun v6 =>
 (guardV v5 true ((gate v5 true (ldk (some 2) (List.drop 1 v1))).bind fun v7 =>
 some v7)).bind fun v8 =>
 (guardV v5 true (some V.any)).bind fun v9 =>
 (guardV v5 true ((gate v5 true (ldk (some 2) (List.drop 1 v2))).bind fun v10 =>
 some v10)).bind fun v11 =>
 (guardV v5 true ((bin2 Try.prog BinOp.eql 35 (ot 12) (ot 14) v8 v11).bind fun v12 =>
 some v12)).bind fun v13 =>
 (pickV v5 v13 (vb false)).bind fun v14 =>
 some v14 := by kernel_rfl
noncomputable def t_rule_Key (a0 : T_Rule) (a1 : T_Rule) : Option Bool :=
 some ((decide (a0.Prio = a1.Prio)) && (decide (a0.Cube = a1.Cube)))
theorem ty_rule_Key {n : Nat} (hn : bigN ≤ n) (a0 : T_Rule) (a1 : T_Rule) : Rv (fun x : Bool => (vb x)) (sem_rule_Key n [(T_Rule.e a0), (T_Rule.e a1)]) (t_rule_Key a0 a1) := by
  rw [eq_rule_Key]
  unfold t_rule_Key
  refine tb (x := (T_Rule.c a0)) rfl ?_
  refine tb (x := (T_Rule.c a1)) rfl ?_
  refine tb (x := (vi a0.Prio)) (rfl) ?_
  refine tb (x := (vi a1.Prio)) (rfl) ?_
  refine tb (x := (vb (decide (a0.Prio = a1.Prio)))) (d_eql) ?_
  refine tg (x := V.any) (fun h6 => rfl) ?_
  refine tg (x := (T_Cube.e a0.Cube)) (fun h8 => bind_some_eq (gate_pos h8 (rfl))) ?_
  refine tg (x := V.any) (fun h11 => rfl) ?_
  refine tg (x := (T_Cube.e a1.Cube)) (fun h13 => bind_some_eq (gate_pos h13 (rfl))) ?_
  refine tg (x := (vb (decide (a0.Cube = a1.Cube)))) (fun h16 => by simp only [gv_t h16]; exact bind_some_eq (T_Cube.eql a0.Cube a1.Cube)) ?_
  refine tb (x := (vb ((decide (a0.Prio = a1.Prio)) && (decide (a0.Cube = a1.Cube))))) (pick_and (fun h9 => gv_t h9)) ?_
  exact rf_ret rfl

/-! railpoint/rule.Table$1 -/
def an_rule_Table_1 : Ann := .seq (.reg 0 [] [] []) (.seq (.reg 0 [] [] []) (.no))
noncomputable def sem_rule_Table_1 (n : Nat) (xs : List V) : Option V := if xs.length ≤ 7 then denF Try.prog (envOf [(53, (sem_rule_Key n))]) n Try.f65 an_rule_Table_1 xs else none
theorem ok_rule_Table_1 (n : Nat) : SemOk Try.prog DW 65 (sem_rule_Table_1 n) := fun xs y h => by
  unfold sem_rule_Table_1 at h
  split at h
  · rename_i hl
    exact denF_ok stb Try.func65 (by kernel_rfl) (envOf_ok (semsOk_cons (ok_rule_Key n) semsOk_nil)) (by rw [Try.ntmps65]; exact hl) h
  · cases h
theorem eq_rule_Table_1 (n : Nat) (x0 x1 : V) : sem_rule_Table_1 n [x0, x1] =
 (V.cellsO x0).bind fun v1 =>
 (ldk (some 6) (List.drop 0 v1)).bind fun v2 =>
 (ldp (some 6) x1).bind fun v3 =>
 ((sem_rule_Key n) [v2, v3]).bind fun v4 =>
 some v4 := by kernel_rfl
noncomputable def t_rule_Table_1 (a0 : T_Rule) (a1 : T_Rule) : Option Bool :=
 (t_rule_Key a0 a1).bind fun r5 =>
 some r5
theorem ty_rule_Table_1 {n : Nat} (hn : bigN ≤ n) (a0 : T_Rule) (a1 : T_Rule) : Rv (fun x : Bool => (vb x)) (sem_rule_Table_1 n [(T_Rule.e a0), (V.ptr (T_Rule.c a1))]) (t_rule_Table_1 a0 a1) := by
  rw [eq_rule_Table_1]
  unfold t_rule_Table_1
  refine tb (x := (T_Rule.c a0)) rfl ?_
  refine tb (x := (T_Rule.e a0)) (rfl) ?_
  refine tb (x := (T_Rule.e a1)) (rfl) ?_
  refine tbo (ty_rule_Key hn a0 a1) fun r5 => ?_
  exact rf_ret rfl

/-! railpoint/rule.Table -/
def an_rule_Table : Ann := .seq (.reg 0 [] [] []) (.seq (.seq (.reg 0 [] [] []) (.cond none (.seq (.reg 0 [] [] []) (.no)) (.no))) (.seq (.seq (.reg 0 [] [] []) (.blk (some []) (.loop [.s 12] (.seq (.reg 0 [] [] []) (.seq (.cond none (.no) (.no)) (.seq (.blk none (.seq (.reg 0 [] [] []) (.seq (.seq (.reg 0 [4] [] []) (.seq (.reg 0 [] [] []) (.cond none (.seq (.reg 0 [] [] []) (.no)) (.no)))) (.seq (.reg 0 [] [] []) (.cond none (.seq (.reg 0 [] [] []) (.no)) (.no)))))) (.reg 0 [] [] []))))))) (.seq (.reg 0 [] [] []) (.no))))
noncomputable def sem_rule_Table (n : Nat) (xs : List V) : Option V := if xs.length ≤ 29 then denF Try.prog (envOf [(49, (sem_rule_Check n)), (51, (sem_slices_ContainsFunc_api_Table_api_Rule (envOf [(65, (sem_rule_Table_1 n))]) n)), (65, (sem_rule_Table_1 n))]) n Try.f45 an_rule_Table xs else none
theorem ok_rule_Table (n : Nat) : SemOk Try.prog DW 45 (sem_rule_Table n) := fun xs y h => by
  unfold sem_rule_Table at h
  split at h
  · rename_i hl
    exact denF_ok stb Try.func45 (by kernel_rfl) (envOf_ok (semsOk_cons (ok_rule_Check n) (semsOk_cons (ok_slices_ContainsFunc_api_Table_api_Rule (envOf_ok (semsOk_cons (ok_rule_Table_1 n) semsOk_nil)) n) (semsOk_cons (ok_rule_Table_1 n) semsOk_nil)))) (by rw [Try.ntmps45]; exact hl) h
  · cases h
theorem eq_rule_Table (n : Nat) (x0 : V) : sem_rule_Table n [x0] =
 (lenS [x0]).bind fun v1 =>
 (bin2 Try.prog BinOp.gtr 3 (ot 7) (oc 12) v1 (vi 12)).bind fun v2 =>
 condV v2 (
 (scal1 Try.prog (Instr.makeInterface 79) (vi 4)).bind fun v3 =>
 some v3) (
 (lenS [x0]).bind fun v4 =>
 JoinPt (fun vs5 =>
 some vn) fun J6 =>
 (fixN (fun rec7 vs8 =>
 (bin2 Try.prog BinOp.lss 3 (ot 12) (ot 11) (List.getD vs8 0 V.any) v4).bind fun v9 =>
 condV v9 (
 (idxS 6 x0 (List.getD vs8 0 V.any)).bind fun v10 =>
 (ldp (some 6) v10).bind fun v11 =>
 (spliceV [(vi 0), (vi 0), (vi 0), (vi 0), (vi 0), (vi 0)] 0 6 v11).bind fun v12 =>
 (ldp (some 6) (V.ptr (aggL v12))).bind fun v13 =>
 ((sem_rule_Check n) [v13]).bind fun v14 =>
 (bin2 Try.prog BinOp.neq 31 (ot 19) (Operand.const Go.Value.nilIface) v14 vn).bind fun v15 =>
 condV v15 (
 some v14) (
 (slc (some 6) x0 none (some (List.getD vs8 0 V.any))).bind fun v16 =>
 ((sem_slices_ContainsFunc_api_Table_api_Rule (envOf [(65, (sem_rule_Table_1 n))]) n) [v16, (V.fn 65 [(V.ptr (aggL v12))])]).bind fun v17 =>
 condV v17 (
 (scal1 Try.prog (Instr.makeInterface 79) (vi 7)).bind fun v18 =>
 some v18) (
 (bin2 Try.prog BinOp.add 3 (ot 12) (oc 1) (List.getD vs8 0 V.any) (vi 1)).bind fun v19 =>
 rec7 [v19]))) (
 J6 [])) n) [(vi 0)]) := by kernel_rfl
noncomputable def t_rule_Table (a0 : (List T_Rule)) : Option Int :=
 if (decide (12 < (List.length a0 : Int))) = true then (
 some 4) else (
 join (fun (s8 : Unit) =>
 some 0) fun j9 =>
 loopI a0 (fun (i17 : Int) x18 (s13 : Unit) k14 =>
 (t_rule_Check x18).bind fun r28 =>
 if (!decide (r28 = 0)) = true then (
 some r28) else (
 (slc_hi a0 i17).bind fun r32 =>
 (t_slices_ContainsFunc_api_Table_api_Rule r32 (fun (a33 : T_Rule) => t_rule_Table_1 a33 x18)).bind fun r35 =>
 if r35 = true then (
 some 7) else (
 k14 ()))) (fun (s13 : Unit) =>
 j9 ()) ())
theorem ty_rule_Table {n : Nat} (hn : bigN ≤ n) (a0 : (List T_Rule)) : Rv (fun x : Int => (eV x)) (sem_rule_Table n [(V.sl (List.map T_Rule.c a0))]) (t_rule_Table a0) := by
  rw [eq_rule_Table]
  unfold t_rule_Table
  refine tb (x := (vi (List.length a0 : Int))) (p_len _) ?_
  refine tb (x := (vb (decide (12 < (List.length a0 : Int))))) (d_gtr) ?_
  refine tcond (fun h3 => ?_) (fun h3 => ?_)
  · refine tb (x := (eV 4)) (p_mkE (by decide)) ?_
    exact rf_ret rfl
  · refine tb (x := (vi (List.length a0 : Int))) (p_len _) ?_
    refine tjoin (mk := fun s8 : Unit => []) (fun s8 => ?_) fun J7 j9 h10 => ?_
    · exact rf_ret rfl
    · refine rf_loopI (mk := fun (i17 : Int) (s13 : Unit) => [(vi (i17 : Int))]) hn a0 () (fun i17 x18 h19 h20 h21 s13 rec11 k14 h15 => ?_) (fun s13 rec40 h39 => ?_)
      · refine tb (x := (vb (decide ((i17 : Int) < (List.length a0 : Int))))) (d_lss) ?_
        refine tcond_t h21 ?_
        refine tb (x := (V.ptr (T_Rule.c x18))) (p_idx_at (c := T_Rule.c) (fun _ => rfl) h19) ?_
        refine tb (x := (T_Rule.e x18)) (rfl) ?_
        refine tb (x := V.agg (T_Rule.c x18)) (by kernel_rfl) ?_
        refine tb (x := (T_Rule.e x18)) (rfl) ?_
        refine tbo (ty_rule_Check hn x18) fun r28 => ?_
        refine tb (x := (vb (!decide (r28 = 0)))) (p_err_neq _) ?_
        refine tcond (fun h30 => ?_) (fun h30 => ?_)
        · exact rf_ret rfl
        · refine tbo (p_slc_hi (c := T_Rule.c) (fun _ => rfl) a0 (i17 : Int)) fun r32 => ?_
          refine tbo (ty_slices_ContainsFunc_api_Table_api_Rule (E := (envOf [(65, (sem_rule_Table_1 n))])) (x1 := (V.fn 65 [(V.ptr (T_Rule.c x18))])) (g1 := (fun (a33 : T_Rule) => t_rule_Table_1 a33 x18)) hn r32 (fun a33 => ty_rule_Table_1 hn a33 x18)) fun r35 => ?_
          refine tcond (fun h36 => ?_) (fun h36 => ?_)
          · refine tb (x := (eV 7)) (p_mkE (by decide)) ?_
            exact rf_ret rfl
          · refine tb (x := (vi ((i17 : Int) + 1))) (p_incN h20) ?_
            exact h15 ()
      · refine tb (x := (vb (decide ((List.length a0 : Int) < (List.length a0 : Int))))) (d_lss) ?_
        refine tcond_f h39 ?_
        exact h10 ()

/-! railpoint/net.Check -/
def an_net_Check : Ann := .seq (.reg 0 [] [] []) (.seq (.seq (.reg 0 [] [] []) (.seq (.reg 0 [] [] []) (.cond none (.seq (.reg 0 [] [] []) (.no)) (.no)))) (.seq (.seq (.reg 0 [] [] []) (.cond none (.seq (.reg 0 [] [] []) (.no)) (.no))) (.seq (.seq (.reg 0 [] [] []) (.blk (some []) (.loop [.s 24] (.seq (.reg 0 [] [] []) (.seq (.cond none (.no) (.no)) (.seq (.blk none (.seq (.reg 0 [] [] []) (.seq (.reg 0 [] [] []) (.seq (.reg 0 [] [] []) (.cond none (.seq (.reg 0 [] [] []) (.no)) (.no)))))) (.reg 0 [] [] []))))))) (.seq (.reg 0 [] [] []) (.no)))))
noncomputable def sem_net_Check (n : Nat) (xs : List V) : Option V := if xs.length ≤ 34 then denF Try.prog (envOf [(14, (sem_topo_Check n)), (45, (sem_rule_Table n))]) n Try.f21 an_net_Check xs else none
theorem ok_net_Check (n : Nat) : SemOk Try.prog DW 21 (sem_net_Check n) := fun xs y h => by
  unfold sem_net_Check at h
  split at h
  · rename_i hl
    exact denF_ok stb Try.func21 (by kernel_rfl) (envOf_ok (semsOk_cons (ok_topo_Check n) (semsOk_cons (ok_rule_Table n) semsOk_nil))) (by rw [Try.ntmps21]; exact hl) h
  · cases h
theorem eq_net_Check (n : Nat) (x0 : V) : sem_net_Check n [x0] =
 (V.cellsO x0).bind fun v1 =>
 (ldk (some 3) (List.drop 0 v1)).bind fun v2 =>
 ((sem_topo_Check n) [v2]).bind fun v3 =>
 (bin2 Try.prog BinOp.neq 31 (ot 10) (Operand.const Go.Value.nilIface) v3 vn).bind fun v4 =>
 condV v4 (
 some v3) (
 (ldk none (List.drop 3 v1)).bind fun v5 =>
 (lenS [v5]).bind fun v6 =>
 (ldk none (List.drop 0 v1)).bind fun v7 =>
 (bin2 Try.prog BinOp.neq 3 (ot 15) (ot 18) v6 v7).bind fun v8 =>
 condV v8 (
 (scal1 Try.prog (Instr.makeInterface 79) (vi 3)).bind fun v9 =>
 some v9) (
 (ldk none (List.drop 3 v1)).bind fun v10 =>
 (lenS [v10]).bind fun v11 =>
 JoinPt (fun vs12 =>
 some vn) fun J13 =>
 (fixN (fun rec14 vs15 =>
 (bin2 Try.prog BinOp.lss 3 (ot 24) (ot 23) (List.getD vs15 0 V.any) v11).bind fun v16 =>
 condV v16 (
 (idxS 1 v10 (List.getD vs15 0 V.any)).bind fun v17 =>
 (ldp none v17).bind fun v18 =>
 ((sem_rule_Table n) [v18]).bind fun v19 =>
 (bin2 Try.prog BinOp.neq 31 (ot 30) (Operand.const Go.Value.nilIface) v19 vn).bind fun v20 =>
 condV v20 (
 some v19) (
 (bin2 Try.prog BinOp.add 3 (ot 24) (oc 1) (List.getD vs15 0 V.any) (vi 1)).bind fun v21 =>
 rec14 [v21])) (
 J13 [])) n) [(vi 0)])) := by kernel_rfl
noncomputable def t_net_Check (a0 : T_Net) : Option Int :=
 (t_topo_Check a0.Topo).bind fun r4 =>
 if (!decide (r4 = 0)) = true then (
 some r4) else (
 if (decide ((List.length a0.Tables : Int) ≠ a0.Topo.Switches)) = true then (
 some 3) else (
 join (fun (s17 : Unit) =>
 some 0) fun j18 =>
 loopI a0.Tables (fun (i26 : Int) x27 (s22 : Unit) k23 =>
 (t_rule_Table x27).bind fun r35 =>
 if (!decide (r35 = 0)) = true then (
 some r35) else (
 k23 ())) (fun (s22 : Unit) =>
 j18 ()) ()))
theorem ty_net_Check {n : Nat} (hn : bigN ≤ n) (a0 : T_Net) : Rv (fun x : Int => (eV x)) (sem_net_Check n [(T_Net.e a0)]) (t_net_Check a0) := by
  rw [eq_net_Check]
  unfold t_net_Check
  refine tb (x := (T_Net.c a0)) rfl ?_
  refine tb (x := (T_Topo.e a0.Topo)) (rfl) ?_
  refine tbo (ty_topo_Check hn a0.Topo) fun r4 => ?_
  refine tb (x := (vb (!decide (r4 = 0)))) (p_err_neq _) ?_
  refine tcond (fun h6 => ?_) (fun h6 => ?_)
  · exact rf_ret rfl
  · refine tb (x := (V.sl (List.map (cS T_Rule.c) a0.Tables))) (rfl) ?_
    refine tb (x := (vi (List.length a0.Tables : Int))) (p_len _) ?_
    refine tb (x := (vi a0.Topo.Switches)) (rfl) ?_
    refine tb (x := (vb (decide ((List.length a0.Tables : Int) ≠ a0.Topo.Switches)))) (d_neq) ?_
    refine tcond (fun h11 => ?_) (fun h11 => ?_)
    · refine tb (x := (eV 3)) (p_mkE (by decide)) ?_
      exact rf_ret rfl
    · refine tb (x := (V.sl (List.map (cS T_Rule.c) a0.Tables))) (rfl) ?_
      refine tb (x := (vi (List.length a0.Tables : Int))) (p_len _) ?_
      refine tjoin (mk := fun s17 : Unit => []) (fun s17 => ?_) fun J16 j18 h19 => ?_
      · exact rf_ret rfl
      · refine rf_loopI (mk := fun (i26 : Int) (s22 : Unit) => [(vi (i26 : Int))]) hn a0.Tables () (fun i26 x27 h28 h29 h30 s22 rec20 k23 h24 => ?_) (fun s22 rec40 h39 => ?_)
        · refine tb (x := (vb (decide ((i26 : Int) < (List.length a0.Tables : Int))))) (d_lss) ?_
          refine tcond_t h30 ?_
          refine tb (x := (V.ptr [(V.sl (List.map T_Rule.c x27))])) (p_idx_at (c := (cS T_Rule.c)) (fun _ => rfl) h28) ?_
          refine tb (x := (V.sl (List.map T_Rule.c x27))) (rfl) ?_
          refine tbo (ty_rule_Table hn x27) fun r35 => ?_
          refine tb (x := (vb (!decide (r35 = 0)))) (p_err_neq _) ?_
          refine tcond (fun h37 => ?_) (fun h37 => ?_)
          · exact rf_ret rfl
          · refine tb (x := (vi ((i26 : Int) + 1))) (p_incN h29) ?_
            exact h24 ()
        · refine tb (x := (vb (decide ((List.length a0.Tables : Int) < (List.length a0.Tables : Int))))) (d_lss) ?_
          refine tcond_f h39 ?_
          exact h19 ()

/-! slices.IndexFunc   railpoint/api.Host railpoint/api.Host  -/
def an_slices_IndexFunc_api_Host_api_Host : Ann := .seq (.reg 0 [] [] []) (.seq (.seq (.reg 0 [] [] []) (.blk (some []) (.loop [.s 8] (.seq (.reg 0 [] [] []) (.seq (.cond none (.no) (.no)) (.seq (.blk none (.seq (.reg 0 [] [] []) (.seq (.reg 0 [] [] []) (.cond none (.seq (.reg 0 [] [] []) (.no)) (.no))))) (.reg 0 [] [] []))))))) (.seq (.reg 0 [] [] []) (.no)))
noncomputable def sem_slices_IndexFunc_api_Host_api_Host (E : FuncId → List V → Option V) (n : Nat) (xs : List V) : Option V := if xs.length ≤ 19 then denF Try.prog (envJ [] E) n Try.f39 an_slices_IndexFunc_api_Host_api_Host xs else none
theorem ok_slices_IndexFunc_api_Host_api_Host {E : FuncId → List V → Option V} (hE : EnvOk Try.prog DW E) (n : Nat) : SemOk Try.prog DW 39 (sem_slices_IndexFunc_api_Host_api_Host E n) := fun xs y h => by
  unfold sem_slices_IndexFunc_api_Host_api_Host at h
  split at h
  · rename_i hl
    exact denF_ok stb Try.func39 (by kernel_rfl) (envJ_ok semsOk_nil hE) (by rw [Try.ntmps39]; exact hl) h
  · cases h
theorem eq_slices_IndexFunc_api_Host_api_Host (E : FuncId → List V → Option V) (n : Nat) (x0 x1 : V) : sem_slices_IndexFunc_api_Host_api_Host E n [x0, x1] =
 (lenS [x0]).bind fun v1 =>
 JoinPt (fun vs2 =>
 some (vi (-1 : Int))) fun J3 =>
 (fixN (fun rec4 vs5 =>
 (bin2 Try.prog BinOp.lss 3 (ot 8) (ot 7) (List.getD vs5 0 V.any) v1).bind fun v6 =>
 condV v6 (
 (idxS 3 x0 (List.getD vs5 0 V.any)).bind fun v7 =>
 (ldp (some 3) v7).bind fun v8 =>
 (callV (envJ [] E) x1 [v8]).bind fun v9 =>
 condV v9 (
 some (List.getD vs5 0 V.any)) (
 (bin2 Try.prog BinOp.add 3 (ot 8) (oc 1) (List.getD vs5 0 V.any) (vi 1)).bind fun v10 =>
 rec4 [v10])) (
 J3 [])) n) [(vi 0)] := by kernel_rfl
noncomputable def t_slices_IndexFunc_api_Host_api_Host (a0 : (List T_Host)) (g1 : T_Host → Option Bool) : Option Int :=
 join (fun (s4 : Unit) =>
 some (-1 : Int)) fun j5 =>
 loopI a0 (fun (i13 : Int) x14 (s9 : Unit) k10 =>
 (g1 x14).bind fun r22 =>
 if r22 = true then (
 some i13) else (
 k10 ())) (fun (s9 : Unit) =>
 j5 ()) ()
theorem ty_slices_IndexFunc_api_Host_api_Host {E : FuncId → List V → Option V} {n : Nat} (hn : bigN ≤ n) (a0 : (List T_Host)) {x1 : V} {g1 : T_Host → Option Bool} (hg_g1 : ∀ a0, Rv (fun x : Bool => (vb x)) (callV E x1 [(T_Host.e a0)]) (g1 a0)) : Rv (fun x : Int => (vi x)) (sem_slices_IndexFunc_api_Host_api_Host E n [(V.sl (List.map T_Host.c a0)), x1]) (t_slices_IndexFunc_api_Host_api_Host a0 g1) := by
  rw [eq_slices_IndexFunc_api_Host_api_Host]
  unfold t_slices_IndexFunc_api_Host_api_Host
  refine tb (x := (vi (List.length a0 : Int))) (p_len _) ?_
  refine tjoin (mk := fun s4 : Unit => []) (fun s4 => ?_) fun J3 j5 h6 => ?_
  · exact rf_ret rfl
  · refine rf_loopI (mk := fun (i13 : Int) (s9 : Unit) => [(vi (i13 : Int))]) hn a0 () (fun i13 x14 h15 h16 h17 s9 rec7 k10 h11 => ?_) (fun s9 rec26 h25 => ?_)
    · refine tb (x := (vb (decide ((i13 : Int) < (List.length a0 : Int))))) (d_lss) ?_
      refine tcond_t h17 ?_
      refine tb (x := (V.ptr (T_Host.c x14))) (p_idx_at (c := T_Host.c) (fun _ => rfl) h15) ?_
      refine tb (x := (T_Host.e x14)) (rfl) ?_
      refine tbo ((callV_J0 ▸ hg_g1 x14)) fun r22 => ?_
      refine tcond (fun h23 => ?_) (fun h23 => ?_)
      · exact rf_ret rfl
      · refine tb (x := (vi ((i13 : Int) + 1))) (p_incN h16) ?_
        exact h11 ()
    · refine tb (x := (vb (decide ((List.length a0 : Int) < (List.length a0 : Int))))) (d_lss) ?_
      refine tcond_f h25 ?_
      exact h6 ()

/-! railpoint/topo.Where$1 -/
def an_topo_Where_1 : Ann := .seq (.reg 0 [] [] []) (.seq (.reg 0 [] [] []) (.no))
noncomputable def sem_topo_Where_1 (n : Nat) (xs : List V) : Option V := if xs.length ≤ 8 then denF Try.prog (envOf []) n Try.f61 an_topo_Where_1 xs else none
theorem ok_topo_Where_1 (n : Nat) : SemOk Try.prog DW 61 (sem_topo_Where_1 n) := fun xs y h => by
  unfold sem_topo_Where_1 at h
  split at h
  · rename_i hl
    exact denF_ok stb Try.func61 (by kernel_rfl) (envOf_ok semsOk_nil) (by rw [Try.ntmps61]; exact hl) h
  · cases h
theorem eq_topo_Where_1 (n : Nat) (x0 x1 : V) : sem_topo_Where_1 n [x0, x1] =
 (V.cellsO x0).bind fun v1 =>
 (ldk none (List.drop 0 v1)).bind fun v2 =>
 (ldp none x1).bind fun v3 =>
 (bin2 Try.prog BinOp.eql 9 (ot 5) (ot 6) v2 v3).bind fun v4 =>
 some v4 := by kernel_rfl
noncomputable def t_topo_Where_1 (a0 : T_Host) (a1 : ByteArray) : Option Bool :=
 some (decide (a0.Name = a1))
theorem ty_topo_Where_1 {n : Nat} (hn : bigN ≤ n) (a0 : T_Host) (a1 : ByteArray) : Rv (fun x : Bool => (vb x)) (sem_topo_Where_1 n [(T_Host.e a0), (V.ptr [(vt a1)])]) (t_topo_Where_1 a0 a1) := by
  rw [eq_topo_Where_1]
  unfold t_topo_Where_1
  refine tb (x := (T_Host.c a0)) rfl ?_
  refine tb (x := (vt a0.Name)) (rfl) ?_
  refine tb (x := (vt a1)) (rfl) ?_
  refine tb (x := (vb (decide (a0.Name = a1)))) (p_eql_str) ?_
  exact rf_ret rfl

/-! railpoint/topo.Where -/
def an_topo_Where : Ann := .seq (.reg 0 [] [] []) (.seq (.seq (.reg 0 [3] [] []) (.seq (.reg 0 [] [] []) (.cond none (.seq (.reg 0 [] [] []) (.no)) (.no)))) (.seq (.reg 0 [] [] []) (.seq (.seq (.reg 0 [] [] []) (.cond none (.seq (.reg 0 [] [] []) (.no)) (.no))) (.seq (.reg 0 [] [] []) (.no)))))
noncomputable def sem_topo_Where (n : Nat) (xs : List V) : Option V := if xs.length ≤ 28 then denF Try.prog (envOf [(14, (sem_topo_Check n)), (39, (sem_slices_IndexFunc_api_Host_api_Host (envOf [(61, (sem_topo_Where_1 n))]) n)), (61, (sem_topo_Where_1 n))]) n Try.f32 an_topo_Where xs else none
theorem ok_topo_Where (n : Nat) : SemOk Try.prog DW 32 (sem_topo_Where n) := fun xs y h => by
  unfold sem_topo_Where at h
  split at h
  · rename_i hl
    exact denF_ok stb Try.func32 (by kernel_rfl) (envOf_ok (semsOk_cons (ok_topo_Check n) (semsOk_cons (ok_slices_IndexFunc_api_Host_api_Host (envOf_ok (semsOk_cons (ok_topo_Where_1 n) semsOk_nil)) n) (semsOk_cons (ok_topo_Where_1 n) semsOk_nil)))) (by rw [Try.ntmps32]; exact hl) h
  · cases h
theorem eq_topo_Where (n : Nat) (x0 x1 : V) : sem_topo_Where n [x0, x1] =
 (V.cellsO x0).bind fun v1 =>
 (V.cellsO x1).bind fun v2 =>
 (ldk (some 3) (List.drop 0 v1)).bind fun v3 =>
 ((sem_topo_Check n) [v3]).bind fun v4 =>
 (bin2 Try.prog BinOp.neq 31 (ot 10) (Operand.const Go.Value.nilIface) v4 vn).bind fun v5 =>
 condV v5 (
 ((fillL [(vi 0), (vi 0)] []).map V.agg).bind fun v6 =>
 (spliceV [(vi 0), (vi 0)] 0 2 v6).bind fun v7 =>
 (ldk (some 2) (List.drop 0 (aggL v7))).bind fun v8 =>
 some (V.tup [v8, v4])) (
 (ldk none (List.drop 2 v1)).bind fun v9 =>
 ((sem_slices_IndexFunc_api_Host_api_Host (envOf [(61, (sem_topo_Where_1 n))]) n) [v9, (V.fn 61 [(V.ptr v2)])]).bind fun v10 =>
 (bin2 Try.prog BinOp.lss 3 (ot 18) (oc 0) v10 (vi 0)).bind fun v11 =>
 condV v11 (
 ((fillL [(vi 0), (vi 0)] []).map V.agg).bind fun v12 =>
 (scal1 Try.prog (Instr.makeInterface 79) (vi 5)).bind fun v13 =>
 (spliceV [(vi 0), (vi 0)] 0 2 v12).bind fun v14 =>
 (ldk (some 2) (List.drop 0 (aggL v14))).bind fun v15 =>
 some (V.tup [v15, v13])) (
 (ldk none (List.drop 2 v1)).bind fun v16 =>
 (idxS 3 v16 v10).bind fun v17 =>
 (ptrF 1 v17).bind fun v18 =>
 (ldp (some 2) v18).bind fun v19 =>
 (spliceV [(vi 0), (vi 0)] 0 2 v19).bind fun v20 =>
 (ldk (some 2) (List.drop 0 (aggL v20))).bind fun v21 =>
 some (V.tup [v21, vn]))) := by kernel_rfl
noncomputable def t_topo_Where (a0 : T_Topo) (a1 : ByteArray) : Option (T_Spot × Int) :=
 (t_topo_Check a0).bind fun r5 =>
 if (!decide (r5 = 0)) = true then (
 some ((T_Spot.mk 0 0), r5)) else (
 (t_slices_IndexFunc_api_Host_api_Host a0.Hosts (fun (a12 : T_Host) => t_topo_Where_1 a12 a1)).bind fun r14 =>
 if (decide (r14 < 0)) = true then (
 some ((T_Spot.mk 0 0), 5)) else (
 (idx a0.Hosts r14).bind fun r23 =>
 some (r23.At, 0)))
theorem ty_topo_Where {n : Nat} (hn : bigN ≤ n) (a0 : T_Topo) (a1 : ByteArray) : Rv (fun x : (T_Spot × Int) => V.tup [(T_Spot.e x.1), (eV x.2)]) (sem_topo_Where n [(T_Topo.e a0), (vt a1)]) (t_topo_Where a0 a1) := by
  rw [eq_topo_Where]
  unfold t_topo_Where
  refine tb (x := (T_Topo.c a0)) rfl ?_
  refine tb (x := [(vt a1)]) rfl ?_
  refine tb (x := (T_Topo.e a0)) (rfl) ?_
  refine tbo (ty_topo_Check hn a0) fun r5 => ?_
  refine tb (x := (vb (!decide (r5 = 0)))) (p_err_neq _) ?_
  refine tcond (fun h7 => ?_) (fun h7 => ?_)
  · refine tb (x := (T_Spot.e (T_Spot.mk 0 0))) (by kernel_rfl) ?_
    refine tb (x := V.agg (T_Spot.c (T_Spot.mk 0 0))) (by kernel_rfl) ?_
    refine tb (x := (T_Spot.e (T_Spot.mk 0 0))) rfl ?_
    exact rf_ret rfl
  · refine tb (x := (V.sl (List.map T_Host.c a0.Hosts))) (rfl) ?_
    refine tbo (ty_slices_IndexFunc_api_Host_api_Host (E := (envOf [(61, (sem_topo_Where_1 n))])) (x1 := (V.fn 61 [(V.ptr [(vt a1)])])) (g1 := (fun (a12 : T_Host) => t_topo_Where_1 a12 a1)) hn a0.Hosts (fun a12 => ty_topo_Where_1 hn a12 a1)) fun r14 => ?_
    refine tb (x := (vb (decide (r14 < 0)))) (d_lss) ?_
    refine tcond (fun h16 => ?_) (fun h16 => ?_)
    · refine tb (x := (T_Spot.e (T_Spot.mk 0 0))) (by kernel_rfl) ?_
      refine tb (x := (eV 5)) (p_mkE (by decide)) ?_
      refine tb (x := V.agg (T_Spot.c (T_Spot.mk 0 0))) (by kernel_rfl) ?_
      refine tb (x := (T_Spot.e (T_Spot.mk 0 0))) rfl ?_
      exact rf_ret rfl
    · refine tb (x := (V.sl (List.map T_Host.c a0.Hosts))) (rfl) ?_
      refine tbo (p_idx (c := T_Host.c) (fun _ => rfl) a0.Hosts r14) fun r23 => ?_
      refine tb (x := (V.ptr (List.drop 1 (T_Host.c r23)))) (rfl) ?_
      refine tb (x := (T_Spot.e r23.At)) (rfl) ?_
      refine tb (x := V.agg (T_Spot.c r23.At)) (by kernel_rfl) ?_
      refine tb (x := (T_Spot.e r23.At)) rfl ?_
      exact rf_ret rfl

/-! railpoint/net.Begin -/
def an_net_Begin : Ann := .seq (.reg 0 [] [] []) (.seq (.reg 0 [] [] []) (.no))
noncomputable def sem_net_Begin (n : Nat) (xs : List V) : Option V := if xs.length ≤ 10 then denF Try.prog (envOf []) n Try.f62 an_net_Begin xs else none
theorem ok_net_Begin (n : Nat) : SemOk Try.prog DW 62 (sem_net_Begin n) := fun xs y h => by
  unfold sem_net_Begin at h
  split at h
  · rename_i hl
    exact denF_ok stb Try.func62 (by kernel_rfl) (envOf_ok semsOk_nil) (by rw [Try.ntmps62]; exact hl) h
  · cases h
theorem eq_net_Begin (n : Nat) (x0 x1 : V) : sem_net_Begin n [x0, x1] =
 (V.cellsO x0).bind fun v1 =>
 (ldk (some 2) (List.drop 0 v1)).bind fun v2 =>
 ((fillL [(vi 0), (vi 0), (vi 0)] [(0, 2, v2), (2, 1, x1)]).map V.agg).bind fun v3 =>
 (slcB 3 1 [(vi 0), (vi 0), (vi 0)] [(0, v3)]).bind fun v4 =>
 ((fillL [(vi 0), (V.lit (Go.Value.string (ByteArray.mk #[]))), (V.sl [])] [(2, 1, v4)]).map V.agg).bind fun v5 =>
 (spliceV [(vi 0), (V.lit (Go.Value.string (ByteArray.mk #[]))), (V.sl [])] 0 3 v5).bind fun v6 =>
 (ldk (some 3) (List.drop 0 (aggL v6))).bind fun v7 =>
 some v7 := by kernel_rfl
noncomputable def t_net_Begin (a0 : T_Spot) (a1 : Int) : Option T_Fate :=
 some (T_Fate.mk 0 (ByteArray.mk #[]) ([(T_Hop.mk a0 a1)] : (List T_Hop)))
theorem ty_net_Begin {n : Nat} (hn : bigN ≤ n) (a0 : T_Spot) (a1 : Int) : Rv (fun x : T_Fate => (T_Fate.e x)) (sem_net_Begin n [(T_Spot.e a0), (vi a1)]) (t_net_Begin a0 a1) := by
  rw [eq_net_Begin]
  unfold t_net_Begin
  refine tb (x := (T_Spot.c a0)) rfl ?_
  refine tb (x := (T_Spot.e a0)) (rfl) ?_
  refine tb (x := (T_Hop.e (T_Hop.mk a0 a1))) (by kernel_rfl) ?_
  refine tb (x := (V.sl (List.map T_Hop.c ([(T_Hop.mk a0 a1)] : (List T_Hop))))) (by kernel_rfl) ?_
  refine tb (x := (T_Fate.e (T_Fate.mk 0 (ByteArray.mk #[]) ([(T_Hop.mk a0 a1)] : (List T_Hop))))) (by kernel_rfl) ?_
  refine tb (x := V.agg (T_Fate.c (T_Fate.mk 0 (ByteArray.mk #[]) ([(T_Hop.mk a0 a1)] : (List T_Hop))))) (by kernel_rfl) ?_
  refine tb (x := (T_Fate.e (T_Fate.mk 0 (ByteArray.mk #[]) ([(T_Hop.mk a0 a1)] : (List T_Hop))))) rfl ?_
  exact rf_ret rfl

/-! cmp.isNaN int  -/
def an_cmp_isNaN_int : Ann := .seq (.reg 0 [] [] []) (.seq (.reg 0 [] [] []) (.no))
noncomputable def sem_cmp_isNaN_int (n : Nat) (xs : List V) : Option V := if xs.length ≤ 6 then denF Try.prog (envOf []) n Try.f79 an_cmp_isNaN_int xs else none
theorem ok_cmp_isNaN_int (n : Nat) : SemOk Try.prog DW 79 (sem_cmp_isNaN_int n) := fun xs y h => by
  unfold sem_cmp_isNaN_int at h
  split at h
  · rename_i hl
    exact denF_ok stb Try.func79 (by kernel_rfl) (envOf_ok semsOk_nil) (by rw [Try.ntmps79]; exact hl) h
  · cases h
theorem eq_cmp_isNaN_int (n : Nat) (x0 : V) : sem_cmp_isNaN_int n [x0] =
 (bin2 Try.prog BinOp.neq 3 (ot 3) (ot 4) x0 x0).bind fun v1 =>
 some v1 := by kernel_rfl
noncomputable def t_cmp_isNaN_int (a0 : Int) : Option Bool :=
 some (decide (a0 ≠ a0))
theorem ty_cmp_isNaN_int {n : Nat} (hn : bigN ≤ n) (a0 : Int) : Rv (fun x : Bool => (vb x)) (sem_cmp_isNaN_int n [(vi a0)]) (t_cmp_isNaN_int a0) := by
  rw [eq_cmp_isNaN_int]
  unfold t_cmp_isNaN_int
  refine tb (x := (vb (decide (a0 ≠ a0)))) (d_neq) ?_
  exact rf_ret rfl

/-! cmp.Compare int  -/
def an_cmp_Compare_int : Ann := .seq (.reg 0 [] [] []) (.seq (.reg 0 [] [] []) (.seq (.reg 0 [] [] []) (.seq (.seq (.reg 0 [] [] []) (.cond none (.seq (.seq (.reg 0 [] [] []) (.cond none (.seq (.reg 0 [] [] []) (.no)) (.no))) (.seq (.reg 0 [] [] []) (.no))) (.no))) (.seq (.seq (.reg 0 [] [] []) (.cond none (.seq (.reg 0 [] [] []) (.no)) (.no))) (.seq (.seq (.reg 0 [] [] []) (.cond none (.seq (.reg 0 [] [] []) (.no)) (.no))) (.seq (.seq (.reg 0 [] [] []) (.cond none (.seq (.reg 0 [] [] []) (.no)) (.no))) (.seq (.reg 0 [] [] []) (.no))))))))
noncomputable def sem_cmp_Compare_int (n : Nat) (xs : List V) : Option V := if xs.length ≤ 20 then denF Try.prog (envOf [(79, (sem_cmp_isNaN_int n))]) n Try.f78 an_cmp_Compare_int xs else none
theorem ok_cmp_Compare_int (n : Nat) : SemOk Try.prog DW 78 (sem_cmp_Compare_int n) := fun xs y h => by
  unfold sem_cmp_Compare_int at h
  split at h
  · rename_i hl
    exact denF_ok stb Try.func78 (by kernel_rfl) (envOf_ok (semsOk_cons (ok_cmp_isNaN_int n) semsOk_nil)) (by rw [Try.ntmps78]; exact hl) h
  · cases h
theorem eq_cmp_Compare_int (n : Nat) (x0 x1 : V) : sem_cmp_Compare_int n [x0, x1] =
 ((sem_cmp_isNaN_int n) [x0]).bind fun v1 =>
 ((sem_cmp_isNaN_int n) [x1]).bind fun v2 =>
 condV v1 (
 condV v2 (
 some (vi 0)) (
 some (vi (-1 : Int)))) (
 condV v2 (
 some (vi 1)) (
 (bin2 Try.prog BinOp.lss 3 (ot 14) (ot 15) x0 x1).bind fun v3 =>
 condV v3 (
 some (vi (-1 : Int))) (
 (bin2 Try.prog BinOp.gtr 3 (ot 17) (ot 18) x0 x1).bind fun v4 =>
 condV v4 (
 some (vi 1)) (
 some (vi 0))))) := by kernel_rfl
noncomputable def t_cmp_Compare_int (a0 : Int) (a1 : Int) : Option Int :=
 (t_cmp_isNaN_int a0).bind fun r2 =>
 (t_cmp_isNaN_int a1).bind fun r4 =>
 if r2 = true then (
 if r4 = true then (
 some 0) else (
 some (-1 : Int))) else (
 if r4 = true then (
 some 1) else (
 if (decide (a0 < a1)) = true then (
 some (-1 : Int)) else (
 if (decide (a1 < a0)) = true then (
 some 1) else (
 some 0))))
theorem ty_cmp_Compare_int {n : Nat} (hn : bigN ≤ n) (a0 : Int) (a1 : Int) : Rv (fun x : Int => (vi x)) (sem_cmp_Compare_int n [(vi a0), (vi a1)]) (t_cmp_Compare_int a0 a1) := by
  rw [eq_cmp_Compare_int]
  unfold t_cmp_Compare_int
  refine tbo (ty_cmp_isNaN_int hn a0) fun r2 => ?_
  refine tbo (ty_cmp_isNaN_int hn a1) fun r4 => ?_
  refine tcond (fun h5 => ?_) (fun h5 => ?_)
  · refine tcond (fun h6 => ?_) (fun h6 => ?_)
    · exact rf_ret rfl
    · exact rf_ret rfl
  · refine tcond (fun h7 => ?_) (fun h7 => ?_)
    · exact rf_ret rfl
    · refine tb (x := (vb (decide (a0 < a1)))) (d_lss) ?_
      refine tcond (fun h9 => ?_) (fun h9 => ?_)
      · exact rf_ret rfl
      · refine tb (x := (vb (decide (a1 < a0)))) (d_gtr) ?_
        refine tcond (fun h11 => ?_) (fun h11 => ?_)
        · exact rf_ret rfl
        · exact rf_ret rfl

/-! cmp.Or int  -/
def an_cmp_Or_int : Ann := .seq (.reg 0 [] [] []) (.seq (.reg 0 [] [] []) (.seq (.seq (.reg 0 [] [] []) (.blk (some []) (.loop [.s 8] (.seq (.reg 0 [] [] []) (.seq (.cond none (.no) (.no)) (.seq (.blk none (.seq (.reg 0 [] [] []) (.seq (.reg 0 [] [] []) (.cond none (.seq (.reg 0 [] [] []) (.no)) (.no))))) (.reg 0 [] [] []))))))) (.seq (.reg 0 [] [] []) (.no))))
noncomputable def sem_cmp_Or_int (n : Nat) (xs : List V) : Option V := if xs.length ≤ 18 then denF Try.prog (envOf []) n Try.f77 an_cmp_Or_int xs else none
theorem ok_cmp_Or_int (n : Nat) : SemOk Try.prog DW 77 (sem_cmp_Or_int n) := fun xs y h => by
  unfold sem_cmp_Or_int at h
  split at h
  · rename_i hl
    exact denF_ok stb Try.func77 (by kernel_rfl) (envOf_ok semsOk_nil) (by rw [Try.ntmps77]; exact hl) h
  · cases h
theorem eq_cmp_Or_int (n : Nat) (x0 : V) : sem_cmp_Or_int n [x0] =
 (lenS [x0]).bind fun v1 =>
 JoinPt (fun vs2 =>
 some (vi 0)) fun J3 =>
 (fixN (fun rec4 vs5 =>
 (bin2 Try.prog BinOp.lss 3 (ot 8) (ot 7) (List.getD vs5 0 V.any) v1).bind fun v6 =>
 condV v6 (
 (idxS 1 x0 (List.getD vs5 0 V.any)).bind fun v7 =>
 (ldp none v7).bind fun v8 =>
 (bin2 Try.prog BinOp.neq 3 (ot 12) (ot 13) v8 (vi 0)).bind fun v9 =>
 condV v9 (
 some v8) (
 (bin2 Try.prog BinOp.add 3 (ot 8) (oc 1) (List.getD vs5 0 V.any) (vi 1)).bind fun v10 =>
 rec4 [v10])) (
 J3 [])) n) [(vi 0)] := by kernel_rfl
noncomputable def t_cmp_Or_int (a0 : (List Int)) : Option Int :=
 join (fun (s4 : Unit) =>
 some 0) fun j5 =>
 loopI a0 (fun (i13 : Int) x14 (s9 : Unit) k10 =>
 if (decide (x14 ≠ 0)) = true then (
 some x14) else (
 k10 ())) (fun (s9 : Unit) =>
 j5 ()) ()
theorem ty_cmp_Or_int {n : Nat} (hn : bigN ≤ n) (a0 : (List Int)) : Rv (fun x : Int => (vi x)) (sem_cmp_Or_int n [(V.sl (List.map cI a0))]) (t_cmp_Or_int a0) := by
  rw [eq_cmp_Or_int]
  unfold t_cmp_Or_int
  refine tb (x := (vi (List.length a0 : Int))) (p_len _) ?_
  refine tjoin (mk := fun s4 : Unit => []) (fun s4 => ?_) fun J3 j5 h6 => ?_
  · exact rf_ret rfl
  · refine rf_loopI (mk := fun (i13 : Int) (s9 : Unit) => [(vi (i13 : Int))]) hn a0 () (fun i13 x14 h15 h16 h17 s9 rec7 k10 h11 => ?_) (fun s9 rec25 h24 => ?_)
    · refine tb (x := (vb (decide ((i13 : Int) < (List.length a0 : Int))))) (d_lss) ?_
      refine tcond_t h17 ?_
      refine tb (x := (V.ptr [(vi x14)])) (p_idx_at (c := cI) (fun _ => rfl) h15) ?_
      refine tb (x := (vi x14)) (rfl) ?_
      refine tb (x := (vb (decide (x14 ≠ 0)))) (d_neq) ?_
      refine tcond (fun h22 => ?_) (fun h22 => ?_)
      · exact rf_ret rfl
      · refine tb (x := (vi ((i13 : Int) + 1))) (p_incN h16) ?_
        exact h11 ()
    · refine tb (x := (vb (decide ((List.length a0 : Int) < (List.length a0 : Int))))) (d_lss) ?_
      refine tcond_f h24 ?_
      exact h6 ()

/-! railpoint/rule.above -/
def an_rule_above : Ann := .seq (.reg 0 [] [] []) (.seq (.reg 22 [] [] []) (.no))
noncomputable def sem_rule_above (n : Nat) (xs : List V) : Option V := if xs.length ≤ 26 then denF Try.prog (envOf [(78, (sem_cmp_Compare_int n)), (77, (sem_cmp_Or_int n))]) n Try.f73 an_rule_above xs else none
theorem ok_rule_above (n : Nat) : SemOk Try.prog DW 73 (sem_rule_above n) := fun xs y h => by
  unfold sem_rule_above at h
  split at h
  · rename_i hl
    exact denF_ok stb Try.func73 (by kernel_rfl) (envOf_ok (semsOk_cons (ok_cmp_Compare_int n) (semsOk_cons (ok_cmp_Or_int n) semsOk_nil))) (by rw [Try.ntmps73]; exact hl) h
  · cases h
theorem eq_rule_above (n : Nat) (x0 x1 : V) : sem_rule_above n [x0, x1] =
 (V.cellsO x0).bind fun v1 =>
 (V.cellsO x1).bind fun v2 =>
 (ldk none (List.drop 0 v1)).bind fun v3 =>
 (ldk none (List.drop 0 v2)).bind fun v4 =>
 ((sem_cmp_Compare_int n) [v3, v4]).bind fun v5 =>
 (ldk none (List.drop 1 v1)).bind fun v6 =>
 (ldk none (List.drop 1 v2)).bind fun v7 =>
 ((sem_cmp_Compare_int n) [v6, v7]).bind fun v8 =>
 (ldk none (List.drop 2 v1)).bind fun v9 =>
 (ldk none (List.drop 2 v2)).bind fun v10 =>
 ((sem_cmp_Compare_int n) [v9, v10]).bind fun v11 =>
 (slcB 1 3 [(vi 0)] [(0, v5), (1, v8), (2, v11)]).bind fun v12 =>
 ((sem_cmp_Or_int n) [v12]).bind fun v13 =>
 some v13 := by kernel_rfl
noncomputable def t_rule_above (a0 : T_Rule) (a1 : T_Rule) : Option Int :=
 (t_cmp_Compare_int a0.Prio a1.Prio).bind fun r6 =>
 (t_cmp_Compare_int a0.Cube.Mask a1.Cube.Mask).bind fun r10 =>
 (t_cmp_Compare_int a0.Cube.Bits a1.Cube.Bits).bind fun r14 =>
 (t_cmp_Or_int ([r6, r10, r14] : (List Int))).bind fun r17 =>
 some r17
theorem ty_rule_above {n : Nat} (hn : bigN ≤ n) (a0 : T_Rule) (a1 : T_Rule) : Rv (fun x : Int => (vi x)) (sem_rule_above n [(T_Rule.e a0), (T_Rule.e a1)]) (t_rule_above a0 a1) := by
  rw [eq_rule_above]
  unfold t_rule_above
  refine tb (x := (T_Rule.c a0)) rfl ?_
  refine tb (x := (T_Rule.c a1)) rfl ?_
  refine tb (x := (vi a0.Prio)) (rfl) ?_
  refine tb (x := (vi a1.Prio)) (rfl) ?_
  refine tbo (ty_cmp_Compare_int hn a0.Prio a1.Prio) fun r6 => ?_
  refine tb (x := (vi a0.Cube.Mask)) (rfl) ?_
  refine tb (x := (vi a1.Cube.Mask)) (rfl) ?_
  refine tbo (ty_cmp_Compare_int hn a0.Cube.Mask a1.Cube.Mask) fun r10 => ?_
  refine tb (x := (vi a0.Cube.Bits)) (rfl) ?_
  refine tb (x := (vi a1.Cube.Bits)) (rfl) ?_
  refine tbo (ty_cmp_Compare_int hn a0.Cube.Bits a1.Cube.Bits) fun r14 => ?_
  refine tb (x := (V.sl (List.map cI ([r6, r10, r14] : (List Int))))) (by kernel_rfl) ?_
  refine tbo (ty_cmp_Or_int hn ([r6, r10, r14] : (List Int))) fun r17 => ?_
  exact rf_ret rfl

/-! railpoint/rule.Find -/
def an_rule_Find : Ann := .seq (.reg 0 [] [] []) (.seq (.reg 0 [] [] []) (.seq (.seq (.reg 0 [] [] []) (.blk (some [.s 5]) (.loop [.s 5, .s 10] (.seq (.reg 0 [] [] []) (.seq (.cond none (.no) (.no)) (.seq (.blk none (.seq (.reg 0 [] [] []) (.seq (.reg 22 [] [] []) (.cond (some [.s 5]) (.reg 0 [] [] []) (.no))))) (.reg 0 [] [] []))))))) (.seq (.reg 0 [] [] []) (.no))))
noncomputable def sem_rule_Find (n : Nat) (xs : List V) : Option V := if xs.length ≤ 40 then denF Try.prog (envOf [(73, (sem_rule_above n))]) n Try.f64 an_rule_Find xs else none
theorem ok_rule_Find (n : Nat) : SemOk Try.prog DW 64 (sem_rule_Find n) := fun xs y h => by
  unfold sem_rule_Find at h
  split at h
  · rename_i hl
    exact denF_ok stb Try.func64 (by kernel_rfl) (envOf_ok (semsOk_cons (ok_rule_above n) semsOk_nil)) (by rw [Try.ntmps64]; exact hl) h
  · cases h
theorem eq_rule_Find (n : Nat) (x0 x1 : V) : sem_rule_Find n [x0, x1] =
 (lenS [x0]).bind fun v1 =>
 JoinPt (fun vs2 =>
 some (List.getD vs2 0 V.any)) fun J3 =>
 (fixN (fun rec4 vs5 =>
 (bin2 Try.prog BinOp.lss 3 (ot 10) (ot 9) (List.getD vs5 1 V.any) v1).bind fun v6 =>
 condV v6 (
 (idxS 6 x0 (List.getD vs5 1 V.any)).bind fun v7 =>
 (ldp (some 6) v7).bind fun v8 =>
 (spliceV [(vi 0), (vi 0), (vi 0), (vi 0), (vi 0), (vi 0)] 0 6 v8).bind fun v9 =>
 (ldk none (List.drop 1 (aggL v9))).bind fun v10 =>
 (bin2 Try.prog BinOp.and 3 (ot 15) (ot 18) x1 v10).bind fun v11 =>
 (ldk none (List.drop 2 (aggL v9))).bind fun v12 =>
 (bin2 Try.prog BinOp.eql 3 (ot 19) (ot 22) v11 v12).bind fun v13 =>
 (guardV v13 true (some (List.getD vs5 0 V.any))).bind fun v14 =>
 (guardV v13 true ((bin2 Try.prog BinOp.lss 3 (ot 25) (oc 0) v14 (vi 0)).bind fun v15 =>
 some v15)).bind fun v16 =>
 (guardV v13 true (some v16)).bind fun v17 =>
 (guardV v17 false ((ldk (some 6) (List.drop 0 (aggL v9))).bind fun v18 =>
 some v18)).bind fun v19 =>
 (guardV v17 false (some x0)).bind fun v20 =>
 (guardV v17 false (some (List.getD vs5 0 V.any))).bind fun v21 =>
 (guardV v17 false ((idxS 6 v20 v21).bind fun v22 =>
 some v22)).bind fun v23 =>
 (guardV v17 false ((ldp (some 6) v23).bind fun v24 =>
 some v24)).bind fun v25 =>
 (guardV v17 false (((sem_rule_above n) [v19, v25]).bind fun v26 =>
 some v26)).bind fun v27 =>
 (guardV v17 false ((bin2 Try.prog BinOp.gtr 3 (ot 33) (oc 0) v27 (vi 0)).bind fun v28 =>
 some v28)).bind fun v29 =>
 (guardV v13 true ((pickV v17 (vb true) v29).bind fun v30 =>
 some v30)).bind fun v31 =>
 (pickV v13 v31 (vb false)).bind fun v32 =>
 JoinPt (fun vs33 =>
 (bin2 Try.prog BinOp.add 3 (ot 10) (oc 1) (List.getD vs5 1 V.any) (vi 1)).bind fun v35 =>
 rec4 [(List.getD vs33 0 V.any), v35]) fun J34 =>
 condV v32 (
 J34 [(List.getD vs5 1 V.any)]) (
 J34 [(List.getD vs5 0 V.any)])) (
 J3 [(List.getD vs5 0 V.any)])) n) [(vi (-1 : Int)), (vi 0)] := by kernel_rfl
noncomputable def t_rule_Find (a0 : (List T_Rule)) (a1 : Int) : Option Int :=
 (loopI a0 (fun (i13 : Int) x14 (s9 : Int) k10 =>
 (gd ((decide ((bits .and .i64 a1 x14.Cube.Mask) = x14.Cube.Bits)) && (!(decide (s9 < 0)))) default (idx a0 s9)).bind fun r43 =>
 (gd ((decide ((bits .and .i64 a1 x14.Cube.Mask) = x14.Cube.Bits)) && (!(decide (s9 < 0)))) default (t_rule_above x14 r43)).bind fun r50 =>
 (if ((decide ((bits .and .i64 a1 x14.Cube.Mask) = x14.Cube.Bits)) && ((decide (s9 < 0)) || (decide (0 < r50)))) = true then (
 some i13) else (
 some (s9))).bind fun (s60 : Int) =>
 k10 (s60)) (fun (s9 : Int) =>
 some (s9)) (-1 : Int)).bind fun (s4 : Int) =>
 some s4
theorem ty_rule_Find {n : Nat} (hn : bigN ≤ n) (a0 : (List T_Rule)) (a1 : Int) : Rv (fun x : Int => (vi x)) (sem_rule_Find n [(V.sl (List.map T_Rule.c a0)), (vi a1)]) (t_rule_Find a0 a1) := by
  rw [eq_rule_Find]
  unfold t_rule_Find
  refine tb (x := (vi (List.length a0 : Int))) (p_len _) ?_
  refine tjb (mk := fun s4 : Int => [(vi s4)]) (fun J3 => ?_) fun s4 => ?_
  · refine rf_loopI (mk := fun (i13 : Int) (s9 : Int) => [(vi s9), (vi (i13 : Int))]) hn a0 (-1 : Int) (fun i13 x14 h15 h16 h17 s9 rec7 k10 h11 => ?_) (fun s9 rec66 h65 => ?_)
    · refine tb (x := (vb (decide ((i13 : Int) < (List.length a0 : Int))))) (d_lss) ?_
      refine tcond_t h17 ?_
      refine tb (x := (V.ptr (T_Rule.c x14))) (p_idx_at (c := T_Rule.c) (fun _ => rfl) h15) ?_
      refine tb (x := (T_Rule.e x14)) (rfl) ?_
      refine tb (x := V.agg (T_Rule.c x14)) (by kernel_rfl) ?_
      refine tb (x := (vi x14.Cube.Mask)) (rfl) ?_
      refine tb (x := (vi (bits .and .i64 a1 x14.Cube.Mask))) (d_and) ?_
      refine tb (x := (vi x14.Cube.Bits)) (rfl) ?_
      refine tb (x := (vb (decide ((bits .and .i64 a1 x14.Cube.Mask) = x14.Cube.Bits)))) (d_eql) ?_
      refine tg (x := (vi s9)) (fun h26 => rfl) ?_
      refine tg (x := (vb (decide (s9 < 0)))) (fun h28 => by simp only [gv_t h28]; exact bind_some_eq (d_lss)) ?_
      refine tg (x := (vb (decide (s9 < 0)))) (fun h31 => congrArg some (gv_t h31)) ?_
      refine tg2_f (x := (T_Rule.e x14)) (fun h33 => bind_some_eq (rfl)) ?_
      refine tg2_f (x := (V.sl (List.map T_Rule.c a0))) (fun h36 => rfl) ?_
      refine tg2_f (x := (vi s9)) (fun h38 => rfl) ?_
      refine tgo2_f (fun h40 => by simp only [gv_t h40]; exact rf_bind_some (p_idx (c := T_Rule.c) (fun _ => rfl) a0 s9)) fun r43 => ?_
      refine tg2_f (x := (T_Rule.e r43)) (fun h44 => by first | exact bind_some_eq (rfl) | (simp only [gv_t h44]; exact bind_some_eq (rfl))) ?_
      refine tgo2_f (fun h47 => by simp only [gv_t h47]; exact rf_bind_some (ty_rule_above hn x14 r43)) fun r50 => ?_
      refine tg2_f (x := (vb (decide (0 < r50)))) (fun h51 => by simp only [gv_t h51]; exact bind_some_eq (d_gtr)) ?_
      refine tg (x := (vb ((decide (s9 < 0)) || (decide (0 < r50))))) (fun h54 => by simp only [gv_t h54]; exact bind_some_eq (pick_or (fun h9 => gv_t (and_i h54 (not_f h9))))) ?_
      refine tb (x := (vb ((decide ((bits .and .i64 a1 x14.Cube.Mask) = x14.Cube.Bits)) && ((decide (s9 < 0)) || (decide (0 < r50)))))) (pick_and (fun h9 => gv_t h9)) ?_
      refine tjb (mk := fun s60 : Int => [(vi s60)]) (fun J59 => ?_) fun s60 => ?_
      · refine tcond (fun h64 => ?_) (fun h64 => ?_)
        · exact rf_j rfl
        · exact rf_j rfl
      · refine tb (x := (vi ((i13 : Int) + 1))) (p_incN h16) ?_
        exact h11 (s60)
    · refine tb (x := (vb (decide ((List.length a0 : Int) < (List.length a0 : Int))))) (d_lss) ?_
      refine tcond_f h65 ?_
      exact rf_j rfl
  · exact rf_ret rfl

/-! railpoint/net.Out -/
def an_net_Out : Ann := .seq (.reg 0 [] [] []) (.seq (.reg 0 [] [] []) (.seq (.seq (.reg 0 [] [] []) (.cond none (.seq (.reg 0 [] [] []) (.no)) (.no))) (.seq (.reg 2097045 [] [] []) (.no))))
noncomputable def sem_net_Out (n : Nat) (xs : List V) : Option V := if xs.length ≤ 45 then denF Try.prog (envOf [(64, (sem_rule_Find n))]) n Try.f42 an_net_Out xs else none
theorem ok_net_Out (n : Nat) : SemOk Try.prog DW 42 (sem_net_Out n) := fun xs y h => by
  unfold sem_net_Out at h
  split at h
  · rename_i hl
    exact denF_ok stb Try.func42 (by kernel_rfl) (envOf_ok (semsOk_cons (ok_rule_Find n) semsOk_nil)) (by rw [Try.ntmps42]; exact hl) h
  · cases h
theorem eq_net_Out (n : Nat) (x0 x1 x2 : V) : sem_net_Out n [x0, x1, x2] =
 (V.cellsO x1).bind fun v1 =>
 ((sem_rule_Find n) [x0, x2]).bind fun v2 =>
 (bin2 Try.prog BinOp.lss 3 (ot 13) (oc 0) v2 (vi 0)).bind fun v3 =>
 (guardV v3 false (some x0)).bind fun v4 =>
 (guardV v3 false (some v2)).bind fun v5 =>
 (guardV v3 false ((idxS 6 v4 v5).bind fun v6 =>
 some v6)).bind fun v7 =>
 (guardV v3 false ((ptrF 3 v7).bind fun v8 =>
 some v8)).bind fun v9 =>
 (guardV v3 false ((ldp none v9).bind fun v10 =>
 some v10)).bind fun v11 =>
 (guardV v3 false ((bin2 Try.prog BinOp.eql 3 (ot 20) (oc 0) v11 (vi 0)).bind fun v12 =>
 some v12)).bind fun v13 =>
 (pickV v3 (vb true) v13).bind fun v14 =>
 condV v14 (
 ((fillL [(vi 0), (vi 0)] []).map V.agg).bind fun v15 =>
 (spliceV [(vi 0), (vi 0)] 0 2 v15).bind fun v16 =>
 (ldk (some 2) (List.drop 0 (aggL v16))).bind fun v17 =>
 some (V.tup [v17, (vi 0), (vb false)])) (
 (idxS 6 x0 v2).bind fun v18 =>
 (ptrF 3 v18).bind fun v19 =>
 (ldp none v19).bind fun v20 =>
 (litV v20).bind fun v21 =>
 (idxS 6 x0 v2).bind fun v22 =>
 (ptrF 4 v22).bind fun v23 =>
 (ldp none v23).bind fun v24 =>
 (litV v24).bind fun v25 =>
 (bin2 Try.prog BinOp.andNot 3 (ot 32) (ot 37) x2 v25).bind fun v26 =>
 (litV v26).bind fun v27 =>
 (idxS 6 x0 v2).bind fun v28 =>
 (ptrF 5 v28).bind fun v29 =>
 (ldp none v29).bind fun v30 =>
 (litV v30).bind fun v31 =>
 (bin2 Try.prog BinOp.or 3 (ot 38) (ot 43) v27 v31).bind fun v32 =>
 (litV v32).bind fun v33 =>
 (ldk none (List.drop 0 v1)).bind fun v34 =>
 ((fillL [(vi 0), (vi 0)] [(0, 1, v34), (1, 1, v21)]).map V.agg).bind fun v35 =>
 (spliceV [(vi 0), (vi 0)] 0 2 v35).bind fun v36 =>
 (ldk (some 2) (List.drop 0 (aggL v36))).bind fun v37 =>
 some (V.tup [v37, v33, (vb true)])) := by kernel_rfl
noncomputable def t_net_Out (a0 : (List T_Rule)) (a1 : T_Spot) (a2 : Int) : Option (T_Spot × Int × Bool) :=
 (t_rule_Find a0 a2).bind fun r3 =>
 (gd (!(decide (r3 < 0))) default (idx a0 r3)).bind fun r12 =>
 if ((decide (r3 < 0)) || (decide (r12.Out = 0))) = true then (
 some ((T_Spot.mk 0 0), 0, false)) else (
 (idx a0 r3).bind fun r28 =>
 (idx a0 r3).bind fun r33 =>
 (idx a0 r3).bind fun r40 =>
 some ((T_Spot.mk a1.Switch r28.Out), (bits .or .i64 (bits .andNot .i64 a2 r33.Set) r40.Value), true))
theorem ty_net_Out {n : Nat} (hn : bigN ≤ n) (a0 : (List T_Rule)) (a1 : T_Spot) (a2 : Int) : Rv (fun x : (T_Spot × Int × Bool) => V.tup [(T_Spot.e x.1), (vi x.2.1), (vb x.2.2)]) (sem_net_Out n [(V.sl (List.map T_Rule.c a0)), (T_Spot.e a1), (vi a2)]) (t_net_Out a0 a1 a2) := by
  rw [eq_net_Out]
  unfold t_net_Out
  refine tb (x := (T_Spot.c a1)) rfl ?_
  refine tbo (ty_rule_Find hn a0 a2) fun r3 => ?_
  refine tb (x := (vb (decide (r3 < 0)))) (d_lss) ?_
  refine tg_f (x := (V.sl (List.map T_Rule.c a0))) (fun h5 => rfl) ?_
  refine tg_f (x := (vi r3)) (fun h7 => rfl) ?_
  refine tgo_f (fun h9 => by simp only [gv_t h9]; exact rf_bind_some (p_idx (c := T_Rule.c) (fun _ => rfl) a0 r3)) fun r12 => ?_
  refine tg_f (x := (V.ptr (List.drop 3 (T_Rule.c r12)))) (fun h13 => by first | exact bind_some_eq (rfl) | (simp only [gv_t h13]; exact bind_some_eq (rfl))) ?_
  refine tg_f (x := (vi r12.Out)) (fun h16 => by first | exact bind_some_eq (rfl) | (simp only [gv_t h16]; exact bind_some_eq (rfl))) ?_
  refine tg_f (x := (vb (decide (r12.Out = 0)))) (fun h19 => by simp only [gv_t h19]; exact bind_some_eq (d_eql)) ?_
  refine tb (x := (vb ((decide (r3 < 0)) || (decide (r12.Out = 0))))) (pick_or (fun h9 => gv_t (not_f h9))) ?_
  refine tcond (fun h23 => ?_) (fun h23 => ?_)
  · refine tb (x := (T_Spot.e (T_Spot.mk 0 0))) (by kernel_rfl) ?_
    refine tb (x := V.agg (T_Spot.c (T_Spot.mk 0 0))) (by kernel_rfl) ?_
    refine tb (x := (T_Spot.e (T_Spot.mk 0 0))) rfl ?_
    exact rf_ret rfl
  · refine tbo (p_idx (c := T_Rule.c) (fun _ => rfl) a0 r3) fun r28 => ?_
    refine tb (x := (V.ptr (List.drop 3 (T_Rule.c r28)))) (rfl) ?_
    refine tb (x := (vi r28.Out)) (rfl) ?_
    refine tb (x := (vi r28.Out)) rfl ?_
    refine tbo (p_idx (c := T_Rule.c) (fun _ => rfl) a0 r3) fun r33 => ?_
    refine tb (x := (V.ptr (List.drop 4 (T_Rule.c r33)))) (rfl) ?_
    refine tb (x := (vi r33.Set)) (rfl) ?_
    refine tb (x := (vi r33.Set)) rfl ?_
    refine tb (x := (vi (bits .andNot .i64 a2 r33.Set))) (d_andNot) ?_
    refine tb (x := (vi (bits .andNot .i64 a2 r33.Set))) rfl ?_
    refine tbo (p_idx (c := T_Rule.c) (fun _ => rfl) a0 r3) fun r40 => ?_
    refine tb (x := (V.ptr (List.drop 5 (T_Rule.c r40)))) (rfl) ?_
    refine tb (x := (vi r40.Value)) (rfl) ?_
    refine tb (x := (vi r40.Value)) rfl ?_
    refine tb (x := (vi (bits .or .i64 (bits .andNot .i64 a2 r33.Set) r40.Value))) (d_or) ?_
    refine tb (x := (vi (bits .or .i64 (bits .andNot .i64 a2 r33.Set) r40.Value))) rfl ?_
    refine tb (x := (vi a1.Switch)) (rfl) ?_
    refine tb (x := (T_Spot.e (T_Spot.mk a1.Switch r28.Out))) (by kernel_rfl) ?_
    refine tb (x := V.agg (T_Spot.c (T_Spot.mk a1.Switch r28.Out))) (by kernel_rfl) ?_
    refine tb (x := (T_Spot.e (T_Spot.mk a1.Switch r28.Out))) rfl ?_
    exact rf_ret rfl

/-! railpoint/topo.Host$1 -/
def an_topo_Host_1 : Ann := .seq (.reg 0 [] [] []) (.seq (.reg 0 [] [] []) (.no))
noncomputable def sem_topo_Host_1 (n : Nat) (xs : List V) : Option V := if xs.length ≤ 8 then denF Try.prog (envOf []) n Try.f75 an_topo_Host_1 xs else none
theorem ok_topo_Host_1 (n : Nat) : SemOk Try.prog DW 75 (sem_topo_Host_1 n) := fun xs y h => by
  unfold sem_topo_Host_1 at h
  split at h
  · rename_i hl
    exact denF_ok stb Try.func75 (by kernel_rfl) (envOf_ok semsOk_nil) (by rw [Try.ntmps75]; exact hl) h
  · cases h
theorem eq_topo_Host_1 (n : Nat) (x0 x1 : V) : sem_topo_Host_1 n [x0, x1] =
 (V.cellsO x0).bind fun v1 =>
 (ldk (some 2) (List.drop 1 v1)).bind fun v2 =>
 (ldp (some 2) x1).bind fun v3 =>
 (bin2 Try.prog BinOp.eql 51 (ot 5) (ot 6) v2 v3).bind fun v4 =>
 some v4 := by kernel_rfl
noncomputable def t_topo_Host_1 (a0 : T_Host) (a1 : T_Spot) : Option Bool :=
 some (decide (a0.At = a1))
theorem ty_topo_Host_1 {n : Nat} (hn : bigN ≤ n) (a0 : T_Host) (a1 : T_Spot) : Rv (fun x : Bool => (vb x)) (sem_topo_Host_1 n [(T_Host.e a0), (V.ptr (T_Spot.c a1))]) (t_topo_Host_1 a0 a1) := by
  rw [eq_topo_Host_1]
  unfold t_topo_Host_1
  refine tb (x := (T_Host.c a0)) rfl ?_
  refine tb (x := (T_Spot.e a0.At)) (rfl) ?_
  refine tb (x := (T_Spot.e a1)) (rfl) ?_
  refine tb (x := (vb (decide (a0.At = a1)))) (T_Spot.eql a0.At a1) ?_
  exact rf_ret rfl

/-! railpoint/topo.Host -/
def an_topo_Host : Ann := .seq (.reg 0 [] [] []) (.seq (.reg 0 [3] [] []) (.seq (.seq (.reg 0 [] [] []) (.cond none (.seq (.reg 0 [] [] []) (.no)) (.no))) (.seq (.reg 0 [] [] []) (.no))))
noncomputable def sem_topo_Host (n : Nat) (xs : List V) : Option V := if xs.length ≤ 19 then denF Try.prog (envOf [(39, (sem_slices_IndexFunc_api_Host_api_Host (envOf [(75, (sem_topo_Host_1 n))]) n)), (75, (sem_topo_Host_1 n))]) n Try.f70 an_topo_Host xs else none
theorem ok_topo_Host (n : Nat) : SemOk Try.prog DW 70 (sem_topo_Host n) := fun xs y h => by
  unfold sem_topo_Host at h
  split at h
  · rename_i hl
    exact denF_ok stb Try.func70 (by kernel_rfl) (envOf_ok (semsOk_cons (ok_slices_IndexFunc_api_Host_api_Host (envOf_ok (semsOk_cons (ok_topo_Host_1 n) semsOk_nil)) n) (semsOk_cons (ok_topo_Host_1 n) semsOk_nil))) (by rw [Try.ntmps70]; exact hl) h
  · cases h
theorem eq_topo_Host (n : Nat) (x0 x1 : V) : sem_topo_Host n [x0, x1] =
 (V.cellsO x0).bind fun v1 =>
 (V.cellsO x1).bind fun v2 =>
 (ldk none (List.drop 2 v1)).bind fun v3 =>
 ((sem_slices_IndexFunc_api_Host_api_Host (envOf [(75, (sem_topo_Host_1 n))]) n) [v3, (V.fn 75 [(V.ptr v2)])]).bind fun v4 =>
 (bin2 Try.prog BinOp.lss 3 (ot 11) (oc 0) v4 (vi 0)).bind fun v5 =>
 condV v5 (
 some (V.tup [(V.lit (Go.Value.string (ByteArray.mk #[]))), (vb false)])) (
 (ldk none (List.drop 2 v1)).bind fun v6 =>
 (idxS 3 v6 v4).bind fun v7 =>
 (ptrF 0 v7).bind fun v8 =>
 (ldp none v8).bind fun v9 =>
 some (V.tup [v9, (vb true)])) := by kernel_rfl
noncomputable def t_topo_Host (a0 : T_Topo) (a1 : T_Spot) : Option (ByteArray × Bool) :=
 (t_slices_IndexFunc_api_Host_api_Host a0.Hosts (fun (a4 : T_Host) => t_topo_Host_1 a4 a1)).bind fun r6 =>
 if (decide (r6 < 0)) = true then (
 some ((ByteArray.mk #[]), false)) else (
 (idx a0.Hosts r6).bind fun r11 =>
 some (r11.Name, true))
theorem ty_topo_Host {n : Nat} (hn : bigN ≤ n) (a0 : T_Topo) (a1 : T_Spot) : Rv (fun x : (ByteArray × Bool) => V.tup [(vt x.1), (vb x.2)]) (sem_topo_Host n [(T_Topo.e a0), (T_Spot.e a1)]) (t_topo_Host a0 a1) := by
  rw [eq_topo_Host]
  unfold t_topo_Host
  refine tb (x := (T_Topo.c a0)) rfl ?_
  refine tb (x := (T_Spot.c a1)) rfl ?_
  refine tb (x := (V.sl (List.map T_Host.c a0.Hosts))) (rfl) ?_
  refine tbo (ty_slices_IndexFunc_api_Host_api_Host (E := (envOf [(75, (sem_topo_Host_1 n))])) (x1 := (V.fn 75 [(V.ptr (T_Spot.c a1))])) (g1 := (fun (a4 : T_Host) => t_topo_Host_1 a4 a1)) hn a0.Hosts (fun a4 => ty_topo_Host_1 hn a4 a1)) fun r6 => ?_
  refine tb (x := (vb (decide (r6 < 0)))) (d_lss) ?_
  refine tcond (fun h8 => ?_) (fun h8 => ?_)
  · exact rf_ret rfl
  · refine tb (x := (V.sl (List.map T_Host.c a0.Hosts))) (rfl) ?_
    refine tbo (p_idx (c := T_Host.c) (fun _ => rfl) a0.Hosts r6) fun r11 => ?_
    refine tb (x := (V.ptr (T_Host.c r11))) (rfl) ?_
    refine tb (x := (vt r11.Name)) (rfl) ?_
    exact rf_ret rfl

/-! railpoint/topo.Other -/
def an_topo_Other : Ann := .seq (.reg 0 [] [] []) (.seq (.seq (.reg 0 [] [] []) (.blk (some [.b 4]) (.loop [.kb 3, .b 4, .s 11] (.seq (.reg 0 [] [] []) (.seq (.cond none (.no) (.no)) (.seq (.blk none (.seq (.reg 0 [] [] []) (.seq (.reg 0 [] [] []) (.blk none (.seq (.reg 0 [] [] []) (.cond none (.seq (.reg 0 [] [] []) (.no)) (.seq (.reg 0 [] [] []) (.cond none (.seq (.reg 0 [] [] []) (.no)) (.no))))))))) (.reg 0 [] [] []))))))) (.seq (.reg 0 [] [] []) (.no)))
noncomputable def sem_topo_Other (n : Nat) (xs : List V) : Option V := if xs.length ≤ 30 then denF Try.prog (envOf []) n Try.f44 an_topo_Other xs else none
theorem ok_topo_Other (n : Nat) : SemOk Try.prog DW 44 (sem_topo_Other n) := fun xs y h => by
  unfold sem_topo_Other at h
  split at h
  · rename_i hl
    exact denF_ok stb Try.func44 (by kernel_rfl) (envOf_ok semsOk_nil) (by rw [Try.ntmps44]; exact hl) h
  · cases h
theorem eq_topo_Other (n : Nat) (x0 x1 : V) : sem_topo_Other n [x0, x1] =
 (V.cellsO x0).bind fun v1 =>
 (V.cellsO x1).bind fun v2 =>
 (ldk none (List.drop 1 v1)).bind fun v3 =>
 (lenS [v3]).bind fun v4 =>
 JoinPt (fun vs5 =>
 ((fillL [(vi 0), (vi 0)] []).map V.agg).bind fun v7 =>
 (spliceV (aggL (List.getD vs5 0 V.any)) 0 2 v7).bind fun v8 =>
 (ldk (some 2) (List.drop 0 (aggL v8))).bind fun v9 =>
 some (V.tup [v9, (vb false)])) fun J6 =>
 (keepO (some v2) (some v2) (some [(V.agg [(vi 0), (vi 0)]), (vi 0)])).bind (fixN (fun rec10 vs11 =>
 (bin2 Try.prog BinOp.lss 3 (ot 11) (ot 10) (List.getD vs11 1 V.any) v4).bind fun v12 =>
 condV v12 (
 (idxS 4 v3 (List.getD vs11 1 V.any)).bind fun v13 =>
 (ldp (some 4) v13).bind fun v14 =>
 (spliceV [(vi 0), (vi 0), (vi 0), (vi 0)] 0 4 v14).bind fun v15 =>
 (ldk (some 2) (List.drop 0 v2)).bind fun v16 =>
 (ldk (some 2) (List.drop 0 (aggL v15))).bind fun v17 =>
 (bin2 Try.prog BinOp.eql 51 (ot 15) (ot 18) v16 v17).bind fun v18 =>
 condV v18 (
 (ldk (some 2) (List.drop 2 (aggL v15))).bind fun v19 =>
 (spliceV (aggL (List.getD vs11 0 V.any)) 0 2 v19).bind fun v20 =>
 (ldk (some 2) (List.drop 0 (aggL v20))).bind fun v21 =>
 some (V.tup [v21, (vb true)])) (
 (ldk (some 2) (List.drop 2 (aggL v15))).bind fun v22 =>
 (bin2 Try.prog BinOp.eql 51 (ot 15) (ot 24) v16 v22).bind fun v23 =>
 condV v23 (
 (ldk (some 2) (List.drop 0 (aggL v15))).bind fun v24 =>
 (spliceV (aggL (List.getD vs11 0 V.any)) 0 2 v24).bind fun v25 =>
 (ldk (some 2) (List.drop 0 (aggL v25))).bind fun v26 =>
 some (V.tup [v26, (vb true)])) (
 (bin2 Try.prog BinOp.add 3 (ot 11) (oc 1) (List.getD vs11 1 V.any) (vi 1)).bind fun v27 =>
 (keepO (some v2) (some v2) (some [(V.agg (aggL (List.getD vs11 0 V.any))), v27])).bind rec10))) (
 J6 [(V.agg (aggL (List.getD vs11 0 V.any)))])) n) := by kernel_rfl
noncomputable def t_topo_Other (a0 : T_Topo) (a1 : T_Spot) : Option (T_Spot × Bool) :=
 join (fun (s7 : T_Spot) =>
 some ((T_Spot.mk 0 0), false)) fun j8 =>
 loopI a0.Links (fun (i19 : Int) x20 (s15 : Unit) k16 =>
 if (decide (a1 = x20.A)) = true then (
 some (x20.B, true)) else (
 if (decide (a1 = x20.B)) = true then (
 some (x20.A, true)) else (
 k16 ()))) (fun (s15 : Unit) =>
 j8 (T_Spot.mk 0 0)) ()
theorem ty_topo_Other {n : Nat} (hn : bigN ≤ n) (a0 : T_Topo) (a1 : T_Spot) : Rv (fun x : (T_Spot × Bool) => V.tup [(T_Spot.e x.1), (vb x.2)]) (sem_topo_Other n [(T_Topo.e a0), (T_Spot.e a1)]) (t_topo_Other a0 a1) := by
  rw [eq_topo_Other]
  unfold t_topo_Other
  refine tb (x := (T_Topo.c a0)) rfl ?_
  refine tb (x := (T_Spot.c a1)) rfl ?_
  refine tb (x := (V.sl (List.map T_Link.c a0.Links))) (rfl) ?_
  refine tb (x := (vi (List.length a0.Links : Int))) (p_len _) ?_
  refine tjoin (mk := fun s7 : T_Spot => [(V.agg (T_Spot.c s7))]) (fun s7 => ?_) fun J6 j8 h9 => ?_
  · refine tb (x := (T_Spot.e (T_Spot.mk 0 0))) (by kernel_rfl) ?_
    refine tb (x := V.agg (T_Spot.c (T_Spot.mk 0 0))) (by kernel_rfl) ?_
    refine tb (x := (T_Spot.e (T_Spot.mk 0 0))) rfl ?_
    exact rf_ret rfl
  · refine tkeepO2 ?_ rfl
    refine tsome ?_
    refine rf_loopI (mk := fun (i19 : Int) (s15 : Unit) => [(V.agg (T_Spot.c (T_Spot.mk 0 0))), (vi (i19 : Int))]) hn a0.Links () (fun i19 x20 h21 h22 h23 s15 rec13 k16 h17 => ?_) (fun s15 rec43 h42 => ?_)
    · refine tb (x := (vb (decide ((i19 : Int) < (List.length a0.Links : Int))))) (d_lss) ?_
      refine tcond_t h23 ?_
      refine tb (x := (V.ptr (T_Link.c x20))) (p_idx_at (c := T_Link.c) (fun _ => rfl) h21) ?_
      refine tb (x := (T_Link.e x20)) (rfl) ?_
      refine tb (x := V.agg (T_Link.c x20)) (by kernel_rfl) ?_
      refine tb (x := (T_Spot.e a1)) (rfl) ?_
      refine tb (x := (T_Spot.e x20.A)) (rfl) ?_
      refine tb (x := (vb (decide (a1 = x20.A)))) (T_Spot.eql a1 x20.A) ?_
      refine tcond (fun h31 => ?_) (fun h31 => ?_)
      · refine tb (x := (T_Spot.e x20.B)) (rfl) ?_
        refine tb (x := V.agg (T_Spot.c x20.B)) (by kernel_rfl) ?_
        refine tb (x := (T_Spot.e x20.B)) rfl ?_
        exact rf_ret rfl
      · refine tb (x := (T_Spot.e x20.B)) (rfl) ?_
        refine tb (x := (vb (decide (a1 = x20.B)))) (T_Spot.eql a1 x20.B) ?_
        refine tcond (fun h37 => ?_) (fun h37 => ?_)
        · refine tb (x := (T_Spot.e x20.A)) (rfl) ?_
          refine tb (x := V.agg (T_Spot.c x20.A)) (by kernel_rfl) ?_
          refine tb (x := (T_Spot.e x20.A)) rfl ?_
          exact rf_ret rfl
        · refine tb (x := (vi ((i19 : Int) + 1))) (p_incN h22) ?_
          refine tkeepO2 ?_ rfl
          refine tsome ?_
          exact h17 ()
    · refine tb (x := (vb (decide ((List.length a0.Links : Int) < (List.length a0.Links : Int))))) (d_lss) ?_
      refine tcond_f h42 ?_
      exact h9 (T_Spot.mk 0 0)

/-! slices.Index   railpoint/api.Hop railpoint/api.Hop  -/
def an_slices_Index_api_Hop_api_Hop : Ann := .seq (.reg 0 [] [] []) (.seq (.seq (.reg 0 [] [] []) (.blk (some []) (.loop [.kb 3, .s 8] (.seq (.reg 0 [] [] []) (.seq (.cond none (.no) (.no)) (.seq (.blk none (.seq (.reg 0 [] [] []) (.seq (.reg 6 [] [] []) (.cond none (.seq (.reg 0 [] [] []) (.no)) (.no))))) (.reg 0 [] [] []))))))) (.seq (.reg 0 [] [] []) (.no)))
noncomputable def sem_slices_Index_api_Hop_api_Hop (n : Nat) (xs : List V) : Option V := if xs.length ≤ 19 then denF Try.prog (envOf []) n Try.f76 an_slices_Index_api_Hop_api_Hop xs else none
theorem ok_slices_Index_api_Hop_api_Hop (n : Nat) : SemOk Try.prog DW 76 (sem_slices_Index_api_Hop_api_Hop n) := fun xs y h => by
  unfold sem_slices_Index_api_Hop_api_Hop at h
  split at h
  · rename_i hl
    exact denF_ok stb Try.func76 (by kernel_rfl) (envOf_ok semsOk_nil) (by rw [Try.ntmps76]; exact hl) h
  · cases h
theorem eq_slices_Index_api_Hop_api_Hop (n : Nat) (x0 x1 : V) : sem_slices_Index_api_Hop_api_Hop n [x0, x1] =
 (V.cellsO x1).bind fun v1 =>
 (lenS [x0]).bind fun v2 =>
 JoinPt (fun vs3 =>
 some (vi (-1 : Int))) fun J4 =>
 (keepO (some v1) (some v1) (some [(vi 0)])).bind (fixN (fun rec5 vs6 =>
 (bin2 Try.prog BinOp.lss 3 (ot 8) (ot 7) (List.getD vs6 0 V.any) v2).bind fun v7 =>
 condV v7 (
 (ldk (some 3) (List.drop 0 v1)).bind fun v8 =>
 (idxS 3 x0 (List.getD vs6 0 V.any)).bind fun v9 =>
 (ldp (some 3) v9).bind fun v10 =>
 (bin2 Try.prog BinOp.eql 55 (ot 11) (ot 15) v8 v10).bind fun v11 =>
 condV v11 (
 some (List.getD vs6 0 V.any)) (
 (bin2 Try.prog BinOp.add 3 (ot 8) (oc 1) (List.getD vs6 0 V.any) (vi 1)).bind fun v12 =>
 (keepO (some v1) (some v1) (some [v12])).bind rec5)) (
 J4 [])) n) := by kernel_rfl
noncomputable def t_slices_Index_api_Hop_api_Hop (a0 : (List T_Hop)) (a1 : T_Hop) : Option Int :=
 join (fun (s5 : Unit) =>
 some (-1 : Int)) fun j6 =>
 loopI a0 (fun (i14 : Int) x15 (s10 : Unit) k11 =>
 if (decide (a1 = x15)) = true then (
 some i14) else (
 k11 ())) (fun (s10 : Unit) =>
 j6 ()) ()
theorem ty_slices_Index_api_Hop_api_Hop {n : Nat} (hn : bigN ≤ n) (a0 : (List T_Hop)) (a1 : T_Hop) : Rv (fun x : Int => (vi x)) (sem_slices_Index_api_Hop_api_Hop n [(V.sl (List.map T_Hop.c a0)), (T_Hop.e a1)]) (t_slices_Index_api_Hop_api_Hop a0 a1) := by
  rw [eq_slices_Index_api_Hop_api_Hop]
  unfold t_slices_Index_api_Hop_api_Hop
  refine tb (x := (T_Hop.c a1)) rfl ?_
  refine tb (x := (vi (List.length a0 : Int))) (p_len _) ?_
  refine tjoin (mk := fun s5 : Unit => []) (fun s5 => ?_) fun J4 j6 h7 => ?_
  · exact rf_ret rfl
  · refine tkeepO2 ?_ rfl
    refine tsome ?_
    refine rf_loopI (mk := fun (i14 : Int) (s10 : Unit) => [(vi (i14 : Int))]) hn a0 () (fun i14 x15 h16 h17 h18 s10 rec8 k11 h12 => ?_) (fun s10 rec27 h26 => ?_)
    · refine tb (x := (vb (decide ((i14 : Int) < (List.length a0 : Int))))) (d_lss) ?_
      refine tcond_t h18 ?_
      refine tb (x := (T_Hop.e a1)) (rfl) ?_
      refine tb (x := (V.ptr (T_Hop.c x15))) (p_idx_at (c := T_Hop.c) (fun _ => rfl) h16) ?_
      refine tb (x := (T_Hop.e x15)) (rfl) ?_
      refine tb (x := (vb (decide (a1 = x15)))) (T_Hop.eql a1 x15) ?_
      refine tcond (fun h24 => ?_) (fun h24 => ?_)
      · exact rf_ret rfl
      · refine tb (x := (vi ((i14 : Int) + 1))) (p_incN h17) ?_
        refine tkeepO2 ?_ rfl
        refine tsome ?_
        exact h12 ()
    · refine tb (x := (vb (decide ((List.length a0 : Int) < (List.length a0 : Int))))) (d_lss) ?_
      refine tcond_f h26 ?_
      exact h7 ()

/-! slices.Contains   railpoint/api.Hop railpoint/api.Hop  -/
def an_slices_Contains_api_Hop_api_Hop : Ann := .seq (.reg 0 [] [] []) (.seq (.reg 0 [] [] []) (.no))
noncomputable def sem_slices_Contains_api_Hop_api_Hop (n : Nat) (xs : List V) : Option V := if xs.length ≤ 9 then denF Try.prog (envOf [(76, (sem_slices_Index_api_Hop_api_Hop n))]) n Try.f71 an_slices_Contains_api_Hop_api_Hop xs else none
theorem ok_slices_Contains_api_Hop_api_Hop (n : Nat) : SemOk Try.prog DW 71 (sem_slices_Contains_api_Hop_api_Hop n) := fun xs y h => by
  unfold sem_slices_Contains_api_Hop_api_Hop at h
  split at h
  · rename_i hl
    exact denF_ok stb Try.func71 (by kernel_rfl) (envOf_ok (semsOk_cons (ok_slices_Index_api_Hop_api_Hop n) semsOk_nil)) (by rw [Try.ntmps71]; exact hl) h
  · cases h
theorem eq_slices_Contains_api_Hop_api_Hop (n : Nat) (x0 x1 : V) : sem_slices_Contains_api_Hop_api_Hop n [x0, x1] =
 (V.cellsO x1).bind fun v1 =>
 (ldk (some 3) (List.drop 0 v1)).bind fun v2 =>
 ((sem_slices_Index_api_Hop_api_Hop n) [x0, v2]).bind fun v3 =>
 (bin2 Try.prog BinOp.geq 3 (ot 7) (oc 0) v3 (vi 0)).bind fun v4 =>
 some v4 := by kernel_rfl
noncomputable def t_slices_Contains_api_Hop_api_Hop (a0 : (List T_Hop)) (a1 : T_Hop) : Option Bool :=
 (t_slices_Index_api_Hop_api_Hop a0 a1).bind fun r4 =>
 some (decide (0 ≤ r4))
theorem ty_slices_Contains_api_Hop_api_Hop {n : Nat} (hn : bigN ≤ n) (a0 : (List T_Hop)) (a1 : T_Hop) : Rv (fun x : Bool => (vb x)) (sem_slices_Contains_api_Hop_api_Hop n [(V.sl (List.map T_Hop.c a0)), (T_Hop.e a1)]) (t_slices_Contains_api_Hop_api_Hop a0 a1) := by
  rw [eq_slices_Contains_api_Hop_api_Hop]
  unfold t_slices_Contains_api_Hop_api_Hop
  refine tb (x := (T_Hop.c a1)) rfl ?_
  refine tb (x := (T_Hop.e a1)) (rfl) ?_
  refine tbo (ty_slices_Index_api_Hop_api_Hop hn a0 a1) fun r4 => ?_
  refine tb (x := (vb (decide (0 ≤ r4)))) (d_geq) ?_
  exact rf_ret rfl

/-! railpoint/net.Go -/
def an_net_Go : Ann := .seq (.reg 0 [] [] []) (.seq (.reg 13 [] [] []) (.seq (.reg 0 [] [] []) (.seq (.seq (.reg 0 [] [] []) (.cond none (.seq (.reg 0 [] [] []) (.seq (.reg 0 [] [] []) (.no))) (.no))) (.seq (.seq (.reg 0 [] [] []) (.seq (.reg 0 [] [] []) (.cond none (.seq (.reg 0 [] [] []) (.seq (.reg 0 [] [] []) (.no))) (.no)))) (.seq (.reg 0 [] [] []) (.seq (.seq (.reg 0 [] [] []) (.cond none (.seq (.reg 0 [] [] []) (.seq (.reg 0 [] [] []) (.no))) (.no))) (.seq (.reg 0 [] [] []) (.seq (.seq (.reg 14 [] [] []) (.cond none (.seq (.reg 0 [] [] []) (.seq (.reg 0 [] [] []) (.no))) (.no))) (.seq (.reg 8 [] [] [1000092]) (.seq (.reg 0 [] [] []) (.no)))))))))))
noncomputable def sem_net_Go (n : Nat) (xs : List V) : Option V := if xs.length ≤ 98 then denM Try.prog (envOf [(42, (sem_net_Out n)), (70, (sem_topo_Host n)), (44, (sem_topo_Other n)), (71, (sem_slices_Contains_api_Hop_api_Hop n)), (72 + 1000000 * (55 + 2), (semClone 3))]) n Try.f63 an_net_Go [0, 0, 2] none xs else none
theorem ok_net_Go (n : Nat) : MSemOk Try.prog DW 63 (sem_net_Go n) := fun xs y h => by
  unfold sem_net_Go at h
  split at h
  · rename_i hl
    exact denM_ok Try.func63 (by kernel_rfl) (envOf_ok (semsOk_cons (ok_net_Out n) (semsOk_cons (ok_topo_Host n) (semsOk_cons (ok_topo_Other n) (semsOk_cons (ok_slices_Contains_api_Hop_api_Hop n) (semsOk_consR (rok_slices_Clone_api_Hop_api_Hop) semsOk_nil)))))) (by rw [Try.ntmps63]; exact hl) (by decide) h
  · cases h
theorem eq_net_Go (n : Nat) (x0 x1 x2 : V) : sem_net_Go n [x0, x1, x2] =
 (pureO x0).bind fun v1 =>
 (pureO x1).bind fun v2 =>
 (objG x2).bind fun v3 =>
 (V.cellsO x0).bind fun v4 =>
 (some V.any).bind fun v5 =>
 (some V.any).bind fun v6 =>
 ((nodeL x2 none 0).bind fun l7 => (ldk none (List.drop 2 l7)).bind pureO).bind fun v8 =>
 (some V.any).bind fun v9 =>
 (some V.any).bind fun v10 =>
 ((nodeL x2 none 0).bind fun l11 => (ldk none (List.drop 2 l11)).bind pureO).bind fun v12 =>
 (lenS [v12]).bind fun v13 =>
 (bin2 Try.prog BinOp.sub 3 (ot 23) (oc 1) v13 (vi 1)).bind fun v14 =>
 (idxS 3 v8 v14).bind fun v15 =>
 (ldp (some 3) v15).bind fun v16 =>
 (spliceV [(vi 0), (vi 0), (vi 0)] 0 3 v16).bind fun v17 =>
 (ldk (some 2) (List.drop 0 (aggL v17))).bind fun v18 =>
 (ldk none (List.drop 2 (aggL v17))).bind fun v19 =>
 ((sem_net_Out n) [x1, v18, v19]).bind fun v20 =>
 (extractV v20 0).bind fun v21 =>
 (extractV v20 1).bind fun v22 =>
 (extractV v20 2).bind fun v23 =>
 (spliceV [(vi 0), (vi 0)] 0 2 v21).bind fun v24 =>
 (scal1 Try.prog (Op.unary Go.UnOp.not) v23).bind fun v25 =>
 condV v25 (
 (some V.any).bind fun v26 =>
 (some V.any).bind fun v27 =>
 (V.cellsO (vi 2)).bind fun v28 =>
 (setV x2 [] (Stp.mk none 0 0) 1 v28).bind fun v29 =>
 some (V.tup [(vb false), V.any, V.any, v29])) (
 (ldk (some 3) (List.drop 0 v4)).bind fun v30 =>
 (ldk (some 2) (List.drop 0 (aggL v24))).bind fun v31 =>
 ((sem_topo_Host n) [v30, v31]).bind fun v32 =>
 (extractV v32 0).bind fun v33 =>
 (extractV v32 1).bind fun v34 =>
 condV v34 (
 (some V.any).bind fun v35 =>
 (some V.any).bind fun v36 =>
 (V.cellsO (vi 1)).bind fun v37 =>
 (setV x2 [] (Stp.mk none 0 0) 1 v37).bind fun v38 =>
 (some V.any).bind fun v39 =>
 (some V.any).bind fun v40 =>
 (V.cellsO v33).bind fun v41 =>
 (setV v38 [] (Stp.mk none 1 0) 1 v41).bind fun v42 =>
 some (V.tup [(vb false), V.any, V.any, v42])) (
 (ldk (some 3) (List.drop 0 v4)).bind fun v43 =>
 (ldk (some 2) (List.drop 0 (aggL v24))).bind fun v44 =>
 ((sem_topo_Other n) [v43, v44]).bind fun v45 =>
 (extractV v45 0).bind fun v46 =>
 (extractV v45 1).bind fun v47 =>
 (spliceV [(vi 0), (vi 0)] 0 2 v46).bind fun v48 =>
 (scal1 Try.prog (Op.unary Go.UnOp.not) v47).bind fun v49 =>
 condV v49 (
 (some V.any).bind fun v50 =>
 (some V.any).bind fun v51 =>
 (V.cellsO (vi 3)).bind fun v52 =>
 (setV x2 [] (Stp.mk none 0 0) 1 v52).bind fun v53 =>
 some (V.tup [(vb false), V.any, V.any, v53])) (
 (ldk (some 2) (List.drop 0 (aggL v48))).bind fun v54 =>
 ((fillL [(vi 0), (vi 0), (vi 0)] [(0, 2, v54), (2, 1, v22)]).map V.agg).bind fun v55 =>
 (spliceV [(vi 0), (vi 0), (vi 0)] 0 3 v55).bind fun v56 =>
 (some V.any).bind fun v57 =>
 (some V.any).bind fun v58 =>
 ((nodeL x2 none 0).bind fun l59 => (ldk none (List.drop 2 l59)).bind pureO).bind fun v60 =>
 (ldk (some 3) (List.drop 0 (aggL v56))).bind fun v61 =>
 ((sem_slices_Contains_api_Hop_api_Hop n) [v60, v61]).bind fun v62 =>
 (guardV v62 false (some V.any)).bind fun v63 =>
 (guardV v62 false (gate v62 false (some V.any))).bind fun v64 =>
 (guardV v62 false (gate v62 false (gate v62 false (some V.any)))).bind fun v65 =>
 (guardV v62 false ((gate v62 false (gate v62 false (gate v62 false ((nodeL x2 none 0).bind fun l66 => (ldk none (List.drop 2 l66)).bind pureO)))).bind fun v67 =>
 some v67)).bind fun v68 =>
 (guardV v62 false ((lenS [v68]).bind fun v69 =>
 some v69)).bind fun v70 =>
 (guardV v62 false ((bin2 Try.prog BinOp.geq 3 (ot 81) (oc 24) v70 (vi 24)).bind fun v71 =>
 some v71)).bind fun v72 =>
 (pickV v62 (vb true) v72).bind fun v73 =>
 condV v73 (
 (some V.any).bind fun v74 =>
 (some V.any).bind fun v75 =>
 (V.cellsO (vi 4)).bind fun v76 =>
 (setV x2 [] (Stp.mk none 0 0) 1 v76).bind fun v77 =>
 some (V.tup [(vb false), V.any, V.any, v77])) (
 (some V.any).bind fun v78 =>
 (some V.any).bind fun v79 =>
 ((nodeL x2 none 0).bind fun l80 => (ldk none (List.drop 2 l80)).bind pureO).bind fun v81 =>
 ((semClone 3) [v81]).bind fun v82 =>
 (ldk (some 3) (List.drop 0 (aggL v56))).bind fun v83 =>
 (slcB 3 1 [(vi 0), (vi 0), (vi 0)] [(0, v83)]).bind fun v84 =>
 (appV 3 (slL3 v82) v84).bind fun v85 =>
 (some V.any).bind fun v86 =>
 (some V.any).bind fun v87 =>
 (V.cellsO (V.sl (slL v85))).bind fun v88 =>
 (setV x2 [] (Stp.mk none 2 0) 1 v88).bind fun v89 =>
 some (V.tup [(vb true), V.any, V.any, v89]))))) := by kernel_rfl
noncomputable def t_net_Go (a0 : T_Topo) (a1 : (List T_Rule)) (a2 : T_Fate) : Option (Bool × T_Fate) :=
 (idx a2.Hops (wr ((List.length a2.Hops : Int) - 1))).bind fun r14 =>
 (t_net_Out a1 r14.At r14.Header).bind fun r20 =>
 if (!r20.2.2) = true then (
 some (false, (T_Fate.mk 2 a2.Host a2.Hops))) else (
 (t_topo_Host a0 r20.1).bind fun r34 =>
 if r34.2 = true then (
 some (false, (T_Fate.mk 1 r34.1 a2.Hops))) else (
 (t_topo_Other a0 r20.1).bind fun r49 =>
 if (!r49.2) = true then (
 some (false, (T_Fate.mk 3 a2.Host a2.Hops))) else (
 (t_slices_Contains_api_Hop_api_Hop a2.Hops (T_Hop.mk r49.1 r20.2.1)).bind fun r67 =>
 if (r67 || (decide (24 ≤ (List.length a2.Hops : Int)))) = true then (
 some (false, (T_Fate.mk 4 a2.Host a2.Hops))) else (
 (cln a2.Hops).bind fun r93 =>
 (app r93 ([(T_Hop.mk r49.1 r20.2.1)] : (List T_Hop))).bind fun r97 =>
 some (true, (T_Fate.mk a2.How a2.Host r97))))))
theorem ty_net_Go {n : Nat} (hn : bigN ≤ n) (a0 : T_Topo) (a1 : (List T_Rule)) (a2 : T_Fate) : Rv (fun x : (Bool × T_Fate) => (V.tup [(vb x.1), V.any, V.any, (V.obj (T_Fate.c x.2))])) (sem_net_Go n [(T_Topo.e a0), (V.sl (List.map T_Rule.c a1)), (V.obj (T_Fate.c a2))]) (t_net_Go a0 a1 a2) := by
  rw [eq_net_Go]
  unfold t_net_Go
  refine tb (x := (T_Topo.e a0)) rfl ?_
  refine tb (x := (V.sl (List.map T_Rule.c a1))) rfl ?_
  refine tb (x := V.any) rfl ?_
  refine tb (x := (T_Topo.c a0)) rfl ?_
  refine tb (x := V.any) rfl ?_
  refine tb (x := V.any) rfl ?_
  refine tb (x := (V.sl (List.map T_Hop.c a2.Hops))) (rfl) ?_
  refine tb (x := V.any) rfl ?_
  refine tb (x := V.any) rfl ?_
  refine tb (x := (V.sl (List.map T_Hop.c a2.Hops))) (rfl) ?_
  refine tb (x := (vi (List.length a2.Hops : Int))) (p_len _) ?_
  refine tb (x := (vi (wr ((List.length a2.Hops : Int) - 1)))) (d_sub) ?_
  refine tbo (p_idx (c := T_Hop.c) (fun _ => rfl) a2.Hops (wr ((List.length a2.Hops : Int) - 1))) fun r14 => ?_
  refine tb (x := (T_Hop.e r14)) (rfl) ?_
  refine tb (x := V.agg (T_Hop.c r14)) (by kernel_rfl) ?_
  refine tb (x := (T_Spot.e r14.At)) (rfl) ?_
  refine tb (x := (vi r14.Header)) (rfl) ?_
  refine tbo (ty_net_Out hn a1 r14.At r14.Header) fun r20 => ?_
  refine tb (x := (T_Spot.e r20.1)) (rfl) ?_
  refine tb (x := (vi r20.2.1)) (rfl) ?_
  refine tb (x := (vb r20.2.2)) (rfl) ?_
  refine tb (x := V.agg (T_Spot.c r20.1)) (by kernel_rfl) ?_
  refine tb (x := (vb (!r20.2.2))) (d_not) ?_
  refine tcond (fun h26 => ?_) (fun h26 => ?_)
  · refine tb (x := V.any) rfl ?_
    refine tb (x := V.any) rfl ?_
    refine tb (x := [(vi 2)]) rfl ?_
    refine tb (x := V.obj (T_Fate.c (T_Fate.mk 2 a2.Host a2.Hops))) (by kernel_rfl) ?_
    exact rf_ret rfl
  · refine tb (x := (T_Topo.e a0)) (rfl) ?_
    refine tb (x := (T_Spot.e r20.1)) (rfl) ?_
    refine tbo (ty_topo_Host hn a0 r20.1) fun r34 => ?_
    refine tb (x := (vt r34.1)) (rfl) ?_
    refine tb (x := (vb r34.2)) (rfl) ?_
    refine tcond (fun h37 => ?_) (fun h37 => ?_)
    · refine tb (x := V.any) rfl ?_
      refine tb (x := V.any) rfl ?_
      refine tb (x := [(vi 1)]) rfl ?_
      refine tb (x := V.obj (T_Fate.c (T_Fate.mk 1 a2.Host a2.Hops))) (by kernel_rfl) ?_
      refine tb (x := V.any) rfl ?_
      refine tb (x := V.any) rfl ?_
      refine tb (x := [(vt r34.1)]) rfl ?_
      refine tb (x := V.obj (T_Fate.c (T_Fate.mk 1 r34.1 a2.Hops))) (by kernel_rfl) ?_
      exact rf_ret rfl
    · refine tb (x := (T_Topo.e a0)) (rfl) ?_
      refine tb (x := (T_Spot.e r20.1)) (rfl) ?_
      refine tbo (ty_topo_Other hn a0 r20.1) fun r49 => ?_
      refine tb (x := (T_Spot.e r49.1)) (rfl) ?_
      refine tb (x := (vb r49.2)) (rfl) ?_
      refine tb (x := V.agg (T_Spot.c r49.1)) (by kernel_rfl) ?_
      refine tb (x := (vb (!r49.2))) (d_not) ?_
      refine tcond (fun h54 => ?_) (fun h54 => ?_)
      · refine tb (x := V.any) rfl ?_
        refine tb (x := V.any) rfl ?_
        refine tb (x := [(vi 3)]) rfl ?_
        refine tb (x := V.obj (T_Fate.c (T_Fate.mk 3 a2.Host a2.Hops))) (by kernel_rfl) ?_
        exact rf_ret rfl
      · refine tb (x := (T_Spot.e r49.1)) (rfl) ?_
        refine tb (x := (T_Hop.e (T_Hop.mk r49.1 r20.2.1))) (by kernel_rfl) ?_
        refine tb (x := V.agg (T_Hop.c (T_Hop.mk r49.1 r20.2.1))) (by kernel_rfl) ?_
        refine tb (x := V.any) rfl ?_
        refine tb (x := V.any) rfl ?_
        refine tb (x := (V.sl (List.map T_Hop.c a2.Hops))) (rfl) ?_
        refine tb (x := (T_Hop.e (T_Hop.mk r49.1 r20.2.1))) (rfl) ?_
        refine tbo (ty_slices_Contains_api_Hop_api_Hop hn a2.Hops (T_Hop.mk r49.1 r20.2.1)) fun r67 => ?_
        refine tg_f (x := V.any) (fun h68 => rfl) ?_
        refine tg_f (x := V.any) (fun h70 => by first | exact gate_pos (not_t h70) (rfl) | (simp only [gv_t h70]; exact gate_pos (not_t h70) (rfl))) ?_
        refine tg_f (x := V.any) (fun h72 => by first | exact gate_pos (not_t h72) (gate_pos (not_t h72) (rfl)) | (simp only [gv_t h72]; exact gate_pos (not_t h72) (gate_pos (not_t h72) (rfl)))) ?_
        refine tg_f (x := (V.sl (List.map T_Hop.c a2.Hops))) (fun h74 => by first | exact bind_some_eq (gate_pos (not_t h74) (gate_pos (not_t h74) (gate_pos (not_t h74) (rfl)))) | (simp only [gv_t h74]; exact bind_some_eq (gate_pos (not_t h74) (gate_pos (not_t h74) (gate_pos (not_t h74) (rfl)))))) ?_
        refine tg_f (x := (vi (List.length a2.Hops : Int))) (fun h77 => by simp only [gv_t h77]; exact bind_some_eq (p_len _)) ?_
        refine tg_f (x := (vb (decide (24 ≤ (List.length a2.Hops : Int))))) (fun h80 => by simp only [gv_t h80]; exact bind_some_eq (d_geq)) ?_
        refine tb (x := (vb (r67 || (decide (24 ≤ (List.length a2.Hops : Int)))))) (pick_or (fun h9 => gv_t (not_f h9))) ?_
        refine tcond (fun h84 => ?_) (fun h84 => ?_)
        · refine tb (x := V.any) rfl ?_
          refine tb (x := V.any) rfl ?_
          refine tb (x := [(vi 4)]) rfl ?_
          refine tb (x := V.obj (T_Fate.c (T_Fate.mk 4 a2.Host a2.Hops))) (by kernel_rfl) ?_
          exact rf_ret rfl
        · refine tb (x := V.any) rfl ?_
          refine tb (x := V.any) rfl ?_
          refine tb (x := (V.sl (List.map T_Hop.c a2.Hops))) (rfl) ?_
          refine tbo (p_clone (c := T_Hop.c) (fun _ => rfl) a2.Hops) fun r93 => ?_
          refine tb (x := (T_Hop.e (T_Hop.mk r49.1 r20.2.1))) (rfl) ?_
          refine tb (x := (V.sl (List.map T_Hop.c ([(T_Hop.mk r49.1 r20.2.1)] : (List T_Hop))))) (by kernel_rfl) ?_
          refine tbo (p_app (c := T_Hop.c) (fun _ => rfl) r93 ([(T_Hop.mk r49.1 r20.2.1)] : (List T_Hop))) fun r97 => ?_
          refine tb (x := V.any) rfl ?_
          refine tb (x := V.any) rfl ?_
          refine tb (x := [(V.sl (List.map T_Hop.c r97))]) rfl ?_
          refine tb (x := V.obj (T_Fate.c (T_Fate.mk a2.How a2.Host r97))) (by kernel_rfl) ?_
          exact rf_ret rfl

/-! railpoint/net.Of -/
def an_net_Of : Ann := .seq (.reg 0 [] [] []) (.seq (.reg 0 [] [] [7]) (.seq (.blk (some [.kb 6, .o 7]) (.loop [.kb 3, .kb 6, .o 7] (.seq (.seq (.reg 17 [] [] []) (.cond none (.no) (.no))) (.blk none (.no))))) (.seq (.reg 0 [] [] []) (.no))))
noncomputable def sem_net_Of (n : Nat) (xs : List V) : Option V := if xs.length ≤ 30 then denF Try.prog (envOf [(62, (sem_net_Begin n)), (63 + 1000000, (sem_net_Go n))]) n Try.f34 an_net_Of xs else none
theorem ok_net_Of (n : Nat) : SemOk Try.prog DW 34 (sem_net_Of n) := fun xs y h => by
  unfold sem_net_Of at h
  split at h
  · rename_i hl
    exact denF_ok stb Try.func34 (by kernel_rfl) (envOf_ok (semsOk_cons (ok_net_Begin n) (semsOk_consM (ok_net_Go n) semsOk_nil))) (by rw [Try.ntmps34]; exact hl) h
  · cases h
theorem eq_net_Of (n : Nat) (x0 x1 x2 : V) : sem_net_Of n [x0, x1, x2] =
 (V.cellsO x0).bind fun v1 =>
 (V.cellsO x1).bind fun v2 =>
 (ldk (some 2) (List.drop 0 v2)).bind fun v3 =>
 ((sem_net_Begin n) [v3, x2]).bind fun v4 =>
 (V.cellsO v4).bind fun v5 =>
 (setV (V.obj [(vi 0), (V.lit (Go.Value.string (ByteArray.mk #[]))), (V.sl [])]) [] (Stp.mk none 0 0) 3 v5).bind fun v6 =>
 JoinPt (fun vs7 =>
 ((nodeL (List.getD vs7 0 V.any) none 0).bind fun l9 => (ldk (some 3) (List.drop 0 l9)).bind pureO).bind fun v10 =>
 (spliceV [(vi 0), (V.lit (Go.Value.string (ByteArray.mk #[]))), (V.sl [])] 0 3 v10).bind fun v11 =>
 (ldk (some 3) (List.drop 0 (aggL v11))).bind fun v12 =>
 some v12) fun J8 =>
 (keepO (some v1) (some v1) (keepO (some [(vi 0), (V.lit (Go.Value.string (ByteArray.mk #[]))), (V.sl [])]) (some [(vi 0), (V.lit (Go.Value.string (ByteArray.mk #[]))), (V.sl [])]) (some [v6]))).bind (fixN (fun rec13 vs14 =>
 (ldk (some 3) (List.drop 0 v1)).bind fun v15 =>
 (ldk none (List.drop 3 v1)).bind fun v16 =>
 (some V.any).bind fun v17 =>
 ((nodeL (List.getD vs14 0 V.any) none 0).bind fun l18 => (ldk none (List.drop 2 l18)).bind pureO).bind fun v19 =>
 (some V.any).bind fun v20 =>
 ((nodeL (List.getD vs14 0 V.any) none 0).bind fun l21 => (ldk none (List.drop 2 l21)).bind pureO).bind fun v22 =>
 (lenS [v22]).bind fun v23 =>
 (bin2 Try.prog BinOp.sub 3 (ot 19) (oc 1) v23 (vi 1)).bind fun v24 =>
 (idxS 3 v19 v24).bind fun v25 =>
 (ptrF 0 v25).bind fun v26 =>
 (ptrF 0 v26).bind fun v27 =>
 (ldp none v27).bind fun v28 =>
 (bin2 Try.prog BinOp.sub 3 (ot 24) (oc 1) v28 (vi 1)).bind fun v29 =>
 (idxS 1 v16 v29).bind fun v30 =>
 (ldp none v30).bind fun v31 =>
 (objG (List.getD vs14 0 V.any)).bind fun v32 =>
 ((sem_net_Go n) [v15, v31, (List.getD vs14 0 V.any)]).bind fun z33 =>
 (pureO (tupAt z33 0)).bind fun v34 =>
 condV v34 (
 (keepO (some v1) (some v1) (keepO (some [(vi 0), (V.lit (Go.Value.string (ByteArray.mk #[]))), (V.sl [])]) (some [(vi 0), (V.lit (Go.Value.string (ByteArray.mk #[]))), (V.sl [])]) (some [(tupAt z33 3)]))).bind rec13) (
 (keepO (some [(vi 0), (V.lit (Go.Value.string (ByteArray.mk #[]))), (V.sl [])]) (some [(vi 0), (V.lit (Go.Value.string (ByteArray.mk #[]))), (V.sl [])]) (some [(tupAt z33 3)])).bind J8)) n) := by kernel_rfl
noncomputable def t_net_Of (a0 : T_Net) (a1 : T_Spot) (a2 : Int) : Option T_Fate :=
 (t_net_Begin a1 a2).bind fun r5 =>
 (tfix (fun k19 (s18 : T_Fate) =>
 (idx s18.Hops (wr ((List.length s18.Hops : Int) - 1))).bind fun r32 =>
 (idx a0.Tables (wr (r32.At.Switch - 1))).bind fun r38 =>
 (t_net_Go a0.Topo r38 s18).bind fun r42 =>
 if r42.1 = true then (
 k19 (r42.2)) else (
 some (r42.2))) bigN (r5)).bind fun (s10 : T_Fate) =>
 some s10
theorem ty_net_Of {n : Nat} (hn : bigN ≤ n) (a0 : T_Net) (a1 : T_Spot) (a2 : Int) : Rv (fun x : T_Fate => (T_Fate.e x)) (sem_net_Of n [(T_Net.e a0), (T_Spot.e a1), (vi a2)]) (t_net_Of a0 a1 a2) := by
  rw [eq_net_Of]
  unfold t_net_Of
  refine tb (x := (T_Net.c a0)) rfl ?_
  refine tb (x := (T_Spot.c a1)) rfl ?_
  refine tb (x := (T_Spot.e a1)) (rfl) ?_
  refine tbo (ty_net_Begin hn a1 a2) fun r5 => ?_
  refine tb (x := (T_Fate.c r5)) rfl ?_
  refine tb (x := V.obj (T_Fate.c r5)) (by kernel_rfl) ?_
  refine tjb (mk := fun s10 : T_Fate => [(V.obj (T_Fate.c s10))]) (fun J9 => ?_) fun s10 => ?_
  · refine tkeepO2 ?_ rfl
    refine tkeepO2 ?_ rfl
    refine tsome ?_
    refine rf_fixN (mk := fun (s18 : T_Fate) => [(V.obj (T_Fate.c s18))]) hn (r5) (fun rec16 k19 h20 s18 => ?_)
    refine tb (x := (T_Topo.e a0.Topo)) (rfl) ?_
    refine tb (x := (V.sl (List.map (cS T_Rule.c) a0.Tables))) (rfl) ?_
    refine tb (x := V.any) rfl ?_
    refine tb (x := (V.sl (List.map T_Hop.c s18.Hops))) (rfl) ?_
    refine tb (x := V.any) rfl ?_
    refine tb (x := (V.sl (List.map T_Hop.c s18.Hops))) (rfl) ?_
    refine tb (x := (vi (List.length s18.Hops : Int))) (p_len _) ?_
    refine tb (x := (vi (wr ((List.length s18.Hops : Int) - 1)))) (d_sub) ?_
    refine tbo (p_idx (c := T_Hop.c) (fun _ => rfl) s18.Hops (wr ((List.length s18.Hops : Int) - 1))) fun r32 => ?_
    refine tb (x := (V.ptr (T_Hop.c r32))) (rfl) ?_
    refine tb (x := (V.ptr (T_Hop.c r32))) (rfl) ?_
    refine tb (x := (vi r32.At.Switch)) (rfl) ?_
    refine tb (x := (vi (wr (r32.At.Switch - 1)))) (d_sub) ?_
    refine tbo (p_idx (c := (cS T_Rule.c)) (fun _ => rfl) a0.Tables (wr (r32.At.Switch - 1))) fun r38 => ?_
    refine tb (x := (V.sl (List.map T_Rule.c r38))) (rfl) ?_
    refine tb (x := V.any) rfl ?_
    refine tbo (ty_net_Go hn a0.Topo r38 s18) fun r42 => ?_
    refine tb (x := (vb r42.1)) rfl ?_
    refine tcond (fun h44 => ?_) (fun h44 => ?_)
    · refine tkeepO2 ?_ rfl
      refine tkeepO2 ?_ rfl
      refine tsome ?_
      exact h20 (r42.2)
    · refine tkeepO2 ?_ rfl
      refine tsome ?_
      exact rf_j rfl
  · refine tb (x := (T_Fate.e s10)) (rfl) ?_
    refine tb (x := V.agg (T_Fate.c s10)) (by kernel_rfl) ?_
    refine tb (x := (T_Fate.e s10)) rfl ?_
    exact rf_ret rfl

/-! railpoint/net.Send -/
def an_net_Send : Ann := .seq (.reg 0 [] [] []) (.seq (.seq (.reg 0 [] [] []) (.seq (.reg 0 [] [] []) (.cond none (.seq (.reg 0 [] [] []) (.no)) (.no)))) (.seq (.reg 0 [] [] []) (.seq (.blk none (.seq (.reg 0 [] [] []) (.cond none (.seq (.reg 0 [] [] []) (.no)) (.seq (.reg 0 [] [] []) (.cond none (.seq (.reg 0 [] [] []) (.no)) (.no)))))) (.seq (.reg 0 [] [] []) (.no)))))
noncomputable def sem_net_Send (n : Nat) (xs : List V) : Option V := if xs.length ≤ 39 then denF Try.prog (envOf [(21, (sem_net_Check n)), (32, (sem_topo_Where n)), (33, (sem_cube_Header n)), (34, (sem_net_Of n))]) n Try.f13 an_net_Send xs else none
theorem ok_net_Send (n : Nat) : SemOk Try.prog DW 13 (sem_net_Send n) := fun xs y h => by
  unfold sem_net_Send at h
  split at h
  · rename_i hl
    exact denF_ok stb Try.func13 (by kernel_rfl) (envOf_ok (semsOk_cons (ok_net_Check n) (semsOk_cons (ok_topo_Where n) (semsOk_cons (ok_cube_Header n) (semsOk_cons (ok_net_Of n) semsOk_nil))))) (by rw [Try.ntmps13]; exact hl) h
  · cases h
theorem eq_net_Send (n : Nat) (x0 x1 x2 : V) : sem_net_Send n [x0, x1, x2] =
 (V.cellsO x0).bind fun v1 =>
 (ldk (some 4) (List.drop 0 v1)).bind fun v2 =>
 ((sem_net_Check n) [v2]).bind fun v3 =>
 (bin2 Try.prog BinOp.neq 31 (ot 13) (Operand.const Go.Value.nilIface) v3 vn).bind fun v4 =>
 condV v4 (
 ((fillL [(vi 0), (V.lit (Go.Value.string (ByteArray.mk #[]))), (V.sl [])] []).map V.agg).bind fun v5 =>
 (spliceV [(vi 0), (V.lit (Go.Value.string (ByteArray.mk #[]))), (V.sl [])] 0 3 v5).bind fun v6 =>
 (ldk (some 3) (List.drop 0 (aggL v6))).bind fun v7 =>
 some (V.tup [v7, v3])) (
 (ldk (some 3) (List.drop 0 v1)).bind fun v8 =>
 ((sem_topo_Where n) [v8, x1]).bind fun v9 =>
 (extractV v9 0).bind fun v10 =>
 (extractV v9 1).bind fun v11 =>
 (spliceV [(vi 0), (vi 0)] 0 2 v10).bind fun v12 =>
 (bin2 Try.prog BinOp.neq 31 (ot 25) (Operand.const Go.Value.nilIface) v11 vn).bind fun v13 =>
 condV v13 (
 ((fillL [(vi 0), (V.lit (Go.Value.string (ByteArray.mk #[]))), (V.sl [])] []).map V.agg).bind fun v14 =>
 (spliceV [(vi 0), (V.lit (Go.Value.string (ByteArray.mk #[]))), (V.sl [])] 0 3 v14).bind fun v15 =>
 (ldk (some 3) (List.drop 0 (aggL v15))).bind fun v16 =>
 some (V.tup [v16, v11])) (
 ((sem_cube_Header n) [x2]).bind fun v17 =>
 (scal1 Try.prog (Op.unary Go.UnOp.not) v17).bind fun v18 =>
 condV v18 (
 ((fillL [(vi 0), (V.lit (Go.Value.string (ByteArray.mk #[]))), (V.sl [])] []).map V.agg).bind fun v19 =>
 (scal1 Try.prog (Instr.makeInterface 79) (vi 1)).bind fun v20 =>
 (spliceV [(vi 0), (V.lit (Go.Value.string (ByteArray.mk #[]))), (V.sl [])] 0 3 v19).bind fun v21 =>
 (ldk (some 3) (List.drop 0 (aggL v21))).bind fun v22 =>
 some (V.tup [v22, v20])) (
 (ldk (some 4) (List.drop 0 v1)).bind fun v23 =>
 (ldk (some 2) (List.drop 0 (aggL v12))).bind fun v24 =>
 ((sem_net_Of n) [v23, v24, x2]).bind fun v25 =>
 (spliceV [(vi 0), (V.lit (Go.Value.string (ByteArray.mk #[]))), (V.sl [])] 0 3 v25).bind fun v26 =>
 (ldk (some 3) (List.drop 0 (aggL v26))).bind fun v27 =>
 some (V.tup [v27, vn])))) := by kernel_rfl
noncomputable def t_net_Send (a0 : T_Net) (a1 : ByteArray) (a2 : Int) : Option (T_Fate × Int) :=
 (t_net_Check a0).bind fun r4 =>
 if (!decide (r4 = 0)) = true then (
 some ((T_Fate.mk 0 (ByteArray.mk #[]) []), r4)) else (
 (t_topo_Where a0.Topo a1).bind fun r12 =>
 if (!decide (r12.2 = 0)) = true then (
 some ((T_Fate.mk 0 (ByteArray.mk #[]) []), r12.2)) else (
 (t_cube_Header a2).bind fun r22 =>
 if (!r22) = true then (
 some ((T_Fate.mk 0 (ByteArray.mk #[]) []), 1)) else (
 (t_net_Of a0 r12.1 a2).bind fun r32 =>
 some (r32, 0))))
theorem ty_net_Send {n : Nat} (hn : bigN ≤ n) (a0 : T_Net) (a1 : ByteArray) (a2 : Int) : Rv (fun x : (T_Fate × Int) => V.tup [(T_Fate.e x.1), (eV x.2)]) (sem_net_Send n [(T_Net.e a0), (vt a1), (vi a2)]) (t_net_Send a0 a1 a2) := by
  rw [eq_net_Send]
  unfold t_net_Send
  refine tb (x := (T_Net.c a0)) rfl ?_
  refine tb (x := (T_Net.e a0)) (rfl) ?_
  refine tbo (ty_net_Check hn a0) fun r4 => ?_
  refine tb (x := (vb (!decide (r4 = 0)))) (p_err_neq _) ?_
  refine tcond (fun h6 => ?_) (fun h6 => ?_)
  · refine tb (x := (T_Fate.e (T_Fate.mk 0 (ByteArray.mk #[]) []))) (by kernel_rfl) ?_
    refine tb (x := V.agg (T_Fate.c (T_Fate.mk 0 (ByteArray.mk #[]) []))) (by kernel_rfl) ?_
    refine tb (x := (T_Fate.e (T_Fate.mk 0 (ByteArray.mk #[]) []))) rfl ?_
    exact rf_ret rfl
  · refine tb (x := (T_Topo.e a0.Topo)) (rfl) ?_
    refine tbo (ty_topo_Where hn a0.Topo a1) fun r12 => ?_
    refine tb (x := (T_Spot.e r12.1)) (rfl) ?_
    refine tb (x := (eV r12.2)) (rfl) ?_
    refine tb (x := V.agg (T_Spot.c r12.1)) (by kernel_rfl) ?_
    refine tb (x := (vb (!decide (r12.2 = 0)))) (p_err_neq _) ?_
    refine tcond (fun h17 => ?_) (fun h17 => ?_)
    · refine tb (x := (T_Fate.e (T_Fate.mk 0 (ByteArray.mk #[]) []))) (by kernel_rfl) ?_
      refine tb (x := V.agg (T_Fate.c (T_Fate.mk 0 (ByteArray.mk #[]) []))) (by kernel_rfl) ?_
      refine tb (x := (T_Fate.e (T_Fate.mk 0 (ByteArray.mk #[]) []))) rfl ?_
      exact rf_ret rfl
    · refine tbo (ty_cube_Header hn a2) fun r22 => ?_
      refine tb (x := (vb (!r22))) (d_not) ?_
      refine tcond (fun h24 => ?_) (fun h24 => ?_)
      · refine tb (x := (T_Fate.e (T_Fate.mk 0 (ByteArray.mk #[]) []))) (by kernel_rfl) ?_
        refine tb (x := (eV 1)) (p_mkE (by decide)) ?_
        refine tb (x := V.agg (T_Fate.c (T_Fate.mk 0 (ByteArray.mk #[]) []))) (by kernel_rfl) ?_
        refine tb (x := (T_Fate.e (T_Fate.mk 0 (ByteArray.mk #[]) []))) rfl ?_
        exact rf_ret rfl
      · refine tb (x := (T_Net.e a0)) (rfl) ?_
        refine tb (x := (T_Spot.e r12.1)) (rfl) ?_
        refine tbo (ty_net_Of hn a0 r12.1 a2) fun r32 => ?_
        refine tb (x := V.agg (T_Fate.c r32)) (by kernel_rfl) ?_
        refine tb (x := (T_Fate.e r32)) rfl ?_
        exact rf_ret rfl

/-! railpoint/raillaw4.JudgeCounts -/
def an_raillaw4_JudgeCounts : Ann := .seq (.reg 0 [] [] []) (.seq (.reg 0 [] [] []) (.seq (.reg 0 [] [] []) (.seq (.reg 0 [] [] []) (.seq (.seq (.reg 0 [] [] []) (.cond none (.seq (.reg 0 [] [] []) (.no)) (.no))) (.seq (.reg 0 [] [] []) (.seq (.reg 0 [] [] []) (.seq (.seq (.reg 0 [] [] []) (.blk (some [.kb 2, .s 9, .s 10]) (.loop [.kb 2, .r 9 58, .s 10, .s 11] (.seq (.seq (.reg 0 [] [] []) (.cond none (.no) (.no))) (.seq (.blk none (.seq (.reg 22 [] [] []) (.seq (.reg 0 [] [] []) (.cond (some [.kb 2, .r 9 58, .s 10]) (.seq (.reg 0 [] [] []) (.reg 0 [] [] [])) (.no))))) (.reg 0 [] [] [])))))) (.seq (.reg 0 [] [] []) (.seq (.seq (.reg 0 [] [] []) (.cond none (.seq (.reg 0 [] [] []) (.no)) (.no))) (.seq (.reg 0 [] [] []) (.seq (.seq (.reg 0 [] [] []) (.blk (some [.kb 2, .s 16]) (.loop [.kb 2, .s 16, .s 17] (.seq (.seq (.reg 0 [] [] []) (.cond none (.no) (.no))) (.seq (.blk none (.reg 0 [] [] [])) (.reg 0 [] [] [])))))) (.seq (.reg 0 [] [] []) (.no)))))))))))))
noncomputable def sem_raillaw4_JudgeCounts (n : Nat) (xs : List V) : Option V := if xs.length ≤ 136 then denF Try.prog (envOf [(11, (sem_raillaw4_line n)), (12, (sem_judge_Links n)), (13, (sem_net_Send n)), (14, (sem_topo_Check n))]) n Try.f4 an_raillaw4_JudgeCounts xs else none
theorem ok_raillaw4_JudgeCounts (n : Nat) : SemOk Try.prog DW 4 (sem_raillaw4_JudgeCounts n) := fun xs y h => by
  unfold sem_raillaw4_JudgeCounts at h
  split at h
  · rename_i hl
    exact denF_ok stb Try.func4 (by kernel_rfl) (envOf_ok (semsOk_cons (ok_raillaw4_line n) (semsOk_cons (ok_judge_Links n) (semsOk_cons (ok_net_Send n) (semsOk_cons (ok_topo_Check n) semsOk_nil))))) (by rw [Try.ntmps4]; exact hl) h
  · cases h
theorem eq_raillaw4_JudgeCounts (n : Nat) (x0 x1 : V) : sem_raillaw4_JudgeCounts n [x0, x1] =
 (V.cellsO x0).bind fun v1 =>
 ((sem_raillaw4_line n) [(vi 2)]).bind fun v2 =>
 (spliceV [(vi 0), (V.sl []), (V.sl [])] 0 3 v2).bind fun v3 =>
 (ldk none (List.drop 2 (aggL v3))).bind fun v4 =>
 (idxS 3 v4 (vi 0)).bind fun v5 =>
 (ptrF 1 v5).bind fun v6 =>
 (ldp (some 2) v6).bind fun v7 =>
 ((fillL [(vi 0), (vi 0), (vi 0)] [(0, 2, v7)]).map V.agg).bind fun v8 =>
 ((fillL [(vi 0), (vi 0)] [(0, 1, (vi 2)), (1, 1, (vi 1))]).map V.agg).bind fun v9 =>
 ((fillL [(vi 0), (vi 0), (vi 0)] [(0, 2, v9)]).map V.agg).bind fun v10 =>
 (slcB 3 2 [(vi 0), (vi 0), (vi 0)] [(0, v8), (1, v10)]).bind fun v11 =>
 ((fillL [(vi 0), (V.lit (Go.Value.string (ByteArray.mk #[]))), (V.sl [])] [(0, 1, (vi 3)), (2, 1, v11)]).map V.agg).bind fun v12 =>
 (spliceV [(vi 0), (V.lit (Go.Value.string (ByteArray.mk #[]))), (V.sl [])] 0 3 v12).bind fun v13 =>
 (ldk (some 3) (List.drop 0 (aggL v3))).bind fun v14 =>
 (ldk (some 3) (List.drop 0 (aggL v13))).bind fun v15 =>
 (slcB 3 1 [(vi 0), (V.lit (Go.Value.string (ByteArray.mk #[]))), (V.sl [])] [(0, v15)]).bind fun v16 =>
 ((sem_judge_Links n) [v14, v16]).bind fun v17 =>
 (extractV v17 0).bind fun v18 =>
 (extractV v17 1).bind fun v19 =>
 (bin2 Try.prog BinOp.neq 31 (ot 36) (Operand.const Go.Value.nilIface) v19 vn).bind fun v20 =>
 (guardV v20 false (some v18)).bind fun v21 =>
 (guardV v20 false ((lenS [v21]).bind fun v22 =>
 some v22)).bind fun v23 =>
 (guardV v20 false ((bin2 Try.prog BinOp.neq 3 (ot 40) (oc 1) v23 (vi 1)).bind fun v24 =>
 some v24)).bind fun v25 =>
 (pickV v20 (vb true) v25).bind fun v26 =>
 (guardV v26 false (some v18)).bind fun v27 =>
 (guardV v26 false ((idxS 1 v27 (vi 0)).bind fun v28 =>
 some v28)).bind fun v29 =>
 (guardV v26 false ((ldp none v29).bind fun v30 =>
 some v30)).bind fun v31 =>
 (guardV v26 false ((bin2 Try.prog BinOp.neq 3 (ot 46) (oc 1) v31 (vi 1)).bind fun v32 =>
 some v32)).bind fun v33 =>
 (pickV v26 (vb true) v33).bind fun v34 =>
 condV v34 (
 some (vb false)) (
 JoinPt (fun vs35 =>
 (ldk (some 3) (List.drop 0 v1)).bind fun v37 =>
 ((sem_judge_Links n) [v37, (List.getD vs35 0 V.any)]).bind fun v38 =>
 (extractV v38 0).bind fun v39 =>
 (extractV v38 1).bind fun v40 =>
 (bin2 Try.prog BinOp.neq 31 (ot 106) (Operand.const Go.Value.nilIface) v40 vn).bind fun v41 =>
 condV v41 (
 (ldk (some 3) (List.drop 0 v1)).bind fun v42 =>
 ((sem_topo_Check n) [v42]).bind fun v43 =>
 (bin2 Try.prog BinOp.neq 31 (ot 110) (Operand.const Go.Value.nilIface) v43 vn).bind fun v44 =>
 some v44) (
 JoinPt (fun vs45 =>
 (bin2 Try.prog BinOp.eql 3 (ot 124) (ot 125) (List.getD vs45 0 V.any) (List.getD vs35 1 V.any)).bind fun v47 =>
 (guardV v47 true (some v39)).bind fun v48 =>
 (guardV v47 true ((lenS [v48]).bind fun v49 =>
 some v49)).bind fun v50 =>
 (guardV v47 true (some V.any)).bind fun v51 =>
 (guardV v47 true (gate v47 true (some V.any))).bind fun v52 =>
 (guardV v47 true ((gate v47 true (gate v47 true (ldk none (List.drop 1 v1)))).bind fun v53 =>
 some v53)).bind fun v54 =>
 (guardV v47 true ((lenS [v54]).bind fun v55 =>
 some v55)).bind fun v56 =>
 (guardV v47 true ((bin2 Try.prog BinOp.eql 3 (ot 129) (ot 133) v50 v56).bind fun v57 =>
 some v57)).bind fun v58 =>
 (pickV v47 v58 (vb false)).bind fun v59 =>
 some v59) fun J46 =>
 (keepO (some v1) (some v1) (some [(vi 0), (vi 0)])).bind (fixN (fun rec60 vs61 =>
 (lenS [v39]).bind fun v62 =>
 (bin2 Try.prog BinOp.lss 3 (ot 112) (ot 114) (List.getD vs61 1 V.any) v62).bind fun v63 =>
 condV v63 (
 (idxS 1 v39 (List.getD vs61 1 V.any)).bind fun v64 =>
 (ldp none v64).bind fun v65 =>
 (bin2 Try.prog BinOp.add 3 (ot 118) (ot 122) (List.getD vs61 0 V.any) v65).bind fun v66 =>
 (bin2 Try.prog BinOp.add 3 (ot 116) (oc 1) (List.getD vs61 1 V.any) (vi 1)).bind fun v67 =>
 (keepO (some v1) (some v1) (some [v66, v67])).bind rec60) (
 (keepO (some v1) (some v1) (some [(List.getD vs61 0 V.any)])).bind J46)) n))) fun J36 =>
 (keepO (some v1) (some v1) (some [(V.sl []), (vi 0), (vi 0)])).bind (fixN (fun rec68 vs69 =>
 (lenS [x1]).bind fun v70 =>
 (bin2 Try.prog BinOp.lss 3 (ot 49) (ot 51) (List.getD vs69 2 V.any) v70).bind fun v71 =>
 (guardV v71 true (some (List.getD vs69 2 V.any))).bind fun v72 =>
 (guardV v71 true ((bin2 Try.prog BinOp.lss 3 (ot 54) (oc 20) v72 (vi 20)).bind fun v73 =>
 some v73)).bind fun v74 =>
 (pickV v71 v74 (vb false)).bind fun v75 =>
 (guardV v75 true (some V.any)).bind fun v76 =>
 (guardV v75 true (gate v75 true (some V.any))).bind fun v77 =>
 (guardV v75 true ((gate v75 true (gate v75 true (ldk none (List.drop 2 v1)))).bind fun v78 =>
 some v78)).bind fun v79 =>
 (guardV v75 true ((lenS [v79]).bind fun v80 =>
 some v80)).bind fun v81 =>
 (guardV v75 true ((bin2 Try.prog BinOp.gtr 3 (ot 61) (oc 0) v81 (vi 0)).bind fun v82 =>
 some v82)).bind fun v83 =>
 (pickV v75 v83 (vb false)).bind fun v84 =>
 condV v84 (
 (ldk (some 4) (List.drop 0 v1)).bind fun v85 =>
 (ldk none (List.drop 2 v1)).bind fun v86 =>
 (ldk none (List.drop 2 v1)).bind fun v87 =>
 (lenS [v87]).bind fun v88 =>
 (bin2 Try.prog BinOp.rem 3 (ot 71) (ot 75) (List.getD vs69 2 V.any) v88).bind fun v89 =>
 (idxS 3 v86 v89).bind fun v90 =>
 (ptrF 0 v90).bind fun v91 =>
 (ldp none v91).bind fun v92 =>
 (idxS 1 x1 (List.getD vs69 2 V.any)).bind fun v93 =>
 (ldp none v93).bind fun v94 =>
 ((sem_net_Send n) [v85, v92, v94]).bind fun v95 =>
 (extractV v95 0).bind fun v96 =>
 (extractV v95 1).bind fun v97 =>
 (spliceV [(vi 0), (V.lit (Go.Value.string (ByteArray.mk #[]))), (V.sl [])] 0 3 v96).bind fun v98 =>
 (bin2 Try.prog BinOp.eql 31 (ot 87) (Operand.const Go.Value.nilIface) v97 vn).bind fun v99 =>
 JoinPt (fun vs100 =>
 (bin2 Try.prog BinOp.add 3 (ot 64) (oc 1) (List.getD vs69 2 V.any) (vi 1)).bind fun v102 =>
 (keepO (some v1) (some v1) (some [(V.sl (slL (List.getD vs100 0 V.any))), (List.getD vs100 1 V.any), v102])).bind rec68) fun J101 =>
 condV v99 (
 (ldk (some 3) (List.drop 0 (aggL v98))).bind fun v103 =>
 (slcB 3 1 [(vi 0), (V.lit (Go.Value.string (ByteArray.mk #[]))), (V.sl [])] [(0, v103)]).bind fun v104 =>
 (appV 3 (slL (List.getD vs69 0 V.any)) v104).bind fun v105 =>
 (ldk none (List.drop 2 (aggL v98))).bind fun v106 =>
 (lenS [v106]).bind fun v107 =>
 (bin2 Try.prog BinOp.add 3 (ot 93) (ot 96) (List.getD vs69 1 V.any) v107).bind fun v108 =>
 (bin2 Try.prog BinOp.sub 3 (ot 97) (oc 1) v108 (vi 1)).bind fun v109 =>
 (keepO (some v1) (some v1) (some [(V.sl (slL v105)), v109])).bind J101) (
 (keepO (some v1) (some v1) (some [(V.sl (slL (List.getD vs69 0 V.any))), (List.getD vs69 1 V.any)])).bind J101)) (
 (keepO (some v1) (some v1) (some [(V.sl (slL (List.getD vs69 0 V.any))), (List.getD vs69 1 V.any)])).bind J36)) n)) := by kernel_rfl
noncomputable def t_raillaw4_JudgeCounts (a0 : T_Net) (a1 : (List Int)) : Option Bool :=
 (t_raillaw4_line 2).bind fun r3 =>
 (idx r3.Hosts 0).bind fun r7 =>
 (t_judge_Links r3 ([(T_Fate.mk 3 (ByteArray.mk #[]) ([(T_Hop.mk r7.At 0), (T_Hop.mk (T_Spot.mk 2 1) 0)] : (List T_Hop)))] : (List T_Fate))).bind fun r20 =>
 (gd (!((!decide (r20.2 = 0)) || (decide ((List.length r20.1 : Int) ≠ 1)))) default (idx r20.1 0)).bind fun r38 =>
 if (((!decide (r20.2 = 0)) || (decide ((List.length r20.1 : Int) ≠ 1))) || (decide (r38 ≠ 1))) = true then (
 some false) else (
 (loopI a1 (fun (i115 : Int) x116 (s111 : ((List T_Fate) × Int)) k112 =>
 if ((decide (i115 < 20)) && (decide (0 < (List.length a0.Topo.Hosts : Int)))) = true then (
 need (decide ((List.length a0.Topo.Hosts : Int) ≠ 0)) (
 (idx a0.Topo.Hosts (Int.tmod i115 (List.length a0.Topo.Hosts : Int))).bind fun r147 =>
 (t_net_Send a0 r147.Name x116).bind fun r153 =>
 (if (decide (r153.2 = 0)) = true then (
 (app s111.1 ([r153.1] : (List T_Fate))).bind fun r168 =>
 some (r168, (wr ((wr (s111.2 + (List.length r153.1.Hops : Int))) - 1)))) else (
 some (s111.1, s111.2))).bind fun (s160 : ((List T_Fate) × Int)) =>
 k112 (s160.1, s160.2))) else (
 some (s111.1, s111.2))) (fun (s111 : ((List T_Fate) × Int)) =>
 some (s111.1, s111.2)) ([], 0)).bind fun (s49 : ((List T_Fate) × Int)) =>
 (t_judge_Links a0.Topo s49.1).bind fun r54 =>
 if (!decide (r54.2 = 0)) = true then (
 (t_topo_Check a0.Topo).bind fun r61 =>
 some (!decide (r61 = 0))) else (
 (loopI r54.1 (fun (i94 : Int) x95 (s90 : Int) k91 =>
 k91 (wr (s90 + x95))) (fun (s90 : Int) =>
 some (s90)) (0)).bind fun (s65 : Int) =>
 some ((decide (s65 = s49.2)) && (decide ((List.length r54.1 : Int) = (List.length a0.Topo.Links : Int))))))
theorem ty_raillaw4_JudgeCounts {n : Nat} (hn : bigN ≤ n) (a0 : T_Net) (a1 : (List Int)) : Rv (fun x : Bool => (vb x)) (sem_raillaw4_JudgeCounts n [(T_Net.e a0), (V.sl (List.map cI a1))]) (t_raillaw4_JudgeCounts a0 a1) := by
  rw [eq_raillaw4_JudgeCounts]
  unfold t_raillaw4_JudgeCounts
  refine tb (x := (T_Net.c a0)) rfl ?_
  refine tbo (ty_raillaw4_line hn 2) fun r3 => ?_
  refine tb (x := V.agg (T_Topo.c r3)) (by kernel_rfl) ?_
  refine tb (x := (V.sl (List.map T_Host.c r3.Hosts))) (rfl) ?_
  refine tbo (p_idx (c := T_Host.c) (fun _ => rfl) r3.Hosts 0) fun r7 => ?_
  refine tb (x := (V.ptr (List.drop 1 (T_Host.c r7)))) (rfl) ?_
  refine tb (x := (T_Spot.e r7.At)) (rfl) ?_
  refine tb (x := (T_Hop.e (T_Hop.mk r7.At 0))) (by kernel_rfl) ?_
  refine tb (x := (T_Spot.e (T_Spot.mk 2 1))) (by kernel_rfl) ?_
  refine tb (x := (T_Hop.e (T_Hop.mk (T_Spot.mk 2 1) 0))) (by kernel_rfl) ?_
  refine tb (x := (V.sl (List.map T_Hop.c ([(T_Hop.mk r7.At 0), (T_Hop.mk (T_Spot.mk 2 1) 0)] : (List T_Hop))))) (by kernel_rfl) ?_
  refine tb (x := (T_Fate.e (T_Fate.mk 3 (ByteArray.mk #[]) ([(T_Hop.mk r7.At 0), (T_Hop.mk (T_Spot.mk 2 1) 0)] : (List T_Hop))))) (by kernel_rfl) ?_
  refine tb (x := V.agg (T_Fate.c (T_Fate.mk 3 (ByteArray.mk #[]) ([(T_Hop.mk r7.At 0), (T_Hop.mk (T_Spot.mk 2 1) 0)] : (List T_Hop))))) (by kernel_rfl) ?_
  refine tb (x := (T_Topo.e r3)) (rfl) ?_
  refine tb (x := (T_Fate.e (T_Fate.mk 3 (ByteArray.mk #[]) ([(T_Hop.mk r7.At 0), (T_Hop.mk (T_Spot.mk 2 1) 0)] : (List T_Hop))))) (rfl) ?_
  refine tb (x := (V.sl (List.map T_Fate.c ([(T_Fate.mk 3 (ByteArray.mk #[]) ([(T_Hop.mk r7.At 0), (T_Hop.mk (T_Spot.mk 2 1) 0)] : (List T_Hop)))] : (List T_Fate))))) (by kernel_rfl) ?_
  refine tbo (ty_judge_Links hn r3 ([(T_Fate.mk 3 (ByteArray.mk #[]) ([(T_Hop.mk r7.At 0), (T_Hop.mk (T_Spot.mk 2 1) 0)] : (List T_Hop)))] : (List T_Fate))) fun r20 => ?_
  refine tb (x := (V.sl (List.map cI r20.1))) (rfl) ?_
  refine tb (x := (eV r20.2)) (rfl) ?_
  refine tb (x := (vb (!decide (r20.2 = 0)))) (p_err_neq _) ?_
  refine tg_f (x := (V.sl (List.map cI r20.1))) (fun h24 => rfl) ?_
  refine tg_f (x := (vi (List.length r20.1 : Int))) (fun h26 => by simp only [gv_t h26]; exact bind_some_eq (p_len _)) ?_
  refine tg_f (x := (vb (decide ((List.length r20.1 : Int) ≠ 1)))) (fun h29 => by simp only [gv_t h29]; exact bind_some_eq (d_neq)) ?_
  refine tb (x := (vb ((!decide (r20.2 = 0)) || (decide ((List.length r20.1 : Int) ≠ 1))))) (pick_or (fun h9 => gv_t (not_f h9))) ?_
  refine tg_f (x := (V.sl (List.map cI r20.1))) (fun h33 => rfl) ?_
  refine tgo_f (fun h35 => by simp only [gv_t h35]; exact rf_bind_some (p_idx (c := cI) (fun _ => rfl) r20.1 0)) fun r38 => ?_
  refine tg_f (x := (vi r38)) (fun h39 => by first | exact bind_some_eq (rfl) | (simp only [gv_t h39]; exact bind_some_eq (rfl))) ?_
  refine tg_f (x := (vb (decide (r38 ≠ 1)))) (fun h42 => by simp only [gv_t h42]; exact bind_some_eq (d_neq)) ?_
  refine tb (x := (vb (((!decide (r20.2 = 0)) || (decide ((List.length r20.1 : Int) ≠ 1))) || (decide (r38 ≠ 1))))) (pick_or (fun h9 => gv_t (not_f h9))) ?_
  refine tcond (fun h46 => ?_) (fun h46 => ?_)
  · exact rf_ret rfl
  · refine tjb (mk := fun s49 : ((List T_Fate) × Int) => [(V.sl (List.map T_Fate.c s49.1)), (vi s49.2)]) (fun J48 => ?_) fun s49 => ?_
    · refine tkeepO2 ?_ rfl
      refine tsome ?_
      refine rf_loopI (mk := fun (i115 : Int) (s111 : ((List T_Fate) × Int)) => [(V.sl (List.map T_Fate.c s111.1)), (vi s111.2), (vi (i115 : Int))]) hn a1 ([], 0) (fun i115 x116 h117 h118 h119 s111 rec109 k112 h113 => ?_) (fun s111 rec175 h174 => ?_)
      · refine tb (x := (vi (List.length a1 : Int))) (p_len _) ?_
        refine tb (x := (vb (decide ((i115 : Int) < (List.length a1 : Int))))) (d_lss) ?_
        refine tb (x := (vi (i115 : Int))) (gkt h119 rfl) ?_
        refine tkt h119 (tb (x := (vb (decide ((i115 : Int) < 20)))) (d_lss) ?_)
        refine tb (x := (vb (decide ((i115 : Int) < 20)))) (pick_kt h119) ?_
        refine tg (x := V.any) (fun h126 => rfl) ?_
        refine tg (x := V.any) (fun h128 => gate_pos h128 (rfl)) ?_
        refine tg (x := (V.sl (List.map T_Host.c a0.Topo.Hosts))) (fun h130 => bind_some_eq (gate_pos h130 (gate_pos h130 (rfl)))) ?_
        refine tg (x := (vi (List.length a0.Topo.Hosts : Int))) (fun h133 => by simp only [gv_t h133]; exact bind_some_eq (p_len _)) ?_
        refine tg (x := (vb (decide (0 < (List.length a0.Topo.Hosts : Int))))) (fun h136 => by simp only [gv_t h136]; exact bind_some_eq (d_gtr)) ?_
        refine tb (x := (vb ((decide ((i115 : Int) < 20)) && (decide (0 < (List.length a0.Topo.Hosts : Int)))))) (pick_and (fun h9 => gv_t h9)) ?_
        refine tcond (fun h140 => ?_) (fun h140 => ?_)
        · refine tb (x := (T_Net.e a0)) (rfl) ?_
          refine tb (x := (V.sl (List.map T_Host.c a0.Topo.Hosts))) (rfl) ?_
          refine tb (x := (V.sl (List.map T_Host.c a0.Topo.Hosts))) (rfl) ?_
          refine tb (x := (vi (List.length a0.Topo.Hosts : Int))) (p_len _) ?_
          refine tneed (x := (vi (Int.tmod (i115 : Int) (List.length a0.Topo.Hosts : Int)))) (fun h173 => p_rem h173) fun h173 => ?_
          refine tbo (p_idx (c := T_Host.c) (fun _ => rfl) a0.Topo.Hosts (Int.tmod (i115 : Int) (List.length a0.Topo.Hosts : Int))) fun r147 => ?_
          refine tb (x := (V.ptr (T_Host.c r147))) (rfl) ?_
          refine tb (x := (vt r147.Name)) (rfl) ?_
          refine tb (x := (V.ptr [(vi x116)])) (p_idx_at (c := cI) (fun _ => rfl) h117) ?_
          refine tb (x := (vi x116)) (rfl) ?_
          refine tbo (ty_net_Send hn a0 r147.Name x116) fun r153 => ?_
          refine tb (x := (T_Fate.e r153.1)) (rfl) ?_
          refine tb (x := (eV r153.2)) (rfl) ?_
          refine tb (x := V.agg (T_Fate.c r153.1)) (by kernel_rfl) ?_
          refine tb (x := (vb (decide (r153.2 = 0)))) (p_err_eql _) ?_
          refine tjb (mk := fun s160 : ((List T_Fate) × Int) => [(V.sl (List.map T_Fate.c s160.1)), (vi s160.2)]) (fun J159 => ?_) fun s160 => ?_
          · refine tcond (fun h164 => ?_) (fun h164 => ?_)
            · refine tb (x := (T_Fate.e r153.1)) (rfl) ?_
              refine tb (x := (V.sl (List.map T_Fate.c ([r153.1] : (List T_Fate))))) (by kernel_rfl) ?_
              refine tbo (p_app (c := T_Fate.c) (fun _ => rfl) s111.1 ([r153.1] : (List T_Fate))) fun r168 => ?_
              refine tb (x := (V.sl (List.map T_Hop.c r153.1.Hops))) (rfl) ?_
              refine tb (x := (vi (List.length r153.1.Hops : Int))) (p_len _) ?_
              refine tb (x := (vi (wr (s111.2 + (List.length r153.1.Hops : Int))))) (d_add) ?_
              refine tb (x := (vi (wr ((wr (s111.2 + (List.length r153.1.Hops : Int))) - 1)))) (d_sub) ?_
              refine tkeepO2 ?_ rfl
              refine tsome ?_
              exact rf_j rfl
            · refine tkeepO2 ?_ rfl
              refine tsome ?_
              exact rf_j rfl
          · refine tb (x := (vi ((i115 : Int) + 1))) (p_incN h118) ?_
            refine tkeepO2 ?_ rfl
            refine tsome ?_
            exact h113 (s160.1, s160.2)
        · refine tkeepO2 ?_ rfl
          refine tsome ?_
          exact rf_j rfl
      · refine tb (x := (vi (List.length a1 : Int))) (p_len _) ?_
        refine tb (x := (vb (decide ((List.length a1 : Int) < (List.length a1 : Int))))) (d_lss) ?_
        refine tb (x := V.tup []) (gnt h174) ?_
        refine tb (x := V.tup []) (gnt h174) ?_
        refine tb (x := (vb (false))) (pick_kf h174) ?_
        refine tb (x := V.tup []) (gnt rfl) ?_
        refine tb (x := V.tup []) (gnt rfl) ?_
        refine tb (x := V.tup []) (gnt rfl) ?_
        refine tb (x := V.tup []) (gnt rfl) ?_
        refine tb (x := V.tup []) (gnt rfl) ?_
        refine tb (x := (vb (false))) (pick_kf rfl) ?_
        refine tcond_f rfl ?_
        refine tkeepO2 ?_ rfl
        refine tsome ?_
        exact rf_j rfl
    · refine tb (x := (T_Topo.e a0.Topo)) (rfl) ?_
      refine tbo (ty_judge_Links hn a0.Topo s49.1) fun r54 => ?_
      refine tb (x := (V.sl (List.map cI r54.1))) (rfl) ?_
      refine tb (x := (eV r54.2)) (rfl) ?_
      refine tb (x := (vb (!decide (r54.2 = 0)))) (p_err_neq _) ?_
      refine tcond (fun h58 => ?_) (fun h58 => ?_)
      · refine tb (x := (T_Topo.e a0.Topo)) (rfl) ?_
        refine tbo (ty_topo_Check hn a0.Topo) fun r61 => ?_
        refine tb (x := (vb (!decide (r61 = 0)))) (p_err_neq _) ?_
        exact rf_ret rfl
      · refine tjb (mk := fun s65 : Int => [(vi s65)]) (fun J64 => ?_) fun s65 => ?_
        · refine tkeepO2 ?_ rfl
          refine tsome ?_
          refine rf_loopI (mk := fun (i94 : Int) (s90 : Int) => [(vi s90), (vi (i94 : Int))]) hn r54.1 (0) (fun i94 x95 h96 h97 h98 s90 rec88 k91 h92 => ?_) (fun s90 rec106 h105 => ?_)
          · refine tb (x := (vi (List.length r54.1 : Int))) (p_len _) ?_
            refine tb (x := (vb (decide ((i94 : Int) < (List.length r54.1 : Int))))) (d_lss) ?_
            refine tcond_t h98 ?_
            refine tb (x := (V.ptr [(vi x95)])) (p_idx_at (c := cI) (fun _ => rfl) h96) ?_
            refine tb (x := (vi x95)) (rfl) ?_
            refine tb (x := (vi (wr (s90 + x95)))) (d_add) ?_
            refine tb (x := (vi ((i94 : Int) + 1))) (p_incN h97) ?_
            refine tkeepO2 ?_ rfl
            refine tsome ?_
            exact h92 (wr (s90 + x95))
          · refine tb (x := (vi (List.length r54.1 : Int))) (p_len _) ?_
            refine tb (x := (vb (decide ((List.length r54.1 : Int) < (List.length r54.1 : Int))))) (d_lss) ?_
            refine tcond_f h105 ?_
            refine tkeepO2 ?_ rfl
            refine tsome ?_
            exact rf_j rfl
        · refine tb (x := (vb (decide (s65 = s49.2)))) (d_eql) ?_
          refine tg (x := (V.sl (List.map cI r54.1))) (fun h69 => rfl) ?_
          refine tg (x := (vi (List.length r54.1 : Int))) (fun h71 => by simp only [gv_t h71]; exact bind_some_eq (p_len _)) ?_
          refine tg (x := V.any) (fun h74 => rfl) ?_
          refine tg (x := V.any) (fun h76 => gate_pos h76 (rfl)) ?_
          refine tg (x := (V.sl (List.map T_Link.c a0.Topo.Links))) (fun h78 => bind_some_eq (gate_pos h78 (gate_pos h78 (rfl)))) ?_
          refine tg (x := (vi (List.length a0.Topo.Links : Int))) (fun h81 => by simp only [gv_t h81]; exact bind_some_eq (p_len _)) ?_
          refine tg (x := (vb (decide ((List.length r54.1 : Int) = (List.length a0.Topo.Links : Int))))) (fun h84 => by simp only [gv_t h84]; exact bind_some_eq (d_eql)) ?_
          refine tb (x := (vb ((decide (s65 = s49.2)) && (decide ((List.length r54.1 : Int) = (List.length a0.Topo.Links : Int)))))) (pick_and (fun h9 => gv_t h9)) ?_
          exact rf_ret rfl

/-! railpoint/net.ready -/
def an_net_ready : Ann := .seq (.reg 0 [] [] []) (.seq (.seq (.reg 0 [] [] []) (.seq (.reg 0 [] [] []) (.cond none (.seq (.reg 0 [] [] []) (.no)) (.no)))) (.seq (.seq (.reg 0 [] [] []) (.cond none (.seq (.reg 0 [] [] []) (.no)) (.no))) (.seq (.reg 0 [] [] []) (.no))))
noncomputable def sem_net_ready (n : Nat) (xs : List V) : Option V := if xs.length ≤ 24 then denF Try.prog (envOf [(21, (sem_net_Check n)), (35, (sem_topo_Spot n)), (33, (sem_cube_Header n))]) n Try.f41 an_net_ready xs else none
theorem ok_net_ready (n : Nat) : SemOk Try.prog DW 41 (sem_net_ready n) := fun xs y h => by
  unfold sem_net_ready at h
  split at h
  · rename_i hl
    exact denF_ok stb Try.func41 (by kernel_rfl) (envOf_ok (semsOk_cons (ok_net_Check n) (semsOk_cons (ok_topo_Spot n) (semsOk_cons (ok_cube_Header n) semsOk_nil)))) (by rw [Try.ntmps41]; exact hl) h
  · cases h
theorem eq_net_ready (n : Nat) (x0 x1 x2 : V) : sem_net_ready n [x0, x1, x2] =
 (V.cellsO x0).bind fun v1 =>
 (V.cellsO x1).bind fun v2 =>
 (ldk (some 4) (List.drop 0 v1)).bind fun v3 =>
 ((sem_net_Check n) [v3]).bind fun v4 =>
 (bin2 Try.prog BinOp.neq 31 (ot 10) (Operand.const Go.Value.nilIface) v4 vn).bind fun v5 =>
 condV v5 (
 some v4) (
 (ldk (some 3) (List.drop 0 v1)).bind fun v6 =>
 (ldk (some 2) (List.drop 0 v2)).bind fun v7 =>
 ((sem_topo_Spot n) [v6, v7]).bind fun v8 =>
 (scal1 Try.prog (Op.unary Go.UnOp.not) v8).bind fun v9 =>
 (guardV v9 false (some x2)).bind fun v10 =>
 (guardV v9 false (((sem_cube_Header n) [v10]).bind fun v11 =>
 some v11)).bind fun v12 =>
 (guardV v9 false ((scal1 Try.prog (Op.unary Go.UnOp.not) v12).bind fun v13 =>
 some v13)).bind fun v14 =>
 (pickV v9 (vb true) v14).bind fun v15 =>
 condV v15 (
 (scal1 Try.prog (Instr.makeInterface 79) (vi 1)).bind fun v16 =>
 some v16) (
 some vn)) := by kernel_rfl
noncomputable def t_net_ready (a0 : T_Net) (a1 : T_Spot) (a2 : Int) : Option Int :=
 (t_net_Check a0).bind fun r5 =>
 if (!decide (r5 = 0)) = true then (
 some r5) else (
 (t_topo_Spot a0.Topo a1).bind fun r11 =>
 (gd (!(!r11)) default (t_cube_Header a2)).bind fun r18 =>
 if ((!r11) || (!r18)) = true then (
 some 1) else (
 some 0))
theorem ty_net_ready {n : Nat} (hn : bigN ≤ n) (a0 : T_Net) (a1 : T_Spot) (a2 : Int) : Rv (fun x : Int => (eV x)) (sem_net_ready n [(T_Net.e a0), (T_Spot.e a1), (vi a2)]) (t_net_ready a0 a1 a2) := by
  rw [eq_net_ready]
  unfold t_net_ready
  refine tb (x := (T_Net.c a0)) rfl ?_
  refine tb (x := (T_Spot.c a1)) rfl ?_
  refine tb (x := (T_Net.e a0)) (rfl) ?_
  refine tbo (ty_net_Check hn a0) fun r5 => ?_
  refine tb (x := (vb (!decide (r5 = 0)))) (p_err_neq _) ?_
  refine tcond (fun h7 => ?_) (fun h7 => ?_)
  · exact rf_ret rfl
  · refine tb (x := (T_Topo.e a0.Topo)) (rfl) ?_
    refine tb (x := (T_Spot.e a1)) (rfl) ?_
    refine tbo (ty_topo_Spot hn a0.Topo a1) fun r11 => ?_
    refine tb (x := (vb (!r11))) (d_not) ?_
    refine tg_f (x := (vi a2)) (fun h13 => rfl) ?_
    refine tgo_f (fun h15 => by simp only [gv_t h15]; exact rf_bind_some (ty_cube_Header hn a2)) fun r18 => ?_
    refine tg_f (x := (vb (!r18))) (fun h19 => by simp only [gv_t h19]; exact bind_some_eq (d_not)) ?_
    refine tb (x := (vb ((!r11) || (!r18)))) (pick_or (fun h9 => gv_t (not_f h9))) ?_
    refine tcond (fun h23 => ?_) (fun h23 => ?_)
    · refine tb (x := (eV 1)) (p_mkE (by decide)) ?_
      exact rf_ret rfl
    · exact rf_ret rfl

/-! railpoint/net.From -/
def an_net_From : Ann := .seq (.reg 0 [] [] []) (.seq (.seq (.reg 0 [] [] []) (.seq (.reg 0 [] [] []) (.cond none (.seq (.reg 0 [] [] []) (.no)) (.no)))) (.seq (.reg 0 [] [] []) (.no)))
noncomputable def sem_net_From (n : Nat) (xs : List V) : Option V := if xs.length ≤ 21 then denF Try.prog (envOf [(41, (sem_net_ready n)), (34, (sem_net_Of n))]) n Try.f18 an_net_From xs else none
theorem ok_net_From (n : Nat) : SemOk Try.prog DW 18 (sem_net_From n) := fun xs y h => by
  unfold sem_net_From at h
  split at h
  · rename_i hl
    exact denF_ok stb Try.func18 (by kernel_rfl) (envOf_ok (semsOk_cons (ok_net_ready n) (semsOk_cons (ok_net_Of n) semsOk_nil))) (by rw [Try.ntmps18]; exact hl) h
  · cases h
theorem eq_net_From (n : Nat) (x0 x1 x2 : V) : sem_net_From n [x0, x1, x2] =
 (V.cellsO x0).bind fun v1 =>
 (V.cellsO x1).bind fun v2 =>
 (ldk (some 4) (List.drop 0 v1)).bind fun v3 =>
 (ldk (some 2) (List.drop 0 v2)).bind fun v4 =>
 ((sem_net_ready n) [v3, v4, x2]).bind fun v5 =>
 (bin2 Try.prog BinOp.neq 31 (ot 13) (Operand.const Go.Value.nilIface) v5 vn).bind fun v6 =>
 condV v6 (
 ((fillL [(vi 0), (V.lit (Go.Value.string (ByteArray.mk #[]))), (V.sl [])] []).map V.agg).bind fun v7 =>
 (spliceV [(vi 0), (V.lit (Go.Value.string (ByteArray.mk #[]))), (V.sl [])] 0 3 v7).bind fun v8 =>
 (ldk (some 3) (List.drop 0 (aggL v8))).bind fun v9 =>
 some (V.tup [v9, v5])) (
 (ldk (some 4) (List.drop 0 v1)).bind fun v10 =>
 (ldk (some 2) (List.drop 0 v2)).bind fun v11 =>
 ((sem_net_Of n) [v10, v11, x2]).bind fun v12 =>
 (spliceV [(vi 0), (V.lit (Go.Value.string (ByteArray.mk #[]))), (V.sl [])] 0 3 v12).bind fun v13 =>
 (ldk (some 3) (List.drop 0 (aggL v13))).bind fun v14 =>
 some (V.tup [v14, vn])) := by kernel_rfl
noncomputable def t_net_From (a0 : T_Net) (a1 : T_Spot) (a2 : Int) : Option (T_Fate × Int) :=
 (t_net_ready a0 a1 a2).bind fun r6 =>
 if (!decide (r6 = 0)) = true then (
 some ((T_Fate.mk 0 (ByteArray.mk #[]) []), r6)) else (
 (t_net_Of a0 a1 a2).bind fun r15 =>
 some (r15, 0))
theorem ty_net_From {n : Nat} (hn : bigN ≤ n) (a0 : T_Net) (a1 : T_Spot) (a2 : Int) : Rv (fun x : (T_Fate × Int) => V.tup [(T_Fate.e x.1), (eV x.2)]) (sem_net_From n [(T_Net.e a0), (T_Spot.e a1), (vi a2)]) (t_net_From a0 a1 a2) := by
  rw [eq_net_From]
  unfold t_net_From
  refine tb (x := (T_Net.c a0)) rfl ?_
  refine tb (x := (T_Spot.c a1)) rfl ?_
  refine tb (x := (T_Net.e a0)) (rfl) ?_
  refine tb (x := (T_Spot.e a1)) (rfl) ?_
  refine tbo (ty_net_ready hn a0 a1 a2) fun r6 => ?_
  refine tb (x := (vb (!decide (r6 = 0)))) (p_err_neq _) ?_
  refine tcond (fun h8 => ?_) (fun h8 => ?_)
  · refine tb (x := (T_Fate.e (T_Fate.mk 0 (ByteArray.mk #[]) []))) (by kernel_rfl) ?_
    refine tb (x := V.agg (T_Fate.c (T_Fate.mk 0 (ByteArray.mk #[]) []))) (by kernel_rfl) ?_
    refine tb (x := (T_Fate.e (T_Fate.mk 0 (ByteArray.mk #[]) []))) rfl ?_
    exact rf_ret rfl
  · refine tb (x := (T_Net.e a0)) (rfl) ?_
    refine tb (x := (T_Spot.e a1)) (rfl) ?_
    refine tbo (ty_net_Of hn a0 a1 a2) fun r15 => ?_
    refine tb (x := V.agg (T_Fate.c r15)) (by kernel_rfl) ?_
    refine tb (x := (T_Fate.e r15)) rfl ?_
    exact rf_ret rfl

end Go.Proofs.Ytpkcdfgjcodidaa.Ty
