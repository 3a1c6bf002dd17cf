/- An agent's work, on plain types: typed by hand. -/
import Derived.Test.YtgkohnjpnnofhaaGreatTyB
import Derived.Test.YtgkohnjpnnofhaaGreatAgReady
namespace Go.Proofs.YtgkohnjpnnofhaaGreat.Ty
set_option linter.unusedVariables false
set_option linter.unusedSimpArgs false
open Go Go.RowKit Go.Proofs.YtgkohnjpnnofhaaGreat.Den
set_option maxRecDepth 100000
def yesM (a : T_agent_Agent) (i : Int) : T_Msg := T_Msg.mk 3 a.number i 0 (T_Op.mk 0 false (T_Rule.mk 0 (T_Cube.mk 0 0) 0 0 0))
def workEnd (i : Int) (r : T_agent_round) (a : T_agent_Agent) : Option (List T_Msg × Int × T_agent_Agent) :=
 (oapp a.done [i]).bind fun d => some ([yesM a i], 0, { a.setR i ⟨r.ops, r.many, true⟩ with done := d })
noncomputable def t_agent_Agent_Work (a0 : T_agent_Agent) : Option (List T_Msg × Int × T_agent_Agent) :=
 need (decide (a0.rounds.length = 20)) (
 (t_agent_Agent_Ready a0).bind fun i =>
 if (decide (i < 0)) = true then some ([], 6, a0) else (
 (idx a0.rounds i).bind fun r =>
 loopU 0 r.many (fun k s K => (app s ([mget r.ops k default] : List T_Op)).bind fun s2 => K s2) (fun _ l =>
  (t_table_All a0.table l).bind fun q =>
  if (decide (q.2 = 0)) = true then workEnd i r { a0 with table := q.1 } else workEnd i r a0) []))
noncomputable def workV (n : Nat) (i : Int) (x : V) : Option V :=
 (some V.any).bind fun v26 =>
 (some V.any).bind fun v27 =>
 (V.cellsO (vb true)).bind fun v28 =>
 (setV x [] (Stp.mk none ((2 + natOf (vi i) * 3) + 2) 0) 1 v28).bind fun v29 =>
 (some V.any).bind fun v30 =>
 (some V.any).bind fun v31 =>
 ((nodeL v29 none 0).bind fun l32 => (l32[62]?).bind ownO).bind fun v33 =>
 (slcB 1 1 [(vi 0)] [(0, (vi i))]).bind fun v34 =>
 (getV v29 [(Stp.mk none 62 0)]).bind fun v35 =>
 (modX v29 [] (Stp.mk none 62 0) V.any).bind fun v36 =>
 (appS 1 v35 v34).bind fun v37 =>
 (some V.any).bind fun v38 =>
 (some V.any).bind fun v39 =>
 (V.cellsO v37).bind fun v40 =>
 (setV v36 [] (Stp.mk none 62 0) 1 v40).bind fun v41 =>
 (some (frzQ v41)).bind fun v42 =>
 ((sem_agent_Agent_yes n) [v42, (vi i)]).bind fun v44 =>
 (flatQ v44).bind fun v43 =>
 some (V.tup [(V.tup [v43, vn]), v41])
theorem setR_len (a : T_agent_Agent) (i : Int) (r : T_agent_round) : (a.setR i r).rounds.length = a.rounds.length := by unfold T_agent_Agent.setR; simp
theorem agC_len {a : T_agent_Agent} (h : a.rounds.length = 20) : (agC a).length = 63 := by
 unfold agC
 simp only [List.length_cons, List.length_append, flat_len rdC_len, h, List.length_nil]
theorem agC_done {a : T_agent_Agent} (h : a.rounds.length = 20) : (agC a)[62]? = some (V.osl 1 (a.done.map cI)) := by
 show (a.rounds.flatMap rdC ++ [V.osl 1 (a.done.map cI)])[60]? = _
 rw [List.getElem?_append_right (by rw [flat_len rdC_len, h]; omega), flat_len rdC_len, h]
 rfl
theorem agC_set62 {a : T_agent_Agent} (h : a.rounds.length = 20) (y : V) : (agC a).set 62 y = vi a.number :: V.sl (a.table.map T_Rule.c) :: (a.rounds.flatMap rdC ++ [y]) := by
 unfold agC
 rw [List.set_cons_succ, List.set_cons_succ, List.set_append_right _ _ (by rw [flat_len rdC_len, h]; omega), flat_len rdC_len, h]
 rfl
theorem splice_one {l : List V} {j : Nat} {y : V} (h : j < l.length) : spliceO l j 1 [y] = some (l.set j y) := by
 unfold spliceO
 rw [if_pos ⟨rfl, h⟩, List.set_eq_take_append_cons_drop, if_pos h]
 simp
theorem work_end {n : Nat} {i : Int} {r : T_agent_round} {a : T_agent_Agent} (hl : a.rounds.length = 20) (hr : idx a.rounds i = some r) : Rv (fun x : (List T_Msg × Int × T_agent_Agent) => (V.tup [(V.tup [(V.sl (List.map T_Msg.c x.1)), (eV x.2.1)]), (V.obj (agC x.2.2))])) (workV n i (V.obj (agC a))) (workEnd i r a) := by
 unfold workV workEnd
 have hl2 : (a.setR i ⟨r.ops, r.many, true⟩).rounds.length = 20 := by rw [setR_len, hl]
 refine tq V.any rfl ?_
 refine tq V.any rfl ?_
 refine tq [vb true] rfl ?_
 refine tq (V.obj (agC (a.setR i ⟨r.ops, r.many, true⟩))) (by
  show (spliceO (agC a) (2 + natOf (vi i) * 3 + 2) 1 [vb true]).map V.obj = _
  rw [splice_one (agC_lt hr (by decide)), agC_set hr (j := 2) (r' := ⟨r.ops, r.many, true⟩) (by decide) rfl]; rfl) ?_
 generalize hb : a.setR i ⟨r.ops, r.many, true⟩ = b at hl2 ⊢
 have hd : b.done = a.done := by rw [← hb]; rfl
 have hn : b.number = a.number := by rw [← hb]; rfl
 rw [← hd]
 refine tq V.any rfl ?_
 refine tq V.any rfl ?_
 refine tq V.any (by show ((agC b)[62]?).bind ownO = _; rw [agC_done hl2]; rfl) ?_
 refine tq (V.sl (List.map cI ([i] : List Int))) (by kernel_rfl) ?_
 refine tq (V.osl 1 (b.done.map cI)) (by show ((agC b)[62]?).bind (fun y => getV y []) = _; rw [agC_done hl2]; rfl) ?_
 refine tq (V.obj ((agC b).set 62 V.any)) (by show ((agC b)[62]?).map (fun _ => V.obj ((agC b).set 62 V.any)) = _; rw [agC_done hl2]; rfl) ?_
 refine tbo (p_oapp (c := cI) (fun _ => rfl) b.done [i]) fun d => ?_
 refine tq V.any rfl ?_
 refine tq V.any rfl ?_
 refine tq [V.osl 1 (d.map cI)] rfl ?_
 refine tq (V.obj (agC { b with done := d })) (by
  show (spliceO ((agC b).set 62 V.any) 62 1 [V.osl 1 (d.map cI)]).map V.obj = _
  rw [splice_one (by rw [List.length_set, agC_len hl2]; decide), List.set_set, agC_set62 hl2]; rfl) ?_
 refine tq (V.ptr (agF { b with done := d })) (p_frzQ (agFz _)) ?_
 refine tb (yes_ok { b with done := d } i) ?_
 refine tb (p_flatQ (c := T_Msg.c) (fun _ => rfl) _) ?_
 refine rf_ret ?_
 show _ = V.tup [V.tup [V.sl (List.map T_Msg.c [yesM a i]), eV 0], V.obj (agC { b with done := d })]
 rw [show yesM a i = T_Msg.mk 3 b.number i 0 (T_Op.mk 0 false (T_Rule.mk 0 (T_Cube.mk 0 0) 0 0 0)) by rw [hn]; rfl]
 rfl
theorem ty_agent_Agent_Work {n : Nat} (hn : bigN ≤ n) (a0 : T_agent_Agent) : Rv (fun x : (List T_Msg × Int × T_agent_Agent) => (V.tup [(V.tup [(V.sl (List.map T_Msg.c x.1)), (eV x.2.1)]), (V.obj (agC x.2.2))])) (sem_agent_Agent_Work n [(V.obj (agC a0))]) (t_agent_Agent_Work a0) := by
 rw [eq_agent_Agent_Work]
 unfold t_agent_Agent_Work JoinPt
 refine tneed0 fun hl => ?_
 have hl := of_decide_eq_true hl
 refine tq V.any rfl ?_
 refine tq (V.obj (agC a0)) rfl ?_
 refine tbo (tyL_Ready a0) fun i => ?_
 refine tq (vi i) rfl ?_
 refine tq (vb (decide (i < 0))) (d_lss) ?_
 refine tcond (fun h1 => ?_) (fun h1 => ?_)
 ·refine tq (eV 6) (p_mkE (by decide)) ?_
  exact rf_ret rfl
 refine tq V.any rfl ?_
 refine tq V.any rfl ?_
 refine tidx hl fun r hr => ?_
 refine tq V.any rfl ?_
 refine tq V.any rfl ?_
 refine tq (vi r.many) (ag_ld hr (j := 1) (by decide) rfl rfl) ?_
 refine tkeepT2 ?_ rfl
 refine tsome ?_
 refine rf_loopU (mk := fun (k : Int) (s : List T_Op) => [(V.sl (List.map T_Op.c s)), vi k]) hn 0 r.many [] (fun k h2 h3 h4 s rec K h => ?_) (fun k s rec h => ?_)
 ·refine tq (vb (decide (k < r.many))) (d_lss) ?_
  refine tcond_t h2 ?_
  refine tq V.any rfl ?_
  refine tq V.any rfl ?_
  refine tq V.any (ag_own hr) ?_
  refine tq (T_Op.e (mget r.ops k default)) (by
   rw [ag_get hr]
   show lookV Tryz.prog 102 false (V.mp (mrep kI opV r.ops)) (vi k) = _
   exact p_look (kt := 3) (et := 49) (kv := kI) (vv := opV) (e1 := T_Op.e) (mkey_int (by kernel_rfl)) (by kernel_rfl) default (fun _ => by kernel_rfl) (fun _ => rfl) k rfl r.ops) ?_
  refine tq (V.sl (List.map T_Op.c ([mget r.ops k default] : List T_Op))) (by kernel_rfl) ?_
  refine tbo (p_app (c := T_Op.c) (fun _ => rfl) s ([mget r.ops k default] : List T_Op)) fun s2 => ?_
  refine tq (vi (k + 1)) (p_inc h3 h4) ?_
  refine tkeepT2 ?_ rfl
  refine tsome ?_
  exact h s2
 ·refine tq (vb (decide (k < r.many))) (d_lss) ?_
  refine tcond_f h ?_
  refine tkeepT2 ?_ rfl
  refine tsome ?_
  refine tq V.any rfl ?_
  refine tq V.any rfl ?_
  refine tq (V.sl (List.map T_Rule.c a0.table)) rfl ?_
  refine tbo (ty_table_All hn a0.table s) fun q => ?_
  refine tq (V.sl (List.map T_Rule.c q.1)) rfl ?_
  refine tq (eV q.2) rfl ?_
  refine tq (vb (decide (q.2 = 0))) (p_err_eql _) ?_
  refine tcond (fun h5 => ?_) (fun h5 => ?_)
  ·refine tq V.any rfl ?_
   refine tq V.any rfl ?_
   refine tq [V.sl (List.map T_Rule.c q.1)] rfl ?_
   refine tq (V.obj (agC { a0 with table := q.1 })) (by
    show (spliceO (agC a0) 1 1 [V.sl (List.map T_Rule.c q.1)]).map V.obj = _
    rw [splice_one (by rw [agC_len hl]; decide)]; rfl) ?_
   exact work_end (a := { a0 with table := q.1 }) hl hr
  ·exact work_end hl hr
end Go.Proofs.YtgkohnjpnnofhaaGreat.Ty
