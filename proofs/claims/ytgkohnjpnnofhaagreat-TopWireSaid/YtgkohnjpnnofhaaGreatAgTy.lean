/- Agents on plain types: typed by hand (rounds lie in an array of an object, their ops in maps). -/
import Derived.Test.YtgkohnjpnnofhaaGreatTyA
import Derived.Test.YtgkohnjpnnofhaaGreatAgHeard
import Derived.Test.YtgkohnjpnnofhaaGreatSBase
namespace Go.Proofs.YtgkohnjpnnofhaaGreat.Ty
set_option linter.unusedVariables false
set_option linter.unusedSimpArgs false
open Go Go.RowKit Go.Proofs.YtgkohnjpnnofhaaGreat.Den
set_option maxRecDepth 100000
structure T_agent_round where
 ops : List (Int × T_Op)
 many : Int
 done : Bool
 deriving DecidableEq, Inhabited
structure T_agent_Agent where
 number : Int
 table : List T_Rule
 rounds : List T_agent_round
 done : List Int
 deriving Inhabited
def kI (n : Int) : Go.Value := .int .i64 n
def opV (x : T_Op) : Go.Value := .agg #[.int .i64 x.Switch, .bool x.Add, .int .i64 x.Rule.Prio, .int .i64 x.Rule.Cube.Mask, .int .i64 x.Rule.Cube.Bits, .int .i64 x.Rule.Out, .int .i64 x.Rule.Set, .int .i64 x.Rule.Value]
def rdC (r : T_agent_round) : List V := [V.mp (mrep kI opV r.ops), vi r.many, vb r.done]
def agC (a : T_agent_Agent) : List V := vi a.number :: V.sl (a.table.map T_Rule.c) :: (a.rounds.flatMap rdC ++ [V.osl 1 (a.done.map cI)])
def rdF (r : T_agent_round) : List V := [V.any, vi r.many, vb r.done]
def agF (a : T_agent_Agent) : List V := vi a.number :: V.sl (a.table.map T_Rule.c) :: (a.rounds.flatMap rdF ++ [V.sl (a.done.map cI)])
def T_agent_Agent.setR (a : T_agent_Agent) (i : Int) (r : T_agent_round) : T_agent_Agent := { a with rounds := a.rounds.set i.toNat r }
section
variable {α β γ σ : Type} {e : β → Option V} {Y : Option β}
theorem frzL_app : ∀ (l m : List V), frzL (l ++ m) = frzL l ++ frzL m
 | [], m => rfl
 | x :: l, m => by simp only [List.cons_append, frzL, frzL_app l m]
theorem frzL_flat {f g : α → List V} (h : ∀ x, frzL (f x) = g x) : ∀ l : List α, frzL (l.flatMap f) = l.flatMap g
 | [] => rfl
 | x :: l => by simp only [List.flatMap_cons, frzL_app, h, frzL_flat h l]
theorem agFz (a : T_agent_Agent) : frzL (agC a) = agF a := by
 unfold agC agF
 simp only [frzL, frzL_app, frzL_flat (f := rdC) (g := rdF) (fun _ => rfl), p_frzl (k := 1) (c := cI) (c' := cI) (fun _ => rfl)]
 rfl
theorem flat_at {f : α → List V} (hf : ∀ x, (f x).length = 3) : ∀ (l : List α) (i j : Nat) (r : α) (m : List V), l[i]? = some r → j < 3 → (l.flatMap f ++ m)[i * 3 + j]? = (f r)[j]?
 | [], i, j, r, m, h, _ => by simp at h
 | x :: l, 0, j, r, m, h, hj => by
  simp only [List.getElem?_cons_zero, oE_] at h
  subst h
  rw [List.flatMap_cons, List.append_assoc, List.getElem?_append_left (by rw [hf]; omega)]
  congr 1; omega
 | x :: l, i + 1, j, r, m, h, hj => by
  rw [List.flatMap_cons, List.append_assoc, List.getElem?_append_right (by rw [hf]; omega), hf]
  have := flat_at hf l i j r m (by simpa using h) hj
  rw [← this]
  congr 1; omega
theorem flat_set {f : α → List V} (hf : ∀ x, (f x).length = 3) {y : V} : ∀ (l : List α) (i j : Nat) (r r' : α) (m : List V), l[i]? = some r → j < 3 → f r' = (f r).set j y → (l.flatMap f ++ m).set (i * 3 + j) y = (l.set i r').flatMap f ++ m
 | [], i, j, r, r', m, h, _, _ => by simp at h
 | x :: l, 0, j, r, r', m, h, hj, hr => by
  simp only [List.getElem?_cons_zero, oE_] at h
  subst h
  rw [List.set_cons_zero, List.flatMap_cons, List.flatMap_cons, List.append_assoc, List.set_append_left _ _ (by rw [hf]; omega), hr, List.append_assoc]
  congr 2; omega
 | x :: l, i + 1, j, r, r', m, h, hj, hr => by
  rw [List.set_cons_succ, List.flatMap_cons, List.flatMap_cons, List.append_assoc, List.append_assoc, List.set_append_right _ _ (by rw [hf]; omega), hf]
  have := flat_set hf l i j r r' m (by simpa using h) hj hr
  rw [← this]
  congr 2; omega
theorem flat_len {f : α → List V} (hf : ∀ x, (f x).length = 3) : ∀ l : List α, (l.flatMap f).length = l.length * 3
 | [] => rfl
 | x :: l => by rw [List.flatMap_cons, List.length_append, hf, flat_len hf l, List.length_cons]; omega
theorem rdC_len (r : T_agent_round) : (rdC r).length = 3 := rfl
theorem idx_some' {l : List α} {i : Int} {r : α} (h : idx l i = some r) : 0 ≤ i ∧ l[i.toNat]? = some r := by
 unfold idx at h
 split at h
 ·exact ⟨by assumption, h⟩
 ·cases h
theorem agC_at {a : T_agent_Agent} {i : Int} {r : T_agent_round} (h : idx a.rounds i = some r) {j : Nat} (hj : j < 3) : (agC a)[2 + natOf (vi i) * 3 + j]? = (rdC r)[j]? := by
 obtain ⟨h0, h1⟩ := idx_some' h
 have := flat_at rdC_len a.rounds i.toNat j r [V.osl 1 (a.done.map cI)] h1 hj
 show (agC a)[2 + i.toNat * 3 + j]? = _
 rw [← this, show 2 + i.toNat * 3 + j = (i.toNat * 3 + j) + 1 + 1 by omega]
 rfl
theorem agC_set {a : T_agent_Agent} {i : Int} {r r' : T_agent_round} (h : idx a.rounds i = some r) {j : Nat} (hj : j < 3) {y : V} (hr : rdC r' = (rdC r).set j y) : (agC a).set (2 + natOf (vi i) * 3 + j) y = agC (a.setR i r') := by
 obtain ⟨h0, h1⟩ := idx_some' h
 have := flat_set rdC_len a.rounds i.toNat j r r' [V.osl 1 (a.done.map cI)] h1 hj hr
 show (agC a).set (2 + i.toNat * 3 + j) y = _
 rw [show 2 + i.toNat * 3 + j = (i.toNat * 3 + j) + 1 + 1 by omega]
 unfold agC T_agent_Agent.setR
 rw [List.set_cons_succ, List.set_cons_succ, this]
theorem agC_lt {a : T_agent_Agent} {i : Int} {r : T_agent_round} (h : idx a.rounds i = some r) {j : Nat} (hj : j < 3) : 2 + natOf (vi i) * 3 + j < (agC a).length := by
 refine Nat.lt_of_not_le fun hl => ?_
 have h1 := agC_at h hj
 rw [List.getElem?_eq_none hl] at h1
 have h2 := rdC_len r
 rw [gE_ (by omega)] at h1
 cases h1
theorem ag_ld {a : T_agent_Agent} {i : Int} {r : T_agent_round} (h : idx a.rounds i = some r) {j : Nat} (hj : j < 3) {y : V} (hy : (rdC r)[j]? = some y) (hp : pureO y = some y) : ((nodeL (V.obj (agC a)) none 0).bind fun l => (ldk none (List.drop (2 + natOf (vi i) * 3 + j) l)).bind pureO) = some y := by
 show (ldk none (List.drop (2 + natOf (vi i) * 3 + j) (agC a))).bind pureO = some y
 have : ldk none (List.drop (2 + natOf (vi i) * 3 + j) (agC a)) = some y := by
  show (List.drop (2 + natOf (vi i) * 3 + j) (agC a))[0]? = some y
  rw [List.getElem?_drop, Nat.add_zero, agC_at h hj, hy]
 rw [this]; exact hp
theorem ag_own {a : T_agent_Agent} {i : Int} {r : T_agent_round} (h : idx a.rounds i = some r) : ((nodeL (V.obj (agC a)) none 0).bind fun l => (l[(2 + natOf (vi i) * 3)]?).bind ownO) = some V.any := by
 show ((agC a)[2 + natOf (vi i) * 3 + 0]?).bind ownO = _
 rw [agC_at h (by decide)]; rfl
theorem ag_get {a : T_agent_Agent} {i : Int} {r : T_agent_round} (h : idx a.rounds i = some r) : getV (V.obj (agC a)) [Stp.mk none (2 + natOf (vi i) * 3) 0] = some (V.mp (mrep kI opV r.ops)) := by
 show (((agC a)[2 + natOf (vi i) * 3 + 0]?).bind fun y => getV y []) = _
 rw [agC_at h (by decide)]; rfl
theorem ag_mod {a : T_agent_Agent} {i : Int} {r : T_agent_round} (h : idx a.rounds i = some r) (l : List (Int × T_Op)) : modX (V.obj (agC a)) [] (Stp.mk none (2 + natOf (vi i) * 3) 0) (V.mp (mrep kI opV l)) = some (V.obj (agC (a.setR i ⟨l, r.many, r.done⟩))) := by
 show (((agC a)[2 + natOf (vi i) * 3 + 0]?).map fun _ => V.obj ((agC a).set (2 + natOf (vi i) * 3 + 0) _)) = _
 rw [agC_at h (by decide), agC_set h (j := 0) (r' := ⟨l, r.many, r.done⟩) (by decide) rfl]
 rfl
theorem ag_st {a : T_agent_Agent} {i : Int} {r : T_agent_round} (h : idx a.rounds i = some r) (v : Int) : setV (V.obj (agC a)) [] (Stp.mk none ((2 + natOf (vi i) * 3) + 1) 0) 1 [vi v] = some (V.obj (agC (a.setR i ⟨r.ops, v, r.done⟩))) := by
 show (spliceO (agC a) (2 + natOf (vi i) * 3 + 1) 1 [vi v]).map V.obj = _
 have hlt := agC_lt h (j := 1) (by decide)
 unfold spliceO
 rw [if_pos ⟨rfl, hlt⟩]
 have : (agC a).take (2 + natOf (vi i) * 3 + 1) ++ [vi v] ++ (agC a).drop (2 + natOf (vi i) * 3 + 1 + 1) = (agC a).set (2 + natOf (vi i) * 3 + 1) (vi v) := by
  rw [List.set_eq_take_append_cons_drop, if_pos hlt]; simp
 rw [this, agC_set h (j := 1) (r' := ⟨r.ops, v, r.done⟩) (by decide) rfl]
 rfl
theorem tidx {l : List α} (hl : l.length = 20) {i : Int} {K : V → Option V} {Y : α → Option β} (h : ∀ r, idx l i = some r → Rf e (K .any) (Y r)) : Rf e ((inB 20 (vi i)).bind K) ((idx l i).bind Y) := fun b hb => by
 cases hr : idx l i with
 | none => rw [hr] at hb; cases hb
 | some r =>
  rw [hr] at hb
  obtain ⟨h0, h1⟩ := idx_some' hr
  have := (gS_ h1).1
  have e1 : inB 20 (vi i) = some .any := by
   show (if 0 ≤ i ∧ i.toNat < 20 then some V.any else none) = _
   rw [if_pos ⟨h0, by omega⟩]
  rw [e1]
  exact h r hr b hb
theorem rf_sub {X X' : Option V} (h : X = X') (k : Rf e X' Y) : Rf e X Y := by rw [h]; exact k
end
noncomputable def t_agent_New (a0 : Int) (a1 : List T_Rule) : Option (Option T_agent_Agent × Int) :=
 if ((decide (a0 < 1)) || (decide (6 < a0))) = true then some (none, 1) else (
 (t_rule_Table a1).bind fun r =>
 if (!decide (r = 0)) = true then some (none, r) else (
 (cln a1).bind fun l => some (some ⟨a0, l, List.replicate 20 ⟨[], -1, false⟩, []⟩, 0)))
noncomputable def t_agent_Agent_Heard (a0 : T_agent_Agent) (a1 : Int) : Option Int :=
 need (decide (a0.rounds.length = 20)) (
 if ((decide (a1 < 0)) || (decide (20 ≤ a1))) = true then some 0 else (
 (idx a0.rounds a1).bind fun r => some (r.ops.length : Int)))
noncomputable def t_agent_Agent_Hear (a0 : T_agent_Agent) (a1 : T_Msg) : Option (List T_Msg × Int × T_agent_Agent) :=
 need (decide (a0.rounds.length = 20)) (
 (t_wire_Check a1).bind fun r6 =>
 if (!decide (r6 = 0)) = true then some ([], r6, a0) else (
 if (decide (a1.Switch ≠ a0.number)) = true then some ([], 5, a0) else (
 if (decide (a1.Kind = 3)) = true then some ([], 6, a0) else (
 (idx a0.rounds a1.Round).bind fun r =>
 if (r.done && (decide (a1.Kind = 2))) = true then some ([T_Msg.mk 3 a0.number a1.Round 0 (T_Op.mk 0 false (T_Rule.mk 0 (T_Cube.mk 0 0) 0 0 0))], 0, a0) else (
 if r.done = true then some ([], 0, a0) else (
 if (decide (a1.Kind = 2)) = true then (
  if (decide (r.many < 0)) = true then some ([], 0, a0.setR a1.Round ⟨r.ops, a1.Index, r.done⟩) else some ([], 0, a0)) else (
  if (!mhas r.ops a1.Index) = true then some ([], 0, a0.setR a1.Round ⟨mput r.ops a1.Index a1.Op, r.many, r.done⟩) else some ([], 0, a0))))))))
noncomputable def t_agent_Agent_Table (a0 : T_agent_Agent) : Option (List T_Rule) := cln a0.table
noncomputable def t_agent_Agent_Done (a0 : T_agent_Agent) : Option (List Int) := need (decide (a0.rounds.length = 20)) (cln a0.done)
theorem ty_agent_New {n : Nat} (hn : bigN ≤ n) (a0 : Int) (a1 : List T_Rule) : Rv (fun x : (Option T_agent_Agent × Int) => (V.tup [(V.tup [(pO agC x.1), (eV x.2)]), V.any, V.any])) (sem_agent_New n [(vi a0), (V.sl (List.map T_Rule.c a1))]) (t_agent_New a0 a1) := by
 rw [eq_agent_New]
 unfold t_agent_New
 refine tq (vi a0) rfl ?_
 refine tq (V.sl (List.map T_Rule.c a1)) rfl ?_
 refine tq (vb (decide (a0 < 1))) (d_lss) ?_
 refine tg_f (x := (vi a0)) (fun h4 => rfl) ?_
 refine tg_f (x := (vb (decide (6 < a0)))) (fun h6 => by simp only [gv_t h6]; exact bind_some_eq (d_gtr)) ?_
 refine tq (vb ((decide (a0 < 1)) || (decide (6 < a0)))) (pick_or (fun h9 => gv_t (not_f h9))) ?_
 refine tcond (fun h10 => ?_) (fun h10 => ?_)
 ·refine tq (eV 1) (p_mkE (by decide)) ?_
  refine tq (V.lit (.pointer none)) rfl ?_
  refine tq (eV 1) rfl ?_
  exact rf_ret rfl
 ·refine tbo (ty_rule_Table hn a1) fun r => ?_
  refine tq (vb (!decide (r = 0))) (p_err_neq _) ?_
  refine tcond (fun h12 => ?_) (fun h12 => ?_)
  ·refine tq (V.lit (.pointer none)) rfl ?_
   refine tq (eV r) rfl ?_
   exact rf_ret rfl
  ·refine tbo (p_clone (c := T_Rule.c) (fun _ => rfl) a1) fun l => ?_
   obtain ⟨m, rfl⟩ : ∃ m, n = m + 21 := ⟨n - 21, by have := bigN_gt; omega⟩
   refine rf_sub (X' := some (V.tup [V.tup [V.obj (agC ⟨a0, l, List.replicate 20 ⟨[], -1, false⟩, []⟩), eV 0], V.any, V.any])) (by kernel_rfl) ?_
   exact rf_ret rfl
theorem ty_agent_Agent_Table {n : Nat} (hn : bigN ≤ n) (a0 : T_agent_Agent) : Rv (fun x : (List T_Rule) => (V.sl (List.map T_Rule.c x))) (sem_agent_Agent_Table n [(V.ptr (agF a0))]) (t_agent_Agent_Table a0) := by
 rw [eq_agent_Agent_Table]
 unfold t_agent_Agent_Table
 refine tq (V.ptr (agF a0)) rfl ?_
 refine tq (V.ptr ((agF a0).drop 1)) rfl ?_
 refine tq (V.sl (List.map T_Rule.c a0.table)) rfl ?_
 intro b hb
 rw [p_clone (c := T_Rule.c) (fun _ => rfl) a0.table b hb]
 rfl
theorem yes_ok {n : Nat} (a0 : T_agent_Agent) (i : Int) : sem_agent_Agent_yes n [(V.ptr (agF a0)), vi i] = some (V.sl (List.map T_Msg.c [T_Msg.mk 3 a0.number i 0 (T_Op.mk 0 false (T_Rule.mk 0 (T_Cube.mk 0 0) 0 0 0))])) := by
 rw [eq_agent_Agent_yes]
 kernel_rfl
theorem ty_agent_Agent_Hear {n : Nat} (hn : bigN ≤ n) (a0 : T_agent_Agent) (a1 : T_Msg) : Rv (fun x : (List T_Msg × Int × T_agent_Agent) => (V.tup [(V.tup [(V.sl (List.map T_Msg.c x.1)), (eV x.2.1)]), (V.obj (agC x.2.2)), V.any])) (sem_agent_Agent_Hear n [(V.obj (agC a0)), (T_Msg.e a1)]) (t_agent_Agent_Hear a0 a1) := by
 rw [eq_agent_Agent_Hear]
 unfold t_agent_Agent_Hear JoinPt
 refine tneed0 fun hl => ?_
 have hl := of_decide_eq_true hl
 refine tq V.any rfl ?_
 refine tq (T_Msg.e a1) rfl ?_
 refine tq (T_Msg.c a1) rfl ?_
 refine tq (T_Msg.e a1) (rfl) ?_
 refine tbo (ty_wire_Check hn a1) fun r6 => ?_
 refine tq (vb (!decide (r6 = 0))) (p_err_neq _) ?_
 refine tcond (fun h1 => ?_) (fun h1 => ?_)
 ·exact rf_ret rfl
 refine tq (vi a1.Switch) rfl ?_
 refine tq V.any rfl ?_
 refine tq V.any rfl ?_
 refine tq (vi a0.number) rfl ?_
 refine tq (vb (decide (a1.Switch ≠ a0.number))) (d_neq) ?_
 refine tcond (fun h2 => ?_) (fun h2 => ?_)
 ·refine tq (eV 5) (p_mkE (by decide)) ?_
  exact rf_ret rfl
 refine tq (vi a1.Kind) rfl ?_
 refine tq (vb (decide (a1.Kind = 3))) (d_eql) ?_
 refine tcond (fun h3 => ?_) (fun h3 => ?_)
 ·refine tq (eV 6) (p_mkE (by decide)) ?_
  exact rf_ret rfl
 refine tq (vi a1.Round) rfl ?_
 refine tq V.any rfl ?_
 refine tq V.any rfl ?_
 refine tidx hl fun r hr => ?_
 refine tq V.any rfl ?_
 refine tq V.any rfl ?_
 refine tq (vb r.done) (ag_ld hr (j := 2) (by decide) rfl rfl) ?_
 refine tg (x := V.any) (fun _ => rfl) ?_
 refine tg (x := (vi a1.Kind)) (fun h => bind_some_eq (gate_pos h rfl)) ?_
 refine tg (x := (vb (decide (a1.Kind = 2)))) (fun h => by simp only [gv_t h]; exact bind_some_eq (d_eql)) ?_
 refine tq (vb (r.done && (decide (a1.Kind = 2)))) (pick_and (fun h => gv_t h)) ?_
 refine tcond (fun h4 => ?_) (fun h4 => ?_)
 ·refine tq (vi a1.Round) rfl ?_
  refine tq (V.ptr (agF a0)) (p_frzQ (agFz a0)) ?_
  refine tb (yes_ok a0 a1.Round) ?_
  refine tb (p_flatQ (c := T_Msg.c) (fun _ => rfl) _) ?_
  exact rf_ret rfl
 refine tq V.any rfl ?_
 refine tq V.any rfl ?_
 refine tq (vb r.done) (ag_ld hr (j := 2) (by decide) rfl rfl) ?_
 refine tcond (fun h5 => ?_) (fun h5 => ?_)
 ·exact rf_ret rfl
 refine tq (vi a1.Kind) rfl ?_
 refine tq (vb (decide (a1.Kind = 2))) (d_eql) ?_
 refine tcond (fun h6 => ?_) (fun h6 => ?_)
 ·refine tq V.any rfl ?_
  refine tq V.any rfl ?_
  refine tq (vi r.many) (ag_ld hr (j := 1) (by decide) rfl rfl) ?_
  refine tq (vb (decide (r.many < 0))) (d_lss) ?_
  refine tcond (fun h7 => ?_) (fun h7 => ?_)
  ·refine tq (vi a1.Index) rfl ?_
   refine tq V.any rfl ?_
   refine tq V.any rfl ?_
   refine tq [vi a1.Index] rfl ?_
   refine tb (ag_st hr a1.Index) ?_
   exact rf_ret rfl
  ·exact rf_ret rfl
 ·refine tq V.any rfl ?_
  refine tq V.any rfl ?_
  refine tq V.any (ag_own hr) ?_
  refine tq (vi a1.Index) rfl ?_
  refine tq (V.tup [T_Op.e (mget r.ops a1.Index default), vb (mhas r.ops a1.Index)]) (by
   rw [ag_get hr]
   show lookV Tryz.prog 102 true (V.mp (mrep kI opV r.ops)) (vi a1.Index) = _
   exact p_look_ok (kt := 3) (et := 49) (kv := kI) (vv := opV) (e1 := T_Op.e) (mkey_int (by kernel_rfl)) (by kernel_rfl) default (fun _ => by kernel_rfl) (fun _ => rfl) a1.Index rfl r.ops) ?_
  refine tq (T_Op.e (mget r.ops a1.Index default)) rfl ?_
  refine tq (vb (mhas r.ops a1.Index)) rfl ?_
  refine tq (V.agg (T_Op.c (mget r.ops a1.Index default))) (by kernel_rfl) ?_
  refine tq (vb (!mhas r.ops a1.Index)) (d_not) ?_
  refine tcond (fun h7 => ?_) (fun h7 => ?_)
  ·refine tq V.any rfl ?_
   refine tq V.any rfl ?_
   refine tq V.any (ag_own hr) ?_
   refine tq (vi a1.Index) rfl ?_
   refine tq (T_Op.e a1.Op) rfl ?_
   refine tb (ag_get hr) ?_
   refine tb (p_put (kt := 3) (et := 49) (kv := kI) (vv := opV) (mkey_int (by kernel_rfl)) (by kernel_rfl) a1.Index a1.Op rfl rfl r.ops) ?_
   refine tb (ag_mod hr _) ?_
   exact rf_ret rfl
  ·exact rf_ret rfl
end Go.Proofs.YtgkohnjpnnofhaaGreat.Ty
