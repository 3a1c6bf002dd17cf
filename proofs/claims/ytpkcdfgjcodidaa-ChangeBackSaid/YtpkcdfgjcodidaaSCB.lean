/- ChangeBack, as it is read: no memory in sight. -/
import Derived.Test.YtpkcdfgjcodidaaSChk
import Derived.Test.YtpkcdfgjcodidaaDoTy
import Derived.Test.YtpkcdfgjcodidaaTablePlain
import Derived.Test.YtpkcdfgjcodidaaDiffTy
namespace Go.Proofs.Ytpkcdfgjcodidaa.Ty
open Go Go.RowKit Go.Proofs.Ytpkcdfgjcodidaa Go.Proofs.Ytpkcdfgjcodidaa.Den
set_option linter.unusedSimpArgs false
set_option linter.unusedVariables false
set_option maxRecDepth 100000

theorem s_cubeCheckV (c : T_Cube) : t_cube_Check c = some (cchk c.Mask c.Bits) := by
  unfold t_cube_Check cchk t_cube_Header
  by_cases h1 : 0 ≤ c.Mask ∧ c.Mask < 16
  · by_cases h2 : 0 ≤ c.Bits ∧ c.Bits < 16
    · by_cases h3 : bits .andNot .i64 c.Bits c.Mask = 0 <;> simp [h1, h2, h3, gd_true]
    · have : ¬ (0 ≤ c.Bits) ∨ ¬ (c.Bits < 16) := by omega
      rcases this with h | h <;> simp [h1, h2, h, gd_true]
  · have : ¬ (0 ≤ c.Mask) ∨ ¬ (c.Mask < 16) := by omega
    rcases this with h | h <;> simp [h1, h, gd_false]
theorem s_ruleCheckV (r : T_Rule) : t_rule_Check r = some (rlOf r).chk := by
  unfold t_rule_Check Rl.chk rchk t_cube_Header
  rw [s_cubeCheckV]
  show _ = some (if 0 ≤ r.Prio ∧ r.Prio ≤ 99 ∧ 0 ≤ r.Out ∧ r.Out ≤ 4 ∧ (0 ≤ r.Set ∧ r.Set < 16) ∧ (0 ≤ r.Value ∧ r.Value < 16) then (if cchk r.Cube.Mask r.Cube.Bits = 0 then (if bits .andNot .i64 r.Value r.Set = 0 ∧ ¬ (r.Out = 0 ∧ r.Set ≠ 0) then 0 else 3) else cchk r.Cube.Mask r.Cube.Bits) else 1)
  have hR1 : (0 ≤ r.Prio ∧ r.Prio ≤ 99 ∧ 0 ≤ r.Out ∧ r.Out ≤ 4 ∧ (0 ≤ r.Set ∧ r.Set < 16) ∧ (0 ≤ r.Value ∧ r.Value < 16)) → (if 0 ≤ r.Prio ∧ r.Prio ≤ 99 ∧ 0 ≤ r.Out ∧ r.Out ≤ 4 ∧ (0 ≤ r.Set ∧ r.Set < 16) ∧ (0 ≤ r.Value ∧ r.Value < 16) then (if cchk r.Cube.Mask r.Cube.Bits = 0 then (if bits .andNot .i64 r.Value r.Set = 0 ∧ ¬ (r.Out = 0 ∧ r.Set ≠ 0) then 0 else 3) else cchk r.Cube.Mask r.Cube.Bits) else 1) = (if cchk r.Cube.Mask r.Cube.Bits = 0 then (if bits .andNot .i64 r.Value r.Set = 0 ∧ ¬ (r.Out = 0 ∧ r.Set ≠ 0) then 0 else 3) else cchk r.Cube.Mask r.Cube.Bits) := fun h => if_pos h
  have hR0 : ¬ (0 ≤ r.Prio ∧ r.Prio ≤ 99 ∧ 0 ≤ r.Out ∧ r.Out ≤ 4 ∧ (0 ≤ r.Set ∧ r.Set < 16) ∧ (0 ≤ r.Value ∧ r.Value < 16)) → (if 0 ≤ r.Prio ∧ r.Prio ≤ 99 ∧ 0 ≤ r.Out ∧ r.Out ≤ 4 ∧ (0 ≤ r.Set ∧ r.Set < 16) ∧ (0 ≤ r.Value ∧ r.Value < 16) then (if cchk r.Cube.Mask r.Cube.Bits = 0 then (if bits .andNot .i64 r.Value r.Set = 0 ∧ ¬ (r.Out = 0 ∧ r.Set ≠ 0) then 0 else 3) else cchk r.Cube.Mask r.Cube.Bits) else 1) = 1 := fun h => if_neg h
  generalize (if 0 ≤ r.Prio ∧ r.Prio ≤ 99 ∧ 0 ≤ r.Out ∧ r.Out ≤ 4 ∧ (0 ≤ r.Set ∧ r.Set < 16) ∧ (0 ≤ r.Value ∧ r.Value < 16) then (if cchk r.Cube.Mask r.Cube.Bits = 0 then (if bits .andNot .i64 r.Value r.Set = 0 ∧ ¬ (r.Out = 0 ∧ r.Set ≠ 0) then 0 else 3) else cchk r.Cube.Mask r.Cube.Bits) else 1) = R at hR1 hR0
  cases hA : (((decide (r.Prio < 0) || decide (99 < r.Prio)) || decide (r.Out < 0)) || decide (4 < r.Out)) with
  | true =>
    rw [hR0 (by simp only [Bool.or_eq_true, decide_eq_true_eq] at hA; omega)]
    simp [gd]
  | false =>
    simp only [Bool.or_eq_false_iff, decide_eq_false_iff_not, Int.not_lt] at hA
    by_cases h1 : 0 ≤ r.Set ∧ r.Set < 16
    · by_cases h2 : 0 ≤ r.Value ∧ r.Value < 16
      · rw [hR1 ⟨hA.1.1.1, hA.1.1.2, hA.1.2, hA.2, h1, h2⟩]
        have e1 : (decide (0 ≤ r.Set) && decide (r.Set < 16)) = true := by simp [h1]
        have e2 : (decide (0 ≤ r.Value) && decide (r.Value < 16)) = true := by simp [h2]
        simp only [Bool.not_false, gd_true, e1, e2, Option.bind_some, Bool.not_true, Bool.or_self, Bool.false_eq_true, if_false]
        by_cases h3 : cchk r.Cube.Mask r.Cube.Bits = 0
        · rw [if_neg (by simpa using h3), if_pos h3]
          generalize bits .andNot .i64 r.Value r.Set = B
          by_cases h4 : B = 0 <;> by_cases h5 : r.Out = 0 <;> by_cases h6 : r.Set = 0 <;> simp [h4, h5, h6]
        · rw [if_pos (by simpa using h3), if_neg h3]
      · rw [hR0 (by omega)]
        have e1 : (decide (0 ≤ r.Set) && decide (r.Set < 16)) = true := by simp [h1]
        have e2 : (decide (0 ≤ r.Value) && decide (r.Value < 16)) = false := by simp; omega
        simp only [Bool.not_false, gd_true, e1, e2, Option.bind_some, Bool.not_true, Bool.or_self, Bool.false_eq_true, if_false, Bool.or_true, if_true]
    · rw [hR0 (by omega)]
      have e1 : (decide (0 ≤ r.Set) && decide (r.Set < 16)) = false := by simp; omega
      simp [gd, e1]
theorem s_cfV (x : T_Rule) (l : List T_Rule) (hl : (l.length : Int) ≤ maxI) : t_slices_ContainsFunc_api_Table_api_Rule l (fun a33 => t_rule_Table_1 a33 x) = some (l.any fun y => (rlOf y).key (rlOf x)) := by
  unfold t_slices_ContainsFunc_api_Table_api_Rule t_slices_IndexFunc_api_Table_api_Rule
  rw [join_eq, loopI_eq hl]
  have hk : ∀ y : T_Rule, t_rule_Table_1 y x = some ((rlOf y).key (rlOf x)) := fun y => by
    unfold t_rule_Table_1 t_rule_Key
    simp only [Option.bind_some, Option.some.injEq]
    show (decide (y.Prio = x.Prio) && decide (y.Cube = x.Cube)) = decide (y.Prio = x.Prio ∧ y.Cube.Mask = x.Cube.Mask ∧ y.Cube.Bits = x.Cube.Bits)
    rw [Bool.eq_iff_iff]
    simp [T_Cube.ext_iff2]
  have : ∀ (l : List T_Rule) (i : Int), 0 ≤ i → ∃ j, goI (fun (i13 : Int) x14 (s9 : Unit) k10 => (t_rule_Table_1 x14 x).bind fun r22 => if r22 = true then (some i13) else (k10 ())) (fun _ => some (-1 : Int)) i l () = some j ∧ (decide (0 ≤ j)) = l.any fun y => (rlOf y).key (rlOf x) := by
    intro l
    induction l with
    | nil => intro i _; exact ⟨-1, rfl, rfl⟩
    | cons y l ih =>
      intro i hi
      rw [goI, hk, Option.bind_some]
      cases h : (rlOf y).key (rlOf x) with
      | true => exact ⟨i, if_pos rfl, by simp [h, hi]⟩
      | false =>
        obtain ⟨j, h1, h2⟩ := ih (i + 1) (by omega)
        refine ⟨j, ?_, by rw [h2]; simp [h]⟩
        rw [if_neg (by simp)]; exact h1
  obtain ⟨j, h1, h2⟩ := this l 0 (Int.le_refl _)
  rw [h1, Option.bind_some, h2]
theorem s_rTableV (t : List T_Rule) : t_rule_Table t = some (tchk (t.map rlOf)) := by
  have hM : maxI = 9223372036854775807 := rfl
  unfold t_rule_Table tchk
  rw [List.length_map]
  by_cases h1 : t.length > 12
  · rw [if_pos (by simp; omega), if_pos h1]
  · rw [if_neg (by simp; omega), if_neg h1, join_eq, loopI_eq (by omega)]
    have : ∀ (l p : List T_Rule), t = p ++ l → goI (fun (i17 : Int) x18 (s13 : Unit) k14 =>
        (t_rule_Check x18).bind fun r28 =>
        if (!decide (r28 = 0)) = true then (some r28) else (
        (slc_hi t i17).bind fun r32 =>
        (t_slices_ContainsFunc_api_Table_api_Rule r32 (fun (a33 : T_Rule) => t_rule_Table_1 a33 x18)).bind fun r35 =>
        if r35 = true then (some 7) else (k14 ()))) (fun (s13 : Unit) => some 0) (p.length : Int) l () = some (tfaultFrom (p.map rlOf) (l.map rlOf)) := by
      intro l
      induction l with
      | nil => intro p _; rfl
      | cons x l ih =>
        intro p hp
        have hpl : p.length ≤ t.length := by rw [hp]; simp
        rw [goI, s_ruleCheckV, Option.bind_some, List.map_cons, tfaultFrom]
        by_cases h2 : (rlOf x).chk = 0
        · have hs : slc_hi t (p.length : Int) = some p := by
            unfold slc_hi
            rw [if_pos ⟨by omega, by omega⟩, Int.toNat_natCast, hp]; simp
          rw [if_neg (by simpa using h2), if_neg (by simpa using h2), hs, Option.bind_some, s_cfV x p (by omega), Option.bind_some]
          have ha : (p.any fun y => (rlOf y).key (rlOf x)) = ((p.map rlOf).any fun y => y.key (rlOf x)) := by rw [List.any_map]; rfl
          rw [ha]
          cases hk : (p.map rlOf).any fun y => y.key (rlOf x) with
          | true => rfl
          | false =>
            rw [if_neg (by simp), if_neg (by simp)]
            have := ih (p ++ [x]) (by rw [hp]; simp)
            simp only [List.length_append, List.length_singleton, List.map_append, List.map_cons, List.map_nil] at this
            have e : (p.length : Int) + 1 = ((p.length + 1 : Nat) : Int) := by omega
            rw [e]; exact this
        · rw [if_pos (by simpa using h2), if_pos h2]
    exact this t [] rfl
/-- a change that is right makes a table that is right -/
theorem do_tok {t : List T_Rule} {add : Bool} {r : T_Rule} (h : doF t add r = 0) : Tok (t.map rlOf) ∧ Tok ((doV t add r).map rlOf) := by
  have h' : tdoF (t.map rlOf) add (rlOf r) = 0 := h
  have ht : Tok (t.map rlOf) := by
    refine tchk_iff.1 ?_
    by_cases h0 : tchk (t.map rlOf) = 0
    · exact h0
    · unfold tdoF at h'
      rw [if_pos h0] at h'
      exact h'
  have hv : (doV t add r).map rlOf = tdoR (t.map rlOf) add (rlOf r) := by
    unfold doV
    rw [tdoV_ok h', List.map_map]; exact List.map_id _
  refine ⟨ht, ?_⟩
  rw [hv]
  cases add with
  | true =>
    have := tdo_add_tok h'
    unfold tdoR
    rw [if_pos rfl]; exact this
  | false =>
    unfold tdoR
    rw [if_neg (by simp)]
    exact ht.sub (List.eraseIdx_sublist _ _)

def nilNet : T_Net := T_Net.mk (T_Topo.mk 0 [] []) []
/-- a net that is right -/
structure NOk (n : T_Net) : Prop where
  sw : 1 ≤ n.Topo.Switches ∧ n.Topo.Switches ≤ 6
  chk : t_topo_Check n.Topo = some 0
  nl : n.Topo.Links.length ≤ 200
  nh : n.Topo.Hosts.length ≤ 8
  len : (n.Tables.length : Int) = n.Topo.Switches
  tabs : ∀ t ∈ n.Tables, Tok (t.map rlOf)
theorem netCheck_first (n : T_Net) (hg : topoGood n.Topo) (hc : t_topo_Check n.Topo = some 0) (hl : (n.Tables.length : Int) = n.Topo.Switches) : t_net_Check n = some (firstF (fun t => tchk (t.map rlOf)) n.Tables) := by
  have hM : maxI = 9223372036854775807 := rfl
  have := hg.sw
  unfold t_net_Check
  rw [hc, Option.bind_some, if_neg (by simp), if_neg (by simpa using hl), join_eq, loopI_eq (by omega)]
  refine goI_first rfl _ _ fun x _ i k => ?_
  rw [s_rTableV, Option.bind_some]
  by_cases h : tchk (x.map rlOf) = 0
  · rw [if_neg (by simpa using h), if_neg (by simpa using h)]
  · rw [if_pos (by simpa using h), if_pos h]
theorem netCheck_ok {n : T_Net} (hn : ∀ h ∈ n.Topo.Hosts, (h.Name.size : Int) ≤ maxI) : t_net_Check n = some 0 ↔ NOk n := by
  constructor
  · intro h
    obtain ⟨c, h1, h2⟩ := s_netCheck n hn
    rw [h] at h1
    obtain rfl := Option.some.inj h1
    have hg := h2 rfl
    refine ⟨hg.topo.sw, hg.chk, hg.topo.nl, hg.topo.nh, hg.len, ?_⟩
    rw [netCheck_first n hg.topo hg.chk hg.len] at h
    exact fun t ht => tchk_iff.1 (firstF_0.1 (Option.some.inj h) t ht)
  · intro h
    obtain ⟨c, h1, h2⟩ := s_topoCheck n.Topo hn
    rw [h.chk] at h1
    obtain rfl := Option.some.inj h1
    rw [netCheck_first n (h2 rfl) h.chk h.len, firstF_0.2 fun t ht => tchk_iff.2 (h.tabs t ht)]
theorem s_Own (n : T_Net) (h : NOk n) : t_change_Own n = some n := by
  have hM : maxI = 9223372036854775807 := rfl
  have h1 := h.sw
  have h2 := h.nl
  have h3 := h.nh
  have h4 := h.len
  have hc : ∀ {α : Type} (l : List α), l.length ≤ 4294967296 → cln l = some l := fun l hl => if_pos hl
  unfold t_change_Own
  rw [hc _ (by omega), Option.bind_some, hc _ (by omega), Option.bind_some]
  have ho : omake (n.Tables.length : Int) (n.Tables.length : Int) ([] : List T_Rule) = some (List.replicate n.Tables.length []) := by
    unfold omake
    rw [if_pos ⟨rfl, by omega, by omega⟩, Int.toNat_natCast]
  rw [ho, Option.bind_some, loopI_eq (by omega)]
  have : ∀ (l p : List (List T_Rule)), n.Tables = p ++ l → goI (fun (i46 : Int) x47 (s42 : (List (List T_Rule))) k43 =>
      (cln x47).bind fun r55 => need (decide (0 ≤ i46) && decide (i46 < (List.length s42 : Int))) ((oset s42 i46 r55).bind fun r60 => k43 (r60))) (fun (s42 : (List (List T_Rule))) => some (s42)) (p.length : Int) l (p ++ List.replicate l.length []) = some (p ++ l) := by
    intro l
    induction l with
    | nil => intro p _; simp [goI]
    | cons x l ih =>
      intro p hp
      have hx : x.length ≤ 12 := by
        have := (h.tabs x (by rw [hp]; simp)).len
        simpa using this
      rw [goI, hc x (by omega), Option.bind_some, need_pos (by simp; omega)]
      have hs : oset (p ++ List.replicate (x :: l).length []) (p.length : Int) x = some (p ++ [x] ++ List.replicate l.length []) := by
        unfold oset
        rw [if_pos ⟨by omega, by simp; omega⟩, Int.toNat_natCast, List.length_cons, List.replicate_succ]
        simp
      rw [hs, Option.bind_some]
      have := ih (p ++ [x]) (by rw [hp]; simp)
      simp only [List.length_append, List.length_singleton] at this
      have e : (p.length : Int) + 1 = ((p.length + 1 : Nat) : Int) := by omega
      rw [e]
      refine this.trans ?_
      simp
  have := this n.Tables [] rfl
  simp only [List.length_nil, List.nil_append] at this
  refine (congrArg (fun X : Option (List (List T_Rule)) => X.bind fun s31 => some (T_Net.mk (T_Topo.mk n.Topo.Switches n.Topo.Links n.Topo.Hosts) s31)) this).trans ?_
  rfl
/-- the table of a switch -/
def tabAt (s : T_Net) (x : Int) : List T_Rule := s.Tables.getD (x - 1).toNat []
def opF (s : T_Net) (x : T_Op) : Int := if x.Switch < 1 ∨ s.Topo.Switches < x.Switch then 1 else doF (tabAt s x.Switch) x.Add x.Rule
def opR (s : T_Net) (x : T_Op) : T_Net := ⟨s.Topo, s.Tables.set (x.Switch - 1).toNat (doV (tabAt s x.Switch) x.Add x.Rule)⟩
def appL : List T_Op → T_Net → T_Net × Int
  | [], s => (s, 0)
  | x :: l, s => if opF s x ≠ 0 then (nilNet, opF s x) else appL l (opR s x)
theorem tabAt_mem {s : T_Net} (h : (s.Tables.length : Int) = s.Topo.Switches) {x : Int} (h1 : 1 ≤ x) (h2 : x ≤ s.Topo.Switches) : tabAt s x ∈ s.Tables ∧ idx s.Tables (x - 1) = some (tabAt s x) := by
  have hlt : (x - 1).toNat < s.Tables.length := by omega
  unfold tabAt
  rw [List.getD, List.getElem?_eq_getElem hlt]
  refine ⟨List.getElem_mem hlt, ?_⟩
  unfold idx
  rw [if_pos (by omega), List.getElem?_eq_getElem hlt]; rfl
theorem opR_ok {s : T_Net} (hs : NOk s) {x : T_Op} (h : opF s x = 0) : NOk (opR s x) := by
  unfold opF at h
  split at h
  · cases h
  · rename_i hr
    have hd := do_tok h
    refine ⟨hs.sw, hs.chk, hs.nl, hs.nh, ?_, fun t ht => ?_⟩
    · show ((s.Tables.set _ _).length : Int) = _
      rw [List.length_set]; exact hs.len
    · rcases List.mem_or_eq_of_mem_set ht with h | h
      · exact hs.tabs t h
      · rw [h]; exact hd.2
theorem appL_ok : ∀ (l : List T_Op) {s : T_Net}, NOk s → (appL l s).2 = 0 → NOk (appL l s).1 ∧ (appL l s).1.Topo = s.Topo
  | [], s, hs, _ => ⟨hs, rfl⟩
  | x :: l, s, hs, h => by
    unfold appL at h ⊢
    by_cases h0 : opF s x = 0
    · rw [if_neg (by simpa using h0)] at h ⊢
      exact appL_ok l (opR_ok hs h0) h
    · rw [if_pos h0] at h
      exact absurd h h0
theorem appL_append : ∀ (l m : List T_Op) (s : T_Net), (appL l s).2 = 0 → appL (l ++ m) s = appL m (appL l s).1
  | [], m, s, _ => rfl
  | x :: l, m, s, h => by
    rw [List.cons_append]
    unfold appL at h
    show (if opF s x ≠ 0 then (nilNet, opF s x) else appL (l ++ m) (opR s x)) = appL m (if opF s x ≠ 0 then (nilNet, opF s x) else appL l (opR s x)).1
    by_cases h0 : opF s x = 0
    · rw [if_neg (by simpa using h0)] at h ⊢
      rw [if_neg (by simpa using h0)]
      exact appL_append l m (opR s x) h
    · rw [if_pos h0] at h
      exact absurd h h0
theorem appL_front : ∀ (l m : List T_Op) (s : T_Net), (appL (l ++ m) s).2 = 0 → (appL l s).2 = 0
  | [], m, s, _ => rfl
  | x :: l, m, s, h => by
    rw [List.cons_append] at h
    unfold appL at h ⊢
    by_cases h0 : opF s x = 0
    · rw [if_neg (by simpa using h0)] at h ⊢
      exact appL_front l m (opR s x) h
    · rw [if_pos h0] at h
      exact absurd h h0
theorem appGo : ∀ (l : List T_Op) (i : Int) (s : T_Net), NOk s → goI (fun (i38 : Int) x39 (s34 : T_Net) k35 =>
     if ((decide (x39.Switch < 1)) || (decide (s34.Topo.Switches < x39.Switch))) = true then (some ((T_Net.mk (T_Topo.mk 0 [] []) []), 1)) else (
     need (decide (0 ≤ (wr (x39.Switch - 1))) && decide ((wr (x39.Switch - 1)) < (List.length s34.Tables : Int))) (
     (idx s34.Tables (wr (x39.Switch - 1))).bind fun r75 =>
     (t_table_Do r75 x39.Add x39.Rule).bind fun r80 =>
     if (!decide (r80.2 = 0)) = true then (some ((T_Net.mk (T_Topo.mk 0 [] []) []), r80.2)) else (
     need (decide (0 ≤ (wr (x39.Switch - 1))) && decide ((wr (x39.Switch - 1)) < (List.length s34.Tables : Int))) (
     (oset s34.Tables (wr (x39.Switch - 1)) r80.1).bind fun r94 =>
     k35 (T_Net.mk s34.Topo r94)))))) (fun (s34 : T_Net) => some (s34, (0 : Int))) i l s = some (appL l s)
  | [], i, s, _ => rfl
  | x :: l, i, s, hs => by
    have h1 := hs.sw
    have h2 := hs.len
    rw [goI]
    unfold appL
    by_cases hr : x.Switch < 1 ∨ s.Topo.Switches < x.Switch
    · have hf : opF s x = 1 := if_pos hr
      rw [if_pos (by simpa using hr), if_pos (by rw [hf]; decide), hf]; rfl
    · have hf : opF s x = doF (tabAt s x.Switch) x.Add x.Rule := if_neg hr
      rw [if_neg (by simpa using hr), wr_id (by omega) (by omega)]
      have hb : (decide (0 ≤ x.Switch - 1) && decide (x.Switch - 1 < (s.Tables.length : Int))) = true := by simp; omega
      obtain ⟨hm, hi⟩ := tabAt_mem h2 (x := x.Switch) (by omega) (by omega)
      rw [need_pos hb, hi, Option.bind_some]
      unfold t_table_Do
      rw [Option.bind_some]
      simp only []
      by_cases h0 : opF s x = 0
      · have ho : oset s.Tables (x.Switch - 1) (doV (tabAt s x.Switch) x.Add x.Rule) = some (opR s x).Tables := if_pos ⟨by omega, by omega⟩
        rw [if_neg (by rw [← hf]; simpa using h0), if_neg (by simpa using h0), need_pos hb, ho, Option.bind_some]
        exact appGo l (i + 1) (opR s x) (opR_ok hs h0)
      · rw [if_pos (by rw [← hf]; simpa using h0), if_pos h0, hf]; rfl
theorem s_Apply (n : T_Net) (l : List T_Op) (hn : ∀ h ∈ n.Topo.Hosts, (h.Name.size : Int) ≤ maxI) : ∃ c, t_net_Check n = some c ∧ (c = 0 ↔ NOk n) ∧ t_change_Apply n l = some (if c ≠ 0 then (nilNet, c) else if 200 < l.length then (nilNet, 4) else appL l n) := by
  have hM : maxI = 9223372036854775807 := rfl
  obtain ⟨c, h1, _⟩ := s_netCheck n hn
  have hc : c = 0 ↔ NOk n := by rw [← netCheck_ok hn, h1]; simp
  refine ⟨c, h1, hc, ?_⟩
  unfold t_change_Apply
  rw [h1, Option.bind_some]
  by_cases h0 : c = 0
  · rw [if_neg (by simpa using h0), if_neg (show ¬ c ≠ 0 by simpa using h0)]
    have hk := hc.1 h0
    by_cases hl : 200 < l.length
    · rw [if_pos (by simp; omega), if_pos hl]; rfl
    · rw [if_neg (by simp; omega), if_neg hl, s_Own n hk, Option.bind_some, join_eq, loopI_eq (by omega)]
      exact appGo l 0 n hk
  · rw [if_pos (by simpa using h0), if_pos h0]; rfl
theorem s_Apply_ok {n : T_Net} {l : List T_Op} (hn : ∀ h ∈ n.Topo.Hosts, (h.Name.size : Int) ≤ maxI) (hk : NOk n) (hl : l.length ≤ 200) : t_change_Apply n l = some (appL l n) := by
  obtain ⟨c, p1, p2, p3⟩ := s_Apply n l hn
  rw [p3, if_neg (by have := p2.2 hk; omega), if_neg (by omega)]

def tog (x : T_Op) : T_Op := T_Op.mk x.Switch (!x.Add) x.Rule
def turnL (l : List T_Op) : List T_Op := l.reverse.map tog
noncomputable def revF (k11 : List T_Op × Int × Int → Option (List T_Op)) (s10 : List T_Op × Int × Int) : Option (List T_Op) :=
 if (decide (s10.2.1 < s10.2.2)) = true then (
 need (decide (0 ≤ s10.2.2) && decide (s10.2.2 < (List.length s10.1 : Int))) (
 (idx s10.1 s10.2.2).bind fun r20 =>
 need (decide (0 ≤ s10.2.1) && decide (s10.2.1 < (List.length s10.1 : Int))) (
 (idx s10.1 s10.2.1).bind fun r24 =>
 need (decide (0 ≤ s10.2.1) && decide (s10.2.1 < (List.length s10.1 : Int))) (
 (oset s10.1 s10.2.1 r20).bind fun r29 =>
 need (decide (0 ≤ s10.2.2) && decide (s10.2.2 < (List.length r29 : Int))) (
 (oset r29 s10.2.2 r24).bind fun r34 =>
 k11 (r34, (wr (s10.2.1 + 1)), (wr (s10.2.2 - 1)))))))) else (
 some (s10.1))
theorem revF_run (l : List T_Op) (hl : l.length ≤ 100000) : ∀ (N i j : Nat) (s : List T_Op), i + j + 1 = l.length → i ≤ j + 1 → j + 3 ≤ N + i → s.length = l.length → (∀ k, s[k]? = if k < i ∨ j < k then l.reverse[k]? else l[k]?) → tfix revF N (s, (i : Int), (j : Int)) = some l.reverse
  | 0, i, j, s, h, hij, hN, hs, hk => by
    exfalso
    omega
  | N + 1, i, j, s, h, hij0, hN, hs, hk => by
    show revF (tfix revF N) _ = _
    unfold revF
    by_cases hij : i < j
    · have hi : i < l.length := by omega
      have hj : j < l.length := by omega
      have e1 : idx s (j : Int) = some l[j] := by rw [idx_nat, hk, if_neg (by omega), List.getElem?_eq_getElem hj]
      have e2 : idx s (i : Int) = some l[i] := by rw [idx_nat, hk, if_neg (by omega), List.getElem?_eq_getElem hi]
      have o1 : oset s (i : Int) l[j] = some (s.set i l[j]) := by unfold oset; rw [if_pos ⟨by omega, by omega⟩, Int.toNat_natCast]
      have o2 : oset (s.set i l[j]) (j : Int) l[i] = some ((s.set i l[j]).set j l[i]) := by unfold oset; rw [if_pos ⟨by omega, by simp; omega⟩, Int.toNat_natCast]
      simp only []
      rw [if_pos (by simpa using hij), need_pos (by simp; omega), e1, Option.bind_some, need_pos (by simp; omega), e2, Option.bind_some, need_pos (by simp; omega), o1, Option.bind_some, need_pos (by simp; omega), o2, Option.bind_some, wr_id (by omega) (by omega), wr_id (by omega) (by omega)]
      have ei : (i : Int) + 1 = ((i + 1 : Nat) : Int) := by omega
      have ej : (j : Int) - 1 = ((j - 1 : Nat) : Int) := by omega
      rw [ei, ej]
      refine revF_run l hl N (i + 1) (j - 1) _ (by omega) (by omega) (by omega) (by simp [hs]) fun k => ?_
      rw [List.getElem?_set, List.getElem?_set]
      by_cases hkj : j = k
      · subst hkj
        rw [if_pos rfl, if_pos (by simp; omega), if_pos (by omega), List.getElem?_reverse hj, show l.length - 1 - j = i by omega, List.getElem?_eq_getElem hi]
      · rw [if_neg hkj]
        by_cases hki : i = k
        · subst hki
          rw [if_pos rfl, if_pos (by omega), if_pos (by omega), List.getElem?_reverse hi, show l.length - 1 - i = j by omega, List.getElem?_eq_getElem hj]
        · rw [if_neg hki, hk]
          by_cases hc : k < i ∨ j < k
          · rw [if_pos hc, if_pos (by omega)]
          · rw [if_neg hc, if_neg (by omega)]
    · rw [if_neg (by simpa using hij)]
      congr 1
      refine List.ext_getElem? fun k => ?_
      rw [hk]
      by_cases hc : k < i ∨ j < k
      · rw [if_pos hc]
      · rw [if_neg hc, List.getElem?_reverse (by omega), show l.length - 1 - k = k by omega]
theorem s_Reverse (l : List T_Op) (hl : l.length ≤ 100000) : t_slices_Reverse_api_Op_api_Op l = some l.reverse := by
  unfold t_slices_Reverse_api_Op_api_Op
  rw [bind_some_id]
  by_cases h0 : l = []
  · subst h0
    obtain ⟨N, hN⟩ : ∃ m, bigN = m + 1 := ⟨bigN - 1, by have := bigN_gt; omega⟩
    rw [hN]
    rfl
  · have hp : 0 < l.length := List.length_pos_iff.2 h0
    rw [wr_id (by omega) (by omega)]
    have e : (l.length : Int) - 1 = ((l.length - 1 : Nat) : Int) := by omega
    rw [e]
    have hb : l.length + 3 ≤ bigN := by
      have := bigN_gt
      omega
    refine revF_run l hl bigN 0 (l.length - 1) l (by omega) (by omega) (by omega) rfl fun k => ?_
    by_cases hc : k < 0 ∨ l.length - 1 < k
    · rw [if_pos hc, List.getElem?_eq_none (by omega), List.getElem?_eq_none (by simp; omega)]
    · rw [if_neg hc]
theorem s_Turn (l : List T_Op) (hl : l.length ≤ 100000) : t_change_Turn l = some (turnL l) := by
  have hM : maxI = 9223372036854775807 := rfl
  unfold t_change_Turn
  have hc : cln l = some l := if_pos (by omega)
  rw [hc, Option.bind_some, s_Reverse l hl, Option.bind_some, bind_some_id, loopI_eq (by simp; omega)]
  unfold turnL
  generalize hr : l.reverse = r
  have : ∀ (m p : List T_Op), r = p ++ m → goI (fun (i19 : Int) x20 (s15 : (List T_Op)) k16 =>
      need (decide (0 ≤ i19) && decide (i19 < (List.length s15 : Int))) (
      (idx s15 i19).bind fun r29 =>
      need (decide (0 ≤ i19) && decide (i19 < (List.length s15 : Int))) (
      (oupd s15 i19 (fun a_ : T_Op => (T_Op.mk a_.Switch (!r29.Add) a_.Rule))).bind fun r36 =>
      k16 (r36)))) (fun (s15 : (List T_Op)) => some (s15)) (p.length : Int) m (p.map tog ++ m) = some ((p ++ m).map tog) := by
    intro m
    induction m with
    | nil => intro p _; simp [goI]
    | cons x m ih =>
      intro p hp
      have hx : idx (p.map tog ++ x :: m) (p.length : Int) = some x := by rw [idx_nat]; simp
      have hu : oupd (p.map tog ++ x :: m) (p.length : Int) (fun a_ : T_Op => (T_Op.mk a_.Switch (!x.Add) a_.Rule)) = some ((p ++ [x]).map tog ++ m) := by
        unfold oupd
        rw [hx, Option.map_some, Int.toNat_natCast]
        congr 1
        rw [List.set_append_right _ _ (by simp)]
        simp [tog]
      rw [goI, need_pos (by simp; omega), hx, Option.bind_some, need_pos (by simp; omega), hu, Option.bind_some]
      have := ih (p ++ [x]) (by rw [hp]; simp)
      simp only [List.length_append, List.length_singleton] at this
      have e : (p.length : Int) + 1 = ((p.length + 1 : Nat) : Int) := by omega
      rw [e]
      refine this.trans ?_
      simp
  exact this r [] rfl

/-- the table i of a net -/
def R (s : T_Net) (i : Nat) : List Rl := (s.Tables.getD i []).map rlOf
structure Eqv (a b : T_Net) : Prop where
  topo : a.Topo = b.Topo
  mem : ∀ i x, x ∈ R a i ↔ x ∈ R b i
theorem Eqv.refl (a : T_Net) : Eqv a a := ⟨rfl, fun _ _ => Iff.rfl⟩
theorem Eqv.trans {a b c : T_Net} (h : Eqv a b) (k : Eqv b c) : Eqv a c := ⟨h.topo.trans k.topo, fun i x => (h.mem i x).trans (k.mem i x)⟩
theorem NOk.tok {s : T_Net} (h : NOk s) {i : Nat} (hi : i < s.Tables.length) : Tok (R s i) := by
  unfold R
  rw [List.getD, List.getElem?_eq_getElem hi]
  exact h.tabs _ (List.getElem_mem hi)
theorem opF_in {s : T_Net} {x : T_Op} (h : opF s x = 0) (hs : NOk s) : 1 ≤ x.Switch ∧ x.Switch ≤ s.Topo.Switches ∧ (x.Switch - 1).toNat < s.Tables.length ∧ tdoF (R s (x.Switch - 1).toNat) x.Add (rlOf x.Rule) = 0 := by
  have hl := hs.len
  unfold opF at h
  split at h
  · cases h
  · rename_i hr
    exact ⟨by omega, by omega, by omega, h⟩
theorem R_set {s : T_Net} {k : Nat} (hk : k < s.Tables.length) {v : List T_Rule} {j : Nat} : R ⟨s.Topo, s.Tables.set k v⟩ j = if j = k then v.map rlOf else R s j := by
  unfold R
  simp only [List.getD]
  by_cases h : j = k
  · subst h
    rw [if_pos rfl, List.getElem?_set_self hk]; rfl
  · rw [if_neg h, List.getElem?_set_ne (by omega)]
theorem R_opR {s : T_Net} {x : T_Op} (hs : NOk s) (h : opF s x = 0) (j : Nat) : R (opR s x) j = if j = (x.Switch - 1).toNat then tdoR (R s (x.Switch - 1).toNat) x.Add (rlOf x.Rule) else R s j := by
  obtain ⟨h1, h2, h3, h4⟩ := opF_in h hs
  unfold opR
  rw [R_set h3]
  have : (doV (tabAt s x.Switch) x.Add x.Rule).map rlOf = tdoR (R s (x.Switch - 1).toNat) x.Add (rlOf x.Rule) := by
    unfold doV
    rw [List.map_map]
    refine (List.map_id _).trans ?_
    exact tdoV_ok h4
  rw [this]
theorem tdoF_cong {t u : List Rl} (ht : Tok t) (hu : Tok u) (h : ∀ x, x ∈ t ↔ x ∈ u) (add : Bool) (r : Rl) : tdoF t add r = tdoF u add r := by
  have hl : t.length = u.length := Nat.le_antisymm (nodup_len ht.nodup fun x hx => (h x).1 hx) (nodup_len hu.nodup fun x hx => (h x).2 hx)
  have hk : (t.any fun x => x.key r) = (u.any fun x => x.key r) := by
    rw [Bool.eq_iff_iff, List.any_eq_true, List.any_eq_true]
    constructor <;> rintro ⟨x, hx, e⟩
    · exact ⟨x, (h x).1 hx, e⟩
    · exact ⟨x, (h x).2 hx, e⟩
  unfold tdoF
  rw [tchk_iff.2 ht, tchk_iff.2 hu, any_mem, any_mem, hl, hk]
  have : decide (r ∈ t) = decide (r ∈ u) := by rw [decide_eq_decide]; exact h r
  rw [this]
theorem tdoF_mem {t : List Rl} {r : Rl} (h : tdoF t false r = 0) : Tok t ∧ r ∈ t := by
  unfold tdoF at h
  by_cases h1 : tchk t = 0
  · rw [if_neg (by simpa using h1)] at h
    by_cases h2 : r.chk = 0
    · rw [if_neg (by simpa using h2), if_neg (by simp), any_mem] at h
      by_cases h3 : r ∈ t
      · exact ⟨tchk_iff.1 h1, h3⟩
      · rw [if_neg (by simpa using h3)] at h; cases h
    · rw [if_pos h2] at h; exact absurd h h2
  · rw [if_pos h1] at h; exact absurd h h1
theorem tdoR_mem {t : List Rl} {add : Bool} {r : Rl} (h : tdoF t add r = 0) (x : Rl) : x ∈ tdoR t add r ↔ if add = true then x ∈ t ∨ x = r else x ∈ t ∧ x ≠ r := by
  cases add with
  | true =>
    rw [(tdoF_add (tdo_add_tok h)).2, if_pos rfl]
    simp
  | false =>
    obtain ⟨ht, hr⟩ := tdoF_mem h
    rw [(tdoF_del ht hr).2, if_neg (by simp), ht.nodup.mem_erase_iff]
    exact And.comm
theorem tdo_back {t : List Rl} {add : Bool} {r : Rl} (h : tdoF t add r = 0) : tdoF (tdoR t add r) (!add) r = 0 ∧ ∀ x, x ∈ tdoR (tdoR t add r) (!add) r ↔ x ∈ t := by
  cases add with
  | true =>
    obtain ⟨h1, h2, h3, _⟩ := back_two h
    rw [h1]
    exact ⟨h2, fun x => by rw [show (!true) = false from rfl, h3]⟩
  | false =>
    obtain ⟨ht, hr⟩ := tdoF_mem h
    rw [(tdoF_del ht hr).2]
    have hn : r ∉ t.erase r := fun h => (ht.nodup.mem_erase_iff.1 h).1 rfl
    have hk : Tok (t.erase r ++ [r]) := by
      refine ht.of_subset (List.nodup_append.2 ⟨ht.nodup.sublist List.erase_sublist, by simp, fun a ha b hb e => ?_⟩) fun x hx => ?_
      · simp at hb; subst hb; subst e; exact hn ha
      · rcases List.mem_append.1 hx with hx | hx
        · exact List.mem_of_mem_erase hx
        · simp at hx; subst hx; exact hr
    obtain ⟨h1, h2⟩ := tdoF_add hk
    refine ⟨h1, fun x => ?_⟩
    rw [show (!false) = true from rfl, h2, List.mem_append, ht.nodup.mem_erase_iff]
    constructor
    · rintro (h | h)
      · exact h.2
      · simp at h; subst h; exact hr
    · intro hx
      by_cases e : x = r
      · exact .inr (by simp [e])
      · exact .inl ⟨e, hx⟩
theorem lens {a b : T_Net} (ha : NOk a) (hb : NOk b) (h : a.Topo = b.Topo) : a.Tables.length = b.Tables.length := by
  have h1 := ha.len
  have h2 := hb.len
  rw [h] at h1
  omega
theorem op_cong {a b : T_Net} (ha : NOk a) (hb : NOk b) (h : Eqv a b) (x : T_Op) : opF a x = opF b x ∧ (opF a x = 0 → Eqv (opR a x) (opR b x)) := by
  have hl := lens ha hb h.topo
  have h1 : opF a x = opF b x := by
    unfold opF
    rw [h.topo]
    by_cases hr : x.Switch < 1 ∨ b.Topo.Switches < x.Switch
    · rw [if_pos hr, if_pos hr]
    · rw [if_neg hr, if_neg hr]
      have hbl := hb.len
      have hk : (x.Switch - 1).toNat < b.Tables.length := by omega
      exact tdoF_cong (ha.tok (by omega)) (hb.tok hk) (h.mem _) x.Add (rlOf x.Rule)
  refine ⟨h1, fun h0 => ⟨h.topo, fun i y => ?_⟩⟩
  have h0' : opF b x = 0 := by rw [← h1]; exact h0
  rw [R_opR ha h0, R_opR hb h0']
  by_cases hi : i = (x.Switch - 1).toNat
  · rw [if_pos hi, if_pos hi, tdoR_mem (opF_in h0 ha).2.2.2, tdoR_mem (opF_in h0' hb).2.2.2, h.mem]
  · rw [if_neg hi, if_neg hi]; exact h.mem i y
theorem op_back {s : T_Net} (hs : NOk s) {x : T_Op} (h : opF s x = 0) : opF (opR s x) (tog x) = 0 ∧ Eqv (opR (opR s x) (tog x)) s := by
  obtain ⟨h1, h2, h3, h4⟩ := opF_in h hs
  obtain ⟨b1, b2⟩ := tdo_back h4
  have hk := opR_ok hs h
  have hR := R_opR hs h (x.Switch - 1).toNat
  rw [if_pos rfl] at hR
  have hf : opF (opR s x) (tog x) = 0 := by
    unfold opF
    rw [if_neg (by show ¬ (x.Switch < 1 ∨ s.Topo.Switches < x.Switch); omega)]
    show tdoF (R (opR s x) (x.Switch - 1).toNat) (!x.Add) (rlOf x.Rule) = 0
    rw [hR]; exact b1
  refine ⟨hf, rfl, fun i y => ?_⟩
  rw [R_opR hk hf]
  show y ∈ (if i = (x.Switch - 1).toNat then tdoR (R (opR s x) (x.Switch - 1).toNat) (!x.Add) (rlOf x.Rule) else R (opR s x) i) ↔ _
  by_cases hi : i = (x.Switch - 1).toNat
  · rw [if_pos hi, hR, b2, hi]
  · rw [if_neg hi, R_opR hs h, if_neg hi]
theorem appL_cong : ∀ (l : List T_Op) {a b : T_Net}, NOk a → NOk b → Eqv a b → (appL l a).2 = (appL l b).2 ∧ ((appL l a).2 = 0 → Eqv (appL l a).1 (appL l b).1)
  | [], a, b, _, _, h => ⟨rfl, fun _ => h⟩
  | x :: l, a, b, ha, hb, h => by
    obtain ⟨h1, h2⟩ := op_cong ha hb h x
    unfold appL
    by_cases h0 : opF a x = 0
    · have h0' : opF b x = 0 := by rw [← h1]; exact h0
      rw [if_neg (by simpa using h0), if_neg (by simpa using h0')]
      exact appL_cong l (opR_ok ha h0) (opR_ok hb h0') (h2 h0)
    · rw [if_pos h0, if_pos (by rw [← h1]; exact h0), h1]
      exact ⟨rfl, fun h => absurd (h1.trans h) h0⟩
/-- turned, and done again -/
theorem appL_back : ∀ (l : List T_Op) {s : T_Net}, NOk s → (appL l s).2 = 0 → (appL (turnL l) (appL l s).1).2 = 0 ∧ Eqv (appL (turnL l) (appL l s).1).1 s
  | [], s, _, _ => ⟨rfl, Eqv.refl s⟩
  | x :: l, s, hs, h => by
    have h0 : opF s x = 0 := by
      by_cases h0 : opF s x = 0
      · exact h0
      · unfold appL at h
        rw [if_pos h0] at h
        exact absurd h h0
    have e : appL (x :: l) s = appL l (opR s x) := by
      show (if opF s x ≠ 0 then (nilNet, opF s x) else appL l (opR s x)) = _
      rw [if_neg (by simpa using h0)]
    rw [e] at h ⊢
    have hk := opR_ok hs h0
    obtain ⟨i1, i2⟩ := appL_back l hk h
    have ht : turnL (x :: l) = turnL l ++ [tog x] := by simp [turnL]
    rw [ht, appL_append _ _ _ i1]
    have hX := (appL_ok l hk h).1
    have hY := (appL_ok _ hX i1).1
    obtain ⟨b1, b2⟩ := op_back hs h0
    obtain ⟨c1, c2⟩ := op_cong hY hk i2 (tog x)
    have hf : opF (appL (turnL l) (appL l (opR s x)).1).1 (tog x) = 0 := c1.trans b1
    have e2 : appL [tog x] (appL (turnL l) (appL l (opR s x)).1).1 = (opR (appL (turnL l) (appL l (opR s x)).1).1 (tog x), 0) := by
      show (if opF _ (tog x) ≠ 0 then _ else _) = _
      rw [if_neg (by simpa using hf)]; rfl
    rw [e2]
    exact ⟨rfl, (c2 hf).trans b2⟩

def setSw (i : Nat) (o : T_Op) : T_Op := T_Op.mk ((i : Int) + 1) o.Add o.Rule
def diffAll : List (List T_Rule) → List (List T_Rule) → Nat → List T_Op
  | [], _, _ => []
  | t :: ts, us, i => (diffV t (us.getD i [])).map (setSw i) ++ diffAll ts us (i + 1)
theorem diffE_ok {t u : List T_Rule} (ht : Tok (t.map rlOf)) (hu : Tok (u.map rlOf)) : diffE t u = 0 := t2chk_of ht hu
theorem diffV_ok {t u : List T_Rule} (ht : Tok (t.map rlOf)) (hu : Tok (u.map rlOf)) : (diffV t u).map opOf = tdiff (t.map rlOf) (u.map rlOf) := by
  unfold diffV
  rw [if_pos (diffE_ok ht hu), List.map_map]; exact List.map_id _
theorem diffV_len {t u : List T_Rule} (ht : Tok (t.map rlOf)) (hu : Tok (u.map rlOf)) : (diffV t u).length ≤ 24 := by
  have h := congrArg List.length (diffV_ok ht hu)
  rw [List.length_map] at h
  rw [h]
  unfold tdiff
  rw [List.length_append]
  have h1 := lacks_le (t.map rlOf) (u.map rlOf) false
  have h2 := lacks_le (u.map rlOf) (t.map rlOf) true
  have h3 := ht.len
  have h4 := hu.len
  omega
theorem app_go (i : Nat) {fin : List T_Op → Option (List T_Op)} (hf : ∀ s, fin s = some s) : ∀ (l : List T_Op) (j : Int) (s : List T_Op), s.length + l.length ≤ 4294967296 → goI (fun (i53 : Int) x54 (s49 : (List T_Op)) k50 =>
     (app s49 ([(T_Op.mk ((i : Int) + 1) x54.Add x54.Rule)] : (List T_Op))).bind fun r67 => k50 (r67)) fin j l s = some (s ++ l.map (setSw i))
  | [], j, s, _ => by rw [goI, hf]; simp
  | x :: l, j, s, h => by
    simp only [List.length_cons] at h
    rw [goI, app_eq (by simp; omega), Option.bind_some]
    refine (app_go i hf l (j + 1) _ (by simp; omega)).trans ?_
    simp [setSw]
theorem s_cdiff {a b : T_Net} (ha : NOk a) (hb : NOk b) (hl : a.Tables.length = b.Tables.length) : t_change_diff a b = some (diffAll a.Tables b.Tables 0, 0) := by
  have hM : maxI = 9223372036854775807 := rfl
  have h1 := ha.sw
  have h2 := ha.len
  unfold t_change_diff
  rw [join_eq, loopI_eq (by omega)]
  have : ∀ (l p : List (List T_Rule)) (s : List T_Op), a.Tables = p ++ l → s.length + 24 * l.length ≤ 10000 → goI (fun (i16 : Int) x17 (s12 : (List T_Op)) k13 =>
     join (fun (s24 : (List T_Op)) => k13 (s24)) fun j25 =>
     (idx b.Tables i16).bind fun r33 =>
     (t_table_Diff x17 r33).bind fun r36 =>
     if (!decide (r36.2 = 0)) = true then (some ([], r36.2)) else (
     (loopI r36.1 (fun (i53 : Int) x54 (s49 : (List T_Op)) k50 =>
     (app s49 ([(T_Op.mk (i16 + 1) x54.Add x54.Rule)] : (List T_Op))).bind fun r67 => k50 (r67)) (fun (s49 : (List T_Op)) => some (s49)) (s12)).bind fun (s44 : (List T_Op)) =>
     j25 (s44))) (fun (s12 : (List T_Op)) => some (s12, (0 : Int))) (p.length : Int) l s = some (s ++ diffAll l b.Tables p.length, 0) := by
    intro l
    induction l with
    | nil => intro p s _ _; simp [goI, diffAll]
    | cons t l ih =>
      intro p s hp hs
      simp only [List.length_cons] at hs
      have hpl : p.length < a.Tables.length := by rw [hp]; simp
      have hb' : p.length < b.Tables.length := by omega
      have hx : idx b.Tables (p.length : Int) = some (b.Tables.getD p.length []) := by rw [idx_nat, List.getD, List.getElem?_eq_getElem hb']; rfl
      have ht : Tok (t.map rlOf) := ha.tabs t (by rw [hp]; simp)
      have hu : Tok ((b.Tables.getD p.length []).map rlOf) := hb.tok hb'
      generalize hu' : b.Tables.getD p.length [] = u at hx hu
      have hd := diffV_len ht hu
      rw [goI, join_eq, hx, Option.bind_some]
      unfold t_table_Diff
      rw [Option.bind_some]
      simp only []
      rw [diffE_ok ht hu, if_neg (by simp), loopI_eq (by omega), app_go p.length (fun _ => rfl) _ 0 s (by omega), Option.bind_some]
      have := ih (p ++ [t]) (s ++ (diffV t u).map (setSw p.length)) (by rw [hp]; simp) (by rw [List.length_append, List.length_map]; omega)
      simp only [List.length_append, List.length_singleton] at this
      have e : (p.length : Int) + 1 = ((p.length + 1 : Nat) : Int) := by omega
      rw [e]
      refine this.trans ?_
      rw [diffAll, hu', List.append_assoc]
  have := this a.Tables [] [] rfl (by simp; omega)
  simpa using this
theorem diffAll_len : ∀ (ts us : List (List T_Rule)) (i : Nat), (∀ t ∈ ts, Tok (t.map rlOf)) → (∀ j, i ≤ j → j < i + ts.length → Tok ((us.getD j []).map rlOf)) → (diffAll ts us i).length ≤ 24 * ts.length
  | [], _, _, _, _ => by simp [diffAll]
  | t :: ts, us, i, h1, h2 => by
    have := diffAll_len ts us (i + 1) (fun t ht => h1 t (by simp [ht])) (fun j hj hj2 => h2 j (by omega) (by simp only [List.length_cons]; omega))
    have h3 := diffV_len (h1 t (by simp)) (h2 i (Nat.le_refl _) (by simp))
    rw [diffAll, List.length_append, List.length_map, List.length_cons]
    omega
/-- ops of one switch -/
theorem appL_sw : ∀ (q : List T_Op) {s : T_Net} {i : Nat}, NOk s → i < s.Tables.length → tallF (R s i) (q.map opOf) = 0 →
    (appL (q.map (setSw i)) s).2 = 0 ∧ R (appL (q.map (setSw i)) s).1 i = tallR (R s i) (q.map opOf) ∧ ∀ j, j ≠ i → R (appL (q.map (setSw i)) s).1 j = R s j
  | [], s, i, _, _, _ => ⟨rfl, rfl, fun _ _ => rfl⟩
  | x :: q, s, i, hs, hi, h => by
    have hl := hs.len
    replace h : (if tdoF (R s i) x.Add (rlOf x.Rule) ≠ 0 then tdoF (R s i) x.Add (rlOf x.Rule) else tallF (tdoR (R s i) x.Add (rlOf x.Rule)) (q.map opOf)) = 0 := h
    have hd : tdoF (R s i) x.Add (rlOf x.Rule) = 0 := by
      by_cases hd : tdoF (R s i) x.Add (rlOf x.Rule) = 0
      · exact hd
      · rw [if_pos hd] at h; exact absurd h hd
    have h' : tallF (tdoR (R s i) x.Add (rlOf x.Rule)) (q.map opOf) = 0 := by
      rw [if_neg (show ¬ tdoF (R s i) x.Add (rlOf x.Rule) ≠ 0 by simpa using hd)] at h
      exact h
    have hk : ((setSw i x).Switch - 1).toNat = i := by show (((i : Int) + 1) - 1).toNat = i; omega
    have hf : opF s (setSw i x) = 0 := by
      unfold opF
      rw [if_neg (by show ¬ ((i : Int) + 1 < 1 ∨ s.Topo.Switches < (i : Int) + 1); omega)]
      show tdoF (R s ((setSw i x).Switch - 1).toNat) x.Add (rlOf x.Rule) = 0
      rw [hk]; exact hd
    have hR : ∀ j, R (opR s (setSw i x)) j = if j = i then tdoR (R s i) x.Add (rlOf x.Rule) else R s j := fun j => by
      rw [R_opR hs hf, hk]; rfl
    have hn : (opR s (setSw i x)).Tables.length = s.Tables.length := by
      show (s.Tables.set _ _).length = _
      rw [List.length_set]
    have hRi := hR i
    rw [if_pos rfl] at hRi
    obtain ⟨a1, a2, a3⟩ := appL_sw q (opR_ok hs hf) (by rw [hn]; exact hi) (by rw [hRi]; exact h')
    have e : appL ((x :: q).map (setSw i)) s = appL (q.map (setSw i)) (opR s (setSw i x)) := by
      rw [List.map_cons]
      show (if opF s (setSw i x) ≠ 0 then _ else _) = _
      rw [if_neg (by simpa using hf)]
    rw [e]
    refine ⟨a1, ?_, fun j hj => ?_⟩
    · rw [a2, hRi]; rfl
    · rw [a3 j hj, hR, if_neg hj]
/-- what is between: done, it is the other one -/
theorem appL_diff {us : List (List T_Rule)} : ∀ (ts : List (List T_Rule)) (i : Nat) {s : T_Net}, NOk s → i + ts.length = s.Tables.length → (∀ k, k < ts.length → R s (i + k) = (ts.getD k []).map rlOf) → (∀ j, j < s.Tables.length → Tok ((us.getD j []).map rlOf)) →
    (appL (diffAll ts us i) s).2 = 0 ∧ (∀ j, i ≤ j → j < s.Tables.length → ∀ x, x ∈ R (appL (diffAll ts us i) s).1 j ↔ x ∈ (us.getD j []).map rlOf) ∧ ∀ j, j < i → R (appL (diffAll ts us i) s).1 j = R s j
  | [], i, s, _, hl, _, _ => ⟨rfl, fun j h1 h2 => absurd h2 (by simp at hl; omega), fun _ _ => rfl⟩
  | t :: ts, i, s, hs, hl, hR, hu => by
    simp only [List.length_cons] at hl
    have hi : i < s.Tables.length := by omega
    have h0 := hR 0 (by simp)
    have h0 : R s i = t.map rlOf := by simpa using h0
    have ht : Tok (t.map rlOf) := by rw [← h0]; exact hs.tok hi
    have hui := hu i hi
    generalize hu' : us.getD i [] = u at hui
    obtain ⟨d1, d2⟩ := tdiff_all ht hui
    obtain ⟨a1, a2, a3⟩ := appL_sw (diffV t u) hs hi (by rw [h0, diffV_ok ht hui]; exact d1)
    obtain ⟨k1, k2⟩ := appL_ok _ hs a1
    rw [diffAll, hu', appL_append _ _ _ a1]
    generalize (appL ((diffV t u).map (setSw i)) s).1 = X at a2 a3 k1 k2
    have hn : X.Tables.length = s.Tables.length := lens k1 hs k2
    obtain ⟨b1, b2, b3⟩ := appL_diff ts (i + 1) (s := X) k1 (by omega) (fun k hk => by
      rw [a3 _ (by omega)]
      have := hR (k + 1) (by simp only [List.length_cons]; omega)
      rw [show i + 1 + k = i + (k + 1) by omega, this]; rfl) (fun j hj => hu j (by omega))
    refine ⟨b1, fun j h1 h2 x => ?_, fun j hj => ?_⟩
    · by_cases e : j = i
      · subst e
        rw [b3 j (by omega), a2, h0, diffV_ok ht hui, d2, hu']
        exact between_mem
      · exact b2 j (by omega) (by omega) x
    · rw [b3 j (by omega), a3 j (by omega)]
theorem diffAll_nil : ∀ (ts us : List (List T_Rule)) (i : Nat), (∀ t ∈ ts, Tok (t.map rlOf)) → (∀ j, i ≤ j → j < i + ts.length → Tok ((us.getD j []).map rlOf)) → (∀ k, k < ts.length → ∀ x, x ∈ (ts.getD k []).map rlOf ↔ x ∈ (us.getD (i + k) []).map rlOf) → diffAll ts us i = []
  | [], _, _, _, _, _ => rfl
  | t :: ts, us, i, h1, h2, h3 => by
    have h0 := h3 0 (by simp)
    have hd := diffV_ok (h1 t (by simp)) (h2 i (Nat.le_refl _) (by simp))
    rw [tdiff_nil.2 (by simpa using h0)] at hd
    rw [diffAll, List.map_eq_nil_iff.1 hd, diffAll_nil ts us (i + 1) (fun t ht => h1 t (by simp [ht])) (fun j hj hj2 => h2 j (by omega) (by simp only [List.length_cons]; omega)) (fun k hk x => by
      have := h3 (k + 1) (by simp only [List.length_cons]; omega) x
      rw [show i + 1 + k = i + (k + 1) by omega]; exact this)]
    rfl
theorem eq_go {α : Type} [DecidableEq α] (b : List α) : ∀ (l : List α) (i : Nat), i + l.length = b.length → goI (fun (i17 : Int) x18 (s13 : Unit) k14 => (idx b i17).bind fun r26 => if (!decide (x18 = r26)) = true then (some false) else (k14 ())) (fun _ => some true) (i : Int) l () = some (decide (l = b.drop i))
  | [], i, h => by
    rw [List.drop_eq_nil_of_le (by simp at h; omega)]
    simp [goI]
  | x :: l, i, h => by
    simp only [List.length_cons] at h
    have hi : i < b.length := by omega
    rw [goI, idx_nat, List.getElem?_eq_getElem hi, Option.bind_some, List.drop_eq_getElem_cons hi]
    have e : (i : Int) + 1 = ((i + 1 : Nat) : Int) := by omega
    rw [e]
    have ih := eq_go b l (i + 1) (by omega)
    by_cases hx : x = b[i]
    · rw [if_neg (by simpa using hx)]
      refine ih.trans ?_
      simp only [List.cons.injEq, hx, true_and]
    · rw [if_pos (by simpa using hx)]
      simp only [List.cons.injEq, hx, false_and, decide_false]
theorem s_EqLink (a b : List T_Link) (h : (a.length : Int) ≤ maxI) : t_slices_Equal_api_Link_api_Link a b = some (decide (a = b)) := by
  unfold t_slices_Equal_api_Link_api_Link
  by_cases hl : a.length = b.length
  · rw [if_neg (by simp [hl]), join_eq, loopI_eq h]
    have := eq_go b a 0 (by omega)
    simpa using this
  · rw [if_pos (by simp; omega)]
    have : a ≠ b := fun e => hl (by rw [e])
    simp [this]
theorem s_EqHost (a b : List T_Host) (h : (a.length : Int) ≤ maxI) : t_slices_Equal_api_Host_api_Host a b = some (decide (a = b)) := by
  unfold t_slices_Equal_api_Host_api_Host
  by_cases hl : a.length = b.length
  · rw [if_neg (by simp [hl]), join_eq, loopI_eq h]
    have := eq_go b a 0 (by omega)
    simpa using this
  · rw [if_pos (by simp; omega)]
    have : a ≠ b := fun e => hl (by rw [e])
    simp [this]
theorem s_Alike {a b : T_Net} (ha : NOk a) : ∃ v, t_change_Alike a b = some v ∧ (v = true ↔ a.Topo = b.Topo) := by
  have hM : maxI = 9223372036854775807 := rfl
  have h1 := ha.nl
  have h2 := ha.nh
  have he : a.Topo = b.Topo ↔ a.Topo.Switches = b.Topo.Switches ∧ a.Topo.Links = b.Topo.Links ∧ a.Topo.Hosts = b.Topo.Hosts := by
    cases a.Topo; cases b.Topo; simp
  unfold t_change_Alike
  rw [s_EqLink _ _ (by omega), s_EqHost _ _ (by omega)]
  refine ⟨decide (a.Topo.Switches = b.Topo.Switches) && decide (a.Topo.Links = b.Topo.Links) && decide (a.Topo.Hosts = b.Topo.Hosts), ?_, by rw [he]; simp [and_assoc]⟩
  by_cases c1 : a.Topo.Switches = b.Topo.Switches
  · by_cases c2 : a.Topo.Links = b.Topo.Links
    · by_cases c3 : a.Topo.Hosts = b.Topo.Hosts <;> simp [he, c1, c2, c3, gd_true]
    · simp [he, c1, c2, gd_true, gd_false]
  · simp [he, c1, gd_false]
/-- nets that are alike in all are the same -/
theorem s_SameT {a b : T_Net} (ha : NOk a) (hb : NOk b) (h : Eqv a b) (na : ∀ h ∈ a.Topo.Hosts, (h.Name.size : Int) ≤ maxI) : t_change_Same a b = some (true, 0) := by
  have hl := lens ha hb h.topo
  unfold t_change_Same t_change_both
  rw [(netCheck_ok na).2 ha, Option.bind_some, if_neg (by simp), (netCheck_ok (by rw [← h.topo]; exact na)).2 hb]
  simp only [Option.bind_some]
  obtain ⟨v, v1, v2⟩ := s_Alike (b := b) ha
  obtain rfl := v2.2 h.topo
  rw [if_neg (by simp), v1, Option.bind_some, if_neg (by simp), s_cdiff ha hb hl, Option.bind_some]
  have : diffAll a.Tables b.Tables 0 = [] := diffAll_nil _ _ _ (fun t ht => ha.tabs t ht) (fun j _ hj => hb.tok (by omega)) (fun k hk x => by
    have := h.mem k x
    rw [Nat.zero_add]; exact this)
  rw [this]; rfl
theorem s_Diff {a b : T_Net} (na : ∀ h ∈ a.Topo.Hosts, (h.Name.size : Int) ≤ maxI) (nb : ∀ h ∈ b.Topo.Hosts, (h.Name.size : Int) ≤ maxI) :
    (∃ e, e ≠ 0 ∧ t_change_Diff a b = some ([], e)) ∨ (NOk a ∧ NOk b ∧ a.Topo = b.Topo ∧ t_change_Diff a b = some (diffAll a.Tables b.Tables 0, 0)) := by
  obtain ⟨c, h1, _⟩ := s_netCheck a na
  obtain ⟨d, h2, _⟩ := s_netCheck b nb
  unfold t_change_Diff t_change_both
  rw [h1, h2]
  simp only [Option.bind_some]
  by_cases hc : c = 0
  · by_cases hd : d = 0
    · subst hc
      subst hd
      have ha := (netCheck_ok na).1 h1
      have hb := (netCheck_ok nb).1 h2
      simp only [decide_true, Bool.not_true, Bool.false_eq_true, if_false, Option.bind_some]
      obtain ⟨v, v1, v2⟩ := s_Alike (b := b) ha
      rw [v1, Option.bind_some]
      cases v with
      | true =>
        right
        have he := v2.1 rfl
        rw [if_neg (by simp), s_cdiff ha hb (lens ha hb he)]
        exact ⟨ha, hb, he, rfl⟩
      | false =>
        left
        exact ⟨3, by decide, if_pos rfl⟩
    · left
      refine ⟨d, hd, ?_⟩
      rw [if_neg (by simp [hc]), Option.bind_some, if_pos (by simp [hd])]
  · left
    refine ⟨c, hc, ?_⟩
    rw [if_pos (by simp [hc]), Option.bind_some, if_pos (by simp [hc])]

theorem fact_back : t_change_Apply (T_Net.mk (T_Topo.mk 1 [] []) [[]]) [T_Op.mk 1 true (T_Rule.mk 2 (T_Cube.mk 0 0) 1 0 0)] = some (T_Net.mk (T_Topo.mk 1 [] []) [[T_Rule.mk 2 (T_Cube.mk 0 0) 1 0 0]], 0) := by kernel_rfl
theorem walk_ChangeBack (a0 a1 : T_Net) (a2 : List T_Op) (u0 : a0.wf maxLen) (u1 : a1.wf maxLen) (u2 : wL maxLen (fun x => x.wf maxLen) a2) : t_raillaw1_ChangeBack a0 a1 a2 = some true := by
  have hM : maxI = 9223372036854775807 := rfl
  have hML : maxLen = 9223372036854775807 := rfl
  have na : ∀ h ∈ a0.Topo.Hosts, (h.Name.size : Int) ≤ maxI := fun h hh => by
    have := (u0.1.2.2.2 h hh).1
    unfold wS at this; omega
  have nb : ∀ h ∈ a1.Topo.Hosts, (h.Name.size : Int) ≤ maxI := fun h hh => by
    have := (u1.1.2.2.2 h hh).1
    unfold wS at this; omega
  unfold t_raillaw1_ChangeBack
  rw [fact_back, Option.bind_some]
  have f1 : decide (((List.length [[(T_Rule.mk 2 (T_Cube.mk 0 0) 1 0 0)]] : Nat) : Int) ≠ 1) = false := rfl
  have f2 : decide (((List.length [(T_Rule.mk 2 (T_Cube.mk 0 0) 1 0 0)] : Nat) : Int) ≠ 1) = false := rfl
  simp only [decide_true, Bool.not_true, Bool.false_or, f1, Bool.not_false, gd_true, show idx [[(T_Rule.mk 2 (T_Cube.mk 0 0) 1 0 0)]] 0 = some [(T_Rule.mk 2 (T_Cube.mk 0 0) 1 0 0)] from rfl, Option.bind_some, f2, Bool.false_eq_true, if_false, join_eq]
  -- turned, and done again
  have turned : ∀ (l : List T_Op), l.length ≤ 200 → NOk a0 → (appL l a0).2 = 0 → ∃ y, t_change_Turn l = some (turnL l) ∧ t_change_Apply (appL l a0).1 (turnL l) = some (y, 0) ∧ t_change_Same y a0 = some (true, 0) := fun l hl hk h => by
    obtain ⟨k1, k2⟩ := appL_ok l hk h
    obtain ⟨b1, b2⟩ := appL_back l hk h
    have n1 : ∀ h ∈ (appL l a0).1.Topo.Hosts, (h.Name.size : Int) ≤ maxI := by rw [k2]; exact na
    have k3 := (appL_ok _ k1 b1).1
    refine ⟨(appL (turnL l) (appL l a0).1).1, s_Turn l (by omega), ?_, s_SameT k3 hk b2 (by rw [b2.topo]; exact na)⟩
    rw [s_Apply_ok n1 k1 (by simp [turnL]; omega), ← b1]
  have rest : (t_change_Apply a0 a2).bind (fun r72 =>
     if (!decide (r72.2 = 0)) = true then (some true) else (
     (t_change_Turn a2).bind fun r80 =>
     (t_change_Apply r72.1 r80).bind fun r82 =>
     (t_change_Same r82.1 a0).bind fun r89 =>
     some (((decide (r82.2 = 0)) && (decide (r89.2 = 0))) && r89.1))) = some true := by
    obtain ⟨c, h1, h2, h3⟩ := s_Apply a0 a2 na
    rw [h3, Option.bind_some]
    by_cases h0 : c = 0
    · rw [if_neg (show ¬ c ≠ 0 by simpa using h0)]
      by_cases hl : 200 < a2.length
      · rw [if_pos hl, if_pos (by simp)]
      · rw [if_neg hl]
        by_cases he : (appL a2 a0).2 = 0
        · obtain ⟨y, y1, y2, y3⟩ := turned a2 (by omega) (h2.1 h0) he
          rw [if_neg (by simp [he]), y1, Option.bind_some, y2, Option.bind_some, y3]; rfl
        · rw [if_pos (by simp [he])]
    · rw [if_pos h0, if_pos (by simp [h0])]
  rcases s_Diff na nb with ⟨e, e0, hd⟩ | ⟨ha, hb, ht, hd⟩
  · rw [hd, Option.bind_some, if_neg (by simp [e0])]
    exact rest
  · have hlen := lens ha hb ht
    have hsw := ha.sw
    have hln := ha.len
    have hD := diffAll_len a0.Tables a1.Tables 0 (fun t ht => ha.tabs t ht) (fun j _ hj => hb.tok (by omega))
    obtain ⟨d1, d2, -⟩ := appL_diff (us := a1.Tables) a0.Tables 0 ha (by omega) (fun k _ => by rw [Nat.zero_add]; rfl) (fun j hj => hb.tok (by omega))
    obtain ⟨k1, k2⟩ := appL_ok _ ha d1
    rw [hd, Option.bind_some]
    generalize diffAll a0.Tables a1.Tables 0 = D at hD d1 d2 k1 k2
    have hDl : D.length ≤ 200 := by omega
    rw [if_pos (by simp; omega), s_Apply_ok na ha hDl, Option.bind_some]
    have hE : Eqv (appL D a0).1 a1 := by
      refine ⟨k2.trans ht, fun i x => ?_⟩
      have hl1 := lens k1 ha k2
      by_cases hi : i < a0.Tables.length
      · exact d2 i (Nat.zero_le _) hi x
      · have e1 : R (appL D a0).1 i = [] := by
          unfold R
          rw [List.getD, List.getElem?_eq_none (by omega)]; rfl
        have e2 : R a1 i = [] := by
          unfold R
          rw [List.getD, List.getElem?_eq_none (by omega)]; rfl
        rw [e1, e2]
    obtain ⟨y, y1, y2, y3⟩ := turned D hDl ha d1
    rw [s_SameT k1 hb hE (by rw [k2]; exact na), Option.bind_some, y1, Option.bind_some, y2, Option.bind_some, y3, Option.bind_some, d1, if_neg (by simp)]
    exact rest
end Go.Proofs.Ytpkcdfgjcodidaa.Ty
