/- ChangeParts, as it is read: no memory in sight. -/
import Derived.Test.YtedgcbcphlonpaaSChk
import Derived.Test.YtedgcbcphlonpaaDoTy
import Derived.Test.YtedgcbcphlonpaaTablePlain
namespace Go.Proofs.Ytedgcbcphlonpaa.Ty
open Go Go.RowKit Go.Proofs.Ytedgcbcphlonpaa Go.Proofs.Ytedgcbcphlonpaa.Den
set_option linter.unusedSimpArgs false
set_option linter.unusedVariables false
set_option maxRecDepth 100000

theorem s_cubeCheckV (c : T_Cube) : t_cube_Check c = some (cchk c.Mask c.Bits) := by
  unfold t_cube_Check cchk t_cube_Header
  by_cases h1 : 0 ≤ c.Mask ∧ c.Mask < 16
  · by_cases h2 : 0 ≤ c.Bits ∧ c.Bits < 16
    · by_cases h3 : bits .andNot .i64 c.Bits c.Mask = 0 <;> simp [h1, h2, h3, gd_true]
    · have : ¬ (0 ≤ c.Bits) ∨ ¬ (c.Bits < 16) := by omega
      rcases this with h | h <;> simp [h1, h2, h, gd_true]
  · have : ¬ (0 ≤ c.Mask) ∨ ¬ (c.Mask < 16) := by omega
    rcases this with h | h <;> simp [h1, h, gd_false]
theorem s_ruleCheckV (r : T_Rule) : t_rule_Check r = some (rlOf r).chk := by
  unfold t_rule_Check Rl.chk rchk t_cube_Header
  rw [s_cubeCheckV]
  show _ = some (if 0 ≤ r.Prio ∧ r.Prio ≤ 99 ∧ 0 ≤ r.Out ∧ r.Out ≤ 4 ∧ (0 ≤ r.Set ∧ r.Set < 16) ∧ (0 ≤ r.Value ∧ r.Value < 16) then (if cchk r.Cube.Mask r.Cube.Bits = 0 then (if bits .andNot .i64 r.Value r.Set = 0 ∧ ¬ (r.Out = 0 ∧ r.Set ≠ 0) then 0 else 3) else cchk r.Cube.Mask r.Cube.Bits) else 1)
  have hR1 : (0 ≤ r.Prio ∧ r.Prio ≤ 99 ∧ 0 ≤ r.Out ∧ r.Out ≤ 4 ∧ (0 ≤ r.Set ∧ r.Set < 16) ∧ (0 ≤ r.Value ∧ r.Value < 16)) → (if 0 ≤ r.Prio ∧ r.Prio ≤ 99 ∧ 0 ≤ r.Out ∧ r.Out ≤ 4 ∧ (0 ≤ r.Set ∧ r.Set < 16) ∧ (0 ≤ r.Value ∧ r.Value < 16) then (if cchk r.Cube.Mask r.Cube.Bits = 0 then (if bits .andNot .i64 r.Value r.Set = 0 ∧ ¬ (r.Out = 0 ∧ r.Set ≠ 0) then 0 else 3) else cchk r.Cube.Mask r.Cube.Bits) else 1) = (if cchk r.Cube.Mask r.Cube.Bits = 0 then (if bits .andNot .i64 r.Value r.Set = 0 ∧ ¬ (r.Out = 0 ∧ r.Set ≠ 0) then 0 else 3) else cchk r.Cube.Mask r.Cube.Bits) := fun h => if_pos h
  have hR0 : ¬ (0 ≤ r.Prio ∧ r.Prio ≤ 99 ∧ 0 ≤ r.Out ∧ r.Out ≤ 4 ∧ (0 ≤ r.Set ∧ r.Set < 16) ∧ (0 ≤ r.Value ∧ r.Value < 16)) → (if 0 ≤ r.Prio ∧ r.Prio ≤ 99 ∧ 0 ≤ r.Out ∧ r.Out ≤ 4 ∧ (0 ≤ r.Set ∧ r.Set < 16) ∧ (0 ≤ r.Value ∧ r.Value < 16) then (if cchk r.Cube.Mask r.Cube.Bits = 0 then (if bits .andNot .i64 r.Value r.Set = 0 ∧ ¬ (r.Out = 0 ∧ r.Set ≠ 0) then 0 else 3) else cchk r.Cube.Mask r.Cube.Bits) else 1) = 1 := fun h => if_neg h
  generalize (if 0 ≤ r.Prio ∧ r.Prio ≤ 99 ∧ 0 ≤ r.Out ∧ r.Out ≤ 4 ∧ (0 ≤ r.Set ∧ r.Set < 16) ∧ (0 ≤ r.Value ∧ r.Value < 16) then (if cchk r.Cube.Mask r.Cube.Bits = 0 then (if bits .andNot .i64 r.Value r.Set = 0 ∧ ¬ (r.Out = 0 ∧ r.Set ≠ 0) then 0 else 3) else cchk r.Cube.Mask r.Cube.Bits) else 1) = R at hR1 hR0
  cases hA : (((decide (r.Prio < 0) || decide (99 < r.Prio)) || decide (r.Out < 0)) || decide (4 < r.Out)) with
  | true =>
    rw [hR0 (by simp only [Bool.or_eq_true, decide_eq_true_eq] at hA; omega)]
    simp [gd]
  | false =>
    simp only [Bool.or_eq_false_iff, decide_eq_false_iff_not, Int.not_lt] at hA
    by_cases h1 : 0 ≤ r.Set ∧ r.Set < 16
    · by_cases h2 : 0 ≤ r.Value ∧ r.Value < 16
      · rw [hR1 ⟨hA.1.1.1, hA.1.1.2, hA.1.2, hA.2, h1, h2⟩]
        have e1 : (decide (0 ≤ r.Set) && decide (r.Set < 16)) = true := by simp [h1]
        have e2 : (decide (0 ≤ r.Value) && decide (r.Value < 16)) = true := by simp [h2]
        simp only [Bool.not_false, gd_true, e1, e2, Option.bind_some, Bool.not_true, Bool.or_self, Bool.false_eq_true, if_false]
        by_cases h3 : cchk r.Cube.Mask r.Cube.Bits = 0
        · rw [if_neg (by simpa using h3), if_pos h3]
          generalize bits .andNot .i64 r.Value r.Set = B
          by_cases h4 : B = 0 <;> by_cases h5 : r.Out = 0 <;> by_cases h6 : r.Set = 0 <;> simp [h4, h5, h6]
        · rw [if_pos (by simpa using h3), if_neg h3]
      · rw [hR0 (by omega)]
        have e1 : (decide (0 ≤ r.Set) && decide (r.Set < 16)) = true := by simp [h1]
        have e2 : (decide (0 ≤ r.Value) && decide (r.Value < 16)) = false := by simp; omega
        simp only [Bool.not_false, gd_true, e1, e2, Option.bind_some, Bool.not_true, Bool.or_self, Bool.false_eq_true, if_false, Bool.or_true, if_true]
    · rw [hR0 (by omega)]
      have e1 : (decide (0 ≤ r.Set) && decide (r.Set < 16)) = false := by simp; omega
      simp [gd, e1]
theorem s_cfV (x : T_Rule) (l : List T_Rule) (hl : (l.length : Int) ≤ maxI) : t_slices_ContainsFunc_api_Table_api_Rule l (fun a33 => t_rule_Table_1 a33 x) = some (l.any fun y => (rlOf y).key (rlOf x)) := by
  unfold t_slices_ContainsFunc_api_Table_api_Rule t_slices_IndexFunc_api_Table_api_Rule
  rw [join_eq, loopI_eq hl]
  have hk : ∀ y : T_Rule, t_rule_Table_1 y x = some ((rlOf y).key (rlOf x)) := fun y => by
    unfold t_rule_Table_1 t_rule_Key
    simp only [Option.bind_some, Option.some.injEq]
    show (decide (y.Prio = x.Prio) && decide (y.Cube = x.Cube)) = decide (y.Prio = x.Prio ∧ y.Cube.Mask = x.Cube.Mask ∧ y.Cube.Bits = x.Cube.Bits)
    rw [Bool.eq_iff_iff]
    simp [T_Cube.ext_iff2]
  have : ∀ (l : List T_Rule) (i : Int), 0 ≤ i → ∃ j, goI (fun (i13 : Int) x14 (s9 : Unit) k10 => (t_rule_Table_1 x14 x).bind fun r22 => if r22 = true then (some i13) else (k10 ())) (fun _ => some (-1 : Int)) i l () = some j ∧ (decide (0 ≤ j)) = l.any fun y => (rlOf y).key (rlOf x) := by
    intro l
    induction l with
    | nil => intro i _; exact ⟨-1, rfl, rfl⟩
    | cons y l ih =>
      intro i hi
      rw [goI, hk, Option.bind_some]
      cases h : (rlOf y).key (rlOf x) with
      | true => exact ⟨i, if_pos rfl, by simp [h, hi]⟩
      | false =>
        obtain ⟨j, h1, h2⟩ := ih (i + 1) (by omega)
        refine ⟨j, ?_, by rw [h2]; simp [h]⟩
        rw [if_neg (by simp)]; exact h1
  obtain ⟨j, h1, h2⟩ := this l 0 (Int.le_refl _)
  rw [h1, Option.bind_some, h2]
theorem s_rTableV (t : List T_Rule) : t_rule_Table t = some (tchk (t.map rlOf)) := by
  have hM : maxI = 9223372036854775807 := rfl
  unfold t_rule_Table tchk
  rw [List.length_map]
  by_cases h1 : t.length > 12
  · rw [if_pos (by simp; omega), if_pos h1]
  · rw [if_neg (by simp; omega), if_neg h1, join_eq, loopI_eq (by omega)]
    have : ∀ (l p : List T_Rule), t = p ++ l → goI (fun (i17 : Int) x18 (s13 : Unit) k14 =>
        (t_rule_Check x18).bind fun r28 =>
        if (!decide (r28 = 0)) = true then (some r28) else (
        (slc_hi t i17).bind fun r32 =>
        (t_slices_ContainsFunc_api_Table_api_Rule r32 (fun (a33 : T_Rule) => t_rule_Table_1 a33 x18)).bind fun r35 =>
        if r35 = true then (some 7) else (k14 ()))) (fun (s13 : Unit) => some 0) (p.length : Int) l () = some (tfaultFrom (p.map rlOf) (l.map rlOf)) := by
      intro l
      induction l with
      | nil => intro p _; rfl
      | cons x l ih =>
        intro p hp
        have hpl : p.length ≤ t.length := by rw [hp]; simp
        rw [goI, s_ruleCheckV, Option.bind_some, List.map_cons, tfaultFrom]
        by_cases h2 : (rlOf x).chk = 0
        · have hs : slc_hi t (p.length : Int) = some p := by
            unfold slc_hi
            rw [if_pos ⟨by omega, by omega⟩, Int.toNat_natCast, hp]; simp
          rw [if_neg (by simpa using h2), if_neg (by simpa using h2), hs, Option.bind_some, s_cfV x p (by omega), Option.bind_some]
          have ha : (p.any fun y => (rlOf y).key (rlOf x)) = ((p.map rlOf).any fun y => y.key (rlOf x)) := by rw [List.any_map]; rfl
          rw [ha]
          cases hk : (p.map rlOf).any fun y => y.key (rlOf x) with
          | true => rfl
          | false =>
            rw [if_neg (by simp), if_neg (by simp)]
            have := ih (p ++ [x]) (by rw [hp]; simp)
            simp only [List.length_append, List.length_singleton, List.map_append, List.map_cons, List.map_nil] at this
            have e : (p.length : Int) + 1 = ((p.length + 1 : Nat) : Int) := by omega
            rw [e]; exact this
        · rw [if_pos (by simpa using h2), if_pos h2]
    exact this t [] rfl
/-- a change that is right makes a table that is right -/
theorem do_tok {t : List T_Rule} {add : Bool} {r : T_Rule} (h : doF t add r = 0) : Tok (t.map rlOf) ∧ Tok ((doV t add r).map rlOf) := by
  have h' : tdoF (t.map rlOf) add (rlOf r) = 0 := h
  have ht : Tok (t.map rlOf) := by
    refine tchk_iff.1 ?_
    by_cases h0 : tchk (t.map rlOf) = 0
    · exact h0
    · unfold tdoF at h'
      rw [if_pos h0] at h'
      exact h'
  have hv : (doV t add r).map rlOf = tdoR (t.map rlOf) add (rlOf r) := by
    unfold doV
    rw [tdoV_ok h', List.map_map]; exact List.map_id _
  refine ⟨ht, ?_⟩
  rw [hv]
  cases add with
  | true =>
    have := tdo_add_tok h'
    unfold tdoR
    rw [if_pos rfl]; exact this
  | false =>
    unfold tdoR
    rw [if_neg (by simp)]
    exact ht.sub (List.eraseIdx_sublist _ _)

def nilNet : T_Net := T_Net.mk (T_Topo.mk 0 [] []) []
/-- a net that is right -/
structure NOk (n : T_Net) : Prop where
  sw : 1 ≤ n.Topo.Switches ∧ n.Topo.Switches ≤ 6
  chk : t_topo_Check n.Topo = some 0
  nl : n.Topo.Links.length ≤ 200
  nh : n.Topo.Hosts.length ≤ 8
  len : (n.Tables.length : Int) = n.Topo.Switches
  tabs : ∀ t ∈ n.Tables, Tok (t.map rlOf)
theorem netCheck_first (n : T_Net) (hg : topoGood n.Topo) (hc : t_topo_Check n.Topo = some 0) (hl : (n.Tables.length : Int) = n.Topo.Switches) : t_net_Check n = some (firstF (fun t => tchk (t.map rlOf)) n.Tables) := by
  have hM : maxI = 9223372036854775807 := rfl
  have := hg.sw
  unfold t_net_Check
  rw [hc, Option.bind_some, if_neg (by simp), if_neg (by simpa using hl), join_eq, loopI_eq (by omega)]
  refine goI_first rfl _ _ fun x _ i k => ?_
  rw [s_rTableV, Option.bind_some]
  by_cases h : tchk (x.map rlOf) = 0
  · rw [if_neg (by simpa using h), if_neg (by simpa using h)]
  · rw [if_pos (by simpa using h), if_pos h]
theorem netCheck_ok {n : T_Net} (hn : ∀ h ∈ n.Topo.Hosts, (h.Name.size : Int) ≤ maxI) : t_net_Check n = some 0 ↔ NOk n := by
  constructor
  · intro h
    obtain ⟨c, h1, h2⟩ := s_netCheck n hn
    rw [h] at h1
    obtain rfl := Option.some.inj h1
    have hg := h2 rfl
    refine ⟨hg.topo.sw, hg.chk, hg.topo.nl, hg.topo.nh, hg.len, ?_⟩
    rw [netCheck_first n hg.topo hg.chk hg.len] at h
    exact fun t ht => tchk_iff.1 (firstF_0.1 (Option.some.inj h) t ht)
  · intro h
    obtain ⟨c, h1, h2⟩ := s_topoCheck n.Topo hn
    rw [h.chk] at h1
    obtain rfl := Option.some.inj h1
    rw [netCheck_first n (h2 rfl) h.chk h.len, firstF_0.2 fun t ht => tchk_iff.2 (h.tabs t ht)]
theorem s_Own (n : T_Net) (h : NOk n) : t_change_Own n = some n := by
  have hM : maxI = 9223372036854775807 := rfl
  have h1 := h.sw
  have h2 := h.nl
  have h3 := h.nh
  have h4 := h.len
  have hc : ∀ {α : Type} (l : List α), l.length ≤ 4294967296 → cln l = some l := fun l hl => if_pos hl
  unfold t_change_Own
  rw [hc _ (by omega), Option.bind_some, hc _ (by omega), Option.bind_some]
  have ho : omake (n.Tables.length : Int) (n.Tables.length : Int) ([] : List T_Rule) = some (List.replicate n.Tables.length []) := by
    unfold omake
    rw [if_pos ⟨rfl, by omega, by omega⟩, Int.toNat_natCast]
  rw [ho, Option.bind_some, loopI_eq (by omega)]
  have : ∀ (l p : List (List T_Rule)), n.Tables = p ++ l → goI (fun (i46 : Int) x47 (s42 : (List (List T_Rule))) k43 =>
      (cln x47).bind fun r55 => need (decide (0 ≤ i46) && decide (i46 < (List.length s42 : Int))) ((oset s42 i46 r55).bind fun r60 => k43 (r60))) (fun (s42 : (List (List T_Rule))) => some (s42)) (p.length : Int) l (p ++ List.replicate l.length []) = some (p ++ l) := by
    intro l
    induction l with
    | nil => intro p _; simp [goI]
    | cons x l ih =>
      intro p hp
      have hx : x.length ≤ 12 := by
        have := (h.tabs x (by rw [hp]; simp)).len
        simpa using this
      rw [goI, hc x (by omega), Option.bind_some, need_pos (by simp; omega)]
      have hs : oset (p ++ List.replicate (x :: l).length []) (p.length : Int) x = some (p ++ [x] ++ List.replicate l.length []) := by
        unfold oset
        rw [if_pos ⟨by omega, by simp; omega⟩, Int.toNat_natCast, List.length_cons, List.replicate_succ]
        simp
      rw [hs, Option.bind_some]
      have := ih (p ++ [x]) (by rw [hp]; simp)
      simp only [List.length_append, List.length_singleton] at this
      have e : (p.length : Int) + 1 = ((p.length + 1 : Nat) : Int) := by omega
      rw [e]
      refine this.trans ?_
      simp
  have := this n.Tables [] rfl
  simp only [List.length_nil, List.nil_append] at this
  refine (congrArg (fun X : Option (List (List T_Rule)) => X.bind fun s31 => some (T_Net.mk (T_Topo.mk n.Topo.Switches n.Topo.Links n.Topo.Hosts) s31)) this).trans ?_
  rfl
/-- the table of a switch -/
def tabAt (s : T_Net) (x : Int) : List T_Rule := s.Tables.getD (x - 1).toNat []
def opF (s : T_Net) (x : T_Op) : Int := if x.Switch < 1 ∨ s.Topo.Switches < x.Switch then 1 else doF (tabAt s x.Switch) x.Add x.Rule
def opR (s : T_Net) (x : T_Op) : T_Net := ⟨s.Topo, s.Tables.set (x.Switch - 1).toNat (doV (tabAt s x.Switch) x.Add x.Rule)⟩
def appL : List T_Op → T_Net → T_Net × Int
  | [], s => (s, 0)
  | x :: l, s => if opF s x ≠ 0 then (nilNet, opF s x) else appL l (opR s x)
theorem tabAt_mem {s : T_Net} (h : (s.Tables.length : Int) = s.Topo.Switches) {x : Int} (h1 : 1 ≤ x) (h2 : x ≤ s.Topo.Switches) : tabAt s x ∈ s.Tables ∧ idx s.Tables (x - 1) = some (tabAt s x) := by
  have hlt : (x - 1).toNat < s.Tables.length := by omega
  unfold tabAt
  rw [List.getD, List.getElem?_eq_getElem hlt]
  refine ⟨List.getElem_mem hlt, ?_⟩
  unfold idx
  rw [if_pos (by omega), List.getElem?_eq_getElem hlt]; rfl
theorem opR_ok {s : T_Net} (hs : NOk s) {x : T_Op} (h : opF s x = 0) : NOk (opR s x) := by
  unfold opF at h
  split at h
  · cases h
  · rename_i hr
    have hd := do_tok h
    refine ⟨hs.sw, hs.chk, hs.nl, hs.nh, ?_, fun t ht => ?_⟩
    · show ((s.Tables.set _ _).length : Int) = _
      rw [List.length_set]; exact hs.len
    · rcases List.mem_or_eq_of_mem_set ht with h | h
      · exact hs.tabs t h
      · rw [h]; exact hd.2
theorem appL_ok : ∀ (l : List T_Op) {s : T_Net}, NOk s → (appL l s).2 = 0 → NOk (appL l s).1 ∧ (appL l s).1.Topo = s.Topo
  | [], s, hs, _ => ⟨hs, rfl⟩
  | x :: l, s, hs, h => by
    unfold appL at h ⊢
    by_cases h0 : opF s x = 0
    · rw [if_neg (by simpa using h0)] at h ⊢
      exact appL_ok l (opR_ok hs h0) h
    · rw [if_pos h0] at h
      exact absurd h h0
theorem appL_append : ∀ (l m : List T_Op) (s : T_Net), (appL l s).2 = 0 → appL (l ++ m) s = appL m (appL l s).1
  | [], m, s, _ => rfl
  | x :: l, m, s, h => by
    rw [List.cons_append]
    unfold appL at h
    show (if opF s x ≠ 0 then (nilNet, opF s x) else appL (l ++ m) (opR s x)) = appL m (if opF s x ≠ 0 then (nilNet, opF s x) else appL l (opR s x)).1
    by_cases h0 : opF s x = 0
    · rw [if_neg (by simpa using h0)] at h ⊢
      rw [if_neg (by simpa using h0)]
      exact appL_append l m (opR s x) h
    · rw [if_pos h0] at h
      exact absurd h h0
theorem appL_front : ∀ (l m : List T_Op) (s : T_Net), (appL (l ++ m) s).2 = 0 → (appL l s).2 = 0
  | [], m, s, _ => rfl
  | x :: l, m, s, h => by
    rw [List.cons_append] at h
    unfold appL at h ⊢
    by_cases h0 : opF s x = 0
    · rw [if_neg (by simpa using h0)] at h ⊢
      exact appL_front l m (opR s x) h
    · rw [if_pos h0] at h
      exact absurd h h0
theorem appGo : ∀ (l : List T_Op) (i : Int) (s : T_Net), NOk s → goI (fun (i38 : Int) x39 (s34 : T_Net) k35 =>
     if ((decide (x39.Switch < 1)) || (decide (s34.Topo.Switches < x39.Switch))) = true then (some ((T_Net.mk (T_Topo.mk 0 [] []) []), 1)) else (
     need (decide (0 ≤ (wr (x39.Switch - 1))) && decide ((wr (x39.Switch - 1)) < (List.length s34.Tables : Int))) (
     (idx s34.Tables (wr (x39.Switch - 1))).bind fun r75 =>
     (t_table_Do r75 x39.Add x39.Rule).bind fun r80 =>
     if (!decide (r80.2 = 0)) = true then (some ((T_Net.mk (T_Topo.mk 0 [] []) []), r80.2)) else (
     need (decide (0 ≤ (wr (x39.Switch - 1))) && decide ((wr (x39.Switch - 1)) < (List.length s34.Tables : Int))) (
     (oset s34.Tables (wr (x39.Switch - 1)) r80.1).bind fun r94 =>
     k35 (T_Net.mk s34.Topo r94)))))) (fun (s34 : T_Net) => some (s34, (0 : Int))) i l s = some (appL l s)
  | [], i, s, _ => rfl
  | x :: l, i, s, hs => by
    have h1 := hs.sw
    have h2 := hs.len
    rw [goI]
    unfold appL
    by_cases hr : x.Switch < 1 ∨ s.Topo.Switches < x.Switch
    · have hf : opF s x = 1 := if_pos hr
      rw [if_pos (by simpa using hr), if_pos (by rw [hf]; decide), hf]; rfl
    · have hf : opF s x = doF (tabAt s x.Switch) x.Add x.Rule := if_neg hr
      rw [if_neg (by simpa using hr), wr_id (by omega) (by omega)]
      have hb : (decide (0 ≤ x.Switch - 1) && decide (x.Switch - 1 < (s.Tables.length : Int))) = true := by simp; omega
      obtain ⟨hm, hi⟩ := tabAt_mem h2 (x := x.Switch) (by omega) (by omega)
      rw [need_pos hb, hi, Option.bind_some]
      unfold t_table_Do
      rw [Option.bind_some]
      simp only []
      by_cases h0 : opF s x = 0
      · have ho : oset s.Tables (x.Switch - 1) (doV (tabAt s x.Switch) x.Add x.Rule) = some (opR s x).Tables := if_pos ⟨by omega, by omega⟩
        rw [if_neg (by rw [← hf]; simpa using h0), if_neg (by simpa using h0), need_pos hb, ho, Option.bind_some]
        exact appGo l (i + 1) (opR s x) (opR_ok hs h0)
      · rw [if_pos (by rw [← hf]; simpa using h0), if_pos h0, hf]; rfl
theorem s_Apply (n : T_Net) (l : List T_Op) (hn : ∀ h ∈ n.Topo.Hosts, (h.Name.size : Int) ≤ maxI) : ∃ c, t_net_Check n = some c ∧ (c = 0 ↔ NOk n) ∧ t_change_Apply n l = some (if c ≠ 0 then (nilNet, c) else if 200 < l.length then (nilNet, 4) else appL l n) := by
  have hM : maxI = 9223372036854775807 := rfl
  obtain ⟨c, h1, _⟩ := s_netCheck n hn
  have hc : c = 0 ↔ NOk n := by rw [← netCheck_ok hn, h1]; simp
  refine ⟨c, h1, hc, ?_⟩
  unfold t_change_Apply
  rw [h1, Option.bind_some]
  by_cases h0 : c = 0
  · rw [if_neg (by simpa using h0), if_neg (show ¬ c ≠ 0 by simpa using h0)]
    have hk := hc.1 h0
    by_cases hl : 200 < l.length
    · rw [if_pos (by simp; omega), if_pos hl]; rfl
    · rw [if_neg (by simp; omega), if_neg hl, s_Own n hk, Option.bind_some, join_eq, loopI_eq (by omega)]
      exact appGo l 0 n hk
  · rw [if_pos (by simpa using h0), if_pos h0]; rfl
theorem s_Apply_ok {n : T_Net} {l : List T_Op} (hn : ∀ h ∈ n.Topo.Hosts, (h.Name.size : Int) ≤ maxI) (hk : NOk n) (hl : l.length ≤ 200) : t_change_Apply n l = some (appL l n) := by
  obtain ⟨c, p1, p2, p3⟩ := s_Apply n l hn
  rw [p3, if_neg (by have := p2.2 hk; omega), if_neg (by omega)]

theorem same_go {α : Type} [DecidableEq α] {F : Option Bool} {b : List α} : ∀ (l p : List α), b = p ++ l → goI (fun i x (s : Unit) k => (idx b i).bind fun r => if (!decide (x = r)) = true then (some false) else (k ())) (fun _ => F) (p.length : Int) l () = F
  | [], p, _ => rfl
  | x :: l, p, h => by
    have hx : b[p.length]? = some x := by rw [h]; simp
    rw [goI, idx_nat, hx, Option.bind_some, if_neg (by simp)]
    have := same_go (F := F) (b := b) l (p ++ [x]) (by rw [h]; simp)
    simp only [List.length_append, List.length_singleton] at this
    have e : (p.length : Int) + 1 = ((p.length + 1 : Nat) : Int) := by omega
    rw [e]; exact this
theorem same_loop {α : Type} [DecidableEq α] {F : Option Bool} (b : List α) (hb : (b.length : Int) ≤ maxI) : loopI b (fun i x (s : Unit) k => (idx b i).bind fun r => if (!decide (x = r)) = true then (some false) else (k ())) (fun _ => F) () = F := by
  rw [loopI_eq hb]; exact same_go b [] rfl
theorem s_sameTopo (T : T_Topo) (h1 : T.Links.length ≤ 200) (h2 : T.Hosts.length ≤ 8) : t_railsame_Topo T T = some true := by
  have hM : maxI = 9223372036854775807 := rfl
  unfold t_railsame_Topo
  rw [show (((decide (T.Switches ≠ T.Switches)) || (decide ((List.length T.Links : Int) ≠ (List.length T.Links : Int)))) || (decide ((List.length T.Hosts : Int) ≠ (List.length T.Hosts : Int)))) = false by simp, Option.bind_some, if_neg (by simp), join_eq, join_eq, same_loop T.Links (by omega), same_loop T.Hosts (by omega)]
theorem s_sameTable (t : List T_Rule) (h : (t.length : Int) ≤ maxI) : t_railsame_Table t t = some true := by
  unfold t_railsame_Table
  rw [if_neg (by simp), join_eq, same_loop t h]
theorem s_sameNet {n : T_Net} (h : NOk n) : t_railsame_Net n n = some true := by
  have hM : maxI = 9223372036854775807 := rfl
  have h1 := h.sw
  have h2 := h.len
  unfold t_railsame_Net
  rw [s_sameTopo _ h.nl h.nh, Option.bind_some, if_neg (by simp), join_eq, loopI_eq (by omega)]
  have : ∀ (l p : List (List T_Rule)), n.Tables = p ++ l → goI (fun (i40 : Int) x41 (s36 : Unit) k37 => (idx n.Tables i40).bind fun r53 => (t_railsame_Table x41 r53).bind fun r56 => if (!r56) = true then (some false) else (k37 ())) (fun (s36 : Unit) => some true) (p.length : Int) l () = some true := by
    intro l
    induction l with
    | nil => intro p _; rfl
    | cons x l ih =>
      intro p hp
      have hx : n.Tables[p.length]? = some x := by rw [hp]; simp
      have hm : x ∈ n.Tables := by rw [hp]; simp
      have hxl := (h.tabs x hm).len
      rw [List.length_map] at hxl
      rw [goI, idx_nat, hx, Option.bind_some, s_sameTable x (by omega), Option.bind_some, if_neg (by simp)]
      have := ih (p ++ [x]) (by rw [hp]; simp)
      simp only [List.length_append, List.length_singleton] at this
      have e : (p.length : Int) + 1 = ((p.length + 1 : Nat) : Int) := by omega
      rw [e]; exact this
  exact this n.Tables [] rfl

def L1 : T_Topo := ⟨1, [], [⟨ByteArray.mk #[97], ⟨1, 3⟩⟩, ⟨ByteArray.mk #[98], ⟨1, 4⟩⟩]⟩
theorem line_1 : t_raillaw4_line 1 = some L1 := by kernel_rfl
theorem fact_parts : t_change_Apply (T_Net.mk L1 [[]]) [T_Op.mk 1 true (T_Rule.mk 2 (T_Cube.mk 0 0) 4 0 0)] = some (T_Net.mk L1 [[T_Rule.mk 2 (T_Cube.mk 0 0) 4 0 0]], 0) := by kernel_rfl
theorem walk_ChangeParts (a0 : T_Net) (a1 : List T_Op) (a2 : Int) (u0 : a0.wf maxLen) (u1 : wL maxLen (fun x => x.wf maxLen) a1) (u2 : wi64 a2) : t_raillaw4_ChangeParts a0 a1 a2 = some true := by
  have hM : maxI = 9223372036854775807 := rfl
  have hML : maxLen = 9223372036854775807 := rfl
  have hn : ∀ h ∈ a0.Topo.Hosts, (h.Name.size : Int) ≤ maxI := fun h hh => by
    have := (u0.1.2.2.2 h hh).1
    unfold wS at this; omega
  unfold t_raillaw4_ChangeParts
  rw [line_1, Option.bind_some, fact_parts, Option.bind_some]
  have f1 : decide (((List.length [[(T_Rule.mk 2 (T_Cube.mk 0 0) 4 0 0)]] : Nat) : Int) ≠ 1) = false := rfl
  have f2 : decide (((List.length [(T_Rule.mk 2 (T_Cube.mk 0 0) 4 0 0)] : Nat) : Int) ≠ 1) = false := rfl
  simp only [decide_true, Bool.not_true, Bool.false_or, f1, Bool.not_false, gd_true, show idx [[(T_Rule.mk 2 (T_Cube.mk 0 0) 4 0 0)]] 0 = some [(T_Rule.mk 2 (T_Cube.mk 0 0) 4 0 0)] from rfl, Option.bind_some, f2, Bool.false_eq_true, if_false]
  obtain ⟨c, hc1, hc2, hc3⟩ := s_Apply a0 a1 hn
  rw [hc3, Option.bind_some]
  by_cases h0 : c = 0
  · have hk := hc2.1 h0
    subst h0
    rw [if_neg (show ¬ (0 : Int) ≠ 0 by simp)]
    by_cases hl : 200 < a1.length
    · rw [if_pos hl]
      rw [if_pos (by simp [nilNet])]
    · rw [if_neg hl]
      by_cases hr : (appL a1 a0).2 = 0 ∧ 0 ≤ a2 ∧ a2 ≤ a1.length
      · obtain ⟨hr0, hr1, hr2⟩ := hr
        rw [if_neg (by simp [hr0]; omega)]
        have e1 : slc_hi a1 a2 = some (a1.take a2.toNat) := if_pos ⟨hr1, hr2⟩
        have e2 : slc_lo a1 a2 = some (a1.drop a2.toNat) := if_pos ⟨hr1, hr2⟩
        have hsplit : a1 = a1.take a2.toNat ++ a1.drop a2.toNat := (List.take_append_drop _ _).symm
        have hf : (appL (a1.take a2.toNat) a0).2 = 0 := appL_front _ (a1.drop a2.toNat) a0 (by rw [← hsplit]; exact hr0)
        have hall : appL a1 a0 = appL (a1.drop a2.toNat) (appL (a1.take a2.toNat) a0).1 := by
          have := appL_append (a1.take a2.toNat) (a1.drop a2.toNat) a0 hf
          rw [← hsplit] at this; exact this
        obtain ⟨ka, kt⟩ := appL_ok _ hk hf
        have p3 := s_Apply_ok (l := a1.take a2.toNat) hn hk (by rw [List.length_take]; omega)
        have q3 := s_Apply_ok (n := (appL (a1.take a2.toNat) a0).1) (l := a1.drop a2.toNat) (by rw [kt]; exact hn) ka (by rw [List.length_drop]; omega)
        rw [e1, Option.bind_some, p3, Option.bind_some, if_neg (by simp [hf]), e2, Option.bind_some, q3, Option.bind_some, ← hall]
        obtain ⟨kb, -⟩ := appL_ok _ hk hr0
        rw [s_sameNet kb, Option.bind_some, hr0]; rfl
      · rw [if_pos]
        simp only [Bool.or_eq_true, Bool.not_eq_true', decide_eq_false_iff_not, decide_eq_true_eq]
        omega
  · rw [if_pos h0]
    rw [if_pos (by simp [h0])]
end Go.Proofs.Ytedgcbcphlonpaa.Ty
