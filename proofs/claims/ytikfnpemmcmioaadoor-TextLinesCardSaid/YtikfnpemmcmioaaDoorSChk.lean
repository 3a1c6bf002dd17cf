/- Nets, as they are checked: what holds of them where nothing is wrong. -/
import Derived.Test.YtikfnpemmcmioaaDoorSChkT
namespace Go.Proofs.YtikfnpemmcmioaaDoor.Ty
open Go Go.RowKit Go.Proofs.YtikfnpemmcmioaaDoor.Den
set_option linter.unusedSimpArgs false
set_option linter.unusedVariables false
set_option maxRecDepth 100000

def ruleGood (r : T_Rule) : Prop := (0 ≤ r.Out ∧ r.Out ≤ 4) ∧ (0 ≤ r.Set ∧ r.Set < 16) ∧ 0 ≤ r.Value ∧ r.Value < 16
def tblGood (t : List T_Rule) : Prop := t.length ≤ 12 ∧ ∀ r ∈ t, ruleGood r
structure netGood (n : T_Net) : Prop where
  topo : topoGood n.Topo
  chk : t_topo_Check n.Topo = some 0
  len : (n.Tables.length : Int) = n.Topo.Switches
  tabs : ∀ t ∈ n.Tables, tblGood t
theorem s_Header (h : Int) : ∃ b, t_cube_Header h = some b ∧ (b = true ↔ 0 ≤ h ∧ h < 16) := ⟨_, rfl, by simp⟩
theorem s_ruleCheck (r : T_Rule) : ∃ c, t_rule_Check r = some c ∧ (c = 0 → ruleGood r) := by
  unfold t_rule_Check
  obtain ⟨b1, e1, f1⟩ := s_Header r.Set
  obtain ⟨b2, e2, f2⟩ := s_Header r.Value
  rw [e1, e2]
  obtain ⟨c, hc⟩ : ∃ c, t_cube_Check r.Cube = some c := by
    unfold t_cube_Check
    obtain ⟨b3, e3, _⟩ := s_Header r.Cube.Mask
    obtain ⟨b4, e4, _⟩ := s_Header r.Cube.Bits
    rw [e3, e4]
    cases b3 <;> cases b4 <;> simp only [gd, Bool.not_true, Bool.not_false, if_true, Bool.or_self, Bool.true_or, Bool.or_true, Bool.false_eq_true, if_false, Option.bind_some] <;> first | exact ⟨_, rfl⟩ | (split <;> exact ⟨_, rfl⟩)
  rw [hc]
  cases hA : (((decide (r.Prio < 0) || decide (99 < r.Prio)) || decide (r.Out < 0)) || decide (4 < r.Out)) with
  | true => exact ⟨1, by simp [gd], fun h => by cases h⟩
  | false =>
    cases hb1 : b1 with
    | false => exact ⟨1, by simp [gd], fun h => by cases h⟩
    | true =>
      cases hb2 : b2 with
      | false => exact ⟨1, by simp [gd], fun h => by cases h⟩
      | true =>
        simp only [Bool.or_eq_false_iff, decide_eq_false_iff_not, Int.not_lt] at hA
        have hg : ruleGood r := ⟨⟨hA.1.2, hA.2⟩, f1.1 hb1, f2.1 hb2⟩
        simp only [gd, Bool.not_false, Bool.not_true, if_true, Option.bind_some, Bool.or_self, Bool.false_eq_true, if_false]
        split
        · exact ⟨_, rfl, fun _ => hg⟩
        · split <;> exact ⟨_, rfl, fun _ => hg⟩
theorem s_ruleTable (t : List T_Rule) : ∃ c, t_rule_Table t = some c ∧ (c = 0 → tblGood t) := by
  unfold t_rule_Table
  split
  · exact ⟨4, rfl, fun h => by cases h⟩
  · rename_i h1
    simp only [decide_eq_true_eq, Int.not_lt] at h1
    simp only [join_eq]
    refine loopI_ex (fun i l _ => 0 ≤ i ∧ i + l.length = t.length ∧ ∀ x ∈ t, x ∈ l ∨ ruleGood x) (by omega) ⟨Int.le_refl _, by omega, fun x hx => .inl hx⟩ (fun i s hI => ⟨0, rfl, fun _ => ⟨by omega, fun r hr => (hI.2.2 r hr).resolve_left (by simp)⟩⟩) (fun i x l s k hI hk => ?_)
    obtain ⟨c, e1, e2⟩ := s_ruleCheck x
    rw [e1]
    simp only [Option.bind_some]
    split
    · rename_i hc
      refine ⟨c, rfl, fun h => ?_⟩
      simp [h] at hc
    · rename_i hc
      obtain ⟨i0, il, ia⟩ := hI
      have hs : slc_hi t i = some (t.take i.toNat) := if_pos ⟨i0, by simp at il; omega⟩
      rw [hs]
      simp only [Option.bind_some]
      have hfn : ∀ (l : List T_Rule), l.length ≤ 12 → ∃ j, t_slices_IndexFunc_api_Table_api_Rule l (fun a33 => t_rule_Table_1 a33 x) = some j ∧ True := fun l hl => by
        unfold t_slices_IndexFunc_api_Table_api_Rule
        simp only [join_eq]
        refine loopI_ex (fun _ _ _ => True) (by omega) trivial (fun _ _ _ => ⟨_, rfl, trivial⟩) (fun i y l s k _ hk => ?_)
        simp only [t_rule_Table_1, t_rule_Key, Option.bind_some]
        split
        · exact ⟨_, rfl, trivial⟩
        · exact hk () trivial
      obtain ⟨j, hj, _⟩ := hfn (t.take i.toNat) (by simp; omega)
      unfold t_slices_ContainsFunc_api_Table_api_Rule
      rw [hj]
      simp only [Option.bind_some]
      split
      · exact ⟨7, rfl, fun h => by cases h⟩
      · refine hk () ⟨by omega, by simp at il; omega, fun y hy => ?_⟩
        rcases ia y hy with h | h
        · rcases List.mem_cons.1 h with rfl | h
          · exact .inr (e2 (by simpa using hc))
          · exact .inl h
        · exact .inr h
theorem s_netCheck (n : T_Net) (hn : ∀ h ∈ n.Topo.Hosts, (h.Name.size : Int) ≤ maxI) : ∃ c, t_net_Check n = some c ∧ (c = 0 → netGood n) := by
  unfold t_net_Check
  obtain ⟨c, e1, e2⟩ := s_topoCheck n.Topo hn
  rw [e1]
  simp only [Option.bind_some]
  split
  · rename_i hc
    refine ⟨c, rfl, fun h => ?_⟩
    simp [h] at hc
  · rename_i hc
    have hc : c = 0 := by simpa using hc
    subst hc
    have hg := e2 rfl
    split
    · exact ⟨3, rfl, fun h => by cases h⟩
    · rename_i hl
      have hl : (n.Tables.length : Int) = n.Topo.Switches := by simpa using hl
      simp only [join_eq]
      have := hg.sw
      refine loopI_ex (fun _ l _ => ∀ x ∈ n.Tables, x ∈ l ∨ tblGood x) (by omega) (fun x hx => .inl hx) (fun i s hI => ⟨0, rfl, fun _ => ⟨hg, e1, hl, fun t ht => (hI t ht).resolve_left (by simp)⟩⟩) (fun i x l s k hI hk => ?_)
      obtain ⟨c, f1, f2⟩ := s_ruleTable x
      rw [f1]
      simp only [Option.bind_some]
      split
      · rename_i hc
        refine ⟨c, rfl, fun h => ?_⟩
        simp [h] at hc
      · rename_i hc
        refine hk () fun y hy => ?_
        rcases hI y hy with h | h
        · rcases List.mem_cons.1 h with rfl | h
          · exact .inr (f2 (by simpa using hc))
          · exact .inl h
        · exact .inr h
end Go.Proofs.YtikfnpemmcmioaaDoor.Ty
