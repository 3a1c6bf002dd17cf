/- What the faults of rules come to. -/
import Derived.Test.YtedgcbcphlonpaaSCube0
import Derived.Test.YtedgcbcphlonpaaSWireP
namespace Go.Proofs.Ytedgcbcphlonpaa.Ty
open Go Go.RowKit Go.Proofs.Ytedgcbcphlonpaa.Den
set_option linter.unusedSimpArgs false
set_option linter.unusedVariables false
set_option maxRecDepth 100000

theorem rchk_ite (p m b o s v : Int) (hs hv : Bool) (h1 : hs = true ↔ 0 ≤ s ∧ s < 16) (h2 : hv = true ↔ 0 ≤ v ∧ v < 16) (e : Int) (he : e = cchk m b) :
    (if (((((decide (p < 0) || decide (99 < p)) || decide (o < 0)) || decide (4 < o)) || !hs) || !hv) = true then some (1 : Int) else
      if (!decide (e = 0)) = true then some e else if (decide (bits .andNot .i64 v s ≠ 0) || (decide (o = 0) && decide (s ≠ 0))) = true then some 3 else some 0) = some (rchk p m b o s v) := by
  subst he
  unfold rchk
  by_cases h : 0 ≤ p ∧ p ≤ 99 ∧ 0 ≤ o ∧ o ≤ 4 ∧ (0 ≤ s ∧ s < 16) ∧ (0 ≤ v ∧ v < 16)
  · rw [if_neg (by rw [h1.2 h.2.2.2.2.1, h2.2 h.2.2.2.2.2]; simp; omega), if_pos h]
    by_cases hk : cchk m b = 0
    · rw [if_neg (by simp [hk]), if_pos hk]
      generalize bits .andNot .i64 v s = B
      by_cases h3 : B = 0 <;> by_cases h4 : o = 0 <;> by_cases h5 : s = 0 <;> simp [h3, h4, h5]
    · rw [if_pos (by simp [hk]), if_neg hk]
  · rw [if_neg h, if_pos]
    cases hs <;> cases hv <;> simp at h1 h2 ⊢
    omega
theorem s_rule_Check (r : T_Rule) : t_rule_Check r = some r.chk := by
  have key := rchk_ite r.Prio r.Cube.Mask r.Cube.Bits r.Out r.Set r.Value (hdr r.Set) (hdr r.Value) hdr_iff hdr_iff (cf r.Cube) rfl
  unfold t_rule_Check T_Rule.chk
  simp only [s_cube_Header, s_cube_Check, Option.bind_some]
  rw [← key]
  cases hA : (((decide (r.Prio < 0) || decide (99 < r.Prio)) || decide (r.Out < 0)) || decide (4 < r.Out))
  · cases hB : hdr r.Set
    · simp [gd_true, gd_false]
    · simp only [Bool.false_or, Bool.not_false, Bool.not_true, gd_true, Option.bind_some]
  · simp [gd_false]
theorem s_rRule (r : T_Rule) : t_railref1_Rule r = some r.chk := by
  have key := rchk_ite r.Prio r.Cube.Mask r.Cube.Bits r.Out r.Set r.Value (hdr r.Set) (hdr r.Value) hdr_iff hdr_iff (cf r.Cube) rfl
  unfold t_railref1_Rule T_Rule.chk
  simp only [s_rHeader, s_rCube, Option.bind_some]
  rw [← key]
  by_cases hA : (((((decide (r.Prio < 0) || decide (99 < r.Prio)) || decide (r.Out < 0)) || decide (4 < r.Out)) || !hdr r.Set) || !hdr r.Value) = true
  · rw [if_pos hA, if_pos hA]
  · rw [if_neg hA, if_neg hA]
    have hv : 0 ≤ r.Set ∧ r.Set < 16 ∧ 0 ≤ r.Value ∧ r.Value < 16 := by
      simp only [Bool.or_eq_true, not_or, Bool.not_eq_true', Bool.not_eq_false, hdr_iff] at hA
      omega
    have e2 : cf (⟨r.Set, r.Value⟩ : T_Cube) = if bits .andNot .i64 r.Value r.Set = 0 then 0 else 3 := by
      unfold cf cchk; rw [if_pos hv]
    rw [e2]
    by_cases h0 : cf r.Cube = 0
    · by_cases h3 : bits .andNot .i64 r.Value r.Set = 0 <;> simp [h0, h3, gd_true, gd_false]
    · simp [h0]
end Go.Proofs.Ytedgcbcphlonpaa.Ty
