/- What rule.Check and rule.Apply come to. -/
import Derived.Test.YtpjadjoekdcjiaaCube
namespace Go.Proofs.Ytpjadjoekdcjiaa
open Go.RowKit
set_option linter.unusedSimpArgs false
set_option linter.unusedVariables false

/-- the fault of a rule: 0, 1, 3 -/
def rchk (p m b o s v : Int) : Int :=
  if 0 ≤ p ∧ p ≤ 99 ∧ 0 ≤ o ∧ o ≤ 4 ∧ (0 ≤ s ∧ s < 16) ∧ (0 ≤ v ∧ v < 16) then
    (if cchk m b = 0 then (if bits .andNot .i64 v s = 0 ∧ ¬ (o = 0 ∧ s ≠ 0) then 0 else 3) else cchk m b)
  else 1
theorem rchk_0 {p m b o s v : Int} : rchk p m b o s v = 0 ↔ (0 ≤ p ∧ p ≤ 99 ∧ 0 ≤ o ∧ o ≤ 4 ∧ (0 ≤ s ∧ s < 16) ∧ (0 ≤ v ∧ v < 16)) ∧ cchk m b = 0 ∧ bits .andNot .i64 v s = 0 ∧ ¬ (o = 0 ∧ s ≠ 0) := by
  unfold rchk
  split
  · rename_i h
    split
    · rename_i h2
      split
      · rename_i h3; exact ⟨fun _ => ⟨h, h2, h3.1, h3.2⟩, fun _ => rfl⟩
      · rename_i h3; exact ⟨fun h => absurd h (by decide), fun h => absurd ⟨h.2.2.1, h.2.2.2⟩ h3⟩
    · rename_i h2; exact ⟨fun h => absurd h h2, fun h => absurd h.2.1 h2⟩
  · rename_i h; exact ⟨fun h => absurd h (by decide), fun h2 => absurd h2.1 h⟩

set_option maxHeartbeats 800000 in
theorem rcheck_any (p m b o s v : Int) (w : World) : Calls Try.prog 28 #[.agg #[.int .i64 p, .int .i64 m, .int .i64 b, .int .i64 o, .int .i64 s, .int .i64 v]] w fun e w' => e = .returned (errOf (rchk p m b o s v)) ∧ Below w.heap.size w w' := by
  by_cases hk : cchk m b = 0
  · have HK := Lib.hid hk
    clear hk
    go_enter Try.func28, Try.ntmps28
    go_wp2_with (first | (go_at_call 43; refine (ccheck_ok _ _ _ HK.out).mono ?_; rintro e w' ⟨rfl, hb⟩; obtain ⟨hc, hf⟩ := bcell hb; have hz := hb.size; (try simp at hz); (try have y1 := Nat.lt_of_succ_le hz); (try have y2 := Nat.lt_of_succ_lt y1); (try have y3 := Nat.lt_of_succ_lt y2); have hB := bstep (w := w) (by go_grown) hb; (try have z0 : w.heap.size < w'.heap.size := by omega); (try have z1 : w.heap.size + 1 < w'.heap.size := by omega); (try have z2 : w.heap.size + 1 + 1 < w'.heap.size := by omega); (try have z3 : w.heap.size + 1 + 1 + 1 < w'.heap.size := by omega)) | (go_at_call 20; refine (header_any _ _).mono ?_; rintro e w' ⟨rfl, rfl⟩))
    all_goals go_ret
    all_goals refine ⟨ret_val ?_, by go_grown⟩
    all_goals (have hk := HK.out; go_light; (try simp only [Bool.not_eq_true', Bool.not_eq_false', decide_eq_false_iff_not, decide_eq_true_eq, bne_iff_ne, ne_eq, bne_eq_false_iff_eq, beq_iff_eq, beq_eq_false_iff_ne, Bool.and_eq_true, Bool.or_eq_true, Bool.not_true, Bool.not_false, Bool.not_eq_true, Bool.false_eq_true, hdr_iff, hdr_not, false_iff, true_iff, iff_false, iff_true] at *); (first | (have e0 : rchk p m b o s v = 0 := (by unfold rchk; (repeat' split) <;> omega); rw [e0]; rfl) | (have e0 : rchk p m b o s v = 1 := (by unfold rchk; (repeat' split) <;> omega); rw [e0]; rfl) | (have e0 : rchk p m b o s v = 3 := (by unfold rchk; (repeat' split) <;> omega); rw [e0]; rfl)))
  · have HK := Lib.hid hk
    clear hk
    go_enter Try.func28, Try.ntmps28
    go_wp2_with (first | (go_at_call 43; refine (ccheck_bad _ _ _ HK.out).mono ?_; rintro e w' ⟨rfl, hb⟩; obtain ⟨hc, hf⟩ := bcell hb; have hz := hb.size; (try simp at hz); (try have y1 := Nat.lt_of_succ_le hz); (try have y2 := Nat.lt_of_succ_lt y1); (try have y3 := Nat.lt_of_succ_lt y2); have hB := bstep (w := w) (by go_grown) hb; (try have z0 : w.heap.size < w'.heap.size := by omega); (try have z1 : w.heap.size + 1 < w'.heap.size := by omega); (try have z2 : w.heap.size + 1 + 1 < w'.heap.size := by omega); (try have z3 : w.heap.size + 1 + 1 + 1 < w'.heap.size := by omega)) | (go_at_call 20; refine (header_any _ _).mono ?_; rintro e w' ⟨rfl, rfl⟩))
    all_goals go_ret
    all_goals refine ⟨ret_val ?_, by go_grown⟩
    all_goals (have hk := HK.out; go_light; (try simp only [Bool.not_eq_true', Bool.not_eq_false', decide_eq_false_iff_not, decide_eq_true_eq, bne_iff_ne, ne_eq, bne_eq_false_iff_eq, beq_iff_eq, beq_eq_false_iff_ne, Bool.and_eq_true, Bool.or_eq_true, Bool.not_true, Bool.not_false, Bool.not_eq_true, Bool.false_eq_true, hdr_iff, hdr_not, false_iff, true_iff, iff_false, iff_true] at *); first | (first | (have e0 : rchk p m b o s v = 1 := (by unfold rchk; (repeat' split) <;> omega); rw [e0]; rfl)) | ((have e0 : rchk p m b o s v = cchk m b := (by unfold rchk; (repeat' split) <;> omega)); rw [e0, errOf_ne hk]; rfl))

theorem rcheck_ok (p m b o s v : Int) (w : World) (h : rchk p m b o s v = 0) : Calls Try.prog 28 #[.agg #[.int .i64 p, .int .i64 m, .int .i64 b, .int .i64 o, .int .i64 s, .int .i64 v]] w fun e w' => e = .returned .nilIface ∧ Below w.heap.size w w' :=
  (rcheck_any p m b o s v w).mono fun _ _ ⟨he, hb⟩ => ⟨by rw [he, h]; rfl, hb⟩
theorem rcheck_bad (p m b o s v : Int) (w : World) (h : rchk p m b o s v ≠ 0) : Calls Try.prog 28 #[.agg #[.int .i64 p, .int .i64 m, .int .i64 b, .int .i64 o, .int .i64 s, .int .i64 v]] w fun e w' => e = .returned (.iface 66 (.int .i64 (rchk p m b o s v))) ∧ Below w.heap.size w w' :=
  (rcheck_any p m b o s v w).mono fun _ _ ⟨he, hb⟩ => ⟨by rw [he, errOf_ne h], hb⟩

end Go.Proofs.Ytpjadjoekdcjiaa
