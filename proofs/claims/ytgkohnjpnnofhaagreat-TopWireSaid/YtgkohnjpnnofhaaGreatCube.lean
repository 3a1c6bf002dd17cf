/- What the functions of package cube come to. -/
import Derived.Test.YtgkohnjpnnofhaaGreatRows
import Derived.Test.YtgkohnjpnnofhaaGreatPlain
import Derived.WalkKit
import Derived.WalkSpells
import Derived.WalkLawsBesides
import Derived.Handy
import Derived.Deep.Light
import Derived.Lib.Hide
namespace Go.Proofs.YtgkohnjpnnofhaaGreat
set_option linter.unusedSimpArgs false
set_option linter.unusedVariables false
open Go.RowKit
def errOf (n : Int) : Value := if n = 0 then .nilIface else .iface 81 (.int .i64 n)
theorem errOf_ne {n : Int} (h : n ≠ 0) : errOf n = .iface 81 (.int .i64 n) := by simp [errOf, h]
set_option maxHeartbeats 400000 in
theorem header_any (n : Int) (w : World) : Calls Tryz.prog 41 #[.int .i64 n] w fun e w' => e = .returned (.bool (hdr n)) ∧ w = w' := by
 go_enter Tryz.func41, Tryz.ntmps41
 go_wp2
 all_goals go_ret
 all_goals (refine ⟨?_, rfl⟩; (refine ret_bool ?_; go_light; unfold hdr; rw [Bool.eq_iff_iff]; (try simp only [Bool.not_eq_true', Bool.not_eq_false', decide_eq_false_iff_not, decide_eq_true_eq, bne_iff_ne, ne_eq, bne_eq_false_iff_eq, beq_iff_eq, beq_eq_false_iff_ne, Bool.and_eq_true, Bool.or_eq_true, Bool.not_true, Bool.not_false, Bool.not_eq_true, Bool.false_eq_true, hdr_iff, hdr_not, false_iff, true_iff, iff_false, iff_true] at *); omega))
set_option maxHeartbeats 400000 in
theorem ccheck_any (m b : Int) (w : World) : Calls Tryz.prog 55 #[.agg #[.int .i64 m, .int .i64 b]] w fun e w' => e = .returned (errOf (cchk m b)) ∧ Below w.heap.size w w' := by
 go_enter Tryz.func55, Tryz.ntmps55
 go_wp2
 all_goals go_ret
 all_goals refine ⟨ret_val ?_, by go_grown⟩
 all_goals (go_light; (try simp only [Bool.not_eq_true', Bool.not_eq_false', decide_eq_false_iff_not, decide_eq_true_eq, bne_iff_ne, ne_eq, bne_eq_false_iff_eq, beq_iff_eq, beq_eq_false_iff_ne, Bool.and_eq_true, Bool.or_eq_true, Bool.not_true, Bool.not_false, Bool.not_eq_true, Bool.false_eq_true, hdr_iff, hdr_not, false_iff, true_iff, iff_false, iff_true] at *); (first | (have e0 : cchk m b = 0 := (by unfold cchk; (repeat' split) <;> omega); rw [e0]; rfl) | (have e0 : cchk m b = 1 := (by unfold cchk; (repeat' split) <;> omega); rw [e0]; rfl) | (have e0 : cchk m b = 3 := (by unfold cchk; (repeat' split) <;> omega); rw [e0]; rfl)))
theorem ccheck_ok (m b : Int) (w : World) (h : cchk m b = 0) : Calls Tryz.prog 55 #[.agg #[.int .i64 m, .int .i64 b]] w fun e w' => e = .returned .nilIface ∧ Below w.heap.size w w' :=
 (ccheck_any m b w).mono fun _ _ ⟨he, hb⟩ => ⟨by rw [he, h]; rfl, hb⟩
theorem ccheck_bad (m b : Int) (w : World) (h : cchk m b ≠ 0) : Calls Tryz.prog 55 #[.agg #[.int .i64 m, .int .i64 b]] w fun e w' => e = .returned (.iface 81 (.int .i64 (cchk m b))) ∧ Below w.heap.size w w' :=
 (ccheck_any m b w).mono fun _ _ ⟨he, hb⟩ => ⟨by rw [he, errOf_ne h], hb⟩
end Go.Proofs.YtgkohnjpnnofhaaGreat
