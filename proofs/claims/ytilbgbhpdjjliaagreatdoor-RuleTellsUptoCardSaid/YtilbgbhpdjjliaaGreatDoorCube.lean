/- What the functions of package cube come to. -/
import Derived.Test.YtilbgbhpdjjliaaGreatDoorRows
import Derived.Test.YtilbgbhpdjjliaaGreatDoorPlain
import Derived.WalkKit
import Derived.WalkSpells
import Derived.WalkLawsBesides
import Derived.Handy
import Derived.Deep.Light
import Derived.Lib.Hide
namespace Go.Proofs.YtilbgbhpdjjliaaGreatDoor
open Go.RowKit
set_option linter.unusedSimpArgs false
set_option linter.unusedVariables false

/-- an error as the program hands it back: nil, or an Errno -/
def errOf (n : Int) : Value := if n = 0 then .nilIface else .iface 86 (.int .i64 n)
theorem errOf_0 : errOf 0 = .nilIface := rfl
theorem errOf_ne {n : Int} (h : n ≠ 0) : errOf n = .iface 86 (.int .i64 n) := by simp [errOf, h]

set_option maxHeartbeats 400000 in
theorem header_any (n : Int) (w : World) : Calls Tryz.prog 35 #[.int .i64 n] w fun e w' => e = .returned (.bool (hdr n)) ∧ w = w' := by
  go_enter Tryz.func35, Tryz.ntmps35
  go_wp2
  all_goals go_ret
  all_goals (refine ⟨?_, rfl⟩; (refine ret_bool ?_; go_light; unfold hdr; rw [Bool.eq_iff_iff]; (try simp only [Bool.not_eq_true', Bool.not_eq_false', decide_eq_false_iff_not, decide_eq_true_eq, bne_iff_ne, ne_eq, bne_eq_false_iff_eq, beq_iff_eq, beq_eq_false_iff_ne, Bool.and_eq_true, Bool.or_eq_true, Bool.not_true, Bool.not_false, Bool.not_eq_true, Bool.false_eq_true, hdr_iff, hdr_not, false_iff, true_iff, iff_false, iff_true] at *); omega))

set_option maxHeartbeats 400000 in
theorem ccheck_any (m b : Int) (w : World) : Calls Tryz.prog 36 #[.agg #[.int .i64 m, .int .i64 b]] w fun e w' => e = .returned (errOf (cchk m b)) ∧ Below w.heap.size w w' := by
  go_enter Tryz.func36, Tryz.ntmps36
  go_wp2
  all_goals go_ret
  all_goals refine ⟨ret_val ?_, by go_grown⟩
  all_goals (go_light; (try simp only [Bool.not_eq_true', Bool.not_eq_false', decide_eq_false_iff_not, decide_eq_true_eq, bne_iff_ne, ne_eq, bne_eq_false_iff_eq, beq_iff_eq, beq_eq_false_iff_ne, Bool.and_eq_true, Bool.or_eq_true, Bool.not_true, Bool.not_false, Bool.not_eq_true, Bool.false_eq_true, hdr_iff, hdr_not, false_iff, true_iff, iff_false, iff_true] at *); (first | (have e0 : cchk m b = 0 := (by unfold cchk; (repeat' split) <;> omega); rw [e0]; rfl) | (have e0 : cchk m b = 1 := (by unfold cchk; (repeat' split) <;> omega); rw [e0]; rfl) | (have e0 : cchk m b = 3 := (by unfold cchk; (repeat' split) <;> omega); rw [e0]; rfl)))

theorem ccheck_ok (m b : Int) (w : World) (h : cchk m b = 0) : Calls Tryz.prog 36 #[.agg #[.int .i64 m, .int .i64 b]] w fun e w' => e = .returned .nilIface ∧ Below w.heap.size w w' :=
  (ccheck_any m b w).mono fun _ _ ⟨he, hb⟩ => ⟨by rw [he, h]; rfl, hb⟩
theorem ccheck_bad (m b : Int) (w : World) (h : cchk m b ≠ 0) : Calls Tryz.prog 36 #[.agg #[.int .i64 m, .int .i64 b]] w fun e w' => e = .returned (.iface 86 (.int .i64 (cchk m b))) ∧ Below w.heap.size w w' :=
  (ccheck_any m b w).mono fun _ _ ⟨he, hb⟩ => ⟨by rw [he, errOf_ne h], hb⟩

set_option maxHeartbeats 400000 in
theorem chas_any (m b h : Int) (w : World) : Calls Tryz.prog 47 #[.agg #[.int .i64 m, .int .i64 b], .int .i64 h] w fun e w' => e = .returned (.bool (chas m b h)) ∧ Below w.heap.size w w' := by
  by_cases hk : cchk m b = 0
  · have HK := Lib.hid hk
    clear hk
    go_enter Tryz.func47, Tryz.ntmps47
    go_wp2_with (first | (go_at_call 36; refine (ccheck_ok _ _ _ HK.out).mono ?_; rintro e w' ⟨rfl, hb⟩; obtain ⟨hc, hf⟩ := bcell hb; have hz := hb.size; (try simp at hz); (try have y1 := Nat.lt_of_succ_le hz); (try have y2 := Nat.lt_of_succ_lt y1); (try have y3 := Nat.lt_of_succ_lt y2); have hB := bstep (w := w) (by go_grown) hb; (try have z0 : w.heap.size < w'.heap.size := by omega); (try have z1 : w.heap.size + 1 < w'.heap.size := by omega); (try have z2 : w.heap.size + 1 + 1 < w'.heap.size := by omega); (try have z3 : w.heap.size + 1 + 1 + 1 < w'.heap.size := by omega)) | (go_at_call 35; refine (header_any _ _).mono ?_; rintro e w' ⟨rfl, rfl⟩))
    all_goals go_ret
    all_goals refine ⟨?_, by go_grown⟩
    all_goals (have hk := HK.out; (refine ret_bool ?_; go_light; unfold chas; rw [Bool.eq_iff_iff]; (try simp only [Bool.not_eq_true', Bool.not_eq_false', decide_eq_false_iff_not, decide_eq_true_eq, bne_iff_ne, ne_eq, bne_eq_false_iff_eq, beq_iff_eq, beq_eq_false_iff_ne, Bool.and_eq_true, Bool.or_eq_true, Bool.not_true, Bool.not_false, Bool.not_eq_true, Bool.false_eq_true, hdr_iff, hdr_not, false_iff, true_iff, iff_false, iff_true] at *); omega))
  · have HK := Lib.hid hk
    go_enter Tryz.func47, Tryz.ntmps47
    go_wp2_with (first | (go_at_call 36; refine (ccheck_bad _ _ _ HK.out).mono ?_; rintro e w' ⟨rfl, hb⟩; obtain ⟨hc, hf⟩ := bcell hb; have hz := hb.size; (try simp at hz); (try have y1 := Nat.lt_of_succ_le hz); (try have y2 := Nat.lt_of_succ_lt y1); (try have y3 := Nat.lt_of_succ_lt y2); have hB := bstep (w := w) (by go_grown) hb; (try have z0 : w.heap.size < w'.heap.size := by omega); (try have z1 : w.heap.size + 1 < w'.heap.size := by omega); (try have z2 : w.heap.size + 1 + 1 < w'.heap.size := by omega); (try have z3 : w.heap.size + 1 + 1 + 1 < w'.heap.size := by omega)))
    all_goals go_ret
    all_goals refine ⟨?_, by go_grown⟩
    all_goals (refine ret_bool ?_; go_light; unfold chas; rw [Bool.eq_iff_iff]; (try simp only [Bool.not_eq_true', Bool.not_eq_false', decide_eq_false_iff_not, decide_eq_true_eq, bne_iff_ne, ne_eq, bne_eq_false_iff_eq, beq_iff_eq, beq_eq_false_iff_ne, Bool.and_eq_true, Bool.or_eq_true, Bool.not_true, Bool.not_false, Bool.not_eq_true, Bool.false_eq_true, hdr_iff, hdr_not, false_iff, true_iff, iff_false, iff_true] at *); omega)

theorem header_yes (n : Int) (w : World) (h0 : 0 ≤ n) (h1 : n < 16) : Calls Tryz.prog 35 #[.int .i64 n] w fun e w' => e = .returned (.bool true) ∧ w = w' :=
  (header_any n w).mono fun _ _ ⟨he, hb⟩ => ⟨by rw [he, hdr_iff.2 ⟨h0, h1⟩], hb⟩
theorem header_no (n : Int) (w : World) (h : ¬ (0 ≤ n ∧ n < 16)) : Calls Tryz.prog 35 #[.int .i64 n] w fun e w' => e = .returned (.bool false) ∧ w = w' :=
  (header_any n w).mono fun _ _ ⟨he, hb⟩ => ⟨by rw [he, hdr_not.2 h], hb⟩
theorem chas_yes (m b h : Int) (w : World) (hh : chas m b h = true) : Calls Tryz.prog 47 #[.agg #[.int .i64 m, .int .i64 b], .int .i64 h] w fun e w' => e = .returned (.bool true) ∧ Below w.heap.size w w' :=
  (chas_any m b h w).mono fun _ _ ⟨he, hb⟩ => ⟨by rw [he, hh], hb⟩
theorem chas_no (m b h : Int) (w : World) (hh : chas m b h = false) : Calls Tryz.prog 47 #[.agg #[.int .i64 m, .int .i64 b], .int .i64 h] w fun e w' => e = .returned (.bool false) ∧ Below w.heap.size w w' :=
  (chas_any m b h w).mono fun _ _ ⟨he, hb⟩ => ⟨by rw [he, hh], hb⟩

theorem ones_range (n : Int) : 0 ≤ ones n ∧ ones n ≤ 4 := by unfold ones; omega
end Go.Proofs.YtilbgbhpdjjliaaGreatDoor
