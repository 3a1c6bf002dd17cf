/- What the functions of package cube come to. -/
import Derived.Test.YtedgcbcphlonpaaRows
import Derived.Test.YtedgcbcphlonpaaPlain
import Derived.WalkKit
import Derived.WalkSpells
import Derived.WalkLawsBesides
import Derived.Handy
import Derived.Deep.Light
import Derived.Lib.Hide
namespace Go.Proofs.Ytedgcbcphlonpaa
open Go.RowKit
set_option linter.unusedSimpArgs false
set_option linter.unusedVariables false

/-- an error as the program hands it back: nil, or an Errno -/
def errOf (n : Int) : Value := if n = 0 then .nilIface else .iface 23 (.int .i64 n)
theorem errOf_0 : errOf 0 = .nilIface := rfl
theorem errOf_ne {n : Int} (h : n ≠ 0) : errOf n = .iface 23 (.int .i64 n) := by simp [errOf, h]

set_option maxHeartbeats 400000 in
theorem header_any (n : Int) (w : World) : Calls Try.prog 44 #[.int .i64 n] w fun e w' => e = .returned (.bool (hdr n)) ∧ w = w' := by
  go_enter Try.func44, Try.ntmps44
  go_wp2
  all_goals go_ret
  all_goals (refine ⟨?_, rfl⟩; (refine ret_bool ?_; go_light; unfold hdr; rw [Bool.eq_iff_iff]; (try simp only [Bool.not_eq_true', Bool.not_eq_false', decide_eq_false_iff_not, decide_eq_true_eq, bne_iff_ne, ne_eq, bne_eq_false_iff_eq, beq_iff_eq, beq_eq_false_iff_ne, Bool.and_eq_true, Bool.or_eq_true, Bool.not_true, Bool.not_false, Bool.not_eq_true, Bool.false_eq_true, hdr_iff, hdr_not, false_iff, true_iff, iff_false, iff_true] at *); omega))

set_option maxHeartbeats 400000 in
theorem ccheck_any (m b : Int) (w : World) : Calls Try.prog 16 #[.agg #[.int .i64 m, .int .i64 b]] w fun e w' => e = .returned (errOf (cchk m b)) ∧ Below w.heap.size w w' := by
  go_enter Try.func16, Try.ntmps16
  go_wp2
  all_goals go_ret
  all_goals refine ⟨ret_val ?_, by go_grown⟩
  all_goals (go_light; (try simp only [Bool.not_eq_true', Bool.not_eq_false', decide_eq_false_iff_not, decide_eq_true_eq, bne_iff_ne, ne_eq, bne_eq_false_iff_eq, beq_iff_eq, beq_eq_false_iff_ne, Bool.and_eq_true, Bool.or_eq_true, Bool.not_true, Bool.not_false, Bool.not_eq_true, Bool.false_eq_true, hdr_iff, hdr_not, false_iff, true_iff, iff_false, iff_true] at *); (first | (have e0 : cchk m b = 0 := (by unfold cchk; (repeat' split) <;> omega); rw [e0]; rfl) | (have e0 : cchk m b = 1 := (by unfold cchk; (repeat' split) <;> omega); rw [e0]; rfl) | (have e0 : cchk m b = 3 := (by unfold cchk; (repeat' split) <;> omega); rw [e0]; rfl)))

theorem ccheck_ok (m b : Int) (w : World) (h : cchk m b = 0) : Calls Try.prog 16 #[.agg #[.int .i64 m, .int .i64 b]] w fun e w' => e = .returned .nilIface ∧ Below w.heap.size w w' :=
  (ccheck_any m b w).mono fun _ _ ⟨he, hb⟩ => ⟨by rw [he, h]; rfl, hb⟩
theorem ccheck_bad (m b : Int) (w : World) (h : cchk m b ≠ 0) : Calls Try.prog 16 #[.agg #[.int .i64 m, .int .i64 b]] w fun e w' => e = .returned (.iface 23 (.int .i64 (cchk m b))) ∧ Below w.heap.size w w' :=
  (ccheck_any m b w).mono fun _ _ ⟨he, hb⟩ => ⟨by rw [he, errOf_ne h], hb⟩

set_option maxHeartbeats 400000 in
theorem chas_any (m b h : Int) (w : World) : Calls Try.prog 30 #[.agg #[.int .i64 m, .int .i64 b], .int .i64 h] w fun e w' => e = .returned (.bool (chas m b h)) ∧ Below w.heap.size w w' := by
  by_cases hk : cchk m b = 0
  · have HK := Lib.hid hk
    clear hk
    go_enter Try.func30, Try.ntmps30
    go_wp2_with (first | (go_at_call 16; refine (ccheck_ok _ _ _ HK.out).mono ?_; rintro e w' ⟨rfl, hb⟩; obtain ⟨hc, hf⟩ := bcell hb; have hz := hb.size; (try simp at hz); (try have y1 := Nat.lt_of_succ_le hz); (try have y2 := Nat.lt_of_succ_lt y1); (try have y3 := Nat.lt_of_succ_lt y2); have hB := bstep (w := w) (by go_grown) hb; (try have z0 : w.heap.size < w'.heap.size := by omega); (try have z1 : w.heap.size + 1 < w'.heap.size := by omega); (try have z2 : w.heap.size + 1 + 1 < w'.heap.size := by omega); (try have z3 : w.heap.size + 1 + 1 + 1 < w'.heap.size := by omega)) | (go_at_call 44; refine (header_any _ _).mono ?_; rintro e w' ⟨rfl, rfl⟩))
    all_goals go_ret
    all_goals refine ⟨?_, by go_grown⟩
    all_goals (have hk := HK.out; (refine ret_bool ?_; go_light; unfold chas; rw [Bool.eq_iff_iff]; (try simp only [Bool.not_eq_true', Bool.not_eq_false', decide_eq_false_iff_not, decide_eq_true_eq, bne_iff_ne, ne_eq, bne_eq_false_iff_eq, beq_iff_eq, beq_eq_false_iff_ne, Bool.and_eq_true, Bool.or_eq_true, Bool.not_true, Bool.not_false, Bool.not_eq_true, Bool.false_eq_true, hdr_iff, hdr_not, false_iff, true_iff, iff_false, iff_true] at *); omega))
  · have HK := Lib.hid hk
    go_enter Try.func30, Try.ntmps30
    go_wp2_with (first | (go_at_call 16; refine (ccheck_bad _ _ _ HK.out).mono ?_; rintro e w' ⟨rfl, hb⟩; obtain ⟨hc, hf⟩ := bcell hb; have hz := hb.size; (try simp at hz); (try have y1 := Nat.lt_of_succ_le hz); (try have y2 := Nat.lt_of_succ_lt y1); (try have y3 := Nat.lt_of_succ_lt y2); have hB := bstep (w := w) (by go_grown) hb; (try have z0 : w.heap.size < w'.heap.size := by omega); (try have z1 : w.heap.size + 1 < w'.heap.size := by omega); (try have z2 : w.heap.size + 1 + 1 < w'.heap.size := by omega); (try have z3 : w.heap.size + 1 + 1 + 1 < w'.heap.size := by omega)))
    all_goals go_ret
    all_goals refine ⟨?_, by go_grown⟩
    all_goals (refine ret_bool ?_; go_light; unfold chas; rw [Bool.eq_iff_iff]; (try simp only [Bool.not_eq_true', Bool.not_eq_false', decide_eq_false_iff_not, decide_eq_true_eq, bne_iff_ne, ne_eq, bne_eq_false_iff_eq, beq_iff_eq, beq_eq_false_iff_ne, Bool.and_eq_true, Bool.or_eq_true, Bool.not_true, Bool.not_false, Bool.not_eq_true, Bool.false_eq_true, hdr_iff, hdr_not, false_iff, true_iff, iff_false, iff_true] at *); omega)

theorem header_yes (n : Int) (w : World) (h0 : 0 ≤ n) (h1 : n < 16) : Calls Try.prog 44 #[.int .i64 n] w fun e w' => e = .returned (.bool true) ∧ w = w' :=
  (header_any n w).mono fun _ _ ⟨he, hb⟩ => ⟨by rw [he, hdr_iff.2 ⟨h0, h1⟩], hb⟩
theorem header_no (n : Int) (w : World) (h : ¬ (0 ≤ n ∧ n < 16)) : Calls Try.prog 44 #[.int .i64 n] w fun e w' => e = .returned (.bool false) ∧ w = w' :=
  (header_any n w).mono fun _ _ ⟨he, hb⟩ => ⟨by rw [he, hdr_not.2 h], hb⟩
theorem chas_yes (m b h : Int) (w : World) (hh : chas m b h = true) : Calls Try.prog 30 #[.agg #[.int .i64 m, .int .i64 b], .int .i64 h] w fun e w' => e = .returned (.bool true) ∧ Below w.heap.size w w' :=
  (chas_any m b h w).mono fun _ _ ⟨he, hb⟩ => ⟨by rw [he, hh], hb⟩
theorem chas_no (m b h : Int) (w : World) (hh : chas m b h = false) : Calls Try.prog 30 #[.agg #[.int .i64 m, .int .i64 b], .int .i64 h] w fun e w' => e = .returned (.bool false) ∧ Below w.heap.size w w' :=
  (chas_any m b h w).mono fun _ _ ⟨he, hb⟩ => ⟨by rw [he, hh], hb⟩

theorem cboth_any (m b m2 b2 : Int) (w : World) : Calls Try.prog 46 #[.agg #[.int .i64 m, .int .i64 b], .agg #[.int .i64 m2, .int .i64 b2]] w fun e w' => e = .returned (.bool (decide (cchk m b = 0 ∧ cchk m2 b2 = 0))) ∧ Below w.heap.size w w' := by
  by_cases hk : cchk m b = 0
  · have HK := Lib.hid hk
    clear hk
    by_cases hk2 : cchk m2 b2 = 0
    · have HK2 := Lib.hid hk2
      clear hk2
      go_enter Try.func46, Try.ntmps46
      go_wp2_with fail
      (go_at_call 16; refine (ccheck_ok _ _ _ HK.out).mono ?_; rintro e w' ⟨rfl, hb⟩; obtain ⟨hc, hf⟩ := bcell hb; have hz := hb.size; (try simp at hz); (try have y1 := Nat.lt_of_succ_le hz); (try have y2 := Nat.lt_of_succ_lt y1); (try have y3 := Nat.lt_of_succ_lt y2); have hB := bstep (w := w) (by go_grown) hb; (try have z0 : w.heap.size < w'.heap.size := by omega); (try have z1 : w.heap.size + 1 < w'.heap.size := by omega); (try have z2 : w.heap.size + 1 + 1 < w'.heap.size := by omega); (try have z3 : w.heap.size + 1 + 1 + 1 < w'.heap.size := by omega))
      go_wp2_with fail
      (go_at_call 16; refine (ccheck_ok _ _ _ HK2.out).mono ?_; rintro e w' ⟨rfl, hb⟩; obtain ⟨hc, hf⟩ := bcell hb; have hz := hb.size; (try simp at hz); (try have y1 := Nat.lt_of_succ_le hz); (try have y2 := Nat.lt_of_succ_lt y1); (try have y3 := Nat.lt_of_succ_lt y2); have hB := bstep (w := w) (by go_grown) hb; (try have z0 : w.heap.size < w'.heap.size := by omega); (try have z1 : w.heap.size + 1 < w'.heap.size := by omega); (try have z2 : w.heap.size + 1 + 1 < w'.heap.size := by omega); (try have z3 : w.heap.size + 1 + 1 + 1 < w'.heap.size := by omega))
      go_wp2_with fail
      all_goals go_ret
      all_goals refine ⟨?_, by go_grown⟩
      all_goals (have hk := HK.out; have hk2 := HK2.out; (refine ret_bool ?_; go_light; rw [Bool.eq_iff_iff]; (try simp only [Bool.not_eq_true', Bool.not_eq_false', decide_eq_false_iff_not, decide_eq_true_eq, bne_iff_ne, ne_eq, bne_eq_false_iff_eq, beq_iff_eq, beq_eq_false_iff_ne, Bool.and_eq_true, Bool.or_eq_true, Bool.not_true, Bool.not_false, Bool.not_eq_true, Bool.false_eq_true, hdr_iff, hdr_not, false_iff, true_iff, iff_false, iff_true] at *); omega))
    · have HK2 := Lib.hid hk2
      clear hk2
      go_enter Try.func46, Try.ntmps46
      go_wp2_with fail
      (go_at_call 16; refine (ccheck_ok _ _ _ HK.out).mono ?_; rintro e w' ⟨rfl, hb⟩; obtain ⟨hc, hf⟩ := bcell hb; have hz := hb.size; (try simp at hz); (try have y1 := Nat.lt_of_succ_le hz); (try have y2 := Nat.lt_of_succ_lt y1); (try have y3 := Nat.lt_of_succ_lt y2); have hB := bstep (w := w) (by go_grown) hb; (try have z0 : w.heap.size < w'.heap.size := by omega); (try have z1 : w.heap.size + 1 < w'.heap.size := by omega); (try have z2 : w.heap.size + 1 + 1 < w'.heap.size := by omega); (try have z3 : w.heap.size + 1 + 1 + 1 < w'.heap.size := by omega))
      go_wp2_with fail
      (go_at_call 16; refine (ccheck_bad _ _ _ HK2.out).mono ?_; rintro e w' ⟨rfl, hb⟩; obtain ⟨hc, hf⟩ := bcell hb; have hz := hb.size; (try simp at hz); (try have y1 := Nat.lt_of_succ_le hz); (try have y2 := Nat.lt_of_succ_lt y1); (try have y3 := Nat.lt_of_succ_lt y2); have hB := bstep (w := w) (by go_grown) hb; (try have z0 : w.heap.size < w'.heap.size := by omega); (try have z1 : w.heap.size + 1 < w'.heap.size := by omega); (try have z2 : w.heap.size + 1 + 1 < w'.heap.size := by omega); (try have z3 : w.heap.size + 1 + 1 + 1 < w'.heap.size := by omega))
      go_wp2_with fail
      all_goals go_ret
      all_goals refine ⟨?_, by go_grown⟩
      all_goals (have hk := HK.out; have hk2 := HK2.out; (refine ret_bool ?_; go_light; rw [Bool.eq_iff_iff]; (try simp only [Bool.not_eq_true', Bool.not_eq_false', decide_eq_false_iff_not, decide_eq_true_eq, bne_iff_ne, ne_eq, bne_eq_false_iff_eq, beq_iff_eq, beq_eq_false_iff_ne, Bool.and_eq_true, Bool.or_eq_true, Bool.not_true, Bool.not_false, Bool.not_eq_true, Bool.false_eq_true, hdr_iff, hdr_not, false_iff, true_iff, iff_false, iff_true] at *); omega))
  · have HK := Lib.hid hk
    clear hk
    go_enter Try.func46, Try.ntmps46
    go_wp2_with fail
    (go_at_call 16; refine (ccheck_bad _ _ _ HK.out).mono ?_; rintro e w' ⟨rfl, hb⟩; obtain ⟨hc, hf⟩ := bcell hb; have hz := hb.size; (try simp at hz); (try have y1 := Nat.lt_of_succ_le hz); (try have y2 := Nat.lt_of_succ_lt y1); (try have y3 := Nat.lt_of_succ_lt y2); have hB := bstep (w := w) (by go_grown) hb; (try have z0 : w.heap.size < w'.heap.size := by omega); (try have z1 : w.heap.size + 1 < w'.heap.size := by omega); (try have z2 : w.heap.size + 1 + 1 < w'.heap.size := by omega); (try have z3 : w.heap.size + 1 + 1 + 1 < w'.heap.size := by omega))
    go_wp2_with fail
    all_goals go_ret
    all_goals refine ⟨?_, by go_grown⟩
    all_goals (have hk := HK.out; (refine ret_bool ?_; go_light; rw [Bool.eq_iff_iff]; (try simp only [Bool.not_eq_true', Bool.not_eq_false', decide_eq_false_iff_not, decide_eq_true_eq, bne_iff_ne, ne_eq, bne_eq_false_iff_eq, beq_iff_eq, beq_eq_false_iff_ne, Bool.and_eq_true, Bool.or_eq_true, Bool.not_true, Bool.not_false, Bool.not_eq_true, Bool.false_eq_true, hdr_iff, hdr_not, false_iff, true_iff, iff_false, iff_true] at *); omega))
theorem cboth_yes (m b m2 b2 : Int) (w : World) (h : cchk m b = 0 ∧ cchk m2 b2 = 0) : Calls Try.prog 46 #[.agg #[.int .i64 m, .int .i64 b], .agg #[.int .i64 m2, .int .i64 b2]] w fun e w' => e = .returned (.bool true) ∧ Below w.heap.size w w' :=
  (cboth_any m b m2 b2 w).mono fun _ _ ⟨he, hb⟩ => ⟨by rw [he, decide_eq_true h], hb⟩
theorem cboth_no (m b m2 b2 : Int) (w : World) (h : ¬ (cchk m b = 0 ∧ cchk m2 b2 = 0)) : Calls Try.prog 46 #[.agg #[.int .i64 m, .int .i64 b], .agg #[.int .i64 m2, .int .i64 b2]] w fun e w' => e = .returned (.bool false) ∧ Below w.heap.size w w' :=
  (cboth_any m b m2 b2 w).mono fun _ _ ⟨he, hb⟩ => ⟨by rw [he, decide_eq_false h], hb⟩

set_option maxHeartbeats 400000 in
theorem cmeet_yes (m b m2 b2 : Int) (w : World) (h : cmet m b m2 b2 = true) : Calls Try.prog 17 #[.agg #[.int .i64 m, .int .i64 b], .agg #[.int .i64 m2, .int .i64 b2]] w fun e w' => e = .returned (.tuple #[.agg #[.int .i64 (bits .or .i64 m m2), .int .i64 (bits .or .i64 b b2)], .bool true]) ∧ Below w.heap.size w w' := by
  have HK := Lib.hid (cmet_iff.1 h).1
  have h2 : (bits .and .i64 (bits .and .i64 (bits .xor .i64 b b2) m) m2 != 0) = false := by simpa using (cmet_iff.1 h).2
  clear h
  go_enter Try.func17, Try.ntmps17
  go_wp2_with (go_at_call 46; refine (cboth_yes _ _ _ _ _ HK.out).mono ?_; rintro e w' ⟨rfl, hb⟩; obtain ⟨hc, hf⟩ := bcell hb; have hz := hb.size; (try simp at hz); (try have y1 := Nat.lt_of_succ_le hz); (try have y2 := Nat.lt_of_succ_lt y1); (try have y3 := Nat.lt_of_succ_lt y2); have hB := bstep (w := w) (by go_grown) hb; (try have z0 : w.heap.size < w'.heap.size := by omega); (try have z1 : w.heap.size + 1 < w'.heap.size := by omega); (try have z2 : w.heap.size + 1 + 1 < w'.heap.size := by omega); (try have z3 : w.heap.size + 1 + 1 + 1 < w'.heap.size := by omega))
  refine bodyPost_ret (v := .tuple #[.agg #[.int .i64 (bits .or .i64 m m2), .int .i64 (bits .or .i64 b b2)], .bool true]) (by simp [results, Try.results17, go_sem, hc, hz]) rfl ?_
  exact ⟨rfl, by go_grown⟩
set_option maxHeartbeats 400000 in
theorem cmeet_no (m b m2 b2 : Int) (w : World) (h : cmet m b m2 b2 = false) : Calls Try.prog 17 #[.agg #[.int .i64 m, .int .i64 b], .agg #[.int .i64 m2, .int .i64 b2]] w fun e w' => e = .returned (.tuple #[.agg #[.int .i64 0, .int .i64 0], .bool false]) ∧ Below w.heap.size w w' := by
  by_cases hk : cchk m b = 0 ∧ cchk m2 b2 = 0
  · have h2 : (bits .and .i64 (bits .and .i64 (bits .xor .i64 b b2) m) m2 != 0) = true := by
      rw [bne_iff_ne]; intro h3; rw [cmet_iff.2 ⟨hk, h3⟩] at h; cases h
    have HK := Lib.hid hk
    clear h hk
    go_enter Try.func17, Try.ntmps17
    go_wp2_with (go_at_call 46; refine (cboth_yes _ _ _ _ _ HK.out).mono ?_; rintro e w' ⟨rfl, hb⟩; obtain ⟨hc, hf⟩ := bcell hb; have hz := hb.size; (try simp at hz); (try have y1 := Nat.lt_of_succ_le hz); (try have y2 := Nat.lt_of_succ_lt y1); (try have y3 := Nat.lt_of_succ_lt y2); have hB := bstep (w := w) (by go_grown) hb; (try have z0 : w.heap.size < w'.heap.size := by omega); (try have z1 : w.heap.size + 1 < w'.heap.size := by omega); (try have z2 : w.heap.size + 1 + 1 < w'.heap.size := by omega); (try have z3 : w.heap.size + 1 + 1 + 1 < w'.heap.size := by omega))
    refine bodyPost_ret (v := .tuple #[.agg #[.int .i64 0, .int .i64 0], .bool false]) (by simp [results, Try.results17, go_sem, hc, hz]) rfl ?_
    exact ⟨rfl, by go_grown⟩
  · have HK := Lib.hid hk
    clear h hk
    go_enter Try.func17, Try.ntmps17
    go_wp2_with (go_at_call 46; refine (cboth_no _ _ _ _ _ HK.out).mono ?_; rintro e w' ⟨rfl, hb⟩; obtain ⟨hc, hf⟩ := bcell hb; have hz := hb.size; (try simp at hz); (try have y1 := Nat.lt_of_succ_le hz); (try have y2 := Nat.lt_of_succ_lt y1); (try have y3 := Nat.lt_of_succ_lt y2); have hB := bstep (w := w) (by go_grown) hb; (try have z0 : w.heap.size < w'.heap.size := by omega); (try have z1 : w.heap.size + 1 < w'.heap.size := by omega); (try have z2 : w.heap.size + 1 + 1 < w'.heap.size := by omega); (try have z3 : w.heap.size + 1 + 1 + 1 < w'.heap.size := by omega))
    refine bodyPost_ret (v := .tuple #[.agg #[.int .i64 0, .int .i64 0], .bool false]) (by simp [results, Try.results17, go_sem, hc, hz]) rfl ?_
    exact ⟨rfl, by go_grown⟩
set_option maxHeartbeats 400000 in
theorem cinside_any (m b m2 b2 : Int) (w : World) : Calls Try.prog 18 #[.agg #[.int .i64 m, .int .i64 b], .agg #[.int .i64 m2, .int .i64 b2]] w fun e w' => e = .returned (.bool (cinside m b m2 b2)) ∧ Below w.heap.size w w' := by
  by_cases hk : cchk m b = 0 ∧ cchk m2 b2 = 0
  · have HK := Lib.hid hk
    clear hk
    go_enter Try.func18, Try.ntmps18
    go_wp2_with (go_at_call 46; refine (cboth_yes _ _ _ _ _ HK.out).mono ?_; rintro e w' ⟨rfl, hb⟩; obtain ⟨hc, hf⟩ := bcell hb; have hz := hb.size; (try simp at hz); (try have y1 := Nat.lt_of_succ_le hz); (try have y2 := Nat.lt_of_succ_lt y1); (try have y3 := Nat.lt_of_succ_lt y2); have hB := bstep (w := w) (by go_grown) hb; (try have z0 : w.heap.size < w'.heap.size := by omega); (try have z1 : w.heap.size + 1 < w'.heap.size := by omega); (try have z2 : w.heap.size + 1 + 1 < w'.heap.size := by omega); (try have z3 : w.heap.size + 1 + 1 + 1 < w'.heap.size := by omega))
    all_goals go_ret
    all_goals refine ⟨?_, by go_grown⟩
    all_goals (have hk := HK.out; (refine ret_bool ?_; go_light; unfold cinside; rw [Bool.eq_iff_iff]; (try simp only [Bool.not_eq_true', Bool.not_eq_false', decide_eq_false_iff_not, decide_eq_true_eq, bne_iff_ne, ne_eq, bne_eq_false_iff_eq, beq_iff_eq, beq_eq_false_iff_ne, Bool.and_eq_true, Bool.or_eq_true, Bool.not_true, Bool.not_false, Bool.not_eq_true, Bool.false_eq_true, hdr_iff, hdr_not, false_iff, true_iff, iff_false, iff_true] at *); omega))
  · have HK := Lib.hid hk
    clear hk
    go_enter Try.func18, Try.ntmps18
    go_wp2_with (go_at_call 46; refine (cboth_no _ _ _ _ _ HK.out).mono ?_; rintro e w' ⟨rfl, hb⟩; obtain ⟨hc, hf⟩ := bcell hb; have hz := hb.size; (try simp at hz); (try have y1 := Nat.lt_of_succ_le hz); (try have y2 := Nat.lt_of_succ_lt y1); (try have y3 := Nat.lt_of_succ_lt y2); have hB := bstep (w := w) (by go_grown) hb; (try have z0 : w.heap.size < w'.heap.size := by omega); (try have z1 : w.heap.size + 1 < w'.heap.size := by omega); (try have z2 : w.heap.size + 1 + 1 < w'.heap.size := by omega); (try have z3 : w.heap.size + 1 + 1 + 1 < w'.heap.size := by omega))
    all_goals go_ret
    all_goals refine ⟨?_, by go_grown⟩
    all_goals (have hk := HK.out; (refine ret_bool ?_; go_light; unfold cinside; rw [Bool.eq_iff_iff]; (try simp only [Bool.not_eq_true', Bool.not_eq_false', decide_eq_false_iff_not, decide_eq_true_eq, bne_iff_ne, ne_eq, bne_eq_false_iff_eq, beq_iff_eq, beq_eq_false_iff_ne, Bool.and_eq_true, Bool.or_eq_true, Bool.not_true, Bool.not_false, Bool.not_eq_true, Bool.false_eq_true, hdr_iff, hdr_not, false_iff, true_iff, iff_false, iff_true] at *); omega))
theorem cfirst_any (m b : Int) (w : World) : Calls Try.prog 19 #[.agg #[.int .i64 m, .int .i64 b]] w fun e w' => e = .returned (.int .i64 (cfirst m b)) ∧ Below w.heap.size w w' := by
  by_cases hk : cchk m b = 0
  · have HK := Lib.hid hk
    have e0 := Lib.hid (show cfirst m b = b by simp [cfirst, hk])
    clear hk
    go_enter Try.func19, Try.ntmps19
    go_wp2_with (go_at_call 16; refine (ccheck_ok _ _ _ HK.out).mono ?_; rintro e w' ⟨rfl, hb⟩; obtain ⟨hc, hf⟩ := bcell hb; have hz := hb.size; (try simp at hz); (try have y1 := Nat.lt_of_succ_le hz); (try have y2 := Nat.lt_of_succ_lt y1); (try have y3 := Nat.lt_of_succ_lt y2); have hB := bstep (w := w) (by go_grown) hb; (try have z0 : w.heap.size < w'.heap.size := by omega); (try have z1 : w.heap.size + 1 < w'.heap.size := by omega); (try have z2 : w.heap.size + 1 + 1 < w'.heap.size := by omega); (try have z3 : w.heap.size + 1 + 1 + 1 < w'.heap.size := by omega))
    all_goals go_ret
    exact ⟨by rw [e0.out]; rfl, by go_grown⟩
  · have HK := Lib.hid hk
    have e0 := Lib.hid (show cfirst m b = 0 by simp [cfirst, hk])
    clear hk
    go_enter Try.func19, Try.ntmps19
    go_wp2_with (go_at_call 16; refine (ccheck_bad _ _ _ HK.out).mono ?_; rintro e w' ⟨rfl, hb⟩; obtain ⟨hc, hf⟩ := bcell hb; have hz := hb.size; (try simp at hz); (try have y1 := Nat.lt_of_succ_le hz); (try have y2 := Nat.lt_of_succ_lt y1); (try have y3 := Nat.lt_of_succ_lt y2); have hB := bstep (w := w) (by go_grown) hb; (try have z0 : w.heap.size < w'.heap.size := by omega); (try have z1 : w.heap.size + 1 < w'.heap.size := by omega); (try have z2 : w.heap.size + 1 + 1 < w'.heap.size := by omega); (try have z3 : w.heap.size + 1 + 1 + 1 < w'.heap.size := by omega))
    all_goals go_ret
    exact ⟨by rw [e0.out]; rfl, by go_grown⟩
set_option maxHeartbeats 400000 in
theorem ones64_any (n : Int) (w : World) (h0 : 0 ≤ n) (h1 : n < 16) : Calls Try.prog 73 #[.int .u64 n] w fun e w' => e = .returned (.int .i64 (ones n)) ∧ w = w' := by
  obtain rfl | rfl | rfl | rfl | rfl | rfl | rfl | rfl | rfl | rfl | rfl | rfl | rfl | rfl | rfl | rfl : n = 0 ∨ n = 1 ∨ n = 2 ∨ n = 3 ∨ n = 4 ∨ n = 5 ∨ n = 6 ∨ n = 7 ∨ n = 8 ∨ n = 9 ∨ n = 10 ∨ n = 11 ∨ n = 12 ∨ n = 13 ∨ n = 14 ∨ n = 15 := by omega
  all_goals clear h0 h1
  all_goals go_enter Try.func73, Try.ntmps73
  all_goals go_wp2
  all_goals go_ret
  all_goals exact ⟨by kernel_rfl, rfl⟩
set_option maxHeartbeats 400000 in
theorem ones_any (n : Int) (w : World) (h0 : 0 ≤ n) (h1 : n < 16) : Calls Try.prog 45 #[.int .u64 n] w fun e w' => e = .returned (.int .i64 (ones n)) ∧ w = w' := by
  go_enter Try.func45, Try.ntmps45
  go_wp2_with (go_at_call 73; refine (ones64_any _ _ h0 h1).mono ?_; rintro e w' ⟨rfl, rfl⟩)
  go_ret
  exact ⟨rfl, rfl⟩
theorem ones_range (n : Int) : 0 ≤ ones n ∧ ones n ≤ 4 := by unfold ones; omega
theorem ccount_any (m b : Int) (w : World) : Calls Try.prog 15 #[.agg #[.int .i64 m, .int .i64 b]] w fun e w' => e = .returned (.int .i64 (ccount m b)) ∧ Below w.heap.size w w' := by
  by_cases hk : cchk m b = 0
  · have HK := Lib.hid hk
    have e0 := Lib.hid (ccount_ok hk)
    obtain ⟨⟨h0, h1, -⟩, -⟩ := cchk_0.1 hk
    obtain ⟨h2, h3⟩ := ones_range m
    clear hk
    go_enter Try.func15, Try.ntmps15
    go_wp2_with (first | (go_at_call 16; refine (ccheck_ok _ _ _ HK.out).mono ?_; rintro e w' ⟨rfl, hb⟩; obtain ⟨hc, hf⟩ := bcell hb; have hz := hb.size; (try simp at hz); (try have y1 := Nat.lt_of_succ_le hz); (try have y2 := Nat.lt_of_succ_lt y1); (try have y3 := Nat.lt_of_succ_lt y2); have hB := bstep (w := w) (by go_grown) hb; (try have z0 : w.heap.size < w'.heap.size := by omega); (try have z1 : w.heap.size + 1 < w'.heap.size := by omega); (try have z2 : w.heap.size + 1 + 1 < w'.heap.size := by omega); (try have z3 : w.heap.size + 1 + 1 + 1 < w'.heap.size := by omega)) | (go_at_call 45; refine (ones_any _ _ h0 h1).mono ?_; rintro e w' ⟨rfl, rfl⟩))
    all_goals go_ret
    have hc4 : 4 - ones m = 0 ∨ 4 - ones m = 1 ∨ 4 - ones m = 2 ∨ 4 - ones m = 3 ∨ 4 - ones m = 4 := by omega
    refine ⟨?_, by go_grown⟩
    rw [e0.out]
    show Ending.returned (.int .i64 (wrap64 (2 ^ (4 - ones m).toNat))) = _
    rcases hc4 with e | e | e | e | e <;> rw [e] <;> kernel_rfl
  · have HK := Lib.hid hk
    have e0 := Lib.hid (show ccount m b = 0 by simp [ccount, hk])
    clear hk
    go_enter Try.func15, Try.ntmps15
    go_wp2_with (go_at_call 16; refine (ccheck_bad _ _ _ HK.out).mono ?_; rintro e w' ⟨rfl, hb⟩; obtain ⟨hc, hf⟩ := bcell hb; have hz := hb.size; (try simp at hz); (try have y1 := Nat.lt_of_succ_le hz); (try have y2 := Nat.lt_of_succ_lt y1); (try have y3 := Nat.lt_of_succ_lt y2); have hB := bstep (w := w) (by go_grown) hb; (try have z0 : w.heap.size < w'.heap.size := by omega); (try have z1 : w.heap.size + 1 < w'.heap.size := by omega); (try have z2 : w.heap.size + 1 + 1 < w'.heap.size := by omega); (try have z3 : w.heap.size + 1 + 1 + 1 < w'.heap.size := by omega))
    all_goals go_ret
    exact ⟨by rw [e0.out]; rfl, by go_grown⟩
end Go.Proofs.Ytedgcbcphlonpaa
