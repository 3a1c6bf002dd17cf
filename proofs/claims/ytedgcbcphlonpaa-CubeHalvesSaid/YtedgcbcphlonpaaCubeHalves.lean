/- raillaw4.CubeHalves returns true for every cube and every bit: two halves are the whole. Conditions: none. -/
import Derived.Test.YtedgcbcphlonpaaOpen
import Derived.Test.YtedgcbcphlonpaaCube
import Derived.Test.YtedgcbcphlonpaaQuiet
import Derived.JoinedCond
namespace Go.Proofs.Ytedgcbcphlonpaa.lawCubeHalves
open Go.ChangeShapes Go.WideShapes Go.ChangeAt Go.RowKit
open Go.ChangeMaps (open_string shut_string)
set_option linter.unusedSimpArgs false
set_option linter.unusedVariables false

/-- over all cubes: what the two halves are -/
def halves (m b p : Int) : Bool :=
  !cmet (m + p) b (m + p) (b + p) && cinside (m + p) b m b && cinside (m + p) (b + p) m b && decide (ccount (m + p) (b + p) = ccount (m + p) b) && decide (ccount m b = 2 * ccount (m + p) b) &&
    decide (cfirst (m + p) b = b) && decide (cfirst m b = b) && decide (0 ≤ ccount (m + p) b ∧ ccount (m + p) b ≤ 16)
theorem halves_all : ∀ m b : Fin 16, ∀ p ∈ ([1, 2, 4, 8] : List Int), cchk ((m : Nat) : Int) ((b : Nat) : Int) = 0 → ((m : Nat) : Int) / p % 2 ≠ 1 → halves m b p = true := by decide +kernel
theorem halves_plain {m b p : Int} (h : cchk m b = 0) (hp : p ∈ ([1, 2, 4, 8] : List Int)) (h2 : ¬ m / p % 2 = 1) : halves m b p = true := by
  obtain ⟨⟨a1, a2, a3, a4⟩, -⟩ := cchk_0.1 h
  have e1 : ((m.toNat : Nat) : Int) = m := Int.toNat_of_nonneg a1
  have e2 : ((b.toNat : Nat) : Int) = b := Int.toNat_of_nonneg a3
  have := halves_all ⟨m.toNat, by omega⟩ ⟨b.toNat, by omega⟩ p hp
  simp only [e1, e2] at this
  exact this h h2
theorem count_full (w : World) : Calls Try.prog 15 #[.agg #[.int .i64 0, .int .i64 0]] w fun e w' => e = .returned (.int .i64 16) ∧ Below w.heap.size w w' :=
  (ccount_any 0 0 w).mono fun _ _ ⟨he, hb⟩ => ⟨by rw [he, show ccount 0 0 = 16 by decide +kernel], hb⟩

set_option maxHeartbeats 400000 in
theorem walk_bad (m b bit : Int) (w : World) (h : ¬ (cchk m b = 0 ∧ 0 ≤ bit ∧ bit ≤ 3)) : Calls Try.prog 5 #[.agg #[.int .i64 m, .int .i64 b], .int .i64 bit] w fun e w' => e = .returned (.bool true) ∧ Below w.heap.size w w' := by
  by_cases hk : cchk m b = 0
  · have HK := Lib.hid hk
    by_cases h0 : bit < 0
    · clear h hk
      go_enter Try.func5, Try.ntmps5
      go_wp2_with (first | (go_at_call 15; refine (count_full _).mono ?_; rintro e w' ⟨rfl, hb⟩; obtain ⟨hc, hf⟩ := bcell hb; have hz := hb.size; (try simp at hz); (try have y1 := Nat.lt_of_succ_le hz); (try have y2 := Nat.lt_of_succ_lt y1); (try have y3 := Nat.lt_of_succ_lt y2); have hB := bstep (w := w) (by go_grown) hb; (try have z0 : w.heap.size < w'.heap.size := by omega); (try have z1 : w.heap.size + 1 < w'.heap.size := by omega); (try have z2 : w.heap.size + 1 + 1 < w'.heap.size := by omega); (try have z3 : w.heap.size + 1 + 1 + 1 < w'.heap.size := by omega)) | (go_at_call 16; refine (ccheck_ok _ _ _ HK.out).mono ?_; rintro e w' ⟨rfl, hb⟩; obtain ⟨hc, hf⟩ := bcell hb; have hz := hb.size; (try simp at hz); (try have y1 := Nat.lt_of_succ_le hz); (try have y2 := Nat.lt_of_succ_lt y1); (try have y3 := Nat.lt_of_succ_lt y2); have hB := bstep (w := w) (by go_grown) hb; (try have z0 : w.heap.size < w'.heap.size := by omega); (try have z1 : w.heap.size + 1 < w'.heap.size := by omega); (try have z2 : w.heap.size + 1 + 1 < w'.heap.size := by omega); (try have z3 : w.heap.size + 1 + 1 + 1 < w'.heap.size := by omega)))
      go_ret
      exact ⟨ret_bool rfl, by go_grown⟩
    · have h3 : 3 < bit := by
        refine Classical.byContradiction fun h3 => h ⟨hk, by omega, by omega⟩
      clear h hk
      go_enter Try.func5, Try.ntmps5
      go_wp2_with (first | (go_at_call 15; refine (count_full _).mono ?_; rintro e w' ⟨rfl, hb⟩; obtain ⟨hc, hf⟩ := bcell hb; have hz := hb.size; (try simp at hz); (try have y1 := Nat.lt_of_succ_le hz); (try have y2 := Nat.lt_of_succ_lt y1); (try have y3 := Nat.lt_of_succ_lt y2); have hB := bstep (w := w) (by go_grown) hb; (try have z0 : w.heap.size < w'.heap.size := by omega); (try have z1 : w.heap.size + 1 < w'.heap.size := by omega); (try have z2 : w.heap.size + 1 + 1 < w'.heap.size := by omega); (try have z3 : w.heap.size + 1 + 1 + 1 < w'.heap.size := by omega)) | (go_at_call 16; refine (ccheck_ok _ _ _ HK.out).mono ?_; rintro e w' ⟨rfl, hb⟩; obtain ⟨hc, hf⟩ := bcell hb; have hz := hb.size; (try simp at hz); (try have y1 := Nat.lt_of_succ_le hz); (try have y2 := Nat.lt_of_succ_lt y1); (try have y3 := Nat.lt_of_succ_lt y2); have hB := bstep (w := w) (by go_grown) hb; (try have z0 : w.heap.size < w'.heap.size := by omega); (try have z1 : w.heap.size + 1 < w'.heap.size := by omega); (try have z2 : w.heap.size + 1 + 1 < w'.heap.size := by omega); (try have z3 : w.heap.size + 1 + 1 + 1 < w'.heap.size := by omega)))
      go_ret
      exact ⟨ret_bool rfl, by go_grown⟩
  · have HK := Lib.hid hk
    clear h hk
    go_enter Try.func5, Try.ntmps5
    go_wp2_with (first | (go_at_call 15; refine (count_full _).mono ?_; rintro e w' ⟨rfl, hb⟩; obtain ⟨hc, hf⟩ := bcell hb; have hz := hb.size; (try simp at hz); (try have y1 := Nat.lt_of_succ_le hz); (try have y2 := Nat.lt_of_succ_lt y1); (try have y3 := Nat.lt_of_succ_lt y2); have hB := bstep (w := w) (by go_grown) hb; (try have z0 : w.heap.size < w'.heap.size := by omega); (try have z1 : w.heap.size + 1 < w'.heap.size := by omega); (try have z2 : w.heap.size + 1 + 1 < w'.heap.size := by omega); (try have z3 : w.heap.size + 1 + 1 + 1 < w'.heap.size := by omega)) | (go_at_call 16; refine (ccheck_bad _ _ _ HK.out).mono ?_; rintro e w' ⟨rfl, hb⟩; obtain ⟨hc, hf⟩ := bcell hb; have hz := hb.size; (try simp at hz); (try have y1 := Nat.lt_of_succ_le hz); (try have y2 := Nat.lt_of_succ_lt y1); (try have y3 := Nat.lt_of_succ_lt y2); have hB := bstep (w := w) (by go_grown) hb; (try have z0 : w.heap.size < w'.heap.size := by omega); (try have z1 : w.heap.size + 1 < w'.heap.size := by omega); (try have z2 : w.heap.size + 1 + 1 < w'.heap.size := by omega); (try have z3 : w.heap.size + 1 + 1 + 1 < w'.heap.size := by omega)))
    go_ret
    exact ⟨ret_bool rfl, by go_grown⟩
set_option maxRecDepth 100000 in
set_option maxHeartbeats 800000 in
theorem walk_1 (m b : Int) (w : World) (h : cchk m b = 0) : Calls Try.prog 5 #[.agg #[.int .i64 m, .int .i64 b], .int .i64 0] w fun e w' => e = .returned (.bool true) ∧ Below w.heap.size w w' := by
  have HK := Lib.hid h
  obtain ⟨⟨a1, a2, a3, a4⟩, -⟩ := cchk_0.1 h
  by_cases h2 : m  % 2 = 1
  · clear h
    go_enter Try.func5, Try.ntmps5
    go_wp2_with (first | (go_at_call 15; refine (count_full _).mono ?_; rintro e w' ⟨rfl, hb⟩; obtain ⟨hc, hf⟩ := bcell hb; have hz := hb.size; (try simp at hz); (try have y1 := Nat.lt_of_succ_le hz); (try have y2 := Nat.lt_of_succ_lt y1); (try have y3 := Nat.lt_of_succ_lt y2); have hB := bstep (w := w) (by go_grown) hb; (try have z0 : w.heap.size < w'.heap.size := by omega); (try have z1 : w.heap.size + 1 < w'.heap.size := by omega); (try have z2 : w.heap.size + 1 + 1 < w'.heap.size := by omega); (try have z3 : w.heap.size + 1 + 1 + 1 < w'.heap.size := by omega)) | (go_at_call 16; refine (ccheck_ok _ _ _ HK.out).mono ?_; rintro e w' ⟨rfl, hb⟩; obtain ⟨hc, hf⟩ := bcell hb; have hz := hb.size; (try simp at hz); (try have y1 := Nat.lt_of_succ_le hz); (try have y2 := Nat.lt_of_succ_lt y1); (try have y3 := Nat.lt_of_succ_lt y2); have hB := bstep (w := w) (by go_grown) hb; (try have z0 : w.heap.size < w'.heap.size := by omega); (try have z1 : w.heap.size + 1 < w'.heap.size := by omega); (try have z2 : w.heap.size + 1 + 1 < w'.heap.size := by omega); (try have z3 : w.heap.size + 1 + 1 + 1 < w'.heap.size := by omega)))
    go_rounds 4
    go_ret
    exact ⟨ret_bool rfl, by go_grown⟩
  · have hp := halves_plain (p := 1) h (by simp) (by simpa using h2)
    simp only [halves, Bool.and_eq_true, Bool.not_eq_true', decide_eq_true_eq] at hp
    obtain ⟨⟨⟨⟨⟨⟨⟨q1, q2⟩, q3⟩, q4⟩, q5⟩, q6⟩, q7⟩, q8, q9⟩ := hp
    have X1 := Lib.hid (fun w => ccount_any (m + 1) b w)
    have X2 := Lib.hid (fun w => ccount_any (m + 1) (b + 1) w)
    have X3 := Lib.hid (fun w => ccount_any m b w)
    have X4 := Lib.hid (fun w => cfirst_any (m + 1) b w)
    have X5 := Lib.hid (fun w => cfirst_any m b w)
    have X6 := Lib.hid (fun w => cmeet_no _ _ _ _ w q1)
    have X7 := Lib.hid (fun w => cinside_any (m + 1) b m b w)
    have X8 := Lib.hid (fun w => cinside_any (m + 1) (b + 1) m b w)
    rw [q4] at X2; rw [q5] at X3; rw [q6] at X4; rw [q7] at X5; rw [q2] at X7; rw [q3] at X8
    generalize ccount (m + 1) b = N at *
    have hne : (m  % 2 == 1) = false := by simpa using h2
    clear h q1 q2 q3 q4 q5 q6 q7 h2
    go_enter Try.func5, Try.ntmps5
    go_wp2_with (first | (go_at_call 15; refine (count_full _).mono ?_; rintro e w' ⟨rfl, hb⟩; obtain ⟨hc, hf⟩ := bcell hb; have hz := hb.size; (try simp at hz); (try have y1 := Nat.lt_of_succ_le hz); (try have y2 := Nat.lt_of_succ_lt y1); (try have y3 := Nat.lt_of_succ_lt y2); have hB := bstep (w := w) (by go_grown) hb; (try have z0 : w.heap.size < w'.heap.size := by omega); (try have z1 : w.heap.size + 1 < w'.heap.size := by omega); (try have z2 : w.heap.size + 1 + 1 < w'.heap.size := by omega); (try have z3 : w.heap.size + 1 + 1 + 1 < w'.heap.size := by omega)) | (go_at_call 16; refine (ccheck_ok _ _ _ HK.out).mono ?_; rintro e w' ⟨rfl, hb⟩; obtain ⟨hc, hf⟩ := bcell hb; have hz := hb.size; (try simp at hz); (try have y1 := Nat.lt_of_succ_le hz); (try have y2 := Nat.lt_of_succ_lt y1); (try have y3 := Nat.lt_of_succ_lt y2); have hB := bstep (w := w) (by go_grown) hb; (try have z0 : w.heap.size < w'.heap.size := by omega); (try have z1 : w.heap.size + 1 < w'.heap.size := by omega); (try have z2 : w.heap.size + 1 + 1 < w'.heap.size := by omega); (try have z3 : w.heap.size + 1 + 1 + 1 < w'.heap.size := by omega)))
    refine wp_loop_rounds 5 ?_
    repeat (rw [rounds_succ]; go_wp2_with fail)
    (go_at_call 17; refine (X6.out _).mono ?_; rintro e w' ⟨rfl, hb⟩; obtain ⟨hc, hf⟩ := bcell hb; have hz := hb.size; (try simp at hz); (try have y1 := Nat.lt_of_succ_le hz); (try have y2 := Nat.lt_of_succ_lt y1); (try have y3 := Nat.lt_of_succ_lt y2); have hB := bstep (w := w) (by go_grown) hb; (try have z0 : w.heap.size < w'.heap.size := by omega); (try have z1 : w.heap.size + 1 < w'.heap.size := by omega); (try have z2 : w.heap.size + 1 + 1 < w'.heap.size := by omega); (try have z3 : w.heap.size + 1 + 1 + 1 < w'.heap.size := by omega))
    go_wp2_with fail
    refine wp_region_below (by kernel_rfl) (by kernel_rfl) ?_
    repeat (go_big_quiet_step ((first | (go_at_call 18; first | (with_reducible exact more_call (X7.out _)) | (with_reducible exact more_call (X8.out _))) | (go_at_call 15; first | (with_reducible exact more_call (X1.out _)) | (with_reducible exact more_call (X2.out _)) | (with_reducible exact more_call (X3.out _))) | (go_at_call 19; first | (with_reducible exact more_call (X4.out _)) | (with_reducible exact more_call (X5.out _))))))
    refine wpQuiet_nil ?_
    intro w2 hb
    have hB := bstep (w := w) (by go_grown) hb
    go_wp2_with fail
    go_ret
    exact ⟨ret_bool rfl, by go_grown⟩
set_option maxRecDepth 100000 in
set_option maxHeartbeats 800000 in
theorem walk_2 (m b : Int) (w : World) (h : cchk m b = 0) : Calls Try.prog 5 #[.agg #[.int .i64 m, .int .i64 b], .int .i64 1] w fun e w' => e = .returned (.bool true) ∧ Below w.heap.size w w' := by
  have HK := Lib.hid h
  obtain ⟨⟨a1, a2, a3, a4⟩, -⟩ := cchk_0.1 h
  by_cases h2 : m / 2 % 2 = 1
  · clear h
    go_enter Try.func5, Try.ntmps5
    go_wp2_with (first | (go_at_call 15; refine (count_full _).mono ?_; rintro e w' ⟨rfl, hb⟩; obtain ⟨hc, hf⟩ := bcell hb; have hz := hb.size; (try simp at hz); (try have y1 := Nat.lt_of_succ_le hz); (try have y2 := Nat.lt_of_succ_lt y1); (try have y3 := Nat.lt_of_succ_lt y2); have hB := bstep (w := w) (by go_grown) hb; (try have z0 : w.heap.size < w'.heap.size := by omega); (try have z1 : w.heap.size + 1 < w'.heap.size := by omega); (try have z2 : w.heap.size + 1 + 1 < w'.heap.size := by omega); (try have z3 : w.heap.size + 1 + 1 + 1 < w'.heap.size := by omega)) | (go_at_call 16; refine (ccheck_ok _ _ _ HK.out).mono ?_; rintro e w' ⟨rfl, hb⟩; obtain ⟨hc, hf⟩ := bcell hb; have hz := hb.size; (try simp at hz); (try have y1 := Nat.lt_of_succ_le hz); (try have y2 := Nat.lt_of_succ_lt y1); (try have y3 := Nat.lt_of_succ_lt y2); have hB := bstep (w := w) (by go_grown) hb; (try have z0 : w.heap.size < w'.heap.size := by omega); (try have z1 : w.heap.size + 1 < w'.heap.size := by omega); (try have z2 : w.heap.size + 1 + 1 < w'.heap.size := by omega); (try have z3 : w.heap.size + 1 + 1 + 1 < w'.heap.size := by omega)))
    go_rounds 4
    go_ret
    exact ⟨ret_bool rfl, by go_grown⟩
  · have hp := halves_plain (p := 2) h (by simp) (by simpa using h2)
    simp only [halves, Bool.and_eq_true, Bool.not_eq_true', decide_eq_true_eq] at hp
    obtain ⟨⟨⟨⟨⟨⟨⟨q1, q2⟩, q3⟩, q4⟩, q5⟩, q6⟩, q7⟩, q8, q9⟩ := hp
    have X1 := Lib.hid (fun w => ccount_any (m + 2) b w)
    have X2 := Lib.hid (fun w => ccount_any (m + 2) (b + 2) w)
    have X3 := Lib.hid (fun w => ccount_any m b w)
    have X4 := Lib.hid (fun w => cfirst_any (m + 2) b w)
    have X5 := Lib.hid (fun w => cfirst_any m b w)
    have X6 := Lib.hid (fun w => cmeet_no _ _ _ _ w q1)
    have X7 := Lib.hid (fun w => cinside_any (m + 2) b m b w)
    have X8 := Lib.hid (fun w => cinside_any (m + 2) (b + 2) m b w)
    rw [q4] at X2; rw [q5] at X3; rw [q6] at X4; rw [q7] at X5; rw [q2] at X7; rw [q3] at X8
    generalize ccount (m + 2) b = N at *
    have hne : (m / 2 % 2 == 1) = false := by simpa using h2
    clear h q1 q2 q3 q4 q5 q6 q7 h2
    go_enter Try.func5, Try.ntmps5
    go_wp2_with (first | (go_at_call 15; refine (count_full _).mono ?_; rintro e w' ⟨rfl, hb⟩; obtain ⟨hc, hf⟩ := bcell hb; have hz := hb.size; (try simp at hz); (try have y1 := Nat.lt_of_succ_le hz); (try have y2 := Nat.lt_of_succ_lt y1); (try have y3 := Nat.lt_of_succ_lt y2); have hB := bstep (w := w) (by go_grown) hb; (try have z0 : w.heap.size < w'.heap.size := by omega); (try have z1 : w.heap.size + 1 < w'.heap.size := by omega); (try have z2 : w.heap.size + 1 + 1 < w'.heap.size := by omega); (try have z3 : w.heap.size + 1 + 1 + 1 < w'.heap.size := by omega)) | (go_at_call 16; refine (ccheck_ok _ _ _ HK.out).mono ?_; rintro e w' ⟨rfl, hb⟩; obtain ⟨hc, hf⟩ := bcell hb; have hz := hb.size; (try simp at hz); (try have y1 := Nat.lt_of_succ_le hz); (try have y2 := Nat.lt_of_succ_lt y1); (try have y3 := Nat.lt_of_succ_lt y2); have hB := bstep (w := w) (by go_grown) hb; (try have z0 : w.heap.size < w'.heap.size := by omega); (try have z1 : w.heap.size + 1 < w'.heap.size := by omega); (try have z2 : w.heap.size + 1 + 1 < w'.heap.size := by omega); (try have z3 : w.heap.size + 1 + 1 + 1 < w'.heap.size := by omega)))
    refine wp_loop_rounds 5 ?_
    repeat (rw [rounds_succ]; go_wp2_with fail)
    (go_at_call 17; refine (X6.out _).mono ?_; rintro e w' ⟨rfl, hb⟩; obtain ⟨hc, hf⟩ := bcell hb; have hz := hb.size; (try simp at hz); (try have y1 := Nat.lt_of_succ_le hz); (try have y2 := Nat.lt_of_succ_lt y1); (try have y3 := Nat.lt_of_succ_lt y2); have hB := bstep (w := w) (by go_grown) hb; (try have z0 : w.heap.size < w'.heap.size := by omega); (try have z1 : w.heap.size + 1 < w'.heap.size := by omega); (try have z2 : w.heap.size + 1 + 1 < w'.heap.size := by omega); (try have z3 : w.heap.size + 1 + 1 + 1 < w'.heap.size := by omega))
    go_wp2_with fail
    refine wp_region_below (by kernel_rfl) (by kernel_rfl) ?_
    repeat (go_big_quiet_step ((first | (go_at_call 18; first | (with_reducible exact more_call (X7.out _)) | (with_reducible exact more_call (X8.out _))) | (go_at_call 15; first | (with_reducible exact more_call (X1.out _)) | (with_reducible exact more_call (X2.out _)) | (with_reducible exact more_call (X3.out _))) | (go_at_call 19; first | (with_reducible exact more_call (X4.out _)) | (with_reducible exact more_call (X5.out _))))))
    refine wpQuiet_nil ?_
    intro w2 hb
    have hB := bstep (w := w) (by go_grown) hb
    go_wp2_with fail
    go_ret
    exact ⟨ret_bool rfl, by go_grown⟩
set_option maxRecDepth 100000 in
set_option maxHeartbeats 800000 in
theorem walk_4 (m b : Int) (w : World) (h : cchk m b = 0) : Calls Try.prog 5 #[.agg #[.int .i64 m, .int .i64 b], .int .i64 2] w fun e w' => e = .returned (.bool true) ∧ Below w.heap.size w w' := by
  have HK := Lib.hid h
  obtain ⟨⟨a1, a2, a3, a4⟩, -⟩ := cchk_0.1 h
  by_cases h2 : m / 4 % 2 = 1
  · clear h
    go_enter Try.func5, Try.ntmps5
    go_wp2_with (first | (go_at_call 15; refine (count_full _).mono ?_; rintro e w' ⟨rfl, hb⟩; obtain ⟨hc, hf⟩ := bcell hb; have hz := hb.size; (try simp at hz); (try have y1 := Nat.lt_of_succ_le hz); (try have y2 := Nat.lt_of_succ_lt y1); (try have y3 := Nat.lt_of_succ_lt y2); have hB := bstep (w := w) (by go_grown) hb; (try have z0 : w.heap.size < w'.heap.size := by omega); (try have z1 : w.heap.size + 1 < w'.heap.size := by omega); (try have z2 : w.heap.size + 1 + 1 < w'.heap.size := by omega); (try have z3 : w.heap.size + 1 + 1 + 1 < w'.heap.size := by omega)) | (go_at_call 16; refine (ccheck_ok _ _ _ HK.out).mono ?_; rintro e w' ⟨rfl, hb⟩; obtain ⟨hc, hf⟩ := bcell hb; have hz := hb.size; (try simp at hz); (try have y1 := Nat.lt_of_succ_le hz); (try have y2 := Nat.lt_of_succ_lt y1); (try have y3 := Nat.lt_of_succ_lt y2); have hB := bstep (w := w) (by go_grown) hb; (try have z0 : w.heap.size < w'.heap.size := by omega); (try have z1 : w.heap.size + 1 < w'.heap.size := by omega); (try have z2 : w.heap.size + 1 + 1 < w'.heap.size := by omega); (try have z3 : w.heap.size + 1 + 1 + 1 < w'.heap.size := by omega)))
    go_rounds 4
    go_ret
    exact ⟨ret_bool rfl, by go_grown⟩
  · have hp := halves_plain (p := 4) h (by simp) (by simpa using h2)
    simp only [halves, Bool.and_eq_true, Bool.not_eq_true', decide_eq_true_eq] at hp
    obtain ⟨⟨⟨⟨⟨⟨⟨q1, q2⟩, q3⟩, q4⟩, q5⟩, q6⟩, q7⟩, q8, q9⟩ := hp
    have X1 := Lib.hid (fun w => ccount_any (m + 4) b w)
    have X2 := Lib.hid (fun w => ccount_any (m + 4) (b + 4) w)
    have X3 := Lib.hid (fun w => ccount_any m b w)
    have X4 := Lib.hid (fun w => cfirst_any (m + 4) b w)
    have X5 := Lib.hid (fun w => cfirst_any m b w)
    have X6 := Lib.hid (fun w => cmeet_no _ _ _ _ w q1)
    have X7 := Lib.hid (fun w => cinside_any (m + 4) b m b w)
    have X8 := Lib.hid (fun w => cinside_any (m + 4) (b + 4) m b w)
    rw [q4] at X2; rw [q5] at X3; rw [q6] at X4; rw [q7] at X5; rw [q2] at X7; rw [q3] at X8
    generalize ccount (m + 4) b = N at *
    have hne : (m / 4 % 2 == 1) = false := by simpa using h2
    clear h q1 q2 q3 q4 q5 q6 q7 h2
    go_enter Try.func5, Try.ntmps5
    go_wp2_with (first | (go_at_call 15; refine (count_full _).mono ?_; rintro e w' ⟨rfl, hb⟩; obtain ⟨hc, hf⟩ := bcell hb; have hz := hb.size; (try simp at hz); (try have y1 := Nat.lt_of_succ_le hz); (try have y2 := Nat.lt_of_succ_lt y1); (try have y3 := Nat.lt_of_succ_lt y2); have hB := bstep (w := w) (by go_grown) hb; (try have z0 : w.heap.size < w'.heap.size := by omega); (try have z1 : w.heap.size + 1 < w'.heap.size := by omega); (try have z2 : w.heap.size + 1 + 1 < w'.heap.size := by omega); (try have z3 : w.heap.size + 1 + 1 + 1 < w'.heap.size := by omega)) | (go_at_call 16; refine (ccheck_ok _ _ _ HK.out).mono ?_; rintro e w' ⟨rfl, hb⟩; obtain ⟨hc, hf⟩ := bcell hb; have hz := hb.size; (try simp at hz); (try have y1 := Nat.lt_of_succ_le hz); (try have y2 := Nat.lt_of_succ_lt y1); (try have y3 := Nat.lt_of_succ_lt y2); have hB := bstep (w := w) (by go_grown) hb; (try have z0 : w.heap.size < w'.heap.size := by omega); (try have z1 : w.heap.size + 1 < w'.heap.size := by omega); (try have z2 : w.heap.size + 1 + 1 < w'.heap.size := by omega); (try have z3 : w.heap.size + 1 + 1 + 1 < w'.heap.size := by omega)))
    refine wp_loop_rounds 5 ?_
    repeat (rw [rounds_succ]; go_wp2_with fail)
    (go_at_call 17; refine (X6.out _).mono ?_; rintro e w' ⟨rfl, hb⟩; obtain ⟨hc, hf⟩ := bcell hb; have hz := hb.size; (try simp at hz); (try have y1 := Nat.lt_of_succ_le hz); (try have y2 := Nat.lt_of_succ_lt y1); (try have y3 := Nat.lt_of_succ_lt y2); have hB := bstep (w := w) (by go_grown) hb; (try have z0 : w.heap.size < w'.heap.size := by omega); (try have z1 : w.heap.size + 1 < w'.heap.size := by omega); (try have z2 : w.heap.size + 1 + 1 < w'.heap.size := by omega); (try have z3 : w.heap.size + 1 + 1 + 1 < w'.heap.size := by omega))
    go_wp2_with fail
    refine wp_region_below (by kernel_rfl) (by kernel_rfl) ?_
    repeat (go_big_quiet_step ((first | (go_at_call 18; first | (with_reducible exact more_call (X7.out _)) | (with_reducible exact more_call (X8.out _))) | (go_at_call 15; first | (with_reducible exact more_call (X1.out _)) | (with_reducible exact more_call (X2.out _)) | (with_reducible exact more_call (X3.out _))) | (go_at_call 19; first | (with_reducible exact more_call (X4.out _)) | (with_reducible exact more_call (X5.out _))))))
    refine wpQuiet_nil ?_
    intro w2 hb
    have hB := bstep (w := w) (by go_grown) hb
    go_wp2_with fail
    go_ret
    exact ⟨ret_bool rfl, by go_grown⟩
set_option maxRecDepth 100000 in
set_option maxHeartbeats 800000 in
theorem walk_8 (m b : Int) (w : World) (h : cchk m b = 0) : Calls Try.prog 5 #[.agg #[.int .i64 m, .int .i64 b], .int .i64 3] w fun e w' => e = .returned (.bool true) ∧ Below w.heap.size w w' := by
  have HK := Lib.hid h
  obtain ⟨⟨a1, a2, a3, a4⟩, -⟩ := cchk_0.1 h
  by_cases h2 : m / 8 % 2 = 1
  · clear h
    go_enter Try.func5, Try.ntmps5
    go_wp2_with (first | (go_at_call 15; refine (count_full _).mono ?_; rintro e w' ⟨rfl, hb⟩; obtain ⟨hc, hf⟩ := bcell hb; have hz := hb.size; (try simp at hz); (try have y1 := Nat.lt_of_succ_le hz); (try have y2 := Nat.lt_of_succ_lt y1); (try have y3 := Nat.lt_of_succ_lt y2); have hB := bstep (w := w) (by go_grown) hb; (try have z0 : w.heap.size < w'.heap.size := by omega); (try have z1 : w.heap.size + 1 < w'.heap.size := by omega); (try have z2 : w.heap.size + 1 + 1 < w'.heap.size := by omega); (try have z3 : w.heap.size + 1 + 1 + 1 < w'.heap.size := by omega)) | (go_at_call 16; refine (ccheck_ok _ _ _ HK.out).mono ?_; rintro e w' ⟨rfl, hb⟩; obtain ⟨hc, hf⟩ := bcell hb; have hz := hb.size; (try simp at hz); (try have y1 := Nat.lt_of_succ_le hz); (try have y2 := Nat.lt_of_succ_lt y1); (try have y3 := Nat.lt_of_succ_lt y2); have hB := bstep (w := w) (by go_grown) hb; (try have z0 : w.heap.size < w'.heap.size := by omega); (try have z1 : w.heap.size + 1 < w'.heap.size := by omega); (try have z2 : w.heap.size + 1 + 1 < w'.heap.size := by omega); (try have z3 : w.heap.size + 1 + 1 + 1 < w'.heap.size := by omega)))
    go_rounds 4
    go_ret
    exact ⟨ret_bool rfl, by go_grown⟩
  · have hp := halves_plain (p := 8) h (by simp) (by simpa using h2)
    simp only [halves, Bool.and_eq_true, Bool.not_eq_true', decide_eq_true_eq] at hp
    obtain ⟨⟨⟨⟨⟨⟨⟨q1, q2⟩, q3⟩, q4⟩, q5⟩, q6⟩, q7⟩, q8, q9⟩ := hp
    have X1 := Lib.hid (fun w => ccount_any (m + 8) b w)
    have X2 := Lib.hid (fun w => ccount_any (m + 8) (b + 8) w)
    have X3 := Lib.hid (fun w => ccount_any m b w)
    have X4 := Lib.hid (fun w => cfirst_any (m + 8) b w)
    have X5 := Lib.hid (fun w => cfirst_any m b w)
    have X6 := Lib.hid (fun w => cmeet_no _ _ _ _ w q1)
    have X7 := Lib.hid (fun w => cinside_any (m + 8) b m b w)
    have X8 := Lib.hid (fun w => cinside_any (m + 8) (b + 8) m b w)
    rw [q4] at X2; rw [q5] at X3; rw [q6] at X4; rw [q7] at X5; rw [q2] at X7; rw [q3] at X8
    generalize ccount (m + 8) b = N at *
    have hne : (m / 8 % 2 == 1) = false := by simpa using h2
    clear h q1 q2 q3 q4 q5 q6 q7 h2
    go_enter Try.func5, Try.ntmps5
    go_wp2_with (first | (go_at_call 15; refine (count_full _).mono ?_; rintro e w' ⟨rfl, hb⟩; obtain ⟨hc, hf⟩ := bcell hb; have hz := hb.size; (try simp at hz); (try have y1 := Nat.lt_of_succ_le hz); (try have y2 := Nat.lt_of_succ_lt y1); (try have y3 := Nat.lt_of_succ_lt y2); have hB := bstep (w := w) (by go_grown) hb; (try have z0 : w.heap.size < w'.heap.size := by omega); (try have z1 : w.heap.size + 1 < w'.heap.size := by omega); (try have z2 : w.heap.size + 1 + 1 < w'.heap.size := by omega); (try have z3 : w.heap.size + 1 + 1 + 1 < w'.heap.size := by omega)) | (go_at_call 16; refine (ccheck_ok _ _ _ HK.out).mono ?_; rintro e w' ⟨rfl, hb⟩; obtain ⟨hc, hf⟩ := bcell hb; have hz := hb.size; (try simp at hz); (try have y1 := Nat.lt_of_succ_le hz); (try have y2 := Nat.lt_of_succ_lt y1); (try have y3 := Nat.lt_of_succ_lt y2); have hB := bstep (w := w) (by go_grown) hb; (try have z0 : w.heap.size < w'.heap.size := by omega); (try have z1 : w.heap.size + 1 < w'.heap.size := by omega); (try have z2 : w.heap.size + 1 + 1 < w'.heap.size := by omega); (try have z3 : w.heap.size + 1 + 1 + 1 < w'.heap.size := by omega)))
    refine wp_loop_rounds 5 ?_
    repeat (rw [rounds_succ]; go_wp2_with fail)
    (go_at_call 17; refine (X6.out _).mono ?_; rintro e w' ⟨rfl, hb⟩; obtain ⟨hc, hf⟩ := bcell hb; have hz := hb.size; (try simp at hz); (try have y1 := Nat.lt_of_succ_le hz); (try have y2 := Nat.lt_of_succ_lt y1); (try have y3 := Nat.lt_of_succ_lt y2); have hB := bstep (w := w) (by go_grown) hb; (try have z0 : w.heap.size < w'.heap.size := by omega); (try have z1 : w.heap.size + 1 < w'.heap.size := by omega); (try have z2 : w.heap.size + 1 + 1 < w'.heap.size := by omega); (try have z3 : w.heap.size + 1 + 1 + 1 < w'.heap.size := by omega))
    go_wp2_with fail
    refine wp_region_below (by kernel_rfl) (by kernel_rfl) ?_
    repeat (go_big_quiet_step ((first | (go_at_call 18; first | (with_reducible exact more_call (X7.out _)) | (with_reducible exact more_call (X8.out _))) | (go_at_call 15; first | (with_reducible exact more_call (X1.out _)) | (with_reducible exact more_call (X2.out _)) | (with_reducible exact more_call (X3.out _))) | (go_at_call 19; first | (with_reducible exact more_call (X4.out _)) | (with_reducible exact more_call (X5.out _))))))
    refine wpQuiet_nil ?_
    intro w2 hb
    have hB := bstep (w := w) (by go_grown) hb
    go_wp2_with fail
    go_ret
    exact ⟨ret_bool rfl, by go_grown⟩
theorem walk (m b bit : Int) (w : World) : Calls Try.prog 5 #[.agg #[.int .i64 m, .int .i64 b], .int .i64 bit] w fun e w' => e = .returned (.bool true) ∧ Below w.heap.size w w' := by
  by_cases h : cchk m b = 0 ∧ 0 ≤ bit ∧ bit ≤ 3
  · obtain ⟨h1, h2, h3⟩ := h
    obtain rfl | rfl | rfl | rfl : bit = 0 ∨ bit = 1 ∨ bit = 2 ∨ bit = 3 := by omega
    · exact walk_1 m b w h1
    · exact walk_2 m b w h1
    · exact walk_4 m b w h1
    · exact walk_8 m b w h1
  · exact walk_bad m b bit w h

set_option maxRecDepth 100000 in
theorem contract (H : Type) (enc : TypeId × Value → H) (W : World) (base : Nat) (args : Array Value) (ds gs : List (DataW H)) (before : List MemPlace)
    (hval : ∀ (j : Nat) t v, Try.f5.params[j]? = some t → args[j]? = some v → Value.okWide Try.prog W .any base t v)
    (hW : DataW.Whole enc Try.prog Try.f5.params.toList Rows.cubeHalvesSpec.vars false W args.toList ds gs before) :
    Calls Try.prog 5 args W fun e W' => ∃ v, e = .returned v ∧ Rows.cubeHalvesSpec.post enc Try.prog Try.f5 false true false false W args v W' := by
  have hW' := hW
  obtain ⟨p, q, hA0, hV, rfl, hfz, hnd⟩ := hW
  have hA : DataW.TrodAll enc Try.prog W 0 (fun _ => true) true Try.f5.params.toList args.toList ds p := hA0
  rw [Try.params5] at hA hval
  obtain ⟨v0, vs0, d0, ds0, p0, q0, hargs, rfl, rfl, h0, r0⟩ := trodAll_cons hA
  obtain ⟨v1, vs1, d1, ds1, p1, q1, rfl, rfl, rfl, h1, r1⟩ := trodAll_cons r0
  obtain ⟨rfl, rfl, rfl⟩ := trodAll_nil r1
  obtain rfl : args = #[v0, v1] := by cases args; simp_all
  obtain ⟨rfl, rfl⟩ := trodVars_none hV
  have k0 := h0
  have lt0 : ∀ x ∈ p0, x.block < W.heap.size := by obtain ⟨m, hm⟩ := k0; exact DataW.trod_lt m _ _ _ hm
  have k1 := h1
  have lt1 : ∀ x ∈ p1, x.block < W.heap.size := by obtain ⟨m, hm⟩ := k1; exact DataW.trod_lt m _ _ _ hm
  obtain ⟨m, b, rfl, im, ib⟩ := open_cube (hval 0 27 v0 rfl rfl) h0
  obtain ⟨bit, rfl, rfl, rfl, wf1⟩ := open_int Try.underlying3 (hval 1 3 v1 rfl rfl) h1
  have b1 := i64_of_wf wf1
  clear hA0
  refine (walk m b bit W).mono fun e W' ⟨he, bel⟩ => ?_
  subst he
  exact ⟨_, rfl, _, _, _, [], _, [], hW', trodAll_mk1 (shut_bool Try.underlying4 _), (trodAll_cons_mk (Below.trod laidOut (by kernel_rfl) (of_decide_eq_true (by kernel_rfl)) k0 bel lt0) (trodAll_cons_mk (Below.trod laidOut (by kernel_rfl) (of_decide_eq_true (by kernel_rfl)) k1 bel lt1) trodAll_mk0)), rfl, bel.frame _, fun h => by cases h⟩

set_option maxRecDepth 100000 in
theorem lifted (os : Os) (started : os.Started) (H : Type) (enc : TypeId × Value → H) :
    ReturnsInHanded {} Try.checked os 5 .any (Rows.cubeHalvesSpec.pre6 enc Try.prog Try.f5 Rows.cubeHalvesRow.domain false) (Rows.cubeHalvesSpec.post enc Try.prog Try.f5 false true false false) := by
  refine returnsInHanded_of_change (C := Try.checked) own started (by kernel_rfl) Try.func5
    (ChangeSpec.witness6 (enc := enc) (C := Try.checked) false ⟨#[], #[.agg #[.int .i64 0, .int .i64 0], .int .i64 0], []⟩ 8 (by kernel_rfl) (by kernel_rfl) (by kernel_rfl) (by kernel_rfl)) ?_
  intro W base args ds gs before hval0 hW hcnd _
  exact contract H enc W base args ds gs before hval0 hW

theorem over : Rows.cubeHalvesRow.holds Try.pinned (OpenSpec.ofChange Rows.cubeHalvesSpec) :=
  OpenClaim.holds_of_wide 5 Try.f5 rfl rfl rfl rfl rfl rfl rfl ⟨rfl, rfl, rfl, rfl, rfl⟩ rfl rfl rfl rfl rfl (by kernel_rfl) Try.func5 (by kernel_rfl)
    (of_decide_eq_true (by kernel_rfl)) (by unfold Func.isWrapper; first | (rw [if_pos (by decide +kernel)]; kernel_rfl) | (rw [if_neg (by decide +kernel)]; exact ⟨rfl, rfl⟩))
    (fun os started H enc _ => lifted os started H enc)

theorem proved : Rows.CubeHalvesSaid := over
end Go.Proofs.Ytedgcbcphlonpaa.lawCubeHalves
