/- raillaw1.CubeBack returns true for every two cubes and every text: what is shown is read as it was; two that meet have what both have. Conditions: none. -/
import Derived.Test.YtedgcbcphlonpaaOpen
import Derived.Test.YtedgcbcphlonpaaCubeFacts
import Derived.Test.YtedgcbcphlonpaaQuiet
import Derived.JoinedCond
namespace Go.Proofs.Ytedgcbcphlonpaa.lawCubeBack
open Go.ChangeShapes Go.WideShapes Go.ChangeAt Go.RowKit
open Go.ChangeMaps (open_string shut_string)
set_option linter.unusedSimpArgs false
set_option linter.unusedVariables false

theorem print_bad (m b : Int) (w : World) (h : cchk m b ≠ 0) : Calls Try.prog 21 #[.agg #[.int .i64 m, .int .i64 b]] w fun e w' => e = .returned (.tuple #[.string ⟨#[]⟩, .iface 23 (.int .i64 (cchk m b))]) ∧ Below w.heap.size w w' := by
  have HK := Lib.hid h
  clear h
  go_enter Try.func21, Try.ntmps21
  go_wp2_with fail
  (go_at_call 16; refine (ccheck_bad _ _ _ HK.out).mono ?_; rintro e w' ⟨rfl, hb⟩; obtain ⟨hc, hf⟩ := bcell hb; have hz := hb.size; (try simp at hz); (try have y1 := Nat.lt_of_succ_le hz); (try have y2 := Nat.lt_of_succ_lt y1); (try have y3 := Nat.lt_of_succ_lt y2); have hB := bstep (w := w) (by go_grown) hb; (try have z0 : w.heap.size < w'.heap.size := by omega); (try have z1 : w.heap.size + 1 < w'.heap.size := by omega); (try have z2 : w.heap.size + 1 + 1 < w'.heap.size := by omega); (try have z3 : w.heap.size + 1 + 1 + 1 < w'.heap.size := by omega))
  go_wp2_with fail
  go_ret2
  exact ⟨rfl, by go_grown⟩
theorem parse_ok {s : ByteArray} {m b : Int} (h : cparse s = some (m, b)) (w : World) : Calls Try.prog 20 #[.string s] w fun e w' => e = .returned (.tuple #[.agg #[.int .i64 m, .int .i64 b], .nilIface]) ∧ Below w.heap.size w w' :=
  (cparse_any s w).mono fun _ _ ⟨he, hb⟩ => ⟨by rw [he, (parse_some h).1, (parse_some h).2.1, (parse_some h).2.2]; rfl, hb⟩
theorem parse_no {s : ByteArray} (h : cparse s = none) (w : World) : Calls Try.prog 20 #[.string s] w fun e w' => e = .returned (.tuple #[.agg #[.int .i64 0, .int .i64 0], .iface 23 (.int .i64 2)]) ∧ Below w.heap.size w w' :=
  (cparse_any s w).mono fun _ _ ⟨he, hb⟩ => ⟨by rw [he, (parse_none h).1, (parse_none h).2.1, (parse_none h).2.2]; rfl, hb⟩
theorem fact_parse (w : World) : Calls Try.prog 20 #[.string ⟨#[49, 42, 48, 42]⟩] w fun e w' => e = .returned (.tuple #[.agg #[.int .i64 10, .int .i64 8], .nilIface]) ∧ Below w.heap.size w w' :=
  parse_ok (by decide +kernel) w

set_option maxRecDepth 100000 in
set_option maxHeartbeats 1600000 in
theorem walk_111 (m b m2 b2 : Int) (s : ByteArray) (w : World) (hA : cchk m b = 0) (m3 b3 : Int) (hS : cparse s = some (m3, b3)) (hM : cmet m b m2 b2 = true) : Calls Try.prog 6 #[.agg #[.int .i64 m, .int .i64 b], .agg #[.int .i64 m2, .int .i64 b2], .string s] w fun e w' => e = .returned (.bool true) ∧ Below w.heap.size w w' := by
  have C1 := Lib.hid (fun w => print_ok m b w hA)
  have C2 := Lib.hid (fun w => parse_ok (cparse_cshow hA) w)
  generalize cshow m b = t1 at *
  obtain ⟨u1, u2⟩ := cparse_back hS
  have C3 := Lib.hid (fun w => parse_ok hS w)
  have C4 := Lib.hid (fun w => print_ok m3 b3 w u1)
  rw [u2] at C4
  clear u1 u2 hS
  have hv := (cmet_iff.1 hM).1
  have hp := pair_ok hv.1 hv.2
  simp only [pairOk, hM, Bool.not_true, Bool.false_or, Bool.and_eq_true, decide_eq_true_eq, beq_iff_eq, Bool.true_and, Bool.or_eq_true, Bool.not_eq_true'] at hp
  obtain ⟨⟨⟨⟨p1, p2⟩, p3⟩, ⟨p4, p5⟩, p6⟩, p7⟩ := hp
  have C5 := Lib.hid (fun w => cmeet_yes m b m2 b2 w hM)
  have C6 := Lib.hid (fun w => cmeet_yes m2 b2 m b w p1.symm)
  rw [← p2, ← p3] at C6
  have C7 := Lib.hid (fun w => ccount_any (bits .or .i64 m m2) (bits .or .i64 b b2) w)
  have C8 := Lib.hid (fun w => ccount_any m b w)
  have C9 := Lib.hid (fun w => (cinside_any (bits .or .i64 m m2) (bits .or .i64 b b2) m b w))
  have C10 := Lib.hid (fun w => (cinside_any (bits .or .i64 m m2) (bits .or .i64 b b2) m2 b2 w))
  rw [p5] at C9; rw [p6] at C10
  have C11 := Lib.hid (fun w => cinside_any m b m2 b2 w)
  generalize ccount (bits .or .i64 m m2) (bits .or .i64 b b2) = N1 at *
  generalize ccount m b = N2 at *
  generalize bits .or .i64 m m2 = mm at *
  generalize bits .or .i64 b b2 = bb at *
  have hd : decide (N2 < N1) = false := by simpa using p4
  have P7 := Lib.hid p7
  clear hM hv p1 p2 p3 p5 p6 p7 hA
  go_enter Try.func6, Try.ntmps6
  go_wp2_with fail
  (go_at_call 20; refine (fact_parse _).mono ?_; rintro e w1 ⟨rfl, hbw1⟩; obtain ⟨hcw1, hfw1⟩ := bcell hbw1; have hzw1 := hbw1.size; (try simp at hzw1); have hBw1 := bstep (w := w) (by go_grown) hbw1; (try have : w.heap.size < w1.heap.size := by omega); (try have : w.heap.size + 1 < w1.heap.size := by omega); (try have : w.heap.size + 1 + 1 < w1.heap.size := by omega); (try have : w.heap.size + 1 + 1 + 1 < w1.heap.size := by omega))
  go_wp2_with fail
  (go_at_call 21; refine (C1.out _).mono ?_; rintro e w2 ⟨rfl, hbw2⟩; obtain ⟨hcw2, hfw2⟩ := bcell hbw2; have hzw2 := hbw2.size; (try simp at hzw2); have hBw2 := bstep (w := w) (by go_grown) hbw2; (try have : w.heap.size < w2.heap.size := by omega); (try have : w.heap.size + 1 < w2.heap.size := by omega); (try have : w.heap.size + 1 + 1 < w2.heap.size := by omega); (try have : w.heap.size + 1 + 1 + 1 < w2.heap.size := by omega))
  go_wp2_with fail
  (go_at_call 20; refine (C2.out _).mono ?_; rintro e w3 ⟨rfl, hbw3⟩; obtain ⟨hcw3, hfw3⟩ := bcell hbw3; have hzw3 := hbw3.size; (try simp at hzw3); have hBw3 := bstep (w := w) (by go_grown) hbw3; (try have : w.heap.size < w3.heap.size := by omega); (try have : w.heap.size + 1 < w3.heap.size := by omega); (try have : w.heap.size + 1 + 1 < w3.heap.size := by omega); (try have : w.heap.size + 1 + 1 + 1 < w3.heap.size := by omega))
  go_wp2_with fail
  (go_at_call 20; refine (C3.out _).mono ?_; rintro e w4 ⟨rfl, hbw4⟩; obtain ⟨hcw4, hfw4⟩ := bcell hbw4; have hzw4 := hbw4.size; (try simp at hzw4); have hBw4 := bstep (w := w) (by go_grown) hbw4; (try have : w.heap.size < w4.heap.size := by omega); (try have : w.heap.size + 1 < w4.heap.size := by omega); (try have : w.heap.size + 1 + 1 < w4.heap.size := by omega); (try have : w.heap.size + 1 + 1 + 1 < w4.heap.size := by omega))
  go_wp2_with fail
  (go_at_call 21; refine (C4.out _).mono ?_; rintro e w5 ⟨rfl, hbw5⟩; obtain ⟨hcw5, hfw5⟩ := bcell hbw5; have hzw5 := hbw5.size; (try simp at hzw5); have hBw5 := bstep (w := w) (by go_grown) hbw5; (try have : w.heap.size < w5.heap.size := by omega); (try have : w.heap.size + 1 < w5.heap.size := by omega); (try have : w.heap.size + 1 + 1 < w5.heap.size := by omega); (try have : w.heap.size + 1 + 1 + 1 < w5.heap.size := by omega))
  go_wp2_with fail
  (go_at_call 17; refine (C5.out _).mono ?_; rintro e w6 ⟨rfl, hbw6⟩; obtain ⟨hcw6, hfw6⟩ := bcell hbw6; have hzw6 := hbw6.size; (try simp at hzw6); have hBw6 := bstep (w := w) (by go_grown) hbw6; (try have : w.heap.size < w6.heap.size := by omega); (try have : w.heap.size + 1 < w6.heap.size := by omega); (try have : w.heap.size + 1 + 1 < w6.heap.size := by omega); (try have : w.heap.size + 1 + 1 + 1 < w6.heap.size := by omega))
  go_wp2_with fail
  (go_at_call 17; refine (C6.out _).mono ?_; rintro e w7 ⟨rfl, hbw7⟩; obtain ⟨hcw7, hfw7⟩ := bcell hbw7; have hzw7 := hbw7.size; (try simp at hzw7); have hBw7 := bstep (w := w) (by go_grown) hbw7; (try have : w.heap.size < w7.heap.size := by omega); (try have : w.heap.size + 1 < w7.heap.size := by omega); (try have : w.heap.size + 1 + 1 < w7.heap.size := by omega); (try have : w.heap.size + 1 + 1 + 1 < w7.heap.size := by omega); (try have : w6.heap.size < w7.heap.size := by omega))
  go_wp2_with fail
  refine wp_region_below (by kernel_rfl) (by kernel_rfl) ?_
  repeat (go_big_quiet_step ((first | (go_at_call 18; first | (with_reducible exact more_call (C9.out _)) | (with_reducible exact more_call (C10.out _))) | (go_at_call 15; first | (with_reducible exact more_call (C7.out _)) | (with_reducible exact more_call (C8.out _))))))
  (refine wpQuiet_nil ?_; intro wq hbwq; obtain ⟨hcwq, hfwq⟩ := bcell hbwq; have hzwq := hbwq.size; (try simp at hzwq); have hBwq := bstep (w := w) (by go_grown) hbwq; (try have : w.heap.size < wq.heap.size := by omega); (try have : w.heap.size + 1 < wq.heap.size := by omega); (try have : w.heap.size + 1 + 1 < wq.heap.size := by omega); (try have : w.heap.size + 1 + 1 + 1 < wq.heap.size := by omega); (try have : w6.heap.size < wq.heap.size := by omega); (try have : w7.heap.size < wq.heap.size := by omega))
  skip
  go_wp2_with fail
  (go_at_call 18; refine (C11.out _).mono ?_; rintro e wz ⟨rfl, hbwz⟩; obtain ⟨hcwz, hfwz⟩ := bcell hbwz; have hzwz := hbwz.size; (try simp at hzwz); have hBwz := bstep (w := w) (by go_grown) hbwz; (try have : w.heap.size < wz.heap.size := by omega); (try have : w.heap.size + 1 < wz.heap.size := by omega); (try have : w.heap.size + 1 + 1 < wz.heap.size := by omega); (try have : w.heap.size + 1 + 1 + 1 < wz.heap.size := by omega); (try have : w6.heap.size < wz.heap.size := by omega); (try have : w7.heap.size < wz.heap.size := by omega))
  go_wp2_with fail
  all_goals go_ret
  all_goals (refine ⟨ret_bool ?_, by go_grown⟩; go_light; have p7 := P7.out; first | rfl | (simp_all; done) | (symm; simp_all))

set_option maxRecDepth 100000 in
set_option maxHeartbeats 1600000 in
theorem walk_110 (m b m2 b2 : Int) (s : ByteArray) (w : World) (hA : cchk m b = 0) (m3 b3 : Int) (hS : cparse s = some (m3, b3)) (hM : cmet m b m2 b2 = false) : Calls Try.prog 6 #[.agg #[.int .i64 m, .int .i64 b], .agg #[.int .i64 m2, .int .i64 b2], .string s] w fun e w' => e = .returned (.bool true) ∧ Below w.heap.size w w' := by
  have C1 := Lib.hid (fun w => print_ok m b w hA)
  have C2 := Lib.hid (fun w => parse_ok (cparse_cshow hA) w)
  generalize cshow m b = t1 at *
  obtain ⟨u1, u2⟩ := cparse_back hS
  have C3 := Lib.hid (fun w => parse_ok hS w)
  have C4 := Lib.hid (fun w => print_ok m3 b3 w u1)
  rw [u2] at C4
  clear u1 u2 hS
  have hM2 : cmet m2 b2 m b = false := by
    by_cases hv : cchk m b = 0 ∧ cchk m2 b2 = 0
    · have hp := pair_ok hv.1 hv.2
      simp only [pairOk, hM, Bool.and_eq_true, beq_iff_eq] at hp
      exact hp.1.1.1.1.symm
    · rw [Bool.eq_false_iff]; intro hc; exact hv ⟨(cmet_iff.1 hc).1.2, (cmet_iff.1 hc).1.1⟩
  have hI : cinside m b m2 b2 = false := by
    by_cases hv : cchk m b = 0 ∧ cchk m2 b2 = 0
    · have hp := pair_ok hv.1 hv.2
      simp only [pairOk, hM, Bool.and_eq_true, Bool.or_eq_true, Bool.not_eq_true', Bool.false_eq_true, false_and, or_false] at hp
      exact hp.2
    · unfold cinside; rw [decide_eq_false_iff_not]; intro hc; exact hv hc.1.1
  have C5 := Lib.hid (fun w => cmeet_no m b m2 b2 w hM)
  have C6 := Lib.hid (fun w => cmeet_no m2 b2 m b w hM2)
  have C11 := Lib.hid (fun w => cinside_any m b m2 b2 w)
  rw [hI] at C11
  clear hM hM2 hI hA
  go_enter Try.func6, Try.ntmps6
  go_wp2_with fail
  (go_at_call 20; refine (fact_parse _).mono ?_; rintro e w1 ⟨rfl, hbw1⟩; obtain ⟨hcw1, hfw1⟩ := bcell hbw1; have hzw1 := hbw1.size; (try simp at hzw1); have hBw1 := bstep (w := w) (by go_grown) hbw1; (try have : w.heap.size < w1.heap.size := by omega); (try have : w.heap.size + 1 < w1.heap.size := by omega); (try have : w.heap.size + 1 + 1 < w1.heap.size := by omega); (try have : w.heap.size + 1 + 1 + 1 < w1.heap.size := by omega))
  go_wp2_with fail
  (go_at_call 21; refine (C1.out _).mono ?_; rintro e w2 ⟨rfl, hbw2⟩; obtain ⟨hcw2, hfw2⟩ := bcell hbw2; have hzw2 := hbw2.size; (try simp at hzw2); have hBw2 := bstep (w := w) (by go_grown) hbw2; (try have : w.heap.size < w2.heap.size := by omega); (try have : w.heap.size + 1 < w2.heap.size := by omega); (try have : w.heap.size + 1 + 1 < w2.heap.size := by omega); (try have : w.heap.size + 1 + 1 + 1 < w2.heap.size := by omega))
  go_wp2_with fail
  (go_at_call 20; refine (C2.out _).mono ?_; rintro e w3 ⟨rfl, hbw3⟩; obtain ⟨hcw3, hfw3⟩ := bcell hbw3; have hzw3 := hbw3.size; (try simp at hzw3); have hBw3 := bstep (w := w) (by go_grown) hbw3; (try have : w.heap.size < w3.heap.size := by omega); (try have : w.heap.size + 1 < w3.heap.size := by omega); (try have : w.heap.size + 1 + 1 < w3.heap.size := by omega); (try have : w.heap.size + 1 + 1 + 1 < w3.heap.size := by omega))
  go_wp2_with fail
  (go_at_call 20; refine (C3.out _).mono ?_; rintro e w4 ⟨rfl, hbw4⟩; obtain ⟨hcw4, hfw4⟩ := bcell hbw4; have hzw4 := hbw4.size; (try simp at hzw4); have hBw4 := bstep (w := w) (by go_grown) hbw4; (try have : w.heap.size < w4.heap.size := by omega); (try have : w.heap.size + 1 < w4.heap.size := by omega); (try have : w.heap.size + 1 + 1 < w4.heap.size := by omega); (try have : w.heap.size + 1 + 1 + 1 < w4.heap.size := by omega))
  go_wp2_with fail
  (go_at_call 21; refine (C4.out _).mono ?_; rintro e w5 ⟨rfl, hbw5⟩; obtain ⟨hcw5, hfw5⟩ := bcell hbw5; have hzw5 := hbw5.size; (try simp at hzw5); have hBw5 := bstep (w := w) (by go_grown) hbw5; (try have : w.heap.size < w5.heap.size := by omega); (try have : w.heap.size + 1 < w5.heap.size := by omega); (try have : w.heap.size + 1 + 1 < w5.heap.size := by omega); (try have : w.heap.size + 1 + 1 + 1 < w5.heap.size := by omega))
  go_wp2_with fail
  (go_at_call 17; refine (C5.out _).mono ?_; rintro e w6 ⟨rfl, hbw6⟩; obtain ⟨hcw6, hfw6⟩ := bcell hbw6; have hzw6 := hbw6.size; (try simp at hzw6); have hBw6 := bstep (w := w) (by go_grown) hbw6; (try have : w.heap.size < w6.heap.size := by omega); (try have : w.heap.size + 1 < w6.heap.size := by omega); (try have : w.heap.size + 1 + 1 < w6.heap.size := by omega); (try have : w.heap.size + 1 + 1 + 1 < w6.heap.size := by omega))
  go_wp2_with fail
  (go_at_call 17; refine (C6.out _).mono ?_; rintro e w7 ⟨rfl, hbw7⟩; obtain ⟨hcw7, hfw7⟩ := bcell hbw7; have hzw7 := hbw7.size; (try simp at hzw7); have hBw7 := bstep (w := w) (by go_grown) hbw7; (try have : w.heap.size < w7.heap.size := by omega); (try have : w.heap.size + 1 < w7.heap.size := by omega); (try have : w.heap.size + 1 + 1 < w7.heap.size := by omega); (try have : w.heap.size + 1 + 1 + 1 < w7.heap.size := by omega); (try have : w6.heap.size < w7.heap.size := by omega))
  go_wp2_with fail
  refine wp_region_below (by kernel_rfl) (by kernel_rfl) ?_
  repeat (go_big_quiet_step ((first | fail)))
  (refine wpQuiet_nil ?_; intro wq hbwq; obtain ⟨hcwq, hfwq⟩ := bcell hbwq; have hzwq := hbwq.size; (try simp at hzwq); have hBwq := bstep (w := w) (by go_grown) hbwq; (try have : w.heap.size < wq.heap.size := by omega); (try have : w.heap.size + 1 < wq.heap.size := by omega); (try have : w.heap.size + 1 + 1 < wq.heap.size := by omega); (try have : w.heap.size + 1 + 1 + 1 < wq.heap.size := by omega); (try have : w6.heap.size < wq.heap.size := by omega); (try have : w7.heap.size < wq.heap.size := by omega))
  skip
  go_wp2_with fail
  (go_at_call 18; refine (C11.out _).mono ?_; rintro e wz ⟨rfl, hbwz⟩; obtain ⟨hcwz, hfwz⟩ := bcell hbwz; have hzwz := hbwz.size; (try simp at hzwz); have hBwz := bstep (w := w) (by go_grown) hbwz; (try have : w.heap.size < wz.heap.size := by omega); (try have : w.heap.size + 1 < wz.heap.size := by omega); (try have : w.heap.size + 1 + 1 < wz.heap.size := by omega); (try have : w.heap.size + 1 + 1 + 1 < wz.heap.size := by omega); (try have : w6.heap.size < wz.heap.size := by omega); (try have : w7.heap.size < wz.heap.size := by omega))
  go_wp2_with fail
  all_goals go_ret
  all_goals (refine ⟨ret_bool ?_, by go_grown⟩; first | rfl | (simp_all; done))

set_option maxRecDepth 100000 in
set_option maxHeartbeats 1600000 in
theorem walk_101 (m b m2 b2 : Int) (s : ByteArray) (w : World) (hA : cchk m b = 0) (hS : cparse s = none) (hM : cmet m b m2 b2 = true) : Calls Try.prog 6 #[.agg #[.int .i64 m, .int .i64 b], .agg #[.int .i64 m2, .int .i64 b2], .string s] w fun e w' => e = .returned (.bool true) ∧ Below w.heap.size w w' := by
  have C1 := Lib.hid (fun w => print_ok m b w hA)
  have C2 := Lib.hid (fun w => parse_ok (cparse_cshow hA) w)
  generalize cshow m b = t1 at *
  have C3 := Lib.hid (fun w => parse_no hS w)
  clear hS
  have hv := (cmet_iff.1 hM).1
  have hp := pair_ok hv.1 hv.2
  simp only [pairOk, hM, Bool.not_true, Bool.false_or, Bool.and_eq_true, decide_eq_true_eq, beq_iff_eq, Bool.true_and, Bool.or_eq_true, Bool.not_eq_true'] at hp
  obtain ⟨⟨⟨⟨p1, p2⟩, p3⟩, ⟨p4, p5⟩, p6⟩, p7⟩ := hp
  have C5 := Lib.hid (fun w => cmeet_yes m b m2 b2 w hM)
  have C6 := Lib.hid (fun w => cmeet_yes m2 b2 m b w p1.symm)
  rw [← p2, ← p3] at C6
  have C7 := Lib.hid (fun w => ccount_any (bits .or .i64 m m2) (bits .or .i64 b b2) w)
  have C8 := Lib.hid (fun w => ccount_any m b w)
  have C9 := Lib.hid (fun w => (cinside_any (bits .or .i64 m m2) (bits .or .i64 b b2) m b w))
  have C10 := Lib.hid (fun w => (cinside_any (bits .or .i64 m m2) (bits .or .i64 b b2) m2 b2 w))
  rw [p5] at C9; rw [p6] at C10
  have C11 := Lib.hid (fun w => cinside_any m b m2 b2 w)
  generalize ccount (bits .or .i64 m m2) (bits .or .i64 b b2) = N1 at *
  generalize ccount m b = N2 at *
  generalize bits .or .i64 m m2 = mm at *
  generalize bits .or .i64 b b2 = bb at *
  have hd : decide (N2 < N1) = false := by simpa using p4
  have P7 := Lib.hid p7
  clear hM hv p1 p2 p3 p5 p6 p7 hA
  go_enter Try.func6, Try.ntmps6
  go_wp2_with fail
  (go_at_call 20; refine (fact_parse _).mono ?_; rintro e w1 ⟨rfl, hbw1⟩; obtain ⟨hcw1, hfw1⟩ := bcell hbw1; have hzw1 := hbw1.size; (try simp at hzw1); have hBw1 := bstep (w := w) (by go_grown) hbw1; (try have : w.heap.size < w1.heap.size := by omega); (try have : w.heap.size + 1 < w1.heap.size := by omega); (try have : w.heap.size + 1 + 1 < w1.heap.size := by omega); (try have : w.heap.size + 1 + 1 + 1 < w1.heap.size := by omega))
  go_wp2_with fail
  (go_at_call 21; refine (C1.out _).mono ?_; rintro e w2 ⟨rfl, hbw2⟩; obtain ⟨hcw2, hfw2⟩ := bcell hbw2; have hzw2 := hbw2.size; (try simp at hzw2); have hBw2 := bstep (w := w) (by go_grown) hbw2; (try have : w.heap.size < w2.heap.size := by omega); (try have : w.heap.size + 1 < w2.heap.size := by omega); (try have : w.heap.size + 1 + 1 < w2.heap.size := by omega); (try have : w.heap.size + 1 + 1 + 1 < w2.heap.size := by omega))
  go_wp2_with fail
  (go_at_call 20; refine (C2.out _).mono ?_; rintro e w3 ⟨rfl, hbw3⟩; obtain ⟨hcw3, hfw3⟩ := bcell hbw3; have hzw3 := hbw3.size; (try simp at hzw3); have hBw3 := bstep (w := w) (by go_grown) hbw3; (try have : w.heap.size < w3.heap.size := by omega); (try have : w.heap.size + 1 < w3.heap.size := by omega); (try have : w.heap.size + 1 + 1 < w3.heap.size := by omega); (try have : w.heap.size + 1 + 1 + 1 < w3.heap.size := by omega))
  go_wp2_with fail
  (go_at_call 20; refine (C3.out _).mono ?_; rintro e w4 ⟨rfl, hbw4⟩; obtain ⟨hcw4, hfw4⟩ := bcell hbw4; have hzw4 := hbw4.size; (try simp at hzw4); have hBw4 := bstep (w := w) (by go_grown) hbw4; (try have : w.heap.size < w4.heap.size := by omega); (try have : w.heap.size + 1 < w4.heap.size := by omega); (try have : w.heap.size + 1 + 1 < w4.heap.size := by omega); (try have : w.heap.size + 1 + 1 + 1 < w4.heap.size := by omega))
  go_wp2_with fail
  (go_at_call 17; refine (C5.out _).mono ?_; rintro e w5 ⟨rfl, hbw5⟩; obtain ⟨hcw5, hfw5⟩ := bcell hbw5; have hzw5 := hbw5.size; (try simp at hzw5); have hBw5 := bstep (w := w) (by go_grown) hbw5; (try have : w.heap.size < w5.heap.size := by omega); (try have : w.heap.size + 1 < w5.heap.size := by omega); (try have : w.heap.size + 1 + 1 < w5.heap.size := by omega); (try have : w.heap.size + 1 + 1 + 1 < w5.heap.size := by omega))
  go_wp2_with fail
  (go_at_call 17; refine (C6.out _).mono ?_; rintro e w6 ⟨rfl, hbw6⟩; obtain ⟨hcw6, hfw6⟩ := bcell hbw6; have hzw6 := hbw6.size; (try simp at hzw6); have hBw6 := bstep (w := w) (by go_grown) hbw6; (try have : w.heap.size < w6.heap.size := by omega); (try have : w.heap.size + 1 < w6.heap.size := by omega); (try have : w.heap.size + 1 + 1 < w6.heap.size := by omega); (try have : w.heap.size + 1 + 1 + 1 < w6.heap.size := by omega); (try have : w5.heap.size < w6.heap.size := by omega))
  go_wp2_with fail
  refine wp_region_below (by kernel_rfl) (by kernel_rfl) ?_
  repeat (go_big_quiet_step ((first | (go_at_call 18; first | (with_reducible exact more_call (C9.out _)) | (with_reducible exact more_call (C10.out _))) | (go_at_call 15; first | (with_reducible exact more_call (C7.out _)) | (with_reducible exact more_call (C8.out _))))))
  (refine wpQuiet_nil ?_; intro wq hbwq; obtain ⟨hcwq, hfwq⟩ := bcell hbwq; have hzwq := hbwq.size; (try simp at hzwq); have hBwq := bstep (w := w) (by go_grown) hbwq; (try have : w.heap.size < wq.heap.size := by omega); (try have : w.heap.size + 1 < wq.heap.size := by omega); (try have : w.heap.size + 1 + 1 < wq.heap.size := by omega); (try have : w.heap.size + 1 + 1 + 1 < wq.heap.size := by omega); (try have : w5.heap.size < wq.heap.size := by omega); (try have : w6.heap.size < wq.heap.size := by omega))
  skip
  go_wp2_with fail
  (go_at_call 18; refine (C11.out _).mono ?_; rintro e wz ⟨rfl, hbwz⟩; obtain ⟨hcwz, hfwz⟩ := bcell hbwz; have hzwz := hbwz.size; (try simp at hzwz); have hBwz := bstep (w := w) (by go_grown) hbwz; (try have : w.heap.size < wz.heap.size := by omega); (try have : w.heap.size + 1 < wz.heap.size := by omega); (try have : w.heap.size + 1 + 1 < wz.heap.size := by omega); (try have : w.heap.size + 1 + 1 + 1 < wz.heap.size := by omega); (try have : w5.heap.size < wz.heap.size := by omega); (try have : w6.heap.size < wz.heap.size := by omega))
  go_wp2_with fail
  all_goals go_ret
  all_goals (refine ⟨ret_bool ?_, by go_grown⟩; go_light; have p7 := P7.out; first | rfl | (simp_all; done) | (symm; simp_all))

set_option maxRecDepth 100000 in
set_option maxHeartbeats 1600000 in
theorem walk_100 (m b m2 b2 : Int) (s : ByteArray) (w : World) (hA : cchk m b = 0) (hS : cparse s = none) (hM : cmet m b m2 b2 = false) : Calls Try.prog 6 #[.agg #[.int .i64 m, .int .i64 b], .agg #[.int .i64 m2, .int .i64 b2], .string s] w fun e w' => e = .returned (.bool true) ∧ Below w.heap.size w w' := by
  have C1 := Lib.hid (fun w => print_ok m b w hA)
  have C2 := Lib.hid (fun w => parse_ok (cparse_cshow hA) w)
  generalize cshow m b = t1 at *
  have C3 := Lib.hid (fun w => parse_no hS w)
  clear hS
  have hM2 : cmet m2 b2 m b = false := by
    by_cases hv : cchk m b = 0 ∧ cchk m2 b2 = 0
    · have hp := pair_ok hv.1 hv.2
      simp only [pairOk, hM, Bool.and_eq_true, beq_iff_eq] at hp
      exact hp.1.1.1.1.symm
    · rw [Bool.eq_false_iff]; intro hc; exact hv ⟨(cmet_iff.1 hc).1.2, (cmet_iff.1 hc).1.1⟩
  have hI : cinside m b m2 b2 = false := by
    by_cases hv : cchk m b = 0 ∧ cchk m2 b2 = 0
    · have hp := pair_ok hv.1 hv.2
      simp only [pairOk, hM, Bool.and_eq_true, Bool.or_eq_true, Bool.not_eq_true', Bool.false_eq_true, false_and, or_false] at hp
      exact hp.2
    · unfold cinside; rw [decide_eq_false_iff_not]; intro hc; exact hv hc.1.1
  have C5 := Lib.hid (fun w => cmeet_no m b m2 b2 w hM)
  have C6 := Lib.hid (fun w => cmeet_no m2 b2 m b w hM2)
  have C11 := Lib.hid (fun w => cinside_any m b m2 b2 w)
  rw [hI] at C11
  clear hM hM2 hI hA
  go_enter Try.func6, Try.ntmps6
  go_wp2_with fail
  (go_at_call 20; refine (fact_parse _).mono ?_; rintro e w1 ⟨rfl, hbw1⟩; obtain ⟨hcw1, hfw1⟩ := bcell hbw1; have hzw1 := hbw1.size; (try simp at hzw1); have hBw1 := bstep (w := w) (by go_grown) hbw1; (try have : w.heap.size < w1.heap.size := by omega); (try have : w.heap.size + 1 < w1.heap.size := by omega); (try have : w.heap.size + 1 + 1 < w1.heap.size := by omega); (try have : w.heap.size + 1 + 1 + 1 < w1.heap.size := by omega))
  go_wp2_with fail
  (go_at_call 21; refine (C1.out _).mono ?_; rintro e w2 ⟨rfl, hbw2⟩; obtain ⟨hcw2, hfw2⟩ := bcell hbw2; have hzw2 := hbw2.size; (try simp at hzw2); have hBw2 := bstep (w := w) (by go_grown) hbw2; (try have : w.heap.size < w2.heap.size := by omega); (try have : w.heap.size + 1 < w2.heap.size := by omega); (try have : w.heap.size + 1 + 1 < w2.heap.size := by omega); (try have : w.heap.size + 1 + 1 + 1 < w2.heap.size := by omega))
  go_wp2_with fail
  (go_at_call 20; refine (C2.out _).mono ?_; rintro e w3 ⟨rfl, hbw3⟩; obtain ⟨hcw3, hfw3⟩ := bcell hbw3; have hzw3 := hbw3.size; (try simp at hzw3); have hBw3 := bstep (w := w) (by go_grown) hbw3; (try have : w.heap.size < w3.heap.size := by omega); (try have : w.heap.size + 1 < w3.heap.size := by omega); (try have : w.heap.size + 1 + 1 < w3.heap.size := by omega); (try have : w.heap.size + 1 + 1 + 1 < w3.heap.size := by omega))
  go_wp2_with fail
  (go_at_call 20; refine (C3.out _).mono ?_; rintro e w4 ⟨rfl, hbw4⟩; obtain ⟨hcw4, hfw4⟩ := bcell hbw4; have hzw4 := hbw4.size; (try simp at hzw4); have hBw4 := bstep (w := w) (by go_grown) hbw4; (try have : w.heap.size < w4.heap.size := by omega); (try have : w.heap.size + 1 < w4.heap.size := by omega); (try have : w.heap.size + 1 + 1 < w4.heap.size := by omega); (try have : w.heap.size + 1 + 1 + 1 < w4.heap.size := by omega))
  go_wp2_with fail
  (go_at_call 17; refine (C5.out _).mono ?_; rintro e w5 ⟨rfl, hbw5⟩; obtain ⟨hcw5, hfw5⟩ := bcell hbw5; have hzw5 := hbw5.size; (try simp at hzw5); have hBw5 := bstep (w := w) (by go_grown) hbw5; (try have : w.heap.size < w5.heap.size := by omega); (try have : w.heap.size + 1 < w5.heap.size := by omega); (try have : w.heap.size + 1 + 1 < w5.heap.size := by omega); (try have : w.heap.size + 1 + 1 + 1 < w5.heap.size := by omega))
  go_wp2_with fail
  (go_at_call 17; refine (C6.out _).mono ?_; rintro e w6 ⟨rfl, hbw6⟩; obtain ⟨hcw6, hfw6⟩ := bcell hbw6; have hzw6 := hbw6.size; (try simp at hzw6); have hBw6 := bstep (w := w) (by go_grown) hbw6; (try have : w.heap.size < w6.heap.size := by omega); (try have : w.heap.size + 1 < w6.heap.size := by omega); (try have : w.heap.size + 1 + 1 < w6.heap.size := by omega); (try have : w.heap.size + 1 + 1 + 1 < w6.heap.size := by omega); (try have : w5.heap.size < w6.heap.size := by omega))
  go_wp2_with fail
  refine wp_region_below (by kernel_rfl) (by kernel_rfl) ?_
  repeat (go_big_quiet_step ((first | fail)))
  (refine wpQuiet_nil ?_; intro wq hbwq; obtain ⟨hcwq, hfwq⟩ := bcell hbwq; have hzwq := hbwq.size; (try simp at hzwq); have hBwq := bstep (w := w) (by go_grown) hbwq; (try have : w.heap.size < wq.heap.size := by omega); (try have : w.heap.size + 1 < wq.heap.size := by omega); (try have : w.heap.size + 1 + 1 < wq.heap.size := by omega); (try have : w.heap.size + 1 + 1 + 1 < wq.heap.size := by omega); (try have : w5.heap.size < wq.heap.size := by omega); (try have : w6.heap.size < wq.heap.size := by omega))
  skip
  go_wp2_with fail
  (go_at_call 18; refine (C11.out _).mono ?_; rintro e wz ⟨rfl, hbwz⟩; obtain ⟨hcwz, hfwz⟩ := bcell hbwz; have hzwz := hbwz.size; (try simp at hzwz); have hBwz := bstep (w := w) (by go_grown) hbwz; (try have : w.heap.size < wz.heap.size := by omega); (try have : w.heap.size + 1 < wz.heap.size := by omega); (try have : w.heap.size + 1 + 1 < wz.heap.size := by omega); (try have : w.heap.size + 1 + 1 + 1 < wz.heap.size := by omega); (try have : w5.heap.size < wz.heap.size := by omega); (try have : w6.heap.size < wz.heap.size := by omega))
  go_wp2_with fail
  all_goals go_ret
  all_goals (refine ⟨ret_bool ?_, by go_grown⟩; first | rfl | (simp_all; done))

set_option maxRecDepth 100000 in
set_option maxHeartbeats 1600000 in
theorem walk_010 (m b m2 b2 : Int) (s : ByteArray) (w : World) (hA : ¬ cchk m b = 0) (m3 b3 : Int) (hS : cparse s = some (m3, b3)) (hM : cmet m b m2 b2 = false) : Calls Try.prog 6 #[.agg #[.int .i64 m, .int .i64 b], .agg #[.int .i64 m2, .int .i64 b2], .string s] w fun e w' => e = .returned (.bool true) ∧ Below w.heap.size w w' := by
  have C1 := Lib.hid (fun w => print_bad m b w hA)
  skip
  obtain ⟨u1, u2⟩ := cparse_back hS
  have C3 := Lib.hid (fun w => parse_ok hS w)
  have C4 := Lib.hid (fun w => print_ok m3 b3 w u1)
  rw [u2] at C4
  clear u1 u2 hS
  have hM2 : cmet m2 b2 m b = false := by
    by_cases hv : cchk m b = 0 ∧ cchk m2 b2 = 0
    · have hp := pair_ok hv.1 hv.2
      simp only [pairOk, hM, Bool.and_eq_true, beq_iff_eq] at hp
      exact hp.1.1.1.1.symm
    · rw [Bool.eq_false_iff]; intro hc; exact hv ⟨(cmet_iff.1 hc).1.2, (cmet_iff.1 hc).1.1⟩
  have hI : cinside m b m2 b2 = false := by
    by_cases hv : cchk m b = 0 ∧ cchk m2 b2 = 0
    · have hp := pair_ok hv.1 hv.2
      simp only [pairOk, hM, Bool.and_eq_true, Bool.or_eq_true, Bool.not_eq_true', Bool.false_eq_true, false_and, or_false] at hp
      exact hp.2
    · unfold cinside; rw [decide_eq_false_iff_not]; intro hc; exact hv hc.1.1
  have C5 := Lib.hid (fun w => cmeet_no m b m2 b2 w hM)
  have C6 := Lib.hid (fun w => cmeet_no m2 b2 m b w hM2)
  have C11 := Lib.hid (fun w => cinside_any m b m2 b2 w)
  rw [hI] at C11
  clear hM hM2 hI hA
  generalize cchk m b = q1 at *
  go_enter Try.func6, Try.ntmps6
  go_wp2_with fail
  (go_at_call 20; refine (fact_parse _).mono ?_; rintro e w1 ⟨rfl, hbw1⟩; obtain ⟨hcw1, hfw1⟩ := bcell hbw1; have hzw1 := hbw1.size; (try simp at hzw1); have hBw1 := bstep (w := w) (by go_grown) hbw1; (try have : w.heap.size < w1.heap.size := by omega); (try have : w.heap.size + 1 < w1.heap.size := by omega); (try have : w.heap.size + 1 + 1 < w1.heap.size := by omega); (try have : w.heap.size + 1 + 1 + 1 < w1.heap.size := by omega))
  go_wp2_with fail
  (go_at_call 21; refine (C1.out _).mono ?_; rintro e w2 ⟨rfl, hbw2⟩; obtain ⟨hcw2, hfw2⟩ := bcell hbw2; have hzw2 := hbw2.size; (try simp at hzw2); have hBw2 := bstep (w := w) (by go_grown) hbw2; (try have : w.heap.size < w2.heap.size := by omega); (try have : w.heap.size + 1 < w2.heap.size := by omega); (try have : w.heap.size + 1 + 1 < w2.heap.size := by omega); (try have : w.heap.size + 1 + 1 + 1 < w2.heap.size := by omega))
  go_wp2_with fail
  (go_at_call 20; refine (C3.out _).mono ?_; rintro e w3 ⟨rfl, hbw3⟩; obtain ⟨hcw3, hfw3⟩ := bcell hbw3; have hzw3 := hbw3.size; (try simp at hzw3); have hBw3 := bstep (w := w) (by go_grown) hbw3; (try have : w.heap.size < w3.heap.size := by omega); (try have : w.heap.size + 1 < w3.heap.size := by omega); (try have : w.heap.size + 1 + 1 < w3.heap.size := by omega); (try have : w.heap.size + 1 + 1 + 1 < w3.heap.size := by omega))
  go_wp2_with fail
  (go_at_call 21; refine (C4.out _).mono ?_; rintro e w4 ⟨rfl, hbw4⟩; obtain ⟨hcw4, hfw4⟩ := bcell hbw4; have hzw4 := hbw4.size; (try simp at hzw4); have hBw4 := bstep (w := w) (by go_grown) hbw4; (try have : w.heap.size < w4.heap.size := by omega); (try have : w.heap.size + 1 < w4.heap.size := by omega); (try have : w.heap.size + 1 + 1 < w4.heap.size := by omega); (try have : w.heap.size + 1 + 1 + 1 < w4.heap.size := by omega))
  go_wp2_with fail
  (go_at_call 17; refine (C5.out _).mono ?_; rintro e w5 ⟨rfl, hbw5⟩; obtain ⟨hcw5, hfw5⟩ := bcell hbw5; have hzw5 := hbw5.size; (try simp at hzw5); have hBw5 := bstep (w := w) (by go_grown) hbw5; (try have : w.heap.size < w5.heap.size := by omega); (try have : w.heap.size + 1 < w5.heap.size := by omega); (try have : w.heap.size + 1 + 1 < w5.heap.size := by omega); (try have : w.heap.size + 1 + 1 + 1 < w5.heap.size := by omega))
  go_wp2_with fail
  (go_at_call 17; refine (C6.out _).mono ?_; rintro e w6 ⟨rfl, hbw6⟩; obtain ⟨hcw6, hfw6⟩ := bcell hbw6; have hzw6 := hbw6.size; (try simp at hzw6); have hBw6 := bstep (w := w) (by go_grown) hbw6; (try have : w.heap.size < w6.heap.size := by omega); (try have : w.heap.size + 1 < w6.heap.size := by omega); (try have : w.heap.size + 1 + 1 < w6.heap.size := by omega); (try have : w.heap.size + 1 + 1 + 1 < w6.heap.size := by omega); (try have : w5.heap.size < w6.heap.size := by omega))
  go_wp2_with fail
  refine wp_region_below (by kernel_rfl) (by kernel_rfl) ?_
  repeat (go_big_quiet_step ((first | fail)))
  (refine wpQuiet_nil ?_; intro wq hbwq; obtain ⟨hcwq, hfwq⟩ := bcell hbwq; have hzwq := hbwq.size; (try simp at hzwq); have hBwq := bstep (w := w) (by go_grown) hbwq; (try have : w.heap.size < wq.heap.size := by omega); (try have : w.heap.size + 1 < wq.heap.size := by omega); (try have : w.heap.size + 1 + 1 < wq.heap.size := by omega); (try have : w.heap.size + 1 + 1 + 1 < wq.heap.size := by omega); (try have : w5.heap.size < wq.heap.size := by omega); (try have : w6.heap.size < wq.heap.size := by omega))
  skip
  go_wp2_with fail
  (go_at_call 18; refine (C11.out _).mono ?_; rintro e wz ⟨rfl, hbwz⟩; obtain ⟨hcwz, hfwz⟩ := bcell hbwz; have hzwz := hbwz.size; (try simp at hzwz); have hBwz := bstep (w := w) (by go_grown) hbwz; (try have : w.heap.size < wz.heap.size := by omega); (try have : w.heap.size + 1 < wz.heap.size := by omega); (try have : w.heap.size + 1 + 1 < wz.heap.size := by omega); (try have : w.heap.size + 1 + 1 + 1 < wz.heap.size := by omega); (try have : w5.heap.size < wz.heap.size := by omega); (try have : w6.heap.size < wz.heap.size := by omega))
  go_wp2_with fail
  all_goals go_ret
  all_goals (refine ⟨ret_bool ?_, by go_grown⟩; first | rfl | (simp_all; done))

set_option maxRecDepth 100000 in
set_option maxHeartbeats 1600000 in
theorem walk_000 (m b m2 b2 : Int) (s : ByteArray) (w : World) (hA : ¬ cchk m b = 0) (hS : cparse s = none) (hM : cmet m b m2 b2 = false) : Calls Try.prog 6 #[.agg #[.int .i64 m, .int .i64 b], .agg #[.int .i64 m2, .int .i64 b2], .string s] w fun e w' => e = .returned (.bool true) ∧ Below w.heap.size w w' := by
  have C1 := Lib.hid (fun w => print_bad m b w hA)
  skip
  have C3 := Lib.hid (fun w => parse_no hS w)
  clear hS
  have hM2 : cmet m2 b2 m b = false := by
    by_cases hv : cchk m b = 0 ∧ cchk m2 b2 = 0
    · have hp := pair_ok hv.1 hv.2
      simp only [pairOk, hM, Bool.and_eq_true, beq_iff_eq] at hp
      exact hp.1.1.1.1.symm
    · rw [Bool.eq_false_iff]; intro hc; exact hv ⟨(cmet_iff.1 hc).1.2, (cmet_iff.1 hc).1.1⟩
  have hI : cinside m b m2 b2 = false := by
    by_cases hv : cchk m b = 0 ∧ cchk m2 b2 = 0
    · have hp := pair_ok hv.1 hv.2
      simp only [pairOk, hM, Bool.and_eq_true, Bool.or_eq_true, Bool.not_eq_true', Bool.false_eq_true, false_and, or_false] at hp
      exact hp.2
    · unfold cinside; rw [decide_eq_false_iff_not]; intro hc; exact hv hc.1.1
  have C5 := Lib.hid (fun w => cmeet_no m b m2 b2 w hM)
  have C6 := Lib.hid (fun w => cmeet_no m2 b2 m b w hM2)
  have C11 := Lib.hid (fun w => cinside_any m b m2 b2 w)
  rw [hI] at C11
  clear hM hM2 hI hA
  generalize cchk m b = q1 at *
  go_enter Try.func6, Try.ntmps6
  go_wp2_with fail
  (go_at_call 20; refine (fact_parse _).mono ?_; rintro e w1 ⟨rfl, hbw1⟩; obtain ⟨hcw1, hfw1⟩ := bcell hbw1; have hzw1 := hbw1.size; (try simp at hzw1); have hBw1 := bstep (w := w) (by go_grown) hbw1; (try have : w.heap.size < w1.heap.size := by omega); (try have : w.heap.size + 1 < w1.heap.size := by omega); (try have : w.heap.size + 1 + 1 < w1.heap.size := by omega); (try have : w.heap.size + 1 + 1 + 1 < w1.heap.size := by omega))
  go_wp2_with fail
  (go_at_call 21; refine (C1.out _).mono ?_; rintro e w2 ⟨rfl, hbw2⟩; obtain ⟨hcw2, hfw2⟩ := bcell hbw2; have hzw2 := hbw2.size; (try simp at hzw2); have hBw2 := bstep (w := w) (by go_grown) hbw2; (try have : w.heap.size < w2.heap.size := by omega); (try have : w.heap.size + 1 < w2.heap.size := by omega); (try have : w.heap.size + 1 + 1 < w2.heap.size := by omega); (try have : w.heap.size + 1 + 1 + 1 < w2.heap.size := by omega))
  go_wp2_with fail
  (go_at_call 20; refine (C3.out _).mono ?_; rintro e w3 ⟨rfl, hbw3⟩; obtain ⟨hcw3, hfw3⟩ := bcell hbw3; have hzw3 := hbw3.size; (try simp at hzw3); have hBw3 := bstep (w := w) (by go_grown) hbw3; (try have : w.heap.size < w3.heap.size := by omega); (try have : w.heap.size + 1 < w3.heap.size := by omega); (try have : w.heap.size + 1 + 1 < w3.heap.size := by omega); (try have : w.heap.size + 1 + 1 + 1 < w3.heap.size := by omega))
  go_wp2_with fail
  (go_at_call 17; refine (C5.out _).mono ?_; rintro e w4 ⟨rfl, hbw4⟩; obtain ⟨hcw4, hfw4⟩ := bcell hbw4; have hzw4 := hbw4.size; (try simp at hzw4); have hBw4 := bstep (w := w) (by go_grown) hbw4; (try have : w.heap.size < w4.heap.size := by omega); (try have : w.heap.size + 1 < w4.heap.size := by omega); (try have : w.heap.size + 1 + 1 < w4.heap.size := by omega); (try have : w.heap.size + 1 + 1 + 1 < w4.heap.size := by omega))
  go_wp2_with fail
  (go_at_call 17; refine (C6.out _).mono ?_; rintro e w5 ⟨rfl, hbw5⟩; obtain ⟨hcw5, hfw5⟩ := bcell hbw5; have hzw5 := hbw5.size; (try simp at hzw5); have hBw5 := bstep (w := w) (by go_grown) hbw5; (try have : w.heap.size < w5.heap.size := by omega); (try have : w.heap.size + 1 < w5.heap.size := by omega); (try have : w.heap.size + 1 + 1 < w5.heap.size := by omega); (try have : w.heap.size + 1 + 1 + 1 < w5.heap.size := by omega); (try have : w4.heap.size < w5.heap.size := by omega))
  go_wp2_with fail
  refine wp_region_below (by kernel_rfl) (by kernel_rfl) ?_
  repeat (go_big_quiet_step ((first | fail)))
  (refine wpQuiet_nil ?_; intro wq hbwq; obtain ⟨hcwq, hfwq⟩ := bcell hbwq; have hzwq := hbwq.size; (try simp at hzwq); have hBwq := bstep (w := w) (by go_grown) hbwq; (try have : w.heap.size < wq.heap.size := by omega); (try have : w.heap.size + 1 < wq.heap.size := by omega); (try have : w.heap.size + 1 + 1 < wq.heap.size := by omega); (try have : w.heap.size + 1 + 1 + 1 < wq.heap.size := by omega); (try have : w4.heap.size < wq.heap.size := by omega); (try have : w5.heap.size < wq.heap.size := by omega))
  skip
  go_wp2_with fail
  (go_at_call 18; refine (C11.out _).mono ?_; rintro e wz ⟨rfl, hbwz⟩; obtain ⟨hcwz, hfwz⟩ := bcell hbwz; have hzwz := hbwz.size; (try simp at hzwz); have hBwz := bstep (w := w) (by go_grown) hbwz; (try have : w.heap.size < wz.heap.size := by omega); (try have : w.heap.size + 1 < wz.heap.size := by omega); (try have : w.heap.size + 1 + 1 < wz.heap.size := by omega); (try have : w.heap.size + 1 + 1 + 1 < wz.heap.size := by omega); (try have : w4.heap.size < wz.heap.size := by omega); (try have : w5.heap.size < wz.heap.size := by omega))
  go_wp2_with fail
  all_goals go_ret
  all_goals (refine ⟨ret_bool ?_, by go_grown⟩; first | rfl | (simp_all; done))

theorem walk (m b m2 b2 : Int) (s : ByteArray) (w : World) : Calls Try.prog 6 #[.agg #[.int .i64 m, .int .i64 b], .agg #[.int .i64 m2, .int .i64 b2], .string s] w fun e w' => e = .returned (.bool true) ∧ Below w.heap.size w w' := by
  by_cases hA : cchk m b = 0
  · cases hS : cparse s with
    | some r => cases hM : cmet m b m2 b2 with
      | true => exact walk_111 m b m2 b2 s w hA r.1 r.2 hS hM
      | false => exact walk_110 m b m2 b2 s w hA r.1 r.2 hS hM
    | none => cases hM : cmet m b m2 b2 with
      | true => exact walk_101 m b m2 b2 s w hA hS hM
      | false => exact walk_100 m b m2 b2 s w hA hS hM
  · have hM : cmet m b m2 b2 = false := by
      rw [Bool.eq_false_iff]; intro hc; exact hA (cmet_iff.1 hc).1.1
    cases hS : cparse s with
    | some r => exact walk_010 m b m2 b2 s w hA r.1 r.2 hS hM
    | none => exact walk_000 m b m2 b2 s w hA hS hM


set_option maxRecDepth 100000 in
theorem contract (H : Type) (enc : TypeId × Value → H) (W : World) (base : Nat) (args : Array Value) (ds gs : List (DataW H)) (before : List MemPlace)
    (hval : ∀ (j : Nat) t v, Try.f6.params[j]? = some t → args[j]? = some v → Value.okWide Try.prog W .any base t v)
    (hW : DataW.Whole enc Try.prog Try.f6.params.toList Rows.cubeBackSpec.vars false W args.toList ds gs before) :
    Calls Try.prog 6 args W fun e W' => ∃ v, e = .returned v ∧ Rows.cubeBackSpec.post enc Try.prog Try.f6 false true false false W args v W' := by
  have hW' := hW
  obtain ⟨p, q, hA0, hV, rfl, hfz, hnd⟩ := hW
  have hA : DataW.TrodAll enc Try.prog W 0 (fun _ => true) true Try.f6.params.toList args.toList ds p := hA0
  rw [Try.params6] at hA hval
  obtain ⟨v0, vs0, d0, ds0, p0, q0, hargs, rfl, rfl, h0, r0⟩ := trodAll_cons hA
  obtain ⟨v1, vs1, d1, ds1, p1, q1, rfl, rfl, rfl, h1, r1⟩ := trodAll_cons r0
  obtain ⟨v2, vs2, d2, ds2, p2, q2, rfl, rfl, rfl, h2, r2⟩ := trodAll_cons r1
  obtain ⟨rfl, rfl, rfl⟩ := trodAll_nil r2
  obtain rfl : args = #[v0, v1, v2] := by cases args; simp_all
  obtain ⟨rfl, rfl⟩ := trodVars_none hV
  have k0 := h0
  have lt0 : ∀ x ∈ p0, x.block < W.heap.size := by obtain ⟨m, hm⟩ := k0; exact DataW.trod_lt m _ _ _ hm
  have k1 := h1
  have lt1 : ∀ x ∈ p1, x.block < W.heap.size := by obtain ⟨m, hm⟩ := k1; exact DataW.trod_lt m _ _ _ hm
  have k2 := h2
  have lt2 : ∀ x ∈ p2, x.block < W.heap.size := by obtain ⟨m, hm⟩ := k2; exact DataW.trod_lt m _ _ _ hm
  obtain ⟨m, b, rfl, im, ib⟩ := open_cube (hval 0 27 v0 rfl rfl) h0
  obtain ⟨m2, b2, rfl, im2, ib2⟩ := open_cube (hval 1 27 v1 rfl rfl) h1
  obtain ⟨s, rfl, rfl, rfl, hs2⟩ := open_string Try.underlying9 (hval 2 9 v2 rfl rfl) h2
  clear hA0
  refine (walk m b m2 b2 s W).mono fun e W' ⟨he, bel⟩ => ?_
  subst he
  exact ⟨_, rfl, _, _, _, [], _, [], hW', trodAll_mk1 (shut_bool Try.underlying4 _), (trodAll_cons_mk (Below.trod laidOut (by kernel_rfl) (of_decide_eq_true (by kernel_rfl)) k0 bel lt0) (trodAll_cons_mk (Below.trod laidOut (by kernel_rfl) (of_decide_eq_true (by kernel_rfl)) k1 bel lt1) (trodAll_cons_mk (Below.trod laidOut (by kernel_rfl) (of_decide_eq_true (by kernel_rfl)) k2 bel lt2) trodAll_mk0))), rfl, bel.frame _, fun h => by cases h⟩

set_option maxRecDepth 100000 in
theorem lifted (os : Os) (started : os.Started) (H : Type) (enc : TypeId × Value → H) :
    ReturnsInHanded {} Try.checked os 6 .any (Rows.cubeBackSpec.pre6 enc Try.prog Try.f6 Rows.cubeBackRow.domain false) (Rows.cubeBackSpec.post enc Try.prog Try.f6 false true false false) := by
  refine returnsInHanded_of_change (C := Try.checked) own started (by kernel_rfl) Try.func6
    (ChangeSpec.witness6 (enc := enc) (C := Try.checked) false ⟨#[], #[.agg #[.int .i64 0, .int .i64 0], .agg #[.int .i64 0, .int .i64 0], .string ⟨#[]⟩], []⟩ 8 (by kernel_rfl) (by kernel_rfl) (by kernel_rfl) (by kernel_rfl)) ?_
  intro W base args ds gs before hval0 hW hcnd _
  exact contract H enc W base args ds gs before hval0 hW

theorem over : Rows.cubeBackRow.holds Try.pinned (OpenSpec.ofChange Rows.cubeBackSpec) :=
  OpenClaim.holds_of_wide 6 Try.f6 rfl rfl rfl rfl rfl rfl rfl ⟨rfl, rfl, rfl, rfl, rfl⟩ rfl rfl rfl rfl rfl (by kernel_rfl) Try.func6 (by kernel_rfl)
    (of_decide_eq_true (by kernel_rfl)) (by unfold Func.isWrapper; first | (rw [if_pos (by decide +kernel)]; kernel_rfl) | (rw [if_neg (by decide +kernel)]; exact ⟨rfl, rfl⟩))
    (fun os started H enc _ => lifted os started H enc)

theorem proved : Rows.CubeBackSaid := over
end Go.Proofs.Ytedgcbcphlonpaa.lawCubeBack
