/- What the document's functions over cubes come to (railref1). -/
import Derived.Test.YtpkcdfgjcodidaaDoorCube
import Derived.Test.YtpkcdfgjcodidaaDoorCubesPlain
namespace Go.Proofs.YtpkcdfgjcodidaaDoor
open Go.RowKit
set_option maxRecDepth 100000
set_option linter.unusedSimpArgs false
set_option linter.unusedVariables false

theorem and_andNot {m b : Int} (h : 0 ≤ m ∧ m < 16 ∧ 0 ≤ b ∧ b < 16) : bits .and .i64 b m = b ↔ bits .andNot .i64 b m = 0 := by
  obtain ⟨h1, h2, h3, h4⟩ := h
  obtain ⟨m, rfl⟩ := Int.eq_ofNat_of_zero_le h1
  obtain ⟨b, rfl⟩ := Int.eq_ofNat_of_zero_le h3
  have hm : m < 16 := by omega
  have hb : b < 16 := by omega
  have H : ∀ x y : Fin 16, bits .and .i64 (y.val : Int) (x.val : Int) = (y.val : Int) ↔ bits .andNot .i64 (y.val : Int) (x.val : Int) = 0 := by decide +kernel
  exact H ⟨m, hm⟩ ⟨b, hb⟩

set_option maxHeartbeats 400000 in
theorem rheader_any (n : Int) (w : World) : Calls Tryd.prog 71 #[.int .i64 n] w fun e w' => e = .returned (.bool (hdr n)) ∧ w = w' := by
  go_enter Tryd.func71, Tryd.ntmps71
  go_wp2
  all_goals go_ret
  all_goals (refine ⟨?_, rfl⟩; (refine ret_bool ?_; go_light; unfold hdr; rw [Bool.eq_iff_iff]; (try simp only [Bool.not_eq_true', Bool.not_eq_false', decide_eq_false_iff_not, decide_eq_true_eq, bne_iff_ne, ne_eq, bne_eq_false_iff_eq, beq_iff_eq, beq_eq_false_iff_ne, Bool.and_eq_true, Bool.or_eq_true, Bool.not_true, Bool.not_false, Bool.not_eq_true, Bool.false_eq_true, hdr_iff, hdr_not, false_iff, true_iff, iff_false, iff_true] at *); omega))
theorem rheader_yes (n : Int) (w : World) (h0 : 0 ≤ n) (h1 : n < 16) : Calls Tryd.prog 71 #[.int .i64 n] w fun e w' => e = .returned (.bool true) ∧ w = w' :=
  (rheader_any n w).mono fun _ _ ⟨he, hb⟩ => ⟨by rw [he, hdr_iff.2 ⟨h0, h1⟩], hb⟩
theorem rheader_no (n : Int) (w : World) (h : ¬ (0 ≤ n ∧ n < 16)) : Calls Tryd.prog 71 #[.int .i64 n] w fun e w' => e = .returned (.bool false) ∧ w = w' :=
  (rheader_any n w).mono fun _ _ ⟨he, hb⟩ => ⟨by rw [he, hdr_not.2 h], hb⟩

set_option maxHeartbeats 1600000 in
theorem rcube_any (m b : Int) (w : World) : Calls Tryd.prog 18 #[.agg #[.int .i64 m, .int .i64 b]] w fun e w' => e = .returned (.int .i64 (cchk m b)) ∧ Below w.heap.size w w' := by
  by_cases hm : 0 ≤ m ∧ m < 16 ∧ 0 ≤ b ∧ b < 16
  · have HE := Lib.hid (and_andNot hm)
    have HC := Lib.hid (show cchk m b = if bits .andNot .i64 b m = 0 then 0 else 3 by unfold cchk; rw [if_pos hm])
    have HM := Lib.hid (rheader_yes m · hm.1 hm.2.1)
    have HB := Lib.hid (rheader_yes b · hm.2.2.1 hm.2.2.2)
    clear hm
    go_enter Tryd.func18, Tryd.ntmps18
    go_wp2_with fail
    (go_at_call 71; refine (HM.out _).mono ?_; rintro e w' ⟨rfl, rfl⟩)
    go_wp2_with fail
    (go_at_call 71; refine (HB.out _).mono ?_; rintro e w' ⟨rfl, rfl⟩)
    go_wp2
    all_goals go_ret
    all_goals refine ⟨ret_val ?_, by go_grown⟩
    all_goals (rw [HC.out]; go_light; simp only [← HE.out]; simp_all)
  · have HV := Lib.hid (show cchk m b = 1 by unfold cchk; rw [if_neg hm])
    have HN := Lib.hid (show ¬ (hdr m = true ∧ hdr b = true) from fun h => hm ⟨(hdr_iff.1 h.1).1, (hdr_iff.1 h.1).2, (hdr_iff.1 h.2).1, (hdr_iff.1 h.2).2⟩)
    clear hm
    cases hx : hdr m with
    | true =>
      cases hy : hdr b with
      | true => exact absurd ⟨hx, hy⟩ HN.out
      | false =>
        have HM := Lib.hid (fun w => (rheader_any m w).mono fun _ _ h => hx ▸ h)
        have HB := Lib.hid (fun w => (rheader_any b w).mono fun _ _ h => hy ▸ h)
        clear hx hy HN
        go_enter Tryd.func18, Tryd.ntmps18
        go_wp2_with fail
        (go_at_call 71; refine (HM.out _).mono ?_; rintro e w' ⟨rfl, rfl⟩)
        go_wp2_with fail
        (go_at_call 71; refine (HB.out _).mono ?_; rintro e w' ⟨rfl, rfl⟩)
        go_wp2
        all_goals go_ret
        all_goals exact ⟨by rw [HV.out]; rfl, by go_grown⟩
    | false =>
      have HM := Lib.hid (fun w => (rheader_any m w).mono fun _ _ h => hx ▸ h)
      have HB := Lib.hid (fun w => rheader_any b w)
      clear hx HN
      go_enter Tryd.func18, Tryd.ntmps18
      go_wp2_with fail
      (go_at_call 71; refine (HM.out _).mono ?_; rintro e w' ⟨rfl, rfl⟩)
      go_wp2_with fail
      (go_at_call 71; refine (HB.out _).mono ?_; rintro e w' ⟨rfl, rfl⟩)
      go_wp2
      all_goals go_ret
      all_goals exact ⟨by rw [HV.out]; rfl, by go_grown⟩

set_option maxHeartbeats 800000 in
theorem rhas_any (m b h : Int) (w : World) : Calls Tryd.prog 24 #[.agg #[.int .i64 m, .int .i64 b], .int .i64 h] w fun e w' => e = .returned (.bool (chas m b h)) ∧ Below w.heap.size w w' := by
  have HH := Lib.hid (fun w => rheader_any h w)
  have HC := Lib.hid (fun w => rcube_any m b w)
  cases hx : hdr h with
  | false =>
    rw [hx] at HH
    have HV := Lib.hid (show chas m b h = false by unfold chas; rw [decide_eq_false (fun q => hdr_not.1 hx q.2.1)])
    clear hx
    go_enter Tryd.func24, Tryd.ntmps24
    go_wp2_with (first | (go_at_call 71; refine (HH.out _).mono ?_; rintro e w' ⟨rfl, rfl⟩))
    all_goals go_ret
    all_goals exact ⟨by rw [HV.out]; rfl, by go_grown⟩
  | true =>
    rw [hx] at HH
    have HR := Lib.hid (hdr_iff.1 hx)
    clear hx
    by_cases hk : cchk m b = 0
    · rw [hk] at HC
      have HK := Lib.hid hk
      clear hk
      go_enter Tryd.func24, Tryd.ntmps24
      go_wp2_with (first | (go_at_call 71; refine (HH.out _).mono ?_; rintro e w' ⟨rfl, rfl⟩) | (go_at_call 18; refine (HC.out _).mono ?_; rintro e w' ⟨rfl, hb⟩; obtain ⟨hc, hf⟩ := bcell hb; have hz := hb.size; (try simp at hz); (try have y1 := Nat.lt_of_succ_le hz); (try have y2 := Nat.lt_of_succ_lt y1); (try have y3 := Nat.lt_of_succ_lt y2); have hB := bstep (w := w) (by go_grown) hb; (try have z0 : w.heap.size < w'.heap.size := by omega); (try have z1 : w.heap.size + 1 < w'.heap.size := by omega); (try have z2 : w.heap.size + 1 + 1 < w'.heap.size := by omega); (try have z3 : w.heap.size + 1 + 1 + 1 < w'.heap.size := by omega)))
      all_goals go_ret
      all_goals refine ⟨?_, by go_grown⟩
      all_goals (have hk := HK.out; have hr := HR.out; (refine ret_bool ?_; go_light; unfold chas; rw [Bool.eq_iff_iff]; (try simp only [Bool.not_eq_true', Bool.not_eq_false', decide_eq_false_iff_not, decide_eq_true_eq, bne_iff_ne, ne_eq, bne_eq_false_iff_eq, beq_iff_eq, beq_eq_false_iff_ne, Bool.and_eq_true, Bool.or_eq_true, Bool.not_true, Bool.not_false, Bool.not_eq_true, Bool.false_eq_true, hdr_iff, hdr_not, false_iff, true_iff, iff_false, iff_true] at *); omega))
    · have HV := Lib.hid (show chas m b h = false by unfold chas; rw [decide_eq_false (fun q => hk q.1)])
      have hk' : (cchk m b == 0) = false := by simpa using hk
      clear hk
      go_enter Tryd.func24, Tryd.ntmps24
      go_wp2_with (first | (go_at_call 71; refine (HH.out _).mono ?_; rintro e w' ⟨rfl, rfl⟩) | (go_at_call 18; refine (HC.out _).mono ?_; rintro e w' ⟨rfl, hb⟩; obtain ⟨hc, hf⟩ := bcell hb; have hz := hb.size; (try simp at hz); (try have y1 := Nat.lt_of_succ_le hz); (try have y2 := Nat.lt_of_succ_lt y1); (try have y3 := Nat.lt_of_succ_lt y2); have hB := bstep (w := w) (by go_grown) hb; (try have z0 : w.heap.size < w'.heap.size := by omega); (try have z1 : w.heap.size + 1 < w'.heap.size := by omega); (try have z2 : w.heap.size + 1 + 1 < w'.heap.size := by omega); (try have z3 : w.heap.size + 1 + 1 + 1 < w'.heap.size := by omega)))
      all_goals go_ret
      all_goals exact ⟨by rw [HV.out]; rfl, by go_grown⟩
end Go.Proofs.YtpkcdfgjcodidaaDoor
