/- raillaw3.RuleTwice returns true for every rule and every header: a header that a rule has turned is not turned any more by it. Conditions: none. -/
import Derived.Test.YtedgcbcphlonpaaOpen
import Derived.Test.YtedgcbcphlonpaaRule1
import Derived.JoinedCond
namespace Go.Proofs.Ytedgcbcphlonpaa.lawRuleTwice
open Go.ChangeShapes Go.WideShapes Go.ChangeAt Go.RowKit
open Go.ChangeMaps (open_string shut_string)
set_option linter.unusedSimpArgs false
set_option linter.unusedVariables false

/-- over all headers: what a rule has set stays set -/
theorem set_twice : ∀ s v h : Fin 16, bits .andNot .i64 ((v : Nat) : Int) ((s : Nat) : Int) = 0 →
    (0 ≤ rapplyV s v h ∧ rapplyV s v h < 16) ∧ rapplyV s v (rapplyV s v h) = rapplyV s v h := by decide +kernel
theorem twice_plain {p m b o s v h : Int} (hr : rapplyE p m b o s v h = 0) :
    (0 ≤ rapplyV s v h ∧ rapplyV s v h < 16) ∧ rapplyV s v (rapplyV s v h) = rapplyV s v h := by
  have hk : rchk p m b o s v = 0 := by
    refine Classical.byContradiction fun hk => ?_
    unfold rapplyE at hr
    rw [if_neg hk] at hr
    exact hk hr
  have hh : 0 ≤ h ∧ h < 16 := by
    refine Classical.byContradiction fun hh => ?_
    unfold rapplyE at hr
    rw [if_pos hk, if_neg hh] at hr
    exact absurd hr (by decide)
  obtain ⟨⟨-, -, -, -, hs, hv⟩, -, h2, -⟩ := rchk_0.1 hk
  have := set_twice ⟨s.toNat, by omega⟩ ⟨v.toNat, by omega⟩ ⟨h.toNat, by omega⟩
  simp only [Int.toNat_of_nonneg hs.1, Int.toNat_of_nonneg hv.1, Int.toNat_of_nonneg hh.1] at this
  exact this h2
theorem fact_ok (w : World) : Calls Try.prog 14 #[.agg #[.int .i64 1, .int .i64 0, .int .i64 0, .int .i64 1, .int .i64 3, .int .i64 1], .int .i64 14] w fun e w' => e = .returned (.tuple #[.int .i64 13, .nilIface]) ∧ Below w.heap.size w w' :=
  (rapply_ok 1 0 0 1 3 1 14 w (by decide +kernel)).mono fun _ _ ⟨he, hb⟩ => ⟨by rw [he, show rapplyV 3 1 14 = 13 by decide +kernel], hb⟩

set_option maxHeartbeats 400000 in
theorem walk (p m b o s v h : Int) (w : World) : Calls Try.prog 4 #[.agg #[.int .i64 p, .int .i64 m, .int .i64 b, .int .i64 o, .int .i64 s, .int .i64 v], .int .i64 h] w fun e w' => e = .returned (.bool true) ∧ Below w.heap.size w w' := by
  by_cases hr : rapplyE p m b o s v h = 0
  · obtain ⟨⟨ha, hb0⟩, he⟩ := twice_plain hr
    by_cases hr2 : rapplyE p m b o s v (rapplyV s v h) = 0
    · have H1 := Lib.hid (fun w => rapply_ok p m b o s v h w hr)
      have H2 := Lib.hid (fun w => (rapply_ok p m b o s v (rapplyV s v h) w hr2).mono (fun (e : Ending) (w' : World) (hh : e = .returned (.tuple #[.int .i64 (rapplyV s v (rapplyV s v h)), .nilIface]) ∧ Below w.heap.size w w') => (⟨by rw [hh.1, he], hh.2⟩ : e = .returned (.tuple #[.int .i64 (rapplyV s v h), .nilIface]) ∧ Below w.heap.size w w')))
      clear hr hr2 he
      generalize rapplyV s v h = n at *
      go_enter Try.func4, Try.ntmps4
      go_wp2_with fail
      (go_at_call 14; refine (fact_ok _).mono ?_; rintro e w' ⟨rfl, hb⟩; obtain ⟨hc, hf⟩ := bcell hb; have hz := hb.size; (try simp at hz); (try have y1 := Nat.lt_of_succ_le hz); (try have y2 := Nat.lt_of_succ_lt y1); (try have y3 := Nat.lt_of_succ_lt y2); have hB := bstep (w := w) (by go_grown) hb; (try have z0 : w.heap.size < w'.heap.size := by omega); (try have z1 : w.heap.size + 1 < w'.heap.size := by omega); (try have z2 : w.heap.size + 1 + 1 < w'.heap.size := by omega); (try have z3 : w.heap.size + 1 + 1 + 1 < w'.heap.size := by omega))
      go_wp2_with fail
      (go_at_call 14; refine (H1.out _).mono ?_; rintro e w' ⟨rfl, hb⟩; obtain ⟨hc, hf⟩ := bcell hb; have hz := hb.size; (try simp at hz); (try have y1 := Nat.lt_of_succ_le hz); (try have y2 := Nat.lt_of_succ_lt y1); (try have y3 := Nat.lt_of_succ_lt y2); have hB := bstep (w := w) (by go_grown) hb; (try have z0 : w.heap.size < w'.heap.size := by omega); (try have z1 : w.heap.size + 1 < w'.heap.size := by omega); (try have z2 : w.heap.size + 1 + 1 < w'.heap.size := by omega); (try have z3 : w.heap.size + 1 + 1 + 1 < w'.heap.size := by omega))
      go_wp2_with fail
      (go_at_call 14; refine (H2.out _).mono ?_; rintro e w' ⟨rfl, hb⟩; obtain ⟨hc, hf⟩ := bcell hb; have hz := hb.size; (try simp at hz); (try have y1 := Nat.lt_of_succ_le hz); (try have y2 := Nat.lt_of_succ_lt y1); (try have y3 := Nat.lt_of_succ_lt y2); have hB := bstep (w := w) (by go_grown) hb; (try have z0 : w.heap.size < w'.heap.size := by omega); (try have z1 : w.heap.size + 1 < w'.heap.size := by omega); (try have z2 : w.heap.size + 1 + 1 < w'.heap.size := by omega); (try have z3 : w.heap.size + 1 + 1 + 1 < w'.heap.size := by omega))
      go_wp2_with fail
      go_ret
      exact ⟨ret_bool (by simp), by go_grown⟩
    · have H1 := Lib.hid (fun w => rapply_ok p m b o s v h w hr)
      have H2 := Lib.hid (fun w => rapply_bad p m b o s v (rapplyV s v h) w hr2)
      clear hr hr2 he
      generalize rapplyE p m b o s v (rapplyV s v h) = k at *
      generalize rapplyV s v h = n at *
      go_enter Try.func4, Try.ntmps4
      go_wp2_with fail
      (go_at_call 14; refine (fact_ok _).mono ?_; rintro e w' ⟨rfl, hb⟩; obtain ⟨hc, hf⟩ := bcell hb; have hz := hb.size; (try simp at hz); (try have y1 := Nat.lt_of_succ_le hz); (try have y2 := Nat.lt_of_succ_lt y1); (try have y3 := Nat.lt_of_succ_lt y2); have hB := bstep (w := w) (by go_grown) hb; (try have z0 : w.heap.size < w'.heap.size := by omega); (try have z1 : w.heap.size + 1 < w'.heap.size := by omega); (try have z2 : w.heap.size + 1 + 1 < w'.heap.size := by omega); (try have z3 : w.heap.size + 1 + 1 + 1 < w'.heap.size := by omega))
      go_wp2_with fail
      (go_at_call 14; refine (H1.out _).mono ?_; rintro e w' ⟨rfl, hb⟩; obtain ⟨hc, hf⟩ := bcell hb; have hz := hb.size; (try simp at hz); (try have y1 := Nat.lt_of_succ_le hz); (try have y2 := Nat.lt_of_succ_lt y1); (try have y3 := Nat.lt_of_succ_lt y2); have hB := bstep (w := w) (by go_grown) hb; (try have z0 : w.heap.size < w'.heap.size := by omega); (try have z1 : w.heap.size + 1 < w'.heap.size := by omega); (try have z2 : w.heap.size + 1 + 1 < w'.heap.size := by omega); (try have z3 : w.heap.size + 1 + 1 + 1 < w'.heap.size := by omega))
      go_wp2_with fail
      (go_at_call 14; refine (H2.out _).mono ?_; rintro e w' ⟨rfl, hb⟩; obtain ⟨hc, hf⟩ := bcell hb; have hz := hb.size; (try simp at hz); (try have y1 := Nat.lt_of_succ_le hz); (try have y2 := Nat.lt_of_succ_lt y1); (try have y3 := Nat.lt_of_succ_lt y2); have hB := bstep (w := w) (by go_grown) hb; (try have z0 : w.heap.size < w'.heap.size := by omega); (try have z1 : w.heap.size + 1 < w'.heap.size := by omega); (try have z2 : w.heap.size + 1 + 1 < w'.heap.size := by omega); (try have z3 : w.heap.size + 1 + 1 + 1 < w'.heap.size := by omega))
      go_wp2_with fail
      go_ret
      exact ⟨ret_bool (by simp), by go_grown⟩
  · have H1 := Lib.hid (fun w => rapply_bad p m b o s v h w hr)
    clear hr
    generalize rapplyE p m b o s v h = k at *
    go_enter Try.func4, Try.ntmps4
    go_wp2_with fail
    (go_at_call 14; refine (fact_ok _).mono ?_; rintro e w' ⟨rfl, hb⟩; obtain ⟨hc, hf⟩ := bcell hb; have hz := hb.size; (try simp at hz); (try have y1 := Nat.lt_of_succ_le hz); (try have y2 := Nat.lt_of_succ_lt y1); (try have y3 := Nat.lt_of_succ_lt y2); have hB := bstep (w := w) (by go_grown) hb; (try have z0 : w.heap.size < w'.heap.size := by omega); (try have z1 : w.heap.size + 1 < w'.heap.size := by omega); (try have z2 : w.heap.size + 1 + 1 < w'.heap.size := by omega); (try have z3 : w.heap.size + 1 + 1 + 1 < w'.heap.size := by omega))
    go_wp2_with fail
    (go_at_call 14; refine (H1.out _).mono ?_; rintro e w' ⟨rfl, hb⟩; obtain ⟨hc, hf⟩ := bcell hb; have hz := hb.size; (try simp at hz); (try have y1 := Nat.lt_of_succ_le hz); (try have y2 := Nat.lt_of_succ_lt y1); (try have y3 := Nat.lt_of_succ_lt y2); have hB := bstep (w := w) (by go_grown) hb; (try have z0 : w.heap.size < w'.heap.size := by omega); (try have z1 : w.heap.size + 1 < w'.heap.size := by omega); (try have z2 : w.heap.size + 1 + 1 < w'.heap.size := by omega); (try have z3 : w.heap.size + 1 + 1 + 1 < w'.heap.size := by omega))
    go_wp2_with fail
    go_ret
    exact ⟨ret_bool rfl, by go_grown⟩

set_option maxRecDepth 100000 in
theorem contract (H : Type) (enc : TypeId × Value → H) (W : World) (base : Nat) (args : Array Value) (ds gs : List (DataW H)) (before : List MemPlace)
    (hval : ∀ (j : Nat) t v, Try.f4.params[j]? = some t → args[j]? = some v → Value.okWide Try.prog W .any base t v)
    (hW : DataW.Whole enc Try.prog Try.f4.params.toList Rows.ruleTwiceSpec.vars false W args.toList ds gs before) :
    Calls Try.prog 4 args W fun e W' => ∃ v, e = .returned v ∧ Rows.ruleTwiceSpec.post enc Try.prog Try.f4 false true false false W args v W' := by
  have hW' := hW
  obtain ⟨p, q, hA0, hV, rfl, hfz, hnd⟩ := hW
  have hA : DataW.TrodAll enc Try.prog W 0 (fun _ => true) true Try.f4.params.toList args.toList ds p := hA0
  rw [Try.params4] at hA hval
  obtain ⟨v0, vs0, d0, ds0, p0, q0, hargs, rfl, rfl, h0, r0⟩ := trodAll_cons hA
  obtain ⟨v1, vs1, d1, ds1, p1, q1, rfl, rfl, rfl, h1, r1⟩ := trodAll_cons r0
  obtain ⟨rfl, rfl, rfl⟩ := trodAll_nil r1
  obtain rfl : args = #[v0, v1] := by cases args; simp_all
  obtain ⟨rfl, rfl⟩ := trodVars_none hV
  have k0 := h0
  have lt0 : ∀ x ∈ p0, x.block < W.heap.size := by obtain ⟨m, hm⟩ := k0; exact DataW.trod_lt m _ _ _ hm
  have k1 := h1
  have lt1 : ∀ x ∈ p1, x.block < W.heap.size := by obtain ⟨m, hm⟩ := k1; exact DataW.trod_lt m _ _ _ hm
  obtain ⟨p, m, b, o, s, x, rfl, ip, im, ib, io, is, ix⟩ := open_rule (hval 0 29 v0 rfl rfl) h0
  obtain ⟨h, rfl, rfl, rfl, wf1⟩ := open_int Try.underlying3 (hval 1 3 v1 rfl rfl) h1
  have b1 := i64_of_wf wf1
  clear hA0
  refine (walk p m b o s x h W).mono fun e W' ⟨he, bel⟩ => ?_
  subst he
  exact ⟨_, rfl, _, _, _, [], _, [], hW', trodAll_mk1 (shut_bool Try.underlying4 _), (trodAll_cons_mk (Below.trod laidOut (by kernel_rfl) (of_decide_eq_true (by kernel_rfl)) k0 bel lt0) (trodAll_cons_mk (Below.trod laidOut (by kernel_rfl) (of_decide_eq_true (by kernel_rfl)) k1 bel lt1) trodAll_mk0)), rfl, bel.frame _, fun h => by cases h⟩

set_option maxRecDepth 100000 in
theorem lifted (os : Os) (started : os.Started) (H : Type) (enc : TypeId × Value → H) :
    ReturnsInHanded {} Try.checked os 4 .any (Rows.ruleTwiceSpec.pre6 enc Try.prog Try.f4 Rows.ruleTwiceRow.domain false) (Rows.ruleTwiceSpec.post enc Try.prog Try.f4 false true false false) := by
  refine returnsInHanded_of_change (C := Try.checked) own started (by kernel_rfl) Try.func4
    (ChangeSpec.witness6 (enc := enc) (C := Try.checked) false ⟨#[], #[.agg #[.int .i64 0, .int .i64 0, .int .i64 0, .int .i64 0, .int .i64 0, .int .i64 0], .int .i64 0], []⟩ 8 (by kernel_rfl) (by kernel_rfl) (by kernel_rfl) (by kernel_rfl)) ?_
  intro W base args ds gs before hval0 hW hcnd _
  exact contract H enc W base args ds gs before hval0 hW

theorem over : Rows.ruleTwiceRow.holds Try.pinned (OpenSpec.ofChange Rows.ruleTwiceSpec) :=
  OpenClaim.holds_of_wide 4 Try.f4 rfl rfl rfl rfl rfl rfl rfl ⟨rfl, rfl, rfl, rfl, rfl⟩ rfl rfl rfl rfl rfl (by kernel_rfl) Try.func4 (by kernel_rfl)
    (of_decide_eq_true (by kernel_rfl)) (by unfold Func.isWrapper; first | (rw [if_pos (by decide +kernel)]; kernel_rfl) | (rw [if_neg (by decide +kernel)]; exact ⟨rfl, rfl⟩))
    (fun os started H enc _ => lifted os started H enc)

theorem proved : Rows.RuleTwiceSaid := over
end Go.Proofs.Ytedgcbcphlonpaa.lawRuleTwice
