/- What rules and messages come to, as read in plain values. -/
import Derived.Test.YtedgcbcphlonpaaDoorSemW
import Derived.Test.YtedgcbcphlonpaaDoorWireDec
namespace Go.Proofs.YtedgcbcphlonpaaDoor.Sem
open Go Go.RowKit Go.Proofs.YtedgcbcphlonpaaDoor.Den
set_option linter.unusedSimpArgs false
set_option linter.unusedVariables false
set_option maxRecDepth 100000

abbrev errV (n : Int) : V := .lit (errOf n)
def cv (m b : Int) : V := .agg [vi m, vi b]
def _root_.Go.Proofs.YtedgcbcphlonpaaDoor.Rl.vc (r : Rl) : List V := [vi r.p, vi r.m, vi r.b, vi r.o, vi r.s, vi r.v]
def rv (r : Rl) : V := .agg r.vc
def _root_.Go.Proofs.YtedgcbcphlonpaaDoor.Opx.vc (o : Opx) : List V := [vi o.s, vb o.add, vi o.r.p, vi o.r.m, vi o.r.b, vi o.r.o, vi o.r.s, vi o.r.v]
def _root_.Go.Proofs.YtedgcbcphlonpaaDoor.Mg.vc (x : Mg) : List V := [vi x.k, vi x.s, vi x.r, vi x.i, vi x.o.s, vb x.o.add, vi x.o.r.p, vi x.o.r.m, vi x.o.r.b, vi x.o.r.o, vi x.o.r.s, vi x.o.r.v]
def mv (x : Mg) : V := .agg x.vc

theorem opx_ext (x y : Opx) : x = y ↔ x.s = y.s ∧ x.add = y.add ∧ x.r.p = y.r.p ∧ x.r.m = y.r.m ∧ x.r.b = y.r.b ∧ x.r.o = y.r.o ∧ x.r.s = y.r.s ∧ x.r.v = y.r.v := by
  obtain ⟨s, a, p, m, b, o, t, v⟩ := x
  obtain ⟨s2, a2, p2, m2, b2, o2, t2, v2⟩ := y
  simp
theorem run_neq_opx (x y : Opx) (w : World) : (binOp .neq 27 (.agg #[.int .i64 x.s, .bool x.add, .int .i64 x.r.p, .int .i64 x.r.m, .int .i64 x.r.b, .int .i64 x.r.o, .int .i64 x.r.s, .int .i64 x.r.v]) (.agg #[.int .i64 y.s, .bool y.add, .int .i64 y.r.p, .int .i64 y.r.m, .int .i64 y.r.b, .int .i64 y.r.o, .int .i64 y.r.s, .int .i64 y.r.v])).run Tryd.prog w = .ok (.bool (!decide (x = y))) w := by
  rw [run_neq_struct]
  simp [go_sem]
  by_cases e : x = y
  · subst e; simp
  · rw [decide_eq_false e]
    have h := mt (opx_ext x y).2 e
    (repeat' split) <;> first | rfl | (exfalso; simp_all)
theorem d_neq_op (x y : Opx) {xo yo : Operand} : bin2 Tryd.prog .neq 27 xo yo (.agg x.vc) (.agg y.vc) = some (vb (!decide (x = y))) :=
  bin2_lit (u := .agg #[.int .i64 x.s, .bool x.add, .int .i64 x.r.p, .int .i64 x.r.m, .int .i64 x.r.b, .int .i64 x.r.o, .int .i64 x.r.s, .int .i64 x.r.v]) (v := .agg #[.int .i64 y.s, .bool y.add, .int .i64 y.r.p, .int .i64 y.r.m, .int .i64 y.r.b, .int .i64 y.r.o, .int .i64 y.r.s, .int .i64 y.r.v]) rfl rfl (fun w => by simp [eqGuard, run_neq_opx]) rfl
theorem d_neq_op8 (s1 : Int) (a1 : Bool) (p1 m1 b1 o1 t1 v1 s2 : Int) (a2 : Bool) (p2 m2 b2 o2 t2 v2 : Int) {xo yo : Operand} : bin2 Tryd.prog .neq 27 xo yo (.agg [vi s1, vb a1, vi p1, vi m1, vi b1, vi o1, vi t1, vi v1]) (.agg [vi s2, vb a2, vi p2, vi m2, vi b2, vi o2, vi t2, vi v2]) =
    some (vb (!decide ((⟨s1, a1, ⟨p1, m1, b1, o1, t1, v1⟩⟩ : Opx) = ⟨s2, a2, ⟨p2, m2, b2, o2, t2, v2⟩⟩))) := d_neq_op ⟨s1, a1, ⟨p1, m1, b1, o1, t1, v1⟩⟩ ⟨s2, a2, ⟨p2, m2, b2, o2, t2, v2⟩⟩
theorem errno_und : Tryd.prog.underlying 48 = some (.int .i64) := Tryd.underlying48
theorem d_err_neq (n : Int) {xo : Operand} : bin2 Tryd.prog .neq 31 xo (.const .nilIface) (errV n) (.lit .nilIface) = some (vb (decide (n ≠ 0))) := by
  show bin2 Tryd.prog .neq 31 xo (.const .nilIface) (.lit (errOf n)) (.lit .nilIface) = _
  by_cases h : n = 0
  · subst h
    rw [errOf_0]
    simp only [ne_eq, not_true_eq_false, decide_false]
    exact bin2_lit rfl rfl (fun w => by cases xo <;> kernel_rfl) rfl
  · rw [errOf_ne h]
    simp only [h, ne_eq, not_false_eq_true, decide_true]
    exact bin2_lit rfl rfl (fun w => by kernel_rfl) rfl
theorem errV_0 : V.lit .nilIface = errV 0 := rfl
theorem errV_1 : V.lit (.iface 48 (.int .i64 1)) = errV 1 := rfl
theorem errV_2 : V.lit (.iface 48 (.int .i64 2)) = errV 2 := rfl
theorem errV_3 : V.lit (.iface 48 (.int .i64 3)) = errV 3 := rfl

theorem s_Header (n : Nat) (k : Int) : sem_cube_Header n [vi k] = some (vb (hdr k)) := by
  rw [eq_cube_Header]
  simp (config := { contextual := true, implicitDefEqProofs := false, maxSteps := 1000000 }) only [d_add, d_sub, d_mul, d_eql, d_neq, d_lss, d_leq, d_gtr, d_geq, d_and, d_or, d_xor, d_andNot, d_not, d_pick_t, d_pick_f, d_cond, d_len, d_lenT, d_join, d_ldk_some, d_ldk_none, d_ldp, d_fld, d_ptrF, d_ext, d_agg, d_sl, d_cells_agg, d_cells_lit, d_cells_sl, d_fill_nil, d_fill_cons, d_splice, keepO_same, List.drop_zero, List.drop_succ_cons, List.take_zero, List.take_succ_cons, List.getElem?_cons_zero, List.getElem?_cons_succ, List.getD_cons_zero, List.getD_cons_succ, List.cons_append, List.nil_append, List.append_nil, Option.bind_some, Option.map_some, List.length_cons, List.length_nil, Nat.reduceAdd, Nat.reduceLeDiff, Nat.le_refl, Nat.zero_le, and_self, and_true, true_and, decide_true, decide_false, Bool.not_true, Bool.not_false, if_true, if_false, Bool.false_eq_true, Nat.zero_add, Nat.reduceMul, List.map_cons, List.map_nil, d_guardB, d_gateB, d_guard_pick, d_guard_skip, d_guard_some, d_pickB_pos, d_gateB_pos, d_pickB_tt, d_pickB_ff, d_guardB_tt, d_guardB_ff, d_guardB_tf, d_guardB_ft, d_gateB_tt, d_gateB_ff, d_pick_or, d_pick_and]
  congr 3
  unfold hdr
  rw [Bool.eq_iff_iff]; simp
theorem some_ite {α β : Type} {p : Prop} [Decidable p] (f : α → β) (x y : α) : (if p then some (f x) else some (f y)) = some (f (if p then x else y)) := by split <;> rfl
theorem s_Check (n : Nat) (m b : Int) : sem_cube_Check n [cv m b] = some (errV (cchk m b)) := by
  rw [eq_cube_Check]
  simp (config := { contextual := true, implicitDefEqProofs := false, maxSteps := 1000000 }) only [cv, s_Header, d_add, d_sub, d_mul, d_eql, d_neq, d_lss, d_leq, d_gtr, d_geq, d_and, d_or, d_xor, d_andNot, d_not, d_pick_t, d_pick_f, d_cond, d_len, d_lenT, d_join, d_ldk_some, d_ldk_none, d_ldp, d_fld, d_ptrF, d_ext, d_agg, d_sl, d_cells_agg, d_cells_lit, d_cells_sl, d_fill_nil, d_fill_cons, d_splice, keepO_same, List.drop_zero, List.drop_succ_cons, List.take_zero, List.take_succ_cons, List.getElem?_cons_zero, List.getElem?_cons_succ, List.getD_cons_zero, List.getD_cons_succ, List.cons_append, List.nil_append, List.append_nil, Option.bind_some, Option.map_some, List.length_cons, List.length_nil, Nat.reduceAdd, Nat.reduceLeDiff, Nat.le_refl, Nat.zero_le, and_self, and_true, true_and, decide_true, decide_false, Bool.not_true, Bool.not_false, if_true, if_false, Bool.false_eq_true, Nat.zero_add, Nat.reduceMul, List.map_cons, List.map_nil, d_guardB, d_gateB, d_guard_pick, d_guard_skip, d_guard_some, d_pickB_pos, d_gateB_pos, d_pickB_tt, d_pickB_ff, d_guardB_tt, d_guardB_ff, d_guardB_tf, d_guardB_ft, d_gateB_tt, d_gateB_ff, d_pick_or, d_pick_and, d_mkI errno_und]
  simp only [errV_0, errV_1, errV_3, some_ite errV]
  congr 2
  unfold cchk
  cases h1 : hdr m <;> cases h2 : hdr b <;> simp only [hdr_iff, hdr_not] at h1 h2
  · exact (if_pos (by decide)).trans (if_neg (by omega)).symm
  · exact (if_pos (by decide)).trans (if_neg (by omega)).symm
  · exact (if_pos (by decide)).trans (if_neg (by omega)).symm
  · refine (if_neg (by decide)).trans (Eq.trans ?_ (if_pos (by omega)).symm)
    by_cases h : bits .andNot .i64 b m = 0
    · simp [h]
    · simp [h]
theorem s_rCheck (n : Nat) (r : Rl) : sem_rule_Check n [rv r] = some (errV r.chk) := by
  obtain ⟨p, m, b, o, s, v⟩ := r
  rw [eq_rule_Check]
  have hc := s_Check n m b
  unfold cv at hc
  simp (config := { contextual := true, implicitDefEqProofs := false, maxSteps := 1000000 }) only [rv, Rl.vc, s_Header, hc, d_err_neq, d_add, d_sub, d_mul, d_eql, d_neq, d_lss, d_leq, d_gtr, d_geq, d_and, d_or, d_xor, d_andNot, d_not, d_pick_t, d_pick_f, d_cond, d_len, d_lenT, d_join, d_ldk_some, d_ldk_none, d_ldp, d_fld, d_ptrF, d_ext, d_agg, d_sl, d_cells_agg, d_cells_lit, d_cells_sl, d_fill_nil, d_fill_cons, d_splice, keepO_same, List.drop_zero, List.drop_succ_cons, List.take_zero, List.take_succ_cons, List.getElem?_cons_zero, List.getElem?_cons_succ, List.getD_cons_zero, List.getD_cons_succ, List.cons_append, List.nil_append, List.append_nil, Option.bind_some, Option.map_some, List.length_cons, List.length_nil, Nat.reduceAdd, Nat.reduceLeDiff, Nat.le_refl, Nat.zero_le, and_self, and_true, true_and, decide_true, decide_false, Bool.not_true, Bool.not_false, if_true, if_false, Bool.false_eq_true, Nat.zero_add, Nat.reduceMul, List.map_cons, List.map_nil, d_guardB, d_gateB, d_guard_pick, d_guard_skip, d_guard_some, d_pickB_pos, d_gateB_pos, d_pickB_tt, d_pickB_ff, d_guardB_tt, d_guardB_ff, d_guardB_tf, d_guardB_ft, d_gateB_tt, d_gateB_ff, d_pick_or, d_pick_and, d_mkI errno_und]
  simp only [errV_0, errV_1, errV_3, some_ite errV]
  congr 2
  show _ = rchk p m b o s v
  unfold rchk
  have e1 : ((decide (p < 0) || decide (99 < p) || decide (o < 0) || decide (4 < o) || !hdr s || !hdr v) = true) ↔ ¬ (0 ≤ p ∧ p ≤ 99 ∧ 0 ≤ o ∧ o ≤ 4 ∧ (0 ≤ s ∧ s < 16) ∧ (0 ≤ v ∧ v < 16)) := by
    rw [← hdr_iff, ← hdr_iff]
    cases hdr s <;> cases hdr v <;> simp <;> omega
  by_cases h : 0 ≤ p ∧ p ≤ 99 ∧ 0 ≤ o ∧ o ≤ 4 ∧ (0 ≤ s ∧ s < 16) ∧ (0 ≤ v ∧ v < 16)
  · rw [if_neg (fun z => e1.1 z h), if_pos h]
    by_cases hk : cchk m b = 0
    · rw [if_neg (by simpa using hk), if_pos hk]
      by_cases h1 : bits .andNot .i64 v s = 0 <;> by_cases h2 : o = 0 <;> by_cases h3 : s = 0 <;> simp [h1, h2, h3]
    · rw [if_pos (by simpa using hk), if_neg hk]
  · rw [if_pos (e1.2 h), if_neg h]
theorem s_wCheck (n : Nat) (x : Mg) : sem_wire_Check n [mv x] = some (errV x.chk) := by
  obtain ⟨k, s, r, i, os, oa, p, m, b, o, t, v⟩ := x
  rw [eq_wire_Check]
  have hc := s_rCheck n ⟨p, m, b, o, t, v⟩
  unfold rv Rl.vc at hc
  simp (config := { contextual := true, implicitDefEqProofs := false, maxSteps := 1000000 }) only [mv, Mg.vc, hc, d_err_neq, d_neq_op8, d_add, d_sub, d_mul, d_eql, d_neq, d_lss, d_leq, d_gtr, d_geq, d_and, d_or, d_xor, d_andNot, d_not, d_pick_t, d_pick_f, d_cond, d_len, d_lenT, d_join, d_ldk_some, d_ldk_none, d_ldp, d_fld, d_ptrF, d_ext, d_agg, d_sl, d_cells_agg, d_cells_lit, d_cells_sl, d_fill_nil, d_fill_cons, d_splice, keepO_same, List.drop_zero, List.drop_succ_cons, List.take_zero, List.take_succ_cons, List.getElem?_cons_zero, List.getElem?_cons_succ, List.getD_cons_zero, List.getD_cons_succ, List.cons_append, List.nil_append, List.append_nil, Option.bind_some, Option.map_some, List.length_cons, List.length_nil, Nat.reduceAdd, Nat.reduceLeDiff, Nat.le_refl, Nat.zero_le, and_self, and_true, true_and, decide_true, decide_false, Bool.not_true, Bool.not_false, if_true, if_false, Bool.false_eq_true, Nat.zero_add, Nat.reduceMul, List.map_cons, List.map_nil, d_guardB, d_gateB, d_guard_pick, d_guard_skip, d_guard_some, d_pickB_pos, d_gateB_pos, d_pickB_tt, d_pickB_ff, d_guardB_tt, d_guardB_ff, d_guardB_tf, d_guardB_ft, d_gateB_tt, d_gateB_ff, d_pick_or, d_pick_and, d_mkI errno_und]
  simp only [errV_0, errV_1, errV_3, some_ite errV]
  congr 2
  unfold Mg.chk
  simp only [Bool.or_eq_true, Bool.and_eq_true, decide_eq_true_eq, Bool.not_eq_true', decide_eq_false_iff_not, ne_eq, or_assoc]
  rfl
theorem some_ite_vi {p : Prop} [Decidable p] (x y : Int) : (if p then some (vi x) else some (vi y)) = some (vi (if p then x else y)) := by split <;> rfl
theorem d_cv_iu (x : Int) : scal1 Tryd.prog (convert 3 5) (vi x) = some (.lit (.int .u8 (IntKind.u8.wrap x))) := scal1_lit rfl (fun w => by kernel_rfl) rfl
theorem d_cv_ui (x : Int) : scal1 Tryd.prog (convert 5 3) (.lit (.int .u8 x)) = some (vi (IntKind.i64.wrap x)) := scal1_lit rfl (fun w => by kernel_rfl) rfl
theorem str_und : Tryd.prog.underlying 9 = some .string := Tryd.underlying9
theorem s_sum (n : Nat) (xs : List Int) (hx : ∀ x ∈ xs, 0 ≤ x ∧ x ≤ 255) (hl : xs.length ≤ 4096) (hn : xs.length < n) : sem_wire_sum n [.sl (xs.map brow)] = some (.lit (.int .u8 (xs.sum % 251))) := by
  rw [eq_wire_sum]
  simp only [d_len, Option.bind_some, List.length_map]
  refine fix_up (st := fun k => [vi (xs.take k).sum, vi (k : Nat)]) (m := xs.length) (fun k hk rec => ?_) (fun rec => ?_) hn
  · have hs := sum_range (xs.take k) 255 (by omega) fun z hz => hx z (List.mem_of_mem_take hz)
    rw [List.length_take_of_le (by omega)] at hs
    have hxk := hx xs[k] (List.getElem_mem hk)
    have e1 : idxS 1 (.sl (xs.map brow)) (vi (k : Int)) = some (.ptr (brow xs[k])) := d_idx (by simp [hk]) rfl
    have e2 : decide ((k : Int) < (xs.length : Int)) = true := by simpa using hk
    have e3 : IntKind.i64.wrap xs[k] = xs[k] := wrap_id (by omega) (by omega)
    have e4 : IntKind.i64.wrap ((xs.take k).sum + xs[k]) = (xs.take (k + 1)).sum := by
      rw [wrap_id (by omega) (by omega), List.take_succ_eq_append_getElem hk, List.sum_append]; simp
    have e5 : IntKind.i64.wrap ((k : Int) + 1) = ((k + 1 : Nat) : Int) := by rw [wrap_id (by omega) (by omega)]; simp
    simp only [d_add, d_sub, d_mul, d_eql, d_neq, d_lss, d_leq, d_gtr, d_geq, d_and, d_or, d_xor, d_andNot, d_not, d_pick_t, d_pick_f, d_cond, d_len, d_lenT, d_join, d_ldk_some, d_ldk_none, d_ldp, d_fld, d_ptrF, d_ext, d_agg, d_sl, d_cells_agg, d_cells_lit, d_cells_sl, d_fill_nil, d_fill_cons, d_splice, keepO_same, List.drop_zero, List.drop_succ_cons, List.take_zero, List.take_succ_cons, List.getElem?_cons_zero, List.getElem?_cons_succ, List.getD_cons_zero, List.getD_cons_succ, List.cons_append, List.nil_append, List.append_nil, Option.bind_some, Option.map_some, List.length_cons, List.length_nil, Nat.reduceAdd, Nat.reduceLeDiff, Nat.le_refl, Nat.zero_le, and_self, and_true, true_and, decide_true, decide_false, Bool.not_true, Bool.not_false, if_true, if_false, Bool.false_eq_true, Nat.zero_add, Nat.reduceMul, List.map_cons, List.map_nil, e1, e2, d_cv_ui, e3, e4, e5]
  · have hs := sum_range xs 255 (by omega) hx
    have e2 : decide ((xs.length : Int) < (xs.length : Int)) = false := by simp
    have e3 : Int.tmod xs.sum 251 = xs.sum % 251 := Int.tmod_eq_emod_of_nonneg hs.1
    simp only [d_add, d_sub, d_mul, d_eql, d_neq, d_lss, d_leq, d_gtr, d_geq, d_and, d_or, d_xor, d_andNot, d_not, d_pick_t, d_pick_f, d_cond, d_len, d_lenT, d_join, d_ldk_some, d_ldk_none, d_ldp, d_fld, d_ptrF, d_ext, d_agg, d_sl, d_cells_agg, d_cells_lit, d_cells_sl, d_fill_nil, d_fill_cons, d_splice, keepO_same, List.drop_zero, List.drop_succ_cons, List.take_zero, List.take_succ_cons, List.getElem?_cons_zero, List.getElem?_cons_succ, List.getD_cons_zero, List.getD_cons_succ, List.cons_append, List.nil_append, List.append_nil, Option.bind_some, Option.map_some, List.length_cons, List.length_nil, Nat.reduceAdd, Nat.reduceLeDiff, Nat.le_refl, Nat.zero_le, and_self, and_true, true_and, decide_true, decide_false, Bool.not_true, Bool.not_false, if_true, if_false, Bool.false_eq_true, Nat.zero_add, Nat.reduceMul, List.map_cons, List.map_nil, e2, d_rem (show (251 : Int) ≠ 0 by decide), List.take_length, e3, d_cv_iu]
    rw [wrap_u8_id (by omega) (by omega)]
end Go.Proofs.YtedgcbcphlonpaaDoor.Sem
