/- What the readers of messages come to. -/
import Derived.Test.YtedgcbcphlonpaaDoorSpecW2
import Derived.Test.YtedgcbcphlonpaaDoorWireText
namespace Go.Proofs.YtedgcbcphlonpaaDoor.Sem
open Go Go.RowKit Go.Proofs.YtedgcbcphlonpaaDoor.Den
set_option linter.unusedSimpArgs false
set_option linter.unusedVariables false
set_option maxRecDepth 100000

theorem d_eql_u8 {t : TypeId} {xo yo : Operand} {a b : Int} : bin2 Tryd.prog .eql t xo yo (.lit (.int .u8 a)) (.lit (.int .u8 b)) = some (vb (decide (a = b))) := bin2_lit rfl rfl (fun w => by simp [eqGuard, binOp, Op.intCmp]; rfl) rfl
theorem wsize_ite (k : Int) : (if k = 1 then some (vi 12) else if k = 2 ∨ k = 3 then some (vi 5) else some (vi 0)) = some (vi (wsize k)) := by
  unfold wsize
  (repeat' split) <;> rfl
theorem s_wSize (n : Nat) (k : Int) (h0 : 0 ≤ k) (h1 : k < 256) : sem_wire_size n [.lit (.int .u8 k)] = some (vi (wsize k)) := by
  rw [eq_wire_size]
  simp (config := { contextual := true, implicitDefEqProofs := false, maxSteps := 1000000 }) only [d_cv_ui, wrap_id (show -9223372036854775808 ≤ k by omega) (show k ≤ 9223372036854775807 by omega), d_add, d_sub, d_mul, d_eql, d_neq, d_lss, d_leq, d_gtr, d_geq, d_and, d_or, d_xor, d_andNot, d_not, d_pick_t, d_pick_f, d_cond, d_len, d_lenT, d_join, d_ldk_some, d_ldk_none, d_ldp, d_fld, d_ptrF, d_ext, d_agg, d_sl, d_cells_agg, d_cells_lit, d_cells_sl, d_fill_nil, d_fill_cons, d_splice, keepO_same, List.drop_zero, List.drop_succ_cons, List.take_zero, List.take_succ_cons, List.getElem?_cons_zero, List.getElem?_cons_succ, List.getD_cons_zero, List.getD_cons_succ, List.cons_append, List.nil_append, List.append_nil, Option.bind_some, Option.map_some, List.length_cons, List.length_nil, Nat.reduceAdd, Nat.reduceLeDiff, Nat.le_refl, Nat.zero_le, and_self, and_true, true_and, decide_true, decide_false, Bool.not_true, Bool.not_false, if_true, if_false, Bool.false_eq_true, Nat.zero_add, Nat.reduceMul, List.map_cons, List.map_nil, d_guardB, d_gateB, d_guard_pick, d_guard_skip, d_guard_some, d_pickB_pos, d_gateB_pos, d_pickB_tt, d_pickB_ff, d_guardB_tt, d_guardB_ff, d_guardB_tf, d_guardB_ft, d_gateB_tt, d_gateB_ff, d_pick_or, d_pick_and, d_mkI errno_und]
  rw [← wsize_ite]
  simp only [decide_eq_true_eq]
  (repeat' split) <;> first | rfl | (exfalso; omega)
theorem s_wDec1 (n : Nat) (s : ByteArray) (j : Int) (h0 : 0 ≤ j) (h1 : j < s.size) : sem_wire_Decode_1 n [vi j, .ptr [vt s]] = some (vi (bAt s j.toNat)) := by
  rw [eq_wire_Decode_1]
  have hr := bAt_range s j.toNat
  simp only [d_add, d_sub, d_mul, d_eql, d_neq, d_lss, d_leq, d_gtr, d_geq, d_and, d_or, d_xor, d_andNot, d_not, d_pick_t, d_pick_f, d_cond, d_len, d_lenT, d_join, d_ldk_some, d_ldk_none, d_ldp, d_fld, d_ptrF, d_ext, d_agg, d_sl, d_cells_agg, d_cells_lit, d_cells_sl, d_fill_nil, d_fill_cons, d_splice, keepO_same, List.drop_zero, List.drop_succ_cons, List.take_zero, List.take_succ_cons, List.getElem?_cons_zero, List.getElem?_cons_succ, List.getD_cons_zero, List.getD_cons_succ, List.cons_append, List.nil_append, List.append_nil, Option.bind_some, Option.map_some, List.length_cons, List.length_nil, Nat.reduceAdd, Nat.reduceLeDiff, Nat.le_refl, Nat.zero_le, and_self, and_true, true_and, decide_true, decide_false, Bool.not_true, Bool.not_false, if_true, if_false, Bool.false_eq_true, Nat.zero_add, Nat.reduceMul, List.map_cons, List.map_nil, d_index str_und h0 h1, d_cv_ui, wrap_id (show -9223372036854775808 ≤ bAt s j.toNat by omega) (show bAt s j.toNat ≤ 9223372036854775807 by omega)]
theorem size_0 {s : ByteArray} (h : s.size = 0) : s = ByteArray.mk #[] := ByteArray.size_eq_zero_iff.1 h
def mv0 : V := mv mg0
/-- what the readers hand back -/
def decM (o : Option Mg) : V := match o with
  | some m => mv m
  | none => mv0
def decE (o : Option Mg) : Int := if o.isSome = true then 0 else 2
theorem dec_fin {s : ByteArray} (h0 : ¬ s.size = 0) (hl : (s.size : Int) = wsize (bAt s 0)) :
    (if (decide ((mOf s).chk ≠ 0) || !decide ((if (mOf s).chk = 0 then (mOf s).text else ByteArray.mk #[]) = s)) = true then some (V.tup [mv0, errV 2]) else some (V.tup [mv (mOf s), errV 0])) = some (.tup [decM (wdec s), errV (decE (wdec s))]) := by
  have ew : wdec s = if (mOf s).chk = 0 ∧ (mOf s).text = s then some (mOf s) else none := by unfold wdec; rw [if_neg (by intro h; rcases h with h | h; exact h0 h; exact h hl)]
  rw [ew]
  by_cases h : (mOf s).chk = 0
  · by_cases h2 : (mOf s).text = s
    · rw [if_pos (show (mOf s).chk = 0 ∧ (mOf s).text = s from ⟨h, h2⟩), if_neg (by simp [h, h2])]; rfl
    · rw [if_neg (show ¬ ((mOf s).chk = 0 ∧ (mOf s).text = s) from fun z => h2 z.2), if_pos (by simp [h, h2])]; rfl
  · rw [if_neg (show ¬ ((mOf s).chk = 0 ∧ (mOf s).text = s) from fun z => h z.1), if_pos (by simp [h])]; rfl
theorem s_wDecode (n : Nat) (s : ByteArray) (hn : 13 ≤ n) : sem_wire_Decode n [vt s] = some (.tup [decM (wdec s), errV (decE (wdec s))]) := by
  rw [eq_wire_Decode]
  by_cases h0 : s.size = 0
  · have e := size_0 h0
    have ed : wdec s = none := by unfold wdec; rw [if_pos (.inl h0)]
    rw [ed]
    subst e
    simp (config := { contextual := true, implicitDefEqProofs := false, maxSteps := 1000000 }) only [d_eql_str', slcB, chunks, spliceV, d_app, Nat.zero_lt_one, Nat.zero_lt_succ, List.replicate_succ, List.replicate_zero, List.flatten_cons, List.flatten_nil, List.all_cons, List.all_nil, Bool.and_self, Bool.and_true, ne_eq, eq_self, not_true_eq_false, not_false_eq_true, List.singleton_append, d_cond_t, d_add, d_sub, d_mul, d_eql, d_neq, d_lss, d_leq, d_gtr, d_geq, d_and, d_or, d_xor, d_andNot, d_not, d_pick_t, d_pick_f, d_cond, d_len, d_lenT, d_join, d_ldk_some, d_ldk_none, d_ldp, d_fld, d_ptrF, d_ext, d_agg, d_sl, d_cells_agg, d_cells_lit, d_cells_sl, d_fill_nil, d_fill_cons, d_splice, keepO_same, List.drop_zero, List.drop_succ_cons, List.take_zero, List.take_succ_cons, List.getElem?_cons_zero, List.getElem?_cons_succ, List.getD_cons_zero, List.getD_cons_succ, List.cons_append, List.nil_append, List.append_nil, Option.bind_some, Option.map_some, List.length_cons, List.length_nil, Nat.reduceAdd, Nat.reduceLeDiff, Nat.le_refl, Nat.zero_le, and_self, and_true, true_and, decide_true, decide_false, Bool.not_true, Bool.not_false, if_true, if_false, Bool.false_eq_true, Nat.zero_add, Nat.reduceMul, List.map_cons, List.map_nil, d_guardB, d_gateB, d_guard_pick, d_guard_skip, d_guard_some, d_pickB_pos, d_gateB_pos, d_pickB_tt, d_pickB_ff, d_guardB_tt, d_guardB_ff, d_guardB_tf, d_guardB_ft, d_gateB_tt, d_gateB_ff, d_pick_or, d_pick_and, d_mkI errno_und]
    rfl
  · have e0 : decide (s = ByteArray.mk #[]) = false := by simp only [decide_eq_false_iff_not]; intro e; rw [e] at h0; exact h0 rfl
    have hr := bAt_range s 0
    have hi : scal2 Tryd.prog (Instr.index 9) (vt s) (vi 0) = some (.lit (.int .u8 (bAt s 0))) := d_index str_und (by omega) (by omega)
    have hz := s_wSize n (bAt s 0) (by omega) (by omega)
    by_cases hl : (s.size : Int) = wsize (bAt s 0)
    · have e1 : decide ((s.size : Int) ≠ wsize (bAt s 0)) = false := by simpa using hl
      have hE := s_wEncode n (mOf s) hn
      have hw := wsize_range (bAt s 0)
      have d0 := s_wDec1 n s 0 (by omega) (by omega)
      have d1 := s_wDec1 n s 1 (by omega) (by omega)
      have d2 := s_wDec1 n s 2 (by omega) (by omega)
      have d3 := s_wDec1 n s 3 (by omega) (by omega)
      simp only [show (0 : Int).toNat = 0 from rfl, show (1 : Int).toNat = 1 from rfl, show (2 : Int).toNat = 2 from rfl, show (3 : Int).toNat = 3 from rfl] at d0 d1 d2 d3
      by_cases hk : bAt s 0 = 1
      · have hk' : decide (bAt s 0 = 1) = true := by simpa using hk
        have hsz : (s.size : Int) = 12 := by rw [hl, hk]; rfl
        have d4 := s_wDec1 n s 4 (by omega) (by omega)
        have d5 := s_wDec1 n s 5 (by omega) (by omega)
        have d6 := s_wDec1 n s 6 (by omega) (by omega)
        have d7 := s_wDec1 n s 7 (by omega) (by omega)
        have d8 := s_wDec1 n s 8 (by omega) (by omega)
        have d9 := s_wDec1 n s 9 (by omega) (by omega)
        have d10 := s_wDec1 n s 10 (by omega) (by omega)
        simp only [show (4 : Int).toNat = 4 from rfl, show (5 : Int).toNat = 5 from rfl, show (6 : Int).toNat = 6 from rfl, show (7 : Int).toNat = 7 from rfl, show (8 : Int).toNat = 8 from rfl, show (9 : Int).toNat = 9 from rfl, show (10 : Int).toNat = 10 from rfl] at d4 d5 d6 d7 d8 d9 d10
        have em : mOf s = ⟨bAt s 0, bAt s 1, bAt s 2, bAt s 3, ⟨bAt s 1, decide (bAt s 4 = 1), ⟨bAt s 5, bAt s 6, bAt s 7, bAt s 8, bAt s 9, bAt s 10⟩⟩⟩ := by unfold mOf; rw [if_pos hk]
        have hE' : sem_wire_Encode n [.agg [vi (bAt s 0), vi (bAt s 1), vi (bAt s 2), vi (bAt s 3), vi (bAt s 1), vb (decide (bAt s 4 = 1)), vi (bAt s 5), vi (bAt s 6), vi (bAt s 7), vi (bAt s 8), vi (bAt s 9), vi (bAt s 10)]] = some (.tup [vt (if (mOf s).chk = 0 then (mOf s).text else ByteArray.mk #[]), errV (mOf s).chk]) := by
          have := hE
          conv at this => lhs; rw [em]
          exact this
        have eM : mv (mOf s) = .agg [vi (bAt s 0), vi (bAt s 1), vi (bAt s 2), vi (bAt s 3), vi (bAt s 1), vb (decide (bAt s 4 = 1)), vi (bAt s 5), vi (bAt s 6), vi (bAt s 7), vi (bAt s 8), vi (bAt s 9), vi (bAt s 10)] := by rw [em]; rfl
        rw [← dec_fin h0 hl, eM]
        simp (config := { contextual := true, implicitDefEqProofs := false, maxSteps := 1000000 }) only [d_eql_str', d_neq_str', e0, hi, hz, e1, d0, d1, d2, d3, d4, d5, d6, d7, d8, d9, d10, hk', slcB, chunks, spliceV, d_app, Nat.zero_lt_one, Nat.zero_lt_succ, List.replicate_succ, List.replicate_zero, List.flatten_cons, List.flatten_nil, List.all_cons, List.all_nil, Bool.and_self, Bool.and_true, ne_eq, eq_self, not_true_eq_false, not_false_eq_true, List.singleton_append, d_cond_t, d_cond_f, d_spliceV, hE', d_err_neq, d_add, d_sub, d_mul, d_eql, d_neq, d_lss, d_leq, d_gtr, d_geq, d_and, d_or, d_xor, d_andNot, d_not, d_pick_t, d_pick_f, d_cond, d_len, d_lenT, d_join, d_ldk_some, d_ldk_none, d_ldp, d_fld, d_ptrF, d_ext, d_agg, d_sl, d_cells_agg, d_cells_lit, d_cells_sl, d_fill_nil, d_fill_cons, d_splice, keepO_same, List.drop_zero, List.drop_succ_cons, List.take_zero, List.take_succ_cons, List.getElem?_cons_zero, List.getElem?_cons_succ, List.getD_cons_zero, List.getD_cons_succ, List.cons_append, List.nil_append, List.append_nil, Option.bind_some, Option.map_some, List.length_cons, List.length_nil, Nat.reduceAdd, Nat.reduceLeDiff, Nat.le_refl, Nat.zero_le, and_self, and_true, true_and, decide_true, decide_false, Bool.not_true, Bool.not_false, if_true, if_false, Bool.false_eq_true, Nat.zero_add, Nat.reduceMul, List.map_cons, List.map_nil, d_guardB, d_gateB, d_guard_pick, d_guard_skip, d_guard_some, d_pickB_pos, d_gateB_pos, d_pickB_tt, d_pickB_ff, d_guardB_tt, d_guardB_ff, d_guardB_tf, d_guardB_ft, d_gateB_tt, d_gateB_ff, d_pick_or, d_pick_and, d_mkI errno_und]
        rfl
      · have hk' : decide (bAt s 0 = 1) = false := by simpa using hk
        have em : mOf s = ⟨bAt s 0, bAt s 1, bAt s 2, bAt s 3, op0⟩ := by unfold mOf; rw [if_neg hk]
        have hE' : sem_wire_Encode n [.agg [vi (bAt s 0), vi (bAt s 1), vi (bAt s 2), vi (bAt s 3), vi 0, vb false, vi 0, vi 0, vi 0, vi 0, vi 0, vi 0]] = some (.tup [vt (if (mOf s).chk = 0 then (mOf s).text else ByteArray.mk #[]), errV (mOf s).chk]) := by
          have := hE
          conv at this => lhs; rw [em]
          exact this
        have eM : mv (mOf s) = .agg [vi (bAt s 0), vi (bAt s 1), vi (bAt s 2), vi (bAt s 3), vi 0, vb false, vi 0, vi 0, vi 0, vi 0, vi 0, vi 0] := by rw [em]; rfl
        rw [← dec_fin h0 hl, eM]
        simp (config := { contextual := true, implicitDefEqProofs := false, maxSteps := 1000000 }) only [d_eql_str', d_neq_str', e0, hi, hz, e1, d0, d1, d2, d3, hk', slcB, chunks, spliceV, d_app, Nat.zero_lt_one, Nat.zero_lt_succ, List.replicate_succ, List.replicate_zero, List.flatten_cons, List.flatten_nil, List.all_cons, List.all_nil, Bool.and_self, Bool.and_true, ne_eq, eq_self, not_true_eq_false, not_false_eq_true, List.singleton_append, d_cond_t, d_cond_f, d_spliceV, hE', d_err_neq, d_add, d_sub, d_mul, d_eql, d_neq, d_lss, d_leq, d_gtr, d_geq, d_and, d_or, d_xor, d_andNot, d_not, d_pick_t, d_pick_f, d_cond, d_len, d_lenT, d_join, d_ldk_some, d_ldk_none, d_ldp, d_fld, d_ptrF, d_ext, d_agg, d_sl, d_cells_agg, d_cells_lit, d_cells_sl, d_fill_nil, d_fill_cons, d_splice, keepO_same, List.drop_zero, List.drop_succ_cons, List.take_zero, List.take_succ_cons, List.getElem?_cons_zero, List.getElem?_cons_succ, List.getD_cons_zero, List.getD_cons_succ, List.cons_append, List.nil_append, List.append_nil, Option.bind_some, Option.map_some, List.length_cons, List.length_nil, Nat.reduceAdd, Nat.reduceLeDiff, Nat.le_refl, Nat.zero_le, and_self, and_true, true_and, decide_true, decide_false, Bool.not_true, Bool.not_false, if_true, if_false, Bool.false_eq_true, Nat.zero_add, Nat.reduceMul, List.map_cons, List.map_nil, d_guardB, d_gateB, d_guard_pick, d_guard_skip, d_guard_some, d_pickB_pos, d_gateB_pos, d_pickB_tt, d_pickB_ff, d_guardB_tt, d_guardB_ff, d_guardB_tf, d_guardB_ft, d_gateB_tt, d_gateB_ff, d_pick_or, d_pick_and, d_mkI errno_und]
        rfl
    · have e1 : decide ((s.size : Int) ≠ wsize (bAt s 0)) = true := by simpa using hl
      have ed : wdec s = none := by unfold wdec; rw [if_pos (.inr hl)]
      rw [ed]
      simp (config := { contextual := true, implicitDefEqProofs := false, maxSteps := 1000000 }) only [d_eql_str', e0, hi, hz, e1, slcB, chunks, spliceV, d_app, Nat.zero_lt_one, Nat.zero_lt_succ, List.replicate_succ, List.replicate_zero, List.flatten_cons, List.flatten_nil, List.all_cons, List.all_nil, Bool.and_self, Bool.and_true, ne_eq, eq_self, not_true_eq_false, not_false_eq_true, List.singleton_append, d_cond_t, d_cond_f, d_add, d_sub, d_mul, d_eql, d_neq, d_lss, d_leq, d_gtr, d_geq, d_and, d_or, d_xor, d_andNot, d_not, d_pick_t, d_pick_f, d_cond, d_len, d_lenT, d_join, d_ldk_some, d_ldk_none, d_ldp, d_fld, d_ptrF, d_ext, d_agg, d_sl, d_cells_agg, d_cells_lit, d_cells_sl, d_fill_nil, d_fill_cons, d_splice, keepO_same, List.drop_zero, List.drop_succ_cons, List.take_zero, List.take_succ_cons, List.getElem?_cons_zero, List.getElem?_cons_succ, List.getD_cons_zero, List.getD_cons_succ, List.cons_append, List.nil_append, List.append_nil, Option.bind_some, Option.map_some, List.length_cons, List.length_nil, Nat.reduceAdd, Nat.reduceLeDiff, Nat.le_refl, Nat.zero_le, and_self, and_true, true_and, decide_true, decide_false, Bool.not_true, Bool.not_false, if_true, if_false, Bool.false_eq_true, Nat.zero_add, Nat.reduceMul, List.map_cons, List.map_nil, d_guardB, d_gateB, d_guard_pick, d_guard_skip, d_guard_some, d_pickB_pos, d_gateB_pos, d_pickB_tt, d_pickB_ff, d_guardB_tt, d_guardB_ff, d_guardB_tf, d_guardB_ft, d_gateB_tt, d_gateB_ff, d_pick_or, d_pick_and, d_mkI errno_und]
      rfl
end Go.Proofs.YtedgcbcphlonpaaDoor.Sem
