/- WireLong: a message that has an op is twelve bytes, any other five; its last one tells if one other has changed. -/
import Derived.Test.YtedgcbcphlonpaaDoorSemL
import Derived.Test.YtedgcbcphlonpaaDoorWireText
namespace Go.Proofs.YtedgcbcphlonpaaDoor.Sem
open Go Go.RowKit Go.Proofs.YtedgcbcphlonpaaDoor.Den
set_option linter.unusedSimpArgs false
set_option linter.unusedVariables false
set_option maxRecDepth 100000

theorem sum_set : ∀ (l : List Int) (j : Nat) (h : j < l.length) (x : Int), (l.set j x).sum = l.sum - l[j] + x
  | [], j, h, x => by simp at h
  | y :: l, 0, h, x => by simp; omega
  | y :: l, j + 1, h, x => by
    have := sum_set l j (by simpa using h) x
    simp [this]; omega
theorem numsOf_str (l : List Int) (hl : ∀ z ∈ l, 0 ≤ z ∧ z < 256) : numsOf (strOfNums l) = l := by
  unfold numsOf strOfNums
  simp only [List.map_map]
  refine (List.map_congr_left fun z hz => ?_).trans (List.map_id _)
  have := hl z hz
  simp
  omega
/-- one byte changed, not the first: none reads so -/
theorem wlong {m : Mg} (h : m.chk = 0) {j : Nat} {to : Int} (h0 : 1 ≤ j) (h1 : j < m.text.size) (h2 : 0 ≤ to) (h3 : to ≤ 250) (hne : bAt m.text j ≠ to) : wdec (strOfNums ((numsOf m.text).set j to)) = none := by
  cases hd : wdec (strOfNums ((numsOf m.text).set j to)) with
  | none => rfl
  | some x =>
    exfalso
    obtain ⟨hx, ht⟩ := wdec_some hd
    have hr := Mg.bytes_range h
    have hrx := Mg.bytes_range hx
    have e1 : numsOf m.text = m.bytes := numsOf_str _ hr
    have e2 : numsOf x.text = x.bytes := numsOf_str _ hrx
    rw [e1] at ht
    have hl : m.text.size = m.bytes.length := strNums_size _
    have hjl : j < m.bytes.length := by omega
    have e3 : x.bytes = m.bytes.set j to := by
      rw [← e2, ht]
      exact numsOf_str _ fun z hz => by
        rcases List.mem_or_eq_of_mem_set hz with hz | rfl
        · exact hr z hz
        · omega
    have hj : m.bytes[j] ≠ to := by rw [← Mg.text_at h j hjl]; exact hne
    have hlen : x.nums.length = m.nums.length := by
      have := congrArg List.length e3
      unfold Mg.bytes at this
      simpa using this
    unfold Mg.bytes at e3 hj hjl
    by_cases hj2 : j < m.nums.length
    · rw [List.set_append_left _ _ hj2] at e3
      obtain ⟨e4, e5⟩ := List.append_inj e3 (by simpa using hlen)
      simp only [List.cons.injEq, and_true] at e5
      rw [List.getElem_append_left hj2] at hj
      have hn := Mg.nums_range h _ (List.getElem_mem hj2)
      rw [e4, sum_set _ _ hj2] at e5
      omega
    · have e6 : j - m.nums.length = 0 := by simp at hjl; omega
      rw [List.set_append_right _ _ (by omega), e6] at e3
      obtain ⟨e4, e5⟩ := List.append_inj e3 (by simpa using hlen)
      simp only [List.set_cons_zero, List.cons.injEq, and_true] at e5
      rw [List.getElem_append_right (by omega)] at hj
      simp only [e6, List.getElem_cons_zero] at hj
      rw [e4] at e5
      exact hj e5
theorem d_gtr_u8 {t : TypeId} {xo yo : Operand} {a b : Int} : bin2 Tryd.prog .gtr t xo yo (.lit (.int .u8 a)) (.lit (.int .u8 b)) = some (vb (decide (b < a))) := bin2_lit rfl rfl (fun w => by simp [eqGuard, binOp, Op.intCmp]) rfl
theorem long_walk (n : Nat) (m : Mg) (a to : Int) (hn : 13 ≤ n) (h2 : 0 ≤ to) (h3 : to < 256) : sem_raillaw4_WireLong n [mv m, vi a, .lit (.int .u8 to)] = some (vb true) := by
  rw [eq_raillaw4_WireLong]
  have hF : sem_wire_Encode n [.agg [vi 2, vi 1, vi 0, vi 0, vi 0, vb false, vi 0, vi 0, vi 0, vi 0, vi 0, vi 0]] = some (.tup [vt (Mg.text ⟨2, 1, 0, 0, op0⟩), errV 0]) := s_wEncode n ⟨2, 1, 0, 0, op0⟩ hn
  have hT : ((Mg.text ⟨2, 1, 0, 0, op0⟩).size : Int) = 5 := by rw [Mg.text_size rfl]; rfl
  generalize Mg.text ⟨2, 1, 0, 0, op0⟩ = T at hF hT
  have hE := s_wEncode n m hn
  by_cases hc : m.chk = 0
  · rw [if_pos hc, hc] at hE
    have hs := Mg.text_size hc
    have hk := Mg.key hc
    by_cases hk1 : m.k = 1
    · have hk' : decide (m.k = 1) = true := by simpa using hk1
      have hsz : (m.text.size : Int) = 12 := by rw [hs]; unfold wsize; rw [if_pos hk1]
      unfold mv Mg.vc at hE
      by_cases c1 : a < 1
      · have c1' : decide (a < 1) = true := by simpa using c1
        simp (config := { contextual := true, implicitDefEqProofs := false, maxSteps := 1000000 }) only [mv, Mg.vc, hF, hE, hT, hsz, hk', c1', d_err_neq, d_cond_t, d_cond_f, slcB, chunks, spliceV, d_app, Nat.zero_lt_one, Nat.zero_lt_succ, List.replicate_succ, List.replicate_zero, List.flatten_cons, List.flatten_nil, List.all_cons, List.all_nil, Bool.and_self, Bool.and_true, ne_eq, eq_self, not_true_eq_false, not_false_eq_true, List.singleton_append, d_add, d_sub, d_mul, d_eql, d_neq, d_lss, d_leq, d_gtr, d_geq, d_and, d_or, d_xor, d_andNot, d_not, d_pick_t, d_pick_f, d_cond, d_len, d_lenT, d_join, d_ldk_some, d_ldk_none, d_ldp, d_fld, d_ptrF, d_ext, d_agg, d_sl, d_cells_agg, d_cells_lit, d_cells_sl, d_fill_nil, d_fill_cons, d_splice, keepO_same, List.drop_zero, List.drop_succ_cons, List.take_zero, List.take_succ_cons, List.getElem?_cons_zero, List.getElem?_cons_succ, List.getD_cons_zero, List.getD_cons_succ, List.cons_append, List.nil_append, List.append_nil, Option.bind_some, Option.map_some, List.length_cons, List.length_nil, Nat.reduceAdd, Nat.reduceLeDiff, Nat.le_refl, Nat.zero_le, and_self, and_true, true_and, decide_true, decide_false, Bool.not_true, Bool.not_false, if_true, if_false, Bool.false_eq_true, Nat.zero_add, Nat.reduceMul, List.map_cons, List.map_nil, d_guardB, d_gateB, d_guard_pick, d_guard_skip, d_guard_some, d_pickB_pos, d_gateB_pos, d_pickB_tt, d_pickB_ff, d_guardB_tt, d_guardB_ff, d_guardB_tf, d_guardB_ft, d_gateB_tt, d_gateB_ff, d_pick_or, d_pick_and, d_mkI errno_und]
      · have c1' : decide (a < 1) = false := by simpa using c1
        by_cases c2 : 12 ≤ a
        · have c2' : decide (12 ≤ a) = true := by simpa using c2
          simp (config := { contextual := true, implicitDefEqProofs := false, maxSteps := 1000000 }) only [mv, Mg.vc, hF, hE, hT, hsz, hk', c1', c2', d_err_neq, d_cond_t, d_cond_f, slcB, chunks, spliceV, d_app, Nat.zero_lt_one, Nat.zero_lt_succ, List.replicate_succ, List.replicate_zero, List.flatten_cons, List.flatten_nil, List.all_cons, List.all_nil, Bool.and_self, Bool.and_true, ne_eq, eq_self, not_true_eq_false, not_false_eq_true, List.singleton_append, d_add, d_sub, d_mul, d_eql, d_neq, d_lss, d_leq, d_gtr, d_geq, d_and, d_or, d_xor, d_andNot, d_not, d_pick_t, d_pick_f, d_cond, d_len, d_lenT, d_join, d_ldk_some, d_ldk_none, d_ldp, d_fld, d_ptrF, d_ext, d_agg, d_sl, d_cells_agg, d_cells_lit, d_cells_sl, d_fill_nil, d_fill_cons, d_splice, keepO_same, List.drop_zero, List.drop_succ_cons, List.take_zero, List.take_succ_cons, List.getElem?_cons_zero, List.getElem?_cons_succ, List.getD_cons_zero, List.getD_cons_succ, List.cons_append, List.nil_append, List.append_nil, Option.bind_some, Option.map_some, List.length_cons, List.length_nil, Nat.reduceAdd, Nat.reduceLeDiff, Nat.le_refl, Nat.zero_le, and_self, and_true, true_and, decide_true, decide_false, Bool.not_true, Bool.not_false, if_true, if_false, Bool.false_eq_true, Nat.zero_add, Nat.reduceMul, List.map_cons, List.map_nil, d_guardB, d_gateB, d_guard_pick, d_guard_skip, d_guard_some, d_pickB_pos, d_gateB_pos, d_pickB_tt, d_pickB_ff, d_guardB_tt, d_guardB_ff, d_guardB_tf, d_guardB_ft, d_gateB_tt, d_gateB_ff, d_pick_or, d_pick_and, d_mkI errno_und]
        · have c2' : decide (12 ≤ a) = false := by simpa using c2
          have hi : scal2 Tryd.prog (Instr.index 9) (vt m.text) (vi a) = some (.lit (.int .u8 (bAt m.text a.toNat))) := d_index str_und (by omega) (by omega)
          by_cases c3 : bAt m.text a.toNat = to
          · have c3' : decide (bAt m.text a.toNat = to) = true := by simpa using c3
            simp (config := { contextual := true, implicitDefEqProofs := false, maxSteps := 1000000 }) only [mv, Mg.vc, hF, hE, hT, hsz, hk', c1', c2', hi, c3', d_eql_u8, d_gtr_u8, d_err_neq, d_cond_t, d_cond_f, slcB, chunks, spliceV, d_app, Nat.zero_lt_one, Nat.zero_lt_succ, List.replicate_succ, List.replicate_zero, List.flatten_cons, List.flatten_nil, List.all_cons, List.all_nil, Bool.and_self, Bool.and_true, ne_eq, eq_self, not_true_eq_false, not_false_eq_true, List.singleton_append, d_add, d_sub, d_mul, d_eql, d_neq, d_lss, d_leq, d_gtr, d_geq, d_and, d_or, d_xor, d_andNot, d_not, d_pick_t, d_pick_f, d_cond, d_len, d_lenT, d_join, d_ldk_some, d_ldk_none, d_ldp, d_fld, d_ptrF, d_ext, d_agg, d_sl, d_cells_agg, d_cells_lit, d_cells_sl, d_fill_nil, d_fill_cons, d_splice, keepO_same, List.drop_zero, List.drop_succ_cons, List.take_zero, List.take_succ_cons, List.getElem?_cons_zero, List.getElem?_cons_succ, List.getD_cons_zero, List.getD_cons_succ, List.cons_append, List.nil_append, List.append_nil, Option.bind_some, Option.map_some, List.length_cons, List.length_nil, Nat.reduceAdd, Nat.reduceLeDiff, Nat.le_refl, Nat.zero_le, and_self, and_true, true_and, decide_true, decide_false, Bool.not_true, Bool.not_false, if_true, if_false, Bool.false_eq_true, Nat.zero_add, Nat.reduceMul, List.map_cons, List.map_nil, d_guardB, d_gateB, d_guard_pick, d_guard_skip, d_guard_some, d_pickB_pos, d_gateB_pos, d_pickB_tt, d_pickB_ff, d_guardB_tt, d_guardB_ff, d_guardB_tf, d_guardB_ft, d_gateB_tt, d_gateB_ff, d_pick_or, d_pick_and, d_mkI errno_und]
          · have c3' : decide (bAt m.text a.toNat = to) = false := by simpa using c3
            by_cases c4 : 250 < to
            · have c4' : decide (250 < to) = true := by simpa using c4
              simp (config := { contextual := true, implicitDefEqProofs := false, maxSteps := 1000000 }) only [mv, Mg.vc, hF, hE, hT, hsz, hk', c1', c2', hi, c3', c4', d_eql_u8, d_gtr_u8, d_err_neq, d_cond_t, d_cond_f, slcB, chunks, spliceV, d_app, Nat.zero_lt_one, Nat.zero_lt_succ, List.replicate_succ, List.replicate_zero, List.flatten_cons, List.flatten_nil, List.all_cons, List.all_nil, Bool.and_self, Bool.and_true, ne_eq, eq_self, not_true_eq_false, not_false_eq_true, List.singleton_append, d_add, d_sub, d_mul, d_eql, d_neq, d_lss, d_leq, d_gtr, d_geq, d_and, d_or, d_xor, d_andNot, d_not, d_pick_t, d_pick_f, d_cond, d_len, d_lenT, d_join, d_ldk_some, d_ldk_none, d_ldp, d_fld, d_ptrF, d_ext, d_agg, d_sl, d_cells_agg, d_cells_lit, d_cells_sl, d_fill_nil, d_fill_cons, d_splice, keepO_same, List.drop_zero, List.drop_succ_cons, List.take_zero, List.take_succ_cons, List.getElem?_cons_zero, List.getElem?_cons_succ, List.getD_cons_zero, List.getD_cons_succ, List.cons_append, List.nil_append, List.append_nil, Option.bind_some, Option.map_some, List.length_cons, List.length_nil, Nat.reduceAdd, Nat.reduceLeDiff, Nat.le_refl, Nat.zero_le, and_self, and_true, true_and, decide_true, decide_false, Bool.not_true, Bool.not_false, if_true, if_false, Bool.false_eq_true, Nat.zero_add, Nat.reduceMul, List.map_cons, List.map_nil, d_guardB, d_gateB, d_guard_pick, d_guard_skip, d_guard_some, d_pickB_pos, d_gateB_pos, d_pickB_tt, d_pickB_ff, d_guardB_tt, d_guardB_ff, d_guardB_tf, d_guardB_ft, d_gateB_tt, d_gateB_ff, d_pick_or, d_pick_and, d_mkI errno_und]
            · have c4' : decide (250 < to) = false := by simpa using c4
              have hS : s2bT (vt m.text) = some (.osl 1 ((numsOf m.text).map brow)) := by rw [d_s2bT (by unfold maxLen; omega), bytesR_rows]
              have hl : ((numsOf m.text).map brow).length = m.text.size := by rw [List.length_map, numsOf_len]
              have hIn : inB ((numsOf m.text).map brow).length (vi a) = some .any := d_inB ⟨by omega, by rw [hl]; omega⟩
              have hat : a.toNat < (numsOf m.text).length := by rw [numsOf_len]; omega
              have hSet : setV (.osl 1 ((numsOf m.text).map brow)) [] (Stp.mk (some (natOf (vi a))) 0 1) 1 [.lit (.int .u8 to)] = some (.osl 1 (((numsOf m.text).set a.toNat to).map brow)) := by
                rw [← set_brow]
                exact d_setOsl (x := .lit (.int .u8 (numsOf m.text)[a.toNat])) (by rw [d_natOf, List.getElem?_map, List.getElem?_eq_getElem hat]; rfl)
              have hD := s_wDecode n (strOfNums ((numsOf m.text).set a.toNat to)) hn
              rw [wlong hc (by omega) (by omega) h2 (by omega) c3] at hD
              have hX := s_Error n 2 2
              simp (config := { contextual := true, implicitDefEqProofs := false, maxSteps := 1000000 }) only [mv, Mg.vc, hF, hE, hT, hsz, hk', c1', c2', hi, c3', c4', d_eql_u8, d_gtr_u8, d_err_neq, d_cond_t, d_cond_f, slcB, chunks, spliceV, d_app, Nat.zero_lt_one, Nat.zero_lt_succ, List.replicate_succ, List.replicate_zero, List.flatten_cons, List.flatten_nil, List.all_cons, List.all_nil, Bool.and_self, Bool.and_true, ne_eq, eq_self, not_true_eq_false, not_false_eq_true, List.singleton_append, hS, hIn, hSet, d_oslR, d_b2s, hD, decM, decE, mv0, mg0, op0, d_spliceV, hX, Option.isSome_none, d_add, d_sub, d_mul, d_eql, d_neq, d_lss, d_leq, d_gtr, d_geq, d_and, d_or, d_xor, d_andNot, d_not, d_pick_t, d_pick_f, d_cond, d_len, d_lenT, d_join, d_ldk_some, d_ldk_none, d_ldp, d_fld, d_ptrF, d_ext, d_agg, d_sl, d_cells_agg, d_cells_lit, d_cells_sl, d_fill_nil, d_fill_cons, d_splice, keepO_same, List.drop_zero, List.drop_succ_cons, List.take_zero, List.take_succ_cons, List.getElem?_cons_zero, List.getElem?_cons_succ, List.getD_cons_zero, List.getD_cons_succ, List.cons_append, List.nil_append, List.append_nil, Option.bind_some, Option.map_some, List.length_cons, List.length_nil, Nat.reduceAdd, Nat.reduceLeDiff, Nat.le_refl, Nat.zero_le, and_self, and_true, true_and, decide_true, decide_false, Bool.not_true, Bool.not_false, if_true, if_false, Bool.false_eq_true, Nat.zero_add, Nat.reduceMul, List.map_cons, List.map_nil, d_guardB, d_gateB, d_guard_pick, d_guard_skip, d_guard_some, d_pickB_pos, d_gateB_pos, d_pickB_tt, d_pickB_ff, d_guardB_tt, d_guardB_ff, d_guardB_tf, d_guardB_ft, d_gateB_tt, d_gateB_ff, d_pick_or, d_pick_and, d_mkI errno_und]
    · have hk' : decide (m.k = 1) = false := by simpa using hk1
      have hsz : (m.text.size : Int) = 5 := by rw [hs]; unfold wsize; rw [if_neg hk1, if_pos (by omega)]
      unfold mv Mg.vc at hE
      by_cases c1 : a < 1
      · have c1' : decide (a < 1) = true := by simpa using c1
        simp (config := { contextual := true, implicitDefEqProofs := false, maxSteps := 1000000 }) only [mv, Mg.vc, hF, hE, hT, hsz, hk', c1', d_err_neq, d_cond_t, d_cond_f, slcB, chunks, spliceV, d_app, Nat.zero_lt_one, Nat.zero_lt_succ, List.replicate_succ, List.replicate_zero, List.flatten_cons, List.flatten_nil, List.all_cons, List.all_nil, Bool.and_self, Bool.and_true, ne_eq, eq_self, not_true_eq_false, not_false_eq_true, List.singleton_append, d_add, d_sub, d_mul, d_eql, d_neq, d_lss, d_leq, d_gtr, d_geq, d_and, d_or, d_xor, d_andNot, d_not, d_pick_t, d_pick_f, d_cond, d_len, d_lenT, d_join, d_ldk_some, d_ldk_none, d_ldp, d_fld, d_ptrF, d_ext, d_agg, d_sl, d_cells_agg, d_cells_lit, d_cells_sl, d_fill_nil, d_fill_cons, d_splice, keepO_same, List.drop_zero, List.drop_succ_cons, List.take_zero, List.take_succ_cons, List.getElem?_cons_zero, List.getElem?_cons_succ, List.getD_cons_zero, List.getD_cons_succ, List.cons_append, List.nil_append, List.append_nil, Option.bind_some, Option.map_some, List.length_cons, List.length_nil, Nat.reduceAdd, Nat.reduceLeDiff, Nat.le_refl, Nat.zero_le, and_self, and_true, true_and, decide_true, decide_false, Bool.not_true, Bool.not_false, if_true, if_false, Bool.false_eq_true, Nat.zero_add, Nat.reduceMul, List.map_cons, List.map_nil, d_guardB, d_gateB, d_guard_pick, d_guard_skip, d_guard_some, d_pickB_pos, d_gateB_pos, d_pickB_tt, d_pickB_ff, d_guardB_tt, d_guardB_ff, d_guardB_tf, d_guardB_ft, d_gateB_tt, d_gateB_ff, d_pick_or, d_pick_and, d_mkI errno_und]
      · have c1' : decide (a < 1) = false := by simpa using c1
        by_cases c2 : 5 ≤ a
        · have c2' : decide (5 ≤ a) = true := by simpa using c2
          simp (config := { contextual := true, implicitDefEqProofs := false, maxSteps := 1000000 }) only [mv, Mg.vc, hF, hE, hT, hsz, hk', c1', c2', d_err_neq, d_cond_t, d_cond_f, slcB, chunks, spliceV, d_app, Nat.zero_lt_one, Nat.zero_lt_succ, List.replicate_succ, List.replicate_zero, List.flatten_cons, List.flatten_nil, List.all_cons, List.all_nil, Bool.and_self, Bool.and_true, ne_eq, eq_self, not_true_eq_false, not_false_eq_true, List.singleton_append, d_add, d_sub, d_mul, d_eql, d_neq, d_lss, d_leq, d_gtr, d_geq, d_and, d_or, d_xor, d_andNot, d_not, d_pick_t, d_pick_f, d_cond, d_len, d_lenT, d_join, d_ldk_some, d_ldk_none, d_ldp, d_fld, d_ptrF, d_ext, d_agg, d_sl, d_cells_agg, d_cells_lit, d_cells_sl, d_fill_nil, d_fill_cons, d_splice, keepO_same, List.drop_zero, List.drop_succ_cons, List.take_zero, List.take_succ_cons, List.getElem?_cons_zero, List.getElem?_cons_succ, List.getD_cons_zero, List.getD_cons_succ, List.cons_append, List.nil_append, List.append_nil, Option.bind_some, Option.map_some, List.length_cons, List.length_nil, Nat.reduceAdd, Nat.reduceLeDiff, Nat.le_refl, Nat.zero_le, and_self, and_true, true_and, decide_true, decide_false, Bool.not_true, Bool.not_false, if_true, if_false, Bool.false_eq_true, Nat.zero_add, Nat.reduceMul, List.map_cons, List.map_nil, d_guardB, d_gateB, d_guard_pick, d_guard_skip, d_guard_some, d_pickB_pos, d_gateB_pos, d_pickB_tt, d_pickB_ff, d_guardB_tt, d_guardB_ff, d_guardB_tf, d_guardB_ft, d_gateB_tt, d_gateB_ff, d_pick_or, d_pick_and, d_mkI errno_und]
        · have c2' : decide (5 ≤ a) = false := by simpa using c2
          have hi : scal2 Tryd.prog (Instr.index 9) (vt m.text) (vi a) = some (.lit (.int .u8 (bAt m.text a.toNat))) := d_index str_und (by omega) (by omega)
          by_cases c3 : bAt m.text a.toNat = to
          · have c3' : decide (bAt m.text a.toNat = to) = true := by simpa using c3
            simp (config := { contextual := true, implicitDefEqProofs := false, maxSteps := 1000000 }) only [mv, Mg.vc, hF, hE, hT, hsz, hk', c1', c2', hi, c3', d_eql_u8, d_gtr_u8, d_err_neq, d_cond_t, d_cond_f, slcB, chunks, spliceV, d_app, Nat.zero_lt_one, Nat.zero_lt_succ, List.replicate_succ, List.replicate_zero, List.flatten_cons, List.flatten_nil, List.all_cons, List.all_nil, Bool.and_self, Bool.and_true, ne_eq, eq_self, not_true_eq_false, not_false_eq_true, List.singleton_append, d_add, d_sub, d_mul, d_eql, d_neq, d_lss, d_leq, d_gtr, d_geq, d_and, d_or, d_xor, d_andNot, d_not, d_pick_t, d_pick_f, d_cond, d_len, d_lenT, d_join, d_ldk_some, d_ldk_none, d_ldp, d_fld, d_ptrF, d_ext, d_agg, d_sl, d_cells_agg, d_cells_lit, d_cells_sl, d_fill_nil, d_fill_cons, d_splice, keepO_same, List.drop_zero, List.drop_succ_cons, List.take_zero, List.take_succ_cons, List.getElem?_cons_zero, List.getElem?_cons_succ, List.getD_cons_zero, List.getD_cons_succ, List.cons_append, List.nil_append, List.append_nil, Option.bind_some, Option.map_some, List.length_cons, List.length_nil, Nat.reduceAdd, Nat.reduceLeDiff, Nat.le_refl, Nat.zero_le, and_self, and_true, true_and, decide_true, decide_false, Bool.not_true, Bool.not_false, if_true, if_false, Bool.false_eq_true, Nat.zero_add, Nat.reduceMul, List.map_cons, List.map_nil, d_guardB, d_gateB, d_guard_pick, d_guard_skip, d_guard_some, d_pickB_pos, d_gateB_pos, d_pickB_tt, d_pickB_ff, d_guardB_tt, d_guardB_ff, d_guardB_tf, d_guardB_ft, d_gateB_tt, d_gateB_ff, d_pick_or, d_pick_and, d_mkI errno_und]
          · have c3' : decide (bAt m.text a.toNat = to) = false := by simpa using c3
            by_cases c4 : 250 < to
            · have c4' : decide (250 < to) = true := by simpa using c4
              simp (config := { contextual := true, implicitDefEqProofs := false, maxSteps := 1000000 }) only [mv, Mg.vc, hF, hE, hT, hsz, hk', c1', c2', hi, c3', c4', d_eql_u8, d_gtr_u8, d_err_neq, d_cond_t, d_cond_f, slcB, chunks, spliceV, d_app, Nat.zero_lt_one, Nat.zero_lt_succ, List.replicate_succ, List.replicate_zero, List.flatten_cons, List.flatten_nil, List.all_cons, List.all_nil, Bool.and_self, Bool.and_true, ne_eq, eq_self, not_true_eq_false, not_false_eq_true, List.singleton_append, d_add, d_sub, d_mul, d_eql, d_neq, d_lss, d_leq, d_gtr, d_geq, d_and, d_or, d_xor, d_andNot, d_not, d_pick_t, d_pick_f, d_cond, d_len, d_lenT, d_join, d_ldk_some, d_ldk_none, d_ldp, d_fld, d_ptrF, d_ext, d_agg, d_sl, d_cells_agg, d_cells_lit, d_cells_sl, d_fill_nil, d_fill_cons, d_splice, keepO_same, List.drop_zero, List.drop_succ_cons, List.take_zero, List.take_succ_cons, List.getElem?_cons_zero, List.getElem?_cons_succ, List.getD_cons_zero, List.getD_cons_succ, List.cons_append, List.nil_append, List.append_nil, Option.bind_some, Option.map_some, List.length_cons, List.length_nil, Nat.reduceAdd, Nat.reduceLeDiff, Nat.le_refl, Nat.zero_le, and_self, and_true, true_and, decide_true, decide_false, Bool.not_true, Bool.not_false, if_true, if_false, Bool.false_eq_true, Nat.zero_add, Nat.reduceMul, List.map_cons, List.map_nil, d_guardB, d_gateB, d_guard_pick, d_guard_skip, d_guard_some, d_pickB_pos, d_gateB_pos, d_pickB_tt, d_pickB_ff, d_guardB_tt, d_guardB_ff, d_guardB_tf, d_guardB_ft, d_gateB_tt, d_gateB_ff, d_pick_or, d_pick_and, d_mkI errno_und]
            · have c4' : decide (250 < to) = false := by simpa using c4
              have hS : s2bT (vt m.text) = some (.osl 1 ((numsOf m.text).map brow)) := by rw [d_s2bT (by unfold maxLen; omega), bytesR_rows]
              have hl : ((numsOf m.text).map brow).length = m.text.size := by rw [List.length_map, numsOf_len]
              have hIn : inB ((numsOf m.text).map brow).length (vi a) = some .any := d_inB ⟨by omega, by rw [hl]; omega⟩
              have hat : a.toNat < (numsOf m.text).length := by rw [numsOf_len]; omega
              have hSet : setV (.osl 1 ((numsOf m.text).map brow)) [] (Stp.mk (some (natOf (vi a))) 0 1) 1 [.lit (.int .u8 to)] = some (.osl 1 (((numsOf m.text).set a.toNat to).map brow)) := by
                rw [← set_brow]
                exact d_setOsl (x := .lit (.int .u8 (numsOf m.text)[a.toNat])) (by rw [d_natOf, List.getElem?_map, List.getElem?_eq_getElem hat]; rfl)
              have hD := s_wDecode n (strOfNums ((numsOf m.text).set a.toNat to)) hn
              rw [wlong hc (by omega) (by omega) h2 (by omega) c3] at hD
              have hX := s_Error n 2 2
              simp (config := { contextual := true, implicitDefEqProofs := false, maxSteps := 1000000 }) only [mv, Mg.vc, hF, hE, hT, hsz, hk', c1', c2', hi, c3', c4', d_eql_u8, d_gtr_u8, d_err_neq, d_cond_t, d_cond_f, slcB, chunks, spliceV, d_app, Nat.zero_lt_one, Nat.zero_lt_succ, List.replicate_succ, List.replicate_zero, List.flatten_cons, List.flatten_nil, List.all_cons, List.all_nil, Bool.and_self, Bool.and_true, ne_eq, eq_self, not_true_eq_false, not_false_eq_true, List.singleton_append, hS, hIn, hSet, d_oslR, d_b2s, hD, decM, decE, mv0, mg0, op0, d_spliceV, hX, Option.isSome_none, d_add, d_sub, d_mul, d_eql, d_neq, d_lss, d_leq, d_gtr, d_geq, d_and, d_or, d_xor, d_andNot, d_not, d_pick_t, d_pick_f, d_cond, d_len, d_lenT, d_join, d_ldk_some, d_ldk_none, d_ldp, d_fld, d_ptrF, d_ext, d_agg, d_sl, d_cells_agg, d_cells_lit, d_cells_sl, d_fill_nil, d_fill_cons, d_splice, keepO_same, List.drop_zero, List.drop_succ_cons, List.take_zero, List.take_succ_cons, List.getElem?_cons_zero, List.getElem?_cons_succ, List.getD_cons_zero, List.getD_cons_succ, List.cons_append, List.nil_append, List.append_nil, Option.bind_some, Option.map_some, List.length_cons, List.length_nil, Nat.reduceAdd, Nat.reduceLeDiff, Nat.le_refl, Nat.zero_le, and_self, and_true, true_and, decide_true, decide_false, Bool.not_true, Bool.not_false, if_true, if_false, Bool.false_eq_true, Nat.zero_add, Nat.reduceMul, List.map_cons, List.map_nil, d_guardB, d_gateB, d_guard_pick, d_guard_skip, d_guard_some, d_pickB_pos, d_gateB_pos, d_pickB_tt, d_pickB_ff, d_guardB_tt, d_guardB_ff, d_guardB_tf, d_guardB_ft, d_gateB_tt, d_gateB_ff, d_pick_or, d_pick_and, d_mkI errno_und]
  · rw [if_neg hc] at hE
    have hc' : decide (m.chk ≠ 0) = true := by simpa using hc
    unfold mv Mg.vc at hE
    simp (config := { contextual := true, implicitDefEqProofs := false, maxSteps := 1000000 }) only [mv, Mg.vc, hF, hE, hT, hc', d_err_neq, d_cond_t, d_cond_f, slcB, chunks, spliceV, d_app, Nat.zero_lt_one, Nat.zero_lt_succ, List.replicate_succ, List.replicate_zero, List.flatten_cons, List.flatten_nil, List.all_cons, List.all_nil, Bool.and_self, Bool.and_true, ne_eq, eq_self, not_true_eq_false, not_false_eq_true, List.singleton_append, d_add, d_sub, d_mul, d_eql, d_neq, d_lss, d_leq, d_gtr, d_geq, d_and, d_or, d_xor, d_andNot, d_not, d_pick_t, d_pick_f, d_cond, d_len, d_lenT, d_join, d_ldk_some, d_ldk_none, d_ldp, d_fld, d_ptrF, d_ext, d_agg, d_sl, d_cells_agg, d_cells_lit, d_cells_sl, d_fill_nil, d_fill_cons, d_splice, keepO_same, List.drop_zero, List.drop_succ_cons, List.take_zero, List.take_succ_cons, List.getElem?_cons_zero, List.getElem?_cons_succ, List.getD_cons_zero, List.getD_cons_succ, List.cons_append, List.nil_append, List.append_nil, Option.bind_some, Option.map_some, List.length_cons, List.length_nil, Nat.reduceAdd, Nat.reduceLeDiff, Nat.le_refl, Nat.zero_le, and_self, and_true, true_and, decide_true, decide_false, Bool.not_true, Bool.not_false, if_true, if_false, Bool.false_eq_true, Nat.zero_add, Nat.reduceMul, List.map_cons, List.map_nil, d_guardB, d_gateB, d_guard_pick, d_guard_skip, d_guard_some, d_pickB_pos, d_gateB_pos, d_pickB_tt, d_pickB_ff, d_guardB_tt, d_guardB_ff, d_guardB_tf, d_guardB_ft, d_gateB_tt, d_gateB_ff, d_pick_or, d_pick_and, d_mkI errno_und]
end Go.Proofs.YtedgcbcphlonpaaDoor.Sem
