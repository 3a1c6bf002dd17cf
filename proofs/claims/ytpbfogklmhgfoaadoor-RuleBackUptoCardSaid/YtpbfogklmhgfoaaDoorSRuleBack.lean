/- RuleBack: rules there and back. -/
import Derived.Test.YtpbfogklmhgfoaaDoorSRuleText
namespace Go.Proofs.YtpbfogklmhgfoaaDoor.Ty
open Go Go.RowKit Go.Proofs.YtpbfogklmhgfoaaDoor Go.Proofs.YtpbfogklmhgfoaaDoor.Den
set_option linter.unusedSimpArgs false
set_option linter.unusedVariables false
set_option maxRecDepth 100000

theorem nd {β : Type} {x y : ByteArray} {Y : Option β} (h : x.size + y.size ≤ 1000) : need (decide ((x.size : Int) + y.size ≤ maxI)) Y = Y := need_pos (decide_eq_true (by unfold maxI; omega))
theorem itoa_size {n : Nat} (h : n < 100) : (itoaS n).size ≤ 2 := by
  rw [itoaS_lt h]
  split
  · exact Nat.le_succ 1
  · exact Nat.le_refl 2
theorem val0_all : ((List.range 16).all fun v => decide (t_cube_Check ⟨0, (v : Int)⟩ ≠ some 0) || decide (v = 0)) = true := by kernel_rfl
theorem val0 {v : Int} (h : t_cube_Check ⟨0, v⟩ = some 0) : v = 0 := by
  have hr := (cube_rng h).2
  simp only at hr
  have key := List.all_eq_true.1 val0_all v.toNat (List.mem_range.2 (by omega))
  rw [show ((v.toNat : Nat) : Int) = v by omega] at key
  simp only [h, ne_eq, not_true_eq_false, decide_false, Bool.false_or, decide_eq_true_eq] at key
  omega
abbrev wDrop : ByteArray := ByteArray.mk #[100, 114, 111, 112]
abbrev wOut : ByteArray := ByteArray.mk #[111, 117, 116]
abbrev wSet : ByteArray := ByteArray.mk #[115, 101, 116]
/-- the words of a rule -/
def ruleWs (r : T_Rule) (q q2 : ByteArray) : List ByteArray :=
  if r.Out = 0 then [itoaS r.Prio.toNat, q, wDrop]
  else if r.Set ≠ 0 then [itoaS r.Prio.toNat, q, wOut, itoaS r.Out.toNat, wSet, q2]
  else [itoaS r.Prio.toNat, q, wOut, itoaS r.Out.toNat]
/-- what is written of a rule that is right -/
theorem rule_txt {r : T_Rule} (h : t_rule_Check r = some 0) : ∃ u q q2, t_rule_Print r = some (u, 0) ∧ t_cube_Print r.Cube = some (q, 0) ∧ t_cube_Print ⟨r.Set, r.Value⟩ = some (q2, 0) ∧ u.data.toList = glue 32 ((ruleWs r q q2).map (·.data.toList)) ∧ u.size ≤ 100 := by
  obtain ⟨⟨p0, p1⟩, ⟨o0, o1⟩, hc, hv, hos⟩ := ruleCheck_0 h
  obtain ⟨q, eq, _, _, sq⟩ := cube_txt hc
  obtain ⟨q2, eq2, _, _, sq2⟩ := cube_txt hv
  have sa := itoa_size (n := r.Prio.toNat) (by omega)
  have sb := itoa_size (n := r.Out.toNat) (by omega)
  have ea : t_Itoa r.Prio = some (itoaS r.Prio.toNat) := if_pos ⟨p0, by omega⟩
  have eb : t_Itoa r.Out = some (itoaS r.Out.toNat) := if_pos ⟨o0, by omega⟩
  have l1 : (ByteArray.mk #[32]).size = 1 := rfl
  have l2 : (ByteArray.mk #[32, 100, 114, 111, 112]).size = 5 := rfl
  have l3 : (ByteArray.mk #[32, 111, 117, 116, 32]).size = 5 := rfl
  have l4 : (ByteArray.mk #[32, 115, 101, 116, 32]).size = 5 := rfl
  by_cases h0 : r.Out = 0
  · refine ⟨((itoaS r.Prio.toNat ++ ByteArray.mk #[32]) ++ q) ++ ByteArray.mk #[32, 100, 114, 111, 112], q, q2, ?_, eq, eq2, ?_, by simp only [ByteArray.size_append]; omega⟩
    · unfold t_rule_Print
      rw [h, Option.bind_some, if_neg (by simp), eq, Option.bind_some, if_neg (by simp), ea, Option.bind_some]
      dsimp only
      rw [nd (by omega), nd (by rw [ByteArray.size_append]; omega), if_pos (decide_eq_true h0), nd (by simp only [ByteArray.size_append]; omega)]
    · unfold ruleWs
      rw [if_pos h0]
      simp [ByteArray.data_append, Array.toList_append, glue]
  · by_cases hs : r.Set = 0
    · refine ⟨((itoaS r.Prio.toNat ++ ByteArray.mk #[32]) ++ q) ++ (ByteArray.mk #[32, 111, 117, 116, 32] ++ itoaS r.Out.toNat), q, q2, ?_, eq, eq2, ?_, by simp only [ByteArray.size_append]; omega⟩
      · unfold t_rule_Print
        rw [h, Option.bind_some, if_neg (by simp), eq, Option.bind_some, if_neg (by simp), ea, Option.bind_some]
        dsimp only
        rw [nd (by omega), nd (by rw [ByteArray.size_append]; omega), if_neg (by simpa using h0), eb, Option.bind_some, nd (by omega), nd (by simp only [ByteArray.size_append]; omega), join_eq, if_neg (by simpa using hs)]
      · unfold ruleWs
        rw [if_neg h0, if_neg (by simpa using hs)]
        simp [ByteArray.data_append, Array.toList_append, glue]
    · refine ⟨(((itoaS r.Prio.toNat ++ ByteArray.mk #[32]) ++ q) ++ (ByteArray.mk #[32, 111, 117, 116, 32] ++ itoaS r.Out.toNat)) ++ (ByteArray.mk #[32, 115, 101, 116, 32] ++ q2), q, q2, ?_, eq, eq2, ?_, by simp only [ByteArray.size_append]; omega⟩
      · unfold t_rule_Print
        rw [h, Option.bind_some, if_neg (by simp), eq, Option.bind_some, if_neg (by simp), ea, Option.bind_some]
        dsimp only
        rw [nd (by omega), nd (by rw [ByteArray.size_append]; omega), if_neg (by simpa using h0), eb, Option.bind_some, nd (by omega), nd (by simp only [ByteArray.size_append]; omega), join_eq, if_pos (by simpa using hs), eq2, Option.bind_some, if_neg (by simp)]
        dsimp only
        rw [nd (by omega), nd (by simp only [ByteArray.size_append]; omega)]
      · unfold ruleWs
        rw [if_neg h0, if_pos hs]
        simp [ByteArray.data_append, Array.toList_append, glue]
/-- what is written is read as it was -/
theorem read_txt {r : T_Rule} {q q2 : ByteArray} (h : t_rule_Check r = some 0) (h1 : t_cube_Print r.Cube = some (q, 0)) (h2 : t_cube_Print ⟨r.Set, r.Value⟩ = some (q2, 0)) : t_rule_read (ruleWs r q q2) = some (r, true) ∧ ∀ w ∈ ruleWs r q q2, noSp w = true := by
  obtain ⟨⟨p0, p1⟩, ⟨o0, o1⟩, hc, hv, hos⟩ := ruleCheck_0 h
  obtain ⟨k1, k2⟩ := cube_fwd h1 hc
  obtain ⟨m1, m2⟩ := cube_fwd h2 hv
  obtain ⟨n1, n2⟩ := num_fwd p0 (by omega : r.Prio < 100)
  obtain ⟨x1, x2⟩ := num_fwd o0 (by omega : r.Out < 100)
  have d1 : noSp wDrop = true := rfl
  have d2 : noSp wOut = true := rfl
  have d3 : noSp wSet = true := rfl
  have hset : r.Set = 0 → r.Value = 0 := fun e => val0 (by rw [e] at hv; exact hv)
  unfold ruleWs
  obtain ⟨P, C, O, S, V⟩ := r
  simp only at *
  by_cases h0 : O = 0
  · subst h0
    have hS : S = 0 := by by_cases e : S = 0; exact e; exact absurd ⟨rfl, e⟩ hos
    have hV := hset hS
    subst hS; subst hV
    rw [if_pos rfl]
    refine ⟨?_, by simp [n2, k2, d1]⟩
    unfold t_rule_read
    simp [idx, n1, k1]
  · rw [if_neg h0]
    by_cases hs : S = 0
    · have hV := hset hs
      subst hs; subst hV
      rw [if_neg (by simp)]
      refine ⟨?_, by simp [n2, k2, d2, x2]⟩
      unfold t_rule_read
      simp [idx, n1, k1, x1, h0]
    · rw [if_pos hs]
      refine ⟨?_, by simp [n2, k2, d2, x2, d3, m2]⟩
      unfold t_rule_read
      simp [idx, n1, k1, x1, h0, m1, hs]
theorem print_parse {r : T_Rule} {u : ByteArray} (h : t_rule_Print r = some (u, 0)) : t_rule_Parse u = some (r, 0) := by
  have hc : t_rule_Check r = some 0 := by
    unfold t_rule_Print at h
    cases hc : t_rule_Check r with
    | none => rw [hc] at h; cases h
    | some c =>
      rw [hc, Option.bind_some] at h
      split at h
      · rename_i hne
        simp only [Option.some.injEq, Prod.mk.injEq] at h
        rw [h.2] at hne
        simp at hne
      · rename_i hne
        have : c = 0 := by simpa using hne
        rw [this]
  obtain ⟨u', q, q2, e1, e2, e3, e4, e5⟩ := rule_txt hc
  rw [h] at e1
  have eu : u = u' := by simpa using e1
  subst eu
  obtain ⟨f1, f2⟩ := read_txt hc e2 e3
  unfold t_rule_Parse
  rw [split_words _ u (by unfold ruleWs; split; simp; split <;> simp) f2 e4 (by omega), Option.bind_some, f1, Option.bind_some]
  simp only [Bool.not_true, Bool.false_eq_true, if_false]
  rw [hc, Option.bind_some]
  simp
/-! what is read is written so -/
theorem or_not {a b : Bool} (h : ¬ (!a || b) = true) : a = true ∧ b = false := by cases a <;> cases b <;> simp_all
theorem idx_lit {α : Type} {l : List α} {n : Nat} {x : α} (h : l[n]? = some x) : idx l (n : Int) = some x := by rw [idx_nat]; exact h
theorem read_back {L : List ByteArray} {x : T_Rule} (h : t_rule_read L = some (x, true)) (hc : t_rule_Check x = some 0) : ∃ q q2, t_cube_Print x.Cube = some (q, 0) ∧ t_cube_Print ⟨x.Set, x.Value⟩ = some (q2, 0) ∧ L = ruleWs x q q2 := by
  obtain ⟨⟨p0, p1⟩, ⟨o0, o1⟩, hcc, hv, hos⟩ := ruleCheck_0 hc
  obtain ⟨z2, ez2, _⟩ := cube_txt hv
  unfold t_rule_read at h
  match L, h with
  | [], h => simp at h
  | [_], h => simp at h
  | [_, _], h => simp at h
  | w0 :: w1 :: w2 :: R, h =>
    rw [if_neg (by simp; omega)] at h
    have i0 : idx (w0 :: w1 :: w2 :: R) 0 = some w0 := rfl
    have i1 : idx (w0 :: w1 :: w2 :: R) 1 = some w1 := rfl
    have i2 : idx (w0 :: w1 :: w2 :: R) 2 = some w2 := rfl
    rw [i0, Option.bind_some] at h
    have h' := Option.bind_eq_some_iff.1 h
    clear h
    obtain ⟨⟨P, bP⟩, hP, h⟩ := h'
    rw [i1, Option.bind_some] at h
    have h' := Option.bind_eq_some_iff.1 h
    clear h
    obtain ⟨⟨C, eC⟩, hC, h⟩ := h'
    dsimp only at h
    have hbad : ¬ (!bP || !decide (eC = 0)) = true := fun hx => by rw [if_pos hx] at h; simp at h
    rw [if_neg hbad] at h
    obtain ⟨hbP, hE⟩ := or_not hbad
    have hE : eC = 0 := by simpa using hE
    clear hbad
    subst hbP; subst hE
    have eP := num_bwd hP
    have eC := cube_bwd hC
    rw [i2, Option.bind_some] at h
    by_cases hd : w2 = wDrop
    · rw [if_pos (decide_eq_true hd)] at h
      subst hd
      simp only [Option.some.injEq, Prod.mk.injEq, decide_eq_true_eq] at h
      obtain ⟨rfl, hl⟩ := h
      have hR : R = [] := by
        cases R with
        | nil => rfl
        | cons _ _ => simp at hl; omega
      subst hR
      refine ⟨w1, z2, eC, ez2, ?_⟩
      unfold ruleWs
      rw [if_pos rfl, eP.2]
    · rw [if_neg (by simpa using hd), Option.bind_some] at h
      have hl : ((w0 :: w1 :: w2 :: R).length : Int) = (R.length : Int) + 3 := by simp; omega
      have ho : ¬ ((!decide (w2 = wOut)) || (decide (((w0 :: w1 :: w2 :: R).length : Int) ≠ 4) && decide (((w0 :: w1 :: w2 :: R).length : Int) ≠ 6))) = true := fun hx => by rw [if_pos hx] at h; simp at h
      rw [if_neg ho] at h
      obtain ⟨hw2, hlen0⟩ := or_not ho
      have hw2 : w2 = wOut := of_decide_eq_true hw2
      have hlen : R.length + 3 = 4 ∨ R.length + 3 = 6 := by
        rw [hl] at hlen0
        simp only [Bool.and_eq_false_iff, decide_eq_false_iff_not, ne_eq, Decidable.not_not] at hlen0
        omega
      clear ho hlen0 hl
      subst hw2
      match R, h, hlen with
      | [], h, hlen => simp at hlen
      | w3 :: R, h, hlen =>
        have i3 : idx (w0 :: w1 :: wOut :: w3 :: R) 3 = some w3 := rfl
        rw [i3, Option.bind_some] at h
        have h' := Option.bind_eq_some_iff.1 h
        clear h
        obtain ⟨⟨O, bO⟩, hO, h⟩ := h'
        dsimp only at h
        have hbad : ¬ (!bO || decide (O = 0)) = true := fun hx => by rw [if_pos hx] at h; simp at h
        rw [if_neg hbad] at h
        obtain ⟨hbO, hO1⟩ := or_not hbad
        clear hbad
        subst hbO
        have hO0 : ¬ O = 0 := by simpa using hO1
        have eO := num_bwd hO
        by_cases h6 : R.length = 2
        · rw [if_pos (by simp; omega)] at h
          match R, h6, h with
          | [w4, w5], _, h =>
            have i5 : idx [w0, w1, wOut, w3, w4, w5] 5 = some w5 := rfl
            have i4 : idx [w0, w1, wOut, w3, w4, w5] 4 = some w4 := rfl
            rw [i5, Option.bind_some] at h
            have h' := Option.bind_eq_some_iff.1 h
            clear h
            obtain ⟨⟨D, eD⟩, hD, h⟩ := h'
            rw [i4, Option.bind_some] at h
            simp only [Option.some.injEq, Prod.mk.injEq, Bool.and_eq_true, decide_eq_true_eq] at h
            obtain ⟨rfl, ⟨h4, h5⟩, hm⟩ := h
            subst h4; subst h5
            have eD := cube_bwd hD
            refine ⟨w1, w5, eC, eD, ?_⟩
            unfold ruleWs
            rw [if_neg hO0, if_pos hm, eP.2, eO.2]
        · rw [if_neg (by simp; omega)] at h
          simp only [Option.some.injEq, Prod.mk.injEq, and_true] at h
          subst h
          have hR : R = [] := by
            cases R with
            | nil => rfl
            | cons y R => simp only [List.length_cons] at hlen h6; omega
          subst hR
          refine ⟨w1, z2, eC, ez2, ?_⟩
          unfold ruleWs
          rw [if_neg hO0, if_neg (by simp), eP.2, eO.2]
theorem parse_print {s : ByteArray} {x : T_Rule} (h : t_rule_Parse s = some (x, 0)) : t_rule_Print x = some (s, 0) := by
  unfold t_rule_Parse at h
  have h' := Option.bind_eq_some_iff.1 h
  clear h
  obtain ⟨L, hL, h⟩ := h'
  have h' := Option.bind_eq_some_iff.1 h
  clear h
  obtain ⟨⟨y, b⟩, hy, h⟩ := h'
  dsimp only at h
  split at h
  · simp at h
  rename_i hb
  have hb : b = true := by simpa using hb
  subst hb
  have h' := Option.bind_eq_some_iff.1 h
  clear h
  obtain ⟨c, hc, h⟩ := h'
  split at h
  · rename_i hne
    simp only [Option.some.injEq, Prod.mk.injEq] at h
    rw [h.2] at hne
    simp at hne
  rename_i hne
  have hc0 : c = 0 := by simpa using hne
  subst hc0
  simp only [Option.some.injEq, Prod.mk.injEq, and_true] at h
  subst h
  obtain ⟨q, q2, e1, e2, e3⟩ := read_back hy hc
  obtain ⟨u, r1, r2, f1, f2, f3, f4, f5⟩ := rule_txt hc
  rw [e1] at f2
  rw [e2] at f3
  have g1 : q = r1 := by simpa using f2
  have g2 : q2 = r2 := by simpa using f3
  subst g1; subst g2
  have : s = u := data_inj (by rw [f4, split_glue hL, e3])
  rw [this]; exact f1
theorem fact_rule : t_rule_Parse (ByteArray.mk #[55, 32, 49, 42, 48, 42, 32, 111, 117, 116, 32, 50, 32, 115, 101, 116, 32, 42, 42, 49, 49]) = some (⟨7, ⟨10, 8⟩, 2, 3, 3⟩, 0) := by
  refine print_parse ?_
  unfold t_rule_Print
  rw [show t_rule_Check ⟨7, ⟨10, 8⟩, 2, 3, 3⟩ = some 0 by kernel_rfl]
  dsimp only
  rw [show t_Itoa 7 = some (ByteArray.mk #[55]) by unfold t_Itoa; rw [if_pos (by decide), itoaS_lt (by decide)]; rfl, show t_Itoa 2 = some (ByteArray.mk #[50]) by unfold t_Itoa; rw [if_pos (by decide), itoaS_lt (by decide)]; rfl]
  kernel_rfl
end Go.Proofs.YtpbfogklmhgfoaaDoor.Ty
