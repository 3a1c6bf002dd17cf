/- RuleBack: the law. -/
import Derived.Test.YtpbfogklmhgfoaaDoorSLookup
namespace Go.Proofs.YtpbfogklmhgfoaaDoor.Ty
open Go Go.RowKit Go.Proofs.YtpbfogklmhgfoaaDoor Go.Proofs.YtpbfogklmhgfoaaDoor.Den
set_option linter.unusedSimpArgs false
set_option linter.unusedVariables false
set_option maxRecDepth 100000
theorem goI_some {α β σ : Type} {stp : Int → α → σ → (σ → Option β) → Option β} {fin : σ → Option β} (hf : ∀ q, ∃ v, fin q = some v) (hs : ∀ i y q k, (∀ q', ∃ v, k q' = some v) → ∃ v, stp i y q k = some v) : ∀ (l : List α) (i : Int) (q : σ), ∃ v, goI stp fin i l q = some v
  | [], i, q => hf q
  | y :: l, i, q => hs i y q _ fun q' => goI_some hf hs l (i + 1) q'
theorem cubeParse_some (s : ByteArray) (hs : s.size ≤ 1048576) : ∃ x, t_cube_Parse s = some x := by
  unfold t_cube_Parse
  split
  · exact ⟨_, rfl⟩
  · rw [need_pos (decide_eq_true (by unfold maxI; omega)), join_eq, loopI_eq (by rw [numsOf_len]; unfold maxI; omega)]
    refine goI_some (fun q => ⟨_, rfl⟩) (fun i y q k hk => ?_) _ _ _
    simp only [join_eq]
    split
    · exact hk _
    · split
      · exact hk _
      · split
        · exact hk _
        · exact ⟨_, rfl⟩
theorem number_some (s : ByteArray) (hs : s.size ≤ 1048576) : ∃ x, t_rule_Number s = some x := ⟨_, if_pos (by omega)⟩
theorem idx_some' {α : Type} {l : List α} {n : Nat} (h : n < l.length) : ∃ x, idx l (n : Int) = some x ∧ x ∈ l := ⟨l[n], by rw [idx_nat]; exact List.getElem?_eq_getElem h, List.getElem_mem h⟩
theorem read_some (L : List ByteArray) (hL : ∀ w ∈ L, w.size ≤ 1048576) : ∃ x, t_rule_read L = some x := by
  unfold t_rule_read
  by_cases h3 : L.length < 3
  · rw [if_pos (by simp; omega)]; exact ⟨_, rfl⟩
  rw [if_neg (by simp; omega)]
  obtain ⟨w0, i0, m0⟩ := idx_some' (l := L) (n := 0) (by omega)
  obtain ⟨w1, i1, m1⟩ := idx_some' (l := L) (n := 1) (by omega)
  obtain ⟨w2, i2, m2⟩ := idx_some' (l := L) (n := 2) (by omega)
  obtain ⟨n0, e0⟩ := number_some w0 (hL _ m0)
  obtain ⟨c1, e1⟩ := cubeParse_some w1 (hL _ m1)
  have i0' : idx L 0 = some w0 := i0
  have i1' : idx L 1 = some w1 := i1
  have i2' : idx L 2 = some w2 := i2
  rw [i0', Option.bind_some, e0, Option.bind_some, i1', Option.bind_some, e1, Option.bind_some]
  split
  · exact ⟨_, rfl⟩
  rw [i2', Option.bind_some]
  split
  · exact ⟨_, rfl⟩
  rw [Option.bind_some]
  split
  · exact ⟨_, rfl⟩
  rename_i hbad
  have hlen : L.length = 4 ∨ L.length = 6 := by
    by_cases h4 : L.length = 4
    · exact .inl h4
    · by_cases h6 : L.length = 6
      · exact .inr h6
      · exfalso; apply hbad
        rw [show decide ((L.length : Int) ≠ 4) = true by simp; omega, show decide ((L.length : Int) ≠ 6) = true by simp; omega]
        simp
  obtain ⟨w3, i3, m3⟩ := idx_some' (l := L) (n := 3) (by omega)
  obtain ⟨n3, e3⟩ := number_some w3 (hL _ m3)
  have i3' : idx L 3 = some w3 := i3
  rw [i3', Option.bind_some, e3, Option.bind_some]
  split
  · exact ⟨_, rfl⟩
  by_cases h6 : L.length = 6
  · obtain ⟨w5, i5, m5⟩ := idx_some' (l := L) (n := 5) (by omega)
    obtain ⟨w4, i4, m4⟩ := idx_some' (l := L) (n := 4) (by omega)
    obtain ⟨c5, e5⟩ := cubeParse_some w5 (hL _ m5)
    have i5' : idx L 5 = some w5 := i5
    have i4' : idx L 4 = some w4 := i4
    rw [if_pos (by simp; omega), i5', Option.bind_some, e5, Option.bind_some, i4', Option.bind_some]
    exact ⟨_, rfl⟩
  · rw [if_neg (by simp; omega)]; exact ⟨_, rfl⟩
theorem glue_len (c : UInt8) : ∀ (ws : List (List UInt8)) (w : List UInt8), w ∈ ws → w.length ≤ (glue c ws).length
  | [], w, h => by cases h
  | [x], w, h => by rw [List.mem_singleton.1 h]; exact Nat.le_refl _
  | x :: y :: ws, w, h => by
    rw [glue, List.length_append, List.length_cons]
    rcases List.mem_cons.1 h with rfl | h
    · omega
    · have := glue_len c (y :: ws) w h; omega
theorem parse_some (s : ByteArray) (hs : s.size ≤ 1048576) : ∃ x, t_rule_Parse s = some x := by
  unfold t_rule_Parse
  obtain ⟨L, hL⟩ : ∃ L, t_Split s sp = some L := ⟨_, if_pos ⟨by omega, by decide⟩⟩
  have hw : ∀ w ∈ L, w.size ≤ 1048576 := fun w hw => by
    have h1 := glue_len 32 (L.map (·.data.toList)) w.data.toList (List.mem_map_of_mem (f := (·.data.toList)) hw)
    rw [← split_glue hL] at h1
    have a1 : w.data.toList.length = w.size := by simp
    have a2 : s.data.toList.length = s.size := by simp
    omega
  obtain ⟨x, hx⟩ := read_some L hw
  rw [hL, Option.bind_some, hx, Option.bind_some]
  split
  · exact ⟨_, rfl⟩
  obtain ⟨c, hc⟩ := ruleCheck_some x.1
  rw [hc, Option.bind_some]
  split <;> exact ⟨_, rfl⟩
theorem print_some (r : T_Rule) : ∃ x, t_rule_Print r = some x := by
  obtain ⟨c, hc⟩ := ruleCheck_some r
  by_cases h0 : c = 0
  · subst h0
    obtain ⟨u, _, _, e, _⟩ := rule_txt hc
    exact ⟨_, e⟩
  · unfold t_rule_Print
    rw [hc, Option.bind_some, if_pos (by simpa using h0)]
    exact ⟨_, rfl⟩
/-- turned round -/
theorem turned_run (t : List T_Rule) (ht : t.length ≤ 100) : ∀ (N i : Nat) (s : List T_Rule), i ≤ t.length → i < N → s = (t.drop i).reverse →
    tfix (fun k187 (s186 : ((List T_Rule) × Int)) =>
 if ((decide (0 ≤ s186.2)) && (decide (s186.2 < 100))) = true then (
 (idx t s186.2).bind fun r200 =>
 (app s186.1 ([r200] : (List T_Rule))).bind fun r204 =>
 k187 (r204, (wr (s186.2 - 1)))) else (
 some (s186.1))) N (s, (i : Int) - 1) = some t.reverse
  | 0, i, s, _, h, _ => by omega
  | N + 1, 0, s, _, _, hs => by
    rw [tfix]
    dsimp only
    rw [if_neg (by simp), hs, List.drop_zero]
  | N + 1, i + 1, s, hi, hN, hs => by
    rw [tfix]
    dsimp only
    have e : ((i + 1 : Nat) : Int) - 1 = (i : Int) := by omega
    rw [e, if_pos (by simp; omega), idx_nat, List.getElem?_eq_getElem (show i < t.length by omega), Option.bind_some, app_eq (by rw [hs]; simp; omega), Option.bind_some, wr_id (by omega) (by omega)]
    refine turned_run t ht N i (s ++ [t[i]]) (by omega) (by omega) ?_
    rw [hs, List.drop_eq_getElem_cons (show i < t.length by omega), List.reverse_cons]
theorem s_HasM (c : T_Cube) (h : Int) : ∃ b, t_cube_Has c h = some b ∧ (b = true → bits .and .i64 h c.Mask = c.Bits) ∧ (t_cube_Check c = some 0 → 0 ≤ h ∧ h < 16 → bits .and .i64 h c.Mask = c.Bits → b = true) := by
  unfold t_cube_Has
  obtain ⟨v, hv⟩ : ∃ v, t_cube_Check c = some v := by
    unfold t_cube_Check
    have e3 : ∃ b, t_cube_Header c.Mask = some b := ⟨_, rfl⟩
    have e4 : ∃ b, t_cube_Header c.Bits = some b := ⟨_, rfl⟩
    obtain ⟨b3, e3⟩ := e3
    obtain ⟨b4, e4⟩ := e4
    rw [e3, e4]
    cases b3 <;> cases b4 <;> simp only [gd, Bool.not_true, Bool.not_false, if_true, Bool.or_self, Bool.true_or, Bool.or_true, Bool.false_eq_true, if_false, Option.bind_some] <;> first | exact ⟨_, rfl⟩ | (split <;> exact ⟨_, rfl⟩)
  rw [hv, Option.bind_some]
  by_cases h0 : v = 0
  · subst h0
    have hh : t_cube_Header h = some (decide (0 ≤ h) && decide (h < 16)) := rfl
    simp only [decide_true, gd_true, hh, Option.bind_some, Bool.true_and]
    refine ⟨_, rfl, fun hb => ?_, fun _ hr hm => ?_⟩
    · simp only [Bool.and_eq_true, decide_eq_true_eq] at hb; exact hb.2
    · simp [hr.1, hr.2, hm]
  · rw [decide_eq_false h0]
    simp only [gd_false, Option.bind_some, Bool.false_and]
    exact ⟨false, rfl, (fun hb => by cases hb), (fun hx => absurd (Option.some.inj hx) h0)⟩
theorem walk_RuleBack (r : T_Rule) (s : ByteArray) (h : Int) (t : List T_Rule) (hs : s.size ≤ 1048576) (ht : t.length ≤ 1048576) : t_raillaw1_RuleBack r s h t = some true := by
  unfold t_raillaw1_RuleBack
  rw [fact_rule, Option.bind_some, if_neg (by decide)]
  obtain ⟨⟨u, e⟩, hu⟩ := print_some r
  rw [hu, Option.bind_some]
  simp only [join_eq]
  by_cases h1 : e = 0
  case' pos => subst h1; (try dsimp only); rw [if_pos (by simp), print_parse hu, Option.bind_some, if_neg (by simp)]
  case' neg => (try dsimp only); rw [if_neg (by simpa using h1)]
  all_goals
    obtain ⟨⟨y, e2⟩, hy⟩ := parse_some s hs
    rw [hy, Option.bind_some]
    try dsimp only
    by_cases h2 : e2 = 0
    case' pos => subst h2; rw [if_pos (by simp), parse_print hy, Option.bind_some, if_neg (by simp)]
    case' neg => rw [if_neg (by simpa using h2)]
    all_goals
      have hwr : wr ((t.length : Int) - 1) = (t.length : Int) - 1 := wr_id (by omega) (by omega)
      rw [hwr]
      by_cases h100 : t.length ≤ 100
      · rw [turned_run t h100 bigN t.length [] (Nat.le_refl _) (by have := bigN_gt; omega) (by simp), Option.bind_some]
        rw [if_neg (by simp)]
        obtain ⟨i, e3, l1, l2, l3⟩ := s_Lookup t h
        obtain ⟨i', e4, k1, k2, k3⟩ := s_Lookup t.reverse h
        rw [l1, Option.bind_some, k1, Option.bind_some]
        try dsimp only
        have hiff : e3 = 0 ↔ e4 = 0 := by
          rw [l2, k2]
          constructor
          · rintro ⟨q1, q2, q3⟩; exact ⟨q1.rev, q2, by rw [best_rev q1]; exact q3⟩
          · rintro ⟨q1, q2, q3⟩
            have q1' : tGood t := by have := q1.rev; rwa [List.reverse_reverse] at this
            exact ⟨q1', q2, by rw [← best_rev q1']; exact q3⟩
        by_cases h3 : e3 = 0
        · have h4 := hiff.1 h3
          subst h3; subst h4
          obtain ⟨hg, hr, _⟩ := l2.1 rfl
          obtain ⟨j, x, rfl, hj, hbx⟩ := l3 rfl
          obtain ⟨j', x', rfl, hj', hbx'⟩ := k3 rfl
          rw [best_rev hg, hbx] at hbx'
          have hxx : x = x' := Option.some.inj hbx'
          subst hxx
          obtain ⟨m1, m2, m3⟩ := best_some hbx
          have ij : idx t (j : Int) = some x := by rw [idx_nat]; exact hj
          have ij' : idx t.reverse (j' : Int) = some x := by rw [idx_nat]; exact hj'
          obtain ⟨b, hb, _, hb2⟩ := s_HasM x.Cube h
          have hbt : b = true := hb2 (ruleCheck_0 (hg.chk x m1)).2.2.1 hr (by simpa [mat1] using m2)
          subst hbt
          rw [if_neg (by simp), if_neg (by simp), ij', Option.bind_some, ij, Option.bind_some]
          simp only [decide_true, Bool.not_true, Bool.not_false, gd_true, Option.bind_some, hb, Bool.or_self, Bool.false_eq_true, if_false]
          have hlen := hg.len
          rw [loopI_eq (by unfold maxI; omega), goI_any (p := fun _ => false) (r := false) t 0 (fun z hz i k => ?_)]
          · simp
          · obtain ⟨b2, hz1, hz2, _⟩ := s_HasM z.Cube h
            rw [hz1, Option.bind_some]
            cases b2 with
            | false => simp [gd]
            | true =>
              have hzm : mat1 z h = true := by simpa [mat1] using hz2 rfl
              have hna := m3 z hz hzm
              rw [gd_true, Option.bind_some]
              have : ¬ x.Prio < z.Prio := fun hlt => hna (.inl hlt)
              rw [if_neg (by simpa using this), if_neg (by simp)]
        · have h4 : ¬ e4 = 0 := fun hx => h3 (hiff.2 hx)
          rw [if_neg (by simp [h3, h4]), if_pos (by simpa using h3)]
      · obtain ⟨N, hN⟩ : ∃ N, bigN = N + 1 := ⟨bigN - 1, by have := bigN_gt; omega⟩
        rw [hN, tfix]
        dsimp only
        rw [if_neg (by simp; omega), Option.bind_some, if_pos (by simp; omega)]
theorem walk_RB (r : T_Rule) (s : ByteArray) (h : Int) (t : List T_Rule) (_ : r.wf 1048576) (u1 : wS 1048576 s) (_ : wi64 h) (u3 : wL 1048576 (fun x => T_Rule.wf 1048576 x) t) : t_raillaw1_RuleBack r s h t = some true := walk_RuleBack r s h t u1 u3.1
end Go.Proofs.YtpbfogklmhgfoaaDoor.Ty
