/- Which rule counts does not hang on how a table stands. -/
import Derived.Test.YtpbfogklmhgfoaaDoorSRuleBack
import Derived.Test.YtpbfogklmhgfoaaDoorVcS
namespace Go.Proofs.YtpbfogklmhgfoaaDoor.Ty
open Go Go.RowKit Go.Proofs.YtpbfogklmhgfoaaDoor Go.Proofs.YtpbfogklmhgfoaaDoor.Den
set_option linter.unusedSimpArgs false
set_option linter.unusedVariables false
set_option maxRecDepth 100000
theorem s_cmp (x y : Int) : t_cmp_Compare_int x y = some (if x < y then -1 else if y < x then 1 else 0) := by
  unfold t_cmp_Compare_int t_cmp_isNaN_int
  simp only [Option.bind_some, ne_eq, not_true_eq_false, decide_false, Bool.false_eq_true, if_false]
  by_cases h1 : x < y
  · simp [h1]
  · by_cases h2 : y < x <;> simp [h1, h2]
theorem s_cmpOr (a b c : Int) : t_cmp_Or_int [a, b, c] = some (if a ≠ 0 then a else if b ≠ 0 then b else c) := by
  unfold t_cmp_Or_int
  simp only [join_eq]
  rw [loopI_eq (by have : maxI = 9223372036854775807 := rfl; simp; omega)]
  simp only [goI]
  by_cases h1 : a = 0 <;> by_cases h2 : b = 0 <;> by_cases h3 : c = 0 <;> simp [h1, h2, h3]
def abv (x y : T_Rule) : Prop := y.Prio < x.Prio ∨ (x.Prio = y.Prio ∧ (y.Cube.Mask < x.Cube.Mask ∨ (x.Cube.Mask = y.Cube.Mask ∧ y.Cube.Bits < x.Cube.Bits)))
instance (x y : T_Rule) : Decidable (abv x y) := by unfold abv; infer_instance
theorem s_aboveV (x y : T_Rule) : ∃ c, t_rule_above x y = some c ∧ (0 < c ↔ abv x y) := by
  unfold t_rule_above
  simp only [s_cmp, s_cmpOr, Option.bind_some]
  refine ⟨_, rfl, ?_⟩
  unfold abv
  by_cases h1 : x.Prio < y.Prio
  · simp [h1]; omega
  · by_cases h2 : y.Prio < x.Prio
    · simp [h1, h2]
    · by_cases h3 : x.Cube.Mask < y.Cube.Mask
      · simp [h1, h2, h3]; omega
      · by_cases h4 : y.Cube.Mask < x.Cube.Mask
        · simp [h1, h2, h3, h4]; omega
        · by_cases h5 : x.Cube.Bits < y.Cube.Bits
          · simp [h1, h2, h3, h4, h5]; omega
          · by_cases h6 : y.Cube.Bits < x.Cube.Bits
            · simp [h1, h2, h3, h4, h5, h6]; omega
            · simp [h1, h2, h3, h4, h5, h6]
theorem abv_trans {x y z : T_Rule} (h : abv x y) (k : abv y z) : abv x z := by unfold abv at *; omega
theorem abv_irr (x : T_Rule) : ¬ abv x x := by unfold abv; omega
/-- whether a rule has a header -/
def mat1 (r : T_Rule) (h : Int) : Bool := decide ((bits .and .i64 h r.Cube.Mask) = r.Cube.Bits)
def bstep1 (h : Int) (b : Option T_Rule) (x : T_Rule) : Option T_Rule := match b with
  | none => if mat1 x h = true then some x else none
  | some r => if mat1 x h = true ∧ abv x r then some x else some r
/-- the rule that counts -/
def best (h : Int) (t : List T_Rule) : Option T_Rule := t.foldl (bstep1 h) none
theorem best_inv (h : Int) : ∀ (l p : List T_Rule) (b : Option T_Rule), (b = none → ∀ y ∈ p, mat1 y h = false) → (∀ r, b = some r → r ∈ p ∧ mat1 r h = true ∧ ∀ y ∈ p, mat1 y h = true → ¬ abv y r) →
    ((l.foldl (bstep1 h) b = none → ∀ y ∈ p ++ l, mat1 y h = false) ∧ ∀ r, l.foldl (bstep1 h) b = some r → r ∈ p ++ l ∧ mat1 r h = true ∧ ∀ y ∈ p ++ l, mat1 y h = true → ¬ abv y r)
  | [], p, b, h1, h2 => by simpa using ⟨h1, h2⟩
  | x :: l, p, b, h1, h2 => by
    have e : p ++ x :: l = (p ++ [x]) ++ l := by simp
    rw [e, List.foldl_cons]
    refine best_inv h l (p ++ [x]) (bstep1 h b x) (fun hb y hy => ?_) (fun r hr => ?_)
    · cases b with
      | none =>
        unfold bstep1 at hb
        by_cases hx : mat1 x h = true
        · simp [hx] at hb
        · rcases List.mem_append.1 hy with hy | hy
          · exact h1 rfl y hy
          · simp at hy; subst hy; simpa using hx
      | some r0 =>
        simp only [bstep1] at hb
        by_cases hx : mat1 x h = true ∧ abv x r0
        · rw [if_pos hx] at hb; cases hb
        · rw [if_neg hx] at hb; cases hb
    · cases b with
      | none =>
        unfold bstep1 at hr
        by_cases hx : mat1 x h = true
        · simp only [hx, if_true, Option.some.injEq] at hr
          subst hr
          refine ⟨by simp, hx, fun y hy hm => ?_⟩
          rcases List.mem_append.1 hy with hy | hy
          · rw [h1 rfl y hy] at hm; cases hm
          · simp at hy; subst hy; exact abv_irr y
        · simp [hx] at hr
      | some r0 =>
        obtain ⟨q1, q2, q3⟩ := h2 r0 rfl
        unfold bstep1 at hr
        by_cases hx : mat1 x h = true ∧ abv x r0
        · simp only [hx, and_self, if_true, Option.some.injEq] at hr
          subst hr
          refine ⟨by simp, hx.1, fun y hy hm k => ?_⟩
          rcases List.mem_append.1 hy with hy | hy
          · exact q3 y hy hm (abv_trans k hx.2)
          · simp at hy; subst hy; exact abv_irr y k
        · simp only [hx, if_false, Option.some.injEq] at hr
          subst hr
          refine ⟨by simp [q1], q2, fun y hy hm k => ?_⟩
          rcases List.mem_append.1 hy with hy | hy
          · exact q3 y hy hm k
          · simp at hy; subst hy; exact hx ⟨hm, k⟩
theorem best_none {h : Int} {t : List T_Rule} (hb : best h t = none) : ∀ y ∈ t, mat1 y h = false := by
  have := (best_inv h t [] none (fun _ y hy => by simp at hy) (fun r hr => by cases hr)).1 hb
  simpa using this
theorem best_some {h : Int} {t : List T_Rule} {r : T_Rule} (hb : best h t = some r) : r ∈ t ∧ mat1 r h = true ∧ ∀ y ∈ t, mat1 y h = true → ¬ abv y r := by
  have := (best_inv h t [] none (fun _ y hy => by simp at hy) (fun r hr => by cases hr)).2 r hb
  simpa using this
/-- where it lies -/
theorem s_FindB (t : List T_Rule) (h : Int) (ht : t.length ≤ 100) : ∃ i, t_rule_Find t h = some i ∧ ((i < 0 ∧ best h t = none) ∨ ∃ (j : Nat) (r : T_Rule), i = j ∧ t[j]? = some r ∧ best h t = some r) := by
  have hM : maxI = 9223372036854775807 := rfl
  unfold t_rule_Find
  rw [bind_some_id, loopI_eq (by omega)]
  have : ∀ (l p : List T_Rule) (s : Int) (b : Option T_Rule), t = p ++ l → ((s < 0 ∧ b = none) ∨ ∃ (j : Nat) (r : T_Rule), s = j ∧ t[j]? = some r ∧ b = some r) → ∃ i, goI (fun (i13 : Int) x14 (s9 : Int) k10 =>
      (gd ((decide ((bits .and .i64 h x14.Cube.Mask) = x14.Cube.Bits)) && (!(decide (s9 < 0)))) default (idx t s9)).bind fun r43 =>
      (gd ((decide ((bits .and .i64 h x14.Cube.Mask) = x14.Cube.Bits)) && (!(decide (s9 < 0)))) default (t_rule_above x14 r43)).bind fun r50 =>
      (if ((decide ((bits .and .i64 h x14.Cube.Mask) = x14.Cube.Bits)) && ((decide (s9 < 0)) || (decide (0 < r50)))) = true then (some i13) else (some (s9))).bind fun (s60 : Int) => k10 (s60)) (fun (s9 : Int) => some (s9)) (p.length : Int) l s = some i ∧ ((i < 0 ∧ l.foldl (bstep1 h) b = none) ∨ ∃ (j : Nat) (r : T_Rule), i = j ∧ t[j]? = some r ∧ l.foldl (bstep1 h) b = some r) := by
    intro l
    induction l with
    | nil => intro p s b _ hs; exact ⟨s, rfl, hs⟩
    | cons x l ih =>
      intro p s b hp hs
      have hx : t[p.length]? = some x := by rw [hp]; simp
      have e : (p.length : Int) + 1 = (((p ++ [x]).length : Nat) : Int) := by simp
      rw [goI, List.foldl_cons]
      show ∃ i, (gd (mat1 x h && !decide (s < 0)) default (idx t s)).bind _ = _ ∧ _
      rcases hs with ⟨h1, rfl⟩ | ⟨j, r, rfl, h2, rfl⟩
      · have h1' : decide (s < 0) = true := by simpa using h1
        simp only [h1', Bool.not_true, Bool.and_false, gd_false, Option.bind_some, Bool.true_or, Bool.and_true]
        by_cases hm : mat1 x h = true
        · have hm' : decide ((bits .and .i64 h x.Cube.Mask) = x.Cube.Bits) = true := hm
          rw [hm', if_pos rfl, Option.bind_some, e]
          exact ih (p ++ [x]) p.length (bstep1 h none x) (by rw [hp]; simp) (.inr ⟨p.length, x, rfl, hx, by unfold bstep1; simp [hm]⟩)
        · have hm' : decide ((bits .and .i64 h x.Cube.Mask) = x.Cube.Bits) = false := by
            cases hd : decide ((bits .and .i64 h x.Cube.Mask) = x.Cube.Bits) with
            | false => rfl
            | true => exact absurd hd hm
          rw [hm', if_neg (by simp), Option.bind_some, e]
          exact ih (p ++ [x]) s (bstep1 h none x) (by rw [hp]; simp) (.inl ⟨h1, by unfold bstep1; simp [hm]⟩)
      · have h1' : decide ((j : Int) < 0) = false := by simp
        obtain ⟨c, hc, hcp⟩ := s_aboveV x r
        have hi : idx t (j : Int) = some r := by rw [idx_nat]; exact h2
        by_cases hm : mat1 x h = true
        · have hm' : decide ((bits .and .i64 h x.Cube.Mask) = x.Cube.Bits) = true := hm
          simp only [hm, hm', h1', Bool.not_false, Bool.and_self, gd_true, hi, hc, Option.bind_some, Bool.false_or, Bool.true_and]
          by_cases ha : abv x r
          · rw [if_pos (by simpa using hcp.2 ha), Option.bind_some, e]
            exact ih (p ++ [x]) p.length (bstep1 h (some r) x) (by rw [hp]; simp) (.inr ⟨p.length, x, rfl, hx, by unfold bstep1; simp [hm, ha]⟩)
          · rw [if_neg (by simpa using fun h => ha (hcp.1 h)), Option.bind_some, e]
            exact ih (p ++ [x]) j (bstep1 h (some r) x) (by rw [hp]; simp) (.inr ⟨j, r, rfl, h2, by unfold bstep1; simp [ha]⟩)
        · have hm' : decide ((bits .and .i64 h x.Cube.Mask) = x.Cube.Bits) = false := by
            cases hd : decide ((bits .and .i64 h x.Cube.Mask) = x.Cube.Bits) with
            | false => rfl
            | true => exact absurd hd hm
          have hm2 : mat1 x h = false := by simpa using hm
          simp only [hm2, hm', Bool.false_and, gd_false, Option.bind_some, Bool.false_eq_true, if_false]
          rw [e]
          exact ih (p ++ [x]) j (bstep1 h (some r) x) (by rw [hp]; simp) (.inr ⟨j, r, rfl, h2, by unfold bstep1; simp [hm]⟩)
  obtain ⟨i, h1, h2⟩ := this t [] (-1) none rfl (.inl ⟨by decide, rfl⟩)
  exact ⟨i, h1, h2⟩

/-- the same key -/
def K (y x : T_Rule) : Bool := decide (y.Prio = x.Prio) && decide (y.Cube = x.Cube)
theorem K_symm {y x : T_Rule} (h : K y x = false) : K x y = false := by
  unfold K at *
  cases h2 : decide (x.Prio = y.Prio) && decide (x.Cube = y.Cube) with
  | false => rfl
  | true =>
    simp only [Bool.and_eq_true, decide_eq_true_eq] at h2
    rw [h2.1, h2.2] at h
    simp at h
theorem s_cfK (x : T_Rule) (l : List T_Rule) (hl : (l.length : Int) ≤ maxI) : t_slices_ContainsFunc_api_Table_api_Rule l (fun a33 => t_rule_Table_1 a33 x) = some (l.any fun y => K y x) := by
  unfold t_slices_ContainsFunc_api_Table_api_Rule t_slices_IndexFunc_api_Table_api_Rule
  rw [join_eq, loopI_eq hl]
  have hk : ∀ y : T_Rule, t_rule_Table_1 y x = some (K y x) := fun y => rfl
  have : ∀ (l : List T_Rule) (i : Int), 0 ≤ i → ∃ j, goI (fun (i13 : Int) x14 (s9 : Unit) k10 => (t_rule_Table_1 x14 x).bind fun r22 => if r22 = true then (some i13) else (k10 ())) (fun _ => some (-1 : Int)) i l () = some j ∧ (decide (0 ≤ j)) = l.any fun y => K y x := by
    intro l
    induction l with
    | nil => intro i _; exact ⟨-1, rfl, rfl⟩
    | cons y l ih =>
      intro i hi
      rw [goI, hk, Option.bind_some]
      cases h : K y x with
      | true => exact ⟨i, if_pos rfl, by simp [h, hi]⟩
      | false =>
        obtain ⟨j, h1, h2⟩ := ih (i + 1) (by omega)
        refine ⟨j, ?_, by rw [h2]; simp [h]⟩
        rw [if_neg (by simp)]; exact h1
  obtain ⟨j, h1, h2⟩ := this l 0 (Int.le_refl _)
  rw [h1, Option.bind_some, h2]
/-- a table that is right -/
structure tGood (t : List T_Rule) : Prop where
  len : t.length ≤ 12
  chk : ∀ x ∈ t, t_rule_Check x = some 0
  keys : t.Pairwise fun x y => K x y = false
theorem tGood.rev {t : List T_Rule} (h : tGood t) : tGood t.reverse :=
  ⟨by rw [List.length_reverse]; exact h.len, fun x hx => h.chk x (List.mem_reverse.1 hx), List.pairwise_reverse.2 (h.keys.imp fun hab => K_symm hab)⟩
theorem tGood.eq {t : List T_Rule} (h : tGood t) {a b : T_Rule} (ha : a ∈ t) (hb : b ∈ t) (hk : K a b = true) : a = b := by
  have := h.keys
  clear h
  induction t with
  | nil => cases ha
  | cons x l ih =>
    rw [List.pairwise_cons] at this
    rcases List.mem_cons.1 ha with ea | ha2 <;> rcases List.mem_cons.1 hb with eb | hb2
    · rw [ea, eb]
    · rw [ea, this.1 b hb2] at hk; cases hk
    · rw [eb, K_symm (this.1 a ha2)] at hk; cases hk
    · exact ih ha2 hb2 this.2
theorem ruleCheck_some (r : T_Rule) : ∃ c, t_rule_Check r = some c := by
  unfold t_rule_Check
  have e1 : ∃ b, t_cube_Header r.Set = some b := ⟨_, rfl⟩
  have e2 : ∃ b, t_cube_Header r.Value = some b := ⟨_, rfl⟩
  obtain ⟨b1, e1⟩ := e1
  obtain ⟨b2, e2⟩ := e2
  have e3 : ∃ c, t_cube_Check r.Cube = some c := by
    unfold t_cube_Check
    have e3 : ∃ b, t_cube_Header r.Cube.Mask = some b := ⟨_, rfl⟩
    have e4 : ∃ b, t_cube_Header r.Cube.Bits = some b := ⟨_, rfl⟩
    obtain ⟨b3, e3⟩ := e3
    obtain ⟨b4, e4⟩ := e4
    rw [e3, e4]
    cases b3 <;> cases b4 <;> simp only [gd, Bool.not_true, Bool.not_false, if_true, Bool.or_self, Bool.true_or, Bool.or_true, Bool.false_eq_true, if_false, Option.bind_some] <;> first | exact ⟨_, rfl⟩ | (split <;> exact ⟨_, rfl⟩)
  obtain ⟨c, e3⟩ := e3
  rw [e1, e2, e3]
  cases hA : (((decide (r.Prio < 0) || decide (99 < r.Prio)) || decide (r.Out < 0)) || decide (4 < r.Out)) with
  | true => exact ⟨1, by simp [gd]⟩
  | false =>
    cases b1 <;> cases b2 <;> simp only [gd, Bool.not_true, Bool.not_false, if_true, Bool.or_self, Bool.true_or, Bool.or_true, Bool.false_eq_true, if_false, Option.bind_some, Bool.or_false, Bool.false_or] <;> first | exact ⟨_, rfl⟩ | (split <;> first | exact ⟨_, rfl⟩ | (split <;> exact ⟨_, rfl⟩))
theorem s_tableG (t : List T_Rule) : ∃ e, t_rule_Table t = some e ∧ (e = 0 ↔ tGood t) := by
  have hM : maxI = 9223372036854775807 := rfl
  unfold t_rule_Table
  by_cases h1 : t.length > 12
  · rw [if_pos (by simp; omega)]
    exact ⟨4, rfl, by simp, fun h => absurd h.len (by omega)⟩
  · rw [if_neg (by simp; omega), join_eq, loopI_eq (by omega)]
    have : ∀ (l p : List T_Rule), t = p ++ l → ∃ e, goI (fun (i17 : Int) x18 (s13 : Unit) k14 =>
        (t_rule_Check x18).bind fun r28 =>
        if (!decide (r28 = 0)) = true then (some r28) else (
        (slc_hi t i17).bind fun r32 =>
        (t_slices_ContainsFunc_api_Table_api_Rule r32 (fun (a33 : T_Rule) => t_rule_Table_1 a33 x18)).bind fun r35 =>
        if r35 = true then (some 7) else (k14 ()))) (fun (s13 : Unit) => some 0) (p.length : Int) l () = some e ∧ (e = 0 ↔ (∀ x ∈ l, t_rule_Check x = some 0) ∧ (l.Pairwise fun x y => K x y = false) ∧ ∀ a ∈ p, ∀ x ∈ l, K a x = false) := by
      intro l
      induction l with
      | nil => intro p _; exact ⟨0, rfl, by simp⟩
      | cons x l ih =>
        intro p hp
        have hpl : p.length ≤ t.length := by rw [hp]; simp
        obtain ⟨c, hc⟩ := ruleCheck_some x
        rw [goI, hc, Option.bind_some]
        by_cases h2 : c = 0
        · subst h2
          have hs : slc_hi t (p.length : Int) = some p := by
            unfold slc_hi
            rw [if_pos ⟨by omega, by omega⟩, Int.toNat_natCast, hp]; simp
          rw [if_neg (by simp), hs, Option.bind_some, s_cfK x p (by omega), Option.bind_some]
          cases ha : p.any fun y => K y x with
          | true =>
            obtain ⟨y, hy, hk⟩ := List.any_eq_true.1 ha
            refine ⟨7, if_pos rfl, by simp, fun h => ?_⟩
            rw [h.2.2 y hy x (by simp)] at hk; cases hk
          | false =>
            obtain ⟨e, he, hiff⟩ := ih (p ++ [x]) (by rw [hp]; simp)
            have el : (p.length : Int) + 1 = (((p ++ [x]).length : Nat) : Int) := by simp
            refine ⟨e, by rw [if_neg (by simp), el]; exact he, hiff.trans ?_⟩
            have hno : ∀ y ∈ p, K y x = false := fun y hy => by
              have := List.any_eq_false.1 ha y hy
              simpa using this
            constructor
            · rintro ⟨q1, q2, q3⟩
              refine ⟨fun y hy => ?_, List.pairwise_cons.2 ⟨fun y hy => q3 x (by simp) y hy, q2⟩, fun a hap y hy => ?_⟩
              · rcases List.mem_cons.1 hy with rfl | hy
                · exact hc
                · exact q1 y hy
              · rcases List.mem_cons.1 hy with rfl | hy
                · exact hno a hap
                · exact q3 a (by simp [hap]) y hy
            · rintro ⟨q1, q2, q3⟩
              rw [List.pairwise_cons] at q2
              refine ⟨fun y hy => q1 y (by simp [hy]), q2.2, fun a hap y hy => ?_⟩
              rcases List.mem_append.1 hap with hap | hap
              · exact q3 a hap y (by simp [hy])
              · rw [List.mem_singleton.1 hap]; exact q2.1 y hy
        · rw [if_pos (by simpa using h2)]
          refine ⟨c, rfl, fun h => absurd h h2, fun h => ?_⟩
          have := h.1 x (by simp)
          rw [hc] at this
          exact Option.some.inj this
    obtain ⟨e, he, hiff⟩ := this t [] rfl
    refine ⟨e, he, hiff.trans ⟨fun h => ⟨by omega, h.1, h.2.1⟩, fun h => ⟨h.chk, h.keys, by simp⟩⟩⟩
/-- what a lookup comes to -/
theorem s_Lookup (t : List T_Rule) (h : Int) : ∃ i e, t_rule_Lookup t h = some (i, e) ∧ (e = 0 ↔ tGood t ∧ (0 ≤ h ∧ h < 16) ∧ best h t ≠ none) ∧ (e = 0 → ∃ (j : Nat) (r : T_Rule), i = j ∧ t[j]? = some r ∧ best h t = some r) := by
  obtain ⟨e, he, hiff⟩ := s_tableG t
  unfold t_rule_Lookup
  rw [he, Option.bind_some]
  by_cases h0 : e = 0
  · subst h0
    have hg := hiff.1 rfl
    rw [if_neg (by simp)]
    have hh : t_cube_Header h = some (decide (0 ≤ h) && decide (h < 16)) := rfl
    rw [hh, Option.bind_some]
    cases hb : decide (0 ≤ h) && decide (h < 16) with
    | false =>
      refine ⟨0, 1, by simp, ⟨fun h9 => by simp at h9, fun h9 => ?_⟩, fun h9 => by simp at h9⟩
      rw [decide_eq_true h9.2.1.1, decide_eq_true h9.2.1.2] at hb
      cases hb
    | true =>
      have hr : 0 ≤ h ∧ h < 16 := by simpa using hb
      rw [if_neg (by simp)]
      obtain ⟨i, hi, hc⟩ := s_FindB t h (by have := hg.len; omega)
      rw [hi, Option.bind_some]
      rcases hc with ⟨h1, h2⟩ | ⟨j, r, h1, h2, h3⟩
      · rw [if_pos (by simpa using h1)]
        exact ⟨0, 5, rfl, by simp [h2], by simp⟩
      · rw [if_neg (by simp; omega)]
        exact ⟨i, 0, rfl, by simp [hg, hr, h3], fun _ => ⟨j, r, h1, h2, h3⟩⟩
  · rw [if_pos (by simpa using h0)]
    exact ⟨0, e, rfl, ⟨fun h1 => absurd h1 h0, fun h1 => absurd (hiff.2 h1.1) h0⟩, fun h1 => absurd h1 h0⟩
theorem best_rev {t : List T_Rule} (ht : tGood t) (h : Int) : best h t.reverse = best h t := by
  cases hb : best h t with
  | none =>
    cases hc : best h t.reverse with
    | none => rfl
    | some r =>
      obtain ⟨h1, h2, _⟩ := best_some hc
      rw [best_none hb r (List.mem_reverse.1 h1)] at h2
      cases h2
  | some q =>
    obtain ⟨h1, h2, h3⟩ := best_some hb
    cases hc : best h t.reverse with
    | none => rw [best_none hc q (List.mem_reverse.2 h1)] at h2; cases h2
    | some r =>
      obtain ⟨k1, k2, k3⟩ := best_some hc
      have k1 := List.mem_reverse.1 k1
      have a1 := h3 r k1 k2
      have a2 := k3 q (List.mem_reverse.2 h1) h2
      have hk : K q r = true := by
        unfold abv at a1 a2
        unfold K
        simp only [Bool.and_eq_true, decide_eq_true_eq, T_Cube.ext_iff2]
        omega
      rw [ht.eq h1 k1 hk]
end Go.Proofs.YtpbfogklmhgfoaaDoor.Ty
