/- A round's ops are done once, at once. -/
import Derived.Test.YtgfleiknigjnbaaDoorTyA
import Derived.Test.YtgfleiknigjnbaaDoorSBase
import Derived.Test.YtgfleiknigjnbaaDoorPlain
import Derived.Test.YtgfleiknigjnbaaDoorDoTy
import Derived.Test.YtgfleiknigjnbaaDoorTabM
import Derived.Test.YtgfleiknigjnbaaDoorTyD
namespace Go.Proofs.YtgfleiknigjnbaaDoor.Ty
open Go Go.RowKit Go.Proofs.YtgfleiknigjnbaaDoor.Den
set_option linter.unusedSimpArgs false
set_option linter.unusedVariables false
set_option maxRecDepth 100000

abbrev cf (c : T_Cube) : Int := cchk c.Mask c.Bits
abbrev hs (c : T_Cube) (h : Int) : Bool := chas c.Mask c.Bits h
theorem hdr_eq (k : Int) : (decide (0 ≤ k) && decide (k < 16)) = hdr k := by unfold hdr; rw [Bool.eq_iff_iff]; simp
theorem s_cube_Header (k : Int) : t_cube_Header k = some (hdr k) := by rw [t_cube_Header, hdr_eq]
theorem s_cube_Check (c : T_Cube) : t_cube_Check c = some (cf c) := by
  unfold t_cube_Check cf cchk
  simp only [s_cube_Header, Option.bind_some]
  cases h1 : hdr c.Mask
  · rw [hdr_not] at h1
    simp [gd_false]
    try omega
  · cases h2 : hdr c.Bits
    · rw [hdr_not] at h2
      simp [gd_true, h2]
      try omega
    · rw [hdr_iff] at h1 h2
      rw [if_pos (show 0 ≤ c.Mask ∧ c.Mask < 16 ∧ 0 ≤ c.Bits ∧ c.Bits < 16 by omega)]
      by_cases h3 : bits .andNot .i64 c.Bits c.Mask = 0 <;> simp [gd_true, h3]
def rchk (p m b o s v : Int) : Int :=
  if 0 ≤ p ∧ p ≤ 99 ∧ 0 ≤ o ∧ o ≤ 4 ∧ (0 ≤ s ∧ s < 16) ∧ (0 ≤ v ∧ v < 16) then
    (if cchk m b = 0 then (if bits .andNot .i64 v s = 0 ∧ ¬ (o = 0 ∧ s ≠ 0) then 0 else 3) else cchk m b)
  else 1
theorem rchk_0 {p m b o s v : Int} : rchk p m b o s v = 0 ↔ (0 ≤ p ∧ p ≤ 99 ∧ 0 ≤ o ∧ o ≤ 4 ∧ (0 ≤ s ∧ s < 16) ∧ (0 ≤ v ∧ v < 16)) ∧ cchk m b = 0 ∧ bits .andNot .i64 v s = 0 ∧ ¬ (o = 0 ∧ s ≠ 0) := by
  unfold rchk
  split
  · rename_i h
    split
    · rename_i h2
      split
      · rename_i h3; exact ⟨fun _ => ⟨h, h2, h3.1, h3.2⟩, fun _ => rfl⟩
      · rename_i h3; exact ⟨fun h => absurd h (by decide), fun h => absurd ⟨h.2.2.1, h.2.2.2⟩ h3⟩
    · rename_i h2; exact ⟨fun h => absurd h h2, fun h => absurd h.2.1 h2⟩
  · rename_i h; exact ⟨fun h => absurd h (by decide), fun h2 => absurd h2.1 h⟩

set_option maxHeartbeats 800000 in
def T_Rule.chk (x : T_Rule) : Int := rchk x.Prio x.Cube.Mask x.Cube.Bits x.Out x.Set x.Value
def op0 : T_Op := ⟨0, false, ⟨0, ⟨0, 0⟩, 0, 0, 0⟩⟩
def mg0 : T_Msg := ⟨0, 0, 0, 0, op0⟩
/-- the fault of a message -/
def T_Msg.chk (x : T_Msg) : Int :=
  if x.Kind < 1 ∨ 3 < x.Kind ∨ x.Switch < 1 ∨ 6 < x.Switch ∨ x.Round < 0 ∨ 20 ≤ x.Round ∨ x.Index < 0 ∨ 200 < x.Index then 1
  else if x.Kind ≠ 1 then (if x.Op ≠ op0 ∨ (x.Kind = 3 ∧ x.Index ≠ 0) then 3 else 0)
  else if x.Op.Rule.chk ≠ 0 then x.Op.Rule.chk
  else if x.Op.Switch ≠ x.Switch then 3 else 0
theorem rchk_ite (p m b o s v : Int) (hs hv : Bool) (h1 : hs = true ↔ 0 ≤ s ∧ s < 16) (h2 : hv = true ↔ 0 ≤ v ∧ v < 16) (e : Int) (he : e = cchk m b) :
    (if (((((decide (p < 0) || decide (99 < p)) || decide (o < 0)) || decide (4 < o)) || !hs) || !hv) = true then some (1 : Int) else
      if (!decide (e = 0)) = true then some e else if (decide (bits .andNot .i64 v s ≠ 0) || (decide (o = 0) && decide (s ≠ 0))) = true then some 3 else some 0) = some (rchk p m b o s v) := by
  subst he
  unfold rchk
  by_cases h : 0 ≤ p ∧ p ≤ 99 ∧ 0 ≤ o ∧ o ≤ 4 ∧ (0 ≤ s ∧ s < 16) ∧ (0 ≤ v ∧ v < 16)
  · rw [if_neg (by rw [h1.2 h.2.2.2.2.1, h2.2 h.2.2.2.2.2]; simp; omega), if_pos h]
    by_cases hk : cchk m b = 0
    · rw [if_neg (by simp [hk]), if_pos hk]
      generalize bits .andNot .i64 v s = B
      by_cases h3 : B = 0 <;> by_cases h4 : o = 0 <;> by_cases h5 : s = 0 <;> simp [h3, h4, h5]
    · rw [if_pos (by simp [hk]), if_neg hk]
  · rw [if_neg h, if_pos]
    cases hs <;> cases hv <;> simp at h1 h2 ⊢
    omega
theorem s_rule_Check (r : T_Rule) : t_rule_Check r = some r.chk := by
  have key := rchk_ite r.Prio r.Cube.Mask r.Cube.Bits r.Out r.Set r.Value (hdr r.Set) (hdr r.Value) hdr_iff hdr_iff (cf r.Cube) rfl
  unfold t_rule_Check T_Rule.chk
  simp only [s_cube_Header, s_cube_Check, Option.bind_some]
  rw [← key]
  cases hA : (((decide (r.Prio < 0) || decide (99 < r.Prio)) || decide (r.Out < 0)) || decide (4 < r.Out))
  · cases hB : hdr r.Set
    · simp [gd_true, gd_false]
    · simp only [Bool.false_or, Bool.not_false, Bool.not_true, gd_true, Option.bind_some]
  · simp [gd_false]
theorem s_wire_Check (m : T_Msg) : t_wire_Check m = some m.chk := by
  unfold t_wire_Check T_Msg.chk
  simp only [s_rule_Check, Option.bind_some]
  by_cases h1 : m.Kind < 1 ∨ 3 < m.Kind ∨ m.Switch < 1 ∨ 6 < m.Switch ∨ m.Round < 0 ∨ 20 ≤ m.Round ∨ m.Index < 0 ∨ 200 < m.Index
  · rw [if_pos h1, if_pos (by simp; omega)]
  · rw [if_neg h1, if_neg (by simp; omega)]
    by_cases h2 : m.Kind = 1
    · by_cases h3 : m.Op.Rule.chk = 0 <;> by_cases h4 : m.Op.Switch = m.Switch <;> simp [h2, h3, h4]
    · rw [if_pos (decide_eq_true h2), if_pos h2]
      have e : (⟨0, false, ⟨0, ⟨0, 0⟩, 0, 0, 0⟩⟩ : T_Op) = op0 := rfl
      rw [e]
      by_cases h3 : m.Op = op0 <;> by_cases h4 : m.Kind = 3 <;> by_cases h5 : m.Index = 0 <;> simp [h3, h4, h5]
section
variable {α β σ : Type}
end
section
variable {α β σ τ : Type}
end
section
variable {K α : Type} [DecidableEq K]
theorem mfind_off : ∀ (l : List (K × α)) (a : K) (i : Nat), mfind l a i = (mfind l a 0).map fun p => (p.1 + i, p.2)
  | [], _, _ => rfl
  | (b, u) :: r, a, i => by
    simp only [mfind]
    split
    · simp
    · rw [mfind_off r a (i + 1), mfind_off r a (0 + 1)]
      cases mfind r a 0 with
      | none => rfl
      | some p => simp; omega
theorem mget_cons (b : K) (u : α) (r : List (K × α)) (a : K) (d : α) : mget ((b, u) :: r) a d = if a = b then u else mget r a d := by
  unfold mget
  simp only [mfind]
  by_cases h : a = b
  · simp [h]
  · rw [if_neg h, if_neg h, mfind_off r a (0 + 1)]
    cases mfind r a 0 <;> rfl
end


section
variable {α β σ : Type}
theorem goI_ex {step : Int → α → σ → (σ → Option β) → Option β} {fin : σ → Option β} {I : Int → List α → σ → Prop} {Q : β → Prop} (hfin : ∀ i s, I i [] s → ∃ v, fin s = some v ∧ Q v)
    (hstep : ∀ i x l s k, I i (x :: l) s → (∀ s', I (i + 1) l s' → ∃ v, k s' = some v ∧ Q v) → ∃ v, step i x s k = some v ∧ Q v) : ∀ (l : List α) (i : Int) (s : σ), I i l s → ∃ v, goI step fin i l s = some v ∧ Q v
  | [], i, s, h => hfin i s h
  | x :: l, i, s, h => hstep i x l s _ h fun s' h' => goI_ex hfin hstep l (i + 1) s' h'
theorem loopI_ex {step : Int → α → σ → (σ → Option β) → Option β} {fin : σ → Option β} (I : Int → List α → σ → Prop) {Q : β → Prop} {l : List α} {s : σ} (hl : (l.length : Int) ≤ 9223372036854775807) (h0 : I 0 l s) (hfin : ∀ i s, I i [] s → ∃ v, fin s = some v ∧ Q v)
    (hstep : ∀ i x l s k, I i (x :: l) s → (∀ s', I (i + 1) l s' → ∃ v, k s' = some v ∧ Q v) → ∃ v, step i x s k = some v ∧ Q v) : ∃ v, loopI l step fin s = some v ∧ Q v := by
  rw [loopI_eq hl]; exact goI_ex hfin hstep l 0 s h0
end
/-- what is wrong with a table: of those behind some -/
def tabG : List T_Rule → List T_Rule → Int
  | _, [] => 0
  | p, x :: l => if x.chk ≠ 0 then x.chk else if (p.any fun y => decide (y.Prio = x.Prio) && decide (y.Cube = x.Cube)) = true then 7 else tabG (p ++ [x]) l
def tabF (t : List T_Rule) : Int := if 12 < (t.length : Int) then 4 else tabG [] t
theorem goI_tab {t : List T_Rule} {step : Int → T_Rule → Unit → (Unit → Option Int) → Option Int} {fin : Unit → Option Int} (hf : fin () = some 0) (ht : ¬ 12 < (t.length : Int))
    (h : ∀ (p l : List T_Rule) x k, t = p ++ x :: l → step (p.length : Int) x () k = if x.chk ≠ 0 then some x.chk else if (p.any fun y => decide (y.Prio = x.Prio) && decide (y.Cube = x.Cube)) = true then some 7 else k ()) :
    ∀ (l p : List T_Rule), t = p ++ l → goI step fin (p.length : Int) l () = some (tabG p l)
  | [], p, _ => hf
  | x :: l, p, e => by
    rw [goI, h p l x _ e, tabG]
    have e2 := goI_tab hf ht h l (p ++ [x]) (by rw [e]; simp)
    have e3 : (((p ++ [x]).length : Nat) : Int) = (p.length : Int) + 1 := by simp
    rw [e3] at e2
    rw [e2]
    split
    · rfl
    · split <;> rfl
theorem take_pre {p l : List T_Rule} : (p ++ l).take p.length = p := by simp
theorem s_rule_Table (t : List T_Rule) : t_rule_Table t = some (tabF t) := by
  have hM : maxI = 9223372036854775807 := rfl
  unfold t_rule_Table tabF
  by_cases h : 12 < (t.length : Int)
  · rw [if_pos (decide_eq_true h), if_pos h]
  rw [if_neg (by simpa using h), if_neg h]
  simp only [join_eq]
  rw [loopI_eq (by omega)]
  refine goI_tab (t := t) rfl h (fun p l x k e => ?_) t [] rfl
  rw [s_rule_Check, Option.bind_some]
  have hp : p.length ≤ t.length := by rw [e]; simp
  have hs : slc_hi t (p.length : Int) = some p := by
    unfold slc_hi
    rw [if_pos ⟨by omega, by omega⟩]
    have : ((p.length : Int)).toNat = p.length := rfl
    rw [this, e, take_pre]
  rw [hs, Option.bind_some]
  have hc : t_slices_ContainsFunc_api_Table_api_Rule p (fun a33 => t_rule_Table_1 a33 x) = some (p.any fun y => decide (y.Prio = x.Prio) && decide (y.Cube = x.Cube)) := by
    unfold t_slices_ContainsFunc_api_Table_api_Rule
    have : ∃ j, t_slices_IndexFunc_api_Table_api_Rule p (fun a33 => t_rule_Table_1 a33 x) = some j ∧ decide (0 ≤ j) = p.any fun y => decide (y.Prio = x.Prio) && decide (y.Cube = x.Cube) := by
      unfold t_slices_IndexFunc_api_Table_api_Rule
      simp only [join_eq]
      refine loopI_ex (fun i l _ => 0 ≤ i ∧ (p.any fun y => decide (y.Prio = x.Prio) && decide (y.Cube = x.Cube)) = l.any fun y => decide (y.Prio = x.Prio) && decide (y.Cube = x.Cube)) (by omega) ⟨Int.le_refl _, rfl⟩ (fun i s hI => ⟨-1, rfl, by rw [hI.2]; rfl⟩) (fun i y l s k hI hk => ?_)
      simp only [t_rule_Table_1, t_rule_Key, Option.bind_some]
      obtain ⟨i0, i1⟩ := hI
      rw [List.any_cons] at i1
      cases hb : (decide (y.Prio = x.Prio) && decide (y.Cube = x.Cube)) with
      | true => exact ⟨i, rfl, by rw [i1, hb]; simpa using i0⟩
      | false =>
        rw [if_neg (by decide)]
        exact hk () ⟨by omega, by rw [i1, hb]; rfl⟩
    obtain ⟨j, e1, e2⟩ := this
    rw [e1, Option.bind_some, e2]
  rw [hc, Option.bind_some]
  by_cases hx : x.chk = 0 <;> simp [hx]

theorem s_cubeCheckV (c : T_Cube) : t_cube_Check c = some (Go.Proofs.YtgfleiknigjnbaaDoor.cchk c.Mask c.Bits) := by
  unfold t_cube_Check Go.Proofs.YtgfleiknigjnbaaDoor.cchk t_cube_Header
  by_cases h1 : 0 ≤ c.Mask ∧ c.Mask < 16
  · by_cases h2 : 0 ≤ c.Bits ∧ c.Bits < 16
    · by_cases h3 : bits .andNot .i64 c.Bits c.Mask = 0 <;> simp [h1, h2, h3, gd_true]
    · have : ¬ (0 ≤ c.Bits) ∨ ¬ (c.Bits < 16) := by omega
      rcases this with h | h <;> simp [h1, h2, h, gd_true]
  · have : ¬ (0 ≤ c.Mask) ∨ ¬ (c.Mask < 16) := by omega
    rcases this with h | h <;> simp [h1, h, gd_false]
theorem s_ruleCheckV (r : T_Rule) : t_rule_Check r = some (rlOf r).chk := by
  unfold t_rule_Check Rl.chk Go.Proofs.YtgfleiknigjnbaaDoor.rchk t_cube_Header
  rw [s_cubeCheckV]
  show _ = some (if 0 ≤ r.Prio ∧ r.Prio ≤ 99 ∧ 0 ≤ r.Out ∧ r.Out ≤ 4 ∧ (0 ≤ r.Set ∧ r.Set < 16) ∧ (0 ≤ r.Value ∧ r.Value < 16) then (if Go.Proofs.YtgfleiknigjnbaaDoor.cchk r.Cube.Mask r.Cube.Bits = 0 then (if bits .andNot .i64 r.Value r.Set = 0 ∧ ¬ (r.Out = 0 ∧ r.Set ≠ 0) then 0 else 3) else Go.Proofs.YtgfleiknigjnbaaDoor.cchk r.Cube.Mask r.Cube.Bits) else 1)
  have hR1 : (0 ≤ r.Prio ∧ r.Prio ≤ 99 ∧ 0 ≤ r.Out ∧ r.Out ≤ 4 ∧ (0 ≤ r.Set ∧ r.Set < 16) ∧ (0 ≤ r.Value ∧ r.Value < 16)) → (if 0 ≤ r.Prio ∧ r.Prio ≤ 99 ∧ 0 ≤ r.Out ∧ r.Out ≤ 4 ∧ (0 ≤ r.Set ∧ r.Set < 16) ∧ (0 ≤ r.Value ∧ r.Value < 16) then (if Go.Proofs.YtgfleiknigjnbaaDoor.cchk r.Cube.Mask r.Cube.Bits = 0 then (if bits .andNot .i64 r.Value r.Set = 0 ∧ ¬ (r.Out = 0 ∧ r.Set ≠ 0) then 0 else 3) else Go.Proofs.YtgfleiknigjnbaaDoor.cchk r.Cube.Mask r.Cube.Bits) else 1) = (if Go.Proofs.YtgfleiknigjnbaaDoor.cchk r.Cube.Mask r.Cube.Bits = 0 then (if bits .andNot .i64 r.Value r.Set = 0 ∧ ¬ (r.Out = 0 ∧ r.Set ≠ 0) then 0 else 3) else Go.Proofs.YtgfleiknigjnbaaDoor.cchk r.Cube.Mask r.Cube.Bits) := fun h => if_pos h
  have hR0 : ¬ (0 ≤ r.Prio ∧ r.Prio ≤ 99 ∧ 0 ≤ r.Out ∧ r.Out ≤ 4 ∧ (0 ≤ r.Set ∧ r.Set < 16) ∧ (0 ≤ r.Value ∧ r.Value < 16)) → (if 0 ≤ r.Prio ∧ r.Prio ≤ 99 ∧ 0 ≤ r.Out ∧ r.Out ≤ 4 ∧ (0 ≤ r.Set ∧ r.Set < 16) ∧ (0 ≤ r.Value ∧ r.Value < 16) then (if Go.Proofs.YtgfleiknigjnbaaDoor.cchk r.Cube.Mask r.Cube.Bits = 0 then (if bits .andNot .i64 r.Value r.Set = 0 ∧ ¬ (r.Out = 0 ∧ r.Set ≠ 0) then 0 else 3) else Go.Proofs.YtgfleiknigjnbaaDoor.cchk r.Cube.Mask r.Cube.Bits) else 1) = 1 := fun h => if_neg h
  generalize (if 0 ≤ r.Prio ∧ r.Prio ≤ 99 ∧ 0 ≤ r.Out ∧ r.Out ≤ 4 ∧ (0 ≤ r.Set ∧ r.Set < 16) ∧ (0 ≤ r.Value ∧ r.Value < 16) then (if Go.Proofs.YtgfleiknigjnbaaDoor.cchk r.Cube.Mask r.Cube.Bits = 0 then (if bits .andNot .i64 r.Value r.Set = 0 ∧ ¬ (r.Out = 0 ∧ r.Set ≠ 0) then 0 else 3) else Go.Proofs.YtgfleiknigjnbaaDoor.cchk r.Cube.Mask r.Cube.Bits) else 1) = R at hR1 hR0
  cases hA : (((decide (r.Prio < 0) || decide (99 < r.Prio)) || decide (r.Out < 0)) || decide (4 < r.Out)) with
  | true =>
    rw [hR0 (by simp only [Bool.or_eq_true, decide_eq_true_eq] at hA; omega)]
    simp [gd]
  | false =>
    simp only [Bool.or_eq_false_iff, decide_eq_false_iff_not, Int.not_lt] at hA
    by_cases h1 : 0 ≤ r.Set ∧ r.Set < 16
    · by_cases h2 : 0 ≤ r.Value ∧ r.Value < 16
      · rw [hR1 ⟨hA.1.1.1, hA.1.1.2, hA.1.2, hA.2, h1, h2⟩]
        have e1 : (decide (0 ≤ r.Set) && decide (r.Set < 16)) = true := by simp [h1]
        have e2 : (decide (0 ≤ r.Value) && decide (r.Value < 16)) = true := by simp [h2]
        simp only [Bool.not_false, gd_true, e1, e2, Option.bind_some, Bool.not_true, Bool.or_self, Bool.false_eq_true, if_false]
        by_cases h3 : Go.Proofs.YtgfleiknigjnbaaDoor.cchk r.Cube.Mask r.Cube.Bits = 0
        · rw [if_neg (by simpa using h3), if_pos h3]
          generalize bits .andNot .i64 r.Value r.Set = B
          by_cases h4 : B = 0 <;> by_cases h5 : r.Out = 0 <;> by_cases h6 : r.Set = 0 <;> simp [h4, h5, h6]
        · rw [if_pos (by simpa using h3), if_neg h3]
      · rw [hR0 (by omega)]
        have e1 : (decide (0 ≤ r.Set) && decide (r.Set < 16)) = true := by simp [h1]
        have e2 : (decide (0 ≤ r.Value) && decide (r.Value < 16)) = false := by simp; omega
        simp only [Bool.not_false, gd_true, e1, e2, Option.bind_some, Bool.not_true, Bool.or_self, Bool.false_eq_true, if_false, Bool.or_true, if_true]
    · rw [hR0 (by omega)]
      have e1 : (decide (0 ≤ r.Set) && decide (r.Set < 16)) = false := by simp; omega
      simp [gd, e1]
theorem s_cfV (x : T_Rule) (l : List T_Rule) (hl : (l.length : Int) ≤ maxI) : t_slices_ContainsFunc_api_Table_api_Rule l (fun a33 => t_rule_Table_1 a33 x) = some (l.any fun y => (rlOf y).key (rlOf x)) := by
  unfold t_slices_ContainsFunc_api_Table_api_Rule t_slices_IndexFunc_api_Table_api_Rule
  rw [join_eq, loopI_eq hl]
  have hk : ∀ y : T_Rule, t_rule_Table_1 y x = some ((rlOf y).key (rlOf x)) := fun y => by
    unfold t_rule_Table_1 t_rule_Key
    simp only [Option.bind_some, Option.some.injEq]
    show (decide (y.Prio = x.Prio) && decide (y.Cube = x.Cube)) = decide (y.Prio = x.Prio ∧ y.Cube.Mask = x.Cube.Mask ∧ y.Cube.Bits = x.Cube.Bits)
    rw [Bool.eq_iff_iff]
    simp [T_Cube.ext_iff2]
  have : ∀ (l : List T_Rule) (i : Int), 0 ≤ i → ∃ j, goI (fun (i13 : Int) x14 (s9 : Unit) k10 => (t_rule_Table_1 x14 x).bind fun r22 => if r22 = true then (some i13) else (k10 ())) (fun _ => some (-1 : Int)) i l () = some j ∧ (decide (0 ≤ j)) = l.any fun y => (rlOf y).key (rlOf x) := by
    intro l
    induction l with
    | nil => intro i _; exact ⟨-1, rfl, rfl⟩
    | cons y l ih =>
      intro i hi
      rw [goI, hk, Option.bind_some]
      cases h : (rlOf y).key (rlOf x) with
      | true => exact ⟨i, if_pos rfl, by simp [h, hi]⟩
      | false =>
        obtain ⟨j, h1, h2⟩ := ih (i + 1) (by omega)
        refine ⟨j, ?_, by rw [h2]; simp [h]⟩
        rw [if_neg (by simp)]; exact h1
  obtain ⟨j, h1, h2⟩ := this l 0 (Int.le_refl _)
  rw [h1, Option.bind_some, h2]
theorem s_rTableV (t : List T_Rule) : t_rule_Table t = some (tchk (t.map rlOf)) := by
  have hM : maxI = 9223372036854775807 := rfl
  unfold t_rule_Table tchk
  rw [List.length_map]
  by_cases h1 : t.length > 12
  · rw [if_pos (by simp; omega), if_pos h1]
  · rw [if_neg (by simp; omega), if_neg h1, join_eq, loopI_eq (by omega)]
    have : ∀ (l p : List T_Rule), t = p ++ l → goI (fun (i17 : Int) x18 (s13 : Unit) k14 =>
        (t_rule_Check x18).bind fun r28 =>
        if (!decide (r28 = 0)) = true then (some r28) else (
        (slc_hi t i17).bind fun r32 =>
        (t_slices_ContainsFunc_api_Table_api_Rule r32 (fun (a33 : T_Rule) => t_rule_Table_1 a33 x18)).bind fun r35 =>
        if r35 = true then (some 7) else (k14 ()))) (fun (s13 : Unit) => some 0) (p.length : Int) l () = some (tfaultFrom (p.map rlOf) (l.map rlOf)) := by
      intro l
      induction l with
      | nil => intro p _; rfl
      | cons x l ih =>
        intro p hp
        have hpl : p.length ≤ t.length := by rw [hp]; simp
        rw [goI, s_ruleCheckV, Option.bind_some, List.map_cons, tfaultFrom]
        by_cases h2 : (rlOf x).chk = 0
        · have hs : slc_hi t (p.length : Int) = some p := by
            unfold slc_hi
            rw [if_pos ⟨by omega, by omega⟩, Int.toNat_natCast, hp]; simp
          rw [if_neg (by simpa using h2), if_neg (by simpa using h2), hs, Option.bind_some, s_cfV x p (by omega), Option.bind_some]
          have ha : (p.any fun y => (rlOf y).key (rlOf x)) = ((p.map rlOf).any fun y => y.key (rlOf x)) := by rw [List.any_map]; rfl
          rw [ha]
          cases hk : (p.map rlOf).any fun y => y.key (rlOf x) with
          | true => rfl
          | false =>
            rw [if_neg (by simp), if_neg (by simp)]
            have := ih (p ++ [x]) (by rw [hp]; simp)
            simp only [List.length_append, List.length_singleton, List.map_append, List.map_cons, List.map_nil] at this
            have e : (p.length : Int) + 1 = ((p.length + 1 : Nat) : Int) := by omega
            rw [e]; exact this
        · rw [if_pos (by simpa using h2), if_pos h2]
    exact this t [] rfl
/-- a change that is right makes a table that is right -/
theorem do_tok {t : List T_Rule} {add : Bool} {r : T_Rule} (h : doF t add r = 0) : Tok (t.map rlOf) ∧ Tok ((doV t add r).map rlOf) := by
  have h' : tdoF (t.map rlOf) add (rlOf r) = 0 := h
  have ht : Tok (t.map rlOf) := by
    refine tchk_iff.1 ?_
    by_cases h0 : tchk (t.map rlOf) = 0
    · exact h0
    · unfold tdoF at h'
      rw [if_pos h0] at h'
      exact h'
  have hv : (doV t add r).map rlOf = tdoR (t.map rlOf) add (rlOf r) := by
    unfold doV
    rw [tdoV_ok h', List.map_map]; exact List.map_id _
  refine ⟨ht, ?_⟩
  rw [hv]
  cases add with
  | true =>
    have := tdo_add_tok h'
    unfold tdoR
    rw [if_pos rfl]; exact this
  | false =>
    unfold tdoR
    rw [if_neg (by simp)]
    exact ht.sub (List.eraseIdx_sublist _ _)
theorem chk_eq (r : T_Rule) : T_Rule.chk r = (rlOf r).chk := by
  have h := s_rule_Check r
  rw [s_ruleCheckV] at h
  exact (Option.some.inj h).symm
section
variable {α β σ K : Type}
theorem loopI_at {l : List α} {step : Int → α → σ → (σ → Option β) → Option β} {fin : σ → Option β} {s : σ} (S : Nat → σ) (h0 : s = S 0) (hl : (l.length : Int) ≤ maxI) (h : ∀ (p : Nat) x k, l[p]? = some x → step (p : Int) x (S p) k = k (S (p + 1))) : loopI l step fin s = fin (S l.length) := by
  rw [loopI_eq hl]
  have : ∀ (m : List α) (p : Nat), l.drop p = m → p ≤ l.length → goI step fin (p : Int) m (S p) = fin (S l.length) := by
    intro m
    induction m with
    | nil =>
      intro p hp hpl
      have : p = l.length := by have := List.drop_eq_nil_iff.1 hp; omega
      rw [goI, this]
    | cons x m ih =>
      intro p hp hpl
      have hx : l[p]? = some x := by rw [← List.head?_drop, hp]; rfl
      have hlt := (List.getElem?_eq_some_iff.1 hx).1
      rw [goI, h p x _ hx]
      have e : (p : Int) + 1 = ((p + 1 : Nat) : Int) := by omega
      rw [e]
      exact ih (p + 1) (by rw [← List.tail_drop, hp]; rfl) (by omega)
  rw [h0]
  exact this l 0 rfl (Nat.zero_le _)
theorem goU_at {step : Int → σ → (σ → Option β) → Option β} {fin : Int → σ → Option β} (S : Nat → σ) {hi : Nat} (h : ∀ (p : Nat) k, p < hi → step (p : Int) (S p) k = k (S (p + 1))) : ∀ (c p : Nat), p + c = hi → goU step fin c (p : Int) (S p) = fin (hi : Int) (S hi)
  | 0, p, e => by obtain rfl : p = hi := (by omega); rfl
  | c + 1, p, e => by
    rw [goU, h p _ (by omega)]
    have e2 : (p : Int) + 1 = ((p + 1 : Nat) : Int) := by omega
    rw [e2]
    exact goU_at S h c (p + 1) (by omega)
theorem loopU_at {hi : Nat} {step : Int → σ → (σ → Option β) → Option β} {fin : Int → σ → Option β} {s : σ} (S : Nat → σ) (h0 : s = S 0) (hl : (hi : Int) ≤ maxI) (h : ∀ (p : Nat) k, p < hi → step (p : Int) (S p) k = k (S (p + 1))) : loopU 0 (hi : Int) step fin s = fin (hi : Int) (S hi) := by
  rw [loopU_eq (Int.le_refl 0) hl, h0, Int.sub_zero, Int.toNat_natCast]
  exact goU_at S h hi 0 (by omega)
theorem tfix_inv {F : (σ → Option β) → σ → Option β} {R : Option β} (I : Nat → σ → Prop) (h : ∀ c s k, I (c + 1) s → (∀ s', I c s' → k s' = R) → F k s = R) (h0 : ∀ s k, I 0 s → F k s = R) : ∀ (c N : Nat) (s : σ), I c s → c < N → tfix F N s = R
  | c, 0, _, _, hN => by omega
  | 0, N + 1, s, hI, _ => h0 s _ hI
  | c + 1, N + 1, s, hI, hN => h c s _ hI fun s' hs' => tfix_inv I h h0 c N s' hs' (by omega)
variable [DecidableEq K]
theorem mhas_cons (b : K) (u : α) (r : List (K × α)) (a : K) : mhas ((b, u) :: r) a = (decide (a = b) || mhas r a) := by
  unfold mhas
  simp only [mfind]
  by_cases h : a = b
  · simp [h]
  · rw [if_neg h, mfind_off r a (0 + 1)]
    cases mfind r a 0 <;> simp [h]
theorem mput_new {l : List (K × α)} {a : K} (v : α) (h : mhas l a = false) : mput l a v = l ++ [(a, v)] := by
  unfold mhas at h
  unfold mput
  cases hm : mfind l a 0 with
  | none => rfl
  | some p => rw [hm] at h; cases h
end

/-! what the document's agent keeps, as the program's -/
section
variable {α K : Type} [DecidableEq K]
theorem mhas_snoc (a : K) (v : α) (k : K) : ∀ l : List (K × α), mhas (l ++ [(a, v)]) k = (mhas l k || decide (k = a))
  | [] => by rw [List.nil_append, mhas_cons, Bool.or_comm]
  | (b, u) :: l => by rw [List.cons_append, mhas_cons, mhas_cons, mhas_snoc a v k l, Bool.or_assoc]
theorem mget_snoc (a : K) (v : α) (k : K) (d : α) : ∀ l : List (K × α), mget (l ++ [(a, v)]) k d = if mhas l k = true then mget l k d else if k = a then v else d
  | [] => by
    rw [List.nil_append, mget_cons]
    rfl
  | (b, u) :: l => by
    rw [List.cons_append, mget_cons, mget_cons, mhas_cons, mget_snoc a v k d l]
    by_cases h : k = b <;> simp [h]
end
/-- all changes of a round -/
def allV : List T_Rule → List T_Op → List T_Rule × Int
  | t, [] => (t, 0)
  | t, o :: l => if doF t o.Add o.Rule ≠ 0 then ([], doF t o.Add o.Rule) else allV (doV t o.Add o.Rule) l
theorem allV_tok : ∀ {l : List T_Op} {t : List T_Rule}, Tok (t.map rlOf) → (allV t l).2 = 0 → Tok ((allV t l).1.map rlOf)
  | [], t, ht, _ => ht
  | o :: l, t, ht, h => by
    unfold allV at h ⊢
    by_cases h1 : doF t o.Add o.Rule = 0
    · rw [if_neg (by simpa using h1)] at h ⊢
      exact allV_tok (do_tok h1).2 h
    · rw [if_pos h1] at h; exact absurd h h1
theorem all_go : ∀ (l : List T_Op) (i : Int) (t : List T_Rule), goI (fun (i19 : Int) (x20 : T_Op) (s15 : (List T_Rule)) k16 =>
     (t_table_Do s15 x20.Add x20.Rule).bind fun r31 =>
     if (!decide (r31.2 = 0)) = true then (
     some ([], r31.2)) else (
     k16 (r31.1))) (fun (s15 : (List T_Rule)) => some (s15, (0 : Int))) i l t = some (allV t l)
  | [], _, _ => rfl
  | o :: l, i, t => by
    rw [goI, t_table_Do, Option.bind_some, allV]
    by_cases h : doF t o.Add o.Rule = 0
    · rw [if_neg (by simpa using h), if_neg (by simpa using h)]
      exact all_go l (i + 1) _
    · rw [if_pos (by simpa using h), if_pos h]
theorem tab_of {t : List T_Rule} (ht : Tok (t.map rlOf)) : t_rule_Table t = some 0 := by rw [s_rTableV, tchk_iff.2 ht]
theorem tok_of {t : List T_Rule} (h : tabF t = 0) : Tok (t.map rlOf) := by
  have h1 := s_rTableV t
  rw [s_rule_Table, h] at h1
  exact tchk_iff.1 (Option.some.inj h1).symm
theorem s_All {t : List T_Rule} (ht : Tok (t.map rlOf)) (l : List T_Op) (hl : l.length ≤ 1000000) : t_table_All t l = some (allV t l) := by
  have h12 := ht.len
  rw [List.length_map] at h12
  unfold t_table_All
  rw [tab_of ht, Option.bind_some, if_neg (by simp), cln, if_pos (by omega), Option.bind_some, join_eq, loopI_eq (by unfold maxI; omega)]
  exact all_go l 0 t
theorem s_err (a b : Int) : t_railsame_Error a b = some (decide (a = b)) := rfl
theorem s_Tab (l : List T_Rule) (h : l.length ≤ 1000000) : t_railsame_Table l l = some true := by
  unfold t_railsame_Table
  rw [if_neg (by simp)]
  simp only [join_eq]
  rw [loopI_at (fun _ => ()) rfl (by unfold maxI; omega) (fun p x k hx => ?_)]
  rw [idx_nat, hx, Option.bind_some, if_neg (by simp)]
/-! what is planned -/
def setSw1 (o : T_Op) : T_Op := T_Op.mk 1 o.Add o.Rule
theorem take_go : ∀ (l : List T_Op) (p : Nat) (s : List T_Op), s.length = p → p ≤ 20 → goI (fun (i583 : Int) (x584 : T_Op) (s579 : (List T_Op)) k580 =>
     if (decide (i583 < 20)) = true then (
     (app s579 ([(T_Op.mk 1 x584.Add x584.Rule)] : (List T_Op))).bind fun r602 =>
     k580 (r602)) else (
     some (s579))) (fun (s579 : (List T_Op)) => some (s579)) (p : Int) l s = some (s ++ (l.take (20 - p)).map setSw1)
  | [], p, s, _, _ => by simp [goI]
  | x :: l, p, s, hs, hp => by
    rw [goI]
    by_cases h : p < 20
    · have e : (p : Int) + 1 = ((p + 1 : Nat) : Int) := by omega
      rw [if_pos (by simp; omega), app_eq (by simp; omega), Option.bind_some, e]
      simp only []
      rw [take_go l (p + 1) (s ++ [T_Op.mk 1 x.Add x.Rule]) (by simp [hs]) (by omega)]
      rw [show 20 - p = (20 - (p + 1)) + 1 by omega, List.take_succ_cons, List.map_cons]
      simp only [setSw1, List.append_assoc, List.singleton_append]
    · rw [if_neg (by simp; omega), show 20 - p = 0 by omega]
      simp
theorem s_topo1 : t_topo_Check (T_Topo.mk 1 [] []) = some 0 := rfl
theorem s_net1 {tb : List T_Rule} (ht : Tok (tb.map rlOf)) : t_net_Check (T_Net.mk (T_Topo.mk 1 [] []) [tb]) = some 0 := by
  unfold t_net_Check
  simp only [s_topo1, Option.bind_some, decide_true, Bool.not_true, Bool.false_eq_true, if_false]
  rw [if_neg (by simp), join_eq, loopI_eq (by simp [maxI])]
  simp only [goI, tab_of ht, Option.bind_some, decide_true, Bool.not_true, Bool.false_eq_true, if_false]
theorem s_own1 {tb : List T_Rule} (hl : tb.length ≤ 12) : t_change_Own (T_Net.mk (T_Topo.mk 1 [] []) [tb]) = some (T_Net.mk (T_Topo.mk 1 [] []) [tb]) := by
  have hc : cln tb = some tb := by unfold cln; rw [if_pos (by omega)]
  unfold t_change_Own
  rw [show cln ([] : List T_Link) = some [] from rfl, show cln ([] : List T_Host) = some [] from rfl, Option.bind_some, Option.bind_some]
  rw [show omake (List.length [tb] : Int) (List.length [tb] : Int) ([] : List T_Rule) = some [[]] from rfl, Option.bind_some, loopI_eq (by simp [maxI])]
  simp only [goI, hc, Option.bind_some]
  rfl
theorem apply_go : ∀ (l : List T_Op) (i : Int) (t : List T_Rule), (∀ o ∈ l, o.Switch = 1) → ∃ n, goI (fun (i38 : Int) (x39 : T_Op) (s34 : T_Net) k35 =>
     if ((decide (x39.Switch < 1)) || (decide (s34.Topo.Switches < x39.Switch))) = true then (
     some ((T_Net.mk (T_Topo.mk 0 [] []) []), 1)) else (
     need (decide (0 ≤ (wr (x39.Switch - 1))) && decide ((wr (x39.Switch - 1)) < (List.length s34.Tables : Int))) (
     (idx s34.Tables (wr (x39.Switch - 1))).bind fun r75 =>
     (t_table_Do r75 x39.Add x39.Rule).bind fun r80 =>
     if (!decide (r80.2 = 0)) = true then (
     some ((T_Net.mk (T_Topo.mk 0 [] []) []), r80.2)) else (
     need (decide (0 ≤ (wr (x39.Switch - 1))) && decide ((wr (x39.Switch - 1)) < (List.length s34.Tables : Int))) (
     (oset s34.Tables (wr (x39.Switch - 1)) r80.1).bind fun r94 =>
     k35 (T_Net.mk s34.Topo r94)))))) (fun (s34 : T_Net) => some (s34, (0 : Int))) i l (T_Net.mk (T_Topo.mk 1 [] []) [t]) = some (n, (allV t l).2) ∧ ((allV t l).2 = 0 → n.Tables = [(allV t l).1])
  | [], _, t, _ => ⟨_, rfl, fun _ => rfl⟩
  | o :: l, i, t, h => by
    have ho := h o (by simp)
    have e : wr (o.Switch - 1) = 0 := by rw [ho]; rfl
    rw [goI, e, allV]
    simp only []
    rw [if_neg (by simp [ho]), need_pos (by simp), show idx [t] 0 = some t from rfl, Option.bind_some, t_table_Do, Option.bind_some]
    by_cases h0 : doF t o.Add o.Rule = 0
    · rw [if_neg (by simpa using h0), if_neg (by simpa using h0), need_pos (by simp), show oset [t] 0 (doV t o.Add o.Rule) = some [doV t o.Add o.Rule] from rfl, Option.bind_some]
      exact apply_go l (i + 1) _ fun o ho => h o (by simp [ho])
    · rw [if_pos (by simpa using h0), if_pos h0]
      exact ⟨_, rfl, fun h => absurd h h0⟩
theorem s_Apply {tb : List T_Rule} (ht : Tok (tb.map rlOf)) {l : List T_Op} (hl : l.length ≤ 20) (h1 : ∀ o ∈ l, o.Switch = 1) : ∃ n, t_change_Apply (T_Net.mk (T_Topo.mk 1 [] []) [tb]) l = some (n, (allV tb l).2) ∧ ((allV tb l).2 = 0 → n.Tables = [(allV tb l).1]) := by
  have h12 := ht.len
  rw [List.length_map] at h12
  unfold t_change_Apply
  rw [s_net1 ht, Option.bind_some, if_neg (by simp), if_neg (by simp; omega), s_own1 h12, Option.bind_some, join_eq, loopI_eq (by unfold maxI; omega)]
  exact apply_go l 0 tb h1
theorem doF_chk {t : List T_Rule} {a : Bool} {r : T_Rule} (h : doF t a r = 0) : r.chk = 0 := by
  rw [chk_eq]
  unfold doF tdoF at h
  by_cases h1 : tchk (t.map rlOf) = 0
  · rw [if_neg (by simpa using h1)] at h
    by_cases h2 : (rlOf r).chk = 0
    · exact h2
    · rw [if_pos h2] at h; exact absurd h h2
  · rw [if_pos h1] at h; exact absurd h h1
theorem allV_chk : ∀ {l : List T_Op} {t : List T_Rule}, (allV t l).2 = 0 → ∀ o ∈ l, o.Rule.chk = 0
  | [], _, _, _, ho => by cases ho
  | o :: l, t, h, o2, ho => by
    unfold allV at h
    by_cases h0 : doF t o.Add o.Rule = 0
    · rw [if_neg (by simpa using h0)] at h
      rcases List.mem_cons.1 ho with rfl | ho
      · exact doF_chk h0
      · exact allV_chk h o2 ho
    · rw [if_pos h0] at h; exact absurd h h0
/-! what an agent has that heard of one round alone -/
def r00 : T_agent_round := ⟨[], -1, false⟩
def rds (r : T_agent_round) : List T_agent_round := (List.replicate 20 r00).set 3 r
theorem rds_len (r : T_agent_round) : (rds r).length = 20 := by simp [rds]
theorem rds_3 (r : T_agent_round) : idx (rds r) 3 = some r := rfl
theorem rds_other {r r' : T_agent_round} {j : Nat} (hj : j ≠ 3) (h : (rds r)[j]? = some r') : rdyB r' = false := by
  unfold rds at h
  rw [List.getElem?_set_ne (fun e => hj e.symm), List.getElem?_replicate] at h
  split at h
  · obtain rfl := Option.some.inj h; rfl
  · cases h
theorem rds_rdy (r : T_agent_round) : rdyN (rds r) = if rdyB r = true then 3 else -1 := by
  cases hb : rdyB r with
  | true => exact rdyN_found (k := 3) (r := r) rfl hb fun j hj r' hr' => rds_other (by omega) hr'
  | false =>
    refine rdyN_none fun j hj r' hr' => ?_
    by_cases e : j = 3
    · subst e
      have : (rds r)[3]? = some r := rfl
      rw [this] at hr'
      obtain rfl := Option.some.inj hr'
      exact hb
    · exact rds_other e hr'
theorem s_Ready {a : T_agent_Agent} {r : T_agent_round} (ha : a.rounds = rds r) (hm : r.many ≤ 1000000) : t_agent_Agent_Ready a = some (if rdyB r = true then 3 else -1) := by
  unfold t_agent_Agent_Ready
  rw [ha, rds_rdy, need_pos]
  rw [decide_eq_true (rds_len r), Bool.true_and, List.all_eq_true]
  intro x hx
  rcases List.mem_or_eq_of_mem_set hx with hx | rfl
  · rw [List.eq_of_mem_replicate hx]; rfl
  · simpa using hm
def askM (n : Int) : T_Msg := T_Msg.mk 2 1 3 n (T_Op.mk 0 false (T_Rule.mk 0 (T_Cube.mk 0 0) 0 0 0))
theorem ask_chk {n : Int} (h0 : 0 ≤ n) (h1 : n ≤ 200) : (askM n).chk = 0 := by
  unfold T_Msg.chk askM
  simp only []
  rw [if_neg (by omega), if_pos (by decide), if_neg]
  rintro (h | h)
  · exact h rfl
  · exact absurd h.1 (by decide)
theorem do_chk {n : Int} {o : T_Op} (h0 : 0 ≤ n) (h1 : n ≤ 200) (h2 : o.Switch = 1) (h3 : o.Rule.chk = 0) : (T_Msg.mk 1 1 3 n o).chk = 0 := by
  unfold T_Msg.chk
  simp only []
  rw [if_neg (by omega), if_neg (by decide), if_neg (by simpa using h3), if_neg (by simpa using h2)]
theorem s_Hear {a : T_agent_Agent} {r : T_agent_round} {g : T_Msg} (hn : a.number = 1) (ha : a.rounds = rds r) (h1 : g.chk = 0) (h2 : g.Switch = 1) (h3 : ¬ g.Kind = 3) (h4 : g.Round = 3) : t_agent_Agent_Hear a g =
    if (r.done && (decide (g.Kind = 2))) = true then some ([T_Msg.mk 3 1 3 0 (T_Op.mk 0 false (T_Rule.mk 0 (T_Cube.mk 0 0) 0 0 0))], 0, a) else (
    if r.done = true then some ([], 0, a) else (
    if (decide (g.Kind = 2)) = true then (
      if (decide (r.many < 0)) = true then some ([], 0, a.setR 3 ⟨r.ops, g.Index, r.done⟩) else some ([], 0, a)) else (
      if (!mhas r.ops g.Index) = true then some ([], 0, a.setR 3 ⟨mput r.ops g.Index g.Op, r.many, r.done⟩) else some ([], 0, a)))) := by
  unfold t_agent_Agent_Hear
  rw [ha, decide_eq_true (rds_len r), need_t, s_wire_Check, Option.bind_some, hn, h4, rds_3]
  simp only [h1, h2, h3, decide_true, decide_false, Bool.not_true, Bool.false_eq_true, if_false, ne_eq, not_true_eq_false, Option.bind_some]
def agS (tb : List T_Rule) (n : Int) (ops : List (Int × T_Op)) : T_agent_Agent := ⟨1, tb, rds ⟨ops, n, false⟩, []⟩
structure OInv (l : List T_Op) (ops : List (Int × T_Op)) (left : List Int) (i : Nat) : Prop where
  len : ops.length = i
  sum : left.length + i = l.length
  nodup : left.Nodup
  rng : ∀ x ∈ left, ∃ k : Nat, x = k ∧ k < l.length
  has : ∀ k : Nat, k < l.length → mhas ops (k : Int) = !decide ((k : Int) ∈ left)
  get : ∀ (k : Nat) (o : T_Op), l[k]? = some o → mhas ops (k : Int) = true → ∀ d, mget ops (k : Int) d = o
theorem oinv_step {l : List T_Op} {ops : List (Int × T_Op)} {left : List Int} {i q x : Nat} {o : T_Op} (h : OInv l ops left i) (hq : left[q]? = some (x : Int)) (ho : l[x]? = some o) : OInv l (ops ++ [((x : Int), o)]) (left.take q ++ left.drop (q + 1)) (i + 1) := by
  have hlt := (List.getElem?_eq_some_iff.1 hq).1
  have e : left = left.take q ++ (x : Int) :: left.drop (q + 1) := by
    conv => lhs; rw [← List.take_append_drop q left, List.drop_eq_getElem_cons hlt]
    rw [(List.getElem?_eq_some_iff.1 hq).2]
  have hnd := h.nodup
  have hmem : ∀ y, y ∈ left.take q ++ left.drop (q + 1) ↔ y ∈ left ∧ y ≠ (x : Int) := by
    generalize left.take q = A at *
    generalize left.drop (q + 1) = B at *
    subst e
    intro y
    rw [List.nodup_append] at hnd
    obtain ⟨_, h2, h3⟩ := hnd
    rw [List.nodup_cons] at h2
    simp only [List.mem_append, List.mem_cons]
    constructor
    · rintro (hy | hy)
      · exact ⟨.inl hy, h3 y hy _ (by simp)⟩
      · exact ⟨.inr (.inr hy), fun e => h2.1 (e ▸ hy)⟩
    · rintro ⟨hy | rfl | hy, hne⟩
      · exact .inl hy
      · exact absurd rfl hne
      · exact .inr hy
  refine ⟨by simp [h.len], ?_, ?_, fun y hy => h.rng y ((hmem y).1 hy).1, fun k hk => ?_, fun k o2 hk hh d => ?_⟩
  · have := h.sum
    rw [List.length_append, List.length_take, List.length_drop]
    omega
  · rw [e] at hnd
    exact hnd.sublist (List.Sublist.append_left (List.sublist_cons_self _ _) _)
  · rw [mhas_snoc, h.has k hk]
    have := hmem (k : Int)
    by_cases h2 : (k : Int) = (x : Int)
    · have h3 : (k : Int) ∉ List.take q left ++ List.drop (q + 1) left := fun h => (this.1 h).2 h2
      rw [decide_eq_true h2, decide_eq_false h3, Bool.or_true]; rfl
    · rw [decide_eq_false h2, Bool.or_false]
      congr 1
      exact decide_eq_decide.2 ⟨fun h => this.2 ⟨h, h2⟩, fun h => (this.1 h).1⟩
  · rw [mget_snoc]
    by_cases h1 : mhas ops (k : Int) = true
    · rw [if_pos h1]; exact h.get k o2 hk h1 d
    · rw [if_neg h1]
      rw [mhas_snoc] at hh
      have h2 : (k : Int) = (x : Int) := by simpa [h1] using hh
      rw [if_pos h2]
      have : k = x := by omega
      subst this
      rw [ho] at hk
      exact Option.some.inj hk
theorem ints_go : ∀ (l : List T_Op) (q : Nat) (s : List Int), s = (List.range q).map (fun (k : Nat) => (k : Int)) → q + l.length ≤ 20 → ∀ {α : Type} {fin : List Int → Option α}, goI (fun (i562 : Int) (x563 : T_Op) (s558 : (List Int)) k559 =>
     (app s558 ([i562] : (List Int))).bind fun r571 =>
     k559 (r571)) fin (q : Int) l s = fin ((List.range (q + l.length)).map fun (k : Nat) => (k : Int))
  | [], q, s, hs, _, _, _ => by rw [goI, hs]; rfl
  | x :: l, q, s, hs, hl, _, fin => by
    simp only [List.length_cons] at hl
    subst hs
    rw [goI, app_eq (by simp; omega), Option.bind_some]
    have e : (q : Int) + 1 = ((q + 1 : Nat) : Int) := by omega
    simp only []
    rw [e, ints_go l (q + 1) _ (by rw [List.range_succ, List.map_append]; rfl) (by omega), List.length_cons]
    congr 3
    omega
/-- what a round is worth that has all its ops -/
theorem s_Work {tb : List T_Rule} (ht : Tok (tb.map rlOf)) {l : List T_Op} (hl : l.length ≤ 20) {ops : List (Int × T_Op)} {i : Nat} (h : OInv l ops [] i) (h0 : (allV tb l).2 = 0) :
    t_agent_Agent_Work (agS tb l.length ops) = some ([T_Msg.mk 3 1 3 0 (T_Op.mk 0 false (T_Rule.mk 0 (T_Cube.mk 0 0) 0 0 0))], 0, ⟨1, (allV tb l).1, rds ⟨ops, l.length, true⟩, [3]⟩) := by
  have hr : rdyB ⟨ops, (l.length : Int), false⟩ = true := by
    unfold rdyB wholeB
    simp only [Bool.not_false, Bool.true_and, Bool.and_eq_true, decide_eq_true_eq, List.all_eq_true, List.mem_range, Int.toNat_natCast]
    refine ⟨by omega, fun k hk => ?_⟩
    rw [h.has k hk]; rfl
  unfold t_agent_Agent_Work
  rw [show (agS tb l.length ops).rounds = rds ⟨ops, l.length, false⟩ from rfl, decide_eq_true (rds_len _), need_t, s_Ready (r := ⟨ops, l.length, false⟩) rfl (by simp only; omega), if_pos hr, Option.bind_some, if_neg (by decide), rds_3, Option.bind_some]
  simp only []
  rw [loopU_at (fun q => (List.range q).map fun (k : Nat) => mget ops (k : Int) default) (s := []) rfl (by unfold maxI; omega) fun q k hq => ?_]
  rotate_left
  · rw [app_eq (by simp; omega), Option.bind_some, List.range_succ, List.map_append]; rfl
  have e : ((List.range l.length).map fun (k : Nat) => mget ops (k : Int) default) = l := by
    refine List.ext_getElem? fun k => ?_
    rw [List.getElem?_map]
    by_cases hk : k < l.length
    · rw [List.getElem?_range hk, Option.map_some, List.getElem?_eq_getElem hk]
      rw [h.get k l[k] (List.getElem?_eq_getElem hk) (by rw [h.has k hk]; rfl)]
    · rw [List.getElem?_eq_none (by simp; omega), List.getElem?_eq_none (by omega)]; rfl
  rw [e, s_All (t := (agS tb l.length ops).table) ht _ (by omega), Option.bind_some, show (agS tb l.length ops).table = tb from rfl, if_pos (by simp [h0])]
  unfold workEnd
  rw [show oapp (agS tb l.length ops).done [(3 : Int)] = some [3] from rfl, Option.bind_some]
  rfl
theorem t_AgentOnce (tb : List T_Rule) (os : List T_Op) (od ag : List Int) (hos : (os.length : Int) ≤ maxI) : t_raillaw2_AgentOnce tb os od ag = some true := by
  unfold t_raillaw2_AgentOnce t_agent_New
  rw [if_neg (by decide), s_rule_Table, Option.bind_some]
  by_cases h0 : tabF tb = 0
  rotate_left
  · simp [h0, caseO]
  have ht := tok_of h0
  have h12 := ht.len
  rw [List.length_map] at h12
  have hc : cln tb = some tb := by unfold cln; rw [if_pos (by omega)]
  rw [if_neg (by simp [h0]), hc, Option.bind_some, Option.bind_some]
  unfold caseO
  simp only [decide_true, Bool.not_true, Bool.false_eq_true, if_false]
  rw [loopI_eq hos]
  have e1 := take_go os 0 [] rfl (by omega)
  rw [List.nil_append, Nat.sub_zero] at e1
  rw [show ((0 : Nat) : Int) = 0 from rfl] at e1
  rw [e1, Option.bind_some]
  have hl : ((os.take 20).map setSw1).length ≤ 20 := by simp; omega
  have hsw : ∀ o ∈ (os.take 20).map setSw1, o.Switch = 1 := fun o ho => by
    obtain ⟨x, _, rfl⟩ := List.mem_map.1 ho; rfl
  generalize (os.take 20).map setSw1 = l at hl hsw
  obtain ⟨net, a1, a2⟩ := s_Apply ht hl hsw
  rw [a1, Option.bind_some]
  by_cases h1 : (allV tb l).2 = 0
  rotate_left
  · rw [if_pos (by simpa using h1)]
  rw [if_neg (by simpa using h1)]
  have hck := allV_chk h1
  have ht' := allV_tok ht h1
  have h12' := ht'.len
  rw [List.length_map] at h12'
  have hask : t_agent_Agent_Hear (⟨1, tb, List.replicate 20 ⟨[], -1, false⟩, []⟩ : T_agent_Agent) (askM (l.length : Int)) = some ([], 0, agS tb l.length []) := by
    rw [s_Hear (r := r00) rfl (by rfl) (ask_chk (by omega) (by omega)) rfl (by show ¬ (2 : Int) = 3; decide) rfl]
    rfl
  have hask' : t_agent_Agent_Hear (⟨1, tb, List.replicate 20 ⟨[], -1, false⟩, []⟩ : T_agent_Agent) (T_Msg.mk 2 1 3 (l.length : Int) (T_Op.mk 0 false (T_Rule.mk 0 (T_Cube.mk 0 0) 0 0 0))) = some ([], 0, agS tb l.length []) := hask
  rw [hask', Option.bind_some, if_neg (by simp), loopI_eq (by unfold maxI; omega)]
  have e2 := ints_go l 0 [] rfl (by omega) (fin := fun (s558 : (List Int)) => some (l, s558))
  rw [Nat.zero_add, show ((0 : Nat) : Int) = 0 from rfl] at e2
  rw [e2, Option.bind_some, join_eq]
  have hB := bigN_gt
  refine tfix_inv (fun c (s : T_agent_Agent × (List T_Op) × (List Int) × Int) => ∃ ops left i, s = (agS tb l.length ops, l, left, ((i : Nat) : Int)) ∧ left.length = c ∧ OInv l ops left i) (fun c s k hI hk => ?_) (fun s k hI => ?_) l.length bigN _ ⟨[], _, 0, rfl, by simp, ⟨rfl, by simp, ?_, fun x hx => ?_, fun k hk => ?_, fun k o hk hh => ?_⟩⟩ (by omega)
  · obtain ⟨ops, left, i, rfl, hlen, h⟩ := hI
    simp only []
    have hil : i < l.length := by have := h.sum; omega
    rw [if_pos (by simp; omega)]
    -- which one
    have hq : ∃ q : Nat, q < left.length ∧ ∀ {β : Type} (Z : (List T_Op) × (List Int) × Int → Option β), ((gd (decide ((i : Int) < (List.length od : Int))) default (idx od (i : Int))).bind fun r437 =>
       (gd ((decide ((i : Int) < (List.length od : Int))) && (decide (0 ≤ r437))) default (idx od (i : Int))).bind fun r452 =>
       (if (((decide ((i : Int) < (List.length od : Int))) && (decide (0 ≤ r437))) && (decide (r452 < (List.length left : Int)))) = true then (
       (idx od (i : Int)).bind fun r554 =>
       some (l, left, r554)) else (
       some (l, left, 0))).bind Z) = Z (l, left, (q : Int)) := by
      by_cases hi : i < od.length
      · obtain ⟨v, hv⟩ : ∃ v, od[i]? = some v := ⟨_, List.getElem?_eq_getElem hi⟩
        by_cases hvv : 0 ≤ v ∧ v < (left.length : Int)
        · obtain ⟨q, rfl⟩ := Int.eq_ofNat_of_zero_le hvv.1
          refine ⟨q, by omega, fun Z => ?_⟩
          rw [idx_nat, hv]
          simp [hi, gd_true, hvv.2]
        · refine ⟨0, by omega, fun Z => ?_⟩
          rw [idx_nat, hv]
          by_cases h9 : 0 ≤ v
          · have : ¬ v < (left.length : Int) := fun h => hvv ⟨h9, h⟩
            simp [hi, gd_true, h9, this]
          · simp [hi, gd_true, gd_false, h9]
      · refine ⟨0, by omega, fun Z => ?_⟩
        simp [hi, gd_false]
    obtain ⟨q, hq1, hq2⟩ := hq
    rw [hq2]
    obtain ⟨x, hx⟩ : ∃ x, left[q]? = some x := ⟨_, List.getElem?_eq_getElem hq1⟩
    obtain ⟨x, rfl, hxl⟩ := h.rng x (List.mem_of_getElem? hx)
    obtain ⟨o, ho⟩ : ∃ o, l[x]? = some o := ⟨_, List.getElem?_eq_getElem hxl⟩
    have homem := List.mem_of_getElem? ho
    have hxm : mhas ops (x : Int) = false := by rw [h.has x hxl]; simp [List.mem_of_getElem? hx]
    have hnr : rdyB ⟨ops, (l.length : Int), false⟩ = false := by
      unfold rdyB wholeB
      rw [Bool.not_false, Bool.true_and, Bool.and_eq_false_iff]
      right
      rw [List.all_eq_false]
      exact ⟨x, by simpa using hxl, by simp [hxm]⟩
    simp only [idx_nat, hx, ho, Option.bind_some]
    rw [s_Ready (r := ⟨ops, l.length, false⟩) rfl (by simp only; omega), if_neg (by simp [hnr]), Option.bind_some, if_neg (by decide)]
    have hchk := do_chk (n := (x : Int)) (o := o) (by omega) (by omega) (hsw o homem) (hck o homem)
    have g1 : t_agent_Agent_Hear (agS tb l.length ops) (T_Msg.mk 1 1 3 (x : Int) o) = some ([], 0, agS tb l.length (ops ++ [((x : Int), o)])) := by
      rw [s_Hear (r := ⟨ops, l.length, false⟩) rfl rfl hchk rfl (by show ¬ (1 : Int) = 3; decide) rfl]
      simp only [Bool.false_and, Bool.false_eq_true, if_false, hxm, Bool.not_false, if_true]
      rw [if_neg (by simp), mput_new _ hxm]
      rfl
    have g2 : t_agent_Agent_Hear (agS tb l.length (ops ++ [((x : Int), o)])) (T_Msg.mk 1 1 3 (x : Int) o) = some ([], 0, agS tb l.length (ops ++ [((x : Int), o)])) := by
      rw [s_Hear (r := ⟨ops ++ [((x : Int), o)], l.length, false⟩) rfl rfl hchk rfl (by show ¬ (1 : Int) = 3; decide) rfl]
      simp only [Bool.false_and, Bool.false_eq_true, if_false, mhas_snoc, decide_true, Bool.or_true, Bool.not_true]
      rw [if_neg (by simp)]
    rw [g1, Option.bind_some, if_neg (by simp)]
    simp only []
    have hagain : ((gd (decide ((i : Int) < (List.length ag : Int))) default ag[i]?).bind fun r501 =>
       (if ((decide ((i : Int) < (List.length ag : Int))) && (decide (r501 = 1))) = true then (
       (t_agent_Agent_Hear (agS tb l.length (ops ++ [((x : Int), o)])) (T_Msg.mk 1 1 3 (x : Int) o)).bind fun r550 =>
       some (r550.2.2, l, left)) else (
       some (agS tb l.length (ops ++ [((x : Int), o)]), l, left)))) = some (agS tb l.length (ops ++ [((x : Int), o)]), l, left) := by
      rw [g2]
      by_cases hi : i < ag.length
      · obtain ⟨v, hv⟩ : ∃ v, ag[i]? = some v := ⟨_, List.getElem?_eq_getElem hi⟩
        rw [hv]
        by_cases h9 : v = 1 <;> simp [hi, gd_true, h9]
      · simp [hi, gd_false]
    rw [← Option.bind_assoc, hagain, Option.bind_some]
    have hT : t_agent_Agent_Table (agS tb l.length (ops ++ [((x : Int), o)])) = some tb := hc
    have hH : t_agent_Agent_Heard (agS tb l.length (ops ++ [((x : Int), o)])) 3 = some ((i : Int) + 1) := by
      unfold t_agent_Agent_Heard
      rw [show (agS tb l.length (ops ++ [((x : Int), o)])).rounds = rds ⟨ops ++ [((x : Int), o)], l.length, false⟩ from rfl, decide_eq_true (rds_len _), need_t, if_neg (by decide), rds_3, Option.bind_some]
      simp [h.len]
    have hwr : wr ((i : Int) + 1) = (i : Int) + 1 := wr_id (by omega) (by omega)
    have hwq : wr ((q : Int) + 1) = ((q + 1 : Nat) : Int) := by
      have := h.sum
      rw [wr_id (by omega) (by omega)]; omega
    have hs1 : slc_lo left ((q + 1 : Nat) : Int) = some (left.drop (q + 1)) := by
      unfold slc_lo; rw [if_pos ⟨by omega, by omega⟩]; rfl
    have hs2 : slc_hd left (q : Int) (q : Int) = some (left.take q) := by
      unfold slc_hd; rw [if_pos ⟨rfl, by omega, by omega⟩]; rfl
    simp only []
    rw [hT, Option.bind_some, s_Tab _ (by omega), Option.bind_some, Bool.not_true, Bool.not_false, gd_true, hH, Option.bind_some, hwr, if_neg (by simp), hwq, hs1, Option.bind_some, hs2, Option.bind_some, app_eq (by have := h.sum; simp; omega), Option.bind_some]
    refine hk _ ⟨ops ++ [((x : Int), o)], _, i + 1, ?_, ?_, oinv_step h hx ho⟩
    · rw [show (((i + 1 : Nat)) : Int) = (i : Int) + 1 by omega]
    · have := (oinv_step h hx ho).sum
      have := h.sum
      omega
  · obtain ⟨ops, left, i, rfl, hlen, h⟩ := hI
    obtain rfl : left = [] := List.length_eq_zero_iff.1 hlen
    simp only []
    rw [if_neg (by simp)]
    have hr : rdyB ⟨ops, (l.length : Int), false⟩ = true := by
      unfold rdyB wholeB
      simp only [Bool.not_false, Bool.true_and, Bool.and_eq_true, decide_eq_true_eq, List.all_eq_true, List.mem_range, Int.toNat_natCast]
      refine ⟨by omega, fun k hk => ?_⟩
      rw [h.has k hk]; rfl
    have hw := s_Work ht hl h h1
    have hn : net.Tables = [(allV tb l).1] := a2 h1
    rw [s_Ready (r := ⟨ops, l.length, false⟩) rfl (by simp only; omega), if_pos hr, Option.bind_some, if_neg (by decide), hw, Option.bind_some]
    simp only []
    have hT : t_agent_Agent_Table (⟨1, (allV tb l).1, rds ⟨ops, l.length, true⟩, [3]⟩ : T_agent_Agent) = some (allV tb l).1 := by
      unfold t_agent_Agent_Table cln; rw [if_pos (by simp only; omega)]
    have hw2 : t_agent_Agent_Work (⟨1, (allV tb l).1, rds ⟨ops, l.length, true⟩, [3]⟩ : T_agent_Agent) = some ([], 6, ⟨1, (allV tb l).1, rds ⟨ops, l.length, true⟩, [3]⟩) := by
      unfold t_agent_Agent_Work
      rw [decide_eq_true (rds_len _), need_t, s_Ready (r := ⟨ops, l.length, true⟩) rfl (by simp only; omega), if_neg (by simp [rdyB]), Option.bind_some, if_pos (by decide)]
    have hh2 : t_agent_Agent_Hear (⟨1, (allV tb l).1, rds ⟨ops, l.length, true⟩, [3]⟩ : T_agent_Agent) (T_Msg.mk 2 1 3 7 (T_Op.mk 0 false (T_Rule.mk 0 (T_Cube.mk 0 0) 0 0 0))) = some ([T_Msg.mk 3 1 3 0 (T_Op.mk 0 false (T_Rule.mk 0 (T_Cube.mk 0 0) 0 0 0))], 0, ⟨1, (allV tb l).1, rds ⟨ops, l.length, true⟩, [3]⟩) := by
      rw [s_Hear (r := ⟨ops, l.length, true⟩) (g := T_Msg.mk 2 1 3 7 (T_Op.mk 0 false (T_Rule.mk 0 (T_Cube.mk 0 0) 0 0 0))) rfl rfl (ask_chk (n := 7) (by decide) (by decide)) rfl (by show ¬ (2 : Int) = 3; decide) rfl]
      rfl
    rw [hT, Option.bind_some, hn, show idx [(allV tb l).1] 0 = some (allV tb l).1 from rfl, Option.bind_some, s_Tab _ (by omega), Option.bind_some, hw2]
    have hi : ∀ m : T_Msg, idx [m] 0 = some m := fun _ => rfl
    simp [gd_true, hi, hh2, s_err]
  · rw [List.nodup_iff_pairwise_ne, List.pairwise_map]
    exact (List.nodup_range (n := l.length)).imp fun h e => h (by omega)
  · obtain ⟨k, hk, rfl⟩ := List.mem_map.1 hx
    exact ⟨k, rfl, by simpa using hk⟩
  · rw [decide_eq_true (List.mem_map.2 ⟨k, List.mem_range.2 hk, rfl⟩)]; rfl
  · cases hh
theorem walk_AgentOnce (tb : List T_Rule) (os : List T_Op) (od ag : List Int) {p q r : Prop} (_ : p) (u : wL maxLen (fun x => x.wf maxLen) os) (_ : q) (_ : r) : t_raillaw2_AgentOnce tb os od ag = some true := t_AgentOnce tb os od ag (by have := u.1; unfold maxLen at this; unfold maxI; omega)
end Go.Proofs.YtgfleiknigjnbaaDoor.Ty
