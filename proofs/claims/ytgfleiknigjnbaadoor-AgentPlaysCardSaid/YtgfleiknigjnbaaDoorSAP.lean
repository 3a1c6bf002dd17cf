/- An agent is played as the document tells, step by step. -/
import Derived.Test.YtgfleiknigjnbaaDoorTyA
import Derived.Test.YtgfleiknigjnbaaDoorSBase
import Derived.Test.YtgfleiknigjnbaaDoorPlain
import Derived.Test.YtgfleiknigjnbaaDoorDoTy
import Derived.Test.YtgfleiknigjnbaaDoorTabM
import Derived.Test.YtgfleiknigjnbaaDoorTyD
namespace Go.Proofs.YtgfleiknigjnbaaDoor.Ty
open Go Go.RowKit Go.Proofs.YtgfleiknigjnbaaDoor.Den
set_option linter.unusedSimpArgs false
set_option linter.unusedVariables false
set_option maxRecDepth 100000

abbrev cf (c : T_Cube) : Int := cchk c.Mask c.Bits
abbrev hs (c : T_Cube) (h : Int) : Bool := chas c.Mask c.Bits h
theorem and_andNot' {m b : Int} (h : 0 ≤ m ∧ m < 16 ∧ 0 ≤ b ∧ b < 16) : bits .and .i64 b m = b ↔ bits .andNot .i64 b m = 0 := by
  obtain ⟨h1, h2, h3, h4⟩ := h
  obtain ⟨m, rfl⟩ := Int.eq_ofNat_of_zero_le h1
  obtain ⟨b, rfl⟩ := Int.eq_ofNat_of_zero_le h3
  have hm : m < 16 := by omega
  have hb : b < 16 := by omega
  have H : ∀ x y : Fin 16, bits .and .i64 (y.val : Int) (x.val : Int) = (y.val : Int) ↔ bits .andNot .i64 (y.val : Int) (x.val : Int) = 0 := by decide +kernel
  exact H ⟨m, hm⟩ ⟨b, hb⟩
theorem hdr_eq (k : Int) : (decide (0 ≤ k) && decide (k < 16)) = hdr k := by unfold hdr; rw [Bool.eq_iff_iff]; simp
theorem s_cube_Header (k : Int) : t_cube_Header k = some (hdr k) := by rw [t_cube_Header, hdr_eq]
theorem s_rHeader (k : Int) : t_railref1_Header k = some (hdr k) := by rw [t_railref1_Header, hdr_eq]
theorem s_cube_Check (c : T_Cube) : t_cube_Check c = some (cf c) := by
  unfold t_cube_Check cf cchk
  simp only [s_cube_Header, Option.bind_some]
  cases h1 : hdr c.Mask
  · rw [hdr_not] at h1
    simp [gd_false]
    try omega
  · cases h2 : hdr c.Bits
    · rw [hdr_not] at h2
      simp [gd_true, h2]
      try omega
    · rw [hdr_iff] at h1 h2
      rw [if_pos (show 0 ≤ c.Mask ∧ c.Mask < 16 ∧ 0 ≤ c.Bits ∧ c.Bits < 16 by omega)]
      by_cases h3 : bits .andNot .i64 c.Bits c.Mask = 0 <;> simp [gd_true, h3]
theorem s_rCube (c : T_Cube) : t_railref1_Cube c = some (cf c) := by
  unfold t_railref1_Cube cf cchk
  simp only [s_rHeader, Option.bind_some]
  cases h1 : hdr c.Mask
  · rw [hdr_not] at h1
    simp
    omega
  · cases h2 : hdr c.Bits
    · rw [hdr_not] at h2
      simp
      omega
    · rw [hdr_iff] at h1 h2
      rw [if_pos (show 0 ≤ c.Mask ∧ c.Mask < 16 ∧ 0 ≤ c.Bits ∧ c.Bits < 16 by omega)]
      have h3 := and_andNot' ⟨h1.1, h1.2, h2.1, h2.2⟩
      by_cases h : bits .andNot .i64 c.Bits c.Mask = 0 
      · simp [h, h3.2 h]
      · have : ¬ bits .and .i64 c.Bits c.Mask = c.Bits := fun z => h (h3.1 z)
        simp [h, this]

def rchk (p m b o s v : Int) : Int :=
  if 0 ≤ p ∧ p ≤ 99 ∧ 0 ≤ o ∧ o ≤ 4 ∧ (0 ≤ s ∧ s < 16) ∧ (0 ≤ v ∧ v < 16) then
    (if cchk m b = 0 then (if bits .andNot .i64 v s = 0 ∧ ¬ (o = 0 ∧ s ≠ 0) then 0 else 3) else cchk m b)
  else 1
theorem rchk_0 {p m b o s v : Int} : rchk p m b o s v = 0 ↔ (0 ≤ p ∧ p ≤ 99 ∧ 0 ≤ o ∧ o ≤ 4 ∧ (0 ≤ s ∧ s < 16) ∧ (0 ≤ v ∧ v < 16)) ∧ cchk m b = 0 ∧ bits .andNot .i64 v s = 0 ∧ ¬ (o = 0 ∧ s ≠ 0) := by
  unfold rchk
  split
  · rename_i h
    split
    · rename_i h2
      split
      · rename_i h3; exact ⟨fun _ => ⟨h, h2, h3.1, h3.2⟩, fun _ => rfl⟩
      · rename_i h3; exact ⟨fun h => absurd h (by decide), fun h => absurd ⟨h.2.2.1, h.2.2.2⟩ h3⟩
    · rename_i h2; exact ⟨fun h => absurd h h2, fun h => absurd h.2.1 h2⟩
  · rename_i h; exact ⟨fun h => absurd h (by decide), fun h2 => absurd h2.1 h⟩

set_option maxHeartbeats 800000 in
def T_Rule.chk (x : T_Rule) : Int := rchk x.Prio x.Cube.Mask x.Cube.Bits x.Out x.Set x.Value
def op0 : T_Op := ⟨0, false, ⟨0, ⟨0, 0⟩, 0, 0, 0⟩⟩
def mg0 : T_Msg := ⟨0, 0, 0, 0, op0⟩
/-- the fault of a message -/
def T_Msg.chk (x : T_Msg) : Int :=
  if x.Kind < 1 ∨ 3 < x.Kind ∨ x.Switch < 1 ∨ 6 < x.Switch ∨ x.Round < 0 ∨ 20 ≤ x.Round ∨ x.Index < 0 ∨ 200 < x.Index then 1
  else if x.Kind ≠ 1 then (if x.Op ≠ op0 ∨ (x.Kind = 3 ∧ x.Index ≠ 0) then 3 else 0)
  else if x.Op.Rule.chk ≠ 0 then x.Op.Rule.chk
  else if x.Op.Switch ≠ x.Switch then 3 else 0
theorem rchk_ite (p m b o s v : Int) (hs hv : Bool) (h1 : hs = true ↔ 0 ≤ s ∧ s < 16) (h2 : hv = true ↔ 0 ≤ v ∧ v < 16) (e : Int) (he : e = cchk m b) :
    (if (((((decide (p < 0) || decide (99 < p)) || decide (o < 0)) || decide (4 < o)) || !hs) || !hv) = true then some (1 : Int) else
      if (!decide (e = 0)) = true then some e else if (decide (bits .andNot .i64 v s ≠ 0) || (decide (o = 0) && decide (s ≠ 0))) = true then some 3 else some 0) = some (rchk p m b o s v) := by
  subst he
  unfold rchk
  by_cases h : 0 ≤ p ∧ p ≤ 99 ∧ 0 ≤ o ∧ o ≤ 4 ∧ (0 ≤ s ∧ s < 16) ∧ (0 ≤ v ∧ v < 16)
  · rw [if_neg (by rw [h1.2 h.2.2.2.2.1, h2.2 h.2.2.2.2.2]; simp; omega), if_pos h]
    by_cases hk : cchk m b = 0
    · rw [if_neg (by simp [hk]), if_pos hk]
      generalize bits .andNot .i64 v s = B
      by_cases h3 : B = 0 <;> by_cases h4 : o = 0 <;> by_cases h5 : s = 0 <;> simp [h3, h4, h5]
    · rw [if_pos (by simp [hk]), if_neg hk]
  · rw [if_neg h, if_pos]
    cases hs <;> cases hv <;> simp at h1 h2 ⊢
    omega
theorem s_rule_Check (r : T_Rule) : t_rule_Check r = some r.chk := by
  have key := rchk_ite r.Prio r.Cube.Mask r.Cube.Bits r.Out r.Set r.Value (hdr r.Set) (hdr r.Value) hdr_iff hdr_iff (cf r.Cube) rfl
  unfold t_rule_Check T_Rule.chk
  simp only [s_cube_Header, s_cube_Check, Option.bind_some]
  rw [← key]
  cases hA : (((decide (r.Prio < 0) || decide (99 < r.Prio)) || decide (r.Out < 0)) || decide (4 < r.Out))
  · cases hB : hdr r.Set
    · simp [gd_true, gd_false]
    · simp only [Bool.false_or, Bool.not_false, Bool.not_true, gd_true, Option.bind_some]
  · simp [gd_false]
theorem s_rRule (r : T_Rule) : t_railref1_Rule r = some r.chk := by
  have key := rchk_ite r.Prio r.Cube.Mask r.Cube.Bits r.Out r.Set r.Value (hdr r.Set) (hdr r.Value) hdr_iff hdr_iff (cf r.Cube) rfl
  unfold t_railref1_Rule T_Rule.chk
  simp only [s_rHeader, s_rCube, Option.bind_some]
  rw [← key]
  by_cases hA : (((((decide (r.Prio < 0) || decide (99 < r.Prio)) || decide (r.Out < 0)) || decide (4 < r.Out)) || !hdr r.Set) || !hdr r.Value) = true
  · rw [if_pos hA, if_pos hA]
  · rw [if_neg hA, if_neg hA]
    have hv : 0 ≤ r.Set ∧ r.Set < 16 ∧ 0 ≤ r.Value ∧ r.Value < 16 := by
      simp only [Bool.or_eq_true, not_or, Bool.not_eq_true', Bool.not_eq_false, hdr_iff] at hA
      omega
    have e2 : cf (⟨r.Set, r.Value⟩ : T_Cube) = if bits .andNot .i64 r.Value r.Set = 0 then 0 else 3 := by
      unfold cf cchk; rw [if_pos hv]
    rw [e2]
    by_cases h0 : cf r.Cube = 0
    · by_cases h3 : bits .andNot .i64 r.Value r.Set = 0 <;> simp [h0, h3, gd_true, gd_false]
    · simp [h0]
theorem s_wire_Check (m : T_Msg) : t_wire_Check m = some m.chk := by
  unfold t_wire_Check T_Msg.chk
  simp only [s_rule_Check, Option.bind_some]
  by_cases h1 : m.Kind < 1 ∨ 3 < m.Kind ∨ m.Switch < 1 ∨ 6 < m.Switch ∨ m.Round < 0 ∨ 20 ≤ m.Round ∨ m.Index < 0 ∨ 200 < m.Index
  · rw [if_pos h1, if_pos (by simp; omega)]
  · rw [if_neg h1, if_neg (by simp; omega)]
    by_cases h2 : m.Kind = 1
    · by_cases h3 : m.Op.Rule.chk = 0 <;> by_cases h4 : m.Op.Switch = m.Switch <;> simp [h2, h3, h4]
    · rw [if_pos (decide_eq_true h2), if_pos h2]
      have e : (⟨0, false, ⟨0, ⟨0, 0⟩, 0, 0, 0⟩⟩ : T_Op) = op0 := rfl
      rw [e]
      by_cases h3 : m.Op = op0 <;> by_cases h4 : m.Kind = 3 <;> by_cases h5 : m.Index = 0 <;> simp [h3, h4, h5]
theorem s_rMsg (m : T_Msg) : t_railref2_Msg m = some m.chk := by
  unfold t_railref2_Msg T_Msg.chk
  simp only [s_rRule, Option.bind_some]
  by_cases h1 : m.Kind < 1 ∨ 3 < m.Kind ∨ m.Switch < 1 ∨ 6 < m.Switch ∨ m.Round < 0 ∨ 20 ≤ m.Round ∨ m.Index < 0 ∨ 200 < m.Index
  · rw [if_pos h1, if_pos (by simp; omega)]
  · rw [if_neg h1, if_neg (by simp; omega)]
    by_cases h2 : m.Kind = 1
    · by_cases h3 : m.Op.Rule.chk = 0 <;> by_cases h4 : m.Op.Switch = m.Switch <;> simp [h2, h3, h4]
    · rw [if_pos (decide_eq_true h2), if_pos h2]
      have e : (⟨0, false, ⟨0, ⟨0, 0⟩, 0, 0, 0⟩⟩ : T_Op) = op0 := rfl
      rw [e]
      by_cases h3 : m.Op = op0 <;> by_cases h4 : m.Kind = 3 <;> by_cases h5 : m.Index = 0 <;> simp [h3, h4, h5]

section
variable {α β σ : Type}
end
section
variable {α β σ τ : Type}
theorem loopI_any {step : Int → α → Unit → (Unit → Option β) → Option β} {f : Option β} (p : α → Bool) {r : β} {l : List α} (hl : (l.length : Int) ≤ maxI) (h : ∀ x i k, step i x () k = if p x = true then some r else k ()) : loopI l step (fun _ => f) () = if l.any p = true then some r else f := by
  rw [loopI_eq hl, goI_any (p := p) (r := r) l 0 fun x _ i k => h x i k]
theorem goU_any {l : List α} {p : α → Bool} {r : β} {step : Int → Unit → (Unit → Option β) → Option β} {f : Option β} (h : ∀ (j : Nat) x k, l[j]? = some x → step (j : Int) () k = if p x = true then some r else k ()) : ∀ (m i : Nat), i + m ≤ l.length → goU step (fun _ _ => f) m (i : Int) () = if ((l.drop i).take m).any p = true then some r else f
  | 0, i, _ => by simp [goU]
  | m + 1, i, hm => by
    have hi : i < l.length := by omega
    rw [goU, h i l[i] _ (List.getElem?_eq_getElem hi), List.drop_eq_getElem_cons hi, List.take_succ_cons, List.any_cons]
    have e : (i : Int) + 1 = ((i + 1 : Nat) : Int) := by omega
    rw [e, goU_any h m (i + 1) (by omega)]
    cases p l[i] <;> simp
theorem loopU_any {l : List α} (p : α → Bool) {r : β} {step : Int → Unit → (Unit → Option β) → Option β} {f : Option β} {i : Int} (h0 : 0 ≤ i) (h1 : i ≤ l.length) (h2 : i ≤ maxI) (h : ∀ (j : Nat) x k, l[j]? = some x → step (j : Int) () k = if p x = true then some r else k ()) : loopU 0 i step (fun _ _ => f) () = if (l.take i.toNat).any p = true then some r else f := by
  rw [loopU_eq (Int.le_refl 0) h2, Int.sub_zero]
  have := goU_any (f := f) h i.toNat 0 (by omega)
  simpa using this
end
section
variable {K α : Type} [DecidableEq K]
theorem mfind_off : ∀ (l : List (K × α)) (a : K) (i : Nat), mfind l a i = (mfind l a 0).map fun p => (p.1 + i, p.2)
  | [], _, _ => rfl
  | (b, u) :: r, a, i => by
    simp only [mfind]
    split
    · simp
    · rw [mfind_off r a (i + 1), mfind_off r a (0 + 1)]
      cases mfind r a 0 with
      | none => rfl
      | some p => simp; omega
theorem mget_cons (b : K) (u : α) (r : List (K × α)) (a : K) (d : α) : mget ((b, u) :: r) a d = if a = b then u else mget r a d := by
  unfold mget
  simp only [mfind]
  by_cases h : a = b
  · simp [h]
  · rw [if_neg h, if_neg h, mfind_off r a (0 + 1)]
    cases mfind r a 0 <;> rfl
theorem any_is (l : List K) (a : K) : (l.any fun y => decide (y = a)) = decide (a ∈ l) := by
  rw [Bool.eq_iff_iff]
  simp
end


section
variable {α β σ : Type}
theorem goI_ex {step : Int → α → σ → (σ → Option β) → Option β} {fin : σ → Option β} {I : Int → List α → σ → Prop} {Q : β → Prop} (hfin : ∀ i s, I i [] s → ∃ v, fin s = some v ∧ Q v)
    (hstep : ∀ i x l s k, I i (x :: l) s → (∀ s', I (i + 1) l s' → ∃ v, k s' = some v ∧ Q v) → ∃ v, step i x s k = some v ∧ Q v) : ∀ (l : List α) (i : Int) (s : σ), I i l s → ∃ v, goI step fin i l s = some v ∧ Q v
  | [], i, s, h => hfin i s h
  | x :: l, i, s, h => hstep i x l s _ h fun s' h' => goI_ex hfin hstep l (i + 1) s' h'
theorem loopI_ex {step : Int → α → σ → (σ → Option β) → Option β} {fin : σ → Option β} (I : Int → List α → σ → Prop) {Q : β → Prop} {l : List α} {s : σ} (hl : (l.length : Int) ≤ 9223372036854775807) (h0 : I 0 l s) (hfin : ∀ i s, I i [] s → ∃ v, fin s = some v ∧ Q v)
    (hstep : ∀ i x l s k, I i (x :: l) s → (∀ s', I (i + 1) l s' → ∃ v, k s' = some v ∧ Q v) → ∃ v, step i x s k = some v ∧ Q v) : ∃ v, loopI l step fin s = some v ∧ Q v := by
  rw [loopI_eq hl]; exact goI_ex hfin hstep l 0 s h0
end
/-- what is wrong with a table: of those behind some -/
def tabG : List T_Rule → List T_Rule → Int
  | _, [] => 0
  | p, x :: l => if x.chk ≠ 0 then x.chk else if (p.any fun y => decide (y.Prio = x.Prio) && decide (y.Cube = x.Cube)) = true then 7 else tabG (p ++ [x]) l
def tabF (t : List T_Rule) : Int := if 12 < (t.length : Int) then 4 else tabG [] t
theorem goI_tab {t : List T_Rule} {step : Int → T_Rule → Unit → (Unit → Option Int) → Option Int} {fin : Unit → Option Int} (hf : fin () = some 0) (ht : ¬ 12 < (t.length : Int))
    (h : ∀ (p l : List T_Rule) x k, t = p ++ x :: l → step (p.length : Int) x () k = if x.chk ≠ 0 then some x.chk else if (p.any fun y => decide (y.Prio = x.Prio) && decide (y.Cube = x.Cube)) = true then some 7 else k ()) :
    ∀ (l p : List T_Rule), t = p ++ l → goI step fin (p.length : Int) l () = some (tabG p l)
  | [], p, _ => hf
  | x :: l, p, e => by
    rw [goI, h p l x _ e, tabG]
    have e2 := goI_tab hf ht h l (p ++ [x]) (by rw [e]; simp)
    have e3 : (((p ++ [x]).length : Nat) : Int) = (p.length : Int) + 1 := by simp
    rw [e3] at e2
    rw [e2]
    split
    · rfl
    · split <;> rfl
theorem take_pre {p l : List T_Rule} : (p ++ l).take p.length = p := by simp
theorem s_rule_Table (t : List T_Rule) : t_rule_Table t = some (tabF t) := by
  have hM : maxI = 9223372036854775807 := rfl
  unfold t_rule_Table tabF
  by_cases h : 12 < (t.length : Int)
  · rw [if_pos (decide_eq_true h), if_pos h]
  rw [if_neg (by simpa using h), if_neg h]
  simp only [join_eq]
  rw [loopI_eq (by omega)]
  refine goI_tab (t := t) rfl h (fun p l x k e => ?_) t [] rfl
  rw [s_rule_Check, Option.bind_some]
  have hp : p.length ≤ t.length := by rw [e]; simp
  have hs : slc_hi t (p.length : Int) = some p := by
    unfold slc_hi
    rw [if_pos ⟨by omega, by omega⟩]
    have : ((p.length : Int)).toNat = p.length := rfl
    rw [this, e, take_pre]
  rw [hs, Option.bind_some]
  have hc : t_slices_ContainsFunc_api_Table_api_Rule p (fun a33 => t_rule_Table_1 a33 x) = some (p.any fun y => decide (y.Prio = x.Prio) && decide (y.Cube = x.Cube)) := by
    unfold t_slices_ContainsFunc_api_Table_api_Rule
    have : ∃ j, t_slices_IndexFunc_api_Table_api_Rule p (fun a33 => t_rule_Table_1 a33 x) = some j ∧ decide (0 ≤ j) = p.any fun y => decide (y.Prio = x.Prio) && decide (y.Cube = x.Cube) := by
      unfold t_slices_IndexFunc_api_Table_api_Rule
      simp only [join_eq]
      refine loopI_ex (fun i l _ => 0 ≤ i ∧ (p.any fun y => decide (y.Prio = x.Prio) && decide (y.Cube = x.Cube)) = l.any fun y => decide (y.Prio = x.Prio) && decide (y.Cube = x.Cube)) (by omega) ⟨Int.le_refl _, rfl⟩ (fun i s hI => ⟨-1, rfl, by rw [hI.2]; rfl⟩) (fun i y l s k hI hk => ?_)
      simp only [t_rule_Table_1, t_rule_Key, Option.bind_some]
      obtain ⟨i0, i1⟩ := hI
      rw [List.any_cons] at i1
      cases hb : (decide (y.Prio = x.Prio) && decide (y.Cube = x.Cube)) with
      | true => exact ⟨i, rfl, by rw [i1, hb]; simpa using i0⟩
      | false =>
        rw [if_neg (by decide)]
        exact hk () ⟨by omega, by rw [i1, hb]; rfl⟩
    obtain ⟨j, e1, e2⟩ := this
    rw [e1, Option.bind_some, e2]
  rw [hc, Option.bind_some]
  by_cases hx : x.chk = 0 <;> simp [hx]

theorem s_cubeCheckV (c : T_Cube) : t_cube_Check c = some (Go.Proofs.YtgfleiknigjnbaaDoor.cchk c.Mask c.Bits) := by
  unfold t_cube_Check Go.Proofs.YtgfleiknigjnbaaDoor.cchk t_cube_Header
  by_cases h1 : 0 ≤ c.Mask ∧ c.Mask < 16
  · by_cases h2 : 0 ≤ c.Bits ∧ c.Bits < 16
    · by_cases h3 : bits .andNot .i64 c.Bits c.Mask = 0 <;> simp [h1, h2, h3, gd_true]
    · have : ¬ (0 ≤ c.Bits) ∨ ¬ (c.Bits < 16) := by omega
      rcases this with h | h <;> simp [h1, h2, h, gd_true]
  · have : ¬ (0 ≤ c.Mask) ∨ ¬ (c.Mask < 16) := by omega
    rcases this with h | h <;> simp [h1, h, gd_false]
theorem s_ruleCheckV (r : T_Rule) : t_rule_Check r = some (rlOf r).chk := by
  unfold t_rule_Check Rl.chk Go.Proofs.YtgfleiknigjnbaaDoor.rchk t_cube_Header
  rw [s_cubeCheckV]
  show _ = some (if 0 ≤ r.Prio ∧ r.Prio ≤ 99 ∧ 0 ≤ r.Out ∧ r.Out ≤ 4 ∧ (0 ≤ r.Set ∧ r.Set < 16) ∧ (0 ≤ r.Value ∧ r.Value < 16) then (if Go.Proofs.YtgfleiknigjnbaaDoor.cchk r.Cube.Mask r.Cube.Bits = 0 then (if bits .andNot .i64 r.Value r.Set = 0 ∧ ¬ (r.Out = 0 ∧ r.Set ≠ 0) then 0 else 3) else Go.Proofs.YtgfleiknigjnbaaDoor.cchk r.Cube.Mask r.Cube.Bits) else 1)
  have hR1 : (0 ≤ r.Prio ∧ r.Prio ≤ 99 ∧ 0 ≤ r.Out ∧ r.Out ≤ 4 ∧ (0 ≤ r.Set ∧ r.Set < 16) ∧ (0 ≤ r.Value ∧ r.Value < 16)) → (if 0 ≤ r.Prio ∧ r.Prio ≤ 99 ∧ 0 ≤ r.Out ∧ r.Out ≤ 4 ∧ (0 ≤ r.Set ∧ r.Set < 16) ∧ (0 ≤ r.Value ∧ r.Value < 16) then (if Go.Proofs.YtgfleiknigjnbaaDoor.cchk r.Cube.Mask r.Cube.Bits = 0 then (if bits .andNot .i64 r.Value r.Set = 0 ∧ ¬ (r.Out = 0 ∧ r.Set ≠ 0) then 0 else 3) else Go.Proofs.YtgfleiknigjnbaaDoor.cchk r.Cube.Mask r.Cube.Bits) else 1) = (if Go.Proofs.YtgfleiknigjnbaaDoor.cchk r.Cube.Mask r.Cube.Bits = 0 then (if bits .andNot .i64 r.Value r.Set = 0 ∧ ¬ (r.Out = 0 ∧ r.Set ≠ 0) then 0 else 3) else Go.Proofs.YtgfleiknigjnbaaDoor.cchk r.Cube.Mask r.Cube.Bits) := fun h => if_pos h
  have hR0 : ¬ (0 ≤ r.Prio ∧ r.Prio ≤ 99 ∧ 0 ≤ r.Out ∧ r.Out ≤ 4 ∧ (0 ≤ r.Set ∧ r.Set < 16) ∧ (0 ≤ r.Value ∧ r.Value < 16)) → (if 0 ≤ r.Prio ∧ r.Prio ≤ 99 ∧ 0 ≤ r.Out ∧ r.Out ≤ 4 ∧ (0 ≤ r.Set ∧ r.Set < 16) ∧ (0 ≤ r.Value ∧ r.Value < 16) then (if Go.Proofs.YtgfleiknigjnbaaDoor.cchk r.Cube.Mask r.Cube.Bits = 0 then (if bits .andNot .i64 r.Value r.Set = 0 ∧ ¬ (r.Out = 0 ∧ r.Set ≠ 0) then 0 else 3) else Go.Proofs.YtgfleiknigjnbaaDoor.cchk r.Cube.Mask r.Cube.Bits) else 1) = 1 := fun h => if_neg h
  generalize (if 0 ≤ r.Prio ∧ r.Prio ≤ 99 ∧ 0 ≤ r.Out ∧ r.Out ≤ 4 ∧ (0 ≤ r.Set ∧ r.Set < 16) ∧ (0 ≤ r.Value ∧ r.Value < 16) then (if Go.Proofs.YtgfleiknigjnbaaDoor.cchk r.Cube.Mask r.Cube.Bits = 0 then (if bits .andNot .i64 r.Value r.Set = 0 ∧ ¬ (r.Out = 0 ∧ r.Set ≠ 0) then 0 else 3) else Go.Proofs.YtgfleiknigjnbaaDoor.cchk r.Cube.Mask r.Cube.Bits) else 1) = R at hR1 hR0
  cases hA : (((decide (r.Prio < 0) || decide (99 < r.Prio)) || decide (r.Out < 0)) || decide (4 < r.Out)) with
  | true =>
    rw [hR0 (by simp only [Bool.or_eq_true, decide_eq_true_eq] at hA; omega)]
    simp [gd]
  | false =>
    simp only [Bool.or_eq_false_iff, decide_eq_false_iff_not, Int.not_lt] at hA
    by_cases h1 : 0 ≤ r.Set ∧ r.Set < 16
    · by_cases h2 : 0 ≤ r.Value ∧ r.Value < 16
      · rw [hR1 ⟨hA.1.1.1, hA.1.1.2, hA.1.2, hA.2, h1, h2⟩]
        have e1 : (decide (0 ≤ r.Set) && decide (r.Set < 16)) = true := by simp [h1]
        have e2 : (decide (0 ≤ r.Value) && decide (r.Value < 16)) = true := by simp [h2]
        simp only [Bool.not_false, gd_true, e1, e2, Option.bind_some, Bool.not_true, Bool.or_self, Bool.false_eq_true, if_false]
        by_cases h3 : Go.Proofs.YtgfleiknigjnbaaDoor.cchk r.Cube.Mask r.Cube.Bits = 0
        · rw [if_neg (by simpa using h3), if_pos h3]
          generalize bits .andNot .i64 r.Value r.Set = B
          by_cases h4 : B = 0 <;> by_cases h5 : r.Out = 0 <;> by_cases h6 : r.Set = 0 <;> simp [h4, h5, h6]
        · rw [if_pos (by simpa using h3), if_neg h3]
      · rw [hR0 (by omega)]
        have e1 : (decide (0 ≤ r.Set) && decide (r.Set < 16)) = true := by simp [h1]
        have e2 : (decide (0 ≤ r.Value) && decide (r.Value < 16)) = false := by simp; omega
        simp only [Bool.not_false, gd_true, e1, e2, Option.bind_some, Bool.not_true, Bool.or_self, Bool.false_eq_true, if_false, Bool.or_true, if_true]
    · rw [hR0 (by omega)]
      have e1 : (decide (0 ≤ r.Set) && decide (r.Set < 16)) = false := by simp; omega
      simp [gd, e1]
theorem s_cfV (x : T_Rule) (l : List T_Rule) (hl : (l.length : Int) ≤ maxI) : t_slices_ContainsFunc_api_Table_api_Rule l (fun a33 => t_rule_Table_1 a33 x) = some (l.any fun y => (rlOf y).key (rlOf x)) := by
  unfold t_slices_ContainsFunc_api_Table_api_Rule t_slices_IndexFunc_api_Table_api_Rule
  rw [join_eq, loopI_eq hl]
  have hk : ∀ y : T_Rule, t_rule_Table_1 y x = some ((rlOf y).key (rlOf x)) := fun y => by
    unfold t_rule_Table_1 t_rule_Key
    simp only [Option.bind_some, Option.some.injEq]
    show (decide (y.Prio = x.Prio) && decide (y.Cube = x.Cube)) = decide (y.Prio = x.Prio ∧ y.Cube.Mask = x.Cube.Mask ∧ y.Cube.Bits = x.Cube.Bits)
    rw [Bool.eq_iff_iff]
    simp [T_Cube.ext_iff2]
  have : ∀ (l : List T_Rule) (i : Int), 0 ≤ i → ∃ j, goI (fun (i13 : Int) x14 (s9 : Unit) k10 => (t_rule_Table_1 x14 x).bind fun r22 => if r22 = true then (some i13) else (k10 ())) (fun _ => some (-1 : Int)) i l () = some j ∧ (decide (0 ≤ j)) = l.any fun y => (rlOf y).key (rlOf x) := by
    intro l
    induction l with
    | nil => intro i _; exact ⟨-1, rfl, rfl⟩
    | cons y l ih =>
      intro i hi
      rw [goI, hk, Option.bind_some]
      cases h : (rlOf y).key (rlOf x) with
      | true => exact ⟨i, if_pos rfl, by simp [h, hi]⟩
      | false =>
        obtain ⟨j, h1, h2⟩ := ih (i + 1) (by omega)
        refine ⟨j, ?_, by rw [h2]; simp [h]⟩
        rw [if_neg (by simp)]; exact h1
  obtain ⟨j, h1, h2⟩ := this l 0 (Int.le_refl _)
  rw [h1, Option.bind_some, h2]
theorem s_rTableV (t : List T_Rule) : t_rule_Table t = some (tchk (t.map rlOf)) := by
  have hM : maxI = 9223372036854775807 := rfl
  unfold t_rule_Table tchk
  rw [List.length_map]
  by_cases h1 : t.length > 12
  · rw [if_pos (by simp; omega), if_pos h1]
  · rw [if_neg (by simp; omega), if_neg h1, join_eq, loopI_eq (by omega)]
    have : ∀ (l p : List T_Rule), t = p ++ l → goI (fun (i17 : Int) x18 (s13 : Unit) k14 =>
        (t_rule_Check x18).bind fun r28 =>
        if (!decide (r28 = 0)) = true then (some r28) else (
        (slc_hi t i17).bind fun r32 =>
        (t_slices_ContainsFunc_api_Table_api_Rule r32 (fun (a33 : T_Rule) => t_rule_Table_1 a33 x18)).bind fun r35 =>
        if r35 = true then (some 7) else (k14 ()))) (fun (s13 : Unit) => some 0) (p.length : Int) l () = some (tfaultFrom (p.map rlOf) (l.map rlOf)) := by
      intro l
      induction l with
      | nil => intro p _; rfl
      | cons x l ih =>
        intro p hp
        have hpl : p.length ≤ t.length := by rw [hp]; simp
        rw [goI, s_ruleCheckV, Option.bind_some, List.map_cons, tfaultFrom]
        by_cases h2 : (rlOf x).chk = 0
        · have hs : slc_hi t (p.length : Int) = some p := by
            unfold slc_hi
            rw [if_pos ⟨by omega, by omega⟩, Int.toNat_natCast, hp]; simp
          rw [if_neg (by simpa using h2), if_neg (by simpa using h2), hs, Option.bind_some, s_cfV x p (by omega), Option.bind_some]
          have ha : (p.any fun y => (rlOf y).key (rlOf x)) = ((p.map rlOf).any fun y => y.key (rlOf x)) := by rw [List.any_map]; rfl
          rw [ha]
          cases hk : (p.map rlOf).any fun y => y.key (rlOf x) with
          | true => rfl
          | false =>
            rw [if_neg (by simp), if_neg (by simp)]
            have := ih (p ++ [x]) (by rw [hp]; simp)
            simp only [List.length_append, List.length_singleton, List.map_append, List.map_cons, List.map_nil] at this
            have e : (p.length : Int) + 1 = ((p.length + 1 : Nat) : Int) := by omega
            rw [e]; exact this
        · rw [if_pos (by simpa using h2), if_pos h2]
    exact this t [] rfl
/-- a change that is right makes a table that is right -/
theorem do_tok {t : List T_Rule} {add : Bool} {r : T_Rule} (h : doF t add r = 0) : Tok (t.map rlOf) ∧ Tok ((doV t add r).map rlOf) := by
  have h' : tdoF (t.map rlOf) add (rlOf r) = 0 := h
  have ht : Tok (t.map rlOf) := by
    refine tchk_iff.1 ?_
    by_cases h0 : tchk (t.map rlOf) = 0
    · exact h0
    · unfold tdoF at h'
      rw [if_pos h0] at h'
      exact h'
  have hv : (doV t add r).map rlOf = tdoR (t.map rlOf) add (rlOf r) := by
    unfold doV
    rw [tdoV_ok h', List.map_map]; exact List.map_id _
  refine ⟨ht, ?_⟩
  rw [hv]
  cases add with
  | true =>
    have := tdo_add_tok h'
    unfold tdoR
    rw [if_pos rfl]; exact this
  | false =>
    unfold tdoR
    rw [if_neg (by simp)]
    exact ht.sub (List.eraseIdx_sublist _ _)
theorem chk_eq (r : T_Rule) : T_Rule.chk r = (rlOf r).chk := by
  have h := s_rule_Check r
  rw [s_ruleCheckV] at h
  exact (Option.some.inj h).symm
theorem map_ofRl (t : List T_Rule) : (t.map rlOf).map ofRl = t := by rw [List.map_map]; exact List.map_id _
theorem rkey_iff (x r : T_Rule) : (decide (x.Prio = r.Prio) && decide (x.Cube = r.Cube)) = (rlOf x).key (rlOf r) := by
  show _ = decide (x.Prio = r.Prio ∧ x.Cube.Mask = r.Cube.Mask ∧ x.Cube.Bits = r.Cube.Bits)
  rw [Bool.eq_iff_iff]
  simp [T_Cube.ext_iff2]
/-- where a rule lies, and whether its key is there -/
theorem rDo_go (t : List T_Rule) (r : T_Rule) {fin : Int × Bool → Option (Int × Bool)} (hf : ∀ s, fin s = some s) : ∀ (l p : List T_Rule) (a : Int) (h : Bool), t = p ++ l → h = (p.any fun x => (rlOf x).key (rlOf r)) → ((a = -1 ∧ r ∉ p) ∨ ∃ k : Nat, a = k ∧ t[k]? = some r) →
    ∃ a', goI (fun (i35 : Int) x36 (s31 : (Int × Bool)) k32 =>
     (if ((decide (x36.Prio = r.Prio)) && (decide (x36.Cube = r.Cube))) = true then (
     (if (decide (x36 = r)) = true then (some i35) else (some (s31.1))).bind fun (s82 : Int) => some (s82, true)) else (
     some (s31.1, s31.2))).bind fun (s71 : (Int × Bool)) =>
     k32 (s71.1, s71.2)) fin (p.length : Int) l (a, h) = some (a', t.any fun x => (rlOf x).key (rlOf r)) ∧ ((a' = -1 ∧ r ∉ t) ∨ ∃ k : Nat, a' = k ∧ t[k]? = some r)
  | [], p, a, h, ht, hh, ha => by
    rw [List.append_nil] at ht
    subst ht
    exact ⟨a, by rw [goI, hf, hh], ha⟩
  | x :: l, p, a, h, ht, hh, ha => by
    have hx : t[p.length]? = some x := by rw [ht]; simp
    have e : (p.length : Int) + 1 = (((p ++ [x]).length : Nat) : Int) := by simp
    rw [goI, rkey_iff]
    cases hk : (rlOf x).key (rlOf r) with
    | true =>
      rw [if_pos rfl]
      by_cases hxr : x = r
      · subst hxr
        rw [if_pos (by simp)]
        simp only [Option.bind_some]
        rw [e]
        exact rDo_go t x hf l (p ++ [x]) p.length true (by rw [ht]; simp) (by simp [hk]) (.inr ⟨p.length, rfl, hx⟩)
      · rw [if_neg (by simpa using hxr)]
        simp only [Option.bind_some]
        rw [e]
        refine rDo_go t r hf l (p ++ [x]) a true (by rw [ht]; simp) (by simp [hk]) ?_
        rcases ha with ⟨h1, h2⟩ | h1
        · exact .inl ⟨h1, by simp [h2, Ne.symm hxr]⟩
        · exact .inr h1
    | false =>
      rw [if_neg (by simp)]
      simp only [Option.bind_some]
      rw [e]
      refine rDo_go t r hf l (p ++ [x]) a h (by rw [ht]; simp) (by simp [hk, hh]) ?_
      rcases ha with ⟨h1, h2⟩ | h1
      · refine .inl ⟨h1, ?_⟩
        have : r ≠ x := fun e => by subst e; rw [key_self] at hk; cases hk
        simp [h2, this]
      · exact .inr h1
theorem erase_at : ∀ {l : List Rl} {k : Nat} {x : Rl}, l.Nodup → l[k]? = some x → l.erase x = l.eraseIdx k
  | [], k, x, _, h => by simp at h
  | y :: l, 0, x, _, h => by
    simp at h
    subst h
    simp
  | y :: l, k + 1, x, hn, h => by
    have hx : x ∈ l := List.mem_of_getElem? (by simpa using h)
    have hne : y ≠ x := fun e => (List.nodup_cons.1 hn).1 (e ▸ hx)
    rw [List.erase_cons_tail (by simpa using hne), List.eraseIdx_cons_succ, erase_at (List.nodup_cons.1 hn).2 (by simpa using h)]
theorem s_rDo {t : List T_Rule} (ht : Tok (t.map rlOf)) (add : Bool) {r : T_Rule} (hr : (rlOf r).chk = 0) : t_railref1_Do t add r = some (doV t add r, doF t add r) := by
  have hM : maxI = 9223372036854775807 := rfl
  have hl := ht.len
  rw [List.length_map] at hl
  obtain ⟨a, h1, h2⟩ := rDo_go t r (fin := fun s => some (s.1, s.2)) (fun s => rfl) t [] (-1) false rfl rfl (.inl ⟨rfl, by simp⟩)
  have hmem : rlOf r ∈ t.map rlOf ↔ r ∈ t := by
    constructor
    · intro h
      obtain ⟨x, hx, e⟩ := List.mem_map.1 h
      have : x = r := by have := congrArg ofRl e; exact this
      exact this ▸ hx
    · exact fun h => List.mem_map_of_mem h
  have hF : doF t add r = if add = true then (if (t.any fun x => (rlOf x).key (rlOf r)) = true then 7 else if 12 ≤ t.length then 4 else 0) else if r ∈ t then 0 else 5 := by
    unfold doF tdoF
    rw [if_neg (by simpa using tchk_iff.2 ht), if_neg (by simpa using hr), any_mem, List.any_map, List.length_map]
    simp only [decide_eq_true_eq, hmem]
    rfl
  unfold t_railref1_Do
  rw [loopI_eq (by omega)]
  refine (congrArg (fun X : Option (Int × Bool) => X.bind _) h1).trans ?_
  rw [Option.bind_some]
  cases add with
  | true =>
    rw [if_pos rfl] at hF
    rw [if_pos rfl]
    cases hk : t.any fun x => (rlOf x).key (rlOf r) with
    | true =>
      rw [hk, if_pos rfl] at hF
      have hv : doV t true r = [] := by unfold doV; rw [tdoV_bad hF (by decide)]; rfl
      rw [if_pos rfl, hv, hF]
    | false =>
      rw [hk, if_neg (by simp)] at hF
      rw [if_neg (by simp)]
      by_cases h12 : 12 ≤ t.length
      · rw [if_pos h12] at hF
        have hv : doV t true r = [] := by unfold doV; rw [tdoV_bad hF (by decide)]; rfl
        rw [if_pos (by simp; omega), hv, hF]
      · rw [if_neg h12] at hF
        have hv : doV t true r = t ++ [r] := by
          unfold doV
          rw [tdoV_ok hF, (tdoF_add (tdo_add_tok hF)).2, List.map_append, map_ofRl]; rfl
        rw [if_neg (by simp; omega), app_eq (by simp; omega), Option.bind_some, List.nil_append, app_eq (by simp; omega), Option.bind_some, hv, hF]
  | false =>
    rw [if_neg (by simp)] at hF
    rw [if_neg (by simp)]
    rcases h2 with ⟨rfl, hn⟩ | ⟨k, rfl, hk⟩
    · rw [if_neg hn] at hF
      have hv : doV t false r = [] := by unfold doV; rw [tdoV_bad hF (by decide)]; rfl
      rw [if_pos (by simp), hv, hF]
    · have hr0 : r ∈ t := List.mem_of_getElem? hk
      rw [if_pos hr0] at hF
      have hkl : k < t.length := (List.getElem?_eq_some_iff.1 hk).1
      have hv : doV t false r = t.eraseIdx k := by
        have e1 : (t.map rlOf).erase (rlOf r) = (t.map rlOf).eraseIdx k := erase_at ht.nodup (by rw [List.getElem?_map, hk]; rfl)
        unfold doV
        rw [tdoV_ok hF, (tdoF_del ht (hmem.2 hr0)).2, e1, List.eraseIdx_eq_take_drop_succ, List.map_append, ← List.map_take, ← List.map_drop, map_ofRl, map_ofRl, ← List.eraseIdx_eq_take_drop_succ]
      have s1 : slc_hi t (k : Int) = some (t.take k) := by
        unfold slc_hi; rw [if_pos ⟨by omega, by omega⟩, Int.toNat_natCast]
      have s2 : slc_lo t ((k : Int) + 1) = some (t.drop (k + 1)) := by
        unfold slc_lo
        rw [if_pos ⟨by omega, by omega⟩]
        congr 2
      rw [if_neg (by simp), s1, Option.bind_some, app_eq (by simp; omega), Option.bind_some, wr_id (by omega) (by omega), s2, Option.bind_some, app_eq (by simp; omega), Option.bind_some, hv, hF, List.nil_append, ← List.eraseIdx_eq_take_drop_succ]

section
variable {α β σ K : Type}
theorem goI_inv {step : Int → α → σ → (σ → Option β) → Option β} {fin : σ → Option β} (I : Nat → σ → Prop) (R : Option β → Prop) (hfin : ∀ p s, I p s → R (fin s)) (h : ∀ p x s k, I p s → (∀ s', I (p + 1) s' → R (k s')) → R (step (p : Int) x s k)) : ∀ (l : List α) (p : Nat) (s : σ), I p s → R (goI step fin (p : Int) l s)
  | [], p, s, hI => hfin p s hI
  | x :: l, p, s, hI => h p x s _ hI fun s' hs' => goI_inv I R hfin h l (p + 1) s' hs'
theorem loopI_at {l : List α} {step : Int → α → σ → (σ → Option β) → Option β} {fin : σ → Option β} {s : σ} (S : Nat → σ) (h0 : s = S 0) (hl : (l.length : Int) ≤ maxI) (h : ∀ (p : Nat) x k, l[p]? = some x → step (p : Int) x (S p) k = k (S (p + 1))) : loopI l step fin s = fin (S l.length) := by
  rw [loopI_eq hl]
  have : ∀ (m : List α) (p : Nat), l.drop p = m → p ≤ l.length → goI step fin (p : Int) m (S p) = fin (S l.length) := by
    intro m
    induction m with
    | nil =>
      intro p hp hpl
      have : p = l.length := by have := List.drop_eq_nil_iff.1 hp; omega
      rw [goI, this]
    | cons x m ih =>
      intro p hp hpl
      have hx : l[p]? = some x := by rw [← List.head?_drop, hp]; rfl
      have hlt := (List.getElem?_eq_some_iff.1 hx).1
      rw [goI, h p x _ hx]
      have e : (p : Int) + 1 = ((p + 1 : Nat) : Int) := by omega
      rw [e]
      exact ih (p + 1) (by rw [← List.tail_drop, hp]; rfl) (by omega)
  rw [h0]
  exact this l 0 rfl (Nat.zero_le _)
theorem goU_at {step : Int → σ → (σ → Option β) → Option β} {fin : Int → σ → Option β} (S : Nat → σ) {hi : Nat} (h : ∀ (p : Nat) k, p < hi → step (p : Int) (S p) k = k (S (p + 1))) : ∀ (c p : Nat), p + c = hi → goU step fin c (p : Int) (S p) = fin (hi : Int) (S hi)
  | 0, p, e => by obtain rfl : p = hi := (by omega); rfl
  | c + 1, p, e => by
    rw [goU, h p _ (by omega)]
    have e2 : (p : Int) + 1 = ((p + 1 : Nat) : Int) := by omega
    rw [e2]
    exact goU_at S h c (p + 1) (by omega)
theorem loopU_at {hi : Nat} {step : Int → σ → (σ → Option β) → Option β} {fin : Int → σ → Option β} {s : σ} (S : Nat → σ) (h0 : s = S 0) (hl : (hi : Int) ≤ maxI) (h : ∀ (p : Nat) k, p < hi → step (p : Int) (S p) k = k (S (p + 1))) : loopU 0 (hi : Int) step fin s = fin (hi : Int) (S hi) := by
  rw [loopU_eq (Int.le_refl 0) hl, h0, Int.sub_zero, Int.toNat_natCast]
  exact goU_at S h hi 0 (by omega)
theorem goU_first {l : List α} {p : α → Bool} {step : Int → Unit → (Unit → Option Int) → Option Int} {f : Option Int} (h : ∀ (j : Nat) x k, l[j]? = some x → step (j : Int) () k = if p x = true then some (j : Int) else k ()) : ∀ (m i : Nat), i + m = l.length → goU step (fun _ _ => f) m (i : Int) () = match (l.drop i).findIdx? p with
    | some q => some ((i + q : Nat) : Int)
    | none => f
  | 0, i, hm => by rw [List.drop_eq_nil_iff.2 (by omega)]; rfl
  | m + 1, i, hm => by
    have hi : i < l.length := by omega
    rw [goU, h i l[i] _ (List.getElem?_eq_getElem hi), List.drop_eq_getElem_cons hi, List.findIdx?_cons]
    cases hp : p l[i] with
    | true => rfl
    | false =>
      have e : (i : Int) + 1 = ((i + 1 : Nat) : Int) := by omega
      rw [if_neg (by simp), if_neg (by simp), e, goU_first h m (i + 1) (by omega)]
      cases (l.drop (i + 1)).findIdx? p with
      | none => rfl
      | some q => simp only [Option.map_some]; congr 2; omega
variable [DecidableEq K]
theorem mhas_cons (b : K) (u : α) (r : List (K × α)) (a : K) : mhas ((b, u) :: r) a = (decide (a = b) || mhas r a) := by
  unfold mhas
  simp only [mfind]
  by_cases h : a = b
  · simp [h]
  · rw [if_neg h, mfind_off r a (0 + 1)]
    cases mfind r a 0 <;> simp [h]
theorem mput_new {l : List (K × α)} {a : K} (v : α) (h : mhas l a = false) : mput l a v = l ++ [(a, v)] := by
  unfold mhas at h
  unfold mput
  cases hm : mfind l a 0 with
  | none => rfl
  | some p => rw [hm] at h; cases h
end

/-! what the document's agent keeps, as the program's -/
def opsOf (L : List T_railref2_Kept) (i : Int) : List (Int × T_Op) := (L.filter fun k => decide (k.Round = i)).map fun k => (k.Index, k.Op)
def isK (r k : Int) (x : T_railref2_Kept) : Bool := decide (x.Round = r) && decide (x.Index = k)
theorem ops_cons (x : T_railref2_Kept) (L : List T_railref2_Kept) (r : Int) : opsOf (x :: L) r = if x.Round = r then (x.Index, x.Op) :: opsOf L r else opsOf L r := by
  unfold opsOf
  by_cases h : x.Round = r <;> simp [h]
theorem ops_snoc (L : List T_railref2_Kept) (x : T_railref2_Kept) (r : Int) : opsOf (L ++ [x]) r = if x.Round = r then opsOf L r ++ [(x.Index, x.Op)] else opsOf L r := by
  unfold opsOf
  by_cases h : x.Round = r <;> simp [h]
theorem mhas_ops (r k : Int) : ∀ L, mhas (opsOf L r) k = L.any (isK r k)
  | [] => rfl
  | x :: L => by
    rw [ops_cons, List.any_cons, ← mhas_ops r k L]
    unfold isK
    by_cases h : x.Round = r
    · rw [if_pos h, mhas_cons]; simp [h, eq_comm]
    · rw [if_neg h]; simp [h]
theorem find_go (r k : Int) : ∀ (l : List T_railref2_Kept) (i : Int), ∃ f, goI (fun (i12 : Int) (x13 : T_railref2_Kept) (s8 : Unit) k9 => if ((decide (x13.Round = r)) && (decide (x13.Index = k))) = true then (some i12) else (k9 ())) (fun (s8 : Unit) => some (-1 : Int)) i l () = some f ∧
    ((f = -1 ∧ l.any (isK r k) = false) ∨ ∃ (j : Nat) (x : T_railref2_Kept), f = i + j ∧ l[j]? = some x ∧ l.any (isK r k) = true ∧ ∀ d, mget (opsOf l r) k d = x.Op)
  | [], i => ⟨-1, rfl, .inl ⟨rfl, rfl⟩⟩
  | x :: l, i => by
    rw [goI, List.any_cons, ops_cons]
    cases h : isK r k x with
    | true =>
      have h' : (decide (x.Round = r) && decide (x.Index = k)) = true := h
      rw [if_pos h']
      refine ⟨i, rfl, .inr ⟨0, x, by omega, rfl, rfl, fun d => ?_⟩⟩
      simp only [Bool.and_eq_true, decide_eq_true_eq] at h'
      rw [if_pos h'.1, mget_cons, if_pos h'.2.symm]
    | false =>
      have h' : (decide (x.Round = r) && decide (x.Index = k)) = false := h
      rw [if_neg (by simp [h'])]
      obtain ⟨f, h1, h2⟩ := find_go r k l (i + 1)
      refine ⟨f, h1, ?_⟩
      rcases h2 with ⟨h2, h3⟩ | ⟨j, y, h2, h3, h4, h5⟩
      · exact .inl ⟨h2, by simpa using h3⟩
      · refine .inr ⟨j + 1, y, by omega, by simpa using h3, by simpa using h4, fun d => ?_⟩
        by_cases hr : x.Round = r
        · rw [if_pos hr, mget_cons, if_neg (by rintro rfl; simp [hr] at h')]
          exact h5 d
        · rw [if_neg hr]; exact h5 d
theorem s_Find (m : T_railref2_Agent) (hl : m.L.length ≤ 1000000) (r k : Int) : ∃ f, t_railref2_Agent_Find m r k = some f ∧ ((f = -1 ∧ mhas (opsOf m.L r) k = false) ∨ ∃ (j : Nat) (x : T_railref2_Kept), f = j ∧ m.L[j]? = some x ∧ mhas (opsOf m.L r) k = true ∧ ∀ d, mget (opsOf m.L r) k d = x.Op) := by
  unfold t_railref2_Agent_Find
  rw [join_eq, loopI_eq (by unfold maxI; omega), mhas_ops]
  obtain ⟨f, h1, h2⟩ := find_go r k m.L 0
  refine ⟨f, h1, ?_⟩
  rcases h2 with h2 | ⟨j, x, h2, h3⟩
  · exact .inl h2
  · exact .inr ⟨j, x, by omega, h3⟩
theorem s_rIn (l : List Int) (x : Int) (h : l.length ≤ 1000000) : t_railref2_In l x = some (decide (x ∈ l)) := by
  unfold t_railref2_In
  simp only [join_eq]
  rw [loopI_any (p := fun y => decide (y = x)) (r := true) (by unfold maxI; omega) (fun y i k => rfl), any_is]
  by_cases h : x ∈ l <;> simp [h]
def rdOf (m : T_railref2_Agent) (j : Nat) : T_agent_round := ⟨opsOf m.L j, m.Many.getD j (-1), decide ((j : Int) ∈ m.Done)⟩
def agOf (m : T_railref2_Agent) : T_agent_Agent := ⟨m.Number, m.Table, (List.range 20).map (rdOf m), m.Done⟩
structure MInv (p : Nat) (m : T_railref2_Agent) : Prop where
  many : m.Many.length = 20
  le : ∀ x ∈ m.Many, x ≤ 200
  L : m.L.length ≤ p
  done : m.Done.length ≤ p
  tab : Tok (m.Table.map rlOf)
  ops : ∀ x ∈ m.L, (0 ≤ x.Round ∧ x.Round < 20) ∧ (rlOf x.Op.Rule).chk = 0
section
variable {p : Nat} {m m' : T_railref2_Agent}
theorem MInv.up (h : MInv p m) : MInv (p + 1) m := ⟨h.many, h.le, Nat.le_succ_of_le h.L, Nat.le_succ_of_le h.done, h.tab, h.ops⟩
theorem ag_len : (agOf m).rounds.length = 20 := by simp [agOf]
theorem ag_nat {j : Nat} (h : j < 20) : (agOf m).rounds[j]? = some (rdOf m j) := by simp [agOf, h]
theorem ag_idx {j : Nat} (h : j < 20) : idx (agOf m).rounds (j : Int) = some (rdOf m j) := by rw [idx_nat, ag_nat h]
theorem ag_set {j : Nat} {r : T_agent_round} (hr : rdOf m' j = r) (ho : ∀ q, q < 20 → q ≠ j → rdOf m' q = rdOf m q) : (agOf m).rounds.set j r = (agOf m').rounds := by
  subst hr
  refine List.ext_getElem? fun q => ?_
  rw [List.getElem?_set]
  by_cases hq : q < 20
  · rw [ag_nat hq, ag_len]
    split
    · rename_i e; subst e; rw [if_pos hq, ag_nat hq]
    · rename_i e; rw [ag_nat hq, ho q hq (fun e2 => e e2.symm)]
  · rw [List.getElem?_eq_none (l := (agOf m').rounds) (by rw [ag_len]; omega), List.getElem?_eq_none (l := (agOf m).rounds) (by rw [ag_len]; omega)]
    split
    · rw [ag_len, if_neg (by omega)]
    · rfl
theorem many_at (h : MInv p m) {j : Nat} (hj : j < 20) : ∃ v, m.Many[j]? = some v ∧ v ≤ 200 ∧ m.Many.getD j (-1) = v := by
  have hlt : j < m.Many.length := by rw [h.many]; exact hj
  refine ⟨m.Many[j], List.getElem?_eq_getElem hlt, h.le _ (List.getElem_mem hlt), ?_⟩
  rw [List.getD_eq_getElem?_getD, List.getElem?_eq_getElem hlt]; rfl
theorem msg_facts {g : T_Msg} (h : g.chk = 0) : (1 ≤ g.Kind ∧ g.Kind ≤ 3) ∧ (0 ≤ g.Round ∧ g.Round < 20) ∧ (0 ≤ g.Index ∧ g.Index ≤ 200) ∧ (g.Kind = 1 → g.Op.Rule.chk = 0) := by
  unfold T_Msg.chk at h
  split at h
  · cases h
  · refine ⟨by omega, by omega, by omega, fun h1 => ?_⟩
    rw [if_neg (by simpa using h1)] at h
    split at h
    · assumption
    · rename_i h2; exact Classical.not_not.1 h2
theorem hear_both (hp : p ≤ 1000) (h : MInv p m) (g : T_Msg) : ∃ ms e m', t_railref2_Agent_Hear m g = some (ms, e, m') ∧ t_agent_Agent_Hear (agOf m) g = some (ms, e, agOf m') ∧ MInv (p + 1) m' ∧ ms.length ≤ 1 := by
  have hL := h.L
  have hD := h.done
  unfold t_railref2_Agent_Hear t_agent_Agent_Hear
  rw [decide_eq_true ag_len, need_t, s_rMsg, s_wire_Check, Option.bind_some, Option.bind_some, show (agOf m).number = m.Number from rfl]
  by_cases h1 : g.chk = 0
  rotate_left
  · rw [if_pos (by simpa using h1), if_pos (by simp [h1])]
    exact ⟨_, _, m, rfl, rfl, h.up, by simp⟩
  obtain ⟨hk, hr, hi, hop⟩ := msg_facts h1
  simp only [h1, ne_eq, not_true_eq_false, decide_false, Bool.false_eq_true, if_false, decide_true, Bool.not_true]
  by_cases h2 : g.Switch = m.Number
  rotate_left
  · simp only [h2, not_false_eq_true, decide_true, if_true]
    exact ⟨_, _, m, rfl, rfl, h.up, by simp⟩
  simp only [h2, not_true_eq_false, decide_false, Bool.false_eq_true, if_false]
  by_cases h3 : g.Kind = 3
  · simp only [h3, decide_true, if_true]
    exact ⟨_, _, m, rfl, rfl, h.up, by simp⟩
  simp only [h3, decide_false, Bool.false_eq_true, if_false]
  obtain ⟨j, hj⟩ := Int.eq_ofNat_of_zero_le hr.1
  have hj20 : j < 20 := by omega
  obtain ⟨v, hv1, hv2, hv3⟩ := many_at h hj20
  obtain ⟨f, hf1, hf2⟩ := s_Find m (by omega) g.Round g.Index
  have hset : (agOf m).setR g.Round = fun r => { agOf m with rounds := (agOf m).rounds.set j r } := by
    rw [hj]; rfl
  rw [s_rIn _ _ (by omega), Option.bind_some, hset, hf1, hj, ag_idx hj20, Option.bind_some]
  rw [hj] at hf2
  have e1 : (rdOf m j).done = decide ((j : Int) ∈ m.Done) := rfl
  have e2 : (rdOf m j).ops = opsOf m.L j := rfl
  have e3 : (rdOf m j).many = v := hv3
  rw [e1, e2, e3]
  by_cases h4 : g.Kind = 2
  · simp only [h4, decide_true, if_true, Bool.and_true]
    by_cases h5 : (j : Int) ∈ m.Done
    · simp only [h5, decide_true, if_true]
      exact ⟨_, _, m, rfl, rfl, h.up, by simp⟩
    · simp only [h5, decide_false, Bool.false_eq_true, if_false]
      have hb : (decide (0 ≤ (j : Int)) && decide ((j : Int) < (m.Many.length : Int))) = true := by rw [h.many]; simp; omega
      rw [need_pos hb, idx_nat, hv1, Option.bind_some]
      by_cases h6 : v < 0
      · have ho : oset m.Many (j : Int) g.Index = some (m.Many.set j g.Index) := by
          unfold oset; rw [if_pos ⟨by omega, by rw [h.many]; omega⟩, Int.toNat_natCast]
        rw [if_pos (by simpa using h6), if_pos (by simpa using h6), need_pos hb, ho, Option.bind_some, Option.bind_some]
        refine ⟨_, _, _, rfl, ?_, ⟨by simpa using h.many, fun x hx => ?_, Nat.le_succ_of_le h.L, Nat.le_succ_of_le h.done, h.tab, h.ops⟩, by simp⟩
        · rw [ag_set (m' := T_railref2_Agent.mk m.Number m.Table m.L (m.Many.set j g.Index) m.Done) ?_ fun q hq hne => ?_]
          · rfl
          · unfold rdOf
            simp only [List.getD_eq_getElem?_getD]
            rw [List.getElem?_set_self (by rw [h.many]; exact hj20)]
            simp [h5]
          · unfold rdOf
            simp only [List.getD_eq_getElem?_getD]
            rw [List.getElem?_set_ne (fun e => hne e.symm)]
        · rcases List.mem_or_eq_of_mem_set hx with hx | rfl
          · exact h.le x hx
          · exact hi.2
      · rw [if_neg (by simpa using h6), if_neg (by simpa using h6), Option.bind_some]
        exact ⟨_, _, m, rfl, rfl, h.up, by simp⟩
  · have h41 : g.Kind = 1 := by omega
    rw [if_neg (by simpa using h4)]
    simp only [h4, decide_false, Bool.and_false, Bool.false_eq_true, if_false]
    by_cases h5 : (j : Int) ∈ m.Done
    · simp only [h5, decide_true, if_true, Bool.not_true, gd_false, Option.bind_some, Bool.false_and, Bool.false_eq_true, if_false]
      exact ⟨_, _, m, rfl, rfl, h.up, by simp⟩
    · simp only [h5, decide_false, Bool.not_false, gd_true, Option.bind_some, Bool.true_and, Bool.false_eq_true, if_false]
      rcases hf2 with ⟨rfl, hf2⟩ | ⟨q, x, rfl, _, hf2, _⟩
      · have ho : oapp m.L ([T_railref2_Kept.mk (j : Int) g.Index g.Op] : List T_railref2_Kept) = some (m.L ++ [T_railref2_Kept.mk (j : Int) g.Index g.Op]) := by
          unfold oapp; rw [if_pos ⟨by simp, by simp; omega⟩]
        rw [if_pos (by decide), ho, Option.bind_some, Option.bind_some, if_pos (by simp [hf2])]
        refine ⟨_, _, _, rfl, ?_, ⟨h.many, h.le, by simp; omega, Nat.le_succ_of_le h.done, h.tab, fun x hx => ?_⟩, by simp⟩
        · rw [ag_set (m' := T_railref2_Agent.mk m.Number m.Table (m.L ++ [T_railref2_Kept.mk (j : Int) g.Index g.Op]) m.Many m.Done) ?_ fun q hq hne => ?_]
          · rfl
          · unfold rdOf
            simp only [ops_snoc, if_true, mput_new _ hf2]
            rw [hv3]; simp [h5]
          · unfold rdOf
            simp only [ops_snoc]
            rw [if_neg (by omega)]
        · rcases List.mem_append.1 hx with hx | hx
          · exact h.ops x hx
          · obtain rfl := List.mem_singleton.1 hx
            exact ⟨by simp only; omega, by rw [← chk_eq]; exact hop h41⟩
      · rw [if_neg (by simp), Option.bind_some, if_neg (by simp [hf2])]
        exact ⟨_, _, m, rfl, rfl, h.up, by simp⟩
theorem heard_both (hp : p ≤ 1000) (h : MInv p m) (r : Int) : ∃ n, t_railref2_Agent_Heard m r = some n ∧ t_agent_Agent_Heard (agOf m) r = some n := by
  have hL := h.L
  refine ⟨((opsOf m.L r).length : Int), ?_, ?_⟩
  · unfold t_railref2_Agent_Heard
    rw [loopI_at (fun q => ((opsOf (m.L.take q) r).length : Int)) (s := 0) (by simp [opsOf]) (by unfold maxI; omega) fun q x k hx => ?_]
    · simp
    · have hq := (List.getElem?_eq_some_iff.1 hx).1
      have hlen : (opsOf (m.L.take q) r).length ≤ q := by
        unfold opsOf
        rw [List.length_map]
        exact Nat.le_trans (List.length_filter_le _ _) (by simp; omega)
      rw [List.take_add_one, hx]
      simp only [Option.toList_some]
      rw [ops_snoc, wr_id (by omega) (by omega)]
      by_cases h2 : x.Round = r
      · rw [if_pos (by simpa using h2), if_pos h2, Option.bind_some]; simp
      · rw [if_neg (by simpa using h2), if_neg h2, Option.bind_some]
  · unfold t_agent_Agent_Heard
    rw [decide_eq_true ag_len, need_t]
    by_cases hr : r < 0 ∨ 20 ≤ r
    · have : opsOf m.L r = [] := by
        unfold opsOf
        rw [List.map_eq_nil_iff, List.filter_eq_nil_iff]
        intro x hx
        have := (h.ops x hx).1
        simp; omega
      rw [if_pos (by simpa using hr), this]; rfl
    · rw [if_neg (by simpa using hr)]
      obtain ⟨j, rfl⟩ := Int.eq_ofNat_of_zero_le (a := r) (by omega)
      rw [ag_idx (by omega)]; rfl
theorem whole_run (hp : p ≤ 1000) (h : MInv p m) {j n : Nat} (hv : m.Many[j]? = some (n : Int)) (hn : n ≤ 200) : ∀ (c q N : Nat), q + c = n → c + 2 ≤ N → tfix (fun k106 (s105 : (Bool × Int)) =>
     (some (n : Int)).bind fun r114 =>
     if ((decide (s105.2 < r114)) && s105.1) = true then (
     (t_railref2_Agent_Find m (j : Int) s105.2).bind fun r122 =>
     k106 ((decide (0 ≤ r122)), (wr (s105.2 + 1)))) else (
     some (s105.1))) N (true, (q : Int)) = some ((List.range' q c).all fun i => mhas (opsOf m.L j) (i : Int))
  | 0, q, N + 1, hq, hN => by
    rw [tfix, Option.bind_some, if_neg (by simp; omega)]; rfl
  | c + 1, q, N + 1, hq, hN => by
    have hL := h.L
    rw [tfix, Option.bind_some]
    rw [if_pos (by simp; omega)]
    obtain ⟨f, hf1, hf2⟩ := s_Find m (by omega) (j : Int) (q : Int)
    have e : (q : Int) + 1 = ((q + 1 : Nat) : Int) := by omega
    rw [hf1, Option.bind_some, wr_id (by simp only; omega) (by simp only; omega), List.range'_succ, List.all_cons]
    simp only [e]
    rcases hf2 with ⟨rfl, hf2⟩ | ⟨i, x, rfl, _, hf2, _⟩
    · rw [hf2, Bool.false_and]
      obtain ⟨N, rfl⟩ : ∃ N', N = N' + 1 := ⟨N - 1, by omega⟩
      rw [show decide ((0 : Int) ≤ -1) = false by decide, tfix, Option.bind_some]
      rw [if_neg (by simp)]
    · rw [hf2, Bool.true_and, show decide ((0 : Int) ≤ (i : Int)) = true from decide_eq_true (by omega)]
      exact whole_run hp h hv hn c (q + 1) N (by omega) (by omega)
theorem ready_doc (hp : p ≤ 1000) (h : MInv p m) : t_railref2_Agent_Ready m = some (rdyN (agOf m).rounds) := by
  have hD := h.done
  unfold t_railref2_Agent_Ready
  rw [join_eq, loopU_eq (by omega) (by unfold maxI; omega)]
  have := goU_first (l := (agOf m).rounds) (p := rdyB) (f := some (-1)) (step := fun (i12 : Int) (s8 : Unit) k9 =>
     join (fun (s21 : Unit) =>
     k9 ()) fun j22 =>
     (t_railref2_In m.Done i12).bind fun r29 =>
     (gd (!r29) default (idx m.Many i12)).bind fun r47 =>
     (tfix (fun k106 (s105 : (Bool × Int)) =>
     (idx m.Many i12).bind fun r114 =>
     if ((decide (s105.2 < r114)) && s105.1) = true then (
     (t_railref2_Agent_Find m i12 s105.2).bind fun r122 =>
     k106 ((decide (0 ≤ r122)), (wr (s105.2 + 1)))) else (
     some (s105.1))) bigN (((!r29) && (decide (0 ≤ r47))), 0)).bind fun (s57 : Bool) =>
     if s57 = true then (
     some i12) else (
     j22 ())) (fun j x k hx => ?_) 20 0 (by rw [ag_len])
  · refine Eq.trans this ?_
    rw [List.drop_zero]
    unfold rdyN
    cases (agOf m).rounds.findIdx? rdyB with
    | none => rfl
    | some q => simp
  · have hj : j < 20 := by have := (List.getElem?_eq_some_iff.1 hx).1; rw [ag_len] at this; exact this
    rw [ag_nat hj] at hx
    obtain rfl := Option.some.inj hx
    obtain ⟨v, hv1, hv2, hv3⟩ := many_at h hj
    have hB := bigN_gt
    have e0 : rdyB (rdOf m j) = (!decide ((j : Int) ∈ m.Done) && (decide (0 ≤ v) && (List.range v.toNat).all fun i => mhas (opsOf m.L j) (i : Int))) := by
      unfold rdyB wholeB
      rw [show (rdOf m j).many = v from hv3]; rfl
    rw [e0, join_eq, s_rIn _ _ (by omega), Option.bind_some, idx_nat, hv1]
    have stop : ∀ N, 0 < N → tfix (fun k106 (s105 : (Bool × Int)) =>
       (some v).bind fun r114 =>
       if ((decide (s105.2 < r114)) && s105.1) = true then (
       (t_railref2_Agent_Find m (j : Int) s105.2).bind fun r122 =>
       k106 ((decide (0 ≤ r122)), (wr (s105.2 + 1)))) else (
       some (s105.1))) N (false, 0) = some false := fun N hN => by
      obtain ⟨N, rfl⟩ : ∃ N', N = N' + 1 := ⟨N - 1, by omega⟩
      rw [tfix, Option.bind_some, if_neg (by simp)]
    by_cases h1 : (j : Int) ∈ m.Done
    · simp only [h1, decide_true, Bool.not_true, gd_false, Bool.false_and]
      rw [Option.bind_some, stop bigN (by omega), Option.bind_some]
    · simp only [h1, decide_false, Bool.not_false, gd_true, Bool.true_and]
      rw [Option.bind_some]
      by_cases h2 : 0 ≤ v
      · obtain ⟨n, rfl⟩ := Int.eq_ofNat_of_zero_le h2
        have := whole_run hp h hv1 (by omega) n 0 bigN (by omega) (by omega)
        simp only [h2, decide_true, Bool.true_and, Int.toNat_natCast, List.range_eq_range']
        refine (congrArg (fun X : Option Bool => X.bind _) this).trans ?_
        rw [Option.bind_some]
      · simp only [h2, decide_false, Bool.false_and]
        rw [stop bigN (by omega), Option.bind_some]
theorem ready_both (hp : p ≤ 1000) (h : MInv p m) : t_agent_Agent_Ready (agOf m) = some (rdyN (agOf m).rounds) := by
  unfold t_agent_Agent_Ready
  rw [need_pos]
  rw [decide_eq_true ag_len, Bool.true_and, List.all_eq_true]
  intro r hr
  obtain ⟨j, hj, rfl⟩ := List.mem_map.1 hr
  obtain ⟨v, _, hv2, hv3⟩ := many_at h (List.mem_range.1 hj)
  rw [show (rdOf m j).many = v from hv3]
  simp; omega
/-- all changes of a round -/
def allV : List T_Rule → List T_Op → List T_Rule × Int
  | t, [] => (t, 0)
  | t, o :: l => if doF t o.Add o.Rule ≠ 0 then ([], doF t o.Add o.Rule) else allV (doV t o.Add o.Rule) l
theorem allV_tok : ∀ {l : List T_Op} {t : List T_Rule}, Tok (t.map rlOf) → (allV t l).2 = 0 → Tok ((allV t l).1.map rlOf)
  | [], t, ht, _ => ht
  | o :: l, t, ht, h => by
    unfold allV at h ⊢
    by_cases h1 : doF t o.Add o.Rule = 0
    · rw [if_neg (by simpa using h1)] at h ⊢
      exact allV_tok (do_tok h1).2 h
    · rw [if_pos h1] at h; exact absurd h h1
theorem all_go : ∀ (l : List T_Op) (i : Int) (t : List T_Rule), goI (fun (i19 : Int) (x20 : T_Op) (s15 : (List T_Rule)) k16 =>
     (t_table_Do s15 x20.Add x20.Rule).bind fun r31 =>
     if (!decide (r31.2 = 0)) = true then (
     some ([], r31.2)) else (
     k16 (r31.1))) (fun (s15 : (List T_Rule)) => some (s15, (0 : Int))) i l t = some (allV t l)
  | [], _, _ => rfl
  | o :: l, i, t => by
    rw [goI, t_table_Do, Option.bind_some, allV]
    by_cases h : doF t o.Add o.Rule = 0
    · rw [if_neg (by simpa using h), if_neg (by simpa using h)]
      exact all_go l (i + 1) _
    · rw [if_pos (by simpa using h), if_pos h]
theorem tab_of {t : List T_Rule} (ht : Tok (t.map rlOf)) : t_rule_Table t = some 0 := by rw [s_rTableV, tchk_iff.2 ht]
theorem tok_of {t : List T_Rule} (h : tabF t = 0) : Tok (t.map rlOf) := by
  have h1 := s_rTableV t
  rw [s_rule_Table, h] at h1
  exact tchk_iff.1 (Option.some.inj h1).symm
theorem s_All {t : List T_Rule} (ht : Tok (t.map rlOf)) (l : List T_Op) (hl : l.length ≤ 1000000) : t_table_All t l = some (allV t l) := by
  have h12 := ht.len
  rw [List.length_map] at h12
  unfold t_table_All
  rw [tab_of ht, Option.bind_some, if_neg (by simp), cln, if_pos (by omega), Option.bind_some, join_eq, loopI_eq (by unfold maxI; omega)]
  exact all_go l 0 t
theorem all_run (hp : p ≤ 1000) (h : MInv p m) {j n : Nat} (hj : j < 20) (hv : m.Many[j]? = some (n : Int)) (hn : n ≤ 200) (hh : ∀ i < n, mhas (opsOf m.L j) (i : Int) = true) : ∀ (c q N : Nat) (t : List T_Rule), Tok (t.map rlOf) → q + c = n → c + 2 ≤ N → tfix (fun k119 (s118 : ((List T_Rule) × Int × Int)) =>
     need (decide (0 ≤ (j : Int)) && decide ((j : Int) < (List.length m.Many : Int))) (
     (some (n : Int)).bind fun r127 =>
     if ((decide (s118.2.2 < r127)) && (decide (s118.2.1 = 0))) = true then (
     (t_railref2_Agent_Find m (j : Int) s118.2.2).bind fun r141 =>
     need (decide (0 ≤ r141) && decide (r141 < (List.length m.L : Int))) (
     (idx m.L r141).bind fun r145 =>
     (t_railref1_Do s118.1 r145.Op.Add r145.Op.Rule).bind fun r151 =>
     k119 (r151.1, r151.2, (wr (s118.2.2 + 1))))) else (
     some (s118.1, s118.2.1)))) N (t, 0, (q : Int)) = some (allV t ((List.range' q c).map fun (i : Nat) => mget (opsOf m.L j) (i : Int) default)) := by
  have hL := h.L
  have hb : (decide (0 ≤ (j : Int)) && decide ((j : Int) < (List.length m.Many : Int))) = true := by rw [h.many]; simp; omega
  intro c
  induction c with
  | zero =>
    intro q N t ht hq hN
    obtain ⟨N, rfl⟩ : ∃ N', N = N' + 1 := ⟨N - 1, by omega⟩
    rw [tfix, need_pos hb, Option.bind_some, if_neg (by simp; omega)]
    rfl
  | succ c ih =>
    intro q N t ht hq hN
    obtain ⟨N, rfl⟩ : ∃ N', N = N' + 1 := ⟨N - 1, by omega⟩
    obtain ⟨f, hf1, hf2⟩ := s_Find m (by omega) (j : Int) (q : Int)
    have hm := hh q (by omega)
    rcases hf2 with ⟨rfl, hf2⟩ | ⟨i, x, rfl, hx, _, hg⟩
    · rw [hm] at hf2; cases hf2
    have hi := (List.getElem?_eq_some_iff.1 hx).1
    have hc := (h.ops x (List.mem_of_getElem? hx)).2
    rw [tfix, need_pos hb, Option.bind_some, if_pos (by simp; omega), hf1, Option.bind_some, need_pos (by simp; omega), idx_nat, hx, Option.bind_some, s_rDo ht _ hc, Option.bind_some, List.range'_succ, List.map_cons, hg, allV, wr_id (by simp only; omega) (by simp only; omega)]
    by_cases h0 : doF t x.Op.Add x.Op.Rule = 0
    · rw [if_neg (by simpa using h0), h0]
      have e : (q : Int) + 1 = ((q + 1 : Nat) : Int) := by omega
      simp only [e]
      exact ih (q + 1) N _ (do_tok h0).2 (by omega) (by omega)
    · have hv0 : doV t x.Op.Add x.Op.Rule = [] := by unfold doV; rw [tdoV_bad (n := doF t x.Op.Add x.Op.Rule) rfl h0]; rfl
      obtain ⟨N, rfl⟩ : ∃ N', N = N' + 1 := ⟨N - 1, by omega⟩
      rw [if_pos h0, tfix, need_pos hb, Option.bind_some, if_neg (by simp [h0]), hv0]
theorem end_both (hp : p ≤ 1000) (h : MInv p m) {j : Nat} (hj : j < 20) {r : T_agent_round} (hr : r.ops = (rdOf m j).ops ∧ r.many = (rdOf m j).many) : workEnd (j : Int) r (agOf m) = some ([T_Msg.mk 3 m.Number j 0 (T_Op.mk 0 false (T_Rule.mk 0 (T_Cube.mk 0 0) 0 0 0))], 0, agOf (T_railref2_Agent.mk m.Number m.Table m.L m.Many (m.Done ++ [(j : Int)]))) ∧ oapp m.Done ([(j : Int)] : List Int) = some (m.Done ++ [(j : Int)]) ∧ MInv (p + 1) (T_railref2_Agent.mk m.Number m.Table m.L m.Many (m.Done ++ [(j : Int)])) := by
  have hD := h.done
  have ho : oapp m.Done ([(j : Int)] : List Int) = some (m.Done ++ [(j : Int)]) := by
    unfold oapp; rw [if_pos ⟨by simp, by simp; omega⟩]
  refine ⟨?_, ho, ⟨h.many, h.le, Nat.le_succ_of_le h.L, by simp; omega, h.tab, h.ops⟩⟩
  unfold workEnd
  rw [show (agOf m).done = m.Done from rfl, ho, Option.bind_some]
  congr 3
  unfold T_agent_Agent.setR
  rw [Int.toNat_natCast, ag_set (m' := T_railref2_Agent.mk m.Number m.Table m.L m.Many (m.Done ++ [(j : Int)])) ?_ fun q hq hne => ?_]
  · rfl
  · rw [hr.1, hr.2]
    unfold rdOf
    simp
  · unfold rdOf
    simp only [List.mem_append, List.mem_singleton]
    have : ¬ ((q : Int) = (j : Int)) := by omega
    simp [this]
theorem rdyN_cases (l : List T_agent_round) : rdyN l = -1 ∨ ∃ (j : Nat) (r : T_agent_round), rdyN l = j ∧ l[j]? = some r ∧ rdyB r = true := by
  unfold rdyN
  cases h : l.findIdx? rdyB with
  | none => exact .inl rfl
  | some j =>
    right
    obtain ⟨h1, h2, _⟩ := List.findIdx?_eq_some_iff_getElem.1 h
    exact ⟨j, l[j], rfl, List.getElem?_eq_getElem h1, h2⟩
theorem work_both (hp : p ≤ 1000) (h : MInv p m) : ∃ ms e m', t_railref2_Agent_Work m = some (ms, e, m') ∧ t_agent_Agent_Work (agOf m) = some (ms, e, agOf m') ∧ MInv (p + 1) m' ∧ ms.length ≤ 1 := by
  unfold t_railref2_Agent_Work t_agent_Agent_Work
  rw [decide_eq_true ag_len, need_t, ready_doc hp h, ready_both hp h, Option.bind_some, Option.bind_some]
  rcases rdyN_cases (agOf m).rounds with h1 | ⟨j, r, h1, h2, h3⟩
  · rw [h1, if_pos (by decide), if_pos (by decide)]
    exact ⟨_, _, m, rfl, rfl, h.up, by simp⟩
  have hj : j < 20 := by have := (List.getElem?_eq_some_iff.1 h2).1; rw [ag_len] at this; exact this
  rw [ag_nat hj] at h2
  obtain rfl := Option.some.inj h2
  obtain ⟨v, hv1, hv2, hv3⟩ := many_at h hj
  unfold rdyB wholeB at h3
  rw [show (rdOf m j).many = v from hv3] at h3
  simp only [Bool.and_eq_true, decide_eq_true_eq, List.all_eq_true, List.mem_range] at h3
  obtain ⟨n, rfl⟩ := Int.eq_ofNat_of_zero_le h3.2.1
  have hh : ∀ i < n, mhas (opsOf m.L j) (i : Int) = true := fun i hi => h3.2.2 i (by simpa using hi)
  have hn : n ≤ 200 := by omega
  have hB := bigN_gt
  have hrun := all_run hp h hj hv1 hn hh n 0 bigN m.Table h.tab (by omega) (by omega)
  rw [h1, if_neg (by simp), if_neg (by simp), ag_idx hj, Option.bind_some, show (rdOf m j).many = (n : Int) from hv3]
  rw [loopU_at (fun q => (List.range q).map fun (i : Nat) => mget (opsOf m.L j) (i : Int) default) (s := []) rfl (by unfold maxI; omega) fun q k hq => ?_]
  rotate_left
  · rw [app_eq (by simp; omega), Option.bind_some, List.range_succ, List.map_append]; rfl
  rw [s_All (t := (agOf m).table) h.tab _ (by simp; omega), Option.bind_some, List.range_eq_range']
  have htk := allV_tok (l := (List.range' 0 n).map fun (i : Nat) => mget (opsOf m.L j) (i : Int) default) h.tab
  generalize hq : (List.range' 0 n).map (fun (i : Nat) => mget (opsOf m.L j) (i : Int) default) = ops at *
  rw [show (agOf m).table = m.Table from rfl]
  generalize allV m.Table ops = q at *
  rw [idx_nat, hv1]
  rw [show (((0 : Nat)) : Int) = 0 from rfl] at hrun
  rw [hrun, Option.bind_some]
  by_cases h0 : q.2 = 0
  · obtain ⟨e1, e2, e3⟩ := end_both (m := T_railref2_Agent.mk m.Number q.1 m.L m.Many m.Done) hp ⟨h.many, h.le, h.L, h.done, htk h0, h.ops⟩ hj (r := rdOf m j) ⟨rfl, rfl⟩
    rw [if_pos (decide_eq_true h0), if_pos (decide_eq_true h0), Option.bind_some]
    refine ⟨_, _, _, ?_, e1, e3, by simp⟩
    rw [e2, Option.bind_some]
  · obtain ⟨e1, e2, e3⟩ := end_both (m := m) hp h hj (r := rdOf m j) ⟨rfl, rfl⟩
    rw [if_neg (by simpa using h0), if_neg (by simpa using h0), Option.bind_some]
    refine ⟨_, _, _, ?_, e1, e3, by simp⟩
    rw [e2, Option.bind_some]
theorem s_err (a b : Int) : t_railsame_Error a b = some (decide (a = b)) := rfl
theorem s_Ints (l : List Int) (h : l.length ≤ 1000000) : t_railsame_Ints l l = some true := by
  unfold t_railsame_Ints
  rw [if_neg (by simp)]
  simp only [join_eq]
  rw [loopI_at (fun _ => ()) rfl (by unfold maxI; omega) (fun p x k hx => ?_)]
  rw [idx_nat, hx, Option.bind_some, if_neg (by simp)]
theorem s_Msgs (l : List T_Msg) (h : l.length ≤ 1000000) : t_railsame_Msgs l l = some true := by
  unfold t_railsame_Msgs
  rw [if_neg (by simp)]
  simp only [join_eq]
  rw [loopI_at (fun _ => ()) rfl (by unfold maxI; omega) (fun p x k hx => ?_)]
  rw [idx_nat, hx, Option.bind_some, if_neg (by simp)]
theorem s_Tab (l : List T_Rule) (h : l.length ≤ 1000000) : t_railsame_Table l l = some true := by
  unfold t_railsame_Table
  rw [if_neg (by simp)]
  simp only [join_eq]
  rw [loopI_at (fun _ => ()) rfl (by unfold maxI; omega) (fun p x k hx => ?_)]
  rw [idx_nat, hx, Option.bind_some, if_neg (by simp)]
theorem s_rTab (t : List T_Rule) : t_railref1_Table t = some (tabF t) := by
  have hM : maxI = 9223372036854775807 := rfl
  unfold t_railref1_Table tabF
  by_cases h : 12 < (t.length : Int)
  · rw [if_pos (decide_eq_true h), if_pos h]
  rw [if_neg (by simpa using h), if_neg h]
  simp only [join_eq]
  rw [loopI_eq (by omega)]
  refine goI_tab (t := t) rfl h (fun p l x k e => ?_) t [] rfl
  rw [s_rRule, Option.bind_some]
  have hp : p.length ≤ t.length := by rw [e]; simp
  rw [loopU_any (l := t) (fun y => decide (y.Prio = x.Prio) && decide (y.Cube = x.Cube)) (r := 7) (by omega) (by omega) (by omega) (fun n y k hy => ?_)]
  · have : ((p.length : Int)).toNat = p.length := rfl
    rw [this, e, take_pre]
    by_cases hx : x.chk = 0 <;> simp [hx]
  · rw [idx_nat, hy]
    simp only [Option.bind_some]
    by_cases h1 : y.Prio = x.Prio <;> simp [h1, gd_true, gd_false]
theorem s_NewAgent (k : Int) (tb : List T_Rule) : t_railref2_NewAgent k tb = some (T_railref2_Agent.mk k tb [] (List.replicate 20 (-1)) []) := by
  unfold t_railref2_NewAgent
  have := loopU_at (hi := 20) (s := T_railref2_Agent.mk k tb [] [] []) (fin := fun (i16 : Int) (s12 : T_railref2_Agent) => some (s12)) (step := fun (i16 : Int) (s12 : T_railref2_Agent) k13 =>
    (oapp s12.Many ([(-1 : Int)] : (List Int))).bind fun r27 =>
    k13 (T_railref2_Agent.mk s12.Number s12.Table s12.L r27 s12.Done)) (fun q => T_railref2_Agent.mk k tb [] (List.replicate q (-1)) []) rfl (by unfold maxI; omega) fun q K hq => ?_
  · exact (congrArg (fun X : Option T_railref2_Agent => X.bind _) this).trans rfl
  · simp only
    unfold oapp
    rw [if_pos ⟨by simp, by simp; omega⟩, Option.bind_some, List.replicate_succ']
/-- both agents go alike -/
theorem t_AgentPlays (k : Int) (tb : List T_Rule) (gs : List T_Msg) (ws : List Int) (hgs : (gs.length : Int) ≤ maxI) : t_raillaw2_AgentPlays k tb gs ws = some true := by
  unfold t_raillaw2_AgentPlays t_agent_New
  by_cases hk : k < 1 ∨ 6 < k
  · have hk' : ((decide (k < 1)) || (decide (6 < k))) = true := by simpa using hk
    rw [if_pos hk', if_pos hk']
    rfl
  have hk' : ¬ ((decide (k < 1)) || (decide (6 < k))) = true := by simpa using hk
  rw [if_neg hk', if_neg hk', s_rTab, s_rule_Table]
  simp only [Option.bind_some]
  by_cases h0 : tabF tb = 0
  rotate_left
  · simp [h0, caseO, s_err]
  have ht := tok_of h0
  have hl := ht.len
  rw [List.length_map] at hl
  have hc : cln tb = some tb := by unfold cln; rw [if_pos (by omega)]
  rw [if_neg (by simp [h0]), hc]
  simp only [Option.bind_some, caseO, h0, decide_true, Bool.not_true, Bool.false_eq_true, if_false, s_err, join_eq, Bool.or_self, show decide ((0 : Int) ≠ 0) = false from rfl]
  rw [s_NewAgent, Option.bind_some, loopI_eq hgs]
  have hI0 : MInv 0 (T_railref2_Agent.mk k tb [] (List.replicate 20 (-1)) []) := ⟨by simp, fun x hx => by rw [List.eq_of_mem_replicate hx]; decide, by simp, by simp, ht, by simp⟩
  refine goI_inv (fun q (s : T_agent_Agent × T_railref2_Agent) => s.1 = agOf s.2 ∧ MInv (q + q) s.2) (fun r => r = some true) (fun q s h => rfl) (fun q g s K h hK => ?_) gs 0 _ ⟨?_, hI0⟩
  · obtain ⟨a, m⟩ := s
    simp only at h ⊢
    obtain ⟨rfl, h⟩ := h
    by_cases hq : (q : Int) < 60
    rotate_left
    · rw [if_neg (by simpa using hq)]
    rw [if_pos (by simpa using hq)]
    obtain ⟨ms, e, m1, a1, a2, h1, a4⟩ := hear_both (by omega) h g
    rw [a1, a2, Option.bind_some, Option.bind_some, s_Msgs ms (by omega), Option.bind_some]
    simp only [decide_true, Bool.not_true, Bool.or_self, Bool.false_eq_true, if_false]
    have fin : ∀ m2, MInv (q + q + 2) m2 → ((t_agent_Agent_Table (agOf m2)).bind fun r105 =>
       (t_railsame_Table r105 m2.Table).bind fun r111 =>
       (t_agent_Agent_Done (agOf m2)).bind fun r113 =>
       (t_railsame_Ints r113 m2.Done).bind fun r119 =>
       (gd (!((!r111) || (!r119))) default (t_agent_Agent_Ready (agOf m2))).bind fun r132 =>
       (gd (!((!r111) || (!r119))) default (t_railref2_Agent_Ready m2)).bind fun r138 =>
       (gd (!(((!r111) || (!r119)) || (decide (r132 ≠ r138)))) default (t_agent_Agent_Heard (agOf m2) g.Round)).bind fun r161 =>
       (gd (!(((!r111) || (!r119)) || (decide (r132 ≠ r138)))) default (t_railref2_Agent_Heard m2 g.Round)).bind fun r180 =>
       if ((((!r111) || (!r119)) || (decide (r132 ≠ r138))) || (decide (r161 ≠ r180))) = true then (
       some false) else (
       K (agOf m2, m2))) = some true := fun m2 h2 => by
      have hl2 := h2.tab.len
      rw [List.length_map] at hl2
      have hd2 := h2.done
      obtain ⟨n, b1, b2⟩ := heard_both (by omega) h2 g.Round
      have c1 : t_agent_Agent_Table (agOf m2) = some m2.Table := by unfold t_agent_Agent_Table cln; rw [show (agOf m2).table = m2.Table from rfl, if_pos (by omega)]
      have c2 : t_agent_Agent_Done (agOf m2) = some m2.Done := by unfold t_agent_Agent_Done cln; rw [decide_eq_true ag_len, need_t, show (agOf m2).done = m2.Done from rfl, if_pos (by omega)]
      rw [c1, Option.bind_some, s_Tab _ (by omega), Option.bind_some, c2, Option.bind_some, s_Ints _ (by omega), Option.bind_some, ready_doc (by omega) h2, ready_both (by omega) h2, b1, b2]
      simp only [Bool.not_true, Bool.or_self, Bool.not_false, gd_true, Option.bind_some, ne_eq, not_true_eq_false, decide_false, Bool.false_eq_true, if_false]
      exact hK _ ⟨rfl, (show q + 1 + (q + 1) = q + q + 2 by omega) ▸ h2⟩
    by_cases hw : (q : Int) < (ws.length : Int)
    · obtain ⟨w, hw2⟩ : ∃ w, ws[q]? = some w := ⟨_, List.getElem?_eq_getElem (show q < ws.length by omega)⟩
      rw [decide_eq_true hw, gd_true, idx_nat, hw2, Option.bind_some, Bool.true_and]
      by_cases h3 : w = 1
      · obtain ⟨ms2, e2, m2, b1, b2, h2, b4⟩ := work_both (by omega) h1
        rw [if_pos (decide_eq_true h3), b1, b2, Option.bind_some, Option.bind_some, s_Msgs ms2 (by omega), Option.bind_some]
        simp only [decide_true, Bool.not_true, Bool.or_self, Bool.false_eq_true, if_false]
        exact fin m2 h2
      · rw [if_neg (by simpa using h3)]
        exact fin m1 h1.up
    · rw [decide_eq_false hw, gd_false, Option.bind_some, if_neg (by simp)]
      exact fin m1 h1.up
  · rfl
theorem walk_AgentPlays (k : Int) (tb : List T_Rule) (gs : List T_Msg) (ws : List Int) {p q r : Prop} (_ : p) (_ : q) (u : wL maxLen (fun x => x.wf maxLen) gs) (_ : r) : t_raillaw2_AgentPlays k tb gs ws = some true := t_AgentPlays k tb gs ws (by have := u.1; unfold maxLen at this; unfold maxI; omega)
end
end Go.Proofs.YtgfleiknigjnbaaDoor.Ty
