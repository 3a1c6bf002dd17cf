/- An agent that hears the same twice is as if it had heard it once. -/
import Derived.Test.YtgfleiknigjnbaaDoorTyA
import Derived.Test.YtgfleiknigjnbaaDoorSBase
import Derived.Test.YtgfleiknigjnbaaDoorPlain
import Derived.Test.YtgfleiknigjnbaaDoorTyB
import Derived.Test.YtgfleiknigjnbaaDoorAgTy
namespace Go.Proofs.YtgfleiknigjnbaaDoor.Ty
open Go Go.RowKit Go.Proofs.YtgfleiknigjnbaaDoor.Den
set_option linter.unusedSimpArgs false
set_option linter.unusedVariables false
set_option maxRecDepth 100000

abbrev cf (c : T_Cube) : Int := cchk c.Mask c.Bits
abbrev hs (c : T_Cube) (h : Int) : Bool := chas c.Mask c.Bits h
theorem and_andNot' {m b : Int} (h : 0 ≤ m ∧ m < 16 ∧ 0 ≤ b ∧ b < 16) : bits .and .i64 b m = b ↔ bits .andNot .i64 b m = 0 := by
  obtain ⟨h1, h2, h3, h4⟩ := h
  obtain ⟨m, rfl⟩ := Int.eq_ofNat_of_zero_le h1
  obtain ⟨b, rfl⟩ := Int.eq_ofNat_of_zero_le h3
  have hm : m < 16 := by omega
  have hb : b < 16 := by omega
  have H : ∀ x y : Fin 16, bits .and .i64 (y.val : Int) (x.val : Int) = (y.val : Int) ↔ bits .andNot .i64 (y.val : Int) (x.val : Int) = 0 := by decide +kernel
  exact H ⟨m, hm⟩ ⟨b, hb⟩
theorem hdr_eq (k : Int) : (decide (0 ≤ k) && decide (k < 16)) = hdr k := by unfold hdr; rw [Bool.eq_iff_iff]; simp
theorem s_cube_Header (k : Int) : t_cube_Header k = some (hdr k) := by rw [t_cube_Header, hdr_eq]
theorem s_rHeader (k : Int) : t_railref1_Header k = some (hdr k) := by rw [t_railref1_Header, hdr_eq]
theorem s_cube_Check (c : T_Cube) : t_cube_Check c = some (cf c) := by
  unfold t_cube_Check cf cchk
  simp only [s_cube_Header, Option.bind_some]
  cases h1 : hdr c.Mask
  · rw [hdr_not] at h1
    simp [gd_false]
    try omega
  · cases h2 : hdr c.Bits
    · rw [hdr_not] at h2
      simp [gd_true, h2]
      try omega
    · rw [hdr_iff] at h1 h2
      rw [if_pos (show 0 ≤ c.Mask ∧ c.Mask < 16 ∧ 0 ≤ c.Bits ∧ c.Bits < 16 by omega)]
      by_cases h3 : bits .andNot .i64 c.Bits c.Mask = 0 <;> simp [gd_true, h3]
theorem s_rCube (c : T_Cube) : t_railref1_Cube c = some (cf c) := by
  unfold t_railref1_Cube cf cchk
  simp only [s_rHeader, Option.bind_some]
  cases h1 : hdr c.Mask
  · rw [hdr_not] at h1
    simp
    omega
  · cases h2 : hdr c.Bits
    · rw [hdr_not] at h2
      simp
      omega
    · rw [hdr_iff] at h1 h2
      rw [if_pos (show 0 ≤ c.Mask ∧ c.Mask < 16 ∧ 0 ≤ c.Bits ∧ c.Bits < 16 by omega)]
      have h3 := and_andNot' ⟨h1.1, h1.2, h2.1, h2.2⟩
      by_cases h : bits .andNot .i64 c.Bits c.Mask = 0 
      · simp [h, h3.2 h]
      · have : ¬ bits .and .i64 c.Bits c.Mask = c.Bits := fun z => h (h3.1 z)
        simp [h, this]

def rchk (p m b o s v : Int) : Int :=
  if 0 ≤ p ∧ p ≤ 99 ∧ 0 ≤ o ∧ o ≤ 4 ∧ (0 ≤ s ∧ s < 16) ∧ (0 ≤ v ∧ v < 16) then
    (if cchk m b = 0 then (if bits .andNot .i64 v s = 0 ∧ ¬ (o = 0 ∧ s ≠ 0) then 0 else 3) else cchk m b)
  else 1
theorem rchk_0 {p m b o s v : Int} : rchk p m b o s v = 0 ↔ (0 ≤ p ∧ p ≤ 99 ∧ 0 ≤ o ∧ o ≤ 4 ∧ (0 ≤ s ∧ s < 16) ∧ (0 ≤ v ∧ v < 16)) ∧ cchk m b = 0 ∧ bits .andNot .i64 v s = 0 ∧ ¬ (o = 0 ∧ s ≠ 0) := by
  unfold rchk
  split
  · rename_i h
    split
    · rename_i h2
      split
      · rename_i h3; exact ⟨fun _ => ⟨h, h2, h3.1, h3.2⟩, fun _ => rfl⟩
      · rename_i h3; exact ⟨fun h => absurd h (by decide), fun h => absurd ⟨h.2.2.1, h.2.2.2⟩ h3⟩
    · rename_i h2; exact ⟨fun h => absurd h h2, fun h => absurd h.2.1 h2⟩
  · rename_i h; exact ⟨fun h => absurd h (by decide), fun h2 => absurd h2.1 h⟩

set_option maxHeartbeats 800000 in
def T_Rule.chk (x : T_Rule) : Int := rchk x.Prio x.Cube.Mask x.Cube.Bits x.Out x.Set x.Value
def op0 : T_Op := ⟨0, false, ⟨0, ⟨0, 0⟩, 0, 0, 0⟩⟩
def mg0 : T_Msg := ⟨0, 0, 0, 0, op0⟩
/-- the fault of a message -/
def T_Msg.chk (x : T_Msg) : Int :=
  if x.Kind < 1 ∨ 3 < x.Kind ∨ x.Switch < 1 ∨ 6 < x.Switch ∨ x.Round < 0 ∨ 20 ≤ x.Round ∨ x.Index < 0 ∨ 200 < x.Index then 1
  else if x.Kind ≠ 1 then (if x.Op ≠ op0 ∨ (x.Kind = 3 ∧ x.Index ≠ 0) then 3 else 0)
  else if x.Op.Rule.chk ≠ 0 then x.Op.Rule.chk
  else if x.Op.Switch ≠ x.Switch then 3 else 0
theorem rchk_ite (p m b o s v : Int) (hs hv : Bool) (h1 : hs = true ↔ 0 ≤ s ∧ s < 16) (h2 : hv = true ↔ 0 ≤ v ∧ v < 16) (e : Int) (he : e = cchk m b) :
    (if (((((decide (p < 0) || decide (99 < p)) || decide (o < 0)) || decide (4 < o)) || !hs) || !hv) = true then some (1 : Int) else
      if (!decide (e = 0)) = true then some e else if (decide (bits .andNot .i64 v s ≠ 0) || (decide (o = 0) && decide (s ≠ 0))) = true then some 3 else some 0) = some (rchk p m b o s v) := by
  subst he
  unfold rchk
  by_cases h : 0 ≤ p ∧ p ≤ 99 ∧ 0 ≤ o ∧ o ≤ 4 ∧ (0 ≤ s ∧ s < 16) ∧ (0 ≤ v ∧ v < 16)
  · rw [if_neg (by rw [h1.2 h.2.2.2.2.1, h2.2 h.2.2.2.2.2]; simp; omega), if_pos h]
    by_cases hk : cchk m b = 0
    · rw [if_neg (by simp [hk]), if_pos hk]
      generalize bits .andNot .i64 v s = B
      by_cases h3 : B = 0 <;> by_cases h4 : o = 0 <;> by_cases h5 : s = 0 <;> simp [h3, h4, h5]
    · rw [if_pos (by simp [hk]), if_neg hk]
  · rw [if_neg h, if_pos]
    cases hs <;> cases hv <;> simp at h1 h2 ⊢
    omega
theorem s_rule_Check (r : T_Rule) : t_rule_Check r = some r.chk := by
  have key := rchk_ite r.Prio r.Cube.Mask r.Cube.Bits r.Out r.Set r.Value (hdr r.Set) (hdr r.Value) hdr_iff hdr_iff (cf r.Cube) rfl
  unfold t_rule_Check T_Rule.chk
  simp only [s_cube_Header, s_cube_Check, Option.bind_some]
  rw [← key]
  cases hA : (((decide (r.Prio < 0) || decide (99 < r.Prio)) || decide (r.Out < 0)) || decide (4 < r.Out))
  · cases hB : hdr r.Set
    · simp [gd_true, gd_false]
    · simp only [Bool.false_or, Bool.not_false, Bool.not_true, gd_true, Option.bind_some]
  · simp [gd_false]
theorem s_rRule (r : T_Rule) : t_railref1_Rule r = some r.chk := by
  have key := rchk_ite r.Prio r.Cube.Mask r.Cube.Bits r.Out r.Set r.Value (hdr r.Set) (hdr r.Value) hdr_iff hdr_iff (cf r.Cube) rfl
  unfold t_railref1_Rule T_Rule.chk
  simp only [s_rHeader, s_rCube, Option.bind_some]
  rw [← key]
  by_cases hA : (((((decide (r.Prio < 0) || decide (99 < r.Prio)) || decide (r.Out < 0)) || decide (4 < r.Out)) || !hdr r.Set) || !hdr r.Value) = true
  · rw [if_pos hA, if_pos hA]
  · rw [if_neg hA, if_neg hA]
    have hv : 0 ≤ r.Set ∧ r.Set < 16 ∧ 0 ≤ r.Value ∧ r.Value < 16 := by
      simp only [Bool.or_eq_true, not_or, Bool.not_eq_true', Bool.not_eq_false, hdr_iff] at hA
      omega
    have e2 : cf (⟨r.Set, r.Value⟩ : T_Cube) = if bits .andNot .i64 r.Value r.Set = 0 then 0 else 3 := by
      unfold cf cchk; rw [if_pos hv]
    rw [e2]
    by_cases h0 : cf r.Cube = 0
    · by_cases h3 : bits .andNot .i64 r.Value r.Set = 0 <;> simp [h0, h3, gd_true, gd_false]
    · simp [h0]
theorem s_wire_Check (m : T_Msg) : t_wire_Check m = some m.chk := by
  unfold t_wire_Check T_Msg.chk
  simp only [s_rule_Check, Option.bind_some]
  by_cases h1 : m.Kind < 1 ∨ 3 < m.Kind ∨ m.Switch < 1 ∨ 6 < m.Switch ∨ m.Round < 0 ∨ 20 ≤ m.Round ∨ m.Index < 0 ∨ 200 < m.Index
  · rw [if_pos h1, if_pos (by simp; omega)]
  · rw [if_neg h1, if_neg (by simp; omega)]
    by_cases h2 : m.Kind = 1
    · by_cases h3 : m.Op.Rule.chk = 0 <;> by_cases h4 : m.Op.Switch = m.Switch <;> simp [h2, h3, h4]
    · rw [if_pos (decide_eq_true h2), if_pos h2]
      have e : (⟨0, false, ⟨0, ⟨0, 0⟩, 0, 0, 0⟩⟩ : T_Op) = op0 := rfl
      rw [e]
      by_cases h3 : m.Op = op0 <;> by_cases h4 : m.Kind = 3 <;> by_cases h5 : m.Index = 0 <;> simp [h3, h4, h5]
theorem s_rMsg (m : T_Msg) : t_railref2_Msg m = some m.chk := by
  unfold t_railref2_Msg T_Msg.chk
  simp only [s_rRule, Option.bind_some]
  by_cases h1 : m.Kind < 1 ∨ 3 < m.Kind ∨ m.Switch < 1 ∨ 6 < m.Switch ∨ m.Round < 0 ∨ 20 ≤ m.Round ∨ m.Index < 0 ∨ 200 < m.Index
  · rw [if_pos h1, if_pos (by simp; omega)]
  · rw [if_neg h1, if_neg (by simp; omega)]
    by_cases h2 : m.Kind = 1
    · by_cases h3 : m.Op.Rule.chk = 0 <;> by_cases h4 : m.Op.Switch = m.Switch <;> simp [h2, h3, h4]
    · rw [if_pos (decide_eq_true h2), if_pos h2]
      have e : (⟨0, false, ⟨0, ⟨0, 0⟩, 0, 0, 0⟩⟩ : T_Op) = op0 := rfl
      rw [e]
      by_cases h3 : m.Op = op0 <;> by_cases h4 : m.Kind = 3 <;> by_cases h5 : m.Index = 0 <;> simp [h3, h4, h5]

section
variable {α β σ : Type}
/-- what each end of a loop has -/
theorem goI_post {step : Int → α → σ → (σ → Option β) → Option β} {fin : σ → Option β} {Q : β → Prop} (hfin : ∀ s v, fin s = some v → Q v)
    (hstep : ∀ i x s k, (∀ s' v, k s' = some v → Q v) → ∀ v, step i x s k = some v → Q v) : ∀ (l : List α) (i : Int) (s : σ) (v : β), goI step fin i l s = some v → Q v
  | [], i, s, v, h => hfin s v h
  | x :: l, i, s, v, h => hstep i x s _ (fun s' v' h' => goI_post hfin hstep l (i + 1) s' v' h') v h
theorem loopI_post {step : Int → α → σ → (σ → Option β) → Option β} {fin : σ → Option β} (Q : β → Prop) {l : List α} {s : σ} {v : β} (h : loopI l step fin s = some v) (hfin : ∀ s v, fin s = some v → Q v)
    (hstep : ∀ i x s k, (∀ s' v, k s' = some v → Q v) → ∀ v, step i x s k = some v → Q v) : Q v := by
  unfold loopI at h
  rw [need_some] at h
  exact goI_post hfin hstep l 0 s v h.2
end
section
variable {α β σ τ : Type}
/-- two loops that go alike -/
theorem goI_sim {step : Int → α → σ → (σ → Option β) → Option β} {step' : Int → α → τ → (τ → Option β) → Option β} {fin : σ → Option β} {fin' : τ → Option β} (I : Int → List α → σ → τ → Prop) (hfin : ∀ i s t, I i [] s t → fin s = fin' t)
    (hstep : ∀ i x l s t k k', I i (x :: l) s t → (∀ s' t', I (i + 1) l s' t' → k s' = k' t') → step i x s k = step' i x t k') : ∀ (l : List α) (i : Int) (s : σ) (t : τ), I i l s t → goI step fin i l s = goI step' fin' i l t
  | [], i, s, t, h => hfin i s t h
  | x :: l, i, s, t, h => hstep i x l s t _ _ h fun s' t' h' => goI_sim I hfin hstep l (i + 1) s' t' h'
theorem loopI_sim {step : Int → α → σ → (σ → Option β) → Option β} {step' : Int → α → τ → (τ → Option β) → Option β} {fin : σ → Option β} {fin' : τ → Option β} (I : Int → List α → σ → τ → Prop) {l : List α} {s : σ} {t : τ} (h0 : I 0 l s t) (hfin : ∀ i s t, I i [] s t → fin s = fin' t)
    (hstep : ∀ i x l s t k k', I i (x :: l) s t → (∀ s' t', I (i + 1) l s' t' → k s' = k' t') → step i x s k = step' i x t k') : loopI l step fin s = loopI l step' fin' t := by
  unfold loopI; rw [goI_sim I hfin hstep l 0 s t h0]
theorem loopI_any {step : Int → α → Unit → (Unit → Option β) → Option β} {f : Option β} (p : α → Bool) {r : β} {l : List α} (hl : (l.length : Int) ≤ maxI) (h : ∀ x i k, step i x () k = if p x = true then some r else k ()) : loopI l step (fun _ => f) () = if l.any p = true then some r else f := by
  rw [loopI_eq hl, goI_any (p := p) (r := r) l 0 fun x _ i k => h x i k]
theorem goU_any {l : List α} {p : α → Bool} {r : β} {step : Int → Unit → (Unit → Option β) → Option β} {f : Option β} (h : ∀ (j : Nat) x k, l[j]? = some x → step (j : Int) () k = if p x = true then some r else k ()) : ∀ (m i : Nat), i + m ≤ l.length → goU step (fun _ _ => f) m (i : Int) () = if ((l.drop i).take m).any p = true then some r else f
  | 0, i, _ => by simp [goU]
  | m + 1, i, hm => by
    have hi : i < l.length := by omega
    rw [goU, h i l[i] _ (List.getElem?_eq_getElem hi), List.drop_eq_getElem_cons hi, List.take_succ_cons, List.any_cons]
    have e : (i : Int) + 1 = ((i + 1 : Nat) : Int) := by omega
    rw [e, goU_any h m (i + 1) (by omega)]
    cases p l[i] <;> simp
theorem loopU_any {l : List α} (p : α → Bool) {r : β} {step : Int → Unit → (Unit → Option β) → Option β} {f : Option β} {i : Int} (h0 : 0 ≤ i) (h1 : i ≤ l.length) (h2 : i ≤ maxI) (h : ∀ (j : Nat) x k, l[j]? = some x → step (j : Int) () k = if p x = true then some r else k ()) : loopU 0 i step (fun _ _ => f) () = if (l.take i.toNat).any p = true then some r else f := by
  rw [loopU_eq (Int.le_refl 0) h2, Int.sub_zero]
  have := goU_any (f := f) h i.toNat 0 (by omega)
  simpa using this
end
section
variable {K α : Type} [DecidableEq K]
theorem mfind_off : ∀ (l : List (K × α)) (a : K) (i : Nat), mfind l a i = (mfind l a 0).map fun p => (p.1 + i, p.2)
  | [], _, _ => rfl
  | (b, u) :: r, a, i => by
    simp only [mfind]
    split
    · simp
    · rw [mfind_off r a (i + 1), mfind_off r a (0 + 1)]
      cases mfind r a 0 with
      | none => rfl
      | some p => simp; omega
theorem mget_cons (b : K) (u : α) (r : List (K × α)) (a : K) (d : α) : mget ((b, u) :: r) a d = if a = b then u else mget r a d := by
  unfold mget
  simp only [mfind]
  by_cases h : a = b
  · simp [h]
  · rw [if_neg h, if_neg h, mfind_off r a (0 + 1)]
    cases mfind r a 0 <;> rfl
theorem mput_cons (b : K) (u : α) (r : List (K × α)) (a : K) (v : α) : mput ((b, u) :: r) a v = if a = b then (a, v) :: r else (b, u) :: mput r a v := by
  unfold mput
  simp only [mfind]
  by_cases h : a = b
  · simp [h]
  · rw [if_neg h, if_neg h, mfind_off r a (0 + 1)]
    cases mfind r a 0 <;> simp
theorem mget_mput : ∀ (l : List (K × α)) (a : K) (v : α) (b : K) (d : α), mget (mput l a v) b d = if b = a then v else mget l b d
  | [], a, v, b, d => by
    show mget ([(a, v)]) b d = _
    rw [mget_cons]
  | (c, u) :: r, a, v, b, d => by
    rw [mput_cons]
    by_cases h : a = c
    · subst h
      rw [if_pos rfl, mget_cons, mget_cons]
      split <;> rfl
    · rw [if_neg h, mget_cons, mget_cons, mget_mput r a v b d]
      by_cases h2 : b = c
      · subst h2
        rw [if_pos rfl, if_neg (fun e => h e.symm), if_pos rfl]
      · rw [if_neg h2, if_neg h2]
omit [DecidableEq K] in
theorem any_two (p q : K → Bool) : ∀ l : List K, (l.any fun y => p y || q y) = (l.any p || l.any q)
  | [] => rfl
  | x :: l => by
    rw [List.any_cons, List.any_cons, List.any_cons, any_two p q l]
    cases p x <;> cases q x <;> cases l.any p <;> rfl
theorem any_is (l : List K) (a : K) : (l.any fun y => decide (y = a)) = decide (a ∈ l) := by
  rw [Bool.eq_iff_iff]
  simp
end


section
variable {α β σ : Type}
theorem goI_ex {step : Int → α → σ → (σ → Option β) → Option β} {fin : σ → Option β} {I : Int → List α → σ → Prop} {Q : β → Prop} (hfin : ∀ i s, I i [] s → ∃ v, fin s = some v ∧ Q v)
    (hstep : ∀ i x l s k, I i (x :: l) s → (∀ s', I (i + 1) l s' → ∃ v, k s' = some v ∧ Q v) → ∃ v, step i x s k = some v ∧ Q v) : ∀ (l : List α) (i : Int) (s : σ), I i l s → ∃ v, goI step fin i l s = some v ∧ Q v
  | [], i, s, h => hfin i s h
  | x :: l, i, s, h => hstep i x l s _ h fun s' h' => goI_ex hfin hstep l (i + 1) s' h'
theorem loopI_ex {step : Int → α → σ → (σ → Option β) → Option β} {fin : σ → Option β} (I : Int → List α → σ → Prop) {Q : β → Prop} {l : List α} {s : σ} (hl : (l.length : Int) ≤ 9223372036854775807) (h0 : I 0 l s) (hfin : ∀ i s, I i [] s → ∃ v, fin s = some v ∧ Q v)
    (hstep : ∀ i x l s k, I i (x :: l) s → (∀ s', I (i + 1) l s' → ∃ v, k s' = some v ∧ Q v) → ∃ v, step i x s k = some v ∧ Q v) : ∃ v, loopI l step fin s = some v ∧ Q v := by
  rw [loopI_eq hl]; exact goI_ex hfin hstep l 0 s h0
end
/-- what is wrong with a table: of those behind some -/
def tabG : List T_Rule → List T_Rule → Int
  | _, [] => 0
  | p, x :: l => if x.chk ≠ 0 then x.chk else if (p.any fun y => decide (y.Prio = x.Prio) && decide (y.Cube = x.Cube)) = true then 7 else tabG (p ++ [x]) l
theorem tabG_ok : ∀ {p l : List T_Rule}, tabG p l = 0 → ∀ r ∈ l, r.chk = 0
  | _, [], _ => fun r h => by cases h
  | p, x :: l, h => by
    unfold tabG at h
    split at h
    · rename_i h1; exact absurd h h1
    · rename_i h1
      split at h
      · cases h
      · intro r hr
        rcases List.mem_cons.1 hr with rfl | hr
        · exact Classical.not_not.1 h1
        · exact tabG_ok h r hr
def tabF (t : List T_Rule) : Int := if 12 < (t.length : Int) then 4 else tabG [] t
theorem goI_tab {t : List T_Rule} {step : Int → T_Rule → Unit → (Unit → Option Int) → Option Int} {fin : Unit → Option Int} (hf : fin () = some 0) (ht : ¬ 12 < (t.length : Int))
    (h : ∀ (p l : List T_Rule) x k, t = p ++ x :: l → step (p.length : Int) x () k = if x.chk ≠ 0 then some x.chk else if (p.any fun y => decide (y.Prio = x.Prio) && decide (y.Cube = x.Cube)) = true then some 7 else k ()) :
    ∀ (l p : List T_Rule), t = p ++ l → goI step fin (p.length : Int) l () = some (tabG p l)
  | [], p, _ => hf
  | x :: l, p, e => by
    rw [goI, h p l x _ e, tabG]
    have e2 := goI_tab hf ht h l (p ++ [x]) (by rw [e]; simp)
    have e3 : (((p ++ [x]).length : Nat) : Int) = (p.length : Int) + 1 := by simp
    rw [e3] at e2
    rw [e2]
    split
    · rfl
    · split <;> rfl
theorem take_pre {p l : List T_Rule} : (p ++ l).take p.length = p := by simp
theorem s_rule_Table (t : List T_Rule) : t_rule_Table t = some (tabF t) := by
  have hM : maxI = 9223372036854775807 := rfl
  unfold t_rule_Table tabF
  by_cases h : 12 < (t.length : Int)
  · rw [if_pos (decide_eq_true h), if_pos h]
  rw [if_neg (by simpa using h), if_neg h]
  simp only [join_eq]
  rw [loopI_eq (by omega)]
  refine goI_tab (t := t) rfl h (fun p l x k e => ?_) t [] rfl
  rw [s_rule_Check, Option.bind_some]
  have hp : p.length ≤ t.length := by rw [e]; simp
  have hs : slc_hi t (p.length : Int) = some p := by
    unfold slc_hi
    rw [if_pos ⟨by omega, by omega⟩]
    have : ((p.length : Int)).toNat = p.length := rfl
    rw [this, e, take_pre]
  rw [hs, Option.bind_some]
  have hc : t_slices_ContainsFunc_api_Table_api_Rule p (fun a33 => t_rule_Table_1 a33 x) = some (p.any fun y => decide (y.Prio = x.Prio) && decide (y.Cube = x.Cube)) := by
    unfold t_slices_ContainsFunc_api_Table_api_Rule
    have : ∃ j, t_slices_IndexFunc_api_Table_api_Rule p (fun a33 => t_rule_Table_1 a33 x) = some j ∧ decide (0 ≤ j) = p.any fun y => decide (y.Prio = x.Prio) && decide (y.Cube = x.Cube) := by
      unfold t_slices_IndexFunc_api_Table_api_Rule
      simp only [join_eq]
      refine loopI_ex (fun i l _ => 0 ≤ i ∧ (p.any fun y => decide (y.Prio = x.Prio) && decide (y.Cube = x.Cube)) = l.any fun y => decide (y.Prio = x.Prio) && decide (y.Cube = x.Cube)) (by omega) ⟨Int.le_refl _, rfl⟩ (fun i s hI => ⟨-1, rfl, by rw [hI.2]; rfl⟩) (fun i y l s k hI hk => ?_)
      simp only [t_rule_Table_1, t_rule_Key, Option.bind_some]
      obtain ⟨i0, i1⟩ := hI
      rw [List.any_cons] at i1
      cases hb : (decide (y.Prio = x.Prio) && decide (y.Cube = x.Cube)) with
      | true => exact ⟨i, rfl, by rw [i1, hb]; simpa using i0⟩
      | false =>
        rw [if_neg (by decide)]
        exact hk () ⟨by omega, by rw [i1, hb]; rfl⟩
    obtain ⟨j, e1, e2⟩ := this
    rw [e1, Option.bind_some, e2]
  rw [hc, Option.bind_some]
  by_cases hx : x.chk = 0 <;> simp [hx]

section
variable {α β σ K : Type} [DecidableEq K]
theorem goI_inv {step : Int → α → σ → (σ → Option β) → Option β} {fin : σ → Option β} (I : Nat → σ → Prop) (R : Option β → Prop) (hfin : ∀ p s, I p s → R (fin s)) (h : ∀ p x s k, I p s → (∀ s', I (p + 1) s' → R (k s')) → R (step (p : Int) x s k)) : ∀ (l : List α) (p : Nat) (s : σ), I p s → R (goI step fin (p : Int) l s)
  | [], p, s, hI => hfin p s hI
  | x :: l, p, s, hI => h p x s _ hI fun s' hs' => goI_inv I R hfin h l (p + 1) s' hs'
theorem mput_new {l : List (K × α)} {a : K} (v : α) (h : mhas l a = false) : mput l a v = l ++ [(a, v)] := by
  unfold mhas at h
  unfold mput
  cases hm : mfind l a 0 with
  | none => rfl
  | some p => rw [hm] at h; cases h
theorem mfind_snoc (a : K) (v : α) : ∀ (l : List (K × α)) (i : Nat), (mfind (l ++ [(a, v)]) a i).isSome = true
  | [], i => by simp [mfind]
  | (b, u) :: l, i => by
    simp only [List.cons_append, mfind]
    split
    · rfl
    · exact mfind_snoc a v l (i + 1)
theorem mhas_put {l : List (K × α)} {a : K} (v : α) (h : mhas l a = false) : mhas (mput l a v) a = true := by
  rw [mput_new v h]; exact mfind_snoc a v l 0
end

/-- how many ops of a round were heard -/
def hdN (a : T_agent_Agent) (i : Int) : Nat := if i < 0 ∨ 20 ≤ i then 0 else ((idx a.rounds i).map fun r => r.ops.length).getD 0
structure AInv (t : List T_Rule) (p : Nat) (a : T_agent_Agent) : Prop where
  number : a.number = 2
  table : a.table = t
  len : a.rounds.length = 20
  done : a.done = []
  rounds : ∀ r ∈ a.rounds, r.done = false ∧ r.ops.length ≤ p
section
variable {t : List T_Rule} {p : Nat} {a : T_agent_Agent}
theorem idx_in {i : Int} {l : List T_agent_round} (hl : l.length = 20) (h0 : 0 ≤ i) (h1 : i < 20) : ∃ r, idx l i = some r ∧ r ∈ l := by
  have hlt : i.toNat < l.length := by omega
  refine ⟨l[i.toNat], ?_, List.getElem_mem hlt⟩
  unfold idx
  rw [if_pos h0]
  exact List.getElem?_eq_getElem hlt
theorem s_Heard (h : a.rounds.length = 20) (i : Int) : t_agent_Agent_Heard a i = some (hdN a i : Int) := by
  unfold t_agent_Agent_Heard hdN
  rw [decide_eq_true h, need_t]
  by_cases hc : i < 0 ∨ 20 ≤ i
  · rw [if_pos (by simpa using hc), if_pos hc]; rfl
  · rw [if_neg (by simpa using hc), if_neg hc]
    obtain ⟨r, hr, _⟩ := idx_in (i := i) h (by omega) (by omega)
    rw [hr]; rfl
theorem idx_setR {i : Int} {r r' : T_agent_round} (h : idx a.rounds i = some r) : idx (a.setR i r').rounds i = some r' := by
  obtain ⟨h0, h1⟩ := idx_some' h
  unfold idx T_agent_Agent.setR
  rw [if_pos h0]
  simp only
  rw [List.getElem?_set_self (List.getElem?_eq_some_iff.1 h1).1]
theorem inv_setR (h : AInv t p a) {i : Int} {r' : T_agent_round} (hr : r'.done = false ∧ r'.ops.length ≤ p + 1) : AInv t (p + 1) (a.setR i r') := by
  refine ⟨h.number, h.table, by unfold T_agent_Agent.setR; simpa using h.len, h.done, fun r hr2 => ?_⟩
  rcases List.mem_or_eq_of_mem_set hr2 with h1 | rfl
  · have := h.rounds r h1; exact ⟨this.1, by omega⟩
  · exact hr
theorem inv_up (h : AInv t p a) : AInv t (p + 1) a := ⟨h.number, h.table, h.len, h.done, fun r hr => by have := h.rounds r hr; exact ⟨this.1, by omega⟩⟩
theorem hd_setR {i : Int} {r r' : T_agent_round} (h : idx a.rounds i = some r) (h0 : 0 ≤ i) (h1 : i < 20) : hdN a i = r.ops.length ∧ hdN (a.setR i r') i = r'.ops.length := by
  unfold hdN
  rw [if_neg (by omega), if_neg (by omega), h, idx_setR h]
  exact ⟨rfl, rfl⟩
/-- what hearing comes to, once and twice -/
theorem hear_two (h : AInv t p a) (m : T_Msg) : ∃ e a', t_agent_Agent_Hear a m = some ([], e, a') ∧ t_agent_Agent_Hear a' m = some ([], e, a') ∧ AInv t (p + 1) a' ∧ ((a' = a) ∨ e = 0 ∧ (hdN a' m.Round = hdN a m.Round ∨ hdN a' m.Round = hdN a m.Round + 1)) ∧ (m.Switch ≠ 2 → e ≠ 0) := by
  have hear : ∀ b, AInv t p b ∨ AInv t (p + 1) b → t_agent_Agent_Hear b m = if m.chk ≠ 0 then some ([], m.chk, b) else if m.Switch ≠ 2 then some ([], 5, b) else if m.Kind = 3 then some ([], 6, b) else (idx b.rounds m.Round).bind fun r =>
      if (decide (m.Kind = 2)) = true then (if (decide (r.many < 0)) = true then some ([], 0, b.setR m.Round ⟨r.ops, m.Index, r.done⟩) else some ([], 0, b)) else (if (!mhas r.ops m.Index) = true then some ([], 0, b.setR m.Round ⟨mput r.ops m.Index m.Op, r.many, r.done⟩) else some ([], 0, b)) := fun b hb => by
    have hlen : b.rounds.length = 20 := by rcases hb with hb | hb <;> exact hb.len
    have hnum : b.number = 2 := by rcases hb with hb | hb <;> exact hb.number
    have hdn : ∀ r ∈ b.rounds, r.done = false := fun r hr => by rcases hb with hb | hb <;> exact (hb.rounds r hr).1
    unfold t_agent_Agent_Hear
    rw [decide_eq_true hlen, need_t, s_wire_Check, Option.bind_some, hnum]
    by_cases h1 : m.chk = 0
    · rw [if_neg (show ¬ ((!decide (m.chk = 0)) = true) by simp [h1]), if_neg (show ¬ (m.chk ≠ 0) from fun h => h h1)]
      by_cases h2 : m.Switch = 2
      · rw [if_neg (show ¬ ((decide (m.Switch ≠ 2)) = true) by simp [h2]), if_neg (show ¬ (m.Switch ≠ 2) from fun h => h h2)]
        by_cases h3 : m.Kind = 3
        · rw [if_pos (show (decide (m.Kind = 3)) = true from decide_eq_true h3), if_pos h3]
        · rw [if_neg (show ¬ ((decide (m.Kind = 3)) = true) by simpa using h3), if_neg h3]
          cases hr : idx b.rounds m.Round with
          | none => rfl
          | some r =>
            have hd := hdn r (List.mem_of_getElem? (idx_some' hr).2)
            simp only [Option.bind_some, hd, Bool.false_and, Bool.false_eq_true, if_false]
      · rw [if_pos (show (decide (m.Switch ≠ 2)) = true from decide_eq_true h2), if_pos h2]
    · rw [if_pos (show (!decide (m.chk = 0)) = true by simp [h1]), if_pos h1]
  have ha := hear a (.inl h)
  by_cases h1 : m.chk = 0
  rotate_left
  · rw [if_pos h1] at ha
    exact ⟨_, a, ha, ha, inv_up h, .inl rfl, fun _ => h1⟩
  rw [if_neg (show ¬ (m.chk ≠ 0) from fun h => h h1)] at ha
  by_cases h2 : m.Switch = 2
  rotate_left
  · rw [if_pos h2] at ha
    exact ⟨_, a, ha, ha, inv_up h, .inl rfl, fun _ => by decide⟩
  rw [if_neg (show ¬ (m.Switch ≠ 2) from fun h => h h2)] at ha
  by_cases h3 : m.Kind = 3
  · rw [if_pos h3] at ha
    exact ⟨_, a, ha, ha, inv_up h, .inl rfl, fun h9 => absurd h2 h9⟩
  rw [if_neg h3] at ha
  obtain ⟨hr0, hr1, hi0⟩ : 0 ≤ m.Round ∧ m.Round < 20 ∧ 0 ≤ m.Index := by
    unfold T_Msg.chk at h1
    split at h1
    · cases h1
    · omega
  obtain ⟨r, hr, hmem⟩ := idx_in (i := m.Round) h.len hr0 hr1
  obtain ⟨hd, hle⟩ := h.rounds r hmem
  rw [hr, Option.bind_some] at ha
  have second : ∀ r', AInv t (p + 1) (a.setR m.Round r') → t_agent_Agent_Hear (a.setR m.Round r') m = if (decide (m.Kind = 2)) = true then (if (decide (r'.many < 0)) = true then some ([], 0, (a.setR m.Round r').setR m.Round ⟨r'.ops, m.Index, r'.done⟩) else some ([], 0, a.setR m.Round r')) else (if (!mhas r'.ops m.Index) = true then some ([], 0, (a.setR m.Round r').setR m.Round ⟨mput r'.ops m.Index m.Op, r'.many, r'.done⟩) else some ([], 0, a.setR m.Round r')) := fun r' hI => by
    rw [hear _ (.inr hI), if_neg (show ¬ (m.chk ≠ 0) from fun h => h h1), if_neg (show ¬ (m.Switch ≠ 2) from fun h => h h2), if_neg h3, idx_setR hr, Option.bind_some]
  by_cases h4 : m.Kind = 2
  · rw [if_pos (by simpa using h4)] at ha
    by_cases h5 : r.many < 0
    · rw [if_pos (by simpa using h5)] at ha
      have hI : AInv t (p + 1) (a.setR m.Round ⟨r.ops, m.Index, r.done⟩) := inv_setR h ⟨hd, by simp only; omega⟩
      have hs := second _ hI
      rw [if_pos (by simpa using h4), if_neg (by simp only [decide_eq_true_eq]; omega)] at hs
      have hh := hd_setR (r' := ⟨r.ops, m.Index, r.done⟩) hr hr0 hr1
      exact ⟨0, _, ha, hs, hI, .inr ⟨rfl, .inl (by rw [hh.1, hh.2])⟩, fun h9 => absurd h2 h9⟩
    · rw [if_neg (by simpa using h5)] at ha
      exact ⟨_, a, ha, ha, inv_up h, .inl rfl, fun h9 => absurd h2 h9⟩
  · rw [if_neg (by simpa using h4)] at ha
    by_cases h5 : mhas r.ops m.Index = true
    · rw [if_neg (by simp [h5])] at ha
      exact ⟨_, a, ha, ha, inv_up h, .inl rfl, fun h9 => absurd h2 h9⟩
    · have h5 : mhas r.ops m.Index = false := by simpa using h5
      rw [if_pos (by simp [h5])] at ha
      have hlen : (mput r.ops m.Index m.Op).length = r.ops.length + 1 := by rw [mput_new _ h5]; simp
      have hI : AInv t (p + 1) (a.setR m.Round ⟨mput r.ops m.Index m.Op, r.many, r.done⟩) := inv_setR h ⟨hd, by simp only; omega⟩
      have hs := second _ hI
      rw [if_neg (by simpa using h4), if_neg (by simp [mhas_put m.Op h5])] at hs
      have hh := hd_setR (r' := ⟨mput r.ops m.Index m.Op, r.many, r.done⟩) hr hr0 hr1
      exact ⟨0, _, ha, hs, hI, .inr ⟨rfl, .inr (by rw [hh.1, hh.2]; exact hlen)⟩, fun h9 => absurd h2 h9⟩
theorem hd_le (h : AInv t p a) (i : Int) : hdN a i ≤ p := by
  unfold hdN
  split
  · exact Nat.zero_le _
  · cases hr : idx a.rounds i with
    | none => exact Nat.zero_le _
    | some r => exact (h.rounds r (List.mem_of_getElem? (idx_some' hr).2)).2
end
theorem s_aErr (x y : Int) : t_railsame_Error x y = some (decide (x = y)) := rfl
theorem aTable_go (b : List T_Rule) {F : Option Bool} : ∀ (l : List T_Rule) (i : Nat), b.drop i = l → goI (fun (i16 : Int) x17 (s12 : Unit) k13 => (idx b i16).bind fun r26 => if (!decide (x17 = r26)) = true then (some false) else (k13 ())) (fun (s12 : Unit) => F) (i : Int) l () = F
  | [], i, _ => rfl
  | x :: l, i, h => by
    have hx : b[i]? = some x := by rw [← List.head?_drop, h]; rfl
    simp only [goI]
    rw [idx_nat, hx, Option.bind_some, if_neg (by simp)]
    exact aTable_go b l (i + 1) (by rw [← List.tail_drop, h]; rfl)
theorem s_aTable (l : List T_Rule) (h : l.length ≤ 1000000) : t_railsame_Table l l = some true := by
  unfold t_railsame_Table
  rw [if_neg (by simp)]
  simp only [join_eq]
  rw [loopI_eq (by unfold maxI; omega)]
  exact aTable_go l l 0 rfl
theorem s_aMsgs : t_railsame_Msgs [] [] = some true := by
  unfold t_railsame_Msgs
  rw [if_neg (by simp)]
  simp only [join_eq]
  rw [loopI_eq (by decide)]
  rfl
theorem t_AgentElse (tb : List T_Rule) (ms : List T_Msg) (hms : (ms.length : Int) ≤ maxI) : t_raillaw4_AgentElse tb ms = some true := by
  unfold t_raillaw4_AgentElse t_agent_New
  have e7 : ∀ (l : List T_Rule), (if ((decide ((7 : Int) < 1)) || (decide ((6 : Int) < 7))) = true then (some (none, 1) : Option (Option T_agent_Agent × Int)) else (t_rule_Table l).bind fun r => if (!decide (r = 0)) = true then some (none, r) else (cln l).bind fun l2 => some (some ⟨7, l2, List.replicate 20 ⟨[], -1, false⟩, []⟩, 0)) = some (none, 1) := fun l => rfl
  rw [e7]
  rw [if_neg (by decide), s_rule_Table, Option.bind_some]
  by_cases h0 : tabF tb = 0
  rotate_left
  · simp [h0, caseO]
  have hl : tb.length ≤ 12 := by
    unfold tabF at h0
    split at h0
    · cases h0
    · omega
  have hc : cln tb = some tb := by unfold cln; rw [if_pos (by omega)]
  rw [if_neg (by simp [h0]), hc]
  simp only [Option.bind_some, caseO, decide_true, Bool.not_true, Bool.false_eq_true, if_false, s_aErr, join_eq]
  rw [loopI_eq hms]
  have fin : ∀ a p, AInv tb p a → ((t_agent_Agent_Table a).bind fun r27 => (t_railsame_Table r27 tb).bind fun r30 => (gd r30 default (t_agent_Agent_Done a)).bind fun r35 => some (r30 && (decide ((List.length r35 : Int) = 0)))) = some true := fun a p h => by
    have h1 : t_agent_Agent_Table a = some tb := by unfold t_agent_Agent_Table; rw [h.table, hc]
    have h2 : t_agent_Agent_Done a = some [] := by unfold t_agent_Agent_Done; rw [decide_eq_true h.len, need_t, h.done]; rfl
    rw [h1, Option.bind_some, s_aTable tb (by omega), Option.bind_some, gd_true, h2]
    rfl
  refine goI_inv (fun p a => AInv tb p a) (fun r => r = some true) (fun p a h => fin a p h) (fun p m a k h hk => ?_) ms 0 _ ⟨rfl, rfl, by simp, rfl, fun r hr => ?_⟩
  · by_cases hp : (p : Int) < 40
    rotate_left
    · rw [if_neg (by simpa using hp)]
      exact fin a p h
    rw [if_pos (by simpa using hp)]
    obtain ⟨e, a', g1, g2, g3, g4, g5⟩ := hear_two h m
    have hle := hd_le h m.Round
    rw [s_Heard h.len, Option.bind_some, g1, Option.bind_some, s_Heard g3.len, Option.bind_some, g2, Option.bind_some, s_aMsgs, Option.bind_some]
    simp only [Bool.not_true, Bool.false_or, bne_self_eq_false, Bool.not_false, gd_true, s_Heard g3.len, Option.bind_some, ne_eq, not_true_eq_false, decide_false]
    rw [wr_id (by omega) (by omega)]
    rw [if_neg]
    · exact hk a' g3
    · have h9 : ¬ ((hdN a m.Round : Int) + 1 < (hdN a' m.Round : Int)) := by
        rcases g4 with rfl | ⟨_, g4 | g4⟩ <;> omega
      have h8 : ¬ (e ≠ 0 ∧ (hdN a' m.Round : Int) ≠ (hdN a m.Round : Int)) := by
        rcases g4 with rfl | ⟨g4, _⟩
        · exact fun h => h.2 rfl
        · exact fun h => h.1 g4
      have h7 : ¬ (m.Switch ≠ 2 ∧ e = 0) := fun h => g5 h.1 h.2
      simp only [Bool.or_eq_true, Bool.and_eq_true, Bool.not_eq_true', decide_eq_true_eq, decide_eq_false_iff_not]
      rintro ((h | h) | h)
      · exact h9 h
      · exact h8 h
      · exact h7 h
  · rw [List.eq_of_mem_replicate hr]; exact ⟨rfl, by simp⟩
theorem walk_AgentElse (tb : List T_Rule) (ms : List T_Msg) {p : Prop} (_ : p) (u1 : wL maxLen (fun x => x.wf maxLen) ms) : t_raillaw4_AgentElse tb ms = some true := t_AgentElse tb ms (by have := u1.1; unfold maxLen at this; unfold maxI; omega)
end Go.Proofs.YtgfleiknigjnbaaDoor.Ty
