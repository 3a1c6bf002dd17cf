/- A drive is played as the document tells, step by step. -/
import Derived.Test.YtgfleiknigjnbaaDoorTyA
import Derived.Test.YtgfleiknigjnbaaDoorSBase
import Derived.Test.YtgfleiknigjnbaaDoorPlain
namespace Go.Proofs.YtgfleiknigjnbaaDoor.Ty
open Go Go.RowKit Go.Proofs.YtgfleiknigjnbaaDoor.Den
set_option linter.unusedSimpArgs false
set_option linter.unusedVariables false
set_option maxRecDepth 100000

abbrev cf (c : T_Cube) : Int := cchk c.Mask c.Bits
abbrev hs (c : T_Cube) (h : Int) : Bool := chas c.Mask c.Bits h
theorem and_andNot' {m b : Int} (h : 0 ≤ m ∧ m < 16 ∧ 0 ≤ b ∧ b < 16) : bits .and .i64 b m = b ↔ bits .andNot .i64 b m = 0 := by
  obtain ⟨h1, h2, h3, h4⟩ := h
  obtain ⟨m, rfl⟩ := Int.eq_ofNat_of_zero_le h1
  obtain ⟨b, rfl⟩ := Int.eq_ofNat_of_zero_le h3
  have hm : m < 16 := by omega
  have hb : b < 16 := by omega
  have H : ∀ x y : Fin 16, bits .and .i64 (y.val : Int) (x.val : Int) = (y.val : Int) ↔ bits .andNot .i64 (y.val : Int) (x.val : Int) = 0 := by decide +kernel
  exact H ⟨m, hm⟩ ⟨b, hb⟩
theorem hdr_eq (k : Int) : (decide (0 ≤ k) && decide (k < 16)) = hdr k := by unfold hdr; rw [Bool.eq_iff_iff]; simp
theorem s_cube_Header (k : Int) : t_cube_Header k = some (hdr k) := by rw [t_cube_Header, hdr_eq]
theorem s_rHeader (k : Int) : t_railref1_Header k = some (hdr k) := by rw [t_railref1_Header, hdr_eq]
theorem s_cube_Check (c : T_Cube) : t_cube_Check c = some (cf c) := by
  unfold t_cube_Check cf cchk
  simp only [s_cube_Header, Option.bind_some]
  cases h1 : hdr c.Mask
  · rw [hdr_not] at h1
    simp [gd_false]
    try omega
  · cases h2 : hdr c.Bits
    · rw [hdr_not] at h2
      simp [gd_true, h2]
      try omega
    · rw [hdr_iff] at h1 h2
      rw [if_pos (show 0 ≤ c.Mask ∧ c.Mask < 16 ∧ 0 ≤ c.Bits ∧ c.Bits < 16 by omega)]
      by_cases h3 : bits .andNot .i64 c.Bits c.Mask = 0 <;> simp [gd_true, h3]
theorem s_rCube (c : T_Cube) : t_railref1_Cube c = some (cf c) := by
  unfold t_railref1_Cube cf cchk
  simp only [s_rHeader, Option.bind_some]
  cases h1 : hdr c.Mask
  · rw [hdr_not] at h1
    simp
    omega
  · cases h2 : hdr c.Bits
    · rw [hdr_not] at h2
      simp
      omega
    · rw [hdr_iff] at h1 h2
      rw [if_pos (show 0 ≤ c.Mask ∧ c.Mask < 16 ∧ 0 ≤ c.Bits ∧ c.Bits < 16 by omega)]
      have h3 := and_andNot' ⟨h1.1, h1.2, h2.1, h2.2⟩
      by_cases h : bits .andNot .i64 c.Bits c.Mask = 0 
      · simp [h, h3.2 h]
      · have : ¬ bits .and .i64 c.Bits c.Mask = c.Bits := fun z => h (h3.1 z)
        simp [h, this]

def rchk (p m b o s v : Int) : Int :=
  if 0 ≤ p ∧ p ≤ 99 ∧ 0 ≤ o ∧ o ≤ 4 ∧ (0 ≤ s ∧ s < 16) ∧ (0 ≤ v ∧ v < 16) then
    (if cchk m b = 0 then (if bits .andNot .i64 v s = 0 ∧ ¬ (o = 0 ∧ s ≠ 0) then 0 else 3) else cchk m b)
  else 1
theorem rchk_0 {p m b o s v : Int} : rchk p m b o s v = 0 ↔ (0 ≤ p ∧ p ≤ 99 ∧ 0 ≤ o ∧ o ≤ 4 ∧ (0 ≤ s ∧ s < 16) ∧ (0 ≤ v ∧ v < 16)) ∧ cchk m b = 0 ∧ bits .andNot .i64 v s = 0 ∧ ¬ (o = 0 ∧ s ≠ 0) := by
  unfold rchk
  split
  · rename_i h
    split
    · rename_i h2
      split
      · rename_i h3; exact ⟨fun _ => ⟨h, h2, h3.1, h3.2⟩, fun _ => rfl⟩
      · rename_i h3; exact ⟨fun h => absurd h (by decide), fun h => absurd ⟨h.2.2.1, h.2.2.2⟩ h3⟩
    · rename_i h2; exact ⟨fun h => absurd h h2, fun h => absurd h.2.1 h2⟩
  · rename_i h; exact ⟨fun h => absurd h (by decide), fun h2 => absurd h2.1 h⟩

set_option maxHeartbeats 800000 in
def T_Rule.chk (x : T_Rule) : Int := rchk x.Prio x.Cube.Mask x.Cube.Bits x.Out x.Set x.Value
def op0 : T_Op := ⟨0, false, ⟨0, ⟨0, 0⟩, 0, 0, 0⟩⟩
def mg0 : T_Msg := ⟨0, 0, 0, 0, op0⟩
/-- the fault of a message -/
def T_Msg.chk (x : T_Msg) : Int :=
  if x.Kind < 1 ∨ 3 < x.Kind ∨ x.Switch < 1 ∨ 6 < x.Switch ∨ x.Round < 0 ∨ 20 ≤ x.Round ∨ x.Index < 0 ∨ 200 < x.Index then 1
  else if x.Kind ≠ 1 then (if x.Op ≠ op0 ∨ (x.Kind = 3 ∧ x.Index ≠ 0) then 3 else 0)
  else if x.Op.Rule.chk ≠ 0 then x.Op.Rule.chk
  else if x.Op.Switch ≠ x.Switch then 3 else 0
theorem rchk_ite (p m b o s v : Int) (hs hv : Bool) (h1 : hs = true ↔ 0 ≤ s ∧ s < 16) (h2 : hv = true ↔ 0 ≤ v ∧ v < 16) (e : Int) (he : e = cchk m b) :
    (if (((((decide (p < 0) || decide (99 < p)) || decide (o < 0)) || decide (4 < o)) || !hs) || !hv) = true then some (1 : Int) else
      if (!decide (e = 0)) = true then some e else if (decide (bits .andNot .i64 v s ≠ 0) || (decide (o = 0) && decide (s ≠ 0))) = true then some 3 else some 0) = some (rchk p m b o s v) := by
  subst he
  unfold rchk
  by_cases h : 0 ≤ p ∧ p ≤ 99 ∧ 0 ≤ o ∧ o ≤ 4 ∧ (0 ≤ s ∧ s < 16) ∧ (0 ≤ v ∧ v < 16)
  · rw [if_neg (by rw [h1.2 h.2.2.2.2.1, h2.2 h.2.2.2.2.2]; simp; omega), if_pos h]
    by_cases hk : cchk m b = 0
    · rw [if_neg (by simp [hk]), if_pos hk]
      generalize bits .andNot .i64 v s = B
      by_cases h3 : B = 0 <;> by_cases h4 : o = 0 <;> by_cases h5 : s = 0 <;> simp [h3, h4, h5]
    · rw [if_pos (by simp [hk]), if_neg hk]
  · rw [if_neg h, if_pos]
    cases hs <;> cases hv <;> simp at h1 h2 ⊢
    omega
theorem s_rule_Check (r : T_Rule) : t_rule_Check r = some r.chk := by
  have key := rchk_ite r.Prio r.Cube.Mask r.Cube.Bits r.Out r.Set r.Value (hdr r.Set) (hdr r.Value) hdr_iff hdr_iff (cf r.Cube) rfl
  unfold t_rule_Check T_Rule.chk
  simp only [s_cube_Header, s_cube_Check, Option.bind_some]
  rw [← key]
  cases hA : (((decide (r.Prio < 0) || decide (99 < r.Prio)) || decide (r.Out < 0)) || decide (4 < r.Out))
  · cases hB : hdr r.Set
    · simp [gd_true, gd_false]
    · simp only [Bool.false_or, Bool.not_false, Bool.not_true, gd_true, Option.bind_some]
  · simp [gd_false]
theorem s_rRule (r : T_Rule) : t_railref1_Rule r = some r.chk := by
  have key := rchk_ite r.Prio r.Cube.Mask r.Cube.Bits r.Out r.Set r.Value (hdr r.Set) (hdr r.Value) hdr_iff hdr_iff (cf r.Cube) rfl
  unfold t_railref1_Rule T_Rule.chk
  simp only [s_rHeader, s_rCube, Option.bind_some]
  rw [← key]
  by_cases hA : (((((decide (r.Prio < 0) || decide (99 < r.Prio)) || decide (r.Out < 0)) || decide (4 < r.Out)) || !hdr r.Set) || !hdr r.Value) = true
  · rw [if_pos hA, if_pos hA]
  · rw [if_neg hA, if_neg hA]
    have hv : 0 ≤ r.Set ∧ r.Set < 16 ∧ 0 ≤ r.Value ∧ r.Value < 16 := by
      simp only [Bool.or_eq_true, not_or, Bool.not_eq_true', Bool.not_eq_false, hdr_iff] at hA
      omega
    have e2 : cf (⟨r.Set, r.Value⟩ : T_Cube) = if bits .andNot .i64 r.Value r.Set = 0 then 0 else 3 := by
      unfold cf cchk; rw [if_pos hv]
    rw [e2]
    by_cases h0 : cf r.Cube = 0
    · by_cases h3 : bits .andNot .i64 r.Value r.Set = 0 <;> simp [h0, h3, gd_true, gd_false]
    · simp [h0]
theorem s_wire_Check (m : T_Msg) : t_wire_Check m = some m.chk := by
  unfold t_wire_Check T_Msg.chk
  simp only [s_rule_Check, Option.bind_some]
  by_cases h1 : m.Kind < 1 ∨ 3 < m.Kind ∨ m.Switch < 1 ∨ 6 < m.Switch ∨ m.Round < 0 ∨ 20 ≤ m.Round ∨ m.Index < 0 ∨ 200 < m.Index
  · rw [if_pos h1, if_pos (by simp; omega)]
  · rw [if_neg h1, if_neg (by simp; omega)]
    by_cases h2 : m.Kind = 1
    · by_cases h3 : m.Op.Rule.chk = 0 <;> by_cases h4 : m.Op.Switch = m.Switch <;> simp [h2, h3, h4]
    · rw [if_pos (decide_eq_true h2), if_pos h2]
      have e : (⟨0, false, ⟨0, ⟨0, 0⟩, 0, 0, 0⟩⟩ : T_Op) = op0 := rfl
      rw [e]
      by_cases h3 : m.Op = op0 <;> by_cases h4 : m.Kind = 3 <;> by_cases h5 : m.Index = 0 <;> simp [h3, h4, h5]
theorem s_rMsg (m : T_Msg) : t_railref2_Msg m = some m.chk := by
  unfold t_railref2_Msg T_Msg.chk
  simp only [s_rRule, Option.bind_some]
  by_cases h1 : m.Kind < 1 ∨ 3 < m.Kind ∨ m.Switch < 1 ∨ 6 < m.Switch ∨ m.Round < 0 ∨ 20 ≤ m.Round ∨ m.Index < 0 ∨ 200 < m.Index
  · rw [if_pos h1, if_pos (by simp; omega)]
  · rw [if_neg h1, if_neg (by simp; omega)]
    by_cases h2 : m.Kind = 1
    · by_cases h3 : m.Op.Rule.chk = 0 <;> by_cases h4 : m.Op.Switch = m.Switch <;> simp [h2, h3, h4]
    · rw [if_pos (decide_eq_true h2), if_pos h2]
      have e : (⟨0, false, ⟨0, ⟨0, 0⟩, 0, 0, 0⟩⟩ : T_Op) = op0 := rfl
      rw [e]
      by_cases h3 : m.Op = op0 <;> by_cases h4 : m.Kind = 3 <;> by_cases h5 : m.Index = 0 <;> simp [h3, h4, h5]

section
variable {α β σ : Type}
/-- what each end of a loop has -/
theorem goI_post {step : Int → α → σ → (σ → Option β) → Option β} {fin : σ → Option β} {Q : β → Prop} (hfin : ∀ s v, fin s = some v → Q v)
    (hstep : ∀ i x s k, (∀ s' v, k s' = some v → Q v) → ∀ v, step i x s k = some v → Q v) : ∀ (l : List α) (i : Int) (s : σ) (v : β), goI step fin i l s = some v → Q v
  | [], i, s, v, h => hfin s v h
  | x :: l, i, s, v, h => hstep i x s _ (fun s' v' h' => goI_post hfin hstep l (i + 1) s' v' h') v h
theorem loopI_post {step : Int → α → σ → (σ → Option β) → Option β} {fin : σ → Option β} (Q : β → Prop) {l : List α} {s : σ} {v : β} (h : loopI l step fin s = some v) (hfin : ∀ s v, fin s = some v → Q v)
    (hstep : ∀ i x s k, (∀ s' v, k s' = some v → Q v) → ∀ v, step i x s k = some v → Q v) : Q v := by
  unfold loopI at h
  rw [need_some] at h
  exact goI_post hfin hstep l 0 s v h.2
end
section
variable {α β σ τ : Type}
/-- two loops that go alike -/
theorem goI_sim {step : Int → α → σ → (σ → Option β) → Option β} {step' : Int → α → τ → (τ → Option β) → Option β} {fin : σ → Option β} {fin' : τ → Option β} (I : Int → List α → σ → τ → Prop) (hfin : ∀ i s t, I i [] s t → fin s = fin' t)
    (hstep : ∀ i x l s t k k', I i (x :: l) s t → (∀ s' t', I (i + 1) l s' t' → k s' = k' t') → step i x s k = step' i x t k') : ∀ (l : List α) (i : Int) (s : σ) (t : τ), I i l s t → goI step fin i l s = goI step' fin' i l t
  | [], i, s, t, h => hfin i s t h
  | x :: l, i, s, t, h => hstep i x l s t _ _ h fun s' t' h' => goI_sim I hfin hstep l (i + 1) s' t' h'
theorem loopI_sim {step : Int → α → σ → (σ → Option β) → Option β} {step' : Int → α → τ → (τ → Option β) → Option β} {fin : σ → Option β} {fin' : τ → Option β} (I : Int → List α → σ → τ → Prop) {l : List α} {s : σ} {t : τ} (h0 : I 0 l s t) (hfin : ∀ i s t, I i [] s t → fin s = fin' t)
    (hstep : ∀ i x l s t k k', I i (x :: l) s t → (∀ s' t', I (i + 1) l s' t' → k s' = k' t') → step i x s k = step' i x t k') : loopI l step fin s = loopI l step' fin' t := by
  unfold loopI; rw [goI_sim I hfin hstep l 0 s t h0]
theorem loopI_any {step : Int → α → Unit → (Unit → Option β) → Option β} {f : Option β} (p : α → Bool) {r : β} {l : List α} (hl : (l.length : Int) ≤ maxI) (h : ∀ x i k, step i x () k = if p x = true then some r else k ()) : loopI l step (fun _ => f) () = if l.any p = true then some r else f := by
  rw [loopI_eq hl, goI_any (p := p) (r := r) l 0 fun x _ i k => h x i k]
theorem goU_any {l : List α} {p : α → Bool} {r : β} {step : Int → Unit → (Unit → Option β) → Option β} {f : Option β} (h : ∀ (j : Nat) x k, l[j]? = some x → step (j : Int) () k = if p x = true then some r else k ()) : ∀ (m i : Nat), i + m ≤ l.length → goU step (fun _ _ => f) m (i : Int) () = if ((l.drop i).take m).any p = true then some r else f
  | 0, i, _ => by simp [goU]
  | m + 1, i, hm => by
    have hi : i < l.length := by omega
    rw [goU, h i l[i] _ (List.getElem?_eq_getElem hi), List.drop_eq_getElem_cons hi, List.take_succ_cons, List.any_cons]
    have e : (i : Int) + 1 = ((i + 1 : Nat) : Int) := by omega
    rw [e, goU_any h m (i + 1) (by omega)]
    cases p l[i] <;> simp
theorem loopU_any {l : List α} (p : α → Bool) {r : β} {step : Int → Unit → (Unit → Option β) → Option β} {f : Option β} {i : Int} (h0 : 0 ≤ i) (h1 : i ≤ l.length) (h2 : i ≤ maxI) (h : ∀ (j : Nat) x k, l[j]? = some x → step (j : Int) () k = if p x = true then some r else k ()) : loopU 0 i step (fun _ _ => f) () = if (l.take i.toNat).any p = true then some r else f := by
  rw [loopU_eq (Int.le_refl 0) h2, Int.sub_zero]
  have := goU_any (f := f) h i.toNat 0 (by omega)
  simpa using this
end
section
variable {K α : Type} [DecidableEq K]
theorem mfind_off : ∀ (l : List (K × α)) (a : K) (i : Nat), mfind l a i = (mfind l a 0).map fun p => (p.1 + i, p.2)
  | [], _, _ => rfl
  | (b, u) :: r, a, i => by
    simp only [mfind]
    split
    · simp
    · rw [mfind_off r a (i + 1), mfind_off r a (0 + 1)]
      cases mfind r a 0 with
      | none => rfl
      | some p => simp; omega
theorem mget_cons (b : K) (u : α) (r : List (K × α)) (a : K) (d : α) : mget ((b, u) :: r) a d = if a = b then u else mget r a d := by
  unfold mget
  simp only [mfind]
  by_cases h : a = b
  · simp [h]
  · rw [if_neg h, if_neg h, mfind_off r a (0 + 1)]
    cases mfind r a 0 <;> rfl
theorem mput_cons (b : K) (u : α) (r : List (K × α)) (a : K) (v : α) : mput ((b, u) :: r) a v = if a = b then (a, v) :: r else (b, u) :: mput r a v := by
  unfold mput
  simp only [mfind]
  by_cases h : a = b
  · simp [h]
  · rw [if_neg h, if_neg h, mfind_off r a (0 + 1)]
    cases mfind r a 0 <;> simp
theorem mget_mput : ∀ (l : List (K × α)) (a : K) (v : α) (b : K) (d : α), mget (mput l a v) b d = if b = a then v else mget l b d
  | [], a, v, b, d => by
    show mget ([(a, v)]) b d = _
    rw [mget_cons]
  | (c, u) :: r, a, v, b, d => by
    rw [mput_cons]
    by_cases h : a = c
    · subst h
      rw [if_pos rfl, mget_cons, mget_cons]
      split <;> rfl
    · rw [if_neg h, mget_cons, mget_cons, mget_mput r a v b d]
      by_cases h2 : b = c
      · subst h2
        rw [if_pos rfl, if_neg (fun e => h e.symm), if_pos rfl]
      · rw [if_neg h2, if_neg h2]
omit [DecidableEq K] in
theorem any_two (p q : K → Bool) : ∀ l : List K, (l.any fun y => p y || q y) = (l.any p || l.any q)
  | [] => rfl
  | x :: l => by
    rw [List.any_cons, List.any_cons, List.any_cons, any_two p q l]
    cases p x <;> cases q x <;> cases l.any p <;> rfl
theorem any_is (l : List K) (a : K) : (l.any fun y => decide (y = a)) = decide (a ∈ l) := by
  rw [Bool.eq_iff_iff]
  simp
end

theorem compact_mem {zs : List Int} {x : Int} : x ∈ Lib.compact zs ↔ x ∈ zs := by
  unfold Lib.compact Lib.compactUpTo
  rw [List.mem_map]
  constructor
  · rintro ⟨j, hj, rfl⟩
    have hj := List.mem_range.1 (List.mem_filter.1 hj).1
    rw [getElem!_pos zs.toArray j (by simpa using hj)]
    simp
  · intro hx
    obtain ⟨j, hj, rfl⟩ := List.getElem_of_mem hx
    have : ∀ j (hj : j < zs.length), ∃ i, i ∈ (List.range zs.length).filter (Lib.keeps zs.toArray) ∧ zs.toArray[i]! = zs[j] := by
      intro j
      induction j with
      | zero =>
        intro hj
        refine ⟨0, List.mem_filter.2 ⟨List.mem_range.2 hj, by simp [Lib.keeps]⟩, ?_⟩
        rw [getElem!_pos zs.toArray 0 (by simpa using hj)]; simp
      | succ j ih =>
        intro hj
        by_cases h : zs.toArray[j + 1]! = zs.toArray[j]!
        · obtain ⟨i, h1, h2⟩ := ih (by omega)
          refine ⟨i, h1, ?_⟩
          rw [getElem!_pos zs.toArray (j + 1) (by simpa using hj), getElem!_pos zs.toArray j (by simp; omega)] at h
          simp at h
          rw [h2, h]
        · refine ⟨j + 1, List.mem_filter.2 ⟨List.mem_range.2 hj, Lib.keeps_pos h⟩, ?_⟩
          rw [getElem!_pos zs.toArray (j + 1) (by simpa using hj)]; simp
    exact this j hj
theorem compact_strict {zs : List Int} (h : zs.Pairwise (· ≤ ·)) : (Lib.compact zs).Pairwise (· < ·) := by
  unfold Lib.compact Lib.compactUpTo
  rw [List.pairwise_map]
  have h1 : ((List.range zs.length).filter (Lib.keeps zs.toArray)).Pairwise (· < ·) := List.Pairwise.filter _ List.pairwise_lt_range
  refine List.Pairwise.imp_of_mem ?_ h1
  intro i j hi hj hij
  obtain ⟨hi, _⟩ := List.mem_filter.1 hi
  obtain ⟨hj, hk⟩ := List.mem_filter.1 hj
  have hi := List.mem_range.1 hi
  have hj := List.mem_range.1 hj
  have hmono : ∀ (i j : Nat) (hi : i < zs.length) (hj : j < zs.length), i < j → zs[i] ≤ zs[j] := fun i j hi hj hij => List.pairwise_iff_getElem.1 h i j hi hj hij
  have hne : zs.toArray[j]! ≠ zs.toArray[j - 1]! := by
    unfold Lib.keeps at hk
    simp only [decide_eq_true_eq] at hk
    exact hk.resolve_left (by omega)
  rw [getElem!_pos zs.toArray j (by simpa using hj), getElem!_pos zs.toArray (j - 1) (by simp; omega)] at hne
  rw [getElem!_pos zs.toArray j (by simpa using hj), getElem!_pos zs.toArray i (by simpa using hi)]
  simp only [List.getElem_toArray] at hne ⊢
  have h2 := hmono (j - 1) j (by omega) hj (by omega)
  have h3 : zs[i] ≤ zs[j - 1] := by
    by_cases e : i = j - 1
    · subst e; exact Int.le_refl _
    · exact hmono i (j - 1) hi (by omega) (by omega)
  omega
theorem strict_eq : ∀ {l m : List Int}, l.Pairwise (· < ·) → m.Pairwise (· < ·) → (∀ x, x ∈ l ↔ x ∈ m) → l = m
  | [], [], _, _, _ => rfl
  | [], y :: m, _, _, h => absurd ((h y).2 (by simp)) (by simp)
  | x :: l, [], _, _, h => absurd ((h x).1 (by simp)) (by simp)
  | x :: l, y :: m, hl, hm, h => by
    obtain ⟨h1, h2⟩ := List.pairwise_cons.1 hl
    obtain ⟨h3, h4⟩ := List.pairwise_cons.1 hm
    have e : x = y := by
      have hx := (h x).1 (by simp)
      have hy := (h y).2 (by simp)
      rcases List.mem_cons.1 hx with e | hx
      · exact e
      · rcases List.mem_cons.1 hy with e | hy
        · exact e.symm
        · have := h3 x hx
          have := h1 y hy
          omega
    subst e
    rw [strict_eq h2 h4 fun z => ?_]
    constructor
    · intro hz
      rcases List.mem_cons.1 ((h z).1 (by simp [hz])) with e | hz'
      · have := h1 z hz; omega
      · exact hz'
    · intro hz
      rcases List.mem_cons.1 ((h z).2 (by simp [hz])) with e | hz'
      · have := h3 z hz; omega
      · exact hz'
theorem sorted_le (l : List Int) : (l.mergeSort fun x y => decide (x ≤ y)).Pairwise (· ≤ ·) := by
  have := List.pairwise_mergeSort (le := fun x y : Int => decide (x ≤ y)) (fun a b c h1 h2 => by simp at h1 h2 ⊢; omega) (fun a b => by simp; omega) l
  exact this.imp fun h => by simpa using h
/-- sorted, one of each -/
def setOf (l : List Int) : List Int := Lib.compact (l.mergeSort fun x y => decide (x ≤ y))
theorem setOf_strict (l : List Int) : (setOf l).Pairwise (· < ·) := compact_strict (sorted_le l)
theorem setOf_mem {l : List Int} {x : Int} : x ∈ setOf l ↔ x ∈ l := by
  unfold setOf
  rw [compact_mem, List.mem_mergeSort]
theorem setOf_len (l : List Int) : (setOf l).length ≤ l.length := by
  unfold setOf
  have := compact_len (l.mergeSort fun x y => decide (x ≤ y))
  rw [List.length_mergeSort] at this
  exact this
theorem s_set (l : List Int) (h : l.length ≤ 4294967296) : ((sortI l).bind fun r => (compactI r).bind fun q => some q) = some (setOf l) := by
  unfold sortI
  rw [if_pos h, Option.bind_some]
  unfold compactI
  rw [if_pos (by rw [List.length_mergeSort]; exact h)]
  rfl

section
variable {α β σ : Type}
theorem loopI_at {l : List α} {step : Int → α → σ → (σ → Option β) → Option β} {fin : σ → Option β} {s : σ} (S : Nat → σ) (h0 : s = S 0) (hl : (l.length : Int) ≤ maxI) (h : ∀ (p : Nat) x k, l[p]? = some x → step (p : Int) x (S p) k = k (S (p + 1))) : loopI l step fin s = fin (S l.length) := by
  rw [loopI_eq hl]
  have : ∀ (m : List α) (p : Nat), l.drop p = m → p ≤ l.length → goI step fin (p : Int) m (S p) = fin (S l.length) := by
    intro m
    induction m with
    | nil =>
      intro p hp hpl
      have : p = l.length := by have := List.drop_eq_nil_iff.1 hp; omega
      rw [goI, this]
    | cons x m ih =>
      intro p hp hpl
      have hx : l[p]? = some x := by rw [← List.head?_drop, hp]; rfl
      have hlt := (List.getElem?_eq_some_iff.1 hx).1
      rw [goI, h p x _ hx]
      have e : (p : Int) + 1 = ((p + 1 : Nat) : Int) := by omega
      rw [e]
      exact ih (p + 1) (by rw [← List.tail_drop, hp]; rfl) (by omega)
  rw [h0]
  exact this l 0 rfl (Nat.zero_le _)
/-- the first fault ends it -/
theorem goI_fstS {step : Int → α → σ → (σ → Option β) → Option β} {fin : σ → Option β} {F : List α → σ} {f : α → Int} {g : Int → Option β} {B : Nat} : ∀ (l : List α) (i : Int) (acc : List α), (∀ x ∈ l, ∀ i acc k, acc.length < B → step i x (F acc) k = if f x ≠ 0 then g (f x) else k (F (acc ++ [x]))) → acc.length + l.length ≤ B → goI step fin i l (F acc) = if firstF f l ≠ 0 then g (firstF f l) else fin (F (acc ++ l))
  | [], i, acc, _, _ => by simp [goI, firstF]
  | x :: l, i, acc, h, hB => by
    simp only [List.length_cons] at hB
    rw [goI, h x (by simp) i acc _ (by omega), firstF]
    by_cases h0 : f x ≠ 0
    · rw [if_pos h0, if_pos h0, if_pos h0]
    · rw [if_neg h0, if_neg h0, goI_fstS l (i + 1) (acc ++ [x]) (fun y hy => h y (by simp [hy])) (by simp; omega)]
      simp
theorem loopI_fst {step : Int → α → Unit → (Unit → Option β) → Option β} {fin : Unit → Option β} {f : α → Int} {g : Int → Option β} {l : List α} (hl : l.length ≤ 1000000) (h : ∀ x ∈ l, ∀ i k, step i x () k = if f x ≠ 0 then g (f x) else k ()) : loopI l step fin () = if firstF f l ≠ 0 then g (firstF f l) else fin () := by
  rw [loopI_eq (by unfold maxI; omega)]
  exact goI_fstS (F := fun _ => ()) (B := 1000000) l 0 [] (fun x hx i acc k _ => h x hx i k) (by simpa using hl)
end

/-! faults of rounds -/
def opF (o : T_Op) : Int := if o.Switch < 1 ∨ 6 < o.Switch then 1 else o.Rule.chk
def roundsF (l : List (List T_Op)) (w : Int) : Int :=
  if w < 1 ∨ 100 < w then 1 else if 20 < l.length then 4 else if (l.any fun r => decide (200 < (r.length : Int))) = true then 4 else firstF (firstF opF) l
theorem roundsF_0 {l : List (List T_Op)} {w : Int} (h : roundsF l w = 0) : (1 ≤ w ∧ w ≤ 100) ∧ l.length ≤ 20 ∧ ∀ r ∈ l, r.length ≤ 200 ∧ ∀ o ∈ r, (1 ≤ o.Switch ∧ o.Switch ≤ 6) ∧ o.Rule.chk = 0 := by
  unfold roundsF at h
  split at h
  · cases h
  rename_i h1
  split at h
  · cases h
  rename_i h2
  split at h
  · cases h
  rename_i h3
  refine ⟨by omega, by omega, fun r hr => ⟨?_, fun o ho => ?_⟩⟩
  · have : ¬ (decide (200 < (r.length : Int)) = true) := fun h => h3 (List.any_eq_true.2 ⟨r, hr, h⟩)
    simp at this
    omega
  · have h4 := firstF_0.1 (firstF_0.1 h r hr) o ho
    unfold opF at h4
    split at h4
    · cases h4
    · rename_i h5; exact ⟨by omega, h4⟩
theorem s_contains (l : List (List T_Op)) (h : l.length ≤ 20) : t_slices_ContainsFunc_api_Round_api_Round l (fun a => t_drive_New_1 a) = some (l.any fun r => decide (200 < (r.length : Int))) := by
  unfold t_slices_ContainsFunc_api_Round_api_Round t_slices_IndexFunc_api_Round_api_Round
  simp only [join_eq]
  rw [loopI_eq (by unfold maxI; omega)]
  have key : ∀ (l : List (List T_Op)) (i : Int), 0 ≤ i → ∃ v, goI (fun (i13 : Int) x14 (s9 : Unit) k10 => (t_drive_New_1 x14).bind fun r22 => if r22 = true then some i13 else k10 ()) (fun (s9 : Unit) => some (-1 : Int)) i l () = some v ∧ decide (0 ≤ v) = l.any fun r => decide (200 < (r.length : Int)) := by
    intro l
    induction l with
    | nil => intro i _; exact ⟨-1, rfl, rfl⟩
    | cons x l ih =>
      intro i hi
      simp only [goI, t_drive_New_1, Option.bind_some, List.any_cons]
      by_cases hx : (200 : Int) < (x.length : Int)
      · refine ⟨i, by simp [hx], by simp [hx, hi]⟩
      · obtain ⟨v, h1, h2⟩ := ih (i + 1) (by omega)
        refine ⟨v, ?_, by simp [hx, h2]⟩
        rw [if_neg (by simpa using hx)]
        exact h1
  obtain ⟨v, h1, h2⟩ := key l 0 (Int.le_refl 0)
  rw [h1, Option.bind_some, h2]
theorem s_New (l : List (List T_Op)) (w : Int) : t_drive_New l w = some (if roundsF l w = 0 then (some ⟨l, w, 0, [], 0⟩, 0) else (none, roundsF l w)) := by
  unfold t_drive_New roundsF
  by_cases h1 : w < 1 ∨ 100 < w
  · rw [if_pos (by simpa using h1), if_pos h1]; simp
  rw [if_neg (by simpa using h1), if_neg h1]
  by_cases h2 : 20 < l.length
  · have e : decide ((20 : Int) < (l.length : Int)) = true := decide_eq_true (by omega)
    simp only [e, Bool.not_true, gd_false, Option.bind_some, Bool.true_or, if_true, h2]
    simp
  have e : decide ((20 : Int) < (l.length : Int)) = false := decide_eq_false (by omega)
  simp only [e, Bool.not_false, gd_true, s_contains l (by omega), Option.bind_some, Bool.false_or, h2, if_false]
  by_cases h3 : (l.any fun r => decide (200 < (r.length : Int))) = true
  · rw [if_pos h3, if_pos h3]; simp
  rw [if_neg h3, if_neg h3]
  have h200 : ∀ r ∈ l, r.length ≤ 200 := fun r hr => by
    have : ¬ (decide (200 < (r.length : Int)) = true) := fun h => h3 (List.any_eq_true.2 ⟨r, hr, h⟩)
    simp at this
    omega
  simp only [join_eq]
  rw [loopI_eq (by unfold maxI; omega)]
  rw [goI_fstS (F := fun acc => (⟨acc, w, 0, [], 0⟩ : T_drive_Drive)) (f := firstF opF) (g := fun e => some (none, e)) (B := 20) l 0 [] (fun x hx i acc k hacc => ?_) (by simp; omega)]
  · simp only [List.nil_append]
    by_cases h4 : firstF (firstF opF) l = 0 <;> simp [h4]
  · have hx2 := h200 x hx
    rw [loopI_fst (f := opF) (g := fun e => some (none, e)) (by omega) (fun y hy i k => ?_)]
    · by_cases h5 : firstF opF x = 0
      · rw [if_neg (by simp [h5]), if_neg (by simp [h5])]
        unfold cln
        rw [if_pos (by omega), Option.bind_some]
        unfold oapp
        rw [if_pos (by simp; omega), Option.bind_some]
      · rw [if_pos h5, if_pos h5]
    · unfold opF
      rw [s_rule_Check]
      by_cases h6 : y.Switch < 1 ∨ 6 < y.Switch
      · rw [if_pos (by simpa using h6), if_pos h6]; rfl
      · rw [if_neg (by simpa using h6), if_neg h6, Option.bind_some]
        by_cases h7 : y.Rule.chk = 0 <;> simp [h7]

/-! who is told, what is said -/
theorem take_succ_map {α β : Type} (f : α → β) {l : List α} {p : Nat} {x : α} (h : l[p]? = some x) : (l.take (p + 1)).map f = (l.take p).map f ++ [f x] := by
  rw [List.take_add_one, h]; simp
theorem s_Touched (r : List T_Op) (h : r.length ≤ 200) : t_mix_Touched r = some (setOf (r.map (·.Switch))) := by
  unfold t_mix_Touched
  rw [loopI_at (fun p => (r.take p).map (·.Switch)) (by simp) (by unfold maxI; omega) (fun p x k hx => ?_)]
  · simp only [List.take_length, Option.bind_some]
    exact s_set _ (by simp; omega)
  · have hp := (List.getElem?_eq_some_iff.1 hx).1
    show (oapp ((r.take p).map (·.Switch)) [x.Switch]).bind _ = _
    unfold oapp
    rw [if_pos (by simp; omega), Option.bind_some, take_succ_map _ hx]
def opsOf (s : Int) (ops : List T_Op) : List T_Op := ops.filter fun o => decide (o.Switch = s)
def doL (s i : Int) (ops : List T_Op) : List T_Msg := (opsOf s ops).mapIdx fun n o => T_Msg.mk 1 s i n o
def sayOne (ops : List T_Op) (i s : Int) : List T_Msg := doL s i ops ++ [T_Msg.mk 2 s i (opsOf s ops).length op0]
def sayL (ops : List T_Op) (i : Int) (left : List Int) : List T_Msg := left.flatMap (sayOne ops i)
theorem opsOf_len (s : Int) (ops : List T_Op) : (opsOf s ops).length ≤ ops.length := List.length_filter_le _ _
theorem sayL_len (ops : List T_Op) (i : Int) : ∀ left : List Int, (sayL ops i left).length ≤ left.length * (ops.length + 1)
  | [] => by simp [sayL]
  | s :: left => by
    have h1 := sayL_len ops i left
    have h2 := opsOf_len s ops
    have e : sayL ops i (s :: left) = sayOne ops i s ++ sayL ops i left := rfl
    rw [e, List.length_append, List.length_cons, Nat.add_mul, Nat.one_mul]
    have h3 : (sayOne ops i s).length = (opsOf s ops).length + 1 := by simp [sayOne, doL]
    omega
theorem opsOf_take {s : Int} {ops : List T_Op} {p : Nat} {x : T_Op} (h : ops[p]? = some x) : opsOf s (ops.take (p + 1)) = opsOf s (ops.take p) ++ if x.Switch = s then [x] else [] := by
  unfold opsOf
  rw [List.take_add_one, h, List.filter_append]
  by_cases hs : x.Switch = s <;> simp [hs]
theorem s_say {l : List (List T_Op)} {w t : Int} {i : Nat} {left : List Int} {ops : List T_Op} (hi : l[i]? = some ops) (hl : l.length ≤ 20) (ho : ops.length ≤ 200) (hL : left.length ≤ 200) : t_drive_Drive_say ⟨l, w, (i : Int) + 1, left, t⟩ = some (sayL ops i left) := by
  have hi2 := (List.getElem?_eq_some_iff.1 hi).1
  unfold t_drive_Drive_say
  have ew : wr ((i : Int) + 1 - 1) = i := by rw [wr_id (by omega) (by omega)]; omega
  simp only [ew, idx_nat, hi, Option.bind_some]
  rw [loopI_at (fun p => sayL ops i (left.take p)) (by simp [sayL]) (by unfold maxI; omega) (fun p x k hx => ?_)]
  · simp
  · have hp := (List.getElem?_eq_some_iff.1 hx).1
    have hb : (sayL ops i (left.take p)).length ≤ 40200 := by
      refine Nat.le_trans (sayL_len ops i _) ?_
      have : (left.take p).length ≤ 200 := by simp; omega
      calc _ ≤ 200 * 201 := Nat.mul_le_mul this (by omega)
        _ ≤ 40200 := by decide
    rw [loopI_at (fun q => (sayL ops i (left.take p) ++ doL x i (ops.take q), ((opsOf x (ops.take q)).length : Int))) (by simp [doL, opsOf]) (by unfold maxI; omega) (fun q y k2 hy => ?_)]
    · simp only [List.take_length, Option.bind_some]
      unfold app
      have h3 : (doL x i ops).length ≤ 200 := by have := opsOf_len x ops; simp [doL]; omega
      rw [if_pos (by simp; omega), Option.bind_some, Option.bind_some]
      congr 1
      unfold sayL
      rw [List.take_add_one, hx, List.flatMap_append]
      simp [sayOne, op0]
    · have hq := (List.getElem?_eq_some_iff.1 hy).1
      have h3 : (opsOf x (ops.take q)).length ≤ 200 := by have := opsOf_len x (ops.take q); simp at this; omega
      have h4 : (doL x i (ops.take q)).length ≤ 200 := by simp [doL]; exact h3
      simp only
      by_cases hs : y.Switch = x
      · rw [if_pos (by simpa using hs)]
        unfold app
        rw [if_pos (by simp; omega), Option.bind_some, Option.bind_some]
        congr 1
        rw [wr_id (by omega) (by omega)]
        unfold doL
        rw [opsOf_take hy, if_pos hs, List.mapIdx_concat]
        simp
      · rw [if_neg (by simpa using hs), Option.bind_some]
        congr 1
        unfold doL
        rw [opsOf_take hy, if_neg hs, List.append_nil]

/-! what is heard -/
def hearD (d : T_drive_Drive) (m : T_Msg) : Int × T_drive_Drive := if m.chk ≠ 0 ∨ m.Kind ≠ 3 then (3, d) else if m.Round ≠ d.said - 1 ∨ m.Switch ∉ d.left then (6, d) else (0, ⟨d.rounds, d.wait, d.said, d.left.erase m.Switch, d.ticks⟩)
theorem s_Index (l : List Int) (x : Int) (h : l.length ≤ 1000000) : t_slices_Index_int_int l x = some (if x ∈ l then (l.idxOf x : Int) else -1) := by
  unfold t_slices_Index_int_int
  simp only [join_eq]
  rw [loopI_eq (by unfold maxI; omega)]
  have key : ∀ (l : List Int) (i : Int), goI (fun (i13 : Int) x14 (s9 : Unit) k10 => if (decide (x = x14)) = true then some i13 else k10 ()) (fun (s9 : Unit) => some (-1 : Int)) i l () = some (if x ∈ l then i + (l.idxOf x : Int) else -1) := by
    intro l
    induction l with
    | nil => intro i; rfl
    | cons y l ih =>
      intro i
      simp only [goI]
      by_cases hx : x = y
      · subst hx; simp
      · rw [if_neg (by simpa using hx), ih]
        have hx' : ¬ y = x := fun h => hx h.symm
        by_cases hm : x ∈ l
        · rw [if_pos hm, if_pos (by simp [hm]), List.idxOf_cons, Bool.cond_eq_ite, if_neg (by simpa using hx')]
          congr 1
          omega
        · rw [if_neg hm, if_neg (by simp [hm, hx])]
  rw [key l 0]
  simp
theorem s_Hear (d : T_drive_Drive) (m : T_Msg) (h : d.left.length ≤ 200) (h1 : 0 ≤ d.said) (h2 : d.said ≤ 20) : t_drive_Drive_Hear d m = some (hearD d m) := by
  unfold t_drive_Drive_Hear hearD
  rw [s_wire_Check, Option.bind_some, s_Index _ _ (by omega), Option.bind_some]
  by_cases h3 : m.chk ≠ 0 ∨ m.Kind ≠ 3
  · rw [if_pos (by simpa using h3), if_pos h3]
  rw [if_neg (by simpa using h3), if_neg h3]
  rw [wr_id (by omega) (by omega)]
  by_cases h4 : m.Switch ∈ d.left
  · rw [if_pos h4]
    have hlt := List.idxOf_lt_length_of_mem h4
    by_cases h5 : m.Round = d.said - 1
    · rw [if_neg (by simp [h5]), if_neg (by simp [h5, h4])]
      rw [wr_id (by omega) (by omega)]
      unfold deleteI
      rw [if_pos (by omega), Option.bind_some]
      congr 3
      rw [List.erase_eq_eraseIdx_of_idxOf (i := d.left.idxOf m.Switch) rfl, List.eraseIdx_eq_take_drop_succ]
      have e : ((d.left.idxOf m.Switch : Int) + 1).toNat = d.left.idxOf m.Switch + 1 := by omega
      rw [e, Int.toNat_natCast]
    · rw [if_pos (by simp [h5]), if_pos (.inl h5)]
  · rw [if_neg h4, if_pos (by simp), if_pos (.inr h4)]
theorem s_Left (d : T_drive_Drive) (h : d.left.length ≤ 200) : t_drive_Drive_Left d = some d.left := by
  unfold t_drive_Drive_Left cln
  rw [if_pos (by omega), Option.bind_some]
theorem s_Next_no {d : T_drive_Drive} (h : d.left ≠ [] ∨ (d.rounds.length : Int) ≤ d.said) : t_drive_Drive_Next d = some ([], 6, d) := by
  unfold t_drive_Drive_Next t_drive_Drive_May
  rw [Option.bind_some, if_pos]
  rcases h with h | h
  · have : ¬ (d.left.length : Int) = 0 := by
      have := List.length_pos_iff.2 h
      omega
    simp [this, h]
  · have : ¬ d.said < (d.rounds.length : Int) := by omega
    simp [this]
theorem s_Next {l : List (List T_Op)} {w t : Int} {i : Nat} {ops : List T_Op} (hi : l[i]? = some ops) (hl : l.length ≤ 20) (ho : ops.length ≤ 200) : t_drive_Drive_Next ⟨l, w, i, [], t⟩ = some (sayL ops i (setOf (ops.map (·.Switch))), 0, ⟨l, w, (i : Int) + 1, setOf (ops.map (·.Switch)), 0⟩) := by
  have hi2 := (List.getElem?_eq_some_iff.1 hi).1
  unfold t_drive_Drive_Next t_drive_Drive_May
  have e : decide ((i : Int) < (l.length : Int)) = true := decide_eq_true (by omega)
  have e2 : decide ((0 : Int) ≤ (i : Int)) = true := decide_eq_true (by omega)
  simp only [Option.bind_some, e, e2, List.length_nil, Bool.and_true, need_t, idx_nat, hi, s_Touched ops ho]
  have hset : (setOf (ops.map (·.Switch))).length ≤ 200 := Nat.le_trans (setOf_len _) (by simpa using ho)
  rw [wr_id (by omega) (by omega), s_say hi hl ho hset]
  rfl

section
variable {α β σ : Type}
theorem tfix_to {F : (σ → Option β) → σ → Option β} {S : Nat → σ} {n : Nat} {r : Option β} (h : ∀ p k, p < n → F k (S p) = k (S (p + 1))) (he : ∀ k, F k (S n) = r) : ∀ (N p : Nat), p ≤ n → n - p < N → tfix F N (S p) = r
  | 0, p, _, hN => by omega
  | N + 1, p, hp, hN => by
    show F (tfix F N) (S p) = r
    by_cases e : p = n
    · subst e; exact he _
    · rw [h p _ (by omega)]
      exact tfix_to h he N (p + 1) (by omega) (by omega)
theorem tfix_at {F : (σ → Option β) → σ → Option β} (S : Nat → σ) (n : Nat) {s : σ} {r : Option β} (h0 : s = S 0) (hn : n ≤ 1000000) (h : ∀ p k, p < n → F k (S p) = k (S (p + 1))) (he : ∀ k, F k (S n) = r) : tfix F bigN s = r := by
  rw [h0]
  exact tfix_to h he _ 0 (Nat.zero_le _) (by have := bigN_gt; omega)
theorem goI_inv {step : Int → α → σ → (σ → Option β) → Option β} {fin : σ → Option β} (I : Nat → σ → Prop) (R : Option β → Prop) (hfin : ∀ p s, I p s → R (fin s)) (h : ∀ p x s k, I p s → (∀ s', I (p + 1) s' → R (k s')) → R (step (p : Int) x s k)) : ∀ (l : List α) (p : Nat) (s : σ), I p s → R (goI step fin (p : Int) l s)
  | [], p, s, hI => hfin p s hI
  | x :: l, p, s, hI => h p x s _ hI fun s' hs' => goI_inv I R hfin h l (p + 1) s' hs'
end

/-! the document's -/
def toR (d : T_drive_Drive) : T_railref2_Drive := ⟨d.rounds, d.wait, d.said, d.left, d.ticks⟩
theorem firstF_long (l : List (List T_Op)) : firstF (fun r => if 200 < (r.length : Int) then 4 else 0) l = if (l.any fun r => decide (200 < (r.length : Int))) = true then 4 else 0 := by
  induction l with
  | nil => rfl
  | cons r l ih =>
    rw [firstF, ih, List.any_cons]
    by_cases h : 200 < (r.length : Int)
    · simp [h]
    · simp only [h, decide_false, Bool.false_or, if_false]
      rfl
theorem s_rRounds (l : List (List T_Op)) (w : Int) : t_railref2_Rounds l w = some (roundsF l w) := by
  unfold t_railref2_Rounds roundsF
  simp only [join_eq]
  by_cases h1 : w < 1 ∨ 100 < w
  · rw [if_pos (by simpa using h1), if_pos h1]
  rw [if_neg (by simpa using h1), if_neg h1]
  by_cases h2 : 20 < l.length
  · rw [if_pos (decide_eq_true (by omega)), if_pos h2]
  rw [if_neg (by simp; omega), if_neg h2]
  rw [loopI_fst (f := fun r => if 200 < (r.length : Int) then 4 else 0) (g := fun e => some e) (by omega) (fun x hx i k => by by_cases h : 200 < (x.length : Int) <;> simp [h]), firstF_long]
  by_cases h3 : (l.any fun r => decide (200 < (r.length : Int))) = true
  · rw [if_pos h3, if_pos (by decide), if_pos h3]
  rw [if_neg h3, if_neg (by simp), if_neg h3]
  have h200 : ∀ r ∈ l, r.length ≤ 200 := fun r hr => by
    have : ¬ (decide (200 < (r.length : Int)) = true) := fun h => h3 (List.any_eq_true.2 ⟨r, hr, h⟩)
    simp at this
    omega
  rw [loopI_fst (f := firstF opF) (g := fun e => some e) (by omega) (fun x hx i k => ?_)]
  · by_cases h4 : firstF (firstF opF) l = 0 <;> simp [h4]
  · have hx2 := h200 x hx
    rw [loopI_fst (f := opF) (g := fun e => some e) (by omega) (fun y hy i k => ?_)]
    unfold opF
    rw [s_rRule]
    by_cases h6 : y.Switch < 1 ∨ 6 < y.Switch
    · rw [if_pos (by simpa using h6), if_pos h6]; rfl
    · rw [if_neg (by simpa using h6), if_neg h6, Option.bind_some]
      by_cases h7 : y.Rule.chk = 0 <;> simp [h7]
theorem strict_split {x : Int} : ∀ {L : List Int}, L.Pairwise (· < ·) → ∃ A B, L = A ++ B ∧ (∀ a ∈ A, a ≤ x) ∧ ∀ b ∈ B, x < b
  | [], _ => ⟨[], [], rfl, by simp, by simp⟩
  | y :: L, h => by
    obtain ⟨h1, h2⟩ := List.pairwise_cons.1 h
    by_cases hy : y ≤ x
    · obtain ⟨A, B, rfl, ha, hb⟩ := strict_split (x := x) h2
      refine ⟨y :: A, B, rfl, fun a h => ?_, hb⟩
      rcases List.mem_cons.1 h with rfl | h
      · exact hy
      · exact ha a h
    · refine ⟨[], y :: L, rfl, by simp, fun b hb => ?_⟩
      rcases List.mem_cons.1 hb with rfl | hb
      · omega
      · have := h1 b hb; omega
theorem setOf_snoc {x : Int} {l A B : List Int} (hs : (A ++ B).Pairwise (· < ·)) (ha : ∀ a ∈ A, a < x) (hb : ∀ b ∈ B, x < b) (e : setOf l = A ++ B) : setOf (l ++ [x]) = A ++ [x] ++ B := by
  refine strict_eq (setOf_strict _) ?_ fun y => ?_
  · obtain ⟨h1, h2, h3⟩ := List.pairwise_append.1 hs
    refine List.pairwise_append.2 ⟨List.pairwise_append.2 ⟨h1, by simp, fun a h b hb2 => ?_⟩, h2, fun a h b hb2 => ?_⟩
    · obtain rfl := List.mem_singleton.1 hb2; exact ha a h
    · rcases List.mem_append.1 h with h | h
      · exact h3 a h b hb2
      · obtain rfl := List.mem_singleton.1 h; exact hb b hb2
  · have := setOf_mem (l := l) (x := y)
    rw [e] at this
    rw [setOf_mem, List.mem_append, ← this]
    simp only [List.mem_append, List.mem_singleton]
    constructor
    · rintro ((h | h) | h) <;> simp [h]
    · rintro ((h | h) | h) <;> simp [h]
theorem setOf_in {x : Int} {l : List Int} (h : x ∈ setOf l) : setOf (l ++ [x]) = setOf l := by
  refine strict_eq (setOf_strict _) (setOf_strict _) fun y => ?_
  rw [setOf_mem, setOf_mem, List.mem_append, List.mem_singleton]
  constructor
  · rintro (h1 | rfl)
    · exact h1
    · exact setOf_mem.1 h
  · exact fun h => .inl h
theorem setOf_nil : setOf [] = [] := List.eq_nil_of_length_eq_zero (Nat.le_zero.1 (setOf_len []))
theorem s_rTouched (r : List T_Op) (h : r.length ≤ 200) : t_railref2_Touched r = some (setOf (r.map (·.Switch))) := by
  unfold t_railref2_Touched
  rw [loopI_at (fun p => setOf ((r.take p).map (·.Switch))) (by simp [setOf_nil]) (by unfold maxI; omega) (fun p x k hx => ?_)]
  · simp only [List.take_length, Option.bind_some]
  · have hp := (List.getElem?_eq_some_iff.1 hx).1
    rw [take_succ_map _ hx]
    have hst := setOf_strict ((r.take p).map (·.Switch))
    have hlen : (setOf ((r.take p).map (·.Switch))).length ≤ 200 := Nat.le_trans (setOf_len _) (by simp; omega)
    obtain ⟨A, B, e, ha, hb⟩ := strict_split (x := x.Switch) hst
    have hin := setOf_in (x := x.Switch) (l := (r.take p).map (·.Switch))
    have hsn := setOf_snoc (x := x.Switch) (l := (r.take p).map (·.Switch)) (A := A) (B := B)
    generalize hL : setOf ((r.take p).map (·.Switch)) = L at *
    generalize (r.take p).map (·.Switch) = l0 at *
    subst e
    have hl2 : A.length + B.length ≤ 200 := by simpa using hlen
    rw [tfix_at (fun q => ((A ++ B).length - q : Int)) B.length (r := some (A ++ B, (A.length : Int))) (by simp) (by omega) (fun q k2 hq => ?_) (fun k2 => ?_), Option.bind_some]
    · rcases List.eq_nil_or_concat A with rfl | ⟨A', y, hA9⟩
      · simp only [List.length_nil, List.nil_append]
        rw [show decide ((0 : Int) < ((0 : Nat) : Int)) = false by decide, gd_false, Option.bind_some]
        simp only [Bool.false_and, Bool.false_eq_true, if_false]
        unfold slc_hi slc_lo app
        simp only [Int.natCast_zero, Int.le_refl, true_and, Int.toNat_zero, List.take_zero, List.drop_zero]
        have hB : B.length ≤ 200 := by simpa using hl2
        rw [if_pos (by omega), Option.bind_some, if_pos (by simp), Option.bind_some, if_pos (by simp), Option.bind_some, if_pos (by omega), Option.bind_some, if_pos (by simp; omega), Option.bind_some, Option.bind_some]
        rw [hsn hst (by simp) hb rfl]
        simp
      · rw [List.concat_eq_append] at hA9
        subst hA9
        have hA : A'.length ≤ 200 := by simp at hl2; omega
        have e1 : wr (((A' ++ [y]).length : Int) - 1) = (A'.length : Int) := by
          simp only [List.length_append, List.length_singleton]
          rw [wr_id (by omega) (by omega)]; omega
        rw [show decide ((0 : Int) < ((A' ++ [y]).length : Int)) = true from decide_eq_true (by rw [List.length_append, List.length_singleton]; omega), gd_true, e1, idx_nat]
        have e2 : (A' ++ [y] ++ B)[A'.length]? = some y := by simp
        rw [e2, Option.bind_some]
        simp only [Bool.true_and]
        by_cases hy : y = x.Switch
        · rw [if_pos (by simpa using hy), Option.bind_some, hin (by rw [← hy]; simp)]
        · rw [if_neg (by simpa using hy)]
          have hlt : ∀ a ∈ A' ++ [y], a < x.Switch := fun a h => by
            have h1 := ha a h
            have h2 := ha y (by simp)
            rcases List.mem_append.1 h with h | h
            · have := (List.pairwise_append.1 (List.pairwise_append.1 hst).1).2.2 a h y (by simp)
              omega
            · obtain rfl := List.mem_singleton.1 h; omega
          unfold slc_hi slc_lo app
          rw [if_pos (by simp; omega), Option.bind_some]
          simp only [Int.toNat_natCast]
          rw [List.take_left', List.drop_left', if_pos (by simp; omega), Option.bind_some, if_pos (by simp; omega), Option.bind_some, if_pos (by simp; omega), Option.bind_some, if_pos (by simp at hl2 ⊢; omega), Option.bind_some, Option.bind_some, hsn hst hlt hb rfl]
          · simp
          · rfl
          · rfl
    · have hlt : A.length + (B.length - 1 - q) < (A ++ B).length := by simp; omega
      have e1 : wr (((A ++ B).length : Int) - q - 1) = ((A.length + (B.length - 1 - q) : Nat) : Int) := by
        rw [List.length_append, wr_id (by omega) (by omega)]; omega
      have e0 : decide ((0 : Int) < ((A ++ B).length : Int) - q) = true := decide_eq_true (by rw [List.length_append]; omega)
      have e2 : (A ++ B)[A.length + (B.length - 1 - q)]? = some (B[B.length - 1 - q]'(by omega)) := by
        rw [List.getElem?_append_right (by omega)]
        simp only [Nat.add_sub_cancel_left]
        exact List.getElem?_eq_getElem _
      rw [e0, gd_true, e1, idx_nat, e2, Option.bind_some, if_pos]
      · congr 1
        rw [List.length_append]
        omega
      · have := hb _ (List.getElem_mem (show B.length - 1 - q < B.length by omega))
        simpa using this
    · have e9 : ((A ++ B).length : Int) - (B.length : Int) = (A.length : Int) := by rw [List.length_append]; omega
      simp only [e9]
      rcases List.eq_nil_or_concat A with rfl | ⟨A', y, hA9⟩
      · rw [show decide ((0 : Int) < (([] : List Int).length : Int)) = false by decide, gd_false, Option.bind_some]
        simp
      · rw [List.concat_eq_append] at hA9
        subst hA9
        have e1 : wr (((A' ++ [y]).length : Int) - 1) = (A'.length : Int) := by
          simp only [List.length_append, List.length_singleton] at hl2 ⊢
          rw [wr_id (by omega) (by omega)]; omega
        rw [show decide ((0 : Int) < ((A' ++ [y]).length : Int)) = true from decide_eq_true (by rw [List.length_append, List.length_singleton]; omega), gd_true, e1, idx_nat]
        have e2 : (A' ++ [y] ++ B)[A'.length]? = some y := by simp
        rw [e2, Option.bind_some, if_neg]
        have := ha y (by simp)
        simp; omega
theorem s_rSay {l : List (List T_Op)} {w t : Int} {i : Nat} {left : List Int} {ops : List T_Op} (hi : l[i]? = some ops) (hl : l.length ≤ 20) (ho : ops.length ≤ 200) (hL : left.length ≤ 200) : t_railref2_Drive_say ⟨l, w, (i : Int) + 1, left, t⟩ = some (sayL ops i left) := by
  have hi2 := (List.getElem?_eq_some_iff.1 hi).1
  unfold t_railref2_Drive_say
  have ew : wr ((i : Int) + 1 - 1) = i := by rw [wr_id (by omega) (by omega)]; omega
  simp only [ew, idx_nat, hi, Option.bind_some]
  rw [loopI_at (fun p => sayL ops i (left.take p)) (by simp [sayL]) (by unfold maxI; omega) (fun p x k hx => ?_)]
  · simp
  · have hp := (List.getElem?_eq_some_iff.1 hx).1
    have hb : (sayL ops i (left.take p)).length ≤ 40200 := by
      refine Nat.le_trans (sayL_len ops i _) ?_
      have : (left.take p).length ≤ 200 := by simp; omega
      calc _ ≤ 200 * 201 := Nat.mul_le_mul this (by omega)
        _ ≤ 40200 := by decide
    rw [tfix_at (fun q => (sayL ops i (left.take p) ++ doL x i (ops.take q), ((opsOf x (ops.take q)).length : Int), (q : Int))) ops.length (r := some (sayL ops i (left.take p) ++ doL x i ops, ((opsOf x ops).length : Int))) (by simp [doL, opsOf]) (by omega) (fun q k2 hq => ?_) (fun k2 => ?_)]
    · simp only [Option.bind_some]
      unfold app
      have h3 : (doL x i ops).length ≤ 200 := by have := opsOf_len x ops; simp [doL]; omega
      rw [if_pos (by simp; omega), Option.bind_some, Option.bind_some]
      congr 1
      unfold sayL
      rw [List.take_add_one, hx, List.flatMap_append]
      simp [sayOne, op0]
    · obtain ⟨y, hy⟩ : ∃ y, ops[q]? = some y := ⟨_, List.getElem?_eq_getElem hq⟩
      have h3 : (opsOf x (ops.take q)).length ≤ 200 := by have := opsOf_len x (ops.take q); simp at this; omega
      have h4 : (doL x i (ops.take q)).length ≤ 200 := by simp [doL]; exact h3
      simp only
      rw [if_pos (decide_eq_true (by omega)), idx_nat, hy, Option.bind_some, wr_id (x := (q : Int) + 1) (by omega) (by omega)]
      by_cases hs : y.Switch = x
      · rw [if_pos (by simpa using hs)]
        unfold app
        rw [if_pos (by simp; omega), Option.bind_some, Option.bind_some]
        congr 1
        rw [wr_id (by omega) (by omega)]
        unfold doL
        rw [opsOf_take hy, if_pos hs, List.mapIdx_concat]
        simp
      · rw [if_neg (by simpa using hs), Option.bind_some]
        congr 1
        unfold doL
        rw [opsOf_take hy, if_neg hs, List.append_nil]
        simp
    · simp only
      rw [if_neg (by simp), List.take_length]
theorem s_rIn (l : List Int) (x : Int) (h : l.length ≤ 1000000) : t_railref2_In l x = some (decide (x ∈ l)) := by
  unfold t_railref2_In
  simp only [join_eq]
  rw [loopI_any (p := fun y => decide (y = x)) (r := true) (by unfold maxI; omega) (fun y i k => rfl), any_is]
  by_cases h : x ∈ l <;> simp [h]
theorem filter_take {p : Int → Bool} {l : List Int} {i : Nat} {x : Int} (h : l[i]? = some x) : (l.take (i + 1)).filter p = (l.take i).filter p ++ if p x = true then [x] else [] := by
  rw [List.take_add_one, h, List.filter_append]
  by_cases hp : p x = true <;> simp [hp]
theorem s_rWithout (l : List Int) (x : Int) (h : l.length ≤ 200) : t_railref2_without l [x] = some (l.filter fun y => !decide (y = x)) := by
  unfold t_railref2_without
  rw [loopI_at (fun p => (l.take p).filter fun y => !decide (y = x)) (by simp) (by unfold maxI; omega) (fun p y k hy => ?_)]
  · simp
  · rw [s_rIn _ _ (by simp), Option.bind_some, filter_take hy]
    have hf : ((l.take p).filter fun y => !decide (y = x)).length ≤ 200 := Nat.le_trans (List.length_filter_le _ _) (by simp; omega)
    by_cases hxy : y = x
    · rw [if_neg (by simp [hxy]), Option.bind_some, if_neg (by simp [hxy]), List.append_nil]
    · rw [if_pos (by simp [hxy])]
      unfold app
      rw [if_pos (by simp at hf ⊢; omega), Option.bind_some, Option.bind_some, if_pos (by simp [hxy])]
theorem erase_filter {l : List Int} (h : l.Nodup) (x : Int) : l.erase x = l.filter fun y => !decide (y = x) := by
  rw [h.erase_eq_filter]
  congr 1

/-! both go alike -/
structure DInv (l : List (List T_Op)) (w : Int) (p : Nat) (d : T_drive_Drive) : Prop where
  rounds : d.rounds = l
  wait : d.wait = w
  said0 : 0 ≤ d.said
  said1 : d.said ≤ l.length
  left : d.left.Pairwise (· < ·)
  len : d.left.length ≤ 200
  pos : d.left ≠ [] → 1 ≤ d.said
  tick0 : 0 ≤ d.ticks
  tick1 : d.ticks ≤ p
section
variable {l : List (List T_Op)} {w : Int} {p : Nat} {d : T_drive_Drive}
theorem both_next (hl : l.length ≤ 20) (hr : ∀ r ∈ l, r.length ≤ 200) (h : DInv l w p d) : ∃ ms e d', t_drive_Drive_Next d = some (ms, e, d') ∧ t_railref2_Drive_Next (toR d) = some (ms, e, toR d') ∧ DInv l w (p + 1) d' ∧ ms.length ≤ 40200 := by
  by_cases hm : d.left = [] ∧ d.said < l.length
  · obtain ⟨i, hi⟩ := Int.eq_ofNat_of_zero_le h.said0
    obtain ⟨rounds, wait, said, left, ticks⟩ := d
    obtain ⟨h1, h2, h3, h4, h5, h6, h7, h8, h9⟩ := h
    simp only at *
    subst h1 h2 hi
    obtain ⟨rfl, hlt⟩ := hm
    have hlt2 : i < rounds.length := by omega
    obtain ⟨ops, ho⟩ : ∃ ops, rounds[i]? = some ops := ⟨_, List.getElem?_eq_getElem hlt2⟩
    have hol := hr ops (List.mem_of_getElem? ho)
    have hset : (setOf (ops.map (·.Switch))).length ≤ 200 := Nat.le_trans (setOf_len _) (by simpa using hol)
    refine ⟨_, _, _, s_Next ho hl hol, ?_, ⟨rfl, rfl, by simp only; omega, by simp only; omega, setOf_strict _, hset, fun _ => by simp only; omega, by simp, by simp only; omega⟩, ?_⟩
    · unfold t_railref2_Drive_Next t_railref2_Drive_May toR
      simp only [Option.bind_some, List.length_nil]
      rw [if_neg (by simp; omega), idx_nat, ho, Option.bind_some, s_rTouched ops hol, Option.bind_some, wr_id (by omega) (by omega), s_rSay ho hl hol hset]
      rfl
    · refine Nat.le_trans (sayL_len ops i _) ?_
      calc _ ≤ 200 * 201 := Nat.mul_le_mul hset (by omega)
        _ ≤ 40200 := by decide
  · refine ⟨[], 6, d, s_Next_no ?_, ?_, ⟨h.rounds, h.wait, h.said0, h.said1, h.left, h.len, h.pos, h.tick0, by have := h.tick1; omega⟩, by simp⟩
    · rw [h.rounds]
      by_cases h1 : d.left = []
      · right
        have : ¬ d.said < l.length := fun h2 => hm ⟨h1, h2⟩
        omega
      · exact .inl h1
    · unfold t_railref2_Drive_Next t_railref2_Drive_May toR
      simp only [Option.bind_some]
      rw [if_pos, ]
      by_cases h1 : d.left = []
      · have h2 : ¬ d.said < l.length := fun h2 => hm ⟨h1, h2⟩
        rw [h.rounds]
        simp [h1]
        omega
      · have : ¬ (d.left.length : Int) = 0 := by
          have := List.length_pos_iff.2 h1
          omega
        simp [this, h1]
theorem both_tick (hl : l.length ≤ 20) (hw : 1 ≤ w) (hr : ∀ r ∈ l, r.length ≤ 200) (hp : p < 80) (h : DInv l w p d) : ∃ ms d', t_drive_Drive_Tick d = some (ms, d') ∧ t_railref2_Drive_Tick (toR d) = some (ms, toR d') ∧ DInv l w (p + 1) d' ∧ ms.length ≤ 40200 := by
  obtain ⟨rounds, wait, said, left, ticks⟩ := d
  obtain ⟨h1, h2, h3, h4, h5, h6, h7, h8, h9⟩ := h
  simp only at *
  subst h1 h2
  unfold t_drive_Drive_Tick t_railref2_Drive_Tick toR
  simp only
  by_cases hn : left = []
  · subst hn
    rw [if_pos (by simp), if_pos (by simp)]
    exact ⟨_, _, rfl, rfl, ⟨rfl, rfl, h3, h4, h5, h6, h7, h8, by simp only; omega⟩, by simp⟩
  · have hc : ¬ (decide ((left.length : Int) = 0)) = true := by
      have := List.length_pos_iff.2 hn
      simp; omega
    have hwr : wr (ticks + 1) = ticks + 1 := wr_id (by omega) (by omega)
    have hne : decide (wait ≠ 0) = true := decide_eq_true (by omega)
    rw [if_neg hc, if_neg hc, hwr, hne, need_t, need_t]
    by_cases hq : Int.tmod (ticks + 1) wait ≠ 0
    · rw [if_pos (by simpa using hq), if_pos (by simpa using hq)]
      exact ⟨_, _, rfl, rfl, ⟨rfl, rfl, h3, h4, h5, h6, h7, by simp only; omega, by simp only; omega⟩, by simp⟩
    · rw [if_neg (by simpa using hq), if_neg (by simpa using hq)]
      have hs := h7 hn
      obtain ⟨i, hi⟩ := Int.eq_ofNat_of_zero_le (a := said - 1) (by omega)
      obtain rfl : said = (i : Int) + 1 := by omega
      have hlt2 : i < rounds.length := by omega
      obtain ⟨ops, ho⟩ : ∃ ops, rounds[i]? = some ops := ⟨_, List.getElem?_eq_getElem hlt2⟩
      have hol := hr ops (List.mem_of_getElem? ho)
      rw [s_say ho hl hol h6, s_rSay ho hl hol h6, Option.bind_some, Option.bind_some]
      refine ⟨_, _, rfl, rfl, ⟨rfl, rfl, h3, h4, h5, h6, h7, by simp only; omega, by simp only; omega⟩, ?_⟩
      refine Nat.le_trans (sayL_len ops i _) ?_
      calc _ ≤ 200 * 201 := Nat.mul_le_mul h6 (by omega)
        _ ≤ 40200 := by decide
theorem both_hear (hl : l.length ≤ 20) (m : T_Msg) (h : DInv l w p d) : ∃ e d', t_drive_Drive_Hear d m = some (e, d') ∧ t_railref2_Drive_Hear (toR d) m = some (e, toR d') ∧ DInv l w (p + 1) d' := by
  have hsaid : d.said ≤ 20 := by have := h.said1; omega
  have hs0 := h.said0
  have hnd : d.left.Nodup := h.left.imp fun h => by omega
  refine ⟨(hearD d m).1, (hearD d m).2, s_Hear d m h.len h.said0 hsaid, ?_, ?_⟩
  · unfold t_railref2_Drive_Hear hearD
    rw [s_rMsg, Option.bind_some]
    by_cases h3 : m.chk ≠ 0 ∨ m.Kind ≠ 3
    · rw [if_pos (by simpa using h3), if_pos h3]
    rw [if_neg (by simpa using h3), if_neg h3]
    have e1 : wr ((toR d).Said - 1) = d.said - 1 := wr_id (by show _ ≤ d.said - 1; omega) (by show d.said - 1 ≤ _; omega)
    have hlen : (toR d).Left.length ≤ 200 := h.len
    rw [s_rIn _ _ (by omega), Option.bind_some, e1]
    show (if _ then _ else _) = _
    by_cases h4 : m.Round ≠ d.said - 1 ∨ m.Switch ∉ d.left
    · rw [if_pos, if_pos h4]
      have h5 : m.Round ≠ d.said - 1 ∨ m.Switch ∉ (toR d).Left := h4
      simpa using h5
    · rw [if_neg, if_neg h4, s_rWithout _ _ hlen, Option.bind_some]
      · show some ((0 : Int), _) = some ((0 : Int), toR _)
        unfold toR
        simp only
        rw [erase_filter hnd]
      · have h5 : ¬ (m.Round ≠ d.said - 1 ∨ m.Switch ∉ (toR d).Left) := h4
        simpa using h5
  · have ht := h.tick1
    have keep : DInv l w (p + 1) d := ⟨h.rounds, h.wait, h.said0, h.said1, h.left, h.len, h.pos, h.tick0, by omega⟩
    unfold hearD
    split
    · exact keep
    split
    · exact keep
    · refine ⟨h.rounds, h.wait, h.said0, h.said1, ?_, ?_, fun hne => ?_, h.tick0, by simp only; omega⟩
      · exact h.left.sublist List.erase_sublist
      · exact Nat.le_trans List.length_erase_le h.len
      · exact h.pos fun e => hne (by simp [e])
end
theorem s_Ints (l : List Int) (h : l.length ≤ 1000000) : t_railsame_Ints l l = some true := by
  unfold t_railsame_Ints
  rw [if_neg (by simp)]
  simp only [join_eq]
  rw [loopI_at (fun _ => ()) rfl (by unfold maxI; omega) (fun p x k hx => ?_)]
  rw [idx_nat, hx, Option.bind_some, if_neg (by simp)]
theorem s_Msgs (l : List T_Msg) (h : l.length ≤ 1000000) : t_railsame_Msgs l l = some true := by
  unfold t_railsame_Msgs
  rw [if_neg (by simp)]
  simp only [join_eq]
  rw [loopI_at (fun _ => ()) rfl (by unfold maxI; omega) (fun p x k hx => ?_)]
  rw [idx_nat, hx, Option.bind_some, if_neg (by simp)]
theorem s_err (a b : Int) : t_railsame_Error a b = some (decide (a = b)) := rfl
theorem t_DrivePlays (l : List (List T_Op)) (w : Int) (ss : List Int) (ms : List T_Msg) (hss : (ss.length : Int) ≤ maxI) : t_raillaw2_DrivePlays l w ss ms = some true := by
  unfold t_raillaw2_DrivePlays
  simp only [s_New, s_rRounds, Option.bind_some, join_eq]
  by_cases h0 : roundsF l w = 0
  rotate_left
  · simp [h0, caseO, s_err]
  obtain ⟨hw, hl, hr0⟩ := roundsF_0 h0
  have hr : ∀ r ∈ l, r.length ≤ 200 := fun r h => (hr0 r h).1
  simp only [h0, if_true, caseO, s_err, decide_true, Option.bind_some, Bool.not_true, Bool.false_or, ne_eq, not_true_eq_false, decide_false, Bool.false_eq_true, if_false]
  rw [loopI_eq hss]
  refine goI_inv (fun p s => DInv l w p s.1 ∧ s.2 = toR s.1) (fun r => r = some true) (fun _ _ _ => rfl) (fun p x s k hI hk => ?_) ss 0 _ ⟨⟨rfl, rfl, by simp, by simp, by simp, by simp, by simp, by simp, by simp⟩, rfl⟩
  obtain ⟨d, m⟩ := s
  obtain ⟨hI, hm⟩ := hI
  simp only at hI hm
  subst hm
  by_cases hp : (p : Int) < 80
  rotate_left
  · rw [if_neg (by simpa using hp)]
  rw [if_pos (by simpa using hp)]
  have key : ∀ (e : Int) (ms : List T_Msg) (d' : T_drive_Drive), DInv l w (p + 1) d' → ms.length ≤ 40200 → ((some (e, d', toR d', ms, ms, e) : Option (Int × T_drive_Drive × T_railref2_Drive × (List T_Msg) × (List T_Msg) × Int)).bind fun s50 =>
      (some (decide (s50.2.2.2.2.2 = s50.1))).bind fun r54 =>
      (t_railsame_Msgs s50.2.2.2.2.1 s50.2.2.2.1).bind fun r56 =>
      (t_drive_Drive_Left s50.2.1).bind fun r58 =>
      (t_railsame_Ints r58 s50.2.2.1.Left).bind fun r64 =>
      (gd (!(((!r54) || (!r56)) || (!r64))) default (t_drive_Drive_Round s50.2.1)).bind fun r82 =>
      (gd (!((((!r54) || (!r56)) || (!r64)) || (decide (¬ (r82 = s50.2.2.1.Said))))) default (t_drive_Drive_Done s50.2.1)).bind fun r101 =>
      (some (((((!r54) || (!r56)) || (!r64)) || (decide (¬ (r82 = s50.2.2.1.Said)))) || (r101 != ((decide ((List.length s50.2.2.1.Left : Int) = 0)) && (decide (s50.2.2.1.Said = (List.length l : Int))))))).bind fun r144 =>
      if r144 = true then (
      some false) else (
      k (s50.2.1, s50.2.2.1))) = some true := fun e ms d' hd hms => by
    simp only [Option.bind_some, decide_true, s_Msgs ms (by omega), s_Left d' hd.len]
    have e1 : (toR d').Left = d'.left := rfl
    have e2 : (toR d').Said = d'.said := rfl
    have hlen := hd.len
    rw [e1, e2, s_Ints _ (by omega)]
    simp only [Option.bind_some, Bool.not_true, Bool.or_false, Bool.not_false, gd_true, t_drive_Drive_Round, t_drive_Drive_Done, decide_not, decide_true, hd.rounds]
    simp only [Bool.false_or, bne_self_eq_false, Bool.false_eq_true, if_false]
    exact hk _ ⟨hd, rfl⟩
  by_cases h1 : x = 0
  · obtain ⟨ms', e, d', a1, a2, a3, a4⟩ := both_next hl hr hI
    rw [if_pos (by simpa using h1), a1, a2]
    exact key e ms' d' a3 a4
  rw [if_neg (by simpa using h1)]
  by_cases h2 : x = 1
  · obtain ⟨ms', d', a1, a2, a3, a4⟩ := both_tick hl hw.1 hr (by omega) hI
    rw [if_pos (by simpa using h2), a1, a2]
    exact key 0 ms' d' a3 a4
  rw [if_neg (by simpa using h2)]
  have hpick : ∃ m0 : T_Msg, (if (decide (0 < (List.length ms : Int))) = true then (
       need (decide ((List.length ms : Int) ≠ 0)) (
       (idx ms (Int.tmod (p : Int) (List.length ms : Int))).bind fun r233 =>
       some (r233))) else (
       some (T_Msg.mk 0 0 0 0 (T_Op.mk 0 false (T_Rule.mk 0 (T_Cube.mk 0 0) 0 0 0))))) = some m0 := by
    by_cases hm : ms = []
    · subst hm; exact ⟨_, rfl⟩
    · have hpos := List.length_pos_iff.2 hm
      have e1 : Int.tmod (p : Int) (ms.length : Int) = ((p % ms.length : Nat) : Int) := by
        rw [Int.tmod_eq_emod_of_nonneg (by omega)]; omega
      have hlt : p % ms.length < ms.length := Nat.mod_lt _ hpos
      rw [if_pos (decide_eq_true (by omega)), show decide ((ms.length : Int) ≠ 0) = true from decide_eq_true (by omega), need_t, e1, idx_nat, List.getElem?_eq_getElem hlt]
      exact ⟨_, rfl⟩
  obtain ⟨m0, hm0⟩ := hpick
  simp only [ne_eq, decide_not] at hm0 ⊢
  rw [hm0, Option.bind_some]
  have hsend : ∃ m1 : T_Msg, (if ((decide (x = 2)) && (decide (0 < (List.length (toR d).Left : Int)))) = true then (
       (idx (toR d).Left 0).bind fun r221 =>
       some (T_Msg.mk 3 r221 (wr ((toR d).Said - 1)) 0 (T_Op.mk 0 false (T_Rule.mk 0 (T_Cube.mk 0 0) 0 0 0)))) else (
       some (m0))) = some m1 := by
    by_cases hc : ((decide (x = 2)) && (decide (0 < (List.length (toR d).Left : Int)))) = true
    · rw [if_pos hc]
      have hpos : 0 < (toR d).Left.length := by simp at hc; have := hc.2; omega
      have : idx (toR d).Left 0 = some ((toR d).Left[0]'hpos) := by
        show idx (toR d).Left ((0 : Nat) : Int) = _
        rw [idx_nat, List.getElem?_eq_getElem hpos]
      rw [this]
      exact ⟨_, rfl⟩
    · rw [if_neg hc]; exact ⟨_, rfl⟩
  obtain ⟨m1, hm1⟩ := hsend
  rw [hm1, Option.bind_some]
  obtain ⟨e, d', a1, a2, a3⟩ := both_hear hl m1 hI
  rw [a1, a2]
  have := key e [] d' a3 (by simp)
  simp only [decide_not, Option.bind_some] at this ⊢
  exact this
theorem walk_DrivePlays (l : List (List T_Op)) (w : Int) (ss : List Int) (ms : List T_Msg) {p q s : Prop} (_ : p) (_ : q) (u2 : wL maxLen (fun x => wi64 x) ss) (_ : s) : t_raillaw2_DrivePlays l w ss ms = some true := t_DrivePlays l w ss ms (by have := u2.1; unfold maxLen at this; unfold maxI; omega)
end Go.Proofs.YtgfleiknigjnbaaDoor.Ty
