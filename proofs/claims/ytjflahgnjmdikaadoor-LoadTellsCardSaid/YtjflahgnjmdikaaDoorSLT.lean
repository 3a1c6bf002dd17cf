/- What the law of loads comes to. -/
import Derived.Test.YtjflahgnjmdikaaDoorSBase
import Derived.Test.YtjflahgnjmdikaaDoorTyA
import Derived.Test.YtjflahgnjmdikaaDoorVcS
import Derived.Test.YtjflahgnjmdikaaDoorPlain
import Derived.Test.YtjflahgnjmdikaaDoorTyM
import Derived.Test.YtjflahgnjmdikaaDoorTyN
namespace Go.Proofs.YtjflahgnjmdikaaDoor.Ty
open Go Go.RowKit Go.Proofs.YtjflahgnjmdikaaDoor.Den
set_option linter.unusedSimpArgs false
set_option linter.unusedVariables false
set_option maxRecDepth 100000

section
variable {α β σ : Type}
/-- a loop comes to something that has Q -/
theorem goI_ex {step : Int → α → σ → (σ → Option β) → Option β} {fin : σ → Option β} {I : Int → List α → σ → Prop} {Q : β → Prop} (hfin : ∀ i s, I i [] s → ∃ v, fin s = some v ∧ Q v)
    (hstep : ∀ i x l s k, I i (x :: l) s → (∀ s', I (i + 1) l s' → ∃ v, k s' = some v ∧ Q v) → ∃ v, step i x s k = some v ∧ Q v) : ∀ (l : List α) (i : Int) (s : σ), I i l s → ∃ v, goI step fin i l s = some v ∧ Q v
  | [], i, s, h => hfin i s h
  | x :: l, i, s, h => hstep i x l s _ h fun s' h' => goI_ex hfin hstep l (i + 1) s' h'
theorem loopI_ex {step : Int → α → σ → (σ → Option β) → Option β} {fin : σ → Option β} (I : Int → List α → σ → Prop) {Q : β → Prop} {l : List α} {s : σ} (hl : (l.length : Int) ≤ 9223372036854775807) (h0 : I 0 l s) (hfin : ∀ i s, I i [] s → ∃ v, fin s = some v ∧ Q v)
    (hstep : ∀ i x l s k, I i (x :: l) s → (∀ s', I (i + 1) l s' → ∃ v, k s' = some v ∧ Q v) → ∃ v, step i x s k = some v ∧ Q v) : ∃ v, loopI l step fin s = some v ∧ Q v := by
  rw [loopI_eq hl]; exact goI_ex hfin hstep l 0 s h0
theorem goU_ex {step : Int → σ → (σ → Option β) → Option β} {fin : Int → σ → Option β} {I : Nat → Int → σ → Prop} {Q : β → Prop} (hfin : ∀ i s, I 0 i s → ∃ v, fin i s = some v ∧ Q v)
    (hstep : ∀ m i s k, I (m + 1) i s → (∀ s', I m (i + 1) s' → ∃ v, k s' = some v ∧ Q v) → ∃ v, step i s k = some v ∧ Q v) : ∀ (m : Nat) (i : Int) (s : σ), I m i s → ∃ v, goU step fin m i s = some v ∧ Q v
  | 0, i, s, h => hfin i s h
  | m + 1, i, s, h => hstep m i s _ h fun s' h' => goU_ex hfin hstep m (i + 1) s' h'
end

def spotOk (T : T_Topo) (s : T_Spot) : Prop := 1 ≤ s.Switch ∧ s.Switch ≤ T.Switches ∧ 1 ≤ s.Port ∧ s.Port ≤ 4
structure topoGood (T : T_Topo) : Prop where
  sw : 1 ≤ T.Switches ∧ T.Switches ≤ 6
  nl : T.Links.length ≤ 200
  nh : T.Hosts.length ≤ 8
  links : ∀ l ∈ T.Links, spotOk T l.A ∧ spotOk T l.B
  hosts : ∀ h ∈ T.Hosts, h.Name ≠ ByteArray.mk #[] ∧ spotOk T h.At
def ruleGood (r : T_Rule) : Prop := (0 ≤ r.Out ∧ r.Out ≤ 4) ∧ (0 ≤ r.Set ∧ r.Set < 16) ∧ 0 ≤ r.Value ∧ r.Value < 16
def tblGood (t : List T_Rule) : Prop := t.length ≤ 12 ∧ ∀ r ∈ t, ruleGood r
structure netGood (n : T_Net) : Prop where
  topo : topoGood n.Topo
  chk : t_topo_Check n.Topo = some 0
  len : (n.Tables.length : Int) = n.Topo.Switches
  tabs : ∀ t ∈ n.Tables, tblGood t
theorem s_Spot (T : T_Topo) (s : T_Spot) : ∃ b, t_topo_Spot T s = some b ∧ (b = true ↔ spotOk T s) :=
  ⟨_, rfl, by simp [spotOk, and_assoc]⟩
theorem s_Header (h : Int) : ∃ b, t_cube_Header h = some b ∧ (b = true ↔ 0 ≤ h ∧ h < 16) := ⟨_, rfl, by simp⟩
theorem s_Name (s : ByteArray) (hs : (s.size : Int) ≤ maxI) : ∃ b, t_topo_Name s = some b ∧ (b = true → s ≠ ByteArray.mk #[]) := by
  unfold t_topo_Name
  rw [need_pos (by simpa using hs), join_eq]
  refine loopI_ex (fun _ _ _ => True) (by rw [numsOf_len]; exact hs) trivial (fun i s' _ => ⟨_, rfl, fun h => ?_⟩) (fun i x l s' k _ hk => ?_)
  · simp only [Bool.and_eq_true, Bool.not_eq_true', decide_eq_false_iff_not] at h
    exact h.1
  · split
    · exact ⟨false, rfl, fun h => by cases h⟩
    · exact hk () trivial
theorem s_topoCheck (T : T_Topo) (hn : ∀ h ∈ T.Hosts, (h.Name.size : Int) ≤ maxI) : ∃ c, t_topo_Check T = some c ∧ (c = 0 → topoGood T) := by
  unfold t_topo_Check
  split
  · exact ⟨1, rfl, fun h => by cases h⟩
  · rename_i h1
    simp only [Bool.or_eq_true, decide_eq_true_eq, not_or, Int.not_lt] at h1
    split
    · exact ⟨4, rfl, fun h => by cases h⟩
    · rename_i h2
      simp only [Bool.or_eq_true, decide_eq_true_eq, not_or, Int.not_lt] at h2
      simp only [join_eq]
      refine loopI_ex (fun _ l _ => ∀ x ∈ T.Links, x ∈ l ∨ (spotOk T x.A ∧ spotOk T x.B)) (by omega) (fun x hx => .inl hx) (fun i s hI => ?_) (fun i x l s k hI hk => ?_)
      · refine loopI_ex (fun _ l _ => (∀ x ∈ l, x ∈ T.Hosts) ∧ ∀ x ∈ T.Hosts, x ∈ l ∨ (x.Name ≠ ByteArray.mk #[] ∧ spotOk T x.At)) (by omega) ⟨fun _ h => h, fun x hx => .inl hx⟩ (fun i s hJ => ?_) (fun i x l s k hJ hk => ?_)
        · refine ⟨0, rfl, fun _ => ⟨h1, by omega, by omega, fun l hl => (hI l hl).resolve_left (by simp), fun h hh => (hJ.2 h hh).resolve_left (by simp)⟩⟩
        · have hx := hJ.1 x (by simp)
          obtain ⟨b, e1, e2⟩ := s_Name x.Name (hn x hx)
          rw [e1]
          simp only [Option.bind_some]
          split
          · exact ⟨2, rfl, fun h => by cases h⟩
          · rename_i hb
            obtain ⟨b2, f1, f2⟩ := s_Spot T x.At
            rw [f1]
            simp only [Option.bind_some]
            split
            · exact ⟨1, rfl, fun h => by cases h⟩
            · rename_i hb2
              split
              · exact ⟨7, rfl, fun h => by cases h⟩
              · refine hk _ ⟨fun y hy => hJ.1 y (by simp [hy]), fun y hy => ?_⟩
                rcases hJ.2 y hy with h | h
                · rcases List.mem_cons.1 h with rfl | h
                  · exact .inr ⟨e2 (by simpa using hb), f2.1 (by simpa using hb2)⟩
                  · exact .inl h
                · exact .inr h
      · obtain ⟨b, e1, e2⟩ := s_Spot T x.A
        obtain ⟨b2, f1, f2⟩ := s_Spot T x.B
        rw [e1, f1]
        simp only [Option.bind_some]
        cases hb1 : b with
        | false => exact ⟨1, by simp [gd], fun h => by cases h⟩
        | true =>
          cases hb2 : b2 with
          | false => exact ⟨1, by simp [gd], fun h => by cases h⟩
          | true =>
            simp only [gd, Bool.not_true, Bool.not_false, if_true, Option.bind_some, Bool.or_self, Bool.false_eq_true, if_false]
            split
            · exact ⟨7, rfl, fun h => by cases h⟩
            · refine hk _ fun y hy => ?_
              rcases hI y hy with h | h
              · rcases List.mem_cons.1 h with rfl | h
                · exact .inr ⟨e2.1 hb1, f2.1 hb2⟩
                · exact .inl h
              · exact .inr h

theorem s_ruleCheck (r : T_Rule) : ∃ c, t_rule_Check r = some c ∧ (c = 0 → ruleGood r) := by
  unfold t_rule_Check
  obtain ⟨b1, e1, f1⟩ := s_Header r.Set
  obtain ⟨b2, e2, f2⟩ := s_Header r.Value
  rw [e1, e2]
  obtain ⟨c, hc⟩ : ∃ c, t_cube_Check r.Cube = some c := by
    unfold t_cube_Check
    obtain ⟨b3, e3, _⟩ := s_Header r.Cube.Mask
    obtain ⟨b4, e4, _⟩ := s_Header r.Cube.Bits
    rw [e3, e4]
    cases b3 <;> cases b4 <;> simp only [gd, Bool.not_true, Bool.not_false, if_true, Bool.or_self, Bool.true_or, Bool.or_true, Bool.false_eq_true, if_false, Option.bind_some] <;> first | exact ⟨_, rfl⟩ | (split <;> exact ⟨_, rfl⟩)
  rw [hc]
  cases hA : (((decide (r.Prio < 0) || decide (99 < r.Prio)) || decide (r.Out < 0)) || decide (4 < r.Out)) with
  | true => exact ⟨1, by simp [gd], fun h => by cases h⟩
  | false =>
    cases hb1 : b1 with
    | false => exact ⟨1, by simp [gd], fun h => by cases h⟩
    | true =>
      cases hb2 : b2 with
      | false => exact ⟨1, by simp [gd], fun h => by cases h⟩
      | true =>
        simp only [Bool.or_eq_false_iff, decide_eq_false_iff_not, Int.not_lt] at hA
        have hg : ruleGood r := ⟨⟨hA.1.2, hA.2⟩, f1.1 hb1, f2.1 hb2⟩
        simp only [gd, Bool.not_false, Bool.not_true, if_true, Option.bind_some, Bool.or_self, Bool.false_eq_true, if_false]
        split
        · exact ⟨_, rfl, fun _ => hg⟩
        · split <;> exact ⟨_, rfl, fun _ => hg⟩
theorem s_ruleTable (t : List T_Rule) : ∃ c, t_rule_Table t = some c ∧ (c = 0 → tblGood t) := by
  unfold t_rule_Table
  split
  · exact ⟨4, rfl, fun h => by cases h⟩
  · rename_i h1
    simp only [decide_eq_true_eq, Int.not_lt] at h1
    simp only [join_eq]
    refine loopI_ex (fun i l _ => 0 ≤ i ∧ i + l.length = t.length ∧ ∀ x ∈ t, x ∈ l ∨ ruleGood x) (by omega) ⟨Int.le_refl _, by omega, fun x hx => .inl hx⟩ (fun i s hI => ⟨0, rfl, fun _ => ⟨by omega, fun r hr => (hI.2.2 r hr).resolve_left (by simp)⟩⟩) (fun i x l s k hI hk => ?_)
    obtain ⟨c, e1, e2⟩ := s_ruleCheck x
    rw [e1]
    simp only [Option.bind_some]
    split
    · rename_i hc
      refine ⟨c, rfl, fun h => ?_⟩
      simp [h] at hc
    · rename_i hc
      obtain ⟨i0, il, ia⟩ := hI
      have hs : slc_hi t i = some (t.take i.toNat) := if_pos ⟨i0, by simp at il; omega⟩
      rw [hs]
      simp only [Option.bind_some]
      have hfn : ∀ (l : List T_Rule), l.length ≤ 12 → ∃ j, t_slices_IndexFunc_api_Table_api_Rule l (fun a33 => t_rule_Table_1 a33 x) = some j ∧ True := fun l hl => by
        unfold t_slices_IndexFunc_api_Table_api_Rule
        simp only [join_eq]
        refine loopI_ex (fun _ _ _ => True) (by omega) trivial (fun _ _ _ => ⟨_, rfl, trivial⟩) (fun i y l s k _ hk => ?_)
        simp only [t_rule_Table_1, t_rule_Key, Option.bind_some]
        split
        · exact ⟨_, rfl, trivial⟩
        · exact hk () trivial
      obtain ⟨j, hj, _⟩ := hfn (t.take i.toNat) (by simp; omega)
      unfold t_slices_ContainsFunc_api_Table_api_Rule
      rw [hj]
      simp only [Option.bind_some]
      split
      · exact ⟨7, rfl, fun h => by cases h⟩
      · refine hk () ⟨by omega, by simp at il; omega, fun y hy => ?_⟩
        rcases ia y hy with h | h
        · rcases List.mem_cons.1 h with rfl | h
          · exact .inr (e2 (by simpa using hc))
          · exact .inl h
        · exact .inr h
theorem s_netCheck (n : T_Net) (hn : ∀ h ∈ n.Topo.Hosts, (h.Name.size : Int) ≤ maxI) : ∃ c, t_net_Check n = some c ∧ (c = 0 → netGood n) := by
  unfold t_net_Check
  obtain ⟨c, e1, e2⟩ := s_topoCheck n.Topo hn
  rw [e1]
  simp only [Option.bind_some]
  split
  · rename_i hc
    refine ⟨c, rfl, fun h => ?_⟩
    simp [h] at hc
  · rename_i hc
    have hc : c = 0 := by simpa using hc
    subst hc
    have hg := e2 rfl
    split
    · exact ⟨3, rfl, fun h => by cases h⟩
    · rename_i hl
      have hl : (n.Tables.length : Int) = n.Topo.Switches := by simpa using hl
      simp only [join_eq]
      have := hg.sw
      refine loopI_ex (fun _ l _ => ∀ x ∈ n.Tables, x ∈ l ∨ tblGood x) (by omega) (fun x hx => .inl hx) (fun i s hI => ⟨0, rfl, fun _ => ⟨hg, e1, hl, fun t ht => (hI t ht).resolve_left (by simp)⟩⟩) (fun i x l s k hI hk => ?_)
      obtain ⟨c, f1, f2⟩ := s_ruleTable x
      rw [f1]
      simp only [Option.bind_some]
      split
      · rename_i hc
        refine ⟨c, rfl, fun h => ?_⟩
        simp [h] at hc
      · rename_i hc
        refine hk () fun y hy => ?_
        rcases hI y hy with h | h
        · rcases List.mem_cons.1 h with rfl | h
          · exact .inr (f2 (by simpa using hc))
          · exact .inl h
        · exact .inr h
theorem idx_some {α : Type} {l : List α} {i : Int} (h0 : 0 ≤ i) (h1 : i < l.length) : ∃ x, idx l i = some x ∧ x ∈ l ∧ l[i.toNat]? = some x := by
  have : i.toNat < l.length := by omega
  exact ⟨l[i.toNat], by simp [idx, h0, List.getElem?_eq_getElem this], List.getElem_mem this, List.getElem?_eq_getElem this⟩

abbrev cf (c : T_Cube) : Int := cchk c.Mask c.Bits
abbrev hs (c : T_Cube) (h : Int) : Bool := chas c.Mask c.Bits h
theorem and_andNot' {m b : Int} (h : 0 ≤ m ∧ m < 16 ∧ 0 ≤ b ∧ b < 16) : bits .and .i64 b m = b ↔ bits .andNot .i64 b m = 0 := by
  obtain ⟨h1, h2, h3, h4⟩ := h
  obtain ⟨m, rfl⟩ := Int.eq_ofNat_of_zero_le h1
  obtain ⟨b, rfl⟩ := Int.eq_ofNat_of_zero_le h3
  have hm : m < 16 := by omega
  have hb : b < 16 := by omega
  have H : ∀ x y : Fin 16, bits .and .i64 (y.val : Int) (x.val : Int) = (y.val : Int) ↔ bits .andNot .i64 (y.val : Int) (x.val : Int) = 0 := by decide +kernel
  exact H ⟨m, hm⟩ ⟨b, hb⟩
theorem hdr_eq (k : Int) : (decide (0 ≤ k) && decide (k < 16)) = hdr k := by unfold hdr; rw [Bool.eq_iff_iff]; simp
theorem s_cube_Header (k : Int) : t_cube_Header k = some (hdr k) := by rw [t_cube_Header, hdr_eq]
theorem s_rHeader (k : Int) : t_railref1_Header k = some (hdr k) := by rw [t_railref1_Header, hdr_eq]
theorem s_cube_Check (c : T_Cube) : t_cube_Check c = some (cf c) := by
  unfold t_cube_Check cf cchk
  simp only [s_cube_Header, Option.bind_some]
  cases h1 : hdr c.Mask
  · rw [hdr_not] at h1
    simp [gd_false]
    try omega
  · cases h2 : hdr c.Bits
    · rw [hdr_not] at h2
      simp [gd_true, h2]
      try omega
    · rw [hdr_iff] at h1 h2
      rw [if_pos (show 0 ≤ c.Mask ∧ c.Mask < 16 ∧ 0 ≤ c.Bits ∧ c.Bits < 16 by omega)]
      by_cases h3 : bits .andNot .i64 c.Bits c.Mask = 0 <;> simp [gd_true, h3]
theorem s_rCube (c : T_Cube) : t_railref1_Cube c = some (cf c) := by
  unfold t_railref1_Cube cf cchk
  simp only [s_rHeader, Option.bind_some]
  cases h1 : hdr c.Mask
  · rw [hdr_not] at h1
    simp
    omega
  · cases h2 : hdr c.Bits
    · rw [hdr_not] at h2
      simp
      omega
    · rw [hdr_iff] at h1 h2
      rw [if_pos (show 0 ≤ c.Mask ∧ c.Mask < 16 ∧ 0 ≤ c.Bits ∧ c.Bits < 16 by omega)]
      have h3 := and_andNot' ⟨h1.1, h1.2, h2.1, h2.2⟩
      by_cases h : bits .andNot .i64 c.Bits c.Mask = 0 
      · simp [h, h3.2 h]
      · have : ¬ bits .and .i64 c.Bits c.Mask = c.Bits := fun z => h (h3.1 z)
        simp [h, this]

section
variable {α β σ : Type}
/-- what each end of a loop has -/
theorem goI_post {step : Int → α → σ → (σ → Option β) → Option β} {fin : σ → Option β} {Q : β → Prop} (hfin : ∀ s v, fin s = some v → Q v)
    (hstep : ∀ i x s k, (∀ s' v, k s' = some v → Q v) → ∀ v, step i x s k = some v → Q v) : ∀ (l : List α) (i : Int) (s : σ) (v : β), goI step fin i l s = some v → Q v
  | [], i, s, v, h => hfin s v h
  | x :: l, i, s, v, h => hstep i x s _ (fun s' v' h' => goI_post hfin hstep l (i + 1) s' v' h') v h
theorem loopI_post {step : Int → α → σ → (σ → Option β) → Option β} {fin : σ → Option β} (Q : β → Prop) {l : List α} {s : σ} {v : β} (h : loopI l step fin s = some v) (hfin : ∀ s v, fin s = some v → Q v)
    (hstep : ∀ i x s k, (∀ s' v, k s' = some v → Q v) → ∀ v, step i x s k = some v → Q v) : Q v := by
  unfold loopI at h
  rw [need_some] at h
  exact goI_post hfin hstep l 0 s v h.2
end
section
variable {α β σ τ : Type}
/-- two loops that go alike -/
theorem goI_sim {step : Int → α → σ → (σ → Option β) → Option β} {step' : Int → α → τ → (τ → Option β) → Option β} {fin : σ → Option β} {fin' : τ → Option β} (I : Int → List α → σ → τ → Prop) (hfin : ∀ i s t, I i [] s t → fin s = fin' t)
    (hstep : ∀ i x l s t k k', I i (x :: l) s t → (∀ s' t', I (i + 1) l s' t' → k s' = k' t') → step i x s k = step' i x t k') : ∀ (l : List α) (i : Int) (s : σ) (t : τ), I i l s t → goI step fin i l s = goI step' fin' i l t
  | [], i, s, t, h => hfin i s t h
  | x :: l, i, s, t, h => hstep i x l s t _ _ h fun s' t' h' => goI_sim I hfin hstep l (i + 1) s' t' h'
theorem loopI_sim {step : Int → α → σ → (σ → Option β) → Option β} {step' : Int → α → τ → (τ → Option β) → Option β} {fin : σ → Option β} {fin' : τ → Option β} (I : Int → List α → σ → τ → Prop) {l : List α} {s : σ} {t : τ} (h0 : I 0 l s t) (hfin : ∀ i s t, I i [] s t → fin s = fin' t)
    (hstep : ∀ i x l s t k k', I i (x :: l) s t → (∀ s' t', I (i + 1) l s' t' → k s' = k' t') → step i x s k = step' i x t k') : loopI l step fin s = loopI l step' fin' t := by
  unfold loopI; rw [goI_sim I hfin hstep l 0 s t h0]
theorem loopI_any {step : Int → α → Unit → (Unit → Option β) → Option β} {f : Option β} (p : α → Bool) {r : β} {l : List α} (hl : (l.length : Int) ≤ maxI) (h : ∀ x i k, step i x () k = if p x = true then some r else k ()) : loopI l step (fun _ => f) () = if l.any p = true then some r else f := by
  rw [loopI_eq hl, goI_any (p := p) (r := r) l 0 fun x _ i k => h x i k]
theorem goU_any {l : List α} {p : α → Bool} {r : β} {step : Int → Unit → (Unit → Option β) → Option β} {f : Option β} (h : ∀ (j : Nat) x k, l[j]? = some x → step (j : Int) () k = if p x = true then some r else k ()) : ∀ (m i : Nat), i + m ≤ l.length → goU step (fun _ _ => f) m (i : Int) () = if ((l.drop i).take m).any p = true then some r else f
  | 0, i, _ => by simp [goU]
  | m + 1, i, hm => by
    have hi : i < l.length := by omega
    rw [goU, h i l[i] _ (List.getElem?_eq_getElem hi), List.drop_eq_getElem_cons hi, List.take_succ_cons, List.any_cons]
    have e : (i : Int) + 1 = ((i + 1 : Nat) : Int) := by omega
    rw [e, goU_any h m (i + 1) (by omega)]
    cases p l[i] <;> simp
theorem loopU_any {l : List α} (p : α → Bool) {r : β} {step : Int → Unit → (Unit → Option β) → Option β} {f : Option β} {i : Int} (h0 : 0 ≤ i) (h1 : i ≤ l.length) (h2 : i ≤ maxI) (h : ∀ (j : Nat) x k, l[j]? = some x → step (j : Int) () k = if p x = true then some r else k ()) : loopU 0 i step (fun _ _ => f) () = if (l.take i.toNat).any p = true then some r else f := by
  rw [loopU_eq (Int.le_refl 0) h2, Int.sub_zero]
  have := goU_any (f := f) h i.toNat 0 (by omega)
  simpa using this
end
section
variable {K α : Type} [DecidableEq K]
theorem mfind_off : ∀ (l : List (K × α)) (a : K) (i : Nat), mfind l a i = (mfind l a 0).map fun p => (p.1 + i, p.2)
  | [], _, _ => rfl
  | (b, u) :: r, a, i => by
    simp only [mfind]
    split
    · simp
    · rw [mfind_off r a (i + 1), mfind_off r a (0 + 1)]
      cases mfind r a 0 with
      | none => rfl
      | some p => simp; omega
theorem mget_cons (b : K) (u : α) (r : List (K × α)) (a : K) (d : α) : mget ((b, u) :: r) a d = if a = b then u else mget r a d := by
  unfold mget
  simp only [mfind]
  by_cases h : a = b
  · simp [h]
  · rw [if_neg h, if_neg h, mfind_off r a (0 + 1)]
    cases mfind r a 0 <;> rfl
theorem mput_cons (b : K) (u : α) (r : List (K × α)) (a : K) (v : α) : mput ((b, u) :: r) a v = if a = b then (a, v) :: r else (b, u) :: mput r a v := by
  unfold mput
  simp only [mfind]
  by_cases h : a = b
  · simp [h]
  · rw [if_neg h, if_neg h, mfind_off r a (0 + 1)]
    cases mfind r a 0 <;> simp
theorem mget_mput : ∀ (l : List (K × α)) (a : K) (v : α) (b : K) (d : α), mget (mput l a v) b d = if b = a then v else mget l b d
  | [], a, v, b, d => by
    show mget ([(a, v)]) b d = _
    rw [mget_cons]
  | (c, u) :: r, a, v, b, d => by
    rw [mput_cons]
    by_cases h : a = c
    · subst h
      rw [if_pos rfl, mget_cons, mget_cons]
      split <;> rfl
    · rw [if_neg h, mget_cons, mget_cons, mget_mput r a v b d]
      by_cases h2 : b = c
      · subst h2
        rw [if_pos rfl, if_neg (fun e => h e.symm), if_pos rfl]
      · rw [if_neg h2, if_neg h2]
omit [DecidableEq K] in
theorem any_two (p q : K → Bool) : ∀ l : List K, (l.any fun y => p y || q y) = (l.any p || l.any q)
  | [] => rfl
  | x :: l => by
    rw [List.any_cons, List.any_cons, List.any_cons, any_two p q l]
    cases p x <;> cases q x <;> cases l.any p <;> rfl
theorem any_is (l : List K) (a : K) : (l.any fun y => decide (y = a)) = decide (a ∈ l) := by
  rw [Bool.eq_iff_iff]
  simp
end


section
variable {α β γ σ : Type}
theorem goI_map {step : Int → α → List γ → (List γ → Option β) → Option β} {fin : List γ → Option β} {f : α → γ} {B : Nat} : ∀ (l : List α) (i : Int) (s : List γ), s.length + l.length ≤ B → (∀ x ∈ l, ∀ i s k, s.length + 1 ≤ B → step i x s k = k (s ++ [f x])) → goI step fin i l s = fin (s ++ l.map f)
  | [], i, s, _, _ => by simp [goI]
  | x :: l, i, s, hb, h => by
    simp only [List.length_cons] at hb
    rw [goI, h x (by simp) i s _ (by omega), goI_map l (i + 1) (s ++ [f x]) (by simp; omega) fun y hy => h y (by simp [hy])]
    simp
theorem goU_seq {step : Int → σ → (σ → Option β) → Option β} {fin : Int → σ → Option β} (f : Nat → σ) {n : Nat} (h : ∀ (j : Nat) k, j < n → step (j : Int) (f j) k = k (f (j + 1))) : ∀ (m j : Nat), j + m ≤ n → goU step fin m (j : Int) (f j) = fin ((j + m : Nat) : Int) (f (j + m))
  | 0, j, _ => by simp [goU]
  | m + 1, j, hm => by
    rw [goU, h j _ (by omega)]
    have e : (j : Int) + 1 = ((j + 1 : Nat) : Int) := by omega
    rw [e, goU_seq f h m (j + 1) (by omega)]
    have e2 : j + 1 + m = j + (m + 1) := by omega
    rw [e2]
theorem goU_fold {step : Int → σ → (σ → Option β) → Option β} {fin : Int → σ → Option β} {l : List α} {f : σ → α → σ} (h : ∀ (j : Nat) x s k, l[j]? = some x → step (j : Int) s k = k (f s x)) : ∀ (m i : Nat) (s : σ), i + m = l.length → goU step fin m (i : Int) s = fin ((i + m : Nat) : Int) ((l.drop i).foldl f s)
  | 0, i, s, hm => by rw [List.drop_eq_nil_of_le (by omega)]; simp [goU]
  | m + 1, i, s, hm => by
    have hi : i < l.length := by omega
    rw [goU, h i l[i] s _ (List.getElem?_eq_getElem hi), List.drop_eq_getElem_cons hi, List.foldl_cons]
    have e : (i : Int) + 1 = ((i + 1 : Nat) : Int) := by omega
    rw [e, goU_fold h m (i + 1) _ (by omega)]
    have e2 : i + 1 + m = i + (m + 1) := by omega
    rw [e2]
/-- the first that has p, counted from i on -/
def fx (p : α → Bool) : List α → Nat → Int
  | [], _ => -1
  | x :: l, i => if p x = true then (i : Int) else fx p l (i + 1)
theorem fx_map (p : γ → Bool) (f : α → γ) : ∀ (l : List α) (i : Nat), fx p (l.map f) i = fx (fun x => p (f x)) l i
  | [], _ => rfl
  | x :: l, i => by simp only [List.map_cons, fx, fx_map p f l]
theorem fx_cong {p q : α → Bool} : ∀ {l : List α} {i : Nat}, (∀ x ∈ l, p x = q x) → fx p l i = fx q l i
  | [], _, _ => rfl
  | x :: l, i, h => by simp only [fx, h x (by simp), fx_cong (l := l) fun y hy => h y (by simp [hy])]
theorem fx_at {p : α → Bool} : ∀ {l : List α} {i : Nat}, (fx p l i < 0 ∧ ∀ x ∈ l, p x = false) ∨ ∃ j x, fx p l i = ((i + j : Nat) : Int) ∧ l[j]? = some x ∧ p x = true ∧ ∀ k y, k < j → l[k]? = some y → p y = false
  | [], i => .inl ⟨by simp [fx], by simp⟩
  | x :: l, i => by
    by_cases h : p x = true
    · refine .inr ⟨0, x, by simp [fx, h], by simp, h, fun k y hk => by omega⟩
    · have h' : p x = false := by simpa using h
      rcases fx_at (p := p) (l := l) (i := i + 1) with ⟨h1, h2⟩ | ⟨j, y, h1, h2, h3, h4⟩
      · refine .inl ⟨by simp [fx, h', h1], fun y hy => ?_⟩
        rcases List.mem_cons.1 hy with rfl | hy
        · exact h'
        · exact h2 y hy
      · refine .inr ⟨j + 1, y, by simp only [fx, h', Bool.false_eq_true, if_false, h1]; congr 1; omega, by simpa using h2, h3, fun k z hk hz => ?_⟩
        cases k with
        | zero => simp at hz; rw [← hz]; exact h'
        | succ k => exact h4 k z (by omega) (by simpa using hz)
end

theorem s_above (a b : T_Rule) : ∃ c, t_rule_above a b = some c := by
  have hc : ∀ x y : Int, ∃ c, t_cmp_Compare_int x y = some c := fun x y => by
    unfold t_cmp_Compare_int t_cmp_isNaN_int
    simp only [Option.bind_some, ne_eq, not_true_eq_false, decide_false, Bool.false_eq_true, if_false]
    split
    · exact ⟨_, rfl⟩
    · split <;> exact ⟨_, rfl⟩
  unfold t_rule_above
  obtain ⟨c1, h1⟩ := hc a.Prio b.Prio
  obtain ⟨c2, h2⟩ := hc a.Cube.Mask b.Cube.Mask
  obtain ⟨c3, h3⟩ := hc a.Cube.Bits b.Cube.Bits
  rw [h1, h2, h3]
  simp only [Option.bind_some]
  have : ∃ c, t_cmp_Or_int [c1, c2, c3] = some c ∧ True := by
    unfold t_cmp_Or_int
    simp only [join_eq]
    refine loopI_ex (fun _ _ _ => True) (by simp) trivial (fun _ _ _ => ⟨_, rfl, trivial⟩) (fun i y l s k _ hk => ?_)
    split
    · exact ⟨_, rfl, trivial⟩
    · exact hk () trivial
  obtain ⟨c, h4, _⟩ := this
  rw [h4]
  exact ⟨c, rfl⟩
theorem s_Find (t : List T_Rule) (h : Int) (ht : t.length ≤ 12) : ∃ i, t_rule_Find t h = some i ∧ (i < 0 ∨ (0 ≤ i ∧ i < t.length)) := by
  unfold t_rule_Find
  have : ∃ i, loopI t (fun (i13 : Int) x14 (s9 : Int) k10 =>
      (gd ((decide ((bits .and .i64 h x14.Cube.Mask) = x14.Cube.Bits)) && (!(decide (s9 < 0)))) default (idx t s9)).bind fun r43 =>
      (gd ((decide ((bits .and .i64 h x14.Cube.Mask) = x14.Cube.Bits)) && (!(decide (s9 < 0)))) default (t_rule_above x14 r43)).bind fun r50 =>
      (if ((decide ((bits .and .i64 h x14.Cube.Mask) = x14.Cube.Bits)) && ((decide (s9 < 0)) || (decide (0 < r50)))) = true then (some i13) else (some (s9))).bind fun (s60 : Int) => k10 (s60)) (fun (s9 : Int) => some (s9)) (-1 : Int) = some i ∧ (i < 0 ∨ (0 ≤ i ∧ i < t.length)) := by
    refine loopI_ex (fun i l s => 0 ≤ i ∧ i + l.length = t.length ∧ (s < 0 ∨ (0 ≤ s ∧ s < i))) (by omega) ⟨Int.le_refl _, by omega, .inl (by decide)⟩ (fun i s hI => ⟨s, rfl, ?_⟩) (fun i x l s k hI hk => ?_)
    · obtain ⟨h1, h2, h3⟩ := hI
      simp at h2
      omega
    · obtain ⟨h1, h2, h3⟩ := hI
      simp only [List.length_cons] at h2
      generalize hB : ((decide ((bits .and .i64 h x.Cube.Mask) = x.Cube.Bits)) && (!(decide (s < 0)))) = B
      obtain ⟨y, hy⟩ : ∃ y, gd B default (idx t s) = some y := by
        cases B with
        | false => exact ⟨_, rfl⟩
        | true =>
          simp only [Bool.and_eq_true, Bool.not_eq_true', decide_eq_false_iff_not] at hB
          obtain ⟨y, hy, _⟩ := idx_some (l := t) (i := s) (by omega) (by omega)
          exact ⟨y, hy⟩
      rw [hy]
      simp only [Option.bind_some]
      obtain ⟨z, hz⟩ : ∃ z, gd B default (t_rule_above x y) = some z := by
        cases B with
        | false => exact ⟨_, rfl⟩
        | true => exact s_above x y
      rw [hz]
      simp only [Option.bind_some]
      split
      · exact hk i ⟨by omega, by omega, .inr (by omega)⟩
      · exact hk s ⟨by omega, by omega, by omega⟩
  obtain ⟨i, h1, h2⟩ := this
  exact ⟨i, by rw [h1]; rfl, h2⟩

theorem hdr_bits {h s v : Int} (hh : 0 ≤ h ∧ h < 16) (hs : 0 ≤ s ∧ s < 16) (hv : 0 ≤ v ∧ v < 16) : 0 ≤ bits .or .i64 (bits .andNot .i64 h s) v ∧ bits .or .i64 (bits .andNot .i64 h s) v < 16 := by
  have H : ∀ x y z : Fin 16, 0 ≤ bits .or .i64 (bits .andNot .i64 (x.val : Int) (y.val : Int)) (z.val : Int) ∧ bits .or .i64 (bits .andNot .i64 (x.val : Int) (y.val : Int)) (z.val : Int) < 16 := by decide +kernel
  have := H ⟨h.toNat, by omega⟩ ⟨s.toNat, by omega⟩ ⟨v.toNat, by omega⟩
  simpa [Int.toNat_of_nonneg hh.1, Int.toNat_of_nonneg hs.1, Int.toNat_of_nonneg hv.1] using this
theorem s_Out (t : List T_Rule) (ht : tblGood t) (at_ : T_Spot) (h : Int) (hh : 0 ≤ h ∧ h < 16) : ∃ o, t_net_Out t at_ h = some o ∧ (o.2.2 = true → o.1.Switch = at_.Switch ∧ (1 ≤ o.1.Port ∧ o.1.Port ≤ 4) ∧ 0 ≤ o.2.1 ∧ o.2.1 < 16) := by
  unfold t_net_Out
  obtain ⟨i, e1, e2⟩ := s_Find t h ht.1
  rw [e1]
  simp only [Option.bind_some]
  by_cases hi : i < 0
  · simp [hi, gd]
  · obtain ⟨x, hx, hm, _⟩ := idx_some (l := t) (i := i) (by omega) (by omega)
    simp only [hx, hi, decide_false, Bool.not_false, gd_true, Option.bind_some, Bool.false_or]
    split
    · exact ⟨_, rfl, fun h => by cases h⟩
    · rename_i ho
      have ho : ¬ x.Out = 0 := by simpa using ho
      obtain ⟨g1, g2, g3⟩ := ht.2 x hm
      exact ⟨_, rfl, fun _ => ⟨rfl, by simp only; omega, hdr_bits hh g2 g3⟩⟩
theorem s_Other (T : T_Topo) (hT : topoGood T) (s : T_Spot) : ∃ o, t_topo_Other T s = some o ∧ (o.2 = true → spotOk T o.1) := by
  unfold t_topo_Other
  simp only [join_eq]
  have := hT.nl
  refine loopI_ex (fun _ l _ => ∀ x ∈ l, x ∈ T.Links) (by omega) (fun _ h => h) (fun i s hI => ⟨_, rfl, fun h => by cases h⟩) (fun i x l s k hI hk => ?_)
  have hx := hT.links x (hI x (by simp))
  split
  · exact ⟨_, rfl, fun _ => hx.2⟩
  · split
    · exact ⟨_, rfl, fun _ => hx.1⟩
    · exact hk () fun y hy => hI y (by simp [hy])
theorem s_IndexHost (l : List T_Host) (hl : l.length ≤ 8) (p : T_Host → Bool) (g : T_Host → Option Bool) (hg : ∀ x, g x = some (p x)) : ∃ i, t_slices_IndexFunc_api_Host_api_Host l g = some i ∧ (i < 0 ∨ (0 ≤ i ∧ i < l.length)) := by
  unfold t_slices_IndexFunc_api_Host_api_Host
  simp only [join_eq]
  refine loopI_ex (fun i m _ => 0 ≤ i ∧ i + m.length = l.length) (by omega) ⟨Int.le_refl _, by omega⟩ (fun i s hI => ⟨-1, rfl, .inl (by decide)⟩) (fun i x m s k hI hk => ?_)
  rw [hg]
  simp only [Option.bind_some]
  obtain ⟨h1, h2⟩ := hI
  simp only [List.length_cons] at h2
  split
  · exact ⟨i, rfl, .inr ⟨h1, by omega⟩⟩
  · exact hk () ⟨by omega, by omega⟩
theorem s_Host (T : T_Topo) (hT : topoGood T) (s : T_Spot) : ∃ o, t_topo_Host T s = some o ∧ (o.2 = true → o.1 ≠ ByteArray.mk #[]) := by
  unfold t_topo_Host
  obtain ⟨i, e1, e2⟩ := s_IndexHost T.Hosts hT.nh (fun a4 => decide (a4.At = s)) _ (fun x => (rfl : t_topo_Host_1 x s = some (decide (x.At = s))))
  rw [e1]
  simp only [Option.bind_some]
  split
  · exact ⟨_, rfl, fun h => by cases h⟩
  · rename_i hi
    simp only [decide_eq_true_eq] at hi
    obtain ⟨x, hx, hm, _⟩ := idx_some (l := T.Hosts) (i := i) (by omega) (by omega)
    rw [hx]
    exact ⟨_, rfl, fun _ => (hT.hosts x hm).1⟩
theorem s_Contains (l : List T_Hop) (hl : (l.length : Int) ≤ maxI) (x : T_Hop) : t_slices_Contains_api_Hop_api_Hop l x = some (decide (x ∈ l)) := by
  have : ∃ i, t_slices_Index_api_Hop_api_Hop l x = some i ∧ (0 ≤ i ↔ x ∈ l) := by
    unfold t_slices_Index_api_Hop_api_Hop
    simp only [join_eq]
    refine loopI_ex (fun i m _ => 0 ≤ i ∧ (x ∈ l ↔ x ∈ m) ∧ ∀ y ∈ m, y ∈ l) hl ⟨Int.le_refl _, Iff.rfl, fun _ h => h⟩ (fun i s hI => ⟨-1, rfl, ?_⟩) (fun i y m s k hI hk => ?_)
    · rw [hI.2.1]; simp
    · split
      · rename_i he
        have he : x = y := by simpa using he
        exact ⟨i, rfl, ⟨fun _ => by rw [he]; exact hI.2.2 y (by simp), fun _ => hI.1⟩⟩
      · rename_i he
        have he : ¬ x = y := by simpa using he
        exact hk () ⟨by have := hI.1; omega, by rw [hI.2.1]; simp [he], fun z hz => hI.2.2 z (by simp [hz])⟩
  obtain ⟨i, h1, h2⟩ := this
  unfold t_slices_Contains_api_Hop_api_Hop
  rw [h1]
  simp only [Option.bind_some, h2]

theorem s_cmp (x y : Int) : t_cmp_Compare_int x y = some (if x < y then -1 else if y < x then 1 else 0) := by
  unfold t_cmp_Compare_int t_cmp_isNaN_int
  simp only [Option.bind_some, ne_eq, not_true_eq_false, decide_false, Bool.false_eq_true, if_false]
  by_cases h1 : x < y
  · simp [h1]
  · by_cases h2 : y < x <;> simp [h1, h2]
theorem s_cmpOr (a b c : Int) : t_cmp_Or_int [a, b, c] = some (if a ≠ 0 then a else if b ≠ 0 then b else c) := by
  unfold t_cmp_Or_int
  simp only [join_eq]
  rw [loopI_eq (by have : maxI = 9223372036854775807 := rfl; simp; omega)]
  simp only [goI]
  by_cases h1 : a = 0 <;> by_cases h2 : b = 0 <;> by_cases h3 : c = 0 <;> simp [h1, h2, h3]

abbrev noT : ByteArray := ByteArray.mk #[]
noncomputable def outV (t : List T_Rule) (at_ : T_Spot) (h : Int) : T_Spot × Int × Bool := (t_net_Out t at_ h).getD default
noncomputable def hostV (T : T_Topo) (s : T_Spot) : ByteArray × Bool := (t_topo_Host T s).getD default
noncomputable def otherV (T : T_Topo) (s : T_Spot) : T_Spot × Bool := (t_topo_Other T s).getD default
def tblV (n : T_Net) (h : T_Hop) : List T_Rule := (idx n.Tables (h.At.Switch - 1)).getD []
structure hopOk (n : T_Net) (h : T_Hop) : Prop where
  at_ : spotOk n.Topo h.At
  hd : 0 ≤ h.Header ∧ h.Header < 16
theorem s_tbl {n : T_Net} (hn : netGood n) {x : T_Hop} (hx : spotOk n.Topo x.At) : idx n.Tables (wr (x.At.Switch - 1)) = some (tblV n x) ∧ tblGood (tblV n x) := by
  have h1 := hn.topo.sw
  obtain ⟨h2, h3, _⟩ := hx
  have hl := hn.len
  rw [wr_id (by omega) (by omega)]
  obtain ⟨t, e1, e2, _⟩ := idx_some (l := n.Tables) (i := x.At.Switch - 1) (by omega) (by omega)
  unfold tblV
  rw [e1]
  exact ⟨rfl, hn.tabs t e2⟩
theorem s_out {n : T_Net} (hn : netGood n) {x : T_Hop} (hx : hopOk n x) : t_net_Out (tblV n x) x.At x.Header = some (outV (tblV n x) x.At x.Header) ∧ ((outV (tblV n x) x.At x.Header).2.2 = true → spotOk n.Topo (outV (tblV n x) x.At x.Header).1 ∧ 0 ≤ (outV (tblV n x) x.At x.Header).2.1 ∧ (outV (tblV n x) x.At x.Header).2.1 < 16) := by
  obtain ⟨o, e1, e2⟩ := s_Out (tblV n x) (s_tbl hn hx.at_).2 x.At x.Header hx.hd
  unfold outV
  rw [e1]
  refine ⟨rfl, fun h => ?_⟩
  obtain ⟨f1, f2, f3⟩ := e2 h
  obtain ⟨g1, g2, _⟩ := hx.at_
  simp only [Option.getD_some]
  exact ⟨⟨by rw [f1]; exact g1, by rw [f1]; exact g2, f2⟩, f3⟩
theorem s_host {n : T_Net} (hn : netGood n) (s : T_Spot) : t_topo_Host n.Topo s = some (hostV n.Topo s) ∧ ((hostV n.Topo s).2 = true → (hostV n.Topo s).1 ≠ noT) := by
  obtain ⟨o, e1, e2⟩ := s_Host n.Topo hn.topo s
  unfold hostV
  rw [e1]
  exact ⟨rfl, e2⟩
theorem s_other {n : T_Net} (hn : netGood n) (s : T_Spot) : t_topo_Other n.Topo s = some (otherV n.Topo s) ∧ ((otherV n.Topo s).2 = true → spotOk n.Topo (otherV n.Topo s).1) := by
  obtain ⟨o, e1, e2⟩ := s_Other n.Topo hn.topo s
  unfold otherV
  rw [e1]
  exact ⟨rfl, e2⟩
/-- how it goes on from a hop: 0 to the next one; else how it ends -/
noncomputable def kd (n : T_Net) (x : T_Hop) : Int × ByteArray × T_Hop :=
  if (outV (tblV n x) x.At x.Header).2.2 = true then
    if (hostV n.Topo (outV (tblV n x) x.At x.Header).1).2 = true then (1, (hostV n.Topo (outV (tblV n x) x.At x.Header).1).1, default)
    else if (otherV n.Topo (outV (tblV n x) x.At x.Header).1).2 = true then (0, noT, ⟨(otherV n.Topo (outV (tblV n x) x.At x.Header).1).1, (outV (tblV n x) x.At x.Header).2.1⟩)
    else (3, noT, default)
  else (2, noT, default)
theorem kd_ok {n : T_Net} (hn : netGood n) {x : T_Hop} (hx : hopOk n x) : ((kd n x).1 = 0 → hopOk n (kd n x).2.2) ∧ ((kd n x).1 = 1 → (kd n x).2.1 ≠ noT) ∧ ((kd n x).1 = 0 ∨ (kd n x).1 = 1 ∨ (kd n x).1 = 2 ∨ (kd n x).1 = 3) := by
  obtain ⟨_, ho⟩ := s_out hn hx
  unfold kd
  split
  · rename_i h1
    split
    · rename_i h2
      exact ⟨fun h => (by cases h), fun _ => (s_host hn _).2 h2, .inr (.inl rfl)⟩
    · split
      · rename_i h3
        exact ⟨fun _ => ⟨(s_other hn _).2 h3, (ho h1).2⟩, fun h => (by cases h), .inl rfl⟩
      · exact ⟨fun h => (by cases h), fun h => (by cases h), .inr (.inr (.inr rfl))⟩
  · exact ⟨fun h => (by cases h), fun h => (by cases h), .inr (.inr (.inl rfl))⟩
theorem idx_last {α : Type} (l : List α) (x : α) (hl : l.length ≤ 100) : idx (l ++ [x]) (wr (((l ++ [x]).length : Int) - 1)) = some x := by
  have e : (((l ++ [x]).length : Int) - 1) = (l.length : Int) := by simp
  rw [e, wr_id (by omega) (by omega), idx_nat]
  simp
/-- one step -/
noncomputable def goV (n : T_Net) (l : List T_Hop) (x : T_Hop) : Bool × T_Fate :=
  if (kd n x).1 = 0 then (if (kd n x).2.2 ∈ l ++ [x] ∨ 24 ≤ (l ++ [x]).length then (false, ⟨4, noT, l ++ [x]⟩) else (true, ⟨0, noT, l ++ [x] ++ [(kd n x).2.2]⟩))
  else (false, ⟨(kd n x).1, if (kd n x).1 = 1 then (kd n x).2.1 else noT, l ++ [x]⟩)
theorem s_Go {n : T_Net} (hn : netGood n) (l : List T_Hop) {x : T_Hop} (hx : hopOk n x) (hl : (l ++ [x]).length ≤ 24) : t_net_Go n.Topo (tblV n x) ⟨0, noT, l ++ [x]⟩ = some (goV n l x) := by
  unfold t_net_Go
  have hl2 : l.length ≤ 100 := by simp at hl; omega
  simp only [idx_last l x hl2, Option.bind_some, (s_out hn hx).1]
  unfold goV kd
  by_cases h1 : (outV (tblV n x) x.At x.Header).2.2 = true
  · simp only [h1, Bool.not_true, Bool.false_eq_true, if_false, if_true, (s_host hn _).1, Option.bind_some]
    by_cases h2 : (hostV n.Topo (outV (tblV n x) x.At x.Header).1).2 = true
    · simp [h2]
    · simp only [h2, if_false, (s_other hn _).1, Option.bind_some]
      by_cases h3 : (otherV n.Topo (outV (tblV n x) x.At x.Header).1).2 = true
      · simp only [h3, Bool.not_true, Bool.false_eq_true, if_false, if_true, Option.bind_some]
        rw [s_Contains _ (by have : maxI = 9223372036854775807 := rfl; omega)]
        simp only [Option.bind_some]
        generalize (⟨(otherV n.Topo (outV (tblV n x) x.At x.Header).1).1, (outV (tblV n x) x.At x.Header).2.1⟩ : T_Hop) = y
        by_cases h4 : y ∈ l ++ [x] ∨ 24 ≤ (l ++ [x]).length
        · have : (decide (y ∈ l ++ [x]) || decide (24 ≤ ((l ++ [x]).length : Int))) = true := by
            rcases h4 with h | h
            · simp only [Bool.or_eq_true, decide_eq_true_eq]; exact .inl h
            · simp only [Bool.or_eq_true, decide_eq_true_eq]; right; omega
          rw [if_pos this, if_pos h4]
        · have : ¬ (decide (y ∈ l ++ [x]) || decide (24 ≤ ((l ++ [x]).length : Int))) = true := by
            simp only [Bool.or_eq_true, decide_eq_true_eq]
            intro h
            exact h4 (h.elim .inl fun h => .inr (by omega))
          rw [if_neg this, if_neg h4]
          have hc : cln (l ++ [x]) = some (l ++ [x]) := if_pos (by omega)
          rw [hc]
          simp only [Option.bind_some]
          rw [app_eq (by simp at hl ⊢; omega)]
          rfl
      · simp [h3]
  · simp [h1]
noncomputable def ofF (n : T_Net) (k : T_Fate → Option T_Fate) (s : T_Fate) : Option T_Fate :=
  (idx s.Hops (wr ((List.length s.Hops : Int) - 1))).bind fun r32 => (idx n.Tables (wr (r32.At.Switch - 1))).bind fun r38 => (t_net_Go n.Topo r38 s).bind fun r42 => if r42.1 = true then k r42.2 else some r42.2
theorem ofF_step {n : T_Net} (hn : netGood n) (k : T_Fate → Option T_Fate) (l : List T_Hop) {x : T_Hop} (hx : hopOk n x) (hl : (l ++ [x]).length ≤ 24) : ofF n k ⟨0, noT, l ++ [x]⟩ = if (goV n l x).1 = true then k (goV n l x).2 else some (goV n l x).2 := by
  unfold ofF
  simp only [idx_last l x (by simp at hl; omega), Option.bind_some, (s_tbl hn hx.at_).1, s_Go hn l hx hl]
theorem s_Of (n : T_Net) (s : T_Spot) (h : Int) : t_net_Of n s h = tfix (ofF n) bigN ⟨0, noT, [] ++ [⟨s, h⟩]⟩ := by
  unfold t_net_Of t_net_Begin
  simp only [Option.bind_some, bind_some_id]
  rfl
/-- each hop is where the one ahead goes, none is there twice -/
structure InvW (n : T_Net) (l : List T_Hop) : Prop where
  walk : ∀ i a b, l[i]? = some a → l[i + 1]? = some b → (kd n a).1 = 0 ∧ (kd n a).2.2 = b
  nodup : l.Nodup
  ok : ∀ y ∈ l, hopOk n y
  len : l.length ≤ 24
structure Fin_ (n : T_Net) (f : T_Fate) (l : List T_Hop) (x : T_Hop) : Prop where
  hops : f.Hops = l ++ [x]
  inv : InvW n (l ++ [x])
  ends : ((kd n x).1 ≠ 0 ∧ f.How = (kd n x).1 ∧ f.Host = if (kd n x).1 = 1 then (kd n x).2.1 else noT) ∨ ((kd n x).1 = 0 ∧ f.How = 4 ∧ f.Host = noT)
theorem run_ex {n : T_Net} (hn : netGood n) : ∀ (d : Nat) (l : List T_Hop) (x : T_Hop) (N : Nat), (l ++ [x]).length + d = 24 → d < N → InvW n (l ++ [x]) → ∃ f q z m, tfix (ofF n) N ⟨0, noT, l ++ [x]⟩ = some f ∧ Fin_ n f q z ∧ q ++ [z] = l ++ [x] ++ m := by
  intro d
  induction d with
  | zero =>
    intro l x N hd hN hI
    obtain ⟨N, rfl⟩ : ∃ M, N = M + 1 := ⟨N - 1, by omega⟩
    rw [show tfix (ofF n) (N + 1) ⟨0, noT, l ++ [x]⟩ = ofF n (tfix (ofF n) N) ⟨0, noT, l ++ [x]⟩ from rfl, ofF_step hn _ l (hI.ok x (by simp)) hI.len]
    unfold goV
    by_cases h0 : (kd n x).1 = 0
    · have h24 : (kd n x).2.2 ∈ l ++ [x] ∨ 24 ≤ (l ++ [x]).length := .inr (by omega)
      rw [if_pos h0, if_pos h24]
      exact ⟨_, l, x, [], rfl, ⟨rfl, hI, .inr ⟨h0, rfl, rfl⟩⟩, by simp⟩
    · rw [if_neg h0]
      exact ⟨_, l, x, [], rfl, ⟨rfl, hI, .inl ⟨h0, rfl, rfl⟩⟩, by simp⟩
  | succ d ih =>
    intro l x N hd hN hI
    obtain ⟨N, rfl⟩ : ∃ M, N = M + 1 := ⟨N - 1, by omega⟩
    rw [show tfix (ofF n) (N + 1) ⟨0, noT, l ++ [x]⟩ = ofF n (tfix (ofF n) N) ⟨0, noT, l ++ [x]⟩ from rfl, ofF_step hn _ l (hI.ok x (by simp)) hI.len]
    unfold goV
    by_cases h0 : (kd n x).1 = 0
    · rw [if_pos h0]
      by_cases h1 : (kd n x).2.2 ∈ l ++ [x] ∨ 24 ≤ (l ++ [x]).length
      · rw [if_pos h1]
        exact ⟨_, l, x, [], rfl, ⟨rfl, hI, .inr ⟨h0, rfl, rfl⟩⟩, by simp⟩
      · rw [if_neg h1]
        simp only [not_or, Nat.not_le] at h1
        simp only [if_true]
        have hok := (kd_ok hn (hI.ok x (by simp))).1 h0
        have hI2 : InvW n (l ++ [x] ++ [(kd n x).2.2]) := by
          refine ⟨fun i a b ha hb => ?_, ?_, fun y hy => ?_, by rw [List.length_append]; simp only [List.length_singleton]; omega⟩
          · by_cases hi : i + 1 < (l ++ [x]).length
            · rw [List.getElem?_append_left (by omega)] at ha
              rw [List.getElem?_append_left hi] at hb
              exact hI.walk i a b ha hb
            · have hi2 := (List.getElem?_eq_some_iff.1 hb).1
              rw [List.length_append, List.length_singleton] at hi2
              have ei : i + 1 = (l ++ [x]).length := by omega
              rw [ei, List.getElem?_append_right (Nat.le_refl _), Nat.sub_self] at hb
              simp only [List.getElem?_cons_zero, Option.some.injEq] at hb
              have ei2 : i = l.length := by simp at ei; omega
              rw [ei2, List.append_assoc, List.getElem?_append_right (Nat.le_refl _), Nat.sub_self] at ha
              simp only [List.cons_append, List.getElem?_cons_zero, Option.some.injEq] at ha
              subst ha
              exact ⟨h0, hb⟩
          · rw [List.nodup_append]
            exact ⟨hI.nodup, by simp, fun a ha b hb => by simp only [List.mem_singleton] at hb; subst hb; exact fun e => h1.1 (by rw [← e]; exact ha)⟩
          · rcases List.mem_append.1 hy with h | h
            · exact hI.ok y h
            · simp only [List.mem_singleton] at h; subst h; exact hok
        obtain ⟨f, q, z, m, e1, e2, e3⟩ := ih (l ++ [x]) (kd n x).2.2 N (by rw [List.length_append]; simp only [List.length_singleton]; omega) (by omega) hI2
        exact ⟨f, q, z, (kd n x).2.2 :: m, e1, e2, by rw [e3]; simp⟩
    · rw [if_neg h0]
      exact ⟨_, l, x, [], rfl, ⟨rfl, hI, .inl ⟨h0, rfl, rfl⟩⟩, by simp⟩
/-- from any of its hops on it ends likewise -/
theorem run_det {n : T_Net} (hn : netGood n) {q : List T_Hop} {z : T_Hop} (hI : InvW n (q ++ [z])) (hz : (kd n z).1 ≠ 0) : ∀ (r l : List T_Hop) (x : T_Hop) (N : Nat), l ++ [x] ++ r = q ++ [z] → r.length < N → tfix (ofF n) N ⟨0, noT, l ++ [x]⟩ = some ⟨(kd n z).1, if (kd n z).1 = 1 then (kd n z).2.1 else noT, q ++ [z]⟩
  | [], l, x, N, he, hN => by
    obtain ⟨N, rfl⟩ : ∃ M, N = M + 1 := ⟨N - 1, by simp at hN; omega⟩
    rw [List.append_nil] at he
    obtain ⟨rfl, h2⟩ := List.append_inj' he rfl
    obtain rfl : x = z := by simpa using h2
    rw [show tfix (ofF n) (N + 1) ⟨0, noT, l ++ [x]⟩ = ofF n (tfix (ofF n) N) ⟨0, noT, l ++ [x]⟩ from rfl, ofF_step hn _ l (hI.ok x (by simp)) hI.len]
    unfold goV
    rw [if_neg hz]
    rfl
  | y :: r, l, x, N, he, hN => by
    obtain ⟨N, rfl⟩ : ∃ M, N = M + 1 := ⟨N - 1, by simp at hN; omega⟩
    have hlen : (l ++ [x]).length + 1 + r.length ≤ 24 := by
      have := hI.len
      rw [← he] at this
      rw [List.length_append, List.length_cons] at this
      omega
    have hok : hopOk n x := hI.ok x (by rw [← he]; simp)
    rw [show tfix (ofF n) (N + 1) ⟨0, noT, l ++ [x]⟩ = ofF n (tfix (ofF n) N) ⟨0, noT, l ++ [x]⟩ from rfl, ofF_step hn _ l hok (by omega)]
    obtain ⟨h0, h1⟩ := hI.walk l.length x y (by rw [← he]; simp) (by rw [← he, List.append_assoc, List.getElem?_append_right (by omega)]; simp)
    have hny : y ∉ l ++ [x] := by
      have := hI.nodup
      rw [← he, List.nodup_append] at this
      exact fun h => this.2.2 y h y (by simp) rfl
    unfold goV
    have hno : ¬ (y ∈ l ++ [x] ∨ 24 ≤ (l ++ [x]).length) := fun h => h.elim hny fun h => by omega
    rw [if_pos h0, h1, if_neg hno]
    simp only [if_true]
    exact run_det hn hI hz r (l ++ [x]) y N (by rw [← he]; simp) (by simp at hN; omega)

/-- hosts have names of their own -/
theorem host_names {T : T_Topo} (hn : ∀ h ∈ T.Hosts, (h.Name.size : Int) ≤ maxI) (hc : t_topo_Check T = some 0) : (T.Hosts.map fun h => h.Name).Nodup := by
  have hM : maxI = 9223372036854775807 := rfl
  have key : ∃ c, t_topo_Check T = some c ∧ (c = 0 → (T.Hosts.map fun h => h.Name).Nodup) := by
    unfold t_topo_Check
    split
    · exact ⟨1, rfl, fun h => by cases h⟩
    split
    · exact ⟨4, rfl, fun h => by cases h⟩
    rename_i h1 h2
    simp only [Bool.or_eq_true, decide_eq_true_eq, not_or, Int.not_lt] at h2
    simp only [join_eq]
    refine loopI_ex (fun _ l _ => True) (by omega) trivial (fun i s hI => ?_) (fun i x l s k hI hk => ?_)
    · refine loopI_ex (fun _ l (s : List (T_Spot × Bool) × List (ByteArray × Bool)) => ∃ pre : List T_Host, T.Hosts = pre ++ l ∧ (pre.map fun h : T_Host => h.Name).Nodup ∧ ∀ nm : ByteArray, mget s.2 nm false = pre.any fun h : T_Host => decide (h.Name = nm)) (by omega) ⟨[], rfl, by simp, fun nm => by simp [mget, mfind]⟩ (fun i s hJ => ?_) (fun i x l s k hJ hk => ?_)
      · obtain ⟨pre, h3, h4, _⟩ := hJ
        exact ⟨0, rfl, fun _ => by rw [h3, List.append_nil]; exact h4⟩
      · obtain ⟨pre, h3, h4, h5⟩ := hJ
        obtain ⟨b, e1, _⟩ := s_Name x.Name (hn x (by rw [h3]; simp))
        obtain ⟨b2, e2, _⟩ := s_Spot T x.At
        rw [e1, e2]
        simp only [Option.bind_some]
        split
        · exact ⟨2, rfl, fun h => by cases h⟩
        split
        · exact ⟨1, rfl, fun h => by cases h⟩
        split
        · exact ⟨7, rfl, fun h => by cases h⟩
        · rename_i hm
          have hnx : ¬ x.Name ∈ pre.map fun h : T_Host => h.Name := fun h => hm (by
            obtain ⟨y, hy, hy2⟩ := List.mem_map.1 h
            rw [h5]
            simp only [Bool.or_eq_true, List.any_eq_true]
            exact .inl ⟨y, hy, decide_eq_true hy2⟩)
          refine hk _ ⟨pre ++ [x], by rw [h3]; simp, ?_, fun nm => ?_⟩
          · rw [List.map_append, List.nodup_append]
            exact ⟨h4, by simp, fun a ha b hb => by simp at hb; subst hb; exact fun e => hnx (by rw [← e]; exact ha)⟩
          · rw [mget_mput, h5]
            by_cases e : nm = x.Name
            · simp [e]
            · have e' : ¬ x.Name = nm := fun h => e h.symm
              simp [e, e']
    · obtain ⟨b, e1, _⟩ := s_Spot T x.A
      obtain ⟨b2, e2, _⟩ := s_Spot T x.B
      rw [e1, e2]
      simp only [Option.bind_some]
      have hg : ∃ b3, gd (!!b) default (some b2) = some b3 := by cases b <;> exact ⟨_, rfl⟩
      obtain ⟨b3, hg⟩ := hg
      rw [hg]
      simp only [Option.bind_some]
      split
      · exact ⟨1, rfl, fun h => by cases h⟩
      split
      · exact ⟨7, rfl, fun h => by cases h⟩
      · exact hk _ trivial
  obtain ⟨c, e1, e2⟩ := key
  rw [hc] at e1
  exact e2 (Option.some.inj e1).symm
theorem nodup_eq {α β : Type} {f : α → β} : ∀ {l : List α}, (l.map f).Nodup → ∀ x ∈ l, ∀ y ∈ l, f x = f y → x = y
  | [], _, x, hx, _, _, _ => by cases hx
  | a :: l, h, x, hx, y, hy, e => by
    rw [List.map_cons, List.nodup_cons] at h
    rcases List.mem_cons.1 hx with h1 | h1
    · rcases List.mem_cons.1 hy with h2 | h2
      · rw [h1, h2]
      · exact absurd (by rw [← h1, e]; exact List.mem_map_of_mem h2) h.1
    · rcases List.mem_cons.1 hy with h2 | h2
      · exact absurd (by rw [← h2, ← e]; exact List.mem_map_of_mem h1) h.1
      · exact nodup_eq h.2 x h1 y h2 e
/-- what a net makes of what a host sends -/
noncomputable def fateV (n : T_Net) (x : T_Host) (h : Int) : T_Fate := (t_net_Of n x.At h).getD ⟨0, noT, []⟩
theorem s_fateV {n : T_Net} (hn : netGood n) {x : T_Host} (hx : x ∈ n.Topo.Hosts) {h : Int} (hh : 0 ≤ h ∧ h < 16) : t_net_Of n x.At h = some (fateV n x h) ∧ (fateV n x h).Hops.length ≤ 24 ∧ ∃ m, (fateV n x h).Hops = ⟨x.At, h⟩ :: m := by
  obtain ⟨f, q, z, m, h1, h2, h3⟩ := run_ex hn 23 [] ⟨x.At, h⟩ bigN rfl (Nat.lt_trans (by decide) bigN_gt) ⟨fun i a b _ hb => by simp at hb, by simp, fun y hy => by simp at hy; subst hy; exact ⟨(hn.topo.hosts x hx).2, hh⟩, by simp⟩
  have e : t_net_Of n x.At h = some f := by rw [s_Of, h1]
  unfold fateV
  rw [e]
  refine ⟨rfl, ?_, m, ?_⟩
  · show f.Hops.length ≤ 24
    rw [h2.hops]
    exact h2.inv.len
  · show f.Hops = _
    rw [h2.hops, h3]
    rfl

theorem goI_app {α β γ : Type} {step : Int → α → List γ → (List γ → Option β) → Option β} {fin : List γ → Option β} {g : α → List γ} {B w : Nat} (hw : ∀ x, (g x).length ≤ w) : ∀ (l : List α) (i : Int) (s : List γ), s.length + w * l.length ≤ B → (∀ x ∈ l, ∀ i s k, s.length + w ≤ B → step i x s k = k (s ++ g x)) → goI step fin i l s = fin (s ++ l.flatMap g)
  | [], i, s, _, _ => by simp [goI]
  | x :: l, i, s, hb, h => by
    have := hw x
    rw [List.length_cons, Nat.mul_add, Nat.mul_one] at hb
    rw [goI, h x (by simp) i s _ (by omega), goI_app hw l (i + 1) (s ++ g x) (by simp; omega) fun y hy => h y (by simp [hy])]
    simp
/-- what is well with a fate -/
structure GoodF (n : T_Net) (f : T_Fate) : Prop where
  len : f.Hops.length ≤ 24
  ok : ∀ y ∈ f.Hops, hopOk n y
theorem good_fateV {n : T_Net} (hn : netGood n) {x : T_Host} (hx : x ∈ n.Topo.Hosts) {h : Int} (hh : 0 ≤ h ∧ h < 16) : t_net_Of n x.At h = some (fateV n x h) ∧ GoodF n (fateV n x h) := by
  obtain ⟨f, q, z, m, h1, h2, h3⟩ := run_ex hn 23 [] ⟨x.At, h⟩ bigN rfl (Nat.lt_trans (by decide) bigN_gt) ⟨fun i a b _ hb => by simp at hb, by simp, fun y hy => by simp at hy; subst hy; exact ⟨(hn.topo.hosts x hx).2, hh⟩, by simp⟩
  have e : t_net_Of n x.At h = some f := by rw [s_Of, h1]
  unfold fateV
  rw [e]
  exact ⟨rfl, by show f.Hops.length ≤ 24; rw [h2.hops]; exact h2.inv.len, by show ∀ y ∈ f.Hops, _; rw [h2.hops]; exact h2.inv.ok⟩
noncomputable def hostFates (n : T_Net) (x : T_Host) : List T_Fate := (List.range 16).map fun j : Nat => fateV n x (j : Int)
noncomputable def fatesV (n : T_Net) : List T_Fate := n.Topo.Hosts.flatMap (hostFates n)
theorem fatesV_len (n : T_Net) : (fatesV n).length = 16 * n.Topo.Hosts.length := by
  have : ∀ l : List T_Host, (l.flatMap (hostFates n)).length = 16 * l.length := by
    intro l
    induction l with
    | nil => rfl
    | cons x l ih => rw [List.flatMap_cons, List.length_append, ih]; simp [hostFates]; omega
  exact this _
theorem fatesV_good {n : T_Net} (hn : netGood n) : ∀ f ∈ fatesV n, GoodF n f := by
  intro f hf
  obtain ⟨x, hx, hf⟩ := List.mem_flatMap.1 hf
  obtain ⟨j, hj, rfl⟩ := List.mem_map.1 hf
  have := List.mem_range.1 hj
  exact (good_fateV hn hx ⟨by omega, by omega⟩).2
theorem s_fates {n : T_Net} (hn : netGood n) : t_load_fates n = some (fatesV n) := by
  have hM : maxI = 9223372036854775807 := rfl
  have hnh := hn.topo.nh
  unfold t_load_fates
  rw [loopI_eq (by omega), bind_some_id, goI_app (g := hostFates n) (B := 1000) (w := 16) (fun x => by simp [hostFates]) n.Topo.Hosts 0 [] (by simp; omega) fun x hx i s k hs => by
    have inner : loopU 0 16 (fun (i41 : Int) (s37 : (List T_Fate)) k38 => (t_net_Of n x.At i41).bind fun r51 => (app s37 ([r51] : (List T_Fate))).bind fun r54 => k38 (r54)) (fun (i41 : Int) (s37 : (List T_Fate)) => some (s37)) s = some (s ++ hostFates n x) := by
      rw [loopU_eq (by decide) (by decide), show ((16 : Int) - 0).toNat = 16 from rfl]
      have h0 : s = (fun j : Nat => s ++ (List.range j).map fun j : Nat => fateV n x (j : Int)) 0 := by simp
      rw [show goU (fun (i41 : Int) (s37 : (List T_Fate)) k38 => (t_net_Of n x.At i41).bind fun r51 => (app s37 ([r51] : (List T_Fate))).bind fun r54 => k38 (r54)) (fun (i41 : Int) (s37 : (List T_Fate)) => some (s37)) 16 0 s = goU (fun (i41 : Int) (s37 : (List T_Fate)) k38 => (t_net_Of n x.At i41).bind fun r51 => (app s37 ([r51] : (List T_Fate))).bind fun r54 => k38 (r54)) (fun (i41 : Int) (s37 : (List T_Fate)) => some (s37)) 16 ((0 : Nat) : Int) ((fun j : Nat => s ++ (List.range j).map fun j : Nat => fateV n x (j : Int)) 0) by rw [← h0]; rfl]
      refine (goU_seq (n := 16) (fun j : Nat => s ++ (List.range j).map fun j : Nat => fateV n x (j : Int)) (fun j k hj => ?_) 16 0 (by omega)).trans (by simp only [Nat.zero_add]; rfl)
      rw [(good_fateV hn hx ⟨by omega, by omega⟩).1, Option.bind_some, app_eq (by simp; omega), Option.bind_some]
      simp [List.range_succ]
    rw [inner]; rfl]
  rfl
/-! counts of rules -/
/-- counts of a table's rules each, none greater than m -/
structure CntT (n : T_Net) (m : Int) (s : List (List Int)) : Prop where
  len : s.map List.length = n.Tables.map List.length
  pos : ∀ c ∈ s, ∀ x ∈ c, 0 ≤ x ∧ x ≤ m
theorem CntT.at {n : T_Net} {m : Int} {s : List (List Int)} (h : CntT n m s) : s.length = n.Tables.length ∧ ∀ (i : Nat) (c : List Int) (t : List T_Rule), s[i]? = some c → n.Tables[i]? = some t → c.length = t.length := by
  refine ⟨by have := congrArg List.length h.len; simpa using this, fun i c t hc ht => ?_⟩
  have := congrArg (·[i]?) h.len
  simp only [List.getElem?_map, hc, ht, Option.map_some, Option.some.injEq] at this
  exact this
/-- one hop counted -/
noncomputable def hopF (n : T_Net) (x : T_Hop) (s : List (List Int)) : Option (List (List Int)) :=
 (idx n.Tables (wr (x.At.Switch - 1))).bind fun r66 =>
 (t_rule_Find r66 x.Header).bind fun r70 =>
 (if (decide (0 ≤ r70)) = true then (
 need (decide (0 ≤ (wr (x.At.Switch - 1))) && decide ((wr (x.At.Switch - 1)) < (List.length s : Int))) (
 (idx s (wr (x.At.Switch - 1))).bind fun r81 =>
 (idx s (wr (x.At.Switch - 1))).bind fun r83 =>
 need (decide (0 ≤ r70) && decide (r70 < (List.length r83 : Int))) (
 (idx s (wr (x.At.Switch - 1))).bind fun r85 =>
 (idx r85 r70).bind fun r86 =>
 (idx s (wr (x.At.Switch - 1))).bind fun r89 =>
 need (decide (0 ≤ r70) && decide (r70 < (List.length r89 : Int))) (
 ((idx s (wr (x.At.Switch - 1))).bind fun a_ => (oset a_ r70 (wr (r86 + 1))).map fun b_ => List.set s (Int.toNat (wr (x.At.Switch - 1))) b_).bind fun r92 =>
 some (r92))))) else (
 some (s)))
noncomputable def hopK {β : Type} (n : T_Net) (x : T_Hop) (s : List (List Int)) (k50 : List (List Int) → Option β) : Option β :=
 (idx n.Tables (wr (x.At.Switch - 1))).bind fun r66 =>
 (t_rule_Find r66 x.Header).bind fun r70 =>
 (if (decide (0 ≤ r70)) = true then (
 need (decide (0 ≤ (wr (x.At.Switch - 1))) && decide ((wr (x.At.Switch - 1)) < (List.length s : Int))) (
 (idx s (wr (x.At.Switch - 1))).bind fun r81 =>
 (idx s (wr (x.At.Switch - 1))).bind fun r83 =>
 need (decide (0 ≤ r70) && decide (r70 < (List.length r83 : Int))) (
 (idx s (wr (x.At.Switch - 1))).bind fun r85 =>
 (idx r85 r70).bind fun r86 =>
 (idx s (wr (x.At.Switch - 1))).bind fun r89 =>
 need (decide (0 ≤ r70) && decide (r70 < (List.length r89 : Int))) (
 ((idx s (wr (x.At.Switch - 1))).bind fun a_ => (oset a_ r70 (wr (r86 + 1))).map fun b_ => List.set s (Int.toNat (wr (x.At.Switch - 1))) b_).bind fun r92 =>
 some (r92))))) else (
 some (s))).bind fun (s74 : (List (List Int))) =>
 k50 (s74)
theorem hopK_eq {β : Type} (n : T_Net) (x : T_Hop) (s : List (List Int)) (k : List (List Int) → Option β) : hopK n x s k = (hopF n x s).bind k := by
  unfold hopK hopF
  simp only [Option.bind_assoc]
theorem oset_eq' {α : Type} {l : List α} {i : Int} {y : α} (h0 : 0 ≤ i) (h1 : i < l.length) : oset l i y = some (l.set i.toNat y) := if_pos ⟨h0, h1⟩
theorem hopF_ok {n : T_Net} (hn : netGood n) {x : T_Hop} (hx : hopOk n x) {m : Int} (hm : 0 ≤ m ∧ m ≤ 100000) {s : List (List Int)} (hs : CntT n m s) : ∃ s', hopF n x s = some s' ∧ CntT n (m + 1) s' := by
  obtain ⟨a1, a2, _, _⟩ := hx.at_
  have hsw := hn.topo.sw
  have hln := hn.len
  obtain ⟨l1, l2⟩ := hs.at
  have hw : wr (x.At.Switch - 1) = x.At.Switch - 1 := wr_id (by omega) (by omega)
  obtain ⟨t, ht, htm, htn⟩ := idx_some (l := n.Tables) (i := x.At.Switch - 1) (by omega) (by omega)
  obtain ⟨c, hc, hcm, hcn⟩ := idx_some (l := s) (i := x.At.Switch - 1) (by omega) (by omega)
  have hlen := l2 _ c t hcn htn
  obtain ⟨i, h1, h2⟩ := s_Find t x.Header (hn.tabs t htm).1
  have keep : CntT n (m + 1) s := ⟨hs.len, fun c hc y hy => by have := hs.pos c hc y hy; omega⟩
  unfold hopF
  rw [hw, ht, Option.bind_some, h1, Option.bind_some]
  by_cases hi : i < 0
  · rw [if_neg (by simp; omega)]
    exact ⟨s, rfl, keep⟩
  · obtain ⟨v, hv, hvm, hvn⟩ := idx_some (l := c) (i := i) (by omega) (by omega)
    have hvp := hs.pos c hcm v hvm
    rw [if_pos (by simp; omega), need_pos (by simp; omega), hc]
    simp only [Option.bind_some]
    rw [need_pos (by simp; omega), hv]
    simp only [Option.bind_some]
    rw [need_pos (by simp; omega), oset_eq' (by omega) (by omega), wr_id (by omega) (by omega)]
    refine ⟨_, rfl, ?_, fun d hd y hy => ?_⟩
    · rw [List.map_set, List.length_set]
      refine Eq.trans ?_ hs.len
      apply List.ext_getElem?
      intro j
      rw [List.getElem?_set]
      split
      · rename_i e; subst e
        simp only [List.length_map, List.getElem?_map, hcn, Option.map_some]
        rw [if_pos (by omega)]
      · rfl
    · rcases List.mem_or_eq_of_mem_set hd with h | h
      · exact keep.pos d h y hy
      · rw [h] at hy
        rcases List.mem_or_eq_of_mem_set hy with h' | h'
        · exact keep.pos c hcm y h'
        · omega
noncomputable def cntF (n : T_Net) (fs : List T_Fate) (s : List (List Int)) : Option (List (List Int)) :=
 loopI fs (fun (i25 : Int) x26 (s21 : (List (List Int))) k22 =>
 ((loopI x26.Hops (fun (i53 : Int) x54 (s49 : (List (List Int))) k50 =>
 hopK n x54 s49 k50) (fun (s49 : (List (List Int))) =>
 some (s49)) (s21)).bind fun (s44 : (List (List Int))) =>
 some (s44)).bind fun (s33 : (List (List Int))) =>
 k22 (s33)) (fun (s21 : (List (List Int))) =>
 some (s21)) s
noncomputable def zerosV (n : T_Net) : List (List Int) := n.Tables.map fun t => List.replicate t.length 0
theorem s_count_eq (n : T_Net) (hT : ∀ t ∈ n.Tables, t.length ≤ 12) (hl : n.Tables.length ≤ 100) {fs : List T_Fate} (hf : t_load_fates n = some fs) : t_load_count n = cntF n fs (zerosV n) := by
  have hM : maxI = 9223372036854775807 := rfl
  unfold t_load_count
  rw [loopI_eq (l := n.Tables) (by omega), goI_map (f := fun t : List T_Rule => List.replicate t.length (0 : Int)) (B := 1000) n.Tables 0 [] (by simp; omega) fun x hx i s k hs => by
    have := hT x hx
    have ho : omake (List.length x : Int) (List.length x : Int) 0 = some (List.replicate x.length (0 : Int)) := by
      unfold omake
      rw [if_pos ⟨rfl, by omega, by omega⟩]; simp
    have hp : oapp s [List.replicate x.length (0 : Int)] = some (s ++ [List.replicate x.length (0 : Int)]) := if_pos ⟨by simp, by simp; omega⟩
    rw [ho, Option.bind_some, hp, Option.bind_some]]
  simp only [Option.bind_some, List.nil_append]
  rw [hf, Option.bind_some, bind_some_id]
  rfl
theorem cntF_ok {n : T_Net} (hn : netGood n) {fs : List T_Fate} (hfs : fs.length ≤ 1000) (hg : ∀ f ∈ fs, GoodF n f) : ∃ s, cntF n fs (zerosV n) = some s ∧ CntT n 24000 s := by
  have hM : maxI = 9223372036854775807 := rfl
  unfold cntF
  refine loopI_ex (Q := fun s => CntT n 24000 s) (fun i m s => (∀ f ∈ m, f ∈ fs) ∧ m.length ≤ 1000 ∧ CntT n (24 * (1000 - (m.length : Int))) s) (by omega) ⟨fun _ h => h, hfs, ?_, fun c hc x hx => ?_⟩ (fun i s hI => ⟨s, rfl, by simpa using hI.2.2⟩) (fun i f m s k hI hk => ?_)
  · simp only [zerosV, List.map_map]
    apply List.map_congr_left
    intro t _
    simp
  · simp only [zerosV, List.mem_map] at hc
    obtain ⟨t, _, rfl⟩ := hc
    have := (List.mem_replicate.1 hx).2
    omega
  · obtain ⟨h1, h2, h3⟩ := hI
    have hgf := hg f (h1 f (by simp))
    have hl := hgf.len
    simp only [List.length_cons] at h2 h3
    have inner : ∃ v, (loopI f.Hops (fun (i53 : Int) x54 (s49 : (List (List Int))) k50 => hopK n x54 s49 k50) (fun (s49 : (List (List Int))) => some (s49)) (s)) = some v ∧ CntT n (24 * (1000 - (m.length : Int))) v := by
      refine loopI_ex (Q := fun v => CntT n (24 * (1000 - (m.length : Int))) v) (fun i p s => (∀ y ∈ p, y ∈ f.Hops) ∧ p.length ≤ 24 ∧ CntT n (24 * (1000 - ((m.length + 1 : Nat) : Int)) + (24 - (p.length : Int))) s) (by omega) ⟨fun _ h => h, hl, h3.len, fun c hc x hx => ?_⟩ (fun i s hI => ⟨s, rfl, ?_⟩) (fun i y p s k hI hk => ?_)
      · have := h3.pos c hc x hx; omega
      · obtain ⟨_, _, q⟩ := hI
        refine ⟨q.len, fun c hc x hx => ?_⟩
        have := q.pos c hc x hx
        simp at this; omega
      · obtain ⟨q1, q2, q3⟩ := hI
        simp only [List.length_cons] at q2 q3
        obtain ⟨s', e1, e2⟩ := hopF_ok hn (hgf.ok y (q1 y (by simp))) (by omega) q3
        rw [hopK_eq, e1, Option.bind_some]
        refine hk s' ⟨fun z hz => q1 z (by simp [hz]), by omega, ⟨e2.len, fun c hc x hx => ?_⟩⟩
        have := e2.pos c hc x hx; omega
    obtain ⟨v, hv, hv2⟩ := inner
    rw [hv]
    simp only [Option.bind_some]
    exact hk v ⟨fun g hg => h1 g (by simp [hg]), by omega, hv2⟩
theorem s_count {n : T_Net} (hn : netGood n) : ∃ s, t_load_count n = some s ∧ CntT n 24000 s := by
  have hnh := hn.topo.nh
  have hsw := hn.topo.sw
  have hln := hn.len
  rw [s_count_eq n (fun t ht => (hn.tabs t ht).1) (by omega) (s_fates hn)]
  exact cntF_ok hn (by rw [fatesV_len]; omega) (fatesV_good hn)

def tabN (n : T_Net) (i : Nat) : List T_Rule := n.Tables.getD i []
/-- a hop at which the rule j of switch i counts -/
noncomputable def hit (n : T_Net) (i j : Nat) (y : T_Hop) : Bool := decide ((y.At.Switch - 1).toNat = i) && decide (t_rule_Find (tabN n i) y.Header = some (j : Int))
noncomputable def cntR (n : T_Net) (hs : List T_Hop) (i : Nat) : List Int := (List.range (tabN n i).length).map fun j => ((hs.countP (hit n i j) : Nat) : Int)
noncomputable def cntT (n : T_Net) (hs : List T_Hop) : List (List Int) := (List.range n.Tables.length).map (cntR n hs)
theorem set_range {α : Type} {L k : Nat} {f g : Nat → α} {x : α} (hk : k < L) (h : ∀ i, i < L → i ≠ k → f i = g i) (hx : g k = x) : ((List.range L).map f).set k x = (List.range L).map g := by
  refine List.ext_getElem? fun i => ?_
  rw [List.getElem?_set]
  by_cases e : k = i
  · subst e
    rw [if_pos rfl, if_pos (by simpa using hk)]
    simp [hk, hx]
  · rw [if_neg e]
    by_cases hi : i < L
    · simp [hi, h i hi (Ne.symm e)]
    · simp [hi]
theorem cntR_at {n : T_Net} {hs : List T_Hop} {i j : Nat} (hj : j < (tabN n i).length) : (cntR n hs i)[j]? = some ((hs.countP (hit n i j) : Nat) : Int) := by
  unfold cntR
  simp [hj]
theorem hop_cnt {n : T_Net} (hn : netGood n) {y : T_Hop} (hy : hopOk n y) {hs : List T_Hop} (hl : hs.length ≤ 100000) : hopF n y (cntT n hs) = some (cntT n (hs ++ [y])) := by
  obtain ⟨a1, a2, _, _⟩ := hy.at_
  have hsw := hn.topo.sw
  have hln := hn.len
  have hk : (y.At.Switch - 1).toNat < n.Tables.length := by omega
  have hw : wr (y.At.Switch - 1) = (((y.At.Switch - 1).toNat : Nat) : Int) := by rw [wr_id (by omega) (by omega)]; omega
  have hti : idx n.Tables (((y.At.Switch - 1).toNat : Nat) : Int) = some (tabN n (y.At.Switch - 1).toNat) := by
    rw [idx_nat]; unfold tabN; rw [List.getD, List.getElem?_eq_getElem hk]; rfl
  have hgt : tblGood (tabN n (y.At.Switch - 1).toNat) := hn.tabs _ (by
    unfold tabN; rw [List.getD, List.getElem?_eq_getElem hk]; exact List.getElem_mem hk)
  have hci : idx (cntT n hs) (((y.At.Switch - 1).toNat : Nat) : Int) = some (cntR n hs (y.At.Switch - 1).toNat) := by
    rw [idx_nat]; unfold cntT; rw [List.getElem?_map, List.getElem?_range hk]; rfl
  have hcl : (cntT n hs).length = n.Tables.length := by unfold cntT; simp
  generalize hkk : (y.At.Switch - 1).toNat = k at *
  obtain ⟨i, h1, h2⟩ := s_Find (tabN n k) y.Header hgt.1
  have hother : ∀ i' j, i' ≠ k → hit n i' j y = false := fun i' j h => by
    unfold hit
    rw [hkk]
    simp [Ne.symm h]
  have hcnt : ∀ i' j, (hs ++ [y]).countP (hit n i' j) = hs.countP (hit n i' j) + if hit n i' j y = true then 1 else 0 := fun i' j => by
    rw [List.countP_append, List.countP_singleton]
  have hrow : ∀ i', i' ≠ k → cntR n hs i' = cntR n (hs ++ [y]) i' := fun i' h => by
    unfold cntR
    refine List.map_congr_left fun j _ => ?_
    rw [hcnt, hother i' j h]
    simp
  unfold hopF
  rw [hw, hti, Option.bind_some, h1, Option.bind_some]
  by_cases hi : i < 0
  · rw [if_neg (by simp; omega)]
    congr 1
    unfold cntT
    refine List.map_congr_left fun i' _ => ?_
    by_cases e : i' = k
    · subst e
      unfold cntR
      refine List.map_congr_left fun j _ => ?_
      have : hit n i' j y = false := by
        unfold hit
        rw [h1]
        simp; intro _; omega
      rw [hcnt, this]; simp
    · exact hrow i' e
  · have hik : i.toNat < (tabN n k).length := by omega
    have hii : i = ((i.toNat : Nat) : Int) := by omega
    generalize hjj : i.toNat = j at hik hii
    subst hii
    have hv := cntR_at (n := n) (hs := hs) hik
    have hvl : (cntR n hs k).length = (tabN n k).length := by unfold cntR; simp
    have hle : hs.countP (hit n k j) ≤ hs.length := List.countP_le_length
    have hvi : idx (cntR n hs k) (j : Int) = some ((hs.countP (hit n k j) : Nat) : Int) := by rw [idx_nat]; exact hv
    rw [if_pos (by simp), need_pos (by simp; omega), hci]
    simp only [Option.bind_some]
    rw [need_pos (by simp; omega), hvi]
    simp only [Option.bind_some]
    rw [need_pos (by simp; omega), oset_eq' (by omega) (by omega), wr_id (by omega) (by omega)]
    simp only [Option.map_some, Option.bind_some, Int.toNat_natCast]
    congr 1
    unfold cntT
    refine set_range hk (fun i' _ h => hrow i' h) ?_
    unfold cntR
    symm
    refine set_range hik (fun j' _ h => ?_) ?_
    · have : hit n k j' y = false := by
        unfold hit
        rw [h1]
        simp; intro _; omega
      rw [hcnt, this]; simp
    · have : hit n k j y = true := by
        unfold hit
        rw [h1, hkk]
        simp
      rw [hcnt, this]; simp
theorem cnt_zero (n : T_Net) : cntT n [] = zerosV n := by
  unfold cntT zerosV
  refine List.ext_getElem? fun i => ?_
  by_cases hi : i < n.Tables.length
  · simp only [List.getElem?_map, List.getElem?_range hi, Option.map_some, List.getElem?_eq_getElem hi]
    congr 1
    unfold cntR tabN
    rw [List.getD, List.getElem?_eq_getElem hi, Option.getD_some]
    refine List.ext_getElem? fun j => ?_
    by_cases hj : j < (n.Tables[i]).length
    · simp [hj]
    · simp [hj]
  · simp [hi]
theorem cnt_hops {n : T_Net} (hn : netGood n) {β : Type} {fin : List (List Int) → Option β} : ∀ (l : List T_Hop) (i : Int) (hs : List T_Hop), (∀ y ∈ l, hopOk n y) → hs.length + l.length ≤ 100000 → goI (fun (i53 : Int) x54 (s49 : (List (List Int))) k50 => hopK n x54 s49 k50) fin i l (cntT n hs) = fin (cntT n (hs ++ l))
  | [], i, hs, _, _ => by rw [goI, List.append_nil]
  | y :: l, i, hs, h, hl => by
    simp only [List.length_cons] at hl
    rw [goI, hopK_eq, hop_cnt hn (h y (by simp)) (by omega), Option.bind_some]
    refine (cnt_hops hn l (i + 1) (hs ++ [y]) (fun z hz => h z (by simp [hz])) (by simp; omega)).trans ?_
    simp
/-- all hops of all fates -/
def hopsOf (fs : List T_Fate) : List T_Hop := fs.flatMap fun f => f.Hops
theorem cntF_eq {n : T_Net} (hn : netGood n) : ∀ (fs : List T_Fate), fs.length ≤ 1000 → (∀ f ∈ fs, GoodF n f) → cntF n fs (zerosV n) = some (cntT n (hopsOf fs)) := fun fs hl hg => by
  have hM : maxI = 9223372036854775807 := rfl
  unfold cntF
  rw [loopI_eq (by omega), ← cnt_zero]
  have : ∀ (m p : List T_Fate) (i : Int), fs = p ++ m → (hopsOf p).length ≤ 24 * p.length → goI (fun (i25 : Int) x26 (s21 : (List (List Int))) k22 =>
     ((loopI x26.Hops (fun (i53 : Int) x54 (s49 : (List (List Int))) k50 => hopK n x54 s49 k50) (fun (s49 : (List (List Int))) => some (s49)) (s21)).bind fun (s44 : (List (List Int))) => some (s44)).bind fun (s33 : (List (List Int))) =>
     k22 (s33)) (fun (s21 : (List (List Int))) => some (s21)) i m (cntT n (hopsOf p)) = some (cntT n (hopsOf (p ++ m))) := by
    intro m
    induction m with
    | nil => intro p i _ _; simp [goI]
    | cons f m ih =>
      intro p i hp hpl
      have hgf := hg f (by rw [hp]; simp)
      have hfl := hgf.len
      have hplen : p.length ≤ 1000 := by
        have := congrArg List.length hp
        simp at this; omega
      rw [goI, bind_some_id, loopI_eq (by omega), cnt_hops hn f.Hops 0 (hopsOf p) hgf.ok (by omega), Option.bind_some]
      have e : hopsOf p ++ f.Hops = hopsOf (p ++ [f]) := by simp [hopsOf]
      rw [e]
      refine (ih (p ++ [f]) (i + 1) (by rw [hp]; simp) ?_).trans (by simp)
      rw [← e]; simp; omega
  exact this fs [] 0 rfl (by simp [hopsOf])
theorem s_countV {n : T_Net} (hn : netGood n) : t_load_count n = some (cntT n (hopsOf (fatesV n))) := by
  have hnh := hn.topo.nh
  have hsw := hn.topo.sw
  have hln := hn.len
  rw [s_count_eq n (fun t ht => (hn.tabs t ht).1) (by omega) (s_fates hn)]
  exact cntF_eq hn _ (by rw [fatesV_len]; omega) (fatesV_good hn)

theorem sumP_set : ∀ (l : List Int) (i : Nat) (v : Int), i < l.length → (l.set i v).sum = l.sum - l.getD i 0 + v
  | [], i, v, h => by simp at h
  | x :: l, 0, v, h => by simp; omega
  | x :: l, i + 1, v, h => by
    have := sumP_set l i v (by simpa using h)
    simp only [List.set_cons_succ, List.sum_cons, List.getD_cons_succ, this]; omega
theorem sum_nn : ∀ l : List Int, (∀ x ∈ l, 0 ≤ x) → 0 ≤ l.sum
  | [], _ => by simp
  | y :: l, h => by
    have := h y (by simp)
    have := sum_nn l fun z hz => h z (by simp [hz])
    simp only [List.sum_cons]; omega
/-- the sum of one block -/
def blk (s : List Int) (h b : Nat) : Int := ((s.drop (b * h)).take h).sum
theorem blk_set {s : List Int} {h q r : Nat} (hr : r < h) (hl : q * h + r < s.length) (v : Int) (b : Nat) : blk (s.set (q * h + r) v) h b = if b = q then blk s h b - s.getD (q * h + r) 0 + v else blk s h b := by
  unfold blk
  rw [List.drop_set]
  by_cases e : b = q
  · subst e
    rw [if_neg (by omega), if_pos rfl, List.take_set, sumP_set _ _ _ (by simp; omega)]
    have e1 : b * h + r - b * h = r := by omega
    rw [e1]
    congr 2
    simp [List.getD, List.getElem?_take, hr]
  · rw [if_neg e]
    split
    · rfl
    · rename_i h1
      have hb : b < q := by
        rcases Nat.lt_or_ge b q with h2 | h2
        · exact h2
        · have h3 : (q + 1) * h ≤ b * h := Nat.mul_le_mul_right h (by omega)
          rw [Nat.add_mul] at h3; omega
      have h3 : (b + 1) * h ≤ q * h := Nat.mul_le_mul_right h hb
      rw [Nat.add_mul] at h3
      rw [List.take_set, List.set_eq_of_length_le (by simp; omega)]
def K (m b : Nat) (v : Int) : Prop := v ≤ 16 ∧ (m ≤ 16 * b → v ≤ 0) ∧ (16 * b ≤ m → v ≤ (m : Int) - 16 * (b : Int))
structure InvP (h m : Nat) (s : List Int) : Prop where
  len : s.length = h * h
  pos : ∀ x ∈ s, 0 ≤ x ∧ x ≤ (m : Int)
  blk : ∀ b, b < h → K m b (blk s h b)
theorem invP_keep {h m : Nat} {s : List Int} (hI : InvP h m s) : InvP h (m + 1) s := by
  refine ⟨hI.len, fun x hx => by have := hI.pos x hx; omega, fun b hb => ?_⟩
  obtain ⟨k1, k2, k3⟩ := hI.blk b hb
  refine ⟨k1, fun h => k2 (by omega), fun h => ?_⟩
  by_cases h9 : 16 * b ≤ m
  · have := k3 h9; omega
  · have := k2 (by omega); omega
theorem invP_step {h m : Nat} {s : List Int} (hI : InvP h m s) {r : Nat} (hr : r < h) (hq : m / 16 < h) : m / 16 * h + r < s.length ∧ InvP h (m + 1) (s.set (m / 16 * h + r) (s.getD (m / 16 * h + r) 0 + 1)) := by
  have hlt : m / 16 * h + r < s.length := by
    have h3 : (m / 16 + 1) * h ≤ h * h := Nat.mul_le_mul_right h hq
    rw [Nat.add_mul] at h3
    rw [hI.len]; omega
  refine ⟨hlt, by rw [List.length_set, hI.len], fun x hx => ?_, fun b hb => ?_⟩
  · rcases List.mem_or_eq_of_mem_set hx with h1 | h1
    · have := hI.pos x h1; omega
    · have := hI.pos (s.getD (m / 16 * h + r) 0) (by rw [List.getD, List.getElem?_eq_getElem hlt]; exact List.getElem_mem hlt)
      omega
  · have hk := (invP_keep hI).blk b hb
    rw [blk_set hr hlt]
    split
    · rename_i e
      obtain ⟨k1, k2, k3⟩ := hI.blk b hb
      have hm : 16 * (m / 16) ≤ m ∧ m < 16 * (m / 16) + 16 := by omega
      subst e
      have := k3 hm.1
      refine ⟨by omega, fun h => by omega, fun h => by omega⟩
    · exact hk
theorem s_Pairs {n : T_Net} (hn : netGood n) (hc : t_net_Check n = some 0) : ∃ p, t_load_Pairs n = some (p, 0) ∧ ∃ m, m ≤ 1000 ∧ InvP n.Topo.Hosts.length m p := by
  have hM : maxI = 9223372036854775807 := rfl
  have hnh := hn.topo.nh
  have hmul : n.Topo.Hosts.length * n.Topo.Hosts.length ≤ 64 := Nat.mul_le_mul hnh hnh
  unfold t_load_Pairs
  rw [hc, Option.bind_some, if_neg (by decide)]
  have e0 : (n.Topo.Hosts.length : Int) * (n.Topo.Hosts.length : Int) = ((n.Topo.Hosts.length * n.Topo.Hosts.length : Nat) : Int) := by simp
  have ew : wr ((n.Topo.Hosts.length : Int) * (n.Topo.Hosts.length : Int)) = ((n.Topo.Hosts.length * n.Topo.Hosts.length : Nat) : Int) := by
    rw [e0]; exact wr_id (by omega) (by omega)
  have ho : omake (wr ((n.Topo.Hosts.length : Int) * (n.Topo.Hosts.length : Int))) (wr ((n.Topo.Hosts.length : Int) * (n.Topo.Hosts.length : Int))) 0 = some (List.replicate (n.Topo.Hosts.length * n.Topo.Hosts.length) (0 : Int)) := by
    rw [ew]
    unfold omake
    rw [if_pos ⟨rfl, by omega, by omega⟩, Int.toNat_natCast]
  rw [ho, Option.bind_some, s_fates hn, Option.bind_some]
  have hlen := fatesV_len n
  have main : ∃ p, loopI (fatesV n) (fun (i29 : Int) x30 (s25 : (List Int)) k26 =>
      (t_slices_IndexFunc_api_Host_api_Host n.Topo.Hosts (fun (a38 : T_Host) => t_load_Pairs_1 a38 x30)).bind fun r40 =>
      (if (decide (0 ≤ r40)) = true then (
      need (decide (0 ≤ (wr ((wr ((wr (Int.tdiv i29 16)) * (List.length n.Topo.Hosts : Int))) + r40))) && decide ((wr ((wr ((wr (Int.tdiv i29 16)) * (List.length n.Topo.Hosts : Int))) + r40)) < (List.length s25 : Int))) (
      (idx s25 (wr ((wr ((wr (Int.tdiv i29 16)) * (List.length n.Topo.Hosts : Int))) + r40))).bind fun r56 =>
      need (decide (0 ≤ (wr ((wr ((wr (Int.tdiv i29 16)) * (List.length n.Topo.Hosts : Int))) + r40))) && decide ((wr ((wr ((wr (Int.tdiv i29 16)) * (List.length n.Topo.Hosts : Int))) + r40)) < (List.length s25 : Int))) (
      (oset s25 (wr ((wr ((wr (Int.tdiv i29 16)) * (List.length n.Topo.Hosts : Int))) + r40)) (wr (r56 + 1))).bind fun r62 =>
      some (r62)))) else (
      some (s25))).bind fun (s44 : (List Int)) =>
      k26 (s44)) (fun (s25 : (List Int)) =>
      some (s25)) (List.replicate (n.Topo.Hosts.length * n.Topo.Hosts.length) (0 : Int)) = some p ∧ ∃ m, m ≤ 1000 ∧ InvP n.Topo.Hosts.length m p := by
    refine loopI_ex (Q := fun p => ∃ m, m ≤ 1000 ∧ InvP n.Topo.Hosts.length m p) (fun i l s => ∃ m : Nat, i = (m : Int) ∧ m + l.length = 16 * n.Topo.Hosts.length ∧ InvP n.Topo.Hosts.length m s) (by omega) ⟨0, rfl, by omega, by simp, fun x hx => ?_, fun b hb => ?_⟩ (fun i s hI => ?_) (fun i f l s k hI hk => ?_)
    · have := (List.mem_replicate.1 hx).2; omega
    · have : blk (List.replicate (n.Topo.Hosts.length * n.Topo.Hosts.length) (0 : Int)) n.Topo.Hosts.length b = 0 := by
        unfold blk
        rw [List.drop_replicate, List.take_replicate]
        simp
      rw [this]
      exact ⟨by omega, fun _ => by omega, fun _ => by omega⟩
    · obtain ⟨m, _, hm, h⟩ := hI
      exact ⟨s, rfl, m, by simp at hm; omega, h⟩
    · obtain ⟨m, rfl, hm, hS⟩ := hI
      simp only [List.length_cons] at hm
      obtain ⟨r, e1, e2⟩ := s_IndexHost n.Topo.Hosts hnh (fun a38 => (decide (f.How = 1)) && (decide (a38.Name = f.Host))) (fun (a38 : T_Host) => t_load_Pairs_1 a38 f) (fun x => rfl)
      rw [e1, Option.bind_some]
      have e9 : (m : Int) + 1 = ((m + 1 : Nat) : Int) := by omega
      by_cases hr : r < 0
      · rw [if_neg (by simp; omega), Option.bind_some]
        exact hk s ⟨m + 1, e9, by omega, invP_keep hS⟩
      · obtain ⟨hr0, hr1⟩ := e2.resolve_left hr
        obtain ⟨r', rfl⟩ : ∃ r' : Nat, r = (r' : Int) := ⟨r.toNat, by omega⟩
        obtain ⟨h1, h2⟩ := invP_step hS (r := r') (by omega) (by omega)
        have hle := hS.len
        have et : Int.tdiv (m : Int) 16 = ((m / 16 : Nat) : Int) := by
          rw [Int.tdiv_eq_ediv_of_nonneg (by omega)]; omega
        have hmul2 : m / 16 * n.Topo.Hosts.length ≤ 64 := Nat.le_trans (Nat.mul_le_mul_right _ (by omega : m / 16 ≤ n.Topo.Hosts.length)) hmul
        have ei : wr ((wr ((wr (Int.tdiv (m : Int) 16)) * (n.Topo.Hosts.length : Int))) + (r' : Int)) = ((m / 16 * n.Topo.Hosts.length + r' : Nat) : Int) := by
          rw [et, wr_id (x := ((m / 16 : Nat) : Int)) (by omega) (by omega)]
          have e3 : ((m / 16 : Nat) : Int) * (n.Topo.Hosts.length : Int) = ((m / 16 * n.Topo.Hosts.length : Nat) : Int) := by simp
          rw [e3, wr_id (x := ((m / 16 * n.Topo.Hosts.length : Nat) : Int)) (by omega) (by omega), wr_id (by omega) (by omega)]
          omega
        generalize hj : m / 16 * n.Topo.Hosts.length + r' = j at h1 h2 ei
        have hg : s.getD j 0 = s[j] := by simp [List.getD, h1]
        have hp := hS.pos s[j] (List.getElem_mem h1)
        rw [hg] at h2
        rw [if_pos (by simp), ei, need_pos (by simp; omega), idx_nat, List.getElem?_eq_getElem h1, Option.bind_some, need_pos (by simp; omega), oset_eq' (by omega) (by omega), wr_id (by omega) (by omega), Option.bind_some, Option.bind_some]
        exact hk _ ⟨m + 1, e9, by omega, h2⟩
  obtain ⟨p, hp, hp2⟩ := main
  rw [hp]
  exact ⟨p, rfl, hp2⟩

/-- where a host is -/
theorem goI_postM {α β σ : Type} {step : Int → α → σ → (σ → Option β) → Option β} {fin : σ → Option β} {Q : β → Prop} (L : List α) (hfin : ∀ s v, fin s = some v → Q v)
    (hstep : ∀ i x s k, x ∈ L → (∀ s' v, k s' = some v → Q v) → ∀ v, step i x s k = some v → Q v) : ∀ (l : List α) (i : Int) (s : σ) (v : β), (∀ x ∈ l, x ∈ L) → goI step fin i l s = some v → Q v
  | [], i, s, v, _, h => hfin s v h
  | x :: l, i, s, v, hl, h => hstep i x s _ (hl x (by simp)) (fun s' v' h' => goI_postM L hfin hstep l (i + 1) s' v' (fun y hy => hl y (by simp [hy])) h') v h
theorem loopI_postM {α β σ : Type} {step : Int → α → σ → (σ → Option β) → Option β} {fin : σ → Option β} (Q : β → Prop) {l : List α} {s : σ} {v : β} (h : loopI l step fin s = some v) (hfin : ∀ s v, fin s = some v → Q v)
    (hstep : ∀ i x s k, x ∈ l → (∀ s' v, k s' = some v → Q v) → ∀ v, step i x s k = some v → Q v) : Q v := by
  unfold loopI at h
  rw [need_some] at h
  exact goI_postM l hfin hstep l 0 s v (fun _ h => h) h.2
/-- what comes of what is sent -/
theorem s_other_link (T : T_Topo) (s : T_Spot) {o : T_Spot × Bool} (h : t_topo_Other T s = some o) (h2 : o.2 = true) : ∃ l ∈ T.Links, l.A = o.1 ∨ l.B = o.1 := by
  unfold t_topo_Other at h
  simp only [join_eq] at h
  refine loopI_postM (fun v => v.2 = true → ∃ l ∈ T.Links, l.A = v.1 ∨ l.B = v.1) h ?_ ?_ h2
  · intro s v hv hv2
    obtain rfl := Option.some.inj hv
    cases hv2
  · intro i x s k hx hk v hv hv2
    split at hv
    · obtain rfl := Option.some.inj hv
      exact ⟨x, hx, .inr rfl⟩
    · split at hv
      · obtain rfl := Option.some.inj hv
        exact ⟨x, hx, .inl rfl⟩
      · exact hk _ _ hv hv2
structure Sent (n : T_Net) (f : T_Fate) : Prop where
  good : netGood n
  chk : t_net_Check n = some 0
  len : 1 ≤ f.Hops.length ∧ f.Hops.length ≤ 24
  over : ∀ y ∈ f.Hops.drop 1, ∃ l ∈ n.Topo.Links, l.A = y.At ∨ l.B = y.At
theorem fin_sent {n : T_Net} (hn : netGood n) (hc : t_net_Check n = some 0) {f : T_Fate} {q : List T_Hop} {z : T_Hop} (h : Fin_ n f q z) : Sent n f := by
  refine ⟨hn, hc, ?_, fun y hy => ?_⟩
  · rw [h.hops]
    exact ⟨by simp, h.inv.len⟩
  · rw [h.hops] at hy
    obtain ⟨j, hj⟩ := List.getElem?_of_mem hy
    rw [List.getElem?_drop] at hj
    have hlt : j < (q ++ [z]).length := by have := (List.getElem?_eq_some_iff.1 hj).1; omega
    have ha := List.getElem?_eq_getElem hlt
    rw [Nat.add_comm] at hj
    obtain ⟨k1, k2⟩ := h.inv.walk j _ y ha hj
    have hx := h.inv.ok _ (List.getElem_mem hlt)
    have ho := s_other hn (outV (tblV n (q ++ [z])[j]) (q ++ [z])[j].At (q ++ [z])[j].Header).1
    unfold kd at k1 k2
    split at k1
    · rename_i g1
      rw [if_pos g1] at k2
      split at k1
      · cases k1
      · rename_i g2
        rw [if_neg g2] at k2
        split at k1
        · rename_i g3
          rw [if_pos g3] at k2
          obtain ⟨l, hl, h9⟩ := s_other_link n.Topo _ ho.1 g3
          refine ⟨l, hl, ?_⟩
          rw [← k2]
          exact h9
        · cases k1
    · cases k1

theorem sum_set : ∀ (l : List Int) (i : Nat) (v : Int), i < l.length → (l.set i v).sum = l.sum - l.getD i 0 + v
  | [], i, v, h => by simp at h
  | x :: l, 0, v, h => by simp; omega
  | x :: l, i + 1, v, h => by
    have := sum_set l i v (by simpa using h)
    simp only [List.set_cons_succ, List.sum_cons, List.getD_cons_succ, this]; omega
theorem le_sum : ∀ (l : List Int), (∀ x ∈ l, 0 ≤ x) → ∀ i, i < l.length → 0 ≤ l.getD i 0 ∧ l.getD i 0 ≤ l.sum
  | [], _, i, h => by simp at h
  | x :: l, hp, 0, h => by
    have h0 := hp x (by simp)
    have : 0 ≤ l.sum := by
      clear h h0
      induction l with
      | nil => simp
      | cons y l ih =>
        have := hp y (by simp)
        have := ih (fun z hz => hp z (by simp at hz ⊢; rcases hz with h | h <;> simp [h]))
        simp only [List.sum_cons]; omega
    simp; omega
  | x :: l, hp, i + 1, h => by
    have h0 := hp x (by simp)
    have := le_sum l (fun y hy => hp y (by simp [hy])) i (by simpa using h)
    simp only [List.getD_cons_succ, List.sum_cons]; omega
/-- how many hops are over links -/
def overs : List T_Fate → Int
  | [] => 0
  | f :: l => ((f.Hops.length - 1 : Nat) : Int) + overs l
theorem overs_app : ∀ (l m : List T_Fate), overs (l ++ m) = overs l + overs m
  | [], m => by simp [overs]
  | f :: l, m => by simp only [List.cons_append, overs, overs_app l m]; omega
theorem overs_le : ∀ (l : List T_Fate), (∀ f ∈ l, f.Hops.length ≤ 24) → 0 ≤ overs l ∧ overs l ≤ 24 * (l.length : Int)
  | [], _ => by simp [overs]
  | f :: l, h => by
    have := overs_le l fun g hg => h g (by simp [hg])
    have := h f (by simp)
    simp only [overs, List.length_cons]; omega
/-- a list of counts -/
structure Cnt (k : Nat) (m : Int) (s : List Int) : Prop where
  len : s.length = k
  pos : ∀ x ∈ s, 0 ≤ x
  sum : s.sum = m
theorem cnt_step {k : Nat} {m : Int} {s : List Int} (h : Cnt k m s) (hm : m ≤ 100000) {i : Nat} (hi : i < k) : Cnt k (m + 1) (s.set i (wr (s.getD i 0 + 1))) := by
  have h1 := le_sum s h.pos i (by rw [h.len]; exact hi)
  rw [h.sum] at h1
  rw [wr_id (by omega) (by omega)]
  refine ⟨by rw [List.length_set, h.len], fun x hx => ?_, by rw [sum_set s i _ (by rw [h.len]; exact hi), h.sum]; omega⟩
  rcases List.mem_or_eq_of_mem_set hx with h2 | h2
  · exact h.pos x h2
  · omega
theorem s_IndexLink (l : List T_Link) (hl : (l.length : Int) ≤ maxI) (y : T_Hop) (hy : ∃ x ∈ l, x.A = y.At ∨ x.B = y.At) : ∃ i : Nat, t_slices_IndexFunc_api_Link_api_Link l (fun (a62 : T_Link) => t_judge_Count_1 a62 y) = some (i : Int) ∧ i < l.length := by
  unfold t_slices_IndexFunc_api_Link_api_Link
  simp only [join_eq]
  have : ∃ i : Int, loopI l (fun (i13 : Int) x14 (s9 : Unit) k10 => (t_judge_Count_1 x14 y).bind fun r22 => if r22 = true then (some i13) else (k10 ())) (fun _ => some (-1 : Int)) () = some i ∧ (0 ≤ i ∧ i < l.length) := by
    refine loopI_ex (fun i m _ => 0 ≤ i ∧ i + m.length = l.length ∧ ∃ x ∈ m, x.A = y.At ∨ x.B = y.At) hl ⟨Int.le_refl _, by omega, hy⟩ (fun i s hI => ?_) (fun i x m s k hI hk => ?_)
    · obtain ⟨_, _, x, hx, _⟩ := hI
      simp at hx
    · obtain ⟨h1, h2, z, hz, hz2⟩ := hI
      simp only [List.length_cons] at h2
      unfold t_judge_Count_1
      simp only [Option.bind_some]
      split
      · exact ⟨i, rfl, h1, by omega⟩
      · rename_i hn
        refine hk () ⟨by omega, by omega, z, ?_, hz2⟩
        rcases List.mem_cons.1 hz with rfl | hz
        · exact absurd (by simpa [Bool.or_eq_true] using hz2) hn
        · exact hz
  obtain ⟨i, h1, h2, h3⟩ := this
  exact ⟨i.toNat, by rw [h1]; congr 1; omega, by omega⟩
theorem s_Count (T : T_Topo) (hT : T.Links.length ≤ 200) (l : List T_Fate) (hl : l.length ≤ 200) (hg : ∀ f ∈ l, f.Hops.length ≤ 24 ∧ 1 ≤ f.Hops.length ∧ ∀ y ∈ f.Hops.drop 1, ∃ x ∈ T.Links, x.A = y.At ∨ x.B = y.At) :
    ∃ c, t_judge_Count T l = some c ∧ Cnt T.Links.length (overs l) c := by
  have hM : maxI = 9223372036854775807 := rfl
  unfold t_judge_Count
  have ho : omake (List.length T.Links : Int) (List.length T.Links : Int) 0 = some (List.replicate T.Links.length (0 : Int)) := by
    unfold omake
    rw [if_pos ⟨rfl, by omega, by omega⟩]; simp
  rw [ho]
  simp only [Option.bind_some]
  rw [bind_some_id]
  refine loopI_ex (Q := fun c => Cnt T.Links.length (overs l) c) (fun i m s => (∀ f ∈ m, f ∈ l) ∧ m.length ≤ 200 ∧ ∃ p, l = p ++ m ∧ Cnt T.Links.length (overs p) s) (by omega) ⟨fun _ h => h, hl, [], rfl, by simp, by simp, by simp [overs]⟩ (fun i s hI => ?_) (fun i f m s k hI hk => ?_)
  · obtain ⟨_, _, p, hp, hc⟩ := hI
    rw [List.append_nil] at hp
    exact ⟨s, rfl, by rw [hp]; exact hc⟩
  · obtain ⟨h1, h2, p, hp, hc⟩ := hI
    obtain ⟨g1, g2, g3⟩ := hg f (h1 f (by simp))
    have hs : slc_lo f.Hops (min 1 (List.length f.Hops : Int)) = some (f.Hops.drop 1) := by
      unfold slc_lo
      have : min 1 (f.Hops.length : Int) = 1 := by omega
      rw [this, if_pos ⟨by decide, by omega⟩]; rfl
    rw [hs]
    simp only [Option.bind_some]
    have hpl : p.length ≤ 200 := by have := congrArg List.length hp; simp at this; omega
    have hpo := overs_le p fun g hgm => (hg g (by rw [hp]; simp [hgm])).1
    have inner : ∃ v, (loopI (f.Hops.drop 1) (fun (i52 : Int) x53 (s48 : (List Int)) k49 =>
        (t_slices_IndexFunc_api_Link_api_Link T.Links (fun (a62 : T_Link) => t_judge_Count_1 a62 x53)).bind fun r64 =>
        (if (decide (0 ≤ r64)) = true then (need (decide (0 ≤ r64) && decide (r64 < (List.length s48 : Int))) ((idx s48 r64).bind fun r76 => need (decide (0 ≤ r64) && decide (r64 < (List.length s48 : Int))) ((oset s48 r64 (wr (r76 + 1))).bind fun r82 => some (r82)))) else (some (s48))).bind fun (s68 : (List Int)) => k49 (s68)) (fun (s48 : (List Int)) => some (s48)) (s)) = some v ∧ Cnt T.Links.length (overs p + ((f.Hops.length - 1 : Nat) : Int)) v := by
      refine loopI_ex (Q := fun v => Cnt T.Links.length (overs p + ((f.Hops.length - 1 : Nat) : Int)) v) (fun i m s => (∀ y ∈ m, y ∈ f.Hops.drop 1) ∧ m.length ≤ f.Hops.length - 1 ∧ Cnt T.Links.length (overs p + ((f.Hops.length - 1 - m.length : Nat) : Int)) s) (by simp; omega) ⟨fun _ h => h, by simp, by simpa using hc⟩ (fun i s hI => ?_) (fun i y m s k hI hk => ?_)
      · obtain ⟨_, _, h5⟩ := hI
        exact ⟨s, rfl, by simpa using h5⟩
      · obtain ⟨q1, q2, q3⟩ := hI
        simp only [List.length_cons] at q2 q3
        obtain ⟨j, e1, e2⟩ := s_IndexLink T.Links (by omega) y (g3 y (q1 y (by simp)))
        rw [e1]
        simp only [Option.bind_some]
        have hj : j < s.length := by rw [q3.len]; exact e2
        rw [if_pos (by simp), need_pos (by simp; omega), idx_nat, List.getElem?_eq_getElem hj]
        simp only [Option.bind_some]
        have ho2 : ∀ v, oset s (j : Int) v = some (s.set j v) := fun v => if_pos ⟨by omega, by omega⟩
        rw [need_pos (by simp; omega), ho2]
        simp only [Option.bind_some]
        have hst := cnt_step q3 (by omega) (i := j) e2
        have hgd : s.getD j 0 = s[j] := by simp [List.getD, hj]
        rw [hgd] at hst
        refine hk _ ⟨fun z hz => q1 z (by simp [hz]), by omega, ?_⟩
        have e9 : overs p + ((f.Hops.length - 1 - m.length : Nat) : Int) = overs p + ((f.Hops.length - 1 - (m.length + 1) : Nat) : Int) + 1 := by omega
        rw [e9]; exact hst
    obtain ⟨v, hv, hcv⟩ := inner
    rw [hv]
    simp only [Option.bind_some]
    refine hk v ⟨fun g hgm => h1 g (by simp [hgm]), by simp at h2; omega, p ++ [f], by rw [hp]; simp, ?_⟩
    rw [overs_app]
    simpa [overs] using hcv

def spotsOf (l : List T_Link) : List T_Spot := l.flatMap fun x => [x.A, x.B]
theorem link_spots {T : T_Topo} (hn : ∀ h ∈ T.Hosts, (h.Name.size : Int) ≤ maxI) (hc : t_topo_Check T = some 0) : (spotsOf T.Links).Nodup := by
  have hM : maxI = 9223372036854775807 := rfl
  have key : ∃ c, t_topo_Check T = some c ∧ (c = 0 → (spotsOf T.Links).Nodup) := by
    unfold t_topo_Check
    split
    · exact ⟨1, rfl, fun h => by cases h⟩
    split
    · exact ⟨4, rfl, fun h => by cases h⟩
    rename_i h1 h2
    simp only [Bool.or_eq_true, decide_eq_true_eq, not_or, Int.not_lt] at h2
    simp only [join_eq]
    refine loopI_ex (fun _ l (s : List (T_Spot × Bool)) => ∃ pre : List T_Link, T.Links = pre ++ l ∧ (spotsOf pre).Nodup ∧ ∀ p : T_Spot, mget s p false = decide (p ∈ spotsOf pre)) (by omega) ⟨[], rfl, by simp [spotsOf], fun p => by simp [mget, mfind, spotsOf]⟩ (fun i s hI => ?_) (fun i x l s k hI hk => ?_)
    · obtain ⟨pre, h3, h4, _⟩ := hI
      rw [List.append_nil] at h3
      refine loopI_ex (fun _ l _ => ∀ x ∈ l, x ∈ T.Hosts) (by omega) (fun _ h => h) (fun i s hJ => ⟨0, rfl, fun _ => by rw [h3]; exact h4⟩) (fun i x l s k hJ hk => ?_)
      obtain ⟨b, e1, _⟩ := s_Name x.Name (hn x (hJ x (by simp)))
      obtain ⟨b2, e2, _⟩ := s_Spot T x.At
      rw [e1, e2]
      simp only [Option.bind_some]
      split
      · exact ⟨2, rfl, fun h => by cases h⟩
      split
      · exact ⟨1, rfl, fun h => by cases h⟩
      split
      · exact ⟨7, rfl, fun h => by cases h⟩
      · exact hk _ fun y hy => hJ y (by simp [hy])
    · obtain ⟨pre, h3, h4, h5⟩ := hI
      obtain ⟨b, e1, _⟩ := s_Spot T x.A
      obtain ⟨b2, e2, _⟩ := s_Spot T x.B
      rw [e1, e2]
      simp only [Option.bind_some]
      have hg : ∃ b3, gd (!!b) default (some b2) = some b3 := by cases b <;> exact ⟨_, rfl⟩
      obtain ⟨b3, hg⟩ := hg
      rw [hg]
      simp only [Option.bind_some]
      split
      · exact ⟨1, rfl, fun h => by cases h⟩
      split
      · exact ⟨7, rfl, fun h => by cases h⟩
      · rename_i hm
        simp only [h5, Bool.or_eq_true, decide_eq_true_eq, not_or] at hm
        obtain ⟨⟨m1, m2⟩, m3⟩ := hm
        have e : spotsOf (pre ++ [x]) = spotsOf pre ++ [x.A, x.B] := by simp [spotsOf]
        refine hk _ ⟨pre ++ [x], by rw [h3]; simp, ?_, fun p => ?_⟩
        · rw [e, List.nodup_append]
          refine ⟨h4, by simp [m3], fun a ha b hb he => ?_⟩
          subst he
          simp at hb
          rcases hb with rfl | rfl
          · exact m1 ha
          · exact m2 ha
        · rw [mget_mput, mget_mput, h5, e]
          by_cases p1 : p = x.B
          · simp [p1]
          · by_cases p2 : p = x.A
            · simp [p2]
            · simp [p1, p2]
  obtain ⟨c, e1, e2⟩ := key
  rw [hc] at e1
  exact e2 (Option.some.inj e1).symm
/-- at a spot there is one link -/
theorem spot_link {l : List T_Link} (h : (spotsOf l).Nodup) {i j : Nat} {x y : T_Link} {p : T_Spot} (hi : l[i]? = some x) (hj : l[j]? = some y) (hx : x.A = p ∨ x.B = p) (hy : y.A = p ∨ y.B = p) : i = j := by
  induction l generalizing i j with
  | nil => simp at hi
  | cons z l ih =>
    have e : spotsOf (z :: l) = [z.A, z.B] ++ spotsOf l := by simp [spotsOf]
    rw [e, List.nodup_append] at h
    have hin : ∀ {k : Nat} {w : T_Link}, l[k]? = some w → (w.A = p ∨ w.B = p) → p ∈ spotsOf l := fun {k w} hk hw => by
      refine List.mem_flatMap.2 ⟨w, List.mem_of_getElem? hk, ?_⟩
      rcases hw with e | e <;> simp [e]
    have hz : (z.A = p ∨ z.B = p) → p ∈ [z.A, z.B] := fun h => by rcases h with e | e <;> simp [e]
    cases i with
    | zero =>
      simp at hi
      subst hi
      cases j with
      | zero => rfl
      | succ j =>
        exact absurd rfl (h.2.2 p (hz hx) p (hin (by simpa using hj) hy))
    | succ i =>
      cases j with
      | zero =>
        simp at hj
        subst hj
        exact absurd rfl (h.2.2 p (hz hy) p (hin (by simpa using hi) hx))
      | succ j =>
        have := ih h.2.1 (i := i) (j := j) (by simpa using hi) (by simpa using hj)
        omega

def rchk (p m b o s v : Int) : Int :=
  if 0 ≤ p ∧ p ≤ 99 ∧ 0 ≤ o ∧ o ≤ 4 ∧ (0 ≤ s ∧ s < 16) ∧ (0 ≤ v ∧ v < 16) then
    (if cchk m b = 0 then (if bits .andNot .i64 v s = 0 ∧ ¬ (o = 0 ∧ s ≠ 0) then 0 else 3) else cchk m b)
  else 1
theorem rchk_0 {p m b o s v : Int} (h : rchk p m b o s v = 0) : (0 ≤ p ∧ p ≤ 99 ∧ 0 ≤ o ∧ o ≤ 4 ∧ (0 ≤ s ∧ s < 16) ∧ (0 ≤ v ∧ v < 16)) ∧ cchk m b = 0 ∧ bits .andNot .i64 v s = 0 ∧ ¬ (o = 0 ∧ s ≠ 0) := by
  unfold rchk at h
  split at h
  · rename_i h1
    split at h
    · rename_i h2
      split at h
      · rename_i h3; exact ⟨h1, h2, h3.1, h3.2⟩
      · cases h
    · rename_i h2; exact absurd h h2
  · cases h
def T_Rule.chk (x : T_Rule) : Int := rchk x.Prio x.Cube.Mask x.Cube.Bits x.Out x.Set x.Value
theorem rchk_ite (p m b o s v : Int) (hs hv : Bool) (h1 : hs = true ↔ 0 ≤ s ∧ s < 16) (h2 : hv = true ↔ 0 ≤ v ∧ v < 16) (e : Int) (he : e = cchk m b) :
    (if (((((decide (p < 0) || decide (99 < p)) || decide (o < 0)) || decide (4 < o)) || !hs) || !hv) = true then some (1 : Int) else
      if (!decide (e = 0)) = true then some e else if (decide (bits .andNot .i64 v s ≠ 0) || (decide (o = 0) && decide (s ≠ 0))) = true then some 3 else some 0) = some (rchk p m b o s v) := by
  subst he
  unfold rchk
  by_cases h : 0 ≤ p ∧ p ≤ 99 ∧ 0 ≤ o ∧ o ≤ 4 ∧ (0 ≤ s ∧ s < 16) ∧ (0 ≤ v ∧ v < 16)
  · rw [if_neg (by rw [h1.2 h.2.2.2.2.1, h2.2 h.2.2.2.2.2]; simp; omega), if_pos h]
    by_cases hk : cchk m b = 0
    · rw [if_neg (by simp [hk]), if_pos hk]
      generalize bits .andNot .i64 v s = B
      by_cases h3 : B = 0 <;> by_cases h4 : o = 0 <;> by_cases h5 : s = 0 <;> simp [h3, h4, h5]
    · rw [if_pos (by simp [hk]), if_neg hk]
  · rw [if_neg h, if_pos]
    cases hs <;> cases hv <;> simp at h1 h2 ⊢
    omega
theorem s_rule_Check (r : T_Rule) : t_rule_Check r = some r.chk := by
  have key := rchk_ite r.Prio r.Cube.Mask r.Cube.Bits r.Out r.Set r.Value (hdr r.Set) (hdr r.Value) hdr_iff hdr_iff (cf r.Cube) rfl
  unfold t_rule_Check T_Rule.chk
  simp only [s_cube_Header, s_cube_Check, Option.bind_some]
  rw [← key]
  cases hA : (((decide (r.Prio < 0) || decide (99 < r.Prio)) || decide (r.Out < 0)) || decide (4 < r.Out))
  · cases hB : hdr r.Set
    · simp [gd_true, gd_false]
    · simp only [Bool.false_or, Bool.not_false, Bool.not_true, gd_true, Option.bind_some]
  · simp [gd_false]
theorem s_rRule (r : T_Rule) : t_railref1_Rule r = some r.chk := by
  have key := rchk_ite r.Prio r.Cube.Mask r.Cube.Bits r.Out r.Set r.Value (hdr r.Set) (hdr r.Value) hdr_iff hdr_iff (cf r.Cube) rfl
  unfold t_railref1_Rule T_Rule.chk
  simp only [s_rHeader, s_rCube, Option.bind_some]
  rw [← key]
  by_cases hA : (((((decide (r.Prio < 0) || decide (99 < r.Prio)) || decide (r.Out < 0)) || decide (4 < r.Out)) || !hdr r.Set) || !hdr r.Value) = true
  · rw [if_pos hA, if_pos hA]
  · rw [if_neg hA, if_neg hA]
    have hv : 0 ≤ r.Set ∧ r.Set < 16 ∧ 0 ≤ r.Value ∧ r.Value < 16 := by
      simp only [Bool.or_eq_true, not_or, Bool.not_eq_true', Bool.not_eq_false, hdr_iff] at hA
      omega
    have e2 : cf (⟨r.Set, r.Value⟩ : T_Cube) = if bits .andNot .i64 r.Value r.Set = 0 then 0 else 3 := by
      unfold cf cchk; rw [if_pos hv]
    rw [e2]
    by_cases h0 : cf r.Cube = 0
    · by_cases h3 : bits .andNot .i64 r.Value r.Set = 0 <;> simp [h0, h3, gd_true, gd_false]
    · simp [h0]

theorem numsOf_get {s : ByteArray} {j : Nat} {x : Int} (h : (numsOf s)[j]? = some x) : sidx s (j : Int) = some x := by
  obtain ⟨h1, h2⟩ := List.getElem?_eq_some_iff.1 h
  rw [numsOf_at] at h2
  unfold sidx
  rw [numsOf_len] at h1
  rw [if_pos ⟨by omega, by omega⟩, ← h2]
  rfl
theorem s_rName (s : ByteArray) (hs : (s.size : Int) ≤ maxI) : t_railref1_Name s = t_topo_Name s := by
  unfold t_railref1_Name t_topo_Name
  rw [need_pos (by simpa using hs)]
  simp only [join_eq]
  rw [loopI_any (fun x => decide (x < 97) || decide (122 < x)) (r := false) (by rw [numsOf_len]; exact hs) (fun x i k => rfl)]
  rw [loopU_any (l := numsOf s) (fun x => decide (x < 97) || decide (122 < x)) (r := false) (by omega) (by rw [numsOf_len]; omega) hs (fun j x k hj => ?_)]
  · have ht : (numsOf s).take ((s.size : Int)).toNat = numsOf s := List.take_of_length_le (by rw [numsOf_len]; omega)
    rw [ht]
    generalize (numsOf s).any (fun x => decide (x < 97) || decide (122 < x)) = A
    by_cases h1 : s = ByteArray.mk #[]
    · subst h1
      cases A <;> simp
    · by_cases h2 : (s.size : Int) ≤ 6
      · have : ¬ (6 : Int) < s.size := by omega
        simp [h1, h2, this]
      · have : (6 : Int) < s.size := by omega
        cases A <;> simp [h1, h2, this]
  · rw [numsOf_get hj]
    simp only [Option.bind_some]
    by_cases h1 : x < 97 <;> simp [h1, gd_true, gd_false]
theorem s_rSpot (T : T_Topo) (s : T_Spot) : t_railref1_Spot T s = t_topo_Spot T s := rfl
theorem s_rTopo (T : T_Topo) (hn : ∀ h ∈ T.Hosts, (h.Name.size : Int) ≤ maxI) : t_railref1_Topo T = t_topo_Check T := by
  have hM : maxI = 9223372036854775807 := rfl
  unfold t_railref1_Topo t_topo_Check
  split
  · rfl
  split
  · rfl
  rename_i h1 h2
  simp only [Bool.or_eq_true, decide_eq_true_eq, not_or, Int.not_lt] at h2
  simp only [join_eq]
  refine loopI_sim (fun i l used m => 0 ≤ i ∧ i + l.length = T.Links.length ∧ (used.length : Int) = 2 * i ∧ ∀ s, mget m s false = decide (s ∈ used)) ⟨Int.le_refl _, by omega, rfl, fun s => by simp [mget, mfind]⟩ (fun i used m hI => ?_) (fun i x l used m k k' hI hk => ?_)
  · obtain ⟨i0, i1, i2, i3⟩ := hI
    simp only [List.length_nil] at i1
    refine loopI_sim (fun j l used (t : List (T_Spot × Bool) × List (ByteArray × Bool)) => 0 ≤ j ∧ l = T.Hosts.drop j.toNat ∧ (used.length : Int) ≤ 400 + j ∧ (∀ s, mget t.1 s false = decide (s ∈ used)) ∧ ∀ s, mget t.2 s false = (T.Hosts.take j.toNat).any fun h => decide (h.Name = s)) ⟨Int.le_refl _, rfl, by omega, i3, fun s => by simp [mget, mfind]⟩ (fun _ _ _ _ => rfl) (fun j x l used t k k' hJ hk => ?_)
    obtain ⟨j0, j1, j2, j3, j4⟩ := hJ
    have hx : T.Hosts[j.toNat]? = some x := by
      have := congrArg (fun l => l[0]?) j1
      simpa using this.symm
    have hjl : j.toNat < T.Hosts.length := (List.getElem?_eq_some_iff.1 hx).1
    have hxm : x ∈ T.Hosts := List.mem_of_getElem? hx
    have hl : l = T.Hosts.drop (j.toNat + 1) := by
      rw [List.drop_eq_getElem_cons hjl] at j1
      exact (List.cons.inj j1).2
    rw [s_rName _ (hn x hxm)]
    obtain ⟨b, e1, _⟩ := s_Name x.Name (hn x hxm)
    rw [e1, s_rSpot]
    obtain ⟨b2, e2, _⟩ := s_Spot T x.At
    rw [e2]
    simp only [Option.bind_some]
    split
    · rfl
    split
    · rfl
    rw [loopU_any (l := T.Hosts) (fun h => decide (h.Name = x.Name)) (r := 7) j0 (by omega) (by omega) (fun n y k hy => by rw [idx_nat, hy]; rfl)]
    rw [j3, j4]
    cases (T.Hosts.take j.toNat).any (fun h => decide (h.Name = x.Name)) with
    | true => rfl
    | false =>
      simp only [Bool.false_eq_true, if_false, Bool.false_or]
      rw [loopI_any (fun y => decide (y = x.At)) (r := 7) (by omega) (fun x i k => rfl), any_is]
      by_cases hu : x.At ∈ used
      · simp [hu]
      · rw [if_neg (by simpa using hu), if_neg (by simpa using hu), app_eq (by simp; omega)]
        simp only [Option.bind_some]
        refine hk _ _ ⟨by omega, by rw [hl]; congr 1; omega, by simp; omega, fun s => ?_, fun s => ?_⟩
        · rw [mget_mput, j3]
          by_cases e : s = x.At <;> simp [e]
        · rw [mget_mput, j4]
          have e3 : (j + 1).toNat = j.toNat + 1 := by omega
          rw [e3, List.take_add_one, hx]
          by_cases e : s = x.Name
          · simp [e]
          · have e' : ¬ x.Name = s := fun h => e h.symm
            simp [e, e']
  · obtain ⟨i0, i1, i2, i3⟩ := hI
    simp only [List.length_cons] at i1
    rw [s_rSpot, s_rSpot]
    obtain ⟨b, e1, _⟩ := s_Spot T x.A
    obtain ⟨b2, e2, _⟩ := s_Spot T x.B
    rw [e1, e2]
    simp only [Option.bind_some]
    cases b with
    | false => simp [gd]
    | true =>
      cases b2 with
      | false => simp [gd]
      | true =>
        simp only [gd, Bool.not_true, Bool.not_false, if_true, Option.bind_some, Bool.or_self, Bool.false_eq_true, if_false]
        rw [i3, i3, loopI_any (fun y => decide (y = x.A) || decide (y = x.B)) (r := 7) (by omega) (fun x i k => rfl)]
        have ha : (used.any fun y => decide (y = x.A) || decide (y = x.B)) = (decide (x.A ∈ used) || decide (x.B ∈ used)) := by
          rw [← any_is, ← any_is, any_two]
        rw [ha]
        by_cases h3 : x.A = x.B
        · simp [h3]
        · by_cases h4 : x.A ∈ used
          · simp [h3, h4]
          · by_cases h5 : x.B ∈ used
            · simp [h3, h4, h5]
            · rw [if_neg (by simpa using h3), if_neg (by simp [h4, h5]), if_neg (by simp [h3, h4, h5]), app_eq (by simp; omega), Option.bind_some, app_eq (by simp; omega), Option.bind_some]
              refine hk _ _ ⟨by omega, by omega, by simp; omega, fun s => ?_⟩
              rw [mget_mput, mget_mput, i3]
              by_cases c1 : s = x.B
              · simp [c1]
              · by_cases c2 : s = x.A <;> simp [c1, c2]

/-- what is wrong with a table: of those behind some -/
def tabG : List T_Rule → List T_Rule → Int
  | _, [] => 0
  | p, x :: l => if x.chk ≠ 0 then x.chk else if (p.any fun y => decide (y.Prio = x.Prio) && decide (y.Cube = x.Cube)) = true then 7 else tabG (p ++ [x]) l
theorem tabG_ok : ∀ {p l : List T_Rule}, tabG p l = 0 → ∀ r ∈ l, r.chk = 0
  | _, [], _ => fun r h => by cases h
  | p, x :: l, h => by
    unfold tabG at h
    split at h
    · rename_i h1; exact absurd h h1
    · rename_i h1
      split at h
      · cases h
      · intro r hr
        rcases List.mem_cons.1 hr with rfl | hr
        · exact Classical.not_not.1 h1
        · exact tabG_ok h r hr
def tabF (t : List T_Rule) : Int := if 12 < (t.length : Int) then 4 else tabG [] t
theorem goI_tab {t : List T_Rule} {step : Int → T_Rule → Unit → (Unit → Option Int) → Option Int} {fin : Unit → Option Int} (hf : fin () = some 0) (ht : ¬ 12 < (t.length : Int))
    (h : ∀ (p l : List T_Rule) x k, t = p ++ x :: l → step (p.length : Int) x () k = if x.chk ≠ 0 then some x.chk else if (p.any fun y => decide (y.Prio = x.Prio) && decide (y.Cube = x.Cube)) = true then some 7 else k ()) :
    ∀ (l p : List T_Rule), t = p ++ l → goI step fin (p.length : Int) l () = some (tabG p l)
  | [], p, _ => hf
  | x :: l, p, e => by
    rw [goI, h p l x _ e, tabG]
    have e2 := goI_tab hf ht h l (p ++ [x]) (by rw [e]; simp)
    have e3 : (((p ++ [x]).length : Nat) : Int) = (p.length : Int) + 1 := by simp
    rw [e3] at e2
    rw [e2]
    split
    · rfl
    · split <;> rfl
theorem take_pre {p l : List T_Rule} : (p ++ l).take p.length = p := by simp
theorem s_rTable (t : List T_Rule) : t_railref1_Table t = some (tabF t) := by
  have hM : maxI = 9223372036854775807 := rfl
  unfold t_railref1_Table tabF
  by_cases h : 12 < (t.length : Int)
  · rw [if_pos (decide_eq_true h), if_pos h]
  rw [if_neg (by simpa using h), if_neg h]
  simp only [join_eq]
  rw [loopI_eq (by omega)]
  refine goI_tab (t := t) rfl h (fun p l x k e => ?_) t [] rfl
  rw [s_rRule, Option.bind_some]
  have hp : p.length ≤ t.length := by rw [e]; simp
  rw [loopU_any (l := t) (fun y => decide (y.Prio = x.Prio) && decide (y.Cube = x.Cube)) (r := 7) (by omega) (by omega) (by omega) (fun n y k hy => ?_)]
  · have : ((p.length : Int)).toNat = p.length := rfl
    rw [this, e, take_pre]
    by_cases hx : x.chk = 0 <;> simp [hx]
  · rw [idx_nat, hy]
    simp only [Option.bind_some]
    by_cases h1 : y.Prio = x.Prio <;> simp [h1, gd_true, gd_false]
theorem s_rule_Table (t : List T_Rule) : t_rule_Table t = some (tabF t) := by
  have hM : maxI = 9223372036854775807 := rfl
  unfold t_rule_Table tabF
  by_cases h : 12 < (t.length : Int)
  · rw [if_pos (decide_eq_true h), if_pos h]
  rw [if_neg (by simpa using h), if_neg h]
  simp only [join_eq]
  rw [loopI_eq (by omega)]
  refine goI_tab (t := t) rfl h (fun p l x k e => ?_) t [] rfl
  rw [s_rule_Check, Option.bind_some]
  have hp : p.length ≤ t.length := by rw [e]; simp
  have hs : slc_hi t (p.length : Int) = some p := by
    unfold slc_hi
    rw [if_pos ⟨by omega, by omega⟩]
    have : ((p.length : Int)).toNat = p.length := rfl
    rw [this, e, take_pre]
  rw [hs, Option.bind_some]
  have hc : t_slices_ContainsFunc_api_Table_api_Rule p (fun a33 => t_rule_Table_1 a33 x) = some (p.any fun y => decide (y.Prio = x.Prio) && decide (y.Cube = x.Cube)) := by
    unfold t_slices_ContainsFunc_api_Table_api_Rule
    have : ∃ j, t_slices_IndexFunc_api_Table_api_Rule p (fun a33 => t_rule_Table_1 a33 x) = some j ∧ decide (0 ≤ j) = p.any fun y => decide (y.Prio = x.Prio) && decide (y.Cube = x.Cube) := by
      unfold t_slices_IndexFunc_api_Table_api_Rule
      simp only [join_eq]
      refine loopI_ex (fun i l _ => 0 ≤ i ∧ (p.any fun y => decide (y.Prio = x.Prio) && decide (y.Cube = x.Cube)) = l.any fun y => decide (y.Prio = x.Prio) && decide (y.Cube = x.Cube)) (by omega) ⟨Int.le_refl _, rfl⟩ (fun i s hI => ⟨-1, rfl, by rw [hI.2]; rfl⟩) (fun i y l s k hI hk => ?_)
      simp only [t_rule_Table_1, t_rule_Key, Option.bind_some]
      obtain ⟨i0, i1⟩ := hI
      rw [List.any_cons] at i1
      cases hb : (decide (y.Prio = x.Prio) && decide (y.Cube = x.Cube)) with
      | true => exact ⟨i, rfl, by rw [i1, hb]; simpa using i0⟩
      | false =>
        rw [if_neg (by decide)]
        exact hk () ⟨by omega, by rw [i1, hb]; rfl⟩
    obtain ⟨j, e1, e2⟩ := this
    rw [e1, Option.bind_some, e2]
  rw [hc, Option.bind_some]
  by_cases hx : x.chk = 0 <;> simp [hx]
theorem tab_rules {t : List T_Rule} (h : t_rule_Table t = some 0) : ∀ r ∈ t, r.chk = 0 := by
  rw [s_rule_Table] at h
  have h := Option.some.inj h
  unfold tabF at h
  split at h
  · cases h
  · exact tabG_ok h
theorem s_rNet (n : T_Net) (hn : ∀ h ∈ n.Topo.Hosts, (h.Name.size : Int) ≤ maxI) : t_railref1_Net n = t_net_Check n := by
  unfold t_railref1_Net t_net_Check
  simp only [s_rTopo n.Topo hn, s_rTable, s_rule_Table, Option.bind_some]
  congr 1
  funext c
  by_cases hc : c = 0
  · simp only [hc, ne_eq, not_true_eq_false, decide_false, decide_true, Bool.not_true, Bool.false_eq_true, if_false]
    split
    · rfl
    · simp only [join_eq]
      refine loopI_sim (fun _ _ _ _ => True) trivial (fun _ _ _ _ => rfl) (fun i x l s t k k' _ hk => ?_)
      rw [hk s t trivial]
      by_cases hx : tabF x = 0 <;> simp [hx]
  · simp [hc]
theorem net_tabs {n : T_Net} (h : t_net_Check n = some 0) (hg : netGood n) : ∀ t ∈ n.Tables, t_rule_Table t = some 0 := by
  have hM : maxI = 9223372036854775807 := rfl
  unfold t_net_Check at h
  obtain ⟨c, e1, _⟩ : ∃ c, t_topo_Check n.Topo = some c ∧ True := by
    cases hc : t_topo_Check n.Topo with
    | none => rw [hc] at h; cases h
    | some c => exact ⟨c, rfl, trivial⟩
  rw [e1, Option.bind_some] at h
  split at h
  · rename_i hc
    have := Option.some.inj h
    subst this
    simp at hc
  split at h
  · cases h
  rename_i hl
  have hl : (n.Tables.length : Int) = n.Topo.Switches := by simpa using hl
  have := hg.topo.sw
  simp only [join_eq, s_rule_Table, Option.bind_some] at h
  rw [loopI_eq (by omega), goI_first (f := tabF) rfl n.Tables 0 (fun x _ i k => by by_cases hx : tabF x = 0 <;> simp [hx])] at h
  intro t ht
  rw [s_rule_Table, firstF_0.1 (Option.some.inj h) t ht]


theorem s_rabove (a b : T_Rule) : ∃ c, t_rule_above a b = some c ∧ t_railref1_above a b = some (decide (0 < c)) := by
  unfold t_rule_above t_railref1_above
  simp only [s_cmp, s_cmpOr, Option.bind_some]
  refine ⟨_, rfl, ?_⟩
  by_cases h1 : a.Prio = b.Prio
  · by_cases h2 : a.Cube.Mask = b.Cube.Mask
    · by_cases h3 : a.Cube.Bits < b.Cube.Bits
      · simp [h1, h2, h3]; omega
      · by_cases h4 : b.Cube.Bits < a.Cube.Bits <;> simp [h1, h2, h3, h4]
    · rcases Int.lt_or_gt_of_ne h2 with h | h
      · have : ¬ b.Cube.Mask < a.Cube.Mask := by omega
        simp [h1, h2, h, this]
      · have : ¬ a.Cube.Mask < b.Cube.Mask := by omega
        simp [h1, h2, h, this]
  · rcases Int.lt_or_gt_of_ne h1 with h | h
    · have : ¬ b.Prio < a.Prio := by omega
      simp [h1, h, this]
    · have : ¬ a.Prio < b.Prio := by omega
      simp [h1, h, this]
theorem s_rFind (t : List T_Rule) (ht : ∀ r ∈ t, r.chk = 0) (h : Int) (hh : 0 ≤ h ∧ h < 16) : t_railref1_Find t h = t_rule_Find t h := by
  unfold t_railref1_Find t_rule_Find
  refine congrArg (fun o : Option Int => o.bind fun s => some s) ?_
  refine loopI_sim (fun _ l s u => s = u ∧ ∀ r ∈ l, r.chk = 0) ⟨rfl, ht⟩ (fun i s u e => by rw [e.1]) (fun i x l s u k k' e hk => ?_)
  obtain ⟨rfl, e2⟩ := e
  have hx := rchk_0 (e2 x (by simp))
  have hc : cf x.Cube = 0 := hx.2.1
  have hhas : t_railref1_Has x.Cube h = some (decide (bits .and .i64 h x.Cube.Mask = x.Cube.Bits)) := by
    unfold t_railref1_Has
    simp only [s_rHeader, s_rCube, Option.bind_some]
    have : hdr h = true := hdr_iff.2 hh
    simp [this, hc, gd_true]
  rw [hhas, Option.bind_some]
  generalize decide (bits .and .i64 h x.Cube.Mask = x.Cube.Bits) = B
  cases hB : (B && !decide (s < 0)) with
  | false =>
    simp only [gd_false, Option.bind_some]
    have : ∀ z : Bool, (B && (decide (s < 0) || z)) = (B && decide (s < 0)) := fun z => by
      cases B <;> cases hd : decide (s < 0) <;> simp [hd] at hB ⊢
    rw [this, this]
    split
    · exact hk _ _ ⟨rfl, fun r hr => e2 r (by simp [hr])⟩
    · exact hk _ _ ⟨rfl, fun r hr => e2 r (by simp [hr])⟩
  | true =>
    simp only [gd_true]
    cases idx t s with
    | none => rfl
    | some y =>
      obtain ⟨c, c1, c2⟩ := s_rabove x y
      simp only [Option.bind_some, c1, c2]
      split
      · exact hk _ _ ⟨rfl, fun r hr => e2 r (by simp [hr])⟩
      · exact hk _ _ ⟨rfl, fun r hr => e2 r (by simp [hr])⟩


def bitB (x i : Nat) : Bool := decide (x / 2 ^ i % 2 = 1)
theorem s_bit {x : Int} (hx : 0 ≤ x ∧ x < 16) (i : Fin 4) : t_railref1_bit x (i.val : Int) = some (bitB x.toNat i.val) := by
  have H : ∀ (x : Fin 16) (i : Fin 4), t_railref1_bit (x.val : Int) (i.val : Int) = some (bitB x.val i.val) := by decide +kernel
  have := H ⟨x.toNat, by omega⟩ i
  simpa [Int.toNat_of_nonneg hx.1] using this
def bstp (s v h : Nat) (i : Nat) (o : Int) : Int := if ((bitB s i && bitB v i) || (!bitB s i && bitB h i)) = true then o * 2 + 1 else o * 2
theorem turned_eq (s v h : Fin 16) (hsv : bits .andNot .i64 (v.val : Int) (s.val : Int) = 0) : bstp s v h 0 (bstp s v h 1 (bstp s v h 2 (bstp s v h 3 0))) = bits .or .i64 (bits .andNot .i64 (h.val : Int) (s.val : Int)) (v.val : Int) := by
  have H : ∀ s v h : Fin 16, bits .andNot .i64 (v.val : Int) (s.val : Int) = 0 → bstp s v h 0 (bstp s v h 1 (bstp s v h 2 (bstp s v h 3 0))) = bits .or .i64 (bits .andNot .i64 (h.val : Int) (s.val : Int)) (v.val : Int) := by decide +kernel
  exact H s v h hsv
theorem bstp_le {s v h i : Nat} {o : Int} {B : Int} (ho : 0 ≤ o ∧ o ≤ B) : 0 ≤ bstp s v h i o ∧ bstp s v h i o ≤ 2 * B + 1 := by
  unfold bstp
  split <;> omega
noncomputable def turnF (r : T_Rule) (h : Int) (k10 : Int × Int → Option Int) (s9 : Int × Int) : Option Int :=
  if (decide (0 ≤ s9.2)) = true then (
 (t_railref1_bit r.Set s9.2).bind fun r18 =>
 (t_railref1_bit r.Value s9.2).bind fun r21 =>
 (t_railref1_bit h s9.2).bind fun r23 =>
 (if ((r18 && r21) || ((!r18) && r23)) = true then (
 some (wr ((wr (s9.1 * 2)) + 1))) else (
 some (wr (s9.1 * 2)))).bind fun (s43 : Int) =>
 k10 (s43, (wr (s9.2 - 1)))) else (
 some (s9.1))
theorem turnF_step {r : T_Rule} {h : Int} (hs : 0 ≤ r.Set ∧ r.Set < 16) (hv : 0 ≤ r.Value ∧ r.Value < 16) (hh : 0 ≤ h ∧ h < 16) (k : Int × Int → Option Int) (i : Fin 4) {o : Int} (ho : 0 ≤ o ∧ o ≤ 100) : turnF r h k (o, (i.val : Int)) = k (bstp r.Set.toNat r.Value.toNat h.toNat i.val o, (i.val : Int) - 1) := by
  unfold turnF
  simp only
  rw [if_pos (by simp), s_bit hs i, s_bit hv i, s_bit hh i]
  simp only [Option.bind_some]
  rw [wr_id (x := o * 2) (by omega) (by omega), wr_id (x := o * 2 + 1) (by omega) (by omega), wr_id (x := (i.val : Int) - 1) (by omega) (by have := i.isLt; omega)]
  unfold bstp
  split <;> simp [*]
theorem s_Turned {r : T_Rule} (hr : r.chk = 0) {h : Int} (hh : 0 ≤ h ∧ h < 16) : t_railref1_Turned r h = some (bits .or .i64 (bits .andNot .i64 h r.Set) r.Value) := by
  obtain ⟨⟨_, _, _, _, hs, hv⟩, _, hz, _⟩ := rchk_0 hr
  unfold t_railref1_Turned
  obtain ⟨M, hM⟩ : ∃ M, bigN = M + 5 := ⟨bigN - 5, by have := bigN_gt; omega⟩
  rw [bind_some_id, hM]
  show tfix (turnF r h) (M + 5) (0, ((⟨3, by decide⟩ : Fin 4).val : Int)) = _
  have b3 := bstp_le (s := r.Set.toNat) (v := r.Value.toNat) (h := h.toNat) (i := 3) (o := 0) (B := 0) ⟨Int.le_refl _, Int.le_refl _⟩
  have b2 := bstp_le (s := r.Set.toNat) (v := r.Value.toNat) (h := h.toNat) (i := 2) b3
  have b1 := bstp_le (s := r.Set.toNat) (v := r.Value.toNat) (h := h.toNat) (i := 1) b2
  rw [tfix, turnF_step hs hv hh _ ⟨3, by decide⟩ ⟨Int.le_refl _, by decide⟩]
  show tfix (turnF r h) (M + 4) (_, ((⟨2, by decide⟩ : Fin 4).val : Int)) = _
  rw [tfix, turnF_step hs hv hh _ ⟨2, by decide⟩ ⟨b3.1, Int.le_trans b3.2 (by decide)⟩]
  show tfix (turnF r h) (M + 3) (_, ((⟨1, by decide⟩ : Fin 4).val : Int)) = _
  rw [tfix, turnF_step hs hv hh _ ⟨1, by decide⟩ ⟨b2.1, Int.le_trans b2.2 (by decide)⟩]
  show tfix (turnF r h) (M + 2) (_, ((⟨0, by decide⟩ : Fin 4).val : Int)) = _
  rw [tfix, turnF_step hs hv hh _ ⟨0, by decide⟩ ⟨b1.1, Int.le_trans b1.2 (by decide)⟩]
  show some _ = _
  have := turned_eq ⟨r.Set.toNat, by omega⟩ ⟨r.Value.toNat, by omega⟩ ⟨h.toNat, by omega⟩ (by simpa [Int.toNat_of_nonneg hs.1, Int.toNat_of_nonneg hv.1] using hz)
  simp only [Int.toNat_of_nonneg hs.1, Int.toNat_of_nonneg hv.1, Int.toNat_of_nonneg hh.1] at this
  rw [← this]

theorem s_rHost (T : T_Topo) (s : T_Spot) : t_railref1_Host T s = t_slices_IndexFunc_api_Host_api_Host T.Hosts (fun a => t_topo_Host_1 a s) := rfl
theorem s_rPeer (T : T_Topo) (s : T_Spot) : t_railref1_Peer T s = t_topo_Other T s := by
  unfold t_railref1_Peer t_topo_Other
  simp only [join_eq]
  refine loopI_sim (fun _ _ _ _ => True) trivial (fun _ _ _ _ => rfl) (fun i x l s t k k' _ hk => ?_)
  rw [hk s t trivial]
  simp only [eq_comm]
/-- the bits that a rule sets -/
theorem s_Out2 {t : List T_Rule} (ht : tblGood t) (hk : ∀ r ∈ t, r.chk = 0) (at_ : T_Spot) {h : Int} (hh : 0 ≤ h ∧ h < 16) : ∃ i, t_railref1_Find t h = some i ∧
    (((i < 0 ∨ ∃ r, 0 ≤ i ∧ idx t i = some r ∧ r.Out = 0) ∧ t_net_Out t at_ h = some (⟨0, 0⟩, 0, false)) ∨
      ∃ r, 0 ≤ i ∧ idx t i = some r ∧ r.Out ≠ 0 ∧ ∃ x, t_railref1_Turned r h = some x ∧ t_net_Out t at_ h = some (⟨at_.Switch, r.Out⟩, x, true)) := by
  obtain ⟨i, e1, e2⟩ := s_Find t h ht.1
  refine ⟨i, by rw [s_rFind t hk h hh, e1], ?_⟩
  unfold t_net_Out
  rw [e1]
  simp only [Option.bind_some]
  by_cases hi : i < 0
  · exact .inl ⟨.inl hi, by simp [hi, gd]⟩
  · obtain ⟨r, hr, hm, _⟩ := idx_some (l := t) (i := i) (by omega) (by omega)
    simp only [hr, hi, decide_false, Bool.not_false, gd_true, Option.bind_some, Bool.false_or]
    by_cases ho : r.Out = 0
    · exact .inl ⟨.inr ⟨r, by omega, rfl, ho⟩, by simp [ho]⟩
    · exact .inr ⟨r, by omega, rfl, ho, _, s_Turned (hk r hm) hh, by simp [ho]⟩
theorem s_host2 {n : T_Net} (hn : netGood n) (s : T_Spot) : ∃ i, t_railref1_Host n.Topo s = some i ∧ ((i < 0 ∧ (hostV n.Topo s).2 = false) ∨ (0 ≤ i ∧ ∃ h, idx n.Topo.Hosts i = some h ∧ h ∈ n.Topo.Hosts ∧ hostV n.Topo s = (h.Name, true))) := by
  obtain ⟨i, e1, e2⟩ := s_IndexHost n.Topo.Hosts hn.topo.nh (fun a4 => decide (a4.At = s)) _ (fun x => (rfl : t_topo_Host_1 x s = some (decide (x.At = s))))
  refine ⟨i, by rw [s_rHost]; exact e1, ?_⟩
  unfold hostV t_topo_Host
  rw [e1]
  simp only [Option.bind_some]
  by_cases hi : i < 0
  · exact .inl ⟨hi, by simp [hi]⟩
  · obtain ⟨x, hx, hm, _⟩ := idx_some (l := n.Topo.Hosts) (i := i) (by omega) (by omega)
    exact .inr ⟨by omega, x, hx, hm, by simp [hi, hx]⟩
theorem again_eq (l : List T_Hop) (y : T_Hop) (hl : (l.length : Int) ≤ maxI) (b : Bool) : loopI l (fun (i113 : Int) x114 (s109 : Bool) k110 => k110 (s109 || (decide (x114 = y)))) (fun (s109 : Bool) => some (s109)) b = some (b || decide (y ∈ l)) := by
  rw [loopI_eq hl]
  have : ∀ (l : List T_Hop) (i : Int) (b : Bool), goI (fun (i113 : Int) x114 (s109 : Bool) k110 => k110 (s109 || (decide (x114 = y)))) (fun (s109 : Bool) => some (s109)) i l b = some (b || decide (y ∈ l)) := by
    intro l
    induction l with
    | nil => intro i b; simp [goI]
    | cons x l ih =>
      intro i b
      rw [goI]
      show goI _ _ (i + 1) l (b || decide (x = y)) = _
      rw [ih]
      by_cases e : x = y
      · simp [e]
      · have e' : ¬ y = x := fun h => e h.symm
        simp [e, e']
  exact this l 0 b
theorem s_rGo {n : T_Net} (hn : netGood n) (hc : t_net_Check n = some 0) (l : List T_Hop) {x : T_Hop} (hx : hopOk n x) (hl : (l ++ [x]).length ≤ 24) : t_railref1_Go n.Topo (tblV n x) ⟨0, noT, l ++ [x]⟩ = some ((goV n l x).2, (goV n l x).1) := by
  have hM : maxI = 9223372036854775807 := rfl
  have hl2 : l.length ≤ 100 := by simp at hl; omega
  have htm : tblV n x ∈ n.Tables := by
    have h1 := hn.topo.sw
    obtain ⟨h2, h3, _⟩ := hx.at_
    have hll := hn.len
    obtain ⟨t, e1, e2, _⟩ := idx_some (l := n.Tables) (i := x.At.Switch - 1) (by omega) (by omega)
    unfold tblV
    rw [e1]
    exact e2
  obtain ⟨i, f1, f2⟩ := s_Out2 (s_tbl hn hx.at_).2 (tab_rules (net_tabs hc hn _ htm)) x.At hx.hd
  have ho := (s_out hn hx).1
  unfold t_railref1_Go
  simp only [idx_last l x hl2, Option.bind_some, f1]
  unfold goV kd
  rcases f2 with ⟨g1, g2⟩ | ⟨r, i0, ir, rO, z, tz, g2⟩
  · rw [g2] at ho
    have ho := Option.some.inj ho
    rw [← ho]
    rcases g1 with hi | ⟨r, i0, ir, rO⟩
    · simp [hi, gd]
    · have : ¬ i < 0 := by omega
      simp [this, gd, ir, rO]
  · rw [g2] at ho
    have ho := Option.some.inj ho
    rw [← ho]
    have hi : ¬ i < 0 := by omega
    simp only [hi, decide_false, Bool.not_false, gd_true, ir, Option.bind_some, rO, Bool.or_self, Bool.false_eq_true, if_false, if_true]
    obtain ⟨j, h1, h2⟩ := s_host2 hn ⟨x.At.Switch, r.Out⟩
    rw [h1]
    simp only [Option.bind_some]
    rcases h2 with ⟨hj, hv⟩ | ⟨hj, hh, k1, _, k2⟩
    · have hj2 : ¬ 0 ≤ j := by omega
      simp only [hv, hj2, decide_false, Bool.false_eq_true, if_false, s_rPeer, (s_other hn _).1, Option.bind_some]
      by_cases h3 : (otherV n.Topo ⟨x.At.Switch, r.Out⟩).2 = true
      · simp only [h3, Bool.not_true, Bool.false_eq_true, if_false, if_true, Option.bind_some, tz]
        rw [again_eq _ _ (by omega)]
        simp only [Option.bind_some]
        generalize (⟨(otherV n.Topo ⟨x.At.Switch, r.Out⟩).1, z⟩ : T_Hop) = y
        by_cases h4 : y ∈ l ++ [x] ∨ 24 ≤ (l ++ [x]).length
        · have : (decide (24 ≤ ((l ++ [x]).length : Int)) || decide (y ∈ l ++ [x])) = true := by
            rcases h4 with h | h
            · simp only [Bool.or_eq_true, decide_eq_true_eq]; exact .inr h
            · simp only [Bool.or_eq_true, decide_eq_true_eq]; left; omega
          rw [if_pos this, if_pos h4]
        · have : ¬ (decide (24 ≤ ((l ++ [x]).length : Int)) || decide (y ∈ l ++ [x])) = true := by
            simp only [Bool.or_eq_true, decide_eq_true_eq]
            intro h
            exact h4 (h.symm.elim .inl fun h => .inr (by omega))
          rw [if_neg this, if_neg h4, app_eq (by simp at hl ⊢; omega)]
          simp only [Option.bind_some, List.nil_append]
          rw [app_eq (by simp at hl ⊢; omega)]
          rfl
      · simp [h3]
    · simp [hj, k1, k2]
noncomputable def frF (n : T_Net) (k19 : T_Fate × Bool → Option T_Fate) (s18 : T_Fate × Bool) : Option T_Fate :=
 if s18.2 = true then (
 (idx s18.1.Hops (wr ((List.length s18.1.Hops : Int) - 1))).bind fun r29 =>
 (idx n.Tables (wr (r29.At.Switch - 1))).bind fun r37 =>
 (t_railref1_Go n.Topo r37 s18.1).bind fun r41 =>
 k19 (r41.1, r41.2)) else (
 some (s18.1))
theorem frF_step {n : T_Net} (hn : netGood n) (hc : t_net_Check n = some 0) (k : T_Fate × Bool → Option T_Fate) (l : List T_Hop) {x : T_Hop} (hx : hopOk n x) (hl : (l ++ [x]).length ≤ 24) : frF n k (⟨0, noT, l ++ [x]⟩, true) = k ((goV n l x).2, (goV n l x).1) := by
  unfold frF
  simp only [if_true, idx_last l x (by simp at hl; omega), Option.bind_some, (s_tbl hn hx.at_).1, s_rGo hn hc l hx hl]
theorem frF_end {n : T_Net} {N : Nat} (h : 0 < N) (f : T_Fate) : tfix (frF n) N (f, false) = some f := by
  obtain ⟨N, rfl⟩ : ∃ M, N = M + 1 := ⟨N - 1, by omega⟩
  rfl
theorem run2 {n : T_Net} (hn : netGood n) (hc : t_net_Check n = some 0) : ∀ (d : Nat) (l : List T_Hop) (x : T_Hop) (N N2 : Nat), (l ++ [x]).length + d = 24 → d < N → d + 1 < N2 → hopOk n x → tfix (frF n) N2 (⟨0, noT, l ++ [x]⟩, true) = tfix (ofF n) N ⟨0, noT, l ++ [x]⟩ := by
  intro d
  induction d with
  | zero =>
    intro l x N N2 hd hN hN2 hx
    obtain ⟨N, rfl⟩ : ∃ M, N = M + 1 := ⟨N - 1, by omega⟩
    obtain ⟨N2, rfl⟩ : ∃ M, N2 = M + 1 := ⟨N2 - 1, by omega⟩
    rw [show tfix (ofF n) (N + 1) ⟨0, noT, l ++ [x]⟩ = ofF n (tfix (ofF n) N) ⟨0, noT, l ++ [x]⟩ from rfl, ofF_step hn _ l hx (by omega)]
    rw [show tfix (frF n) (N2 + 1) (⟨0, noT, l ++ [x]⟩, true) = frF n (tfix (frF n) N2) (⟨0, noT, l ++ [x]⟩, true) from rfl, frF_step hn hc _ l hx (by omega)]
    have hg : (goV n l x).1 = false := by
      unfold goV
      have h24 : (kd n x).2.2 ∈ l ++ [x] ∨ 24 ≤ (l ++ [x]).length := .inr (by omega)
      by_cases h0 : (kd n x).1 = 0
      · rw [if_pos h0, if_pos h24]
      · rw [if_neg h0]
    rw [hg, frF_end (by omega)]
    rfl
  | succ d ih =>
    intro l x N N2 hd hN hN2 hx
    obtain ⟨N, rfl⟩ : ∃ M, N = M + 1 := ⟨N - 1, by omega⟩
    obtain ⟨N2, rfl⟩ : ∃ M, N2 = M + 1 := ⟨N2 - 1, by omega⟩
    rw [show tfix (ofF n) (N + 1) ⟨0, noT, l ++ [x]⟩ = ofF n (tfix (ofF n) N) ⟨0, noT, l ++ [x]⟩ from rfl, ofF_step hn _ l hx (by omega)]
    rw [show tfix (frF n) (N2 + 1) (⟨0, noT, l ++ [x]⟩, true) = frF n (tfix (frF n) N2) (⟨0, noT, l ++ [x]⟩, true) from rfl, frF_step hn hc _ l hx (by omega)]
    by_cases hg : (goV n l x).1 = true
    · rw [hg, if_pos rfl]
      have hv : (kd n x).1 = 0 ∧ (goV n l x).2 = ⟨0, noT, l ++ [x] ++ [(kd n x).2.2]⟩ := by
        unfold goV at hg ⊢
        by_cases h0 : (kd n x).1 = 0
        · rw [if_pos h0] at hg ⊢
          split at hg
          · cases hg
          · rename_i h1
            rw [if_neg h1]
            exact ⟨h0, rfl⟩
        · rw [if_neg h0] at hg
          cases hg
      rw [hv.2]
      exact ih (l ++ [x]) (kd n x).2.2 N N2 (by rw [List.length_append]; simp only [List.length_singleton]; omega) (by omega) (by omega) ((kd_ok hn hx).1 hv.1)
    · have hg : (goV n l x).1 = false := by simpa using hg
      rw [hg, frF_end (by omega)]
      rfl
theorem s_rFrom {n : T_Net} (hn : netGood n) (hc : t_net_Check n = some 0) {s : T_Spot} {h : Int} (hs : spotOk n.Topo s) (hh : 0 ≤ h ∧ h < 16) : ∃ f, t_railref1_From n s h = some f ∧ t_net_Of n s h = some f ∧ f.Hops.length ≤ 24 := by
  obtain ⟨f, q, z, m, h1, h2, h3⟩ := run_ex hn 23 [] ⟨s, h⟩ bigN rfl (Nat.lt_trans (by decide) bigN_gt) ⟨fun i a b _ hb => by simp at hb, by simp, fun y hy => by simp at hy; subst hy; exact ⟨hs, hh⟩, by simp⟩
  refine ⟨f, ?_, by rw [s_Of, h1], by rw [h2.hops]; exact h2.inv.len⟩
  unfold t_railref1_From
  rw [bind_some_id]
  show tfix (frF n) bigN (⟨0, noT, [] ++ [⟨s, h⟩]⟩, true) = _
  rw [run2 hn hc 23 [] ⟨s, h⟩ bigN bigN rfl (Nat.lt_trans (by decide) bigN_gt) (Nat.lt_trans (by decide) bigN_gt) ⟨hs, hh⟩, h1]
theorem s_Error (x y : Int) : t_railsame_Error x y = some (decide (x = y)) := rfl

section
variable {α β σ : Type}
theorem loopI_at {l : List α} {step : Int → α → σ → (σ → Option β) → Option β} {fin : σ → Option β} {s : σ} (S : Nat → σ) (h0 : s = S 0) (hl : (l.length : Int) ≤ maxI) (h : ∀ (p : Nat) x k, l[p]? = some x → step (p : Int) x (S p) k = k (S (p + 1))) : loopI l step fin s = fin (S l.length) := by
  rw [loopI_eq hl]
  have : ∀ (m : List α) (p : Nat), l.drop p = m → p ≤ l.length → goI step fin (p : Int) m (S p) = fin (S l.length) := by
    intro m
    induction m with
    | nil =>
      intro p hp hpl
      have : p = l.length := by have := List.drop_eq_nil_iff.1 hp; omega
      rw [goI, this]
    | cons x m ih =>
      intro p hp hpl
      have hx : l[p]? = some x := by rw [← List.head?_drop, hp]; rfl
      have hlt := (List.getElem?_eq_some_iff.1 hx).1
      rw [goI, h p x _ hx]
      have e : (p : Int) + 1 = ((p + 1 : Nat) : Int) := by omega
      rw [e]
      exact ih (p + 1) (by rw [← List.tail_drop, hp]; rfl) (by omega)
  rw [h0]
  exact this l 0 rfl (Nat.zero_le _)
theorem loopU_at {lo hi : Nat} {step : Int → σ → (σ → Option β) → Option β} {fin : Int → σ → Option β} {s : σ} (S : Nat → σ) (h0 : s = S lo) (hl : (hi : Int) ≤ maxI) (hle : lo ≤ hi) (h : ∀ (p : Nat) k, lo ≤ p → p < hi → step (p : Int) (S p) k = k (S (p + 1))) : loopU (lo : Int) (hi : Int) step fin s = fin (hi : Int) (S hi) := by
  rw [loopU_eq (by omega) hl]
  have : ∀ (m p : Nat), lo ≤ p → p + m = hi → goU step fin m (p : Int) (S p) = fin (hi : Int) (S hi) := by
    intro m
    induction m with
    | zero => intro p hp hm; have : p = hi := by omega
              subst this; rfl
    | succ m ih =>
      intro p hp hm
      rw [goU, h p _ hp (by omega)]
      have e : (p : Int) + 1 = ((p + 1 : Nat) : Int) := by omega
      rw [e]
      exact ih (p + 1) (by omega) (by omega)
  rw [h0, show ((hi : Int) - (lo : Int)).toNat = hi - lo by omega]
  exact this (hi - lo) lo (Nat.le_refl _) (by omega)
end
theorem from_fateV {n : T_Net} (hn : netGood n) (hc : t_net_Check n = some 0) {x : T_Host} (hx : x ∈ n.Topo.Hosts) {h : Int} (hh : 0 ≤ h ∧ h < 16) : t_railref1_From n x.At h = some (fateV n x h) := by
  obtain ⟨f, h1, h2, _⟩ := s_rFrom hn hc (hn.topo.hosts x hx).2 hh
  rw [(good_fateV hn hx hh).1] at h2
  rw [h1, h2]
theorem s_rAll {n : T_Net} (hn : netGood n) (hc : t_net_Check n = some 0) : t_railref2_All n = some (fatesV n) := by
  have hM : maxI = 9223372036854775807 := rfl
  have hnh := hn.topo.nh
  unfold t_railref2_All
  rw [bind_some_id]
  refine (loopI_at (S := fun p => (n.Topo.Hosts.take p).flatMap (hostFates n)) rfl (by omega) fun p x k hp => ?_).trans ?_
  · have hx : x ∈ n.Topo.Hosts := List.mem_of_getElem? hp
    have hpl := (List.getElem?_eq_some_iff.1 hp).1
    have hlen : ((n.Topo.Hosts.take p).flatMap (hostFates n)).length ≤ 16 * 8 := by
      have : ∀ l : List T_Host, (l.flatMap (hostFates n)).length = 16 * l.length := by
        intro l
        induction l with
        | nil => rfl
        | cons x l ih => rw [List.flatMap_cons, List.length_append, ih]; simp [hostFates]; omega
      rw [this]; simp; omega
    have e : (n.Topo.Hosts.take (p + 1)).flatMap (hostFates n) = (n.Topo.Hosts.take p).flatMap (hostFates n) ++ hostFates n x := by
      rw [List.take_add_one, hp, List.flatMap_append]; simp
    show _ = k ((n.Topo.Hosts.take (p + 1)).flatMap (hostFates n))
    rw [e]
    generalize (n.Topo.Hosts.take p).flatMap (hostFates n) = s at hlen
    have := loopU_at (lo := 0) (hi := 16) (s := s) (step := fun (i38 : Int) (s34 : (List T_Fate)) k35 => (t_railref1_From n x.At i38).bind fun r51 => (app s34 ([r51] : (List T_Fate))).bind fun r56 => k35 (r56)) (fin := fun (i38 : Int) (s34 : (List T_Fate)) => some (s34)) (fun j => s ++ (List.range j).map fun j : Nat => fateV n x (j : Int)) (by simp) (by omega) (by omega) fun j k _ hj => by
      rw [from_fateV hn hc hx ⟨by omega, by omega⟩, Option.bind_some, app_eq (by simp; omega), Option.bind_some]
      simp [List.range_succ]
    rw [show ((0 : Nat) : Int) = 0 from rfl, show ((16 : Nat) : Int) = 16 from rfl] at this
    rw [this]
    rfl
  · simp [fatesV]
/-! over which links -/
def lk (T : T_Topo) (j : Nat) (y : T_Hop) : Bool := match T.Links[j]? with
  | some x => decide (x.A = y.At) || decide (x.B = y.At)
  | none => false
def cntL (T : T_Topo) (ys : List T_Hop) : List Int := (List.range T.Links.length).map fun j => ((ys.countP (lk T j) : Nat) : Int)
theorem cntL_len (T : T_Topo) (ys : List T_Hop) : (cntL T ys).length = T.Links.length := by simp [cntL]
theorem cntL_at {T : T_Topo} {ys : List T_Hop} {j : Nat} (h : j < T.Links.length) : (cntL T ys)[j]? = some ((ys.countP (lk T j) : Nat) : Int) := by simp [cntL, h]
def oversOf (fs : List T_Fate) : List T_Hop := fs.flatMap fun f => f.Hops.drop 1
theorem countP_one {p : T_Hop → Bool} (ys : List T_Hop) (y : T_Hop) : (ys ++ [y]).countP p = ys.countP p + if p y = true then 1 else 0 := by
  rw [List.countP_append, List.countP_singleton]
theorem s_IndexLink2 (l : List T_Link) (hl : (l.length : Int) ≤ maxI) (y : T_Hop) (hy : ∃ x ∈ l, x.A = y.At ∨ x.B = y.At) : ∃ i : Nat, t_slices_IndexFunc_api_Link_api_Link l (fun (a62 : T_Link) => t_judge_Count_1 a62 y) = some (i : Int) ∧ ∃ x, l[i]? = some x ∧ (x.A = y.At ∨ x.B = y.At) := by
  unfold t_slices_IndexFunc_api_Link_api_Link
  simp only [join_eq]
  have : ∃ i : Int, loopI l (fun (i13 : Int) x14 (s9 : Unit) k10 => (t_judge_Count_1 x14 y).bind fun r22 => if r22 = true then (some i13) else (k10 ())) (fun _ => some (-1 : Int)) () = some i ∧ (0 ≤ i ∧ ∃ x, l[i.toNat]? = some x ∧ (x.A = y.At ∨ x.B = y.At)) := by
    refine loopI_ex (fun i m _ => 0 ≤ i ∧ l.drop i.toNat = m ∧ ∃ x ∈ m, x.A = y.At ∨ x.B = y.At) hl ⟨Int.le_refl _, by simp, hy⟩ (fun i s hI => ?_) (fun i x m s k hI hk => ?_)
    · obtain ⟨_, _, x, hx, _⟩ := hI
      simp at hx
    · obtain ⟨h1, h2, z, hz, hz2⟩ := hI
      have hx : l[i.toNat]? = some x := by rw [← List.head?_drop, h2]; rfl
      unfold t_judge_Count_1
      simp only [Option.bind_some]
      split
      · rename_i hc
        exact ⟨i, rfl, h1, x, hx, by simpa [Bool.or_eq_true] using hc⟩
      · rename_i hn
        refine hk () ⟨by omega, by rw [show (i + 1).toNat = i.toNat + 1 by omega, ← List.tail_drop, h2]; rfl, z, ?_, hz2⟩
        rcases List.mem_cons.1 hz with rfl | hz
        · exact absurd (by simpa [Bool.or_eq_true] using hz2) hn
        · exact hz
  obtain ⟨i, h1, h2, h3⟩ := this
  exact ⟨i.toNat, by rw [h1]; congr 1; omega, h3⟩
theorem lk_iff {T : T_Topo} {j : Nat} {x : T_Link} {y : T_Hop} (h : T.Links[j]? = some x) : lk T j y = true ↔ (x.A = y.At ∨ x.B = y.At) := by
  unfold lk
  rw [h]; simp
theorem count_hop {T : T_Topo} (hT : T.Links.length ≤ 200) (hS : (spotsOf T.Links).Nodup) {ys : List T_Hop} (hl : ys.length ≤ 100000) {y : T_Hop} (hy : ∃ x ∈ T.Links, x.A = y.At ∨ x.B = y.At) {β : Type} (k : List Int → Option β) : ((t_slices_IndexFunc_api_Link_api_Link T.Links (fun (a62 : T_Link) => t_judge_Count_1 a62 y)).bind fun r64 =>
    (if (decide (0 ≤ r64)) = true then (need (decide (0 ≤ r64) && decide (r64 < (List.length (cntL T ys) : Int))) ((idx (cntL T ys) r64).bind fun r76 => need (decide (0 ≤ r64) && decide (r64 < (List.length (cntL T ys) : Int))) ((oset (cntL T ys) r64 (wr (r76 + 1))).bind fun r82 => some (r82)))) else (some (cntL T ys))).bind fun (s68 : (List Int)) => k (s68)) = k (cntL T (ys ++ [y])) := by
  have hM : maxI = 9223372036854775807 := rfl
  obtain ⟨i, e1, x, hx, hxy⟩ := s_IndexLink2 T.Links (by omega) y hy
  have hi : i < T.Links.length := (List.getElem?_eq_some_iff.1 hx).1
  rw [e1]
  simp only [Option.bind_some]
  have hcl := cntL_len T ys
  have ho2 : ∀ v, oset (cntL T ys) (i : Int) v = some ((cntL T ys).set i v) := fun v => if_pos ⟨by omega, by omega⟩
  rw [if_pos (by simp), need_pos (by simp; omega), idx_nat, cntL_at hi]
  simp only [Option.bind_some]
  rw [need_pos (by simp; omega), ho2]
  simp only [Option.bind_some]
  congr 1
  have hcp := List.countP_le_length (p := lk T i) (l := ys)
  unfold cntL
  refine set_range hi (fun j hj hne => ?_) ?_
  · rw [countP_one]
    obtain ⟨z, hz⟩ : ∃ z, T.Links[j]? = some z := ⟨_, List.getElem?_eq_getElem hj⟩
    have : ¬ lk T j y = true := fun h => hne (spot_link hS hz hx ((lk_iff hz).1 h) hxy)
    rw [if_neg this]; simp
  · rw [countP_one, if_pos ((lk_iff hx).2 hxy), wr_id (by omega) (by omega)]
    simp
theorem overs_len {fs : List T_Fate} (h : ∀ f ∈ fs, f.Hops.length ≤ 24) : (oversOf fs).length ≤ 24 * fs.length := by
  induction fs with
  | nil => simp [oversOf]
  | cons f fs ih =>
    have h1 := h f (by simp)
    have h2 := ih fun g hg => h g (by simp [hg])
    unfold oversOf at h2 ⊢
    simp only [List.flatMap_cons, List.length_append, List.length_drop, List.length_cons]
    omega
theorem s_CountV {T : T_Topo} (hT : T.Links.length ≤ 200) (hS : (spotsOf T.Links).Nodup) (l : List T_Fate) (hl : l.length ≤ 200) (hg : ∀ f ∈ l, f.Hops.length ≤ 24 ∧ 1 ≤ f.Hops.length ∧ ∀ y ∈ f.Hops.drop 1, ∃ x ∈ T.Links, x.A = y.At ∨ x.B = y.At) :
    t_judge_Count T l = some (cntL T (oversOf l)) := by
  have hM : maxI = 9223372036854775807 := rfl
  unfold t_judge_Count
  have ho : omake (List.length T.Links : Int) (List.length T.Links : Int) 0 = some (cntL T []) := by
    unfold omake
    rw [if_pos ⟨rfl, by omega, by omega⟩]
    congr 1
    unfold cntL
    refine List.ext_getElem (by simp) fun i h1 h2 => ?_
    simp
  rw [ho]
  simp only [Option.bind_some]
  rw [bind_some_id]
  refine (loopI_at (S := fun p => cntL T (oversOf (l.take p))) rfl (by omega) fun p f k hp => ?_).trans ?_
  · have hf : f ∈ l := List.mem_of_getElem? hp
    obtain ⟨g1, g2, g3⟩ := hg f hf
    have hs : slc_lo f.Hops (min 1 (List.length f.Hops : Int)) = some (f.Hops.drop 1) := by
      unfold slc_lo
      have : min 1 (f.Hops.length : Int) = 1 := by omega
      rw [this, if_pos ⟨by decide, by omega⟩]; rfl
    have e : oversOf (l.take (p + 1)) = oversOf (l.take p) ++ f.Hops.drop 1 := by
      unfold oversOf
      rw [List.take_add_one, hp, List.flatMap_append]; simp
    have hol : (oversOf (l.take p)).length ≤ 4800 := by
      have h1 := overs_len (fs := l.take p) fun g hgm => (hg g (List.mem_of_mem_take hgm)).1
      simp at h1; omega
    show _ = k (cntL T (oversOf (l.take (p + 1))))
    rw [e]
    simp only [hs, Option.bind_some]
    have := loopI_at (l := f.Hops.drop 1) (s := cntL T (oversOf (l.take p))) (step := fun (i52 : Int) x53 (s48 : (List Int)) k49 =>
        (t_slices_IndexFunc_api_Link_api_Link T.Links (fun (a62 : T_Link) => t_judge_Count_1 a62 x53)).bind fun r64 =>
        (if (decide (0 ≤ r64)) = true then (need (decide (0 ≤ r64) && decide (r64 < (List.length s48 : Int))) ((idx s48 r64).bind fun r76 => need (decide (0 ≤ r64) && decide (r64 < (List.length s48 : Int))) ((oset s48 r64 (wr (r76 + 1))).bind fun r82 => some (r82)))) else (some (s48))).bind fun (s68 : (List Int)) => k49 (s68)) (fin := fun (s48 : (List Int)) => some (s48))
        (fun q => cntL T (oversOf (l.take p) ++ (f.Hops.drop 1).take q)) (by simp) (by simp; omega) fun q y k hq => by
      have hyl := (List.getElem?_eq_some_iff.1 hq).1
      simp at hyl
      refine (count_hop hT hS (by simp; omega) (g3 y (List.mem_of_getElem? hq)) k).trans ?_
      congr 2
      rw [List.append_assoc]
      congr 1
      rw [List.take_add_one (i := q), hq]; rfl
    rw [this, List.take_length]
    rfl
  · simp
theorem link_hop {T : T_Topo} (hT : T.Links.length ≤ 200) {ys : List T_Hop} (hl : ys.length ≤ 100000) {hops : List T_Hop} {i : Nat} {y : T_Hop} (hy : hops[i]? = some y) : loopI T.Links (fun (i70 : Int) x71 (s66 : (List Int)) k67 =>
    (idx hops (i : Int)).bind fun r86 =>
    (gd (!(decide (x71.A = r86.At))) default (idx hops (i : Int))).bind fun r124 =>
    (if ((decide (x71.A = r86.At)) || (decide (x71.B = r124.At))) = true then (
    need (decide (0 ≤ i70) && decide (i70 < (List.length s66 : Int))) (
    (idx s66 i70).bind fun r145 =>
    need (decide (0 ≤ i70) && decide (i70 < (List.length s66 : Int))) (
    (oset s66 i70 (wr (r145 + 1))).bind fun r151 =>
    some (r151)))) else (
    some (s66))).bind fun (s137 : (List Int)) =>
    k67 (s137)) (fun (s66 : (List Int)) => some (s66)) (cntL T ys) = some (cntL T (ys ++ [y])) := by
  have hM : maxI = 9223372036854775807 := rfl
  refine (loopI_at (S := fun q => (List.range T.Links.length).map fun j => if j < q then (((ys ++ [y]).countP (lk T j) : Nat) : Int) else ((ys.countP (lk T j) : Nat) : Int)) (by simp [cntL]) (by omega) fun q x k hq => ?_).trans ?_
  · have hql : q < T.Links.length := (List.getElem?_eq_some_iff.1 hq).1
    rw [idx_nat, hy, Option.bind_some]
    have hcond : ∃ r, gd (!(decide (x.A = y.At))) default (some y) = some r ∧ ((decide (x.A = y.At)) || (decide (x.B = r.At))) = lk T q y := by
      unfold lk
      rw [hq]
      by_cases h : x.A = y.At
      · exact ⟨default, by simp [h, gd], by simp [h]⟩
      · exact ⟨y, by simp [h, gd], rfl⟩
    obtain ⟨r, h1, h2⟩ := hcond
    rw [h1, Option.bind_some, h2]
    have hcp := List.countP_le_length (p := lk T q) (l := ys)
    generalize hS : ((List.range T.Links.length).map fun j => if j < q then (((ys ++ [y]).countP (lk T j) : Nat) : Int) else ((ys.countP (lk T j) : Nat) : Int)) = S
    have hSl : S.length = T.Links.length := by rw [← hS]; simp
    have hSq : S[q]? = some ((ys.countP (lk T q) : Nat) : Int) := by rw [← hS]; simp [hql]
    have hnext : ∀ v : Int, v = (((ys ++ [y]).countP (lk T q) : Nat) : Int) → S.set q v = (List.range T.Links.length).map fun j => if j < q + 1 then (((ys ++ [y]).countP (lk T j) : Nat) : Int) else ((ys.countP (lk T j) : Nat) : Int) := fun v hv => by
      rw [← hS]
      refine set_range hql (fun j hj hne => ?_) ?_
      · by_cases hjq : j < q
        · rw [if_pos hjq, if_pos (by omega)]
        · rw [if_neg hjq, if_neg (by omega)]
      · rw [if_pos (by omega), hv]
    split
    · rename_i hk
      have ho2 : ∀ v, oset S (q : Int) v = some (S.set q v) := fun v => if_pos ⟨by omega, by omega⟩
      rw [need_pos (by simp; omega), idx_nat, hSq]
      simp only [Option.bind_some]
      rw [need_pos (by simp; omega), ho2, Option.bind_some, Option.bind_some, hnext _ (by rw [countP_one, if_pos hk, wr_id (by omega) (by omega)]; simp)]
    · rename_i hk
      rw [Option.bind_some]
      have := hnext ((ys.countP (lk T q) : Nat) : Int) (by rw [countP_one, if_neg hk]; simp)
      rw [← this]
      congr 1
      refine List.ext_getElem? fun j => ?_
      rw [List.getElem?_set]
      split
      · rename_i e
        subst e
        rw [if_pos (by omega), hSq]
      · rfl
  · congr 1
    unfold cntL
    refine List.map_congr_left fun j hj => ?_
    rw [if_pos (List.mem_range.1 hj)]
theorem s_LinksV {T : T_Topo} (hT : T.Links.length ≤ 200) (l : List T_Fate) (hl : l.length ≤ 200) (hg : ∀ f ∈ l, f.Hops.length ≤ 24 ∧ 1 ≤ f.Hops.length) :
    t_railref2_Links T l = some (cntL T (oversOf l)) := by
  have hM : maxI = 9223372036854775807 := rfl
  unfold t_railref2_Links
  have ho : omake (List.length T.Links : Int) (List.length T.Links : Int) 0 = some (cntL T []) := by
    unfold omake
    rw [if_pos ⟨rfl, by omega, by omega⟩]
    congr 1
    unfold cntL
    refine List.ext_getElem (by simp) fun i h1 h2 => ?_
    simp
  rw [ho]
  simp only [Option.bind_some]
  rw [bind_some_id]
  refine (loopI_at (S := fun p => cntL T (oversOf (l.take p))) rfl (by omega) fun p f k hp => ?_).trans ?_
  · have hf : f ∈ l := List.mem_of_getElem? hp
    obtain ⟨g1, g2⟩ := hg f hf
    have e : oversOf (l.take (p + 1)) = oversOf (l.take p) ++ f.Hops.drop 1 := by
      unfold oversOf
      rw [List.take_add_one, hp, List.flatMap_append]; simp
    have hol : (oversOf (l.take p)).length ≤ 4800 := by
      have h1 := overs_len (fs := l.take p) fun g hgm => (hg g (List.mem_of_mem_take hgm)).1
      simp at h1; omega
    show _ = k (cntL T (oversOf (l.take (p + 1))))
    rw [e]
    have := loopU_at (lo := 1) (hi := f.Hops.length) (s := cntL T (oversOf (l.take p))) (step := fun (i42 : Int) (s38 : (List Int)) k39 =>
       ((loopI T.Links (fun (i70 : Int) x71 (s66 : (List Int)) k67 =>
       (idx f.Hops i42).bind fun r86 =>
       (gd (!(decide (x71.A = r86.At))) default (idx f.Hops i42)).bind fun r124 =>
       (if ((decide (x71.A = r86.At)) || (decide (x71.B = r124.At))) = true then (
       need (decide (0 ≤ i70) && decide (i70 < (List.length s66 : Int))) (
       (idx s66 i70).bind fun r145 =>
       need (decide (0 ≤ i70) && decide (i70 < (List.length s66 : Int))) (
       (oset s66 i70 (wr (r145 + 1))).bind fun r151 =>
       some (r151)))) else (
       some (s66))).bind fun (s137 : (List Int)) =>
       k67 (s137)) (fun (s66 : (List Int)) =>
       some (s66)) (s38)).bind fun (s61 : (List Int)) =>
       some (s61)).bind fun (s55 : (List Int)) =>
       k39 (s55)) (fin := fun (i42 : Int) (s38 : (List Int)) => some (s38))
        (fun q => cntL T (oversOf (l.take p) ++ (f.Hops.drop 1).take (q - 1))) (by simp) (by omega) g2 fun q k hq1 hq2 => by
      have hy : f.Hops[q]? = some f.Hops[q] := List.getElem?_eq_getElem hq2
      have hlen : (oversOf (l.take p) ++ (f.Hops.drop 1).take (q - 1)).length ≤ 100000 := by simp; omega
      simp only [link_hop hT hlen hy, Option.bind_some]
      congr 2
      rw [List.append_assoc]
      congr 1
      have : (f.Hops.drop 1)[q - 1]? = some f.Hops[q] := by rw [List.getElem?_drop, show 1 + (q - 1) = q by omega, hy]
      rw [show q + 1 - 1 = q - 1 + 1 by omega, List.take_add_one (i := q - 1), this]; rfl
    rw [show ((1 : Nat) : Int) = 1 from rfl] at this
    simp only [this, Option.bind_some]
    rw [List.take_of_length_le (l := f.Hops.drop 1) (by simp)]
  · simp

/-! pairs -/
def fI (o : Option Nat) : Int := match o with
  | some r => (r : Int)
  | none => -1
theorem fI_loop {q : T_Host → Bool} {step : Int → T_Host → Unit → (Unit → Option Int) → Option Int} (hs : ∀ i x k, step i x () k = if q x = true then some i else k ()) : ∀ (m : List T_Host) (p : Nat), goI step (fun _ => some (-1)) (p : Int) m () = some (fI ((m.findIdx? q).map (· + p)))
  | [], p => by simp [goI, fI]
  | x :: m, p => by
    rw [goI, hs, List.findIdx?_cons]
    by_cases h : q x = true
    · simp [h, fI]
    · have e : (p : Int) + 1 = ((p + 1 : Nat) : Int) := by omega
      rw [if_neg h, if_neg h, e, fI_loop hs m (p + 1), Option.map_map]
      congr 3
      funext j
      simp; omega
theorem idx_host {l : List T_Host} (hl : (l.length : Int) ≤ maxI) {g : T_Host → Option Bool} {q : T_Host → Bool} (hg : ∀ a, g a = some (q a)) : t_slices_IndexFunc_api_Host_api_Host l g = some (fI (l.findIdx? q)) := by
  unfold t_slices_IndexFunc_api_Host_api_Host
  rw [join_eq, loopI_eq hl]
  have := fI_loop (q := q) (step := fun (i13 : Int) x14 (s9 : Unit) k10 => (g x14).bind fun r22 => if r22 = true then (some i13) else (k10 ())) (fun i x k => by simp [hg]) l 0
  simpa using this
def named (T : T_Topo) (s : ByteArray) : Option Nat := T.Hosts.findIdx? fun h => decide (h.Name = s)
theorem s_NamedV {T : T_Topo} (hl : (T.Hosts.length : Int) ≤ maxI) (s : ByteArray) : t_railref1_Named T s = some (fI (named T s)) := by
  unfold t_railref1_Named
  rw [join_eq, loopI_eq hl]
  have := fI_loop (q := fun h => decide (h.Name = s)) (step := fun (i13 : Int) x14 (s9 : Unit) k10 => if (decide (x14.Name = s)) = true then (some i13) else (k10 ())) (fun i x k => rfl) T.Hosts 0
  simpa [named] using this
theorem named_lt {T : T_Topo} {s : ByteArray} {r : Nat} (h : named T s = some r) : r < T.Hosts.length := (List.findIdx?_eq_some_iff_findIdx_eq.1 h).1
def updP (T : T_Topo) (p : Nat) (f : T_Fate) (s : List Int) : List Int := match named T f.Host with
  | some r => if f.How = 1 then s.set (p / 16 * T.Hosts.length + r) (s.getD (p / 16 * T.Hosts.length + r) 0 + 1) else s
  | none => s
def pairsS (T : T_Topo) (fs : List T_Fate) : Nat → List Int
  | 0 => List.replicate (T.Hosts.length * T.Hosts.length) 0
  | p + 1 => match fs[p]? with
    | some f => updP T p f (pairsS T fs p)
    | none => pairsS T fs p
theorem pairs_inv {T : T_Topo} {fs : List T_Fate} (hfs : fs.length = 16 * T.Hosts.length) : ∀ p, p ≤ fs.length → InvP T.Hosts.length p (pairsS T fs p)
  | 0, _ => by
    refine ⟨by simp [pairsS], fun x hx => ?_, fun b hb => ?_⟩
    · have := (List.mem_replicate.1 hx).2; omega
    · have : blk (List.replicate (T.Hosts.length * T.Hosts.length) (0 : Int)) T.Hosts.length b = 0 := by
        unfold blk
        rw [List.drop_replicate, List.take_replicate]
        simp
      show K 0 b (blk (List.replicate (T.Hosts.length * T.Hosts.length) (0 : Int)) T.Hosts.length b)
      rw [this]
      exact ⟨by omega, fun _ => by omega, fun _ => by omega⟩
  | p + 1, hp => by
    have hI := pairs_inv hfs p (by omega)
    have hf : fs[p]? = some fs[p] := List.getElem?_eq_getElem (by omega)
    simp only [pairsS, hf]
    unfold updP
    cases hn : named T fs[p].Host with
    | none => exact invP_keep hI
    | some r =>
      simp only
      split
      · exact (invP_step hI (named_lt hn) (by omega)).2
      · exact invP_keep hI
theorem pair_set {T : T_Topo} (hT : T.Hosts.length ≤ 8) {fs : List T_Fate} (hfs : fs.length = 16 * T.Hosts.length) {p r : Nat} {f : T_Fate} (hp : fs[p]? = some f) (hr : named T f.Host = some r) (hh : f.How = 1) {β : Type} (k : List Int → Option β) :
    (need (decide (0 ≤ (wr ((wr ((wr (Int.tdiv (p : Int) 16)) * (List.length T.Hosts : Int))) + (r : Int)))) && decide ((wr ((wr ((wr (Int.tdiv (p : Int) 16)) * (List.length T.Hosts : Int))) + (r : Int))) < (List.length (pairsS T fs p) : Int))) (
    (idx (pairsS T fs p) (wr ((wr ((wr (Int.tdiv (p : Int) 16)) * (List.length T.Hosts : Int))) + (r : Int)))).bind fun r133 =>
    need (decide (0 ≤ (wr ((wr ((wr (Int.tdiv (p : Int) 16)) * (List.length T.Hosts : Int))) + (r : Int)))) && decide ((wr ((wr ((wr (Int.tdiv (p : Int) 16)) * (List.length T.Hosts : Int))) + (r : Int))) < (List.length (pairsS T fs p) : Int))) (
    (oset (pairsS T fs p) (wr ((wr ((wr (Int.tdiv (p : Int) 16)) * (List.length T.Hosts : Int))) + (r : Int))) (wr (r133 + 1))).bind k))) = k (pairsS T fs (p + 1)) := by
  have hpl := (List.getElem?_eq_some_iff.1 hp).1
  have hI := pairs_inv hfs p (by omega)
  have hrl := named_lt hr
  have hst := invP_step hI hrl (by omega)
  have hmul : p / 16 * T.Hosts.length ≤ 8 * 8 := Nat.mul_le_mul (by omega) hT
  have e1 : wr (Int.tdiv (p : Int) 16) = ((p / 16 : Nat) : Int) := by
    have : Int.tdiv (p : Int) 16 = ((p / 16 : Nat) : Int) := rfl
    rw [this]; exact wr_id (by omega) (by omega)
  have e2 : wr (((p / 16 : Nat) : Int) * (List.length T.Hosts : Int)) = ((p / 16 * T.Hosts.length : Nat) : Int) := by
    rw [← Int.natCast_mul]; exact wr_id (by omega) (by omega)
  have e3 : wr (((p / 16 * T.Hosts.length : Nat) : Int) + (r : Int)) = ((p / 16 * T.Hosts.length + r : Nat) : Int) := by
    rw [wr_id (by omega) (by omega)]; omega
  rw [e1, e2, e3]
  have hlt := hst.1
  have hnext : pairsS T fs (p + 1) = (pairsS T fs p).set (p / 16 * T.Hosts.length + r) ((pairsS T fs p).getD (p / 16 * T.Hosts.length + r) 0 + 1) := by
    simp only [pairsS, hp, updP, hr]
    rw [if_pos hh]
  rw [hnext]
  generalize hs : pairsS T fs p = s at *
  generalize hq : p / 16 * T.Hosts.length + r = q at *
  have hx := hI.pos (s.getD q 0) (by rw [List.getD, List.getElem?_eq_getElem hlt]; exact List.getElem_mem hlt)
  have hgd : s.getD q 0 = s[q] := by simp [List.getD, hlt]
  rw [hgd] at hx ⊢
  have ho2 : ∀ v, oset s (q : Int) v = some (s.set q v) := fun v => if_pos ⟨by omega, by omega⟩
  rw [need_pos (by simp; omega), idx_nat, List.getElem?_eq_getElem hlt]
  simp only [Option.bind_some]
  rw [need_pos (by simp; omega), ho2, Option.bind_some, wr_id (by omega) (by omega)]
theorem pair_keep {T : T_Topo} {fs : List T_Fate} {p : Nat} {f : T_Fate} (hp : fs[p]? = some f) (h : named T f.Host = none ∨ f.How ≠ 1) : pairsS T fs (p + 1) = pairsS T fs p := by
  simp only [pairsS, hp, updP]
  cases hn : named T f.Host with
  | none => rfl
  | some r =>
    rcases h with h | h
    · rw [hn] at h; cases h
    · simp [h]
theorem zeros_hh {T : T_Topo} (hT : T.Hosts.length ≤ 8) : omake (wr ((T.Hosts.length : Int) * (T.Hosts.length : Int))) (wr ((T.Hosts.length : Int) * (T.Hosts.length : Int))) 0 = some (List.replicate (T.Hosts.length * T.Hosts.length) (0 : Int)) := by
  have hmul : T.Hosts.length * T.Hosts.length ≤ 64 := Nat.mul_le_mul hT hT
  rw [← Int.natCast_mul, wr_id (by omega) (by omega)]
  unfold omake
  rw [if_pos ⟨rfl, by omega, by omega⟩, Int.toNat_natCast]
theorem s_PairsV {n : T_Net} (hn : netGood n) (hc : t_net_Check n = some 0) : t_load_Pairs n = some (pairsS n.Topo (fatesV n) (fatesV n).length, 0) := by
  have hM : maxI = 9223372036854775807 := rfl
  have hnh := hn.topo.nh
  unfold t_load_Pairs
  rw [hc, Option.bind_some, if_neg (by decide), zeros_hh hnh, Option.bind_some, s_fates hn, Option.bind_some]
  have hlen := fatesV_len n
  generalize hfs : fatesV n = fs at *
  refine (congrArg (fun X => Option.bind X _) (loopI_at (S := pairsS n.Topo fs) rfl (by omega) fun p f k hp => ?_)).trans rfl
  rw [idx_host (l := n.Topo.Hosts) (g := fun a38 => t_load_Pairs_1 a38 f) (q := fun a => (decide (f.How = 1)) && (decide (a.Name = f.Host))) (by omega) (fun a => rfl), Option.bind_some]
  by_cases hh : f.How = 1
  · have e : (fun a : T_Host => (decide (f.How = 1)) && (decide (a.Name = f.Host))) = fun a => decide (a.Name = f.Host) := by funext a; simp [hh]
    rw [e, show n.Topo.Hosts.findIdx? (fun a : T_Host => decide (a.Name = f.Host)) = named n.Topo f.Host from rfl]
    cases hr : named n.Topo f.Host with
    | none =>
      rw [if_neg (by simp [fI]), Option.bind_some, pair_keep hp (.inl hr)]
    | some r =>
      rw [if_pos (by simp [fI])]
      have := pair_set hnh hlen hp hr hh (fun s => some s)
      simp only [fI] at this ⊢
      exact congrArg (fun X => Option.bind X fun s44 => k s44) this
  · have e : n.Topo.Hosts.findIdx? (fun a : T_Host => (decide (f.How = 1)) && (decide (a.Name = f.Host))) = none := by simp [hh]
    rw [e, if_neg (by simp [fI]), Option.bind_some, pair_keep hp (.inr hh)]
theorem doc_pairs {n : T_Net} (hn : netGood n) (A : List (List Int)) (B : List T_Op) : loopI (fatesV n) (fun (i97 : Int) x98 (s93 : ((List (List Int)) × (List T_Op) × (List Int))) k94 =>
   (t_railref1_Named n.Topo x98.Host).bind fun r109 =>
   (if ((decide (x98.How = 1)) && (decide (0 ≤ r109))) = true then (
   need (decide (0 ≤ (wr ((wr ((wr (Int.tdiv i97 16)) * (List.length n.Topo.Hosts : Int))) + r109))) && decide ((wr ((wr ((wr (Int.tdiv i97 16)) * (List.length n.Topo.Hosts : Int))) + r109)) < (List.length s93.2.2 : Int))) (
   (idx s93.2.2 (wr ((wr ((wr (Int.tdiv i97 16)) * (List.length n.Topo.Hosts : Int))) + r109))).bind fun r133 =>
   need (decide (0 ≤ (wr ((wr ((wr (Int.tdiv i97 16)) * (List.length n.Topo.Hosts : Int))) + r109))) && decide ((wr ((wr ((wr (Int.tdiv i97 16)) * (List.length n.Topo.Hosts : Int))) + r109)) < (List.length s93.2.2 : Int))) (
   (oset s93.2.2 (wr ((wr ((wr (Int.tdiv i97 16)) * (List.length n.Topo.Hosts : Int))) + r109)) (wr (r133 + 1))).bind fun r139 =>
   some (s93.1, s93.2.1, r139)))) else (
   some (s93.1, s93.2.1, s93.2.2))).bind fun (s122 : ((List (List Int)) × (List T_Op) × (List Int))) =>
   k94 (s122.1, s122.2.1, s122.2.2)) (fun (s93 : ((List (List Int)) × (List T_Op) × (List Int))) =>
   some (s93.1, s93.2.1, s93.2.2)) (A, B, List.replicate (n.Topo.Hosts.length * n.Topo.Hosts.length) (0 : Int)) = some (A, B, pairsS n.Topo (fatesV n) (fatesV n).length) := by
  have hM : maxI = 9223372036854775807 := rfl
  have hnh := hn.topo.nh
  have hlen := fatesV_len n
  generalize hfs : fatesV n = fs at *
  refine (loopI_at (S := fun p => (A, B, pairsS n.Topo fs p)) rfl (by omega) fun p f k hp => ?_)
  rw [s_NamedV (by omega), Option.bind_some]
  by_cases hh : f.How = 1
  · cases hr : named n.Topo f.Host with
    | none =>
      rw [if_neg (by simp [fI]), Option.bind_some, pair_keep hp (.inl hr)]
    | some r =>
      rw [if_pos (by simp [fI, hh])]
      have := pair_set hnh hlen hp hr hh (fun s => some (A, B, s))
      simp only [fI] at this ⊢
      exact congrArg (fun X => Option.bind X fun s122 => k (s122.1, s122.2.1, s122.2.2)) this
  · rw [if_neg (by simp [hh]), Option.bind_some, pair_keep hp (.inr hh)]
/-! rules -/
theorem hops_app (fs : List T_Fate) (f : T_Fate) : hopsOf (fs ++ [f]) = hopsOf fs ++ f.Hops := by simp [hopsOf]
theorem hops_len {fs : List T_Fate} (h : ∀ f ∈ fs, f.Hops.length ≤ 24) : (hopsOf fs).length ≤ 24 * fs.length := by
  induction fs with
  | nil => simp [hopsOf]
  | cons f fs ih =>
    have h1 := h f (by simp)
    have h2 := ih fun g hg => h g (by simp [hg])
    unfold hopsOf at h2 ⊢
    simp only [List.flatMap_cons, List.length_append, List.length_cons]
    omega
theorem doc_hop {n : T_Net} (hn : netGood n) (hc : t_net_Check n = some 0) {i : Nat} (hi : i < n.Tables.length) {y : T_Hop} (hy : hopOk n y) {hs : List T_Hop} (hl : hs.length ≤ 100000) (A : List (List Int)) (B : List T_Op) {β : Type} (k : (List (List Int)) × (List T_Op) × (List Int) → Option β) :
   ((t_railref1_Find (tabN n i) y.Header).bind fun r274 =>
   (if ((decide (y.At.Switch = ((i : Int) + 1))) && (decide (0 ≤ r274))) = true then (
   need (decide (0 ≤ r274) && decide (r274 < (List.length (cntR n hs i) : Int))) (
   (idx (cntR n hs i) r274).bind fun r300 =>
   need (decide (0 ≤ r274) && decide (r274 < (List.length (cntR n hs i) : Int))) (
   (oset (cntR n hs i) r274 (wr (r300 + 1))).bind fun r306 =>
   some (A, B, r306)))) else (
   some (A, B, cntR n hs i))).bind k) = k (A, B, cntR n (hs ++ [y]) i) := by
  have hM : maxI = 9223372036854775807 := rfl
  obtain ⟨a1, a2, _, _⟩ := hy.at_
  have hti : tabN n i ∈ n.Tables := by unfold tabN; rw [List.getD, List.getElem?_eq_getElem hi]; exact List.getElem_mem hi
  have hgt := hn.tabs _ hti
  rw [s_rFind (tabN n i) (tab_rules (net_tabs hc hn _ hti)) y.Header hy.hd]
  obtain ⟨r, h1, h2⟩ := s_Find (tabN n i) y.Header hgt.1
  rw [h1, Option.bind_some]
  have hcl : (cntR n hs i).length = (tabN n i).length := by simp [cntR]
  by_cases hcond : y.At.Switch = (i : Int) + 1 ∧ 0 ≤ r
  · obtain ⟨c1, c2⟩ := hcond
    obtain ⟨j, rfl⟩ : ∃ j : Nat, r = j := ⟨r.toNat, by omega⟩
    have hj : j < (tabN n i).length := by rcases h2 with h2 | h2 <;> omega
    rw [if_pos (by simp [c1])]
    have ho2 : ∀ v, oset (cntR n hs i) (j : Int) v = some ((cntR n hs i).set j v) := fun v => if_pos ⟨by omega, by omega⟩
    rw [need_pos (by simp; omega), idx_nat, cntR_at hj]
    simp only [Option.bind_some]
    rw [need_pos (by simp; omega), ho2, Option.bind_some, Option.bind_some]
    congr 3
    have hcp := List.countP_le_length (p := hit n i j) (l := hs)
    have hhit : ∀ j' : Nat, hit n i j' y = decide (j' = j) := fun j' => by
      unfold hit
      rw [h1, show (y.At.Switch - 1).toNat = i by omega]
      simp only [decide_true, Bool.true_and, Option.some.injEq]
      rw [decide_eq_decide]
      omega
    unfold cntR
    refine set_range hj (fun j' hj' hne => ?_) ?_
    · rw [countP_one, hhit, if_neg (by simp [hne])]; simp
    · rw [countP_one, hhit, if_pos (by simp), wr_id (by omega) (by omega)]; simp
  · rw [if_neg (by simpa using hcond), Option.bind_some]
    congr 3
    unfold cntR
    refine List.map_congr_left fun j hj => ?_
    have : hit n i j y = false := by
      unfold hit
      rw [h1]
      by_cases c1 : y.At.Switch = (i : Int) + 1
      · have : ¬ 0 ≤ r := fun h => hcond ⟨c1, h⟩
        have h5 : some r ≠ some (j : Int) := fun h => by have := Option.some.inj h; omega
        rw [decide_eq_false h5, Bool.and_false]
      · have h5 : (y.At.Switch - 1).toNat ≠ i := by omega
        rw [decide_eq_false h5, Bool.false_and]
    rw [countP_one, this]; simp
theorem cntR_nil {n : T_Net} {i : Nat} : cntR n [] i = List.replicate (tabN n i).length 0 := by
  unfold cntR
  refine List.ext_getElem (by simp) fun j h1 h2 => ?_
  simp
theorem doc_counts {n : T_Net} (hn : netGood n) (hc : t_net_Check n = some 0) {i : Nat} (hi : i < n.Tables.length) (fs : List T_Fate) (hfs : fs.length ≤ 1000) (hg : ∀ f ∈ fs, GoodF n f) (A : List (List Int)) (B : List T_Op) :
   loopI fs (fun (i230 : Int) x231 (s226 : ((List (List Int)) × (List T_Op) × (List Int))) k227 =>
   ((loopI x231.Hops (fun (i254 : Int) x255 (s250 : ((List (List Int)) × (List T_Op) × (List Int))) k251 =>
   (t_railref1_Find (tabN n i) x255.Header).bind fun r274 =>
   (if ((decide (x255.At.Switch = ((i : Int) + 1))) && (decide (0 ≤ r274))) = true then (
   need (decide (0 ≤ r274) && decide (r274 < (List.length s250.2.2 : Int))) (
   (idx s250.2.2 r274).bind fun r300 =>
   need (decide (0 ≤ r274) && decide (r274 < (List.length s250.2.2 : Int))) (
   (oset s250.2.2 r274 (wr (r300 + 1))).bind fun r306 =>
   some (s250.1, s250.2.1, r306)))) else (
   some (s250.1, s250.2.1, s250.2.2))).bind fun (s292 : ((List (List Int)) × (List T_Op) × (List Int))) =>
   k251 (s292.1, s292.2.1, s292.2.2)) (fun (s250 : ((List (List Int)) × (List T_Op) × (List Int))) =>
   some (s250.1, s250.2.1, s250.2.2)) (s226.1, s226.2.1, s226.2.2)).bind fun (s245 : ((List (List Int)) × (List T_Op) × (List Int))) =>
   some (s245.1, s245.2.1, s245.2.2)).bind fun (s239 : ((List (List Int)) × (List T_Op) × (List Int))) =>
   k227 (s239.1, s239.2.1, s239.2.2)) (fun (s226 : ((List (List Int)) × (List T_Op) × (List Int))) =>
   some (s226.1, s226.2.1, s226.2.2)) (A, B, List.replicate (tabN n i).length 0) = some (A, B, cntR n (hopsOf fs) i) := by
  have hM : maxI = 9223372036854775807 := rfl
  refine (loopI_at (S := fun p => (A, B, cntR n (hopsOf (fs.take p)) i)) (by rw [← cntR_nil]; rfl) (by omega) fun p f k hp => ?_).trans (by rw [List.take_length])
  have hf := List.mem_of_getElem? hp
  have hF := hg f hf
  have hpl := (List.getElem?_eq_some_iff.1 hp).1
  have e : hopsOf (fs.take (p + 1)) = hopsOf (fs.take p) ++ f.Hops := by rw [List.take_add_one, hp]; exact hops_app _ _
  have hol : (hopsOf (fs.take p)).length ≤ 24000 := by
    have h1 := hops_len (fs := fs.take p) fun g hgm => (hg g (List.mem_of_mem_take hgm)).len
    simp at h1; omega
  show _ = k (A, B, cntR n (hopsOf (fs.take (p + 1))) i)
  rw [e]
  have hfl := hF.len
  have := loopI_at (l := f.Hops) (s := (A, B, cntR n (hopsOf (fs.take p)) i)) (step := fun (i254 : Int) x255 (s250 : ((List (List Int)) × (List T_Op) × (List Int))) k251 =>
   (t_railref1_Find (tabN n i) x255.Header).bind fun r274 =>
   (if ((decide (x255.At.Switch = ((i : Int) + 1))) && (decide (0 ≤ r274))) = true then (
   need (decide (0 ≤ r274) && decide (r274 < (List.length s250.2.2 : Int))) (
   (idx s250.2.2 r274).bind fun r300 =>
   need (decide (0 ≤ r274) && decide (r274 < (List.length s250.2.2 : Int))) (
   (oset s250.2.2 r274 (wr (r300 + 1))).bind fun r306 =>
   some (s250.1, s250.2.1, r306)))) else (
   some (s250.1, s250.2.1, s250.2.2))).bind fun (s292 : ((List (List Int)) × (List T_Op) × (List Int))) =>
   k251 (s292.1, s292.2.1, s292.2.2)) (fin := fun (s250 : ((List (List Int)) × (List T_Op) × (List Int))) => some (s250.1, s250.2.1, s250.2.2))
     (fun q => (A, B, cntR n (hopsOf (fs.take p) ++ f.Hops.take q) i)) (by simp) (by omega) fun q y k hq => by
    have hyl := (List.getElem?_eq_some_iff.1 hq).1
    refine (doc_hop hn hc hi (hF.ok y (List.mem_of_getElem? hq)) (hs := hopsOf (fs.take p) ++ f.Hops.take q) (by simp; omega) A B (fun s292 => k (s292.1, s292.2.1, s292.2.2))).trans ?_
    congr 3
    rw [List.append_assoc, List.take_add_one (i := q), hq]; rfl
  rw [List.take_length] at this
  show Option.bind (Option.bind (loopI f.Hops _ _ (A, B, cntR n (hopsOf (fs.take p)) i)) _) _ = _
  rw [this]
  rfl
/-! rules that never count -/
noncomputable def deadAt (n : T_Net) (hs : List T_Hop) (i j : Nat) : List T_Op := match (tabN n i)[j]? with
  | some r => if hs.countP (hit n i j) = 0 then [T_Op.mk ((i : Int) + 1) false r] else []
  | none => []
noncomputable def deadP (n : T_Net) (hs : List T_Hop) (i q : Nat) : List T_Op := (List.range q).flatMap (deadAt n hs i)
noncomputable def deadT (n : T_Net) (hs : List T_Hop) (p : Nat) : List T_Op := (List.range p).flatMap fun i => deadP n hs i (tabN n i).length
theorem flat_len {α : Type} {g : Nat → List α} {w : Nat} (hg : ∀ i, (g i).length ≤ w) : ∀ p, ((List.range p).flatMap g).length ≤ w * p
  | 0 => by simp
  | p + 1 => by
    have := flat_len hg p
    have := hg p
    rw [List.range_succ, List.flatMap_append, List.length_append, Nat.mul_add, List.flatMap_singleton]
    omega
theorem dead_at_len (n : T_Net) (hs : List T_Hop) (i j : Nat) : (deadAt n hs i j).length ≤ 1 := by
  unfold deadAt
  split
  · split <;> simp
  · simp
theorem dead_step {n : T_Net} (hs : List T_Hop) {i j : Nat} (hj : j < (tabN n i).length) (Z : List T_Op) (hZ : Z.length ≤ 1000) :
   (if (decide (((hs.countP (hit n i j) : Nat) : Int) = 0)) = true then (
   (idx (tabN n i) (j : Int)).bind fun r214 =>
   (app Z ([(T_Op.mk ((i : Int) + 1) false r214)] : (List T_Op))).bind fun r219 =>
   some r219) else some Z) = some (Z ++ deadAt n hs i j) := by
  have hr : (tabN n i)[j]? = some (tabN n i)[j] := List.getElem?_eq_getElem hj
  unfold deadAt
  rw [hr]
  simp only
  by_cases h : hs.countP (hit n i j) = 0
  · rw [if_pos (by simp [h]), if_pos h, idx_nat, hr, Option.bind_some, app_eq (by simp; omega), Option.bind_some]
  · rw [if_neg (by simp; simpa using h), if_neg h, List.append_nil]
theorem doc_dead {n : T_Net} (hn : netGood n) {i : Nat} (hi : i < n.Tables.length) (hs : List T_Hop) (A : List (List Int)) (B : List T_Op) (hB : B.length ≤ 900) :
   loopI (cntR n hs i) (fun (i192 : Int) x193 (s188 : ((List (List Int)) × (List T_Op))) k189 =>
   (if (decide (x193 = 0)) = true then (
   (idx (tabN n i) i192).bind fun r214 =>
   (app s188.2 ([(T_Op.mk ((i : Int) + 1) false r214)] : (List T_Op))).bind fun r219 =>
   some (s188.1, r219)) else (
   some (s188.1, s188.2))).bind fun (s204 : ((List (List Int)) × (List T_Op))) =>
   k189 (s204.1, s204.2)) (fun (s188 : ((List (List Int)) × (List T_Op))) =>
   some (s188.1, s188.2)) (A, B) = some (A, B ++ deadP n hs i (tabN n i).length) := by
  have hM : maxI = 9223372036854775807 := rfl
  have hti : tabN n i ∈ n.Tables := by unfold tabN; rw [List.getD, List.getElem?_eq_getElem hi]; exact List.getElem_mem hi
  have h12 := (hn.tabs _ hti).1
  have hcl : (cntR n hs i).length = (tabN n i).length := by simp [cntR]
  refine (loopI_at (S := fun q => (A, B ++ deadP n hs i q)) (by simp [deadP]) (by omega) fun q x k hq => ?_).trans (by rw [hcl])
  have hql := (List.getElem?_eq_some_iff.1 hq).1
  rw [hcl] at hql
  rw [cntR_at hql] at hq
  obtain rfl := Option.some.inj hq
  have hdl : (deadP n hs i q).length ≤ 1 * q := flat_len (dead_at_len n hs i) q
  have hst := dead_step hs hql (B ++ deadP n hs i q) (by simp; omega)
  have e : (if (decide (((hs.countP (hit n i q) : Nat) : Int) = 0)) = true then (
   (idx (tabN n i) (q : Int)).bind fun r214 =>
   (app (B ++ deadP n hs i q) ([(T_Op.mk ((i : Int) + 1) false r214)] : (List T_Op))).bind fun r219 =>
   some (A, r219)) else (some (A, B ++ deadP n hs i q))) = some (A, (B ++ deadP n hs i q) ++ deadAt n hs i q) := by
    have h2 := congrArg (fun o => Option.map (fun z => (A, z)) o) hst
    simp only [Option.map_some] at h2
    rw [← h2]
    split
    · simp only [Option.map_bind, Function.comp_def, Option.map_some]
    · rfl
  show Option.bind _ _ = _
  rw [e, Option.bind_some]
  congr 2
  show _ = B ++ deadP n hs i (q + 1)
  unfold deadP
  rw [List.range_succ, List.flatMap_append, List.append_assoc]
  simp
theorem s_UnusedV {n : T_Net} (hn : netGood n) (hc : t_net_Check n = some 0) : t_load_Unused n = some (deadT n (hopsOf (fatesV n)) n.Tables.length, 0) := by
  have hM : maxI = 9223372036854775807 := rfl
  have hln := hn.len
  have hsw := hn.topo.sw
  unfold t_load_Unused
  rw [hc, Option.bind_some, if_neg (by decide), s_countV hn, Option.bind_some]
  generalize hopsOf (fatesV n) = hs
  have hcl : (cntT n hs).length = n.Tables.length := by simp [cntT]
  have htl : ∀ i, ((tabN n i).length) ≤ 12 := fun i => by
    unfold tabN
    rw [List.getD]
    cases h : n.Tables[i]? with
    | none => simp
    | some t => exact (hn.tabs t (List.mem_of_getElem? h)).1
  have hdl : ∀ p, (deadT n hs p).length ≤ 12 * p := flat_len fun i => by
    have : (deadP n hs i (tabN n i).length).length ≤ 1 * (tabN n i).length := flat_len (dead_at_len n hs i) _
    have := htl i
    omega
  refine (congrArg (fun X => Option.bind X _) (loopI_at (S := deadT n hs) rfl (by omega) fun p c k hp => ?_)).trans (by rw [hcl]; rfl)
  have hpl := (List.getElem?_eq_some_iff.1 hp).1
  rw [hcl] at hpl
  have hci : c = cntR n hs p := by
    unfold cntT at hp
    rw [List.getElem?_map, List.getElem?_range hpl] at hp
    exact (Option.some.inj hp).symm
  subst hci
  have htab : idx n.Tables (p : Int) = some (tabN n p) := by rw [idx_nat]; unfold tabN; rw [List.getD, List.getElem?_eq_getElem hpl]; rfl
  have hdp := hdl p
  have hrl : (cntR n hs p).length = (tabN n p).length := by simp [cntR]
  have h12 := htl p
  have hB : (deadT n hs p).length ≤ 900 := by omega
  have enext : deadT n hs (p + 1) = deadT n hs p ++ deadP n hs p (tabN n p).length := by
    unfold deadT
    rw [List.range_succ, List.flatMap_append]; simp
  rw [enext]
  generalize deadT n hs p = B at hB
  simp only [htab, Option.bind_some]
  have := loopI_at (l := cntR n hs p) (s := B) (step := fun (i48 : Int) x49 (s44 : (List T_Op)) k45 =>
    (if (decide (x49 = 0)) = true then (
    (idx (tabN n p) i48).bind fun r70 =>
    (app s44 ([(T_Op.mk ((p : Int) + 1) false r70)] : (List T_Op))).bind fun r75 =>
    some (r75)) else (
    some (s44))).bind fun (s59 : (List T_Op)) =>
    k45 (s59)) (fin := fun s44 => some s44) (fun q => B ++ deadP n hs p q) (by simp [deadP]) (by omega) fun q x k hq => by
    have hql := (List.getElem?_eq_some_iff.1 hq).1
    rw [hrl] at hql
    rw [cntR_at hql] at hq
    obtain rfl := Option.some.inj hq
    have hdl2 : (deadP n hs p q).length ≤ 1 * q := flat_len (dead_at_len n hs p) q
    have hst := dead_step hs hql (B ++ deadP n hs p q) (by simp; omega)
    show Option.bind _ _ = _
    rw [hst, Option.bind_some]
    congr 1
    show _ = B ++ deadP n hs p (q + 1)
    unfold deadP
    rw [List.range_succ, List.flatMap_append, List.append_assoc]
    simp
  rw [this, hrl]
  rfl
/-! lists alike -/
theorem eqLoopR {α : Type} [DecidableEq α] {β : Type} {step : Int → α → Unit → (Unit → Option β) → Option β} {fin : Unit → Option β} (b : List α) (hs : ∀ (i : Nat) x k, b[i]? = some x → step (i : Int) x () k = k ()) (hl : (b.length : Int) ≤ maxI) : loopI b step fin () = fin () :=
  loopI_at (S := fun _ => ()) rfl hl fun p x k hp => hs p x k hp
theorem s_IntsR (a : List Int) (ha : (a.length : Int) ≤ maxI) : t_railsame_Ints a a = some true := by
  unfold t_railsame_Ints
  rw [if_neg (by simp), join_eq]
  exact eqLoopR a (fun i x k hx => by rw [idx_nat, hx, Option.bind_some, if_neg (by simp)]) ha
theorem s_ListsR (a : List (List Int)) (ha : (a.length : Int) ≤ maxI) (hc : ∀ c ∈ a, (c.length : Int) ≤ maxI) : t_railsame_Lists a a = some true := by
  unfold t_railsame_Lists
  rw [if_neg (by simp), join_eq]
  exact eqLoopR a (fun i x k hx => by rw [idx_nat, hx, Option.bind_some, s_IntsR x (hc x (List.mem_of_getElem? hx)), Option.bind_some, if_neg (by simp)]) ha
theorem s_OpsR (a : List T_Op) (ha : (a.length : Int) ≤ maxI) : t_railsame_Ops a a = some true := by
  unfold t_railsame_Ops
  rw [if_neg (by simp), join_eq]
  exact eqLoopR a (fun i x k hx => by rw [idx_nat, hx, Option.bind_some, if_neg (by simp)]) ha
theorem fates_sent {n : T_Net} (hn : netGood n) (hc : t_net_Check n = some 0) : ∀ f ∈ fatesV n, Sent n f := by
  intro f hf
  obtain ⟨x, hx, hf⟩ := List.mem_flatMap.1 hf
  obtain ⟨j, hj, hf⟩ := List.mem_map.1 hf
  have hj := List.mem_range.1 hj
  have hh : 0 ≤ (j : Int) ∧ (j : Int) < 16 := ⟨by omega, by omega⟩
  obtain ⟨h1, _⟩ := good_fateV hn hx hh
  rw [hf] at h1
  obtain ⟨f', q, z, m, e1, e2, e3⟩ := run_ex hn 23 [] ⟨x.At, (j : Int)⟩ bigN rfl (Nat.lt_trans (by decide) bigN_gt) ⟨fun i a b _ hb => by simp at hb, by simp, fun y hy => by simp at hy; subst hy; exact ⟨(hn.topo.hosts x hx).2, hh⟩, by simp⟩
  have : some f = some f' := h1.symm.trans ((s_Of n x.At (j : Int)).trans e1)
  obtain rfl := Option.some.inj this
  exact fin_sent hn hc e2
theorem walk_LoadTells (a0 : T_Net) (u0 : a0.wf maxLen) : t_raillaw3_LoadTells a0 = some true := by
  have hM : maxI = 9223372036854775807 := rfl
  have hnm : ∀ h ∈ a0.Topo.Hosts, (h.Name.size : Int) ≤ maxI := fun h hh => by
    have h1 : h.Name.size ≤ maxLen := (u0.1.2.2.2 h hh).1
    unfold maxLen at h1
    omega
  obtain ⟨c, e1, e2⟩ := s_netCheck a0 hnm
  unfold t_raillaw3_LoadTells
  rw [s_rNet a0 hnm, e1]
  simp only [Option.bind_some, s_Error]
  by_cases hc : c = 0
  rotate_left
  · rw [if_neg (by simpa using hc)]
    unfold t_load_Links t_load_Rules t_load_Unused t_load_Pairs
    simp only [e1, Option.bind_some, hc, decide_false, Bool.not_false, if_true]
    rw [s_IntsR [] (by simp), s_ListsR [] (by simp) (by simp), s_OpsR [] (by simp)]
    simp
  subst hc
  have hn := e2 rfl
  have hnh := hn.topo.nh
  have hnl := hn.topo.nl
  have hsw := hn.topo.sw
  have hln := hn.len
  have hlen := fatesV_len a0
  have hg := fatesV_good hn
  have hS := link_spots hnm hn.chk
  have hov : ∀ f ∈ fatesV a0, f.Hops.length ≤ 24 ∧ 1 ≤ f.Hops.length ∧ ∀ y ∈ f.Hops.drop 1, ∃ x ∈ a0.Topo.Links, x.A = y.At ∨ x.B = y.At := fun f hf => by
    have hs := fates_sent hn e1 f hf
    exact ⟨hs.len.2, hs.len.1, hs.over⟩
  have hL1 := s_LinksV hnl (fatesV a0) (by omega) fun f hf => ⟨(hov f hf).1, (hov f hf).2.1⟩
  have hL2 := s_CountV hnl hS (fatesV a0) (by omega) hov
  have hl1 : t_load_Links a0 = some (cntL a0.Topo (oversOf (fatesV a0)), 0) := by
    unfold t_load_Links
    rw [e1, Option.bind_some, if_neg (by decide), s_fates hn, Option.bind_some, hL2, Option.bind_some]
  have hl2 : t_load_Rules a0 = some (cntT a0 (hopsOf (fatesV a0)), 0) := by
    unfold t_load_Rules
    rw [e1, Option.bind_some, if_neg (by decide), s_countV hn, Option.bind_some]
  have htl : ∀ i, ((tabN a0 i).length) ≤ 12 := fun i => by
    unfold tabN
    rw [List.getD]
    cases h : a0.Tables[i]? with
    | none => simp
    | some t => exact (hn.tabs t (List.mem_of_getElem? h)).1
  have hdl : ∀ p, (deadT a0 (hopsOf (fatesV a0)) p).length ≤ 12 * p := flat_len fun i => by
    have : (deadP a0 (hopsOf (fatesV a0)) i (tabN a0 i).length).length ≤ 1 * (tabN a0 i).length := flat_len (dead_at_len a0 _ i) _
    have := htl i
    omega
  rw [if_pos (by decide)]
  rw [s_rAll hn e1]
  simp only [Option.bind_some]
  rw [hL1]
  simp only [Option.bind_some]
  rw [zeros_hh hnh]
  simp only [Option.bind_some]
  -- the tables
  rw [loopI_at (l := a0.Tables) (s := (([], []) : (List (List Int)) × (List T_Op))) (S := fun p => ((List.range p).map (cntR a0 (hopsOf (fatesV a0))), deadT a0 (hopsOf (fatesV a0)) p)) (h0 := rfl) (hl := by omega) (h := fun p x k hp => by
    have hpl := (List.getElem?_eq_some_iff.1 hp).1
    have hx : x = tabN a0 p := by unfold tabN; rw [List.getD, hp]; rfl
    subst hx
    have h12 := htl p
    have ho : omake (List.length (tabN a0 p) : Int) (List.length (tabN a0 p) : Int) 0 = some (List.replicate (tabN a0 p).length (0 : Int)) := by
      unfold omake
      rw [if_pos ⟨rfl, by omega, by omega⟩, Int.toNat_natCast]
    have hdp := hdl p
    rw [ho]
    simp only [Option.bind_some]
    rw [doc_counts hn e1 hpl (fatesV a0) (by omega) hg]
    simp only [Option.bind_some]
    rw [app_eq (by simp; omega)]
    simp only [Option.bind_some]
    rw [doc_dead hn hpl _ _ _ (by omega)]
    simp only [Option.bind_some]
    congr 2
    · rw [List.range_succ, List.map_append]; rfl
    · unfold deadT
      rw [List.range_succ, List.flatMap_append]; simp)]
  simp only [Option.bind_some]
  rw [doc_pairs hn]
  simp only [Option.bind_some]
  rw [hl1, hl2, s_UnusedV hn e1, s_PairsV hn e1]
  simp only [Option.bind_some]
  have hpi := pairs_inv (T := a0.Topo) hlen (fatesV a0).length (Nat.le_refl _)
  have hmul : a0.Topo.Hosts.length * a0.Topo.Hosts.length ≤ 64 := Nat.mul_le_mul hnh hnh
  have hpl := hpi.len
  rw [s_IntsR _ (by rw [cntL_len]; omega), show ((List.range a0.Tables.length).map (cntR a0 (hopsOf (fatesV a0)))) = cntT a0 (hopsOf (fatesV a0)) from rfl, s_ListsR _ (by simp [cntT]; omega) (fun c hcm => by
    obtain ⟨i, hi, rfl⟩ := List.mem_map.1 hcm
    have := htl i
    simp [cntR]; omega), s_OpsR _ (by have := hdl a0.Tables.length; omega), s_IntsR _ (by omega)]
  simp
end Go.Proofs.YtjflahgnjmdikaaDoor.Ty
