/- ClassHolds, as it is read: no memory in sight. -/
import Derived.Test.YtbcbdechaihflaaSBase
import Derived.Test.YtbcbdechaihflaaTyA
import Derived.Test.YtbcbdechaihflaaVcS
import Derived.Test.YtbcbdechaihflaaTyM
import Derived.Test.YtbcbdechaihflaaTyN
namespace Go.Proofs.Ytbcbdechaihflaa.Ty
open Go Go.RowKit Go.Proofs.Ytbcbdechaihflaa.Den
set_option linter.unusedSimpArgs false
set_option linter.unusedVariables false
set_option maxRecDepth 100000

section
variable {α β σ : Type}
/-- a loop comes to something that has Q -/
theorem goI_ex {step : Int → α → σ → (σ → Option β) → Option β} {fin : σ → Option β} {I : Int → List α → σ → Prop} {Q : β → Prop} (hfin : ∀ i s, I i [] s → ∃ v, fin s = some v ∧ Q v)
    (hstep : ∀ i x l s k, I i (x :: l) s → (∀ s', I (i + 1) l s' → ∃ v, k s' = some v ∧ Q v) → ∃ v, step i x s k = some v ∧ Q v) : ∀ (l : List α) (i : Int) (s : σ), I i l s → ∃ v, goI step fin i l s = some v ∧ Q v
  | [], i, s, h => hfin i s h
  | x :: l, i, s, h => hstep i x l s _ h fun s' h' => goI_ex hfin hstep l (i + 1) s' h'
theorem loopI_ex {step : Int → α → σ → (σ → Option β) → Option β} {fin : σ → Option β} (I : Int → List α → σ → Prop) {Q : β → Prop} {l : List α} {s : σ} (hl : (l.length : Int) ≤ 9223372036854775807) (h0 : I 0 l s) (hfin : ∀ i s, I i [] s → ∃ v, fin s = some v ∧ Q v)
    (hstep : ∀ i x l s k, I i (x :: l) s → (∀ s', I (i + 1) l s' → ∃ v, k s' = some v ∧ Q v) → ∃ v, step i x s k = some v ∧ Q v) : ∃ v, loopI l step fin s = some v ∧ Q v := by
  rw [loopI_eq hl]; exact goI_ex hfin hstep l 0 s h0
theorem goU_ex {step : Int → σ → (σ → Option β) → Option β} {fin : Int → σ → Option β} {I : Nat → Int → σ → Prop} {Q : β → Prop} (hfin : ∀ i s, I 0 i s → ∃ v, fin i s = some v ∧ Q v)
    (hstep : ∀ m i s k, I (m + 1) i s → (∀ s', I m (i + 1) s' → ∃ v, k s' = some v ∧ Q v) → ∃ v, step i s k = some v ∧ Q v) : ∀ (m : Nat) (i : Int) (s : σ), I m i s → ∃ v, goU step fin m i s = some v ∧ Q v
  | 0, i, s, h => hfin i s h
  | m + 1, i, s, h => hstep m i s _ h fun s' h' => goU_ex hfin hstep m (i + 1) s' h'
end

def spotOk (T : T_Topo) (s : T_Spot) : Prop := 1 ≤ s.Switch ∧ s.Switch ≤ T.Switches ∧ 1 ≤ s.Port ∧ s.Port ≤ 4
structure topoGood (T : T_Topo) : Prop where
  sw : 1 ≤ T.Switches ∧ T.Switches ≤ 6
  nl : T.Links.length ≤ 200
  nh : T.Hosts.length ≤ 8
  links : ∀ l ∈ T.Links, spotOk T l.A ∧ spotOk T l.B
  hosts : ∀ h ∈ T.Hosts, h.Name ≠ ByteArray.mk #[] ∧ spotOk T h.At
theorem s_Spot (T : T_Topo) (s : T_Spot) : ∃ b, t_topo_Spot T s = some b ∧ (b = true ↔ spotOk T s) :=
  ⟨_, rfl, by simp [spotOk, and_assoc]⟩
theorem s_Name (s : ByteArray) (hs : (s.size : Int) ≤ maxI) : ∃ b, t_topo_Name s = some b ∧ (b = true → s ≠ ByteArray.mk #[]) := by
  unfold t_topo_Name
  rw [need_pos (by simpa using hs), join_eq]
  refine loopI_ex (fun _ _ _ => True) (by rw [numsOf_len]; exact hs) trivial (fun i s' _ => ⟨_, rfl, fun h => ?_⟩) (fun i x l s' k _ hk => ?_)
  · simp only [Bool.and_eq_true, Bool.not_eq_true', decide_eq_false_iff_not] at h
    exact h.1
  · split
    · exact ⟨false, rfl, fun h => by cases h⟩
    · exact hk () trivial
theorem s_topoCheck (T : T_Topo) (hn : ∀ h ∈ T.Hosts, (h.Name.size : Int) ≤ maxI) : ∃ c, t_topo_Check T = some c ∧ (c = 0 → topoGood T) := by
  unfold t_topo_Check
  split
  · exact ⟨1, rfl, fun h => by cases h⟩
  · rename_i h1
    simp only [Bool.or_eq_true, decide_eq_true_eq, not_or, Int.not_lt] at h1
    split
    · exact ⟨4, rfl, fun h => by cases h⟩
    · rename_i h2
      simp only [Bool.or_eq_true, decide_eq_true_eq, not_or, Int.not_lt] at h2
      simp only [join_eq]
      refine loopI_ex (fun _ l _ => ∀ x ∈ T.Links, x ∈ l ∨ (spotOk T x.A ∧ spotOk T x.B)) (by omega) (fun x hx => .inl hx) (fun i s hI => ?_) (fun i x l s k hI hk => ?_)
      · refine loopI_ex (fun _ l _ => (∀ x ∈ l, x ∈ T.Hosts) ∧ ∀ x ∈ T.Hosts, x ∈ l ∨ (x.Name ≠ ByteArray.mk #[] ∧ spotOk T x.At)) (by omega) ⟨fun _ h => h, fun x hx => .inl hx⟩ (fun i s hJ => ?_) (fun i x l s k hJ hk => ?_)
        · refine ⟨0, rfl, fun _ => ⟨h1, by omega, by omega, fun l hl => (hI l hl).resolve_left (by simp), fun h hh => (hJ.2 h hh).resolve_left (by simp)⟩⟩
        · have hx := hJ.1 x (by simp)
          obtain ⟨b, e1, e2⟩ := s_Name x.Name (hn x hx)
          rw [e1]
          simp only [Option.bind_some]
          split
          · exact ⟨2, rfl, fun h => by cases h⟩
          · rename_i hb
            obtain ⟨b2, f1, f2⟩ := s_Spot T x.At
            rw [f1]
            simp only [Option.bind_some]
            split
            · exact ⟨1, rfl, fun h => by cases h⟩
            · rename_i hb2
              split
              · exact ⟨7, rfl, fun h => by cases h⟩
              · refine hk _ ⟨fun y hy => hJ.1 y (by simp [hy]), fun y hy => ?_⟩
                rcases hJ.2 y hy with h | h
                · rcases List.mem_cons.1 h with rfl | h
                  · exact .inr ⟨e2 (by simpa using hb), f2.1 (by simpa using hb2)⟩
                  · exact .inl h
                · exact .inr h
      · obtain ⟨b, e1, e2⟩ := s_Spot T x.A
        obtain ⟨b2, f1, f2⟩ := s_Spot T x.B
        rw [e1, f1]
        simp only [Option.bind_some]
        cases hb1 : b with
        | false => exact ⟨1, by simp [gd], fun h => by cases h⟩
        | true =>
          cases hb2 : b2 with
          | false => exact ⟨1, by simp [gd], fun h => by cases h⟩
          | true =>
            simp only [gd, Bool.not_true, Bool.not_false, if_true, Option.bind_some, Bool.or_self, Bool.false_eq_true, if_false]
            split
            · exact ⟨7, rfl, fun h => by cases h⟩
            · refine hk _ fun y hy => ?_
              rcases hI y hy with h | h
              · rcases List.mem_cons.1 h with rfl | h
                · exact .inr ⟨e2.1 hb1, f2.1 hb2⟩
                · exact .inl h
              · exact .inr h

theorem idx_some {α : Type} {l : List α} {i : Int} (h0 : 0 ≤ i) (h1 : i < l.length) : ∃ x, idx l i = some x ∧ x ∈ l ∧ l[i.toNat]? = some x := by
  have : i.toNat < l.length := by omega
  exact ⟨l[i.toNat], by simp [idx, h0, List.getElem?_eq_getElem this], List.getElem_mem this, List.getElem?_eq_getElem this⟩

def ruleGood (r : T_Rule) : Prop := (0 ≤ r.Out ∧ r.Out ≤ 4) ∧ (0 ≤ r.Set ∧ r.Set < 16) ∧ 0 ≤ r.Value ∧ r.Value < 16
def tblGood (t : List T_Rule) : Prop := t.length ≤ 12 ∧ ∀ r ∈ t, ruleGood r
structure netGood (n : T_Net) : Prop where
  topo : topoGood n.Topo
  chk : t_topo_Check n.Topo = some 0
  len : (n.Tables.length : Int) = n.Topo.Switches
  tabs : ∀ t ∈ n.Tables, tblGood t
theorem s_Header (h : Int) : ∃ b, t_cube_Header h = some b ∧ (b = true ↔ 0 ≤ h ∧ h < 16) := ⟨_, rfl, by simp⟩
theorem s_ruleCheck (r : T_Rule) : ∃ c, t_rule_Check r = some c ∧ (c = 0 → ruleGood r) := by
  unfold t_rule_Check
  obtain ⟨b1, e1, f1⟩ := s_Header r.Set
  obtain ⟨b2, e2, f2⟩ := s_Header r.Value
  rw [e1, e2]
  obtain ⟨c, hc⟩ : ∃ c, t_cube_Check r.Cube = some c := by
    unfold t_cube_Check
    obtain ⟨b3, e3, _⟩ := s_Header r.Cube.Mask
    obtain ⟨b4, e4, _⟩ := s_Header r.Cube.Bits
    rw [e3, e4]
    cases b3 <;> cases b4 <;> simp only [gd, Bool.not_true, Bool.not_false, if_true, Bool.or_self, Bool.true_or, Bool.or_true, Bool.false_eq_true, if_false, Option.bind_some] <;> first | exact ⟨_, rfl⟩ | (split <;> exact ⟨_, rfl⟩)
  rw [hc]
  cases hA : (((decide (r.Prio < 0) || decide (99 < r.Prio)) || decide (r.Out < 0)) || decide (4 < r.Out)) with
  | true => exact ⟨1, by simp [gd], fun h => by cases h⟩
  | false =>
    cases hb1 : b1 with
    | false => exact ⟨1, by simp [gd], fun h => by cases h⟩
    | true =>
      cases hb2 : b2 with
      | false => exact ⟨1, by simp [gd], fun h => by cases h⟩
      | true =>
        simp only [Bool.or_eq_false_iff, decide_eq_false_iff_not, Int.not_lt] at hA
        have hg : ruleGood r := ⟨⟨hA.1.2, hA.2⟩, f1.1 hb1, f2.1 hb2⟩
        simp only [gd, Bool.not_false, Bool.not_true, if_true, Option.bind_some, Bool.or_self, Bool.false_eq_true, if_false]
        split
        · exact ⟨_, rfl, fun _ => hg⟩
        · split <;> exact ⟨_, rfl, fun _ => hg⟩
theorem s_ruleTable (t : List T_Rule) : ∃ c, t_rule_Table t = some c ∧ (c = 0 → tblGood t) := by
  unfold t_rule_Table
  split
  · exact ⟨4, rfl, fun h => by cases h⟩
  · rename_i h1
    simp only [decide_eq_true_eq, Int.not_lt] at h1
    simp only [join_eq]
    refine loopI_ex (fun i l _ => 0 ≤ i ∧ i + l.length = t.length ∧ ∀ x ∈ t, x ∈ l ∨ ruleGood x) (by omega) ⟨Int.le_refl _, by omega, fun x hx => .inl hx⟩ (fun i s hI => ⟨0, rfl, fun _ => ⟨by omega, fun r hr => (hI.2.2 r hr).resolve_left (by simp)⟩⟩) (fun i x l s k hI hk => ?_)
    obtain ⟨c, e1, e2⟩ := s_ruleCheck x
    rw [e1]
    simp only [Option.bind_some]
    split
    · rename_i hc
      refine ⟨c, rfl, fun h => ?_⟩
      simp [h] at hc
    · rename_i hc
      obtain ⟨i0, il, ia⟩ := hI
      have hs : slc_hi t i = some (t.take i.toNat) := if_pos ⟨i0, by simp at il; omega⟩
      rw [hs]
      simp only [Option.bind_some]
      have hfn : ∀ (l : List T_Rule), l.length ≤ 12 → ∃ j, t_slices_IndexFunc_api_Table_api_Rule l (fun a33 => t_rule_Table_1 a33 x) = some j ∧ True := fun l hl => by
        unfold t_slices_IndexFunc_api_Table_api_Rule
        simp only [join_eq]
        refine loopI_ex (fun _ _ _ => True) (by omega) trivial (fun _ _ _ => ⟨_, rfl, trivial⟩) (fun i y l s k _ hk => ?_)
        simp only [t_rule_Table_1, t_rule_Key, Option.bind_some]
        split
        · exact ⟨_, rfl, trivial⟩
        · exact hk () trivial
      obtain ⟨j, hj, _⟩ := hfn (t.take i.toNat) (by simp; omega)
      unfold t_slices_ContainsFunc_api_Table_api_Rule
      rw [hj]
      simp only [Option.bind_some]
      split
      · exact ⟨7, rfl, fun h => by cases h⟩
      · refine hk () ⟨by omega, by simp at il; omega, fun y hy => ?_⟩
        rcases ia y hy with h | h
        · rcases List.mem_cons.1 h with rfl | h
          · exact .inr (e2 (by simpa using hc))
          · exact .inl h
        · exact .inr h
theorem s_netCheck (n : T_Net) (hn : ∀ h ∈ n.Topo.Hosts, (h.Name.size : Int) ≤ maxI) : ∃ c, t_net_Check n = some c ∧ (c = 0 → netGood n) := by
  unfold t_net_Check
  obtain ⟨c, e1, e2⟩ := s_topoCheck n.Topo hn
  rw [e1]
  simp only [Option.bind_some]
  split
  · rename_i hc
    refine ⟨c, rfl, fun h => ?_⟩
    simp [h] at hc
  · rename_i hc
    have hc : c = 0 := by simpa using hc
    subst hc
    have hg := e2 rfl
    split
    · exact ⟨3, rfl, fun h => by cases h⟩
    · rename_i hl
      have hl : (n.Tables.length : Int) = n.Topo.Switches := by simpa using hl
      simp only [join_eq]
      have := hg.sw
      refine loopI_ex (fun _ l _ => ∀ x ∈ n.Tables, x ∈ l ∨ tblGood x) (by omega) (fun x hx => .inl hx) (fun i s hI => ⟨0, rfl, fun _ => ⟨hg, e1, hl, fun t ht => (hI t ht).resolve_left (by simp)⟩⟩) (fun i x l s k hI hk => ?_)
      obtain ⟨c, f1, f2⟩ := s_ruleTable x
      rw [f1]
      simp only [Option.bind_some]
      split
      · rename_i hc
        refine ⟨c, rfl, fun h => ?_⟩
        simp [h] at hc
      · rename_i hc
        refine hk () fun y hy => ?_
        rcases hI y hy with h | h
        · rcases List.mem_cons.1 h with rfl | h
          · exact .inr (f2 (by simpa using hc))
          · exact .inl h
        · exact .inr h

section
variable {α β σ : Type}
/-- what each end of a loop has -/
theorem goI_post {step : Int → α → σ → (σ → Option β) → Option β} {fin : σ → Option β} {Q : β → Prop} (hfin : ∀ s v, fin s = some v → Q v)
    (hstep : ∀ i x s k, (∀ s' v, k s' = some v → Q v) → ∀ v, step i x s k = some v → Q v) : ∀ (l : List α) (i : Int) (s : σ) (v : β), goI step fin i l s = some v → Q v
  | [], i, s, v, h => hfin s v h
  | x :: l, i, s, v, h => hstep i x s _ (fun s' v' h' => goI_post hfin hstep l (i + 1) s' v' h') v h
theorem loopI_post {step : Int → α → σ → (σ → Option β) → Option β} {fin : σ → Option β} (Q : β → Prop) {l : List α} {s : σ} {v : β} (h : loopI l step fin s = some v) (hfin : ∀ s v, fin s = some v → Q v)
    (hstep : ∀ i x s k, (∀ s' v, k s' = some v → Q v) → ∀ v, step i x s k = some v → Q v) : Q v := by
  unfold loopI at h
  rw [need_some] at h
  exact goI_post hfin hstep l 0 s v h.2
end
section
variable {α β σ τ : Type}
/-- two loops that go alike -/
theorem goI_sim {step : Int → α → σ → (σ → Option β) → Option β} {step' : Int → α → τ → (τ → Option β) → Option β} {fin : σ → Option β} {fin' : τ → Option β} (I : Int → List α → σ → τ → Prop) (hfin : ∀ i s t, I i [] s t → fin s = fin' t)
    (hstep : ∀ i x l s t k k', I i (x :: l) s t → (∀ s' t', I (i + 1) l s' t' → k s' = k' t') → step i x s k = step' i x t k') : ∀ (l : List α) (i : Int) (s : σ) (t : τ), I i l s t → goI step fin i l s = goI step' fin' i l t
  | [], i, s, t, h => hfin i s t h
  | x :: l, i, s, t, h => hstep i x l s t _ _ h fun s' t' h' => goI_sim I hfin hstep l (i + 1) s' t' h'
theorem loopI_sim {step : Int → α → σ → (σ → Option β) → Option β} {step' : Int → α → τ → (τ → Option β) → Option β} {fin : σ → Option β} {fin' : τ → Option β} (I : Int → List α → σ → τ → Prop) {l : List α} {s : σ} {t : τ} (h0 : I 0 l s t) (hfin : ∀ i s t, I i [] s t → fin s = fin' t)
    (hstep : ∀ i x l s t k k', I i (x :: l) s t → (∀ s' t', I (i + 1) l s' t' → k s' = k' t') → step i x s k = step' i x t k') : loopI l step fin s = loopI l step' fin' t := by
  unfold loopI; rw [goI_sim I hfin hstep l 0 s t h0]
theorem loopI_any {step : Int → α → Unit → (Unit → Option β) → Option β} {f : Option β} (p : α → Bool) {r : β} {l : List α} (hl : (l.length : Int) ≤ maxI) (h : ∀ x i k, step i x () k = if p x = true then some r else k ()) : loopI l step (fun _ => f) () = if l.any p = true then some r else f := by
  rw [loopI_eq hl, goI_any (p := p) (r := r) l 0 fun x _ i k => h x i k]
theorem goU_any {l : List α} {p : α → Bool} {r : β} {step : Int → Unit → (Unit → Option β) → Option β} {f : Option β} (h : ∀ (j : Nat) x k, l[j]? = some x → step (j : Int) () k = if p x = true then some r else k ()) : ∀ (m i : Nat), i + m ≤ l.length → goU step (fun _ _ => f) m (i : Int) () = if ((l.drop i).take m).any p = true then some r else f
  | 0, i, _ => by simp [goU]
  | m + 1, i, hm => by
    have hi : i < l.length := by omega
    rw [goU, h i l[i] _ (List.getElem?_eq_getElem hi), List.drop_eq_getElem_cons hi, List.take_succ_cons, List.any_cons]
    have e : (i : Int) + 1 = ((i + 1 : Nat) : Int) := by omega
    rw [e, goU_any h m (i + 1) (by omega)]
    cases p l[i] <;> simp
theorem loopU_any {l : List α} (p : α → Bool) {r : β} {step : Int → Unit → (Unit → Option β) → Option β} {f : Option β} {i : Int} (h0 : 0 ≤ i) (h1 : i ≤ l.length) (h2 : i ≤ maxI) (h : ∀ (j : Nat) x k, l[j]? = some x → step (j : Int) () k = if p x = true then some r else k ()) : loopU 0 i step (fun _ _ => f) () = if (l.take i.toNat).any p = true then some r else f := by
  rw [loopU_eq (Int.le_refl 0) h2, Int.sub_zero]
  have := goU_any (f := f) h i.toNat 0 (by omega)
  simpa using this
end
section
variable {K α : Type} [DecidableEq K]
theorem mfind_off : ∀ (l : List (K × α)) (a : K) (i : Nat), mfind l a i = (mfind l a 0).map fun p => (p.1 + i, p.2)
  | [], _, _ => rfl
  | (b, u) :: r, a, i => by
    simp only [mfind]
    split
    · simp
    · rw [mfind_off r a (i + 1), mfind_off r a (0 + 1)]
      cases mfind r a 0 with
      | none => rfl
      | some p => simp; omega
theorem mget_cons (b : K) (u : α) (r : List (K × α)) (a : K) (d : α) : mget ((b, u) :: r) a d = if a = b then u else mget r a d := by
  unfold mget
  simp only [mfind]
  by_cases h : a = b
  · simp [h]
  · rw [if_neg h, if_neg h, mfind_off r a (0 + 1)]
    cases mfind r a 0 <;> rfl
theorem mput_cons (b : K) (u : α) (r : List (K × α)) (a : K) (v : α) : mput ((b, u) :: r) a v = if a = b then (a, v) :: r else (b, u) :: mput r a v := by
  unfold mput
  simp only [mfind]
  by_cases h : a = b
  · simp [h]
  · rw [if_neg h, if_neg h, mfind_off r a (0 + 1)]
    cases mfind r a 0 <;> simp
theorem mget_mput : ∀ (l : List (K × α)) (a : K) (v : α) (b : K) (d : α), mget (mput l a v) b d = if b = a then v else mget l b d
  | [], a, v, b, d => by
    show mget ([(a, v)]) b d = _
    rw [mget_cons]
  | (c, u) :: r, a, v, b, d => by
    rw [mput_cons]
    by_cases h : a = c
    · subst h
      rw [if_pos rfl, mget_cons, mget_cons]
      split <;> rfl
    · rw [if_neg h, mget_cons, mget_cons, mget_mput r a v b d]
      by_cases h2 : b = c
      · subst h2
        rw [if_pos rfl, if_neg (fun e => h e.symm), if_pos rfl]
      · rw [if_neg h2, if_neg h2]
omit [DecidableEq K] in
theorem any_two (p q : K → Bool) : ∀ l : List K, (l.any fun y => p y || q y) = (l.any p || l.any q)
  | [] => rfl
  | x :: l => by
    rw [List.any_cons, List.any_cons, List.any_cons, any_two p q l]
    cases p x <;> cases q x <;> cases l.any p <;> rfl
theorem any_is (l : List K) (a : K) : (l.any fun y => decide (y = a)) = decide (a ∈ l) := by
  rw [Bool.eq_iff_iff]
  simp
end


section
variable {α β γ σ : Type}
theorem goI_map {step : Int → α → List γ → (List γ → Option β) → Option β} {fin : List γ → Option β} {f : α → γ} {B : Nat} : ∀ (l : List α) (i : Int) (s : List γ), s.length + l.length ≤ B → (∀ x ∈ l, ∀ i s k, s.length + 1 ≤ B → step i x s k = k (s ++ [f x])) → goI step fin i l s = fin (s ++ l.map f)
  | [], i, s, _, _ => by simp [goI]
  | x :: l, i, s, hb, h => by
    simp only [List.length_cons] at hb
    rw [goI, h x (by simp) i s _ (by omega), goI_map l (i + 1) (s ++ [f x]) (by simp; omega) fun y hy => h y (by simp [hy])]
    simp
theorem goU_seq {step : Int → σ → (σ → Option β) → Option β} {fin : Int → σ → Option β} (f : Nat → σ) {n : Nat} (h : ∀ (j : Nat) k, j < n → step (j : Int) (f j) k = k (f (j + 1))) : ∀ (m j : Nat), j + m ≤ n → goU step fin m (j : Int) (f j) = fin ((j + m : Nat) : Int) (f (j + m))
  | 0, j, _ => by simp [goU]
  | m + 1, j, hm => by
    rw [goU, h j _ (by omega)]
    have e : (j : Int) + 1 = ((j + 1 : Nat) : Int) := by omega
    rw [e, goU_seq f h m (j + 1) (by omega)]
    have e2 : j + 1 + m = j + (m + 1) := by omega
    rw [e2]
theorem goU_fold {step : Int → σ → (σ → Option β) → Option β} {fin : Int → σ → Option β} {l : List α} {f : σ → α → σ} (h : ∀ (j : Nat) x s k, l[j]? = some x → step (j : Int) s k = k (f s x)) : ∀ (m i : Nat) (s : σ), i + m = l.length → goU step fin m (i : Int) s = fin ((i + m : Nat) : Int) ((l.drop i).foldl f s)
  | 0, i, s, hm => by rw [List.drop_eq_nil_of_le (by omega)]; simp [goU]
  | m + 1, i, s, hm => by
    have hi : i < l.length := by omega
    rw [goU, h i l[i] s _ (List.getElem?_eq_getElem hi), List.drop_eq_getElem_cons hi, List.foldl_cons]
    have e : (i : Int) + 1 = ((i + 1 : Nat) : Int) := by omega
    rw [e, goU_fold h m (i + 1) _ (by omega)]
    have e2 : i + 1 + m = i + (m + 1) := by omega
    rw [e2]
/-- the first that has p, counted from i on -/
def fx (p : α → Bool) : List α → Nat → Int
  | [], _ => -1
  | x :: l, i => if p x = true then (i : Int) else fx p l (i + 1)
theorem fx_map (p : γ → Bool) (f : α → γ) : ∀ (l : List α) (i : Nat), fx p (l.map f) i = fx (fun x => p (f x)) l i
  | [], _ => rfl
  | x :: l, i => by simp only [List.map_cons, fx, fx_map p f l]
theorem fx_cong {p q : α → Bool} : ∀ {l : List α} {i : Nat}, (∀ x ∈ l, p x = q x) → fx p l i = fx q l i
  | [], _, _ => rfl
  | x :: l, i, h => by simp only [fx, h x (by simp), fx_cong (l := l) fun y hy => h y (by simp [hy])]
theorem fx_at {p : α → Bool} : ∀ {l : List α} {i : Nat}, (fx p l i < 0 ∧ ∀ x ∈ l, p x = false) ∨ ∃ j x, fx p l i = ((i + j : Nat) : Int) ∧ l[j]? = some x ∧ p x = true ∧ ∀ k y, k < j → l[k]? = some y → p y = false
  | [], i => .inl ⟨by simp [fx], by simp⟩
  | x :: l, i => by
    by_cases h : p x = true
    · refine .inr ⟨0, x, by simp [fx, h], by simp, h, fun k y hk => by omega⟩
    · have h' : p x = false := by simpa using h
      rcases fx_at (p := p) (l := l) (i := i + 1) with ⟨h1, h2⟩ | ⟨j, y, h1, h2, h3, h4⟩
      · refine .inl ⟨by simp [fx, h', h1], fun y hy => ?_⟩
        rcases List.mem_cons.1 hy with rfl | hy
        · exact h'
        · exact h2 y hy
      · refine .inr ⟨j + 1, y, by simp only [fx, h', Bool.false_eq_true, if_false, h1]; congr 1; omega, by simpa using h2, h3, fun k z hk hz => ?_⟩
        cases k with
        | zero => simp at hz; rw [← hz]; exact h'
        | succ k => exact h4 k z (by omega) (by simpa using hz)
end

theorem eqLoop {step : Int → Int → Unit → (Unit → Option Bool) → Option Bool} {fin : Unit → Option Bool} (b : List Int) (hf : fin () = some true) (hs : ∀ (i : Nat) x k r, b[i]? = some r → step (i : Int) x () k = if decide (x ≠ r) = true then some false else k ()) :
    ∀ (a : List Int) (i : Nat), i + a.length = b.length → goI step fin (i : Int) a () = some (decide (a = b.drop i))
  | [], i, h => by
    rw [List.drop_eq_nil_of_le (by simp at h; omega)]
    simp [goI, hf]
  | x :: a, i, h => by
    simp only [List.length_cons] at h
    have hi : i < b.length := by omega
    rw [goI, hs i x _ _ (List.getElem?_eq_getElem hi), List.drop_eq_getElem_cons hi]
    have e : (i : Int) + 1 = ((i + 1 : Nat) : Int) := by omega
    rw [e, eqLoop b hf hs a (i + 1) (by omega)]
    by_cases hx : x = b[i]
    · simp only [List.cons.injEq, hx, true_and, ne_eq, not_true_eq_false, decide_false, Bool.false_eq_true, if_false]
    · simp only [List.cons.injEq, hx, false_and, ne_eq, not_false_eq_true, decide_true, if_true, decide_false]
theorem s_railInts (a b : List Int) (ha : (a.length : Int) ≤ maxI) : t_railsame_Ints a b = some (decide (a = b)) := by
  unfold t_railsame_Ints
  by_cases h : a.length = b.length
  · rw [if_neg (by simp [h]), join_eq, loopI_eq ha]
    have := eqLoop (step := fun (i16 : Int) x17 (s12 : Unit) k13 => (idx b i16).bind fun r26 => if (decide (x17 ≠ r26)) = true then (some false) else (k13 ())) (fin := fun _ => some true) b rfl (fun i x k r hr => by simp only [idx_nat, hr, Option.bind_some]) a 0 (by omega)
    simpa using this
  · rw [if_pos (by simp; omega)]
    have : a ≠ b := fun e => h (by rw [e])
    simp [this]
theorem s_EqualInts (a b : List Int) (ha : (a.length : Int) ≤ maxI) : t_slices_Equal_int_int a b = some (decide (a = b)) := by
  unfold t_slices_Equal_int_int
  by_cases h : a.length = b.length
  · rw [if_neg (by simp [h]), join_eq, loopI_eq ha]
    have := eqLoop (step := fun (i17 : Int) x18 (s13 : Unit) k14 => (idx b i17).bind fun r26 => if (decide (x18 ≠ r26)) = true then (some false) else (k14 ())) (fin := fun _ => some true) b rfl (fun i x k r hr => by simp only [idx_nat, hr, Option.bind_some]) a 0 (by omega)
    simpa using this
  · rw [if_pos (by simp; omega)]
    have : a ≠ b := fun e => h (by rw [e])
    simp [this]
theorem s_ContainsInt (l : List Int) (x : Int) (hl : (l.length : Int) ≤ maxI) : t_slices_Contains_int_int l x = some (decide (x ∈ l)) := by
  unfold t_slices_Contains_int_int t_slices_Index_int_int
  rw [join_eq, loopI_eq hl]
  have : ∀ (l : List Int) (i : Int), 0 ≤ i → ∃ j, goI (fun (i13 : Int) x14 (s9 : Unit) k10 => if (decide (x = x14)) = true then (some i13) else (k10 ())) (fun _ => some (-1 : Int)) i l () = some j ∧ (0 ≤ j ↔ x ∈ l) := by
    intro l
    induction l with
    | nil => intro i _; exact ⟨-1, rfl, by simp⟩
    | cons y l ih =>
      intro i hi
      rw [goI]
      by_cases h : x = y
      · exact ⟨i, by simp [h], by simp [h, hi]⟩
      · obtain ⟨j, h1, h2⟩ := ih (i + 1) (by omega)
        exact ⟨j, by rw [if_neg (by simpa using h)]; exact h1, by simp [h, h2]⟩
  obtain ⟨j, h1, h2⟩ := this l 0 (Int.le_refl _)
  rw [h1]
  simp only [Option.bind_some, h2]
/-- the least -/
def minL : List Int → Int
  | [] => 0
  | x :: l => l.foldl min x
theorem minLoop (l : List Int) (m : Nat) (x : Int) (hm : 1 + m = l.length) : goU (fun (i22 : Int) (s18 : Int) k19 => (idx l i22).bind fun r31 => k19 (min s18 r31)) (fun (i22 : Int) (s18 : Int) => some (s18)) m ((1 : Nat) : Int) x = some ((l.drop 1).foldl min x) := by
  rw [goU_fold (l := l) (f := fun s x => min s x) (fun j y s k hy => by simp only [idx_nat, hy, Option.bind_some]) m 1 x hm]
theorem minL_eq {l : List Int} {x : Int} (h : l[0]? = some x) : (l.drop 1).foldl min x = minL l := by
  cases l with
  | nil => simp at h
  | cons y r => simp at h; subst h; rfl
theorem s_MinInt (l : List Int) (hl : (l.length : Int) ≤ maxI) (h0 : l ≠ []) : t_slices_Min_int_int l = some (minL l) := by
  have hlen : 0 < l.length := List.length_pos_iff.2 h0
  have hx := List.getElem?_eq_getElem hlen
  generalize l[0] = x at hx
  have hm := minLoop l (l.length - 1) x (by omega)
  have e : ((l.length : Int) - 1).toNat = l.length - 1 := by omega
  unfold t_slices_Min_int_int
  rw [if_neg (by simp only [decide_eq_true_eq]; omega)]
  simp only [Option.bind_some]
  have hi : idx l 0 = some x := by rw [← hx]; exact idx_nat (i := 0)
  rw [hi]
  simp only [Option.bind_some]
  rw [loopU_eq (by decide) hl, bind_some_id, e, ← minL_eq hx]
  exact hm

theorem s_above (a b : T_Rule) : ∃ c, t_rule_above a b = some c := by
  have hc : ∀ x y : Int, ∃ c, t_cmp_Compare_int x y = some c := fun x y => by
    unfold t_cmp_Compare_int t_cmp_isNaN_int
    simp only [Option.bind_some, ne_eq, not_true_eq_false, decide_false, Bool.false_eq_true, if_false]
    split
    · exact ⟨_, rfl⟩
    · split <;> exact ⟨_, rfl⟩
  unfold t_rule_above
  obtain ⟨c1, h1⟩ := hc a.Prio b.Prio
  obtain ⟨c2, h2⟩ := hc a.Cube.Mask b.Cube.Mask
  obtain ⟨c3, h3⟩ := hc a.Cube.Bits b.Cube.Bits
  rw [h1, h2, h3]
  simp only [Option.bind_some]
  have : ∃ c, t_cmp_Or_int [c1, c2, c3] = some c ∧ True := by
    unfold t_cmp_Or_int
    simp only [join_eq]
    refine loopI_ex (fun _ _ _ => True) (by simp) trivial (fun _ _ _ => ⟨_, rfl, trivial⟩) (fun i y l s k _ hk => ?_)
    split
    · exact ⟨_, rfl, trivial⟩
    · exact hk () trivial
  obtain ⟨c, h4, _⟩ := this
  rw [h4]
  exact ⟨c, rfl⟩
theorem s_Find (t : List T_Rule) (h : Int) (ht : t.length ≤ 12) : ∃ i, t_rule_Find t h = some i ∧ (i < 0 ∨ (0 ≤ i ∧ i < t.length)) := by
  unfold t_rule_Find
  have : ∃ i, loopI t (fun (i13 : Int) x14 (s9 : Int) k10 =>
      (gd ((decide ((bits .and .i64 h x14.Cube.Mask) = x14.Cube.Bits)) && (!(decide (s9 < 0)))) default (idx t s9)).bind fun r43 =>
      (gd ((decide ((bits .and .i64 h x14.Cube.Mask) = x14.Cube.Bits)) && (!(decide (s9 < 0)))) default (t_rule_above x14 r43)).bind fun r50 =>
      (if ((decide ((bits .and .i64 h x14.Cube.Mask) = x14.Cube.Bits)) && ((decide (s9 < 0)) || (decide (0 < r50)))) = true then (some i13) else (some (s9))).bind fun (s60 : Int) => k10 (s60)) (fun (s9 : Int) => some (s9)) (-1 : Int) = some i ∧ (i < 0 ∨ (0 ≤ i ∧ i < t.length)) := by
    refine loopI_ex (fun i l s => 0 ≤ i ∧ i + l.length = t.length ∧ (s < 0 ∨ (0 ≤ s ∧ s < i))) (by omega) ⟨Int.le_refl _, by omega, .inl (by decide)⟩ (fun i s hI => ⟨s, rfl, ?_⟩) (fun i x l s k hI hk => ?_)
    · obtain ⟨h1, h2, h3⟩ := hI
      simp at h2
      omega
    · obtain ⟨h1, h2, h3⟩ := hI
      simp only [List.length_cons] at h2
      generalize hB : ((decide ((bits .and .i64 h x.Cube.Mask) = x.Cube.Bits)) && (!(decide (s < 0)))) = B
      obtain ⟨y, hy⟩ : ∃ y, gd B default (idx t s) = some y := by
        cases B with
        | false => exact ⟨_, rfl⟩
        | true =>
          simp only [Bool.and_eq_true, Bool.not_eq_true', decide_eq_false_iff_not] at hB
          obtain ⟨y, hy, _⟩ := idx_some (l := t) (i := s) (by omega) (by omega)
          exact ⟨y, hy⟩
      rw [hy]
      simp only [Option.bind_some]
      obtain ⟨z, hz⟩ : ∃ z, gd B default (t_rule_above x y) = some z := by
        cases B with
        | false => exact ⟨_, rfl⟩
        | true => exact s_above x y
      rw [hz]
      simp only [Option.bind_some]
      split
      · exact hk i ⟨by omega, by omega, .inr (by omega)⟩
      · exact hk s ⟨by omega, by omega, by omega⟩
  obtain ⟨i, h1, h2⟩ := this
  exact ⟨i, by rw [h1]; rfl, h2⟩

noncomputable def findV (t : List T_Rule) (h : Int) : Int := (t_rule_Find t h).getD 0
theorem s_findV (t : List T_Rule) (ht : t.length ≤ 12) (h : Int) : t_rule_Find t h = some (findV t h) := by
  obtain ⟨i, h1, _⟩ := s_Find t h ht
  unfold findV; rw [h1]; rfl
noncomputable def pathV (tabs : List (List T_Rule)) (h : Int) : List Int := tabs.map fun t => findV t h
theorem s_path (tabs : List (List T_Rule)) (hT : ∀ t ∈ tabs, t.length ≤ 12) (hl : tabs.length ≤ 1000) (h : Int) : t_class_path tabs h = some (pathV tabs h) := by
  have hM : maxI = 9223372036854775807 := rfl
  unfold t_class_path
  rw [loopI_eq (by omega), bind_some_id, goI_map (f := fun t => findV t h) (B := 1000) tabs 0 [] (by simp; omega) fun x hx i s k hs => by
    rw [s_findV x (hT x hx), Option.bind_some, app_eq (by simp; omega), Option.bind_some]]
  rfl
/-- the first header of a class -/
def hd0 (c : List Int) : Int := c.headD 0
noncomputable def same (tabs : List (List T_Rule)) (h : Int) (c : List Int) : Bool := decide (pathV tabs (hd0 c) = pathV tabs h)
theorem s_classes1 (tabs : List (List T_Rule)) (hT : ∀ t ∈ tabs, t.length ≤ 12) (hl : tabs.length ≤ 1000) (h : Int) (c : List Int) (hc : c ≠ []) : t_class_classes_1 c tabs h = some (same tabs h c) := by
  have hM : maxI = 9223372036854775807 := rfl
  obtain ⟨x, r, rfl⟩ := List.exists_cons_of_ne_nil hc
  unfold t_class_classes_1
  rw [show idx (x :: r) 0 = some x from rfl, Option.bind_some, s_path tabs hT hl x, Option.bind_some, s_path tabs hT hl h, Option.bind_some, s_EqualInts _ _ (by simp only [pathV, List.length_map]; omega)]
  rfl
theorem fxLoop {p : List Int → Bool} {g : List Int → Option Bool} : ∀ (l : List (List Int)) (i : Nat), (∀ c ∈ l, g c = some (p c)) → goI (fun (i13 : Int) x14 (s9 : Unit) k10 => (g x14).bind fun r22 => if r22 = true then (some i13) else (k10 ())) (fun (s9 : Unit) => some (-1 : Int)) (i : Int) l () = some (fx p l i)
  | [], i, _ => rfl
  | c :: l, i, h => by
    rw [goI, h c (by simp), Option.bind_some, fx]
    have e : (i : Int) + 1 = ((i + 1 : Nat) : Int) := by omega
    rw [e]
    by_cases hp : p c = true
    · rw [if_pos hp, if_pos hp]
    · rw [if_neg hp, if_neg hp]
      exact fxLoop l (i + 1) fun d hd => h d (by simp [hd])
theorem s_IndexLL {p : List Int → Bool} {g : List Int → Option Bool} (l : List (List Int)) (hl : (l.length : Int) ≤ maxI) (h : ∀ c ∈ l, g c = some (p c)) : t_slices_IndexFunc_int_int l g = some (fx p l 0) := by
  unfold t_slices_IndexFunc_int_int
  rw [join_eq, loopI_eq hl]
  exact fxLoop l 0 h
/-- one header more -/
noncomputable def clsStep (tabs : List (List T_Rule)) (out : List (List Int)) (h : Int) : List (List Int) :=
  if fx (same tabs h) out 0 < 0 then out ++ [[h]] else out.set (fx (same tabs h) out 0).toNat (out.getD (fx (same tabs h) out 0).toNat [] ++ [h])
noncomputable def clsN (tabs : List (List T_Rule)) : Nat → List (List Int)
  | 0 => []
  | n + 1 => clsStep tabs (clsN tabs n) (n : Int)
theorem oapp_eq {α : Type} {l m : List α} (h0 : 0 < m.length) (h : l.length + m.length ≤ 4294967296) : oapp l m = some (l ++ m) := if_pos ⟨h0, h⟩
theorem oset_eq {α : Type} {l : List α} {i : Int} {y : α} (h0 : 0 ≤ i) (h1 : i < l.length) : oset l i y = some (l.set i.toNat y) := if_pos ⟨h0, h1⟩
structure InvC (n : Nat) (out : List (List Int)) : Prop where
  len : out.length ≤ n
  ne : ∀ c ∈ out, c ≠ []
  cl : ∀ c ∈ out, c.length ≤ n
theorem fx_in {tabs : List (List T_Rule)} {h : Int} {out : List (List Int)} (hp : ¬ fx (same tabs h) out 0 < 0) : ∃ j : Nat, fx (same tabs h) out 0 = (j : Int) ∧ ∃ hj : j < out.length, same tabs h out[j] = true ∧ (∀ k y, k < j → out[k]? = some y → same tabs h y = false) := by
  rcases fx_at (p := same tabs h) (l := out) (i := 0) with ⟨h1, _⟩ | ⟨j, x, h1, h2, h3, h4⟩
  · exact absurd h1 hp
  · obtain ⟨hj, rfl⟩ := List.getElem?_eq_some_iff.1 h2
    exact ⟨j, by rw [h1, Nat.zero_add], hj, h3, h4⟩
theorem inv_step {tabs : List (List T_Rule)} {h : Int} {n : Nat} {out : List (List Int)} (hI : InvC n out) : InvC (n + 1) (clsStep tabs out h) := by
  unfold clsStep
  split
  · refine ⟨by simp; have := hI.len; omega, fun c hc => ?_, fun c hc => ?_⟩
    · rcases List.mem_append.1 hc with h | h
      · exact hI.ne c h
      · simp at h; subst h; simp
    · rcases List.mem_append.1 hc with h | h
      · have := hI.cl c h; omega
      · simp at h; subst h; simp
  · rename_i hp
    obtain ⟨j, e, hj, _⟩ := fx_in hp
    rw [e]
    refine ⟨by rw [List.length_set]; have := hI.len; omega, fun c hc => ?_, fun c hc => ?_⟩
    · rcases List.mem_or_eq_of_mem_set hc with h | h
      · exact hI.ne c h
      · rw [h]; simp
    · rcases List.mem_or_eq_of_mem_set hc with h | h
      · have := hI.cl c h; omega
      · rw [h]
        have := hI.cl out[j] (List.getElem_mem hj)
        simp [hj]; omega
theorem clsN_inv (tabs : List (List T_Rule)) : ∀ n, InvC n (clsN tabs n)
  | 0 => ⟨by simp [clsN], by simp [clsN], by simp [clsN]⟩
  | n + 1 => inv_step (clsN_inv tabs n)
theorem s_classes (tabs : List (List T_Rule)) (hT : ∀ t ∈ tabs, t.length ≤ 12) (hl : tabs.length ≤ 1000) : t_class_classes tabs = some (clsN tabs 16) := by
  have hM : maxI = 9223372036854775807 := rfl
  unfold t_class_classes
  rw [loopU_eq (by decide) (by decide), bind_some_id]
  refine (goU_seq (n := 16) (clsN tabs) (fun j k hj => ?_) 16 0 (by omega)).trans rfl
  have hI := clsN_inv tabs j
  have hlen := hI.len
  generalize hs : clsN tabs j = s at hI hlen ⊢
  rw [s_IndexLL s (by omega) fun c hc => s_classes1 tabs hT hl (j : Int) c (hI.ne c hc)]
  simp only [Option.bind_some]
  have hstep : clsN tabs (j + 1) = clsStep tabs s (j : Int) := by rw [← hs]; rfl
  rw [hstep]
  unfold clsStep
  by_cases hp : fx (same tabs (j : Int)) s 0 < 0
  · rw [if_pos (by simpa using hp), if_pos hp, oapp_eq (by simp) (by simp; omega)]
    rfl
  · obtain ⟨i, e, hi, _⟩ := fx_in hp
    have hcl := hI.cl s[i] (List.getElem_mem hi)
    rw [if_neg (by simpa using hp), if_neg hp, e, need_pos (by simp; omega), idx_nat, List.getElem?_eq_getElem hi]
    simp only [Option.bind_some]
    rw [oapp_eq (by simp) (by simp; omega), Option.bind_some, need_pos (by simp; omega), oset_eq (by omega) (by omega)]
    simp [hi]

noncomputable def heads (tabs : List (List T_Rule)) (out : List (List Int)) : List (List Int) := out.map fun c => pathV tabs (hd0 c)
theorem heads_step {tabs : List (List T_Rule)} {out : List (List Int)} {n : Nat} (hI : InvC n out) (h : Int) : heads tabs (clsStep tabs out h) = if fx (same tabs h) out 0 < 0 then heads tabs out ++ [pathV tabs h] else heads tabs out := by
  unfold clsStep heads
  split
  · simp [hd0]
  · rename_i hp
    obtain ⟨j, e, hj, _⟩ := fx_in hp
    rw [e]
    have hne := hI.ne out[j] (List.getElem_mem hj)
    have hh : hd0 (out[j] ++ [h]) = hd0 out[j] := by
      obtain ⟨x, r, hx⟩ := List.exists_cons_of_ne_nil hne
      rw [hx]; rfl
    have hg : out.getD (j : Int).toNat [] = out[j] := by simp [List.getD, hj]
    rw [hg, List.map_set, hh]
    have : (j : Int).toNat = j := by omega
    rw [this]
    apply List.ext_getElem?
    intro i
    rw [List.getElem?_set]
    split
    · rename_i e; subst e; simp [hj]
    · rfl
/-- what is in classes of the headers below n -/
structure InvM (tabs : List (List T_Rule)) (n : Nat) (out : List (List Int)) : Prop where
  mem : ∀ c ∈ out, ∀ x ∈ c, (0 ≤ x ∧ x < (n : Int)) ∧ pathV tabs x = pathV tabs (hd0 c)
  nd : (heads tabs out).Nodup
  cov : ∀ j : Nat, j < n → pathV tabs (j : Int) ∈ heads tabs out
theorem invM_step {tabs : List (List T_Rule)} {n : Nat} {out : List (List Int)} (hI : InvC n out) (hM : InvM tabs n out) : InvM tabs (n + 1) (clsStep tabs out (n : Int)) := by
  have hst := heads_step (tabs := tabs) hI (n : Int)
  by_cases hp : fx (same tabs (n : Int)) out 0 < 0
  · rw [if_pos hp] at hst
    have hno : ∀ c ∈ out, same tabs (n : Int) c = false := by
      rcases fx_at (p := same tabs (n : Int)) (l := out) (i := 0) with ⟨_, h⟩ | ⟨j, x, h1, _⟩
      · exact h
      · rw [h1] at hp; omega
    have hout : clsStep tabs out (n : Int) = out ++ [[(n : Int)]] := by unfold clsStep; rw [if_pos hp]
    refine ⟨fun c hc x hx => ?_, ?_, fun j hj => ?_⟩
    · rw [hout] at hc
      rcases List.mem_append.1 hc with h | h
      · have := hM.mem c h x hx
        exact ⟨by omega, this.2⟩
      · simp only [List.mem_singleton] at h
        subst h
        simp only [List.mem_singleton] at hx
        subst hx
        exact ⟨by omega, rfl⟩
    · rw [hst, List.nodup_append]
      refine ⟨hM.nd, by simp, fun a ha b hb e => ?_⟩
      simp only [List.mem_singleton] at hb
      subst hb
      subst e
      obtain ⟨c, hc, e⟩ := List.mem_map.1 ha
      have := hno c hc
      unfold same at this
      simp only [decide_eq_false_iff_not] at this
      exact this e
    · rw [hst]
      by_cases e : j = n
      · subst e; simp
      · exact List.mem_append_left _ (hM.cov j (by omega))
  · rw [if_neg hp] at hst
    obtain ⟨j, e, hj, hs, _⟩ := fx_in hp
    have hs : pathV tabs (hd0 out[j]) = pathV tabs (n : Int) := by unfold same at hs; simpa using hs
    have hne := hI.ne out[j] (List.getElem_mem hj)
    have hh : hd0 (out[j] ++ [(n : Int)]) = hd0 out[j] := by
      obtain ⟨x, r, hx⟩ := List.exists_cons_of_ne_nil hne
      rw [hx]; rfl
    have hout : clsStep tabs out (n : Int) = out.set j (out[j] ++ [(n : Int)]) := by
      unfold clsStep
      rw [if_neg hp, e]
      simp [List.getD, hj]
    refine ⟨fun c hc x hx => ?_, by rw [hst]; exact hM.nd, fun k hk => ?_⟩
    · rw [hout] at hc
      rcases List.mem_or_eq_of_mem_set hc with h | h
      · have := hM.mem c h x hx
        exact ⟨by omega, this.2⟩
      · subst h
        rw [hh]
        rcases List.mem_append.1 hx with h | h
        · have := hM.mem _ (List.getElem_mem hj) x h
          exact ⟨by omega, this.2⟩
        · simp only [List.mem_singleton] at h
          subst h
          exact ⟨by omega, hs.symm⟩
    · rw [hst]
      by_cases e2 : k = n
      · subst e2
        rw [← hs]
        exact List.mem_map_of_mem (List.getElem_mem hj)
      · exact hM.cov k (by omega)
theorem clsN_invM (tabs : List (List T_Rule)) : ∀ n, InvM tabs n (clsN tabs n)
  | 0 => ⟨by simp [clsN], by simp [clsN, heads], fun j hj => by omega⟩
  | n + 1 => invM_step (clsN_inv tabs n) (clsN_invM tabs n)
theorem nodup_len {α : Type} [DecidableEq α] : ∀ (l m : List α), l.Nodup → (∀ x ∈ l, x ∈ m) → l.length ≤ m.length
  | [], m, _, _ => Nat.zero_le _
  | x :: l, m, hn, h => by
    rw [List.nodup_cons] at hn
    have hx := h x (by simp)
    have ih := nodup_len l (m.erase x) hn.2 fun y hy => by
      have hne : y ≠ x := fun e => hn.1 (by rw [← e]; exact hy)
      exact (List.mem_erase_of_ne hne).2 (h y (by simp [hy]))
    rw [List.length_erase_of_mem hx] at ih
    have := List.length_pos_of_mem hx
    simp only [List.length_cons]; omega
section
variable {α β σ : Type}
theorem loopI_at {l : List α} {step : Int → α → σ → (σ → Option β) → Option β} {fin : σ → Option β} {s : σ} (S : Nat → σ) (h0 : s = S 0) (hl : (l.length : Int) ≤ maxI) (h : ∀ (p : Nat) x k, l[p]? = some x → step (p : Int) x (S p) k = k (S (p + 1))) : loopI l step fin s = fin (S l.length) := by
  rw [loopI_eq hl]
  have : ∀ (m : List α) (p : Nat), l.drop p = m → p ≤ l.length → goI step fin (p : Int) m (S p) = fin (S l.length) := by
    intro m
    induction m with
    | nil =>
      intro p hp hpl
      have : p = l.length := by have := List.drop_eq_nil_iff.1 hp; omega
      rw [goI, this]
    | cons x m ih =>
      intro p hp hpl
      have hx : l[p]? = some x := by rw [← List.head?_drop, hp]; rfl
      have hlt := (List.getElem?_eq_some_iff.1 hx).1
      rw [goI, h p x _ hx]
      have e : (p : Int) + 1 = ((p + 1 : Nat) : Int) := by omega
      rw [e]
      exact ih (p + 1) (by rw [← List.tail_drop, hp]; rfl) (by omega)
  rw [h0]
  exact this l 0 rfl (Nat.zero_le _)
theorem loopU_at {lo hi : Nat} {step : Int → σ → (σ → Option β) → Option β} {fin : Int → σ → Option β} {s : σ} (S : Nat → σ) (h0 : s = S lo) (hl : (hi : Int) ≤ maxI) (hle : lo ≤ hi) (h : ∀ (p : Nat) k, lo ≤ p → p < hi → step (p : Int) (S p) k = k (S (p + 1))) : loopU (lo : Int) (hi : Int) step fin s = fin (hi : Int) (S hi) := by
  rw [loopU_eq (by omega) hl]
  have : ∀ (m p : Nat), lo ≤ p → p + m = hi → goU step fin m (p : Int) (S p) = fin (hi : Int) (S hi) := by
    intro m
    induction m with
    | zero => intro p hp hm; have : p = hi := by omega
              subst this; rfl
    | succ m ih =>
      intro p hp hm
      rw [goU, h p _ hp (by omega)]
      have e : (p : Int) + 1 = ((p + 1 : Nat) : Int) := by omega
      rw [e]
      exact ih (p + 1) (by omega) (by omega)
  rw [h0, show ((hi : Int) - (lo : Int)).toNat = hi - lo by omega]
  exact this (hi - lo) lo (Nat.le_refl _) (by omega)
end
/-! each header is in one class -/
theorem cnt_set (h x : Int) : ∀ (out : List (List Int)) (j : Nat) (hj : j < out.length), (out.set j (out[j] ++ [h])).flatten.count x = out.flatten.count x + [h].count x
  | [], j, hj => by simp at hj
  | c :: out, 0, hj => by
    simp only [List.set_cons_zero, List.getElem_cons_zero, List.flatten_cons, List.count_append]
    omega
  | c :: out, j + 1, hj => by
    have hj' : j < out.length := by simpa using hj
    have := cnt_set h x out j hj'
    simp only [List.set_cons_succ, List.getElem_cons_succ, List.flatten_cons, List.count_append] at this ⊢
    omega
theorem clsN_count (tabs : List (List T_Rule)) (x : Int) : ∀ n : Nat, (clsN tabs n).flatten.count x = if 0 ≤ x ∧ x < (n : Int) then 1 else 0
  | 0 => by
    rw [if_neg (by omega)]
    rfl
  | n + 1 => by
    have ih := clsN_count tabs x n
    have hone : [(n : Int)].count x = if x = (n : Int) then 1 else 0 := by
      by_cases e : x = (n : Int)
      · subst e; simp
      · rw [if_neg e]
        have : ¬ (n : Int) = x := fun h => e h.symm
        simp [List.count_cons, this]
    have hstep : (clsN tabs (n + 1)).flatten.count x = (clsN tabs n).flatten.count x + [(n : Int)].count x := by
      show (clsStep tabs (clsN tabs n) (n : Int)).flatten.count x = _
      unfold clsStep
      split
      · rw [List.flatten_append, List.count_append]
        simp
      · rename_i hp
        obtain ⟨j, e, hj, _⟩ := fx_in hp
        rw [e]
        have e2 : (j : Int).toNat = j := by omega
        have hg : (clsN tabs n).getD j [] = (clsN tabs n)[j] := by simp [List.getD, hj]
        rw [e2, hg]
        exact cnt_set _ _ _ j hj
    rw [hstep, ih, hone]
    by_cases h1 : 0 ≤ x ∧ x < (n : Int)
    · rw [if_pos h1, if_neg (by omega), if_pos (by omega)]
    · rw [if_neg h1]
      by_cases h2 : x = (n : Int)
      · rw [if_pos h2, if_pos (by omega)]
      · rw [if_neg h2, if_neg (by omega)]
/-! who is the one for all -/
theorem foldl_min_mem : ∀ (l : List Int) (x : Int), l.foldl min x ∈ x :: l
  | [], x => by simp
  | y :: l, x => by
    rw [List.foldl_cons]
    have := foldl_min_mem l (min x y)
    rcases List.mem_cons.1 this with h | h
    · rw [h]
      rcases Int.le_total x y with h2 | h2
      · rw [Int.min_eq_left h2]; simp
      · rw [Int.min_eq_right h2]; simp
    · simp [h]
theorem minL_mem {l : List Int} (h : l ≠ []) : minL l ∈ l := by
  cases l with
  | nil => exact absurd rfl h
  | cons x l => exact foldl_min_mem l x
noncomputable def repH (l : List (List Int)) (h : Int) : Int × Int := match l.find? fun c => decide (h ∈ c) with
  | some c => (minL c, 0)
  | none => (0, 5)
theorem s_RepH (l : List (List Int)) (h : Int) (hl : (l.length : Int) ≤ maxI) (hc : ∀ c ∈ l, (c.length : Int) ≤ maxI) : t_class_Rep l h = some (repH l h) := by
  unfold t_class_Rep
  rw [join_eq, loopI_eq hl]
  have : ∀ (m : List (List Int)) (i : Int), (∀ c ∈ m, (c.length : Int) ≤ maxI) → goI (fun (i14 : Int) x15 (s10 : Unit) k11 => (t_slices_Contains_int_int x15 h).bind fun r23 => if r23 = true then ((t_slices_Min_int_int x15).bind fun r26 => some (r26, (0 : Int))) else (k11 ())) (fun _ => some ((0 : Int), (5 : Int))) i m () = some (repH m h) := by
    intro m
    induction m with
    | nil => intro i _; rfl
    | cons c m ih =>
      intro i hm
      have hcl := hm c (by simp)
      rw [goI, s_ContainsInt c h hcl, Option.bind_some]
      unfold repH
      rw [List.find?_cons]
      by_cases hin : h ∈ c
      · have hne : c ≠ [] := fun e => by rw [e] at hin; simp at hin
        rw [if_pos (by simpa using hin), s_MinInt c hcl hne]
        simp [hin]
      · rw [if_neg (by simpa using hin)]
        have e : decide (h ∈ c) = false := by simpa using hin
        simp only [e]
        exact ih (i + 1) fun d hd => hm d (by simp [hd])
  exact this l 0 hc
theorem rep_in {tabs : List (List T_Rule)} {a : Int} (ha : 0 ≤ a ∧ a < 16) : ∃ c, c ∈ clsN tabs 16 ∧ a ∈ c ∧ repH (clsN tabs 16) a = (minL c, 0) := by
  have hcnt := clsN_count tabs a 16
  rw [if_pos (by omega)] at hcnt
  have hmem : a ∈ (clsN tabs 16).flatten := List.count_pos_iff.1 (by omega)
  obtain ⟨c0, hc0, hac⟩ := List.mem_flatten.1 hmem
  unfold repH
  cases hf : (clsN tabs 16).find? fun c => decide (a ∈ c) with
  | none =>
    have := List.find?_eq_none.1 hf c0 hc0
    simp [hac] at this
  | some c =>
    exact ⟨c, List.mem_of_find?_eq_some hf, by simpa using List.find?_some hf, rfl⟩
theorem rep_same {tabs : List (List T_Rule)} {a b : Int} (ha : 0 ≤ a ∧ a < 16) (hb : 0 ≤ b ∧ b < 16) : (repH (clsN tabs 16) a).2 = 0 ∧ (repH (clsN tabs 16) b).2 = 0 ∧ ((repH (clsN tabs 16) a).1 = (repH (clsN tabs 16) b).1 ↔ pathV tabs a = pathV tabs b) := by
  obtain ⟨ca, h1, h2, h3⟩ := rep_in (tabs := tabs) ha
  obtain ⟨cb, g1, g2, g3⟩ := rep_in (tabs := tabs) hb
  have hM := clsN_invM tabs 16
  rw [h3, g3]
  refine ⟨rfl, rfl, ?_⟩
  have pa := (hM.mem ca h1 a h2).2
  have pb := (hM.mem cb g1 b g2).2
  constructor
  · intro e
    have e : minL ca = minL cb := e
    have q1 := (hM.mem ca h1 _ (minL_mem (fun h => by rw [h] at h2; simp at h2))).2
    have q2 := (hM.mem cb g1 _ (minL_mem (fun h => by rw [h] at g2; simp at g2))).2
    rw [e] at q1
    rw [pa, pb, ← q1, ← q2]
  · intro e
    have hh : pathV tabs (hd0 ca) = pathV tabs (hd0 cb) := by rw [← pa, ← pb, e]
    have : ca = cb := by
      obtain ⟨i, hi⟩ := List.getElem?_of_mem h1
      obtain ⟨j, hj⟩ := List.getElem?_of_mem g1
      have hnd := hM.nd
      unfold heads at hnd
      have hi2 : ((clsN tabs 16).map fun c => pathV tabs (hd0 c))[i]? = some (pathV tabs (hd0 ca)) := by rw [List.getElem?_map, hi]; rfl
      have hj2 : ((clsN tabs 16).map fun c => pathV tabs (hd0 c))[j]? = some (pathV tabs (hd0 ca)) := by rw [List.getElem?_map, hj, hh]; rfl
      have hil := (List.getElem?_eq_some_iff.1 hi2).1
      have : i = j := (List.getElem?_inj hil hnd).1 (by rw [hi2, hj2])
      subst this
      rw [hi] at hj
      exact Option.some.inj hj
    show minL ca = minL cb
    rw [this]
/-! how often -/
def cnts (xs : List Int) : List Int := (List.range 16).map fun j : Nat => ((xs.count (j : Int) : Nat) : Int)
theorem cnts_step {xs : List Int} (hl : xs.length ≤ 10000) {x : Int} (hx : 0 ≤ x ∧ x < 16) {β : Type} (k : List Int → Option β) : (need (decide (0 ≤ x) && decide (x < 16)) ((idx (cnts xs) x).bind fun r219 => need (decide (0 ≤ x) && decide (x < 16)) ((oset (cnts xs) x (wr (r219 + 1))).bind fun r224 => k (r224)))) = k (cnts (xs ++ [x])) := by
  obtain ⟨j, rfl⟩ : ∃ j : Nat, x = (j : Int) := ⟨x.toNat, by omega⟩
  have hj : j < 16 := by omega
  have hcl : (cnts xs).length = 16 := by simp [cnts]
  have hcp := List.count_le_length (a := (j : Int)) (l := xs)
  have hi : idx (cnts xs) (j : Int) = some ((xs.count (j : Int) : Nat) : Int) := by rw [idx_nat]; simp [cnts, hj]
  have ho : ∀ v, oset (cnts xs) (j : Int) v = some ((cnts xs).set j v) := fun v => if_pos ⟨by omega, by omega⟩
  rw [need_pos (by simp; omega), hi, Option.bind_some, need_pos (by simp; omega), ho, Option.bind_some, wr_id (by omega) (by omega)]
  congr 1
  refine List.ext_getElem (by simp [cnts]) fun i h1 h2 => ?_
  have hi16 : i < 16 := by simpa [cnts] using h2
  rw [List.getElem_set]
  simp only [cnts, List.getElem_map, List.getElem_range, List.count_append]
  by_cases e : j = i
  · subst e
    rw [if_pos rfl]; simp
  · rw [if_neg e]
    have e1 : ¬ ((j : Int) = (i : Int)) := by omega
    simp [List.count_cons, e1]
/-! one table: two classes -/
def tR : List T_Rule := [T_Rule.mk 1 (T_Cube.mk 8 8) 1 0 0]
theorem step_new0 (h : Int) : clsStep [tR] [] h = [[h]] := rfl
theorem step_low {c : List Int} {h : Int} (hc : pathV [tR] (hd0 c) = pathV [tR] h) : clsStep [tR] [c] h = [c ++ [h]] := by
  have e : fx (same [tR] h) [c] 0 = 0 := by simp [fx, same, hc]
  unfold clsStep
  rw [e, if_neg (by decide)]; rfl
theorem step_new {c : List Int} {h : Int} (hc : pathV [tR] (hd0 c) ≠ pathV [tR] h) : clsStep [tR] [c] h = [c, [h]] := by
  have e : fx (same [tR] h) [c] 0 = -1 := by simp [fx, same, hc]
  unfold clsStep
  rw [e, if_pos (by decide)]; rfl
theorem step_up {c d : List Int} {h : Int} (hc : pathV [tR] (hd0 c) ≠ pathV [tR] h) (hd : pathV [tR] (hd0 d) = pathV [tR] h) : clsStep [tR] [c, d] h = [c, d ++ [h]] := by
  have e : fx (same [tR] h) [c, d] 0 = 1 := by simp [fx, same, hc, hd]
  unfold clsStep
  rw [e, if_neg (by decide)]; rfl
theorem pv_0 : pathV [tR] 0 = [-1] := by kernel_rfl
theorem pv_1 : pathV [tR] 1 = [-1] := by kernel_rfl
theorem pv_2 : pathV [tR] 2 = [-1] := by kernel_rfl
theorem pv_3 : pathV [tR] 3 = [-1] := by kernel_rfl
theorem pv_4 : pathV [tR] 4 = [-1] := by kernel_rfl
theorem pv_5 : pathV [tR] 5 = [-1] := by kernel_rfl
theorem pv_6 : pathV [tR] 6 = [-1] := by kernel_rfl
theorem pv_7 : pathV [tR] 7 = [-1] := by kernel_rfl
theorem pv_8 : pathV [tR] 8 = [0] := by kernel_rfl
theorem pv_9 : pathV [tR] 9 = [0] := by kernel_rfl
theorem pv_10 : pathV [tR] 10 = [0] := by kernel_rfl
theorem pv_11 : pathV [tR] 11 = [0] := by kernel_rfl
theorem pv_12 : pathV [tR] 12 = [0] := by kernel_rfl
theorem pv_13 : pathV [tR] 13 = [0] := by kernel_rfl
theorem pv_14 : pathV [tR] 14 = [0] := by kernel_rfl
theorem pv_15 : pathV [tR] 15 = [0] := by kernel_rfl
theorem cN_1 : clsN [tR] 1 = [[0]] := rfl
theorem cN_2 : clsN [tR] 2 = [[0, 1]] := by
  show clsStep [tR] (clsN [tR] 1) 1 = _
  rw [cN_1]
  exact step_low (by show pathV [tR] 0 = pathV [tR] 1; rw [pv_0, pv_1])
theorem cN_3 : clsN [tR] 3 = [[0, 1, 2]] := by
  show clsStep [tR] (clsN [tR] 2) 2 = _
  rw [cN_2]
  exact step_low (by show pathV [tR] 0 = pathV [tR] 2; rw [pv_0, pv_2])
theorem cN_4 : clsN [tR] 4 = [[0, 1, 2, 3]] := by
  show clsStep [tR] (clsN [tR] 3) 3 = _
  rw [cN_3]
  exact step_low (by show pathV [tR] 0 = pathV [tR] 3; rw [pv_0, pv_3])
theorem cN_5 : clsN [tR] 5 = [[0, 1, 2, 3, 4]] := by
  show clsStep [tR] (clsN [tR] 4) 4 = _
  rw [cN_4]
  exact step_low (by show pathV [tR] 0 = pathV [tR] 4; rw [pv_0, pv_4])
theorem cN_6 : clsN [tR] 6 = [[0, 1, 2, 3, 4, 5]] := by
  show clsStep [tR] (clsN [tR] 5) 5 = _
  rw [cN_5]
  exact step_low (by show pathV [tR] 0 = pathV [tR] 5; rw [pv_0, pv_5])
theorem cN_7 : clsN [tR] 7 = [[0, 1, 2, 3, 4, 5, 6]] := by
  show clsStep [tR] (clsN [tR] 6) 6 = _
  rw [cN_6]
  exact step_low (by show pathV [tR] 0 = pathV [tR] 6; rw [pv_0, pv_6])
theorem cN_8 : clsN [tR] 8 = [[0, 1, 2, 3, 4, 5, 6, 7]] := by
  show clsStep [tR] (clsN [tR] 7) 7 = _
  rw [cN_7]
  exact step_low (by show pathV [tR] 0 = pathV [tR] 7; rw [pv_0, pv_7])
theorem cN_9 : clsN [tR] 9 = [[0, 1, 2, 3, 4, 5, 6, 7], [8]] := by
  show clsStep [tR] (clsN [tR] 8) 8 = _
  rw [cN_8]
  exact step_new (by show pathV [tR] 0 ≠ pathV [tR] 8; rw [pv_0, pv_8]; decide)
theorem cN_10 : clsN [tR] 10 = [[0, 1, 2, 3, 4, 5, 6, 7], [8, 9]] := by
  show clsStep [tR] (clsN [tR] 9) 9 = _
  rw [cN_9]
  exact step_up (by show pathV [tR] 0 ≠ pathV [tR] 9; rw [pv_0, pv_9]; decide) (by show pathV [tR] 8 = pathV [tR] 9; rw [pv_8, pv_9])
theorem cN_11 : clsN [tR] 11 = [[0, 1, 2, 3, 4, 5, 6, 7], [8, 9, 10]] := by
  show clsStep [tR] (clsN [tR] 10) 10 = _
  rw [cN_10]
  exact step_up (by show pathV [tR] 0 ≠ pathV [tR] 10; rw [pv_0, pv_10]; decide) (by show pathV [tR] 8 = pathV [tR] 10; rw [pv_8, pv_10])
theorem cN_12 : clsN [tR] 12 = [[0, 1, 2, 3, 4, 5, 6, 7], [8, 9, 10, 11]] := by
  show clsStep [tR] (clsN [tR] 11) 11 = _
  rw [cN_11]
  exact step_up (by show pathV [tR] 0 ≠ pathV [tR] 11; rw [pv_0, pv_11]; decide) (by show pathV [tR] 8 = pathV [tR] 11; rw [pv_8, pv_11])
theorem cN_13 : clsN [tR] 13 = [[0, 1, 2, 3, 4, 5, 6, 7], [8, 9, 10, 11, 12]] := by
  show clsStep [tR] (clsN [tR] 12) 12 = _
  rw [cN_12]
  exact step_up (by show pathV [tR] 0 ≠ pathV [tR] 12; rw [pv_0, pv_12]; decide) (by show pathV [tR] 8 = pathV [tR] 12; rw [pv_8, pv_12])
theorem cN_14 : clsN [tR] 14 = [[0, 1, 2, 3, 4, 5, 6, 7], [8, 9, 10, 11, 12, 13]] := by
  show clsStep [tR] (clsN [tR] 13) 13 = _
  rw [cN_13]
  exact step_up (by show pathV [tR] 0 ≠ pathV [tR] 13; rw [pv_0, pv_13]; decide) (by show pathV [tR] 8 = pathV [tR] 13; rw [pv_8, pv_13])
theorem cN_15 : clsN [tR] 15 = [[0, 1, 2, 3, 4, 5, 6, 7], [8, 9, 10, 11, 12, 13, 14]] := by
  show clsStep [tR] (clsN [tR] 14) 14 = _
  rw [cN_14]
  exact step_up (by show pathV [tR] 0 ≠ pathV [tR] 14; rw [pv_0, pv_14]; decide) (by show pathV [tR] 8 = pathV [tR] 14; rw [pv_8, pv_14])
theorem cN_16 : clsN [tR] 16 = [[0, 1, 2, 3, 4, 5, 6, 7], [8, 9, 10, 11, 12, 13, 14, 15]] := by
  show clsStep [tR] (clsN [tR] 15) 15 = _
  rw [cN_15]
  exact step_up (by show pathV [tR] 0 ≠ pathV [tR] 15; rw [pv_0, pv_15]; decide) (by show pathV [tR] 8 = pathV [tR] 15; rw [pv_8, pv_15])
theorem fact_Of : t_class_Of ([(T_Rule.mk 1 (T_Cube.mk 8 8) 1 0 0)] : (List T_Rule)) = some ([[0, 1, 2, 3, 4, 5, 6, 7], [8, 9, 10, 11, 12, 13, 14, 15]], 0) := by
  show t_class_Of tR = _
  have h : t_rule_Table tR = some 0 := by kernel_rfl
  unfold t_class_Of
  rw [h, Option.bind_some, if_neg (by decide), s_classes [tR] (fun t ht => by simp at ht; subst ht; simp [tR]) (by simp), cN_16]
  rfl
theorem walk_ClassHolds (a0 : T_Net) (a1 a2 : Int) (u0 : a0.wf maxLen) (_ : wi64 a1) (_ : wi64 a2) : t_raillaw1_ClassHolds a0 a1 a2 = some true := by
  have hMx : maxI = 9223372036854775807 := rfl
  have hnm : ∀ h ∈ a0.Topo.Hosts, (h.Name.size : Int) ≤ maxI := fun h hh => by
    have h1 : h.Name.size ≤ maxLen := (u0.1.2.2.2 h hh).1
    unfold maxLen at h1
    omega
  obtain ⟨c, e1, e2⟩ := s_netCheck a0 hnm
  unfold t_raillaw1_ClassHolds
  rw [fact_Of]
  have i0 : idx ([[0, 1, 2, 3, 4, 5, 6, 7], [8, 9, 10, 11, 12, 13, 14, 15]] : List (List Int)) 0 = some [0, 1, 2, 3, 4, 5, 6, 7] := rfl
  have i1 : idx ([[0, 1, 2, 3, 4, 5, 6, 7], [8, 9, 10, 11, 12, 13, 14, 15]] : List (List Int)) 1 = some [8, 9, 10, 11, 12, 13, 14, 15] := rfl
  have i2 : idx ([8, 9, 10, 11, 12, 13, 14, 15] : List Int) 0 = some 8 := rfl
  have l0 : ((([[0, 1, 2, 3, 4, 5, 6, 7], [8, 9, 10, 11, 12, 13, 14, 15]] : List (List Int)).length : Nat) : Int) = 2 := rfl
  have l1 : ((([0, 1, 2, 3, 4, 5, 6, 7] : List Int).length : Nat) : Int) = 8 := rfl
  simp only [Option.bind_some, l0, i0, decide_true, Bool.not_true, ne_eq, not_true_eq_false, decide_false, Bool.or_self, Bool.not_false, gd_true, l1, i1, i2, Bool.false_eq_true, if_false]
  unfold t_class_All
  rw [e1, Option.bind_some]
  by_cases hc : c = 0
  rotate_left
  · rw [if_pos (by simpa using hc), Option.bind_some, if_pos (by simpa using hc)]
  subst hc
  have hn := e2 rfl
  have hln := hn.len
  have hsw := hn.topo.sw
  have hT12 : ∀ t ∈ a0.Tables, t.length ≤ 12 := fun t ht => (hn.tabs t ht).1
  obtain ⟨out, ho, hI, hIM, hcount, hrep⟩ : ∃ out, t_class_classes a0.Tables = some out ∧ InvC 16 out ∧ InvM a0.Tables 16 out ∧ (∀ x : Int, out.flatten.count x = if 0 ≤ x ∧ x < ((16 : Nat) : Int) then 1 else 0) ∧ ∀ a b : Int, 0 ≤ a ∧ a < 16 → 0 ≤ b ∧ b < 16 → (repH out a).2 = 0 ∧ (repH out b).2 = 0 ∧ ((repH out a).1 = (repH out b).1 ↔ pathV a0.Tables a = pathV a0.Tables b) :=
    ⟨clsN a0.Tables 16, s_classes a0.Tables hT12 (by omega), clsN_inv a0.Tables 16, clsN_invM a0.Tables 16, fun x => clsN_count a0.Tables x 16, fun a b ha hb => rep_same ha hb⟩
  rw [if_neg (by decide), ho]
  simp only [Option.bind_some]
  rw [if_neg (by decide)]
  simp only [join_eq]
  have hlen16 := hI.len
  have hflen : ∀ p : Nat, (out.take p).flatten.length ≤ 16 * 16 := fun p => by
    have : ∀ l : List (List Int), (∀ c ∈ l, c.length ≤ 16) → l.flatten.length ≤ 16 * l.length := by
      intro l
      induction l with
      | nil => intro _; simp
      | cons c l ih =>
        intro h
        have h1 := h c (by simp)
        have h2 := ih fun d hd => h d (by simp [hd])
        rw [List.flatten_cons, List.length_append, List.length_cons]; omega
    have h1 := this (out.take p) fun c hc => hI.cl c (List.mem_of_mem_take hc)
    have h2 : (out.take p).length ≤ 16 := by rw [List.length_take]; omega
    omega
  rw [loopI_at (l := out) (s := ([0, 0, 0, 0, 0, 0, 0, 0, 0, 0, 0, 0, 0, 0, 0, 0] : List Int)) (S := fun p => cnts (out.take p).flatten) rfl (by omega) fun p c k hp => by
    have hcm := List.mem_of_getElem? hp
    have hcl := hI.cl c hcm
    have hfl := hflen p
    have e : (out.take (p + 1)).flatten = (out.take p).flatten ++ c := by
      rw [List.take_add_one, hp, List.flatten_append]; simp
    show _ = k (cnts (out.take (p + 1)).flatten)
    rw [e]
    generalize (out.take p).flatten = xs at hfl
    refine (loopI_at (l := c) (S := fun q => cnts (xs ++ c.take q)) (by simp) (by omega) fun q x k' hq => ?_).trans (by rw [List.take_length])
    have hx := (hIM.mem c hcm x (List.mem_of_getElem? hq)).1
    have hql := (List.getElem?_eq_some_iff.1 hq).1
    rw [if_neg (by simp only [Bool.or_eq_true, decide_eq_true_eq]; omega)]
    refine (cnts_step (xs := xs ++ c.take q) (by simp; omega) ⟨hx.1, hx.2⟩ k').trans ?_
    congr 2
    rw [List.append_assoc, List.take_add_one (i := q), hq]; rfl]
  rw [List.take_length]
  have h16 := loopU_at (lo := 0) (hi := 16) (s := ()) (step := fun (i151 : Int) (s147 : Unit) (k148 : Unit → Option Bool) =>
      need (decide (0 ≤ i151) && decide (i151 < 16)) ((idx (cnts out.flatten) i151).bind fun r160 => if (decide (r160 ≠ 1)) = true then some false else k148 ())) (fin := fun (i151 : Int) (s147 : Unit) => if ((((decide (a1 < 0)) || (decide (15 < a1))) || (decide (a2 < 0))) || (decide (15 < a2))) = true then (some true) else (
       (t_class_Rep out a1).bind fun r94 =>
       (t_class_Rep out a2).bind fun r98 =>
       (t_class_Path a0 a1).bind fun r103 =>
       (t_class_Path a0 a2).bind fun r108 =>
       (t_railsame_Ints r103.1 r108.1).bind fun r112 =>
       some (((((decide (r94.2 = 0)) && (decide (r98.2 = 0))) && (decide (r103.2 = 0))) && (decide (r108.2 = 0))) && ((decide (r94.1 = r98.1)) == r112)))) (fun _ => ()) rfl (by omega) (by omega) fun p k _ hp => by
    have hcnt := hcount (p : Int)
    rw [if_pos (by omega)] at hcnt
    have hi : idx (cnts out.flatten) (p : Int) = some 1 := by
      rw [idx_nat]
      have : (cnts out.flatten)[p]? = some ((out.flatten.count (p : Int) : Nat) : Int) := by simp [cnts, hp]
      rw [this, hcnt]; rfl
    rw [need_pos (by simp; omega), hi, Option.bind_some, if_neg (by decide)]
  rw [show ((0 : Nat) : Int) = 0 from rfl, show ((16 : Nat) : Int) = 16 from rfl] at h16
  refine h16.trans ?_
  by_cases hh : ((((decide (a1 < 0)) || (decide (15 < a1))) || (decide (a2 < 0))) || (decide (15 < a2))) = true
  · rw [if_pos hh]
  rw [if_neg hh]
  simp only [Bool.or_eq_true, decide_eq_true_eq, not_or, Int.not_lt] at hh
  obtain ⟨⟨⟨h1, h2⟩, h3⟩, h4⟩ := hh
  have ha : 0 ≤ a1 ∧ a1 < 16 := by omega
  have hb : 0 ≤ a2 ∧ a2 < 16 := by omega
  obtain ⟨r1, r2, r3⟩ := hrep a1 a2 ha hb
  have hcls : ∀ c ∈ out, (c.length : Int) ≤ maxI := fun c hc => by have := hI.cl c hc; omega
  have hpath : ∀ x : Int, 0 ≤ x ∧ x < 16 → t_class_Path a0 x = some (pathV a0.Tables x, 0) := fun x hx => by
    unfold t_class_Path
    obtain ⟨b, f1, f2⟩ := s_Header x
    have : b = true := f2.2 hx
    subst this
    rw [e1, Option.bind_some, if_neg (by decide), f1, Option.bind_some, if_neg (by decide), s_path a0.Tables hT12 (by omega), Option.bind_some]
  have hpl : (pathV a0.Tables a1).length = a0.Tables.length := by simp [pathV]
  rw [s_RepH _ _ (by omega) hcls, s_RepH _ _ (by omega) hcls, hpath a1 ha, hpath a2 hb]
  simp only [Option.bind_some]
  rw [s_railInts _ _ (by omega), Option.bind_some, r1, r2]
  have : (decide ((repH out a1).1 = (repH out a2).1)) = decide (pathV a0.Tables a1 = pathV a0.Tables a2) := by rw [decide_eq_decide]; exact r3
  rw [this]
  simp
end Go.Proofs.Ytbcbdechaihflaa.Ty
