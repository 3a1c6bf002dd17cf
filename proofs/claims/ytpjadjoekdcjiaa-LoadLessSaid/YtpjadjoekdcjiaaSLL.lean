/- LoadLess, as it is read: the law. -/
import Derived.Test.YtpjadjoekdcjiaaSBase
import Derived.Test.YtpjadjoekdcjiaaTyM
import Derived.Test.YtpjadjoekdcjiaaTyA
import Derived.Test.YtpjadjoekdcjiaaVcS
import Derived.Test.YtpjadjoekdcjiaaTyN
import Derived.Test.YtpjadjoekdcjiaaDoTy
import Derived.Test.YtpjadjoekdcjiaaTablePlain
namespace Go.Proofs.Ytpjadjoekdcjiaa.Ty
open Go Go.RowKit Go.Proofs.Ytpjadjoekdcjiaa.Den
set_option linter.unusedSimpArgs false
set_option linter.unusedVariables false
set_option maxRecDepth 100000

section
variable {α β σ : Type}
/-- what each end of a loop has -/
theorem goI_post {step : Int → α → σ → (σ → Option β) → Option β} {fin : σ → Option β} {Q : β → Prop} (hfin : ∀ s v, fin s = some v → Q v)
    (hstep : ∀ i x s k, (∀ s' v, k s' = some v → Q v) → ∀ v, step i x s k = some v → Q v) : ∀ (l : List α) (i : Int) (s : σ) (v : β), goI step fin i l s = some v → Q v
  | [], i, s, v, h => hfin s v h
  | x :: l, i, s, v, h => hstep i x s _ (fun s' v' h' => goI_post hfin hstep l (i + 1) s' v' h') v h
theorem loopI_post {step : Int → α → σ → (σ → Option β) → Option β} {fin : σ → Option β} (Q : β → Prop) {l : List α} {s : σ} {v : β} (h : loopI l step fin s = some v) (hfin : ∀ s v, fin s = some v → Q v)
    (hstep : ∀ i x s k, (∀ s' v, k s' = some v → Q v) → ∀ v, step i x s k = some v → Q v) : Q v := by
  unfold loopI at h
  rw [need_some] at h
  exact goI_post hfin hstep l 0 s v h.2
end
section
variable {α β σ τ : Type}
/-- two loops that go alike -/
theorem goI_sim {step : Int → α → σ → (σ → Option β) → Option β} {step' : Int → α → τ → (τ → Option β) → Option β} {fin : σ → Option β} {fin' : τ → Option β} (I : Int → List α → σ → τ → Prop) (hfin : ∀ i s t, I i [] s t → fin s = fin' t)
    (hstep : ∀ i x l s t k k', I i (x :: l) s t → (∀ s' t', I (i + 1) l s' t' → k s' = k' t') → step i x s k = step' i x t k') : ∀ (l : List α) (i : Int) (s : σ) (t : τ), I i l s t → goI step fin i l s = goI step' fin' i l t
  | [], i, s, t, h => hfin i s t h
  | x :: l, i, s, t, h => hstep i x l s t _ _ h fun s' t' h' => goI_sim I hfin hstep l (i + 1) s' t' h'
theorem loopI_sim {step : Int → α → σ → (σ → Option β) → Option β} {step' : Int → α → τ → (τ → Option β) → Option β} {fin : σ → Option β} {fin' : τ → Option β} (I : Int → List α → σ → τ → Prop) {l : List α} {s : σ} {t : τ} (h0 : I 0 l s t) (hfin : ∀ i s t, I i [] s t → fin s = fin' t)
    (hstep : ∀ i x l s t k k', I i (x :: l) s t → (∀ s' t', I (i + 1) l s' t' → k s' = k' t') → step i x s k = step' i x t k') : loopI l step fin s = loopI l step' fin' t := by
  unfold loopI; rw [goI_sim I hfin hstep l 0 s t h0]
theorem loopI_any {step : Int → α → Unit → (Unit → Option β) → Option β} {f : Option β} (p : α → Bool) {r : β} {l : List α} (hl : (l.length : Int) ≤ maxI) (h : ∀ x i k, step i x () k = if p x = true then some r else k ()) : loopI l step (fun _ => f) () = if l.any p = true then some r else f := by
  rw [loopI_eq hl, goI_any (p := p) (r := r) l 0 fun x _ i k => h x i k]
theorem goU_any {l : List α} {p : α → Bool} {r : β} {step : Int → Unit → (Unit → Option β) → Option β} {f : Option β} (h : ∀ (j : Nat) x k, l[j]? = some x → step (j : Int) () k = if p x = true then some r else k ()) : ∀ (m i : Nat), i + m ≤ l.length → goU step (fun _ _ => f) m (i : Int) () = if ((l.drop i).take m).any p = true then some r else f
  | 0, i, _ => by simp [goU]
  | m + 1, i, hm => by
    have hi : i < l.length := by omega
    rw [goU, h i l[i] _ (List.getElem?_eq_getElem hi), List.drop_eq_getElem_cons hi, List.take_succ_cons, List.any_cons]
    have e : (i : Int) + 1 = ((i + 1 : Nat) : Int) := by omega
    rw [e, goU_any h m (i + 1) (by omega)]
    cases p l[i] <;> simp
theorem loopU_any {l : List α} (p : α → Bool) {r : β} {step : Int → Unit → (Unit → Option β) → Option β} {f : Option β} {i : Int} (h0 : 0 ≤ i) (h1 : i ≤ l.length) (h2 : i ≤ maxI) (h : ∀ (j : Nat) x k, l[j]? = some x → step (j : Int) () k = if p x = true then some r else k ()) : loopU 0 i step (fun _ _ => f) () = if (l.take i.toNat).any p = true then some r else f := by
  rw [loopU_eq (Int.le_refl 0) h2, Int.sub_zero]
  have := goU_any (f := f) h i.toNat 0 (by omega)
  simpa using this
end
section
variable {K α : Type} [DecidableEq K]
theorem mfind_off : ∀ (l : List (K × α)) (a : K) (i : Nat), mfind l a i = (mfind l a 0).map fun p => (p.1 + i, p.2)
  | [], _, _ => rfl
  | (b, u) :: r, a, i => by
    simp only [mfind]
    split
    · simp
    · rw [mfind_off r a (i + 1), mfind_off r a (0 + 1)]
      cases mfind r a 0 with
      | none => rfl
      | some p => simp; omega
theorem mget_cons (b : K) (u : α) (r : List (K × α)) (a : K) (d : α) : mget ((b, u) :: r) a d = if a = b then u else mget r a d := by
  unfold mget
  simp only [mfind]
  by_cases h : a = b
  · simp [h]
  · rw [if_neg h, if_neg h, mfind_off r a (0 + 1)]
    cases mfind r a 0 <;> rfl
theorem mput_cons (b : K) (u : α) (r : List (K × α)) (a : K) (v : α) : mput ((b, u) :: r) a v = if a = b then (a, v) :: r else (b, u) :: mput r a v := by
  unfold mput
  simp only [mfind]
  by_cases h : a = b
  · simp [h]
  · rw [if_neg h, if_neg h, mfind_off r a (0 + 1)]
    cases mfind r a 0 <;> simp
theorem mget_mput : ∀ (l : List (K × α)) (a : K) (v : α) (b : K) (d : α), mget (mput l a v) b d = if b = a then v else mget l b d
  | [], a, v, b, d => by
    show mget ([(a, v)]) b d = _
    rw [mget_cons]
  | (c, u) :: r, a, v, b, d => by
    rw [mput_cons]
    by_cases h : a = c
    · subst h
      rw [if_pos rfl, mget_cons, mget_cons]
      split <;> rfl
    · rw [if_neg h, mget_cons, mget_cons, mget_mput r a v b d]
      by_cases h2 : b = c
      · subst h2
        rw [if_pos rfl, if_neg (fun e => h e.symm), if_pos rfl]
      · rw [if_neg h2, if_neg h2]
omit [DecidableEq K] in
theorem any_two (p q : K → Bool) : ∀ l : List K, (l.any fun y => p y || q y) = (l.any p || l.any q)
  | [] => rfl
  | x :: l => by
    rw [List.any_cons, List.any_cons, List.any_cons, any_two p q l]
    cases p x <;> cases q x <;> cases l.any p <;> rfl
theorem any_is (l : List K) (a : K) : (l.any fun y => decide (y = a)) = decide (a ∈ l) := by
  rw [Bool.eq_iff_iff]
  simp
end


section
variable {α β σ : Type}
/-- a loop comes to something that has Q -/
theorem goI_ex {step : Int → α → σ → (σ → Option β) → Option β} {fin : σ → Option β} {I : Int → List α → σ → Prop} {Q : β → Prop} (hfin : ∀ i s, I i [] s → ∃ v, fin s = some v ∧ Q v)
    (hstep : ∀ i x l s k, I i (x :: l) s → (∀ s', I (i + 1) l s' → ∃ v, k s' = some v ∧ Q v) → ∃ v, step i x s k = some v ∧ Q v) : ∀ (l : List α) (i : Int) (s : σ), I i l s → ∃ v, goI step fin i l s = some v ∧ Q v
  | [], i, s, h => hfin i s h
  | x :: l, i, s, h => hstep i x l s _ h fun s' h' => goI_ex hfin hstep l (i + 1) s' h'
theorem loopI_ex {step : Int → α → σ → (σ → Option β) → Option β} {fin : σ → Option β} (I : Int → List α → σ → Prop) {Q : β → Prop} {l : List α} {s : σ} (hl : (l.length : Int) ≤ 9223372036854775807) (h0 : I 0 l s) (hfin : ∀ i s, I i [] s → ∃ v, fin s = some v ∧ Q v)
    (hstep : ∀ i x l s k, I i (x :: l) s → (∀ s', I (i + 1) l s' → ∃ v, k s' = some v ∧ Q v) → ∃ v, step i x s k = some v ∧ Q v) : ∃ v, loopI l step fin s = some v ∧ Q v := by
  rw [loopI_eq hl]; exact goI_ex hfin hstep l 0 s h0
theorem goU_ex {step : Int → σ → (σ → Option β) → Option β} {fin : Int → σ → Option β} {I : Nat → Int → σ → Prop} {Q : β → Prop} (hfin : ∀ i s, I 0 i s → ∃ v, fin i s = some v ∧ Q v)
    (hstep : ∀ m i s k, I (m + 1) i s → (∀ s', I m (i + 1) s' → ∃ v, k s' = some v ∧ Q v) → ∃ v, step i s k = some v ∧ Q v) : ∀ (m : Nat) (i : Int) (s : σ), I m i s → ∃ v, goU step fin m i s = some v ∧ Q v
  | 0, i, s, h => hfin i s h
  | m + 1, i, s, h => hstep m i s _ h fun s' h' => goU_ex hfin hstep m (i + 1) s' h'
end

def spotOk (T : T_Topo) (s : T_Spot) : Prop := 1 ≤ s.Switch ∧ s.Switch ≤ T.Switches ∧ 1 ≤ s.Port ∧ s.Port ≤ 4
structure topoGood (T : T_Topo) : Prop where
  sw : 1 ≤ T.Switches ∧ T.Switches ≤ 6
  nl : T.Links.length ≤ 200
  nh : T.Hosts.length ≤ 8
  links : ∀ l ∈ T.Links, spotOk T l.A ∧ spotOk T l.B
  hosts : ∀ h ∈ T.Hosts, h.Name ≠ ByteArray.mk #[] ∧ spotOk T h.At
def ruleGood (r : T_Rule) : Prop := (0 ≤ r.Out ∧ r.Out ≤ 4) ∧ (0 ≤ r.Set ∧ r.Set < 16) ∧ 0 ≤ r.Value ∧ r.Value < 16
def tblGood (t : List T_Rule) : Prop := t.length ≤ 12 ∧ ∀ r ∈ t, ruleGood r
structure netGood (n : T_Net) : Prop where
  topo : topoGood n.Topo
  chk : t_topo_Check n.Topo = some 0
  len : (n.Tables.length : Int) = n.Topo.Switches
  tabs : ∀ t ∈ n.Tables, tblGood t
theorem s_Spot (T : T_Topo) (s : T_Spot) : ∃ b, t_topo_Spot T s = some b ∧ (b = true ↔ spotOk T s) :=
  ⟨_, rfl, by simp [spotOk, and_assoc]⟩
theorem s_Header (h : Int) : ∃ b, t_cube_Header h = some b ∧ (b = true ↔ 0 ≤ h ∧ h < 16) := ⟨_, rfl, by simp⟩
theorem s_Name (s : ByteArray) (hs : (s.size : Int) ≤ maxI) : ∃ b, t_topo_Name s = some b ∧ (b = true → s ≠ ByteArray.mk #[]) := by
  unfold t_topo_Name
  rw [need_pos (by simpa using hs), join_eq]
  refine loopI_ex (fun _ _ _ => True) (by rw [numsOf_len]; exact hs) trivial (fun i s' _ => ⟨_, rfl, fun h => ?_⟩) (fun i x l s' k _ hk => ?_)
  · simp only [Bool.and_eq_true, Bool.not_eq_true', decide_eq_false_iff_not] at h
    exact h.1
  · split
    · exact ⟨false, rfl, fun h => by cases h⟩
    · exact hk () trivial
theorem s_topoCheck (T : T_Topo) (hn : ∀ h ∈ T.Hosts, (h.Name.size : Int) ≤ maxI) : ∃ c, t_topo_Check T = some c ∧ (c = 0 → topoGood T) := by
  unfold t_topo_Check
  split
  · exact ⟨1, rfl, fun h => by cases h⟩
  · rename_i h1
    simp only [Bool.or_eq_true, decide_eq_true_eq, not_or, Int.not_lt] at h1
    split
    · exact ⟨4, rfl, fun h => by cases h⟩
    · rename_i h2
      simp only [Bool.or_eq_true, decide_eq_true_eq, not_or, Int.not_lt] at h2
      simp only [join_eq]
      refine loopI_ex (fun _ l _ => ∀ x ∈ T.Links, x ∈ l ∨ (spotOk T x.A ∧ spotOk T x.B)) (by omega) (fun x hx => .inl hx) (fun i s hI => ?_) (fun i x l s k hI hk => ?_)
      · refine loopI_ex (fun _ l _ => (∀ x ∈ l, x ∈ T.Hosts) ∧ ∀ x ∈ T.Hosts, x ∈ l ∨ (x.Name ≠ ByteArray.mk #[] ∧ spotOk T x.At)) (by omega) ⟨fun _ h => h, fun x hx => .inl hx⟩ (fun i s hJ => ?_) (fun i x l s k hJ hk => ?_)
        · refine ⟨0, rfl, fun _ => ⟨h1, by omega, by omega, fun l hl => (hI l hl).resolve_left (by simp), fun h hh => (hJ.2 h hh).resolve_left (by simp)⟩⟩
        · have hx := hJ.1 x (by simp)
          obtain ⟨b, e1, e2⟩ := s_Name x.Name (hn x hx)
          rw [e1]
          simp only [Option.bind_some]
          split
          · exact ⟨2, rfl, fun h => by cases h⟩
          · rename_i hb
            obtain ⟨b2, f1, f2⟩ := s_Spot T x.At
            rw [f1]
            simp only [Option.bind_some]
            split
            · exact ⟨1, rfl, fun h => by cases h⟩
            · rename_i hb2
              split
              · exact ⟨7, rfl, fun h => by cases h⟩
              · refine hk _ ⟨fun y hy => hJ.1 y (by simp [hy]), fun y hy => ?_⟩
                rcases hJ.2 y hy with h | h
                · rcases List.mem_cons.1 h with rfl | h
                  · exact .inr ⟨e2 (by simpa using hb), f2.1 (by simpa using hb2)⟩
                  · exact .inl h
                · exact .inr h
      · obtain ⟨b, e1, e2⟩ := s_Spot T x.A
        obtain ⟨b2, f1, f2⟩ := s_Spot T x.B
        rw [e1, f1]
        simp only [Option.bind_some]
        cases hb1 : b with
        | false => exact ⟨1, by simp [gd], fun h => by cases h⟩
        | true =>
          cases hb2 : b2 with
          | false => exact ⟨1, by simp [gd], fun h => by cases h⟩
          | true =>
            simp only [gd, Bool.not_true, Bool.not_false, if_true, Option.bind_some, Bool.or_self, Bool.false_eq_true, if_false]
            split
            · exact ⟨7, rfl, fun h => by cases h⟩
            · refine hk _ fun y hy => ?_
              rcases hI y hy with h | h
              · rcases List.mem_cons.1 h with rfl | h
                · exact .inr ⟨e2.1 hb1, f2.1 hb2⟩
                · exact .inl h
              · exact .inr h

theorem s_ruleCheck (r : T_Rule) : ∃ c, t_rule_Check r = some c ∧ (c = 0 → ruleGood r) := by
  unfold t_rule_Check
  obtain ⟨b1, e1, f1⟩ := s_Header r.Set
  obtain ⟨b2, e2, f2⟩ := s_Header r.Value
  rw [e1, e2]
  obtain ⟨c, hc⟩ : ∃ c, t_cube_Check r.Cube = some c := by
    unfold t_cube_Check
    obtain ⟨b3, e3, _⟩ := s_Header r.Cube.Mask
    obtain ⟨b4, e4, _⟩ := s_Header r.Cube.Bits
    rw [e3, e4]
    cases b3 <;> cases b4 <;> simp only [gd, Bool.not_true, Bool.not_false, if_true, Bool.or_self, Bool.true_or, Bool.or_true, Bool.false_eq_true, if_false, Option.bind_some] <;> first | exact ⟨_, rfl⟩ | (split <;> exact ⟨_, rfl⟩)
  rw [hc]
  cases hA : (((decide (r.Prio < 0) || decide (99 < r.Prio)) || decide (r.Out < 0)) || decide (4 < r.Out)) with
  | true => exact ⟨1, by simp [gd], fun h => by cases h⟩
  | false =>
    cases hb1 : b1 with
    | false => exact ⟨1, by simp [gd], fun h => by cases h⟩
    | true =>
      cases hb2 : b2 with
      | false => exact ⟨1, by simp [gd], fun h => by cases h⟩
      | true =>
        simp only [Bool.or_eq_false_iff, decide_eq_false_iff_not, Int.not_lt] at hA
        have hg : ruleGood r := ⟨⟨hA.1.2, hA.2⟩, f1.1 hb1, f2.1 hb2⟩
        simp only [gd, Bool.not_false, Bool.not_true, if_true, Option.bind_some, Bool.or_self, Bool.false_eq_true, if_false]
        split
        · exact ⟨_, rfl, fun _ => hg⟩
        · split <;> exact ⟨_, rfl, fun _ => hg⟩
theorem s_ruleTable (t : List T_Rule) : ∃ c, t_rule_Table t = some c ∧ (c = 0 → tblGood t) := by
  unfold t_rule_Table
  split
  · exact ⟨4, rfl, fun h => by cases h⟩
  · rename_i h1
    simp only [decide_eq_true_eq, Int.not_lt] at h1
    simp only [join_eq]
    refine loopI_ex (fun i l _ => 0 ≤ i ∧ i + l.length = t.length ∧ ∀ x ∈ t, x ∈ l ∨ ruleGood x) (by omega) ⟨Int.le_refl _, by omega, fun x hx => .inl hx⟩ (fun i s hI => ⟨0, rfl, fun _ => ⟨by omega, fun r hr => (hI.2.2 r hr).resolve_left (by simp)⟩⟩) (fun i x l s k hI hk => ?_)
    obtain ⟨c, e1, e2⟩ := s_ruleCheck x
    rw [e1]
    simp only [Option.bind_some]
    split
    · rename_i hc
      refine ⟨c, rfl, fun h => ?_⟩
      simp [h] at hc
    · rename_i hc
      obtain ⟨i0, il, ia⟩ := hI
      have hs : slc_hi t i = some (t.take i.toNat) := if_pos ⟨i0, by simp at il; omega⟩
      rw [hs]
      simp only [Option.bind_some]
      have hfn : ∀ (l : List T_Rule), l.length ≤ 12 → ∃ j, t_slices_IndexFunc_api_Table_api_Rule l (fun a33 => t_rule_Table_1 a33 x) = some j ∧ True := fun l hl => by
        unfold t_slices_IndexFunc_api_Table_api_Rule
        simp only [join_eq]
        refine loopI_ex (fun _ _ _ => True) (by omega) trivial (fun _ _ _ => ⟨_, rfl, trivial⟩) (fun i y l s k _ hk => ?_)
        simp only [t_rule_Table_1, t_rule_Key, Option.bind_some]
        split
        · exact ⟨_, rfl, trivial⟩
        · exact hk () trivial
      obtain ⟨j, hj, _⟩ := hfn (t.take i.toNat) (by simp; omega)
      unfold t_slices_ContainsFunc_api_Table_api_Rule
      rw [hj]
      simp only [Option.bind_some]
      split
      · exact ⟨7, rfl, fun h => by cases h⟩
      · refine hk () ⟨by omega, by simp at il; omega, fun y hy => ?_⟩
        rcases ia y hy with h | h
        · rcases List.mem_cons.1 h with rfl | h
          · exact .inr (e2 (by simpa using hc))
          · exact .inl h
        · exact .inr h
theorem s_netCheck (n : T_Net) (hn : ∀ h ∈ n.Topo.Hosts, (h.Name.size : Int) ≤ maxI) : ∃ c, t_net_Check n = some c ∧ (c = 0 → netGood n) := by
  unfold t_net_Check
  obtain ⟨c, e1, e2⟩ := s_topoCheck n.Topo hn
  rw [e1]
  simp only [Option.bind_some]
  split
  · rename_i hc
    refine ⟨c, rfl, fun h => ?_⟩
    simp [h] at hc
  · rename_i hc
    have hc : c = 0 := by simpa using hc
    subst hc
    have hg := e2 rfl
    split
    · exact ⟨3, rfl, fun h => by cases h⟩
    · rename_i hl
      have hl : (n.Tables.length : Int) = n.Topo.Switches := by simpa using hl
      simp only [join_eq]
      have := hg.sw
      refine loopI_ex (fun _ l _ => ∀ x ∈ n.Tables, x ∈ l ∨ tblGood x) (by omega) (fun x hx => .inl hx) (fun i s hI => ⟨0, rfl, fun _ => ⟨hg, e1, hl, fun t ht => (hI t ht).resolve_left (by simp)⟩⟩) (fun i x l s k hI hk => ?_)
      obtain ⟨c, f1, f2⟩ := s_ruleTable x
      rw [f1]
      simp only [Option.bind_some]
      split
      · rename_i hc
        refine ⟨c, rfl, fun h => ?_⟩
        simp [h] at hc
      · rename_i hc
        refine hk () fun y hy => ?_
        rcases hI y hy with h | h
        · rcases List.mem_cons.1 h with rfl | h
          · exact .inr (f2 (by simpa using hc))
          · exact .inl h
        · exact .inr h
theorem idx_some {α : Type} {l : List α} {i : Int} (h0 : 0 ≤ i) (h1 : i < l.length) : ∃ x, idx l i = some x ∧ x ∈ l ∧ l[i.toNat]? = some x := by
  have : i.toNat < l.length := by omega
  exact ⟨l[i.toNat], by simp [idx, h0, List.getElem?_eq_getElem this], List.getElem_mem this, List.getElem?_eq_getElem this⟩

theorem s_above (a b : T_Rule) : ∃ c, t_rule_above a b = some c := by
  have hc : ∀ x y : Int, ∃ c, t_cmp_Compare_int x y = some c := fun x y => by
    unfold t_cmp_Compare_int t_cmp_isNaN_int
    simp only [Option.bind_some, ne_eq, not_true_eq_false, decide_false, Bool.false_eq_true, if_false]
    split
    · exact ⟨_, rfl⟩
    · split <;> exact ⟨_, rfl⟩
  unfold t_rule_above
  obtain ⟨c1, h1⟩ := hc a.Prio b.Prio
  obtain ⟨c2, h2⟩ := hc a.Cube.Mask b.Cube.Mask
  obtain ⟨c3, h3⟩ := hc a.Cube.Bits b.Cube.Bits
  rw [h1, h2, h3]
  simp only [Option.bind_some]
  have : ∃ c, t_cmp_Or_int [c1, c2, c3] = some c ∧ True := by
    unfold t_cmp_Or_int
    simp only [join_eq]
    refine loopI_ex (fun _ _ _ => True) (by simp) trivial (fun _ _ _ => ⟨_, rfl, trivial⟩) (fun i y l s k _ hk => ?_)
    split
    · exact ⟨_, rfl, trivial⟩
    · exact hk () trivial
  obtain ⟨c, h4, _⟩ := this
  rw [h4]
  exact ⟨c, rfl⟩
theorem s_Find (t : List T_Rule) (h : Int) (ht : t.length ≤ 12) : ∃ i, t_rule_Find t h = some i ∧ (i < 0 ∨ (0 ≤ i ∧ i < t.length)) := by
  unfold t_rule_Find
  have : ∃ i, loopI t (fun (i13 : Int) x14 (s9 : Int) k10 =>
      (gd ((decide ((bits .and .i64 h x14.Cube.Mask) = x14.Cube.Bits)) && (!(decide (s9 < 0)))) default (idx t s9)).bind fun r43 =>
      (gd ((decide ((bits .and .i64 h x14.Cube.Mask) = x14.Cube.Bits)) && (!(decide (s9 < 0)))) default (t_rule_above x14 r43)).bind fun r50 =>
      (if ((decide ((bits .and .i64 h x14.Cube.Mask) = x14.Cube.Bits)) && ((decide (s9 < 0)) || (decide (0 < r50)))) = true then (some i13) else (some (s9))).bind fun (s60 : Int) => k10 (s60)) (fun (s9 : Int) => some (s9)) (-1 : Int) = some i ∧ (i < 0 ∨ (0 ≤ i ∧ i < t.length)) := by
    refine loopI_ex (fun i l s => 0 ≤ i ∧ i + l.length = t.length ∧ (s < 0 ∨ (0 ≤ s ∧ s < i))) (by omega) ⟨Int.le_refl _, by omega, .inl (by decide)⟩ (fun i s hI => ⟨s, rfl, ?_⟩) (fun i x l s k hI hk => ?_)
    · obtain ⟨h1, h2, h3⟩ := hI
      simp at h2
      omega
    · obtain ⟨h1, h2, h3⟩ := hI
      simp only [List.length_cons] at h2
      generalize hB : ((decide ((bits .and .i64 h x.Cube.Mask) = x.Cube.Bits)) && (!(decide (s < 0)))) = B
      obtain ⟨y, hy⟩ : ∃ y, gd B default (idx t s) = some y := by
        cases B with
        | false => exact ⟨_, rfl⟩
        | true =>
          simp only [Bool.and_eq_true, Bool.not_eq_true', decide_eq_false_iff_not] at hB
          obtain ⟨y, hy, _⟩ := idx_some (l := t) (i := s) (by omega) (by omega)
          exact ⟨y, hy⟩
      rw [hy]
      simp only [Option.bind_some]
      obtain ⟨z, hz⟩ : ∃ z, gd B default (t_rule_above x y) = some z := by
        cases B with
        | false => exact ⟨_, rfl⟩
        | true => exact s_above x y
      rw [hz]
      simp only [Option.bind_some]
      split
      · exact hk i ⟨by omega, by omega, .inr (by omega)⟩
      · exact hk s ⟨by omega, by omega, by omega⟩
  obtain ⟨i, h1, h2⟩ := this
  exact ⟨i, by rw [h1]; rfl, h2⟩

theorem hdr_bits {h s v : Int} (hh : 0 ≤ h ∧ h < 16) (hs : 0 ≤ s ∧ s < 16) (hv : 0 ≤ v ∧ v < 16) : 0 ≤ bits .or .i64 (bits .andNot .i64 h s) v ∧ bits .or .i64 (bits .andNot .i64 h s) v < 16 := by
  have H : ∀ x y z : Fin 16, 0 ≤ bits .or .i64 (bits .andNot .i64 (x.val : Int) (y.val : Int)) (z.val : Int) ∧ bits .or .i64 (bits .andNot .i64 (x.val : Int) (y.val : Int)) (z.val : Int) < 16 := by decide +kernel
  have := H ⟨h.toNat, by omega⟩ ⟨s.toNat, by omega⟩ ⟨v.toNat, by omega⟩
  simpa [Int.toNat_of_nonneg hh.1, Int.toNat_of_nonneg hs.1, Int.toNat_of_nonneg hv.1] using this
theorem s_Out (t : List T_Rule) (ht : tblGood t) (at_ : T_Spot) (h : Int) (hh : 0 ≤ h ∧ h < 16) : ∃ o, t_net_Out t at_ h = some o ∧ (o.2.2 = true → o.1.Switch = at_.Switch ∧ (1 ≤ o.1.Port ∧ o.1.Port ≤ 4) ∧ 0 ≤ o.2.1 ∧ o.2.1 < 16) := by
  unfold t_net_Out
  obtain ⟨i, e1, e2⟩ := s_Find t h ht.1
  rw [e1]
  simp only [Option.bind_some]
  by_cases hi : i < 0
  · simp [hi, gd]
  · obtain ⟨x, hx, hm, _⟩ := idx_some (l := t) (i := i) (by omega) (by omega)
    simp only [hx, hi, decide_false, Bool.not_false, gd_true, Option.bind_some, Bool.false_or]
    split
    · exact ⟨_, rfl, fun h => by cases h⟩
    · rename_i ho
      have ho : ¬ x.Out = 0 := by simpa using ho
      obtain ⟨g1, g2, g3⟩ := ht.2 x hm
      exact ⟨_, rfl, fun _ => ⟨rfl, by simp only; omega, hdr_bits hh g2 g3⟩⟩
theorem s_Other (T : T_Topo) (hT : topoGood T) (s : T_Spot) : ∃ o, t_topo_Other T s = some o ∧ (o.2 = true → spotOk T o.1) := by
  unfold t_topo_Other
  simp only [join_eq]
  have := hT.nl
  refine loopI_ex (fun _ l _ => ∀ x ∈ l, x ∈ T.Links) (by omega) (fun _ h => h) (fun i s hI => ⟨_, rfl, fun h => by cases h⟩) (fun i x l s k hI hk => ?_)
  have hx := hT.links x (hI x (by simp))
  split
  · exact ⟨_, rfl, fun _ => hx.2⟩
  · split
    · exact ⟨_, rfl, fun _ => hx.1⟩
    · exact hk () fun y hy => hI y (by simp [hy])
theorem s_IndexHost (l : List T_Host) (hl : l.length ≤ 8) (p : T_Host → Bool) (g : T_Host → Option Bool) (hg : ∀ x, g x = some (p x)) : ∃ i, t_slices_IndexFunc_api_Host_api_Host l g = some i ∧ (i < 0 ∨ (0 ≤ i ∧ i < l.length)) := by
  unfold t_slices_IndexFunc_api_Host_api_Host
  simp only [join_eq]
  refine loopI_ex (fun i m _ => 0 ≤ i ∧ i + m.length = l.length) (by omega) ⟨Int.le_refl _, by omega⟩ (fun i s hI => ⟨-1, rfl, .inl (by decide)⟩) (fun i x m s k hI hk => ?_)
  rw [hg]
  simp only [Option.bind_some]
  obtain ⟨h1, h2⟩ := hI
  simp only [List.length_cons] at h2
  split
  · exact ⟨i, rfl, .inr ⟨h1, by omega⟩⟩
  · exact hk () ⟨by omega, by omega⟩
theorem s_Host (T : T_Topo) (hT : topoGood T) (s : T_Spot) : ∃ o, t_topo_Host T s = some o ∧ (o.2 = true → o.1 ≠ ByteArray.mk #[]) := by
  unfold t_topo_Host
  obtain ⟨i, e1, e2⟩ := s_IndexHost T.Hosts hT.nh (fun a4 => decide (a4.At = s)) _ (fun x => (rfl : t_topo_Host_1 x s = some (decide (x.At = s))))
  rw [e1]
  simp only [Option.bind_some]
  split
  · exact ⟨_, rfl, fun h => by cases h⟩
  · rename_i hi
    simp only [decide_eq_true_eq] at hi
    obtain ⟨x, hx, hm, _⟩ := idx_some (l := T.Hosts) (i := i) (by omega) (by omega)
    rw [hx]
    exact ⟨_, rfl, fun _ => (hT.hosts x hm).1⟩
theorem s_Contains (l : List T_Hop) (hl : (l.length : Int) ≤ maxI) (x : T_Hop) : t_slices_Contains_api_Hop_api_Hop l x = some (decide (x ∈ l)) := by
  have : ∃ i, t_slices_Index_api_Hop_api_Hop l x = some i ∧ (0 ≤ i ↔ x ∈ l) := by
    unfold t_slices_Index_api_Hop_api_Hop
    simp only [join_eq]
    refine loopI_ex (fun i m _ => 0 ≤ i ∧ (x ∈ l ↔ x ∈ m) ∧ ∀ y ∈ m, y ∈ l) hl ⟨Int.le_refl _, Iff.rfl, fun _ h => h⟩ (fun i s hI => ⟨-1, rfl, ?_⟩) (fun i y m s k hI hk => ?_)
    · rw [hI.2.1]; simp
    · split
      · rename_i he
        have he : x = y := by simpa using he
        exact ⟨i, rfl, ⟨fun _ => by rw [he]; exact hI.2.2 y (by simp), fun _ => hI.1⟩⟩
      · rename_i he
        have he : ¬ x = y := by simpa using he
        exact hk () ⟨by have := hI.1; omega, by rw [hI.2.1]; simp [he], fun z hz => hI.2.2 z (by simp [hz])⟩
  obtain ⟨i, h1, h2⟩ := this
  unfold t_slices_Contains_api_Hop_api_Hop
  rw [h1]
  simp only [Option.bind_some, h2]

theorem s_cmp (x y : Int) : t_cmp_Compare_int x y = some (if x < y then -1 else if y < x then 1 else 0) := by
  unfold t_cmp_Compare_int t_cmp_isNaN_int
  simp only [Option.bind_some, ne_eq, not_true_eq_false, decide_false, Bool.false_eq_true, if_false]
  by_cases h1 : x < y
  · simp [h1]
  · by_cases h2 : y < x <;> simp [h1, h2]
theorem s_cmpOr (a b c : Int) : t_cmp_Or_int [a, b, c] = some (if a ≠ 0 then a else if b ≠ 0 then b else c) := by
  unfold t_cmp_Or_int
  simp only [join_eq]
  rw [loopI_eq (by have : maxI = 9223372036854775807 := rfl; simp; omega)]
  simp only [goI]
  by_cases h1 : a = 0 <;> by_cases h2 : b = 0 <;> by_cases h3 : c = 0 <;> simp [h1, h2, h3]

abbrev noT : ByteArray := ByteArray.mk #[]
noncomputable def outV (t : List T_Rule) (at_ : T_Spot) (h : Int) : T_Spot × Int × Bool := (t_net_Out t at_ h).getD default
noncomputable def hostV (T : T_Topo) (s : T_Spot) : ByteArray × Bool := (t_topo_Host T s).getD default
noncomputable def otherV (T : T_Topo) (s : T_Spot) : T_Spot × Bool := (t_topo_Other T s).getD default
def tblV (n : T_Net) (h : T_Hop) : List T_Rule := (idx n.Tables (h.At.Switch - 1)).getD []
structure hopOk (n : T_Net) (h : T_Hop) : Prop where
  at_ : spotOk n.Topo h.At
  hd : 0 ≤ h.Header ∧ h.Header < 16
theorem s_tbl {n : T_Net} (hn : netGood n) {x : T_Hop} (hx : spotOk n.Topo x.At) : idx n.Tables (wr (x.At.Switch - 1)) = some (tblV n x) ∧ tblGood (tblV n x) := by
  have h1 := hn.topo.sw
  obtain ⟨h2, h3, _⟩ := hx
  have hl := hn.len
  rw [wr_id (by omega) (by omega)]
  obtain ⟨t, e1, e2, _⟩ := idx_some (l := n.Tables) (i := x.At.Switch - 1) (by omega) (by omega)
  unfold tblV
  rw [e1]
  exact ⟨rfl, hn.tabs t e2⟩
theorem s_out {n : T_Net} (hn : netGood n) {x : T_Hop} (hx : hopOk n x) : t_net_Out (tblV n x) x.At x.Header = some (outV (tblV n x) x.At x.Header) ∧ ((outV (tblV n x) x.At x.Header).2.2 = true → spotOk n.Topo (outV (tblV n x) x.At x.Header).1 ∧ 0 ≤ (outV (tblV n x) x.At x.Header).2.1 ∧ (outV (tblV n x) x.At x.Header).2.1 < 16) := by
  obtain ⟨o, e1, e2⟩ := s_Out (tblV n x) (s_tbl hn hx.at_).2 x.At x.Header hx.hd
  unfold outV
  rw [e1]
  refine ⟨rfl, fun h => ?_⟩
  obtain ⟨f1, f2, f3⟩ := e2 h
  obtain ⟨g1, g2, _⟩ := hx.at_
  simp only [Option.getD_some]
  exact ⟨⟨by rw [f1]; exact g1, by rw [f1]; exact g2, f2⟩, f3⟩
theorem s_host {n : T_Net} (hn : netGood n) (s : T_Spot) : t_topo_Host n.Topo s = some (hostV n.Topo s) ∧ ((hostV n.Topo s).2 = true → (hostV n.Topo s).1 ≠ noT) := by
  obtain ⟨o, e1, e2⟩ := s_Host n.Topo hn.topo s
  unfold hostV
  rw [e1]
  exact ⟨rfl, e2⟩
theorem s_other {n : T_Net} (hn : netGood n) (s : T_Spot) : t_topo_Other n.Topo s = some (otherV n.Topo s) ∧ ((otherV n.Topo s).2 = true → spotOk n.Topo (otherV n.Topo s).1) := by
  obtain ⟨o, e1, e2⟩ := s_Other n.Topo hn.topo s
  unfold otherV
  rw [e1]
  exact ⟨rfl, e2⟩
/-- how it goes on from a hop: 0 to the next one; else how it ends -/
noncomputable def kd (n : T_Net) (x : T_Hop) : Int × ByteArray × T_Hop :=
  if (outV (tblV n x) x.At x.Header).2.2 = true then
    if (hostV n.Topo (outV (tblV n x) x.At x.Header).1).2 = true then (1, (hostV n.Topo (outV (tblV n x) x.At x.Header).1).1, default)
    else if (otherV n.Topo (outV (tblV n x) x.At x.Header).1).2 = true then (0, noT, ⟨(otherV n.Topo (outV (tblV n x) x.At x.Header).1).1, (outV (tblV n x) x.At x.Header).2.1⟩)
    else (3, noT, default)
  else (2, noT, default)
theorem kd_ok {n : T_Net} (hn : netGood n) {x : T_Hop} (hx : hopOk n x) : ((kd n x).1 = 0 → hopOk n (kd n x).2.2) ∧ ((kd n x).1 = 1 → (kd n x).2.1 ≠ noT) ∧ ((kd n x).1 = 0 ∨ (kd n x).1 = 1 ∨ (kd n x).1 = 2 ∨ (kd n x).1 = 3) := by
  obtain ⟨_, ho⟩ := s_out hn hx
  unfold kd
  split
  · rename_i h1
    split
    · rename_i h2
      exact ⟨fun h => (by cases h), fun _ => (s_host hn _).2 h2, .inr (.inl rfl)⟩
    · split
      · rename_i h3
        exact ⟨fun _ => ⟨(s_other hn _).2 h3, (ho h1).2⟩, fun h => (by cases h), .inl rfl⟩
      · exact ⟨fun h => (by cases h), fun h => (by cases h), .inr (.inr (.inr rfl))⟩
  · exact ⟨fun h => (by cases h), fun h => (by cases h), .inr (.inr (.inl rfl))⟩
theorem idx_last {α : Type} (l : List α) (x : α) (hl : l.length ≤ 100) : idx (l ++ [x]) (wr (((l ++ [x]).length : Int) - 1)) = some x := by
  have e : (((l ++ [x]).length : Int) - 1) = (l.length : Int) := by simp
  rw [e, wr_id (by omega) (by omega), idx_nat]
  simp
/-- one step -/
noncomputable def goV (n : T_Net) (l : List T_Hop) (x : T_Hop) : Bool × T_Fate :=
  if (kd n x).1 = 0 then (if (kd n x).2.2 ∈ l ++ [x] ∨ 24 ≤ (l ++ [x]).length then (false, ⟨4, noT, l ++ [x]⟩) else (true, ⟨0, noT, l ++ [x] ++ [(kd n x).2.2]⟩))
  else (false, ⟨(kd n x).1, if (kd n x).1 = 1 then (kd n x).2.1 else noT, l ++ [x]⟩)
theorem s_Go {n : T_Net} (hn : netGood n) (l : List T_Hop) {x : T_Hop} (hx : hopOk n x) (hl : (l ++ [x]).length ≤ 24) : t_net_Go n.Topo (tblV n x) ⟨0, noT, l ++ [x]⟩ = some (goV n l x) := by
  unfold t_net_Go
  have hl2 : l.length ≤ 100 := by simp at hl; omega
  simp only [idx_last l x hl2, Option.bind_some, (s_out hn hx).1]
  unfold goV kd
  by_cases h1 : (outV (tblV n x) x.At x.Header).2.2 = true
  · simp only [h1, Bool.not_true, Bool.false_eq_true, if_false, if_true, (s_host hn _).1, Option.bind_some]
    by_cases h2 : (hostV n.Topo (outV (tblV n x) x.At x.Header).1).2 = true
    · simp [h2]
    · simp only [h2, if_false, (s_other hn _).1, Option.bind_some]
      by_cases h3 : (otherV n.Topo (outV (tblV n x) x.At x.Header).1).2 = true
      · simp only [h3, Bool.not_true, Bool.false_eq_true, if_false, if_true, Option.bind_some]
        rw [s_Contains _ (by have : maxI = 9223372036854775807 := rfl; omega)]
        simp only [Option.bind_some]
        generalize (⟨(otherV n.Topo (outV (tblV n x) x.At x.Header).1).1, (outV (tblV n x) x.At x.Header).2.1⟩ : T_Hop) = y
        by_cases h4 : y ∈ l ++ [x] ∨ 24 ≤ (l ++ [x]).length
        · have : (decide (y ∈ l ++ [x]) || decide (24 ≤ ((l ++ [x]).length : Int))) = true := by
            rcases h4 with h | h
            · simp only [Bool.or_eq_true, decide_eq_true_eq]; exact .inl h
            · simp only [Bool.or_eq_true, decide_eq_true_eq]; right; omega
          rw [if_pos this, if_pos h4]
        · have : ¬ (decide (y ∈ l ++ [x]) || decide (24 ≤ ((l ++ [x]).length : Int))) = true := by
            simp only [Bool.or_eq_true, decide_eq_true_eq]
            intro h
            exact h4 (h.elim .inl fun h => .inr (by omega))
          rw [if_neg this, if_neg h4]
          have hc : cln (l ++ [x]) = some (l ++ [x]) := if_pos (by omega)
          rw [hc]
          simp only [Option.bind_some]
          rw [app_eq (by simp at hl ⊢; omega)]
          rfl
      · simp [h3]
  · simp [h1]
noncomputable def ofF (n : T_Net) (k : T_Fate → Option T_Fate) (s : T_Fate) : Option T_Fate :=
  (idx s.Hops (wr ((List.length s.Hops : Int) - 1))).bind fun r32 => (idx n.Tables (wr (r32.At.Switch - 1))).bind fun r38 => (t_net_Go n.Topo r38 s).bind fun r42 => if r42.1 = true then k r42.2 else some r42.2
theorem ofF_step {n : T_Net} (hn : netGood n) (k : T_Fate → Option T_Fate) (l : List T_Hop) {x : T_Hop} (hx : hopOk n x) (hl : (l ++ [x]).length ≤ 24) : ofF n k ⟨0, noT, l ++ [x]⟩ = if (goV n l x).1 = true then k (goV n l x).2 else some (goV n l x).2 := by
  unfold ofF
  simp only [idx_last l x (by simp at hl; omega), Option.bind_some, (s_tbl hn hx.at_).1, s_Go hn l hx hl]
theorem s_Of (n : T_Net) (s : T_Spot) (h : Int) : t_net_Of n s h = tfix (ofF n) bigN ⟨0, noT, [] ++ [⟨s, h⟩]⟩ := by
  unfold t_net_Of t_net_Begin
  simp only [Option.bind_some, bind_some_id]
  rfl
/-- each hop is where the one ahead goes, none is there twice -/
structure InvW (n : T_Net) (l : List T_Hop) : Prop where
  walk : ∀ i a b, l[i]? = some a → l[i + 1]? = some b → (kd n a).1 = 0 ∧ (kd n a).2.2 = b
  nodup : l.Nodup
  ok : ∀ y ∈ l, hopOk n y
  len : l.length ≤ 24
structure Fin_ (n : T_Net) (f : T_Fate) (l : List T_Hop) (x : T_Hop) : Prop where
  hops : f.Hops = l ++ [x]
  inv : InvW n (l ++ [x])
  ends : ((kd n x).1 ≠ 0 ∧ f.How = (kd n x).1 ∧ f.Host = if (kd n x).1 = 1 then (kd n x).2.1 else noT) ∨ ((kd n x).1 = 0 ∧ f.How = 4 ∧ f.Host = noT)
theorem run_ex {n : T_Net} (hn : netGood n) : ∀ (d : Nat) (l : List T_Hop) (x : T_Hop) (N : Nat), (l ++ [x]).length + d = 24 → d < N → InvW n (l ++ [x]) → ∃ f q z m, tfix (ofF n) N ⟨0, noT, l ++ [x]⟩ = some f ∧ Fin_ n f q z ∧ q ++ [z] = l ++ [x] ++ m := by
  intro d
  induction d with
  | zero =>
    intro l x N hd hN hI
    obtain ⟨N, rfl⟩ : ∃ M, N = M + 1 := ⟨N - 1, by omega⟩
    rw [show tfix (ofF n) (N + 1) ⟨0, noT, l ++ [x]⟩ = ofF n (tfix (ofF n) N) ⟨0, noT, l ++ [x]⟩ from rfl, ofF_step hn _ l (hI.ok x (by simp)) hI.len]
    unfold goV
    by_cases h0 : (kd n x).1 = 0
    · have h24 : (kd n x).2.2 ∈ l ++ [x] ∨ 24 ≤ (l ++ [x]).length := .inr (by omega)
      rw [if_pos h0, if_pos h24]
      exact ⟨_, l, x, [], rfl, ⟨rfl, hI, .inr ⟨h0, rfl, rfl⟩⟩, by simp⟩
    · rw [if_neg h0]
      exact ⟨_, l, x, [], rfl, ⟨rfl, hI, .inl ⟨h0, rfl, rfl⟩⟩, by simp⟩
  | succ d ih =>
    intro l x N hd hN hI
    obtain ⟨N, rfl⟩ : ∃ M, N = M + 1 := ⟨N - 1, by omega⟩
    rw [show tfix (ofF n) (N + 1) ⟨0, noT, l ++ [x]⟩ = ofF n (tfix (ofF n) N) ⟨0, noT, l ++ [x]⟩ from rfl, ofF_step hn _ l (hI.ok x (by simp)) hI.len]
    unfold goV
    by_cases h0 : (kd n x).1 = 0
    · rw [if_pos h0]
      by_cases h1 : (kd n x).2.2 ∈ l ++ [x] ∨ 24 ≤ (l ++ [x]).length
      · rw [if_pos h1]
        exact ⟨_, l, x, [], rfl, ⟨rfl, hI, .inr ⟨h0, rfl, rfl⟩⟩, by simp⟩
      · rw [if_neg h1]
        simp only [not_or, Nat.not_le] at h1
        simp only [if_true]
        have hok := (kd_ok hn (hI.ok x (by simp))).1 h0
        have hI2 : InvW n (l ++ [x] ++ [(kd n x).2.2]) := by
          refine ⟨fun i a b ha hb => ?_, ?_, fun y hy => ?_, by rw [List.length_append]; simp only [List.length_singleton]; omega⟩
          · by_cases hi : i + 1 < (l ++ [x]).length
            · rw [List.getElem?_append_left (by omega)] at ha
              rw [List.getElem?_append_left hi] at hb
              exact hI.walk i a b ha hb
            · have hi2 := (List.getElem?_eq_some_iff.1 hb).1
              rw [List.length_append, List.length_singleton] at hi2
              have ei : i + 1 = (l ++ [x]).length := by omega
              rw [ei, List.getElem?_append_right (Nat.le_refl _), Nat.sub_self] at hb
              simp only [List.getElem?_cons_zero, Option.some.injEq] at hb
              have ei2 : i = l.length := by simp at ei; omega
              rw [ei2, List.append_assoc, List.getElem?_append_right (Nat.le_refl _), Nat.sub_self] at ha
              simp only [List.cons_append, List.getElem?_cons_zero, Option.some.injEq] at ha
              subst ha
              exact ⟨h0, hb⟩
          · rw [List.nodup_append]
            exact ⟨hI.nodup, by simp, fun a ha b hb => by simp only [List.mem_singleton] at hb; subst hb; exact fun e => h1.1 (by rw [← e]; exact ha)⟩
          · rcases List.mem_append.1 hy with h | h
            · exact hI.ok y h
            · simp only [List.mem_singleton] at h; subst h; exact hok
        obtain ⟨f, q, z, m, e1, e2, e3⟩ := ih (l ++ [x]) (kd n x).2.2 N (by rw [List.length_append]; simp only [List.length_singleton]; omega) (by omega) hI2
        exact ⟨f, q, z, (kd n x).2.2 :: m, e1, e2, by rw [e3]; simp⟩
    · rw [if_neg h0]
      exact ⟨_, l, x, [], rfl, ⟨rfl, hI, .inl ⟨h0, rfl, rfl⟩⟩, by simp⟩
/-- from any of its hops on it ends likewise -/
theorem run_det {n : T_Net} (hn : netGood n) {q : List T_Hop} {z : T_Hop} (hI : InvW n (q ++ [z])) (hz : (kd n z).1 ≠ 0) : ∀ (r l : List T_Hop) (x : T_Hop) (N : Nat), l ++ [x] ++ r = q ++ [z] → r.length < N → tfix (ofF n) N ⟨0, noT, l ++ [x]⟩ = some ⟨(kd n z).1, if (kd n z).1 = 1 then (kd n z).2.1 else noT, q ++ [z]⟩
  | [], l, x, N, he, hN => by
    obtain ⟨N, rfl⟩ : ∃ M, N = M + 1 := ⟨N - 1, by simp at hN; omega⟩
    rw [List.append_nil] at he
    obtain ⟨rfl, h2⟩ := List.append_inj' he rfl
    obtain rfl : x = z := by simpa using h2
    rw [show tfix (ofF n) (N + 1) ⟨0, noT, l ++ [x]⟩ = ofF n (tfix (ofF n) N) ⟨0, noT, l ++ [x]⟩ from rfl, ofF_step hn _ l (hI.ok x (by simp)) hI.len]
    unfold goV
    rw [if_neg hz]
    rfl
  | y :: r, l, x, N, he, hN => by
    obtain ⟨N, rfl⟩ : ∃ M, N = M + 1 := ⟨N - 1, by simp at hN; omega⟩
    have hlen : (l ++ [x]).length + 1 + r.length ≤ 24 := by
      have := hI.len
      rw [← he] at this
      rw [List.length_append, List.length_cons] at this
      omega
    have hok : hopOk n x := hI.ok x (by rw [← he]; simp)
    rw [show tfix (ofF n) (N + 1) ⟨0, noT, l ++ [x]⟩ = ofF n (tfix (ofF n) N) ⟨0, noT, l ++ [x]⟩ from rfl, ofF_step hn _ l hok (by omega)]
    obtain ⟨h0, h1⟩ := hI.walk l.length x y (by rw [← he]; simp) (by rw [← he, List.append_assoc, List.getElem?_append_right (by omega)]; simp)
    have hny : y ∉ l ++ [x] := by
      have := hI.nodup
      rw [← he, List.nodup_append] at this
      exact fun h => this.2.2 y h y (by simp) rfl
    unfold goV
    have hno : ¬ (y ∈ l ++ [x] ∨ 24 ≤ (l ++ [x]).length) := fun h => h.elim hny fun h => by omega
    rw [if_pos h0, h1, if_neg hno]
    simp only [if_true]
    exact run_det hn hI hz r (l ++ [x]) y N (by rw [← he]; simp) (by simp at hN; omega)

section
variable {α β γ σ : Type}
theorem goI_map {step : Int → α → List γ → (List γ → Option β) → Option β} {fin : List γ → Option β} {f : α → γ} {B : Nat} : ∀ (l : List α) (i : Int) (s : List γ), s.length + l.length ≤ B → (∀ x ∈ l, ∀ i s k, s.length + 1 ≤ B → step i x s k = k (s ++ [f x])) → goI step fin i l s = fin (s ++ l.map f)
  | [], i, s, _, _ => by simp [goI]
  | x :: l, i, s, hb, h => by
    simp only [List.length_cons] at hb
    rw [goI, h x (by simp) i s _ (by omega), goI_map l (i + 1) (s ++ [f x]) (by simp; omega) fun y hy => h y (by simp [hy])]
    simp
theorem goU_seq {step : Int → σ → (σ → Option β) → Option β} {fin : Int → σ → Option β} (f : Nat → σ) {n : Nat} (h : ∀ (j : Nat) k, j < n → step (j : Int) (f j) k = k (f (j + 1))) : ∀ (m j : Nat), j + m ≤ n → goU step fin m (j : Int) (f j) = fin ((j + m : Nat) : Int) (f (j + m))
  | 0, j, _ => by simp [goU]
  | m + 1, j, hm => by
    rw [goU, h j _ (by omega)]
    have e : (j : Int) + 1 = ((j + 1 : Nat) : Int) := by omega
    rw [e, goU_seq f h m (j + 1) (by omega)]
    have e2 : j + 1 + m = j + (m + 1) := by omega
    rw [e2]
theorem goU_fold {step : Int → σ → (σ → Option β) → Option β} {fin : Int → σ → Option β} {l : List α} {f : σ → α → σ} (h : ∀ (j : Nat) x s k, l[j]? = some x → step (j : Int) s k = k (f s x)) : ∀ (m i : Nat) (s : σ), i + m = l.length → goU step fin m (i : Int) s = fin ((i + m : Nat) : Int) ((l.drop i).foldl f s)
  | 0, i, s, hm => by rw [List.drop_eq_nil_of_le (by omega)]; simp [goU]
  | m + 1, i, s, hm => by
    have hi : i < l.length := by omega
    rw [goU, h i l[i] s _ (List.getElem?_eq_getElem hi), List.drop_eq_getElem_cons hi, List.foldl_cons]
    have e : (i : Int) + 1 = ((i + 1 : Nat) : Int) := by omega
    rw [e, goU_fold h m (i + 1) _ (by omega)]
    have e2 : i + 1 + m = i + (m + 1) := by omega
    rw [e2]
/-- the first that has p, counted from i on -/
def fx (p : α → Bool) : List α → Nat → Int
  | [], _ => -1
  | x :: l, i => if p x = true then (i : Int) else fx p l (i + 1)
theorem fx_map (p : γ → Bool) (f : α → γ) : ∀ (l : List α) (i : Nat), fx p (l.map f) i = fx (fun x => p (f x)) l i
  | [], _ => rfl
  | x :: l, i => by simp only [List.map_cons, fx, fx_map p f l]
theorem fx_cong {p q : α → Bool} : ∀ {l : List α} {i : Nat}, (∀ x ∈ l, p x = q x) → fx p l i = fx q l i
  | [], _, _ => rfl
  | x :: l, i, h => by simp only [fx, h x (by simp), fx_cong (l := l) fun y hy => h y (by simp [hy])]
theorem fx_at {p : α → Bool} : ∀ {l : List α} {i : Nat}, (fx p l i < 0 ∧ ∀ x ∈ l, p x = false) ∨ ∃ j x, fx p l i = ((i + j : Nat) : Int) ∧ l[j]? = some x ∧ p x = true ∧ ∀ k y, k < j → l[k]? = some y → p y = false
  | [], i => .inl ⟨by simp [fx], by simp⟩
  | x :: l, i => by
    by_cases h : p x = true
    · refine .inr ⟨0, x, by simp [fx, h], by simp, h, fun k y hk => by omega⟩
    · have h' : p x = false := by simpa using h
      rcases fx_at (p := p) (l := l) (i := i + 1) with ⟨h1, h2⟩ | ⟨j, y, h1, h2, h3, h4⟩
      · refine .inl ⟨by simp [fx, h', h1], fun y hy => ?_⟩
        rcases List.mem_cons.1 hy with rfl | hy
        · exact h'
        · exact h2 y hy
      · refine .inr ⟨j + 1, y, by simp only [fx, h', Bool.false_eq_true, if_false, h1]; congr 1; omega, by simpa using h2, h3, fun k z hk hz => ?_⟩
        cases k with
        | zero => simp at hz; rw [← hz]; exact h'
        | succ k => exact h4 k z (by omega) (by simpa using hz)
end

/-- hosts have names of their own -/
theorem host_names {T : T_Topo} (hn : ∀ h ∈ T.Hosts, (h.Name.size : Int) ≤ maxI) (hc : t_topo_Check T = some 0) : (T.Hosts.map fun h => h.Name).Nodup := by
  have hM : maxI = 9223372036854775807 := rfl
  have key : ∃ c, t_topo_Check T = some c ∧ (c = 0 → (T.Hosts.map fun h => h.Name).Nodup) := by
    unfold t_topo_Check
    split
    · exact ⟨1, rfl, fun h => by cases h⟩
    split
    · exact ⟨4, rfl, fun h => by cases h⟩
    rename_i h1 h2
    simp only [Bool.or_eq_true, decide_eq_true_eq, not_or, Int.not_lt] at h2
    simp only [join_eq]
    refine loopI_ex (fun _ l _ => True) (by omega) trivial (fun i s hI => ?_) (fun i x l s k hI hk => ?_)
    · refine loopI_ex (fun _ l (s : List (T_Spot × Bool) × List (ByteArray × Bool)) => ∃ pre : List T_Host, T.Hosts = pre ++ l ∧ (pre.map fun h : T_Host => h.Name).Nodup ∧ ∀ nm : ByteArray, mget s.2 nm false = pre.any fun h : T_Host => decide (h.Name = nm)) (by omega) ⟨[], rfl, by simp, fun nm => by simp [mget, mfind]⟩ (fun i s hJ => ?_) (fun i x l s k hJ hk => ?_)
      · obtain ⟨pre, h3, h4, _⟩ := hJ
        exact ⟨0, rfl, fun _ => by rw [h3, List.append_nil]; exact h4⟩
      · obtain ⟨pre, h3, h4, h5⟩ := hJ
        obtain ⟨b, e1, _⟩ := s_Name x.Name (hn x (by rw [h3]; simp))
        obtain ⟨b2, e2, _⟩ := s_Spot T x.At
        rw [e1, e2]
        simp only [Option.bind_some]
        split
        · exact ⟨2, rfl, fun h => by cases h⟩
        split
        · exact ⟨1, rfl, fun h => by cases h⟩
        split
        · exact ⟨7, rfl, fun h => by cases h⟩
        · rename_i hm
          have hnx : ¬ x.Name ∈ pre.map fun h : T_Host => h.Name := fun h => hm (by
            obtain ⟨y, hy, hy2⟩ := List.mem_map.1 h
            rw [h5]
            simp only [Bool.or_eq_true, List.any_eq_true]
            exact .inl ⟨y, hy, decide_eq_true hy2⟩)
          refine hk _ ⟨pre ++ [x], by rw [h3]; simp, ?_, fun nm => ?_⟩
          · rw [List.map_append, List.nodup_append]
            exact ⟨h4, by simp, fun a ha b hb => by simp at hb; subst hb; exact fun e => hnx (by rw [← e]; exact ha)⟩
          · rw [mget_mput, h5]
            by_cases e : nm = x.Name
            · simp [e]
            · have e' : ¬ x.Name = nm := fun h => e h.symm
              simp [e, e']
    · obtain ⟨b, e1, _⟩ := s_Spot T x.A
      obtain ⟨b2, e2, _⟩ := s_Spot T x.B
      rw [e1, e2]
      simp only [Option.bind_some]
      have hg : ∃ b3, gd (!!b) default (some b2) = some b3 := by cases b <;> exact ⟨_, rfl⟩
      obtain ⟨b3, hg⟩ := hg
      rw [hg]
      simp only [Option.bind_some]
      split
      · exact ⟨1, rfl, fun h => by cases h⟩
      split
      · exact ⟨7, rfl, fun h => by cases h⟩
      · exact hk _ trivial
  obtain ⟨c, e1, e2⟩ := key
  rw [hc] at e1
  exact e2 (Option.some.inj e1).symm
theorem nodup_eq {α β : Type} {f : α → β} : ∀ {l : List α}, (l.map f).Nodup → ∀ x ∈ l, ∀ y ∈ l, f x = f y → x = y
  | [], _, x, hx, _, _, _ => by cases hx
  | a :: l, h, x, hx, y, hy, e => by
    rw [List.map_cons, List.nodup_cons] at h
    rcases List.mem_cons.1 hx with h1 | h1
    · rcases List.mem_cons.1 hy with h2 | h2
      · rw [h1, h2]
      · exact absurd (by rw [← h1, e]; exact List.mem_map_of_mem h2) h.1
    · rcases List.mem_cons.1 hy with h2 | h2
      · exact absurd (by rw [← h2, ← e]; exact List.mem_map_of_mem h1) h.1
      · exact nodup_eq h.2 x h1 y h2 e
/-- what a net makes of what a host sends -/
noncomputable def fateV (n : T_Net) (x : T_Host) (h : Int) : T_Fate := (t_net_Of n x.At h).getD ⟨0, noT, []⟩
theorem s_fateV {n : T_Net} (hn : netGood n) {x : T_Host} (hx : x ∈ n.Topo.Hosts) {h : Int} (hh : 0 ≤ h ∧ h < 16) : t_net_Of n x.At h = some (fateV n x h) ∧ (fateV n x h).Hops.length ≤ 24 ∧ ∃ m, (fateV n x h).Hops = ⟨x.At, h⟩ :: m := by
  obtain ⟨f, q, z, m, h1, h2, h3⟩ := run_ex hn 23 [] ⟨x.At, h⟩ bigN rfl (Nat.lt_trans (by decide) bigN_gt) ⟨fun i a b _ hb => by simp at hb, by simp, fun y hy => by simp at hy; subst hy; exact ⟨(hn.topo.hosts x hx).2, hh⟩, by simp⟩
  have e : t_net_Of n x.At h = some f := by rw [s_Of, h1]
  unfold fateV
  rw [e]
  refine ⟨rfl, ?_, m, ?_⟩
  · show f.Hops.length ≤ 24
    rw [h2.hops]
    exact h2.inv.len
  · show f.Hops = _
    rw [h2.hops, h3]
    rfl

theorem goI_app {α β γ : Type} {step : Int → α → List γ → (List γ → Option β) → Option β} {fin : List γ → Option β} {g : α → List γ} {B w : Nat} (hw : ∀ x, (g x).length ≤ w) : ∀ (l : List α) (i : Int) (s : List γ), s.length + w * l.length ≤ B → (∀ x ∈ l, ∀ i s k, s.length + w ≤ B → step i x s k = k (s ++ g x)) → goI step fin i l s = fin (s ++ l.flatMap g)
  | [], i, s, _, _ => by simp [goI]
  | x :: l, i, s, hb, h => by
    have := hw x
    rw [List.length_cons, Nat.mul_add, Nat.mul_one] at hb
    rw [goI, h x (by simp) i s _ (by omega), goI_app hw l (i + 1) (s ++ g x) (by simp; omega) fun y hy => h y (by simp [hy])]
    simp
/-- what is well with a fate -/
structure GoodF (n : T_Net) (f : T_Fate) : Prop where
  len : f.Hops.length ≤ 24
  ok : ∀ y ∈ f.Hops, hopOk n y
theorem good_fateV {n : T_Net} (hn : netGood n) {x : T_Host} (hx : x ∈ n.Topo.Hosts) {h : Int} (hh : 0 ≤ h ∧ h < 16) : t_net_Of n x.At h = some (fateV n x h) ∧ GoodF n (fateV n x h) := by
  obtain ⟨f, q, z, m, h1, h2, h3⟩ := run_ex hn 23 [] ⟨x.At, h⟩ bigN rfl (Nat.lt_trans (by decide) bigN_gt) ⟨fun i a b _ hb => by simp at hb, by simp, fun y hy => by simp at hy; subst hy; exact ⟨(hn.topo.hosts x hx).2, hh⟩, by simp⟩
  have e : t_net_Of n x.At h = some f := by rw [s_Of, h1]
  unfold fateV
  rw [e]
  exact ⟨rfl, by show f.Hops.length ≤ 24; rw [h2.hops]; exact h2.inv.len, by show ∀ y ∈ f.Hops, _; rw [h2.hops]; exact h2.inv.ok⟩
noncomputable def hostFates (n : T_Net) (x : T_Host) : List T_Fate := (List.range 16).map fun j : Nat => fateV n x (j : Int)
noncomputable def fatesV (n : T_Net) : List T_Fate := n.Topo.Hosts.flatMap (hostFates n)
theorem fatesV_len (n : T_Net) : (fatesV n).length = 16 * n.Topo.Hosts.length := by
  have : ∀ l : List T_Host, (l.flatMap (hostFates n)).length = 16 * l.length := by
    intro l
    induction l with
    | nil => rfl
    | cons x l ih => rw [List.flatMap_cons, List.length_append, ih]; simp [hostFates]; omega
  exact this _
theorem fatesV_good {n : T_Net} (hn : netGood n) : ∀ f ∈ fatesV n, GoodF n f := by
  intro f hf
  obtain ⟨x, hx, hf⟩ := List.mem_flatMap.1 hf
  obtain ⟨j, hj, rfl⟩ := List.mem_map.1 hf
  have := List.mem_range.1 hj
  exact (good_fateV hn hx ⟨by omega, by omega⟩).2
theorem s_fates {n : T_Net} (hn : netGood n) : t_load_fates n = some (fatesV n) := by
  have hM : maxI = 9223372036854775807 := rfl
  have hnh := hn.topo.nh
  unfold t_load_fates
  rw [loopI_eq (by omega), bind_some_id, goI_app (g := hostFates n) (B := 1000) (w := 16) (fun x => by simp [hostFates]) n.Topo.Hosts 0 [] (by simp; omega) fun x hx i s k hs => by
    have inner : loopU 0 16 (fun (i41 : Int) (s37 : (List T_Fate)) k38 => (t_net_Of n x.At i41).bind fun r51 => (app s37 ([r51] : (List T_Fate))).bind fun r54 => k38 (r54)) (fun (i41 : Int) (s37 : (List T_Fate)) => some (s37)) s = some (s ++ hostFates n x) := by
      rw [loopU_eq (by decide) (by decide), show ((16 : Int) - 0).toNat = 16 from rfl]
      have h0 : s = (fun j : Nat => s ++ (List.range j).map fun j : Nat => fateV n x (j : Int)) 0 := by simp
      rw [show goU (fun (i41 : Int) (s37 : (List T_Fate)) k38 => (t_net_Of n x.At i41).bind fun r51 => (app s37 ([r51] : (List T_Fate))).bind fun r54 => k38 (r54)) (fun (i41 : Int) (s37 : (List T_Fate)) => some (s37)) 16 0 s = goU (fun (i41 : Int) (s37 : (List T_Fate)) k38 => (t_net_Of n x.At i41).bind fun r51 => (app s37 ([r51] : (List T_Fate))).bind fun r54 => k38 (r54)) (fun (i41 : Int) (s37 : (List T_Fate)) => some (s37)) 16 ((0 : Nat) : Int) ((fun j : Nat => s ++ (List.range j).map fun j : Nat => fateV n x (j : Int)) 0) by rw [← h0]; rfl]
      refine (goU_seq (n := 16) (fun j : Nat => s ++ (List.range j).map fun j : Nat => fateV n x (j : Int)) (fun j k hj => ?_) 16 0 (by omega)).trans (by simp only [Nat.zero_add]; rfl)
      rw [(good_fateV hn hx ⟨by omega, by omega⟩).1, Option.bind_some, app_eq (by simp; omega), Option.bind_some]
      simp [List.range_succ]
    rw [inner]; rfl]
  rfl
/-! counts of rules -/
/-- counts of a table's rules each, none greater than m -/
structure CntT (n : T_Net) (m : Int) (s : List (List Int)) : Prop where
  len : s.map List.length = n.Tables.map List.length
  pos : ∀ c ∈ s, ∀ x ∈ c, 0 ≤ x ∧ x ≤ m
theorem CntT.at {n : T_Net} {m : Int} {s : List (List Int)} (h : CntT n m s) : s.length = n.Tables.length ∧ ∀ (i : Nat) (c : List Int) (t : List T_Rule), s[i]? = some c → n.Tables[i]? = some t → c.length = t.length := by
  refine ⟨by have := congrArg List.length h.len; simpa using this, fun i c t hc ht => ?_⟩
  have := congrArg (·[i]?) h.len
  simp only [List.getElem?_map, hc, ht, Option.map_some, Option.some.injEq] at this
  exact this
/-- one hop counted -/
noncomputable def hopF (n : T_Net) (x : T_Hop) (s : List (List Int)) : Option (List (List Int)) :=
 (idx n.Tables (wr (x.At.Switch - 1))).bind fun r66 =>
 (t_rule_Find r66 x.Header).bind fun r70 =>
 (if (decide (0 ≤ r70)) = true then (
 need (decide (0 ≤ (wr (x.At.Switch - 1))) && decide ((wr (x.At.Switch - 1)) < (List.length s : Int))) (
 (idx s (wr (x.At.Switch - 1))).bind fun r81 =>
 (idx s (wr (x.At.Switch - 1))).bind fun r83 =>
 need (decide (0 ≤ r70) && decide (r70 < (List.length r83 : Int))) (
 (idx s (wr (x.At.Switch - 1))).bind fun r85 =>
 (idx r85 r70).bind fun r86 =>
 (idx s (wr (x.At.Switch - 1))).bind fun r89 =>
 need (decide (0 ≤ r70) && decide (r70 < (List.length r89 : Int))) (
 ((idx s (wr (x.At.Switch - 1))).bind fun a_ => (oset a_ r70 (wr (r86 + 1))).map fun b_ => List.set s (Int.toNat (wr (x.At.Switch - 1))) b_).bind fun r92 =>
 some (r92))))) else (
 some (s)))
noncomputable def hopK {β : Type} (n : T_Net) (x : T_Hop) (s : List (List Int)) (k50 : List (List Int) → Option β) : Option β :=
 (idx n.Tables (wr (x.At.Switch - 1))).bind fun r66 =>
 (t_rule_Find r66 x.Header).bind fun r70 =>
 (if (decide (0 ≤ r70)) = true then (
 need (decide (0 ≤ (wr (x.At.Switch - 1))) && decide ((wr (x.At.Switch - 1)) < (List.length s : Int))) (
 (idx s (wr (x.At.Switch - 1))).bind fun r81 =>
 (idx s (wr (x.At.Switch - 1))).bind fun r83 =>
 need (decide (0 ≤ r70) && decide (r70 < (List.length r83 : Int))) (
 (idx s (wr (x.At.Switch - 1))).bind fun r85 =>
 (idx r85 r70).bind fun r86 =>
 (idx s (wr (x.At.Switch - 1))).bind fun r89 =>
 need (decide (0 ≤ r70) && decide (r70 < (List.length r89 : Int))) (
 ((idx s (wr (x.At.Switch - 1))).bind fun a_ => (oset a_ r70 (wr (r86 + 1))).map fun b_ => List.set s (Int.toNat (wr (x.At.Switch - 1))) b_).bind fun r92 =>
 some (r92))))) else (
 some (s))).bind fun (s74 : (List (List Int))) =>
 k50 (s74)
theorem hopK_eq {β : Type} (n : T_Net) (x : T_Hop) (s : List (List Int)) (k : List (List Int) → Option β) : hopK n x s k = (hopF n x s).bind k := by
  unfold hopK hopF
  simp only [Option.bind_assoc]
theorem oset_eq' {α : Type} {l : List α} {i : Int} {y : α} (h0 : 0 ≤ i) (h1 : i < l.length) : oset l i y = some (l.set i.toNat y) := if_pos ⟨h0, h1⟩
theorem hopF_ok {n : T_Net} (hn : netGood n) {x : T_Hop} (hx : hopOk n x) {m : Int} (hm : 0 ≤ m ∧ m ≤ 100000) {s : List (List Int)} (hs : CntT n m s) : ∃ s', hopF n x s = some s' ∧ CntT n (m + 1) s' := by
  obtain ⟨a1, a2, _, _⟩ := hx.at_
  have hsw := hn.topo.sw
  have hln := hn.len
  obtain ⟨l1, l2⟩ := hs.at
  have hw : wr (x.At.Switch - 1) = x.At.Switch - 1 := wr_id (by omega) (by omega)
  obtain ⟨t, ht, htm, htn⟩ := idx_some (l := n.Tables) (i := x.At.Switch - 1) (by omega) (by omega)
  obtain ⟨c, hc, hcm, hcn⟩ := idx_some (l := s) (i := x.At.Switch - 1) (by omega) (by omega)
  have hlen := l2 _ c t hcn htn
  obtain ⟨i, h1, h2⟩ := s_Find t x.Header (hn.tabs t htm).1
  have keep : CntT n (m + 1) s := ⟨hs.len, fun c hc y hy => by have := hs.pos c hc y hy; omega⟩
  unfold hopF
  rw [hw, ht, Option.bind_some, h1, Option.bind_some]
  by_cases hi : i < 0
  · rw [if_neg (by simp; omega)]
    exact ⟨s, rfl, keep⟩
  · obtain ⟨v, hv, hvm, hvn⟩ := idx_some (l := c) (i := i) (by omega) (by omega)
    have hvp := hs.pos c hcm v hvm
    rw [if_pos (by simp; omega), need_pos (by simp; omega), hc]
    simp only [Option.bind_some]
    rw [need_pos (by simp; omega), hv]
    simp only [Option.bind_some]
    rw [need_pos (by simp; omega), oset_eq' (by omega) (by omega), wr_id (by omega) (by omega)]
    refine ⟨_, rfl, ?_, fun d hd y hy => ?_⟩
    · rw [List.map_set, List.length_set]
      refine Eq.trans ?_ hs.len
      apply List.ext_getElem?
      intro j
      rw [List.getElem?_set]
      split
      · rename_i e; subst e
        simp only [List.length_map, List.getElem?_map, hcn, Option.map_some]
        rw [if_pos (by omega)]
      · rfl
    · rcases List.mem_or_eq_of_mem_set hd with h | h
      · exact keep.pos d h y hy
      · rw [h] at hy
        rcases List.mem_or_eq_of_mem_set hy with h' | h'
        · exact keep.pos c hcm y h'
        · omega
noncomputable def cntF (n : T_Net) (fs : List T_Fate) (s : List (List Int)) : Option (List (List Int)) :=
 loopI fs (fun (i25 : Int) x26 (s21 : (List (List Int))) k22 =>
 ((loopI x26.Hops (fun (i53 : Int) x54 (s49 : (List (List Int))) k50 =>
 hopK n x54 s49 k50) (fun (s49 : (List (List Int))) =>
 some (s49)) (s21)).bind fun (s44 : (List (List Int))) =>
 some (s44)).bind fun (s33 : (List (List Int))) =>
 k22 (s33)) (fun (s21 : (List (List Int))) =>
 some (s21)) s
noncomputable def zerosV (n : T_Net) : List (List Int) := n.Tables.map fun t => List.replicate t.length 0
theorem s_count_eq (n : T_Net) (hT : ∀ t ∈ n.Tables, t.length ≤ 12) (hl : n.Tables.length ≤ 100) {fs : List T_Fate} (hf : t_load_fates n = some fs) : t_load_count n = cntF n fs (zerosV n) := by
  have hM : maxI = 9223372036854775807 := rfl
  unfold t_load_count
  rw [loopI_eq (l := n.Tables) (by omega), goI_map (f := fun t : List T_Rule => List.replicate t.length (0 : Int)) (B := 1000) n.Tables 0 [] (by simp; omega) fun x hx i s k hs => by
    have := hT x hx
    have ho : omake (List.length x : Int) (List.length x : Int) 0 = some (List.replicate x.length (0 : Int)) := by
      unfold omake
      rw [if_pos ⟨rfl, by omega, by omega⟩]; simp
    have hp : oapp s [List.replicate x.length (0 : Int)] = some (s ++ [List.replicate x.length (0 : Int)]) := if_pos ⟨by simp, by simp; omega⟩
    rw [ho, Option.bind_some, hp, Option.bind_some]]
  simp only [Option.bind_some, List.nil_append]
  rw [hf, Option.bind_some, bind_some_id]
  rfl
theorem cntF_ok {n : T_Net} (hn : netGood n) {fs : List T_Fate} (hfs : fs.length ≤ 1000) (hg : ∀ f ∈ fs, GoodF n f) : ∃ s, cntF n fs (zerosV n) = some s ∧ CntT n 24000 s := by
  have hM : maxI = 9223372036854775807 := rfl
  unfold cntF
  refine loopI_ex (Q := fun s => CntT n 24000 s) (fun i m s => (∀ f ∈ m, f ∈ fs) ∧ m.length ≤ 1000 ∧ CntT n (24 * (1000 - (m.length : Int))) s) (by omega) ⟨fun _ h => h, hfs, ?_, fun c hc x hx => ?_⟩ (fun i s hI => ⟨s, rfl, by simpa using hI.2.2⟩) (fun i f m s k hI hk => ?_)
  · simp only [zerosV, List.map_map]
    apply List.map_congr_left
    intro t _
    simp
  · simp only [zerosV, List.mem_map] at hc
    obtain ⟨t, _, rfl⟩ := hc
    have := (List.mem_replicate.1 hx).2
    omega
  · obtain ⟨h1, h2, h3⟩ := hI
    have hgf := hg f (h1 f (by simp))
    have hl := hgf.len
    simp only [List.length_cons] at h2 h3
    have inner : ∃ v, (loopI f.Hops (fun (i53 : Int) x54 (s49 : (List (List Int))) k50 => hopK n x54 s49 k50) (fun (s49 : (List (List Int))) => some (s49)) (s)) = some v ∧ CntT n (24 * (1000 - (m.length : Int))) v := by
      refine loopI_ex (Q := fun v => CntT n (24 * (1000 - (m.length : Int))) v) (fun i p s => (∀ y ∈ p, y ∈ f.Hops) ∧ p.length ≤ 24 ∧ CntT n (24 * (1000 - ((m.length + 1 : Nat) : Int)) + (24 - (p.length : Int))) s) (by omega) ⟨fun _ h => h, hl, h3.len, fun c hc x hx => ?_⟩ (fun i s hI => ⟨s, rfl, ?_⟩) (fun i y p s k hI hk => ?_)
      · have := h3.pos c hc x hx; omega
      · obtain ⟨_, _, q⟩ := hI
        refine ⟨q.len, fun c hc x hx => ?_⟩
        have := q.pos c hc x hx
        simp at this; omega
      · obtain ⟨q1, q2, q3⟩ := hI
        simp only [List.length_cons] at q2 q3
        obtain ⟨s', e1, e2⟩ := hopF_ok hn (hgf.ok y (q1 y (by simp))) (by omega) q3
        rw [hopK_eq, e1, Option.bind_some]
        refine hk s' ⟨fun z hz => q1 z (by simp [hz]), by omega, ⟨e2.len, fun c hc x hx => ?_⟩⟩
        have := e2.pos c hc x hx; omega
    obtain ⟨v, hv, hv2⟩ := inner
    rw [hv]
    simp only [Option.bind_some]
    exact hk v ⟨fun g hg => h1 g (by simp [hg]), by omega, hv2⟩
theorem s_count {n : T_Net} (hn : netGood n) : ∃ s, t_load_count n = some s ∧ CntT n 24000 s := by
  have hnh := hn.topo.nh
  have hsw := hn.topo.sw
  have hln := hn.len
  rw [s_count_eq n (fun t ht => (hn.tabs t ht).1) (by omega) (s_fates hn)]
  exact cntF_ok hn (by rw [fatesV_len]; omega) (fatesV_good hn)

theorem s_cubeCheckV (c : T_Cube) : t_cube_Check c = some (Go.Proofs.Ytpjadjoekdcjiaa.cchk c.Mask c.Bits) := by
  unfold t_cube_Check Go.Proofs.Ytpjadjoekdcjiaa.cchk t_cube_Header
  by_cases h1 : 0 ≤ c.Mask ∧ c.Mask < 16
  · by_cases h2 : 0 ≤ c.Bits ∧ c.Bits < 16
    · by_cases h3 : bits .andNot .i64 c.Bits c.Mask = 0 <;> simp [h1, h2, h3, gd_true]
    · have : ¬ (0 ≤ c.Bits) ∨ ¬ (c.Bits < 16) := by omega
      rcases this with h | h <;> simp [h1, h2, h, gd_true]
  · have : ¬ (0 ≤ c.Mask) ∨ ¬ (c.Mask < 16) := by omega
    rcases this with h | h <;> simp [h1, h, gd_false]
theorem s_ruleCheckV (r : T_Rule) : t_rule_Check r = some (rlOf r).chk := by
  unfold t_rule_Check Rl.chk Go.Proofs.Ytpjadjoekdcjiaa.rchk t_cube_Header
  rw [s_cubeCheckV]
  show _ = some (if 0 ≤ r.Prio ∧ r.Prio ≤ 99 ∧ 0 ≤ r.Out ∧ r.Out ≤ 4 ∧ (0 ≤ r.Set ∧ r.Set < 16) ∧ (0 ≤ r.Value ∧ r.Value < 16) then (if Go.Proofs.Ytpjadjoekdcjiaa.cchk r.Cube.Mask r.Cube.Bits = 0 then (if bits .andNot .i64 r.Value r.Set = 0 ∧ ¬ (r.Out = 0 ∧ r.Set ≠ 0) then 0 else 3) else Go.Proofs.Ytpjadjoekdcjiaa.cchk r.Cube.Mask r.Cube.Bits) else 1)
  have hR1 : (0 ≤ r.Prio ∧ r.Prio ≤ 99 ∧ 0 ≤ r.Out ∧ r.Out ≤ 4 ∧ (0 ≤ r.Set ∧ r.Set < 16) ∧ (0 ≤ r.Value ∧ r.Value < 16)) → (if 0 ≤ r.Prio ∧ r.Prio ≤ 99 ∧ 0 ≤ r.Out ∧ r.Out ≤ 4 ∧ (0 ≤ r.Set ∧ r.Set < 16) ∧ (0 ≤ r.Value ∧ r.Value < 16) then (if Go.Proofs.Ytpjadjoekdcjiaa.cchk r.Cube.Mask r.Cube.Bits = 0 then (if bits .andNot .i64 r.Value r.Set = 0 ∧ ¬ (r.Out = 0 ∧ r.Set ≠ 0) then 0 else 3) else Go.Proofs.Ytpjadjoekdcjiaa.cchk r.Cube.Mask r.Cube.Bits) else 1) = (if Go.Proofs.Ytpjadjoekdcjiaa.cchk r.Cube.Mask r.Cube.Bits = 0 then (if bits .andNot .i64 r.Value r.Set = 0 ∧ ¬ (r.Out = 0 ∧ r.Set ≠ 0) then 0 else 3) else Go.Proofs.Ytpjadjoekdcjiaa.cchk r.Cube.Mask r.Cube.Bits) := fun h => if_pos h
  have hR0 : ¬ (0 ≤ r.Prio ∧ r.Prio ≤ 99 ∧ 0 ≤ r.Out ∧ r.Out ≤ 4 ∧ (0 ≤ r.Set ∧ r.Set < 16) ∧ (0 ≤ r.Value ∧ r.Value < 16)) → (if 0 ≤ r.Prio ∧ r.Prio ≤ 99 ∧ 0 ≤ r.Out ∧ r.Out ≤ 4 ∧ (0 ≤ r.Set ∧ r.Set < 16) ∧ (0 ≤ r.Value ∧ r.Value < 16) then (if Go.Proofs.Ytpjadjoekdcjiaa.cchk r.Cube.Mask r.Cube.Bits = 0 then (if bits .andNot .i64 r.Value r.Set = 0 ∧ ¬ (r.Out = 0 ∧ r.Set ≠ 0) then 0 else 3) else Go.Proofs.Ytpjadjoekdcjiaa.cchk r.Cube.Mask r.Cube.Bits) else 1) = 1 := fun h => if_neg h
  generalize (if 0 ≤ r.Prio ∧ r.Prio ≤ 99 ∧ 0 ≤ r.Out ∧ r.Out ≤ 4 ∧ (0 ≤ r.Set ∧ r.Set < 16) ∧ (0 ≤ r.Value ∧ r.Value < 16) then (if Go.Proofs.Ytpjadjoekdcjiaa.cchk r.Cube.Mask r.Cube.Bits = 0 then (if bits .andNot .i64 r.Value r.Set = 0 ∧ ¬ (r.Out = 0 ∧ r.Set ≠ 0) then 0 else 3) else Go.Proofs.Ytpjadjoekdcjiaa.cchk r.Cube.Mask r.Cube.Bits) else 1) = R at hR1 hR0
  cases hA : (((decide (r.Prio < 0) || decide (99 < r.Prio)) || decide (r.Out < 0)) || decide (4 < r.Out)) with
  | true =>
    rw [hR0 (by simp only [Bool.or_eq_true, decide_eq_true_eq] at hA; omega)]
    simp [gd]
  | false =>
    simp only [Bool.or_eq_false_iff, decide_eq_false_iff_not, Int.not_lt] at hA
    by_cases h1 : 0 ≤ r.Set ∧ r.Set < 16
    · by_cases h2 : 0 ≤ r.Value ∧ r.Value < 16
      · rw [hR1 ⟨hA.1.1.1, hA.1.1.2, hA.1.2, hA.2, h1, h2⟩]
        have e1 : (decide (0 ≤ r.Set) && decide (r.Set < 16)) = true := by simp [h1]
        have e2 : (decide (0 ≤ r.Value) && decide (r.Value < 16)) = true := by simp [h2]
        simp only [Bool.not_false, gd_true, e1, e2, Option.bind_some, Bool.not_true, Bool.or_self, Bool.false_eq_true, if_false]
        by_cases h3 : Go.Proofs.Ytpjadjoekdcjiaa.cchk r.Cube.Mask r.Cube.Bits = 0
        · rw [if_neg (by simpa using h3), if_pos h3]
          generalize bits .andNot .i64 r.Value r.Set = B
          by_cases h4 : B = 0 <;> by_cases h5 : r.Out = 0 <;> by_cases h6 : r.Set = 0 <;> simp [h4, h5, h6]
        · rw [if_pos (by simpa using h3), if_neg h3]
      · rw [hR0 (by omega)]
        have e1 : (decide (0 ≤ r.Set) && decide (r.Set < 16)) = true := by simp [h1]
        have e2 : (decide (0 ≤ r.Value) && decide (r.Value < 16)) = false := by simp; omega
        simp only [Bool.not_false, gd_true, e1, e2, Option.bind_some, Bool.not_true, Bool.or_self, Bool.false_eq_true, if_false, Bool.or_true, if_true]
    · rw [hR0 (by omega)]
      have e1 : (decide (0 ≤ r.Set) && decide (r.Set < 16)) = false := by simp; omega
      simp [gd, e1]
theorem s_cfV (x : T_Rule) (l : List T_Rule) (hl : (l.length : Int) ≤ maxI) : t_slices_ContainsFunc_api_Table_api_Rule l (fun a33 => t_rule_Table_1 a33 x) = some (l.any fun y => (rlOf y).key (rlOf x)) := by
  unfold t_slices_ContainsFunc_api_Table_api_Rule t_slices_IndexFunc_api_Table_api_Rule
  rw [join_eq, loopI_eq hl]
  have hk : ∀ y : T_Rule, t_rule_Table_1 y x = some ((rlOf y).key (rlOf x)) := fun y => by
    unfold t_rule_Table_1 t_rule_Key
    simp only [Option.bind_some, Option.some.injEq]
    show (decide (y.Prio = x.Prio) && decide (y.Cube = x.Cube)) = decide (y.Prio = x.Prio ∧ y.Cube.Mask = x.Cube.Mask ∧ y.Cube.Bits = x.Cube.Bits)
    rw [Bool.eq_iff_iff]
    simp [T_Cube.ext_iff2]
  have : ∀ (l : List T_Rule) (i : Int), 0 ≤ i → ∃ j, goI (fun (i13 : Int) x14 (s9 : Unit) k10 => (t_rule_Table_1 x14 x).bind fun r22 => if r22 = true then (some i13) else (k10 ())) (fun _ => some (-1 : Int)) i l () = some j ∧ (decide (0 ≤ j)) = l.any fun y => (rlOf y).key (rlOf x) := by
    intro l
    induction l with
    | nil => intro i _; exact ⟨-1, rfl, rfl⟩
    | cons y l ih =>
      intro i hi
      rw [goI, hk, Option.bind_some]
      cases h : (rlOf y).key (rlOf x) with
      | true => exact ⟨i, if_pos rfl, by simp [h, hi]⟩
      | false =>
        obtain ⟨j, h1, h2⟩ := ih (i + 1) (by omega)
        refine ⟨j, ?_, by rw [h2]; simp [h]⟩
        rw [if_neg (by simp)]; exact h1
  obtain ⟨j, h1, h2⟩ := this l 0 (Int.le_refl _)
  rw [h1, Option.bind_some, h2]
theorem s_rTableV (t : List T_Rule) : t_rule_Table t = some (tchk (t.map rlOf)) := by
  have hM : maxI = 9223372036854775807 := rfl
  unfold t_rule_Table tchk
  rw [List.length_map]
  by_cases h1 : t.length > 12
  · rw [if_pos (by simp; omega), if_pos h1]
  · rw [if_neg (by simp; omega), if_neg h1, join_eq, loopI_eq (by omega)]
    have : ∀ (l p : List T_Rule), t = p ++ l → goI (fun (i17 : Int) x18 (s13 : Unit) k14 =>
        (t_rule_Check x18).bind fun r28 =>
        if (!decide (r28 = 0)) = true then (some r28) else (
        (slc_hi t i17).bind fun r32 =>
        (t_slices_ContainsFunc_api_Table_api_Rule r32 (fun (a33 : T_Rule) => t_rule_Table_1 a33 x18)).bind fun r35 =>
        if r35 = true then (some 7) else (k14 ()))) (fun (s13 : Unit) => some 0) (p.length : Int) l () = some (tfaultFrom (p.map rlOf) (l.map rlOf)) := by
      intro l
      induction l with
      | nil => intro p _; rfl
      | cons x l ih =>
        intro p hp
        have hpl : p.length ≤ t.length := by rw [hp]; simp
        rw [goI, s_ruleCheckV, Option.bind_some, List.map_cons, tfaultFrom]
        by_cases h2 : (rlOf x).chk = 0
        · have hs : slc_hi t (p.length : Int) = some p := by
            unfold slc_hi
            rw [if_pos ⟨by omega, by omega⟩, Int.toNat_natCast, hp]; simp
          rw [if_neg (by simpa using h2), if_neg (by simpa using h2), hs, Option.bind_some, s_cfV x p (by omega), Option.bind_some]
          have ha : (p.any fun y => (rlOf y).key (rlOf x)) = ((p.map rlOf).any fun y => y.key (rlOf x)) := by rw [List.any_map]; rfl
          rw [ha]
          cases hk : (p.map rlOf).any fun y => y.key (rlOf x) with
          | true => rfl
          | false =>
            rw [if_neg (by simp), if_neg (by simp)]
            have := ih (p ++ [x]) (by rw [hp]; simp)
            simp only [List.length_append, List.length_singleton, List.map_append, List.map_cons, List.map_nil] at this
            have e : (p.length : Int) + 1 = ((p.length + 1 : Nat) : Int) := by omega
            rw [e]; exact this
        · rw [if_pos (by simpa using h2), if_pos h2]
    exact this t [] rfl
/-- a change that is right makes a table that is right -/
theorem do_tok {t : List T_Rule} {add : Bool} {r : T_Rule} (h : doF t add r = 0) : Tok (t.map rlOf) ∧ Tok ((doV t add r).map rlOf) := by
  have h' : tdoF (t.map rlOf) add (rlOf r) = 0 := h
  have ht : Tok (t.map rlOf) := by
    refine tchk_iff.1 ?_
    by_cases h0 : tchk (t.map rlOf) = 0
    · exact h0
    · unfold tdoF at h'
      rw [if_pos h0] at h'
      exact h'
  have hv : (doV t add r).map rlOf = tdoR (t.map rlOf) add (rlOf r) := by
    unfold doV
    rw [tdoV_ok h', List.map_map]; exact List.map_id _
  refine ⟨ht, ?_⟩
  rw [hv]
  cases add with
  | true =>
    have := tdo_add_tok h'
    unfold tdoR
    rw [if_pos rfl]; exact this
  | false =>
    unfold tdoR
    rw [if_neg (by simp)]
    exact ht.sub (List.eraseIdx_sublist _ _)

def abv (x y : T_Rule) : Prop := y.Prio < x.Prio ∨ (x.Prio = y.Prio ∧ (y.Cube.Mask < x.Cube.Mask ∨ (x.Cube.Mask = y.Cube.Mask ∧ y.Cube.Bits < x.Cube.Bits)))
instance (x y : T_Rule) : Decidable (abv x y) := by unfold abv; infer_instance
theorem s_aboveV (x y : T_Rule) : ∃ c, t_rule_above x y = some c ∧ (0 < c ↔ abv x y) := by
  unfold t_rule_above
  simp only [s_cmp, s_cmpOr, Option.bind_some]
  refine ⟨_, rfl, ?_⟩
  unfold abv
  by_cases h1 : x.Prio < y.Prio
  · simp [h1]; omega
  · by_cases h2 : y.Prio < x.Prio
    · simp [h1, h2]
    · by_cases h3 : x.Cube.Mask < y.Cube.Mask
      · simp [h1, h2, h3]; omega
      · by_cases h4 : y.Cube.Mask < x.Cube.Mask
        · simp [h1, h2, h3, h4]; omega
        · by_cases h5 : x.Cube.Bits < y.Cube.Bits
          · simp [h1, h2, h3, h4, h5]; omega
          · by_cases h6 : y.Cube.Bits < x.Cube.Bits
            · simp [h1, h2, h3, h4, h5, h6]; omega
            · simp [h1, h2, h3, h4, h5, h6]
theorem abv_trans {x y z : T_Rule} (h : abv x y) (k : abv y z) : abv x z := by unfold abv at *; omega
theorem abv_irr (x : T_Rule) : ¬ abv x x := by unfold abv; omega
theorem abv_key {x y : T_Rule} (h : ¬ abv x y) (k : ¬ abv y x) : (rlOf x).key (rlOf y) = true := by
  show decide (x.Prio = y.Prio ∧ x.Cube.Mask = y.Cube.Mask ∧ x.Cube.Bits = y.Cube.Bits) = true
  unfold abv at *
  simp only [decide_eq_true_eq]
  omega
/-- whether a rule has a header -/
def mat1 (r : T_Rule) (h : Int) : Bool := decide ((bits .and .i64 h r.Cube.Mask) = r.Cube.Bits)
def bstep1 (h : Int) (b : Option T_Rule) (x : T_Rule) : Option T_Rule := match b with
  | none => if mat1 x h = true then some x else none
  | some r => if mat1 x h = true ∧ abv x r then some x else some r
/-- the rule that counts -/
def best (h : Int) (t : List T_Rule) : Option T_Rule := t.foldl (bstep1 h) none
theorem best_inv (h : Int) : ∀ (l p : List T_Rule) (b : Option T_Rule), (b = none → ∀ y ∈ p, mat1 y h = false) → (∀ r, b = some r → r ∈ p ∧ mat1 r h = true ∧ ∀ y ∈ p, mat1 y h = true → ¬ abv y r) →
    ((l.foldl (bstep1 h) b = none → ∀ y ∈ p ++ l, mat1 y h = false) ∧ ∀ r, l.foldl (bstep1 h) b = some r → r ∈ p ++ l ∧ mat1 r h = true ∧ ∀ y ∈ p ++ l, mat1 y h = true → ¬ abv y r)
  | [], p, b, h1, h2 => by simpa using ⟨h1, h2⟩
  | x :: l, p, b, h1, h2 => by
    have e : p ++ x :: l = (p ++ [x]) ++ l := by simp
    rw [e, List.foldl_cons]
    refine best_inv h l (p ++ [x]) (bstep1 h b x) (fun hb y hy => ?_) (fun r hr => ?_)
    · cases b with
      | none =>
        unfold bstep1 at hb
        by_cases hx : mat1 x h = true
        · simp [hx] at hb
        · rcases List.mem_append.1 hy with hy | hy
          · exact h1 rfl y hy
          · simp at hy; subst hy; simpa using hx
      | some r0 =>
        simp only [bstep1] at hb
        by_cases hx : mat1 x h = true ∧ abv x r0
        · rw [if_pos hx] at hb; cases hb
        · rw [if_neg hx] at hb; cases hb
    · cases b with
      | none =>
        unfold bstep1 at hr
        by_cases hx : mat1 x h = true
        · simp only [hx, if_true, Option.some.injEq] at hr
          subst hr
          refine ⟨by simp, hx, fun y hy hm => ?_⟩
          rcases List.mem_append.1 hy with hy | hy
          · rw [h1 rfl y hy] at hm; cases hm
          · simp at hy; subst hy; exact abv_irr y
        · simp [hx] at hr
      | some r0 =>
        obtain ⟨q1, q2, q3⟩ := h2 r0 rfl
        unfold bstep1 at hr
        by_cases hx : mat1 x h = true ∧ abv x r0
        · simp only [hx, and_self, if_true, Option.some.injEq] at hr
          subst hr
          refine ⟨by simp, hx.1, fun y hy hm k => ?_⟩
          rcases List.mem_append.1 hy with hy | hy
          · exact q3 y hy hm (abv_trans k hx.2)
          · simp at hy; subst hy; exact abv_irr y k
        · simp only [hx, if_false, Option.some.injEq] at hr
          subst hr
          refine ⟨by simp [q1], q2, fun y hy hm k => ?_⟩
          rcases List.mem_append.1 hy with hy | hy
          · exact q3 y hy hm k
          · simp at hy; subst hy; exact hx ⟨hm, k⟩
theorem best_none {h : Int} {t : List T_Rule} (hb : best h t = none) : ∀ y ∈ t, mat1 y h = false := by
  have := (best_inv h t [] none (fun _ y hy => by simp at hy) (fun r hr => by cases hr)).1 hb
  simpa using this
theorem best_some {h : Int} {t : List T_Rule} {r : T_Rule} (hb : best h t = some r) : r ∈ t ∧ mat1 r h = true ∧ ∀ y ∈ t, mat1 y h = true → ¬ abv y r := by
  have := (best_inv h t [] none (fun _ y hy => by simp at hy) (fun r hr => by cases hr)).2 r hb
  simpa using this
/-- of fewer rules the same one, if it is among them -/
theorem best_sub {h : Int} {t u : List T_Rule} (ht : Tok (t.map rlOf)) (hu : ∀ y ∈ u, y ∈ t) (hr : ∀ r, best h t = some r → r ∈ u) : best h u = best h t := by
  cases hb : best h t with
  | none =>
    cases hc : best h u with
    | none => rfl
    | some r =>
      obtain ⟨h1, h2, _⟩ := best_some hc
      rw [best_none hb r (hu r h1)] at h2
      cases h2
  | some r =>
    obtain ⟨h1, h2, h3⟩ := best_some hb
    have hru := hr r hb
    cases hc : best h u with
    | none => rw [best_none hc r hru] at h2; cases h2
    | some q =>
      obtain ⟨k1, k2, k3⟩ := best_some hc
      congr 1
      by_cases e : q = r
      · exact e
      · exfalso
        have hk := abv_key (h3 q (hu q k1) k2) (k3 r hru h2)
        have hne : rlOf q ≠ rlOf r := fun h => e (by have := congrArg ofRl h; exact this)
        rw [ht.apart (List.mem_map_of_mem (hu q k1)) (List.mem_map_of_mem h1) hne] at hk
        cases hk
/-- where it lies -/
theorem s_FindB (t : List T_Rule) (h : Int) (ht : t.length ≤ 100) : ∃ i, t_rule_Find t h = some i ∧ ((i < 0 ∧ best h t = none) ∨ ∃ (j : Nat) (r : T_Rule), i = j ∧ t[j]? = some r ∧ best h t = some r) := by
  have hM : maxI = 9223372036854775807 := rfl
  unfold t_rule_Find
  rw [bind_some_id, loopI_eq (by omega)]
  have : ∀ (l p : List T_Rule) (s : Int) (b : Option T_Rule), t = p ++ l → ((s < 0 ∧ b = none) ∨ ∃ (j : Nat) (r : T_Rule), s = j ∧ t[j]? = some r ∧ b = some r) → ∃ i, goI (fun (i13 : Int) x14 (s9 : Int) k10 =>
      (gd ((decide ((bits .and .i64 h x14.Cube.Mask) = x14.Cube.Bits)) && (!(decide (s9 < 0)))) default (idx t s9)).bind fun r43 =>
      (gd ((decide ((bits .and .i64 h x14.Cube.Mask) = x14.Cube.Bits)) && (!(decide (s9 < 0)))) default (t_rule_above x14 r43)).bind fun r50 =>
      (if ((decide ((bits .and .i64 h x14.Cube.Mask) = x14.Cube.Bits)) && ((decide (s9 < 0)) || (decide (0 < r50)))) = true then (some i13) else (some (s9))).bind fun (s60 : Int) => k10 (s60)) (fun (s9 : Int) => some (s9)) (p.length : Int) l s = some i ∧ ((i < 0 ∧ l.foldl (bstep1 h) b = none) ∨ ∃ (j : Nat) (r : T_Rule), i = j ∧ t[j]? = some r ∧ l.foldl (bstep1 h) b = some r) := by
    intro l
    induction l with
    | nil => intro p s b _ hs; exact ⟨s, rfl, hs⟩
    | cons x l ih =>
      intro p s b hp hs
      have hx : t[p.length]? = some x := by rw [hp]; simp
      have e : (p.length : Int) + 1 = (((p ++ [x]).length : Nat) : Int) := by simp
      rw [goI, List.foldl_cons]
      show ∃ i, (gd (mat1 x h && !decide (s < 0)) default (idx t s)).bind _ = _ ∧ _
      rcases hs with ⟨h1, rfl⟩ | ⟨j, r, rfl, h2, rfl⟩
      · have h1' : decide (s < 0) = true := by simpa using h1
        simp only [h1', Bool.not_true, Bool.and_false, gd_false, Option.bind_some, Bool.true_or, Bool.and_true]
        by_cases hm : mat1 x h = true
        · have hm' : decide ((bits .and .i64 h x.Cube.Mask) = x.Cube.Bits) = true := hm
          rw [hm', if_pos rfl, Option.bind_some, e]
          exact ih (p ++ [x]) p.length (bstep1 h none x) (by rw [hp]; simp) (.inr ⟨p.length, x, rfl, hx, by unfold bstep1; simp [hm]⟩)
        · have hm' : decide ((bits .and .i64 h x.Cube.Mask) = x.Cube.Bits) = false := by
            cases hd : decide ((bits .and .i64 h x.Cube.Mask) = x.Cube.Bits) with
            | false => rfl
            | true => exact absurd hd hm
          rw [hm', if_neg (by simp), Option.bind_some, e]
          exact ih (p ++ [x]) s (bstep1 h none x) (by rw [hp]; simp) (.inl ⟨h1, by unfold bstep1; simp [hm]⟩)
      · have h1' : decide ((j : Int) < 0) = false := by simp
        obtain ⟨c, hc, hcp⟩ := s_aboveV x r
        have hi : idx t (j : Int) = some r := by rw [idx_nat]; exact h2
        by_cases hm : mat1 x h = true
        · have hm' : decide ((bits .and .i64 h x.Cube.Mask) = x.Cube.Bits) = true := hm
          simp only [hm, hm', h1', Bool.not_false, Bool.and_self, gd_true, hi, hc, Option.bind_some, Bool.false_or, Bool.true_and]
          by_cases ha : abv x r
          · rw [if_pos (by simpa using hcp.2 ha), Option.bind_some, e]
            exact ih (p ++ [x]) p.length (bstep1 h (some r) x) (by rw [hp]; simp) (.inr ⟨p.length, x, rfl, hx, by unfold bstep1; simp [hm, ha]⟩)
          · rw [if_neg (by simpa using fun h => ha (hcp.1 h)), Option.bind_some, e]
            exact ih (p ++ [x]) j (bstep1 h (some r) x) (by rw [hp]; simp) (.inr ⟨j, r, rfl, h2, by unfold bstep1; simp [ha]⟩)
        · have hm' : decide ((bits .and .i64 h x.Cube.Mask) = x.Cube.Bits) = false := by
            cases hd : decide ((bits .and .i64 h x.Cube.Mask) = x.Cube.Bits) with
            | false => rfl
            | true => exact absurd hd hm
          have hm2 : mat1 x h = false := by simpa using hm
          simp only [hm2, hm', Bool.false_and, gd_false, Option.bind_some, Bool.false_eq_true, if_false]
          rw [e]
          exact ih (p ++ [x]) j (bstep1 h (some r) x) (by rw [hp]; simp) (.inr ⟨j, r, rfl, h2, by unfold bstep1; simp [hm]⟩)
  obtain ⟨i, h1, h2⟩ := this t [] (-1) none rfl (.inl ⟨by decide, rfl⟩)
  exact ⟨i, h1, h2⟩
/-- where it goes out -/
def outB (b : Option T_Rule) (at_ : T_Spot) (h : Int) : T_Spot × Int × Bool := match b with
  | none => (⟨0, 0⟩, 0, false)
  | some r => if r.Out = 0 then (⟨0, 0⟩, 0, false) else (⟨at_.Switch, r.Out⟩, bits .or .i64 (bits .andNot .i64 h r.Set) r.Value, true)
theorem outV_B {t : List T_Rule} (ht : t.length ≤ 100) (at_ : T_Spot) (h : Int) : outV t at_ h = outB (best h t) at_ h := by
  obtain ⟨i, h1, h2⟩ := s_FindB t h ht
  unfold outV t_net_Out
  rw [h1, Option.bind_some]
  rcases h2 with ⟨hi, hb⟩ | ⟨j, r, rfl, hr, hb⟩
  · rw [hb]
    have : decide (i < 0) = true := by simpa using hi
    simp only [this, Bool.not_true, gd_false, Option.bind_some, Bool.true_or, if_true]
    rfl
  · have hi : idx t (j : Int) = some r := by rw [idx_nat]; exact hr
    have h0 : decide ((j : Int) < 0) = false := by simp
    rw [hb]
    simp only [h0, Bool.not_false, gd_true, hi, Option.bind_some, Bool.false_or, decide_eq_true_eq]
    unfold outB
    by_cases ho : r.Out = 0
    · simp [ho]
    · simp [ho]

def tabN (n : T_Net) (i : Nat) : List T_Rule := n.Tables.getD i []
/-- a hop at which the rule j of switch i counts -/
noncomputable def hit (n : T_Net) (i j : Nat) (y : T_Hop) : Bool := decide ((y.At.Switch - 1).toNat = i) && decide (t_rule_Find (tabN n i) y.Header = some (j : Int))
noncomputable def cntR (n : T_Net) (hs : List T_Hop) (i : Nat) : List Int := (List.range (tabN n i).length).map fun j => ((hs.countP (hit n i j) : Nat) : Int)
noncomputable def cntT (n : T_Net) (hs : List T_Hop) : List (List Int) := (List.range n.Tables.length).map (cntR n hs)
theorem set_range {α : Type} {L k : Nat} {f g : Nat → α} {x : α} (hk : k < L) (h : ∀ i, i < L → i ≠ k → f i = g i) (hx : g k = x) : ((List.range L).map f).set k x = (List.range L).map g := by
  refine List.ext_getElem? fun i => ?_
  rw [List.getElem?_set]
  by_cases e : k = i
  · subst e
    rw [if_pos rfl, if_pos (by simpa using hk)]
    simp [hk, hx]
  · rw [if_neg e]
    by_cases hi : i < L
    · simp [hi, h i hi (Ne.symm e)]
    · simp [hi]
theorem cntR_at {n : T_Net} {hs : List T_Hop} {i j : Nat} (hj : j < (tabN n i).length) : (cntR n hs i)[j]? = some ((hs.countP (hit n i j) : Nat) : Int) := by
  unfold cntR
  simp [hj]
theorem hop_cnt {n : T_Net} (hn : netGood n) {y : T_Hop} (hy : hopOk n y) {hs : List T_Hop} (hl : hs.length ≤ 100000) : hopF n y (cntT n hs) = some (cntT n (hs ++ [y])) := by
  obtain ⟨a1, a2, _, _⟩ := hy.at_
  have hsw := hn.topo.sw
  have hln := hn.len
  have hk : (y.At.Switch - 1).toNat < n.Tables.length := by omega
  have hw : wr (y.At.Switch - 1) = (((y.At.Switch - 1).toNat : Nat) : Int) := by rw [wr_id (by omega) (by omega)]; omega
  have hti : idx n.Tables (((y.At.Switch - 1).toNat : Nat) : Int) = some (tabN n (y.At.Switch - 1).toNat) := by
    rw [idx_nat]; unfold tabN; rw [List.getD, List.getElem?_eq_getElem hk]; rfl
  have hgt : tblGood (tabN n (y.At.Switch - 1).toNat) := hn.tabs _ (by
    unfold tabN; rw [List.getD, List.getElem?_eq_getElem hk]; exact List.getElem_mem hk)
  have hci : idx (cntT n hs) (((y.At.Switch - 1).toNat : Nat) : Int) = some (cntR n hs (y.At.Switch - 1).toNat) := by
    rw [idx_nat]; unfold cntT; rw [List.getElem?_map, List.getElem?_range hk]; rfl
  have hcl : (cntT n hs).length = n.Tables.length := by unfold cntT; simp
  generalize hkk : (y.At.Switch - 1).toNat = k at *
  obtain ⟨i, h1, h2⟩ := s_Find (tabN n k) y.Header hgt.1
  have hother : ∀ i' j, i' ≠ k → hit n i' j y = false := fun i' j h => by
    unfold hit
    rw [hkk]
    simp [Ne.symm h]
  have hcnt : ∀ i' j, (hs ++ [y]).countP (hit n i' j) = hs.countP (hit n i' j) + if hit n i' j y = true then 1 else 0 := fun i' j => by
    rw [List.countP_append, List.countP_singleton]
  have hrow : ∀ i', i' ≠ k → cntR n hs i' = cntR n (hs ++ [y]) i' := fun i' h => by
    unfold cntR
    refine List.map_congr_left fun j _ => ?_
    rw [hcnt, hother i' j h]
    simp
  unfold hopF
  rw [hw, hti, Option.bind_some, h1, Option.bind_some]
  by_cases hi : i < 0
  · rw [if_neg (by simp; omega)]
    congr 1
    unfold cntT
    refine List.map_congr_left fun i' _ => ?_
    by_cases e : i' = k
    · subst e
      unfold cntR
      refine List.map_congr_left fun j _ => ?_
      have : hit n i' j y = false := by
        unfold hit
        rw [h1]
        simp; intro _; omega
      rw [hcnt, this]; simp
    · exact hrow i' e
  · have hik : i.toNat < (tabN n k).length := by omega
    have hii : i = ((i.toNat : Nat) : Int) := by omega
    generalize hjj : i.toNat = j at hik hii
    subst hii
    have hv := cntR_at (n := n) (hs := hs) hik
    have hvl : (cntR n hs k).length = (tabN n k).length := by unfold cntR; simp
    have hle : hs.countP (hit n k j) ≤ hs.length := List.countP_le_length
    have hvi : idx (cntR n hs k) (j : Int) = some ((hs.countP (hit n k j) : Nat) : Int) := by rw [idx_nat]; exact hv
    rw [if_pos (by simp), need_pos (by simp; omega), hci]
    simp only [Option.bind_some]
    rw [need_pos (by simp; omega), hvi]
    simp only [Option.bind_some]
    rw [need_pos (by simp; omega), oset_eq' (by omega) (by omega), wr_id (by omega) (by omega)]
    simp only [Option.map_some, Option.bind_some, Int.toNat_natCast]
    congr 1
    unfold cntT
    refine set_range hk (fun i' _ h => hrow i' h) ?_
    unfold cntR
    symm
    refine set_range hik (fun j' _ h => ?_) ?_
    · have : hit n k j' y = false := by
        unfold hit
        rw [h1]
        simp; intro _; omega
      rw [hcnt, this]; simp
    · have : hit n k j y = true := by
        unfold hit
        rw [h1, hkk]
        simp
      rw [hcnt, this]; simp
theorem cnt_zero (n : T_Net) : cntT n [] = zerosV n := by
  unfold cntT zerosV
  refine List.ext_getElem? fun i => ?_
  by_cases hi : i < n.Tables.length
  · simp only [List.getElem?_map, List.getElem?_range hi, Option.map_some, List.getElem?_eq_getElem hi]
    congr 1
    unfold cntR tabN
    rw [List.getD, List.getElem?_eq_getElem hi, Option.getD_some]
    refine List.ext_getElem? fun j => ?_
    by_cases hj : j < (n.Tables[i]).length
    · simp [hj]
    · simp [hj]
  · simp [hi]
theorem cnt_hops {n : T_Net} (hn : netGood n) {β : Type} {fin : List (List Int) → Option β} : ∀ (l : List T_Hop) (i : Int) (hs : List T_Hop), (∀ y ∈ l, hopOk n y) → hs.length + l.length ≤ 100000 → goI (fun (i53 : Int) x54 (s49 : (List (List Int))) k50 => hopK n x54 s49 k50) fin i l (cntT n hs) = fin (cntT n (hs ++ l))
  | [], i, hs, _, _ => by rw [goI, List.append_nil]
  | y :: l, i, hs, h, hl => by
    simp only [List.length_cons] at hl
    rw [goI, hopK_eq, hop_cnt hn (h y (by simp)) (by omega), Option.bind_some]
    refine (cnt_hops hn l (i + 1) (hs ++ [y]) (fun z hz => h z (by simp [hz])) (by simp; omega)).trans ?_
    simp
/-- all hops of all fates -/
def hopsOf (fs : List T_Fate) : List T_Hop := fs.flatMap fun f => f.Hops
theorem cntF_eq {n : T_Net} (hn : netGood n) : ∀ (fs : List T_Fate), fs.length ≤ 1000 → (∀ f ∈ fs, GoodF n f) → cntF n fs (zerosV n) = some (cntT n (hopsOf fs)) := fun fs hl hg => by
  have hM : maxI = 9223372036854775807 := rfl
  unfold cntF
  rw [loopI_eq (by omega), ← cnt_zero]
  have : ∀ (m p : List T_Fate) (i : Int), fs = p ++ m → (hopsOf p).length ≤ 24 * p.length → goI (fun (i25 : Int) x26 (s21 : (List (List Int))) k22 =>
     ((loopI x26.Hops (fun (i53 : Int) x54 (s49 : (List (List Int))) k50 => hopK n x54 s49 k50) (fun (s49 : (List (List Int))) => some (s49)) (s21)).bind fun (s44 : (List (List Int))) => some (s44)).bind fun (s33 : (List (List Int))) =>
     k22 (s33)) (fun (s21 : (List (List Int))) => some (s21)) i m (cntT n (hopsOf p)) = some (cntT n (hopsOf (p ++ m))) := by
    intro m
    induction m with
    | nil => intro p i _ _; simp [goI]
    | cons f m ih =>
      intro p i hp hpl
      have hgf := hg f (by rw [hp]; simp)
      have hfl := hgf.len
      have hplen : p.length ≤ 1000 := by
        have := congrArg List.length hp
        simp at this; omega
      rw [goI, bind_some_id, loopI_eq (by omega), cnt_hops hn f.Hops 0 (hopsOf p) hgf.ok (by omega), Option.bind_some]
      have e : hopsOf p ++ f.Hops = hopsOf (p ++ [f]) := by simp [hopsOf]
      rw [e]
      refine (ih (p ++ [f]) (i + 1) (by rw [hp]; simp) ?_).trans (by simp)
      rw [← e]; simp; omega
  exact this fs [] 0 rfl (by simp [hopsOf])
theorem s_countV {n : T_Net} (hn : netGood n) : t_load_count n = some (cntT n (hopsOf (fatesV n))) := by
  have hnh := hn.topo.nh
  have hsw := hn.topo.sw
  have hln := hn.len
  rw [s_count_eq n (fun t ht => (hn.tabs t ht).1) (by omega) (s_fates hn)]
  exact cntF_eq hn _ (by rw [fatesV_len]; omega) (fatesV_good hn)

def nilNet : T_Net := T_Net.mk (T_Topo.mk 0 [] []) []
/-- a net that is right -/
structure NOk (n : T_Net) : Prop where
  sw : 1 ≤ n.Topo.Switches ∧ n.Topo.Switches ≤ 6
  chk : t_topo_Check n.Topo = some 0
  nl : n.Topo.Links.length ≤ 200
  nh : n.Topo.Hosts.length ≤ 8
  len : (n.Tables.length : Int) = n.Topo.Switches
  tabs : ∀ t ∈ n.Tables, Tok (t.map rlOf)
theorem netCheck_first (n : T_Net) (hg : topoGood n.Topo) (hc : t_topo_Check n.Topo = some 0) (hl : (n.Tables.length : Int) = n.Topo.Switches) : t_net_Check n = some (firstF (fun t => tchk (t.map rlOf)) n.Tables) := by
  have hM : maxI = 9223372036854775807 := rfl
  have := hg.sw
  unfold t_net_Check
  rw [hc, Option.bind_some, if_neg (by simp), if_neg (by simpa using hl), join_eq, loopI_eq (by omega)]
  refine goI_first rfl _ _ fun x _ i k => ?_
  rw [s_rTableV, Option.bind_some]
  by_cases h : tchk (x.map rlOf) = 0
  · rw [if_neg (by simpa using h), if_neg (by simpa using h)]
  · rw [if_pos (by simpa using h), if_pos h]
theorem netCheck_ok {n : T_Net} (hn : ∀ h ∈ n.Topo.Hosts, (h.Name.size : Int) ≤ maxI) : t_net_Check n = some 0 ↔ NOk n := by
  constructor
  · intro h
    obtain ⟨c, h1, h2⟩ := s_netCheck n hn
    rw [h] at h1
    obtain rfl := Option.some.inj h1
    have hg := h2 rfl
    refine ⟨hg.topo.sw, hg.chk, hg.topo.nl, hg.topo.nh, hg.len, ?_⟩
    rw [netCheck_first n hg.topo hg.chk hg.len] at h
    exact fun t ht => tchk_iff.1 (firstF_0.1 (Option.some.inj h) t ht)
  · intro h
    obtain ⟨c, h1, h2⟩ := s_topoCheck n.Topo hn
    rw [h.chk] at h1
    obtain rfl := Option.some.inj h1
    rw [netCheck_first n (h2 rfl) h.chk h.len, firstF_0.2 fun t ht => tchk_iff.2 (h.tabs t ht)]
theorem s_Own (n : T_Net) (h : NOk n) : t_change_Own n = some n := by
  have hM : maxI = 9223372036854775807 := rfl
  have h1 := h.sw
  have h2 := h.nl
  have h3 := h.nh
  have h4 := h.len
  have hc : ∀ {α : Type} (l : List α), l.length ≤ 4294967296 → cln l = some l := fun l hl => if_pos hl
  unfold t_change_Own
  rw [hc _ (by omega), Option.bind_some, hc _ (by omega), Option.bind_some]
  have ho : omake (n.Tables.length : Int) (n.Tables.length : Int) ([] : List T_Rule) = some (List.replicate n.Tables.length []) := by
    unfold omake
    rw [if_pos ⟨rfl, by omega, by omega⟩, Int.toNat_natCast]
  rw [ho, Option.bind_some, loopI_eq (by omega)]
  have : ∀ (l p : List (List T_Rule)), n.Tables = p ++ l → goI (fun (i46 : Int) x47 (s42 : (List (List T_Rule))) k43 =>
      (cln x47).bind fun r55 => need (decide (0 ≤ i46) && decide (i46 < (List.length s42 : Int))) ((oset s42 i46 r55).bind fun r60 => k43 (r60))) (fun (s42 : (List (List T_Rule))) => some (s42)) (p.length : Int) l (p ++ List.replicate l.length []) = some (p ++ l) := by
    intro l
    induction l with
    | nil => intro p _; simp [goI]
    | cons x l ih =>
      intro p hp
      have hx : x.length ≤ 12 := by
        have := (h.tabs x (by rw [hp]; simp)).len
        simpa using this
      rw [goI, hc x (by omega), Option.bind_some, need_pos (by simp; omega)]
      have hs : oset (p ++ List.replicate (x :: l).length []) (p.length : Int) x = some (p ++ [x] ++ List.replicate l.length []) := by
        unfold oset
        rw [if_pos ⟨by omega, by simp; omega⟩, Int.toNat_natCast, List.length_cons, List.replicate_succ]
        simp
      rw [hs, Option.bind_some]
      have := ih (p ++ [x]) (by rw [hp]; simp)
      simp only [List.length_append, List.length_singleton] at this
      have e : (p.length : Int) + 1 = ((p.length + 1 : Nat) : Int) := by omega
      rw [e]
      refine this.trans ?_
      simp
  have := this n.Tables [] rfl
  simp only [List.length_nil, List.nil_append] at this
  refine (congrArg (fun X : Option (List (List T_Rule)) => X.bind fun s31 => some (T_Net.mk (T_Topo.mk n.Topo.Switches n.Topo.Links n.Topo.Hosts) s31)) this).trans ?_
  rfl
/-- the table of a switch -/
def tabAt (s : T_Net) (x : Int) : List T_Rule := s.Tables.getD (x - 1).toNat []
def opF (s : T_Net) (x : T_Op) : Int := if x.Switch < 1 ∨ s.Topo.Switches < x.Switch then 1 else doF (tabAt s x.Switch) x.Add x.Rule
def opR (s : T_Net) (x : T_Op) : T_Net := ⟨s.Topo, s.Tables.set (x.Switch - 1).toNat (doV (tabAt s x.Switch) x.Add x.Rule)⟩
def appL : List T_Op → T_Net → T_Net × Int
  | [], s => (s, 0)
  | x :: l, s => if opF s x ≠ 0 then (nilNet, opF s x) else appL l (opR s x)
theorem tabAt_mem {s : T_Net} (h : (s.Tables.length : Int) = s.Topo.Switches) {x : Int} (h1 : 1 ≤ x) (h2 : x ≤ s.Topo.Switches) : tabAt s x ∈ s.Tables ∧ idx s.Tables (x - 1) = some (tabAt s x) := by
  have hlt : (x - 1).toNat < s.Tables.length := by omega
  unfold tabAt
  rw [List.getD, List.getElem?_eq_getElem hlt]
  refine ⟨List.getElem_mem hlt, ?_⟩
  unfold idx
  rw [if_pos (by omega), List.getElem?_eq_getElem hlt]; rfl
theorem opR_ok {s : T_Net} (hs : NOk s) {x : T_Op} (h : opF s x = 0) : NOk (opR s x) := by
  unfold opF at h
  split at h
  · cases h
  · rename_i hr
    have hd := do_tok h
    refine ⟨hs.sw, hs.chk, hs.nl, hs.nh, ?_, fun t ht => ?_⟩
    · show ((s.Tables.set _ _).length : Int) = _
      rw [List.length_set]; exact hs.len
    · rcases List.mem_or_eq_of_mem_set ht with h | h
      · exact hs.tabs t h
      · rw [h]; exact hd.2
theorem appL_ok : ∀ (l : List T_Op) {s : T_Net}, NOk s → (appL l s).2 = 0 → NOk (appL l s).1 ∧ (appL l s).1.Topo = s.Topo
  | [], s, hs, _ => ⟨hs, rfl⟩
  | x :: l, s, hs, h => by
    unfold appL at h ⊢
    by_cases h0 : opF s x = 0
    · rw [if_neg (by simpa using h0)] at h ⊢
      exact appL_ok l (opR_ok hs h0) h
    · rw [if_pos h0] at h
      exact absurd h h0
theorem appL_append : ∀ (l m : List T_Op) (s : T_Net), (appL l s).2 = 0 → appL (l ++ m) s = appL m (appL l s).1
  | [], m, s, _ => rfl
  | x :: l, m, s, h => by
    rw [List.cons_append]
    unfold appL at h
    show (if opF s x ≠ 0 then (nilNet, opF s x) else appL (l ++ m) (opR s x)) = appL m (if opF s x ≠ 0 then (nilNet, opF s x) else appL l (opR s x)).1
    by_cases h0 : opF s x = 0
    · rw [if_neg (by simpa using h0)] at h ⊢
      rw [if_neg (by simpa using h0)]
      exact appL_append l m (opR s x) h
    · rw [if_pos h0] at h
      exact absurd h h0
theorem appL_front : ∀ (l m : List T_Op) (s : T_Net), (appL (l ++ m) s).2 = 0 → (appL l s).2 = 0
  | [], m, s, _ => rfl
  | x :: l, m, s, h => by
    rw [List.cons_append] at h
    unfold appL at h ⊢
    by_cases h0 : opF s x = 0
    · rw [if_neg (by simpa using h0)] at h ⊢
      exact appL_front l m (opR s x) h
    · rw [if_pos h0] at h
      exact absurd h h0
theorem appGo : ∀ (l : List T_Op) (i : Int) (s : T_Net), NOk s → goI (fun (i38 : Int) x39 (s34 : T_Net) k35 =>
     if ((decide (x39.Switch < 1)) || (decide (s34.Topo.Switches < x39.Switch))) = true then (some ((T_Net.mk (T_Topo.mk 0 [] []) []), 1)) else (
     need (decide (0 ≤ (wr (x39.Switch - 1))) && decide ((wr (x39.Switch - 1)) < (List.length s34.Tables : Int))) (
     (idx s34.Tables (wr (x39.Switch - 1))).bind fun r75 =>
     (t_table_Do r75 x39.Add x39.Rule).bind fun r80 =>
     if (!decide (r80.2 = 0)) = true then (some ((T_Net.mk (T_Topo.mk 0 [] []) []), r80.2)) else (
     need (decide (0 ≤ (wr (x39.Switch - 1))) && decide ((wr (x39.Switch - 1)) < (List.length s34.Tables : Int))) (
     (oset s34.Tables (wr (x39.Switch - 1)) r80.1).bind fun r94 =>
     k35 (T_Net.mk s34.Topo r94)))))) (fun (s34 : T_Net) => some (s34, (0 : Int))) i l s = some (appL l s)
  | [], i, s, _ => rfl
  | x :: l, i, s, hs => by
    have h1 := hs.sw
    have h2 := hs.len
    rw [goI]
    unfold appL
    by_cases hr : x.Switch < 1 ∨ s.Topo.Switches < x.Switch
    · have hf : opF s x = 1 := if_pos hr
      rw [if_pos (by simpa using hr), if_pos (by rw [hf]; decide), hf]; rfl
    · have hf : opF s x = doF (tabAt s x.Switch) x.Add x.Rule := if_neg hr
      rw [if_neg (by simpa using hr), wr_id (by omega) (by omega)]
      have hb : (decide (0 ≤ x.Switch - 1) && decide (x.Switch - 1 < (s.Tables.length : Int))) = true := by simp; omega
      obtain ⟨hm, hi⟩ := tabAt_mem h2 (x := x.Switch) (by omega) (by omega)
      rw [need_pos hb, hi, Option.bind_some]
      unfold t_table_Do
      rw [Option.bind_some]
      simp only []
      by_cases h0 : opF s x = 0
      · have ho : oset s.Tables (x.Switch - 1) (doV (tabAt s x.Switch) x.Add x.Rule) = some (opR s x).Tables := if_pos ⟨by omega, by omega⟩
        rw [if_neg (by rw [← hf]; simpa using h0), if_neg (by simpa using h0), need_pos hb, ho, Option.bind_some]
        exact appGo l (i + 1) (opR s x) (opR_ok hs h0)
      · rw [if_pos (by rw [← hf]; simpa using h0), if_pos h0, hf]; rfl
theorem s_Apply (n : T_Net) (l : List T_Op) (hn : ∀ h ∈ n.Topo.Hosts, (h.Name.size : Int) ≤ maxI) : ∃ c, t_net_Check n = some c ∧ (c = 0 ↔ NOk n) ∧ t_change_Apply n l = some (if c ≠ 0 then (nilNet, c) else if 200 < l.length then (nilNet, 4) else appL l n) := by
  have hM : maxI = 9223372036854775807 := rfl
  obtain ⟨c, h1, _⟩ := s_netCheck n hn
  have hc : c = 0 ↔ NOk n := by rw [← netCheck_ok hn, h1]; simp
  refine ⟨c, h1, hc, ?_⟩
  unfold t_change_Apply
  rw [h1, Option.bind_some]
  by_cases h0 : c = 0
  · rw [if_neg (by simpa using h0), if_neg (show ¬ c ≠ 0 by simpa using h0)]
    have hk := hc.1 h0
    by_cases hl : 200 < l.length
    · rw [if_pos (by simp; omega), if_pos hl]; rfl
    · rw [if_neg (by simp; omega), if_neg hl, s_Own n hk, Option.bind_some, join_eq, loopI_eq (by omega)]
      exact appGo l 0 n hk
  · rw [if_pos (by simpa using h0), if_pos h0]; rfl
theorem s_Apply_ok {n : T_Net} {l : List T_Op} (hn : ∀ h ∈ n.Topo.Hosts, (h.Name.size : Int) ≤ maxI) (hk : NOk n) (hl : l.length ≤ 200) : t_change_Apply n l = some (appL l n) := by
  obtain ⟨c, p1, p2, p3⟩ := s_Apply n l hn
  rw [p3, if_neg (by have := p2.2 hk; omega), if_neg (by omega)]

/-- the table i of a net -/
def R (s : T_Net) (i : Nat) : List Rl := (s.Tables.getD i []).map rlOf
structure Eqv (a b : T_Net) : Prop where
  topo : a.Topo = b.Topo
  mem : ∀ i x, x ∈ R a i ↔ x ∈ R b i
theorem Eqv.refl (a : T_Net) : Eqv a a := ⟨rfl, fun _ _ => Iff.rfl⟩
theorem Eqv.trans {a b c : T_Net} (h : Eqv a b) (k : Eqv b c) : Eqv a c := ⟨h.topo.trans k.topo, fun i x => (h.mem i x).trans (k.mem i x)⟩
theorem NOk.tok {s : T_Net} (h : NOk s) {i : Nat} (hi : i < s.Tables.length) : Tok (R s i) := by
  unfold R
  rw [List.getD, List.getElem?_eq_getElem hi]
  exact h.tabs _ (List.getElem_mem hi)
theorem opF_in {s : T_Net} {x : T_Op} (h : opF s x = 0) (hs : NOk s) : 1 ≤ x.Switch ∧ x.Switch ≤ s.Topo.Switches ∧ (x.Switch - 1).toNat < s.Tables.length ∧ tdoF (R s (x.Switch - 1).toNat) x.Add (rlOf x.Rule) = 0 := by
  have hl := hs.len
  unfold opF at h
  split at h
  · cases h
  · rename_i hr
    exact ⟨by omega, by omega, by omega, h⟩
theorem R_set {s : T_Net} {k : Nat} (hk : k < s.Tables.length) {v : List T_Rule} {j : Nat} : R ⟨s.Topo, s.Tables.set k v⟩ j = if j = k then v.map rlOf else R s j := by
  unfold R
  simp only [List.getD]
  by_cases h : j = k
  · subst h
    rw [if_pos rfl, List.getElem?_set_self hk]; rfl
  · rw [if_neg h, List.getElem?_set_ne (by omega)]
theorem R_opR {s : T_Net} {x : T_Op} (hs : NOk s) (h : opF s x = 0) (j : Nat) : R (opR s x) j = if j = (x.Switch - 1).toNat then tdoR (R s (x.Switch - 1).toNat) x.Add (rlOf x.Rule) else R s j := by
  obtain ⟨h1, h2, h3, h4⟩ := opF_in h hs
  unfold opR
  rw [R_set h3]
  have : (doV (tabAt s x.Switch) x.Add x.Rule).map rlOf = tdoR (R s (x.Switch - 1).toNat) x.Add (rlOf x.Rule) := by
    unfold doV
    rw [List.map_map]
    refine (List.map_id _).trans ?_
    exact tdoV_ok h4
  rw [this]
theorem lens {a b : T_Net} (ha : NOk a) (hb : NOk b) (h : a.Topo = b.Topo) : a.Tables.length = b.Tables.length := by
  have h1 := ha.len
  have h2 := hb.len
  rw [h] at h1
  omega

/-- a loop over what is made of 0, 1, .. -/
theorem goI_rng {α β γ : Type} {step : Int → α → List γ → (List γ → Option β) → Option β} {fin : List γ → Option β} (f : Nat → α) (g : Nat → List γ) {B w L : Nat} (hw : ∀ j, j < L → (g j).length ≤ w) (h : ∀ j s k, j < L → s.length + w ≤ B → step (j : Int) (f j) s k = k (s ++ g j)) :
    ∀ (k a : Nat) (s : List γ), a + k ≤ L → s.length + w * k ≤ B → goI step fin (a : Int) ((List.range' a k).map f) s = fin (s ++ (List.range' a k).flatMap g)
  | 0, a, s, _, _ => by simp [goI]
  | k + 1, a, s, ha, hs => by
    rw [Nat.mul_add, Nat.mul_one] at hs
    rw [List.range'_succ, List.map_cons, goI, h a s _ (by omega) (by omega)]
    have e : (a : Int) + 1 = ((a + 1 : Nat) : Int) := by omega
    rw [e]
    have hwa := hw a (by omega)
    refine (goI_rng f g hw h k (a + 1) (s ++ g a) (by omega) (by rw [List.length_append]; omega)).trans ?_
    rw [List.flatMap_cons, List.append_assoc]
/-- the rules of switch i that never count -/
noncomputable def dead (n : T_Net) (hs : List T_Hop) (i : Nat) : List T_Rule := ((List.range (tabN n i).length).filter fun j => decide (hs.countP (hit n i j) = 0)).map fun j => (tabN n i).getD j default
def offL (i : Nat) (rs : List T_Rule) : List T_Op := rs.map fun r => T_Op.mk ((i : Int) + 1) false r
noncomputable def unusedL (n : T_Net) (hs : List T_Hop) : List T_Op := (List.range n.Tables.length).flatMap fun i => offL i (dead n hs i)
theorem tab_map (t : List T_Rule) : (List.range t.length).map (fun j => t.getD j default) = t := by
  refine List.ext_getElem? fun j => ?_
  by_cases hj : j < t.length
  · simp [hj]
  · simp [hj]
theorem dead_sub (n : T_Net) (hs : List T_Hop) (i : Nat) : (dead n hs i).Sublist (tabN n i) := by
  have := (List.filter_sublist (p := fun j => decide (hs.countP (hit n i j) = 0)) (l := List.range (tabN n i).length)).map fun j => (tabN n i).getD j default
  rw [tab_map] at this
  exact this
theorem flat_if {α β : Type} (p : α → Bool) (F : α → β) : ∀ l : List α, (l.flatMap fun j => if p j = true then [F j] else []) = (l.filter p).map F
  | [] => rfl
  | x :: l => by
    rw [List.flatMap_cons, flat_if p F l]
    by_cases h : p x = true
    · rw [if_pos h, List.filter_cons_of_pos h]; rfl
    · rw [if_neg h, List.filter_cons_of_neg h]; rfl
theorem s_UnusedV {n : T_Net} (hn : netGood n) (hc : t_net_Check n = some 0) : t_load_Unused n = some (unusedL n (hopsOf (fatesV n)), 0) := by
  have hM : maxI = 9223372036854775807 := rfl
  have hsw := hn.topo.sw
  have hln := hn.len
  unfold t_load_Unused
  rw [hc, Option.bind_some, if_neg (by simp), s_countV hn, Option.bind_some]
  generalize hopsOf (fatesV n) = hs
  have hcl : (cntT n hs).length = n.Tables.length := by unfold cntT; simp
  have hT : ∀ i, i < n.Tables.length → (tabN n i).length ≤ 12 ∧ idx n.Tables (i : Int) = some (tabN n i) := fun i hi => by
    unfold tabN
    rw [List.getD, List.getElem?_eq_getElem hi, idx_nat, List.getElem?_eq_getElem hi]
    exact ⟨(hn.tabs _ (List.getElem_mem hi)).1, rfl⟩
  rw [loopI_eq (by omega)]
  unfold cntT
  rw [List.range_eq_range']
  have key := goI_rng (fin := fun (s18 : List T_Op) => some (s18)) (step := fun (i22 : Int) x23 (s18 : (List T_Op)) k19 =>
     ((loopI x23 (fun (i48 : Int) x49 (s44 : (List T_Op)) k45 =>
     (if (decide (x49 = 0)) = true then (
     (idx n.Tables i22).bind fun r67 => (idx r67 i48).bind fun r70 =>
     (app s44 ([(T_Op.mk (i22 + 1) false r70)] : (List T_Op))).bind fun r75 => some (r75)) else (some (s44))).bind fun (s59 : (List T_Op)) =>
     k45 (s59)) (fun (s44 : (List T_Op)) => some (s44)) (s18)).bind fun (s39 : (List T_Op)) => some (s39)).bind fun (s30 : (List T_Op)) =>
     k19 (s30)) (cntR n hs) (fun i => offL i (dead n hs i)) (B := 1000) (w := 12) (L := n.Tables.length) (fun i hi => by
      have := (dead_sub n hs i).length_le
      have := (hT i hi).1
      unfold offL
      rw [List.length_map]; omega) (fun i s k hi hsl => by
      obtain ⟨t1, t2⟩ := hT i hi
      have hrl : (cntR n hs i).length = (tabN n i).length := by unfold cntR; simp
      rw [bind_some_id, loopI_eq (by omega)]
      unfold cntR
      rw [List.range_eq_range']
      have inner := goI_rng (fin := fun (s44 : List T_Op) => some (s44)) (step := fun (i48 : Int) x49 (s44 : (List T_Op)) k45 =>
        (if (decide (x49 = 0)) = true then (
        (idx n.Tables (i : Int)).bind fun r67 => (idx r67 i48).bind fun r70 =>
        (app s44 ([(T_Op.mk ((i : Int) + 1) false r70)] : (List T_Op))).bind fun r75 => some (r75)) else (some (s44))).bind fun (s59 : (List T_Op)) =>
        k45 (s59)) (fun j => ((hs.countP (hit n i j) : Nat) : Int)) (fun j => if decide (hs.countP (hit n i j) = 0) = true then [T_Op.mk ((i : Int) + 1) false ((tabN n i).getD j default)] else []) (B := 2000) (w := 1) (L := (tabN n i).length) (fun j hj => by split <;> simp) (fun j s k hj hsl2 => by
          by_cases h0 : hs.countP (hit n i j) = 0
          · have hx : idx (tabN n i) (j : Int) = some ((tabN n i).getD j default) := by
              rw [idx_nat, List.getD, List.getElem?_eq_getElem hj]; rfl
            rw [if_pos (by simpa using h0), if_pos (by simpa using h0), t2, Option.bind_some, hx, Option.bind_some, app_eq (by simp; omega)]
            rfl
          · rw [if_neg (by simpa using h0), if_neg (by simpa using h0), List.append_nil]
            rfl) (tabN n i).length 0 s (by omega) (by omega)
      refine (congrArg (fun X : Option (List T_Op) => X.bind _) inner).trans ?_
      rw [Option.bind_some, flat_if]
      congr 2
      unfold offL dead
      rw [List.map_map, List.range_eq_range']
      rfl) n.Tables.length 0 [] (by omega) (by simp; omega)
  refine (congrArg (fun X : Option (List T_Op) => X.bind _) key).trans ?_
  rw [Option.bind_some, List.nil_append]
  unfold unusedL
  rw [List.range_eq_range']

def delX (rs : List T_Rule) : List Opx := (rs.map rlOf).map fun r => ⟨0, false, r⟩
theorem appL_off : ∀ (q : List T_Rule) {s : T_Net} {i : Nat}, NOk s → i < s.Tables.length → tallF (R s i) (delX q) = 0 →
    (appL (offL i q) s).2 = 0 ∧ R (appL (offL i q) s).1 i = tallR (R s i) (delX q) ∧ ∀ j, j ≠ i → R (appL (offL i q) s).1 j = R s j
  | [], s, i, _, _, _ => ⟨rfl, rfl, fun _ _ => rfl⟩
  | x :: q, s, i, hs, hi, h => by
    have hl := hs.len
    replace h : (if tdoF (R s i) false (rlOf x) ≠ 0 then tdoF (R s i) false (rlOf x) else tallF (tdoR (R s i) false (rlOf x)) (delX q)) = 0 := h
    have hd : tdoF (R s i) false (rlOf x) = 0 := by
      by_cases hd : tdoF (R s i) false (rlOf x) = 0
      · exact hd
      · rw [if_pos hd] at h; exact absurd h hd
    have h' : tallF (tdoR (R s i) false (rlOf x)) (delX q) = 0 := by
      rw [if_neg (show ¬ tdoF (R s i) false (rlOf x) ≠ 0 by simpa using hd)] at h
      exact h
    generalize hy : T_Op.mk ((i : Int) + 1) false x = y
    have hk : (y.Switch - 1).toNat = i := by rw [← hy]; show (((i : Int) + 1) - 1).toNat = i; omega
    have hf : opF s y = 0 := by
      unfold opF
      have h1 : ¬ (y.Switch < 1 ∨ s.Topo.Switches < y.Switch) := by rw [← hy]; show ¬ ((i : Int) + 1 < 1 ∨ s.Topo.Switches < (i : Int) + 1); omega
      rw [if_neg h1]
      show tdoF (R s (y.Switch - 1).toNat) y.Add (rlOf y.Rule) = 0
      rw [hk, ← hy]; exact hd
    have hR : ∀ j, R (opR s y) j = if j = i then tdoR (R s i) false (rlOf x) else R s j := fun j => by
      rw [R_opR hs hf, hk, ← hy]
    have hn : (opR s y).Tables.length = s.Tables.length := by
      show (s.Tables.set _ _).length = _
      rw [List.length_set]
    have hRi := hR i
    rw [if_pos rfl] at hRi
    obtain ⟨a1, a2, a3⟩ := appL_off q (opR_ok hs hf) (by rw [hn]; exact hi) (by rw [hRi]; exact h')
    have e : appL (offL i (x :: q)) s = appL (offL i q) (opR s y) := by
      show (if opF s (T_Op.mk ((i : Int) + 1) false x) ≠ 0 then _ else appL (offL i q) (opR s (T_Op.mk ((i : Int) + 1) false x))) = _
      rw [hy, if_neg (by simpa using hf)]
    rw [e]
    refine ⟨a1, ?_, fun j hj => ?_⟩
    · rw [a2, hRi]; rfl
    · rw [a3 j hj, hR, if_neg hj]
theorem appL_blk {qs : Nat → List T_Rule} : ∀ (m i : Nat) {s : T_Net}, NOk s → i + m = s.Tables.length → (∀ j, i ≤ j → j < s.Tables.length → tallF (R s j) (delX (qs j)) = 0) →
    (appL ((List.range' i m).flatMap fun j => offL j (qs j)) s).2 = 0 ∧ (∀ j, i ≤ j → j < s.Tables.length → R (appL ((List.range' i m).flatMap fun j => offL j (qs j)) s).1 j = tallR (R s j) (delX (qs j))) ∧ ∀ j, j < i → R (appL ((List.range' i m).flatMap fun j => offL j (qs j)) s).1 j = R s j
  | 0, i, s, _, hm, _ => ⟨rfl, fun j h1 h2 => absurd h2 (by omega), fun _ _ => rfl⟩
  | m + 1, i, s, hs, hm, h => by
    have hi : i < s.Tables.length := by omega
    obtain ⟨a1, a2, a3⟩ := appL_off (qs i) hs hi (h i (Nat.le_refl _) hi)
    obtain ⟨k1, k2⟩ := appL_ok _ hs a1
    rw [List.range'_succ, List.flatMap_cons, appL_append _ _ _ a1]
    generalize (appL (offL i (qs i)) s).1 = X at a2 a3 k1 k2
    have hn : X.Tables.length = s.Tables.length := lens k1 hs k2
    obtain ⟨b1, b2, b3⟩ := appL_blk m (i + 1) (s := X) k1 (by omega) (fun j h1 h2 => by rw [a3 j (by omega)]; exact h j (by omega) (by omega))
    refine ⟨b1, fun j h1 h2 => ?_, fun j hj => ?_⟩
    · by_cases e : j = i
      · subst e
        rw [b3 j (by omega), a2]
      · rw [b2 j (by omega) (by omega), a3 j e]
    · rw [b3 j (by omega), a3 j (by omega)]
/-- the net without what is never used -/
structure Left (n o : T_Net) (hs : List T_Hop) : Prop where
  ok : NOk o
  topo : o.Topo = n.Topo
  tab : ∀ i, i < n.Tables.length → tabN o i = (tabN n i).filter fun r => decide (rlOf r ∉ (dead n hs i).map rlOf)
theorem R_tab (n : T_Net) (i : Nat) : R n i = (tabN n i).map rlOf := rfl
theorem map_of (t : List T_Rule) : (t.map rlOf).map ofRl = t := by rw [List.map_map]; exact List.map_id _
theorem unused_left {n : T_Net} (hn : NOk n) (hs : List T_Hop) : (unusedL n hs).length ≤ 200 ∧ (appL (unusedL n hs) n).2 = 0 ∧ Left n (appL (unusedL n hs) n).1 hs := by
  have hsw := hn.sw
  have hln := hn.len
  have hdel : ∀ j, j < n.Tables.length → tallF (R n j) (delX (dead n hs j)) = 0 ∧ tallR (R n j) (delX (dead n hs j)) = (R n j).filter fun x => decide (x ∉ (dead n hs j).map rlOf) := fun j hj => by
    have ht := hn.tok hj
    have hsub := (dead_sub n hs j).map rlOf
    exact tall_rem _ _ ht (ht.nodup.sublist hsub) (fun r hr => hsub.subset hr)
  have hu : unusedL n hs = (List.range' 0 n.Tables.length).flatMap fun j => offL j (dead n hs j) := by
    unfold unusedL; rw [List.range_eq_range']
  obtain ⟨a1, a2, a3⟩ := appL_blk (qs := dead n hs) n.Tables.length 0 hn (by omega) (fun j _ hj => (hdel j hj).1)
  rw [← hu] at a1 a2
  obtain ⟨k1, k2⟩ := appL_ok _ hn a1
  refine ⟨?_, a1, k1, k2, fun i hi => ?_⟩
  · have hT : ∀ i, i < n.Tables.length → (offL i (dead n hs i)).length ≤ 12 := fun i hi => by
      unfold offL
      rw [List.length_map]
      have h1 := (dead_sub n hs i).length_le
      have h2 := (hn.tok hi).len
      rw [R_tab, List.length_map] at h2
      omega
    have : ∀ (m a : Nat), a + m ≤ n.Tables.length → ((List.range' a m).flatMap fun j => offL j (dead n hs j)).length ≤ 12 * m := by
      intro m
      induction m with
      | zero => intro a _; simp
      | succ m ih =>
        intro a ha
        rw [List.range'_succ, List.flatMap_cons, List.length_append]
        have h1 := hT a (by omega)
        have h2 := ih (a + 1) (by omega)
        omega
    rw [hu]
    have := this n.Tables.length 0 (by omega)
    omega
  · have h1 := a2 i (Nat.zero_le _) hi
    rw [(hdel i hi).2, R_tab, R_tab] at h1
    have h2 := congrArg (List.map ofRl) h1
    rw [map_of, List.filter_map, map_of] at h2
    rw [h2]
    rfl
theorem nodup_at {α : Type} {l : List α} {i j : Nat} {x : α} (h : l.Nodup) (hi : l[i]? = some x) (hj : l[j]? = some x) : i = j := by
  obtain ⟨h1, h2⟩ := List.getElem?_eq_some_iff.1 hi
  obtain ⟨h3, h4⟩ := List.getElem?_eq_some_iff.1 hj
  have hp := List.pairwise_iff_getElem.1 h
  rcases Nat.lt_trichotomy i j with e | e | e
  · exact absurd (h2.trans h4.symm) (hp i j h1 h3 e)
  · exact e
  · exact absurd (h4.trans h2.symm) (hp j i h3 h1 e)
/-- a rule that counts for a hop is left -/
theorem used_left {n o : T_Net} {hs : List T_Hop} (hn : NOk n) (ho : Left n o hs) {y : T_Hop} (hy : y ∈ hs) (h1 : (y.At.Switch - 1).toNat < n.Tables.length) : best y.Header (tabN o (y.At.Switch - 1).toNat) = best y.Header (tabN n (y.At.Switch - 1).toNat) := by
  generalize hk : (y.At.Switch - 1).toNat = k at *
  have ht := hn.tok h1
  rw [R_tab] at ht
  have hl := ht.len
  rw [List.length_map] at hl
  rw [ho.tab k h1]
  refine best_sub ht (fun z hz => (List.mem_filter.1 hz).1) fun r hr => ?_
  obtain ⟨i, e1, e2⟩ := s_FindB (tabN n k) y.Header (by omega)
  rcases e2 with ⟨_, hb⟩ | ⟨j, q, rfl, hj, hb⟩
  · rw [hb] at hr; cases hr
  · rw [hb] at hr
    obtain rfl := Option.some.inj hr
    have hhit : hit n k j y = true := by
      unfold hit
      rw [hk, e1]; simp
    have hpos : 0 < hs.countP (hit n k j) := List.countP_pos_iff.2 ⟨y, hy, hhit⟩
    refine List.mem_filter.2 ⟨List.mem_of_getElem? hj, ?_⟩
    simp only [decide_eq_true_eq]
    intro hd
    obtain ⟨q', hq', e⟩ := List.mem_map.1 hd
    obtain rfl : q' = q := by have := congrArg ofRl e; exact this
    unfold dead at hq'
    obtain ⟨j', hj', e'⟩ := List.mem_map.1 hq'
    obtain ⟨hj1, hj2⟩ := List.mem_filter.1 hj'
    have hjl : j' < (tabN n k).length := List.mem_range.1 hj1
    have hjq : (tabN n k)[j']? = some q' := by
      rw [← e', List.getD, List.getElem?_eq_getElem hjl]; rfl
    have hjj : j' = j := nodup_at (x := rlOf q') ht.nodup (by rw [List.getElem?_map, hjq]; rfl) (by rw [List.getElem?_map, hj]; rfl)
    subst hjj
    simp only [decide_eq_true_eq] at hj2
    omega
theorem tblV_tab {n : T_Net} {y : T_Hop} (h : 1 ≤ y.At.Switch) : tblV n y = tabN n (y.At.Switch - 1).toNat := by
  unfold tblV tabN idx
  rw [if_pos (by omega)]; rfl
theorem kd_left {n o : T_Net} {hs : List T_Hop} (hn : NOk n) (gn : netGood n) (ho : Left n o hs) {y : T_Hop} (hy : y ∈ hs) (hok : hopOk n y) : kd o y = kd n y := by
  obtain ⟨a1, a2, _, _⟩ := hok.at_
  have hln := hn.len
  have hk : (y.At.Switch - 1).toNat < n.Tables.length := by omega
  have hlo := lens ho.ok hn ho.topo
  have ht := hn.tok hk
  have hto := ho.ok.tok (i := (y.At.Switch - 1).toNat) (by omega)
  rw [R_tab] at ht hto
  have hl := ht.len
  have hl2 := hto.len
  rw [List.length_map] at hl hl2
  have e : outV (tblV o y) y.At y.Header = outV (tblV n y) y.At y.Header := by
    rw [tblV_tab a1, tblV_tab a1, outV_B (by omega), outV_B (by omega), used_left hn ho hy hk]
  unfold kd
  rw [e, ho.topo]

theorem sumP_set : ∀ (l : List Int) (i : Nat) (v : Int), i < l.length → (l.set i v).sum = l.sum - l.getD i 0 + v
  | [], i, v, h => by simp at h
  | x :: l, 0, v, h => by simp; omega
  | x :: l, i + 1, v, h => by
    have := sumP_set l i v (by simpa using h)
    simp only [List.set_cons_succ, List.sum_cons, List.getD_cons_succ, this]; omega
theorem sum_nn : ∀ l : List Int, (∀ x ∈ l, 0 ≤ x) → 0 ≤ l.sum
  | [], _ => by simp
  | y :: l, h => by
    have := h y (by simp)
    have := sum_nn l fun z hz => h z (by simp [hz])
    simp only [List.sum_cons]; omega
/-- the sum of one block -/
def blk (s : List Int) (h b : Nat) : Int := ((s.drop (b * h)).take h).sum
theorem blk_set {s : List Int} {h q r : Nat} (hr : r < h) (hl : q * h + r < s.length) (v : Int) (b : Nat) : blk (s.set (q * h + r) v) h b = if b = q then blk s h b - s.getD (q * h + r) 0 + v else blk s h b := by
  unfold blk
  rw [List.drop_set]
  by_cases e : b = q
  · subst e
    rw [if_neg (by omega), if_pos rfl, List.take_set, sumP_set _ _ _ (by simp; omega)]
    have e1 : b * h + r - b * h = r := by omega
    rw [e1]
    congr 2
    simp [List.getD, List.getElem?_take, hr]
  · rw [if_neg e]
    split
    · rfl
    · rename_i h1
      have hb : b < q := by
        rcases Nat.lt_or_ge b q with h2 | h2
        · exact h2
        · have h3 : (q + 1) * h ≤ b * h := Nat.mul_le_mul_right h (by omega)
          rw [Nat.add_mul] at h3; omega
      have h3 : (b + 1) * h ≤ q * h := Nat.mul_le_mul_right h hb
      rw [Nat.add_mul] at h3
      rw [List.take_set, List.set_eq_of_length_le (by simp; omega)]
def K (m b : Nat) (v : Int) : Prop := v ≤ 16 ∧ (m ≤ 16 * b → v ≤ 0) ∧ (16 * b ≤ m → v ≤ (m : Int) - 16 * (b : Int))
structure InvP (h m : Nat) (s : List Int) : Prop where
  len : s.length = h * h
  pos : ∀ x ∈ s, 0 ≤ x ∧ x ≤ (m : Int)
  blk : ∀ b, b < h → K m b (blk s h b)
theorem invP_keep {h m : Nat} {s : List Int} (hI : InvP h m s) : InvP h (m + 1) s := by
  refine ⟨hI.len, fun x hx => by have := hI.pos x hx; omega, fun b hb => ?_⟩
  obtain ⟨k1, k2, k3⟩ := hI.blk b hb
  refine ⟨k1, fun h => k2 (by omega), fun h => ?_⟩
  by_cases h9 : 16 * b ≤ m
  · have := k3 h9; omega
  · have := k2 (by omega); omega
theorem invP_step {h m : Nat} {s : List Int} (hI : InvP h m s) {r : Nat} (hr : r < h) (hq : m / 16 < h) : m / 16 * h + r < s.length ∧ InvP h (m + 1) (s.set (m / 16 * h + r) (s.getD (m / 16 * h + r) 0 + 1)) := by
  have hlt : m / 16 * h + r < s.length := by
    have h3 : (m / 16 + 1) * h ≤ h * h := Nat.mul_le_mul_right h hq
    rw [Nat.add_mul] at h3
    rw [hI.len]; omega
  refine ⟨hlt, by rw [List.length_set, hI.len], fun x hx => ?_, fun b hb => ?_⟩
  · rcases List.mem_or_eq_of_mem_set hx with h1 | h1
    · have := hI.pos x h1; omega
    · have := hI.pos (s.getD (m / 16 * h + r) 0) (by rw [List.getD, List.getElem?_eq_getElem hlt]; exact List.getElem_mem hlt)
      omega
  · have hk := (invP_keep hI).blk b hb
    rw [blk_set hr hlt]
    split
    · rename_i e
      obtain ⟨k1, k2, k3⟩ := hI.blk b hb
      have hm : 16 * (m / 16) ≤ m ∧ m < 16 * (m / 16) + 16 := by omega
      subst e
      have := k3 hm.1
      refine ⟨by omega, fun h => by omega, fun h => by omega⟩
    · exact hk
theorem s_Pairs {n : T_Net} (hn : netGood n) (hc : t_net_Check n = some 0) : ∃ p, t_load_Pairs n = some (p, 0) ∧ ∃ m, m ≤ 1000 ∧ InvP n.Topo.Hosts.length m p := by
  have hM : maxI = 9223372036854775807 := rfl
  have hnh := hn.topo.nh
  have hmul : n.Topo.Hosts.length * n.Topo.Hosts.length ≤ 64 := Nat.mul_le_mul hnh hnh
  unfold t_load_Pairs
  rw [hc, Option.bind_some, if_neg (by decide)]
  have e0 : (n.Topo.Hosts.length : Int) * (n.Topo.Hosts.length : Int) = ((n.Topo.Hosts.length * n.Topo.Hosts.length : Nat) : Int) := by simp
  have ew : wr ((n.Topo.Hosts.length : Int) * (n.Topo.Hosts.length : Int)) = ((n.Topo.Hosts.length * n.Topo.Hosts.length : Nat) : Int) := by
    rw [e0]; exact wr_id (by omega) (by omega)
  have ho : omake (wr ((n.Topo.Hosts.length : Int) * (n.Topo.Hosts.length : Int))) (wr ((n.Topo.Hosts.length : Int) * (n.Topo.Hosts.length : Int))) 0 = some (List.replicate (n.Topo.Hosts.length * n.Topo.Hosts.length) (0 : Int)) := by
    rw [ew]
    unfold omake
    rw [if_pos ⟨rfl, by omega, by omega⟩, Int.toNat_natCast]
  rw [ho, Option.bind_some, s_fates hn, Option.bind_some]
  have hlen := fatesV_len n
  have main : ∃ p, loopI (fatesV n) (fun (i29 : Int) x30 (s25 : (List Int)) k26 =>
      (t_slices_IndexFunc_api_Host_api_Host n.Topo.Hosts (fun (a38 : T_Host) => t_load_Pairs_1 a38 x30)).bind fun r40 =>
      (if (decide (0 ≤ r40)) = true then (
      need (decide (0 ≤ (wr ((wr ((wr (Int.tdiv i29 16)) * (List.length n.Topo.Hosts : Int))) + r40))) && decide ((wr ((wr ((wr (Int.tdiv i29 16)) * (List.length n.Topo.Hosts : Int))) + r40)) < (List.length s25 : Int))) (
      (idx s25 (wr ((wr ((wr (Int.tdiv i29 16)) * (List.length n.Topo.Hosts : Int))) + r40))).bind fun r56 =>
      need (decide (0 ≤ (wr ((wr ((wr (Int.tdiv i29 16)) * (List.length n.Topo.Hosts : Int))) + r40))) && decide ((wr ((wr ((wr (Int.tdiv i29 16)) * (List.length n.Topo.Hosts : Int))) + r40)) < (List.length s25 : Int))) (
      (oset s25 (wr ((wr ((wr (Int.tdiv i29 16)) * (List.length n.Topo.Hosts : Int))) + r40)) (wr (r56 + 1))).bind fun r62 =>
      some (r62)))) else (
      some (s25))).bind fun (s44 : (List Int)) =>
      k26 (s44)) (fun (s25 : (List Int)) =>
      some (s25)) (List.replicate (n.Topo.Hosts.length * n.Topo.Hosts.length) (0 : Int)) = some p ∧ ∃ m, m ≤ 1000 ∧ InvP n.Topo.Hosts.length m p := by
    refine loopI_ex (Q := fun p => ∃ m, m ≤ 1000 ∧ InvP n.Topo.Hosts.length m p) (fun i l s => ∃ m : Nat, i = (m : Int) ∧ m + l.length = 16 * n.Topo.Hosts.length ∧ InvP n.Topo.Hosts.length m s) (by omega) ⟨0, rfl, by omega, by simp, fun x hx => ?_, fun b hb => ?_⟩ (fun i s hI => ?_) (fun i f l s k hI hk => ?_)
    · have := (List.mem_replicate.1 hx).2; omega
    · have : blk (List.replicate (n.Topo.Hosts.length * n.Topo.Hosts.length) (0 : Int)) n.Topo.Hosts.length b = 0 := by
        unfold blk
        rw [List.drop_replicate, List.take_replicate]
        simp
      rw [this]
      exact ⟨by omega, fun _ => by omega, fun _ => by omega⟩
    · obtain ⟨m, _, hm, h⟩ := hI
      exact ⟨s, rfl, m, by simp at hm; omega, h⟩
    · obtain ⟨m, rfl, hm, hS⟩ := hI
      simp only [List.length_cons] at hm
      obtain ⟨r, e1, e2⟩ := s_IndexHost n.Topo.Hosts hnh (fun a38 => (decide (f.How = 1)) && (decide (a38.Name = f.Host))) (fun (a38 : T_Host) => t_load_Pairs_1 a38 f) (fun x => rfl)
      rw [e1, Option.bind_some]
      have e9 : (m : Int) + 1 = ((m + 1 : Nat) : Int) := by omega
      by_cases hr : r < 0
      · rw [if_neg (by simp; omega), Option.bind_some]
        exact hk s ⟨m + 1, e9, by omega, invP_keep hS⟩
      · obtain ⟨hr0, hr1⟩ := e2.resolve_left hr
        obtain ⟨r', rfl⟩ : ∃ r' : Nat, r = (r' : Int) := ⟨r.toNat, by omega⟩
        obtain ⟨h1, h2⟩ := invP_step hS (r := r') (by omega) (by omega)
        have hle := hS.len
        have et : Int.tdiv (m : Int) 16 = ((m / 16 : Nat) : Int) := by
          rw [Int.tdiv_eq_ediv_of_nonneg (by omega)]; omega
        have hmul2 : m / 16 * n.Topo.Hosts.length ≤ 64 := Nat.le_trans (Nat.mul_le_mul_right _ (by omega : m / 16 ≤ n.Topo.Hosts.length)) hmul
        have ei : wr ((wr ((wr (Int.tdiv (m : Int) 16)) * (n.Topo.Hosts.length : Int))) + (r' : Int)) = ((m / 16 * n.Topo.Hosts.length + r' : Nat) : Int) := by
          rw [et, wr_id (x := ((m / 16 : Nat) : Int)) (by omega) (by omega)]
          have e3 : ((m / 16 : Nat) : Int) * (n.Topo.Hosts.length : Int) = ((m / 16 * n.Topo.Hosts.length : Nat) : Int) := by simp
          rw [e3, wr_id (x := ((m / 16 * n.Topo.Hosts.length : Nat) : Int)) (by omega) (by omega), wr_id (by omega) (by omega)]
          omega
        generalize hj : m / 16 * n.Topo.Hosts.length + r' = j at h1 h2 ei
        have hg : s.getD j 0 = s[j] := by simp [List.getD, h1]
        have hp := hS.pos s[j] (List.getElem_mem h1)
        rw [hg] at h2
        rw [if_pos (by simp), ei, need_pos (by simp; omega), idx_nat, List.getElem?_eq_getElem h1, Option.bind_some, need_pos (by simp; omega), oset_eq' (by omega) (by omega), wr_id (by omega) (by omega), Option.bind_some, Option.bind_some]
        exact hk _ ⟨m + 1, e9, by omega, h2⟩
  obtain ⟨p, hp, hp2⟩ := main
  rw [hp]
  exact ⟨p, rfl, hp2⟩

/-- where a host is -/
theorem s_WhereT {T : T_Topo} (hn : ∀ h ∈ T.Hosts, (h.Name.size : Int) ≤ maxI) (nm : ByteArray) : ∃ r, t_topo_Where T nm = some r ∧ (r.2 = 0 → t_topo_Check T = some 0 ∧ ∃ x ∈ T.Hosts, x.Name = nm ∧ r.1 = x.At) ∧ (t_topo_Check T = some 0 → (∃ x ∈ T.Hosts, x.Name = nm) → r.2 = 0) := by
  obtain ⟨c, e1, e2⟩ := s_topoCheck T hn
  unfold t_topo_Where
  rw [e1]
  simp only [Option.bind_some]
  by_cases hc : c = 0
  · subst hc
    have hg := e2 rfl
    simp only [decide_true, Bool.not_true, Bool.false_eq_true, if_false]
    have : ∃ i, t_slices_IndexFunc_api_Host_api_Host T.Hosts (fun a => t_topo_Where_1 a nm) = some i ∧ ((i < 0 ∧ ∀ x ∈ T.Hosts, x.Name ≠ nm) ∨ (0 ≤ i ∧ ∃ x, idx T.Hosts i = some x ∧ x ∈ T.Hosts ∧ x.Name = nm)) := by
      unfold t_slices_IndexFunc_api_Host_api_Host
      simp only [join_eq]
      have := hg.nh
      refine loopI_ex (fun i l _ => 0 ≤ i ∧ ∃ pre, T.Hosts = pre ++ l ∧ (pre.length : Int) = i ∧ ∀ x ∈ pre, x.Name ≠ nm) (by omega) ⟨Int.le_refl _, [], rfl, rfl, by simp⟩ (fun i s hI => ?_) (fun i x l s k hI hk => ?_)
      · obtain ⟨_, pre, h1, _, h3⟩ := hI
        exact ⟨-1, rfl, .inl ⟨by decide, by rw [h1, List.append_nil]; exact h3⟩⟩
      · obtain ⟨h0, pre, h1, h2, h3⟩ := hI
        simp only [t_topo_Where_1, Option.bind_some]
        by_cases hx : x.Name = nm
        · rw [if_pos (by simpa using hx)]
          refine ⟨i, rfl, .inr ⟨h0, x, ?_, by rw [h1]; simp, hx⟩⟩
          rw [← h2, idx_nat, h1]
          simp
        · rw [if_neg (by simpa using hx)]
          refine hk () ⟨by omega, pre ++ [x], by rw [h1]; simp, by simp; omega, fun y hy => ?_⟩
          rcases List.mem_append.1 hy with h | h
          · exact h3 y h
          · simp at h; subst h; exact hx
    obtain ⟨i, f1, f2⟩ := this
    rw [f1]
    simp only [Option.bind_some]
    rcases f2 with ⟨i0, h⟩ | ⟨i0, x, hx, hm, hx2⟩
    · rw [if_pos (by simpa using i0)]
      exact ⟨_, rfl, fun h => (by cases h), fun _ ⟨x, hm, hx⟩ => absurd hx (h x hm)⟩
    · rw [if_neg (by simp; omega), hx]
      exact ⟨_, rfl, fun _ => ⟨trivial, x, hm, hx2, rfl⟩, fun _ _ => rfl⟩
  · rw [if_pos (by simp [hc])]
    exact ⟨_, rfl, fun h => absurd h hc, fun h => absurd (Option.some.inj h) hc⟩
theorem goI_postM {α β σ : Type} {step : Int → α → σ → (σ → Option β) → Option β} {fin : σ → Option β} {Q : β → Prop} (L : List α) (hfin : ∀ s v, fin s = some v → Q v)
    (hstep : ∀ i x s k, x ∈ L → (∀ s' v, k s' = some v → Q v) → ∀ v, step i x s k = some v → Q v) : ∀ (l : List α) (i : Int) (s : σ) (v : β), (∀ x ∈ l, x ∈ L) → goI step fin i l s = some v → Q v
  | [], i, s, v, _, h => hfin s v h
  | x :: l, i, s, v, hl, h => hstep i x s _ (hl x (by simp)) (fun s' v' h' => goI_postM L hfin hstep l (i + 1) s' v' (fun y hy => hl y (by simp [hy])) h') v h
theorem loopI_postM {α β σ : Type} {step : Int → α → σ → (σ → Option β) → Option β} {fin : σ → Option β} (Q : β → Prop) {l : List α} {s : σ} {v : β} (h : loopI l step fin s = some v) (hfin : ∀ s v, fin s = some v → Q v)
    (hstep : ∀ i x s k, x ∈ l → (∀ s' v, k s' = some v → Q v) → ∀ v, step i x s k = some v → Q v) : Q v := by
  unfold loopI at h
  rw [need_some] at h
  exact goI_postM l hfin hstep l 0 s v (fun _ h => h) h.2
/-- what comes of what is sent -/
theorem s_other_link (T : T_Topo) (s : T_Spot) {o : T_Spot × Bool} (h : t_topo_Other T s = some o) (h2 : o.2 = true) : ∃ l ∈ T.Links, l.A = o.1 ∨ l.B = o.1 := by
  unfold t_topo_Other at h
  simp only [join_eq] at h
  refine loopI_postM (fun v => v.2 = true → ∃ l ∈ T.Links, l.A = v.1 ∨ l.B = v.1) h ?_ ?_ h2
  · intro s v hv hv2
    obtain rfl := Option.some.inj hv
    cases hv2
  · intro i x s k hx hk v hv hv2
    split at hv
    · obtain rfl := Option.some.inj hv
      exact ⟨x, hx, .inr rfl⟩
    · split at hv
      · obtain rfl := Option.some.inj hv
        exact ⟨x, hx, .inl rfl⟩
      · exact hk _ _ hv hv2
structure Sent (n : T_Net) (f : T_Fate) : Prop where
  good : netGood n
  chk : t_net_Check n = some 0
  len : 1 ≤ f.Hops.length ∧ f.Hops.length ≤ 24
  over : ∀ y ∈ f.Hops.drop 1, ∃ l ∈ n.Topo.Links, l.A = y.At ∨ l.B = y.At
theorem fin_sent {n : T_Net} (hn : netGood n) (hc : t_net_Check n = some 0) {f : T_Fate} {q : List T_Hop} {z : T_Hop} (h : Fin_ n f q z) : Sent n f := by
  refine ⟨hn, hc, ?_, fun y hy => ?_⟩
  · rw [h.hops]
    exact ⟨by simp, h.inv.len⟩
  · rw [h.hops] at hy
    obtain ⟨j, hj⟩ := List.getElem?_of_mem hy
    rw [List.getElem?_drop] at hj
    have hlt : j < (q ++ [z]).length := by have := (List.getElem?_eq_some_iff.1 hj).1; omega
    have ha := List.getElem?_eq_getElem hlt
    rw [Nat.add_comm] at hj
    obtain ⟨k1, k2⟩ := h.inv.walk j _ y ha hj
    have hx := h.inv.ok _ (List.getElem_mem hlt)
    have ho := s_other hn (outV (tblV n (q ++ [z])[j]) (q ++ [z])[j].At (q ++ [z])[j].Header).1
    unfold kd at k1 k2
    split at k1
    · rename_i g1
      rw [if_pos g1] at k2
      split at k1
      · cases k1
      · rename_i g2
        rw [if_neg g2] at k2
        split at k1
        · rename_i g3
          rw [if_pos g3] at k2
          obtain ⟨l, hl, h9⟩ := s_other_link n.Topo _ ho.1 g3
          refine ⟨l, hl, ?_⟩
          rw [← k2]
          exact h9
        · cases k1
    · cases k1
theorem s_SendG (n : T_Net) (hn : ∀ h ∈ n.Topo.Hosts, (h.Name.size : Int) ≤ maxI) (nm : ByteArray) (h : Int) : ∃ r, t_net_Send n nm h = some r ∧ (r.2 = 0 → Sent n r.1) := by
  obtain ⟨c, e1, e2⟩ := s_netCheck n hn
  unfold t_net_Send
  rw [e1]
  simp only [Option.bind_some]
  by_cases hc : c = 0
  · subst hc
    have hg := e2 rfl
    simp only [decide_true, Bool.not_true, Bool.false_eq_true, if_false]
    obtain ⟨r, w1, w2, _⟩ := s_WhereT (T := n.Topo) hn nm
    rw [w1]
    simp only [Option.bind_some]
    by_cases hr : r.2 = 0
    · simp only [hr, decide_true, Bool.not_true, Bool.false_eq_true, if_false]
      obtain ⟨b, b1, b2⟩ := s_Header h
      rw [b1]
      simp only [Option.bind_some]
      cases b with
      | false => exact ⟨_, rfl, fun h => by cases h⟩
      | true =>
        simp only [Bool.not_true, Bool.false_eq_true, if_false]
        obtain ⟨_, x, hx, _, hx2⟩ := w2 hr
        obtain ⟨f, q, z, m, h1, h2, h3⟩ := run_ex hg 23 [] ⟨r.1, h⟩ bigN rfl (Nat.lt_trans (by decide) bigN_gt) ⟨fun i a b _ hb => by simp at hb, by simp, fun y hy => by simp at hy; subst hy; exact ⟨by rw [hx2]; exact (hg.topo.hosts x hx).2, b2.1 rfl⟩, by simp⟩
        rw [s_Of, h1]
        exact ⟨_, rfl, fun _ => fin_sent hg e1 h2⟩
    · have : (!decide (r.2 = 0)) = true := by simp [hr]
      rw [if_pos this]
      exact ⟨_, rfl, fun h => absurd h hr⟩
  · have : (!decide (c = 0)) = true := by simp [hc]
    rw [if_pos this]
    exact ⟨_, rfl, fun h => absurd h hc⟩

theorem sum_set : ∀ (l : List Int) (i : Nat) (v : Int), i < l.length → (l.set i v).sum = l.sum - l.getD i 0 + v
  | [], i, v, h => by simp at h
  | x :: l, 0, v, h => by simp; omega
  | x :: l, i + 1, v, h => by
    have := sum_set l i v (by simpa using h)
    simp only [List.set_cons_succ, List.sum_cons, List.getD_cons_succ, this]; omega
theorem le_sum : ∀ (l : List Int), (∀ x ∈ l, 0 ≤ x) → ∀ i, i < l.length → 0 ≤ l.getD i 0 ∧ l.getD i 0 ≤ l.sum
  | [], _, i, h => by simp at h
  | x :: l, hp, 0, h => by
    have h0 := hp x (by simp)
    have : 0 ≤ l.sum := by
      clear h h0
      induction l with
      | nil => simp
      | cons y l ih =>
        have := hp y (by simp)
        have := ih (fun z hz => hp z (by simp at hz ⊢; rcases hz with h | h <;> simp [h]))
        simp only [List.sum_cons]; omega
    simp; omega
  | x :: l, hp, i + 1, h => by
    have h0 := hp x (by simp)
    have := le_sum l (fun y hy => hp y (by simp [hy])) i (by simpa using h)
    simp only [List.getD_cons_succ, List.sum_cons]; omega
/-- how many hops are over links -/
def overs : List T_Fate → Int
  | [] => 0
  | f :: l => ((f.Hops.length - 1 : Nat) : Int) + overs l
theorem overs_app : ∀ (l m : List T_Fate), overs (l ++ m) = overs l + overs m
  | [], m => by simp [overs]
  | f :: l, m => by simp only [List.cons_append, overs, overs_app l m]; omega
theorem overs_le : ∀ (l : List T_Fate), (∀ f ∈ l, f.Hops.length ≤ 24) → 0 ≤ overs l ∧ overs l ≤ 24 * (l.length : Int)
  | [], _ => by simp [overs]
  | f :: l, h => by
    have := overs_le l fun g hg => h g (by simp [hg])
    have := h f (by simp)
    simp only [overs, List.length_cons]; omega
/-- a list of counts -/
structure Cnt (k : Nat) (m : Int) (s : List Int) : Prop where
  len : s.length = k
  pos : ∀ x ∈ s, 0 ≤ x
  sum : s.sum = m
theorem cnt_step {k : Nat} {m : Int} {s : List Int} (h : Cnt k m s) (hm : m ≤ 100000) {i : Nat} (hi : i < k) : Cnt k (m + 1) (s.set i (wr (s.getD i 0 + 1))) := by
  have h1 := le_sum s h.pos i (by rw [h.len]; exact hi)
  rw [h.sum] at h1
  rw [wr_id (by omega) (by omega)]
  refine ⟨by rw [List.length_set, h.len], fun x hx => ?_, by rw [sum_set s i _ (by rw [h.len]; exact hi), h.sum]; omega⟩
  rcases List.mem_or_eq_of_mem_set hx with h2 | h2
  · exact h.pos x h2
  · omega
theorem s_IndexLink (l : List T_Link) (hl : (l.length : Int) ≤ maxI) (y : T_Hop) (hy : ∃ x ∈ l, x.A = y.At ∨ x.B = y.At) : ∃ i : Nat, t_slices_IndexFunc_api_Link_api_Link l (fun (a62 : T_Link) => t_judge_Count_1 a62 y) = some (i : Int) ∧ i < l.length := by
  unfold t_slices_IndexFunc_api_Link_api_Link
  simp only [join_eq]
  have : ∃ i : Int, loopI l (fun (i13 : Int) x14 (s9 : Unit) k10 => (t_judge_Count_1 x14 y).bind fun r22 => if r22 = true then (some i13) else (k10 ())) (fun _ => some (-1 : Int)) () = some i ∧ (0 ≤ i ∧ i < l.length) := by
    refine loopI_ex (fun i m _ => 0 ≤ i ∧ i + m.length = l.length ∧ ∃ x ∈ m, x.A = y.At ∨ x.B = y.At) hl ⟨Int.le_refl _, by omega, hy⟩ (fun i s hI => ?_) (fun i x m s k hI hk => ?_)
    · obtain ⟨_, _, x, hx, _⟩ := hI
      simp at hx
    · obtain ⟨h1, h2, z, hz, hz2⟩ := hI
      simp only [List.length_cons] at h2
      unfold t_judge_Count_1
      simp only [Option.bind_some]
      split
      · exact ⟨i, rfl, h1, by omega⟩
      · rename_i hn
        refine hk () ⟨by omega, by omega, z, ?_, hz2⟩
        rcases List.mem_cons.1 hz with rfl | hz
        · exact absurd (by simpa [Bool.or_eq_true] using hz2) hn
        · exact hz
  obtain ⟨i, h1, h2, h3⟩ := this
  exact ⟨i.toNat, by rw [h1]; congr 1; omega, by omega⟩
theorem s_Count (T : T_Topo) (hT : T.Links.length ≤ 200) (l : List T_Fate) (hl : l.length ≤ 200) (hg : ∀ f ∈ l, f.Hops.length ≤ 24 ∧ 1 ≤ f.Hops.length ∧ ∀ y ∈ f.Hops.drop 1, ∃ x ∈ T.Links, x.A = y.At ∨ x.B = y.At) :
    ∃ c, t_judge_Count T l = some c ∧ Cnt T.Links.length (overs l) c := by
  have hM : maxI = 9223372036854775807 := rfl
  unfold t_judge_Count
  have ho : omake (List.length T.Links : Int) (List.length T.Links : Int) 0 = some (List.replicate T.Links.length (0 : Int)) := by
    unfold omake
    rw [if_pos ⟨rfl, by omega, by omega⟩]; simp
  rw [ho]
  simp only [Option.bind_some]
  rw [bind_some_id]
  refine loopI_ex (Q := fun c => Cnt T.Links.length (overs l) c) (fun i m s => (∀ f ∈ m, f ∈ l) ∧ m.length ≤ 200 ∧ ∃ p, l = p ++ m ∧ Cnt T.Links.length (overs p) s) (by omega) ⟨fun _ h => h, hl, [], rfl, by simp, by simp, by simp [overs]⟩ (fun i s hI => ?_) (fun i f m s k hI hk => ?_)
  · obtain ⟨_, _, p, hp, hc⟩ := hI
    rw [List.append_nil] at hp
    exact ⟨s, rfl, by rw [hp]; exact hc⟩
  · obtain ⟨h1, h2, p, hp, hc⟩ := hI
    obtain ⟨g1, g2, g3⟩ := hg f (h1 f (by simp))
    have hs : slc_lo f.Hops (min 1 (List.length f.Hops : Int)) = some (f.Hops.drop 1) := by
      unfold slc_lo
      have : min 1 (f.Hops.length : Int) = 1 := by omega
      rw [this, if_pos ⟨by decide, by omega⟩]; rfl
    rw [hs]
    simp only [Option.bind_some]
    have hpl : p.length ≤ 200 := by have := congrArg List.length hp; simp at this; omega
    have hpo := overs_le p fun g hgm => (hg g (by rw [hp]; simp [hgm])).1
    have inner : ∃ v, (loopI (f.Hops.drop 1) (fun (i52 : Int) x53 (s48 : (List Int)) k49 =>
        (t_slices_IndexFunc_api_Link_api_Link T.Links (fun (a62 : T_Link) => t_judge_Count_1 a62 x53)).bind fun r64 =>
        (if (decide (0 ≤ r64)) = true then (need (decide (0 ≤ r64) && decide (r64 < (List.length s48 : Int))) ((idx s48 r64).bind fun r76 => need (decide (0 ≤ r64) && decide (r64 < (List.length s48 : Int))) ((oset s48 r64 (wr (r76 + 1))).bind fun r82 => some (r82)))) else (some (s48))).bind fun (s68 : (List Int)) => k49 (s68)) (fun (s48 : (List Int)) => some (s48)) (s)) = some v ∧ Cnt T.Links.length (overs p + ((f.Hops.length - 1 : Nat) : Int)) v := by
      refine loopI_ex (Q := fun v => Cnt T.Links.length (overs p + ((f.Hops.length - 1 : Nat) : Int)) v) (fun i m s => (∀ y ∈ m, y ∈ f.Hops.drop 1) ∧ m.length ≤ f.Hops.length - 1 ∧ Cnt T.Links.length (overs p + ((f.Hops.length - 1 - m.length : Nat) : Int)) s) (by simp; omega) ⟨fun _ h => h, by simp, by simpa using hc⟩ (fun i s hI => ?_) (fun i y m s k hI hk => ?_)
      · obtain ⟨_, _, h5⟩ := hI
        exact ⟨s, rfl, by simpa using h5⟩
      · obtain ⟨q1, q2, q3⟩ := hI
        simp only [List.length_cons] at q2 q3
        obtain ⟨j, e1, e2⟩ := s_IndexLink T.Links (by omega) y (g3 y (q1 y (by simp)))
        rw [e1]
        simp only [Option.bind_some]
        have hj : j < s.length := by rw [q3.len]; exact e2
        rw [if_pos (by simp), need_pos (by simp; omega), idx_nat, List.getElem?_eq_getElem hj]
        simp only [Option.bind_some]
        have ho2 : ∀ v, oset s (j : Int) v = some (s.set j v) := fun v => if_pos ⟨by omega, by omega⟩
        rw [need_pos (by simp; omega), ho2]
        simp only [Option.bind_some]
        have hst := cnt_step q3 (by omega) (i := j) e2
        have hgd : s.getD j 0 = s[j] := by simp [List.getD, hj]
        rw [hgd] at hst
        refine hk _ ⟨fun z hz => q1 z (by simp [hz]), by omega, ?_⟩
        have e9 : overs p + ((f.Hops.length - 1 - m.length : Nat) : Int) = overs p + ((f.Hops.length - 1 - (m.length + 1) : Nat) : Int) + 1 := by omega
        rw [e9]; exact hst
    obtain ⟨v, hv, hcv⟩ := inner
    rw [hv]
    simp only [Option.bind_some]
    refine hk v ⟨fun g hgm => h1 g (by simp [hgm]), by simp at h2; omega, p ++ [f], by rw [hp]; simp, ?_⟩
    rw [overs_app]
    simpa [overs] using hcv

/-- two nets that go alike from each hop: what becomes of a packet is the same -/
theorem sim_run {n o : T_Net} (gn : netGood n) (go : netGood o) (ht : o.Topo = n.Topo) {f : T_Fate} (hk : ∀ y ∈ f.Hops, kd o y = kd n y) : ∀ (d : Nat) (l : List T_Hop) (x : T_Hop) (N : Nat), (l ++ [x]).length + d = 24 → d < N → InvW n (l ++ [x]) → tfix (ofF n) N ⟨0, noT, l ++ [x]⟩ = some f → tfix (ofF o) N ⟨0, noT, l ++ [x]⟩ = some f := by
  intro d
  induction d with
  | zero =>
    intro l x N hd hN hI hf
    obtain ⟨N, rfl⟩ : ∃ M, N = M + 1 := ⟨N - 1, by omega⟩
    obtain ⟨f', q, z, m, e1, e2, e3⟩ := run_ex gn 0 l x (N + 1) hd hN hI
    rw [hf] at e1
    obtain rfl := Option.some.inj e1
    have hx : kd o x = kd n x := hk x (by rw [e2.hops, e3]; simp)
    have hok := hI.ok x (by simp)
    have hoko : hopOk o x := ⟨by rw [ht]; exact hok.at_, hok.hd⟩
    have s1 : tfix (ofF n) (N + 1) ⟨0, noT, l ++ [x]⟩ = ofF n (tfix (ofF n) N) ⟨0, noT, l ++ [x]⟩ := rfl
    have s2 : tfix (ofF o) (N + 1) ⟨0, noT, l ++ [x]⟩ = ofF o (tfix (ofF o) N) ⟨0, noT, l ++ [x]⟩ := rfl
    rw [s1, ofF_step gn _ l hok hI.len] at hf
    rw [s2, ofF_step go _ l hoko hI.len]
    have hg : goV o l x = goV n l x := by unfold goV; rw [hx]
    rw [hg]
    have hstop : ¬ (goV n l x).1 = true := by
      unfold goV
      split
      · rw [if_pos (.inr (by omega))]; simp
      · simp
    rw [if_neg hstop] at hf ⊢
    exact hf
  | succ d ih =>
    intro l x N hd hN hI hf
    obtain ⟨N, rfl⟩ : ∃ M, N = M + 1 := ⟨N - 1, by omega⟩
    obtain ⟨f', q, z, m, e1, e2, e3⟩ := run_ex gn (d + 1) l x (N + 1) hd hN hI
    rw [hf] at e1
    obtain rfl := Option.some.inj e1
    have hx : kd o x = kd n x := hk x (by rw [e2.hops, e3]; simp)
    have hok := hI.ok x (by simp)
    have hoko : hopOk o x := ⟨by rw [ht]; exact hok.at_, hok.hd⟩
    have s1 : tfix (ofF n) (N + 1) ⟨0, noT, l ++ [x]⟩ = ofF n (tfix (ofF n) N) ⟨0, noT, l ++ [x]⟩ := rfl
    have s2 : tfix (ofF o) (N + 1) ⟨0, noT, l ++ [x]⟩ = ofF o (tfix (ofF o) N) ⟨0, noT, l ++ [x]⟩ := rfl
    rw [s1, ofF_step gn _ l hok hI.len] at hf
    rw [s2, ofF_step go _ l hoko hI.len]
    have hg : goV o l x = goV n l x := by unfold goV; rw [hx]
    rw [hg]
    by_cases hgo : (goV n l x).1 = true
    · rw [if_pos hgo] at hf ⊢
      unfold goV at hgo hf ⊢
      by_cases h0 : (kd n x).1 = 0
      · rw [if_pos h0] at hgo hf ⊢
        by_cases h1 : (kd n x).2.2 ∈ l ++ [x] ∨ 24 ≤ (l ++ [x]).length
        · rw [if_pos h1] at hgo; cases hgo
        · rw [if_neg h1] at hf ⊢
          simp only [not_or, Nat.not_le] at h1
          have hok2 := (kd_ok gn hok).1 h0
          have hI2 : InvW n (l ++ [x] ++ [(kd n x).2.2]) := by
            refine ⟨fun i a b ha hb => ?_, ?_, fun y hy => ?_, by rw [List.length_append]; simp only [List.length_singleton]; omega⟩
            · by_cases hi : i + 1 < (l ++ [x]).length
              · rw [List.getElem?_append_left (by omega)] at ha
                rw [List.getElem?_append_left hi] at hb
                exact hI.walk i a b ha hb
              · have hi2 := (List.getElem?_eq_some_iff.1 hb).1
                rw [List.length_append, List.length_singleton] at hi2
                have ei : i + 1 = (l ++ [x]).length := by omega
                rw [ei, List.getElem?_append_right (Nat.le_refl _), Nat.sub_self] at hb
                simp only [List.getElem?_cons_zero, Option.some.injEq] at hb
                have ei2 : i = l.length := by simp at ei; omega
                rw [ei2, List.append_assoc, List.getElem?_append_right (Nat.le_refl _), Nat.sub_self] at ha
                simp only [List.cons_append, List.getElem?_cons_zero, Option.some.injEq] at ha
                subst ha
                exact ⟨h0, hb⟩
            · rw [List.nodup_append]
              exact ⟨hI.nodup, by simp, fun a ha b hb => by simp only [List.mem_singleton] at hb; subst hb; exact fun e => h1.1 (by rw [← e]; exact ha)⟩
            · rcases List.mem_append.1 hy with h | h
              · exact hI.ok y h
              · simp only [List.mem_singleton] at h; subst h; exact hok2
          exact ih (l ++ [x]) (kd n x).2.2 N (by rw [List.length_append]; simp only [List.length_singleton]; omega) (by omega) hI2 hf
      · rw [if_neg h0] at hgo; cases hgo
    · rw [if_neg hgo] at hf ⊢
      exact hf
theorem fate_mem {n : T_Net} {x : T_Host} (hx : x ∈ n.Topo.Hosts) {h : Int} (hh : 0 ≤ h ∧ h < 16) : fateV n x h ∈ fatesV n := by
  have e : (((h.toNat : Nat)) : Int) = h := Int.toNat_of_nonneg hh.1
  have : fateV n x ((h.toNat : Nat) : Int) ∈ fatesV n := List.mem_flatMap.2 ⟨x, hx, List.mem_map.2 ⟨h.toNat, List.mem_range.2 (by omega), rfl⟩⟩
  rw [e] at this
  exact this
theorem of_any {n o : T_Net} (gn : netGood n) (go : netGood o) (ht : o.Topo = n.Topo) {s : T_Spot} {h : Int} (hs : spotOk n.Topo s) (hh : 0 ≤ h ∧ h < 16) {f : T_Fate} (hf : t_net_Of n s h = some f) (hk : ∀ y ∈ f.Hops, kd o y = kd n y) : t_net_Of o s h = some f := by
  have hI : InvW n ([] ++ [⟨s, h⟩]) := ⟨fun i a b _ hb => by simp at hb, by simp, fun y hy => by simp at hy; subst hy; exact ⟨hs, hh⟩, by simp⟩
  have h1 : tfix (ofF n) bigN ⟨0, noT, [] ++ [⟨s, h⟩]⟩ = some f := (s_Of n s h).symm.trans hf
  exact (s_Of o s h).trans (sim_run gn go ht hk 23 [] ⟨s, h⟩ bigN rfl (Nat.lt_trans (by decide) bigN_gt) hI h1)
theorem of_left {n o : T_Net} (hn : NOk n) (gn : netGood n) (go : netGood o) (ho : Left n o (hopsOf (fatesV n))) {x : T_Host} (hx : x ∈ n.Topo.Hosts) {h : Int} (hh : 0 ≤ h ∧ h < 16) : t_net_Of o x.At h = some (fateV n x h) := by
  obtain ⟨h1, h2⟩ := good_fateV gn hx hh
  have hin := fate_mem hx hh
  generalize fateV n x h = f at h1 h2 hin
  exact of_any gn go ho.topo (gn.topo.hosts x hx).2 hh h1 fun y hy => kd_left hn gn ho (List.mem_flatMap.2 ⟨f, hin, hy⟩) (h2.ok y hy)
theorem fateV_of {o : T_Net} {x : T_Host} {h : Int} {f : T_Fate} (hf : t_net_Of o x.At h = some f) : fateV o x h = f := by
  unfold fateV
  rw [hf]; rfl
theorem host_left {n o : T_Net} (hn : NOk n) (gn : netGood n) (go : netGood o) (ho : Left n o (hopsOf (fatesV n))) {x : T_Host} (hx : x ∈ n.Topo.Hosts) : hostFates o x = hostFates n x := by
  unfold hostFates
  refine List.map_congr_left fun j hj => ?_
  have hj := List.mem_range.1 hj
  exact fateV_of (of_left hn gn go ho hx (h := (j : Int)) ⟨by omega, by omega⟩)
theorem flat_congr {α β : Type} {f g : α → List β} : ∀ {l : List α}, (∀ x ∈ l, f x = g x) → l.flatMap f = l.flatMap g
  | [], _ => rfl
  | x :: l, h => by
    rw [List.flatMap_cons, List.flatMap_cons, flat_congr fun y hy => h y (by simp [hy]), h x (by simp)]
theorem fates_left {n o : T_Net} (hn : NOk n) (gn : netGood n) (go : netGood o) (ho : Left n o (hopsOf (fatesV n))) : fatesV o = fatesV n := by
  have h := flat_congr (l := n.Topo.Hosts) (f := hostFates o) (g := hostFates n) fun x hx => host_left hn gn go ho hx
  have e : fatesV o = n.Topo.Hosts.flatMap (hostFates o) := congrArg (fun T : T_Topo => T.Hosts.flatMap (hostFates o)) ho.topo
  exact e.trans h
/-- what is left is used -/
theorem dead_left {n o : T_Net} (hn : NOk n) (gn : netGood n) (ho : Left n o (hopsOf (fatesV n))) {i : Nat} (hi : i < n.Tables.length) : dead o (hopsOf (fatesV n)) i = [] := by
  generalize hhs : hopsOf (fatesV n) = hs at ho
  have ht := hn.tok hi
  rw [R_tab] at ht
  have hl := ht.len
  rw [List.length_map] at hl
  have hto := ho.ok.tok (i := i) (by have := lens ho.ok hn ho.topo; omega)
  rw [R_tab] at hto
  have hlo := hto.len
  rw [List.length_map] at hlo
  unfold dead
  rw [List.map_eq_nil_iff, List.filter_eq_nil_iff]
  intro j hj
  have hj := List.mem_range.1 hj
  simp only [decide_eq_true_eq]
  intro h0
  -- the rule, in the net ahead
  have hr := List.getElem?_eq_getElem hj
  generalize (tabN o i)[j] = r at hr
  have hmem : r ∈ (tabN n i).filter fun r => decide (rlOf r ∉ (dead n hs i).map rlOf) := by rw [← ho.tab i hi]; exact List.mem_of_getElem? hr
  obtain ⟨m1, m2⟩ := List.mem_filter.1 hmem
  simp only [decide_eq_true_eq] at m2
  obtain ⟨k, hk⟩ := List.getElem?_of_mem m1
  have hkl := (List.getElem?_eq_some_iff.1 hk).1
  have hused : hs.countP (hit n i k) ≠ 0 := fun h => by
    refine m2 (List.mem_map_of_mem ?_)
    unfold dead
    refine List.mem_map.2 ⟨k, List.mem_filter.2 ⟨List.mem_range.2 hkl, by simpa using h⟩, ?_⟩
    rw [List.getD, hk]; rfl
  obtain ⟨y, hy, hyh⟩ := List.countP_pos_iff.1 (Nat.pos_of_ne_zero hused)
  unfold hit at hyh
  simp only [Bool.and_eq_true, decide_eq_true_eq] at hyh
  obtain ⟨y1, y2⟩ := hyh
  obtain ⟨v, f1, f2⟩ := s_FindB (tabN n i) y.Header (by omega)
  rw [y2] at f1
  obtain rfl := Option.some.inj f1
  have hbn : best y.Header (tabN n i) = some r := by
    rcases f2 with ⟨h, _⟩ | ⟨j', q, e, hq, hb⟩
    · omega
    · have : j' = k := by omega
      subst this
      rw [hk] at hq
      rw [hb]; exact hq.symm
  have hbo : best y.Header (tabN o i) = some r := by
    have := used_left hn ho hy (by rw [y1]; exact hi)
    rw [y1] at this
    rw [this, hbn]
  obtain ⟨v, g1, g2⟩ := s_FindB (tabN o i) y.Header (by omega)
  rcases g2 with ⟨_, h⟩ | ⟨j', q, rfl, hq, hb⟩
  · rw [hbo] at h; cases h
  · rw [hbo] at hb
    obtain rfl := Option.some.inj hb
    have : j' = j := nodup_at (x := rlOf r) hto.nodup (by rw [List.getElem?_map, hq]; rfl) (by rw [List.getElem?_map, hr]; rfl)
    subst this
    have : 0 < hs.countP (hit o i j') := List.countP_pos_iff.2 ⟨y, hy, by unfold hit; rw [y1, g1]; simp⟩
    omega

theorem s_IntsR (l : List Int) (hl : (l.length : Int) ≤ maxI) : t_railsame_Ints l l = some true := by
  unfold t_railsame_Ints
  rw [if_neg (by simp), join_eq, loopI_eq hl]
  have : ∀ (m p : List Int), l = p ++ m → goI (fun (i16 : Int) x17 (s12 : Unit) k13 => (idx l i16).bind fun r26 => if (decide (x17 ≠ r26)) = true then (some false) else (k13 ())) (fun (s12 : Unit) => some true) (p.length : Int) m () = some true := by
    intro m
    induction m with
    | nil => intro p _; rfl
    | cons x m ih =>
      intro p hp
      have hx : l[p.length]? = some x := by rw [hp]; simp
      rw [goI, idx_nat, hx, Option.bind_some, if_neg (by simp)]
      have := ih (p ++ [x]) (by rw [hp]; simp)
      simp only [List.length_append, List.length_singleton] at this
      have e : (p.length : Int) + 1 = ((p.length + 1 : Nat) : Int) := by omega
      rw [e]; exact this
  exact this l [] rfl
theorem s_FateR (f : T_Fate) (hf : f.Hops.length ≤ 24) : t_railsame_Fate f f = some true := by
  have hM : maxI = 9223372036854775807 := rfl
  unfold t_railsame_Fate
  rw [if_neg (by simp), join_eq, loopI_eq (by omega)]
  generalize f.Hops = l
  have : ∀ (m p : List T_Hop), l = p ++ m → goI (fun (i52 : Int) x53 (s48 : Unit) k49 => (idx l i52).bind fun r65 => if (!decide (x53 = r65)) = true then (some false) else (k49 ())) (fun (s48 : Unit) => some true) (p.length : Int) m () = some true := by
    intro m
    induction m with
    | nil => intro p _; rfl
    | cons x m ih =>
      intro p hp
      have hx : l[p.length]? = some x := by rw [hp]; simp
      rw [goI, idx_nat, hx, Option.bind_some, if_neg (by simp)]
      have := ih (p ++ [x]) (by rw [hp]; simp)
      simp only [List.length_append, List.length_singleton] at this
      have e : (p.length : Int) + 1 = ((p.length + 1 : Nat) : Int) := by omega
      rw [e]; exact this
  exact this l [] rfl
theorem fates_sent {n : T_Net} (hn : netGood n) (hc : t_net_Check n = some 0) : ∀ f ∈ fatesV n, Sent n f := by
  intro f hf
  obtain ⟨x, hx, hf⟩ := List.mem_flatMap.1 hf
  obtain ⟨j, hj, hf⟩ := List.mem_map.1 hf
  have hj := List.mem_range.1 hj
  have hh : 0 ≤ (j : Int) ∧ (j : Int) < 16 := ⟨by omega, by omega⟩
  obtain ⟨h1, _⟩ := good_fateV hn hx hh
  rw [hf] at h1
  obtain ⟨f', q, z, m, e1, e2, e3⟩ := run_ex hn 23 [] ⟨x.At, (j : Int)⟩ bigN rfl (Nat.lt_trans (by decide) bigN_gt) ⟨fun i a b _ hb => by simp at hb, by simp, fun y hy => by simp at hy; subst hy; exact ⟨(hn.topo.hosts x hx).2, hh⟩, by simp⟩
  have : some f = some f' := h1.symm.trans ((s_Of n x.At (j : Int)).trans e1)
  obtain rfl := Option.some.inj this
  exact fin_sent hn hc e2
/-- what of a net's fates is counted -/
theorem loads_eq {n o : T_Net} (gn : netGood n) (go : netGood o) (cn : t_net_Check n = some 0) (co : t_net_Check o = some 0) (ht : o.Topo = n.Topo) (hf : fatesV o = fatesV n) :
    (∃ c, t_load_Links n = some (c, 0) ∧ t_load_Links o = some (c, 0) ∧ t_railsame_Ints c c = some true) ∧ ∃ p, t_load_Pairs n = some (p, 0) ∧ t_load_Pairs o = some (p, 0) ∧ t_railsame_Ints p p = some true := by
  have hM : maxI = 9223372036854775807 := rfl
  have hnh := gn.topo.nh
  have hnl := gn.topo.nl
  refine ⟨?_, ?_⟩
  · obtain ⟨c, c1, c2⟩ := s_Count n.Topo hnl (fatesV n) (by rw [fatesV_len]; omega) (fun f hf => by
      have := fates_sent gn cn f hf
      exact ⟨this.len.2, this.len.1, this.over⟩)
    refine ⟨c, ?_, ?_, s_IntsR c (by rw [c2.len]; omega)⟩
    · unfold t_load_Links
      rw [cn, Option.bind_some, if_neg (by simp), s_fates gn, Option.bind_some, c1]; rfl
    · unfold t_load_Links
      rw [co, Option.bind_some, if_neg (by simp), s_fates go, Option.bind_some, hf, ht, c1]; rfl
  · obtain ⟨p, p1, m, _, p2⟩ := s_Pairs gn cn
    have e : t_load_Pairs o = t_load_Pairs n := by
      unfold t_load_Pairs
      rw [cn, co, s_fates gn, s_fates go, hf, ht]
    refine ⟨p, p1, e.trans p1, s_IntsR p ?_⟩
    have hpl := p2.len
    have : n.Topo.Hosts.length * n.Topo.Hosts.length ≤ 64 := Nat.mul_le_mul hnh hnh
    omega
theorem unused_none {n o : T_Net} (hn : NOk n) (gn : netGood n) (go : netGood o) (co : t_net_Check o = some 0) (ho : Left n o (hopsOf (fatesV n))) : t_load_Unused o = some ([], 0) := by
  rw [s_UnusedV go co, fates_left hn gn go ho]
  have hl := lens ho.ok hn ho.topo
  have : unusedL o (hopsOf (fatesV n)) = [] := by
    unfold unusedL
    rw [List.flatMap_eq_nil_iff]
    intro i hi
    rw [dead_left hn gn ho (by have := List.mem_range.1 hi; omega)]; rfl
  rw [this]
/-- what is sent -/
theorem send_left {n o : T_Net} (hn : NOk n) (gn : netGood n) (go : netGood o) (cn : t_net_Check n = some 0) (co : t_net_Check o = some 0) (ho : Left n o (hopsOf (fatesV n))) (na : ∀ h ∈ n.Topo.Hosts, (h.Name.size : Int) ≤ maxI) (nm : ByteArray) (h : Int) :
    ∃ r, t_net_Send n nm h = some r ∧ t_net_Send o nm h = some r ∧ t_railsame_Fate r.1 r.1 = some true := by
  unfold t_net_Send
  rw [cn, co, ho.topo]
  simp only [Option.bind_some, decide_true, Bool.not_true, Bool.false_eq_true, if_false]
  obtain ⟨r, w1, w2, _⟩ := s_WhereT (T := n.Topo) na nm
  rw [w1]
  simp only [Option.bind_some]
  by_cases hr : r.2 = 0
  · simp only [hr, decide_true, Bool.not_true, Bool.false_eq_true, if_false]
    obtain ⟨b, b1, b2⟩ := s_Header h
    rw [b1]
    simp only [Option.bind_some]
    cases b with
    | false => exact ⟨_, rfl, rfl, s_FateR _ (by simp)⟩
    | true =>
      simp only [Bool.not_true, Bool.false_eq_true, if_false]
      obtain ⟨_, x, hx, _, hx2⟩ := w2 hr
      have hh := b2.1 rfl
      obtain ⟨h1, h2⟩ := good_fateV gn hx hh
      have h3 := of_left hn gn go ho hx hh
      rw [hx2, h1, h3]
      exact ⟨_, rfl, rfl, s_FateR _ h2.len⟩
  · have : (!decide (r.2 = 0)) = true := by simp [hr]
    rw [if_pos this, if_pos this]
    exact ⟨_, rfl, rfl, s_FateR _ (by simp)⟩
/-! the fact -/
def nL : T_Net := ⟨⟨1, [], [⟨ByteArray.mk #[97], ⟨1, 2⟩⟩]⟩, [[⟨1, ⟨0, 0⟩, 2, 0, 0⟩]]⟩
theorem nL_chk : t_net_Check nL = some 0 := by kernel_rfl
theorem nL_names : ∀ h ∈ nL.Topo.Hosts, (h.Name.size : Int) ≤ maxI := by
  intro h hh
  simp [nL] at hh
  subst hh
  decide
theorem nL_good : netGood nL := by
  obtain ⟨c, h1, h2⟩ := s_netCheck nL nL_names
  rw [nL_chk] at h1
  exact h2 (Option.some.inj h1).symm
theorem nL_a : ∀ (i : Fin 16) (n : Nat), tfix (ofF nL) (n + 3) ⟨0, noT, [] ++ [⟨⟨1, 2⟩, (i.val : Int)⟩]⟩ = some ⟨1, ByteArray.mk #[97], [⟨⟨1, 2⟩, (i.val : Int)⟩]⟩
  | ⟨0, _⟩, n => by kernel_rfl
  | ⟨1, _⟩, n => by kernel_rfl
  | ⟨2, _⟩, n => by kernel_rfl
  | ⟨3, _⟩, n => by kernel_rfl
  | ⟨4, _⟩, n => by kernel_rfl
  | ⟨5, _⟩, n => by kernel_rfl
  | ⟨6, _⟩, n => by kernel_rfl
  | ⟨7, _⟩, n => by kernel_rfl
  | ⟨8, _⟩, n => by kernel_rfl
  | ⟨9, _⟩, n => by kernel_rfl
  | ⟨10, _⟩, n => by kernel_rfl
  | ⟨11, _⟩, n => by kernel_rfl
  | ⟨12, _⟩, n => by kernel_rfl
  | ⟨13, _⟩, n => by kernel_rfl
  | ⟨14, _⟩, n => by kernel_rfl
  | ⟨15, _⟩, n => by kernel_rfl
  | ⟨m + 16, h⟩, n => absurd h (by omega)
def fatesL : List T_Fate := (List.range 16).map fun j : Nat => ⟨1, ByteArray.mk #[97], [⟨⟨1, 2⟩, (j : Int)⟩]⟩
theorem nL_host : hostFates nL ⟨ByteArray.mk #[97], ⟨1, 2⟩⟩ = fatesL := by
  obtain ⟨N, hN⟩ : ∃ n, bigN = n + 3 := ⟨bigN - 3, by have := bigN_gt; omega⟩
  unfold hostFates fatesL
  refine List.map_congr_left fun j hj => ?_
  have hj := List.mem_range.1 hj
  refine fateV_of ?_
  rw [s_Of, hN]
  exact nL_a ⟨j, hj⟩ N
theorem nL_fates : fatesV nL = fatesL := by
  have h := flat_congr (l := nL.Topo.Hosts) (f := hostFates nL) (g := fun _ => fatesL) fun x hx => by
    simp [nL] at hx
    subst hx
    exact nL_host
  exact h.trans (by kernel_rfl)
theorem nL_pairs : t_load_Pairs nL = some ([16], 0) := by
  unfold t_load_Pairs
  rw [nL_chk, s_fates nL_good, nL_fates]
  kernel_rfl
theorem walk_LoadLess (a0 : T_Net) (a1 : ByteArray) (a2 : Int) (u0 : a0.wf maxLen) (_ : a1.size ≤ maxLen) (u2 : wi64 a2) : t_raillaw3_LoadLess a0 a1 a2 = some true := by
  have hM : maxI = 9223372036854775807 := rfl
  have hML : maxLen = 9223372036854775807 := rfl
  have na : ∀ h ∈ a0.Topo.Hosts, (h.Name.size : Int) ≤ maxI := fun h hh => by
    have := (u0.1.2.2.2 h hh).1
    unfold wS at this; omega
  unfold t_raillaw3_LoadLess
  rw [show (T_Net.mk (T_Topo.mk 1 [] ([(T_Host.mk (ByteArray.mk #[97]) (T_Spot.mk 1 2))] : (List T_Host))) ([([(T_Rule.mk 1 (T_Cube.mk 0 0) 2 0 0)] : (List T_Rule))] : (List (List T_Rule)))) = nL from rfl, nL_pairs, Option.bind_some]
  have f1 : decide (((List.length [(16 : Int)] : Nat) : Int) ≠ 1) = false := rfl
  have f2 : decide ((16 : Int) ≠ 16) = false := rfl
  simp only [decide_true, Bool.not_true, Bool.false_or, f1, Bool.not_false, gd_true, show idx [(16 : Int)] 0 = some 16 from rfl, Option.bind_some, f2, Bool.false_eq_true, if_false]
  obtain ⟨c, h1, h2, h3⟩ := s_Apply a0 [] na
  by_cases hc : c = 0
  · subst hc
    have hn := h2.1 rfl
    obtain ⟨c', g1, g2⟩ := s_netCheck a0 na
    rw [h1] at g1
    have gn := g2 (Option.some.inj g1).symm
    obtain ⟨l1, l2, l3⟩ := unused_left hn (hopsOf (fatesV a0))
    rw [s_UnusedV gn h1, Option.bind_some, if_neg (by simp), s_Apply_ok na hn l1, Option.bind_some, if_neg (by simp [l2])]
    generalize hP : appL (unusedL a0 (hopsOf (fatesV a0))) a0 = P at l2 l3
    have no : ∀ h ∈ P.1.Topo.Hosts, (h.Name.size : Int) ≤ maxI := by rw [l3.topo]; exact na
    have co : t_net_Check P.1 = some 0 := (netCheck_ok no).2 l3.ok
    obtain ⟨c2, k1, k2⟩ := s_netCheck P.1 no
    rw [co] at k1
    have go := k2 (Option.some.inj k1).symm
    have hf := fates_left hn gn go l3
    obtain ⟨⟨cc, q1, q2, q3⟩, p, r1, r2, r3⟩ := loads_eq gn go h1 co l3.topo hf
    obtain ⟨s, t1, t2, t3⟩ := send_left hn gn go h1 co l3 na a1 a2
    have hu := unused_none hn gn go co l3
    rw [q1, q2, r1, r2, t1, t2, hu]
    simp only [Option.bind_some, q3, r3, t3, decide_true, Bool.and_self, Bool.and_true, Bool.true_and, beq_self_eq_true]
    rfl
  · have hU : t_load_Unused a0 = some ([], c) := by
      unfold t_load_Unused
      rw [h1, Option.bind_some, if_pos (by simp [hc])]
    rw [hU, Option.bind_some, if_pos (by simp [hc])]
end Go.Proofs.Ytpjadjoekdcjiaa.Ty
