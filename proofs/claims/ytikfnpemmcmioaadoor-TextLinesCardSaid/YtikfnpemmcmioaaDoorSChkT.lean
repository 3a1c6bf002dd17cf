/- Topologies, as they are checked: what holds of them where nothing is wrong. -/
import Derived.Test.YtikfnpemmcmioaaDoorSBase
import Derived.Test.YtikfnpemmcmioaaDoorTyA
import Derived.Test.YtikfnpemmcmioaaDoorVcS
namespace Go.Proofs.YtikfnpemmcmioaaDoor.Ty
open Go Go.RowKit Go.Proofs.YtikfnpemmcmioaaDoor.Den
set_option linter.unusedSimpArgs false
set_option linter.unusedVariables false
set_option maxRecDepth 100000

section
variable {α β σ : Type}
/-- a loop comes to something that has Q -/
theorem goI_ex {step : Int → α → σ → (σ → Option β) → Option β} {fin : σ → Option β} {I : Int → List α → σ → Prop} {Q : β → Prop} (hfin : ∀ i s, I i [] s → ∃ v, fin s = some v ∧ Q v)
    (hstep : ∀ i x l s k, I i (x :: l) s → (∀ s', I (i + 1) l s' → ∃ v, k s' = some v ∧ Q v) → ∃ v, step i x s k = some v ∧ Q v) : ∀ (l : List α) (i : Int) (s : σ), I i l s → ∃ v, goI step fin i l s = some v ∧ Q v
  | [], i, s, h => hfin i s h
  | x :: l, i, s, h => hstep i x l s _ h fun s' h' => goI_ex hfin hstep l (i + 1) s' h'
theorem loopI_ex {step : Int → α → σ → (σ → Option β) → Option β} {fin : σ → Option β} (I : Int → List α → σ → Prop) {Q : β → Prop} {l : List α} {s : σ} (hl : (l.length : Int) ≤ 9223372036854775807) (h0 : I 0 l s) (hfin : ∀ i s, I i [] s → ∃ v, fin s = some v ∧ Q v)
    (hstep : ∀ i x l s k, I i (x :: l) s → (∀ s', I (i + 1) l s' → ∃ v, k s' = some v ∧ Q v) → ∃ v, step i x s k = some v ∧ Q v) : ∃ v, loopI l step fin s = some v ∧ Q v := by
  rw [loopI_eq hl]; exact goI_ex hfin hstep l 0 s h0
theorem goU_ex {step : Int → σ → (σ → Option β) → Option β} {fin : Int → σ → Option β} {I : Nat → Int → σ → Prop} {Q : β → Prop} (hfin : ∀ i s, I 0 i s → ∃ v, fin i s = some v ∧ Q v)
    (hstep : ∀ m i s k, I (m + 1) i s → (∀ s', I m (i + 1) s' → ∃ v, k s' = some v ∧ Q v) → ∃ v, step i s k = some v ∧ Q v) : ∀ (m : Nat) (i : Int) (s : σ), I m i s → ∃ v, goU step fin m i s = some v ∧ Q v
  | 0, i, s, h => hfin i s h
  | m + 1, i, s, h => hstep m i s _ h fun s' h' => goU_ex hfin hstep m (i + 1) s' h'
end

def spotOk (T : T_Topo) (s : T_Spot) : Prop := 1 ≤ s.Switch ∧ s.Switch ≤ T.Switches ∧ 1 ≤ s.Port ∧ s.Port ≤ 4
structure topoGood (T : T_Topo) : Prop where
  sw : 1 ≤ T.Switches ∧ T.Switches ≤ 6
  nl : T.Links.length ≤ 200
  nh : T.Hosts.length ≤ 8
  links : ∀ l ∈ T.Links, spotOk T l.A ∧ spotOk T l.B
  hosts : ∀ h ∈ T.Hosts, h.Name ≠ ByteArray.mk #[] ∧ spotOk T h.At
theorem s_Spot (T : T_Topo) (s : T_Spot) : ∃ b, t_topo_Spot T s = some b ∧ (b = true ↔ spotOk T s) :=
  ⟨_, rfl, by simp [spotOk, and_assoc]⟩
theorem s_Name (s : ByteArray) (hs : (s.size : Int) ≤ maxI) : ∃ b, t_topo_Name s = some b ∧ (b = true → s ≠ ByteArray.mk #[]) := by
  unfold t_topo_Name
  rw [need_pos (by simpa using hs), join_eq]
  refine loopI_ex (fun _ _ _ => True) (by rw [numsOf_len]; exact hs) trivial (fun i s' _ => ⟨_, rfl, fun h => ?_⟩) (fun i x l s' k _ hk => ?_)
  · simp only [Bool.and_eq_true, Bool.not_eq_true', decide_eq_false_iff_not] at h
    exact h.1
  · split
    · exact ⟨false, rfl, fun h => by cases h⟩
    · exact hk () trivial
theorem s_topoCheck (T : T_Topo) (hn : ∀ h ∈ T.Hosts, (h.Name.size : Int) ≤ maxI) : ∃ c, t_topo_Check T = some c ∧ (c = 0 → topoGood T) := by
  unfold t_topo_Check
  split
  · exact ⟨1, rfl, fun h => by cases h⟩
  · rename_i h1
    simp only [Bool.or_eq_true, decide_eq_true_eq, not_or, Int.not_lt] at h1
    split
    · exact ⟨4, rfl, fun h => by cases h⟩
    · rename_i h2
      simp only [Bool.or_eq_true, decide_eq_true_eq, not_or, Int.not_lt] at h2
      simp only [join_eq]
      refine loopI_ex (fun _ l _ => ∀ x ∈ T.Links, x ∈ l ∨ (spotOk T x.A ∧ spotOk T x.B)) (by omega) (fun x hx => .inl hx) (fun i s hI => ?_) (fun i x l s k hI hk => ?_)
      · refine loopI_ex (fun _ l _ => (∀ x ∈ l, x ∈ T.Hosts) ∧ ∀ x ∈ T.Hosts, x ∈ l ∨ (x.Name ≠ ByteArray.mk #[] ∧ spotOk T x.At)) (by omega) ⟨fun _ h => h, fun x hx => .inl hx⟩ (fun i s hJ => ?_) (fun i x l s k hJ hk => ?_)
        · refine ⟨0, rfl, fun _ => ⟨h1, by omega, by omega, fun l hl => (hI l hl).resolve_left (by simp), fun h hh => (hJ.2 h hh).resolve_left (by simp)⟩⟩
        · have hx := hJ.1 x (by simp)
          obtain ⟨b, e1, e2⟩ := s_Name x.Name (hn x hx)
          rw [e1]
          simp only [Option.bind_some]
          split
          · exact ⟨2, rfl, fun h => by cases h⟩
          · rename_i hb
            obtain ⟨b2, f1, f2⟩ := s_Spot T x.At
            rw [f1]
            simp only [Option.bind_some]
            split
            · exact ⟨1, rfl, fun h => by cases h⟩
            · rename_i hb2
              split
              · exact ⟨7, rfl, fun h => by cases h⟩
              · refine hk _ ⟨fun y hy => hJ.1 y (by simp [hy]), fun y hy => ?_⟩
                rcases hJ.2 y hy with h | h
                · rcases List.mem_cons.1 h with rfl | h
                  · exact .inr ⟨e2 (by simpa using hb), f2.1 (by simpa using hb2)⟩
                  · exact .inl h
                · exact .inr h
      · obtain ⟨b, e1, e2⟩ := s_Spot T x.A
        obtain ⟨b2, f1, f2⟩ := s_Spot T x.B
        rw [e1, f1]
        simp only [Option.bind_some]
        cases hb1 : b with
        | false => exact ⟨1, by simp [gd], fun h => by cases h⟩
        | true =>
          cases hb2 : b2 with
          | false => exact ⟨1, by simp [gd], fun h => by cases h⟩
          | true =>
            simp only [gd, Bool.not_true, Bool.not_false, if_true, Option.bind_some, Bool.or_self, Bool.false_eq_true, if_false]
            split
            · exact ⟨7, rfl, fun h => by cases h⟩
            · refine hk _ fun y hy => ?_
              rcases hI y hy with h | h
              · rcases List.mem_cons.1 h with rfl | h
                · exact .inr ⟨e2.1 hb1, f2.1 hb2⟩
                · exact .inl h
              · exact .inr h

theorem idx_some {α : Type} {l : List α} {i : Int} (h0 : 0 ≤ i) (h1 : i < l.length) : ∃ x, idx l i = some x ∧ x ∈ l ∧ l[i.toNat]? = some x := by
  have : i.toNat < l.length := by omega
  exact ⟨l[i.toNat], by simp [idx, h0, List.getElem?_eq_getElem this], List.getElem_mem this, List.getElem?_eq_getElem this⟩
end Go.Proofs.YtikfnpemmcmioaaDoor.Ty
