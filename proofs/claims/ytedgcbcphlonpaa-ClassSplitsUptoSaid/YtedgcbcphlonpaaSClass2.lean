/- Classes of headers: what is in them. -/
import Derived.Test.YtedgcbcphlonpaaSClass
namespace Go.Proofs.Ytedgcbcphlonpaa.Ty
open Go Go.RowKit Go.Proofs.Ytedgcbcphlonpaa.Den
set_option linter.unusedSimpArgs false
set_option linter.unusedVariables false
set_option maxRecDepth 100000

noncomputable def heads (tabs : List (List T_Rule)) (out : List (List Int)) : List (List Int) := out.map fun c => pathV tabs (hd0 c)
theorem heads_step {tabs : List (List T_Rule)} {out : List (List Int)} {n : Nat} (hI : InvC n out) (h : Int) : heads tabs (clsStep tabs out h) = if fx (same tabs h) out 0 < 0 then heads tabs out ++ [pathV tabs h] else heads tabs out := by
  unfold clsStep heads
  split
  · simp [hd0]
  · rename_i hp
    obtain ⟨j, e, hj, _⟩ := fx_in hp
    rw [e]
    have hne := hI.ne out[j] (List.getElem_mem hj)
    have hh : hd0 (out[j] ++ [h]) = hd0 out[j] := by
      obtain ⟨x, r, hx⟩ := List.exists_cons_of_ne_nil hne
      rw [hx]; rfl
    have hg : out.getD (j : Int).toNat [] = out[j] := by simp [List.getD, hj]
    rw [hg, List.map_set, hh]
    have : (j : Int).toNat = j := by omega
    rw [this]
    apply List.ext_getElem?
    intro i
    rw [List.getElem?_set]
    split
    · rename_i e; subst e; simp [hj]
    · rfl
/-- what is in classes of the headers below n -/
structure InvM (tabs : List (List T_Rule)) (n : Nat) (out : List (List Int)) : Prop where
  mem : ∀ c ∈ out, ∀ x ∈ c, (0 ≤ x ∧ x < (n : Int)) ∧ pathV tabs x = pathV tabs (hd0 c)
  nd : (heads tabs out).Nodup
  cov : ∀ j : Nat, j < n → pathV tabs (j : Int) ∈ heads tabs out
theorem invM_step {tabs : List (List T_Rule)} {n : Nat} {out : List (List Int)} (hI : InvC n out) (hM : InvM tabs n out) : InvM tabs (n + 1) (clsStep tabs out (n : Int)) := by
  have hst := heads_step (tabs := tabs) hI (n : Int)
  by_cases hp : fx (same tabs (n : Int)) out 0 < 0
  · rw [if_pos hp] at hst
    have hno : ∀ c ∈ out, same tabs (n : Int) c = false := by
      rcases fx_at (p := same tabs (n : Int)) (l := out) (i := 0) with ⟨_, h⟩ | ⟨j, x, h1, _⟩
      · exact h
      · rw [h1] at hp; omega
    have hout : clsStep tabs out (n : Int) = out ++ [[(n : Int)]] := by unfold clsStep; rw [if_pos hp]
    refine ⟨fun c hc x hx => ?_, ?_, fun j hj => ?_⟩
    · rw [hout] at hc
      rcases List.mem_append.1 hc with h | h
      · have := hM.mem c h x hx
        exact ⟨by omega, this.2⟩
      · simp only [List.mem_singleton] at h
        subst h
        simp only [List.mem_singleton] at hx
        subst hx
        exact ⟨by omega, rfl⟩
    · rw [hst, List.nodup_append]
      refine ⟨hM.nd, by simp, fun a ha b hb e => ?_⟩
      simp only [List.mem_singleton] at hb
      subst hb
      subst e
      obtain ⟨c, hc, e⟩ := List.mem_map.1 ha
      have := hno c hc
      unfold same at this
      simp only [decide_eq_false_iff_not] at this
      exact this e
    · rw [hst]
      by_cases e : j = n
      · subst e; simp
      · exact List.mem_append_left _ (hM.cov j (by omega))
  · rw [if_neg hp] at hst
    obtain ⟨j, e, hj, hs, _⟩ := fx_in hp
    have hs : pathV tabs (hd0 out[j]) = pathV tabs (n : Int) := by unfold same at hs; simpa using hs
    have hne := hI.ne out[j] (List.getElem_mem hj)
    have hh : hd0 (out[j] ++ [(n : Int)]) = hd0 out[j] := by
      obtain ⟨x, r, hx⟩ := List.exists_cons_of_ne_nil hne
      rw [hx]; rfl
    have hout : clsStep tabs out (n : Int) = out.set j (out[j] ++ [(n : Int)]) := by
      unfold clsStep
      rw [if_neg hp, e]
      simp [List.getD, hj]
    refine ⟨fun c hc x hx => ?_, by rw [hst]; exact hM.nd, fun k hk => ?_⟩
    · rw [hout] at hc
      rcases List.mem_or_eq_of_mem_set hc with h | h
      · have := hM.mem c h x hx
        exact ⟨by omega, this.2⟩
      · subst h
        rw [hh]
        rcases List.mem_append.1 hx with h | h
        · have := hM.mem _ (List.getElem_mem hj) x h
          exact ⟨by omega, this.2⟩
        · simp only [List.mem_singleton] at h
          subst h
          exact ⟨by omega, hs.symm⟩
    · rw [hst]
      by_cases e2 : k = n
      · subst e2
        rw [← hs]
        exact List.mem_map_of_mem (List.getElem_mem hj)
      · exact hM.cov k (by omega)
theorem clsN_invM (tabs : List (List T_Rule)) : ∀ n, InvM tabs n (clsN tabs n)
  | 0 => ⟨by simp [clsN], by simp [clsN, heads], fun j hj => by omega⟩
  | n + 1 => invM_step (clsN_inv tabs n) (clsN_invM tabs n)
theorem nodup_len {α : Type} [DecidableEq α] : ∀ (l m : List α), l.Nodup → (∀ x ∈ l, x ∈ m) → l.length ≤ m.length
  | [], m, _, _ => Nat.zero_le _
  | x :: l, m, hn, h => by
    rw [List.nodup_cons] at hn
    have hx := h x (by simp)
    have ih := nodup_len l (m.erase x) hn.2 fun y hy => by
      have hne : y ≠ x := fun e => hn.1 (by rw [← e]; exact hy)
      exact (List.mem_erase_of_ne hne).2 (h y (by simp [hy]))
    rw [List.length_erase_of_mem hx] at ih
    have := List.length_pos_of_mem hx
    simp only [List.length_cons]; omega
end Go.Proofs.Ytedgcbcphlonpaa.Ty
