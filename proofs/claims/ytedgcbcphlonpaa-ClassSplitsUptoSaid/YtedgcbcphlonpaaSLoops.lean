/- Plain facts on loops and maps, more of them. -/
import Derived.Test.YtedgcbcphlonpaaSBase
import Derived.Test.YtedgcbcphlonpaaTyM
namespace Go.Proofs.Ytedgcbcphlonpaa.Ty
open Go Go.RowKit Go.Proofs.Ytedgcbcphlonpaa.Den
set_option linter.unusedSimpArgs false
set_option linter.unusedVariables false
set_option maxRecDepth 100000

section
variable {α β σ : Type}
/-- what each end of a loop has -/
theorem goI_post {step : Int → α → σ → (σ → Option β) → Option β} {fin : σ → Option β} {Q : β → Prop} (hfin : ∀ s v, fin s = some v → Q v)
    (hstep : ∀ i x s k, (∀ s' v, k s' = some v → Q v) → ∀ v, step i x s k = some v → Q v) : ∀ (l : List α) (i : Int) (s : σ) (v : β), goI step fin i l s = some v → Q v
  | [], i, s, v, h => hfin s v h
  | x :: l, i, s, v, h => hstep i x s _ (fun s' v' h' => goI_post hfin hstep l (i + 1) s' v' h') v h
theorem loopI_post {step : Int → α → σ → (σ → Option β) → Option β} {fin : σ → Option β} (Q : β → Prop) {l : List α} {s : σ} {v : β} (h : loopI l step fin s = some v) (hfin : ∀ s v, fin s = some v → Q v)
    (hstep : ∀ i x s k, (∀ s' v, k s' = some v → Q v) → ∀ v, step i x s k = some v → Q v) : Q v := by
  unfold loopI at h
  rw [need_some] at h
  exact goI_post hfin hstep l 0 s v h.2
end
section
variable {α β σ τ : Type}
/-- two loops that go alike -/
theorem goI_sim {step : Int → α → σ → (σ → Option β) → Option β} {step' : Int → α → τ → (τ → Option β) → Option β} {fin : σ → Option β} {fin' : τ → Option β} (I : Int → List α → σ → τ → Prop) (hfin : ∀ i s t, I i [] s t → fin s = fin' t)
    (hstep : ∀ i x l s t k k', I i (x :: l) s t → (∀ s' t', I (i + 1) l s' t' → k s' = k' t') → step i x s k = step' i x t k') : ∀ (l : List α) (i : Int) (s : σ) (t : τ), I i l s t → goI step fin i l s = goI step' fin' i l t
  | [], i, s, t, h => hfin i s t h
  | x :: l, i, s, t, h => hstep i x l s t _ _ h fun s' t' h' => goI_sim I hfin hstep l (i + 1) s' t' h'
theorem loopI_sim {step : Int → α → σ → (σ → Option β) → Option β} {step' : Int → α → τ → (τ → Option β) → Option β} {fin : σ → Option β} {fin' : τ → Option β} (I : Int → List α → σ → τ → Prop) {l : List α} {s : σ} {t : τ} (h0 : I 0 l s t) (hfin : ∀ i s t, I i [] s t → fin s = fin' t)
    (hstep : ∀ i x l s t k k', I i (x :: l) s t → (∀ s' t', I (i + 1) l s' t' → k s' = k' t') → step i x s k = step' i x t k') : loopI l step fin s = loopI l step' fin' t := by
  unfold loopI; rw [goI_sim I hfin hstep l 0 s t h0]
theorem loopI_any {step : Int → α → Unit → (Unit → Option β) → Option β} {f : Option β} (p : α → Bool) {r : β} {l : List α} (hl : (l.length : Int) ≤ maxI) (h : ∀ x i k, step i x () k = if p x = true then some r else k ()) : loopI l step (fun _ => f) () = if l.any p = true then some r else f := by
  rw [loopI_eq hl, goI_any (p := p) (r := r) l 0 fun x _ i k => h x i k]
theorem goU_any {l : List α} {p : α → Bool} {r : β} {step : Int → Unit → (Unit → Option β) → Option β} {f : Option β} (h : ∀ (j : Nat) x k, l[j]? = some x → step (j : Int) () k = if p x = true then some r else k ()) : ∀ (m i : Nat), i + m ≤ l.length → goU step (fun _ _ => f) m (i : Int) () = if ((l.drop i).take m).any p = true then some r else f
  | 0, i, _ => by simp [goU]
  | m + 1, i, hm => by
    have hi : i < l.length := by omega
    rw [goU, h i l[i] _ (List.getElem?_eq_getElem hi), List.drop_eq_getElem_cons hi, List.take_succ_cons, List.any_cons]
    have e : (i : Int) + 1 = ((i + 1 : Nat) : Int) := by omega
    rw [e, goU_any h m (i + 1) (by omega)]
    cases p l[i] <;> simp
theorem loopU_any {l : List α} (p : α → Bool) {r : β} {step : Int → Unit → (Unit → Option β) → Option β} {f : Option β} {i : Int} (h0 : 0 ≤ i) (h1 : i ≤ l.length) (h2 : i ≤ maxI) (h : ∀ (j : Nat) x k, l[j]? = some x → step (j : Int) () k = if p x = true then some r else k ()) : loopU 0 i step (fun _ _ => f) () = if (l.take i.toNat).any p = true then some r else f := by
  rw [loopU_eq (Int.le_refl 0) h2, Int.sub_zero]
  have := goU_any (f := f) h i.toNat 0 (by omega)
  simpa using this
end
section
variable {K α : Type} [DecidableEq K]
theorem mfind_off : ∀ (l : List (K × α)) (a : K) (i : Nat), mfind l a i = (mfind l a 0).map fun p => (p.1 + i, p.2)
  | [], _, _ => rfl
  | (b, u) :: r, a, i => by
    simp only [mfind]
    split
    · simp
    · rw [mfind_off r a (i + 1), mfind_off r a (0 + 1)]
      cases mfind r a 0 with
      | none => rfl
      | some p => simp; omega
theorem mget_cons (b : K) (u : α) (r : List (K × α)) (a : K) (d : α) : mget ((b, u) :: r) a d = if a = b then u else mget r a d := by
  unfold mget
  simp only [mfind]
  by_cases h : a = b
  · simp [h]
  · rw [if_neg h, if_neg h, mfind_off r a (0 + 1)]
    cases mfind r a 0 <;> rfl
theorem mput_cons (b : K) (u : α) (r : List (K × α)) (a : K) (v : α) : mput ((b, u) :: r) a v = if a = b then (a, v) :: r else (b, u) :: mput r a v := by
  unfold mput
  simp only [mfind]
  by_cases h : a = b
  · simp [h]
  · rw [if_neg h, if_neg h, mfind_off r a (0 + 1)]
    cases mfind r a 0 <;> simp
theorem mget_mput : ∀ (l : List (K × α)) (a : K) (v : α) (b : K) (d : α), mget (mput l a v) b d = if b = a then v else mget l b d
  | [], a, v, b, d => by
    show mget ([(a, v)]) b d = _
    rw [mget_cons]
  | (c, u) :: r, a, v, b, d => by
    rw [mput_cons]
    by_cases h : a = c
    · subst h
      rw [if_pos rfl, mget_cons, mget_cons]
      split <;> rfl
    · rw [if_neg h, mget_cons, mget_cons, mget_mput r a v b d]
      by_cases h2 : b = c
      · subst h2
        rw [if_pos rfl, if_neg (fun e => h e.symm), if_pos rfl]
      · rw [if_neg h2, if_neg h2]
omit [DecidableEq K] in
theorem any_two (p q : K → Bool) : ∀ l : List K, (l.any fun y => p y || q y) = (l.any p || l.any q)
  | [] => rfl
  | x :: l => by
    rw [List.any_cons, List.any_cons, List.any_cons, any_two p q l]
    cases p x <;> cases q x <;> cases l.any p <;> rfl
theorem any_is (l : List K) (a : K) : (l.any fun y => decide (y = a)) = decide (a ∈ l) := by
  rw [Bool.eq_iff_iff]
  simp
end

end Go.Proofs.Ytedgcbcphlonpaa.Ty
