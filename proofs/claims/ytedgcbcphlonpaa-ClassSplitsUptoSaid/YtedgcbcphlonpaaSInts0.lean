/- Loops that go through lists: no memory in sight. -/
import Derived.Test.YtedgcbcphlonpaaSLoops
import Derived.Test.YtedgcbcphlonpaaTyN
namespace Go.Proofs.Ytedgcbcphlonpaa.Ty
open Go Go.RowKit Go.Proofs.Ytedgcbcphlonpaa.Den
set_option linter.unusedSimpArgs false
set_option linter.unusedVariables false
set_option maxRecDepth 100000

section
variable {α β γ σ : Type}
theorem goI_map {step : Int → α → List γ → (List γ → Option β) → Option β} {fin : List γ → Option β} {f : α → γ} {B : Nat} : ∀ (l : List α) (i : Int) (s : List γ), s.length + l.length ≤ B → (∀ x ∈ l, ∀ i s k, s.length + 1 ≤ B → step i x s k = k (s ++ [f x])) → goI step fin i l s = fin (s ++ l.map f)
  | [], i, s, _, _ => by simp [goI]
  | x :: l, i, s, hb, h => by
    simp only [List.length_cons] at hb
    rw [goI, h x (by simp) i s _ (by omega), goI_map l (i + 1) (s ++ [f x]) (by simp; omega) fun y hy => h y (by simp [hy])]
    simp
theorem goU_seq {step : Int → σ → (σ → Option β) → Option β} {fin : Int → σ → Option β} (f : Nat → σ) {n : Nat} (h : ∀ (j : Nat) k, j < n → step (j : Int) (f j) k = k (f (j + 1))) : ∀ (m j : Nat), j + m ≤ n → goU step fin m (j : Int) (f j) = fin ((j + m : Nat) : Int) (f (j + m))
  | 0, j, _ => by simp [goU]
  | m + 1, j, hm => by
    rw [goU, h j _ (by omega)]
    have e : (j : Int) + 1 = ((j + 1 : Nat) : Int) := by omega
    rw [e, goU_seq f h m (j + 1) (by omega)]
    have e2 : j + 1 + m = j + (m + 1) := by omega
    rw [e2]
theorem goU_fold {step : Int → σ → (σ → Option β) → Option β} {fin : Int → σ → Option β} {l : List α} {f : σ → α → σ} (h : ∀ (j : Nat) x s k, l[j]? = some x → step (j : Int) s k = k (f s x)) : ∀ (m i : Nat) (s : σ), i + m = l.length → goU step fin m (i : Int) s = fin ((i + m : Nat) : Int) ((l.drop i).foldl f s)
  | 0, i, s, hm => by rw [List.drop_eq_nil_of_le (by omega)]; simp [goU]
  | m + 1, i, s, hm => by
    have hi : i < l.length := by omega
    rw [goU, h i l[i] s _ (List.getElem?_eq_getElem hi), List.drop_eq_getElem_cons hi, List.foldl_cons]
    have e : (i : Int) + 1 = ((i + 1 : Nat) : Int) := by omega
    rw [e, goU_fold h m (i + 1) _ (by omega)]
    have e2 : i + 1 + m = i + (m + 1) := by omega
    rw [e2]
/-- the first that has p, counted from i on -/
def fx (p : α → Bool) : List α → Nat → Int
  | [], _ => -1
  | x :: l, i => if p x = true then (i : Int) else fx p l (i + 1)
theorem fx_map (p : γ → Bool) (f : α → γ) : ∀ (l : List α) (i : Nat), fx p (l.map f) i = fx (fun x => p (f x)) l i
  | [], _ => rfl
  | x :: l, i => by simp only [List.map_cons, fx, fx_map p f l]
theorem fx_cong {p q : α → Bool} : ∀ {l : List α} {i : Nat}, (∀ x ∈ l, p x = q x) → fx p l i = fx q l i
  | [], _, _ => rfl
  | x :: l, i, h => by simp only [fx, h x (by simp), fx_cong (l := l) fun y hy => h y (by simp [hy])]
theorem fx_at {p : α → Bool} : ∀ {l : List α} {i : Nat}, (fx p l i < 0 ∧ ∀ x ∈ l, p x = false) ∨ ∃ j x, fx p l i = ((i + j : Nat) : Int) ∧ l[j]? = some x ∧ p x = true ∧ ∀ k y, k < j → l[k]? = some y → p y = false
  | [], i => .inl ⟨by simp [fx], by simp⟩
  | x :: l, i => by
    by_cases h : p x = true
    · refine .inr ⟨0, x, by simp [fx, h], by simp, h, fun k y hk => by omega⟩
    · have h' : p x = false := by simpa using h
      rcases fx_at (p := p) (l := l) (i := i + 1) with ⟨h1, h2⟩ | ⟨j, y, h1, h2, h3, h4⟩
      · refine .inl ⟨by simp [fx, h', h1], fun y hy => ?_⟩
        rcases List.mem_cons.1 hy with rfl | hy
        · exact h'
        · exact h2 y hy
      · refine .inr ⟨j + 1, y, by simp only [fx, h', Bool.false_eq_true, if_false, h1]; congr 1; omega, by simpa using h2, h3, fun k z hk hz => ?_⟩
        cases k with
        | zero => simp at hz; rw [← hz]; exact h'
        | succ k => exact h4 k z (by omega) (by simpa using hz)
end
end Go.Proofs.Ytedgcbcphlonpaa.Ty
