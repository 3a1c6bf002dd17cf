/- Plain facts on loops, for specifications: no program in sight. -/
import Derived.Test.YtgfleiknigjnbaaDoorTy
namespace Go.Proofs.YtgfleiknigjnbaaDoor.Ty
open Go Go.RowKit Go.Proofs.YtgfleiknigjnbaaDoor.Den
set_option linter.unusedSimpArgs false
set_option linter.unusedVariables false

section
variable {α β γ σ : Type}
theorem loopI_eq {l : List α} {step : Int → α → σ → (σ → Option β) → Option β} {fin : σ → Option β} {s : σ} (h : (l.length : Int) ≤ maxI) : loopI l step fin s = goI step fin 0 l s := need_pos (decide_eq_true h)
theorem loopU_eq {lo hi : Int} {step : Int → σ → (σ → Option β) → Option β} {fin : Int → σ → Option β} {s : σ} (h0 : 0 ≤ lo) (h : hi ≤ maxI) : loopU lo hi step fin s = goU step fin (hi - lo).toNat lo s := need_pos (by simp [h0, h])
theorem app_eq {l m : List α} (h : l.length + m.length ≤ 4294967296) : app l m = some (l ++ m) := if_pos h
theorem wr_id {x : Int} (h1 : -9223372036854775808 ≤ x) (h2 : x ≤ 9223372036854775807) : wr x = x := wrap_id h1 h2
theorem gd_true {d : α} {Y : Option α} : gd true d Y = Y := rfl
theorem gd_false {d : α} {Y : Option α} : gd false d Y = some d := rfl
theorem join_eq {K : σ → Option β} {B : (σ → Option β) → Option β} : join K B = B K := rfl
theorem idx_nat {l : List α} {i : Nat} : idx l (i : Int) = l[i]? := by simp [idx]
theorem bind_some_id {X : Option α} : (X.bind fun v => some v) = X := by cases X <;> rfl
/-- any -/
theorem goI_any {step : Int → α → Unit → (Unit → Option β) → Option β} {fin : Unit → Option β} {p : α → Bool} {r : β} : ∀ (l : List α) (i : Int), (∀ x ∈ l, ∀ i k, step i x () k = if p x = true then some r else k ()) → goI step fin i l () = if l.any p = true then some r else fin ()
  | [], i, _ => rfl
  | x :: l, i, h => by
    rw [goI, h x (by simp), List.any_cons, goI_any l (i + 1) fun y hy => h y (by simp [hy])]
    cases p x <;> simp
/-- the first fault -/
def firstF (f : α → Int) : List α → Int
  | [] => 0
  | x :: l => if f x ≠ 0 then f x else firstF f l
theorem firstF_0 {f : α → Int} : ∀ {l : List α}, firstF f l = 0 ↔ ∀ x ∈ l, f x = 0
  | [] => by simp [firstF]
  | x :: l => by
    by_cases h : f x = 0
    · simp [firstF, h, firstF_0 (l := l)]
    · simp [firstF, h]
theorem goI_first {step : Int → α → Unit → (Unit → Option Int) → Option Int} {fin : Unit → Option Int} {f : α → Int} (hf : fin () = some 0) : ∀ (l : List α) (i : Int), (∀ x ∈ l, ∀ i k, step i x () k = if f x ≠ 0 then some (f x) else k ()) → goI step fin i l () = some (firstF f l)
  | [], i, _ => hf
  | x :: l, i, h => by
    rw [goI, h x (by simp), firstF, goI_first hf l (i + 1) fun y hy => h y (by simp [hy])]
    split <;> rfl
/-- the numbers from i on that have p -/
def collect (p : Int → Bool) : Nat → Int → List Int
  | 0, _ => []
  | m + 1, i => (if p i = true then [i] else []) ++ collect p m (i + 1)
theorem collect_len (p : Int → Bool) : ∀ m i, (collect p m i).length ≤ m
  | 0, _ => Nat.le_refl _
  | m + 1, i => by
    have := collect_len p m (i + 1)
    simp only [collect, List.length_append]
    split <;> simp <;> omega
theorem goU_collect {step : Int → List Int → (List Int → Option β) → Option β} {fin : Int → List Int → Option β} {p : Int → Bool} : ∀ (m : Nat) (i : Int) (s : List Int), s.length + m ≤ 100000 → (∀ j s k, i ≤ j → j < i + m → s.length ≤ 100000 → step j s k = k (if p j = true then s ++ [j] else s)) →
    goU step fin m i s = fin (i + m) (s ++ collect p m i)
  | 0, i, s, _, _ => by simp [goU, collect]
  | m + 1, i, s, hs, h => by
    rw [goU, h i s _ (by omega) (by omega) (by omega), goU_collect m (i + 1) (if p i = true then s ++ [i] else s) (by split <;> (try simp) <;> omega) fun j s k h1 h2 h3 => h j s k (by omega) (by omega) h3]
    rw [collect]
    have e : i + 1 + (m : Int) = i + ((m + 1 : Nat) : Int) := by omega
    rw [e]
    split <;> simp
end
end Go.Proofs.YtgfleiknigjnbaaDoor.Ty
