/- Plain facts on loops, for specifications: no program in sight. -/
import Derived.Test.YtgkohnjpnnofhaaGreatTy
namespace Go.Proofs.YtgkohnjpnnofhaaGreat.Ty
set_option linter.unusedSimpArgs false
set_option linter.unusedVariables false
open Go Go.RowKit Go.Proofs.YtgkohnjpnnofhaaGreat.Den
section
variable {α β γ σ : Type}
theorem loopI_eq {l : List α} {step : Int → α → σ → (σ → Option β) → Option β} {fin : σ → Option β} {s : σ} (h : (l.length : Int) ≤ maxI) : loopI l step fin s = goI step fin 0 l s := need_pos (decide_eq_true h)
theorem loopU_eq {lo hi : Int} {step : Int → σ → (σ → Option β) → Option β} {fin : Int → σ → Option β} {s : σ} (h0 : 0 ≤ lo) (h : hi ≤ maxI) : loopU lo hi step fin s = goU step fin (hi - lo).toNat lo s := need_pos (by simp [h0, h])
theorem app_eq {l m : List α} (h : l.length + m.length ≤ 4294967296) : app l m = some (l ++ m) := if_pos h
theorem wr_id {x : Int} (h1 : -9223372036854775808 ≤ x) (h2 : x ≤ 9223372036854775807) : wr x = x := wrap_id h1 h2
theorem gd_true {d : α} {Y : Option α} : gd true d Y = Y := rfl
theorem gd_false {d : α} {Y : Option α} : gd false d Y = some d := rfl
theorem join_eq {K : σ → Option β} {B : (σ → Option β) → Option β} : join K B = B K := rfl
theorem idx_nat {l : List α} {i : Nat} : idx l (i : Int) = l[i]? := by simp [idx]
def firstF (f : α → Int) : List α → Int
 | [] => 0
 | x :: l => if f x ≠ 0 then f x else firstF f l
theorem firstF_0 {f : α → Int} : ∀ {l : List α}, firstF f l = 0 ↔ ∀ x ∈ l, f x = 0
 | [] => by simp [firstF]
 | x :: l => by
  by_cases h : f x = 0
  ·simp [firstF, h, firstF_0 (l := l)]
  ·simp [firstF, h]
theorem goI_first {step : Int → α → Unit → (Unit → Option Int) → Option Int} {fin : Unit → Option Int} {f : α → Int} (hf : fin () = some 0) : ∀ (l : List α) (i : Int), (∀ x ∈ l, ∀ i k, step i x () k = if f x ≠ 0 then some (f x) else k ()) → goI step fin i l () = some (firstF f l)
 | [], i, _ => hf
 | x :: l, i, h => by
  rw [goI, h x (by simp), firstF, goI_first hf l (i + 1) fun y hy => h y (by simp [hy])]
  split <;> rfl
def collect (p : Int → Bool) : Nat → Int → List Int
 | 0, _ => []
 | m + 1, i => (if p i = true then [i] else []) ++ collect p m (i + 1)
end
end Go.Proofs.YtgkohnjpnnofhaaGreat.Ty
