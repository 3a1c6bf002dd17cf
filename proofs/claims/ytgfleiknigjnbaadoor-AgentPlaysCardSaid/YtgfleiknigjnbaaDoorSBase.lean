/- Plain facts on loops, for specifications: no program in sight. -/
import Derived.Test.YtgfleiknigjnbaaDoorTy
namespace Go.Proofs.YtgfleiknigjnbaaDoor.Ty
open Go Go.RowKit Go.Proofs.YtgfleiknigjnbaaDoor.Den
set_option linter.unusedSimpArgs false
set_option linter.unusedVariables false

section
variable {α β γ σ : Type}
theorem loopI_eq {l : List α} {step : Int → α → σ → (σ → Option β) → Option β} {fin : σ → Option β} {s : σ} (h : (l.length : Int) ≤ maxI) : loopI l step fin s = goI step fin 0 l s := need_pos (decide_eq_true h)
theorem loopU_eq {lo hi : Int} {step : Int → σ → (σ → Option β) → Option β} {fin : Int → σ → Option β} {s : σ} (h0 : 0 ≤ lo) (h : hi ≤ maxI) : loopU lo hi step fin s = goU step fin (hi - lo).toNat lo s := need_pos (by simp [h0, h])
theorem app_eq {l m : List α} (h : l.length + m.length ≤ 4294967296) : app l m = some (l ++ m) := if_pos h
theorem wr_id {x : Int} (h1 : -9223372036854775808 ≤ x) (h2 : x ≤ 9223372036854775807) : wr x = x := wrap_id h1 h2
theorem gd_true {d : α} {Y : Option α} : gd true d Y = Y := rfl
theorem gd_false {d : α} {Y : Option α} : gd false d Y = some d := rfl
theorem join_eq {K : σ → Option β} {B : (σ → Option β) → Option β} : join K B = B K := rfl
theorem idx_nat {l : List α} {i : Nat} : idx l (i : Int) = l[i]? := by simp [idx]
/-- any -/
theorem goI_any {step : Int → α → Unit → (Unit → Option β) → Option β} {fin : Unit → Option β} {p : α → Bool} {r : β} : ∀ (l : List α) (i : Int), (∀ x ∈ l, ∀ i k, step i x () k = if p x = true then some r else k ()) → goI step fin i l () = if l.any p = true then some r else fin ()
  | [], i, _ => rfl
  | x :: l, i, h => by
    rw [goI, h x (by simp), List.any_cons, goI_any l (i + 1) fun y hy => h y (by simp [hy])]
    cases p x <;> simp
/-- the first fault -/
def firstF (f : α → Int) : List α → Int
  | [] => 0
  | x :: l => if f x ≠ 0 then f x else firstF f l
/-- the numbers from i on that have p -/
def collect (p : Int → Bool) : Nat → Int → List Int
  | 0, _ => []
  | m + 1, i => (if p i = true then [i] else []) ++ collect p m (i + 1)
end
end Go.Proofs.YtgfleiknigjnbaaDoor.Ty
