/- Lists of numbers, as they are compared and searched: no memory in sight. -/
import Derived.Test.YtedgcbcphlonpaaSInts0
import Derived.Test.YtedgcbcphlonpaaTyA
namespace Go.Proofs.Ytedgcbcphlonpaa.Ty
open Go Go.RowKit Go.Proofs.Ytedgcbcphlonpaa.Den
set_option linter.unusedSimpArgs false
set_option linter.unusedVariables false
set_option maxRecDepth 100000

theorem eqLoop {step : Int → Int → Unit → (Unit → Option Bool) → Option Bool} {fin : Unit → Option Bool} (b : List Int) (hf : fin () = some true) (hs : ∀ (i : Nat) x k r, b[i]? = some r → step (i : Int) x () k = if decide (x ≠ r) = true then some false else k ()) :
    ∀ (a : List Int) (i : Nat), i + a.length = b.length → goI step fin (i : Int) a () = some (decide (a = b.drop i))
  | [], i, h => by
    rw [List.drop_eq_nil_of_le (by simp at h; omega)]
    simp [goI, hf]
  | x :: a, i, h => by
    simp only [List.length_cons] at h
    have hi : i < b.length := by omega
    rw [goI, hs i x _ _ (List.getElem?_eq_getElem hi), List.drop_eq_getElem_cons hi]
    have e : (i : Int) + 1 = ((i + 1 : Nat) : Int) := by omega
    rw [e, eqLoop b hf hs a (i + 1) (by omega)]
    by_cases hx : x = b[i]
    · simp only [List.cons.injEq, hx, true_and, ne_eq, not_true_eq_false, decide_false, Bool.false_eq_true, if_false]
    · simp only [List.cons.injEq, hx, false_and, ne_eq, not_false_eq_true, decide_true, if_true, decide_false]
theorem s_railInts (a b : List Int) (ha : (a.length : Int) ≤ maxI) : t_railsame_Ints a b = some (decide (a = b)) := by
  unfold t_railsame_Ints
  by_cases h : a.length = b.length
  · rw [if_neg (by simp [h]), join_eq, loopI_eq ha]
    have := eqLoop (step := fun (i16 : Int) x17 (s12 : Unit) k13 => (idx b i16).bind fun r26 => if (decide (x17 ≠ r26)) = true then (some false) else (k13 ())) (fin := fun _ => some true) b rfl (fun i x k r hr => by simp only [idx_nat, hr, Option.bind_some]) a 0 (by omega)
    simpa using this
  · rw [if_pos (by simp; omega)]
    have : a ≠ b := fun e => h (by rw [e])
    simp [this]
theorem s_EqualInts (a b : List Int) (ha : (a.length : Int) ≤ maxI) : t_slices_Equal_int_int a b = some (decide (a = b)) := by
  unfold t_slices_Equal_int_int
  by_cases h : a.length = b.length
  · rw [if_neg (by simp [h]), join_eq, loopI_eq ha]
    have := eqLoop (step := fun (i17 : Int) x18 (s13 : Unit) k14 => (idx b i17).bind fun r26 => if (decide (x18 ≠ r26)) = true then (some false) else (k14 ())) (fin := fun _ => some true) b rfl (fun i x k r hr => by simp only [idx_nat, hr, Option.bind_some]) a 0 (by omega)
    simpa using this
  · rw [if_pos (by simp; omega)]
    have : a ≠ b := fun e => h (by rw [e])
    simp [this]
theorem s_ContainsInt (l : List Int) (x : Int) (hl : (l.length : Int) ≤ maxI) : t_slices_Contains_int_int l x = some (decide (x ∈ l)) := by
  unfold t_slices_Contains_int_int t_slices_Index_int_int
  rw [join_eq, loopI_eq hl]
  have : ∀ (l : List Int) (i : Int), 0 ≤ i → ∃ j, goI (fun (i13 : Int) x14 (s9 : Unit) k10 => if (decide (x = x14)) = true then (some i13) else (k10 ())) (fun _ => some (-1 : Int)) i l () = some j ∧ (0 ≤ j ↔ x ∈ l) := by
    intro l
    induction l with
    | nil => intro i _; exact ⟨-1, rfl, by simp⟩
    | cons y l ih =>
      intro i hi
      rw [goI]
      by_cases h : x = y
      · exact ⟨i, by simp [h], by simp [h, hi]⟩
      · obtain ⟨j, h1, h2⟩ := ih (i + 1) (by omega)
        exact ⟨j, by rw [if_neg (by simpa using h)]; exact h1, by simp [h, h2]⟩
  obtain ⟨j, h1, h2⟩ := this l 0 (Int.le_refl _)
  rw [h1]
  simp only [Option.bind_some, h2]
/-- the least -/
def minL : List Int → Int
  | [] => 0
  | x :: l => l.foldl min x
theorem minLoop (l : List Int) (m : Nat) (x : Int) (hm : 1 + m = l.length) : goU (fun (i22 : Int) (s18 : Int) k19 => (idx l i22).bind fun r31 => k19 (min s18 r31)) (fun (i22 : Int) (s18 : Int) => some (s18)) m ((1 : Nat) : Int) x = some ((l.drop 1).foldl min x) := by
  rw [goU_fold (l := l) (f := fun s x => min s x) (fun j y s k hy => by simp only [idx_nat, hy, Option.bind_some]) m 1 x hm]
theorem minL_eq {l : List Int} {x : Int} (h : l[0]? = some x) : (l.drop 1).foldl min x = minL l := by
  cases l with
  | nil => simp at h
  | cons y r => simp at h; subst h; rfl
theorem s_MinInt (l : List Int) (hl : (l.length : Int) ≤ maxI) (h0 : l ≠ []) : t_slices_Min_int_int l = some (minL l) := by
  have hlen : 0 < l.length := List.length_pos_iff.2 h0
  have hx := List.getElem?_eq_getElem hlen
  generalize l[0] = x at hx
  have hm := minLoop l (l.length - 1) x (by omega)
  have e : ((l.length : Int) - 1).toNat = l.length - 1 := by omega
  unfold t_slices_Min_int_int
  rw [if_neg (by simp only [decide_eq_true_eq]; omega)]
  simp only [Option.bind_some]
  have hi : idx l 0 = some x := by rw [← hx]; exact idx_nat (i := 0)
  rw [hi]
  simp only [Option.bind_some]
  rw [loopU_eq (by decide) hl, bind_some_id, e, ← minL_eq hx]
  exact hm
end Go.Proofs.Ytedgcbcphlonpaa.Ty
