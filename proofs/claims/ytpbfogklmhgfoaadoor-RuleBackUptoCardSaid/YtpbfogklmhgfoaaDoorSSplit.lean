/- Words: a text that is cut at a byte, in plain Lean. -/
import Derived.Test.YtpbfogklmhgfoaaDoorSplit
import Derived.Lib.SplitLaws
namespace Go.Proofs.YtpbfogklmhgfoaaDoor.Ty
open Go Go.RowKit Go.Proofs.YtpbfogklmhgfoaaDoor.Den
set_option linter.unusedSimpArgs false
set_option linter.unusedVariables false
/-- cut at each c -/
def cut (c : UInt8) : List UInt8 → List (List UInt8)
  | [] => [[]]
  | b :: l => if b = c then [] :: cut c l else match cut c l with
    | w :: ws => (b :: w) :: ws
    | [] => [[b]]
/-- joined by c -/
def glue (c : UInt8) : List (List UInt8) → List UInt8
  | [] => []
  | [w] => w
  | w :: v :: ws => w ++ c :: glue c (v :: ws)
theorem cut_ne (c : UInt8) : ∀ l, cut c l ≠ []
  | [] => by simp [cut]
  | b :: l => by
    unfold cut
    split
    · simp
    · split <;> simp
theorem cut_eq (c : UInt8) : ∀ s, Lib.splitK [c] 0 (Lib.count s [c]) s = cut c s
  | [] => by rw [Lib.count_miss (by simp [Lib.index])]; rfl
  | b :: l => by
    have ih := cut_eq c l
    by_cases h : b = c
    · subst h
      have hix : Lib.index (b :: l) [b] = ((0 : Nat) : Int) := by rw [Lib.index]; simp [List.isPrefixOf]
      rw [Lib.count_cons_eq, Nat.add_comm, Lib.splitK, hix, if_neg (by decide)]
      simp only [cut, if_true]
      rw [← ih]
      simp
    · have hp : ([c] : List UInt8).isPrefixOf (b :: l) = false := by simp [List.isPrefixOf, Ne.symm h]
      have hix : Lib.index (b :: l) [c] = if Lib.index l [c] == -1 then -1 else Lib.index l [c] + 1 := by rw [Lib.index, hp]; simp
      rw [Lib.count_cons_ne b c l h]
      simp only [cut, if_neg h]
      rw [← ih]
      by_cases hm : Lib.index l [c] = -1
      · rw [Lib.count_miss hm]; rfl
      · have hge := Lib.index_ge l [c]
        obtain ⟨j, hj⟩ : ∃ j : Nat, Lib.index l [c] = j := ⟨(Lib.index l [c]).toNat, by omega⟩
        have hc := Lib.count_hit (sub := [c]) (by simp) hj
        obtain ⟨k, hk⟩ : ∃ k, Lib.count l [c] = k + 1 := ⟨_, by rw [hc, Nat.add_comm]⟩
        have hix' : Lib.index (b :: l) [c] = ((j + 1 : Nat) : Int) := by rw [hix, if_neg (fun e => hm (beq_iff_eq.1 e)), hj]; omega
        rw [hk, Lib.splitK, Lib.splitK, hix', hj, if_neg (by rw [beq_iff_eq]; omega), if_neg (by rw [beq_iff_eq]; omega)]
        simp
theorem cut_no (c : UInt8) : ∀ s, ∀ w ∈ cut c s, c ∉ w
  | [], w, hw => by simp [cut] at hw; subst hw; simp
  | b :: l, w, hw => by
    have ih := cut_no c l
    unfold cut at hw
    split at hw
    · rcases List.mem_cons.1 hw with rfl | hw
      · simp
      · exact ih w hw
    · rename_i hb
      split at hw
      · rename_i v vs e
        rcases List.mem_cons.1 hw with rfl | hw
        · have := ih v (by rw [e]; simp)
          simp only [List.mem_cons, not_or]
          exact ⟨fun h => hb h.symm, this⟩
        · exact ih w (by rw [e]; simp [hw])
      · rename_i e; exact absurd e (cut_ne c l)
theorem glue_cut (c : UInt8) : ∀ s, glue c (cut c s) = s
  | [] => rfl
  | b :: l => by
    have ih := glue_cut c l
    unfold cut
    split
    · rename_i hb
      subst hb
      cases h : cut b l with
      | nil => exact absurd h (cut_ne b l)
      | cons w ws => rw [h] at ih; show [] ++ b :: glue b (w :: ws) = _; rw [ih]; rfl
    · split
      · rename_i v vs e
        rw [e] at ih
        cases vs with
        | nil => show b :: v = b :: l; rw [show v = l from ih]
        | cons x xs => show (b :: v) ++ c :: glue c (x :: xs) = b :: l; rw [← ih]; rfl
      · rename_i e; exact absurd e (cut_ne c l)
theorem cut_word (c : UInt8) : ∀ w, c ∉ w → cut c w = [w]
  | [], _ => rfl
  | b :: w, h => by
    simp only [List.mem_cons, not_or] at h
    unfold cut
    rw [if_neg (fun e => h.1 e.symm), cut_word c w h.2]
theorem cut_app (c : UInt8) : ∀ w r, c ∉ w → cut c (w ++ c :: r) = w :: cut c r
  | [], r, _ => by simp [cut]
  | b :: w, r, h => by
    simp only [List.mem_cons, not_or] at h
    show cut c (b :: (w ++ c :: r)) = _
    rw [cut, if_neg (fun e => h.1 e.symm), cut_app c w r h.2]
theorem cut_glue (c : UInt8) : ∀ ws, ws ≠ [] → (∀ w ∈ ws, c ∉ w) → cut c (glue c ws) = ws
  | [], h, _ => absurd rfl h
  | [w], _, h => cut_word c w (h w (by simp))
  | w :: v :: ws, _, h => by
    rw [glue, cut_app c w _ (h w (by simp)), cut_glue c (v :: ws) (by simp) fun x hx => h x (by simp [hx])]
/-- what strings.Split hands back, as bytes -/
theorem split_data (s : ByteArray) (c : UInt8) : (Lib.splitB ⟨#[c]⟩ 0 (Lib.countB s ⟨#[c]⟩) s).map (·.data.toList) = cut c s.data.toList := by
  rw [Lib.splitB_data, ← cut_eq]
end Go.Proofs.YtpbfogklmhgfoaaDoor.Ty
