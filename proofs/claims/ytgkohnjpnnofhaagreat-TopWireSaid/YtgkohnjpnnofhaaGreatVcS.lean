/- Arguments of any shape as plain values. -/
import Derived.Test.YtgkohnjpnnofhaaGreatShape
import Derived.Test.YtgkohnjpnnofhaaGreatTy
namespace Go.Proofs.YtgkohnjpnnofhaaGreat.Ty
set_option linter.unusedSimpArgs false
set_option linter.unusedVariables false
open Go Go.RowKit Go.Proofs.YtgkohnjpnnofhaaGreat.Den
def wi64 (n : Int) : Prop := -9223372036854775808 ≤ n ∧ n ≤ 9223372036854775807
def wu8 (n : Int) : Prop := 0 ≤ n ∧ n < 256
def wS (B : Nat) (s : ByteArray) : Prop := s.size ≤ B
def wL {α : Type} (B : Nat) (W : α → Prop) (l : List α) : Prop := l.length ≤ B ∧ ∀ x ∈ l, W x
theorem of_i64 {B : Nat} {xs : List V} (h : (Sh.int .i64).ok B xs) : ∃ n, xs = cI n ∧ wi64 n := by
 obtain ⟨n, rfl, hn⟩ := h
 refine ⟨n, rfl, ?_⟩
 unfold wi64
 simp [Lit.wf, IntKind.min, IntKind.max, IntKind.signed, IntKind.bits] at hn
 omega
theorem of_bool {B : Nat} {xs : List V} (h : (Sh.bool).ok B xs) : ∃ b, xs = cB b ∧ True := by
 obtain ⟨b, rfl⟩ := h; exact ⟨b, rfl, trivial⟩
theorem of_str {B : Nat} {xs : List V} (h : (Sh.str).ok B xs) : ∃ s, xs = cT s ∧ wS B s := h
theorem of_sl {B : Nat} {e : Sh} {α : Type} {c : α → List V} {W : α → Prop} (hf : ∀ {xs}, e.ok B xs → ∃ a, xs = c a ∧ W a) {xs : List V} (h : (Sh.sl e).ok B xs) : ∃ l : List α, xs = cS c l ∧ wL B W l := by
 obtain ⟨rows, rfl, hl, hr⟩ := h
 have : ∃ l : List α, rows = l.map c ∧ ∀ x ∈ l, W x := by
  clear hl
  induction rows with
  | nil => exact ⟨[], rfl, by simp⟩
  | cons r rows ih =>
   obtain ⟨a, rfl, wa⟩ := hf (hr r (by simp))
   obtain ⟨l, rfl, wl⟩ := ih fun q hq => hr q (by simp [hq])
   exact ⟨a :: l, rfl, by simpa using ⟨wa, wl⟩⟩
 obtain ⟨l, rfl, wl⟩ := this
 exact ⟨l, rfl, by simpa using hl, wl⟩
theorem relL_nil {M : Mem} : RelL M [] [] := ⟨rfl, fun i x h => by simp at h⟩
theorem relL_cons {M : Mem} {v : Value} {x : V} {vs : List Value} {xs : List V} (h : Rel M v x) (k : RelL M vs xs) : RelL M (v :: vs) (x :: xs) :=
 ⟨by simp [k.1], fun i y hy => by
  cases i with
  | zero => simp at hy; subst hy; simpa using h
  | succ i => simpa using k.2 i y (by simpa using hy)⟩
theorem law_calls {P : Program} {Dw : World → Prop} {f : FuncId} {xs : List V} {W : World} {args : Array Value} (h : SCalls P Dw f xs (.lit (.bool true))) (hd : Dw W) (hr : RelL (wmem W) args.toList xs) :
  Calls P f args W fun e W' => e = .returned (.bool true) ∧ Below W.heap.size W W' :=
 (h.2 W (wmem W) args hd (fun _ _ _ h => h) hr).mono fun e W' ⟨v, M', he, hg, hv⟩ => ⟨by rw [he, rel_val hv rfl], hg.below⟩
theorem wL.len {α : Type} {B : Nat} {W : α → Prop} {l : List α} (h : wL B W l) (hB : B ≤ maxLen) : (l.length : Int) ≤ maxI := by
 have := h.1
 unfold maxLen at hB
 unfold maxI
 omega
end Go.Proofs.YtgkohnjpnnofhaaGreat.Ty
