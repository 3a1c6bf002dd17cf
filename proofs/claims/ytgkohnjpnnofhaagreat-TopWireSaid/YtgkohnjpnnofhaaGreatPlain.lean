/- Plain definitions and facts on cubes: no program in sight. -/
import Derived.WalkKit
namespace Go.Proofs.YtgkohnjpnnofhaaGreat
open Go.RowKit
theorem oB_ {α β : Type _} {o : Option α} {f : α → Option β} {b : β} (h : o.bind f = some b) : ∃ a, o = some a ∧ f a = some b := Option.bind_eq_some_iff.1 h
theorem oM_ {α β : Type _} {o : Option α} {f : α → β} {b : β} (h : o.map f = some b) : ∃ a, o = some a ∧ f a = b := Option.map_eq_some_iff.1 h
theorem oJ_ {α : Type _} {a b : α} (h : some a = some b) : a = b := Option.some.inj h
theorem oE_ {α : Type _} {a b : α} : (some a = some b) = (a = b) := Option.some.injEq a b
theorem oS_ {α β : Type _} {a : α} {f : α → Option β} : (some a).bind f = f a := rfl
theorem gS_ {α : Type _} {l : List α} {i : Nat} {a : α} (h : l[i]? = some a) : ∃ h : i < l.length, l[i] = a := List.getElem?_eq_some_iff.1 h
theorem gE_ {α : Type _} {l : List α} {i : Nat} (h : i < l.length) : l[i]? = some l[i] := List.getElem?_eq_getElem h
theorem ret_bool {a b : Bool} (h : a = b) : Ending.returned (.bool a) = .returned (.bool b) := by rw [h]
theorem ret_val {a b : Value} (h : a = b) : Ending.returned a = .returned b := by rw [h]
theorem lt_more1 {a b : Nat} (h : a < b) : a < b + 1 := by omega
theorem lt_more2 {a b : Nat} (h : a < b) : a < b + 1 + 1 := by omega
theorem lt_more3 {a b : Nat} (h : a < b) : a < b + 1 + 1 + 1 := by omega
theorem lt_more4 {a b : Nat} (h : a < b) : a < b + 1 + 1 + 1 + 1 := by omega
theorem le_more0 {a b : Nat} (h : a < b) : a ≤ b := by omega
theorem le_more1 {a b : Nat} (h : a < b) : a ≤ b + 1 := by omega
theorem le_more2 {a b : Nat} (h : a < b) : a ≤ b + 1 + 1 := by omega
theorem le_more3 {a b : Nat} (h : a < b) : a ≤ b + 1 + 1 + 1 := by omega
attribute [go_sem] lt_more1 lt_more2 lt_more3 lt_more4 le_more0 le_more1 le_more2 le_more3
def hdr (n : Int) : Bool := decide (0 ≤ n ∧ n < 16)
theorem hdr_iff {n : Int} : hdr n = true ↔ 0 ≤ n ∧ n < 16 := by simp [hdr]
theorem hdr_not {n : Int} : hdr n = false ↔ ¬ (0 ≤ n ∧ n < 16) := by
 rw [← hdr_iff]; simp
def cchk (m b : Int) : Int := if 0 ≤ m ∧ m < 16 ∧ 0 ≤ b ∧ b < 16 then (if bits .andNot .i64 b m = 0 then 0 else 3) else 1
def chas (m b h : Int) : Bool := decide (cchk m b = 0 ∧ (0 ≤ h ∧ h < 16) ∧ bits .and .i64 h m = b)
def ones (n : Int) : Int := n % 2 + n / 2 % 2 + n / 4 % 2 + n / 8 % 2
def ccount (m b : Int) : Int := if cchk m b = 0 then 2 ^ (4 - ones m).toNat else 0
def cfirst (m b : Int) : Int := if cchk m b = 0 then b else 0
def cmet (m b m2 b2 : Int) : Bool := decide ((cchk m b = 0 ∧ cchk m2 b2 = 0) ∧ bits .and .i64 (bits .and .i64 (bits .xor .i64 b b2) m) m2 = 0)
def cinside (m b m2 b2 : Int) : Bool := decide (((cchk m b = 0 ∧ cchk m2 b2 = 0) ∧ bits .andNot .i64 m2 m = 0) ∧ bits .and .i64 b m2 = b2)
theorem bstep {w W w' : World} (h : Below w.heap.size w W) (hb : Below W.heap.size W w') : Below w.heap.size w w' := h.trans (hb.mono h.size)
theorem bcell {W w1 : World} (hb : Below W.heap.size W w1) : (∀ b o, b < W.heap.size → w1.cell? ⟨b, o, none⟩ = W.cell? ⟨b, o, none⟩) ∧ (∀ b o, b < W.heap.size → w1.frozen? ⟨b, o, none⟩ = W.frozen? ⟨b, o, none⟩) :=
 ⟨fun b o h => hb.cell (p := ⟨b, o, none⟩) h, fun b o h => hb.frozen (p := ⟨b, o, none⟩) h⟩
end Go.Proofs.YtgkohnjpnnofhaaGreat
