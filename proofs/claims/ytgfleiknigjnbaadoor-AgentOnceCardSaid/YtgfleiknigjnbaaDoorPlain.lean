/- Plain definitions and facts on cubes: no program in sight. -/
import Derived.WalkKit
namespace Go.Proofs.YtgfleiknigjnbaaDoor
open Go.RowKit

theorem ret_bool {a b : Bool} (h : a = b) : Ending.returned (.bool a) = .returned (.bool b) := by rw [h]
theorem ret_int {k : IntKind} {a b : Int} (h : a = b) : Ending.returned (.int k a) = .returned (.int k b) := by rw [h]
theorem ret_val {a b : Value} (h : a = b) : Ending.returned a = .returned b := by rw [h]
theorem dec_t {p : Prop} [Decidable p] (h : p) : true = decide p := (decide_eq_true h).symm
theorem dec_f {p : Prop} [Decidable p] (h : ¬ p) : false = decide p := (decide_eq_false h).symm

/-! block numbers: what the walk wants of sizes -/
theorem lt_more1 {a b : Nat} (h : a < b) : a < b + 1 := by omega
theorem lt_more2 {a b : Nat} (h : a < b) : a < b + 1 + 1 := by omega
theorem lt_more3 {a b : Nat} (h : a < b) : a < b + 1 + 1 + 1 := by omega
theorem lt_more4 {a b : Nat} (h : a < b) : a < b + 1 + 1 + 1 + 1 := by omega
theorem le_more0 {a b : Nat} (h : a < b) : a ≤ b := by omega
theorem le_more1 {a b : Nat} (h : a < b) : a ≤ b + 1 := by omega
theorem le_more2 {a b : Nat} (h : a < b) : a ≤ b + 1 + 1 := by omega
theorem le_more3 {a b : Nat} (h : a < b) : a ≤ b + 1 + 1 + 1 := by omega
attribute [go_sem] lt_more1 lt_more2 lt_more3 lt_more4 le_more0 le_more1 le_more2 le_more3

/-- is a number a header? -/
def hdr (n : Int) : Bool := decide (0 ≤ n ∧ n < 16)
theorem hdr_iff {n : Int} : hdr n = true ↔ 0 ≤ n ∧ n < 16 := by simp [hdr]
theorem hdr_not {n : Int} : hdr n = false ↔ ¬ (0 ≤ n ∧ n < 16) := by
  rw [← hdr_iff]; simp
/-- the fault of a cube: 0, 1, 3 -/
def cchk (m b : Int) : Int := if 0 ≤ m ∧ m < 16 ∧ 0 ≤ b ∧ b < 16 then (if bits .andNot .i64 b m = 0 then 0 else 3) else 1
theorem cchk_vals (m b : Int) : cchk m b = 0 ∨ cchk m b = 1 ∨ cchk m b = 3 := by unfold cchk; split <;> (try split) <;> simp
theorem cchk_0 {m b : Int} : cchk m b = 0 ↔ (0 ≤ m ∧ m < 16 ∧ 0 ≤ b ∧ b < 16) ∧ bits .andNot .i64 b m = 0 := by
  unfold cchk
  by_cases h : 0 ≤ m ∧ m < 16 ∧ 0 ≤ b ∧ b < 16
  · rw [if_pos h]; by_cases h2 : bits .andNot .i64 b m = 0 <;> simp [h, h2]
  · rw [if_neg h]; constructor
    · intro h0; exact absurd h0 (by decide)
    · intro h0; exact absurd h0.1 h
/-- has a cube a header? -/
def chas (m b h : Int) : Bool := decide (cchk m b = 0 ∧ (0 ≤ h ∧ h < 16) ∧ bits .and .i64 h m = b)
def ones (n : Int) : Int := n % 2 + n / 2 % 2 + n / 4 % 2 + n / 8 % 2
def ccount (m b : Int) : Int := if cchk m b = 0 then 2 ^ (4 - ones m).toNat else 0
def cfirst (m b : Int) : Int := if cchk m b = 0 then b else 0
/-- two cubes, both right, that have a header together -/
def cmet (m b m2 b2 : Int) : Bool := decide ((cchk m b = 0 ∧ cchk m2 b2 = 0) ∧ bits .and .i64 (bits .and .i64 (bits .xor .i64 b b2) m) m2 = 0)
def cinside (m b m2 b2 : Int) : Bool := decide (((cchk m b = 0 ∧ cchk m2 b2 = 0) ∧ bits .andNot .i64 m2 m = 0) ∧ bits .and .i64 b m2 = b2)

theorem cmet_iff {m b m2 b2 : Int} : cmet m b m2 b2 = true ↔ (cchk m b = 0 ∧ cchk m2 b2 = 0) ∧ bits .and .i64 (bits .and .i64 (bits .xor .i64 b b2) m) m2 = 0 := by simp [cmet]
theorem ccount_ok {m b : Int} (h : cchk m b = 0) : ccount m b = 2 ^ (4 - ones m).toNat := by simp [ccount, h]
theorem bstep {w W w' : World} (h : Below w.heap.size w W) (hb : Below W.heap.size W w') : Below w.heap.size w w' := h.trans (hb.mono h.size)
theorem bcell {W w1 : World} (hb : Below W.heap.size W w1) : (∀ b o, b < W.heap.size → w1.cell? ⟨b, o, none⟩ = W.cell? ⟨b, o, none⟩) ∧ (∀ b o, b < W.heap.size → w1.frozen? ⟨b, o, none⟩ = W.frozen? ⟨b, o, none⟩) :=
  ⟨fun b o h => hb.cell (p := ⟨b, o, none⟩) h, fun b o h => hb.frozen (p := ⟨b, o, none⟩) h⟩
end Go.Proofs.YtgfleiknigjnbaaDoor
