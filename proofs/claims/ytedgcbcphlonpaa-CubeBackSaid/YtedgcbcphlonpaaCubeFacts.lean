/- Plain facts on cubes, over all there are: no program in sight. -/
import Derived.Test.YtedgcbcphlonpaaText
namespace Go.Proofs.Ytedgcbcphlonpaa
open Go.RowKit
set_option linter.unusedSimpArgs false
set_option linter.unusedVariables false
/-- two right cubes: what meets, what is inside -/
def pairOk (m b m2 b2 : Int) : Bool :=
  (cmet m b m2 b2 == cmet m2 b2 m b) && decide (bits .or .i64 m m2 = bits .or .i64 m2 m) && decide (bits .or .i64 b b2 = bits .or .i64 b2 b) &&
    (!cmet m b m2 b2 || (decide (ccount (bits .or .i64 m m2) (bits .or .i64 b b2) ≤ ccount m b) && cinside (bits .or .i64 m m2) (bits .or .i64 b b2) m b && cinside (bits .or .i64 m m2) (bits .or .i64 b b2) m2 b2)) &&
    (!cinside m b m2 b2 || (cmet m b m2 b2 && decide (bits .or .i64 m m2 = m) && decide (bits .or .i64 b b2 = b)))
def pairsOk : Bool := (List.range 256).all fun i => !(decide (cchk ((i / 16 : Nat) : Int) ((i % 16 : Nat) : Int) = 0)) || (List.range 256).all fun j => !(decide (cchk ((j / 16 : Nat) : Int) ((j % 16 : Nat) : Int) = 0)) || pairOk ((i / 16 : Nat) : Int) ((i % 16 : Nat) : Int) ((j / 16 : Nat) : Int) ((j % 16 : Nat) : Int)
theorem pairs_ok : pairsOk = true := by decide +kernel
theorem all_range {n : Nat} {p : Nat → Bool} (h : (List.range n).all p = true) {i : Nat} (hi : i < n) : p i = true := List.all_eq_true.1 h i (List.mem_range.2 hi)
theorem pair_ok {m b m2 b2 : Int} (h : cchk m b = 0) (h2 : cchk m2 b2 = 0) : pairOk m b m2 b2 = true := by
  obtain ⟨⟨a1, a2, a3, a4⟩, -⟩ := cchk_0.1 h
  obtain ⟨⟨c1, c2, c3, c4⟩, -⟩ := cchk_0.1 h2
  have e1 := all_range pairs_ok (i := m.toNat * 16 + b.toNat) (by omega)
  have f1 : (((m.toNat * 16 + b.toNat) / 16 : Nat) : Int) = m := by omega
  have f2 : (((m.toNat * 16 + b.toNat) % 16 : Nat) : Int) = b := by omega
  have g1 : (((m2.toNat * 16 + b2.toNat) / 16 : Nat) : Int) = m2 := by omega
  have g2 : (((m2.toNat * 16 + b2.toNat) % 16 : Nat) : Int) = b2 := by omega
  rw [f1, f2] at e1
  simp only [h, decide_true, Bool.not_true, Bool.false_or] at e1
  have e2 := all_range e1 (i := m2.toNat * 16 + b2.toNat) (by omega)
  rw [g1, g2] at e2
  simpa only [h2, decide_true, Bool.not_true, Bool.false_or] using e2
theorem show_parse : ∀ m b : Fin 16, cchk ((m : Nat) : Int) ((b : Nat) : Int) = 0 → cparse (cshow m b) = some (((m : Nat) : Int), ((b : Nat) : Int)) := by decide +kernel
theorem cparse_cshow {m b : Int} (h : cchk m b = 0) : cparse (cshow m b) = some (m, b) := by
  obtain ⟨⟨a1, a2, a3, a4⟩, -⟩ := cchk_0.1 h
  have := show_parse ⟨m.toNat, by omega⟩ ⟨b.toNat, by omega⟩
  simp only [Int.toNat_of_nonneg a1, Int.toNat_of_nonneg a3] at this
  exact this h
def backOk (s : ByteArray) : Bool := match cparse s with
  | some (m, b) => decide (cchk m b = 0) && decide (cshow m b = s)
  | none => true
theorem back_81 : (([42, 48, 49] : List UInt8).all fun a => ([42, 48, 49] : List UInt8).all fun b => ([42, 48, 49] : List UInt8).all fun c => ([42, 48, 49] : List UInt8).all fun d => backOk ⟨#[a, b, c, d]⟩) = true := by decide +kernel
theorem cstep_in {x : UInt8} {mb r : Int × Int} (h : cstep (x.toNat : Int) mb = some r) : x ∈ ([42, 48, 49] : List UInt8) := by
  unfold cstep at h
  have e : ∀ n : Nat, n < 256 → (x.toNat : Int) = n → x = UInt8.ofNat n := fun n hn hx => by
    apply UInt8.toNat_inj.1
    rw [UInt8.toNat_ofNat']
    omega
  split at h
  · rw [e 49 (by decide) (by assumption)]; decide
  · split at h
    · rw [e 48 (by decide) (by assumption)]; decide
    · split at h
      · rw [e 42 (by decide) (by assumption)]; decide
      · cases h
theorem cparse_back {s : ByteArray} {m b : Int} (h : cparse s = some (m, b)) : cchk m b = 0 ∧ cshow m b = s := by
  have hs : s.size = 4 := by
    unfold cparse at h
    split at h
    · assumption
    · cases h
  obtain ⟨⟨l⟩⟩ := s
  have hl : l.length = 4 := hs
  match l, hl with
  | [a, b', c, d], _ =>
    have h1 : cpre (byteAt ⟨#[a, b', c, d]⟩) 4 = some (m, b) := (show (if (4 : Nat) = 4 then cpre (byteAt ⟨#[a, b', c, d]⟩) 4 else none) = some (m, b) from h)
    simp only [cpre, Option.bind_eq_some_iff] at h1
    obtain ⟨r3, ⟨r2, ⟨r1, ⟨r0, -, q0⟩, q1⟩, q2⟩, q3⟩ := h1
    have i0 := cstep_in (x := a) q0
    have i1 := cstep_in (x := b') q1
    have i2 := cstep_in (x := c) q2
    have i3 := cstep_in (x := d) q3
    have := List.all_eq_true.1 (List.all_eq_true.1 (List.all_eq_true.1 (List.all_eq_true.1 back_81 a i0) b' i1) c i2) d i3
    unfold backOk at this
    rw [h] at this
    simpa using this
end Go.Proofs.Ytedgcbcphlonpaa
