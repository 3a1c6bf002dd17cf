/- Tables that come in, opened. -/
import Derived.Test.YtpkcdfgjcodidaaDoorOpenRow
import Derived.Test.YtpkcdfgjcodidaaDoorRules
namespace Go.Proofs.YtpkcdfgjcodidaaDoor
open Go.ChangeShapes Go.WideShapes Go.RowKit
set_option linter.unusedSimpArgs false
set_option linter.unusedVariables false

section
variable {H : Type} {enc : TypeId × Value → H} {w : World} {base : Nat} {spare : Nat → Bool} {held : Bool}
theorem rules_of_trod {fuel : Nat} {cs : List Value} {x : DataW H × List MemPlace} (h : DataW.trod enc Tryd.prog w base spare held fuel 63 cs = some x) :
    ∃ A c l, cs = [.slice A (l : List Rl).length c] ∧ c ≤ maxLen ∧ Rules w A c l := by
  obtain ⟨A, n, c, xs, rfl, hc, hr, hel, -⟩ := row_of_trod Tryd.underlying63 cells_rule (by omega) h
  obtain ⟨l, rfl⟩ := list_of (f := Rl.cells) (xs := xs) (fun y hy => by
    obtain ⟨m, z, hz⟩ := hel y hy
    obtain ⟨p, m, b, o, s, v, e, -⟩ := rule_of_trod hz
    exact ⟨⟨p, m, b, o, s, v⟩, e⟩)
  obtain rfl : l.length = n := by simpa using hr.1
  exact ⟨A, c, l, rfl, hc, hr⟩
set_option maxRecDepth 100000 in
theorem open_rules {r : Reach} {b0 : Nat} {v : Value} {d : DataW H} {p : List MemPlace} (hv : Value.okWide Tryd.prog w r b0 63 v) (h : DataW.Trod enc Tryd.prog w base spare held 63 v d p) :
    ∃ A c l, v = .slice A (l : List Rl).length c ∧ Rules w A c l := by
  obtain ⟨a0, len, cap, rfl⟩ := okWide_slice Tryd.underlying63 hv
  obtain ⟨fuel, hf⟩ := h
  obtain ⟨A, c, l, e, -, hc⟩ := rules_of_trod hf
  simp only [Value.cells, List.cons.injEq, and_true, Value.slice.injEq] at e
  obtain ⟨rfl, rfl, rfl⟩ := e
  exact ⟨_, _, l, rfl, hc⟩
end
end Go.Proofs.YtpkcdfgjcodidaaDoor
