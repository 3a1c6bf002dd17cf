/- Lists of ops that come in, opened. -/
import Derived.Test.YtpkcdfgjcodidaaDoorOpenRules
import Derived.Test.YtpkcdfgjcodidaaDoorTable3
namespace Go.Proofs.YtpkcdfgjcodidaaDoor
open Go.ChangeShapes Go.WideShapes Go.RowKit
set_option linter.unusedSimpArgs false
set_option linter.unusedVariables false

section
variable {H : Type} {enc : TypeId × Value → H} {w : World} {base : Nat} {spare : Nat → Bool} {held : Bool}
theorem cells_bool : Tryd.prog.cellsOf 4 = 1 := by kernel_rfl
theorem cells_op : Tryd.prog.cellsOf 27 = 8 := by kernel_rfl
theorem bool_of_trod {fuel : Nat} {c : Value} {x : DataW H × List MemPlace} (h : DataW.trod enc Tryd.prog w base spare held fuel 4 [c] = some x) : ∃ n, c = .bool n := by
  obtain ⟨n, e, -⟩ := DataW.trod_bool Tryd.underlying4 h
  exact ⟨n, by simpa using e⟩
theorem op_of_trod {fuel : Nat} {cs : List Value} {x : DataW H × List MemPlace} (h : DataW.trod enc Tryd.prog w base spare held fuel 27 cs = some x) :
    ∃ o : Opx, cs = o.cells := by
  have hl := len_struct Tryd.underlying27 h
  rw [cells_op] at hl
  match cs, hl with
  | [c0, c1, c2, c3, c4, c5, c6, c7], _ =>
    obtain ⟨_, _, h0⟩ := fld Tryd.underlying27 h 0 3 0 1 rfl cells_int
    obtain ⟨_, _, h1⟩ := fld Tryd.underlying27 h 1 4 1 1 rfl cells_bool
    obtain ⟨_, _, h2⟩ := fld Tryd.underlying27 h 2 25 2 6 rfl cells_rule
    simp only [List.drop_zero, List.drop_succ_cons, List.take_succ_cons, List.take_zero] at h0 h1 h2
    obtain ⟨p, rfl, -⟩ := int_of_trod h0
    obtain ⟨a, rfl⟩ := bool_of_trod h1
    obtain ⟨q, m, b, o, s, v, e, -⟩ := rule_of_trod h2
    simp only [List.cons.injEq, and_true] at e
    obtain ⟨rfl, rfl, rfl, rfl, rfl, rfl⟩ := e
    exact ⟨⟨p, a, ⟨q, m, b, o, s, v⟩⟩, rfl⟩
theorem ops_of_trod {fuel : Nat} {cs : List Value} {x : DataW H × List MemPlace} (h : DataW.trod enc Tryd.prog w base spare held fuel 90 cs = some x) :
    ∃ A c l, cs = [.slice A (l : List Opx).length c] ∧ c ≤ maxLen ∧ Ops w A c l := by
  obtain ⟨A, n, c, xs, rfl, hc, hr, hel, -⟩ := row_of_trod Tryd.underlying90 cells_op (by omega) h
  obtain ⟨l, rfl⟩ := list_of (f := Opx.cells) (xs := xs) (fun y hy => by
    obtain ⟨m, z, hz⟩ := hel y hy
    exact op_of_trod hz)
  obtain rfl : l.length = n := by simpa using hr.1
  exact ⟨A, c, l, rfl, hc, hr⟩
set_option maxRecDepth 100000 in
theorem open_ops {r : Reach} {b0 : Nat} {v : Value} {d : DataW H} {p : List MemPlace} (hv : Value.okWide Tryd.prog w r b0 90 v) (h : DataW.Trod enc Tryd.prog w base spare held 90 v d p) :
    ∃ A c l, v = .slice A (l : List Opx).length c ∧ Ops w A c l ∧ l.length ≤ 9223372036854775807 := by
  obtain ⟨a0, len, cap, rfl⟩ := okWide_slice Tryd.underlying90 hv
  obtain ⟨fuel, hf⟩ := h
  obtain ⟨A, c, l, e, hm, hc⟩ := ops_of_trod hf
  simp only [Value.cells, List.cons.injEq, and_true, Value.slice.injEq] at e
  obtain ⟨rfl, rfl, rfl⟩ := e
  exact ⟨_, _, l, rfl, hc, Nat.le_trans hc.le (by simpa [maxLen] using hm)⟩
end
end Go.Proofs.YtpkcdfgjcodidaaDoor
