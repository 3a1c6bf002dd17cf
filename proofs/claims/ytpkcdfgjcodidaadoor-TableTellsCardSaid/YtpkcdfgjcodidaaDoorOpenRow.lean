/- Slices that come in, opened. -/
import Derived.Test.YtpkcdfgjcodidaaDoorOpen
import Derived.Test.YtpkcdfgjcodidaaDoorRow
namespace Go.Proofs.YtpkcdfgjcodidaaDoor
open Go.ChangeShapes Go.WideShapes Go.RowKit
set_option linter.unusedSimpArgs false
set_option linter.unusedVariables false

section
variable {H : Type} {enc : TypeId × Value → H} {w : World} {base : Nat} {spare : Nat → Bool} {held : Bool}
/-- the cells of a slice, element by element; the data beside them -/
theorem row_of_trod {T e k : Nat} (hT : Tryd.prog.underlying T = some (.slice e)) (hk : Tryd.prog.cellsOf e = k) (hk0 : 0 < k) {fuel : Nat} {cs : List Value} {x : DataW H × List MemPlace} (h : DataW.trod enc Tryd.prog w base spare held fuel T cs = some x) :
    ∃ A n c xs, cs = [.slice A n c] ∧ c ≤ maxLen ∧ RowC w k A n c xs ∧ (∀ y ∈ xs, ∃ m z, DataW.trod enc Tryd.prog w base spare held m e y = some z) ∧ ((n = 0 ∧ x.1 = .nil) ∨ ∃ elems rest, x.1 = .slice elems rest ∧ elems.length = n) := by
  rcases Go.Deep.open_slice hT h with ⟨rfl, hx⟩ | ⟨a, len, cap, m, n, D, Pl, rfl, hb, hl, hm, hmm, hx, hi⟩
  · exact ⟨none, 0, 0, [], rfl, by simp [maxLen], RowC.none_ w k, by simp, .inl ⟨rfl, by rw [hx]⟩⟩
  · rw [hk] at hi
    have hlm : len ≤ m := by rw [hmm]; split <;> omega
    have hch : ∀ i, i < len → ∃ cs' : List Value, (w.cells? base (a.add (i * k)) k = some cs') ∧ ∃ m z, DataW.trod enc Tryd.prog w base spare held m e cs' = some z := fun i hil => by
      obtain ⟨cs', h1, h2⟩ := hi i (by omega)
      exact ⟨cs', h1, n, _, h2⟩
    obtain ⟨f, hf⟩ := Go.Deep.choose_lt hch
    refine ⟨some a, len, cap, (List.range len).map f, rfl, hm, ⟨by simp, hl, ?_, fun hn => ?_⟩, ?_, .inr ⟨_, _, by rw [hx], by simp⟩⟩
    · intro cs hcs
      obtain ⟨i, hi', rfl⟩ := List.mem_map.1 hcs
      exact (World.cells?_some (hf i (List.mem_range.1 hi')).1).2.1
    · have h00 := (World.cells?_some (hf 0 hn).1)
      have hl0 : 0 < (f 0).length := by rw [h00.2.1]; exact hk0
      have hc0 : w.cell? ((a.add (0 * k)).add 0) = some (f 0)[0] := by rw [h00.2.2 0 hk0]; exact List.getElem?_eq_getElem hl0
      have ha0 : (a.add (0 * k)).add 0 = a := by simp [Addr.add]
      rw [ha0] at hc0
      obtain ⟨b, o, sp⟩ := a
      obtain rfl : sp = none := World.cell?_spot hc0
      refine ⟨b, o, rfl, World.block_lt_of_cell? w _ hc0, fun i cs hcs j u hu => ?_⟩
      rw [List.getElem?_map] at hcs
      obtain ⟨i', hi', rfl⟩ := Option.map_eq_some_iff.1 hcs
      have hlt : i < len := by
        have := (List.getElem?_eq_some_iff.1 hi').1
        simpa using this
      rw [List.getElem?_range hlt] at hi'
      obtain rfl : i = i' := by simpa using hi'
      have h1 := World.cells?_some (hf _ hlt).1
      have hj : j < k := by rw [← h1.2.1]; exact (List.getElem?_eq_some_iff.1 hu).1
      have h2 := h1.2.2 j hj
      rw [hu, Go.Deep.add_add] at h2
      have e1 : (⟨b, o, none⟩ : Addr).add (i * k + j) = ⟨b, o + i * k + j, none⟩ := by unfold Addr.add; split <;> simp_all <;> omega
      rw [← e1]
      exact h2
    · intro y hy
      obtain ⟨i, hi', rfl⟩ := List.mem_map.1 hy
      exact (hf i (List.mem_range.1 hi')).2
/-- lists of cells of one form -/
theorem list_of {α : Type} {f : α → List Value} : ∀ {xs : List (List Value)}, (∀ y ∈ xs, ∃ a, y = f a) → ∃ l : List α, xs = l.map f
  | [], _ => ⟨[], rfl⟩
  | x :: xs, h => by
    obtain ⟨a, rfl⟩ := h x (by simp)
    obtain ⟨l, rfl⟩ := list_of (xs := xs) (fun y hy => h y (by simp [hy]))
    exact ⟨a :: l, rfl⟩
theorem cubes_of_trod {fuel : Nat} {cs : List Value} {x : DataW H × List MemPlace} (h : DataW.trod enc Tryd.prog w base spare held fuel 74 cs = some x) :
    ∃ A c l, cs = [.slice A (l : List Cb).length c] ∧ c ≤ maxLen ∧ Cubes w A c l := by
  obtain ⟨A, n, c, xs, rfl, hc, hr, hel, -⟩ := row_of_trod Tryd.underlying74 cells_cube (by omega) h
  obtain ⟨l, rfl⟩ := list_of (f := Cb.cells) (xs := xs) (fun y hy => by
    obtain ⟨m, z, hz⟩ := hel y hy
    obtain ⟨a, b, e, -, -⟩ := cube_of_trod hz
    exact ⟨⟨a, b⟩, e⟩)
  obtain rfl : l.length = n := by simpa using hr.1
  exact ⟨A, c, l, rfl, hc, hr⟩
set_option maxRecDepth 100000 in
theorem open_cubes {r : Reach} {b0 : Nat} {v : Value} {d : DataW H} {p : List MemPlace} (hv : Value.okWide Tryd.prog w r b0 74 v) (h : DataW.Trod enc Tryd.prog w base spare held 74 v d p) :
    ∃ A c l, v = .slice A (l : List Cb).length c ∧ Cubes w A c l := by
  obtain ⟨a0, len, cap, rfl⟩ := okWide_slice Tryd.underlying74 hv
  obtain ⟨fuel, hf⟩ := h
  obtain ⟨A, c, l, e, -, hc⟩ := cubes_of_trod hf
  simp only [Value.cells, List.cons.injEq, and_true, Value.slice.injEq] at e
  obtain ⟨rfl, rfl, rfl⟩ := e
  exact ⟨_, _, l, rfl, hc⟩
end
end Go.Proofs.YtpkcdfgjcodidaaDoor
