/- A reader of Go code in plain values: a seat whose worlds have strconv's table and errors, and bytealg's bound. -/
import Derived.Test.YtpbfogklmhgfoaaDoorDenVals
import Derived.Test.YtpbfogklmhgfoaaDoorProg
import Derived.Lib.LaidTab
import Derived.Lib.AppendIntMem
import Derived.Lib.ItoaNum
namespace Go.Proofs.YtpbfogklmhgfoaaDoor.Den
open Go Go.RowKit
set_option linter.unusedSimpArgs false
set_option linter.unusedVariables false
structure DW (w : World) : Prop where
  tab : Lib.TabIs Tryd.prog w "internal/strconv.uint64pow10" .u64 Lib.pow10Tab
  syn : ∃ tp p, w.cell? ⟨2, 0, none⟩ = some (.iface tp p)
  rng : ∃ tp p, w.cell? ⟨3, 0, none⟩ = some (.iface tp p)
  max : ∃ m, w.cell? ⟨0, 0, none⟩ = some (.int .i64 m)
theorem cell_old {w w' : World} {b o : Nat} {v : Value} (h : w.cell? ⟨b, o, none⟩ = some v) (hb : Below w.heap.size w w') : w'.cell? ⟨b, o, none⟩ = some v := by
  have hlt : b < w.heap.size := by
    unfold World.cell? at h
    split at h
    · rename_i hx; exact (Array.getElem?_eq_some_iff.1 hx).1
    · cases h
  rw [World.cell?_of_block (w := w) (hb.block b hlt)]; exact h
theorem stb : ∀ w w', DW w → Below w.heap.size w w' → DW w' := fun w w' h hb =>
  ⟨Lib.tabBelow_of_tabIs h.tab w' hb, let ⟨tp, p, e⟩ := h.syn; ⟨tp, p, cell_old e hb⟩, let ⟨tp, p, e⟩ := h.rng; ⟨tp, p, cell_old e hb⟩, let ⟨m, e⟩ := h.max; ⟨m, cell_old e hb⟩⟩
end Go.Proofs.YtpbfogklmhgfoaaDoor.Den
