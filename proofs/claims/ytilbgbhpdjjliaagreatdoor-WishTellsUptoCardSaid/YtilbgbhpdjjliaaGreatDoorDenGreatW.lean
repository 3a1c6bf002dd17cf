/- A reader of Go code in plain values: a seat whose worlds have errors.errorType, the words of wishes, strconv's table and errors, and bytealg's bound. -/
import Derived.Test.YtilbgbhpdjjliaaGreatDoorDenVals
import Derived.Test.YtilbgbhpdjjliaaGreatDoorErr
import Derived.Test.YtilbgbhpdjjliaaGreatDoorProg
import Derived.Lib.LaidTab
import Derived.Lib.AppendIntMem
import Derived.Lib.ItoaNum
namespace Go.Proofs.YtilbgbhpdjjliaaGreatDoor.Den
open Go Go.RowKit
set_option linter.unusedSimpArgs false
set_option linter.unusedVariables false
def wordsL : List ByteArray := [⟨#[]⟩, ⟨#[114, 101, 97, 99, 104]⟩, ⟨#[97, 112, 97, 114, 116]⟩, ⟨#[119, 97, 121]⟩, ⟨#[108, 111, 111, 112, 115]⟩]
structure DW (w : World) : Prop where
 door : Door w
 tab : Lib.TabIs Tryz.prog w "internal/strconv.uint64pow10" .u64 Lib.pow10Tab
 syn : ∃ tp p, w.cell? ⟨4, 0, none⟩ = some (.iface tp p)
 rng : ∃ tp p, w.cell? ⟨5, 0, none⟩ = some (.iface tp p)
 words : ∀ j, j < 5 → w.cell? ⟨0, j, none⟩ = some (.string (wordsL.getD j ⟨#[]⟩))
 max : ∃ m, w.cell? ⟨3, 0, none⟩ = some (.int .i64 m)
theorem cell_old {w w' : World} {b o : Nat} {v : Value} (h : w.cell? ⟨b, o, none⟩ = some v) (hb : Below w.heap.size w w') : w'.cell? ⟨b, o, none⟩ = some v := by
 have hlt : b < w.heap.size := by
  unfold World.cell? at h
  split at h
  ·rename_i hx; exact (Array.getElem?_eq_some_iff.1 hx).1
  ·cases h
 rw [World.cell?_of_block (w := w) (hb.block b hlt)]; exact h
theorem stb : ∀ w w', DW w → Below w.heap.size w w' → DW w' := fun w w' h hb =>
 ⟨Door.below h.door hb, Lib.tabBelow_of_tabIs h.tab w' hb, let ⟨tp, p, e⟩ := h.syn; ⟨tp, p, cell_old e hb⟩, let ⟨tp, p, e⟩ := h.rng; ⟨tp, p, cell_old e hb⟩, fun j hj => cell_old (h.words j hj) hb, let ⟨m, e⟩ := h.max; ⟨m, cell_old e hb⟩⟩
theorem words_of {w : World} (h : DW w) (j : Nat) (hj : j < 5) : w.cell? ⟨0, j, none⟩ = some (.string (wordsL.getD j ⟨#[]⟩)) := h.words j hj
theorem dw_lt {w : World} (h : DW w) : 0 < w.heap.size := by
 have := words_of h 0 (by omega)
 unfold World.cell? at this
 split at this
 ·rename_i hb; exact (Array.getElem?_eq_some_iff.1 hb).1
 ·cases this
def told? : Value → Option Int
 | .nilIface => some 0
 | .iface t (.int .i64 n) => if t = 86 ∧ n ≠ 0 then some n else none
 | _ => none
theorem told_errOf (n : Int) : told? (errOf n) = some n := by
 unfold errOf
 by_cases h : n = 0
 ·subst h; rfl
 ·rw [if_neg h]; simp [told?, h]
theorem errOf_told {v : Value} {n : Int} (h : told? v = some n) : v = errOf n := by
 unfold told? at h
 split at h
 ·simp only [Option.some.injEq] at h; subst h; rfl
 ·split at h
  ·rename_i hc
   simp only [Option.some.injEq] at h
   subst h
   rw [errOf_ne hc.2, hc.1]
  ·cases h
 ·cases h
def sem_Error (n : Nat) : List V → Option V
 | [.lit e, .lit (.int .i64 y)] => (told? e).map fun x => vb (decide (x = y))
 | _ => none
theorem ok_Error (n : Nat) : SemOk Tryz.prog DW 6 (sem_Error n) := fun xs y h => by
 unfold sem_Error at h
 split at h
 ·rename_i e k
  obtain ⟨x, hx, rfl⟩ := Option.map_eq_some_iff.1 h
  rw [errOf_told hx]
  exact scalls_vals ⟨_, Tryz.func6, by kernel_rfl, by kernel_rfl⟩ rfl rfl fun w hd => error_any x k w hd.door
 ·cases h
theorem s_Error (n : Nat) (x y : Int) : sem_Error n [.lit (errOf x), vi y] = some (vb (decide (x = y))) := by
 simp only [sem_Error, told_errOf, Option.map_some]
end Go.Proofs.YtilbgbhpdjjliaaGreatDoor.Den
