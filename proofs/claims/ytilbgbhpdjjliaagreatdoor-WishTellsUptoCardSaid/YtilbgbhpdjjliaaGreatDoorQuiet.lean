/- A region that draws its order, whose operations read memory that was there and whose calls make new memory alone: one walk serves every order. The class of worlds: what was there stands, new blocks may have come. -/
import Derived.Test.YtilbgbhpdjjliaaGreatDoorPlain
import Derived.Deep.Quiet
import Derived.Deep.QuietTactic
import Derived.BigQuiet
import Derived.StillTail
import Derived.Deep.RegionHeld3
namespace Go.Proofs.YtilbgbhpdjjliaaGreatDoor
open Go.RowKit
structure More where
 objs : Array Obj
 drawn : Nat
instance : Nonempty More := ⟨⟨#[], 0⟩⟩
def more (w : World) (e : More) : World := { w with heap := w.heap ++ e.objs, drawn := e.drawn }
theorem cell_more (w : World) (e : More) (b o : Nat) (h : b < w.heap.size) : (more w e).cell? ⟨b, o, none⟩ = w.cell? ⟨b, o, none⟩ := by
 unfold more World.cell?
 simp only [Array.getElem?_append_left h]
theorem frozen_more (w : World) (e : More) (b o : Nat) (h : b < w.heap.size) : (more w e).frozen? ⟨b, o, none⟩ = w.frozen? ⟨b, o, none⟩ := by
 unfold more World.frozen?
 simp only [Array.getElem?_append_left h]
attribute [go_sem] cell_more frozen_more
theorem more_of_below {w w' : World} (h : Below w.heap.size w w') : ∃ e, w' = more w e := by
 refine ⟨⟨w'.heap.extract w.heap.size w'.heap.size, w'.drawn⟩, ?_⟩
 have hh : w'.heap = w.heap ++ w'.heap.extract w.heap.size w'.heap.size := by
  apply Array.ext_getElem?
  intro i
  by_cases hi : i < w.heap.size
  ·rw [h.block i hi, Array.getElem?_append_left hi]
  ·rw [Array.getElem?_append_right (by omega), Array.getElem?_extract]
   by_cases hj : i < w'.heap.size
   ·rw [if_pos (by omega)]; congr 1; omega
   ·rw [if_neg (by omega), Array.getElem?_eq_none (by omega)]
 obtain ⟨hp, tp, dr, os, ou⟩ := w'
 have h1 := h.os
 have h2 := h.tape
 have h3 := h.output
 simp only at h1 h2 h3 hh
 subst h1 h2 h3
 unfold more
 rw [← hh]
theorem below_more (w : World) (e : More) : Below w.heap.size w (more w e) :=
 ⟨rfl, rfl, rfl, by simp [more], fun k hk => by simp only [more]; exact Array.getElem?_append_left hk⟩
section
variable {P : Program}
theorem wp_region_below {id : Nat} {Q : Exit → Act → World → Prop} {a : Act} {w : World} {l : List Oper} (hm : P.follows .mixedOrders = true) (hB : Region.lexB .any l.toArray = true)
  (h : wpQuiet P l.toArray (fun w' => ∃ e, w' = more w e) (fun a' => ∀ w', Below w.heap.size w w' → Q .normal a' w') l a) : (Code.region id l.toArray true).wp P Q a w := by
 refine wp_region_quiet (C := fun w' => ∃ e, w' = more w e) hm hB (more_of_below ⟨rfl, rfl, rfl, Nat.le_refl _, fun _ _ => rfl⟩) ?_
 have e : (fun a' => ∀ w', (∃ e, w' = more w e) → Q .normal a' w') = (fun a' => ∀ w', Below w.heap.size w w' → Q .normal a' w') := by
  funext a'
  exact propext ⟨fun h w' hw => h w' (more_of_below hw), fun h w' ⟨e, he⟩ => h w' (he ▸ below_more w e)⟩
 rw [e]
 simpa using h
end
section
variable {P : Program} {ops : Array Oper} {md : Region.Mode} {C : World → Prop}
def headQ (P : Program) (md : Region.Mode) (ops : Array Oper) (C : World → Prop) (n : Nat) (L : Array Bool → Act → Prop) : Nat → Array Bool → Act → Prop
 | 0, listed, a => L listed a
 | f + 1, listed, a => Region.ready md ops listed ≠ [] ∧ ∀ i ∈ Region.ready md ops listed, i < n ∧ qOp P ops C i (headQ P md ops C n L f (listed.setIfInBounds i true)) a
end
end Go.Proofs.YtilbgbhpdjjliaaGreatDoor
