/- A reader of Go code in plain values: contracts on values, and their use in a walk. -/
import Derived.Test.YtilbgbhpdjjliaaGreatDoorDenLib
import Derived.Test.YtilbgbhpdjjliaaGreatDoorProg
namespace Go.Proofs.YtilbgbhpdjjliaaGreatDoor.Den
open Go.RowKit
set_option linter.unusedSimpArgs false
set_option linter.unusedVariables false
theorem grow_below {M : Mem} {w w' : World} (hM : ∀ b o u, M b o = some u → w.cell? ⟨b, o, none⟩ = some u) (hb : Below w.heap.size w w') : Grow M w M w' :=
 ⟨hb, fun _ _ _ h => h, fun b o u hu => by rw [World.cell?_of_block (w := w) (hb.block b (mem_lt hM hu))]; exact hM b o u hu, fun _ _ _ h _ => h⟩
def valsL? : List V → Option (List Value)
 | [] => some []
 | x :: r => match x.val?, valsL? r with
  | some v, some l => some (v :: l)
  | _, _ => none
theorem valsL_rel {M : Mem} : ∀ {xs : List V} {us vs : List Value}, valsL? xs = some us → RelL M vs xs → vs = us
 | [], us, vs, h, hr => by
  simp only [valsL?, Option.some.injEq] at h
  subst h
  exact List.eq_nil_of_length_eq_zero hr.1
 | x :: xs, us, vs, h, hr => by
  simp only [valsL?] at h
  split at h
  ·rename_i u l hu hl
   simp only [Option.some.injEq] at h
   subst h
   cases vs with
   | nil => have := hr.1; simp at this
   | cons v vs =>
    have h1 := hr.2 0 x rfl
    simp at h1
    rw [rel_val h1 hu, valsL_rel (M := M) (xs := xs) (vs := vs) hl ⟨by have := hr.1; simpa using this, fun i y hy => by simpa using hr.2 (i + 1) y (by simpa using hy)⟩]
  ·cases h
theorem scalls_vals {P : Program} {Dw : World → Prop} {f : FuncId} {xs : List V} {us : List Value} {r : Value} {y : V} (hf : ∃ fn, P.funcs[f]? = some fn ∧ (fn.name == "runtime.NumGoroutine") = false ∧ fn.body.isNone = false) (hx : valsL? xs = some us) (hy : ofVal r = some y)
  (h : ∀ w, Dw w → Calls P f us.toArray w fun e w' => e = .returned r ∧ Below w.heap.size w w') : SCalls P Dw f xs y := by
 refine ⟨hf, fun w M vs hd hM hrel => ?_⟩
 have e := valsL_rel hx hrel
 have e2 : vs = us.toArray := by apply Array.toList_inj.1; simpa using e
 rw [e2]
 exact (h w hd).mono fun en w' ⟨he, hb⟩ => ⟨r, M, he, grow_below hM hb, rel_ofVal hy⟩
theorem scalls_use {P : Program} {Dw : World → Prop} {f : FuncId} {us : List Value} {xs : List V} {r : Value} {y : V} (h : SCalls P Dw f xs y) (hu : ∀ (i : Nat) x, xs[i]? = some x → Rel (fun _ _ => none) (us.getD i undef) x) (hl : us.length = xs.length) (hr : y.val? = some r) (w : World) (hd : Dw w) : Calls P f us.toArray w fun e w' => e = .returned r ∧ Below w.heap.size w w' := by
 refine (h.2 w (fun _ _ => none) us.toArray hd (fun _ _ _ h => by cases h) ⟨by simpa using hl, fun i x hx => by simpa using hu i x hx⟩).mono fun e w' ⟨v, M', he, hg, hrel⟩ => ⟨?_, hg.1⟩
 rw [he, rel_val hrel hr]
end Go.Proofs.YtilbgbhpdjjliaaGreatDoor.Den
