/- A reader of Go code in plain values: contracts that come from a walk; what the seat's worlds have. -/
import Derived.Test.YtgfleiknigjnbaaDoorDenLib
import Derived.Test.YtgfleiknigjnbaaDoorErr
import Derived.Test.YtgfleiknigjnbaaDoorProg
namespace Go.Proofs.YtgfleiknigjnbaaDoor.Den
open Go.RowKit
set_option linter.unusedSimpArgs false
set_option linter.unusedVariables false

theorem grow_below {M : Mem} {w w' : World} (hM : ∀ b o u, M b o = some u → w.cell? ⟨b, o, none⟩ = some u) (hb : Below w.heap.size w w') : Grow M w M w' :=
  ⟨hb, fun _ _ _ h => h, fun b o u hu => by rw [World.cell?_of_block (w := w) (hb.block b (mem_lt hM hu))]; exact hM b o u hu, fun _ _ _ h _ => h⟩
def valsL? : List V → Option (List Value)
  | [] => some []
  | x :: r => match x.val?, valsL? r with
    | some v, some l => some (v :: l)
    | _, _ => none
theorem valsL_rel {M : Mem} : ∀ {xs : List V} {us vs : List Value}, valsL? xs = some us → RelL M vs xs → vs = us
  | [], us, vs, h, hr => by
    simp only [valsL?, Option.some.injEq] at h
    subst h
    exact List.eq_nil_of_length_eq_zero hr.1
  | x :: xs, us, vs, h, hr => by
    simp only [valsL?] at h
    split at h
    · rename_i u l hu hl
      simp only [Option.some.injEq] at h
      subst h
      cases vs with
      | nil => have := hr.1; simp at this
      | cons v vs =>
        have h1 := hr.2 0 x rfl
        simp at h1
        rw [rel_val h1 hu, valsL_rel (M := M) (xs := xs) (vs := vs) hl ⟨by have := hr.1; simpa using this, fun i y hy => by simpa using hr.2 (i + 1) y (by simpa using hy)⟩]
    · cases h
/-- a contract on values that lie in no memory -/
theorem scalls_vals {P : Program} {Dw : World → Prop} {f : FuncId} {xs : List V} {us : List Value} {r : Value} {y : V} (hf : ∃ fn, P.funcs[f]? = some fn ∧ (fn.name == "runtime.NumGoroutine") = false ∧ fn.body.isNone = false) (hx : valsL? xs = some us) (hy : ofVal r = some y)
    (h : ∀ w, Dw w → Calls P f us.toArray w fun e w' => e = .returned r ∧ Below w.heap.size w w') : SCalls P Dw f xs y := by
  refine ⟨hf, fun w M vs hd hM hrel => ?_⟩
  have e := valsL_rel hx hrel
  have e2 : vs = us.toArray := by apply Array.toList_inj.1; simpa using e
  rw [e2]
  exact (h w hd).mono fun en w' ⟨he, hb⟩ => ⟨r, M, he, grow_below hM hb, rel_ofVal hy⟩

def DW : World → Prop := Door
theorem stb : ∀ w w', DW w → Below w.heap.size w w' → DW w' := fun w w' h hb => Door.below h hb
/-- the number of an error -/
def told? : Value → Option Int
  | .nilIface => some 0
  | .iface t (.int .i64 n) => if t = 87 ∧ n ≠ 0 then some n else none
  | _ => none
theorem told_errOf (n : Int) : told? (errOf n) = some n := by
  unfold errOf
  by_cases h : n = 0
  · subst h; rfl
  · rw [if_neg h]; simp [told?, h]
theorem errOf_told {v : Value} {n : Int} (h : told? v = some n) : v = errOf n := by
  unfold told? at h
  split at h
  · simp only [Option.some.injEq] at h; subst h; rfl
  · split at h
    · rename_i hc
      simp only [Option.some.injEq] at h
      subst h
      rw [errOf_ne hc.2, hc.1]
    · cases h
  · cases h
def sem_Error (n : Nat) : List V → Option V
  | [.lit e, .lit (.int .i64 y)] => (told? e).map fun x => vb (decide (x = y))
  | _ => none
theorem ok_Error (n : Nat) : SemOk Tryd.prog DW 9 (sem_Error n) := fun xs y h => by
  unfold sem_Error at h
  split at h
  · rename_i e k
    obtain ⟨x, hx, rfl⟩ := Option.map_eq_some_iff.1 h
    rw [errOf_told hx]
    exact scalls_vals ⟨_, Tryd.func9, by kernel_rfl, by kernel_rfl⟩ rfl rfl fun w hd => error_any x k w hd
  · cases h
theorem s_Error (n : Nat) (x y : Int) : sem_Error n [.lit (errOf x), vi y] = some (vb (decide (x = y))) := by
  simp only [sem_Error, told_errOf, Option.map_some]
end Go.Proofs.YtgfleiknigjnbaaDoor.Den
