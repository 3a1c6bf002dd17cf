/- strconv.Itoa and strings.Join, for the reader: their contracts on the kit's shelf as functions on plain values. -/
import Derived.Test.YtilbgbhpdjjliaaGreatDoorDen14
import Derived.Test.YtilbgbhpdjjliaaGreatDoorDenVals
import Derived.Test.YtilbgbhpdjjliaaGreatDoorTy
import Derived.Shelf.Strconv.Itoa3
import Derived.Shelf.Strings.OnBuilder
namespace Go.Proofs.YtilbgbhpdjjliaaGreatDoor.Den
open Go Go.RowKit
set_option linter.unusedSimpArgs false
set_option linter.unusedVariables false
def cStr (s : ByteArray) : List V := [.lit (.string s)]
def strsR : List (List V) → Option (List ByteArray)
 | [] => some []
 | [.lit (.string s)] :: l => (strsR l).map (s :: ·)
 | _ => none
def itoaS (z : Nat) : ByteArray := ⟨(Lib.decDigits z).toArray⟩
def joinS (l : List ByteArray) (sep : ByteArray) : ByteArray := ⟨(Lib.join (l.map (·.data.toList)) sep.data.toList).toArray⟩
def semItoa (xs : List V) : Option V := match xs with
 | [.lit (.int .i64 z)] => if 0 ≤ z ∧ z < 100 then some (.lit (.string (itoaS z.toNat))) else none
 | _ => none
def semJoin (xs : List V) : Option V := match xs with
 | [.sl rows, .lit (.string sep)] => (strsR rows).bind fun l => if l.length ≤ 140737488355328 ∧ (Lib.join (l.map (·.data.toList)) sep.data.toList).length ≤ 140737488355328 then some (.lit (.string (joinS l sep))) else none
 | _ => none
theorem itoa_s {P : Program} {Dw : World → Prop} {f : Nat} {ρ : Shelf.Ren} (hfn : ∃ fn, P.funcs[f]? = some fn ∧ (fn.name == "runtime.NumGoroutine") = false ∧ fn.body.isNone = false) (L : Lays.n171 P ρ) (hf : ρ.f 171 = f) : SemOk P Dw f semItoa := fun xs y hy => by
 subst hf
 unfold semItoa at hy
 split at hy
 ·rename_i z
  split at hy
  ·rename_i h
   obtain rfl := Option.some.inj hy
   refine scalls_vals (us := [.int .i64 z]) (r := .string (itoaS z.toNat)) hfn rfl rfl fun w _ => ?_
   have e : z = ((z.toNat : Nat) : Int) := by omega
   have := Any.strconv_Itoa_small L z.toNat (by omega) w
   rw [← e] at this
   exact this.mono fun en w' ⟨he, hw⟩ => ⟨he, hw ▸ Below.refl _ _⟩
  ·cases hy
 ·cases hy
end Go.Proofs.YtilbgbhpdjjliaaGreatDoor.Den
namespace Go.Proofs.YtilbgbhpdjjliaaGreatDoor.Ty
open Go Go.RowKit Go.Proofs.YtilbgbhpdjjliaaGreatDoor.Den
def t_Itoa (z : Int) : Option ByteArray := if 0 ≤ z ∧ z < 100 then some (itoaS z.toNat) else none
theorem ty_Itoa (z : Int) : Rv (fun x : ByteArray => vt x) (semItoa [vi z]) (t_Itoa z) := fun b hb => by
 unfold t_Itoa at hb
 split at hb
 ·rename_i h
  cases hb
  show (if 0 ≤ z ∧ z < 100 then _ else _) = _
  rw [if_pos h]
 ·cases hb
def t_Join (l : List ByteArray) (sep : ByteArray) : Option ByteArray := if l.length ≤ 140737488355328 ∧ (Lib.join (l.map (·.data.toList)) sep.data.toList).length ≤ 140737488355328 then some (joinS l sep) else none
end Go.Proofs.YtilbgbhpdjjliaaGreatDoor.Ty
