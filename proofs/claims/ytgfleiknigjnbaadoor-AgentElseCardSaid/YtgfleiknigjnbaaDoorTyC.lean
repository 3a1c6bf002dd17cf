/- Functions on plain types: a constructor's pair, a pointer to what is the caller's own (or nil) and an error. -/
import Derived.Test.YtgfleiknigjnbaaDoorTy
import Derived.Test.YtgfleiknigjnbaaDoorDen14
namespace Go.Proofs.YtgfleiknigjnbaaDoor.Ty
open Go Go.RowKit Go.Proofs.YtgfleiknigjnbaaDoor.Den
set_option linter.unusedSimpArgs false
set_option linter.unusedVariables false
section
variable {α β : Type} {f : α → List V} {e : β → Option V}
/-- nil, or an object -/
def pO (f : α → List V) : Option α → V
  | none => .lit (.pointer none)
  | some x => .obj (f x)
/-- what is done with what may be missing -/
def caseO (o : Option α) (f : α → Option β) (g : Option β) : Option β := match o with
  | some d => f d
  | none => g
theorem tpartK {o : Option α} {y : V} {Ko : List V → List V → Option V} {Kp : V → Option V} {Y1 : α → Option β} {Y2 : Option β} (h1 : ∀ d, Rf e (Ko [V.any, y] (f d)) (Y1 d)) (h2 : Rf e (Kp (.lit (.pointer none))) Y2) :
    Rf e (partK (V.tup [pO f o, y]) 0 Ko Kp) (caseO o Y1 Y2) := by
  cases o with
  | some d => exact h1 d
  | none => exact h2
theorem tpartP0 {x : V} {n : Int} {K : V → Option V} {Y : Option β} (h : Rf e (K (eV n)) Y) : Rf e (partP (V.tup [x, eV n]) 1 K) Y := h
theorem tobjK {l : List V} {K : List V → Option V} {Y : Option β} (h : Rf e (K l) Y) : Rf e (objK (V.obj l) K) Y := h
theorem p_olenF {c : α → List V} {k : Nat} {X : Option V} {l0 : List α} (h : X = some (.osl k (l0.map c))) (l : List α) (hl : l0 = l := by rfl) : ((X.bind oslR).map fun rows => V.lit (Go.Value.int Go.IntKind.i64 (List.length rows))) = some (vi (l.length : Int)) := by
  subst hl; rw [h]; simp [oslR]
theorem p_frzQ {l l' : List V} (h : frzL l = l') : some (frzQ (.obj l)) = some (V.ptr l') := by rw [← h]; rfl
theorem p_gate0 {y z : V} (h : some y = some z) : some (gateA [] y) = some z := h
theorem p_gate1 {c w : Bool} {y z : V} (hc : c = w) (h : some y = some z) : some (gateA [(vb c, w)] y) = some z := by
  subst hc; rw [← h]; cases c <;> rfl
theorem rf_litQ {e : β → V} {X : Option V} {Y : Option β} (h : Rv e X Y) (hl : ∀ b, litQ (e b) = some (e b)) : Rv e (X.bind litQ) Y := fun b hb => by
  rw [h b hb]; exact hl b
theorem flat_all {c : α → List V} (h : ∀ a, ((c a).all fun x => x.val?.isSome) = true) (l : List α) : ((l.map c).all fun r => r.all fun x => x.val?.isSome) = true := by
  simp only [List.all_map, List.all_eq_true]
  intro a _
  simpa using h a
theorem p_flatQ {c : α → List V} (h : ∀ a, ((c a).all fun x => x.val?.isSome) = true) (l : List α) : flatQ (V.sl (l.map c)) = some (V.sl (l.map c)) := by
  show (if ((l.map c).all fun r => r.all fun x => x.val?.isSome) = true then some (V.sl (l.map c)) else none) = _
  rw [if_pos (flat_all h l)]
theorem rf_flatQ {c : α → List V} {X : Option V} {Y : Option (List α)} (h : Rv (fun l : List α => V.sl (l.map c)) X Y) (hf : ∀ a, ((c a).all fun x => x.val?.isSome) = true) : Rv (fun l : List α => V.sl (l.map c)) (X.bind flatQ) Y := fun b hb => by
  rw [h b hb]; exact p_flatQ hf b
end
end Go.Proofs.YtgfleiknigjnbaaDoor.Ty
