/- Typed forms of what is owned: slices that are written. -/
import Derived.Test.YtgfleiknigjnbaaDoorTy
namespace Go.Proofs.YtgfleiknigjnbaaDoor.Ty
open Go Go.RowKit Go.Proofs.YtgfleiknigjnbaaDoor.Den
set_option linter.unusedSimpArgs false
set_option linter.unusedVariables false
section
variable {α : Type} {c : α → List V} {k : Nat}
theorem p_s2bT {s : ByteArray} (h : decide ((s.size : Int) ≤ maxI) = true) : s2bT (vt s) = some (.osl 1 ((numsOf s).map cY)) := by
  have h := of_decide_eq_true h
  show (if s.size ≤ maxLen then some (V.osl 1 (bytesR s)) else none) = _
  rw [if_pos (by unfold maxLen; unfold maxI at h; omega), bytesR_rows]
theorem p_oslB {l : List Int} : (oslR (.osl 1 (l.map cY))).bind (fun rows => b2s (V.sl rows)) = some (vt (strOfNums l)) := p_b2s
theorem p_olen (l : List α) : ((oslR (.osl k (l.map c))).map fun rows => V.lit (Go.Value.int Go.IntKind.i64 (List.length rows))) = some (vi (l.length : Int)) := by simp [oslR]
theorem p_inB (l : List α) (i : Int) {kk : IntKind} (h : (decide (0 ≤ i) && decide (i < (List.length l : Int))) = true) : ((oslR (.osl k (l.map c))).bind fun rows => inB (List.length rows) (.lit (.int kk i))) = some V.any := by
  simp only [Bool.and_eq_true, decide_eq_true_eq] at h
  show inB (l.map c).length (.lit (.int kk i)) = _
  rw [List.length_map]
  exact d_inB ⟨h.1, by omega⟩
def oset (l : List α) (i : Int) (y : α) : Option (List α) := if 0 ≤ i ∧ i < l.length then some (l.set i.toNat y) else none
theorem p_oset (hc : ∀ a, (c a).length = k) (l : List α) (i : Int) (y : α) {kk : IntKind} : Rv (fun x => V.osl k (x.map c)) (setV (.osl k (l.map c)) [] (Stp.mk (some (natOf (.lit (.int kk i)))) 0 k) k (c y)) (oset l i y) := fun b h => by
  unfold oset at h
  split at h
  · rename_i hi
    simp only [Option.some.injEq] at h
    subst h
    have hlt : i.toNat < l.length := by omega
    simp only [setV, setN, natOf, List.getElem?_map, List.getElem?_eq_getElem hlt, Option.map_some, Option.bind_some, if_true, spliceO]
    rw [if_pos ⟨hc y, by rw [hc]; omega⟩]
    have e : List.drop k (c l[i.toNat]) = [] := List.drop_eq_nil_of_le (by rw [hc]; exact Nat.le_refl _)
    simp [List.map_set, hc, e]
  · cases h
theorem p_oload {e1 : α → V} {kd : Option Nat} {off : Nat} (hc : ∀ a, (c a).length = k) (l : List α) (i : Int) {kk : IntKind} (h : ∀ a, (ldk kd ((c a).drop off)).bind pureO = some (e1 a)) : Rv e1 ((nodeL (.osl k (l.map c)) (some (natOf (.lit (.int kk i)))) k).bind fun l => (ldk kd (List.drop off l)).bind pureO) (idx l i) := fun b hb => by
  unfold idx at hb
  split at hb
  · simp only [nodeL, natOf, List.getElem?_map, hb, Option.map_some, Option.bind_some, if_true]
    exact h b
  · cases hb
theorem p_frz (h : ∀ a, frzL (c a) = c a) (l : List α) : some (frz (.osl k (l.map c))) = some (V.sl (l.map c)) := by
  have : frzR (l.map c) = l.map c := by
    induction l with
    | nil => rfl
    | cons x l ih => simp only [List.map_cons, frzR, h, ih]
  simp only [frz, this]
theorem gate_rv {β : Type} {e1 : β → V} {Y1 : Option β} {c w : Bool} {Z : Option V} (h : c = w) (hz : Rv e1 Z Y1) : Rv e1 (gate (vb c) w Z) Y1 := by subst h; cases c <;> exact hz
theorem gate_rv2 {β : Type} {e1 : β → V} {Y1 : Option β} {g c w : Bool} {Z : Option V} (hg : g = true) (h : c = w) (hz : Rv e1 Z Y1) : Rv e1 (gate (gv g (vb c)) w Z) Y1 := by subst h; subst hg; cases c <;> exact hz
theorem tgn_f {β : Type} {e : β → Option V} {Y : Option β} {c p : Bool} {x : V} {X : Option V} {K : V → Option V} (h : (!c) = true → p = true → X = some x) (k : (c || p) = true → Rf e (K (gv (!c) x)) Y) : Rf e ((guardV (vb c) false X).bind K) (need (c || p) Y) := by
  cases c with
  | true => rw [show (true || p) = true from rfl, need_t]; exact k rfl
  | false =>
    cases p with
    | false => intro b hb; cases hb
    | true =>
      rw [show (false || true) = true from rfl, need_t, show guardV (vb false) false X = X from rfl, h rfl rfl]
      exact k rfl
def omake (n m : Int) (z : α) : Option (List α) := if n = m ∧ 0 ≤ n ∧ n ≤ 4294967296 then some (List.replicate n.toNat z) else none
theorem p_omake {z' : List V} (n m : Int) (z : α) {k1 k2 : IntKind} (hz : z' = c z) : Rv (fun x => V.osl k (x.map c)) (makeN k z' (.lit (.int k1 n)) (.lit (.int k2 m))) (omake n m z) := fun b h => by
  unfold omake at h
  split at h
  · rename_i hi
    simp only [Option.some.injEq] at h
    subst h
    subst hz
    simp only [makeN, if_pos hi, List.map_replicate]
  · cases h
end
end Go.Proofs.YtgfleiknigjnbaaDoor.Ty
