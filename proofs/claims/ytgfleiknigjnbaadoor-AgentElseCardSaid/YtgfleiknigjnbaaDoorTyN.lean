/- Typed forms of what is owned in what is owned: slices in objects, slices of slices. -/
import Derived.Test.YtgfleiknigjnbaaDoorTyO
namespace Go.Proofs.YtgfleiknigjnbaaDoor.Ty
open Go Go.RowKit Go.Proofs.YtgfleiknigjnbaaDoor.Den
set_option linter.unusedSimpArgs false
set_option linter.unusedVariables false
section
variable {α β γ δ : Type} {c : α → List V} {k j : Nat} {e : β → Option V} {Y : Option β}
theorem p_tail (l : List α) (i : Int) : Rv (fun x => V.sl (x.map c)) (tailV (l.map c) (vi i)) (slc_lo l i) := fun x h => by
  unfold slc_lo at h
  split at h
  · rename_i hc
    obtain rfl := Option.some.inj h
    have : boundL (some (vi i)) 0 = some i.toNat := if_pos hc.1
    unfold tailV
    rw [this]
    simp only
    rw [if_pos (by simp; omega), List.map_drop]
  · cases h
theorem p_inA (n : Nat) (i : Int) {kk : IntKind} (h : (decide (0 ≤ i) && decide (i < (n : Int))) = true) : inB n (.lit (.int kk i)) = some V.any := by
  simp only [Bool.and_eq_true, decide_eq_true_eq] at h
  exact d_inB ⟨h.1, by omega⟩
theorem p_fz0 : frzL [] = [] := rfl
theorem p_fzc {x y : V} {r r' : List V} (h : frz x = y) (hr : frzL r = r') : frzL (x :: r) = y :: r' := by rw [← h, ← hr]; rfl
theorem p_frzl {c' : α → List V} (h : ∀ a, frzL (c a) = c' a) (l : List α) : frz (.osl k (l.map c)) = V.sl (l.map c') := by
  have : frzR (l.map c) = l.map c' := by
    induction l with
    | nil => rfl
    | cons x l ih => simp only [List.map_cons, frzR, h, ih]
  simp only [frz, this]
theorem p_frzS {c' : α → List V} (h : ∀ a, frzL (c a) = c' a) (l : List α) : some (frz (.osl k (l.map c))) = some (V.sl (l.map c')) := congrArg some (p_frzl h l)
theorem p_frzP {l l' : List V} (h : frzL l = l') : some (frzP (.obj l)) = some (V.ptr l') := by rw [← h]; rfl
theorem p_fzX {t : Nat} {l l' : List V} (ht : decide (t < 1000000) = true) (h : frzL l = l') : some (softX t (.obj l)) = some (V.obj l') := by
  rw [← h]; simp only [softX, softT, ht]
def oapp (l m : List α) : Option (List α) := if 0 < m.length ∧ l.length + m.length ≤ 4294967296 then some (l ++ m) else none
theorem p_oappY {y : V} (hc : ∀ a, (c a).length = k) (l m : List α) (hy : rowsY y = some (m.map c)) : Rv (fun x => V.osl k (x.map c)) (appS k (.osl k (l.map c)) y) (oapp l m) := fun b h => by
  unfold oapp at h
  split at h
  · rename_i hi
    simp only [Option.some.injEq] at h
    subst h
    simp only [appS, hy, Option.bind_some, List.length_map]
    rw [if_pos ⟨trivial, hi.1, all_len hc m, hi.2⟩, List.map_append]
  · cases h
theorem p_oapp (hc : ∀ a, (c a).length = k) (l m : List α) : Rv (fun x => V.osl k (x.map c)) (appS k (.osl k (l.map c)) (.sl (m.map c))) (oapp l m) := p_oappY hc l m rfl
theorem p_oappO {k2 : Nat} (hc : ∀ a, (c a).length = k) (l m : List α) : Rv (fun x => V.osl k (x.map c)) (appS k (.osl k (l.map c)) (.osl k2 (m.map c))) (oapp l m) := p_oappY hc l m rfl
theorem p_asc {A : Option γ} {f : γ → Option δ} {g : δ → Option V} (h : Rf e (A.bind fun y => (f y).bind g) Y) : Rf e ((A.bind f).bind g) Y := by rw [Option.bind_assoc]; exact h
theorem p_cas {A : Option γ} {f : γ → Option δ} {g : δ → Option V} (h : Rf e ((A.bind f).bind g) Y) : Rf e (A.bind fun y => (f y).bind g) Y := by rw [Option.bind_assoc] at h; exact h
theorem p_in0 {x : V} {G : V → Option V} (h : Rf e (G x) Y) : Rf e ((getV x []).bind G) Y := h
theorem p_inF {l : List V} {k2 : Nat} {p : List Stp} {y : V} {G : V → Option V} (hj : l[j]? = some y) (h : Rf e ((getV y p).bind G) Y) : Rf e ((getV (.obj l) (⟨none, j, k2⟩ :: p)).bind G) Y := by
  simp only [getV, stepX, hj, Option.bind_some]; exact h
theorem p_inI {e1 : α → V} {kk : IntKind} {p : List Stp} {G : V → Option V} {t : α → Option β} (hc : ∀ a, (c a)[j]? = some (e1 a)) (l : List α) (i : Int) (h : ∀ a, Rf e ((getV (e1 a) p).bind G) (t a)) : Rf e ((getV (.osl k (l.map c)) (⟨some (natOf (.lit (.int kk i))), j, k⟩ :: p)).bind G) ((idx l i).bind t) := fun b hb => by
  unfold idx at hb
  split at hb
  · obtain ⟨a, ha, hb⟩ := Option.bind_eq_some_iff.1 hb
    simp only [getV, stepX, natOf, List.getElem?_map, ha, Option.map_some, Option.bind_some, if_true, hc]
    exact h a b hb
  · cases hb
/-- a slice out of whose element i the cell j has been taken -/
def holeL (c : α → List V) (k j : Nat) (l : List α) (i : Int) : V := .osl k ((l.map c).set i.toNat (((l.map c).getD i.toNat []).set j .any))
theorem p_take {e1 : α → V} {kk : IntKind} {K : V → V → Option V} {t : α → Option β} (hc : ∀ a, (c a)[j]? = some (e1 a)) (l : List α) (i : Int) (h : ∀ a, Rf e (K (e1 a) (holeL c k j l i)) (t a)) :
    Rf e ((getV (.osl k (l.map c)) [⟨some (natOf (.lit (.int kk i))), j, k⟩]).bind fun y => (modX (.osl k (l.map c)) [] ⟨some (natOf (.lit (.int kk i))), j, k⟩ .any).bind fun x1 => K y x1) ((idx l i).bind t) := fun b hb => by
  unfold idx at hb
  split at hb
  · obtain ⟨a, ha, hb⟩ := Option.bind_eq_some_iff.1 hb
    simp only [getV, modX, stepX, natOf, List.getElem?_map, ha, Option.map_some, Option.bind_some, if_true, hc, putX]
    exact h a b hb
  · cases hb
theorem p_takeF {e1 : α → V} {kk : IntKind} {K : V → V → Option V} {t : α → Option β} {lo : List V} {jo ko : Nat} (hc : ∀ a, (c a)[j]? = some (e1 a)) (l : List α) (i : Int) (hj : lo[jo]? = some (.osl k (l.map c))) (h : ∀ a, Rf e (K (e1 a) (.obj (lo.set jo (holeL c k j l i)))) (t a)) :
    Rf e ((getV (.obj lo) [⟨none, jo, ko⟩, ⟨some (natOf (.lit (.int kk i))), j, k⟩]).bind fun y => (modX (.obj lo) [⟨none, jo, ko⟩] ⟨some (natOf (.lit (.int kk i))), j, k⟩ .any).bind fun x1 => K y x1) ((idx l i).bind t) := fun b hb => by
  unfold idx at hb
  split at hb
  · obtain ⟨a, ha, hb⟩ := Option.bind_eq_some_iff.1 hb
    simp only [getV, modX, stepX, hj, natOf, List.getElem?_map, ha, Option.map_some, Option.bind_some, if_true, hc, putX]
    exact h a b hb
  · cases hb
theorem p_inBh (l : List α) (i i2 : Int) {kk : IntKind} (h : (decide (0 ≤ i) && decide (i < (List.length l : Int))) = true) : ((oslR (holeL c k j l i2)).bind fun rows => inB (List.length rows) (.lit (.int kk i))) = some V.any := by
  have := p_inB (c := c) (k := k) (kk := kk) l i h
  simp only [oslR, Option.bind_some, List.length_map] at this
  simp only [holeL, oslR, Option.bind_some, List.length_set, List.length_map]
  exact this
theorem p_fill1 {e1 : α → V} {kk : IntKind} (hc : ∀ a, c a = [e1 a]) (l : List α) (i : Int) (y : α) : Rv (fun x => V.osl 1 (x.map c)) (setV (holeL c 1 0 l i) [] (Stp.mk (some (natOf (.lit (.int kk i)))) 0 1) 1 [e1 y]) (oset l i y) := fun b h => by
  unfold oset at h
  split at h
  · rename_i hi
    simp only [Option.some.injEq] at h
    subst h
    have hlt : i.toNat < l.length := by omega
    have e1' : (List.map c l).getD i.toNat [] = [e1 l[i.toNat]] := by rw [List.getD, List.getElem?_map, List.getElem?_eq_getElem hlt]; simp [hc]
    simp only [holeL, e1', List.set_cons_zero, setV, setN, natOf]
    rw [List.getElem?_set_self (by simpa using hlt)]
    simp only [Option.bind_some, if_true, spliceO, List.length_cons, List.length_nil, Nat.zero_add, Nat.le_refl, and_self, List.take_zero, List.nil_append, List.drop_succ_cons, List.drop_nil, List.append_nil, Option.map_some, Option.some.injEq, List.set_set, V.osl.injEq, true_and]
    rw [List.map_set, hc]
  · cases h
theorem p_setF {e1 : α → V} {lo : List V} {jo ko : Nat} {p : List Stp} {q : Stp} {k2 : Nat} {cs : List V} {y : V} {t : Option α} (hj : lo[jo]? = some y) (h : Rv e1 (setV y p q k2 cs) t) : Rv (fun a => V.obj (lo.set jo (e1 a))) (setV (.obj lo) (⟨none, jo, ko⟩ :: p) q k2 cs) t := fun b hb => by
  simp only [setV, stepX, hj, Option.bind_some, h b hb, Option.map_some, putX]
theorem p_setI1 {e1 : α → V} {kk : IntKind} {p : List Stp} {q : Stp} {k2 : Nat} {cs : List V} {t : α → Option α} (hc : ∀ a, c a = [e1 a]) (l : List α) (i : Int) (h : ∀ a, Rv e1 (setV (e1 a) p q k2 cs) (t a)) :
    Rv (fun x => V.osl 1 (x.map c)) (setV (.osl 1 (l.map c)) (⟨some (natOf (.lit (.int kk i))), 0, 1⟩ :: p) q k2 cs) ((idx l i).bind fun a => (t a).map fun a' => l.set i.toNat a') := fun b hb => by
  unfold idx at hb
  split at hb
  · obtain ⟨a, ha, hb⟩ := Option.bind_eq_some_iff.1 hb
    obtain ⟨a', ha', rfl⟩ := Option.map_eq_some_iff.1 hb
    have hg : (List.map c l).getD i.toNat [] = [e1 a] := by rw [List.getD, List.getElem?_map, ha]; simp [hc]
    simp only [setV, stepX, natOf, List.getElem?_map, ha, Option.map_some, Option.bind_some, if_true, hc, List.getElem?_cons_zero, h a a' ha', putX, hg, List.set_cons_zero, Option.some.injEq, V.osl.injEq, true_and]
    rw [List.map_set, hc]
  · cases hb
theorem p_onest {off : Nat} {kk : IntKind} (hc : ∀ a, ((c a)[off]?).bind ownO = some V.any) (l : List α) (i : Int) : Rv (fun _ : α => V.any) ((nodeL (.osl k (l.map c)) (some (natOf (.lit (.int kk i)))) k).bind fun l => (l[off]?).bind ownO) (idx l i) := fun b hb => by
  unfold idx at hb
  split at hb
  · simp only [nodeL, natOf, List.getElem?_map, hb, Option.map_some, Option.bind_some, if_true]
    exact hc b
  · cases hb
/-- the element i, changed -/
def oupd (l : List α) (i : Int) (f : α → α) : Option (List α) := (idx l i).map fun a => l.set i.toNat (f a)
theorem p_oupd {cs : List V} {off kn : Nat} (f : α → α) (hc : ∀ a, (c a).length = k) (hf : ∀ a, spliceO (c a) off kn cs = some (c (f a))) (l : List α) (i : Int) {kk : IntKind} : Rv (fun x => V.osl k (x.map c)) (setV (.osl k (l.map c)) [] (Stp.mk (some (natOf (.lit (.int kk i)))) off k) kn cs) (oupd l i f) := fun b hb => by
  unfold oupd idx at hb
  split at hb
  · obtain ⟨a, ha, rfl⟩ := Option.map_eq_some_iff.1 hb
    simp only [setV, setN, natOf, List.getElem?_map, ha, Option.map_some, Option.bind_some, if_true, hf, List.map_set]
  · cases hb
end
end Go.Proofs.YtgfleiknigjnbaaDoor.Ty
