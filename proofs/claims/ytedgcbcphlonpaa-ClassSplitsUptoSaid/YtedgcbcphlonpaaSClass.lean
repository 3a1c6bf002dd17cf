/- Classes of headers, as they are read: no memory in sight. -/
import Derived.Test.YtedgcbcphlonpaaSInts
import Derived.Test.YtedgcbcphlonpaaSNet0
namespace Go.Proofs.Ytedgcbcphlonpaa.Ty
open Go Go.RowKit Go.Proofs.Ytedgcbcphlonpaa.Den
set_option linter.unusedSimpArgs false
set_option linter.unusedVariables false
set_option maxRecDepth 100000

noncomputable def findV (t : List T_Rule) (h : Int) : Int := (t_rule_Find t h).getD 0
theorem s_findV (t : List T_Rule) (ht : t.length ≤ 12) (h : Int) : t_rule_Find t h = some (findV t h) := by
  obtain ⟨i, h1, _⟩ := s_Find t h ht
  unfold findV; rw [h1]; rfl
noncomputable def pathV (tabs : List (List T_Rule)) (h : Int) : List Int := tabs.map fun t => findV t h
theorem s_path (tabs : List (List T_Rule)) (hT : ∀ t ∈ tabs, t.length ≤ 12) (hl : tabs.length ≤ 1000) (h : Int) : t_class_path tabs h = some (pathV tabs h) := by
  have hM : maxI = 9223372036854775807 := rfl
  unfold t_class_path
  rw [loopI_eq (by omega), bind_some_id, goI_map (f := fun t => findV t h) (B := 1000) tabs 0 [] (by simp; omega) fun x hx i s k hs => by
    rw [s_findV x (hT x hx), Option.bind_some, app_eq (by simp; omega), Option.bind_some]]
  rfl
/-- the first header of a class -/
def hd0 (c : List Int) : Int := c.headD 0
noncomputable def same (tabs : List (List T_Rule)) (h : Int) (c : List Int) : Bool := decide (pathV tabs (hd0 c) = pathV tabs h)
theorem s_classes1 (tabs : List (List T_Rule)) (hT : ∀ t ∈ tabs, t.length ≤ 12) (hl : tabs.length ≤ 1000) (h : Int) (c : List Int) (hc : c ≠ []) : t_class_classes_1 c tabs h = some (same tabs h c) := by
  have hM : maxI = 9223372036854775807 := rfl
  obtain ⟨x, r, rfl⟩ := List.exists_cons_of_ne_nil hc
  unfold t_class_classes_1
  rw [show idx (x :: r) 0 = some x from rfl, Option.bind_some, s_path tabs hT hl x, Option.bind_some, s_path tabs hT hl h, Option.bind_some, s_EqualInts _ _ (by simp only [pathV, List.length_map]; omega)]
  rfl
theorem fxLoop {p : List Int → Bool} {g : List Int → Option Bool} : ∀ (l : List (List Int)) (i : Nat), (∀ c ∈ l, g c = some (p c)) → goI (fun (i13 : Int) x14 (s9 : Unit) k10 => (g x14).bind fun r22 => if r22 = true then (some i13) else (k10 ())) (fun (s9 : Unit) => some (-1 : Int)) (i : Int) l () = some (fx p l i)
  | [], i, _ => rfl
  | c :: l, i, h => by
    rw [goI, h c (by simp), Option.bind_some, fx]
    have e : (i : Int) + 1 = ((i + 1 : Nat) : Int) := by omega
    rw [e]
    by_cases hp : p c = true
    · rw [if_pos hp, if_pos hp]
    · rw [if_neg hp, if_neg hp]
      exact fxLoop l (i + 1) fun d hd => h d (by simp [hd])
theorem s_IndexLL {p : List Int → Bool} {g : List Int → Option Bool} (l : List (List Int)) (hl : (l.length : Int) ≤ maxI) (h : ∀ c ∈ l, g c = some (p c)) : t_slices_IndexFunc_int_int l g = some (fx p l 0) := by
  unfold t_slices_IndexFunc_int_int
  rw [join_eq, loopI_eq hl]
  exact fxLoop l 0 h
/-- one header more -/
noncomputable def clsStep (tabs : List (List T_Rule)) (out : List (List Int)) (h : Int) : List (List Int) :=
  if fx (same tabs h) out 0 < 0 then out ++ [[h]] else out.set (fx (same tabs h) out 0).toNat (out.getD (fx (same tabs h) out 0).toNat [] ++ [h])
noncomputable def clsN (tabs : List (List T_Rule)) : Nat → List (List Int)
  | 0 => []
  | n + 1 => clsStep tabs (clsN tabs n) (n : Int)
theorem oapp_eq {α : Type} {l m : List α} (h0 : 0 < m.length) (h : l.length + m.length ≤ 4294967296) : oapp l m = some (l ++ m) := if_pos ⟨h0, h⟩
theorem oset_eq {α : Type} {l : List α} {i : Int} {y : α} (h0 : 0 ≤ i) (h1 : i < l.length) : oset l i y = some (l.set i.toNat y) := if_pos ⟨h0, h1⟩
structure InvC (n : Nat) (out : List (List Int)) : Prop where
  len : out.length ≤ n
  ne : ∀ c ∈ out, c ≠ []
  cl : ∀ c ∈ out, c.length ≤ n
theorem fx_in {tabs : List (List T_Rule)} {h : Int} {out : List (List Int)} (hp : ¬ fx (same tabs h) out 0 < 0) : ∃ j : Nat, fx (same tabs h) out 0 = (j : Int) ∧ ∃ hj : j < out.length, same tabs h out[j] = true ∧ (∀ k y, k < j → out[k]? = some y → same tabs h y = false) := by
  rcases fx_at (p := same tabs h) (l := out) (i := 0) with ⟨h1, _⟩ | ⟨j, x, h1, h2, h3, h4⟩
  · exact absurd h1 hp
  · obtain ⟨hj, rfl⟩ := List.getElem?_eq_some_iff.1 h2
    exact ⟨j, by rw [h1, Nat.zero_add], hj, h3, h4⟩
theorem inv_step {tabs : List (List T_Rule)} {h : Int} {n : Nat} {out : List (List Int)} (hI : InvC n out) : InvC (n + 1) (clsStep tabs out h) := by
  unfold clsStep
  split
  · refine ⟨by simp; have := hI.len; omega, fun c hc => ?_, fun c hc => ?_⟩
    · rcases List.mem_append.1 hc with h | h
      · exact hI.ne c h
      · simp at h; subst h; simp
    · rcases List.mem_append.1 hc with h | h
      · have := hI.cl c h; omega
      · simp at h; subst h; simp
  · rename_i hp
    obtain ⟨j, e, hj, _⟩ := fx_in hp
    rw [e]
    refine ⟨by rw [List.length_set]; have := hI.len; omega, fun c hc => ?_, fun c hc => ?_⟩
    · rcases List.mem_or_eq_of_mem_set hc with h | h
      · exact hI.ne c h
      · rw [h]; simp
    · rcases List.mem_or_eq_of_mem_set hc with h | h
      · have := hI.cl c h; omega
      · rw [h]
        have := hI.cl out[j] (List.getElem_mem hj)
        simp [hj]; omega
theorem clsN_inv (tabs : List (List T_Rule)) : ∀ n, InvC n (clsN tabs n)
  | 0 => ⟨by simp [clsN], by simp [clsN], by simp [clsN]⟩
  | n + 1 => inv_step (clsN_inv tabs n)
theorem s_classes (tabs : List (List T_Rule)) (hT : ∀ t ∈ tabs, t.length ≤ 12) (hl : tabs.length ≤ 1000) : t_class_classes tabs = some (clsN tabs 16) := by
  have hM : maxI = 9223372036854775807 := rfl
  unfold t_class_classes
  rw [loopU_eq (by decide) (by decide), bind_some_id]
  refine (goU_seq (n := 16) (clsN tabs) (fun j k hj => ?_) 16 0 (by omega)).trans rfl
  have hI := clsN_inv tabs j
  have hlen := hI.len
  generalize hs : clsN tabs j = s at hI hlen ⊢
  rw [s_IndexLL s (by omega) fun c hc => s_classes1 tabs hT hl (j : Int) c (hI.ne c hc)]
  simp only [Option.bind_some]
  have hstep : clsN tabs (j + 1) = clsStep tabs s (j : Int) := by rw [← hs]; rfl
  rw [hstep]
  unfold clsStep
  by_cases hp : fx (same tabs (j : Int)) s 0 < 0
  · rw [if_pos (by simpa using hp), if_pos hp, oapp_eq (by simp) (by simp; omega)]
    rfl
  · obtain ⟨i, e, hi, _⟩ := fx_in hp
    have hcl := hI.cl s[i] (List.getElem_mem hi)
    rw [if_neg (by simpa using hp), if_neg hp, e, need_pos (by simp; omega), idx_nat, List.getElem?_eq_getElem hi]
    simp only [Option.bind_some]
    rw [oapp_eq (by simp) (by simp; omega), Option.bind_some, need_pos (by simp; omega), oset_eq (by omega) (by omega)]
    simp [hi]
end Go.Proofs.Ytedgcbcphlonpaa.Ty
