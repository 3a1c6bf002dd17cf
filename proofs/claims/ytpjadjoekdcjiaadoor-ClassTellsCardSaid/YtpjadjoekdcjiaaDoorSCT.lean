/- ClassTells, as it is read: no memory in sight. -/
import Derived.Test.YtpjadjoekdcjiaaDoorSLoops
import Derived.Test.YtpjadjoekdcjiaaDoorTyN
import Derived.Test.YtpjadjoekdcjiaaDoorTyA
import Derived.Test.YtpjadjoekdcjiaaDoorSNet0
import Derived.Test.YtpjadjoekdcjiaaDoorSNet2
namespace Go.Proofs.YtpjadjoekdcjiaaDoor.Ty
open Go Go.RowKit Go.Proofs.YtpjadjoekdcjiaaDoor.Den
set_option linter.unusedSimpArgs false
set_option linter.unusedVariables false
set_option maxRecDepth 100000

section
variable {α β γ σ : Type}
theorem goI_map {step : Int → α → List γ → (List γ → Option β) → Option β} {fin : List γ → Option β} {f : α → γ} {B : Nat} : ∀ (l : List α) (i : Int) (s : List γ), s.length + l.length ≤ B → (∀ x ∈ l, ∀ i s k, s.length + 1 ≤ B → step i x s k = k (s ++ [f x])) → goI step fin i l s = fin (s ++ l.map f)
  | [], i, s, _, _ => by simp [goI]
  | x :: l, i, s, hb, h => by
    simp only [List.length_cons] at hb
    rw [goI, h x (by simp) i s _ (by omega), goI_map l (i + 1) (s ++ [f x]) (by simp; omega) fun y hy => h y (by simp [hy])]
    simp
theorem goU_seq {step : Int → σ → (σ → Option β) → Option β} {fin : Int → σ → Option β} (f : Nat → σ) {n : Nat} (h : ∀ (j : Nat) k, j < n → step (j : Int) (f j) k = k (f (j + 1))) : ∀ (m j : Nat), j + m ≤ n → goU step fin m (j : Int) (f j) = fin ((j + m : Nat) : Int) (f (j + m))
  | 0, j, _ => by simp [goU]
  | m + 1, j, hm => by
    rw [goU, h j _ (by omega)]
    have e : (j : Int) + 1 = ((j + 1 : Nat) : Int) := by omega
    rw [e, goU_seq f h m (j + 1) (by omega)]
    have e2 : j + 1 + m = j + (m + 1) := by omega
    rw [e2]
theorem goU_fold {step : Int → σ → (σ → Option β) → Option β} {fin : Int → σ → Option β} {l : List α} {f : σ → α → σ} (h : ∀ (j : Nat) x s k, l[j]? = some x → step (j : Int) s k = k (f s x)) : ∀ (m i : Nat) (s : σ), i + m = l.length → goU step fin m (i : Int) s = fin ((i + m : Nat) : Int) ((l.drop i).foldl f s)
  | 0, i, s, hm => by rw [List.drop_eq_nil_of_le (by omega)]; simp [goU]
  | m + 1, i, s, hm => by
    have hi : i < l.length := by omega
    rw [goU, h i l[i] s _ (List.getElem?_eq_getElem hi), List.drop_eq_getElem_cons hi, List.foldl_cons]
    have e : (i : Int) + 1 = ((i + 1 : Nat) : Int) := by omega
    rw [e, goU_fold h m (i + 1) _ (by omega)]
    have e2 : i + 1 + m = i + (m + 1) := by omega
    rw [e2]
/-- the first that has p, counted from i on -/
def fx (p : α → Bool) : List α → Nat → Int
  | [], _ => -1
  | x :: l, i => if p x = true then (i : Int) else fx p l (i + 1)
theorem fx_map (p : γ → Bool) (f : α → γ) : ∀ (l : List α) (i : Nat), fx p (l.map f) i = fx (fun x => p (f x)) l i
  | [], _ => rfl
  | x :: l, i => by simp only [List.map_cons, fx, fx_map p f l]
theorem fx_cong {p q : α → Bool} : ∀ {l : List α} {i : Nat}, (∀ x ∈ l, p x = q x) → fx p l i = fx q l i
  | [], _, _ => rfl
  | x :: l, i, h => by simp only [fx, h x (by simp), fx_cong (l := l) fun y hy => h y (by simp [hy])]
theorem fx_at {p : α → Bool} : ∀ {l : List α} {i : Nat}, (fx p l i < 0 ∧ ∀ x ∈ l, p x = false) ∨ ∃ j x, fx p l i = ((i + j : Nat) : Int) ∧ l[j]? = some x ∧ p x = true ∧ ∀ k y, k < j → l[k]? = some y → p y = false
  | [], i => .inl ⟨by simp [fx], by simp⟩
  | x :: l, i => by
    by_cases h : p x = true
    · refine .inr ⟨0, x, by simp [fx, h], by simp, h, fun k y hk => by omega⟩
    · have h' : p x = false := by simpa using h
      rcases fx_at (p := p) (l := l) (i := i + 1) with ⟨h1, h2⟩ | ⟨j, y, h1, h2, h3, h4⟩
      · refine .inl ⟨by simp [fx, h', h1], fun y hy => ?_⟩
        rcases List.mem_cons.1 hy with rfl | hy
        · exact h'
        · exact h2 y hy
      · refine .inr ⟨j + 1, y, by simp only [fx, h', Bool.false_eq_true, if_false, h1]; congr 1; omega, by simpa using h2, h3, fun k z hk hz => ?_⟩
        cases k with
        | zero => simp at hz; rw [← hz]; exact h'
        | succ k => exact h4 k z (by omega) (by simpa using hz)
end
theorem eqLoop {step : Int → Int → Unit → (Unit → Option Bool) → Option Bool} {fin : Unit → Option Bool} (b : List Int) (hf : fin () = some true) (hs : ∀ (i : Nat) x k r, b[i]? = some r → step (i : Int) x () k = if decide (x ≠ r) = true then some false else k ()) :
    ∀ (a : List Int) (i : Nat), i + a.length = b.length → goI step fin (i : Int) a () = some (decide (a = b.drop i))
  | [], i, h => by
    rw [List.drop_eq_nil_of_le (by simp at h; omega)]
    simp [goI, hf]
  | x :: a, i, h => by
    simp only [List.length_cons] at h
    have hi : i < b.length := by omega
    rw [goI, hs i x _ _ (List.getElem?_eq_getElem hi), List.drop_eq_getElem_cons hi]
    have e : (i : Int) + 1 = ((i + 1 : Nat) : Int) := by omega
    rw [e, eqLoop b hf hs a (i + 1) (by omega)]
    by_cases hx : x = b[i]
    · simp only [List.cons.injEq, hx, true_and, ne_eq, not_true_eq_false, decide_false, Bool.false_eq_true, if_false]
    · simp only [List.cons.injEq, hx, false_and, ne_eq, not_false_eq_true, decide_true, if_true, decide_false]
theorem s_railInts (a b : List Int) (ha : (a.length : Int) ≤ maxI) : t_railsame_Ints a b = some (decide (a = b)) := by
  unfold t_railsame_Ints
  by_cases h : a.length = b.length
  · rw [if_neg (by simp [h]), join_eq, loopI_eq ha]
    have := eqLoop (step := fun (i16 : Int) x17 (s12 : Unit) k13 => (idx b i16).bind fun r26 => if (decide (x17 ≠ r26)) = true then (some false) else (k13 ())) (fin := fun _ => some true) b rfl (fun i x k r hr => by simp only [idx_nat, hr, Option.bind_some]) a 0 (by omega)
    simpa using this
  · rw [if_pos (by simp; omega)]
    have : a ≠ b := fun e => h (by rw [e])
    simp [this]
theorem s_railLists_refl (a : List (List Int)) (ha : (a.length : Int) ≤ maxI) (hc : ∀ c ∈ a, (c.length : Int) ≤ maxI) : t_railsame_Lists a a = some true := by
  unfold t_railsame_Lists
  rw [if_neg (by simp), join_eq, loopI_eq ha]
  have : ∀ (l p : List (List Int)), a = p ++ l → goI (fun (i16 : Int) x17 (s12 : Unit) k13 => (idx a i16).bind fun r26 => (t_railsame_Ints x17 r26).bind fun r29 => if (!r29) = true then (some false) else (k13 ())) (fun _ => some true) (p.length : Int) l () = some true := by
    intro l
    induction l with
    | nil => intro p _; rfl
    | cons x l ih =>
      intro p hp
      have hx : a[p.length]? = some x := by rw [hp]; simp
      rw [goI, idx_nat, hx]
      simp only [Option.bind_some]
      rw [s_railInts x x (hc x (List.mem_of_getElem? hx))]
      simp only [Option.bind_some, decide_true, Bool.not_true, Bool.false_eq_true, if_false]
      have := ih (p ++ [x]) (by rw [hp]; simp)
      simp only [List.length_append, List.length_singleton] at this
      have e : (p.length : Int) + 1 = ((p.length + 1 : Nat) : Int) := by omega
      rw [e]; exact this
  exact this a [] rfl
theorem s_EqualInts (a b : List Int) (ha : (a.length : Int) ≤ maxI) : t_slices_Equal_int_int a b = some (decide (a = b)) := by
  unfold t_slices_Equal_int_int
  by_cases h : a.length = b.length
  · rw [if_neg (by simp [h]), join_eq, loopI_eq ha]
    have := eqLoop (step := fun (i17 : Int) x18 (s13 : Unit) k14 => (idx b i17).bind fun r26 => if (decide (x18 ≠ r26)) = true then (some false) else (k14 ())) (fin := fun _ => some true) b rfl (fun i x k r hr => by simp only [idx_nat, hr, Option.bind_some]) a 0 (by omega)
    simpa using this
  · rw [if_pos (by simp; omega)]
    have : a ≠ b := fun e => h (by rw [e])
    simp [this]
theorem s_ContainsInt (l : List Int) (x : Int) (hl : (l.length : Int) ≤ maxI) : t_slices_Contains_int_int l x = some (decide (x ∈ l)) := by
  unfold t_slices_Contains_int_int t_slices_Index_int_int
  rw [join_eq, loopI_eq hl]
  have : ∀ (l : List Int) (i : Int), 0 ≤ i → ∃ j, goI (fun (i13 : Int) x14 (s9 : Unit) k10 => if (decide (x = x14)) = true then (some i13) else (k10 ())) (fun _ => some (-1 : Int)) i l () = some j ∧ (0 ≤ j ↔ x ∈ l) := by
    intro l
    induction l with
    | nil => intro i _; exact ⟨-1, rfl, by simp⟩
    | cons y l ih =>
      intro i hi
      rw [goI]
      by_cases h : x = y
      · exact ⟨i, by simp [h], by simp [h, hi]⟩
      · obtain ⟨j, h1, h2⟩ := ih (i + 1) (by omega)
        exact ⟨j, by rw [if_neg (by simpa using h)]; exact h1, by simp [h, h2]⟩
  obtain ⟨j, h1, h2⟩ := this l 0 (Int.le_refl _)
  rw [h1]
  simp only [Option.bind_some, h2]
/-- the least -/
def minL : List Int → Int
  | [] => 0
  | x :: l => l.foldl min x
theorem minLoop (l : List Int) (m : Nat) (x : Int) (hm : 1 + m = l.length) : goU (fun (i22 : Int) (s18 : Int) k19 => (idx l i22).bind fun r31 => k19 (min s18 r31)) (fun (i22 : Int) (s18 : Int) => some (s18)) m ((1 : Nat) : Int) x = some ((l.drop 1).foldl min x) := by
  rw [goU_fold (l := l) (f := fun s x => min s x) (fun j y s k hy => by simp only [idx_nat, hy, Option.bind_some]) m 1 x hm]
theorem minL_eq {l : List Int} {x : Int} (h : l[0]? = some x) : (l.drop 1).foldl min x = minL l := by
  cases l with
  | nil => simp at h
  | cons y r => simp at h; subst h; rfl
theorem s_MinInt (l : List Int) (hl : (l.length : Int) ≤ maxI) (h0 : l ≠ []) : t_slices_Min_int_int l = some (minL l) := by
  have hlen : 0 < l.length := List.length_pos_iff.2 h0
  have hx := List.getElem?_eq_getElem hlen
  generalize l[0] = x at hx
  have hm := minLoop l (l.length - 1) x (by omega)
  have e : ((l.length : Int) - 1).toNat = l.length - 1 := by omega
  unfold t_slices_Min_int_int
  rw [if_neg (by simp only [decide_eq_true_eq]; omega)]
  simp only [Option.bind_some]
  have hi : idx l 0 = some x := by rw [← hx]; exact idx_nat (i := 0)
  rw [hi]
  simp only [Option.bind_some]
  rw [loopU_eq (by decide) hl, bind_some_id, e, ← minL_eq hx]
  exact hm

noncomputable def findV (t : List T_Rule) (h : Int) : Int := (t_rule_Find t h).getD 0
theorem s_findV (t : List T_Rule) (ht : t.length ≤ 12) (h : Int) : t_rule_Find t h = some (findV t h) := by
  obtain ⟨i, h1, _⟩ := s_Find t h ht
  unfold findV; rw [h1]; rfl
noncomputable def pathV (tabs : List (List T_Rule)) (h : Int) : List Int := tabs.map fun t => findV t h
theorem s_path (tabs : List (List T_Rule)) (hT : ∀ t ∈ tabs, t.length ≤ 12) (hl : tabs.length ≤ 1000) (h : Int) : t_class_path tabs h = some (pathV tabs h) := by
  have hM : maxI = 9223372036854775807 := rfl
  unfold t_class_path
  rw [loopI_eq (by omega), bind_some_id, goI_map (f := fun t => findV t h) (B := 1000) tabs 0 [] (by simp; omega) fun x hx i s k hs => by
    rw [s_findV x (hT x hx), Option.bind_some, app_eq (by simp; omega), Option.bind_some]]
  rfl
/-- the first header of a class -/
def hd0 (c : List Int) : Int := c.headD 0
noncomputable def same (tabs : List (List T_Rule)) (h : Int) (c : List Int) : Bool := decide (pathV tabs (hd0 c) = pathV tabs h)
theorem s_classes1 (tabs : List (List T_Rule)) (hT : ∀ t ∈ tabs, t.length ≤ 12) (hl : tabs.length ≤ 1000) (h : Int) (c : List Int) (hc : c ≠ []) : t_class_classes_1 c tabs h = some (same tabs h c) := by
  have hM : maxI = 9223372036854775807 := rfl
  obtain ⟨x, r, rfl⟩ := List.exists_cons_of_ne_nil hc
  unfold t_class_classes_1
  rw [show idx (x :: r) 0 = some x from rfl, Option.bind_some, s_path tabs hT hl x, Option.bind_some, s_path tabs hT hl h, Option.bind_some, s_EqualInts _ _ (by simp only [pathV, List.length_map]; omega)]
  rfl
theorem fxLoop {p : List Int → Bool} {g : List Int → Option Bool} : ∀ (l : List (List Int)) (i : Nat), (∀ c ∈ l, g c = some (p c)) → goI (fun (i13 : Int) x14 (s9 : Unit) k10 => (g x14).bind fun r22 => if r22 = true then (some i13) else (k10 ())) (fun (s9 : Unit) => some (-1 : Int)) (i : Int) l () = some (fx p l i)
  | [], i, _ => rfl
  | c :: l, i, h => by
    rw [goI, h c (by simp), Option.bind_some, fx]
    have e : (i : Int) + 1 = ((i + 1 : Nat) : Int) := by omega
    rw [e]
    by_cases hp : p c = true
    · rw [if_pos hp, if_pos hp]
    · rw [if_neg hp, if_neg hp]
      exact fxLoop l (i + 1) fun d hd => h d (by simp [hd])
theorem s_IndexLL {p : List Int → Bool} {g : List Int → Option Bool} (l : List (List Int)) (hl : (l.length : Int) ≤ maxI) (h : ∀ c ∈ l, g c = some (p c)) : t_slices_IndexFunc_int_int l g = some (fx p l 0) := by
  unfold t_slices_IndexFunc_int_int
  rw [join_eq, loopI_eq hl]
  exact fxLoop l 0 h
/-- one header more -/
noncomputable def clsStep (tabs : List (List T_Rule)) (out : List (List Int)) (h : Int) : List (List Int) :=
  if fx (same tabs h) out 0 < 0 then out ++ [[h]] else out.set (fx (same tabs h) out 0).toNat (out.getD (fx (same tabs h) out 0).toNat [] ++ [h])
noncomputable def clsN (tabs : List (List T_Rule)) : Nat → List (List Int)
  | 0 => []
  | n + 1 => clsStep tabs (clsN tabs n) (n : Int)
theorem oapp_eq {α : Type} {l m : List α} (h0 : 0 < m.length) (h : l.length + m.length ≤ 4294967296) : oapp l m = some (l ++ m) := if_pos ⟨h0, h⟩
theorem oset_eq {α : Type} {l : List α} {i : Int} {y : α} (h0 : 0 ≤ i) (h1 : i < l.length) : oset l i y = some (l.set i.toNat y) := if_pos ⟨h0, h1⟩
structure InvC (n : Nat) (out : List (List Int)) : Prop where
  len : out.length ≤ n
  ne : ∀ c ∈ out, c ≠ []
  cl : ∀ c ∈ out, c.length ≤ n
theorem fx_in {tabs : List (List T_Rule)} {h : Int} {out : List (List Int)} (hp : ¬ fx (same tabs h) out 0 < 0) : ∃ j : Nat, fx (same tabs h) out 0 = (j : Int) ∧ ∃ hj : j < out.length, same tabs h out[j] = true ∧ (∀ k y, k < j → out[k]? = some y → same tabs h y = false) := by
  rcases fx_at (p := same tabs h) (l := out) (i := 0) with ⟨h1, _⟩ | ⟨j, x, h1, h2, h3, h4⟩
  · exact absurd h1 hp
  · obtain ⟨hj, rfl⟩ := List.getElem?_eq_some_iff.1 h2
    exact ⟨j, by rw [h1, Nat.zero_add], hj, h3, h4⟩
theorem inv_step {tabs : List (List T_Rule)} {h : Int} {n : Nat} {out : List (List Int)} (hI : InvC n out) : InvC (n + 1) (clsStep tabs out h) := by
  unfold clsStep
  split
  · refine ⟨by simp; have := hI.len; omega, fun c hc => ?_, fun c hc => ?_⟩
    · rcases List.mem_append.1 hc with h | h
      · exact hI.ne c h
      · simp at h; subst h; simp
    · rcases List.mem_append.1 hc with h | h
      · have := hI.cl c h; omega
      · simp at h; subst h; simp
  · rename_i hp
    obtain ⟨j, e, hj, _⟩ := fx_in hp
    rw [e]
    refine ⟨by rw [List.length_set]; have := hI.len; omega, fun c hc => ?_, fun c hc => ?_⟩
    · rcases List.mem_or_eq_of_mem_set hc with h | h
      · exact hI.ne c h
      · rw [h]; simp
    · rcases List.mem_or_eq_of_mem_set hc with h | h
      · have := hI.cl c h; omega
      · rw [h]
        have := hI.cl out[j] (List.getElem_mem hj)
        simp [hj]; omega
theorem clsN_inv (tabs : List (List T_Rule)) : ∀ n, InvC n (clsN tabs n)
  | 0 => ⟨by simp [clsN], by simp [clsN], by simp [clsN]⟩
  | n + 1 => inv_step (clsN_inv tabs n)
theorem s_classes (tabs : List (List T_Rule)) (hT : ∀ t ∈ tabs, t.length ≤ 12) (hl : tabs.length ≤ 1000) : t_class_classes tabs = some (clsN tabs 16) := by
  have hM : maxI = 9223372036854775807 := rfl
  unfold t_class_classes
  rw [loopU_eq (by decide) (by decide), bind_some_id]
  refine (goU_seq (n := 16) (clsN tabs) (fun j k hj => ?_) 16 0 (by omega)).trans rfl
  have hI := clsN_inv tabs j
  have hlen := hI.len
  generalize hs : clsN tabs j = s at hI hlen ⊢
  rw [s_IndexLL s (by omega) fun c hc => s_classes1 tabs hT hl (j : Int) c (hI.ne c hc)]
  simp only [Option.bind_some]
  have hstep : clsN tabs (j + 1) = clsStep tabs s (j : Int) := by rw [← hs]; rfl
  rw [hstep]
  unfold clsStep
  by_cases hp : fx (same tabs (j : Int)) s 0 < 0
  · rw [if_pos (by simpa using hp), if_pos hp, oapp_eq (by simp) (by simp; omega)]
    rfl
  · obtain ⟨i, e, hi, _⟩ := fx_in hp
    have hcl := hI.cl s[i] (List.getElem_mem hi)
    rw [if_neg (by simpa using hp), if_neg hp, e, need_pos (by simp; omega), idx_nat, List.getElem?_eq_getElem hi]
    simp only [Option.bind_some]
    rw [oapp_eq (by simp) (by simp; omega), Option.bind_some, need_pos (by simp; omega), oset_eq (by omega) (by omega)]
    simp [hi]

theorem s_rPath (tabs : List (List T_Rule)) (hG : ∀ t ∈ tabs, t.length ≤ 12 ∧ ∀ r ∈ t, r.chk = 0) (hl : tabs.length ≤ 1000) (h : Int) (hh : 0 ≤ h ∧ h < 16) : t_railref1_Path tabs h = some (pathV tabs h) := by
  have hM : maxI = 9223372036854775807 := rfl
  unfold t_railref1_Path
  rw [loopI_eq (by omega), bind_some_id, goI_map (f := fun t => findV t h) (B := 1000) tabs 0 [] (by simp; omega) fun x hx i s k hs => by
    rw [s_rFind x (hG x hx).2 h hh, s_findV x (hG x hx).1, Option.bind_some, app_eq (by simp; omega), Option.bind_some]]
  rfl
/-- two paths, one by one -/
theorem cmpLoop {seen : List (List Int)} {j : Int} {q : List Int} (hq : idx seen j = some q) : ∀ (p : List Int) (k : Nat) (b : Bool), k + p.length = q.length →
    goI (fun (i97 : Int) x98 (s93 : Bool) k94 => (gd s93 default (idx seen j)).bind fun r121 => (gd s93 default (idx r121 i97)).bind fun r130 => k94 (s93 && (decide (x98 = r130)))) (fun (s93 : Bool) => some (seen, s93)) (k : Int) p b = some (seen, b && decide (p = q.drop k))
  | [], k, b, h => by
    rw [List.drop_eq_nil_of_le (by simp at h; omega)]
    simp [goI]
  | x :: p, k, b, h => by
    simp only [List.length_cons] at h
    have hk : k < q.length := by omega
    have e : (k : Int) + 1 = ((k + 1 : Nat) : Int) := by omega
    rw [goI, e]
    have ih := cmpLoop hq p (k + 1) (b && decide (x = q[k])) (by omega)
    have hd : q.drop k = q[k] :: q.drop (k + 1) := List.drop_eq_getElem_cons hk
    cases b with
    | false =>
      simp only [gd_false, Option.bind_some, Bool.false_and] at ih ⊢
      exact ih
    | true =>
      simp only [gd_true, hq, Option.bind_some, idx_nat, List.getElem?_eq_getElem hk, Bool.true_and] at ih ⊢
      rw [ih, hd]
      simp only [List.cons.injEq, Bool.decide_and]
noncomputable def clF (p : List Int) (k61 : List (List Int) × Int × Int → Option (List (List Int) × Int)) (s60 : List (List Int) × Int × Int) : Option (List (List Int) × Int) :=
 if ((decide (s60.2.2 < (List.length s60.1 : Int))) && (decide (s60.2.1 < 0))) = true then (
 ((loopI p (fun (i97 : Int) x98 (s93 : Bool) k94 =>
 (gd s93 default (idx s60.1 s60.2.2)).bind fun r121 =>
 (gd s93 default (idx r121 i97)).bind fun r130 =>
 k94 (s93 && (decide (x98 = r130)))) (fun (s93 : Bool) =>
 some (s60.1, s93)) (true)).bind fun (s82 : ((List (List Int)) × Bool)) =>
 (if s82.2 = true then (
 some (s82.1, s60.2.2)) else (
 some (s82.1, s60.2.1))).bind fun (s87 : ((List (List Int)) × Int)) =>
 some (s87.1, s87.2)).bind fun (s76 : ((List (List Int)) × Int)) =>
 k61 (s76.1, s76.2, (wr (s60.2.2 + 1)))) else (
 some (s60.1, s60.2.1))
theorem clF_run {p : List Int} (hp : (p.length : Int) ≤ maxI) {seen : List (List Int)} (hs : seen.length ≤ 100) (hl : ∀ q ∈ seen, q.length = p.length) : ∀ (l pre : List (List Int)) (N : Nat), seen = pre ++ l → l.length + 2 ≤ N → tfix (clF p) N (seen, (-1 : Int), (pre.length : Int)) = some (seen, fx (fun q => decide (p = q)) l pre.length)
  | [], pre, N, he, hN => by
    obtain ⟨N, rfl⟩ : ∃ M, N = M + 1 := ⟨N - 1, by omega⟩
    have : seen.length = pre.length := by rw [he]; simp
    show clF p (tfix (clF p) N) _ = _
    unfold clF
    rw [if_neg (by simp; omega)]
    rfl
  | q :: l, pre, N, he, hN => by
    obtain ⟨N, rfl⟩ : ∃ M, N = M + 1 := ⟨N - 1, by omega⟩
    simp only [List.length_cons] at hN
    have hlen : seen.length = pre.length + (l.length + 1) := by rw [he]; simp
    have hq : idx seen (pre.length : Int) = some q := by rw [idx_nat, he]; simp
    have hql := hl q (by rw [he]; simp)
    have hc := cmpLoop hq p 0 true (by omega)
    show clF p (tfix (clF p) N) _ = _
    unfold clF
    rw [if_pos (by simp; omega), loopI_eq hp]
    have hc' : goI (fun (i97 : Int) x98 (s93 : Bool) k94 => (gd s93 default (idx seen (pre.length : Int))).bind fun r121 => (gd s93 default (idx r121 i97)).bind fun r130 => k94 (s93 && (decide (x98 = r130)))) (fun (s93 : Bool) => some (seen, s93)) 0 p true = some (seen, decide (p = q)) := by
      have := hc
      simp only [Bool.true_and, List.drop_zero] at this
      exact this
    rw [hc']
    simp only [Option.bind_some]
    rw [wr_id (by omega) (by omega), fx]
    by_cases hpq : p = q
    · rw [if_pos (by simpa using hpq), if_pos (by simpa using hpq)]
      simp only [Option.bind_some]
      obtain ⟨N, rfl⟩ : ∃ M, N = M + 1 := ⟨N - 1, by omega⟩
      show clF p (tfix (clF p) N) _ = _
      unfold clF
      rw [if_neg (by simp)]
    · rw [if_neg (by simpa using hpq), if_neg (by simpa using hpq)]
      simp only [Option.bind_some]
      have := clF_run hp hs hl l (pre ++ [q]) N (by rw [he]; simp) (by omega)
      simp only [List.length_append, List.length_singleton] at this
      have e : (pre.length : Int) + 1 = ((pre.length + 1 : Nat) : Int) := by omega
      rw [e]; exact this
noncomputable def heads (tabs : List (List T_Rule)) (out : List (List Int)) : List (List Int) := out.map fun c => pathV tabs (hd0 c)
theorem heads_step {tabs : List (List T_Rule)} {out : List (List Int)} {n : Nat} (hI : InvC n out) (h : Int) : heads tabs (clsStep tabs out h) = if fx (same tabs h) out 0 < 0 then heads tabs out ++ [pathV tabs h] else heads tabs out := by
  unfold clsStep heads
  split
  · simp [hd0]
  · rename_i hp
    obtain ⟨j, e, hj, _⟩ := fx_in hp
    rw [e]
    have hne := hI.ne out[j] (List.getElem_mem hj)
    have hh : hd0 (out[j] ++ [h]) = hd0 out[j] := by
      obtain ⟨x, r, hx⟩ := List.exists_cons_of_ne_nil hne
      rw [hx]; rfl
    have hg : out.getD (j : Int).toNat [] = out[j] := by simp [List.getD, hj]
    rw [hg, List.map_set, hh]
    have : (j : Int).toNat = j := by omega
    rw [this]
    apply List.ext_getElem?
    intro i
    rw [List.getElem?_set]
    split
    · rename_i e; subst e; simp [hj]
    · rfl
theorem s_rClasses (tabs : List (List T_Rule)) (hG : ∀ t ∈ tabs, t.length ≤ 12 ∧ ∀ r ∈ t, r.chk = 0) (hl : tabs.length ≤ 1000) : t_railref1_Classes tabs = some (clsN tabs 16) := by
  have hM : maxI = 9223372036854775807 := rfl
  unfold t_railref1_Classes
  rw [loopU_eq (by decide) (by decide), bind_some_id, show ((16 : Int) - 0).toNat = 16 from rfl]
  have h0 : (([] : List (List Int)), ([] : List (List Int))) = (fun n => (clsN tabs n, heads tabs (clsN tabs n))) 0 := rfl
  rw [h0]
  refine (goU_seq (n := 16) (fun n => (clsN tabs n, heads tabs (clsN tabs n))) (fun j k hj => ?_) 16 0 (by omega)).trans (by simp only [Nat.zero_add])
  have hI := clsN_inv tabs j
  have hlen := hI.len
  have hst := heads_step (tabs := tabs) hI (j : Int)
  generalize hs : clsN tabs j = s at hI hlen hst ⊢
  rw [s_rPath tabs hG hl (j : Int) ⟨by omega, by omega⟩]
  simp only [Option.bind_some]
  have hrun := clF_run (p := pathV tabs (j : Int)) (by simp only [pathV, List.length_map]; omega) (seen := heads tabs s) (by simp only [heads, List.length_map]; omega) (fun q hq => by
    obtain ⟨c, _, rfl⟩ := List.mem_map.1 hq
    simp only [pathV, List.length_map]) (heads tabs s) [] bigN rfl (by simp only [heads, List.length_map]; have := bigN_gt; omega)
  have hfx : fx (fun q => decide (pathV tabs (j : Int) = q)) (heads tabs s) ([] : List (List Int)).length = fx (same tabs (j : Int)) s 0 := by
    unfold heads
    rw [fx_map]
    exact fx_cong fun c _ => by unfold same; simp only [eq_comm]
  rw [hfx] at hrun
  have hrun2 : tfix (fun k61 (s60 : ((List (List Int)) × Int × Int)) =>
      if ((decide (s60.2.2 < (List.length s60.1 : Int))) && (decide (s60.2.1 < 0))) = true then (
      ((loopI (pathV tabs (j : Int)) (fun (i97 : Int) x98 (s93 : Bool) k94 =>
      (gd s93 default (idx s60.1 s60.2.2)).bind fun r121 =>
      (gd s93 default (idx r121 i97)).bind fun r130 =>
      k94 (s93 && (decide (x98 = r130)))) (fun (s93 : Bool) =>
      some (s60.1, s93)) (true)).bind fun (s82 : ((List (List Int)) × Bool)) =>
      (if s82.2 = true then (
      some (s82.1, s60.2.2)) else (
      some (s82.1, s60.2.1))).bind fun (s87 : ((List (List Int)) × Int)) =>
      some (s87.1, s87.2)).bind fun (s76 : ((List (List Int)) × Int)) =>
      k61 (s76.1, s76.2, (wr (s60.2.2 + 1)))) else (
      some (s60.1, s60.2.1))) bigN (heads tabs s, (-1 : Int), 0) = some (heads tabs s, fx (same tabs (j : Int)) s 0) := hrun
  rw [hrun2]
  simp only [Option.bind_some]
  have hstep : clsN tabs (j + 1) = clsStep tabs s (j : Int) := by rw [← hs]; rfl
  rw [hstep, hst]
  unfold clsStep
  by_cases hp : fx (same tabs (j : Int)) s 0 < 0
  · rw [if_pos (by simpa using hp), if_pos hp, if_pos hp, app_eq (by simp [heads]; omega), Option.bind_some, oapp_eq (by simp) (by simp; omega)]
    rfl
  · obtain ⟨i, e, hi, _⟩ := fx_in hp
    have hcl := hI.cl s[i] (List.getElem_mem hi)
    rw [if_neg (by simpa using hp), if_neg hp, if_neg hp, e, need_pos (by simp; omega), idx_nat, List.getElem?_eq_getElem hi]
    simp only [Option.bind_some]
    rw [oapp_eq (by simp) (by simp; omega), Option.bind_some, need_pos (by simp; omega), oset_eq (by omega) (by omega)]
    simp [hi]
/-! the one for all of a class -/
noncomputable def repV (l : List (List Int)) (h : Int) : Int × Int := match l.find? fun c => decide (h ∈ c) with
  | some c => (minL c, 0)
  | none => (0, 5)
theorem s_Rep (l : List (List Int)) (h : Int) (hl : (l.length : Int) ≤ maxI) (hc : ∀ c ∈ l, (c.length : Int) ≤ maxI) : t_class_Rep l h = some (repV l h) := by
  unfold t_class_Rep
  rw [join_eq, loopI_eq hl]
  have : ∀ (m : List (List Int)) (i : Int), (∀ c ∈ m, (c.length : Int) ≤ maxI) → goI (fun (i14 : Int) x15 (s10 : Unit) k11 => (t_slices_Contains_int_int x15 h).bind fun r23 => if r23 = true then ((t_slices_Min_int_int x15).bind fun r26 => some (r26, 0)) else (k11 ())) (fun (s10 : Unit) => some ((0 : Int), (5 : Int))) i m () = some (repV m h) := by
    intro m
    induction m with
    | nil => intro i _; rfl
    | cons c m ih =>
      intro i hm
      have hcl := hm c (by simp)
      rw [goI, s_ContainsInt c h hcl, Option.bind_some]
      unfold repV
      rw [List.find?_cons]
      by_cases hin : h ∈ c
      · have hne : c ≠ [] := fun e => by rw [e] at hin; simp at hin
        rw [if_pos (by simpa using hin), s_MinInt c hcl hne]
        simp [hin]
      · rw [if_neg (by simpa using hin)]
        have e : decide (h ∈ c) = false := by simpa using hin
        simp only [e]
        exact ih (i + 1) fun d hd => hm d (by simp [hd])
  exact this l 0 hc
theorem in1 (h : Int) : ∀ (c : List Int) (i e : Int), goI (fun (i209 : Int) x210 (s205 : Int) k206 => (if (decide (x210 = h)) = true then (some 0) else (some (s205))).bind fun (s225 : Int) => k206 (s225)) (fun (s205 : Int) => some (s205)) i c e = some (if h ∈ c then 0 else e)
  | [], i, e => by simp [goI]
  | x :: c, i, e => by
    rw [goI]
    by_cases hx : x = h
    · rw [if_pos (by simpa using hx), Option.bind_some]
      refine (in1 h c (i + 1) 0).trans ?_
      simp [hx]
    · rw [if_neg (by simpa using hx), Option.bind_some]
      refine (in1 h c (i + 1) e).trans ?_
      have : ¬ h = x := fun e => hx e.symm
      simp [this]
theorem in2 : ∀ (c : List Int) (i rep : Int), 1 ≤ i → goI (fun (i142 : Int) x143 (s138 : Int) k139 => if (decide ((0 : Int) = 0)) = true then ((if ((decide (i142 = 0)) || (decide (x143 < s138))) = true then (some (x143)) else (some (s138))).bind fun (s183 : Int) => k139 (s183)) else (some (s138))) (fun (s138 : Int) => some (s138)) i c rep = some (c.foldl min rep)
  | [], i, rep, _ => rfl
  | x :: c, i, rep, hi => by
    rw [goI, if_pos (by decide), List.foldl_cons]
    have hi0 : decide (i = 0) = false := by simp; omega
    rw [hi0, Bool.false_or]
    by_cases hx : x < rep
    · rw [if_pos (by simpa using hx), Option.bind_some, show min rep x = x by omega]
      exact in2 c (i + 1) x (by omega)
    · rw [if_neg (by simpa using hx), Option.bind_some, show min rep x = rep by omega]
      exact in2 c (i + 1) rep (by omega)
theorem s_rRep (h : Int) : ∀ (m : List (List Int)) (i : Int), (∀ c ∈ m, (c.length : Int) ≤ maxI) → goI (fun (i108 : Int) x109 (s104 : (Int × Int)) k105 =>
    if (decide (s104.1 ≠ 0)) = true then (
    ((loopI x109 (fun (i209 : Int) x210 (s205 : Int) k206 =>
    (if (decide (x210 = h)) = true then (
    some 0) else (
    some (s205))).bind fun (s225 : Int) =>
    k206 (s225)) (fun (s205 : Int) =>
    some (s205)) (s104.1)).bind fun (s128 : Int) =>
    (loopI x109 (fun (i142 : Int) x143 (s138 : Int) k139 =>
    if (decide (s128 = 0)) = true then (
    (if ((decide (i142 = 0)) || (decide (x143 < s138))) = true then (
    some (x143)) else (
    some (s138))).bind fun (s183 : Int) =>
    k139 (s183)) else (
    some (s138))) (fun (s138 : Int) =>
    some (s138)) (s104.2)).bind fun (s133 : Int) =>
    some (s128, s133)).bind fun (s122 : (Int × Int)) =>
    k105 (s122.1, s122.2)) else (
    some (s104.1, s104.2))) (fun (s104 : (Int × Int)) =>
    some (s104.1, s104.2)) i m (5, 0) = some ((repV m h).2, (repV m h).1)
  | [], i, _ => rfl
  | c :: m, i, hm => by
    have hcl := hm c (by simp)
    rw [goI, if_pos (by decide), loopI_eq hcl, in1, Option.bind_some, loopI_eq hcl]
    unfold repV
    rw [List.find?_cons]
    by_cases hin : h ∈ c
    · have e : decide (h ∈ c) = true := by simpa using hin
      rw [if_pos hin, e]
      have : goI (fun (i142 : Int) x143 (s138 : Int) k139 => if (decide ((0 : Int) = 0)) = true then ((if ((decide (i142 = 0)) || (decide (x143 < s138))) = true then (some (x143)) else (some (s138))).bind fun (s183 : Int) => k139 (s183)) else (some (s138))) (fun (s138 : Int) => some (s138)) 0 c 0 = some (minL c) := by
        cases c with
        | nil => simp at hin
        | cons x r =>
          rw [goI, if_pos (by decide)]
          show ((if (true || decide (x < 0)) = true then some x else some 0).bind fun s183 => goI _ _ (0 + 1) r s183) = _
          rw [Bool.true_or, if_pos rfl, Option.bind_some]
          exact in2 r (0 + 1) x (by decide)
      rw [this]
      simp only [Option.bind_some]
      cases m with
      | nil => rfl
      | cons d m => rw [goI, if_neg (by simp)]
    · have e : decide (h ∈ c) = false := by simpa using hin
      rw [if_neg hin, e]
      have : goI (fun (i142 : Int) x143 (s138 : Int) k139 => if (decide ((5 : Int) = 0)) = true then ((if ((decide (i142 = 0)) || (decide (x143 < s138))) = true then (some (x143)) else (some (s138))).bind fun (s183 : Int) => k139 (s183)) else (some (s138))) (fun (s138 : Int) => some (s138)) 0 c 0 = some 0 := by
        cases c with
        | nil => rfl
        | cons x r => rw [goI, if_neg (by decide)]
      rw [this]
      simp only [Option.bind_some]
      exact s_rRep h m (i + 1) fun d hd => hm d (by simp [hd])
/-! the law -/
theorem tabF_len {t : List T_Rule} (h : tabF t = 0) : t.length ≤ 12 := by
  unfold tabF at h
  split at h
  · cases h
  · rename_i h9; omega
theorem part_Of (a1 : List T_Rule) : ∃ w, ((if (decide (tabF a1 = 0)) = true then ((t_railref1_Classes ([a1] : (List (List T_Rule)))).bind fun r257 => some (r257)) else (some ([])) : Option (List (List Int)))) = some w ∧ t_class_Of a1 = some (w, tabF a1) ∧ t_railsame_Lists w w = some true := by
  have hM : maxI = 9223372036854775807 := rfl
  unfold t_class_Of
  rw [s_rule_Table, Option.bind_some]
  by_cases h : tabF a1 = 0
  · have hG : ∀ t ∈ [a1], t.length ≤ 12 ∧ ∀ r ∈ t, r.chk = 0 := fun t ht => by
      simp only [List.mem_singleton] at ht
      subst ht
      exact ⟨tabF_len h, tab_rules (by rw [s_rule_Table, h])⟩
    have hI := clsN_inv [a1] 16
    have hlen := hI.len
    refine ⟨clsN [a1] 16, ?_, ?_, s_railLists_refl _ (by omega) fun c hc => by have := hI.cl c hc; omega⟩
    · rw [if_pos (by simpa using h), bind_some_id, s_rClasses [a1] hG (by simp)]
    · rw [if_neg (by simpa using h), s_classes [a1] (fun t ht => (hG t ht).1) (by simp), h]; rfl
  · refine ⟨[], ?_, ?_, rfl⟩
    · rw [if_neg (by simpa using h)]
    · rw [if_pos (by simpa using h)]
theorem good_tabs {n : T_Net} (hg : netGood n) (hc : t_net_Check n = some 0) : ∀ t ∈ n.Tables, t.length ≤ 12 ∧ ∀ r ∈ t, r.chk = 0 := fun t ht => ⟨(hg.tabs t ht).1, tab_rules (net_tabs hc hg t ht)⟩
theorem part_All {a0 : T_Net} {c : Int} (hc : t_net_Check a0 = some c) (hg : c = 0 → netGood a0) : ∃ w, ((if (decide (c = 0)) = true then ((t_railref1_Classes a0.Tables).bind fun r253 => some (r253)) else (some ([])) : Option (List (List Int)))) = some w ∧ t_class_All a0 = some (w, c) ∧ t_railsame_Lists w w = some true := by
  have hM : maxI = 9223372036854775807 := rfl
  unfold t_class_All
  rw [hc, Option.bind_some]
  by_cases h : c = 0
  · subst h
    have hG := good_tabs (hg rfl) hc
    have hsw := (hg rfl).topo.sw
    have hln := (hg rfl).len
    have hI := clsN_inv a0.Tables 16
    have hlen := hI.len
    refine ⟨clsN a0.Tables 16, ?_, ?_, s_railLists_refl _ (by omega) fun c hc => by have := hI.cl c hc; omega⟩
    · rw [if_pos (by decide), bind_some_id, s_rClasses a0.Tables hG (by omega)]
    · rw [if_neg (by decide), s_classes a0.Tables (fun t ht => (hG t ht).1) (by omega)]; rfl
  · refine ⟨[], ?_, ?_, rfl⟩
    · rw [if_neg (by simpa using h)]
    · rw [if_pos (by simpa using h)]
theorem part_Path {a0 : T_Net} {c : Int} (hc : t_net_Check a0 = some c) (hg : c = 0 → netGood a0) (h : Int) : ∃ (e : Int) (w : List Int), (if ((decide (c = 0)) && (!hdr h)) = true then (some (1)) else (some (c)) : Option Int) = some e ∧ (if (decide (e = 0)) = true then ((t_railref1_Path a0.Tables h).bind fun r248 => some (r248)) else (some ([])) : Option (List Int)) = some w ∧
    t_class_Path a0 h = some (w, e) ∧ t_railsame_Ints w w = some true := by
  have hM : maxI = 9223372036854775807 := rfl
  have hP : t_class_Path a0 h = if (!decide (c = 0)) = true then some ([], c) else if (!hdr h) = true then some ([], 1) else (t_class_path a0.Tables h).bind fun r14 => some (r14, 0) := by
    unfold t_class_Path
    rw [hc, Option.bind_some, s_cube_Header, Option.bind_some]
  by_cases h0 : c = 0
  · have hG := good_tabs (hg h0) (by rw [hc, h0])
    have hsw := (hg h0).topo.sw
    have hln := (hg h0).len
    by_cases hh : hdr h = true
    · have hh2 : 0 ≤ h ∧ h < 16 := by simpa [hdr] using hh
      refine ⟨0, pathV a0.Tables h, ?_, ?_, ?_, ?_⟩
      · rw [if_neg (by simp [hh]), h0]
      · rw [if_pos (by decide), bind_some_id, s_rPath a0.Tables hG (by omega) h hh2]
      · rw [hP, if_neg (by simp [h0]), if_neg (by simp [hh]), s_path a0.Tables (fun t ht => (hG t ht).1) (by omega)]; rfl
      · rw [s_railInts _ _ (by simp only [pathV, List.length_map]; omega)]; simp
    · refine ⟨1, [], ?_, ?_, ?_, rfl⟩
      · rw [if_pos (by simp [hh, h0])]
      · rw [if_neg (by decide)]
      · rw [hP, if_neg (by simp [h0]), if_pos (by simp [hh])]
  · refine ⟨c, [], ?_, ?_, ?_, rfl⟩
    · rw [if_neg (by simp [h0])]
    · rw [if_neg (by simpa using h0)]
    · rw [hP, if_pos (by simpa using h0)]
theorem walk_ClassTells (a0 : T_Net) (a1 : List T_Rule) (a2 : List (List Int)) (a3 : Int) (u0 : a0.wf maxLen) (u1 : wL maxLen (fun x => x.wf maxLen) a1) (u2 : wL maxLen (fun x => wL maxLen (fun x => wi64 x) x) a2) (u3 : wi64 a3) : t_raillaw1_ClassTells a0 a1 a2 a3 = some true := by
  have hM : maxI = 9223372036854775807 := rfl
  have hML : maxLen = 9223372036854775807 := rfl
  have hn : ∀ h ∈ a0.Topo.Hosts, (h.Name.size : Int) ≤ maxI := fun h hh => by
    have := (u0.1.2.2.2 h hh).1
    unfold wS at this; omega
  obtain ⟨c, hc, hg⟩ := s_netCheck a0 hn
  obtain ⟨w1, p1, p2, p3⟩ := part_Of a1
  obtain ⟨w2, q1, q2, q3⟩ := part_All hc hg
  obtain ⟨e, w3, r0, r1, r2, r3⟩ := part_Path hc hg a3
  have hl2 : (a2.length : Int) ≤ maxI := by have := u2.1; omega
  have hc2 : ∀ c ∈ a2, (c.length : Int) ≤ maxI := fun c hc => by have := (u2.2 c hc).1; omega
  unfold t_raillaw1_ClassTells
  rw [s_rTable, Option.bind_some, p1, Option.bind_some, p2, Option.bind_some]
  unfold t_railsame_Error
  simp only [decide_true, Option.bind_some, p3]
  rw [s_rNet a0 hn, hc, Option.bind_some, q1, Option.bind_some, q2]
  simp only [decide_true, Option.bind_some, q3]
  rw [s_rHeader, Option.bind_some, r0, Option.bind_some, r1, Option.bind_some, r2]
  simp only [decide_true, Option.bind_some, r3]
  rw [loopI_eq hl2, s_rRep a3 a2 0 hc2, Option.bind_some, s_Rep a2 a3 hl2 hc2]
  simp
end Go.Proofs.YtpjadjoekdcjiaaDoor.Ty
