/- RuleTells: the law. -/
import Derived.Test.YtilbgbhpdjjliaaGreatDoorSplit
import Derived.Lib.SplitLaws
import Derived.Test.YtilbgbhpdjjliaaGreatDoorTyA
import Derived.Test.YtilbgbhpdjjliaaGreatDoorSBase
import Derived.Test.YtilbgbhpdjjliaaGreatDoorPlain
import Derived.Test.YtilbgbhpdjjliaaGreatDoorTyM
import Derived.Lib.ItoaNum
import Derived.Lib.AtoiTie
import Derived.Test.YtilbgbhpdjjliaaGreatDoorNumber
import Derived.Test.YtilbgbhpdjjliaaGreatDoorVcS
namespace Go.Proofs.YtilbgbhpdjjliaaGreatDoor.Ty
open Go Go.RowKit Go.Proofs.YtilbgbhpdjjliaaGreatDoor.Den
set_option linter.unusedSimpArgs false
set_option linter.unusedVariables false
/-- cut at each c -/
def cut (c : UInt8) : List UInt8 → List (List UInt8)
  | [] => [[]]
  | b :: l => if b = c then [] :: cut c l else match cut c l with
    | w :: ws => (b :: w) :: ws
    | [] => [[b]]
/-- joined by c -/
def glue (c : UInt8) : List (List UInt8) → List UInt8
  | [] => []
  | [w] => w
  | w :: v :: ws => w ++ c :: glue c (v :: ws)
theorem cut_ne (c : UInt8) : ∀ l, cut c l ≠ []
  | [] => by simp [cut]
  | b :: l => by
    unfold cut
    split
    · simp
    · split <;> simp
theorem cut_eq (c : UInt8) : ∀ s, Lib.splitK [c] 0 (Lib.count s [c]) s = cut c s
  | [] => by rw [Lib.count_miss (by simp [Lib.index])]; rfl
  | b :: l => by
    have ih := cut_eq c l
    by_cases h : b = c
    · subst h
      have hix : Lib.index (b :: l) [b] = ((0 : Nat) : Int) := by rw [Lib.index]; simp [List.isPrefixOf]
      rw [Lib.count_cons_eq, Nat.add_comm, Lib.splitK, hix, if_neg (by decide)]
      simp only [cut, if_true]
      rw [← ih]
      simp
    · have hp : ([c] : List UInt8).isPrefixOf (b :: l) = false := by simp [List.isPrefixOf, Ne.symm h]
      have hix : Lib.index (b :: l) [c] = if Lib.index l [c] == -1 then -1 else Lib.index l [c] + 1 := by rw [Lib.index, hp]; simp
      rw [Lib.count_cons_ne b c l h]
      simp only [cut, if_neg h]
      rw [← ih]
      by_cases hm : Lib.index l [c] = -1
      · rw [Lib.count_miss hm]; rfl
      · have hge := Lib.index_ge l [c]
        obtain ⟨j, hj⟩ : ∃ j : Nat, Lib.index l [c] = j := ⟨(Lib.index l [c]).toNat, by omega⟩
        have hc := Lib.count_hit (sub := [c]) (by simp) hj
        obtain ⟨k, hk⟩ : ∃ k, Lib.count l [c] = k + 1 := ⟨_, by rw [hc, Nat.add_comm]⟩
        have hix' : Lib.index (b :: l) [c] = ((j + 1 : Nat) : Int) := by rw [hix, if_neg (fun e => hm (beq_iff_eq.1 e)), hj]; omega
        rw [hk, Lib.splitK, Lib.splitK, hix', hj, if_neg (by rw [beq_iff_eq]; omega), if_neg (by rw [beq_iff_eq]; omega)]
        simp
theorem cut_no (c : UInt8) : ∀ s, ∀ w ∈ cut c s, c ∉ w
  | [], w, hw => by simp [cut] at hw; subst hw; simp
  | b :: l, w, hw => by
    have ih := cut_no c l
    unfold cut at hw
    split at hw
    · rcases List.mem_cons.1 hw with rfl | hw
      · simp
      · exact ih w hw
    · rename_i hb
      split at hw
      · rename_i v vs e
        rcases List.mem_cons.1 hw with rfl | hw
        · have := ih v (by rw [e]; simp)
          simp only [List.mem_cons, not_or]
          exact ⟨fun h => hb h.symm, this⟩
        · exact ih w (by rw [e]; simp [hw])
      · rename_i e; exact absurd e (cut_ne c l)
theorem glue_cut (c : UInt8) : ∀ s, glue c (cut c s) = s
  | [] => rfl
  | b :: l => by
    have ih := glue_cut c l
    unfold cut
    split
    · rename_i hb
      subst hb
      cases h : cut b l with
      | nil => exact absurd h (cut_ne b l)
      | cons w ws => rw [h] at ih; show [] ++ b :: glue b (w :: ws) = _; rw [ih]; rfl
    · split
      · rename_i v vs e
        rw [e] at ih
        cases vs with
        | nil => show b :: v = b :: l; rw [show v = l from ih]
        | cons x xs => show (b :: v) ++ c :: glue c (x :: xs) = b :: l; rw [← ih]; rfl
      · rename_i e; exact absurd e (cut_ne c l)
theorem cut_word (c : UInt8) : ∀ w, c ∉ w → cut c w = [w]
  | [], _ => rfl
  | b :: w, h => by
    simp only [List.mem_cons, not_or] at h
    unfold cut
    rw [if_neg (fun e => h.1 e.symm), cut_word c w h.2]
theorem cut_app (c : UInt8) : ∀ w r, c ∉ w → cut c (w ++ c :: r) = w :: cut c r
  | [], r, _ => by simp [cut]
  | b :: w, r, h => by
    simp only [List.mem_cons, not_or] at h
    show cut c (b :: (w ++ c :: r)) = _
    rw [cut, if_neg (fun e => h.1 e.symm), cut_app c w r h.2]
theorem cut_glue (c : UInt8) : ∀ ws, ws ≠ [] → (∀ w ∈ ws, c ∉ w) → cut c (glue c ws) = ws
  | [], h, _ => absurd rfl h
  | [w], _, h => cut_word c w (h w (by simp))
  | w :: v :: ws, _, h => by
    rw [glue, cut_app c w _ (h w (by simp)), cut_glue c (v :: ws) (by simp) fun x hx => h x (by simp [hx])]
/-- what strings.Split hands back, as bytes -/
theorem split_data (s : ByteArray) (c : UInt8) : (Lib.splitB ⟨#[c]⟩ 0 (Lib.countB s ⟨#[c]⟩) s).map (·.data.toList) = cut c s.data.toList := by
  rw [Lib.splitB_data, ← cut_eq]

abbrev cf (c : T_Cube) : Int := cchk c.Mask c.Bits
abbrev hs (c : T_Cube) (h : Int) : Bool := chas c.Mask c.Bits h
theorem and_andNot' {m b : Int} (h : 0 ≤ m ∧ m < 16 ∧ 0 ≤ b ∧ b < 16) : bits .and .i64 b m = b ↔ bits .andNot .i64 b m = 0 := by
  obtain ⟨h1, h2, h3, h4⟩ := h
  obtain ⟨m, rfl⟩ := Int.eq_ofNat_of_zero_le h1
  obtain ⟨b, rfl⟩ := Int.eq_ofNat_of_zero_le h3
  have hm : m < 16 := by omega
  have hb : b < 16 := by omega
  have H : ∀ x y : Fin 16, bits .and .i64 (y.val : Int) (x.val : Int) = (y.val : Int) ↔ bits .andNot .i64 (y.val : Int) (x.val : Int) = 0 := by decide +kernel
  exact H ⟨m, hm⟩ ⟨b, hb⟩
theorem hdr_eq (k : Int) : (decide (0 ≤ k) && decide (k < 16)) = hdr k := by unfold hdr; rw [Bool.eq_iff_iff]; simp
theorem s_cube_Header (k : Int) : t_cube_Header k = some (hdr k) := by rw [t_cube_Header, hdr_eq]
theorem s_rHeader (k : Int) : t_railref1_Header k = some (hdr k) := by rw [t_railref1_Header, hdr_eq]
theorem s_cube_Check (c : T_Cube) : t_cube_Check c = some (cf c) := by
  unfold t_cube_Check cf cchk
  simp only [s_cube_Header, Option.bind_some]
  cases h1 : hdr c.Mask
  · rw [hdr_not] at h1
    simp [gd_false]
    try omega
  · cases h2 : hdr c.Bits
    · rw [hdr_not] at h2
      simp [gd_true, h2]
      try omega
    · rw [hdr_iff] at h1 h2
      rw [if_pos (show 0 ≤ c.Mask ∧ c.Mask < 16 ∧ 0 ≤ c.Bits ∧ c.Bits < 16 by omega)]
      by_cases h3 : bits .andNot .i64 c.Bits c.Mask = 0 <;> simp [gd_true, h3]
theorem s_rCube (c : T_Cube) : t_railref1_Cube c = some (cf c) := by
  unfold t_railref1_Cube cf cchk
  simp only [s_rHeader, Option.bind_some]
  cases h1 : hdr c.Mask
  · rw [hdr_not] at h1
    simp
    omega
  · cases h2 : hdr c.Bits
    · rw [hdr_not] at h2
      simp
      omega
    · rw [hdr_iff] at h1 h2
      rw [if_pos (show 0 ≤ c.Mask ∧ c.Mask < 16 ∧ 0 ≤ c.Bits ∧ c.Bits < 16 by omega)]
      have h3 := and_andNot' ⟨h1.1, h1.2, h2.1, h2.2⟩
      by_cases h : bits .andNot .i64 c.Bits c.Mask = 0 
      · simp [h, h3.2 h]
      · have : ¬ bits .and .i64 c.Bits c.Mask = c.Bits := fun z => h (h3.1 z)
        simp [h, this]

section
variable {α β σ : Type}
/-- what each end of a loop has -/
theorem goI_post {step : Int → α → σ → (σ → Option β) → Option β} {fin : σ → Option β} {Q : β → Prop} (hfin : ∀ s v, fin s = some v → Q v)
    (hstep : ∀ i x s k, (∀ s' v, k s' = some v → Q v) → ∀ v, step i x s k = some v → Q v) : ∀ (l : List α) (i : Int) (s : σ) (v : β), goI step fin i l s = some v → Q v
  | [], i, s, v, h => hfin s v h
  | x :: l, i, s, v, h => hstep i x s _ (fun s' v' h' => goI_post hfin hstep l (i + 1) s' v' h') v h
theorem loopI_post {step : Int → α → σ → (σ → Option β) → Option β} {fin : σ → Option β} (Q : β → Prop) {l : List α} {s : σ} {v : β} (h : loopI l step fin s = some v) (hfin : ∀ s v, fin s = some v → Q v)
    (hstep : ∀ i x s k, (∀ s' v, k s' = some v → Q v) → ∀ v, step i x s k = some v → Q v) : Q v := by
  unfold loopI at h
  rw [need_some] at h
  exact goI_post hfin hstep l 0 s v h.2
end
section
variable {α β σ τ : Type}
/-- two loops that go alike -/
theorem goI_sim {step : Int → α → σ → (σ → Option β) → Option β} {step' : Int → α → τ → (τ → Option β) → Option β} {fin : σ → Option β} {fin' : τ → Option β} (I : Int → List α → σ → τ → Prop) (hfin : ∀ i s t, I i [] s t → fin s = fin' t)
    (hstep : ∀ i x l s t k k', I i (x :: l) s t → (∀ s' t', I (i + 1) l s' t' → k s' = k' t') → step i x s k = step' i x t k') : ∀ (l : List α) (i : Int) (s : σ) (t : τ), I i l s t → goI step fin i l s = goI step' fin' i l t
  | [], i, s, t, h => hfin i s t h
  | x :: l, i, s, t, h => hstep i x l s t _ _ h fun s' t' h' => goI_sim I hfin hstep l (i + 1) s' t' h'
theorem loopI_sim {step : Int → α → σ → (σ → Option β) → Option β} {step' : Int → α → τ → (τ → Option β) → Option β} {fin : σ → Option β} {fin' : τ → Option β} (I : Int → List α → σ → τ → Prop) {l : List α} {s : σ} {t : τ} (h0 : I 0 l s t) (hfin : ∀ i s t, I i [] s t → fin s = fin' t)
    (hstep : ∀ i x l s t k k', I i (x :: l) s t → (∀ s' t', I (i + 1) l s' t' → k s' = k' t') → step i x s k = step' i x t k') : loopI l step fin s = loopI l step' fin' t := by
  unfold loopI; rw [goI_sim I hfin hstep l 0 s t h0]
theorem loopI_any {step : Int → α → Unit → (Unit → Option β) → Option β} {f : Option β} (p : α → Bool) {r : β} {l : List α} (hl : (l.length : Int) ≤ maxI) (h : ∀ x i k, step i x () k = if p x = true then some r else k ()) : loopI l step (fun _ => f) () = if l.any p = true then some r else f := by
  rw [loopI_eq hl, goI_any (p := p) (r := r) l 0 fun x _ i k => h x i k]
theorem goU_any {l : List α} {p : α → Bool} {r : β} {step : Int → Unit → (Unit → Option β) → Option β} {f : Option β} (h : ∀ (j : Nat) x k, l[j]? = some x → step (j : Int) () k = if p x = true then some r else k ()) : ∀ (m i : Nat), i + m ≤ l.length → goU step (fun _ _ => f) m (i : Int) () = if ((l.drop i).take m).any p = true then some r else f
  | 0, i, _ => by simp [goU]
  | m + 1, i, hm => by
    have hi : i < l.length := by omega
    rw [goU, h i l[i] _ (List.getElem?_eq_getElem hi), List.drop_eq_getElem_cons hi, List.take_succ_cons, List.any_cons]
    have e : (i : Int) + 1 = ((i + 1 : Nat) : Int) := by omega
    rw [e, goU_any h m (i + 1) (by omega)]
    cases p l[i] <;> simp
theorem loopU_any {l : List α} (p : α → Bool) {r : β} {step : Int → Unit → (Unit → Option β) → Option β} {f : Option β} {i : Int} (h0 : 0 ≤ i) (h1 : i ≤ l.length) (h2 : i ≤ maxI) (h : ∀ (j : Nat) x k, l[j]? = some x → step (j : Int) () k = if p x = true then some r else k ()) : loopU 0 i step (fun _ _ => f) () = if (l.take i.toNat).any p = true then some r else f := by
  rw [loopU_eq (Int.le_refl 0) h2, Int.sub_zero]
  have := goU_any (f := f) h i.toNat 0 (by omega)
  simpa using this
end
section
variable {K α : Type} [DecidableEq K]
theorem mfind_off : ∀ (l : List (K × α)) (a : K) (i : Nat), mfind l a i = (mfind l a 0).map fun p => (p.1 + i, p.2)
  | [], _, _ => rfl
  | (b, u) :: r, a, i => by
    simp only [mfind]
    split
    · simp
    · rw [mfind_off r a (i + 1), mfind_off r a (0 + 1)]
      cases mfind r a 0 with
      | none => rfl
      | some p => simp; omega
theorem mget_cons (b : K) (u : α) (r : List (K × α)) (a : K) (d : α) : mget ((b, u) :: r) a d = if a = b then u else mget r a d := by
  unfold mget
  simp only [mfind]
  by_cases h : a = b
  · simp [h]
  · rw [if_neg h, if_neg h, mfind_off r a (0 + 1)]
    cases mfind r a 0 <;> rfl
theorem mput_cons (b : K) (u : α) (r : List (K × α)) (a : K) (v : α) : mput ((b, u) :: r) a v = if a = b then (a, v) :: r else (b, u) :: mput r a v := by
  unfold mput
  simp only [mfind]
  by_cases h : a = b
  · simp [h]
  · rw [if_neg h, if_neg h, mfind_off r a (0 + 1)]
    cases mfind r a 0 <;> simp
theorem mget_mput : ∀ (l : List (K × α)) (a : K) (v : α) (b : K) (d : α), mget (mput l a v) b d = if b = a then v else mget l b d
  | [], a, v, b, d => by
    show mget ([(a, v)]) b d = _
    rw [mget_cons]
  | (c, u) :: r, a, v, b, d => by
    rw [mput_cons]
    by_cases h : a = c
    · subst h
      rw [if_pos rfl, mget_cons, mget_cons]
      split <;> rfl
    · rw [if_neg h, mget_cons, mget_cons, mget_mput r a v b d]
      by_cases h2 : b = c
      · subst h2
        rw [if_pos rfl, if_neg (fun e => h e.symm), if_pos rfl]
      · rw [if_neg h2, if_neg h2]
omit [DecidableEq K] in
theorem any_two (p q : K → Bool) : ∀ l : List K, (l.any fun y => p y || q y) = (l.any p || l.any q)
  | [] => rfl
  | x :: l => by
    rw [List.any_cons, List.any_cons, List.any_cons, any_two p q l]
    cases p x <;> cases q x <;> cases l.any p <;> rfl
theorem any_is (l : List K) (a : K) : (l.any fun y => decide (y = a)) = decide (a ∈ l) := by
  rw [Bool.eq_iff_iff]
  simp
end


theorem decFrom_snoc (c : UInt8) : ∀ (l : List UInt8) (acc : Nat), Lib.decFrom acc (l ++ [c]) = (Lib.decFrom acc l).bind fun k => (Lib.digitVal c).map fun d => k * 10 + d
  | [], acc => by
    simp only [List.nil_append, Lib.decFrom, Option.bind_some]
    cases Lib.digitVal c <;> rfl
  | a :: l, acc => by
    simp only [List.cons_append, Lib.decFrom]
    cases Lib.digitVal a with
    | none => rfl
    | some d => exact decFrom_snoc c l _
theorem digit_val {k : Nat} (h : k < 10) : Lib.digitVal (UInt8.ofNat (48 + k)) = some k := by
  have H : ∀ k : Fin 10, Lib.digitVal (UInt8.ofNat (48 + k.val)) = some k.val := by decide
  exact H ⟨k, h⟩
theorem digit_ne {k : Nat} (h : k < 10) (h1 : 1 ≤ k) : UInt8.ofNat (48 + k) ≠ 48 := by
  have H : ∀ k : Fin 10, 1 ≤ k.val → UInt8.ofNat (48 + k.val) ≠ 48 := by decide
  exact H ⟨k, h⟩ h1
theorem val_digit {c : UInt8} {d : Nat} (h : Lib.digitVal c = some d) : d < 10 ∧ UInt8.ofNat (48 + d) = c ∧ c.toNat = 48 + d := by
  unfold Lib.digitVal at h
  split at h
  · rename_i hc
    cases h
    refine ⟨by omega, UInt8.toNat_inj.1 ?_, by omega⟩
    rw [UInt8.toNat_ofNat']
    omega
  · cases h
theorem decFrom_digits (n : Nat) : Lib.decFrom 0 (Lib.decDigits n) = some n := by
  induction n using Nat.strongRecOn with
  | ind n ih =>
    rw [Lib.decDigits]
    split
    · rename_i h
      simp only [Lib.decFrom]
      rw [digit_val h]
      simp
    · rename_i h
      rw [decFrom_snoc, ih (n / 10) (by omega), Option.bind_some, digit_val (by omega : n % 10 < 10)]
      simp only [Option.map_some, Option.some.injEq]
      omega
theorem digits_ne (n : Nat) : Lib.decDigits n ≠ [] := by
  rw [Lib.decDigits]
  split <;> simp
theorem digits_head (n : Nat) (h1 : 1 ≤ n) : (Lib.decDigits n).head? ≠ some 48 := by
  induction n using Nat.strongRecOn with
  | ind n ih =>
    rw [Lib.decDigits]
    split
    · rename_i h
      simpa using digit_ne h h1
    · rename_i h
      have := ih (n / 10) (by omega) (by omega)
      cases hd : Lib.decDigits (n / 10) with
      | nil => exact absurd hd (digits_ne _)
      | cons a r => rw [hd] at this; simpa using this
/-- a needless nought ahead -/
def lead0 (l : List UInt8) : Bool := decide (l.head? = some 48) && decide (1 < l.length)
theorem lead_digits (n : Nat) : lead0 (Lib.decDigits n) = false := by
  unfold lead0
  by_cases h : n < 10
  · rw [Lib.decDigits, dif_pos h]; simp
  · rw [decide_eq_false (digits_head n (by omega))]; rfl
theorem decFrom_ge : ∀ (l : List UInt8) (acc n : Nat), Lib.decFrom acc l = some n → acc ≤ n
  | [], acc, n, h => by simp only [Lib.decFrom, Option.some.injEq] at h; omega
  | a :: l, acc, n, h => by
    simp only [Lib.decFrom] at h
    cases hd : Lib.digitVal a with
    | none => rw [hd] at h; cases h
    | some d =>
      rw [hd] at h
      have := decFrom_ge l _ n h
      omega
theorem decFrom_pos {l : List UInt8} {n : Nat} (hl : l ≠ []) (h0 : l.head? ≠ some 48) (h : Lib.decFrom 0 l = some n) : 1 ≤ n := by
  cases l with
  | nil => exact absurd rfl hl
  | cons a r =>
    simp only [Lib.decFrom] at h
    cases hd : Lib.digitVal a with
    | none => rw [hd] at h; cases h
    | some d =>
      rw [hd] at h
      have h1 := decFrom_ge r _ n h
      obtain ⟨_, e, _⟩ := val_digit hd
      have : d ≠ 0 := fun hz => h0 (by rw [← e, hz]; rfl)
      omega
theorem digits_of : ∀ (k : Nat) (l : List UInt8) (n : Nat), l.length = k + 1 → lead0 l = false → Lib.decFrom 0 l = some n → Lib.decDigits n = l
  | 0, l, n, hl, _, h => by
    match l, hl with
    | [c], _ =>
      simp only [Lib.decFrom] at h
      cases hd : Lib.digitVal c with
      | none => rw [hd] at h; cases h
      | some d =>
        rw [hd] at h
        obtain ⟨h1, h2, _⟩ := val_digit hd
        have : n = d := by simpa using h.symm
        subst this
        rw [Lib.decDigits, dif_pos h1, h2]
  | k + 1, l, n, hl, h0, h => by
    have hne : l ≠ [] := fun e => by rw [e] at hl; simp at hl
    have el := List.dropLast_concat_getLast hne
    generalize l.dropLast = m at el
    generalize l.getLast hne = c at el
    subst el
    have hm : m.length = k + 1 := by simpa using hl
    have hmn : m ≠ [] := fun e => by rw [e] at hm; simp at hm
    have hh : m.head? ≠ some 48 := by
      unfold lead0 at h0
      cases m with
      | nil => exact absurd rfl hmn
      | cons a r =>
        simp only [List.cons_append, List.head?_cons, List.length_cons, List.length_append, List.length_nil, Bool.and_eq_false_iff] at h0 ⊢
        rcases h0 with h0 | h0
        · exact of_decide_eq_false h0
        · have := of_decide_eq_false h0; omega
    rw [decFrom_snoc] at h
    cases hk : Lib.decFrom 0 m with
    | none => rw [hk] at h; cases h
    | some q =>
      rw [hk, Option.bind_some] at h
      cases hd : Lib.digitVal c with
      | none => rw [hd] at h; cases h
      | some d =>
        rw [hd] at h
        obtain ⟨h1, h2, _⟩ := val_digit hd
        have en : n = q * 10 + d := by simpa using h.symm
        have hq := decFrom_pos hmn hh hk
        have ih := digits_of k m q hm (by unfold lead0; rw [decide_eq_false hh]; rfl) hk
        rw [Lib.decDigits, dif_neg (by omega), show n / 10 = q by omega, show n % 10 = d by omega, ih, h2]
/-- a number of a text of at most nine bytes -/
theorem atoi_num {l : List UInt8} {n : Nat} (hl : l ≠ []) (h9 : l.length ≤ 9) (h : Lib.decFrom 0 l = some n) : Lib.atoiAll l = .ok (n : Int) := by
  rw [Lib.atoiAll_short l (by omega)]
  cases l with
  | nil => exact absurd rfl hl
  | cons a r =>
    have ha : ∃ d, Lib.digitVal a = some d := by
      simp only [Lib.decFrom] at h
      cases hd : Lib.digitVal a with
      | none => rw [hd] at h; cases h
      | some d => exact ⟨d, rfl⟩
    obtain ⟨d, hd⟩ := ha
    obtain ⟨_, _, h3⟩ := val_digit hd
    have e45 : (a == 45) = false := by
      rw [beq_eq_false_iff_ne]; intro e; rw [e] at h3; have : (45 : UInt8).toNat = 45 := rfl; omega
    have e43 : (a == 43) = false := by
      rw [beq_eq_false_iff_ne]; intro e; rw [e] at h3; have : (43 : UInt8).toNat = 43 := rfl; omega
    simp only [Lib.atoi, e45, e43, Bool.false_eq_true, if_false, Lib.decNat, List.isEmpty_cons, h, Option.map_some]
    rfl

/-! cubes: few enough to be tried one by one -/
def noSp (s : ByteArray) : Bool := !s.data.toList.contains 32
noncomputable def cubeTest (m b : Nat) : Bool := match t_cube_Print ⟨m, b⟩ with
  | some (s, e) => decide (t_cube_Check ⟨m, b⟩ = some e) && (decide (e ≠ 0) || (decide (t_cube_Parse s = some (⟨m, b⟩, 0)) && noSp s))
  | none => false
theorem cubes_all : ((List.range 16).all fun m => (List.range 16).all fun b => cubeTest m b) = true := by kernel_rfl
noncomputable def strTest (s : ByteArray) : Bool := match t_cube_Parse s with
  | some (c, e) => decide (e = 0) && decide (t_cube_Print c = some (s, 0))
  | none => false
def chs : List UInt8 := [42, 48, 49]
theorem strs_all : (chs.all fun a => chs.all fun b => chs.all fun c => chs.all fun d => strTest ⟨#[a, b, c, d]⟩) = true := by kernel_rfl

theorem cube_rng {c : T_Cube} (hc : t_cube_Check c = some 0) : (0 ≤ c.Mask ∧ c.Mask < 16) ∧ 0 ≤ c.Bits ∧ c.Bits < 16 := by
  unfold t_cube_Check t_cube_Header at hc
  simp only [Option.bind_some] at hc
  cases h1 : decide (0 ≤ c.Mask) && decide (c.Mask < 16) with
  | false => rw [h1] at hc; simp [gd] at hc
  | true =>
    rw [h1] at hc
    cases h2 : decide (0 ≤ c.Bits) && decide (c.Bits < 16) with
    | false => rw [h2] at hc; simp [gd] at hc
    | true => simp at h1 h2; exact ⟨h1, h2⟩
theorem cube_txt {c : T_Cube} (hc : t_cube_Check c = some 0) : ∃ s, t_cube_Print c = some (s, 0) ∧ t_cube_Parse s = some (c, 0) ∧ noSp s = true ∧ s.size = 4 := by
  have hr := cube_rng hc
  have key := List.all_eq_true.1 (List.all_eq_true.1 cubes_all c.Mask.toNat (List.mem_range.2 (by omega))) c.Bits.toNat (List.mem_range.2 (by omega))
  have ec : (⟨(c.Mask.toNat : Int), (c.Bits.toNat : Int)⟩ : T_Cube) = c := by
    cases c; simp only [T_Cube.mk.injEq]; simp only at hr; omega
  unfold cubeTest at key
  rw [ec] at key
  cases hp : t_cube_Print c with
  | none => rw [hp] at key; cases key
  | some x =>
    obtain ⟨s, e⟩ := x
    rw [hp, hc] at key
    simp only [Option.some.injEq, Bool.and_eq_true, decide_eq_true_eq, Bool.or_eq_true] at key
    obtain ⟨k1, k2⟩ := key
    subst k1
    have k2 := k2.resolve_left (by simp)
    refine ⟨s, rfl, k2.1, k2.2, ?_⟩
    have := k2.1
    unfold t_cube_Parse at this
    split at this
    · simp at this
    · rename_i h4; simp at h4; omega
theorem cube_fwd {c : T_Cube} {s : ByteArray} (h : t_cube_Print c = some (s, 0)) (hc : t_cube_Check c = some 0) : t_cube_Parse s = some (c, 0) ∧ noSp s = true := by
  have hr : (0 ≤ c.Mask ∧ c.Mask < 16) ∧ 0 ≤ c.Bits ∧ c.Bits < 16 := by
    unfold t_cube_Check t_cube_Header at hc
    simp only [Option.bind_some] at hc
    cases h1 : decide (0 ≤ c.Mask) && decide (c.Mask < 16) with
    | false => rw [h1] at hc; simp [gd] at hc
    | true =>
      rw [h1] at hc
      cases h2 : decide (0 ≤ c.Bits) && decide (c.Bits < 16) with
      | false => rw [h2] at hc; simp [gd] at hc
      | true => simp at h1 h2; exact ⟨h1, h2⟩
  have key := List.all_eq_true.1 (List.all_eq_true.1 cubes_all c.Mask.toNat (List.mem_range.2 (by omega))) c.Bits.toNat (List.mem_range.2 (by omega))
  have ec : (⟨(c.Mask.toNat : Int), (c.Bits.toNat : Int)⟩ : T_Cube) = c := by
    cases c; simp only [T_Cube.mk.injEq]; simp only at hr; omega
  unfold cubeTest at key
  rw [ec, h] at key
  have key' : t_cube_Check c = some 0 ∧ t_cube_Parse s = some (c, 0) ∧ noSp s = true := by simpa using key
  exact key'.2
theorem cube_bwd {c : T_Cube} {s : ByteArray} (h : t_cube_Parse s = some (c, 0)) : t_cube_Print c = some (s, 0) := by
  have h0 := h
  unfold t_cube_Parse at h
  split at h
  · simp at h
  rename_i h4
  have hs4 : s.data.toList.length = 4 := by
    have : s.size = 4 := by simp at h4; omega
    simpa using this
  obtain ⟨a, b, x, d, e⟩ : ∃ a b x d, s = ⟨#[a, b, x, d]⟩ := by
    match hl : s.data.toList, hs4 with
    | [a, b, x, d], _ => exact ⟨a, b, x, d, by cases s with | mk q => congr 1; exact Array.toList_inj.1 hl⟩
  subst e
  have step : ∀ (y : UInt8), ((y.toNat : Int) = 49 → y = 49) ∧ ((y.toNat : Int) = 48 → y = 48) ∧ ((y.toNat : Int) = 42 → y = 42) := fun y => ⟨fun e => UInt8.toNat_inj.1 (by have : (49 : UInt8).toNat = 49 := rfl; omega), fun e => UInt8.toNat_inj.1 (by have : (48 : UInt8).toNat = 48 := rfl; omega), fun e => UInt8.toNat_inj.1 (by have : (42 : UInt8).toNat = 42 := rfl; omega)⟩
  have inS : ∀ (y : UInt8), ((y.toNat : Int) = 49 ∨ (y.toNat : Int) = 48 ∨ (y.toNat : Int) = 42) → y ∈ chs := fun y hy => by
    rcases hy with e | e | e
    · rw [(step y).1 e]; decide
    · rw [(step y).2.1 e]; decide
    · rw [(step y).2.2 e]; decide
  rw [need_pos (decide_eq_true (by show ((4 : Nat) : Int) ≤ maxI; decide)), join_eq, loopI_eq (by show ((4 : Nat) : Int) ≤ maxI; decide)] at h
  have en : numsOf ⟨#[a, b, x, d]⟩ = [(a.toNat : Int), (b.toNat : Int), (x.toNat : Int), (d.toNat : Int)] := rfl
  rw [en] at h
  have ok : ∀ (stp : Int → Int → T_Cube × T_Cube → (T_Cube × T_Cube → Option (T_Cube × Int)) → Option (T_Cube × Int)) (fin : T_Cube × T_Cube → Option (T_Cube × Int)), (∀ i y q k v, stp i y q k = some v → v.2 = 0 → (y = 49 ∨ y = 48 ∨ y = 42) ∧ ∃ q', k q' = some v) → ∀ (l : List Int) (i : Int) (q : T_Cube × T_Cube) (v : T_Cube × Int), goI stp fin i l q = some v → v.2 = 0 → ∀ y ∈ l, y = 49 ∨ y = 48 ∨ y = 42 := by
    intro stp fin hst l
    induction l with
    | nil => intro i q v _ _ y hy; cases hy
    | cons z l ih =>
      intro i q v hv h0 y hy
      obtain ⟨h1, q', h2⟩ := hst i z q _ v hv h0
      rcases List.mem_cons.1 hy with rfl | hy
      · exact h1
      · exact ih _ q' v h2 h0 y hy
  have hall := ok _ _ (fun i y q k v hv h0 => by
    simp only [join_eq] at hv
    by_cases e1 : y = 49
    · rw [if_pos (decide_eq_true e1)] at hv; exact ⟨.inl e1, _, hv⟩
    · rw [if_neg (by simpa using e1)] at hv
      by_cases e2 : y = 48
      · rw [if_pos (decide_eq_true e2)] at hv; exact ⟨.inr (.inl e2), _, hv⟩
      · rw [if_neg (by simpa using e2)] at hv
        by_cases e3 : y = 42
        · rw [if_pos (decide_eq_true e3)] at hv; exact ⟨.inr (.inr e3), _, hv⟩
        · rw [if_neg (by simpa using e3)] at hv
          have := Option.some.inj hv
          rw [← this] at h0
          simp at h0) _ _ _ _ h rfl
  have key := List.all_eq_true.1 (List.all_eq_true.1 (List.all_eq_true.1 (List.all_eq_true.1 strs_all a (inS a (hall _ (by simp)))) b (inS b (hall _ (by simp)))) x (inS x (hall _ (by simp)))) d (inS d (hall _ (by simp)))
  unfold strTest at key
  rw [h0] at key
  simpa using key
/-! numbers -/
theorem itoaS_lt {n : Nat} (h : n < 100) : itoaS n = if n < 10 then ⟨#[UInt8.ofNat (48 + n)]⟩ else ⟨#[UInt8.ofNat (48 + n / 10), UInt8.ofNat (48 + n % 10)]⟩ := by
  unfold itoaS
  rw [Lib.decDigits]
  by_cases h1 : n < 10
  · rw [dif_pos h1, if_pos h1]
  · rw [dif_neg h1, if_neg h1, Lib.decDigits, dif_pos (show n / 10 < 10 by omega)]; rfl
def numTest (n : Nat) (s : ByteArray) : Bool := (match Lib.atoiAll s.data.toList with
  | .ok v => decide (v = n)
  | _ => false) && decide (s.size ≤ 9) && noSp s
theorem nums_all : ((List.range 100).all fun n => numTest n (if n < 10 then ⟨#[UInt8.ofNat (48 + n)]⟩ else ⟨#[UInt8.ofNat (48 + n / 10), UInt8.ofNat (48 + n % 10)]⟩)) = true := by kernel_rfl
theorem itoaZ_nat (n : Nat) : itoaZ (n : Int) = itoaS n := by
  unfold itoaZ itoaS Lib.itoa
  rw [if_neg (by omega)]; rfl
theorem num_fwd {z : Int} (h0 : 0 ≤ z) (h1 : z < 100) : t_rule_Number (itoaS z.toNat) = some (z, true) ∧ noSp (itoaS z.toNat) = true := by
  have hn : z.toNat < 100 := by omega
  have key := List.all_eq_true.1 nums_all z.toNat (List.mem_range.2 hn)
  rw [← itoaS_lt hn] at key
  unfold numTest at key
  cases ha : Lib.atoiAll (itoaS z.toNat).data.toList with
  | ok v =>
    rw [ha] at key
    simp only [Bool.and_eq_true, decide_eq_true_eq] at key
    obtain ⟨⟨hv, hs⟩, hsp⟩ := key
    have hvz : v = z := by omega
    refine ⟨?_, hsp⟩
    unfold t_rule_Number
    rw [if_pos (by omega), show numV (itoaS z.toNat) = z by unfold numV; rw [ha]; exact hvz, show numB (itoaS z.toNat) = true by
      unfold numB
      rw [ha]
      simp only [Bool.and_eq_true, decide_eq_true_eq]
      refine ⟨by omega, hs, ?_⟩
      rw [hvz, ← itoaZ_nat]
      congr 1; omega]
  | _ => rw [ha] at key; cases key
theorem num_bwd {s : ByteArray} {z : Int} (h : t_rule_Number s = some (z, true)) : 0 ≤ z ∧ itoaS z.toNat = s := by
  unfold t_rule_Number at h
  split at h
  · simp only [Option.some.injEq, Prod.mk.injEq] at h
    obtain ⟨h1, h2⟩ := h
    unfold numB at h2
    unfold numV at h1
    cases ha : Lib.atoiAll s.data.toList with
    | ok v =>
      rw [ha] at h1 h2
      simp only [Bool.and_eq_true, decide_eq_true_eq] at h1 h2
      subst h1
      refine ⟨h2.1, ?_⟩
      rw [← itoaZ_nat, show ((v.toNat : Nat) : Int) = v by omega]; exact h2.2.2
    | _ => rw [ha] at h2; cases h2
  · cases h

/-! words -/
theorem data_inj {a b : ByteArray} (h : a.data.toList = b.data.toList) : a = b := by
  cases a; cases b; congr 1; exact Array.toList_inj.1 h
theorem map_data_inj : ∀ {a b : List ByteArray}, a.map (·.data.toList) = b.map (·.data.toList) → a = b
  | [], [], _ => rfl
  | [], _ :: _, h => by simp at h
  | _ :: _, [], h => by simp at h
  | x :: a, y :: b, h => by
    simp only [List.map_cons, List.cons.injEq] at h
    rw [data_inj h.1, map_data_inj h.2]
abbrev sp : ByteArray := ByteArray.mk #[32]
theorem split_words (ws : List ByteArray) (u : ByteArray) (hne : ws ≠ []) (hw : ∀ w ∈ ws, noSp w = true) (hu : u.data.toList = glue 32 (ws.map (·.data.toList))) (hs : u.size < 4294967281) : t_Split u sp = some ws := by
  unfold t_Split
  rw [if_pos ⟨hs, by decide⟩]
  congr 1
  apply map_data_inj
  rw [split_data, hu, cut_glue]
  · simpa using hne
  · intro w hw2
    obtain ⟨x, hx, rfl⟩ := List.mem_map.1 hw2
    have := hw x hx
    unfold noSp at this
    simpa using this
theorem split_glue {s : ByteArray} {L : List ByteArray} (h : t_Split s sp = some L) : s.data.toList = glue 32 (L.map (·.data.toList)) := by
  unfold t_Split at h
  split at h
  · obtain rfl := Option.some.inj h
    rw [split_data, glue_cut]
  · cases h
/-! what is written -/
theorem ruleCheck_0 {r : T_Rule} (h : t_rule_Check r = some 0) : (0 ≤ r.Prio ∧ r.Prio ≤ 99) ∧ (0 ≤ r.Out ∧ r.Out ≤ 4) ∧ t_cube_Check r.Cube = some 0 ∧ t_cube_Check ⟨r.Set, r.Value⟩ = some 0 ∧ ¬ (r.Out = 0 ∧ r.Set ≠ 0) := by
  unfold t_rule_Check at h
  cases hA : (((decide (r.Prio < 0) || decide (99 < r.Prio)) || decide (r.Out < 0)) || decide (4 < r.Out)) with
  | true => rw [hA] at h; simp [gd] at h
  | false =>
    rw [hA] at h
    have hA' := hA
    simp only [Bool.or_eq_false_iff, decide_eq_false_iff_not, Int.not_lt] at hA'
    cases h1 : t_cube_Header r.Set with
    | none => rw [h1] at h; simp [gd] at h
    | some b1 =>
      rw [h1] at h
      cases b1 with
      | false => simp [gd] at h
      | true =>
        cases h2 : t_cube_Header r.Value with
        | none => rw [h2] at h; simp [gd] at h
        | some b2 =>
          rw [h2] at h
          cases b2 with
          | false => simp [gd] at h
          | true =>
            simp only [gd, Bool.not_true, Bool.not_false, Bool.or_self, Bool.or_false, Bool.false_eq_true, if_true, if_false, Option.bind_some] at h
            cases h3 : t_cube_Check r.Cube with
            | none => rw [h3] at h; cases h
            | some c =>
              rw [h3] at h
              simp only [Option.bind_some] at h
              by_cases hc : c = 0
              · subst hc
                simp only [decide_true, Bool.not_true, Bool.false_eq_true, if_false] at h
                split at h
                · cases h
                · rename_i h4
                  simp only [Bool.or_eq_true, Bool.and_eq_true, decide_eq_true_eq, not_or, not_and] at h4
                  refine ⟨by omega, by omega, rfl, ?_, fun hh => h4.2 hh.1 hh.2⟩
                  unfold t_cube_Check
                  simp only
                  rw [h1, Option.bind_some]
                  simp only [gd, Bool.not_true, Bool.not_false, if_true]
                  rw [h2, Option.bind_some]
                  simp only [Bool.not_true, Bool.or_self, Bool.false_eq_true, if_false]
                  rw [if_neg (by simpa using h4.1)]
              · rw [if_pos (by simpa using hc)] at h
                exact absurd (Option.some.inj h) hc

theorem nd {β : Type} {x y : ByteArray} {Y : Option β} (h : x.size + y.size ≤ 1000) : need (decide ((x.size : Int) + y.size ≤ maxI)) Y = Y := need_pos (decide_eq_true (by unfold maxI; omega))
theorem itoa_size {n : Nat} (h : n < 100) : (itoaS n).size ≤ 2 := by
  rw [itoaS_lt h]
  split
  · exact Nat.le_succ 1
  · exact Nat.le_refl 2
theorem val0_all : ((List.range 16).all fun v => decide (t_cube_Check ⟨0, (v : Int)⟩ ≠ some 0) || decide (v = 0)) = true := by kernel_rfl
theorem val0 {v : Int} (h : t_cube_Check ⟨0, v⟩ = some 0) : v = 0 := by
  have hr := (cube_rng h).2
  simp only at hr
  have key := List.all_eq_true.1 val0_all v.toNat (List.mem_range.2 (by omega))
  rw [show ((v.toNat : Nat) : Int) = v by omega] at key
  simp only [h, ne_eq, not_true_eq_false, decide_false, Bool.false_or, decide_eq_true_eq] at key
  omega
abbrev wDrop : ByteArray := ByteArray.mk #[100, 114, 111, 112]
abbrev wOut : ByteArray := ByteArray.mk #[111, 117, 116]
abbrev wSet : ByteArray := ByteArray.mk #[115, 101, 116]
/-- the words of a rule -/
def ruleWs (r : T_Rule) (q q2 : ByteArray) : List ByteArray :=
  if r.Out = 0 then [itoaS r.Prio.toNat, q, wDrop]
  else if r.Set ≠ 0 then [itoaS r.Prio.toNat, q, wOut, itoaS r.Out.toNat, wSet, q2]
  else [itoaS r.Prio.toNat, q, wOut, itoaS r.Out.toNat]
/-- what is written of a rule that is right -/
theorem rule_txt {r : T_Rule} (h : t_rule_Check r = some 0) : ∃ u q q2, t_rule_Print r = some (u, 0) ∧ t_cube_Print r.Cube = some (q, 0) ∧ t_cube_Print ⟨r.Set, r.Value⟩ = some (q2, 0) ∧ u.data.toList = glue 32 ((ruleWs r q q2).map (·.data.toList)) ∧ u.size ≤ 100 := by
  obtain ⟨⟨p0, p1⟩, ⟨o0, o1⟩, hc, hv, hos⟩ := ruleCheck_0 h
  obtain ⟨q, eq, _, _, sq⟩ := cube_txt hc
  obtain ⟨q2, eq2, _, _, sq2⟩ := cube_txt hv
  have sa := itoa_size (n := r.Prio.toNat) (by omega)
  have sb := itoa_size (n := r.Out.toNat) (by omega)
  have ea : t_Itoa r.Prio = some (itoaS r.Prio.toNat) := if_pos ⟨p0, by omega⟩
  have eb : t_Itoa r.Out = some (itoaS r.Out.toNat) := if_pos ⟨o0, by omega⟩
  have l1 : (ByteArray.mk #[32]).size = 1 := rfl
  have l2 : (ByteArray.mk #[32, 100, 114, 111, 112]).size = 5 := rfl
  have l3 : (ByteArray.mk #[32, 111, 117, 116, 32]).size = 5 := rfl
  have l4 : (ByteArray.mk #[32, 115, 101, 116, 32]).size = 5 := rfl
  by_cases h0 : r.Out = 0
  · refine ⟨((itoaS r.Prio.toNat ++ ByteArray.mk #[32]) ++ q) ++ ByteArray.mk #[32, 100, 114, 111, 112], q, q2, ?_, eq, eq2, ?_, by simp only [ByteArray.size_append]; omega⟩
    · unfold t_rule_Print
      rw [h, Option.bind_some, if_neg (by simp), eq, Option.bind_some, if_neg (by simp), ea, Option.bind_some]
      dsimp only
      rw [nd (by omega), nd (by rw [ByteArray.size_append]; omega), if_pos (decide_eq_true h0), nd (by simp only [ByteArray.size_append]; omega)]
    · unfold ruleWs
      rw [if_pos h0]
      simp [ByteArray.data_append, Array.toList_append, glue]
  · by_cases hs : r.Set = 0
    · refine ⟨((itoaS r.Prio.toNat ++ ByteArray.mk #[32]) ++ q) ++ (ByteArray.mk #[32, 111, 117, 116, 32] ++ itoaS r.Out.toNat), q, q2, ?_, eq, eq2, ?_, by simp only [ByteArray.size_append]; omega⟩
      · unfold t_rule_Print
        rw [h, Option.bind_some, if_neg (by simp), eq, Option.bind_some, if_neg (by simp), ea, Option.bind_some]
        dsimp only
        rw [nd (by omega), nd (by rw [ByteArray.size_append]; omega), if_neg (by simpa using h0), eb, Option.bind_some, nd (by omega), nd (by simp only [ByteArray.size_append]; omega), join_eq, if_neg (by simpa using hs)]
      · unfold ruleWs
        rw [if_neg h0, if_neg (by simpa using hs)]
        simp [ByteArray.data_append, Array.toList_append, glue]
    · refine ⟨(((itoaS r.Prio.toNat ++ ByteArray.mk #[32]) ++ q) ++ (ByteArray.mk #[32, 111, 117, 116, 32] ++ itoaS r.Out.toNat)) ++ (ByteArray.mk #[32, 115, 101, 116, 32] ++ q2), q, q2, ?_, eq, eq2, ?_, by simp only [ByteArray.size_append]; omega⟩
      · unfold t_rule_Print
        rw [h, Option.bind_some, if_neg (by simp), eq, Option.bind_some, if_neg (by simp), ea, Option.bind_some]
        dsimp only
        rw [nd (by omega), nd (by rw [ByteArray.size_append]; omega), if_neg (by simpa using h0), eb, Option.bind_some, nd (by omega), nd (by simp only [ByteArray.size_append]; omega), join_eq, if_pos (by simpa using hs), eq2, Option.bind_some, if_neg (by simp)]
        dsimp only
        rw [nd (by omega), nd (by simp only [ByteArray.size_append]; omega)]
      · unfold ruleWs
        rw [if_neg h0, if_pos hs]
        simp [ByteArray.data_append, Array.toList_append, glue]
/-- what is written is read as it was -/
theorem read_txt {r : T_Rule} {q q2 : ByteArray} (h : t_rule_Check r = some 0) (h1 : t_cube_Print r.Cube = some (q, 0)) (h2 : t_cube_Print ⟨r.Set, r.Value⟩ = some (q2, 0)) : t_rule_read (ruleWs r q q2) = some (r, true) ∧ ∀ w ∈ ruleWs r q q2, noSp w = true := by
  obtain ⟨⟨p0, p1⟩, ⟨o0, o1⟩, hc, hv, hos⟩ := ruleCheck_0 h
  obtain ⟨k1, k2⟩ := cube_fwd h1 hc
  obtain ⟨m1, m2⟩ := cube_fwd h2 hv
  obtain ⟨n1, n2⟩ := num_fwd p0 (by omega : r.Prio < 100)
  obtain ⟨x1, x2⟩ := num_fwd o0 (by omega : r.Out < 100)
  have d1 : noSp wDrop = true := rfl
  have d2 : noSp wOut = true := rfl
  have d3 : noSp wSet = true := rfl
  have hset : r.Set = 0 → r.Value = 0 := fun e => val0 (by rw [e] at hv; exact hv)
  unfold ruleWs
  obtain ⟨P, C, O, S, V⟩ := r
  simp only at *
  by_cases h0 : O = 0
  · subst h0
    have hS : S = 0 := by by_cases e : S = 0; exact e; exact absurd ⟨rfl, e⟩ hos
    have hV := hset hS
    subst hS; subst hV
    rw [if_pos rfl]
    refine ⟨?_, by simp [n2, k2, d1]⟩
    unfold t_rule_read
    simp [idx, n1, k1]
  · rw [if_neg h0]
    by_cases hs : S = 0
    · have hV := hset hs
      subst hs; subst hV
      rw [if_neg (by simp)]
      refine ⟨?_, by simp [n2, k2, d2, x2]⟩
      unfold t_rule_read
      simp [idx, n1, k1, x1, h0]
    · rw [if_pos hs]
      refine ⟨?_, by simp [n2, k2, d2, x2, d3, m2]⟩
      unfold t_rule_read
      simp [idx, n1, k1, x1, h0, m1, hs]
theorem print_parse {r : T_Rule} {u : ByteArray} (h : t_rule_Print r = some (u, 0)) : t_rule_Parse u = some (r, 0) := by
  have hc : t_rule_Check r = some 0 := by
    unfold t_rule_Print at h
    cases hc : t_rule_Check r with
    | none => rw [hc] at h; cases h
    | some c =>
      rw [hc, Option.bind_some] at h
      split at h
      · rename_i hne
        simp only [Option.some.injEq, Prod.mk.injEq] at h
        rw [h.2] at hne
        simp at hne
      · rename_i hne
        have : c = 0 := by simpa using hne
        rw [this]
  obtain ⟨u', q, q2, e1, e2, e3, e4, e5⟩ := rule_txt hc
  rw [h] at e1
  have eu : u = u' := by simpa using e1
  subst eu
  obtain ⟨f1, f2⟩ := read_txt hc e2 e3
  unfold t_rule_Parse
  rw [split_words _ u (by unfold ruleWs; split; simp; split <;> simp) f2 e4 (by omega), Option.bind_some, f1, Option.bind_some]
  simp only [Bool.not_true, Bool.false_eq_true, if_false]
  rw [hc, Option.bind_some]
  simp
/-! what is read is written so -/
theorem or_not {a b : Bool} (h : ¬ (!a || b) = true) : a = true ∧ b = false := by cases a <;> cases b <;> simp_all
theorem idx_lit {α : Type} {l : List α} {n : Nat} {x : α} (h : l[n]? = some x) : idx l (n : Int) = some x := by rw [idx_nat]; exact h
theorem read_back {L : List ByteArray} {x : T_Rule} (h : t_rule_read L = some (x, true)) (hc : t_rule_Check x = some 0) : ∃ q q2, t_cube_Print x.Cube = some (q, 0) ∧ t_cube_Print ⟨x.Set, x.Value⟩ = some (q2, 0) ∧ L = ruleWs x q q2 := by
  obtain ⟨⟨p0, p1⟩, ⟨o0, o1⟩, hcc, hv, hos⟩ := ruleCheck_0 hc
  obtain ⟨z2, ez2, _⟩ := cube_txt hv
  unfold t_rule_read at h
  match L, h with
  | [], h => simp at h
  | [_], h => simp at h
  | [_, _], h => simp at h
  | w0 :: w1 :: w2 :: R, h =>
    rw [if_neg (by simp; omega)] at h
    have i0 : idx (w0 :: w1 :: w2 :: R) 0 = some w0 := rfl
    have i1 : idx (w0 :: w1 :: w2 :: R) 1 = some w1 := rfl
    have i2 : idx (w0 :: w1 :: w2 :: R) 2 = some w2 := rfl
    rw [i0, Option.bind_some] at h
    have h' := Option.bind_eq_some_iff.1 h
    clear h
    obtain ⟨⟨P, bP⟩, hP, h⟩ := h'
    rw [i1, Option.bind_some] at h
    have h' := Option.bind_eq_some_iff.1 h
    clear h
    obtain ⟨⟨C, eC⟩, hC, h⟩ := h'
    dsimp only at h
    have hbad : ¬ (!bP || !decide (eC = 0)) = true := fun hx => by rw [if_pos hx] at h; simp at h
    rw [if_neg hbad] at h
    obtain ⟨hbP, hE⟩ := or_not hbad
    have hE : eC = 0 := by simpa using hE
    clear hbad
    subst hbP; subst hE
    have eP := num_bwd hP
    have eC := cube_bwd hC
    rw [i2, Option.bind_some] at h
    by_cases hd : w2 = wDrop
    · rw [if_pos (decide_eq_true hd)] at h
      subst hd
      simp only [Option.some.injEq, Prod.mk.injEq, decide_eq_true_eq] at h
      obtain ⟨rfl, hl⟩ := h
      have hR : R = [] := by
        cases R with
        | nil => rfl
        | cons _ _ => simp at hl; omega
      subst hR
      refine ⟨w1, z2, eC, ez2, ?_⟩
      unfold ruleWs
      rw [if_pos rfl, eP.2]
    · rw [if_neg (by simpa using hd), Option.bind_some] at h
      have hl : ((w0 :: w1 :: w2 :: R).length : Int) = (R.length : Int) + 3 := by simp; omega
      have ho : ¬ ((!decide (w2 = wOut)) || (decide (((w0 :: w1 :: w2 :: R).length : Int) ≠ 4) && decide (((w0 :: w1 :: w2 :: R).length : Int) ≠ 6))) = true := fun hx => by rw [if_pos hx] at h; simp at h
      rw [if_neg ho] at h
      obtain ⟨hw2, hlen0⟩ := or_not ho
      have hw2 : w2 = wOut := of_decide_eq_true hw2
      have hlen : R.length + 3 = 4 ∨ R.length + 3 = 6 := by
        rw [hl] at hlen0
        simp only [Bool.and_eq_false_iff, decide_eq_false_iff_not, ne_eq, Decidable.not_not] at hlen0
        omega
      clear ho hlen0 hl
      subst hw2
      match R, h, hlen with
      | [], h, hlen => simp at hlen
      | w3 :: R, h, hlen =>
        have i3 : idx (w0 :: w1 :: wOut :: w3 :: R) 3 = some w3 := rfl
        rw [i3, Option.bind_some] at h
        have h' := Option.bind_eq_some_iff.1 h
        clear h
        obtain ⟨⟨O, bO⟩, hO, h⟩ := h'
        dsimp only at h
        have hbad : ¬ (!bO || decide (O = 0)) = true := fun hx => by rw [if_pos hx] at h; simp at h
        rw [if_neg hbad] at h
        obtain ⟨hbO, hO1⟩ := or_not hbad
        clear hbad
        subst hbO
        have hO0 : ¬ O = 0 := by simpa using hO1
        have eO := num_bwd hO
        by_cases h6 : R.length = 2
        · rw [if_pos (by simp; omega)] at h
          match R, h6, h with
          | [w4, w5], _, h =>
            have i5 : idx [w0, w1, wOut, w3, w4, w5] 5 = some w5 := rfl
            have i4 : idx [w0, w1, wOut, w3, w4, w5] 4 = some w4 := rfl
            rw [i5, Option.bind_some] at h
            have h' := Option.bind_eq_some_iff.1 h
            clear h
            obtain ⟨⟨D, eD⟩, hD, h⟩ := h'
            rw [i4, Option.bind_some] at h
            simp only [Option.some.injEq, Prod.mk.injEq, Bool.and_eq_true, decide_eq_true_eq] at h
            obtain ⟨rfl, ⟨h4, h5⟩, hm⟩ := h
            subst h4; subst h5
            have eD := cube_bwd hD
            refine ⟨w1, w5, eC, eD, ?_⟩
            unfold ruleWs
            rw [if_neg hO0, if_pos hm, eP.2, eO.2]
        · rw [if_neg (by simp; omega)] at h
          simp only [Option.some.injEq, Prod.mk.injEq, and_true] at h
          subst h
          have hR : R = [] := by
            cases R with
            | nil => rfl
            | cons y R => simp only [List.length_cons] at hlen h6; omega
          subst hR
          refine ⟨w1, z2, eC, ez2, ?_⟩
          unfold ruleWs
          rw [if_neg hO0, if_neg (by simp), eP.2, eO.2]
theorem parse_print {s : ByteArray} {x : T_Rule} (h : t_rule_Parse s = some (x, 0)) : t_rule_Print x = some (s, 0) := by
  unfold t_rule_Parse at h
  have h' := Option.bind_eq_some_iff.1 h
  clear h
  obtain ⟨L, hL, h⟩ := h'
  have h' := Option.bind_eq_some_iff.1 h
  clear h
  obtain ⟨⟨y, b⟩, hy, h⟩ := h'
  dsimp only at h
  split at h
  · simp at h
  rename_i hb
  have hb : b = true := by simpa using hb
  subst hb
  have h' := Option.bind_eq_some_iff.1 h
  clear h
  obtain ⟨c, hc, h⟩ := h'
  split at h
  · rename_i hne
    simp only [Option.some.injEq, Prod.mk.injEq] at h
    rw [h.2] at hne
    simp at hne
  rename_i hne
  have hc0 : c = 0 := by simpa using hne
  subst hc0
  simp only [Option.some.injEq, Prod.mk.injEq, and_true] at h
  subst h
  obtain ⟨q, q2, e1, e2, e3⟩ := read_back hy hc
  obtain ⟨u, r1, r2, f1, f2, f3, f4, f5⟩ := rule_txt hc
  rw [e1] at f2
  rw [e2] at f3
  have g1 : q = r1 := by simpa using f2
  have g2 : q2 = r2 := by simpa using f3
  subst g1; subst g2
  have : s = u := data_inj (by rw [f4, split_glue hL, e3])
  rw [this]; exact f1
theorem fact_rule : t_rule_Parse (ByteArray.mk #[55, 32, 49, 42, 48, 42, 32, 111, 117, 116, 32, 50, 32, 115, 101, 116, 32, 42, 42, 49, 49]) = some (⟨7, ⟨10, 8⟩, 2, 3, 3⟩, 0) := by
  refine print_parse ?_
  unfold t_rule_Print
  rw [show t_rule_Check ⟨7, ⟨10, 8⟩, 2, 3, 3⟩ = some 0 by kernel_rfl]
  dsimp only
  rw [show t_Itoa 7 = some (ByteArray.mk #[55]) by unfold t_Itoa; rw [if_pos (by decide), itoaS_lt (by decide)]; rfl, show t_Itoa 2 = some (ByteArray.mk #[50]) by unfold t_Itoa; rw [if_pos (by decide), itoaS_lt (by decide)]; rfl]
  kernel_rfl
theorem s_cmp (x y : Int) : t_cmp_Compare_int x y = some (if x < y then -1 else if y < x then 1 else 0) := by
  unfold t_cmp_Compare_int t_cmp_isNaN_int
  simp only [Option.bind_some, ne_eq, not_true_eq_false, decide_false, Bool.false_eq_true, if_false]
  by_cases h1 : x < y
  · simp [h1]
  · by_cases h2 : y < x <;> simp [h1, h2]
theorem s_cmpOr (a b c : Int) : t_cmp_Or_int [a, b, c] = some (if a ≠ 0 then a else if b ≠ 0 then b else c) := by
  unfold t_cmp_Or_int
  simp only [join_eq]
  rw [loopI_eq (by have : maxI = 9223372036854775807 := rfl; simp; omega)]
  simp only [goI]
  by_cases h1 : a = 0 <;> by_cases h2 : b = 0 <;> by_cases h3 : c = 0 <;> simp [h1, h2, h3]
def abv (x y : T_Rule) : Prop := y.Prio < x.Prio ∨ (x.Prio = y.Prio ∧ (y.Cube.Mask < x.Cube.Mask ∨ (x.Cube.Mask = y.Cube.Mask ∧ y.Cube.Bits < x.Cube.Bits)))
instance (x y : T_Rule) : Decidable (abv x y) := by unfold abv; infer_instance
theorem s_aboveV (x y : T_Rule) : ∃ c, t_rule_above x y = some c ∧ (0 < c ↔ abv x y) := by
  unfold t_rule_above
  simp only [s_cmp, s_cmpOr, Option.bind_some]
  refine ⟨_, rfl, ?_⟩
  unfold abv
  by_cases h1 : x.Prio < y.Prio
  · simp [h1]; omega
  · by_cases h2 : y.Prio < x.Prio
    · simp [h1, h2]
    · by_cases h3 : x.Cube.Mask < y.Cube.Mask
      · simp [h1, h2, h3]; omega
      · by_cases h4 : y.Cube.Mask < x.Cube.Mask
        · simp [h1, h2, h3, h4]; omega
        · by_cases h5 : x.Cube.Bits < y.Cube.Bits
          · simp [h1, h2, h3, h4, h5]; omega
          · by_cases h6 : y.Cube.Bits < x.Cube.Bits
            · simp [h1, h2, h3, h4, h5, h6]; omega
            · simp [h1, h2, h3, h4, h5, h6]
theorem abv_trans {x y z : T_Rule} (h : abv x y) (k : abv y z) : abv x z := by unfold abv at *; omega
theorem abv_irr (x : T_Rule) : ¬ abv x x := by unfold abv; omega
/-- whether a rule has a header -/
def mat1 (r : T_Rule) (h : Int) : Bool := decide ((bits .and .i64 h r.Cube.Mask) = r.Cube.Bits)
def bstep1 (h : Int) (b : Option T_Rule) (x : T_Rule) : Option T_Rule := match b with
  | none => if mat1 x h = true then some x else none
  | some r => if mat1 x h = true ∧ abv x r then some x else some r
/-- the rule that counts -/
def best (h : Int) (t : List T_Rule) : Option T_Rule := t.foldl (bstep1 h) none
theorem best_inv (h : Int) : ∀ (l p : List T_Rule) (b : Option T_Rule), (b = none → ∀ y ∈ p, mat1 y h = false) → (∀ r, b = some r → r ∈ p ∧ mat1 r h = true ∧ ∀ y ∈ p, mat1 y h = true → ¬ abv y r) →
    ((l.foldl (bstep1 h) b = none → ∀ y ∈ p ++ l, mat1 y h = false) ∧ ∀ r, l.foldl (bstep1 h) b = some r → r ∈ p ++ l ∧ mat1 r h = true ∧ ∀ y ∈ p ++ l, mat1 y h = true → ¬ abv y r)
  | [], p, b, h1, h2 => by simpa using ⟨h1, h2⟩
  | x :: l, p, b, h1, h2 => by
    have e : p ++ x :: l = (p ++ [x]) ++ l := by simp
    rw [e, List.foldl_cons]
    refine best_inv h l (p ++ [x]) (bstep1 h b x) (fun hb y hy => ?_) (fun r hr => ?_)
    · cases b with
      | none =>
        unfold bstep1 at hb
        by_cases hx : mat1 x h = true
        · simp [hx] at hb
        · rcases List.mem_append.1 hy with hy | hy
          · exact h1 rfl y hy
          · simp at hy; subst hy; simpa using hx
      | some r0 =>
        simp only [bstep1] at hb
        by_cases hx : mat1 x h = true ∧ abv x r0
        · rw [if_pos hx] at hb; cases hb
        · rw [if_neg hx] at hb; cases hb
    · cases b with
      | none =>
        unfold bstep1 at hr
        by_cases hx : mat1 x h = true
        · simp only [hx, if_true, Option.some.injEq] at hr
          subst hr
          refine ⟨by simp, hx, fun y hy hm => ?_⟩
          rcases List.mem_append.1 hy with hy | hy
          · rw [h1 rfl y hy] at hm; cases hm
          · simp at hy; subst hy; exact abv_irr y
        · simp [hx] at hr
      | some r0 =>
        obtain ⟨q1, q2, q3⟩ := h2 r0 rfl
        unfold bstep1 at hr
        by_cases hx : mat1 x h = true ∧ abv x r0
        · simp only [hx, and_self, if_true, Option.some.injEq] at hr
          subst hr
          refine ⟨by simp, hx.1, fun y hy hm k => ?_⟩
          rcases List.mem_append.1 hy with hy | hy
          · exact q3 y hy hm (abv_trans k hx.2)
          · simp at hy; subst hy; exact abv_irr y k
        · simp only [hx, if_false, Option.some.injEq] at hr
          subst hr
          refine ⟨by simp [q1], q2, fun y hy hm k => ?_⟩
          rcases List.mem_append.1 hy with hy | hy
          · exact q3 y hy hm k
          · simp at hy; subst hy; exact hx ⟨hm, k⟩
theorem best_none {h : Int} {t : List T_Rule} (hb : best h t = none) : ∀ y ∈ t, mat1 y h = false := by
  have := (best_inv h t [] none (fun _ y hy => by simp at hy) (fun r hr => by cases hr)).1 hb
  simpa using this
theorem best_some {h : Int} {t : List T_Rule} {r : T_Rule} (hb : best h t = some r) : r ∈ t ∧ mat1 r h = true ∧ ∀ y ∈ t, mat1 y h = true → ¬ abv y r := by
  have := (best_inv h t [] none (fun _ y hy => by simp at hy) (fun r hr => by cases hr)).2 r hb
  simpa using this
/-- where it lies -/
theorem s_FindB (t : List T_Rule) (h : Int) (ht : t.length ≤ 100) : ∃ i, t_rule_Find t h = some i ∧ ((i < 0 ∧ best h t = none) ∨ ∃ (j : Nat) (r : T_Rule), i = j ∧ t[j]? = some r ∧ best h t = some r) := by
  have hM : maxI = 9223372036854775807 := rfl
  unfold t_rule_Find
  rw [bind_some_id, loopI_eq (by omega)]
  have : ∀ (l p : List T_Rule) (s : Int) (b : Option T_Rule), t = p ++ l → ((s < 0 ∧ b = none) ∨ ∃ (j : Nat) (r : T_Rule), s = j ∧ t[j]? = some r ∧ b = some r) → ∃ i, goI (fun (i13 : Int) x14 (s9 : Int) k10 =>
      (gd ((decide ((bits .and .i64 h x14.Cube.Mask) = x14.Cube.Bits)) && (!(decide (s9 < 0)))) default (idx t s9)).bind fun r43 =>
      (gd ((decide ((bits .and .i64 h x14.Cube.Mask) = x14.Cube.Bits)) && (!(decide (s9 < 0)))) default (t_rule_above x14 r43)).bind fun r50 =>
      (if ((decide ((bits .and .i64 h x14.Cube.Mask) = x14.Cube.Bits)) && ((decide (s9 < 0)) || (decide (0 < r50)))) = true then (some i13) else (some (s9))).bind fun (s60 : Int) => k10 (s60)) (fun (s9 : Int) => some (s9)) (p.length : Int) l s = some i ∧ ((i < 0 ∧ l.foldl (bstep1 h) b = none) ∨ ∃ (j : Nat) (r : T_Rule), i = j ∧ t[j]? = some r ∧ l.foldl (bstep1 h) b = some r) := by
    intro l
    induction l with
    | nil => intro p s b _ hs; exact ⟨s, rfl, hs⟩
    | cons x l ih =>
      intro p s b hp hs
      have hx : t[p.length]? = some x := by rw [hp]; simp
      have e : (p.length : Int) + 1 = (((p ++ [x]).length : Nat) : Int) := by simp
      rw [goI, List.foldl_cons]
      show ∃ i, (gd (mat1 x h && !decide (s < 0)) default (idx t s)).bind _ = _ ∧ _
      rcases hs with ⟨h1, rfl⟩ | ⟨j, r, rfl, h2, rfl⟩
      · have h1' : decide (s < 0) = true := by simpa using h1
        simp only [h1', Bool.not_true, Bool.and_false, gd_false, Option.bind_some, Bool.true_or, Bool.and_true]
        by_cases hm : mat1 x h = true
        · have hm' : decide ((bits .and .i64 h x.Cube.Mask) = x.Cube.Bits) = true := hm
          rw [hm', if_pos rfl, Option.bind_some, e]
          exact ih (p ++ [x]) p.length (bstep1 h none x) (by rw [hp]; simp) (.inr ⟨p.length, x, rfl, hx, by unfold bstep1; simp [hm]⟩)
        · have hm' : decide ((bits .and .i64 h x.Cube.Mask) = x.Cube.Bits) = false := by
            cases hd : decide ((bits .and .i64 h x.Cube.Mask) = x.Cube.Bits) with
            | false => rfl
            | true => exact absurd hd hm
          rw [hm', if_neg (by simp), Option.bind_some, e]
          exact ih (p ++ [x]) s (bstep1 h none x) (by rw [hp]; simp) (.inl ⟨h1, by unfold bstep1; simp [hm]⟩)
      · have h1' : decide ((j : Int) < 0) = false := by simp
        obtain ⟨c, hc, hcp⟩ := s_aboveV x r
        have hi : idx t (j : Int) = some r := by rw [idx_nat]; exact h2
        by_cases hm : mat1 x h = true
        · have hm' : decide ((bits .and .i64 h x.Cube.Mask) = x.Cube.Bits) = true := hm
          simp only [hm, hm', h1', Bool.not_false, Bool.and_self, gd_true, hi, hc, Option.bind_some, Bool.false_or, Bool.true_and]
          by_cases ha : abv x r
          · rw [if_pos (by simpa using hcp.2 ha), Option.bind_some, e]
            exact ih (p ++ [x]) p.length (bstep1 h (some r) x) (by rw [hp]; simp) (.inr ⟨p.length, x, rfl, hx, by unfold bstep1; simp [hm, ha]⟩)
          · rw [if_neg (by simpa using fun h => ha (hcp.1 h)), Option.bind_some, e]
            exact ih (p ++ [x]) j (bstep1 h (some r) x) (by rw [hp]; simp) (.inr ⟨j, r, rfl, h2, by unfold bstep1; simp [ha]⟩)
        · have hm' : decide ((bits .and .i64 h x.Cube.Mask) = x.Cube.Bits) = false := by
            cases hd : decide ((bits .and .i64 h x.Cube.Mask) = x.Cube.Bits) with
            | false => rfl
            | true => exact absurd hd hm
          have hm2 : mat1 x h = false := by simpa using hm
          simp only [hm2, hm', Bool.false_and, gd_false, Option.bind_some, Bool.false_eq_true, if_false]
          rw [e]
          exact ih (p ++ [x]) j (bstep1 h (some r) x) (by rw [hp]; simp) (.inr ⟨j, r, rfl, h2, by unfold bstep1; simp [hm]⟩)
  obtain ⟨i, h1, h2⟩ := this t [] (-1) none rfl (.inl ⟨by decide, rfl⟩)
  exact ⟨i, h1, h2⟩

/-- the same key -/
def K (y x : T_Rule) : Bool := decide (y.Prio = x.Prio) && decide (y.Cube = x.Cube)
theorem K_symm {y x : T_Rule} (h : K y x = false) : K x y = false := by
  unfold K at *
  cases h2 : decide (x.Prio = y.Prio) && decide (x.Cube = y.Cube) with
  | false => rfl
  | true =>
    simp only [Bool.and_eq_true, decide_eq_true_eq] at h2
    rw [h2.1, h2.2] at h
    simp at h
theorem s_cfK (x : T_Rule) (l : List T_Rule) (hl : (l.length : Int) ≤ maxI) : t_slices_ContainsFunc_api_Table_api_Rule l (fun a33 => t_rule_Table_1 a33 x) = some (l.any fun y => K y x) := by
  unfold t_slices_ContainsFunc_api_Table_api_Rule t_slices_IndexFunc_api_Table_api_Rule
  rw [join_eq, loopI_eq hl]
  have hk : ∀ y : T_Rule, t_rule_Table_1 y x = some (K y x) := fun y => rfl
  have : ∀ (l : List T_Rule) (i : Int), 0 ≤ i → ∃ j, goI (fun (i13 : Int) x14 (s9 : Unit) k10 => (t_rule_Table_1 x14 x).bind fun r22 => if r22 = true then (some i13) else (k10 ())) (fun _ => some (-1 : Int)) i l () = some j ∧ (decide (0 ≤ j)) = l.any fun y => K y x := by
    intro l
    induction l with
    | nil => intro i _; exact ⟨-1, rfl, rfl⟩
    | cons y l ih =>
      intro i hi
      rw [goI, hk, Option.bind_some]
      cases h : K y x with
      | true => exact ⟨i, if_pos rfl, by simp [h, hi]⟩
      | false =>
        obtain ⟨j, h1, h2⟩ := ih (i + 1) (by omega)
        refine ⟨j, ?_, by rw [h2]; simp [h]⟩
        rw [if_neg (by simp)]; exact h1
  obtain ⟨j, h1, h2⟩ := this l 0 (Int.le_refl _)
  rw [h1, Option.bind_some, h2]
/-- a table that is right -/
structure tGood (t : List T_Rule) : Prop where
  len : t.length ≤ 12
  chk : ∀ x ∈ t, t_rule_Check x = some 0
  keys : t.Pairwise fun x y => K x y = false
theorem tGood.rev {t : List T_Rule} (h : tGood t) : tGood t.reverse :=
  ⟨by rw [List.length_reverse]; exact h.len, fun x hx => h.chk x (List.mem_reverse.1 hx), List.pairwise_reverse.2 (h.keys.imp fun hab => K_symm hab)⟩
theorem tGood.eq {t : List T_Rule} (h : tGood t) {a b : T_Rule} (ha : a ∈ t) (hb : b ∈ t) (hk : K a b = true) : a = b := by
  have := h.keys
  clear h
  induction t with
  | nil => cases ha
  | cons x l ih =>
    rw [List.pairwise_cons] at this
    rcases List.mem_cons.1 ha with ea | ha2 <;> rcases List.mem_cons.1 hb with eb | hb2
    · rw [ea, eb]
    · rw [ea, this.1 b hb2] at hk; cases hk
    · rw [eb, K_symm (this.1 a ha2)] at hk; cases hk
    · exact ih ha2 hb2 this.2
theorem ruleCheck_some (r : T_Rule) : ∃ c, t_rule_Check r = some c := by
  unfold t_rule_Check
  have e1 : ∃ b, t_cube_Header r.Set = some b := ⟨_, rfl⟩
  have e2 : ∃ b, t_cube_Header r.Value = some b := ⟨_, rfl⟩
  obtain ⟨b1, e1⟩ := e1
  obtain ⟨b2, e2⟩ := e2
  have e3 : ∃ c, t_cube_Check r.Cube = some c := by
    unfold t_cube_Check
    have e3 : ∃ b, t_cube_Header r.Cube.Mask = some b := ⟨_, rfl⟩
    have e4 : ∃ b, t_cube_Header r.Cube.Bits = some b := ⟨_, rfl⟩
    obtain ⟨b3, e3⟩ := e3
    obtain ⟨b4, e4⟩ := e4
    rw [e3, e4]
    cases b3 <;> cases b4 <;> simp only [gd, Bool.not_true, Bool.not_false, if_true, Bool.or_self, Bool.true_or, Bool.or_true, Bool.false_eq_true, if_false, Option.bind_some] <;> first | exact ⟨_, rfl⟩ | (split <;> exact ⟨_, rfl⟩)
  obtain ⟨c, e3⟩ := e3
  rw [e1, e2, e3]
  cases hA : (((decide (r.Prio < 0) || decide (99 < r.Prio)) || decide (r.Out < 0)) || decide (4 < r.Out)) with
  | true => exact ⟨1, by simp [gd]⟩
  | false =>
    cases b1 <;> cases b2 <;> simp only [gd, Bool.not_true, Bool.not_false, if_true, Bool.or_self, Bool.true_or, Bool.or_true, Bool.false_eq_true, if_false, Option.bind_some, Bool.or_false, Bool.false_or] <;> first | exact ⟨_, rfl⟩ | (split <;> first | exact ⟨_, rfl⟩ | (split <;> exact ⟨_, rfl⟩))
theorem s_tableG (t : List T_Rule) : ∃ e, t_rule_Table t = some e ∧ (e = 0 ↔ tGood t) := by
  have hM : maxI = 9223372036854775807 := rfl
  unfold t_rule_Table
  by_cases h1 : t.length > 12
  · rw [if_pos (by simp; omega)]
    exact ⟨4, rfl, by simp, fun h => absurd h.len (by omega)⟩
  · rw [if_neg (by simp; omega), join_eq, loopI_eq (by omega)]
    have : ∀ (l p : List T_Rule), t = p ++ l → ∃ e, goI (fun (i17 : Int) x18 (s13 : Unit) k14 =>
        (t_rule_Check x18).bind fun r28 =>
        if (!decide (r28 = 0)) = true then (some r28) else (
        (slc_hi t i17).bind fun r32 =>
        (t_slices_ContainsFunc_api_Table_api_Rule r32 (fun (a33 : T_Rule) => t_rule_Table_1 a33 x18)).bind fun r35 =>
        if r35 = true then (some 7) else (k14 ()))) (fun (s13 : Unit) => some 0) (p.length : Int) l () = some e ∧ (e = 0 ↔ (∀ x ∈ l, t_rule_Check x = some 0) ∧ (l.Pairwise fun x y => K x y = false) ∧ ∀ a ∈ p, ∀ x ∈ l, K a x = false) := by
      intro l
      induction l with
      | nil => intro p _; exact ⟨0, rfl, by simp⟩
      | cons x l ih =>
        intro p hp
        have hpl : p.length ≤ t.length := by rw [hp]; simp
        obtain ⟨c, hc⟩ := ruleCheck_some x
        rw [goI, hc, Option.bind_some]
        by_cases h2 : c = 0
        · subst h2
          have hs : slc_hi t (p.length : Int) = some p := by
            unfold slc_hi
            rw [if_pos ⟨by omega, by omega⟩, Int.toNat_natCast, hp]; simp
          rw [if_neg (by simp), hs, Option.bind_some, s_cfK x p (by omega), Option.bind_some]
          cases ha : p.any fun y => K y x with
          | true =>
            obtain ⟨y, hy, hk⟩ := List.any_eq_true.1 ha
            refine ⟨7, if_pos rfl, by simp, fun h => ?_⟩
            rw [h.2.2 y hy x (by simp)] at hk; cases hk
          | false =>
            obtain ⟨e, he, hiff⟩ := ih (p ++ [x]) (by rw [hp]; simp)
            have el : (p.length : Int) + 1 = (((p ++ [x]).length : Nat) : Int) := by simp
            refine ⟨e, by rw [if_neg (by simp), el]; exact he, hiff.trans ?_⟩
            have hno : ∀ y ∈ p, K y x = false := fun y hy => by
              have := List.any_eq_false.1 ha y hy
              simpa using this
            constructor
            · rintro ⟨q1, q2, q3⟩
              refine ⟨fun y hy => ?_, List.pairwise_cons.2 ⟨fun y hy => q3 x (by simp) y hy, q2⟩, fun a hap y hy => ?_⟩
              · rcases List.mem_cons.1 hy with rfl | hy
                · exact hc
                · exact q1 y hy
              · rcases List.mem_cons.1 hy with rfl | hy
                · exact hno a hap
                · exact q3 a (by simp [hap]) y hy
            · rintro ⟨q1, q2, q3⟩
              rw [List.pairwise_cons] at q2
              refine ⟨fun y hy => q1 y (by simp [hy]), q2.2, fun a hap y hy => ?_⟩
              rcases List.mem_append.1 hap with hap | hap
              · exact q3 a hap y (by simp [hy])
              · rw [List.mem_singleton.1 hap]; exact q2.1 y hy
        · rw [if_pos (by simpa using h2)]
          refine ⟨c, rfl, fun h => absurd h h2, fun h => ?_⟩
          have := h.1 x (by simp)
          rw [hc] at this
          exact Option.some.inj this
    obtain ⟨e, he, hiff⟩ := this t [] rfl
    refine ⟨e, he, hiff.trans ⟨fun h => ⟨by omega, h.1, h.2.1⟩, fun h => ⟨h.chk, h.keys, by simp⟩⟩⟩
/-- what a lookup comes to -/
theorem s_Lookup (t : List T_Rule) (h : Int) : ∃ i e, t_rule_Lookup t h = some (i, e) ∧ (e = 0 ↔ tGood t ∧ (0 ≤ h ∧ h < 16) ∧ best h t ≠ none) ∧ (e = 0 → ∃ (j : Nat) (r : T_Rule), i = j ∧ t[j]? = some r ∧ best h t = some r) := by
  obtain ⟨e, he, hiff⟩ := s_tableG t
  unfold t_rule_Lookup
  rw [he, Option.bind_some]
  by_cases h0 : e = 0
  · subst h0
    have hg := hiff.1 rfl
    rw [if_neg (by simp)]
    have hh : t_cube_Header h = some (decide (0 ≤ h) && decide (h < 16)) := rfl
    rw [hh, Option.bind_some]
    cases hb : decide (0 ≤ h) && decide (h < 16) with
    | false =>
      refine ⟨0, 1, by simp, ⟨fun h9 => by simp at h9, fun h9 => ?_⟩, fun h9 => by simp at h9⟩
      rw [decide_eq_true h9.2.1.1, decide_eq_true h9.2.1.2] at hb
      cases hb
    | true =>
      have hr : 0 ≤ h ∧ h < 16 := by simpa using hb
      rw [if_neg (by simp)]
      obtain ⟨i, hi, hc⟩ := s_FindB t h (by have := hg.len; omega)
      rw [hi, Option.bind_some]
      rcases hc with ⟨h1, h2⟩ | ⟨j, r, h1, h2, h3⟩
      · rw [if_pos (by simpa using h1)]
        exact ⟨0, 5, rfl, by simp [h2], by simp⟩
      · rw [if_neg (by simp; omega)]
        exact ⟨i, 0, rfl, by simp [hg, hr, h3], fun _ => ⟨j, r, h1, h2, h3⟩⟩
  · rw [if_pos (by simpa using h0)]
    exact ⟨0, e, rfl, ⟨fun h1 => absurd h1 h0, fun h1 => absurd (hiff.2 h1.1) h0⟩, fun h1 => absurd h1 h0⟩
theorem best_rev {t : List T_Rule} (ht : tGood t) (h : Int) : best h t.reverse = best h t := by
  cases hb : best h t with
  | none =>
    cases hc : best h t.reverse with
    | none => rfl
    | some r =>
      obtain ⟨h1, h2, _⟩ := best_some hc
      rw [best_none hb r (List.mem_reverse.1 h1)] at h2
      cases h2
  | some q =>
    obtain ⟨h1, h2, h3⟩ := best_some hb
    cases hc : best h t.reverse with
    | none => rw [best_none hc q (List.mem_reverse.2 h1)] at h2; cases h2
    | some r =>
      obtain ⟨k1, k2, k3⟩ := best_some hc
      have k1 := List.mem_reverse.1 k1
      have a1 := h3 r k1 k2
      have a2 := k3 q (List.mem_reverse.2 h1) h2
      have hk : K q r = true := by
        unfold abv at a1 a2
        unfold K
        simp only [Bool.and_eq_true, decide_eq_true_eq, T_Cube.ext_iff2]
        omega
      rw [ht.eq h1 k1 hk]
theorem goI_some {α β σ : Type} {stp : Int → α → σ → (σ → Option β) → Option β} {fin : σ → Option β} (hf : ∀ q, ∃ v, fin q = some v) (hs : ∀ i y q k, (∀ q', ∃ v, k q' = some v) → ∃ v, stp i y q k = some v) : ∀ (l : List α) (i : Int) (q : σ), ∃ v, goI stp fin i l q = some v
  | [], i, q => hf q
  | y :: l, i, q => hs i y q _ fun q' => goI_some hf hs l (i + 1) q'
theorem cubeParse_some (s : ByteArray) (hs : s.size ≤ 1048576) : ∃ x, t_cube_Parse s = some x := by
  unfold t_cube_Parse
  split
  · exact ⟨_, rfl⟩
  · rw [need_pos (decide_eq_true (by unfold maxI; omega)), join_eq, loopI_eq (by rw [numsOf_len]; unfold maxI; omega)]
    refine goI_some (fun q => ⟨_, rfl⟩) (fun i y q k hk => ?_) _ _ _
    simp only [join_eq]
    split
    · exact hk _
    · split
      · exact hk _
      · split
        · exact hk _
        · exact ⟨_, rfl⟩
theorem number_some (s : ByteArray) (hs : s.size ≤ 1048576) : ∃ x, t_rule_Number s = some x := ⟨_, if_pos (by omega)⟩
theorem idx_some' {α : Type} {l : List α} {n : Nat} (h : n < l.length) : ∃ x, idx l (n : Int) = some x ∧ x ∈ l := ⟨l[n], by rw [idx_nat]; exact List.getElem?_eq_getElem h, List.getElem_mem h⟩
theorem read_some (L : List ByteArray) (hL : ∀ w ∈ L, w.size ≤ 1048576) : ∃ x, t_rule_read L = some x := by
  unfold t_rule_read
  by_cases h3 : L.length < 3
  · rw [if_pos (by simp; omega)]; exact ⟨_, rfl⟩
  rw [if_neg (by simp; omega)]
  obtain ⟨w0, i0, m0⟩ := idx_some' (l := L) (n := 0) (by omega)
  obtain ⟨w1, i1, m1⟩ := idx_some' (l := L) (n := 1) (by omega)
  obtain ⟨w2, i2, m2⟩ := idx_some' (l := L) (n := 2) (by omega)
  obtain ⟨n0, e0⟩ := number_some w0 (hL _ m0)
  obtain ⟨c1, e1⟩ := cubeParse_some w1 (hL _ m1)
  have i0' : idx L 0 = some w0 := i0
  have i1' : idx L 1 = some w1 := i1
  have i2' : idx L 2 = some w2 := i2
  rw [i0', Option.bind_some, e0, Option.bind_some, i1', Option.bind_some, e1, Option.bind_some]
  split
  · exact ⟨_, rfl⟩
  rw [i2', Option.bind_some]
  split
  · exact ⟨_, rfl⟩
  rw [Option.bind_some]
  split
  · exact ⟨_, rfl⟩
  rename_i hbad
  have hlen : L.length = 4 ∨ L.length = 6 := by
    by_cases h4 : L.length = 4
    · exact .inl h4
    · by_cases h6 : L.length = 6
      · exact .inr h6
      · exfalso; apply hbad
        rw [show decide ((L.length : Int) ≠ 4) = true by simp; omega, show decide ((L.length : Int) ≠ 6) = true by simp; omega]
        simp
  obtain ⟨w3, i3, m3⟩ := idx_some' (l := L) (n := 3) (by omega)
  obtain ⟨n3, e3⟩ := number_some w3 (hL _ m3)
  have i3' : idx L 3 = some w3 := i3
  rw [i3', Option.bind_some, e3, Option.bind_some]
  split
  · exact ⟨_, rfl⟩
  by_cases h6 : L.length = 6
  · obtain ⟨w5, i5, m5⟩ := idx_some' (l := L) (n := 5) (by omega)
    obtain ⟨w4, i4, m4⟩ := idx_some' (l := L) (n := 4) (by omega)
    obtain ⟨c5, e5⟩ := cubeParse_some w5 (hL _ m5)
    have i5' : idx L 5 = some w5 := i5
    have i4' : idx L 4 = some w4 := i4
    rw [if_pos (by simp; omega), i5', Option.bind_some, e5, Option.bind_some, i4', Option.bind_some]
    exact ⟨_, rfl⟩
  · rw [if_neg (by simp; omega)]; exact ⟨_, rfl⟩
theorem glue_len (c : UInt8) : ∀ (ws : List (List UInt8)) (w : List UInt8), w ∈ ws → w.length ≤ (glue c ws).length
  | [], w, h => by cases h
  | [x], w, h => by rw [List.mem_singleton.1 h]; exact Nat.le_refl _
  | x :: y :: ws, w, h => by
    rw [glue, List.length_append, List.length_cons]
    rcases List.mem_cons.1 h with rfl | h
    · omega
    · have := glue_len c (y :: ws) w h; omega
theorem parse_some (s : ByteArray) (hs : s.size ≤ 1048576) : ∃ x, t_rule_Parse s = some x := by
  unfold t_rule_Parse
  obtain ⟨L, hL⟩ : ∃ L, t_Split s sp = some L := ⟨_, if_pos ⟨by omega, by decide⟩⟩
  have hw : ∀ w ∈ L, w.size ≤ 1048576 := fun w hw => by
    have h1 := glue_len 32 (L.map (·.data.toList)) w.data.toList (List.mem_map_of_mem (f := (·.data.toList)) hw)
    rw [← split_glue hL] at h1
    have a1 : w.data.toList.length = w.size := by simp
    have a2 : s.data.toList.length = s.size := by simp
    omega
  obtain ⟨x, hx⟩ := read_some L hw
  rw [hL, Option.bind_some, hx, Option.bind_some]
  split
  · exact ⟨_, rfl⟩
  obtain ⟨c, hc⟩ := ruleCheck_some x.1
  rw [hc, Option.bind_some]
  split <;> exact ⟨_, rfl⟩
theorem print_some (r : T_Rule) : ∃ x, t_rule_Print r = some x := by
  obtain ⟨c, hc⟩ := ruleCheck_some r
  by_cases h0 : c = 0
  · subst h0
    obtain ⟨u, _, _, e, _⟩ := rule_txt hc
    exact ⟨_, e⟩
  · unfold t_rule_Print
    rw [hc, Option.bind_some, if_pos (by simpa using h0)]
    exact ⟨_, rfl⟩
theorem s_HasM (c : T_Cube) (h : Int) : ∃ b, t_cube_Has c h = some b ∧ (b = true → bits .and .i64 h c.Mask = c.Bits) ∧ (t_cube_Check c = some 0 → 0 ≤ h ∧ h < 16 → bits .and .i64 h c.Mask = c.Bits → b = true) := by
  unfold t_cube_Has
  obtain ⟨v, hv⟩ : ∃ v, t_cube_Check c = some v := by
    unfold t_cube_Check
    have e3 : ∃ b, t_cube_Header c.Mask = some b := ⟨_, rfl⟩
    have e4 : ∃ b, t_cube_Header c.Bits = some b := ⟨_, rfl⟩
    obtain ⟨b3, e3⟩ := e3
    obtain ⟨b4, e4⟩ := e4
    rw [e3, e4]
    cases b3 <;> cases b4 <;> simp only [gd, Bool.not_true, Bool.not_false, if_true, Bool.or_self, Bool.true_or, Bool.or_true, Bool.false_eq_true, if_false, Option.bind_some] <;> first | exact ⟨_, rfl⟩ | (split <;> exact ⟨_, rfl⟩)
  rw [hv, Option.bind_some]
  by_cases h0 : v = 0
  · subst h0
    have hh : t_cube_Header h = some (decide (0 ≤ h) && decide (h < 16)) := rfl
    simp only [decide_true, gd_true, hh, Option.bind_some, Bool.true_and]
    refine ⟨_, rfl, fun hb => ?_, fun _ hr hm => ?_⟩
    · simp only [Bool.and_eq_true, decide_eq_true_eq] at hb; exact hb.2
    · simp [hr.1, hr.2, hm]
  · rw [decide_eq_false h0]
    simp only [gd_false, Option.bind_some, Bool.false_and]
    exact ⟨false, rfl, (fun hb => by cases hb), (fun hx => absurd (Option.some.inj hx) h0)⟩
section
variable {α β σ : Type}
/-- a loop comes to something that has Q -/
theorem goI_ex {step : Int → α → σ → (σ → Option β) → Option β} {fin : σ → Option β} {I : Int → List α → σ → Prop} {Q : β → Prop} (hfin : ∀ i s, I i [] s → ∃ v, fin s = some v ∧ Q v)
    (hstep : ∀ i x l s k, I i (x :: l) s → (∀ s', I (i + 1) l s' → ∃ v, k s' = some v ∧ Q v) → ∃ v, step i x s k = some v ∧ Q v) : ∀ (l : List α) (i : Int) (s : σ), I i l s → ∃ v, goI step fin i l s = some v ∧ Q v
  | [], i, s, h => hfin i s h
  | x :: l, i, s, h => hstep i x l s _ h fun s' h' => goI_ex hfin hstep l (i + 1) s' h'
theorem loopI_ex {step : Int → α → σ → (σ → Option β) → Option β} {fin : σ → Option β} (I : Int → List α → σ → Prop) {Q : β → Prop} {l : List α} {s : σ} (hl : (l.length : Int) ≤ 9223372036854775807) (h0 : I 0 l s) (hfin : ∀ i s, I i [] s → ∃ v, fin s = some v ∧ Q v)
    (hstep : ∀ i x l s k, I i (x :: l) s → (∀ s', I (i + 1) l s' → ∃ v, k s' = some v ∧ Q v) → ∃ v, step i x s k = some v ∧ Q v) : ∃ v, loopI l step fin s = some v ∧ Q v := by
  rw [loopI_eq hl]; exact goI_ex hfin hstep l 0 s h0
theorem goU_ex {step : Int → σ → (σ → Option β) → Option β} {fin : Int → σ → Option β} {I : Nat → Int → σ → Prop} {Q : β → Prop} (hfin : ∀ i s, I 0 i s → ∃ v, fin i s = some v ∧ Q v)
    (hstep : ∀ m i s k, I (m + 1) i s → (∀ s', I m (i + 1) s' → ∃ v, k s' = some v ∧ Q v) → ∃ v, step i s k = some v ∧ Q v) : ∀ (m : Nat) (i : Int) (s : σ), I m i s → ∃ v, goU step fin m i s = some v ∧ Q v
  | 0, i, s, h => hfin i s h
  | m + 1, i, s, h => hstep m i s _ h fun s' h' => goU_ex hfin hstep m (i + 1) s' h'
end
theorem s_cube_Has (c : T_Cube) (h : Int) : t_cube_Has c h = some (hs c h) := by
  unfold t_cube_Has hs chas
  simp only [s_cube_Check, s_cube_Header, Option.bind_some]
  by_cases h1 : cf c = 0 <;> simp [h1, gd_true, gd_false]
  unfold hdr; rw [Bool.eq_iff_iff]; simp
theorem s_rHas (c : T_Cube) (h : Int) : t_railref1_Has c h = some (hs c h) := by
  unfold t_railref1_Has hs chas
  simp only [s_rCube, s_rHeader, Option.bind_some]
  cases h2 : hdr h <;> simp only [hdr_iff, hdr_not] at h2 <;> simp [h2, gd_true, gd_false]
def rchk (p m b o s v : Int) : Int :=
  if 0 ≤ p ∧ p ≤ 99 ∧ 0 ≤ o ∧ o ≤ 4 ∧ (0 ≤ s ∧ s < 16) ∧ (0 ≤ v ∧ v < 16) then
    (if cchk m b = 0 then (if bits .andNot .i64 v s = 0 ∧ ¬ (o = 0 ∧ s ≠ 0) then 0 else 3) else cchk m b)
  else 1
theorem rchk_0 {p m b o s v : Int} (h : rchk p m b o s v = 0) : (0 ≤ p ∧ p ≤ 99 ∧ 0 ≤ o ∧ o ≤ 4 ∧ (0 ≤ s ∧ s < 16) ∧ (0 ≤ v ∧ v < 16)) ∧ cchk m b = 0 ∧ bits .andNot .i64 v s = 0 ∧ ¬ (o = 0 ∧ s ≠ 0) := by
  unfold rchk at h
  split at h
  · rename_i h1
    split at h
    · rename_i h2
      split at h
      · rename_i h3; exact ⟨h1, h2, h3.1, h3.2⟩
      · cases h
    · rename_i h2; exact absurd h h2
  · cases h
def T_Rule.chk (x : T_Rule) : Int := rchk x.Prio x.Cube.Mask x.Cube.Bits x.Out x.Set x.Value
theorem rchk_ite (p m b o s v : Int) (hs hv : Bool) (h1 : hs = true ↔ 0 ≤ s ∧ s < 16) (h2 : hv = true ↔ 0 ≤ v ∧ v < 16) (e : Int) (he : e = cchk m b) :
    (if (((((decide (p < 0) || decide (99 < p)) || decide (o < 0)) || decide (4 < o)) || !hs) || !hv) = true then some (1 : Int) else
      if (!decide (e = 0)) = true then some e else if (decide (bits .andNot .i64 v s ≠ 0) || (decide (o = 0) && decide (s ≠ 0))) = true then some 3 else some 0) = some (rchk p m b o s v) := by
  subst he
  unfold rchk
  by_cases h : 0 ≤ p ∧ p ≤ 99 ∧ 0 ≤ o ∧ o ≤ 4 ∧ (0 ≤ s ∧ s < 16) ∧ (0 ≤ v ∧ v < 16)
  · rw [if_neg (by rw [h1.2 h.2.2.2.2.1, h2.2 h.2.2.2.2.2]; simp; omega), if_pos h]
    by_cases hk : cchk m b = 0
    · rw [if_neg (by simp [hk]), if_pos hk]
      generalize bits .andNot .i64 v s = B
      by_cases h3 : B = 0 <;> by_cases h4 : o = 0 <;> by_cases h5 : s = 0 <;> simp [h3, h4, h5]
    · rw [if_pos (by simp [hk]), if_neg hk]
  · rw [if_neg h, if_pos]
    cases hs <;> cases hv <;> simp at h1 h2 ⊢
    omega
theorem s_rule_Check (r : T_Rule) : t_rule_Check r = some r.chk := by
  have key := rchk_ite r.Prio r.Cube.Mask r.Cube.Bits r.Out r.Set r.Value (hdr r.Set) (hdr r.Value) hdr_iff hdr_iff (cf r.Cube) rfl
  unfold t_rule_Check T_Rule.chk
  simp only [s_cube_Header, s_cube_Check, Option.bind_some]
  rw [← key]
  cases hA : (((decide (r.Prio < 0) || decide (99 < r.Prio)) || decide (r.Out < 0)) || decide (4 < r.Out))
  · cases hB : hdr r.Set
    · simp [gd_true, gd_false]
    · simp only [Bool.false_or, Bool.not_false, Bool.not_true, gd_true, Option.bind_some]
  · simp [gd_false]
theorem s_rRule (r : T_Rule) : t_railref1_Rule r = some r.chk := by
  have key := rchk_ite r.Prio r.Cube.Mask r.Cube.Bits r.Out r.Set r.Value (hdr r.Set) (hdr r.Value) hdr_iff hdr_iff (cf r.Cube) rfl
  unfold t_railref1_Rule T_Rule.chk
  simp only [s_rHeader, s_rCube, Option.bind_some]
  rw [← key]
  by_cases hA : (((((decide (r.Prio < 0) || decide (99 < r.Prio)) || decide (r.Out < 0)) || decide (4 < r.Out)) || !hdr r.Set) || !hdr r.Value) = true
  · rw [if_pos hA, if_pos hA]
  · rw [if_neg hA, if_neg hA]
    have hv : 0 ≤ r.Set ∧ r.Set < 16 ∧ 0 ≤ r.Value ∧ r.Value < 16 := by
      simp only [Bool.or_eq_true, not_or, Bool.not_eq_true', Bool.not_eq_false, hdr_iff] at hA
      omega
    have e2 : cf (⟨r.Set, r.Value⟩ : T_Cube) = if bits .andNot .i64 r.Value r.Set = 0 then 0 else 3 := by
      unfold cf cchk; rw [if_pos hv]
    rw [e2]
    by_cases h0 : cf r.Cube = 0
    · by_cases h3 : bits .andNot .i64 r.Value r.Set = 0 <;> simp [h0, h3, gd_true, gd_false]
    · simp [h0]

/-- what is wrong with a table: of those behind some -/
def tabG : List T_Rule → List T_Rule → Int
  | _, [] => 0
  | p, x :: l => if x.chk ≠ 0 then x.chk else if (p.any fun y => decide (y.Prio = x.Prio) && decide (y.Cube = x.Cube)) = true then 7 else tabG (p ++ [x]) l
theorem tabG_ok : ∀ {p l : List T_Rule}, tabG p l = 0 → ∀ r ∈ l, r.chk = 0
  | _, [], _ => fun r h => by cases h
  | p, x :: l, h => by
    unfold tabG at h
    split at h
    · rename_i h1; exact absurd h h1
    · rename_i h1
      split at h
      · cases h
      · intro r hr
        rcases List.mem_cons.1 hr with rfl | hr
        · exact Classical.not_not.1 h1
        · exact tabG_ok h r hr
def tabF (t : List T_Rule) : Int := if 12 < (t.length : Int) then 4 else tabG [] t
theorem goI_tab {t : List T_Rule} {step : Int → T_Rule → Unit → (Unit → Option Int) → Option Int} {fin : Unit → Option Int} (hf : fin () = some 0) (ht : ¬ 12 < (t.length : Int))
    (h : ∀ (p l : List T_Rule) x k, t = p ++ x :: l → step (p.length : Int) x () k = if x.chk ≠ 0 then some x.chk else if (p.any fun y => decide (y.Prio = x.Prio) && decide (y.Cube = x.Cube)) = true then some 7 else k ()) :
    ∀ (l p : List T_Rule), t = p ++ l → goI step fin (p.length : Int) l () = some (tabG p l)
  | [], p, _ => hf
  | x :: l, p, e => by
    rw [goI, h p l x _ e, tabG]
    have e2 := goI_tab hf ht h l (p ++ [x]) (by rw [e]; simp)
    have e3 : (((p ++ [x]).length : Nat) : Int) = (p.length : Int) + 1 := by simp
    rw [e3] at e2
    rw [e2]
    split
    · rfl
    · split <;> rfl
theorem take_pre {p l : List T_Rule} : (p ++ l).take p.length = p := by simp
theorem s_rTable (t : List T_Rule) : t_railref1_Table t = some (tabF t) := by
  have hM : maxI = 9223372036854775807 := rfl
  unfold t_railref1_Table tabF
  by_cases h : 12 < (t.length : Int)
  · rw [if_pos (decide_eq_true h), if_pos h]
  rw [if_neg (by simpa using h), if_neg h]
  simp only [join_eq]
  rw [loopI_eq (by omega)]
  refine goI_tab (t := t) rfl h (fun p l x k e => ?_) t [] rfl
  rw [s_rRule, Option.bind_some]
  have hp : p.length ≤ t.length := by rw [e]; simp
  rw [loopU_any (l := t) (fun y => decide (y.Prio = x.Prio) && decide (y.Cube = x.Cube)) (r := 7) (by omega) (by omega) (by omega) (fun n y k hy => ?_)]
  · have : ((p.length : Int)).toNat = p.length := rfl
    rw [this, e, take_pre]
    by_cases hx : x.chk = 0 <;> simp [hx]
  · rw [idx_nat, hy]
    simp only [Option.bind_some]
    by_cases h1 : y.Prio = x.Prio <;> simp [h1, gd_true, gd_false]
theorem s_rule_Table (t : List T_Rule) : t_rule_Table t = some (tabF t) := by
  have hM : maxI = 9223372036854775807 := rfl
  unfold t_rule_Table tabF
  by_cases h : 12 < (t.length : Int)
  · rw [if_pos (decide_eq_true h), if_pos h]
  rw [if_neg (by simpa using h), if_neg h]
  simp only [join_eq]
  rw [loopI_eq (by omega)]
  refine goI_tab (t := t) rfl h (fun p l x k e => ?_) t [] rfl
  rw [s_rule_Check, Option.bind_some]
  have hp : p.length ≤ t.length := by rw [e]; simp
  have hs : slc_hi t (p.length : Int) = some p := by
    unfold slc_hi
    rw [if_pos ⟨by omega, by omega⟩]
    have : ((p.length : Int)).toNat = p.length := rfl
    rw [this, e, take_pre]
  rw [hs, Option.bind_some]
  have hc : t_slices_ContainsFunc_api_Table_api_Rule p (fun a33 => t_rule_Table_1 a33 x) = some (p.any fun y => decide (y.Prio = x.Prio) && decide (y.Cube = x.Cube)) := by
    unfold t_slices_ContainsFunc_api_Table_api_Rule
    have : ∃ j, t_slices_IndexFunc_api_Table_api_Rule p (fun a33 => t_rule_Table_1 a33 x) = some j ∧ decide (0 ≤ j) = p.any fun y => decide (y.Prio = x.Prio) && decide (y.Cube = x.Cube) := by
      unfold t_slices_IndexFunc_api_Table_api_Rule
      simp only [join_eq]
      refine loopI_ex (fun i l _ => 0 ≤ i ∧ (p.any fun y => decide (y.Prio = x.Prio) && decide (y.Cube = x.Cube)) = l.any fun y => decide (y.Prio = x.Prio) && decide (y.Cube = x.Cube)) (by omega) ⟨Int.le_refl _, rfl⟩ (fun i s hI => ⟨-1, rfl, by rw [hI.2]; rfl⟩) (fun i y l s k hI hk => ?_)
      simp only [t_rule_Table_1, t_rule_Key, Option.bind_some]
      obtain ⟨i0, i1⟩ := hI
      rw [List.any_cons] at i1
      cases hb : (decide (y.Prio = x.Prio) && decide (y.Cube = x.Cube)) with
      | true => exact ⟨i, rfl, by rw [i1, hb]; simpa using i0⟩
      | false =>
        rw [if_neg (by decide)]
        exact hk () ⟨by omega, by rw [i1, hb]; rfl⟩
    obtain ⟨j, e1, e2⟩ := this
    rw [e1, Option.bind_some, e2]
  rw [hc, Option.bind_some]
  by_cases hx : x.chk = 0 <;> simp [hx]
theorem tab_rules {t : List T_Rule} (h : t_rule_Table t = some 0) : ∀ r ∈ t, r.chk = 0 := by
  rw [s_rule_Table] at h
  have h := Option.some.inj h
  unfold tabF at h
  split at h
  · cases h
  · exact tabG_ok h
theorem s_rabove (a b : T_Rule) : ∃ c, t_rule_above a b = some c ∧ t_railref1_above a b = some (decide (0 < c)) := by
  unfold t_rule_above t_railref1_above
  simp only [s_cmp, s_cmpOr, Option.bind_some]
  refine ⟨_, rfl, ?_⟩
  by_cases h1 : a.Prio = b.Prio
  · by_cases h2 : a.Cube.Mask = b.Cube.Mask
    · by_cases h3 : a.Cube.Bits < b.Cube.Bits
      · simp [h1, h2, h3]; omega
      · by_cases h4 : b.Cube.Bits < a.Cube.Bits <;> simp [h1, h2, h3, h4]
    · rcases Int.lt_or_gt_of_ne h2 with h | h
      · have : ¬ b.Cube.Mask < a.Cube.Mask := by omega
        simp [h1, h2, h, this]
      · have : ¬ a.Cube.Mask < b.Cube.Mask := by omega
        simp [h1, h2, h, this]
  · rcases Int.lt_or_gt_of_ne h1 with h | h
    · have : ¬ b.Prio < a.Prio := by omega
      simp [h1, h, this]
    · have : ¬ a.Prio < b.Prio := by omega
      simp [h1, h, this]
theorem s_rFind (t : List T_Rule) (ht : ∀ r ∈ t, r.chk = 0) (h : Int) (hh : 0 ≤ h ∧ h < 16) : t_railref1_Find t h = t_rule_Find t h := by
  unfold t_railref1_Find t_rule_Find
  refine congrArg (fun o : Option Int => o.bind fun s => some s) ?_
  refine loopI_sim (fun _ l s u => s = u ∧ ∀ r ∈ l, r.chk = 0) ⟨rfl, ht⟩ (fun i s u e => by rw [e.1]) (fun i x l s u k k' e hk => ?_)
  obtain ⟨rfl, e2⟩ := e
  have hx := rchk_0 (e2 x (by simp))
  have hc : cf x.Cube = 0 := hx.2.1
  have hhas : t_railref1_Has x.Cube h = some (decide (bits .and .i64 h x.Cube.Mask = x.Cube.Bits)) := by
    unfold t_railref1_Has
    simp only [s_rHeader, s_rCube, Option.bind_some]
    have : hdr h = true := hdr_iff.2 hh
    simp [this, hc, gd_true]
  rw [hhas, Option.bind_some]
  generalize decide (bits .and .i64 h x.Cube.Mask = x.Cube.Bits) = B
  cases hB : (B && !decide (s < 0)) with
  | false =>
    simp only [gd_false, Option.bind_some]
    have : ∀ z : Bool, (B && (decide (s < 0) || z)) = (B && decide (s < 0)) := fun z => by
      cases B <;> cases hd : decide (s < 0) <;> simp [hd] at hB ⊢
    rw [this, this]
    split
    · exact hk _ _ ⟨rfl, fun r hr => e2 r (by simp [hr])⟩
    · exact hk _ _ ⟨rfl, fun r hr => e2 r (by simp [hr])⟩
  | true =>
    simp only [gd_true]
    cases idx t s with
    | none => rfl
    | some y =>
      obtain ⟨c, c1, c2⟩ := s_rabove x y
      simp only [Option.bind_some, c1, c2]
      split
      · exact hk _ _ ⟨rfl, fun r hr => e2 r (by simp [hr])⟩
      · exact hk _ _ ⟨rfl, fun r hr => e2 r (by simp [hr])⟩

def bitB (x i : Nat) : Bool := decide (x / 2 ^ i % 2 = 1)
theorem s_bit {x : Int} (hx : 0 ≤ x ∧ x < 16) (i : Fin 4) : t_railref1_bit x (i.val : Int) = some (bitB x.toNat i.val) := by
  have H : ∀ (x : Fin 16) (i : Fin 4), t_railref1_bit (x.val : Int) (i.val : Int) = some (bitB x.val i.val) := by decide +kernel
  have := H ⟨x.toNat, by omega⟩ i
  simpa [Int.toNat_of_nonneg hx.1] using this
def bstp (s v h : Nat) (i : Nat) (o : Int) : Int := if ((bitB s i && bitB v i) || (!bitB s i && bitB h i)) = true then o * 2 + 1 else o * 2
theorem turned_eq (s v h : Fin 16) (hsv : bits .andNot .i64 (v.val : Int) (s.val : Int) = 0) : bstp s v h 0 (bstp s v h 1 (bstp s v h 2 (bstp s v h 3 0))) = bits .or .i64 (bits .andNot .i64 (h.val : Int) (s.val : Int)) (v.val : Int) := by
  have H : ∀ s v h : Fin 16, bits .andNot .i64 (v.val : Int) (s.val : Int) = 0 → bstp s v h 0 (bstp s v h 1 (bstp s v h 2 (bstp s v h 3 0))) = bits .or .i64 (bits .andNot .i64 (h.val : Int) (s.val : Int)) (v.val : Int) := by decide +kernel
  exact H s v h hsv
theorem bstp_le {s v h i : Nat} {o : Int} {B : Int} (ho : 0 ≤ o ∧ o ≤ B) : 0 ≤ bstp s v h i o ∧ bstp s v h i o ≤ 2 * B + 1 := by
  unfold bstp
  split <;> omega
noncomputable def turnF (r : T_Rule) (h : Int) (k10 : Int × Int → Option Int) (s9 : Int × Int) : Option Int :=
  if (decide (0 ≤ s9.2)) = true then (
 (t_railref1_bit r.Set s9.2).bind fun r18 =>
 (t_railref1_bit r.Value s9.2).bind fun r21 =>
 (t_railref1_bit h s9.2).bind fun r23 =>
 (if ((r18 && r21) || ((!r18) && r23)) = true then (
 some (wr ((wr (s9.1 * 2)) + 1))) else (
 some (wr (s9.1 * 2)))).bind fun (s43 : Int) =>
 k10 (s43, (wr (s9.2 - 1)))) else (
 some (s9.1))
theorem turnF_step {r : T_Rule} {h : Int} (hs : 0 ≤ r.Set ∧ r.Set < 16) (hv : 0 ≤ r.Value ∧ r.Value < 16) (hh : 0 ≤ h ∧ h < 16) (k : Int × Int → Option Int) (i : Fin 4) {o : Int} (ho : 0 ≤ o ∧ o ≤ 100) : turnF r h k (o, (i.val : Int)) = k (bstp r.Set.toNat r.Value.toNat h.toNat i.val o, (i.val : Int) - 1) := by
  unfold turnF
  simp only
  rw [if_pos (by simp), s_bit hs i, s_bit hv i, s_bit hh i]
  simp only [Option.bind_some]
  rw [wr_id (x := o * 2) (by omega) (by omega), wr_id (x := o * 2 + 1) (by omega) (by omega), wr_id (x := (i.val : Int) - 1) (by omega) (by have := i.isLt; omega)]
  unfold bstp
  split <;> simp [*]
theorem s_Turned {r : T_Rule} (hr : r.chk = 0) {h : Int} (hh : 0 ≤ h ∧ h < 16) : t_railref1_Turned r h = some (bits .or .i64 (bits .andNot .i64 h r.Set) r.Value) := by
  obtain ⟨⟨_, _, _, _, hs, hv⟩, _, hz, _⟩ := rchk_0 hr
  unfold t_railref1_Turned
  obtain ⟨M, hM⟩ : ∃ M, bigN = M + 5 := ⟨bigN - 5, by have := bigN_gt; omega⟩
  rw [bind_some_id, hM]
  show tfix (turnF r h) (M + 5) (0, ((⟨3, by decide⟩ : Fin 4).val : Int)) = _
  have b3 := bstp_le (s := r.Set.toNat) (v := r.Value.toNat) (h := h.toNat) (i := 3) (o := 0) (B := 0) ⟨Int.le_refl _, Int.le_refl _⟩
  have b2 := bstp_le (s := r.Set.toNat) (v := r.Value.toNat) (h := h.toNat) (i := 2) b3
  have b1 := bstp_le (s := r.Set.toNat) (v := r.Value.toNat) (h := h.toNat) (i := 1) b2
  rw [tfix, turnF_step hs hv hh _ ⟨3, by decide⟩ ⟨Int.le_refl _, by decide⟩]
  show tfix (turnF r h) (M + 4) (_, ((⟨2, by decide⟩ : Fin 4).val : Int)) = _
  rw [tfix, turnF_step hs hv hh _ ⟨2, by decide⟩ ⟨b3.1, Int.le_trans b3.2 (by decide)⟩]
  show tfix (turnF r h) (M + 3) (_, ((⟨1, by decide⟩ : Fin 4).val : Int)) = _
  rw [tfix, turnF_step hs hv hh _ ⟨1, by decide⟩ ⟨b2.1, Int.le_trans b2.2 (by decide)⟩]
  show tfix (turnF r h) (M + 2) (_, ((⟨0, by decide⟩ : Fin 4).val : Int)) = _
  rw [tfix, turnF_step hs hv hh _ ⟨0, by decide⟩ ⟨b1.1, Int.le_trans b1.2 (by decide)⟩]
  show some _ = _
  have := turned_eq ⟨r.Set.toNat, by omega⟩ ⟨r.Value.toNat, by omega⟩ ⟨h.toNat, by omega⟩ (by simpa [Int.toNat_of_nonneg hs.1, Int.toNat_of_nonneg hv.1] using hz)
  simp only [Int.toNat_of_nonneg hs.1, Int.toNat_of_nonneg hv.1, Int.toNat_of_nonneg hh.1] at this
  rw [← this]

/-! numbers -/
/-- what the document reads as a number -/
def dnum (s : ByteArray) : Int × Bool := if s.size = 0 ∨ 9 < s.size ∨ lead0 s.data.toList = true then (0, false) else match Lib.decFrom 0 s.data.toList with
  | some n => ((n : Int), true)
  | none => (0, false)
theorem size_data (s : ByteArray) : s.data.toList.length = s.size := by simp
theorem bAt_app {s : ByteArray} {p r : List UInt8} {c : UInt8} (h : s.data.toList = p ++ c :: r) : sidx s (p.length : Int) = some (c.toNat : Int) := by
  have hl := size_data s
  rw [h] at hl
  unfold sidx
  rw [if_pos ⟨by omega, by simp at hl; omega⟩]
  congr 1
  show ((s.data.toList.getD p.length 0).toNat : Int) = _
  rw [h]
  simp
theorem dnum_loop (s : ByteArray) (j : Int → Option (Int × Bool)) (hj : ∀ n : Int, j n = some (n, true)) : ∀ (r p : List UInt8) (acc : Nat), s.data.toList = p ++ r → s.size ≤ 9 → acc < 10 ^ p.length →
    goU (fun (i46 : Int) (s42 : Int) k43 =>
      (sidx s i46).bind fun r55 =>
      (gd (!(decide (r55 < 48))) default (sidx s i46)).bind fun r64 =>
      if ((decide (r55 < 48)) || (decide (57 < r64))) = true then (some (0, false)) else (
      (sidx s i46).bind fun r72 =>
      k43 (wr ((wr ((wr (s42 * 10)) + (wr r72))) - 48)))) (fun (i46 : Int) (s42 : Int) => j (s42)) r.length (p.length : Int) (acc : Int) = some (match Lib.decFrom acc r with
        | some n => ((n : Int), true)
        | none => (0, false))
  | [], p, acc, _, _, _ => by rw [List.length_nil, goU, hj]; rfl
  | c :: r, p, acc, h, h9, ha => by
    have hp : p.length + 1 ≤ 9 := by
      have := size_data s
      rw [h] at this
      simp at this
      omega
    have hpw : 10 ^ p.length ≤ 10 ^ 8 := Nat.pow_le_pow_right (by decide) (by omega)
    have e8 : (10 : Nat) ^ 8 = 100000000 := by decide
    rw [List.length_cons, goU, bAt_app h, Option.bind_some]
    have hc := c.toNat_lt
    simp only [Lib.decFrom]
    by_cases h1 : (c.toNat : Int) < 48
    · have hd : Lib.digitVal c = none := by unfold Lib.digitVal; rw [if_neg (by omega)]
      rw [decide_eq_true h1, hd]
      rfl
    · rw [decide_eq_false h1, Bool.not_false, gd_true, Option.bind_some, Bool.false_or]
      by_cases h2 : 57 < (c.toNat : Int)
      · have hd : Lib.digitVal c = none := by unfold Lib.digitVal; rw [if_neg (by omega)]
        rw [if_pos (decide_eq_true h2), hd]
      · have hd : Lib.digitVal c = some (c.toNat - 48) := by unfold Lib.digitVal; rw [if_pos (by omega)]
        rw [if_neg (by simpa using h2), hd, Option.bind_some]
        have e : wr ((wr ((wr ((acc : Int) * 10)) + (wr (c.toNat : Int)))) - 48) = ((acc * 10 + (c.toNat - 48) : Nat) : Int) := by
          rw [wr_id (x := (acc : Int) * 10) (by omega) (by omega), wr_id (x := (c.toNat : Int)) (by omega) (by omega), wr_id (x := (acc : Int) * 10 + (c.toNat : Int)) (by omega) (by omega), wr_id (by omega) (by omega)]
          omega
        rw [e]
        have el : (p.length : Int) + 1 = (((p ++ [c]).length : Nat) : Int) := by simp
        rw [el]
        exact dnum_loop s j hj r (p ++ [c]) _ (by rw [h]; simp) h9 (by rw [List.length_append, List.length_singleton, Nat.pow_succ]; omega)
theorem s_rNumber (s : ByteArray) : t_railref1_Number s = some (dnum s) := by
  have hM : maxI = 9223372036854775807 := rfl
  have hl := size_data s
  unfold t_railref1_Number dnum
  by_cases h0 : s.size = 0
  · have e : s = ByteArray.mk #[] := data_inj (by rw [show (ByteArray.mk #[]).data.toList = [] from rfl]; exact List.eq_nil_of_length_eq_zero (by omega))
    rw [decide_eq_true e, if_pos (.inl h0)]
    rfl
  · have e : ¬ s = ByteArray.mk #[] := fun e => h0 (by rw [e]; rfl)
    rw [decide_eq_false e, Bool.false_or]
    by_cases h9 : 9 < s.size
    · rw [decide_eq_true (show 9 < (s.size : Int) by omega), if_pos (.inr (.inl h9))]
      rfl
    · rw [decide_eq_false (show ¬ 9 < (s.size : Int) by omega), Bool.not_false, gd_true]
      cases hd : s.data.toList with
      | nil => rw [hd] at hl; simp at hl; omega
      | cons c r =>
        have i0 : sidx s 0 = some (c.toNat : Int) := bAt_app (p := []) hd
        rw [i0, Option.bind_some, Bool.false_or]
        have e48 : decide ((c.toNat : Int) = 48) = decide ((c :: r).head? = some 48) := by
          rw [Bool.eq_iff_iff]
          simp only [decide_eq_true_eq, List.head?_cons, Option.some.injEq]
          constructor
          · intro h; exact UInt8.toNat_inj.1 (by have : (48 : UInt8).toNat = 48 := rfl; omega)
          · intro h; rw [h]; rfl
        have e1 : decide (1 < (s.size : Int)) = decide (1 < (c :: r).length) := by
          rw [hd] at hl
          rw [Bool.eq_iff_iff]
          simp only [decide_eq_true_eq]
          omega
        rw [e48, e1]
        show (if lead0 (c :: r) = true then _ else _) = _
        by_cases hz : lead0 (c :: r) = true
        · rw [if_pos hz, if_pos (.inr (.inr hz))]
        · rw [if_neg hz, if_neg (fun h => by rcases h with h | h | h <;> first | omega | exact hz h), join_eq, loopU_eq (by omega) (by omega)]
          have hlen : ((s.size : Int) - 0).toNat = (c :: r).length := by rw [← hd]; omega
          rw [hlen]
          exact dnum_loop s _ (fun n => rfl) (c :: r) [] 0 hd (by omega) (by decide)
/-- they are the program's -/
theorem dnum_num (s : ByteArray) (hs : s.size ≤ 1048576) : ∃ v b, t_rule_Number s = some (v, b) ∧ (dnum s).2 = b ∧ (b = true → (dnum s).1 = v) := by
  have hl := size_data s
  refine ⟨numV s, numB s, if_pos (by omega), ?_⟩
  unfold dnum
  by_cases hbad : s.size = 0 ∨ 9 < s.size ∨ lead0 s.data.toList = true
  · rw [if_pos hbad]
    have : numB s = false := by
      unfold numB
      cases ha : Lib.atoiAll s.data.toList with
      | ok v =>
        simp only
        cases hb : decide (0 ≤ v) && (decide (s.size ≤ 9) && decide (itoaZ v = s)) with
        | false => rfl
        | true =>
          exfalso
          simp only [Bool.and_eq_true, decide_eq_true_eq] at hb
          obtain ⟨h0, h9, he⟩ := hb
          have e2 : s.data.toList = Lib.decDigits v.toNat := by
            rw [← he]; unfold itoaZ Lib.itoa; rw [if_neg (by omega)]
          rcases hbad with h | h | h
          · have := digits_ne v.toNat
            rw [← e2] at this
            exact this (List.eq_nil_of_length_eq_zero (by omega))
          · omega
          · rw [e2, lead_digits] at h; cases h
      | _ => rfl
    rw [this]
    exact ⟨rfl, fun h => by cases h⟩
  · rw [if_neg hbad]
    have h0 : s.size ≠ 0 := fun h => hbad (.inl h)
    have h9 : ¬ 9 < s.size := fun h => hbad (.inr (.inl h))
    have hz : lead0 s.data.toList = false := by
      cases hz : lead0 s.data.toList with
      | false => rfl
      | true => exact absurd (.inr (.inr hz)) hbad
    have hne : s.data.toList ≠ [] := fun h => by rw [h] at hl; simp at hl; omega
    cases hd : Lib.decFrom 0 s.data.toList with
    | some n =>
      have ha := atoi_num hne (by omega) hd
      have hn := digits_of (s.data.toList.length - 1) s.data.toList n (by omega) hz hd
      have e1 : numV s = (n : Int) := by unfold numV; rw [ha]
      have e2 : numB s = true := by
        unfold numB
        rw [ha]
        simp only [Bool.and_eq_true, decide_eq_true_eq]
        refine ⟨by omega, by omega, data_inj ?_⟩
        unfold itoaZ Lib.itoa
        rw [if_neg (by omega), Int.toNat_natCast, hn]
      rw [e1, e2]
      exact ⟨rfl, fun _ => rfl⟩
    | none =>
      have : numB s = false := by
        unfold numB
        cases ha : Lib.atoiAll s.data.toList with
        | ok v =>
          simp only
          cases hb : decide (0 ≤ v) && (decide (s.size ≤ 9) && decide (itoaZ v = s)) with
          | false => rfl
          | true =>
            exfalso
            simp only [Bool.and_eq_true, decide_eq_true_eq] at hb
            have e2 : s.data.toList = Lib.decDigits v.toNat := by
              rw [← hb.2.2]; unfold itoaZ Lib.itoa; rw [if_neg (by omega)]
            rw [e2, decFrom_digits] at hd
            cases hd
        | _ => rfl
      rw [this]
      exact ⟨rfl, fun h => by cases h⟩
/-! words -/
theorem cut_len (c : UInt8) : ∀ l : List UInt8, (cut c l).length ≤ l.length + 1
  | [] => by simp [cut]
  | b :: l => by
    have := cut_len c l
    unfold cut
    split
    · simp; omega
    · split
      · rename_i e; rw [e] at this; simp at this ⊢; omega
      · simp
/-- cut, with what stands ahead of the first word's rest -/
def cutA (c : UInt8) (w : List UInt8) (l : List UInt8) : List (List UInt8) := match cut c l with
  | x :: xs => (w ++ x) :: xs
  | [] => [w]
theorem cutA_nil (c : UInt8) (l : List UInt8) : cutA c [] l = cut c l := by
  unfold cutA
  cases h : cut c l with
  | nil => exact absurd h (cut_ne c l)
  | cons x xs => rfl
theorem cutA_hit (c : UInt8) (w l : List UInt8) : cutA c w (c :: l) = w :: cut c l := by
  unfold cutA
  rw [cut, if_pos rfl]
  simp
theorem cutA_miss {b c : UInt8} (w l : List UInt8) (h : b ≠ c) : cutA c w (b :: l) = cutA c (w ++ [b]) l := by
  unfold cutA
  rw [cut, if_neg h]
  cases hl : cut c l with
  | nil => exact absurd hl (cut_ne c l)
  | cons x xs => simp
theorem cut_loop (s : ByteArray) (c : UInt8) (hs : s.size ≤ 1048576) : ∀ (r q w : List UInt8) (out : List ByteArray), s.data.toList = q ++ w ++ r → out.length ≤ q.length →
    ∃ o' f', goU (fun (i17 : Int) (s13 : ((List ByteArray) × Int)) k14 =>
      (sidx s i17).bind fun r26 =>
      (if (decide (r26 = (c.toNat : Int))) = true then (
      (sslc_lh s s13.2 i17).bind fun r36 =>
      (app s13.1 ([r36] : (List ByteArray))).bind fun r39 =>
      some (r39, (i17 + 1))) else (
      some (s13.1, s13.2))).bind fun (s30 : ((List ByteArray) × Int)) =>
      k14 (s30.1, s30.2)) (fun (i17 : Int) (s13 : ((List ByteArray) × Int)) =>
      some (s13.1, s13.2)) r.length ((q ++ w).length : Int) (out, (q.length : Int)) = some (o', f') ∧
      ∃ z, sslc_lo s f' = some z ∧ o'.length ≤ s.size ∧ (o' ++ [z]).map (·.data.toList) = out.map (·.data.toList) ++ cutA c w r
  | [], q, w, out, h, ho => by
    have hl := size_data s
    rw [h] at hl
    simp only [List.append_nil, List.length_append] at hl
    refine ⟨out, q.length, rfl, s.extract q.length s.size, ?_, by omega, ?_⟩
    · unfold sslc_lo
      rw [if_pos ⟨by omega, by omega⟩, Int.toNat_natCast]
    · have e : (s.extract q.length s.size).data.toList = w := by
        rw [ByteArray.data_extract, Array.toList_extract, h]
        have : s.size - q.length = w.length := by omega
        simp [List.extract, this]
      rw [List.map_append, List.map_singleton, e]
      show _ = out.map _ ++ [w ++ []]
      simp
  | b :: r, q, w, out, h, ho => by
    have hl := size_data s
    rw [h] at hl
    simp only [List.length_append, List.length_cons] at hl
    rw [List.length_cons, goU, bAt_app (p := q ++ w) h, Option.bind_some]
    have el : ((q ++ w).length : Int) + 1 = ((((q ++ w) ++ [b]).length : Nat) : Int) := by simp; omega
    by_cases hb : b = c
    · subst hb
      rw [if_pos (by simp)]
      have e1 : sslc_lh s (q.length : Int) ((q ++ w).length : Int) = some (s.extract q.length (q ++ w).length) := by
        unfold sslc_lh
        rw [if_pos ⟨by omega, by simp; omega, by simp; omega⟩, Int.toNat_natCast, Int.toNat_natCast]
      have e2 : (s.extract q.length (q ++ w).length).data.toList = w := by
        rw [ByteArray.data_extract, Array.toList_extract, h]
        simp [List.extract]
      dsimp only
      rw [e1, Option.bind_some, app_eq (by simp; omega), Option.bind_some, Option.bind_some, el]
      obtain ⟨o', f', h1, z, h2, h3, h4⟩ := cut_loop s b hs r ((q ++ w) ++ [b]) [] (out ++ [s.extract q.length (q ++ w).length]) (by rw [h]; simp) (by simp; omega)
      rw [List.append_nil] at h1
      refine ⟨o', f', h1, z, h2, h3, ?_⟩
      rw [h4, cutA_nil, cutA_hit, List.map_append, List.map_singleton, e2]
      simp
    · have hbn : ¬ ((b.toNat : Int) = (c.toNat : Int)) := fun e => hb (UInt8.toNat_inj.1 (by omega))
      rw [if_neg (by simpa using hbn), Option.bind_some, el]
      obtain ⟨o', f', h1, z, h2, h3, h4⟩ := cut_loop s c hs r q (w ++ [b]) out (by rw [h]; simp) ho
      refine ⟨o', f', by rw [← h1]; simp, z, h2, h3, ?_⟩
      rw [h4, cutA_miss w r hb]
theorem s_rCut (s : ByteArray) (c : UInt8) (hs : s.size ≤ 1048576) : ∃ ws, t_railref1_Cut s (c.toNat : Int) = some ws ∧ ws.map (·.data.toList) = cut c s.data.toList := by
  have hM : maxI = 9223372036854775807 := rfl
  obtain ⟨o', f', h1, z, h2, h3, h4⟩ := cut_loop s c hs s.data.toList [] [] [] (by simp) (by simp)
  refine ⟨o' ++ [z], ?_, by rw [h4, cutA_nil]; simp⟩
  unfold t_railref1_Cut
  rw [loopU_eq (by omega) (by omega)]
  have hlen : ((s.size : Int) - 0).toNat = s.data.toList.length := by rw [size_data]; omega
  rw [hlen]
  have h1' := h1
  rw [show (([] ++ [] : List UInt8).length : Int) = 0 from rfl, show (([] : List UInt8).length : Int) = 0 from rfl] at h1'
  rw [h1', Option.bind_some]
  dsimp only
  rw [h2, Option.bind_some, app_eq (by simp; omega), Option.bind_some]
/-- cut by the document as by the library -/
theorem cut_split (s : ByteArray) (hs : s.size ≤ 1048576) : ∃ ws, t_railref1_Cut s 32 = some ws ∧ t_Split s sp = some ws := by
  obtain ⟨ws, h1, h2⟩ := s_rCut s 32 hs
  refine ⟨ws, h1, ?_⟩
  unfold t_Split
  rw [if_pos ⟨by omega, by decide⟩]
  congr 1
  apply map_data_inj
  rw [split_data, h2]

section
variable {α β σ : Type}
theorem goU_stop {step : Int → σ → (σ → Option β) → Option β} {fin : Int → σ → Option β} {v : β} (good : Int → Prop) (hi : Int) (hg : ∀ i s k, good i → ∃ s', step i s k = k s') (hb : ∀ i s k, 0 ≤ i → i < hi → ¬ good i → step i s k = some v) : ∀ (m : Nat) (i : Int) (s : σ), 0 ≤ i → i + m ≤ hi → (∃ j, i ≤ j ∧ j < i + m ∧ ¬ good j) → goU step fin m i s = some v
  | 0, i, s, _, _, ⟨j, h1, h2, _⟩ => by omega
  | m + 1, i, s, h0, h1, ⟨j, j1, j2, j3⟩ => by
    rw [goU]
    by_cases h : good i
    · obtain ⟨s', hs⟩ := hg i s (fun s' => goU step fin m (i + 1) s') h
      rw [hs]
      have : j ≠ i := fun e => j3 (e ▸ h)
      exact goU_stop good hi hg hb m (i + 1) s' (by omega) (by omega) ⟨j, by omega, by omega, j3⟩
    · exact hb i s _ h0 (by omega) h
theorem goI_stop {step : Int → α → σ → (σ → Option β) → Option β} {fin : σ → Option β} {v : β} (good : α → Prop) (hg : ∀ i x s k, good x → ∃ s', step i x s k = k s') (hb : ∀ i x s k, ¬ good x → step i x s k = some v) : ∀ (l : List α) (i : Int) (s : σ), (∃ y ∈ l, ¬ good y) → goI step fin i l s = some v
  | [], i, s, ⟨y, h, _⟩ => by cases h
  | x :: l, i, s, ⟨y, h1, h2⟩ => by
    rw [goI]
    by_cases h : good x
    · obtain ⟨s', hs⟩ := hg i x s (fun s' => goI step fin (i + 1) l s') h
      rw [hs]
      have : y ≠ x := fun e => h2 (e ▸ h)
      exact goI_stop good hg hb l (i + 1) s' ⟨y, (List.mem_cons.1 h1).resolve_left this, h2⟩
    · exact hb i x s _ h
end
/-! cubes -/
def okc (y : Int) : Prop := y = 49 ∨ y = 48 ∨ y = 42
theorem ok_chs {y : UInt8} (h : okc (y.toNat : Int)) : y ∈ chs := by
  have step : ∀ k : UInt8, (y.toNat : Int) = (k.toNat : Int) → y = k := fun k e => UInt8.toNat_inj.1 (by omega)
  have e1 : (49 : UInt8).toNat = 49 := rfl
  have e2 : (48 : UInt8).toNat = 48 := rfl
  have e3 : (42 : UInt8).toNat = 42 := rfl
  rcases h with h | h | h
  · rw [step 49 (by omega)]; decide
  · rw [step 48 (by omega)]; decide
  · rw [step 42 (by omega)]; decide
noncomputable def readTest (s : ByteArray) : Bool := match t_railref1_ReadCube s, t_cube_Parse s with
  | some (c, b), some (d, e) => decide (e = 0) && (b && decide (c = d))
  | _, _ => false
theorem reads_all : (chs.all fun a => chs.all fun b => chs.all fun c => chs.all fun d => readTest ⟨#[a, b, c, d]⟩) = true := by kernel_rfl
theorem readCube_doc (s : ByteArray) : ∃ c b d e, t_railref1_ReadCube s = some (c, b) ∧ t_cube_Parse s = some (d, e) ∧ b = decide (e = 0) ∧ (b = true → c = d) := by
  have hM : maxI = 9223372036854775807 := rfl
  by_cases h4 : (s.size : Int) = 4
  · obtain ⟨a, b, x, d, rfl⟩ : ∃ a b x d, s = ⟨#[a, b, x, d]⟩ := by
      have hs4 : s.data.toList.length = 4 := by rw [size_data]; omega
      match hl : s.data.toList, hs4 with
      | [a, b, x, d], _ => exact ⟨a, b, x, d, by cases s with | mk q => congr 1; exact Array.toList_inj.1 hl⟩
    by_cases hall : okc (a.toNat : Int) ∧ okc (b.toNat : Int) ∧ okc (x.toNat : Int) ∧ okc (d.toNat : Int)
    · have key := List.all_eq_true.1 (List.all_eq_true.1 (List.all_eq_true.1 (List.all_eq_true.1 reads_all a (ok_chs hall.1)) b (ok_chs hall.2.1)) x (ok_chs hall.2.2.1)) d (ok_chs hall.2.2.2)
      unfold readTest at key
      cases h1 : t_railref1_ReadCube ⟨#[a, b, x, d]⟩ with
      | none => rw [h1] at key; cases key
      | some p =>
        cases h2 : t_cube_Parse ⟨#[a, b, x, d]⟩ with
        | none => rw [h1, h2] at key; cases key
        | some q =>
          rw [h1, h2] at key
          simp only [Bool.and_eq_true, decide_eq_true_eq] at key
          exact ⟨p.1, p.2, q.1, q.2, rfl, rfl, by rw [key.2.1, key.1]; rfl, fun _ => key.2.2⟩
    · refine ⟨⟨0, 0⟩, false, ⟨0, 0⟩, 2, ?_, ?_, rfl, fun h => by cases h⟩
      · unfold t_railref1_ReadCube
        rw [if_neg (by simpa using h4), join_eq, loopU_eq (by decide) (by rw [hM]; decide)]
        have ix : ∀ (i : Int), 0 ≤ i → i < 4 → ∃ c, sidx ⟨#[a, b, x, d]⟩ i = some c := fun i h0 h1 => by
          unfold sidx; rw [if_pos ⟨h0, by rw [h4]; exact h1⟩]; exact ⟨_, rfl⟩
        refine goU_stop (v := ((⟨0, 0⟩ : T_Cube), false)) (fun i => ∃ c, sidx ⟨#[a, b, x, d]⟩ i = some c ∧ okc c) 4 (fun i s k hg => ?_) (fun i s k h0 h1 hb => ?_) 4 0 _ (by decide) (by decide) ?_
        · obtain ⟨c, hc, hk⟩ := hg
          rw [hc]
          simp only [Option.bind_some, join_eq]
          rcases hk with rfl | rfl | rfl
          · exact ⟨_, rfl⟩
          · exact ⟨_, rfl⟩
          · exact ⟨_, rfl⟩
        · obtain ⟨c, hc⟩ := ix i h0 h1
          rw [hc]
          simp only [Option.bind_some, join_eq]
          have hn : ¬ okc c := fun h => hb ⟨c, hc, h⟩
          rw [if_neg (by simpa using fun h => hn (.inl h)), if_neg (by simpa using fun h => hn (.inr (.inl h))), if_pos (by simpa using fun h => hn (.inr (.inr h)))]
        · have j0 : sidx ⟨#[a, b, x, d]⟩ 0 = some (a.toNat : Int) := rfl
          have j1 : sidx ⟨#[a, b, x, d]⟩ 1 = some (b.toNat : Int) := rfl
          have j2 : sidx ⟨#[a, b, x, d]⟩ 2 = some (x.toNat : Int) := rfl
          have j3 : sidx ⟨#[a, b, x, d]⟩ 3 = some (d.toNat : Int) := rfl
          refine Classical.byContradiction fun hno => hall ?_
          have H : ∀ j : Int, 0 ≤ j → j < 4 → ∃ c, sidx ⟨#[a, b, x, d]⟩ j = some c ∧ okc c := fun j h1 h2 => Classical.byContradiction fun h => hno ⟨j, h1, by omega, h⟩
          obtain ⟨c0, e0, o0⟩ := H 0 (by decide) (by decide)
          obtain ⟨c1, e1, o1⟩ := H 1 (by decide) (by decide)
          obtain ⟨c2, e2, o2⟩ := H 2 (by decide) (by decide)
          obtain ⟨c3, e3, o3⟩ := H 3 (by decide) (by decide)
          rw [j0] at e0; rw [j1] at e1; rw [j2] at e2; rw [j3] at e3
          rw [← Option.some.inj e0] at o0
          rw [← Option.some.inj e1] at o1
          rw [← Option.some.inj e2] at o2
          rw [← Option.some.inj e3] at o3
          exact ⟨o0, o1, o2, o3⟩
      · unfold t_cube_Parse
        have en : numsOf ⟨#[a, b, x, d]⟩ = [(a.toNat : Int), (b.toNat : Int), (x.toNat : Int), (d.toNat : Int)] := rfl
        rw [if_neg (by simpa using h4), need_pos (decide_eq_true (by rw [h4, hM]; decide)), join_eq, en, loopI_eq (by rw [hM]; simp)]
        refine goI_stop (v := ((⟨0, 0⟩ : T_Cube), (2 : Int))) okc (fun i y s k hg => ?_) (fun i y s k hb => ?_) _ 0 _ ?_
        · simp only [join_eq]
          rcases hg with rfl | rfl | rfl
          · exact ⟨_, rfl⟩
          · exact ⟨_, rfl⟩
          · exact ⟨_, rfl⟩
        · simp only [join_eq]
          rw [if_neg (by simpa using fun h => hb (.inl h)), if_neg (by simpa using fun h => hb (.inr (.inl h))), if_neg (by simpa using fun h => hb (.inr (.inr h)))]
        · refine Classical.byContradiction fun hno => hall ?_
          have H : ∀ y ∈ [(a.toNat : Int), (b.toNat : Int), (x.toNat : Int), (d.toNat : Int)], okc y := fun y hy => Classical.byContradiction fun h => hno ⟨y, hy, h⟩
          exact ⟨H _ (by simp), H _ (by simp), H _ (by simp), H _ (by simp)⟩
  · refine ⟨⟨0, 0⟩, false, ⟨0, 0⟩, 2, ?_, ?_, rfl, fun h => by cases h⟩
    · unfold t_railref1_ReadCube
      rw [if_pos (decide_eq_true h4)]
    · unfold t_cube_Parse
      rw [if_pos (decide_eq_true h4)]
/-! what is shown -/
def ch (m b i : Nat) : ByteArray := if bitB m i = false then ⟨#[42]⟩ else if bitB b i = true then ⟨#[49]⟩ else ⟨#[48]⟩
theorem ch_size (m b i : Nat) : (ch m b i).size = 1 := by
  unfold ch
  split
  · rfl
  · split <;> rfl
def showC (m b : Nat) : ByteArray := (((ByteArray.mk #[] ++ ch m b 3) ++ ch m b 2) ++ ch m b 1) ++ ch m b 0
noncomputable def showTest (m b : Nat) : Bool := match t_cube_Print ⟨m, b⟩ with
  | some (s, e) => decide (e ≠ 0) || decide (s = showC m b)
  | none => false
theorem shows_all : ((List.range 16).all fun m => (List.range 16).all fun b => showTest m b) = true := by kernel_rfl
noncomputable def showF (c : T_Cube) (k10 : ByteArray × Int → Option ByteArray) (s9 : ByteArray × Int) : Option ByteArray :=
 if (decide (0 ≤ s9.2)) = true then (
 (t_railref1_bit c.Mask s9.2).bind fun r18 =>
 (t_railref1_bit c.Bits s9.2).bind fun r21 =>
 (if (!r18) = true then (
 need (decide ((s9.1.size : Int) + (ByteArray.mk #[42]).size ≤ maxI)) (
 some (s9.1 ++ (ByteArray.mk #[42])))) else (
 (if r21 = true then (
 need (decide ((s9.1.size : Int) + (ByteArray.mk #[49]).size ≤ maxI)) (
 some (s9.1 ++ (ByteArray.mk #[49])))) else (
 need (decide ((s9.1.size : Int) + (ByteArray.mk #[48]).size ≤ maxI)) (
 some (s9.1 ++ (ByteArray.mk #[48]))))).bind fun (s34 : ByteArray) =>
 some (s34))).bind fun (s25 : ByteArray) =>
 k10 (s25, (wr (s9.2 - 1)))) else (
 some (s9.1))
theorem showF_step {c : T_Cube} (hm : 0 ≤ c.Mask ∧ c.Mask < 16) (hb : 0 ≤ c.Bits ∧ c.Bits < 16) (k : ByteArray × Int → Option ByteArray) (i : Fin 4) {o : ByteArray} (ho : o.size ≤ 10) : showF c k (o, (i.val : Int)) = k (o ++ ch c.Mask.toNat c.Bits.toNat i.val, (i.val : Int) - 1) := by
  have l1 : (ByteArray.mk #[42]).size = 1 := rfl
  have l2 : (ByteArray.mk #[49]).size = 1 := rfl
  have l3 : (ByteArray.mk #[48]).size = 1 := rfl
  unfold showF
  simp only
  rw [if_pos (by simp), s_bit hm i, s_bit hb i]
  simp only [Option.bind_some]
  rw [nd (by omega), nd (by omega), nd (by omega), wr_id (x := (i.val : Int) - 1) (by omega) (by have := i.isLt; omega)]
  unfold ch
  cases h1 : bitB c.Mask.toNat i.val
  · simp
  · cases h2 : bitB c.Bits.toNat i.val <;> simp
theorem s_ShowCube {c : T_Cube} {q : ByteArray} (hc : t_cube_Check c = some 0) (hp : t_cube_Print c = some (q, 0)) : t_railref1_ShowCube c = some q := by
  obtain ⟨hm, hb⟩ := cube_rng hc
  have key := List.all_eq_true.1 (List.all_eq_true.1 shows_all c.Mask.toNat (List.mem_range.2 (by omega))) c.Bits.toNat (List.mem_range.2 (by omega))
  have ec : (⟨(c.Mask.toNat : Int), (c.Bits.toNat : Int)⟩ : T_Cube) = c := by
    cases c; simp only [T_Cube.mk.injEq]; simp only at hm hb; omega
  unfold showTest at key
  rw [ec, hp] at key
  have eq : q = showC c.Mask.toNat c.Bits.toNat := by simpa using key
  rw [eq]
  unfold t_railref1_ShowCube
  obtain ⟨M, hM⟩ : ∃ M, bigN = M + 5 := ⟨bigN - 5, by have := bigN_gt; omega⟩
  rw [bind_some_id, hM]
  have z0 : (ByteArray.mk #[]).size = 0 := rfl
  have z3 := ch_size c.Mask.toNat c.Bits.toNat 3
  have z2 := ch_size c.Mask.toNat c.Bits.toNat 2
  have z1 := ch_size c.Mask.toNat c.Bits.toNat 1
  show tfix (showF c) (M + 5) (ByteArray.mk #[], ((⟨3, by decide⟩ : Fin 4).val : Int)) = _
  rw [tfix, showF_step hm hb _ ⟨3, by decide⟩ (by omega)]
  show tfix (showF c) (M + 4) (_, ((⟨2, by decide⟩ : Fin 4).val : Int)) = _
  rw [tfix, showF_step hm hb _ ⟨2, by decide⟩ (by simp only [ByteArray.size_append]; omega)]
  show tfix (showF c) (M + 3) (_, ((⟨1, by decide⟩ : Fin 4).val : Int)) = _
  rw [tfix, showF_step hm hb _ ⟨1, by decide⟩ (by simp only [ByteArray.size_append]; omega)]
  show tfix (showF c) (M + 2) (_, ((⟨0, by decide⟩ : Fin 4).val : Int)) = _
  rw [tfix, showF_step hm hb _ ⟨0, by decide⟩ (by simp only [ByteArray.size_append]; omega)]
  rfl
theorem digs_all : ((List.range 100).all fun n => decide (digB (n : Int) = if n < 10 then ⟨#[UInt8.ofNat (48 + n)]⟩ else ⟨#[UInt8.ofNat (48 + n / 10), UInt8.ofNat (48 + n % 10)]⟩)) = true := by kernel_rfl
theorem s_Digits {z : Int} (h0 : 0 ≤ z) (h1 : z < 100) : t_Digits z = some (itoaS z.toNat) := by
  have key := of_decide_eq_true (List.all_eq_true.1 digs_all z.toNat (List.mem_range.2 (by omega)))
  rw [← itoaS_lt (by omega), show ((z.toNat : Nat) : Int) = z by omega] at key
  unfold t_Digits
  rw [if_pos ⟨h0, h1⟩, key]
theorem s_ShowRule {r : T_Rule} {u : ByteArray} (h : t_rule_Check r = some 0) (hu : t_rule_Print r = some (u, 0)) : t_railref1_ShowRule r = some u := by
  obtain ⟨⟨p0, p1⟩, ⟨o0, o1⟩, hc, hv, hos⟩ := ruleCheck_0 h
  obtain ⟨u', q, q2, g1, g2, g3, g4, g5⟩ := rule_txt h
  have eu : u = u' := by rw [hu] at g1; simpa using g1
  subst eu
  have hr := cube_rng hv
  simp only at hr
  obtain ⟨_, eq, _, _, sq⟩ := cube_txt hc
  rw [g2] at eq
  have eq := (Prod.mk.inj (Option.some.inj eq)).1
  rw [← eq] at sq
  obtain ⟨_, eq2, _, _, sq2⟩ := cube_txt hv
  rw [g3] at eq2
  have eq2 := (Prod.mk.inj (Option.some.inj eq2)).1
  rw [← eq2] at sq2
  have sa := itoa_size (n := r.Prio.toNat) (by omega)
  have sb := itoa_size (n := r.Out.toNat) (by omega)
  have l1 : (ByteArray.mk #[32]).size = 1 := rfl
  have l2 : (ByteArray.mk #[32, 100, 114, 111, 112]).size = 5 := rfl
  have l3 : (ByteArray.mk #[32, 111, 117, 116, 32]).size = 5 := rfl
  have l4 : (ByteArray.mk #[32, 115, 101, 116, 32]).size = 5 := rfl
  have cc := s_ShowCube hc g2
  have cv := s_ShowCube hv g3
  unfold t_railref1_ShowRule
  rw [s_Digits p0 (by omega), Option.bind_some, cc, Option.bind_some]
  unfold ruleWs at g4
  by_cases h0 : r.Out = 0
  · rw [if_pos h0] at g4
    rw [if_pos (decide_eq_true h0), nd (by omega), nd (by simp only [ByteArray.size_append]; omega), nd (by simp only [ByteArray.size_append]; omega)]
    congr 1
    apply data_inj
    rw [g4]
    simp [ByteArray.data_append, Array.toList_append, glue]
  · rw [if_neg h0] at g4
    rw [if_neg (by simpa using h0), s_Digits o0 (by omega), Option.bind_some, nd (by omega), nd (by simp only [ByteArray.size_append]; omega), nd (by simp only [ByteArray.size_append]; omega), nd (by simp only [ByteArray.size_append]; omega)]
    by_cases hs : r.Set = 0
    · rw [if_neg (by simpa using hs)] at g4
      rw [if_neg (by simp; omega), Option.bind_some]
      congr 1
      apply data_inj
      rw [g4]
      simp [ByteArray.data_append, Array.toList_append, glue]
    · rw [if_pos hs] at g4
      rw [if_pos (by simp; omega), cv, Option.bind_some, nd (by simp only [ByteArray.size_append]; omega), nd (by simp only [ByteArray.size_append]; omega), Option.bind_some]
      congr 1
      apply data_inj
      rw [g4]
      simp [ByteArray.data_append, Array.toList_append, glue]
/-! what is read -/
theorem num_doc (s : ByteArray) (hs : s.size ≤ 1048576) : ∃ u v b, t_railref1_Number s = some (u, b) ∧ t_rule_Number s = some (v, b) ∧ (b = true → u = v) := by
  obtain ⟨v, b, h1, h2, h3⟩ := dnum_num s hs
  refine ⟨(dnum s).1, v, b, ?_, h1, h3⟩
  rw [s_rNumber, ← h2]
theorem s_ReadRule (s : ByteArray) (hs : s.size ≤ 1048576) : t_railref1_ReadRule s = t_rule_Parse s := by
  obtain ⟨ws, h1, h2⟩ := cut_split s hs
  have hw : ∀ w ∈ ws, w.size ≤ 1048576 := fun w hw => by
    have h1 := glue_len 32 (ws.map (·.data.toList)) w.data.toList (List.mem_map_of_mem (f := (·.data.toList)) hw)
    rw [← split_glue h2] at h1
    have a1 : w.data.toList.length = w.size := by simp
    have a2 : s.data.toList.length = s.size := by simp
    omega
  have hrc : ∀ r, t_railref1_Rule r = t_rule_Check r := fun r => by rw [s_rRule, s_rule_Check]
  have hfin : ∀ r, ((t_railref1_Rule r).bind fun r64 => if (decide (r64 ≠ 0)) = true then some ((T_Rule.mk 0 (T_Cube.mk 0 0) 0 0 0), r64) else some (r, 0)) = ((t_rule_Check r).bind fun r16 => if (!decide (r16 = 0)) = true then some ((T_Rule.mk 0 (T_Cube.mk 0 0) 0 0 0), r16) else some (r, 0)) := fun r => by
    rw [hrc]
    congr 1
    funext e
    by_cases h : e = 0 <;> simp [h]
  unfold t_railref1_ReadRule t_rule_Parse
  rw [h1, h2, Option.bind_some, Option.bind_some]
  clear h1 h2 hrc
  match ws, hw with
  | [], _ => simp [t_rule_read]
  | [_], _ => simp [t_rule_read]
  | [_, _], _ => simp [t_rule_read]
  | w0 :: w1 :: w2 :: R, hw =>
    obtain ⟨u0, v0, b0, n0, m0, e0⟩ := num_doc w0 (hw _ (by simp))
    obtain ⟨c1, b1, d1, f1, k1, p1, q1, r1⟩ := readCube_doc w1
    unfold t_rule_read
    rw [if_neg (show ¬ decide (((w0 :: w1 :: w2 :: R).length : Int) < 3) = true by simp; omega)]
    have i0 : idx (w0 :: w1 :: w2 :: R) 0 = some w0 := rfl
    have i1 : idx (w0 :: w1 :: w2 :: R) 1 = some w1 := rfl
    have i2 : idx (w0 :: w1 :: w2 :: R) 2 = some w2 := rfl
    rw [i0, i1, i2]
    simp only [Option.bind_some, n0, m0, k1, p1, join_eq, hfin]
    have hlen : ((w0 :: w1 :: w2 :: R).length : Int) = (R.length : Int) + 3 := by simp; omega
    rw [hlen]
    by_cases hb : (!b0 || !b1) = true
    · have hb' : (!b0 || !decide (f1 = 0)) = true := by rw [← q1]; exact hb
      rw [if_pos hb, if_pos hb', Option.bind_some]
      simp only [Bool.not_false, if_true]
      split <;> rfl
    · have hb' : ¬ (!b0 || !decide (f1 = 0)) = true := by rw [← q1]; exact hb
      rw [if_neg hb, if_neg hb']
      have e2 : b0 = true ∧ b1 = true := by cases b0 <;> cases b1 <;> simp_all
      have g0 := e0 e2.1
      have g1 := r1 e2.2
      subst g0; subst g1
      clear hb hb' e0 r1
      by_cases hd : w2 = wDrop
      · rw [if_pos (decide_eq_true hd), Option.bind_some]
        subst hd
        match R with
        | [] => simp
        | w3 :: R =>
          rw [if_neg (show ¬ decide (((w3 :: R).length : Int) + 3 = 3) = true by simp; omega)]
          have hz : decide (((w3 :: R).length : Int) + 3 = 3) = false := by simp; omega
          rw [hz]
          split
          · simp
          · have i3 : idx (w0 :: w1 :: wDrop :: w3 :: R) 3 = some w3 := rfl
            obtain ⟨u3, v3, b3, n3, m3, e3⟩ := num_doc w3 (hw _ (by simp))
            rw [i3, Option.bind_some, n3, Option.bind_some]
            simp
      · rw [if_neg (show ¬ decide (w2 = wDrop) = true by simpa using hd)]
        by_cases ho : w2 = wOut
        · subst ho
          match R with
          | [] => simp [hd]
          | [w3] =>
            have i3 : idx [w0, w1, wOut, w3] 3 = some w3 := rfl
            obtain ⟨u3, v3, b3, n3, m3, e3⟩ := num_doc w3 (hw _ (by simp))
            rw [i3]
            simp only [Option.bind_some, n3, m3]
            by_cases h3 : (!b3 || decide (v3 = 0)) = true
            · have : (!b3 || decide (u3 = 0)) = true := by
                cases b3 with
                | false => rfl
                | true => rw [e3 rfl]; exact h3
              simp [this, h3]
            · have hb3 : b3 = true := by cases b3 <;> simp_all
              have := e3 hb3
              subst this
              simp [h3]
          | [w3, w4] => simp
          | [w3, w4, w5] =>
            have i3 : idx [w0, w1, wOut, w3, w4, w5] 3 = some w3 := rfl
            have i4 : idx [w0, w1, wOut, w3, w4, w5] 4 = some w4 := rfl
            have i5 : idx [w0, w1, wOut, w3, w4, w5] 5 = some w5 := rfl
            obtain ⟨u3, v3, b3, n3, m3, e3⟩ := num_doc w3 (hw _ (by simp))
            obtain ⟨c5, b5, d5, f5, k5, p5, q5, r5⟩ := readCube_doc w5
            rw [i3, i4, i5]
            simp only [Option.bind_some, n3, m3, k5, p5]
            by_cases h3 : (!b3 || decide (v3 = 0)) = true
            · have : (!b3 || decide (u3 = 0)) = true := by
                cases b3 with
                | false => rfl
                | true => rw [e3 rfl]; exact h3
              simp [this, h3]
            · have hb3 : b3 = true := by cases b3 <;> simp_all
              have := e3 hb3
              subst this
              by_cases h5 : b5 = true
              · have := r5 h5
                subst this
                have hf5 : f5 = 0 := by rw [h5] at q5; exact of_decide_eq_true q5.symm
                by_cases hs4 : w4 = wSet
                · by_cases hm : c5.Mask = 0
                  · simp [h3, h5, hf5, hs4, hm]
                  · simp [h3, h5, hf5, hs4, hm]
                · simp [h3, h5, hf5, hs4]
              · have h5' : b5 = false := by simpa using h5
                have hf5 : ¬ f5 = 0 := by rw [h5'] at q5; exact of_decide_eq_false q5.symm
                simp [h3, h5', hf5]
          | w3 :: w4 :: w5 :: w6 :: R =>
            have z1 : decide (((w3 :: w4 :: w5 :: w6 :: R).length : Int) + 3 ≠ 3) = true := by simp; omega
            have z2 : decide (((w3 :: w4 :: w5 :: w6 :: R).length : Int) + 3 ≠ 4) = true := by simp; omega
            have z3 : decide (((w3 :: w4 :: w5 :: w6 :: R).length : Int) + 3 ≠ 6) = true := by simp; omega
            rw [z1, z2, z3]
            simp
        · have hne : (!decide (w2 = wOut)) = true := by simpa using ho
          rw [hne]
          simp only [Bool.true_or, if_true, Option.bind_some, Bool.not_false]
          match R with
          | [] => simp [hd]
          | w3 :: R =>
            split
            · rfl
            · rw [if_neg (show ¬ decide (((w3 :: R).length : Int) + 3 = 3) = true by simp; omega)]
              have i3 : idx (w0 :: w1 :: w2 :: w3 :: R) 3 = some w3 := rfl
              obtain ⟨u3, v3, b3, n3, m3, e3⟩ := num_doc w3 (hw _ (by simp))
              rw [i3, Option.bind_some, n3, Option.bind_some]

theorem goI_collect {α β : Type} {step : Int → α → List Int → (List Int → Option β) → Option β} {fin : List Int → Option β} {p : Int → Bool} : ∀ (l : List α) (i : Int) (s : List Int), s.length + l.length ≤ 100000 → (∀ j x s k, i ≤ j → j < i + l.length → s.length ≤ 100000 → step j x s k = k (if p j = true then s ++ [j] else s)) →
    goI step fin i l s = fin (s ++ collect p l.length i)
  | [], i, s, _, _ => by simp [goI, collect]
  | x :: l, i, s, hs, h => by
    simp only [List.length_cons] at hs h
    rw [goI, h i x s _ (by omega) (by omega) (by omega), goI_collect l (i + 1) (if p i = true then s ++ [i] else s) (by split <;> (try simp) <;> omega) fun j x s k h1 h2 h3 => h j x s k (by omega) (by omega) h3]
    rw [List.length_cons, collect]
    split <;> simp
theorem collect_congr {p q : Int → Bool} : ∀ (m : Nat) (i : Int), (∀ j, i ≤ j → j < i + m → p j = q j) → collect p m i = collect q m i
  | 0, _, _ => rfl
  | m + 1, i, h => by
    rw [collect, collect, h i (by omega) (by omega), collect_congr m (i + 1) fun j h1 h2 => h j (by omega) (by omega)]
theorem s_IntsSelf (l : List Int) (hl : l.length ≤ 100000) : t_railsame_Ints l l = some true := by
  have hM : maxI = 9223372036854775807 := rfl
  unfold t_railsame_Ints
  rw [if_neg (by simp), join_eq, loopI_eq (by omega)]
  have : ∀ (r p : List Int), l = p ++ r → goI (fun (i16 : Int) x17 (s12 : Unit) k13 =>
      (idx l i16).bind fun r26 => if (decide (x17 ≠ r26)) = true then (some false) else (k13 ())) (fun (s12 : Unit) => some true) (p.length : Int) r () = some true := by
    intro r
    induction r with
    | nil => intro p _; rfl
    | cons x r ih =>
      intro p e
      have hx : idx l (p.length : Int) = some x := by rw [idx_nat, e]; simp
      rw [goI, hx, Option.bind_some, if_neg (by simp)]
      have := ih (p ++ [x]) (by rw [e]; simp)
      rw [List.length_append] at this
      exact this
  exact this l [] rfl
/-- which rules count never: of the library's way of doing it and the document's -/
theorem dead_doc (t : List T_Rule) (h0 : tabF t = 0) : ∃ L, L.length ≤ 100000 ∧ t_rule_Shadowed t = some (L, 0) ∧
    (loopI t (fun (i181 : Int) x182 (s177 : (List Int)) k178 =>
 if (decide (tabF t = 0)) = true then (
 ((loopU 0 16 (fun (i219 : Int) (s215 : ((List Int) × Bool)) k216 =>
 (t_railref1_Find t i219).bind fun r227 =>
 (if (decide (r227 = i181)) = true then (
 some (s215.1, false)) else (
 some (s215.1, s215.2))).bind fun (s231 : ((List Int) × Bool)) =>
 k216 (s231.1, s231.2)) (fun (i219 : Int) (s215 : ((List Int) × Bool)) =>
 some (s215.1, s215.2)) (s177, true)).bind fun (s201 : ((List Int) × Bool)) =>
 (if s201.2 = true then (
 (app s201.1 ([i181] : (List Int))).bind fun r212 =>
 some (r212)) else (
 some (s201.1))).bind fun (s206 : (List Int)) =>
 some (s206)).bind fun (s195 : (List Int)) =>
 k178 (s195)) else (
 some (s177))) (fun (s177 : (List Int)) =>
 some (s177)) ([])) = some L := by
  have hM : maxI = 9223372036854775807 := rfl
  have hT : t_rule_Table t = some 0 := by rw [s_rule_Table, h0]
  have hchk := tab_rules hT
  have hlen : t.length ≤ 12 := by
    unfold tabF at h0
    split at h0
    · cases h0
    · omega
  obtain ⟨F, hF⟩ : ∃ F : Int → Int, ∀ h, t_rule_Find t h = some (F h) ∧ (F h < 0 ∨ (0 ≤ F h ∧ F h < t.length)) := by
    have : ∀ h, ∃ i, t_rule_Find t h = some i ∧ (i < 0 ∨ (0 ≤ i ∧ i < t.length)) := fun h => by
      obtain ⟨i, h1, h2⟩ := s_FindB t h (by omega)
      refine ⟨i, h1, ?_⟩
      rcases h2 with ⟨h2, _⟩ | ⟨j, r, h2, h3, _⟩
      · exact .inl h2
      · obtain ⟨hj, _⟩ := List.getElem?_eq_some_iff.1 h3
        exact .inr ⟨by omega, by omega⟩
    exact ⟨fun h => Classical.choose (this h), fun h => Classical.choose_spec (this h)⟩
  have hFin : ∀ h, 0 ≤ h → h < 16 → t_railref1_Find t h = some (F h) := fun h a b => by rw [s_rFind t hchk h ⟨a, b⟩, (hF h).1]
  -- the flags
  have hU : ∃ U : List Bool, (loopU 0 16 (fun (i56 : Int) (s52 : (List Bool)) k53 =>
 (t_rule_Find t i56).bind fun r64 =>
 (if (decide (0 ≤ r64)) = true then (
 need (decide (0 ≤ r64) && decide (r64 < (List.length s52 : Int))) (
 (oset s52 r64 true).bind fun r77 =>
 some (r77))) else (
 some (s52))).bind fun (s68 : (List Bool)) =>
 k53 (s68)) (fun (i56 : Int) (s52 : (List Bool)) =>
 some (s52)) (List.replicate t.length false)) = some U ∧ (U.length = t.length ∧ ∀ k : Nat, k < t.length → (U[k]? = some true ↔ ∃ h : Int, 0 ≤ h ∧ h < 16 ∧ F h = k)) := by
    rw [loopU_eq (by decide) (by rw [hM]; decide)]
    refine goU_ex (I := fun (m : Nat) (i : Int) (s : List Bool) => 0 ≤ i ∧ i + m = 16 ∧ s.length = t.length ∧ ∀ k : Nat, k < t.length → (s[k]? = some true ↔ ∃ h : Int, 0 ≤ h ∧ h < i ∧ F h = k)) (Q := fun U : List Bool => U.length = t.length ∧ ∀ k : Nat, k < t.length → (U[k]? = some true ↔ ∃ h : Int, 0 ≤ h ∧ h < 16 ∧ F h = k)) (fun i s hI => ?_) (fun m i s k hI hk => ?_) _ _ _ ?_
    · obtain ⟨i0, i1, i2, i3⟩ := hI
      refine ⟨s, rfl, i2, ?_⟩
      have : i = 16 := by omega
      subst this
      exact i3
    · obtain ⟨i0, i1, i2, i3⟩ := hI
      obtain ⟨f1, f2⟩ := hF i
      rw [f1, Option.bind_some]
      by_cases hp : 0 ≤ F i
      · have hlt : F i < t.length := by omega
        rw [if_pos (decide_eq_true hp), need_pos (by simp [hp]; omega)]
        unfold oset
        rw [if_pos ⟨hp, by omega⟩, Option.bind_some, Option.bind_some]
        refine hk _ ⟨by omega, by omega, by rw [List.length_set]; exact i2, fun q hq => ?_⟩
        rw [List.getElem?_set]
        by_cases he : (F i).toNat = q
        · rw [if_pos he, if_pos (by omega)]
          simp only [true_iff]
          exact ⟨i, by omega, by omega, by omega⟩
        · rw [if_neg he, i3 q hq]
          constructor
          · rintro ⟨h, a, b, c⟩; exact ⟨h, a, by omega, c⟩
          · rintro ⟨h, a, b, c⟩
            have : h ≠ i := fun e => he (by rw [← e, c]; rfl)
            exact ⟨h, a, by omega, c⟩
      · rw [if_neg (by simpa using hp), Option.bind_some]
        refine hk _ ⟨by omega, by omega, i2, fun q hq => ?_⟩
        rw [i3 q hq]
        constructor
        · rintro ⟨h, a, b, c⟩; exact ⟨h, a, by omega, c⟩
        · rintro ⟨h, a, b, c⟩
          have : h ≠ i := fun e => hp (by rw [← e, c]; omega)
          exact ⟨h, a, by omega, c⟩
    · refine ⟨by decide, by decide, by simp, fun q hq => ?_⟩
      rw [List.getElem?_replicate, if_pos hq]
      constructor
      · intro h; cases h
      · rintro ⟨h, a, b, _⟩; omega
  obtain ⟨U, hU1, hU2, hU3⟩ := hU
  let p : Int → Bool := fun j => !(decide (U[j.toNat]? = some true))
  refine ⟨collect p t.length 0, by have := collect_len p t.length 0; omega, ?_, ?_⟩
  · unfold t_rule_Shadowed
    rw [hT, Option.bind_some, if_neg (by simp)]
    unfold omake
    rw [if_pos ⟨rfl, by omega, by omega⟩, Option.bind_some, Int.toNat_natCast, hU1, Option.bind_some, loopI_eq (by omega), goI_collect (p := p) U 0 [] (by simp; omega) (fun j x s k j0 j1 js => ?_)]
    · rw [hU2]; simp
    · rw [need_pos (by simp; omega)]
      have hj : j.toNat < U.length := by omega
      have hix : idx U j = some U[j.toNat] := by
        unfold idx; rw [if_pos j0]; exact List.getElem?_eq_getElem hj
      rw [hix, Option.bind_some]
      have hp : p j = !U[j.toNat] := by
        show (!(decide (U[j.toNat]? = some true))) = _
        rw [List.getElem?_eq_getElem hj]
        cases U[j.toNat] <;> rfl
      rw [hp]
      cases U[j.toNat] with
      | true => simp
      | false => simp [app_eq (show s.length + [j].length ≤ 4294967296 by simp; omega)]
  · rw [loopI_eq (by omega), goI_collect (p := p) t 0 [] (by simp; omega) (fun j x s k j0 j1 js => ?_)]
    · simp
    · rw [if_pos (decide_eq_true h0)]
      have hin : ∃ v : List Int × Bool, (loopU 0 16 (fun (i219 : Int) (s215 : ((List Int) × Bool)) k216 =>
 (t_railref1_Find t i219).bind fun r227 =>
 (if (decide (r227 = j)) = true then (
 some (s215.1, false)) else (
 some (s215.1, s215.2))).bind fun (s231 : ((List Int) × Bool)) =>
 k216 (s231.1, s231.2)) (fun (i219 : Int) (s215 : ((List Int) × Bool)) =>
 some (s215.1, s215.2)) (s, true)) = some v ∧ (v.1 = s ∧ (v.2 = true ↔ ∀ h : Int, 0 ≤ h → h < 16 → F h ≠ j)) := by
        rw [loopU_eq (by decide) (by rw [hM]; decide)]
        refine goU_ex (I := fun (m : Nat) (i : Int) (v : List Int × Bool) => 0 ≤ i ∧ i + m = 16 ∧ v.1 = s ∧ (v.2 = true ↔ ∀ h : Int, 0 ≤ h → h < i → F h ≠ j)) (Q := fun v : List Int × Bool => v.1 = s ∧ (v.2 = true ↔ ∀ h : Int, 0 ≤ h → h < 16 → F h ≠ j)) (fun i v hI => ?_) (fun m i v k hI hk => ?_) _ _ _ ?_
        · obtain ⟨i0, i1, i2, i3⟩ := hI
          have : i = 16 := by omega
          subst this
          exact ⟨v, rfl, i2, i3⟩
        · obtain ⟨i0, i1, i2, i3⟩ := hI
          rw [hFin i i0 (by omega), Option.bind_some]
          by_cases he : F i = j
          · rw [if_pos (decide_eq_true he), Option.bind_some]
            refine hk _ ⟨by omega, by omega, i2, ?_⟩
            constructor
            · intro h; cases h
            · intro h; exact absurd he (h i i0 (by omega))
          · rw [if_neg (by simpa using he), Option.bind_some]
            refine hk _ ⟨by omega, by omega, i2, i3.trans ?_⟩
            constructor
            · intro h q a b
              by_cases hq : q = i
              · rw [hq]; exact he
              · exact h q a (by omega)
            · intro h q a b; exact h q a (by omega)
        · exact ⟨by decide, by decide, rfl, fun _ h a b => by omega, fun _ => rfl⟩
      obtain ⟨v, hv1, hv2, hv3⟩ := hin
      rw [hv1, Option.bind_some]
      have hp : p j = v.2 := by
        rw [Bool.eq_iff_iff, hv3]
        show ((!(decide (U[j.toNat]? = some true))) = true) ↔ _
        rw [Bool.not_eq_true', decide_eq_false_iff_not, hU3 j.toNat (by omega)]
        constructor
        · intro h q a b e
          exact h ⟨q, a, b, by omega⟩
        · rintro h ⟨q, a, b, e⟩
          exact h q a b (by omega)
      rw [hp, hv2]
      cases hv : v.2 with
      | true => simp [app_eq (show s.length + [j].length ≤ 4294967296 by simp; omega)]
      | false => simp
theorem print_doc (r : T_Rule) : ∃ u, t_rule_Print r = some (u, r.chk) ∧ (if (decide (r.chk = 0)) = true then ((t_railref1_ShowRule r).bind fun r280 => some (r280)) else (some (ByteArray.mk #[]))) = some u := by
  have hc := s_rule_Check r
  by_cases h0 : r.chk = 0
  · rw [h0] at hc
    obtain ⟨u, _, _, e, _⟩ := rule_txt hc
    refine ⟨u, by rw [h0]; exact e, ?_⟩
    rw [if_pos (decide_eq_true h0), s_ShowRule hc e]
    rfl
  · refine ⟨ByteArray.mk #[], ?_, if_neg (by simpa using h0)⟩
    unfold t_rule_Print
    rw [hc, Option.bind_some, if_pos (by simpa using h0)]
theorem apply_doc (r : T_Rule) (h : Int) : ∃ v c, t_rule_Apply r h = some (v, c) ∧
    ((if ((decide (r.chk = 0)) && (!hdr h)) = true then (
 some (1 : Int)) else (
 (if ((decide (r.chk = 0)) && ((!hs r.Cube h) || (decide (r.Out = 0)))) = true then (
 some (5)) else (
 some (r.chk))).bind fun (s273 : Int) =>
 some (s273))) = some c) ∧
    ((if (decide (c = 0)) = true then (
 (t_railref1_Turned r h).bind fun r249 =>
 some (r249)) else (
 some (0))) = some v) := by
  unfold t_rule_Apply
  rw [s_rule_Check, Option.bind_some]
  by_cases h0 : r.chk = 0
  · rw [if_neg (show ¬ (!decide (r.chk = 0)) = true by simp [h0]), s_cube_Header, Option.bind_some]
    by_cases h1 : hdr h = true
    · rw [if_neg (show ¬ (!hdr h) = true by simp [h1]), s_cube_Has, Option.bind_some]
      by_cases h2 : ((!hs r.Cube h) || decide (r.Out = 0)) = true
      · rw [if_pos h2]
        exact ⟨0, 5, rfl, by rw [h1, h2]; simp [h0], rfl⟩
      · rw [if_neg h2]
        refine ⟨_, 0, rfl, ?_, ?_⟩
        · have h2' : ((!hs r.Cube h) || decide (r.Out = 0)) = false := by simpa using h2
          rw [h1, h2']; simp [h0]
        · rw [s_Turned h0 (hdr_iff.1 h1)]
          rfl
    · have h1' : hdr h = false := by simpa using h1
      rw [if_pos (show (!hdr h) = true by simp [h1'])]
      exact ⟨0, 1, rfl, by simp [h0, h1'], rfl⟩
  · rw [if_pos (show (!decide (r.chk = 0)) = true by simp [h0])]
    exact ⟨0, r.chk, rfl, by simp [h0], by rw [if_neg (by simpa using h0)]⟩
theorem lookup_doc (t : List T_Rule) (h : Int) : ∃ (at_ c c1 : Int), t_rule_Lookup t h = some (at_, c) ∧
    ((if ((decide (tabF t = 0)) && (!hdr h)) = true then (some (1 : Int)) else (some (tabF t))) = some c1) ∧
    ((if (decide (c1 = 0)) = true then (
 (t_railref1_Find t h).bind fun r166 =>
 (if (decide (r166 < 0)) = true then (
 some ((5 : Int), (0 : Int))) else (
 some (c1, r166))).bind fun (s170 : (Int × Int)) =>
 some (s170.1, s170.2)) else (
 some (c1, 0))) = some (c, at_)) := by
  unfold t_rule_Lookup
  rw [s_rule_Table, Option.bind_some]
  by_cases h0 : tabF t = 0
  · rw [if_neg (show ¬ (!decide (tabF t = 0)) = true by simp [h0]), s_cube_Header, Option.bind_some]
    by_cases h1 : hdr h = true
    · rw [if_neg (show ¬ (!hdr h) = true by simp [h1])]
      have hT : t_rule_Table t = some 0 := by rw [s_rule_Table, h0]
      have hlen : t.length ≤ 12 := by
        unfold tabF at h0
        split at h0
        · cases h0
        · omega
      obtain ⟨i, hi, _⟩ := s_FindB t h (by omega)
      rw [hi, Option.bind_some]
      have hr := s_rFind t (tab_rules hT) h (hdr_iff.1 h1)
      by_cases h2 : i < 0
      · rw [if_pos (decide_eq_true h2)]
        refine ⟨0, 5, 0, rfl, by simp [h0, h1], ?_⟩
        rw [if_pos (by simp), hr, hi, Option.bind_some, if_pos (decide_eq_true h2)]
        rfl
      · rw [if_neg (by simpa using h2)]
        refine ⟨i, 0, 0, rfl, by simp [h0, h1], ?_⟩
        rw [if_pos (by simp), hr, hi, Option.bind_some, if_neg (by simpa using h2)]
        rfl
    · have h1' : hdr h = false := by simpa using h1
      rw [if_pos (show (!hdr h) = true by simp [h1'])]
      exact ⟨0, 1, 1, rfl, by simp [h0, h1'], rfl⟩
  · rw [if_pos (show (!decide (tabF t = 0)) = true by simp [h0])]
    refine ⟨0, tabF t, tabF t, rfl, by simp [h0], ?_⟩
    rw [if_neg (by simpa using h0)]
theorem shadow_doc (t : List T_Rule) : ∃ L, L.length ≤ 100000 ∧ t_rule_Shadowed t = some (L, tabF t) ∧
    ((loopI t (fun (i181 : Int) x182 (s177 : (List Int)) k178 =>
 if (decide (tabF t = 0)) = true then (
 ((loopU 0 16 (fun (i219 : Int) (s215 : ((List Int) × Bool)) k216 =>
 (t_railref1_Find t i219).bind fun r227 =>
 (if (decide (r227 = i181)) = true then (
 some (s215.1, false)) else (
 some (s215.1, s215.2))).bind fun (s231 : ((List Int) × Bool)) =>
 k216 (s231.1, s231.2)) (fun (i219 : Int) (s215 : ((List Int) × Bool)) =>
 some (s215.1, s215.2)) (s177, true)).bind fun (s201 : ((List Int) × Bool)) =>
 (if s201.2 = true then (
 (app s201.1 ([i181] : (List Int))).bind fun r212 =>
 some (r212)) else (
 some (s201.1))).bind fun (s206 : (List Int)) =>
 some (s206)).bind fun (s195 : (List Int)) =>
 k178 (s195)) else (
 some (s177))) (fun (s177 : (List Int)) =>
 some (s177)) ([])) = some L ∨ 1048576 < t.length) := by
  have hM : maxI = 9223372036854775807 := rfl
  by_cases hl : 1048576 < t.length
  · exact ⟨[], by simp, by
      unfold t_rule_Shadowed tabF
      rw [s_rule_Table]
      unfold tabF
      rw [if_pos (by omega)]
      rfl, .inr hl⟩
  by_cases h0 : tabF t = 0
  · obtain ⟨L, h1, h2, h3⟩ := dead_doc t h0
    exact ⟨L, h1, by rw [h0]; exact h2, .inl h3⟩
  · refine ⟨[], by simp, ?_, .inl ?_⟩
    · unfold t_rule_Shadowed
      rw [s_rule_Table, Option.bind_some, if_pos (by simpa using h0)]
    · rw [loopI_eq (by omega)]
      cases t with
      | nil => rfl
      | cons x l => rw [goI, if_neg (by simpa using h0)]
theorem walk_RuleTells (r : T_Rule) (s : ByteArray) (h : Int) (t : List T_Rule) (hs : s.size ≤ 1048576) (ht : t.length ≤ 1048576) : t_raillaw1_RuleTells r s h t = some true := by
  unfold t_raillaw1_RuleTells
  have hE : ∀ x y : Int, t_railsame_Error x y = some (decide (x = y)) := fun _ _ => rfl
  obtain ⟨u, p1, p2⟩ := print_doc r
  obtain ⟨y, hy⟩ := parse_some s hs
  have hy2 : t_railref1_ReadRule s = some y := by rw [s_ReadRule s hs, hy]
  obtain ⟨v, c, a1, a2, a3⟩ := apply_doc r h
  obtain ⟨L, l1, l2, l3⟩ := shadow_doc t
  have l3 := l3.resolve_right (by omega)
  obtain ⟨at_, c2, c1, k1, k2, k3⟩ := lookup_doc t h
  rw [s_rRule, Option.bind_some, s_rule_Check, Option.bind_some, hE, Option.bind_some, p2, Option.bind_some, p1, Option.bind_some, hE, Option.bind_some, hy2, Option.bind_some, hy, Option.bind_some, hE, Option.bind_some, s_rHeader, Option.bind_some, s_rHas, Option.bind_some, a2, Option.bind_some, a3, Option.bind_some, a1, Option.bind_some, hE, Option.bind_some, s_rTable, Option.bind_some, s_rule_Table, Option.bind_some, hE, Option.bind_some, l3, Option.bind_some, l2, Option.bind_some, hE, Option.bind_some, s_IntsSelf L l1, Option.bind_some, k2, Option.bind_some, k3, Option.bind_some, k1, Option.bind_some, hE, Option.bind_some]
  simp
theorem walk_RT (r : T_Rule) (s : ByteArray) (h : Int) (t : List T_Rule) (_ : r.wf 1048576) (u1 : wS 1048576 s) (_ : wi64 h) (u3 : wL 1048576 (fun x => T_Rule.wf 1048576 x) t) : t_raillaw1_RuleTells r s h t = some true := walk_RuleTells r s h t u1 u3.1
end Go.Proofs.YtilbgbhpdjjliaaGreatDoor.Ty
