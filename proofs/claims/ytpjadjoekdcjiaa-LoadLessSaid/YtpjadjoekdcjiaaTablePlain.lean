/- Plain facts on tables: what is between two makes of the one the other. -/
import Derived.Test.YtpjadjoekdcjiaaTable3
namespace Go.Proofs.Ytpjadjoekdcjiaa
open Go.RowKit
set_option linter.unusedSimpArgs false
set_option linter.unusedVariables false

/-- a table that is right -/
structure Tok (l : List Rl) : Prop where
  len : l.length ≤ 12
  chk : ∀ x ∈ l, x.chk = 0
  key : l.Pairwise (fun x y => x.key y = false)

theorem key_self (x : Rl) : x.key x = true := by simp [Rl.key]
theorem key_comm (x y : Rl) : x.key y = y.key x := by
  unfold Rl.key
  rw [decide_eq_decide]
  constructor <;> (rintro ⟨a, b, c⟩; exact ⟨a.symm, b.symm, c.symm⟩)
theorem tfault_iff : ∀ (l seen : List Rl), tfaultFrom seen l = 0 ↔ (∀ x ∈ l, x.chk = 0) ∧ l.Pairwise (fun x y => x.key y = false) ∧ ∀ x ∈ l, ∀ y ∈ seen, y.key x = false
  | [], seen => by simp [tfaultFrom]
  | x :: r, seen => by
    unfold tfaultFrom
    by_cases h1 : x.chk = 0
    · rw [if_neg (by simpa using h1)]
      cases h2 : seen.any fun y => y.key x with
      | true =>
        rw [if_pos rfl]
        constructor
        · intro h; cases h
        · rintro ⟨_, _, h⟩
          obtain ⟨y, hy, hk⟩ := List.any_eq_true.1 h2
          rw [h x (by simp) y hy] at hk; cases hk
      | false =>
        rw [if_neg Bool.false_ne_true, tfault_iff r]
        have h3 : ∀ y ∈ seen, y.key x = false := fun y hy => by
          cases e : y.key x with
          | false => rfl
          | true => rw [List.any_eq_true.2 ⟨y, hy, e⟩] at h2; cases h2
        simp only [List.mem_cons, forall_eq_or_imp, List.pairwise_cons, List.mem_append, List.mem_nil_iff, or_false]
        constructor
        · rintro ⟨a, b, c⟩
          exact ⟨⟨h1, a⟩, ⟨fun y hy => c y hy x (.inr rfl), b⟩, h3, fun y hy z hz => c y hy z (.inl hz)⟩
        · rintro ⟨⟨_, a⟩, ⟨b, c⟩, d, e⟩
          exact ⟨a, c, fun y hy z hz => hz.elim (e y hy z) (fun h => h ▸ b y hy)⟩
    · rw [if_pos h1]
      constructor
      · intro h; exact absurd h h1
      · rintro ⟨h, _⟩; exact absurd (h x (by simp)) h1
theorem tchk_iff {l : List Rl} : tchk l = 0 ↔ Tok l := by
  unfold tchk
  by_cases h : l.length > 12
  · rw [if_pos h]
    exact ⟨fun h => (by cases h), fun h2 => (by have := h2.len; omega)⟩
  · rw [if_neg h, tfault_iff]
    exact ⟨fun ⟨a, b, _⟩ => ⟨by omega, a, b⟩, fun h => ⟨h.chk, h.key, by simp⟩⟩
theorem Tok.sub {l l' : List Rl} (h : Tok l) (hs : List.Sublist l' l) : Tok l' :=
  ⟨Nat.le_trans hs.length_le h.len, fun x hx => h.chk x (hs.subset hx), h.key.sublist hs⟩
theorem Tok.nodup {l : List Rl} (h : Tok l) : l.Nodup := h.key.imp fun {a b} hk e => by subst e; rw [key_self] at hk; cases hk
theorem Tok.apart {l : List Rl} (h : Tok l) {x y : Rl} (hx : x ∈ l) (hy : y ∈ l) (hne : x ≠ y) : x.key y = false := by
  obtain ⟨i, hi, rfl⟩ := List.getElem_of_mem hx
  obtain ⟨j, hj, rfl⟩ := List.getElem_of_mem hy
  rcases Nat.lt_trichotomy i j with h1 | h1 | h1
  · exact List.pairwise_iff_getElem.1 h.key i j hi hj h1
  · subst h1; exact absurd rfl hne
  · rw [key_comm]; exact List.pairwise_iff_getElem.1 h.key j i hj hi h1
theorem nodup_len : ∀ {l o : List Rl}, l.Nodup → (∀ x ∈ l, x ∈ o) → l.length ≤ o.length
  | [], o, _, _ => by simp
  | x :: l, o, hn, h => by
    rw [List.nodup_cons] at hn
    have hx := h x (by simp)
    have := nodup_len (l := l) (o := o.erase x) hn.2 (fun y hy => (List.mem_erase_of_ne (fun e => hn.1 (by rw [← e]; exact hy))).2 (h y (by simp [hy])))
    rw [List.length_erase_of_mem hx] at this
    have := List.length_pos_of_mem hx
    simp only [List.length_cons]; omega
theorem Tok.of_subset {l o : List Rl} (h : Tok o) (hn : l.Nodup) (hs : ∀ x ∈ l, x ∈ o) : Tok l :=
  ⟨Nat.le_trans (nodup_len hn hs) h.len, fun x hx => h.chk x (hs x hx), List.Pairwise.imp_of_mem (fun {a b} ha hb hne => h.apart (hs a ha) (hs b hb) hne) hn⟩

theorem any_mem {l : List Rl} {r : Rl} : (l.any fun x => decide (r = x)) = decide (r ∈ l) := by
  rw [Bool.eq_iff_iff, List.any_eq_true, decide_eq_true_eq]
  constructor
  · rintro ⟨x, hx, h⟩; rw [decide_eq_true_eq] at h; exact h ▸ hx
  · intro h; exact ⟨r, h, by simp⟩
theorem lacks_eq (a b : List Rl) (add : Bool) : lacks a b add = (a.filter fun r => decide (r ∉ b)).map fun r => ⟨0, add, r⟩ := by
  induction a with
  | nil => rfl
  | cons x a ih =>
    unfold lacks at *
    rw [List.filterMap_cons, List.filter_cons, any_mem, ih]
    by_cases h : x ∈ b <;> simp [h]

theorem tallF_append : ∀ (l1 : List Opx) (t : List Rl) (l2 : List Opx), tallF t l1 = 0 → tallF t (l1 ++ l2) = tallF (tallR t l1) l2
  | [], t, l2, _ => rfl
  | o :: r, t, l2, h => by
    have h' : tallF t (o :: r) = if tdoF t o.add o.r ≠ 0 then tdoF t o.add o.r else tallF (tdoR t o.add o.r) r := rfl
    rw [h'] at h
    by_cases hn : tdoF t o.add o.r = 0
    · rw [if_neg (by simpa using hn)] at h
      show (if tdoF t o.add o.r ≠ 0 then _ else tallF (tdoR t o.add o.r) (r ++ l2)) = _
      rw [if_neg (by simpa using hn), tallF_append r _ l2 h]; rfl
    · rw [if_pos hn] at h; exact absurd h hn
theorem tallR_append : ∀ (l1 : List Opx) (t : List Rl) (l2 : List Opx), tallR t (l1 ++ l2) = tallR (tallR t l1) l2
  | [], t, l2 => rfl
  | o :: r, t, l2 => tallR_append r _ l2

theorem eraseIdx_fidx (l : List Rl) (r : Rl) (h : r ∈ l) : l.eraseIdx (fidx (fun x => decide (r = x)) l).toNat = l.erase r := by
  induction l with
  | nil => cases h
  | cons x l ih =>
    rw [List.erase_cons]
    by_cases e : x = r
    · subst e
      have : fidx (fun y => decide (x = y)) (x :: l) = (0 : Nat) := fidx_found (by simp) (by simp) (fun j hj => absurd hj (by omega))
      rw [this]; simp
    · have hm : r ∈ l := (List.mem_cons.1 h).resolve_left (fun h => e h.symm)
      obtain ⟨i, hi, hil⟩ := fidx_lt (p := fun y => decide (r = y)) (l := l) (by rw [any_mem]; simpa using hm)
      have ih := ih hm
      rw [hi] at ih
      have h1 : fidx (fun y => decide (r = y)) (x :: l) = ((i + 1 : Nat) : Int) := by
        unfold fidx at hi ⊢
        rw [List.findIdx?_cons, if_neg (by simpa using fun h => e h.symm)]
        cases hf : l.findIdx? fun y => decide (r = y) with
        | none => rw [hf] at hi; simp at hi
        | some q => rw [hf] at hi; simp at hi; simp [hi]
      rw [h1, if_neg (by simpa using e)]
      simp only [Int.toNat_natCast, List.eraseIdx_cons_succ] at ih ⊢
      rw [ih]
theorem tdoF_del {t : List Rl} {r : Rl} (h : Tok t) (hr : r ∈ t) : tdoF t false r = 0 ∧ tdoR t false r = t.erase r := by
  refine ⟨?_, ?_⟩
  · unfold tdoF
    rw [if_neg (by simpa using tchk_iff.2 h), if_neg (by simpa using h.chk r hr), if_neg (by simp), if_pos (by rw [any_mem]; simpa using hr)]
  · unfold tdoR
    rw [if_neg (by simp)]
    exact eraseIdx_fidx t r hr
theorem tdoF_add {t : List Rl} {r : Rl} (h : Tok (t ++ [r])) : tdoF t true r = 0 ∧ tdoR t true r = t ++ [r] := by
  refine ⟨?_, ?_⟩
  · have ht := h.sub (List.sublist_append_left t [r])
    have hl := h.len
    rw [List.length_append] at hl
    have hk : (t.any fun x => x.key r) = false := by
      cases e : t.any fun x => x.key r with
      | false => rfl
      | true =>
        obtain ⟨x, hx, hkx⟩ := List.any_eq_true.1 e
        have := (List.pairwise_append.1 h.key).2.2 x hx r (by simp)
        rw [this] at hkx; cases hkx
    unfold tdoF
    rw [if_neg (by simpa using tchk_iff.2 ht), if_neg (by simpa using h.chk r (by simp)), if_pos rfl, if_neg (by rw [hk]; exact Bool.false_ne_true), if_neg (by simp at hl; omega)]
  · unfold tdoR; rw [if_pos rfl]
theorem tall_rem : ∀ (rs t : List Rl), Tok t → rs.Nodup → (∀ r ∈ rs, r ∈ t) → tallF t (rs.map fun r => ⟨0, false, r⟩) = 0 ∧ tallR t (rs.map fun r => ⟨0, false, r⟩) = t.filter fun x => decide (x ∉ rs)
  | [], t, _, _, _ => ⟨rfl, (List.filter_eq_self.2 (by simp)).symm⟩
  | r :: rs, t, ht, hn, hs => by
    rw [List.nodup_cons] at hn
    obtain ⟨h1, h2⟩ := tdoF_del ht (hs r (by simp))
    have he : t.erase r = t.filter fun x => decide (x ≠ r) := by rw [ht.nodup.erase_eq_filter]; congr 1; funext x; simp [bne]; rfl
    obtain ⟨i1, i2⟩ := tall_rem rs (t.erase r) (ht.sub List.erase_sublist) hn.2 (fun x hx => (List.mem_erase_of_ne (fun e => hn.1 (by rw [← e]; exact hx))).2 (hs x (by simp [hx])))
    refine ⟨?_, ?_⟩
    · show (if tdoF t false r ≠ 0 then _ else tallF (tdoR t false r) _) = 0
      rw [if_neg (by simpa using h1), h2]; exact i1
    · show tallR (tdoR t false r) _ = _
      rw [h2, i2, he, List.filter_filter]
      congr 1
      funext x
      simp only [List.mem_cons, not_or, ne_eq, Bool.decide_and, decide_not]
      rw [Bool.and_comm]
theorem tall_add : ∀ (rs t : List Rl), Tok (t ++ rs) → tallF t (rs.map fun r => ⟨0, true, r⟩) = 0 ∧ tallR t (rs.map fun r => ⟨0, true, r⟩) = t ++ rs
  | [], t, _ => ⟨rfl, by simp [tallR]⟩
  | r :: rs, t, ht => by
    have h' : Tok (t ++ [r] ++ rs) := by simpa using ht
    obtain ⟨h1, h2⟩ := tdoF_add (h'.sub (List.sublist_append_left _ _))
    obtain ⟨i1, i2⟩ := tall_add rs (t ++ [r]) h'
    refine ⟨?_, ?_⟩
    · show (if tdoF t true r ≠ 0 then _ else tallF (tdoR t true r) _) = 0
      rw [if_neg (by simpa using h1), h2]; exact i1
    · show tallR (tdoR t true r) _ = _
      rw [h2, i2]; simp
/-- what comes of a table by what is between it and another one -/
def between (t o : List Rl) : List Rl := (t.filter fun x => decide (x ∈ o)) ++ o.filter fun x => decide (x ∉ t)
theorem between_tok {t o : List Rl} (ht : Tok t) (ho : Tok o) : Tok (between t o) := by
  refine ho.of_subset (List.nodup_append.2 ⟨ht.nodup.sublist List.filter_sublist, ho.nodup.sublist List.filter_sublist, fun a ha b hb e => ?_⟩) fun x hx => ?_
  · subst e
    simp only [List.mem_filter, decide_eq_true_eq] at ha hb
    exact hb.2 ha.1
  · simp only [between, List.mem_append, List.mem_filter, decide_eq_true_eq] at hx
    exact hx.elim (fun h => h.2) (fun h => h.1)
theorem between_mem {t o : List Rl} {x : Rl} : x ∈ between t o ↔ x ∈ o := by
  simp only [between, List.mem_append, List.mem_filter, decide_eq_true_eq]
  constructor
  · rintro (h | h)
    · exact h.2
    · exact h.1
  · intro h
    by_cases hx : x ∈ t
    · exact .inl ⟨hx, h⟩
    · exact .inr ⟨h, hx⟩
theorem tdiff_all {t o : List Rl} (ht : Tok t) (ho : Tok o) : tallF t (tdiff t o) = 0 ∧ tallR t (tdiff t o) = between t o := by
  unfold tdiff
  rw [lacks_eq, lacks_eq]
  obtain ⟨a1, a2⟩ := tall_rem (t.filter fun r => decide (r ∉ o)) t ht (ht.nodup.sublist List.filter_sublist) (fun r hr => (List.mem_filter.1 hr).1)
  have e : (t.filter fun x => decide (x ∉ t.filter fun r => decide (r ∉ o))) = t.filter fun x => decide (x ∈ o) := by
    apply List.filter_congr
    intro x hx
    rw [decide_eq_decide]
    simp [hx]
  rw [e] at a2
  obtain ⟨b1, b2⟩ := tall_add (o.filter fun r => decide (r ∉ t)) (t.filter fun x => decide (x ∈ o)) (between_tok ht ho)
  refine ⟨?_, ?_⟩
  · rw [tallF_append _ _ _ a1, a2]; exact b1
  · rw [tallR_append, a2]; exact b2
theorem tdiff_nil {a b : List Rl} : tdiff a b = [] ↔ ∀ x, x ∈ a ↔ x ∈ b := by
  unfold tdiff
  rw [lacks_eq, lacks_eq]
  simp only [List.append_eq_nil_iff, List.map_eq_nil_iff, List.filter_eq_nil_iff, decide_eq_true_eq, Classical.not_not]
  exact ⟨fun ⟨h1, h2⟩ x => ⟨h1 x, h2 x⟩, fun h => ⟨fun x hx => (h x).1 hx, fun x hx => (h x).2 hx⟩⟩
theorem t2chk_of {a b : List Rl} (ha : Tok a) (hb : Tok b) : t2chk a b = 0 := by
  unfold t2chk; rw [if_neg (by simpa using tchk_iff.2 ha)]; exact tchk_iff.2 hb
/-- THE LAW: what is between two makes of the one the other -/
theorem back_one {t o : List Rl} (h : t2chk t o = 0) : tallE t (tdiff t o) = 0 ∧ t2chk (tallV t (tdiff t o)) o = 0 ∧ tdiff (tallV t (tdiff t o)) o = [] := by
  have ht := tchk_iff.1 (t2chk_0 h).1
  have ho := tchk_iff.1 (t2chk_0 h).2
  obtain ⟨h1, h2⟩ := tdiff_all ht ho
  have e : tallV t (tdiff t o) = between t o := by unfold tallV; rw [if_pos ⟨tchk_iff.2 ht, h1⟩, h2]
  rw [e]
  exact ⟨by unfold tallE; rw [if_neg (by simpa using tchk_iff.2 ht)]; exact h1, t2chk_of (between_tok ht ho) ho, tdiff_nil.2 fun x => between_mem⟩
theorem tdo_add_tok {t : List Rl} {r : Rl} (h : tdoF t true r = 0) : Tok (t ++ [r]) := by
  unfold tdoF at h
  by_cases h1 : tchk t = 0
  · rw [if_neg (by simpa using h1)] at h
    have ht := tchk_iff.1 h1
    by_cases h2 : r.chk = 0
    · rw [if_neg (by simpa using h2), if_pos rfl] at h
      cases h3 : t.any fun x => x.key r with
      | true => rw [h3, if_pos rfl] at h; cases h
      | false =>
        rw [h3, if_neg Bool.false_ne_true] at h
        by_cases h4 : 12 ≤ t.length
        · rw [if_pos h4] at h; cases h
        · refine ⟨by simp; omega, fun x hx => ?_, List.pairwise_append.2 ⟨ht.key, by simp, fun a ha b hb => ?_⟩⟩
          · rcases List.mem_append.1 hx with hx | hx
            · exact ht.chk x hx
            · simp at hx; subst hx; exact h2
          · simp at hb; subst hb
            cases e : a.key b with
            | false => rfl
            | true => rw [List.any_eq_true.2 ⟨a, ha, e⟩] at h3; cases h3
    · rw [if_pos h2] at h; exact absurd h h2
  · rw [if_pos h1] at h; exact absurd h h1
/-- THE LAW: a rule that is added and taken away leaves the table as it was -/
theorem back_two {t : List Rl} {r : Rl} (h : tdoF t true r = 0) :
    tdoR t true r = t ++ [r] ∧ tdoF (t ++ [r]) false r = 0 ∧ tdoR (t ++ [r]) false r = t ∧ t2chk (t ++ [r]) t = 0 ∧ (tdiff (t ++ [r]) t).isEmpty = false := by
  have hk := tdo_add_tok h
  have ht := hk.sub (List.sublist_append_left t [r])
  obtain ⟨h1, h2⟩ := tdoF_del hk (r := r) (by simp)
  have hn : r ∉ t := fun hr => by
    have := (List.nodup_append.1 hk.nodup).2.2 r hr r (by simp)
    exact this rfl
  refine ⟨by unfold tdoR; rw [if_pos rfl], h1, ?_, t2chk_of hk ht, ?_⟩
  · rw [h2, List.erase_append_right _ hn]; simp
  · cases e : tdiff (t ++ [r]) t with
    | nil => exact absurd ((tdiff_nil.1 e r).1 (by simp)) hn
    | cons x l => rfl
def rone : Rl := ⟨3, 0, 0, 1, 0, 0⟩
theorem back_fact : tdoF [] true rone = 0 ∧ tdoR [] true rone = [rone] := by decide +kernel
end Go.Proofs.Ytpjadjoekdcjiaa
