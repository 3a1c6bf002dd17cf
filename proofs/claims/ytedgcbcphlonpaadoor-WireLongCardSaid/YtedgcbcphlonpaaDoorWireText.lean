/- Messages as bytes and out of bytes, in plain Lean: what is written is read. -/
import Derived.Test.YtedgcbcphlonpaaDoorWireDec
namespace Go.Proofs.YtedgcbcphlonpaaDoor
open Go.RowKit Go.Proofs.YtedgcbcphlonpaaDoor.Den
set_option linter.unusedSimpArgs false
set_option linter.unusedVariables false

theorem strNums_size (l : List Int) : (strOfNums l).size = l.length := by simp [strOfNums, ByteArray.size]
theorem bAt_nums (l : List Int) (hl : ∀ z ∈ l, 0 ≤ z ∧ z < 256) (j : Nat) (hj : j < l.length) : bAt (strOfNums l) j = l[j] := by
  have h := hl l[j] (List.getElem_mem hj)
  unfold bAt strOfNums
  simp [List.getD_eq_getElem?_getD, hj]
  omega
theorem Mg.key {x : Mg} (h : x.chk = 0) : 1 ≤ x.k ∧ x.k ≤ 3 ∧ 1 ≤ x.s ∧ x.s ≤ 6 ∧ 0 ≤ x.r ∧ x.r < 20 ∧ 0 ≤ x.i ∧ x.i ≤ 200 ∧ (x.k = 1 → x.o.r.chk = 0 ∧ x.o.s = x.s) ∧ (x.k ≠ 1 → x.o = op0) := by
  unfold Mg.chk at h
  split at h
  · omega
  · rename_i h1
    refine ⟨by omega, by omega, by omega, by omega, by omega, by omega, by omega, by omega, fun hk => ?_, fun hk => ?_⟩
    · rw [if_neg (by simpa using hk)] at h
      split at h
      · rename_i h2; exact absurd h h2
      · rename_i h2
        split at h
        · omega
        · rename_i h3
          exact ⟨by simpa using h2, by simpa using h3⟩
    · rw [if_pos hk] at h
      split at h
      · omega
      · rename_i h2
        rcases Decidable.em (x.o = op0) with h3 | h3
        · exact h3
        · exact absurd (.inl h3) h2
theorem Mg.bytes_range {x : Mg} (h : x.chk = 0) : ∀ z ∈ x.bytes, 0 ≤ z ∧ z < 256 := by
  intro z hz
  unfold Mg.bytes at hz
  rcases List.mem_append.1 hz with hz | hz
  · have := Mg.nums_range h z hz; omega
  · simp only [List.mem_singleton] at hz
    omega
theorem Mg.nums_len (x : Mg) : x.nums.length = if x.k = 1 then 11 else 4 := by
  unfold Mg.nums Mg.more
  split <;> rfl
theorem Mg.bytes_len (x : Mg) : x.bytes.length = if x.k = 1 then 12 else 5 := by
  unfold Mg.bytes
  rw [List.length_append, Mg.nums_len]
  split <;> rfl
theorem Mg.text_size {x : Mg} (h : x.chk = 0) : (x.text.size : Int) = wsize x.k := by
  unfold Mg.text wsize
  rw [strNums_size, Mg.bytes_len]
  have := Mg.key h
  (repeat' split) <;> omega
theorem Mg.text_at {x : Mg} (h : x.chk = 0) (j : Nat) (hj : j < x.bytes.length) : bAt x.text j = x.bytes[j] := bAt_nums _ (Mg.bytes_range h) j hj
theorem Mg.text_0 {x : Mg} (h : x.chk = 0) : bAt x.text 0 = x.k := by
  have hl : 0 < x.bytes.length := by rw [Mg.bytes_len]; split <;> omega
  rw [Mg.text_at h 0 hl]
  unfold Mg.bytes Mg.nums
  split <;> rfl
theorem mOf_text {x : Mg} (h : x.chk = 0) : mOf x.text = x := by
  have hk := Mg.key h
  have ha := Mg.text_at h
  have hl := Mg.bytes_len x
  obtain ⟨k, s, r, i, os, oa, p, m, b, o, t, v⟩ := x
  unfold mOf
  by_cases hk1 : k = 1
  · subst hk1
    simp only [if_true] at hl
    have hb : Mg.bytes ⟨1, s, r, i, os, oa, p, m, b, o, t, v⟩ = [1, s, r, i, if oa = true then 1 else 0, p, m, b, o, t, v, ([1, s, r, i, if oa = true then 1 else 0, p, m, b, o, t, v] : List Int).sum % 251] := rfl
    have h0 := ha 0 (by omega)
    have h1 := ha 1 (by omega)
    have h2 := ha 2 (by omega)
    have h3 := ha 3 (by omega)
    have h4 := ha 4 (by omega)
    have h5 := ha 5 (by omega)
    have h6 := ha 6 (by omega)
    have h7 := ha 7 (by omega)
    have h8 := ha 8 (by omega)
    have h9 := ha 9 (by omega)
    have h10 := ha 10 (by omega)
    simp only [hb, List.getElem_cons_zero, List.getElem_cons_succ] at h0 h1 h2 h3 h4 h5 h6 h7 h8 h9 h10
    have hs : os = s := (hk.2.2.2.2.2.2.2.2.1 rfl).2
    subst hs
    rw [h0, h1, h2, h3, h4, h5, h6, h7, h8, h9, h10]
    cases oa <;> rfl
  · have ho : (⟨os, oa, p, m, b, o, t, v⟩ : Opx) = op0 := hk.2.2.2.2.2.2.2.2.2 hk1
    have hb : Mg.bytes ⟨k, s, r, i, os, oa, p, m, b, o, t, v⟩ = [k, s, r, i, ([k, s, r, i] : List Int).sum % 251] := by unfold Mg.bytes Mg.nums; rw [if_neg hk1]; rfl
    rw [if_neg hk1] at hl
    have h0 := ha 0 (by omega)
    have h1 := ha 1 (by omega)
    have h2 := ha 2 (by omega)
    have h3 := ha 3 (by omega)
    simp only [hb, List.getElem_cons_zero, List.getElem_cons_succ] at h0 h1 h2 h3
    rw [h0, h1, h2, h3, if_neg hk1, ho]
theorem wdec_text {x : Mg} (h : x.chk = 0) : wdec x.text = some x := by
  have hs := Mg.text_size h
  have hk := Mg.key h
  have h0 : x.text.size ≠ 0 := by
    intro e
    rw [e] at hs
    unfold wsize at hs
    (repeat' split at hs) <;> omega
  unfold wdec
  rw [if_neg (by rw [Mg.text_0 h]; omega), mOf_text h, if_pos ⟨h, rfl⟩]
theorem wdec_some {s : ByteArray} {m : Mg} (h : wdec s = some m) : m.chk = 0 ∧ m.text = s := by
  unfold wdec at h
  split at h
  · cases h
  · split at h
    · rename_i hc
      simp only [Option.some.injEq] at h
      subst h
      exact hc
    · cases h
theorem wdec_iff (s : ByteArray) (m : Mg) : wdec s = some m ↔ m.chk = 0 ∧ m.text = s := ⟨wdec_some, fun h => by rw [← h.2]; exact wdec_text h.1⟩

/-- messages, one behind the other -/
def cat : List Mg → ByteArray
  | [] => ByteArray.empty
  | m :: l => m.text ++ cat l
theorem cat_append : ∀ (l r : List Mg), cat (l ++ r) = cat l ++ cat r
  | [], r => by simp [cat]
  | m :: l, r => by simp only [List.cons_append, cat, cat_append l r, ByteArray.append_assoc]
theorem bAt_left {a b : ByteArray} {j : Nat} (h : j < a.size) : bAt (a ++ b) j = bAt a j := by
  unfold bAt
  rw [ByteArray.data_append, Array.toList_append, List.getD_eq_getElem?_getD, List.getD_eq_getElem?_getD, List.getElem?_append_left (by rw [Array.length_toList]; exact h)]
theorem bAt_extract {a : ByteArray} {n j : Nat} (h : j < n) : bAt (a.extract 0 n) j = bAt a j := by
  unfold bAt
  rw [ByteArray.data_extract, Array.toList_extract, List.getD_eq_getElem?_getD, List.getD_eq_getElem?_getD]
  simp [List.extract, List.getElem?_take, h]
theorem wcut_text {x : Mg} (h : x.chk = 0) (s : ByteArray) : wcut (x.text ++ s) = (wcut s).map fun p => (x :: p.1, p.2) := by
  have hs := Mg.text_size h
  have hk := Mg.key h
  have h0 : 0 < x.text.size := by
    rcases Nat.eq_zero_or_pos x.text.size with e | e
    · rw [e] at hs
      unfold wsize at hs
      (repeat' split at hs) <;> omega
    · exact e
  have hb : bAt (x.text ++ s) 0 = x.k := by rw [bAt_left h0, Mg.text_0 h]
  have hz : (x.text ++ s).size = x.text.size + s.size := ByteArray.size_append
  have hn : (wsize (bAt (x.text ++ s) 0)).toNat = x.text.size := by rw [hb, ← hs]; simp
  have e1 : (x.text ++ s).extract 0 x.text.size = x.text := ByteArray.extract_append_eq_left rfl
  have e2 : (x.text ++ s).extract x.text.size (x.text ++ s).size = s := ByteArray.extract_append_eq_right rfl hz
  rw [wcut, dif_neg (by omega), dif_neg (by rw [hb]; omega), dif_neg (by rw [hb]; omega), hn, e1, e2, wdec_text h]
/-- the beginning of a message is left -/
theorem wcut_part {x : Mg} (h : x.chk = 0) {s : ByteArray} {c : Nat} (hc : c < x.text.size) : wcut ((x.text ++ s).extract 0 c) = some ([], (x.text ++ s).extract 0 c) := by
  have hs := Mg.text_size h
  have hz : ((x.text ++ s).extract 0 c).size = c := by rw [ByteArray.size_extract, ByteArray.size_append]; omega
  rw [wcut]
  by_cases h0 : c = 0
  · rw [dif_pos (by omega)]
  · have hb : bAt ((x.text ++ s).extract 0 c) 0 = x.k := by rw [bAt_extract (by omega), bAt_left (by omega), Mg.text_0 h]
    rw [dif_neg (by omega), dif_neg (by rw [hb]; omega), dif_pos (by rw [hb]; omega)]
theorem ex_all {a : ByteArray} {n : Nat} (h : a.size ≤ n) : a.extract 0 n = a := by
  have e := ByteArray.extract_zero_max_size (a := a) (i := n)
  rwa [Nat.max_eq_left h] at e
theorem wcut_cat : ∀ (l : List Mg) (hl : ∀ m ∈ l, m.chk = 0) (c n : Nat), n ≤ l.length → (cat (l.take n)).size ≤ c → c ≤ (cat l).size → (n < l.length → c < (cat (l.take (n + 1))).size) →
    wcut ((cat l).extract 0 c) = some (l.take n, (cat l).extract (cat (l.take n)).size c)
  | [], hl, c, n, hn, h1, h2, h3 => by
    have : c = 0 := by simpa [cat] using h2
    subst this
    rw [wcut]
    simp [cat]
  | x :: l, hl, c, 0, hn, h1, h2, h3 => by
    have hx := hl x (by simp)
    have hc := h3 (by simp)
    have e : cat ((x :: l).take (0 + 1)) = x.text := by simp [cat]
    rw [e] at hc
    exact wcut_part hx hc
  | x :: l, hl, c, n + 1, hn, h1, h2, h3 => by
    have hx := hl x (by simp)
    have e : ∀ k, (cat ((x :: l).take (k + 1))).size = x.text.size + (cat (l.take k)).size := fun k => by simp [cat]
    rw [e] at h1
    have e2 : (cat (x :: l)).size = x.text.size + (cat l).size := by simp [cat]
    rw [e2] at h2
    have ih := wcut_cat l (fun m hm => hl m (by simp [hm])) (c - x.text.size) n (by simpa using hn) (by omega) (by omega) (fun h => by have := h3 (by simpa using h); rw [e] at this; omega)
    have e3 : (cat (x :: l)).extract 0 c = x.text ++ (cat l).extract 0 (c - x.text.size) := by
      show (x.text ++ cat l).extract 0 c = _
      rw [ByteArray.extract_append]
      congr 1
      · rw [ex_all (by omega)]
      · simp
    rw [e3, wcut_text hx, ih, e]
    simp only [Option.map_some, List.take_succ_cons, Option.some.injEq, Prod.mk.injEq, true_and]
    show _ = (x.text ++ cat l).extract _ _
    have e4 : c = x.text.size + (c - x.text.size) := by omega
    rw [e4, ByteArray.extract_append_size_add]
    simp
theorem wcut_some : ∀ (n : Nat) (s : ByteArray), s.size ≤ n → ∀ {ms : List Mg} {rest : ByteArray}, wcut s = some (ms, rest) → s = cat ms ++ rest
  | n, s, hn, ms, rest, h => by
    rw [wcut] at h
    split at h
    · simp only [Option.some.injEq, Prod.mk.injEq] at h
      obtain ⟨rfl, rfl⟩ := h
      simp [cat]
    · split at h
      · cases h
      · split at h
        · simp only [Option.some.injEq, Prod.mk.injEq] at h
          obtain ⟨rfl, rfl⟩ := h
          simp [cat]
        · split at h
          · cases h
          · rename_i h0 h1 h2 m hm
            have hr := wsize_range (bAt s 0)
            have hl := ext_size s (wsize (bAt s 0)).toNat s.size (by omega) (Nat.le_refl _)
            obtain ⟨p, hp, he⟩ := Option.map_eq_some_iff.1 h
            simp only [Prod.mk.injEq] at he
            obtain ⟨rfl, rfl⟩ := he
            cases n with
            | zero => omega
            | succ n =>
              have ih := wcut_some n _ (by omega) hp
              have ht := (wdec_some hm).2
              show s = (m.text ++ cat p.1) ++ p.2
              rw [ByteArray.append_assoc, ← ih, ht, ByteArray.extract_append_extract]
              rw [Nat.min_eq_left (by omega), Nat.max_eq_right (by omega)]
              exact (ex_all (Nat.le_refl _)).symm
end Go.Proofs.YtedgcbcphlonpaaDoor
