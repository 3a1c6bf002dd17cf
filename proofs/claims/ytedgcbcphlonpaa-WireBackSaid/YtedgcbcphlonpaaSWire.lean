/- What the functions on messages as bytes come to. -/
import Derived.Test.YtedgcbcphlonpaaSRule0
namespace Go.Proofs.Ytedgcbcphlonpaa.Ty
open Go Go.RowKit Go.Proofs.Ytedgcbcphlonpaa.Den
set_option linter.unusedSimpArgs false
set_option linter.unusedVariables false
set_option maxRecDepth 100000

theorem s_wire_Check (m : T_Msg) : t_wire_Check m = some m.chk := by
  unfold t_wire_Check T_Msg.chk
  simp only [s_rule_Check, Option.bind_some]
  by_cases h1 : m.Kind < 1 ∨ 3 < m.Kind ∨ m.Switch < 1 ∨ 6 < m.Switch ∨ m.Round < 0 ∨ 20 ≤ m.Round ∨ m.Index < 0 ∨ 200 < m.Index
  · rw [if_pos h1, if_pos (by simp; omega)]
  · rw [if_neg h1, if_neg (by simp; omega)]
    by_cases h2 : m.Kind = 1
    · by_cases h3 : m.Op.Rule.chk = 0 <;> by_cases h4 : m.Op.Switch = m.Switch <;> simp [h2, h3, h4]
    · rw [if_pos (decide_eq_true h2), if_pos h2]
      have e : (⟨0, false, ⟨0, ⟨0, 0⟩, 0, 0, 0⟩⟩ : T_Op) = op0 := rfl
      rw [e]
      by_cases h3 : m.Op = op0 <;> by_cases h4 : m.Kind = 3 <;> by_cases h5 : m.Index = 0 <;> simp [h3, h4, h5]
theorem s_rMsg (m : T_Msg) : t_railref2_Msg m = some m.chk := by
  unfold t_railref2_Msg T_Msg.chk
  simp only [s_rRule, Option.bind_some]
  by_cases h1 : m.Kind < 1 ∨ 3 < m.Kind ∨ m.Switch < 1 ∨ 6 < m.Switch ∨ m.Round < 0 ∨ 20 ≤ m.Round ∨ m.Index < 0 ∨ 200 < m.Index
  · rw [if_pos h1, if_pos (by simp; omega)]
  · rw [if_neg h1, if_neg (by simp; omega)]
    by_cases h2 : m.Kind = 1
    · by_cases h3 : m.Op.Rule.chk = 0 <;> by_cases h4 : m.Op.Switch = m.Switch <;> simp [h2, h3, h4]
    · rw [if_pos (decide_eq_true h2), if_pos h2]
      have e : (⟨0, false, ⟨0, ⟨0, 0⟩, 0, 0, 0⟩⟩ : T_Op) = op0 := rfl
      rw [e]
      by_cases h3 : m.Op = op0 <;> by_cases h4 : m.Kind = 3 <;> by_cases h5 : m.Index = 0 <;> simp [h3, h4, h5]
theorem wr_sum {l : List Int} (hl : ∀ z ∈ l, 0 ≤ z ∧ z ≤ 255) (h : l.length ≤ 1000000) : ∀ (r : List Int) (s : Int), 0 ≤ s → s + 255 * r.length ≤ 1000000000 → (∀ z ∈ r, 0 ≤ z ∧ z ≤ 255) → True := fun _ _ _ _ _ => trivial
theorem goI_add {step : Int → Int → Int → (Int → Option Int) → Option Int} {fin : Int → Option Int} (hs : ∀ i x s k, step i x s k = k (wr (s + wr x))) : ∀ (l : List Int) (i s : Int), 0 ≤ s → s + 255 * l.length ≤ 1000000000 → (∀ z ∈ l, 0 ≤ z ∧ z ≤ 255) → goI step fin i l s = fin (s + l.sum)
  | [], i, s, _, _, _ => by simp [goI]
  | x :: l, i, s, h0, h1, hl => by
    have hx := hl x (by simp)
    rw [List.length_cons] at h1
    rw [goI, hs, wr_id (x := x) (by omega) (by omega), wr_id (by omega) (by omega), goI_add hs l (i + 1) (s + x) (by omega) (by push_cast at h1; omega) (fun z hz => hl z (by simp [hz])), List.sum_cons, Int.add_assoc]
theorem u8_id {x : Int} (h : 0 ≤ x ∧ x < 256) : IntKind.u8.wrap x = x := wrap_u8_id h.1 h.2
theorem s_wire_sum (l : List Int) (hl : ∀ z ∈ l, 0 ≤ z ∧ z ≤ 255) (h : l.length ≤ 100000) : t_wire_sum l = some (l.sum % 251) := by
  unfold t_wire_sum
  have hr := sum_range l 255 (by omega) hl
  rw [loopI_eq (by unfold maxI; omega), goI_add (fun i x s k => rfl) l 0 0 (by omega) (by omega) hl, Option.bind_some, Int.zero_add, Int.tmod_eq_emod_of_nonneg hr.1, u8_id (by omega)]
/-- numbers as bytes, one by one -/
theorem goI_bytes {step : Int → Int → List Int → (List Int → Option (List Int)) → Option (List Int)} (hs : ∀ i x s k, step i x s k = (app s [IntKind.u8.wrap x]).bind k) : ∀ (l : List Int) (i : Int) (s : List Int), s.length + l.length ≤ 100000 → (∀ z ∈ l, 0 ≤ z ∧ z < 256) → goI step some i l s = some (s ++ l)
  | [], i, s, _, _ => by simp [goI]
  | x :: l, i, s, h, hl => by
    rw [List.length_cons] at h
    rw [goI, hs, u8_id (hl x (by simp)), app_eq (by simp; omega), Option.bind_some, goI_bytes hs l (i + 1) (s ++ [x]) (by simp; omega) (fun z hz => hl z (by simp [hz]))]
    simp
theorem goI_bytes2 {step : Int → Int → List Int × Int → (List Int × Int → Option (List Int × Int)) → Option (List Int × Int)} {fin : List Int × Int → Option (List Int × Int)} (hf : ∀ s, fin s = some s) (hs : ∀ i x s k, step i x s k = (app s.1 [IntKind.u8.wrap x]).bind fun r => k (r, wr (s.2 + x))) : ∀ (l : List Int) (i : Int) (s : List Int) (n : Int), s.length + l.length ≤ 100000 → 0 ≤ n → n + 255 * l.length ≤ 1000000000 → (∀ z ∈ l, 0 ≤ z ∧ z < 256) → goI step fin i l (s, n) = some (s ++ l, n + l.sum)
  | [], i, s, n, _, _, _, _ => by simp [goI, hf]
  | x :: l, i, s, n, h, h0, h1, hl => by
    rw [List.length_cons] at h h1
    have hx := hl x (by simp)
    rw [goI, hs, u8_id hx, app_eq (by simp; omega), Option.bind_some, wr_id (by omega) (by omega), goI_bytes2 hf hs l (i + 1) (s ++ [x]) (n + x) (by simp; omega) (by omega) (by push_cast at h1; omega) (fun z hz => hl z (by simp [hz]))]
    simp [Int.add_assoc]
theorem nums_eq (m : T_Msg) : (if (decide (m.Kind = 1)) = true then
    (if m.Op.Add = true then some (([m.Kind, m.Switch, m.Round, m.Index] : List Int), (1 : Int)) else some (([m.Kind, m.Switch, m.Round, m.Index] : List Int), 0)).bind fun s57 =>
    (app s57.1 ([s57.2, m.Op.Rule.Prio, m.Op.Rule.Cube.Mask, m.Op.Rule.Cube.Bits, m.Op.Rule.Out, m.Op.Rule.Set, m.Op.Rule.Value] : List Int)).bind fun r70 => some r70
    else some ([m.Kind, m.Switch, m.Round, m.Index] : List Int)) = some m.nums := by
  unfold T_Msg.nums T_Msg.more
  by_cases h : m.Kind = 1
  · simp only [h, decide_true, if_true]
    cases m.Op.Add <;> simp [app_eq]
  · simp [h]
theorem s_Encode (m : T_Msg) : t_wire_Encode m = some (if m.chk = 0 then (m.text, 0) else (ByteArray.mk #[], m.chk)) := by
  unfold t_wire_Encode
  simp only [s_wire_Check, Option.bind_some]
  by_cases h : m.chk = 0
  · rw [if_neg (by simp [h]), if_pos h, nums_eq, Option.bind_some]
    have hr := T_Msg.nums_range h
    have hlen := T_Msg.nums_len m
    have hl : m.nums.length ≤ 11 := by rw [hlen]; split <;> omega
    rw [loopI_eq (by unfold maxI; omega), goI_bytes (fun i x s k => rfl) m.nums 0 [] (by simp; omega) (fun z hz => by have := hr z hz; omega), Option.bind_some, List.nil_append, s_wire_sum m.nums (fun z hz => by have := hr z hz; omega) (by omega), Option.bind_some, app_eq (by simp; omega)]
    rfl
  · rw [if_pos (by simp [h]), if_neg h]
theorem sidx_eq {s : ByteArray} {i : Nat} (h : i < s.size) : sidx s (i : Int) = some (bAt s i) := by
  unfold sidx
  rw [if_pos ⟨by omega, by omega⟩]; rfl
theorem s_size (k : Int) : t_wire_size k = some (wsize (wr k)) := by
  unfold t_wire_size wsize
  by_cases h1 : wr k = 1 <;> by_cases h2 : wr k = 2 <;> by_cases h3 : wr k = 3 <;> simp [h1, h2, h3]
theorem wr_bAt (s : ByteArray) (j : Nat) : wr (bAt s j) = bAt s j := by
  have := bAt_range s j
  exact wr_id (by omega) (by omega)
theorem s_Decode_1 (s : ByteArray) (j : Nat) (h : j < s.size) : t_wire_Decode_1 (j : Int) s = some (bAt s j) := by
  unfold t_wire_Decode_1
  rw [sidx_eq h, Option.bind_some, wr_bAt]
def msg0 : T_Msg := ⟨0, 0, 0, 0, op0⟩
def decM (o : Option T_Msg) : T_Msg := o.getD msg0
def decE (o : Option T_Msg) : Int := if o.isSome = true then 0 else 2
theorem empty_iff {s : ByteArray} : s = ByteArray.mk #[] ↔ s.size = 0 := ⟨fun h => by rw [h]; rfl, fun h => ByteArray.size_eq_zero_iff.1 h⟩
theorem mOf_eq (s : ByteArray) (h : (s.size : Int) = wsize (bAt s 0)) (h0 : s.size ≠ 0) : (if (decide (bAt s 0 = 1)) = true then
    (t_wire_Decode_1 4 s).bind fun r73 => (t_wire_Decode_1 5 s).bind fun r76 => (t_wire_Decode_1 6 s).bind fun r78 => (t_wire_Decode_1 7 s).bind fun r80 => (t_wire_Decode_1 8 s).bind fun r83 => (t_wire_Decode_1 9 s).bind fun r85 => (t_wire_Decode_1 10 s).bind fun r87 =>
      some (T_Msg.mk (bAt s 0) (bAt s 1) (bAt s 2) (bAt s 3) (T_Op.mk (bAt s 1) (decide (r73 = 1)) (T_Rule.mk r76 (T_Cube.mk r78 r80) r83 r85 r87)))
    else some (T_Msg.mk (bAt s 0) (bAt s 1) (bAt s 2) (bAt s 3) (T_Op.mk 0 false (T_Rule.mk 0 (T_Cube.mk 0 0) 0 0 0)))) = some (mOf s) := by
  unfold mOf
  by_cases hk : bAt s 0 = 1
  · have hz : s.size = 12 := by rw [hk] at h; have : wsize 1 = 12 := rfl; omega
    have e : ∀ j : Nat, j < 12 → t_wire_Decode_1 (j : Int) s = some (bAt s j) := fun j hj => s_Decode_1 s j (by omega)
    have e4 := e 4 (by omega); have e5 := e 5 (by omega); have e6 := e 6 (by omega); have e7 := e 7 (by omega); have e8 := e 8 (by omega); have e9 := e 9 (by omega); have e10 := e 10 (by omega)
    simp only [Int.cast_ofNat_Int] at e4 e5 e6 e7 e8 e9 e10
    simp only [hk, decide_true, if_true, e4, e5, e6, e7, e8, e9, e10, Option.bind_some]
  · simp only [hk, decide_false, Bool.false_eq_true, if_false]
    rfl
theorem s_Decode (s : ByteArray) : t_wire_Decode s = some (decM (wdec s), decE (wdec s)) := by
  unfold t_wire_Decode
  by_cases h0 : s.size = 0
  · have e := empty_iff.2 h0
    have ed : wdec s = none := by unfold wdec; rw [if_pos (.inl h0)]
    rw [ed]
    simp only [e, decide_true, Bool.not_true, gd_false, Option.bind_some, Bool.true_or, if_true]
    rfl
  · have e : ¬ s = ByteArray.mk #[] := fun e => h0 (empty_iff.1 e)
    have hi : sidx s 0 = some (bAt s 0) := sidx_eq (i := 0) (by omega)
    simp only [e, decide_false, Bool.not_false, gd_true, hi, Option.bind_some, s_size, wr_bAt, Bool.false_or]
    by_cases hl : (s.size : Int) = wsize (bAt s 0)
    · rw [if_neg (by simpa using hl)]
      have hw := wsize_range (bAt s 0)
      have ej : ∀ j : Nat, j < 4 → t_wire_Decode_1 (j : Int) s = some (bAt s j) := fun j hj => s_Decode_1 s j (by omega)
      have e0 := ej 0 (by omega); have e1 := ej 1 (by omega); have e2 := ej 2 (by omega); have e3 := ej 3 (by omega)
      simp only [Int.cast_ofNat_Int] at e0 e1 e2 e3
      simp only [e0, e1, e2, e3, Option.bind_some]
      rw [mOf_eq s hl h0, Option.bind_some, s_Encode, Option.bind_some]
      have ew : wdec s = if (mOf s).chk = 0 ∧ (mOf s).text = s then some (mOf s) else none := by
        unfold wdec; rw [if_neg (by rintro (h | h); exact h0 h; exact h hl)]
      rw [ew]
      by_cases hc : (mOf s).chk = 0
      · by_cases ht : (mOf s).text = s
        · simp [hc, ht, decM, decE]
        · simp [hc, ht, decM, decE, msg0, op0]
      · simp [hc, decM, decE, msg0, op0]
    · have ed : wdec s = none := by unfold wdec; rw [if_pos (.inr hl)]
      rw [if_pos (by simpa using hl), ed]
      rfl
end Go.Proofs.Ytedgcbcphlonpaa.Ty
