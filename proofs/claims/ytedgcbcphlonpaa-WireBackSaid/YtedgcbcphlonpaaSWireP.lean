/- Rules and messages, their faults, messages as bytes and out of bytes: plain. -/
import Derived.Test.YtedgcbcphlonpaaTyT
import Derived.Test.YtedgcbcphlonpaaSBase
import Derived.Test.YtedgcbcphlonpaaPlain
namespace Go.Proofs.Ytedgcbcphlonpaa.Ty
open Go Go.RowKit Go.Proofs.Ytedgcbcphlonpaa.Den
set_option linter.unusedSimpArgs false
set_option linter.unusedVariables false
set_option maxRecDepth 100000

def rchk (p m b o s v : Int) : Int :=
  if 0 ≤ p ∧ p ≤ 99 ∧ 0 ≤ o ∧ o ≤ 4 ∧ (0 ≤ s ∧ s < 16) ∧ (0 ≤ v ∧ v < 16) then
    (if cchk m b = 0 then (if bits .andNot .i64 v s = 0 ∧ ¬ (o = 0 ∧ s ≠ 0) then 0 else 3) else cchk m b)
  else 1
theorem rchk_0 {p m b o s v : Int} : rchk p m b o s v = 0 ↔ (0 ≤ p ∧ p ≤ 99 ∧ 0 ≤ o ∧ o ≤ 4 ∧ (0 ≤ s ∧ s < 16) ∧ (0 ≤ v ∧ v < 16)) ∧ cchk m b = 0 ∧ bits .andNot .i64 v s = 0 ∧ ¬ (o = 0 ∧ s ≠ 0) := by
  unfold rchk
  split
  · rename_i h
    split
    · rename_i h2
      split
      · rename_i h3; exact ⟨fun _ => ⟨h, h2, h3.1, h3.2⟩, fun _ => rfl⟩
      · rename_i h3; exact ⟨fun h => absurd h (by decide), fun h => absurd ⟨h.2.2.1, h.2.2.2⟩ h3⟩
    · rename_i h2; exact ⟨fun h => absurd h h2, fun h => absurd h.2.1 h2⟩
  · rename_i h; exact ⟨fun h => absurd h (by decide), fun h2 => absurd h2.1 h⟩

set_option maxHeartbeats 800000 in
def T_Rule.chk (x : T_Rule) : Int := rchk x.Prio x.Cube.Mask x.Cube.Bits x.Out x.Set x.Value
def op0 : T_Op := ⟨0, false, ⟨0, ⟨0, 0⟩, 0, 0, 0⟩⟩
def mg0 : T_Msg := ⟨0, 0, 0, 0, op0⟩
/-- the fault of a message -/
def T_Msg.chk (x : T_Msg) : Int :=
  if x.Kind < 1 ∨ 3 < x.Kind ∨ x.Switch < 1 ∨ 6 < x.Switch ∨ x.Round < 0 ∨ 20 ≤ x.Round ∨ x.Index < 0 ∨ 200 < x.Index then 1
  else if x.Kind ≠ 1 then (if x.Op ≠ op0 ∨ (x.Kind = 3 ∧ x.Index ≠ 0) then 3 else 0)
  else if x.Op.Rule.chk ≠ 0 then x.Op.Rule.chk
  else if x.Op.Switch ≠ x.Switch then 3 else 0
def T_Msg.more (x : T_Msg) : List Int := [if x.Op.Add = true then 1 else 0, x.Op.Rule.Prio, x.Op.Rule.Cube.Mask, x.Op.Rule.Cube.Bits, x.Op.Rule.Out, x.Op.Rule.Set, x.Op.Rule.Value]
/-- its numbers -/
def T_Msg.nums (x : T_Msg) : List Int := if x.Kind = 1 then [x.Kind, x.Switch, x.Round, x.Index] ++ x.more else [x.Kind, x.Switch, x.Round, x.Index]
def T_Msg.bytes (x : T_Msg) : List Int := x.nums ++ [x.nums.sum % 251]
def T_Msg.text (x : T_Msg) : ByteArray := strOfNums x.bytes
def wsize (k : Int) : Int := if k = 1 then 12 else if k = 2 ∨ k = 3 then 5 else 0
theorem wsize_range (k : Int) : wsize k = 0 ∨ wsize k = 5 ∨ wsize k = 12 := by unfold wsize; (repeat' split) <;> simp
/-- the message that bytes may be -/
def mOf (s : ByteArray) : T_Msg := ⟨bAt s 0, bAt s 1, bAt s 2, bAt s 3, if bAt s 0 = 1 then ⟨bAt s 1, decide (bAt s 4 = 1), ⟨bAt s 5, ⟨bAt s 6, bAt s 7⟩, bAt s 8, bAt s 9, bAt s 10⟩⟩ else op0⟩
def wdec (s : ByteArray) : Option T_Msg := if s.size = 0 ∨ (s.size : Int) ≠ wsize (bAt s 0) then none else if (mOf s).chk = 0 ∧ (mOf s).text = s then some (mOf s) else none
theorem ext_size (s : ByteArray) (a b : Nat) (h : a ≤ b) (hb : b ≤ s.size) : (s.extract a b).size = b - a := by
  rw [ByteArray.size_extract]; omega
/-- bytes cut into messages: these, what is left; none: they are none -/
def wcut (s : ByteArray) : Option (List T_Msg × ByteArray) :=
  if h0 : s.size = 0 then some ([], s)
  else if hn : wsize (bAt s 0) = 0 then none
  else if hl : (s.size : Int) < wsize (bAt s 0) then some ([], s)
  else match wdec (s.extract 0 (wsize (bAt s 0)).toNat) with
    | none => none
    | some m => (wcut (s.extract (wsize (bAt s 0)).toNat s.size)).map fun p => (m :: p.1, p.2)
  termination_by s.size
  decreasing_by
    rw [ext_size _ _ _ (by omega) (Nat.le_refl _)]
    have := wsize_range (bAt s 0)
    omega

/-- the numbers of a message that is right are bytes -/
theorem T_Msg.nums_range {x : T_Msg} (h : x.chk = 0) : ∀ z ∈ x.nums, 0 ≤ z ∧ z ≤ 200 := by
  have key : 1 ≤ x.Kind ∧ x.Kind ≤ 3 ∧ 1 ≤ x.Switch ∧ x.Switch ≤ 6 ∧ 0 ≤ x.Round ∧ x.Round < 20 ∧ 0 ≤ x.Index ∧ x.Index ≤ 200 ∧ (x.Kind = 1 → x.Op.Rule.chk = 0 ∧ x.Op.Switch = x.Switch) := by
    unfold T_Msg.chk at h
    split at h
    · omega
    · rename_i h1
      refine ⟨by omega, by omega, by omega, by omega, by omega, by omega, by omega, by omega, fun hk => ?_⟩
      rw [if_neg (by simpa using hk)] at h
      split at h
      · rename_i h2; exact absurd h h2
      · rename_i h2
        split at h
        · omega
        · rename_i h3
          exact ⟨by simpa using h2, by simpa using h3⟩
  obtain ⟨k1, k2, k3, k4, k5, k6, k7, k8, k9⟩ := key
  intro z hz
  unfold T_Msg.nums at hz
  split at hz
  · rename_i hk
    obtain ⟨hr, _⟩ := k9 hk
    unfold T_Rule.chk at hr
    obtain ⟨⟨r1, r2, r3, r4, ⟨r5, r6⟩, r7, r8⟩, hc, _⟩ := rchk_0.1 hr
    have hm : 0 ≤ x.Op.Rule.Cube.Mask ∧ x.Op.Rule.Cube.Mask < 16 ∧ 0 ≤ x.Op.Rule.Cube.Bits ∧ x.Op.Rule.Cube.Bits < 16 := by
      unfold cchk at hc
      split at hc
      · assumption
      · omega
    unfold T_Msg.more at hz
    simp only [List.cons_append, List.nil_append, List.mem_cons, List.mem_nil_iff, or_false] at hz
    rcases hz with rfl | rfl | rfl | rfl | rfl | rfl | rfl | rfl | rfl | rfl | rfl
    · omega
    · omega
    · omega
    · omega
    · split <;> omega
    all_goals omega
  · simp only [List.mem_cons, List.mem_nil_iff, or_false] at hz
    rcases hz with rfl | rfl | rfl | rfl <;> omega
theorem sum_range (xs : List Int) (b : Int) (hb : 0 ≤ b) (h : ∀ z ∈ xs, 0 ≤ z ∧ z ≤ b) : 0 ≤ xs.sum ∧ xs.sum ≤ b * xs.length := by
  induction xs with
  | nil => simp
  | cons x xs ih =>
    have h1 := h x (by simp)
    have h2 := ih (fun z hz => h z (by simp [hz]))
    rw [List.sum_cons, List.length_cons]
    have : b * ((xs.length + 1 : Nat) : Int) = b * xs.length + b := by push_cast; rw [Int.mul_add]; simp
    rw [this]
    omega
theorem strNums_size (l : List Int) : (strOfNums l).size = l.length := by simp [strOfNums, ByteArray.size]
theorem bAt_nums (l : List Int) (hl : ∀ z ∈ l, 0 ≤ z ∧ z < 256) (j : Nat) (hj : j < l.length) : bAt (strOfNums l) j = l[j] := by
  have h := hl l[j] (List.getElem_mem hj)
  unfold bAt strOfNums
  simp [List.getD_eq_getElem?_getD, hj]
  omega
theorem T_Msg.key {x : T_Msg} (h : x.chk = 0) : 1 ≤ x.Kind ∧ x.Kind ≤ 3 ∧ 1 ≤ x.Switch ∧ x.Switch ≤ 6 ∧ 0 ≤ x.Round ∧ x.Round < 20 ∧ 0 ≤ x.Index ∧ x.Index ≤ 200 ∧ (x.Kind = 1 → x.Op.Rule.chk = 0 ∧ x.Op.Switch = x.Switch) ∧ (x.Kind ≠ 1 → x.Op = op0) := by
  unfold T_Msg.chk at h
  split at h
  · omega
  · rename_i h1
    refine ⟨by omega, by omega, by omega, by omega, by omega, by omega, by omega, by omega, fun hk => ?_, fun hk => ?_⟩
    · rw [if_neg (by simpa using hk)] at h
      split at h
      · rename_i h2; exact absurd h h2
      · rename_i h2
        split at h
        · omega
        · rename_i h3
          exact ⟨by simpa using h2, by simpa using h3⟩
    · rw [if_pos hk] at h
      split at h
      · omega
      · rename_i h2
        rcases Decidable.em (x.Op = op0) with h3 | h3
        · exact h3
        · exact absurd (.inl h3) h2
theorem T_Msg.bytes_range {x : T_Msg} (h : x.chk = 0) : ∀ z ∈ x.bytes, 0 ≤ z ∧ z < 256 := by
  intro z hz
  unfold T_Msg.bytes at hz
  rcases List.mem_append.1 hz with hz | hz
  · have := T_Msg.nums_range h z hz; omega
  · simp only [List.mem_singleton] at hz
    omega
theorem T_Msg.nums_len (x : T_Msg) : x.nums.length = if x.Kind = 1 then 11 else 4 := by
  unfold T_Msg.nums T_Msg.more
  split <;> rfl
theorem T_Msg.bytes_len (x : T_Msg) : x.bytes.length = if x.Kind = 1 then 12 else 5 := by
  unfold T_Msg.bytes
  rw [List.length_append, T_Msg.nums_len]
  split <;> rfl
theorem T_Msg.text_size {x : T_Msg} (h : x.chk = 0) : (x.text.size : Int) = wsize x.Kind := by
  unfold T_Msg.text wsize
  rw [strNums_size, T_Msg.bytes_len]
  have := T_Msg.key h
  (repeat' split) <;> omega
theorem T_Msg.text_at {x : T_Msg} (h : x.chk = 0) (j : Nat) (hj : j < x.bytes.length) : bAt x.text j = x.bytes[j] := bAt_nums _ (T_Msg.bytes_range h) j hj
theorem T_Msg.text_0 {x : T_Msg} (h : x.chk = 0) : bAt x.text 0 = x.Kind := by
  have hl : 0 < x.bytes.length := by rw [T_Msg.bytes_len]; split <;> omega
  rw [T_Msg.text_at h 0 hl]
  unfold T_Msg.bytes T_Msg.nums
  split <;> rfl
theorem mOf_text {x : T_Msg} (h : x.chk = 0) : mOf x.text = x := by
  have hk := T_Msg.key h
  have ha := T_Msg.text_at h
  have hl := T_Msg.bytes_len x
  obtain ⟨k, s, r, i, ⟨os, oa, ⟨p, ⟨m, b⟩, o, t, v⟩⟩⟩ := x
  unfold mOf
  by_cases hk1 : k = 1
  · subst hk1
    simp only [if_true] at hl
    have hb : T_Msg.bytes ⟨1, s, r, i, ⟨os, oa, ⟨p, ⟨m, b⟩, o, t, v⟩⟩⟩ = [1, s, r, i, if oa = true then 1 else 0, p, m, b, o, t, v, ([1, s, r, i, if oa = true then 1 else 0, p, m, b, o, t, v] : List Int).sum % 251] := rfl
    have h0 := ha 0 (by omega)
    have h1 := ha 1 (by omega)
    have h2 := ha 2 (by omega)
    have h3 := ha 3 (by omega)
    have h4 := ha 4 (by omega)
    have h5 := ha 5 (by omega)
    have h6 := ha 6 (by omega)
    have h7 := ha 7 (by omega)
    have h8 := ha 8 (by omega)
    have h9 := ha 9 (by omega)
    have h10 := ha 10 (by omega)
    simp only [hb, List.getElem_cons_zero, List.getElem_cons_succ] at h0 h1 h2 h3 h4 h5 h6 h7 h8 h9 h10
    have hs : os = s := (hk.2.2.2.2.2.2.2.2.1 rfl).2
    subst hs
    rw [h0, h1, h2, h3, h4, h5, h6, h7, h8, h9, h10]
    cases oa <;> rfl
  · have ho : (⟨os, oa, ⟨p, ⟨m, b⟩, o, t, v⟩⟩ : T_Op) = op0 := hk.2.2.2.2.2.2.2.2.2 hk1
    have hb : T_Msg.bytes ⟨k, s, r, i, ⟨os, oa, ⟨p, ⟨m, b⟩, o, t, v⟩⟩⟩ = [k, s, r, i, ([k, s, r, i] : List Int).sum % 251] := by unfold T_Msg.bytes T_Msg.nums; rw [if_neg hk1]; rfl
    rw [if_neg hk1] at hl
    have h0 := ha 0 (by omega)
    have h1 := ha 1 (by omega)
    have h2 := ha 2 (by omega)
    have h3 := ha 3 (by omega)
    simp only [hb, List.getElem_cons_zero, List.getElem_cons_succ] at h0 h1 h2 h3
    rw [h0, h1, h2, h3, if_neg hk1, ho]
theorem wdec_text {x : T_Msg} (h : x.chk = 0) : wdec x.text = some x := by
  have hs := T_Msg.text_size h
  have hk := T_Msg.key h
  have h0 : x.text.size ≠ 0 := by
    intro e
    rw [e] at hs
    unfold wsize at hs
    (repeat' split at hs) <;> omega
  unfold wdec
  rw [if_neg (by rw [T_Msg.text_0 h]; omega), mOf_text h, if_pos ⟨h, rfl⟩]
theorem wdec_some {s : ByteArray} {m : T_Msg} (h : wdec s = some m) : m.chk = 0 ∧ m.text = s := by
  unfold wdec at h
  split at h
  · cases h
  · split at h
    · rename_i hc
      simp only [Option.some.injEq] at h
      subst h
      exact hc
    · cases h
theorem wdec_iff (s : ByteArray) (m : T_Msg) : wdec s = some m ↔ m.chk = 0 ∧ m.text = s := ⟨wdec_some, fun h => by rw [← h.2]; exact wdec_text h.1⟩

/-- messages, one behind the other -/
def cat : List T_Msg → ByteArray
  | [] => ByteArray.empty
  | m :: l => m.text ++ cat l
theorem cat_append : ∀ (l r : List T_Msg), cat (l ++ r) = cat l ++ cat r
  | [], r => by simp [cat]
  | m :: l, r => by simp only [List.cons_append, cat, cat_append l r, ByteArray.append_assoc]
theorem bAt_left {a b : ByteArray} {j : Nat} (h : j < a.size) : bAt (a ++ b) j = bAt a j := by
  unfold bAt
  rw [ByteArray.data_append, Array.toList_append, List.getD_eq_getElem?_getD, List.getD_eq_getElem?_getD, List.getElem?_append_left (by rw [Array.length_toList]; exact h)]
theorem bAt_extract {a : ByteArray} {n j : Nat} (h : j < n) : bAt (a.extract 0 n) j = bAt a j := by
  unfold bAt
  rw [ByteArray.data_extract, Array.toList_extract, List.getD_eq_getElem?_getD, List.getD_eq_getElem?_getD]
  simp [List.extract, List.getElem?_take, h]
theorem wcut_text {x : T_Msg} (h : x.chk = 0) (s : ByteArray) : wcut (x.text ++ s) = (wcut s).map fun p => (x :: p.1, p.2) := by
  have hs := T_Msg.text_size h
  have hk := T_Msg.key h
  have h0 : 0 < x.text.size := by
    rcases Nat.eq_zero_or_pos x.text.size with e | e
    · rw [e] at hs
      unfold wsize at hs
      (repeat' split at hs) <;> omega
    · exact e
  have hb : bAt (x.text ++ s) 0 = x.Kind := by rw [bAt_left h0, T_Msg.text_0 h]
  have hz : (x.text ++ s).size = x.text.size + s.size := ByteArray.size_append
  have hn : (wsize (bAt (x.text ++ s) 0)).toNat = x.text.size := by rw [hb, ← hs]; simp
  have e1 : (x.text ++ s).extract 0 x.text.size = x.text := ByteArray.extract_append_eq_left rfl
  have e2 : (x.text ++ s).extract x.text.size (x.text ++ s).size = s := ByteArray.extract_append_eq_right rfl hz
  rw [wcut, dif_neg (by omega), dif_neg (by rw [hb]; omega), dif_neg (by rw [hb]; omega), hn, e1, e2, wdec_text h]
/-- the beginning of a message is left -/
theorem wcut_part {x : T_Msg} (h : x.chk = 0) {s : ByteArray} {c : Nat} (hc : c < x.text.size) : wcut ((x.text ++ s).extract 0 c) = some ([], (x.text ++ s).extract 0 c) := by
  have hs := T_Msg.text_size h
  have hz : ((x.text ++ s).extract 0 c).size = c := by rw [ByteArray.size_extract, ByteArray.size_append]; omega
  rw [wcut]
  by_cases h0 : c = 0
  · rw [dif_pos (by omega)]
  · have hb : bAt ((x.text ++ s).extract 0 c) 0 = x.Kind := by rw [bAt_extract (by omega), bAt_left (by omega), T_Msg.text_0 h]
    rw [dif_neg (by omega), dif_neg (by rw [hb]; omega), dif_pos (by rw [hb]; omega)]
theorem ex_all {a : ByteArray} {n : Nat} (h : a.size ≤ n) : a.extract 0 n = a := by
  have e := ByteArray.extract_zero_max_size (a := a) (i := n)
  rwa [Nat.max_eq_left h] at e
theorem wcut_cat : ∀ (l : List T_Msg) (hl : ∀ m ∈ l, m.chk = 0) (c n : Nat), n ≤ l.length → (cat (l.take n)).size ≤ c → c ≤ (cat l).size → (n < l.length → c < (cat (l.take (n + 1))).size) →
    wcut ((cat l).extract 0 c) = some (l.take n, (cat l).extract (cat (l.take n)).size c)
  | [], hl, c, n, hn, h1, h2, h3 => by
    have : c = 0 := by simpa [cat] using h2
    subst this
    rw [wcut]
    simp [cat]
  | x :: l, hl, c, 0, hn, h1, h2, h3 => by
    have hx := hl x (by simp)
    have hc := h3 (by simp)
    have e : cat ((x :: l).take (0 + 1)) = x.text := by simp [cat]
    rw [e] at hc
    exact wcut_part hx hc
  | x :: l, hl, c, n + 1, hn, h1, h2, h3 => by
    have hx := hl x (by simp)
    have e : ∀ k, (cat ((x :: l).take (k + 1))).size = x.text.size + (cat (l.take k)).size := fun k => by simp [cat]
    rw [e] at h1
    have e2 : (cat (x :: l)).size = x.text.size + (cat l).size := by simp [cat]
    rw [e2] at h2
    have ih := wcut_cat l (fun m hm => hl m (by simp [hm])) (c - x.text.size) n (by simpa using hn) (by omega) (by omega) (fun h => by have := h3 (by simpa using h); rw [e] at this; omega)
    have e3 : (cat (x :: l)).extract 0 c = x.text ++ (cat l).extract 0 (c - x.text.size) := by
      show (x.text ++ cat l).extract 0 c = _
      rw [ByteArray.extract_append]
      congr 1
      · rw [ex_all (by omega)]
      · simp
    rw [e3, wcut_text hx, ih, e]
    simp only [Option.map_some, List.take_succ_cons, Option.some.injEq, Prod.mk.injEq, true_and]
    show _ = (x.text ++ cat l).extract _ _
    have e4 : c = x.text.size + (c - x.text.size) := by omega
    rw [e4, ByteArray.extract_append_size_add]
    simp
theorem wcut_some : ∀ (n : Nat) (s : ByteArray), s.size ≤ n → ∀ {ms : List T_Msg} {rest : ByteArray}, wcut s = some (ms, rest) → s = cat ms ++ rest
  | n, s, hn, ms, rest, h => by
    rw [wcut] at h
    split at h
    · simp only [Option.some.injEq, Prod.mk.injEq] at h
      obtain ⟨rfl, rfl⟩ := h
      simp [cat]
    · split at h
      · cases h
      · split at h
        · simp only [Option.some.injEq, Prod.mk.injEq] at h
          obtain ⟨rfl, rfl⟩ := h
          simp [cat]
        · split at h
          · cases h
          · rename_i h0 h1 h2 m hm
            have hr := wsize_range (bAt s 0)
            have hl := ext_size s (wsize (bAt s 0)).toNat s.size (by omega) (Nat.le_refl _)
            obtain ⟨p, hp, he⟩ := Option.map_eq_some_iff.1 h
            simp only [Prod.mk.injEq] at he
            obtain ⟨rfl, rfl⟩ := he
            cases n with
            | zero => omega
            | succ n =>
              have ih := wcut_some n _ (by omega) hp
              have ht := (wdec_some hm).2
              show s = (m.text ++ cat p.1) ++ p.2
              rw [ByteArray.append_assoc, ← ih, ht, ByteArray.extract_append_extract]
              rw [Nat.min_eq_left (by omega), Nat.max_eq_right (by omega)]
              exact (ex_all (Nat.le_refl _)).symm
end Go.Proofs.Ytedgcbcphlonpaa.Ty
