/- WishTells: the law. -/
import Derived.Test.YtilbgbhpdjjliaaGreatDoorSplit
import Derived.Lib.SplitLaws
import Derived.Test.YtilbgbhpdjjliaaGreatDoorSBase
import Derived.Lib.ItoaNum
import Derived.Lib.AtoiTie
import Derived.Test.YtilbgbhpdjjliaaGreatDoorTyA
import Derived.Test.YtilbgbhpdjjliaaGreatDoorWN
import Derived.Test.YtilbgbhpdjjliaaGreatDoorVcS
import Derived.Test.YtilbgbhpdjjliaaGreatDoorTyX
import Derived.Test.YtilbgbhpdjjliaaGreatDoorPlain
namespace Go.Proofs.YtilbgbhpdjjliaaGreatDoor.Ty
open Go Go.RowKit Go.Proofs.YtilbgbhpdjjliaaGreatDoor.Den
set_option linter.unusedSimpArgs false
set_option linter.unusedVariables false
def cut (c : UInt8) : List UInt8 → List (List UInt8)
 | [] => [[]]
 | b :: l => if b = c then [] :: cut c l else match cut c l with
  | w :: ws => (b :: w) :: ws
  | [] => [[b]]
def glue (c : UInt8) : List (List UInt8) → List UInt8
 | [] => []
 | [w] => w
 | w :: v :: ws => w ++ c :: glue c (v :: ws)
theorem cut_ne (c : UInt8) : ∀ l, cut c l ≠ []
 | [] => by simp [cut]
 | b :: l => by
  unfold cut
  split
  ·simp
  ·split <;> simp
theorem cut_eq (c : UInt8) : ∀ s, Lib.splitK [c] 0 (Lib.count s [c]) s = cut c s
 | [] => by rw [Lib.count_miss (by simp [Lib.index])]; rfl
 | b :: l => by
  have ih := cut_eq c l
  by_cases h : b = c
  ·subst h
   have hix : Lib.index (b :: l) [b] = ((0 : Nat) : Int) := by rw [Lib.index]; simp [List.isPrefixOf]
   rw [Lib.count_cons_eq, Nat.add_comm, Lib.splitK, hix, if_neg (by decide)]
   simp only [cut, if_true]
   rw [← ih]
   simp
  ·have hp : ([c] : List UInt8).isPrefixOf (b :: l) = false := by simp [List.isPrefixOf, Ne.symm h]
   have hix : Lib.index (b :: l) [c] = if Lib.index l [c] == -1 then -1 else Lib.index l [c] + 1 := by rw [Lib.index, hp]; simp
   rw [Lib.count_cons_ne b c l h]
   simp only [cut, if_neg h]
   rw [← ih]
   by_cases hm : Lib.index l [c] = -1
   ·rw [Lib.count_miss hm]; rfl
   ·have hge := Lib.index_ge l [c]
    obtain ⟨j, hj⟩ : ∃ j : Nat, Lib.index l [c] = j := ⟨(Lib.index l [c]).toNat, by omega⟩
    have hc := Lib.count_hit (sub := [c]) (by simp) hj
    obtain ⟨k, hk⟩ : ∃ k, Lib.count l [c] = k + 1 := ⟨_, by rw [hc, Nat.add_comm]⟩
    have hix' : Lib.index (b :: l) [c] = ((j + 1 : Nat) : Int) := by rw [hix, if_neg (fun e => hm (beq_iff_eq.1 e)), hj]; omega
    rw [hk, Lib.splitK, Lib.splitK, hix', hj, if_neg (by rw [beq_iff_eq]; omega), if_neg (by rw [beq_iff_eq]; omega)]
    simp
theorem glue_cut (c : UInt8) : ∀ s, glue c (cut c s) = s
 | [] => rfl
 | b :: l => by
  have ih := glue_cut c l
  unfold cut
  split
  ·rename_i hb
   subst hb
   cases h : cut b l with
   | nil => exact absurd h (cut_ne b l)
   | cons w ws => rw [h] at ih; show [] ++ b :: glue b (w :: ws) = _; rw [ih]; rfl
  ·split
   ·rename_i v vs e
    rw [e] at ih
    cases vs with
    | nil => show b :: v = b :: l; rw [show v = l from ih]
    | cons x xs => show (b :: v) ++ c :: glue c (x :: xs) = b :: l; rw [← ih]; rfl
   ·rename_i e; exact absurd e (cut_ne c l)
theorem cut_word (c : UInt8) : ∀ w, c ∉ w → cut c w = [w]
 | [], _ => rfl
 | b :: w, h => by
  simp only [List.mem_cons, not_or] at h
  unfold cut
  rw [if_neg (fun e => h.1 e.symm), cut_word c w h.2]
theorem cut_app (c : UInt8) : ∀ w r, c ∉ w → cut c (w ++ c :: r) = w :: cut c r
 | [], r, _ => by simp [cut]
 | b :: w, r, h => by
  simp only [List.mem_cons, not_or] at h
  show cut c (b :: (w ++ c :: r)) = _
  rw [cut, if_neg (fun e => h.1 e.symm), cut_app c w r h.2]
theorem cut_glue (c : UInt8) : ∀ ws, ws ≠ [] → (∀ w ∈ ws, c ∉ w) → cut c (glue c ws) = ws
 | [], h, _ => absurd rfl h
 | [w], _, h => cut_word c w (h w (by simp))
 | w :: v :: ws, _, h => by
  rw [glue, cut_app c w _ (h w (by simp)), cut_glue c (v :: ws) (by simp) fun x hx => h x (by simp [hx])]
theorem split_data (s : ByteArray) (c : UInt8) : (Lib.splitB ⟨#[c]⟩ 0 (Lib.countB s ⟨#[c]⟩) s).map (·.data.toList) = cut c s.data.toList := by
 rw [Lib.splitB_data, ← cut_eq]
theorem decFrom_snoc (c : UInt8) : ∀ (l : List UInt8) (acc : Nat), Lib.decFrom acc (l ++ [c]) = (Lib.decFrom acc l).bind fun k => (Lib.digitVal c).map fun d => k * 10 + d
 | [], acc => by
  simp only [List.nil_append, Lib.decFrom, Option.bind_some]
  cases Lib.digitVal c <;> rfl
 | a :: l, acc => by
  simp only [List.cons_append, Lib.decFrom]
  cases Lib.digitVal a with
  | none => rfl
  | some d => exact decFrom_snoc c l _
theorem digit_val {k : Nat} (h : k < 10) : Lib.digitVal (UInt8.ofNat (48 + k)) = some k := by
 have H : ∀ k : Fin 10, Lib.digitVal (UInt8.ofNat (48 + k.val)) = some k.val := by decide
 exact H ⟨k, h⟩
theorem digit_ne {k : Nat} (h : k < 10) (h1 : 1 ≤ k) : UInt8.ofNat (48 + k) ≠ 48 := by
 have H : ∀ k : Fin 10, 1 ≤ k.val → UInt8.ofNat (48 + k.val) ≠ 48 := by decide
 exact H ⟨k, h⟩ h1
theorem val_digit {c : UInt8} {d : Nat} (h : Lib.digitVal c = some d) : d < 10 ∧ UInt8.ofNat (48 + d) = c ∧ c.toNat = 48 + d := by
 unfold Lib.digitVal at h
 split at h
 ·rename_i hc
  cases h
  refine ⟨by omega, UInt8.toNat_inj.1 ?_, by omega⟩
  rw [UInt8.toNat_ofNat']
  omega
 ·cases h
theorem decFrom_digits (n : Nat) : Lib.decFrom 0 (Lib.decDigits n) = some n := by
 induction n using Nat.strongRecOn with
 | ind n ih =>
  rw [Lib.decDigits]
  split
  ·rename_i h
   simp only [Lib.decFrom]
   rw [digit_val h]
   simp
  ·rename_i h
   rw [decFrom_snoc, ih (n / 10) (by omega), Option.bind_some, digit_val (by omega : n % 10 < 10)]
   simp only [Option.map_some, Option.some.injEq]
   omega
theorem digits_ne (n : Nat) : Lib.decDigits n ≠ [] := by
 rw [Lib.decDigits]
 split <;> simp
theorem digits_head (n : Nat) (h1 : 1 ≤ n) : (Lib.decDigits n).head? ≠ some 48 := by
 induction n using Nat.strongRecOn with
 | ind n ih =>
  rw [Lib.decDigits]
  split
  ·rename_i h
   simpa using digit_ne h h1
  ·rename_i h
   have := ih (n / 10) (by omega) (by omega)
   cases hd : Lib.decDigits (n / 10) with
   | nil => exact absurd hd (digits_ne _)
   | cons a r => rw [hd] at this; simpa using this
def lead0 (l : List UInt8) : Bool := decide (l.head? = some 48) && decide (1 < l.length)
theorem lead_digits (n : Nat) : lead0 (Lib.decDigits n) = false := by
 unfold lead0
 by_cases h : n < 10
 ·rw [Lib.decDigits, dif_pos h]; simp
 ·rw [decide_eq_false (digits_head n (by omega))]; rfl
theorem decFrom_ge : ∀ (l : List UInt8) (acc n : Nat), Lib.decFrom acc l = some n → acc ≤ n
 | [], acc, n, h => by simp only [Lib.decFrom, Option.some.injEq] at h; omega
 | a :: l, acc, n, h => by
  simp only [Lib.decFrom] at h
  cases hd : Lib.digitVal a with
  | none => rw [hd] at h; cases h
  | some d =>
   rw [hd] at h
   have := decFrom_ge l _ n h
   omega
theorem decFrom_pos {l : List UInt8} {n : Nat} (hl : l ≠ []) (h0 : l.head? ≠ some 48) (h : Lib.decFrom 0 l = some n) : 1 ≤ n := by
 cases l with
 | nil => exact absurd rfl hl
 | cons a r =>
  simp only [Lib.decFrom] at h
  cases hd : Lib.digitVal a with
  | none => rw [hd] at h; cases h
  | some d =>
   rw [hd] at h
   have h1 := decFrom_ge r _ n h
   obtain ⟨_, e, _⟩ := val_digit hd
   have : d ≠ 0 := fun hz => h0 (by rw [← e, hz]; rfl)
   omega
theorem digits_of : ∀ (k : Nat) (l : List UInt8) (n : Nat), l.length = k + 1 → lead0 l = false → Lib.decFrom 0 l = some n → Lib.decDigits n = l
 | 0, l, n, hl, _, h => by
  match l, hl with
  | [c], _ =>
   simp only [Lib.decFrom] at h
   cases hd : Lib.digitVal c with
   | none => rw [hd] at h; cases h
   | some d =>
    rw [hd] at h
    obtain ⟨h1, h2, _⟩ := val_digit hd
    have : n = d := by simpa using h.symm
    subst this
    rw [Lib.decDigits, dif_pos h1, h2]
 | k + 1, l, n, hl, h0, h => by
  have hne : l ≠ [] := fun e => by rw [e] at hl; simp at hl
  have el := List.dropLast_concat_getLast hne
  generalize l.dropLast = m at el
  generalize l.getLast hne = c at el
  subst el
  have hm : m.length = k + 1 := by simpa using hl
  have hmn : m ≠ [] := fun e => by rw [e] at hm; simp at hm
  have hh : m.head? ≠ some 48 := by
   unfold lead0 at h0
   cases m with
   | nil => exact absurd rfl hmn
   | cons a r =>
    simp only [List.cons_append, List.head?_cons, List.length_cons, List.length_append, List.length_nil, Bool.and_eq_false_iff] at h0 ⊢
    rcases h0 with h0 | h0
    ·exact of_decide_eq_false h0
    ·have := of_decide_eq_false h0; omega
  rw [decFrom_snoc] at h
  cases hk : Lib.decFrom 0 m with
  | none => rw [hk] at h; cases h
  | some q =>
   rw [hk, Option.bind_some] at h
   cases hd : Lib.digitVal c with
   | none => rw [hd] at h; cases h
   | some d =>
    rw [hd] at h
    obtain ⟨h1, h2, _⟩ := val_digit hd
    have en : n = q * 10 + d := by simpa using h.symm
    have hq := decFrom_pos hmn hh hk
    have ih := digits_of k m q hm (by unfold lead0; rw [decide_eq_false hh]; rfl) hk
    rw [Lib.decDigits, dif_neg (by omega), show n / 10 = q by omega, show n % 10 = d by omega, ih, h2]
theorem atoi_num {l : List UInt8} {n : Nat} (hl : l ≠ []) (h9 : l.length ≤ 9) (h : Lib.decFrom 0 l = some n) : Lib.atoiAll l = .ok (n : Int) := by
 rw [Lib.atoiAll_short l (by omega)]
 cases l with
 | nil => exact absurd rfl hl
 | cons a r =>
  have ha : ∃ d, Lib.digitVal a = some d := by
   simp only [Lib.decFrom] at h
   cases hd : Lib.digitVal a with
   | none => rw [hd] at h; cases h
   | some d => exact ⟨d, rfl⟩
  obtain ⟨d, hd⟩ := ha
  obtain ⟨_, _, h3⟩ := val_digit hd
  have e45 : (a == 45) = false := by
   rw [beq_eq_false_iff_ne]; intro e; rw [e] at h3; have : (45 : UInt8).toNat = 45 := rfl; omega
  have e43 : (a == 43) = false := by
   rw [beq_eq_false_iff_ne]; intro e; rw [e] at h3; have : (43 : UInt8).toNat = 43 := rfl; omega
  simp only [Lib.atoi, e45, e43, Bool.false_eq_true, if_false, Lib.decNat, List.isEmpty_cons, h, Option.map_some]
  rfl
def noSp (s : ByteArray) : Bool := !s.data.toList.contains 32
def numTest (n : Nat) (s : ByteArray) : Bool := (match Lib.atoiAll s.data.toList with
 | .ok v => decide (v = n)
 | _ => false) && decide (s.size ≤ 9) && noSp s
theorem nums_all : ((List.range 100).all fun n => numTest n (if n < 10 then ⟨#[UInt8.ofNat (48 + n)]⟩ else ⟨#[UInt8.ofNat (48 + n / 10), UInt8.ofNat (48 + n % 10)]⟩)) = true := by kernel_rfl
theorem itoaZ_nat (n : Nat) : itoaZ (n : Int) = itoaS n := by
 unfold itoaZ itoaS Lib.itoa
 rw [if_neg (by omega)]; rfl
theorem num_fwd {z : Int} (h0 : 0 ≤ z) (h1 : z < 100) : t_rule_Number (itoaS z.toNat) = some (z, true) ∧ noSp (itoaS z.toNat) = true := by
 have hn : z.toNat < 100 := by omega
 have key := List.all_eq_true.1 nums_all z.toNat (List.mem_range.2 hn)
 rw [← itoaS_lt hn] at key
 unfold numTest at key
 cases ha : Lib.atoiAll (itoaS z.toNat).data.toList with
 | ok v =>
  rw [ha] at key
  simp only [Bool.and_eq_true, decide_eq_true_eq] at key
  obtain ⟨⟨hv, hs⟩, hsp⟩ := key
  have hvz : v = z := by omega
  refine ⟨?_, hsp⟩
  unfold t_rule_Number
  rw [if_pos (by omega), show numV (itoaS z.toNat) = z by unfold numV; rw [ha]; exact hvz, show numB (itoaS z.toNat) = true by
   unfold numB
   rw [ha]
   simp only [Bool.and_eq_true, decide_eq_true_eq]
   refine ⟨by omega, hs, ?_⟩
   rw [hvz, ← itoaZ_nat]
   congr 1; omega]
 | _ => rw [ha] at key; cases key
theorem num_bwd {s : ByteArray} {z : Int} (h : t_rule_Number s = some (z, true)) : 0 ≤ z ∧ itoaS z.toNat = s := by
 unfold t_rule_Number at h
 split at h
 ·simp only [Option.some.injEq, Prod.mk.injEq] at h
  obtain ⟨h1, h2⟩ := h
  unfold numB at h2
  unfold numV at h1
  cases ha : Lib.atoiAll s.data.toList with
  | ok v =>
   rw [ha] at h1 h2
   simp only [Bool.and_eq_true, decide_eq_true_eq] at h1 h2
   subst h1
   refine ⟨h2.1, ?_⟩
   rw [← itoaZ_nat, show ((v.toNat : Nat) : Int) = v by omega]; exact h2.2.2
  | _ => rw [ha] at h2; cases h2
 ·cases h
theorem data_inj {a b : ByteArray} (h : a.data.toList = b.data.toList) : a = b := by
 cases a; cases b; congr 1; exact Array.toList_inj.1 h
theorem map_data_inj : ∀ {a b : List ByteArray}, a.map (·.data.toList) = b.map (·.data.toList) → a = b
 | [], [], _ => rfl
 | [], _ :: _, h => by simp at h
 | _ :: _, [], h => by simp at h
 | x :: a, y :: b, h => by
  simp only [List.map_cons, List.cons.injEq] at h
  rw [data_inj h.1, map_data_inj h.2]
abbrev sp : ByteArray := ByteArray.mk #[32]
theorem split_glue {s : ByteArray} {L : List ByteArray} (h : t_Split s sp = some L) : s.data.toList = glue 32 (L.map (·.data.toList)) := by
 unfold t_Split at h
 split at h
 ·obtain rfl := Option.some.inj h
  rw [split_data, glue_cut]
 ·cases h
theorem nd {β : Type} {x y : ByteArray} {Y : Option β} (h : x.size + y.size ≤ 1000) : need (decide ((x.size : Int) + y.size ≤ maxI)) Y = Y := need_pos (decide_eq_true (by unfold maxI; omega))
theorem glue_len (c : UInt8) : ∀ (ws : List (List UInt8)) (w : List UInt8), w ∈ ws → w.length ≤ (glue c ws).length
 | [], w, h => by cases h
 | [x], w, h => by rw [List.mem_singleton.1 h]; exact Nat.le_refl _
 | x :: y :: ws, w, h => by
  rw [glue, List.length_append, List.length_cons]
  rcases List.mem_cons.1 h with rfl | h
  ·omega
  ·have := glue_len c (y :: ws) w h; omega
def dnum (s : ByteArray) : Int × Bool := if s.size = 0 ∨ 9 < s.size ∨ lead0 s.data.toList = true then (0, false) else match Lib.decFrom 0 s.data.toList with
 | some n => ((n : Int), true)
 | none => (0, false)
theorem size_data (s : ByteArray) : s.data.toList.length = s.size := by simp
theorem bAt_app {s : ByteArray} {p r : List UInt8} {c : UInt8} (h : s.data.toList = p ++ c :: r) : sidx s (p.length : Int) = some (c.toNat : Int) := by
 have hl := size_data s
 rw [h] at hl
 unfold sidx
 rw [if_pos ⟨by omega, by simp at hl; omega⟩]
 congr 1
 show ((s.data.toList.getD p.length 0).toNat : Int) = _
 rw [h]
 simp
theorem dnum_loop (s : ByteArray) (j : Int → Option (Int × Bool)) (hj : ∀ n : Int, j n = some (n, true)) : ∀ (r p : List UInt8) (acc : Nat), s.data.toList = p ++ r → s.size ≤ 9 → acc < 10 ^ p.length →
  goU (fun (i46 : Int) (s42 : Int) k43 =>
   (sidx s i46).bind fun r55 =>
   (gd (!(decide (r55 < 48))) default (sidx s i46)).bind fun r64 =>
   if ((decide (r55 < 48)) || (decide (57 < r64))) = true then (some (0, false)) else (
   (sidx s i46).bind fun r72 =>
   k43 (wr ((wr ((wr (s42 * 10)) + (wr r72))) - 48)))) (fun (i46 : Int) (s42 : Int) => j (s42)) r.length (p.length : Int) (acc : Int) = some (match Lib.decFrom acc r with
    | some n => ((n : Int), true)
    | none => (0, false))
 | [], p, acc, _, _, _ => by rw [List.length_nil, goU, hj]; rfl
 | c :: r, p, acc, h, h9, ha => by
  have hp : p.length + 1 ≤ 9 := by
   have := size_data s
   rw [h] at this
   simp at this
   omega
  have hpw : 10 ^ p.length ≤ 10 ^ 8 := Nat.pow_le_pow_right (by decide) (by omega)
  have e8 : (10 : Nat) ^ 8 = 100000000 := by decide
  rw [List.length_cons, goU, bAt_app h, Option.bind_some]
  have hc := c.toNat_lt
  simp only [Lib.decFrom]
  by_cases h1 : (c.toNat : Int) < 48
  ·have hd : Lib.digitVal c = none := by unfold Lib.digitVal; rw [if_neg (by omega)]
   rw [decide_eq_true h1, hd]
   rfl
  ·rw [decide_eq_false h1, Bool.not_false, gd_true, Option.bind_some, Bool.false_or]
   by_cases h2 : 57 < (c.toNat : Int)
   ·have hd : Lib.digitVal c = none := by unfold Lib.digitVal; rw [if_neg (by omega)]
    rw [if_pos (decide_eq_true h2), hd]
   ·have hd : Lib.digitVal c = some (c.toNat - 48) := by unfold Lib.digitVal; rw [if_pos (by omega)]
    rw [if_neg (by simpa using h2), hd, Option.bind_some]
    have e : wr ((wr ((wr ((acc : Int) * 10)) + (wr (c.toNat : Int)))) - 48) = ((acc * 10 + (c.toNat - 48) : Nat) : Int) := by
     rw [wr_id (x := (acc : Int) * 10) (by omega) (by omega), wr_id (x := (c.toNat : Int)) (by omega) (by omega), wr_id (x := (acc : Int) * 10 + (c.toNat : Int)) (by omega) (by omega), wr_id (by omega) (by omega)]
     omega
    rw [e]
    have el : (p.length : Int) + 1 = (((p ++ [c]).length : Nat) : Int) := by simp
    rw [el]
    exact dnum_loop s j hj r (p ++ [c]) _ (by rw [h]; simp) h9 (by rw [List.length_append, List.length_singleton, Nat.pow_succ]; omega)
theorem s_rNumber (s : ByteArray) : t_railref1_Number s = some (dnum s) := by
 have hM : maxI = 9223372036854775807 := rfl
 have hl := size_data s
 unfold t_railref1_Number dnum
 by_cases h0 : s.size = 0
 ·have e : s = ByteArray.mk #[] := data_inj (by rw [show (ByteArray.mk #[]).data.toList = [] from rfl]; exact List.eq_nil_of_length_eq_zero (by omega))
  rw [decide_eq_true e, if_pos (.inl h0)]
  rfl
 ·have e : ¬ s = ByteArray.mk #[] := fun e => h0 (by rw [e]; rfl)
  rw [decide_eq_false e, Bool.false_or]
  by_cases h9 : 9 < s.size
  ·rw [decide_eq_true (show 9 < (s.size : Int) by omega), if_pos (.inr (.inl h9))]
   rfl
  ·rw [decide_eq_false (show ¬ 9 < (s.size : Int) by omega), Bool.not_false, gd_true]
   cases hd : s.data.toList with
   | nil => rw [hd] at hl; simp at hl; omega
   | cons c r =>
    have i0 : sidx s 0 = some (c.toNat : Int) := bAt_app (p := []) hd
    rw [i0, Option.bind_some, Bool.false_or]
    have e48 : decide ((c.toNat : Int) = 48) = decide ((c :: r).head? = some 48) := by
     rw [Bool.eq_iff_iff]
     simp only [decide_eq_true_eq, List.head?_cons, Option.some.injEq]
     constructor
     ·intro h; exact UInt8.toNat_inj.1 (by have : (48 : UInt8).toNat = 48 := rfl; omega)
     ·intro h; rw [h]; rfl
    have e1 : decide (1 < (s.size : Int)) = decide (1 < (c :: r).length) := by
     rw [hd] at hl
     rw [Bool.eq_iff_iff]
     simp only [decide_eq_true_eq]
     omega
    rw [e48, e1]
    show (if lead0 (c :: r) = true then _ else _) = _
    by_cases hz : lead0 (c :: r) = true
    ·rw [if_pos hz, if_pos (.inr (.inr hz))]
    ·rw [if_neg hz, if_neg (fun h => by rcases h with h | h | h <;> first | omega | exact hz h), join_eq, loopU_eq (by omega) (by omega)]
     have hlen : ((s.size : Int) - 0).toNat = (c :: r).length := by rw [← hd]; omega
     rw [hlen]
     exact dnum_loop s _ (fun n => rfl) (c :: r) [] 0 hd (by omega) (by decide)
theorem dnum_num (s : ByteArray) (hs : s.size ≤ 1048576) : ∃ v b, t_rule_Number s = some (v, b) ∧ (dnum s).2 = b ∧ (b = true → (dnum s).1 = v) := by
 have hl := size_data s
 refine ⟨numV s, numB s, if_pos (by omega), ?_⟩
 unfold dnum
 by_cases hbad : s.size = 0 ∨ 9 < s.size ∨ lead0 s.data.toList = true
 ·rw [if_pos hbad]
  have : numB s = false := by
   unfold numB
   cases ha : Lib.atoiAll s.data.toList with
   | ok v =>
    simp only
    cases hb : decide (0 ≤ v) && (decide (s.size ≤ 9) && decide (itoaZ v = s)) with
    | false => rfl
    | true =>
     exfalso
     simp only [Bool.and_eq_true, decide_eq_true_eq] at hb
     obtain ⟨h0, h9, he⟩ := hb
     have e2 : s.data.toList = Lib.decDigits v.toNat := by
      rw [← he]; unfold itoaZ Lib.itoa; rw [if_neg (by omega)]
     rcases hbad with h | h | h
     ·have := digits_ne v.toNat
      rw [← e2] at this
      exact this (List.eq_nil_of_length_eq_zero (by omega))
     ·omega
     ·rw [e2, lead_digits] at h; cases h
   | _ => rfl
  rw [this]
  exact ⟨rfl, fun h => by cases h⟩
 ·rw [if_neg hbad]
  have h0 : s.size ≠ 0 := fun h => hbad (.inl h)
  have h9 : ¬ 9 < s.size := fun h => hbad (.inr (.inl h))
  have hz : lead0 s.data.toList = false := by
   cases hz : lead0 s.data.toList with
   | false => rfl
   | true => exact absurd (.inr (.inr hz)) hbad
  have hne : s.data.toList ≠ [] := fun h => by rw [h] at hl; simp at hl; omega
  cases hd : Lib.decFrom 0 s.data.toList with
  | some n =>
   have ha := atoi_num hne (by omega) hd
   have hn := digits_of (s.data.toList.length - 1) s.data.toList n (by omega) hz hd
   have e1 : numV s = (n : Int) := by unfold numV; rw [ha]
   have e2 : numB s = true := by
    unfold numB
    rw [ha]
    simp only [Bool.and_eq_true, decide_eq_true_eq]
    refine ⟨by omega, by omega, data_inj ?_⟩
    unfold itoaZ Lib.itoa
    rw [if_neg (by omega), Int.toNat_natCast, hn]
   rw [e1, e2]
   exact ⟨rfl, fun _ => rfl⟩
  | none =>
   have : numB s = false := by
    unfold numB
    cases ha : Lib.atoiAll s.data.toList with
    | ok v =>
     simp only
     cases hb : decide (0 ≤ v) && (decide (s.size ≤ 9) && decide (itoaZ v = s)) with
     | false => rfl
     | true =>
      exfalso
      simp only [Bool.and_eq_true, decide_eq_true_eq] at hb
      have e2 : s.data.toList = Lib.decDigits v.toNat := by
       rw [← hb.2.2]; unfold itoaZ Lib.itoa; rw [if_neg (by omega)]
      rw [e2, decFrom_digits] at hd
      cases hd
    | _ => rfl
   rw [this]
   exact ⟨rfl, fun h => by cases h⟩
def cutA (c : UInt8) (w : List UInt8) (l : List UInt8) : List (List UInt8) := match cut c l with
 | x :: xs => (w ++ x) :: xs
 | [] => [w]
theorem cutA_nil (c : UInt8) (l : List UInt8) : cutA c [] l = cut c l := by
 unfold cutA
 cases h : cut c l with
 | nil => exact absurd h (cut_ne c l)
 | cons x xs => rfl
theorem cutA_hit (c : UInt8) (w l : List UInt8) : cutA c w (c :: l) = w :: cut c l := by
 unfold cutA
 rw [cut, if_pos rfl]
 simp
theorem cutA_miss {b c : UInt8} (w l : List UInt8) (h : b ≠ c) : cutA c w (b :: l) = cutA c (w ++ [b]) l := by
 unfold cutA
 rw [cut, if_neg h]
 cases hl : cut c l with
 | nil => exact absurd hl (cut_ne c l)
 | cons x xs => simp
theorem cut_loop (s : ByteArray) (c : UInt8) (hs : s.size ≤ 1048576) : ∀ (r q w : List UInt8) (out : List ByteArray), s.data.toList = q ++ w ++ r → out.length ≤ q.length →
  ∃ o' f', goU (fun (i17 : Int) (s13 : ((List ByteArray) × Int)) k14 =>
   (sidx s i17).bind fun r26 =>
   (if (decide (r26 = (c.toNat : Int))) = true then (
   (sslc_lh s s13.2 i17).bind fun r36 =>
   (app s13.1 ([r36] : (List ByteArray))).bind fun r39 =>
   some (r39, (i17 + 1))) else (
   some (s13.1, s13.2))).bind fun (s30 : ((List ByteArray) × Int)) =>
   k14 (s30.1, s30.2)) (fun (i17 : Int) (s13 : ((List ByteArray) × Int)) =>
   some (s13.1, s13.2)) r.length ((q ++ w).length : Int) (out, (q.length : Int)) = some (o', f') ∧
   ∃ z, sslc_lo s f' = some z ∧ o'.length ≤ s.size ∧ (o' ++ [z]).map (·.data.toList) = out.map (·.data.toList) ++ cutA c w r
 | [], q, w, out, h, ho => by
  have hl := size_data s
  rw [h] at hl
  simp only [List.append_nil, List.length_append] at hl
  refine ⟨out, q.length, rfl, s.extract q.length s.size, ?_, by omega, ?_⟩
  ·unfold sslc_lo
   rw [if_pos ⟨by omega, by omega⟩, Int.toNat_natCast]
  ·have e : (s.extract q.length s.size).data.toList = w := by
    rw [ByteArray.data_extract, Array.toList_extract, h]
    have : s.size - q.length = w.length := by omega
    simp [List.extract, this]
   rw [List.map_append, List.map_singleton, e]
   show _ = out.map _ ++ [w ++ []]
   simp
 | b :: r, q, w, out, h, ho => by
  have hl := size_data s
  rw [h] at hl
  simp only [List.length_append, List.length_cons] at hl
  rw [List.length_cons, goU, bAt_app (p := q ++ w) h, Option.bind_some]
  have el : ((q ++ w).length : Int) + 1 = ((((q ++ w) ++ [b]).length : Nat) : Int) := by simp; omega
  by_cases hb : b = c
  ·subst hb
   rw [if_pos (by simp)]
   have e1 : sslc_lh s (q.length : Int) ((q ++ w).length : Int) = some (s.extract q.length (q ++ w).length) := by
    unfold sslc_lh
    rw [if_pos ⟨by omega, by simp; omega, by simp; omega⟩, Int.toNat_natCast, Int.toNat_natCast]
   have e2 : (s.extract q.length (q ++ w).length).data.toList = w := by
    rw [ByteArray.data_extract, Array.toList_extract, h]
    simp [List.extract]
   dsimp only
   rw [e1, Option.bind_some, app_eq (by simp; omega), Option.bind_some, Option.bind_some, el]
   obtain ⟨o', f', h1, z, h2, h3, h4⟩ := cut_loop s b hs r ((q ++ w) ++ [b]) [] (out ++ [s.extract q.length (q ++ w).length]) (by rw [h]; simp) (by simp; omega)
   rw [List.append_nil] at h1
   refine ⟨o', f', h1, z, h2, h3, ?_⟩
   rw [h4, cutA_nil, cutA_hit, List.map_append, List.map_singleton, e2]
   simp
  ·have hbn : ¬ ((b.toNat : Int) = (c.toNat : Int)) := fun e => hb (UInt8.toNat_inj.1 (by omega))
   rw [if_neg (by simpa using hbn), Option.bind_some, el]
   obtain ⟨o', f', h1, z, h2, h3, h4⟩ := cut_loop s c hs r q (w ++ [b]) out (by rw [h]; simp) ho
   refine ⟨o', f', by rw [← h1]; simp, z, h2, h3, ?_⟩
   rw [h4, cutA_miss w r hb]
theorem s_rCut (s : ByteArray) (c : UInt8) (hs : s.size ≤ 1048576) : ∃ ws, t_railref1_Cut s (c.toNat : Int) = some ws ∧ ws.map (·.data.toList) = cut c s.data.toList := by
 have hM : maxI = 9223372036854775807 := rfl
 obtain ⟨o', f', h1, z, h2, h3, h4⟩ := cut_loop s c hs s.data.toList [] [] [] (by simp) (by simp)
 refine ⟨o' ++ [z], ?_, by rw [h4, cutA_nil]; simp⟩
 unfold t_railref1_Cut
 rw [loopU_eq (by omega) (by omega)]
 have hlen : ((s.size : Int) - 0).toNat = s.data.toList.length := by rw [size_data]; omega
 rw [hlen]
 have h1' := h1
 rw [show (([] ++ [] : List UInt8).length : Int) = 0 from rfl, show (([] : List UInt8).length : Int) = 0 from rfl] at h1'
 rw [h1', Option.bind_some]
 dsimp only
 rw [h2, Option.bind_some, app_eq (by simp; omega), Option.bind_some]
theorem cut_split (s : ByteArray) (hs : s.size ≤ 1048576) : ∃ ws, t_railref1_Cut s 32 = some ws ∧ t_Split s sp = some ws := by
 obtain ⟨ws, h1, h2⟩ := s_rCut s 32 hs
 refine ⟨ws, h1, ?_⟩
 unfold t_Split
 rw [if_pos ⟨by omega, by decide⟩]
 congr 1
 apply map_data_inj
 rw [split_data, h2]
theorem digs_all : ((List.range 100).all fun n => decide (digB (n : Int) = if n < 10 then ⟨#[UInt8.ofNat (48 + n)]⟩ else ⟨#[UInt8.ofNat (48 + n / 10), UInt8.ofNat (48 + n % 10)]⟩)) = true := by kernel_rfl
theorem s_Digits {z : Int} (h0 : 0 ≤ z) (h1 : z < 100) : t_Digits z = some (itoaS z.toNat) := by
 have key := of_decide_eq_true (List.all_eq_true.1 digs_all z.toNat (List.mem_range.2 (by omega)))
 rw [← itoaS_lt (by omega), show ((z.toNat : Nat) : Int) = z by omega] at key
 unfold t_Digits
 rw [if_pos ⟨h0, h1⟩, key]
theorem num_doc (s : ByteArray) (hs : s.size ≤ 1048576) : ∃ u v b, t_railref1_Number s = some (u, b) ∧ t_rule_Number s = some (v, b) ∧ (b = true → u = v) := by
 obtain ⟨v, b, h1, h2, h3⟩ := dnum_num s hs
 refine ⟨(dnum s).1, v, b, ?_, h1, h3⟩
 rw [s_rNumber, ← h2]
section
variable {α β σ : Type}
theorem goI_ex {step : Int → α → σ → (σ → Option β) → Option β} {fin : σ → Option β} {I : Int → List α → σ → Prop} {Q : β → Prop} (hfin : ∀ i s, I i [] s → ∃ v, fin s = some v ∧ Q v)
  (hstep : ∀ i x l s k, I i (x :: l) s → (∀ s', I (i + 1) l s' → ∃ v, k s' = some v ∧ Q v) → ∃ v, step i x s k = some v ∧ Q v) : ∀ (l : List α) (i : Int) (s : σ), I i l s → ∃ v, goI step fin i l s = some v ∧ Q v
 | [], i, s, h => hfin i s h
 | x :: l, i, s, h => hstep i x l s _ h fun s' h' => goI_ex hfin hstep l (i + 1) s' h'
theorem loopI_ex {step : Int → α → σ → (σ → Option β) → Option β} {fin : σ → Option β} (I : Int → List α → σ → Prop) {Q : β → Prop} {l : List α} {s : σ} (hl : (l.length : Int) ≤ 9223372036854775807) (h0 : I 0 l s) (hfin : ∀ i s, I i [] s → ∃ v, fin s = some v ∧ Q v)
  (hstep : ∀ i x l s k, I i (x :: l) s → (∀ s', I (i + 1) l s' → ∃ v, k s' = some v ∧ Q v) → ∃ v, step i x s k = some v ∧ Q v) : ∃ v, loopI l step fin s = some v ∧ Q v := by
 rw [loopI_eq hl]; exact goI_ex hfin hstep l 0 s h0
end
def spotOk (T : T_Topo) (s : T_Spot) : Prop := 1 ≤ s.Switch ∧ s.Switch ≤ T.Switches ∧ 1 ≤ s.Port ∧ s.Port ≤ 4
structure topoGood (T : T_Topo) : Prop where
 sw : 1 ≤ T.Switches ∧ T.Switches ≤ 6
 nl : T.Links.length ≤ 200
 nh : T.Hosts.length ≤ 8
 links : ∀ l ∈ T.Links, spotOk T l.A ∧ spotOk T l.B
 hosts : ∀ h ∈ T.Hosts, h.Name ≠ ByteArray.mk #[] ∧ spotOk T h.At
theorem s_Spot (T : T_Topo) (s : T_Spot) : ∃ b, t_topo_Spot T s = some b ∧ (b = true ↔ spotOk T s) :=
 ⟨_, rfl, by simp [spotOk, and_assoc]⟩
theorem s_Name (s : ByteArray) (hs : (s.size : Int) ≤ maxI) : ∃ b, t_topo_Name s = some b ∧ (b = true → s ≠ ByteArray.mk #[]) := by
 unfold t_topo_Name
 rw [need_pos (by simpa using hs), join_eq]
 refine loopI_ex (fun _ _ _ => True) (by rw [numsOf_len]; exact hs) trivial (fun i s' _ => ⟨_, rfl, fun h => ?_⟩) (fun i x l s' k _ hk => ?_)
 ·simp only [Bool.and_eq_true, Bool.not_eq_true', decide_eq_false_iff_not] at h
  exact h.1
 ·split
  ·exact ⟨false, rfl, fun h => by cases h⟩
  ·exact hk () trivial
theorem s_topoCheck (T : T_Topo) (hn : ∀ h ∈ T.Hosts, (h.Name.size : Int) ≤ maxI) : ∃ c, t_topo_Check T = some c ∧ (c = 0 → topoGood T) := by
 unfold t_topo_Check
 split
 ·exact ⟨1, rfl, fun h => by cases h⟩
 ·rename_i h1
  simp only [Bool.or_eq_true, decide_eq_true_eq, not_or, Int.not_lt] at h1
  split
  ·exact ⟨4, rfl, fun h => by cases h⟩
  ·rename_i h2
   simp only [Bool.or_eq_true, decide_eq_true_eq, not_or, Int.not_lt] at h2
   simp only [join_eq]
   refine loopI_ex (fun _ l _ => ∀ x ∈ T.Links, x ∈ l ∨ (spotOk T x.A ∧ spotOk T x.B)) (by omega) (fun x hx => .inl hx) (fun i s hI => ?_) (fun i x l s k hI hk => ?_)
   ·refine loopI_ex (fun _ l _ => (∀ x ∈ l, x ∈ T.Hosts) ∧ ∀ x ∈ T.Hosts, x ∈ l ∨ (x.Name ≠ ByteArray.mk #[] ∧ spotOk T x.At)) (by omega) ⟨fun _ h => h, fun x hx => .inl hx⟩ (fun i s hJ => ?_) (fun i x l s k hJ hk => ?_)
    ·refine ⟨0, rfl, fun _ => ⟨h1, by omega, by omega, fun l hl => (hI l hl).resolve_left (by simp), fun h hh => (hJ.2 h hh).resolve_left (by simp)⟩⟩
    ·have hx := hJ.1 x (by simp)
     obtain ⟨b, e1, e2⟩ := s_Name x.Name (hn x hx)
     rw [e1]
     simp only [Option.bind_some]
     split
     ·exact ⟨2, rfl, fun h => by cases h⟩
     ·rename_i hb
      obtain ⟨b2, f1, f2⟩ := s_Spot T x.At
      rw [f1]
      simp only [Option.bind_some]
      split
      ·exact ⟨1, rfl, fun h => by cases h⟩
      ·rename_i hb2
       split
       ·exact ⟨7, rfl, fun h => by cases h⟩
       ·refine hk _ ⟨fun y hy => hJ.1 y (by simp [hy]), fun y hy => ?_⟩
        rcases hJ.2 y hy with h | h
        ·rcases List.mem_cons.1 h with rfl | h
         ·exact .inr ⟨e2 (by simpa using hb), f2.1 (by simpa using hb2)⟩
         ·exact .inl h
        ·exact .inr h
   ·obtain ⟨b, e1, e2⟩ := s_Spot T x.A
    obtain ⟨b2, f1, f2⟩ := s_Spot T x.B
    rw [e1, f1]
    simp only [Option.bind_some]
    cases hb1 : b with
    | false => exact ⟨1, by simp [gd], fun h => by cases h⟩
    | true =>
     cases hb2 : b2 with
     | false => exact ⟨1, by simp [gd], fun h => by cases h⟩
     | true =>
      simp only [gd, Bool.not_true, Bool.not_false, if_true, Option.bind_some, Bool.or_self, Bool.false_eq_true, if_false]
      split
      ·exact ⟨7, rfl, fun h => by cases h⟩
      ·refine hk _ fun y hy => ?_
       rcases hI y hy with h | h
       ·rcases List.mem_cons.1 h with rfl | h
        ·exact .inr ⟨e2.1 hb1, f2.1 hb2⟩
        ·exact .inl h
       ·exact .inr h
theorem idx_some {α : Type} {l : List α} {i : Int} (h0 : 0 ≤ i) (h1 : i < l.length) : ∃ x, idx l i = some x ∧ x ∈ l ∧ l[i.toNat]? = some x := by
 have : i.toNat < l.length := by omega
 exact ⟨l[i.toNat], by simp [idx, h0, List.getElem?_eq_getElem this], List.getElem_mem this, List.getElem?_eq_getElem this⟩
section
variable {α β σ : Type}
end
section
variable {α β σ τ : Type}
theorem goI_sim {step : Int → α → σ → (σ → Option β) → Option β} {step' : Int → α → τ → (τ → Option β) → Option β} {fin : σ → Option β} {fin' : τ → Option β} (I : Int → List α → σ → τ → Prop) (hfin : ∀ i s t, I i [] s t → fin s = fin' t)
  (hstep : ∀ i x l s t k k', I i (x :: l) s t → (∀ s' t', I (i + 1) l s' t' → k s' = k' t') → step i x s k = step' i x t k') : ∀ (l : List α) (i : Int) (s : σ) (t : τ), I i l s t → goI step fin i l s = goI step' fin' i l t
 | [], i, s, t, h => hfin i s t h
 | x :: l, i, s, t, h => hstep i x l s t _ _ h fun s' t' h' => goI_sim I hfin hstep l (i + 1) s' t' h'
theorem loopI_sim {step : Int → α → σ → (σ → Option β) → Option β} {step' : Int → α → τ → (τ → Option β) → Option β} {fin : σ → Option β} {fin' : τ → Option β} (I : Int → List α → σ → τ → Prop) {l : List α} {s : σ} {t : τ} (h0 : I 0 l s t) (hfin : ∀ i s t, I i [] s t → fin s = fin' t)
  (hstep : ∀ i x l s t k k', I i (x :: l) s t → (∀ s' t', I (i + 1) l s' t' → k s' = k' t') → step i x s k = step' i x t k') : loopI l step fin s = loopI l step' fin' t := by
 unfold loopI; rw [goI_sim I hfin hstep l 0 s t h0]
theorem loopI_any {step : Int → α → Unit → (Unit → Option β) → Option β} {f : Option β} (p : α → Bool) {r : β} {l : List α} (hl : (l.length : Int) ≤ maxI) (h : ∀ x i k, step i x () k = if p x = true then some r else k ()) : loopI l step (fun _ => f) () = if l.any p = true then some r else f := by
 rw [loopI_eq hl, goI_any (p := p) (r := r) l 0 fun x _ i k => h x i k]
theorem goU_any {l : List α} {p : α → Bool} {r : β} {step : Int → Unit → (Unit → Option β) → Option β} {f : Option β} (h : ∀ (j : Nat) x k, l[j]? = some x → step (j : Int) () k = if p x = true then some r else k ()) : ∀ (m i : Nat), i + m ≤ l.length → goU step (fun _ _ => f) m (i : Int) () = if ((l.drop i).take m).any p = true then some r else f
 | 0, i, _ => by simp [goU]
 | m + 1, i, hm => by
  have hi : i < l.length := by omega
  rw [goU, h i l[i] _ (List.getElem?_eq_getElem hi), List.drop_eq_getElem_cons hi, List.take_succ_cons, List.any_cons]
  have e : (i : Int) + 1 = ((i + 1 : Nat) : Int) := by omega
  rw [e, goU_any h m (i + 1) (by omega)]
  cases p l[i] <;> simp
theorem loopU_any {l : List α} (p : α → Bool) {r : β} {step : Int → Unit → (Unit → Option β) → Option β} {f : Option β} {i : Int} (h0 : 0 ≤ i) (h1 : i ≤ l.length) (h2 : i ≤ maxI) (h : ∀ (j : Nat) x k, l[j]? = some x → step (j : Int) () k = if p x = true then some r else k ()) : loopU 0 i step (fun _ _ => f) () = if (l.take i.toNat).any p = true then some r else f := by
 rw [loopU_eq (Int.le_refl 0) h2, Int.sub_zero]
 have := goU_any (f := f) h i.toNat 0 (by omega)
 simpa using this
end
section
variable {K α : Type} [DecidableEq K]
theorem mfind_off : ∀ (l : List (K × α)) (a : K) (i : Nat), mfind l a i = (mfind l a 0).map fun p => (p.1 + i, p.2)
 | [], _, _ => rfl
 | (b, u) :: r, a, i => by
  simp only [mfind]
  split
  ·simp
  ·rw [mfind_off r a (i + 1), mfind_off r a (0 + 1)]
   cases mfind r a 0 with
   | none => rfl
   | some p => simp; omega
theorem mget_cons (b : K) (u : α) (r : List (K × α)) (a : K) (d : α) : mget ((b, u) :: r) a d = if a = b then u else mget r a d := by
 unfold mget
 simp only [mfind]
 by_cases h : a = b
 ·simp [h]
 ·rw [if_neg h, if_neg h, mfind_off r a (0 + 1)]
  cases mfind r a 0 <;> rfl
theorem mput_cons (b : K) (u : α) (r : List (K × α)) (a : K) (v : α) : mput ((b, u) :: r) a v = if a = b then (a, v) :: r else (b, u) :: mput r a v := by
 unfold mput
 simp only [mfind]
 by_cases h : a = b
 ·simp [h]
 ·rw [if_neg h, if_neg h, mfind_off r a (0 + 1)]
  cases mfind r a 0 <;> simp
theorem mget_mput : ∀ (l : List (K × α)) (a : K) (v : α) (b : K) (d : α), mget (mput l a v) b d = if b = a then v else mget l b d
 | [], a, v, b, d => by
  show mget ([(a, v)]) b d = _
  rw [mget_cons]
 | (c, u) :: r, a, v, b, d => by
  rw [mput_cons]
  by_cases h : a = c
  ·subst h
   rw [if_pos rfl, mget_cons, mget_cons]
   split <;> rfl
  ·rw [if_neg h, mget_cons, mget_cons, mget_mput r a v b d]
   by_cases h2 : b = c
   ·subst h2
    rw [if_pos rfl, if_neg (fun e => h e.symm), if_pos rfl]
   ·rw [if_neg h2, if_neg h2]
omit [DecidableEq K] in
theorem any_two (p q : K → Bool) : ∀ l : List K, (l.any fun y => p y || q y) = (l.any p || l.any q)
 | [] => rfl
 | x :: l => by
  rw [List.any_cons, List.any_cons, List.any_cons, any_two p q l]
  cases p x <;> cases q x <;> cases l.any p <;> rfl
theorem any_is (l : List K) (a : K) : (l.any fun y => decide (y = a)) = decide (a ∈ l) := by
 rw [Bool.eq_iff_iff]
 simp
end
theorem numsOf_get {s : ByteArray} {j : Nat} {x : Int} (h : (numsOf s)[j]? = some x) : sidx s (j : Int) = some x := by
 obtain ⟨h1, h2⟩ := List.getElem?_eq_some_iff.1 h
 rw [numsOf_at] at h2
 unfold sidx
 rw [numsOf_len] at h1
 rw [if_pos ⟨by omega, by omega⟩, ← h2]
 rfl
theorem s_rName (s : ByteArray) (hs : (s.size : Int) ≤ maxI) : t_railref1_Name s = t_topo_Name s := by
 unfold t_railref1_Name t_topo_Name
 rw [need_pos (by simpa using hs)]
 simp only [join_eq]
 rw [loopI_any (fun x => decide (x < 97) || decide (122 < x)) (r := false) (by rw [numsOf_len]; exact hs) (fun x i k => rfl)]
 rw [loopU_any (l := numsOf s) (fun x => decide (x < 97) || decide (122 < x)) (r := false) (by omega) (by rw [numsOf_len]; omega) hs (fun j x k hj => ?_)]
 ·have ht : (numsOf s).take ((s.size : Int)).toNat = numsOf s := List.take_of_length_le (by rw [numsOf_len]; omega)
  rw [ht]
  generalize (numsOf s).any (fun x => decide (x < 97) || decide (122 < x)) = A
  by_cases h1 : s = ByteArray.mk #[]
  ·subst h1
   cases A <;> simp
  ·by_cases h2 : (s.size : Int) ≤ 6
   ·have : ¬ (6 : Int) < s.size := by omega
    simp [h1, h2, this]
   ·have : (6 : Int) < s.size := by omega
    cases A <;> simp [h1, h2, this]
 ·rw [numsOf_get hj]
  simp only [Option.bind_some]
  by_cases h1 : x < 97 <;> simp [h1, gd_true, gd_false]
theorem s_rSpot (T : T_Topo) (s : T_Spot) : t_railref1_Spot T s = t_topo_Spot T s := rfl
theorem s_rTopo (T : T_Topo) (hn : ∀ h ∈ T.Hosts, (h.Name.size : Int) ≤ maxI) : t_railref1_Topo T = t_topo_Check T := by
 have hM : maxI = 9223372036854775807 := rfl
 unfold t_railref1_Topo t_topo_Check
 split
 ·rfl
 split
 ·rfl
 rename_i h1 h2
 simp only [Bool.or_eq_true, decide_eq_true_eq, not_or, Int.not_lt] at h2
 simp only [join_eq]
 refine loopI_sim (fun i l used m => 0 ≤ i ∧ i + l.length = T.Links.length ∧ (used.length : Int) = 2 * i ∧ ∀ s, mget m s false = decide (s ∈ used)) ⟨Int.le_refl _, by omega, rfl, fun s => by simp [mget, mfind]⟩ (fun i used m hI => ?_) (fun i x l used m k k' hI hk => ?_)
 ·obtain ⟨i0, i1, i2, i3⟩ := hI
  simp only [List.length_nil] at i1
  refine loopI_sim (fun j l used (t : List (T_Spot × Bool) × List (ByteArray × Bool)) => 0 ≤ j ∧ l = T.Hosts.drop j.toNat ∧ (used.length : Int) ≤ 400 + j ∧ (∀ s, mget t.1 s false = decide (s ∈ used)) ∧ ∀ s, mget t.2 s false = (T.Hosts.take j.toNat).any fun h => decide (h.Name = s)) ⟨Int.le_refl _, rfl, by omega, i3, fun s => by simp [mget, mfind]⟩ (fun _ _ _ _ => rfl) (fun j x l used t k k' hJ hk => ?_)
  obtain ⟨j0, j1, j2, j3, j4⟩ := hJ
  have hx : T.Hosts[j.toNat]? = some x := by
   have := congrArg (fun l => l[0]?) j1
   simpa using this.symm
  have hjl : j.toNat < T.Hosts.length := (List.getElem?_eq_some_iff.1 hx).1
  have hxm : x ∈ T.Hosts := List.mem_of_getElem? hx
  have hl : l = T.Hosts.drop (j.toNat + 1) := by
   rw [List.drop_eq_getElem_cons hjl] at j1
   exact (List.cons.inj j1).2
  rw [s_rName _ (hn x hxm)]
  obtain ⟨b, e1, _⟩ := s_Name x.Name (hn x hxm)
  rw [e1, s_rSpot]
  obtain ⟨b2, e2, _⟩ := s_Spot T x.At
  rw [e2]
  simp only [Option.bind_some]
  split
  ·rfl
  split
  ·rfl
  rw [loopU_any (l := T.Hosts) (fun h => decide (h.Name = x.Name)) (r := 7) j0 (by omega) (by omega) (fun n y k hy => by rw [idx_nat, hy]; rfl)]
  rw [j3, j4]
  cases (T.Hosts.take j.toNat).any (fun h => decide (h.Name = x.Name)) with
  | true => rfl
  | false =>
   simp only [Bool.false_eq_true, if_false, Bool.false_or]
   rw [loopI_any (fun y => decide (y = x.At)) (r := 7) (by omega) (fun x i k => rfl), any_is]
   by_cases hu : x.At ∈ used
   ·simp [hu]
   ·rw [if_neg (by simpa using hu), if_neg (by simpa using hu), app_eq (by simp; omega)]
    simp only [Option.bind_some]
    refine hk _ _ ⟨by omega, by rw [hl]; congr 1; omega, by simp; omega, fun s => ?_, fun s => ?_⟩
    ·rw [mget_mput, j3]
     by_cases e : s = x.At <;> simp [e]
    ·rw [mget_mput, j4]
     have e3 : (j + 1).toNat = j.toNat + 1 := by omega
     rw [e3, List.take_add_one, hx]
     by_cases e : s = x.Name
     ·simp [e]
     ·have e' : ¬ x.Name = s := fun h => e h.symm
      simp [e, e']
 ·obtain ⟨i0, i1, i2, i3⟩ := hI
  simp only [List.length_cons] at i1
  rw [s_rSpot, s_rSpot]
  obtain ⟨b, e1, _⟩ := s_Spot T x.A
  obtain ⟨b2, e2, _⟩ := s_Spot T x.B
  rw [e1, e2]
  simp only [Option.bind_some]
  cases b with
  | false => simp [gd]
  | true =>
   cases b2 with
   | false => simp [gd]
   | true =>
    simp only [gd, Bool.not_true, Bool.not_false, if_true, Option.bind_some, Bool.or_self, Bool.false_eq_true, if_false]
    rw [i3, i3, loopI_any (fun y => decide (y = x.A) || decide (y = x.B)) (r := 7) (by omega) (fun x i k => rfl)]
    have ha : (used.any fun y => decide (y = x.A) || decide (y = x.B)) = (decide (x.A ∈ used) || decide (x.B ∈ used)) := by
     rw [← any_is, ← any_is, any_two]
    rw [ha]
    by_cases h3 : x.A = x.B
    ·simp [h3]
    ·by_cases h4 : x.A ∈ used
     ·simp [h3, h4]
     ·by_cases h5 : x.B ∈ used
      ·simp [h3, h4, h5]
      ·rw [if_neg (by simpa using h3), if_neg (by simp [h4, h5]), if_neg (by simp [h3, h4, h5]), app_eq (by simp; omega), Option.bind_some, app_eq (by simp; omega), Option.bind_some]
       refine hk _ _ ⟨by omega, by omega, by simp; omega, fun s => ?_⟩
       rw [mget_mput, mget_mput, i3]
       by_cases c1 : s = x.B
       ·simp [c1]
       ·by_cases c2 : s = x.A <;> simp [c1, c2]
abbrev bReach : ByteArray := ByteArray.mk #[114, 101, 97, 99, 104]
abbrev bApart : ByteArray := ByteArray.mk #[97, 112, 97, 114, 116]
abbrev bWay : ByteArray := ByteArray.mk #[119, 97, 121]
abbrev bLoops : ByteArray := ByteArray.mk #[108, 111, 111, 112, 115]
abbrev bNil : ByteArray := ByteArray.mk #[]
theorem w1 : wordsL.getD 1 ⟨#[]⟩ = bReach := rfl
theorem w2 : wordsL.getD 2 ⟨#[]⟩ = bApart := rfl
theorem w3 : wordsL.getD 3 ⟨#[]⟩ = bWay := rfl
theorem w4 : wordsL.getD 4 ⟨#[]⟩ = bLoops := rfl
theorem wpE_0 {x : T_Wish} (h : wpE x = 0) : (1 ≤ x.What ∧ x.What ≤ 4) ∧ (x.What = 3 → 1 ≤ x.Via ∧ x.Via ≤ 6) ∧ (x.What ≠ 4 → nameB x.From = true ∧ nameB x.To = true) ∧ (x.What ≠ 3 → x.Via = 0) ∧ (x.What = 4 → x.From = ⟨#[]⟩ ∧ x.To = ⟨#[]⟩) := by
 unfold wpE at h
 split at h
 ·cases h
 rename_i h1
 split at h
 ·cases h
 rename_i h2
 split at h
 ·cases h
 rename_i h3
 split at h
 ·cases h
 rename_i h4
 refine ⟨Classical.not_not.1 h1, fun e => ?_, fun e => ?_, fun e => ?_, fun e => ?_⟩
 ·have : ¬ (x.Via < 1 ∨ 6 < x.Via) := fun k => h2 ⟨e, k⟩
  omega
 ·cases ha : nameB x.From && nameB x.To with
  | false => exact absurd ⟨e, ha⟩ h3
  | true => simpa using ha
 ·exact Classical.byContradiction fun k => h4 (.inl ⟨e, k⟩)
 ·exact Classical.byContradiction fun k => h4 (.inr ⟨e, k⟩)
noncomputable def wishWs (x : T_Wish) : List ByteArray :=
 if x.What = 4 then [bLoops]
 else if x.What = 3 then [bWay, x.From, x.To, itoaS x.Via.toNat]
 else [wordsL.getD x.What.toNat ⟨#[]⟩, x.From, x.To]
theorem wpS_glue {x : T_Wish} (h : wpE x = 0) : (wpS x).data.toList = glue 32 ((wishWs x).map (·.data.toList)) := by
 unfold wpS wishWs
 rw [if_neg (by simp [h])]
 by_cases h4 : x.What = 4
 ·rw [if_pos h4, if_pos h4]; rfl
 ·rw [if_neg h4, if_neg h4]
  by_cases h3 : x.What = 3
  ·rw [if_pos h3, if_pos h3, w3]
   simp [ByteArray.data_append, Array.toList_append, glue]
  ·rw [if_neg h3, if_neg h3]
   simp [ByteArray.data_append, Array.toList_append, glue]
theorem name_noSp {s : ByteArray} (h : nameB s = true) : noSp s = true := by
 unfold nameB at h
 unfold noSp
 simp only [Bool.and_eq_true, Bool.not_eq_true'] at h
 have h1 := h.1.1
 cases hc : s.data.toList.contains 32 with
 | false => rfl
 | true =>
  exfalso
  have hm : (32 : UInt8) ∈ s.data.toList := by simpa using hc
  have := List.any_eq_false.1 h1 (((32 : UInt8).toNat : Nat) : Int) (List.mem_map.2 ⟨32, hm, rfl⟩)
  simp at this
theorem wishWs_noSp {x : T_Wish} (h : wpE x = 0) : ∀ w ∈ wishWs x, noSp w = true := by
 obtain ⟨h1, h2, h3, h4, h5⟩ := wpE_0 h
 unfold wishWs
 intro w hw
 by_cases e4 : x.What = 4
 ·rw [if_pos e4] at hw
  rw [List.mem_singleton.1 hw]; rfl
 ·rw [if_neg e4] at hw
  obtain ⟨n1, n2⟩ := h3 e4
  by_cases e3 : x.What = 3
  ·rw [if_pos e3] at hw
   have hv := h2 e3
   simp only [List.mem_cons, List.not_mem_nil, or_false] at hw
   rcases hw with rfl | rfl | rfl | rfl
   ·rfl
   ·exact name_noSp n1
   ·exact name_noSp n2
   ·exact (num_fwd (z := x.Via) (by omega) (by omega)).2
  ·rw [if_neg e3] at hw
   simp only [List.mem_cons, List.not_mem_nil, or_false] at hw
   rcases hw with rfl | rfl | rfl
   ·have : x.What = 1 ∨ x.What = 2 := by omega
    rcases this with e | e <;> rw [e] <;> rfl
   ·exact name_noSp n1
   ·exact name_noSp n2
theorem wishWs_ne (x : T_Wish) : wishWs x ≠ [] := by
 unfold wishWs
 split
 ·simp
 ·split <;> simp
theorem wishWs_len (x : T_Wish) : (wishWs x).length = if x.What = 4 then 1 else if x.What = 3 then 4 else 3 := by
 unfold wishWs
 split
 ·rfl
 ·split <;> rfl
theorem wishWs_le (x : T_Wish) : (wishWs x).length ≤ 4 := by
 rw [wishWs_len]
 split
 ·decide
 ·split <;> decide
theorem wpS_is {x : T_Wish} (h : wpE x = 0) {s : ByteArray} {ws : List ByteArray} (hw : ws.map (·.data.toList) = cut 32 s.data.toList) : wpS x = s ↔ wishWs x = ws := by
 have hg := wpS_glue h
 have hn := wishWs_noSp h
 have hc : cut 32 (wpS x).data.toList = (wishWs x).map (·.data.toList) := by
  rw [hg, cut_glue]
  ·simpa using wishWs_ne x
  ·intro w hw2
   obtain ⟨y, hy, rfl⟩ := List.mem_map.1 hw2
   have := hn y hy
   unfold noSp at this
   simpa using this
 constructor
 ·intro e
  subst e
  exact (map_data_inj (hw.trans hc)).symm
 ·intro e
  subst e
  apply data_inj
  rw [hg, hw, glue_cut]
theorem wpS_err {x : T_Wish} (h : wpE x ≠ 0) : wpS x = ⟨#[]⟩ := by unfold wpS; rw [if_pos h]
theorem s_ShowWish (x : T_Wish) (h1 : x.From.size ≤ 1048576) (h2 : x.To.size ≤ 1048576) : t_railref1_ShowWish x = some (wpS x, wpE x) := by
 have hM : maxI = 9223372036854775807 := rfl
 have n1 : t_railref1_Name x.From = some (nameB x.From) := by rw [s_rName _ (by omega), s_NameB _ (by omega)]
 have n2 : t_railref1_Name x.To = some (nameB x.To) := by rw [s_rName _ (by omega), s_NameB _ (by omega)]
 have hs : ∀ e : Int, wpE x = e → e ≠ 0 → some (wpS x, wpE x) = some (bNil, e) := fun e he h0 => by rw [wpS_err (by rw [he]; exact h0), he]
 unfold t_railref1_ShowWish
 by_cases c1 : ¬ (1 ≤ x.What ∧ x.What ≤ 4)
 ·rw [hs 1 (by unfold wpE; rw [if_pos c1]) (by decide), if_pos]
  have : x.What < 1 ∨ 4 < x.What := by omega
  rcases this with h | h <;> simp [h]
 have c1' := Classical.not_not.1 c1
 by_cases c2 : x.What = 3 ∧ (x.Via < 1 ∨ 6 < x.Via)
 ·rw [hs 1 (by unfold wpE; rw [if_neg c1, if_pos c2]) (by decide), if_pos]
  obtain ⟨c2, h | h⟩ := c2 <;> simp [c2, h]
 rw [if_neg (by
  intro hh
  simp only [Bool.or_eq_true, Bool.and_eq_true, decide_eq_true_eq] at hh
  rcases hh with (hh | hh) | hh
  ·omega
  ·omega
  ·exact c2 hh), n1, Option.bind_some, n2, Option.bind_some]
 by_cases c3 : x.What ≠ 4 ∧ (nameB x.From && nameB x.To) = false
 ·rw [hs 2 (by unfold wpE; rw [if_neg c1, if_neg c2, if_pos c3]) (by decide), if_pos]
  obtain ⟨c3, c4⟩ := c3
  cases ha : nameB x.From <;> cases hb : nameB x.To <;> simp_all
 rw [if_neg (by
  intro hh
  simp only [Bool.or_eq_true, Bool.and_eq_true, decide_eq_true_eq, Bool.not_eq_true'] at hh
  refine c3 ⟨hh.1, ?_⟩
  rcases hh.2 with h | h <;> rw [h] <;> simp), Option.bind_some]
 by_cases c4 : (x.What ≠ 3 ∧ x.Via ≠ 0) ∨ (x.What = 4 ∧ ¬ (x.From = ⟨#[]⟩ ∧ x.To = ⟨#[]⟩))
 ·rw [hs 3 (by unfold wpE; rw [if_neg c1, if_neg c2, if_neg c3, if_pos c4]) (by decide), if_pos]
  rcases c4 with ⟨h, k⟩ | ⟨h, k⟩
  ·simp [h, k]
  ·by_cases e1 : x.From = ⟨#[]⟩
   ·have e2 : ¬ x.To = ⟨#[]⟩ := fun e => k ⟨e1, e⟩
    simp [h, e2]
   ·simp [h, e1]
 have he : wpE x = 0 := by unfold wpE; rw [if_neg c1, if_neg c2, if_neg c3, if_neg c4]
 obtain ⟨_, q2, q3, q4, q5⟩ := wpE_0 he
 rw [if_neg (by
  intro hh
  simp only [Bool.or_eq_true, Bool.and_eq_true, decide_eq_true_eq, Bool.not_eq_true', decide_eq_false_iff_not] at hh
  rcases hh with hh | ⟨h, hh⟩
  ·exact hh.2 (q4 hh.1)
  ·obtain ⟨e1, e2⟩ := q5 h
   rcases hh with hh | hh
   ·exact hh e1
   ·exact hh e2)]
 have sz : x.From.size ≤ 6 ∧ x.To.size ≤ 6 := by
  by_cases h4 : x.What = 4
  ·obtain ⟨e1, e2⟩ := q5 h4
   rw [e1, e2]
   exact ⟨Nat.zero_le _, Nat.zero_le _⟩
  ·obtain ⟨e1, e2⟩ := q3 h4
   exact ⟨nameB_size e1, nameB_size e2⟩
 have l1 : (ByteArray.mk #[32]).size = 1 := rfl
 have l2 : (ByteArray.mk #[114, 101, 97, 99, 104, 32]).size = 6 := rfl
 have l3 : (ByteArray.mk #[97, 112, 97, 114, 116, 32]).size = 6 := rfl
 have l4 : (ByteArray.mk #[119, 97, 121, 32]).size = 4 := rfl
 rw [nd (by omega), nd (by simp only [ByteArray.size_append]; omega), he]
 have key := wpS_glue he
 by_cases e1 : x.What = 1
 ·rw [if_pos (decide_eq_true e1), nd (by simp only [ByteArray.size_append]; omega)]
  refine congrArg (fun u => some (u, (0 : Int))) (data_inj ?_)
  rw [key]
  unfold wishWs
  rw [if_neg (by omega), if_neg (by omega), e1]
  show _ = glue 32 (List.map _ [bReach, x.From, x.To])
  simp [ByteArray.data_append, Array.toList_append, glue]
 rw [if_neg (by simpa using e1)]
 by_cases e2 : x.What = 2
 ·rw [if_pos (decide_eq_true e2), nd (by simp only [ByteArray.size_append]; omega)]
  refine congrArg (fun u => some (u, (0 : Int))) (data_inj ?_)
  rw [key]
  unfold wishWs
  rw [if_neg (by omega), if_neg (by omega), e2]
  show _ = glue 32 (List.map _ [bApart, x.From, x.To])
  simp [ByteArray.data_append, Array.toList_append, glue]
 rw [if_neg (by simpa using e2)]
 by_cases e3 : x.What = 3
 ·obtain ⟨v1, v2⟩ := q2 e3
  have si := itoa6 v1 v2
  rw [if_pos (decide_eq_true e3), s_Digits (by omega) (by omega), Option.bind_some, nd (by simp only [ByteArray.size_append]; omega), nd (by simp only [ByteArray.size_append]; omega), nd (by simp only [ByteArray.size_append]; omega)]
  refine congrArg (fun u => some (u, (0 : Int))) (data_inj ?_)
  rw [key]
  unfold wishWs
  rw [if_neg (by omega), if_pos e3]
  simp [ByteArray.data_append, Array.toList_append, glue]
 rw [if_neg (by simpa using e3)]
 have e4 : x.What = 4 := by omega
 refine congrArg (fun u => some (u, (0 : Int))) (data_inj ?_)
 rw [key]
 unfold wishWs
 rw [if_pos e4]
 rfl
def kD (p : ByteArray) : Int := if p = bReach then 1 else if p = bApart then 2 else if p = bWay then 3 else 0
theorem kP (p : ByteArray) : max 0 (Lib.idxOfS wordsL p) = if p = bLoops then 4 else kD p := by
 unfold Lib.idxOfS wordsL kD
 simp only [Lib.idxFromS]
 have n12 : bReach ≠ bNil := by decide
 have n13 : bReach ≠ bLoops := by decide
 have n22 : bApart ≠ bNil := by decide
 have n23 : bApart ≠ bLoops := by decide
 have n24 : bApart ≠ bReach := by decide
 have n32 : bWay ≠ bNil := by decide
 have n33 : bWay ≠ bLoops := by decide
 have n34 : bWay ≠ bReach := by decide
 have n35 : bWay ≠ bApart := by decide
 have n42 : bLoops ≠ bNil := by decide
 have n44 : bLoops ≠ bReach := by decide
 have n45 : bLoops ≠ bApart := by decide
 have n46 : bLoops ≠ bWay := by decide
 by_cases e0 : p = bNil
 ·subst e0; simp [Ne.symm n12, Ne.symm n22, Ne.symm n32, Ne.symm n42] <;> rfl
 by_cases e1 : p = bReach
 ·subst e1; simp [n12, Ne.symm n12, n13] <;> rfl
 by_cases e2 : p = bApart
 ·subst e2; simp [n22, Ne.symm n22, n23, n24, Ne.symm n24] <;> rfl
 by_cases e3 : p = bWay
 ·subst e3; simp [n32, Ne.symm n32, n33, n34, Ne.symm n34, n35, Ne.symm n35] <;> rfl
 by_cases e4 : p = bLoops
 ·subst e4; simp [n42, Ne.symm n42, n44, Ne.symm n44, n45, Ne.symm n45, n46, Ne.symm n46] <;> rfl
 simp [e0, e1, e2, e3, e4, Ne.symm e0, Ne.symm e1, Ne.symm e2, Ne.symm e3, Ne.symm e4] <;> rfl
abbrev wNo : T_Wish := T_Wish.mk 0 (ByteArray.mk #[]) (ByteArray.mk #[]) 0
open Classical in
theorem parse_end {s : ByteArray} {ws : List ByteArray} (hw : ws.map (·.data.toList) = cut 32 s.data.toList) (x : T_Wish) (h1 : x.From.size ≤ 1048576) (h2 : x.To.size ≤ 1048576) :
  ((t_wish_Print x).bind fun r27 => if ((!decide (r27.2 = 0)) || (!decide (r27.1 = s))) = true then some (wNo, (2 : Int)) else some (x, 0)) = some (if wpE x = 0 ∧ wishWs x = ws then (x, 0) else (wNo, 2)) := by
 have hM : maxI = 9223372036854775807 := rfl
 have hp : t_wish_Print x = some (wpS x, wpE x) := if_pos ⟨by omega, by omega⟩
 rw [hp, Option.bind_some]
 by_cases he : wpE x = 0
 ·by_cases hs : wpS x = s
  ·rw [if_neg (by simp [he, hs]), if_pos ⟨he, (wpS_is he hw).1 hs⟩]
  ·rw [if_pos (by simp [he, hs]), if_neg fun h => hs ((wpS_is he hw).2 h.2)]
 ·rw [if_pos (by simp [he]), if_neg fun h => he h.1]
open Classical in
theorem s_ReadWish (s : ByteArray) (hs : s.size ≤ 1048576) : ∃ x ok, t_railref1_ReadWish s = some (x, ok) ∧ t_wish_Parse s = some (if ok = true then (x, 0) else (wNo, 2)) := by
 obtain ⟨ws, h1, h2⟩ := cut_split s hs
 have hw : ws.map (·.data.toList) = cut 32 s.data.toList := by
  obtain ⟨ws', k1, k2⟩ := s_rCut s 32 hs
  have e : t_railref1_Cut s 32 = some ws' := k1
  rw [h1] at e
  rw [Option.some.inj e]; exact k2
 have hz : ∀ w ∈ ws, w.size ≤ 1048576 := fun w hw => by
  have h1 := glue_len 32 (ws.map (·.data.toList)) w.data.toList (List.mem_map_of_mem (f := (·.data.toList)) hw)
  rw [← split_glue h2] at h1
  have a1 : w.data.toList.length = w.size := by simp
  have a2 : s.data.toList.length = s.size := by simp
  omega
 have hl : s = bLoops → ws = [bLoops] := fun e => by
  apply map_data_inj
  rw [hw, e]
  rfl
 have hl2 : ws = [bLoops] → s = bLoops := fun e => by
  apply data_inj
  have := split_glue h2
  rw [this, e]
  rfl
 unfold t_railref1_ReadWish t_wish_Parse
 rw [h1, h2, Option.bind_some, Option.bind_some]
 clear h1 h2
 have nofew : ∀ x : T_Wish, wpE x = 0 → x.From = bNil → x.What = 4 := fun x h e => Classical.byContradiction fun h4 => by
  have := ((wpE_0 h).2.2.1 h4).1
  rw [e] at this
  exact absurd this (by decide)
 match ws, hz, hw, hl, hl2 with
 | [], _, hw, _, _ => exact absurd hw.symm (cut_ne 32 _)
 | [p0], hz, hw, hl, hl2 =>
  have i0 : idx [p0] 0 = some p0 := rfl
  have hlen : (List.length [p0] : Int) = 1 := rfl
  rw [i0, hlen]
  simp only [Option.bind_some, t_WIndex, kP]
  rw [if_neg (show ¬ decide ((2 : Int) < 1) = true by decide), Option.bind_some, if_neg (show ¬ decide ((1 : Int) = 4) = true by decide), Option.bind_some, parse_end hw _ (Nat.zero_le _) (Nat.zero_le _)]
  by_cases hs : s = bLoops
  ·have e : p0 = bLoops := by have := hl hs; simpa using this
   subst e
   refine ⟨⟨4, bNil, bNil, 0⟩, true, if_pos (decide_eq_true hs), ?_⟩
   rw [if_pos rfl, if_pos rfl, if_pos]
   refine ⟨?_, rfl⟩
   unfold wpE; simp
  ·refine ⟨wNo, false, ?_, ?_⟩
   ·rw [if_neg (by simpa using hs), if_pos (by decide)]
   ·rw [if_neg Bool.false_ne_true, if_neg]
    rintro ⟨he, hws⟩
    have h4 := nofew _ he rfl
    unfold wishWs at hws
    rw [if_pos h4] at hws
    exact hs (hl2 hws.symm)
 | [p0, p1], hz, hw, hl, hl2 =>
  have hs : ¬ s = bLoops := fun e => by have := hl e; simp at this
  have i0 : idx [p0, p1] 0 = some p0 := rfl
  have hlen : (List.length [p0, p1] : Int) = 2 := rfl
  rw [i0, hlen]
  simp only [Option.bind_some, t_WIndex, kP]
  rw [if_neg (show ¬ decide ((2 : Int) < 2) = true by decide), Option.bind_some, if_neg (show ¬ decide ((2 : Int) = 4) = true by decide), Option.bind_some, parse_end hw _ (Nat.zero_le _) (Nat.zero_le _)]
  refine ⟨wNo, false, ?_, ?_⟩
  ·rw [if_neg (by simpa using hs), if_pos (by decide)]
  ·rw [if_neg Bool.false_ne_true, if_neg]
   rintro ⟨he, hws⟩
   have := congrArg List.length hws
   rw [wishWs_len, nofew _ he rfl] at this
   simp at this
 | [p0, p1, p2], hz, hw, hl, hl2 =>
  have hs : ¬ s = bLoops := fun e => by have := hl e; simp at this
  have i0 : idx [p0, p1, p2] 0 = some p0 := rfl
  have i1 : idx [p0, p1, p2] 1 = some p1 := rfl
  have i2 : idx [p0, p1, p2] 2 = some p2 := rfl
  have hlen : (List.length [p0, p1, p2] : Int) = 3 := rfl
  have z1 := hz p1 (by simp)
  have z2 := hz p2 (by simp)
  rw [i0, i1, i2, hlen]
  simp only [Option.bind_some, t_WIndex, kP, join_eq]
  rw [if_pos (show decide ((2 : Int) < 3) = true by decide), Option.bind_some, if_neg (show ¬ decide ((3 : Int) = 4) = true by decide), Option.bind_some, parse_end hw _ z1 z2, if_neg (show ¬ decide (s = bLoops) = true by simpa using hs), if_neg (show ¬ (decide ((3 : Int) ≠ 3) && decide ((3 : Int) ≠ 4)) = true by decide)]
  have hx : ∀ j : T_Wish × T_Wish → Option (T_Wish × Bool), ((if decide (p0 = bReach) = true then some (T_Wish.mk 1 p1 p2 0) else some (T_Wish.mk 0 p1 p2 0)).bind fun s37 => (if decide (p0 = bApart) = true then some (T_Wish.mk 2 s37.From s37.To s37.Via) else some s37).bind fun s46 => (if decide (p0 = bWay) = true then some (T_Wish.mk 3 s46.From s46.To s46.Via) else some s46).bind fun s55 => j (wNo, s55)) = j (wNo, T_Wish.mk (kD p0) p1 p2 0) := fun j => by
   unfold kD
   by_cases e1 : p0 = bReach
   ·subst e1; simp
   ·by_cases e2 : p0 = bApart
    ·subst e2; simp
    ·by_cases e3 : p0 = bWay
     ·subst e3; simp
     ·simp [e1, e2, e3]
  have hx := hx (fun s62 => (t_railref1_ShowWish s62.2).bind fun r67 => if decide (r67.2 ≠ 0) = true then some (wNo, false) else some (s62.2, true))
  refine ⟨if wpE (T_Wish.mk (kD p0) p1 p2 0) ≠ 0 then wNo else T_Wish.mk (kD p0) p1 p2 0, decide (wpE (T_Wish.mk (kD p0) p1 p2 0) = 0), ?_, ?_⟩
  ·refine hx.trans ?_
   rw [s_ShowWish _ z1 z2, Option.bind_some]
   by_cases he : wpE (T_Wish.mk (kD p0) p1 p2 0) = 0 <;> simp [he]
  ·by_cases e4 : p0 = bLoops
   ·subst e4
    have k0 : kD bLoops = 0 := by decide
    have he : wpE (T_Wish.mk (kD bLoops) p1 p2 0) = 1 := by rw [k0]; unfold wpE; rw [if_pos (by simp)]
    rw [he, if_pos rfl, if_neg (show ¬ (decide ((1 : Int) = 0) = true) by decide), if_neg]
    rintro ⟨_, hws⟩
    have := congrArg List.length hws
    rw [wishWs_len] at this
    simp at this
   ·rw [if_neg e4]
    by_cases he : wpE (T_Wish.mk (kD p0) p1 p2 0) = 0
    ·rw [if_pos (decide_eq_true he), if_pos]
     ·simp [he]
     ·refine ⟨he, ?_⟩
      obtain ⟨q1, q2, _, _, _⟩ := wpE_0 he
      simp only at q1 q2
      unfold wishWs
      simp only
      unfold kD at q1 q2 ⊢
      by_cases e1 : p0 = bReach
      ·subst e1; simp; rfl
      ·by_cases e2 : p0 = bApart
       ·subst e2; simp; rfl
       ·by_cases e3 : p0 = bWay
        ·subst e3; simp at q2
        ·simp [e1, e2, e3] at q1
    ·rw [if_neg (show ¬ decide (wpE (T_Wish.mk (kD p0) p1 p2 0) = 0) = true by simpa using he), if_neg fun h => he h.1]
 | [p0, p1, p2, p3], hz, hw, hl, hl2 =>
  have hs : ¬ s = bLoops := fun e => by have := hl e; simp at this
  have i0 : idx [p0, p1, p2, p3] 0 = some p0 := rfl
  have i1 : idx [p0, p1, p2, p3] 1 = some p1 := rfl
  have i2 : idx [p0, p1, p2, p3] 2 = some p2 := rfl
  have i3 : idx [p0, p1, p2, p3] 3 = some p3 := rfl
  have hlen : (List.length [p0, p1, p2, p3] : Int) = 4 := rfl
  have z1 := hz p1 (by simp)
  have z2 := hz p2 (by simp)
  obtain ⟨u, v, b, n1, n2, n3⟩ := num_doc p3 (hz p3 (by simp))
  rw [i0, i1, i2, i3, hlen]
  simp only [Option.bind_some, t_WIndex, kP, join_eq, n1, n2, decide_true, if_true]
  rw [if_pos (show decide ((2 : Int) < 4) = true by decide), Option.bind_some, if_neg (show ¬ decide (s = bLoops) = true by simpa using hs), if_neg (show ¬ (decide ((4 : Int) ≠ 3) && decide ((4 : Int) ≠ 4)) = true by decide)]
  dsimp only
  rw [parse_end hw _ z1 z2]
  have hx : ∀ j : T_Wish → Option (T_Wish × Bool), ((if decide (p0 = bReach) = true then some (T_Wish.mk 1 p1 p2 0) else some (T_Wish.mk 0 p1 p2 0)).bind fun s37 => (if decide (p0 = bApart) = true then some (T_Wish.mk 2 s37.From s37.To s37.Via) else some s37).bind fun s46 => (if decide (p0 = bWay) = true then some (T_Wish.mk 3 s46.From s46.To s46.Via) else some s46).bind fun s55 => j s55) = j (T_Wish.mk (kD p0) p1 p2 0) := fun j => by
   unfold kD
   by_cases e1 : p0 = bReach
   ·subst e1; simp
   ·by_cases e2 : p0 = bApart
    ·subst e2; simp
    ·by_cases e3 : p0 = bWay
     ·subst e3; simp
     ·simp [e1, e2, e3]
  have hx := hx (fun s55 => if (((!b) || decide (s55.What ≠ 3)) || decide (u = 0)) = true then some (wNo, false) else (t_railref1_ShowWish (T_Wish.mk s55.What s55.From s55.To u)).bind fun r67 => if decide (r67.2 ≠ 0) = true then some (wNo, false) else some (T_Wish.mk s55.What s55.From s55.To u, true))
  by_cases e3 : p0 = bWay
  ·subst e3
   have k3 : kD bWay = 3 := by decide
   have k4 : ¬ bWay = bLoops := by decide
   rw [k3] at hx
   rw [if_neg k4, k3]
   cases b with
   | false =>
    refine ⟨wNo, false, ?_, ?_⟩
    ·refine hx.trans ?_
     simp
    ·rw [if_neg Bool.false_ne_true, if_neg]
     rintro ⟨he, hws⟩
     have hv := (wpE_0 he).2.1 rfl
     unfold wishWs at hws
     rw [if_neg (by simp), if_pos rfl] at hws
     have e3 : itoaS v.toNat = p3 := by simpa using hws
     have := (num_fwd (z := v) (by simp only at hv; omega) (by simp only at hv; omega)).1
     rw [e3, n2] at this
     simp at this
   | true =>
    have huv := n3 rfl
    subst huv
    by_cases hu : u = 0
    ·subst hu
     refine ⟨wNo, false, ?_, ?_⟩
     ·refine hx.trans ?_
      simp
     ·rw [if_neg Bool.false_ne_true, if_neg]
      rintro ⟨he, _⟩
      have hv := (wpE_0 he).2.1 rfl
      simp at hv
    ·refine ⟨if wpE (T_Wish.mk 3 p1 p2 u) ≠ 0 then wNo else T_Wish.mk 3 p1 p2 u, decide (wpE (T_Wish.mk 3 p1 p2 u) = 0), ?_, ?_⟩
     ·refine hx.trans ?_
      rw [if_neg (by simp [hu]), s_ShowWish _ z1 z2, Option.bind_some]
      by_cases he : wpE (T_Wish.mk 3 p1 p2 u) = 0 <;> simp [he]
     ·by_cases he : wpE (T_Wish.mk 3 p1 p2 u) = 0
      ·rw [if_pos (decide_eq_true he), if_pos]
       ·simp [he]
       ·refine ⟨he, ?_⟩
        unfold wishWs
        rw [if_neg (by simp), if_pos rfl, (num_bwd n2).2]
      ·rw [if_neg (show ¬ decide (wpE (T_Wish.mk 3 p1 p2 u) = 0) = true by simpa using he), if_neg fun h => he h.1]
  ·have k3 : kD p0 ≠ 3 := by
    unfold kD
    split
    ·decide
    ·split
     ·decide
     ·first | decide | (rw [if_neg e3]; decide)
   refine ⟨wNo, false, ?_, ?_⟩
   ·refine hx.trans ?_
    rw [if_pos (by simp [k3])]
   ·rw [if_neg Bool.false_ne_true, if_neg]
    rintro ⟨he, hws⟩
    have := congrArg List.length hws
    rw [wishWs_len] at this
    have key : (if p0 = bLoops then (4 : Int) else kD p0) ≠ 3 := by
     split
     ·decide
     ·exact k3
    by_cases h4 : (if p0 = bLoops then (4 : Int) else kD p0) = 4
    ·rw [if_pos h4] at this
     simp at this
    ·rw [if_neg h4, if_neg key] at this
     simp at this
 | p0 :: p1 :: p2 :: p3 :: p4 :: R, hz, hw, hl, hl2 =>
  have hs : ¬ s = bLoops := fun e => by have := hl e; simp at this
  have i0 : idx (p0 :: p1 :: p2 :: p3 :: p4 :: R) 0 = some p0 := rfl
  have i1 : idx (p0 :: p1 :: p2 :: p3 :: p4 :: R) 1 = some p1 := rfl
  have i2 : idx (p0 :: p1 :: p2 :: p3 :: p4 :: R) 2 = some p2 := rfl
  have z1 := hz p1 (by simp)
  have z2 := hz p2 (by simp)
  have hlen : ((p0 :: p1 :: p2 :: p3 :: p4 :: R).length : Int) = (R.length : Int) + 5 := by simp; omega
  rw [i0, i1, i2, hlen]
  simp only [Option.bind_some, t_WIndex, kP]
  rw [if_pos (show decide ((2 : Int) < (R.length : Int) + 5) = true by simp; omega), Option.bind_some, if_neg (show ¬ decide ((R.length : Int) + 5 = 4) = true by simp; omega), Option.bind_some, parse_end hw _ z1 z2]
  refine ⟨wNo, false, ?_, ?_⟩
  ·rw [if_neg (by simpa using hs), if_pos (by simp; omega)]
  ·rw [if_neg Bool.false_ne_true, if_neg]
   rintro ⟨he, hws⟩
   have := wishWs_le (T_Wish.mk (if p0 = bLoops then 4 else kD p0) p1 p2 0)
   rw [hws] at this
   simp only [List.length_cons] at this
   omega
def ruleGood (r : T_Rule) : Prop := (0 ≤ r.Out ∧ r.Out ≤ 4) ∧ (0 ≤ r.Set ∧ r.Set < 16) ∧ 0 ≤ r.Value ∧ r.Value < 16
def tblGood (t : List T_Rule) : Prop := t.length ≤ 12 ∧ ∀ r ∈ t, ruleGood r
structure netGood (n : T_Net) : Prop where
 topo : topoGood n.Topo
 chk : t_topo_Check n.Topo = some 0
 len : (n.Tables.length : Int) = n.Topo.Switches
 tabs : ∀ t ∈ n.Tables, tblGood t
theorem s_Header (h : Int) : ∃ b, t_cube_Header h = some b ∧ (b = true ↔ 0 ≤ h ∧ h < 16) := ⟨_, rfl, by simp⟩
theorem s_ruleCheck (r : T_Rule) : ∃ c, t_rule_Check r = some c ∧ (c = 0 → ruleGood r) := by
 unfold t_rule_Check
 obtain ⟨b1, e1, f1⟩ := s_Header r.Set
 obtain ⟨b2, e2, f2⟩ := s_Header r.Value
 rw [e1, e2]
 obtain ⟨c, hc⟩ : ∃ c, t_cube_Check r.Cube = some c := by
  unfold t_cube_Check
  obtain ⟨b3, e3, _⟩ := s_Header r.Cube.Mask
  obtain ⟨b4, e4, _⟩ := s_Header r.Cube.Bits
  rw [e3, e4]
  cases b3 <;> cases b4 <;> simp only [gd, Bool.not_true, Bool.not_false, if_true, Bool.or_self, Bool.true_or, Bool.or_true, Bool.false_eq_true, if_false, Option.bind_some] <;> first | exact ⟨_, rfl⟩ | (split <;> exact ⟨_, rfl⟩)
 rw [hc]
 cases hA : (((decide (r.Prio < 0) || decide (99 < r.Prio)) || decide (r.Out < 0)) || decide (4 < r.Out)) with
 | true => exact ⟨1, by simp [gd], fun h => by cases h⟩
 | false =>
  cases hb1 : b1 with
  | false => exact ⟨1, by simp [gd], fun h => by cases h⟩
  | true =>
   cases hb2 : b2 with
   | false => exact ⟨1, by simp [gd], fun h => by cases h⟩
   | true =>
    simp only [Bool.or_eq_false_iff, decide_eq_false_iff_not, Int.not_lt] at hA
    have hg : ruleGood r := ⟨⟨hA.1.2, hA.2⟩, f1.1 hb1, f2.1 hb2⟩
    simp only [gd, Bool.not_false, Bool.not_true, if_true, Option.bind_some, Bool.or_self, Bool.false_eq_true, if_false]
    split
    ·exact ⟨_, rfl, fun _ => hg⟩
    ·split <;> exact ⟨_, rfl, fun _ => hg⟩
theorem s_ruleTable (t : List T_Rule) : ∃ c, t_rule_Table t = some c ∧ (c = 0 → tblGood t) := by
 unfold t_rule_Table
 split
 ·exact ⟨4, rfl, fun h => by cases h⟩
 ·rename_i h1
  simp only [decide_eq_true_eq, Int.not_lt] at h1
  simp only [join_eq]
  refine loopI_ex (fun i l _ => 0 ≤ i ∧ i + l.length = t.length ∧ ∀ x ∈ t, x ∈ l ∨ ruleGood x) (by omega) ⟨Int.le_refl _, by omega, fun x hx => .inl hx⟩ (fun i s hI => ⟨0, rfl, fun _ => ⟨by omega, fun r hr => (hI.2.2 r hr).resolve_left (by simp)⟩⟩) (fun i x l s k hI hk => ?_)
  obtain ⟨c, e1, e2⟩ := s_ruleCheck x
  rw [e1]
  simp only [Option.bind_some]
  split
  ·rename_i hc
   refine ⟨c, rfl, fun h => ?_⟩
   simp [h] at hc
  ·rename_i hc
   obtain ⟨i0, il, ia⟩ := hI
   have hs : slc_hi t i = some (t.take i.toNat) := if_pos ⟨i0, by simp at il; omega⟩
   rw [hs]
   simp only [Option.bind_some]
   have hfn : ∀ (l : List T_Rule), l.length ≤ 12 → ∃ j, t_slices_IndexFunc_api_Table_api_Rule l (fun a33 => t_rule_Table_1 a33 x) = some j ∧ True := fun l hl => by
    unfold t_slices_IndexFunc_api_Table_api_Rule
    simp only [join_eq]
    refine loopI_ex (fun _ _ _ => True) (by omega) trivial (fun _ _ _ => ⟨_, rfl, trivial⟩) (fun i y l s k _ hk => ?_)
    simp only [t_rule_Table_1, t_rule_Key, Option.bind_some]
    split
    ·exact ⟨_, rfl, trivial⟩
    ·exact hk () trivial
   obtain ⟨j, hj, _⟩ := hfn (t.take i.toNat) (by simp; omega)
   unfold t_slices_ContainsFunc_api_Table_api_Rule
   rw [hj]
   simp only [Option.bind_some]
   split
   ·exact ⟨7, rfl, fun h => by cases h⟩
   ·refine hk () ⟨by omega, by simp at il; omega, fun y hy => ?_⟩
    rcases ia y hy with h | h
    ·rcases List.mem_cons.1 h with rfl | h
     ·exact .inr (e2 (by simpa using hc))
     ·exact .inl h
    ·exact .inr h
theorem s_netCheck (n : T_Net) (hn : ∀ h ∈ n.Topo.Hosts, (h.Name.size : Int) ≤ maxI) : ∃ c, t_net_Check n = some c ∧ (c = 0 → netGood n) := by
 unfold t_net_Check
 obtain ⟨c, e1, e2⟩ := s_topoCheck n.Topo hn
 rw [e1]
 simp only [Option.bind_some]
 split
 ·rename_i hc
  refine ⟨c, rfl, fun h => ?_⟩
  simp [h] at hc
 ·rename_i hc
  have hc : c = 0 := by simpa using hc
  subst hc
  have hg := e2 rfl
  split
  ·exact ⟨3, rfl, fun h => by cases h⟩
  ·rename_i hl
   have hl : (n.Tables.length : Int) = n.Topo.Switches := by simpa using hl
   simp only [join_eq]
   have := hg.sw
   refine loopI_ex (fun _ l _ => ∀ x ∈ n.Tables, x ∈ l ∨ tblGood x) (by omega) (fun x hx => .inl hx) (fun i s hI => ⟨0, rfl, fun _ => ⟨hg, e1, hl, fun t ht => (hI t ht).resolve_left (by simp)⟩⟩) (fun i x l s k hI hk => ?_)
   obtain ⟨c, f1, f2⟩ := s_ruleTable x
   rw [f1]
   simp only [Option.bind_some]
   split
   ·rename_i hc
    refine ⟨c, rfl, fun h => ?_⟩
    simp [h] at hc
   ·rename_i hc
    refine hk () fun y hy => ?_
    rcases hI y hy with h | h
    ·rcases List.mem_cons.1 h with rfl | h
     ·exact .inr (f2 (by simpa using hc))
     ·exact .inl h
    ·exact .inr h
theorem s_above (a b : T_Rule) : ∃ c, t_rule_above a b = some c := by
 have hc : ∀ x y : Int, ∃ c, t_cmp_Compare_int x y = some c := fun x y => by
  unfold t_cmp_Compare_int t_cmp_isNaN_int
  simp only [Option.bind_some, ne_eq, not_true_eq_false, decide_false, Bool.false_eq_true, if_false]
  split
  ·exact ⟨_, rfl⟩
  ·split <;> exact ⟨_, rfl⟩
 unfold t_rule_above
 obtain ⟨c1, h1⟩ := hc a.Prio b.Prio
 obtain ⟨c2, h2⟩ := hc a.Cube.Mask b.Cube.Mask
 obtain ⟨c3, h3⟩ := hc a.Cube.Bits b.Cube.Bits
 rw [h1, h2, h3]
 simp only [Option.bind_some]
 have : ∃ c, t_cmp_Or_int [c1, c2, c3] = some c ∧ True := by
  unfold t_cmp_Or_int
  simp only [join_eq]
  refine loopI_ex (fun _ _ _ => True) (by simp) trivial (fun _ _ _ => ⟨_, rfl, trivial⟩) (fun i y l s k _ hk => ?_)
  split
  ·exact ⟨_, rfl, trivial⟩
  ·exact hk () trivial
 obtain ⟨c, h4, _⟩ := this
 rw [h4]
 exact ⟨c, rfl⟩
theorem s_Find (t : List T_Rule) (h : Int) (ht : t.length ≤ 12) : ∃ i, t_rule_Find t h = some i ∧ (i < 0 ∨ (0 ≤ i ∧ i < t.length)) := by
 unfold t_rule_Find
 have : ∃ i, loopI t (fun (i13 : Int) x14 (s9 : Int) k10 =>
   (gd ((decide ((bits .and .i64 h x14.Cube.Mask) = x14.Cube.Bits)) && (!(decide (s9 < 0)))) default (idx t s9)).bind fun r43 =>
   (gd ((decide ((bits .and .i64 h x14.Cube.Mask) = x14.Cube.Bits)) && (!(decide (s9 < 0)))) default (t_rule_above x14 r43)).bind fun r50 =>
   (if ((decide ((bits .and .i64 h x14.Cube.Mask) = x14.Cube.Bits)) && ((decide (s9 < 0)) || (decide (0 < r50)))) = true then (some i13) else (some (s9))).bind fun (s60 : Int) => k10 (s60)) (fun (s9 : Int) => some (s9)) (-1 : Int) = some i ∧ (i < 0 ∨ (0 ≤ i ∧ i < t.length)) := by
  refine loopI_ex (fun i l s => 0 ≤ i ∧ i + l.length = t.length ∧ (s < 0 ∨ (0 ≤ s ∧ s < i))) (by omega) ⟨Int.le_refl _, by omega, .inl (by decide)⟩ (fun i s hI => ⟨s, rfl, ?_⟩) (fun i x l s k hI hk => ?_)
  ·obtain ⟨h1, h2, h3⟩ := hI
   simp at h2
   omega
  ·obtain ⟨h1, h2, h3⟩ := hI
   simp only [List.length_cons] at h2
   generalize hB : ((decide ((bits .and .i64 h x.Cube.Mask) = x.Cube.Bits)) && (!(decide (s < 0)))) = B
   obtain ⟨y, hy⟩ : ∃ y, gd B default (idx t s) = some y := by
    cases B with
    | false => exact ⟨_, rfl⟩
    | true =>
     simp only [Bool.and_eq_true, Bool.not_eq_true', decide_eq_false_iff_not] at hB
     obtain ⟨y, hy, _⟩ := idx_some (l := t) (i := s) (by omega) (by omega)
     exact ⟨y, hy⟩
   rw [hy]
   simp only [Option.bind_some]
   obtain ⟨z, hz⟩ : ∃ z, gd B default (t_rule_above x y) = some z := by
    cases B with
    | false => exact ⟨_, rfl⟩
    | true => exact s_above x y
   rw [hz]
   simp only [Option.bind_some]
   split
   ·exact hk i ⟨by omega, by omega, .inr (by omega)⟩
   ·exact hk s ⟨by omega, by omega, by omega⟩
 obtain ⟨i, h1, h2⟩ := this
 exact ⟨i, by rw [h1]; rfl, h2⟩
theorem hdr_bits {h s v : Int} (hh : 0 ≤ h ∧ h < 16) (hs : 0 ≤ s ∧ s < 16) (hv : 0 ≤ v ∧ v < 16) : 0 ≤ bits .or .i64 (bits .andNot .i64 h s) v ∧ bits .or .i64 (bits .andNot .i64 h s) v < 16 := by
 have H : ∀ x y z : Fin 16, 0 ≤ bits .or .i64 (bits .andNot .i64 (x.val : Int) (y.val : Int)) (z.val : Int) ∧ bits .or .i64 (bits .andNot .i64 (x.val : Int) (y.val : Int)) (z.val : Int) < 16 := by decide +kernel
 have := H ⟨h.toNat, by omega⟩ ⟨s.toNat, by omega⟩ ⟨v.toNat, by omega⟩
 simpa [Int.toNat_of_nonneg hh.1, Int.toNat_of_nonneg hs.1, Int.toNat_of_nonneg hv.1] using this
theorem s_Out (t : List T_Rule) (ht : tblGood t) (at_ : T_Spot) (h : Int) (hh : 0 ≤ h ∧ h < 16) : ∃ o, t_net_Out t at_ h = some o ∧ (o.2.2 = true → o.1.Switch = at_.Switch ∧ (1 ≤ o.1.Port ∧ o.1.Port ≤ 4) ∧ 0 ≤ o.2.1 ∧ o.2.1 < 16) := by
 unfold t_net_Out
 obtain ⟨i, e1, e2⟩ := s_Find t h ht.1
 rw [e1]
 simp only [Option.bind_some]
 by_cases hi : i < 0
 ·simp [hi, gd]
 ·obtain ⟨x, hx, hm, _⟩ := idx_some (l := t) (i := i) (by omega) (by omega)
  simp only [hx, hi, decide_false, Bool.not_false, gd_true, Option.bind_some, Bool.false_or]
  split
  ·exact ⟨_, rfl, fun h => by cases h⟩
  ·rename_i ho
   have ho : ¬ x.Out = 0 := by simpa using ho
   obtain ⟨g1, g2, g3⟩ := ht.2 x hm
   exact ⟨_, rfl, fun _ => ⟨rfl, by simp only; omega, hdr_bits hh g2 g3⟩⟩
theorem s_Other (T : T_Topo) (hT : topoGood T) (s : T_Spot) : ∃ o, t_topo_Other T s = some o ∧ (o.2 = true → spotOk T o.1) := by
 unfold t_topo_Other
 simp only [join_eq]
 have := hT.nl
 refine loopI_ex (fun _ l _ => ∀ x ∈ l, x ∈ T.Links) (by omega) (fun _ h => h) (fun i s hI => ⟨_, rfl, fun h => by cases h⟩) (fun i x l s k hI hk => ?_)
 have hx := hT.links x (hI x (by simp))
 split
 ·exact ⟨_, rfl, fun _ => hx.2⟩
 ·split
  ·exact ⟨_, rfl, fun _ => hx.1⟩
  ·exact hk () fun y hy => hI y (by simp [hy])
theorem s_IndexHost (l : List T_Host) (hl : l.length ≤ 8) (p : T_Host → Bool) (g : T_Host → Option Bool) (hg : ∀ x, g x = some (p x)) : ∃ i, t_slices_IndexFunc_api_Host_api_Host l g = some i ∧ (i < 0 ∨ (0 ≤ i ∧ i < l.length)) := by
 unfold t_slices_IndexFunc_api_Host_api_Host
 simp only [join_eq]
 refine loopI_ex (fun i m _ => 0 ≤ i ∧ i + m.length = l.length) (by omega) ⟨Int.le_refl _, by omega⟩ (fun i s hI => ⟨-1, rfl, .inl (by decide)⟩) (fun i x m s k hI hk => ?_)
 rw [hg]
 simp only [Option.bind_some]
 obtain ⟨h1, h2⟩ := hI
 simp only [List.length_cons] at h2
 split
 ·exact ⟨i, rfl, .inr ⟨h1, by omega⟩⟩
 ·exact hk () ⟨by omega, by omega⟩
theorem s_Host (T : T_Topo) (hT : topoGood T) (s : T_Spot) : ∃ o, t_topo_Host T s = some o ∧ (o.2 = true → o.1 ≠ ByteArray.mk #[]) := by
 unfold t_topo_Host
 obtain ⟨i, e1, e2⟩ := s_IndexHost T.Hosts hT.nh (fun a4 => decide (a4.At = s)) _ (fun x => (rfl : t_topo_Host_1 x s = some (decide (x.At = s))))
 rw [e1]
 simp only [Option.bind_some]
 split
 ·exact ⟨_, rfl, fun h => by cases h⟩
 ·rename_i hi
  simp only [decide_eq_true_eq] at hi
  obtain ⟨x, hx, hm, _⟩ := idx_some (l := T.Hosts) (i := i) (by omega) (by omega)
  rw [hx]
  exact ⟨_, rfl, fun _ => (hT.hosts x hm).1⟩
theorem s_Contains (l : List T_Hop) (hl : (l.length : Int) ≤ maxI) (x : T_Hop) : t_slices_Contains_api_Hop_api_Hop l x = some (decide (x ∈ l)) := by
 have : ∃ i, t_slices_Index_api_Hop_api_Hop l x = some i ∧ (0 ≤ i ↔ x ∈ l) := by
  unfold t_slices_Index_api_Hop_api_Hop
  simp only [join_eq]
  refine loopI_ex (fun i m _ => 0 ≤ i ∧ (x ∈ l ↔ x ∈ m) ∧ ∀ y ∈ m, y ∈ l) hl ⟨Int.le_refl _, Iff.rfl, fun _ h => h⟩ (fun i s hI => ⟨-1, rfl, ?_⟩) (fun i y m s k hI hk => ?_)
  ·rw [hI.2.1]; simp
  ·split
   ·rename_i he
    have he : x = y := by simpa using he
    exact ⟨i, rfl, ⟨fun _ => by rw [he]; exact hI.2.2 y (by simp), fun _ => hI.1⟩⟩
   ·rename_i he
    have he : ¬ x = y := by simpa using he
    exact hk () ⟨by have := hI.1; omega, by rw [hI.2.1]; simp [he], fun z hz => hI.2.2 z (by simp [hz])⟩
 obtain ⟨i, h1, h2⟩ := this
 unfold t_slices_Contains_api_Hop_api_Hop
 rw [h1]
 simp only [Option.bind_some, h2]
theorem s_cmp (x y : Int) : t_cmp_Compare_int x y = some (if x < y then -1 else if y < x then 1 else 0) := by
 unfold t_cmp_Compare_int t_cmp_isNaN_int
 simp only [Option.bind_some, ne_eq, not_true_eq_false, decide_false, Bool.false_eq_true, if_false]
 by_cases h1 : x < y
 ·simp [h1]
 ·by_cases h2 : y < x <;> simp [h1, h2]
theorem s_cmpOr (a b c : Int) : t_cmp_Or_int [a, b, c] = some (if a ≠ 0 then a else if b ≠ 0 then b else c) := by
 unfold t_cmp_Or_int
 simp only [join_eq]
 rw [loopI_eq (by have : maxI = 9223372036854775807 := rfl; simp; omega)]
 simp only [goI]
 by_cases h1 : a = 0 <;> by_cases h2 : b = 0 <;> by_cases h3 : c = 0 <;> simp [h1, h2, h3]
abbrev cf (c : T_Cube) : Int := cchk c.Mask c.Bits
abbrev hs (c : T_Cube) (h : Int) : Bool := chas c.Mask c.Bits h
theorem and_andNot' {m b : Int} (h : 0 ≤ m ∧ m < 16 ∧ 0 ≤ b ∧ b < 16) : bits .and .i64 b m = b ↔ bits .andNot .i64 b m = 0 := by
 obtain ⟨h1, h2, h3, h4⟩ := h
 obtain ⟨m, rfl⟩ := Int.eq_ofNat_of_zero_le h1
 obtain ⟨b, rfl⟩ := Int.eq_ofNat_of_zero_le h3
 have hm : m < 16 := by omega
 have hb : b < 16 := by omega
 have H : ∀ x y : Fin 16, bits .and .i64 (y.val : Int) (x.val : Int) = (y.val : Int) ↔ bits .andNot .i64 (y.val : Int) (x.val : Int) = 0 := by decide +kernel
 exact H ⟨m, hm⟩ ⟨b, hb⟩
theorem hdr_eq (k : Int) : (decide (0 ≤ k) && decide (k < 16)) = hdr k := by unfold hdr; rw [Bool.eq_iff_iff]; simp
theorem s_cube_Header (k : Int) : t_cube_Header k = some (hdr k) := by rw [t_cube_Header, hdr_eq]
theorem s_rHeader (k : Int) : t_railref1_Header k = some (hdr k) := by rw [t_railref1_Header, hdr_eq]
theorem s_cube_Check (c : T_Cube) : t_cube_Check c = some (cf c) := by
 unfold t_cube_Check cf cchk
 simp only [s_cube_Header, Option.bind_some]
 cases h1 : hdr c.Mask
 ·rw [hdr_not] at h1
  simp [gd_false]
  try omega
 ·cases h2 : hdr c.Bits
  ·rw [hdr_not] at h2
   simp [gd_true, h2]
   try omega
  ·rw [hdr_iff] at h1 h2
   rw [if_pos (show 0 ≤ c.Mask ∧ c.Mask < 16 ∧ 0 ≤ c.Bits ∧ c.Bits < 16 by omega)]
   by_cases h3 : bits .andNot .i64 c.Bits c.Mask = 0 <;> simp [gd_true, h3]
theorem s_rCube (c : T_Cube) : t_railref1_Cube c = some (cf c) := by
 unfold t_railref1_Cube cf cchk
 simp only [s_rHeader, Option.bind_some]
 cases h1 : hdr c.Mask
 ·rw [hdr_not] at h1
  simp
  omega
 ·cases h2 : hdr c.Bits
  ·rw [hdr_not] at h2
   simp
   omega
  ·rw [hdr_iff] at h1 h2
   rw [if_pos (show 0 ≤ c.Mask ∧ c.Mask < 16 ∧ 0 ≤ c.Bits ∧ c.Bits < 16 by omega)]
   have h3 := and_andNot' ⟨h1.1, h1.2, h2.1, h2.2⟩
   by_cases h : bits .andNot .i64 c.Bits c.Mask = 0 
   ·simp [h, h3.2 h]
   ·have : ¬ bits .and .i64 c.Bits c.Mask = c.Bits := fun z => h (h3.1 z)
    simp [h, this]
def rchk (p m b o s v : Int) : Int :=
 if 0 ≤ p ∧ p ≤ 99 ∧ 0 ≤ o ∧ o ≤ 4 ∧ (0 ≤ s ∧ s < 16) ∧ (0 ≤ v ∧ v < 16) then
  (if cchk m b = 0 then (if bits .andNot .i64 v s = 0 ∧ ¬ (o = 0 ∧ s ≠ 0) then 0 else 3) else cchk m b)
 else 1
theorem rchk_0 {p m b o s v : Int} (h : rchk p m b o s v = 0) : (0 ≤ p ∧ p ≤ 99 ∧ 0 ≤ o ∧ o ≤ 4 ∧ (0 ≤ s ∧ s < 16) ∧ (0 ≤ v ∧ v < 16)) ∧ cchk m b = 0 ∧ bits .andNot .i64 v s = 0 ∧ ¬ (o = 0 ∧ s ≠ 0) := by
 unfold rchk at h
 split at h
 ·rename_i h1
  split at h
  ·rename_i h2
   split at h
   ·rename_i h3; exact ⟨h1, h2, h3.1, h3.2⟩
   ·cases h
  ·rename_i h2; exact absurd h h2
 ·cases h
def T_Rule.chk (x : T_Rule) : Int := rchk x.Prio x.Cube.Mask x.Cube.Bits x.Out x.Set x.Value
theorem rchk_ite (p m b o s v : Int) (hs hv : Bool) (h1 : hs = true ↔ 0 ≤ s ∧ s < 16) (h2 : hv = true ↔ 0 ≤ v ∧ v < 16) (e : Int) (he : e = cchk m b) :
  (if (((((decide (p < 0) || decide (99 < p)) || decide (o < 0)) || decide (4 < o)) || !hs) || !hv) = true then some (1 : Int) else
   if (!decide (e = 0)) = true then some e else if (decide (bits .andNot .i64 v s ≠ 0) || (decide (o = 0) && decide (s ≠ 0))) = true then some 3 else some 0) = some (rchk p m b o s v) := by
 subst he
 unfold rchk
 by_cases h : 0 ≤ p ∧ p ≤ 99 ∧ 0 ≤ o ∧ o ≤ 4 ∧ (0 ≤ s ∧ s < 16) ∧ (0 ≤ v ∧ v < 16)
 ·rw [if_neg (by rw [h1.2 h.2.2.2.2.1, h2.2 h.2.2.2.2.2]; simp; omega), if_pos h]
  by_cases hk : cchk m b = 0
  ·rw [if_neg (by simp [hk]), if_pos hk]
   generalize bits .andNot .i64 v s = B
   by_cases h3 : B = 0 <;> by_cases h4 : o = 0 <;> by_cases h5 : s = 0 <;> simp [h3, h4, h5]
  ·rw [if_pos (by simp [hk]), if_neg hk]
 ·rw [if_neg h, if_pos]
  cases hs <;> cases hv <;> simp at h1 h2 ⊢
  omega
theorem s_rule_Check (r : T_Rule) : t_rule_Check r = some r.chk := by
 have key := rchk_ite r.Prio r.Cube.Mask r.Cube.Bits r.Out r.Set r.Value (hdr r.Set) (hdr r.Value) hdr_iff hdr_iff (cf r.Cube) rfl
 unfold t_rule_Check T_Rule.chk
 simp only [s_cube_Header, s_cube_Check, Option.bind_some]
 rw [← key]
 cases hA : (((decide (r.Prio < 0) || decide (99 < r.Prio)) || decide (r.Out < 0)) || decide (4 < r.Out))
 ·cases hB : hdr r.Set
  ·simp [gd_true, gd_false]
  ·simp only [Bool.false_or, Bool.not_false, Bool.not_true, gd_true, Option.bind_some]
 ·simp [gd_false]
theorem s_rRule (r : T_Rule) : t_railref1_Rule r = some r.chk := by
 have key := rchk_ite r.Prio r.Cube.Mask r.Cube.Bits r.Out r.Set r.Value (hdr r.Set) (hdr r.Value) hdr_iff hdr_iff (cf r.Cube) rfl
 unfold t_railref1_Rule T_Rule.chk
 simp only [s_rHeader, s_rCube, Option.bind_some]
 rw [← key]
 by_cases hA : (((((decide (r.Prio < 0) || decide (99 < r.Prio)) || decide (r.Out < 0)) || decide (4 < r.Out)) || !hdr r.Set) || !hdr r.Value) = true
 ·rw [if_pos hA, if_pos hA]
 ·rw [if_neg hA, if_neg hA]
  have hv : 0 ≤ r.Set ∧ r.Set < 16 ∧ 0 ≤ r.Value ∧ r.Value < 16 := by
   simp only [Bool.or_eq_true, not_or, Bool.not_eq_true', Bool.not_eq_false, hdr_iff] at hA
   omega
  have e2 : cf (⟨r.Set, r.Value⟩ : T_Cube) = if bits .andNot .i64 r.Value r.Set = 0 then 0 else 3 := by
   unfold cf cchk; rw [if_pos hv]
  rw [e2]
  by_cases h0 : cf r.Cube = 0
  ·by_cases h3 : bits .andNot .i64 r.Value r.Set = 0 <;> simp [h0, h3, gd_true, gd_false]
  ·simp [h0]
def tabG : List T_Rule → List T_Rule → Int
 | _, [] => 0
 | p, x :: l => if x.chk ≠ 0 then x.chk else if (p.any fun y => decide (y.Prio = x.Prio) && decide (y.Cube = x.Cube)) = true then 7 else tabG (p ++ [x]) l
theorem tabG_ok : ∀ {p l : List T_Rule}, tabG p l = 0 → ∀ r ∈ l, r.chk = 0
 | _, [], _ => fun r h => by cases h
 | p, x :: l, h => by
  unfold tabG at h
  split at h
  ·rename_i h1; exact absurd h h1
  ·rename_i h1
   split at h
   ·cases h
   ·intro r hr
    rcases List.mem_cons.1 hr with rfl | hr
    ·exact Classical.not_not.1 h1
    ·exact tabG_ok h r hr
def tabF (t : List T_Rule) : Int := if 12 < (t.length : Int) then 4 else tabG [] t
theorem goI_tab {t : List T_Rule} {step : Int → T_Rule → Unit → (Unit → Option Int) → Option Int} {fin : Unit → Option Int} (hf : fin () = some 0) (ht : ¬ 12 < (t.length : Int))
  (h : ∀ (p l : List T_Rule) x k, t = p ++ x :: l → step (p.length : Int) x () k = if x.chk ≠ 0 then some x.chk else if (p.any fun y => decide (y.Prio = x.Prio) && decide (y.Cube = x.Cube)) = true then some 7 else k ()) :
  ∀ (l p : List T_Rule), t = p ++ l → goI step fin (p.length : Int) l () = some (tabG p l)
 | [], p, _ => hf
 | x :: l, p, e => by
  rw [goI, h p l x _ e, tabG]
  have e2 := goI_tab hf ht h l (p ++ [x]) (by rw [e]; simp)
  have e3 : (((p ++ [x]).length : Nat) : Int) = (p.length : Int) + 1 := by simp
  rw [e3] at e2
  rw [e2]
  split
  ·rfl
  ·split <;> rfl
theorem take_pre {p l : List T_Rule} : (p ++ l).take p.length = p := by simp
theorem s_rTable (t : List T_Rule) : t_railref1_Table t = some (tabF t) := by
 have hM : maxI = 9223372036854775807 := rfl
 unfold t_railref1_Table tabF
 by_cases h : 12 < (t.length : Int)
 ·rw [if_pos (decide_eq_true h), if_pos h]
 rw [if_neg (by simpa using h), if_neg h]
 simp only [join_eq]
 rw [loopI_eq (by omega)]
 refine goI_tab (t := t) rfl h (fun p l x k e => ?_) t [] rfl
 rw [s_rRule, Option.bind_some]
 have hp : p.length ≤ t.length := by rw [e]; simp
 rw [loopU_any (l := t) (fun y => decide (y.Prio = x.Prio) && decide (y.Cube = x.Cube)) (r := 7) (by omega) (by omega) (by omega) (fun n y k hy => ?_)]
 ·have : ((p.length : Int)).toNat = p.length := rfl
  rw [this, e, take_pre]
  by_cases hx : x.chk = 0 <;> simp [hx]
 ·rw [idx_nat, hy]
  simp only [Option.bind_some]
  by_cases h1 : y.Prio = x.Prio <;> simp [h1, gd_true, gd_false]
theorem s_rule_Table (t : List T_Rule) : t_rule_Table t = some (tabF t) := by
 have hM : maxI = 9223372036854775807 := rfl
 unfold t_rule_Table tabF
 by_cases h : 12 < (t.length : Int)
 ·rw [if_pos (decide_eq_true h), if_pos h]
 rw [if_neg (by simpa using h), if_neg h]
 simp only [join_eq]
 rw [loopI_eq (by omega)]
 refine goI_tab (t := t) rfl h (fun p l x k e => ?_) t [] rfl
 rw [s_rule_Check, Option.bind_some]
 have hp : p.length ≤ t.length := by rw [e]; simp
 have hs : slc_hi t (p.length : Int) = some p := by
  unfold slc_hi
  rw [if_pos ⟨by omega, by omega⟩]
  have : ((p.length : Int)).toNat = p.length := rfl
  rw [this, e, take_pre]
 rw [hs, Option.bind_some]
 have hc : t_slices_ContainsFunc_api_Table_api_Rule p (fun a33 => t_rule_Table_1 a33 x) = some (p.any fun y => decide (y.Prio = x.Prio) && decide (y.Cube = x.Cube)) := by
  unfold t_slices_ContainsFunc_api_Table_api_Rule
  have : ∃ j, t_slices_IndexFunc_api_Table_api_Rule p (fun a33 => t_rule_Table_1 a33 x) = some j ∧ decide (0 ≤ j) = p.any fun y => decide (y.Prio = x.Prio) && decide (y.Cube = x.Cube) := by
   unfold t_slices_IndexFunc_api_Table_api_Rule
   simp only [join_eq]
   refine loopI_ex (fun i l _ => 0 ≤ i ∧ (p.any fun y => decide (y.Prio = x.Prio) && decide (y.Cube = x.Cube)) = l.any fun y => decide (y.Prio = x.Prio) && decide (y.Cube = x.Cube)) (by omega) ⟨Int.le_refl _, rfl⟩ (fun i s hI => ⟨-1, rfl, by rw [hI.2]; rfl⟩) (fun i y l s k hI hk => ?_)
   simp only [t_rule_Table_1, t_rule_Key, Option.bind_some]
   obtain ⟨i0, i1⟩ := hI
   rw [List.any_cons] at i1
   cases hb : (decide (y.Prio = x.Prio) && decide (y.Cube = x.Cube)) with
   | true => exact ⟨i, rfl, by rw [i1, hb]; simpa using i0⟩
   | false =>
    rw [if_neg (by decide)]
    exact hk () ⟨by omega, by rw [i1, hb]; rfl⟩
  obtain ⟨j, e1, e2⟩ := this
  rw [e1, Option.bind_some, e2]
 rw [hc, Option.bind_some]
 by_cases hx : x.chk = 0 <;> simp [hx]
theorem tab_rules {t : List T_Rule} (h : t_rule_Table t = some 0) : ∀ r ∈ t, r.chk = 0 := by
 rw [s_rule_Table] at h
 have h := Option.some.inj h
 unfold tabF at h
 split at h
 ·cases h
 ·exact tabG_ok h
theorem s_rNet (n : T_Net) (hn : ∀ h ∈ n.Topo.Hosts, (h.Name.size : Int) ≤ maxI) : t_railref1_Net n = t_net_Check n := by
 unfold t_railref1_Net t_net_Check
 simp only [s_rTopo n.Topo hn, s_rTable, s_rule_Table, Option.bind_some]
 congr 1
 funext c
 by_cases hc : c = 0
 ·simp only [hc, ne_eq, not_true_eq_false, decide_false, decide_true, Bool.not_true, Bool.false_eq_true, if_false]
  split
  ·rfl
  ·simp only [join_eq]
   refine loopI_sim (fun _ _ _ _ => True) trivial (fun _ _ _ _ => rfl) (fun i x l s t k k' _ hk => ?_)
   rw [hk s t trivial]
   by_cases hx : tabF x = 0 <;> simp [hx]
 ·simp [hc]
theorem net_tabs {n : T_Net} (h : t_net_Check n = some 0) (hg : netGood n) : ∀ t ∈ n.Tables, t_rule_Table t = some 0 := by
 have hM : maxI = 9223372036854775807 := rfl
 unfold t_net_Check at h
 obtain ⟨c, e1, _⟩ : ∃ c, t_topo_Check n.Topo = some c ∧ True := by
  cases hc : t_topo_Check n.Topo with
  | none => rw [hc] at h; cases h
  | some c => exact ⟨c, rfl, trivial⟩
 rw [e1, Option.bind_some] at h
 split at h
 ·rename_i hc
  have := Option.some.inj h
  subst this
  simp at hc
 split at h
 ·cases h
 rename_i hl
 have hl : (n.Tables.length : Int) = n.Topo.Switches := by simpa using hl
 have := hg.topo.sw
 simp only [join_eq, s_rule_Table, Option.bind_some] at h
 rw [loopI_eq (by omega), goI_first (f := tabF) rfl n.Tables 0 (fun x _ i k => by by_cases hx : tabF x = 0 <;> simp [hx])] at h
 intro t ht
 rw [s_rule_Table, firstF_0.1 (Option.some.inj h) t ht]
theorem s_rabove (a b : T_Rule) : ∃ c, t_rule_above a b = some c ∧ t_railref1_above a b = some (decide (0 < c)) := by
 unfold t_rule_above t_railref1_above
 simp only [s_cmp, s_cmpOr, Option.bind_some]
 refine ⟨_, rfl, ?_⟩
 by_cases h1 : a.Prio = b.Prio
 ·by_cases h2 : a.Cube.Mask = b.Cube.Mask
  ·by_cases h3 : a.Cube.Bits < b.Cube.Bits
   ·simp [h1, h2, h3]; omega
   ·by_cases h4 : b.Cube.Bits < a.Cube.Bits <;> simp [h1, h2, h3, h4]
  ·rcases Int.lt_or_gt_of_ne h2 with h | h
   ·have : ¬ b.Cube.Mask < a.Cube.Mask := by omega
    simp [h1, h2, h, this]
   ·have : ¬ a.Cube.Mask < b.Cube.Mask := by omega
    simp [h1, h2, h, this]
 ·rcases Int.lt_or_gt_of_ne h1 with h | h
  ·have : ¬ b.Prio < a.Prio := by omega
   simp [h1, h, this]
  ·have : ¬ a.Prio < b.Prio := by omega
   simp [h1, h, this]
theorem s_rFind (t : List T_Rule) (ht : ∀ r ∈ t, r.chk = 0) (h : Int) (hh : 0 ≤ h ∧ h < 16) : t_railref1_Find t h = t_rule_Find t h := by
 unfold t_railref1_Find t_rule_Find
 refine congrArg (fun o : Option Int => o.bind fun s => some s) ?_
 refine loopI_sim (fun _ l s u => s = u ∧ ∀ r ∈ l, r.chk = 0) ⟨rfl, ht⟩ (fun i s u e => by rw [e.1]) (fun i x l s u k k' e hk => ?_)
 obtain ⟨rfl, e2⟩ := e
 have hx := rchk_0 (e2 x (by simp))
 have hc : cf x.Cube = 0 := hx.2.1
 have hhas : t_railref1_Has x.Cube h = some (decide (bits .and .i64 h x.Cube.Mask = x.Cube.Bits)) := by
  unfold t_railref1_Has
  simp only [s_rHeader, s_rCube, Option.bind_some]
  have : hdr h = true := hdr_iff.2 hh
  simp [this, hc, gd_true]
 rw [hhas, Option.bind_some]
 generalize decide (bits .and .i64 h x.Cube.Mask = x.Cube.Bits) = B
 cases hB : (B && !decide (s < 0)) with
 | false =>
  simp only [gd_false, Option.bind_some]
  have : ∀ z : Bool, (B && (decide (s < 0) || z)) = (B && decide (s < 0)) := fun z => by
   cases B <;> cases hd : decide (s < 0) <;> simp [hd] at hB ⊢
  rw [this, this]
  split
  ·exact hk _ _ ⟨rfl, fun r hr => e2 r (by simp [hr])⟩
  ·exact hk _ _ ⟨rfl, fun r hr => e2 r (by simp [hr])⟩
 | true =>
  simp only [gd_true]
  cases idx t s with
  | none => rfl
  | some y =>
   obtain ⟨c, c1, c2⟩ := s_rabove x y
   simp only [Option.bind_some, c1, c2]
   split
   ·exact hk _ _ ⟨rfl, fun r hr => e2 r (by simp [hr])⟩
   ·exact hk _ _ ⟨rfl, fun r hr => e2 r (by simp [hr])⟩
def bitB (x i : Nat) : Bool := decide (x / 2 ^ i % 2 = 1)
theorem s_bit {x : Int} (hx : 0 ≤ x ∧ x < 16) (i : Fin 4) : t_railref1_bit x (i.val : Int) = some (bitB x.toNat i.val) := by
 have H : ∀ (x : Fin 16) (i : Fin 4), t_railref1_bit (x.val : Int) (i.val : Int) = some (bitB x.val i.val) := by decide +kernel
 have := H ⟨x.toNat, by omega⟩ i
 simpa [Int.toNat_of_nonneg hx.1] using this
def bstp (s v h : Nat) (i : Nat) (o : Int) : Int := if ((bitB s i && bitB v i) || (!bitB s i && bitB h i)) = true then o * 2 + 1 else o * 2
theorem turned_eq (s v h : Fin 16) (hsv : bits .andNot .i64 (v.val : Int) (s.val : Int) = 0) : bstp s v h 0 (bstp s v h 1 (bstp s v h 2 (bstp s v h 3 0))) = bits .or .i64 (bits .andNot .i64 (h.val : Int) (s.val : Int)) (v.val : Int) := by
 have H : ∀ s v h : Fin 16, bits .andNot .i64 (v.val : Int) (s.val : Int) = 0 → bstp s v h 0 (bstp s v h 1 (bstp s v h 2 (bstp s v h 3 0))) = bits .or .i64 (bits .andNot .i64 (h.val : Int) (s.val : Int)) (v.val : Int) := by decide +kernel
 exact H s v h hsv
theorem bstp_le {s v h i : Nat} {o : Int} {B : Int} (ho : 0 ≤ o ∧ o ≤ B) : 0 ≤ bstp s v h i o ∧ bstp s v h i o ≤ 2 * B + 1 := by
 unfold bstp
 split <;> omega
noncomputable def turnF (r : T_Rule) (h : Int) (k10 : Int × Int → Option Int) (s9 : Int × Int) : Option Int :=
 if (decide (0 ≤ s9.2)) = true then (
 (t_railref1_bit r.Set s9.2).bind fun r18 =>
 (t_railref1_bit r.Value s9.2).bind fun r21 =>
 (t_railref1_bit h s9.2).bind fun r23 =>
 (if ((r18 && r21) || ((!r18) && r23)) = true then (
 some (wr ((wr (s9.1 * 2)) + 1))) else (
 some (wr (s9.1 * 2)))).bind fun (s43 : Int) =>
 k10 (s43, (wr (s9.2 - 1)))) else (
 some (s9.1))
theorem turnF_step {r : T_Rule} {h : Int} (hs : 0 ≤ r.Set ∧ r.Set < 16) (hv : 0 ≤ r.Value ∧ r.Value < 16) (hh : 0 ≤ h ∧ h < 16) (k : Int × Int → Option Int) (i : Fin 4) {o : Int} (ho : 0 ≤ o ∧ o ≤ 100) : turnF r h k (o, (i.val : Int)) = k (bstp r.Set.toNat r.Value.toNat h.toNat i.val o, (i.val : Int) - 1) := by
 unfold turnF
 simp only
 rw [if_pos (by simp), s_bit hs i, s_bit hv i, s_bit hh i]
 simp only [Option.bind_some]
 rw [wr_id (x := o * 2) (by omega) (by omega), wr_id (x := o * 2 + 1) (by omega) (by omega), wr_id (x := (i.val : Int) - 1) (by omega) (by have := i.isLt; omega)]
 unfold bstp
 split <;> simp [*]
theorem s_Turned {r : T_Rule} (hr : r.chk = 0) {h : Int} (hh : 0 ≤ h ∧ h < 16) : t_railref1_Turned r h = some (bits .or .i64 (bits .andNot .i64 h r.Set) r.Value) := by
 obtain ⟨⟨_, _, _, _, hs, hv⟩, _, hz, _⟩ := rchk_0 hr
 unfold t_railref1_Turned
 obtain ⟨M, hM⟩ : ∃ M, bigN = M + 5 := ⟨bigN - 5, by have := bigN_gt; omega⟩
 rw [bind_some_id, hM]
 show tfix (turnF r h) (M + 5) (0, ((⟨3, by decide⟩ : Fin 4).val : Int)) = _
 have b3 := bstp_le (s := r.Set.toNat) (v := r.Value.toNat) (h := h.toNat) (i := 3) (o := 0) (B := 0) ⟨Int.le_refl _, Int.le_refl _⟩
 have b2 := bstp_le (s := r.Set.toNat) (v := r.Value.toNat) (h := h.toNat) (i := 2) b3
 have b1 := bstp_le (s := r.Set.toNat) (v := r.Value.toNat) (h := h.toNat) (i := 1) b2
 rw [tfix, turnF_step hs hv hh _ ⟨3, by decide⟩ ⟨Int.le_refl _, by decide⟩]
 show tfix (turnF r h) (M + 4) (_, ((⟨2, by decide⟩ : Fin 4).val : Int)) = _
 rw [tfix, turnF_step hs hv hh _ ⟨2, by decide⟩ ⟨b3.1, Int.le_trans b3.2 (by decide)⟩]
 show tfix (turnF r h) (M + 3) (_, ((⟨1, by decide⟩ : Fin 4).val : Int)) = _
 rw [tfix, turnF_step hs hv hh _ ⟨1, by decide⟩ ⟨b2.1, Int.le_trans b2.2 (by decide)⟩]
 show tfix (turnF r h) (M + 2) (_, ((⟨0, by decide⟩ : Fin 4).val : Int)) = _
 rw [tfix, turnF_step hs hv hh _ ⟨0, by decide⟩ ⟨b1.1, Int.le_trans b1.2 (by decide)⟩]
 show some _ = _
 have := turned_eq ⟨r.Set.toNat, by omega⟩ ⟨r.Value.toNat, by omega⟩ ⟨h.toNat, by omega⟩ (by simpa [Int.toNat_of_nonneg hs.1, Int.toNat_of_nonneg hv.1] using hz)
 simp only [Int.toNat_of_nonneg hs.1, Int.toNat_of_nonneg hv.1, Int.toNat_of_nonneg hh.1] at this
 rw [← this]
abbrev noT : ByteArray := ByteArray.mk #[]
noncomputable def outV (t : List T_Rule) (at_ : T_Spot) (h : Int) : T_Spot × Int × Bool := (t_net_Out t at_ h).getD default
noncomputable def hostV (T : T_Topo) (s : T_Spot) : ByteArray × Bool := (t_topo_Host T s).getD default
noncomputable def otherV (T : T_Topo) (s : T_Spot) : T_Spot × Bool := (t_topo_Other T s).getD default
def tblV (n : T_Net) (h : T_Hop) : List T_Rule := (idx n.Tables (h.At.Switch - 1)).getD []
structure hopOk (n : T_Net) (h : T_Hop) : Prop where
 at_ : spotOk n.Topo h.At
 hd : 0 ≤ h.Header ∧ h.Header < 16
theorem s_tbl {n : T_Net} (hn : netGood n) {x : T_Hop} (hx : spotOk n.Topo x.At) : idx n.Tables (wr (x.At.Switch - 1)) = some (tblV n x) ∧ tblGood (tblV n x) := by
 have h1 := hn.topo.sw
 obtain ⟨h2, h3, _⟩ := hx
 have hl := hn.len
 rw [wr_id (by omega) (by omega)]
 obtain ⟨t, e1, e2, _⟩ := idx_some (l := n.Tables) (i := x.At.Switch - 1) (by omega) (by omega)
 unfold tblV
 rw [e1]
 exact ⟨rfl, hn.tabs t e2⟩
theorem s_out {n : T_Net} (hn : netGood n) {x : T_Hop} (hx : hopOk n x) : t_net_Out (tblV n x) x.At x.Header = some (outV (tblV n x) x.At x.Header) ∧ ((outV (tblV n x) x.At x.Header).2.2 = true → spotOk n.Topo (outV (tblV n x) x.At x.Header).1 ∧ 0 ≤ (outV (tblV n x) x.At x.Header).2.1 ∧ (outV (tblV n x) x.At x.Header).2.1 < 16) := by
 obtain ⟨o, e1, e2⟩ := s_Out (tblV n x) (s_tbl hn hx.at_).2 x.At x.Header hx.hd
 unfold outV
 rw [e1]
 refine ⟨rfl, fun h => ?_⟩
 obtain ⟨f1, f2, f3⟩ := e2 h
 obtain ⟨g1, g2, _⟩ := hx.at_
 simp only [Option.getD_some]
 exact ⟨⟨by rw [f1]; exact g1, by rw [f1]; exact g2, f2⟩, f3⟩
theorem s_host {n : T_Net} (hn : netGood n) (s : T_Spot) : t_topo_Host n.Topo s = some (hostV n.Topo s) ∧ ((hostV n.Topo s).2 = true → (hostV n.Topo s).1 ≠ noT) := by
 obtain ⟨o, e1, e2⟩ := s_Host n.Topo hn.topo s
 unfold hostV
 rw [e1]
 exact ⟨rfl, e2⟩
theorem s_other {n : T_Net} (hn : netGood n) (s : T_Spot) : t_topo_Other n.Topo s = some (otherV n.Topo s) ∧ ((otherV n.Topo s).2 = true → spotOk n.Topo (otherV n.Topo s).1) := by
 obtain ⟨o, e1, e2⟩ := s_Other n.Topo hn.topo s
 unfold otherV
 rw [e1]
 exact ⟨rfl, e2⟩
noncomputable def kd (n : T_Net) (x : T_Hop) : Int × ByteArray × T_Hop :=
 if (outV (tblV n x) x.At x.Header).2.2 = true then
  if (hostV n.Topo (outV (tblV n x) x.At x.Header).1).2 = true then (1, (hostV n.Topo (outV (tblV n x) x.At x.Header).1).1, default)
  else if (otherV n.Topo (outV (tblV n x) x.At x.Header).1).2 = true then (0, noT, ⟨(otherV n.Topo (outV (tblV n x) x.At x.Header).1).1, (outV (tblV n x) x.At x.Header).2.1⟩)
  else (3, noT, default)
 else (2, noT, default)
theorem kd_ok {n : T_Net} (hn : netGood n) {x : T_Hop} (hx : hopOk n x) : ((kd n x).1 = 0 → hopOk n (kd n x).2.2) ∧ ((kd n x).1 = 1 → (kd n x).2.1 ≠ noT) ∧ ((kd n x).1 = 0 ∨ (kd n x).1 = 1 ∨ (kd n x).1 = 2 ∨ (kd n x).1 = 3) := by
 obtain ⟨_, ho⟩ := s_out hn hx
 unfold kd
 split
 ·rename_i h1
  split
  ·rename_i h2
   exact ⟨fun h => (by cases h), fun _ => (s_host hn _).2 h2, .inr (.inl rfl)⟩
  ·split
   ·rename_i h3
    exact ⟨fun _ => ⟨(s_other hn _).2 h3, (ho h1).2⟩, fun h => (by cases h), .inl rfl⟩
   ·exact ⟨fun h => (by cases h), fun h => (by cases h), .inr (.inr (.inr rfl))⟩
 ·exact ⟨fun h => (by cases h), fun h => (by cases h), .inr (.inr (.inl rfl))⟩
theorem idx_last {α : Type} (l : List α) (x : α) (hl : l.length ≤ 100) : idx (l ++ [x]) (wr (((l ++ [x]).length : Int) - 1)) = some x := by
 have e : (((l ++ [x]).length : Int) - 1) = (l.length : Int) := by simp
 rw [e, wr_id (by omega) (by omega), idx_nat]
 simp
noncomputable def goV (n : T_Net) (l : List T_Hop) (x : T_Hop) : Bool × T_Fate :=
 if (kd n x).1 = 0 then (if (kd n x).2.2 ∈ l ++ [x] ∨ 24 ≤ (l ++ [x]).length then (false, ⟨4, noT, l ++ [x]⟩) else (true, ⟨0, noT, l ++ [x] ++ [(kd n x).2.2]⟩))
 else (false, ⟨(kd n x).1, if (kd n x).1 = 1 then (kd n x).2.1 else noT, l ++ [x]⟩)
theorem s_Go {n : T_Net} (hn : netGood n) (l : List T_Hop) {x : T_Hop} (hx : hopOk n x) (hl : (l ++ [x]).length ≤ 24) : t_net_Go n.Topo (tblV n x) ⟨0, noT, l ++ [x]⟩ = some (goV n l x) := by
 unfold t_net_Go
 have hl2 : l.length ≤ 100 := by simp at hl; omega
 simp only [idx_last l x hl2, Option.bind_some, (s_out hn hx).1]
 unfold goV kd
 by_cases h1 : (outV (tblV n x) x.At x.Header).2.2 = true
 ·simp only [h1, Bool.not_true, Bool.false_eq_true, if_false, if_true, (s_host hn _).1, Option.bind_some]
  by_cases h2 : (hostV n.Topo (outV (tblV n x) x.At x.Header).1).2 = true
  ·simp [h2]
  ·simp only [h2, if_false, (s_other hn _).1, Option.bind_some]
   by_cases h3 : (otherV n.Topo (outV (tblV n x) x.At x.Header).1).2 = true
   ·simp only [h3, Bool.not_true, Bool.false_eq_true, if_false, if_true, Option.bind_some]
    rw [s_Contains _ (by have : maxI = 9223372036854775807 := rfl; omega)]
    simp only [Option.bind_some]
    generalize (⟨(otherV n.Topo (outV (tblV n x) x.At x.Header).1).1, (outV (tblV n x) x.At x.Header).2.1⟩ : T_Hop) = y
    by_cases h4 : y ∈ l ++ [x] ∨ 24 ≤ (l ++ [x]).length
    ·have : (decide (y ∈ l ++ [x]) || decide (24 ≤ ((l ++ [x]).length : Int))) = true := by
      rcases h4 with h | h
      ·simp only [Bool.or_eq_true, decide_eq_true_eq]; exact .inl h
      ·simp only [Bool.or_eq_true, decide_eq_true_eq]; right; omega
     rw [if_pos this, if_pos h4]
    ·have : ¬ (decide (y ∈ l ++ [x]) || decide (24 ≤ ((l ++ [x]).length : Int))) = true := by
      simp only [Bool.or_eq_true, decide_eq_true_eq]
      intro h
      exact h4 (h.elim .inl fun h => .inr (by omega))
     rw [if_neg this, if_neg h4]
     have hc : cln (l ++ [x]) = some (l ++ [x]) := if_pos (by omega)
     rw [hc]
     simp only [Option.bind_some]
     rw [app_eq (by simp at hl ⊢; omega)]
     rfl
   ·simp [h3]
 ·simp [h1]
noncomputable def ofF (n : T_Net) (k : T_Fate → Option T_Fate) (s : T_Fate) : Option T_Fate :=
 (idx s.Hops (wr ((List.length s.Hops : Int) - 1))).bind fun r32 => (idx n.Tables (wr (r32.At.Switch - 1))).bind fun r38 => (t_net_Go n.Topo r38 s).bind fun r42 => if r42.1 = true then k r42.2 else some r42.2
theorem ofF_step {n : T_Net} (hn : netGood n) (k : T_Fate → Option T_Fate) (l : List T_Hop) {x : T_Hop} (hx : hopOk n x) (hl : (l ++ [x]).length ≤ 24) : ofF n k ⟨0, noT, l ++ [x]⟩ = if (goV n l x).1 = true then k (goV n l x).2 else some (goV n l x).2 := by
 unfold ofF
 simp only [idx_last l x (by simp at hl; omega), Option.bind_some, (s_tbl hn hx.at_).1, s_Go hn l hx hl]
theorem s_Of (n : T_Net) (s : T_Spot) (h : Int) : t_net_Of n s h = tfix (ofF n) bigN ⟨0, noT, [] ++ [⟨s, h⟩]⟩ := by
 unfold t_net_Of t_net_Begin
 simp only [Option.bind_some, bind_some_id]
 rfl
structure InvW (n : T_Net) (l : List T_Hop) : Prop where
 walk : ∀ i a b, l[i]? = some a → l[i + 1]? = some b → (kd n a).1 = 0 ∧ (kd n a).2.2 = b
 nodup : l.Nodup
 ok : ∀ y ∈ l, hopOk n y
 len : l.length ≤ 24
structure Fin_ (n : T_Net) (f : T_Fate) (l : List T_Hop) (x : T_Hop) : Prop where
 hops : f.Hops = l ++ [x]
 inv : InvW n (l ++ [x])
 ends : ((kd n x).1 ≠ 0 ∧ f.How = (kd n x).1 ∧ f.Host = if (kd n x).1 = 1 then (kd n x).2.1 else noT) ∨ ((kd n x).1 = 0 ∧ f.How = 4 ∧ f.Host = noT)
theorem run_ex {n : T_Net} (hn : netGood n) : ∀ (d : Nat) (l : List T_Hop) (x : T_Hop) (N : Nat), (l ++ [x]).length + d = 24 → d < N → InvW n (l ++ [x]) → ∃ f q z m, tfix (ofF n) N ⟨0, noT, l ++ [x]⟩ = some f ∧ Fin_ n f q z ∧ q ++ [z] = l ++ [x] ++ m := by
 intro d
 induction d with
 | zero =>
  intro l x N hd hN hI
  obtain ⟨N, rfl⟩ : ∃ M, N = M + 1 := ⟨N - 1, by omega⟩
  rw [show tfix (ofF n) (N + 1) ⟨0, noT, l ++ [x]⟩ = ofF n (tfix (ofF n) N) ⟨0, noT, l ++ [x]⟩ from rfl, ofF_step hn _ l (hI.ok x (by simp)) hI.len]
  unfold goV
  by_cases h0 : (kd n x).1 = 0
  ·have h24 : (kd n x).2.2 ∈ l ++ [x] ∨ 24 ≤ (l ++ [x]).length := .inr (by omega)
   rw [if_pos h0, if_pos h24]
   exact ⟨_, l, x, [], rfl, ⟨rfl, hI, .inr ⟨h0, rfl, rfl⟩⟩, by simp⟩
  ·rw [if_neg h0]
   exact ⟨_, l, x, [], rfl, ⟨rfl, hI, .inl ⟨h0, rfl, rfl⟩⟩, by simp⟩
 | succ d ih =>
  intro l x N hd hN hI
  obtain ⟨N, rfl⟩ : ∃ M, N = M + 1 := ⟨N - 1, by omega⟩
  rw [show tfix (ofF n) (N + 1) ⟨0, noT, l ++ [x]⟩ = ofF n (tfix (ofF n) N) ⟨0, noT, l ++ [x]⟩ from rfl, ofF_step hn _ l (hI.ok x (by simp)) hI.len]
  unfold goV
  by_cases h0 : (kd n x).1 = 0
  ·rw [if_pos h0]
   by_cases h1 : (kd n x).2.2 ∈ l ++ [x] ∨ 24 ≤ (l ++ [x]).length
   ·rw [if_pos h1]
    exact ⟨_, l, x, [], rfl, ⟨rfl, hI, .inr ⟨h0, rfl, rfl⟩⟩, by simp⟩
   ·rw [if_neg h1]
    simp only [not_or, Nat.not_le] at h1
    simp only [if_true]
    have hok := (kd_ok hn (hI.ok x (by simp))).1 h0
    have hI2 : InvW n (l ++ [x] ++ [(kd n x).2.2]) := by
     refine ⟨fun i a b ha hb => ?_, ?_, fun y hy => ?_, by rw [List.length_append]; simp only [List.length_singleton]; omega⟩
     ·by_cases hi : i + 1 < (l ++ [x]).length
      ·rw [List.getElem?_append_left (by omega)] at ha
       rw [List.getElem?_append_left hi] at hb
       exact hI.walk i a b ha hb
      ·have hi2 := (List.getElem?_eq_some_iff.1 hb).1
       rw [List.length_append, List.length_singleton] at hi2
       have ei : i + 1 = (l ++ [x]).length := by omega
       rw [ei, List.getElem?_append_right (Nat.le_refl _), Nat.sub_self] at hb
       simp only [List.getElem?_cons_zero, Option.some.injEq] at hb
       have ei2 : i = l.length := by simp at ei; omega
       rw [ei2, List.append_assoc, List.getElem?_append_right (Nat.le_refl _), Nat.sub_self] at ha
       simp only [List.cons_append, List.getElem?_cons_zero, Option.some.injEq] at ha
       subst ha
       exact ⟨h0, hb⟩
     ·rw [List.nodup_append]
      exact ⟨hI.nodup, by simp, fun a ha b hb => by simp only [List.mem_singleton] at hb; subst hb; exact fun e => h1.1 (by rw [← e]; exact ha)⟩
     ·rcases List.mem_append.1 hy with h | h
      ·exact hI.ok y h
      ·simp only [List.mem_singleton] at h; subst h; exact hok
    obtain ⟨f, q, z, m, e1, e2, e3⟩ := ih (l ++ [x]) (kd n x).2.2 N (by rw [List.length_append]; simp only [List.length_singleton]; omega) (by omega) hI2
    exact ⟨f, q, z, (kd n x).2.2 :: m, e1, e2, by rw [e3]; simp⟩
  ·rw [if_neg h0]
   exact ⟨_, l, x, [], rfl, ⟨rfl, hI, .inl ⟨h0, rfl, rfl⟩⟩, by simp⟩
def spotsOf (l : List T_Link) : List T_Spot := l.flatMap fun x => [x.A, x.B]
noncomputable def fateV (n : T_Net) (x : T_Host) (h : Int) : T_Fate := (t_net_Of n x.At h).getD ⟨0, noT, []⟩
theorem s_rHost (T : T_Topo) (s : T_Spot) : t_railref1_Host T s = t_slices_IndexFunc_api_Host_api_Host T.Hosts (fun a => t_topo_Host_1 a s) := rfl
theorem s_rPeer (T : T_Topo) (s : T_Spot) : t_railref1_Peer T s = t_topo_Other T s := by
 unfold t_railref1_Peer t_topo_Other
 simp only [join_eq]
 refine loopI_sim (fun _ _ _ _ => True) trivial (fun _ _ _ _ => rfl) (fun i x l s t k k' _ hk => ?_)
 rw [hk s t trivial]
 simp only [eq_comm]
theorem s_Out2 {t : List T_Rule} (ht : tblGood t) (hk : ∀ r ∈ t, r.chk = 0) (at_ : T_Spot) {h : Int} (hh : 0 ≤ h ∧ h < 16) : ∃ i, t_railref1_Find t h = some i ∧
  (((i < 0 ∨ ∃ r, 0 ≤ i ∧ idx t i = some r ∧ r.Out = 0) ∧ t_net_Out t at_ h = some (⟨0, 0⟩, 0, false)) ∨
   ∃ r, 0 ≤ i ∧ idx t i = some r ∧ r.Out ≠ 0 ∧ ∃ x, t_railref1_Turned r h = some x ∧ t_net_Out t at_ h = some (⟨at_.Switch, r.Out⟩, x, true)) := by
 obtain ⟨i, e1, e2⟩ := s_Find t h ht.1
 refine ⟨i, by rw [s_rFind t hk h hh, e1], ?_⟩
 unfold t_net_Out
 rw [e1]
 simp only [Option.bind_some]
 by_cases hi : i < 0
 ·exact .inl ⟨.inl hi, by simp [hi, gd]⟩
 ·obtain ⟨r, hr, hm, _⟩ := idx_some (l := t) (i := i) (by omega) (by omega)
  simp only [hr, hi, decide_false, Bool.not_false, gd_true, Option.bind_some, Bool.false_or]
  by_cases ho : r.Out = 0
  ·exact .inl ⟨.inr ⟨r, by omega, rfl, ho⟩, by simp [ho]⟩
  ·exact .inr ⟨r, by omega, rfl, ho, _, s_Turned (hk r hm) hh, by simp [ho]⟩
theorem s_host2 {n : T_Net} (hn : netGood n) (s : T_Spot) : ∃ i, t_railref1_Host n.Topo s = some i ∧ ((i < 0 ∧ (hostV n.Topo s).2 = false) ∨ (0 ≤ i ∧ ∃ h, idx n.Topo.Hosts i = some h ∧ h ∈ n.Topo.Hosts ∧ hostV n.Topo s = (h.Name, true))) := by
 obtain ⟨i, e1, e2⟩ := s_IndexHost n.Topo.Hosts hn.topo.nh (fun a4 => decide (a4.At = s)) _ (fun x => (rfl : t_topo_Host_1 x s = some (decide (x.At = s))))
 refine ⟨i, by rw [s_rHost]; exact e1, ?_⟩
 unfold hostV t_topo_Host
 rw [e1]
 simp only [Option.bind_some]
 by_cases hi : i < 0
 ·exact .inl ⟨hi, by simp [hi]⟩
 ·obtain ⟨x, hx, hm, _⟩ := idx_some (l := n.Topo.Hosts) (i := i) (by omega) (by omega)
  exact .inr ⟨by omega, x, hx, hm, by simp [hi, hx]⟩
theorem again_eq (l : List T_Hop) (y : T_Hop) (hl : (l.length : Int) ≤ maxI) (b : Bool) : loopI l (fun (i113 : Int) x114 (s109 : Bool) k110 => k110 (s109 || (decide (x114 = y)))) (fun (s109 : Bool) => some (s109)) b = some (b || decide (y ∈ l)) := by
 rw [loopI_eq hl]
 have : ∀ (l : List T_Hop) (i : Int) (b : Bool), goI (fun (i113 : Int) x114 (s109 : Bool) k110 => k110 (s109 || (decide (x114 = y)))) (fun (s109 : Bool) => some (s109)) i l b = some (b || decide (y ∈ l)) := by
  intro l
  induction l with
  | nil => intro i b; simp [goI]
  | cons x l ih =>
   intro i b
   rw [goI]
   show goI _ _ (i + 1) l (b || decide (x = y)) = _
   rw [ih]
   by_cases e : x = y
   ·simp [e]
   ·have e' : ¬ y = x := fun h => e h.symm
    simp [e, e']
 exact this l 0 b
theorem s_rGo {n : T_Net} (hn : netGood n) (hc : t_net_Check n = some 0) (l : List T_Hop) {x : T_Hop} (hx : hopOk n x) (hl : (l ++ [x]).length ≤ 24) : t_railref1_Go n.Topo (tblV n x) ⟨0, noT, l ++ [x]⟩ = some ((goV n l x).2, (goV n l x).1) := by
 have hM : maxI = 9223372036854775807 := rfl
 have hl2 : l.length ≤ 100 := by simp at hl; omega
 have htm : tblV n x ∈ n.Tables := by
  have h1 := hn.topo.sw
  obtain ⟨h2, h3, _⟩ := hx.at_
  have hll := hn.len
  obtain ⟨t, e1, e2, _⟩ := idx_some (l := n.Tables) (i := x.At.Switch - 1) (by omega) (by omega)
  unfold tblV
  rw [e1]
  exact e2
 obtain ⟨i, f1, f2⟩ := s_Out2 (s_tbl hn hx.at_).2 (tab_rules (net_tabs hc hn _ htm)) x.At hx.hd
 have ho := (s_out hn hx).1
 unfold t_railref1_Go
 simp only [idx_last l x hl2, Option.bind_some, f1]
 unfold goV kd
 rcases f2 with ⟨g1, g2⟩ | ⟨r, i0, ir, rO, z, tz, g2⟩
 ·rw [g2] at ho
  have ho := Option.some.inj ho
  rw [← ho]
  rcases g1 with hi | ⟨r, i0, ir, rO⟩
  ·simp [hi, gd]
  ·have : ¬ i < 0 := by omega
   simp [this, gd, ir, rO]
 ·rw [g2] at ho
  have ho := Option.some.inj ho
  rw [← ho]
  have hi : ¬ i < 0 := by omega
  simp only [hi, decide_false, Bool.not_false, gd_true, ir, Option.bind_some, rO, Bool.or_self, Bool.false_eq_true, if_false, if_true]
  obtain ⟨j, h1, h2⟩ := s_host2 hn ⟨x.At.Switch, r.Out⟩
  rw [h1]
  simp only [Option.bind_some]
  rcases h2 with ⟨hj, hv⟩ | ⟨hj, hh, k1, _, k2⟩
  ·have hj2 : ¬ 0 ≤ j := by omega
   simp only [hv, hj2, decide_false, Bool.false_eq_true, if_false, s_rPeer, (s_other hn _).1, Option.bind_some]
   by_cases h3 : (otherV n.Topo ⟨x.At.Switch, r.Out⟩).2 = true
   ·simp only [h3, Bool.not_true, Bool.false_eq_true, if_false, if_true, Option.bind_some, tz]
    rw [again_eq _ _ (by omega)]
    simp only [Option.bind_some]
    generalize (⟨(otherV n.Topo ⟨x.At.Switch, r.Out⟩).1, z⟩ : T_Hop) = y
    by_cases h4 : y ∈ l ++ [x] ∨ 24 ≤ (l ++ [x]).length
    ·have : (decide (24 ≤ ((l ++ [x]).length : Int)) || decide (y ∈ l ++ [x])) = true := by
      rcases h4 with h | h
      ·simp only [Bool.or_eq_true, decide_eq_true_eq]; exact .inr h
      ·simp only [Bool.or_eq_true, decide_eq_true_eq]; left; omega
     rw [if_pos this, if_pos h4]
    ·have : ¬ (decide (24 ≤ ((l ++ [x]).length : Int)) || decide (y ∈ l ++ [x])) = true := by
      simp only [Bool.or_eq_true, decide_eq_true_eq]
      intro h
      exact h4 (h.symm.elim .inl fun h => .inr (by omega))
     rw [if_neg this, if_neg h4, app_eq (by simp at hl ⊢; omega)]
     simp only [Option.bind_some, List.nil_append]
     rw [app_eq (by simp at hl ⊢; omega)]
     rfl
   ·simp [h3]
  ·simp [hj, k1, k2]
noncomputable def frF (n : T_Net) (k19 : T_Fate × Bool → Option T_Fate) (s18 : T_Fate × Bool) : Option T_Fate :=
 if s18.2 = true then (
 (idx s18.1.Hops (wr ((List.length s18.1.Hops : Int) - 1))).bind fun r29 =>
 (idx n.Tables (wr (r29.At.Switch - 1))).bind fun r37 =>
 (t_railref1_Go n.Topo r37 s18.1).bind fun r41 =>
 k19 (r41.1, r41.2)) else (
 some (s18.1))
theorem frF_step {n : T_Net} (hn : netGood n) (hc : t_net_Check n = some 0) (k : T_Fate × Bool → Option T_Fate) (l : List T_Hop) {x : T_Hop} (hx : hopOk n x) (hl : (l ++ [x]).length ≤ 24) : frF n k (⟨0, noT, l ++ [x]⟩, true) = k ((goV n l x).2, (goV n l x).1) := by
 unfold frF
 simp only [if_true, idx_last l x (by simp at hl; omega), Option.bind_some, (s_tbl hn hx.at_).1, s_rGo hn hc l hx hl]
theorem frF_end {n : T_Net} {N : Nat} (h : 0 < N) (f : T_Fate) : tfix (frF n) N (f, false) = some f := by
 obtain ⟨N, rfl⟩ : ∃ M, N = M + 1 := ⟨N - 1, by omega⟩
 rfl
theorem run2 {n : T_Net} (hn : netGood n) (hc : t_net_Check n = some 0) : ∀ (d : Nat) (l : List T_Hop) (x : T_Hop) (N N2 : Nat), (l ++ [x]).length + d = 24 → d < N → d + 1 < N2 → hopOk n x → tfix (frF n) N2 (⟨0, noT, l ++ [x]⟩, true) = tfix (ofF n) N ⟨0, noT, l ++ [x]⟩ := by
 intro d
 induction d with
 | zero =>
  intro l x N N2 hd hN hN2 hx
  obtain ⟨N, rfl⟩ : ∃ M, N = M + 1 := ⟨N - 1, by omega⟩
  obtain ⟨N2, rfl⟩ : ∃ M, N2 = M + 1 := ⟨N2 - 1, by omega⟩
  rw [show tfix (ofF n) (N + 1) ⟨0, noT, l ++ [x]⟩ = ofF n (tfix (ofF n) N) ⟨0, noT, l ++ [x]⟩ from rfl, ofF_step hn _ l hx (by omega)]
  rw [show tfix (frF n) (N2 + 1) (⟨0, noT, l ++ [x]⟩, true) = frF n (tfix (frF n) N2) (⟨0, noT, l ++ [x]⟩, true) from rfl, frF_step hn hc _ l hx (by omega)]
  have hg : (goV n l x).1 = false := by
   unfold goV
   have h24 : (kd n x).2.2 ∈ l ++ [x] ∨ 24 ≤ (l ++ [x]).length := .inr (by omega)
   by_cases h0 : (kd n x).1 = 0
   ·rw [if_pos h0, if_pos h24]
   ·rw [if_neg h0]
  rw [hg, frF_end (by omega)]
  rfl
 | succ d ih =>
  intro l x N N2 hd hN hN2 hx
  obtain ⟨N, rfl⟩ : ∃ M, N = M + 1 := ⟨N - 1, by omega⟩
  obtain ⟨N2, rfl⟩ : ∃ M, N2 = M + 1 := ⟨N2 - 1, by omega⟩
  rw [show tfix (ofF n) (N + 1) ⟨0, noT, l ++ [x]⟩ = ofF n (tfix (ofF n) N) ⟨0, noT, l ++ [x]⟩ from rfl, ofF_step hn _ l hx (by omega)]
  rw [show tfix (frF n) (N2 + 1) (⟨0, noT, l ++ [x]⟩, true) = frF n (tfix (frF n) N2) (⟨0, noT, l ++ [x]⟩, true) from rfl, frF_step hn hc _ l hx (by omega)]
  by_cases hg : (goV n l x).1 = true
  ·rw [hg, if_pos rfl]
   have hv : (kd n x).1 = 0 ∧ (goV n l x).2 = ⟨0, noT, l ++ [x] ++ [(kd n x).2.2]⟩ := by
    unfold goV at hg ⊢
    by_cases h0 : (kd n x).1 = 0
    ·rw [if_pos h0] at hg ⊢
     split at hg
     ·cases hg
     ·rename_i h1
      rw [if_neg h1]
      exact ⟨h0, rfl⟩
    ·rw [if_neg h0] at hg
     cases hg
   rw [hv.2]
   exact ih (l ++ [x]) (kd n x).2.2 N N2 (by rw [List.length_append]; simp only [List.length_singleton]; omega) (by omega) (by omega) ((kd_ok hn hx).1 hv.1)
  ·have hg : (goV n l x).1 = false := by simpa using hg
   rw [hg, frF_end (by omega)]
   rfl
theorem s_rFrom {n : T_Net} (hn : netGood n) (hc : t_net_Check n = some 0) {s : T_Spot} {h : Int} (hs : spotOk n.Topo s) (hh : 0 ≤ h ∧ h < 16) : ∃ f, t_railref1_From n s h = some f ∧ t_net_Of n s h = some f ∧ f.Hops.length ≤ 24 := by
 obtain ⟨f, q, z, m, h1, h2, h3⟩ := run_ex hn 23 [] ⟨s, h⟩ bigN rfl (Nat.lt_trans (by decide) bigN_gt) ⟨fun i a b _ hb => by simp at hb, by simp, fun y hy => by simp at hy; subst hy; exact ⟨hs, hh⟩, by simp⟩
 refine ⟨f, ?_, by rw [s_Of, h1], by rw [h2.hops]; exact h2.inv.len⟩
 unfold t_railref1_From
 rw [bind_some_id]
 show tfix (frF n) bigN (⟨0, noT, [] ++ [⟨s, h⟩]⟩, true) = _
 rw [run2 hn hc 23 [] ⟨s, h⟩ bigN bigN rfl (Nat.lt_trans (by decide) bigN_gt) (Nat.lt_trans (by decide) bigN_gt) ⟨hs, hh⟩, h1]
theorem s_Error (x y : Int) : t_railsame_Error x y = some (decide (x = y)) := rfl
def fitV (w : T_Wish) (from_ : ByteArray) (f : T_Fate) : Bool :=
 if w.What = 4 then decide (f.How ≠ 4)
 else if ¬ from_ = w.From then true
 else if w.What = 1 then decide (f.How = 1) && decide (f.Host = w.To)
 else if w.What = 2 then !(decide (f.How = 1) && decide (f.Host = w.To))
 else if w.What = 3 then !(decide (f.How = 1) && decide (f.Host = w.To)) || f.Hops.any fun h => decide (h.At.Switch = w.Via)
 else true
theorem s_anyHop (l : List T_Hop) (hl : (l.length : Int) ≤ maxI) (w : T_Wish) : t_slices_ContainsFunc_api_Hop_api_Hop l (fun a52 => t_wish_Fits_1 a52 w) = some (l.any fun h => decide (h.At.Switch = w.Via)) := by
 unfold t_slices_ContainsFunc_api_Hop_api_Hop
 have : ∃ j, t_slices_IndexFunc_api_Hop_api_Hop l (fun a52 => t_wish_Fits_1 a52 w) = some j ∧ decide (0 ≤ j) = l.any fun h => decide (h.At.Switch = w.Via) := by
  unfold t_slices_IndexFunc_api_Hop_api_Hop
  simp only [join_eq]
  refine loopI_ex (fun i m _ => 0 ≤ i ∧ (l.any fun h => decide (h.At.Switch = w.Via)) = m.any fun h => decide (h.At.Switch = w.Via)) hl ⟨Int.le_refl _, rfl⟩ (fun i s hI => ⟨-1, rfl, by rw [hI.2]; rfl⟩) (fun i y m s k hI hk => ?_)
  simp only [t_wish_Fits_1, Option.bind_some]
  obtain ⟨i0, i1⟩ := hI
  rw [List.any_cons] at i1
  cases hb : decide (y.At.Switch = w.Via) with
  | true => exact ⟨i, rfl, by rw [i1, hb]; simpa using i0⟩
  | false =>
   rw [if_neg (by decide)]
   exact hk () ⟨by omega, by rw [i1, hb]; rfl⟩
 obtain ⟨j, e1, e2⟩ := this
 rw [e1, Option.bind_some, e2]
theorem s_Fits (w : T_Wish) (from_ : ByteArray) (f : T_Fate) (hl : (f.Hops.length : Int) ≤ maxI) : t_wish_Fits w from_ f = some (fitV w from_ f) := by
 unfold t_wish_Fits fitV
 by_cases h1 : w.What = 4
 ·simp [h1]
 by_cases h2 : from_ = w.From
 ·by_cases h3 : w.What = 1
  ·simp [h2, h3]
  by_cases h4 : w.What = 2
  ·simp [h2, h4]
  by_cases h5 : w.What = 3
  ·simp only [h5, h2, decide_true, Bool.not_true, Bool.false_eq_true, if_false, if_true, not_true_eq_false, if_neg (show ¬ (3 : Int) = 4 by decide), if_neg (show ¬ (3 : Int) = 1 by decide), if_neg (show ¬ (3 : Int) = 2 by decide), decide_eq_true_eq]
   rw [s_anyHop _ hl]
   cases (decide (f.How = 1) && decide (f.Host = w.To)) <;> simp [gd]
  ·simp [h1, h2, h3, h4, h5]
 ·simp [h1, h2]
theorem s_anyFate (f : T_Fate) (w : T_Wish) (x : T_Host) (hl : (f.Hops.length : Int) ≤ maxI) : t_slices_ContainsFunc_api_Fate_api_Fate [f] (fun a101 => t_wish_Seek_1 a101 w x) = some (!fitV w x.Name f) := by
 unfold t_slices_ContainsFunc_api_Fate_api_Fate t_slices_IndexFunc_api_Fate_api_Fate
 simp only [join_eq]
 rw [loopI_eq (by have : maxI = 9223372036854775807 := rfl; simp; omega)]
 simp only [goI, t_wish_Seek_1, s_Fits w x.Name f hl, Option.bind_some]
 cases fitV w x.Name f <;> rfl
theorem s_rFits (w : T_Wish) (from_ : ByteArray) (f : T_Fate) (hl : (f.Hops.length : Int) ≤ maxI) : t_railref1_Fits w from_ f = some (fitV w from_ f) := by
 unfold t_railref1_Fits fitV
 by_cases h1 : w.What = 4
 ·simp [h1]
 by_cases h2 : from_ = w.From
 ·by_cases h3 : w.What = 1
  ·simp [h2, h3]
  by_cases h4 : w.What = 2
  ·simp [h2, h4]
  by_cases h5 : w.What = 3
  ·rw [if_neg (show ¬ decide (w.What = 4) = true by simpa using h1), if_neg (show ¬ (!decide (from_ = w.From)) = true by simp [h2]), if_neg (show ¬ decide (w.What = 1) = true by simpa using h3), if_neg (show ¬ decide (w.What = 2) = true by simpa using h4), if_neg h1, if_neg (not_not_intro h2), if_neg h3, if_neg h4, if_pos h5]
   cases ht : (decide (f.How = 1) && decide (f.Host = w.To)) with
   | false => rw [if_pos (by simp)]; rfl
   | true =>
    rw [if_neg (by simp [h5]), join_eq, loopI_eq hl, goI_any (p := fun x => decide (x.At.Switch = w.Via)) (r := true) f.Hops 0 (fun x _ i k => rfl)]
    cases (f.Hops.any fun x => decide (x.At.Switch = w.Via)) <;> rfl
  ·simp [h1, h2, h3, h4, h5]
 ·simp [h1, h2]
section
variable {α β γ σ : Type} {R : Option β → Option γ → Prop}
theorem goI_rel {step : Int → α → σ → (σ → Option β) → Option β} {step' : Int → α → σ → (σ → Option γ) → Option γ} {fin : σ → Option β} {fin' : σ → Option γ} (hf : ∀ s, R (fin s) (fin' s)) : ∀ (l : List α) (i : Int) (s : σ), (∀ x ∈ l, ∀ i s k k', (∀ s, R (k s) (k' s)) → R (step i x s k) (step' i x s k')) → R (goI step fin i l s) (goI step' fin' i l s)
 | [], i, s, _ => hf s
 | x :: l, i, s, h => h x (by simp) i s _ _ fun s' => goI_rel hf l (i + 1) s' fun y hy => h y (by simp [hy])
theorem goU_rel {step : Int → σ → (σ → Option β) → Option β} {step' : Int → σ → (σ → Option γ) → Option γ} {fin : Int → σ → Option β} {fin' : Int → σ → Option γ} (hf : ∀ i s, R (fin i s) (fin' i s)) : ∀ (m : Nat) (i : Int) (s : σ), (∀ j s k k', i ≤ j → j < i + m → (∀ s, R (k s) (k' s)) → R (step j s k) (step' j s k')) → R (goU step fin m i s) (goU step' fin' m i s)
 | 0, i, s, _ => hf i s
 | m + 1, i, s, h => h i s _ _ (Int.le_refl _) (by omega) fun s' => goU_rel hf m (i + 1) s' fun j s k k' h1 h2 => h j s k k' (by omega) (by omega)
theorem goU_skip {step : Int → σ → (σ → Option β) → Option β} {fin : Int → σ → Option β} : ∀ (m : Nat) (i : Int) (s : σ), (∀ j s k, i ≤ j → j < i + m → step j s k = k s) → goU step fin m i s = fin (i + m) s
 | 0, i, s, _ => by rw [goU]; simp
 | m + 1, i, s, h => by
  rw [goU, h i s _ (Int.le_refl _) (by omega), goU_skip m (i + 1) s fun j s k h1 h2 => h j s k (by omega) (by omega)]
  congr 1
  omega
end
def RH (o o' : Option (T_PProof × Bool)) : Prop := ∃ p b, o = some (p, b) ∧ o' = some (p, !b)
theorem s_rHolds {n : T_Net} (hn : netGood n) (hc : t_net_Check n = some 0) (l : List T_Wish) (hl : l.length ≤ 1048576) : RH (t_railref1_Holds n l) (t_wish_Seek n.Topo l (fun a21 a22 => t_wish_Holds_1 a21 a22 n)) := by
 have hM : maxI = 9223372036854775807 := rfl
 have hnh := hn.topo.nh
 unfold t_railref1_Holds t_wish_Seek
 simp only [join_eq]
 rw [loopI_eq (by omega), loopI_eq (by omega)]
 refine goI_rel (R := RH) (fun s => ⟨_, _, rfl, rfl⟩) l 0 _ (fun w hw i s k k' hk => ?_)
 rw [loopI_eq (by omega), loopI_eq (by omega)]
 refine goI_rel (R := RH) (fun s => hk s) n.Topo.Hosts 0 _ (fun x hx j s k k' hk => ?_)
 have hsp := (hn.topo.hosts x hx).2
 rw [loopU_eq (by decide) (by rw [hM]; decide), loopU_eq (by decide) (by rw [hM]; decide)]
 by_cases hskip : (decide (w.What ≠ 4) && !decide (x.Name = w.From)) = true
 ·rw [if_pos hskip, goU_skip (16 - 0 : Int).toNat 0 () (fun q u k h0 h1 => ?_)]
  ·exact hk s
  ·obtain ⟨f, f1, _, f3⟩ := s_rFrom hn hc hsp (h := q) ⟨h0, by simpa using h1⟩
   rw [f1, Option.bind_some, s_rFits w x.Name f (by omega), Option.bind_some]
   have : fitV w x.Name f = true := by
    simp only [ne_eq, Bool.and_eq_true, decide_eq_true_eq, Bool.not_eq_true', decide_eq_false_iff_not] at hskip
    unfold fitV
    rw [if_neg hskip.1, if_pos hskip.2]
   rw [this, if_neg (by decide)]
 ·rw [if_neg hskip]
  refine goU_rel (R := RH) (fun _ _ => hk s) (16 - 0 : Int).toNat 0 () (fun q u k k' h0 h1 hk => ?_)
  obtain ⟨f, f1, f2, f3⟩ := s_rFrom hn hc hsp (h := q) ⟨h0, by simpa using h1⟩
  have hg : t_wish_Holds_1 x q n = some [f] := by
   unfold t_wish_Holds_1
   rw [f2]
   rfl
  rw [f1, Option.bind_some, s_rFits w x.Name f (by omega), Option.bind_some, hg, Option.bind_some, s_anyFate f w x (by omega), Option.bind_some]
  cases fitV w x.Name f with
  | false => exact ⟨_, _, rfl, rfl⟩
  | true => exact hk ()
theorem s_rNamed (T : T_Topo) (s : ByteArray) : t_railref1_Named T s = t_slices_IndexFunc_api_Host_api_Host T.Hosts (fun a => t_topo_Where_1 a s) := rfl
theorem whereV {T : T_Topo} (hg : topoGood T) (hc : t_topo_Check T = some 0) (nm : ByteArray) : ∃ i r, t_railref1_Named T nm = some i ∧ t_topo_Where T nm = some (r, if i < 0 then 5 else 0) := by
 obtain ⟨i, e1, e2⟩ := s_IndexHost T.Hosts hg.nh (fun a4 => decide (a4.Name = nm)) _ (fun x => (rfl : t_topo_Where_1 x nm = some (decide (x.Name = nm))))
 unfold t_topo_Where
 rw [hc, e1]
 simp only [Option.bind_some, decide_true, Bool.not_true, Bool.false_eq_true, if_false]
 by_cases hi : i < 0
 ·exact ⟨i, ⟨0, 0⟩, by rw [s_rNamed]; exact e1, by simp [hi]⟩
 ·obtain ⟨x, hx, hm, _⟩ := idx_some (l := T.Hosts) (i := i) (by omega) (by omega)
  exact ⟨i, x.At, by rw [s_rNamed]; exact e1, by simp [hi, hx]⟩
theorem one_doc {T : T_Topo} (hg : topoGood T) (hc : t_topo_Check T = some 0) (x : T_Wish) (k : Unit → Option Int) :
  ((some ((((decide (x.What < 1)) || (decide (4 < x.What))) || ((decide (x.What = 3)) && ((decide (x.Via < 1)) || (decide (T.Switches < x.Via))))) || ((decide (x.What ≠ 3)) && (decide (x.Via ≠ 0))))).bind fun r110 =>
 if r110 = true then (
 some 1) else (
 if (decide (x.What = 4)) = true then (
 if ((!decide (x.From = (ByteArray.mk #[]))) || (!decide (x.To = (ByteArray.mk #[])))) = true then (
 some 3) else (
 k ())) else (
 (t_railref1_Named T x.From).bind fun r130 =>
 (gd (!(decide (r130 < 0))) default (t_railref1_Named T x.To)).bind fun r143 =>
 if ((decide (r130 < 0)) || (decide (r143 < 0))) = true then (
 some 5) else (
 k ())))) = ((t_wish_one T x).bind fun r35 => if (!decide (r35 = 0)) = true then (some r35) else (k ())) := by
 have hM : maxI = 9223372036854775807 := rfl
 have hk : t_wish_kind x.What = some (decide (1 ≤ x.What) && decide (x.What ≤ 4)) := rfl
 unfold t_wish_one
 rw [hk, Option.bind_some, Option.bind_some]
 by_cases h1 : 1 ≤ x.What ∧ x.What ≤ 4
 ·have b1 : (decide (1 ≤ x.What) && decide (x.What ≤ 4)) = true := by simp [h1]
  have b2 : decide (x.What < 1) = false := by simp; omega
  have b3 : decide (4 < x.What) = false := by simp; omega
  rw [b1, b2, b3]
  simp only [Bool.or_self, Bool.false_or, Bool.not_true, Bool.false_eq_true, if_false]
  generalize hq : (decide (x.What = 3) && (decide (x.Via < 1) || decide (T.Switches < x.Via))) = q
  cases q with
  | true => simp
  | false =>
   simp only [Bool.false_or, Bool.false_eq_true, if_false, Option.bind_some]
   generalize hr : (decide (x.What ≠ 3) && decide (x.Via ≠ 0)) = r
   cases r with
   | true => simp
   | false =>
    simp only [Bool.false_eq_true, if_false]
    by_cases h4 : x.What = 4
    ·rw [decide_eq_true h4]
     simp only [if_true, Bool.true_and]
     generalize ((!decide (x.From = (ByteArray.mk #[]))) || (!decide (x.To = (ByteArray.mk #[])))) = z
     cases z <;> simp
    ·rw [decide_eq_false h4]
     simp only [Bool.false_eq_true, if_false, Bool.false_and, join_eq]
     obtain ⟨i, r1, f1, f2⟩ := whereV hg hc x.From
     obtain ⟨j, r2, g1, g2⟩ := whereV hg hc x.To
     rw [loopI_eq (by rw [hM]; simp), goI, f2, f1, g1]
     simp only [Option.bind_some]
     by_cases hi : i < 0
     ·simp [hi, gd]
     ·simp only [hi, if_false, decide_false, Bool.not_false, gd_true, Option.bind_some, decide_true, Bool.not_true, Bool.false_eq_true, Bool.false_or]
      rw [goI, g2]
      simp only [Option.bind_some]
      by_cases hj : j < 0
      ·simp [hj]
      ·simp [hj, goI]
 ·have b1 : (decide (1 ≤ x.What) && decide (x.What ≤ 4)) = false := by
   cases h : decide (1 ≤ x.What) && decide (x.What ≤ 4) with
   | false => rfl
   | true => exact absurd (by simpa using h) h1
  have b2 : (decide (x.What < 1) || decide (4 < x.What)) = true := by
   have : x.What < 1 ∨ 4 < x.What := by omega
   rcases this with h | h <;> simp [h]
  rw [b1, b2]
  simp
theorem one_some {T : T_Topo} (hg : topoGood T) (hc : t_topo_Check T = some 0) (x : T_Wish) : ∃ c, t_wish_one T x = some c := by
 have h := one_doc hg hc x (fun _ => some 0)
 cases ho : t_wish_one T x with
 | some c => exact ⟨c, rfl⟩
 | none =>
  exfalso
  rw [ho, Option.bind_none, Option.bind_some] at h
  obtain ⟨i, r1, f1, _⟩ := whereV hg hc x.From
  obtain ⟨j, r2, g1, _⟩ := whereV hg hc x.To
  rw [f1, g1] at h
  simp only [Option.bind_some] at h
  split at h
  ·cases h
  ·split at h
   ·split at h
    ·cases h
    ·cases h
   ·cases hi : decide (i < 0) with
    | true => rw [hi] at h; simp [gd] at h
    | false =>
     rw [hi] at h
     simp only [Bool.not_false, gd_true, Option.bind_some] at h
     split at h <;> cases h
theorem s_Wishes (T : T_Topo) (hn : ∀ h ∈ T.Hosts, (h.Name.size : Int) ≤ maxI) (l : List T_Wish) : t_railref1_Wishes T l = t_wish_Check T l := by
 unfold t_railref1_Wishes t_wish_Check
 rw [s_rTopo T hn]
 obtain ⟨c, h1, h2⟩ := s_topoCheck T hn
 rw [h1, Option.bind_some, Option.bind_some]
 by_cases h0 : c = 0
 ·subst h0
  rw [if_neg (show ¬ decide ((0 : Int) ≠ 0) = true by simp), if_neg (show ¬ (!decide ((0 : Int) = 0)) = true by simp)]
  congr 1
  simp only [join_eq]
  congr 1
  funext i x s k
  exact one_doc (h2 rfl) h1 x k
 ·rw [if_pos (show decide (c ≠ 0) = true by simpa using h0), if_pos (show (!decide (c = 0)) = true by simpa using h0)]
theorem s_Wishes_some (T : T_Topo) (hn : ∀ h ∈ T.Hosts, (h.Name.size : Int) ≤ maxI) (l : List T_Wish) : ∃ c, t_wish_Check T l = some c := by
 have hM : maxI = 9223372036854775807 := rfl
 unfold t_wish_Check
 obtain ⟨c, h1, h2⟩ := s_topoCheck T hn
 rw [h1, Option.bind_some]
 by_cases h0 : c = 0
 ·subst h0
  rw [if_neg (by simp)]
  split
  ·exact ⟨_, rfl⟩
  ·rename_i h8
   rw [join_eq, loopI_eq (by simp at h8; omega)]
   have : ∀ (l : List T_Wish) (i : Int), ∃ c, goI (fun (i23 : Int) x24 (s19 : Unit) k20 => (t_wish_one T x24).bind fun r35 => if (!decide (r35 = 0)) = true then (some r35) else (k20 ())) (fun (s19 : Unit) => some (0 : Int)) i l () = some c := by
    intro l
    induction l with
    | nil => intro i; exact ⟨_, rfl⟩
    | cons x l ih =>
     intro i
     obtain ⟨c, hc⟩ := one_some (h2 rfl) h1 x
     rw [goI, hc, Option.bind_some]
     split
     ·exact ⟨_, rfl⟩
     ·exact ih _
   exact this l 0
 ·rw [if_pos (by simpa using h0)]; exact ⟨_, rfl⟩
theorem holds_doc (n : T_Net) (hn : ∀ h ∈ n.Topo.Hosts, (h.Name.size : Int) ≤ maxI) (l : List T_Wish) (hl : l.length ≤ 1048576) : ∃ p e c, t_wish_Holds n l = some (p, e) ∧
  ((t_railref1_Net n).bind fun r44 => (if (decide (r44 = 0)) = true then ((t_railref1_Wishes n.Topo l).bind fun r164 => some (r164)) else (some (r44)))) = some c ∧
  ((if (decide (c = 0)) = true then (
 (t_railref1_Holds n l).bind fun r148 =>
 (if (!r148.2) = true then (
 some (9)) else (
 some (c))).bind fun (s157 : Int) =>
 some (s157, r148.1)) else (
 some (c, (T_PProof.mk 0 (ByteArray.mk #[]) 0)))) = some (e, p)) := by
 obtain ⟨c, h1, h2⟩ := s_netCheck n hn
 unfold t_wish_Holds
 rw [s_rNet n hn, h1, Option.bind_some, Option.bind_some]
 by_cases h0 : c = 0
 ·subst h0
  obtain ⟨c2, g1⟩ := s_Wishes_some n.Topo hn l
  rw [if_neg (by simp), if_pos (by simp), s_Wishes n.Topo hn l, g1, Option.bind_some, Option.bind_some]
  by_cases h3 : c2 = 0
  ·subst h3
   obtain ⟨p, b, k1, k2⟩ := s_rHolds (h2 rfl) h1 l hl
   rw [if_neg (by simp), k2, Option.bind_some]
   cases b with
   | false => exact ⟨p, 9, 0, rfl, rfl, by rw [if_pos (by simp), k1]; rfl⟩
   | true => exact ⟨p, 0, 0, rfl, rfl, by rw [if_pos (by simp), k1]; rfl⟩
  ·rw [if_pos (by simpa using h3)]
   exact ⟨_, c2, c2, rfl, rfl, by rw [if_neg (by simpa using h3)]⟩
 ·rw [if_pos (by simpa using h0), if_neg (by simpa using h0)]
  exact ⟨_, c, c, rfl, rfl, by rw [if_neg (by simpa using h0)]⟩
theorem walk_WT (n : T_Net) (l : List T_Wish) (w : T_Wish) (s from_ : ByteArray) (f : T_Fate) (u0 : n.wf 1048576) (u1 : wL 1048576 (fun x => T_Wish.wf 1048576 x) l) (u2 : w.wf 1048576) (u3 : wS 1048576 s) (_ : wS 1048576 from_) (u5 : f.wf 1048576) : t_raillaw1_WishTells n l w s from_ f = some true := by
 have hM : maxI = 9223372036854775807 := rfl
 have hn : ∀ h ∈ n.Topo.Hosts, (h.Name.size : Int) ≤ maxI := fun h hh => by
  have := (u0.1.2.2.2 h hh).1
  unfold wS at this
  omega
 have hE : ∀ x y : Int, t_railsame_Error x y = some (decide (x = y)) := fun _ _ => rfl
 obtain ⟨c0, hc0⟩ := s_Wishes_some n.Topo hn l
 obtain ⟨x, ok, p1, p2⟩ := s_ReadWish s u3
 obtain ⟨p, e, c, q1, q2, q3⟩ := holds_doc n hn l u1.1
 have z1 : w.From.size ≤ 1048576 := u2.2.1
 have z2 : w.To.size ≤ 1048576 := u2.2.2.1
 have hp : t_wish_Print w = some (wpS w, wpE w) := if_pos ⟨by omega, by omega⟩
 have hops : (f.Hops.length : Int) ≤ maxI := by have := u5.2.2.1; omega
 unfold t_raillaw1_WishTells
 rw [hc0, Option.bind_some, s_Wishes n.Topo hn l, hc0, Option.bind_some, hE, Option.bind_some, s_ShowWish w z1 z2, Option.bind_some, hp, Option.bind_some, hE, Option.bind_some, p1, Option.bind_some]
 have hr : (if (!ok) = true then some ((2 : Int), wNo) else some (0, x)) = some (if ok = true then (0, x) else (2, wNo)) := by cases ok <;> rfl
 refine (congrArg (fun o => Option.bind o _) hr).trans ?_
 rw [Option.bind_some, p2, Option.bind_some, hE, Option.bind_some]
 obtain ⟨r44, n1, n2⟩ := Option.bind_eq_some_iff.1 q2
 rw [s_Wishes n.Topo hn l, hc0] at n2
 rw [n1, Option.bind_some, n2, Option.bind_some, q3, Option.bind_some, q1, Option.bind_some, hE, Option.bind_some]
 have hF : ∀ (b : Bool) (K : Bool → Option Bool), ∃ v, (gd b default (t_wish_Fits w from_ f)).bind K = K v ∧ gd b default (t_railref1_Fits w from_ f) = some v := fun b K => by
  cases b with
  | false => exact ⟨_, rfl, rfl⟩
  | true => rw [gd_true, gd_true, s_Fits w from_ f hops, s_rFits w from_ f hops]; exact ⟨_, rfl, rfl⟩
 obtain ⟨v, v1, v2⟩ := hF (!((decide (w.What < 1)) || (decide (4 < w.What)))) _
 rw [v1, v2, Option.bind_some]
 cases ok <;> simp
end Go.Proofs.YtilbgbhpdjjliaaGreatDoor.Ty
