/- What wish.Print, rule.Number, the document's Digits and slices.Index of the words come to: walks, and the shelf. -/
import Derived.Test.YtilbgbhpdjjliaaGreatDoorShelfT
import Derived.Test.YtilbgbhpdjjliaaGreatDoorPlain
import Derived.Test.YtilbgbhpdjjliaaGreatDoorQuiet
import Derived.Test.YtilbgbhpdjjliaaGreatDoorCube
import Derived.Test.YtilbgbhpdjjliaaGreatDoorSBase
import Derived.Shelf.Strconv.AtoiAll
import Derived.Lib.SmallJoins
import Derived.Lib.AppendIntMem
import Derived.WalkKit
import Derived.WalkSpells
import Derived.Test.YtilbgbhpdjjliaaGreatDoorTy
import Derived.Shelf.Slices.Turned
import Derived.Test.YtilbgbhpdjjliaaGreatDoorTyA0
import Derived.Test.YtilbgbhpdjjliaaGreatDoorTyT
namespace Go.Proofs.YtilbgbhpdjjliaaGreatDoor
open Go Go.RowKit Go.Proofs.YtilbgbhpdjjliaaGreatDoor.Den Go.Proofs.YtilbgbhpdjjliaaGreatDoor.Ty
set_option linter.unusedSimpArgs false
set_option linter.unusedVariables false
set_option maxRecDepth 100000
def itoaZ (z : Int) : ByteArray := ⟨(Lib.itoa z).toArray⟩
def numV (s : ByteArray) : Int := match Lib.atoiAll s.data.toList with
 | .ok v => v
 | .range => Lib.atoiSat s.data.toList
 | _ => 0
def numB (s : ByteArray) : Bool := match Lib.atoiAll s.data.toList with
 | .ok v => decide (0 ≤ v) && (decide (s.size ≤ 9) && decide (itoaZ v = s))
 | _ => false
theorem itoaZ_any (z : Int) (h0 : -9223372036854775808 ≤ z) (h1 : z ≤ 9223372036854775807) (w : World) (hd : DW w) : Calls Tryz.prog 40 #[.int .i64 z] w fun e w' => e = .returned (.string (itoaZ z)) ∧ Below w.heap.size w w' :=
 (Any.strconv_Itoa lItoa z h0 h1 w hd.tab).mono fun e w' ⟨he, k, os, hw⟩ => ⟨he, hw ▸ Lib.below_grow _ _ (Nat.le_refl _) k os⟩
theorem atoi_ok (s : ByteArray) (v : Int) (hs : s.size ≤ 281474976710656) (h : Lib.atoiAll s.data.toList = .ok v) (w : World) : Calls Tryz.prog 78 #[.string s] w fun e w' => e = .returned (.tuple #[.int .i64 v, .nilIface]) ∧ Below w.heap.size w w' :=
 (Any.strconv_Atoi_ok lAtoi s (by omega) v h w).mono fun e w' ⟨he, hw⟩ => ⟨he, by
  rcases hw with rfl | ⟨t, rfl⟩
  ·exact Below.refl _ _
  ·exact Joins.below_bytesWorld _ _ _ _ (Nat.le_refl _)⟩
theorem atoi_bad (s : ByteArray) (hs : s.size ≤ 281474976710656) (h : ∀ v, Lib.atoiAll s.data.toList ≠ .ok v) (w : World) (hd : DW w) : Calls Tryz.prog 78 #[.string s] w fun e w' => ∃ N, e = .returned (.tuple #[.int .i64 (numV s), .iface 210 (.pointer (some ⟨N, 0, none⟩))]) ∧ Below w.heap.size w w' := by
 cases ha : Lib.atoiAll s.data.toList with
 | ok v => exact absurd ha (h v)
 | range =>
  obtain ⟨tp, p, hv⟩ := hd.rng
  exact (Any.strconv_Atoi_range lAtoi s hs ha _ w hv (.inr ⟨tp, p, rfl⟩)).mono fun e w' ⟨N, he, _, _, hb⟩ => ⟨N, by rw [he]; unfold numV; rw [ha]; rfl, hb⟩
 | _ =>
  obtain ⟨tp, p, hv⟩ := hd.syn
  exact (Any.strconv_Atoi_syntax lAtoi s hs ha _ w hv (.inr ⟨tp, p, rfl⟩)).mono fun e w' ⟨N, he, _, _, hb⟩ => ⟨N, by rw [he]; unfold numV; rw [ha]; rfl, hb⟩
set_option maxHeartbeats 1600000 in
theorem num_bad (s : ByteArray) (hs : s.size ≤ 281474976710656) (h : ∀ v, Lib.atoiAll s.data.toList ≠ .ok v) (w : World) (hd : DW w) :
  Calls Tryz.prog 61 #[.string s] w fun e w' => e = .returned (.tuple #[.int .i64 (numV s), .bool false]) ∧ Below w.heap.size w w' := by
 have H := Lib.hid (atoi_bad s hs h)
 have HD := Lib.hid hd
 clear hd h
 generalize numV s = n at H ⊢
 go_enter Tryz.func61, Tryz.ntmps61
 go_wp2_with (first | (go_at_call 78; refine (H.out _ (stb _ _ HD.out (by go_grown))).mono ?_; rintro e w' ⟨N, rfl, hb⟩; obtain ⟨hc, hf⟩ := bcell hb; have hz := hb.size; have hB := bstep (w := w) (by go_grown) hb) | fail)
 all_goals refine bodyPost_ret (v := .tuple #[.int .i64 n, .bool false]) (by simp [results, Tryz.results61, go_sem, hc, hz]) rfl ?_
 all_goals exact ⟨rfl, by go_grown⟩
set_option maxHeartbeats 1600000 in
theorem num_neg (s : ByteArray) (v : Int) (hs : s.size ≤ 281474976710656) (h : Lib.atoiAll s.data.toList = .ok v) (h0 : (decide (0 ≤ v) && decide (s.size ≤ 9)) = false) (w : World) (hd : DW w) :
  Calls Tryz.prog 61 #[.string s] w fun e w' => e = .returned (.tuple #[.int .i64 v, .bool false]) ∧ Below w.heap.size w w' := by
 have H := Lib.hid (atoi_ok s v hs h)
 have HB := Lib.hid h0
 have HD := Lib.hid hd
 clear hd h h0
 go_enter Tryz.func61, Tryz.ntmps61
 go_wp2_with (first | (go_at_call 78; refine (H.out _).mono ?_; rintro e w' ⟨rfl, hb⟩; obtain ⟨hc, hf⟩ := bcell hb; have hz := hb.size; (try simp at hz); (try have y1 := Nat.lt_of_succ_le hz); (try have y2 := Nat.lt_of_succ_lt y1); (try have y3 := Nat.lt_of_succ_lt y2); have hB := bstep (w := w) (by go_grown) hb; (try have z0 : w.heap.size < w'.heap.size := by omega); (try have z1 : w.heap.size + 1 < w'.heap.size := by omega); (try have z2 : w.heap.size + 1 + 1 < w'.heap.size := by omega); (try have z3 : w.heap.size + 1 + 1 + 1 < w'.heap.size := by omega)) | fail)
 all_goals first | (exfalso; have hb := HB.out; simp only [Bool.and_eq_false_iff, decide_eq_false_iff_not] at hb; omega) | (refine bodyPost_ret (v := .tuple #[.int .i64 v, .bool false]) (by simp [results, Tryz.results61, go_sem, hc, hz]) rfl ?_; exact ⟨rfl, by go_grown⟩)
theorem atoi_range {l : List UInt8} {v : Int} (h : Lib.atoiAll l = .ok v) : -9223372036854775808 ≤ v ∧ v ≤ 9223372036854775807 := by
 unfold Lib.atoiAll at h
 split at h
 ·cases h
 ·simp only at h
  split at h
  ·cases h
  ·cases h
  ·rename_i u hu
   split at h
   ·cases h
   ·rename_i h1
    split at h
    ·cases h
    ·rename_i h2
     injection h with h
     split at h
     ·rename_i hn
      have : ¬ 9223372036854775808 < u := fun hx => h2 ⟨hn, hx⟩
      omega
     ·rename_i hn
      have : ¬ 9223372036854775808 ≤ u := fun hx => h1 ⟨hn, hx⟩
      omega
set_option maxHeartbeats 1600000 in
theorem num_ok (s : ByteArray) (v : Int) (hs : s.size ≤ 281474976710656) (h : Lib.atoiAll s.data.toList = .ok v) (h0 : 0 ≤ v) (h9 : s.size ≤ 9) (w : World) (hd : DW w) :
  Calls Tryz.prog 61 #[.string s] w fun e w' => e = .returned (.tuple #[.int .i64 v, .bool (decide (itoaZ v = s))]) ∧ Below w.heap.size w w' := by
 have H := Lib.hid (atoi_ok s v hs h)
 have HI := Lib.hid (itoaZ_any v (atoi_range h).1 (atoi_range h).2)
 have HS : ((itoaZ v).toList == s.toList) = decide (itoaZ v = s) := str_beq _ _
 have HD := Lib.hid hd
 clear hd h
 generalize itoaZ v = q at HI HS ⊢
 go_enter Tryz.func61, Tryz.ntmps61
 go_wp2_with (first | (go_at_call 78; refine (H.out _).mono ?_; rintro e w' ⟨rfl, hb⟩; obtain ⟨hc, hf⟩ := bcell hb; have hz := hb.size; (try simp at hz); (try have y1 := Nat.lt_of_succ_le hz); (try have y2 := Nat.lt_of_succ_lt y1); (try have y3 := Nat.lt_of_succ_lt y2); have hB := bstep (w := w) (by go_grown) hb; (try have z0 : w.heap.size < w'.heap.size := by omega); (try have z1 : w.heap.size + 1 < w'.heap.size := by omega); (try have z2 : w.heap.size + 1 + 1 < w'.heap.size := by omega); (try have z3 : w.heap.size + 1 + 1 + 1 < w'.heap.size := by omega)) | (go_at_call 40; refine (HI.out _ (stb _ _ HD.out (by go_grown))).mono ?_; rintro e w' ⟨rfl, hb⟩; obtain ⟨hc, hf⟩ := bcell hb; have hz := hb.size; (try simp at hz); (try have y1 := Nat.lt_of_succ_le hz); (try have y2 := Nat.lt_of_succ_lt y1); (try have y3 := Nat.lt_of_succ_lt y2); have hB := bstep (w := w) (by go_grown) hb; (try have z0 : w.heap.size < w'.heap.size := by omega); (try have z1 : w.heap.size + 1 < w'.heap.size := by omega); (try have z2 : w.heap.size + 1 + 1 < w'.heap.size := by omega); (try have z3 : w.heap.size + 1 + 1 + 1 < w'.heap.size := by omega)) | fail)
 rw [← HS]
 all_goals refine bodyPost_ret (v := .tuple #[.int .i64 v, .bool (q.toList == s.toList)]) (by simp [results, Tryz.results61, go_sem, hc, hz]) rfl ?_
 all_goals exact ⟨rfl, by go_grown⟩
theorem number_any (s : ByteArray) (hs : s.size ≤ 281474976710656) (w : World) (hd : DW w) :
  Calls Tryz.prog 61 #[.string s] w fun e w' => e = .returned (.tuple #[.int .i64 (numV s), .bool (numB s)]) ∧ Below w.heap.size w w' := by
 cases ha : Lib.atoiAll s.data.toList with
 | ok v =>
  have hv : numV s = v := by unfold numV; rw [ha]
  rw [hv]
  cases h0 : decide (0 ≤ v) && decide (s.size ≤ 9) with
  | false =>
   rw [show numB s = false by unfold numB; rw [ha]; simp only [← Bool.and_assoc, h0, Bool.false_and]]
   exact num_neg s v hs ha h0 w hd
  | true =>
   rw [show numB s = decide (itoaZ v = s) by unfold numB; rw [ha]; simp only [← Bool.and_assoc, h0, Bool.true_and]]
   simp only [Bool.and_eq_true, decide_eq_true_eq] at h0
   exact num_ok s v hs ha h0.1 h0.2 w hd
 | range =>
  rw [show numB s = false by unfold numB; rw [ha]]
  exact num_bad s hs (fun v h => by rw [ha] at h; cases h) w hd
 | _ =>
  rw [show numB s = false by unfold numB; rw [ha]]
  exact num_bad s hs (fun v h => by rw [ha] at h; cases h) w hd
end Go.Proofs.YtilbgbhpdjjliaaGreatDoor
namespace Go.Proofs.YtilbgbhpdjjliaaGreatDoor.Ty
open Go Go.RowKit Go.Proofs.YtilbgbhpdjjliaaGreatDoor Go.Proofs.YtilbgbhpdjjliaaGreatDoor.Den
def sem_Number (xs : List V) : Option V := match xs with
 | [.lit (.string s)] => if s.size ≤ 281474976710656 then some (.tup [vi (numV s), vb (numB s)]) else none
 | _ => none
theorem ok_Number : SemOk Tryz.prog DW 61 sem_Number := fun xs y hy => by
 unfold sem_Number at hy
 split at hy
 ·rename_i s
  split at hy
  ·rename_i h
   obtain rfl := Option.some.inj hy
   refine ⟨⟨_, Tryz.func61, by kernel_rfl, by kernel_rfl⟩, fun w M vs hd hM hrel => ?_⟩
   have e2 : vs = #[.string s] := by
    have e := valsL_rel (us := [.string s]) rfl hrel
    apply Array.toList_inj.1; simpa using e
   rw [e2]
   refine (number_any s h w hd).mono fun en w' ⟨he, hb⟩ => ⟨_, M, he, grow_below hM hb, .tup _ _ rfl fun i z hz => ?_⟩
   match i, hz with
   | 0, hz => cases hz; exact .lit _ rfl
   | 1, hz => cases hz; exact .lit _ rfl
  ·cases hy
 ·cases hy
def t_rule_Number (s : ByteArray) : Option (Int × Bool) := if s.size ≤ 281474976710656 then some (numV s, numB s) else none
theorem ty_rule_Number (s : ByteArray) : Rv (fun x : Int × Bool => V.tup [(vi x.1), (vb x.2)]) (sem_Number [vt s]) (t_rule_Number s) := fun b hb => by
 unfold t_rule_Number at hb
 split at hb
 ·rename_i h
  cases hb
  show (if _ then _ else _) = _
  rw [if_pos h]
 ·cases hb
end Go.Proofs.YtilbgbhpdjjliaaGreatDoor.Ty
namespace Go.Proofs.YtilbgbhpdjjliaaGreatDoor
open Go Go.RowKit Go.Proofs.YtilbgbhpdjjliaaGreatDoor.Den Go.Proofs.YtilbgbhpdjjliaaGreatDoor.Ty
set_option linter.unusedSimpArgs false
set_option linter.unusedVariables false
set_option maxRecDepth 100000
def tenB : ByteArray := ⟨#[48, 49, 50, 51, 52, 53, 54, 55, 56, 57]⟩
def dig1 (n : Int) : ByteArray := tenB.extract n.toNat (n + 1).toNat
def digB (n : Int) : ByteArray := if n < 10 then dig1 n else dig1 (n / 10) ++ dig1 (n % 10)
set_option maxHeartbeats 1600000 in
theorem digits_one (n : Int) (h0 : 0 ≤ n) (h1 : n < 10) (w : World) :
  Calls Tryz.prog 37 #[.int .i64 n] w fun e w' => e = .returned (.string (dig1 n)) ∧ Below w.heap.size w w' := by
 have H0 := h0
 have H1 := h1
 go_enter Tryz.func37, Tryz.ntmps37
 go_wp2
 go_ret
 refine ⟨?_, by go_grown⟩
 rfl
theorem dig1_size (n : Int) : (dig1 n).size ≤ 10 := by
 unfold dig1
 rw [ByteArray.size_extract]
 have : tenB.size = 10 := rfl
 omega
set_option maxHeartbeats 1600000 in
theorem digits_two (n : Int) (h0 : 10 ≤ n) (h1 : n < 100) (w : World) :
  Calls Tryz.prog 37 #[.int .i64 n] w fun e w' => e = .returned (.string (dig1 (n / 10) ++ dig1 (n % 10))) ∧ Below w.heap.size w w' := by
 have H := Lib.hid (digits_one (n / 10) (by omega) (by omega))
 have HZ := dig1_size (n / 10)
 have R0 : 0 ≤ n % 10 := by omega
 have R1 : n % 10 < 10 := by omega
 go_enter Tryz.func37, Tryz.ntmps37
 go_wp2_with (first | (go_at_call 37; refine (H.out _).mono ?_; rintro e w' ⟨rfl, hb⟩; obtain ⟨hc, hf⟩ := bcell hb; have hz := hb.size; (try simp at hz); (try have y1 := Nat.lt_of_succ_le hz); (try have y2 := Nat.lt_of_succ_lt y1); (try have y3 := Nat.lt_of_succ_lt y2); have hB := bstep (w := w) (by go_grown) hb; (try have z0 : w.heap.size < w'.heap.size := by omega); (try have z1 : w.heap.size + 1 < w'.heap.size := by omega); (try have z2 : w.heap.size + 1 + 1 < w'.heap.size := by omega); (try have z3 : w.heap.size + 1 + 1 + 1 < w'.heap.size := by omega)) | fail)
 all_goals first | (exfalso; omega) | go_ret
 refine ⟨?_, by go_grown⟩
 rfl
theorem digits_any (n : Int) (h0 : 0 ≤ n) (h1 : n < 100) (w : World) :
  Calls Tryz.prog 37 #[.int .i64 n] w fun e w' => e = .returned (.string (digB n)) ∧ Below w.heap.size w w' := by
 unfold digB
 split
 ·exact digits_one n h0 (by omega) w
 ·exact digits_two n (by omega) h1 w
end Go.Proofs.YtilbgbhpdjjliaaGreatDoor
namespace Go.Proofs.YtilbgbhpdjjliaaGreatDoor.Ty
open Go Go.RowKit Go.Proofs.YtilbgbhpdjjliaaGreatDoor Go.Proofs.YtilbgbhpdjjliaaGreatDoor.Den
def sem_Digits (xs : List V) : Option V := match xs with
 | [.lit (.int .i64 n)] => if 0 ≤ n ∧ n < 100 then some (vt (digB n)) else none
 | _ => none
theorem ok_Digits : SemOk Tryz.prog DW 37 sem_Digits := fun xs y hy => by
 unfold sem_Digits at hy
 split at hy
 ·rename_i n
  split at hy
  ·rename_i h
   obtain rfl := Option.some.inj hy
   exact scalls_vals ⟨_, Tryz.func37, by kernel_rfl, by kernel_rfl⟩ rfl rfl fun w hd => digits_any n h.1 h.2 w
  ·cases hy
 ·cases hy
def t_Digits (n : Int) : Option ByteArray := if 0 ≤ n ∧ n < 100 then some (digB n) else none
theorem ty_Digits (n : Int) : Rv vt (sem_Digits [vi n]) (t_Digits n) := fun b hb => by
 unfold t_Digits at hb
 split at hb
 ·rename_i h
  cases hb
  show (if _ then _ else _) = _
  rw [if_pos h]
 ·cases hb
end Go.Proofs.YtilbgbhpdjjliaaGreatDoor.Ty
namespace Go.Proofs.YtilbgbhpdjjliaaGreatDoor.Ty
open Go Go.RowKit Go.Proofs.YtilbgbhpdjjliaaGreatDoor Go.Proofs.YtilbgbhpdjjliaaGreatDoor.Den
def sem_WIndex (xs : List V) : Option V := match xs with
 | [.lit (.slice (some ⟨b, o, none⟩) 5 5), .lit (.string s)] => if b = 0 ∧ o = 0 then some (vi (Lib.idxOfS wordsL s)) else none
 | _ => none
theorem ok_WIndex : SemOk Tryz.prog DW 60 sem_WIndex := fun xs y hy => by
 unfold sem_WIndex at hy
 split at hy
 ·rename_i b o s
  split at hy
  ·rename_i h
   obtain ⟨rfl, rfl⟩ := h
   obtain rfl := Option.some.inj hy
   exact scalls_vals (us := [.slice (some ⟨0, 0, none⟩) 5 5, .string s]) ⟨_, Tryz.func60, by kernel_rfl, by kernel_rfl⟩ rfl rfl fun w hd =>
    (Any.slices_Index_string lIndex 0 0 5 5 wordsL s w (by decide) (by decide) (fun j hj => by rw [Nat.zero_add]; exact words_of hd j hj)).mono fun e w' ⟨he, hw⟩ => ⟨he, hw ▸ Below.refl _ _⟩
  ·cases hy
 ·cases hy
def t_WIndex (_ : Unit) (s : ByteArray) : Option Int := some (Lib.idxOfS wordsL s)
theorem ty_WIndex (u : Unit) (s : ByteArray) : Rv vi (sem_WIndex [.lit (.slice (some ⟨0, 0, none⟩) 5 5), vt s]) (t_WIndex u s) := fun b hb => by
 cases hb
 rfl
end Go.Proofs.YtilbgbhpdjjliaaGreatDoor.Ty
namespace Go.Proofs.YtilbgbhpdjjliaaGreatDoor
open Go Go.RowKit Go.Proofs.YtilbgbhpdjjliaaGreatDoor.Den Go.Proofs.YtilbgbhpdjjliaaGreatDoor.Ty
set_option linter.unusedSimpArgs false
set_option linter.unusedVariables false
set_option maxRecDepth 100000
theorem wkind_any (z : Int) (w : World) (hd : DW w) : Calls Tryz.prog 58 #[.int .i64 z] w fun e w' => e = .returned (.bool (decide (1 ≤ z) && decide (z ≤ 4))) ∧ Below w.heap.size w w' := by
 have h := ok_wish_kind bigN [vi z] (vb (decide (1 ≤ z) && decide (z ≤ 4))) (ty_wish_kind (Nat.le_refl _) z _ rfl)
 exact scalls_use (us := [.int .i64 z]) h (fun i x hx => by
  match i, hx with
  | 0, hx => cases hx; exact .lit _ rfl) rfl rfl w hd
theorem name_any (s : ByteArray) (b : Bool) (hs : t_topo_Name s = some b) (w : World) (hd : DW w) : Calls Tryz.prog 59 #[.string s] w fun e w' => e = .returned (.bool b) ∧ Below w.heap.size w w' := by
 have h := ok_topo_Name bigN [vt s] (vb b) (ty_topo_Name (Nat.le_refl _) s _ hs)
 exact scalls_use (us := [.string s]) h (fun i x hx => by
  match i, hx with
  | 0, hx => cases hx; exact .lit _ rfl) rfl rfl w hd
theorem itoa_any (z : Int) (h : 0 ≤ z ∧ z < 100) (w : World) (hd : DW w) : Calls Tryz.prog 40 #[.int .i64 z] w fun e w' => e = .returned (.string (itoaS z.toNat)) ∧ Below w.heap.size w w' := by
 have h := ok_Itoa [vi z] (vt (itoaS z.toNat)) (ty_Itoa z _ (by unfold t_Itoa; rw [if_pos h]))
 exact scalls_use (us := [.int .i64 z]) h (fun i x hx => by
  match i, hx with
  | 0, hx => cases hx; exact .lit _ rfl) rfl rfl w hd
theorem dw_at {w w' : World} (hd : DW w) (hb : Below w.heap.size w w') : DW w' := stb w w' hd hb
theorem toList_nil {s : ByteArray} (h : s.toList = []) : s = ⟨#[]⟩ := (str_iff s ⟨#[]⟩).mp (h.trans (by decide +kernel))
abbrev wArg (k via : Int) (fr tt : ByteArray) : Value := .agg #[.int .i64 k, .string fr, .string tt, .int .i64 via]
abbrev wRes (s : ByteArray) (e : Value) (w w' : World) (en : Ending) : Prop := en = .returned (.tuple #[.string s, e]) ∧ Below w.heap.size w w'
abbrev wErr (e : Int) : Value := .iface 86 (.int .i64 e)
theorem no_four {via : Int} {fr tt : ByteArray} (h : ¬ (via = 0 ∧ fr = ⟨#[]⟩ ∧ tt = ⟨#[]⟩)) (h1 : via = 0) (h2 : fr.toList = []) (h3 : (!tt.toList.isEmpty) = false) : False := h ⟨h1, toList_nil h2, toList_nil (by simpa using h3)⟩
theorem no_name {a b : Bool} (h : (a && b) = false) (h1 : a = true) (h2 : (!b) = false) : False := by subst h1; simp at h2 h; rw [h2] at h; cases h
theorem itoaS_lt {n : Nat} (h : n < 100) : itoaS n = if n < 10 then ⟨#[UInt8.ofNat (48 + n)]⟩ else ⟨#[UInt8.ofNat (48 + n / 10), UInt8.ofNat (48 + n % 10)]⟩ := by
 unfold itoaS
 rw [Lib.decDigits]
 by_cases h1 : n < 10
 ·rw [dif_pos h1, if_pos h1]
 ·rw [dif_neg h1, if_neg h1, Lib.decDigits, dif_pos (show n / 10 < 10 by omega)]; rfl
theorem itoa_size {n : Nat} (h : n < 100) : (itoaS n).size ≤ 2 := by
 rw [itoaS_lt h]
 split
 ·exact Nat.le_succ 1
 ·exact Nat.le_refl 2
theorem itoa6 {z : Int} (h1 : 1 ≤ z) (h2 : z ≤ 6) : (itoaS z.toNat).size ≤ 10 := Nat.le_trans (itoa_size (by omega)) (by omega)
noncomputable def nameB (s : ByteArray) : Bool := (!(numsOf s).any fun x => decide (x < 97) || decide (122 < x)) && (!decide (s = ⟨#[]⟩)) && decide ((s.size : Int) ≤ 6)
theorem s_NameB (s : ByteArray) (h : (s.size : Int) ≤ maxI) : t_topo_Name s = some (nameB s) := by
 unfold t_topo_Name
 rw [need_pos (decide_eq_true h), join_eq, loopI_eq (by rw [numsOf_len]; exact h), goI_any (p := fun x => decide (x < 97) || decide (122 < x)) (r := false) (numsOf s) 0 (fun x _ i k => rfl)]
 unfold nameB
 cases h : (numsOf s).any fun x => decide (x < 97) || decide (122 < x)
 ·simp
 ·simp
theorem nameB_size {s : ByteArray} (h : nameB s = true) : s.size ≤ 6 := by
 unfold nameB at h
 simp only [Bool.and_eq_true, decide_eq_true_eq] at h
 have := h.2
 omega
theorem names_any (fr tt : ByteArray) (h1 : t_topo_Name fr = some (nameB fr)) (h2 : t_topo_Name tt = some (nameB tt)) (s : ByteArray) (hs : s = fr ∨ s = tt) (w : World) (hd : DW w) : Calls Tryz.prog 59 #[.string s] w fun e w' => e = .returned (.bool (nameB s)) ∧ Below w.heap.size w w' := by
 rcases hs with rfl | rfl
 ·exact name_any _ _ h1 w hd
 ·exact name_any _ _ h2 w hd
set_option maxHeartbeats 1600000 in
theorem wp_kind (k via : Int) (fr tt : ByteArray) (hk : (decide (1 ≤ k) && decide (k ≤ 4)) = false) (w : World) (hd : DW w) :
  Calls Tryz.prog 25 #[.agg #[.int .i64 k, .string fr, .string tt, .int .i64 via]] w fun e w' => e = .returned (.tuple #[.string ⟨#[]⟩, wErr 1]) ∧ Below w.heap.size w w' := by
 have H := Lib.hid (fun w (hd : DW w) => by have := wkind_any k w hd; rw [hk] at this; exact this)
 have HD := Lib.hid hd
 clear hd hk
 go_enter Tryz.func25, Tryz.ntmps25
 go_wp2_with (first | (go_at_call 58; refine (H.out _ (dw_at HD.out (by go_grown))).mono ?_; rintro e w' ⟨rfl, hb⟩; obtain ⟨hc, hf⟩ := bcell hb; have hz := hb.size; (try simp at hz); (try have y1 := Nat.lt_of_succ_le hz); (try have y2 := Nat.lt_of_succ_lt y1); (try have y3 := Nat.lt_of_succ_lt y2); have hB := bstep (w := w) (by go_grown) hb; (try have z0 : w.heap.size < w'.heap.size := by omega); (try have z1 : w.heap.size + 1 < w'.heap.size := by omega); (try have z2 : w.heap.size + 1 + 1 < w'.heap.size := by omega); (try have z3 : w.heap.size + 1 + 1 + 1 < w'.heap.size := by omega)) | fail)
 all_goals refine bodyPost_ret (v := .tuple #[.string ⟨#[]⟩, wErr 1]) (by simp [results, Tryz.results25, go_sem, hc, hz]) rfl ?_
 all_goals exact ⟨rfl, by go_grown⟩
set_option maxHeartbeats 1600000 in
theorem wp_four_ok (w : World) (hd : DW w) :
  Calls Tryz.prog 25 #[.agg #[.int .i64 4, .string ⟨#[]⟩, .string ⟨#[]⟩, .int .i64 0]] w fun e w' => e = .returned (.tuple #[.string (wordsL.getD 4 ⟨#[]⟩), .nilIface]) ∧ Below w.heap.size w w' := by
 have hlt := dw_lt hd
 have g4 : w.cell? ⟨0, 4, none⟩ = some (.string (wordsL.getD 4 ⟨#[]⟩)) := words_of hd 4 (by omega)
 have HD := Lib.hid hd
 clear hd 
 generalize wordsL.getD 4 ⟨#[]⟩ = q at g4 ⊢
 go_enter Tryz.func25, Tryz.ntmps25
 go_wp2_with (first | (go_at_call 58; refine (wkind_any _ _ (dw_at HD.out (by go_grown))).mono ?_; rintro e w' ⟨rfl, hb⟩; obtain ⟨hc, hf⟩ := bcell hb; have hz := hb.size; (try simp at hz); (try have y1 := Nat.lt_of_succ_le hz); (try have y2 := Nat.lt_of_succ_lt y1); (try have y3 := Nat.lt_of_succ_lt y2); have hB := bstep (w := w) (by go_grown) hb; (try have z0 : w.heap.size < w'.heap.size := by omega); (try have z1 : w.heap.size + 1 < w'.heap.size := by omega); (try have z2 : w.heap.size + 1 + 1 < w'.heap.size := by omega); (try have z3 : w.heap.size + 1 + 1 + 1 < w'.heap.size := by omega)) | fail)
 all_goals refine bodyPost_ret (v := .tuple #[.string q, .nilIface]) (by simp [results, Tryz.results25, go_sem, hc, hz]) rfl ?_
 all_goals exact ⟨rfl, by go_grown⟩
set_option maxHeartbeats 1600000 in
theorem wp_four_bad (via : Int) (fr tt : ByteArray) (hb : ¬ (via = 0 ∧ fr = ⟨#[]⟩ ∧ tt = ⟨#[]⟩)) (w : World) (hd : DW w) :
  Calls Tryz.prog 25 #[.agg #[.int .i64 4, .string fr, .string tt, .int .i64 via]] w fun e w' => e = .returned (.tuple #[.string ⟨#[]⟩, wErr 3]) ∧ Below w.heap.size w w' := by
 have hlt := dw_lt hd
 have g4 : w.cell? ⟨0, 4, none⟩ = some (.string (wordsL.getD 4 ⟨#[]⟩)) := words_of hd 4 (by omega)
 have HB := Lib.hid hb
 have HD := Lib.hid hd
 clear hd hb
 generalize wordsL.getD 4 ⟨#[]⟩ = q at g4
 go_enter Tryz.func25, Tryz.ntmps25
 go_wp2_with (first | (go_at_call 58; refine (wkind_any _ _ (dw_at HD.out (by go_grown))).mono ?_; rintro e w' ⟨rfl, hb⟩; obtain ⟨hc, hf⟩ := bcell hb; have hz := hb.size; (try simp at hz); (try have y1 := Nat.lt_of_succ_le hz); (try have y2 := Nat.lt_of_succ_lt y1); (try have y3 := Nat.lt_of_succ_lt y2); have hB := bstep (w := w) (by go_grown) hb; (try have z0 : w.heap.size < w'.heap.size := by omega); (try have z1 : w.heap.size + 1 < w'.heap.size := by omega); (try have z2 : w.heap.size + 1 + 1 < w'.heap.size := by omega); (try have z3 : w.heap.size + 1 + 1 + 1 < w'.heap.size := by omega)) | fail)
 all_goals first | (exfalso; exact no_four HB.out (by assumption) (by assumption) (by assumption)) | (refine bodyPost_ret (v := .tuple #[.string ⟨#[]⟩, wErr 3]) (by simp [results, Tryz.results25, go_sem, hc, hz]) rfl ?_; exact ⟨rfl, by go_grown⟩)
set_option maxHeartbeats 1600000 in
theorem wp_1_name (via : Int) (fr tt : ByteArray) (h1 : t_topo_Name fr = some (nameB fr)) (h2 : t_topo_Name tt = some (nameB tt)) (hn : (nameB fr && nameB tt) = false) (w : World) (hd : DW w) :
  Calls Tryz.prog 25 #[.agg #[.int .i64 1, .string fr, .string tt, .int .i64 via]] w fun e w' => e = .returned (.tuple #[.string ⟨#[]⟩, wErr 2]) ∧ Below w.heap.size w w' := by
 have H := Lib.hid (names_any fr tt h1 h2)
 have HB := Lib.hid hn
 have HD := Lib.hid hd
 clear hd h1 h2 hn
 go_enter Tryz.func25, Tryz.ntmps25
 go_wp2_with (first | (go_at_call 58; refine (wkind_any _ _ (dw_at HD.out (by go_grown))).mono ?_; rintro e w' ⟨rfl, hb⟩; obtain ⟨hc, hf⟩ := bcell hb; have hz := hb.size; (try simp at hz); (try have y1 := Nat.lt_of_succ_le hz); (try have y2 := Nat.lt_of_succ_lt y1); (try have y3 := Nat.lt_of_succ_lt y2); have hB := bstep (w := w) (by go_grown) hb; (try have z0 : w.heap.size < w'.heap.size := by omega); (try have z1 : w.heap.size + 1 < w'.heap.size := by omega); (try have z2 : w.heap.size + 1 + 1 < w'.heap.size := by omega); (try have z3 : w.heap.size + 1 + 1 + 1 < w'.heap.size := by omega)) | (go_at_call 59; refine (H.out _ (by first | exact .inl rfl | exact .inr rfl) _ (dw_at HD.out (by go_grown))).mono ?_; rintro e w' ⟨rfl, hb⟩; obtain ⟨hc, hf⟩ := bcell hb; have hz := hb.size; (try simp at hz); (try have y1 := Nat.lt_of_succ_le hz); (try have y2 := Nat.lt_of_succ_lt y1); (try have y3 := Nat.lt_of_succ_lt y2); have hB := bstep (w := w) (by go_grown) hb; (try have z0 : w.heap.size < w'.heap.size := by omega); (try have z1 : w.heap.size + 1 < w'.heap.size := by omega); (try have z2 : w.heap.size + 1 + 1 < w'.heap.size := by omega); (try have z3 : w.heap.size + 1 + 1 + 1 < w'.heap.size := by omega)) | fail)
 all_goals first | (exfalso; exact no_name HB.out (by assumption) (by assumption)) | (refine bodyPost_ret (v := .tuple #[.string ⟨#[]⟩, wErr 2]) (by simp [results, Tryz.results25, go_sem, hc, hz]) rfl ?_; exact ⟨rfl, by go_grown⟩)
set_option maxHeartbeats 1600000 in
theorem wp_1_via (via : Int) (fr tt : ByteArray) (h1 : t_topo_Name fr = some (nameB fr)) (h2 : t_topo_Name tt = some (nameB tt)) (hn : nameB fr = true ∧ nameB tt = true) (hv : via ≠ 0) (w : World) (hd : DW w) :
  Calls Tryz.prog 25 #[.agg #[.int .i64 1, .string fr, .string tt, .int .i64 via]] w fun e w' => e = .returned (.tuple #[.string ⟨#[]⟩, wErr 3]) ∧ Below w.heap.size w w' := by
 have H := Lib.hid (fun s (hs : s = fr ∨ s = tt) w (hd : DW w) => by have := names_any fr tt h1 h2 s hs w hd; rw [show nameB s = true by rcases hs with rfl | rfl; exact hn.1; exact hn.2] at this; exact this)
 have HD := Lib.hid hd
 clear hd h1 h2 hn
 go_enter Tryz.func25, Tryz.ntmps25
 go_wp2_with (first | (go_at_call 58; refine (wkind_any _ _ (dw_at HD.out (by go_grown))).mono ?_; rintro e w' ⟨rfl, hb⟩; obtain ⟨hc, hf⟩ := bcell hb; have hz := hb.size; (try simp at hz); (try have y1 := Nat.lt_of_succ_le hz); (try have y2 := Nat.lt_of_succ_lt y1); (try have y3 := Nat.lt_of_succ_lt y2); have hB := bstep (w := w) (by go_grown) hb; (try have z0 : w.heap.size < w'.heap.size := by omega); (try have z1 : w.heap.size + 1 < w'.heap.size := by omega); (try have z2 : w.heap.size + 1 + 1 < w'.heap.size := by omega); (try have z3 : w.heap.size + 1 + 1 + 1 < w'.heap.size := by omega)) | (go_at_call 59; refine (H.out _ (by first | exact .inl rfl | exact .inr rfl) _ (dw_at HD.out (by go_grown))).mono ?_; rintro e w' ⟨rfl, hb⟩; obtain ⟨hc, hf⟩ := bcell hb; have hz := hb.size; (try simp at hz); (try have y1 := Nat.lt_of_succ_le hz); (try have y2 := Nat.lt_of_succ_lt y1); (try have y3 := Nat.lt_of_succ_lt y2); have hB := bstep (w := w) (by go_grown) hb; (try have z0 : w.heap.size < w'.heap.size := by omega); (try have z1 : w.heap.size + 1 < w'.heap.size := by omega); (try have z2 : w.heap.size + 1 + 1 < w'.heap.size := by omega); (try have z3 : w.heap.size + 1 + 1 + 1 < w'.heap.size := by omega)) | fail)
 all_goals refine bodyPost_ret (v := .tuple #[.string ⟨#[]⟩, wErr 3]) (by simp [results, Tryz.results25, go_sem, hc, hz]) rfl ?_
 all_goals exact ⟨rfl, by go_grown⟩
set_option maxHeartbeats 1600000 in
theorem wp_2_name (via : Int) (fr tt : ByteArray) (h1 : t_topo_Name fr = some (nameB fr)) (h2 : t_topo_Name tt = some (nameB tt)) (hn : (nameB fr && nameB tt) = false) (w : World) (hd : DW w) :
  Calls Tryz.prog 25 #[.agg #[.int .i64 2, .string fr, .string tt, .int .i64 via]] w fun e w' => e = .returned (.tuple #[.string ⟨#[]⟩, wErr 2]) ∧ Below w.heap.size w w' := by
 have H := Lib.hid (names_any fr tt h1 h2)
 have HB := Lib.hid hn
 have HD := Lib.hid hd
 clear hd h1 h2 hn
 go_enter Tryz.func25, Tryz.ntmps25
 go_wp2_with (first | (go_at_call 58; refine (wkind_any _ _ (dw_at HD.out (by go_grown))).mono ?_; rintro e w' ⟨rfl, hb⟩; obtain ⟨hc, hf⟩ := bcell hb; have hz := hb.size; (try simp at hz); (try have y1 := Nat.lt_of_succ_le hz); (try have y2 := Nat.lt_of_succ_lt y1); (try have y3 := Nat.lt_of_succ_lt y2); have hB := bstep (w := w) (by go_grown) hb; (try have z0 : w.heap.size < w'.heap.size := by omega); (try have z1 : w.heap.size + 1 < w'.heap.size := by omega); (try have z2 : w.heap.size + 1 + 1 < w'.heap.size := by omega); (try have z3 : w.heap.size + 1 + 1 + 1 < w'.heap.size := by omega)) | (go_at_call 59; refine (H.out _ (by first | exact .inl rfl | exact .inr rfl) _ (dw_at HD.out (by go_grown))).mono ?_; rintro e w' ⟨rfl, hb⟩; obtain ⟨hc, hf⟩ := bcell hb; have hz := hb.size; (try simp at hz); (try have y1 := Nat.lt_of_succ_le hz); (try have y2 := Nat.lt_of_succ_lt y1); (try have y3 := Nat.lt_of_succ_lt y2); have hB := bstep (w := w) (by go_grown) hb; (try have z0 : w.heap.size < w'.heap.size := by omega); (try have z1 : w.heap.size + 1 < w'.heap.size := by omega); (try have z2 : w.heap.size + 1 + 1 < w'.heap.size := by omega); (try have z3 : w.heap.size + 1 + 1 + 1 < w'.heap.size := by omega)) | fail)
 all_goals first | (exfalso; exact no_name HB.out (by assumption) (by assumption)) | (refine bodyPost_ret (v := .tuple #[.string ⟨#[]⟩, wErr 2]) (by simp [results, Tryz.results25, go_sem, hc, hz]) rfl ?_; exact ⟨rfl, by go_grown⟩)
set_option maxHeartbeats 1600000 in
theorem wp_2_via (via : Int) (fr tt : ByteArray) (h1 : t_topo_Name fr = some (nameB fr)) (h2 : t_topo_Name tt = some (nameB tt)) (hn : nameB fr = true ∧ nameB tt = true) (hv : via ≠ 0) (w : World) (hd : DW w) :
  Calls Tryz.prog 25 #[.agg #[.int .i64 2, .string fr, .string tt, .int .i64 via]] w fun e w' => e = .returned (.tuple #[.string ⟨#[]⟩, wErr 3]) ∧ Below w.heap.size w w' := by
 have H := Lib.hid (fun s (hs : s = fr ∨ s = tt) w (hd : DW w) => by have := names_any fr tt h1 h2 s hs w hd; rw [show nameB s = true by rcases hs with rfl | rfl; exact hn.1; exact hn.2] at this; exact this)
 have HD := Lib.hid hd
 clear hd h1 h2 hn
 go_enter Tryz.func25, Tryz.ntmps25
 go_wp2_with (first | (go_at_call 58; refine (wkind_any _ _ (dw_at HD.out (by go_grown))).mono ?_; rintro e w' ⟨rfl, hb⟩; obtain ⟨hc, hf⟩ := bcell hb; have hz := hb.size; (try simp at hz); (try have y1 := Nat.lt_of_succ_le hz); (try have y2 := Nat.lt_of_succ_lt y1); (try have y3 := Nat.lt_of_succ_lt y2); have hB := bstep (w := w) (by go_grown) hb; (try have z0 : w.heap.size < w'.heap.size := by omega); (try have z1 : w.heap.size + 1 < w'.heap.size := by omega); (try have z2 : w.heap.size + 1 + 1 < w'.heap.size := by omega); (try have z3 : w.heap.size + 1 + 1 + 1 < w'.heap.size := by omega)) | (go_at_call 59; refine (H.out _ (by first | exact .inl rfl | exact .inr rfl) _ (dw_at HD.out (by go_grown))).mono ?_; rintro e w' ⟨rfl, hb⟩; obtain ⟨hc, hf⟩ := bcell hb; have hz := hb.size; (try simp at hz); (try have y1 := Nat.lt_of_succ_le hz); (try have y2 := Nat.lt_of_succ_lt y1); (try have y3 := Nat.lt_of_succ_lt y2); have hB := bstep (w := w) (by go_grown) hb; (try have z0 : w.heap.size < w'.heap.size := by omega); (try have z1 : w.heap.size + 1 < w'.heap.size := by omega); (try have z2 : w.heap.size + 1 + 1 < w'.heap.size := by omega); (try have z3 : w.heap.size + 1 + 1 + 1 < w'.heap.size := by omega)) | fail)
 all_goals refine bodyPost_ret (v := .tuple #[.string ⟨#[]⟩, wErr 3]) (by simp [results, Tryz.results25, go_sem, hc, hz]) rfl ?_
 all_goals exact ⟨rfl, by go_grown⟩
set_option maxHeartbeats 1600000 in
theorem wp_3_via (via : Int) (fr tt : ByteArray) (hv : via < 1 ∨ 6 < via) (w : World) (hd : DW w) :
  Calls Tryz.prog 25 #[.agg #[.int .i64 3, .string fr, .string tt, .int .i64 via]] w fun e w' => e = .returned (.tuple #[.string ⟨#[]⟩, wErr 1]) ∧ Below w.heap.size w w' := by
 have HB := Lib.hid hv
 have HD := Lib.hid hd
 clear hd hv
 go_enter Tryz.func25, Tryz.ntmps25
 go_wp2_with (first | (go_at_call 58; refine (wkind_any _ _ (dw_at HD.out (by go_grown))).mono ?_; rintro e w' ⟨rfl, hb⟩; obtain ⟨hc, hf⟩ := bcell hb; have hz := hb.size; (try simp at hz); (try have y1 := Nat.lt_of_succ_le hz); (try have y2 := Nat.lt_of_succ_lt y1); (try have y3 := Nat.lt_of_succ_lt y2); have hB := bstep (w := w) (by go_grown) hb; (try have z0 : w.heap.size < w'.heap.size := by omega); (try have z1 : w.heap.size + 1 < w'.heap.size := by omega); (try have z2 : w.heap.size + 1 + 1 < w'.heap.size := by omega); (try have z3 : w.heap.size + 1 + 1 + 1 < w'.heap.size := by omega)) | fail)
 all_goals first | (exfalso; have hb := HB.out; omega) | (refine bodyPost_ret (v := .tuple #[.string ⟨#[]⟩, wErr 1]) (by simp [results, Tryz.results25, go_sem, hc, hz]) rfl ?_; exact ⟨rfl, by go_grown⟩)
set_option maxHeartbeats 1600000 in
theorem wp_3_name (via : Int) (fr tt : ByteArray) (hv1 : 1 ≤ via) (hv6 : via ≤ 6) (h1 : t_topo_Name fr = some (nameB fr)) (h2 : t_topo_Name tt = some (nameB tt)) (hn : (nameB fr && nameB tt) = false) (w : World) (hd : DW w) :
  Calls Tryz.prog 25 #[.agg #[.int .i64 3, .string fr, .string tt, .int .i64 via]] w fun e w' => e = .returned (.tuple #[.string ⟨#[]⟩, wErr 2]) ∧ Below w.heap.size w w' := by
 have H := Lib.hid (names_any fr tt h1 h2)
 have HB := Lib.hid hn
 have HD := Lib.hid hd
 clear hd h1 h2 hn
 go_enter Tryz.func25, Tryz.ntmps25
 go_wp2_with (first | (go_at_call 58; refine (wkind_any _ _ (dw_at HD.out (by go_grown))).mono ?_; rintro e w' ⟨rfl, hb⟩; obtain ⟨hc, hf⟩ := bcell hb; have hz := hb.size; (try simp at hz); (try have y1 := Nat.lt_of_succ_le hz); (try have y2 := Nat.lt_of_succ_lt y1); (try have y3 := Nat.lt_of_succ_lt y2); have hB := bstep (w := w) (by go_grown) hb; (try have z0 : w.heap.size < w'.heap.size := by omega); (try have z1 : w.heap.size + 1 < w'.heap.size := by omega); (try have z2 : w.heap.size + 1 + 1 < w'.heap.size := by omega); (try have z3 : w.heap.size + 1 + 1 + 1 < w'.heap.size := by omega)) | (go_at_call 59; refine (H.out _ (by first | exact .inl rfl | exact .inr rfl) _ (dw_at HD.out (by go_grown))).mono ?_; rintro e w' ⟨rfl, hb⟩; obtain ⟨hc, hf⟩ := bcell hb; have hz := hb.size; (try simp at hz); (try have y1 := Nat.lt_of_succ_le hz); (try have y2 := Nat.lt_of_succ_lt y1); (try have y3 := Nat.lt_of_succ_lt y2); have hB := bstep (w := w) (by go_grown) hb; (try have z0 : w.heap.size < w'.heap.size := by omega); (try have z1 : w.heap.size + 1 < w'.heap.size := by omega); (try have z2 : w.heap.size + 1 + 1 < w'.heap.size := by omega); (try have z3 : w.heap.size + 1 + 1 + 1 < w'.heap.size := by omega)) | fail)
 all_goals first | (exfalso; exact no_name HB.out (by assumption) (by assumption)) | (refine bodyPost_ret (v := .tuple #[.string ⟨#[]⟩, wErr 2]) (by simp [results, Tryz.results25, go_sem, hc, hz]) rfl ?_; exact ⟨rfl, by go_grown⟩)
set_option maxHeartbeats 1600000 in
theorem wp_1_ok (fr tt : ByteArray) (h1 : t_topo_Name fr = some (nameB fr)) (h2 : t_topo_Name tt = some (nameB tt)) (hn : nameB fr = true ∧ nameB tt = true) (hs1 : fr.size ≤ 1000) (hs2 : tt.size ≤ 1000) (w : World) (hd : DW w) :
  Calls Tryz.prog 25 #[.agg #[.int .i64 1, .string fr, .string tt, .int .i64 0]] w fun e w' => e = .returned (.tuple #[.string (wordsL.getD 1 ⟨#[]⟩ ++ ⟨#[32]⟩ ++ fr ++ ⟨#[32]⟩ ++ tt), .nilIface]) ∧ Below w.heap.size w w' := by
 have H := Lib.hid (fun s (hs : s = fr ∨ s = tt) w (hd : DW w) => by have := names_any fr tt h1 h2 s hs w hd; rw [show nameB s = true by rcases hs with rfl | rfl; exact hn.1; exact hn.2] at this; exact this)
 obtain ⟨q, eq, hq, HQ⟩ : ∃ q : ByteArray, q = wordsL.getD 1 ⟨#[]⟩ ∧ q.size ≤ 10 ∧ Hid (∀ w' : World, DW w' → w'.cell? ⟨0, 1, none⟩ = some (.string q)) := ⟨_, rfl, by decide +kernel, Lib.hid fun w' h => words_of h 1 (by omega)⟩
 rw [← eq]
 have HD := Lib.hid hd
 clear hd h1 h2 hn eq
 go_enter Tryz.func25, Tryz.ntmps25
 go_wp2_with (first | (go_at_call 58; refine (wkind_any _ _ (dw_at HD.out (by go_grown))).mono ?_; rintro e w' ⟨rfl, hb⟩; obtain ⟨hc, hf⟩ := bcell hb; have hz := hb.size; (try simp at hz); (try have y1 := Nat.lt_of_succ_le hz); (try have y2 := Nat.lt_of_succ_lt y1); (try have y3 := Nat.lt_of_succ_lt y2); have hB := bstep (w := w) (by go_grown) hb; (try have z0 : w.heap.size < w'.heap.size := by omega); (try have z1 : w.heap.size + 1 < w'.heap.size := by omega); (try have z2 : w.heap.size + 1 + 1 < w'.heap.size := by omega); (try have z3 : w.heap.size + 1 + 1 + 1 < w'.heap.size := by omega)) | (go_at_call 59; refine (H.out _ (by first | exact .inl rfl | exact .inr rfl) _ (dw_at HD.out (by go_grown))).mono ?_; rintro e w' ⟨rfl, hb⟩; obtain ⟨hc, hf⟩ := bcell hb; have hz := hb.size; (try simp at hz); (try have y1 := Nat.lt_of_succ_le hz); (try have y2 := Nat.lt_of_succ_lt y1); (try have y3 := Nat.lt_of_succ_lt y2); have hB := bstep (w := w) (by go_grown) hb; (try have z0 : w.heap.size < w'.heap.size := by omega); (try have z1 : w.heap.size + 1 < w'.heap.size := by omega); (try have z2 : w.heap.size + 1 + 1 < w'.heap.size := by omega); (try have z3 : w.heap.size + 1 + 1 + 1 < w'.heap.size := by omega)) | fail)
 have gq := HQ.out _ (dw_at HD.out hB)
 have hl0 := dw_lt (dw_at HD.out hB)
 refine wp_region_below (by kernel_rfl) (by kernel_rfl) ?_
 repeat (go_big_quiet_step (fail))
 refine wpQuiet_nil ?_
 intro w2 hb2
 obtain ⟨hc2, hf2⟩ := bcell hb2
 have hz2 := hb2.size
 have hB2 := bstep (w := w) (by go_grown) hb2
 go_wp2_with (fail)
 all_goals refine bodyPost_ret (v := .tuple #[.string (q ++ ⟨#[32]⟩ ++ fr ++ ⟨#[32]⟩ ++ tt), .nilIface]) (by simp [results, Tryz.results25, go_sem, hc, hz]) rfl ?_
 all_goals exact ⟨rfl, by go_grown⟩
set_option maxHeartbeats 1600000 in
theorem wp_2_ok (fr tt : ByteArray) (h1 : t_topo_Name fr = some (nameB fr)) (h2 : t_topo_Name tt = some (nameB tt)) (hn : nameB fr = true ∧ nameB tt = true) (hs1 : fr.size ≤ 1000) (hs2 : tt.size ≤ 1000) (w : World) (hd : DW w) :
  Calls Tryz.prog 25 #[.agg #[.int .i64 2, .string fr, .string tt, .int .i64 0]] w fun e w' => e = .returned (.tuple #[.string (wordsL.getD 2 ⟨#[]⟩ ++ ⟨#[32]⟩ ++ fr ++ ⟨#[32]⟩ ++ tt), .nilIface]) ∧ Below w.heap.size w w' := by
 have H := Lib.hid (fun s (hs : s = fr ∨ s = tt) w (hd : DW w) => by have := names_any fr tt h1 h2 s hs w hd; rw [show nameB s = true by rcases hs with rfl | rfl; exact hn.1; exact hn.2] at this; exact this)
 obtain ⟨q, eq, hq, HQ⟩ : ∃ q : ByteArray, q = wordsL.getD 2 ⟨#[]⟩ ∧ q.size ≤ 10 ∧ Hid (∀ w' : World, DW w' → w'.cell? ⟨0, 2, none⟩ = some (.string q)) := ⟨_, rfl, by decide +kernel, Lib.hid fun w' h => words_of h 2 (by omega)⟩
 rw [← eq]
 have HD := Lib.hid hd
 clear hd h1 h2 hn eq
 go_enter Tryz.func25, Tryz.ntmps25
 go_wp2_with (first | (go_at_call 58; refine (wkind_any _ _ (dw_at HD.out (by go_grown))).mono ?_; rintro e w' ⟨rfl, hb⟩; obtain ⟨hc, hf⟩ := bcell hb; have hz := hb.size; (try simp at hz); (try have y1 := Nat.lt_of_succ_le hz); (try have y2 := Nat.lt_of_succ_lt y1); (try have y3 := Nat.lt_of_succ_lt y2); have hB := bstep (w := w) (by go_grown) hb; (try have z0 : w.heap.size < w'.heap.size := by omega); (try have z1 : w.heap.size + 1 < w'.heap.size := by omega); (try have z2 : w.heap.size + 1 + 1 < w'.heap.size := by omega); (try have z3 : w.heap.size + 1 + 1 + 1 < w'.heap.size := by omega)) | (go_at_call 59; refine (H.out _ (by first | exact .inl rfl | exact .inr rfl) _ (dw_at HD.out (by go_grown))).mono ?_; rintro e w' ⟨rfl, hb⟩; obtain ⟨hc, hf⟩ := bcell hb; have hz := hb.size; (try simp at hz); (try have y1 := Nat.lt_of_succ_le hz); (try have y2 := Nat.lt_of_succ_lt y1); (try have y3 := Nat.lt_of_succ_lt y2); have hB := bstep (w := w) (by go_grown) hb; (try have z0 : w.heap.size < w'.heap.size := by omega); (try have z1 : w.heap.size + 1 < w'.heap.size := by omega); (try have z2 : w.heap.size + 1 + 1 < w'.heap.size := by omega); (try have z3 : w.heap.size + 1 + 1 + 1 < w'.heap.size := by omega)) | fail)
 have gq := HQ.out _ (dw_at HD.out hB)
 have hl0 := dw_lt (dw_at HD.out hB)
 refine wp_region_below (by kernel_rfl) (by kernel_rfl) ?_
 repeat (go_big_quiet_step (fail))
 refine wpQuiet_nil ?_
 intro w2 hb2
 obtain ⟨hc2, hf2⟩ := bcell hb2
 have hz2 := hb2.size
 have hB2 := bstep (w := w) (by go_grown) hb2
 go_wp2_with (fail)
 all_goals refine bodyPost_ret (v := .tuple #[.string (q ++ ⟨#[32]⟩ ++ fr ++ ⟨#[32]⟩ ++ tt), .nilIface]) (by simp [results, Tryz.results25, go_sem, hc, hz]) rfl ?_
 all_goals exact ⟨rfl, by go_grown⟩
set_option maxHeartbeats 1600000 in
theorem wp_3_ok (via : Int) (hv1 : 1 ≤ via) (hv6 : via ≤ 6) (fr tt : ByteArray) (h1 : t_topo_Name fr = some (nameB fr)) (h2 : t_topo_Name tt = some (nameB tt)) (hn : nameB fr = true ∧ nameB tt = true) (hs1 : fr.size ≤ 1000) (hs2 : tt.size ≤ 1000) (w : World) (hd : DW w) :
  Calls Tryz.prog 25 #[.agg #[.int .i64 3, .string fr, .string tt, .int .i64 via]] w fun e w' => e = .returned (.tuple #[.string (wordsL.getD 3 ⟨#[]⟩ ++ ⟨#[32]⟩ ++ fr ++ ⟨#[32]⟩ ++ tt ++ (⟨#[32]⟩ ++ itoaS via.toNat)), .nilIface]) ∧ Below w.heap.size w w' := by
 have H := Lib.hid (fun s (hs : s = fr ∨ s = tt) w (hd : DW w) => by have := names_any fr tt h1 h2 s hs w hd; rw [show nameB s = true by rcases hs with rfl | rfl; exact hn.1; exact hn.2] at this; exact this)
 have HI := Lib.hid (itoa_any via (by omega))
 have hi : (itoaS via.toNat).size ≤ 10 := itoa6 hv1 hv6
 generalize itoaS via.toNat = qi at HI hi ⊢
 obtain ⟨q, eq, hq, HQ⟩ : ∃ q : ByteArray, q = wordsL.getD 3 ⟨#[]⟩ ∧ q.size ≤ 10 ∧ Hid (∀ w' : World, DW w' → w'.cell? ⟨0, 3, none⟩ = some (.string q)) := ⟨_, rfl, by decide +kernel, Lib.hid fun w' h => words_of h 3 (by omega)⟩
 rw [← eq]
 have HD := Lib.hid hd
 clear hd h1 h2 hn eq
 go_enter Tryz.func25, Tryz.ntmps25
 go_wp2_with (first | (go_at_call 58; refine (wkind_any _ _ (dw_at HD.out (by go_grown))).mono ?_; rintro e w' ⟨rfl, hb⟩; obtain ⟨hc, hf⟩ := bcell hb; have hz := hb.size; (try simp at hz); (try have y1 := Nat.lt_of_succ_le hz); (try have y2 := Nat.lt_of_succ_lt y1); (try have y3 := Nat.lt_of_succ_lt y2); have hB := bstep (w := w) (by go_grown) hb; (try have z0 : w.heap.size < w'.heap.size := by omega); (try have z1 : w.heap.size + 1 < w'.heap.size := by omega); (try have z2 : w.heap.size + 1 + 1 < w'.heap.size := by omega); (try have z3 : w.heap.size + 1 + 1 + 1 < w'.heap.size := by omega)) | (go_at_call 59; refine (H.out _ (by first | exact .inl rfl | exact .inr rfl) _ (dw_at HD.out (by go_grown))).mono ?_; rintro e w' ⟨rfl, hb⟩; obtain ⟨hc, hf⟩ := bcell hb; have hz := hb.size; (try simp at hz); (try have y1 := Nat.lt_of_succ_le hz); (try have y2 := Nat.lt_of_succ_lt y1); (try have y3 := Nat.lt_of_succ_lt y2); have hB := bstep (w := w) (by go_grown) hb; (try have z0 : w.heap.size < w'.heap.size := by omega); (try have z1 : w.heap.size + 1 < w'.heap.size := by omega); (try have z2 : w.heap.size + 1 + 1 < w'.heap.size := by omega); (try have z3 : w.heap.size + 1 + 1 + 1 < w'.heap.size := by omega)) | fail)
 have gq := HQ.out _ (dw_at HD.out hB)
 have hl0 := dw_lt (dw_at HD.out hB)
 refine wp_region_below (by kernel_rfl) (by kernel_rfl) ?_
 repeat (go_big_quiet_step (fail))
 refine wpQuiet_nil ?_
 intro w2 hb2
 obtain ⟨hc2, hf2⟩ := bcell hb2
 have hz2 := hb2.size
 have hB2 := bstep (w := w) (by go_grown) hb2
 go_wp2_with ((go_at_call 40; refine (HI.out _ (dw_at HD.out (by go_grown))).mono ?_; rintro e w3 ⟨rfl, hbw3⟩; obtain ⟨hcw3, hfw3⟩ := bcell hbw3; have hzw3 := hbw3.size; (try simp at hzw3); have hBw3 := bstep (w := w) (by go_grown) hbw3; (try have : wa.heap.size < w3.heap.size := by omega); (try have : w.heap.size < w3.heap.size := by omega); (try have : w.heap.size + 1 < w3.heap.size := by omega); (try have : w.heap.size + 1 + 1 < w3.heap.size := by omega); (try have : w.heap.size + 1 + 1 + 1 < w3.heap.size := by omega); (try have : w2.heap.size < w3.heap.size := by omega)))
 all_goals refine bodyPost_ret (v := .tuple #[.string (q ++ ⟨#[32]⟩ ++ fr ++ ⟨#[32]⟩ ++ tt ++ (⟨#[32]⟩ ++ qi)), .nilIface]) (by simp [results, Tryz.results25, go_sem, hc, hz]) rfl ?_
 all_goals exact ⟨rfl, by go_grown⟩
noncomputable def wpE (x : T_Wish) : Int :=
 if ¬ (1 ≤ x.What ∧ x.What ≤ 4) then 1
 else if x.What = 3 ∧ (x.Via < 1 ∨ 6 < x.Via) then 1
 else if x.What ≠ 4 ∧ (nameB x.From && nameB x.To) = false then 2
 else if (x.What ≠ 3 ∧ x.Via ≠ 0) ∨ (x.What = 4 ∧ ¬ (x.From = ⟨#[]⟩ ∧ x.To = ⟨#[]⟩)) then 3
 else 0
noncomputable def wpS (x : T_Wish) : ByteArray :=
 if wpE x ≠ 0 then ⟨#[]⟩
 else if x.What = 4 then wordsL.getD 4 ⟨#[]⟩
 else if x.What = 3 then wordsL.getD 3 ⟨#[]⟩ ++ ⟨#[32]⟩ ++ x.From ++ ⟨#[32]⟩ ++ x.To ++ (⟨#[32]⟩ ++ itoaS x.Via.toNat)
 else wordsL.getD x.What.toNat ⟨#[]⟩ ++ ⟨#[32]⟩ ++ x.From ++ ⟨#[32]⟩ ++ x.To
theorem wprint_any (x : T_Wish) (h1 : (x.From.size : Int) ≤ maxI) (h2 : (x.To.size : Int) ≤ maxI) (w : World) (hd : DW w) :
  Calls Tryz.prog 25 #[.agg #[.int .i64 x.What, .string x.From, .string x.To, .int .i64 x.Via]] w fun e w' => e = .returned (.tuple #[.string (wpS x), errOf (wpE x)]) ∧ Below w.heap.size w w' := by
 obtain ⟨k, fr, tt, via⟩ := x
 simp only at h1 h2 ⊢
 have n1 := s_NameB fr h1
 have n2 := s_NameB tt h2
 have hs : ∀ (e : Int) (he : wpE ⟨k, fr, tt, via⟩ = e), e ≠ 0 → wpS ⟨k, fr, tt, via⟩ = ⟨#[]⟩ := fun e he h0 => by unfold wpS; rw [he, if_pos h0]
 by_cases hk : 1 ≤ k ∧ k ≤ 4
 rotate_left
 ·have he : wpE ⟨k, fr, tt, via⟩ = 1 := by unfold wpE; rw [if_pos hk]
  rw [hs 1 he (by omega), he, errOf_ne (by omega)]
  exact wp_kind k via fr tt (by cases h : decide (1 ≤ k) && decide (k ≤ 4); rfl; exact absurd (by simpa using h) hk) w hd
 by_cases h4 : k = 4
 ·subst h4
  by_cases hb : via = 0 ∧ fr = ⟨#[]⟩ ∧ tt = ⟨#[]⟩
  ·obtain ⟨rfl, rfl, rfl⟩ := hb
   have he : wpE ⟨4, ⟨#[]⟩, ⟨#[]⟩, 0⟩ = 0 := by unfold wpE; simp
   rw [show wpS ⟨4, ⟨#[]⟩, ⟨#[]⟩, 0⟩ = wordsL.getD 4 ⟨#[]⟩ by unfold wpS; rw [he]; simp, he]
   exact wp_four_ok w hd
  ·have he : wpE ⟨4, fr, tt, via⟩ = 3 := by
    unfold wpE
    rw [if_neg (by simp), if_neg (by simp), if_neg (by simp), if_pos]
    by_cases hv : via = 0
    ·exact .inr ⟨rfl, fun h => hb ⟨hv, h⟩⟩
    ·exact .inl ⟨by simp, hv⟩
   rw [hs 3 he (by omega), he, errOf_ne (by omega)]
   exact wp_four_bad via fr tt hb w hd
 by_cases h3 : k = 3
 ·subst h3
  by_cases hv : via < 1 ∨ 6 < via
  ·have he : wpE ⟨3, fr, tt, via⟩ = 1 := by unfold wpE; rw [if_neg (by simp), if_pos ⟨rfl, hv⟩]
   rw [hs 1 he (by omega), he, errOf_ne (by omega)]
   exact wp_3_via via fr tt hv w hd
  ·by_cases hn : (nameB fr && nameB tt) = false
   ·have he : wpE ⟨3, fr, tt, via⟩ = 2 := by unfold wpE; rw [if_neg (by simp), if_neg (fun h => hv h.2), if_pos ⟨by simp, hn⟩]
    rw [hs 2 he (by omega), he, errOf_ne (by omega)]
    exact wp_3_name via fr tt (by omega) (by omega) n1 n2 hn w hd
   ·have hn' : nameB fr = true ∧ nameB tt = true := by simpa using hn
    have he : wpE ⟨3, fr, tt, via⟩ = 0 := by unfold wpE; rw [if_neg (by simp), if_neg (fun h => hv h.2), if_neg (fun h => hn h.2), if_neg (by simp)]
    rw [show wpS ⟨3, fr, tt, via⟩ = wordsL.getD 3 ⟨#[]⟩ ++ ⟨#[32]⟩ ++ fr ++ ⟨#[32]⟩ ++ tt ++ (⟨#[32]⟩ ++ itoaS via.toNat) by unfold wpS; rw [he]; simp, he]
    exact wp_3_ok via (by omega) (by omega) fr tt n1 n2 hn' (by have := nameB_size hn'.1; omega) (by have := nameB_size hn'.2; omega) w hd
 have h12 : k = 1 ∨ k = 2 := by omega
 by_cases hn : (nameB fr && nameB tt) = false
 ·have he : wpE ⟨k, fr, tt, via⟩ = 2 := by unfold wpE; rw [if_neg (fun h => h hk), if_neg (fun h => h3 h.1), if_pos ⟨h4, hn⟩]
  rw [hs 2 he (by omega), he, errOf_ne (by omega)]
  rcases h12 with rfl | rfl
  ·exact wp_1_name via fr tt n1 n2 hn w hd
  ·exact wp_2_name via fr tt n1 n2 hn w hd
 ·have hn' : nameB fr = true ∧ nameB tt = true := by simpa using hn
  by_cases hv : via = 0
  ·subst hv
   have he : wpE ⟨k, fr, tt, 0⟩ = 0 := by unfold wpE; rw [if_neg (fun h => h hk), if_neg (fun h => h3 h.1), if_neg (fun h => hn h.2), if_neg (by simp [h4])]
   have es : wpS ⟨k, fr, tt, 0⟩ = wordsL.getD k.toNat ⟨#[]⟩ ++ ⟨#[32]⟩ ++ fr ++ ⟨#[32]⟩ ++ tt := by unfold wpS; rw [he]; simp [h3, h4]
   rw [es, he]
   rcases h12 with rfl | rfl
   ·exact wp_1_ok fr tt n1 n2 hn' (by have := nameB_size hn'.1; omega) (by have := nameB_size hn'.2; omega) w hd
   ·exact wp_2_ok fr tt n1 n2 hn' (by have := nameB_size hn'.1; omega) (by have := nameB_size hn'.2; omega) w hd
  ·have he : wpE ⟨k, fr, tt, via⟩ = 3 := by unfold wpE; rw [if_neg (fun h => h hk), if_neg (fun h => h3 h.1), if_neg (fun h => hn h.2), if_pos (.inl ⟨h3, hv⟩)]
   rw [hs 3 he (by omega), he, errOf_ne (by omega)]
   rcases h12 with rfl | rfl
   ·exact wp_1_via via fr tt n1 n2 hn' hv w hd
   ·exact wp_2_via via fr tt n1 n2 hn' hv w hd
end Go.Proofs.YtilbgbhpdjjliaaGreatDoor
namespace Go.Proofs.YtilbgbhpdjjliaaGreatDoor.Ty
open Go Go.RowKit Go.Proofs.YtilbgbhpdjjliaaGreatDoor Go.Proofs.YtilbgbhpdjjliaaGreatDoor.Den
noncomputable def sem_WPrint (_ : Nat) (xs : List V) : Option V := match xs with
 | [.agg [.lit (.int .i64 k), .lit (.string fr), .lit (.string tt), .lit (.int .i64 via)]] => if (fr.size : Int) ≤ maxI ∧ (tt.size : Int) ≤ maxI then some (.tup [vt (wpS ⟨k, fr, tt, via⟩), eV (wpE ⟨k, fr, tt, via⟩)]) else none
 | _ => none
theorem ok_WPrint (n : Nat) : SemOk Tryz.prog DW 25 (sem_WPrint n) := fun xs y hy => by
 unfold sem_WPrint at hy
 split at hy
 ·rename_i k fr tt via
  split at hy
  ·rename_i h
   obtain rfl := Option.some.inj hy
   refine ⟨⟨_, Tryz.func25, by kernel_rfl, by kernel_rfl⟩, fun w M vs hd hM hrel => ?_⟩
   have e2 : vs = #[.agg #[.int .i64 k, .string fr, .string tt, .int .i64 via]] := by
    have e := valsL_rel (us := [.agg #[.int .i64 k, .string fr, .string tt, .int .i64 via]]) rfl hrel
    apply Array.toList_inj.1; simpa using e
   rw [e2]
   refine (wprint_any ⟨k, fr, tt, via⟩ h.1 h.2 w hd).mono fun en w' ⟨he, hb⟩ => ⟨_, M, he, grow_below hM hb, .tup _ _ rfl fun i z hz => ?_⟩
   match i, hz with
   | 0, hz => cases hz; exact .lit _ rfl
   | 1, hz =>
    cases hz
    show Rel M (errOf (wpE ⟨k, fr, tt, via⟩)) (.lit (errOf (wpE ⟨k, fr, tt, via⟩)))
    exact .lit _ (by unfold errOf; split <;> rfl)
  ·cases hy
 ·cases hy
noncomputable def t_wish_Print (x : T_Wish) : Option (ByteArray × Int) := if (x.From.size : Int) ≤ maxI ∧ (x.To.size : Int) ≤ maxI then some (wpS x, wpE x) else none
theorem ty_wish_Print {n : Nat} (x : T_Wish) : Rv (fun x : ByteArray × Int => V.tup [(vt x.1), (eV x.2)]) (sem_WPrint n [T_Wish.e x]) (t_wish_Print x) := fun b hb => by
 unfold t_wish_Print at hb
 split at hb
 ·rename_i h
  cases hb
  show (if _ then _ else _) = _
  rw [if_pos h]
 ·cases hb
end Go.Proofs.YtilbgbhpdjjliaaGreatDoor.Ty
