/- What rule.Number comes to: a walk. -/
import Derived.Test.YtilbgbhpdjjliaaGreatDoorShelfT
import Derived.Test.YtilbgbhpdjjliaaGreatDoorPlain
import Derived.Test.YtilbgbhpdjjliaaGreatDoorQuiet
import Derived.Test.YtilbgbhpdjjliaaGreatDoorCube
import Derived.Test.YtilbgbhpdjjliaaGreatDoorSBase
import Derived.Shelf.Strconv.AtoiAll
import Derived.Lib.SmallJoins
import Derived.Lib.AppendIntMem
import Derived.WalkKit
import Derived.WalkSpells
namespace Go.Proofs.YtilbgbhpdjjliaaGreatDoor
open Go Go.RowKit Go.Proofs.YtilbgbhpdjjliaaGreatDoor.Den Go.Proofs.YtilbgbhpdjjliaaGreatDoor.Ty
set_option linter.unusedSimpArgs false
set_option linter.unusedVariables false
set_option maxRecDepth 100000

/-- a number, as strconv.Itoa writes it -/
def itoaZ (z : Int) : ByteArray := ⟨(Lib.itoa z).toArray⟩
/-- what a text says as a number; is it one? -/
def numV (s : ByteArray) : Int := match Lib.atoiAll s.data.toList with
  | .ok v => v
  | .range => Lib.atoiSat s.data.toList
  | _ => 0
def numB (s : ByteArray) : Bool := match Lib.atoiAll s.data.toList with
  | .ok v => decide (0 ≤ v) && (decide (s.size ≤ 9) && decide (itoaZ v = s))
  | _ => false
theorem itoaZ_any (z : Int) (h0 : -9223372036854775808 ≤ z) (h1 : z ≤ 9223372036854775807) (w : World) (hd : DW w) : Calls Tryz.prog 40 #[.int .i64 z] w fun e w' => e = .returned (.string (itoaZ z)) ∧ Below w.heap.size w w' :=
  (Any.strconv_Itoa lItoa z h0 h1 w hd.tab).mono fun e w' ⟨he, k, os, hw⟩ => ⟨he, hw ▸ Lib.below_grow _ _ (Nat.le_refl _) k os⟩
theorem atoi_ok (s : ByteArray) (v : Int) (hs : s.size ≤ 281474976710656) (h : Lib.atoiAll s.data.toList = .ok v) (w : World) : Calls Tryz.prog 78 #[.string s] w fun e w' => e = .returned (.tuple #[.int .i64 v, .nilIface]) ∧ Below w.heap.size w w' :=
  (Any.strconv_Atoi_ok lAtoi s (by omega) v h w).mono fun e w' ⟨he, hw⟩ => ⟨he, by
    rcases hw with rfl | ⟨t, rfl⟩
    · exact Below.refl _ _
    · exact Joins.below_bytesWorld _ _ _ _ (Nat.le_refl _)⟩
theorem atoi_bad (s : ByteArray) (hs : s.size ≤ 281474976710656) (h : ∀ v, Lib.atoiAll s.data.toList ≠ .ok v) (w : World) (hd : DW w) : Calls Tryz.prog 78 #[.string s] w fun e w' => ∃ N, e = .returned (.tuple #[.int .i64 (numV s), .iface 210 (.pointer (some ⟨N, 0, none⟩))]) ∧ Below w.heap.size w w' := by
  cases ha : Lib.atoiAll s.data.toList with
  | ok v => exact absurd ha (h v)
  | range =>
    obtain ⟨tp, p, hv⟩ := hd.rng
    exact (Any.strconv_Atoi_range lAtoi s hs ha _ w hv (.inr ⟨tp, p, rfl⟩)).mono fun e w' ⟨N, he, _, _, hb⟩ => ⟨N, by rw [he]; unfold numV; rw [ha]; rfl, hb⟩
  | _ =>
    obtain ⟨tp, p, hv⟩ := hd.syn
    exact (Any.strconv_Atoi_syntax lAtoi s hs ha _ w hv (.inr ⟨tp, p, rfl⟩)).mono fun e w' ⟨N, he, _, _, hb⟩ => ⟨N, by rw [he]; unfold numV; rw [ha]; rfl, hb⟩
set_option maxHeartbeats 1600000 in
theorem num_bad (s : ByteArray) (hs : s.size ≤ 281474976710656) (h : ∀ v, Lib.atoiAll s.data.toList ≠ .ok v) (w : World) (hd : DW w) :
    Calls Tryz.prog 61 #[.string s] w fun e w' => e = .returned (.tuple #[.int .i64 (numV s), .bool false]) ∧ Below w.heap.size w w' := by
  have H := Lib.hid (atoi_bad s hs h)
  have HD := Lib.hid hd
  clear hd h
  generalize numV s = n at H ⊢
  go_enter Tryz.func61, Tryz.ntmps61
  go_wp2_with (first | (go_at_call 78; refine (H.out _ (stb _ _ HD.out (by go_grown))).mono ?_; rintro e w' ⟨N, rfl, hb⟩; obtain ⟨hc, hf⟩ := bcell hb; have hz := hb.size; have hB := bstep (w := w) (by go_grown) hb) | fail)
  all_goals refine bodyPost_ret (v := .tuple #[.int .i64 n, .bool false]) (by simp [results, Tryz.results61, go_sem, hc, hz]) rfl ?_
  all_goals exact ⟨rfl, by go_grown⟩
set_option maxHeartbeats 1600000 in
theorem num_neg (s : ByteArray) (v : Int) (hs : s.size ≤ 281474976710656) (h : Lib.atoiAll s.data.toList = .ok v) (h0 : (decide (0 ≤ v) && decide (s.size ≤ 9)) = false) (w : World) (hd : DW w) :
    Calls Tryz.prog 61 #[.string s] w fun e w' => e = .returned (.tuple #[.int .i64 v, .bool false]) ∧ Below w.heap.size w w' := by
  have H := Lib.hid (atoi_ok s v hs h)
  have HB := Lib.hid h0
  have HD := Lib.hid hd
  clear hd h h0
  go_enter Tryz.func61, Tryz.ntmps61
  go_wp2_with (first | (go_at_call 78; refine (H.out _).mono ?_; rintro e w' ⟨rfl, hb⟩; obtain ⟨hc, hf⟩ := bcell hb; have hz := hb.size; (try simp at hz); (try have y1 := Nat.lt_of_succ_le hz); (try have y2 := Nat.lt_of_succ_lt y1); (try have y3 := Nat.lt_of_succ_lt y2); have hB := bstep (w := w) (by go_grown) hb; (try have z0 : w.heap.size < w'.heap.size := by omega); (try have z1 : w.heap.size + 1 < w'.heap.size := by omega); (try have z2 : w.heap.size + 1 + 1 < w'.heap.size := by omega); (try have z3 : w.heap.size + 1 + 1 + 1 < w'.heap.size := by omega)) | fail)
  all_goals first | (exfalso; have hb := HB.out; simp only [Bool.and_eq_false_iff, decide_eq_false_iff_not] at hb; omega) | (refine bodyPost_ret (v := .tuple #[.int .i64 v, .bool false]) (by simp [results, Tryz.results61, go_sem, hc, hz]) rfl ?_; exact ⟨rfl, by go_grown⟩)
theorem atoi_range {l : List UInt8} {v : Int} (h : Lib.atoiAll l = .ok v) : -9223372036854775808 ≤ v ∧ v ≤ 9223372036854775807 := by
  unfold Lib.atoiAll at h
  split at h
  · cases h
  · simp only at h
    split at h
    · cases h
    · cases h
    · rename_i u hu
      split at h
      · cases h
      · rename_i h1
        split at h
        · cases h
        · rename_i h2
          injection h with h
          split at h
          · rename_i hn
            have : ¬ 9223372036854775808 < u := fun hx => h2 ⟨hn, hx⟩
            omega
          · rename_i hn
            have : ¬ 9223372036854775808 ≤ u := fun hx => h1 ⟨hn, hx⟩
            omega
set_option maxHeartbeats 1600000 in
theorem num_ok (s : ByteArray) (v : Int) (hs : s.size ≤ 281474976710656) (h : Lib.atoiAll s.data.toList = .ok v) (h0 : 0 ≤ v) (h9 : s.size ≤ 9) (w : World) (hd : DW w) :
    Calls Tryz.prog 61 #[.string s] w fun e w' => e = .returned (.tuple #[.int .i64 v, .bool (decide (itoaZ v = s))]) ∧ Below w.heap.size w w' := by
  have H := Lib.hid (atoi_ok s v hs h)
  have HI := Lib.hid (itoaZ_any v (atoi_range h).1 (atoi_range h).2)
  have HS : ((itoaZ v).toList == s.toList) = decide (itoaZ v = s) := str_beq _ _
  have HD := Lib.hid hd
  clear hd h
  generalize itoaZ v = q at HI HS ⊢
  go_enter Tryz.func61, Tryz.ntmps61
  go_wp2_with (first | (go_at_call 78; refine (H.out _).mono ?_; rintro e w' ⟨rfl, hb⟩; obtain ⟨hc, hf⟩ := bcell hb; have hz := hb.size; (try simp at hz); (try have y1 := Nat.lt_of_succ_le hz); (try have y2 := Nat.lt_of_succ_lt y1); (try have y3 := Nat.lt_of_succ_lt y2); have hB := bstep (w := w) (by go_grown) hb; (try have z0 : w.heap.size < w'.heap.size := by omega); (try have z1 : w.heap.size + 1 < w'.heap.size := by omega); (try have z2 : w.heap.size + 1 + 1 < w'.heap.size := by omega); (try have z3 : w.heap.size + 1 + 1 + 1 < w'.heap.size := by omega)) | (go_at_call 40; refine (HI.out _ (stb _ _ HD.out (by go_grown))).mono ?_; rintro e w' ⟨rfl, hb⟩; obtain ⟨hc, hf⟩ := bcell hb; have hz := hb.size; (try simp at hz); (try have y1 := Nat.lt_of_succ_le hz); (try have y2 := Nat.lt_of_succ_lt y1); (try have y3 := Nat.lt_of_succ_lt y2); have hB := bstep (w := w) (by go_grown) hb; (try have z0 : w.heap.size < w'.heap.size := by omega); (try have z1 : w.heap.size + 1 < w'.heap.size := by omega); (try have z2 : w.heap.size + 1 + 1 < w'.heap.size := by omega); (try have z3 : w.heap.size + 1 + 1 + 1 < w'.heap.size := by omega)) | fail)
  rw [← HS]
  all_goals refine bodyPost_ret (v := .tuple #[.int .i64 v, .bool (q.toList == s.toList)]) (by simp [results, Tryz.results61, go_sem, hc, hz]) rfl ?_
  all_goals exact ⟨rfl, by go_grown⟩
theorem number_any (s : ByteArray) (hs : s.size ≤ 281474976710656) (w : World) (hd : DW w) :
    Calls Tryz.prog 61 #[.string s] w fun e w' => e = .returned (.tuple #[.int .i64 (numV s), .bool (numB s)]) ∧ Below w.heap.size w w' := by
  cases ha : Lib.atoiAll s.data.toList with
  | ok v =>
    have hv : numV s = v := by unfold numV; rw [ha]
    rw [hv]
    cases h0 : decide (0 ≤ v) && decide (s.size ≤ 9) with
    | false =>
      rw [show numB s = false by unfold numB; rw [ha]; simp only [← Bool.and_assoc, h0, Bool.false_and]]
      exact num_neg s v hs ha h0 w hd
    | true =>
      rw [show numB s = decide (itoaZ v = s) by unfold numB; rw [ha]; simp only [← Bool.and_assoc, h0, Bool.true_and]]
      simp only [Bool.and_eq_true, decide_eq_true_eq] at h0
      exact num_ok s v hs ha h0.1 h0.2 w hd
  | range =>
    rw [show numB s = false by unfold numB; rw [ha]]
    exact num_bad s hs (fun v h => by rw [ha] at h; cases h) w hd
  | _ =>
    rw [show numB s = false by unfold numB; rw [ha]]
    exact num_bad s hs (fun v h => by rw [ha] at h; cases h) w hd
end Go.Proofs.YtilbgbhpdjjliaaGreatDoor
namespace Go.Proofs.YtilbgbhpdjjliaaGreatDoor.Ty
open Go Go.RowKit Go.Proofs.YtilbgbhpdjjliaaGreatDoor Go.Proofs.YtilbgbhpdjjliaaGreatDoor.Den
def sem_Number (xs : List V) : Option V := match xs with
  | [.lit (.string s)] => if s.size ≤ 281474976710656 then some (.tup [vi (numV s), vb (numB s)]) else none
  | _ => none
theorem ok_Number : SemOk Tryz.prog DW 61 sem_Number := fun xs y hy => by
  unfold sem_Number at hy
  split at hy
  · rename_i s
    split at hy
    · rename_i h
      obtain rfl := Option.some.inj hy
      refine ⟨⟨_, Tryz.func61, by kernel_rfl, by kernel_rfl⟩, fun w M vs hd hM hrel => ?_⟩
      have e2 : vs = #[.string s] := by
        have e := valsL_rel (us := [.string s]) rfl hrel
        apply Array.toList_inj.1; simpa using e
      rw [e2]
      refine (number_any s h w hd).mono fun en w' ⟨he, hb⟩ => ⟨_, M, he, grow_below hM hb, .tup _ _ rfl fun i z hz => ?_⟩
      match i, hz with
      | 0, hz => cases hz; exact .lit _ rfl
      | 1, hz => cases hz; exact .lit _ rfl
    · cases hy
  · cases hy
def t_rule_Number (s : ByteArray) : Option (Int × Bool) := if s.size ≤ 281474976710656 then some (numV s, numB s) else none
theorem ty_rule_Number (s : ByteArray) : Rv (fun x : Int × Bool => V.tup [(vi x.1), (vb x.2)]) (sem_Number [vt s]) (t_rule_Number s) := fun b hb => by
  unfold t_rule_Number at hb
  split at hb
  · rename_i h
    cases hb
    show (if _ then _ else _) = _
    rw [if_pos h]
  · cases hb
end Go.Proofs.YtilbgbhpdjjliaaGreatDoor.Ty
