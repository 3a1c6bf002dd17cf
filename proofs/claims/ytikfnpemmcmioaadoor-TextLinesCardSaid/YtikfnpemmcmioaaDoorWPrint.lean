/- What wish.Print comes to: a walk. -/
import Derived.Test.YtikfnpemmcmioaaDoorTyA0
import Derived.Test.YtikfnpemmcmioaaDoorTyT
import Derived.Test.YtikfnpemmcmioaaDoorShelfT
import Derived.Test.YtikfnpemmcmioaaDoorPlain
import Derived.Test.YtikfnpemmcmioaaDoorQuiet
import Derived.Test.YtikfnpemmcmioaaDoorCube
import Derived.Test.YtikfnpemmcmioaaDoorSBase
import Derived.WalkKit
import Derived.WalkSpells
namespace Go.Proofs.YtikfnpemmcmioaaDoor
open Go Go.RowKit Go.Proofs.YtikfnpemmcmioaaDoor.Den Go.Proofs.YtikfnpemmcmioaaDoor.Ty
set_option linter.unusedSimpArgs false
set_option linter.unusedVariables false
set_option maxRecDepth 100000

theorem wkind_any (z : Int) (w : World) (hd : DW w) : Calls Tryd.prog 18 #[.int .i64 z] w fun e w' => e = .returned (.bool (decide (1 ≤ z) && decide (z ≤ 4))) ∧ Below w.heap.size w w' := by
  have h := ok_wish_kind bigN [vi z] (vb (decide (1 ≤ z) && decide (z ≤ 4))) (ty_wish_kind (Nat.le_refl _) z _ rfl)
  exact scalls_use (us := [.int .i64 z]) h (fun i x hx => by
    match i, hx with
    | 0, hx => cases hx; exact .lit _ rfl) rfl rfl w hd
theorem name_any (s : ByteArray) (b : Bool) (hs : t_topo_Name s = some b) (w : World) (hd : DW w) : Calls Tryd.prog 19 #[.string s] w fun e w' => e = .returned (.bool b) ∧ Below w.heap.size w w' := by
  have h := ok_topo_Name bigN [vt s] (vb b) (ty_topo_Name (Nat.le_refl _) s _ hs)
  exact scalls_use (us := [.string s]) h (fun i x hx => by
    match i, hx with
    | 0, hx => cases hx; exact .lit _ rfl) rfl rfl w hd
theorem itoa_any (z : Int) (h : 0 ≤ z ∧ z < 100) (w : World) (hd : DW w) : Calls Tryd.prog 7 #[.int .i64 z] w fun e w' => e = .returned (.string (itoaS z.toNat)) ∧ Below w.heap.size w w' := by
  have h := ok_Itoa [vi z] (vt (itoaS z.toNat)) (ty_Itoa z _ (by unfold t_Itoa; rw [if_pos h]))
  exact scalls_use (us := [.int .i64 z]) h (fun i x hx => by
    match i, hx with
    | 0, hx => cases hx; exact .lit _ rfl) rfl rfl w hd
/-- the words' cells, in a world that has more -/
theorem dw_at {w w' : World} (hd : DW w) (hb : Below w.heap.size w w') : DW w' := stb w w' hd hb
theorem toList_nil {s : ByteArray} (h : s.toList = []) : s = ⟨#[]⟩ := (str_iff s ⟨#[]⟩).mp (h.trans (by decide +kernel))
abbrev wArg (k via : Int) (fr to : ByteArray) : Value := .agg #[.int .i64 k, .string fr, .string to, .int .i64 via]
abbrev wRes (s : ByteArray) (e : Value) (w w' : World) (en : Ending) : Prop := en = .returned (.tuple #[.string s, e]) ∧ Below w.heap.size w w'
abbrev wErr (e : Int) : Value := .iface 58 (.int .i64 e)



theorem no_four {via : Int} {fr to : ByteArray} (h : ¬ (via = 0 ∧ fr = ⟨#[]⟩ ∧ to = ⟨#[]⟩)) (h1 : via = 0) (h2 : fr.toList = []) (h3 : (!to.toList.isEmpty) = false) : False := h ⟨h1, toList_nil h2, toList_nil (by simpa using h3)⟩
theorem no_name {a b : Bool} (h : (a && b) = false) (h1 : a = true) (h2 : (!b) = false) : False := by subst h1; simp at h2 h; rw [h2] at h; cases h
theorem itoaS_lt {n : Nat} (h : n < 100) : itoaS n = if n < 10 then ⟨#[UInt8.ofNat (48 + n)]⟩ else ⟨#[UInt8.ofNat (48 + n / 10), UInt8.ofNat (48 + n % 10)]⟩ := by
  unfold itoaS
  rw [Lib.decDigits]
  by_cases h1 : n < 10
  · rw [dif_pos h1, if_pos h1]
  · rw [dif_neg h1, if_neg h1, Lib.decDigits, dif_pos (show n / 10 < 10 by omega)]; rfl
theorem itoa_size {n : Nat} (h : n < 100) : (itoaS n).size ≤ 2 := by
  rw [itoaS_lt h]
  split
  · exact Nat.le_succ 1
  · exact Nat.le_refl 2
theorem itoa6 {z : Int} (h1 : 1 ≤ z) (h2 : z ≤ 6) : (itoaS z.toNat).size ≤ 10 := Nat.le_trans (itoa_size (by omega)) (by omega)
/-- is it a name? -/
noncomputable def nameB (s : ByteArray) : Bool := (!(numsOf s).any fun x => decide (x < 97) || decide (122 < x)) && (!decide (s = ⟨#[]⟩)) && decide ((s.size : Int) ≤ 6)
theorem s_NameB (s : ByteArray) (h : (s.size : Int) ≤ maxI) : t_topo_Name s = some (nameB s) := by
  unfold t_topo_Name
  rw [need_pos (decide_eq_true h), join_eq, loopI_eq (by rw [numsOf_len]; exact h), goI_any (p := fun x => decide (x < 97) || decide (122 < x)) (r := false) (numsOf s) 0 (fun x _ i k => rfl)]
  unfold nameB
  cases h : (numsOf s).any fun x => decide (x < 97) || decide (122 < x)
  · simp
  · simp
theorem nameB_size {s : ByteArray} (h : nameB s = true) : s.size ≤ 6 := by
  unfold nameB at h
  simp only [Bool.and_eq_true, decide_eq_true_eq] at h
  have := h.2
  omega
theorem names_any (fr to : ByteArray) (h1 : t_topo_Name fr = some (nameB fr)) (h2 : t_topo_Name to = some (nameB to)) (s : ByteArray) (hs : s = fr ∨ s = to) (w : World) (hd : DW w) : Calls Tryd.prog 19 #[.string s] w fun e w' => e = .returned (.bool (nameB s)) ∧ Below w.heap.size w w' := by
  rcases hs with rfl | rfl
  · exact name_any _ _ h1 w hd
  · exact name_any _ _ h2 w hd

set_option maxHeartbeats 1600000 in
theorem wp_kind (k via : Int) (fr to : ByteArray) (hk : (decide (1 ≤ k) && decide (k ≤ 4)) = false) (w : World) (hd : DW w) :
    Calls Tryd.prog 10 #[.agg #[.int .i64 k, .string fr, .string to, .int .i64 via]] w fun e w' => e = .returned (.tuple #[.string ⟨#[]⟩, wErr 1]) ∧ Below w.heap.size w w' := by
  have H := Lib.hid (fun w (hd : DW w) => by have := wkind_any k w hd; rw [hk] at this; exact this)
  have HD := Lib.hid hd
  clear hd hk
  go_enter Tryd.func10, Tryd.ntmps10
  go_wp2_with (first | (go_at_call 18; refine (H.out _ (dw_at HD.out (by go_grown))).mono ?_; rintro e w' ⟨rfl, hb⟩; obtain ⟨hc, hf⟩ := bcell hb; have hz := hb.size; (try simp at hz); (try have y1 := Nat.lt_of_succ_le hz); (try have y2 := Nat.lt_of_succ_lt y1); (try have y3 := Nat.lt_of_succ_lt y2); have hB := bstep (w := w) (by go_grown) hb; (try have z0 : w.heap.size < w'.heap.size := by omega); (try have z1 : w.heap.size + 1 < w'.heap.size := by omega); (try have z2 : w.heap.size + 1 + 1 < w'.heap.size := by omega); (try have z3 : w.heap.size + 1 + 1 + 1 < w'.heap.size := by omega)) | fail)
  all_goals refine bodyPost_ret (v := .tuple #[.string ⟨#[]⟩, wErr 1]) (by simp [results, Tryd.results10, go_sem, hc, hz]) rfl ?_
  all_goals exact ⟨rfl, by go_grown⟩

set_option maxHeartbeats 1600000 in
theorem wp_four_ok (w : World) (hd : DW w) :
    Calls Tryd.prog 10 #[.agg #[.int .i64 4, .string ⟨#[]⟩, .string ⟨#[]⟩, .int .i64 0]] w fun e w' => e = .returned (.tuple #[.string (wordsL.getD 4 ⟨#[]⟩), .nilIface]) ∧ Below w.heap.size w w' := by
  have hlt := dw_lt hd
  have g4 : w.cell? ⟨0, 4, none⟩ = some (.string (wordsL.getD 4 ⟨#[]⟩)) := hd 4 (by omega)
  have HD := Lib.hid hd
  clear hd 
  generalize wordsL.getD 4 ⟨#[]⟩ = q at g4 ⊢
  go_enter Tryd.func10, Tryd.ntmps10
  go_wp2_with (first | (go_at_call 18; refine (wkind_any _ _ (dw_at HD.out (by go_grown))).mono ?_; rintro e w' ⟨rfl, hb⟩; obtain ⟨hc, hf⟩ := bcell hb; have hz := hb.size; (try simp at hz); (try have y1 := Nat.lt_of_succ_le hz); (try have y2 := Nat.lt_of_succ_lt y1); (try have y3 := Nat.lt_of_succ_lt y2); have hB := bstep (w := w) (by go_grown) hb; (try have z0 : w.heap.size < w'.heap.size := by omega); (try have z1 : w.heap.size + 1 < w'.heap.size := by omega); (try have z2 : w.heap.size + 1 + 1 < w'.heap.size := by omega); (try have z3 : w.heap.size + 1 + 1 + 1 < w'.heap.size := by omega)) | fail)
  all_goals refine bodyPost_ret (v := .tuple #[.string q, .nilIface]) (by simp [results, Tryd.results10, go_sem, hc, hz]) rfl ?_
  all_goals exact ⟨rfl, by go_grown⟩

set_option maxHeartbeats 1600000 in
theorem wp_four_bad (via : Int) (fr to : ByteArray) (hb : ¬ (via = 0 ∧ fr = ⟨#[]⟩ ∧ to = ⟨#[]⟩)) (w : World) (hd : DW w) :
    Calls Tryd.prog 10 #[.agg #[.int .i64 4, .string fr, .string to, .int .i64 via]] w fun e w' => e = .returned (.tuple #[.string ⟨#[]⟩, wErr 3]) ∧ Below w.heap.size w w' := by
  have hlt := dw_lt hd
  have g4 : w.cell? ⟨0, 4, none⟩ = some (.string (wordsL.getD 4 ⟨#[]⟩)) := hd 4 (by omega)
  have HB := Lib.hid hb
  have HD := Lib.hid hd
  clear hd hb
  generalize wordsL.getD 4 ⟨#[]⟩ = q at g4
  go_enter Tryd.func10, Tryd.ntmps10
  go_wp2_with (first | (go_at_call 18; refine (wkind_any _ _ (dw_at HD.out (by go_grown))).mono ?_; rintro e w' ⟨rfl, hb⟩; obtain ⟨hc, hf⟩ := bcell hb; have hz := hb.size; (try simp at hz); (try have y1 := Nat.lt_of_succ_le hz); (try have y2 := Nat.lt_of_succ_lt y1); (try have y3 := Nat.lt_of_succ_lt y2); have hB := bstep (w := w) (by go_grown) hb; (try have z0 : w.heap.size < w'.heap.size := by omega); (try have z1 : w.heap.size + 1 < w'.heap.size := by omega); (try have z2 : w.heap.size + 1 + 1 < w'.heap.size := by omega); (try have z3 : w.heap.size + 1 + 1 + 1 < w'.heap.size := by omega)) | fail)
  all_goals first | (exfalso; exact no_four HB.out (by assumption) (by assumption) (by assumption)) | (refine bodyPost_ret (v := .tuple #[.string ⟨#[]⟩, wErr 3]) (by simp [results, Tryd.results10, go_sem, hc, hz]) rfl ?_; exact ⟨rfl, by go_grown⟩)

set_option maxHeartbeats 1600000 in
theorem wp_1_name (via : Int) (fr to : ByteArray) (h1 : t_topo_Name fr = some (nameB fr)) (h2 : t_topo_Name to = some (nameB to)) (hn : (nameB fr && nameB to) = false) (w : World) (hd : DW w) :
    Calls Tryd.prog 10 #[.agg #[.int .i64 1, .string fr, .string to, .int .i64 via]] w fun e w' => e = .returned (.tuple #[.string ⟨#[]⟩, wErr 2]) ∧ Below w.heap.size w w' := by
  have H := Lib.hid (names_any fr to h1 h2)
  have HB := Lib.hid hn
  have HD := Lib.hid hd
  clear hd h1 h2 hn
  go_enter Tryd.func10, Tryd.ntmps10
  go_wp2_with (first | (go_at_call 18; refine (wkind_any _ _ (dw_at HD.out (by go_grown))).mono ?_; rintro e w' ⟨rfl, hb⟩; obtain ⟨hc, hf⟩ := bcell hb; have hz := hb.size; (try simp at hz); (try have y1 := Nat.lt_of_succ_le hz); (try have y2 := Nat.lt_of_succ_lt y1); (try have y3 := Nat.lt_of_succ_lt y2); have hB := bstep (w := w) (by go_grown) hb; (try have z0 : w.heap.size < w'.heap.size := by omega); (try have z1 : w.heap.size + 1 < w'.heap.size := by omega); (try have z2 : w.heap.size + 1 + 1 < w'.heap.size := by omega); (try have z3 : w.heap.size + 1 + 1 + 1 < w'.heap.size := by omega)) | (go_at_call 19; refine (H.out _ (by first | exact .inl rfl | exact .inr rfl) _ (dw_at HD.out (by go_grown))).mono ?_; rintro e w' ⟨rfl, hb⟩; obtain ⟨hc, hf⟩ := bcell hb; have hz := hb.size; (try simp at hz); (try have y1 := Nat.lt_of_succ_le hz); (try have y2 := Nat.lt_of_succ_lt y1); (try have y3 := Nat.lt_of_succ_lt y2); have hB := bstep (w := w) (by go_grown) hb; (try have z0 : w.heap.size < w'.heap.size := by omega); (try have z1 : w.heap.size + 1 < w'.heap.size := by omega); (try have z2 : w.heap.size + 1 + 1 < w'.heap.size := by omega); (try have z3 : w.heap.size + 1 + 1 + 1 < w'.heap.size := by omega)) | fail)
  all_goals first | (exfalso; exact no_name HB.out (by assumption) (by assumption)) | (refine bodyPost_ret (v := .tuple #[.string ⟨#[]⟩, wErr 2]) (by simp [results, Tryd.results10, go_sem, hc, hz]) rfl ?_; exact ⟨rfl, by go_grown⟩)

set_option maxHeartbeats 1600000 in
theorem wp_1_via (via : Int) (fr to : ByteArray) (h1 : t_topo_Name fr = some (nameB fr)) (h2 : t_topo_Name to = some (nameB to)) (hn : nameB fr = true ∧ nameB to = true) (hv : via ≠ 0) (w : World) (hd : DW w) :
    Calls Tryd.prog 10 #[.agg #[.int .i64 1, .string fr, .string to, .int .i64 via]] w fun e w' => e = .returned (.tuple #[.string ⟨#[]⟩, wErr 3]) ∧ Below w.heap.size w w' := by
  have H := Lib.hid (fun s (hs : s = fr ∨ s = to) w (hd : DW w) => by have := names_any fr to h1 h2 s hs w hd; rw [show nameB s = true by rcases hs with rfl | rfl; exact hn.1; exact hn.2] at this; exact this)
  have HD := Lib.hid hd
  clear hd h1 h2 hn
  go_enter Tryd.func10, Tryd.ntmps10
  go_wp2_with (first | (go_at_call 18; refine (wkind_any _ _ (dw_at HD.out (by go_grown))).mono ?_; rintro e w' ⟨rfl, hb⟩; obtain ⟨hc, hf⟩ := bcell hb; have hz := hb.size; (try simp at hz); (try have y1 := Nat.lt_of_succ_le hz); (try have y2 := Nat.lt_of_succ_lt y1); (try have y3 := Nat.lt_of_succ_lt y2); have hB := bstep (w := w) (by go_grown) hb; (try have z0 : w.heap.size < w'.heap.size := by omega); (try have z1 : w.heap.size + 1 < w'.heap.size := by omega); (try have z2 : w.heap.size + 1 + 1 < w'.heap.size := by omega); (try have z3 : w.heap.size + 1 + 1 + 1 < w'.heap.size := by omega)) | (go_at_call 19; refine (H.out _ (by first | exact .inl rfl | exact .inr rfl) _ (dw_at HD.out (by go_grown))).mono ?_; rintro e w' ⟨rfl, hb⟩; obtain ⟨hc, hf⟩ := bcell hb; have hz := hb.size; (try simp at hz); (try have y1 := Nat.lt_of_succ_le hz); (try have y2 := Nat.lt_of_succ_lt y1); (try have y3 := Nat.lt_of_succ_lt y2); have hB := bstep (w := w) (by go_grown) hb; (try have z0 : w.heap.size < w'.heap.size := by omega); (try have z1 : w.heap.size + 1 < w'.heap.size := by omega); (try have z2 : w.heap.size + 1 + 1 < w'.heap.size := by omega); (try have z3 : w.heap.size + 1 + 1 + 1 < w'.heap.size := by omega)) | fail)
  all_goals refine bodyPost_ret (v := .tuple #[.string ⟨#[]⟩, wErr 3]) (by simp [results, Tryd.results10, go_sem, hc, hz]) rfl ?_
  all_goals exact ⟨rfl, by go_grown⟩

set_option maxHeartbeats 1600000 in
theorem wp_2_name (via : Int) (fr to : ByteArray) (h1 : t_topo_Name fr = some (nameB fr)) (h2 : t_topo_Name to = some (nameB to)) (hn : (nameB fr && nameB to) = false) (w : World) (hd : DW w) :
    Calls Tryd.prog 10 #[.agg #[.int .i64 2, .string fr, .string to, .int .i64 via]] w fun e w' => e = .returned (.tuple #[.string ⟨#[]⟩, wErr 2]) ∧ Below w.heap.size w w' := by
  have H := Lib.hid (names_any fr to h1 h2)
  have HB := Lib.hid hn
  have HD := Lib.hid hd
  clear hd h1 h2 hn
  go_enter Tryd.func10, Tryd.ntmps10
  go_wp2_with (first | (go_at_call 18; refine (wkind_any _ _ (dw_at HD.out (by go_grown))).mono ?_; rintro e w' ⟨rfl, hb⟩; obtain ⟨hc, hf⟩ := bcell hb; have hz := hb.size; (try simp at hz); (try have y1 := Nat.lt_of_succ_le hz); (try have y2 := Nat.lt_of_succ_lt y1); (try have y3 := Nat.lt_of_succ_lt y2); have hB := bstep (w := w) (by go_grown) hb; (try have z0 : w.heap.size < w'.heap.size := by omega); (try have z1 : w.heap.size + 1 < w'.heap.size := by omega); (try have z2 : w.heap.size + 1 + 1 < w'.heap.size := by omega); (try have z3 : w.heap.size + 1 + 1 + 1 < w'.heap.size := by omega)) | (go_at_call 19; refine (H.out _ (by first | exact .inl rfl | exact .inr rfl) _ (dw_at HD.out (by go_grown))).mono ?_; rintro e w' ⟨rfl, hb⟩; obtain ⟨hc, hf⟩ := bcell hb; have hz := hb.size; (try simp at hz); (try have y1 := Nat.lt_of_succ_le hz); (try have y2 := Nat.lt_of_succ_lt y1); (try have y3 := Nat.lt_of_succ_lt y2); have hB := bstep (w := w) (by go_grown) hb; (try have z0 : w.heap.size < w'.heap.size := by omega); (try have z1 : w.heap.size + 1 < w'.heap.size := by omega); (try have z2 : w.heap.size + 1 + 1 < w'.heap.size := by omega); (try have z3 : w.heap.size + 1 + 1 + 1 < w'.heap.size := by omega)) | fail)
  all_goals first | (exfalso; exact no_name HB.out (by assumption) (by assumption)) | (refine bodyPost_ret (v := .tuple #[.string ⟨#[]⟩, wErr 2]) (by simp [results, Tryd.results10, go_sem, hc, hz]) rfl ?_; exact ⟨rfl, by go_grown⟩)

set_option maxHeartbeats 1600000 in
theorem wp_2_via (via : Int) (fr to : ByteArray) (h1 : t_topo_Name fr = some (nameB fr)) (h2 : t_topo_Name to = some (nameB to)) (hn : nameB fr = true ∧ nameB to = true) (hv : via ≠ 0) (w : World) (hd : DW w) :
    Calls Tryd.prog 10 #[.agg #[.int .i64 2, .string fr, .string to, .int .i64 via]] w fun e w' => e = .returned (.tuple #[.string ⟨#[]⟩, wErr 3]) ∧ Below w.heap.size w w' := by
  have H := Lib.hid (fun s (hs : s = fr ∨ s = to) w (hd : DW w) => by have := names_any fr to h1 h2 s hs w hd; rw [show nameB s = true by rcases hs with rfl | rfl; exact hn.1; exact hn.2] at this; exact this)
  have HD := Lib.hid hd
  clear hd h1 h2 hn
  go_enter Tryd.func10, Tryd.ntmps10
  go_wp2_with (first | (go_at_call 18; refine (wkind_any _ _ (dw_at HD.out (by go_grown))).mono ?_; rintro e w' ⟨rfl, hb⟩; obtain ⟨hc, hf⟩ := bcell hb; have hz := hb.size; (try simp at hz); (try have y1 := Nat.lt_of_succ_le hz); (try have y2 := Nat.lt_of_succ_lt y1); (try have y3 := Nat.lt_of_succ_lt y2); have hB := bstep (w := w) (by go_grown) hb; (try have z0 : w.heap.size < w'.heap.size := by omega); (try have z1 : w.heap.size + 1 < w'.heap.size := by omega); (try have z2 : w.heap.size + 1 + 1 < w'.heap.size := by omega); (try have z3 : w.heap.size + 1 + 1 + 1 < w'.heap.size := by omega)) | (go_at_call 19; refine (H.out _ (by first | exact .inl rfl | exact .inr rfl) _ (dw_at HD.out (by go_grown))).mono ?_; rintro e w' ⟨rfl, hb⟩; obtain ⟨hc, hf⟩ := bcell hb; have hz := hb.size; (try simp at hz); (try have y1 := Nat.lt_of_succ_le hz); (try have y2 := Nat.lt_of_succ_lt y1); (try have y3 := Nat.lt_of_succ_lt y2); have hB := bstep (w := w) (by go_grown) hb; (try have z0 : w.heap.size < w'.heap.size := by omega); (try have z1 : w.heap.size + 1 < w'.heap.size := by omega); (try have z2 : w.heap.size + 1 + 1 < w'.heap.size := by omega); (try have z3 : w.heap.size + 1 + 1 + 1 < w'.heap.size := by omega)) | fail)
  all_goals refine bodyPost_ret (v := .tuple #[.string ⟨#[]⟩, wErr 3]) (by simp [results, Tryd.results10, go_sem, hc, hz]) rfl ?_
  all_goals exact ⟨rfl, by go_grown⟩

set_option maxHeartbeats 1600000 in
theorem wp_3_via (via : Int) (fr to : ByteArray) (hv : via < 1 ∨ 6 < via) (w : World) (hd : DW w) :
    Calls Tryd.prog 10 #[.agg #[.int .i64 3, .string fr, .string to, .int .i64 via]] w fun e w' => e = .returned (.tuple #[.string ⟨#[]⟩, wErr 1]) ∧ Below w.heap.size w w' := by
  have HB := Lib.hid hv
  have HD := Lib.hid hd
  clear hd hv
  go_enter Tryd.func10, Tryd.ntmps10
  go_wp2_with (first | (go_at_call 18; refine (wkind_any _ _ (dw_at HD.out (by go_grown))).mono ?_; rintro e w' ⟨rfl, hb⟩; obtain ⟨hc, hf⟩ := bcell hb; have hz := hb.size; (try simp at hz); (try have y1 := Nat.lt_of_succ_le hz); (try have y2 := Nat.lt_of_succ_lt y1); (try have y3 := Nat.lt_of_succ_lt y2); have hB := bstep (w := w) (by go_grown) hb; (try have z0 : w.heap.size < w'.heap.size := by omega); (try have z1 : w.heap.size + 1 < w'.heap.size := by omega); (try have z2 : w.heap.size + 1 + 1 < w'.heap.size := by omega); (try have z3 : w.heap.size + 1 + 1 + 1 < w'.heap.size := by omega)) | fail)
  all_goals first | (exfalso; have hb := HB.out; omega) | (refine bodyPost_ret (v := .tuple #[.string ⟨#[]⟩, wErr 1]) (by simp [results, Tryd.results10, go_sem, hc, hz]) rfl ?_; exact ⟨rfl, by go_grown⟩)

set_option maxHeartbeats 1600000 in
theorem wp_3_name (via : Int) (fr to : ByteArray) (hv1 : 1 ≤ via) (hv6 : via ≤ 6) (h1 : t_topo_Name fr = some (nameB fr)) (h2 : t_topo_Name to = some (nameB to)) (hn : (nameB fr && nameB to) = false) (w : World) (hd : DW w) :
    Calls Tryd.prog 10 #[.agg #[.int .i64 3, .string fr, .string to, .int .i64 via]] w fun e w' => e = .returned (.tuple #[.string ⟨#[]⟩, wErr 2]) ∧ Below w.heap.size w w' := by
  have H := Lib.hid (names_any fr to h1 h2)
  have HB := Lib.hid hn
  have HD := Lib.hid hd
  clear hd h1 h2 hn
  go_enter Tryd.func10, Tryd.ntmps10
  go_wp2_with (first | (go_at_call 18; refine (wkind_any _ _ (dw_at HD.out (by go_grown))).mono ?_; rintro e w' ⟨rfl, hb⟩; obtain ⟨hc, hf⟩ := bcell hb; have hz := hb.size; (try simp at hz); (try have y1 := Nat.lt_of_succ_le hz); (try have y2 := Nat.lt_of_succ_lt y1); (try have y3 := Nat.lt_of_succ_lt y2); have hB := bstep (w := w) (by go_grown) hb; (try have z0 : w.heap.size < w'.heap.size := by omega); (try have z1 : w.heap.size + 1 < w'.heap.size := by omega); (try have z2 : w.heap.size + 1 + 1 < w'.heap.size := by omega); (try have z3 : w.heap.size + 1 + 1 + 1 < w'.heap.size := by omega)) | (go_at_call 19; refine (H.out _ (by first | exact .inl rfl | exact .inr rfl) _ (dw_at HD.out (by go_grown))).mono ?_; rintro e w' ⟨rfl, hb⟩; obtain ⟨hc, hf⟩ := bcell hb; have hz := hb.size; (try simp at hz); (try have y1 := Nat.lt_of_succ_le hz); (try have y2 := Nat.lt_of_succ_lt y1); (try have y3 := Nat.lt_of_succ_lt y2); have hB := bstep (w := w) (by go_grown) hb; (try have z0 : w.heap.size < w'.heap.size := by omega); (try have z1 : w.heap.size + 1 < w'.heap.size := by omega); (try have z2 : w.heap.size + 1 + 1 < w'.heap.size := by omega); (try have z3 : w.heap.size + 1 + 1 + 1 < w'.heap.size := by omega)) | fail)
  all_goals first | (exfalso; exact no_name HB.out (by assumption) (by assumption)) | (refine bodyPost_ret (v := .tuple #[.string ⟨#[]⟩, wErr 2]) (by simp [results, Tryd.results10, go_sem, hc, hz]) rfl ?_; exact ⟨rfl, by go_grown⟩)

set_option maxHeartbeats 1600000 in
theorem wp_1_ok (fr to : ByteArray) (h1 : t_topo_Name fr = some (nameB fr)) (h2 : t_topo_Name to = some (nameB to)) (hn : nameB fr = true ∧ nameB to = true) (hs1 : fr.size ≤ 1000) (hs2 : to.size ≤ 1000) (w : World) (hd : DW w) :
    Calls Tryd.prog 10 #[.agg #[.int .i64 1, .string fr, .string to, .int .i64 0]] w fun e w' => e = .returned (.tuple #[.string (wordsL.getD 1 ⟨#[]⟩ ++ ⟨#[32]⟩ ++ fr ++ ⟨#[32]⟩ ++ to), .nilIface]) ∧ Below w.heap.size w w' := by
  have H := Lib.hid (fun s (hs : s = fr ∨ s = to) w (hd : DW w) => by have := names_any fr to h1 h2 s hs w hd; rw [show nameB s = true by rcases hs with rfl | rfl; exact hn.1; exact hn.2] at this; exact this)
  obtain ⟨q, eq, hq, HQ⟩ : ∃ q : ByteArray, q = wordsL.getD 1 ⟨#[]⟩ ∧ q.size ≤ 10 ∧ Hid (∀ w' : World, DW w' → w'.cell? ⟨0, 1, none⟩ = some (.string q)) := ⟨_, rfl, by decide +kernel, Lib.hid fun w' h => h 1 (by omega)⟩
  rw [← eq]
  have HD := Lib.hid hd
  clear hd h1 h2 hn eq
  go_enter Tryd.func10, Tryd.ntmps10
  go_wp2_with (first | (go_at_call 18; refine (wkind_any _ _ (dw_at HD.out (by go_grown))).mono ?_; rintro e w' ⟨rfl, hb⟩; obtain ⟨hc, hf⟩ := bcell hb; have hz := hb.size; (try simp at hz); (try have y1 := Nat.lt_of_succ_le hz); (try have y2 := Nat.lt_of_succ_lt y1); (try have y3 := Nat.lt_of_succ_lt y2); have hB := bstep (w := w) (by go_grown) hb; (try have z0 : w.heap.size < w'.heap.size := by omega); (try have z1 : w.heap.size + 1 < w'.heap.size := by omega); (try have z2 : w.heap.size + 1 + 1 < w'.heap.size := by omega); (try have z3 : w.heap.size + 1 + 1 + 1 < w'.heap.size := by omega)) | (go_at_call 19; refine (H.out _ (by first | exact .inl rfl | exact .inr rfl) _ (dw_at HD.out (by go_grown))).mono ?_; rintro e w' ⟨rfl, hb⟩; obtain ⟨hc, hf⟩ := bcell hb; have hz := hb.size; (try simp at hz); (try have y1 := Nat.lt_of_succ_le hz); (try have y2 := Nat.lt_of_succ_lt y1); (try have y3 := Nat.lt_of_succ_lt y2); have hB := bstep (w := w) (by go_grown) hb; (try have z0 : w.heap.size < w'.heap.size := by omega); (try have z1 : w.heap.size + 1 < w'.heap.size := by omega); (try have z2 : w.heap.size + 1 + 1 < w'.heap.size := by omega); (try have z3 : w.heap.size + 1 + 1 + 1 < w'.heap.size := by omega)) | fail)
  have gq := HQ.out _ (dw_at HD.out hB)
  have hl0 := dw_lt (dw_at HD.out hB)
  refine wp_region_below (by kernel_rfl) (by kernel_rfl) ?_
  repeat (go_big_quiet_step (fail))
  refine wpQuiet_nil ?_
  intro w2 hb2
  obtain ⟨hc2, hf2⟩ := bcell hb2
  have hz2 := hb2.size
  have hB2 := bstep (w := w) (by go_grown) hb2
  go_wp2_with (fail)
  all_goals refine bodyPost_ret (v := .tuple #[.string (q ++ ⟨#[32]⟩ ++ fr ++ ⟨#[32]⟩ ++ to), .nilIface]) (by simp [results, Tryd.results10, go_sem, hc, hz]) rfl ?_
  all_goals exact ⟨rfl, by go_grown⟩
set_option maxHeartbeats 1600000 in
theorem wp_2_ok (fr to : ByteArray) (h1 : t_topo_Name fr = some (nameB fr)) (h2 : t_topo_Name to = some (nameB to)) (hn : nameB fr = true ∧ nameB to = true) (hs1 : fr.size ≤ 1000) (hs2 : to.size ≤ 1000) (w : World) (hd : DW w) :
    Calls Tryd.prog 10 #[.agg #[.int .i64 2, .string fr, .string to, .int .i64 0]] w fun e w' => e = .returned (.tuple #[.string (wordsL.getD 2 ⟨#[]⟩ ++ ⟨#[32]⟩ ++ fr ++ ⟨#[32]⟩ ++ to), .nilIface]) ∧ Below w.heap.size w w' := by
  have H := Lib.hid (fun s (hs : s = fr ∨ s = to) w (hd : DW w) => by have := names_any fr to h1 h2 s hs w hd; rw [show nameB s = true by rcases hs with rfl | rfl; exact hn.1; exact hn.2] at this; exact this)
  obtain ⟨q, eq, hq, HQ⟩ : ∃ q : ByteArray, q = wordsL.getD 2 ⟨#[]⟩ ∧ q.size ≤ 10 ∧ Hid (∀ w' : World, DW w' → w'.cell? ⟨0, 2, none⟩ = some (.string q)) := ⟨_, rfl, by decide +kernel, Lib.hid fun w' h => h 2 (by omega)⟩
  rw [← eq]
  have HD := Lib.hid hd
  clear hd h1 h2 hn eq
  go_enter Tryd.func10, Tryd.ntmps10
  go_wp2_with (first | (go_at_call 18; refine (wkind_any _ _ (dw_at HD.out (by go_grown))).mono ?_; rintro e w' ⟨rfl, hb⟩; obtain ⟨hc, hf⟩ := bcell hb; have hz := hb.size; (try simp at hz); (try have y1 := Nat.lt_of_succ_le hz); (try have y2 := Nat.lt_of_succ_lt y1); (try have y3 := Nat.lt_of_succ_lt y2); have hB := bstep (w := w) (by go_grown) hb; (try have z0 : w.heap.size < w'.heap.size := by omega); (try have z1 : w.heap.size + 1 < w'.heap.size := by omega); (try have z2 : w.heap.size + 1 + 1 < w'.heap.size := by omega); (try have z3 : w.heap.size + 1 + 1 + 1 < w'.heap.size := by omega)) | (go_at_call 19; refine (H.out _ (by first | exact .inl rfl | exact .inr rfl) _ (dw_at HD.out (by go_grown))).mono ?_; rintro e w' ⟨rfl, hb⟩; obtain ⟨hc, hf⟩ := bcell hb; have hz := hb.size; (try simp at hz); (try have y1 := Nat.lt_of_succ_le hz); (try have y2 := Nat.lt_of_succ_lt y1); (try have y3 := Nat.lt_of_succ_lt y2); have hB := bstep (w := w) (by go_grown) hb; (try have z0 : w.heap.size < w'.heap.size := by omega); (try have z1 : w.heap.size + 1 < w'.heap.size := by omega); (try have z2 : w.heap.size + 1 + 1 < w'.heap.size := by omega); (try have z3 : w.heap.size + 1 + 1 + 1 < w'.heap.size := by omega)) | fail)
  have gq := HQ.out _ (dw_at HD.out hB)
  have hl0 := dw_lt (dw_at HD.out hB)
  refine wp_region_below (by kernel_rfl) (by kernel_rfl) ?_
  repeat (go_big_quiet_step (fail))
  refine wpQuiet_nil ?_
  intro w2 hb2
  obtain ⟨hc2, hf2⟩ := bcell hb2
  have hz2 := hb2.size
  have hB2 := bstep (w := w) (by go_grown) hb2
  go_wp2_with (fail)
  all_goals refine bodyPost_ret (v := .tuple #[.string (q ++ ⟨#[32]⟩ ++ fr ++ ⟨#[32]⟩ ++ to), .nilIface]) (by simp [results, Tryd.results10, go_sem, hc, hz]) rfl ?_
  all_goals exact ⟨rfl, by go_grown⟩
set_option maxHeartbeats 1600000 in
theorem wp_3_ok (via : Int) (hv1 : 1 ≤ via) (hv6 : via ≤ 6) (fr to : ByteArray) (h1 : t_topo_Name fr = some (nameB fr)) (h2 : t_topo_Name to = some (nameB to)) (hn : nameB fr = true ∧ nameB to = true) (hs1 : fr.size ≤ 1000) (hs2 : to.size ≤ 1000) (w : World) (hd : DW w) :
    Calls Tryd.prog 10 #[.agg #[.int .i64 3, .string fr, .string to, .int .i64 via]] w fun e w' => e = .returned (.tuple #[.string (wordsL.getD 3 ⟨#[]⟩ ++ ⟨#[32]⟩ ++ fr ++ ⟨#[32]⟩ ++ to ++ (⟨#[32]⟩ ++ itoaS via.toNat)), .nilIface]) ∧ Below w.heap.size w w' := by
  have H := Lib.hid (fun s (hs : s = fr ∨ s = to) w (hd : DW w) => by have := names_any fr to h1 h2 s hs w hd; rw [show nameB s = true by rcases hs with rfl | rfl; exact hn.1; exact hn.2] at this; exact this)
  have HI := Lib.hid (itoa_any via (by omega))
  have hi : (itoaS via.toNat).size ≤ 10 := itoa6 hv1 hv6
  generalize itoaS via.toNat = qi at HI hi ⊢
  obtain ⟨q, eq, hq, HQ⟩ : ∃ q : ByteArray, q = wordsL.getD 3 ⟨#[]⟩ ∧ q.size ≤ 10 ∧ Hid (∀ w' : World, DW w' → w'.cell? ⟨0, 3, none⟩ = some (.string q)) := ⟨_, rfl, by decide +kernel, Lib.hid fun w' h => h 3 (by omega)⟩
  rw [← eq]
  have HD := Lib.hid hd
  clear hd h1 h2 hn eq
  go_enter Tryd.func10, Tryd.ntmps10
  go_wp2_with (first | (go_at_call 18; refine (wkind_any _ _ (dw_at HD.out (by go_grown))).mono ?_; rintro e w' ⟨rfl, hb⟩; obtain ⟨hc, hf⟩ := bcell hb; have hz := hb.size; (try simp at hz); (try have y1 := Nat.lt_of_succ_le hz); (try have y2 := Nat.lt_of_succ_lt y1); (try have y3 := Nat.lt_of_succ_lt y2); have hB := bstep (w := w) (by go_grown) hb; (try have z0 : w.heap.size < w'.heap.size := by omega); (try have z1 : w.heap.size + 1 < w'.heap.size := by omega); (try have z2 : w.heap.size + 1 + 1 < w'.heap.size := by omega); (try have z3 : w.heap.size + 1 + 1 + 1 < w'.heap.size := by omega)) | (go_at_call 19; refine (H.out _ (by first | exact .inl rfl | exact .inr rfl) _ (dw_at HD.out (by go_grown))).mono ?_; rintro e w' ⟨rfl, hb⟩; obtain ⟨hc, hf⟩ := bcell hb; have hz := hb.size; (try simp at hz); (try have y1 := Nat.lt_of_succ_le hz); (try have y2 := Nat.lt_of_succ_lt y1); (try have y3 := Nat.lt_of_succ_lt y2); have hB := bstep (w := w) (by go_grown) hb; (try have z0 : w.heap.size < w'.heap.size := by omega); (try have z1 : w.heap.size + 1 < w'.heap.size := by omega); (try have z2 : w.heap.size + 1 + 1 < w'.heap.size := by omega); (try have z3 : w.heap.size + 1 + 1 + 1 < w'.heap.size := by omega)) | fail)
  have gq := HQ.out _ (dw_at HD.out hB)
  have hl0 := dw_lt (dw_at HD.out hB)
  refine wp_region_below (by kernel_rfl) (by kernel_rfl) ?_
  repeat (go_big_quiet_step (fail))
  refine wpQuiet_nil ?_
  intro w2 hb2
  obtain ⟨hc2, hf2⟩ := bcell hb2
  have hz2 := hb2.size
  have hB2 := bstep (w := w) (by go_grown) hb2
  go_wp2_with ((go_at_call 7; refine (HI.out _ (dw_at HD.out (by go_grown))).mono ?_; rintro e w3 ⟨rfl, hbw3⟩; obtain ⟨hcw3, hfw3⟩ := bcell hbw3; have hzw3 := hbw3.size; (try simp at hzw3); have hBw3 := bstep (w := w) (by go_grown) hbw3; (try have : wa.heap.size < w3.heap.size := by omega); (try have : w.heap.size < w3.heap.size := by omega); (try have : w.heap.size + 1 < w3.heap.size := by omega); (try have : w.heap.size + 1 + 1 < w3.heap.size := by omega); (try have : w.heap.size + 1 + 1 + 1 < w3.heap.size := by omega); (try have : w2.heap.size < w3.heap.size := by omega)))
  all_goals refine bodyPost_ret (v := .tuple #[.string (q ++ ⟨#[32]⟩ ++ fr ++ ⟨#[32]⟩ ++ to ++ (⟨#[32]⟩ ++ qi)), .nilIface]) (by simp [results, Tryd.results10, go_sem, hc, hz]) rfl ?_
  all_goals exact ⟨rfl, by go_grown⟩
/-- what is wrong with a wish that is to be written; what is written -/
noncomputable def wpE (x : T_Wish) : Int :=
  if ¬ (1 ≤ x.What ∧ x.What ≤ 4) then 1
  else if x.What = 3 ∧ (x.Via < 1 ∨ 6 < x.Via) then 1
  else if x.What ≠ 4 ∧ (nameB x.From && nameB x.To) = false then 2
  else if (x.What ≠ 3 ∧ x.Via ≠ 0) ∨ (x.What = 4 ∧ ¬ (x.From = ⟨#[]⟩ ∧ x.To = ⟨#[]⟩)) then 3
  else 0
noncomputable def wpS (x : T_Wish) : ByteArray :=
  if wpE x ≠ 0 then ⟨#[]⟩
  else if x.What = 4 then wordsL.getD 4 ⟨#[]⟩
  else if x.What = 3 then wordsL.getD 3 ⟨#[]⟩ ++ ⟨#[32]⟩ ++ x.From ++ ⟨#[32]⟩ ++ x.To ++ (⟨#[32]⟩ ++ itoaS x.Via.toNat)
  else wordsL.getD x.What.toNat ⟨#[]⟩ ++ ⟨#[32]⟩ ++ x.From ++ ⟨#[32]⟩ ++ x.To
theorem wprint_any (x : T_Wish) (h1 : (x.From.size : Int) ≤ maxI) (h2 : (x.To.size : Int) ≤ maxI) (w : World) (hd : DW w) :
    Calls Tryd.prog 10 #[.agg #[.int .i64 x.What, .string x.From, .string x.To, .int .i64 x.Via]] w fun e w' => e = .returned (.tuple #[.string (wpS x), errOf (wpE x)]) ∧ Below w.heap.size w w' := by
  obtain ⟨k, fr, to, via⟩ := x
  simp only at h1 h2 ⊢
  have n1 := s_NameB fr h1
  have n2 := s_NameB to h2
  have hs : ∀ (e : Int) (he : wpE ⟨k, fr, to, via⟩ = e), e ≠ 0 → wpS ⟨k, fr, to, via⟩ = ⟨#[]⟩ := fun e he h0 => by unfold wpS; rw [he, if_pos h0]
  by_cases hk : 1 ≤ k ∧ k ≤ 4
  rotate_left
  · have he : wpE ⟨k, fr, to, via⟩ = 1 := by unfold wpE; rw [if_pos hk]
    rw [hs 1 he (by omega), he, errOf_ne (by omega)]
    exact wp_kind k via fr to (by cases h : decide (1 ≤ k) && decide (k ≤ 4); rfl; exact absurd (by simpa using h) hk) w hd
  by_cases h4 : k = 4
  · subst h4
    by_cases hb : via = 0 ∧ fr = ⟨#[]⟩ ∧ to = ⟨#[]⟩
    · obtain ⟨rfl, rfl, rfl⟩ := hb
      have he : wpE ⟨4, ⟨#[]⟩, ⟨#[]⟩, 0⟩ = 0 := by unfold wpE; simp
      rw [show wpS ⟨4, ⟨#[]⟩, ⟨#[]⟩, 0⟩ = wordsL.getD 4 ⟨#[]⟩ by unfold wpS; rw [he]; simp, he]
      exact wp_four_ok w hd
    · have he : wpE ⟨4, fr, to, via⟩ = 3 := by
        unfold wpE
        rw [if_neg (by simp), if_neg (by simp), if_neg (by simp), if_pos]
        by_cases hv : via = 0
        · exact .inr ⟨rfl, fun h => hb ⟨hv, h⟩⟩
        · exact .inl ⟨by simp, hv⟩
      rw [hs 3 he (by omega), he, errOf_ne (by omega)]
      exact wp_four_bad via fr to hb w hd
  by_cases h3 : k = 3
  · subst h3
    by_cases hv : via < 1 ∨ 6 < via
    · have he : wpE ⟨3, fr, to, via⟩ = 1 := by unfold wpE; rw [if_neg (by simp), if_pos ⟨rfl, hv⟩]
      rw [hs 1 he (by omega), he, errOf_ne (by omega)]
      exact wp_3_via via fr to hv w hd
    · by_cases hn : (nameB fr && nameB to) = false
      · have he : wpE ⟨3, fr, to, via⟩ = 2 := by unfold wpE; rw [if_neg (by simp), if_neg (fun h => hv h.2), if_pos ⟨by simp, hn⟩]
        rw [hs 2 he (by omega), he, errOf_ne (by omega)]
        exact wp_3_name via fr to (by omega) (by omega) n1 n2 hn w hd
      · have hn' : nameB fr = true ∧ nameB to = true := by simpa using hn
        have he : wpE ⟨3, fr, to, via⟩ = 0 := by unfold wpE; rw [if_neg (by simp), if_neg (fun h => hv h.2), if_neg (fun h => hn h.2), if_neg (by simp)]
        rw [show wpS ⟨3, fr, to, via⟩ = wordsL.getD 3 ⟨#[]⟩ ++ ⟨#[32]⟩ ++ fr ++ ⟨#[32]⟩ ++ to ++ (⟨#[32]⟩ ++ itoaS via.toNat) by unfold wpS; rw [he]; simp, he]
        exact wp_3_ok via (by omega) (by omega) fr to n1 n2 hn' (by have := nameB_size hn'.1; omega) (by have := nameB_size hn'.2; omega) w hd
  have h12 : k = 1 ∨ k = 2 := by omega
  by_cases hn : (nameB fr && nameB to) = false
  · have he : wpE ⟨k, fr, to, via⟩ = 2 := by unfold wpE; rw [if_neg (fun h => h hk), if_neg (fun h => h3 h.1), if_pos ⟨h4, hn⟩]
    rw [hs 2 he (by omega), he, errOf_ne (by omega)]
    rcases h12 with rfl | rfl
    · exact wp_1_name via fr to n1 n2 hn w hd
    · exact wp_2_name via fr to n1 n2 hn w hd
  · have hn' : nameB fr = true ∧ nameB to = true := by simpa using hn
    by_cases hv : via = 0
    · subst hv
      have he : wpE ⟨k, fr, to, 0⟩ = 0 := by unfold wpE; rw [if_neg (fun h => h hk), if_neg (fun h => h3 h.1), if_neg (fun h => hn h.2), if_neg (by simp [h4])]
      have es : wpS ⟨k, fr, to, 0⟩ = wordsL.getD k.toNat ⟨#[]⟩ ++ ⟨#[32]⟩ ++ fr ++ ⟨#[32]⟩ ++ to := by unfold wpS; rw [he]; simp [h3, h4]
      rw [es, he]
      rcases h12 with rfl | rfl
      · exact wp_1_ok fr to n1 n2 hn' (by have := nameB_size hn'.1; omega) (by have := nameB_size hn'.2; omega) w hd
      · exact wp_2_ok fr to n1 n2 hn' (by have := nameB_size hn'.1; omega) (by have := nameB_size hn'.2; omega) w hd
    · have he : wpE ⟨k, fr, to, via⟩ = 3 := by unfold wpE; rw [if_neg (fun h => h hk), if_neg (fun h => h3 h.1), if_neg (fun h => hn h.2), if_pos (.inl ⟨h3, hv⟩)]
      rw [hs 3 he (by omega), he, errOf_ne (by omega)]
      rcases h12 with rfl | rfl
      · exact wp_1_via via fr to n1 n2 hn' hv w hd
      · exact wp_2_via via fr to n1 n2 hn' hv w hd
end Go.Proofs.YtikfnpemmcmioaaDoor
namespace Go.Proofs.YtikfnpemmcmioaaDoor.Ty
open Go Go.RowKit Go.Proofs.YtikfnpemmcmioaaDoor Go.Proofs.YtikfnpemmcmioaaDoor.Den
noncomputable def sem_WPrint (_ : Nat) (xs : List V) : Option V := match xs with
  | [.agg [.lit (.int .i64 k), .lit (.string fr), .lit (.string to), .lit (.int .i64 via)]] => if (fr.size : Int) ≤ maxI ∧ (to.size : Int) ≤ maxI then some (.tup [vt (wpS ⟨k, fr, to, via⟩), eV (wpE ⟨k, fr, to, via⟩)]) else none
  | _ => none
theorem ok_WPrint (n : Nat) : SemOk Tryd.prog DW 10 (sem_WPrint n) := fun xs y hy => by
  unfold sem_WPrint at hy
  split at hy
  · rename_i k fr to via
    split at hy
    · rename_i h
      obtain rfl := Option.some.inj hy
      refine ⟨⟨_, Tryd.func10, by kernel_rfl, by kernel_rfl⟩, fun w M vs hd hM hrel => ?_⟩
      have e2 : vs = #[.agg #[.int .i64 k, .string fr, .string to, .int .i64 via]] := by
        have e := valsL_rel (us := [.agg #[.int .i64 k, .string fr, .string to, .int .i64 via]]) rfl hrel
        apply Array.toList_inj.1; simpa using e
      rw [e2]
      refine (wprint_any ⟨k, fr, to, via⟩ h.1 h.2 w hd).mono fun en w' ⟨he, hb⟩ => ⟨_, M, he, grow_below hM hb, .tup _ _ rfl fun i z hz => ?_⟩
      match i, hz with
      | 0, hz => cases hz; exact .lit _ rfl
      | 1, hz =>
        cases hz
        show Rel M (errOf (wpE ⟨k, fr, to, via⟩)) (.lit (errOf (wpE ⟨k, fr, to, via⟩)))
        exact .lit _ (by unfold errOf; split <;> rfl)
    · cases hy
  · cases hy
noncomputable def t_wish_Print (x : T_Wish) : Option (ByteArray × Int) := if (x.From.size : Int) ≤ maxI ∧ (x.To.size : Int) ≤ maxI then some (wpS x, wpE x) else none
theorem ty_wish_Print {n : Nat} (x : T_Wish) : Rv (fun x : ByteArray × Int => V.tup [(vt x.1), (eV x.2)]) (sem_WPrint n [T_Wish.e x]) (t_wish_Print x) := fun b hb => by
  unfold t_wish_Print at hb
  split at hb
  · rename_i h
    cases hb
    show (if _ then _ else _) = _
    rw [if_pos h]
  · cases hb
end Go.Proofs.YtikfnpemmcmioaaDoor.Ty
