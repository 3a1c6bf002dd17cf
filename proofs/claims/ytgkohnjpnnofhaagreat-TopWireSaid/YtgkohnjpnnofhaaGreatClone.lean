/- slices.Clone at each type: a new row that holds what the old one holds. -/
import Derived.Test.YtgkohnjpnnofhaaGreatDenR
import Derived.Test.YtgkohnjpnnofhaaGreatDenPlain
import Derived.Test.YtgkohnjpnnofhaaGreatRows
import Derived.WalkKit
import Derived.WalkSpells
import Derived.WalkLawsBesides
import Derived.Handy
import Derived.Deep.Light
import Derived.Deep.RegionLaw
import Derived.Lib.SliceRun
import Derived.Lib.Hide
namespace Go.Proofs.YtgkohnjpnnofhaaGreat.Den
open Go.RowKit
set_option maxRecDepth 100000
theorem el_slices_Clone_api_Round_api_Op : Elem Tryz.prog 86 49 8 64 := elem_of (z := .agg #[(Go.Value.int Go.IntKind.i64 0), (Go.Value.bool Bool.false), (Go.Value.int Go.IntKind.i64 0), (Go.Value.int Go.IntKind.i64 0), (Go.Value.int Go.IntKind.i64 0), (Go.Value.int Go.IntKind.i64 0), (Go.Value.int Go.IntKind.i64 0), (Go.Value.int Go.IntKind.i64 0)]) Tryz.underlying86 (by kernel_rfl) rfl (by omega)
theorem nil_slices_Clone_api_Round_api_Op (a : Option Addr) (n c : Nat) (w : World) : (binOp .eql 86 (.slice a n c) (.slice none 0 0)).run Tryz.prog w = .ok (.bool a.isNone) w := Lib.run_eql_slice_nil w _ _ a n c 0 0 Tryz.underlying86
set_option maxHeartbeats 400000 in
theorem calls_slices_Clone_api_Round_api_Op (A : Option Addr) (cp : Nat) (ys : List (List Value)) (w : World) (h : RowC w 8 A ys.length cp ys) (hone : ∀ cs ∈ ys, ∀ u ∈ cs, u.oneCell' = true) (hl : ys.length ≤ 4294967296) :
  Calls Tryz.prog 25 #[.slice A ys.length cp] w fun en w' => ∃ v, en = .returned v ∧ Owns w' w.heap.size 49 8 v ys ∧ Below w.heap.size w w' := by
 have H := Lib.hid h
 cases A with
 | none =>
  have hrun := nil_slices_Clone_api_Round_api_Op none 0 cp
  have h0 : ys = [] := by
   rcases Nat.eq_zero_or_pos ys.length with h0 | h0
   ·exact List.eq_nil_of_length_eq_zero h0
   ·obtain ⟨b, o, e, -⟩ := h.2.2.2 h0; cases e
  subst h0
  clear h
  show Calls Tryz.prog 25 #[.slice none 0 cp] w _
  go_enter Tryz.func25, Tryz.ntmps25
  simp only [Option.isNone] at hrun
  go_wp2_with fail
  go_ret
  exact ⟨_, rfl, Owns.nil_ _ _ _ _, by go_grown⟩
 | some a =>
  have hrun := nil_slices_Clone_api_Round_api_Op (some a) ys.length cp
  clear h
  go_enter Tryz.func25, Tryz.ntmps25
  simp only [Option.isNone] at hrun
  go_wp2_with (at_builtin; refine wpList_extend el_slices_Clone_api_Round_api_Op rfl (.tmp 5) (.tmp 6) rfl w.heap.size _ [] rfl (Owns.made rfl rfl (Nat.le_refl _) rfl (by simp) (by simp [maxLen])) (some a) _ cp ys rfl (H.out.below (by go_grown)) hone ?c1 ?c2 ?c3 ?_)
  case c1 => simp [maxLen]; omega
  case c2 => simp; omega
  case c3 => simp
  intro v' w2 hO hB
  go_wp2_with fail
  go_ret
  exact ⟨_, rfl, by simpa using hO, ((Below.refl _ _).alloc (Nat.le_refl _) _).trans hB⟩
theorem rok_slices_Clone_api_Round_api_Op : RSemOk Tryz.prog DW 25 49 (semClone 8) := clone_row ⟨Tryz.f25, Tryz.func25, by kernel_rfl, by kernel_rfl⟩ (by kernel_rfl) (by omega) calls_slices_Clone_api_Round_api_Op
theorem sok_slices_Clone_api_Round_api_Op : SemOk Tryz.prog DW 25 (semClone 8) := semOk_of_row rok_slices_Clone_api_Round_api_Op clone_sl
theorem el_slices_Clone_api_Table_api_Rule : Elem Tryz.prog 58 47 6 48 := elem_of (z := .agg #[(Go.Value.int Go.IntKind.i64 0), (Go.Value.int Go.IntKind.i64 0), (Go.Value.int Go.IntKind.i64 0), (Go.Value.int Go.IntKind.i64 0), (Go.Value.int Go.IntKind.i64 0), (Go.Value.int Go.IntKind.i64 0)]) Tryz.underlying58 (by kernel_rfl) rfl (by omega)
theorem nil_slices_Clone_api_Table_api_Rule (a : Option Addr) (n c : Nat) (w : World) : (binOp .eql 58 (.slice a n c) (.slice none 0 0)).run Tryz.prog w = .ok (.bool a.isNone) w := Lib.run_eql_slice_nil w _ _ a n c 0 0 Tryz.underlying58
set_option maxHeartbeats 400000 in
theorem calls_slices_Clone_api_Table_api_Rule (A : Option Addr) (cp : Nat) (ys : List (List Value)) (w : World) (h : RowC w 6 A ys.length cp ys) (hone : ∀ cs ∈ ys, ∀ u ∈ cs, u.oneCell' = true) (hl : ys.length ≤ 4294967296) :
  Calls Tryz.prog 34 #[.slice A ys.length cp] w fun en w' => ∃ v, en = .returned v ∧ Owns w' w.heap.size 47 6 v ys ∧ Below w.heap.size w w' := by
 have H := Lib.hid h
 cases A with
 | none =>
  have hrun := nil_slices_Clone_api_Table_api_Rule none 0 cp
  have h0 : ys = [] := by
   rcases Nat.eq_zero_or_pos ys.length with h0 | h0
   ·exact List.eq_nil_of_length_eq_zero h0
   ·obtain ⟨b, o, e, -⟩ := h.2.2.2 h0; cases e
  subst h0
  clear h
  show Calls Tryz.prog 34 #[.slice none 0 cp] w _
  go_enter Tryz.func34, Tryz.ntmps34
  simp only [Option.isNone] at hrun
  go_wp2_with fail
  go_ret
  exact ⟨_, rfl, Owns.nil_ _ _ _ _, by go_grown⟩
 | some a =>
  have hrun := nil_slices_Clone_api_Table_api_Rule (some a) ys.length cp
  clear h
  go_enter Tryz.func34, Tryz.ntmps34
  simp only [Option.isNone] at hrun
  go_wp2_with (at_builtin; refine wpList_extend el_slices_Clone_api_Table_api_Rule rfl (.tmp 5) (.tmp 6) rfl w.heap.size _ [] rfl (Owns.made rfl rfl (Nat.le_refl _) rfl (by simp) (by simp [maxLen])) (some a) _ cp ys rfl (H.out.below (by go_grown)) hone ?c1 ?c2 ?c3 ?_)
  case c1 => simp [maxLen]; omega
  case c2 => simp; omega
  case c3 => simp
  intro v' w2 hO hB
  go_wp2_with fail
  go_ret
  exact ⟨_, rfl, by simpa using hO, ((Below.refl _ _).alloc (Nat.le_refl _) _).trans hB⟩
theorem rok_slices_Clone_api_Table_api_Rule : RSemOk Tryz.prog DW 34 47 (semClone 6) := clone_row ⟨Tryz.f34, Tryz.func34, by kernel_rfl, by kernel_rfl⟩ (by kernel_rfl) (by omega) calls_slices_Clone_api_Table_api_Rule
theorem sok_slices_Clone_api_Table_api_Rule : SemOk Tryz.prog DW 34 (semClone 6) := semOk_of_row rok_slices_Clone_api_Table_api_Rule clone_sl
theorem el_slices_Clone_api_Link_api_Link : Elem Tryz.prog 22 127 4 32 := elem_of (z := .agg #[(Go.Value.int Go.IntKind.i64 0), (Go.Value.int Go.IntKind.i64 0), (Go.Value.int Go.IntKind.i64 0), (Go.Value.int Go.IntKind.i64 0)]) Tryz.underlying22 (by kernel_rfl) rfl (by omega)
theorem nil_slices_Clone_api_Link_api_Link (a : Option Addr) (n c : Nat) (w : World) : (binOp .eql 22 (.slice a n c) (.slice none 0 0)).run Tryz.prog w = .ok (.bool a.isNone) w := Lib.run_eql_slice_nil w _ _ a n c 0 0 Tryz.underlying22
set_option maxHeartbeats 400000 in
theorem calls_slices_Clone_api_Link_api_Link (A : Option Addr) (cp : Nat) (ys : List (List Value)) (w : World) (h : RowC w 4 A ys.length cp ys) (hone : ∀ cs ∈ ys, ∀ u ∈ cs, u.oneCell' = true) (hl : ys.length ≤ 4294967296) :
  Calls Tryz.prog 47 #[.slice A ys.length cp] w fun en w' => ∃ v, en = .returned v ∧ Owns w' w.heap.size 127 4 v ys ∧ Below w.heap.size w w' := by
 have H := Lib.hid h
 cases A with
 | none =>
  have hrun := nil_slices_Clone_api_Link_api_Link none 0 cp
  have h0 : ys = [] := by
   rcases Nat.eq_zero_or_pos ys.length with h0 | h0
   ·exact List.eq_nil_of_length_eq_zero h0
   ·obtain ⟨b, o, e, -⟩ := h.2.2.2 h0; cases e
  subst h0
  clear h
  show Calls Tryz.prog 47 #[.slice none 0 cp] w _
  go_enter Tryz.func47, Tryz.ntmps47
  simp only [Option.isNone] at hrun
  go_wp2_with fail
  go_ret
  exact ⟨_, rfl, Owns.nil_ _ _ _ _, by go_grown⟩
 | some a =>
  have hrun := nil_slices_Clone_api_Link_api_Link (some a) ys.length cp
  clear h
  go_enter Tryz.func47, Tryz.ntmps47
  simp only [Option.isNone] at hrun
  go_wp2_with (at_builtin; refine wpList_extend el_slices_Clone_api_Link_api_Link rfl (.tmp 5) (.tmp 6) rfl w.heap.size _ [] rfl (Owns.made rfl rfl (Nat.le_refl _) rfl (by simp) (by simp [maxLen])) (some a) _ cp ys rfl (H.out.below (by go_grown)) hone ?c1 ?c2 ?c3 ?_)
  case c1 => simp [maxLen]; omega
  case c2 => simp; omega
  case c3 => simp
  intro v' w2 hO hB
  go_wp2_with fail
  go_ret
  exact ⟨_, rfl, by simpa using hO, ((Below.refl _ _).alloc (Nat.le_refl _) _).trans hB⟩
theorem rok_slices_Clone_api_Link_api_Link : RSemOk Tryz.prog DW 47 127 (semClone 4) := clone_row ⟨Tryz.f47, Tryz.func47, by kernel_rfl, by kernel_rfl⟩ (by kernel_rfl) (by omega) calls_slices_Clone_api_Link_api_Link
theorem sok_slices_Clone_api_Link_api_Link : SemOk Tryz.prog DW 47 (semClone 4) := semOk_of_row rok_slices_Clone_api_Link_api_Link clone_sl
theorem el_slices_Clone_api_Host_api_Host : Elem Tryz.prog 23 67 3 32 := elem_of (z := .agg #[(Go.Value.string (ByteArray.mk #[])), (Go.Value.int Go.IntKind.i64 0), (Go.Value.int Go.IntKind.i64 0)]) Tryz.underlying23 (by kernel_rfl) rfl (by omega)
theorem nil_slices_Clone_api_Host_api_Host (a : Option Addr) (n c : Nat) (w : World) : (binOp .eql 23 (.slice a n c) (.slice none 0 0)).run Tryz.prog w = .ok (.bool a.isNone) w := Lib.run_eql_slice_nil w _ _ a n c 0 0 Tryz.underlying23
set_option maxHeartbeats 400000 in
theorem calls_slices_Clone_api_Host_api_Host (A : Option Addr) (cp : Nat) (ys : List (List Value)) (w : World) (h : RowC w 3 A ys.length cp ys) (hone : ∀ cs ∈ ys, ∀ u ∈ cs, u.oneCell' = true) (hl : ys.length ≤ 4294967296) :
  Calls Tryz.prog 48 #[.slice A ys.length cp] w fun en w' => ∃ v, en = .returned v ∧ Owns w' w.heap.size 67 3 v ys ∧ Below w.heap.size w w' := by
 have H := Lib.hid h
 cases A with
 | none =>
  have hrun := nil_slices_Clone_api_Host_api_Host none 0 cp
  have h0 : ys = [] := by
   rcases Nat.eq_zero_or_pos ys.length with h0 | h0
   ·exact List.eq_nil_of_length_eq_zero h0
   ·obtain ⟨b, o, e, -⟩ := h.2.2.2 h0; cases e
  subst h0
  clear h
  show Calls Tryz.prog 48 #[.slice none 0 cp] w _
  go_enter Tryz.func48, Tryz.ntmps48
  simp only [Option.isNone] at hrun
  go_wp2_with fail
  go_ret
  exact ⟨_, rfl, Owns.nil_ _ _ _ _, by go_grown⟩
 | some a =>
  have hrun := nil_slices_Clone_api_Host_api_Host (some a) ys.length cp
  clear h
  go_enter Tryz.func48, Tryz.ntmps48
  simp only [Option.isNone] at hrun
  go_wp2_with (at_builtin; refine wpList_extend el_slices_Clone_api_Host_api_Host rfl (.tmp 5) (.tmp 6) rfl w.heap.size _ [] rfl (Owns.made rfl rfl (Nat.le_refl _) rfl (by simp) (by simp [maxLen])) (some a) _ cp ys rfl (H.out.below (by go_grown)) hone ?c1 ?c2 ?c3 ?_)
  case c1 => simp [maxLen]; omega
  case c2 => simp; omega
  case c3 => simp
  intro v' w2 hO hB
  go_wp2_with fail
  go_ret
  exact ⟨_, rfl, by simpa using hO, ((Below.refl _ _).alloc (Nat.le_refl _) _).trans hB⟩
theorem rok_slices_Clone_api_Host_api_Host : RSemOk Tryz.prog DW 48 67 (semClone 3) := clone_row ⟨Tryz.f48, Tryz.func48, by kernel_rfl, by kernel_rfl⟩ (by kernel_rfl) (by omega) calls_slices_Clone_api_Host_api_Host
theorem sok_slices_Clone_api_Host_api_Host : SemOk Tryz.prog DW 48 (semClone 3) := semOk_of_row rok_slices_Clone_api_Host_api_Host clone_sl
theorem el_slices_Clone_api_Hop_api_Hop : Elem Tryz.prog 68 147 3 24 := elem_of (z := .agg #[(Go.Value.int Go.IntKind.i64 0), (Go.Value.int Go.IntKind.i64 0), (Go.Value.int Go.IntKind.i64 0)]) Tryz.underlying68 (by kernel_rfl) rfl (by omega)
theorem nil_slices_Clone_api_Hop_api_Hop (a : Option Addr) (n c : Nat) (w : World) : (binOp .eql 68 (.slice a n c) (.slice none 0 0)).run Tryz.prog w = .ok (.bool a.isNone) w := Lib.run_eql_slice_nil w _ _ a n c 0 0 Tryz.underlying68
set_option maxHeartbeats 400000 in
theorem calls_slices_Clone_api_Hop_api_Hop (A : Option Addr) (cp : Nat) (ys : List (List Value)) (w : World) (h : RowC w 3 A ys.length cp ys) (hone : ∀ cs ∈ ys, ∀ u ∈ cs, u.oneCell' = true) (hl : ys.length ≤ 4294967296) :
  Calls Tryz.prog 80 #[.slice A ys.length cp] w fun en w' => ∃ v, en = .returned v ∧ Owns w' w.heap.size 147 3 v ys ∧ Below w.heap.size w w' := by
 have H := Lib.hid h
 cases A with
 | none =>
  have hrun := nil_slices_Clone_api_Hop_api_Hop none 0 cp
  have h0 : ys = [] := by
   rcases Nat.eq_zero_or_pos ys.length with h0 | h0
   ·exact List.eq_nil_of_length_eq_zero h0
   ·obtain ⟨b, o, e, -⟩ := h.2.2.2 h0; cases e
  subst h0
  clear h
  show Calls Tryz.prog 80 #[.slice none 0 cp] w _
  go_enter Tryz.func80, Tryz.ntmps80
  simp only [Option.isNone] at hrun
  go_wp2_with fail
  go_ret
  exact ⟨_, rfl, Owns.nil_ _ _ _ _, by go_grown⟩
 | some a =>
  have hrun := nil_slices_Clone_api_Hop_api_Hop (some a) ys.length cp
  clear h
  go_enter Tryz.func80, Tryz.ntmps80
  simp only [Option.isNone] at hrun
  go_wp2_with (at_builtin; refine wpList_extend el_slices_Clone_api_Hop_api_Hop rfl (.tmp 5) (.tmp 6) rfl w.heap.size _ [] rfl (Owns.made rfl rfl (Nat.le_refl _) rfl (by simp) (by simp [maxLen])) (some a) _ cp ys rfl (H.out.below (by go_grown)) hone ?c1 ?c2 ?c3 ?_)
  case c1 => simp [maxLen]; omega
  case c2 => simp; omega
  case c3 => simp
  intro v' w2 hO hB
  go_wp2_with fail
  go_ret
  exact ⟨_, rfl, by simpa using hO, ((Below.refl _ _).alloc (Nat.le_refl _) _).trans hB⟩
theorem rok_slices_Clone_api_Hop_api_Hop : RSemOk Tryz.prog DW 80 147 (semClone 3) := clone_row ⟨Tryz.f80, Tryz.func80, by kernel_rfl, by kernel_rfl⟩ (by kernel_rfl) (by omega) calls_slices_Clone_api_Hop_api_Hop
end Go.Proofs.YtgkohnjpnnofhaaGreat.Den
