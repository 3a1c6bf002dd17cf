/- slices.Clone at each type: a new row that holds what the old one holds. -/
import Derived.Test.YtpafgegoieakoaaDenR
import Derived.Test.YtpafgegoieakoaaDenPlain
import Derived.Test.YtpafgegoieakoaaRows
import Derived.WalkKit
import Derived.WalkSpells
import Derived.WalkLawsBesides
import Derived.Handy
import Derived.Deep.Light
import Derived.Deep.RegionLaw
import Derived.Lib.SliceRun
import Derived.Lib.Hide
namespace Go.Proofs.Ytpafgegoieakoaa.Den
open Go.RowKit
set_option maxRecDepth 100000

theorem el_slices_Clone_api_Link_api_Link : Elem Try.prog 22 29 4 32 := elem_of (z := .agg #[(Go.Value.int Go.IntKind.i64 0), (Go.Value.int Go.IntKind.i64 0), (Go.Value.int Go.IntKind.i64 0), (Go.Value.int Go.IntKind.i64 0)]) Try.underlying22 (by kernel_rfl) rfl (by omega)
theorem nil_slices_Clone_api_Link_api_Link (a : Option Addr) (n c : Nat) (w : World) : (binOp .eql 22 (.slice a n c) (.slice none 0 0)).run Try.prog w = .ok (.bool a.isNone) w := Lib.run_eql_slice_nil w _ _ a n c 0 0 Try.underlying22
set_option maxHeartbeats 400000 in
theorem calls_slices_Clone_api_Link_api_Link (A : Option Addr) (cp : Nat) (ys : List (List Value)) (w : World) (h : RowC w 4 A ys.length cp ys) (hone : ∀ cs ∈ ys, ∀ u ∈ cs, u.oneCell' = true) (hl : ys.length ≤ 4294967296) :
    Calls Try.prog 36 #[.slice A ys.length cp] w fun en w' => ∃ v, en = .returned v ∧ Owns w' w.heap.size 29 4 v ys ∧ Below w.heap.size w w' := by
  have H := Lib.hid h
  cases A with
  | none =>
    have hrun := nil_slices_Clone_api_Link_api_Link none 0 cp
    have h0 : ys = [] := by
      rcases Nat.eq_zero_or_pos ys.length with h0 | h0
      · exact List.eq_nil_of_length_eq_zero h0
      · obtain ⟨b, o, e, -⟩ := h.2.2.2 h0; cases e
    subst h0
    clear h
    show Calls Try.prog 36 #[.slice none 0 cp] w _
    go_enter Try.func36, Try.ntmps36
    simp only [Option.isNone] at hrun
    go_wp2_with fail
    go_ret
    exact ⟨_, rfl, Owns.nil_ _ _ _ _, by go_grown⟩
  | some a =>
    have hrun := nil_slices_Clone_api_Link_api_Link (some a) ys.length cp
    clear h
    go_enter Try.func36, Try.ntmps36
    simp only [Option.isNone] at hrun
    go_wp2_with (at_builtin; refine wpList_extend el_slices_Clone_api_Link_api_Link rfl (.tmp 5) (.tmp 6) rfl w.heap.size _ [] rfl (Owns.made rfl rfl (Nat.le_refl _) rfl (by simp) (by simp [maxLen])) (some a) _ cp ys rfl (H.out.below (by go_grown)) hone ?c1 ?c2 ?c3 ?_)
    case c1 => simp [maxLen]; omega
    case c2 => simp; omega
    case c3 => simp
    intro v' w2 hO hB
    go_wp2_with fail
    go_ret
    exact ⟨_, rfl, by simpa using hO, ((Below.refl _ _).alloc (Nat.le_refl _) _).trans hB⟩
theorem rok_slices_Clone_api_Link_api_Link : RSemOk Try.prog DW 36 29 (semClone 4) := clone_row ⟨Try.f36, Try.func36, by kernel_rfl, by kernel_rfl⟩ (by kernel_rfl) (by omega) calls_slices_Clone_api_Link_api_Link
theorem sok_slices_Clone_api_Link_api_Link : SemOk Try.prog DW 36 (semClone 4) := semOk_of_row rok_slices_Clone_api_Link_api_Link clone_sl
theorem mok_slices_Clone_api_Link_api_Link : MSemOk Try.prog DW 36 (semCloneM 4) := clone_m ⟨Try.f36, Try.func36, by kernel_rfl, by kernel_rfl⟩ (by omega) calls_slices_Clone_api_Link_api_Link

theorem el_slices_Clone_api_Host_api_Host : Elem Try.prog 23 43 3 32 := elem_of (z := .agg #[(Go.Value.string (ByteArray.mk #[])), (Go.Value.int Go.IntKind.i64 0), (Go.Value.int Go.IntKind.i64 0)]) Try.underlying23 (by kernel_rfl) rfl (by omega)
theorem nil_slices_Clone_api_Host_api_Host (a : Option Addr) (n c : Nat) (w : World) : (binOp .eql 23 (.slice a n c) (.slice none 0 0)).run Try.prog w = .ok (.bool a.isNone) w := Lib.run_eql_slice_nil w _ _ a n c 0 0 Try.underlying23
set_option maxHeartbeats 400000 in
theorem calls_slices_Clone_api_Host_api_Host (A : Option Addr) (cp : Nat) (ys : List (List Value)) (w : World) (h : RowC w 3 A ys.length cp ys) (hone : ∀ cs ∈ ys, ∀ u ∈ cs, u.oneCell' = true) (hl : ys.length ≤ 4294967296) :
    Calls Try.prog 37 #[.slice A ys.length cp] w fun en w' => ∃ v, en = .returned v ∧ Owns w' w.heap.size 43 3 v ys ∧ Below w.heap.size w w' := by
  have H := Lib.hid h
  cases A with
  | none =>
    have hrun := nil_slices_Clone_api_Host_api_Host none 0 cp
    have h0 : ys = [] := by
      rcases Nat.eq_zero_or_pos ys.length with h0 | h0
      · exact List.eq_nil_of_length_eq_zero h0
      · obtain ⟨b, o, e, -⟩ := h.2.2.2 h0; cases e
    subst h0
    clear h
    show Calls Try.prog 37 #[.slice none 0 cp] w _
    go_enter Try.func37, Try.ntmps37
    simp only [Option.isNone] at hrun
    go_wp2_with fail
    go_ret
    exact ⟨_, rfl, Owns.nil_ _ _ _ _, by go_grown⟩
  | some a =>
    have hrun := nil_slices_Clone_api_Host_api_Host (some a) ys.length cp
    clear h
    go_enter Try.func37, Try.ntmps37
    simp only [Option.isNone] at hrun
    go_wp2_with (at_builtin; refine wpList_extend el_slices_Clone_api_Host_api_Host rfl (.tmp 5) (.tmp 6) rfl w.heap.size _ [] rfl (Owns.made rfl rfl (Nat.le_refl _) rfl (by simp) (by simp [maxLen])) (some a) _ cp ys rfl (H.out.below (by go_grown)) hone ?c1 ?c2 ?c3 ?_)
    case c1 => simp [maxLen]; omega
    case c2 => simp; omega
    case c3 => simp
    intro v' w2 hO hB
    go_wp2_with fail
    go_ret
    exact ⟨_, rfl, by simpa using hO, ((Below.refl _ _).alloc (Nat.le_refl _) _).trans hB⟩
theorem rok_slices_Clone_api_Host_api_Host : RSemOk Try.prog DW 37 43 (semClone 3) := clone_row ⟨Try.f37, Try.func37, by kernel_rfl, by kernel_rfl⟩ (by kernel_rfl) (by omega) calls_slices_Clone_api_Host_api_Host
theorem sok_slices_Clone_api_Host_api_Host : SemOk Try.prog DW 37 (semClone 3) := semOk_of_row rok_slices_Clone_api_Host_api_Host clone_sl
theorem mok_slices_Clone_api_Host_api_Host : MSemOk Try.prog DW 37 (semCloneM 3) := clone_m ⟨Try.f37, Try.func37, by kernel_rfl, by kernel_rfl⟩ (by omega) calls_slices_Clone_api_Host_api_Host

theorem el_slices_Clone_api_Table_api_Rule : Elem Try.prog 79 81 6 48 := elem_of (z := .agg #[(Go.Value.int Go.IntKind.i64 0), (Go.Value.int Go.IntKind.i64 0), (Go.Value.int Go.IntKind.i64 0), (Go.Value.int Go.IntKind.i64 0), (Go.Value.int Go.IntKind.i64 0), (Go.Value.int Go.IntKind.i64 0)]) Try.underlying79 (by kernel_rfl) rfl (by omega)
theorem nil_slices_Clone_api_Table_api_Rule (a : Option Addr) (n c : Nat) (w : World) : (binOp .eql 79 (.slice a n c) (.slice none 0 0)).run Try.prog w = .ok (.bool a.isNone) w := Lib.run_eql_slice_nil w _ _ a n c 0 0 Try.underlying79
set_option maxHeartbeats 400000 in
theorem calls_slices_Clone_api_Table_api_Rule (A : Option Addr) (cp : Nat) (ys : List (List Value)) (w : World) (h : RowC w 6 A ys.length cp ys) (hone : ∀ cs ∈ ys, ∀ u ∈ cs, u.oneCell' = true) (hl : ys.length ≤ 4294967296) :
    Calls Try.prog 38 #[.slice A ys.length cp] w fun en w' => ∃ v, en = .returned v ∧ Owns w' w.heap.size 81 6 v ys ∧ Below w.heap.size w w' := by
  have H := Lib.hid h
  cases A with
  | none =>
    have hrun := nil_slices_Clone_api_Table_api_Rule none 0 cp
    have h0 : ys = [] := by
      rcases Nat.eq_zero_or_pos ys.length with h0 | h0
      · exact List.eq_nil_of_length_eq_zero h0
      · obtain ⟨b, o, e, -⟩ := h.2.2.2 h0; cases e
    subst h0
    clear h
    show Calls Try.prog 38 #[.slice none 0 cp] w _
    go_enter Try.func38, Try.ntmps38
    simp only [Option.isNone] at hrun
    go_wp2_with fail
    go_ret
    exact ⟨_, rfl, Owns.nil_ _ _ _ _, by go_grown⟩
  | some a =>
    have hrun := nil_slices_Clone_api_Table_api_Rule (some a) ys.length cp
    clear h
    go_enter Try.func38, Try.ntmps38
    simp only [Option.isNone] at hrun
    go_wp2_with (at_builtin; refine wpList_extend el_slices_Clone_api_Table_api_Rule rfl (.tmp 5) (.tmp 6) rfl w.heap.size _ [] rfl (Owns.made rfl rfl (Nat.le_refl _) rfl (by simp) (by simp [maxLen])) (some a) _ cp ys rfl (H.out.below (by go_grown)) hone ?c1 ?c2 ?c3 ?_)
    case c1 => simp [maxLen]; omega
    case c2 => simp; omega
    case c3 => simp
    intro v' w2 hO hB
    go_wp2_with fail
    go_ret
    exact ⟨_, rfl, by simpa using hO, ((Below.refl _ _).alloc (Nat.le_refl _) _).trans hB⟩
theorem rok_slices_Clone_api_Table_api_Rule : RSemOk Try.prog DW 38 81 (semClone 6) := clone_row ⟨Try.f38, Try.func38, by kernel_rfl, by kernel_rfl⟩ (by kernel_rfl) (by omega) calls_slices_Clone_api_Table_api_Rule
theorem sok_slices_Clone_api_Table_api_Rule : SemOk Try.prog DW 38 (semClone 6) := semOk_of_row rok_slices_Clone_api_Table_api_Rule clone_sl
theorem mok_slices_Clone_api_Table_api_Rule : MSemOk Try.prog DW 38 (semCloneM 6) := clone_m ⟨Try.f38, Try.func38, by kernel_rfl, by kernel_rfl⟩ (by omega) calls_slices_Clone_api_Table_api_Rule

theorem el_slices_Clone_api_Hop_api_Hop : Elem Try.prog 49 104 3 24 := elem_of (z := .agg #[(Go.Value.int Go.IntKind.i64 0), (Go.Value.int Go.IntKind.i64 0), (Go.Value.int Go.IntKind.i64 0)]) Try.underlying49 (by kernel_rfl) rfl (by omega)
theorem nil_slices_Clone_api_Hop_api_Hop (a : Option Addr) (n c : Nat) (w : World) : (binOp .eql 49 (.slice a n c) (.slice none 0 0)).run Try.prog w = .ok (.bool a.isNone) w := Lib.run_eql_slice_nil w _ _ a n c 0 0 Try.underlying49
set_option maxHeartbeats 400000 in
theorem calls_slices_Clone_api_Hop_api_Hop (A : Option Addr) (cp : Nat) (ys : List (List Value)) (w : World) (h : RowC w 3 A ys.length cp ys) (hone : ∀ cs ∈ ys, ∀ u ∈ cs, u.oneCell' = true) (hl : ys.length ≤ 4294967296) :
    Calls Try.prog 57 #[.slice A ys.length cp] w fun en w' => ∃ v, en = .returned v ∧ Owns w' w.heap.size 104 3 v ys ∧ Below w.heap.size w w' := by
  have H := Lib.hid h
  cases A with
  | none =>
    have hrun := nil_slices_Clone_api_Hop_api_Hop none 0 cp
    have h0 : ys = [] := by
      rcases Nat.eq_zero_or_pos ys.length with h0 | h0
      · exact List.eq_nil_of_length_eq_zero h0
      · obtain ⟨b, o, e, -⟩ := h.2.2.2 h0; cases e
    subst h0
    clear h
    show Calls Try.prog 57 #[.slice none 0 cp] w _
    go_enter Try.func57, Try.ntmps57
    simp only [Option.isNone] at hrun
    go_wp2_with fail
    go_ret
    exact ⟨_, rfl, Owns.nil_ _ _ _ _, by go_grown⟩
  | some a =>
    have hrun := nil_slices_Clone_api_Hop_api_Hop (some a) ys.length cp
    clear h
    go_enter Try.func57, Try.ntmps57
    simp only [Option.isNone] at hrun
    go_wp2_with (at_builtin; refine wpList_extend el_slices_Clone_api_Hop_api_Hop rfl (.tmp 5) (.tmp 6) rfl w.heap.size _ [] rfl (Owns.made rfl rfl (Nat.le_refl _) rfl (by simp) (by simp [maxLen])) (some a) _ cp ys rfl (H.out.below (by go_grown)) hone ?c1 ?c2 ?c3 ?_)
    case c1 => simp [maxLen]; omega
    case c2 => simp; omega
    case c3 => simp
    intro v' w2 hO hB
    go_wp2_with fail
    go_ret
    exact ⟨_, rfl, by simpa using hO, ((Below.refl _ _).alloc (Nat.le_refl _) _).trans hB⟩
theorem rok_slices_Clone_api_Hop_api_Hop : RSemOk Try.prog DW 57 104 (semClone 3) := clone_row ⟨Try.f57, Try.func57, by kernel_rfl, by kernel_rfl⟩ (by kernel_rfl) (by omega) calls_slices_Clone_api_Hop_api_Hop
theorem sok_slices_Clone_api_Hop_api_Hop : SemOk Try.prog DW 57 (semClone 3) := semOk_of_row rok_slices_Clone_api_Hop_api_Hop clone_sl
theorem mok_slices_Clone_api_Hop_api_Hop : MSemOk Try.prog DW 57 (semCloneM 3) := clone_m ⟨Try.f57, Try.func57, by kernel_rfl, by kernel_rfl⟩ (by omega) calls_slices_Clone_api_Hop_api_Hop

end Go.Proofs.Ytpafgegoieakoaa.Den
