/- slices.Clone at each type: a new row that holds what the old one holds. -/
import Derived.Test.YtgfleiknigjnbaaDoorDenR
import Derived.Test.YtgfleiknigjnbaaDoorDenDoor
import Derived.Test.YtgfleiknigjnbaaDoorRows
import Derived.WalkKit
import Derived.WalkSpells
import Derived.WalkLawsBesides
import Derived.Handy
import Derived.Deep.Light
import Derived.Deep.RegionLaw
import Derived.Lib.SliceRun
import Derived.Lib.Hide
namespace Go.Proofs.YtgfleiknigjnbaaDoor.Den
open Go.RowKit
set_option maxRecDepth 100000

theorem el_slices_Clone_api_Table_api_Rule : Elem Tryd.prog 23 35 6 48 := elem_of (z := .agg #[(Go.Value.int Go.IntKind.i64 0), (Go.Value.int Go.IntKind.i64 0), (Go.Value.int Go.IntKind.i64 0), (Go.Value.int Go.IntKind.i64 0), (Go.Value.int Go.IntKind.i64 0), (Go.Value.int Go.IntKind.i64 0)]) Tryd.underlying23 (by kernel_rfl) rfl (by omega)
theorem nil_slices_Clone_api_Table_api_Rule (a : Option Addr) (n c : Nat) (w : World) : (binOp .eql 23 (.slice a n c) (.slice none 0 0)).run Tryd.prog w = .ok (.bool a.isNone) w := Lib.run_eql_slice_nil w _ _ a n c 0 0 Tryd.underlying23
set_option maxHeartbeats 400000 in
theorem calls_slices_Clone_api_Table_api_Rule (A : Option Addr) (cp : Nat) (ys : List (List Value)) (w : World) (h : RowC w 6 A ys.length cp ys) (hone : ∀ cs ∈ ys, ∀ u ∈ cs, u.oneCell' = true) (hl : ys.length ≤ 4294967296) :
    Calls Tryd.prog 38 #[.slice A ys.length cp] w fun en w' => ∃ v, en = .returned v ∧ Owns w' w.heap.size 35 6 v ys ∧ Below w.heap.size w w' := by
  have H := Lib.hid h
  cases A with
  | none =>
    have hrun := nil_slices_Clone_api_Table_api_Rule none 0 cp
    have h0 : ys = [] := by
      rcases Nat.eq_zero_or_pos ys.length with h0 | h0
      · exact List.eq_nil_of_length_eq_zero h0
      · obtain ⟨b, o, e, -⟩ := h.2.2.2 h0; cases e
    subst h0
    clear h
    show Calls Tryd.prog 38 #[.slice none 0 cp] w _
    go_enter Tryd.func38, Tryd.ntmps38
    simp only [Option.isNone] at hrun
    go_wp2_with fail
    go_ret
    exact ⟨_, rfl, Owns.nil_ _ _ _ _, by go_grown⟩
  | some a =>
    have hrun := nil_slices_Clone_api_Table_api_Rule (some a) ys.length cp
    clear h
    go_enter Tryd.func38, Tryd.ntmps38
    simp only [Option.isNone] at hrun
    go_wp2_with (at_builtin; refine wpList_extend el_slices_Clone_api_Table_api_Rule rfl (.tmp 5) (.tmp 6) rfl w.heap.size _ [] rfl (Owns.made rfl rfl (Nat.le_refl _) rfl (by simp) (by simp [maxLen])) (some a) _ cp ys rfl (H.out.below (by go_grown)) hone ?c1 ?c2 ?c3 ?_)
    case c1 => simp [maxLen]; omega
    case c2 => simp; omega
    case c3 => simp
    intro v' w2 hO hB
    go_wp2_with fail
    go_ret
    exact ⟨_, rfl, by simpa using hO, ((Below.refl _ _).alloc (Nat.le_refl _) _).trans hB⟩
theorem rok_slices_Clone_api_Table_api_Rule : RSemOk Tryd.prog DW 38 35 (semClone 6) := clone_row ⟨Tryd.f38, Tryd.func38, by kernel_rfl, by kernel_rfl⟩ (by kernel_rfl) (by omega) calls_slices_Clone_api_Table_api_Rule
theorem sok_slices_Clone_api_Table_api_Rule : SemOk Tryd.prog DW 38 (semClone 6) := semOk_of_row rok_slices_Clone_api_Table_api_Rule clone_sl
theorem mok_slices_Clone_api_Table_api_Rule : MSemOk Tryd.prog DW 38 (semCloneM 6) := clone_m ⟨Tryd.f38, Tryd.func38, by kernel_rfl, by kernel_rfl⟩ (by omega) calls_slices_Clone_api_Table_api_Rule

theorem el_slices_Clone_int_int : Elem Tryd.prog 45 3 1 8 := elem_of (z := (Go.Value.int Go.IntKind.i64 0)) Tryd.underlying45 (by kernel_rfl) rfl (by omega)
theorem nil_slices_Clone_int_int (a : Option Addr) (n c : Nat) (w : World) : (binOp .eql 45 (.slice a n c) (.slice none 0 0)).run Tryd.prog w = .ok (.bool a.isNone) w := Lib.run_eql_slice_nil w _ _ a n c 0 0 Tryd.underlying45
set_option maxHeartbeats 400000 in
theorem calls_slices_Clone_int_int (A : Option Addr) (cp : Nat) (ys : List (List Value)) (w : World) (h : RowC w 1 A ys.length cp ys) (hone : ∀ cs ∈ ys, ∀ u ∈ cs, u.oneCell' = true) (hl : ys.length ≤ 4294967296) :
    Calls Tryd.prog 42 #[.slice A ys.length cp] w fun en w' => ∃ v, en = .returned v ∧ Owns w' w.heap.size 3 1 v ys ∧ Below w.heap.size w w' := by
  have H := Lib.hid h
  cases A with
  | none =>
    have hrun := nil_slices_Clone_int_int none 0 cp
    have h0 : ys = [] := by
      rcases Nat.eq_zero_or_pos ys.length with h0 | h0
      · exact List.eq_nil_of_length_eq_zero h0
      · obtain ⟨b, o, e, -⟩ := h.2.2.2 h0; cases e
    subst h0
    clear h
    show Calls Tryd.prog 42 #[.slice none 0 cp] w _
    go_enter Tryd.func42, Tryd.ntmps42
    simp only [Option.isNone] at hrun
    go_wp2_with fail
    go_ret
    exact ⟨_, rfl, Owns.nil_ _ _ _ _, by go_grown⟩
  | some a =>
    have hrun := nil_slices_Clone_int_int (some a) ys.length cp
    clear h
    go_enter Tryd.func42, Tryd.ntmps42
    simp only [Option.isNone] at hrun
    go_wp2_with (at_builtin; refine wpList_extend el_slices_Clone_int_int rfl (.tmp 5) (.tmp 6) rfl w.heap.size _ [] rfl (Owns.made rfl rfl (Nat.le_refl _) rfl (by simp) (by simp [maxLen])) (some a) _ cp ys rfl (H.out.below (by go_grown)) hone ?c1 ?c2 ?c3 ?_)
    case c1 => simp [maxLen]; omega
    case c2 => simp; omega
    case c3 => simp
    intro v' w2 hO hB
    go_wp2_with fail
    go_ret
    exact ⟨_, rfl, by simpa using hO, ((Below.refl _ _).alloc (Nat.le_refl _) _).trans hB⟩
theorem rok_slices_Clone_int_int : RSemOk Tryd.prog DW 42 3 (semClone 1) := clone_row ⟨Tryd.f42, Tryd.func42, by kernel_rfl, by kernel_rfl⟩ (by kernel_rfl) (by omega) calls_slices_Clone_int_int
theorem sok_slices_Clone_int_int : SemOk Tryd.prog DW 42 (semClone 1) := semOk_of_row rok_slices_Clone_int_int clone_sl
theorem mok_slices_Clone_int_int : MSemOk Tryd.prog DW 42 (semCloneM 1) := clone_m ⟨Tryd.f42, Tryd.func42, by kernel_rfl, by kernel_rfl⟩ (by omega) calls_slices_Clone_int_int

theorem el_slices_Clone_api_Round_api_Op : Elem Tryd.prog 76 37 8 64 := elem_of (z := .agg #[(Go.Value.int Go.IntKind.i64 0), (Go.Value.bool Bool.false), (Go.Value.int Go.IntKind.i64 0), (Go.Value.int Go.IntKind.i64 0), (Go.Value.int Go.IntKind.i64 0), (Go.Value.int Go.IntKind.i64 0), (Go.Value.int Go.IntKind.i64 0), (Go.Value.int Go.IntKind.i64 0)]) Tryd.underlying76 (by kernel_rfl) rfl (by omega)
theorem nil_slices_Clone_api_Round_api_Op (a : Option Addr) (n c : Nat) (w : World) : (binOp .eql 76 (.slice a n c) (.slice none 0 0)).run Tryd.prog w = .ok (.bool a.isNone) w := Lib.run_eql_slice_nil w _ _ a n c 0 0 Tryd.underlying76
set_option maxHeartbeats 400000 in
theorem calls_slices_Clone_api_Round_api_Op (A : Option Addr) (cp : Nat) (ys : List (List Value)) (w : World) (h : RowC w 8 A ys.length cp ys) (hone : ∀ cs ∈ ys, ∀ u ∈ cs, u.oneCell' = true) (hl : ys.length ≤ 4294967296) :
    Calls Tryd.prog 58 #[.slice A ys.length cp] w fun en w' => ∃ v, en = .returned v ∧ Owns w' w.heap.size 37 8 v ys ∧ Below w.heap.size w w' := by
  have H := Lib.hid h
  cases A with
  | none =>
    have hrun := nil_slices_Clone_api_Round_api_Op none 0 cp
    have h0 : ys = [] := by
      rcases Nat.eq_zero_or_pos ys.length with h0 | h0
      · exact List.eq_nil_of_length_eq_zero h0
      · obtain ⟨b, o, e, -⟩ := h.2.2.2 h0; cases e
    subst h0
    clear h
    show Calls Tryd.prog 58 #[.slice none 0 cp] w _
    go_enter Tryd.func58, Tryd.ntmps58
    simp only [Option.isNone] at hrun
    go_wp2_with fail
    go_ret
    exact ⟨_, rfl, Owns.nil_ _ _ _ _, by go_grown⟩
  | some a =>
    have hrun := nil_slices_Clone_api_Round_api_Op (some a) ys.length cp
    clear h
    go_enter Tryd.func58, Tryd.ntmps58
    simp only [Option.isNone] at hrun
    go_wp2_with (at_builtin; refine wpList_extend el_slices_Clone_api_Round_api_Op rfl (.tmp 5) (.tmp 6) rfl w.heap.size _ [] rfl (Owns.made rfl rfl (Nat.le_refl _) rfl (by simp) (by simp [maxLen])) (some a) _ cp ys rfl (H.out.below (by go_grown)) hone ?c1 ?c2 ?c3 ?_)
    case c1 => simp [maxLen]; omega
    case c2 => simp; omega
    case c3 => simp
    intro v' w2 hO hB
    go_wp2_with fail
    go_ret
    exact ⟨_, rfl, by simpa using hO, ((Below.refl _ _).alloc (Nat.le_refl _) _).trans hB⟩
theorem rok_slices_Clone_api_Round_api_Op : RSemOk Tryd.prog DW 58 37 (semClone 8) := clone_row ⟨Tryd.f58, Tryd.func58, by kernel_rfl, by kernel_rfl⟩ (by kernel_rfl) (by omega) calls_slices_Clone_api_Round_api_Op
theorem sok_slices_Clone_api_Round_api_Op : SemOk Tryd.prog DW 58 (semClone 8) := semOk_of_row rok_slices_Clone_api_Round_api_Op clone_sl
theorem mok_slices_Clone_api_Round_api_Op : MSemOk Tryd.prog DW 58 (semCloneM 8) := clone_m ⟨Tryd.f58, Tryd.func58, by kernel_rfl, by kernel_rfl⟩ (by omega) calls_slices_Clone_api_Round_api_Op

theorem el_slices_Clone_api_Link_api_Link : Elem Tryd.prog 62 138 4 32 := elem_of (z := .agg #[(Go.Value.int Go.IntKind.i64 0), (Go.Value.int Go.IntKind.i64 0), (Go.Value.int Go.IntKind.i64 0), (Go.Value.int Go.IntKind.i64 0)]) Tryd.underlying62 (by kernel_rfl) rfl (by omega)
theorem nil_slices_Clone_api_Link_api_Link (a : Option Addr) (n c : Nat) (w : World) : (binOp .eql 62 (.slice a n c) (.slice none 0 0)).run Tryd.prog w = .ok (.bool a.isNone) w := Lib.run_eql_slice_nil w _ _ a n c 0 0 Tryd.underlying62
set_option maxHeartbeats 400000 in
theorem calls_slices_Clone_api_Link_api_Link (A : Option Addr) (cp : Nat) (ys : List (List Value)) (w : World) (h : RowC w 4 A ys.length cp ys) (hone : ∀ cs ∈ ys, ∀ u ∈ cs, u.oneCell' = true) (hl : ys.length ≤ 4294967296) :
    Calls Tryd.prog 75 #[.slice A ys.length cp] w fun en w' => ∃ v, en = .returned v ∧ Owns w' w.heap.size 138 4 v ys ∧ Below w.heap.size w w' := by
  have H := Lib.hid h
  cases A with
  | none =>
    have hrun := nil_slices_Clone_api_Link_api_Link none 0 cp
    have h0 : ys = [] := by
      rcases Nat.eq_zero_or_pos ys.length with h0 | h0
      · exact List.eq_nil_of_length_eq_zero h0
      · obtain ⟨b, o, e, -⟩ := h.2.2.2 h0; cases e
    subst h0
    clear h
    show Calls Tryd.prog 75 #[.slice none 0 cp] w _
    go_enter Tryd.func75, Tryd.ntmps75
    simp only [Option.isNone] at hrun
    go_wp2_with fail
    go_ret
    exact ⟨_, rfl, Owns.nil_ _ _ _ _, by go_grown⟩
  | some a =>
    have hrun := nil_slices_Clone_api_Link_api_Link (some a) ys.length cp
    clear h
    go_enter Tryd.func75, Tryd.ntmps75
    simp only [Option.isNone] at hrun
    go_wp2_with (at_builtin; refine wpList_extend el_slices_Clone_api_Link_api_Link rfl (.tmp 5) (.tmp 6) rfl w.heap.size _ [] rfl (Owns.made rfl rfl (Nat.le_refl _) rfl (by simp) (by simp [maxLen])) (some a) _ cp ys rfl (H.out.below (by go_grown)) hone ?c1 ?c2 ?c3 ?_)
    case c1 => simp [maxLen]; omega
    case c2 => simp; omega
    case c3 => simp
    intro v' w2 hO hB
    go_wp2_with fail
    go_ret
    exact ⟨_, rfl, by simpa using hO, ((Below.refl _ _).alloc (Nat.le_refl _) _).trans hB⟩
theorem rok_slices_Clone_api_Link_api_Link : RSemOk Tryd.prog DW 75 138 (semClone 4) := clone_row ⟨Tryd.f75, Tryd.func75, by kernel_rfl, by kernel_rfl⟩ (by kernel_rfl) (by omega) calls_slices_Clone_api_Link_api_Link
theorem sok_slices_Clone_api_Link_api_Link : SemOk Tryd.prog DW 75 (semClone 4) := semOk_of_row rok_slices_Clone_api_Link_api_Link clone_sl
theorem mok_slices_Clone_api_Link_api_Link : MSemOk Tryd.prog DW 75 (semCloneM 4) := clone_m ⟨Tryd.f75, Tryd.func75, by kernel_rfl, by kernel_rfl⟩ (by omega) calls_slices_Clone_api_Link_api_Link

theorem el_slices_Clone_api_Host_api_Host : Elem Tryd.prog 63 141 3 32 := elem_of (z := .agg #[(Go.Value.string (ByteArray.mk #[])), (Go.Value.int Go.IntKind.i64 0), (Go.Value.int Go.IntKind.i64 0)]) Tryd.underlying63 (by kernel_rfl) rfl (by omega)
theorem nil_slices_Clone_api_Host_api_Host (a : Option Addr) (n c : Nat) (w : World) : (binOp .eql 63 (.slice a n c) (.slice none 0 0)).run Tryd.prog w = .ok (.bool a.isNone) w := Lib.run_eql_slice_nil w _ _ a n c 0 0 Tryd.underlying63
set_option maxHeartbeats 400000 in
theorem calls_slices_Clone_api_Host_api_Host (A : Option Addr) (cp : Nat) (ys : List (List Value)) (w : World) (h : RowC w 3 A ys.length cp ys) (hone : ∀ cs ∈ ys, ∀ u ∈ cs, u.oneCell' = true) (hl : ys.length ≤ 4294967296) :
    Calls Tryd.prog 76 #[.slice A ys.length cp] w fun en w' => ∃ v, en = .returned v ∧ Owns w' w.heap.size 141 3 v ys ∧ Below w.heap.size w w' := by
  have H := Lib.hid h
  cases A with
  | none =>
    have hrun := nil_slices_Clone_api_Host_api_Host none 0 cp
    have h0 : ys = [] := by
      rcases Nat.eq_zero_or_pos ys.length with h0 | h0
      · exact List.eq_nil_of_length_eq_zero h0
      · obtain ⟨b, o, e, -⟩ := h.2.2.2 h0; cases e
    subst h0
    clear h
    show Calls Tryd.prog 76 #[.slice none 0 cp] w _
    go_enter Tryd.func76, Tryd.ntmps76
    simp only [Option.isNone] at hrun
    go_wp2_with fail
    go_ret
    exact ⟨_, rfl, Owns.nil_ _ _ _ _, by go_grown⟩
  | some a =>
    have hrun := nil_slices_Clone_api_Host_api_Host (some a) ys.length cp
    clear h
    go_enter Tryd.func76, Tryd.ntmps76
    simp only [Option.isNone] at hrun
    go_wp2_with (at_builtin; refine wpList_extend el_slices_Clone_api_Host_api_Host rfl (.tmp 5) (.tmp 6) rfl w.heap.size _ [] rfl (Owns.made rfl rfl (Nat.le_refl _) rfl (by simp) (by simp [maxLen])) (some a) _ cp ys rfl (H.out.below (by go_grown)) hone ?c1 ?c2 ?c3 ?_)
    case c1 => simp [maxLen]; omega
    case c2 => simp; omega
    case c3 => simp
    intro v' w2 hO hB
    go_wp2_with fail
    go_ret
    exact ⟨_, rfl, by simpa using hO, ((Below.refl _ _).alloc (Nat.le_refl _) _).trans hB⟩
theorem rok_slices_Clone_api_Host_api_Host : RSemOk Tryd.prog DW 76 141 (semClone 3) := clone_row ⟨Tryd.f76, Tryd.func76, by kernel_rfl, by kernel_rfl⟩ (by kernel_rfl) (by omega) calls_slices_Clone_api_Host_api_Host
theorem sok_slices_Clone_api_Host_api_Host : SemOk Tryd.prog DW 76 (semClone 3) := semOk_of_row rok_slices_Clone_api_Host_api_Host clone_sl
theorem mok_slices_Clone_api_Host_api_Host : MSemOk Tryd.prog DW 76 (semCloneM 3) := clone_m ⟨Tryd.f76, Tryd.func76, by kernel_rfl, by kernel_rfl⟩ (by omega) calls_slices_Clone_api_Host_api_Host

end Go.Proofs.YtgfleiknigjnbaaDoor.Den
