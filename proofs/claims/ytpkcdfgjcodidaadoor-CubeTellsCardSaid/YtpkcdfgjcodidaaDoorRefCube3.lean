/- railref1.bit. -/
import Derived.Test.YtpkcdfgjcodidaaDoorRefCube2
namespace Go.Proofs.YtpkcdfgjcodidaaDoor
open Go.RowKit
set_option maxRecDepth 100000
set_option linter.unusedSimpArgs false
set_option linter.unusedVariables false

set_option maxHeartbeats 400000 in
theorem rbit_any (n i : Nat) (hi : i ≤ 16) (hn : n < 65536) (w : World) : Calls Tryd.prog 73 #[.int .i64 n, .int .i64 i] w fun e w' => e = .returned (.bool (decide (n / 2 ^ i % 2 = 1))) ∧ w = w' := by
  go_enter Tryd.func73, Tryd.ntmps73
  go_wp2_with fail
  go_loopw [0, 5] (fun v x wr => ∃ k q : Nat, k ≤ i ∧ q = n / 2 ^ k ∧ v = .int .i64 q ∧ x = .int .i64 k ∧ w = wr) (fun _ x _ => i - (intOf x).toNat)
  case atStart => exact ⟨0, n, by omega, by simp, rfl, rfl, rfl⟩
  case round =>
    obtain ⟨k, q, hk, hq, rfl, rfl, rfl⟩ := hrel
    have hql : q ≤ n := hq ▸ Nat.div_le_self _ _
    have hq2 : q / 2 = n / 2 ^ (k + 1) := by rw [hq, Nat.div_div_eq_div_mul, Nat.pow_succ]
    have ht : Int.tdiv (q : Int) 2 = ((q / 2 : Nat) : Int) := by rw [Int.tdiv_eq_ediv_of_nonneg (by omega)]; omega
    have hr : Int.tmod (q : Int) 2 = ((q % 2 : Nat) : Int) := by rw [Int.tmod_eq_emod_of_nonneg (by omega)]; omega
    have HQ := Lib.hid hq
    clear hq
    by_cases hlt : k < i
    · go_wp2_with fail
      go_roundw
      case rel => exact ⟨k + 1, q / 2, by omega, hq2, by (have e : (n : Int) / 2 ^ (k + 1) = ((q / 2 : Nat) : Int) := (by rw [hq2]; simp); have hz : q / 2 ≤ 65535 := (by omega); rw [e]; clear e ht hr hq2 HQ; generalize q / 2 = z at hz ⊢; congr 1; unfold wrap64; omega), by first | go_num | trivial, by first | rfl | trivial⟩
      case measure => simp [intOf]; omega
    · obtain rfl : k = i := by omega
      go_wp2_with fail
      go_ret
      refine ⟨ret_bool ?_, rfl⟩
      rw [← HQ.out]
      go_light
      rw [Bool.eq_iff_iff]
      simp
      omega
end Go.Proofs.YtpkcdfgjcodidaaDoor
