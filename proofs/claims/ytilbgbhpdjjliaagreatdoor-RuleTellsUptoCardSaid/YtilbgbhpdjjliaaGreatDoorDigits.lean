/- What the document's Digits comes to below a hundred: a walk. -/
import Derived.Test.YtilbgbhpdjjliaaGreatDoorShelfT
import Derived.Test.YtilbgbhpdjjliaaGreatDoorPlain
import Derived.Test.YtilbgbhpdjjliaaGreatDoorQuiet
import Derived.Test.YtilbgbhpdjjliaaGreatDoorCube
import Derived.Test.YtilbgbhpdjjliaaGreatDoorSBase
import Derived.WalkKit
import Derived.WalkSpells
namespace Go.Proofs.YtilbgbhpdjjliaaGreatDoor
open Go Go.RowKit Go.Proofs.YtilbgbhpdjjliaaGreatDoor.Den Go.Proofs.YtilbgbhpdjjliaaGreatDoor.Ty
set_option linter.unusedSimpArgs false
set_option linter.unusedVariables false
set_option maxRecDepth 100000

def tenB : ByteArray := ⟨#[48, 49, 50, 51, 52, 53, 54, 55, 56, 57]⟩
def dig1 (n : Int) : ByteArray := tenB.extract n.toNat (n + 1).toNat
def digB (n : Int) : ByteArray := if n < 10 then dig1 n else dig1 (n / 10) ++ dig1 (n % 10)
set_option maxHeartbeats 1600000 in
theorem digits_one (n : Int) (h0 : 0 ≤ n) (h1 : n < 10) (w : World) :
    Calls Tryz.prog 37 #[.int .i64 n] w fun e w' => e = .returned (.string (dig1 n)) ∧ Below w.heap.size w w' := by
  have H0 := h0
  have H1 := h1
  go_enter Tryz.func37, Tryz.ntmps37
  go_wp2
  go_ret
  refine ⟨?_, by go_grown⟩
  rfl
theorem dig1_size (n : Int) : (dig1 n).size ≤ 10 := by
  unfold dig1
  rw [ByteArray.size_extract]
  have : tenB.size = 10 := rfl
  omega
set_option maxHeartbeats 1600000 in
theorem digits_two (n : Int) (h0 : 10 ≤ n) (h1 : n < 100) (w : World) :
    Calls Tryz.prog 37 #[.int .i64 n] w fun e w' => e = .returned (.string (dig1 (n / 10) ++ dig1 (n % 10))) ∧ Below w.heap.size w w' := by
  have H := Lib.hid (digits_one (n / 10) (by omega) (by omega))
  have HZ := dig1_size (n / 10)
  have R0 : 0 ≤ n % 10 := by omega
  have R1 : n % 10 < 10 := by omega
  go_enter Tryz.func37, Tryz.ntmps37
  go_wp2_with (first | (go_at_call 37; refine (H.out _).mono ?_; rintro e w' ⟨rfl, hb⟩; obtain ⟨hc, hf⟩ := bcell hb; have hz := hb.size; (try simp at hz); (try have y1 := Nat.lt_of_succ_le hz); (try have y2 := Nat.lt_of_succ_lt y1); (try have y3 := Nat.lt_of_succ_lt y2); have hB := bstep (w := w) (by go_grown) hb; (try have z0 : w.heap.size < w'.heap.size := by omega); (try have z1 : w.heap.size + 1 < w'.heap.size := by omega); (try have z2 : w.heap.size + 1 + 1 < w'.heap.size := by omega); (try have z3 : w.heap.size + 1 + 1 + 1 < w'.heap.size := by omega)) | fail)
  all_goals first | (exfalso; omega) | go_ret
  refine ⟨?_, by go_grown⟩
  rfl
theorem digits_any (n : Int) (h0 : 0 ≤ n) (h1 : n < 100) (w : World) :
    Calls Tryz.prog 37 #[.int .i64 n] w fun e w' => e = .returned (.string (digB n)) ∧ Below w.heap.size w w' := by
  unfold digB
  split
  · exact digits_one n h0 (by omega) w
  · exact digits_two n (by omega) h1 w
end Go.Proofs.YtilbgbhpdjjliaaGreatDoor
namespace Go.Proofs.YtilbgbhpdjjliaaGreatDoor.Ty
open Go Go.RowKit Go.Proofs.YtilbgbhpdjjliaaGreatDoor Go.Proofs.YtilbgbhpdjjliaaGreatDoor.Den
def sem_Digits (xs : List V) : Option V := match xs with
  | [.lit (.int .i64 n)] => if 0 ≤ n ∧ n < 100 then some (vt (digB n)) else none
  | _ => none
theorem ok_Digits : SemOk Tryz.prog DW 37 sem_Digits := fun xs y hy => by
  unfold sem_Digits at hy
  split at hy
  · rename_i n
    split at hy
    · rename_i h
      obtain rfl := Option.some.inj hy
      exact scalls_vals ⟨_, Tryz.func37, by kernel_rfl, by kernel_rfl⟩ rfl rfl fun w hd => digits_any n h.1 h.2 w
    · cases hy
  · cases hy
def t_Digits (n : Int) : Option ByteArray := if 0 ≤ n ∧ n < 100 then some (digB n) else none
theorem ty_Digits (n : Int) : Rv vt (sem_Digits [vi n]) (t_Digits n) := fun b hb => by
  unfold t_Digits at hb
  split at hb
  · rename_i h
    cases hb
    show (if _ then _ else _) = _
    rw [if_pos h]
  · cases hb
end Go.Proofs.YtilbgbhpdjjliaaGreatDoor.Ty
