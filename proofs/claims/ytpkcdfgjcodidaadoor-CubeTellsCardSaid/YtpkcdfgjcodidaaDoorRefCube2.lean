/- railref1.Headers. -/
import Derived.Test.YtpkcdfgjcodidaaDoorRefCube
import Derived.Test.YtpkcdfgjcodidaaDoorCubes2
namespace Go.Proofs.YtpkcdfgjcodidaaDoor
open Go.RowKit
set_option maxRecDepth 100000
set_option linter.unusedSimpArgs false
set_option linter.unusedVariables false

/-- the headers below k of one cube -/
def rhdrsTo (m b : Int) (k : Nat) : List Int := ((List.range k).filter fun h => chas m b (h : Nat)).map fun (n : Nat) => (n : Int)
theorem rhdrsTo_succ (m b : Int) (k : Nat) : rhdrsTo m b (k + 1) = rhdrsTo m b k ++ if chas m b (k : Nat) then [(k : Int)] else [] := by
  unfold rhdrsTo
  rw [List.range_succ, List.filter_append, List.map_append]
  by_cases h : chas m b (k : Nat) = true
  · simp [h]
  · simp [h]
theorem rhdrsTo_len (m b : Int) (k : Nat) : (rhdrsTo m b k).length ≤ k := by
  unfold rhdrsTo
  rw [List.length_map]
  exact Nat.le_trans (List.length_filter_le _ _) (by simp)

def RetInts (l : List Int) (w : World) (e : Ending) (w' : World) : Prop := ∃ v, e = .returned v ∧ Owns w' w.heap.size 3 1 v (l.map icell) ∧ Below w.heap.size w w'
set_option maxHeartbeats 800000 in
theorem rheaders_any (m b : Int) (w : World) : Calls Tryd.prog 25 #[.agg #[.int .i64 m, .int .i64 b]] w (RetInts (rhdrsTo m b 16) w) := by
  obtain ⟨w0, hw0⟩ : ∃ w0 : World, w0 = w.alloc (.cells #[.int .i64 m, .int .i64 b] 23) := ⟨_, rfl⟩
  have hb0 : Below w.heap.size w w0 := hw0 ▸ (Below.refl _ _).alloc (Nat.le_refl _) _
  have hs0 : w0.heap.size = w.heap.size + 1 := by rw [hw0]; simp
  have hm0 : w0.cell? ⟨w.heap.size, 0, none⟩ = some (.int .i64 m) := by rw [hw0]; simp [go_sem]
  have hq0 : w0.cell? ⟨w.heap.size, 1, none⟩ = some (.int .i64 b) := by rw [hw0]; simp [go_sem]
  go_enter Tryd.func25, Tryd.ntmps25
  go_wp2_with fail
  rw [← hw0]
  clear hw0
  go_loopw [3, 4] (fun v i wr => ∃ k : Nat, k ≤ 16 ∧ i = .int .i64 k ∧ Below w0.heap.size w0 wr ∧ Owns wr w0.heap.size 3 1 v ((rhdrsTo m b k).map icell)) (fun _ i _ => 16 - (intOf i).toNat)
  case atStart => exact ⟨0, by omega, rfl, Below.refl _ _, Owns.nil_ _ _ _ _⟩
  case round =>
    obtain ⟨k, hk, rfl, hbel, hown⟩ := hrel
    have hwr := hbel.size
    have HO := Lib.hid hown
    clear hown
    have hm1 := (hbel.cell (p := ⟨w.heap.size, 0, none⟩) (by simp; omega)).trans hm0
    have hq1 := (hbel.cell (p := ⟨w.heap.size, 1, none⟩) (by simp; omega)).trans hq0
    by_cases hlt : k < 16
    · have HC := Lib.hid (rhas_any m b (k : Int) wr)
      have HS := Lib.hid (rhdrsTo_succ m b k)
      have hle := rhdrsTo_len m b k
      cases hp : chas m b (k : Nat) with
      | true =>
        rw [hp] at HC HS
        clear hp
        go_wp2_with fail
        go_at_call 24
        refine HC.out.mono ?_
        rintro e w2 ⟨rfl, hb2⟩
        go_wp2_with (at_builtin; refine wpList_push_new el_int rfl (.tmp 14) (.tmp 16) rfl w0.heap.size _ _ rfl (HO.out.below hb2) [.int .i64 (k : Int)] _ _ rfl rfl rfl rfl (by omega) (by simp; omega) (Nat.le_trans hwr hb2.size) ?_)
        intro v3 w3 hown3 hb3
        have HO3 := Lib.hid hown3
        clear hown3
        go_wp2_with fail
        go_roundw
        case rel => exact ⟨k + 1, by omega, by go_num, (hbel.trans (hb2.mono hwr)).trans (by rw [hs0]; exact hb3), by rw [HS.out, List.map_append, hs0]; exact HO3.out⟩
        case measure => simp [intOf]; omega
      | false =>
        rw [hp] at HC HS
        clear hp
        go_wp2_with (go_at_call 24; refine HC.out.mono ?_; rintro e w2 ⟨rfl, hb2⟩)
        go_roundw
        case rel => exact ⟨k + 1, by omega, by go_num, hbel.trans (hb2.mono hwr), by rw [HS.out]; simpa using HO.out.below hb2⟩
        case measure => simp [intOf]; omega
    · obtain rfl : k = 16 := by omega
      go_wp2_with fail
      go_ret
      exact ⟨_, rfl, HO.out.mono (by omega), hb0.trans (hbel.mono (by omega))⟩
end Go.Proofs.YtpkcdfgjcodidaaDoor
