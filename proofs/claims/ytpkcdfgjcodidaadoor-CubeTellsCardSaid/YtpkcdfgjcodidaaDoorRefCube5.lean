/- railref1.ShowCube, ReadCube. -/
import Derived.Test.YtpkcdfgjcodidaaDoorRefCube4
namespace Go.Proofs.YtpkcdfgjcodidaaDoor
open Go.RowKit
set_option maxRecDepth 100000
set_option linter.unusedSimpArgs false
set_option linter.unusedVariables false

def iv : Nat → Int
  | 0 => 3
  | 1 => 2
  | 2 => 1
  | 3 => 0
  | _ => -1
theorem rbit_t (n i : Nat) (h : n / 2 ^ i % 2 = 1) (hi : i ≤ 16) (hn : n < 65536) (w : World) : Calls Tryd.prog 73 #[.int .i64 n, .int .i64 i] w fun e w' => e = .returned (.bool true) ∧ w = w' :=
  (rbit_any n i hi hn w).mono fun _ _ ⟨he, hb⟩ => ⟨by rw [he, decide_eq_true h], hb⟩
theorem rbit_f (n i : Nat) (h : ¬ n / 2 ^ i % 2 = 1) (hi : i ≤ 16) (hn : n < 65536) (w : World) : Calls Tryd.prog 73 #[.int .i64 n, .int .i64 i] w fun e w' => e = .returned (.bool false) ∧ w = w' :=
  (rbit_any n i hi hn w).mono fun _ _ ⟨he, hb⟩ => ⟨by rw [he, decide_eq_false h], hb⟩
def snum (c : Nat) : ByteArray := strOfNums [(c : Int)]
theorem sadd' (m b : Int) (k : Nat) (c : Nat) (hc : ch m b k = (c : Int)) (h : c < 256) : strOfNums (chs m b (k + 1)) = strOfNums (chs m b k) ++ snum c := by
  rw [chs_succ, hc, ← sadd _ _ (by omega) (by omega)]; rfl
set_option maxHeartbeats 1600000 in
theorem rshow_any (m b : Nat) (hm : m < 16) (hb : b < 16) (w : World) : Calls Tryd.prog 20 #[.agg #[.int .i64 m, .int .i64 b]] w fun e w' => e = .returned (.string (cshow m b)) ∧ Below w.heap.size w w' := by
  go_enter Tryd.func20, Tryd.ntmps20
  go_wp2_with fail
  go_loopw [3, 4] (fun v i wr => ∃ (k : Nat) (s : ByteArray), k ≤ 4 ∧ i = .int .i64 (iv k) ∧ v = .string s ∧ Hid (s = strOfNums (chs m b k)) ∧ wr = w.alloc (.cells #[.int .i64 m, .int .i64 b] 23)) (fun _ i _ => (intOf i + 1).toNat)
  case atStart => exact ⟨0, _, by omega, rfl, rfl, rfl, rfl⟩
  case round =>
    obtain ⟨k, s, hk, rfl, rfl, hs, rfl⟩ := hrel
    have hsz : s.size ≤ 4 := by
      have h0 : s.size = k := by rw [hs.out]; simp [strOfNums, chs, ByteArray.size]
      omega
    have hall : ∀ i : Nat, i ≤ 3 → k = 3 - i → (m / 2 ^ i % 2 = 1 → b / 2 ^ i % 2 = 1 → strOfNums (chs m b (k + 1)) = s ++ snum 49) ∧ (m / 2 ^ i % 2 = 1 → ¬ b / 2 ^ i % 2 = 1 → strOfNums (chs m b (k + 1)) = s ++ snum 48) ∧ (¬ m / 2 ^ i % 2 = 1 → strOfNums (chs m b (k + 1)) = s ++ snum 42) := by
      intro i hi he
      have h0 := ch_bit ⟨m, hm⟩ ⟨b, hb⟩ ⟨k, by omega⟩
      simp only [show 3 - k = i by omega] at h0
      refine ⟨fun h1 h2 => ?_, fun h1 h2 => ?_, fun h1 => ?_⟩
      · rw [hs.out]; exact sadd' m b k 49 (by rw [h0, if_pos h1, if_pos h2]; rfl) (by omega)
      · rw [hs.out]; exact sadd' m b k 48 (by rw [h0, if_pos h1, if_neg h2]; rfl) (by omega)
      · rw [hs.out]; exact sadd' m b k 42 (by rw [h0, if_neg h1]; rfl) (by omega)
    by_cases h4 : k = 4
    · subst h4
      have HS := Lib.hid (hs.out.trans (chs_4 m b))
      simp only [iv]
      clear hall hs
      go_wp2_with fail
      go_ret
      exact ⟨by rw [← HS.out]; rfl, by go_grown⟩
    · obtain ⟨i, hi, he⟩ : ∃ i : Nat, i ≤ 3 ∧ k = 3 - i := ⟨3 - k, by omega, by omega⟩
      have HA := Lib.hid (hall i hi he)
      have hiv : iv k = (i : Int) := by
        obtain rfl | rfl | rfl | rfl : i = 0 ∨ i = 1 ∨ i = 2 ∨ i = 3 := by omega
        all_goals (subst he; rfl)
      have HN := Lib.hid (show iv (k + 1) = (i : Int) - 1 by
        obtain rfl | rfl | rfl | rfl : i = 0 ∨ i = 1 ∨ i = 2 ∨ i = 3 := by omega
        all_goals (subst he; rfl))
      rw [hiv]
      clear hall hiv hs
      by_cases hx : m / 2 ^ i % 2 = 1
      · have H1 := Lib.hid (rbit_t m i hx (by omega) (by omega))
        by_cases hy : b / 2 ^ i % 2 = 1
        · have H2 := Lib.hid (rbit_t b i hy (by omega) (by omega))
          have HR := Lib.hid (HA.out.1 hx hy)
          clear hx hy
          go_wp2_with fail
          (go_at_call 73; refine (H1.out _).mono ?_; rintro e w' ⟨rfl, rfl⟩)
          go_wp2_with fail
          (go_at_call 73; refine (H2.out _).mono ?_; rintro e w' ⟨rfl, rfl⟩)
          go_wp2_with fail
          go_roundw
          case rel => exact ⟨k + 1, _, by omega, by rw [HN.out], rfl, HR.out.symm, trivial⟩
          case measure => simp [intOf]
        · have H2 := Lib.hid (rbit_f b i hy (by omega) (by omega))
          have HR := Lib.hid (HA.out.2.1 hx hy)
          clear hx hy
          go_wp2_with fail
          (go_at_call 73; refine (H1.out _).mono ?_; rintro e w' ⟨rfl, rfl⟩)
          go_wp2_with fail
          (go_at_call 73; refine (H2.out _).mono ?_; rintro e w' ⟨rfl, rfl⟩)
          go_wp2_with fail
          go_roundw
          case rel => exact ⟨k + 1, _, by omega, by rw [HN.out], rfl, HR.out.symm, trivial⟩
          case measure => simp [intOf]
      · have H1 := Lib.hid (rbit_f m i hx (by omega) (by omega))
        have H2 := Lib.hid (rbit_any b i (by omega) (by omega))
        have HR := Lib.hid (HA.out.2.2 hx)
        clear hx
        generalize decide (b / 2 ^ i % 2 = 1) = bb at H2
        go_wp2_with fail
        (go_at_call 73; refine (H1.out _).mono ?_; rintro e w' ⟨rfl, rfl⟩)
        go_wp2_with fail
        (go_at_call 73; refine (H2.out _).mono ?_; rintro e w' ⟨rfl, rfl⟩)
        go_wp2_with fail
        go_roundw
        case rel => exact ⟨k + 1, _, by omega, by rw [HN.out], rfl, HR.out.symm, trivial⟩
        case measure => simp [intOf]

/-! ### ReadCube -/
/-- what holds of memory at each round's head -/
structure RC (w : World) (wr : World) (m b : Int) : Prop where
  below : Below w.heap.size w wr
  size : wr.heap.size = w.heap.size + 1 + 1
  r0 : wr.cell? ⟨w.heap.size, 0, none⟩ = some (.int .i64 0)
  r1 : wr.cell? ⟨w.heap.size, 1, none⟩ = some (.int .i64 0)
  rf0 : wr.frozen? ⟨w.heap.size, 0, none⟩ = false
  rf1 : wr.frozen? ⟨w.heap.size, 1, none⟩ = false
  c0 : wr.cell? ⟨w.heap.size + 1, 0, none⟩ = some (.int .i64 m)
  c1 : wr.cell? ⟨w.heap.size + 1, 1, none⟩ = some (.int .i64 b)
  cf0 : wr.frozen? ⟨w.heap.size + 1, 0, none⟩ = false
  cf1 : wr.frozen? ⟨w.heap.size + 1, 1, none⟩ = false
theorem RC.set0 {w wr : World} {m b : Int} (h : RC w wr m b) (n : Int) : RC w (wr.setCell ⟨w.heap.size + 1, 0, none⟩ (.int .i64 n)) n b where
  below := h.below.setCell (by simp) _
  size := by simp [h.size]
  r0 := by rw [World.cell?_setCell_other _ _ _ _ (by simp)]; exact h.r0
  r1 := by rw [World.cell?_setCell_other _ _ _ _ (by simp)]; exact h.r1
  rf0 := by rw [World.frozen?_setCell]; exact h.rf0
  rf1 := by rw [World.frozen?_setCell]; exact h.rf1
  c0 := by rw [World.cell?_setCell_same _ _ _ h.c0]
  c1 := by rw [World.cell?_setCell_other _ _ _ _ (by simp)]; exact h.c1
  cf0 := by rw [World.frozen?_setCell]; exact h.cf0
  cf1 := by rw [World.frozen?_setCell]; exact h.cf1
theorem RC.set1 {w wr : World} {m b : Int} (h : RC w wr m b) (n : Int) : RC w (wr.setCell ⟨w.heap.size + 1, 1, none⟩ (.int .i64 n)) m n where
  below := h.below.setCell (by simp) _
  size := by simp [h.size]
  r0 := by rw [World.cell?_setCell_other _ _ _ _ (by simp)]; exact h.r0
  r1 := by rw [World.cell?_setCell_other _ _ _ _ (by simp)]; exact h.r1
  rf0 := by rw [World.frozen?_setCell]; exact h.rf0
  rf1 := by rw [World.frozen?_setCell]; exact h.rf1
  c0 := by rw [World.cell?_setCell_other _ _ _ _ (by simp)]; exact h.c0
  c1 := by rw [World.cell?_setCell_same _ _ _ h.c1]
  cf0 := by rw [World.frozen?_setCell]; exact h.cf0
  cf1 := by rw [World.frozen?_setCell]; exact h.cf1
theorem RC.start (w : World) : RC w ((w.alloc (.cells #[.int .i64 0, .int .i64 0] 23)).alloc (.cells #[.int .i64 0, .int .i64 0] 23)) 0 0 :=
  ⟨by go_grown, by simp, by simp [go_sem], by simp [go_sem], by simp [go_sem], by simp [go_sem], by simp [go_sem], by simp [go_sem], by simp [go_sem], by simp [go_sem]⟩

def pok (s : ByteArray) : Bool := (cparse s).isSome
set_option maxHeartbeats 1600000 in
theorem rread_4 (s : ByteArray) (w : World) (hs : s.size = 4) : Calls Tryd.prog 22 #[.string s] w fun e w' => e = .returned (.tuple #[.agg #[.int .i64 (pm s), .int .i64 (pb s)], .bool (pok s)]) ∧ Below w.heap.size w w' := by
  have HS := Lib.hid hs
  have hs1 : ((s.size : Int) != 4) = false := by rw [hs]; rfl
  have hle : s.size ≤ 4 := by omega
  have hge : 4 ≤ s.size := by omega
  clear hs
  go_enter Tryd.func22, Tryd.ntmps22
  go_wp2_with fail
  go_loopw [5] (fun i wr => ∃ k m b, k ≤ 4 ∧ i = .int .i64 (k : Nat) ∧ cpre (byteAt s) k = some (m, b) ∧ RC w wr m b) (fun i _ => 4 - (intOf i).toNat)
  case atStart => exact ⟨0, 0, 0, by omega, rfl, rfl, RC.start w⟩
  case round =>
    obtain ⟨k, m, b, hk, rfl, hpre, hr⟩ := hrel
    have HR := Lib.hid hr
    have HP := Lib.hid hpre
    obtain ⟨hbel, hsz, r0, r1, rf0, rf1, c0, c1, cf0, cf1⟩ := hr
    clear hsz
    by_cases hlt : k < 4
    · obtain ⟨x0, x1⟩ := byteAt_range s k
      obtain ⟨a1, a2, a3, a4⟩ := cpre_range _ _ _ _ hpre
      have h8 : (2 : Int) ^ k ≤ 8 := by
        obtain rfl | rfl | rfl | rfl : k = 0 ∨ k = 1 ∨ k = 2 ∨ k = 3 := by omega
        all_goals decide
      have m8 : m < 8 := by omega
      have b8 : b < 8 := by omega
      have HN := Lib.hid (show cpre (byteAt s) (k + 1) = cstep (byteAt s k) (m, b) by simp [cpre, hpre])
      have hks : k < s.size := by omega
      have HX := Lib.hid (show byteAt s k = (s[k].toNat : Int) by unfold byteAt; rw [List.getD_eq_getElem?_getD, List.getElem?_eq_getElem (by simpa using hks)]; rfl)
      clear hpre a2 a4 h8
      go_wp2_with fail
      · have h1 : byteAt s k = 49 := by rw [HX.out]; simpa using (by assumption : ((s[k].toNat : Int) == 49) = true)
        go_roundw
        case rel => exact ⟨k + 1, m * 2 + 1, b * 2 + 1, by omega, by go_num, by rw [HN.out]; simp [cstep, h1], (((HR.out.set0 _).set1 _).set0 _).set1 _⟩
        case measure => simp [intOf]; omega
      · have h1 : byteAt s k = 48 := by rw [HX.out]; simpa using (by assumption : ((s[k].toNat : Int) == 48) = true)
        go_roundw
        case rel => exact ⟨k + 1, m * 2 + 1, b * 2, by omega, by go_num, by rw [HN.out]; simp [cstep, h1], ((HR.out.set0 _).set1 _).set0 _⟩
        case measure => simp [intOf]; omega
      · have e49 : ¬ byteAt s k = 49 := by rw [HX.out]; simpa using (by assumption : ((s[k].toNat : Int) == 49) = false)
        have e48 : ¬ byteAt s k = 48 := by rw [HX.out]; simpa using (by assumption : ((s[k].toNat : Int) == 48) = false)
        have e42 : ¬ byteAt s k = 42 := by rw [HX.out]; simpa using (by assumption : ((s[k].toNat : Int) != 42) = true)
        have hn : cparse s = none := cpre_4 HS.out hlt (by rw [HN.out]; simp [cstep, e49, e48, e42])
        obtain ⟨p1, p2, p3⟩ := parse_none hn
        have p4 : pok s = false := by unfold pok; rw [hn]; rfl
        refine bodyPost_ret (v := .tuple #[.agg #[.int .i64 0, .int .i64 0], .bool false]) (by simp [results, Tryd.results22, go_sem, *]) rfl ⟨by rw [p1, p2, p4], ?_⟩
        go_grown
      · have h1 : byteAt s k = 42 := by rw [HX.out]; simpa using (by assumption : ((s[k].toNat : Int) != 42) = false)
        go_roundw
        case rel => exact ⟨k + 1, m * 2, b * 2, by omega, by go_num, by rw [HN.out]; simp [cstep, h1], (HR.out.set0 _).set1 _⟩
        case measure => simp [intOf]; omega
    · have h4 : k = 4 := by omega
      have hn : cparse s = some (m, b) := by simp [cparse, HS.out, ← h4, hpre]
      have HQ := Lib.hid (parse_some hn)
      have p4 : pok s = true := by unfold pok; rw [hn]; rfl
      have HP4 := Lib.hid p4
      clear hpre hn HP p4
      go_wp2_with fail
      refine bodyPost_ret (v := .tuple #[.agg #[.int .i64 m, .int .i64 b], .bool true]) (by simp [results, Tryd.results22, go_sem, *]) rfl ⟨by rw [HQ.out.1, HQ.out.2.1, HP4.out], ?_⟩
      go_grown
theorem rread_any (s : ByteArray) (w : World) : Calls Tryd.prog 22 #[.string s] w fun e w' => e = .returned (.tuple #[.agg #[.int .i64 (pm s), .int .i64 (pb s)], .bool (pok s)]) ∧ Below w.heap.size w w' := by
  by_cases hs : s.size = 4
  · exact rread_4 s w hs
  · have hn : cparse s = none := by simp [cparse, hs]
    have HQ := Lib.hid (parse_none hn)
    have HP4 := Lib.hid (show pok s = false by unfold pok; rw [hn]; rfl)
    have hs1 : ((s.size : Int) != 4) = true := by rw [bne_iff_ne]; omega
    clear hs hn
    go_enter Tryd.func22, Tryd.ntmps22
    go_wp2_with fail
    refine bodyPost_ret (v := .tuple #[.agg #[.int .i64 0, .int .i64 0], .bool false]) (by simp [results, Tryd.results22, go_sem, *]) rfl ⟨by rw [HQ.out.1, HQ.out.2.1, HP4.out], ?_⟩
    go_grown
end Go.Proofs.YtpkcdfgjcodidaaDoor
