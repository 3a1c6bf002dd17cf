/- What cube.Parse and cube.Print come to. -/
import Derived.Test.YtpkcdfgjcodidaaDoorCube
import Derived.Test.YtpkcdfgjcodidaaDoorQuiet
import Derived.Lib.ConvBytes
import Derived.Laws.BytesArg
namespace Go.Proofs.YtpkcdfgjcodidaaDoor
open Go.RowKit
set_option linter.unusedSimpArgs false
set_option linter.unusedVariables false

def byteAt (s : ByteArray) (j : Nat) : Int := ((s.data.toList.getD j 0).toNat : Int)
theorem byteAt_range (s : ByteArray) (j : Nat) : 0 ≤ byteAt s j ∧ byteAt s j ≤ 255 := by
  unfold byteAt
  have := (s.data.toList.getD j 0).toNat_lt
  omega
/-- one sign more of a cube's text -/
def cstep (x : Int) (mb : Int × Int) : Option (Int × Int) := if x = 49 then some (mb.1 * 2 + 1, mb.2 * 2 + 1) else if x = 48 then some (mb.1 * 2 + 1, mb.2 * 2) else if x = 42 then some (mb.1 * 2, mb.2 * 2) else none
def cpre (x : Nat → Int) : Nat → Option (Int × Int)
  | 0 => some (0, 0)
  | k + 1 => (cpre x k).bind (cstep (x k))
def cparse (s : ByteArray) : Option (Int × Int) := if s.size = 4 then cpre (byteAt s) 4 else none
theorem cpre_range (x : Nat → Int) : ∀ k m b, cpre x k = some (m, b) → 0 ≤ m ∧ m < 2 ^ k ∧ 0 ≤ b ∧ b < 2 ^ k
  | 0, m, b, h => by simp [cpre] at h; obtain ⟨rfl, rfl⟩ := h; decide
  | k + 1, m, b, h => by
    simp only [cpre, Option.bind_eq_some_iff] at h
    obtain ⟨⟨m1, b1⟩, h1, h2⟩ := h
    obtain ⟨a1, a2, a3, a4⟩ := cpre_range x k m1 b1 h1
    have e : (2 : Int) ^ (k + 1) = 2 ^ k * 2 := by rw [Int.pow_succ]
    unfold cstep at h2
    simp only at h2
    split at h2
    · simp only [Option.some.injEq, Prod.mk.injEq] at h2; omega
    · split at h2
      · simp only [Option.some.injEq, Prod.mk.injEq] at h2; omega
      · split at h2
        · simp only [Option.some.injEq, Prod.mk.injEq] at h2; omega
        · cases h2
/-- once it is none it stays none -/
theorem cpre_none (x : Nat → Int) {k : Nat} (h : cpre x k = none) : ∀ j, cpre x (k + j) = none
  | 0 => h
  | j + 1 => by show (cpre x (k + j)).bind _ = none; rw [cpre_none x h j]; rfl
theorem or_one : ∀ m : Fin 8, bits .or .i64 (((m : Nat) : Int) * 2) 1 = ((m : Nat) : Int) * 2 + 1 := by decide +kernel
theorem or_one' {m : Int} (h0 : 0 ≤ m) (h1 : m < 8) : bits .or .i64 (m * 2) 1 = m * 2 + 1 := by
  have := or_one ⟨m.toNat, by omega⟩
  simp only [Int.toNat_of_nonneg h0] at this
  exact this

/-- what Parse gives back: the cube, the fault -/
def pm (s : ByteArray) : Int := ((cparse s).getD (0, 0)).1
def pb (s : ByteArray) : Int := ((cparse s).getD (0, 0)).2
def perr (s : ByteArray) : Int := if (cparse s).isSome then 0 else 2
theorem parse_some {s : ByteArray} {m b : Int} (h : cparse s = some (m, b)) : pm s = m ∧ pb s = b ∧ perr s = 0 := by simp [pm, pb, perr, h]
theorem parse_none {s : ByteArray} (h : cparse s = none) : pm s = 0 ∧ pb s = 0 ∧ perr s = 2 := by simp [pm, pb, perr, h]

/-- what holds of memory at each round's head of Parse -/
structure PC (s : ByteArray) (w : World) (wr : World) (m b : Int) : Prop where
  below : Below w.heap.size w wr
  r0 : wr.cell? ⟨w.heap.size, 0, none⟩ = some (.int .i64 0)
  r1 : wr.cell? ⟨w.heap.size, 1, none⟩ = some (.int .i64 0)
  rf0 : wr.frozen? ⟨w.heap.size, 0, none⟩ = false
  rf1 : wr.frozen? ⟨w.heap.size, 1, none⟩ = false
  c0 : wr.cell? ⟨w.heap.size + 1, 0, none⟩ = some (.int .i64 m)
  c1 : wr.cell? ⟨w.heap.size + 1, 1, none⟩ = some (.int .i64 b)
  cf0 : wr.frozen? ⟨w.heap.size + 1, 0, none⟩ = false
  cf1 : wr.frozen? ⟨w.heap.size + 1, 1, none⟩ = false
  x : ∀ j, j < 4 → wr.cell? ⟨w.heap.size + 1 + 1, j, none⟩ = some (.int .u8 (byteAt s j))
theorem PC.set0 {s : ByteArray} {w wr : World} {m b : Int} (h : PC s w wr m b) (n : Int) : PC s w (wr.setCell ⟨w.heap.size + 1, 0, none⟩ (.int .i64 n)) n b where
  below := h.below.setCell (by simp) _
  r0 := (World.cell?_setCell_other _ _ _ _ (by simp)).trans h.r0
  r1 := (World.cell?_setCell_other _ _ _ _ (by simp)).trans h.r1
  rf0 := (World.frozen?_setCell _ _ _ _).trans h.rf0
  rf1 := (World.frozen?_setCell _ _ _ _).trans h.rf1
  c0 := World.cell?_setCell_same _ _ _ h.c0
  c1 := (World.cell?_setCell_other _ _ _ _ (by simp)).trans h.c1
  cf0 := (World.frozen?_setCell _ _ _ _).trans h.cf0
  cf1 := (World.frozen?_setCell _ _ _ _).trans h.cf1
  x := fun j hj => (World.cell?_setCell_other _ _ _ _ (by simp)).trans (h.x j hj)
theorem PC.set1 {s : ByteArray} {w wr : World} {m b : Int} (h : PC s w wr m b) (n : Int) : PC s w (wr.setCell ⟨w.heap.size + 1, 1, none⟩ (.int .i64 n)) m n where
  below := h.below.setCell (by simp) _
  r0 := (World.cell?_setCell_other _ _ _ _ (by simp)).trans h.r0
  r1 := (World.cell?_setCell_other _ _ _ _ (by simp)).trans h.r1
  rf0 := (World.frozen?_setCell _ _ _ _).trans h.rf0
  rf1 := (World.frozen?_setCell _ _ _ _).trans h.rf1
  c0 := (World.cell?_setCell_other _ _ _ _ (by simp)).trans h.c0
  c1 := World.cell?_setCell_same _ _ _ h.c1
  cf0 := (World.frozen?_setCell _ _ _ _).trans h.cf0
  cf1 := (World.frozen?_setCell _ _ _ _).trans h.cf1
  x := fun j hj => (World.cell?_setCell_other _ _ _ _ (by simp)).trans (h.x j hj)
theorem PC.start (s : ByteArray) (w : World) (hs : 4 ≤ s.size) : PC s w (Lib.bytesWorld ((w.alloc (.cells #[.int .i64 0, .int .i64 0] 23)).alloc (.cells #[.int .i64 0, .int .i64 0] 23)) 5 s) 0 0 := by
  have hold := fun j hj => Lib.bytesWorld_at_old ((w.alloc (.cells #[.int .i64 0, .int .i64 0] 23)).alloc (.cells #[.int .i64 0, .int .i64 0] 23)) 5 s j hj
  have h0 : ((w.alloc (.cells #[.int .i64 0, .int .i64 0] 23)).alloc (.cells #[.int .i64 0, .int .i64 0] 23)).heap.size = w.heap.size + 1 + 1 := by simp
  have hc := fun b o (hb : b < w.heap.size + 1 + 1) => World.cell?_of_block (a := ⟨b, o, none⟩) (hold b (by rw [h0]; exact hb))
  have hf := fun b o (hb : b < w.heap.size + 1 + 1) => World.frozen?_of_block (a := ⟨b, o, none⟩) (hold b (by rw [h0]; exact hb))
  refine ⟨?_, ?_, ?_, ?_, ?_, ?_, ?_, ?_, ?_, fun j hj => ?_⟩
  · refine ⟨rfl, rfl, rfl, ?_, fun k hk => ?_⟩
    · rw [Lib.bytesWorld_size, h0]; omega
    · rw [hold k (by rw [h0]; omega), Below.heap_alloc _ _ _ (by simp; omega), Below.heap_alloc _ _ _ hk]
  all_goals first | (rw [hc _ _ (by omega)]; simp [go_sem]; done) | (rw [hf _ _ (by omega)]; simp [go_sem]; done) | skip
  have := Lib.bytesWorld_cell ((w.alloc (.cells #[.int .i64 0, .int .i64 0] 23)).alloc (.cells #[.int .i64 0, .int .i64 0] 23)) 5 s j (by omega)
  rw [h0] at this
  exact this

theorem cpre_4 {s : ByteArray} {k : Nat} (hs : s.size = 4) (hk : k < 4) (h : cpre (byteAt s) (k + 1) = none) : cparse s = none := by
  have := cpre_none _ h (4 - (k + 1))
  rw [show k + 1 + (4 - (k + 1)) = 4 by omega] at this
  simp [cparse, hs, this]

set_option maxRecDepth 100000 in
set_option maxHeartbeats 800000 in
theorem parse_4 (s : ByteArray) (w : World) (hs : s.size = 4) : Calls Tryd.prog 23 #[.string s] w fun e w' => e = .returned (.tuple #[.agg #[.int .i64 (pm s), .int .i64 (pb s)], errOf (perr s)]) ∧ Below w.heap.size w w' := by
  have hconv := fun W => Lib.run_convert_string_bytes (P := Tryd.prog) W 9 116 5 s Tryd.underlying9 Tryd.underlying116 Tryd.underlying5
  have HS := Lib.hid hs
  have hs1 : ((s.size : Int) != 4) = false := by rw [hs]; rfl
  have hle : s.size ≤ 4 := by omega
  have hge : 4 ≤ s.size := by omega
  clear hs
  go_enter Tryd.func23, Tryd.ntmps23
  go_wp2_with fail
  go_loopw [15] (fun i wr => ∃ k m b, k ≤ 4 ∧ i = .int .i64 (k : Nat) ∧ cpre (byteAt s) k = some (m, b) ∧ PC s w wr m b) (fun i _ => 4 - (intOf i).toNat)
  case atStart => exact ⟨0, 0, 0, by omega, rfl, rfl, PC.start s w hge⟩
  case round =>
    obtain ⟨k, m, b, hk, rfl, hpre, hr⟩ := hrel
    have HR := Lib.hid hr
    have HP := Lib.hid hpre
    obtain ⟨hbel, r0, r1, rf0, rf1, c0, c1, cf0, cf1, hx⟩ := hr
    by_cases hlt : k < 4
    · have hxk := hx k hlt
      obtain ⟨x0, x1⟩ := byteAt_range s k
      obtain ⟨a1, a2, a3, a4⟩ := cpre_range _ _ _ _ hpre
      have h8 : (2 : Int) ^ k ≤ 8 := by
        obtain rfl | rfl | rfl | rfl : k = 0 ∨ k = 1 ∨ k = 2 ∨ k = 3 := by omega
        all_goals decide
      have m8 : m < 8 := by omega
      have b8 : b < 8 := by omega
      have o1 := or_one' a1 m8
      have o2 := or_one' a3 b8
      have HN := Lib.hid (show cpre (byteAt s) (k + 1) = cstep (byteAt s k) (m, b) by simp [cpre, hpre])
      clear hx hpre a2 a4 h8
      generalize hxe : byteAt s k = x at *
      have HX := Lib.hid hxe
      clear hxe
      go_wp2_with fail
      · have h1 : x = 49 := by simpa using (by assumption : (x == 49) = true)
        go_roundw
        case rel => exact ⟨k + 1, m * 2 + 1, b * 2 + 1, by omega, by go_num, by rw [HN.out]; simp [cstep, h1], (((HR.out.set0 _).set1 _).set0 _).set1 _⟩
        case measure => simp [intOf]; omega
      · have h1 : x = 48 := by simpa using (by assumption : (x == 48) = true)
        go_roundw
        case rel => exact ⟨k + 1, m * 2 + 1, b * 2, by omega, by go_num, by rw [HN.out]; simp [cstep, h1], ((HR.out.set0 _).set1 _).set0 _⟩
        case measure => simp [intOf]; omega
      · have h1 : x = 42 := by simpa using (by assumption : (x == 42) = true)
        go_roundw
        case rel => exact ⟨k + 1, m * 2, b * 2, by omega, by go_num, by rw [HN.out]; simp [cstep, h1], (HR.out.set0 _).set1 _⟩
        case measure => simp [intOf]; omega
      · have e49 : (x == 49) = false := by assumption
        have e48 : (x == 48) = false := by assumption
        have e42 : (x == 42) = false := by assumption
        have hn : cparse s = none := cpre_4 HS.out hlt (by rw [HN.out]; simp at e49 e48 e42; simp [cstep, e49, e48, e42])
        obtain ⟨p1, p2, p3⟩ := parse_none hn
        refine bodyPost_ret (v := .tuple #[.agg #[.int .i64 0, .int .i64 0], .iface 119 (.int .i64 2)]) (by simp [results, Tryd.results23, go_sem, *]) rfl ⟨by rw [p1, p2, p3]; rfl, ?_⟩
        go_grown
    · have h4 : k = 4 := by omega
      have hn : cparse s = some (m, b) := by simp [cparse, HS.out, ← h4, hpre]
      have HQ := Lib.hid (parse_some hn)
      clear hx hpre hn HP
      go_wp2_with fail
      refine bodyPost_ret (v := .tuple #[.agg #[.int .i64 m, .int .i64 b], .nilIface]) (by simp [results, Tryd.results23, go_sem, *]) rfl ⟨by rw [HQ.out.1, HQ.out.2.1, HQ.out.2.2]; rfl, ?_⟩
      go_grown
set_option maxHeartbeats 800000 in
theorem cparse_any (s : ByteArray) (w : World) : Calls Tryd.prog 23 #[.string s] w fun e w' => e = .returned (.tuple #[.agg #[.int .i64 (pm s), .int .i64 (pb s)], errOf (perr s)]) ∧ Below w.heap.size w w' := by
  by_cases hs : s.size = 4
  · exact parse_4 s w hs
  · have hn : cparse s = none := by simp [cparse, hs]
    have HQ := Lib.hid (parse_none hn)
    have hs1 : ((s.size : Int) != 4) = true := by rw [bne_iff_ne]; omega
    clear hs hn
    go_enter Tryd.func23, Tryd.ntmps23
    go_wp2_with fail
    refine bodyPost_ret (v := .tuple #[.agg #[.int .i64 0, .int .i64 0], .iface 119 (.int .i64 2)]) (by simp [results, Tryd.results23, go_sem, *]) rfl ⟨by rw [HQ.out.1, HQ.out.2.1, HQ.out.2.2]; rfl, ?_⟩
    go_grown

/-! ### Print -/
def pw : Nat → Int
  | 0 => 8
  | 1 => 4
  | 2 => 2
  | _ => 1
/-- the sign of a cube's text at place i -/
def ch (m b : Int) (i : Nat) : Int := if bits .and .i64 m (pw i) = 0 then 42 else if bits .and .i64 b (pw i) = 0 then 48 else 49
def cshow (m b : Int) : ByteArray := strOfNums [ch m b 0, ch m b 1, ch m b 2, ch m b 3]
def chTo (m b : Int) (k j : Nat) : Int := if j < k then ch m b j else 0
structure PP (w : World) (g : Nat) (m b : Int) (k : Nat) (wr : World) : Prop where
  below : Below w.heap.size w wr
  lt : w.heap.size < g
  c0 : wr.cell? ⟨w.heap.size, 0, none⟩ = some (.int .i64 m)
  c1 : wr.cell? ⟨w.heap.size, 1, none⟩ = some (.int .i64 b)
  x : ∀ j, j < 4 → wr.cell? ⟨g, j, none⟩ = some (.int .u8 (chTo m b k j))
  f : ∀ j, wr.frozen? ⟨g, j, none⟩ = false
theorem PP.step {w wr : World} {g : Nat} {m b : Int} {k : Nat} (h : PP w g m b k wr) (hk : k < 4) {n : Int} (hn : n = ch m b k) : PP w g m b (k + 1) (wr.setCell ⟨g, k, none⟩ (.int .u8 n)) where
  below := h.below.setCell (Nat.le_of_lt h.lt) _
  lt := h.lt
  c0 := (World.cell?_setCell_other _ _ _ _ (by have := h.lt; simp <;> omega)).trans h.c0
  c1 := (World.cell?_setCell_other _ _ _ _ (by have := h.lt; simp <;> omega)).trans h.c1
  x := fun j hj => by
    by_cases e : j = k
    · subst e
      rw [World.cell?_setCell_same _ _ _ (h.x j hk)]
      simp [chTo, hn]
    · rw [World.cell?_setCell_other _ _ _ _ (by simp <;> omega), h.x j hj]
      unfold chTo
      by_cases h2 : j < k
      · rw [if_pos h2, if_pos (by omega)]
      · rw [if_neg h2, if_neg (by omega)]
  f := fun j => (World.frozen?_setCell _ _ _ _).trans (h.f j)
theorem print_back {wr : World} {g : Nat} {m b : Int} (hx : ∀ j, j < 4 → wr.cell? ⟨g, j, none⟩ = some (.int .u8 (chTo m b 4 j))) :
    (convert 116 9 (.slice (some ⟨g, 0, none⟩) 4 4)).run Tryd.prog wr = .ok (.string (cshow m b)) wr := by
  refine run_convert_bytes_arg (P := Tryd.prog) wr 116 5 Tryd.underlying116 Tryd.underlying5 g 0 4 4 [ch m b 0, ch m b 1, ch m b 2, ch m b 3] rfl (fun i hi => ?_) 9 Tryd.underlying9
  have := hx i hi
  rw [Nat.zero_add, this]
  obtain rfl | rfl | rfl | rfl : i = 0 ∨ i = 1 ∨ i = 2 ∨ i = 3 := by omega
  all_goals rfl
/-- what Print gives back: the text -/
def ctext (m b : Int) : ByteArray := if cchk m b = 0 then cshow m b else ByteArray.empty

set_option maxRecDepth 100000 in
set_option maxHeartbeats 800000 in
theorem print_ok (m b : Int) (w : World) (h : cchk m b = 0) : Calls Tryd.prog 21 #[.agg #[.int .i64 m, .int .i64 b]] w fun e w' => e = .returned (.tuple #[.string (cshow m b), .nilIface]) ∧ Below w.heap.size w w' := by
  have hmk : ∀ w : World, (Instr.makeSlice 116 (.int .i64 4) (.int .i64 4)).run Tryd.prog w = .ok (.slice (some ⟨w.heap.size, 0, none⟩) 4 4) (w.alloc (.cells #[.int .u8 0, .int .u8 0, .int .u8 0, .int .u8 0] 5)) := fun _ => by kernel_rfl
  have HK := Lib.hid h
  clear h
  go_enter Tryd.func21, Tryd.ntmps21
  go_wp2_with fail
  (go_at_call 19; refine (ccheck_ok _ _ _ HK.out).mono ?_; rintro e w' ⟨rfl, hb⟩; obtain ⟨hc, hf⟩ := bcell hb; have hz := hb.size; (try simp at hz); (try have y1 := Nat.lt_of_succ_le hz); (try have y2 := Nat.lt_of_succ_lt y1); (try have y3 := Nat.lt_of_succ_lt y2); have hB := bstep (w := w) (by go_grown) hb; (try have z0 : w.heap.size < w'.heap.size := by omega); (try have z1 : w.heap.size + 1 < w'.heap.size := by omega); (try have z2 : w.heap.size + 1 + 1 < w'.heap.size := by omega); (try have z3 : w.heap.size + 1 + 1 + 1 < w'.heap.size := by omega))
  go_wp2_with fail
  have hst : PP w w'.heap.size m b 0 (w'.alloc (.cells #[.int .u8 0, .int .u8 0, .int .u8 0, .int .u8 0] 5)) := by
    refine ⟨by go_grown, z0, by simp [go_sem, hc, z0], by simp [go_sem, hc, z0], fun j hj => ?_, fun j => by simp [go_sem]⟩
    obtain rfl | rfl | rfl | rfl : j = 0 ∨ j = 1 ∨ j = 2 ∨ j = 3 := by omega
    all_goals (simp [go_sem, chTo])
  have HST := Lib.hid hst
  clear hst
  generalize hg : w'.heap.size = g at *
  clear hc hf hb hB
  go_loopw [16] (fun i wr => ∃ k : Nat, k ≤ 4 ∧ i = .int .i64 k ∧ PP w g m b k wr) (fun i _ => 4 - (intOf i).toNat)
  case atStart => exact ⟨0, by omega, rfl, HST.out⟩
  case round =>
    obtain ⟨k, hk, rfl, hr⟩ := hrel
    have HR := Lib.hid hr
    obtain ⟨hbel, hlt, c0, c1, hx, hf⟩ := hr
    by_cases h4 : k = 4
    · subst h4
      have hback := print_back hx
      clear hx hf
      go_wp2_with fail
      go_ret2
      exact ⟨rfl, by go_grown⟩
    obtain rfl | rfl | rfl | rfl : k = 0 ∨ k = 1 ∨ k = 2 ∨ k = 3 := by omega
    all_goals
      have hx0 := hx 0 (by omega)
      have hx1 := hx 1 (by omega)
      have hx2 := hx 2 (by omega)
      have hx3 := hx 3 (by omega)
      have hf0 := hf 0
      have hf1 := hf 1
      have hf2 := hf 2
      have hf3 := hf 3
      clear hx hf HST hg
      go_wp2_with fail
    all_goals
      go_roundw
      case rel => exact ⟨_, by omega, by go_num, HR.out.step (by omega) (by unfold ch pw; simp_all)⟩
      case measure => simp [intOf]
end Go.Proofs.YtpkcdfgjcodidaaDoor
