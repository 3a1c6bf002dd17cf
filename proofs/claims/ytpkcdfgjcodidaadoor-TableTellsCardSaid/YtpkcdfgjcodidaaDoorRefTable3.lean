/- railref1.Diff; railsame.Ops; table.Room. -/
import Derived.Test.YtpkcdfgjcodidaaDoorRefTable2
namespace Go.Proofs.YtpkcdfgjcodidaaDoor
open Go.RowKit
set_option maxRecDepth 100000
set_option linter.unusedSimpArgs false
set_option linter.unusedVariables false

theorem rin_is (m : List Rl) (r : Rl) (b : Bool) (hb : (m.any fun x => decide (r = x)) = b) (hm : m.length ≤ 65536) : ∀ A cp w, Rules w A cp m →
    Calls Tryd.prog 90 #[.slice A m.length cp, .agg #[.int .i64 r.p, .int .i64 r.m, .int .i64 r.b, .int .i64 r.o, .int .i64 r.s, .int .i64 r.v]] w fun e w' => e = .returned (.bool b) ∧ Below w.heap.size w w' :=
  fun A cp w h => hb ▸ rin_any A cp m r w h hm
/-- rules of one that another one has not, as ops of a switch -/
def lacksS (s : Int) (a b : List Rl) (add : Bool) : List Opx := (lacks a b add).map fun o => { o with s := s }
theorem lacksS_0 (a b : List Rl) (add : Bool) : lacksS 0 a b add = lacks a b add := by
  unfold lacksS
  rw [lacks_eq, List.map_map]
  rfl
theorem lacksS_le (s : Int) (a b : List Rl) (add : Bool) : (lacksS s a b add).length ≤ a.length := by unfold lacksS; rw [List.length_map]; exact lacks_le a b add
theorem lacksS_none {s : Int} {a b : List Rl} {add : Bool} {k : Nat} (hk : k < a.length) (h : (b.any fun x => decide (a[k] = x)) = true) : lacksS s (a.take (k + 1)) b add = lacksS s (a.take k) b add := by
  unfold lacksS; rw [lacks_none hk h]
theorem lacksS_one {s : Int} {a b : List Rl} {add : Bool} {k : Nat} (hk : k < a.length) (h : (b.any fun x => decide (a[k] = x)) = false) : lacksS s (a.take (k + 1)) b add = lacksS s (a.take k) b add ++ [⟨s, add, a[k]⟩] := by
  unfold lacksS; rw [lacks_one hk h, List.map_append]; rfl
def rdiff (s : Int) (a b : List Rl) : List Opx := lacksS s a b false ++ lacksS s b a true
theorem rdiff_0 (a b : List Rl) : rdiff 0 a b = tdiff a b := by unfold rdiff tdiff; rw [lacksS_0, lacksS_0]

set_option maxHeartbeats 3200000 in
theorem rdiff_any (A A2 : Option Addr) (cp cp2 : Nat) (a b : List Rl) (s : Int) (w : World) (h : Rules w A cp a) (h2 : Rules w A2 cp2 b) (ha : a.length ≤ 65536) (hb : b.length ≤ 65536) :
    Calls Tryd.prog 53 #[.slice A a.length cp, .slice A2 b.length cp2, .int .i64 s] w (RetOps (rdiff s a b) w) := by
  have H := Lib.hid h
  have H2 := Lib.hid h2
  clear h h2
  go_enter Tryd.func53, Tryd.ntmps53
  go_wp2_with fail
  go_loopw [7, 8] (fun v i wr => ∃ k : Nat, k ≤ a.length ∧ i = .int .i64 k ∧ Below w.heap.size w wr ∧ Owns wr w.heap.size 27 8 v ((lacksS s (a.take k) b false).map Opx.cells)) (fun _ i _ => a.length - (intOf i).toNat)
  case atStart => exact ⟨0, by omega, rfl, Below.refl _ _, Owns.nil_ _ _ _ _⟩
  case round =>
    obtain ⟨k, hk, rfl, hbel, hown⟩ := hrel
    have hwr := hbel.size
    have HO := Lib.hid hown
    clear hown
    by_cases hlt : k < a.length
    · obtain ⟨b0, o, rfl, hb0, c0, c1, c2, c3, c4, c5⟩ := (H.out.below hbel).at_ hlt
      have hle := Nat.le_trans (lacksS_le s (a.take k) b false) (List.length_take_le k a)
      cases hp : b.any fun x => decide (a[k] = x) with
      | true =>
        have HC := Lib.hid (rin_is b a[k] true hp hb)
        have HS := Lib.hid (lacksS_none (s := s) (add := false) hlt hp)
        clear hp
        go_wp2_with (go_at_call 90; refine (HC.out _ _ _ (H2.out.below (by go_grown))).mono ?_; rintro e w2 ⟨rfl, hbw2⟩; obtain ⟨hcw2, hfw2⟩ := bcell hbw2; have hzw2 := hbw2.size; (try simp at hzw2); have hBw2 := bstep (w := w) (by go_grown) hbw2; (try have : wa.heap.size < w2.heap.size := by omega); (try have : w.heap.size < w2.heap.size := by omega); (try have : w.heap.size + 1 < w2.heap.size := by omega); (try have : w.heap.size + 1 + 1 < w2.heap.size := by omega); (try have : w.heap.size + 1 + 1 + 1 < w2.heap.size := by omega); (try have : b0 < w2.heap.size := by omega))
        go_roundw
        case rel => exact ⟨k + 1, by omega, by go_num, by go_grown, by rw [HS.out]; exact HO.out.below hbw2⟩
        case measure => simp [intOf]; omega
      | false =>
        have HC := Lib.hid (rin_is b a[k] false hp hb)
        have HS := Lib.hid (lacksS_one (s := s) (add := false) hlt hp)
        clear hp
        go_wp2_with fail
        (go_at_call 90; refine (HC.out _ _ _ (H2.out.below (by go_grown))).mono ?_; rintro e w2 ⟨rfl, hbw2⟩; obtain ⟨hcw2, hfw2⟩ := bcell hbw2; have hzw2 := hbw2.size; (try simp at hzw2); have hBw2 := bstep (w := w) (by go_grown) hbw2; (try have : wa.heap.size < w2.heap.size := by omega); (try have : w.heap.size < w2.heap.size := by omega); (try have : w.heap.size + 1 < w2.heap.size := by omega); (try have : w.heap.size + 1 + 1 < w2.heap.size := by omega); (try have : w.heap.size + 1 + 1 + 1 < w2.heap.size := by omega); (try have : b0 < w2.heap.size := by omega))
        have HO2 := Lib.hid (HO.out.below hbw2)
        go_wp2_with (at_builtin; refine wpList_push_new el_op rfl (.tmp 26) (.tmp 33) rfl w.heap.size _ _ rfl HO2.out (Opx.cells ⟨s, false, a[k]⟩) _ _ rfl rfl rfl rfl (by omega) (by simp; omega) (by omega) ?_)
        intro v3 w3 hO3 hb3
        have HO3 := Lib.hid hO3
        clear hO3
        go_wp2_with fail
        go_roundw
        case rel => exact ⟨k + 1, by omega, by go_num, hBw2.trans hb3, by rw [HS.out, List.map_append]; exact HO3.out⟩
        case measure => simp [intOf]; omega
    · obtain rfl : k = a.length := by omega
      have HO1 := Lib.hid (show Owns wr w.heap.size 27 8 _ ((lacksS s a b false).map Opx.cells) by have := HO.out; rwa [List.take_length] at this)
      have hla := lacksS_le s a b false
      clear HO
      go_wp2_with fail
      go_loopw [7, 10] (fun v i wr => ∃ k : Nat, k ≤ b.length ∧ i = .int .i64 k ∧ Below w.heap.size w wr ∧ Owns wr w.heap.size 27 8 v ((lacksS s a b false ++ lacksS s (b.take k) a true).map Opx.cells)) (fun _ i _ => b.length - (intOf i).toNat)
      case atStart => exact ⟨0, by omega, rfl, hbel, by simpa [lacksS, lacks] using HO1.out⟩
      case round =>
        obtain ⟨k, hk, rfl, hbi, hown⟩ := hrel
        rename_i wi
        have hwi := hbi.size
        have HO := Lib.hid hown
        clear hown
        by_cases hlt : k < b.length
        · obtain ⟨b0, o, rfl, hb0, c0, c1, c2, c3, c4, c5⟩ := (H2.out.below hbi).at_ hlt
          have hle := Nat.le_trans (lacksS_le s (b.take k) a true) (List.length_take_le k b)
          cases hp : a.any fun x => decide (b[k] = x) with
          | true =>
            have HC := Lib.hid (rin_is a b[k] true hp ha)
            have HS := Lib.hid (lacksS_none (s := s) (add := true) hlt hp)
            clear hp
            go_wp2_with (go_at_call 90; refine (HC.out _ _ _ (H.out.below (by go_grown))).mono ?_; rintro e w2 ⟨rfl, hbw2⟩; obtain ⟨hcw2, hfw2⟩ := bcell hbw2; have hzw2 := hbw2.size; (try simp at hzw2); have hBw2 := bstep (w := w) (by go_grown) hbw2; (try have : wa.heap.size < w2.heap.size := by omega); (try have : w.heap.size < w2.heap.size := by omega); (try have : w.heap.size + 1 < w2.heap.size := by omega); (try have : w.heap.size + 1 + 1 < w2.heap.size := by omega); (try have : w.heap.size + 1 + 1 + 1 < w2.heap.size := by omega); (try have : b0 < w2.heap.size := by omega))
            go_roundw
            case rel => exact ⟨k + 1, by omega, by go_num, by go_grown, by rw [HS.out]; exact HO.out.below hbw2⟩
            case measure => simp [intOf]; omega
          | false =>
            have HC := Lib.hid (rin_is a b[k] false hp ha)
            have HS := Lib.hid (lacksS_one (s := s) (add := true) hlt hp)
            clear hp
            go_wp2_with fail
            (go_at_call 90; refine (HC.out _ _ _ (H.out.below (by go_grown))).mono ?_; rintro e w2 ⟨rfl, hbw2⟩; obtain ⟨hcw2, hfw2⟩ := bcell hbw2; have hzw2 := hbw2.size; (try simp at hzw2); have hBw2 := bstep (w := w) (by go_grown) hbw2; (try have : wa.heap.size < w2.heap.size := by omega); (try have : w.heap.size < w2.heap.size := by omega); (try have : w.heap.size + 1 < w2.heap.size := by omega); (try have : w.heap.size + 1 + 1 < w2.heap.size := by omega); (try have : w.heap.size + 1 + 1 + 1 < w2.heap.size := by omega); (try have : b0 < w2.heap.size := by omega))
            have HO2 := Lib.hid (HO.out.below hbw2)
            go_wp2_with (at_builtin; refine wpList_push_new el_op rfl (.tmp 49) (.tmp 56) rfl w.heap.size _ _ rfl HO2.out (Opx.cells ⟨s, true, b[k]⟩) _ _ rfl rfl rfl rfl (by omega) (by simp; omega) (by omega) ?_)
            intro v3 w3 hO3 hb3
            have HO3 := Lib.hid hO3
            clear hO3
            go_wp2_with fail
            go_roundw
            case rel => exact ⟨k + 1, by omega, by go_num, hBw2.trans hb3, by rw [HS.out]; simpa using HO3.out⟩
            case measure => simp [intOf]; omega
        · obtain rfl : k = b.length := by omega
          go_wp2_with fail
          go_ret
          exact ⟨_, rfl, by have := HO.out; rw [List.take_length] at this; exact this, hbi⟩

theorem Opx.ext_iff' (x y : Opx) : x = y ↔ x.s = y.s ∧ x.add = y.add ∧ x.r.p = y.r.p ∧ x.r.m = y.r.m ∧ x.r.b = y.r.b ∧ x.r.o = y.r.o ∧ x.r.s = y.r.s ∧ x.r.v = y.r.v := by
  obtain ⟨s, a, p, m, b, o, t, v⟩ := x
  obtain ⟨s2, a2, p2, m2, b2, o2, t2, v2⟩ := y
  simp
theorem run_neq_op (x y : Opx) (w : World) : (binOp .neq 27 (.agg #[.int .i64 x.s, .bool x.add, .int .i64 x.r.p, .int .i64 x.r.m, .int .i64 x.r.b, .int .i64 x.r.o, .int .i64 x.r.s, .int .i64 x.r.v]) (.agg #[.int .i64 y.s, .bool y.add, .int .i64 y.r.p, .int .i64 y.r.m, .int .i64 y.r.b, .int .i64 y.r.o, .int .i64 y.r.s, .int .i64 y.r.v])).run Tryd.prog w = .ok (.bool (!decide (x = y))) w := by
  rw [run_neq_struct]
  simp [go_sem]
  by_cases e : x = y
  · subst e; simp
  · rw [decide_eq_false e]
    have h := mt (Opx.ext_iff' x y).2 e
    (repeat' split) <;> first | rfl | (exfalso; simp_all)
set_option maxHeartbeats 1600000 in
theorem ssame_ops (A A2 : Option Addr) (cp cp2 : Nat) (a b : List Opx) (w : World) (h : Ops w A cp a) (h2 : Ops w A2 cp2 b) (ha : a.length ≤ 9223372036854775807) :
    Calls Tryd.prog 55 #[.slice A a.length cp, .slice A2 b.length cp2] w fun e w' => e = .returned (.bool (decide (a = b))) ∧ Below w.heap.size w w' := by
  have H := Lib.hid h
  have H2 := Lib.hid h2
  clear h h2
  by_cases hl : a.length = b.length
  · have HL := Lib.hid hl
    have hl' : ((a.length : Int) != (b.length : Int)) = false := by rw [hl]; simp
    have hle : b.length ≤ 9223372036854775807 := by omega
    clear hl
    go_enter Tryd.func55, Tryd.ntmps55
    go_wp2_with fail
    go_loopw [5] (fun i wr => ∃ k : Nat, k ≤ a.length ∧ i = .int .i64 k ∧ Below w.heap.size w wr ∧ Hid (∀ j (h1 : j < a.length) (h2 : j < b.length), j < k → a[j] = b[j])) (fun i _ => a.length - (intOf i).toNat)
    case atStart => exact ⟨0, by omega, rfl, Below.refl _ _, fun j _ _ hj => absurd hj (by omega)⟩
    case round =>
      obtain ⟨k, hk, rfl, hbel, hno⟩ := hrel
      have hwr := hbel.size
      by_cases hlt : k < a.length
      · have hltb : k < b.length := by have := HL.out; omega
        obtain ⟨b1, o1, rfl, hb1, c0, c1, c2, c3, c4, c5, c6, c7⟩ := (H.out.below hbel).at_ hlt
        obtain ⟨b2, o2, rfl, hb2, d0, d1, d2, d3, d4, d5, d6, d7⟩ := (H2.out.below hbel).at_ hltb
        have i0 : (0 : Int) ≤ (k : Int) := by omega
        have i1 : (k : Int) < (a.length : Int) := by omega
        have i2 : (k : Int) < (b.length : Int) := by omega
        have hrun := run_neq_op a[k] b[k]
        by_cases he : a[k] = b[k]
        · have HX := Lib.hid (fun j (h1 : j < a.length) (h2 : j < b.length) (hjk : j < k + 1) => show a[j] = b[j] from if e : j < k then hno.out j h1 h2 e else (by obtain rfl : j = k := (by omega); exact he))
          rw [decide_eq_true he] at hrun
          clear he
          go_wp2_with fail
          refine wp_region_below (by kernel_rfl) (by kernel_rfl) ?_
          repeat (go_big_quiet_step (fail))
          refine wpQuiet_nil ?_
          intro w2 hb2
          go_wp2_with fail
          go_roundw
          case rel => exact ⟨k + 1, by omega, by go_num, hbel.trans (hb2.mono hwr), HX.out⟩
          case measure => simp [intOf]; omega
        · have HX := Lib.hid (show ¬ a = b from fun e => he (by subst e; rfl))
          rw [decide_eq_false he] at hrun
          clear he
          go_wp2_with fail
          refine wp_region_below (by kernel_rfl) (by kernel_rfl) ?_
          repeat (go_big_quiet_step (fail))
          refine wpQuiet_nil ?_
          intro w2 hb2
          go_wp2_with fail
          go_ret
          exact ⟨by rw [decide_eq_false HX.out]; rfl, hbel.trans (hb2.mono hwr)⟩
      · have HX := Lib.hid (show a = b from List.ext_getElem HL.out fun j h1 h2 => hno.out j h1 h2 (by omega))
        go_wp2_with fail
        go_ret
        exact ⟨by rw [decide_eq_true HX.out]; rfl, hbel⟩
  · have hl' : ((a.length : Int) != (b.length : Int)) = true := by rw [bne_iff_ne]; omega
    have HX := Lib.hid (show ¬ a = b from fun e => hl (by rw [e]))
    clear hl
    go_enter Tryd.func55, Tryd.ntmps55
    go_wp2_with fail
    go_ret
    exact ⟨by rw [decide_eq_false HX.out]; rfl, Below.refl _ _⟩
end Go.Proofs.YtpkcdfgjcodidaaDoor
