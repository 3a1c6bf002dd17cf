/- What the document's functions over rules and tables come to (railref1). -/
import Derived.Test.YtpkcdfgjcodidaaDoorTable3
import Derived.Test.YtpkcdfgjcodidaaDoorRefCube
namespace Go.Proofs.YtpkcdfgjcodidaaDoor
open Go.RowKit
set_option maxRecDepth 100000
set_option linter.unusedSimpArgs false
set_option linter.unusedVariables false

theorem cchk_hdr {s v : Int} (hs : hdr s = true) (hv : hdr v = true) : cchk s v = if bits .andNot .i64 v s = 0 then 0 else 3 := by
  unfold cchk; rw [if_pos ⟨(hdr_iff.1 hs).1, (hdr_iff.1 hs).2, (hdr_iff.1 hv).1, (hdr_iff.1 hv).2⟩]
theorem rchk_one {p m b o s v : Int} (h : ¬ (0 ≤ p ∧ p ≤ 99 ∧ 0 ≤ o ∧ o ≤ 4 ∧ (0 ≤ s ∧ s < 16) ∧ (0 ≤ v ∧ v < 16))) : rchk p m b o s v = 1 := by unfold rchk; rw [if_neg h]
theorem rchk_good {p m b o s v : Int} (h : 0 ≤ p ∧ p ≤ 99 ∧ 0 ≤ o ∧ o ≤ 4) (hs : hdr s = true) (hv : hdr v = true) :
    rchk p m b o s v = if cchk m b = 0 then (if cchk s v = 0 ∧ ¬ (o = 0 ∧ s ≠ 0) then 0 else 3) else cchk m b := by
  unfold rchk; rw [if_pos ⟨h.1, h.2.1, h.2.2.1, h.2.2.2, hdr_iff.1 hs, hdr_iff.1 hv⟩, cchk_hdr hs hv]
  congr 1
  by_cases h2 : bits .andNot .i64 v s = 0 <;> simp [h2]

set_option maxHeartbeats 6400000 in
theorem rrule_any (r : Rl) (wa : World) : Calls Tryd.prog 49 #[.agg #[.int .i64 r.p, .int .i64 r.m, .int .i64 r.b, .int .i64 r.o, .int .i64 r.s, .int .i64 r.v]] wa fun e w' => e = .returned (.int .i64 r.chk) ∧ Below wa.heap.size wa w' := by
  (obtain ⟨w, hw⟩ : ∃ w : World, w = wa.alloc (.cells #[.int .i64 r.p, .int .i64 r.m, .int .i64 r.b, .int .i64 r.o, .int .i64 r.s, .int .i64 r.v] 25) := ⟨_, rfl⟩); have hb0 : Below wa.heap.size wa w := (hw ▸ (Below.refl _ _).alloc (Nat.le_refl _) _); have hs0 : wa.heap.size < w.heap.size := (by rw [hw]; simp); have HS1 := Lib.hid (show wa.heap.size + 1 = w.heap.size by rw [hw]; simp)
  have HA := Lib.hid (show RlAt w wa.heap.size r from hw ▸ RlAt.new wa r 25)
  obtain ⟨c0, c1, c2, c3, c4, c5, -⟩ := HA.out
  have H1 := Lib.hid (fun w => rheader_any r.s w)
  have H2 := Lib.hid (fun w => rheader_any r.v w)
  have HC := Lib.hid (fun w => rcube_any r.m r.b w)
  have HS := Lib.hid (fun w => rcube_any r.s r.v w)
  by_cases hg : (0 ≤ r.p ∧ r.p ≤ 99 ∧ 0 ≤ r.o ∧ r.o ≤ 4) ∧ hdr r.s = true ∧ hdr r.v = true
  · obtain ⟨⟨g0, g1, g2, g3⟩, hs, hv⟩ := hg
    have HR := Lib.hid (rchk_good (m := r.m) (b := r.b) ⟨g0, g1, g2, g3⟩ hs hv)
    rw [hs] at H1
    rw [hv] at H2
    clear hs hv
    by_cases hc : cchk r.m r.b = 0
    · rw [if_pos hc] at HR
      rw [hc] at HC
      clear hc
      by_cases hsv : cchk r.s r.v = 0
      · rw [hsv] at HS
        have HR2 := Lib.hid (show r.chk = if ¬ (r.o = 0 ∧ r.s ≠ 0) then 0 else 3 by show rchk _ _ _ _ _ _ = _; rw [HR.out]; simp [hsv])
        clear hsv HR
        go_enter Tryd.func49, Tryd.ntmps49
        go_wp2_with fail
        rw [← hw]; clear hw
        (go_at_call 71; refine (H1.out _).mono ?_; rintro e w' ⟨rfl, rfl⟩)
        go_wp2_with fail
        (go_at_call 71; refine (H2.out _).mono ?_; rintro e w' ⟨rfl, rfl⟩)
        go_wp2_with fail
        (go_at_call 18; refine (HC.out _).mono ?_; rintro e w2 ⟨rfl, hbw2⟩; obtain ⟨hcw2, hfw2⟩ := bcell hbw2; have hzw2 := hbw2.size; (try simp at hzw2); have hBw2 := bstep (w := w) (by go_grown) hbw2; (try have : wa.heap.size < w2.heap.size := by omega); (try have : w.heap.size < w2.heap.size := by omega); (try have : w.heap.size + 1 < w2.heap.size := by omega); (try have : w.heap.size + 1 + 1 < w2.heap.size := by omega); (try have : w.heap.size + 1 + 1 + 1 < w2.heap.size := by omega))
        go_wp2_with fail
        (go_at_call 18; refine (HS.out _).mono ?_; rintro e w3 ⟨rfl, hbw3⟩; obtain ⟨hcw3, hfw3⟩ := bcell hbw3; have hzw3 := hbw3.size; (try simp at hzw3); have hBw3 := bstep (w := w) (by go_grown) hbw3; (try have : wa.heap.size < w3.heap.size := by omega); (try have : w.heap.size < w3.heap.size := by omega); (try have : w.heap.size + 1 < w3.heap.size := by omega); (try have : w.heap.size + 1 + 1 < w3.heap.size := by omega); (try have : w.heap.size + 1 + 1 + 1 < w3.heap.size := by omega))
        go_wp2_with fail
        all_goals go_ret
        all_goals refine ⟨ret_int ?_, hb0.trans (hBw3.mono (Nat.le_of_lt hs0))⟩
        all_goals (go_light; rw [HR2.out]; simp_all)
      · have HR2 := Lib.hid (show r.chk = 3 by show rchk _ _ _ _ _ _ = _; rw [HR.out]; simp [hsv])
        have hsv' : (cchk r.s r.v != 0) = true := by simpa using hsv
        clear hsv HR
        go_enter Tryd.func49, Tryd.ntmps49
        go_wp2_with fail
        rw [← hw]; clear hw
        (go_at_call 71; refine (H1.out _).mono ?_; rintro e w' ⟨rfl, rfl⟩)
        go_wp2_with fail
        (go_at_call 71; refine (H2.out _).mono ?_; rintro e w' ⟨rfl, rfl⟩)
        go_wp2_with fail
        (go_at_call 18; refine (HC.out _).mono ?_; rintro e w2 ⟨rfl, hbw2⟩; obtain ⟨hcw2, hfw2⟩ := bcell hbw2; have hzw2 := hbw2.size; (try simp at hzw2); have hBw2 := bstep (w := w) (by go_grown) hbw2; (try have : wa.heap.size < w2.heap.size := by omega); (try have : w.heap.size < w2.heap.size := by omega); (try have : w.heap.size + 1 < w2.heap.size := by omega); (try have : w.heap.size + 1 + 1 < w2.heap.size := by omega); (try have : w.heap.size + 1 + 1 + 1 < w2.heap.size := by omega))
        go_wp2_with fail
        (go_at_call 18; refine (HS.out _).mono ?_; rintro e w3 ⟨rfl, hbw3⟩; obtain ⟨hcw3, hfw3⟩ := bcell hbw3; have hzw3 := hbw3.size; (try simp at hzw3); have hBw3 := bstep (w := w) (by go_grown) hbw3; (try have : wa.heap.size < w3.heap.size := by omega); (try have : w.heap.size < w3.heap.size := by omega); (try have : w.heap.size + 1 < w3.heap.size := by omega); (try have : w.heap.size + 1 + 1 < w3.heap.size := by omega); (try have : w.heap.size + 1 + 1 + 1 < w3.heap.size := by omega))
        go_wp2_with fail
        go_ret
        exact ⟨by rw [HR2.out]; rfl, hb0.trans (hBw3.mono (Nat.le_of_lt hs0))⟩
    · have HR2 := Lib.hid (show r.chk = cchk r.m r.b by show rchk _ _ _ _ _ _ = _; rw [HR.out, if_neg hc])
      have hc' : (cchk r.m r.b != 0) = true := by simpa using hc
      clear hc HR
      go_enter Tryd.func49, Tryd.ntmps49
      go_wp2_with fail
      rw [← hw]; clear hw
      (go_at_call 71; refine (H1.out _).mono ?_; rintro e w' ⟨rfl, rfl⟩)
      go_wp2_with fail
      (go_at_call 71; refine (H2.out _).mono ?_; rintro e w' ⟨rfl, rfl⟩)
      go_wp2_with fail
      (go_at_call 18; refine (HC.out _).mono ?_; rintro e w2 ⟨rfl, hbw2⟩; obtain ⟨hcw2, hfw2⟩ := bcell hbw2; have hzw2 := hbw2.size; (try simp at hzw2); have hBw2 := bstep (w := w) (by go_grown) hbw2; (try have : wa.heap.size < w2.heap.size := by omega); (try have : w.heap.size < w2.heap.size := by omega); (try have : w.heap.size + 1 < w2.heap.size := by omega); (try have : w.heap.size + 1 + 1 < w2.heap.size := by omega); (try have : w.heap.size + 1 + 1 + 1 < w2.heap.size := by omega))
      go_wp2_with fail
      go_ret
      exact ⟨by rw [HR2.out]; rfl, hb0.trans (hBw2.mono (Nat.le_of_lt hs0))⟩
  · have HV := Lib.hid (show r.chk = 1 from rchk_one fun q => hg ⟨⟨q.1, q.2.1, q.2.2.1, q.2.2.2.1⟩, hdr_iff.2 q.2.2.2.2.1, hdr_iff.2 q.2.2.2.2.2⟩)
    have HG : Hid (¬ ((0 ≤ r.p ∧ r.p ≤ 99 ∧ 0 ≤ r.o ∧ r.o ≤ 4) ∧ hdr r.s = true ∧ hdr r.v = true)) := hg
    clear hg
    cases hs : hdr r.s <;> cases hv : hdr r.v
    all_goals
      rw [hs] at H1
      rw [hv] at H2
      have HG2 := Lib.hid (HG.out)
      rw [hs, hv] at HG2
      clear hs hv HG
      go_enter Tryd.func49, Tryd.ntmps49
      go_wp2_with fail
      rw [← hw]; clear hw
      (go_at_call 71; refine (H1.out _).mono ?_; rintro e w' ⟨rfl, rfl⟩)
      go_wp2_with fail
      (go_at_call 71; refine (H2.out _).mono ?_; rintro e w' ⟨rfl, rfl⟩)
      go_wp2_with fail
    all_goals first
      | (go_ret; exact ⟨by rw [HV.out]; rfl, hb0⟩)
      | (exfalso; exact HG2.out ⟨⟨by omega, by omega, by omega, by omega⟩, by trivial, by trivial⟩)
theorem rrule_ok (r : Rl) (h : r.chk = 0) (w : World) : Calls Tryd.prog 49 #[.agg #[.int .i64 r.p, .int .i64 r.m, .int .i64 r.b, .int .i64 r.o, .int .i64 r.s, .int .i64 r.v]] w fun e w' => e = .returned (.int .i64 0) ∧ Below w.heap.size w w' := h ▸ rrule_any r w

theorem run_eql_cube2 (a b c d : Int) (w : World) : (binOp .eql 23 (.agg #[.int .i64 a, .int .i64 b]) (.agg #[.int .i64 c, .int .i64 d])).run Tryd.prog w = .ok (.bool (decide (a = c ∧ b = d))) w := by
  rw [run_eql_struct]
  by_cases h1 : a = c <;> by_cases h2 : b = d <;> simp [go_sem, h1, h2]

set_option maxHeartbeats 6400000 in
theorem rtable_any (A : Option Addr) (cp : Nat) (l : List Rl) (w : World) (h : Rules w A cp l) : Calls Tryd.prog 48 #[.slice A l.length cp] w fun e w' => e = .returned (.int .i64 (tchk l)) ∧ Below w.heap.size w w' := by
  have H := Lib.hid h
  clear h
  by_cases hl : l.length ≤ 12
  · have HT := Lib.hid (show tchk l = tfaultFrom [] l by unfold tchk; rw [if_neg (by omega)])
    go_enter Tryd.func48, Tryd.ntmps48
    go_wp2_with fail
    go_loopw [3] (fun i wr => ∃ k : Nat, k ≤ l.length ∧ i = .int .i64 k ∧ Below w.heap.size w wr ∧ Hid (tfaultFrom [] l = tfaultFrom (l.take k) (l.drop k))) (fun i _ => l.length - (intOf i).toNat)
    case atStart => exact ⟨0, by omega, rfl, Below.refl _ _, rfl⟩
    case round =>
      obtain ⟨k, hk, rfl, hbel, hno⟩ := hrel
      have hwr := hbel.size
      by_cases hlt : k < l.length
      · have HS := Lib.hid (tfault_step hlt)
        obtain ⟨b, o, rfl, hb, c0, c1, c2, c3, c4, c5⟩ := (H.out.below hbel).at_ hlt
        by_cases hz : l[k].chk = 0
        · have HC := Lib.hid (rrule_ok l[k] hz)
          go_wp2_with fail
          (go_at_call 49; refine (HC.out _).mono ?_; rintro e w2 ⟨rfl, hbw2⟩; obtain ⟨hcw2, hfw2⟩ := bcell hbw2; have hzw2 := hbw2.size; (try simp at hzw2); have hBw2 := bstep (w := w) (by go_grown) hbw2; (try have : wa.heap.size < w2.heap.size := by omega); (try have : w.heap.size < w2.heap.size := by omega); (try have : w.heap.size + 1 < w2.heap.size := by omega); (try have : w.heap.size + 1 + 1 < w2.heap.size := by omega); (try have : w.heap.size + 1 + 1 + 1 < w2.heap.size := by omega))
          go_wp2_with fail
          have HZ := Lib.hid hz
          clear hz c0 c1 c2 c3 c4 c5 hcw2 hfw2
          go_loopw [5] (fun i wr => ∃ j : Nat, j ≤ k ∧ i = .int .i64 j ∧ Below w.heap.size w wr ∧ Hid (∀ q (hq : q < l.length), q < j → l[q].key l[k] = false)) (fun i _ => k - (intOf i).toNat)
          case atStart => exact ⟨0, by omega, rfl, hBw2, fun q _ hq => absurd hq (by omega)⟩
          case round =>
            obtain ⟨j, hj, rfl, hbi, hnk⟩ := hrel
            rename_i wi
            have hwi := hbi.size
            by_cases hjk : j < k
            · obtain ⟨b1, o1, e1, hb1, c0, c1, c2, c3, c4, c5⟩ := (H.out.below hbi).at_ hlt
              obtain ⟨b2, o2, e2, hb2, d0, d1, d2, d3, d4, d5⟩ := (H.out.below hbi).at_ (Nat.lt_trans hjk hlt)
              cases e1
              cases e2
              have i0 : (0 : Int) ≤ (j : Int) := by omega
              have i1 : (j : Int) < (l.length : Int) := by omega
              have i2 : (0 : Int) ≤ (k : Int) := by omega
              have i3 : (k : Int) < (l.length : Int) := by omega
              have hjl : j < l.length := Nat.lt_trans hjk hlt
              have hrun := run_eql_cube2 (l[j]'hjl).m (l[j]'hjl).b l[k].m l[k].b
              have HK := Lib.hid (show (l[j]'hjl).key l[k] = decide ((l[j]'hjl).p = l[k].p ∧ (l[j]'hjl).m = l[k].m ∧ (l[j]'hjl).b = l[k].b) from rfl)
              by_cases hp : (l[j]'hjl).p = l[k].p
              · have hp' : ((l[j]'hjl).p == l[k].p) = true := by simpa using hp
                by_cases hm : (l[j]'hjl).m = l[k].m ∧ (l[j]'hjl).b = l[k].b
                · have HX := Lib.hid (HT.out.trans (hno.out.trans (by
                    rw [HS.out, if_neg (by simpa using HZ.out), if_pos (List.any_eq_true.2 ⟨l[j]'hjl, by rw [List.mem_take_iff_getElem]; exact ⟨j, by omega, rfl⟩, by rw [HK.out]; exact decide_eq_true ⟨hp, hm⟩⟩)])))
                  rw [decide_eq_true hm] at hrun
                  clear hp hm
                  go_wp2_with fail
                  refine wp_region_below (by kernel_rfl) (by kernel_rfl) ?_
                  repeat (go_big_quiet_step (fail))
                  refine wpQuiet_nil ?_
                  intro w3 hb3
                  go_wp2_with fail
                  go_ret
                  exact ⟨by rw [HX.out]; rfl, hbi.trans (hb3.mono hwi)⟩
                · have HX := Lib.hid (fun q (hq : q < l.length) (hqj : q < j + 1) => show l[q].key l[k] = false from if e : q < j then hnk.out q hq e else (by obtain rfl : q = j := (by omega); rw [HK.out]; exact decide_eq_false fun z => hm z.2))
                  rw [decide_eq_false hm] at hrun
                  clear hp hm
                  go_wp2_with fail
                  refine wp_region_below (by kernel_rfl) (by kernel_rfl) ?_
                  repeat (go_big_quiet_step (fail))
                  refine wpQuiet_nil ?_
                  intro w3 hb3
                  go_wp2_with fail
                  go_roundw
                  case rel => exact ⟨j + 1, by omega, by go_num, hbi.trans (hb3.mono hwi), HX.out⟩
                  case measure => simp [intOf]; omega
              · have hp' : ((l[j]'hjl).p == l[k].p) = false := by simpa using hp
                have HX := Lib.hid (fun q (hq : q < l.length) (hqj : q < j + 1) => show l[q].key l[k] = false from if e : q < j then hnk.out q hq e else (by obtain rfl : q = j := (by omega); rw [HK.out]; exact decide_eq_false fun z => hp z.1))
                clear hp
                go_wp2_with fail
                refine wp_region_below (by kernel_rfl) (by kernel_rfl) ?_
                repeat (go_big_quiet_step (fail))
                refine wpQuiet_nil ?_
                intro w3 hb3
                go_wp2_with fail
                go_roundw
                case rel => exact ⟨j + 1, by omega, by go_num, hbi.trans (hb3.mono hwi), HX.out⟩
                case measure => simp [intOf]; omega
            · obtain rfl : j = k := by omega
              have HX := Lib.hid (hno.out.trans (by
                rw [HS.out, if_neg (by simpa using HZ.out), if_neg]
                intro h2
                obtain ⟨y, hy, hky⟩ := List.any_eq_true.1 h2
                obtain ⟨q, hq, rfl⟩ := List.mem_take_iff_getElem.1 hy
                rw [hnk.out q (by omega) (by omega)] at hky
                cases hky))
              clear hnk
              go_wp2_with fail
              go_roundw
              case rel => exact ⟨j + 1, by omega, by go_num, hbi, HX.out⟩
              case measure => simp [intOf]; omega
        · have HC := Lib.hid (fun w => rrule_any l[k] w)
          have HX := Lib.hid (HT.out.trans (hno.out.trans (by rw [HS.out, if_pos hz])))
          have hz' : (l[k].chk != 0) = true := by simpa using hz
          clear hz
          generalize l[k].chk = q at *
          go_wp2_with (go_at_call 49; refine (HC.out _).mono ?_; rintro e w2 ⟨rfl, hbw2⟩; obtain ⟨hcw2, hfw2⟩ := bcell hbw2; have hzw2 := hbw2.size; (try simp at hzw2); have hBw2 := bstep (w := w) (by go_grown) hbw2; (try have : wa.heap.size < w2.heap.size := by omega); (try have : w.heap.size < w2.heap.size := by omega); (try have : w.heap.size + 1 < w2.heap.size := by omega); (try have : w.heap.size + 1 + 1 < w2.heap.size := by omega); (try have : w.heap.size + 1 + 1 + 1 < w2.heap.size := by omega))
          go_ret
          exact ⟨by rw [HX.out]; rfl, by go_grown⟩
      · have HX := Lib.hid (HT.out.trans (hno.out.trans (by rw [List.drop_of_length_le (by omega)]; try rfl)))
        go_wp2_with fail
        go_ret
        exact ⟨by rw [HX.out]; rfl, hbel⟩
  · have HT := Lib.hid (show tchk l = 4 by unfold tchk; rw [if_pos (by omega)])
    go_enter Tryd.func48, Tryd.ntmps48
    go_wp2_with fail
    go_ret
    exact ⟨by rw [HT.out]; rfl, Below.refl _ _⟩

set_option maxHeartbeats 1600000 in
theorem rin_any (A : Option Addr) (cp : Nat) (l : List Rl) (r : Rl) (wa : World) (h : Rules wa A cp l) (hl : l.length ≤ 65536) :
    Calls Tryd.prog 90 #[.slice A l.length cp, .agg #[.int .i64 r.p, .int .i64 r.m, .int .i64 r.b, .int .i64 r.o, .int .i64 r.s, .int .i64 r.v]] wa fun e w' => e = .returned (.bool (l.any fun x => decide (r = x))) ∧ Below wa.heap.size wa w' := by
  (obtain ⟨w, hw⟩ : ∃ w : World, w = wa.alloc (.cells #[.int .i64 r.p, .int .i64 r.m, .int .i64 r.b, .int .i64 r.o, .int .i64 r.s, .int .i64 r.v] 25) := ⟨_, rfl⟩); have hb0 : Below wa.heap.size wa w := (hw ▸ (Below.refl _ _).alloc (Nat.le_refl _) _); have hs0 : wa.heap.size < w.heap.size := (by rw [hw]; simp); have HS1 := Lib.hid (show wa.heap.size + 1 = w.heap.size by rw [hw]; simp)
  have HA := Lib.hid (show RlAt w wa.heap.size r from hw ▸ RlAt.new wa r 25)
  have H := Lib.hid (h.below hb0)
  clear h
  go_enter Tryd.func90, Tryd.ntmps90
  go_wp2_with fail
  rw [← hw]; clear hw
  go_loopw [5] (fun i wr => ∃ k : Nat, k ≤ l.length ∧ i = .int .i64 k ∧ Below w.heap.size w wr ∧ Hid (∀ j (hj : j < l.length), j < k → decide (r = l[j]) = false)) (fun i _ => l.length - (intOf i).toNat)
  case atStart => exact ⟨0, by omega, rfl, Below.refl _ _, fun j _ hj => absurd hj (by omega)⟩
  case round =>
    obtain ⟨k, hk, rfl, hbel, hno⟩ := hrel
    have hwr := hbel.size
    by_cases hlt : k < l.length
    · obtain ⟨b, o, rfl, hb, c0, c1, c2, c3, c4, c5⟩ := (H.out.below hbel).at_ hlt
      obtain ⟨d0, d1, d2, d3, d4, d5, hd⟩ := HA.out.below hbel
      have i0 : (0 : Int) ≤ (k : Int) := by omega
      have i1 : (k : Int) < (l.length : Int) := by omega
      have hrun := run_eql_rule l[k] r
      by_cases he : l[k] = r
      · have HX := Lib.hid (show (l.any fun x => decide (r = x)) = true from List.any_eq_true.2 ⟨l[k], List.getElem_mem hlt, decide_eq_true he.symm⟩)
        rw [decide_eq_true he] at hrun
        clear he
        go_wp2_with fail
        refine wp_region_below (by kernel_rfl) (by kernel_rfl) ?_
        repeat (go_big_quiet_step (fail))
        refine wpQuiet_nil ?_
        intro w2 hb2
        go_wp2_with fail
        go_ret
        exact ⟨by rw [HX.out]; rfl, hb0.trans ((hbel.trans (hb2.mono hwr)).mono (Nat.le_of_lt hs0))⟩
      · have HX := Lib.hid (fun j (hj : j < l.length) (hjk : j < k + 1) => show decide (r = l[j]) = false from if e : j < k then hno.out j hj e else (by obtain rfl : j = k := (by omega); exact decide_eq_false fun e => he e.symm))
        rw [decide_eq_false he] at hrun
        clear he
        go_wp2_with fail
        refine wp_region_below (by kernel_rfl) (by kernel_rfl) ?_
        repeat (go_big_quiet_step (fail))
        refine wpQuiet_nil ?_
        intro w2 hb2
        go_wp2_with fail
        go_roundw
        case rel => exact ⟨k + 1, by omega, by go_num, hbel.trans (hb2.mono hwr), HX.out⟩
        case measure => simp [intOf]; omega
    · have HX := Lib.hid (show (l.any fun x => decide (r = x)) = false by
        rw [List.any_eq_false]
        intro x hx
        obtain ⟨j, hj, rfl⟩ := List.getElem_of_mem hx
        rw [hno.out j hj (by omega)]; simp)
      go_wp2_with fail
      go_ret
      exact ⟨by rw [HX.out]; rfl, hb0.trans (hbel.mono (Nat.le_of_lt hs0))⟩
end Go.Proofs.YtpkcdfgjcodidaaDoor
