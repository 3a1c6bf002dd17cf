/- The walk of TableTells. -/
import Derived.Test.YtpkcdfgjcodidaaDoorTellsTable
import Derived.Test.YtpkcdfgjcodidaaDoorErr
namespace Go.Proofs.YtpkcdfgjcodidaaDoor.lawTableTells
open Go.RowKit
set_option linter.unusedSimpArgs false
set_option linter.unusedVariables false

theorem err_same (x : Int) (er : Value) (he : er = errOf x) (w : World) (hd : Door w) : Calls Tryd.prog 12 #[er, .int .i64 x] w fun e w' => e = .returned (.bool true) ∧ Below w.heap.size w w' := by
  subst he
  have := error_any x x w hd
  rwa [decide_eq_true rfl] at this
theorem same_table (V : List Rl) (hV : V.length ≤ 9223372036854775807) (A A2 : Option Addr) (cp cp2 : Nat) (w : World) (h : Rules w A cp V) (h2 : Rules w A2 cp2 V) :
    Calls Tryd.prog 34 #[.slice A V.length cp, .slice A2 V.length cp2] w fun e w' => e = .returned (.bool true) ∧ Below w.heap.size w w' := by
  have := ssame_table A A2 cp cp2 V V w h h2 hV
  rwa [decide_eq_true rfl] at this

set_option maxRecDepth 100000 in
set_option maxHeartbeats 64000000 in
theorem walk (A A3 A4 : Option Addr) (cp cp3 cp4 : Nat) (t : List Rl) (add : Bool) (r : Rl) (l : List Opx) (o : List Rl) (wa : World) (hd : Door wa) (h : Rules wa A cp t) (h3 : Ops wa A3 cp3 l) (h4 : Rules wa A4 cp4 o) (hl : l.length ≤ 9223372036854775807) :
    Calls Tryd.prog 7 #[.slice A t.length cp, .bool add, .agg #[.int .i64 r.p, .int .i64 r.m, .int .i64 r.b, .int .i64 r.o, .int .i64 r.s, .int .i64 r.v], .slice A3 l.length cp3, .slice A4 o.length cp4] wa fun e w' => e = .returned (.bool true) ∧ Below wa.heap.size wa w' := by
  (obtain ⟨w, hw⟩ : ∃ w : World, w = wa.alloc (.cells #[.int .i64 r.p, .int .i64 r.m, .int .i64 r.b, .int .i64 r.o, .int .i64 r.s, .int .i64 r.v] 25) := ⟨_, rfl⟩); have hb0 : Below wa.heap.size wa w := (hw ▸ (Below.refl _ _).alloc (Nat.le_refl _) _); have hs0 : wa.heap.size < w.heap.size := (by rw [hw]; simp); have HS1 := Lib.hid (show wa.heap.size + 1 = w.heap.size by rw [hw]; simp)
  have HD := Lib.hid (hd.below hb0)
  have H := Lib.hid (h.below hb0)
  have H3 := Lib.hid (h3.below hb0)
  have H4 := Lib.hid (h4.below hb0)
  have HA := Lib.hid (show RlAt w wa.heap.size r from hw ▸ RlAt.new wa r 25)
  obtain ⟨a0, a1, a2, a3, a4, a5, -⟩ := HA.out
  have hBw : Below w.heap.size w w := Below.refl _ _
  have hcw : True := trivial
  clear h h3 h4 hd
  have HT := Lib.hid (fun w h => rtable_any A cp t w h)
  have HR := Lib.hid (fun w => rrule_any r w)
  have HDT := Lib.hid (fun w h => tdo_any A cp t add r w h)
  have HE1 := Lib.hid (fun w hd => err_same (tdoF t add r) (errOf (tdoF t add r)) rfl w hd)
  generalize errOf (tdoF t add r) = er1 at HDT HE1
  have hV1 : (tdoV t add r).length ≤ 9223372036854775807 := by
    by_cases hz : tdoF t add r = 0
    · have := tchk_len (tdo_tok hz); rw [tdoV_ok hz]; omega
    · rw [tdoV_bad rfl hz]; simp
  have HST1 := Lib.hid (same_table (tdoV t add r) hV1)
  clear hV1
  go_enter Tryd.func7, Tryd.ntmps7
  go_wp2_with fail
  rw [← hw]; clear hw
  (go_at_call 48; refine (HT.out _ H.out).mono ?_; rintro e w2 ⟨rfl, hbw2⟩; have hBw2 := hBw.trans (hbw2.mono hBw.size); have hcw2 := fun b o (h : b < w.heap.size) => hBw2.cell (p := ⟨b, o, none⟩) h; clear hbw2; try clear hcw)
  go_upto_if 37 with fail
  go_cut [12] (fun f wx => f = .int .i64 (wantE t r) ∧ Below w.heap.size w wx)
  case first => as_aux_lemma =>
    by_cases hz : tchk t = 0
    · have HW := Lib.hid (show wantE t r = r.chk by unfold wantE; rw [if_pos hz])
      have hq : (tchk t == 0) = true := by simpa using hz
      clear hz
      go_wp2_with fail
      (go_at_call 49; refine (HR.out _).mono ?_; rintro e w3 ⟨rfl, hbw3⟩; have hBw3 := hBw2.trans (hbw3.mono hBw2.size); have hcw3 := fun b o (h : b < w.heap.size) => hBw3.cell (p := ⟨b, o, none⟩) h; clear hbw3; try clear hcw2)
      go_wp2_with fail
      go_meet
      exact ⟨by rw [HW.out], hBw3⟩
    · have HW := Lib.hid (show wantE t r = tchk t by unfold wantE; rw [if_neg hz])
      have hq : (tchk t == 0) = false := by simpa using hz
      clear hz
      go_wp2_with fail
      go_meet
      exact ⟨by rw [HW.out], hBw2⟩
  case rest => as_aux_lemma =>
    obtain ⟨rfl, hBwc⟩ := hcut
    have hcwc := fun b o (h : b < w.heap.size) => hBwc.cell (p := ⟨b, o, none⟩) h
    clear hcw2
    go_upto_if 41 with fail
    go_cut [12, 13] (fun f v wx => f = .int .i64 (tdoF t add r) ∧ (∃ A c, v = .slice A (tdoV t add r).length c ∧ Rules wx A c (tdoV t add r)) ∧ Below w.heap.size w wx)
    case first => as_aux_lemma =>
      by_cases hz : wantE t r = 0
      · have HDo := Lib.hid (fun w h => rdo_any A cp t add r w h (want_0 hz).1 (want_0 hz).2)
        go_wp2_with fail
        (go_at_call 50; refine (HDo.out _ (H.out.below hBwc)).mono ?_; rintro e w5 ⟨A5, c5, rfl, hR5, hbw5⟩; have hBw5 := hBwc.trans (hbw5.mono hBwc.size); have hcw5 := fun b o (h : b < w.heap.size) => hBw5.cell (p := ⟨b, o, none⟩) h; try clear hcwc)
        have HR5 := Lib.hid hR5
        clear hR5
        go_wp2_with fail
        go_meet
        exact ⟨rfl, ⟨_, _, rfl, HR5.out⟩, hBw5⟩
      · have HF := Lib.hid (tdoF_want (add := add) hz)
        have HV := Lib.hid (tdoV_bad HF.out hz)
        go_wp2_with fail
        go_meet
        exact ⟨by rw [HF.out], ⟨none, 0, by rw [HV.out]; rfl, by rw [HV.out]; exact RowC.none_ _ _⟩, hBwc⟩
    case rest => as_aux_lemma =>
      obtain ⟨rfl, ⟨A5, c5, rfl, hR5⟩, hBwd⟩ := hcut
      rename_i wd
      have HR5 := Lib.hid hR5
      have hcwd := fun b o (h : b < w.heap.size) => hBwd.cell (p := ⟨b, o, none⟩) h
      clear hcwc hBwc hR5
      go_wp2_with fail
      (go_at_call 51; refine (HDT.out _ (H.out.below hBwd)).mono ?_; rintro e w6 ⟨A6, c6, rfl, hR6, hbw6, -⟩; have hBw6 := hBwd.trans (hbw6.mono hBwd.size); have hcw6 := fun b o (h : b < w.heap.size) => hBw6.cell (p := ⟨b, o, none⟩) h; try clear hcwd)
      have HR6 := Lib.hid hR6
      have HR5 := Lib.hid (HR5.out.below hbw6)
      clear hR6 hbw6
      go_wp2_with fail
      (go_at_call 12; refine (HE1.out _ (HD.out.below hBw6)).mono ?_; rintro e w7 ⟨rfl, hbw7⟩; have hBw7 := hBw6.trans (hbw7.mono hBw6.size); have hcw7 := fun b o (h : b < w.heap.size) => hBw7.cell (p := ⟨b, o, none⟩) h; try clear hcw6)
      have HR5 := Lib.hid (HR5.out.below hbw7)
      have HR6 := Lib.hid (HR6.out.below hbw7)
      clear hbw7
      go_wp2_with fail
      (go_at_call 34; refine (HST1.out _ _ _ _ _ HR6.out HR5.out).mono ?_; rintro e w8 ⟨rfl, hbw8⟩; have hBw8 := hBw7.trans (hbw8.mono hBw7.size); have hcw8 := fun b o (h : b < w.heap.size) => hBw8.cell (p := ⟨b, o, none⟩) h; clear hbw8; try clear hcw7)
      clear HR5 HR6
      clear HE1 HDT HST1
      go_upto_block 0 with fail
      go_cut [12, 13, 18] (fun f v i wx => (∃ T A c, v = .slice A (T : List Rl).length c ∧ Rules wx A c T ∧ f = .int .i64 (tallE t l) ∧ (tallE t l = 0 → T = tallV t l)) ∧ Below w.heap.size w wx)
      case first => as_aux_lemma =>
        go_wp2_with fail
        go_loopw [12, 13, 18] (fun f v i wr => ∃ (k : Nat) (F : Int) (T : List Rl) (A5 : Option Addr) (c5 : Nat), k ≤ l.length ∧ i = .int .i64 k ∧ f = .int .i64 F ∧ v = .slice A5 T.length c5 ∧ Rules wr A5 c5 T ∧ Below w.heap.size w wr ∧ Hid (AInv t l F T k)) (fun _ _ i _ => l.length - (intOf i).toNat)
        case atStart => exact ⟨0, tchk t, t, A, cp, by omega, rfl, rfl, rfl, H.out.below hBw8, hBw8, AInv.start t l⟩
        case round =>
          obtain ⟨k, F, T, A5, c5, hk, rfl, rfl, rfl, hR5, hBwr, hI⟩ := hrel
          have HR5 := Lib.hid hR5
          have hwr := hBwr.size
          clear hR5 hcw8
          by_cases hlt : k < l.length
          · by_cases hF : F = 0
            · subst hF
              obtain ⟨b3, o3, rfl, hb3, c0, c1, c2, c3, c4, c5', c6, c7⟩ := (H3.out.below hBwr).at_ hlt
              by_cases hr : l[k].r.chk = 0
              · have HRR := Lib.hid (fun w => rrule_ok l[k].r hr w)
                have HDo := Lib.hid (fun A c w h => rdo_any A c T l[k].add l[k].r w h (hI.out.good).1 hr)
                have HX := Lib.hid (hI.out.next hlt)
                clear hr hI
                go_wp2_with fail
                (go_at_call 49; refine (HRR.out _).mono ?_; rintro e w9 ⟨rfl, hbw9⟩; have hBw9 := hBwr.trans (hbw9.mono hBwr.size); have hcw9 := fun b o (h : b < w.heap.size) => hBw9.cell (p := ⟨b, o, none⟩) h; try clear hcwr)
                clear c0 c1 c2 c3 c4 c5' c6 c7 hcw9 hb3
                obtain ⟨b3', o3', e3, hb3, c0, c1, c2, c3, c4, c5', c6, c7⟩ := (H3.out.below hBw9).at_ hlt
                cases e3
                have i0 : (0 : Int) ≤ (k : Int) := by omega
                have i1 : (k : Int) < (l.length : Int) := by omega
                have HR5 := Lib.hid (HR5.out.below hbw9)
                clear hbw9
                go_wp2_with fail
                (refine wp_region_loose 17 (tabT [(11, (STabS (tdoV T l[k].add l[k].r) (tdoF T l[k].add l[k].r), STabR (tdoV T l[k].add l[k].r) (tdoF T l[k].add l[k].r)))]) (monoT_tab (by simp [STab_mono])) (by kernel_rfl) (by kernel_rfl) ?_); simp only [List.take_succ_cons, List.take_zero, List.drop_succ_cons, List.drop_zero]
                (refine wpL_plain 11 rfl rfl ?_); simp only [List.take_succ_cons, List.take_zero, List.drop_succ_cons, List.drop_zero]; (repeat (go_big_quiet_step (fail))); (refine wpQuiet_nil ?_)
                (refine wpL_made rfl rfl (fun W hW => ?_) (fun v9 hv9 => ?_)); (focus (simp [go_sem, execOp, resolve, looseUpon]; exact STab_call (HDo.out _ _ _ (HR5.out.below hW)))); (try go_frame)
                obtain ⟨A9, c9, rfl⟩ := hv9
                (refine wpL_plain 5 rfl rfl ?_); simp only [List.take_succ_cons, List.take_zero, List.drop_succ_cons, List.drop_zero]; (repeat (go_big_quiet_step (fail))); (refine wpQuiet_nil ?_)
                refine wpL_nil ?_; intro W hW hF
                have hR9 := hF.2 A9 c9 rfl
                clear hF
                have HR9 := Lib.hid hR9
                have hBW : Below w.heap.size w W := hBw9.trans (hW.mono hBw9.size)
                clear hR9
                go_wp2_with fail
                go_roundw
                case rel => exact ⟨k + 1, _, _, _, _, by omega, by go_num, rfl, rfl, HR9.out, hBW, HX.out⟩
                case measure => simp [intOf]; omega
              · have HRR := Lib.hid (fun w => rrule_any l[k].r w)
                have HX := Lib.hid (hI.out.bad hlt hr)
                have hq : (l[k].r.chk == 0) = false := by simpa using hr
                clear hr hI
                generalize l[k].r.chk = q at *
                go_wp2_with fail
                (go_at_call 49; refine (HRR.out _).mono ?_; rintro e w9 ⟨rfl, hbw9⟩; have hBw9 := hBwr.trans (hbw9.mono hBwr.size); have hcw9 := fun b o (h : b < w.heap.size) => hBw9.cell (p := ⟨b, o, none⟩) h; try clear hcwr)
                clear hcw9
                go_wp2_with fail
                go_roundw
                case rel => exact ⟨k + 1, _, _, _, _, by omega, by go_num, rfl, rfl, HR5.out.below hbw9, hBw9, HX.out⟩
                case measure => simp [intOf]; omega
            · have HX := Lib.hid (hI.out.out (.inr hF))
              have hq : (F == 0) = false := by simpa using hF
              clear hF hI
              go_wp2_with fail
              go_meet
              exact ⟨⟨T, A5, c5, rfl, HR5.out, by rw [HX.out.1], fun h => HX.out.2 (HX.out.1.trans h)⟩, hBwr⟩
          · obtain rfl : k = l.length := by omega
            have HX := Lib.hid (hI.out.out (.inl rfl))
            clear hI
            go_wp2_with fail
            go_meet
            exact ⟨⟨T, A5, c5, rfl, HR5.out, by rw [HX.out.1], fun h => HX.out.2 (HX.out.1.trans h)⟩, hBwr⟩
      case rest => as_aux_lemma =>
        obtain ⟨⟨T, A5, c5, rfl, hR5, rfl, hT⟩, hBwe⟩ := hcut
        rename_i we
        have HR5 := Lib.hid hR5
        have HTE := Lib.hid hT
        have hcwe := fun b o (h : b < w.heap.size) => hBwe.cell (p := ⟨b, o, none⟩) h
        clear hcw8 hR5 hT
        go_upto_if 98 with fail
        go_cut [13] (fun v wx => (∃ A c, v = .slice A (tallV t l).length c ∧ Rules wx A c (tallV t l)) ∧ Below w.heap.size w wx)
        case first => as_aux_lemma =>
          by_cases hz : tallE t l = 0
          · have HX := Lib.hid (HTE.out hz)
            have hq : (tallE t l != 0) = false := by simpa using hz
            clear hz
            go_wp2_with fail
            go_meet
            exact ⟨⟨A5, c5, by rw [HX.out], HX.out ▸ HR5.out⟩, hBwe⟩
          · have HX := Lib.hid (show tallV t l = [] by rw [tallV_of, if_neg hz])
            have hq : (tallE t l != 0) = true := by simpa using hz
            clear hz
            go_wp2_with fail
            go_meet
            exact ⟨⟨none, 0, by rw [HX.out]; rfl, by rw [HX.out]; exact RowC.none_ _ _⟩, hBwe⟩
        case rest => as_aux_lemma =>
          obtain ⟨⟨A7, c7, rfl, hR7⟩, hBwf⟩ := hcut
          rename_i wf
          have HR7 := Lib.hid hR7
          have hcwf := fun b o (h : b < w.heap.size) => hBwf.cell (p := ⟨b, o, none⟩) h
          have HAL := Lib.hid (fun w h h3 => tall_any A A3 cp cp3 t l w h h3 hl)
          have HE2 := Lib.hid (fun w hd => err_same (tallE t l) (errOf (tallE t l)) rfl w hd)
          generalize errOf (tallE t l) = er2 at HAL HE2
          have hV2 : (tallV t l).length ≤ 9223372036854775807 := by
            have := tallV_le t l
            omega
          have HST2 := Lib.hid (same_table (tallV t l) hV2)
          clear hcwe hR7 HR5 HTE hV2
          go_wp2_with fail
          (go_at_call 52; refine (HAL.out _ (H.out.below hBwf) (H3.out.below hBwf)).mono ?_; rintro e w8 ⟨A8, c8, rfl, hR8, hbw8⟩; have hBw8 := hBwf.trans (hbw8.mono hBwf.size); have hcw8 := fun b o (h : b < w.heap.size) => hBw8.cell (p := ⟨b, o, none⟩) h; try clear hcwf)
          have HR8 := Lib.hid hR8
          have HR7 := Lib.hid (HR7.out.below hbw8)
          clear hR8 hbw8
          go_wp2_with fail
          (go_at_call 12; refine (HE2.out _ (HD.out.below hBw8)).mono ?_; rintro e w9 ⟨rfl, hbw9⟩; have hBw9 := hBw8.trans (hbw9.mono hBw8.size); have hcw9 := fun b o (h : b < w.heap.size) => hBw9.cell (p := ⟨b, o, none⟩) h; try clear hcw8)
          have HR7 := Lib.hid (HR7.out.below hbw9)
          have HR8 := Lib.hid (HR8.out.below hbw9)
          clear hbw9
          go_wp2_with fail
          (go_at_call 34; refine (HST2.out _ _ _ _ _ HR8.out HR7.out).mono ?_; rintro e wg ⟨rfl, hbwg⟩; have hBwg := hBw9.trans (hbwg.mono hBw9.size); have hcwg := fun b o (h : b < w.heap.size) => hBwg.cell (p := ⟨b, o, none⟩) h; clear hbwg; try clear hcw9)
          clear HR7 HR8 HAL HE2 HST2
          go_upto_if 112 with fail
          go_cut [11] (fun f wx => f = .int .i64 (t2chk t o) ∧ Below w.heap.size w wx)
          case first => as_aux_lemma =>
            by_cases hz : tchk t = 0
            · have HW := Lib.hid (show t2chk t o = tchk o by unfold t2chk; rw [if_neg (by simpa using hz)])
              have HO := Lib.hid (fun w h => rtable_any A4 cp4 o w h)
              have hq : (tchk t == 0) = true := by simpa using hz
              clear hz
              go_wp2_with fail
              (go_at_call 48; refine (HO.out _ (H4.out.below hBwg)).mono ?_; rintro e wh ⟨rfl, hbwh⟩; have hBwh := hBwg.trans (hbwh.mono hBwg.size); have hcwh := fun b o (h : b < w.heap.size) => hBwh.cell (p := ⟨b, o, none⟩) h; clear hbwh; try clear hcwg)
              go_wp2_with fail
              go_meet
              exact ⟨by rw [HW.out], hBwh⟩
            · have HW := Lib.hid (show t2chk t o = tchk t by unfold t2chk; rw [if_pos hz])
              have hq : (tchk t == 0) = false := by simpa using hz
              clear hz
              go_wp2_with fail
              go_meet
              exact ⟨by rw [HW.out], hBwg⟩
          case rest => as_aux_lemma =>
            obtain ⟨hf, hBwi⟩ := hcut
            rename_i fe wi
            have hcwi := fun b o (h : b < w.heap.size) => hBwi.cell (p := ⟨b, o, none⟩) h
            have HRM := Lib.hid (fun A A2 cp cp2 w h h2 => room_any A A2 cp cp2 t o w h h2)
            clear hcwg
            by_cases hz : t2chk t o = 0
            · rw [hz] at hf
              subst hf
              have hz2 := t2chk_0 hz
              have hn := tchk_len hz2.1
              have hm := tchk_len hz2.2
              have hld : (tdiff t o).length ≤ 24 := by have := tdiff_le t o; omega
              have HDF := Lib.hid (fun A A2 cp cp2 w h h2 => tdiff_ok A A2 cp cp2 t o w h h2 hz)
              have HRD := Lib.hid (fun A A2 cp cp2 w h h2 => rdiff_any A A2 cp cp2 t o 0 w h h2 (by omega) (by omega))
              rw [rdiff_0] at HRD
              have HSM := Lib.hid (fun A A2 cp cp2 w h h2 => tsame_ok A A2 cp cp2 t o w h h2 hz)
              have HE3 := Lib.hid (fun w hd => err_same 0 .nilIface rfl w hd)
              have HE5 := Lib.hid (fun w hd => err_same (roomE t o) (errOf (roomE t o)) rfl w hd)
              have HSO := Lib.hid (fun A A2 cp cp2 w h h2 => ssame_ops A A2 cp cp2 (tdiff t o) (tdiff t o) w h h2 (by omega))
              simp only [decide_true] at HSO
              have HRO := Lib.hid (fun (E N : Int) (k : Nat) (h : RInv t (tdiff t o) E N k) (hE : k = (tdiff t o).length ∨ E ≠ 0) => h.out hz hE)
              have HR0 := Lib.hid (show roomE t o ≠ 0 → roomN t o = 0 from fun h => by unfold roomN; rw [if_neg h])
              have hie : (((tdiff t o).length : Int) == 0) = (tdiff t o).isEmpty := by cases tdiff t o <;> simp; omega
              clear hz hz2
              generalize tdiff t o = l2 at *
              generalize roomE t o = re at *
              generalize roomN t o = rn at *
              generalize errOf re = er5 at *
              go_wp2_with fail
              (go_at_call 53; refine (HRD.out _ _ _ _ _ (H.out.below hBwi) (H4.out.below hBwi)).mono ?_; rintro e wj ⟨v8, rfl, hO8, hbwj⟩; have hBwj := hBwi.trans (hbwj.mono hBwi.size); have hcwj := fun b o (h : b < w.heap.size) => hBwj.cell (p := ⟨b, o, none⟩) h; try clear hcwi)
              obtain ⟨A8, c8, rfl, hR8⟩ := hO8.ops
              have HR8 := Lib.hid hR8
              clear hR8 hO8 hbwj HRD
              go_wp2_with fail
              (go_at_call 54; refine (HDF.out _ _ _ _ _ (H.out.below hBwj) (H4.out.below hBwj)).mono ?_; rintro e wk ⟨v9, rfl, hO9, hbwk⟩; have hBwk := hBwj.trans (hbwk.mono hBwj.size); have hcwk := fun b o (h : b < w.heap.size) => hBwk.cell (p := ⟨b, o, none⟩) h; try clear hcwj)
              obtain ⟨A9, c9, rfl, hR9⟩ := hO9.ops
              have HR9 := Lib.hid hR9
              have HR8 := Lib.hid (HR8.out.below hbwk)
              clear hR9 hO9 hbwk HDF
              go_wp2_with fail
              (go_at_call 12; refine (HE3.out _ (HD.out.below hBwk)).mono ?_; rintro e wl ⟨rfl, hbwl⟩; have hBwl := hBwk.trans (hbwl.mono hBwk.size); have hcwl := fun b o (h : b < w.heap.size) => hBwl.cell (p := ⟨b, o, none⟩) h; try clear hcwk)
              have HR8 := Lib.hid (HR8.out.below hbwl)
              have HR9 := Lib.hid (HR9.out.below hbwl)
              clear hbwl
              go_wp2_with fail
              (go_at_call 55; refine (HSO.out _ _ _ _ _ HR9.out HR8.out).mono ?_; rintro e wm ⟨rfl, hbwm⟩; have hBwm := hBwl.trans (hbwm.mono hBwl.size); have hcwm := fun b o (h : b < w.heap.size) => hBwm.cell (p := ⟨b, o, none⟩) h; try clear hcwl)
              have HR8 := Lib.hid (HR8.out.below hbwm)
              clear hbwm HR9 HSO
              go_wp2_with fail
              (go_at_call 56; refine (HSM.out _ _ _ _ _ (H.out.below hBwm) (H4.out.below hBwm)).mono ?_; rintro e wn ⟨rfl, hbwn⟩; have hBwn := hBwm.trans (hbwn.mono hBwm.size); have hcwn := fun b o (h : b < w.heap.size) => hBwn.cell (p := ⟨b, o, none⟩) h; try clear hcwm)
              have HR8 := Lib.hid (HR8.out.below hbwn)
              clear hbwn HSM
              generalize l2.isEmpty = be at *
              go_wp2_with fail
              (go_at_call 12; refine (HE3.out _ (HD.out.below hBwn)).mono ?_; rintro e wo ⟨rfl, hbwo⟩; have hBwo := hBwn.trans (hbwo.mono hBwn.size); have hcwo := fun b o (h : b < w.heap.size) => hBwo.cell (p := ⟨b, o, none⟩) h; try clear hcwn)
              have HR8 := Lib.hid (HR8.out.below hbwo)
              clear hbwo HE3
              go_upto_block 2 with fail
              go_cut [11, 28] (fun f n wx => (∃ N : Int, f = .int .i64 re ∧ n = .int .i64 N ∧ (re = 0 → N = rn)) ∧ Below wo.heap.size wo wx)
              case first => as_aux_lemma =>
                go_wp2_with fail
                go_loopw [11, 28, 29] (fun f n i wr => ∃ (k : Nat) (E N : Int), k ≤ l2.length ∧ f = .int .i64 E ∧ n = .int .i64 N ∧ i = .int .i64 k ∧ Below wo.heap.size wo wr ∧ Hid (RInv t l2 E N k)) (fun _ _ i _ => l2.length - (intOf i).toNat)
                case atStart => exact ⟨0, 0, t.length, by omega, rfl, rfl, rfl, Below.refl _ _, RInv.start t l2⟩
                case round =>
                  obtain ⟨k, E, N, hk, rfl, rfl, rfl, hbr, hI⟩ := hrel
                  have hwr := hbr.size
                  by_cases hlt : k < l2.length
                  · by_cases hE : E = 0
                    · subst hE
                      have hN := hI.out.good.2
                      have hal := adds_le l2 k
                      obtain ⟨b3, o3, e3, hb3, c0, c1, c2, c3, c4, c5', c6, c7⟩ := (HR8.out.below hbr).at_ hlt
                      have HR8' := HR8
                      subst e3
                      have i0 : (0 : Int) ≤ (k : Int) := by omega
                      have i1 : (k : Int) < (l2.length : Int) := by omega
                      cases ha : l2[k].add with
                      | false =>
                        have HX := Lib.hid (hI.out.no hlt ha)
                        rw [ha] at c1
                        clear hI ha
                        go_wp2_with fail
                        go_roundw
                        case rel => exact ⟨k + 1, 0, N, by omega, rfl, rfl, by go_num, hbr, HX.out⟩
                        case measure => simp [intOf]; omega
                      | true =>
                        have HX := Lib.hid (hI.out.yes hlt ha)
                        rw [ha] at c1
                        clear hI ha
                        go_wp2_with fail
                        clear c0 c1 c2 c3 c4 c5' c6 c7
                        go_loopw [11, 30] (fun f i wq => ∃ j : Nat, j ≤ t.length ∧ f = .int .i64 (keyE t l2[k].r j) ∧ i = .int .i64 j ∧ Below wo.heap.size wo wq) (fun _ i _ => t.length - (intOf i).toNat)
                        case atStart => exact ⟨0, by omega, rfl, rfl, hbr⟩
                        case round =>
                          obtain ⟨j, hj, rfl, rfl, hbq⟩ := hrel
                          rename_i wq
                          have hwq := hbq.size
                          by_cases hjl : j < t.length
                          · obtain ⟨b4, o4, e4, hb4, d0, d1, d2, d3, d4, d5⟩ := (H.out.below (hBwo.trans (hbq.mono hBwo.size))).at_ hjl
                            obtain ⟨b3', o3', e3, hb3', c0, c1, c2, c3, c4, c5', c6, c7⟩ := (HR8'.out.below hbq).at_ hlt
                            cases e3
                            subst e4
                            have j0 : (0 : Int) ≤ (j : Int) := by omega
                            have j1 : (j : Int) < (t.length : Int) := by omega
                            have hrun := run_eql_cube2 t[j].m t[j].b l2[k].r.m l2[k].r.b
                            have HK := Lib.hid (keyE_succ (r := l2[k].r) hjl)
                            have HKK := Lib.hid (show t[j].key l2[k].r = decide (t[j].p = l2[k].r.p ∧ t[j].m = l2[k].r.m ∧ t[j].b = l2[k].r.b) from rfl)
                            by_cases hp : t[j].p = l2[k].r.p
                            · have hp' : (t[j].p == l2[k].r.p) = true := by simpa using hp
                              by_cases hm : t[j].m = l2[k].r.m ∧ t[j].b = l2[k].r.b
                              · have HX2 := Lib.hid (HK.out.trans (if_pos (by rw [HKK.out]; exact decide_eq_true ⟨hp, hm⟩)))
                                rw [decide_eq_true hm] at hrun
                                clear hp hm
                                go_wp2_with fail
                                refine wp_region_below (by kernel_rfl) (by kernel_rfl) ?_
                                repeat (go_big_quiet_step (fail))
                                refine wpQuiet_nil ?_
                                intro w3 hb3
                                go_wp2_with fail
                                go_roundw
                                case rel => exact ⟨j + 1, by omega, by rw [HX2.out], by go_num, hbq.trans (hb3.mono hwq)⟩
                                case measure => simp [intOf]; omega
                              · have HX2 := Lib.hid (HK.out.trans (if_neg (by rw [HKK.out, decide_eq_false (fun z => hm z.2)]; exact Bool.false_ne_true)))
                                rw [decide_eq_false hm] at hrun
                                clear hp hm
                                go_wp2_with fail
                                refine wp_region_below (by kernel_rfl) (by kernel_rfl) ?_
                                repeat (go_big_quiet_step (fail))
                                refine wpQuiet_nil ?_
                                intro w3 hb3
                                go_wp2_with fail
                                go_roundw
                                case rel => exact ⟨j + 1, by omega, by rw [HX2.out], by go_num, hbq.trans (hb3.mono hwq)⟩
                                case measure => simp [intOf]; omega
                            · have hp' : (t[j].p == l2[k].r.p) = false := by simpa using hp
                              have HX2 := Lib.hid (HK.out.trans (if_neg (by rw [HKK.out, decide_eq_false (fun z => hp z.1)]; exact Bool.false_ne_true)))
                              clear hp
                              go_wp2_with fail
                              refine wp_region_below (by kernel_rfl) (by kernel_rfl) ?_
                              repeat (go_big_quiet_step (fail))
                              refine wpQuiet_nil ?_
                              intro w3 hb3
                              go_wp2_with fail
                              go_roundw
                              case rel => exact ⟨j + 1, by omega, by rw [HX2.out], by go_num, hbq.trans (hb3.mono hwq)⟩
                              case measure => simp [intOf]; omega
                          · obtain rfl : j = t.length := by omega
                            go_wp2_with fail
                            go_roundw
                            case rel => exact ⟨k + 1, _, N + 1, by omega, rfl, by go_num, by go_num, hbq, HX.out⟩
                            case measure => simp [intOf]; omega
                    · have HX := Lib.hid (HRO.out _ _ _ hI.out (.inr hE))
                      have hq : (E == 0) = false := by simpa using hE
                      clear hE hI
                      go_wp2_with fail
                      go_meet
                      exact ⟨⟨N, by rw [HX.out.1], rfl, fun h => HX.out.2 (HX.out.1.trans h)⟩, hbr⟩
                  · obtain rfl : k = l2.length := by omega
                    have HX := Lib.hid (HRO.out _ _ _ hI.out (.inl rfl))
                    clear hI
                    go_wp2_with fail
                    go_meet
                    exact ⟨⟨N, by rw [HX.out.1], rfl, fun h => HX.out.2 (HX.out.1.trans h)⟩, hbr⟩
              case rest => as_aux_lemma =>
                obtain ⟨⟨N, rfl, rfl, hNr⟩, hbt⟩ := hcut
                rename_i wt
                have hBwt := hBwo.trans (hbt.mono hBwo.size)
                have hcwt := fun b o (h : b < w.heap.size) => hBwt.cell (p := ⟨b, o, none⟩) h
                by_cases h0 : re = 0
                · have hN := hNr h0
                  subst hN
                  have hq : (re != 0) = false := by simpa using h0
                  clear h0 hNr
                  go_wp2_with fail
                  (go_at_call 57; refine (HRM.out _ _ _ _ _ (H.out.below hBwt) (H4.out.below hBwt)).mono ?_; rintro e wu ⟨rfl, hbwu⟩; have hBwu := hBwt.trans (hbwu.mono hBwt.size); have hcwu := fun b o (h : b < w.heap.size) => hBwu.cell (p := ⟨b, o, none⟩) h; try clear hcwt)
                  go_wp2_with fail
                  (go_at_call 12; refine (HE5.out _ (HD.out.below hBwu)).mono ?_; rintro e wv ⟨rfl, hbwv⟩; have hBwv := hBwu.trans (hbwv.mono hBwu.size); have hcwv := fun b o (h : b < w.heap.size) => hBwv.cell (p := ⟨b, o, none⟩) h; try clear hcwu)
                  go_wp2_with fail
                  go_ret
                  exact ⟨rfl, hb0.trans (hBwv.mono (Nat.le_of_lt hs0))⟩
                · have hN := HR0.out h0
                  subst hN
                  have hq : (re != 0) = true := by simpa using h0
                  clear h0 hNr
                  go_wp2_with fail
                  (go_at_call 57; refine (HRM.out _ _ _ _ _ (H.out.below hBwt) (H4.out.below hBwt)).mono ?_; rintro e wu ⟨rfl, hbwu⟩; have hBwu := hBwt.trans (hbwu.mono hBwt.size); have hcwu := fun b o (h : b < w.heap.size) => hBwu.cell (p := ⟨b, o, none⟩) h; try clear hcwt)
                  go_wp2_with fail
                  (go_at_call 12; refine (HE5.out _ (HD.out.below hBwu)).mono ?_; rintro e wv ⟨rfl, hbwv⟩; have hBwv := hBwu.trans (hbwv.mono hBwu.size); have hcwv := fun b o (h : b < w.heap.size) => hBwv.cell (p := ⟨b, o, none⟩) h; try clear hcwu)
                  go_wp2_with fail
                  go_ret
                  exact ⟨rfl, hb0.trans (hBwv.mono (Nat.le_of_lt hs0))⟩
            · subst hf
              have HDF := Lib.hid (fun A A2 cp cp2 w h h2 => tdiff_bad A A2 cp cp2 t o w h h2 hz)
              have HSM := Lib.hid (fun A A2 cp cp2 w h h2 => tsame_bad A A2 cp cp2 t o w h h2 hz)
              have e5 : roomE t o = t2chk t o := by unfold roomE; rw [if_pos hz]
              have e6 : roomN t o = 0 := by unfold roomN; rw [e5, if_neg hz]
              rw [e5, e6, errOf_ne hz] at HRM
              have HE3 := Lib.hid (fun w hd => err_same (t2chk t o) (.iface 119 (.int .i64 (t2chk t o))) (errOf_ne hz).symm w hd)
              have HSO := Lib.hid (fun A A2 cp cp2 w h h2 => ssame_ops A A2 cp cp2 [] [] w h h2 (by simp))
              simp only [decide_true] at HSO
              have hq : (t2chk t o == 0) = false := by simpa using hz
              clear hz e5 e6
              generalize t2chk t o = q at *
              generalize Value.iface 119 (.int .i64 q) = er3 at *
              go_wp2_with fail
              (go_at_call 54; refine (HDF.out _ _ _ _ _ (H.out.below hBwi) (H4.out.below hBwi)).mono ?_; rintro e wj ⟨v9, rfl, hO9, hbwj⟩; have hBwj := hBwi.trans (hbwj.mono hBwi.size); have hcwj := fun b o (h : b < w.heap.size) => hBwj.cell (p := ⟨b, o, none⟩) h; try clear hcwi)
              obtain ⟨A9, c9, rfl, hR9⟩ := hO9.ops
              have HR9 := Lib.hid hR9
              clear hR9 hO9 hbwj HDF
              go_wp2_with fail
              (go_at_call 12; refine (HE3.out _ (HD.out.below hBwj)).mono ?_; rintro e wk ⟨rfl, hbwk⟩; have hBwk := hBwj.trans (hbwk.mono hBwj.size); have hcwk := fun b o (h : b < w.heap.size) => hBwk.cell (p := ⟨b, o, none⟩) h; try clear hcwj)
              have HR9 := Lib.hid (HR9.out.below hbwk)
              clear hbwk
              go_wp2_with fail
              (go_at_call 55; refine (HSO.out _ _ _ _ _ HR9.out (RowC.none_ _ _)).mono ?_; rintro e wl ⟨rfl, hbwl⟩; have hBwl := hBwk.trans (hbwl.mono hBwk.size); have hcwl := fun b o (h : b < w.heap.size) => hBwl.cell (p := ⟨b, o, none⟩) h; try clear hcwk)
              clear hbwl HR9
              go_wp2_with fail
              (go_at_call 56; refine (HSM.out _ _ _ _ _ (H.out.below hBwl) (H4.out.below hBwl)).mono ?_; rintro e wm ⟨rfl, hbwm⟩; have hBwm := hBwl.trans (hbwm.mono hBwl.size); have hcwm := fun b o (h : b < w.heap.size) => hBwm.cell (p := ⟨b, o, none⟩) h; try clear hcwl)
              clear hbwm
              go_wp2_with fail
              (go_at_call 12; refine (HE3.out _ (HD.out.below hBwm)).mono ?_; rintro e wn ⟨rfl, hbwn⟩; have hBwn := hBwm.trans (hbwn.mono hBwm.size); have hcwn := fun b o (h : b < w.heap.size) => hBwn.cell (p := ⟨b, o, none⟩) h; try clear hcwm)
              clear hbwn
              go_wp2_with fail
              (go_at_call 57; refine (HRM.out _ _ _ _ _ (H.out.below hBwn) (H4.out.below hBwn)).mono ?_; rintro e wu ⟨rfl, hbwu⟩; have hBwu := hBwn.trans (hbwu.mono hBwn.size); have hcwu := fun b o (h : b < w.heap.size) => hBwu.cell (p := ⟨b, o, none⟩) h; try clear hcwn)
              go_wp2_with fail
              (go_at_call 12; refine (HE3.out _ (HD.out.below hBwu)).mono ?_; rintro e wv ⟨rfl, hbwv⟩; have hBwv := hBwu.trans (hbwv.mono hBwu.size); have hcwv := fun b o (h : b < w.heap.size) => hBwv.cell (p := ⟨b, o, none⟩) h; try clear hcwu)
              go_wp2_with fail
              go_ret
              exact ⟨rfl, hb0.trans (hBwv.mono (Nat.le_of_lt hs0))⟩

end Go.Proofs.YtpkcdfgjcodidaaDoor.lawTableTells
