/- The walk of CubeTells. -/
import Derived.Test.YtpkcdfgjcodidaaDoorTellsPlain
import Derived.Test.YtpkcdfgjcodidaaDoorRefCube5
import Derived.Test.YtpkcdfgjcodidaaDoorErr
import Derived.Test.YtpkcdfgjcodidaaDoorCubes2
import Derived.Test.YtpkcdfgjcodidaaDoorLoose
namespace Go.Proofs.YtpkcdfgjcodidaaDoor.lawCubeTells
open Go.RowKit
set_option linter.unusedSimpArgs false
set_option linter.unusedVariables false

theorem calls_named {P : Program} {f : FuncId} {args : Array Value} {W : World} {R : Ending → World → Prop} (h : ∀ u, u = W → Calls P f args u R) : Calls P f args W R := h W rfl
theorem print_bad (m b : Int) (w : World) (h : cchk m b ≠ 0) : Calls Tryd.prog 21 #[.agg #[.int .i64 m, .int .i64 b]] w fun e w' => e = .returned (.tuple #[.string ⟨#[]⟩, errOf (cchk m b)]) ∧ Below w.heap.size w w' := by
  have HC := Lib.hid (fun w => ccheck_bad m b w h)
  have HE := Lib.hid (errOf_ne h)
  clear h
  generalize cchk m b = q at *
  go_enter Tryd.func21, Tryd.ntmps21
  go_wp2_with (go_at_call 19; refine (HC.out _).mono ?_; rintro e w' ⟨rfl, hb⟩; obtain ⟨hc, hf⟩ := bcell hb; have hz := hb.size; (try simp at hz); (try have y1 := Nat.lt_of_succ_le hz); (try have y2 := Nat.lt_of_succ_lt y1); (try have y3 := Nat.lt_of_succ_lt y2); have hB := bstep (w := w) (by go_grown) hb; (try have z0 : w.heap.size < w'.heap.size := by omega); (try have z1 : w.heap.size + 1 < w'.heap.size := by omega); (try have z2 : w.heap.size + 1 + 1 < w'.heap.size := by omega); (try have z3 : w.heap.size + 1 + 1 + 1 < w'.heap.size := by omega))
  go_ret2
  exact ⟨by rw [HE.out]; rfl, by go_grown⟩
def gotS (m b : Int) : ByteArray := if cchk m b = 0 then cshow m b else ⟨#[]⟩
theorem print_any (m b : Int) (w : World) : Calls Tryd.prog 21 #[.agg #[.int .i64 m, .int .i64 b]] w fun e w' => e = .returned (.tuple #[.string (gotS m b), errOf (cchk m b)]) ∧ Below w.heap.size w w' := by
  unfold gotS
  by_cases h : cchk m b = 0
  · rw [if_pos h, h]; exact print_ok m b w h
  · rw [if_neg h]; exact print_bad m b w h
theorem err_same (x : Int) (er : Value) (he : er = errOf x) (w : World) (hd : Door w) : Calls Tryd.prog 12 #[er, .int .i64 x] w fun e w' => e = .returned (.bool true) ∧ Below w.heap.size w w' := by
  subst he
  have := error_any x x w hd
  rwa [decide_eq_true rfl] at this
theorem show_any (x : Cb) (h : cchk x.m x.b = 0) (w : World) : Calls Tryd.prog 20 #[.agg #[.int .i64 x.m, .int .i64 x.b]] w fun e w' => e = .returned (.string (cshow x.m x.b)) ∧ Below w.heap.size w w' := by
  obtain ⟨n, rfl, hn⟩ := cb_ok h
  exact rshow_any n.1 n.2 (okN_lt hn).1 (okN_lt hn).2 w
theorem perr_pok (s : ByteArray) : perr s = if pok s = true then 0 else 2 := by unfold perr pok; rfl

theorem run_eql_cube (x y : Int) (w : World) : (binOp .eql 23 (.agg #[.int .i64 x, .int .i64 y]) (.agg #[.int .i64 x, .int .i64 y])).run Tryd.prog w = .ok (.bool true) w := by
  rw [run_eql_struct]
  simp [go_sem]
theorem run_neq_cube (w : World) : (binOp .neq 23 (.agg #[.int .i64 0, .int .i64 0]) (.agg #[.int .i64 0, .int .i64 0])).run Tryd.prog w = .ok (.bool false) w := by
  rw [run_neq_struct]
  simp [go_sem]
theorem dec_bool (p : Int) : (p == 0) = decide (p = 0) := by rw [Bool.eq_iff_iff]; simp

set_option maxRecDepth 100000 in
set_option maxHeartbeats 64000000 in
theorem walk (a b : Cb) (h : Int) (s : ByteArray) (wa : World) (hd : Door wa) :
    Calls Tryd.prog 4 #[.agg #[.int .i64 a.m, .int .i64 a.b], .agg #[.int .i64 b.m, .int .i64 b.b], .int .i64 h, .string s] wa fun e w' => e = .returned (.bool true) ∧ Below wa.heap.size wa w' := by
  obtain ⟨w, hw⟩ : ∃ w : World, w = (wa.alloc (.cells #[.int .i64 a.m, .int .i64 a.b] 23)).alloc (.cells #[.int .i64 b.m, .int .i64 b.b] 23) := ⟨_, rfl⟩
  have hb0 : Below wa.heap.size wa w := by rw [hw]; go_grown
  have hs0 : wa.heap.size < w.heap.size := by rw [hw]; simp; omega
  have hs1 : wa.heap.size + 1 < w.heap.size := by rw [hw]; simp
  have a0 : w.cell? ⟨wa.heap.size, 0, none⟩ = some (.int .i64 a.m) := by rw [hw]; simp [go_sem]
  have a1 : w.cell? ⟨wa.heap.size, 1, none⟩ = some (.int .i64 a.b) := by rw [hw]; simp [go_sem]
  have b0 : w.cell? ⟨wa.heap.size + 1, 0, none⟩ = some (.int .i64 b.m) := by rw [hw]; simp [go_sem]
  have b1 : w.cell? ⟨wa.heap.size + 1, 1, none⟩ = some (.int .i64 b.b) := by rw [hw]; simp [go_sem]
  have HD := Lib.hid (hd.below hb0)
  have hBw : Below w.heap.size w w := Below.refl _ _
  have hcw : True := trivial
  have HCU := Lib.hid (fun w => rcube_any a.m a.b w)
  have HCK := Lib.hid (fun w => ccheck_any a.m a.b w)
  have HPR := Lib.hid (fun w => print_any a.m a.b w)
  have HRD := Lib.hid (fun w => rread_any s w)
  have HPA := Lib.hid (fun w => cparse_any s w)
  have HHA := Lib.hid (fun w => rhas_any a.m a.b h w)
  have HHD := Lib.hid (fun w => rheaders_any a.m a.b w)
  have HCB := Lib.hid (fun w => rcube_any b.m b.b w)
  have HE1 := Lib.hid (fun w hd => err_same (cchk a.m a.b) (errOf (cchk a.m a.b)) rfl w hd)
  have HE2 := Lib.hid (fun w hd => err_same (perr s) (errOf (perr s)) rfl w hd)
  have HPP := Lib.hid (perr_pok s)
  generalize errOf (cchk a.m a.b) = er at HCK HPR HE1
  generalize errOf (perr s) = er2 at HPA HE2
  clear hd
  go_enter Tryd.func4, Tryd.ntmps4
  go_wp2_with fail
  rw [← hw]
  clear hw
  (go_at_call 18; refine (HCU.out _).mono ?_; rintro e w2 ⟨rfl, hbw2⟩; have hBw2 := hBw.trans (hbw2.mono hBw.size); have hcw2 := fun b o (h : b < w.heap.size) => hBw2.cell (p := ⟨b, o, none⟩) h; clear hbw2; try clear hcw)
  go_wp2_with fail
  (go_at_call 19; refine (HCK.out _).mono ?_; rintro e w3 ⟨rfl, hbw3⟩; have hBw3 := hBw2.trans (hbw3.mono hBw2.size); have hcw3 := fun b o (h : b < w.heap.size) => hBw3.cell (p := ⟨b, o, none⟩) h; clear hbw3; try clear hcw2)
  go_wp2_with fail
  (go_at_call 12; refine (HE1.out _ (HD.out.below hBw3)).mono ?_; rintro e w4 ⟨rfl, hbw4⟩; have hBw4 := hBw3.trans (hbw4.mono hBw3.size); have hcw4 := fun b o (h : b < w.heap.size) => hBw4.cell (p := ⟨b, o, none⟩) h; clear hbw4; try clear hcw3)
  by_cases he : cchk a.m a.b = 0
  · as_aux_lemma =>
    have HSH := Lib.hid (fun w => show_any a he w)
    have HG := Lib.hid (show gotS a.m a.b = cshow a.m a.b by unfold gotS; rw [if_pos he])
    rw [HG.out] at HPR
    have he' : (cchk a.m a.b == 0) = true := by simpa using he
    clear he
    go_wp2_with fail
    (go_at_call 20; refine (HSH.out _).mono ?_; rintro e w5 ⟨rfl, hbw5⟩; have hBw5 := hBw4.trans (hbw5.mono hBw4.size); have hcw5 := fun b o (h : b < w.heap.size) => hBw5.cell (p := ⟨b, o, none⟩) h; clear hbw5; try clear hcw4)
    go_wp2_with fail
    (go_at_call 21; refine (HPR.out _).mono ?_; rintro e w6 ⟨rfl, hbw6⟩; have hBw6 := hBw5.trans (hbw6.mono hBw5.size); have hcw6 := fun b o (h : b < w.heap.size) => hBw6.cell (p := ⟨b, o, none⟩) h; clear hbw6; try clear hcw5)
    go_wp2_with fail
    (go_at_call 12; refine (HE1.out _ (HD.out.below hBw6)).mono ?_; rintro e w7 ⟨rfl, hbw7⟩; have hBw7 := hBw6.trans (hbw7.mono hBw6.size); have hcw7 := fun b o (h : b < w.heap.size) => hBw7.cell (p := ⟨b, o, none⟩) h; clear hbw7; try clear hcw6)
    go_wp2_with fail
    (go_at_call 22; refine (HRD.out _).mono ?_; rintro e w8 ⟨rfl, hbw8⟩; have hBw8 := hBw7.trans (hbw8.mono hBw7.size); have hcw8 := fun b o (h : b < w.heap.size) => hBw8.cell (p := ⟨b, o, none⟩) h; clear hbw8; try clear hcw7)
    cases hpk : pok s with
    | true => as_aux_lemma =>
      have HQ := Lib.hid (show perr s = 0 by rw [HPP.out, hpk]; rfl)
      skip
      rw [HQ.out] at HE2
      clear hpk
      go_wp2_with fail
      refine calls_named ?_
      intro u hu
      have hz8 := hBw8.size
      have hBu : Below w.heap.size w u := by rw [hu]; go_grown
      have hsu : w8.heap.size < u.heap.size := by rw [hu]; simp
      have u0 : u.cell? ⟨w8.heap.size, 0, none⟩ = some (.int .i64 (pm s)) := by rw [hu]; simp [go_sem]
      have u1 : u.cell? ⟨w8.heap.size, 1, none⟩ = some (.int .i64 (pb s)) := by rw [hu]; simp [go_sem]
      have a0' := (hBu.cell (p := ⟨wa.heap.size, 0, none⟩) hs0).trans a0
      have a1' := (hBu.cell (p := ⟨wa.heap.size, 1, none⟩) hs0).trans a1
      have b0' := (hBu.cell (p := ⟨wa.heap.size + 1, 0, none⟩) hs1).trans b0
      have b1' := (hBu.cell (p := ⟨wa.heap.size + 1, 1, none⟩) hs1).trans b1
      have su0 : wa.heap.size < u.heap.size := by omega
      have su1 : wa.heap.size + 1 < u.heap.size := by omega
      have HDu := Lib.hid (HD.out.below hBu)
      have HB0 := Lib.hid (hb0.trans (hBu.mono (Nat.le_of_lt hs0)))
      clear hu a0 a1 b0 b1 hcw8
      have hBuu : Below u.heap.size u u := Below.refl _ _
      generalize w8.heap.size = g1 at *
      clear hz8 hBw8 HD hb0 hs0 hs1 hBu
      go_at_call 23
      refine (HPA.out _).mono ?_
      rintro e u2 ⟨rfl, hb2⟩
      have hz2 := hb2.size
      go_wp2_with fail
      refine calls_named ?_
      intro x hx
      have hBx : Below u.heap.size u x := by rw [hx]; go_grown
      have hsx : u2.heap.size < x.heap.size := by rw [hx]; simp
      have x0 : x.cell? ⟨u2.heap.size, 0, none⟩ = some (.int .i64 (pm s)) := by rw [hx]; simp [go_sem]
      have x1 : x.cell? ⟨u2.heap.size, 1, none⟩ = some (.int .i64 (pb s)) := by rw [hx]; simp [go_sem]
      have a0 := (hBx.cell (p := ⟨wa.heap.size, 0, none⟩) su0).trans a0'
      have a1 := (hBx.cell (p := ⟨wa.heap.size, 1, none⟩) su0).trans a1'
      have b0 := (hBx.cell (p := ⟨wa.heap.size + 1, 0, none⟩) su1).trans b0'
      have b1 := (hBx.cell (p := ⟨wa.heap.size + 1, 1, none⟩) su1).trans b1'
      have c0 := (hBx.cell (p := ⟨g1, 0, none⟩) hsu).trans u0
      have c1 := (hBx.cell (p := ⟨g1, 1, none⟩) hsu).trans u1
      have sx0 : wa.heap.size < x.heap.size := by omega
      have sx1 : wa.heap.size + 1 < x.heap.size := by omega
      have sx2 : g1 < x.heap.size := by omega
      have HDx := Lib.hid (HDu.out.below hBx)
      have HB1 := Lib.hid (HB0.out.trans (hBx.mono (Nat.le_of_lt su0)))
      clear hx a0' a1' b0' b1' u0 u1 su0 su1 hb2 hsu HDu HB0
      generalize u2.heap.size = g2 at *
      clear hz2 hBx hBuu
      have hBxx : Below x.heap.size x x := Below.refl _ _
      go_at_call 12
      refine (HE2.out _ HDx.out).mono ?_
      rintro e y1 ⟨rfl, hBy1⟩
      have hcy1 := fun b o (h : b < x.heap.size) => hBy1.cell (p := ⟨b, o, none⟩) h
      go_wp2_with fail
      (go_at_call 24; refine (HHA.out _).mono ?_; rintro e y2 ⟨rfl, hby2⟩; have hBy2 := hBy1.trans (hby2.mono hBy1.size); have hcy2 := fun b o (h : b < x.heap.size) => hBy2.cell (p := ⟨b, o, none⟩) h; clear hby2; try clear hcy1)
      go_wp2_with fail
      (go_at_call 25; refine (HHD.out _).mono ?_; rintro e y3 ⟨vq, rfl, hOq, hby3⟩; have hBy3 := hBy2.trans (hby3.mono hBy2.size); have hcy3 := fun b o (h : b < x.heap.size) => hBy3.cell (p := ⟨b, o, none⟩) h; try clear hcy2)
      obtain ⟨Aq, cq, rfl, hRq⟩ := hOq.ints
      clear hOq

      cases hl : rhdrsTo a.m a.b 16 with
      | nil => as_aux_lemma =>
        have HI := Lib.hid (tells_in a b)
        have HF := Lib.hid (show cfirst a.m a.b = 0 by rw [tells_first, hl]; rfl)
        rw [hl] at HI hRq
        have HL := Lib.hid (show ccount a.m a.b = 0 by rw [tells_count, hl]; rfl)
        simp only [List.length_nil, Nat.lt_irrefl, decide_false, Bool.false_and] at HI
        simp only [hl, List.length_nil]
        clear hl
        go_wp2_with fail
        have hBy4 := hBy3
        have hcy4 := hcy3
        have HST0 : Hid (false = mins false a b 0) := by show false = _; simp [mins, dec_bool]
        go_loopw [22, 23, 24] (fun mv tv i wr => ∃ (k : Nat) (t : Bool), k ≤ 16 ∧ i = .int .i64 k ∧ mv = .int .i64 (mcount a b k : Nat) ∧ tv = .bool t ∧ Hid (t = mins false a b k) ∧ Below x.heap.size x wr) (fun _ _ i _ => 16 - (intOf i).toNat)
        case atStart => exact ⟨0, _, by omega, rfl, rfl, rfl, HST0.out, hBy4⟩
        case round =>
          obtain ⟨k, t, hk, rfl, rfl, rfl, ht, hBwr⟩ := hrel
          have hcwr := fun b o (h : b < x.heap.size) => hBwr.cell (p := ⟨b, o, none⟩) h
          clear hcy4 hcy3
          by_cases hlt : k < 16
          · have H1 := Lib.hid (fun w => rhas_any a.m a.b (k : Nat) w)
            have H2 := Lib.hid (fun w => rhas_any b.m b.b (k : Nat) w)
            have HM := Lib.hid (mcount_succ a b k)
            have HN := Lib.hid (mins_succ false a b k)
            have hmk := mcount_le a b k
            rw [← ht.out] at HN
            generalize chas a.m a.b (k : Nat) = p at H1 HM HN
            generalize chas b.m b.b (k : Nat) = q at H2 HM HN
            generalize mcount a b k = mk at *
            have ht0 : t = false := by rw [ht.out]; simp [mins]
            subst ht0
            cases p <;> cases q
            all_goals
              go_wp2_with fail
              (go_at_call 24; refine (H1.out _).mono ?_; rintro e z1 ⟨rfl, hbz1⟩; have hBz1 := hBwr.trans (hbz1.mono hBwr.size); have hcz1 := fun b o (h : b < x.heap.size) => hBz1.cell (p := ⟨b, o, none⟩) h; clear hbz1; try clear hcwr)
              go_wp2_with fail
              (go_at_call 24; refine (H2.out _).mono ?_; rintro e z2 ⟨rfl, hbz2⟩; have hBz2 := hBz1.trans (hbz2.mono hBz1.size); have hcz2 := fun b o (h : b < x.heap.size) => hBz2.cell (p := ⟨b, o, none⟩) h; clear hbz2; try clear hcz1)
              go_wp2_with fail
              go_roundw
              case rel => exact ⟨k + 1, _, by omega, by go_num, by first | (rw [HM.out]; done) | (rw [HM.out]; simp; done) | (rw [HM.out]; rfl), rfl, by first | (rw [HN.out]; done) | (rw [HN.out]; rfl), hBz2⟩
              case measure => first | (simp [intOf]; done) | (simp [intOf]; omega)
          · obtain rfl : k = 16 := by omega
            have HT := Lib.hid (tells_met a b)
            have hmk := mcount_le a b 16
            have hti : t = cinside a.m a.b b.m b.b := ht.out.trans HI.out
            subst hti
            clear ht
            have HH := Lib.hid (fun w => chas_any a.m a.b h w)
            have HC := Lib.hid (fun w => ccount_any a.m a.b w)
            have HFI := Lib.hid (fun w => cfirst_any a.m a.b w)
            have HIN := Lib.hid (fun w => cinside_any a.m a.b b.m b.b w)
            rw [HL.out] at HC
            rw [HF.out] at HFI
            have hrc := run_eql_cube (pm s) (pb s)
            have hrn := run_neq_cube
            generalize cinside a.m a.b b.m b.b = ci at *
            cases hmet : cmet a.m a.b b.m b.b with
            | true => as_aux_lemma =>
              have hgt : 0 < mcount a b 16 := by have := HT.out; rw [hmet] at this; simpa using this
              have HME := Lib.hid (fun w => cmeet_yes a.m a.b b.m b.b w hmet)
              have HBO := Lib.hid (fun j hj => tells_both hmet j hj)
              clear hmet HT
              generalize mcount a b 16 = mk at *
              have hgt' : (0 : Int) < (mk : Int) := by omega
              go_wp2_with fail
              (go_at_call 26; refine (HME.out _).mono ?_; rintro e z3 ⟨rfl, hbz3⟩; have hBz3 := hBwr.trans (hbz3.mono hBwr.size); have hcz3 := fun b o (h : b < x.heap.size) => hBz3.cell (p := ⟨b, o, none⟩) h; clear hbz3; try clear hcwr)
              generalize hm1 : bits .or .i64 a.m b.m = mm at *
              generalize hm2 : bits .or .i64 a.b b.b = mb at *
              clear hm1 hm2
              have HBK := Lib.hid (BlockAt.new z3 [.int .i64 mm, .int .i64 mb] 23)
              have HBZ := Lib.hid (show Below x.heap.size x (z3.alloc (.cells [.int .i64 mm, .int .i64 mb].toArray 23)) from hBz3.trans (((Below.refl _ _).alloc (Nat.le_refl _) _).mono hBz3.size))
              go_wp2_with fail
              have hz3 : x.heap.size ≤ z3.heap.size := hBz3.size
              generalize z3.heap.size = g3 at *
              go_loopw [29] (fun i wr => ∃ k : Nat, k ≤ 16 ∧ i = .int .i64 k ∧ BlockAt wr g3 [.int .i64 mm, .int .i64 mb] ∧ Below x.heap.size x wr) (fun i _ => 16 - (intOf i).toNat)
              case atStart => exact ⟨0, by omega, rfl, HBK.out, HBZ.out⟩
              case round =>
                clear hcz3
                obtain ⟨k, hk, rfl, hbk, hBv⟩ := hrel
                rename_i v
                have hcv := fun b o (h : b < x.heap.size) => hBv.cell (p := ⟨b, o, none⟩) h
                have hbl := hbk.1
                have m0 := hbk.2 0 _ rfl
                have m1 := hbk.2 1 _ rfl
                by_cases hlt : k < 16
                · have H1 := Lib.hid (fun w => rhas_any a.m a.b (k : Nat) w)
                  have H2 := Lib.hid (fun w => rhas_any b.m b.b (k : Nat) w)
                  have H3 := Lib.hid (fun w => rhas_any mm mb (k : Nat) w)
                  have hb3 := HBO.out k hlt
                  rw [hb3] at H3
                  clear hb3
                  generalize chas a.m a.b (k : Nat) = p at H1 H3
                  generalize chas b.m b.b (k : Nat) = q at H2 H3
                  have HBV := Lib.hid hbk
                  clear hbk
                  cases p <;> cases q
                  all_goals
                    go_wp2_with fail
                    go_at_call 24
                    refine (H1.out _).mono ?_
                    rintro e v1 ⟨rfl, hv1⟩
                    have hBv1 := hBv.trans (hv1.mono hBv.size)
                    have hcv1 := fun b o (h : b < x.heap.size) => hBv1.cell (p := ⟨b, o, none⟩) h
                    go_wp2_with fail
                    go_at_call 24
                    refine (H2.out _).mono ?_
                    rintro e v2 ⟨rfl, hv2⟩
                    have hBv2 := hBv1.trans (hv2.mono hBv1.size)
                    have HBV2 := Lib.hid ((HBV.out.below hv1).below hv2)
                    have n0 := HBV2.out.2 0 _ rfl
                    have n1 := HBV2.out.2 1 _ rfl
                    clear hcv hcv1 m0 m1
                    go_wp2_with fail
                    go_at_call 24
                    refine (H3.out _).mono ?_
                    rintro e v3 ⟨rfl, hv3⟩
                    have hBv3 := hBv2.trans (hv3.mono hBv2.size)
                    go_wp2_with fail
                    go_roundw
                    case rel => exact ⟨k + 1, by omega, by go_num, HBV2.out.below hv3, hBv3⟩
                    case measure => simp [intOf]; omega
                · obtain rfl : k = 16 := by omega
                  clear hbk hbl m0 m1
                  have hcwr := hcv
                  have hBwr := hBv
                  clear hcv hBv
                  go_wp2_with fail
                  go_at_call 27
                  refine (HH.out _).mono ?_
                  rintro e q1 ⟨rfl, hq1⟩
                  have hBq1 := hBwr.trans (hq1.mono hBwr.size)
                  have hcq1 := fun b o (h : b < x.heap.size) => hBq1.cell (p := ⟨b, o, none⟩) h
                  clear hcwr
                  go_wp2_with fail
                  (go_at_call 28; refine (HC.out _).mono ?_; rintro e q2 ⟨rfl, hbq2⟩; have hBq2 := hBq1.trans (hbq2.mono hBq1.size); have hcq2 := fun b o (h : b < x.heap.size) => hBq2.cell (p := ⟨b, o, none⟩) h; clear hbq2; try clear hcq1)
                  go_wp2_with fail
                  (go_at_call 29; refine (HFI.out _).mono ?_; rintro e q3 ⟨rfl, hbq3⟩; have hBq3 := hBq2.trans (hbq3.mono hBq2.size); have hcq3 := fun b o (h : b < x.heap.size) => hBq3.cell (p := ⟨b, o, none⟩) h; clear hbq3; try clear hcq2)
                  go_wp2_with fail
                  (go_at_call 30; refine (HIN.out _).mono ?_; rintro e q4 ⟨rfl, hbq4⟩; have hBq4 := hBq3.trans (hbq4.mono hBq3.size); have hcq4 := fun b o (h : b < x.heap.size) => hBq4.cell (p := ⟨b, o, none⟩) h; clear hbq4; try clear hcq3)
                  go_wp2_with fail
                  go_ret
                  exact ⟨rfl, HB1.out.trans (hBq4.mono (Nat.le_of_lt sx0))⟩
            | false => as_aux_lemma =>
              have hgt : mcount a b 16 = 0 := by have := HT.out; rw [hmet] at this; simpa using this
              have HME := Lib.hid (fun w => cmeet_no a.m a.b b.m b.b w hmet)
              clear hmet HT
              rw [hgt]
              go_wp2_with fail
              (go_at_call 26; refine (HME.out _).mono ?_; rintro e z3 ⟨rfl, hbz3⟩; have hBz3 := hBwr.trans (hbz3.mono hBwr.size); have hcz3 := fun b o (h : b < x.heap.size) => hBz3.cell (p := ⟨b, o, none⟩) h; clear hbz3; try clear hcwr)
              have HBZ := Lib.hid (show Below x.heap.size x (z3.alloc (.cells #[.int .i64 0, .int .i64 0] 23)) from hBz3.trans (((Below.refl _ _).alloc (Nat.le_refl _) _).mono hBz3.size))
              have hz3 : x.heap.size ≤ z3.heap.size := hBz3.size
              go_wp2_with fail
              go_loopw [29] (fun i wr => i = .int .i64 0 ∧ Below x.heap.size x wr) (fun i _ => 16 - (intOf i).toNat)
              case atStart => exact ⟨rfl, HBZ.out⟩
              case round =>
                clear hcz3
                obtain ⟨rfl, hBv⟩ := hrel
                rename_i v
                have hcwr := fun b o (h : b < x.heap.size) => hBv.cell (p := ⟨b, o, none⟩) h
                have hBwr := hBv
                clear hBv
                go_wp2_with fail
                go_at_call 27
                refine (HH.out _).mono ?_
                rintro e q1 ⟨rfl, hq1⟩
                have hBq1 := hBwr.trans (hq1.mono hBwr.size)
                have hcq1 := fun b o (h : b < x.heap.size) => hBq1.cell (p := ⟨b, o, none⟩) h
                clear hcwr
                go_wp2_with fail
                (go_at_call 28; refine (HC.out _).mono ?_; rintro e q2 ⟨rfl, hbq2⟩; have hBq2 := hBq1.trans (hbq2.mono hBq1.size); have hcq2 := fun b o (h : b < x.heap.size) => hBq2.cell (p := ⟨b, o, none⟩) h; clear hbq2; try clear hcq1)
                go_wp2_with fail
                (go_at_call 29; refine (HFI.out _).mono ?_; rintro e q3 ⟨rfl, hbq3⟩; have hBq3 := hBq2.trans (hbq3.mono hBq2.size); have hcq3 := fun b o (h : b < x.heap.size) => hBq3.cell (p := ⟨b, o, none⟩) h; clear hbq3; try clear hcq2)
                go_wp2_with fail
                (go_at_call 30; refine (HIN.out _).mono ?_; rintro e q4 ⟨rfl, hbq4⟩; have hBq4 := hBq3.trans (hbq4.mono hBq3.size); have hcq4 := fun b o (h : b < x.heap.size) => hBq4.cell (p := ⟨b, o, none⟩) h; clear hbq4; try clear hcq3)
                go_wp2_with fail
                go_ret
                exact ⟨rfl, HB1.out.trans (hBq4.mono (Nat.le_of_lt sx0))⟩
      | cons f0 fr => as_aux_lemma =>
        have HI := Lib.hid (tells_in a b)
        have HF := Lib.hid (show cfirst a.m a.b = f0 by rw [tells_first, hl]; rfl)
        rw [hl] at HI hRq
        have HL := Lib.hid (show ccount a.m a.b = ((f0 :: fr).length : Int) by rw [tells_count, hl])
        obtain ⟨bq, oq, e1, hbq, q0⟩ := hRq.at_ (i := 0) (by simp)
        subst e1
        simp only [List.getElem_cons_zero, Nat.add_zero] at q0
        have hpos : 0 < (f0 :: fr).length := by simp
        have hpos' : (0 : Int) < ((f0 :: fr).length : Int) := by omega
        rw [decide_eq_true hpos, Bool.true_and] at HI
        simp only [hl]
        generalize f0 :: fr = lq at *
        clear hl hRq
        go_wp2_with fail
        (go_at_call 18; refine (HCB.out _).mono ?_; rintro e y4 ⟨rfl, hby4⟩; have hBy4 := hBy3.trans (hby4.mono hBy3.size); have hcy4 := fun b o (h : b < x.heap.size) => hBy4.cell (p := ⟨b, o, none⟩) h; clear hby4; try clear hcy3)
        go_wp2_with fail
        have HST0 : Hid ((cchk b.m b.b == 0) = mins (decide (cchk b.m b.b = 0)) a b 0) := by show (cchk b.m b.b == 0) = _; simp [mins, dec_bool]
        go_loopw [22, 23, 24] (fun mv tv i wr => ∃ (k : Nat) (t : Bool), k ≤ 16 ∧ i = .int .i64 k ∧ mv = .int .i64 (mcount a b k : Nat) ∧ tv = .bool t ∧ Hid (t = mins (decide (cchk b.m b.b = 0)) a b k) ∧ Below x.heap.size x wr) (fun _ _ i _ => 16 - (intOf i).toNat)
        case atStart => exact ⟨0, _, by omega, rfl, rfl, rfl, HST0.out, hBy4⟩
        case round =>
          obtain ⟨k, t, hk, rfl, rfl, rfl, ht, hBwr⟩ := hrel
          have hcwr := fun b o (h : b < x.heap.size) => hBwr.cell (p := ⟨b, o, none⟩) h
          clear hcy4
          by_cases hlt : k < 16
          · have H1 := Lib.hid (fun w => rhas_any a.m a.b (k : Nat) w)
            have H2 := Lib.hid (fun w => rhas_any b.m b.b (k : Nat) w)
            have HM := Lib.hid (mcount_succ a b k)
            have HN := Lib.hid (mins_succ (decide (cchk b.m b.b = 0)) a b k)
            have hmk := mcount_le a b k
            rw [← ht.out] at HN
            generalize chas a.m a.b (k : Nat) = p at H1 HM HN
            generalize chas b.m b.b (k : Nat) = q at H2 HM HN
            generalize mcount a b k = mk at *
            cases p <;> cases q <;> cases t
            all_goals
              go_wp2_with fail
              (go_at_call 24; refine (H1.out _).mono ?_; rintro e z1 ⟨rfl, hbz1⟩; have hBz1 := hBwr.trans (hbz1.mono hBwr.size); have hcz1 := fun b o (h : b < x.heap.size) => hBz1.cell (p := ⟨b, o, none⟩) h; clear hbz1; try clear hcwr)
              go_wp2_with fail
              (go_at_call 24; refine (H2.out _).mono ?_; rintro e z2 ⟨rfl, hbz2⟩; have hBz2 := hBz1.trans (hbz2.mono hBz1.size); have hcz2 := fun b o (h : b < x.heap.size) => hBz2.cell (p := ⟨b, o, none⟩) h; clear hbz2; try clear hcz1)
              go_wp2_with fail
              go_roundw
              case rel => exact ⟨k + 1, _, by omega, by go_num, by first | (rw [HM.out]; done) | (rw [HM.out]; simp; done) | (rw [HM.out]; rfl), rfl, by first | (rw [HN.out]; done) | (rw [HN.out]; rfl), hBz2⟩
              case measure => first | (simp [intOf]; done) | (simp [intOf]; omega)
          · obtain rfl : k = 16 := by omega
            have HT := Lib.hid (tells_met a b)
            have hmk := mcount_le a b 16
            have hti : t = cinside a.m a.b b.m b.b := ht.out.trans HI.out
            subst hti
            clear ht
            have HH := Lib.hid (fun w => chas_any a.m a.b h w)
            have HC := Lib.hid (fun w => ccount_any a.m a.b w)
            have HFI := Lib.hid (fun w => cfirst_any a.m a.b w)
            have HIN := Lib.hid (fun w => cinside_any a.m a.b b.m b.b w)
            rw [HL.out] at HC
            rw [HF.out] at HFI
            have hrc := run_eql_cube (pm s) (pb s)
            have hrn := run_neq_cube
            generalize cinside a.m a.b b.m b.b = ci at *
            cases hmet : cmet a.m a.b b.m b.b with
            | true => as_aux_lemma =>
              have hgt : 0 < mcount a b 16 := by have := HT.out; rw [hmet] at this; simpa using this
              have HME := Lib.hid (fun w => cmeet_yes a.m a.b b.m b.b w hmet)
              have HBO := Lib.hid (fun j hj => tells_both hmet j hj)
              clear hmet HT
              generalize mcount a b 16 = mk at *
              have hgt' : (0 : Int) < (mk : Int) := by omega
              go_wp2_with fail
              (go_at_call 26; refine (HME.out _).mono ?_; rintro e z3 ⟨rfl, hbz3⟩; have hBz3 := hBwr.trans (hbz3.mono hBwr.size); have hcz3 := fun b o (h : b < x.heap.size) => hBz3.cell (p := ⟨b, o, none⟩) h; clear hbz3; try clear hcwr)
              generalize hm1 : bits .or .i64 a.m b.m = mm at *
              generalize hm2 : bits .or .i64 a.b b.b = mb at *
              clear hm1 hm2
              have HBK := Lib.hid (BlockAt.new z3 [.int .i64 mm, .int .i64 mb] 23)
              have HBZ := Lib.hid (show Below x.heap.size x (z3.alloc (.cells [.int .i64 mm, .int .i64 mb].toArray 23)) from hBz3.trans (((Below.refl _ _).alloc (Nat.le_refl _) _).mono hBz3.size))
              go_wp2_with fail
              have hz3 : x.heap.size ≤ z3.heap.size := hBz3.size
              generalize z3.heap.size = g3 at *
              go_loopw [29] (fun i wr => ∃ k : Nat, k ≤ 16 ∧ i = .int .i64 k ∧ BlockAt wr g3 [.int .i64 mm, .int .i64 mb] ∧ Below x.heap.size x wr) (fun i _ => 16 - (intOf i).toNat)
              case atStart => exact ⟨0, by omega, rfl, HBK.out, HBZ.out⟩
              case round =>
                clear hcz3
                obtain ⟨k, hk, rfl, hbk, hBv⟩ := hrel
                rename_i v
                have hcv := fun b o (h : b < x.heap.size) => hBv.cell (p := ⟨b, o, none⟩) h
                have hbl := hbk.1
                have m0 := hbk.2 0 _ rfl
                have m1 := hbk.2 1 _ rfl
                by_cases hlt : k < 16
                · have H1 := Lib.hid (fun w => rhas_any a.m a.b (k : Nat) w)
                  have H2 := Lib.hid (fun w => rhas_any b.m b.b (k : Nat) w)
                  have H3 := Lib.hid (fun w => rhas_any mm mb (k : Nat) w)
                  have hb3 := HBO.out k hlt
                  rw [hb3] at H3
                  clear hb3
                  generalize chas a.m a.b (k : Nat) = p at H1 H3
                  generalize chas b.m b.b (k : Nat) = q at H2 H3
                  have HBV := Lib.hid hbk
                  clear hbk
                  cases p <;> cases q
                  all_goals
                    go_wp2_with fail
                    go_at_call 24
                    refine (H1.out _).mono ?_
                    rintro e v1 ⟨rfl, hv1⟩
                    have hBv1 := hBv.trans (hv1.mono hBv.size)
                    have hcv1 := fun b o (h : b < x.heap.size) => hBv1.cell (p := ⟨b, o, none⟩) h
                    go_wp2_with fail
                    go_at_call 24
                    refine (H2.out _).mono ?_
                    rintro e v2 ⟨rfl, hv2⟩
                    have hBv2 := hBv1.trans (hv2.mono hBv1.size)
                    have HBV2 := Lib.hid ((HBV.out.below hv1).below hv2)
                    have n0 := HBV2.out.2 0 _ rfl
                    have n1 := HBV2.out.2 1 _ rfl
                    clear hcv hcv1 m0 m1
                    go_wp2_with fail
                    go_at_call 24
                    refine (H3.out _).mono ?_
                    rintro e v3 ⟨rfl, hv3⟩
                    have hBv3 := hBv2.trans (hv3.mono hBv2.size)
                    go_wp2_with fail
                    go_roundw
                    case rel => exact ⟨k + 1, by omega, by go_num, HBV2.out.below hv3, hBv3⟩
                    case measure => simp [intOf]; omega
                · obtain rfl : k = 16 := by omega
                  clear hbk hbl m0 m1
                  have hcwr := hcv
                  have hBwr := hBv
                  clear hcv hBv
                  go_wp2_with fail
                  go_at_call 27
                  refine (HH.out _).mono ?_
                  rintro e q1 ⟨rfl, hq1⟩
                  have hBq1 := hBwr.trans (hq1.mono hBwr.size)
                  have hcq1 := fun b o (h : b < x.heap.size) => hBq1.cell (p := ⟨b, o, none⟩) h
                  clear hcwr
                  go_wp2_with fail
                  (go_at_call 28; refine (HC.out _).mono ?_; rintro e q2 ⟨rfl, hbq2⟩; have hBq2 := hBq1.trans (hbq2.mono hBq1.size); have hcq2 := fun b o (h : b < x.heap.size) => hBq2.cell (p := ⟨b, o, none⟩) h; clear hbq2; try clear hcq1)
                  go_wp2_with fail
                  (go_at_call 29; refine (HFI.out _).mono ?_; rintro e q3 ⟨rfl, hbq3⟩; have hBq3 := hBq2.trans (hbq3.mono hBq2.size); have hcq3 := fun b o (h : b < x.heap.size) => hBq3.cell (p := ⟨b, o, none⟩) h; clear hbq3; try clear hcq2)
                  go_wp2_with fail
                  (go_at_call 30; refine (HIN.out _).mono ?_; rintro e q4 ⟨rfl, hbq4⟩; have hBq4 := hBq3.trans (hbq4.mono hBq3.size); have hcq4 := fun b o (h : b < x.heap.size) => hBq4.cell (p := ⟨b, o, none⟩) h; clear hbq4; try clear hcq3)
                  go_wp2_with fail
                  go_ret
                  exact ⟨rfl, HB1.out.trans (hBq4.mono (Nat.le_of_lt sx0))⟩
            | false => as_aux_lemma =>
              have hgt : mcount a b 16 = 0 := by have := HT.out; rw [hmet] at this; simpa using this
              have HME := Lib.hid (fun w => cmeet_no a.m a.b b.m b.b w hmet)
              clear hmet HT
              rw [hgt]
              go_wp2_with fail
              (go_at_call 26; refine (HME.out _).mono ?_; rintro e z3 ⟨rfl, hbz3⟩; have hBz3 := hBwr.trans (hbz3.mono hBwr.size); have hcz3 := fun b o (h : b < x.heap.size) => hBz3.cell (p := ⟨b, o, none⟩) h; clear hbz3; try clear hcwr)
              have HBZ := Lib.hid (show Below x.heap.size x (z3.alloc (.cells #[.int .i64 0, .int .i64 0] 23)) from hBz3.trans (((Below.refl _ _).alloc (Nat.le_refl _) _).mono hBz3.size))
              have hz3 : x.heap.size ≤ z3.heap.size := hBz3.size
              go_wp2_with fail
              go_loopw [29] (fun i wr => i = .int .i64 0 ∧ Below x.heap.size x wr) (fun i _ => 16 - (intOf i).toNat)
              case atStart => exact ⟨rfl, HBZ.out⟩
              case round =>
                clear hcz3
                obtain ⟨rfl, hBv⟩ := hrel
                rename_i v
                have hcwr := fun b o (h : b < x.heap.size) => hBv.cell (p := ⟨b, o, none⟩) h
                have hBwr := hBv
                clear hBv
                go_wp2_with fail
                go_at_call 27
                refine (HH.out _).mono ?_
                rintro e q1 ⟨rfl, hq1⟩
                have hBq1 := hBwr.trans (hq1.mono hBwr.size)
                have hcq1 := fun b o (h : b < x.heap.size) => hBq1.cell (p := ⟨b, o, none⟩) h
                clear hcwr
                go_wp2_with fail
                (go_at_call 28; refine (HC.out _).mono ?_; rintro e q2 ⟨rfl, hbq2⟩; have hBq2 := hBq1.trans (hbq2.mono hBq1.size); have hcq2 := fun b o (h : b < x.heap.size) => hBq2.cell (p := ⟨b, o, none⟩) h; clear hbq2; try clear hcq1)
                go_wp2_with fail
                (go_at_call 29; refine (HFI.out _).mono ?_; rintro e q3 ⟨rfl, hbq3⟩; have hBq3 := hBq2.trans (hbq3.mono hBq2.size); have hcq3 := fun b o (h : b < x.heap.size) => hBq3.cell (p := ⟨b, o, none⟩) h; clear hbq3; try clear hcq2)
                go_wp2_with fail
                (go_at_call 30; refine (HIN.out _).mono ?_; rintro e q4 ⟨rfl, hbq4⟩; have hBq4 := hBq3.trans (hbq4.mono hBq3.size); have hcq4 := fun b o (h : b < x.heap.size) => hBq4.cell (p := ⟨b, o, none⟩) h; clear hbq4; try clear hcq3)
                go_wp2_with fail
                go_ret
                exact ⟨rfl, HB1.out.trans (hBq4.mono (Nat.le_of_lt sx0))⟩
    | false => as_aux_lemma =>
      have HQ := Lib.hid (show perr s = 2 by rw [HPP.out, hpk]; rfl)
      skip
      rw [HQ.out] at HE2
      clear hpk
      go_wp2_with fail
      refine calls_named ?_
      intro u hu
      have hz8 := hBw8.size
      have hBu : Below w.heap.size w u := by rw [hu]; go_grown
      have hsu : w8.heap.size < u.heap.size := by rw [hu]; simp
      have u0 : u.cell? ⟨w8.heap.size, 0, none⟩ = some (.int .i64 (pm s)) := by rw [hu]; simp [go_sem]
      have u1 : u.cell? ⟨w8.heap.size, 1, none⟩ = some (.int .i64 (pb s)) := by rw [hu]; simp [go_sem]
      have a0' := (hBu.cell (p := ⟨wa.heap.size, 0, none⟩) hs0).trans a0
      have a1' := (hBu.cell (p := ⟨wa.heap.size, 1, none⟩) hs0).trans a1
      have b0' := (hBu.cell (p := ⟨wa.heap.size + 1, 0, none⟩) hs1).trans b0
      have b1' := (hBu.cell (p := ⟨wa.heap.size + 1, 1, none⟩) hs1).trans b1
      have su0 : wa.heap.size < u.heap.size := by omega
      have su1 : wa.heap.size + 1 < u.heap.size := by omega
      have HDu := Lib.hid (HD.out.below hBu)
      have HB0 := Lib.hid (hb0.trans (hBu.mono (Nat.le_of_lt hs0)))
      clear hu a0 a1 b0 b1 hcw8
      have hBuu : Below u.heap.size u u := Below.refl _ _
      generalize w8.heap.size = g1 at *
      clear hz8 hBw8 HD hb0 hs0 hs1 hBu
      go_at_call 23
      refine (HPA.out _).mono ?_
      rintro e u2 ⟨rfl, hb2⟩
      have hz2 := hb2.size
      go_wp2_with fail
      refine calls_named ?_
      intro x hx
      have hBx : Below u.heap.size u x := by rw [hx]; go_grown
      have hsx : u2.heap.size < x.heap.size := by rw [hx]; simp
      have x0 : x.cell? ⟨u2.heap.size, 0, none⟩ = some (.int .i64 (pm s)) := by rw [hx]; simp [go_sem]
      have x1 : x.cell? ⟨u2.heap.size, 1, none⟩ = some (.int .i64 (pb s)) := by rw [hx]; simp [go_sem]
      have a0 := (hBx.cell (p := ⟨wa.heap.size, 0, none⟩) su0).trans a0'
      have a1 := (hBx.cell (p := ⟨wa.heap.size, 1, none⟩) su0).trans a1'
      have b0 := (hBx.cell (p := ⟨wa.heap.size + 1, 0, none⟩) su1).trans b0'
      have b1 := (hBx.cell (p := ⟨wa.heap.size + 1, 1, none⟩) su1).trans b1'
      have c0 := (hBx.cell (p := ⟨g1, 0, none⟩) hsu).trans u0
      have c1 := (hBx.cell (p := ⟨g1, 1, none⟩) hsu).trans u1
      have sx0 : wa.heap.size < x.heap.size := by omega
      have sx1 : wa.heap.size + 1 < x.heap.size := by omega
      have sx2 : g1 < x.heap.size := by omega
      have HDx := Lib.hid (HDu.out.below hBx)
      have HB1 := Lib.hid (HB0.out.trans (hBx.mono (Nat.le_of_lt su0)))
      clear hx a0' a1' b0' b1' u0 u1 su0 su1 hb2 hsu HDu HB0
      generalize u2.heap.size = g2 at *
      clear hz2 hBx hBuu
      have hBxx : Below x.heap.size x x := Below.refl _ _
      go_at_call 12
      refine (HE2.out _ HDx.out).mono ?_
      rintro e y1 ⟨rfl, hBy1⟩
      have hcy1 := fun b o (h : b < x.heap.size) => hBy1.cell (p := ⟨b, o, none⟩) h
      go_wp2_with fail
      (go_at_call 24; refine (HHA.out _).mono ?_; rintro e y2 ⟨rfl, hby2⟩; have hBy2 := hBy1.trans (hby2.mono hBy1.size); have hcy2 := fun b o (h : b < x.heap.size) => hBy2.cell (p := ⟨b, o, none⟩) h; clear hby2; try clear hcy1)
      go_wp2_with fail
      (go_at_call 25; refine (HHD.out _).mono ?_; rintro e y3 ⟨vq, rfl, hOq, hby3⟩; have hBy3 := hBy2.trans (hby3.mono hBy2.size); have hcy3 := fun b o (h : b < x.heap.size) => hBy3.cell (p := ⟨b, o, none⟩) h; try clear hcy2)
      obtain ⟨Aq, cq, rfl, hRq⟩ := hOq.ints
      clear hOq

      cases hl : rhdrsTo a.m a.b 16 with
      | nil => as_aux_lemma =>
        have HI := Lib.hid (tells_in a b)
        have HF := Lib.hid (show cfirst a.m a.b = 0 by rw [tells_first, hl]; rfl)
        rw [hl] at HI hRq
        have HL := Lib.hid (show ccount a.m a.b = 0 by rw [tells_count, hl]; rfl)
        simp only [List.length_nil, Nat.lt_irrefl, decide_false, Bool.false_and] at HI
        simp only [hl, List.length_nil]
        clear hl
        go_wp2_with fail
        have hBy4 := hBy3
        have hcy4 := hcy3
        have HST0 : Hid (false = mins false a b 0) := by show false = _; simp [mins, dec_bool]
        go_loopw [22, 23, 24] (fun mv tv i wr => ∃ (k : Nat) (t : Bool), k ≤ 16 ∧ i = .int .i64 k ∧ mv = .int .i64 (mcount a b k : Nat) ∧ tv = .bool t ∧ Hid (t = mins false a b k) ∧ Below x.heap.size x wr) (fun _ _ i _ => 16 - (intOf i).toNat)
        case atStart => exact ⟨0, _, by omega, rfl, rfl, rfl, HST0.out, hBy4⟩
        case round =>
          obtain ⟨k, t, hk, rfl, rfl, rfl, ht, hBwr⟩ := hrel
          have hcwr := fun b o (h : b < x.heap.size) => hBwr.cell (p := ⟨b, o, none⟩) h
          clear hcy4 hcy3
          by_cases hlt : k < 16
          · have H1 := Lib.hid (fun w => rhas_any a.m a.b (k : Nat) w)
            have H2 := Lib.hid (fun w => rhas_any b.m b.b (k : Nat) w)
            have HM := Lib.hid (mcount_succ a b k)
            have HN := Lib.hid (mins_succ false a b k)
            have hmk := mcount_le a b k
            rw [← ht.out] at HN
            generalize chas a.m a.b (k : Nat) = p at H1 HM HN
            generalize chas b.m b.b (k : Nat) = q at H2 HM HN
            generalize mcount a b k = mk at *
            have ht0 : t = false := by rw [ht.out]; simp [mins]
            subst ht0
            cases p <;> cases q
            all_goals
              go_wp2_with fail
              (go_at_call 24; refine (H1.out _).mono ?_; rintro e z1 ⟨rfl, hbz1⟩; have hBz1 := hBwr.trans (hbz1.mono hBwr.size); have hcz1 := fun b o (h : b < x.heap.size) => hBz1.cell (p := ⟨b, o, none⟩) h; clear hbz1; try clear hcwr)
              go_wp2_with fail
              (go_at_call 24; refine (H2.out _).mono ?_; rintro e z2 ⟨rfl, hbz2⟩; have hBz2 := hBz1.trans (hbz2.mono hBz1.size); have hcz2 := fun b o (h : b < x.heap.size) => hBz2.cell (p := ⟨b, o, none⟩) h; clear hbz2; try clear hcz1)
              go_wp2_with fail
              go_roundw
              case rel => exact ⟨k + 1, _, by omega, by go_num, by first | (rw [HM.out]; done) | (rw [HM.out]; simp; done) | (rw [HM.out]; rfl), rfl, by first | (rw [HN.out]; done) | (rw [HN.out]; rfl), hBz2⟩
              case measure => first | (simp [intOf]; done) | (simp [intOf]; omega)
          · obtain rfl : k = 16 := by omega
            have HT := Lib.hid (tells_met a b)
            have hmk := mcount_le a b 16
            have hti : t = cinside a.m a.b b.m b.b := ht.out.trans HI.out
            subst hti
            clear ht
            have HH := Lib.hid (fun w => chas_any a.m a.b h w)
            have HC := Lib.hid (fun w => ccount_any a.m a.b w)
            have HFI := Lib.hid (fun w => cfirst_any a.m a.b w)
            have HIN := Lib.hid (fun w => cinside_any a.m a.b b.m b.b w)
            rw [HL.out] at HC
            rw [HF.out] at HFI
            have hrc := run_eql_cube (pm s) (pb s)
            have hrn := run_neq_cube
            generalize cinside a.m a.b b.m b.b = ci at *
            cases hmet : cmet a.m a.b b.m b.b with
            | true => as_aux_lemma =>
              have hgt : 0 < mcount a b 16 := by have := HT.out; rw [hmet] at this; simpa using this
              have HME := Lib.hid (fun w => cmeet_yes a.m a.b b.m b.b w hmet)
              have HBO := Lib.hid (fun j hj => tells_both hmet j hj)
              clear hmet HT
              generalize mcount a b 16 = mk at *
              have hgt' : (0 : Int) < (mk : Int) := by omega
              go_wp2_with fail
              (go_at_call 26; refine (HME.out _).mono ?_; rintro e z3 ⟨rfl, hbz3⟩; have hBz3 := hBwr.trans (hbz3.mono hBwr.size); have hcz3 := fun b o (h : b < x.heap.size) => hBz3.cell (p := ⟨b, o, none⟩) h; clear hbz3; try clear hcwr)
              generalize hm1 : bits .or .i64 a.m b.m = mm at *
              generalize hm2 : bits .or .i64 a.b b.b = mb at *
              clear hm1 hm2
              have HBK := Lib.hid (BlockAt.new z3 [.int .i64 mm, .int .i64 mb] 23)
              have HBZ := Lib.hid (show Below x.heap.size x (z3.alloc (.cells [.int .i64 mm, .int .i64 mb].toArray 23)) from hBz3.trans (((Below.refl _ _).alloc (Nat.le_refl _) _).mono hBz3.size))
              go_wp2_with fail
              have hz3 : x.heap.size ≤ z3.heap.size := hBz3.size
              generalize z3.heap.size = g3 at *
              go_loopw [29] (fun i wr => ∃ k : Nat, k ≤ 16 ∧ i = .int .i64 k ∧ BlockAt wr g3 [.int .i64 mm, .int .i64 mb] ∧ Below x.heap.size x wr) (fun i _ => 16 - (intOf i).toNat)
              case atStart => exact ⟨0, by omega, rfl, HBK.out, HBZ.out⟩
              case round =>
                clear hcz3
                obtain ⟨k, hk, rfl, hbk, hBv⟩ := hrel
                rename_i v
                have hcv := fun b o (h : b < x.heap.size) => hBv.cell (p := ⟨b, o, none⟩) h
                have hbl := hbk.1
                have m0 := hbk.2 0 _ rfl
                have m1 := hbk.2 1 _ rfl
                by_cases hlt : k < 16
                · have H1 := Lib.hid (fun w => rhas_any a.m a.b (k : Nat) w)
                  have H2 := Lib.hid (fun w => rhas_any b.m b.b (k : Nat) w)
                  have H3 := Lib.hid (fun w => rhas_any mm mb (k : Nat) w)
                  have hb3 := HBO.out k hlt
                  rw [hb3] at H3
                  clear hb3
                  generalize chas a.m a.b (k : Nat) = p at H1 H3
                  generalize chas b.m b.b (k : Nat) = q at H2 H3
                  have HBV := Lib.hid hbk
                  clear hbk
                  cases p <;> cases q
                  all_goals
                    go_wp2_with fail
                    go_at_call 24
                    refine (H1.out _).mono ?_
                    rintro e v1 ⟨rfl, hv1⟩
                    have hBv1 := hBv.trans (hv1.mono hBv.size)
                    have hcv1 := fun b o (h : b < x.heap.size) => hBv1.cell (p := ⟨b, o, none⟩) h
                    go_wp2_with fail
                    go_at_call 24
                    refine (H2.out _).mono ?_
                    rintro e v2 ⟨rfl, hv2⟩
                    have hBv2 := hBv1.trans (hv2.mono hBv1.size)
                    have HBV2 := Lib.hid ((HBV.out.below hv1).below hv2)
                    have n0 := HBV2.out.2 0 _ rfl
                    have n1 := HBV2.out.2 1 _ rfl
                    clear hcv hcv1 m0 m1
                    go_wp2_with fail
                    go_at_call 24
                    refine (H3.out _).mono ?_
                    rintro e v3 ⟨rfl, hv3⟩
                    have hBv3 := hBv2.trans (hv3.mono hBv2.size)
                    go_wp2_with fail
                    go_roundw
                    case rel => exact ⟨k + 1, by omega, by go_num, HBV2.out.below hv3, hBv3⟩
                    case measure => simp [intOf]; omega
                · obtain rfl : k = 16 := by omega
                  clear hbk hbl m0 m1
                  have hcwr := hcv
                  have hBwr := hBv
                  clear hcv hBv
                  go_wp2_with fail
                  go_at_call 27
                  refine (HH.out _).mono ?_
                  rintro e q1 ⟨rfl, hq1⟩
                  have hBq1 := hBwr.trans (hq1.mono hBwr.size)
                  have hcq1 := fun b o (h : b < x.heap.size) => hBq1.cell (p := ⟨b, o, none⟩) h
                  clear hcwr
                  go_wp2_with fail
                  (go_at_call 28; refine (HC.out _).mono ?_; rintro e q2 ⟨rfl, hbq2⟩; have hBq2 := hBq1.trans (hbq2.mono hBq1.size); have hcq2 := fun b o (h : b < x.heap.size) => hBq2.cell (p := ⟨b, o, none⟩) h; clear hbq2; try clear hcq1)
                  go_wp2_with fail
                  (go_at_call 29; refine (HFI.out _).mono ?_; rintro e q3 ⟨rfl, hbq3⟩; have hBq3 := hBq2.trans (hbq3.mono hBq2.size); have hcq3 := fun b o (h : b < x.heap.size) => hBq3.cell (p := ⟨b, o, none⟩) h; clear hbq3; try clear hcq2)
                  go_wp2_with fail
                  (go_at_call 30; refine (HIN.out _).mono ?_; rintro e q4 ⟨rfl, hbq4⟩; have hBq4 := hBq3.trans (hbq4.mono hBq3.size); have hcq4 := fun b o (h : b < x.heap.size) => hBq4.cell (p := ⟨b, o, none⟩) h; clear hbq4; try clear hcq3)
                  go_wp2_with fail
                  go_ret
                  exact ⟨rfl, HB1.out.trans (hBq4.mono (Nat.le_of_lt sx0))⟩
            | false => as_aux_lemma =>
              have hgt : mcount a b 16 = 0 := by have := HT.out; rw [hmet] at this; simpa using this
              have HME := Lib.hid (fun w => cmeet_no a.m a.b b.m b.b w hmet)
              clear hmet HT
              rw [hgt]
              go_wp2_with fail
              (go_at_call 26; refine (HME.out _).mono ?_; rintro e z3 ⟨rfl, hbz3⟩; have hBz3 := hBwr.trans (hbz3.mono hBwr.size); have hcz3 := fun b o (h : b < x.heap.size) => hBz3.cell (p := ⟨b, o, none⟩) h; clear hbz3; try clear hcwr)
              have HBZ := Lib.hid (show Below x.heap.size x (z3.alloc (.cells #[.int .i64 0, .int .i64 0] 23)) from hBz3.trans (((Below.refl _ _).alloc (Nat.le_refl _) _).mono hBz3.size))
              have hz3 : x.heap.size ≤ z3.heap.size := hBz3.size
              go_wp2_with fail
              go_loopw [29] (fun i wr => i = .int .i64 0 ∧ Below x.heap.size x wr) (fun i _ => 16 - (intOf i).toNat)
              case atStart => exact ⟨rfl, HBZ.out⟩
              case round =>
                clear hcz3
                obtain ⟨rfl, hBv⟩ := hrel
                rename_i v
                have hcwr := fun b o (h : b < x.heap.size) => hBv.cell (p := ⟨b, o, none⟩) h
                have hBwr := hBv
                clear hBv
                go_wp2_with fail
                go_at_call 27
                refine (HH.out _).mono ?_
                rintro e q1 ⟨rfl, hq1⟩
                have hBq1 := hBwr.trans (hq1.mono hBwr.size)
                have hcq1 := fun b o (h : b < x.heap.size) => hBq1.cell (p := ⟨b, o, none⟩) h
                clear hcwr
                go_wp2_with fail
                (go_at_call 28; refine (HC.out _).mono ?_; rintro e q2 ⟨rfl, hbq2⟩; have hBq2 := hBq1.trans (hbq2.mono hBq1.size); have hcq2 := fun b o (h : b < x.heap.size) => hBq2.cell (p := ⟨b, o, none⟩) h; clear hbq2; try clear hcq1)
                go_wp2_with fail
                (go_at_call 29; refine (HFI.out _).mono ?_; rintro e q3 ⟨rfl, hbq3⟩; have hBq3 := hBq2.trans (hbq3.mono hBq2.size); have hcq3 := fun b o (h : b < x.heap.size) => hBq3.cell (p := ⟨b, o, none⟩) h; clear hbq3; try clear hcq2)
                go_wp2_with fail
                (go_at_call 30; refine (HIN.out _).mono ?_; rintro e q4 ⟨rfl, hbq4⟩; have hBq4 := hBq3.trans (hbq4.mono hBq3.size); have hcq4 := fun b o (h : b < x.heap.size) => hBq4.cell (p := ⟨b, o, none⟩) h; clear hbq4; try clear hcq3)
                go_wp2_with fail
                go_ret
                exact ⟨rfl, HB1.out.trans (hBq4.mono (Nat.le_of_lt sx0))⟩
      | cons f0 fr => as_aux_lemma =>
        have HI := Lib.hid (tells_in a b)
        have HF := Lib.hid (show cfirst a.m a.b = f0 by rw [tells_first, hl]; rfl)
        rw [hl] at HI hRq
        have HL := Lib.hid (show ccount a.m a.b = ((f0 :: fr).length : Int) by rw [tells_count, hl])
        obtain ⟨bq, oq, e1, hbq, q0⟩ := hRq.at_ (i := 0) (by simp)
        subst e1
        simp only [List.getElem_cons_zero, Nat.add_zero] at q0
        have hpos : 0 < (f0 :: fr).length := by simp
        have hpos' : (0 : Int) < ((f0 :: fr).length : Int) := by omega
        rw [decide_eq_true hpos, Bool.true_and] at HI
        simp only [hl]
        generalize f0 :: fr = lq at *
        clear hl hRq
        go_wp2_with fail
        (go_at_call 18; refine (HCB.out _).mono ?_; rintro e y4 ⟨rfl, hby4⟩; have hBy4 := hBy3.trans (hby4.mono hBy3.size); have hcy4 := fun b o (h : b < x.heap.size) => hBy4.cell (p := ⟨b, o, none⟩) h; clear hby4; try clear hcy3)
        go_wp2_with fail
        have HST0 : Hid ((cchk b.m b.b == 0) = mins (decide (cchk b.m b.b = 0)) a b 0) := by show (cchk b.m b.b == 0) = _; simp [mins, dec_bool]
        go_loopw [22, 23, 24] (fun mv tv i wr => ∃ (k : Nat) (t : Bool), k ≤ 16 ∧ i = .int .i64 k ∧ mv = .int .i64 (mcount a b k : Nat) ∧ tv = .bool t ∧ Hid (t = mins (decide (cchk b.m b.b = 0)) a b k) ∧ Below x.heap.size x wr) (fun _ _ i _ => 16 - (intOf i).toNat)
        case atStart => exact ⟨0, _, by omega, rfl, rfl, rfl, HST0.out, hBy4⟩
        case round =>
          obtain ⟨k, t, hk, rfl, rfl, rfl, ht, hBwr⟩ := hrel
          have hcwr := fun b o (h : b < x.heap.size) => hBwr.cell (p := ⟨b, o, none⟩) h
          clear hcy4
          by_cases hlt : k < 16
          · have H1 := Lib.hid (fun w => rhas_any a.m a.b (k : Nat) w)
            have H2 := Lib.hid (fun w => rhas_any b.m b.b (k : Nat) w)
            have HM := Lib.hid (mcount_succ a b k)
            have HN := Lib.hid (mins_succ (decide (cchk b.m b.b = 0)) a b k)
            have hmk := mcount_le a b k
            rw [← ht.out] at HN
            generalize chas a.m a.b (k : Nat) = p at H1 HM HN
            generalize chas b.m b.b (k : Nat) = q at H2 HM HN
            generalize mcount a b k = mk at *
            cases p <;> cases q <;> cases t
            all_goals
              go_wp2_with fail
              (go_at_call 24; refine (H1.out _).mono ?_; rintro e z1 ⟨rfl, hbz1⟩; have hBz1 := hBwr.trans (hbz1.mono hBwr.size); have hcz1 := fun b o (h : b < x.heap.size) => hBz1.cell (p := ⟨b, o, none⟩) h; clear hbz1; try clear hcwr)
              go_wp2_with fail
              (go_at_call 24; refine (H2.out _).mono ?_; rintro e z2 ⟨rfl, hbz2⟩; have hBz2 := hBz1.trans (hbz2.mono hBz1.size); have hcz2 := fun b o (h : b < x.heap.size) => hBz2.cell (p := ⟨b, o, none⟩) h; clear hbz2; try clear hcz1)
              go_wp2_with fail
              go_roundw
              case rel => exact ⟨k + 1, _, by omega, by go_num, by first | (rw [HM.out]; done) | (rw [HM.out]; simp; done) | (rw [HM.out]; rfl), rfl, by first | (rw [HN.out]; done) | (rw [HN.out]; rfl), hBz2⟩
              case measure => first | (simp [intOf]; done) | (simp [intOf]; omega)
          · obtain rfl : k = 16 := by omega
            have HT := Lib.hid (tells_met a b)
            have hmk := mcount_le a b 16
            have hti : t = cinside a.m a.b b.m b.b := ht.out.trans HI.out
            subst hti
            clear ht
            have HH := Lib.hid (fun w => chas_any a.m a.b h w)
            have HC := Lib.hid (fun w => ccount_any a.m a.b w)
            have HFI := Lib.hid (fun w => cfirst_any a.m a.b w)
            have HIN := Lib.hid (fun w => cinside_any a.m a.b b.m b.b w)
            rw [HL.out] at HC
            rw [HF.out] at HFI
            have hrc := run_eql_cube (pm s) (pb s)
            have hrn := run_neq_cube
            generalize cinside a.m a.b b.m b.b = ci at *
            cases hmet : cmet a.m a.b b.m b.b with
            | true => as_aux_lemma =>
              have hgt : 0 < mcount a b 16 := by have := HT.out; rw [hmet] at this; simpa using this
              have HME := Lib.hid (fun w => cmeet_yes a.m a.b b.m b.b w hmet)
              have HBO := Lib.hid (fun j hj => tells_both hmet j hj)
              clear hmet HT
              generalize mcount a b 16 = mk at *
              have hgt' : (0 : Int) < (mk : Int) := by omega
              go_wp2_with fail
              (go_at_call 26; refine (HME.out _).mono ?_; rintro e z3 ⟨rfl, hbz3⟩; have hBz3 := hBwr.trans (hbz3.mono hBwr.size); have hcz3 := fun b o (h : b < x.heap.size) => hBz3.cell (p := ⟨b, o, none⟩) h; clear hbz3; try clear hcwr)
              generalize hm1 : bits .or .i64 a.m b.m = mm at *
              generalize hm2 : bits .or .i64 a.b b.b = mb at *
              clear hm1 hm2
              have HBK := Lib.hid (BlockAt.new z3 [.int .i64 mm, .int .i64 mb] 23)
              have HBZ := Lib.hid (show Below x.heap.size x (z3.alloc (.cells [.int .i64 mm, .int .i64 mb].toArray 23)) from hBz3.trans (((Below.refl _ _).alloc (Nat.le_refl _) _).mono hBz3.size))
              go_wp2_with fail
              have hz3 : x.heap.size ≤ z3.heap.size := hBz3.size
              generalize z3.heap.size = g3 at *
              go_loopw [29] (fun i wr => ∃ k : Nat, k ≤ 16 ∧ i = .int .i64 k ∧ BlockAt wr g3 [.int .i64 mm, .int .i64 mb] ∧ Below x.heap.size x wr) (fun i _ => 16 - (intOf i).toNat)
              case atStart => exact ⟨0, by omega, rfl, HBK.out, HBZ.out⟩
              case round =>
                clear hcz3
                obtain ⟨k, hk, rfl, hbk, hBv⟩ := hrel
                rename_i v
                have hcv := fun b o (h : b < x.heap.size) => hBv.cell (p := ⟨b, o, none⟩) h
                have hbl := hbk.1
                have m0 := hbk.2 0 _ rfl
                have m1 := hbk.2 1 _ rfl
                by_cases hlt : k < 16
                · have H1 := Lib.hid (fun w => rhas_any a.m a.b (k : Nat) w)
                  have H2 := Lib.hid (fun w => rhas_any b.m b.b (k : Nat) w)
                  have H3 := Lib.hid (fun w => rhas_any mm mb (k : Nat) w)
                  have hb3 := HBO.out k hlt
                  rw [hb3] at H3
                  clear hb3
                  generalize chas a.m a.b (k : Nat) = p at H1 H3
                  generalize chas b.m b.b (k : Nat) = q at H2 H3
                  have HBV := Lib.hid hbk
                  clear hbk
                  cases p <;> cases q
                  all_goals
                    go_wp2_with fail
                    go_at_call 24
                    refine (H1.out _).mono ?_
                    rintro e v1 ⟨rfl, hv1⟩
                    have hBv1 := hBv.trans (hv1.mono hBv.size)
                    have hcv1 := fun b o (h : b < x.heap.size) => hBv1.cell (p := ⟨b, o, none⟩) h
                    go_wp2_with fail
                    go_at_call 24
                    refine (H2.out _).mono ?_
                    rintro e v2 ⟨rfl, hv2⟩
                    have hBv2 := hBv1.trans (hv2.mono hBv1.size)
                    have HBV2 := Lib.hid ((HBV.out.below hv1).below hv2)
                    have n0 := HBV2.out.2 0 _ rfl
                    have n1 := HBV2.out.2 1 _ rfl
                    clear hcv hcv1 m0 m1
                    go_wp2_with fail
                    go_at_call 24
                    refine (H3.out _).mono ?_
                    rintro e v3 ⟨rfl, hv3⟩
                    have hBv3 := hBv2.trans (hv3.mono hBv2.size)
                    go_wp2_with fail
                    go_roundw
                    case rel => exact ⟨k + 1, by omega, by go_num, HBV2.out.below hv3, hBv3⟩
                    case measure => simp [intOf]; omega
                · obtain rfl : k = 16 := by omega
                  clear hbk hbl m0 m1
                  have hcwr := hcv
                  have hBwr := hBv
                  clear hcv hBv
                  go_wp2_with fail
                  go_at_call 27
                  refine (HH.out _).mono ?_
                  rintro e q1 ⟨rfl, hq1⟩
                  have hBq1 := hBwr.trans (hq1.mono hBwr.size)
                  have hcq1 := fun b o (h : b < x.heap.size) => hBq1.cell (p := ⟨b, o, none⟩) h
                  clear hcwr
                  go_wp2_with fail
                  (go_at_call 28; refine (HC.out _).mono ?_; rintro e q2 ⟨rfl, hbq2⟩; have hBq2 := hBq1.trans (hbq2.mono hBq1.size); have hcq2 := fun b o (h : b < x.heap.size) => hBq2.cell (p := ⟨b, o, none⟩) h; clear hbq2; try clear hcq1)
                  go_wp2_with fail
                  (go_at_call 29; refine (HFI.out _).mono ?_; rintro e q3 ⟨rfl, hbq3⟩; have hBq3 := hBq2.trans (hbq3.mono hBq2.size); have hcq3 := fun b o (h : b < x.heap.size) => hBq3.cell (p := ⟨b, o, none⟩) h; clear hbq3; try clear hcq2)
                  go_wp2_with fail
                  (go_at_call 30; refine (HIN.out _).mono ?_; rintro e q4 ⟨rfl, hbq4⟩; have hBq4 := hBq3.trans (hbq4.mono hBq3.size); have hcq4 := fun b o (h : b < x.heap.size) => hBq4.cell (p := ⟨b, o, none⟩) h; clear hbq4; try clear hcq3)
                  go_wp2_with fail
                  go_ret
                  exact ⟨rfl, HB1.out.trans (hBq4.mono (Nat.le_of_lt sx0))⟩
            | false => as_aux_lemma =>
              have hgt : mcount a b 16 = 0 := by have := HT.out; rw [hmet] at this; simpa using this
              have HME := Lib.hid (fun w => cmeet_no a.m a.b b.m b.b w hmet)
              clear hmet HT
              rw [hgt]
              go_wp2_with fail
              (go_at_call 26; refine (HME.out _).mono ?_; rintro e z3 ⟨rfl, hbz3⟩; have hBz3 := hBwr.trans (hbz3.mono hBwr.size); have hcz3 := fun b o (h : b < x.heap.size) => hBz3.cell (p := ⟨b, o, none⟩) h; clear hbz3; try clear hcwr)
              have HBZ := Lib.hid (show Below x.heap.size x (z3.alloc (.cells #[.int .i64 0, .int .i64 0] 23)) from hBz3.trans (((Below.refl _ _).alloc (Nat.le_refl _) _).mono hBz3.size))
              have hz3 : x.heap.size ≤ z3.heap.size := hBz3.size
              go_wp2_with fail
              go_loopw [29] (fun i wr => i = .int .i64 0 ∧ Below x.heap.size x wr) (fun i _ => 16 - (intOf i).toNat)
              case atStart => exact ⟨rfl, HBZ.out⟩
              case round =>
                clear hcz3
                obtain ⟨rfl, hBv⟩ := hrel
                rename_i v
                have hcwr := fun b o (h : b < x.heap.size) => hBv.cell (p := ⟨b, o, none⟩) h
                have hBwr := hBv
                clear hBv
                go_wp2_with fail
                go_at_call 27
                refine (HH.out _).mono ?_
                rintro e q1 ⟨rfl, hq1⟩
                have hBq1 := hBwr.trans (hq1.mono hBwr.size)
                have hcq1 := fun b o (h : b < x.heap.size) => hBq1.cell (p := ⟨b, o, none⟩) h
                clear hcwr
                go_wp2_with fail
                (go_at_call 28; refine (HC.out _).mono ?_; rintro e q2 ⟨rfl, hbq2⟩; have hBq2 := hBq1.trans (hbq2.mono hBq1.size); have hcq2 := fun b o (h : b < x.heap.size) => hBq2.cell (p := ⟨b, o, none⟩) h; clear hbq2; try clear hcq1)
                go_wp2_with fail
                (go_at_call 29; refine (HFI.out _).mono ?_; rintro e q3 ⟨rfl, hbq3⟩; have hBq3 := hBq2.trans (hbq3.mono hBq2.size); have hcq3 := fun b o (h : b < x.heap.size) => hBq3.cell (p := ⟨b, o, none⟩) h; clear hbq3; try clear hcq2)
                go_wp2_with fail
                (go_at_call 30; refine (HIN.out _).mono ?_; rintro e q4 ⟨rfl, hbq4⟩; have hBq4 := hBq3.trans (hbq4.mono hBq3.size); have hcq4 := fun b o (h : b < x.heap.size) => hBq4.cell (p := ⟨b, o, none⟩) h; clear hbq4; try clear hcq3)
                go_wp2_with fail
                go_ret
                exact ⟨rfl, HB1.out.trans (hBq4.mono (Nat.le_of_lt sx0))⟩
  · as_aux_lemma =>
    have HG := Lib.hid (show gotS a.m a.b = ⟨#[]⟩ by unfold gotS; rw [if_neg he])
    rw [HG.out] at HPR
    have he' : (cchk a.m a.b == 0) = false := by simpa using he
    clear he
    have hBw5 := hBw4
    have hcw5 := hcw4
    clear hcw4
    go_wp2_with fail
    (go_at_call 21; refine (HPR.out _).mono ?_; rintro e w6 ⟨rfl, hbw6⟩; have hBw6 := hBw4.trans (hbw6.mono hBw4.size); have hcw6 := fun b o (h : b < w.heap.size) => hBw6.cell (p := ⟨b, o, none⟩) h; clear hbw6; try clear hcw4)
    go_wp2_with fail
    (go_at_call 12; refine (HE1.out _ (HD.out.below hBw6)).mono ?_; rintro e w7 ⟨rfl, hbw7⟩; have hBw7 := hBw6.trans (hbw7.mono hBw6.size); have hcw7 := fun b o (h : b < w.heap.size) => hBw7.cell (p := ⟨b, o, none⟩) h; clear hbw7; try clear hcw6)
    go_wp2_with fail
    (go_at_call 22; refine (HRD.out _).mono ?_; rintro e w8 ⟨rfl, hbw8⟩; have hBw8 := hBw7.trans (hbw8.mono hBw7.size); have hcw8 := fun b o (h : b < w.heap.size) => hBw8.cell (p := ⟨b, o, none⟩) h; clear hbw8; try clear hcw7)
    cases hpk : pok s with
    | true => as_aux_lemma =>
      have HQ := Lib.hid (show perr s = 0 by rw [HPP.out, hpk]; rfl)
      skip
      rw [HQ.out] at HE2
      clear hpk
      go_wp2_with fail
      refine calls_named ?_
      intro u hu
      have hz8 := hBw8.size
      have hBu : Below w.heap.size w u := by rw [hu]; go_grown
      have hsu : w8.heap.size < u.heap.size := by rw [hu]; simp
      have u0 : u.cell? ⟨w8.heap.size, 0, none⟩ = some (.int .i64 (pm s)) := by rw [hu]; simp [go_sem]
      have u1 : u.cell? ⟨w8.heap.size, 1, none⟩ = some (.int .i64 (pb s)) := by rw [hu]; simp [go_sem]
      have a0' := (hBu.cell (p := ⟨wa.heap.size, 0, none⟩) hs0).trans a0
      have a1' := (hBu.cell (p := ⟨wa.heap.size, 1, none⟩) hs0).trans a1
      have b0' := (hBu.cell (p := ⟨wa.heap.size + 1, 0, none⟩) hs1).trans b0
      have b1' := (hBu.cell (p := ⟨wa.heap.size + 1, 1, none⟩) hs1).trans b1
      have su0 : wa.heap.size < u.heap.size := by omega
      have su1 : wa.heap.size + 1 < u.heap.size := by omega
      have HDu := Lib.hid (HD.out.below hBu)
      have HB0 := Lib.hid (hb0.trans (hBu.mono (Nat.le_of_lt hs0)))
      clear hu a0 a1 b0 b1 hcw8
      have hBuu : Below u.heap.size u u := Below.refl _ _
      generalize w8.heap.size = g1 at *
      clear hz8 hBw8 HD hb0 hs0 hs1 hBu
      go_at_call 23
      refine (HPA.out _).mono ?_
      rintro e u2 ⟨rfl, hb2⟩
      have hz2 := hb2.size
      go_wp2_with fail
      refine calls_named ?_
      intro x hx
      have hBx : Below u.heap.size u x := by rw [hx]; go_grown
      have hsx : u2.heap.size < x.heap.size := by rw [hx]; simp
      have x0 : x.cell? ⟨u2.heap.size, 0, none⟩ = some (.int .i64 (pm s)) := by rw [hx]; simp [go_sem]
      have x1 : x.cell? ⟨u2.heap.size, 1, none⟩ = some (.int .i64 (pb s)) := by rw [hx]; simp [go_sem]
      have a0 := (hBx.cell (p := ⟨wa.heap.size, 0, none⟩) su0).trans a0'
      have a1 := (hBx.cell (p := ⟨wa.heap.size, 1, none⟩) su0).trans a1'
      have b0 := (hBx.cell (p := ⟨wa.heap.size + 1, 0, none⟩) su1).trans b0'
      have b1 := (hBx.cell (p := ⟨wa.heap.size + 1, 1, none⟩) su1).trans b1'
      have c0 := (hBx.cell (p := ⟨g1, 0, none⟩) hsu).trans u0
      have c1 := (hBx.cell (p := ⟨g1, 1, none⟩) hsu).trans u1
      have sx0 : wa.heap.size < x.heap.size := by omega
      have sx1 : wa.heap.size + 1 < x.heap.size := by omega
      have sx2 : g1 < x.heap.size := by omega
      have HDx := Lib.hid (HDu.out.below hBx)
      have HB1 := Lib.hid (HB0.out.trans (hBx.mono (Nat.le_of_lt su0)))
      clear hx a0' a1' b0' b1' u0 u1 su0 su1 hb2 hsu HDu HB0
      generalize u2.heap.size = g2 at *
      clear hz2 hBx hBuu
      have hBxx : Below x.heap.size x x := Below.refl _ _
      go_at_call 12
      refine (HE2.out _ HDx.out).mono ?_
      rintro e y1 ⟨rfl, hBy1⟩
      have hcy1 := fun b o (h : b < x.heap.size) => hBy1.cell (p := ⟨b, o, none⟩) h
      go_wp2_with fail
      (go_at_call 24; refine (HHA.out _).mono ?_; rintro e y2 ⟨rfl, hby2⟩; have hBy2 := hBy1.trans (hby2.mono hBy1.size); have hcy2 := fun b o (h : b < x.heap.size) => hBy2.cell (p := ⟨b, o, none⟩) h; clear hby2; try clear hcy1)
      go_wp2_with fail
      (go_at_call 25; refine (HHD.out _).mono ?_; rintro e y3 ⟨vq, rfl, hOq, hby3⟩; have hBy3 := hBy2.trans (hby3.mono hBy2.size); have hcy3 := fun b o (h : b < x.heap.size) => hBy3.cell (p := ⟨b, o, none⟩) h; try clear hcy2)
      obtain ⟨Aq, cq, rfl, hRq⟩ := hOq.ints
      clear hOq

      cases hl : rhdrsTo a.m a.b 16 with
      | nil => as_aux_lemma =>
        have HI := Lib.hid (tells_in a b)
        have HF := Lib.hid (show cfirst a.m a.b = 0 by rw [tells_first, hl]; rfl)
        rw [hl] at HI hRq
        have HL := Lib.hid (show ccount a.m a.b = 0 by rw [tells_count, hl]; rfl)
        simp only [List.length_nil, Nat.lt_irrefl, decide_false, Bool.false_and] at HI
        simp only [hl, List.length_nil]
        clear hl
        go_wp2_with fail
        have hBy4 := hBy3
        have hcy4 := hcy3
        have HST0 : Hid (false = mins false a b 0) := by show false = _; simp [mins, dec_bool]
        go_loopw [22, 23, 24] (fun mv tv i wr => ∃ (k : Nat) (t : Bool), k ≤ 16 ∧ i = .int .i64 k ∧ mv = .int .i64 (mcount a b k : Nat) ∧ tv = .bool t ∧ Hid (t = mins false a b k) ∧ Below x.heap.size x wr) (fun _ _ i _ => 16 - (intOf i).toNat)
        case atStart => exact ⟨0, _, by omega, rfl, rfl, rfl, HST0.out, hBy4⟩
        case round =>
          obtain ⟨k, t, hk, rfl, rfl, rfl, ht, hBwr⟩ := hrel
          have hcwr := fun b o (h : b < x.heap.size) => hBwr.cell (p := ⟨b, o, none⟩) h
          clear hcy4 hcy3
          by_cases hlt : k < 16
          · have H1 := Lib.hid (fun w => rhas_any a.m a.b (k : Nat) w)
            have H2 := Lib.hid (fun w => rhas_any b.m b.b (k : Nat) w)
            have HM := Lib.hid (mcount_succ a b k)
            have HN := Lib.hid (mins_succ false a b k)
            have hmk := mcount_le a b k
            rw [← ht.out] at HN
            generalize chas a.m a.b (k : Nat) = p at H1 HM HN
            generalize chas b.m b.b (k : Nat) = q at H2 HM HN
            generalize mcount a b k = mk at *
            have ht0 : t = false := by rw [ht.out]; simp [mins]
            subst ht0
            cases p <;> cases q
            all_goals
              go_wp2_with fail
              (go_at_call 24; refine (H1.out _).mono ?_; rintro e z1 ⟨rfl, hbz1⟩; have hBz1 := hBwr.trans (hbz1.mono hBwr.size); have hcz1 := fun b o (h : b < x.heap.size) => hBz1.cell (p := ⟨b, o, none⟩) h; clear hbz1; try clear hcwr)
              go_wp2_with fail
              (go_at_call 24; refine (H2.out _).mono ?_; rintro e z2 ⟨rfl, hbz2⟩; have hBz2 := hBz1.trans (hbz2.mono hBz1.size); have hcz2 := fun b o (h : b < x.heap.size) => hBz2.cell (p := ⟨b, o, none⟩) h; clear hbz2; try clear hcz1)
              go_wp2_with fail
              go_roundw
              case rel => exact ⟨k + 1, _, by omega, by go_num, by first | (rw [HM.out]; done) | (rw [HM.out]; simp; done) | (rw [HM.out]; rfl), rfl, by first | (rw [HN.out]; done) | (rw [HN.out]; rfl), hBz2⟩
              case measure => first | (simp [intOf]; done) | (simp [intOf]; omega)
          · obtain rfl : k = 16 := by omega
            have HT := Lib.hid (tells_met a b)
            have hmk := mcount_le a b 16
            have hti : t = cinside a.m a.b b.m b.b := ht.out.trans HI.out
            subst hti
            clear ht
            have HH := Lib.hid (fun w => chas_any a.m a.b h w)
            have HC := Lib.hid (fun w => ccount_any a.m a.b w)
            have HFI := Lib.hid (fun w => cfirst_any a.m a.b w)
            have HIN := Lib.hid (fun w => cinside_any a.m a.b b.m b.b w)
            rw [HL.out] at HC
            rw [HF.out] at HFI
            have hrc := run_eql_cube (pm s) (pb s)
            have hrn := run_neq_cube
            generalize cinside a.m a.b b.m b.b = ci at *
            cases hmet : cmet a.m a.b b.m b.b with
            | true => as_aux_lemma =>
              have hgt : 0 < mcount a b 16 := by have := HT.out; rw [hmet] at this; simpa using this
              have HME := Lib.hid (fun w => cmeet_yes a.m a.b b.m b.b w hmet)
              have HBO := Lib.hid (fun j hj => tells_both hmet j hj)
              clear hmet HT
              generalize mcount a b 16 = mk at *
              have hgt' : (0 : Int) < (mk : Int) := by omega
              go_wp2_with fail
              (go_at_call 26; refine (HME.out _).mono ?_; rintro e z3 ⟨rfl, hbz3⟩; have hBz3 := hBwr.trans (hbz3.mono hBwr.size); have hcz3 := fun b o (h : b < x.heap.size) => hBz3.cell (p := ⟨b, o, none⟩) h; clear hbz3; try clear hcwr)
              generalize hm1 : bits .or .i64 a.m b.m = mm at *
              generalize hm2 : bits .or .i64 a.b b.b = mb at *
              clear hm1 hm2
              have HBK := Lib.hid (BlockAt.new z3 [.int .i64 mm, .int .i64 mb] 23)
              have HBZ := Lib.hid (show Below x.heap.size x (z3.alloc (.cells [.int .i64 mm, .int .i64 mb].toArray 23)) from hBz3.trans (((Below.refl _ _).alloc (Nat.le_refl _) _).mono hBz3.size))
              go_wp2_with fail
              have hz3 : x.heap.size ≤ z3.heap.size := hBz3.size
              generalize z3.heap.size = g3 at *
              go_loopw [29] (fun i wr => ∃ k : Nat, k ≤ 16 ∧ i = .int .i64 k ∧ BlockAt wr g3 [.int .i64 mm, .int .i64 mb] ∧ Below x.heap.size x wr) (fun i _ => 16 - (intOf i).toNat)
              case atStart => exact ⟨0, by omega, rfl, HBK.out, HBZ.out⟩
              case round =>
                clear hcz3
                obtain ⟨k, hk, rfl, hbk, hBv⟩ := hrel
                rename_i v
                have hcv := fun b o (h : b < x.heap.size) => hBv.cell (p := ⟨b, o, none⟩) h
                have hbl := hbk.1
                have m0 := hbk.2 0 _ rfl
                have m1 := hbk.2 1 _ rfl
                by_cases hlt : k < 16
                · have H1 := Lib.hid (fun w => rhas_any a.m a.b (k : Nat) w)
                  have H2 := Lib.hid (fun w => rhas_any b.m b.b (k : Nat) w)
                  have H3 := Lib.hid (fun w => rhas_any mm mb (k : Nat) w)
                  have hb3 := HBO.out k hlt
                  rw [hb3] at H3
                  clear hb3
                  generalize chas a.m a.b (k : Nat) = p at H1 H3
                  generalize chas b.m b.b (k : Nat) = q at H2 H3
                  have HBV := Lib.hid hbk
                  clear hbk
                  cases p <;> cases q
                  all_goals
                    go_wp2_with fail
                    go_at_call 24
                    refine (H1.out _).mono ?_
                    rintro e v1 ⟨rfl, hv1⟩
                    have hBv1 := hBv.trans (hv1.mono hBv.size)
                    have hcv1 := fun b o (h : b < x.heap.size) => hBv1.cell (p := ⟨b, o, none⟩) h
                    go_wp2_with fail
                    go_at_call 24
                    refine (H2.out _).mono ?_
                    rintro e v2 ⟨rfl, hv2⟩
                    have hBv2 := hBv1.trans (hv2.mono hBv1.size)
                    have HBV2 := Lib.hid ((HBV.out.below hv1).below hv2)
                    have n0 := HBV2.out.2 0 _ rfl
                    have n1 := HBV2.out.2 1 _ rfl
                    clear hcv hcv1 m0 m1
                    go_wp2_with fail
                    go_at_call 24
                    refine (H3.out _).mono ?_
                    rintro e v3 ⟨rfl, hv3⟩
                    have hBv3 := hBv2.trans (hv3.mono hBv2.size)
                    go_wp2_with fail
                    go_roundw
                    case rel => exact ⟨k + 1, by omega, by go_num, HBV2.out.below hv3, hBv3⟩
                    case measure => simp [intOf]; omega
                · obtain rfl : k = 16 := by omega
                  clear hbk hbl m0 m1
                  have hcwr := hcv
                  have hBwr := hBv
                  clear hcv hBv
                  go_wp2_with fail
                  go_at_call 27
                  refine (HH.out _).mono ?_
                  rintro e q1 ⟨rfl, hq1⟩
                  have hBq1 := hBwr.trans (hq1.mono hBwr.size)
                  have hcq1 := fun b o (h : b < x.heap.size) => hBq1.cell (p := ⟨b, o, none⟩) h
                  clear hcwr
                  go_wp2_with fail
                  (go_at_call 28; refine (HC.out _).mono ?_; rintro e q2 ⟨rfl, hbq2⟩; have hBq2 := hBq1.trans (hbq2.mono hBq1.size); have hcq2 := fun b o (h : b < x.heap.size) => hBq2.cell (p := ⟨b, o, none⟩) h; clear hbq2; try clear hcq1)
                  go_wp2_with fail
                  (go_at_call 29; refine (HFI.out _).mono ?_; rintro e q3 ⟨rfl, hbq3⟩; have hBq3 := hBq2.trans (hbq3.mono hBq2.size); have hcq3 := fun b o (h : b < x.heap.size) => hBq3.cell (p := ⟨b, o, none⟩) h; clear hbq3; try clear hcq2)
                  go_wp2_with fail
                  (go_at_call 30; refine (HIN.out _).mono ?_; rintro e q4 ⟨rfl, hbq4⟩; have hBq4 := hBq3.trans (hbq4.mono hBq3.size); have hcq4 := fun b o (h : b < x.heap.size) => hBq4.cell (p := ⟨b, o, none⟩) h; clear hbq4; try clear hcq3)
                  go_wp2_with fail
                  go_ret
                  exact ⟨rfl, HB1.out.trans (hBq4.mono (Nat.le_of_lt sx0))⟩
            | false => as_aux_lemma =>
              have hgt : mcount a b 16 = 0 := by have := HT.out; rw [hmet] at this; simpa using this
              have HME := Lib.hid (fun w => cmeet_no a.m a.b b.m b.b w hmet)
              clear hmet HT
              rw [hgt]
              go_wp2_with fail
              (go_at_call 26; refine (HME.out _).mono ?_; rintro e z3 ⟨rfl, hbz3⟩; have hBz3 := hBwr.trans (hbz3.mono hBwr.size); have hcz3 := fun b o (h : b < x.heap.size) => hBz3.cell (p := ⟨b, o, none⟩) h; clear hbz3; try clear hcwr)
              have HBZ := Lib.hid (show Below x.heap.size x (z3.alloc (.cells #[.int .i64 0, .int .i64 0] 23)) from hBz3.trans (((Below.refl _ _).alloc (Nat.le_refl _) _).mono hBz3.size))
              have hz3 : x.heap.size ≤ z3.heap.size := hBz3.size
              go_wp2_with fail
              go_loopw [29] (fun i wr => i = .int .i64 0 ∧ Below x.heap.size x wr) (fun i _ => 16 - (intOf i).toNat)
              case atStart => exact ⟨rfl, HBZ.out⟩
              case round =>
                clear hcz3
                obtain ⟨rfl, hBv⟩ := hrel
                rename_i v
                have hcwr := fun b o (h : b < x.heap.size) => hBv.cell (p := ⟨b, o, none⟩) h
                have hBwr := hBv
                clear hBv
                go_wp2_with fail
                go_at_call 27
                refine (HH.out _).mono ?_
                rintro e q1 ⟨rfl, hq1⟩
                have hBq1 := hBwr.trans (hq1.mono hBwr.size)
                have hcq1 := fun b o (h : b < x.heap.size) => hBq1.cell (p := ⟨b, o, none⟩) h
                clear hcwr
                go_wp2_with fail
                (go_at_call 28; refine (HC.out _).mono ?_; rintro e q2 ⟨rfl, hbq2⟩; have hBq2 := hBq1.trans (hbq2.mono hBq1.size); have hcq2 := fun b o (h : b < x.heap.size) => hBq2.cell (p := ⟨b, o, none⟩) h; clear hbq2; try clear hcq1)
                go_wp2_with fail
                (go_at_call 29; refine (HFI.out _).mono ?_; rintro e q3 ⟨rfl, hbq3⟩; have hBq3 := hBq2.trans (hbq3.mono hBq2.size); have hcq3 := fun b o (h : b < x.heap.size) => hBq3.cell (p := ⟨b, o, none⟩) h; clear hbq3; try clear hcq2)
                go_wp2_with fail
                (go_at_call 30; refine (HIN.out _).mono ?_; rintro e q4 ⟨rfl, hbq4⟩; have hBq4 := hBq3.trans (hbq4.mono hBq3.size); have hcq4 := fun b o (h : b < x.heap.size) => hBq4.cell (p := ⟨b, o, none⟩) h; clear hbq4; try clear hcq3)
                go_wp2_with fail
                go_ret
                exact ⟨rfl, HB1.out.trans (hBq4.mono (Nat.le_of_lt sx0))⟩
      | cons f0 fr => as_aux_lemma =>
        have HI := Lib.hid (tells_in a b)
        have HF := Lib.hid (show cfirst a.m a.b = f0 by rw [tells_first, hl]; rfl)
        rw [hl] at HI hRq
        have HL := Lib.hid (show ccount a.m a.b = ((f0 :: fr).length : Int) by rw [tells_count, hl])
        obtain ⟨bq, oq, e1, hbq, q0⟩ := hRq.at_ (i := 0) (by simp)
        subst e1
        simp only [List.getElem_cons_zero, Nat.add_zero] at q0
        have hpos : 0 < (f0 :: fr).length := by simp
        have hpos' : (0 : Int) < ((f0 :: fr).length : Int) := by omega
        rw [decide_eq_true hpos, Bool.true_and] at HI
        simp only [hl]
        generalize f0 :: fr = lq at *
        clear hl hRq
        go_wp2_with fail
        (go_at_call 18; refine (HCB.out _).mono ?_; rintro e y4 ⟨rfl, hby4⟩; have hBy4 := hBy3.trans (hby4.mono hBy3.size); have hcy4 := fun b o (h : b < x.heap.size) => hBy4.cell (p := ⟨b, o, none⟩) h; clear hby4; try clear hcy3)
        go_wp2_with fail
        have HST0 : Hid ((cchk b.m b.b == 0) = mins (decide (cchk b.m b.b = 0)) a b 0) := by show (cchk b.m b.b == 0) = _; simp [mins, dec_bool]
        go_loopw [22, 23, 24] (fun mv tv i wr => ∃ (k : Nat) (t : Bool), k ≤ 16 ∧ i = .int .i64 k ∧ mv = .int .i64 (mcount a b k : Nat) ∧ tv = .bool t ∧ Hid (t = mins (decide (cchk b.m b.b = 0)) a b k) ∧ Below x.heap.size x wr) (fun _ _ i _ => 16 - (intOf i).toNat)
        case atStart => exact ⟨0, _, by omega, rfl, rfl, rfl, HST0.out, hBy4⟩
        case round =>
          obtain ⟨k, t, hk, rfl, rfl, rfl, ht, hBwr⟩ := hrel
          have hcwr := fun b o (h : b < x.heap.size) => hBwr.cell (p := ⟨b, o, none⟩) h
          clear hcy4
          by_cases hlt : k < 16
          · have H1 := Lib.hid (fun w => rhas_any a.m a.b (k : Nat) w)
            have H2 := Lib.hid (fun w => rhas_any b.m b.b (k : Nat) w)
            have HM := Lib.hid (mcount_succ a b k)
            have HN := Lib.hid (mins_succ (decide (cchk b.m b.b = 0)) a b k)
            have hmk := mcount_le a b k
            rw [← ht.out] at HN
            generalize chas a.m a.b (k : Nat) = p at H1 HM HN
            generalize chas b.m b.b (k : Nat) = q at H2 HM HN
            generalize mcount a b k = mk at *
            cases p <;> cases q <;> cases t
            all_goals
              go_wp2_with fail
              (go_at_call 24; refine (H1.out _).mono ?_; rintro e z1 ⟨rfl, hbz1⟩; have hBz1 := hBwr.trans (hbz1.mono hBwr.size); have hcz1 := fun b o (h : b < x.heap.size) => hBz1.cell (p := ⟨b, o, none⟩) h; clear hbz1; try clear hcwr)
              go_wp2_with fail
              (go_at_call 24; refine (H2.out _).mono ?_; rintro e z2 ⟨rfl, hbz2⟩; have hBz2 := hBz1.trans (hbz2.mono hBz1.size); have hcz2 := fun b o (h : b < x.heap.size) => hBz2.cell (p := ⟨b, o, none⟩) h; clear hbz2; try clear hcz1)
              go_wp2_with fail
              go_roundw
              case rel => exact ⟨k + 1, _, by omega, by go_num, by first | (rw [HM.out]; done) | (rw [HM.out]; simp; done) | (rw [HM.out]; rfl), rfl, by first | (rw [HN.out]; done) | (rw [HN.out]; rfl), hBz2⟩
              case measure => first | (simp [intOf]; done) | (simp [intOf]; omega)
          · obtain rfl : k = 16 := by omega
            have HT := Lib.hid (tells_met a b)
            have hmk := mcount_le a b 16
            have hti : t = cinside a.m a.b b.m b.b := ht.out.trans HI.out
            subst hti
            clear ht
            have HH := Lib.hid (fun w => chas_any a.m a.b h w)
            have HC := Lib.hid (fun w => ccount_any a.m a.b w)
            have HFI := Lib.hid (fun w => cfirst_any a.m a.b w)
            have HIN := Lib.hid (fun w => cinside_any a.m a.b b.m b.b w)
            rw [HL.out] at HC
            rw [HF.out] at HFI
            have hrc := run_eql_cube (pm s) (pb s)
            have hrn := run_neq_cube
            generalize cinside a.m a.b b.m b.b = ci at *
            cases hmet : cmet a.m a.b b.m b.b with
            | true => as_aux_lemma =>
              have hgt : 0 < mcount a b 16 := by have := HT.out; rw [hmet] at this; simpa using this
              have HME := Lib.hid (fun w => cmeet_yes a.m a.b b.m b.b w hmet)
              have HBO := Lib.hid (fun j hj => tells_both hmet j hj)
              clear hmet HT
              generalize mcount a b 16 = mk at *
              have hgt' : (0 : Int) < (mk : Int) := by omega
              go_wp2_with fail
              (go_at_call 26; refine (HME.out _).mono ?_; rintro e z3 ⟨rfl, hbz3⟩; have hBz3 := hBwr.trans (hbz3.mono hBwr.size); have hcz3 := fun b o (h : b < x.heap.size) => hBz3.cell (p := ⟨b, o, none⟩) h; clear hbz3; try clear hcwr)
              generalize hm1 : bits .or .i64 a.m b.m = mm at *
              generalize hm2 : bits .or .i64 a.b b.b = mb at *
              clear hm1 hm2
              have HBK := Lib.hid (BlockAt.new z3 [.int .i64 mm, .int .i64 mb] 23)
              have HBZ := Lib.hid (show Below x.heap.size x (z3.alloc (.cells [.int .i64 mm, .int .i64 mb].toArray 23)) from hBz3.trans (((Below.refl _ _).alloc (Nat.le_refl _) _).mono hBz3.size))
              go_wp2_with fail
              have hz3 : x.heap.size ≤ z3.heap.size := hBz3.size
              generalize z3.heap.size = g3 at *
              go_loopw [29] (fun i wr => ∃ k : Nat, k ≤ 16 ∧ i = .int .i64 k ∧ BlockAt wr g3 [.int .i64 mm, .int .i64 mb] ∧ Below x.heap.size x wr) (fun i _ => 16 - (intOf i).toNat)
              case atStart => exact ⟨0, by omega, rfl, HBK.out, HBZ.out⟩
              case round =>
                clear hcz3
                obtain ⟨k, hk, rfl, hbk, hBv⟩ := hrel
                rename_i v
                have hcv := fun b o (h : b < x.heap.size) => hBv.cell (p := ⟨b, o, none⟩) h
                have hbl := hbk.1
                have m0 := hbk.2 0 _ rfl
                have m1 := hbk.2 1 _ rfl
                by_cases hlt : k < 16
                · have H1 := Lib.hid (fun w => rhas_any a.m a.b (k : Nat) w)
                  have H2 := Lib.hid (fun w => rhas_any b.m b.b (k : Nat) w)
                  have H3 := Lib.hid (fun w => rhas_any mm mb (k : Nat) w)
                  have hb3 := HBO.out k hlt
                  rw [hb3] at H3
                  clear hb3
                  generalize chas a.m a.b (k : Nat) = p at H1 H3
                  generalize chas b.m b.b (k : Nat) = q at H2 H3
                  have HBV := Lib.hid hbk
                  clear hbk
                  cases p <;> cases q
                  all_goals
                    go_wp2_with fail
                    go_at_call 24
                    refine (H1.out _).mono ?_
                    rintro e v1 ⟨rfl, hv1⟩
                    have hBv1 := hBv.trans (hv1.mono hBv.size)
                    have hcv1 := fun b o (h : b < x.heap.size) => hBv1.cell (p := ⟨b, o, none⟩) h
                    go_wp2_with fail
                    go_at_call 24
                    refine (H2.out _).mono ?_
                    rintro e v2 ⟨rfl, hv2⟩
                    have hBv2 := hBv1.trans (hv2.mono hBv1.size)
                    have HBV2 := Lib.hid ((HBV.out.below hv1).below hv2)
                    have n0 := HBV2.out.2 0 _ rfl
                    have n1 := HBV2.out.2 1 _ rfl
                    clear hcv hcv1 m0 m1
                    go_wp2_with fail
                    go_at_call 24
                    refine (H3.out _).mono ?_
                    rintro e v3 ⟨rfl, hv3⟩
                    have hBv3 := hBv2.trans (hv3.mono hBv2.size)
                    go_wp2_with fail
                    go_roundw
                    case rel => exact ⟨k + 1, by omega, by go_num, HBV2.out.below hv3, hBv3⟩
                    case measure => simp [intOf]; omega
                · obtain rfl : k = 16 := by omega
                  clear hbk hbl m0 m1
                  have hcwr := hcv
                  have hBwr := hBv
                  clear hcv hBv
                  go_wp2_with fail
                  go_at_call 27
                  refine (HH.out _).mono ?_
                  rintro e q1 ⟨rfl, hq1⟩
                  have hBq1 := hBwr.trans (hq1.mono hBwr.size)
                  have hcq1 := fun b o (h : b < x.heap.size) => hBq1.cell (p := ⟨b, o, none⟩) h
                  clear hcwr
                  go_wp2_with fail
                  (go_at_call 28; refine (HC.out _).mono ?_; rintro e q2 ⟨rfl, hbq2⟩; have hBq2 := hBq1.trans (hbq2.mono hBq1.size); have hcq2 := fun b o (h : b < x.heap.size) => hBq2.cell (p := ⟨b, o, none⟩) h; clear hbq2; try clear hcq1)
                  go_wp2_with fail
                  (go_at_call 29; refine (HFI.out _).mono ?_; rintro e q3 ⟨rfl, hbq3⟩; have hBq3 := hBq2.trans (hbq3.mono hBq2.size); have hcq3 := fun b o (h : b < x.heap.size) => hBq3.cell (p := ⟨b, o, none⟩) h; clear hbq3; try clear hcq2)
                  go_wp2_with fail
                  (go_at_call 30; refine (HIN.out _).mono ?_; rintro e q4 ⟨rfl, hbq4⟩; have hBq4 := hBq3.trans (hbq4.mono hBq3.size); have hcq4 := fun b o (h : b < x.heap.size) => hBq4.cell (p := ⟨b, o, none⟩) h; clear hbq4; try clear hcq3)
                  go_wp2_with fail
                  go_ret
                  exact ⟨rfl, HB1.out.trans (hBq4.mono (Nat.le_of_lt sx0))⟩
            | false => as_aux_lemma =>
              have hgt : mcount a b 16 = 0 := by have := HT.out; rw [hmet] at this; simpa using this
              have HME := Lib.hid (fun w => cmeet_no a.m a.b b.m b.b w hmet)
              clear hmet HT
              rw [hgt]
              go_wp2_with fail
              (go_at_call 26; refine (HME.out _).mono ?_; rintro e z3 ⟨rfl, hbz3⟩; have hBz3 := hBwr.trans (hbz3.mono hBwr.size); have hcz3 := fun b o (h : b < x.heap.size) => hBz3.cell (p := ⟨b, o, none⟩) h; clear hbz3; try clear hcwr)
              have HBZ := Lib.hid (show Below x.heap.size x (z3.alloc (.cells #[.int .i64 0, .int .i64 0] 23)) from hBz3.trans (((Below.refl _ _).alloc (Nat.le_refl _) _).mono hBz3.size))
              have hz3 : x.heap.size ≤ z3.heap.size := hBz3.size
              go_wp2_with fail
              go_loopw [29] (fun i wr => i = .int .i64 0 ∧ Below x.heap.size x wr) (fun i _ => 16 - (intOf i).toNat)
              case atStart => exact ⟨rfl, HBZ.out⟩
              case round =>
                clear hcz3
                obtain ⟨rfl, hBv⟩ := hrel
                rename_i v
                have hcwr := fun b o (h : b < x.heap.size) => hBv.cell (p := ⟨b, o, none⟩) h
                have hBwr := hBv
                clear hBv
                go_wp2_with fail
                go_at_call 27
                refine (HH.out _).mono ?_
                rintro e q1 ⟨rfl, hq1⟩
                have hBq1 := hBwr.trans (hq1.mono hBwr.size)
                have hcq1 := fun b o (h : b < x.heap.size) => hBq1.cell (p := ⟨b, o, none⟩) h
                clear hcwr
                go_wp2_with fail
                (go_at_call 28; refine (HC.out _).mono ?_; rintro e q2 ⟨rfl, hbq2⟩; have hBq2 := hBq1.trans (hbq2.mono hBq1.size); have hcq2 := fun b o (h : b < x.heap.size) => hBq2.cell (p := ⟨b, o, none⟩) h; clear hbq2; try clear hcq1)
                go_wp2_with fail
                (go_at_call 29; refine (HFI.out _).mono ?_; rintro e q3 ⟨rfl, hbq3⟩; have hBq3 := hBq2.trans (hbq3.mono hBq2.size); have hcq3 := fun b o (h : b < x.heap.size) => hBq3.cell (p := ⟨b, o, none⟩) h; clear hbq3; try clear hcq2)
                go_wp2_with fail
                (go_at_call 30; refine (HIN.out _).mono ?_; rintro e q4 ⟨rfl, hbq4⟩; have hBq4 := hBq3.trans (hbq4.mono hBq3.size); have hcq4 := fun b o (h : b < x.heap.size) => hBq4.cell (p := ⟨b, o, none⟩) h; clear hbq4; try clear hcq3)
                go_wp2_with fail
                go_ret
                exact ⟨rfl, HB1.out.trans (hBq4.mono (Nat.le_of_lt sx0))⟩
    | false => as_aux_lemma =>
      have HQ := Lib.hid (show perr s = 2 by rw [HPP.out, hpk]; rfl)
      skip
      rw [HQ.out] at HE2
      clear hpk
      go_wp2_with fail
      refine calls_named ?_
      intro u hu
      have hz8 := hBw8.size
      have hBu : Below w.heap.size w u := by rw [hu]; go_grown
      have hsu : w8.heap.size < u.heap.size := by rw [hu]; simp
      have u0 : u.cell? ⟨w8.heap.size, 0, none⟩ = some (.int .i64 (pm s)) := by rw [hu]; simp [go_sem]
      have u1 : u.cell? ⟨w8.heap.size, 1, none⟩ = some (.int .i64 (pb s)) := by rw [hu]; simp [go_sem]
      have a0' := (hBu.cell (p := ⟨wa.heap.size, 0, none⟩) hs0).trans a0
      have a1' := (hBu.cell (p := ⟨wa.heap.size, 1, none⟩) hs0).trans a1
      have b0' := (hBu.cell (p := ⟨wa.heap.size + 1, 0, none⟩) hs1).trans b0
      have b1' := (hBu.cell (p := ⟨wa.heap.size + 1, 1, none⟩) hs1).trans b1
      have su0 : wa.heap.size < u.heap.size := by omega
      have su1 : wa.heap.size + 1 < u.heap.size := by omega
      have HDu := Lib.hid (HD.out.below hBu)
      have HB0 := Lib.hid (hb0.trans (hBu.mono (Nat.le_of_lt hs0)))
      clear hu a0 a1 b0 b1 hcw8
      have hBuu : Below u.heap.size u u := Below.refl _ _
      generalize w8.heap.size = g1 at *
      clear hz8 hBw8 HD hb0 hs0 hs1 hBu
      go_at_call 23
      refine (HPA.out _).mono ?_
      rintro e u2 ⟨rfl, hb2⟩
      have hz2 := hb2.size
      go_wp2_with fail
      refine calls_named ?_
      intro x hx
      have hBx : Below u.heap.size u x := by rw [hx]; go_grown
      have hsx : u2.heap.size < x.heap.size := by rw [hx]; simp
      have x0 : x.cell? ⟨u2.heap.size, 0, none⟩ = some (.int .i64 (pm s)) := by rw [hx]; simp [go_sem]
      have x1 : x.cell? ⟨u2.heap.size, 1, none⟩ = some (.int .i64 (pb s)) := by rw [hx]; simp [go_sem]
      have a0 := (hBx.cell (p := ⟨wa.heap.size, 0, none⟩) su0).trans a0'
      have a1 := (hBx.cell (p := ⟨wa.heap.size, 1, none⟩) su0).trans a1'
      have b0 := (hBx.cell (p := ⟨wa.heap.size + 1, 0, none⟩) su1).trans b0'
      have b1 := (hBx.cell (p := ⟨wa.heap.size + 1, 1, none⟩) su1).trans b1'
      have c0 := (hBx.cell (p := ⟨g1, 0, none⟩) hsu).trans u0
      have c1 := (hBx.cell (p := ⟨g1, 1, none⟩) hsu).trans u1
      have sx0 : wa.heap.size < x.heap.size := by omega
      have sx1 : wa.heap.size + 1 < x.heap.size := by omega
      have sx2 : g1 < x.heap.size := by omega
      have HDx := Lib.hid (HDu.out.below hBx)
      have HB1 := Lib.hid (HB0.out.trans (hBx.mono (Nat.le_of_lt su0)))
      clear hx a0' a1' b0' b1' u0 u1 su0 su1 hb2 hsu HDu HB0
      generalize u2.heap.size = g2 at *
      clear hz2 hBx hBuu
      have hBxx : Below x.heap.size x x := Below.refl _ _
      go_at_call 12
      refine (HE2.out _ HDx.out).mono ?_
      rintro e y1 ⟨rfl, hBy1⟩
      have hcy1 := fun b o (h : b < x.heap.size) => hBy1.cell (p := ⟨b, o, none⟩) h
      go_wp2_with fail
      (go_at_call 24; refine (HHA.out _).mono ?_; rintro e y2 ⟨rfl, hby2⟩; have hBy2 := hBy1.trans (hby2.mono hBy1.size); have hcy2 := fun b o (h : b < x.heap.size) => hBy2.cell (p := ⟨b, o, none⟩) h; clear hby2; try clear hcy1)
      go_wp2_with fail
      (go_at_call 25; refine (HHD.out _).mono ?_; rintro e y3 ⟨vq, rfl, hOq, hby3⟩; have hBy3 := hBy2.trans (hby3.mono hBy2.size); have hcy3 := fun b o (h : b < x.heap.size) => hBy3.cell (p := ⟨b, o, none⟩) h; try clear hcy2)
      obtain ⟨Aq, cq, rfl, hRq⟩ := hOq.ints
      clear hOq

      cases hl : rhdrsTo a.m a.b 16 with
      | nil => as_aux_lemma =>
        have HI := Lib.hid (tells_in a b)
        have HF := Lib.hid (show cfirst a.m a.b = 0 by rw [tells_first, hl]; rfl)
        rw [hl] at HI hRq
        have HL := Lib.hid (show ccount a.m a.b = 0 by rw [tells_count, hl]; rfl)
        simp only [List.length_nil, Nat.lt_irrefl, decide_false, Bool.false_and] at HI
        simp only [hl, List.length_nil]
        clear hl
        go_wp2_with fail
        have hBy4 := hBy3
        have hcy4 := hcy3
        have HST0 : Hid (false = mins false a b 0) := by show false = _; simp [mins, dec_bool]
        go_loopw [22, 23, 24] (fun mv tv i wr => ∃ (k : Nat) (t : Bool), k ≤ 16 ∧ i = .int .i64 k ∧ mv = .int .i64 (mcount a b k : Nat) ∧ tv = .bool t ∧ Hid (t = mins false a b k) ∧ Below x.heap.size x wr) (fun _ _ i _ => 16 - (intOf i).toNat)
        case atStart => exact ⟨0, _, by omega, rfl, rfl, rfl, HST0.out, hBy4⟩
        case round =>
          obtain ⟨k, t, hk, rfl, rfl, rfl, ht, hBwr⟩ := hrel
          have hcwr := fun b o (h : b < x.heap.size) => hBwr.cell (p := ⟨b, o, none⟩) h
          clear hcy4 hcy3
          by_cases hlt : k < 16
          · have H1 := Lib.hid (fun w => rhas_any a.m a.b (k : Nat) w)
            have H2 := Lib.hid (fun w => rhas_any b.m b.b (k : Nat) w)
            have HM := Lib.hid (mcount_succ a b k)
            have HN := Lib.hid (mins_succ false a b k)
            have hmk := mcount_le a b k
            rw [← ht.out] at HN
            generalize chas a.m a.b (k : Nat) = p at H1 HM HN
            generalize chas b.m b.b (k : Nat) = q at H2 HM HN
            generalize mcount a b k = mk at *
            have ht0 : t = false := by rw [ht.out]; simp [mins]
            subst ht0
            cases p <;> cases q
            all_goals
              go_wp2_with fail
              (go_at_call 24; refine (H1.out _).mono ?_; rintro e z1 ⟨rfl, hbz1⟩; have hBz1 := hBwr.trans (hbz1.mono hBwr.size); have hcz1 := fun b o (h : b < x.heap.size) => hBz1.cell (p := ⟨b, o, none⟩) h; clear hbz1; try clear hcwr)
              go_wp2_with fail
              (go_at_call 24; refine (H2.out _).mono ?_; rintro e z2 ⟨rfl, hbz2⟩; have hBz2 := hBz1.trans (hbz2.mono hBz1.size); have hcz2 := fun b o (h : b < x.heap.size) => hBz2.cell (p := ⟨b, o, none⟩) h; clear hbz2; try clear hcz1)
              go_wp2_with fail
              go_roundw
              case rel => exact ⟨k + 1, _, by omega, by go_num, by first | (rw [HM.out]; done) | (rw [HM.out]; simp; done) | (rw [HM.out]; rfl), rfl, by first | (rw [HN.out]; done) | (rw [HN.out]; rfl), hBz2⟩
              case measure => first | (simp [intOf]; done) | (simp [intOf]; omega)
          · obtain rfl : k = 16 := by omega
            have HT := Lib.hid (tells_met a b)
            have hmk := mcount_le a b 16
            have hti : t = cinside a.m a.b b.m b.b := ht.out.trans HI.out
            subst hti
            clear ht
            have HH := Lib.hid (fun w => chas_any a.m a.b h w)
            have HC := Lib.hid (fun w => ccount_any a.m a.b w)
            have HFI := Lib.hid (fun w => cfirst_any a.m a.b w)
            have HIN := Lib.hid (fun w => cinside_any a.m a.b b.m b.b w)
            rw [HL.out] at HC
            rw [HF.out] at HFI
            have hrc := run_eql_cube (pm s) (pb s)
            have hrn := run_neq_cube
            generalize cinside a.m a.b b.m b.b = ci at *
            cases hmet : cmet a.m a.b b.m b.b with
            | true => as_aux_lemma =>
              have hgt : 0 < mcount a b 16 := by have := HT.out; rw [hmet] at this; simpa using this
              have HME := Lib.hid (fun w => cmeet_yes a.m a.b b.m b.b w hmet)
              have HBO := Lib.hid (fun j hj => tells_both hmet j hj)
              clear hmet HT
              generalize mcount a b 16 = mk at *
              have hgt' : (0 : Int) < (mk : Int) := by omega
              go_wp2_with fail
              (go_at_call 26; refine (HME.out _).mono ?_; rintro e z3 ⟨rfl, hbz3⟩; have hBz3 := hBwr.trans (hbz3.mono hBwr.size); have hcz3 := fun b o (h : b < x.heap.size) => hBz3.cell (p := ⟨b, o, none⟩) h; clear hbz3; try clear hcwr)
              generalize hm1 : bits .or .i64 a.m b.m = mm at *
              generalize hm2 : bits .or .i64 a.b b.b = mb at *
              clear hm1 hm2
              have HBK := Lib.hid (BlockAt.new z3 [.int .i64 mm, .int .i64 mb] 23)
              have HBZ := Lib.hid (show Below x.heap.size x (z3.alloc (.cells [.int .i64 mm, .int .i64 mb].toArray 23)) from hBz3.trans (((Below.refl _ _).alloc (Nat.le_refl _) _).mono hBz3.size))
              go_wp2_with fail
              have hz3 : x.heap.size ≤ z3.heap.size := hBz3.size
              generalize z3.heap.size = g3 at *
              go_loopw [29] (fun i wr => ∃ k : Nat, k ≤ 16 ∧ i = .int .i64 k ∧ BlockAt wr g3 [.int .i64 mm, .int .i64 mb] ∧ Below x.heap.size x wr) (fun i _ => 16 - (intOf i).toNat)
              case atStart => exact ⟨0, by omega, rfl, HBK.out, HBZ.out⟩
              case round =>
                clear hcz3
                obtain ⟨k, hk, rfl, hbk, hBv⟩ := hrel
                rename_i v
                have hcv := fun b o (h : b < x.heap.size) => hBv.cell (p := ⟨b, o, none⟩) h
                have hbl := hbk.1
                have m0 := hbk.2 0 _ rfl
                have m1 := hbk.2 1 _ rfl
                by_cases hlt : k < 16
                · have H1 := Lib.hid (fun w => rhas_any a.m a.b (k : Nat) w)
                  have H2 := Lib.hid (fun w => rhas_any b.m b.b (k : Nat) w)
                  have H3 := Lib.hid (fun w => rhas_any mm mb (k : Nat) w)
                  have hb3 := HBO.out k hlt
                  rw [hb3] at H3
                  clear hb3
                  generalize chas a.m a.b (k : Nat) = p at H1 H3
                  generalize chas b.m b.b (k : Nat) = q at H2 H3
                  have HBV := Lib.hid hbk
                  clear hbk
                  cases p <;> cases q
                  all_goals
                    go_wp2_with fail
                    go_at_call 24
                    refine (H1.out _).mono ?_
                    rintro e v1 ⟨rfl, hv1⟩
                    have hBv1 := hBv.trans (hv1.mono hBv.size)
                    have hcv1 := fun b o (h : b < x.heap.size) => hBv1.cell (p := ⟨b, o, none⟩) h
                    go_wp2_with fail
                    go_at_call 24
                    refine (H2.out _).mono ?_
                    rintro e v2 ⟨rfl, hv2⟩
                    have hBv2 := hBv1.trans (hv2.mono hBv1.size)
                    have HBV2 := Lib.hid ((HBV.out.below hv1).below hv2)
                    have n0 := HBV2.out.2 0 _ rfl
                    have n1 := HBV2.out.2 1 _ rfl
                    clear hcv hcv1 m0 m1
                    go_wp2_with fail
                    go_at_call 24
                    refine (H3.out _).mono ?_
                    rintro e v3 ⟨rfl, hv3⟩
                    have hBv3 := hBv2.trans (hv3.mono hBv2.size)
                    go_wp2_with fail
                    go_roundw
                    case rel => exact ⟨k + 1, by omega, by go_num, HBV2.out.below hv3, hBv3⟩
                    case measure => simp [intOf]; omega
                · obtain rfl : k = 16 := by omega
                  clear hbk hbl m0 m1
                  have hcwr := hcv
                  have hBwr := hBv
                  clear hcv hBv
                  go_wp2_with fail
                  go_at_call 27
                  refine (HH.out _).mono ?_
                  rintro e q1 ⟨rfl, hq1⟩
                  have hBq1 := hBwr.trans (hq1.mono hBwr.size)
                  have hcq1 := fun b o (h : b < x.heap.size) => hBq1.cell (p := ⟨b, o, none⟩) h
                  clear hcwr
                  go_wp2_with fail
                  (go_at_call 28; refine (HC.out _).mono ?_; rintro e q2 ⟨rfl, hbq2⟩; have hBq2 := hBq1.trans (hbq2.mono hBq1.size); have hcq2 := fun b o (h : b < x.heap.size) => hBq2.cell (p := ⟨b, o, none⟩) h; clear hbq2; try clear hcq1)
                  go_wp2_with fail
                  (go_at_call 29; refine (HFI.out _).mono ?_; rintro e q3 ⟨rfl, hbq3⟩; have hBq3 := hBq2.trans (hbq3.mono hBq2.size); have hcq3 := fun b o (h : b < x.heap.size) => hBq3.cell (p := ⟨b, o, none⟩) h; clear hbq3; try clear hcq2)
                  go_wp2_with fail
                  (go_at_call 30; refine (HIN.out _).mono ?_; rintro e q4 ⟨rfl, hbq4⟩; have hBq4 := hBq3.trans (hbq4.mono hBq3.size); have hcq4 := fun b o (h : b < x.heap.size) => hBq4.cell (p := ⟨b, o, none⟩) h; clear hbq4; try clear hcq3)
                  go_wp2_with fail
                  go_ret
                  exact ⟨rfl, HB1.out.trans (hBq4.mono (Nat.le_of_lt sx0))⟩
            | false => as_aux_lemma =>
              have hgt : mcount a b 16 = 0 := by have := HT.out; rw [hmet] at this; simpa using this
              have HME := Lib.hid (fun w => cmeet_no a.m a.b b.m b.b w hmet)
              clear hmet HT
              rw [hgt]
              go_wp2_with fail
              (go_at_call 26; refine (HME.out _).mono ?_; rintro e z3 ⟨rfl, hbz3⟩; have hBz3 := hBwr.trans (hbz3.mono hBwr.size); have hcz3 := fun b o (h : b < x.heap.size) => hBz3.cell (p := ⟨b, o, none⟩) h; clear hbz3; try clear hcwr)
              have HBZ := Lib.hid (show Below x.heap.size x (z3.alloc (.cells #[.int .i64 0, .int .i64 0] 23)) from hBz3.trans (((Below.refl _ _).alloc (Nat.le_refl _) _).mono hBz3.size))
              have hz3 : x.heap.size ≤ z3.heap.size := hBz3.size
              go_wp2_with fail
              go_loopw [29] (fun i wr => i = .int .i64 0 ∧ Below x.heap.size x wr) (fun i _ => 16 - (intOf i).toNat)
              case atStart => exact ⟨rfl, HBZ.out⟩
              case round =>
                clear hcz3
                obtain ⟨rfl, hBv⟩ := hrel
                rename_i v
                have hcwr := fun b o (h : b < x.heap.size) => hBv.cell (p := ⟨b, o, none⟩) h
                have hBwr := hBv
                clear hBv
                go_wp2_with fail
                go_at_call 27
                refine (HH.out _).mono ?_
                rintro e q1 ⟨rfl, hq1⟩
                have hBq1 := hBwr.trans (hq1.mono hBwr.size)
                have hcq1 := fun b o (h : b < x.heap.size) => hBq1.cell (p := ⟨b, o, none⟩) h
                clear hcwr
                go_wp2_with fail
                (go_at_call 28; refine (HC.out _).mono ?_; rintro e q2 ⟨rfl, hbq2⟩; have hBq2 := hBq1.trans (hbq2.mono hBq1.size); have hcq2 := fun b o (h : b < x.heap.size) => hBq2.cell (p := ⟨b, o, none⟩) h; clear hbq2; try clear hcq1)
                go_wp2_with fail
                (go_at_call 29; refine (HFI.out _).mono ?_; rintro e q3 ⟨rfl, hbq3⟩; have hBq3 := hBq2.trans (hbq3.mono hBq2.size); have hcq3 := fun b o (h : b < x.heap.size) => hBq3.cell (p := ⟨b, o, none⟩) h; clear hbq3; try clear hcq2)
                go_wp2_with fail
                (go_at_call 30; refine (HIN.out _).mono ?_; rintro e q4 ⟨rfl, hbq4⟩; have hBq4 := hBq3.trans (hbq4.mono hBq3.size); have hcq4 := fun b o (h : b < x.heap.size) => hBq4.cell (p := ⟨b, o, none⟩) h; clear hbq4; try clear hcq3)
                go_wp2_with fail
                go_ret
                exact ⟨rfl, HB1.out.trans (hBq4.mono (Nat.le_of_lt sx0))⟩
      | cons f0 fr => as_aux_lemma =>
        have HI := Lib.hid (tells_in a b)
        have HF := Lib.hid (show cfirst a.m a.b = f0 by rw [tells_first, hl]; rfl)
        rw [hl] at HI hRq
        have HL := Lib.hid (show ccount a.m a.b = ((f0 :: fr).length : Int) by rw [tells_count, hl])
        obtain ⟨bq, oq, e1, hbq, q0⟩ := hRq.at_ (i := 0) (by simp)
        subst e1
        simp only [List.getElem_cons_zero, Nat.add_zero] at q0
        have hpos : 0 < (f0 :: fr).length := by simp
        have hpos' : (0 : Int) < ((f0 :: fr).length : Int) := by omega
        rw [decide_eq_true hpos, Bool.true_and] at HI
        simp only [hl]
        generalize f0 :: fr = lq at *
        clear hl hRq
        go_wp2_with fail
        (go_at_call 18; refine (HCB.out _).mono ?_; rintro e y4 ⟨rfl, hby4⟩; have hBy4 := hBy3.trans (hby4.mono hBy3.size); have hcy4 := fun b o (h : b < x.heap.size) => hBy4.cell (p := ⟨b, o, none⟩) h; clear hby4; try clear hcy3)
        go_wp2_with fail
        have HST0 : Hid ((cchk b.m b.b == 0) = mins (decide (cchk b.m b.b = 0)) a b 0) := by show (cchk b.m b.b == 0) = _; simp [mins, dec_bool]
        go_loopw [22, 23, 24] (fun mv tv i wr => ∃ (k : Nat) (t : Bool), k ≤ 16 ∧ i = .int .i64 k ∧ mv = .int .i64 (mcount a b k : Nat) ∧ tv = .bool t ∧ Hid (t = mins (decide (cchk b.m b.b = 0)) a b k) ∧ Below x.heap.size x wr) (fun _ _ i _ => 16 - (intOf i).toNat)
        case atStart => exact ⟨0, _, by omega, rfl, rfl, rfl, HST0.out, hBy4⟩
        case round =>
          obtain ⟨k, t, hk, rfl, rfl, rfl, ht, hBwr⟩ := hrel
          have hcwr := fun b o (h : b < x.heap.size) => hBwr.cell (p := ⟨b, o, none⟩) h
          clear hcy4
          by_cases hlt : k < 16
          · have H1 := Lib.hid (fun w => rhas_any a.m a.b (k : Nat) w)
            have H2 := Lib.hid (fun w => rhas_any b.m b.b (k : Nat) w)
            have HM := Lib.hid (mcount_succ a b k)
            have HN := Lib.hid (mins_succ (decide (cchk b.m b.b = 0)) a b k)
            have hmk := mcount_le a b k
            rw [← ht.out] at HN
            generalize chas a.m a.b (k : Nat) = p at H1 HM HN
            generalize chas b.m b.b (k : Nat) = q at H2 HM HN
            generalize mcount a b k = mk at *
            cases p <;> cases q <;> cases t
            all_goals
              go_wp2_with fail
              (go_at_call 24; refine (H1.out _).mono ?_; rintro e z1 ⟨rfl, hbz1⟩; have hBz1 := hBwr.trans (hbz1.mono hBwr.size); have hcz1 := fun b o (h : b < x.heap.size) => hBz1.cell (p := ⟨b, o, none⟩) h; clear hbz1; try clear hcwr)
              go_wp2_with fail
              (go_at_call 24; refine (H2.out _).mono ?_; rintro e z2 ⟨rfl, hbz2⟩; have hBz2 := hBz1.trans (hbz2.mono hBz1.size); have hcz2 := fun b o (h : b < x.heap.size) => hBz2.cell (p := ⟨b, o, none⟩) h; clear hbz2; try clear hcz1)
              go_wp2_with fail
              go_roundw
              case rel => exact ⟨k + 1, _, by omega, by go_num, by first | (rw [HM.out]; done) | (rw [HM.out]; simp; done) | (rw [HM.out]; rfl), rfl, by first | (rw [HN.out]; done) | (rw [HN.out]; rfl), hBz2⟩
              case measure => first | (simp [intOf]; done) | (simp [intOf]; omega)
          · obtain rfl : k = 16 := by omega
            have HT := Lib.hid (tells_met a b)
            have hmk := mcount_le a b 16
            have hti : t = cinside a.m a.b b.m b.b := ht.out.trans HI.out
            subst hti
            clear ht
            have HH := Lib.hid (fun w => chas_any a.m a.b h w)
            have HC := Lib.hid (fun w => ccount_any a.m a.b w)
            have HFI := Lib.hid (fun w => cfirst_any a.m a.b w)
            have HIN := Lib.hid (fun w => cinside_any a.m a.b b.m b.b w)
            rw [HL.out] at HC
            rw [HF.out] at HFI
            have hrc := run_eql_cube (pm s) (pb s)
            have hrn := run_neq_cube
            generalize cinside a.m a.b b.m b.b = ci at *
            cases hmet : cmet a.m a.b b.m b.b with
            | true => as_aux_lemma =>
              have hgt : 0 < mcount a b 16 := by have := HT.out; rw [hmet] at this; simpa using this
              have HME := Lib.hid (fun w => cmeet_yes a.m a.b b.m b.b w hmet)
              have HBO := Lib.hid (fun j hj => tells_both hmet j hj)
              clear hmet HT
              generalize mcount a b 16 = mk at *
              have hgt' : (0 : Int) < (mk : Int) := by omega
              go_wp2_with fail
              (go_at_call 26; refine (HME.out _).mono ?_; rintro e z3 ⟨rfl, hbz3⟩; have hBz3 := hBwr.trans (hbz3.mono hBwr.size); have hcz3 := fun b o (h : b < x.heap.size) => hBz3.cell (p := ⟨b, o, none⟩) h; clear hbz3; try clear hcwr)
              generalize hm1 : bits .or .i64 a.m b.m = mm at *
              generalize hm2 : bits .or .i64 a.b b.b = mb at *
              clear hm1 hm2
              have HBK := Lib.hid (BlockAt.new z3 [.int .i64 mm, .int .i64 mb] 23)
              have HBZ := Lib.hid (show Below x.heap.size x (z3.alloc (.cells [.int .i64 mm, .int .i64 mb].toArray 23)) from hBz3.trans (((Below.refl _ _).alloc (Nat.le_refl _) _).mono hBz3.size))
              go_wp2_with fail
              have hz3 : x.heap.size ≤ z3.heap.size := hBz3.size
              generalize z3.heap.size = g3 at *
              go_loopw [29] (fun i wr => ∃ k : Nat, k ≤ 16 ∧ i = .int .i64 k ∧ BlockAt wr g3 [.int .i64 mm, .int .i64 mb] ∧ Below x.heap.size x wr) (fun i _ => 16 - (intOf i).toNat)
              case atStart => exact ⟨0, by omega, rfl, HBK.out, HBZ.out⟩
              case round =>
                clear hcz3
                obtain ⟨k, hk, rfl, hbk, hBv⟩ := hrel
                rename_i v
                have hcv := fun b o (h : b < x.heap.size) => hBv.cell (p := ⟨b, o, none⟩) h
                have hbl := hbk.1
                have m0 := hbk.2 0 _ rfl
                have m1 := hbk.2 1 _ rfl
                by_cases hlt : k < 16
                · have H1 := Lib.hid (fun w => rhas_any a.m a.b (k : Nat) w)
                  have H2 := Lib.hid (fun w => rhas_any b.m b.b (k : Nat) w)
                  have H3 := Lib.hid (fun w => rhas_any mm mb (k : Nat) w)
                  have hb3 := HBO.out k hlt
                  rw [hb3] at H3
                  clear hb3
                  generalize chas a.m a.b (k : Nat) = p at H1 H3
                  generalize chas b.m b.b (k : Nat) = q at H2 H3
                  have HBV := Lib.hid hbk
                  clear hbk
                  cases p <;> cases q
                  all_goals
                    go_wp2_with fail
                    go_at_call 24
                    refine (H1.out _).mono ?_
                    rintro e v1 ⟨rfl, hv1⟩
                    have hBv1 := hBv.trans (hv1.mono hBv.size)
                    have hcv1 := fun b o (h : b < x.heap.size) => hBv1.cell (p := ⟨b, o, none⟩) h
                    go_wp2_with fail
                    go_at_call 24
                    refine (H2.out _).mono ?_
                    rintro e v2 ⟨rfl, hv2⟩
                    have hBv2 := hBv1.trans (hv2.mono hBv1.size)
                    have HBV2 := Lib.hid ((HBV.out.below hv1).below hv2)
                    have n0 := HBV2.out.2 0 _ rfl
                    have n1 := HBV2.out.2 1 _ rfl
                    clear hcv hcv1 m0 m1
                    go_wp2_with fail
                    go_at_call 24
                    refine (H3.out _).mono ?_
                    rintro e v3 ⟨rfl, hv3⟩
                    have hBv3 := hBv2.trans (hv3.mono hBv2.size)
                    go_wp2_with fail
                    go_roundw
                    case rel => exact ⟨k + 1, by omega, by go_num, HBV2.out.below hv3, hBv3⟩
                    case measure => simp [intOf]; omega
                · obtain rfl : k = 16 := by omega
                  clear hbk hbl m0 m1
                  have hcwr := hcv
                  have hBwr := hBv
                  clear hcv hBv
                  go_wp2_with fail
                  go_at_call 27
                  refine (HH.out _).mono ?_
                  rintro e q1 ⟨rfl, hq1⟩
                  have hBq1 := hBwr.trans (hq1.mono hBwr.size)
                  have hcq1 := fun b o (h : b < x.heap.size) => hBq1.cell (p := ⟨b, o, none⟩) h
                  clear hcwr
                  go_wp2_with fail
                  (go_at_call 28; refine (HC.out _).mono ?_; rintro e q2 ⟨rfl, hbq2⟩; have hBq2 := hBq1.trans (hbq2.mono hBq1.size); have hcq2 := fun b o (h : b < x.heap.size) => hBq2.cell (p := ⟨b, o, none⟩) h; clear hbq2; try clear hcq1)
                  go_wp2_with fail
                  (go_at_call 29; refine (HFI.out _).mono ?_; rintro e q3 ⟨rfl, hbq3⟩; have hBq3 := hBq2.trans (hbq3.mono hBq2.size); have hcq3 := fun b o (h : b < x.heap.size) => hBq3.cell (p := ⟨b, o, none⟩) h; clear hbq3; try clear hcq2)
                  go_wp2_with fail
                  (go_at_call 30; refine (HIN.out _).mono ?_; rintro e q4 ⟨rfl, hbq4⟩; have hBq4 := hBq3.trans (hbq4.mono hBq3.size); have hcq4 := fun b o (h : b < x.heap.size) => hBq4.cell (p := ⟨b, o, none⟩) h; clear hbq4; try clear hcq3)
                  go_wp2_with fail
                  go_ret
                  exact ⟨rfl, HB1.out.trans (hBq4.mono (Nat.le_of_lt sx0))⟩
            | false => as_aux_lemma =>
              have hgt : mcount a b 16 = 0 := by have := HT.out; rw [hmet] at this; simpa using this
              have HME := Lib.hid (fun w => cmeet_no a.m a.b b.m b.b w hmet)
              clear hmet HT
              rw [hgt]
              go_wp2_with fail
              (go_at_call 26; refine (HME.out _).mono ?_; rintro e z3 ⟨rfl, hbz3⟩; have hBz3 := hBwr.trans (hbz3.mono hBwr.size); have hcz3 := fun b o (h : b < x.heap.size) => hBz3.cell (p := ⟨b, o, none⟩) h; clear hbz3; try clear hcwr)
              have HBZ := Lib.hid (show Below x.heap.size x (z3.alloc (.cells #[.int .i64 0, .int .i64 0] 23)) from hBz3.trans (((Below.refl _ _).alloc (Nat.le_refl _) _).mono hBz3.size))
              have hz3 : x.heap.size ≤ z3.heap.size := hBz3.size
              go_wp2_with fail
              go_loopw [29] (fun i wr => i = .int .i64 0 ∧ Below x.heap.size x wr) (fun i _ => 16 - (intOf i).toNat)
              case atStart => exact ⟨rfl, HBZ.out⟩
              case round =>
                clear hcz3
                obtain ⟨rfl, hBv⟩ := hrel
                rename_i v
                have hcwr := fun b o (h : b < x.heap.size) => hBv.cell (p := ⟨b, o, none⟩) h
                have hBwr := hBv
                clear hBv
                go_wp2_with fail
                go_at_call 27
                refine (HH.out _).mono ?_
                rintro e q1 ⟨rfl, hq1⟩
                have hBq1 := hBwr.trans (hq1.mono hBwr.size)
                have hcq1 := fun b o (h : b < x.heap.size) => hBq1.cell (p := ⟨b, o, none⟩) h
                clear hcwr
                go_wp2_with fail
                (go_at_call 28; refine (HC.out _).mono ?_; rintro e q2 ⟨rfl, hbq2⟩; have hBq2 := hBq1.trans (hbq2.mono hBq1.size); have hcq2 := fun b o (h : b < x.heap.size) => hBq2.cell (p := ⟨b, o, none⟩) h; clear hbq2; try clear hcq1)
                go_wp2_with fail
                (go_at_call 29; refine (HFI.out _).mono ?_; rintro e q3 ⟨rfl, hbq3⟩; have hBq3 := hBq2.trans (hbq3.mono hBq2.size); have hcq3 := fun b o (h : b < x.heap.size) => hBq3.cell (p := ⟨b, o, none⟩) h; clear hbq3; try clear hcq2)
                go_wp2_with fail
                (go_at_call 30; refine (HIN.out _).mono ?_; rintro e q4 ⟨rfl, hbq4⟩; have hBq4 := hBq3.trans (hbq4.mono hBq3.size); have hcq4 := fun b o (h : b < x.heap.size) => hBq4.cell (p := ⟨b, o, none⟩) h; clear hbq4; try clear hcq3)
                go_wp2_with fail
                go_ret
                exact ⟨rfl, HB1.out.trans (hBq4.mono (Nat.le_of_lt sx0))⟩

end Go.Proofs.YtpkcdfgjcodidaaDoor.lawCubeTells
