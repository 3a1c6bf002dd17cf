/- raillaw1.TableBack returns true for every two tables and every rule: what is between two tables makes of the one the other; a rule that is added and taken away leaves a table as it was. Conditions: none. -/
import Derived.Test.YtedgcbcphlonpaaOpen
import Derived.Test.YtedgcbcphlonpaaTablePlain
import Derived.Test.YtedgcbcphlonpaaOpenRules
import Derived.JoinedCond
namespace Go.Proofs.Ytedgcbcphlonpaa.lawTableBack
open Go.ChangeShapes Go.WideShapes Go.ChangeAt Go.RowKit
open Go.ChangeMaps (open_string shut_string)
set_option linter.unusedSimpArgs false
set_option linter.unusedVariables false

theorem opt_nilne {n : Int} : (errOf n = .nilIface) ↔ n = 0 := by
  unfold errOf; split <;> simp_all

set_option maxRecDepth 100000 in
set_option maxHeartbeats 1600000 in
theorem walk (A A2 : Option Addr) (cp cp2 : Nat) (t o : List Rl) (r : Rl) (wa : World) (h : Rules wa A cp t) (h2 : Rules wa A2 cp2 o) :
    Calls Try.prog 10 #[.slice A t.length cp, .slice A2 o.length cp2, .agg #[.int .i64 r.p, .int .i64 r.m, .int .i64 r.b, .int .i64 r.o, .int .i64 r.s, .int .i64 r.v]] wa fun e w' => e = .returned (.bool true) ∧ Below wa.heap.size wa w' := by
  (obtain ⟨w, hw⟩ : ∃ w : World, w = wa.alloc (.cells #[.int .i64 r.p, .int .i64 r.m, .int .i64 r.b, .int .i64 r.o, .int .i64 r.s, .int .i64 r.v] 29) := ⟨_, rfl⟩); have hb0 : Below wa.heap.size wa w := (hw ▸ (Below.refl _ _).alloc (Nat.le_refl _) _); have hs0 : wa.heap.size < w.heap.size := (by rw [hw]; simp); have HS1 := Lib.hid (show wa.heap.size + 1 = w.heap.size by rw [hw]; simp)
  have HA := Lib.hid (show RlAt w wa.heap.size r from hw ▸ RlAt.new wa r 29)
  have H := Lib.hid (h.below hb0)
  have H2 := Lib.hid (h2.below hb0)
  clear h h2
  obtain ⟨c0, c1, c2, c3, c4, c5, -⟩ := HA.out
  have HF := Lib.hid (fun w => tdo_good [] ⟨0, true, rone⟩ back_fact.1 none 0 w (RowC.none_ _ _))
  simp only [back_fact.2] at HF
  go_enter Try.func10, Try.ntmps10
  go_wp2_with fail
  rw [← hw]; clear hw
  go_at_call 31
  refine (HF.out _).mono ?_
  rintro e w2 ⟨A2', c2', rfl, hR2, hb2⟩
  obtain ⟨bq, oq, hAq, hbq, d0, d1, d2, d3, d4, d5⟩ := hR2.at_ (i := 0) (by simp)
  subst hAq
  clear hR2
  simp only [List.getElem_cons_zero, rone, Nat.zero_mul, Nat.add_zero] at d0 d1 d2 d3 d4 d5
  obtain ⟨hcw2, hfw2⟩ := bcell hb2
  have hB2 : Below w.heap.size w w2 := bstep (by go_grown) hb2
  have hz2 := hb2.size
  simp at hz2
  have hq1 : w.heap.size < w2.heap.size := by omega
  have hq2 : wa.heap.size < w2.heap.size := by omega
  have hq3 : wa.heap.size + 1 < w2.heap.size := by rw [HS1.out]; omega
  have e0 : w2.cell? ⟨wa.heap.size + 1, 0, none⟩ = some (.int .i64 3) := by rw [HS1.out]; exact (hcw2 w.heap.size 0 (by simp)).trans (by simp [go_sem])
  have e1 : w2.cell? ⟨wa.heap.size + 1, 1, none⟩ = some (.int .i64 0) := by rw [HS1.out]; exact (hcw2 w.heap.size 1 (by simp)).trans (by simp [go_sem])
  have e2 : w2.cell? ⟨wa.heap.size + 1, 2, none⟩ = some (.int .i64 0) := by rw [HS1.out]; exact (hcw2 w.heap.size 2 (by simp)).trans (by simp [go_sem])
  have e3 : w2.cell? ⟨wa.heap.size + 1, 3, none⟩ = some (.int .i64 1) := by rw [HS1.out]; exact (hcw2 w.heap.size 3 (by simp)).trans (by simp [go_sem])
  have e4 : w2.cell? ⟨wa.heap.size + 1, 4, none⟩ = some (.int .i64 0) := by rw [HS1.out]; exact (hcw2 w.heap.size 4 (by simp)).trans (by simp [go_sem])
  have e5 : w2.cell? ⟨wa.heap.size + 1, 5, none⟩ = some (.int .i64 0) := by rw [HS1.out]; exact (hcw2 w.heap.size 5 (by simp)).trans (by simp [go_sem])
  have hrun := run_neq_rule rone rone
  simp only [rone, decide_true, Bool.not_true] at hrun
  clear HF hcw2 hfw2
  go_wp2_with fail
  refine wp_region_below (by kernel_rfl) (by kernel_rfl) ?_
  repeat (go_big_quiet_step (fail))
  refine wpQuiet_nil ?_
  intro w3 hb3
  have hB3 := hB2.trans (hb3.mono hB2.size)
  have hcc : ∀ b o, b < w.heap.size → w3.cell? ⟨b, o, none⟩ = w.cell? ⟨b, o, none⟩ := fun b o h => hB3.cell (p := ⟨b, o, none⟩) h
  clear e0 e1 e2 e3 e4 e5
  clear hz2 hq1 hq2 hq3 hrun hb2 hb3 d0 d1 d2 d3 d4 d5 hB2 hbq
  by_cases hz : t2chk t o = 0
  · obtain ⟨e1, e2, e3⟩ := back_one hz
    have HD := Lib.hid (fun A A2 cp cp2 w h h2 => tdiff_ok A A2 cp cp2 t o w h h2 hz)
    have hlt := tchk_len (t2chk_0 hz).1
    have hlo := tchk_len (t2chk_0 hz).2
    have hld : (tdiff t o).length ≤ 4294967296 := by
      have n1 := lacks_le t o false
      have n2 := lacks_le o t true
      unfold tdiff; rw [List.length_append]; omega
    have HX := Lib.hid (fun A A2 cp cp2 w h h2 => tall_any A A2 cp cp2 t (tdiff t o) w h h2 hld)
    have HS := Lib.hid (fun A A2 cp cp2 w h h2 => tsame_ok A A2 cp cp2 (tallV t (tdiff t o)) o w h h2 e2)
    rw [e3] at HS
    rw [e1] at HX
    simp only [List.isEmpty_nil, errOf_0] at HS HX
    clear e1 e2 e3 hz hld
    go_wp2_with fail
    go_at_call 32
    refine (HD.out _ _ _ _ _ (H.out.below hB3) (H2.out.below hB3)).mono ?_
    rintro e w4 ⟨v4, rfl, hO4, hb4⟩
    obtain ⟨A4, c4, rfl, hR4⟩ := hO4.ops
    have HR4 := Lib.hid hR4
    have hB4 := hB3.trans (hb4.mono hB3.size)
    clear hO4 hR4
    go_wp2_with fail
    go_at_call 33
    refine (HX.out _ _ _ _ _ (H.out.below hB4) HR4.out).mono ?_
    rintro e w5 ⟨A5, c5', rfl, hR5, hb5⟩
    have HR5 := Lib.hid hR5
    have hB5 := hB4.trans (hb5.mono hB4.size)
    clear hR5
    go_wp2_with fail
    go_at_call 34
    refine (HS.out _ _ _ _ _ HR5.out (H2.out.below hB5)).mono ?_
    rintro e wk ⟨rfl, hb6⟩
    have hBk := hB5.trans (hb6.mono hB5.size)
    have hck : ∀ b o, b < w.heap.size → wk.cell? ⟨b, o, none⟩ = w.cell? ⟨b, o, none⟩ := fun b o h => hBk.cell (p := ⟨b, o, none⟩) h
    clear hcc hb4 hb5 hb6 hB4 hB5 hB3
    go_wp2_with fail
    by_cases hf : tdoF t true r = 0
    · obtain ⟨e1, e2, e3, e4, e5⟩ := back_two hf
      have hlx : (((t ++ [r]).length : Nat) : Int) = (t.length : Int) + 1 := by simp
      generalize t ++ [r] = xx at *
      have HD1 := Lib.hid (tdo_good t ⟨0, true, r⟩ hf)
      have HD2 := Lib.hid (tdo_good xx ⟨0, false, r⟩ e2)
      have HS := Lib.hid (fun A A2 cp cp2 w h h2 => tsame_ok A A2 cp cp2 xx t w h h2 e4)
      have HL := Lib.hid hlx
      simp only [e1] at HD1
      simp only [e3] at HD2
      rw [e5] at HS
      have hle : t.length ≤ 12 := (tchk_len (t2chk_0 e4).2)
      have HE := Lib.hid (fun A A2 cp cp2 w h h2 => ssame_table A A2 cp cp2 t t w h h2 (by omega))
      simp only [decide_true] at HE
      clear hf e1 e2 e3 e4 e5 hlx
      go_at_call 31
      refine (HD1.out _ _ _ (H.out.below hBk)).mono ?_
      rintro e w7 ⟨A7, c7, rfl, hR7, hb7⟩
      have HR7 := Lib.hid hR7
      have hB7 := hBk.trans (hb7.mono hBk.size)
      have hc7 : ∀ b o, b < w.heap.size → w7.cell? ⟨b, o, none⟩ = w.cell? ⟨b, o, none⟩ := fun b o h => hB7.cell (p := ⟨b, o, none⟩) h
      have hz7 : wa.heap.size < w7.heap.size := Nat.lt_of_lt_of_le hs0 hB7.size
      clear hR7
      go_wp2_with fail
      go_at_call 31
      refine (HD2.out _ _ _ HR7.out).mono ?_
      rintro e w8 ⟨A8, c8, rfl, hR8, hb8⟩
      have HR8 := Lib.hid hR8
      have hB8 := hB7.trans (hb8.mono hB7.size)
      clear hR8
      go_wp2_with fail
      go_at_call 35
      refine (HE.out _ _ _ _ _ HR8.out (H.out.below hB8)).mono ?_
      rintro e w9 ⟨rfl, hb9⟩
      have hB9 := hB8.trans (hb9.mono hB8.size)
      go_wp2_with fail
      go_at_call 34
      refine (HS.out _ _ _ _ _ (HR7.out.below (hb8.trans (hb9.mono hb8.size))) (H.out.below hB9)).mono ?_
      rintro e w10 ⟨rfl, hb10⟩
      have hB10 := hB9.trans (hb10.mono hB9.size)
      have hl := HL.out
      go_wp2_with fail
      go_ret
      exact ⟨rfl, hb0.trans (hB10.mono (Nat.le_of_lt hs0))⟩
    · have HD1 := Lib.hid (tdo_err t ⟨0, true, r⟩ hf)
      clear hf
      simp only [] at HD1
      generalize tdoF t true r = q at *
      go_at_call 31
      refine (HD1.out _ _ _ (H.out.below hBk)).mono ?_
      rintro e w7 ⟨A7, c7, rfl, hR7, hb7⟩
      clear hR7
      go_wp2_with fail
      go_ret
      exact ⟨rfl, hb0.trans ((hBk.trans (hb7.mono hBk.size)).mono (Nat.le_of_lt hs0))⟩

  · have HD := Lib.hid (fun A A2 cp cp2 w h h2 => tdiff_bad A A2 cp cp2 t o w h h2 hz)
    clear hz
    generalize t2chk t o = q at *
    go_wp2_with fail
    go_at_call 32
    refine (HD.out _ _ _ _ _ (H.out.below hB3) (H2.out.below hB3)).mono ?_
    rintro e wk ⟨v4, rfl, hO4, hb4⟩
    have hBk := hB3.trans (hb4.mono hB3.size)
    have hck : ∀ b o, b < w.heap.size → wk.cell? ⟨b, o, none⟩ = w.cell? ⟨b, o, none⟩ := fun b o h => hBk.cell (p := ⟨b, o, none⟩) h
    clear hcc hb4 hB3 hO4
    go_wp2_with fail
    by_cases hf : tdoF t true r = 0
    · obtain ⟨e1, e2, e3, e4, e5⟩ := back_two hf
      have hlx : (((t ++ [r]).length : Nat) : Int) = (t.length : Int) + 1 := by simp
      generalize t ++ [r] = xx at *
      have HD1 := Lib.hid (tdo_good t ⟨0, true, r⟩ hf)
      have HD2 := Lib.hid (tdo_good xx ⟨0, false, r⟩ e2)
      have HS := Lib.hid (fun A A2 cp cp2 w h h2 => tsame_ok A A2 cp cp2 xx t w h h2 e4)
      have HL := Lib.hid hlx
      simp only [e1] at HD1
      simp only [e3] at HD2
      rw [e5] at HS
      have hle : t.length ≤ 12 := (tchk_len (t2chk_0 e4).2)
      have HE := Lib.hid (fun A A2 cp cp2 w h h2 => ssame_table A A2 cp cp2 t t w h h2 (by omega))
      simp only [decide_true] at HE
      clear hf e1 e2 e3 e4 e5 hlx
      go_at_call 31
      refine (HD1.out _ _ _ (H.out.below hBk)).mono ?_
      rintro e w7 ⟨A7, c7, rfl, hR7, hb7⟩
      have HR7 := Lib.hid hR7
      have hB7 := hBk.trans (hb7.mono hBk.size)
      have hc7 : ∀ b o, b < w.heap.size → w7.cell? ⟨b, o, none⟩ = w.cell? ⟨b, o, none⟩ := fun b o h => hB7.cell (p := ⟨b, o, none⟩) h
      have hz7 : wa.heap.size < w7.heap.size := Nat.lt_of_lt_of_le hs0 hB7.size
      clear hR7
      go_wp2_with fail
      go_at_call 31
      refine (HD2.out _ _ _ HR7.out).mono ?_
      rintro e w8 ⟨A8, c8, rfl, hR8, hb8⟩
      have HR8 := Lib.hid hR8
      have hB8 := hB7.trans (hb8.mono hB7.size)
      clear hR8
      go_wp2_with fail
      go_at_call 35
      refine (HE.out _ _ _ _ _ HR8.out (H.out.below hB8)).mono ?_
      rintro e w9 ⟨rfl, hb9⟩
      have hB9 := hB8.trans (hb9.mono hB8.size)
      go_wp2_with fail
      go_at_call 34
      refine (HS.out _ _ _ _ _ (HR7.out.below (hb8.trans (hb9.mono hb8.size))) (H.out.below hB9)).mono ?_
      rintro e w10 ⟨rfl, hb10⟩
      have hB10 := hB9.trans (hb10.mono hB9.size)
      have hl := HL.out
      go_wp2_with fail
      go_ret
      exact ⟨rfl, hb0.trans (hB10.mono (Nat.le_of_lt hs0))⟩
    · have HD1 := Lib.hid (tdo_err t ⟨0, true, r⟩ hf)
      clear hf
      simp only [] at HD1
      generalize tdoF t true r = q at *
      go_at_call 31
      refine (HD1.out _ _ _ (H.out.below hBk)).mono ?_
      rintro e w7 ⟨A7, c7, rfl, hR7, hb7⟩
      clear hR7
      go_wp2_with fail
      go_ret
      exact ⟨rfl, hb0.trans ((hBk.trans (hb7.mono hBk.size)).mono (Nat.le_of_lt hs0))⟩


set_option maxRecDepth 100000 in
theorem contract (H : Type) (enc : TypeId × Value → H) (W : World) (base : Nat) (args : Array Value) (ds gs : List (DataW H)) (before : List MemPlace)
    (hval : ∀ (j : Nat) t v, Try.f10.params[j]? = some t → args[j]? = some v → Value.okWide Try.prog W .any base t v)
    (hW : DataW.Whole enc Try.prog Try.f10.params.toList Rows.tableBackSpec.vars false W args.toList ds gs before) :
    Calls Try.prog 10 args W fun e W' => ∃ v, e = .returned v ∧ Rows.tableBackSpec.post enc Try.prog Try.f10 false true false false W args v W' := by
  have hW' := hW
  obtain ⟨p, q, hA0, hV, rfl, hfz, hnd⟩ := hW
  have hA : DataW.TrodAll enc Try.prog W 0 (fun _ => true) true Try.f10.params.toList args.toList ds p := hA0
  rw [Try.params10] at hA hval
  obtain ⟨v0, vs0, d0, ds0, p0, q0, hargs, rfl, rfl, h0, r0⟩ := trodAll_cons hA
  obtain ⟨v1, vs1, d1, ds1, p1, q1, rfl, rfl, rfl, h1, r1⟩ := trodAll_cons r0
  obtain ⟨v2, vs2, d2, ds2, p2, q2, rfl, rfl, rfl, h2, r2⟩ := trodAll_cons r1
  obtain ⟨rfl, rfl, rfl⟩ := trodAll_nil r2
  obtain rfl : args = #[v0, v1, v2] := by cases args; simp_all
  obtain ⟨rfl, rfl⟩ := trodVars_none hV
  have k0 := h0
  have lt0 : ∀ x ∈ p0, x.block < W.heap.size := by obtain ⟨m, hm⟩ := k0; exact DataW.trod_lt m _ _ _ hm
  have k1 := h1
  have lt1 : ∀ x ∈ p1, x.block < W.heap.size := by obtain ⟨m, hm⟩ := k1; exact DataW.trod_lt m _ _ _ hm
  have k2 := h2
  have lt2 : ∀ x ∈ p2, x.block < W.heap.size := by obtain ⟨m, hm⟩ := k2; exact DataW.trod_lt m _ _ _ hm
  obtain ⟨A, cp, t, rfl, hru0⟩ := open_rules (hval 0 68 v0 rfl rfl) h0
  obtain ⟨A2, cp2, o, rfl, hru1⟩ := open_rules (hval 1 68 v1 rfl rfl) h1
  obtain ⟨p, m, b, oo, s, x, rfl, ip, im, ib, ioo, is, ix⟩ := open_rule (hval 2 29 v2 rfl rfl) h2
  clear hA0
  refine (walk A A2 cp cp2 t o ⟨p, m, b, oo, s, x⟩ W hru0 hru1).mono fun e W' ⟨he, bel⟩ => ?_
  subst he
  exact ⟨_, rfl, _, _, _, [], _, [], hW', trodAll_mk1 (shut_bool Try.underlying4 _), (trodAll_cons_mk (Below.trod laidOut (by kernel_rfl) (of_decide_eq_true (by kernel_rfl)) k0 bel lt0) (trodAll_cons_mk (Below.trod laidOut (by kernel_rfl) (of_decide_eq_true (by kernel_rfl)) k1 bel lt1) (trodAll_cons_mk (Below.trod laidOut (by kernel_rfl) (of_decide_eq_true (by kernel_rfl)) k2 bel lt2) trodAll_mk0))), rfl, bel.frame _, fun h => by cases h⟩

set_option maxRecDepth 100000 in
theorem lifted (os : Os) (started : os.Started) (H : Type) (enc : TypeId × Value → H) :
    ReturnsInHanded {} Try.checked os 10 .any (Rows.tableBackSpec.pre6 enc Try.prog Try.f10 Rows.tableBackRow.domain false) (Rows.tableBackSpec.post enc Try.prog Try.f10 false true false false) := by
  refine returnsInHanded_of_change (C := Try.checked) own started (by kernel_rfl) Try.func10
    (ChangeSpec.witness6 (enc := enc) (C := Try.checked) false ⟨#[], #[.slice none 0 0, .slice none 0 0, .agg #[.int .i64 0, .int .i64 0, .int .i64 0, .int .i64 0, .int .i64 0, .int .i64 0]], []⟩ 8 (by kernel_rfl) (by kernel_rfl) (by kernel_rfl) (by kernel_rfl)) ?_
  intro W base args ds gs before hval0 hW hcnd _
  exact contract H enc W base args ds gs before hval0 hW

theorem over : Rows.tableBackRow.holds Try.pinned (OpenSpec.ofChange Rows.tableBackSpec) :=
  OpenClaim.holds_of_wide 10 Try.f10 rfl rfl rfl rfl rfl rfl rfl ⟨rfl, rfl, rfl, rfl, rfl⟩ rfl rfl rfl rfl rfl (by kernel_rfl) Try.func10 (by kernel_rfl)
    (of_decide_eq_true (by kernel_rfl)) (by unfold Func.isWrapper; first | (rw [if_pos (by decide +kernel)]; kernel_rfl) | (rw [if_neg (by decide +kernel)]; exact ⟨rfl, rfl⟩))
    (fun os started H enc _ => lifted os started H enc)

theorem proved : Rows.TableBackSaid := over
end Go.Proofs.Ytedgcbcphlonpaa.lawTableBack
