/- raillaw3.TableFull returns true for every two numbers: rules are added as long as there is room, taken away in any order. Conditions: none (the card is tied). -/
import Derived.Test.YtedgcbcphlonpaaDoorCards
import Derived.Test.YtedgcbcphlonpaaDoorTie
import Derived.Test.YtedgcbcphlonpaaDoorOpen
import Derived.Test.YtedgcbcphlonpaaDoorDoor
import Derived.Test.YtedgcbcphlonpaaDoorTable2
import Derived.Test.YtedgcbcphlonpaaDoorErr
import Derived.JoinedCond
import Derived.Deep.DeepHandedRow
namespace Go.Proofs.YtedgcbcphlonpaaDoor.lawTableFull
open Go.ChangeShapes Go.WideShapes Go.ChangeAt Go.RowKit
open Go.ChangeMaps (open_string shut_string)
set_option linter.unusedSimpArgs false
set_option linter.unusedVariables false

def frl (i : Nat) : Rl := ⟨(i : Int), 0, 0, 1, 0, 0⟩
/-- the table behind k rounds -/
def ft (k : Nat) : List Rl := (List.range (min k 12)).map frl
theorem ft_add : ∀ k : Fin 16, (k.val < 12 → tdoF (ft k.val) true (frl k.val) = 0 ∧ tdoR (ft k.val) true (frl k.val) = ft (k.val + 1)) ∧ (12 ≤ k.val → tdoF (ft k.val) true (frl k.val) = 4 ∧ ft (k.val + 1) = ft k.val) := by decide +kernel
theorem ft_len (k : Nat) : (ft k).length = min k 12 := by simp [ft]
theorem ft_del : ∀ n : Fin 16, ∀ a : Fin 12, a.val < (ft n.val).length → tdoF (ft n.val) false ((ft n.val).getD a.val default) = 0 ∧
    tdoF (tdoR (ft n.val) false ((ft n.val).getD a.val default)) false ((ft n.val).getD a.val default) = 5 ∧ (tdoR (ft n.val) false ((ft n.val).getD a.val default)).length + 1 = (ft n.val).length := by decide +kernel
theorem err_nil (y : Int) (b : Bool) (h : decide (0 = y) = b) (w : World) (hd : Door w) : Calls Tryd.prog 7 #[.nilIface, .int .i64 y] w fun e w' => e = .returned (.bool b) ∧ Below w.heap.size w w' := h ▸ error_any 0 y w hd
theorem err_is (x y : Int) (b : Bool) (hx : x ≠ 0) (h : decide (x = y) = b) (w : World) (hd : Door w) : Calls Tryd.prog 7 #[.iface 48 (.int .i64 x), .int .i64 y] w fun e w' => e = .returned (.bool b) ∧ Below w.heap.size w w' := by
  have := error_any x y w hd
  rw [errOf_ne hx, h] at this
  exact this

set_option maxRecDepth 100000 in
set_option maxHeartbeats 1600000 in
theorem walk_n (n : Nat) (a : Int) (w : World) (hn : n ≤ 15) (ha : I64 a) (hd : Door w) :
    Calls Tryd.prog 4 #[.int .i64 n, .int .i64 a] w fun e w' => e = .returned (.bool true) ∧ Below w.heap.size w w' := by
  obtain ⟨a0, a1⟩ := ha
  have HD := Lib.hid hd
  clear hd
  go_enter Tryd.func4, Tryd.ntmps4
  go_wp2_with fail
  go_loopw [5, 6] (fun v i wr => ∃ (k : Nat) (A : Option Addr) (c : Nat), k ≤ n ∧ i = .int .i64 k ∧ v = .slice A (ft k).length c ∧ Below w.heap.size w wr ∧ Rules wr A c (ft k)) (fun _ i _ => n - (intOf i).toNat)
  case atStart => exact ⟨0, none, 0, by omega, rfl, rfl, Below.refl _ _, RowC.none_ _ _⟩
  case round =>
    obtain ⟨k, A, c, hk, rfl, rfl, hbel, hR⟩ := hrel
    have hwr := hbel.size
    have HR := Lib.hid hR
    clear hR
    have HL := Lib.hid (ft_len k)
    by_cases hlt : k < n
    · obtain ⟨f1, f2⟩ := ft_add ⟨k, by omega⟩
      simp only at f1 f2
      by_cases h12 : k < 12
      · obtain ⟨e1, e2⟩ := f1 h12
        have HO := Lib.hid (tdo_good (ft k) true (frl k) e1)
        rw [e2] at HO
        have HE := Lib.hid (err_nil 4 false rfl)
        clear f1 f2 e1 e2
        go_wp2_with fail
        go_at_call 8
        refine (HO.out _ _ _ HR.out).mono ?_
        rintro e w2 ⟨A2, c2, rfl, hR2, hb2⟩
        have hB2 := bstep hbel hb2
        have HR2 := Lib.hid hR2
        clear hR2
        go_wp2_with fail
        go_at_call 7
        refine (HE.out _ (HD.out.below hB2)).mono ?_
        rintro e w3 ⟨rfl, hb3⟩
        have hB3 := bstep hB2 hb3
        go_wp2_with fail
        go_roundw
        case rel => exact ⟨k + 1, _, _, by omega, by go_num, rfl, hB3, HR2.out.below hb3⟩
        case measure => simp [intOf]; omega
      · obtain ⟨e1, e2⟩ := f2 (by omega)
        have HO := Lib.hid (tdo_err (ft k) true (frl k) (by rw [e1]; decide))
        rw [e1] at HO
        have HX := Lib.hid e2
        have HE := Lib.hid (err_is 4 4 true (by decide) rfl)
        clear f1 f2 e1 e2
        go_wp2_with fail
        go_at_call 8
        refine (HO.out _ _ _ HR.out).mono ?_
        rintro e w2 ⟨A2, c2, rfl, hR2, hb2⟩
        have hB2 := bstep hbel hb2
        clear hR2
        go_wp2_with fail
        go_at_call 7
        refine (HE.out _ (HD.out.below hB2)).mono ?_
        rintro e w3 ⟨rfl, hb3⟩
        have hB3 := bstep hB2 hb3
        go_wp2_with fail
        go_roundw
        case rel => exact ⟨k + 1, A, c, by omega, by go_num, by rw [HX.out], hB3, by rw [HX.out]; exact HR.out.below (hb2.trans (hb3.mono hb2.size))⟩
        case measure => simp [intOf]; omega
    · obtain rfl : k = n := by omega
      have hlk : (ft k).length ≤ 12 := by rw [HL.out]; omega
      by_cases hin : 0 ≤ a ∧ a < ((ft k).length : Int)
      · obtain ⟨i, rfl⟩ := Int.eq_ofNat_of_zero_le hin.1
        have hi : i < (ft k).length := by omega
        obtain ⟨e1, e2, e3⟩ := ft_del ⟨k, by omega⟩ ⟨i, by omega⟩ hi
        simp only [List.getD_eq_getElem?_getD, List.getElem?_eq_getElem hi, Option.getD_some] at e1 e2 e3
        obtain ⟨b0, o, rfl, hb0, c0, c1, c2, c3, c4, c5⟩ := HR.out.at_ hi
        have i0 : (0 : Int) ≤ (i : Int) := by omega
        have i1 : (i : Int) < ((ft k).length : Int) := by omega
        generalize (ft k)[i] = r at *
        have HO := Lib.hid (tdo_good (ft k) false r e1)
        generalize tdoR (ft k) false r = x at *
        have HO2 := Lib.hid (tdo_err x false r (by rw [e2]; decide))
        rw [e2] at HO2
        have HE := Lib.hid (err_is 5 5 true (by decide) rfl)
        have hl3 : (x.length : Int) = ((ft k).length : Int) - 1 := by omega
        have HL3 := Lib.hid hl3
        clear e1 e2 e3 hl3 hin HL a0 a1
        generalize ft k = l at *
        go_wp2_with fail
        go_at_call 8
        refine (HO.out _ _ _ HR.out).mono ?_
        rintro e w2 ⟨A2, c2', rfl, hR2, hb2⟩
        have hB2 := bstep hbel hb2
        have HR2 := Lib.hid hR2
        obtain ⟨hc2, hf2⟩ := bcell hb2
        clear hR2
        go_wp2_with fail
        go_at_call 8
        refine (HO2.out _ _ _ HR2.out).mono ?_
        rintro e w3 ⟨A3, c3', rfl, hR3, hb3⟩
        have hB3 := bstep hB2 hb3
        clear hR3
        go_wp2_with fail
        go_at_call 7
        refine (HE.out _ (HD.out.below hB3)).mono ?_
        rintro e w4 ⟨rfl, hb4⟩
        have hB4 := bstep hB3 hb4
        have hl3 := HL3.out
        go_wp2_with fail
        go_ret
        exact ⟨rfl, hB4⟩
      · have hin' : a < 0 ∨ ((ft k).length : Int) ≤ a := by omega
        clear hin
        rcases hin' with h | h
        · go_wp2_with fail
          go_ret
          exact ⟨rfl, hbel⟩
        · have h0 : ¬ a < 0 := by omega
          go_wp2_with fail
          go_ret
          exact ⟨rfl, hbel⟩
theorem walk (n a : Int) (w : World) (hd : Door w) (ha : I64 a) :
    Calls Tryd.prog 4 #[.int .i64 n, .int .i64 a] w fun e w' => e = .returned (.bool true) ∧ Below w.heap.size w w' := by
  by_cases h : 0 ≤ n ∧ n ≤ 15
  · obtain ⟨k, rfl⟩ := Int.eq_ofNat_of_zero_le h.1
    exact walk_n k a w (by omega) ha hd
  · have h' : n < 0 ∨ 15 < n := by omega
    clear h hd
    rcases h' with h | h
    · go_enter Tryd.func4, Tryd.ntmps4
      go_wp2_with fail
      go_ret
      exact ⟨rfl, Below.refl _ _⟩
    · have h0 : ¬ n < 0 := by omega
      go_enter Tryd.func4, Tryd.ntmps4
      go_wp2_with fail
      go_ret
      exact ⟨rfl, Below.refl _ _⟩

set_option maxRecDepth 100000 in
theorem contract (H : Type) (enc : TypeId × Value → H) (W : World) (base : Nat) (args : Array Value) (ds gs : List (DataW H)) (before : List MemPlace)
    (hval : ∀ (j : Nat) t v, Tryd.f4.params[j]? = some t → args[j]? = some v → Value.okWide Tryd.prog W .any base t v)
    (hW : DataW.Whole enc Tryd.prog Tryd.f4.params.toList Rows.tableFullSpec.vars false W args.toList ds gs before) (hL : laidMetH Tryd.prog (doorList Unit) W) :
    Calls Tryd.prog 4 args W fun e W' => ∃ v, e = .returned v ∧ Rows.tableFullSpec.post enc Tryd.prog Tryd.f4 false true false false W args v W' := by
  have hd := door_of_laid hL
  have hW' := hW
  obtain ⟨p, q, hA0, hV, rfl, hfz, hnd⟩ := hW
  have hA : DataW.TrodAll enc Tryd.prog W 0 (fun _ => true) true Tryd.f4.params.toList args.toList ds p := hA0
  rw [Tryd.params4] at hA hval
  obtain ⟨v0, vs0, d0, ds0, p0, q0, hargs, rfl, rfl, h0, r0⟩ := trodAll_cons hA
  obtain ⟨v1, vs1, d1, ds1, p1, q1, rfl, rfl, rfl, h1, r1⟩ := trodAll_cons r0
  obtain ⟨rfl, rfl, rfl⟩ := trodAll_nil r1
  obtain rfl : args = #[v0, v1] := by cases args; simp_all
  obtain ⟨rfl, rfl⟩ := trodVars_none hV
  have k0 := h0
  have lt0 : ∀ x ∈ p0, x.block < W.heap.size := by obtain ⟨m, hm⟩ := k0; exact DataW.trod_lt m _ _ _ hm
  have k1 := h1
  have lt1 : ∀ x ∈ p1, x.block < W.heap.size := by obtain ⟨m, hm⟩ := k1; exact DataW.trod_lt m _ _ _ hm
  obtain ⟨n, rfl, rfl, rfl, wf0⟩ := open_int Tryd.underlying3 (hval 0 3 v0 rfl rfl) h0
  have b0 := i64_of_wf wf0
  obtain ⟨a, rfl, rfl, rfl, wf1⟩ := open_int Tryd.underlying3 (hval 1 3 v1 rfl rfl) h1
  have b1 := i64_of_wf wf1
  clear hA0
  refine (walk n a W hd b1).mono fun e W' ⟨he, bel⟩ => ?_
  subst he
  exact ⟨_, rfl, _, _, _, [], _, [], hW', trodAll_mk1 (shut_bool Tryd.underlying4 _), (trodAll_cons_mk (Below.trod laidOut (by kernel_rfl) (of_decide_eq_true (by kernel_rfl)) k0 bel lt0) (trodAll_cons_mk (Below.trod laidOut (by kernel_rfl) (of_decide_eq_true (by kernel_rfl)) k1 bel lt1) trodAll_mk0)), rfl, bel.frame _, fun h => by cases h⟩

theorem reads (os : Os) {H : Type} (enc : TypeId × Value → H) : ∃ places, DataW.whole enc Tryd.prog ((laidWorld os).forCall (fun _ _ => 0) ⟨#[], #[.int .i64 0, .int .i64 0], []⟩).memory Tryd.f4.params.toList Rows.tableFullSpec.vars false #[.int .i64 0, .int .i64 0].toList 221 = some ([.lit (.int .i64 0), .lit (.int .i64 0)], [], places) :=
  ⟨[], by kernel_rfl⟩
set_option maxRecDepth 100000 in
theorem lifted (os : Os) (started : os.Started) (H : Type) (enc : TypeId × Value → H) (F : Stop.Interp) :
    ReturnsInHanded {} Tryd.checked os 4 .any ((OpenSpec.ofChange Rows.tableFullSpec).preRow enc Tryd.prog Tryd.f4 Rows.tableFullRow.domain false Rows.tableFullRow.laid) (((OpenSpec.ofChange Rows.tableFullSpec).at F).post enc Tryd.prog Tryd.f4 false true false false) := by
  obtain ⟨places, hx⟩ := reads os enc
  refine returnsInHanded_of_row (C := Tryd.checked) (s := (OpenSpec.ofChange Rows.tableFullSpec)) own_ started (by kernel_rfl) Tryd.func4
    (witness_row_at (enc := enc) (C := Tryd.checked) false (laidWorld os) #[.int .i64 0, .int .i64 0] rfl (by kernel_rfl) (by kernel_rfl) (by kernel_rfl)
      (OpenSpec.preRow_of_cond 221 hx (by kernel_rfl) (fun k hk => by cases hk) (by kernel_rfl) (laidWorld_met os _))) ?_
  intro W base args ds gs before hval hW _ hcond _ hL _ _
  exact contract H enc W base args ds gs before hval hW hL
set_option maxRecDepth 100000 in
theorem said : Rows.TableFullSaid :=
  OpenClaim.holds_of_cond 4 Tryd.f4 rfl rfl rfl rfl rfl rfl rfl ⟨rfl, rfl, rfl, rfl, rfl⟩ rfl rfl rfl rfl rfl (by kernel_rfl) Tryd.func4 (by kernel_rfl)
    (of_decide_eq_true (by kernel_rfl)) (by unfold Func.isWrapper; first | (rw [if_pos (by decide +kernel)]; kernel_rfl) | (rw [if_neg (by decide +kernel)]; exact ⟨rfl, rfl⟩))
    (fun os started H enc _ F => by rw [OpenClaim.pre_eq_preRow]; exact lifted os started H enc F)
theorem plain (f : FuncId) (fn : Func) (hf : Tryd.pinned.checked.prog.funcNamed "railpoint/raillaw3.TableFull" = some f) (hfn : Tryd.pinned.checked.prog.funcs[f]? = some fn) :
    true = Tryd.pinned.checked.prog.looks [] ∧ ∀ (j : Nat) t, fn.params[j]? = some t → Tryd.pinned.checked.prog.wantsStandIn t = false := by
  obtain rfl : f = 4 := Option.some.inj ((show Tryd.prog.funcNamed "railpoint/raillaw3.TableFull" = some 4 by kernel_rfl).symm.trans hf) |>.symm
  obtain rfl : fn = Tryd.f4 := (Option.some.inj (Tryd.func4.symm.trans hfn)).symm
  refine ⟨by kernel_rfl, fun j t ht => ?_⟩
  have H : (Tryd.f4.params.toList.all fun t => !Tryd.prog.wantsStandIn t) = true := by kernel_rfl
  have hm : t ∈ Tryd.f4.params.toList := by have := Array.mem_of_getElem? ht; simpa using this
  show Tryd.prog.wantsStandIn t = false
  simpa using List.all_eq_true.1 H t hm
set_option maxRecDepth 100000 in
theorem proved : Rows.TableFullCardSaid :=
  Claim7.holds_tied_plain_at .later [] _ _ _ _ said (fun _ h => by cases h) (by kernel_rfl) (fun _ h => by cases h) tableFull_row_tie rfl ⟨rfl, rfl⟩ (by kernel_rfl) rfl plain (by kernel_rfl)
end Go.Proofs.YtedgcbcphlonpaaDoor.lawTableFull
