/- railref1.Do, Diff; railsame.Ops; table.Room. -/
import Derived.Test.YtpkcdfgjcodidaaDoorRefTable
import Derived.Test.YtpkcdfgjcodidaaDoorTablePlain
namespace Go.Proofs.YtpkcdfgjcodidaaDoor
open Go.RowKit
set_option maxRecDepth 100000
set_option linter.unusedSimpArgs false
set_option linter.unusedVariables false

theorem Rules.drop {w : World} {b o c : Nat} {l : List Rl} (h : Rules w (some ⟨b, o, none⟩) c l) (k : Nat) (hk : k ≤ l.length) :
    RowC w 6 (if c = k then some ⟨b, o, none⟩ else some ⟨b, o + k * 6, none⟩) (l.length - k) (c - k) ((l.drop k).map Rl.cells) := by
  obtain ⟨h1, h2, h3, h4⟩ := h
  refine ⟨by simp, by omega, fun cs hcs => ?_, fun hk0 => ?_⟩
  · obtain ⟨x, hx, rfl⟩ := List.mem_map.1 hcs
    rfl
  · obtain ⟨b', o', e, hlt, hc⟩ := h4 (by omega)
    cases e
    rw [if_neg (by omega)]
    refine ⟨b, o + k * 6, rfl, hlt, fun i cs hi j u hu => ?_⟩
    rw [show o + k * 6 + i * 6 + j = o + (k + i) * 6 + j by omega]
    refine hc (k + i) cs ?_ j u hu
    rw [List.getElem?_map] at hi ⊢
    rw [List.getElem?_drop] at hi
    exact hi
theorem RowC.empty {w : World} {k n c : Nat} {A : Option Addr} (hn : n = 0) : RowC w k A n c [] := by
  subst hn; exact ⟨rfl, by omega, by simp, fun h => absurd h (by omega)⟩
def RetTI (l : List Rl) (f : Int) (w : World) (e : Ending) (w' : World) : Prop := ∃ A c, e = .returned (.tuple #[.slice A l.length c, .int .i64 f]) ∧ Rules w' A c l ∧ Below w.heap.size w w'
theorem RetTI.bad {l : List Rl} {w w' : World} {f : Int} (hl : l = []) (hb : Below w.heap.size w w') : RetTI l f w (.returned (.tuple #[.slice none 0 0, .int .i64 f])) w' := by
  subst hl; exact ⟨none, 0, rfl, RowC.none_ _ _, hb⟩
/-- where a rule lies, among the first k -/
def RAt (l : List Rl) (r : Rl) (k : Nat) (a : Int) : Prop := (a = -1 ∧ ∀ j (hj : j < l.length), j < k → l[j] ≠ r) ∨ ∃ j, ∃ hj : j < l.length, j < k ∧ a = (j : Int) ∧ l[j] = r
theorem RAt.no {l : List Rl} {r : Rl} {k : Nat} {a : Int} (h : RAt l r k a) (hk : k < l.length) (hn : l[k] ≠ r) : RAt l r (k + 1) a := by
  rcases h with ⟨h1, h2⟩ | ⟨j, hj, h1, h2, h3⟩
  · exact .inl ⟨h1, fun j hj hjk => if e : j < k then h2 j hj e else (by obtain rfl : j = k := (by omega); exact hn)⟩
  · exact .inr ⟨j, hj, by omega, h2, h3⟩
theorem RAt.yes {l : List Rl} {r : Rl} {k : Nat} (hk : k < l.length) (hn : l[k] = r) : RAt l r (k + 1) (k : Int) := .inr ⟨k, hk, by omega, rfl, hn⟩
theorem RAt.range {l : List Rl} {r : Rl} {k : Nat} {a : Int} (h : RAt l r k a) : -1 ≤ a ∧ a < (l.length : Int) := by
  rcases h with ⟨h1, h2⟩ | ⟨j, hj, h1, h2, h3⟩
  · omega
  · omega
theorem keyany_succ {l : List Rl} {r : Rl} {k : Nat} (hk : k < l.length) : ((l.take (k + 1)).any fun x => x.key r) = (((l.take k).any fun x => x.key r) || l[k].key r) := by
  rw [List.take_succ_eq_append_getElem hk, List.any_append]; simp
theorem keyany_le {l : List Rl} {r : Rl} {k : Nat} : ((l.take k).any fun x => x.key r) = true → (l.any fun x => x.key r) = true := by
  intro h
  obtain ⟨x, hx, hk⟩ := List.any_eq_true.1 h
  exact List.any_eq_true.2 ⟨x, List.mem_of_mem_take hx, hk⟩

set_option maxHeartbeats 6400000 in
theorem rdo_any (A : Option Addr) (cp : Nat) (l : List Rl) (add : Bool) (r : Rl) (wa : World) (h : Rules wa A cp l) (hz : tchk l = 0) (hr : r.chk = 0) :
    Calls Tryd.prog 50 #[.slice A l.length cp, .bool add, .agg #[.int .i64 r.p, .int .i64 r.m, .int .i64 r.b, .int .i64 r.o, .int .i64 r.s, .int .i64 r.v]] wa (RetTI (tdoV l add r) (tdoF l add r) wa) := by
  have hl12 := tchk_len hz
  have HK := Lib.hid (tchk_iff.1 hz)
  have HF0 := Lib.hid (show tdoF l add r = if add = true then (if (l.any fun x => x.key r) = true then 7 else if 12 ≤ l.length then 4 else 0) else if (l.any fun x => decide (r = x)) = true then 0 else 5 by unfold tdoF; rw [if_neg (by simpa using hz), if_neg (by simpa using hr)])
  (obtain ⟨w, hw⟩ : ∃ w : World, w = wa.alloc (.cells #[.int .i64 r.p, .int .i64 r.m, .int .i64 r.b, .int .i64 r.o, .int .i64 r.s, .int .i64 r.v] 25) := ⟨_, rfl⟩); have hb0 : Below wa.heap.size wa w := (hw ▸ (Below.refl _ _).alloc (Nat.le_refl _) _); have hs0 : wa.heap.size < w.heap.size := (by rw [hw]; simp); have HS1 := Lib.hid (show wa.heap.size + 1 = w.heap.size by rw [hw]; simp)
  have HA := Lib.hid (show RlAt w wa.heap.size r from hw ▸ RlAt.new wa r 25)
  have H := Lib.hid (h.below hb0)
  clear h hz hr
  go_enter Tryd.func50, Tryd.ntmps50
  go_wp2_with fail
  rw [← hw]; clear hw
  go_loopw [8, 9, 10] (fun av kv i wr => ∃ (k : Nat) (a : Int) (kb : Bool), k ≤ l.length ∧ i = .int .i64 k ∧ av = .int .i64 a ∧ kv = .bool kb ∧ Below w.heap.size w wr ∧ Hid (RAt l r k a ∧ kb = (l.take k).any fun x => x.key r)) (fun _ _ i _ => l.length - (intOf i).toNat)
  case atStart => exact ⟨0, -1, false, by omega, rfl, rfl, rfl, Below.refl _ _, .inl ⟨rfl, fun j _ hj => absurd hj (by omega)⟩, by simp⟩
  case round =>
    obtain ⟨k, a, kb, hk, rfl, rfl, rfl, hbel, hI⟩ := hrel
    have hwr := hbel.size
    by_cases hlt : k < l.length
    · obtain ⟨b, o, rfl, hb, c0, c1, c2, c3, c4, c5⟩ := (H.out.below hbel).at_ hlt
      obtain ⟨d0, d1, d2, d3, d4, d5, hd⟩ := HA.out.below hbel
      have i0 : (0 : Int) ≤ (k : Int) := by omega
      have i1 : (k : Int) < (l.length : Int) := by omega
      have hrc := run_eql_cube2 l[k].m l[k].b r.m r.b
      have hrr := run_eql_rule l[k] r
      have HS := Lib.hid (keyany_succ (r := r) hlt)
      have HKY := Lib.hid (show l[k].key r = decide (l[k].p = r.p ∧ l[k].m = r.m ∧ l[k].b = r.b) from rfl)
      by_cases hp : l[k].p = r.p
      · have hp' : (l[k].p == r.p) = true := by simpa using hp
        by_cases hm : l[k].m = r.m ∧ l[k].b = r.b
        · have HX := Lib.hid (show ((l.take (k + 1)).any fun x => x.key r) = true by rw [HS.out, HKY.out, decide_eq_true ⟨hp, hm⟩, Bool.or_true])
          rw [decide_eq_true hm] at hrc
          by_cases he : l[k] = r
          · have HY := Lib.hid (RAt.yes hlt he)
            rw [decide_eq_true he] at hrr
            clear hp hm he
            go_wp2_with fail
            refine wp_region_below (by kernel_rfl) (by kernel_rfl) ?_
            repeat (go_big_quiet_step (fail))
            refine wpQuiet_nil ?_
            intro w2 hb2
            have hz2 := hb2.size
            obtain ⟨hc2, -⟩ := bcell hb2
            have hq1 : wa.heap.size < w2.heap.size := by omega
            have hq2 : b < w2.heap.size := by omega
            go_wp2_with fail
            refine wp_region_below (by kernel_rfl) (by kernel_rfl) ?_
            repeat (go_big_quiet_step (fail))
            refine wpQuiet_nil ?_
            intro w3 hb3
            go_wp2_with fail
            go_roundw
            case rel => exact ⟨k + 1, _, _, by omega, by go_num, rfl, rfl, hbel.trans ((hb2.trans (hb3.mono hz2)).mono hwr), HY.out, HX.out.symm⟩
            case measure => simp [intOf]; omega
          · have HY := Lib.hid (hI.out.1.no hlt he)
            rw [decide_eq_false he] at hrr
            clear hp hm he
            go_wp2_with fail
            refine wp_region_below (by kernel_rfl) (by kernel_rfl) ?_
            repeat (go_big_quiet_step (fail))
            refine wpQuiet_nil ?_
            intro w2 hb2
            have hz2 := hb2.size
            obtain ⟨hc2, -⟩ := bcell hb2
            have hq1 : wa.heap.size < w2.heap.size := by omega
            have hq2 : b < w2.heap.size := by omega
            go_wp2_with fail
            refine wp_region_below (by kernel_rfl) (by kernel_rfl) ?_
            repeat (go_big_quiet_step (fail))
            refine wpQuiet_nil ?_
            intro w3 hb3
            go_wp2_with fail
            go_roundw
            case rel => exact ⟨k + 1, _, _, by omega, by go_num, rfl, rfl, hbel.trans ((hb2.trans (hb3.mono hz2)).mono hwr), HY.out, HX.out.symm⟩
            case measure => simp [intOf]; omega
        · have HX := Lib.hid (show ((l.take (k + 1)).any fun x => x.key r) = kb by rw [HS.out, HKY.out, decide_eq_false (fun z => hm z.2), Bool.or_false, hI.out.2])
          have HY := Lib.hid (hI.out.1.no hlt (fun e => hm (by rw [e]; exact ⟨rfl, rfl⟩)))
          rw [decide_eq_false hm] at hrc
          clear hp hm
          go_wp2_with fail
          refine wp_region_below (by kernel_rfl) (by kernel_rfl) ?_
          repeat (go_big_quiet_step (fail))
          refine wpQuiet_nil ?_
          intro w2 hb2
          go_wp2_with fail
          go_roundw
          case rel => exact ⟨k + 1, _, _, by omega, by go_num, rfl, rfl, hbel.trans (hb2.mono hwr), HY.out, HX.out.symm⟩
          case measure => simp [intOf]; omega
      · have hp' : (l[k].p == r.p) = false := by simpa using hp
        have HX := Lib.hid (show ((l.take (k + 1)).any fun x => x.key r) = kb by rw [HS.out, HKY.out, decide_eq_false (fun z => hp z.1), Bool.or_false, hI.out.2])
        have HY := Lib.hid (hI.out.1.no hlt (fun e => hp (by rw [e])))
        clear hp
        go_wp2_with fail
        refine wp_region_below (by kernel_rfl) (by kernel_rfl) ?_
        repeat (go_big_quiet_step (fail))
        refine wpQuiet_nil ?_
        intro w2 hb2
        go_wp2_with fail
        go_roundw
        case rel => exact ⟨k + 1, _, _, by omega, by go_num, rfl, rfl, hbel.trans (hb2.mono hwr), HY.out, HX.out.symm⟩
        case measure => simp [intOf]; omega
    · obtain rfl : k = l.length := by omega
      have hkb : kb = l.any fun x => x.key r := by rw [hI.out.2, List.take_length]
      have HI := Lib.hid hI.out.1
      clear hI
      have HBl := Lib.hid (hb0.trans (hbel.mono (Nat.le_of_lt hs0)))
      cases add with
      | true =>
        have HF1 := Lib.hid (HF0.out.trans (if_pos rfl))
        cases kb with
        | true =>
          have HF := Lib.hid (HF1.out.trans (if_pos hkb.symm))
          clear hkb
          go_wp2_with fail
          go_ret2
          rw [HF.out]
          exact RetTI.bad (tdoV_bad HF.out (by omega)) HBl.out
        | false =>
          have HF2 := Lib.hid (HF1.out.trans (if_neg (by rw [← hkb]; exact Bool.false_ne_true)))
          clear hkb
          by_cases h12 : 12 ≤ l.length
          · have HF := Lib.hid (HF2.out.trans (if_pos h12))
            have h12' : (12 : Int) ≤ (l.length : Int) := by omega
            clear h12
            go_wp2_with fail
            go_ret2
            rw [HF.out]
            exact RetTI.bad (tdoV_bad HF.out (by omega)) HBl.out
          · have HF := Lib.hid (HF2.out.trans (if_neg h12))
            have HV := Lib.hid (show tdoV l true r = l ++ [r] from tdoV_ok HF.out)
            have h12' : ¬ (12 : Int) ≤ (l.length : Int) := by omega
            obtain ⟨d0, d1, d2, d3, d4, d5, hd⟩ := HA.out.below hbel
            clear h12
            go_wp2_with (at_builtin; refine wpList_extend el_rule rfl (.tmp 48) (.tmp 49) rfl wr.heap.size _ [] rfl (Owns.nil_ _ _ _ _) A _ cp (l.map Rl.cells) rfl (H.out.below hbel) (rules_one _) ?c1 ?c2 (Nat.le_refl _) ?_)
            case c1 => (try unfold maxLen); (try simp); omega
            case c2 => (try simp); omega
            intro v2 w2 hO2 hb2
            have HO2 := Lib.hid (show Owns w2 wr.heap.size 25 6 v2 (l.map Rl.cells) by simpa using hO2)
            obtain ⟨hc2, -⟩ := bcell hb2
            have hz2 := hb2.size
            clear hO2
            go_wp2_with (at_builtin; refine wpList_push_new el_rule rfl (.tmp 51) (.tmp 53) rfl wr.heap.size _ _ rfl HO2.out r.cells _ _ rfl rfl rfl rfl (by omega) (by simp; omega) hz2 ?_)
            intro v3 w3 hO3 hb3
            have HO3 := Lib.hid hO3
            clear hO3
            go_wp2_with fail
            go_ret2
            obtain ⟨A4, c4, rfl, hR4⟩ := Owns.rules (l := l ++ [r]) (by simpa using HO3.out)
            rw [HF.out, HV.out]
            exact ⟨_, _, rfl, hR4, HBl.out.trans ((hb2.trans hb3).mono (Nat.le_trans (Nat.le_of_lt hs0) hwr))⟩
      | false =>
        have HF1 := Lib.hid (HF0.out.trans (if_neg (by simp)))
        obtain ⟨ar0, ar1⟩ := HI.out.range
        rcases HI.out with ⟨rfl, hno⟩ | ⟨j, hj, -, rfl, hje⟩
        · have HF := Lib.hid (HF1.out.trans (if_neg (by
            rw [any_mem, decide_eq_true_eq]
            intro hm
            obtain ⟨q, hq, e⟩ := List.getElem_of_mem hm
            exact hno q hq hq e)))
          clear hno HI
          go_wp2_with fail
          go_ret2
          rw [HF.out]
          exact RetTI.bad (tdoV_bad HF.out (by omega)) HBl.out
        · have hm : r ∈ l := hje ▸ List.getElem_mem hj
          have HF := Lib.hid (HF1.out.trans (if_pos (by rw [any_mem]; simpa using hm)))
          have HV := Lib.hid (show tdoV l false r = l.take j ++ l.drop (j + 1) by
            rw [tdoV_ok HF.out, (tdoF_del HK.out hm).2, ← List.eraseIdx_eq_take_drop_succ]
            rw [List.erase_eq_eraseIdx_of_idxOf (i := j)]
            rw [← hje]
            exact HK.out.nodup.idxOf_getElem j hj)
          obtain ⟨b, o, rfl, hb, -⟩ := (H.out.below hbel).at_ hj
          have HT := Lib.hid ((H.out.below hbel).take j (by omega))
          have HDr := Lib.hid ((H.out.below hbel).drop (j + 1) (by omega))
          have hle := (H.out).le
          clear HI hm hje
          by_cases hcj : cp = j + 1
          · subst hcj
            have hll : l.length = j + 1 := by omega
            have hdd : l.drop (j + 1) = [] := List.drop_of_length_le (by omega)
            clear HDr
            have HDD := Lib.hid hdd
            clear hdd
            go_wp2_with (at_builtin; refine wpList_extend el_rule rfl (.tmp 57) (.tmp 60) rfl wr.heap.size _ [] rfl (Owns.nil_ _ _ _ _) _ _ _ _ rfl HT.out (rules_one _) ?c1 ?c2 (Nat.le_refl _) ?_)
            case c1 => (try unfold maxLen); (try simp); omega
            case c2 => (try simp); omega
            intro v2 w2 hO2 hb2
            have HO2 := Lib.hid hO2
            have hz2 := hb2.size
            clear hO2
            go_wp2_with (at_builtin; refine wpList_extend el_rule rfl (.tmp 62) (.tmp 66) rfl wr.heap.size _ _ rfl HO2.out _ _ _ ([] : List (List Value)) rfl (RowC.empty (by omega)) (by simp) ?c3 ?c4 hz2 ?_)
            case c3 => (try unfold maxLen); (try simp); omega
            case c4 => (try simp); omega
            intro v3 w3 hO3 hb3
            have HO3 := Lib.hid hO3
            clear hO3
            go_wp2_with fail
            go_ret2
            obtain ⟨A4, c4, rfl, hR4⟩ := Owns.rules (l := l.take j ++ l.drop (j + 1)) (by rw [HDD.out]; simpa using HO3.out)
            rw [HF.out, HV.out]
            exact ⟨_, _, rfl, hR4, HBl.out.trans ((hb2.trans hb3).mono (Nat.le_trans (Nat.le_of_lt hs0) hwr))⟩
          · have HDr := Lib.hid (show RowC wr 6 (some ⟨b, o + (j + 1) * 6, none⟩) (l.length - (j + 1)) (cp - (j + 1)) ((l.drop (j + 1)).map Rl.cells) by have := HDr.out; rwa [if_neg hcj] at this)
            go_wp2_with (at_builtin; refine wpList_extend el_rule rfl (.tmp 57) (.tmp 60) rfl wr.heap.size _ [] rfl (Owns.nil_ _ _ _ _) _ _ _ _ rfl HT.out (rules_one _) ?c1 ?c2 (Nat.le_refl _) ?_)
            case c1 => (try unfold maxLen); (try simp); omega
            case c2 => (try simp); omega
            intro v2 w2 hO2 hb2
            have HO2 := Lib.hid hO2
            have hz2 := hb2.size
            clear hO2
            go_wp2_with (at_builtin; refine wpList_extend el_rule rfl (.tmp 62) (.tmp 66) rfl wr.heap.size _ _ rfl HO2.out _ _ _ _ rfl (HDr.out.below hb2) (rules_one _) ?c3 ?c4 hz2 ?_)
            case c3 => (try unfold maxLen); (try simp); omega
            case c4 => (try simp); omega
            intro v3 w3 hO3 hb3
            have HO3 := Lib.hid hO3
            clear hO3
            go_wp2_with fail
            go_ret2
            obtain ⟨A4, c4, rfl, hR4⟩ := Owns.rules (l := l.take j ++ l.drop (j + 1)) (by simpa using HO3.out)
            rw [HF.out, HV.out]
            exact ⟨_, _, rfl, hR4, HBl.out.trans ((hb2.trans hb3).mono (Nat.le_trans (Nat.le_of_lt hs0) hwr))⟩
end Go.Proofs.YtpkcdfgjcodidaaDoor
