/- What package table comes to. -/
import Derived.Test.YtpjadjoekdcjiaaRules
import Derived.Deep.RegionLaw
import Derived.Deep.MidRow
import Derived.Lib.LazyBuf
namespace Go.Proofs.Ytpjadjoekdcjiaa
open Go.RowKit
set_option linter.unusedSimpArgs false
set_option linter.unusedVariables false

theorem Rl.ext_iff' (x y : Rl) : x = y ↔ x.p = y.p ∧ x.m = y.m ∧ x.b = y.b ∧ x.o = y.o ∧ x.s = y.s ∧ x.v = y.v := by
  cases x; cases y; simp
/-- '==' of two rules, as the model runs it -/
theorem run_eql_rule (x y : Rl) (w : World) : (binOp .eql 36 (.agg #[.int .i64 x.p, .int .i64 x.m, .int .i64 x.b, .int .i64 x.o, .int .i64 x.s, .int .i64 x.v]) (.agg #[.int .i64 y.p, .int .i64 y.m, .int .i64 y.b, .int .i64 y.o, .int .i64 y.s, .int .i64 y.v])).run Try.prog w = .ok (.bool (decide (x = y))) w := by
  rw [run_eql_struct]
  simp [go_sem]
  by_cases e : x = y
  · subst e; simp
  · rw [decide_eq_false e]
    have h := mt (Rl.ext_iff' x y).2 e
    (repeat' split) <;> first | rfl | (exfalso; simp_all)
theorem run_neq_rule (x y : Rl) (w : World) : (binOp .neq 36 (.agg #[.int .i64 x.p, .int .i64 x.m, .int .i64 x.b, .int .i64 x.o, .int .i64 x.s, .int .i64 x.v]) (.agg #[.int .i64 y.p, .int .i64 y.m, .int .i64 y.b, .int .i64 y.o, .int .i64 y.s, .int .i64 y.v])).run Try.prog w = .ok (.bool (!decide (x = y))) w := by
  rw [run_neq_struct]
  simp [go_sem]
  by_cases e : x = y
  · subst e; simp
  · rw [decide_eq_false e]
    have h := mt (Rl.ext_iff' x y).2 e
    (repeat' split) <;> first | rfl | (exfalso; simp_all)

set_option maxRecDepth 100000 in
set_option maxHeartbeats 800000 in
theorem tindex_any (A : Option Addr) (cp : Nat) (l : List Rl) (r : Rl) (w : World) (h : Rules w A cp l) (hl : l.length ≤ 4294967296) :
    Calls Try.prog 29 #[.slice A l.length cp, .agg #[.int .i64 r.p, .int .i64 r.m, .int .i64 r.b, .int .i64 r.o, .int .i64 r.s, .int .i64 r.v]] w fun e w' => e = .returned (.int .i64 (fidx (fun x => decide (r = x)) l)) ∧ Below w.heap.size w w' := by
  have H := Lib.hid h
  clear h
  go_enter Try.func29, Try.ntmps29
  go_wp2_with fail
  have hst : ∀ W, Below (w.heap.size + 1) (w.alloc (.cells #[.int .i64 r.p, .int .i64 r.m, .int .i64 r.b, .int .i64 r.o, .int .i64 r.s, .int .i64 r.v] 36)) W →
      W.cell? ⟨w.heap.size, 0, none⟩ = some (.int .i64 r.p) ∧ W.cell? ⟨w.heap.size, 1, none⟩ = some (.int .i64 r.m) ∧ W.cell? ⟨w.heap.size, 2, none⟩ = some (.int .i64 r.b) ∧ W.cell? ⟨w.heap.size, 3, none⟩ = some (.int .i64 r.o) ∧ W.cell? ⟨w.heap.size, 4, none⟩ = some (.int .i64 r.s) ∧ W.cell? ⟨w.heap.size, 5, none⟩ = some (.int .i64 r.v) := fun W hW =>
    have c := fun i => hW.cell (p := ⟨w.heap.size, i, none⟩) (by simp)
    ⟨(c 0).trans (by simp [go_sem]), (c 1).trans (by simp [go_sem]), (c 2).trans (by simp [go_sem]), (c 3).trans (by simp [go_sem]), (c 4).trans (by simp [go_sem]), (c 5).trans (by simp [go_sem])⟩
  have HST := Lib.hid hst
  clear hst
  go_loopw [8] (fun i wr => ∃ k : Nat, k ≤ l.length ∧ i = .int .i64 k ∧ Below (w.heap.size + 1) (w.alloc (.cells #[.int .i64 r.p, .int .i64 r.m, .int .i64 r.b, .int .i64 r.o, .int .i64 r.s, .int .i64 r.v] 36)) wr ∧ Hid (∀ j (hj : j < l.length), j < k → decide (r = l[j]) = false)) (fun i _ => l.length - (intOf i).toNat)
  case atStart => exact ⟨0, by omega, rfl, Below.refl _ _, fun j _ hj => absurd hj (by omega)⟩
  case round =>
    obtain ⟨k, hk, rfl, hbel, hno⟩ := hrel
    have hwr := hbel.size
    simp at hwr
    have hb0 : Below w.heap.size w wr := ((Below.refl _ _).alloc (Nat.le_refl _) _).trans (hbel.mono (by omega))
    by_cases hlt : k < l.length
    · obtain ⟨b, o, rfl, hb, c0, c1, c2, c3, c4, c5⟩ := (H.out.below hb0).at_ hlt
      obtain ⟨d0, d1, d2, d3, d4, d5⟩ := HST.out wr hbel
      have i0 : (0 : Int) ≤ (k : Int) := by omega
      have i1 : (k : Int) < (l.length : Int) := by omega
      have hlw : w.heap.size < wr.heap.size := by omega
      have hrun := run_eql_rule r l[k]
      by_cases he : r = l[k]
      · have HX := Lib.hid (fidx_found (p := fun x => decide (r = x)) hlt (decide_eq_true he) fun j hj => hno.out j (by omega) hj)
        rw [decide_eq_true he] at hrun
        clear he
        go_wp2_with fail
        refine wp_region_below (by kernel_rfl) (by kernel_rfl) ?_
        repeat (go_big_quiet_step (fail))
        refine wpQuiet_nil ?_
        intro w2 hb2
        go_wp2_with fail
        go_ret
        exact ⟨by rw [HX.out]; rfl, hb0.trans (hb2.mono (by omega))⟩
      · have HX := Lib.hid (fun j (hj : j < l.length) (hjk : j < k + 1) => show decide (r = l[j]) = false from if e : j < k then hno.out j hj e else (by obtain rfl : j = k := (by omega); exact decide_eq_false he))
        rw [decide_eq_false he] at hrun
        clear he
        go_wp2_with fail
        refine wp_region_below (by kernel_rfl) (by kernel_rfl) ?_
        repeat (go_big_quiet_step (fail))
        refine wpQuiet_nil ?_
        intro w2 hb2
        go_wp2_with fail
        go_roundw
        case rel => exact ⟨k + 1, by omega, by go_num, hbel.trans (hb2.mono (by omega)), HX.out⟩
        case measure => simp [intOf]; omega
    · have HX := Lib.hid (fidx_none (p := fun x => decide (r = x)) fun j hj => hno.out j hj (by omega))
      go_wp2_with fail
      go_ret
      exact ⟨by rw [HX.out]; rfl, hb0⟩

/-! ### rows of rules of the call's own -/
theorem el_rule : Elem Try.prog 38 36 6 48 := elem_of (z := .agg #[.int .i64 0, .int .i64 0, .int .i64 0, .int .i64 0, .int .i64 0, .int .i64 0]) Try.underlying38 (by kernel_rfl) rfl (by omega)
theorem rules_one (l : List Rl) : ∀ cs ∈ l.map Rl.cells, ∀ u ∈ cs, u.oneCell' = true := by
  intro cs hcs
  obtain ⟨x, -, rfl⟩ := List.mem_map.1 hcs
  simp [Rl.cells, Value.oneCell']
def RetRules (l : List Rl) (w : World) (e : Ending) (w' : World) : Prop := ∃ v, e = .returned v ∧ Owns w' w.heap.size 36 6 v (l.map Rl.cells) ∧ Below w.heap.size w w'
theorem Owns.rules {w : World} {base e : Nat} {v : Value} {l : List Rl} (h : Owns w base e 6 v (l.map Rl.cells)) : ∃ A c, v = .slice A l.length c ∧ Rules w A c l := by
  obtain ⟨A, c, rfl, hr⟩ := h.row
  rw [List.length_map] at hr ⊢
  exact ⟨A, c, rfl, hr⟩
theorem trun_nil (a : Option Addr) (n c : Nat) (w : World) : (binOp .eql 38 (.slice a n c) (.slice none 0 0)).run Try.prog w = .ok (.bool a.isNone) w := Lib.run_eql_slice_nil w _ _ a n c 0 0 Try.underlying38

set_option maxRecDepth 100000 in
set_option maxHeartbeats 400000 in
theorem tclone_any (A : Option Addr) (cp : Nat) (l : List Rl) (w : World) (h : Rules w A cp l) (hl : l.length ≤ 65536) :
    Calls Try.prog 27 #[.slice A l.length cp] w (RetRules l w) := by
  have H := Lib.hid h
  cases A with
  | none =>
    have hrun := trun_nil none 0 cp
    have h0 : l = [] := by
      rcases Nat.eq_zero_or_pos l.length with h0 | h0
      · exact List.eq_nil_of_length_eq_zero h0
      · obtain ⟨b, o, e, -⟩ := h.2.2.2 h0; cases e
    subst h0
    clear h
    show Calls Try.prog 27 #[.slice none 0 cp] w _
    go_enter Try.func27, Try.ntmps27
    simp only [Option.isNone] at hrun
    go_wp2_with fail
    go_ret
    exact ⟨_, rfl, Owns.nil_ _ _ _ _, by go_grown⟩
  | some a =>
    have hrun := trun_nil (some a) l.length cp
    clear h
    go_enter Try.func27, Try.ntmps27
    simp only [Option.isNone] at hrun
    go_wp2_with (at_builtin; refine wpList_extend el_rule rfl (.tmp 5) (.tmp 6) rfl w.heap.size _ [] rfl (Owns.made rfl rfl (Nat.le_refl _) rfl (by simp) (by simp [maxLen])) (some a) _ cp (l.map Rl.cells) rfl (H.out.below (by go_grown)) (rules_one _) ?c1 ?c2 ?c3 ?_)
    case c1 => simp [maxLen]; omega
    case c2 => simp; omega
    case c3 => simp
    intro v' w2 hO hB
    go_wp2_with fail
    go_ret
    exact ⟨_, rfl, by simpa using hO, ((Below.refl _ _).alloc (Nat.le_refl _) _).trans hB⟩

/-! ### slices.Delete of one rule, in a row of the call's own -/
def zrule : List Value := List.replicate 6 (.int .i64 0)
theorem run_clear_rule (w : World) (ty : TypeId) (b o c : Nat) (hc : ∀ j, j < 6 → (w.cell? ⟨b, o + j, none⟩).isSome = true) (hf : ∀ j, j < 6 → w.frozen? ⟨b, o + j, none⟩ = false) :
    (Builtin.clear_ #[38] ty #[.slice (some ⟨b, o, none⟩) 1 c]).run Try.prog w = .ok (.tuple #[]) (w.setCells b o zrule) := by
  have hv : ∀ w, (zeroValue 36).run Try.prog w = .ok (.agg #[.int .i64 0, .int .i64 0, .int .i64 0, .int .i64 0, .int .i64 0, .int .i64 0]) w := by
    intro w
    have h : (Try.prog.info? 36).map (fun i => i.zero) = some (some (.agg #[.int .i64 0, .int .i64 0, .int .i64 0, .int .i64 0, .int .i64 0, .int .i64 0])) := by kernel_rfl
    obtain ⟨i, hi, hz⟩ := Option.map_eq_some_iff.1 h
    simp [zeroValue, typeInfo, hi, hz]
  have hst := run_storeCells_cells (P := Try.prog) b o zrule 0 w (by simpa [zrule] using hc) (by simpa [zrule] using hf) (by intro v hv'; rw [List.eq_of_mem_replicate hv']; rfl)
  simp only [Nat.add_zero] at hst
  have hzc : (Builtin.zeroCells (Value.agg #[.int .i64 0, .int .i64 0, .int .i64 0, .int .i64 0, .int .i64 0, .int .i64 0]).cells 1).toList = zrule := by kernel_rfl
  simp [Builtin.clear_, run_underlying Try.underlying38, hv, hzc, hst]

theorem RowC.flat {w : World} {k g n c : Nat} {xs : List (List Value)} (h : RowC w k (some ⟨g, 0, none⟩) n c xs) (hk : 0 < k) : ∀ t u, xs.flatten[t]? = some u → w.cell? ⟨g, t, none⟩ = some u := by
  intro t u hu
  have hjl : t < xs.flatten.length := (List.getElem?_eq_some_iff.1 hu).1
  rw [flatten_length h.2.2.1] at hjl
  have hq : t / k < xs.length := (Nat.div_lt_iff_lt_mul hk).2 hjl
  obtain ⟨b, o, e, hlt, hc⟩ := h.2.2.2 (h.1 ▸ Nat.lt_of_le_of_lt (Nat.zero_le _) hq)
  cases e
  have hcs := List.getElem?_eq_getElem hq
  have hlen := h.2.2.1 _ (List.getElem_mem hq)
  have hr : t % k < xs[t / k].length := by rw [hlen]; exact Nat.mod_lt _ hk
  have he : t / k * k + t % k = t := by rw [Nat.mul_comm]; exact Nat.div_add_mod t k
  have h4 := flatten_at h.2.2.1 hcs (List.getElem?_eq_getElem hr)
  rw [he, hu] at h4
  have h5 := hc _ _ hcs _ _ (List.getElem?_eq_getElem hr)
  rw [← h4, Nat.zero_add, he] at h5
  exact h5
theorem RowC.ofFlat {w : World} {k g n c : Nat} {xs : List (List Value)} (hl : xs.length = n) (hn : n ≤ c) (hk : ∀ cs ∈ xs, cs.length = k) (hg : g < w.heap.size) (h : ∀ t u, xs.flatten[t]? = some u → w.cell? ⟨g, t, none⟩ = some u) : RowC w k (some ⟨g, 0, none⟩) n c xs :=
  ⟨hl, hn, hk, fun _ => ⟨g, 0, rfl, hg, fun i cs hi j u hu => by rw [Nat.zero_add]; exact h _ _ (flatten_at hk hi hu)⟩⟩
theorem cells6 (l : List Rl) : ∀ cs ∈ l.map Rl.cells, cs.length = 6 := by
  intro cs hcs
  obtain ⟨x, -, rfl⟩ := List.mem_map.1 hcs
  rfl
def rflat (l : List Rl) : List Value := (l.map Rl.cells).flatten
theorem rflat_length (l : List Rl) : (rflat l).length = l.length * 6 := by unfold rflat; rw [flatten_length (cells6 l), List.length_map]
theorem rflat_append (a b : List Rl) : rflat (a ++ b) = rflat a ++ rflat b := by simp [rflat]
end Go.Proofs.Ytpjadjoekdcjiaa
