/- How many ops of a round an agent has heard: a walk. -/
import Derived.Test.YtgfleiknigjnbaaDoorDenDoor
import Derived.Test.YtgfleiknigjnbaaDoorQuiet
import Derived.Test.YtgfleiknigjnbaaDoorPlain
namespace Go.Proofs.YtgfleiknigjnbaaDoor.Den
open Go Go.RowKit Go.Proofs.YtgfleiknigjnbaaDoor
set_option linter.unusedSimpArgs false
set_option linter.unusedVariables false
set_option maxRecDepth 100000

theorem heard_out (b : Nat) (i : Int) (h : i < 0 ∨ 20 ≤ i) (w : World) : Calls Tryd.prog 10 #[.pointer (some ⟨b, 0, none⟩), .int .i64 i] w fun e w' => e = .returned (.int .i64 0) ∧ Below w.heap.size w w' := by
  go_enter Tryd.func10, Tryd.ntmps10
  go_wp2
  all_goals go_ret
  all_goals first | exact ⟨rfl, by go_grown⟩ | (exfalso; go_light; (try simp only [Bool.not_eq_true', Bool.not_eq_false', decide_eq_false_iff_not, decide_eq_true_eq, bne_iff_ne, ne_eq, bne_eq_false_iff_eq, beq_iff_eq, beq_eq_false_iff_ne, Bool.and_eq_true, Bool.or_eq_true, Bool.not_true, Bool.not_false, Bool.not_eq_true, Bool.false_eq_true, hdr_iff, hdr_not, false_iff, true_iff, iff_false, iff_true] at *); omega)
theorem heard_in (b m : Nat) (i : Int) (h0 : 0 ≤ i) (h1 : i < 20) (w : World) (cs : Array Value) (ty : TypeId) (fz : Nat × Nat) (es : Array MapEntry) (clk : Nat) (hb : w.heap[b]? = some (.cells cs ty fz)) (hc : cs[2 + i.toNat * 3]? = some (.map (some m))) (hm : w.heap[m]? = some (.map es clk)) :
    Calls Tryd.prog 10 #[.pointer (some ⟨b, 0, none⟩), .int .i64 i] w fun e w' => e = .returned (.int .i64 es.size) ∧ Below w.heap.size w w' := by
  have hcell : w.cell? ⟨b, 2 + i.toNat * 3, none⟩ = some (.map (some m)) := by
    simp only [World.cell?, hb]
    exact hc
  have hlen : (Builtin.len_ #[90] 3 #[Value.map (some m)]).run Tryd.prog w = .ok (.int .i64 es.size) w := by
    have hu : Tryd.prog.underlying 90 = some (.map 3 37) := by kernel_rfl
    simp [Builtin.len_, run_underlying hu, goInt, MapKept.run_getObj_map hm]
  go_enter Tryd.func10, Tryd.ntmps10
  go_wp2
  all_goals go_ret
  all_goals exact ⟨rfl, by go_grown⟩
/-- the same, as what is looked at -/
def semL_Heard (xs : List V) : Option V := match xs with
  | [.obj l, .lit (.int .i64 i)] => if i < 0 ∨ 20 ≤ i then some (.lit (.int .i64 0)) else (l[2 + i.toNat * 3]?).bind lenM
  | _ => none
theorem okL_Heard : LSemOk Tryd.prog DW 10 semL_Heard := fun xs y h => by
  unfold semL_Heard at h
  split at h
  rotate_left
  · cases h
  rename_i l i
  refine ⟨⟨_, Tryd.func10, by kernel_rfl, by kernel_rfl⟩, fun w M hp F vs hd hM hhp hsz hrel => ?_⟩
  have h0 := hrel 0 _ rfl
  have h1 := hrel 1 _ rfl
  have hv1 : vs.getD 1 undef = .int .i64 i := by
    generalize vs.getD 1 undef = u at h1
    cases h1 with
    | pure _ _ _ h => exact (rel_lit h).1
  have hvs : vs = #[vs.getD 0 undef, .int .i64 i] := by
    rw [← hv1]
    simp only [List.length_cons, List.length_nil] at hsz
    apply Array.ext
    · simp [hsz]
    · intro j hj1 hj2
      have : j = 0 ∨ j = 1 := by omega
      rcases this with rfl | rfl <;> simp [Array.getD, hsz]
  rw [hvs]
  generalize vs.getD 0 undef = v0 at h0
  cases h0 with
  | pure _ _ _ h => exact absurd h rel_obj
  | obj _ b cs ty fz hfz _ Fi hb hh hs ho hr sub dis =>
    have hblk := (hhp b _ hh).1
    by_cases hc : i < 0 ∨ 20 ≤ i
    · rw [if_pos hc] at h
      obtain rfl := Option.some.inj h
      exact (heard_out b i hc w).mono fun e w' ⟨he, hw⟩ => ⟨_, M, he, ⟨hw, fun _ _ _ h => h, fun b o u hu => by rw [hw.cell (mem_lt hM hu)]; exact hM b o u hu, fun _ _ _ h _ => h⟩, .lit _ rfl⟩
    · rw [if_neg hc] at h
      obtain ⟨x, hx, h⟩ := Option.bind_eq_some_iff.1 h
      unfold lenM at h
      split at h
      rotate_left
      · cases h
      rename_i l'
      obtain rfl := Option.some.inj h
      have hT := hr _ _ hx
      have hlt : 2 + i.toNat * 3 < cs.size := by rw [hs]; exact (List.getElem?_eq_some_iff.1 hx).1
      have hg : cs.getD (2 + i.toNat * 3) undef = cs[2 + i.toNat * 3] := by simp [Array.getD, hlt]
      rw [hg] at hT
      generalize hu : cs[2 + i.toNat * 3] = u at hT
      cases hT with
      | pure _ _ _ h => exact absurd h rel_mp
      | mp _ m es clk _ hm1 hm2 hm3 =>
        have e4 : es.size = l'.length := by rw [← hm3]; simp [pairs]
        refine (heard_in b m i (by omega) (by omega) w cs ty fz es clk hblk (by rw [Array.getElem?_eq_getElem hlt, hu]) (hhp m _ hm2).1).mono fun e w' ⟨he, hw⟩ => ?_
        refine ⟨_, M, he, ⟨hw, fun _ _ _ h => h, fun b o u hu => by rw [hw.cell (mem_lt hM hu)]; exact hM b o u hu, fun _ _ _ h _ => h⟩, ?_⟩
        rw [e4]
        exact .lit _ rfl
end Go.Proofs.YtgfleiknigjnbaaDoor.Den
