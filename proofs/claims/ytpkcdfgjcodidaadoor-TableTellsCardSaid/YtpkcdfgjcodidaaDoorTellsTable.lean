/- What TableTells reckons, in plain Lean; the contracts in the forms that its walk wants. -/
import Derived.Test.YtpkcdfgjcodidaaDoorRoom
import Derived.Deep.DeepCutAuto
import Derived.Deep.CutBlock
import Derived.Test.YtpkcdfgjcodidaaDoorRefTable3
import Derived.Test.YtpkcdfgjcodidaaDoorTablePlain
namespace Go.Proofs.YtpkcdfgjcodidaaDoor
open Go.RowKit
set_option maxRecDepth 100000
set_option linter.unusedSimpArgs false
set_option linter.unusedVariables false

def wantE (t : List Rl) (r : Rl) : Int := if tchk t = 0 then r.chk else tchk t
theorem want_0 {t : List Rl} {r : Rl} (h : wantE t r = 0) : tchk t = 0 ∧ r.chk = 0 := by
  unfold wantE at h
  by_cases hz : tchk t = 0
  · rw [if_pos hz] at h; exact ⟨hz, h⟩
  · rw [if_neg hz] at h; exact absurd h hz
theorem tdoF_want {t : List Rl} {add : Bool} {r : Rl} (h : wantE t r ≠ 0) : tdoF t add r = wantE t r := by
  unfold wantE at *
  unfold tdoF
  by_cases hz : tchk t = 0
  · rw [if_pos hz] at *; rw [if_neg (by simpa using hz), if_pos h]
  · rw [if_neg hz]; rw [if_pos hz]
theorem tdoF_0 {t : List Rl} {add : Bool} {r : Rl} (h : tdoF t add r = 0) : tchk t = 0 ∧ r.chk = 0 := by
  by_cases hw : wantE t r = 0
  · exact want_0 hw
  · rw [tdoF_want hw] at h; exact absurd h hw
theorem tdo_tok {t : List Rl} {add : Bool} {r : Rl} (h : tdoF t add r = 0) : tchk (tdoR t add r) = 0 := by
  cases add with
  | true => exact tchk_iff.2 (tdo_add_tok h)
  | false => exact tchk_iff.2 ((tchk_iff.1 (tdoF_0 h).1).sub (by unfold tdoR; rw [if_neg (by simp)]; exact List.eraseIdx_sublist _ _))
theorem tallV_of (t : List Rl) (l : List Opx) : tallV t l = if tallE t l = 0 then tallR t l else [] := by
  unfold tallV tallE
  by_cases hz : tchk t = 0
  · simp [hz]
  · rw [if_neg (by simp [hz]), if_pos hz, if_neg hz]
/-- where the ops stand behind k of them: what is wrong so far, the table so far -/
def AInv (t : List Rl) (l : List Opx) (F : Int) (T : List Rl) (k : Nat) : Prop :=
  (F = 0 ∧ tchk T = 0 ∧ tallE t l = tallF T (l.drop k) ∧ tallR t l = tallR T (l.drop k)) ∨ (F ≠ 0 ∧ tallE t l = F)
theorem AInv.start (t : List Rl) (l : List Opx) : AInv t l (tchk t) t 0 := by
  by_cases h : tchk t = 0
  · exact .inl ⟨h, h, by unfold tallE; rw [if_neg (by simpa using h)]; rfl, rfl⟩
  · exact .inr ⟨h, by unfold tallE; rw [if_pos h]⟩
theorem AInv.good {t : List Rl} {l : List Opx} {T : List Rl} {k : Nat} (h : AInv t l 0 T k) : tchk T = 0 ∧ tallE t l = tallF T (l.drop k) ∧ tallR t l = tallR T (l.drop k) := by
  rcases h with ⟨-, h⟩ | ⟨h, -⟩
  · exact h
  · exact absurd rfl h
theorem AInv.bad {t : List Rl} {l : List Opx} {T : List Rl} {k : Nat} (hk : k < l.length) (h : AInv t l 0 T k) (hr : l[k].r.chk ≠ 0) : AInv t l l[k].r.chk T (k + 1) := by
  obtain ⟨h1, h2, -⟩ := h.good
  have e : tdoF T l[k].add l[k].r = l[k].r.chk := by
    have : wantE T l[k].r = l[k].r.chk := by unfold wantE; rw [if_pos h1]
    rw [tdoF_want (by rw [this]; exact hr), this]
  exact .inr ⟨hr, by rw [h2, tallF_step hk, if_pos (by rw [e]; exact hr), e]⟩
theorem AInv.next {t : List Rl} {l : List Opx} {T : List Rl} {k : Nat} (hk : k < l.length) (h : AInv t l 0 T k) : AInv t l (tdoF T l[k].add l[k].r) (tdoV T l[k].add l[k].r) (k + 1) := by
  obtain ⟨h1, h2, h3⟩ := h.good
  by_cases hz : tdoF T l[k].add l[k].r = 0
  · refine .inl ⟨hz, ?_, ?_, ?_⟩
    · rw [tdoV_ok hz]; exact tdo_tok hz
    · rw [h2, tallF_step hk, if_neg (by simpa using hz), tdoV_ok hz]
    · rw [h3, tallR_step hk, tdoV_ok hz]
  · exact .inr ⟨hz, by rw [h2, tallF_step hk, if_pos hz]⟩
theorem AInv.out {t : List Rl} {l : List Opx} {F : Int} {T : List Rl} {k : Nat} (h : AInv t l F T k) (hF : k = l.length ∨ F ≠ 0) : F = tallE t l ∧ (F = 0 → T = tallV t l) := by
  rcases h with ⟨h0, h1, h2, h3⟩ | ⟨h0, h1⟩
  · obtain rfl : k = l.length := hF.resolve_right (by simpa using h0)
    rw [List.drop_length] at h2 h3
    have : tallE t l = 0 := h2
    exact ⟨by rw [h0, this], fun _ => by rw [tallV_of, if_pos this]; exact h3.symm⟩
  · exact ⟨h1.symm, fun h => absurd h h0⟩

/-- the ops of a list that add -/
def adds (l : List Opx) : List Opx := l.filter (·.add)
theorem adds_tdiff (t o : List Rl) : adds (tdiff t o) = lacks o t true := by
  unfold adds tdiff
  rw [List.filter_append, lacks_eq, lacks_eq]
  simp [List.filter_map, Function.comp_def]
theorem adds_no {l : List Opx} {k : Nat} (hk : k < l.length) (h : l[k].add = false) : adds (l.take (k + 1)) = adds (l.take k) := by
  unfold adds; rw [List.take_succ_eq_append_getElem hk, List.filter_append]; simp [h]
theorem adds_yes {l : List Opx} {k : Nat} (hk : k < l.length) (h : l[k].add = true) : adds (l.take (k + 1)) = adds (l.take k) ++ [l[k]] := by
  unfold adds; rw [List.take_succ_eq_append_getElem hk, List.filter_append]; simp [h]
theorem adds_mem {l : List Opx} {k : Nat} (hk : k < l.length) (h : l[k].add = true) : l[k] ∈ adds l := List.mem_filter.2 ⟨List.getElem_mem hk, h⟩
theorem adds_le (l : List Opx) (k : Nat) : (adds (l.take k)).length ≤ k := Nat.le_trans (List.length_filter_le _ _) (List.length_take_le k l)
/-- what the room is reckoned to be, behind k ops -/
def RInv (t : List Rl) (l : List Opx) (E N : Int) (k : Nat) : Prop :=
  (E = 0 ∧ clash t (adds (l.take k)) = false ∧ N = (t.length : Int) + ((adds (l.take k)).length : Int)) ∨ (E = 7 ∧ clash t (adds l) = true)
theorem RInv.start (t : List Rl) (l : List Opx) : RInv t l 0 t.length 0 := .inl ⟨rfl, rfl, by simp [adds]⟩
theorem RInv.good {t : List Rl} {l : List Opx} {N : Int} {k : Nat} (h : RInv t l 0 N k) : clash t (adds (l.take k)) = false ∧ N = (t.length : Int) + ((adds (l.take k)).length : Int) := by
  rcases h with ⟨-, h⟩ | ⟨h, -⟩
  · exact h
  · omega
theorem RInv.no {t : List Rl} {l : List Opx} {N : Int} {k : Nat} (hk : k < l.length) (h : RInv t l 0 N k) (ha : l[k].add = false) : RInv t l 0 N (k + 1) := by
  obtain ⟨h1, h2⟩ := h.good
  exact .inl ⟨rfl, by rw [adds_no hk ha]; exact h1, by rw [adds_no hk ha]; exact h2⟩
def keyE (t : List Rl) (r : Rl) (j : Nat) : Int := if ((t.take j).any fun x => x.key r) = true then 7 else 0
theorem keyE_succ {t : List Rl} {r : Rl} {j : Nat} (hj : j < t.length) : keyE t r (j + 1) = if t[j].key r = true then 7 else keyE t r j := by
  unfold keyE
  rw [List.take_succ_eq_append_getElem hj, List.any_append]
  cases h : t[j].key r <;> simp [h]
theorem RInv.yes {t : List Rl} {l : List Opx} {N : Int} {k : Nat} (hk : k < l.length) (h : RInv t l 0 N k) (ha : l[k].add = true) : RInv t l (keyE t l[k].r t.length) (N + 1) (k + 1) := by
  obtain ⟨h1, h2⟩ := h.good
  unfold keyE
  rw [List.take_length]
  cases hy : t.any fun x => x.key l[k].r with
  | true => exact .inr ⟨by simp, List.any_eq_true.2 ⟨l[k], adds_mem hk ha, hy⟩⟩
  | false =>
    refine .inl ⟨by simp, ?_, ?_⟩
    · rw [adds_yes hk ha]
      unfold clash at *
      rw [List.any_append, h1]
      simpa using hy
    · rw [adds_yes hk ha, h2]; simp; omega
theorem RInv.out {t o : List Rl} {E N : Int} {k : Nat} (hz : t2chk t o = 0) (h : RInv t (tdiff t o) E N k) (hE : k = (tdiff t o).length ∨ E ≠ 0) : E = roomE t o ∧ (E = 0 → N = roomN t o) := by
  have e1 : roomE t o = if clash t (lacks o t true) = true then 7 else 0 := by unfold roomE; rw [if_neg (by simpa using hz)]
  rw [← adds_tdiff] at e1
  rcases h with ⟨h0, h1, h2⟩ | ⟨h0, h1⟩
  · obtain rfl : k = (tdiff t o).length := hE.resolve_right (by simpa using h0)
    rw [List.take_length] at h1 h2
    rw [h1] at e1
    have e2 : roomE t o = 0 := by rw [e1]; simp
    refine ⟨by rw [h0, e2], fun _ => ?_⟩
    unfold roomN
    rw [if_pos e2, ← adds_tdiff]
    exact h2
  · rw [h1] at e1
    exact ⟨by rw [h0, e1]; simp, fun h => by omega⟩
theorem tallV_le (t : List Rl) (l : List Opx) : (tallV t l).length ≤ 12 := by
  by_cases h : tallE t l = 0
  · have hh : ∀ (l : List Opx) (t : List Rl), tchk t = 0 → tallF t l = 0 → tchk (tallR t l) = 0 := by
      intro l
      induction l with
      | nil => intro t h _; exact h
      | cons x l ih =>
        intro t h1 h2
        have e : tallF t (x :: l) = if tdoF t x.add x.r ≠ 0 then tdoF t x.add x.r else tallF (tdoR t x.add x.r) l := rfl
        rw [e] at h2
        by_cases hx : tdoF t x.add x.r = 0
        · rw [if_neg (by simpa using hx)] at h2
          exact ih _ (tdo_tok hx) h2
        · rw [if_pos hx] at h2; exact absurd h2 hx
    have h0 : tchk t = 0 := by
      unfold tallE at h
      by_cases h1 : tchk t = 0
      · exact h1
      · rw [if_pos h1] at h; exact absurd h h1
    have hf : tallF t l = 0 := by unfold tallE at h; rwa [if_neg (by simpa using h0)] at h
    rw [tallV_of, if_pos h]
    exact tchk_len (hh l t h0 hf)
  · rw [tallV_of, if_neg h]; simp
def STabS (V : List Rl) (F : Int) (v : Value) : Prop := ∃ A c, v = .tuple #[.slice A V.length c, .int .i64 F]
def STabR (V : List Rl) (F : Int) (v : Value) (w : World) : Prop := ∀ A c, v = .tuple #[.slice A V.length c, .int .i64 F] → Rules w A c V
theorem STab_mono (V : List Rl) (F : Int) : LMono (STabS V F, STabR V F) := fun _ _ _ h hb A c e => (h A c e).below hb
theorem STab_call {P : Program} {f : FuncId} {args : Array Value} {W : World} {V : List Rl} {F : Int} (h : Calls P f args W (RetTI V F W)) :
    Calls P f args W fun e w'' => ∃ u, e = .returned u ∧ STabS V F u ∧ STabR V F u w'' ∧ Ext W w'' :=
  h.mono fun e w' ⟨A, c, he, hR, hb⟩ => ⟨_, he, ⟨A, c, rfl⟩, fun A' c' e' => by
    simp only [Value.tuple.injEq, Array.mk.injEq, List.cons.injEq, Value.slice.injEq, and_true, true_and] at e'
    obtain ⟨rfl, rfl⟩ := e'
    exact hR, hb⟩
theorem tdiff_le (t o : List Rl) : (tdiff t o).length ≤ t.length + o.length := by
  unfold tdiff; rw [List.length_append]
  have := lacks_le t o false
  have := lacks_le o t true
  omega
end Go.Proofs.YtpkcdfgjcodidaaDoor
