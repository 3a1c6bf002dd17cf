/- A reader of Go code in plain values: whole functions. -/
import Derived.Test.YtgkohnjpnnofhaaGreatDen11b
namespace Go.Proofs.YtgkohnjpnnofhaaGreat.Den
set_option linter.unusedSimpArgs false
set_option linter.unusedVariables false
set_option linter.unnecessarySimpa false
open Go.RowKit
inductive Ann where
 | no
 | reg (n : Nat) (seals softs rf : List Nat)
 | seq (a b : Ann)
 | cond (j : Option (List Ref)) (a b : Ann)
 | blk (j : Option (List Ref)) (a : Ann)
 | loop (rs : List Ref) (a : Ann)
def jslots : Option (List Ref) → List Nat
 | none => []
 | some rs => rs.flatMap Ref.slot
def dsts : Code → Ann → List Nat
 | .region _ ops _, .reg _ seals _ _ => seals ++ ops.toList.filterMap (·.dst)
 | .seq x y, .seq a b => dsts x a ++ dsts y b
 | .cond _ x y, .cond j a b => jslots j ++ (dsts x a ++ dsts y b)
 | .block _ x, .blk j a => jslots j ++ dsts x a
 | .loop x, .loop rs a => rs.flatMap Ref.slot ++ dsts x a
 | _, _ => []
def chk (P : Program) : Code → Ann → Bool
 | .region _ ops draw, .reg m _ _ _ => regOk P ops draw m
 | .seq x y, .seq a b => chk P x a && chk P y b
 | .cond _ x y, .cond _ a b => chk P x a && chk P y b
 | .block _ x, .blk _ a => chk P x a
 | .loop x, .loop _ a => chk P x a
 | _, _ => true
def condV (c : V) (X Y : Option V) : Option V := match c with
 | .lit (.bool t) => if t = true then X else Y
 | _ => none
abbrev Kont := St → Option V
def JoinPt (J : List V → Option V) (B : (List V → Option V) → Option V) : Option V := B J
noncomputable def joinK (P : Program) (j : Option (List Ref)) (st : St) (D : List Nat) (K : Kont) (B : Kont → Option V) : Option V := match j with
 | none => B K
 | some rs => JoinPt (fun vs => K (injectAll st D rs vs)) fun J => B fun st' => (proj P st rs st').bind J
def fixN (F : (List V → Option V) → List V → Option V) : Nat → List V → Option V
 | 0, _ => none
 | n + 1, vs => F (fixN F n) vs
noncomputable def den (P : Program) (env : FuncId → List V → Option V) (n : Nat) : Code → Ann → St → Kont → List (Nat × Kont) → Kont → Option V
 | .skip, _, st, K, _, _ => K st
 | .region _ ops draw, .reg m seals softs rf, st, K, _, _ => denRK P env ops draw m { softAll softs (sealAll seals st) with rf := rf } fun st' => K { st' with nx := st.nx + ops.size }
 | .seq x y, .seq a b, st, K, ks, kr => den P env n x a st (fun st' => den P env n y b st' K ks kr) ks kr
 | .cond c x y, .cond j a b, st, K, ks, kr => joinK P j st (jslots j ++ (dsts x a ++ dsts y b)) K fun K' => condV (st.rd c) (den P env n x a st K' ks kr) (den P env n y b st K' ks kr)
 | .block id x, .blk j a, st, K, ks, kr => joinK P j st (jslots j ++ dsts x a) K fun K' => den P env n x a st K' ((id, K') :: ks) kr
 | .loop x, .loop rs a, st, K, ks, kr => (proj P st rs st).bind fun vs =>
   fixN (fun rec vs => den P env n x a (injectAll st (rs.flatMap Ref.slot ++ dsts x a) rs vs) (fun st' => (proj P st rs st').bind rec) ks kr) n vs
 | .exit id, _, st, _, ks, _ => match ks.lookup id with
  | some k => k st
  | none => none
 | .ret, _, st, _, _, kr => kr st
 | _, _, _, _, _, _ => none
section
variable {P : Program} {Dw : World → Prop} {F0 : Par} {env : FuncId → List V → Option V} {base : Nat} {M0 : Mem} {w0 w : World} {N : Nat} {g : Ghost} {st : St} {a : Act} {o : Oper} {s : Nat} {ops : Array Oper}
theorem exists_min {p : Nat → Prop} (h : ∃ m, p m) : ∃ m, p m ∧ ∀ k, p k → m ≤ k := by
 obtain ⟨m, hm⟩ := h
 induction m using Nat.strongRecOn with
 | _ m ih =>
  by_cases h : ∃ k, k < m ∧ p k
  ·obtain ⟨k, hk, hp⟩ := h; exact ih k hk hp
  ·exact ⟨m, hm, fun k hk => Nat.le_of_not_lt fun hlt => h ⟨k, hlt, hk⟩⟩
theorem wpmono {c : Code} {Q Q' : Exit → Act → World → Prop} {a : Act} {w : World} (h : c.wp P Q a w) (hq : ∀ e a w, Q e a w → Q' e a w) : c.wp P Q' a w := wp_mono h hq
theorem softAll_nx : ∀ (ts : List Nat) (st : St), (softAll ts st).nx = st.nx
 | [], _ => rfl
 | t :: ts, st => by rw [show softAll (t :: ts) st = softAll ts (softAt t st) from rfl, softAll_nx ts, softAt_nx]
theorem sealAll_nx : ∀ (ts : List Nat) (st : St), (sealAll ts st).nx = st.nx
 | [], _ => rfl
 | t :: ts, st => by rw [show sealAll (t :: ts) st = sealAll ts (sealAt t st) from rfl, sealAll_nx ts, sealAt_nx]
theorem put_φ {dst : Option Nat} {c : C} {t : Nat} (h : dst ≠ some t) : (st.put dst c).φ t = st.φ t := by
 cases dst with
 | none => rfl
 | some d => exact upd_ne _ _ (fun e => h (by rw [e]))
theorem shT_φ {st' : St} (h : shT P env ops s st o = some st') {t : Nat} (ht : o.dst ≠ some t) : KeepC (st.φ t) (st'.φ t) := by
 unfold shT at h
 split at h
 ·unfold stepT at h
  split at h
  ·rename_i q hq
   subst h
   exact ownOp_keep hq ht
  split at h
  ·rename_i q hq
   subst h
   exact mOp_keep hq ht
  unfold stepT0 at h
  split at h
  ·unfold storeT at h
   split at h
   ·obtain ⟨z9, hz9, h9⟩ := oB_ h
    obtain ⟨l, hl, h1⟩ := oB_ h9
    obtain ⟨cs, hcs, h2⟩ := oB_ h1
    obtain ⟨k, hk, h3⟩ := oB_ h2
    obtain ⟨l', hl', e9⟩ := oM_ h3
    subst e9
    exact .inl (put_φ (st := { st with bx := _ }) ht)
   ·cases h
  ·split at h
   ·split at h
    ·unfold appendT at h
     obtain ⟨pp, hel, h1⟩ := oB_ h
     obtain ⟨rows, hrows, h2⟩ := oB_ h1
     obtain ⟨rows', happ, h3⟩ := oM_ h2
     subst h3
     exact .inl (put_φ (st := { st with rw := _ }) ht)
    ·cases h
   ·cases h
  ·obtain ⟨r, hr, rfl⟩ := oM_ h
   exact .inl (app_φ ht)
 ·split at h
  ·split at h
   ·unfold callGO at h
    obtain ⟨l, hl, h⟩ := oB_ h
    split at h
    rotate_left
    ·cases h
    obtain ⟨z, hz, h⟩ := oB_ h
    split at h
    ·cases h
    split at h
    ·cases h
    rename_i d hdst
    obtain ⟨y, hy, rfl⟩ := oM_ h
    rw [put_keep (by rw [← hdst]; exact ht)]
    exact killS_keep _ _
   ·cases h
  obtain ⟨r, hr, rfl⟩ := oM_ h
  exact .inl (app_φ ht)
theorem denH_keep {nx0 : Nat} : ∀ (l : List Oper) (k : Nat) (st st' : St), denH P env ops nx0 l k st = some st' → (∀ t, t ∉ l.filterMap (·.dst) → st'.φ t = st.φ t) ∧ ∀ s, nx0 + k + l.length ≤ s → Fresh st s → Fresh st' s
 | [], k, st, st', h => by
  simp only [denH, oE_] at h; subst h
  exact ⟨fun _ _ => rfl, fun _ _ h => h⟩
 | o :: l, k, st, st', h => by
  simp only [denH] at h
  obtain ⟨r, hr, h⟩ := oB_ h
  obtain ⟨h1, h2⟩ := denH_keep l (k + 1) _ st' h
  refine ⟨fun t ht => ?_, fun s hs hf => ?_⟩
  ·have hno : o.dst ≠ some t := fun e => ht (List.mem_filterMap.2 ⟨o, by simp, e⟩)
   rw [h1 t (fun h' => ht (by obtain ⟨q, hq, e⟩ := List.mem_filterMap.1 h'; exact List.mem_filterMap.2 ⟨q, by simp [hq], e⟩))]
   exact app_φ hno
  ·simp only [List.length_cons] at hs
   exact h2 s (by omega) (app_fresh hf (by omega) (shOp_site hr hf (by omega)))
theorem denT_keep {nx0 : Nat} : ∀ (l : List Oper) (k : Nat) (st st' : St), denT P env ops nx0 l k st = some st' → (∀ t, t ∉ l.filterMap (·.dst) → KeepC (st.φ t) (st'.φ t)) ∧ ∀ s, nx0 + k + l.length ≤ s → Fresh st s → Fresh st' s
 | [], k, st, st', h => by
  simp only [denT, oE_] at h; subst h
  exact ⟨fun _ _ => .inl rfl, fun _ _ h => h⟩
 | o :: l, k, st, st', h => by
  simp only [denT] at h
  obtain ⟨st1, hr, h⟩ := oB_ h
  obtain ⟨h1, h2⟩ := denT_keep l (k + 1) _ st' h
  refine ⟨fun t ht => ?_, fun s hs hf => ?_⟩
  ·have hno : o.dst ≠ some t := fun e => ht (List.mem_filterMap.2 ⟨o, by simp, e⟩)
   exact (shT_φ hr hno).trans (h1 t (fun h' => ht (by obtain ⟨q, hq, e⟩ := List.mem_filterMap.1 h'; exact List.mem_filterMap.2 ⟨q, by simp [hq], e⟩)))
  ·simp only [List.length_cons] at hs
   exact h2 s (by omega) (shT_fresh hr hf (by omega))
theorem denFl_keep {m : Bool} {nx0 : Nat} : ∀ (l : List Nat) (st st' : St), denFl P m ops nx0 l st = some st' → (∀ t, t ∉ ops.toList.filterMap (·.dst) → st'.φ t = st.φ t)
 | [], st, st', h => by
  obtain rfl := oJ_ h
  exact fun _ _ => rfl
 | i :: l, st, st', h => by
  simp only [denFl] at h
  split at h
  ·rename_i o ho
   split at h
   ·obtain ⟨c, hc, h⟩ := oB_ h
    intro t ht
    have hno : o.dst ≠ some t := fun e => ht (List.mem_filterMap.2 ⟨o, List.mem_of_getElem? (by rw [Array.getElem?_toList]; exact ho), e⟩)
    rw [denFl_keep l _ st' h t ht]
    exact app_φ hno
   ·split at h
    ·obtain ⟨y, hy, h⟩ := oB_ h
     intro t ht
     have hno : o.dst ≠ some t := fun e => ht (List.mem_filterMap.2 ⟨o, List.mem_of_getElem? (by rw [Array.getElem?_toList]; exact ho), e⟩)
     rw [denFl_keep l _ st' h t ht]
     exact app_φ hno
    ·cases h
  ·cases h
theorem denTl_keep {nx0 : Nat} : ∀ (l : List Nat) (st st' : St), denTl P env ops nx0 l st = some st' → (∀ t, t ∉ ops.toList.filterMap (·.dst) → KeepC (st.φ t) (st'.φ t)) ∧ ∀ s, nx0 + ops.size ≤ s → Fresh st s → Fresh st' s
 | [], st, st', h => by
  obtain rfl := oJ_ h
  exact ⟨fun _ _ => .inl rfl, fun _ _ h => h⟩
 | i :: l, st, st', h => by
  simp only [denTl] at h
  split at h
  ·rename_i o ho
   have hlt := (Array.getElem?_eq_some_iff.1 ho).1
   obtain ⟨st1, hr, h⟩ := oB_ h
   obtain ⟨h1, h2⟩ := denTl_keep l st1 st' h
   refine ⟨fun t ht => ?_, fun s hs hf => ?_⟩
   ·have hno : o.dst ≠ some t := fun e => ht (List.mem_filterMap.2 ⟨o, List.mem_of_getElem? (by rw [Array.getElem?_toList]; exact ho), e⟩)
    exact (shT_φ hr hno).trans (h1 t ht)
   ·exact h2 s hs (shT_fresh hr hf (by omega))
  ·cases h
theorem denR_keep {draw : Bool} {n : Nat} {st' : St} (hB : regOk P ops draw n = true) (h : denR P env ops draw n st = some st') : (∀ t, t ∉ ops.toList.filterMap (·.dst) → KeepC (st.φ t) (st'.φ t)) ∧ ∀ s, st.nx + ops.size ≤ s → Fresh st s → Fresh st' s := by
 unfold denR at h
 cases draw with
 | true =>
  simp only at h
  by_cases hnn : n ≤ ops.size
  rotate_left
  ·rw [decide_eq_false hnn] at h
   simp only at h
   obtain ⟨st1, h1, h2⟩ := oB_ h
   have a1 := denFl_keep _ _ _ h1
   obtain ⟨b1, b2⟩ := denTl_keep _ _ _ h2
   refine ⟨fun t ht => ?_, fun s hs hf => ?_⟩
   ·rw [← a1 t ht]; exact b1 t ht
   ·exact b2 s hs (denFl_fresh _ _ _ h1 hf)
  rw [decide_eq_true hnn] at h
  simp only at h
  obtain ⟨st1, h1, h2⟩ := oB_ h
  obtain ⟨a1, a2⟩ := denH_keep _ _ _ _ h1
  obtain ⟨b1, b2⟩ := denT_keep _ _ _ _ h2
  have hn : n ≤ ops.size := hnn
  refine ⟨fun t ht => ?_, fun s hs hf => ?_⟩
  ·rw [← a1 t (fun h' => ht (by obtain ⟨q, hq, e⟩ := List.mem_filterMap.1 h'; exact List.mem_filterMap.2 ⟨q, List.mem_of_mem_take hq, e⟩))]
   exact b1 t (fun h' => ht (by obtain ⟨q, hq, e⟩ := List.mem_filterMap.1 h'; exact List.mem_filterMap.2 ⟨q, List.mem_of_mem_drop hq, e⟩))
  ·exact b2 s (by simp; omega) (a2 s (by simp; omega) hf)
 | false =>
  simp only at h
  obtain ⟨b1, b2⟩ := denT_keep _ _ _ _ h
  exact ⟨b1, fun s hs hf => b2 s (by simp; omega) hf⟩
def PostC (P : Program) (Dw : World → Prop) (F0 : Par) (base : Nat) (M0 : Mem) (w0 : World) (N : Nat) (y : V) (K : Kont) (ks : List (Nat × Kont)) (kr : Kont) (st : St) (D : List Nat) : Exit → Act → World → Prop
 | .normal, a, w => ∃ g st', Sim P Dw F0 base M0 w0 N g st' a w ∧ FreshFrom st' ∧ Fr D st st' ∧ K st' = some y
 | .exit id, a, w => ∃ g st' k, Sim P Dw F0 base M0 w0 N g st' a w ∧ FreshFrom st' ∧ Fr D st st' ∧ ks.lookup id = some k ∧ k st' = some y
 | .ret, a, w => ∃ g st', Sim P Dw F0 base M0 w0 N g st' a w ∧ FreshFrom st' ∧ kr st' = some y
 | _, _, _ => False
theorem Fr.trans {D : List Nat} {a b c : St} (h : Fr D a b) (h2 : Fr D b c) : Fr D a c := fun t ht => (h t ht).trans (h2 t ht)
theorem Fr.mono {D D' : List Nat} {a b : St} (h : Fr D a b) (hD : ∀ t, t ∈ D → t ∈ D') : Fr D' a b := fun t ht => h t (fun h' => ht (hD t h'))
theorem PostC.mono {y : V} {K K' : Kont} {ks ks' : List (Nat × Kont)} {kr : Kont} {st0 st1 : St} {D D' : List Nat} (hfr : Fr D' st0 st1) (hD : ∀ t, t ∈ D → t ∈ D')
  (hK : ∀ g st' a w, Sim P Dw F0 base M0 w0 N g st' a w → FreshFrom st' → Fr D' st0 st' → K st' = some y → PostC P Dw F0 base M0 w0 N y K' ks' kr st0 D' .normal a w)
  (hks : ∀ id g st' k a w, Sim P Dw F0 base M0 w0 N g st' a w → FreshFrom st' → Fr D' st0 st' → ks.lookup id = some k → k st' = some y → PostC P Dw F0 base M0 w0 N y K' ks' kr st0 D' (.exit id) a w) :
  ∀ e a w, PostC P Dw F0 base M0 w0 N y K ks kr st1 D e a w → PostC P Dw F0 base M0 w0 N y K' ks' kr st0 D' e a w
 | .normal, a, w, ⟨g, st', h1, h2, h3, h4⟩ => hK g st' a w h1 h2 (hfr.trans (h3.mono hD)) h4
 | .exit id, a, w, ⟨g, st', k, h1, h2, h3, h4, h5⟩ => hks id g st' k a w h1 h2 (hfr.trans (h3.mono hD)) h4 h5
 | .ret, a, w, h => h
 | .goto _, _, _, h => h.elim
 | .panic _, _, _, h => h.elim
 | .outgrown, _, _, h => h.elim
theorem joinK_ok {y : V} {j : Option (List Ref)} {st0 : St} {D : List Nat} {K : Kont} {B : Kont → Option V} {ks : List (Nat × Kont)} {kr : Kont} (hF : FreshFrom st0) (hD : ∀ t, t ∈ jslots j → t ∈ D) (h : joinK P j st0 D K B = some y) :
  ∃ K', B K' = some y ∧ ∀ g st' a w, Sim P Dw F0 base M0 w0 N g st' a w → FreshFrom st' → Fr D st0 st' → K' st' = some y → PostC P Dw F0 base M0 w0 N y K ks kr st0 D .normal a w := by
 cases j with
 | none => exact ⟨K, h, fun g st' a w h1 h2 h3 h4 => ⟨g, st', h1, h2, h3, h4⟩⟩
 | some rs =>
  refine ⟨_, h, fun g st' a w h1 h2 h3 h4 => ?_⟩
  obtain ⟨vs, hp, hj⟩ := oB_ h4
  obtain ⟨g2, h5, h6⟩ := injectAll_ok h1 hF h3 hp
  exact ⟨g2, _, h5, h6, injectAll_fr hD, hj⟩
theorem den_ok (henv : EnvOk P Dw env) (n : Nat) (y : V) : ∀ (c : Code) (an : Ann) (st : St) (K : Kont) (ks : List (Nat × Kont)) (kr : Kont) (g : Ghost) (a : Act) (w : World), den P env n c an st K ks kr = some y → Sim P Dw F0 base M0 w0 N g st a w → FreshFrom st → (∀ t, t ∈ dsts c an → t < N) → chk P c an = true →
  c.wp P (PostC P Dw F0 base M0 w0 N y K ks kr st (dsts c an)) a w := by
 intro c
 induction c with
 | skip =>
  intro an st K ks kr g a w h hS hF _ _
  exact wp_skip ⟨g, st, hS, hF, fun _ _ => .inl rfl, by cases an <;> simpa [den] using h⟩
 | region id ops draw =>
  intro an st K ks kr g a w h hS hF hd hck
  cases an with
  | reg m seals softs rf =>
   simp only [den, denRK_eq] at h
   obtain ⟨st', h1, h2⟩ := oB_ h
   obtain ⟨g1, h3, h4, h5⟩ := sealAll_ok seals st g hS hF
   obtain ⟨g0, h6, h7, h8⟩ := softAll_ok softs _ g1 h3 h4
   have h9 : Sim P Dw F0 base M0 w0 N g0 { softAll softs (sealAll seals st) with rf := rf } a w := { h6 with slot := h6.slot, box := h6.box, boxes := h6.boxes, row := h6.row, rows := h6.rows, boxrow := h6.boxrow, hp := h6.hp, own := h6.own, fph := h6.fph, owd := h6.owd, gow := h6.gow }
   have h10 : FreshFrom { softAll softs (sealAll seals st) with rf := rf } := fun s hs => h7 s hs
   have hnx : ({ softAll softs (sealAll seals st) with rf := rf } : St).nx = st.nx := by
    show (softAll softs (sealAll seals st)).nx = st.nx
    rw [softAll_nx, sealAll_nx]
   simp only [chk] at hck
   obtain ⟨k1, k2⟩ := denR_keep hck h1
   refine denR_ok henv h9 (fun o ho d hod => hd d ?_) h10 hck h1 fun g2 a2 w2 hS2 => ?_
   ·simp only [dsts]
    exact List.mem_append_right _ (List.mem_filterMap.2 ⟨o, ho, hod⟩)
   ·refine ⟨g2, { st' with nx := st.nx + ops.size }, { hS2 with below := hS2.below, base_le := hS2.base_le, mem := hS2.mem, slot := hS2.slot, box := hS2.box, row := hS2.row, own := hS2.own, gow := hS2.gow }, fun s hs => ?_, fun t ht => ?_, h2⟩
    ·have hs' : st.nx + ops.size ≤ s := hs
     have := k2 s (by rw [hnx]; exact hs') (h10 s (by rw [hnx]; omega))
     exact this
    ·simp only [dsts, List.mem_append, not_or] at ht
     exact ((h5 t ht.1).trans (h8 t (by simp))).trans (k1 t ht.2)
  | _ => simp [den] at h
 | seq x y' ihx ihy =>
  intro an st K ks kr g a w h hS hF hd hck
  cases an with
  | seq a1 b1 =>
   simp only [den] at h
   simp only [dsts, List.mem_append] at hd
   simp only [chk, Bool.and_eq_true] at hck
   refine wp_seq (wpmono (ihx a1 st _ ks kr g a w h hS hF (fun t ht => hd t (.inl ht)) hck.1) fun e a2 w2 hp => ?_)
   have hp := PostC.mono (P := P) (Dw := Dw) (F0 := F0) (base := base) (M0 := M0) (w0 := w0) (N := N) (K' := fun st' => den P env n y' b1 st' K ks kr) (ks' := ks) (st0 := st) (D' := dsts x a1 ++ dsts y' b1) (fun _ _ => .inl rfl) (fun t ht => List.mem_append_left _ ht) (fun g st' a w h1 h2 h3 h4 => ⟨g, st', h1, h2, h3, h4⟩) (fun id g st' k a w h1 h2 h3 h4 h5 => ⟨g, st', k, h1, h2, h3, h4, h5⟩) e a2 w2 hp
   cases e with
   | normal =>
    obtain ⟨g2, st', h1, h2, h3, h4⟩ := hp
    refine wpmono (ihy b1 st' K ks kr g2 a2 w2 h4 h1 h2 (fun t ht => hd t (.inr ht)) hck.2) fun e a3 w3 hp3 => ?_
    exact PostC.mono (P := P) (Dw := Dw) (F0 := F0) (base := base) (M0 := M0) (w0 := w0) (N := N) h3 (fun t ht => List.mem_append_right _ ht) (fun g st' a w h1 h2 h3 h4 => ⟨g, st', h1, h2, h3, h4⟩) (fun id g st' k a w h1 h2 h3 h4 h5 => ⟨g, st', k, h1, h2, h3, h4, h5⟩) e a3 w3 hp3
   | exit id => exact hp
   | ret => exact hp
   | goto l => exact hp.elim
   | panic c => exact hp.elim
   | outgrown => exact hp.elim
  | _ => simp [den] at h
 | cond c x y' ihx ihy =>
  intro an st K ks kr g a w h hS hF hd hck
  cases an with
  | cond j a1 b1 =>
   simp only [den] at h
   simp only [dsts, List.mem_append] at hd
   simp only [chk, Bool.and_eq_true] at hck
   obtain ⟨K', hB, hK'⟩ := joinK_ok (Dw := Dw) (F0 := F0) (base := base) (M0 := M0) (w0 := w0) (N := N) (ks := ks) (kr := kr) hF (fun t ht => List.mem_append_left _ ht) h
   unfold condV at hB
   split at hB
   ·rename_i t ht
    have hc := hS.rd c
    rw [ht] at hc
    have he := (rel_lit hc).1
    refine wp_cond he ?_
    have hks : ∀ (id : Nat) (g : Ghost) (st' : St) (k : Kont) (a : Act) (w : World), Sim P Dw F0 base M0 w0 N g st' a w → FreshFrom st' → Fr (jslots j ++ (dsts x a1 ++ dsts y' b1)) st st' → ks.lookup id = some k → k st' = some y → PostC P Dw F0 base M0 w0 N y K ks kr st (jslots j ++ (dsts x a1 ++ dsts y' b1)) (.exit id) a w :=
     fun id g st' k a w h1 h2 h3 h4 h5 => ⟨g, st', k, h1, h2, h3, h4, h5⟩
    cases t with
    | true =>
     rw [if_pos rfl] at hB
     exact wpmono (ihx a1 st K' ks kr g a w hB hS hF (fun t ht => hd t (.inr (.inl ht))) hck.1) fun e a2 w2 hp => PostC.mono (fun _ _ => .inl rfl) (fun t ht => List.mem_append_right _ (List.mem_append_left _ ht)) hK' hks e a2 w2 hp
    | false =>
     rw [if_neg (by simp)] at hB
     exact wpmono (ihy b1 st K' ks kr g a w hB hS hF (fun t ht => hd t (.inr (.inr ht))) hck.2) fun e a2 w2 hp => PostC.mono (fun _ _ => .inl rfl) (fun t ht => List.mem_append_right _ (List.mem_append_right _ ht)) hK' hks e a2 w2 hp
   ·cases hB
  | _ => simp [den] at h
 | block id x ih =>
  intro an st K ks kr g a w h hS hF hd hck
  cases an with
  | blk j a1 =>
   simp only [den] at h
   simp only [dsts, List.mem_append] at hd
   obtain ⟨K', hB, hK'⟩ := joinK_ok (Dw := Dw) (F0 := F0) (base := base) (M0 := M0) (w0 := w0) (N := N) (ks := ks) (kr := kr) hF (fun t ht => List.mem_append_left _ ht) h
   refine wp_block (wpmono (ih a1 st K' _ kr g a w hB hS hF (fun t ht => hd t (.inr ht)) (by simpa only [chk] using hck)) fun e a2 w2 hp => ?_)
   have hfr : ∀ {st'}, Fr (dsts x a1) st st' → Fr (jslots j ++ dsts x a1) st st' := fun h => h.mono fun t ht => List.mem_append_right _ ht
   cases e with
   | normal =>
    obtain ⟨g2, st', h1, h2, h3, h4⟩ := hp
    exact hK' g2 st' a2 w2 h1 h2 (hfr h3) h4
   | exit id' =>
    obtain ⟨g2, st', k, h1, h2, h3, h4, h5⟩ := hp
    simp only [Exit.inBlock]
    by_cases hid : id' = id
    ·rw [if_pos hid]
     subst hid
     simp only [List.lookup, beq_self_eq_true, oE_] at h4
     subst h4
     exact hK' g2 st' a2 w2 h1 h2 (hfr h3) h5
    ·rw [if_neg hid]
     have : (id' == id) = false := by simpa using hid
     simp only [List.lookup, this] at h4
     exact ⟨g2, st', k, h1, h2, hfr h3, h4, h5⟩
   | ret => exact hp
   | goto l => exact hp.elim
   | panic c => exact hp.elim
   | outgrown => exact hp.elim
  | _ => simp [den] at h
 | loop x ih =>
  intro an st K ks kr g a w h hS hF hd hck
  cases an with
  | loop rs a1 =>
   simp only [den] at h
   simp only [dsts, List.mem_append] at hd
   obtain ⟨vs, hp, h⟩ := oB_ h
   let D := rs.flatMap Ref.slot ++ dsts x a1
   let F := fun (rec : List V → Option V) vs => den P env n x a1 (injectAll st D rs vs) (fun st' => (proj P st rs st').bind rec) ks kr
   let I : Nat → Act → World → Prop := fun m a w => ∃ vs g, fixN F m vs = some y ∧ Sim P Dw F0 base M0 w0 N g (injectAll st D rs vs) a w ∧ FreshFrom (injectAll st D rs vs)
   have key : ∀ m a w, I m a w → x.wp P (Exit.then (fun a' w' => ∃ m', m' < m ∧ I m' a' w') (PostC P Dw F0 base M0 w0 N y K ks kr st D)) a w := by
    intro m a w hI
    obtain ⟨vs, g, h1, h2, h3⟩ := hI
    cases m with
    | zero => cases h1
    | succ m =>
     simp only [fixN, F] at h1
     refine wpmono (ih a1 _ _ ks kr g a w h1 h2 h3 (fun t ht => hd t (.inr ht)) (by simpa only [chk] using hck)) fun e a2 w2 hp => ?_
     have hfr0 : Fr D st (injectAll st D rs vs) := injectAll_fr fun t ht => List.mem_append_left _ ht
     have hp := PostC.mono (P := P) (Dw := Dw) (F0 := F0) (base := base) (M0 := M0) (w0 := w0) (N := N) (K' := fun st' => (proj P st rs st').bind (fixN F m)) (ks' := ks) (D' := D) hfr0 (fun t ht => List.mem_append_right _ ht) (fun g st' a w h1 h2 h3 h4 => ⟨g, st', h1, h2, h3, h4⟩) (fun id g st' k a w h1 h2 h3 h4 h5 => ⟨g, st', k, h1, h2, h3, h4, h5⟩) e a2 w2 hp
     cases e with
     | normal =>
      obtain ⟨g2, st', q1, q2, q3, q4⟩ := hp
      obtain ⟨vs', hp', q5⟩ := oB_ q4
      obtain ⟨g3, q6, q7⟩ := injectAll_ok q1 hF q3 hp'
      exact ⟨m, Nat.lt_succ_self _, vs', g3, q5, q6, q7⟩
     | exit id => exact hp
     | ret => exact hp
     | goto l => exact hp.elim
     | panic c => exact hp.elim
     | outgrown => exact hp.elim
   obtain ⟨g3, q6, q7⟩ := injectAll_ok (D := D) hS hF (fun _ _ => .inl rfl) hp
   have h0 : ∃ m, I m a w := ⟨n, vs, g3, h, q6, q7⟩
   open Classical in
   refine wp_loop (fun a w => ∃ m, I m a w) (fun a w => if h : ∃ m, I m a w then (exists_min h).choose else 0) h0 fun a1 w1 hI => ?_
   open Classical in
   refine wpmono (key (exists_min hI).choose a1 w1 (exists_min hI).choose_spec.1) fun e a2 w2 hp => ?_
   cases e with
   | normal =>
    obtain ⟨m', hlt, hI'⟩ := hp
    refine ⟨⟨m', hI'⟩, ?_⟩
    simp only [dif_pos hI, dif_pos (⟨m', hI'⟩ : ∃ m, I m a2 w2)]
    exact Nat.lt_of_le_of_lt ((exists_min (⟨m', hI'⟩ : ∃ m, I m a2 w2)).choose_spec.2 _ hI') hlt
   | exit id => exact hp
   | ret => exact hp
   | goto l => exact hp.elim
   | panic c => exact hp.elim
   | outgrown => exact hp.elim
  | _ => simp [den] at h
 | exit id =>
  intro an st K ks kr g a w h hS hF _ _
  have h : (match ks.lookup id with | some k => k st | none => none) = some y := by cases an <;> simpa [den] using h
  split at h
  ·rename_i k hk
   exact wp_exit ⟨g, st, k, hS, hF, fun _ _ => .inl rfl, hk, h⟩
  ·cases h
 | ret =>
  intro an st K ks kr g a w h hS hF _ _
  exact wp_ret ⟨g, st, hS, hF, by cases an <;> simpa [den] using h⟩
 | _ => intro an st K ks kr g a w h; cases an <;> simp [den] at h
end
end Go.Proofs.YtgkohnjpnnofhaaGreat.Den
