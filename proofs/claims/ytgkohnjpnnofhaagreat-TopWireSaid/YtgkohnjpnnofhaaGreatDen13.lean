/- A reader of Go code in plain values: whole functions (2); contracts to and fro. -/
import Derived.Test.YtgkohnjpnnofhaaGreatDen12
namespace Go.Proofs.YtgkohnjpnnofhaaGreat.Den
set_option linter.unusedSimpArgs false
set_option linter.unusedVariables false
set_option linter.unnecessarySimpa false
open Go.RowKit
def resV (P : Program) (st : St) : ResultVar → Option V
 | .tmp t => some (st.asV (st.φ t))
 | .cell t ty => loadC P st ty (st.φ t)
def resL (P : Program) (st : St) : List ResultVar → Option (List V)
 | [] => some []
 | r :: rs => (resV P st r).bind fun v => (resL P st rs).map (v :: ·)
def oneV : List V → V
 | [x] => x
 | l => .tup l
def retK (P : Program) (rs : List ResultVar) : Kont := fun st => (resL P st rs).map oneV
def resK (P : Program) : List ResultVar → List V → Kont
 | [], acc, _ => some (oneV acc)
 | .tmp t :: rs, acc, st => resK P rs (acc ++ [st.asV (st.φ t)]) st
 | .cell t ty :: rs, acc, st => (loadC P st ty (st.φ t)).bind fun v => resK P rs (acc ++ [v]) st
theorem resK_eq (P : Program) (st : St) : ∀ (rs : List ResultVar) (acc : List V), resK P rs acc st = (resL P st rs).map fun l => oneV (acc ++ l)
 | [], acc => by simp [resK, resL]
 | .tmp t :: rs, acc => by
  simp only [resK, resL, resV, oS_]
  rw [resK_eq P st rs]
  cases resL P st rs <;> simp
 | .cell t ty :: rs, acc => by
  simp only [resK, resL, resV]
  cases loadC P st ty (st.φ t) with
  | none => rfl
  | some v =>
   simp only [oS_]
   rw [resK_eq P st rs]
   cases resL P st rs <;> simp
theorem resK_ret (P : Program) (rs : List ResultVar) : resK P rs [] = retK P rs := by
 funext st
 rw [resK_eq]
 rfl
def st0 (xs : List V) : St := ⟨fun t => .v (xs.getD t .any), fun _ => none, fun _ => none, fun _ => none, [], 8⟩
noncomputable def denF (P : Program) (env : FuncId → List V → Option V) (n : Nat) (fn : Func) (an : Ann) (xs : List V) : Option V := match fn.body with
 | some c => den P env n c an (st0 xs) (resK P fn.results.toList []) [] (resK P fn.results.toList [])
 | none => none
def retR (e : TypeId) (st : St) : ResultVar → Option V
 | .tmp t => match st.φ t with
  | .row s => match st.rw s with
   | some (e', rows) => match e' == e with
    | true => some (.sl rows)
    | false => none
   | none => none
  | _ => none
 | _ => none
noncomputable def denFR (P : Program) (env : FuncId → List V → Option V) (n : Nat) (fn : Func) (an : Ann) (e : TypeId) (xs : List V) : Option V := match fn.body with
 | some c => match fn.results.toList with
  | [r] => den P env n c an (st0 xs) (fun st => retR e st r) [] (fun st => retR e st r)
  | _ => none
 | none => none
def chkF (P : Program) (fn : Func) (an : Ann) : Bool := match fn.body with
 | some c => (dsts c an).all (fun t => decide (t < fn.ntmps)) && chk P c an && !(fn.name == "runtime.NumGoroutine")
 | none => false
section
variable {P : Program} {Dw : World → Prop} {F0 : Par} {env : FuncId → List V → Option V} {base : Nat} {M0 : Mem} {w0 w : World} {N : Nat} {g : Ghost} {st : St} {a : Act}
def resSem (a : Act) : ResultVar → Sem Value
 | .tmp t => pure (a.tmps.getD t undef)
 | .cell c t => do loadVar t (← asAddr (a.tmps.getD c undef))
theorem res_ok (hS : Sim P Dw F0 base M0 w0 N g st a w) : ∀ (rs : List ResultVar) (l : List V), resL P st rs = some l →
  ∃ vs, (rs.mapM (resSem a)).run P w = .ok vs w ∧ RelL g.M vs l
 | [], l, h => by
  simp only [resL, oE_] at h; subst h
  exact ⟨[], by simp, rfl, by simp⟩
 | r :: rs, l, h => by
  simp only [resL] at h
  obtain ⟨v, h1, h2⟩ := oB_ h
  obtain ⟨l', h3, rfl⟩ := oM_ h2
  obtain ⟨vs, h4, h5⟩ := res_ok hS rs l' h3
  have key : ∃ u, ((resSem a) r).run P w = .ok u w ∧ Rel g.M u v := by
   cases r with
   | tmp t =>
    simp only [resV, oE_] at h1; subst h1
    exact ⟨_, rfl, hS.asV (hS.slot t)⟩
   | cell c ty =>
    simp only [resV] at h1
    obtain ⟨u, hu, hr⟩ := loadC_ok (x := .tmp c) hS h1
    have hx := hS.ev (.tmp c)
    have hp : ∃ ad, a.tmps.getD c undef = .pointer (some ad) := by
     show ∃ ad, a.eval (.tmp c) = .pointer (some ad)
     cases hc : st.φ c with
     | v z =>
      rw [show st.ev (.tmp c) = st.φ c from rfl, hc] at hx
      rw [hc] at h1
      cases z <;> try (simp [loadC, ldp] at h1; done)
      obtain ⟨b, o, e, _⟩ := rel_ptr hx
      exact ⟨_, e⟩
     | nil => rw [hc] at h1; simp [loadC, ldp] at h1
     | row s => rw [hc] at h1; simp [loadC, ldp] at h1
     | box s off =>
      rw [show st.ev (.tmp c) = st.φ c from rfl, hc] at hx
      rw [hc] at h1
      unfold loadC at h1
      obtain ⟨k9, _, h9⟩ := oB_ h1
      exact ⟨_, hx (gateL_some h9).1⟩
     | adr s p q gs =>
      rw [show st.ev (.tmp c) = st.φ c from rfl, hc] at hx
      rw [hc] at h1
      unfold loadC at h1
      obtain ⟨k9, _, h9⟩ := oB_ h1
      obtain ⟨_, u9, b9, _, _, e9⟩ := hx (gateL_some h9).1
      exact ⟨_, e9⟩
     | ref s p gs => rw [hc] at h1; simp [loadC] at h1
    obtain ⟨ad, had⟩ := hp
    refine ⟨u, ?_, hr⟩
    have hu' : (Instr.loadAt ty (a.tmps.getD c undef)).run P w = .ok u w := hu
    rw [had] at hu'
    simp only [resSem, had]
    simpa [asAddr, Instr.loadAt, Instr.sureAddr] using hu'
  obtain ⟨u, h6, h7⟩ := key
  refine ⟨u :: vs, by simp only [List.mapM_cons, Sem.run_bind]; rw [h6]; simp only [Result.andThen_ok]; rw [h4]; rfl, by simp [h5.1], fun i x hx => ?_⟩
  cases i with
  | zero => simp at hx; subst hx; exact h7
  | succ i => simpa using h5.2 i x (by simpa using hx)
theorem retK_ok {fn : Func} {y : V} (hS : Sim P Dw F0 base M0 w0 N g st a w) (h : retK P fn.results.toList st = some y) : ∃ v, (results fn a.tmps).run P w = .ok v w ∧ Rel g.M v y := by
 unfold retK at h
 obtain ⟨l, hl, rfl⟩ := oM_ h
 obtain ⟨vs, h1, h2⟩ := res_ok hS _ l hl
 refine ⟨if hh : vs.toArray.size = 1 then vs.toArray[0] else .tuple vs.toArray, ?_, ?_⟩
 ·show ((fn.results.mapM (resSem a)) >>= fun vs => pure (if h : vs.size = 1 then vs[0] else Value.tuple vs) : Sem Value).run P w = _
  rw [Array.mapM_eq_mapM_toList, map_eq_pure_bind]
  simp only [Sem.run_bind, Sem.run_pure]
  rw [h1]
  rfl
 ·obtain ⟨e1, e2⟩ := h2
  split
  ·rename_i hh
   have hl1 : l.length = 1 := by rw [← e1]; simpa using hh
   match l, hl1 with
   | [x], _ =>
    have := e2 0 x rfl
    have e : vs.getD 0 undef = vs.toArray[0] := by
     have : 0 < vs.length := by rw [e1]; simp
     simp [List.getD, this]
    rw [← e]; exact this
  ·rename_i hh
   have hl1 : l.length ≠ 1 := by rw [← e1]; simpa using hh
   have : oneV l = .tup l := by
    unfold oneV
    split
    ·simp at hl1
    ·rfl
   rw [this]
   exact .tup _ _ (by simpa using e1) (fun i x hx => by simpa using e2 i x hx)
theorem denF_ok (hst : ∀ w w', Dw w → Below w.heap.size w w' → Dw w') {f : FuncId} {fn : Func} {n : Nat} {an : Ann} (hf : P.funcs[f]? = some fn) (hck : chkF P fn an = true) (henv : EnvOk P Dw env) {xs : List V} {y : V} (hn : xs.length ≤ fn.ntmps) (h : denF P env n fn an xs = some y) : SCalls P Dw f xs y := by
 unfold chkF at hck
 unfold denF at h
 cases hb : fn.body with
 | none => rw [hb] at hck; cases hck
 | some c =>
  rw [hb] at h hck
  simp only [resK_ret] at h
  simp only [Bool.and_eq_true, Bool.not_eq_true'] at hck
  ·obtain ⟨⟨hc1, hck⟩, hname⟩ := hck
   refine ⟨⟨fn, hf, hname, by rw [hb]; rfl⟩, fun w M vs hDw hM hrel => ?_⟩
   have hvl : vs.size = xs.length := by have := hrel.1; simpa using this
   have hS : Sim P Dw ⟨fun _ => False, fun _ => undef⟩ w.heap.size M w fn.ntmps ⟨M, fun _ => 0, fun _ => undef, fun _ => none, fun _ => undef, fun _ _ => False, fun _ => none⟩ (st0 xs) { tmps := vs ++ Array.replicate (fn.ntmps - vs.size) undef, defers := [] } w := by
    refine { inv := fun w' hb => hst w w' hDw hb.plain, below := BelowF.refl _ _ _, base_le := Nat.le_refl _, defers := rfl, size := by simp; omega, mem := hM, old := fun _ _ _ h _ _ => h, ovp := fun _ _ => rfl, keepM := fun _ _ _ h => h, slot := fun t => ?_, box := fun _ _ h => (by cases h), boxes := fun _ _ _ _ h => (by cases h), row := fun _ _ _ h => (by cases h), rows := fun _ _ _ _ h => (by cases h), boxrow := fun _ _ _ _ h => (by cases h), hp := fun _ _ h => (by cases h), own := fun _ _ h => (by cases h), fph := fun _ _ _ h => (by cases h), owd := fun _ _ _ _ h => (by cases h), gow := rfl }
    show Rel M _ (xs.getD t .any)
    by_cases ht : t < xs.length
    ·have hx : xs.getD t .any = xs[t] := by simp [List.getD, ht]
     rw [hx]
     have := hrel.2 t xs[t] (gE_ ht)
     have e : (vs ++ Array.replicate (fn.ntmps - vs.size) undef).getD t undef = vs.toList.getD t undef := by
      have ht' : t < vs.size := by omega
      have ht2 : t < (vs ++ Array.replicate (fn.ntmps - vs.size) undef).size := by simp; omega
      simp only [Array.getD, ht2, dite_true, Array.getInternal_eq_getElem]
      rw [Array.getElem_append_left ht']
      simp [List.getD, ht']
     rw [e]; exact this
    ·have hx : xs.getD t .any = .any := by simp [List.getD, List.getElem?_eq_none (Nat.le_of_not_lt ht)]
     rw [hx]; exact .any _
   have hF : FreshFrom (st0 xs) := fun s hs => ⟨fun t => by simp [st0, C.site], rfl, rfl, rfl, hs⟩
   have hd : ∀ t, t ∈ dsts c an → t < fn.ntmps := fun t ht => by simpa using List.all_eq_true.1 hc1 t ht
   refine calls_of_wp hf hb (wpmono (den_ok henv n y c an (st0 xs) _ [] _ _ _ w h hS hF hd hck) fun e a' w' hp => ?_)
   have fin : ∀ g st', Sim P Dw ⟨fun _ => False, fun _ => undef⟩ w.heap.size M w fn.ntmps g st' a' w' → retK P fn.results.toList st' = some y → a'.defers = [] ∧ ∃ v, (results fn a'.tmps).run P w' = .ok v w' ∧ ∃ v2 M', Ending.returned v = .returned v2 ∧ Grow M w M' w' ∧ Rel M' v2 y := by
    intro g st' hS' hk
    obtain ⟨v, h1, h2⟩ := retK_ok hS' hk
    refine ⟨hS'.defers, v, h1, v, fun b o => if b < w.heap.size then M b o else g.M b o, rfl, ⟨hS'.below.plain, fun b o u hu => ?_, fun b o u hu => ?_, fun b o u hu hb => ?_⟩, h2.mono fun b o u hu => ?_⟩
    ·rw [if_pos (mem_lt hM hu)]; exact hu
    ·split at hu
     ·rename_i hb
      rw [World.cell?_of_block (w := w) (hS'.below.plain.block b hb)]; exact hM b o u hu
     ·exact hS'.mem b o u hu
    ·rw [if_pos hb] at hu; exact hu
    ·split
     ·rename_i hb; exact hS'.old b o u hu hb (fun h => h)
     ·exact hu
   cases e with
   | normal => obtain ⟨g, st', h1, _, _, h4⟩ := hp; exact fin g st' h1 h4
   | ret => obtain ⟨g, st', h1, _, h4⟩ := hp; exact fin g st' h1 h4
   | exit id => obtain ⟨g, st', k, _, _, _, h4, _⟩ := hp; cases h4
   | goto l => exact hp.elim
   | panic c => exact hp.elim
   | outgrown => exact hp.elim
theorem denFR_ok (hst : ∀ w w', Dw w → Below w.heap.size w w' → Dw w') {f : FuncId} {fn : Func} {n : Nat} {an : Ann} (hf : P.funcs[f]? = some fn) (hck : chkF P fn an = true) (henv : EnvOk P Dw env) {e0 : TypeId} {xs : List V} {y : V} (hn : xs.length ≤ fn.ntmps) (h : denFR P env n fn an e0 xs = some y) : RCalls P Dw f e0 xs y := by
 unfold chkF at hck
 unfold denFR at h
 cases hb : fn.body with
 | none => rw [hb] at hck; cases hck
 | some c =>
  rw [hb] at h hck
  simp only at h
  split at h
  rotate_left
  ·cases h
  rename_i r hres
  simp only [Bool.and_eq_true, Bool.not_eq_true'] at hck
  ·obtain ⟨⟨hc1, hck⟩, hname⟩ := hck
   refine ⟨⟨fn, hf, hname, by rw [hb]; rfl⟩, fun w M vs hDw hM hrel => ?_⟩
   have hvl : vs.size = xs.length := by have := hrel.1; simpa using this
   have hS : Sim P Dw ⟨fun _ => False, fun _ => undef⟩ w.heap.size M w fn.ntmps ⟨M, fun _ => 0, fun _ => undef, fun _ => none, fun _ => undef, fun _ _ => False, fun _ => none⟩ (st0 xs) { tmps := vs ++ Array.replicate (fn.ntmps - vs.size) undef, defers := [] } w := by
    refine { inv := fun w' hb => hst w w' hDw hb.plain, below := BelowF.refl _ _ _, base_le := Nat.le_refl _, defers := rfl, size := by simp; omega, mem := hM, old := fun _ _ _ h _ _ => h, ovp := fun _ _ => rfl, keepM := fun _ _ _ h => h, slot := fun t => ?_, box := fun _ _ h => (by cases h), boxes := fun _ _ _ _ h => (by cases h), row := fun _ _ _ h => (by cases h), rows := fun _ _ _ _ h => (by cases h), boxrow := fun _ _ _ _ h => (by cases h), hp := fun _ _ h => (by cases h), own := fun _ _ h => (by cases h), fph := fun _ _ _ h => (by cases h), owd := fun _ _ _ _ h => (by cases h), gow := rfl }
    show Rel M _ (xs.getD t .any)
    by_cases ht : t < xs.length
    ·have hx : xs.getD t .any = xs[t] := by simp [List.getD, ht]
     rw [hx]
     have := hrel.2 t xs[t] (gE_ ht)
     have e : (vs ++ Array.replicate (fn.ntmps - vs.size) undef).getD t undef = vs.toList.getD t undef := by
      have ht' : t < vs.size := by omega
      have ht2 : t < (vs ++ Array.replicate (fn.ntmps - vs.size) undef).size := by simp; omega
      simp only [Array.getD, ht2, dite_true, Array.getInternal_eq_getElem]
      rw [Array.getElem_append_left ht']
      simp [List.getD, ht']
     rw [e]; exact this
    ·have hx : xs.getD t .any = .any := by simp [List.getD, List.getElem?_eq_none (Nat.le_of_not_lt ht)]
     rw [hx]; exact .any _
   have hF : FreshFrom (st0 xs) := fun s hs => ⟨fun t => by simp [st0, C.site], rfl, rfl, rfl, hs⟩
   have hd : ∀ t, t ∈ dsts c an → t < fn.ntmps := fun t ht => by simpa using List.all_eq_true.1 hc1 t ht
   refine calls_of_wp hf hb (wpmono (den_ok henv n y c an (st0 xs) _ [] _ _ _ w h hS hF hd hck) fun e a' w' hp => ?_)
   have fin : ∀ g st', Sim P Dw ⟨fun _ => False, fun _ => undef⟩ w.heap.size M w fn.ntmps g st' a' w' → retR e0 st' r = some y → a'.defers = [] ∧ ∃ v, (results fn a'.tmps).run P w' = .ok v w' ∧ ∃ v2 M', Ending.returned v = .returned v2 ∧ Grow M w M' w' ∧ RowOk P w.heap.size M' w' e0 v2 (slL3 y) := by
    intro g st' hS' hk
    unfold retR at hk
    split at hk
    rotate_left
    ·cases hk
    rename_i t
    split at hk
    rotate_left
    ·cases hk
    rename_i s hs
    split at hk
    rotate_left
    ·cases hk
    rename_i e' rows hrw
    split at hk
    rotate_left
    ·cases hk
    rename_i he
    obtain rfl := oJ_ hk
    obtain rfl : e' = e0 := by simpa using he
    have hv : a'.tmps.getD t undef = g.val s := by have := hS'.slot t; rw [hs] at this; exact this
    obtain ⟨r1, k, xs', r2, r3, r4, r5, r6⟩ := hS'.row s e' rows hrw
    have hrun : (results fn a'.tmps).run P w' = .ok (a'.tmps.getD t undef) w' := by
     show ((fn.results.mapM (resSem a')) >>= fun vs => pure (if h : vs.size = 1 then vs[0] else Value.tuple vs) : Sem Value).run P w' = _
     rw [Array.mapM_eq_mapM_toList, map_eq_pure_bind, hres]
     rfl
    refine ⟨hS'.defers, _, hrun, _, fun b o => if b < w.heap.size then M b o else g.M b o, rfl, ⟨hS'.below.plain, fun b o u hu => ?_, fun b o u hu => ?_, fun b o u hu hb => ?_⟩, ?_⟩
    ·rw [if_pos (mem_lt hM hu)]; exact hu
    ·split at hu
     ·rename_i hb
      rw [World.cell?_of_block (w := w) (hS'.below.plain.block b hb)]; exact hM b o u hu
     ·exact hS'.mem b o u hu
    ·rw [if_pos hb] at hu; exact hu
    ·rw [hv]
     refine ⟨r1.mono fun b o u hu => ?_, k, xs', r2, r3, r4, r5, fun q hq => ?_⟩
     ·split
      ·rename_i hb; exact hS'.old b o u hu hb (fun h => h)
      ·exact hu
     ·obtain ⟨q1, q2, q3⟩ := r6 q hq
      refine ⟨q1, q2, fun hc o u hu => q3 hc o u ?_⟩
      change (if q < w.heap.size then M q o else g.M q o) = some u at hu
      rw [if_neg (by omega)] at hu
      exact hu
   cases e with
   | normal => obtain ⟨g, st', h1, _, _, h4⟩ := hp; exact fin g st' h1 h4
   | ret => obtain ⟨g, st', h1, _, h4⟩ := hp; exact fin g st' h1 h4
   | exit id => obtain ⟨g, st', k, _, _, _, h4, _⟩ := hp; cases h4
   | goto l => exact hp.elim
   | panic c => exact hp.elim
   | outgrown => exact hp.elim
end
def envOf (l : List (FuncId × (List V → Option V))) (f : FuncId) (xs : List V) : Option V := match l.lookup f with
 | some s => s xs
 | none => none
def envJ (l : List (FuncId × (List V → Option V))) (E : FuncId → List V → Option V) (f : FuncId) (xs : List V) : Option V := match l.lookup f with
 | some s => s xs
 | none => E f xs
def SemOk (P : Program) (Dw : World → Prop) (f : FuncId) (s : List V → Option V) : Prop := ∀ xs y, s xs = some y → SCalls P Dw f xs y
def MSemOk (P : Program) (Dw : World → Prop) (f : FuncId) (s : List V → Option V) : Prop := ∀ xs z, s xs = some z → MCalls P Dw f xs z
def RSemOk (P : Program) (Dw : World → Prop) (f : FuncId) (e : TypeId) (s : List V → Option V) : Prop := ∀ xs y, s xs = some y → RCalls P Dw f e xs y
def RXSemOk (P : Program) (Dw : World → Prop) (f : FuncId) (e : TypeId) (s : List V → Option V) : Prop := ∀ xs y, s xs = some y → RX P Dw f e xs y
def LSemOk (P : Program) (Dw : World → Prop) (f : FuncId) (s : List V → Option V) : Prop := ∀ xs y, s xs = some y → LCalls P Dw f xs y
def SemsOk (P : Program) (Dw : World → Prop) (l : List (FuncId × (List V → Option V))) : Prop := ∀ f s, l.lookup f = some s → (f < 1000000 ∧ SemOk P Dw f s) ∨ (∃ f0 : Nat, f0 < 1000000 ∧ f = f0 + 1000000 ∧ MSemOk P Dw f0 s) ∨ ∃ f0 e : Nat, f0 < 1000000 ∧ f = f0 + 1000000 * (e + 2) ∧ RXSemOk P Dw f0 e s
theorem semsOk_nil {P : Program} {Dw : World → Prop} : SemsOk P Dw [] := fun f s h => by cases h
theorem semsOk_cons' {P : Program} {Dw : World → Prop} {f : FuncId} {s : List V → Option V} {l : List (FuncId × (List V → Option V))} (h : (f < 1000000 ∧ SemOk P Dw f s) ∨ (∃ f0 : Nat, f0 < 1000000 ∧ f = f0 + 1000000 ∧ MSemOk P Dw f0 s) ∨ ∃ f0 e : Nat, f0 < 1000000 ∧ f = f0 + 1000000 * (e + 2) ∧ RXSemOk P Dw f0 e s) (hl : SemsOk P Dw l) : SemsOk P Dw ((f, s) :: l) := fun f' s' hh => by
 by_cases e : f' = f
 ·subst e
  simp only [List.lookup, beq_self_eq_true, oE_] at hh
  subst hh
  exact h
 ·have : (f' == f) = false := by simpa using e
  simp only [List.lookup, this] at hh
  exact hl f' s' hh
theorem semsOk_cons {P : Program} {Dw : World → Prop} {f : FuncId} {s : List V → Option V} {l : List (FuncId × (List V → Option V))} (h : SemOk P Dw f s) (hl : SemsOk P Dw l) (hf : f < 1000000 := by decide) : SemsOk P Dw ((f, s) :: l) := semsOk_cons' (.inl ⟨hf, h⟩) hl
theorem semsOk_consM {P : Program} {Dw : World → Prop} {f : FuncId} {s : List V → Option V} {l : List (FuncId × (List V → Option V))} (h : MSemOk P Dw f s) (hl : SemsOk P Dw l) (hf : f < 1000000 := by decide) : SemsOk P Dw ((f + 1000000, s) :: l) := semsOk_cons' (.inr (.inl ⟨f, hf, rfl, h⟩)) hl
theorem semsOk_consR {P : Program} {Dw : World → Prop} {f : FuncId} {e : TypeId} {s : List V → Option V} {l : List (FuncId × (List V → Option V))} (h : RSemOk P Dw f e s) (hl : SemsOk P Dw l) (hf : f < 1000000 := by decide) (he : e ≠ 987654321 := by decide) : SemsOk P Dw ((f + 1000000 * (e + 2), s) :: l) := semsOk_cons' (.inr (.inr ⟨f, e, hf, rfl, fun xs y hy => ⟨fun _ => h xs y hy, fun h9 => absurd h9 he⟩⟩)) hl
theorem semsOk_consL {P : Program} {Dw : World → Prop} {f : FuncId} {s : List V → Option V} {l : List (FuncId × (List V → Option V))} (h : LSemOk P Dw f s) (hl : SemsOk P Dw l) (hf : f < 1000000 := by decide) : SemsOk P Dw ((f + 1000000 * (987654321 + 2), s) :: l) := semsOk_cons' (.inr (.inr ⟨f, 987654321, hf, rfl, fun xs y hy => ⟨fun h9 => absurd rfl h9, fun _ => h xs y hy⟩⟩)) hl
theorem sems_env {P : Program} {Dw : World → Prop} {l : List (FuncId × (List V → Option V))} (hl : SemsOk P Dw l) : (∀ (f : Nat) s, f < 1000000 → l.lookup f = some s → SemOk P Dw f s) ∧ (∀ (f : Nat) s, f < 1000000 → l.lookup (f + 1000000) = some s → MSemOk P Dw f s) ∧ ∀ (f e : Nat) s, f < 1000000 → l.lookup (f + 1000000 * (e + 2)) = some s → RXSemOk P Dw f e s := by
 refine ⟨fun f s hf hs => ?_, fun f s hf hs => ?_, fun f e s hf hs => ?_⟩
 ·rcases hl _ s hs with ⟨_, h1⟩ | ⟨f0, hf0, e0, _⟩ | ⟨f0, e0, hf0, e1, _⟩
  ·exact h1
  ·have e0 : f = (f0 : Nat) + 1000000 := e0
   omega
  ·have e1 : f = (f0 : Nat) + 1000000 * ((e0 : Nat) + 2) := e1
   omega
 ·rcases hl _ s hs with ⟨h0, h1⟩ | ⟨f0, hf0, e0, h1⟩ | ⟨f0, e0, hf0, e1, _⟩
  ·have h0 : f + 1000000 < 1000000 := h0
   omega
  ·have e0 : f + 1000000 = (f0 : Nat) + 1000000 := e0
   obtain rfl : f = f0 := by omega
   exact h1
  ·have e1 : f + 1000000 = (f0 : Nat) + 1000000 * ((e0 : Nat) + 2) := e1
   have hf0 : (f0 : Nat) < 1000000 := hf0
   omega
 ·rcases hl _ s hs with ⟨h0, h1⟩ | ⟨f0, hf0, e0, h1⟩ | ⟨f0, e0, hf0, e1, h1⟩
  ·have h0 : f + 1000000 * (e + 2) < 1000000 := h0
   omega
  ·have e0 : f + 1000000 * (e + 2) = (f0 : Nat) + 1000000 := e0
   have hf0 : (f0 : Nat) < 1000000 := hf0
   omega
  ·have e1 : f + 1000000 * (e + 2) = (f0 : Nat) + 1000000 * ((e0 : Nat) + 2) := e1
   have hf0 : (f0 : Nat) < 1000000 := hf0
   obtain rfl : e = e0 := by omega
   obtain rfl : f = f0 := by omega
   exact h1
theorem envOf_ok {P : Program} {Dw : World → Prop} {l : List (FuncId × (List V → Option V))} (hl : SemsOk P Dw l) : EnvOk P Dw (envOf l) := by
 obtain ⟨h1, h2, h3⟩ := sems_env hl
 refine ⟨fun f xs y hf h => ?_, fun f xs z hf h => ?_, fun f e xs y hf h => ?_⟩ <;> unfold envOf at h <;> split at h
 ·rename_i s hs; exact h1 f s hf hs xs y h
 ·cases h
 ·rename_i s hs; exact h2 f s hf hs xs z h
 ·cases h
 ·rename_i s hs; exact h3 f e s hf hs xs y h
 ·cases h
theorem envJ_ok {P : Program} {Dw : World → Prop} {l : List (FuncId × (List V → Option V))} {E : FuncId → List V → Option V} (hl : SemsOk P Dw l) (hE : EnvOk P Dw E) : EnvOk P Dw (envJ l E) := by
 obtain ⟨h1, h2, h3⟩ := sems_env hl
 refine ⟨fun f xs y hf h => ?_, fun f xs z hf h => ?_, fun f e xs y hf h => ?_⟩ <;> unfold envJ at h <;> split at h
 ·rename_i s hs; exact h1 f s hf hs xs y h
 ·exact hE.1 f xs y hf h
 ·rename_i s hs; exact h2 f s hf hs xs z h
 ·exact hE.2.1 f xs z hf h
 ·rename_i s hs; exact h3 f e s hf hs xs y h
 ·exact hE.2.2 f e xs y hf h
theorem semOk_of_row {P : Program} {Dw : World → Prop} {f : FuncId} {e : TypeId} {s : List V → Option V} (h : RSemOk P Dw f e s) (hs : ∀ xs y, s xs = some y → ∃ rows, y = .sl rows) : SemOk P Dw f s := fun xs y hy => by
 obtain ⟨h1, h2⟩ := h xs y hy
 obtain ⟨rows, rfl⟩ := hs xs y hy
 exact ⟨h1, fun w M vs hd hM hr => (h2 w M vs hd hM hr).mono fun en w' ⟨v, M', e1, hg, hrow⟩ => ⟨v, M', e1, hg, hrow.1⟩⟩
end Go.Proofs.YtgkohnjpnnofhaaGreat.Den
