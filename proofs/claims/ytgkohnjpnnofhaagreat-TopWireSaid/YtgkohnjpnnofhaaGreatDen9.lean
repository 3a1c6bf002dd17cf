/- A reader of Go code in plain values: regions, whatever order is drawn. -/
import Derived.Test.YtgkohnjpnnofhaaGreatDenC2
namespace Go.Proofs.YtgkohnjpnnofhaaGreat.Den
set_option linter.unusedSimpArgs false
set_option linter.unusedVariables false
set_option linter.unnecessarySimpa false
open Go.RowKit
def onlyV (st : St) : Option (C × Option (List V)) → Option V
 | some (c, none) => some (st.asV c)
 | _ => none
def guardV (x : V) (want : Bool) (y : Option V) : Option V := match x with
 | .lit (.bool b) => if (b == want) = true then y else some (.tup [])
 | .tup [] => some (.tup [])
 | _ => none
def guardZ (x : V) (want : Bool) (y : Option V) (n : V) : Option V := match x with
 | .lit (.bool b) => if (b == want) = true then y else some n
 | .tup [] => some n
 | _ => none
def skipZ : List (V × Option Nat) → List V
 | [] => []
 | (x, some _) :: r => x :: skipZ r
 | (_, none) :: r => .any :: skipZ r
def bareC : C → C
 | .adr s [] q _ => .adr s [] q []
 | .ref s [] _ => .ref s [] []
 | c => c
def gatesC : C → List (V × Bool)
 | .adr _ [] _ gs => gs
 | .ref _ [] gs => gs
 | _ => []
def gatesL : List C → List (V × Bool)
 | [] => []
 | c :: r => gatesC c ++ gatesL r
def bareL : List C → List C
 | [] => []
 | c :: r => bareC c :: bareL r
def callGO (env : FuncId → List V → Option V) (st : St) (dst : Option Nat) (f : FuncId) (args : List Operand) (x : V) (want : Bool) : Option St := (argsO st (bareL (args.map st.ev))).bind fun l => match nodupO (sitesO l) with
 | true => (guardZ x want (gateL (gatesL (args.map st.ev)) (if f < 1000000 then env (f + 1000000) (l.map (·.1)) else none)) (.tup (.tup [] :: skipZ l))).bind fun z => match st.isRf dst with
  | true => none
  | false => match dst with
   | none => none
   | some d => (pureO (tupAt z 0)).map fun y => (afterO st l z).put (some d) (.v y)
 | false => none
def callGF (o : Oper) : Option (FuncId × List Operand) := match o.op with
 | .call ⟨.value (.func f), args, _⟩ => some (f, args.toList)
 | _ => none
noncomputable def shOp0 (P : Program) (env : FuncId → List V → Option V) (ops : Array Oper) (s : Nat) (st : St) (o : Oper) : Option (C × Option (List V)) := match o.guard with
 | none => stepH P env s st o
 | some p => match (ops[p.1]?).bind (·.dst) with
  | some t => match addrOp P st o with
   | some r => (guardV (st.asV (st.φ t)) p.2 r.2).map fun _ => (r.1.addG (st.asV (st.φ t), p.2), none)
   | none => vres (guardV (st.asV (st.φ t)) p.2 (onlyV st (stepH P env s st o)))
  | none => none
noncomputable def shOp (P : Program) (env : FuncId → List V → Option V) (ops : Array Oper) (s : Nat) (st : St) (o : Oper) : Option (C × Option (List V)) := match callGd st o with
 | some q => match o.guard with
  | none => vres (callBV env st (modeB P st o) q.1 q.2)
  | some p => match (ops[p.1]?).bind (·.dst) with
   | some t => vres (guardV (st.asV (st.φ t)) p.2 (callBV env st (modeB P st o) q.1 q.2))
   | none => none
 | none => shOp0 P env ops s st o
noncomputable def stepT (P : Program) (env : FuncId → List V → Option V) (s : Nat) (st : St) (o : Oper) : Option St := match ownOp P s st o with
 | some r => r
 | none => match mOp P env s st o with
  | some r => r
  | none => stepT0 P env s st o
noncomputable def shT (P : Program) (env : FuncId → List V → Option V) (ops : Array Oper) (s : Nat) (st : St) (o : Oper) : Option St := match o.guard with
 | none => stepT P env s st o
 | some p => match st.isRf (o.dst.map (· + 5000000)) with
  | true => match (ops[p.1]?).bind (·.dst), callGF o with
   | some t, some q => callGO env st o.dst q.1 q.2 (st.asV (st.φ t)) p.2
   | _, _ => none
  | false => (shOp P env ops s st o).map (st.app s o.dst)
noncomputable def denH (P : Program) (env : FuncId → List V → Option V) (ops : Array Oper) (nx0 : Nat) : List Oper → Nat → St → Option St
 | [], _, st => some st
 | o :: r, k, st => (shOp P env ops (nx0 + k) st o).bind fun x => denH P env ops nx0 r (k + 1) (st.app (nx0 + k) o.dst x)
noncomputable def denT (P : Program) (env : FuncId → List V → Option V) (ops : Array Oper) (nx0 : Nat) : List Oper → Nat → St → Option St
 | [], _, st => some st
 | o :: r, k, st => (shT P env ops (nx0 + k) st o).bind fun st' => denT P env ops nx0 r (k + 1) st'
def isFl (o : Oper) : Bool := o.guard.isNone && match o.op with
 | .move _ => true
 | .extract _ _ => true
 | _ => false
def flB (ops : Array Oper) (i : Nat) : Bool := (ops[i]?).any isFl
def onlyF (ops : Array Oper) (n : Nat) (listed : Array Bool) : Bool := (List.range n).all fun i => listed.getD i true || flB ops i
def depsL (ops : Array Oper) (j : Nat) : List Nat := match ops[j]? with
 | some o => (o.after.toList.filter (Region.binds .any)).map (·.on)
 | none => []
def reachL (ops : Array Oper) : Nat → List Nat → List Nat
 | 0, acc => acc
 | k + 1, acc => reachL ops k (if acc.contains k = true then acc ++ depsL ops k else acc)
def headB (ops : Array Oper) (n : Nat) : Bool := match reachL ops n (depsL ops n) with
 | acc => (List.range n).all fun i => flB ops i || acc.contains i
def freeUp (ops : Array Oper) (k : Nat) : Bool := match ops[k]? with
 | some o => (List.range ops.size).all fun j => decide (j ≤ k) || (depsL ops j).contains k || (ops[j]?).all fun q => o.apart ops q
 | none => false
def flOk (ops : Array Oper) (n : Nat) : Bool := (List.range n).all fun k => !flB ops k || ((depsL ops k).all (fun d => decide (d < k)) && freeUp ops k)
def regB (ops : Array Oper) (n : Nat) : Bool :=
 Region.noSelect ops && ((decide (n < ops.size) && (Region.sinkB .any ops n || (headB ops n && flOk ops n)) && Region.chainB .any ops n) || decide (n = ops.size)) && Region.lexHead .any ops (ops.size - n) n 0 (Array.replicate ops.size false)
section
variable {P : Program} {Dw : World → Prop} {F0 : Par} {env : FuncId → List V → Option V} {base : Nat} {M0 : Mem} {w0 w : World} {N : Nat} {g : Ghost} {st : St} {a : Act} {o : Oper} {s : Nat} {ops : Array Oper}
theorem wp_of_ok {R : Value → World → Prop} {K : Act → World → Prop} {Q : Exit → Act → World → Prop} (h : OpOk P o a w R) (hK : ∀ v w', R v w' → K (a.put o.dst v) w') : o.wp P a w K Q := by
 unfold OpOk at h
 unfold Oper.wp
 cases hr : (execOp a.eval o).run P w with
 | halt x w' => rw [hr] at h; exact h.elim
 | ok n w' =>
  rw [hr] at h
  cases n <;> simp only at h <;> simp only [Oper.upon]
  case value v => exact hK _ _ h
  case skip => exact hK _ _ h
  case enter f args => exact h.mono fun e w'' ⟨v, he, hR⟩ => by subst he; exact hK _ _ hR
  all_goals exact h.elim
theorem yielded_some {j t : Nat} {b : Bool} (hj : (ops[j]?).bind (·.dst) = some t) (ht : a.tmps.getD t undef = .bool b) : yielded ops a.tmps j = some b := by
 unfold yielded
 rw [hj]
 simp only [oS_]
 have : a.tmps[t]? = some (.bool b) := by
  rcases Nat.lt_or_ge t a.tmps.size with h | h
  ·simp [Array.getD, h] at ht
   simp [h, ht]
  ·simp [Array.getD, Nat.not_lt.2 h, undef] at ht
 rw [this]
theorem rel_skip (M : Mem) : Rel M undef (.tup []) := .tup #[] [] rfl (by simp)
theorem yielded_none {j t : Nat} (hj : (ops[j]?).bind (·.dst) = some t) (ht : a.tmps.getD t undef = undef) : yielded ops a.tmps j = none := by
 unfold yielded
 rw [hj]
 simp only [oS_]
 rcases Nat.lt_or_ge t a.tmps.size with h | h
 ·have : a.tmps[t]? = some undef := by
   simp [Array.getD, h] at ht
   simp [h, ht]
  rw [this]
  rfl
 ·rw [Array.getElem?_eq_none h]
theorem shOp0_ok (henv : EnvOk P Dw env) (hS : Sim P Dw F0 base M0 w0 N g st a w) (hf : Fresh st s) (hd : ∀ d, o.dst = some d → d < N) {r : C × Option (List V)} (h : shOp0 P env ops s st o = some r)
  {K : Act → World → Prop} {Q : Exit → Act → World → Prop} (hK : ∀ g' v w', Sim P Dw F0 base M0 w0 N g' (st.app s o.dst r) (a.put o.dst v) w' → K (a.put o.dst v) w') :
  if Region.wanted o (yielded ops a.tmps) then o.wp P a w K Q ∨ (o.asks P a w ∧ LetsOut Q) else K (a.put o.dst undef) w := by
 have main : ∀ {r}, stepH P env s st o = some r → (∀ g' v w', Sim P Dw F0 base M0 w0 N g' (st.app s o.dst r) (a.put o.dst v) w' → K (a.put o.dst v) w') → o.wp P a w K Q := fun h hK =>
  wp_of_ok (stepH_ok henv hS h) fun v w' hp => by obtain ⟨g', hg'⟩ := hS.app hf hd hp; exact hK g' v w' hg'
 unfold shOp0 at h
 cases hg : o.guard with
 | none =>
  rw [hg] at h
  rw [if_pos (by simp [Region.wanted, hg])]
  exact .inl (main h hK)
 | some p =>
  rw [hg] at h
  simp only at h
  split at h
  ·rename_i t ht
   have hwant : ∀ b, st.asV (st.φ t) = .lit (.bool b) → Region.wanted o (yielded ops a.tmps) = (b == p.2) := by
    intro b hb
    have h1 := hS.asV (hS.slot t)
    rw [hb] at h1
    have h2 := yielded_some ht (rel_lit h1).1
    unfold Region.wanted
    rw [hg]
    simp only [h2]
    cases b <;> cases hp2 : p.2 <;> rfl
   have hskip : st.asV (st.φ t) = .tup [] → Region.wanted o (yielded ops a.tmps) = false := by
    intro hb
    have h1 := hS.asV (hS.slot t)
    rw [hb] at h1
    obtain ⟨cs, h2, h3, _⟩ := rel_tup h1
    have h4 : cs = #[] := Array.size_eq_zero_iff.1 (by simpa using h3)
    have h5 := yielded_none ht (by rw [h2, h4]; rfl)
    unfold Region.wanted
    rw [hg]
    simp only [h5]
    cases hp2 : p.2 <;> rfl
   split at h
   ·rename_i q hq
    obtain ⟨z, hz, rfl⟩ := oM_ h
    obtain ⟨a1, a2, a3⟩ := addrOp_ok hS hq
    unfold guardV at hz
    split at hz
    ·rename_i b hb
     rw [hwant b hb]
     split at hz
     ·rename_i hb2
      rw [if_pos hb2]
      obtain ⟨v, hv, hr⟩ := a3 z hz
      refine .inl (wp_of_ok (R := fun v' w' => v' = v ∧ w' = w) ?_ fun v' w' h => ?_)
      ·unfold OpOk
       rw [hv]
       exact ⟨rfl, rfl⟩
      ·obtain ⟨rfl, rfl⟩ := h
       exact hK g v' w' (hS.put_ hd (a2 _ _ hr))
     ·rename_i hb2
      rw [if_neg hb2]
      refine hK g undef w (hS.put_ hd (a1 _ _ _ ?_))
      rw [hb]
      simp only [ne_eq, V.lit.injEq, Value.bool.injEq]
      intro e
      subst e
      exact hb2 (by simp)
    ·rename_i hb
     rw [hskip hb, if_neg (by simp)]
     exact hK g undef w (hS.put_ hd (a1 _ _ _ (by rw [hb]; simp)))
    ·cases hz
   obtain ⟨y, hy, rfl⟩ := vres_some h
   unfold guardV at hy
   split at hy
   ·rename_i b hb
    rw [hwant b hb]
    split at hy
    ·rename_i hb2
     rw [if_pos hb2]
     unfold onlyV at hy
     split at hy
     ·rename_i c hc
      simp only [oE_] at hy
      subst hy
      refine .inl (wp_of_ok (stepH_ok henv hS hc) fun v w' hp => ?_)
      obtain ⟨M', hg', hr⟩ := hp
      simp only at hr
      have hS' := hS.grow hg'
      exact hK _ v w' (hS'.put_ hd (hS'.asV hr))
     ·cases hy
    ·rename_i hb2
     rw [if_neg hb2]
     simp only [oE_] at hy
     subst hy
     exact hK g undef w (hS.put_ hd (rel_skip _))
   ·rename_i hb
    rw [hskip hb, if_neg (by simp)]
    simp only [oE_] at hy
    subst hy
    exact hK g undef w (hS.put_ hd (rel_skip _))
   ·cases hy
  ·cases h
theorem shOp_ok (henv : EnvOk P Dw env) (hS : Sim P Dw F0 base M0 w0 N g st a w) (hf : Fresh st s) (hd : ∀ d, o.dst = some d → d < N) {r : C × Option (List V)} (h : shOp P env ops s st o = some r)
  {K : Act → World → Prop} {Q : Exit → Act → World → Prop} (hK : ∀ g' v w', Sim P Dw F0 base M0 w0 N g' (st.app s o.dst r) (a.put o.dst v) w' → K (a.put o.dst v) w') :
  if Region.wanted o (yielded ops a.tmps) then o.wp P a w K Q ∨ (o.asks P a w ∧ LetsOut Q) else K (a.put o.dst undef) w := by
 unfold shOp at h
 cases hq : callGd st o with
 | none => rw [hq] at h; exact shOp0_ok henv hS hf hd h hK
 | some q =>
  rw [hq] at h
  simp only at h
  obtain ⟨args, tys, hop, hl⟩ := callGd_op (f := q.1) (l := q.2) hq
  cases hg : o.guard with
  | none =>
   rw [hg] at h
   simp only at h
   obtain ⟨y, hy, rfl⟩ := vres_some h
   rw [if_pos (by simp [Region.wanted, hg])]
   rw [hl] at hy
   exact .inl (wp_of_ok (callB_ok henv hS hd hop (st' := st.put o.dst (.v y)) (by unfold callB; rw [hy]; rfl)) fun v w' hp => by obtain ⟨g', hg'⟩ := hp; exact hK g' v w' hg')
  | some p =>
   rw [hg] at h
   simp only at h
   split at h
   ·rename_i t ht
    obtain ⟨y, hy, rfl⟩ := vres_some h
    unfold guardV at hy
    split at hy
    ·rename_i b hb
     have hw1 : Region.wanted o (yielded ops a.tmps) = (b == p.2) := by
      have h1 := hS.asV (hS.slot t)
      rw [hb] at h1
      have h2 := yielded_some ht (rel_lit h1).1
      unfold Region.wanted
      rw [hg]
      simp only [h2]
      cases b <;> cases hp2 : p.2 <;> rfl
     rw [hw1]
     split at hy
     ·rename_i hb2
      rw [if_pos hb2]
      rw [hl] at hy
      exact .inl (wp_of_ok (callB_ok henv hS hd hop (st' := st.put o.dst (.v y)) (by unfold callB; rw [hy]; rfl)) fun v w' hp => by obtain ⟨g', hg'⟩ := hp; exact hK g' v w' hg')
     ·rename_i hb2
      rw [if_neg hb2]
      simp only [oE_] at hy
      subst hy
      exact hK g undef w (hS.put_ hd (rel_skip _))
    ·rename_i hb
     have hw1 : Region.wanted o (yielded ops a.tmps) = false := by
      have h1 := hS.asV (hS.slot t)
      rw [hb] at h1
      obtain ⟨cs, h2, h3, _⟩ := rel_tup h1
      have h4 : cs = #[] := Array.size_eq_zero_iff.1 (by simpa using h3)
      have h5 := yielded_none ht (by rw [h2, h4]; rfl)
      unfold Region.wanted
      rw [hg]
      simp only [h5]
      cases hp2 : p.2 <;> rfl
     rw [hw1, if_neg (by simp)]
     simp only [oE_] at hy
     subst hy
     exact hK g undef w (hS.put_ hd (rel_skip _))
    ·cases hy
   ·cases h
theorem skipZ_at : ∀ {l : List (V × Option Nat)} {i : Nat} {x : V} {s : Nat}, l[i]? = some (x, some s) → (skipZ l)[i]? = some x
 | [], i, x, s, h => by simp at h
 | (y, none) :: r, 0, x, s, h => by simp at h
 | (y, some s0) :: r, 0, x, s, h => by simp at h; simp [skipZ, h.1]
 | (y, none) :: r, i + 1, x, s, h => by simp only [skipZ, List.getElem?_cons_succ]; exact skipZ_at (by simpa using h)
 | (y, some s0) :: r, i + 1, x, s, h => by simp only [skipZ, List.getElem?_cons_succ]; exact skipZ_at (by simpa using h)
theorem afterO_skip {l : List (V × Option Nat)} (hnd : nodupO (sitesO l) = true) (h : ∀ (i : Nat) (x : V) (s : Nat), l[i]? = some (x, some s) → st.ow s = some x) :
  afterO st l (.tup (.tup [] :: skipZ l)) = { st with φ := fun t => killS (sitesO l) (st.φ t) } := by
 unfold afterO
 congr 1
 funext s1
 by_cases hm : s1 ∈ sitesO l
 ·obtain ⟨i, x, h2⟩ := sitesO_mem.1 hm
  rw [backO_at hnd h2, h i x s1 h2, Nat.zero_add]
  simp only [tupAt, List.getD, List.getElem?_cons_succ, skipZ_at h2, Option.getD_some]
 ·rw [backO_no hm]
theorem Sim.killed (hS : Sim P Dw F0 base M0 w0 N g st a w) (ss : List Nat) : Sim P Dw F0 base M0 w0 N g { st with φ := fun t => killS ss (st.φ t) } a w := by
 refine { hS with slot := fun t => ?_ }
 have h := hS.slot t
 show RelC _ _ (killS ss (st.φ t))
 unfold killS
 split
 ·split
  ·exact .any _
  ·rename_i hφ _; rw [← hφ]; exact h
 ·split
  ·exact .any _
  ·rename_i hφ _; rw [← hφ]; exact h
 ·exact h
theorem callGF_op {f : FuncId} {l : List Operand} (h : callGF o = some (f, l)) : ∃ args tys, o.op = .call ⟨.value (.func f), args, tys⟩ ∧ args.toList = l := by
 unfold callGF at h
 split at h
 ·rename_i f' args tys hop
  simp only [oE_, Prod.mk.injEq] at h
  obtain ⟨rfl, rfl⟩ := h
  exact ⟨_, _, hop, rfl⟩
 ·cases h
theorem bareL_at : ∀ {l : List C} {i : Nat} {c : C}, (bareL l)[i]? = some c → ∃ c0, l[i]? = some c0 ∧ c = bareC c0
 | [], i, c, h => by simp [bareL] at h
 | c0 :: r, 0, c, h => ⟨c0, rfl, by simpa [bareL] using h.symm⟩
 | c0 :: r, i + 1, c, h => by simpa using bareL_at (l := r) (i := i) (by simpa [bareL] using h)
theorem bareL_len : ∀ l : List C, (bareL l).length = l.length
 | [] => rfl
 | c :: r => by simp [bareL, bareL_len r]
theorem gatesL_at : ∀ {l : List C} {i : Nat} {c : C}, l[i]? = some c → ∀ p ∈ gatesC c, p ∈ gatesL l
 | [], i, c, h => by simp at h
 | c0 :: r, 0, c, h => by simp at h; subst h; intro p hp; simp [gatesL, hp]
 | c0 :: r, i + 1, c, h => fun p hp => by simp only [gatesL, List.mem_append]; exact .inr (gatesL_at (l := r) (i := i) (by simpa using h) p hp)
theorem bareC_rel {v : Value} {c : C} (h : RelC g v c) (hg : ∀ p ∈ gatesC c, p.1 = .lit (.bool p.2)) : RelC g v (bareC c) := by
 unfold bareC
 unfold gatesC at hg
 split
 ·exact fun _ => h hg
 ·exact fun _ => h hg
 ·exact h
theorem skip_sites (hS : Sim P Dw F0 base M0 w0 N g st a w) : ∀ {cs : List C} {l : List (V × Option Nat)}, argsO st cs = some l → ∀ (i : Nat) (x : V) (s : Nat), l[i]? = some (x, some s) → st.ow s = some x
 | [], l, h, i, x, s, hi => by
  simp only [argsO, oE_] at h
  subst h; simp at hi
 | c :: r, l, h, i, x, s, hi => by
  simp only [argsO] at h
  obtain ⟨q, hq, h⟩ := oB_ h
  obtain ⟨l', hl', rfl⟩ := oM_ h
  cases i with
  | zero =>
   simp at hi
   subst hi
   unfold argO at hq
   split at hq
   ·obtain ⟨x0, hx, e⟩ := oM_ hq
    simp only [Prod.mk.injEq, oE_] at e
    obtain ⟨rfl, rfl⟩ := e
    exact hx
   ·obtain ⟨x0, hx, h⟩ := oB_ hq
    obtain ⟨y, hy, e⟩ := oM_ h
    simp only [Prod.mk.injEq, oE_] at e
    obtain ⟨rfl, rfl⟩ := e
    exact hx
   ·simp at hq
  | succ i => exact skip_sites hS hl' i x s (by simpa using hi)
theorem callGO_ok (henv : EnvOk P Dw env) (hS : Sim P Dw F0 base M0 w0 N g st a w) (hf : Fresh st s) (hd : ∀ d, o.dst = some d → d < N) {p : Nat × Bool} (hg : o.guard = some p) {t : Nat} (ht : (ops[p.1]?).bind (·.dst) = some t) {q : FuncId × List Operand} (hq : callGF o = some q) {st' : St}
  (h : callGO env st o.dst q.1 q.2 (st.asV (st.φ t)) p.2 = some st') {K : Act → World → Prop} {Q : Exit → Act → World → Prop} (hK : ∀ g' v w', Sim P Dw F0 base M0 w0 N g' st' (a.put o.dst v) w' → K (a.put o.dst v) w') :
  if Region.wanted o (yielded ops a.tmps) then o.wp P a w K Q ∨ (o.asks P a w ∧ LetsOut Q) else K (a.put o.dst undef) w := by
 unfold callGO at h
 obtain ⟨l, hl, h⟩ := oB_ h
 split at h
 rotate_left
 ·cases h
 rename_i hnd
 obtain ⟨z, hz, h⟩ := oB_ h
 split at h
 ·cases h
 rename_i hrf
 split at h
 ·cases h
 rename_i d hdst
 obtain ⟨y, hy, rfl⟩ := oM_ h
 obtain ⟨args, tys, hop, hargs⟩ := callGF_op (f := q.1) (l := q.2) hq
 have skip : z = .tup (.tup [] :: skipZ l) → K (a.put o.dst undef) w := fun e => by
  subst e
  rw [afterO_skip hnd (skip_sites hS hl)] at hK
  have : y = .tup [] := by
   simp only [tupAt, List.getD, List.getElem?_cons_zero, Option.getD_some] at hy
   exact (oJ_ hy).symm
  subst this
  refine hK g undef w ?_
  rw [hdst]
  exact (hS.killed _).put_ (fun d' hd' => hd d' (by rw [hdst, hd'])) (rel_skip _)
 unfold guardZ at hz
 split at hz
 ·rename_i b hb
  have hw1 : Region.wanted o (yielded ops a.tmps) = (b == p.2) := by
   have h1 := hS.asV (hS.slot t)
   rw [hb] at h1
   have h2 := yielded_some ht (rel_lit h1).1
   unfold Region.wanted
   rw [hg]
   simp only [h2]
   cases b <;> cases hp2 : p.2 <;> rfl
  rw [hw1]
  split at hz
  ·rename_i hb2
   rw [if_pos hb2]
   obtain ⟨hgs, hz⟩ := gateL_some hz
   have hc : callOC env s st o.dst q.1 (bareL (q.2.map st.ev)) = some ((afterO st l z).put (some d) (.v y)) := by
    unfold callOC
    rw [hl]
    simp only [oS_]
    rw [hnd]
    simp only
    rw [hz]
    simp only [oS_]
    rw [hrf, hdst]
    simp only
    rw [hy]
    rfl
   rw [← hargs] at hc hgs
   refine .inl (wp_of_ok (callOC_ok henv hS hf hd hop (by simp [bareL_len]) (fun i x c hx hc => ?_) hc) fun v w' ⟨g', hg'⟩ => hK g' v w' hg')
   obtain ⟨c0, h0, rfl⟩ := bareL_at hc
   have hgc := gatesL_at h0
   rw [List.getElem?_map, hx] at h0
   obtain rfl := oJ_ h0
   exact bareC_rel (hS.ev x) fun p hp => hgs p (hgc p hp)
  ·rename_i hb2
   rw [if_neg hb2]
   exact skip (oJ_ hz).symm
 ·rename_i hb
  have hw1 : Region.wanted o (yielded ops a.tmps) = false := by
   have h1 := hS.asV (hS.slot t)
   rw [hb] at h1
   obtain ⟨cs, h2, h3, _⟩ := rel_tup h1
   have h4 : cs = #[] := Array.size_eq_zero_iff.1 (by simpa using h3)
   have h5 := yielded_none ht (by rw [h2, h4]; rfl)
   unfold Region.wanted
   rw [hg]
   simp only [h5]
   cases hp2 : p.2 <;> rfl
  rw [hw1, if_neg (by simp)]
  exact skip (oJ_ hz).symm
 ·cases hz
theorem shT_ok (henv : EnvOk P Dw env) (hS : Sim P Dw F0 base M0 w0 N g st a w) (hf : Fresh st s) (hd : ∀ d, o.dst = some d → d < N) {st' : St} (h : shT P env ops s st o = some st')
  {K : Act → World → Prop} {Q : Exit → Act → World → Prop} (hK : ∀ g' v w', Sim P Dw F0 base M0 w0 N g' st' (a.put o.dst v) w' → K (a.put o.dst v) w') :
  if Region.wanted o (yielded ops a.tmps) then o.wp P a w K Q ∨ (o.asks P a w ∧ LetsOut Q) else K (a.put o.dst undef) w := by
 unfold shT at h
 cases hg : o.guard with
 | some p =>
  rw [hg] at h
  simp only at h
  split at h
  ·split at h
   ·rename_i t q ht hq
    exact callGO_ok henv hS hf hd hg ht hq h hK
   ·cases h
  obtain ⟨r, hr, rfl⟩ := oM_ h
  exact shOp_ok henv hS hf hd hr hK
 | none =>
  rw [hg] at h
  simp only at h
  rw [if_pos (by simp [Region.wanted, hg])]
  refine .inl ?_
  have gen : ∀ r, stepH P env s st o = some r → st.app s o.dst r = st' → o.wp P a w K Q := fun r hr e =>
   wp_of_ok (stepH_ok henv hS hr) fun v w' hp => by obtain ⟨g', hg'⟩ := hS.app hf hd hp; rw [e] at hg'; exact hK g' v w' hg'
  unfold stepT at h
  split at h
  ·rename_i q hq
   subst h
   obtain ⟨n, v, w', g', h1, h2, h3⟩ := ownOp_ok hS hf hd hq
   unfold Oper.wp
   rw [h1]
   rcases h2 with rfl | ⟨rfl, rfl⟩
   ·exact hK g' v w' h3
   ·exact hK g' undef w' h3
  split at h
  ·rename_i q hq
   subst h
   exact wp_of_ok (mOp_ok henv hS hf hd hq) fun v w' ⟨g', hg'⟩ => hK g' v w' hg'
  unfold stepT0 at h
  split at h
  ·rename_i t x y hop
   obtain ⟨w', h1, h2⟩ := storeT_ok hS hd h
   have : (execOp a.eval o).run P w = .ok .skip w' := by simp [execOp, hop, h1]
   unfold Oper.wp
   rw [this]
   exact hK g undef w' h2
  ·rename_i args tys hop
   split at h
   ·rename_i x y t t' hx ht
    split at h
    ·rename_i e
     obtain rfl : t' = t := e
     obtain ⟨v, w', g', h1, h2⟩ := appendT_ok (ty := o.type) hS hf hd h
     have ea : args = #[x, y] := by apply Array.toList_inj.1; exact hx
     have et : tys = #[t', t'] := by apply Array.toList_inj.1; exact ht
     subst ea et
     have e3 : Array.map a.eval #[x, y] = #[a.eval x, a.eval y] := by simp
     have : (execOp a.eval o).run P w = .ok (.value v) w' := by
      simp only [execOp, hop, resolve, pure_bind, invoke, builtin, e3]
      simp [h1]
     unfold Oper.wp
     rw [this]
     exact hK g' v w' h2
    ·cases h
   ·cases h
  ·obtain ⟨r, hr, e⟩ := oM_ h
   exact gen r hr e
theorem constC_site (v : Value) : (constC v).site = none := by
 unfold constC
 split
 ·rfl
 ·split <;> rfl
 ·rfl
 ·rfl
theorem ev_site {s2 : Nat} (hf : Fresh st s2) (x : Operand) : (st.ev x).site ≠ some s2 := by
 cases x with
 | tmp t => exact hf.1 t
 | const v => simp only [St.ev, constC_site]; simp
 | global n => simp [St.ev, C.site]
 | func f => simp [St.ev, C.site]
theorem ev_nbox {s2 : Nat} (hf : Fresh st s2) (x : Operand) (o : Off) : st.ev x ≠ .box s2 o := fun e => ev_site hf x (by rw [e]; rfl)
theorem vres_site {x : Option V} {r : C × Option (List V)} (h : vres x = some r) : ∃ y, r = (.v y, none) := by
 obtain ⟨y, _, h⟩ := vres_some h
 exact ⟨y, h⟩
theorem addrOp_site {s2 : Nat} {r : C × Option V} (h : addrOp P st o = some r) (hf : Fresh st s2) : r.1.site ≠ some s2 ∧ ∀ z, (r.1.addG z).site ≠ some s2 := by
 unfold addrOp at h
 have key : ∀ x, ∀ r : C × Option V, r.1.site = (st.ev x).site → (∀ z, (r.1.addG z).site = r.1.site) → r.1.site ≠ some s2 ∧ ∀ z, (r.1.addG z).site ≠ some s2 := fun x r h1 h2 => ⟨by rw [h1]; exact ev_site hf x, fun z => by rw [h2, h1]; exact ev_site hf x⟩
 split at h
 ·rename_i t x f
  split at h
  ·split at h
   ·rename_i hc
    simp only [oE_] at h
    subst h
    exact key _ _ (congrArg C.site hc).symm (fun _ => rfl)
   ·rename_i hc
    simp only [oE_] at h
    subst h
    exact key _ _ (congrArg C.site hc).symm (fun _ => rfl)
   ·cases h
  ·cases h
 ·rename_i t x i
  split at h
  ·rename_i hc
   split at h
   ·simp only [oE_] at h
    subst h
    exact key _ _ (congrArg C.site hc).symm (fun _ => rfl)
   ·cases h
  ·rename_i hc
   split at h
   ·split at h
    ·simp only [oE_] at h
     subst h
     exact key _ _ (congrArg C.site hc).symm (fun _ => rfl)
    ·split at h
     ·simp only [oE_] at h
      subst h
      exact key _ _ (congrArg C.site hc).symm (fun _ => rfl)
     ·cases h
   ·cases h
  ·cases h
 ·rename_i t x
  split at h
  ·split at h
   ·split at h
    ·rename_i hc
     simp only [oE_] at h
     subst h
     exact key _ _ (congrArg C.site hc).symm (fun _ => rfl)
    ·cases h
   ·cases h
  ·cases h
 ·rename_i x
  split at h
  ·split at h
   ·rename_i hc
    simp only [oE_] at h
    subst h
    exact key _ _ (congrArg C.site hc).symm (fun _ => rfl)
   ·rename_i hc
    simp only [oE_] at h
    subst h
    exact key _ _ (congrArg C.site hc).symm (fun _ => rfl)
   ·cases h
  ·cases h
 ·rename_i x
  split at h
  ·rename_i hc
   simp only [oE_] at h
   subst h
   exact key _ _ (congrArg C.site hc).symm (fun _ => rfl)
  ·rename_i hc
   simp only [oE_] at h
   subst h
   exact key _ _ (congrArg C.site hc).symm (fun _ => rfl)
  ·rename_i hc
   simp only [oE_] at h
   subst h
   exact key _ _ (congrArg C.site hc).symm (fun _ => rfl)
  ·cases h
 ·cases h
theorem stepH_site {s2 : Nat} {r : C × Option (List V)} (h : stepH P env s st o = some r) (hf : Fresh st s2) (hne : s2 ≠ s) : r.1.site ≠ some s2 := by
 unfold stepH at h
 split at h
 ·rename_i q hq
  obtain ⟨z, hz, h1⟩ := oB_ h
  simp only [oE_] at h1
  subst h1
  exact (addrOp_site hq hf).1
 rename_i hnone
 clear hnone
 have hv : ∀ {x : Option V}, vres x = some r → r.1.site ≠ some s2 := fun hx => by
  obtain ⟨y, rfl⟩ := vres_site hx
  simp [C.site]
 have hb : ∀ {z : List V}, (C.box s ⟨[], 0⟩, some z) = r → r.1.site ≠ some s2 := fun hx => by
  subst hx
  simp only [C.site, ne_eq, oE_]
  exact fun e => hne e.symm
 have hev := fun x => ev_site (x := x) hf
 obtain ⟨dst, op, ty, pos, after, guard⟩ := o
 unfold stepB at h
 simp only at h
 split at h
 case h_1 x => simp only [oE_] at h; subst h; exact hev x
 case h_2 x => simp only [oE_] at h; subst h; exact hev x
 case h_5 t x f =>
  obtain ⟨p, hp, h1⟩ := oB_ h
  split at h1
  ·cases h1
  ·obtain ⟨c, hc, rfl⟩ := oM_ h1
   cases hx : st.ev x with
   | v z =>
    rw [hx] at hc
    simp only [fieldC, Option.map_eq_some_iff] at hc
    obtain ⟨z', _, rfl⟩ := hc
    simp [C.site]
   | _ => rw [hx] at hc; simp [fieldC] at hc
 all_goals first
  | exact hv h
  | (obtain ⟨z, _, e⟩ := oM_ h; exact hb e)
  | (split at h <;> first | exact hv h | cases h | (split at h <;> first | exact hv h | cases h | (unfold rowB at h; split at h <;> first | cases h | (obtain ⟨p, _, h⟩ := oB_ h; obtain ⟨z, _, e⟩ := oM_ h; subst e; simp only [C.site, ne_eq, oE_]; exact fun e => hne e.symm))) | (obtain ⟨p, _, h1⟩ := oB_ h; exact hv h1))
  | cases h
theorem app_fresh {s2 : Nat} {dst : Option Nat} {r : C × Option (List V)} (hf : Fresh st s2) (hne : s2 ≠ s) (hr : r.1.site ≠ some s2) : Fresh (st.app s dst r) s2 := by
 obtain ⟨c, b⟩ := r
 simp only at hr
 have hput : ∀ st : St, Fresh st s2 → Fresh (st.put dst c) s2 := fun st hf => by
  cases dst with
  | none => exact hf
  | some d =>
   refine ⟨fun t => ?_, hf.2⟩
   simp only [St.put, upd]
   split
   ·exact hr
   ·exact hf.1 t
 cases b with
 | none => exact hput st hf
 | some l =>
  have hb : Fresh { st with bx := upd st.bx s (some l) } s2 := ⟨hf.1, by simp only [upd_ne _ _ hne]; exact hf.2.1, hf.2.2⟩
  have hr2 : Fresh { st with rw := upd st.rw s (some (tagE l, tagR l)) } s2 := ⟨hf.1, hf.2.1, by simp only [upd_ne _ _ hne]; exact hf.2.2.1, hf.2.2.2⟩
  cases c with
  | row _ => exact hput _ hr2
  | _ => exact hput _ hb
theorem shOp0_site {s2 : Nat} {r : C × Option (List V)} (h : shOp0 P env ops s st o = some r) (hf : Fresh st s2) (hne : s2 ≠ s) : r.1.site ≠ some s2 := by
 unfold shOp0 at h
 split at h
 ·exact stepH_site h hf hne
 ·split at h
  ·split at h
   ·rename_i q hq
    obtain ⟨z, _, rfl⟩ := oM_ h
    exact (addrOp_site hq hf).2 _
   ·obtain ⟨y, rfl⟩ := vres_site h
    simp [C.site]
  ·cases h
theorem shOp_site {s2 : Nat} {r : C × Option (List V)} (h : shOp P env ops s st o = some r) (hf : Fresh st s2) (hne : s2 ≠ s) : r.1.site ≠ some s2 := by
 unfold shOp at h
 split at h
 ·split at h
  ·obtain ⟨y, rfl⟩ := vres_site h
   simp [C.site]
  ·split at h
   ·obtain ⟨y, rfl⟩ := vres_site h
    simp [C.site]
   ·cases h
 ·exact shOp0_site h hf hne
theorem dropRow_none {s2 : Nat} {c : C} (h : st.rw s2 = none) : dropRow st c s2 = none := by
 cases c <;> simp only [dropRow, h]
 rename_i r
 unfold upd
 split
 ·rfl
 ·exact h
theorem shT_fresh {s2 : Nat} {st' : St} (h : shT P env ops s st o = some st') (hf : Fresh st s2) (hne : s2 ≠ s) : Fresh st' s2 := by
 have hany : ∀ st : St, Fresh st s2 → Fresh (st.put o.dst (.v .any)) s2 := fun st hf => app_fresh (s := s) (r := (.v .any, none)) (dst := o.dst) hf hne (by simp [C.site])
 unfold shT at h
 split at h
 ·unfold stepT at h
  split at h
  ·rename_i q hq
   subst h
   exact ownOp_fresh hq hf hne
  split at h
  ·rename_i q hq
   subst h
   exact mOp_fresh hq hf hne
  unfold stepT0 at h
  split at h
  ·unfold storeT at h
   split at h
   ·rename_i s' off hev
    obtain ⟨z9, hz9, h9⟩ := oB_ h
    obtain ⟨l, hl, h1⟩ := oB_ h9
    obtain ⟨cs, hcs, h2⟩ := oB_ h1
    obtain ⟨k, hk, h3⟩ := oB_ h2
    obtain ⟨l', hl', e9⟩ := oM_ h3
    subst e9
    have hne2 : s2 ≠ s' := fun e => ev_nbox hf _ _ (by rw [hev, e])
    exact hany _ ⟨hf.1, by simp only [upd_ne _ _ hne2]; exact hf.2.1, hf.2.2⟩
   ·cases h
  ·split at h
   ·split at h
    ·unfold appendT at h
     obtain ⟨pp, hel, h1⟩ := oB_ h
     obtain ⟨rows, hrows, h2⟩ := oB_ h1
     obtain ⟨rows', happ, h3⟩ := oM_ h2
     subst h3
     refine app_fresh (s := s) (r := (.row s, none)) (dst := o.dst) (st := { st with rw := _ }) ⟨hf.1, hf.2.1, ?_, hf.2.2.2⟩ hne (by simp only [C.site, ne_eq, oE_]; exact fun e => hne e.symm)
     simp only [upd_ne _ _ hne]
     exact dropRow_none hf.2.2.1
    ·cases h
   ·cases h
  ·obtain ⟨r, hr, rfl⟩ := oM_ h
   exact app_fresh hf hne (stepH_site hr hf hne)
 ·split at h
  ·split at h
   ·unfold callGO at h
    obtain ⟨l, hl, h⟩ := oB_ h
    split at h
    rotate_left
    ·cases h
    obtain ⟨z, hz, h⟩ := oB_ h
    have hA : Fresh (afterO st l z) s2 := by
     refine ⟨fun t => killS_site (hf.1 t), hf.2.1, hf.2.2.1, ?_, hf.2.2.2.2⟩
     show backO z l 0 st.ow s2 = none
     rw [backO_no (fun hm => by obtain ⟨x, hx⟩ := argsO_alive hl s2 hm; rw [hf.2.2.2.1] at hx; cases hx)]
     exact hf.2.2.2.1
    split at h
    ·cases h
    split at h
    ·cases h
    obtain ⟨y, hy, rfl⟩ := oM_ h
    exact put_fresh hA (by simp [C.site])
   ·cases h
  obtain ⟨r, hr, rfl⟩ := oM_ h
  exact app_fresh hf hne (shOp_site hr hf hne)
theorem stepB_congr {st' : St} (hev : ∀ x ∈ o.op.operands.toList, st'.ev x = st.ev x) (hbx : ∀ x s' off, st.ev x = .box s' off → st'.bx s' = st.bx s') (hrw : ∀ x ∈ o.op.operands.toList, st'.asV (st.ev x) = st.asV (st.ev x)) (how : st'.ow = st.ow) (hrf : st'.rf = st.rf) : stepB P env s st' o = stepB P env s st o := by
 have hrd : ∀ x ∈ o.op.operands.toList, st'.rd x = st.rd x := fun x hx => by unfold St.rd; rw [hev x hx, hrw x hx]
 obtain ⟨dst, op, ty, pos, after, guard⟩ := o
 have hisrf : ∀ d, st'.isRf d = st.isRf d := fun d => by unfold St.isRf; rw [hrf]
 unfold stepB
 cases op <;> simp only [] <;> try rfl
 case move x => rw [hev x (by simp [Op.operands])]
 case assign x => rw [hev x (by simp [Op.operands])]
 case pick c x y => rw [hrd c (by simp [Op.operands]), hrd x (by simp [Op.operands]), hrd y (by simp [Op.operands])]
 case box t x => rw [hrd x (by simp [Op.operands])]
 case build t parts =>
  have : (parts.toList.map fun p => (p.1, st'.rd p.2)) = parts.toList.map fun p => (p.1, st.rd p.2) := List.map_congr_left fun p hp => by rw [hrd p.2 (by simp [Op.operands]; exact ⟨p.1, by simpa using hp⟩)]
  rw [this]
 case buildSlice t n parts =>
  have : (parts.toList.map fun p => (p.1, st'.rd p.2)) = parts.toList.map fun p => (p.1, st.rd p.2) := List.map_congr_left fun p hp => by rw [hrd p.2 (by simp [Op.operands]; exact ⟨p.1, by simpa using hp⟩)]
  rw [this]
 case load t x =>
  have : loadC P st' t (st'.ev x) = loadC P st t (st.ev x) := by
   rw [hev x (by simp [Op.operands])]
   unfold loadC
   cases hx : st.ev x with
   | box s' off => simp only; rw [hbx x s' off hx]
   | v z => rfl
   | nil => rfl
   | row r => rfl
   | adr s2 p q gs => simp only [nodeR, how]
   | ref s2 p gs => rfl
  rw [this]
 case nilCheck x => rw [hrd x (by simp [Op.operands])]
 case binOp op t x y yt => rw [hrd x (by simp [Op.operands]), hrd y (by simp [Op.operands])]
 case unOp op t x => rw [hrd x (by simp [Op.operands])]
 case convert a b x => rw [hev x (by simp [Op.operands]), hrd x (by simp [Op.operands])]; simp only [rowsR, how]
 case makeInterface t x => rw [hrd x (by simp [Op.operands])]
 case lookup t m k ok => rw [hev m (by simp [Op.operands]), hrd k (by simp [Op.operands])]; simp only [lookC, how]
 case makeFunc f first caps =>
  cases f <;> simp only []
  have : caps.toList.map st'.rd = caps.toList.map st.rd := List.map_congr_left fun p hp => hrd p (by simp [Op.operands]; exact .inr (by simpa using hp))
  rw [this]
 case slice t x lo hi mx =>
  cases mx <;> simp only []
  have h1 : lo.map st'.rd = lo.map st.rd := by cases lo <;> simp; exact hrd _ (by simp [Op.operands])
  have h2 : hi.map st'.rd = hi.map st.rd := by cases hi <;> simp; exact hrd _ (by simp [Op.operands])
  rw [h1, h2, hrd x (by simp [Op.operands])]
 case fieldAddr t x f => rw [hev x (by simp [Op.operands])]
 case field t x f => rw [hrd x (by simp [Op.operands])]
 case indexAddr t x i => rw [hrd x (by simp [Op.operands]), hrd i (by simp [Op.operands])]
 case index t x i => rw [hrd x (by simp [Op.operands]), hrd i (by simp [Op.operands])]
 case extract x i => rw [hrd x (by simp [Op.operands])]
 case call c =>
  obtain ⟨callee, args, tys⟩ := c
  have hargs : args.toList.map st'.rd = args.toList.map st.rd := List.map_congr_left fun p hp => hrd p (by simp [Op.operands, Call.operands]; exact .inr (by simpa using hp))
  cases callee with
  | invoke r m => rfl
  | builtin b =>
   have hevs : args.toList.map st'.ev = args.toList.map st.ev := List.map_congr_left fun p hp => hev p (by simp [Op.operands, Call.operands]; simpa using hp)
   cases b <;> simp only [] <;> try rfl
   ·have hA : (args.toList.map st.ev).map st'.asV = (args.toList.map st.ev).map st.asV := by
     rw [List.map_map, List.map_map]
     exact List.map_congr_left fun p hp => hrw p (by simp [Op.operands, Call.operands]; simpa using hp)
    have key : ∀ cs : List C, cs.map st'.asV = cs.map st.asV → lenR P st' tys cs = lenR P st tys cs := fun cs hA => by
     unfold lenR
     split
     ·simp only [rowsR, how]
     ·rw [hA]
    rw [hevs, key _ hA]
   all_goals
    split
    ·rename_i x y hxy
     rw [hrd x (by simp [Op.operands, Call.operands]; have : x ∈ args.toList := by rw [hxy]; simp
                   simpa using this), hrd y (by simp [Op.operands, Call.operands]; have : y ∈ args.toList := by rw [hxy]; simp
                                                simpa using this)]
    ·rfl
  | value f =>
   simp only []
   rw [hrd f (by simp [Op.operands, Call.operands]), hargs, hisrf]
theorem addrOp_congr {st' : St} (hev : ∀ x ∈ o.op.operands.toList, st'.ev x = st.ev x) (hrw : ∀ x ∈ o.op.operands.toList, st'.asV (st.ev x) = st.asV (st.ev x)) (how : st'.ow = st.ow) (hrf : st'.rf = st.rf) : addrOp P st' o = addrOp P st o := by
 have hrd : ∀ x ∈ o.op.operands.toList, st'.rd x = st.rd x := fun x hx => by unfold St.rd; rw [hev x hx, hrw x hx]
 obtain ⟨dst, op, ty, pos, after, guard⟩ := o
 have hisrf : st'.isRf dst = st.isRf dst := by unfold St.isRf; rw [hrf]
 unfold addrOp
 cases op <;> simp only [] <;> try rfl
 case load t x => rw [hev x (by simp [Op.operands])]; simp only [hisrf, nodeR, how]
 case move x => rw [hev x (by simp [Op.operands])]
 case fieldAddr t x f => rw [hev x (by simp [Op.operands])]
 case nilCheck x => rw [hev x (by simp [Op.operands])]; simp only [how]
 case indexAddr t x i => rw [hev x (by simp [Op.operands]), hrd i (by simp [Op.operands])]; simp only [rowsR, how]
theorem stepH_congr {st' : St} (hev : ∀ x ∈ o.op.operands.toList, st'.ev x = st.ev x) (hbx : ∀ x s' off, st.ev x = .box s' off → st'.bx s' = st.bx s') (hrw : ∀ x ∈ o.op.operands.toList, st'.asV (st.ev x) = st.asV (st.ev x)) (how : st'.ow = st.ow) (hrf : st'.rf = st.rf) : stepH P env s st' o = stepH P env s st o := by
 unfold stepH
 rw [addrOp_congr hev hrw how hrf, stepB_congr hev hbx hrw how hrf]
end
end Go.Proofs.YtgkohnjpnnofhaaGreat.Den
