/- A region that draws its order and in which memory is made at any time (an alloc, a slice literal, a call that hands back a row of its own), its last operations in one forced order: one walk serves every order. What is made is told by a table T, operation by operation: which shape its value has (S), what holds of it in memory from then on (R). -/
import Derived.Test.YtpjadjoekdcjiaaQuiet
namespace Go.Proofs.Ytpjadjoekdcjiaa
open Go.RowKit

def Ext (w w' : World) : Prop := Below w.heap.size w w'
theorem Ext.refl (w : World) : Ext w w := Below.refl _ _
theorem Ext.trans {a b c : World} (h : Ext a b) (k : Ext b c) : Ext a c := Below.trans h (k.mono h.size)

abbrev LSpec := (Value → Prop) × (Value → World → Prop)
abbrev KL := Act → (World → Prop) → Prop
def MonoF (F : World → Prop) : Prop := ∀ w w', F w → Ext w w' → F w'
def AntiK (K : KL) : Prop := ∀ a F F', (∀ w, F' w → F w) → K a F → K a F'

def looseUpon (P : Program) (w : World) (S : Value → Prop) (R : Value → World → Prop) : Result Next → Prop
  | .ok (.value u) w' => S u ∧ R u w' ∧ Ext w w'
  | .ok (.enter f args) w' => w' = w ∧ Calls P f args w (fun e w'' => ∃ u, e = .returned u ∧ S u ∧ R u w'' ∧ Ext w w'')
  | _ => False
/-- operations that never call a Go function and hand back a value -/
def plainOp : Op → Bool
  | .move _ | .assign _ | .pick .. | .load .. | .binOp .. | .unOp .. | .convert .. | .makeInterface .. | .makeFunc .. | .slice .. | .fieldAddr .. | .field .. | .indexAddr .. | .index .. | .lookup .. | .extract .. => true
  | .call { callee := .builtin .len, .. } => true
  | _ => false
theorem run_v {P : Program} {s : Sem Value} {w w' : World} {n : Next} (h : Sem.run P (do pure (Next.value (← s)) : Sem Next) w = .ok n w') : ∃ u, n = .value u := by
  rw [Sem.run_bind] at h
  cases hs : s.run P w with
  | ok u w1 => rw [hs] at h; simp only [Result.andThen_ok, Sem.run_pure, Result.ok.injEq] at h; exact ⟨u, h.1.symm⟩
  | halt x w1 => rw [hs] at h; simp [Result.andThen] at h
theorem plain_call {P : Program} {ρ : Operand → Value} {c : Call} {ty : TypeId} (ho : plainOp (.call c) = true) {w w' : World} {n : Next} (h : Sem.run P (do let d ← resolve ρ c ty; invoke d.target d.args) w = .ok n w') : ∃ u, n = .value u := by
  obtain ⟨callee, args, tys⟩ := c
  cases callee with
  | value f => exact absurd ho (by simp [plainOp])
  | invoke r m => exact absurd ho (by simp [plainOp])
  | builtin b =>
    cases b <;> first
      | (simp only [plainOp, Bool.false_eq_true] at ho; done)
      | (simp only [resolve, invoke, builtin, Sem.run_bind, Sem.run_pure, Result.andThen_ok] at h
         cases hs : Sem.run P (Builtin.len_ tys ty (Array.map ρ args)) w with
         | ok u w1 => rw [hs] at h; simp only [Result.andThen_ok, Result.ok.injEq] at h; exact ⟨u, h.1.symm⟩
         | halt x w1 => rw [hs] at h; simp [Result.andThen] at h)
theorem plain_value {P : Program} {a : Act} {o : Oper} (ho : plainOp o.op = true) {w w' : World} {n : Next} (h : (execOp a.eval o).run P w = .ok n w') : ∃ u, n = .value u := by
  unfold execOp at h
  obtain ⟨dst, op, ty, pos, after, guard⟩ := o
  cases op
  case call c => exact plain_call ho h
  case pick c x y =>
    simp only [Sem.run_bind] at h
    cases hs : (asBool (a.eval c)).run P w with
    | ok u w1 => rw [hs] at h; simp only [Result.andThen_ok, Sem.run_pure, Result.ok.injEq] at h; exact ⟨_, h.1.symm⟩
    | halt x w1 => rw [hs] at h; simp [Result.andThen] at h
  all_goals first
    | (simp only [plainOp, Bool.false_eq_true] at ho; done)
    | exact run_v h
    | (simp only [Sem.run_pure, Result.ok.injEq] at h; exact ⟨_, h.1.symm⟩)

section
variable {P : Program} {ops : Array Oper} {md : Region.Mode} {w0 : World} {T : Nat → Option LSpec}

/-- operation number i comes up in state a, what has been made being told by F -/
def lOp (P : Program) (ops : Array Oper) (w0 : World) (T : Nat → Option LSpec) (i : Nat) (K : KL) : KL := fun a F =>
  match ops[i]? with
  | none => K a F
  | some o =>
    if Region.wanted o (yielded ops a.tmps) then
      match T i with
      | none => plainOp o.op = true ∧ ∃ v, (∀ w, Ext w0 w → o.quietAt P a (fun _ => True) w v) ∧ K (a.put o.dst v) F
      | some sr => (∀ w, Ext w0 w → looseUpon P w sr.1 sr.2 ((execOp a.eval o).run P w)) ∧ ∀ v, sr.1 v → K (a.put o.dst v) (fun w => F w ∧ sr.2 v w)
    else K (a.put o.dst undef) F
/-- what one operation shows in state a: the shapes of its value, and what holds of it -/
def YL (P : Program) (ops : Array Oper) (w0 : World) (T : Nat → Option LSpec) (i : Nat) (o : Oper) (a : Act) (S : Value → Prop) (R : Value → World → Prop) : Prop :=
  (Region.wanted o (yielded ops a.tmps) = true ∧ T i = none ∧ plainOp o.op = true ∧ ∃ v, S = (· = v) ∧ R = (fun _ _ => True) ∧ ∀ w, Ext w0 w → o.quietAt P a (fun _ => True) w v) ∨
  (Region.wanted o (yielded ops a.tmps) = true ∧ T i = some (S, R) ∧ ∀ w, Ext w0 w → looseUpon P w S R ((execOp a.eval o).run P w)) ∨
  (Region.wanted o (yielded ops a.tmps) = false ∧ S = (· = undef) ∧ R = fun _ _ => True)

theorem YL.lOp {i : Nat} {o : Oper} {a : Act} {S : Value → Prop} {R : Value → World → Prop} {K : KL} {F : World → Prop} (hi : ops[i]? = some o) (hK : AntiK K) (h : YL P ops w0 T i o a S R)
    (H : ∀ v, S v → K (a.put o.dst v) (fun w => F w ∧ R v w)) : Proofs.Ytpjadjoekdcjiaa.lOp P ops w0 T i K a F := by
  unfold Proofs.Ytpjadjoekdcjiaa.lOp
  simp only [hi]
  rcases h with ⟨hw, hT, hp, v, rfl, rfl, hv⟩ | ⟨hw, hT, hv⟩ | ⟨hw, rfl, rfl⟩
  · simp only [hw, if_true, hT]
    exact ⟨hp, v, hv, hK _ _ _ (fun _ h => ⟨h, trivial⟩) (H v rfl)⟩
  · simp only [hw, if_true, hT]
    exact ⟨hv, H⟩
  · simp only [hw, Bool.false_eq_true, if_false]
    exact hK _ _ _ (fun _ h => ⟨h, trivial⟩) (H _ rfl)
theorem YL_of {i : Nat} {o : Oper} {a : Act} {K : KL} {F : World → Prop} (hi : ops[i]? = some o) (hK : AntiK K) (h : lOp P ops w0 T i K a F) :
    ∃ S R, YL P ops w0 T i o a S R ∧ ∀ v, S v → K (a.put o.dst v) (fun w => F w ∧ R v w) := by
  unfold lOp at h
  simp only [hi] at h
  by_cases hw : Region.wanted o (yielded ops a.tmps) = true
  · simp only [hw, if_true] at h
    cases hT : T i with
    | none =>
      simp only [hT] at h
      obtain ⟨hp, v, hv, hk⟩ := h
      exact ⟨_, _, .inl ⟨hw, hT, hp, v, rfl, rfl, hv⟩, fun u hu => by subst hu; exact hK _ _ _ (fun _ h => h.1) hk⟩
    | some sr =>
      simp only [hT] at h
      obtain ⟨S, R⟩ := sr
      exact ⟨S, R, .inr (.inl ⟨hw, hT, h.1⟩), h.2⟩
  · simp only [hw] at h
    exact ⟨_, _, .inr (.inr ⟨by simpa using hw, rfl, rfl⟩), fun u hu => by subst hu; exact hK _ _ _ (fun _ h => h.1) h⟩
theorem YL.of_same {i : Nat} {o : Oper} {a a' : Act} {S : Value → Prop} {R : Value → World → Prop} (h : YL P ops w0 T i o a S R) (he : execOp a'.eval o = execOp a.eval o)
    (hw : Region.wanted o (yielded ops a'.tmps) = Region.wanted o (yielded ops a.tmps)) : YL P ops w0 T i o a' S R := by
  unfold YL Oper.quietAt at *
  rw [he, hw]
  exact h
theorem YL.some_ {i : Nat} {o : Oper} {a : Act} {S : Value → Prop} {R : Value → World → Prop} (h : YL P ops w0 T i o a S R) : ∃ v, S v := by
  rcases h with ⟨_, _, _, v, rfl, _⟩ | ⟨_, _, h⟩ | ⟨_, rfl, _⟩
  · exact ⟨v, rfl⟩
  · have h1 := h w0 (Ext.refl _)
    generalize (execOp a.eval o).run P w0 = r at h1
    cases r with
    | ok n w' =>
      cases n <;> simp only [looseUpon] at h1
      case value u => exact ⟨u, h1.1⟩
      case enter f args =>
        obtain ⟨_, hc⟩ := h1
        obtain ⟨e, w2, fr, ⟨u, _, hS, _⟩, _⟩ := hc []
        exact ⟨u, hS⟩
    | halt x w' => simp only [looseUpon] at h1
  · exact ⟨_, rfl⟩
/-- a plain operation's value is one -/
theorem quietAt_one {o : Oper} {a : Act} {w : World} {u v : Value} (hp : plainOp o.op = true) (h1 : o.quietAt P a (fun _ => True) w u) (h2 : o.quietAt P a (fun _ => True) w v) : u = v := by
  unfold Oper.quietAt at h1 h2
  cases hr : (execOp a.eval o).run P w with
  | ok n w' =>
    obtain ⟨x, rfl⟩ := plain_value hp hr
    rw [hr] at h1 h2
    exact h1.2.symm.trans h2.2
  | halt x w' => rw [hr] at h1; exact h1.elim
theorem lOp_put {i j : Nat} {oi oj : Oper} (hj : ops[j]? = some oj) (hap : oi.apart ops oj = true)
    (hsi : ∀ cs b, oi.op ≠ .select cs b) (hsj : ∀ cs b, oj.op ≠ .select cs b) {K : KL} (hK : AntiK K) {a : Act} {F : World → Prop} {S : Value → Prop} {R : Value → World → Prop}
    (hy : YL P ops w0 T i oi a S R) (h : ∀ v, S v → lOp P ops w0 T j K (a.put oi.dst v) (fun w => F w ∧ R v w)) :
    lOp P ops w0 T j (fun a' F' => YL P ops w0 T i oi a' S R ∧ ∀ v, S v → K (a'.put oi.dst v) (fun w => F' w ∧ R v w)) a F := by
  obtain ⟨h1, h2, h3⟩ := Oper.apart_spec hap
  have keep : ∀ u, YL P ops w0 T i oi (a.put oj.dst u) S R := fun u => hy.of_same (execOp_put oi hsi a oj.dst u h3) (wanted_put oi a oj.dst u h3)
  obtain ⟨v0, hv0⟩ := hy.some_
  have hex : ∀ v, execOp (a.put oi.dst v).eval oj = execOp a.eval oj := fun v => execOp_put oj hsj a oi.dst v h1
  unfold lOp at *
  simp only [hj, wanted_put oj a oi.dst _ h1] at *
  by_cases hw : Region.wanted oj (yielded ops a.tmps) = true
  · simp only [hw, if_true] at *
    cases hT : T j with
    | none =>
      simp only [hT] at *
      obtain ⟨hp, u, hu, _⟩ := h v0 hv0
      refine ⟨hp, u, fun w hw' => ?_, keep u, fun v hv => ?_⟩
      · have := hu w hw'
        unfold Oper.quietAt at *
        rwa [hex] at this
      · obtain ⟨_, u', hu', hk⟩ := h v hv
        have e : u' = u := by
          refine quietAt_one (P := P) (o := oj) (a := a) (w := w0) hp ?_ ?_
          · have := hu' w0 (Ext.refl _)
            unfold Oper.quietAt at *
            rwa [hex] at this
          · have := hu w0 (Ext.refl _)
            unfold Oper.quietAt at *
            rwa [hex] at this
        subst e
        rw [← Act.put_comm a v u' h2]
        exact hk
    | some sr =>
      simp only [hT] at *
      refine ⟨fun w hw' => ?_, fun u hu => ⟨keep u, fun v hv => ?_⟩⟩
      · have := (h v0 hv0).1 w hw'
        rwa [hex] at this
      · have := (h v hv).2 u hu
        rw [← Act.put_comm a v u h2]
        exact hK _ _ _ (fun _ h => ⟨⟨h.1.1, h.2⟩, h.1.2⟩) this
  · simp only [hw] at *
    refine ⟨keep _, fun v hv => ?_⟩
    rw [← Act.put_comm a v undef h2]
    exact h v hv
theorem lOp_mono {i : Nat} {K K' : KL} (h : ∀ a F, K a F → K' a F) {a : Act} {F : World → Prop} (hh : lOp P ops w0 T i K a F) : lOp P ops w0 T i K' a F := by
  unfold lOp at *
  cases ho : ops[i]? with
  | none => simp only [ho] at *; exact h _ _ hh
  | some o =>
    simp only [ho] at *
    by_cases hw : Region.wanted o (yielded ops a.tmps) = true
    · simp only [hw, if_true] at *
      cases hT : T i with
      | none => simp only [hT] at *; exact ⟨hh.1, hh.2.choose, hh.2.choose_spec.1, h _ _ hh.2.choose_spec.2⟩
      | some sr => simp only [hT] at *; exact ⟨hh.1, fun v hv => h _ _ (hh.2 v hv)⟩
    · simp only [hw] at *; exact h _ _ hh
theorem lOp_anti {i : Nat} {K : KL} (hK : AntiK K) : AntiK (lOp P ops w0 T i K) := by
  intro a F F' hF hh
  unfold lOp at *
  cases ho : ops[i]? with
  | none => simp only [ho] at *; exact hK _ _ _ hF hh
  | some o =>
    simp only [ho] at *
    by_cases hw : Region.wanted o (yielded ops a.tmps) = true
    · simp only [hw, if_true] at *
      cases hT : T i with
      | none => simp only [hT] at *; exact ⟨hh.1, hh.2.choose, hh.2.choose_spec.1, hK _ _ _ hF hh.2.choose_spec.2⟩
      | some sr => simp only [hT] at *; exact ⟨hh.1, fun v hv => hK _ _ _ (fun w h => ⟨hF w h.1, h.2⟩) (hh.2 v hv)⟩
    · simp only [hw] at *; exact hK _ _ _ hF hh

/-- the first f operations to come up are of the head, whichever; behind them L -/
def headL (P : Program) (md : Region.Mode) (ops : Array Oper) (w0 : World) (T : Nat → Option LSpec) (n : Nat) (L : Array Bool → KL) : Nat → Array Bool → KL
  | 0, listed, a, F => L listed a F
  | f + 1, listed, a, F => Region.ready md ops listed ≠ [] ∧ ∀ i ∈ Region.ready md ops listed, i < n ∧ lOp P ops w0 T i (headL P md ops w0 T n L f (listed.setIfInBounds i true)) a F
theorem headL_anti {n : Nat} {L : Array Bool → KL} (hL : ∀ listed, AntiK (L listed)) : ∀ f listed, AntiK (headL P md ops w0 T n L f listed)
  | 0, listed => hL listed
  | f + 1, listed => fun a F F' hF h => ⟨h.1, fun i hi => ⟨(h.2 i hi).1, lOp_anti (headL_anti hL f _) a F F' hF (h.2 i hi).2⟩⟩

theorem headL_first {n i : Nat} {oi : Oper} {S : Value → Prop} {R : Value → World → Prop} {L : Array Bool → KL} (hLA : ∀ listed, AntiK (L listed)) (hi : ops[i]? = some oi) (hsel : ∀ (j : Nat) (o : Oper) cs b, ops[j]? = some o → o.op ≠ .select cs b)
    (hlow : ∀ listed, HeadInv md ops n listed → listed.getD i true = false → ∀ j ∈ Region.ready md ops listed, j < n) (hdone : ∀ listed a F, L listed a F → ∀ j ∈ Region.ready md ops listed, n ≤ j) :
    ∀ (f : Nat) (listed : Array Bool) (a : Act) (F : World → Prop), HeadInv md ops n listed →
      (∀ j oj, ops[j]? = some oj → j ≠ i → listed.getD j true = false → (∀ e ∈ oj.after, Region.binds md e = true → e.on ≠ i) → oi.apart ops oj = true) →
      i ∈ Region.ready md ops listed → YL P ops w0 T i oi a S R →
      (∀ v, S v → headL P md ops w0 T n L f (listed.setIfInBounds i true) (a.put oi.dst v) (fun w => F w ∧ R v w)) → headL P md ops w0 T n L (f + 1) listed a F := by
  intro f
  induction f with
  | zero =>
    intro listed a F inv _ hr hy H
    have hun := (mem_ready.1 hr).1
    have hlow : ∀ j ∈ Region.ready md ops listed, j < n := hlow listed inv hun
    refine ⟨fun h => (by rw [h] at hr; cases hr), fun j hj => ⟨hlow j hj, ?_⟩⟩
    by_cases hji : j = i
    · subst hji; exact hy.lOp hi (headL_anti hLA _ _) H
    · obtain ⟨v, hv⟩ := hy.some_
      have := hdone _ _ _ (H v hv) j (ready_mono hj hji)
      have := hlow j hj
      omega
  | succ f ih =>
    intro listed a F inv hfree hr hy H
    have hun := (mem_ready.1 hr).1
    have hlow : ∀ j ∈ Region.ready md ops listed, j < n := hlow listed inv hun
    refine ⟨fun h => (by rw [h] at hr; cases hr), fun j hj => ⟨hlow j hj, ?_⟩⟩
    by_cases hji : j = i
    · subst hji; exact hy.lOp hi (headL_anti hLA _ _) H
    · obtain ⟨hjun, oj, hoj, hall⟩ := mem_ready.1 hj
      have hnot : ∀ e ∈ oj.after, Region.binds md e = true → e.on ≠ i := fun e he hb heq => by
        have h1 := hall e he hb
        rw [heq, getD_both hun] at h1
        cases h1
      refine lOp_mono (fun a' F' h3 => ih (listed.setIfInBounds j true) a' F' (inv.set hj (hlow j hj)) (fun k ok hk hki hk2 hk3 => ?_) (ready_mono hr (Ne.symm hji)) h3.1 ?_)
        (lOp_put hoj (hfree j oj hoj hji hjun hnot) (fun cs b => hsel i oi cs b hi) (fun cs b => hsel j oj cs b hoj) (headL_anti hLA _ _) hy (fun v hv => ((H v hv).2 j (ready_mono hj hji)).2))
      · refine hfree k ok hk hki ?_ hk3
        by_cases hjk : j = k
        · subst hjk; exact hjun
        · rw [getD_set_ne true hjk] at hk2; exact hk2
      · intro v hv
        rw [Array.setIfInBounds_comm _ _ hji]
        exact h3.2 v hv

/-- the walk in the text's order -/
def wpL (P : Program) (ops : Array Oper) (w0 : World) (T : Nat → Option LSpec) (Q : KL) : List Oper → Nat → KL
  | [], _, a, F => Q a F
  | o :: rest, k, a, F =>
    if Region.wanted o (yielded ops a.tmps) then
      match T k with
      | none => plainOp o.op = true ∧ ∃ v, (∀ w, Ext w0 w → o.quietAt P a (fun _ => True) w v) ∧ wpL P ops w0 T Q rest (k + 1) (a.put o.dst v) F
      | some sr => (∀ w, Ext w0 w → looseUpon P w sr.1 sr.2 ((execOp a.eval o).run P w)) ∧ ∀ v, sr.1 v → wpL P ops w0 T Q rest (k + 1) (a.put o.dst v) (fun w => F w ∧ sr.2 v w)
    else wpL P ops w0 T Q rest (k + 1) (a.put o.dst undef) F
theorem wpL_anti {Q : KL} (hQ : AntiK Q) : ∀ l k, AntiK (wpL P ops w0 T Q l k)
  | [], _ => hQ
  | o :: rest, k => fun a F F' hF h => by
    unfold wpL at *
    by_cases hw : Region.wanted o (yielded ops a.tmps) = true
    · simp only [hw, if_true] at *
      cases hT : T k with
      | none => simp only [hT] at *; exact ⟨h.1, h.2.choose, h.2.choose_spec.1, wpL_anti hQ rest _ _ _ _ hF h.2.choose_spec.2⟩
      | some sr => simp only [hT] at *; exact ⟨h.1, fun v hv => wpL_anti hQ rest _ _ _ _ (fun w h => ⟨hF w h.1, h.2⟩) (h.2 v hv)⟩
    · simp only [hw] at *; exact wpL_anti hQ rest _ _ _ _ hF h
theorem headL_lex {n g : Nat} {Lq : KL} (hLq : AntiK Lq) (hsel : Region.noSelect ops = true) (hlow : ∀ i, i < n → ∀ listed, HeadInv md ops n listed → listed.getD i true = false → ∀ j ∈ Region.ready md ops listed, j < n) :
    ∀ (l : List Oper) (k : Nat) (listed : Array Bool) (a : Act) (F : World → Prop), (∀ j, j < l.length → l[j]? = ops[k + j]?) → k + l.length = n → HeadInv md ops n listed →
    Region.lexHead md ops g l.length k listed = true → wpL P ops w0 T Lq l k a F → headL P md ops w0 T n (fun listed' a' F' => Region.seqB md ops g n listed' = true ∧ Lq a' F') l.length listed a F
  | [], k, listed, a, F, _, hk, _, hB, h => by
    obtain rfl : k = n := by simpa using hk
    exact ⟨by simpa [Region.lexHead] using hB, h⟩
  | o :: l, k, listed, a, F, hl, hk, inv, hB, h => by
    have h0 : ops[k]? = some o := by simpa using (hl 0 (by simp)).symm
    simp only [List.length_cons, Region.lexHead, Bool.and_eq_true] at hB
    obtain ⟨⟨hr, hf⟩, hB'⟩ := hB
    have hkn : k < n := by simp only [List.length_cons] at hk; omega
    have hr' : k ∈ Region.ready md ops listed := by simpa using hr
    have hst : lOp P ops w0 T k (wpL P ops w0 T Lq l (k + 1)) a F := by unfold lOp; simp only [h0]; exact h
    obtain ⟨S, R, hy, hK⟩ := YL_of h0 (wpL_anti hLq _ _) hst
    exact headL_first (fun listed a F F' hF h => ⟨h.1, hLq a F F' hF h.2⟩) h0 (Region.noSelect_spec hsel) (hlow k hkn) (fun listed' a' F' hL => seqB_ready hL.1) l.length listed a F inv (Region.free_spec h0 hf) hr' hy
      (fun v hv => headL_lex hLq hsel hlow l (k + 1) _ _ _ (fun j hj => by have := hl (j + 1) (by simp; omega); simpa [Nat.add_assoc, Nat.add_comm 1 j] using this) (by simp only [List.length_cons] at hk; omega) (inv.set hr' hkn) hB' (hK v hv))

def MonoT (T : Nat → Option LSpec) : Prop := ∀ i sr, T i = some sr → ∀ v w w', sr.2 v w → Ext w w' → sr.2 v w'
theorem wpOp_of_lOp {i : Nat} {a : Act} {F : World → Prop} {w : World} {K : KL} {K' : Act → World → Prop} {Q' : Exit → Act → World → Prop} (hT : MonoT T) (hM : MonoF F) (hw0 : Ext w0 w) (hF : F w)
    (h : ∀ a' F' w', MonoF F' → Ext w0 w' → F' w' → K a' F' → K' a' w') (hh : lOp P ops w0 T i K a F) : wpOp P ops Q' i K' a w := by
  unfold lOp at hh
  unfold wpOp
  cases ho : ops[i]? with
  | none => simp only [ho] at *; exact h _ _ _ hM hw0 hF hh
  | some o =>
    simp only [ho] at *
    by_cases hw : Region.wanted o (yielded ops a.tmps) = true
    · simp only [hw, if_true] at *
      refine .inl ?_
      cases hTi : T i with
      | none =>
        simp only [hTi] at hh
        obtain ⟨hp, v, hv, hk⟩ := hh
        have h1 := hv w hw0
        unfold Oper.quietAt at h1
        unfold Oper.wp
        cases hr : (execOp a.eval o).run P w with
        | ok n w' =>
          obtain ⟨x, rfl⟩ := plain_value hp hr
          rw [hr] at h1
          obtain ⟨e1, e2⟩ := h1
          subst e1 e2
          exact h _ _ _ hM hw0 hF hk
        | halt x w' => rw [hr] at h1; exact h1.elim
      | some sr =>
        simp only [hTi] at hh
        obtain ⟨h1, hk⟩ := hh
        have h1 := h1 w hw0
        unfold Oper.wp
        have hMM : ∀ v, MonoF (fun w => F w ∧ sr.2 v w) := fun v x y hx hxy => ⟨hM x y hx.1 hxy, hT i sr hTi v x y hx.2 hxy⟩
        cases hr : (execOp a.eval o).run P w with
        | ok n w' =>
          rw [hr] at h1
          cases n <;> simp only [looseUpon] at h1 <;> simp only [Oper.upon]
          case value u =>
            obtain ⟨hS, hR, hE⟩ := h1
            exact h _ _ _ (hMM u) (hw0.trans hE) ⟨hM _ _ hF hE, hR⟩ (hk u hS)
          case enter f args =>
            obtain ⟨e1, hc⟩ := h1
            subst e1
            exact hc.mono fun e w'' ⟨u, he, hS, hR, hE⟩ => by subst he; exact h _ _ _ (hMM u) (hw0.trans hE) ⟨hM _ _ hF hE, hR⟩ (hk u hS)
        | halt x w' => rw [hr] at h1; simp only [looseUpon] at h1
    · simp only [hw] at *; exact h _ _ _ hM hw0 hF hh
theorem wpAny_of_headL {n g : Nat} {L : Array Bool → KL} {Q' : Exit → Act → World → Prop} (hT : MonoT T) (hL : ∀ listed a F w, Ext w0 w → F w → L listed a F → wpAny P md ops Q' g listed a w) :
    ∀ (f : Nat) (listed : Array Bool) (a : Act) (F : World → Prop) (w : World), MonoF F → Ext w0 w → F w → headL P md ops w0 T n L f listed a F → wpAny P md ops Q' (f + g) listed a w
  | 0, listed, a, F, w, _, hw, hF, h => by rw [Nat.zero_add]; exact hL _ _ _ _ hw hF h
  | f + 1, listed, a, F, w, hM, hw, hF, h => by
    rw [show f + 1 + g = (f + g) + 1 by omega]
    exact ⟨fun h0 => absurd h0 h.1, fun i hi => wpOp_of_lOp hT hM hw hF (fun a' F' w' hM' hw' hF' h' => wpAny_of_headL hT hL f _ a' F' w' hM' hw' hF' h') (h.2 i hi).2⟩

def looseB (ops : Array Oper) (n : Nat) : Bool :=
  Region.noSelect ops && ((decide (n < ops.size) && Region.sinkB .any ops n && Region.chainB .any ops n) || decide (n = ops.size)) && Region.lexHead .any ops (ops.size - n) n 0 (Array.replicate ops.size false)
theorem wp_region_loose {id : Nat} {Q : Exit → Act → World → Prop} {a : Act} {w : World} {l : List Oper} (n : Nat) (T : Nat → Option LSpec) (hT : MonoT T) (hm : P.follows .mixedOrders = true) (hB : looseB l.toArray n = true)
    (h : wpL P l.toArray w T (fun a' F => ∀ w', Below w.heap.size w w' → F w' → wpList P l.toArray Q (l.drop n) a' w') (l.take n) 0 a (fun _ => True)) : (Code.region id l.toArray true).wp P Q a w := by
  unfold looseB at hB
  simp only [Bool.and_eq_true, Bool.or_eq_true, decide_eq_true_eq] at hB
  obtain ⟨⟨hsel, hn⟩, hlex⟩ := hB
  have hn' : n ≤ l.length := by rcases hn with h | h <;> simp at h <;> omega
  have hlow : ∀ i, i < n → ∀ listed, HeadInv .any l.toArray n listed → listed.getD i true = false → ∀ j ∈ Region.ready .any l.toArray listed, j < n := by
    intro i hi listed inv hun j hj
    rcases hn with ⟨⟨hn1, hs⟩, hch⟩ | hn1
    · exact Nat.lt_of_not_le fun h => tail_waits hs hch hn1 inv _ i rfl hi hun j h hj
    · rw [hn1]
      obtain ⟨_, oj, hoj, _⟩ := mem_ready.1 hj
      exact (Array.getElem?_eq_some_iff.1 hoj).1
  have htl : (l.take n).length = n := by simp; omega
  have hdl : (l.drop n).length = l.toArray.size - n := by simp
  have inv0 : HeadInv .any l.toArray n (Array.replicate l.toArray.size false) :=
    ⟨by simp, fun j oj _ hl => (by rw [getD_replicate_false] at hl; cases hl), fun t _ ht => getD_in (by simpa using ht) (getD_replicate_false _ _)⟩
  have hA : AntiK (fun a' F => ∀ w', Below w.heap.size w w' → F w' → wpList P l.toArray Q (l.drop n) a' w') := fun a F F' hF h w' hb hF' => h w' hb (hF w' hF')
  have H := headL_lex (md := .any) (g := l.toArray.size - n) hA hsel hlow (l.take n) 0 _ a _ (fun j hj => by
    have hj' : j < n := by rw [htl] at hj; exact hj
    simp [hj']) (by simpa using htl) inv0 (by rw [htl]; exact hlex) h
  refine wp_region_any hm ?_
  have hL : ∀ (listed : Array Bool) (a' : Act) (F : World → Prop) (w' : World), Ext w w' → F w' → (Region.seqB .any l.toArray (l.toArray.size - n) n listed = true ∧ ∀ w', Below w.heap.size w w' → F w' → wpList P l.toArray Q (l.drop n) a' w') → wpAny P .any l.toArray Q (l.toArray.size - n) listed a' w' := fun listed a' F w' hw hF hL => by
    have := wpAny_of_seq (md := .any) (Q' := Q) (l.drop n) n listed a' w' (fun j => by simp [List.getElem?_drop]) (by rw [hdl]; exact hL.1) (hL.2 _ hw hF)
    rwa [hdl] at this
  have := wpAny_of_headL hT hL _ _ _ _ { w with drawn := w.drawn + 1 } (fun _ _ _ _ => trivial) ⟨rfl, rfl, rfl, Nat.le_refl _, fun _ _ => rfl⟩ trivial H
  rw [htl, show n + (l.toArray.size - n) = l.toArray.size by omega] at this
  exact this

/-! the walk, piece by piece -/
theorem wpL_nil {Q : KL} {k : Nat} {a : Act} {F : World → Prop} (h : Q a F) : wpL P ops w0 T Q [] k a F := h
/-- the next m operations are plain: walk them as a quiet region -/
theorem wpL_plain_ {Q : KL} {F : World → Prop} : ∀ (m : Nat) {l : List Oper} {k : Nat} {a : Act}, (∀ j, j < m → T (k + j) = none) → (l.take m).all (fun o => plainOp o.op) = true →
    wpQuiet P ops (fun w' => ∃ e, w' = more w0 e) (fun a' => wpL P ops w0 T Q (l.drop m) (k + m) a' F) (l.take m) a → wpL P ops w0 T Q l k a F
  | 0, l, k, a, _, _, h => h
  | m + 1, [], k, a, hT, _, h => by simpa [wpL, wpQuiet] using h
  | m + 1, o :: l, k, a, hT, hp, h => by
    simp only [List.take_succ_cons, List.all_cons, Bool.and_eq_true] at hp
    simp only [List.take_succ_cons, List.drop_succ_cons, wpQuiet] at h
    have h0 := hT 0 (by omega)
    rw [Nat.add_zero] at h0
    have ih := fun a' (h' : wpQuiet P ops (fun w' => ∃ e, w' = more w0 e) (fun a' => wpL P ops w0 T Q (l.drop m) (k + (m + 1)) a' F) (l.take m) a') =>
      wpL_plain_ (Q := Q) (F := F) m (l := l) (k := k + 1) (a := a') (fun j hj => by have := hT (j + 1) (by omega); rwa [show k + (j + 1) = k + 1 + j by omega] at this) hp.2 (by rw [show k + 1 + m = k + (m + 1) by omega]; exact h')
    unfold wpL
    by_cases hw : Region.wanted o (yielded ops a.tmps) = true
    · simp only [hw, if_true] at *
      simp only [h0]
      obtain ⟨v, hv, hk⟩ := h
      refine ⟨hp.1, v, fun w hwe => ?_, ih _ hk⟩
      have := hv w (more_of_below hwe)
      unfold Oper.quietAt at *
      cases hr : (execOp a.eval o).run P w with
      | ok n w' =>
        obtain ⟨x, rfl⟩ := plain_value hp.1 hr
        rw [hr] at this
        exact this
      | halt x w' => rw [hr] at this; exact this.elim
    · simp only [hw] at *
      exact ih _ h
theorem wpL_plain {Q : KL} {F : World → Prop} (m : Nat) {l : List Oper} {k : Nat} {a : Act} (hT : ((List.range m).all fun j => (T (k + j)).isNone) = true) (hp : (l.take m).all (fun o => plainOp o.op) = true)
    (h : wpQuiet P ops (fun w' => ∃ e, w' = more w0 e) (fun a' => wpL P ops w0 T Q (l.drop m) (k + m) a' F) (l.take m) a) : wpL P ops w0 T Q l k a F :=
  wpL_plain_ m (fun j hj => by simpa using List.all_eq_true.1 hT j (List.mem_range.2 hj)) hp h
/-- an operation that T tells of -/
theorem wpL_made {Q : KL} {F : World → Prop} {o : Oper} {rest : List Oper} {k : Nat} {a : Act} {S : Value → Prop} {R : Value → World → Prop} (hT : T k = some (S, R)) (hw : Region.wanted o (yielded ops a.tmps) = true)
    (h1 : ∀ w, Ext w0 w → looseUpon P w S R ((execOp a.eval o).run P w)) (h2 : ∀ v, S v → wpL P ops w0 T Q rest (k + 1) (a.put o.dst v) (fun w => F w ∧ R v w)) : wpL P ops w0 T Q (o :: rest) k a F := by
  unfold wpL
  simp only [hw, if_true, hT]
  exact ⟨h1, h2⟩
end

/-! tables of what is made -/
def tabT : List (Nat × LSpec) → Nat → Option LSpec
  | [], _ => none
  | (k, s) :: r, i => if i = k then some s else tabT r i
def LMono (s : LSpec) : Prop := ∀ v w w', s.2 v w → Ext w w' → s.2 v w'
theorem monoT_tab : ∀ {l : List (Nat × LSpec)}, (∀ p ∈ l, LMono p.2) → MonoT (tabT l)
  | [], _ => fun i sr h => by cases h
  | (k, s) :: r, h => fun i sr hi v w w' h1 h2 => by
    unfold tabT at hi
    by_cases e : i = k
    · rw [if_pos e] at hi; cases hi; exact h _ (List.mem_cons_self ..) v w w' h1 h2
    · rw [if_neg e] at hi; exact monoT_tab (fun p hp => h p (List.mem_cons_of_mem _ hp)) i sr hi v w w' h1 h2
/-- a call that hands back just this value -/
def SVal (v : Value) : LSpec := (fun u => u = v, fun _ _ => True)
/-- something that holds of the value and of memory from then on -/
def SFact (R : Value → World → Prop) : LSpec := (fun _ => True, R)
/-- a block of one row -/
def BlockAt (w : World) (g : Nat) (cs : List Value) : Prop := g < w.heap.size ∧ ∀ j u, cs[j]? = some u → w.cell? ⟨g, j, none⟩ = some u
theorem BlockAt.below {w w' : World} {g : Nat} {cs : List Value} (h : BlockAt w g cs) (hb : Ext w w') : BlockAt w' g cs :=
  ⟨Nat.lt_of_lt_of_le h.1 hb.size, fun j u hu => (hb.cell (p := ⟨g, j, none⟩) h.1).trans (h.2 j u hu)⟩
theorem BlockAt.new (w : World) (cs : List Value) (T : Nat) : BlockAt (w.alloc (.cells cs.toArray T)) w.heap.size cs :=
  ⟨by simp, fun j u hu => by rw [World.cell?_alloc_at _ _ _ _ rfl]; simpa using hu⟩
/-- a slice literal of one element -/
def SLit (cs : List Value) : LSpec := (fun v => ∃ g, v = .slice (some ⟨g, 0, none⟩) 1 1, fun v w => ∀ g, v = .slice (some ⟨g, 0, none⟩) 1 1 → BlockAt w g cs)
/-- a box -/
def SBox (cs : List Value) : LSpec := (fun v => ∃ g, v = .pointer (some ⟨g, 0, none⟩), fun v w => ∀ g, v = .pointer (some ⟨g, 0, none⟩) → BlockAt w g cs)
theorem SVal.mono (v : Value) : LMono (SVal v) := fun _ _ _ _ _ => trivial
theorem SLit.mono (cs : List Value) : LMono (SLit cs) := fun _ _ _ h hb g e => (h g e).below hb
theorem SBox.mono (cs : List Value) : LMono (SBox cs) := fun _ _ _ h hb g e => (h g e).below hb
theorem ext_alloc (w : World) (o : Obj) : Ext w (w.alloc o) := (Below.refl _ _).alloc (Nat.le_refl _) _
theorem made_new (w : World) (cs : List Value) (T : Nat) : BlockAt (w.alloc (.cells cs.toArray T)) w.heap.size cs ∧ Ext w (w.alloc (.cells cs.toArray T)) := ⟨BlockAt.new w cs T, ext_alloc _ _⟩
theorem SVal.call {P : Program} {f : FuncId} {args : Array Value} {W : World} {v : Value} (h : Calls P f args W fun e w' => e = .returned v ∧ Below W.heap.size W w') :
    Calls P f args W fun e w'' => e = .returned v ∧ Ext W w'' := h
theorem SVal.call_same {P : Program} {f : FuncId} {args : Array Value} {W : World} {v : Value} (h : Calls P f args W fun e w' => e = .returned v ∧ W = w') :
    Calls P f args W fun e w'' => e = .returned v ∧ Ext W w'' := h.mono fun _ _ ⟨he, hb⟩ => ⟨he, hb ▸ Ext.refl _⟩
theorem SFact.call {P : Program} {f : FuncId} {args : Array Value} {W : World} {R : Value → World → Prop} (h : Calls P f args W fun e w' => ∃ v, e = .returned v ∧ R v w' ∧ Below W.heap.size W w') :
    Calls P f args W fun e w'' => ∃ u, e = .returned u ∧ R u w'' ∧ Ext W w'' := h
end Go.Proofs.Ytpjadjoekdcjiaa
