/- A reader of Go code in plain values: regions, whatever order is drawn (2). -/
import Derived.Test.YtedgcbcphlonpaaDen9
import Derived.Test.YtedgcbcphlonpaaFloat
namespace Go.Proofs.Ytedgcbcphlonpaa.Den
open Go.RowKit
set_option linter.unusedSimpArgs false
set_option linter.unusedVariables false
set_option linter.unnecessarySimpa false

section
variable {P : Program} {Dw : World → Prop} {F0 : Nat → Prop} {env : FuncId → List V → Option V} {base : Nat} {M0 : Mem} {w0 w : World} {N : Nat} {g : Ghost} {st : St} {a : Act} {o : Oper} {s : Nat} {ops : Array Oper}

theorem app_rw {dst : Option Nat} {r : C × Option (List V)} : (st.app s dst r).rw = st.rw := by
  obtain ⟨c, b⟩ := r
  cases b <;> cases dst <;> rfl
theorem app_ow {dst : Option Nat} {r : C × Option (List V)} : (st.app s dst r).ow = st.ow := by
  obtain ⟨c, b⟩ := r
  cases b <;> cases dst <;> rfl
theorem app_rf {dst : Option Nat} {r : C × Option (List V)} : (st.app s dst r).rf = st.rf := by
  obtain ⟨c, b⟩ := r
  cases b <;> cases dst <;> rfl
theorem app_φ {dst : Option Nat} {r : C × Option (List V)} {t : Nat} (h : dst ≠ some t) : (st.app s dst r).φ t = st.φ t := by
  obtain ⟨c, b⟩ := r
  cases b <;> cases dst <;> try rfl
  all_goals exact upd_ne _ _ (fun e => h (by rw [e]))
theorem app_bx {dst : Option Nat} {r : C × Option (List V)} {s' : Nat} (h : s' ≠ s) : (st.app s dst r).bx s' = st.bx s' := by
  obtain ⟨c, b⟩ := r
  cases b <;> cases dst <;> try rfl
  all_goals exact upd_ne _ _ h
theorem app_ev {dst : Option Nat} {r : C × Option (List V)} {x : Operand} (h : ∀ d, dst = some d → x ≠ .tmp d) : (st.app s dst r).ev x = st.ev x := by
  cases x with
  | tmp t => exact app_φ (fun e => h t e rfl)
  | _ => rfl
theorem shOp_app {s' : Nat} {dst : Option Nat} {r : C × Option (List V)} (hap : ∀ d, dst = some d → d ∉ o.looksAt ops) (hf : Fresh st s) : shOp P env ops s' (st.app s dst r) o = shOp P env ops s' st o := by
  have hops : ∀ x ∈ o.op.operands.toList, (st.app s dst r).ev x = st.ev x := fun x hx => app_ev fun d hd e => by
    subst e
    refine hap d hd ?_
    unfold Oper.looksAt
    exact List.mem_append_left _ (List.mem_filterMap.2 ⟨_, hx, rfl⟩)
  have hbx : ∀ x s2 off, st.ev x = .box s2 off → (st.app s dst r).bx s2 = st.bx s2 := fun x s2 off hx => app_bx fun e => ev_nbox hf x off (by rw [hx, e])
  have hstep := stepH_congr (P := P) (env := env) (s := s') (o := o) (st := st) (st' := st.app s dst r) hops hbx app_rw app_ow app_rf
  unfold shOp
  cases hg : o.guard with
  | none => exact hstep
  | some p =>
    simp only
    cases ht : (ops[p.1]?).bind (·.dst) with
    | none => rfl
    | some t =>
      simp only
      have hne : dst ≠ some t := fun e => hap t e (by
        unfold Oper.looksAt
        refine List.mem_append_right _ ?_
        rw [hg]
        simp only [ht, Option.toList]
        simp)
      rw [app_φ hne, hstep]
      have hasV : ∀ c, (st.app s dst r).asV c = st.asV c := fun c => by cases c <;> simp [St.asV, app_rw]
      have honly : ∀ x, onlyV (st.app s dst r) x = onlyV st x := fun x => by
        unfold onlyV
        split
        · exact congrArg some (hasV _)
        · rfl
      rw [hasV, honly, addrOp_congr (P := P) (o := o) hops app_rw app_ow app_rf]
theorem app_comm {s1 s2 : Nat} {d1 d2 : Option Nat} {r1 r2 : C × Option (List V)} (hs : s1 ≠ s2) (hd : ∀ d, d1 = some d → d2 ≠ some d) : (st.app s1 d1 r1).app s2 d2 r2 = (st.app s2 d2 r2).app s1 d1 r1 := by
  obtain ⟨c1, b1⟩ := r1
  obtain ⟨c2, b2⟩ := r2
  cases d1 with
  | none =>
    cases d2 <;> cases b1 <;> cases b2 <;> simp [St.app, St.put] <;> exact upd_comm _ _ _ hs
  | some d =>
    cases d2 with
    | none => cases b1 <;> cases b2 <;> simp [St.app, St.put] <;> exact upd_comm _ _ _ hs
    | some d' =>
      have hne : d ≠ d' := fun e => hd d rfl (by rw [e])
      cases b1 <;> cases b2 <;> simp [St.app, St.put, upd_comm _ _ _ hne]
      exact upd_comm _ _ _ hs

/-- operation number i comes up -/
noncomputable def sOp (P : Program) (env : FuncId → List V → Option V) (ops : Array Oper) (nx0 i : Nat) (K : St → Prop) (st : St) : Prop := match ops[i]? with
  | none => K st
  | some o => ∃ r, shOp P env ops (nx0 + i) st o = some r ∧ K (st.app (nx0 + i) o.dst r)
noncomputable def headS (P : Program) (env : FuncId → List V → Option V) (ops : Array Oper) (nx0 n : Nat) (L : Array Bool → St → Prop) : Nat → Array Bool → St → Prop
  | 0, listed, st => L listed st
  | f + 1, listed, st => Region.ready .any ops listed ≠ [] ∧ ∀ i ∈ Region.ready .any ops listed, i < n ∧ sOp P env ops nx0 i (headS P env ops nx0 n L f (listed.setIfInBounds i true)) st
/-- the sites of what has not come yet are fresh -/
def SInv (ops : Array Oper) (nx0 : Nat) (listed : Array Bool) (st : St) : Prop := ∀ i, i < ops.size → listed.getD i true = false → Fresh st (nx0 + i)
theorem SInv.step {nx0 i : Nat} {listed : Array Bool} {r : C × Option (List V)} (h : SInv ops nx0 listed st) (hr : shOp P env ops (nx0 + i) st o = some r) : SInv ops nx0 (listed.setIfInBounds i true) (st.app (nx0 + i) o.dst r) := by
  intro j hj hun
  by_cases e : i = j
  · subst e
    exfalso
    rcases Nat.lt_or_ge i listed.size with hl | hl
    · simp [Array.getD, hl] at hun
    · simp [Array.getD, Nat.not_lt.2 hl] at hun
  · rw [getD_set_ne true e] at hun
    have hf := h j hj hun
    exact app_fresh hf (by omega) (shOp_site hr hf (by omega))
theorem headS_first {nx0 n i : Nat} {oi : Oper} {r : C × Option (List V)} {L : Array Bool → St → Prop} (hi : ops[i]? = some oi) (hin : i < n) (hns : n ≤ ops.size)
    (hlow : ∀ listed, HeadInv .any ops n listed → listed.getD i true = false → ∀ j ∈ Region.ready .any ops listed, j < n) (hdone : ∀ listed st, L listed st → ∀ j ∈ Region.ready .any ops listed, n ≤ j) :
    ∀ (f : Nat) (listed : Array Bool) (st : St), HeadInv .any ops n listed → SInv ops nx0 listed st →
      (∀ j oj, ops[j]? = some oj → j ≠ i → listed.getD j true = false → (∀ e ∈ oj.after, Region.binds .any e = true → e.on ≠ i) → oi.apart ops oj = true) →
      i ∈ Region.ready .any ops listed → shOp P env ops (nx0 + i) st oi = some r →
      headS P env ops nx0 n L f (listed.setIfInBounds i true) (st.app (nx0 + i) oi.dst r) → headS P env ops nx0 n L (f + 1) listed st := by
  intro f
  induction f with
  | zero =>
    intro listed st inv hinv _ hr hy H
    have hun := (mem_ready.1 hr).1
    refine ⟨fun h => (by rw [h] at hr; cases hr), fun j hj => ⟨hlow listed inv hun j hj, ?_⟩⟩
    by_cases hji : j = i
    · subst hji; unfold sOp; simp only [hi]; exact ⟨r, hy, H⟩
    · have := hdone _ _ H j (ready_mono hj hji)
      have := hlow listed inv hun j hj
      omega
  | succ f ih =>
    intro listed st inv hinv hfree hr hy H
    have hun := (mem_ready.1 hr).1
    refine ⟨fun h => (by rw [h] at hr; cases hr), fun j hj => ⟨hlow listed inv hun j hj, ?_⟩⟩
    by_cases hji : j = i
    · subst hji; unfold sOp; simp only [hi]; exact ⟨r, hy, H⟩
    · obtain ⟨hjun, oj, hoj, hall⟩ := mem_ready.1 hj
      have hjn := hlow listed inv hun j hj
      have hnot : ∀ e ∈ oj.after, Region.binds .any e = true → e.on ≠ i := fun e he hb heq => by
        have h1 := hall e he hb
        rw [heq, getD_both hun] at h1
        cases h1
      obtain ⟨h1, h2, h3⟩ := Oper.apart_spec (hfree j oj hoj hji hjun hnot)
      have hfi : Fresh st (nx0 + i) := hinv i (by omega) hun
      have hfj : Fresh st (nx0 + j) := hinv j (Array.getElem?_eq_some_iff.1 hoj).1 hjun
      have H2 := (H.2 j (ready_mono hj hji)).2
      unfold sOp at H2 ⊢
      simp only [hoj] at H2 ⊢
      obtain ⟨rj, hrj, H3⟩ := H2
      rw [shOp_app h1 hfi] at hrj
      refine ⟨rj, hrj, ih (listed.setIfInBounds j true) _ (inv.set hj hjn) (hinv.step hrj) (fun k ok hk hki hk2 hk3 => ?_) (ready_mono hr (Ne.symm hji)) (by rw [shOp_app h3 hfj]; exact hy) ?_⟩
      · refine hfree k ok hk hki ?_ hk3
        by_cases hjk : j = k
        · subst hjk; exact hjun
        · rw [getD_set_ne true hjk] at hk2; exact hk2
      · rw [Array.setIfInBounds_comm _ _ hji, ← app_comm (by omega) h2]
        exact H3
theorem headS_lex {nx0 n gg : Nat} (hns : n ≤ ops.size) (hlow : ∀ i, i < n → ∀ listed, HeadInv .any ops n listed → listed.getD i true = false → ∀ j ∈ Region.ready .any ops listed, j < n) :
    ∀ (l : List Oper) (k : Nat) (listed : Array Bool) (st st' : St), (∀ j, j < l.length → l[j]? = ops[k + j]?) → k + l.length = n → HeadInv .any ops n listed → SInv ops nx0 listed st →
    Region.lexHead .any ops gg l.length k listed = true → denH P env ops nx0 l k st = some st' → headS P env ops nx0 n (fun listed' st2 => Region.seqB .any ops gg n listed' = true ∧ st2 = st') l.length listed st
  | [], k, listed, st, st', _, hk, _, _, hB, h => by
    obtain rfl : k = n := by simpa using hk
    exact ⟨by simpa [Region.lexHead] using hB, by simpa [denH] using h⟩
  | o :: l, k, listed, st, st', hl, hk, inv, hinv, hB, h => by
    have h0 : ops[k]? = some o := by simpa using (hl 0 (by simp)).symm
    simp only [List.length_cons, Region.lexHead, Bool.and_eq_true] at hB
    obtain ⟨⟨hr, hf⟩, hB'⟩ := hB
    have hkn : k < n := by simp only [List.length_cons] at hk; omega
    have hr' : k ∈ Region.ready .any ops listed := by simpa using hr
    simp only [denH] at h
    obtain ⟨r, hr1, hr2⟩ := Option.bind_eq_some_iff.1 h
    exact headS_first h0 hkn hns (hlow k hkn) (fun listed' st' hL => seqB_ready hL.1) l.length listed st inv hinv (Region.free_spec h0 hf) hr' hr1
      (headS_lex hns hlow l (k + 1) _ _ st' (fun j hj => by have := hl (j + 1) (by simp; omega); simpa [Nat.add_assoc, Nat.add_comm 1 j] using this) (by simp only [List.length_cons] at hk; omega) (inv.set hr' hkn) (hinv.step hr1) hB' hr2)
theorem wpAny_of_headS {nx0 n gg : Nat} {L : Array Bool → St → Prop} {Q' : Exit → Act → World → Prop} (henv : EnvOk P Dw env) (hdst : ∀ (i : Nat) (o : Oper), ops[i]? = some o → ∀ d, o.dst = some d → d < N)
    (hL : ∀ listed st g a w, L listed st → SInv ops nx0 listed st → Sim P Dw F0 base M0 w0 N g st a w → wpAny P .any ops Q' gg listed a w) :
    ∀ (f : Nat) (listed : Array Bool) (st : St) (g : Ghost) (a : Act) (w : World), SInv ops nx0 listed st → Sim P Dw F0 base M0 w0 N g st a w → headS P env ops nx0 n L f listed st → wpAny P .any ops Q' (f + gg) listed a w
  | 0, listed, st, g, a, w, hinv, hS, h => by rw [Nat.zero_add]; exact hL _ _ _ _ _ h hinv hS
  | f + 1, listed, st, g, a, w, hinv, hS, h => by
    rw [show f + 1 + gg = (f + gg) + 1 by omega]
    refine ⟨fun h0 => absurd h0 h.1, fun i hi => ?_⟩
    obtain ⟨hun, o, ho, _⟩ := mem_ready.1 hi
    have h2 := (h.2 i hi).2
    unfold sOp at h2
    unfold wpOp
    simp only [ho] at h2 ⊢
    obtain ⟨r, hr, h3⟩ := h2
    exact shOp_ok henv hS (hinv i (Array.getElem?_eq_some_iff.1 ho).1 hun) (hdst i o ho) hr fun g' v w' hS' => wpAny_of_headS henv hdst hL f _ _ g' _ w' (hinv.step hr) hS' h3
/-- one behind the other -/
theorem wpList_of_denT {nx0 : Nat} {Q : Exit → Act → World → Prop} {st' : St} (henv : EnvOk P Dw env) (hQ : ∀ g a w, Sim P Dw F0 base M0 w0 N g st' a w → Q .normal a w) :
    ∀ (l : List Oper) (k : Nat) (st : St) (g : Ghost) (a : Act) (w : World), (∀ o ∈ l, ∀ d, o.dst = some d → d < N) → (∀ j, k ≤ j → j < k + l.length → Fresh st (nx0 + j)) → Sim P Dw F0 base M0 w0 N g st a w → denT P env ops nx0 l k st = some st' → wpList P ops Q l a w
  | [], k, st, g, a, w, _, _, hS, h => by
    simp only [denT, Option.some.injEq] at h
    subst h
    exact hQ g a w hS
  | o :: l, k, st, g, a, w, hd, hf, hS, h => by
    simp only [denT] at h
    obtain ⟨st1, h1, h2⟩ := Option.bind_eq_some_iff.1 h
    unfold wpList
    refine shT_ok henv hS (hf k (Nat.le_refl _) (by simp)) (hd o (by simp)) h1 fun g' v w' hS' => ?_
    exact wpList_of_denT henv hQ l (k + 1) st1 g' _ w' (fun o ho => hd o (by simp [ho])) (fun j hj1 hj2 => shT_fresh h1 (hf j (by omega) (by simp; omega)) (by omega)) hS' h2

/-! a region in which some operations ask nothing of memory: these first, what is left in its order -/
def litV (y : V) : Option V := match y.val? with
  | some _ => some y
  | none => none
theorem litV_some {y z : V} (h : litV y = some z) : z = y ∧ ∃ u, y.val? = some u := by
  unfold litV at h
  split at h
  · rename_i u hu
    exact ⟨(Option.some.inj h).symm, u, hu⟩
  · cases h
noncomputable def fltOp (P : Program) (st : St) (o : Oper) : Option C := match o.op with
  | .move x => some (st.ev x)
  | .slice t x lo hi none => ((sliceV P t (st.rd x) (lo.map st.rd) (hi.map st.rd)).bind litV).map C.v
  | .binOp op t x y _ => ((bin2 P op t x y (st.rd x) (st.rd y)).bind litV).map C.v
  | _ => none
theorem uni {t : Sem Value} {M : Mem} {y : V} {u : Value} (hu : y.val? = some u) (h : ∀ w : World, ∃ v, t.run P w = .ok v w ∧ Rel M v y) (w : World) : t.run P w = .ok u w := by
  obtain ⟨v, h1, h2⟩ := h w
  rw [h1, rel_val h2 hu]
theorem fltOp_ok (hS : Sim P Dw F0 base M0 w0 N g st a w) {c : C} (h : fltOp P st o = some c) : ∃ v, Still P o a v ∧ RelC g v c := by
  obtain ⟨dst, op, ty, pos, after, guard⟩ := o
  unfold fltOp at h
  split at h
  · rename_i x hop
    simp only at hop
    subst hop
    obtain rfl := Option.some.inj h
    exact ⟨a.eval x, fun w => by simp [execOp], hS.ev x⟩
  · rename_i t x lo hi hop
    simp only at hop
    subst hop
    obtain ⟨z, hz, rfl⟩ := Option.map_eq_some_iff.1 h
    obtain ⟨y, hy, hz⟩ := Option.bind_eq_some_iff.1 hz
    obtain ⟨rfl, u, hu⟩ := litV_some hz
    have hrun : ∀ w : World, ∃ v, (Instr.sliceAt t (a.eval x) (lo.map a.eval) (hi.map a.eval) none).run P w = .ok v w ∧ Rel g.M v z := fun w2 =>
      sliceV_ok (w := w2) (hS.rd x) (fun v hv => by
        cases lo with
        | none => cases hv
        | some q => simp at hv; subst hv; exact ⟨_, rfl, hS.rd q⟩) (fun hn => by cases lo <;> simp_all) (fun v hv => by
        cases hi with
        | none => cases hv
        | some q => simp at hv; subst hv; exact ⟨_, rfl, hS.rd q⟩) (fun hn => by cases hi <;> simp_all) hy
    refine ⟨u, fun w2 => ?_, ?_⟩
    · have := uni hu hrun w2
      show (do pure (Next.value (← Instr.sliceAt t (a.eval x) (lo.map a.eval) (hi.map a.eval) none)) : Sem Next).run P w2 = _
      simp [this]
    · obtain ⟨v, _, hr⟩ := hrun w
      rw [← rel_val hr hu]; exact hr
  · rename_i op t x y yt hop
    simp only at hop
    subst hop
    obtain ⟨z, hz, rfl⟩ := Option.map_eq_some_iff.1 h
    obtain ⟨y', hy, hz⟩ := Option.bind_eq_some_iff.1 hz
    obtain ⟨rfl, u, hu⟩ := litV_some hz
    have hrun := fun w2 : World => bin2_ok (w := w2) (hS.asV (hS.ev x)) (hS.asV (hS.ev y)) hy
    refine ⟨u, fun w2 => ?_, ?_⟩
    · obtain ⟨v, h1, h2⟩ := hrun w2
      have := rel_val h2 hu
      subst this
      have e : (execOp a.eval ⟨dst, .binOp op t x y yt, ty, pos, after, guard⟩).run P w2 = (((do eqGuard op t x y (a.eval x) (a.eval y); binOp op t (a.eval x) (a.eval y) : Sem Value)).run P w2).andThen fun a w' => .ok (Next.value a) w' := by
        simp only [execOp, Sem.run_bind]
        cases (eqGuard op t x y (a.eval x) (a.eval y)).run P w2 <;> rfl
      rw [e, h1]; rfl
    · obtain ⟨v, _, hr⟩ := hrun w
      rw [← rel_val hr hu]; exact hr
  · cases h
noncomputable def denFl (P : Program) (ops : Array Oper) (nx0 : Nat) : List Nat → St → Option St
  | [], st => some st
  | i :: r, st => match ops[i]? with
    | some o => match o.guard with
      | none => (fltOp P st o).bind fun c => denFl P ops nx0 r (st.app (nx0 + i) o.dst (c, none))
      | some _ => none
    | none => none
noncomputable def denTl (P : Program) (env : FuncId → List V → Option V) (ops : Array Oper) (nx0 : Nat) : List Nat → St → Option St
  | [], st => some st
  | i :: r, st => match ops[i]? with
    | some o => (shT P env ops (nx0 + i) st o).bind fun st' => denTl P env ops nx0 r st'
    | none => none
theorem fltOp_site {c : C} (h : fltOp P st o = some c) {s2 : Nat} (hf : Fresh st s2) : c.site ≠ some s2 := by
  unfold fltOp at h
  split at h
  · obtain rfl := Option.some.inj h
    exact ev_site hf _
  · obtain ⟨z, _, rfl⟩ := Option.map_eq_some_iff.1 h
    simp [C.site]
  · obtain ⟨z, _, rfl⟩ := Option.map_eq_some_iff.1 h
    simp [C.site]
  · cases h
theorem put_fresh2 {dst : Option Nat} {c : C} {s1 s2 : Nat} (hf : Fresh st s2) (hc : c.site ≠ some s2) : Fresh (st.app s1 dst (c, none)) s2 := put_fresh hf hc
theorem denFl_fresh {nx0 : Nat} {s2 : Nat} : ∀ (fl : List Nat) (st st' : St), denFl P ops nx0 fl st = some st' → Fresh st s2 → Fresh st' s2
  | [], st, st', h, hf => by obtain rfl := Option.some.inj h; exact hf
  | i :: r, st, st', h, hf => by
    simp only [denFl] at h
    split at h
    · split at h
      · obtain ⟨c, hc, h⟩ := Option.bind_eq_some_iff.1 h
        exact denFl_fresh r _ st' h (put_fresh2 hf (fltOp_site hc hf))
      · cases h
    · cases h
theorem wpFloat_of {nx0 : Nat} {st' : St} {K : Act → World → Prop} : ∀ (fl : List Nat) (st : St) (a : Act), (∀ (i : Nat) (o : Oper), ops[i]? = some o → ∀ d, o.dst = some d → d < N) → Sim P Dw F0 base M0 w0 N g st a w → denFl P ops nx0 fl st = some st' →
    (∀ a, Sim P Dw F0 base M0 w0 N g st' a w → K a w) → wpFloat P ops K (fl.filterMap (ops[·]?)) a w
  | [], st, a, _, hS, h, hK => by obtain rfl := Option.some.inj h; exact hK a hS
  | i :: r, st, a, hd, hS, h, hK => by
    simp only [denFl] at h
    split at h
    · rename_i o ho
      split at h
      · rename_i hg
        obtain ⟨c, hc, h⟩ := Option.bind_eq_some_iff.1 h
        simp only [List.filterMap_cons, ho]
        obtain ⟨v, h1, h2⟩ := fltOp_ok hS hc
        exact ⟨by simp [Region.wanted, hg], v, h1, wpFloat_of r _ _ hd (hS.put_ (hd i o ho) h2) h hK⟩
      · cases h
    · cases h
theorem wpList_of_denTl {nx0 : Nat} {Q : Exit → Act → World → Prop} {st' : St} (henv : EnvOk P Dw env) (hQ : ∀ g a w, Sim P Dw F0 base M0 w0 N g st' a w → Q .normal a w) :
    ∀ (l : List Nat) (st : St) (g : Ghost) (a : Act) (w : World), (∀ (i : Nat) (o : Oper), ops[i]? = some o → ∀ d, o.dst = some d → d < N) → l.Nodup → (∀ j ∈ l, Fresh st (nx0 + j)) → Sim P Dw F0 base M0 w0 N g st a w → denTl P env ops nx0 l st = some st' → wpList P ops Q (l.filterMap (ops[·]?)) a w
  | [], st, g, a, w, _, _, _, hS, h => by
    obtain rfl := Option.some.inj h
    exact hQ g a w hS
  | i :: l, st, g, a, w, hd, hn, hf, hS, h => by
    simp only [denTl] at h
    split at h
    · rename_i o ho
      obtain ⟨st1, h1, h2⟩ := Option.bind_eq_some_iff.1 h
      simp only [List.filterMap_cons, ho]
      unfold wpList
      rw [List.nodup_cons] at hn
      refine shT_ok henv hS (hf i (by simp)) (hd i o ho) h1 fun g' v w' hS' => ?_
      exact wpList_of_denTl henv hQ l st1 g' _ w' hd hn.2 (fun j hj => shT_fresh h1 (hf j (by simp [hj])) (fun e => hn.1 (by have : j = i := by omega
                                                                                                                             rw [← this]; exact hj))) hS' h2
    · cases h
def isFloat (o : Oper) : Bool := o.guard.isNone && match o.op with
  | .move _ => true
  | .slice _ _ _ _ none => true
  | .binOp _ _ _ _ _ => true
  | _ => false
/-- which may come first: they look at nothing that comes out of the others -/
def fltIx (ops : Array Oper) : List Nat → List Nat → List Nat
  | [], acc => acc.reverse
  | i :: r, acc => match ops[i]? with
    | some o => if isFloat o && o.op.operands.toList.all (fun x => match x with
        | .tmp t => (List.range ops.size).all fun j => (match ops[j]? with
          | some oj => !(oj.dst == some t) || acc.contains j
          | none => true) || decide (i ≤ j)
        | _ => true) then fltIx ops r (i :: acc) else fltIx ops r acc
    | none => fltIx ops r acc
def fltL (ops : Array Oper) : List Nat := fltIx ops (List.range ops.size) []
def sqL (ops : Array Oper) : List Nat := (List.range ops.size).filter fun i => !(fltL ops).contains i
def fltB (ops : Array Oper) : Bool := Region.noSelect ops && floatL .any ops (sqL ops) (fltL ops) (Array.replicate ops.size false) && decide ((fltL ops).length + (sqL ops).length = ops.size)
theorem sqL_nodup : (sqL ops).Nodup := List.Nodup.sublist List.filter_sublist List.nodup_range

/-- a region, drawn or not -/
noncomputable def denR (P : Program) (env : FuncId → List V → Option V) (ops : Array Oper) (draw : Bool) (n : Nat) (st : St) : Option St := match draw with
  | true => match decide (n ≤ ops.size) with
    | true => (denH P env ops st.nx (ops.toList.take n) 0 st).bind fun st1 => denT P env ops st.nx (ops.toList.drop n) n st1
    | false => (denFl P ops st.nx (fltL ops) st).bind fun st1 => denTl P env ops st.nx (sqL ops) st1
  | false => denT P env ops st.nx ops.toList 0 st
/-- may the region be read so? -/
def regOk (P : Program) (ops : Array Oper) (draw : Bool) (n : Nat) : Bool := !draw || (P.follows .mixedOrders && match decide (n ≤ ops.size) with
  | true => regB ops n
  | false => fltB ops)
theorem denR_ok {id n : Nat} {draw : Bool} {Q : Exit → Act → World → Prop} {st' : St} (henv : EnvOk P Dw env) (hS : Sim P Dw F0 base M0 w0 N g st a w) (hd : ∀ o ∈ ops.toList, ∀ d, o.dst = some d → d < N) (hf : ∀ s, st.nx ≤ s → Fresh st s)
    (hB0 : regOk P ops draw n = true) (h : denR P env ops draw n st = some st') (hQ : ∀ g a w, Sim P Dw F0 base M0 w0 N g st' a w → Q .normal a w) : (Code.region id ops draw).wp P Q a w := by
  unfold denR at h
  cases draw with
  | false =>
    simp only at h
    exact wp_region_list (wpList_of_denT henv hQ _ 0 st g a w hd (fun j _ _ => hf _ (by omega)) hS h)
  | true =>
    simp only at h
    by_cases hnn : n ≤ ops.size
    rotate_left
    · rw [decide_eq_false hnn] at h
      simp only at h
      have hc : P.follows .mixedOrders = true ∧ fltB ops = true := by simpa [regOk, hnn] using hB0
      obtain ⟨hm, hB⟩ := hc
      obtain ⟨st1, h1, h2⟩ := Option.bind_eq_some_iff.1 h
      have hdst : ∀ (i : Nat) (o : Oper), ops[i]? = some o → ∀ d, o.dst = some d → d < N := fun i o ho => hd o (by rw [← Array.getElem?_toList] at ho; exact List.mem_of_getElem? ho)
      have key := wp_region_float (P := P) (Q := Q) (id := id) (a := a) (w := w) (l := ops.toList) (fltL ops) (sqL ops) hm (by simpa [fltB] using hB) fun Q' hQ' w' hh hb => ?_
      · simpa using key
      · have hS' : Sim P Dw F0 base M0 w0 N g st a w' := by
          have := hS.grow (M' := g.M) (w' := w') ⟨hb, fun _ _ _ h => h, fun b o u hu => by rw [show w'.cell? ⟨b, o, none⟩ = w.cell? ⟨b, o, none⟩ from by unfold World.cell?; rw [hh]]; exact hS.mem b o u hu, fun _ _ _ h _ => h⟩
          exact this
        simp only [Array.toArray_toList]
        refine wpFloat_of (nx0 := st.nx) (fltL ops) st a hdst hS' h1 fun a2 hS2 => ?_
        exact wpList_of_denTl (nx0 := st.nx) henv (fun g a w hS => hQ' a w (hQ g a w hS)) (sqL ops) st1 g a2 w' hdst sqL_nodup (fun j _ => denFl_fresh _ _ _ h1 (hf _ (by omega))) hS2 h2
    · rw [decide_eq_true hnn] at h
      simp only at h
      have hc : P.follows .mixedOrders = true ∧ regB ops n = true := by simpa [regOk, hnn] using hB0
      obtain ⟨hm, hB⟩ := hc
      obtain ⟨st1, h1, h2⟩ := Option.bind_eq_some_iff.1 h
      unfold regB at hB
      simp only [Bool.and_eq_true, Bool.or_eq_true, decide_eq_true_eq] at hB
      obtain ⟨⟨hsel, hn⟩, hlex⟩ := hB
      have hns : n ≤ ops.size := by rcases hn with h | h <;> omega
      have hlow : ∀ i, i < n → ∀ listed, HeadInv .any ops n listed → listed.getD i true = false → ∀ j ∈ Region.ready .any ops listed, j < n := by
        intro i hi listed inv hun j hj
        rcases hn with ⟨⟨hn1, hs⟩, hch⟩ | hn1
        · exact Nat.lt_of_not_le fun h => tail_waits hs hch hn1 inv _ i rfl hi hun j h hj
        · rw [hn1]
          obtain ⟨_, oj, hoj, _⟩ := mem_ready.1 hj
          exact (Array.getElem?_eq_some_iff.1 hoj).1
      have htl : (ops.toList.take n).length = n := by simp; omega
      have hdl : (ops.toList.drop n).length = ops.size - n := by simp
      have inv0 : HeadInv .any ops n (Array.replicate ops.size false) :=
        ⟨by simp, fun j oj _ hl => (by rw [getD_replicate_false] at hl; cases hl), fun t _ ht => getD_in (by simpa using ht) (getD_replicate_false _ _)⟩
      have sinv0 : SInv ops st.nx (Array.replicate ops.size false) st := fun i _ _ => hf _ (by omega)
      have H := headS_lex (nx0 := st.nx) (gg := ops.size - n) hns hlow (ops.toList.take n) 0 _ st st1 (fun j hj => by
        have hj' : j < n := by rw [htl] at hj; exact hj
        rw [Nat.zero_add, List.getElem?_take, if_pos hj']; simp) (by simpa using htl) inv0 sinv0 (by rw [htl]; exact hlex) h1
      refine wp_region_any hm ?_
      have hdst : ∀ (i : Nat) (o : Oper), ops[i]? = some o → ∀ d, o.dst = some d → d < N := fun i o ho => hd o (by rw [← Array.getElem?_toList] at ho; exact List.mem_of_getElem? ho)
      have hSd : Sim P Dw F0 base M0 w0 N g st a { w with drawn := w.drawn + 1 } :=
        { hS with below := ⟨hS.below.os, hS.below.tape, hS.below.output, hS.below.size, hS.below.block⟩, base_le := hS.base_le, defers := hS.defers, size := hS.size, mem := hS.mem, box := hS.box, row := hS.row }
      have := wpAny_of_headS (Q' := Q) (gg := ops.size - n) (n := n) henv hdst (fun listed st2 g2 a2 w2 hL hinv hS2 => by
        obtain ⟨hseq, rfl⟩ := hL
        have hfree : ∀ j, n ≤ j → j < n + (ops.toList.drop n).length → Fresh st2 (st.nx + j) := by
          intro j hj1 hj2
          have hjs : j < ops.size := by rw [hdl] at hj2; omega
          refine hinv j hjs ?_
          have : ∀ (gg k : Nat) (listed : Array Bool), Region.seqB .any ops gg k listed = true → ∀ j, k ≤ j → j < k + gg → listed.getD j true = false := by
            intro gg
            induction gg with
            | zero => intro k listed _ j h1 h2; omega
            | succ gg ih =>
              intro k listed hs j h1 h2
              simp only [Region.seqB, Bool.and_eq_true, decide_eq_true_eq] at hs
              by_cases e : j = k
              · subst e
                have : j ∈ Region.ready .any ops listed := by rw [hs.1]; simp
                exact (mem_ready.1 this).1
              · have := ih (k + 1) _ hs.2 j (by omega) (by omega)
                rwa [getD_set_ne true (Ne.symm e)] at this
          exact this _ n listed hseq j hj1 (by rw [hdl] at hj2; exact hj2)
        have h3 := wpList_of_denT (ops := ops) henv hQ (ops.toList.drop n) n st2 g2 a2 w2 (fun o ho => hd o (List.mem_of_mem_drop ho)) hfree hS2 h2
        have := wpAny_of_seq (md := .any) (Q' := Q) (ops.toList.drop n) n listed a2 w2 (fun j => by simp [List.getElem?_drop]) (by rw [hdl]; exact hseq) h3
        rwa [hdl] at this) _ _ st g a _ sinv0 hSd H
      rw [htl, show n + (ops.size - n) = ops.size by omega] at this
      exact this
end
end Go.Proofs.Ytedgcbcphlonpaa.Den
