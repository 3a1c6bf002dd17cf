/- A reader of Go code in plain values: regions, whatever order is drawn (2). -/
import Derived.Test.YtgkohnjpnnofhaaGreatDen9
import Derived.Test.YtgkohnjpnnofhaaGreatFloat
namespace Go.Proofs.YtgkohnjpnnofhaaGreat.Den
set_option linter.unusedSimpArgs false
set_option linter.unusedVariables false
set_option linter.unnecessarySimpa false
open Go.RowKit
section
variable {P : Program} {Dw : World → Prop} {F0 : Par} {env : FuncId → List V → Option V} {base : Nat} {M0 : Mem} {w0 w : World} {N : Nat} {g : Ghost} {st : St} {a : Act} {o : Oper} {s : Nat} {ops : Array Oper}
theorem app_rw {dst : Option Nat} {r : C × Option (List V)} {s' : Nat} (h : s' ≠ s) : (st.app s dst r).rw s' = st.rw s' := by
 obtain ⟨c, b⟩ := r
 cases b with
 | none => cases dst <;> rfl
 | some l => cases c <;> cases dst <;> first | rfl | exact upd_ne _ _ h
theorem app_asV {dst : Option Nat} {r : C × Option (List V)} {c : C} (h : c.site ≠ some s) : (st.app s dst r).asV c = st.asV c := by
 cases c with
 | row s' =>
  simp only [St.asV]
  rw [app_rw fun e => h (by rw [e]; rfl)]
 | _ => rfl
theorem app_ow {dst : Option Nat} {r : C × Option (List V)} : (st.app s dst r).ow = st.ow := by
 obtain ⟨c, b⟩ := r
 cases b with
 | none => cases dst <;> rfl
 | some l => cases c <;> cases dst <;> rfl
theorem app_rf {dst : Option Nat} {r : C × Option (List V)} : (st.app s dst r).rf = st.rf := by
 obtain ⟨c, b⟩ := r
 cases b with
 | none => cases dst <;> rfl
 | some l => cases c <;> cases dst <;> rfl
theorem app_φ {dst : Option Nat} {r : C × Option (List V)} {t : Nat} (h : dst ≠ some t) : (st.app s dst r).φ t = st.φ t := by
 obtain ⟨c, b⟩ := r
 have key : ∀ st : St, ∀ c, (st.put dst c).φ t = st.φ t := fun st c => by
  cases dst with
  | none => rfl
  | some d => exact upd_ne _ _ (fun e => h (by rw [e]))
 cases b with
 | none => exact key _ _
 | some l => cases c <;> exact key _ _
theorem app_bx {dst : Option Nat} {r : C × Option (List V)} {s' : Nat} (h : s' ≠ s) : (st.app s dst r).bx s' = st.bx s' := by
 obtain ⟨c, b⟩ := r
 cases b with
 | none => cases dst <;> rfl
 | some l => cases c <;> cases dst <;> first | rfl | exact upd_ne _ _ h
theorem app_ev {dst : Option Nat} {r : C × Option (List V)} {x : Operand} (h : ∀ d, dst = some d → x ≠ .tmp d) : (st.app s dst r).ev x = st.ev x := by
 cases x with
 | tmp t => exact app_φ (fun e => h t e rfl)
 | _ => rfl
theorem shOp0_app {s' : Nat} {dst : Option Nat} {r : C × Option (List V)} (hap : ∀ d, dst = some d → d ∉ o.looksAt ops) (hf : Fresh st s) (hss : s ≠ s') : shOp0 P env ops s' (st.app s dst r) o = shOp0 P env ops s' st o := by
 have hops : ∀ x ∈ o.op.operands.toList, (st.app s dst r).ev x = st.ev x := fun x hx => app_ev fun d hd e => by
  subst e
  refine hap d hd ?_
  unfold Oper.looksAt
  exact List.mem_append_left _ (List.mem_filterMap.2 ⟨_, hx, rfl⟩)
 have hbx : ∀ x s2 off, st.ev x = .box s2 off → (st.app s dst r).bx s2 = st.bx s2 := fun x s2 off hx => app_bx fun e => ev_nbox hf x off (by rw [hx, e])
 have hstep := stepH_congr (P := P) (env := env) (s := s') (o := o) (st := st) (st' := st.app s dst r) hops hbx (fun x _ => app_asV (ev_site hf x)) app_ow app_rf
 unfold shOp0
 cases hg : o.guard with
 | none => exact hstep
 | some p =>
  simp only
  cases ht : (ops[p.1]?).bind (·.dst) with
  | none => rfl
  | some t =>
   simp only
   have hne : dst ≠ some t := fun e => hap t e (by
    unfold Oper.looksAt
    refine List.mem_append_right _ ?_
    rw [hg]
    simp only [ht, Option.toList]
    simp)
   rw [app_φ hne, hstep]
   have honly : onlyV (st.app s dst r) (stepH P env s' st o) = onlyV st (stepH P env s' st o) := by
    unfold onlyV
    split
    ·rename_i c hc
     exact congrArg some (app_asV (stepH_site hc hf hss))
    ·rfl
   rw [app_asV (hf.1 t), honly, addrOp_congr (P := P) (o := o) hops (fun x _ => app_asV (ev_site hf x)) app_ow app_rf]
theorem callBV_app {dst : Option Nat} {r : C × Option (List V)} {m : Option TypeId} {f : FuncId} {args : List Operand} (hops : ∀ x ∈ args, (st.app s dst r).ev x = st.ev x) (hf : Fresh st s) : callBV env (st.app s dst r) m f args = callBV env st m f args := by
 rw [callBV_def, callBV_def]
 have : (args.map fun x => argB (st.app s dst r) ((st.app s dst r).ev x)) = args.map fun x => argB st (st.ev x) := List.map_congr_left fun x hx => by
  rw [hops x hx]
  have h1 := app_asV (st := st) (dst := dst) (r := r) (ev_site hf x)
  unfold argB
  rw [app_ow]
  split <;> first | rfl | exact h1
 have this2 : (args.map fun x => argL (st.app s dst r) ((st.app s dst r).ev x)) = args.map fun x => argL st (st.ev x) := List.map_congr_left fun x hx => by
  rw [hops x hx]
  have h1 := app_asV (st := st) (dst := dst) (r := r) (ev_site hf x)
  unfold argL
  rw [app_ow]
  split <;> first | rfl | exact h1
 rw [this, this2]
theorem callGd_app {dst : Option Nat} {r : C × Option (List V)} : callGd (st.app s dst r) o = callGd st o := by
 unfold callGd St.isRf
 rw [app_rf]
theorem modeB_app {dst : Option Nat} {r : C × Option (List V)} : modeB P (st.app s dst r) o = modeB P st o := by
 unfold modeB St.isRf
 rw [app_rf]
theorem shOp_app {s' : Nat} {dst : Option Nat} {r : C × Option (List V)} (hap : ∀ d, dst = some d → d ∉ o.looksAt ops) (hf : Fresh st s) (hss : s ≠ s') : shOp P env ops s' (st.app s dst r) o = shOp P env ops s' st o := by
 unfold shOp
 rw [callGd_app, shOp0_app hap hf hss, modeB_app]
 cases hq : callGd st o with
 | none => rfl
 | some q =>
  obtain ⟨args, tys, hop, hl⟩ := callGd_op (f := q.1) (l := q.2) hq
  have hb : ∀ m, callBV env (st.app s dst r) m q.1 q.2 = callBV env st m q.1 q.2 := fun m => callBV_app (fun x hx => app_ev fun d hd e => by
   subst e
   refine hap d hd ?_
   unfold Oper.looksAt
   refine List.mem_append_left _ (List.mem_filterMap.2 ⟨.tmp d, ?_, rfl⟩)
   rw [hop]
   rw [hl] at hx
   simp [Op.operands, Call.operands]
   simpa using hx) hf
  simp only [hb]
  cases hg : o.guard with
  | none => rfl
  | some p =>
   simp only
   cases ht : (ops[p.1]?).bind (·.dst) with
   | none => rfl
   | some t =>
    simp only
    have hne : dst ≠ some t := fun e => hap t e (by
     unfold Oper.looksAt
     refine List.mem_append_right _ ?_
     rw [hg]
     simp only [ht, Option.toList]
     simp)
    rw [app_φ hne, app_asV (hf.1 t)]
theorem app_comm {s1 s2 : Nat} {d1 d2 : Option Nat} {r1 r2 : C × Option (List V)} (hs : s1 ≠ s2) (hd : ∀ d, d1 = some d → d2 ≠ some d) : (st.app s1 d1 r1).app s2 d2 r2 = (st.app s2 d2 r2).app s1 d1 r1 := by
 obtain ⟨c1, b1⟩ := r1
 obtain ⟨c2, b2⟩ := r2
 have hput : ∀ (st : St) (c c' : C), (st.put d1 c).put d2 c' = (st.put d2 c').put d1 c := fun st c c' => by
  cases d1 with
  | none => rfl
  | some d =>
   cases d2 with
   | none => rfl
   | some d' =>
    have hne : d ≠ d' := fun e => hd d rfl (by rw [e])
    simp only [St.put, upd_comm _ _ _ hne]
 -- what an operation does besides its slot
 let f : Nat → C × Option (List V) → St → St := fun s r st => match r.2 with
  | none => st
  | some l => match r.1 with
   | .row _ => { st with rw := upd st.rw s (some (tagE l, tagR l)) }
   | _ => { st with bx := upd st.bx s (some l) }
 have happ : ∀ (st : St) (s : Nat) (d : Option Nat) (r : C × Option (List V)), st.app s d r = (f s r st).put d r.1 := fun st s d r => by
  obtain ⟨c, b⟩ := r
  cases b with
  | none => rfl
  | some l => cases c <;> rfl
 have hfp : ∀ (s : Nat) (r : C × Option (List V)) (st : St) (d : Option Nat) (c : C), f s r (st.put d c) = (f s r st).put d c := fun s r st d c => by
  obtain ⟨c', b⟩ := r
  cases b with
  | none => rfl
  | some l => cases c' <;> cases d <;> rfl
 have hff : ∀ st : St, f s2 (c2, b2) (f s1 (c1, b1) st) = f s1 (c1, b1) (f s2 (c2, b2) st) := fun st => by
  cases b1 with
  | none => rfl
  | some l1 =>
   cases b2 with
   | none => rfl
   | some l2 =>
    cases c1 <;> cases c2 <;> simp only [f, upd_comm _ _ _ hs]
 rw [happ, happ, happ, happ, hfp, hfp, hff, hput]
noncomputable def sOp (P : Program) (env : FuncId → List V → Option V) (ops : Array Oper) (nx0 i : Nat) (K : St → Prop) (st : St) : Prop := match ops[i]? with
 | none => K st
 | some o => ∃ r, shOp P env ops (nx0 + i) st o = some r ∧ K (st.app (nx0 + i) o.dst r)
noncomputable def headS (P : Program) (env : FuncId → List V → Option V) (ops : Array Oper) (ex : Array Bool → Bool) (nx0 n : Nat) (L : Array Bool → St → Prop) : Nat → Array Bool → St → Prop
 | 0, listed, st => L listed st
 | f + 1, listed, st => (∃ i ∈ Region.ready .any ops listed, i < n) ∧ (ex listed = false → ∀ i ∈ Region.ready .any ops listed, i < n) ∧ ∀ i ∈ Region.ready .any ops listed, i < n → sOp P env ops nx0 i (headS P env ops ex nx0 n L f (listed.setIfInBounds i true)) st
def SInv (ops : Array Oper) (nx0 : Nat) (listed : Array Bool) (st : St) : Prop := ∀ i, i < ops.size → listed.getD i true = false → Fresh st (nx0 + i)
theorem SInv.step {nx0 i : Nat} {listed : Array Bool} {r : C × Option (List V)} (h : SInv ops nx0 listed st) (hr : shOp P env ops (nx0 + i) st o = some r) : SInv ops nx0 (listed.setIfInBounds i true) (st.app (nx0 + i) o.dst r) := by
 intro j hj hun
 by_cases e : i = j
 ·subst e
  exfalso
  rcases Nat.lt_or_ge i listed.size with hl | hl
  ·simp [Array.getD, hl] at hun
  ·simp [Array.getD, Nat.not_lt.2 hl] at hun
 ·rw [getD_set_ne true e] at hun
  have hf := h j hj hun
  exact app_fresh hf (by omega) (shOp_site hr hf (by omega))
theorem headS_first {ex : Array Bool → Bool} {nx0 n i : Nat} {oi : Oper} {r : C × Option (List V)} {L : Array Bool → St → Prop} (hi : ops[i]? = some oi) (hin : i < n) (hns : n ≤ ops.size)
  (hlow : ∀ listed, HeadInv .any ops n listed → ex listed = false → listed.getD i true = false → ∀ j ∈ Region.ready .any ops listed, j < n) (hdone : ∀ listed st, L listed st → ∀ j ∈ Region.ready .any ops listed, n ≤ j) :
  ∀ (f : Nat) (listed : Array Bool) (st : St), HeadInv .any ops n listed → SInv ops nx0 listed st →
   (∀ j oj, ops[j]? = some oj → j ≠ i → listed.getD j true = false → (∀ e ∈ oj.after, Region.binds .any e = true → e.on ≠ i) → oi.apart ops oj = true) →
   i ∈ Region.ready .any ops listed → shOp P env ops (nx0 + i) st oi = some r →
   headS P env ops ex nx0 n L f (listed.setIfInBounds i true) (st.app (nx0 + i) oi.dst r) → headS P env ops ex nx0 n L (f + 1) listed st := by
 intro f
 induction f with
 | zero =>
  intro listed st inv hinv _ hr hy H
  have hun := (mem_ready.1 hr).1
  refine ⟨⟨i, hr, hin⟩, fun he => hlow listed inv he hun, fun j hj hjn => ?_⟩
  by_cases hji : j = i
  ·subst hji; unfold sOp; simp only [hi]; exact ⟨r, hy, H⟩
  ·have := hdone _ _ H j (ready_mono hj hji)
   omega
 | succ f ih =>
  intro listed st inv hinv hfree hr hy H
  have hun := (mem_ready.1 hr).1
  refine ⟨⟨i, hr, hin⟩, fun he => hlow listed inv he hun, fun j hj hjn => ?_⟩
  by_cases hji : j = i
  ·subst hji; unfold sOp; simp only [hi]; exact ⟨r, hy, H⟩
  ·obtain ⟨hjun, oj, hoj, hall⟩ := mem_ready.1 hj
   have hnot : ∀ e ∈ oj.after, Region.binds .any e = true → e.on ≠ i := fun e he hb heq => by
    have h1 := hall e he hb
    rw [heq, getD_both hun] at h1
    cases h1
   obtain ⟨h1, h2, h3⟩ := Oper.apart_spec (hfree j oj hoj hji hjun hnot)
   have hfi : Fresh st (nx0 + i) := hinv i (by omega) hun
   have hfj : Fresh st (nx0 + j) := hinv j (Array.getElem?_eq_some_iff.1 hoj).1 hjun
   have H2 := H.2.2 j (ready_mono hj hji) hjn
   unfold sOp at H2 ⊢
   simp only [hoj] at H2 ⊢
   obtain ⟨rj, hrj, H3⟩ := H2
   rw [shOp_app h1 hfi (by omega)] at hrj
   refine ⟨rj, hrj, ih (listed.setIfInBounds j true) _ (inv.set hj hjn) (hinv.step hrj) (fun k ok hk hki hk2 hk3 => ?_) (ready_mono hr (Ne.symm hji)) (by rw [shOp_app h3 hfj (by omega)]; exact hy) ?_⟩
   ·refine hfree k ok hk hki ?_ hk3
    by_cases hjk : j = k
    ·subst hjk; exact hjun
    ·rw [getD_set_ne true hjk] at hk2; exact hk2
   ·rw [Array.setIfInBounds_comm _ _ hji, ← app_comm (by omega) h2]
    exact H3
theorem headS_lex {ex : Array Bool → Bool} {nx0 n gg : Nat} (hns : n ≤ ops.size) (hlow : ∀ i, i < n → ∀ listed, HeadInv .any ops n listed → ex listed = false → listed.getD i true = false → ∀ j ∈ Region.ready .any ops listed, j < n) :
  ∀ (l : List Oper) (k : Nat) (listed : Array Bool) (st st' : St), (∀ j, j < l.length → l[j]? = ops[k + j]?) → k + l.length = n → HeadInv .any ops n listed → SInv ops nx0 listed st →
  Region.lexHead .any ops gg l.length k listed = true → denH P env ops nx0 l k st = some st' → headS P env ops ex nx0 n (fun listed' st2 => Region.seqB .any ops gg n listed' = true ∧ st2 = st') l.length listed st
 | [], k, listed, st, st', _, hk, _, _, hB, h => by
  obtain rfl : k = n := by simpa using hk
  exact ⟨by simpa [Region.lexHead] using hB, by simpa [denH] using h⟩
 | o :: l, k, listed, st, st', hl, hk, inv, hinv, hB, h => by
  have h0 : ops[k]? = some o := by simpa using (hl 0 (by simp)).symm
  simp only [List.length_cons, Region.lexHead, Bool.and_eq_true] at hB
  obtain ⟨⟨hr, hf⟩, hB'⟩ := hB
  have hkn : k < n := by simp only [List.length_cons] at hk; omega
  have hr' : k ∈ Region.ready .any ops listed := by simpa using hr
  simp only [denH] at h
  obtain ⟨r, hr1, hr2⟩ := oB_ h
  exact headS_first h0 hkn hns (hlow k hkn) (fun listed' st' hL => seqB_ready hL.1) l.length listed st inv hinv (Region.free_spec h0 hf) hr' hr1
   (headS_lex hns hlow l (k + 1) _ _ st' (fun j hj => by have := hl (j + 1) (by simp; omega); simpa [Nat.add_assoc, Nat.add_comm 1 j] using this) (by simp only [List.length_cons] at hk; omega) (inv.set hr' hkn) (hinv.step hr1) hB' hr2)
theorem extract_still {M : Mem} {v : Value} {x y : V} {i : Nat} (hx : Rel M v x) (h : extractV x i = some y) : ∃ u, (∀ w : World, (Instr.extract v i).run P w = .ok u w) ∧ Rel M u y := by
 unfold extractV at h
 split at h
 ·rename_i l
  obtain ⟨cs, rfl, hs, hr⟩ := rel_tup hx
  have hlt : i < cs.size := by rw [hs]; exact (gS_ h).1
  exact ⟨cs[i], fun w => by simp [Instr.extract, hlt], by have := hr i y h; simpa [Array.getD, hlt] using this⟩
 ·cases h
theorem isFl_ok (hS : Sim P Dw F0 base M0 w0 N g st a w) (hfl : isFl o = true) {r : C × Option (List V)} (h : shOp P env ops s st o = some r) : ∃ v, Still P o a v ∧ RelC g v r.1 ∧ r.2 = none := by
 obtain ⟨dst, op, ty, pos, after, guard⟩ := o
 simp only [isFl, Bool.and_eq_true, Option.isNone_iff_eq_none] at hfl
 obtain ⟨rfl, hop⟩ := hfl
 cases op <;> simp only [Bool.false_eq_true] at hop
 case move x =>
  simp only [shOp, callGd, shOp0, stepH, addrOp, stepB, oE_] at h
  subst h
  exact ⟨a.eval x, fun w => by simp [execOp], hS.ev x, rfl⟩
 case extract x i =>
  simp only [shOp, callGd, shOp0, stepH, addrOp, stepB] at h
  obtain ⟨y, hy, rfl⟩ := vres_some h
  obtain ⟨u, h1, h2⟩ := extract_still (P := P) (hS.rd x) hy
  exact ⟨u, fun w => by simp only [execOp, Sem.run_bind, h1 w, Result.andThen_ok, Sem.run_pure], h2, rfl⟩
theorem wpAny_of_headS {ex : Array Bool → Bool} {nx0 n gg : Nat} {L : Array Bool → St → Prop} {Q' : Exit → Act → World → Prop} (henv : EnvOk P Dw env) (hdst : ∀ (i : Nat) (o : Oper), ops[i]? = some o → ∀ d, o.dst = some d → d < N)
  (hex : ∀ listed, ex listed = true → onlyF ops n listed = true ∧ flOk ops n = true) (hns : n ≤ ops.size) (hsel : Region.noSelect ops = true) (hQn : ∀ e a w, Q' e a w → e = .normal)
  (hL : ∀ listed st g a w, L listed st → SInv ops nx0 listed st → Sim P Dw F0 base M0 w0 N g st a w → wpAny P .any ops Q' gg listed a w) :
  ∀ (f : Nat) (listed : Array Bool) (st : St) (g : Ghost) (a : Act) (w : World), listed.size = ops.size → SInv ops nx0 listed st → Sim P Dw F0 base M0 w0 N g st a w → headS P env ops ex nx0 n L f listed st → wpAny P .any ops Q' (f + gg) listed a w
 | 0, listed, st, g, a, w, _, hinv, hS, h => by rw [Nat.zero_add]; exact hL _ _ _ _ _ h hinv hS
 | f + 1, listed, st, g, a, w, hsz, hinv, hS, h => by
  rw [show f + 1 + gg = (f + gg) + 1 by omega]
  obtain ⟨⟨i0, hi0, hi0n⟩, h1, h2⟩ := h
  cases hx : ex listed with
  | false =>
   refine ⟨fun h0 => (by rw [h0] at hi0; cases hi0), fun i hi => ?_⟩
   obtain ⟨hun, o, ho, _⟩ := mem_ready.1 hi
   have h2 := h2 i hi (h1 hx i hi)
   unfold sOp at h2
   unfold wpOp
   simp only [ho] at h2 ⊢
   obtain ⟨r, hr, h3⟩ := h2
   exact shOp_ok henv hS (hinv i (Array.getElem?_eq_some_iff.1 ho).1 hun) (hdst i o ho) hr fun g' v w' hS' => wpAny_of_headS henv hdst hex hns hsel hQn hL f _ _ g' _ w' (by simp [hsz]) (hinv.step hr) hS' h3
  | true =>
   obtain ⟨hof, hfo⟩ := hex listed hx
   -- the first that has not come
   obtain ⟨k, ⟨hkn, hkun⟩, hmin⟩ : ∃ k, (k < n ∧ listed.getD k true = false) ∧ ∀ j, j < k → listed.getD j true = true := by
    have hex0 : ∃ k, k < n ∧ listed.getD k true = false := ⟨i0, hi0n, (mem_ready.1 hi0).1⟩
    obtain ⟨k, hk, hkm⟩ : ∃ k, (k < n ∧ listed.getD k true = false) ∧ ∀ j, (j < n ∧ listed.getD j true = false) → k ≤ j := by
     obtain ⟨m, hm⟩ := hex0
     induction m using Nat.strongRecOn with
     | _ m ih =>
      by_cases h : ∃ k, k < m ∧ (k < n ∧ listed.getD k true = false)
      ·obtain ⟨k, hk, hp⟩ := h; exact ih k hk hp
      ·exact ⟨m, hm, fun k hk => Nat.le_of_not_lt fun hlt => h ⟨k, hlt, hk⟩⟩
    refine ⟨k, hk, fun j hj => ?_⟩
    cases hl : listed.getD j true with
    | true => rfl
    | false => have := hkm j ⟨by omega, hl⟩; omega
   have hfl : flB ops k = true := by
    have := List.all_eq_true.1 hof k (List.mem_range.2 hkn)
    simpa [hkun] using this
   have hks : k < ops.size := by omega
   have ho := Array.getElem?_eq_getElem hks
   have hfk := List.all_eq_true.1 hfo k (List.mem_range.2 hkn)
   simp only [hfl, Bool.not_true, Bool.false_or, Bool.and_eq_true] at hfk
   obtain ⟨hdeps, hfree⟩ := hfk
   have hready : k ∈ Region.ready .any ops listed := by
    refine mem_ready.2 ⟨hkun, ops[k], ho, fun e he hb => ?_⟩
    have hmem : e.on ∈ depsL ops k := by
     unfold depsL
     rw [ho]
     exact List.mem_map.2 ⟨e, List.mem_filter.2 ⟨by simpa using he, hb⟩, rfl⟩
    have hlt : e.on < k := by simpa using List.all_eq_true.1 hdeps _ hmem
    have := hmin e.on hlt
    simp only [Array.getD_eq_getD_getElem?, Array.getElem?_eq_getElem (show e.on < listed.size by omega), Option.getD_some] at this ⊢
    exact this
   have h2 := h2 k hready hkn
   unfold sOp at h2
   simp only [ho] at h2
   obtain ⟨r, hr, h3⟩ := h2
   have hfl' : isFl ops[k] = true := by unfold flB at hfl; rw [ho] at hfl; exact hfl
   obtain ⟨v, hst, hrel, hr2⟩ := isFl_ok hS hfl' hr
   have hg : ops[k].guard = none := by
    unfold isFl at hfl'
    simp only [Bool.and_eq_true, Option.isNone_iff_eq_none] at hfl'
    exact hfl'.1
   refine wpAny_first (oi := ops[k]) (v := v) ho (Region.noSelect_spec hsel) hQn (f + gg) listed a w (fun j oj hoj hjk hjun hno => ?_) hready (by simp [Region.wanted, hg]) hst ?_
   ·unfold freeUp at hfree
    rw [ho] at hfree
    have hjs := (Array.getElem?_eq_some_iff.1 hoj).1
    have := List.all_eq_true.1 hfree j (List.mem_range.2 hjs)
    simp only [hoj, Bool.or_eq_true, decide_eq_true_eq, Option.all_some] at this
    rcases this with (h | h) | h
    ·have := hmin j (by omega)
     rw [this] at hjun; cases hjun
    ·exfalso
     have hm : k ∈ depsL ops j := by simpa using h
     unfold depsL at hm
     rw [hoj] at hm
     obtain ⟨e, he, hon⟩ := List.mem_map.1 hm
     obtain ⟨he1, he2⟩ := List.mem_filter.1 he
     exact hno e (by simpa using he1) he2 hon
    ·exact h
   ·have hS' : Sim P Dw F0 base M0 w0 N g (st.app (nx0 + k) ops[k].dst r) (a.put ops[k].dst v) w := by
     obtain ⟨c, b⟩ := r
     simp only at hr2 hrel
     subst hr2
     exact hS.put_ (hdst k _ ho) hrel
    exact wpAny_of_headS henv hdst hex hns hsel hQn hL f _ _ g _ w (by simp [hsz]) (hinv.step hr) hS' h3
theorem reachL_listed {listed : Array Bool} (hcl : ∀ (j : Nat) (oj : Oper), ops[j]? = some oj → listed.getD j false = true → ∀ e ∈ oj.after, Region.binds .any e = true → listed.getD e.on false = true) : ∀ (k : Nat) (acc : List Nat), (∀ x ∈ acc, listed.getD x false = true) → ∀ x ∈ reachL ops k acc, listed.getD x false = true
 | 0, acc, h, x, hx => h x hx
 | k + 1, acc, h, x, hx => by
  simp only [reachL] at hx
  refine reachL_listed hcl k _ (fun y hy => ?_) x hx
  split at hy
  ·rename_i hk
   rcases List.mem_append.1 hy with hy | hy
   ·exact h y hy
   ·unfold depsL at hy
    split at hy
    ·rename_i o ho
     obtain ⟨e, he, rfl⟩ := List.mem_map.1 hy
     obtain ⟨he1, he2⟩ := List.mem_filter.1 he
     exact hcl k o ho (h k (by simpa using hk)) e (by simpa using he1) he2
    ·cases hy
  ·exact h y hy
theorem head_waits {n : Nat} {listed : Array Bool} (hh : headB ops n = true) (hc : Region.chainB .any ops n = true) (hn : n < ops.size) (inv : HeadInv .any ops n listed) (hx : onlyF ops n listed = false) : ∀ t, n ≤ t → t ∉ Region.ready .any ops listed := by
 intro t ht hr
 obtain ⟨_, ot, hot, hall⟩ := mem_ready.1 hr
 have htlt : t < ops.size := (Array.getElem?_eq_some_iff.1 hot).1
 by_cases htn : t = n
 ·subst htn
  have hdeps : ∀ x ∈ depsL ops t, listed.getD x false = true := fun x hx => by
   unfold depsL at hx
   rw [hot] at hx
   obtain ⟨e, he, rfl⟩ := List.mem_map.1 hx
   obtain ⟨he1, he2⟩ := List.mem_filter.1 he
   exact hall e (by simpa using he1) he2
  have hre := reachL_listed inv.closed t (depsL ops t) hdeps
  have : onlyF ops t listed = true := List.all_eq_true.2 fun i hi => by
   have h1 : (flB ops i || (reachL ops t (depsL ops t)).contains i) = true := List.all_eq_true.1 hh i hi
   rw [Bool.or_eq_true] at h1 ⊢
   rcases h1 with h1 | h1
   ·exact .inr h1
   ·left
    have h2 := hre i (by simpa using h1)
    cases hl : listed.getD i true with
    | true => rfl
    | false => rw [getD_both hl] at h2; cases h2
  rw [this] at hx; cases hx
 ·have h1 := List.all_eq_true.1 hc t (List.mem_range.2 htlt)
  simp only [Bool.or_eq_true, decide_eq_true_eq] at h1
  rcases h1 with h1 | h1
  ·omega
  ·obtain ⟨o', ho', e, he, hb, hon⟩ := Region.waitsFor_spec h1
   have : o' = ot := oJ_ (ho'.symm.trans hot)
   subst this
   have h2 := hall e he hb
   rw [hon, getD_both (inv.tail (t - 1) (by omega) (by omega))] at h2
   cases h2
theorem wpList_of_denT {nx0 : Nat} {Q : Exit → Act → World → Prop} {st' : St} (henv : EnvOk P Dw env) (hQ : ∀ g a w, Sim P Dw F0 base M0 w0 N g st' a w → Q .normal a w) :
  ∀ (l : List Oper) (k : Nat) (st : St) (g : Ghost) (a : Act) (w : World), (∀ o ∈ l, ∀ d, o.dst = some d → d < N) → (∀ j, k ≤ j → j < k + l.length → Fresh st (nx0 + j)) → Sim P Dw F0 base M0 w0 N g st a w → denT P env ops nx0 l k st = some st' → wpList P ops Q l a w
 | [], k, st, g, a, w, _, _, hS, h => by
  simp only [denT, oE_] at h
  subst h
  exact hQ g a w hS
 | o :: l, k, st, g, a, w, hd, hf, hS, h => by
  simp only [denT] at h
  obtain ⟨st1, h1, h2⟩ := oB_ h
  unfold wpList
  refine shT_ok henv hS (hf k (Nat.le_refl _) (by simp)) (hd o (by simp)) h1 fun g' v w' hS' => ?_
  exact wpList_of_denT henv hQ l (k + 1) st1 g' _ w' (fun o ho => hd o (by simp [ho])) (fun j hj1 hj2 => shT_fresh h1 (hf j (by omega) (by simp; omega)) (by omega)) hS' h2
def litV (y : V) : Option V := match y.val? with
 | some _ => some y
 | none => none
theorem litV_some {y z : V} (h : litV y = some z) : z = y ∧ ∃ u, y.val? = some u := by
 unfold litV at h
 split at h
 ·rename_i u hu
  exact ⟨(oJ_ h).symm, u, hu⟩
 ·cases h
theorem Sim.rebase (hS : Sim P Dw F0 base M0 w0 N g st a w) : Sim P Dw F0 base g.M w0 N g st a w := { hS with old := fun _ _ _ h _ _ => h, keepM := fun _ _ _ h => h }
theorem Sim.unbase (hS : Sim P Dw F0 base M0 w0 N g st a w) {g' : Ghost} {st' : St} {a' : Act} {w' : World} (h : Sim P Dw F0 base g.M w0 N g' st' a' w') : Sim P Dw F0 base M0 w0 N g' st' a' w' :=
 { h with old := fun b o u hu hb hF => hS.old b o u (h.old b o u hu hb hF) hb hF, keepM := fun b o u hu => h.keepM b o u (hS.keepM b o u hu) }
noncomputable def fltOp (P : Program) (m : Bool) (st : St) (o : Oper) : Option C := match o.op with
 | .move x => some (st.ev x)
 | .slice t x lo hi none => (sliceV P t (st.rd x) (lo.map st.rd) (hi.map st.rd)).map C.v
 | .binOp op t x y _ => ((bin2 P op t x y (st.rd x) (st.rd y)).bind litV).map C.v
 | .fieldAddr t x f => match m with
  | true => match placeP P t f with
   | some (d, _ + 1) => match st.ev x with
    | .box s ⟨[], off⟩ => some (.box s ⟨[], off + d⟩)
    | _ => none
   | _ => none
  | false => match placeP P t f with
   | some (d, _ + 1) => match st.ev x with
    | .v y => (ptrF d y).map C.v
    | _ => none
   | _ => none
 | .load t x => match m with
  | true => match st.ev x with
   | .box s ⟨[], off⟩ => ((loadC P st t (.box s ⟨[], off⟩)).bind litV).map C.v
   | _ => none
  | false => match st.ev x with
   | .v y => ((loadC P st t (.v y)).bind litV).map C.v
   | _ => none
 | .indexAddr t x i => match m with
  | true => none
  | false => match st.ev x with
   | .v y => (idxV P t y (st.rd i)).map C.v
   | _ => none
 | .extract x i => ((extractV (st.rd x) i).bind litV).map C.v
 | .pick c x y => (pickV (st.rd c) (st.rd x) (st.rd y)).map C.v
 | _ => none
def onlyC : C → Option V
 | .v y => some y
 | _ => none
theorem onlyC_some {c : C} {y : V} (h : onlyC c = some y) : c = .v y := by
 unfold onlyC at h
 split at h
 ·rw [oJ_ h]
 ·cases h
theorem uni {t : Sem Value} {M : Mem} {y : V} {u : Value} (hu : y.val? = some u) (h : ∀ w : World, ∃ v, t.run P w = .ok v w ∧ Rel M v y) (w : World) : t.run P w = .ok u w := by
 obtain ⟨v, h1, h2⟩ := h w
 rw [h1, rel_val h2 hu]
theorem fltOp_ok (hS : Sim P Dw F0 base M0 w0 N g st a w) {m : Bool} {S : World → Prop} (hSb : m = true → ∀ w', S w' → ∀ s l, st.bx s = some l → w'.heap[g.loc s]? = w.heap[g.loc s]?) (hSM : m = false → ∀ w', S w' → ∀ b o u, g.M b o = some u → w'.cell? ⟨b, o, none⟩ = some u) {c : C} (h : fltOp P m st o = some c) : ∃ v, (∀ w, S w → (execOp a.eval o).run P w = .ok (.value v) w) ∧ RelC g v c := by
 obtain ⟨dst, op, ty, pos, after, guard⟩ := o
 unfold fltOp at h
 split at h
 ·rename_i x hop
  simp only at hop
  subst hop
  obtain rfl := oJ_ h
  exact ⟨a.eval x, fun w _ => by simp [execOp], hS.ev x⟩
 ·rename_i t x lo hi hop
  simp only at hop
  subst hop
  obtain ⟨z, hy, rfl⟩ := oM_ h
  obtain ⟨u, hrun, hr⟩ := sliceV_uni (hS.rd x) (lo := lo.map a.eval) (hi := hi.map a.eval) (fun v hv => by
    cases lo with
    | none => cases hv
    | some q => simp at hv; subst hv; exact ⟨_, rfl, hS.rd q⟩) (fun hn => by cases lo <;> simp_all) (fun v hv => by
    cases hi with
    | none => cases hv
    | some q => simp at hv; subst hv; exact ⟨_, rfl, hS.rd q⟩) (fun hn => by cases hi <;> simp_all) hy
  refine ⟨u, fun w2 _ => ?_, hr⟩
  show (do pure (Next.value (← Instr.sliceAt t (a.eval x) (lo.map a.eval) (hi.map a.eval) none)) : Sem Next).run P w2 = _
  simp [hrun w2]
 ·rename_i op t x y yt hop
  simp only at hop
  subst hop
  obtain ⟨z, hz, rfl⟩ := oM_ h
  obtain ⟨y', hy, hz⟩ := oB_ hz
  obtain ⟨rfl, u, hu⟩ := litV_some hz
  have hrun := fun w2 : World => bin2_ok (w := w2) (hS.asV (hS.ev x)) (hS.asV (hS.ev y)) hy
  refine ⟨u, fun w2 _ => ?_, ?_⟩
  ·obtain ⟨v, h1, h2⟩ := hrun w2
   have := rel_val h2 hu
   subst this
   have e : (execOp a.eval ⟨dst, .binOp op t x y yt, ty, pos, after, guard⟩).run P w2 = (((do eqGuard op t x y (a.eval x) (a.eval y); binOp op t (a.eval x) (a.eval y) : Sem Value)).run P w2).andThen fun a w' => .ok (Next.value a) w' := by
    simp only [execOp, Sem.run_bind]
    cases (eqGuard op t x y (a.eval x) (a.eval y)).run P w2 <;> rfl
   rw [e, h1]; rfl
  ·obtain ⟨v, _, hr⟩ := hrun w
   rw [← rel_val hr hu]; exact hr
 ·rename_i t x f hop
  simp only at hop
  subst hop
  split at h
  ·split at h
   ·rename_i d q hpl
    split at h
    ·rename_i s off hc
     obtain rfl := oJ_ h
     obtain ⟨fs, fd, hu, hf, ho, hs⟩ := placeP_some hpl
     have hx := hS.ev x
     rw [hc] at hx
     have e := hx (by simp)
     refine ⟨.pointer (some ⟨g.loc s, off + d, none⟩), fun w' _ => ?_, fun _ => rfl⟩
     have : (Instr.fieldAt t (a.eval x) f).run P w' = .ok (.pointer (some ⟨g.loc s, off + d, none⟩)) w' := by
      rw [e]
      simp [Instr.fieldAt, run_underlying hu, hf, Instr.sureAddr, fieldPlace, run_sizeP hs, addr_add, ho]
     simp only [execOp, Sem.run_bind, this, Result.andThen_ok, Sem.run_pure]
    ·cases h
   ·cases h
  ·split at h
   ·rename_i d q hpl
    split at h
    ·rename_i y hc
     obtain ⟨z, hz, rfl⟩ := oM_ h
     obtain ⟨fs, fd, hu, hf, ho, hs⟩ := placeP_some hpl
     have hx := hS.ev x
     rw [hc] at hx
     unfold ptrF at hz
     split at hz
     ·rename_i l
      simp only [oE_] at hz
      subst hz
      obtain ⟨b, o, e, hm⟩ := rel_ptr hx
      refine ⟨.pointer (some ⟨b, o + d, none⟩), fun w' _ => ?_, mk_ptr fun j y hy => ?_⟩
      ·have : (Instr.fieldAt t (a.eval x) f).run P w' = .ok (.pointer (some ⟨b, o + d, none⟩)) w' := by
        rw [e]
        simp [Instr.fieldAt, run_underlying hu, hf, Instr.sureAddr, fieldPlace, run_sizeP hs, addr_add, ho]
       simp only [execOp, Sem.run_bind, this, Result.andThen_ok, Sem.run_pure]
      ·rw [List.getElem?_drop] at hy
       have := hm _ y hy
       rwa [← Nat.add_assoc] at this
     ·cases hz
    ·cases h
   ·cases h
 ·rename_i t x hop
  simp only at hop
  subst hop
  split at h
  ·split at h
   ·rename_i s off hc
    obtain ⟨z, hz, rfl⟩ := oM_ h
    obtain ⟨y, hy, hz⟩ := oB_ hz
    obtain ⟨rfl, u, hu⟩ := litV_some hz
    have hrun : ∀ w', S w' → ∃ v, (Instr.loadAt t (a.eval x)).run P w' = .ok v w' ∧ Rel g.M v z := by
     intro w' hw'
     have hx := hS.ev x
     rw [hc] at hx
     unfold loadC at hy
     obtain ⟨k, hk, hy⟩ := oB_ hy
     simp only [gateL] at hy
     obtain ⟨l, hl, hy⟩ := oB_ hy
     rw [hx (by simp)]
     obtain ⟨_, _, cs, ty, hw, hcs, hrel⟩ := hS.box s l hl
     rw [← hSb rfl w' hw' s l hl] at hw
     obtain ⟨v, h1, h2⟩ := load_run (w := w') (P := P) (M := g.M) (b := g.loc s) (off := off) (fun j y hy => by
      rw [List.getElem?_drop] at hy
      obtain ⟨h3, h4⟩ := hrel (off + j) y hy
      have h5 := (gS_ hy).1
      refine ⟨_, ?_, h3, h4⟩
      simp only [World.cell?, hw]
      exact cells_at (by rw [hcs]; exact h5)) hk hy
     exact ⟨v, by simpa [Instr.loadAt, Instr.sureAddr] using h1, h2⟩
    by_cases hSw : ∃ w', S w'
    ·obtain ⟨w1, hw1⟩ := hSw
     obtain ⟨v, h1, h2⟩ := hrun w1 hw1
     refine ⟨u, fun w2 hw2 => ?_, by rw [← rel_val h2 hu]; exact h2⟩
     obtain ⟨v2, h3, h4⟩ := hrun w2 hw2
     rw [rel_val h4 hu] at h3
     simp only [execOp, Sem.run_bind, h3, Result.andThen_ok, Sem.run_pure]
    ·obtain ⟨v, h1, h2⟩ := loadC_ok (x := x) hS (by rw [hc]; exact hy)
     exact ⟨v, fun w2 hw2 => absurd ⟨w2, hw2⟩ hSw, h2⟩
   ·cases h
  ·split at h
   ·rename_i y hc
    obtain ⟨z, hz, rfl⟩ := oM_ h
    obtain ⟨y2, hy, hz⟩ := oB_ hz
    obtain ⟨rfl, u, hu⟩ := litV_some hz
    have hrun : ∀ w', S w' → ∃ v, (Instr.loadAt t (a.eval x)).run P w' = .ok v w' ∧ Rel g.M v z := by
     intro w' hw'
     have hx := hS.ev x
     rw [hc] at hx
     unfold loadC at hy
     obtain ⟨k, hk, hy⟩ := oB_ hy
     simp only [ldp] at hy
     split at hy
     ·rename_i l
      obtain ⟨b, o, e, hm⟩ := rel_ptr hx
      rw [e]
      obtain ⟨v, h1, h2⟩ := load_run (w := w') (P := P) (fun j y hy => by obtain ⟨u, hu, h3⟩ := hm j y hy; exact ⟨u, hSM rfl w' hw' _ _ _ hu, h3⟩) hk hy
      exact ⟨v, by simpa [Instr.loadAt, Instr.sureAddr] using h1, h2⟩
     ·cases hy
    by_cases hSw : ∃ w', S w'
    ·obtain ⟨w1, hw1⟩ := hSw
     obtain ⟨v, h1, h2⟩ := hrun w1 hw1
     refine ⟨u, fun w2 hw2 => ?_, by rw [← rel_val h2 hu]; exact h2⟩
     obtain ⟨v2, h3, h4⟩ := hrun w2 hw2
     rw [rel_val h4 hu] at h3
     simp only [execOp, Sem.run_bind, h3, Result.andThen_ok, Sem.run_pure]
    ·obtain ⟨v, h1, h2⟩ := loadC_ok (x := x) hS (by rw [hc]; exact hy)
     exact ⟨v, fun w2 hw2 => absurd ⟨w2, hw2⟩ hSw, h2⟩
   ·cases h
 ·rename_i t x i hop
  simp only at hop
  subst hop
  split at h
  ·cases h
  ·split at h
   ·rename_i y hc
    obtain ⟨z, hz, rfl⟩ := oM_ h
    have hx := hS.ev x
    rw [hc] at hx
    obtain ⟨u, h1, h2⟩ := idxV_uni (P := P) (M := g.M) hx (hS.rd i) hz
    exact ⟨u, fun w' _ => by simp only [execOp, Sem.run_bind, h1 w', Result.andThen_ok, Sem.run_pure], h2⟩
   ·cases h
 ·rename_i x i hop
  simp only at hop
  subst hop
  obtain ⟨z, hz, rfl⟩ := oM_ h
  obtain ⟨y, hy, hz⟩ := oB_ hz
  obtain ⟨rfl, u, hu⟩ := litV_some hz
  have hrun := fun w2 : World => extractV_ok (P := P) (w := w2) (hS.rd x) hy
  refine ⟨u, fun w2 _ => ?_, ?_⟩
  ·have := uni hu hrun w2
   simp only [execOp, Sem.run_bind, this, Result.andThen_ok, Sem.run_pure]
  ·obtain ⟨v, _, hr⟩ := hrun w
   rw [← rel_val hr hu]; exact hr
 ·rename_i c x y hop
  simp only at hop
  subst hop
  obtain ⟨z, hz, rfl⟩ := oM_ h
  unfold pickV at hz
  split at hz
  ·rename_i b hb
   obtain rfl := oJ_ hz
   have hc := hS.rd c
   rw [hb] at hc
   have e := (rel_lit hc).1
   refine ⟨if b then a.eval x else a.eval y, fun w' _ => by simp [execOp, e, asBool], ?_⟩
   cases b
   ·exact hS.rd y
   ·exact hS.rd x
  ·cases hz
 ·cases h
noncomputable def denFl (P : Program) (m : Bool) (ops : Array Oper) (nx0 : Nat) : List Nat → St → Option St
 | [], st => some st
 | i :: r, st => match ops[i]? with
  | some o => match o.guard with
   | none => (fltOp P m st o).bind fun c => denFl P m ops nx0 r (st.app (nx0 + i) o.dst (c, none))
   | some p => match (ops[p.1]?).bind (·.dst) with
    | some t => (guardV (st.asV (st.φ t)) p.2 ((fltOp P m st o).bind onlyC)).bind fun y => denFl P m ops nx0 r (st.app (nx0 + i) o.dst (.v y, none))
    | none => none
  | none => none
noncomputable def denTl (P : Program) (env : FuncId → List V → Option V) (ops : Array Oper) (nx0 : Nat) : List Nat → St → Option St
 | [], st => some st
 | i :: r, st => match ops[i]? with
  | some o => (shT P env ops (nx0 + i) st o).bind fun st' => denTl P env ops nx0 r st'
  | none => none
theorem fltOp_site {m : Bool} {c : C} (h : fltOp P m st o = some c) {s2 : Nat} (hf : Fresh st s2) : c.site ≠ some s2 := by
 unfold fltOp at h
 split at h
 ·obtain rfl := oJ_ h
  exact ev_site hf _
 ·obtain ⟨z, _, rfl⟩ := oM_ h
  simp [C.site]
 ·obtain ⟨z, _, rfl⟩ := oM_ h
  simp [C.site]
 ·rename_i t x f hop
  split at h
  ·split at h
   ·split at h
    ·rename_i s off hc
     obtain rfl := oJ_ h
     have := ev_site hf x
     rw [hc] at this
     exact this
    ·cases h
   ·cases h
  ·split at h
   ·split at h
    ·obtain ⟨z, _, rfl⟩ := oM_ h
     simp [C.site]
    ·cases h
   ·cases h
 ·split at h
  ·split at h
   ·obtain ⟨z, _, rfl⟩ := oM_ h
    simp [C.site]
   ·cases h
  ·split at h
   ·obtain ⟨z, _, rfl⟩ := oM_ h
    simp [C.site]
   ·cases h
 ·split at h
  ·cases h
  ·split at h
   ·obtain ⟨z, _, rfl⟩ := oM_ h
    simp [C.site]
   ·cases h
 ·obtain ⟨z, _, rfl⟩ := oM_ h
  simp [C.site]
 ·obtain ⟨z, _, rfl⟩ := oM_ h
  simp [C.site]
 ·cases h
theorem put_fresh2 {dst : Option Nat} {c : C} {s1 s2 : Nat} (hf : Fresh st s2) (hc : c.site ≠ some s2) : Fresh (st.app s1 dst (c, none)) s2 := put_fresh hf hc
theorem denFl_fresh {m : Bool} {nx0 : Nat} {s2 : Nat} : ∀ (fl : List Nat) (st st' : St), denFl P m ops nx0 fl st = some st' → Fresh st s2 → Fresh st' s2
 | [], st, st', h, hf => by obtain rfl := oJ_ h; exact hf
 | i :: r, st, st', h, hf => by
  simp only [denFl] at h
  split at h
  ·split at h
   ·obtain ⟨c, hc, h⟩ := oB_ h
    exact denFl_fresh r _ st' h (put_fresh2 hf (fltOp_site hc hf))
   ·split at h
    ·obtain ⟨y, hy, h⟩ := oB_ h
     exact denFl_fresh r _ st' h (put_fresh2 hf (by simp [C.site]))
    ·cases h
  ·cases h
theorem wpFloatH_of {nx0 : Nat} {m : Bool} {st' : St} {S : World → Prop} {K : Act → World → Prop} : ∀ (fl : List Nat) (st : St) (a : Act), (∀ (i : Nat) (o : Oper), ops[i]? = some o → ∀ d, o.dst = some d → d < N) → Sim P Dw F0 base M0 w0 N g st a w → (m = true → ∀ w', S w' → ∀ s l, st.bx s = some l → w'.heap[g.loc s]? = w.heap[g.loc s]?) → (m = false → ∀ w', S w' → ∀ b o u, g.M b o = some u → w'.cell? ⟨b, o, none⟩ = some u) → denFl P m ops nx0 fl st = some st' →
  (∀ a, Sim P Dw F0 base M0 w0 N g st' a w → st'.bx = st.bx → K a w) → wpFloatH P ops S K fl a w
 | [], st, a, hd, hS, _, _, h, hK => by obtain rfl := oJ_ h; exact hK a hS rfl
 | i :: r, st, a, hd, hS, hSb, hSM, h, hK => by
  simp only [denFl] at h
  split at h
  ·rename_i o ho
   split at h
   ·rename_i hg
    obtain ⟨c, hc, h⟩ := oB_ h
    obtain ⟨v, h1, h2⟩ := fltOp_ok hS hSb hSM hc
    have hbx : (st.app (nx0 + i) o.dst (c, none)).bx = st.bx := by cases hd : o.dst <;> rfl
    exact ⟨o, v, ho, .inl ⟨by simp [Region.wanted, hg], h1⟩, wpFloatH_of r _ _ hd (hS.put_ (hd i o ho) h2) (fun hm w' hw' s l hl => hSb hm w' hw' s l (by rw [← hbx]; exact hl)) hSM h fun a ha hb => hK a ha (hb.trans hbx)⟩
   ·rename_i p hg
    split at h
    ·rename_i t ht
     obtain ⟨y, hy, h⟩ := oB_ h
     have hwant : ∀ b, st.asV (st.φ t) = .lit (.bool b) → Region.wanted o (yielded ops a.tmps) = (b == p.2) := by
      intro b hb
      have h1 := hS.asV (hS.slot t)
      rw [hb] at h1
      have h2 := yielded_some ht (rel_lit h1).1
      unfold Region.wanted
      rw [hg]
      simp only [h2]
      cases b <;> cases hp2 : p.2 <;> rfl
     have hskip : st.asV (st.φ t) = .tup [] → Region.wanted o (yielded ops a.tmps) = false := by
      intro hb
      have h1 := hS.asV (hS.slot t)
      rw [hb] at h1
      obtain ⟨cs, h2, h3, _⟩ := rel_tup h1
      have h4 : cs = #[] := Array.size_eq_zero_iff.1 (by simpa using h3)
      have h5 := yielded_none ht (by rw [h2, h4]; rfl)
      unfold Region.wanted
      rw [hg]
      simp only [h5]
      cases hp2 : p.2 <;> rfl
     have hbx : (st.app (nx0 + i) o.dst (.v y, none)).bx = st.bx := by cases hd : o.dst <;> rfl
     have hgo : ∀ v, RelC g v (.v y) → YieldsIf P ops S o v a → wpFloatH P ops S K (i :: r) a w := fun v hr hyi =>
      ⟨o, v, ho, hyi, wpFloatH_of r _ _ hd (hS.put_ (hd i o ho) hr) (fun hm w' hw' s l hl => hSb hm w' hw' s l (by rw [← hbx]; exact hl)) hSM h fun a ha hb => hK a ha (hb.trans hbx)⟩
     unfold guardV at hy
     split at hy
     ·rename_i b hb
      split at hy
      ·rename_i hb2
       obtain ⟨c, hc, hc2⟩ := oB_ hy
       obtain ⟨v, h1, h2⟩ := fltOp_ok hS hSb hSM hc
       rw [onlyC_some hc2] at h2
       exact hgo v h2 (.inl ⟨by rw [hwant b hb]; exact hb2, h1⟩)
      ·rename_i hb2
       obtain rfl := oJ_ hy
       exact hgo undef (rel_skip g.M) (.inr ⟨by rw [hwant b hb]; simpa using hb2, rfl⟩)
     ·rename_i hb
      obtain rfl := oJ_ hy
      exact hgo undef (rel_skip g.M) (.inr ⟨hskip hb, rfl⟩)
     ·cases hy
    ·cases h
  ·cases h
theorem wpSeqH_of_denTl {nx0 : Nat} {Q : Exit → Act → World → Prop} {st' : St} {S : World → Prop} (hS0 : ∀ g st a w, Sim P Dw F0 base M0 w0 N g st a w → S w) (henv : EnvOk P Dw env) (hQ : ∀ g a w, Sim P Dw F0 base M0 w0 N g st' a w → Q .normal a w) :
  ∀ (l : List Nat) (st : St) (g : Ghost) (a : Act) (w : World), (∀ (i : Nat) (o : Oper), ops[i]? = some o → ∀ d, o.dst = some d → d < N) → l.Nodup → (∀ j ∈ l, Fresh st (nx0 + j)) → Sim P Dw F0 base M0 w0 N g st a w → denTl P env ops nx0 l st = some st' → wpSeqH P ops Q S l a w
 | [], st, g, a, w, _, _, _, hS, h => by
  obtain rfl := oJ_ h
  exact hQ g a w hS
 | i :: l, st, g, a, w, hd, hn, hf, hS, h => by
  simp only [denTl] at h
  split at h
  ·rename_i o ho
   obtain ⟨st1, h1, h2⟩ := oB_ h
   unfold wpSeqH wpOp
   simp only [ho]
   rw [List.nodup_cons] at hn
   refine shT_ok henv hS (hf i (by simp)) (hd i o ho) h1 fun g' v w' hS' => ⟨hS0 _ _ _ _ hS', ?_⟩
   exact wpSeqH_of_denTl hS0 henv hQ l st1 g' _ w' hd hn.2 (fun j hj => shT_fresh h1 (hf j (by simp [hj])) (fun e => hn.1 ((show j = i by omega) ▸ hj))) hS' h2
  ·cases h
def isMapUpd (o : Oper) : Bool := o.guard.isNone && o.dst.isNone && match o.op with
 | .mapUpdate _ _ _ _ => true
 | _ => false
theorem wpSeqH_of_maps {nx0 : Nat} {Q : Exit → Act → World → Prop} {st' : St} {S : World → Prop} {loc0 : Nat → Nat} {bx0 : Nat → Option (List V)} {w1 : World} (hS0 : ∀ w, (∀ s l, bx0 s = some l → w.heap[loc0 s]? = w1.heap[loc0 s]?) → S w) (hQ : ∀ g a w, Sim P Dw F0 base M0 w0 N g st' a w → Q .normal a w) :
  ∀ (l : List Nat) (st : St) (g : Ghost) (a : Act) (w : World), (∀ i ∈ l, ∀ o, ops[i]? = some o → isMapUpd o = true) → g.loc = loc0 → st.bx = bx0 → (∀ s l, bx0 s = some l → w.heap[loc0 s]? = w1.heap[loc0 s]?) → Sim P Dw F0 base M0 w0 N g st a w → denTl P env ops nx0 l st = some st' → wpSeqH P ops Q S l a w
 | [], st, g, a, w, _, _, _, _, hS, h => by
  obtain rfl := oJ_ h
  exact hQ g a w hS
 | i :: l, st, g, a, w, hm, hloc, hbx, hw, hS, h => by
  simp only [denTl] at h
  split at h
  ·rename_i o ho
   obtain ⟨st1, h1, h2⟩ := oB_ h
   have hmo := hm i (by simp) o ho
   obtain ⟨dst, op, ty, pos, after, guard⟩ := o
   simp only [isMapUpd, Bool.and_eq_true, Option.isNone_iff_eq_none] at hmo
   obtain ⟨⟨rfl, rfl⟩, hop⟩ := hmo
   cases op <;> simp only [Bool.false_eq_true] at hop
   rename_i t m k v
   simp only [shT, stepT, ownOp] at h1
   split at h1
   ·rename_i r hr
    split at hr
    ·rename_i s' gs hev
     obtain rfl := oJ_ hr
     obtain ⟨w', g', k1, k2, k3, k4, k5⟩ := putO_ok hS (dst := none) (by simp) hev h1
     unfold wpSeqH wpOp
     simp only [ho]
     have hw' : ∀ s l, bx0 s = some l → w'.heap[loc0 s]? = w1.heap[loc0 s]? := fun s l hl => by
      rw [← hloc, k4 s l (by rw [hbx]; exact hl), hloc]; exact hw s l hl
     rw [if_pos (by simp [Region.wanted])]
     refine .inl ?_
     unfold Oper.wp
     have : (execOp a.eval ⟨none, .mapUpdate t m k v, ty, pos, after, none⟩).run P w = .ok .skip w' := by simp [execOp, k1]
     rw [this]
     exact ⟨hS0 w' hw', wpSeqH_of_maps hS0 hQ l st1 g' _ w' (fun j hj => hm j (by simp [hj])) (k3.trans hloc) (k5.trans hbx) hw' k2 h2⟩
    ·rename_i s' q pa hev
     obtain rfl := oJ_ hr
     obtain ⟨w', g', k1, k2, k3, k4, k5⟩ := putN_ok hS (dst := none) (by simp) hev h1
     unfold wpSeqH wpOp
     simp only [ho]
     have hw' : ∀ s l, bx0 s = some l → w'.heap[loc0 s]? = w1.heap[loc0 s]? := fun s l hl => by
      rw [← hloc, k4 s l (by rw [hbx]; exact hl), hloc]; exact hw s l hl
     rw [if_pos (by simp [Region.wanted])]
     refine .inl ?_
     unfold Oper.wp
     have : (execOp a.eval ⟨none, .mapUpdate t m k v, ty, pos, after, none⟩).run P w = .ok .skip w' := by simp [execOp, k1]
     rw [this]
     exact ⟨hS0 w' hw', wpSeqH_of_maps hS0 hQ l st1 g' _ w' (fun j hj => hm j (by simp [hj])) (k3.trans hloc) (k5.trans hbx) hw' k2 h2⟩
    ·cases hr
   ·rename_i hr
    exfalso
    simp [mOp, stepT0, stepH, addrOp, stepB] at h1
  ·cases h
def isFloat (m : Bool) (o : Oper) : Bool := o.guard.isNone && match o.op with
 | .move _ => true
 | .slice _ _ _ _ none => true
 | .binOp _ _ _ _ _ => true
 | .fieldAddr _ _ _ => m
 | .load _ _ => m
 | _ => false
def mapsOnly (ops : Array Oper) : Bool := ops.toList.all fun o => isFloat true o || isMapUpd o
def fltL (ops : Array Oper) (n : Nat) : List Nat := (List.range ops.size).filter fun i => (n - (ops.size + 1)).testBit i
def sqL (ops : Array Oper) (n : Nat) : List Nat := (List.range ops.size).filter fun i => !(n - (ops.size + 1)).testBit i
def mapB (ops : Array Oper) (n : Nat) : Bool := !mapsOnly ops || (sqL ops n).all fun i => (ops[i]?).any isMapUpd
def fltB (ops : Array Oper) (n : Nat) : Bool := Region.noSelect ops && floatL .any ops (sqL ops n) (fltL ops n) (Array.replicate ops.size false) && decide ((fltL ops n).length + (sqL ops n).length = ops.size) && mapB ops n
theorem sqL_nodup {n : Nat} : (sqL ops n).Nodup := List.Nodup.sublist List.filter_sublist List.nodup_range
noncomputable def denR (P : Program) (env : FuncId → List V → Option V) (ops : Array Oper) (draw : Bool) (n : Nat) (st : St) : Option St := match draw with
 | true => match decide (n ≤ ops.size) with
  | true => (denH P env ops st.nx (ops.toList.take n) 0 st).bind fun st1 => denT P env ops st.nx (ops.toList.drop n) n st1
  | false => (denFl P (mapsOnly ops) ops st.nx (fltL ops n) st).bind fun st1 => denTl P env ops st.nx (sqL ops n) st1
 | false => denT P env ops st.nx ops.toList 0 st
def regOk (P : Program) (ops : Array Oper) (draw : Bool) (n : Nat) : Bool := !draw || (P.follows .mixedOrders && match decide (n ≤ ops.size) with
 | true => regB ops n
 | false => fltB ops n)
theorem denR_ok {id n : Nat} {draw : Bool} {Q : Exit → Act → World → Prop} {st' : St} (henv : EnvOk P Dw env) (hS : Sim P Dw F0 base M0 w0 N g st a w) (hd : ∀ o ∈ ops.toList, ∀ d, o.dst = some d → d < N) (hf : ∀ s, st.nx ≤ s → Fresh st s)
  (hB0 : regOk P ops draw n = true) (h : denR P env ops draw n st = some st') (hQ : ∀ g a w, Sim P Dw F0 base M0 w0 N g st' a w → Q .normal a w) : (Code.region id ops draw).wp P Q a w := by
 unfold denR at h
 cases draw with
 | false =>
  simp only at h
  exact wp_region_list (wpList_of_denT henv hQ _ 0 st g a w hd (fun j _ _ => hf _ (by omega)) hS h)
 | true =>
  simp only at h
  by_cases hnn : n ≤ ops.size
  rotate_left
  ·rw [decide_eq_false hnn] at h
   simp only at h
   have hc : P.follows .mixedOrders = true ∧ fltB ops n = true := by simpa [regOk, hnn] using hB0
   obtain ⟨hm, hB⟩ := hc
   obtain ⟨st1, h1, h2⟩ := oB_ h
   have hdst : ∀ (i : Nat) (o : Oper), ops[i]? = some o → ∀ d, o.dst = some d → d < N := fun i o ho => hd o (by rw [← Array.getElem?_toList] at ho; exact List.mem_of_getElem? ho)
   have hB' : (Region.noSelect ops && floatL .any ops (sqL ops n) (fltL ops n) (Array.replicate ops.size false) && decide ((fltL ops n).length + (sqL ops n).length = ops.size)) = true ∧ (mapsOnly ops = true → (sqL ops n).all (fun i => (ops[i]?).any isMapUpd) = true) := by
    unfold fltB mapB at hB
    simp only [Bool.and_eq_true, Bool.or_eq_true, Bool.not_eq_true'] at hB ⊢
    exact ⟨hB.1, fun h => hB.2.resolve_left (by rw [h]; simp)⟩
   have key := wp_region_floatH (P := P) (Q := Q) (id := id) (a := a) (w := w) (l := ops.toList) (fun w' => (mapsOnly ops = true → ∀ s l, st.bx s = some l → w'.heap[g.loc s]? = w.heap[g.loc s]?) ∧ (mapsOnly ops = false → ∀ b o u, g.M b o = some u → w'.cell? ⟨b, o, none⟩ = some u)) (fltL ops n) (sqL ops n) hm (by simpa using hB'.1) fun Q' hQ' w' hh hb => ⟨⟨fun _ s l _ => by rw [hh], fun _ b o u hu => by rw [show w'.cell? ⟨b, o, none⟩ = w.cell? ⟨b, o, none⟩ from by unfold World.cell?; rw [hh]]; exact hS.mem b o u hu⟩, ?_⟩
   ·simpa using key
   ·have hS' : Sim P Dw F0 base M0 w0 N g st a w' := by
     have := hS.grow (M' := g.M) (w' := w') ⟨hb, fun _ _ _ h => h, fun b o u hu => by rw [show w'.cell? ⟨b, o, none⟩ = w.cell? ⟨b, o, none⟩ from by unfold World.cell?; rw [hh]]; exact hS.mem b o u hu, fun _ _ _ h _ => h⟩
     exact this
    simp only [Array.toArray_toList]
    refine wpFloatH_of (nx0 := st.nx) (fltL ops n) st a hdst hS' (fun hm w2 hw2 s l hl => by rw [hw2.1 hm s l hl, hh]) (fun hm w2 hw2 => hw2.2 hm) h1 fun a2 hS2 hbx2 => ?_
    by_cases hmo : mapsOnly ops = true
    ·refine wpSeqH_of_maps (nx0 := st.nx) (loc0 := g.loc) (bx0 := st.bx) (w1 := w) (fun w hw => ⟨fun _ => hw, fun hm => by rw [hmo] at hm; cases hm⟩) (fun g a w hS => hQ' a w (hQ g a w hS)) (sqL ops n) st1 g a2 w' (fun i hi o ho => ?_) rfl hbx2 (fun s l _ => by rw [hh]) hS2 h2
     have := List.all_eq_true.1 (hB'.2 hmo) i hi
     rw [ho] at this
     exact this
    ·exact wpSeqH_of_denTl (nx0 := st.nx) (M0 := g.M) (fun g' st'' a' w'' h => ⟨fun hm => absurd hm hmo, fun _ b o u hu => h.mem b o u (h.keepM b o u hu)⟩) henv (fun g' a w h => hQ' a w (hQ g' a w (hS2.unbase h))) (sqL ops n) st1 g a2 w' hdst sqL_nodup (fun j _ => denFl_fresh _ _ _ h1 (hf _ (by omega))) hS2.rebase h2
  ·rw [decide_eq_true hnn] at h
   simp only at h
   have hc : P.follows .mixedOrders = true ∧ regB ops n = true := by simpa [regOk, hnn] using hB0
   obtain ⟨hm, hB⟩ := hc
   obtain ⟨st1, h1, h2⟩ := oB_ h
   unfold regB at hB
   simp only [Bool.and_eq_true, Bool.or_eq_true, decide_eq_true_eq] at hB
   obtain ⟨⟨hsel, hn⟩, hlex⟩ := hB
   have hns : n ≤ ops.size := by rcases hn with h | h <;> omega
   obtain ⟨ex, hex, hlow⟩ : ∃ ex : Array Bool → Bool, (∀ listed, ex listed = true → onlyF ops n listed = true ∧ flOk ops n = true) ∧ ∀ i, i < n → ∀ listed, HeadInv .any ops n listed → ex listed = false → listed.getD i true = false → ∀ j ∈ Region.ready .any ops listed, j < n := by
    rcases hn with ⟨⟨hn1, hs | hs⟩, hch⟩ | hn1
    ·exact ⟨fun _ => false, fun _ h => (by cases h), fun i hi listed inv _ hun j hj => Nat.lt_of_not_le fun h => tail_waits hs hch hn1 inv _ i rfl hi hun j h hj⟩
    ·exact ⟨onlyF ops n, fun listed h => ⟨h, hs.2⟩, fun i hi listed inv he hun j hj => Nat.lt_of_not_le fun h => head_waits hs.1 hch hn1 inv he j h hj⟩
    ·refine ⟨fun _ => false, fun _ h => (by cases h), fun i hi listed inv _ hun j hj => ?_⟩
     rw [hn1]
     obtain ⟨_, oj, hoj, _⟩ := mem_ready.1 hj
     exact (Array.getElem?_eq_some_iff.1 hoj).1
   have htl : (ops.toList.take n).length = n := by simp; omega
   have hdl : (ops.toList.drop n).length = ops.size - n := by simp
   have inv0 : HeadInv .any ops n (Array.replicate ops.size false) :=
    ⟨by simp, fun j oj _ hl => (by rw [getD_replicate_false] at hl; cases hl), fun t _ ht => getD_in (by simpa using ht) (getD_replicate_false _ _)⟩
   have sinv0 : SInv ops st.nx (Array.replicate ops.size false) st := fun i _ _ => hf _ (by omega)
   have H := headS_lex (ex := ex) (nx0 := st.nx) (gg := ops.size - n) hns hlow (ops.toList.take n) 0 _ st st1 (fun j hj => by
    have hj' : j < n := by rw [htl] at hj; exact hj
    rw [Nat.zero_add, List.getElem?_take, if_pos hj']; simp) (by simpa using htl) inv0 sinv0 (by rw [htl]; exact hlex) h1
   refine Code.wp_mono (Q := fun e a w => e = .normal ∧ Q .normal a w) (fun e a w h => by obtain ⟨rfl, h⟩ := h; exact h) (wp_region_any hm ?_)
   have hdst : ∀ (i : Nat) (o : Oper), ops[i]? = some o → ∀ d, o.dst = some d → d < N := fun i o ho => hd o (by rw [← Array.getElem?_toList] at ho; exact List.mem_of_getElem? ho)
   have hSd : Sim P Dw F0 base M0 w0 N g st a { w with drawn := w.drawn + 1 } :=
    { hS with below := ⟨hS.below.os, hS.below.tape, hS.below.output, hS.below.size, hS.below.block⟩, base_le := hS.base_le, defers := hS.defers, size := hS.size, mem := hS.mem, box := hS.box, row := hS.row }
   have := wpAny_of_headS (Q' := fun e a w => e = .normal ∧ Q .normal a w) (gg := ops.size - n) (n := n) henv hdst hex hns hsel (fun e a w h => h.1) (fun listed st2 g2 a2 w2 hL hinv hS2 => by
    obtain ⟨hseq, rfl⟩ := hL
    have hfree : ∀ j, n ≤ j → j < n + (ops.toList.drop n).length → Fresh st2 (st.nx + j) := by
     intro j hj1 hj2
     have hjs : j < ops.size := by rw [hdl] at hj2; omega
     refine hinv j hjs ?_
     have : ∀ (gg k : Nat) (listed : Array Bool), Region.seqB .any ops gg k listed = true → ∀ j, k ≤ j → j < k + gg → listed.getD j true = false := by
      intro gg
      induction gg with
      | zero => intro k listed _ j h1 h2; omega
      | succ gg ih =>
       intro k listed hs j h1 h2
       simp only [Region.seqB, Bool.and_eq_true, decide_eq_true_eq] at hs
       by_cases e : j = k
       ·subst e
        have : j ∈ Region.ready .any ops listed := by rw [hs.1]; simp
        exact (mem_ready.1 this).1
       ·have := ih (k + 1) _ hs.2 j (by omega) (by omega)
        rwa [getD_set_ne true (Ne.symm e)] at this
     exact this _ n listed hseq j hj1 (by rw [hdl] at hj2; exact hj2)
    have h3 := wpList_of_denT (ops := ops) (Q := fun e a w => e = .normal ∧ Q .normal a w) henv (fun g a w h => ⟨rfl, hQ g a w h⟩) (ops.toList.drop n) n st2 g2 a2 w2 (fun o ho => hd o (List.mem_of_mem_drop ho)) hfree hS2 h2
    have := wpAny_of_seq (md := .any) (Q' := fun e a w => e = .normal ∧ Q .normal a w) (ops.toList.drop n) n listed a2 w2 (fun j => by simp [List.getElem?_drop]) (by rw [hdl]; exact hseq) h3
    rwa [hdl] at this) _ _ st g a _ (by simp) sinv0 hSd H
   rw [htl, show n + (ops.size - n) = ops.size by omega] at this
   exact this
end
end Go.Proofs.YtgkohnjpnnofhaaGreat.Den
