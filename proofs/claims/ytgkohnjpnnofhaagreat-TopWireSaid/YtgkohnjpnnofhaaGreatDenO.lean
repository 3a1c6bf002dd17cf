/- A reader of Go code in plain values: operations on what is owned: a store, a new slice, a new object. -/
import Derived.Test.YtgkohnjpnnofhaaGreatDen8
namespace Go.Proofs.YtgkohnjpnnofhaaGreat.Den
set_option linter.unusedSimpArgs false
set_option linter.unusedVariables false
set_option linter.unnecessarySimpa false
open Go.RowKit
def killC (s n : Nat) : C → C
 | .adr s' p q gs => if s' = s ∧ n < p.length then .v .any else .adr s' p q gs
 | .ref s' p gs => if s' = s ∧ n < p.length then .v .any else .ref s' p gs
 | c => c
def St.kill (st : St) (s n : Nat) : St := { st with φ := fun t => killC s n (st.φ t) }
def giveC (st : St) (s : Nat) (c : C) : Option (List V × Option Nat) := match c with
 | .ref s2 [] [] => if s2 = s then none else (st.ow s2).bind fun z => z.cellsO.map fun cs => (cs, some s2)
 | c => (st.asV c).cellsO.map fun cs => (cs, none)
def dropO (st : St) : Option Nat → St
 | some s2 => { st.kill s2 0 with ow := upd st.ow s2 none }
 | none => st
def storeO (P : Program) (st : St) (dst : Option Nat) (t : TypeId) (s : Nat) (p : List Stp) (q : Stp) (gs : List (V × Bool)) (cy : C) : Option St :=
 (gateL gs (some .any)).bind fun _ => (sizeP P t).bind fun k => (st.ow s).bind fun x => (giveC st s cy).bind fun y => (setV x p q k y.1).map fun x' =>
  ({ (dropO st y.2).kill s p.length with ow := upd (dropO st y.2).ow s (some x') }).put dst (.v .any)
section
variable {P : Program} {Dw : World → Prop} {F0 : Par} {base : Nat} {M0 : Mem} {w0 w : World} {N : Nat} {g : Ghost} {st : St} {a : Act} {o : Oper} {s : Nat}
theorem killC_v {s n : Nat} {x : V} : killC s n (.v x) = .v x := rfl
theorem relC_kill {g g' : Ghost} {v : Value} {c : C} {s n : Nat} (h : RelC g v c) (hM : g'.M = g.M) (hloc : g'.loc = g.loc) (hval : g'.val = g.val) (hov : g'.ov = g.ov)
  (hs : ∀ p x y, p ≠ [] → p.length ≤ n → g.ow s = some x → getV x p = some y → (∃ x' y', g'.ow s = some x' ∧ getV x' p = some y') ∧ walkV g'.hp (g.ov s) p = walkV g.hp (g.ov s) p)
  (ho : ∀ s' p x y, s' ≠ s → p ≠ [] → g.ow s' = some x → getV x p = some y → (∃ x' y', g'.ow s' = some x' ∧ getV x' p = some y') ∧ walkV g'.hp (g.ov s') p = walkV g.hp (g.ov s') p) : RelC g' v (killC s n c) := by
 cases c with
 | v x => simp only [killC_v, RelC] at h ⊢; rw [hM]; exact h
 | nil => exact h
 | box s' off => simp only [killC, RelC] at h ⊢; rw [hloc]; exact h
 | row s' => simp only [killC, RelC] at h ⊢; rw [hval]; exact h
 | adr s' p q gs =>
  simp only [killC]
  split
  ·exact .any _
  ·rename_i hk
   simp only [RelC] at h ⊢
   rw [hov]
   intro hg
   obtain ⟨h1, u, b, h2, h3, h4⟩ := h hg
   by_cases hp : p = []
   ·subst hp
    exact ⟨.inl rfl, u, b, h2, h3, h4⟩
   ·obtain ⟨x, y, hx, hy⟩ := h1.resolve_left hp
    have key : (∃ x' y', g'.ow s' = some x' ∧ getV x' p = some y') ∧ walkV g'.hp (g.ov s') p = walkV g.hp (g.ov s') p := by
     by_cases e : s' = s
     ·subst e
      exact hs p x y hp (by have : ¬ n < p.length := fun hl => hk ⟨rfl, hl⟩
                            omega) hx hy
     ·exact ho s' p x y e hp hx hy
    exact ⟨.inr key.1, u, b, by rw [key.2]; exact h2, h3, h4⟩
 | ref s' p gs =>
  simp only [killC]
  split
  ·exact .any _
  ·rename_i hk
   simp only [RelC] at h ⊢
   rw [hov]
   intro hg
   obtain ⟨h1, h2⟩ := h hg
   by_cases hp : p = []
   ·subst hp
    exact ⟨.inl rfl, h2⟩
   ·obtain ⟨x, y, hx, hy⟩ := h1.resolve_left hp
    have key : (∃ x' y', g'.ow s' = some x' ∧ getV x' p = some y') ∧ walkV g'.hp (g.ov s') p = walkV g.hp (g.ov s') p := by
     by_cases e : s' = s
     ·subst e
      exact hs p x y hp (by have : ¬ n < p.length := fun hl => hk ⟨rfl, hl⟩
                            omega) hx hy
     ·exact ho s' p x y e hp hx hy
    exact ⟨.inr key.1, by rw [key.2]; exact h2⟩
theorem cellsT {hp : Hp} {M : Mem} {F : Nat → Prop} {v : Value} {z : V} {cs : List V} (h : RelT hp M F v z) (hc : z.cellsO = some cs) :
  ∃ G : Nat → Nat → Prop, v.cells.size = cs.length ∧ (∀ m y, cs[m]? = some y → (v.cells.getD m undef).oneCell' = true ∧ RelT hp M (G m) (v.cells.getD m undef) y) ∧ (∀ m q, G m q → F q) ∧ ∀ m m' q, G m q → G m' q → m = m' := by
 cases h with
 | pure _ _ _ h =>
  obtain ⟨h1, h2⟩ := cells_rel h hc
  exact ⟨fun _ _ => False, h1, fun m y hy => ⟨(h2 m y hy).1, .pure _ _ _ (h2 m y hy).2⟩, fun _ _ h => h.elim, fun _ _ _ h => h.elim⟩
 | agg _ cs' l Fi hs h1 hr sub dis =>
  simp only [V.cellsO, oE_] at hc
  subst hc
  exact ⟨Fi, hs, fun m y hy => ⟨h1 m (gS_ hy).1, hr m y hy⟩, sub, dis⟩
 | tup => simp [V.cellsO] at hc
 | obj _ b cs' ty fz hz l Fi hb hh hs h1 hr sub dis =>
  simp only [V.cellsO, oE_] at hc
  subst hc
  refine ⟨fun m q => m = 0 ∧ F q, rfl, fun m y hy => ?_, fun m q h => h.2, fun m m' q h h' => h.1.trans h'.1.symm⟩
  cases m with
  | succ m => simp at hy
  | zero =>
   simp at hy
   subst hy
   exact ⟨rfl, (RelT.obj F b cs' ty fz hz l Fi hb hh hs h1 hr sub dis).weak fun q h => ⟨rfl, h⟩⟩
 | osl _ b c k cs' ty fz hz rows Fi hb hh hs hn hm hk h1 hr sub dis =>
  simp only [V.cellsO, oE_] at hc
  subst hc
  refine ⟨fun m q => m = 0 ∧ F q, rfl, fun m y hy => ?_, fun m q h => h.2, fun m m' q h h' => h.1.trans h'.1.symm⟩
  cases m with
  | succ m => simp at hy
  | zero =>
   simp at hy
   subst hy
   exact ⟨rfl, (RelT.osl F b c k cs' ty fz hz rows Fi hb hh hs hn hm hk h1 hr sub dis).weak fun q h => ⟨rfl, h⟩⟩
 | oslNil _ _ =>
  simp only [V.cellsO, oE_] at hc
  subst hc
  refine ⟨fun _ _ => False, rfl, fun m y hy => ?_, fun _ _ h => h.elim, fun _ _ _ h => h.elim⟩
  cases m with
  | succ m => simp at hy
  | zero =>
   simp at hy
   subst hy
   exact ⟨rfl, .oslNil _ _⟩
 | mp _ b es clock l hb hh hl =>
  simp only [V.cellsO, oE_] at hc
  subst hc
  refine ⟨fun m q => m = 0 ∧ F q, rfl, fun m y hy => ?_, fun m q h => h.2, fun m m' q h h' => h.1.trans h'.1.symm⟩
  cases m with
  | succ m => simp at hy
  | zero =>
   simp at hy
   subst hy
   exact ⟨rfl, (RelT.mp F b es clock l hb hh hl).weak fun q h => ⟨rfl, h⟩⟩
theorem Sim.dropO (hS : Sim P Dw F0 base M0 w0 N g st a w) (s2 : Option Nat) : Sim P Dw F0 base M0 w0 N { g with ow := (Den.dropO st s2).ow } (Den.dropO st s2) a w := by
 cases s2 with
 | none => simp only [Den.dropO]; exact { hS with gow := rfl, slot := fun t => by have := hS.slot t; rw [← hS.gow]; exact this }
 | some s2 =>
  simp only [Den.dropO]
  refine { hS with slot := fun t => ?_, own := fun s x hs => ?_, fph := fun s x q hs => ?_, owd := fun s s' x x' h1 h2 => ?_, gow := rfl, box := hS.box, boxes := hS.boxes, row := hS.row, rows := hS.rows, boxrow := hS.boxrow, hp := hS.hp }
  ·refine relC_kill (g := g) (hS.slot t) rfl rfl rfl rfl (fun p x y hp hl => by cases p with
    | nil => exact absurd rfl hp
    | cons => simp at hl) (fun s' p x y hne hp hx hy => ⟨⟨x, y, ?_, hy⟩, rfl⟩)
   show upd st.ow s2 none s' = some x
   rw [upd_ne _ _ hne, ← hS.gow]; exact hx
  ·by_cases e : s = s2
   ·subst e; simp only [upd_same] at hs; cases hs
   ·simp only [upd_ne _ _ e] at hs; exact hS.own s x hs
  ·by_cases e : s = s2
   ·subst e; simp only [upd_same] at hs; cases hs
   ·simp only [upd_ne _ _ e] at hs; exact hS.fph s x q hs
  ·by_cases e : s = s2
   ·subst e; simp only [upd_same] at h1; cases h1
   ·by_cases e' : s' = s2
    ·subst e'; simp only [upd_same] at h2; cases h2
    ·simp only [upd_ne _ _ e] at h1; simp only [upd_ne _ _ e'] at h2
     exact hS.owd s s' x x' h1 h2
theorem Sim.setBlk (hS : Sim P Dw F0 base M0 w0 N g st a w) {b : Nat} {ob0 ob' : Obj} (hb : g.hp b = some ob0) {w' : World} (hw : w'.heap[b]? = some ob') (hsize : w'.heap.size = w.heap.size) (hos : w'.os = w.os) (htape : w'.tape = w.tape) (hout : w'.output = w.output)
  (hoth : ∀ n, n ≠ b → w'.heap[n]? = w.heap[n]?) {st' : St} {fp' : Nat → Nat → Prop} (hφ : ∀ t, RelC { g with hp := upd g.hp b (some ob'), fp := fp', ow := st'.ow } (a.tmps.getD t undef) (st'.φ t)) (hbx : st'.bx = st.bx) (hrw : st'.rw = st.rw)
  (hown : ∀ s x, st'.ow s = some x → RelT (upd g.hp b (some ob')) g.M (fp' s) (g.ov s) x) (hfph : ∀ s x q, st'.ow s = some x → fp' s q → ∃ ob, g.hp q = some ob) (howd : ∀ s s' x x', st'.ow s = some x → st'.ow s' = some x' → s ≠ s' → ∀ q, fp' s q → ¬ fp' s' q) :
  Sim P Dw F0 base M0 w0 N { g with hp := upd g.hp b (some ob'), fp := fp', ow := st'.ow } st' a w' := by
 obtain ⟨p1, p2, p3, p4, p5⟩ := hS.hp b _ hb
 refine { ovp := hS.ovp, inv := hS.inv, below := ?_, base_le := by rw [hsize]; exact hS.base_le, defers := hS.defers, size := hS.size, mem := fun b' o' u hu => ?_, old := hS.old, keepM := hS.keepM, slot := hφ, box := fun s l hs => ?_, boxes := ?_, row := fun s e rows hs => ?_, rows := ?_, boxrow := ?_, hp := fun q ob hq => ?_, own := hown, fph := fun s x q hs hq => ?_, owd := howd, gow := rfl }
 ·refine hS.below.trans ⟨hos, htape, hout, by omega, fun n hn hf => hoth n fun e => ?_⟩
  subst e
  rcases p1 with h | h
  ·omega
  ·exact hf h
 ·have hu : g.M b' o' = some u := hu
  have hne : b' ≠ b := fun e => by rw [e, p3] at hu; cases hu
  rw [World.cell?_of_block (w := w) (hoth b' hne)]
  exact hS.mem b' o' u hu
 ·rw [hbx] at hs
  obtain ⟨q1, q2, q3, q4, q5, q6⟩ := hS.box s l hs
  exact ⟨q1, q2, q3, q4, by rw [hoth _ (p4 s l hs)]; exact q5, q6⟩
 ·rw [hbx]; exact hS.boxes
 ·rw [hrw] at hs
  obtain ⟨q1, k2, xs, q2, q3, q4, q5, q6⟩ := hS.row s e rows hs
  refine ⟨q1, k2, xs, q2, owns_block q3 fun q hq => hoth q fun e2 => p5 s _ hs (by rw [← e2]; exact hq), q4, q5, fun q hq => ?_⟩
  obtain ⟨t1, t2, t3⟩ := q6 q hq
  exact ⟨t1, by rw [hsize]; exact t2, t3⟩
 ·rw [hrw]; exact hS.rows
 ·rw [hbx, hrw]; exact hS.boxrow
 ·by_cases e : q = b
  ·subst e
   simp only [upd_same, oE_] at hq
   subst hq
   exact ⟨p1, hw, p3, by rw [hbx]; exact p4, by rw [hrw]; exact p5⟩
  ·simp only [upd_ne _ _ e] at hq
   obtain ⟨r1, r2, r3, r4, r5⟩ := hS.hp q ob hq
   exact ⟨r1, by rw [hoth q e]; exact r2, r3, by rw [hbx]; exact r4, by rw [hrw]; exact r5⟩
 ·by_cases e : q = b
  ·subst e; exact ⟨_, upd_same _ _ _⟩
  ·obtain ⟨ob, h⟩ := hfph s x q hs hq
   exact ⟨ob, by show upd g.hp b _ q = some ob; rw [upd_ne _ _ e]; exact h⟩
theorem storeO_ok (hS : Sim P Dw F0 base M0 w0 N g st a w) {dst : Option Nat} (hd : ∀ d, dst = some d → d < N) {t : TypeId} {x y : Operand} {s : Nat} {p : List Stp} {q : Stp} {gs : List (V × Bool)} {st' : St} (hx : st.ev x = .adr s p q gs) (h : storeO P st dst t s p q gs (st.ev y) = some st') :
  ∃ w' g', (Instr.storeAt t (a.eval x) (a.eval y)).run P w = .ok () w' ∧ Sim P Dw F0 base M0 w0 N g' st' (a.put dst undef) w' := by
 have hxr := hS.ev x
 rw [hx] at hxr
 unfold storeO at h
 obtain ⟨z9, hz9, h⟩ := oB_ h
 obtain ⟨k, hk, h⟩ := oB_ h
 obtain ⟨tr, htr, h⟩ := oB_ h
 obtain ⟨⟨cs, s2⟩, hgive, h⟩ := oB_ h
 obtain ⟨x', hx', h⟩ := oM_ h
 subst h
 simp only at hx' ⊢
 obtain ⟨hpath, u, b, hwk, hbu, hval⟩ := hxr (gateL_some hz9).1
 -- the cells that come
 obtain ⟨G, hsz, hcells, hGd, hG1, hG2, hne2⟩ : ∃ G : Nat → Nat → Prop, (a.eval y).cells.size = cs.length ∧ (∀ m z, cs[m]? = some z → ((a.eval y).cells.getD m undef).oneCell' = true ∧ RelT g.hp g.M (G m) ((a.eval y).cells.getD m undef) z) ∧ (∀ m m' q, G m q → G m' q → m = m') ∧
   (∀ m q, G m q → ∃ s2', s2 = some s2' ∧ s2' ≠ s ∧ ∃ z, st.ow s2' = some z ∧ g.fp s2' q) ∧ (s2 = none → ∀ m q, ¬ G m q) ∧ (∀ s2', s2 = some s2' → s2' ≠ s) := by
  unfold giveC at hgive
  split at hgive
  ·rename_i s2' hev
   split at hgive
   ·cases hgive
   ·rename_i hne
    obtain ⟨z, hz, hgive⟩ := oB_ hgive
    obtain ⟨cs', hcs', e⟩ := oM_ hgive
    simp only [Prod.mk.injEq] at e
    obtain ⟨rfl, rfl⟩ := e
    have hyr := hS.ev y
    rw [hev] at hyr
    have hov := (hyr (by simp)).2
    simp only [walkV, oE_] at hov
    have hT := hS.own s2' z hz
    rw [hov] at hT
    obtain ⟨G, g1, g2, g3, g4⟩ := cellsT hT hcs'
    exact ⟨G, g1, g2, g4, fun m q hq => ⟨s2', rfl, hne, z, hz, g3 m q hq⟩, fun h => (by cases h), fun s3 h3 => by simp only [oE_] at h3; rw [← h3]; exact hne⟩
  ·obtain ⟨cs', hcs', e⟩ := oM_ hgive
   simp only [Prod.mk.injEq] at e
   obtain ⟨rfl, rfl⟩ := e
   obtain ⟨h1, h2⟩ := cells_rel (hS.asV (hS.ev y)) hcs'
   exact ⟨fun _ _ => False, h1, fun m z hz => ⟨(h2 m z hz).1, .pure _ _ _ (h2 m z hz).2⟩, fun _ _ _ h => h.elim, fun _ _ h => h.elim, fun _ _ _ h => h, fun s3 h3 => by cases h3⟩
 have hvl : (a.eval y).cells.toList.length = cs.length := by rw [← hsz]; simp
 have hgetD : ∀ m, (a.eval y).cells.toList.getD m undef = (a.eval y).cells.getD m undef := fun m => by simp
 have hGF : ∀ m q, G m q → ¬ g.fp s q := fun m q hq hf => by
  obtain ⟨s2', _, hne, z, hz, hf2⟩ := hG1 m q hq
  exact hS.owd s2' s z tr hz htr hne q hf2 hf
 obtain ⟨u', b', cur, ty, fz, k1, k2, k3, k4, hnfz, k5, k6, k7, k8⟩ := (hS.own s tr htr).setV p hx' (vals := (a.eval y).cells.toList) (G := G) hvl (fun m z hz => by rw [hgetD]; exact hcells m z hz) hGd hGF
 rw [hwk] at k1
 obtain rfl := oJ_ k1
 rw [hbu] at k2
 obtain rfl := oJ_ k2
 obtain ⟨p1, p2, p3, p4, p5⟩ := hS.hp b _ k4
 have hone : ∀ v ∈ (a.eval y).cells.toList, v.oneCell' = true := by
  intro v hv'
  obtain ⟨j, hj⟩ := List.getElem?_of_mem hv'
  have hjl : j < cs.length := by rw [← hvl]; exact (gS_ hj).1
  have := (hcells j _ (gE_ hjl)).1
  rw [← hgetD] at this
  have e : (a.eval y).cells.toList.getD j undef = v := by rw [List.getD, hj]; rfl
  rwa [e] at this
 obtain ⟨w', m1, m2, m3, m4, m5, m6, m7⟩ := storeCells_blockF (P := P) b ty fz (a.eval y).cells.toList 0 q.abs cur w p2 hnfz (by rw [hvl]; omega) hone
 obtain ⟨f1, f2⟩ := foldl_set q.abs (a.eval y).cells.toList 0 cur (by rw [hvl]; omega)
 have hsz2 : (a.eval y).cells.size = k := by rw [hsz]; exact k6
 generalize ((a.eval y).cells.toList.zipIdx 0).foldl (fun cs (p : Value × Nat) => cs.setIfInBounds (q.abs + p.2) p.1) cur = cur' at m2 f1 f2
 have hD := hS.dropO s2
 have hDs : (dropO st s2).ow s = some tr := by
  cases s2 with
  | none => exact htr
  | some s2' => simp only [dropO]; rw [upd_ne _ _ (Ne.symm (hne2 s2' rfl))]; exact htr
 have hDo : ∀ s1 x1, (dropO st s2).ow s1 = some x1 → st.ow s1 = some x1 ∧ s2 ≠ some s1 := by
  intro s1 x1 h1
  cases s2 with
  | none => exact ⟨h1, by simp⟩
  | some s2' =>
   simp only [dropO] at h1
   by_cases e : s1 = s2'
   ·subst e; rw [upd_same] at h1; cases h1
   ·rw [upd_ne _ _ e] at h1; exact ⟨h1, by simp only [ne_eq, oE_]; exact fun e2 => e e2.symm⟩
 have hDbx : (dropO st s2).bx = st.bx := by cases s2 <;> rfl
 have hDrw : (dropO st s2).rw = st.rw := by cases s2 <;> rfl
 have hnew := k8 (upd g.hp b (some (.cells cur' ty fz))) cur' (fun q => g.fp s q ∨ ∃ m, G m q) f1 (fun i => by rw [f2 i]; simp only [Nat.add_zero, hvl]) (upd_same _ _ _) (fun q hq => upd_ne _ _ hq) (fun q hq => .inl hq) (fun m q hq => .inr ⟨m, hq⟩)
 have hoth : ∀ s1 x1, s1 ≠ s → st.ow s1 = some x1 → ¬ g.fp s1 b := fun s1 x1 hne h1 hf => hS.owd s1 s x1 tr h1 htr hne b hf k3
 refine ⟨w', _, by rw [hval]; simp [Instr.storeAt, Instr.sureAddr, storeVar, run_sizeP hk, hsz2, m1], Sim.put_ (hD.setBlk (fp' := upd g.fp s (fun q => g.fp s q ∨ ∃ m, G m q)) k4 m2 m3 m4 m5 m6 m7 (fun t' => ?_) rfl rfl (fun s1 x1 h1 => ?_) (fun s1 x1 q1 h1 hq1 => ?_) (fun s1 s3 x1 x3 h1 h3 hne q1 hq1 hq3 => ?_)) hd (.any _)⟩
 ·refine relC_kill (g := { g with ow := (dropO st s2).ow }) (hD.slot t') rfl rfl rfl rfl (fun p2 x2 y2 hp2 hl2 hx2 hy2 => ?_) (fun s' p2 x2 y2 hne hp2 hx2 hy2 => ?_)
  ·have hx2 : (dropO st s2).ow s = some x2 := hx2
   rw [hDs] at hx2
   obtain rfl := oJ_ hx2
   obtain ⟨y', hy'⟩ := getV_setV p p2 hx' hy2 hl2
   exact ⟨⟨x', y', by show upd (dropO st s2).ow s (some x') s = some x'; exact upd_same _ _ _, hy'⟩, k7 p2 y2 hy2 hl2 _⟩
  ·have hx2 : (dropO st s2).ow s' = some x2 := hx2
   have hx3 := (hDo s' x2 hx2).1
   refine ⟨⟨x2, y2, by show upd (dropO st s2).ow s (some x') s' = some x2; rw [upd_ne _ _ hne]; exact hx2, hy2⟩, ?_⟩
   exact walk_congr p2 (hS.own s' x2 hx3) hy2 fun q' hq' => upd_ne _ _ fun e => hoth s' x2 hne hx3 (by rw [← e]; exact hq')
 ·have h1 : upd (dropO st s2).ow s (some x') s1 = some x1 := h1
  by_cases e : s1 = s
  ·subst e
   simp only [upd_same, oE_] at h1 ⊢
   subst h1
   exact hnew
  ·rw [upd_ne _ _ e] at h1
   simp only [upd_ne _ _ e]
   have h2 := (hDo s1 x1 h1).1
   exact (hS.own s1 x1 h2).congr fun q' hq' => upd_ne _ _ fun e2 => hoth s1 x1 e h2 (by rw [← e2]; exact hq')
 ·have h1 : upd (dropO st s2).ow s (some x') s1 = some x1 := h1
  by_cases e : s1 = s
  ·subst e
   simp only [upd_same] at hq1
   rcases hq1 with h | ⟨m, h⟩
   ·exact hS.fph s1 tr q1 htr h
   ·obtain ⟨s2', _, _, z, hz, hf⟩ := hG1 m q1 h
    exact hS.fph s2' z q1 hz hf
  ·rw [upd_ne _ _ e] at h1
   simp only [upd_ne _ _ e] at hq1
   exact hS.fph s1 x1 q1 (hDo s1 x1 h1).1 hq1
 ·have h1 : upd (dropO st s2).ow s (some x') s1 = some x1 := h1
  have h3 : upd (dropO st s2).ow s (some x') s3 = some x3 := h3
  by_cases e : s1 = s <;> by_cases e3 : s3 = s
  ·exact hne (e.trans e3.symm)
  ·subst e
   rw [upd_ne _ _ e3] at h3
   simp only [upd_same, upd_ne _ _ e3] at hq1 hq3
   obtain ⟨h4, h5⟩ := hDo s3 x3 h3
   rcases hq1 with h | ⟨m, h⟩
   ·exact hS.owd s1 s3 tr x3 htr h4 hne q1 h hq3
   ·obtain ⟨s2', he, _, z, hz, hf⟩ := hG1 m q1 h
    exact hS.owd s2' s3 z x3 hz h4 (fun e5 => h5 (by rw [he, e5])) q1 hf hq3
  ·subst e3
   rw [upd_ne _ _ e] at h1
   simp only [upd_same, upd_ne _ _ e] at hq1 hq3
   obtain ⟨h4, h5⟩ := hDo s1 x1 h1
   rcases hq3 with h | ⟨m, h⟩
   ·exact hS.owd s1 s3 x1 tr h4 htr hne q1 hq1 h
   ·obtain ⟨s2', he, _, z, hz, hf⟩ := hG1 m q1 h
    exact hS.owd s2' s1 z x1 hz h4 (fun e5 => h5 (by rw [he, e5])) q1 hf hq1
  ·rw [upd_ne _ _ e] at h1
   rw [upd_ne _ _ e3] at h3
   simp only [upd_ne _ _ e, upd_ne _ _ e3] at hq1 hq3
   exact hS.owd s1 s3 x1 x3 (hDo s1 x1 h1).1 (hDo s3 x3 h3).1 hne q1 hq1 hq3
theorem Sim.newBlk (hS : Sim P Dw F0 base M0 w0 N g st a w) {blk : Nat} {ob : Obj} (hblk : base ≤ blk) (hw : w.heap[blk]? = some ob) (hM : ∀ o, g.M blk o = none) (hbx : ∀ s l, st.bx s = some l → g.loc s ≠ blk) (hrw : ∀ s r, st.rw s = some r → (g.val s).ownBlock ≠ some blk) (hhp : g.hp blk = none) :
  Sim P Dw F0 base M0 w0 N { g with hp := upd g.hp blk (some ob) } st a w := by
 have hnf : ∀ s x, st.ow s = some x → ¬ g.fp s blk := fun s x hs hf => by
  obtain ⟨ob', h⟩ := hS.fph s x blk hs hf
  rw [hhp] at h; cases h
 refine { hS with slot := fun t => ?_, hp := fun q ob' hq => ?_, own := fun s x hs => ?_, fph := fun s x q hs hq => ?_ }
 ·have h := hS.slot t
  cases hc : st.φ t with
  | v x => rw [hc] at h; exact h
  | nil => rw [hc] at h; exact h
  | box s' off => rw [hc] at h; exact h
  | row s' => rw [hc] at h; exact h
  | adr s' p q gs =>
   rw [hc] at h
   simp only [RelC] at h ⊢
   intro hg
   obtain ⟨h1, u, b, h2, h3⟩ := h hg
   refine ⟨h1, u, b, ?_, h3⟩
   rcases h1 with rfl | ⟨x, y, hx, hy⟩
   ·exact h2
   ·rw [hS.gow] at hx
    rw [walk_congr p (hS.own s' x hx) hy fun q' hq' => upd_ne _ _ fun e => hnf s' x hx (by rw [← e]; exact hq')]
    exact h2
  | ref s' p gs =>
   rw [hc] at h
   simp only [RelC] at h ⊢
   intro hg
   obtain ⟨h1, h2⟩ := h hg
   refine ⟨h1, ?_⟩
   rcases h1 with rfl | ⟨x, y, hx, hy⟩
   ·exact h2
   ·rw [hS.gow] at hx
    rw [walk_congr p (hS.own s' x hx) hy fun q' hq' => upd_ne _ _ fun e => hnf s' x hx (by rw [← e]; exact hq')]
    exact h2
 ·by_cases e : q = blk
  ·subst e
   simp only [upd_same, oE_] at hq
   subst hq
   exact ⟨.inl hblk, hw, hM, hbx, hrw⟩
  ·simp only [upd_ne _ _ e] at hq
   exact hS.hp q ob' hq
 ·exact (hS.own s x hs).congr fun q hq => upd_ne _ _ fun e => hnf s x hs (by rw [← e]; exact hq)
 ·by_cases e : q = blk
  ·subst e; exact absurd hq (hnf s x hs)
  ·obtain ⟨ob', h⟩ := hS.fph s x q hs hq
   exact ⟨ob', by show upd g.hp blk _ q = _; rw [upd_ne _ _ e]; exact h⟩
theorem Sim.newSite (hS : Sim P Dw F0 base M0 w0 N g st a w) (hf : Fresh st s) {x : V} {v : Value} {F : Nat → Prop} (hx : RelT g.hp g.M F v x) (hF : ∀ q, F q → ∃ ob, g.hp q = some ob) (hFo : ∀ s' x', st.ow s' = some x' → ∀ q, F q → ¬ g.fp s' q) :
  Sim P Dw F0 base M0 w0 N { g with ov := upd g.ov s v, fp := upd g.fp s F, ow := upd st.ow s (some x) } { st with ow := upd st.ow s (some x) } a w := by
 refine { hS with slot := fun t => ?_, own := fun s' x' hs => ?_, fph := fun s' x' q hs hq => ?_, owd := fun s1 s2 x1 x2 h1 h2 hne q q1 q2 => ?_, gow := rfl, ovp := fun s' hs' => by show upd g.ov s v s' = _; rw [upd_ne _ _ (by have := hf.2.2.2.2; omega)]; exact hS.ovp s' hs' }
 ·have h := hS.slot t
  have hne := hf.1 t
  show RelC _ _ (st.φ t)
  cases hc : st.φ t with
  | v x => rw [hc] at h; exact h
  | nil => rw [hc] at h; exact h
  | box s' off => rw [hc] at h; exact h
  | row s' => rw [hc] at h; exact h
  | adr s' p q gs =>
   rw [hc] at h hne
   have hn : s' ≠ s := fun e => hne (by rw [e]; rfl)
   simp only [RelC] at h ⊢
   rw [upd_ne _ _ hn, upd_ne _ _ hn, ← hS.gow]
   exact h
  | ref s' p gs =>
   rw [hc] at h hne
   have hn : s' ≠ s := fun e => hne (by rw [e]; rfl)
   simp only [RelC] at h ⊢
   rw [upd_ne _ _ hn, upd_ne _ _ hn, ← hS.gow]
   exact h
 ·by_cases e : s' = s
  ·subst e
   simp only [upd_same, oE_] at hs ⊢
   subst hs
   exact hx
  ·simp only [upd_ne _ _ e] at hs ⊢
   exact hS.own s' x' hs
 ·by_cases e : s' = s
  ·subst e
   simp only [upd_same] at hq
   exact hF q hq
  ·simp only [upd_ne _ _ e] at hs hq
   exact hS.fph s' x' q hs hq
 ·by_cases e1 : s1 = s <;> by_cases e2 : s2 = s
  ·exact hne (e1.trans e2.symm)
  ·subst e1
   simp only [upd_same, upd_ne _ _ e2] at h2 q1 q2
   exact hFo s2 x2 h2 q q1 q2
  ·subst e2
   simp only [upd_same, upd_ne _ _ e1] at h1 q1 q2
   exact hFo s1 x1 h1 q q2 q1
  ·simp only [upd_ne _ _ e1, upd_ne _ _ e2] at h1 h2 q1 q2
   exact hS.owd s1 s2 x1 x2 h1 h2 hne q q1 q2
def makeN (k : Nat) (z : List V) (xl xc : V) : Option V := match xl, xc with
 | .lit (.int _ n), .lit (.int _ m) => if n = m ∧ 0 ≤ n ∧ n ≤ 4294967296 then some (.osl k (List.replicate n.toNat z)) else none
 | _, _ => none
def makeO (P : Program) (s : Nat) (st : St) (dst : Option Nat) (t : TypeId) (xl xc : V) : Option St := (elemP P t).bind fun p => (zeroP P p.1).bind fun z => (makeN p.2 z xl xc).map fun y => { st with ow := upd st.ow s (some y) }.put dst (.ref s [] [])
def allocO (P : Program) (s : Nat) (st : St) (dst : Option Nat) (t : TypeId) : Option St := (zeroP P t).map fun z => { st with ow := upd st.ow s (some (.obj z)) }.put dst (.adr s [] ⟨none, 0, 0⟩ [])
def boxO (s : Nat) (st : St) (dst : Option Nat) (c : C) : Option St := (giveC st s c).map fun y => { dropO st y.2 with ow := upd (dropO st y.2).ow s (some (.obj y.1)) }.put dst (.adr s [] ⟨none, 0, 0⟩ [])
def s2bT (x : V) : Option V := match x with
 | .lit (.string ss) => if ss.size ≤ maxLen then some (.osl 1 (bytesR ss)) else none
 | _ => none
def bytesO (s : Nat) (st : St) (dst : Option Nat) (x : V) : Option St := (s2bT x).map fun y => { st with ow := upd st.ow s (some y) }.put dst (.ref s [] [])
theorem Fresh.dropO {s : Nat} (hf : Fresh st s) (s2 : Option Nat) : Fresh (Den.dropO st s2) s := by
 cases s2 with
 | none => exact hf
 | some s2 =>
  refine ⟨fun t => ?_, hf.2.1, hf.2.2.1, ?_, hf.2.2.2.2⟩
  ·simp only [Den.dropO, St.kill]
   have := hf.1 t
   cases hc : st.φ t <;> rw [hc] at this <;> simp only [killC] <;> first | exact this | (split <;> first | exact this | simp [C.site])
  ·simp only [Den.dropO]
   by_cases e : s = s2
   ·rw [e, upd_same]
   ·rw [upd_ne _ _ e]; exact hf.2.2.2.1
theorem Sim.allocOb (hS : Sim P Dw F0 base M0 w0 N g st a w) (hf : Fresh st s) {ob : Obj} {w' : World} (hg : Grow g.M w g.M w') (hsz : w.heap.size < w'.heap.size) (hw : w'.heap[w.heap.size]? = some ob) {x : V} {v : Value} {F : Nat → Prop}
  (hx : RelT (upd g.hp w.heap.size (some ob)) g.M F v x) (hF : ∀ q, F q → q = w.heap.size ∨ ∃ ob, g.hp q = some ob) (hFo : ∀ s' x', st.ow s' = some x' → ∀ q, F q → ¬ g.fp s' q) :
  Sim P Dw F0 base M0 w0 N { g with hp := upd g.hp w.heap.size (some ob), ov := upd g.ov s v, fp := upd g.fp s F, ow := upd st.ow s (some x) } { st with ow := upd st.ow s (some x) } a w' := by
 have hS' := hS.grow hg
 have hhp : g.hp w.heap.size = none := by
  cases hq : g.hp w.heap.size with
  | none => rfl
  | some ob =>
   have := (Array.getElem?_eq_some_iff.1 (hS.hp _ ob hq).2.1).1
   omega
 have h1 := hS'.newBlk (blk := w.heap.size) hS.base_le hw (fun o => by
  show g.M _ o = none
  cases hm : g.M w.heap.size o with
  | none => rfl
  | some u => have := mem_lt hS.mem hm; omega) (fun s' l hs => by
   obtain ⟨_, _, cs', ty', hh, _⟩ := hS.box s' l hs
   have := (Array.getElem?_eq_some_iff.1 hh).1
   show g.loc s' ≠ _
   omega) (fun s' r hs he => by
   obtain ⟨_, _, _, _, _, _, _, h6⟩ := hS.row s' r.1 r.2 hs
   have := (h6 _ he).2.1
   omega) hhp
 refine h1.newSite hf hx (fun q hq => ?_) hFo
 rcases hF q hq with e | ⟨ob, h⟩
 ·subst e; exact ⟨_, upd_same _ _ _⟩
 ·by_cases e : q = w.heap.size
  ·subst e; exact ⟨_, upd_same _ _ _⟩
  ·exact ⟨ob, by show upd g.hp _ _ q = _; rw [upd_ne _ _ e]; exact h⟩
theorem Sim.alloc_ (hS : Sim P Dw F0 base M0 w0 N g st a w) (hf : Fresh st s) {cs : Array Value} {ty : TypeId} {fz : Nat × Nat} {w' : World} (hg : Grow g.M w g.M w') (hsz : w.heap.size < w'.heap.size) (hw : w'.heap[w.heap.size]? = some (.cells cs ty fz)) {x : V} {v : Value} {F : Nat → Prop}
  (hx : RelT (upd g.hp w.heap.size (some (.cells cs ty fz))) g.M F v x) (hF : ∀ q, F q → q = w.heap.size ∨ ∃ ob, g.hp q = some ob) (hFo : ∀ s' x', st.ow s' = some x' → ∀ q, F q → ¬ g.fp s' q) :
  Sim P Dw F0 base M0 w0 N { g with hp := upd g.hp w.heap.size (some (.cells cs ty fz)), ov := upd g.ov s v, fp := upd g.fp s F, ow := upd st.ow s (some x) } { st with ow := upd st.ow s (some x) } a w' := hS.allocOb hf hg hsz hw hx hF hFo
theorem fresh_notin (hS : Sim P Dw F0 base M0 w0 N g st a w) : ∀ s' x', st.ow s' = some x' → ∀ q, q = w.heap.size → ¬ g.fp s' q := fun s' x' hs q e hf => by
 obtain ⟨ob, h⟩ := hS.fph s' x' q hs hf
 have := (Array.getElem?_eq_some_iff.1 (hS.hp _ ob h).2.1).1
 omega
theorem grow_cells {M : Mem} (hm : ∀ b o u, M b o = some u → w.cell? ⟨b, o, none⟩ = some u) (ob : Obj) : Grow M w M (w.alloc ob) ∧ Grow M w M (w.drew.alloc ob) := by
 refine ⟨grow_box hm ob, ⟨(Below.refl _ _).drew.alloc (Nat.le_refl _) _, fun _ _ _ h => h, fun b o u hu => ?_, fun _ _ _ h _ => h⟩⟩
 have hl := mem_lt hm hu
 rw [((Below.refl w.heap.size w).drew.alloc (Nat.le_refl _) _).cell (p := ⟨b, o, none⟩) hl]
 exact hm b o u hu
theorem makeO_ok (hS : Sim P Dw F0 base M0 w0 N g st a w) (hf : Fresh st s) {dst : Option Nat} (hd : ∀ d, dst = some d → d < N) {t : TypeId} {x y : Operand} {st' : St} (h : makeO P s st dst t (st.rd x) (st.rd y) = some st') :
  ∃ v w' g', (Instr.makeSlice t (a.eval x) (a.eval y)).run P w = .ok v w' ∧ Sim P Dw F0 base M0 w0 N g' st' (a.put dst v) w' := by
 unfold makeO at h
 obtain ⟨pp, hel, h⟩ := oB_ h
 obtain ⟨e, k⟩ := pp
 obtain ⟨z, hz, h⟩ := oB_ h
 obtain ⟨tr, htr, rfl⟩ := oM_ h
 obtain ⟨bytes, el, hby, hsz⟩ := elemP_some hel
 obtain ⟨i, zv, hi, hzv, hzr⟩ := zero_ok (M := g.M) hz
 obtain ⟨i', zv', hi', hzv', hsize, hbytes, hzs⟩ := el.hi
 simp only at hi' hsize hbytes hzs hi
 rw [hi] at hi'
 obtain rfl := oJ_ hi'
 rw [hzv] at hzv'
 obtain rfl := oJ_ hzv'
 have hzl : z.length = k := by rw [← hzr.1, hzs]
 unfold makeN at htr
 split at htr
 ·rename_i kl n kc m hxl hxc
  split at htr
  ·rename_i hc
   obtain ⟨rfl, h0, hn⟩ := hc
   simp only [oE_] at htr
   subst htr
   have hl := hS.rd x
   rw [hxl] at hl
   have e1 := (rel_lit hl).1
   have hcc := hS.rd y
   rw [hxc] at hcc
   have e2 := (rel_lit hcc).1
   have hb2 : (i.bytes : Int) * n ≤ 281474976710656 := by
    have h9 : (i.bytes : Int) ≤ 32768 := by omega
    have : (i.bytes : Int) * n ≤ 32768 * n := Int.mul_le_mul_of_nonneg_right h9 h0
    omega
   have hrun := run_make (P := P) w t e i zv el.ht hi hzv kl kc n n h0 (Int.le_refl _) hb2 (by omega)
   rw [hsize] at hrun
   have hk0 : 0 < k := el.hk
   have hat : ∀ j, j < n.toNat * k → (madeCells zv.cells (n.toNat * k)).getD j undef = zv.cells.getD (j % k) undef := by
    intro j hj
    have hjm : j % k < k := Nat.mod_lt _ hk0
    have hlt : j % k < zv.cells.size := by rw [hzs]; exact hjm
    unfold madeCells
    simp only [Array.getD, Array.size_map, Array.size_range, hj, dite_true, Array.getInternal_eq_getElem, Array.getElem_map, Array.getElem_range, hzs, hjm]
    simp [hzs, hlt, hjm]
   have hrel := hS.alloc_ (s := s) (w' := w.alloc (.cells (madeCells zv.cells (n.toNat * k)) e)) hf (grow_cells hS.mem _).1 (by simp) (cs := madeCells zv.cells (n.toNat * k)) (ty := e) (fz := (0, 0)) (by show (w.heap.push _)[w.heap.size]? = _; simp)
    (x := .osl k (List.replicate n.toNat z)) (v := .slice (some ⟨w.heap.size, 0, none⟩) n.toNat n.toNat) (F := fun q => q = w.heap.size) (by
     have hlen : (List.replicate n.toNat z).length = n.toNat := by simp
     have main : RelT (upd g.hp w.heap.size (some (.cells (madeCells zv.cells (n.toNat * k)) e (0, 0)))) g.M (fun q => q = w.heap.size) (.slice (some ⟨w.heap.size, 0, none⟩) (List.replicate n.toNat z).length n.toNat) (.osl k (List.replicate n.toNat z)) := by
      refine .osl _ w.heap.size n.toNat k (madeCells zv.cells (n.toNat * k)) e (0, 0) (noFz0 _) _ (fun _ _ => False) rfl (upd_same _ _ _) (size_madeCells _ _) (by simp) (by unfold maxLen; omega) (fun r hr => ?_) (fun i r hi j hj => ?_) (fun i r hi j x hx => ?_) (fun _ _ h => h.elim) (fun _ _ _ h => h.elim)
      ·rw [(List.mem_replicate.1 hr).2]; exact hzl
      ·have hin := (gS_ hi).1
       rw [hlen] at hin
       have hmod : (i * k + j) % k = j := by rw [Nat.mul_comm, Nat.mul_add_mod, Nat.mod_eq_of_lt hj]
       rw [hat _ (row_lt hin hj), hmod]
       exact (hzr.2 j _ (gE_ (by rw [hzl]; exact hj))).1
      ·have hin := (gS_ hi).1
       rw [hlen] at hin
       have hrz := (List.mem_replicate.1 (List.mem_of_getElem? hi)).2
       subst hrz
       have hj : j < k := by rw [← hzl]; exact (gS_ hx).1
       have hmod : (i * k + j) % k = j := by rw [Nat.mul_comm, Nat.mul_add_mod, Nat.mod_eq_of_lt hj]
       rw [hat _ (row_lt hin hj), hmod]
       exact .pure _ _ _ (hzr.2 j x hx).2
     rw [hlen] at main
     exact main) (fun q hq => .inl hq) (fresh_notin hS)
   refine ⟨_, _, _, by rw [e1, e2]; exact hrun, Sim.put_ hrel hd ?_⟩
   intro _
   exact ⟨.inl rfl, by simp only [walkV, upd_same]⟩
  ·cases htr
 ·cases htr
theorem allocO_ok (hS : Sim P Dw F0 base M0 w0 N g st a w) (hf : Fresh st s) {dst : Option Nat} (hd : ∀ d, dst = some d → d < N) {t : TypeId} {st' : St} (h : allocO P s st dst t = some st') :
  ∃ v w' g', (Instr.alloc t true (.tuple #[])).run P w = .ok v w' ∧ Sim P Dw F0 base M0 w0 N g' st' (a.put dst v) w' := by
 unfold allocO at h
 obtain ⟨z, hz, rfl⟩ := oM_ h
 obtain ⟨i, zv, hi, hzv, hzr⟩ := zero_ok (M := g.M) hz
 have hrel := hS.alloc_ (s := s) (w' := w.alloc (.cells zv.cells t)) hf (grow_cells hS.mem _).1 (by simp) (cs := zv.cells) (ty := t) (fz := (0, 0)) (by show (w.heap.push _)[w.heap.size]? = _; simp)
  (x := .obj z) (v := .pointer (some ⟨w.heap.size, 0, none⟩)) (F := fun q => q = w.heap.size)
  (.obj _ w.heap.size zv.cells t (0, 0) (noFz0 _) z (fun _ _ => False) rfl (upd_same _ _ _) hzr.1 (fun i hi => (hzr.2 i _ (gE_ hi)).1) (fun i x hx => .pure _ _ _ (hzr.2 i x hx).2) (fun _ _ h => h.elim) (fun _ _ _ h => h.elim)) (fun q hq => .inl hq) (fresh_notin hS)
 refine ⟨_, _, _, (by simp [Instr.alloc, zeroValue, typeInfo, hi, hzv, newVar, newRow] : (Instr.alloc t true (.tuple #[])).run P w = .ok (.pointer (some ⟨w.heap.size, 0, none⟩)) (w.alloc (.cells zv.cells t))), Sim.put_ hrel hd ?_⟩
 intro _
 exact ⟨.inl rfl, _, w.heap.size, by simp only [walkV, upd_same]; rfl, rfl, rfl⟩
theorem boxO_ok (hS : Sim P Dw F0 base M0 w0 N g st a w) (hf : Fresh st s) {dst : Option Nat} (hd : ∀ d, dst = some d → d < N) {t : TypeId} {y : Operand} {st' : St} (h : boxO s st dst (st.ev y) = some st') :
  ∃ v w' g', (Instr.box t (a.eval y)).run P w = .ok v w' ∧ Sim P Dw F0 base M0 w0 N g' st' (a.put dst v) w' := by
 unfold boxO at h
 obtain ⟨⟨cs, s2⟩, hgive, rfl⟩ := oM_ h
 obtain ⟨G, F, hsz, hcells, hGd, hGF, hF1, hF2⟩ : ∃ (G : Nat → Nat → Prop) (F : Nat → Prop), (a.eval y).cells.size = cs.length ∧ (∀ m z, cs[m]? = some z → ((a.eval y).cells.getD m undef).oneCell' = true ∧ RelT g.hp g.M (G m) ((a.eval y).cells.getD m undef) z) ∧ (∀ m m' q, G m q → G m' q → m = m') ∧ (∀ m q, G m q → F q) ∧
   (∀ q, F q → ∃ ob, g.hp q = some ob) ∧ (∀ s' x', (dropO st s2).ow s' = some x' → ∀ q, F q → ¬ g.fp s' q) := by
  unfold giveC at hgive
  split at hgive
  ·rename_i s2' hev
   split at hgive
   ·cases hgive
   ·rename_i hne
    obtain ⟨z, hz, hgive⟩ := oB_ hgive
    obtain ⟨cs', hcs', e⟩ := oM_ hgive
    simp only [Prod.mk.injEq] at e
    obtain ⟨rfl, rfl⟩ := e
    have hyr := hS.ev y
    rw [hev] at hyr
    have hov := (hyr (by simp)).2
    simp only [walkV, oE_] at hov
    have hT := hS.own s2' z hz
    rw [hov] at hT
    obtain ⟨G, g1, g2, g3, g4⟩ := cellsT hT hcs'
    refine ⟨G, g.fp s2', g1, g2, g4, g3, fun q hq => hS.fph s2' z q hz hq, fun s' x' hs' q hq hq2 => ?_⟩
    simp only [dropO] at hs'
    by_cases e : s' = s2'
    ·subst e; rw [upd_same] at hs'; cases hs'
    ·rw [upd_ne _ _ e] at hs'
     exact hS.owd s2' s' z x' hz hs' (Ne.symm e) q hq hq2
  ·obtain ⟨cs', hcs', e⟩ := oM_ hgive
   simp only [Prod.mk.injEq] at e
   obtain ⟨rfl, rfl⟩ := e
   obtain ⟨h1, h2⟩ := cells_rel (hS.asV (hS.ev y)) hcs'
   exact ⟨fun _ _ => False, fun _ => False, h1, fun m z hz => ⟨(h2 m z hz).1, .pure _ _ _ (h2 m z hz).2⟩, fun _ _ _ h => h.elim, fun _ _ h => h.elim, fun _ h => h.elim, fun _ _ _ _ h => h.elim⟩
 have hD := hS.dropO s2
 have hnew : ∀ q, q = w.heap.size → g.hp q = none := fun q e => by
  subst e
  cases hq : g.hp w.heap.size with
  | none => rfl
  | some ob =>
   have := (Array.getElem?_eq_some_iff.1 (hS.hp _ ob hq).2.1).1
   omega
 have hFn : ∀ q, F q → q ≠ w.heap.size := fun q hq e => by
  obtain ⟨ob, h⟩ := hF1 q hq
  rw [hnew q e] at h; cases h
 have hrel := hD.alloc_ (s := s) (w' := w.alloc (.cells (a.eval y).cells t)) (hf.dropO s2) (grow_cells hS.mem _).1 (by simp) (cs := (a.eval y).cells) (ty := t) (fz := (0, 0)) (by show (w.heap.push _)[w.heap.size]? = _; simp)
  (x := .obj cs) (v := .pointer (some ⟨w.heap.size, 0, none⟩)) (F := fun q => q = w.heap.size ∨ F q)
  (.obj _ w.heap.size (a.eval y).cells t (0, 0) (noFz0 _) cs G (.inl rfl) (upd_same _ _ _) hsz (fun i hi => (hcells i _ (gE_ hi)).1) (fun i x hx => (hcells i x hx).2.congr fun q hq => upd_ne _ _ (hFn q (hGF i q hq))) (fun i q h => ⟨.inr (hGF i q h), hFn q (hGF i q h)⟩) hGd) (fun q hq => hq.elim .inl fun h => .inr (hF1 q h)) (fun s' x' hs' q hq => by
   rcases hq with e | h
   ·exact fresh_notin hD s' x' hs' q e
   ·exact hF2 s' x' hs' q h)
 refine ⟨_, _, _, (by simp [Instr.box, newVar, newRow] : (Instr.box t (a.eval y)).run P w = .ok (.pointer (some ⟨w.heap.size, 0, none⟩)) (w.alloc (.cells (a.eval y).cells t))), Sim.put_ hrel hd ?_⟩
 intro _
 exact ⟨.inl rfl, _, w.heap.size, by simp only [walkV, upd_same]; rfl, rfl, rfl⟩
theorem bytesO_ok (hS : Sim P Dw F0 base M0 w0 N g st a w) (hf : Fresh st s) {dst : Option Nat} (hd : ∀ d, dst = some d → d < N) {t1 t2 : TypeId} (hk : convK P t1 t2 = 1) {y : Operand} {st' : St} (h : bytesO s st dst (st.rd y) = some st') :
  ∃ v w' g', (convert t1 t2 (a.eval y)).run P w = .ok v w' ∧ Sim P Dw F0 base M0 w0 N g' st' (a.put dst v) w' := by
 obtain ⟨e, e1, e2, e3⟩ := convK_1 hk
 unfold bytesO at h
 obtain ⟨tr, h9, rfl⟩ := oM_ h
 clear h
 have h := h9
 clear h9
 unfold s2bT at h
 split at h
 ·rename_i ss hss
  split at h
  ·rename_i hm
   simp only [oE_] at h
   subst h
   have hr := hS.rd y
   rw [hss] at hr
   have hv := (rel_lit hr).1
   have hrun := run_bytes_of_string (P := P) w t1 t2 e ss e1 e2 e3
   have hge := grownCap_ge w ss.size 0 e
   have hsize : (bytesRow ss (grownCap w ss.size 0 e)).size = grownCap w ss.size 0 e := by
    unfold bytesRow
    have : ss.data.size = ss.size := rfl
    simp only [Array.size_append, Array.size_map, Array.size_replicate, this]; omega
   have hlen : (bytesR ss).length = ss.size := by unfold bytesR; rw [List.length_map, Array.length_toList]; rfl
   have hrel := hS.alloc_ (s := s) (w' := w.drew.alloc (.cells (bytesRow ss (grownCap w ss.size 0 e)) e ((bytesRow ss (grownCap w ss.size 0 e)).size, (bytesRow ss (grownCap w ss.size 0 e)).size + 1))) hf (grow_cells hS.mem _).2 (by show w.heap.size < (w.heap.push _).size; simp) (cs := bytesRow ss (grownCap w ss.size 0 e)) (ty := e) (fz := ((bytesRow ss (grownCap w ss.size 0 e)).size, (bytesRow ss (grownCap w ss.size 0 e)).size + 1)) (by show (w.heap.push _)[w.heap.size]? = _; simp)
    (x := .osl 1 (bytesR ss)) (v := .slice (some ⟨w.heap.size, 0, none⟩) ss.size (grownCap w ss.size 0 e)) (F := fun q => q = w.heap.size) (by
     have main : RelT (upd g.hp w.heap.size (some (.cells (bytesRow ss (grownCap w ss.size 0 e)) e ((bytesRow ss (grownCap w ss.size 0 e)).size, (bytesRow ss (grownCap w ss.size 0 e)).size + 1)))) g.M (fun q => q = w.heap.size) (.slice (some ⟨w.heap.size, 0, none⟩) (bytesR ss).length (grownCap w ss.size 0 e)) (.osl 1 (bytesR ss)) := by
      refine .osl _ w.heap.size (grownCap w ss.size 0 e) 1 _ e _ (fun j hj h => by simp only at h; omega) _ (fun _ _ => False) rfl (upd_same _ _ _) (by rw [hsize, Nat.mul_one]) (by rw [hlen]; exact hge) (grownCap_le_maxLen _ _ _ _ hm) (fun r hr => ?_) (fun i r hi j hj => ?_) (fun i r hi j x hx => ?_) (fun _ _ h => h.elim) (fun _ _ _ h => h.elim)
      ·obtain ⟨i, hi⟩ := List.getElem?_of_mem hr
       obtain ⟨_, rfl⟩ := bytesR_at hi
       rfl
      ·obtain ⟨hl, rfl⟩ := bytesR_at hi
       have : j = 0 := by omega
       subst this
       have := bytesRow_at ss (grownCap w ss.size 0 e) i hl
       simp [this]
       rfl
      ·obtain ⟨hl, rfl⟩ := bytesR_at hi
       have hj : j = 0 := by have := (gS_ hx).1; simp at this; exact this
       subst hj
       have := bytesRow_at ss (grownCap w ss.size 0 e) i hl
       simp at hx
       subst hx
       have e9 : (bytesRow ss (grownCap w ss.size 0 e)).getD (i * 1 + 0) undef = .int .u8 ((ss.data.toList[i]'(by simpa using hl)).toNat : Int) := by
        rw [Nat.mul_one, Nat.add_zero]
        simp only [Array.getD_eq_getD_getElem?, this, Option.getD_some]
       rw [e9]
       exact .pure _ _ _ (.lit _ rfl)
     rw [hlen] at main
     exact main) (fun q hq => .inl hq) (fresh_notin hS)
   refine ⟨_, _, _, by rw [hv]; exact hrun, Sim.put_ hrel hd ?_⟩
   intro _
   exact ⟨.inl rfl, by simp only [walkV, upd_same]⟩
  ·cases h
 ·cases h
def slL : V → List (List V)
 | .sl l => l
 | _ => []
def rowO (P : Program) (s : Nat) (st : St) (dst : Option Nat) (t : TypeId) (n : Nat) (parts : List (Nat × V)) : Option St := (elemP P t).bind fun p => (buildSliceO P t n parts).map fun y => { st with rw := upd st.rw s (some (p.1, slL y)) }.put dst (.row s)
theorem rowO_ok (hS : Sim P Dw F0 base M0 w0 N g st a w) (hf : Fresh st s) {dst : Option Nat} (hd : ∀ d, dst = some d → d < N) {t : TypeId} {n : Nat} {parts : Array (Nat × Operand)} {st' : St} (h : rowO P s st dst t n (parts.toList.map fun p => (p.1, st.rd p.2)) = some st') :
  ∃ v w' g', (Instr.buildSlice t n (parts.map fun (i, x) => (i, a.eval x))).run P w = .ok v w' ∧ Sim P Dw F0 base M0 w0 N g' st' (a.put dst v) w' := by
 unfold rowO at h
 obtain ⟨⟨e, k⟩, hel, h1⟩ := oB_ h
 obtain ⟨y, hy, rfl⟩ := oM_ h1
 obtain ⟨bytes, el, hby, hsz⟩ := elemP_some hel
 simp only at el hsz
 have hlp := parts_ok hS parts
 obtain ⟨hl, hp⟩ := hlp
 obtain ⟨e', k', cells, out, he, hk', rfl, hlen, hcells, hk0, hsm, hrun, hrel⟩ := buildSlice_ok2 hS.mem hl hp hy
 have e1 : e' = e := by have := el.ht; rw [he] at this; simpa using this
 subst e1
 have e2 : k' = k := by rw [hsz] at hk'; simpa using hk'.symm
 subst e2
 have hg := grow_row (w := w) hS.mem cells e'
 have hS' := hS.grow hg
 have hcl : cells.toList.length = n * k' := by rw [← hlen]; simpa using hcells.1
 have hown : Owns (w.alloc (.cells cells e')) base e' k' (.slice (some ⟨w.heap.size, 0, none⟩) n n) (chunks k' n cells.toList) := Owns.made rfl (by rw [chunks_len]) hS.base_le (by rw [chunks_flat n _ hcl]) (chunks_row n _ hcl) (by
  rw [chunks_len]
  have : n ≤ n * k' := Nat.le_mul_of_pos_right n hk0
  unfold maxLen; omega)
 have hrowok : RowOk P base (withBlock g.M w.heap.size cells) (w.alloc (.cells cells e')) e' (.slice (some ⟨w.heap.size, 0, none⟩) n n) (chunks k' n out) := by
  refine ⟨hrel, k', _, hsz, hown.toO, by rw [chunks_len, chunks_len], chunks_row n _ hlen, fun q hq => ?_⟩
  simp only [Value.ownBlock, oE_] at hq
  subst hq
  refine ⟨hS.base_le, by simp, fun _ o u hu => ?_⟩
  unfold withBlock at hu
  rw [if_pos rfl] at hu
  have := (Array.getElem?_eq_some_iff.1 hu).1
  show o < 0 + (chunks k' n out).length * k'
  rw [Nat.zero_add, chunks_len, ← hcl]
  simpa using this
 have hlt : ∀ q, (Value.slice (some ⟨w.heap.size, 0, none⟩) n n).ownBlock = some q → q = w.heap.size := fun q hq => by
  simp only [Value.ownBlock, oE_] at hq; exact hq.symm
 have hS2 := hS'.newRow hf hrowok (fun s' l hs' e3 => by
   have := hlt _ e3
   obtain ⟨_, _, cs, ty, h5, _⟩ := hS.box s' l hs'
   have := (Array.getElem?_eq_some_iff.1 h5).1
   simp only at *
   omega)
  (fun s' r hs' q hq e3 => by
   have := hlt _ hq
   obtain ⟨_, _, _, _, _, _, _, h6⟩ := hS.row s' r.1 r.2 hs'
   have := (h6 q e3).2.1
   omega)
  (fun q ob hq e3 => by
   have := hlt _ e3
   obtain ⟨_, h2, _⟩ := hS.hp q ob hq
   have := (Array.getElem?_eq_some_iff.1 h2).1
   omega)
 have h9 := Sim.put_ (c := .row s) (v := .slice (some ⟨w.heap.size, 0, none⟩) n n) (dst := dst) hS2 hd (by
  show _ = upd g.val s (.slice (some ⟨w.heap.size, 0, none⟩) n n) s
  rw [upd_same])
 exact ⟨_, _, _, hrun, h9⟩
def mapO (s : Nat) (st : St) (dst : Option Nat) : St := { st with ow := upd st.ow s (some (.mp [])) }.put dst (.ref s [] [])
noncomputable def putO (P : Program) (st : St) (dst : Option Nat) (t : TypeId) (s : Nat) (gs : List (V × Bool)) (k v : V) : Option St := (gateL gs (some .any)).bind fun _ => (st.ow s).bind fun x => (putV P t x k v).map fun x' => ({ st.kill s 0 with ow := upd st.ow s (some x') }).put dst (.v .any)
theorem mapO_ok (hS : Sim P Dw F0 base M0 w0 N g st a w) (hf : Fresh st s) {dst : Option Nat} (hd : ∀ d, dst = some d → d < N) (t : TypeId) :
  ∃ v w' g', (Instr.makeMap t none).run P w = .ok v w' ∧ Sim P Dw F0 base M0 w0 N g' (mapO s st dst) (a.put dst v) w' := by
 have hrel := hS.allocOb (s := s) (w' := w.alloc (.map #[] 0)) hf (grow_cells hS.mem _).1 (by simp) (ob := .map #[] 0) (by show (w.heap.push _)[w.heap.size]? = _; simp)
  (x := .mp []) (v := .map (some w.heap.size)) (F := fun q => q = w.heap.size) (.mp _ w.heap.size #[] 0 [] rfl (upd_same _ _ _) rfl) (fun q hq => .inl hq) (fresh_notin hS)
 refine ⟨_, _, _, run_makeMap t w, Sim.put_ hrel hd ?_⟩
 intro _
 exact ⟨.inl rfl, by simp only [walkV, upd_same]⟩
theorem putO_ok (hS : Sim P Dw F0 base M0 w0 N g st a w) {dst : Option Nat} (hd : ∀ d, dst = some d → d < N) {t : TypeId} {m k v : Operand} {s : Nat} {gs : List (V × Bool)} {st' : St} (hm : st.ev m = .ref s [] gs) (h : putO P st dst t s gs (st.rd k) (st.rd v) = some st') :
  ∃ w' g', (Instr.mapUpdate t (a.eval m) (a.eval k) (a.eval v)).run P w = .ok () w' ∧ Sim P Dw F0 base M0 w0 N g' st' (a.put dst undef) w' ∧ g'.loc = g.loc ∧ (∀ s1 l1, st.bx s1 = some l1 → w'.heap[g.loc s1]? = w.heap[g.loc s1]?) ∧ st'.bx = st.bx := by
 have hx := hS.ev m
 rw [hm] at hx
 unfold putO at h
 obtain ⟨z9, hz9, h⟩ := oB_ h
 obtain ⟨hgs, -⟩ := gateL_some hz9
 obtain ⟨x, hs, h⟩ := oB_ h
 obtain ⟨x', hx', rfl⟩ := oM_ h
 obtain ⟨k1, k3⟩ := hx hgs
 simp only [walkV, oE_] at k3
 have hown := hS.own s x hs
 unfold putV at hx'
 split at hx'
 ·rename_i l
  obtain ⟨kv, hk, h3⟩ := oB_ hx'
  obtain ⟨vv, hv, h4⟩ := oB_ h3
  obtain ⟨l', hl', rfl⟩ := oM_ h4
  have hkv := rel_val (hS.rd k) hk
  have hvv := rel_val (hS.rd v) hv
  rw [hkv, hvv, ← k3]
  generalize hov : g.ov s = vm at hown
  cases hown with
  | pure _ _ _ h => exact absurd h rel_mp
  | mp _ b es clock _ hb hh hl =>
   have hblk := (hS.hp b _ hh).2.1
   have hlt := (Array.getElem?_eq_some_iff.1 hblk).1
   obtain ⟨es', clock', hrun, hes'⟩ := run_put hblk hl hl'
   have hoth : ∀ s1 x1, s1 ≠ s → st.ow s1 = some x1 → ¬ g.fp s1 b := fun s1 x1 hne h1 hf => hS.owd s1 s x1 _ h1 hs hne b hf hb
   have e1 : (w.heap.setIfInBounds b (.map es' clock'))[b]? = some (.map es' clock') := by rw [Array.getElem?_setIfInBounds, if_pos rfl, if_pos hlt]
   have e2 : (w.heap.setIfInBounds b (.map es' clock')).size = w.heap.size := Array.size_setIfInBounds
   have e3 : ∀ n, n ≠ b → (w.heap.setIfInBounds b (.map es' clock'))[n]? = w.heap[n]? := fun n hn => by rw [Array.getElem?_setIfInBounds, if_neg (Ne.symm hn)]
   refine ⟨_, _, hrun, Sim.put_ (hS.setBlk (w' := { w with heap := w.heap.setIfInBounds b (.map es' clock') }) (fp' := g.fp) (ob' := .map es' clock') (st' := { st.kill s 0 with ow := upd st.ow s (some (.mp l')) }) hh e1 e2 rfl rfl rfl e3 (fun t' => ?_) rfl rfl (fun s1 x1 h1 => ?_) (fun s1 x1 q1 h1 hq1 => ?_) (fun s1 s3 x1 x3 h1 h3 hne q1 hq1 hq3 => ?_)) hd (.any _), rfl, fun s1 l1 h1 => e3 _ ((hS.hp b _ hh).2.2.2.1 s1 l1 h1), by cases dst <;> rfl⟩
   ·refine relC_kill (g := g) (hS.slot t') rfl rfl rfl rfl (fun p2 x2 y2 hp2 hl2 hx2 hy2 => ?_) (fun s' p2 x2 y2 hne hp2 hx2 hy2 => ?_)
    ·cases p2 with
     | nil => exact absurd rfl hp2
     | cons => simp at hl2
    ·rw [hS.gow] at hx2
     refine ⟨⟨x2, y2, by show upd st.ow s _ s' = some x2; rw [upd_ne _ _ hne]; exact hx2, hy2⟩, ?_⟩
     exact walk_congr p2 (hS.own s' x2 hx2) hy2 fun q' hq' => upd_ne _ _ fun e => hoth s' x2 hne hx2 (by rw [← e]; exact hq')
   ·have h1 : upd st.ow s (some (.mp l')) s1 = some x1 := h1
    by_cases e : s1 = s
    ·subst e
     simp only [upd_same, oE_] at h1
     subst h1
     rw [hov]
     exact .mp _ b es' clock' l' hb (upd_same _ _ _) hes'
    ·rw [upd_ne _ _ e] at h1
     exact (hS.own s1 x1 h1).congr fun q' hq' => upd_ne _ _ fun e2 => hoth s1 x1 e h1 (by rw [← e2]; exact hq')
   ·have h1 : upd st.ow s (some (.mp l')) s1 = some x1 := h1
    by_cases e : s1 = s
    ·subst e; exact hS.fph s1 _ q1 hs hq1
    ·rw [upd_ne _ _ e] at h1; exact hS.fph s1 x1 q1 h1 hq1
   ·have h1 : upd st.ow s (some (.mp l')) s1 = some x1 := h1
    have h3 : upd st.ow s (some (.mp l')) s3 = some x3 := h3
    have hsome : ∀ s5 x5, upd st.ow s (some (.mp l')) s5 = some x5 → ∃ x6, st.ow s5 = some x6 := fun s5 x5 h5 => by
     by_cases e : s5 = s
     ·subst e; exact ⟨_, hs⟩
     ·rw [upd_ne _ _ e] at h5; exact ⟨_, h5⟩
    obtain ⟨y1, hy1⟩ := hsome s1 x1 h1
    obtain ⟨y3, hy3⟩ := hsome s3 x3 h3
    exact hS.owd s1 s3 y1 y3 hy1 hy3 hne q1 hq1 hq3
 ·cases hx'
theorem modX_any {z : V} : ∀ (p : List Stp) {x x' y : V} {s : Stp}, modX x p s y = some x' → ∃ x0, modX x p s z = some x0
 | [], x, x', y, s, h => by
  simp only [modX] at h ⊢
  obtain ⟨u, hu, _⟩ := oM_ h
  exact ⟨_, by rw [hu]; rfl⟩
 | s0 :: p, x, x', y, s, h => by
  simp only [modX] at h ⊢
  obtain ⟨u, hu, h⟩ := oB_ h
  obtain ⟨v, hv, _⟩ := oM_ h
  obtain ⟨x0, h0⟩ := modX_any p hv
  exact ⟨_, by rw [hu, oS_, h0]; rfl⟩
noncomputable def putN (P : Program) (st : St) (dst : Option Nat) (t : TypeId) (s : Nat) (pa : List Stp) (k v : V) : Option St := (st.ow s).bind fun x => (getV x pa).bind fun y => (putV P t y k v).bind fun y' => (pa.getLast?).bind fun q => (modX x pa.dropLast q y').map fun x' => ({ st.kill s pa.dropLast.length with ow := upd st.ow s (some x') }).put dst (.v .any)
theorem putN_ok (hS : Sim P Dw F0 base M0 w0 N g st a w) {dst : Option Nat} (hd : ∀ d, dst = some d → d < N) {t : TypeId} {m k v : Operand} {s : Nat} {pa : List Stp} {st' : St} (hm : st.ev m = .ref s pa []) (h : putN P st dst t s pa (st.rd k) (st.rd v) = some st') :
  ∃ w' g', (Instr.mapUpdate t (a.eval m) (a.eval k) (a.eval v)).run P w = .ok () w' ∧ Sim P Dw F0 base M0 w0 N g' st' (a.put dst undef) w' ∧ g'.loc = g.loc ∧ (∀ s1 l1, st.bx s1 = some l1 → w'.heap[g.loc s1]? = w.heap[g.loc s1]?) ∧ st'.bx = st.bx := by
 have hx := hS.ev m
 rw [hm] at hx
 unfold putN at h
 obtain ⟨x, hs, h⟩ := oB_ h
 obtain ⟨y, hy, h⟩ := oB_ h
 obtain ⟨y', hy', h⟩ := oB_ h
 obtain ⟨q0, hq0, h⟩ := oB_ h
 obtain ⟨x', hx', rfl⟩ := oM_ h
 obtain ⟨k1, k3⟩ := hx (by simp)
 obtain ⟨x0, hx0⟩ := modX_any (z := .any) _ hx'
 have hpa : pa.dropLast ++ [q0] = pa := by obtain ⟨ys, e⟩ := List.getLast?_eq_some_iff.1 hq0; rw [e]; simp
 obtain ⟨y2, u, G, j1, j2, j3, j4, j5, j6⟩ := (hS.own s x hs).modXh _ hx'
 obtain ⟨y3, u3, G3, i1, i2, i3, i4, i5, i6⟩ := (hS.own s x hs).modX _ hx0
 rw [hpa] at j1 j2 i1 i2
 rw [hy] at j1 i1
 obtain rfl := oJ_ j1
 obtain rfl := oJ_ i1
 rw [k3] at j2 i2
 obtain rfl := oJ_ j2
 obtain rfl := oJ_ i2
 have hleft : RelT g.hp g.M (fun q => g.fp s q ∧ ¬ G3 q) (g.ov s) x0 := i6 g.M (fun _ => False) _ (fun _ _ _ h => h) (.pure _ _ _ (.any _)) (fun _ h => h.elim) (fun q h h2 => ⟨h, h2⟩) (fun _ h => h.elim)
 unfold putV at hy'
 split at hy'
 ·rename_i l
  obtain ⟨kv, hk, h3⟩ := oB_ hy'
  obtain ⟨vv, hv, h4⟩ := oB_ h3
  obtain ⟨l', hl', rfl⟩ := oM_ h4
  have hkv := rel_val (hS.rd k) hk
  have hvv := rel_val (hS.rd v) hv
  rw [hkv, hvv]
  generalize a.eval m = vm at *
  have hG3 : ∀ b, vm = .map (some b) → G3 b := fun b e => by
   subst e
   cases i4 with
   | pure _ _ _ h => exact absurd h rel_mp
   | mp _ b es clock _ hb hh hl => exact hb
  cases j4 with
  | pure _ _ _ h => exact absurd h rel_mp
  | mp _ b es clock _ hb hh hl =>
   have hb3 := hG3 b rfl
   have hbF : g.fp s b := j5 b hb
   have hblk := (hS.hp b _ hh).2.1
   have hlt := (Array.getElem?_eq_some_iff.1 hblk).1
   obtain ⟨es', clock', hrun, hes'⟩ := run_put hblk hl hl'
   have hoth : ∀ s1 x1, s1 ≠ s → st.ow s1 = some x1 → ¬ g.fp s1 b := fun s1 x1 hne h1 hf => hS.owd s1 s x1 _ h1 hs hne b hf hbF
   have e1 : (w.heap.setIfInBounds b (.map es' clock'))[b]? = some (.map es' clock') := by rw [Array.getElem?_setIfInBounds, if_pos rfl, if_pos hlt]
   have e2 : (w.heap.setIfInBounds b (.map es' clock')).size = w.heap.size := Array.size_setIfInBounds
   have e3 : ∀ n, n ≠ b → (w.heap.setIfInBounds b (.map es' clock'))[n]? = w.heap[n]? := fun n hn => by rw [Array.getElem?_setIfInBounds, if_neg (Ne.symm hn)]
   refine ⟨_, _, hrun, Sim.put_ (hS.setBlk (w' := { w with heap := w.heap.setIfInBounds b (.map es' clock') }) (fp' := g.fp) (ob' := .map es' clock') (st' := { st.kill s pa.dropLast.length with ow := upd st.ow s (some x') }) hh e1 e2 rfl rfl rfl e3 (fun t' => ?_) rfl rfl (fun s1 x1 h1 => ?_) (fun s1 x1 q1 h1 hq1 => ?_) (fun s1 s3 x1 x3 h1 h3 hne q1 hq1 hq3 => ?_)) hd (.any _), rfl, fun s1 l1 h1 => e3 _ ((hS.hp b _ hh).2.2.2.1 s1 l1 h1), by cases dst <;> rfl⟩
   ·refine relC_kill (g := g) (hS.slot t') rfl rfl rfl rfl (fun p2 x2 y2 hp2 hl2 hx2 hy2 => ?_) (fun s' p2 x2 y2 hne hp2 hx2 hy2 => ?_)
    ·rw [hS.gow, hs] at hx2
     obtain rfl := oJ_ hx2
     obtain ⟨z1, hz1⟩ := getV_modX _ p2 hx' hy2 hl2
     obtain ⟨z2, hz2⟩ := getV_modX _ p2 hx0 hy2 hl2
     exact ⟨⟨x', z1, upd_same _ _ _, hz1⟩, walk_congr p2 hleft hz2 fun q' hq' => upd_ne _ _ fun e => hq'.2 (by rw [e]; exact hb3)⟩
    ·rw [hS.gow] at hx2
     refine ⟨⟨x2, y2, by show upd st.ow s _ s' = some x2; rw [upd_ne _ _ hne]; exact hx2, hy2⟩, ?_⟩
     exact walk_congr p2 (hS.own s' x2 hx2) hy2 fun q' hq' => upd_ne _ _ fun e => hoth s' x2 hne hx2 (by rw [← e]; exact hq')
   ·have h1 : upd st.ow s (some x') s1 = some x1 := h1
    by_cases e : s1 = s
    ·subst e
     simp only [upd_same, oE_] at h1
     subst h1
     exact j6 _ g.M G (g.fp s1) (fun _ _ _ h => h) (fun q hq hn => upd_ne _ _ fun e => hn (by rw [e]; exact hb)) (.mp _ b es' clock' l' hb (upd_same _ _ _) hes') (fun q hq _ => hq) (fun q hq _ => hq) (fun q hq => j5 q hq)
    ·rw [upd_ne _ _ e] at h1
     exact (hS.own s1 x1 h1).congr fun q' hq' => upd_ne _ _ fun e2 => hoth s1 x1 e h1 (by rw [← e2]; exact hq')
   ·have h1 : upd st.ow s (some x') s1 = some x1 := h1
    by_cases e : s1 = s
    ·subst e; exact hS.fph s1 _ q1 hs hq1
    ·rw [upd_ne _ _ e] at h1; exact hS.fph s1 x1 q1 h1 hq1
   ·have h1 : upd st.ow s (some x') s1 = some x1 := h1
    have h3 : upd st.ow s (some x') s3 = some x3 := h3
    have hsome : ∀ s5 x5, upd st.ow s (some x') s5 = some x5 → ∃ x6, st.ow s5 = some x6 := fun s5 x5 h5 => by
     by_cases e : s5 = s
     ·subst e; exact ⟨_, hs⟩
     ·rw [upd_ne _ _ e] at h5; exact ⟨_, h5⟩
    obtain ⟨y1, hy1⟩ := hsome s1 x1 h1
    obtain ⟨y3, hy3⟩ := hsome s3 x3 h3
    exact hS.owd s1 s3 y1 y3 hy1 hy3 hne q1 hq1 hq3
 ·cases hy'
noncomputable def ownOp (P : Program) (s : Nat) (st : St) (o : Oper) : Option (Option St) := match o.op with
 | .store t x y => match st.ev x with
  | .adr s' p q gs => some (storeO P st o.dst t s' p q gs (st.ev y))
  | _ => none
 | .makeSlice t l c => some (makeO P s st o.dst t (st.rd l) (st.rd c))
 | .alloc t => match st.isRf o.dst with
  | true => some (allocO P s st o.dst t)
  | false => none
 | .box t x => match st.isRf o.dst with
  | true => some (boxO s st o.dst (st.ev x))
  | false => none
 | .convert t1 t2 x => match st.isRf o.dst with
  | true => match convK P t1 t2 with
   | 1 => some (bytesO s st o.dst (st.rd x))
   | _ => none
  | false => none
 | .buildSlice t n parts => match st.isRf o.dst with
  | true => some (rowO P s st o.dst t n (parts.toList.map fun p => (p.1, st.rd p.2)))
  | false => none
 | .makeMap _ none => some (some (mapO s st o.dst))
 | .mapUpdate t m k v => match st.ev m with
  | .ref s' [] gs => some (putO P st o.dst t s' gs (st.rd k) (st.rd v))
  | .ref s' (q :: pa) [] => some (putN P st o.dst t s' (q :: pa) (st.rd k) (st.rd v))
  | _ => none
 | _ => none
theorem ownOp_ok (hS : Sim P Dw F0 base M0 w0 N g st a w) (hf : Fresh st s) (hd : ∀ d, o.dst = some d → d < N) {st' : St} (h : ownOp P s st o = some (some st')) :
  ∃ n v w' g', (execOp a.eval o).run P w = .ok n w' ∧ (n = .value v ∨ (n = .skip ∧ v = undef)) ∧ Sim P Dw F0 base M0 w0 N g' st' (a.put o.dst v) w' := by
 obtain ⟨dst, op, ty, pos, after, guard⟩ := o
 unfold ownOp at h
 simp only at h
 split at h
 ·split at h
  ·rename_i hev
   simp only [oE_] at h
   obtain ⟨w', g', h1, h2⟩ := storeO_ok hS hd hev h
   exact ⟨_, _, w', g', by simp [execOp, h1], .inr ⟨rfl, rfl⟩, h2⟩
  ·cases h
 ·simp only [oE_] at h
  obtain ⟨v, w', g', h1, h2⟩ := makeO_ok hS hf hd h
  exact ⟨_, v, w', g', by simp [execOp, h1], .inl rfl, h2⟩
 ·split at h
  ·simp only [oE_] at h
   obtain ⟨v, w', g', h1, h2⟩ := allocO_ok hS hf hd h
   exact ⟨_, v, w', g', by simp [execOp, h1], .inl rfl, h2⟩
  ·cases h
 ·split at h
  ·rename_i t _ _ _
   simp only [oE_] at h
   obtain ⟨v, w', g', h1, h2⟩ := boxO_ok (t := t) hS hf hd h
   exact ⟨_, v, w', g', by simp [execOp, h1], .inl rfl, h2⟩
  ·cases h
 ·split at h
  ·split at h
   ·rename_i hk
    simp only [oE_] at h
    obtain ⟨v, w', g', h1, h2⟩ := bytesO_ok hS hf hd hk h
    exact ⟨_, v, w', g', by simp [execOp, h1], .inl rfl, h2⟩
   ·cases h
  ·cases h
 ·split at h
  ·simp only [oE_] at h
   obtain ⟨v, w', g', h1, h2⟩ := rowO_ok hS hf hd h
   exact ⟨_, v, w', g', by simp only [execOp]; rw [Sem.run_bind, h1]; rfl, .inl rfl, h2⟩
  ·cases h
 ·rename_i t
  simp only [oE_] at h
  subst h
  obtain ⟨v, w', g', h1, h2⟩ := mapO_ok hS hf hd t
  exact ⟨_, v, w', g', by simp [execOp, h1], .inl rfl, h2⟩
 ·split at h
  ·rename_i hev
   simp only [oE_] at h
   obtain ⟨w', g', h1, h2, -⟩ := putO_ok hS hd hev h
   exact ⟨_, _, w', g', by simp [execOp, h1], .inr ⟨rfl, rfl⟩, h2⟩
  ·rename_i hev
   simp only [oE_] at h
   obtain ⟨w', g', h1, h2, -⟩ := putN_ok hS hd hev h
   exact ⟨_, _, w', g', by simp [execOp, h1], .inr ⟨rfl, rfl⟩, h2⟩
  ·cases h
 ·cases h
theorem killC_site {s n s2 : Nat} {c : C} (h : c.site ≠ some s2) : (killC s n c).site ≠ some s2 := by
 cases c <;> simp only [killC] <;> first | exact h | (split <;> first | exact h | simp [C.site])
theorem put_fresh {dst : Option Nat} {c : C} {s2 : Nat} (h : Fresh st s2) (hc : c.site ≠ some s2) : Fresh (st.put dst c) s2 := by
 cases dst with
 | none => exact h
 | some d =>
  refine ⟨fun t => ?_, h.2⟩
  simp only [St.put, upd]
  split
  ·exact hc
  ·exact h.1 t
theorem ownOp_fresh {s2 : Nat} {st' : St} (h : ownOp P s st o = some (some st')) (hf : Fresh st s2) (hne : s2 ≠ s) : Fresh st' s2 := by
 unfold ownOp at h
 split at h
 ·split at h
  ·rename_i s' p q gs hev
   simp only [oE_] at h
   unfold storeO at h
   obtain ⟨z9, hz9, h⟩ := oB_ h
   obtain ⟨k, hk, h⟩ := oB_ h
   obtain ⟨tr, htr, h⟩ := oB_ h
   obtain ⟨y, hgive, h⟩ := oB_ h
   obtain ⟨x', hx', rfl⟩ := oM_ h
   have h1 := hf.dropO y.2
   have hs' : s2 ≠ s' := fun e => by rw [e] at hf; rw [hf.2.2.2.1] at htr; cases htr
   refine put_fresh ⟨fun t => killC_site (h1.1 t), h1.2.1, h1.2.2.1, ?_, h1.2.2.2.2⟩ (by simp [C.site])
   show upd _ s' _ s2 = none
   rw [upd_ne _ _ hs']; exact h1.2.2.2.1
  ·cases h
 all_goals (try (split at h))
 all_goals (try (split at h))
 all_goals (try (cases h; done))
 all_goals (simp only [oE_] at h)
 ·unfold makeO at h
  obtain ⟨pp, hel, h⟩ := oB_ h
  obtain ⟨z, hz, h⟩ := oB_ h
  obtain ⟨tr, htr, rfl⟩ := oM_ h
  exact put_fresh ⟨hf.1, hf.2.1, hf.2.2.1, by simp only [upd_ne _ _ hne]; exact hf.2.2.2.1, hf.2.2.2.2⟩ (by simp only [C.site, ne_eq, oE_]; exact fun e => hne e.symm)
 ·unfold allocO at h
  obtain ⟨z, hz, rfl⟩ := oM_ h
  exact put_fresh ⟨hf.1, hf.2.1, hf.2.2.1, by simp only [upd_ne _ _ hne]; exact hf.2.2.2.1, hf.2.2.2.2⟩ (by simp only [C.site, ne_eq, oE_]; exact fun e => hne e.symm)
 ·unfold boxO at h
  obtain ⟨y, hgive, rfl⟩ := oM_ h
  have h1 := hf.dropO y.2
  exact put_fresh ⟨h1.1, h1.2.1, h1.2.2.1, by simp only [upd_ne _ _ hne]; exact h1.2.2.2.1, h1.2.2.2.2⟩ (by simp only [C.site, ne_eq, oE_]; exact fun e => hne e.symm)
 ·unfold bytesO at h
  obtain ⟨tr, htr, rfl⟩ := oM_ h
  exact put_fresh ⟨hf.1, hf.2.1, hf.2.2.1, by simp only [upd_ne _ _ hne]; exact hf.2.2.2.1, hf.2.2.2.2⟩ (by simp only [C.site, ne_eq, oE_]; exact fun e => hne e.symm)
 ·unfold rowO at h
  obtain ⟨pp, hel, h⟩ := oB_ h
  obtain ⟨y, hy, rfl⟩ := oM_ h
  exact put_fresh ⟨hf.1, hf.2.1, by simp only [upd_ne _ _ hne]; exact hf.2.2.1, hf.2.2.2.1, hf.2.2.2.2⟩ (by simp only [C.site, ne_eq, oE_]; exact fun e => hne e.symm)
 ·subst h
  exact put_fresh ⟨hf.1, hf.2.1, hf.2.2.1, by simp only [upd_ne _ _ hne]; exact hf.2.2.2.1, hf.2.2.2.2⟩ (by simp only [C.site, ne_eq, oE_]; exact fun e => hne e.symm)
 ·rename_i s' gs hev
  unfold putO at h
  obtain ⟨z9, hz9, h⟩ := oB_ h
  obtain ⟨x, hs, h⟩ := oB_ h
  obtain ⟨x', hx', rfl⟩ := oM_ h
  have hs' : s2 ≠ s' := fun e => by rw [e] at hf; rw [hf.2.2.2.1] at hs; cases hs
  refine put_fresh ⟨fun t => killC_site (hf.1 t), hf.2.1, hf.2.2.1, ?_, hf.2.2.2.2⟩ (by simp [C.site])
  show upd _ s' _ s2 = none
  rw [upd_ne _ _ hs']; exact hf.2.2.2.1
 ·rename_i s' q0 pa hev
  unfold putN at h
  obtain ⟨x, hs, h⟩ := oB_ h
  obtain ⟨y, hy, h⟩ := oB_ h
  obtain ⟨y', hy', h⟩ := oB_ h
  obtain ⟨q1, hq1, h⟩ := oB_ h
  obtain ⟨x', hx', rfl⟩ := oM_ h
  have hs' : s2 ≠ s' := fun e => by rw [e] at hf; rw [hf.2.2.2.1] at hs; cases hs
  refine put_fresh ⟨fun t => killC_site (hf.1 t), hf.2.1, hf.2.2.1, ?_, hf.2.2.2.2⟩ (by simp [C.site])
  show upd _ s' _ s2 = none
  rw [upd_ne _ _ hs']; exact hf.2.2.2.1
def C.nonroot : C → Bool
 | .adr _ (_ :: _) _ _ => true
 | .ref _ (_ :: _) _ => true
 | _ => false
def KeepC (c c' : C) : Prop := c' = c ∨ (c.nonroot = true ∧ c' = .v .any)
theorem KeepC.trans {a b c : C} (h : KeepC a b) (h2 : KeepC b c) : KeepC a c := by
 rcases h with rfl | ⟨h1, rfl⟩
 ·exact h2
 ·rcases h2 with rfl | ⟨h3, _⟩
  ·exact .inr ⟨h1, rfl⟩
  ·cases h3
theorem killC_keep (s n : Nat) (c : C) : KeepC c (killC s n c) := by
 cases c with
 | adr s' p q gs =>
  simp only [killC]
  split
  ·rename_i h
   cases p with
   | nil => simp at h
   | cons => exact .inr ⟨rfl, rfl⟩
  ·exact .inl rfl
 | ref s' p gs =>
  simp only [killC]
  split
  ·rename_i h
   cases p with
   | nil => simp at h
   | cons => exact .inr ⟨rfl, rfl⟩
  ·exact .inl rfl
 | _ => exact .inl rfl
theorem dropO_keep (st : St) (y : Option Nat) (t : Nat) : KeepC (st.φ t) ((dropO st y).φ t) := by
 cases y with
 | none => exact .inl rfl
 | some s2 => exact killC_keep _ _ _
theorem ownOp_keep {st' : St} (h : ownOp P s st o = some (some st')) {t : Nat} (ht : o.dst ≠ some t) : KeepC (st.φ t) (st'.φ t) := by
 have hput : ∀ (st1 : St) (c : C), (st1.put o.dst c).φ t = st1.φ t := fun st1 c => by
  cases hd : o.dst with
  | none => rfl
  | some d => exact upd_ne _ _ fun e => ht (by rw [hd, e])
 unfold ownOp at h
 split at h
 ·split at h
  ·simp only [oE_] at h
   unfold storeO at h
   obtain ⟨z9, hz9, h⟩ := oB_ h
   obtain ⟨k, hk, h⟩ := oB_ h
   obtain ⟨tr, htr, h⟩ := oB_ h
   obtain ⟨y, hgive, h⟩ := oB_ h
   obtain ⟨x', hx', rfl⟩ := oM_ h
   rw [hput]
   exact (dropO_keep st y.2 t).trans (killC_keep _ _ _)
  ·cases h
 all_goals (try (split at h))
 all_goals (try (split at h))
 all_goals (try (cases h; done))
 all_goals (simp only [oE_] at h)
 ·unfold makeO at h
  obtain ⟨pp, hel, h⟩ := oB_ h
  obtain ⟨z, hz, h⟩ := oB_ h
  obtain ⟨tr, htr, rfl⟩ := oM_ h
  rw [hput]; exact .inl rfl
 ·unfold allocO at h
  obtain ⟨z, hz, rfl⟩ := oM_ h
  rw [hput]; exact .inl rfl
 ·unfold boxO at h
  obtain ⟨y, hgive, rfl⟩ := oM_ h
  rw [hput]; exact dropO_keep st y.2 t
 ·unfold bytesO at h
  obtain ⟨tr, htr, rfl⟩ := oM_ h
  rw [hput]; exact .inl rfl
 ·unfold rowO at h
  obtain ⟨pp, hel, h⟩ := oB_ h
  obtain ⟨y, hy, rfl⟩ := oM_ h
  rw [hput]; exact .inl rfl
 ·subst h
  unfold mapO
  rw [hput]; exact .inl rfl
 ·unfold putO at h
  obtain ⟨z9, hz9, h⟩ := oB_ h
  obtain ⟨x, hs, h⟩ := oB_ h
  obtain ⟨x', hx', rfl⟩ := oM_ h
  rw [hput]
  exact killC_keep _ _ _
 ·unfold putN at h
  obtain ⟨x, hs, h⟩ := oB_ h
  obtain ⟨y, hy, h⟩ := oB_ h
  obtain ⟨y', hy', h⟩ := oB_ h
  obtain ⟨q1, hq1, h⟩ := oB_ h
  obtain ⟨x', hx', rfl⟩ := oM_ h
  rw [hput]
  exact killC_keep _ _ _
end
end Go.Proofs.YtgkohnjpnnofhaaGreat.Den
