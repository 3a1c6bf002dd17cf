/- A reader of Go code in plain values: where ways meet; boxes that are sealed. -/
import Derived.Test.YtgkohnjpnnofhaaGreatDen10
namespace Go.Proofs.YtgkohnjpnnofhaaGreat.Den
set_option linter.unusedSimpArgs false
set_option linter.unusedVariables false
set_option linter.unnecessarySimpa false
open Go.RowKit
inductive Ref where
 | s (t : Nat)
 | b (t : Nat)
 | kb (t : Nat)
 | r (t : Nat) (e : TypeId)
 | o (t : Nat)
 | ko (t : Nat)
 | n (t : Nat) (k : Nat)
 | na (t : Nat)
def Ref.slot : Ref → List Nat
 | .s t => [t]
 | .r t _ => [t]
 | .n t _ => [t]
 | .na t => [t]
 | _ => []
def aggL : V → List V
 | .agg l => l
 | _ => []
def eqLit : Value → Value → Bool
 | .bool a, .bool b => a == b
 | .int k a, .int k' b => decide (k = k') && decide (a = b)
 | .string a, .string b => decide (a.data.toList = b.data.toList)
 | .nilIface, .nilIface => true
 | .iface t (.int k a), .iface t' (.int k' b) => decide (t = t') && (decide (k = k') && decide (a = b))
 | _, _ => false
theorem eqLit_eq {u v : Value} (h : eqLit u v = true) : u = v := by
 unfold eqLit at h
 split at h
 ·rw [eq_of_beq h]
 ·simp only [Bool.and_eq_true, decide_eq_true_eq] at h; rw [h.1, h.2]
 ·rename_i a b
  simp only [decide_eq_true_eq] at h
  have : a.data = b.data := Array.toList_inj.1 h
  cases a; cases b; simp only at this; rw [this]
 ·rfl
 ·simp only [Bool.and_eq_true, decide_eq_true_eq] at h; rw [h.1, h.2.1, h.2.2]
 ·cases h
mutual
def eqV : V → V → Bool
 | .lit u, .lit v => eqLit u v
 | .agg l, .agg m => eqVL l m
 | .sl l, .sl m => eqVR l m
 | .ptr l, .ptr m => eqVL l m
 | .osl k l, .osl k' m => decide (k = k') && eqVR l m
 | .obj l, .obj m => eqVL l m
 | .any, .any => true
 | _, _ => false
def eqVL : List V → List V → Bool
 | [], [] => true
 | x :: l, y :: m => eqV x y && eqVL l m
 | _, _ => false
def eqVR : List (List V) → List (List V) → Bool
 | [], [] => true
 | x :: l, y :: m => eqVL x y && eqVR l m
 | _, _ => false
end
mutual
theorem eqV_eq : ∀ {x y : V}, eqV x y = true → x = y
 | .lit u, y, h => by cases y <;> simp [eqV] at h; rw [eqLit_eq h]
 | .agg l, y, h => by cases y <;> simp [eqV] at h; rw [eqVL_eq h]
 | .tup l, y, h => by cases y <;> simp [eqV] at h
 | .sl l, y, h => by cases y <;> simp [eqV] at h; rw [eqVR_eq h]
 | .ptr l, y, h => by cases y <;> simp [eqV] at h; rw [eqVL_eq h]
 | .fn f l, y, h => by cases y <;> simp [eqV] at h
 | .any, y, h => by cases y <;> simp [eqV] at h; rfl
 | .osl k l, y, h => by cases y <;> simp [eqV] at h; rw [h.1, eqVR_eq h.2]
 | .obj l, y, h => by cases y <;> simp [eqV] at h; rw [eqVL_eq h]
theorem eqVL_eq : ∀ {x y : List V}, eqVL x y = true → x = y
 | [], y, h => by cases y <;> simp [eqVL] at h; rfl
 | a :: l, y, h => by cases y <;> simp [eqVL] at h; rw [eqV_eq h.1, eqVL_eq h.2]
theorem eqVR_eq : ∀ {x y : List (List V)}, eqVR x y = true → x = y
 | [], y, h => by cases y <;> simp [eqVR] at h; rfl
 | a :: l, y, h => by cases y <;> simp [eqVR] at h; rw [eqVL_eq h.1, eqVR_eq h.2]
end
def eqO : Option (List V) → Option (List V) → Bool
 | none, none => true
 | some x, some y => eqVL x y
 | _, _ => false
theorem eqO_eq {a b : Option (List V)} (h : eqO a b = true) : a = b := by
 cases a <;> cases b <;> simp [eqO] at h
 ·rfl
 ·rw [eqVL_eq h]
def eqOT : Option V → Option V → Bool
 | none, none => true
 | some x, some y => eqV x y
 | _, _ => false
theorem eqOT_eq {a b : Option V} (h : eqOT a b = true) : a = b := by
 cases a <;> cases b <;> simp [eqOT] at h
 ·rfl
 ·rw [eqV_eq h]
open Classical in
noncomputable def keepC (a b : Option (List V)) (x : Option (List V)) : Option (List V) := if a = b then x else none
noncomputable def keepO (a b : Option (List V)) (x : Option (List V)) : Option (List V) := match eqO a b with
 | true => x
 | false => keepC a b x
theorem keepO_same (a : Option (List V)) (x : Option (List V)) : keepO a a x = x := by
 unfold keepO
 split
 ·rfl
 ·exact if_pos rfl
theorem keepO_some {a b : Option (List V)} {x : Option (List V)} {y : List V} (h : keepO a b x = some y) : a = b ∧ x = some y := by
 unfold keepO at h
 split at h
 ·rename_i h1; exact ⟨eqO_eq h1, h⟩
 ·unfold keepC at h
  split at h
  ·rename_i h1; exact ⟨h1, h⟩
  ·cases h
open Classical in
noncomputable def keepTC (a b : Option V) (x : Option (List V)) : Option (List V) := if a = b then x else none
noncomputable def keepT (a b : Option V) (x : Option (List V)) : Option (List V) := match eqOT a b with
 | true => x
 | false => keepTC a b x
theorem keepT_same (a : Option V) (x : Option (List V)) : keepT a a x = x := by
 unfold keepT
 split
 ·rfl
 ·exact if_pos rfl
theorem keepT_some {a b : Option V} {x : Option (List V)} {y : List V} (h : keepT a b x = some y) : a = b ∧ x = some y := by
 unfold keepT at h
 split at h
 ·rename_i h1; exact ⟨eqOT_eq h1, h⟩
 ·unfold keepTC at h
  split at h
  ·rename_i h1; exact ⟨h1, h⟩
  ·cases h
def rootS : C → Option Nat
 | .adr s [] _ [] => some s
 | .ref s [] [] => some s
 | _ => none
noncomputable def proj (P : Program) (st0 : St) : List Ref → St → Option (List V)
 | [], _ => some []
 | .s t :: rs, st => (proj P st0 rs st).map (st.asV (st.φ t) :: ·)
 | .b t :: rs, st => match st.φ t with
  | .box s ⟨[], 0⟩ => (st.bx s).bind fun l => (proj P st0 rs st).map (.agg l :: ·)
  | _ => none
 | .kb t :: rs, st => match st.φ t with
  | .box s ⟨[], 0⟩ => keepO (st.bx s) (st0.bx s) (proj P st0 rs st)
  | _ => none
 | .r t e :: rs, st => if (sizeP P e).isSome = true then (match st.φ t with
  | .nil => (proj P st0 rs st).map (.sl [] :: ·)
  | .row s => match st.rw s with
   | some p => if p.1 = e then (proj P st0 rs { st with rw := upd st.rw s none }).map (.sl p.2 :: ·) else none
   | none => none
  | _ => none) else none
 | .o t :: rs, st => match rootS (st.φ t) with
  | some s => (st.ow s).bind fun x => (proj P st0 rs (dropO st (some s))).map (x :: ·)
  | none => none
 | .ko t :: rs, st => match rootS (st.φ t) with
  | some s => keepT (st.ow s) (st0.ow s) (proj P st0 rs (dropO st (some s)))
  | none => none
 | .n t k :: rs, st => match st.φ t with
  | .ref s [] [] => (st.ow s).bind fun x => (proj P st0 rs (dropO st (some s))).map (x :: ·)
  | .nil => (proj P st0 rs st).map (.osl k [] :: ·)
  | _ => none
 | .na t :: rs, st => match st.φ t with
  | .adr s [] ⟨none, 0, 0⟩ [] => (st.ow s).bind fun x => (proj P st0 rs (dropO st (some s))).map (x :: ·)
  | _ => none
def inject (st0 : St) (vs : List V) : List Ref → Nat → St → St
 | [], _, st => st
 | .s t :: rs, k, st => inject st0 vs rs (k + 1) { st with φ := upd st.φ t (.v (vs.getD k .any)) }
 | .b t :: rs, k, st => inject st0 vs rs (k + 1) (match st.φ t with
  | .box s ⟨[], 0⟩ => { st with bx := upd st.bx s (some (aggL (vs.getD k .any))) }
  | _ => st)
 | .kb t :: rs, k, st => inject st0 vs rs k (match st.φ t with
  | .box s ⟨[], 0⟩ => { st with bx := upd st.bx s (st0.bx s) }
  | _ => st)
 | .r t e :: rs, k, st => inject st0 vs rs (k + 1) { st with φ := upd st.φ t (.row st.nx), rw := upd st.rw st.nx (some (e, slL (vs.getD k .any))), nx := st.nx + 1 }
 | .o t :: rs, k, st => inject st0 vs rs (k + 1) (match rootS (st.φ t) with
  | some s => if s < st0.nx then { st with ow := upd st.ow s (some (vs.getD k .any)) } else st
  | none => st)
 | .ko t :: rs, k, st => inject st0 vs rs k (match rootS (st.φ t) with
  | some s => if s < st0.nx then { st with ow := upd st.ow s (st0.ow s) } else st
  | none => st)
 | .n t _ :: rs, k, st => inject st0 vs rs (k + 1) { st with φ := upd st.φ t (.ref st.nx [] []), ow := upd st.ow st.nx (some (vs.getD k .any)), nx := st.nx + 1 }
 | .na t :: rs, k, st => inject st0 vs rs (k + 1) { st with φ := upd st.φ t (.adr st.nx [] ⟨none, 0, 0⟩ []), ow := upd st.ow st.nx (some (vs.getD k .any)), nx := st.nx + 1 }
def base0 (st0 : St) (D : List Nat) : St := ⟨fun t => if D.contains t = true then .v .any else if (st0.φ t).nonroot = true then .v .any else st0.φ t, fun _ => none, fun _ => none, fun _ => none, st0.rf, st0.nx⟩
def injectAll (st0 : St) (D : List Nat) (rs : List Ref) (vs : List V) : St := inject st0 vs rs 0 (base0 st0 D)
def FreshFrom (st : St) : Prop := ∀ s, st.nx ≤ s → Fresh st s
def Fr (D : List Nat) (st st' : St) : Prop := ∀ t, t ∉ D → KeepC (st.φ t) (st'.φ t)
def frzP : V → V
 | .obj l => .ptr (frzL l)
 | _ => .any
def sealAt (t : Nat) (st : St) : St := match st.φ t with
 | .box s ⟨[], 0⟩ => match st.bx s with
  | some l => { st with φ := upd st.φ t (.v (.ptr l)), bx := upd st.bx s none }
  | none => st
 | .adr s [] ⟨none, 0, _⟩ [] => match st.ow s with
  | some x => { dropO st (some s) with φ := upd (dropO st (some s)).φ t (.v (frzP x)) }
  | none => st
 | .ref s [] [] => match st.ow s with
  | some x => { dropO st (some s) with φ := upd (dropO st (some s)).φ t (.v (frz x)) }
  | none => st
 | .ref s p [] => match (st.ow s).bind fun x => (getV x p).bind fun y => (p.getLast?).bind fun q => (modX x p.dropLast q (frz y)).map fun x' => (y, x') with
  | some r => { st.kill s 0 with φ := upd (st.kill s 0).φ t (.v (frz r.1)), ow := upd st.ow s (some r.2) }
  | none => st
 | _ => st
def openC (k : Nat) : V → V
 | .lit (.slice none 0 0) => .osl k []
 | x => x
def softT (t : Nat) (l : List V) : List V := match decide (t < 1000000) with
 | true => frzL l
 | false => l.set (t / 1000000 % 1000) (openC (t / 1000000000) (l.getD (t / 1000000 % 1000) .any))
def softX (t : Nat) (x : V) : V := match x with
 | .obj l => .obj (softT t l)
 | x => x
def softAt (t : Nat) (st : St) : St := match rootS (st.φ (t % 1000000)) with
 | some s => match st.ow s with
  | some x => { st.kill s 0 with ow := upd st.ow s (some (softX t x)) }
  | none => st
 | none => st
def softAll : List Nat → St → St
 | [], st => st
 | t :: ts, st => softAll ts (softAt t st)
def sealAll : List Nat → St → St
 | [], st => st
 | t :: ts, st => sealAll ts (sealAt t st)
section
variable {P : Program} {Dw : World → Prop} {F0 : Par} {env : FuncId → List V → Option V} {base : Nat} {M0 : Mem} {w0 w : World} {N : Nat} {g : Ghost} {st : St} {a : Act} {o : Oper} {s : Nat} {ops : Array Oper}
structure Joint (P : Program) (Dw : World → Prop) (F0 : Par) (base : Nat) (M0 : Mem) (w0 : World) (N : Nat) (n0 : Nat) (g' g : Ghost) (rem cur : St) (a : Act) (w : World) : Prop where
 sr : Sim P Dw F0 base M0 w0 N g' rem a w
 sc : Sim P Dw F0 base M0 w0 N g cur a w
 hM : g.M = g'.M
 hloc : g.loc = g'.loc
 hφ : ∀ t s o, cur.φ t = .box s o → rem.φ t = .box s o
 hbx : ∀ s l, cur.bx s = some l → rem.bx s = some l
 hrr : ∀ s1 r1 s2 r2, cur.rw s1 = some r1 → rem.rw s2 = some r2 → ∀ q, (g.val s1).ownBlock = some q → (g'.val s2).ownBlock ≠ some q
 hrb : ∀ s1 r1 s l, cur.rw s1 = some r1 → rem.bx s = some l → (g.val s1).ownBlock ≠ some (g'.loc s)
 ff : FreshFrom cur
 hhp : g.hp = g'.hp
 hn : n0 ≤ cur.nx
 hov : ∀ s, s < n0 → g.ov s = g'.ov s ∧ g.fp s = g'.fp s
 hφo : ∀ t s, rootS (cur.φ t) = some s → s < n0 → rem.φ t = cur.φ t
 hnr : ∀ t, (cur.φ t).nonroot = false
 hoo : ∀ s1 x1 s2 x2, cur.ow s1 = some x1 → rem.ow s2 = some x2 → ∀ q, g.fp s1 q → ¬ g'.fp s2 q
theorem FreshFrom.put {st : St} {t : Nat} {v : V} (h : FreshFrom st) : FreshFrom { st with φ := upd st.φ t (.v v) } := fun s hs => by
 obtain ⟨h1, h2⟩ := h s hs
 refine ⟨fun t' => ?_, h2⟩
 simp only [upd]
 split
 ·simp [C.site]
 ·exact h1 t'
theorem Sim.setSlot {t : Nat} {v : V} (hS : Sim P Dw F0 base M0 w0 N g st a w) (hr : Rel g.M (a.tmps.getD t undef) v) : Sim P Dw F0 base M0 w0 N g { st with φ := upd st.φ t (.v v) } a w := by
 refine { hS with slot := fun t' => ?_ }
 by_cases e : t' = t
 ·subst e; simp only [upd_same]; exact hr
 ·simp only [upd_ne _ _ e]; exact hS.slot t'
theorem dropO_root {st : St} {s : Nat} {t : Nat} {c : C} (h : st.φ t = c) (hc : c.nonroot = false) : (dropO st (some s)).φ t = c := by
 show killC s 0 (st.φ t) = c
 rw [h]
 rcases killC_keep s 0 c with e | ⟨e, _⟩
 ·exact e
 ·rw [hc] at e; cases e
theorem rootS_nonroot {c : C} {s : Nat} (h : rootS c = some s) : c.nonroot = false := by
 unfold rootS at h
 split at h <;> first | rfl | cases h
theorem joint_drop {n0 : Nat} {g' : Ghost} {rem cur : St} (hJ : Joint P Dw F0 base M0 w0 N n0 g' g rem cur a w) (s : Nat) : Joint P Dw F0 base M0 w0 N n0 { g' with ow := (dropO rem (some s)).ow } g (dropO rem (some s)) cur a w := by
 refine { sr := hJ.sr.dropO (some s), sc := hJ.sc, hM := hJ.hM, hloc := hJ.hloc, hφ := fun t s' o ht => dropO_root (hJ.hφ t s' o ht) rfl, hbx := hJ.hbx, hrr := hJ.hrr, hrb := hJ.hrb, ff := hJ.ff, hhp := hJ.hhp, hn := hJ.hn, hov := hJ.hov, hφo := fun t s' ht hs => dropO_root (hJ.hφo t s' ht hs) (rootS_nonroot ht), hnr := hJ.hnr, hoo := fun s1 x1 s2 x2 h1 h2 => ?_ }
 have h2 : upd rem.ow s none s2 = some x2 := h2
 by_cases e : s2 = s
 ·subst e; rw [upd_same] at h2; cases h2
 ·rw [upd_ne _ _ e] at h2; exact hJ.hoo s1 x1 s2 x2 h1 h2
theorem sim_ow {cur : St} {n0 : Nat} {g' : Ghost} {rem : St} (hJ : Joint P Dw F0 base M0 w0 N n0 g' g rem cur a w) {ow' : Nat → Option V} (hown : ∀ s x, ow' s = some x → RelT g.hp g.M (g.fp s) (g.ov s) x) (hfph : ∀ s x q, ow' s = some x → g.fp s q → ∃ ob, g.hp q = some ob)
  (howd : ∀ s s' x x', ow' s = some x → ow' s' = some x' → s ≠ s' → ∀ q, g.fp s q → ¬ g.fp s' q) : Sim P Dw F0 base M0 w0 N { g with ow := ow' } { cur with ow := ow' } a w := by
 refine { hJ.sc with slot := fun t' => ?_, own := hown, fph := hfph, owd := howd, gow := rfl }
 have := hJ.sc.slot t'
 have hn := hJ.hnr t'
 show RelC _ _ (cur.φ t')
 cases hc : cur.φ t' with
 | v z => rw [hc] at this; exact this
 | nil => rw [hc] at this; exact this
 | box _ _ => rw [hc] at this; exact this
 | row _ => rw [hc] at this; exact this
 | adr s3 p q gs =>
  rw [hc] at this hn
  cases p with
  | nil =>
   simp only [RelC] at this ⊢
   intro hg
   exact ⟨by first | exact .inl trivial | exact .inl rfl, (this hg).2⟩
  | cons => cases hn
 | ref s3 p gs =>
  rw [hc] at this hn
  cases p with
  | nil =>
   simp only [RelC] at this ⊢
   intro hg
   exact ⟨by first | exact .inl trivial | exact .inl rfl, (this hg).2⟩
  | cons => cases hn
theorem joint_own {n0 : Nat} {g' : Ghost} {rem cur : St} (hJ : Joint P Dw F0 base M0 w0 N n0 g' g rem cur a w) {s t : Nat} {x : V} (hx : rem.ow s = some x) (hs : ∀ s2, rootS (cur.φ t) = some s2 → s2 < n0 → s2 = s) :
  Joint P Dw F0 base M0 w0 N n0 { g' with ow := (dropO rem (some s)).ow } { g with ow := (match rootS (cur.φ t) with
   | some s => if s < n0 then { cur with ow := upd cur.ow s (some x) } else cur
   | none => cur : St).ow } (dropO rem (some s)) (match rootS (cur.φ t) with
   | some s => if s < n0 then { cur with ow := upd cur.ow s (some x) } else cur
   | none => cur) a w := by
 have hD := joint_drop hJ s
 have same : Joint P Dw F0 base M0 w0 N n0 { g' with ow := (dropO rem (some s)).ow } { g with ow := cur.ow } (dropO rem (some s)) cur a w := by
  have e : ({ g with ow := cur.ow } : Ghost) = g := by rw [← hJ.sc.gow]
  rw [e]; exact hD
 split
 ·rename_i s2 hs2
  split
  ·rename_i hlt
   obtain rfl := hs s2 hs2 hlt
   obtain ⟨e1, e2⟩ := hJ.hov s2 hlt
   have hown : RelT g.hp g.M (g.fp s2) (g.ov s2) x := by rw [hJ.hhp, hJ.hM, e1, e2]; exact hJ.sr.own s2 x hx
   refine { hD with sc := ?_, hoo := fun s1 x1 s3 x3 h1 h3 q hq => ?_, ff := fun s' hs' => ?_ }
   ·refine sim_ow hJ (ow' := upd cur.ow s2 (some x)) (fun s1 x1 h1 => ?_) (fun s1 x1 q h1 hq => ?_) (fun s1 s3 x1 x3 h1 h3 hne q q1 q3 => ?_)
    ·by_cases e : s1 = s2
     ·subst e; rw [upd_same] at h1; obtain rfl := oJ_ h1; exact hown
     ·rw [upd_ne _ _ e] at h1; exact hJ.sc.own s1 x1 h1
    ·by_cases e : s1 = s2
     ·subst e; rw [e2] at hq; rw [hJ.hhp]; exact hJ.sr.fph s1 x q hx hq
     ·rw [upd_ne _ _ e] at h1; exact hJ.sc.fph s1 x1 q h1 hq
    ·by_cases e : s1 = s2 <;> by_cases e3 : s3 = s2
     ·exact hne (e.trans e3.symm)
     ·subst e; rw [upd_ne _ _ e3] at h3; rw [e2] at q1; exact hJ.hoo s3 x3 s1 x h3 hx q q3 q1
     ·subst e3; rw [upd_ne _ _ e] at h1; rw [e2] at q3; exact hJ.hoo s1 x1 s3 x h1 hx q q1 q3
     ·rw [upd_ne _ _ e] at h1; rw [upd_ne _ _ e3] at h3; exact hJ.sc.owd s1 s3 x1 x3 h1 h3 hne q q1 q3
   ·obtain ⟨f1, f3, f4, f5, f6⟩ := hJ.ff s' hs'
    have h9 := hJ.hn
    have hs'' : cur.nx ≤ s' := hs'
    exact ⟨f1, f3, f4, by show upd cur.ow s2 (some x) s' = none; rw [upd_ne _ _ (by omega)]; exact f5, f6⟩
   ·have h3 : upd rem.ow s2 none s3 = some x3 := h3
    have h1 : upd cur.ow s2 (some x) s1 = some x1 := h1
    have hne3 : s3 ≠ s2 := fun e => by subst e; rw [upd_same] at h3; cases h3
    have h4 : rem.ow s3 = some x3 := by rw [upd_ne _ _ hne3] at h3; exact h3
    by_cases e : s1 = s2
    ·subst e
     have hq : g.fp s1 q := hq
     rw [e2] at hq
     exact hJ.sr.owd s1 s3 x x3 hx h4 (Ne.symm hne3) q hq
    ·rw [upd_ne _ _ e] at h1
     exact hJ.hoo s1 x1 s3 x3 h1 h4 q hq
  ·exact same
 ·exact same
theorem joint_none {n0 : Nat} {g' : Ghost} {rem cur : St} (hJ : Joint P Dw F0 base M0 w0 N n0 g' g rem cur a w) {s t : Nat} {x : Nat → Option V} (hx : rem.ow s = none) (hs : ∀ s2, rootS (cur.φ t) = some s2 → s2 < n0 → s2 = s) (hx0 : x s = none) :
  Joint P Dw F0 base M0 w0 N n0 { g' with ow := (dropO rem (some s)).ow } { g with ow := (match rootS (cur.φ t) with
   | some s => if s < n0 then { cur with ow := upd cur.ow s (x s) } else cur
   | none => cur : St).ow } (dropO rem (some s)) (match rootS (cur.φ t) with
   | some s => if s < n0 then { cur with ow := upd cur.ow s (x s) } else cur
   | none => cur) a w := by
 have hD := joint_drop hJ s
 have same : Joint P Dw F0 base M0 w0 N n0 { g' with ow := (dropO rem (some s)).ow } { g with ow := cur.ow } (dropO rem (some s)) cur a w := by
  have e : ({ g with ow := cur.ow } : Ghost) = g := by rw [← hJ.sc.gow]
  rw [e]; exact hD
 split
 ·rename_i s2 hs2
  split
  ·rename_i hlt
   obtain rfl := hs s2 hs2 hlt
   rw [hx0]
   have key : ∀ s1 x1, upd cur.ow s2 none s1 = some x1 → cur.ow s1 = some x1 := fun s1 x1 h1 => by
    by_cases e : s1 = s2
    ·subst e; rw [upd_same] at h1; cases h1
    ·rw [upd_ne _ _ e] at h1; exact h1
   refine { hD with sc := ?_, hoo := fun s1 x1 s3 x3 h1 h3 q hq => hD.hoo s1 x1 s3 x3 (key s1 x1 h1) h3 q hq, ff := fun s' hs' => ?_ }
   ·exact sim_ow hJ (ow' := upd cur.ow s2 none) (fun s1 x1 h1 => hJ.sc.own s1 x1 (key s1 x1 h1)) (fun s1 x1 q h1 hq => hJ.sc.fph s1 x1 q (key s1 x1 h1) hq) (fun s1 s3 x1 x3 h1 h3 => hJ.sc.owd s1 s3 x1 x3 (key s1 x1 h1) (key s3 x3 h3))
   ·obtain ⟨f1, f3, f4, f5, f6⟩ := hJ.ff s' hs'
    refine ⟨f1, f3, f4, ?_, f6⟩
    show upd cur.ow s2 none s' = none
    by_cases e : s' = s2
    ·rw [e, upd_same]
    ·rw [upd_ne _ _ e]; exact f5
  ·exact same
 ·exact same
theorem joint_newC {n0 : Nat} {g' : Ghost} {rem cur : St} (hJ : Joint P Dw F0 base M0 w0 N n0 g' g rem cur a w) {s t : Nat} {x : V} {c : C} (hc : c.site = some cur.nx ∧ c.nonroot = false ∧ rootS c = some cur.nx ∧ ∀ s' o, c ≠ .box s' o) (hsl : RelC { g with ov := upd g.ov cur.nx (g'.ov s), fp := upd g.fp cur.nx (g'.fp s), ow := upd cur.ow cur.nx (some x) } (a.tmps.getD t undef) c) (hx : rem.ow s = some x) :
  Joint P Dw F0 base M0 w0 N n0 { g' with ow := (dropO rem (some s)).ow } { g with ov := upd g.ov cur.nx (g'.ov s), fp := upd g.fp cur.nx (g'.fp s), ow := upd cur.ow cur.nx (some x) } (dropO rem (some s))
   { cur with φ := upd cur.φ t c, ow := upd cur.ow cur.nx (some x), nx := cur.nx + 1 } a w := by
 have hD := joint_drop hJ s
 have hf := hJ.ff cur.nx (Nat.le_refl _)
 have h9 := hJ.hn
 have hown : RelT g.hp g.M (g'.fp s) (g'.ov s) x := by rw [hJ.hhp, hJ.hM]; exact hJ.sr.own s x hx
 refine { hD with sc := ?_, hφ := fun t' s' o ht => ?_, hbx := hD.hbx, hrr := hD.hrr, hrb := hD.hrb, ff := fun s' hs' => ?_, hn := Nat.le_trans h9 (Nat.le_succ _), hov := fun s' hs' => ?_, hφo := fun t' s' ht hs' => ?_, hnr := fun t' => ?_, hoo := fun s1 x1 s3 x3 h1 h3 q hq => ?_ }
 ·have h1 := hJ.sc.newSite hf hown (fun q hq => by rw [hJ.hhp]; exact hJ.sr.fph s x q hx hq) (fun s' x' hs' q hq hq2 => hJ.hoo s' x' s x hs' hx q hq2 hq)
  refine { h1 with slot := fun t' => ?_ }
  by_cases e : t' = t
  ·subst e
   simp only [upd_same]
   exact hsl
  ·simp only [upd_ne _ _ e]
   exact h1.slot t'
 ·simp only [upd] at ht
  split at ht
  ·exact absurd ht (hc.2.2.2 s' o)
  ·exact hD.hφ t' s' o ht
 ·have hs'' : cur.nx + 1 ≤ s' := hs'
  obtain ⟨f1, f3, f4, f5, f6⟩ := hJ.ff s' (by omega)
  refine ⟨fun t' => ?_, f3, f4, by show upd cur.ow cur.nx (some x) s' = none; rw [upd_ne _ _ (by omega)]; exact f5, f6⟩
  simp only [upd]
  split
  ·rw [hc.1]; simp only [ne_eq, oE_]; omega
  ·exact f1 t'
 ·show upd g.ov cur.nx (g'.ov s) s' = _ ∧ upd g.fp cur.nx (g'.fp s) s' = _
  rw [upd_ne _ _ (by omega), upd_ne _ _ (by omega)]
  exact hJ.hov s' hs'
 ·simp only [upd] at ht ⊢
  split at ht
  ·rw [hc.2.2.1] at ht; simp only [oE_] at ht; omega
  ·rename_i hne; rw [if_neg hne]; exact hD.hφo t' s' ht hs'
 ·simp only [upd]
  split
  ·exact hc.2.1
  ·exact hJ.hnr t'
 ·have h3 : upd rem.ow s none s3 = some x3 := h3
  have h1 : upd cur.ow cur.nx (some x) s1 = some x1 := h1
  have hq : upd g.fp cur.nx (g'.fp s) s1 q := hq
  have hne3 : s3 ≠ s := fun e => by subst e; rw [upd_same] at h3; cases h3
  rw [upd_ne _ _ hne3] at h3
  by_cases e : s1 = cur.nx
  ·subst e
   rw [upd_same] at hq
   exact hJ.sr.owd s s3 x x3 hx h3 (Ne.symm hne3) q hq
  ·rw [upd_ne _ _ e] at h1 hq
   exact hJ.hoo s1 x1 s3 x3 h1 h3 q hq
theorem joint_new {n0 : Nat} {g' : Ghost} {rem cur : St} (hJ : Joint P Dw F0 base M0 w0 N n0 g' g rem cur a w) {s t : Nat} {x : V} (hs : rem.φ t = .ref s [] []) (hx : rem.ow s = some x) :
  Joint P Dw F0 base M0 w0 N n0 { g' with ow := (dropO rem (some s)).ow } { g with ov := upd g.ov cur.nx (g'.ov s), fp := upd g.fp cur.nx (g'.fp s), ow := upd cur.ow cur.nx (some x) } (dropO rem (some s))
   { cur with φ := upd cur.φ t (.ref cur.nx [] []), ow := upd cur.ow cur.nx (some x), nx := cur.nx + 1 } a w := by
 have hv : a.tmps.getD t undef = g'.ov s := by
  have := hJ.sr.slot t
  rw [hs] at this
  have h2 := (this (by simp)).2
  simp only [walkV, oE_] at h2
  exact h2.symm
 refine joint_newC hJ ⟨rfl, rfl, rfl, fun _ _ h => by cases h⟩ ?_ hx
 intro _
 exact ⟨.inl rfl, by simp only [walkV, upd_same, hv]⟩
theorem joint_newA {n0 : Nat} {g' : Ghost} {rem cur : St} (hJ : Joint P Dw F0 base M0 w0 N n0 g' g rem cur a w) {s t : Nat} {x : V} {q : Stp} (hs : rem.φ t = .adr s [] q []) (hx : rem.ow s = some x) :
  Joint P Dw F0 base M0 w0 N n0 { g' with ow := (dropO rem (some s)).ow } { g with ov := upd g.ov cur.nx (g'.ov s), fp := upd g.fp cur.nx (g'.fp s), ow := upd cur.ow cur.nx (some x) } (dropO rem (some s))
   { cur with φ := upd cur.φ t (.adr cur.nx [] q []), ow := upd cur.ow cur.nx (some x), nx := cur.nx + 1 } a w := by
 have h1 := hJ.sr.slot t
 rw [hs] at h1
 obtain ⟨_, u, b, h2, h3, h4⟩ := h1 (by simp)
 simp only [walkV, oE_] at h2
 refine joint_newC hJ ⟨rfl, rfl, rfl, fun _ _ h => by cases h⟩ ?_ hx
 intro _
 exact ⟨.inl rfl, u, b, by simp only [walkV, upd_same, h2], h3, h4⟩
theorem joint_nil {n0 : Nat} {g' : Ghost} {rem cur : St} (hJ : Joint P Dw F0 base M0 w0 N n0 g' g rem cur a w) {t k : Nat} (hs : rem.φ t = .nil) :
  Joint P Dw F0 base M0 w0 N n0 g' { g with ov := upd g.ov cur.nx (.slice none 0 0), fp := upd g.fp cur.nx (fun _ => False), ow := upd cur.ow cur.nx (some (.osl k [])) } rem
   { cur with φ := upd cur.φ t (.ref cur.nx [] []), ow := upd cur.ow cur.nx (some (.osl k [])), nx := cur.nx + 1 } a w := by
 have hD := hJ
 have hf := hJ.ff cur.nx (Nat.le_refl _)
 have h9 := hJ.hn
 have hown : RelT g.hp g.M (fun _ => False) (.slice none 0 0) (.osl k []) := .oslNil _ _
 have hv : a.tmps.getD t undef = .slice none 0 0 := by
  have := hJ.sr.slot t
  rw [hs] at this
  exact this
 refine { hD with sc := ?_, hφ := fun t' s' o ht => ?_, hbx := hD.hbx, hrr := hD.hrr, hrb := hD.hrb, ff := fun s' hs' => ?_, hn := Nat.le_trans h9 (Nat.le_succ _), hov := fun s' hs' => ?_, hφo := fun t' s' ht hs' => ?_, hnr := fun t' => ?_, hoo := fun s1 x1 s3 x3 h1 h3 q hq => ?_ }
 ·have h1 := hJ.sc.newSite hf hown (fun q hq => hq.elim) (fun s' x' hs' q hq hq2 => hq.elim)
  refine { h1 with slot := fun t' => ?_ }
  by_cases e : t' = t
  ·subst e
   simp only [upd_same]
   intro _
   exact ⟨.inl rfl, by simp only [walkV, upd_same, hv]⟩
  ·simp only [upd_ne _ _ e]
   exact h1.slot t'
 ·simp only [upd] at ht
  split at ht
  ·cases ht
  ·exact hD.hφ t' s' o ht
 ·have hs'' : cur.nx + 1 ≤ s' := hs'
  obtain ⟨f1, f3, f4, f5, f6⟩ := hJ.ff s' (by omega)
  refine ⟨fun t' => ?_, f3, f4, by show upd cur.ow cur.nx (some (.osl k [])) s' = none; rw [upd_ne _ _ (by omega)]; exact f5, f6⟩
  simp only [upd]
  split
  ·simp only [C.site, ne_eq, oE_]; omega
  ·exact f1 t'
 ·show upd g.ov cur.nx (.slice none 0 0) s' = _ ∧ upd g.fp cur.nx (fun _ => False) s' = _
  rw [upd_ne _ _ (by omega), upd_ne _ _ (by omega)]
  exact hJ.hov s' hs'
 ·simp only [upd] at ht ⊢
  split at ht
  ·simp only [rootS, oE_] at ht; omega
  ·rename_i hne; rw [if_neg hne]; exact hD.hφo t' s' ht hs'
 ·simp only [upd]
  split
  ·rfl
  ·exact hJ.hnr t'
 ·have h1 : upd cur.ow cur.nx (some (.osl k [])) s1 = some x1 := h1
  have hq : upd g.fp cur.nx (fun _ => False) s1 q := hq
  by_cases e : s1 = cur.nx
  ·subst e
   rw [upd_same] at hq
   exact hq.elim
  ·rw [upd_ne _ _ e] at h1 hq
   exact hJ.hoo s1 x1 s3 x3 h1 h3 q hq
theorem inject_ok (st0 : St) (all : List V) : ∀ (rs : List Ref) (n : Nat) (vs : List V) (g' g : Ghost) (rem cur : St), Joint P Dw F0 base M0 w0 N st0.nx g' g rem cur a w → proj P st0 rs rem = some vs → (∀ i x, vs[i]? = some x → all.getD (n + i) .any = x) → ∃ g2, Sim P Dw F0 base M0 w0 N g2 (inject st0 all rs n cur) a w ∧ FreshFrom (inject st0 all rs n cur)
 | [], n, vs, g', g, rem, cur, hJ, h, hall => by
  simp only [proj, oE_] at h
  subst h
  exact ⟨g, hJ.sc, hJ.ff⟩
 | .s t :: rs, n, vs, g', g, rem, cur, hJ, h, hall => by
  simp only [proj] at h
  obtain ⟨vs', h1, rfl⟩ := oM_ h
  have h00 := hall 0 _ rfl
  rw [Nat.add_zero] at h00
  simp only [inject, h00]
  refine inject_ok st0 all rs (n + 1) vs' g' g rem _ ?_ h1 (fun i x hi => by have := hall (i + 1) x (by simpa using hi); rwa [show n + 1 + i = n + (i + 1) by omega])
  refine { sr := hJ.sr, sc := hJ.sc.setSlot (by rw [hJ.hM]; exact hJ.sr.asV (hJ.sr.slot t)), hM := hJ.hM, hloc := hJ.hloc, hφ := fun t' s o ht => ?_, hbx := hJ.hbx, hrr := hJ.hrr, hrb := hJ.hrb, ff := hJ.ff.put, hhp := hJ.hhp, hn := hJ.hn, hov := hJ.hov, hφo := fun t' s ht hs => ?_, hoo := hJ.hoo, hnr := fun t' => ?_ }
  ·simp only [upd] at ht
   split at ht
   ·cases ht
   ·exact hJ.hφ t' s o ht
  ·simp only [upd] at ht ⊢
   split at ht
   ·cases ht
   ·rename_i hne; rw [if_neg hne]; exact hJ.hφo t' s ht hs
  ·simp only [upd]
   split
   ·rfl
   ·exact hJ.hnr t'
 | .b t :: rs, n, vs, g', g, rem, cur, hJ, h, hall => by
  simp only [proj] at h
  split at h
  ·rename_i s ht
   obtain ⟨l, hl, h⟩ := oB_ h
   obtain ⟨vs', h1, rfl⟩ := oM_ h
   have h00 := hall 0 _ rfl
   rw [Nat.add_zero] at h00
   simp only [inject, h00]
   refine inject_ok st0 all rs (n + 1) vs' g' g rem _ ?_ h1 (fun i x hi => by have := hall (i + 1) x (by simpa using hi); rwa [show n + 1 + i = n + (i + 1) by omega])
   split
   ·rename_i s2 hc
    have := hJ.hφ t s2 ⟨[], 0⟩ hc
    rw [ht] at this
    simp only [C.box.injEq, and_true] at this
    subst this
    simp only [aggL]
    have hlt : s < cur.nx := Nat.lt_of_not_le fun hle => (hJ.ff s hle).nbox t ⟨[], 0⟩ hc
    refine { sr := hJ.sr, sc := ?_, hM := hJ.hM, hloc := hJ.hloc, hφ := hJ.hφ, hbx := fun s' l' h' => ?_, hrr := hJ.hrr, hrb := hJ.hrb, ff := fun s' hs' => ?_, hhp := hJ.hhp, hn := hJ.hn, hov := hJ.hov, hφo := hJ.hφo, hoo := hJ.hoo, hnr := hJ.hnr }
    ·obtain ⟨b1, b2, b3⟩ := hJ.sr.box s l hl
     refine { hJ.sc with box := fun s' l' h' => ?_, boxes := fun s1 s2 l1 l2 h1 h2 he => ?_, boxrow := fun s1 s2 l1 r h1 h2 => ?_, hp := fun q ob hq => ?_ }
     rotate_left 3
     ·obtain ⟨p1, p2, p3, p4, p5⟩ := hJ.sc.hp q ob hq
      refine ⟨p1, p2, p3, fun s' l' h' => ?_, p5⟩
      by_cases e : s' = s
      ·subst e
       rw [hJ.hloc]
       exact (hJ.sr.hp q ob (by rw [← hJ.hhp]; exact hq)).2.2.2.1 s' l hl
      ·simp only [upd_ne _ _ e] at h'; exact p4 s' l' h'
     ·by_cases e : s' = s
      ·subst e
       simp only [upd_same, oE_] at h'
       subst h'
       rw [hJ.hM, hJ.hloc]
       exact ⟨b1, b2, b3⟩
      ·simp only [upd_ne _ _ e] at h'; exact hJ.sc.box s' l' h'
     ·have k1 : ∃ q, rem.bx s1 = some q := by
       by_cases e : s1 = s
       ·exact ⟨l, e ▸ hl⟩
       ·simp only [upd_ne _ _ e] at h1; exact ⟨_, hJ.hbx _ _ h1⟩
      have k2 : ∃ q, rem.bx s2 = some q := by
       by_cases e : s2 = s
       ·exact ⟨l, e ▸ hl⟩
       ·simp only [upd_ne _ _ e] at h2; exact ⟨_, hJ.hbx _ _ h2⟩
      obtain ⟨q1, k1⟩ := k1
      obtain ⟨q2, k2⟩ := k2
      rw [hJ.hloc] at he
      exact hJ.sr.boxes s1 s2 q1 q2 k1 k2 he
     ·by_cases e : s1 = s
      ·subst e; rw [hJ.hloc]; exact hJ.hrb s2 r s1 l h2 hl
      ·simp only [upd_ne _ _ e] at h1; exact hJ.sc.boxrow s1 s2 l1 r h1 h2
    ·by_cases e : s' = s
     ·subst e
      simp only [upd_same, oE_] at h'
      subst h'; exact hl
     ·simp only [upd_ne _ _ e] at h'; exact hJ.hbx s' l' h'
    ·obtain ⟨f1, f3, f4⟩ := hJ.ff s' hs'
     have hs'' : cur.nx ≤ s' := hs'
     exact ⟨f1, by simp only; rw [upd_ne _ _ (by omega)]; exact f3, f4⟩
   ·exact hJ
  ·cases h
 | .kb t :: rs, n, vs, g', g, rem, cur, hJ, h, hall => by
  simp only [proj] at h
  split at h
  ·rename_i s ht
   obtain ⟨heq, h⟩ := keepO_some h
   simp only [inject]
   refine inject_ok st0 all rs n vs g' g rem _ ?_ h hall
   split
   ·rename_i s2 hc
    have := hJ.hφ t s2 ⟨[], 0⟩ hc
    rw [ht] at this
    simp only [C.box.injEq, and_true] at this
    subst this
    have hlt : s < cur.nx := Nat.lt_of_not_le fun hle => (hJ.ff s hle).nbox t ⟨[], 0⟩ hc
    rw [← heq]
    refine { sr := hJ.sr, sc := ?_, hM := hJ.hM, hloc := hJ.hloc, hφ := hJ.hφ, hbx := fun s' l' h' => ?_, hrr := hJ.hrr, hrb := hJ.hrb, ff := fun s' hs' => ?_, hhp := hJ.hhp, hn := hJ.hn, hov := hJ.hov, hφo := hJ.hφo, hoo := hJ.hoo, hnr := hJ.hnr }
    ·refine { hJ.sc with box := fun s' l' h' => ?_, boxes := fun s1 s2 l1 l2 h1 h2 he => ?_, boxrow := fun s1 s2 l1 r h1 h2 => ?_, hp := fun q ob hq => ?_ }
     rotate_left 3
     ·obtain ⟨p1, p2, p3, p4, p5⟩ := hJ.sc.hp q ob hq
      refine ⟨p1, p2, p3, fun s' l' h' => ?_, p5⟩
      by_cases e : s' = s
      ·subst e
       simp only [upd_same] at h'
       rw [hJ.hloc]
       exact (hJ.sr.hp q ob (by rw [← hJ.hhp]; exact hq)).2.2.2.1 s' l' h'
      ·simp only [upd_ne _ _ e] at h'; exact p4 s' l' h'
     ·by_cases e : s' = s
      ·subst e
       simp only [upd_same] at h'
       rw [hJ.hM, hJ.hloc]
       exact hJ.sr.box s' l' h'
      ·simp only [upd_ne _ _ e] at h'; exact hJ.sc.box s' l' h'
     ·have k1 : rem.bx s1 = some l1 := by
       by_cases e : s1 = s
       ·subst e; simp only [upd_same] at h1; exact h1
       ·simp only [upd_ne _ _ e] at h1; exact hJ.hbx _ _ h1
      have k2 : rem.bx s2 = some l2 := by
       by_cases e : s2 = s
       ·subst e; simp only [upd_same] at h2; exact h2
       ·simp only [upd_ne _ _ e] at h2; exact hJ.hbx _ _ h2
      rw [hJ.hloc] at he
      exact hJ.sr.boxes s1 s2 l1 l2 k1 k2 he
     ·by_cases e : s1 = s
      ·subst e; simp only [upd_same] at h1; rw [hJ.hloc]; exact hJ.hrb s2 r s1 l1 h2 h1
      ·simp only [upd_ne _ _ e] at h1; exact hJ.sc.boxrow s1 s2 l1 r h1 h2
    ·by_cases e : s' = s
     ·subst e; simp only [upd_same] at h'; exact h'
     ·simp only [upd_ne _ _ e] at h'; exact hJ.hbx s' l' h'
    ·obtain ⟨f1, f3, f4⟩ := hJ.ff s' hs'
     have hs'' : cur.nx ≤ s' := hs'
     exact ⟨f1, by simp only; rw [upd_ne _ _ (by omega)]; exact f3, f4⟩
   ·exact hJ
  ·cases h
 | .r t e :: rs, n, vs, g', g, rem, cur, hJ, h, hall => by
  have key : ∀ (v : Value) (rows : List (List V)) (rem' : St) (vs' : List V), RelC g' v (.v .any) → a.tmps.getD t undef = v → RowOk P base g'.M w e v rows → (∀ s2 r2, rem'.rw s2 = some r2 → rem.rw s2 = some r2 ∧ ∀ q, v.ownBlock = some q → (g'.val s2).ownBlock ≠ some q) → rem'.φ = rem.φ → rem'.bx = rem.bx → rem'.ow = rem.ow → (∀ q ob, g'.hp q = some ob → v.ownBlock ≠ some q) → Sim P Dw F0 base M0 w0 N g' rem' a w →
    (∀ s1 r1, cur.rw s1 = some r1 → ∀ q, (g.val s1).ownBlock = some q → v.ownBlock ≠ some q) → (∀ s l, rem.bx s = some l → v.ownBlock ≠ some (g'.loc s)) →
    proj P st0 rs rem' = some vs' → (∀ i x, (V.sl rows :: vs')[i]? = some x → all.getD (n + i) .any = x) → ∃ g2, Sim P Dw F0 base M0 w0 N g2 (inject st0 all (.r t e :: rs) n cur) a w ∧ FreshFrom (inject st0 all (.r t e :: rs) n cur) := by
   intro v rows rem' vs' _ hv hrow hrem hφ' hbx' how' hvhp hS' hcur hbox h1 hall
   have h00 := hall 0 _ rfl
   rw [Nat.add_zero] at h00
   simp only [inject, h00, slL]
   have hf := hJ.ff cur.nx (Nat.le_refl _)
   refine inject_ok st0 all rs (n + 1) vs' g' { g with val := upd g.val cur.nx v } rem' _ ?_ h1 (fun i x hi => by have := hall (i + 1) x (by simpa using hi); rwa [show n + 1 + i = n + (i + 1) by omega])
   refine { sr := hS', sc := ?_, hM := hJ.hM, hloc := hJ.hloc, hφ := fun t' s o ht => ?_, hbx := fun s l hl => by rw [hbx']; exact hJ.hbx s l hl, hrr := fun s1 r1 s2 r2 h1 h2 q hq => ?_, hrb := fun s1 r1 s l h1 h2 => ?_, ff := fun s' hs' => ?_, hhp := hJ.hhp, hn := Nat.le_trans hJ.hn (Nat.le_succ _), hov := hJ.hov, hφo := fun t' s ht hs => ?_, hoo := fun s1 x1 s2 x2 h1 h2 => hJ.hoo s1 x1 s2 x2 h1 (by rw [← how']; exact h2), hnr := fun t' => ?_ }
   ·refine { hJ.sc with slot := fun t' => ?_, row := fun s2 e2 rows2 h2 => ?_, rows := fun s1 s2 r1 r2 h1 h2 hne q hq => ?_, boxrow := fun s1 s2 l r h1 h2 => ?_, hp := fun q ob hq => ?_ }
    rotate_left 4
    ·obtain ⟨p1, p2, p3, p4, p5⟩ := hJ.sc.hp q ob hq
     refine ⟨p1, p2, p3, p4, fun s2 r2 h2 => ?_⟩
     by_cases e2 : s2 = cur.nx
     ·subst e2
      simp only [upd_same]
      exact hvhp q ob (by rw [← hJ.hhp]; exact hq)
     ·simp only [upd_ne _ _ e2] at h2 ⊢; exact p5 s2 r2 h2
    ·by_cases e1 : t' = t
     ·subst e1
      simp only [upd_same]
      show a.tmps.getD t' undef = upd g.val cur.nx v cur.nx
      rw [upd_same]; exact hv
     ·simp only [upd_ne _ _ e1]
      have := hJ.sc.slot t'
      cases hc : cur.φ t' with
      | v z => rw [hc] at this; exact this
      | nil => rw [hc] at this; exact this
      | box s2 o2 => rw [hc] at this; exact this
      | adr s2 p2 q2 g2 => rw [hc] at this; exact this
      | ref s2 p2 g2 => rw [hc] at this; exact this
      | row s2 =>
       rw [hc] at this
       have hne : s2 ≠ cur.nx := fun e2 => hf.nrow t' (by rw [hc, e2])
       simp only [RelC] at this ⊢
       rw [upd_ne _ _ hne]; exact this
    ·by_cases e2' : s2 = cur.nx
     ·subst e2'
      simp only [upd_same, oE_, Prod.mk.injEq] at h2 ⊢
      obtain ⟨rfl, rfl⟩ := h2
      rw [hJ.hM]; exact hrow
     ·simp only [upd_ne _ _ e2'] at h2 ⊢
      exact hJ.sc.row s2 e2 rows2 h2
    ·by_cases e1 : s1 = cur.nx <;> by_cases e2 : s2 = cur.nx
     ·exact absurd (e1.trans e2.symm) hne
     ·subst e1
      simp only [upd_same, upd_ne _ _ e2] at h2 hq ⊢
      exact fun h5 => hcur s2 r2 h2 q h5 hq
     ·subst e2
      simp only [upd_same, upd_ne _ _ e1] at h1 hq ⊢
      exact hcur s1 r1 h1 q hq
     ·simp only [upd_ne _ _ e1, upd_ne _ _ e2] at h1 h2 hq ⊢
      exact hJ.sc.rows s1 s2 r1 r2 h1 h2 hne q hq
    ·by_cases e2 : s2 = cur.nx
     ·subst e2
      simp only [upd_same]
      rw [hJ.hloc]
      exact hbox s1 l (hJ.hbx s1 l h1)
     ·simp only [upd_ne _ _ e2] at h2 ⊢
      exact hJ.sc.boxrow s1 s2 l r h1 h2
   ·simp only [upd] at ht
    split at ht
    ·cases ht
    ·rw [hφ']; exact hJ.hφ t' s o ht
   ·obtain ⟨h3, h4⟩ := hrem s2 r2 h2
    by_cases e1 : s1 = cur.nx
    ·subst e1; simp only [upd_same] at hq; exact h4 q hq
    ·simp only [upd_ne _ _ e1] at h1 hq; exact hJ.hrr s1 r1 s2 r2 h1 h3 q hq
   ·rw [hbx'] at h2
    by_cases e1 : s1 = cur.nx
    ·subst e1; simp only [upd_same]; exact hbox s l h2
    ·simp only [upd_ne _ _ e1] at h1 ⊢; exact hJ.hrb s1 r1 s l h1 h2
   ·have hs'' : cur.nx + 1 ≤ s' := hs'
    obtain ⟨f1, f3, f4, f5⟩ := hJ.ff s' (by omega)
    refine ⟨fun t' => ?_, f3, by simp only; rw [upd_ne _ _ (by omega)]; exact f4, f5⟩
    simp only [upd]
    split
    ·simp only [C.site, ne_eq, oE_]; omega
    ·exact f1 t'
   ·simp only [upd] at ht ⊢
    split at ht
    ·cases ht
    ·rename_i hne; rw [if_neg hne, hφ']; exact hJ.hφo t' s ht hs
   ·simp only [upd]
    split
    ·rfl
    ·exact hJ.hnr t'
  simp only [proj] at h
  split at h
  ·rename_i hk
   obtain ⟨k, hk⟩ := Option.isSome_iff_exists.1 hk
   split at h
   ·rename_i ht
    obtain ⟨vs', h1, rfl⟩ := oM_ h
    have hv := hJ.sr.slot t
    rw [ht] at hv
    exact key _ [] rem vs' (.any _) hv ⟨rel_nil _, k, [], hk, OwnsO.nil_ _ _ _ _, rfl, by simp, by simp [Value.ownBlock]⟩ (fun s2 r2 h2 => ⟨h2, by simp [Value.ownBlock]⟩) rfl rfl rfl (by simp [Value.ownBlock]) hJ.sr (by simp [Value.ownBlock]) (by simp [Value.ownBlock]) h1 hall
   ·rename_i s ht
    split at h
    ·rename_i p hp
     split at h
     ·rename_i he
      obtain ⟨vs', h1, rfl⟩ := oM_ h
      have hv := hJ.sr.slot t
      rw [ht] at hv
      subst he
      refine key _ p.2 { rem with rw := upd rem.rw s none } vs' (.any _) hv (hJ.sr.row s _ _ hp) (fun s2 r2 h2 => ?_) rfl rfl rfl (fun q ob hq => (hJ.sr.hp q ob hq).2.2.2.2 s p hp) ?_ (fun s1 r1 h1 q hq => hJ.hrr s1 r1 s p h1 hp q hq) (fun s' l hl => hJ.sr.boxrow s' s l p hl hp) h1 hall
      ·by_cases e2 : s2 = s
       ·subst e2; simp only [upd_same] at h2; cases h2
       ·simp only [upd_ne _ _ e2] at h2
        exact ⟨h2, hJ.sr.rows s s2 p r2 hp h2 (Ne.symm e2)⟩
      ·refine { hJ.sr with row := fun s2 e2 rows2 h2 => ?_, rows := fun s1 s2 r1 r2 h1 h2 => ?_, boxrow := fun s1 s2 l r h1 h2 => ?_, hp := fun q ob hq => ?_ }
       rotate_left 3
       ·obtain ⟨p1, p2, p3, p4, p5⟩ := hJ.sr.hp q ob hq
        refine ⟨p1, p2, p3, p4, fun s2 r2 h2 => ?_⟩
        by_cases e3 : s2 = s
        ·subst e3; simp only [upd_same] at h2; cases h2
        ·simp only [upd_ne _ _ e3] at h2; exact p5 s2 r2 h2
       ·by_cases e3 : s2 = s
        ·subst e3; simp only [upd_same] at h2; cases h2
        ·simp only [upd_ne _ _ e3] at h2; exact hJ.sr.row s2 e2 rows2 h2
       ·by_cases e3 : s1 = s
        ·subst e3; simp only [upd_same] at h1; cases h1
        ·by_cases e4 : s2 = s
         ·subst e4; simp only [upd_same] at h2; cases h2
         ·simp only [upd_ne _ _ e3, upd_ne _ _ e4] at h1 h2; exact hJ.sr.rows s1 s2 r1 r2 h1 h2
       ·by_cases e3 : s2 = s
        ·subst e3; simp only [upd_same] at h2; cases h2
        ·simp only [upd_ne _ _ e3] at h2; exact hJ.sr.boxrow s1 s2 l r h1 h2
     ·cases h
    ·cases h
   ·cases h
  ·cases h
 | .o t :: rs, n, vs, g', g, rem, cur, hJ, h, hall => by
  simp only [proj] at h
  split at h
  ·rename_i s hs
   obtain ⟨x, hx, h⟩ := oB_ h
   obtain ⟨vs', h1, rfl⟩ := oM_ h
   have h00 := hall 0 _ rfl
   rw [Nat.add_zero] at h00
   simp only [inject, h00]
   refine inject_ok st0 all rs (n + 1) vs' _ _ _ _ (joint_own hJ hx (x := x) (fun s2 hs2 hlt => ?_)) h1 (fun i x hi => by have := hall (i + 1) x (by simpa using hi); rwa [show n + 1 + i = n + (i + 1) by omega])
   have := hJ.hφo t s2 hs2 hlt
   rw [this, hs2] at hs
   exact oJ_ hs
  ·cases h
 | .ko t :: rs, n, vs, g', g, rem, cur, hJ, h, hall => by
  simp only [proj] at h
  split at h
  ·rename_i s hs
   obtain ⟨heq, h⟩ := keepT_some h
   simp only [inject]
   cases hx : rem.ow s with
   | none =>
    refine inject_ok st0 all rs n vs _ _ _ _ (joint_none hJ hx (x := st0.ow) (fun s2 hs2 hlt => ?_) (by rw [← heq]; exact hx)) h hall
    have := hJ.hφo t s2 hs2 hlt
    rw [this, hs2] at hs
    exact oJ_ hs
   | some x =>
    have hxx : ∀ s2, rootS (cur.φ t) = some s2 → s2 < st0.nx → s2 = s := fun s2 hs2 hlt => by
     have := hJ.hφo t s2 hs2 hlt
     rw [this, hs2] at hs
     exact oJ_ hs
    have hJ2 := joint_own hJ hx (x := x) hxx
    have e : (match rootS (cur.φ t) with
     | some s => if s < st0.nx then { cur with ow := upd cur.ow s (st0.ow s) } else cur
     | none => cur) = (match rootS (cur.φ t) with
     | some s => if s < st0.nx then { cur with ow := upd cur.ow s (some x) } else cur
     | none => cur) := by
     split
     ·rename_i s2 hs2
      split
      ·rename_i hlt
       rw [hxx s2 hs2 hlt, ← heq, hx]
      ·rfl
     ·rfl
    rw [e]; exact inject_ok st0 all rs n vs _ _ _ _ hJ2 h hall
  ·cases h
 | .n t k0 :: rs, n, vs, g', g, rem, cur, hJ, h, hall => by
  simp only [proj] at h
  split at h
  ·rename_i s hs
   obtain ⟨x, hx, h⟩ := oB_ h
   obtain ⟨vs', h1, rfl⟩ := oM_ h
   have h00 := hall 0 _ rfl
   rw [Nat.add_zero] at h00
   simp only [inject, h00]
   refine inject_ok st0 all rs (n + 1) vs' _ _ _ _ (joint_new hJ hs hx) h1 (fun i x hi => by have := hall (i + 1) x (by simpa using hi); rwa [show n + 1 + i = n + (i + 1) by omega])
  ·rename_i hs
   obtain ⟨vs', h1, rfl⟩ := oM_ h
   have h00 := hall 0 _ rfl
   rw [Nat.add_zero] at h00
   simp only [inject, h00]
   refine inject_ok st0 all rs (n + 1) vs' _ _ _ _ (joint_nil hJ hs) h1 (fun i x hi => by have := hall (i + 1) x (by simpa using hi); rwa [show n + 1 + i = n + (i + 1) by omega])
  ·cases h
 | .na t :: rs, n, vs, g', g, rem, cur, hJ, h, hall => by
  simp only [proj] at h
  split at h
  ·rename_i s hs
   obtain ⟨x, hx, h⟩ := oB_ h
   obtain ⟨vs', h1, rfl⟩ := oM_ h
   have h00 := hall 0 _ rfl
   rw [Nat.add_zero] at h00
   simp only [inject, h00]
   refine inject_ok st0 all rs (n + 1) vs' _ _ _ _ (joint_newA hJ hs hx) h1 (fun i x hi => by have := hall (i + 1) x (by simpa using hi); rwa [show n + 1 + i = n + (i + 1) by omega])
  ·cases h
theorem injectAll_ok {st0 st' : St} {D : List Nat} {rs : List Ref} {vs : List V} (hS : Sim P Dw F0 base M0 w0 N g st' a w) (hF : FreshFrom st0) (hfr : Fr D st0 st') (h : proj P st0 rs st' = some vs) :
  ∃ g2, Sim P Dw F0 base M0 w0 N g2 (injectAll st0 D rs vs) a w ∧ FreshFrom (injectAll st0 D rs vs) := by
 refine inject_ok st0 vs rs 0 vs g { g with ow := fun _ => none } st' (base0 st0 D) ?_ h (fun i x hi => by rw [Nat.zero_add]; simp [List.getD, hi])
 have hφ : ∀ t, (base0 st0 D).φ t = .v .any ∨ ((base0 st0 D).φ t = st'.φ t ∧ (st'.φ t).nonroot = false) := fun t => by
  simp only [base0]
  split
  ·exact .inl rfl
  ·rename_i hd
   split
   ·exact .inl rfl
   ·rename_i hn
    rcases hfr t (by simpa using hd) with e | ⟨e, _⟩
    ·exact .inr ⟨e.symm, by rw [e]; simpa using hn⟩
    ·exact absurd e hn
 have hsite : ∀ t s, ((base0 st0 D).φ t).site = some s → (st0.φ t).site = some s := fun t s h => by
  simp only [base0] at h
  split at h
  ·cases h
  ·split at h
   ·cases h
   ·exact h
 have eg : ({ g with ow := fun _ => none } : Ghost).M = g.M := rfl
 refine { sr := hS, sc := { hS with slot := fun t => ?_, box := fun _ _ h => (by cases h), boxes := fun _ _ _ _ h => (by cases h), row := fun _ _ _ h => (by cases h), rows := fun _ _ _ _ h => (by cases h), boxrow := fun _ _ _ _ h => (by cases h), hp := fun q ob hq => ?_, own := fun _ _ h => (by cases h), fph := fun _ _ _ h => (by cases h), owd := fun _ _ _ _ h => (by cases h), gow := rfl }, hM := rfl, hloc := rfl, hφ := fun t s o ht => ?_, hbx := fun _ _ h => (by cases h), hrr := fun _ _ _ _ h => (by cases h), hrb := fun _ _ _ _ h => (by cases h), ff := fun s hs => ?_, hhp := rfl, hn := Nat.le_refl _, hov := fun _ _ => ⟨rfl, rfl⟩, hφo := fun t s ht hs => ?_, hnr := fun t => ?_, hoo := fun _ _ _ _ h => (by cases h) }
 ·rcases hφ t with h1 | ⟨h1, h2⟩ <;> rw [h1]
  ·exact .any _
  ·have := hS.slot t
   cases hc : st'.φ t with
   | v z => rw [hc] at this; exact this
   | nil => rw [hc] at this; exact this
   | box _ _ => rw [hc] at this; exact this
   | row _ => rw [hc] at this; exact this
   | adr s3 p q gs =>
    rw [hc] at this h2
    cases p with
    | nil =>
     simp only [RelC] at this ⊢
     intro hg
     exact ⟨by first | exact .inl trivial | exact .inl rfl, (this hg).2⟩
    | cons => cases h2
   | ref s3 p gs =>
    rw [hc] at this h2
    cases p with
    | nil =>
     simp only [RelC] at this ⊢
     intro hg
     exact ⟨by first | exact .inl trivial | exact .inl rfl, (this hg).2⟩
    | cons => cases h2
 ·obtain ⟨p1, p2, p3, _, _⟩ := hS.hp q ob hq
  exact ⟨p1, p2, p3, fun _ _ h => (by cases h), fun _ _ h => (by cases h)⟩
 ·rcases hφ t with h1 | ⟨h1, _⟩
  ·rw [h1] at ht; cases ht
  ·rw [← h1]; exact ht
 ·exact ⟨fun t h => (hF s hs).1 t (hsite t s h), rfl, rfl, rfl, (hF s hs).2.2.2.2⟩
 ·rcases hφ t with h1 | ⟨h1, _⟩
  ·rw [h1] at ht; cases ht
  ·exact h1.symm
 ·rcases hφ t with h1 | ⟨h1, h2⟩
  ·rw [h1]; rfl
  ·rw [h1]; exact h2
theorem inject_φ (st0 : St) (vs : List V) : ∀ (rs : List Ref) (n : Nat) (cur : St) (t : Nat), t ∉ rs.flatMap Ref.slot → (inject st0 vs rs n cur).φ t = cur.φ t
 | [], _, _, _, _ => rfl
 | .s t' :: rs, n, cur, t, h => by
  simp only [List.flatMap_cons, Ref.slot, List.mem_append, List.mem_singleton, not_or] at h
  simp only [inject]
  rw [inject_φ st0 vs rs _ _ t h.2]
  exact upd_ne _ _ h.1
 | .b t' :: rs, n, cur, t, h => by
  simp only [List.flatMap_cons, Ref.slot, List.nil_append] at h
  simp only [inject]
  rw [inject_φ st0 vs rs _ _ t h]
  split <;> rfl
 | .kb t' :: rs, n, cur, t, h => by
  simp only [List.flatMap_cons, Ref.slot, List.nil_append] at h
  simp only [inject]
  rw [inject_φ st0 vs rs _ _ t h]
  split <;> rfl
 | .r t' e :: rs, n, cur, t, h => by
  simp only [List.flatMap_cons, Ref.slot, List.mem_append, List.mem_singleton, not_or] at h
  simp only [inject]
  rw [inject_φ st0 vs rs _ _ t h.2]
  exact upd_ne _ _ h.1
 | .o t' :: rs, n, cur, t, h => by
  simp only [List.flatMap_cons, Ref.slot, List.nil_append] at h
  simp only [inject]
  rw [inject_φ st0 vs rs _ _ t h]
  split
  ·split <;> rfl
  ·rfl
 | .ko t' :: rs, n, cur, t, h => by
  simp only [List.flatMap_cons, Ref.slot, List.nil_append] at h
  simp only [inject]
  rw [inject_φ st0 vs rs _ _ t h]
  split
  ·split <;> rfl
  ·rfl
 | .n t' _ :: rs, n, cur, t, h => by
  simp only [List.flatMap_cons, Ref.slot, List.mem_append, List.mem_singleton, not_or] at h
  simp only [inject]
  rw [inject_φ st0 vs rs _ _ t h.2]
  exact upd_ne _ _ h.1
 | .na t' :: rs, n, cur, t, h => by
  simp only [List.flatMap_cons, Ref.slot, List.mem_append, List.mem_singleton, not_or] at h
  simp only [inject]
  rw [inject_φ st0 vs rs _ _ t h.2]
  exact upd_ne _ _ h.1
theorem injectAll_fr {st0 : St} {D : List Nat} {rs : List Ref} {vs : List V} (h : ∀ t, t ∈ rs.flatMap Ref.slot → t ∈ D) : Fr D st0 (injectAll st0 D rs vs) := fun t ht => by
 unfold injectAll
 rw [inject_φ st0 vs rs _ _ t (fun h' => ht (h t h'))]
 simp only [base0]
 rw [if_neg (by simpa using ht)]
 split
 ·rename_i hn; exact .inr ⟨hn, rfl⟩
 ·exact .inl rfl
theorem Sim.frzG (hS : Sim P Dw F0 base M0 w0 N g st a w) {s : Nat} {x x' : V} {G : Nat → Prop} [DecidablePred G] (hs : st.ow s = some x) (hG : ∀ q, G q → g.fp s q) (hGb : ∀ q, G q → base ≤ q ∨ F0.F q)
  (hx : RelT g.hp (frzM g.hp g.M G) (fun q => g.fp s q ∧ ¬ G q) (g.ov s) x') :
  Sim P Dw F0 base M0 w0 N { g with M := frzM g.hp g.M G, hp := fun q => if G q then none else g.hp q, fp := upd g.fp s (fun q => g.fp s q ∧ ¬ G q), ow := upd st.ow s (some x') } { st.kill s 0 with ow := upd st.ow s (some x') } a w := by
 have hGM : ∀ q, G q → ∀ o, g.M q o = none := fun q hq => by
  obtain ⟨ob, h⟩ := hS.fph s x q hs (hG q hq)
  exact (hS.hp q ob h).2.2.1
 have hmono := frzM_mono (hp := g.hp) hGM
 have hne : ∀ q, ¬ G q → ∀ o, frzM g.hp g.M G q o = g.M q o := fun q hq o => by unfold frzM; rw [if_neg hq]
 have hbox : ∀ s' l, st.bx s' = some l → ¬ G (g.loc s') := fun s' l h' hq => by
  obtain ⟨ob, h⟩ := hS.fph s x _ hs (hG _ hq)
  exact (hS.hp _ ob h).2.2.2.1 s' l h' rfl
 have hothers : ∀ s' x', s' ≠ s → st.ow s' = some x' → ∀ q, g.fp s' q → ¬ G q := fun s' x' hn h' q hq hg => hS.owd s' s x' x h' hs hn q hq (hG q hg)
 refine { ovp := hS.ovp, inv := hS.inv, below := hS.below, base_le := hS.base_le, defers := hS.defers, size := hS.size, mem := fun b o u hu => ?_, old := fun b o u hu hb hF => ?_, keepM := fun b o u hu => frzM_mono (fun b hb => by obtain ⟨ob, h⟩ := hS.fph s x b hs (hG b hb); exact (hS.hp b ob h).2.2.1) b o u (hS.keepM b o u hu), slot := fun t' => ?_, box := fun s' l' h' => ?_, boxes := hS.boxes, row := fun s2 e2 rows2 h2 => ?_, rows := hS.rows, boxrow := hS.boxrow, hp := fun q ob hq => ?_, own := fun s' x2 h' => ?_, fph := fun s' x2 q h' hq => ?_, owd := fun s1 s2 x1 x2 h1 h2 hn q q1 q2 => ?_, gow := rfl }
 ·have hu : frzM g.hp g.M G b o = some u := hu
  by_cases hg : G b
  ·obtain ⟨ob, h⟩ := hS.fph s x b hs (hG b hg)
   unfold frzM at hu
   rw [if_pos hg, h] at hu
   have hw := (hS.hp b ob h).2.1
   split at hu
   ·rename_i cs ty fz e
    simp only [oE_] at e
    subst e
    simp only [World.cell?, hw]
    simpa using hu
   ·cases hu
  ·rw [hne b hg] at hu; exact hS.mem b o u hu
 ·have hu : frzM g.hp g.M G b o = some u := hu
  have hg : ¬ G b := fun h => (hGb b h).elim (fun h => by omega) hF
  rw [hne b hg] at hu; exact hS.old b o u hu hb hF
 ·have h := hS.slot t'
  show RelC _ _ (killC s 0 (st.φ t'))
  cases hc : st.φ t' with
  | v z => rw [hc] at h; exact Rel.mono h hmono
  | nil => rw [hc] at h; exact h
  | box _ _ => rw [hc] at h; exact h
  | row _ => rw [hc] at h; exact h
  | adr s3 p q gs =>
   rw [hc] at h
   simp only [killC]
   split
   ·exact .any _
   ·rename_i hk
    simp only [RelC] at h ⊢
    intro hg
    obtain ⟨k1, u, b, k2, k3⟩ := h hg
    cases p with
    | nil => exact ⟨.inl rfl, u, b, k2, k3⟩
    | cons s0 p =>
     have hn : s3 ≠ s := fun e => hk ⟨e, by simp⟩
     rcases k1 with e | ⟨x3, y3, h3, h4⟩
     ·cases e
     ·have h3' : st.ow s3 = some x3 := by rw [← hS.gow]; exact h3
      refine ⟨.inr ⟨x3, y3, by show upd st.ow s (some x') s3 = _; rw [upd_ne _ _ hn]; exact h3', h4⟩, u, b, ?_, k3⟩
      rw [walk_congr _ (hS.own s3 x3 h3') h4 fun q' hq' => if_neg (hothers s3 x3 hn h3' q' hq')]
      exact k2
  | ref s3 p gs =>
   rw [hc] at h
   simp only [killC]
   split
   ·exact .any _
   ·rename_i hk
    simp only [RelC] at h ⊢
    intro hg
    obtain ⟨k1, k2⟩ := h hg
    cases p with
    | nil => exact ⟨.inl rfl, k2⟩
    | cons s0 p =>
     have hn : s3 ≠ s := fun e => hk ⟨e, by simp⟩
     rcases k1 with e | ⟨x3, y3, h3, h4⟩
     ·cases e
     ·have h3' : st.ow s3 = some x3 := by rw [← hS.gow]; exact h3
      refine ⟨.inr ⟨x3, y3, by show upd st.ow s (some x') s3 = _; rw [upd_ne _ _ hn]; exact h3', h4⟩, ?_⟩
      rw [walk_congr _ (hS.own s3 x3 h3') h4 fun q' hq' => if_neg (hothers s3 x3 hn h3' q' hq')]
      exact k2
 ·obtain ⟨c1, c2, c3, c4, c5, c6⟩ := hS.box s' l' h'
  exact ⟨c1, fun o => by show frzM g.hp g.M G _ _ = none; rw [hne _ (hbox s' l' h')]; exact c2 o, c3, c4, c5, c6.mono hmono⟩
 ·obtain ⟨q1, k2, xs, q2, q3, q4, q5, q6⟩ := hS.row s2 e2 rows2 h2
  refine ⟨q1.mono hmono, k2, xs, q2, q3, q4, q5, fun q hq => ?_⟩
  obtain ⟨t1, t2, t3⟩ := q6 q hq
  refine ⟨t1, t2, fun hc o u hu => ?_⟩
  have hn : ¬ G q := fun hg => by
   obtain ⟨ob, h⟩ := hS.fph s x q hs (hG q hg)
   exact (hS.hp q ob h).2.2.2.2 s2 _ h2 hq
  have hu : frzM g.hp g.M G q o = some u := hu
  rw [hne q hn] at hu
  exact t3 hc o u hu
 ·have hq : (if G q then none else g.hp q) = some ob := hq
  split at hq
  ·cases hq
  ·rename_i hg
   obtain ⟨p1, p2, p3, p4, p5⟩ := hS.hp q ob hq
   exact ⟨p1, p2, fun o => by show frzM g.hp g.M G q o = none; rw [hne q hg]; exact p3 o, p4, p5⟩
 ·by_cases e : s' = s
  ·subst e
   simp only [upd_same, oE_] at h' ⊢
   subst h'
   exact hx.congr fun q hq => if_neg hq.2
  ·simp only [upd_ne _ _ e] at h' ⊢
   exact ((hS.own s' x2 h').congr fun q hq => if_neg (hothers s' x2 e h' q hq)).mono hmono
 ·show ∃ ob, (if G q then none else g.hp q) = some ob
  by_cases e : s' = s
  ·subst e
   simp only [upd_same] at hq
   rw [if_neg hq.2]
   exact hS.fph s' x q hs hq.1
  ·simp only [upd_ne _ _ e] at h' hq
   rw [if_neg (hothers s' x2 e h' q hq)]
   exact hS.fph s' x2 q h' hq
 ·by_cases e1 : s1 = s <;> by_cases e2 : s2 = s
  ·exact hn (e1.trans e2.symm)
  ·subst e1
   simp only [upd_same, upd_ne _ _ e2] at h2 q1 q2
   exact hS.owd s1 s2 x x2 hs h2 hn q q1.1 q2
  ·subst e2
   simp only [upd_same, upd_ne _ _ e1] at h1 q1 q2
   exact hS.owd s1 s2 x1 x h1 hs hn q q1 q2.1
  ·simp only [upd_ne _ _ e1, upd_ne _ _ e2] at h1 h2 q1 q2
   exact hS.owd s1 s2 x1 x2 h1 h2 hn q q1 q2
theorem killC_twice (s n : Nat) (c : C) : killC s n (killC s n c) = killC s n c := by
 cases c with
 | adr s' p q gs =>
  by_cases h : s' = s ∧ n < p.length
  ·simp only [killC, if_pos h]
  ·simp only [killC, if_neg h]
 | ref s' p gs =>
  by_cases h : s' = s ∧ n < p.length
  ·simp only [killC, if_pos h]
  ·simp only [killC, if_neg h]
 | _ => rfl
theorem give_all (hS : Sim P Dw F0 base M0 w0 N g st a w) {s t : Nat} {x : V} (hs : st.ow s = some x) (ht : a.tmps.getD t undef = g.ov s) :
  ∃ g', Sim P Dw F0 base M0 w0 N g' { dropO st (some s) with φ := upd (dropO st (some s)).φ t (.v (frz x)) } a w := by
 open Classical in
 have hb : ∀ q, g.fp s q → base ≤ q ∨ F0.F q := fun q hq => by
  obtain ⟨ob, h⟩ := hS.fph s x q hs hq
  exact (hS.hp q ob h).1
 have hM : ∀ q, g.fp s q → ∀ o, g.M q o = none := fun q hq => by
  obtain ⟨ob, h⟩ := hS.fph s x q hs hq
  exact (hS.hp q ob h).2.2.1
 have hrel := (hS.own s x hs).frz hM
 have h1 := hS.frzG (G := g.fp s) hs (fun _ h => h) hb (x' := frz x) (.pure _ _ _ hrel)
 have h2 := h1.dropO (some s)
 have e : dropO { st.kill s 0 with ow := upd st.ow s (some (frz x)) } (some s) = dropO st (some s) := by
  simp only [dropO, St.kill, St.mk.injEq, true_and, and_true]
  constructor
  ·funext t'
   exact killC_twice s 0 (st.φ t')
  ·funext s'
   unfold upd
   split <;> simp_all
 rw [e] at h2
 exact ⟨_, h2.setSlot (by rw [ht]; exact hrel)⟩
theorem last_append (p : List Stp) (q : Stp) (h : p.getLast? = some q) : p.dropLast ++ [q] = p := by
 obtain ⟨ys, rfl⟩ := List.getLast?_eq_some_iff.1 h
 simp
theorem sealAt_ok {t : Nat} (hS : Sim P Dw F0 base M0 w0 N g st a w) : ∃ g', Sim P Dw F0 base M0 w0 N g' (sealAt t st) a w := by
 unfold sealAt
 split
 ·rename_i s ht
  split
  ·rename_i l hl
   obtain ⟨b1, b2, cs, ty, hw, hcs, hrel⟩ := hS.box s l hl
   let M' : Mem := fun b o => if b = g.loc s then cs[o]? else g.M b o
   have hmono : ∀ b o u, g.M b o = some u → M' b o = some u := fun b o u hu => by
    have : b ≠ g.loc s := fun e => by rw [e, b2] at hu; cases hu
    simp only [M']; rw [if_neg this]; exact hu
   have hne : ∀ {b o}, b ≠ g.loc s → M' b o = g.M b o := fun h => by simp only [M']; rw [if_neg h]
   refine ⟨{ g with M := M' }, ?_⟩
   refine { hS with keepM := fun b o u hu => hmono b o u (hS.keepM b o u hu), mem := fun b o u hu => ?_, old := fun b o u hu hb hF => ?_, slot := fun t' => ?_, box := fun s' l' h' => ?_, boxes := fun s1 s2 l1 l2 h1 h2 he => ?_, row := fun s2 e2 rows2 h2 => ?_, boxrow := fun s1 s2 l1 r h1 h2 => ?_, hp := fun q ob hq => ?_, own := fun s' x' h' => (hS.own s' x' h').mono hmono }
   rotate_left 7
   ·obtain ⟨p1, p2, p3, p4, p5⟩ := hS.hp q ob hq
    have hn : q ≠ g.loc s := fun e => p4 s l hl e.symm
    refine ⟨p1, p2, fun o => by show M' q o = none; rw [hne hn]; exact p3 o, fun s' l' h' => ?_, p5⟩
    by_cases e : s' = s
    ·subst e; simp only [upd_same] at h'; cases h'
    ·simp only [upd_ne _ _ e] at h'; exact p4 s' l' h'
   ·by_cases e : b = g.loc s
    ·subst e
     simp only [M', if_true] at hu
     simp only [World.cell?, hw]
     simpa using hu
    ·have hu : M' b o = some u := hu
     rw [hne e] at hu; exact hS.mem b o u hu
   ·have hu : M' b o = some u := hu
    rw [hne (by omega)] at hu; exact hS.old b o u hu hb hF
   ·by_cases e : t' = t
    ·subst e
     simp only [upd_same]
     have hv := hS.slot t'
     rw [ht] at hv
     simp only [RelC] at hv ⊢
     rw [hv (by simp)]
     refine mk_ptr fun j y hy => ?_
     obtain ⟨h3, h4⟩ := hrel j y hy
     have hlt : j < cs.size := by rw [hcs]; exact (gS_ hy).1
     refine ⟨cs.getD j undef, ?_, h3, h4.mono hmono⟩
     simp only [M', if_true, Nat.zero_add]
     simp [Array.getD, hlt]
    ·simp only [upd_ne _ _ e]
     have := hS.slot t'
     cases hc : st.φ t' with
     | v z => rw [hc] at this; exact Rel.mono this hmono
     | nil => rw [hc] at this; exact this
     | box s2 o2 => rw [hc] at this; exact this
     | row s2 => rw [hc] at this; exact this
     | adr _ _ _ _ => rw [hc] at this; exact this
     | ref _ _ _ => rw [hc] at this; exact this
   ·by_cases e : s' = s
    ·subst e; simp only [upd_same] at h'; cases h'
    ·simp only [upd_ne _ _ e] at h'
     obtain ⟨c1, c2, c3, c4, c5, c6⟩ := hS.box s' l' h'
     have hn : g.loc s' ≠ g.loc s := fun e2 => e (hS.boxes s' s l' l h' hl e2)
     exact ⟨c1, fun o => by show M' _ _ = none; rw [hne hn]; exact c2 o, c3, c4, c5, c6.mono hmono⟩
   ·have k1 : ∃ q, st.bx s1 = some q := by
     by_cases e : s1 = s
     ·subst e; simp only [upd_same] at h1; cases h1
     ·simp only [upd_ne _ _ e] at h1; exact ⟨_, h1⟩
    have k2 : ∃ q, st.bx s2 = some q := by
     by_cases e : s2 = s
     ·subst e; simp only [upd_same] at h2; cases h2
     ·simp only [upd_ne _ _ e] at h2; exact ⟨_, h2⟩
    obtain ⟨q1, k1⟩ := k1
    obtain ⟨q2, k2⟩ := k2
    exact hS.boxes s1 s2 q1 q2 k1 k2 he
   ·obtain ⟨q1, k2, xs, q2, q3, q4, q5, q6⟩ := hS.row s2 e2 rows2 h2
    refine ⟨q1.mono hmono, k2, xs, q2, q3, q4, q5, fun q hq => ?_⟩
    obtain ⟨t1, t2, t3⟩ := q6 q hq
    refine ⟨t1, t2, fun hc o u hu => ?_⟩
    have hn : q ≠ g.loc s := fun e => hS.boxrow s s2 l _ hl h2 (by rw [hq, e])
    have hu : M' q o = some u := hu
    rw [hne hn] at hu
    exact t3 hc o u hu
   ·by_cases e : s1 = s
    ·subst e; simp only [upd_same] at h1; cases h1
    ·simp only [upd_ne _ _ e] at h1; exact hS.boxrow s1 s2 l1 r h1 h2
  ·exact ⟨g, hS⟩
 ·rename_i s k ht
  split
  ·rename_i x hx
   by_cases hob : ∃ l, x = .obj l
   ·obtain ⟨l, rfl⟩ := hob
    show ∃ g', Sim P Dw F0 base M0 w0 N g' { dropO st (some s) with φ := upd (dropO st (some s)).φ t (.v (frz (.obj l))) } a w
    refine give_all hS hx ?_
    have h := hS.slot t
    rw [ht] at h
    obtain ⟨_, u, b, h2, h3, h4⟩ := h (by simp)
    simp only [walkV, oE_] at h2
    have hT := hS.own s _ hx
    rw [h2] at hT
    rw [h2, h4]
    cases hT with
    | pure _ _ _ h => exact absurd h rel_obj
    | obj => simp only [blockAt, oE_] at h3; subst h3; rfl
   ·have e : frzP x = .any := by
     unfold frzP
     split
     ·exact absurd ⟨_, rfl⟩ hob
     ·rfl
    rw [e]
    exact ⟨_, (hS.dropO (some s)).setSlot (.any _)⟩
  ·exact ⟨g, hS⟩
 ·rename_i s ht
  split
  ·rename_i x hx
   refine give_all hS hx ?_
   have h := hS.slot t
   rw [ht] at h
   have h2 := (h (by simp)).2
   simp only [walkV, oE_] at h2
   exact h2.symm
  ·exact ⟨g, hS⟩
 ·rename_i s p hp ht
  split
  ·rename_i r hr
   obtain ⟨x, hx, hr⟩ := oB_ hr
   obtain ⟨y, hy, hr⟩ := oB_ hr
   obtain ⟨q, hq, hr⟩ := oB_ hr
   obtain ⟨x', hx', rfl⟩ := oM_ hr
   have hpq := last_append p q hq
   open Classical in
   obtain ⟨y0, u, G, k1, k2, k3, k4, k5, k6⟩ := (hS.own s x hx).modX p.dropLast hx'
   rw [hpq] at k1 k2
   rw [hy] at k1
   obtain rfl := oJ_ k1
   have hb : ∀ q, G q → base ≤ q ∨ F0.F q := fun q hq => by
    obtain ⟨ob, h⟩ := hS.fph s x q hx (k5 q hq)
    exact (hS.hp q ob h).1
   have hM : ∀ q, G q → ∀ o, g.M q o = none := fun q hq => by
    obtain ⟨ob, h⟩ := hS.fph s x q hx (k5 q hq)
    exact (hS.hp q ob h).2.2.1
   have hrel := k4.frz hM
   have h1 := hS.frzG (G := G) hx k5 hb (x' := x') (k6 (frzM g.hp g.M G) (fun _ => False) _ (frzM_mono hM) (.pure _ _ _ hrel) (fun _ h => h.elim) (fun q h1 h2 => ⟨h1, h2⟩) (fun _ h => h.elim))
   refine ⟨_, h1.setSlot (t := t) ?_⟩
   have h := hS.slot t
   rw [ht] at h
   have h2 := (h (by simp)).2
   rw [k2] at h2
   obtain rfl := oJ_ h2
   exact hrel
  ·exact ⟨g, hS⟩
 ·exact ⟨g, hS⟩
theorem openC_rel {hp : Hp} {M : Mem} {F : Nat → Prop} {v : Value} {x : V} (k : Nat) (h : RelT hp M F v x) : RelT hp M F v (openC k x) := by
 unfold openC
 split
 ·cases h with
  | pure _ _ _ h =>
   cases h
   exact .oslNil _ _
 ·exact h
theorem softAt_ok {t : Nat} (hS : Sim P Dw F0 base M0 w0 N g st a w) : ∃ g', Sim P Dw F0 base M0 w0 N g' (softAt t st) a w := by
 unfold softAt
 split
 ·rename_i s hs
  split
  ·rename_i x hl
   open Classical in
   have same : ∀ x', RelT g.hp g.M (g.fp s) (g.ov s) x' → ∃ g', Sim P Dw F0 base M0 w0 N g' { st.kill s 0 with ow := upd st.ow s (some x') } a w := fun x' hx' =>
    ⟨_, hS.frzG (G := fun _ => False) hl (fun _ h => h.elim) (fun _ h => h.elim) (x' := x') ((hx'.mono (frzM_mono (hp := g.hp) (M := g.M) (F := fun _ => False) fun _ h => h.elim)).weak fun q h => ⟨h, fun h => h⟩)⟩
   unfold softX
   split
   ·rename_i l
    generalize hv : g.ov s = v at same
    have hT := hS.own s _ hl
    rw [hv] at hT
    cases hT with
    | pure _ _ _ h => exact absurd h rel_obj
    | obj _ b cs ty fz hz _ Fi hb hh hsz h1 hr sub dis =>
     unfold softT
     split
     ·have hG : ∀ q, (∃ i, Fi i q) → g.fp s q := fun q ⟨i, h⟩ => (sub i q h).1
      have hbb : ∀ q, (∃ i, Fi i q) → base ≤ q ∨ F0.F q := fun q hq => by
       obtain ⟨ob, h⟩ := hS.fph s _ q hl (hG q hq)
       exact (hS.hp q ob h).1
      have hM : ∀ q, (∃ i, Fi i q) → ∀ o, g.M q o = none := fun q hq => by
       obtain ⟨ob, h⟩ := hS.fph s _ q hl (hG q hq)
       exact (hS.hp q ob h).2.2.1
      exact ⟨_, hS.frzG (G := fun q => ∃ i, Fi i q) hl hG hbb (x' := .obj (frzL l)) (by
       rw [hv]
       refine .obj _ b cs ty fz hz _ (fun _ _ => False) ⟨hb, fun ⟨i, h⟩ => (sub i b h).2 rfl⟩ hh (by rw [frzL_len]; exact hsz) (fun i hi => h1 i (by rwa [frzL_len] at hi)) (fun i y hy => ?_) (fun _ _ h => h.elim) (fun _ _ _ h => h.elim)
       rw [frzL_at] at hy
       obtain ⟨x, hx, rfl⟩ := oM_ hy
       exact .pure _ _ _ (((hr i x hx).frz fun q hq => hM q ⟨i, hq⟩).mono (frzM_sub hM fun q hq => ⟨i, hq⟩)))⟩
     ·generalize t / 1000000 % 1000 = j
      generalize t / 1000000000 = k
      refine same _ ?_
      refine .obj _ b cs ty fz hz _ Fi hb hh (by rw [List.length_set]; exact hsz) (fun i hi => h1 i (by rwa [List.length_set] at hi)) (fun i y hy => ?_) sub dis
      rw [List.getElem?_set] at hy
      split at hy
      ·rename_i e
       subst e
       split at hy
       ·rename_i hlt
        obtain rfl := oJ_ hy
        refine openC_rel k (hr j _ ?_)
        rw [List.getD, gE_ hlt]; rfl
       ·cases hy
      ·exact hr i y hy
   ·exact same _ (hS.own s _ hl)
  ·exact ⟨g, hS⟩
 ·exact ⟨g, hS⟩
theorem sealAt_nx {t : Nat} : (sealAt t st).nx = st.nx := by
 unfold sealAt
 split <;> first | rfl | (split <;> rfl)
theorem softAt_nx {t : Nat} : (softAt t st).nx = st.nx := by
 unfold softAt
 split
 ·split <;> rfl
 ·rfl
theorem kill_fresh {s0 n s : Nat} (h : Fresh st s) : Fresh (st.kill s0 n) s := ⟨fun t => killC_site (h.1 t), h.2⟩
theorem setV_fresh {t s : Nat} {v : V} (h : Fresh st s) : Fresh { st with φ := upd st.φ t (.v v) } s := by
 refine ⟨fun t' => ?_, h.2⟩
 simp only [upd]
 split
 ·simp [C.site]
 ·exact h.1 t'
theorem sealAt_ff {t : Nat} (h : FreshFrom st) : FreshFrom (sealAt t st) := by
 intro s hs
 rw [sealAt_nx] at hs
 have hf := h s hs
 unfold sealAt
 split
 ·split
  ·refine setV_fresh (st := { st with bx := upd st.bx _ none }) ⟨hf.1, ?_, hf.2.2⟩
   simp only [upd]
   split
   ·rfl
   ·exact hf.2.1
  ·exact hf
 ·split
  ·exact setV_fresh (hf.dropO _)
  ·exact hf
 ·split
  ·exact setV_fresh (hf.dropO _)
  ·exact hf
 ·split
  ·rename_i r hr
   obtain ⟨x, hx, _⟩ := oB_ hr
   have hk := kill_fresh (s0 := (by assumption : Nat)) (n := 0) hf
   refine setV_fresh (st := { st.kill _ 0 with ow := upd st.ow _ (some r.2) }) ⟨fun t' => killC_site (hf.1 t'), hf.2.1, hf.2.2.1, ?_, hf.2.2.2.2⟩
   simp only [upd]
   split
   ·rename_i e; subst e; rw [hf.2.2.2.1] at hx; cases hx
   ·exact hf.2.2.2.1
  ·exact hf
 ·exact hf
theorem softAt_ff {t : Nat} (h : FreshFrom st) : FreshFrom (softAt t st) := by
 intro s hs
 rw [softAt_nx] at hs
 have hf := h s hs
 unfold softAt
 split
 ·split
  ·rename_i hl
   refine ⟨fun t' => killC_site (hf.1 t'), hf.2.1, hf.2.2.1, ?_, hf.2.2.2.2⟩
   simp only [upd]
   split
   ·rename_i e; subst e; rw [hf.2.2.2.1] at hl; cases hl
   ·exact hf.2.2.2.1
  ·exact hf
 ·exact hf
theorem sealAt_fr {t : Nat} : ∀ t', t' ≠ t → KeepC (st.φ t') ((sealAt t st).φ t') := by
 intro t' hne
 unfold sealAt
 split
 ·split
  ·simp only [upd_ne _ _ hne]; exact .inl rfl
  ·exact .inl rfl
 ·split
  ·simp only [upd_ne _ _ hne]; exact dropO_keep st _ t'
  ·exact .inl rfl
 ·split
  ·simp only [upd_ne _ _ hne]; exact dropO_keep st _ t'
  ·exact .inl rfl
 ·split
  ·simp only [upd_ne _ _ hne]; exact killC_keep _ _ _
  ·exact .inl rfl
 ·exact .inl rfl
theorem softAt_fr {t : Nat} : ∀ t', KeepC (st.φ t') ((softAt t st).φ t') := by
 intro t'
 unfold softAt
 split
 ·split
  ·exact killC_keep _ _ _
  ·exact .inl rfl
 ·exact .inl rfl
theorem sealAll_ok : ∀ (ts : List Nat) (st : St) (g : Ghost), Sim P Dw F0 base M0 w0 N g st a w → FreshFrom st → ∃ g', Sim P Dw F0 base M0 w0 N g' (sealAll ts st) a w ∧ FreshFrom (sealAll ts st) ∧ Fr ts st (sealAll ts st)
 | [], st, g, hS, hF => ⟨g, hS, hF, fun _ _ => .inl rfl⟩
 | t :: ts, st, g, hS, hF => by
  obtain ⟨g1, h1⟩ := sealAt_ok (t := t) hS
  obtain ⟨g2, h2, h3, h4⟩ := sealAll_ok ts _ g1 h1 (sealAt_ff hF)
  refine ⟨g2, h2, h3, fun t' ht' => ?_⟩
  simp only [List.mem_cons, not_or] at ht'
  exact (sealAt_fr t' ht'.1).trans (h4 t' ht'.2)
theorem softAll_ok : ∀ (ts : List Nat) (st : St) (g : Ghost), Sim P Dw F0 base M0 w0 N g st a w → FreshFrom st → ∃ g', Sim P Dw F0 base M0 w0 N g' (softAll ts st) a w ∧ FreshFrom (softAll ts st) ∧ Fr [] st (softAll ts st)
 | [], st, g, hS, hF => ⟨g, hS, hF, fun _ _ => .inl rfl⟩
 | t :: ts, st, g, hS, hF => by
  obtain ⟨g1, h1⟩ := softAt_ok (t := t) hS
  obtain ⟨g2, h2, h3, h4⟩ := softAll_ok ts _ g1 h1 (softAt_ff hF)
  exact ⟨g2, h2, h3, fun t' ht' => (softAt_fr t').trans (h4 t' ht')⟩
end
end Go.Proofs.YtgkohnjpnnofhaaGreat.Den
