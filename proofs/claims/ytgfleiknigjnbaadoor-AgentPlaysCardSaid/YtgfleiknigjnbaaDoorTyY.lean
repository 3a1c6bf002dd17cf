/- Functions on plain types: a constructor's pair, a pointer to what is the caller's own (or nil) and an error. -/
import Derived.Test.YtgfleiknigjnbaaDoorTy
import Derived.Test.YtgfleiknigjnbaaDoorDenR
import Derived.Test.YtgfleiknigjnbaaDoorDenDoor
import Derived.Test.YtgfleiknigjnbaaDoorDen14
namespace Go.Proofs.YtgfleiknigjnbaaDoor.Ty
open Go Go.RowKit Go.Proofs.YtgfleiknigjnbaaDoor.Den
set_option linter.unusedSimpArgs false
set_option linter.unusedVariables false
section
variable {α : Type} {c : α → List V} {k : Nat}
theorem p_inB (l : List α) (i : Int) {kk : IntKind} (h : (decide (0 ≤ i) && decide (i < (List.length l : Int))) = true) : ((oslR (.osl k (l.map c))).bind fun rows => inB (List.length rows) (.lit (.int kk i))) = some V.any := by
  simp only [Bool.and_eq_true, decide_eq_true_eq] at h
  show inB (l.map c).length (.lit (.int kk i)) = _
  rw [List.length_map]
  exact d_inB ⟨h.1, by omega⟩
def oset (l : List α) (i : Int) (y : α) : Option (List α) := if 0 ≤ i ∧ i < l.length then some (l.set i.toNat y) else none
theorem p_oset (hc : ∀ a, (c a).length = k) (l : List α) (i : Int) (y : α) {kk : IntKind} : Rv (fun x => V.osl k (x.map c)) (setV (.osl k (l.map c)) [] (Stp.mk (some (natOf (.lit (.int kk i)))) 0 k) k (c y)) (oset l i y) := fun b h => by
  unfold oset at h
  split at h
  · rename_i hi
    simp only [Option.some.injEq] at h
    subst h
    have hlt : i.toNat < l.length := by omega
    simp only [setV, setN, natOf, List.getElem?_map, List.getElem?_eq_getElem hlt, Option.map_some, Option.bind_some, if_true, spliceO]
    rw [if_pos ⟨hc y, by rw [hc]; omega⟩]
    have e : List.drop k (c l[i.toNat]) = [] := List.drop_eq_nil_of_le (by rw [hc]; exact Nat.le_refl _)
    simp [List.map_set, hc, e]
  · cases h
theorem p_oload {e1 : α → V} {kd : Option Nat} {off : Nat} (hc : ∀ a, (c a).length = k) (l : List α) (i : Int) {kk : IntKind} (h : ∀ a, (ldk kd ((c a).drop off)).bind pureO = some (e1 a)) : Rv e1 ((nodeL (.osl k (l.map c)) (some (natOf (.lit (.int kk i)))) k).bind fun l => (ldk kd (List.drop off l)).bind pureO) (idx l i) := fun b hb => by
  unfold idx at hb
  split at hb
  · simp only [nodeL, natOf, List.getElem?_map, hb, Option.map_some, Option.bind_some, if_true]
    exact h b
  · cases hb
def omake (n m : Int) (z : α) : Option (List α) := if n = m ∧ 0 ≤ n ∧ n ≤ 4294967296 then some (List.replicate n.toNat z) else none
end
section
variable {α β γ δ : Type} {c : α → List V} {k j : Nat} {e : β → Option V} {Y : Option β}
theorem p_fz0 : frzL [] = [] := rfl
theorem p_fzc {x y : V} {r r' : List V} (h : frz x = y) (hr : frzL r = r') : frzL (x :: r) = y :: r' := by rw [← h, ← hr]; rfl
theorem p_frzl {c' : α → List V} (h : ∀ a, frzL (c a) = c' a) (l : List α) : frz (.osl k (l.map c)) = V.sl (l.map c') := by
  have : frzR (l.map c) = l.map c' := by
    induction l with
    | nil => rfl
    | cons x l ih => simp only [List.map_cons, frzR, h, ih]
  simp only [frz, this]
theorem p_frzS {c' : α → List V} (h : ∀ a, frzL (c a) = c' a) (l : List α) : some (frz (.osl k (l.map c))) = some (V.sl (l.map c')) := congrArg some (p_frzl h l)
def oapp (l m : List α) : Option (List α) := if 0 < m.length ∧ l.length + m.length ≤ 4294967296 then some (l ++ m) else none
theorem p_oappY {y : V} (hc : ∀ a, (c a).length = k) (l m : List α) (hy : rowsY y = some (m.map c)) : Rv (fun x => V.osl k (x.map c)) (appS k (.osl k (l.map c)) y) (oapp l m) := fun b h => by
  unfold oapp at h
  split at h
  · rename_i hi
    simp only [Option.some.injEq] at h
    subst h
    simp only [appS, hy, Option.bind_some, List.length_map]
    rw [if_pos ⟨trivial, hi.1, all_len hc m, hi.2⟩, List.map_append]
  · cases h
theorem p_oapp (hc : ∀ a, (c a).length = k) (l m : List α) : Rv (fun x => V.osl k (x.map c)) (appS k (.osl k (l.map c)) (.sl (m.map c))) (oapp l m) := p_oappY hc l m rfl
theorem p_asc {A : Option γ} {f : γ → Option δ} {g : δ → Option V} (h : Rf e (A.bind fun y => (f y).bind g) Y) : Rf e ((A.bind f).bind g) Y := by rw [Option.bind_assoc]; exact h
theorem p_cas {A : Option γ} {f : γ → Option δ} {g : δ → Option V} (h : Rf e ((A.bind f).bind g) Y) : Rf e (A.bind fun y => (f y).bind g) Y := by rw [Option.bind_assoc] at h; exact h
theorem p_in0 {x : V} {G : V → Option V} (h : Rf e (G x) Y) : Rf e ((getV x []).bind G) Y := h
theorem p_inF {l : List V} {k2 : Nat} {p : List Stp} {y : V} {G : V → Option V} (hj : l[j]? = some y) (h : Rf e ((getV y p).bind G) Y) : Rf e ((getV (.obj l) (⟨none, j, k2⟩ :: p)).bind G) Y := by
  simp only [getV, stepX, hj, Option.bind_some]; exact h
/-- a slice out of whose element i the cell j has been taken -/
def holeL (c : α → List V) (k j : Nat) (l : List α) (i : Int) : V := .osl k ((l.map c).set i.toNat (((l.map c).getD i.toNat []).set j .any))
theorem p_setF {e1 : α → V} {lo : List V} {jo ko : Nat} {p : List Stp} {q : Stp} {k2 : Nat} {cs : List V} {y : V} {t : Option α} (hj : lo[jo]? = some y) (h : Rv e1 (setV y p q k2 cs) t) : Rv (fun a => V.obj (lo.set jo (e1 a))) (setV (.obj lo) (⟨none, jo, ko⟩ :: p) q k2 cs) t := fun b hb => by
  simp only [setV, stepX, hj, Option.bind_some, h b hb, Option.map_some, putX]
/-- the element i, changed -/
def oupd (l : List α) (i : Int) (f : α → α) : Option (List α) := (idx l i).map fun a => l.set i.toNat (f a)
end
section
variable {K α : Type} [DecidableEq K] {P : Program} {kt : TypeId} {kv : K → Value} {vv : α → Value}
/-- where a key lies -/
def mfind : List (K × α) → K → Nat → Option (Nat × α)
  | [], _, _ => none
  | (b, v) :: r, a, i => if a = b then some (i, v) else mfind r a (i + 1)
def mget (l : List (K × α)) (a : K) (d : α) : α := match mfind l a 0 with
  | some p => p.2
  | none => d
def mhas (l : List (K × α)) (a : K) : Bool := (mfind l a 0).isSome
def mput (l : List (K × α)) (a : K) (v : α) : List (K × α) := match mfind l a 0 with
  | some p => l.set p.1 (a, v)
  | none => l ++ [(a, v)]
def mrep (kv : K → Value) (vv : α → Value) (l : List (K × α)) : List (Value × Value) := l.map fun p => (kv p.1, vv p.2)
/-- the keys of a type -/
structure MKey (P : Program) (kt : TypeId) (kv : K → Value) : Prop where
  chk : ∀ (e : Bool) (a : K) (w : World), (Instr.checkKey e 10000 kt (kv a)).run P w = .ok () w
  find : ∀ {α : Type} (vv : α → Value) (l : List (K × α)) (a : K) (w : World), (Instr.findKey kt (kv a) (mkEs (mrep kv vv l))).run P w = .ok ((mfind l a 0).map fun p => (p.1, vv p.2)) w
  sb : ∀ a : K, Instr.sameBits 10000 (kv a) (kv a) = true
theorem mfind_some : ∀ {l : List (K × α)} {a : K} {i j : Nat} {v : α}, mfind l a i = some (j, v) → ∃ n, j = i + n ∧ l[n]? = some (a, v)
  | [], _, _, _, _, h => by simp [mfind] at h
  | (b, u) :: r, a, i, j, v, h => by
    simp only [mfind] at h
    split at h
    · rename_i e
      simp only [Option.some.injEq, Prod.mk.injEq] at h
      obtain ⟨rfl, rfl⟩ := h
      subst e
      exact ⟨0, rfl, rfl⟩
    · obtain ⟨n, h1, h2⟩ := mfind_some h
      exact ⟨n + 1, by omega, by simpa using h2⟩
/-- keys that are told at once -/
theorem find_now {d : TypeDesc} (hd : P.underlying kt = some d) (hs : ∀ a b : K, Instr.sameNow d (kv a) (kv b) = some (decide (a = b))) (vv : α → Value) (l : List (K × α)) (a : K) (w : World) :
    (Instr.findKey kt (kv a) (mkEs (mrep kv vv l))).run P w = .ok ((mfind l a 0).map fun p => (p.1, vv p.2)) w := by
  have key : ∀ (l : List (K × α)) (i : Nat), Instr.findNow d (kv a) (mkEs (mrep kv vv l)) i = some ((mfind l a i).map fun p => (p.1, vv p.2)) := by
    intro l
    induction l with
    | nil => intro i; rfl
    | cons x l ih =>
      intro i
      obtain ⟨b, v⟩ := x
      show (match Instr.sameNow d (kv a) (kv b) with
        | some true => some (some (i, vv v))
        | some false => Instr.findNow d (kv a) (mkEs (mrep kv vv l)) (i + 1)
        | none => none) = _
      rw [hs]
      by_cases e : a = b
      · simp [mfind, e]
      · simp [mfind, e, ih]
  unfold Instr.findKey
  simp only [Sem.run_bind, run_underlying hd, Result.andThen_ok, key]
  rfl
theorem mkey_int {q : IntKind} (hd : P.underlying kt = some (.int q)) : MKey P kt (fun n : Int => .int q n) where
  chk e a w := MapKept.run_checkKey hd (by simp [MapKept.IsKey]) e 9999
  find vv l a w := find_now hd (fun a b => by simp only [Instr.sameNow, if_true, Option.some.injEq]; rw [Bool.eq_iff_iff]; simp) vv l a w
  sb a := by simp [Instr.sameBits]
/-- m[k] -/
theorem p_look {t et : TypeId} {e1 : α → V} {Kx : V} (hk : MKey P kt kv) (ht : P.underlying t = some (.map kt et)) (d : α) (hz : ∀ w, (zeroValue et).run P w = .ok (vv d) w) (he : ∀ x, lookR (vv x) = some (e1 x)) (a : K) (hx : Kx.val? = some (kv a)) (l : List (K × α)) :
    lookV P t false (.mp (mrep kv vv l)) Kx = some (e1 (mget l a d)) := by
  unfold lookV
  simp only [hx, Option.bind_some]
  have : mpGet P t (mrep kv vv l) (kv a) false = some (vv (mget l a d)) := by
    refine pure?_of fun w => ?_
    unfold lookS
    simp only [Sem.run_bind, run_underlying ht, Result.andThen_ok, hk.chk, hk.find]
    unfold mget
    cases mfind l a 0 with
    | none => simp [hz]
    | some p => simp
  rw [this, Option.bind_some, he]
/-- v, ok := m[k] -/
theorem p_look_ok {t et : TypeId} {e1 : α → V} {Kx : V} (hk : MKey P kt kv) (ht : P.underlying t = some (.map kt et)) (d : α) (hz : ∀ w, (zeroValue et).run P w = .ok (vv d) w) (he : ∀ x, ofVal (vv x) = some (e1 x)) (a : K) (hx : Kx.val? = some (kv a)) (l : List (K × α)) :
    lookV P t true (.mp (mrep kv vv l)) Kx = some (.tup [e1 (mget l a d), vb (mhas l a)]) := by
  unfold lookV
  simp only [hx, Option.bind_some]
  have : mpGet P t (mrep kv vv l) (kv a) true = some (.tuple #[vv (mget l a d), .bool (mhas l a)]) := by
    refine pure?_of fun w => ?_
    unfold lookS
    simp only [Sem.run_bind, run_underlying ht, Result.andThen_ok, hk.chk, hk.find]
    unfold mget mhas
    cases mfind l a 0 with
    | none => simp [hz]
    | some p => simp
  rw [this, Option.bind_some]
  have hb : ofVal (.bool (mhas l a)) = some (vb (mhas l a)) := rfl
  show (tupL [vv (mget l a d), .bool (mhas l a)]).map V.tup = _
  simp only [tupL, he, hb, Option.bind_some, Option.map_some]
theorem p_put {t et : TypeId} {Kx Vx : V} (hk : MKey P kt kv) (ht : P.underlying t = some (.map kt et)) (a : K) (v : α) (hx : Kx.val? = some (kv a)) (hv : Vx.val? = some (vv v)) (l : List (K × α)) :
    putV P t (.mp (mrep kv vv l)) Kx Vx = some (.mp (mrep kv vv (mput l a v))) := by
  have hf : mpFind P t (mrep kv vv l) (kv a) = some ((mfind l a 0).map fun p => (p.1, vv p.2)) := by
    unfold mpFind
    simp only [ht]
    rw [pure?_of (hk.chk false a), Option.bind_some, pure?_of (hk.find vv l a)]
  unfold putV
  simp only [hx, hv, Option.bind_some]
  have : mpPut P t (mrep kv vv l) (kv a) (vv v) = some (mrep kv vv (mput l a v)) := by
    unfold mpPut mput
    rw [hf, Option.bind_some]
    cases hm : mfind l a 0 with
    | none => simp [mrep]
    | some p =>
      obtain ⟨i, u⟩ := p
      obtain ⟨n, h1, h2⟩ := mfind_some hm
      rw [Nat.zero_add] at h1
      subst h1
      have : (mrep kv vv l)[i]? = some (kv a, vv u) := by simp [mrep, h2]
      simp only [Option.map_some, this, Option.getD_some, hk.sb, if_true]
      simp [mrep, List.map_set]
  rw [this]; rfl
end
/-- slices.Clone -/
def cln {α : Type} (l : List α) : Option (List α) := if l.length ≤ 4294967296 then some l else none
theorem p_clone {α : Type} {c : α → List V} {k : Nat} (hc : ∀ x, (c x).length = k) (l : List α) : Rv (fun l : List α => V.sl (List.map c l)) (semClone k [V.sl (List.map c l)]) (cln l) := by
  intro y hy
  unfold cln at hy
  split at hy
  · rename_i h
    obtain rfl := Option.some.inj hy
    simp [semClone, hc, h]
  · cases hy
def t_railsame_Error (e y : Int) : Option Bool := some (decide (e = y))
theorem ty_railsame_Error {n : Nat} (e y : Int) : Rv (fun x : Bool => vb x) (sem_Error n [eV e, vi y]) (t_railsame_Error e y) := rf_eq (s_Error n e y) rfl
section
variable {α β : Type} {f : α → List V} {e : β → Option V}
/-- nil, or an object -/
def pO (f : α → List V) : Option α → V
  | none => .lit (.pointer none)
  | some x => .obj (f x)
/-- what is done with what may be missing -/
def caseO (o : Option α) (f : α → Option β) (g : Option β) : Option β := match o with
  | some d => f d
  | none => g
theorem tpartK {o : Option α} {y : V} {Ko : List V → List V → Option V} {Kp : V → Option V} {Y1 : α → Option β} {Y2 : Option β} (h1 : ∀ d, Rf e (Ko [V.any, y] (f d)) (Y1 d)) (h2 : Rf e (Kp (.lit (.pointer none))) Y2) :
    Rf e (partK (V.tup [pO f o, y]) 0 Ko Kp) (caseO o Y1 Y2) := by
  cases o with
  | some d => exact h1 d
  | none => exact h2
theorem tpartP0 {x : V} {n : Int} {K : V → Option V} {Y : Option β} (h : Rf e (K (eV n)) Y) : Rf e (partP (V.tup [x, eV n]) 1 K) Y := h
theorem tobjK {l : List V} {K : List V → Option V} {Y : Option β} (h : Rf e (K l) Y) : Rf e (objK (V.obj l) K) Y := h
theorem p_frzQ {l l' : List V} (h : frzL l = l') : some (frzQ (.obj l)) = some (V.ptr l') := by rw [← h]; rfl
theorem p_frzN {l l' : List V} (h : frzL l = l') : some (frz (.obj l)) = some (V.ptr l') := by rw [← h]; rfl
theorem p_gate1 {c w : Bool} {y z : V} (hc : c = w) (h : some y = some z) : some (gateA [(vb c, w)] y) = some z := by
  subst hc; rw [← h]; cases c <;> rfl
theorem rf_litQ {e : β → V} {X : Option V} {Y : Option β} (h : Rv e X Y) (hl : ∀ b, litQ (e b) = some (e b)) : Rv e (X.bind litQ) Y := fun b hb => by
  rw [h b hb]; exact hl b
theorem flat_all {c : α → List V} (h : ∀ a, ((c a).all fun x => x.val?.isSome) = true) (l : List α) : ((l.map c).all fun r => r.all fun x => x.val?.isSome) = true := by
  simp only [List.all_map, List.all_eq_true]
  intro a _
  simpa using h a
theorem p_flatQ {c : α → List V} (h : ∀ a, ((c a).all fun x => x.val?.isSome) = true) (l : List α) : flatQ (V.sl (l.map c)) = some (V.sl (l.map c)) := by
  show (if ((l.map c).all fun r => r.all fun x => x.val?.isSome) = true then some (V.sl (l.map c)) else none) = _
  rw [if_pos (flat_all h l)]
end
end Go.Proofs.YtgfleiknigjnbaaDoor.Ty
