/- Plain types: slices of int that are cut in place, handed back as the caller's own. -/
import Derived.Test.YtgkohnjpnnofhaaGreatTy
import Derived.Test.YtgkohnjpnnofhaaGreatDenR
import Derived.Test.YtgkohnjpnnofhaaGreatDen14
import Derived.Test.YtgkohnjpnnofhaaGreatDenS
import Derived.Test.YtgkohnjpnnofhaaGreatDenS2
namespace Go.Proofs.YtgkohnjpnnofhaaGreat.Ty
set_option linter.unusedSimpArgs false
set_option linter.unusedVariables false
open Go Go.RowKit Go.Proofs.YtgkohnjpnnofhaaGreat.Den
section
variable {α : Type} {c : α → List V} {k : Nat}
theorem p_olen (l : List α) : ((oslR (.osl k (l.map c))).map fun rows => V.lit (Go.Value.int Go.IntKind.i64 (List.length rows))) = some (vi (l.length : Int)) := by simp [oslR]
theorem p_inB (l : List α) (i : Int) {kk : IntKind} (h : (decide (0 ≤ i) && decide (i < (List.length l : Int))) = true) : ((oslR (.osl k (l.map c))).bind fun rows => inB (List.length rows) (.lit (.int kk i))) = some V.any := by
 simp only [Bool.and_eq_true, decide_eq_true_eq] at h
 show inB (l.map c).length (.lit (.int kk i)) = _
 rw [List.length_map]
 exact d_inB ⟨h.1, by omega⟩
def oset (l : List α) (i : Int) (y : α) : Option (List α) := if 0 ≤ i ∧ i < l.length then some (l.set i.toNat y) else none
theorem p_oset (hc : ∀ a, (c a).length = k) (l : List α) (i : Int) (y : α) {kk : IntKind} : Rv (fun x => V.osl k (x.map c)) (setV (.osl k (l.map c)) [] (Stp.mk (some (natOf (.lit (.int kk i)))) 0 k) k (c y)) (oset l i y) := fun b h => by
 unfold oset at h
 split at h
 ·rename_i hi
  simp only [oE_] at h
  subst h
  have hlt : i.toNat < l.length := by omega
  simp only [setV, setN, natOf, List.getElem?_map, gE_ hlt, Option.map_some, oS_, if_true, spliceO]
  rw [if_pos ⟨hc y, by rw [hc]; omega⟩]
  have e : List.drop k (c l[i.toNat]) = [] := List.drop_eq_nil_of_le (by rw [hc]; exact Nat.le_refl _)
  simp [List.map_set, hc, e]
 ·cases h
theorem p_oload {e1 : α → V} {kd : Option Nat} {off : Nat} (hc : ∀ a, (c a).length = k) (l : List α) (i : Int) {kk : IntKind} (h : ∀ a, (ldk kd ((c a).drop off)).bind pureO = some (e1 a)) : Rv e1 ((nodeL (.osl k (l.map c)) (some (natOf (.lit (.int kk i)))) k).bind fun l => (ldk kd (List.drop off l)).bind pureO) (idx l i) := fun b hb => by
 unfold idx at hb
 split at hb
 ·simp only [nodeL, natOf, List.getElem?_map, hb, Option.map_some, oS_, if_true]
  exact h b
 ·cases hb
def omake (n m : Int) (z : α) : Option (List α) := if n = m ∧ 0 ≤ n ∧ n ≤ 4294967296 then some (List.replicate n.toNat z) else none
theorem p_omake {z' : List V} (n m : Int) (z : α) {k1 k2 : IntKind} (hz : z' = c z) : Rv (fun x => V.osl k (x.map c)) (makeN k z' (.lit (.int k1 n)) (.lit (.int k2 m))) (omake n m z) := fun b h => by
 unfold omake at h
 split at h
 ·rename_i hi
  simp only [oE_] at h
  subst h
  subst hz
  simp only [makeN, if_pos hi, List.map_replicate]
 ·cases h
end
section
variable {α β γ δ : Type} {c : α → List V} {k j : Nat} {e : β → Option V} {Y : Option β}
def slc_hd (l : List α) (i j : Int) : Option (List α) := if i = j ∧ 0 ≤ i ∧ i ≤ l.length then some (l.take i.toNat) else none
theorem p_fz0 : frzL [] = [] := rfl
theorem p_fzc {x y : V} {r r' : List V} (h : frz x = y) (hr : frzL r = r') : frzL (x :: r) = y :: r' := by rw [← h, ← hr]; rfl
theorem p_frzl {c' : α → List V} (h : ∀ a, frzL (c a) = c' a) (l : List α) : frz (.osl k (l.map c)) = V.sl (l.map c') := by
 have : frzR (l.map c) = l.map c' := by
  induction l with
  | nil => rfl
  | cons x l ih => simp only [List.map_cons, frzR, h, ih]
 simp only [frz, this]
theorem p_frzS {c' : α → List V} (h : ∀ a, frzL (c a) = c' a) (l : List α) : some (frz (.osl k (l.map c))) = some (V.sl (l.map c')) := congrArg some (p_frzl h l)
theorem p_frzP {l l' : List V} (h : frzL l = l') : some (frzP (.obj l)) = some (V.ptr l') := by rw [← h]; rfl
def oapp (l m : List α) : Option (List α) := if 0 < m.length ∧ l.length + m.length ≤ 4294967296 then some (l ++ m) else if m.length = 0 ∧ l.length ≤ 4294967296 then some l else none
theorem oapp_any {l m : List α} (h : l.length + m.length ≤ 4294967296) : oapp l m = some (l ++ m) := by
 unfold oapp
 by_cases h0 : 0 < m.length
 ·rw [if_pos ⟨h0, h⟩]
 ·have : m = [] := List.eq_nil_of_length_eq_zero (by omega)
  subst this
  rw [if_neg (fun h => h0 h.1), if_pos ⟨rfl, by simpa using h⟩, List.append_nil]
theorem p_oappY {y : V} (hc : ∀ a, (c a).length = k) (l m : List α) (hy : rowsY y = some (m.map c)) : Rv (fun x => V.osl k (x.map c)) (appS k (.osl k (l.map c)) y) (oapp l m) := fun b h => by
 have hb : l.length + m.length ≤ 4294967296 := by
  unfold oapp at h
  split at h
  ·rename_i h1; exact h1.2
  ·split at h
   ·rename_i h1; omega
   ·cases h
 rw [oapp_any hb] at h
 obtain rfl := oJ_ h
 simp only [appS, hy, oS_, List.length_map]
 rw [if_pos ⟨trivial, all_len hc m, hb⟩, List.map_append]
theorem p_oapp (hc : ∀ a, (c a).length = k) (l m : List α) : Rv (fun x => V.osl k (x.map c)) (appS k (.osl k (l.map c)) (.sl (m.map c))) (oapp l m) := p_oappY hc l m rfl
theorem p_oappO {k2 : Nat} (hc : ∀ a, (c a).length = k) (l m : List α) : Rv (fun x => V.osl k (x.map c)) (appS k (.osl k (l.map c)) (.osl k2 (m.map c))) (oapp l m) := p_oappY hc l m rfl
theorem p_asc {A : Option γ} {f : γ → Option δ} {g : δ → Option V} (h : Rf e (A.bind fun y => (f y).bind g) Y) : Rf e ((A.bind f).bind g) Y := by rw [Option.bind_assoc]; exact h
theorem p_cas {A : Option γ} {f : γ → Option δ} {g : δ → Option V} (h : Rf e ((A.bind f).bind g) Y) : Rf e (A.bind fun y => (f y).bind g) Y := by rw [Option.bind_assoc] at h; exact h
theorem p_in0 {x : V} {G : V → Option V} (h : Rf e (G x) Y) : Rf e ((getV x []).bind G) Y := h
theorem p_inF {l : List V} {k2 : Nat} {p : List Stp} {y : V} {G : V → Option V} (hj : l[j]? = some y) (h : Rf e ((getV y p).bind G) Y) : Rf e ((getV (.obj l) (⟨none, j, k2⟩ :: p)).bind G) Y := by
 simp only [getV, stepX, hj, oS_]; exact h
def holeL (c : α → List V) (k j : Nat) (l : List α) (i : Int) : V := .osl k ((l.map c).set i.toNat (((l.map c).getD i.toNat []).set j .any))
theorem p_setF {e1 : α → V} {lo : List V} {jo ko : Nat} {p : List Stp} {q : Stp} {k2 : Nat} {cs : List V} {y : V} {t : Option α} (hj : lo[jo]? = some y) (h : Rv e1 (setV y p q k2 cs) t) : Rv (fun a => V.obj (lo.set jo (e1 a))) (setV (.obj lo) (⟨none, jo, ko⟩ :: p) q k2 cs) t := fun b hb => by
 simp only [setV, stepX, hj, oS_, h b hb, Option.map_some, putX]
def oupd (l : List α) (i : Int) (f : α → α) : Option (List α) := (idx l i).map fun a => l.set i.toNat (f a)
end
section
variable {K α : Type} [DecidableEq K] {P : Program} {kt : TypeId} {kv : K → Value} {vv : α → Value}
def mfind : List (K × α) → K → Nat → Option (Nat × α)
 | [], _, _ => none
 | (b, v) :: r, a, i => if a = b then some (i, v) else mfind r a (i + 1)
def mget (l : List (K × α)) (a : K) (d : α) : α := match mfind l a 0 with
 | some p => p.2
 | none => d
def mhas (l : List (K × α)) (a : K) : Bool := (mfind l a 0).isSome
def mput (l : List (K × α)) (a : K) (v : α) : List (K × α) := match mfind l a 0 with
 | some p => l.set p.1 (a, v)
 | none => l ++ [(a, v)]
def mrep (kv : K → Value) (vv : α → Value) (l : List (K × α)) : List (Value × Value) := l.map fun p => (kv p.1, vv p.2)
structure MKey (P : Program) (kt : TypeId) (kv : K → Value) : Prop where
 chk : ∀ (e : Bool) (a : K) (w : World), (Instr.checkKey e 10000 kt (kv a)).run P w = .ok () w
 find : ∀ {α : Type} (vv : α → Value) (l : List (K × α)) (a : K) (w : World), (Instr.findKey kt (kv a) (mkEs (mrep kv vv l))).run P w = .ok ((mfind l a 0).map fun p => (p.1, vv p.2)) w
 sb : ∀ a : K, Instr.sameBits 10000 (kv a) (kv a) = true
theorem mfind_some : ∀ {l : List (K × α)} {a : K} {i j : Nat} {v : α}, mfind l a i = some (j, v) → ∃ n, j = i + n ∧ l[n]? = some (a, v)
 | [], _, _, _, _, h => by simp [mfind] at h
 | (b, u) :: r, a, i, j, v, h => by
  simp only [mfind] at h
  split at h
  ·rename_i e
   simp only [oE_, Prod.mk.injEq] at h
   obtain ⟨rfl, rfl⟩ := h
   subst e
   exact ⟨0, rfl, rfl⟩
  ·obtain ⟨n, h1, h2⟩ := mfind_some h
   exact ⟨n + 1, by omega, by simpa using h2⟩
theorem find_now {d : TypeDesc} (hd : P.underlying kt = some d) (hs : ∀ a b : K, Instr.sameNow d (kv a) (kv b) = some (decide (a = b))) (vv : α → Value) (l : List (K × α)) (a : K) (w : World) :
  (Instr.findKey kt (kv a) (mkEs (mrep kv vv l))).run P w = .ok ((mfind l a 0).map fun p => (p.1, vv p.2)) w := by
 have key : ∀ (l : List (K × α)) (i : Nat), Instr.findNow d (kv a) (mkEs (mrep kv vv l)) i = some ((mfind l a i).map fun p => (p.1, vv p.2)) := by
  intro l
  induction l with
  | nil => intro i; rfl
  | cons x l ih =>
   intro i
   obtain ⟨b, v⟩ := x
   show (match Instr.sameNow d (kv a) (kv b) with
    | some true => some (some (i, vv v))
    | some false => Instr.findNow d (kv a) (mkEs (mrep kv vv l)) (i + 1)
    | none => none) = _
   rw [hs]
   by_cases e : a = b
   ·simp [mfind, e]
   ·simp [mfind, e, ih]
 unfold Instr.findKey
 simp only [Sem.run_bind, run_underlying hd, Result.andThen_ok, key]
 rfl
theorem find_ask {d : TypeDesc} (hd : P.underlying kt = some d) (hn : ∀ a b : K, Instr.sameNow d (kv a) (kv b) = none) (he : ∀ (a b : K) (w : World), (Op.equal kt (kv a) (kv b)).run P w = .ok (decide (a = b)) w) (vv : α → Value) (l : List (K × α)) (a : K) (w : World) :
  (Instr.findKey kt (kv a) (mkEs (mrep kv vv l))).run P w = .ok ((mfind l a 0).map fun p => (p.1, vv p.2)) w := by
 have key : ∀ (l : List (K × α)) (i : Nat), (Instr.findAsking kt (kv a) (mkEs (mrep kv vv l)) i).run P w = .ok ((mfind l a i).map fun p => (p.1, vv p.2)) w := by
  intro l
  induction l with
  | nil => intro i; rfl
  | cons x l ih =>
   intro i
   obtain ⟨b, v⟩ := x
   show (do if ← Op.equal kt (kv a) (kv b) then pure (some (i, vv v)) else Instr.findAsking kt (kv a) (mkEs (mrep kv vv l)) (i + 1) : Sem _).run P w = _
   simp only [Sem.run_bind, he, Result.andThen_ok]
   by_cases e : a = b
   ·simp [mfind, e]
   ·simp [mfind, e, ih]
 unfold Instr.findKey
 simp only [Sem.run_bind, run_underlying hd, Result.andThen_ok]
 cases l with
 | nil => rfl
 | cons x l =>
  obtain ⟨b, v⟩ := x
  have : Instr.findNow d (kv a) (mkEs (mrep kv vv ((b, v) :: l))) 0 = none := by
   show (match Instr.sameNow d (kv a) (kv b) with
    | some true => some (some (0, vv v))
    | some false => Instr.findNow d (kv a) (mkEs (mrep kv vv l)) 1
    | none => none) = _
   rw [hn]
  rw [this]
  exact key ((b, v) :: l) 0
theorem equal_of {t : TypeId} {xs ys : Array Value} {b : Bool} {w : World} (h : (binOp .eql t (.agg xs) (.agg ys)).run P w = .ok (.bool b) w) : (Op.equal t (.agg xs) (.agg ys)).run P w = .ok b w := by
 rw [run_eql_struct] at h
 show (Op.equalIn 10000 t (.agg xs) (.agg ys)).run P w = _
 cases he : (Op.equalIn 10000 t (.agg xs) (.agg ys)).run P w with
 | ok c w' =>
  rw [he] at h
  simp only [Result.andThen_ok, Result.ok.injEq, Value.bool.injEq] at h
  obtain ⟨rfl, rfl⟩ := h
  rfl
 | _ => rw [he] at h; cases h
theorem mkey_str (hd : P.underlying kt = some .string) : MKey P kt (fun s : ByteArray => .string s) where
 chk e a w := MapKept.run_checkKey hd (by simp [MapKept.IsKey]) e 9999
 find vv l a w := find_now hd (fun a b => by simp only [Instr.sameNow, oE_]; rw [Bool.eq_iff_iff]; simp [MapKept.bytes_beq]) vv l a w
 sb a := by simp [Instr.sameBits, MapKept.bytes_beq]
theorem mkey_int {q : IntKind} (hd : P.underlying kt = some (.int q)) : MKey P kt (fun n : Int => .int q n) where
 chk e a w := MapKept.run_checkKey hd (by simp [MapKept.IsKey]) e 9999
 find vv l a w := find_now hd (fun a b => by simp only [Instr.sameNow, if_true, oE_]; rw [Bool.eq_iff_iff]; simp) vv l a w
 sb a := by simp [Instr.sameBits]
theorem p_look {t et : TypeId} {e1 : α → V} {Kx : V} (hk : MKey P kt kv) (ht : P.underlying t = some (.map kt et)) (d : α) (hz : ∀ w, (zeroValue et).run P w = .ok (vv d) w) (he : ∀ x, lookR (vv x) = some (e1 x)) (a : K) (hx : Kx.val? = some (kv a)) (l : List (K × α)) :
  lookV P t false (.mp (mrep kv vv l)) Kx = some (e1 (mget l a d)) := by
 unfold lookV
 simp only [hx, oS_]
 have : mpGet P t (mrep kv vv l) (kv a) false = some (vv (mget l a d)) := by
  refine pure?_of fun w => ?_
  unfold lookS
  simp only [Sem.run_bind, run_underlying ht, Result.andThen_ok, hk.chk, hk.find]
  unfold mget
  cases mfind l a 0 with
  | none => simp [hz]
  | some p => simp
 rw [this, oS_, he]
theorem p_look_ok {t et : TypeId} {e1 : α → V} {Kx : V} (hk : MKey P kt kv) (ht : P.underlying t = some (.map kt et)) (d : α) (hz : ∀ w, (zeroValue et).run P w = .ok (vv d) w) (he : ∀ x, ofVal (vv x) = some (e1 x)) (a : K) (hx : Kx.val? = some (kv a)) (l : List (K × α)) :
  lookV P t true (.mp (mrep kv vv l)) Kx = some (.tup [e1 (mget l a d), vb (mhas l a)]) := by
 unfold lookV
 simp only [hx, oS_]
 have : mpGet P t (mrep kv vv l) (kv a) true = some (.tuple #[vv (mget l a d), .bool (mhas l a)]) := by
  refine pure?_of fun w => ?_
  unfold lookS
  simp only [Sem.run_bind, run_underlying ht, Result.andThen_ok, hk.chk, hk.find]
  unfold mget mhas
  cases mfind l a 0 with
  | none => simp [hz]
  | some p => simp
 rw [this, oS_]
 have hb : ofVal (.bool (mhas l a)) = some (vb (mhas l a)) := rfl
 show (tupL [vv (mget l a d), .bool (mhas l a)]).map V.tup = _
 simp only [tupL, he, hb, oS_, Option.map_some]
theorem p_put {t et : TypeId} {Kx Vx : V} (hk : MKey P kt kv) (ht : P.underlying t = some (.map kt et)) (a : K) (v : α) (hx : Kx.val? = some (kv a)) (hv : Vx.val? = some (vv v)) (l : List (K × α)) :
  putV P t (.mp (mrep kv vv l)) Kx Vx = some (.mp (mrep kv vv (mput l a v))) := by
 have hf : mpFind P t (mrep kv vv l) (kv a) = some ((mfind l a 0).map fun p => (p.1, vv p.2)) := by
  unfold mpFind
  simp only [ht]
  rw [pure?_of (hk.chk false a), oS_, pure?_of (hk.find vv l a)]
 unfold putV
 simp only [hx, hv, oS_]
 have : mpPut P t (mrep kv vv l) (kv a) (vv v) = some (mrep kv vv (mput l a v)) := by
  unfold mpPut mput
  rw [hf, oS_]
  cases hm : mfind l a 0 with
  | none => simp [mrep]
  | some p =>
   obtain ⟨i, u⟩ := p
   obtain ⟨n, h1, h2⟩ := mfind_some hm
   rw [Nat.zero_add] at h1
   subst h1
   have : (mrep kv vv l)[i]? = some (kv a, vv u) := by simp [mrep, h2]
   simp only [Option.map_some, this, Option.getD_some, hk.sb, if_true]
   simp [mrep, List.map_set]
 rw [this]; rfl
end
def cln {α : Type} (l : List α) : Option (List α) := if l.length ≤ 4294967296 then some l else none
theorem p_clone {α : Type} {c : α → List V} {k : Nat} (hc : ∀ x, (c x).length = k) (l : List α) : Rv (fun l : List α => V.sl (List.map c l)) (semClone k [V.sl (List.map c l)]) (cln l) := by
 intro y hy
 unfold cln at hy
 split at hy
 ·rename_i h
  obtain rfl := oJ_ hy
  simp [semClone, hc, h]
 ·cases hy
section
variable {α β : Type} {f : α → List V} {e : β → Option V}
def pO (f : α → List V) : Option α → V
 | none => .lit (.pointer none)
 | some x => .obj (f x)
def caseO (o : Option α) (f : α → Option β) (g : Option β) : Option β := match o with
 | some d => f d
 | none => g
theorem tpartK {o : Option α} {y : V} {Ko : List V → List V → Option V} {Kp : V → Option V} {Y1 : α → Option β} {Y2 : Option β} (h1 : ∀ d, Rf e (Ko [V.any, y] (f d)) (Y1 d)) (h2 : Rf e (Kp (.lit (.pointer none))) Y2) :
  Rf e (partK (V.tup [pO f o, y]) 0 Ko Kp) (caseO o Y1 Y2) := by
 cases o with
 | some d => exact h1 d
 | none => exact h2
theorem gv_f {g : Bool} {x : V} (h : g = false) : gv g x = .tup [] := by subst h; rfl
theorem p_pureG {c : Bool} {x : V} (h : pureO x = some x) : pureO (gv c x) = some (gv c x) := by cases c; exact rfl; exact h
theorem gate_posR {c w : Bool} {Z : Option V} {e1 : α → V} {Y1 : Option α} (h : c = w) (hz : Rv e1 Z Y1) : Rv e1 (gate (vb c) w Z) Y1 := by subst h; cases c <;> exact hz
theorem tgz_f {c : Bool} {e1 e2 : α → V} {X : Option V} {n : V} {Y1 : Option α} {d : α} {K : V → Option V} {TK : α → Option β} (h : (!c) = true → Rv e1 X Y1) (h1 : ∀ a, (!c) = true → e1 a = e2 a) (h2 : (!c) = false → n = e2 d) (k : ∀ a, Rf e (K (e2 a)) (TK a)) : Rf e ((guardZ (vb c) false X n).bind K) ((gd (!c) d Y1).bind TK) := by
 cases c with
 | false =>
  intro b hb
  obtain ⟨a, ha, hb⟩ := oB_ hb
  have h3 : X = some (e1 a) := h rfl a ha
  show (X.bind K) = _
  rw [h3, h1 a rfl]
  exact k a b hb
 | true =>
  show Rf e (K n) (TK d)
  rw [h2 rfl]; exact k d
theorem tpartR {xs : List V} {k : Nat} {rows : List (List V)} {K : List V → Nat → List (List V) → Option V} {Y : Option β} (h : Rf e (K (V.any :: xs) k rows) Y) : Rf e (partR (V.tup (V.osl k rows :: xs)) 0 K) Y := h
theorem tpartQ1 {x0 x1 : V} {xs : List V} {z : V} {K : V → Option V} {Y : Option β} (hz : pureO x1 = some z) (h : Rf e (K z) Y) : Rf e (partP (V.tup (x0 :: x1 :: xs)) 1 K) Y := by
 unfold partP; simp only [List.getElem?_cons_succ, List.getElem?_cons_zero, oS_, hz]; exact h
theorem tpartQ2 {x0 x1 x2 : V} {xs : List V} {z : V} {K : V → Option V} {Y : Option β} (hz : pureO x2 = some z) (h : Rf e (K z) Y) : Rf e (partP (V.tup (x0 :: x1 :: x2 :: xs)) 2 K) Y := by
 unfold partP; simp only [List.getElem?_cons_succ, List.getElem?_cons_zero, oS_, hz]; exact h
theorem tpartP0 {x : V} {n : Int} {K : V → Option V} {Y : Option β} (h : Rf e (K (eV n)) Y) : Rf e (partP (V.tup [x, eV n]) 1 K) Y := h
theorem tobjK {l : List V} {K : List V → Option V} {Y : Option β} (h : Rf e (K l) Y) : Rf e (objK (V.obj l) K) Y := h
theorem p_frzQ {l l' : List V} (h : frzL l = l') : some (frzQ (.obj l)) = some (V.ptr l') := by rw [← h]; rfl
theorem flat_all {c : α → List V} (h : ∀ a, ((c a).all fun x => x.val?.isSome) = true) (l : List α) : ((l.map c).all fun r => r.all fun x => x.val?.isSome) = true := by
 simp only [List.all_map, List.all_eq_true]
 intro a _
 simpa using h a
theorem p_flatQ {c : α → List V} (h : ∀ a, ((c a).all fun x => x.val?.isSome) = true) (l : List α) : flatQ (V.sl (l.map c)) = some (V.sl (l.map c)) := by
 show (if ((l.map c).all fun r => r.all fun x => x.val?.isSome) = true then some (V.sl (l.map c)) else none) = _
 rw [if_pos (flat_all h l)]
end
def sortI (l : List Int) : Option (List Int) := if l.length ≤ 4294967296 then some (l.mergeSort fun x y => decide (x ≤ y)) else none
def compactI (l : List Int) : Option (List Int) := if l.length ≤ 4294967296 then some (Lib.compact l) else none
theorem p_sort (l : List Int) : Rv (fun x : List Int => V.tup [V.tup [], V.osl 1 (List.map cI x)]) (semSort [V.osl 1 (List.map cI l)]) (sortI l) := by
 intro y hy
 unfold sortI at hy
 split at hy
 ·rename_i h
  obtain rfl := oJ_ hy
  show ((intsR (l.map cInt)).bind _) = _
  rw [intsR_map, oS_, if_pos h]
  rfl
 ·cases hy
def deleteI (l : List Int) (i j : Int) : Option (List Int) := if l.length ≤ 4294967296 ∧ 0 ≤ i ∧ i ≤ j ∧ j ≤ l.length then some (l.take i.toNat ++ l.drop j.toNat) else none
theorem p_compactO (l : List Int) : Rv (fun x : List Int => V.tup [V.osl 1 (List.map cI x), V.any]) (semCompactO [V.osl 1 (List.map cI l)]) (compactI l) := by
 intro y hy
 unfold compactI at hy
 split at hy
 ·rename_i h
  obtain rfl := oJ_ hy
  show ((intsR (l.map cInt)).bind _) = _
  rw [intsR_map, oS_, if_pos h]
  rfl
 ·cases hy
theorem p_delete (l : List Int) (i j : Int) : Rv (fun x : List Int => V.tup [V.osl 1 (List.map cI x), V.any, V.any, V.any]) (semDelete [V.osl 1 (List.map cI l), vi i, vi j]) (deleteI l i j) := by
 intro y hy
 unfold deleteI at hy
 split at hy
 ·rename_i h
  obtain rfl := oJ_ hy
  show ((intsR (l.map cInt)).bind _) = _
  rw [intsR_map, oS_, if_pos h]
  rfl
 ·cases hy
end Go.Proofs.YtgkohnjpnnofhaaGreat.Ty
