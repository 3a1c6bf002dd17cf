/- Functions on plain types: the asking of errors. -/
import Derived.Test.YtilbgbhpdjjliaaGreatDoorTy
import Derived.Test.YtilbgbhpdjjliaaGreatDoorDenR
import Derived.Test.YtilbgbhpdjjliaaGreatDoorDenGreatW
namespace Go.Proofs.YtilbgbhpdjjliaaGreatDoor.Ty
open Go Go.RowKit Go.Proofs.YtilbgbhpdjjliaaGreatDoor.Den
set_option linter.unusedSimpArgs false
set_option linter.unusedVariables false
section
variable {α : Type} {c : α → List V} {k : Nat}
def oset (l : List α) (i : Int) (y : α) : Option (List α) := if 0 ≤ i ∧ i < l.length then some (l.set i.toNat y) else none
def omake (n m : Int) (z : α) : Option (List α) := if n = m ∧ 0 ≤ n ∧ n ≤ 4294967296 then some (List.replicate n.toNat z) else none
end
section
variable {α β γ δ : Type} {c : α → List V} {k j : Nat} {e : β → Option V} {Y : Option β}
def oapp (l m : List α) : Option (List α) := if 0 < m.length ∧ l.length + m.length ≤ 4294967296 then some (l ++ m) else none
def holeL (c : α → List V) (k j : Nat) (l : List α) (i : Int) : V := .osl k ((l.map c).set i.toNat (((l.map c).getD i.toNat []).set j .any))
def oupd (l : List α) (i : Int) (f : α → α) : Option (List α) := (idx l i).map fun a => l.set i.toNat (f a)
end
section
variable {K α : Type} [DecidableEq K] {P : Program} {kt : TypeId} {kv : K → Value} {vv : α → Value}
def mfind : List (K × α) → K → Nat → Option (Nat × α)
 | [], _, _ => none
 | (b, v) :: r, a, i => if a = b then some (i, v) else mfind r a (i + 1)
def mget (l : List (K × α)) (a : K) (d : α) : α := match mfind l a 0 with
 | some p => p.2
 | none => d
def mhas (l : List (K × α)) (a : K) : Bool := (mfind l a 0).isSome
def mput (l : List (K × α)) (a : K) (v : α) : List (K × α) := match mfind l a 0 with
 | some p => l.set p.1 (a, v)
 | none => l ++ [(a, v)]
def mrep (kv : K → Value) (vv : α → Value) (l : List (K × α)) : List (Value × Value) := l.map fun p => (kv p.1, vv p.2)
structure MKey (P : Program) (kt : TypeId) (kv : K → Value) : Prop where
 chk : ∀ (e : Bool) (a : K) (w : World), (Instr.checkKey e 10000 kt (kv a)).run P w = .ok () w
 find : ∀ {α : Type} (vv : α → Value) (l : List (K × α)) (a : K) (w : World), (Instr.findKey kt (kv a) (mkEs (mrep kv vv l))).run P w = .ok ((mfind l a 0).map fun p => (p.1, vv p.2)) w
 sb : ∀ a : K, Instr.sameBits 10000 (kv a) (kv a) = true
theorem mfind_some : ∀ {l : List (K × α)} {a : K} {i j : Nat} {v : α}, mfind l a i = some (j, v) → ∃ n, j = i + n ∧ l[n]? = some (a, v)
 | [], _, _, _, _, h => by simp [mfind] at h
 | (b, u) :: r, a, i, j, v, h => by
  simp only [mfind] at h
  split at h
  ·rename_i e
   simp only [Option.some.injEq, Prod.mk.injEq] at h
   obtain ⟨rfl, rfl⟩ := h
   subst e
   exact ⟨0, rfl, rfl⟩
  ·obtain ⟨n, h1, h2⟩ := mfind_some h
   exact ⟨n + 1, by omega, by simpa using h2⟩
theorem find_now {d : TypeDesc} (hd : P.underlying kt = some d) (hs : ∀ a b : K, Instr.sameNow d (kv a) (kv b) = some (decide (a = b))) (vv : α → Value) (l : List (K × α)) (a : K) (w : World) :
  (Instr.findKey kt (kv a) (mkEs (mrep kv vv l))).run P w = .ok ((mfind l a 0).map fun p => (p.1, vv p.2)) w := by
 have key : ∀ (l : List (K × α)) (i : Nat), Instr.findNow d (kv a) (mkEs (mrep kv vv l)) i = some ((mfind l a i).map fun p => (p.1, vv p.2)) := by
  intro l
  induction l with
  | nil => intro i; rfl
  | cons x l ih =>
   intro i
   obtain ⟨b, v⟩ := x
   show (match Instr.sameNow d (kv a) (kv b) with
    | some true => some (some (i, vv v))
    | some false => Instr.findNow d (kv a) (mkEs (mrep kv vv l)) (i + 1)
    | none => none) = _
   rw [hs]
   by_cases e : a = b
   ·simp [mfind, e]
   ·simp [mfind, e, ih]
 unfold Instr.findKey
 simp only [Sem.run_bind, run_underlying hd, Result.andThen_ok, key]
 rfl
theorem find_ask {d : TypeDesc} (hd : P.underlying kt = some d) (hn : ∀ a b : K, Instr.sameNow d (kv a) (kv b) = none) (he : ∀ (a b : K) (w : World), (Op.equal kt (kv a) (kv b)).run P w = .ok (decide (a = b)) w) (vv : α → Value) (l : List (K × α)) (a : K) (w : World) :
  (Instr.findKey kt (kv a) (mkEs (mrep kv vv l))).run P w = .ok ((mfind l a 0).map fun p => (p.1, vv p.2)) w := by
 have key : ∀ (l : List (K × α)) (i : Nat), (Instr.findAsking kt (kv a) (mkEs (mrep kv vv l)) i).run P w = .ok ((mfind l a i).map fun p => (p.1, vv p.2)) w := by
  intro l
  induction l with
  | nil => intro i; rfl
  | cons x l ih =>
   intro i
   obtain ⟨b, v⟩ := x
   show (do if ← Op.equal kt (kv a) (kv b) then pure (some (i, vv v)) else Instr.findAsking kt (kv a) (mkEs (mrep kv vv l)) (i + 1) : Sem _).run P w = _
   simp only [Sem.run_bind, he, Result.andThen_ok]
   by_cases e : a = b
   ·simp [mfind, e]
   ·simp [mfind, e, ih]
 unfold Instr.findKey
 simp only [Sem.run_bind, run_underlying hd, Result.andThen_ok]
 cases l with
 | nil => rfl
 | cons x l =>
  obtain ⟨b, v⟩ := x
  have : Instr.findNow d (kv a) (mkEs (mrep kv vv ((b, v) :: l))) 0 = none := by
   show (match Instr.sameNow d (kv a) (kv b) with
    | some true => some (some (0, vv v))
    | some false => Instr.findNow d (kv a) (mkEs (mrep kv vv l)) 1
    | none => none) = _
   rw [hn]
  rw [this]
  exact key ((b, v) :: l) 0
theorem equal_of {t : TypeId} {xs ys : Array Value} {b : Bool} {w : World} (h : (binOp .eql t (.agg xs) (.agg ys)).run P w = .ok (.bool b) w) : (Op.equal t (.agg xs) (.agg ys)).run P w = .ok b w := by
 rw [run_eql_struct] at h
 show (Op.equalIn 10000 t (.agg xs) (.agg ys)).run P w = _
 cases he : (Op.equalIn 10000 t (.agg xs) (.agg ys)).run P w with
 | ok c w' =>
  rw [he] at h
  simp only [Result.andThen_ok, Result.ok.injEq, Value.bool.injEq] at h
  obtain ⟨rfl, rfl⟩ := h
  rfl
 | _ => rw [he] at h; cases h
theorem mkey_str (hd : P.underlying kt = some .string) : MKey P kt (fun s : ByteArray => .string s) where
 chk e a w := MapKept.run_checkKey hd (by simp [MapKept.IsKey]) e 9999
 find vv l a w := find_now hd (fun a b => by simp only [Instr.sameNow, Option.some.injEq]; rw [Bool.eq_iff_iff]; simp [MapKept.bytes_beq]) vv l a w
 sb a := by simp [Instr.sameBits, MapKept.bytes_beq]
theorem p_look {t et : TypeId} {e1 : α → V} {Kx : V} (hk : MKey P kt kv) (ht : P.underlying t = some (.map kt et)) (d : α) (hz : ∀ w, (zeroValue et).run P w = .ok (vv d) w) (he : ∀ x, lookR (vv x) = some (e1 x)) (a : K) (hx : Kx.val? = some (kv a)) (l : List (K × α)) :
  lookV P t false (.mp (mrep kv vv l)) Kx = some (e1 (mget l a d)) := by
 unfold lookV
 simp only [hx, Option.bind_some]
 have : mpGet P t (mrep kv vv l) (kv a) false = some (vv (mget l a d)) := by
  refine pure?_of fun w => ?_
  unfold lookS
  simp only [Sem.run_bind, run_underlying ht, Result.andThen_ok, hk.chk, hk.find]
  unfold mget
  cases mfind l a 0 with
  | none => simp [hz]
  | some p => simp
 rw [this, Option.bind_some, he]
theorem p_put {t et : TypeId} {Kx Vx : V} (hk : MKey P kt kv) (ht : P.underlying t = some (.map kt et)) (a : K) (v : α) (hx : Kx.val? = some (kv a)) (hv : Vx.val? = some (vv v)) (l : List (K × α)) :
  putV P t (.mp (mrep kv vv l)) Kx Vx = some (.mp (mrep kv vv (mput l a v))) := by
 have hf : mpFind P t (mrep kv vv l) (kv a) = some ((mfind l a 0).map fun p => (p.1, vv p.2)) := by
  unfold mpFind
  simp only [ht]
  rw [pure?_of (hk.chk false a), Option.bind_some, pure?_of (hk.find vv l a)]
 unfold putV
 simp only [hx, hv, Option.bind_some]
 have : mpPut P t (mrep kv vv l) (kv a) (vv v) = some (mrep kv vv (mput l a v)) := by
  unfold mpPut mput
  rw [hf, Option.bind_some]
  cases hm : mfind l a 0 with
  | none => simp [mrep]
  | some p =>
   obtain ⟨i, u⟩ := p
   obtain ⟨n, h1, h2⟩ := mfind_some hm
   rw [Nat.zero_add] at h1
   subst h1
   have : (mrep kv vv l)[i]? = some (kv a, vv u) := by simp [mrep, h2]
   simp only [Option.map_some, this, Option.getD_some, hk.sb, if_true]
   simp [mrep, List.map_set]
 rw [this]; rfl
end
def cln {α : Type} (l : List α) : Option (List α) := if l.length ≤ 4294967296 then some l else none
theorem p_clone {α : Type} {c : α → List V} {k : Nat} (hc : ∀ x, (c x).length = k) (l : List α) : Rv (fun l : List α => V.sl (List.map c l)) (semClone k [V.sl (List.map c l)]) (cln l) := by
 intro y hy
 unfold cln at hy
 split at hy
 ·rename_i h
  obtain rfl := Option.some.inj hy
  simp [semClone, hc, h]
 ·cases hy
def t_railsame_Error (e y : Int) : Option Bool := some (decide (e = y))
theorem ty_railsame_Error {n : Nat} (e y : Int) : Rv (fun x : Bool => vb x) (sem_Error n [eV e, vi y]) (t_railsame_Error e y) := rf_eq (s_Error n e y) rfl
end Go.Proofs.YtilbgbhpdjjliaaGreatDoor.Ty
