/- Typed forms of maps of the call's own. -/
import Derived.Test.YtgfleiknigjnbaaDoorTy
namespace Go.Proofs.YtgfleiknigjnbaaDoor.Ty
open Go Go.RowKit Go.Proofs.YtgfleiknigjnbaaDoor.Den
set_option linter.unusedSimpArgs false
set_option linter.unusedVariables false
section
variable {K α : Type} [DecidableEq K] {P : Program} {kt : TypeId} {kv : K → Value} {vv : α → Value}
/-- where a key lies -/
def mfind : List (K × α) → K → Nat → Option (Nat × α)
  | [], _, _ => none
  | (b, v) :: r, a, i => if a = b then some (i, v) else mfind r a (i + 1)
def mget (l : List (K × α)) (a : K) (d : α) : α := match mfind l a 0 with
  | some p => p.2
  | none => d
def mhas (l : List (K × α)) (a : K) : Bool := (mfind l a 0).isSome
def mput (l : List (K × α)) (a : K) (v : α) : List (K × α) := match mfind l a 0 with
  | some p => l.set p.1 (a, v)
  | none => l ++ [(a, v)]
def mrep (kv : K → Value) (vv : α → Value) (l : List (K × α)) : List (Value × Value) := l.map fun p => (kv p.1, vv p.2)
/-- the keys of a type -/
structure MKey (P : Program) (kt : TypeId) (kv : K → Value) : Prop where
  chk : ∀ (e : Bool) (a : K) (w : World), (Instr.checkKey e 10000 kt (kv a)).run P w = .ok () w
  find : ∀ {α : Type} (vv : α → Value) (l : List (K × α)) (a : K) (w : World), (Instr.findKey kt (kv a) (mkEs (mrep kv vv l))).run P w = .ok ((mfind l a 0).map fun p => (p.1, vv p.2)) w
  sb : ∀ a : K, Instr.sameBits 10000 (kv a) (kv a) = true
theorem mfind_some : ∀ {l : List (K × α)} {a : K} {i j : Nat} {v : α}, mfind l a i = some (j, v) → ∃ n, j = i + n ∧ l[n]? = some (a, v)
  | [], _, _, _, _, h => by simp [mfind] at h
  | (b, u) :: r, a, i, j, v, h => by
    simp only [mfind] at h
    split at h
    · rename_i e
      simp only [Option.some.injEq, Prod.mk.injEq] at h
      obtain ⟨rfl, rfl⟩ := h
      subst e
      exact ⟨0, rfl, rfl⟩
    · obtain ⟨n, h1, h2⟩ := mfind_some h
      exact ⟨n + 1, by omega, by simpa using h2⟩
/-- keys that are told at once -/
theorem find_now {d : TypeDesc} (hd : P.underlying kt = some d) (hs : ∀ a b : K, Instr.sameNow d (kv a) (kv b) = some (decide (a = b))) (vv : α → Value) (l : List (K × α)) (a : K) (w : World) :
    (Instr.findKey kt (kv a) (mkEs (mrep kv vv l))).run P w = .ok ((mfind l a 0).map fun p => (p.1, vv p.2)) w := by
  have key : ∀ (l : List (K × α)) (i : Nat), Instr.findNow d (kv a) (mkEs (mrep kv vv l)) i = some ((mfind l a i).map fun p => (p.1, vv p.2)) := by
    intro l
    induction l with
    | nil => intro i; rfl
    | cons x l ih =>
      intro i
      obtain ⟨b, v⟩ := x
      show (match Instr.sameNow d (kv a) (kv b) with
        | some true => some (some (i, vv v))
        | some false => Instr.findNow d (kv a) (mkEs (mrep kv vv l)) (i + 1)
        | none => none) = _
      rw [hs]
      by_cases e : a = b
      · simp [mfind, e]
      · simp [mfind, e, ih]
  unfold Instr.findKey
  simp only [Sem.run_bind, run_underlying hd, Result.andThen_ok, key]
  rfl
/-- keys that are asked one by one -/
theorem find_ask {d : TypeDesc} (hd : P.underlying kt = some d) (hn : ∀ a b : K, Instr.sameNow d (kv a) (kv b) = none) (he : ∀ (a b : K) (w : World), (Op.equal kt (kv a) (kv b)).run P w = .ok (decide (a = b)) w) (vv : α → Value) (l : List (K × α)) (a : K) (w : World) :
    (Instr.findKey kt (kv a) (mkEs (mrep kv vv l))).run P w = .ok ((mfind l a 0).map fun p => (p.1, vv p.2)) w := by
  have key : ∀ (l : List (K × α)) (i : Nat), (Instr.findAsking kt (kv a) (mkEs (mrep kv vv l)) i).run P w = .ok ((mfind l a i).map fun p => (p.1, vv p.2)) w := by
    intro l
    induction l with
    | nil => intro i; rfl
    | cons x l ih =>
      intro i
      obtain ⟨b, v⟩ := x
      show (do if ← Op.equal kt (kv a) (kv b) then pure (some (i, vv v)) else Instr.findAsking kt (kv a) (mkEs (mrep kv vv l)) (i + 1) : Sem _).run P w = _
      simp only [Sem.run_bind, he, Result.andThen_ok]
      by_cases e : a = b
      · simp [mfind, e]
      · simp [mfind, e, ih]
  unfold Instr.findKey
  simp only [Sem.run_bind, run_underlying hd, Result.andThen_ok]
  cases l with
  | nil => rfl
  | cons x l =>
    obtain ⟨b, v⟩ := x
    have : Instr.findNow d (kv a) (mkEs (mrep kv vv ((b, v) :: l))) 0 = none := by
      show (match Instr.sameNow d (kv a) (kv b) with
        | some true => some (some (0, vv v))
        | some false => Instr.findNow d (kv a) (mkEs (mrep kv vv l)) 1
        | none => none) = _
      rw [hn]
    rw [this]
    exact key ((b, v) :: l) 0
theorem equal_of {t : TypeId} {xs ys : Array Value} {b : Bool} {w : World} (h : (binOp .eql t (.agg xs) (.agg ys)).run P w = .ok (.bool b) w) : (Op.equal t (.agg xs) (.agg ys)).run P w = .ok b w := by
  rw [run_eql_struct] at h
  show (Op.equalIn 10000 t (.agg xs) (.agg ys)).run P w = _
  cases he : (Op.equalIn 10000 t (.agg xs) (.agg ys)).run P w with
  | ok c w' =>
    rw [he] at h
    simp only [Result.andThen_ok, Result.ok.injEq, Value.bool.injEq] at h
    obtain ⟨rfl, rfl⟩ := h
    rfl
  | _ => rw [he] at h; cases h
theorem mkey_str (hd : P.underlying kt = some .string) : MKey P kt (fun s : ByteArray => .string s) where
  chk e a w := MapKept.run_checkKey hd (by simp [MapKept.IsKey]) e 9999
  find vv l a w := find_now hd (fun a b => by simp only [Instr.sameNow, Option.some.injEq]; rw [Bool.eq_iff_iff]; simp [MapKept.bytes_beq]) vv l a w
  sb a := by simp [Instr.sameBits, MapKept.bytes_beq]
theorem mkey_int {q : IntKind} (hd : P.underlying kt = some (.int q)) : MKey P kt (fun n : Int => .int q n) where
  chk e a w := MapKept.run_checkKey hd (by simp [MapKept.IsKey]) e 9999
  find vv l a w := find_now hd (fun a b => by simp only [Instr.sameNow, if_true, Option.some.injEq]; rw [Bool.eq_iff_iff]; simp) vv l a w
  sb a := by simp [Instr.sameBits]
/-- m[k] -/
theorem p_look {t et : TypeId} {e1 : α → V} {Kx : V} (hk : MKey P kt kv) (ht : P.underlying t = some (.map kt et)) (d : α) (hz : ∀ w, (zeroValue et).run P w = .ok (vv d) w) (he : ∀ x, lookR (vv x) = some (e1 x)) (a : K) (hx : Kx.val? = some (kv a)) (l : List (K × α)) :
    lookV P t false (.mp (mrep kv vv l)) Kx = some (e1 (mget l a d)) := by
  unfold lookV
  simp only [hx, Option.bind_some]
  have : mpGet P t (mrep kv vv l) (kv a) false = some (vv (mget l a d)) := by
    refine pure?_of fun w => ?_
    unfold lookS
    simp only [Sem.run_bind, run_underlying ht, Result.andThen_ok, hk.chk, hk.find]
    unfold mget
    cases mfind l a 0 with
    | none => simp [hz]
    | some p => simp
  rw [this, Option.bind_some, he]
/-- v, ok := m[k] -/
theorem p_look_ok {t et : TypeId} {e1 : α → V} {Kx : V} (hk : MKey P kt kv) (ht : P.underlying t = some (.map kt et)) (d : α) (hz : ∀ w, (zeroValue et).run P w = .ok (vv d) w) (he : ∀ x, ofVal (vv x) = some (e1 x)) (a : K) (hx : Kx.val? = some (kv a)) (l : List (K × α)) :
    lookV P t true (.mp (mrep kv vv l)) Kx = some (.tup [e1 (mget l a d), vb (mhas l a)]) := by
  unfold lookV
  simp only [hx, Option.bind_some]
  have : mpGet P t (mrep kv vv l) (kv a) true = some (.tuple #[vv (mget l a d), .bool (mhas l a)]) := by
    refine pure?_of fun w => ?_
    unfold lookS
    simp only [Sem.run_bind, run_underlying ht, Result.andThen_ok, hk.chk, hk.find]
    unfold mget mhas
    cases mfind l a 0 with
    | none => simp [hz]
    | some p => simp
  rw [this, Option.bind_some]
  have hb : ofVal (.bool (mhas l a)) = some (vb (mhas l a)) := rfl
  show (tupL [vv (mget l a d), .bool (mhas l a)]).map V.tup = _
  simp only [tupL, he, hb, Option.bind_some, Option.map_some]
theorem p_put {t et : TypeId} {Kx Vx : V} (hk : MKey P kt kv) (ht : P.underlying t = some (.map kt et)) (a : K) (v : α) (hx : Kx.val? = some (kv a)) (hv : Vx.val? = some (vv v)) (l : List (K × α)) :
    putV P t (.mp (mrep kv vv l)) Kx Vx = some (.mp (mrep kv vv (mput l a v))) := by
  have hf : mpFind P t (mrep kv vv l) (kv a) = some ((mfind l a 0).map fun p => (p.1, vv p.2)) := by
    unfold mpFind
    simp only [ht]
    rw [pure?_of (hk.chk false a), Option.bind_some, pure?_of (hk.find vv l a)]
  unfold putV
  simp only [hx, hv, Option.bind_some]
  have : mpPut P t (mrep kv vv l) (kv a) (vv v) = some (mrep kv vv (mput l a v)) := by
    unfold mpPut mput
    rw [hf, Option.bind_some]
    cases hm : mfind l a 0 with
    | none => simp [mrep]
    | some p =>
      obtain ⟨i, u⟩ := p
      obtain ⟨n, h1, h2⟩ := mfind_some hm
      rw [Nat.zero_add] at h1
      subst h1
      have : (mrep kv vv l)[i]? = some (kv a, vv u) := by simp [mrep, h2]
      simp only [Option.map_some, this, Option.getD_some, hk.sb, if_true]
      simp [mrep, List.map_set]
  rw [this]; rfl
end
end Go.Proofs.YtgfleiknigjnbaaDoor.Ty
