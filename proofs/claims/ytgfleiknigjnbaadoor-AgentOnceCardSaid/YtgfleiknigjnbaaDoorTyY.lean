/- Functions on plain types: a constructor's pair, a pointer to what is the caller's own (or nil) and an error. -/
import Derived.Test.YtgfleiknigjnbaaDoorTy
import Derived.Test.YtgfleiknigjnbaaDoorDenR
import Derived.Test.YtgfleiknigjnbaaDoorDenDoor
import Derived.Test.YtgfleiknigjnbaaDoorDen14
namespace Go.Proofs.YtgfleiknigjnbaaDoor.Ty
open Go Go.RowKit Go.Proofs.YtgfleiknigjnbaaDoor.Den
set_option linter.unusedSimpArgs false
set_option linter.unusedVariables false
section
variable {α : Type} {c : α → List V} {k : Nat}
theorem p_s2bT {s : ByteArray} (h : decide ((s.size : Int) ≤ maxI) = true) : s2bT (vt s) = some (.osl 1 ((numsOf s).map cY)) := by
  have h := of_decide_eq_true h
  show (if s.size ≤ maxLen then some (V.osl 1 (bytesR s)) else none) = _
  rw [if_pos (by unfold maxLen; unfold maxI at h; omega), bytesR_rows]
theorem p_oslB {l : List Int} : (oslR (.osl 1 (l.map cY))).bind (fun rows => b2s (V.sl rows)) = some (vt (strOfNums l)) := p_b2s
theorem p_olen (l : List α) : ((oslR (.osl k (l.map c))).map fun rows => V.lit (Go.Value.int Go.IntKind.i64 (List.length rows))) = some (vi (l.length : Int)) := by simp [oslR]
theorem p_inB (l : List α) (i : Int) {kk : IntKind} (h : (decide (0 ≤ i) && decide (i < (List.length l : Int))) = true) : ((oslR (.osl k (l.map c))).bind fun rows => inB (List.length rows) (.lit (.int kk i))) = some V.any := by
  simp only [Bool.and_eq_true, decide_eq_true_eq] at h
  show inB (l.map c).length (.lit (.int kk i)) = _
  rw [List.length_map]
  exact d_inB ⟨h.1, by omega⟩
def oset (l : List α) (i : Int) (y : α) : Option (List α) := if 0 ≤ i ∧ i < l.length then some (l.set i.toNat y) else none
theorem p_oset (hc : ∀ a, (c a).length = k) (l : List α) (i : Int) (y : α) {kk : IntKind} : Rv (fun x => V.osl k (x.map c)) (setV (.osl k (l.map c)) [] (Stp.mk (some (natOf (.lit (.int kk i)))) 0 k) k (c y)) (oset l i y) := fun b h => by
  unfold oset at h
  split at h
  · rename_i hi
    simp only [Option.some.injEq] at h
    subst h
    have hlt : i.toNat < l.length := by omega
    simp only [setV, setN, natOf, List.getElem?_map, List.getElem?_eq_getElem hlt, Option.map_some, Option.bind_some, if_true, spliceO]
    rw [if_pos ⟨hc y, by rw [hc]; omega⟩]
    have e : List.drop k (c l[i.toNat]) = [] := List.drop_eq_nil_of_le (by rw [hc]; exact Nat.le_refl _)
    simp [List.map_set, hc, e]
  · cases h
theorem p_oload {e1 : α → V} {kd : Option Nat} {off : Nat} (hc : ∀ a, (c a).length = k) (l : List α) (i : Int) {kk : IntKind} (h : ∀ a, (ldk kd ((c a).drop off)).bind pureO = some (e1 a)) : Rv e1 ((nodeL (.osl k (l.map c)) (some (natOf (.lit (.int kk i)))) k).bind fun l => (ldk kd (List.drop off l)).bind pureO) (idx l i) := fun b hb => by
  unfold idx at hb
  split at hb
  · simp only [nodeL, natOf, List.getElem?_map, hb, Option.map_some, Option.bind_some, if_true]
    exact h b
  · cases hb
theorem p_frz (h : ∀ a, frzL (c a) = c a) (l : List α) : some (frz (.osl k (l.map c))) = some (V.sl (l.map c)) := by
  have : frzR (l.map c) = l.map c := by
    induction l with
    | nil => rfl
    | cons x l ih => simp only [List.map_cons, frzR, h, ih]
  simp only [frz, this]
theorem gate_rv {β : Type} {e1 : β → V} {Y1 : Option β} {c w : Bool} {Z : Option V} (h : c = w) (hz : Rv e1 Z Y1) : Rv e1 (gate (vb c) w Z) Y1 := by subst h; cases c <;> exact hz
theorem gate_rv2 {β : Type} {e1 : β → V} {Y1 : Option β} {g c w : Bool} {Z : Option V} (hg : g = true) (h : c = w) (hz : Rv e1 Z Y1) : Rv e1 (gate (gv g (vb c)) w Z) Y1 := by subst h; subst hg; cases c <;> exact hz
theorem tgn_f {β : Type} {e : β → Option V} {Y : Option β} {c p : Bool} {x : V} {X : Option V} {K : V → Option V} (h : (!c) = true → p = true → X = some x) (k : (c || p) = true → Rf e (K (gv (!c) x)) Y) : Rf e ((guardV (vb c) false X).bind K) (need (c || p) Y) := by
  cases c with
  | true => rw [show (true || p) = true from rfl, need_t]; exact k rfl
  | false =>
    cases p with
    | false => intro b hb; cases hb
    | true =>
      rw [show (false || true) = true from rfl, need_t, show guardV (vb false) false X = X from rfl, h rfl rfl]
      exact k rfl
def omake (n m : Int) (z : α) : Option (List α) := if n = m ∧ 0 ≤ n ∧ n ≤ 4294967296 then some (List.replicate n.toNat z) else none
theorem p_omake {z' : List V} (n m : Int) (z : α) {k1 k2 : IntKind} (hz : z' = c z) : Rv (fun x => V.osl k (x.map c)) (makeN k z' (.lit (.int k1 n)) (.lit (.int k2 m))) (omake n m z) := fun b h => by
  unfold omake at h
  split at h
  · rename_i hi
    simp only [Option.some.injEq] at h
    subst h
    subst hz
    simp only [makeN, if_pos hi, List.map_replicate]
  · cases h
end
section
variable {α β γ δ : Type} {c : α → List V} {k j : Nat} {e : β → Option V} {Y : Option β}
theorem p_tail (l : List α) (i : Int) : Rv (fun x => V.sl (x.map c)) (tailV (l.map c) (vi i)) (slc_lo l i) := fun x h => by
  unfold slc_lo at h
  split at h
  · rename_i hc
    obtain rfl := Option.some.inj h
    have : boundL (some (vi i)) 0 = some i.toNat := if_pos hc.1
    unfold tailV
    rw [this]
    simp only
    rw [if_pos (by simp; omega), List.map_drop]
  · cases h
def slc_hd (l : List α) (i j : Int) : Option (List α) := if i = j ∧ 0 ≤ i ∧ i ≤ l.length then some (l.take i.toNat) else none
theorem p_head (l : List α) (i j : Int) : Rv (fun x => V.sl (x.map c)) (headV (l.map c) (vi i) (vi j)) (slc_hd l i j) := fun x h => by
  unfold slc_hd at h
  split at h
  · rename_i hi
    obtain ⟨rfl, h0, h1⟩ := hi
    obtain rfl := Option.some.inj h
    have hb : boundL (some (vi i)) 0 = some i.toNat := if_pos h0
    unfold headV
    rw [hb]
    simp only []
    rw [if_pos ⟨trivial, by rw [List.length_map]; omega⟩, List.map_take]
  · cases h
theorem p_inA (n : Nat) (i : Int) {kk : IntKind} (h : (decide (0 ≤ i) && decide (i < (n : Int))) = true) : inB n (.lit (.int kk i)) = some V.any := by
  simp only [Bool.and_eq_true, decide_eq_true_eq] at h
  exact d_inB ⟨h.1, by omega⟩
theorem p_fz0 : frzL [] = [] := rfl
theorem p_fzc {x y : V} {r r' : List V} (h : frz x = y) (hr : frzL r = r') : frzL (x :: r) = y :: r' := by rw [← h, ← hr]; rfl
theorem p_frzl {c' : α → List V} (h : ∀ a, frzL (c a) = c' a) (l : List α) : frz (.osl k (l.map c)) = V.sl (l.map c') := by
  have : frzR (l.map c) = l.map c' := by
    induction l with
    | nil => rfl
    | cons x l ih => simp only [List.map_cons, frzR, h, ih]
  simp only [frz, this]
theorem p_frzS {c' : α → List V} (h : ∀ a, frzL (c a) = c' a) (l : List α) : some (frz (.osl k (l.map c))) = some (V.sl (l.map c')) := congrArg some (p_frzl h l)
theorem p_frzP {l l' : List V} (h : frzL l = l') : some (frzP (.obj l)) = some (V.ptr l') := by rw [← h]; rfl
theorem p_fzX {t : Nat} {l l' : List V} (ht : decide (t < 1000000) = true) (h : frzL l = l') : some (softX t (.obj l)) = some (V.obj l') := by
  rw [← h]; simp only [softX, softT, ht]
def oapp (l m : List α) : Option (List α) := if 0 < m.length ∧ l.length + m.length ≤ 4294967296 then some (l ++ m) else none
theorem p_oappY {y : V} (hc : ∀ a, (c a).length = k) (l m : List α) (hy : rowsY y = some (m.map c)) : Rv (fun x => V.osl k (x.map c)) (appS k (.osl k (l.map c)) y) (oapp l m) := fun b h => by
  unfold oapp at h
  split at h
  · rename_i hi
    simp only [Option.some.injEq] at h
    subst h
    simp only [appS, hy, Option.bind_some, List.length_map]
    rw [if_pos ⟨trivial, hi.1, all_len hc m, hi.2⟩, List.map_append]
  · cases h
theorem p_oapp (hc : ∀ a, (c a).length = k) (l m : List α) : Rv (fun x => V.osl k (x.map c)) (appS k (.osl k (l.map c)) (.sl (m.map c))) (oapp l m) := p_oappY hc l m rfl
theorem p_oappO {k2 : Nat} (hc : ∀ a, (c a).length = k) (l m : List α) : Rv (fun x => V.osl k (x.map c)) (appS k (.osl k (l.map c)) (.osl k2 (m.map c))) (oapp l m) := p_oappY hc l m rfl
theorem p_asc {A : Option γ} {f : γ → Option δ} {g : δ → Option V} (h : Rf e (A.bind fun y => (f y).bind g) Y) : Rf e ((A.bind f).bind g) Y := by rw [Option.bind_assoc]; exact h
theorem p_cas {A : Option γ} {f : γ → Option δ} {g : δ → Option V} (h : Rf e ((A.bind f).bind g) Y) : Rf e (A.bind fun y => (f y).bind g) Y := by rw [Option.bind_assoc] at h; exact h
theorem p_in0 {x : V} {G : V → Option V} (h : Rf e (G x) Y) : Rf e ((getV x []).bind G) Y := h
theorem p_inF {l : List V} {k2 : Nat} {p : List Stp} {y : V} {G : V → Option V} (hj : l[j]? = some y) (h : Rf e ((getV y p).bind G) Y) : Rf e ((getV (.obj l) (⟨none, j, k2⟩ :: p)).bind G) Y := by
  simp only [getV, stepX, hj, Option.bind_some]; exact h
theorem p_inI {e1 : α → V} {kk : IntKind} {p : List Stp} {G : V → Option V} {t : α → Option β} (hc : ∀ a, (c a)[j]? = some (e1 a)) (l : List α) (i : Int) (h : ∀ a, Rf e ((getV (e1 a) p).bind G) (t a)) : Rf e ((getV (.osl k (l.map c)) (⟨some (natOf (.lit (.int kk i))), j, k⟩ :: p)).bind G) ((idx l i).bind t) := fun b hb => by
  unfold idx at hb
  split at hb
  · obtain ⟨a, ha, hb⟩ := Option.bind_eq_some_iff.1 hb
    simp only [getV, stepX, natOf, List.getElem?_map, ha, Option.map_some, Option.bind_some, if_true, hc]
    exact h a b hb
  · cases hb
/-- a slice out of whose element i the cell j has been taken -/
def holeL (c : α → List V) (k j : Nat) (l : List α) (i : Int) : V := .osl k ((l.map c).set i.toNat (((l.map c).getD i.toNat []).set j .any))
theorem p_take {e1 : α → V} {kk : IntKind} {K : V → V → Option V} {t : α → Option β} (hc : ∀ a, (c a)[j]? = some (e1 a)) (l : List α) (i : Int) (h : ∀ a, Rf e (K (e1 a) (holeL c k j l i)) (t a)) :
    Rf e ((getV (.osl k (l.map c)) [⟨some (natOf (.lit (.int kk i))), j, k⟩]).bind fun y => (modX (.osl k (l.map c)) [] ⟨some (natOf (.lit (.int kk i))), j, k⟩ .any).bind fun x1 => K y x1) ((idx l i).bind t) := fun b hb => by
  unfold idx at hb
  split at hb
  · obtain ⟨a, ha, hb⟩ := Option.bind_eq_some_iff.1 hb
    simp only [getV, modX, stepX, natOf, List.getElem?_map, ha, Option.map_some, Option.bind_some, if_true, hc, putX]
    exact h a b hb
  · cases hb
theorem p_takeF {e1 : α → V} {kk : IntKind} {K : V → V → Option V} {t : α → Option β} {lo : List V} {jo ko : Nat} (hc : ∀ a, (c a)[j]? = some (e1 a)) (l : List α) (i : Int) (hj : lo[jo]? = some (.osl k (l.map c))) (h : ∀ a, Rf e (K (e1 a) (.obj (lo.set jo (holeL c k j l i)))) (t a)) :
    Rf e ((getV (.obj lo) [⟨none, jo, ko⟩, ⟨some (natOf (.lit (.int kk i))), j, k⟩]).bind fun y => (modX (.obj lo) [⟨none, jo, ko⟩] ⟨some (natOf (.lit (.int kk i))), j, k⟩ .any).bind fun x1 => K y x1) ((idx l i).bind t) := fun b hb => by
  unfold idx at hb
  split at hb
  · obtain ⟨a, ha, hb⟩ := Option.bind_eq_some_iff.1 hb
    simp only [getV, modX, stepX, hj, natOf, List.getElem?_map, ha, Option.map_some, Option.bind_some, if_true, hc, putX]
    exact h a b hb
  · cases hb
theorem p_inBh (l : List α) (i i2 : Int) {kk : IntKind} (h : (decide (0 ≤ i) && decide (i < (List.length l : Int))) = true) : ((oslR (holeL c k j l i2)).bind fun rows => inB (List.length rows) (.lit (.int kk i))) = some V.any := by
  have := p_inB (c := c) (k := k) (kk := kk) l i h
  simp only [oslR, Option.bind_some, List.length_map] at this
  simp only [holeL, oslR, Option.bind_some, List.length_set, List.length_map]
  exact this
theorem p_fill1 {e1 : α → V} {kk : IntKind} (hc : ∀ a, c a = [e1 a]) (l : List α) (i : Int) (y : α) : Rv (fun x => V.osl 1 (x.map c)) (setV (holeL c 1 0 l i) [] (Stp.mk (some (natOf (.lit (.int kk i)))) 0 1) 1 [e1 y]) (oset l i y) := fun b h => by
  unfold oset at h
  split at h
  · rename_i hi
    simp only [Option.some.injEq] at h
    subst h
    have hlt : i.toNat < l.length := by omega
    have e1' : (List.map c l).getD i.toNat [] = [e1 l[i.toNat]] := by rw [List.getD, List.getElem?_map, List.getElem?_eq_getElem hlt]; simp [hc]
    simp only [holeL, e1', List.set_cons_zero, setV, setN, natOf]
    rw [List.getElem?_set_self (by simpa using hlt)]
    simp only [Option.bind_some, if_true, spliceO, List.length_cons, List.length_nil, Nat.zero_add, Nat.le_refl, and_self, List.take_zero, List.nil_append, List.drop_succ_cons, List.drop_nil, List.append_nil, Option.map_some, Option.some.injEq, List.set_set, V.osl.injEq, true_and]
    rw [List.map_set, hc]
  · cases h
theorem p_setF {e1 : α → V} {lo : List V} {jo ko : Nat} {p : List Stp} {q : Stp} {k2 : Nat} {cs : List V} {y : V} {t : Option α} (hj : lo[jo]? = some y) (h : Rv e1 (setV y p q k2 cs) t) : Rv (fun a => V.obj (lo.set jo (e1 a))) (setV (.obj lo) (⟨none, jo, ko⟩ :: p) q k2 cs) t := fun b hb => by
  simp only [setV, stepX, hj, Option.bind_some, h b hb, Option.map_some, putX]
theorem p_setI1 {e1 : α → V} {kk : IntKind} {p : List Stp} {q : Stp} {k2 : Nat} {cs : List V} {t : α → Option α} (hc : ∀ a, c a = [e1 a]) (l : List α) (i : Int) (h : ∀ a, Rv e1 (setV (e1 a) p q k2 cs) (t a)) :
    Rv (fun x => V.osl 1 (x.map c)) (setV (.osl 1 (l.map c)) (⟨some (natOf (.lit (.int kk i))), 0, 1⟩ :: p) q k2 cs) ((idx l i).bind fun a => (t a).map fun a' => l.set i.toNat a') := fun b hb => by
  unfold idx at hb
  split at hb
  · obtain ⟨a, ha, hb⟩ := Option.bind_eq_some_iff.1 hb
    obtain ⟨a', ha', rfl⟩ := Option.map_eq_some_iff.1 hb
    have hg : (List.map c l).getD i.toNat [] = [e1 a] := by rw [List.getD, List.getElem?_map, ha]; simp [hc]
    simp only [setV, stepX, natOf, List.getElem?_map, ha, Option.map_some, Option.bind_some, if_true, hc, List.getElem?_cons_zero, h a a' ha', putX, hg, List.set_cons_zero, Option.some.injEq, V.osl.injEq, true_and]
    rw [List.map_set, hc]
  · cases hb
theorem p_onest {off : Nat} {kk : IntKind} (hc : ∀ a, ((c a)[off]?).bind ownO = some V.any) (l : List α) (i : Int) : Rv (fun _ : α => V.any) ((nodeL (.osl k (l.map c)) (some (natOf (.lit (.int kk i)))) k).bind fun l => (l[off]?).bind ownO) (idx l i) := fun b hb => by
  unfold idx at hb
  split at hb
  · simp only [nodeL, natOf, List.getElem?_map, hb, Option.map_some, Option.bind_some, if_true]
    exact hc b
  · cases hb
/-- the element i, changed -/
def oupd (l : List α) (i : Int) (f : α → α) : Option (List α) := (idx l i).map fun a => l.set i.toNat (f a)
theorem p_oupd {cs : List V} {off kn : Nat} (f : α → α) (hc : ∀ a, (c a).length = k) (hf : ∀ a, spliceO (c a) off kn cs = some (c (f a))) (l : List α) (i : Int) {kk : IntKind} : Rv (fun x => V.osl k (x.map c)) (setV (.osl k (l.map c)) [] (Stp.mk (some (natOf (.lit (.int kk i)))) off k) kn cs) (oupd l i f) := fun b hb => by
  unfold oupd idx at hb
  split at hb
  · obtain ⟨a, ha, rfl⟩ := Option.map_eq_some_iff.1 hb
    simp only [setV, setN, natOf, List.getElem?_map, ha, Option.map_some, Option.bind_some, if_true, hf, List.map_set]
  · cases hb
end
section
variable {K α : Type} [DecidableEq K] {P : Program} {kt : TypeId} {kv : K → Value} {vv : α → Value}
/-- where a key lies -/
def mfind : List (K × α) → K → Nat → Option (Nat × α)
  | [], _, _ => none
  | (b, v) :: r, a, i => if a = b then some (i, v) else mfind r a (i + 1)
def mget (l : List (K × α)) (a : K) (d : α) : α := match mfind l a 0 with
  | some p => p.2
  | none => d
def mhas (l : List (K × α)) (a : K) : Bool := (mfind l a 0).isSome
def mput (l : List (K × α)) (a : K) (v : α) : List (K × α) := match mfind l a 0 with
  | some p => l.set p.1 (a, v)
  | none => l ++ [(a, v)]
def mrep (kv : K → Value) (vv : α → Value) (l : List (K × α)) : List (Value × Value) := l.map fun p => (kv p.1, vv p.2)
/-- the keys of a type -/
structure MKey (P : Program) (kt : TypeId) (kv : K → Value) : Prop where
  chk : ∀ (e : Bool) (a : K) (w : World), (Instr.checkKey e 10000 kt (kv a)).run P w = .ok () w
  find : ∀ {α : Type} (vv : α → Value) (l : List (K × α)) (a : K) (w : World), (Instr.findKey kt (kv a) (mkEs (mrep kv vv l))).run P w = .ok ((mfind l a 0).map fun p => (p.1, vv p.2)) w
  sb : ∀ a : K, Instr.sameBits 10000 (kv a) (kv a) = true
theorem mfind_some : ∀ {l : List (K × α)} {a : K} {i j : Nat} {v : α}, mfind l a i = some (j, v) → ∃ n, j = i + n ∧ l[n]? = some (a, v)
  | [], _, _, _, _, h => by simp [mfind] at h
  | (b, u) :: r, a, i, j, v, h => by
    simp only [mfind] at h
    split at h
    · rename_i e
      simp only [Option.some.injEq, Prod.mk.injEq] at h
      obtain ⟨rfl, rfl⟩ := h
      subst e
      exact ⟨0, rfl, rfl⟩
    · obtain ⟨n, h1, h2⟩ := mfind_some h
      exact ⟨n + 1, by omega, by simpa using h2⟩
/-- keys that are told at once -/
theorem find_now {d : TypeDesc} (hd : P.underlying kt = some d) (hs : ∀ a b : K, Instr.sameNow d (kv a) (kv b) = some (decide (a = b))) (vv : α → Value) (l : List (K × α)) (a : K) (w : World) :
    (Instr.findKey kt (kv a) (mkEs (mrep kv vv l))).run P w = .ok ((mfind l a 0).map fun p => (p.1, vv p.2)) w := by
  have key : ∀ (l : List (K × α)) (i : Nat), Instr.findNow d (kv a) (mkEs (mrep kv vv l)) i = some ((mfind l a i).map fun p => (p.1, vv p.2)) := by
    intro l
    induction l with
    | nil => intro i; rfl
    | cons x l ih =>
      intro i
      obtain ⟨b, v⟩ := x
      show (match Instr.sameNow d (kv a) (kv b) with
        | some true => some (some (i, vv v))
        | some false => Instr.findNow d (kv a) (mkEs (mrep kv vv l)) (i + 1)
        | none => none) = _
      rw [hs]
      by_cases e : a = b
      · simp [mfind, e]
      · simp [mfind, e, ih]
  unfold Instr.findKey
  simp only [Sem.run_bind, run_underlying hd, Result.andThen_ok, key]
  rfl
/-- keys that are asked one by one -/
theorem find_ask {d : TypeDesc} (hd : P.underlying kt = some d) (hn : ∀ a b : K, Instr.sameNow d (kv a) (kv b) = none) (he : ∀ (a b : K) (w : World), (Op.equal kt (kv a) (kv b)).run P w = .ok (decide (a = b)) w) (vv : α → Value) (l : List (K × α)) (a : K) (w : World) :
    (Instr.findKey kt (kv a) (mkEs (mrep kv vv l))).run P w = .ok ((mfind l a 0).map fun p => (p.1, vv p.2)) w := by
  have key : ∀ (l : List (K × α)) (i : Nat), (Instr.findAsking kt (kv a) (mkEs (mrep kv vv l)) i).run P w = .ok ((mfind l a i).map fun p => (p.1, vv p.2)) w := by
    intro l
    induction l with
    | nil => intro i; rfl
    | cons x l ih =>
      intro i
      obtain ⟨b, v⟩ := x
      show (do if ← Op.equal kt (kv a) (kv b) then pure (some (i, vv v)) else Instr.findAsking kt (kv a) (mkEs (mrep kv vv l)) (i + 1) : Sem _).run P w = _
      simp only [Sem.run_bind, he, Result.andThen_ok]
      by_cases e : a = b
      · simp [mfind, e]
      · simp [mfind, e, ih]
  unfold Instr.findKey
  simp only [Sem.run_bind, run_underlying hd, Result.andThen_ok]
  cases l with
  | nil => rfl
  | cons x l =>
    obtain ⟨b, v⟩ := x
    have : Instr.findNow d (kv a) (mkEs (mrep kv vv ((b, v) :: l))) 0 = none := by
      show (match Instr.sameNow d (kv a) (kv b) with
        | some true => some (some (0, vv v))
        | some false => Instr.findNow d (kv a) (mkEs (mrep kv vv l)) 1
        | none => none) = _
      rw [hn]
    rw [this]
    exact key ((b, v) :: l) 0
theorem equal_of {t : TypeId} {xs ys : Array Value} {b : Bool} {w : World} (h : (binOp .eql t (.agg xs) (.agg ys)).run P w = .ok (.bool b) w) : (Op.equal t (.agg xs) (.agg ys)).run P w = .ok b w := by
  rw [run_eql_struct] at h
  show (Op.equalIn 10000 t (.agg xs) (.agg ys)).run P w = _
  cases he : (Op.equalIn 10000 t (.agg xs) (.agg ys)).run P w with
  | ok c w' =>
    rw [he] at h
    simp only [Result.andThen_ok, Result.ok.injEq, Value.bool.injEq] at h
    obtain ⟨rfl, rfl⟩ := h
    rfl
  | _ => rw [he] at h; cases h
theorem mkey_str (hd : P.underlying kt = some .string) : MKey P kt (fun s : ByteArray => .string s) where
  chk e a w := MapKept.run_checkKey hd (by simp [MapKept.IsKey]) e 9999
  find vv l a w := find_now hd (fun a b => by simp only [Instr.sameNow, Option.some.injEq]; rw [Bool.eq_iff_iff]; simp [MapKept.bytes_beq]) vv l a w
  sb a := by simp [Instr.sameBits, MapKept.bytes_beq]
theorem mkey_int {q : IntKind} (hd : P.underlying kt = some (.int q)) : MKey P kt (fun n : Int => .int q n) where
  chk e a w := MapKept.run_checkKey hd (by simp [MapKept.IsKey]) e 9999
  find vv l a w := find_now hd (fun a b => by simp only [Instr.sameNow, if_true, Option.some.injEq]; rw [Bool.eq_iff_iff]; simp) vv l a w
  sb a := by simp [Instr.sameBits]
/-- m[k] -/
theorem p_look {t et : TypeId} {e1 : α → V} {Kx : V} (hk : MKey P kt kv) (ht : P.underlying t = some (.map kt et)) (d : α) (hz : ∀ w, (zeroValue et).run P w = .ok (vv d) w) (he : ∀ x, lookR (vv x) = some (e1 x)) (a : K) (hx : Kx.val? = some (kv a)) (l : List (K × α)) :
    lookV P t false (.mp (mrep kv vv l)) Kx = some (e1 (mget l a d)) := by
  unfold lookV
  simp only [hx, Option.bind_some]
  have : mpGet P t (mrep kv vv l) (kv a) false = some (vv (mget l a d)) := by
    refine pure?_of fun w => ?_
    unfold lookS
    simp only [Sem.run_bind, run_underlying ht, Result.andThen_ok, hk.chk, hk.find]
    unfold mget
    cases mfind l a 0 with
    | none => simp [hz]
    | some p => simp
  rw [this, Option.bind_some, he]
/-- v, ok := m[k] -/
theorem p_look_ok {t et : TypeId} {e1 : α → V} {Kx : V} (hk : MKey P kt kv) (ht : P.underlying t = some (.map kt et)) (d : α) (hz : ∀ w, (zeroValue et).run P w = .ok (vv d) w) (he : ∀ x, ofVal (vv x) = some (e1 x)) (a : K) (hx : Kx.val? = some (kv a)) (l : List (K × α)) :
    lookV P t true (.mp (mrep kv vv l)) Kx = some (.tup [e1 (mget l a d), vb (mhas l a)]) := by
  unfold lookV
  simp only [hx, Option.bind_some]
  have : mpGet P t (mrep kv vv l) (kv a) true = some (.tuple #[vv (mget l a d), .bool (mhas l a)]) := by
    refine pure?_of fun w => ?_
    unfold lookS
    simp only [Sem.run_bind, run_underlying ht, Result.andThen_ok, hk.chk, hk.find]
    unfold mget mhas
    cases mfind l a 0 with
    | none => simp [hz]
    | some p => simp
  rw [this, Option.bind_some]
  have hb : ofVal (.bool (mhas l a)) = some (vb (mhas l a)) := rfl
  show (tupL [vv (mget l a d), .bool (mhas l a)]).map V.tup = _
  simp only [tupL, he, hb, Option.bind_some, Option.map_some]
theorem p_put {t et : TypeId} {Kx Vx : V} (hk : MKey P kt kv) (ht : P.underlying t = some (.map kt et)) (a : K) (v : α) (hx : Kx.val? = some (kv a)) (hv : Vx.val? = some (vv v)) (l : List (K × α)) :
    putV P t (.mp (mrep kv vv l)) Kx Vx = some (.mp (mrep kv vv (mput l a v))) := by
  have hf : mpFind P t (mrep kv vv l) (kv a) = some ((mfind l a 0).map fun p => (p.1, vv p.2)) := by
    unfold mpFind
    simp only [ht]
    rw [pure?_of (hk.chk false a), Option.bind_some, pure?_of (hk.find vv l a)]
  unfold putV
  simp only [hx, hv, Option.bind_some]
  have : mpPut P t (mrep kv vv l) (kv a) (vv v) = some (mrep kv vv (mput l a v)) := by
    unfold mpPut mput
    rw [hf, Option.bind_some]
    cases hm : mfind l a 0 with
    | none => simp [mrep]
    | some p =>
      obtain ⟨i, u⟩ := p
      obtain ⟨n, h1, h2⟩ := mfind_some hm
      rw [Nat.zero_add] at h1
      subst h1
      have : (mrep kv vv l)[i]? = some (kv a, vv u) := by simp [mrep, h2]
      simp only [Option.map_some, this, Option.getD_some, hk.sb, if_true]
      simp [mrep, List.map_set]
  rw [this]; rfl
end
/-- slices.Clone -/
def cln {α : Type} (l : List α) : Option (List α) := if l.length ≤ 4294967296 then some l else none
theorem p_clone {α : Type} {c : α → List V} {k : Nat} (hc : ∀ x, (c x).length = k) (l : List α) : Rv (fun l : List α => V.sl (List.map c l)) (semClone k [V.sl (List.map c l)]) (cln l) := by
  intro y hy
  unfold cln at hy
  split at hy
  · rename_i h
    obtain rfl := Option.some.inj hy
    simp [semClone, hc, h]
  · cases hy
theorem p_cloneM {α : Type} {c : α → List V} {k : Nat} (hc : ∀ x, (c x).length = k) (l : List α) : Rv (fun l : List α => V.tup [V.osl k (List.map c l), V.any]) (semCloneM k [V.sl (List.map c l)]) (cln l) := by
  intro y hy
  unfold cln at hy
  split at hy
  · rename_i h
    obtain rfl := Option.some.inj hy
    simp [semCloneM, hc, h]
  · cases hy
theorem eV_errOf (n : Int) : eV n = .lit (errOf n) := rfl
def t_railsame_Error (e y : Int) : Option Bool := some (decide (e = y))
theorem ty_railsame_Error {n : Nat} (e y : Int) : Rv (fun x : Bool => vb x) (sem_Error n [eV e, vi y]) (t_railsame_Error e y) := rf_eq (s_Error n e y) rfl
section
variable {α β : Type} {f : α → List V} {e : β → Option V}
/-- nil, or an object -/
def pO (f : α → List V) : Option α → V
  | none => .lit (.pointer none)
  | some x => .obj (f x)
/-- what is done with what may be missing -/
def caseO (o : Option α) (f : α → Option β) (g : Option β) : Option β := match o with
  | some d => f d
  | none => g
theorem tpartK {o : Option α} {y : V} {Ko : List V → List V → Option V} {Kp : V → Option V} {Y1 : α → Option β} {Y2 : Option β} (h1 : ∀ d, Rf e (Ko [V.any, y] (f d)) (Y1 d)) (h2 : Rf e (Kp (.lit (.pointer none))) Y2) :
    Rf e (partK (V.tup [pO f o, y]) 0 Ko Kp) (caseO o Y1 Y2) := by
  cases o with
  | some d => exact h1 d
  | none => exact h2
theorem tpartP0 {x : V} {n : Int} {K : V → Option V} {Y : Option β} (h : Rf e (K (eV n)) Y) : Rf e (partP (V.tup [x, eV n]) 1 K) Y := h
theorem tobjK {l : List V} {K : List V → Option V} {Y : Option β} (h : Rf e (K l) Y) : Rf e (objK (V.obj l) K) Y := h
theorem p_olenF {c : α → List V} {k : Nat} {X : Option V} {l0 : List α} (h : X = some (.osl k (l0.map c))) (l : List α) (hl : l0 = l := by rfl) : ((X.bind oslR).map fun rows => V.lit (Go.Value.int Go.IntKind.i64 (List.length rows))) = some (vi (l.length : Int)) := by
  subst hl; rw [h]; simp [oslR]
theorem p_frzQ {l l' : List V} (h : frzL l = l') : some (frzQ (.obj l)) = some (V.ptr l') := by rw [← h]; rfl
theorem p_frzN {l l' : List V} (h : frzL l = l') : some (frz (.obj l)) = some (V.ptr l') := by rw [← h]; rfl
theorem p_gate0 {y z : V} (h : some y = some z) : some (gateA [] y) = some z := h
theorem p_gate1 {c w : Bool} {y z : V} (hc : c = w) (h : some y = some z) : some (gateA [(vb c, w)] y) = some z := by
  subst hc; rw [← h]; cases c <;> rfl
theorem rf_litQ {e : β → V} {X : Option V} {Y : Option β} (h : Rv e X Y) (hl : ∀ b, litQ (e b) = some (e b)) : Rv e (X.bind litQ) Y := fun b hb => by
  rw [h b hb]; exact hl b
theorem flat_all {c : α → List V} (h : ∀ a, ((c a).all fun x => x.val?.isSome) = true) (l : List α) : ((l.map c).all fun r => r.all fun x => x.val?.isSome) = true := by
  simp only [List.all_map, List.all_eq_true]
  intro a _
  simpa using h a
theorem p_flatQ {c : α → List V} (h : ∀ a, ((c a).all fun x => x.val?.isSome) = true) (l : List α) : flatQ (V.sl (l.map c)) = some (V.sl (l.map c)) := by
  show (if ((l.map c).all fun r => r.all fun x => x.val?.isSome) = true then some (V.sl (l.map c)) else none) = _
  rw [if_pos (flat_all h l)]
theorem rf_flatQ {c : α → List V} {X : Option V} {Y : Option (List α)} (h : Rv (fun l : List α => V.sl (l.map c)) X Y) (hf : ∀ a, ((c a).all fun x => x.val?.isSome) = true) : Rv (fun l : List α => V.sl (l.map c)) (X.bind flatQ) Y := fun b hb => by
  rw [h b hb]; exact p_flatQ hf b
end
end Go.Proofs.YtgfleiknigjnbaaDoor.Ty
