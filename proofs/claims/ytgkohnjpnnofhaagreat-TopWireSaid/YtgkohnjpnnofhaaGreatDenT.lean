/- A reader of Go code in plain values: trees that are owned: what lies behind a pointer or a slice that nobody else has. -/
import Derived.Test.YtgkohnjpnnofhaaGreatDenM
namespace Go.Proofs.YtgkohnjpnnofhaaGreat.Den
set_option linter.unusedSimpArgs false
set_option linter.unusedVariables false
open Go.RowKit
def V.cellsO : V → Option (List V)
 | .agg l => some l
 | .any => none
 | .tup _ => none
 | x => some [x]
def spliceO (l : List V) (off k : Nat) (cs : List V) : Option (List V) := if cs.length = k ∧ off + k ≤ l.length then some (l.take off ++ cs ++ l.drop (off + k)) else none
theorem spliceO_some {l cs out : List V} {off k : Nat} (h : spliceO l off k cs = some out) : cs.length = k ∧ off + k ≤ l.length ∧ out = l.take off ++ cs ++ l.drop (off + k) := by
 unfold spliceO at h
 split at h
 ·rename_i hc
  simp only [oE_] at h
  exact ⟨hc.1, hc.2, h.symm⟩
 ·cases h
theorem splice_at {l cs : List V} {off : Nat} (h : off + cs.length ≤ l.length) (i : Nat) : (l.take off ++ cs ++ l.drop (off + cs.length))[i]? = if off ≤ i ∧ i < off + cs.length then cs[i - off]? else l[i]? := by
 have h0 : (l.take off).length = off := by simp; omega
 by_cases h1 : i < off
 ·rw [if_neg (by omega), List.append_assoc, List.getElem?_append_left (by omega), List.getElem?_take, if_pos h1]
 ·by_cases h2 : i < off + cs.length
  ·rw [if_pos (by omega), List.append_assoc, List.getElem?_append_right (by omega), h0, List.getElem?_append_left (by omega)]
  ·rw [if_neg (by omega), List.getElem?_append_right (by simp; omega), List.getElem?_drop]
   congr 1
   simp; omega
theorem splice_len {l cs : List V} {off : Nat} (h : off + cs.length ≤ l.length) : (l.take off ++ cs ++ l.drop (off + cs.length)).length = l.length := by simp; omega
abbrev Hp := Nat → Option Obj
def blockAt : Value → Option Nat
 | .pointer (some ⟨b, 0, none⟩) => some b
 | .slice (some ⟨b, 0, none⟩) _ _ => some b
 | _ => none
def cellsAt (hp : Hp) : Value → Option (Array Value)
 | .agg cs => some cs
 | v => (blockAt v).bind fun b => match hp b with
  | some (.cells cs _ _) => some cs
  | _ => none
def stepV (hp : Hp) (v : Value) (s : Stp) : Option Value := (cellsAt hp v).bind (·[s.abs]?)
def walkV (hp : Hp) : Value → List Stp → Option Value
 | v, [] => some v
 | v, s :: p => (stepV hp v s).bind fun u => walkV hp u p
def nodeL (x : V) (i : Option Nat) (k : Nat) : Option (List V) := match x, i with
 | .obj l, none => some l
 | .osl k0 rows, some i => (rows[i]?).bind fun r => if k0 = k then some r else none
 | _, _ => none
def stepX (x : V) (s : Stp) : Option V := match x, s.i with
 | .agg l, none => l[s.j]?
 | .obj l, none => l[s.j]?
 | .osl k0 rows, some i => (rows[i]?).bind fun r => if k0 = s.k then r[s.j]? else none
 | _, _ => none
def getV : V → List Stp → Option V
 | x, [] => some x
 | x, s :: p => (stepX x s).bind fun y => getV y p
def putX (x : V) (s : Stp) (y : V) : V := match x, s.i with
 | .agg l, none => .agg (l.set s.j y)
 | .obj l, none => .obj (l.set s.j y)
 | .osl k0 rows, some i => .osl k0 (rows.set i ((rows.getD i []).set s.j y))
 | x, _ => x
def setN (x : V) (q : Stp) (k : Nat) (cs : List V) : Option V := match x, q.i with
 | .obj l, none => (spliceO l q.j k cs).map .obj
 | .osl k0 rows, some i => (rows[i]?).bind fun r => if k0 = q.k then (spliceO r q.j k cs).map fun r' => .osl k0 (rows.set i r') else none
 | _, _ => none
def setV : V → List Stp → Stp → Nat → List V → Option V
 | x, [], q, k, cs => setN x q k cs
 | x, s :: p, q, k, cs => (stepX x s).bind fun y => (setV y p q k cs).map fun y' => putX x s y'
def NoFz (fz : Nat × Nat) (n : Nat) : Prop := ∀ j, j < n → ¬ (fz.1 ≤ j ∧ j < fz.2)
theorem noFz0 (n : Nat) : NoFz (0, 0) n := fun j _ h => by simp at h
inductive RelT (hp : Hp) (M : Mem) : (Nat → Prop) → Value → V → Prop
 | pure (F : Nat → Prop) (v : Value) (x : V) (h : Rel M v x) : RelT hp M F v x
 | agg (F : Nat → Prop) (cs : Array Value) (l : List V) (Fi : Nat → Nat → Prop) (hs : cs.size = l.length) (h1 : ∀ i, i < l.length → (cs.getD i undef).oneCell' = true)
   (hr : ∀ i x, l[i]? = some x → RelT hp M (Fi i) (cs.getD i undef) x) (sub : ∀ i q, Fi i q → F q) (dis : ∀ i i' q, Fi i q → Fi i' q → i = i') : RelT hp M F (.agg cs) (.agg l)
 | tup (F : Nat → Prop) (cs : Array Value) (l : List V) (Fi : Nat → Nat → Prop) (hs : cs.size = l.length)
   (hr : ∀ i x, l[i]? = some x → RelT hp M (Fi i) (cs.getD i undef) x) (sub : ∀ i q, Fi i q → F q) (dis : ∀ i i' q, Fi i q → Fi i' q → i = i') : RelT hp M F (.tuple cs) (.tup l)
 | obj (F : Nat → Prop) (b : Nat) (cs : Array Value) (ty : TypeId) (fz : Nat × Nat) (hz : NoFz fz cs.size) (l : List V) (Fi : Nat → Nat → Prop) (hb : F b) (hh : hp b = some (.cells cs ty fz)) (hs : cs.size = l.length) (h1 : ∀ i, i < l.length → (cs.getD i undef).oneCell' = true)
   (hr : ∀ i x, l[i]? = some x → RelT hp M (Fi i) (cs.getD i undef) x) (sub : ∀ i q, Fi i q → F q ∧ q ≠ b) (dis : ∀ i i' q, Fi i q → Fi i' q → i = i') : RelT hp M F (.pointer (some ⟨b, 0, none⟩)) (.obj l)
 | osl (F : Nat → Prop) (b c k : Nat) (cs : Array Value) (ty : TypeId) (fz : Nat × Nat) (hz : NoFz fz cs.size) (rows : List (List V)) (Fi : Nat → Nat → Prop) (hb : F b) (hh : hp b = some (.cells cs ty fz)) (hs : cs.size = c * k) (hn : rows.length ≤ c) (hm : c ≤ maxLen) (hk : ∀ r ∈ rows, r.length = k)
   (h1 : ∀ i r, rows[i]? = some r → ∀ j, j < k → (cs.getD (i * k + j) undef).oneCell' = true)
   (hr : ∀ i r, rows[i]? = some r → ∀ j x, r[j]? = some x → RelT hp M (Fi (i * k + j)) (cs.getD (i * k + j) undef) x) (sub : ∀ i q, Fi i q → F q ∧ q ≠ b) (dis : ∀ i i' q, Fi i q → Fi i' q → i = i') : RelT hp M F (.slice (some ⟨b, 0, none⟩) rows.length c) (.osl k rows)
 | oslNil (F : Nat → Prop) (k : Nat) : RelT hp M F (.slice none 0 0) (.osl k [])
 | mp (F : Nat → Prop) (b : Nat) (es : Array MapEntry) (clock : Nat) (l : List (Value × Value)) (hb : F b) (hh : hp b = some (.map es clock)) (hl : pairs es = l) : RelT hp M F (.map (some b)) (.mp l)
section
variable {hp hp' : Hp} {M M' : Mem} {F G : Nat → Prop} {v : Value} {x : V}
theorem RelT.congr (h : RelT hp M F v x) : (∀ q, F q → hp' q = hp q) → RelT hp' M F v x := by
 induction h with
 | pure F v x h => intro _; exact .pure F v x h
 | agg F cs l Fi hs h1 _ sub dis ih => intro hq; exact .agg F cs l Fi hs h1 (fun i x hx => ih i x hx fun q hqi => hq q (sub i q hqi)) sub dis
 | tup F cs l Fi hs _ sub dis ih => intro hq; exact .tup F cs l Fi hs (fun i x hx => ih i x hx fun q hqi => hq q (sub i q hqi)) sub dis
 | obj F b cs ty fz hz l Fi hb hh hs h1 _ sub dis ih => intro hq; exact .obj F b cs ty fz hz l Fi hb ((hq b hb).trans hh) hs h1 (fun i x hx => ih i x hx fun q hqi => hq q (sub i q hqi).1) sub dis
 | osl F b c k cs ty fz hz rows Fi hb hh hs hn hm hk h1 _ sub dis ih => intro hq; exact .osl F b c k cs ty fz hz rows Fi hb ((hq b hb).trans hh) hs hn hm hk h1 (fun i r hr j x hx => ih i r hr j x hx fun q hqi => hq q (sub _ q hqi).1) sub dis
 | oslNil F k => intro _; exact .oslNil F k
 | mp F b es clock l hb hh hl => intro hq; exact .mp F b es clock l hb ((hq b hb).trans hh) hl
theorem RelT.mono (h : RelT hp M F v x) (hM : ∀ b o u, M b o = some u → M' b o = some u) : RelT hp M' F v x := by
 induction h with
 | pure F v x h => exact .pure F v x (h.mono hM)
 | agg F cs l Fi hs h1 _ sub dis ih => exact .agg F cs l Fi hs h1 ih sub dis
 | tup F cs l Fi hs _ sub dis ih => exact .tup F cs l Fi hs ih sub dis
 | obj F b cs ty fz hz l Fi hb hh hs h1 _ sub dis ih => exact .obj F b cs ty fz hz l Fi hb hh hs h1 ih sub dis
 | osl F b c k cs ty fz hz rows Fi hb hh hs hn hm hk h1 _ sub dis ih => exact .osl F b c k cs ty fz hz rows Fi hb hh hs hn hm hk h1 ih sub dis
 | oslNil F k => exact .oslNil F k
 | mp F b es clock l hb hh hl => exact .mp F b es clock l hb hh hl
theorem RelT.weak (h : RelT hp M F v x) (hF : ∀ q, F q → G q) : RelT hp M G v x := by
 cases h with
 | pure _ _ _ h => exact .pure G v x h
 | agg _ cs l Fi hs h1 hr sub dis => exact .agg G cs l Fi hs h1 hr (fun i q h => hF q (sub i q h)) dis
 | tup _ cs l Fi hs hr sub dis => exact .tup G cs l Fi hs hr (fun i q h => hF q (sub i q h)) dis
 | obj _ b cs ty fz hz l Fi hb hh hs h1 hr sub dis => exact .obj G b cs ty fz hz l Fi (hF b hb) hh hs h1 hr (fun i q h => ⟨hF q (sub i q h).1, (sub i q h).2⟩) dis
 | osl _ b c k cs ty fz hz rows Fi hb hh hs hn hm hk h1 hr sub dis => exact .osl G b c k cs ty fz hz rows Fi (hF b hb) hh hs hn hm hk h1 hr (fun i q h => ⟨hF q (sub i q h).1, (sub i q h).2⟩) dis
 | oslNil _ k => exact .oslNil G k
 | mp _ b es clock l hb hh hl => exact .mp G b es clock l (hF b hb) hh hl
theorem cells_at {cs : Array Value} {i : Nat} (h : i < cs.size) : cs[i]? = some (cs.getD i undef) := by simp [Array.getD, h]
theorem rel_obj {l : List V} : ¬ Rel M v (.obj l) := fun h => by cases h
theorem rel_mp {l : List (Value × Value)} : ¬ Rel M v (.mp l) := fun h => by cases h
theorem rel_osl {k : Nat} {l : List (List V)} : ¬ Rel M v (.osl k l) := fun h => by cases h
theorem row_lt {i j k n : Nat} (hi : i < n) (hj : j < k) : i * k + j < n * k := by
 have : (i + 1) * k ≤ n * k := Nat.mul_le_mul_right _ (by omega)
 rw [Nat.add_mul] at this; omega
theorem row_inj {i j i' j' k : Nat} (hj : j < k) (hj' : j' < k) (h : i * k + j = i' * k + j') : i = i' ∧ j = j' := by
 have hk : 0 < k := by omega
 have h1 : (i * k + j) / k = i := by rw [Nat.mul_comm, Nat.mul_add_div hk, Nat.div_eq_of_lt hj]; omega
 have h2 : (i' * k + j') / k = i' := by rw [Nat.mul_comm, Nat.mul_add_div hk, Nat.div_eq_of_lt hj']; omega
 have : i = i' := by rw [← h1, h, h2]
 exact ⟨this, by subst this; omega⟩
theorem RelT.step (h : RelT hp M F v x) {s : Stp} {y : V} (hy : stepX x s = some y) :
  ∃ u G, stepV hp v s = some u ∧ u.oneCell' = true ∧ RelT hp M G u y ∧ (∀ q, G q → F q) ∧ (∀ b, blockAt v = some b → F b → ¬ G b) := by
 cases h with
 | pure _ _ _ h =>
  unfold stepX at hy
  split at hy
  ·cases h with
   | agg cs l hs h1 hr =>
    have hlt := (gS_ hy).1
    refine ⟨_, fun _ => False, ?_, h1 _ hlt, .pure _ _ _ (hr _ _ hy), fun _ h => h.elim, fun _ _ _ h => h⟩
    rename_i hi
    simp only [stepV, cellsAt, oS_, Stp.abs, hi]
    exact cells_at (by rw [hs]; exact hlt)
  ·exact absurd h rel_obj
  ·exact absurd h rel_osl
  ·cases hy
 | agg _ cs l Fi hs h1 hr sub dis =>
  unfold stepX at hy
  split at hy
  ·rename_i l' e1 e2
   simp only [V.agg.injEq] at e1
   subst e1
   have hlt := (gS_ hy).1
   refine ⟨_, Fi s.j, ?_, h1 _ hlt, hr _ _ hy, fun q h => sub _ q h, fun b hb => by simp [blockAt] at hb⟩
   simp only [stepV, cellsAt, oS_, Stp.abs, e2]
   exact cells_at (by rw [hs]; exact hlt)
  ·rename_i e _; cases e
  ·rename_i e _; cases e
  ·cases hy
 | obj _ b cs ty fz hz l Fi hb hh hs h1 hr sub dis =>
  unfold stepX at hy
  split at hy
  ·rename_i e _; cases e
  ·rename_i l' e1 e2
   simp only [V.obj.injEq] at e1
   subst e1
   have hlt := (gS_ hy).1
   refine ⟨_, Fi s.j, ?_, h1 _ hlt, hr _ _ hy, fun q h => (sub _ q h).1, fun b' hb' _ hG => ?_⟩
   ·simp only [stepV, cellsAt, blockAt, hh, oS_, Stp.abs, e2]
    exact cells_at (by rw [hs]; exact hlt)
   ·simp only [blockAt, oE_] at hb'
    subst hb'
    exact (sub _ _ hG).2 rfl
  ·rename_i e _; cases e
  ·cases hy
 | osl _ b c k cs ty fz hz rows Fi hb hh hs hn hm hk h1 hr sub dis =>
  unfold stepX at hy
  split at hy
  ·rename_i e _; cases e
  ·rename_i e _; cases e
  ·rename_i k0 rows' i e1 e2
   simp only [V.osl.injEq] at e1
   obtain ⟨rfl, rfl⟩ := e1
   obtain ⟨r, hr', hy⟩ := oB_ hy
   split at hy
   ·rename_i hlen
    have hlt := (gS_ hy).1
    have hi := (gS_ hr').1
    have hkk := hk r (List.mem_of_getElem? hr')
    have e3 : s.k = k := by omega
    have hjk : s.j < k := by omega
    refine ⟨_, Fi (i * k + s.j), ?_, h1 i r hr' s.j hjk, hr i r hr' _ _ hy, fun q h => (sub _ q h).1, fun b' hb' _ hG => ?_⟩
    ·simp only [stepV, cellsAt, blockAt, hh, oS_, Stp.abs, e2, e3]
     refine cells_at ?_
     rw [hs]
     exact Nat.lt_of_lt_of_le (row_lt hi hjk) (Nat.mul_le_mul_right _ hn)
    ·simp only [blockAt, oE_] at hb'
     subst hb'
     exact (sub _ _ hG).2 rfl
   ·cases hy
  ·cases hy
 | oslNil _ _ =>
  unfold stepX at hy
  split at hy
  ·rename_i e _; cases e
  ·rename_i e _; cases e
  ·rename_i k0 rows' i e1 e2
   simp only [V.osl.injEq] at e1
   obtain ⟨rfl, rfl⟩ := e1
   simp at hy
  ·cases hy
 | mp => simp [stepX] at hy
 | tup => simp [stepX] at hy
theorem RelT.get : ∀ (p : List Stp) {F : Nat → Prop} {v : Value} {x y : V}, RelT hp M F v x → getV x p = some y → ∃ u G, walkV hp v p = some u ∧ RelT hp M G u y ∧ (∀ q, G q → F q) ∧ (p ≠ [] → u.oneCell' = true)
 | [], F, v, x, y, h, hy => by
  simp only [getV, oE_] at hy
  subst hy
  exact ⟨v, F, rfl, h, fun _ h => h, fun h => absurd rfl h⟩
 | s :: p, F, v, x, y, h, hy => by
  simp only [getV] at hy
  obtain ⟨z, hz, hy⟩ := oB_ hy
  obtain ⟨u, G, h1, h2, h3, h4, _⟩ := h.step hz
  obtain ⟨u2, G2, h5, h6, h7, h8⟩ := RelT.get p h3 hy
  refine ⟨u2, G2, by simp only [walkV, h1, oS_]; exact h5, h6, fun q hq => h4 q (h7 q hq), fun _ => ?_⟩
  cases p with
  | nil => simp only [walkV, oE_] at h5; subst h5; exact h2
  | cons => exact h8 (by simp)
theorem RelT.focus (h : RelT hp M F v x) {s : Stp} {y : V} (hy : stepX x s = some y) :
  ∃ u G, stepV hp v s = some u ∧ u.oneCell' = true ∧ RelT hp M G u y ∧ (∀ q, G q → F q) ∧ (∀ b, blockAt v = some b → F b → ¬ G b) ∧ (∀ b ob, G b → cellsAt (upd hp b ob) v = cellsAt hp v) ∧
   (∀ s2 y2, stepX x s2 = some y2 → ∃ u2 G2, stepV hp v s2 = some u2 ∧ RelT hp M G2 u2 y2 ∧ ((u2 = u ∧ y2 = y) ∨ ∀ q, G2 q → ¬ G q)) ∧
   ∀ (hp' : Hp) (M' : Mem) (y' : V) (G' H : Nat → Prop), (∀ b o u, M b o = some u → M' b o = some u) → (∀ q, F q → ¬ G q → hp' q = hp q) → RelT hp' M' G' u y' → (∀ q, G' q → F q → G q) → (∀ q, F q → ¬ G q → H q) → (∀ q, G' q → H q) → RelT hp' M' H v (putX x s y') := by
 cases h with
 | pure _ _ _ h =>
  unfold stepX at hy
  split at hy
  ·cases h with
   | agg cs l hs h1 hr =>
    have hlt := (gS_ hy).1
    rename_i hi
    refine ⟨_, fun _ => False, ?_, h1 _ hlt, .pure _ _ _ (hr _ _ hy), fun _ h => h.elim, fun _ _ _ h => h, fun _ _ h => h.elim, fun s2 y2 h2 => ?_, fun hp' M' y' G' H hM _ hy' _ _ hG => ?_⟩
    ·simp only [stepV, cellsAt, oS_, Stp.abs, hi]
     exact cells_at (by rw [hs]; exact hlt)
    ·obtain ⟨u2, G2, g1, _, g3, _⟩ := RelT.step (hp := hp) (F := fun _ => False) (.pure _ _ _ (.agg cs _ hs h1 hr)) h2
     refine ⟨u2, fun _ => False, g1, ?_, .inr fun _ h => h.elim⟩
     unfold stepX at h2
     split at h2
     ·rename_i l2 e9 e8
      simp only [V.agg.injEq] at e9
      subst e9
      have hlt2 := (gS_ h2).1
      simp only [stepV, cellsAt, oS_, Stp.abs, e8] at g1
      rw [cells_at (by rw [hs]; exact hlt2)] at g1
      simp only [oE_] at g1
      subst g1
      exact .pure _ _ _ (hr _ _ h2)
     ·rename_i e _; cases e
     ·rename_i e _; cases e
     ·cases h2
    ·simp only [putX, hi]
     refine .agg H cs _ (fun i => if i = s.j then G' else fun _ => False) (by simp [hs]) (fun i hil => h1 i (by simpa using hil)) (fun i z hz => ?_) (fun i q hq => ?_) (fun i i' q hq hq' => ?_)
     ·by_cases e : i = s.j
      ·subst e
       rw [List.getElem?_set_self hlt] at hz
       simp only [oE_] at hz
       subst hz
       simp only [if_true]; exact hy'
      ·rw [List.getElem?_set_ne (Ne.symm e)] at hz
       simp only [if_neg e]
       exact .pure _ _ _ ((hr i z hz).mono hM)
     ·by_cases e : i = s.j
      ·simp only [if_pos e] at hq; exact hG q hq
      ·simp only [if_neg e] at hq
     ·by_cases e : i = s.j <;> by_cases e' : i' = s.j
      ·rw [e, e']
      ·simp only [if_neg e'] at hq'
      ·simp only [if_neg e] at hq
      ·simp only [if_neg e] at hq
  ·exact absurd h rel_obj
  ·exact absurd h rel_osl
  ·cases hy
 | agg _ cs l Fi hs h1 hr sub dis =>
  unfold stepX at hy
  split at hy
  ·rename_i l' e1 hi
   simp only [V.agg.injEq] at e1
   subst e1
   have hlt := (gS_ hy).1
   refine ⟨_, Fi s.j, ?_, h1 _ hlt, hr _ _ hy, fun q h => sub _ q h, fun b hb => by simp [blockAt] at hb, fun _ _ _ => rfl, fun s2 y2 h2 => ?_, fun hp' M' y' G' H hM hhp hy' hGF hFH hG => ?_⟩
   ·simp only [stepV, cellsAt, oS_, Stp.abs, hi]
    exact cells_at (by rw [hs]; exact hlt)
   ·unfold stepX at h2
    split at h2
    ·rename_i l2 e9 e8
     simp only [V.agg.injEq] at e9
     subst e9
     have hlt2 := (gS_ h2).1
     refine ⟨cs.getD s2.j undef, Fi s2.j, ?_, hr _ _ h2, ?_⟩
     ·simp only [stepV, cellsAt, oS_, Stp.abs, e8]
      exact cells_at (by rw [hs]; exact hlt2)
     ·by_cases e : s2.j = s.j
      ·left; rw [e] at h2 ⊢; rw [hy] at h2; exact ⟨rfl, (oJ_ h2).symm⟩
      ·exact .inr fun q h1 h2 => e (dis _ _ q h1 h2)
    ·rename_i e _; cases e
    ·rename_i e _; cases e
    ·cases h2
   ·simp only [putX, hi]
    have hoth : ∀ i, i ≠ s.j → ∀ q, Fi i q → F q ∧ ¬ Fi s.j q := fun i hne q hq => ⟨sub i q hq, fun h' => hne (dis i s.j q hq h')⟩
    refine .agg H cs _ (fun i => if i = s.j then G' else Fi i) (by simp [hs]) (fun i hil => h1 i (by simpa using hil)) (fun i z hz => ?_) (fun i q hq => ?_) (fun i i' q hq hq' => ?_)
    ·by_cases e : i = s.j
     ·subst e
      rw [List.getElem?_set_self hlt] at hz
      simp only [oE_] at hz
      subst hz
      simp only [if_true]; exact hy'
     ·rw [List.getElem?_set_ne (Ne.symm e)] at hz
      simp only [if_neg e]
      exact ((hr i z hz).congr fun q hq => hhp q (hoth i e q hq).1 (hoth i e q hq).2).mono hM
    ·by_cases e : i = s.j
     ·simp only [if_pos e] at hq; exact hG q hq
     ·simp only [if_neg e] at hq; exact hFH q (hoth i e q hq).1 (hoth i e q hq).2
    ·by_cases e : i = s.j <;> by_cases e' : i' = s.j
     ·rw [e, e']
     ·simp only [if_pos e, if_neg e'] at hq hq'; exact absurd (hGF q hq (hoth i' e' q hq').1) (hoth i' e' q hq').2
     ·simp only [if_neg e, if_pos e'] at hq hq'; exact absurd (hGF q hq' (hoth i e q hq).1) (hoth i e q hq).2
     ·simp only [if_neg e, if_neg e'] at hq hq'; exact dis i i' q hq hq'
  ·rename_i e _; cases e
  ·rename_i e _; cases e
  ·cases hy
 | obj _ b cs ty fz hz l Fi hb hh hs h1 hr sub dis =>
  unfold stepX at hy
  split at hy
  ·rename_i e _; cases e
  ·rename_i l' e1 hi
   simp only [V.obj.injEq] at e1
   subst e1
   have hlt := (gS_ hy).1
   have hbG : ¬ Fi s.j b := fun h => (sub _ _ h).2 rfl
   refine ⟨_, Fi s.j, ?_, h1 _ hlt, hr _ _ hy, fun q h => (sub _ q h).1, fun b' hb' _ => ?_, fun b2 ob hb2 => ?_, fun s2 y2 h2 => ?_, fun hp' M' y' G' H hM hhp hy' hGF hFH hG => ?_⟩
   ·simp only [stepV, cellsAt, blockAt, hh, oS_, Stp.abs, hi]
    exact cells_at (by rw [hs]; exact hlt)
   ·simp only [blockAt, oE_] at hb'
    subst hb'
    exact hbG
   ·have hne : b ≠ b2 := fun e => hbG (by rw [e]; exact hb2)
    simp only [cellsAt, blockAt, oS_, upd_ne _ _ hne]
   ·unfold stepX at h2
    split at h2
    ·rename_i e _; cases e
    ·rename_i l2 e9 e8
     simp only [V.obj.injEq] at e9
     subst e9
     have hlt2 := (gS_ h2).1
     refine ⟨cs.getD s2.j undef, Fi s2.j, ?_, hr _ _ h2, ?_⟩
     ·simp only [stepV, cellsAt, blockAt, hh, oS_, Stp.abs, e8]
      exact cells_at (by rw [hs]; exact hlt2)
     ·by_cases e : s2.j = s.j
      ·left; rw [e] at h2 ⊢; rw [hy] at h2; exact ⟨rfl, (oJ_ h2).symm⟩
      ·exact .inr fun q h1 h2 => e (dis _ _ q h1 h2)
    ·rename_i e _; cases e
    ·cases h2
   ·simp only [putX, hi]
    have hoth : ∀ i, i ≠ s.j → ∀ q, Fi i q → F q ∧ ¬ Fi s.j q := fun i hne q hq => ⟨(sub i q hq).1, fun h' => hne (dis i s.j q hq h')⟩
    refine .obj H b cs ty fz hz _ (fun i => if i = s.j then G' else Fi i) (hFH b hb hbG) ((hhp b hb hbG).trans hh) (by simp [hs]) (fun i hil => h1 i (by simpa using hil)) (fun i z hz => ?_) (fun i q hq => ?_) (fun i i' q hq hq' => ?_)
    ·by_cases e : i = s.j
     ·subst e
      rw [List.getElem?_set_self hlt] at hz
      simp only [oE_] at hz
      subst hz
      simp only [if_true]; exact hy'
     ·rw [List.getElem?_set_ne (Ne.symm e)] at hz
      simp only [if_neg e]
      exact ((hr i z hz).congr fun q hq => hhp q (hoth i e q hq).1 (hoth i e q hq).2).mono hM
    ·by_cases e : i = s.j
     ·simp only [if_pos e] at hq; exact ⟨hG q hq, fun e2 => by subst e2; exact hbG (hGF q hq hb)⟩
     ·simp only [if_neg e] at hq; exact ⟨hFH q (hoth i e q hq).1 (hoth i e q hq).2, (sub i q hq).2⟩
    ·by_cases e : i = s.j <;> by_cases e' : i' = s.j
     ·rw [e, e']
     ·simp only [if_pos e, if_neg e'] at hq hq'; exact absurd (hGF q hq (hoth i' e' q hq').1) (hoth i' e' q hq').2
     ·simp only [if_neg e, if_pos e'] at hq hq'; exact absurd (hGF q hq' (hoth i e q hq).1) (hoth i e q hq).2
     ·simp only [if_neg e, if_neg e'] at hq hq'; exact dis i i' q hq hq'
  ·rename_i e _; cases e
  ·cases hy
 | osl _ b c k cs ty fz hz rows Fi hb hh hs hn hm hk h1 hr sub dis =>
  unfold stepX at hy
  split at hy
  ·rename_i e _; cases e
  ·rename_i e _; cases e
  ·rename_i k0 rows' i e1 hi
   simp only [V.osl.injEq] at e1
   obtain ⟨rfl, rfl⟩ := e1
   obtain ⟨r, hr', hy⟩ := oB_ hy
   split at hy
   ·rename_i hlen
    have hlt := (gS_ hy).1
    have hil := (gS_ hr').1
    have hkk := hk r (List.mem_of_getElem? hr')
    have e3 : s.k = k := by omega
    have hjk : s.j < k := by omega
    have hbG : ¬ Fi (i * k + s.j) b := fun h => (sub _ _ h).2 rfl
    refine ⟨_, Fi (i * k + s.j), ?_, h1 i r hr' s.j hjk, hr i r hr' _ _ hy, fun q h => (sub _ q h).1, fun b' hb' _ => ?_, fun b2 ob hb2 => ?_, fun s2 y2 h2 => ?_, fun hp' M' y' G' H hM hhp hy' hGF hFH hG => ?_⟩
    ·simp only [stepV, cellsAt, blockAt, hh, oS_, Stp.abs, hi, e3]
     refine cells_at ?_
     rw [hs]
     exact Nat.lt_of_lt_of_le (row_lt hil hjk) (Nat.mul_le_mul_right _ hn)
    ·simp only [blockAt, oE_] at hb'
     subst hb'
     exact hbG
    ·have hne : b ≠ b2 := fun e => hbG (by rw [e]; exact hb2)
     simp only [cellsAt, blockAt, oS_, upd_ne _ _ hne]
    ·unfold stepX at h2
     split at h2
     ·rename_i e _; cases e
     ·rename_i e _; cases e
     ·rename_i k2 rows2 i2 e9 e8
      simp only [V.osl.injEq] at e9
      obtain ⟨rfl, rfl⟩ := e9
      obtain ⟨r2, hr2, h2⟩ := oB_ h2
      split at h2
      ·rename_i hlen2
       have hlt2 := (gS_ h2).1
       have hil2 := (gS_ hr2).1
       have hkk2 := hk r2 (List.mem_of_getElem? hr2)
       have e32 : s2.k = k := by omega
       have hjk2 : s2.j < k := by omega
       refine ⟨cs.getD (i2 * k + s2.j) undef, Fi (i2 * k + s2.j), ?_, hr i2 r2 hr2 _ _ h2, ?_⟩
       ·simp only [stepV, cellsAt, blockAt, hh, oS_, Stp.abs, e8, e32]
        refine cells_at ?_
        rw [hs]
        exact Nat.lt_of_lt_of_le (row_lt hil2 hjk2) (Nat.mul_le_mul_right _ hn)
       ·by_cases e : i2 * k + s2.j = i * k + s.j
        ·obtain ⟨e4, e5⟩ := row_inj hjk2 hjk e
         left
         subst e4
         rw [hr'] at hr2
         obtain rfl := oJ_ hr2
         rw [e5] at h2
         have h9 : r[s.j]? = some y := by assumption
         rw [h9] at h2
         exact ⟨by rw [e5], (oJ_ h2).symm⟩
        ·exact .inr fun q h1 h2 => e (dis _ _ q h1 h2)
      ·cases h2
     ·cases h2
    ·simp only [putX, hi]
     have hgr : rows.getD i [] = r := by simp [List.getD, hr']
     rw [hgr]
     have hoth : ∀ m, m ≠ i * k + s.j → ∀ q, Fi m q → F q ∧ ¬ Fi (i * k + s.j) q := fun m hne q hq => ⟨(sub m q hq).1, fun h' => hne (dis m _ q hq h')⟩
     have hrow : ∀ i2 r2, (rows.set i (r.set s.j y'))[i2]? = some r2 → ∃ r0, rows[i2]? = some r0 ∧ r0.length = r2.length ∧ (i2 ≠ i → r0 = r2) ∧ (i2 = i → r2 = r.set s.j y' ∧ r0 = r) := by
      intro i2 r2 h2
      by_cases e : i2 = i
      ·subst e
       rw [List.getElem?_set_self hil] at h2
       simp only [oE_] at h2
       subst h2
       exact ⟨r, hr', by simp, fun h => absurd rfl h, fun _ => ⟨rfl, rfl⟩⟩
      ·rw [List.getElem?_set_ne (Ne.symm e)] at h2
       exact ⟨r2, h2, rfl, fun _ => rfl, fun h => absurd h e⟩
     have hlen2 : (rows.set i (r.set s.j y')).length = rows.length := by simp
     have main : RelT hp' M' H (.slice (some ⟨b, 0, none⟩) (rows.set i (r.set s.j y')).length c) (.osl k (rows.set i (r.set s.j y'))) := by
      refine .osl H b c k cs ty fz hz _ (fun m => if m = i * k + s.j then G' else Fi m) (hFH b hb hbG) ((hhp b hb hbG).trans hh) hs (by rw [hlen2]; exact hn) hm (fun r2 hr2 => ?_) (fun i2 r2 h2 j hj => ?_) (fun i2 r2 h2 j z hz => ?_) (fun m q hq => ?_) (fun m m' q hq hq' => ?_)
      ·obtain ⟨i2, hi2⟩ := List.getElem?_of_mem hr2
       obtain ⟨r0, h3, h4, _⟩ := hrow i2 r2 hi2
       rw [← h4]; exact hk r0 (List.mem_of_getElem? h3)
      ·obtain ⟨r0, h3, _⟩ := hrow i2 r2 h2
       exact h1 i2 r0 h3 j hj
      ·obtain ⟨r0, h3, h4, h5, h6⟩ := hrow i2 r2 h2
       have hjk2 : j < k := by have := (gS_ hz).1; rw [← h4, hk r0 (List.mem_of_getElem? h3)] at this; exact this
       by_cases e : i2 * k + j = i * k + s.j
       ·obtain ⟨e4, e5⟩ := row_inj hjk2 hjk e
        subst e4
        obtain ⟨h7, _⟩ := h6 rfl
        subst h7 e5
        rw [List.getElem?_set_self hlt] at hz
        simp only [oE_] at hz
        subst hz
        simp only [if_true]; exact hy'
       ·simp only [if_neg e]
        have hz' : r0[j]? = some z := by
         by_cases e4 : i2 = i
         ·obtain ⟨h7, h8⟩ := h6 e4
          have hne : s.j ≠ j := fun e5 => e (by rw [e4, e5])
          rw [h7, List.getElem?_set_ne hne] at hz
          rw [h8]; exact hz
         ·rw [h5 e4]; exact hz
        exact ((hr i2 r0 h3 j z hz').congr fun q hq => hhp q (hoth _ e q hq).1 (hoth _ e q hq).2).mono hM
      ·by_cases e : m = i * k + s.j
       ·simp only [if_pos e] at hq; exact ⟨hG q hq, fun e2 => by subst e2; exact hbG (hGF q hq hb)⟩
       ·simp only [if_neg e] at hq; exact ⟨hFH q (hoth m e q hq).1 (hoth m e q hq).2, (sub m q hq).2⟩
      ·by_cases e : m = i * k + s.j <;> by_cases e' : m' = i * k + s.j
       ·rw [e, e']
       ·simp only [if_pos e, if_neg e'] at hq hq'; exact absurd (hGF q hq (hoth m' e' q hq').1) (hoth m' e' q hq').2
       ·simp only [if_neg e, if_pos e'] at hq hq'; exact absurd (hGF q hq' (hoth m e q hq).1) (hoth m e q hq).2
       ·simp only [if_neg e, if_neg e'] at hq hq'; exact dis m m' q hq hq'
     rw [hlen2] at main
     exact main
   ·cases hy
  ·cases hy
 | oslNil _ _ =>
  unfold stepX at hy
  split at hy
  ·rename_i e _; cases e
  ·rename_i e _; cases e
  ·rename_i k0 rows' i e1 hi
   simp only [V.osl.injEq] at e1
   obtain ⟨rfl, rfl⟩ := e1
   simp at hy
  ·cases hy
 | mp => simp [stepX] at hy
 | tup => simp [stepX] at hy
theorem cells_congr (h : RelT hp M F v x) {s : Stp} {y : V} (hy : stepX x s = some y) (hh : ∀ q, F q → hp' q = hp q) : cellsAt hp' v = cellsAt hp v := by
 cases h with
 | pure _ _ _ h =>
  unfold stepX at hy
  split at hy
  ·cases h with
   | agg cs l hs h1 hr => rfl
  ·exact absurd h rel_obj
  ·exact absurd h rel_osl
  ·cases hy
 | agg => rfl
 | obj _ b cs ty fz hz l Fi hb hh2 => simp only [cellsAt, blockAt, oS_, hh b hb]
 | osl _ b c k cs ty fz hz rows Fi hb hh2 => simp only [cellsAt, blockAt, oS_, hh b hb]
 | oslNil => rfl
 | mp => simp [stepX] at hy
 | tup => simp [stepX] at hy
theorem walk_congr : ∀ (p : List Stp) {F : Nat → Prop} {v : Value} {x y : V}, RelT hp M F v x → getV x p = some y → (∀ q, F q → hp' q = hp q) → walkV hp' v p = walkV hp v p
 | [], _, _, _, _, _, _, _ => rfl
 | s :: p, F, v, x, y, h, hy, hh => by
  simp only [getV] at hy
  obtain ⟨z, hz, hy⟩ := oB_ hy
  obtain ⟨u, G, h1, _, h3, h4, _⟩ := h.step hz
  simp only [walkV, stepV, cells_congr h hz hh]
  simp only [stepV] at h1
  rw [h1]
  exact walk_congr p h3 hy fun q hq => hh q (h4 q hq)
theorem RelT.setN (h : RelT hp M F v x) {q : Stp} {k : Nat} {xs : List V} {x' : V} (hx : setN x q k xs = some x') {vals : List Value} {G : Nat → Nat → Prop} (hl : vals.length = xs.length)
  (hv : ∀ m z, xs[m]? = some z → (vals.getD m undef).oneCell' = true ∧ RelT hp M (G m) (vals.getD m undef) z) (hd : ∀ m m' q, G m q → G m' q → m = m') (hGF : ∀ m q, G m q → ¬ F q) :
  ∃ b cs ty fz, blockAt v = some b ∧ F b ∧ hp b = some (.cells cs ty fz) ∧ NoFz fz cs.size ∧ q.abs + xs.length ≤ cs.size ∧ xs.length = k ∧
   ∀ (hp' : Hp) (cs' : Array Value) (H : Nat → Prop), cs'.size = cs.size → (∀ i, cs'.getD i undef = if q.abs ≤ i ∧ i < q.abs + xs.length then vals.getD (i - q.abs) undef else cs.getD i undef) → hp' b = some (.cells cs' ty fz) → (∀ q, q ≠ b → hp' q = hp q) → (∀ q, F q → H q) → (∀ m q, G m q → H q) → RelT hp' M H v x' := by
 unfold Den.setN at hx
 split at hx
 ·rename_i l hi
  obtain ⟨l', hs', rfl⟩ := oM_ hx
  obtain ⟨e0, e1, rfl⟩ := spliceO_some hs'
  subst e0
  cases h with
  | pure _ _ _ h => exact absurd h rel_obj
  | obj _ b cs ty fz hz _ Fi hb hh hs h1 hr sub dis =>
   have ha : q.abs = q.j := by simp [Stp.abs, hi]
   refine ⟨b, cs, ty, fz, rfl, hb, hh, hz, by rw [ha, hs]; exact e1, rfl, fun hp' cs' H hsz hat hb' hoth hF hG => ?_⟩
   rw [ha] at hat
   refine .obj H b cs' ty fz (by rw [hsz]; exact hz) _ (fun i => if q.j ≤ i ∧ i < q.j + xs.length then G (i - q.j) else Fi i) (hF b hb) hb' (by rw [hsz, hs, splice_len e1]) (fun i hil => ?_) (fun i z hz => ?_) (fun i q' hq' => ?_) (fun i i' q' hq1 hq2 => ?_)
   ·rw [splice_len e1] at hil
    rw [hat i]
    split
    ·rename_i hc
     have : i - q.j < xs.length := by omega
     exact (hv _ _ (gE_ this)).1
    ·exact h1 i hil
   ·rw [splice_at e1] at hz
    rw [hat i]
    split at hz
    ·rename_i hc
     rw [if_pos hc, if_pos hc]
     exact (hv _ _ hz).2.congr fun q' hq' => hoth q' fun e => hGF _ q' hq' (by rw [e]; exact hb)
    ·rename_i hc
     rw [if_neg hc, if_neg hc]
     exact (hr i z hz).congr fun q' hq' => hoth q' (sub i q' hq').2
   ·by_cases hc : q.j ≤ i ∧ i < q.j + xs.length
    ·simp only [if_pos hc] at hq'; exact ⟨hG _ q' hq', fun e => hGF _ q' hq' (by rw [e]; exact hb)⟩
    ·simp only [if_neg hc] at hq'; exact ⟨hF q' (sub i q' hq').1, (sub i q' hq').2⟩
   ·by_cases hc : q.j ≤ i ∧ i < q.j + xs.length <;> by_cases hc' : q.j ≤ i' ∧ i' < q.j + xs.length
    ·simp only [if_pos hc, if_pos hc'] at hq1 hq2
     have := hd _ _ q' hq1 hq2
     omega
    ·simp only [if_pos hc, if_neg hc'] at hq1 hq2
     exact absurd (sub i' q' hq2).1 (hGF _ q' hq1)
    ·simp only [if_neg hc, if_pos hc'] at hq1 hq2
     exact absurd (sub i q' hq1).1 (hGF _ q' hq2)
    ·simp only [if_neg hc, if_neg hc'] at hq1 hq2
     exact dis i i' q' hq1 hq2
 ·rename_i k0 rows i hi
  obtain ⟨r, hr', hx⟩ := oB_ hx
  split at hx
  ·rename_i hlen
   obtain ⟨r', hs', rfl⟩ := oM_ hx
   obtain ⟨e0, e1, rfl⟩ := spliceO_some hs'
   subst e0
   have hil := (gS_ hr').1
   cases h with
   | pure _ _ _ h => exact absurd h rel_osl
   | oslNil _ _ => simp at hil
   | osl _ b c k0 cs ty fz hz _ Fi hb hh hs hn hm hk h1 hr sub dis =>
    have hkk := hk r (List.mem_of_getElem? hr')
    have e3 : q.k = k0 := by omega
    have ha : q.abs = i * k0 + q.j := by simp [Stp.abs, hi, e3]
    have hfit : q.abs + xs.length ≤ cs.size := by
     rw [ha, hs]
     have : i * k0 + k0 ≤ c * k0 := by
      have : (i + 1) * k0 ≤ c * k0 := Nat.mul_le_mul_right _ (by omega)
      rw [Nat.add_mul] at this; omega
     omega
    refine ⟨b, cs, ty, fz, rfl, hb, hh, hz, hfit, rfl, fun hp' cs' H hsz hat hb' hoth hF hG => ?_⟩
    have hrow : ∀ i2 r2, (rows.set i (r.take q.j ++ xs ++ r.drop (q.j + xs.length)))[i2]? = some r2 → ∃ r0, rows[i2]? = some r0 ∧ r0.length = r2.length ∧ (i2 ≠ i → r0 = r2) ∧ (i2 = i → r2 = r.take q.j ++ xs ++ r.drop (q.j + xs.length) ∧ r0 = r) := by
     intro i2 r2 h2
     by_cases e : i2 = i
     ·subst e
      rw [List.getElem?_set_self hil] at h2
      simp only [oE_] at h2
      subst h2
      exact ⟨r, hr', (splice_len e1).symm, fun h => absurd rfl h, fun _ => ⟨rfl, rfl⟩⟩
     ·rw [List.getElem?_set_ne (Ne.symm e)] at h2
      exact ⟨r2, h2, rfl, fun _ => rfl, fun h => absurd h e⟩
    have hlen2 : (rows.set i (r.take q.j ++ xs ++ r.drop (q.j + xs.length))).length = rows.length := by simp
    have hin : ∀ i2 j, j < k0 → (q.abs ≤ i2 * k0 + j ∧ i2 * k0 + j < q.abs + xs.length ↔ i2 = i ∧ q.j ≤ j ∧ j < q.j + xs.length) := by
     intro i2 j hj
     rw [ha]
     constructor
     ·intro hc
      have e2 : i2 = i := by
       rcases Nat.lt_trichotomy i2 i with h | h | h
       ·have : (i2 + 1) * k0 ≤ i * k0 := Nat.mul_le_mul_right _ h
        rw [Nat.add_mul] at this; omega
       ·exact h
       ·have : (i + 1) * k0 ≤ i2 * k0 := Nat.mul_le_mul_right _ h
        rw [Nat.add_mul] at this; omega
      subst e2
      omega
     ·rintro ⟨rfl, h2, h3⟩; omega
    have main : RelT hp' M H (.slice (some ⟨b, 0, none⟩) (rows.set i (r.take q.j ++ xs ++ r.drop (q.j + xs.length))).length c) (.osl k0 (rows.set i (r.take q.j ++ xs ++ r.drop (q.j + xs.length)))) := by
     refine .osl H b c k0 cs' ty fz (by rw [hsz]; exact hz) _ (fun m => if q.abs ≤ m ∧ m < q.abs + xs.length then G (m - q.abs) else Fi m) (hF b hb) hb' (by rw [hsz]; exact hs) (by rw [hlen2]; exact hn) hm (fun r2 hr2 => ?_) (fun i2 r2 h2 j hj => ?_) (fun i2 r2 h2 j z hz => ?_) (fun m q' hq' => ?_) (fun m m' q' hq1 hq2 => ?_)
     ·obtain ⟨i2, hi2⟩ := List.getElem?_of_mem hr2
      obtain ⟨r0, h3, h4, _⟩ := hrow i2 r2 hi2
      rw [← h4]; exact hk r0 (List.mem_of_getElem? h3)
     ·obtain ⟨r0, h3, h4, h5, h6⟩ := hrow i2 r2 h2
      rw [hat]
      split
      ·rename_i hc
       have := (hin i2 j hj).1 hc
       have hlt : i2 * k0 + j - q.abs < xs.length := by omega
       exact (hv _ _ (gE_ hlt)).1
      ·exact h1 i2 r0 h3 j hj
     ·obtain ⟨r0, h3, h4, h5, h6⟩ := hrow i2 r2 h2
      have hjk : j < k0 := by have := (gS_ hz).1; rw [← h4, hk r0 (List.mem_of_getElem? h3)] at this; exact this
      rw [hat]
      by_cases hc : q.abs ≤ i2 * k0 + j ∧ i2 * k0 + j < q.abs + xs.length
      ·rw [if_pos hc, if_pos hc]
       obtain ⟨e4, e5, e6⟩ := (hin i2 j hjk).1 hc
       obtain ⟨h7, _⟩ := h6 e4
       rw [h7, splice_at e1, if_pos ⟨e5, e6⟩] at hz
       have e7 : i2 * k0 + j - q.abs = j - q.j := by rw [ha, e4]; omega
       rw [e7]
       exact (hv _ _ hz).2.congr fun q' hq' => hoth q' fun e => hGF _ q' hq' (by rw [e]; exact hb)
      ·rw [if_neg hc, if_neg hc]
       have hz' : r0[j]? = some z := by
        by_cases e4 : i2 = i
        ·obtain ⟨h7, h8⟩ := h6 e4
         rw [h7, splice_at e1, if_neg (fun h => hc ((hin i2 j hjk).2 ⟨e4, h⟩))] at hz
         rw [h8]; exact hz
        ·rw [h5 e4]; exact hz
       exact (hr i2 r0 h3 j z hz').congr fun q' hq' => hoth q' (sub _ q' hq').2
     ·by_cases hc : q.abs ≤ m ∧ m < q.abs + xs.length
      ·simp only [if_pos hc] at hq'; exact ⟨hG _ q' hq', fun e => hGF _ q' hq' (by rw [e]; exact hb)⟩
      ·simp only [if_neg hc] at hq'; exact ⟨hF q' (sub m q' hq').1, (sub m q' hq').2⟩
     ·by_cases hc : q.abs ≤ m ∧ m < q.abs + xs.length <;> by_cases hc' : q.abs ≤ m' ∧ m' < q.abs + xs.length
      ·simp only [if_pos hc, if_pos hc'] at hq1 hq2
       have := hd _ _ q' hq1 hq2
       omega
      ·simp only [if_pos hc, if_neg hc'] at hq1 hq2
       exact absurd (sub m' q' hq2).1 (hGF _ q' hq1)
      ·simp only [if_neg hc, if_pos hc'] at hq1 hq2
       exact absurd (sub m q' hq1).1 (hGF _ q' hq2)
      ·simp only [if_neg hc, if_neg hc'] at hq1 hq2
       exact dis m m' q' hq1 hq2
    rw [hlen2] at main
    exact main
  ·cases hx
 ·cases hx
theorem RelT.setV : ∀ (p : List Stp) {F : Nat → Prop} {v : Value} {x : V}, RelT hp M F v x → ∀ {q : Stp} {k : Nat} {xs : List V} {x' : V}, setV x p q k xs = some x' → ∀ {vals : List Value} {G : Nat → Nat → Prop}, vals.length = xs.length →
  (∀ m z, xs[m]? = some z → (vals.getD m undef).oneCell' = true ∧ RelT hp M (G m) (vals.getD m undef) z) → (∀ m m' q, G m q → G m' q → m = m') → (∀ m q, G m q → ¬ F q) →
  ∃ u b cs ty fz, walkV hp v p = some u ∧ blockAt u = some b ∧ F b ∧ hp b = some (.cells cs ty fz) ∧ NoFz fz cs.size ∧ q.abs + xs.length ≤ cs.size ∧ xs.length = k ∧
   (∀ q' y, getV x q' = some y → q'.length ≤ p.length → ∀ ob, walkV (upd hp b ob) v q' = walkV hp v q') ∧
   ∀ (hp' : Hp) (cs' : Array Value) (H : Nat → Prop), cs'.size = cs.size → (∀ i, cs'.getD i undef = if q.abs ≤ i ∧ i < q.abs + xs.length then vals.getD (i - q.abs) undef else cs.getD i undef) → hp' b = some (.cells cs' ty fz) → (∀ q, q ≠ b → hp' q = hp q) → (∀ q, F q → H q) → (∀ m q, G m q → H q) → RelT hp' M H v x'
 | [], F, v, x, h, q, k, xs, x', hx, vals, G, hl, hv, hd, hGF => by
  obtain ⟨b, cs, ty, fz, h1, h2, h3, hz, h4, h5, h6⟩ := h.setN hx hl hv hd hGF
  refine ⟨v, b, cs, ty, fz, rfl, h1, h2, h3, hz, h4, h5, fun q' y hq hl ob => ?_, h6⟩
  cases q' with
  | nil => rfl
  | cons => simp at hl
 | s :: p, F, v, x, h, q, k, xs, x', hx, vals, G, hl, hv, hd, hGF => by
  simp only [Den.setV] at hx
  obtain ⟨y, hy, hx⟩ := oB_ hx
  obtain ⟨y', hy', rfl⟩ := oM_ hx
  obtain ⟨u, G0, h1, _, h3, h4, _, hca, hsib, h6⟩ := h.focus hy
  obtain ⟨u2, b, cs, ty, fz, k1, k2, k3, k4, hz, k5, k6, hwk, k7⟩ := RelT.setV p h3 hy' hl hv hd (fun m q hq hq0 => hGF m q hq (h4 q hq0))
  refine ⟨u2, b, cs, ty, fz, by simp only [walkV, h1, oS_]; exact k1, k2, h4 b k3, k4, hz, k5, k6, fun q' y2 hq2 hl2 ob => ?_, fun hp' cs' H hsz hat hb' hoth hF hG => ?_⟩
  ·cases q' with
   | nil => rfl
   | cons s2 q' =>
    simp only [List.length_cons, Nat.add_le_add_iff_right] at hl2
    simp only [getV] at hq2
    obtain ⟨y3, hy3, hq3⟩ := oB_ hq2
    obtain ⟨u3, G3, e1, e2, e3⟩ := hsib s2 y3 hy3
    simp only [walkV, stepV, hca b ob k3]
    simp only [stepV] at e1
    rw [e1]
    simp only [oS_]
    rcases e3 with ⟨e4, e5⟩ | e3
    ·subst e4 e5
     exact hwk q' y2 hq3 hl2 ob
    ·exact walk_congr q' e2 hq3 fun q hq => upd_ne _ _ fun e => e3 q hq (by rw [e]; exact k3)
  refine h6 hp' M y' (fun q => G0 q ∨ ∃ m, G m q) H (fun _ _ _ h => h) (fun q' _ hq0 => hoth q' fun e => hq0 (by rw [e]; exact k3)) (k7 hp' cs' _ hsz hat hb' hoth (fun q hq => .inl hq) (fun m q hq => .inr ⟨m, hq⟩)) (fun q' hq' hF' => ?_) (fun q' hq' _ => hF q' hq') (fun q' hq' => ?_)
  ·rcases hq' with h | ⟨m, h⟩
   ·exact h
   ·exact absurd hF' (hGF m q' h)
  ·rcases hq' with h | ⟨m, h⟩
   ·exact hF q' (h4 q' h)
   ·exact hG m q' h
def modX : V → List Stp → Stp → V → Option V
 | x, [], s, y => (stepX x s).map fun _ => putX x s y
 | x, s0 :: p, s, y => (stepX x s0).bind fun z => (modX z p s y).map (putX x s0)
theorem RelT.modXh : ∀ (p : List Stp) {F : Nat → Prop} {v : Value} {x : V}, RelT hp M F v x → ∀ {s : Stp} {y' x' : V}, modX x p s y' = some x' →
  ∃ y u G, getV x (p ++ [s]) = some y ∧ walkV hp v (p ++ [s]) = some u ∧ u.oneCell' = true ∧ RelT hp M G u y ∧ (∀ q, G q → F q) ∧
   ∀ (hp' : Hp) (M' : Mem) (G' H : Nat → Prop), (∀ b o u, M b o = some u → M' b o = some u) → (∀ q, F q → ¬ G q → hp' q = hp q) → RelT hp' M' G' u y' → (∀ q, G' q → F q → G q) → (∀ q, F q → ¬ G q → H q) → (∀ q, G' q → H q) → RelT hp' M' H v x'
 | [], F, v, x, h, s, y', x', hx => by
  simp only [Den.modX] at hx
  obtain ⟨y, hy, rfl⟩ := oM_ hx
  obtain ⟨u, G0, h1, h2, h3, h4, _, _, _, h6⟩ := h.focus hy
  exact ⟨y, u, G0, by simp [getV, hy], by simp [walkV, h1], h2, h3, h4, fun hp' M' G' H hM hhp hy' hGF hF hG => h6 hp' M' y' G' H hM hhp hy' hGF hF hG⟩
 | s0 :: p, F, v, x, h, s, y', x', hx => by
  simp only [Den.modX] at hx
  obtain ⟨z, hz, hx⟩ := oB_ hx
  obtain ⟨z', hz', rfl⟩ := oM_ hx
  obtain ⟨u0, G0, h1, _, h3, h4, _, _, _, h6⟩ := h.focus hz
  obtain ⟨y, u, G, k1, k2, k3, k4, k5, k6⟩ := RelT.modXh p h3 hz'
  refine ⟨y, u, G, by simp only [List.cons_append, getV, hz, oS_]; exact k1, by simp only [List.cons_append, walkV, h1, oS_]; exact k2, k3, k4, fun q hq => h4 q (k5 q hq), fun hp' M' G' H hM hhp hy' hGF hF hG => ?_⟩
  refine h6 hp' M' z' (fun q => (G0 q ∧ ¬ G q) ∨ G' q) H hM (fun q hq hn => hhp q hq fun hg => hn (k5 q hg)) (k6 hp' M' G' _ hM (fun q hq hn => hhp q (h4 q hq) hn) hy' (fun q hq hq0 => hGF q hq (h4 q hq0)) (fun q hq hn => .inl ⟨hq, hn⟩) (fun q hq => .inr hq)) (fun q hq hFq => ?_) (fun q hFq hn => hF q hFq fun hg => hn (k5 q hg)) (fun q hq => ?_)
  ·rcases hq with h | h
   ·exact h.1
   ·exact k5 q (hGF q h hFq)
  ·rcases hq with h | h
   ·exact hF q (h4 q h.1) h.2
   ·exact hG q h
theorem RelT.modX (p : List Stp) {F : Nat → Prop} {v : Value} {x : V} (h : RelT hp M F v x) {s : Stp} {y' x' : V} (hx : modX x p s y' = some x') :
  ∃ y u G, getV x (p ++ [s]) = some y ∧ walkV hp v (p ++ [s]) = some u ∧ u.oneCell' = true ∧ RelT hp M G u y ∧ (∀ q, G q → F q) ∧
   ∀ (M' : Mem) (G' H : Nat → Prop), (∀ b o u, M b o = some u → M' b o = some u) → RelT hp M' G' u y' → (∀ q, G' q → F q → G q) → (∀ q, F q → ¬ G q → H q) → (∀ q, G' q → H q) → RelT hp M' H v x' := by
 obtain ⟨y, u, G, k1, k2, k3, k4, k5, k6⟩ := RelT.modXh p h hx
 exact ⟨y, u, G, k1, k2, k3, k4, k5, fun M' G' H hM hy' => k6 hp M' G' H hM (fun _ _ _ => rfl) hy'⟩
end
end Go.Proofs.YtgkohnjpnnofhaaGreat.Den
