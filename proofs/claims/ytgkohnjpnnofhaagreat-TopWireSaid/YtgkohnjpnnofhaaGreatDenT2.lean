/- A reader of Go code in plain values: owned trees that are given away; what stays reached. -/
import Derived.Test.YtgkohnjpnnofhaaGreatDenT
namespace Go.Proofs.YtgkohnjpnnofhaaGreat.Den
set_option linter.unusedSimpArgs false
set_option linter.unusedVariables false
open Go.RowKit
mutual
def pureV : V → Bool
 | .agg l => pureL l
 | .tup l => pureL l
 | .osl _ _ => false
 | .obj _ => false
 | .mp _ => false
 | _ => true
def pureL : List V → Bool
 | [] => true
 | x :: r => pureV x && pureL r
end
mutual
def frz : V → V
 | .agg l => .agg (frzL l)
 | .tup l => .tup (frzL l)
 | .osl _ rows => .sl (frzR rows)
 | .obj l => .ptr (frzL l)
 | .mp _ => .any
 | x => x
def frzL : List V → List V
 | [] => []
 | x :: r => frz x :: frzL r
def frzR : List (List V) → List (List V)
 | [] => []
 | l :: r => frzL l :: frzR r
end
def pureO (x : V) : Option V := if pureV x = true then some x else none
def ownO (x : V) : Option V := match x with
 | .osl _ _ => some .any
 | .obj _ => some .any
 | .mp _ => some .any
 | _ => none
theorem frzL_at : ∀ (l : List V) (i : Nat), (frzL l)[i]? = (l[i]?).map frz
 | [], i => by simp [frzL]
 | x :: r, 0 => by simp [frzL]
 | x :: r, i + 1 => by simp only [frzL, List.getElem?_cons_succ]; exact frzL_at r i
theorem frzR_at : ∀ (l : List (List V)) (i : Nat), (frzR l)[i]? = (l[i]?).map frzL
 | [], i => by simp [frzR]
 | x :: r, 0 => by simp [frzR]
 | x :: r, i + 1 => by simp only [frzR, List.getElem?_cons_succ]; exact frzR_at r i
theorem frzL_len : ∀ l : List V, (frzL l).length = l.length
 | [] => rfl
 | x :: r => by simp only [frzL, List.length_cons, frzL_len r]
theorem frzR_len : ∀ l : List (List V), (frzR l).length = l.length
 | [] => rfl
 | x :: r => by simp only [frzR, List.length_cons, frzR_len r]
theorem frzR_mem {rows : List (List V)} {r : List V} (h : r ∈ frzR rows) : ∃ r0, r0 ∈ rows ∧ r = frzL r0 := by
 obtain ⟨i, hi⟩ := List.getElem?_of_mem h
 rw [frzR_at] at hi
 obtain ⟨r0, h1, h2⟩ := oM_ hi
 exact ⟨r0, List.mem_of_getElem? h1, h2.symm⟩
theorem pureL_at : ∀ (l : List V), pureL l = true → ∀ (i : Nat) (x : V), l[i]? = some x → pureV x = true
 | [], _, i, x, h => by simp at h
 | y :: r, hp, i, x, h => by
  simp only [pureL, Bool.and_eq_true] at hp
  cases i with
  | zero => simp at h; subst h; exact hp.1
  | succ i => exact pureL_at r hp.2 i x (by simpa using h)
open Classical in
noncomputable def frzM (hp : Hp) (M : Mem) (F : Nat → Prop) : Mem := fun b o => if F b then (match hp b with
 | some (.cells cs _ _) => cs[o]?
 | _ => none) else M b o
section
variable {hp hp' : Hp} {M M' : Mem} {F G : Nat → Prop} {v : Value} {x : V}
theorem frzM_mono (hd : ∀ b, F b → ∀ o, M b o = none) (b o : Nat) (u : Value) (h : M b o = some u) : frzM hp M F b o = some u := by
 unfold frzM
 split
 ·rename_i hb; rw [hd b hb o] at h; cases h
 ·exact h
theorem frzM_sub (hd : ∀ b, F b → ∀ o, M b o = none) (hG : ∀ q, G q → F q) (b o : Nat) (u : Value) (h : frzM hp M G b o = some u) : frzM hp M F b o = some u := by
 unfold frzM at h
 split at h
 ·rename_i hb
  unfold frzM
  rw [if_pos (hG b hb)]; exact h
 ·exact frzM_mono hd b o u h
theorem frz_of_rel (h : Rel M v x) : frz x = x ∧ pureV x = true := by
 induction h with
 | agg cs l hs h1 _ ih =>
  constructor
  ·simp only [frz]
   congr 1
   apply List.ext_getElem?
   intro i
   rw [frzL_at]
   cases hx : l[i]? with
   | none => rfl
   | some x => simp only [Option.map_some, (ih i x hx).1]
  ·simp only [pureV]
   have : ∀ l : List V, (∀ (i : Nat) (x : V), l[i]? = some x → pureV x = true) → pureL l = true := by
    intro l
    induction l with
    | nil => intro _; rfl
    | cons y r ihr =>
     intro h
     simp only [pureL, Bool.and_eq_true]
     exact ⟨h 0 y rfl, ihr fun i x hx => h (i + 1) x (by simpa using hx)⟩
   exact this l fun i x hx => (ih i x hx).2
 | tup cs l hs _ ih =>
  constructor
  ·simp only [frz]
   congr 1
   apply List.ext_getElem?
   intro i
   rw [frzL_at]
   cases hx : l[i]? with
   | none => rfl
   | some x => simp only [Option.map_some, (ih i x hx).1]
  ·simp only [pureV]
   have : ∀ l : List V, (∀ (i : Nat) (x : V), l[i]? = some x → pureV x = true) → pureL l = true := by
    intro l
    induction l with
    | nil => intro _; rfl
    | cons y r ihr =>
     intro h
     simp only [pureL, Bool.and_eq_true]
     exact ⟨h 0 y rfl, ihr fun i x hx => h (i + 1) x (by simpa using hx)⟩
   exact this l fun i x hx => (ih i x hx).2
 | _ => exact ⟨rfl, rfl⟩
theorem RelT.frz (h : RelT hp M F v x) : (∀ b, F b → ∀ o, M b o = none) → Rel (frzM hp M F) v (frz x) := by
 induction h with
 | pure F v x h => intro hd; rw [(frz_of_rel h).1]; exact h.mono (frzM_mono hd)
 | agg F cs l Fi hs h1 hr sub dis ih =>
  intro hd
  simp only [Den.frz]
  refine .agg cs _ (by rw [frzL_len]; exact hs) (fun i hi => h1 i (by rwa [frzL_len] at hi)) fun i y hy => ?_
  rw [frzL_at] at hy
  obtain ⟨x, hx, rfl⟩ := oM_ hy
  exact (ih i x hx fun b hb => hd b (sub i b hb)).mono (frzM_sub hd (sub i))
 | tup F cs l Fi hs hr sub dis ih =>
  intro hd
  simp only [Den.frz]
  refine .tup cs _ (by rw [frzL_len]; exact hs) fun i y hy => ?_
  rw [frzL_at] at hy
  obtain ⟨x, hx, rfl⟩ := oM_ hy
  exact (ih i x hx fun b hb => hd b (sub i b hb)).mono (frzM_sub hd (sub i))
 | obj F b cs ty fz hz l Fi hb hh hs h1 hr sub dis ih =>
  intro hd
  simp only [Den.frz]
  refine .ptr b 0 _ (fun j => cs.getD j undef) (fun j y hy => ?_) (fun j y hy => ?_) (fun j y hy => ?_)
  all_goals
   rw [frzL_at] at hy
   obtain ⟨x, hx, rfl⟩ := oM_ hy
   have hlt := (gS_ hx).1
  ·unfold frzM
   rw [if_pos hb, hh, Nat.zero_add]
   exact cells_at (by rw [hs]; exact hlt)
  ·exact h1 j hlt
  ·exact (ih j x hx fun q hq => hd q (sub j q hq).1).mono (frzM_sub hd fun q hq => (sub j q hq).1)
 | osl F b c k cs ty fz hz rows Fi hb hh hs hn hm hk h1 hr sub dis ih =>
  intro hd
  simp only [Den.frz]
  have key : ∀ i r, (frzR rows)[i]? = some r → ∀ j y, r[j]? = some y → ∃ r0 x, rows[i]? = some r0 ∧ r0[j]? = some x ∧ y = Den.frz x ∧ j < k ∧ i < rows.length := by
   intro i r hi j y hy
   rw [frzR_at] at hi
   obtain ⟨r0, h0, rfl⟩ := oM_ hi
   rw [frzL_at] at hy
   obtain ⟨x, hx, rfl⟩ := oM_ hy
   refine ⟨r0, x, h0, hx, rfl, ?_, (gS_ h0).1⟩
   rw [← hk r0 (List.mem_of_getElem? h0)]; exact (gS_ hx).1
  refine .sl (some ⟨b, 0, none⟩) _ c k b 0 _ (fun i j => cs.getD (i * k + j) undef) (frzR_len rows) hn (fun r hr => ?_) (fun _ => rfl) (fun i r hi j y hy => ?_) (fun i r hi j y hy => ?_) (fun i r hi j y hy => ?_)
  ·obtain ⟨r0, h3, rfl⟩ := frzR_mem hr
   rw [frzL_len]; exact hk r0 h3
  ·obtain ⟨r0, x, h3, h4, _, hjk, hil⟩ := key i r hi j y hy
   unfold frzM
   rw [if_pos hb, hh, Nat.zero_add]
   refine cells_at ?_
   rw [hs]
   exact Nat.lt_of_lt_of_le (row_lt hil hjk) (Nat.mul_le_mul_right _ hn)
  ·obtain ⟨r0, x, h3, h4, _, hjk, hil⟩ := key i r hi j y hy
   exact h1 i r0 h3 j hjk
  ·obtain ⟨r0, x, h3, h4, rfl, hjk, hil⟩ := key i r hi j y hy
   exact (ih i r0 h3 j x h4 fun q hq => hd q (sub _ q hq).1).mono (frzM_sub hd fun q hq => (sub _ q hq).1)
 | oslNil F k =>
  intro hd
  simp only [Den.frz, frzR]
  exact .sl none 0 0 0 0 0 [] (fun _ _ => undef) rfl (Nat.le_refl _) (by simp) (by simp) (by simp) (by simp) (by simp)
 | mp => intro hd; simp only [Den.frz]; exact .any _
theorem RelT.pureV (h : RelT hp M F v x) : Den.pureV x = true → Rel M v x := by
 induction h with
 | pure F v x h => intro _; exact h
 | agg F cs l Fi hs h1 hr sub dis ih =>
  intro hp
  simp only [Den.pureV] at hp
  exact .agg cs l hs h1 fun i x hx => ih i x hx (pureL_at l hp i x hx)
 | tup F cs l Fi hs hr sub dis ih =>
  intro hp
  simp only [Den.pureV] at hp
  exact .tup cs l hs fun i x hx => ih i x hx (pureL_at l hp i x hx)
 | obj => intro hp; simp [Den.pureV] at hp
 | osl => intro hp; simp [Den.pureV] at hp
 | oslNil => intro hp; simp [Den.pureV] at hp
 | mp => intro hp; simp [Den.pureV] at hp
end
theorem RelT.node {hp : Hp} {M : Mem} {F : Nat → Prop} {v : Value} {x : V} (h : RelT hp M F v x) {i : Option Nat} {k : Nat} {l : List V} (hl : nodeL x i k = some l) :
  ∃ (b : Nat) (cs : Array Value) (ty : TypeId) (fz : Nat × Nat) (Fi : Nat → Nat → Prop), blockAt v = some b ∧ F b ∧ hp b = some (.cells cs ty fz) ∧ (∀ m q, Fi m q → F q) ∧ ∀ j z, l[j]? = some z → (⟨i, j, k⟩ : Stp).abs < cs.size ∧ (cs.getD (⟨i, j, k⟩ : Stp).abs undef).oneCell' = true ∧ RelT hp M (Fi j) (cs.getD (⟨i, j, k⟩ : Stp).abs undef) z := by
 unfold nodeL at hl
 split at hl
 ·simp only [oE_] at hl
  subst hl
  cases h with
  | pure _ _ _ h => exact absurd h rel_obj
  | obj _ b cs ty fz hz _ Fi hb hh hs h1 hr sub dis =>
   refine ⟨b, cs, ty, fz, Fi, rfl, hb, hh, fun m q hq => (sub m q hq).1, fun j z hz => ?_⟩
   have hlt := (gS_ hz).1
   exact ⟨by simp only [Stp.abs]; rw [hs]; exact hlt, h1 j hlt, hr j z hz⟩
 ·rename_i k0 rows i
  obtain ⟨r, hr', hl⟩ := oB_ hl
  split at hl
  ·rename_i hlen
   simp only [oE_] at hl
   subst hl
   cases h with
   | pure _ _ _ h => exact absurd h rel_osl
   | oslNil _ _ => simp at hr'
   | osl _ b c k' cs ty fz hz _ Fi hb hh hs hn hm hk h1 hr sub dis =>
    have hkk := hk r (List.mem_of_getElem? hr')
    subst hlen
    refine ⟨b, cs, ty, fz, fun j => Fi (i * k0 + j), rfl, hb, hh, fun m q hq => (sub _ q hq).1, fun j z hz => ?_⟩
    have hlt := (gS_ hz).1
    have hil := (gS_ hr').1
    refine ⟨?_, h1 i r hr' j (by omega), hr i r hr' j z hz⟩
    simp only [Stp.abs]
    rw [hs]
    exact Nat.lt_of_lt_of_le (row_lt hil (by omega)) (Nat.mul_le_mul_right _ hn)
  ·cases hl
 ·cases hl
theorem getV_snoc : ∀ (p : List Stp) (x : V) (s : Stp), getV x (p ++ [s]) = (getV x p).bind fun y => stepX y s
 | [], x, s => by simp only [List.nil_append, getV, oS_]; cases stepX x s <;> rfl
 | s0 :: p, x, s => by
  simp only [List.cons_append, getV]
  cases stepX x s0 with
  | none => rfl
  | some y => simp only [oS_]; exact getV_snoc p y s
theorem walkV_snoc (hp : Hp) : ∀ (p : List Stp) (v : Value) (s : Stp), walkV hp v (p ++ [s]) = (walkV hp v p).bind fun u => stepV hp u s
 | [], v, s => by simp only [List.nil_append, walkV, oS_]; cases stepV hp v s <;> rfl
 | s0 :: p, v, s => by
  simp only [List.cons_append, walkV]
  cases stepV hp v s0 with
  | none => rfl
  | some y => simp only [oS_]; exact walkV_snoc hp p y s
theorem stepX_node {y z : V} {q : Stp} {l : List V} (hl : nodeL y q.i q.k = some l) (hz : l[q.j]? = some z) : stepX y q = some z := by
 unfold nodeL at hl
 split at hl
 ·rename_i l' hi
  simp only [oE_] at hl
  subst hl
  simp only [stepX, hi]; exact hz
 ·rename_i k0 rows i hi
  obtain ⟨r, hr, hl⟩ := oB_ hl
  split at hl
  ·rename_i hlen
   simp only [oE_] at hl
   subst hl
   simp only [stepX, hi, hr, oS_, if_pos hlen]; exact hz
  ·cases hl
 ·cases hl
theorem cellsAt_blk {hp : Hp} {v : Value} {b : Nat} {cs : Array Value} {ty : TypeId} {fz : Nat × Nat} (h : blockAt v = some b) (hh : hp b = some (.cells cs ty fz)) : cellsAt hp v = some cs := by
 unfold cellsAt
 split
 ·simp [blockAt] at h
 ·rw [h]; simp [hh]
theorem abs_add (i : Option Nat) (j d k : Nat) : (⟨i, j + d, k⟩ : Stp).abs = (⟨i, j, k⟩ : Stp).abs + d := by cases i <;> simp [Stp.abs]; omega
theorem stepX_putX {x y z y2 : V} {s s2 : Stp} (hy : stepX x s = some y) (h2 : stepX x s2 = some y2) : (s2.i = s.i ∧ s2.j = s.j ∧ y2 = y ∧ stepX (putX x s z) s2 = some z) ∨ stepX (putX x s z) s2 = some y2 := by
 unfold stepX at hy
 split at hy
 ·rename_i l hi
  unfold stepX at h2
  split at h2
  ·rename_i l2 e hi2
   simp only [V.agg.injEq] at e
   subst e
   have hlt := (gS_ hy).1
   simp only [putX, hi, stepX, hi2]
   by_cases e : s2.j = s.j
   ·left
    rw [e] at h2 ⊢
    rw [hy] at h2
    exact ⟨trivial, rfl, (oJ_ h2).symm, List.getElem?_set_self hlt⟩
   ·right; rw [List.getElem?_set_ne (Ne.symm e)]; exact h2
  ·rename_i e _; cases e
  ·rename_i e _; cases e
  ·cases h2
 ·rename_i l hi
  unfold stepX at h2
  split at h2
  ·rename_i e _; cases e
  ·rename_i l2 e hi2
   simp only [V.obj.injEq] at e
   subst e
   have hlt := (gS_ hy).1
   simp only [putX, hi, stepX, hi2]
   by_cases e : s2.j = s.j
   ·left
    rw [e] at h2 ⊢
    rw [hy] at h2
    exact ⟨trivial, rfl, (oJ_ h2).symm, List.getElem?_set_self hlt⟩
   ·right; rw [List.getElem?_set_ne (Ne.symm e)]; exact h2
  ·rename_i e _; cases e
  ·cases h2
 ·rename_i k0 rows i hi
  unfold stepX at h2
  split at h2
  ·rename_i e _; cases e
  ·rename_i e _; cases e
  ·rename_i k2 rows2 i2 e hi2
   simp only [V.osl.injEq] at e
   obtain ⟨rfl, rfl⟩ := e
   obtain ⟨r, hr, hy⟩ := oB_ hy
   obtain ⟨r2, hr2, h2⟩ := oB_ h2
   split at hy
   ·rename_i hl
    split at h2
    ·rename_i hl2
     have hyy : r[s.j]? = some y := by assumption
     have hyy2 : r2[s2.j]? = some y2 := by assumption
     have hil := (gS_ hr).1
     have hgr : rows.getD i [] = r := by simp [List.getD, hr]
     simp only [putX, hi, stepX, hi2, hgr]
     by_cases e : i2 = i
     ·subst e
      rw [hr] at hr2
      obtain rfl := oJ_ hr2
      rw [List.getElem?_set_self hil]
      simp only [oS_, List.length_set, if_pos hl2]
      by_cases e2 : s2.j = s.j
      ·left
       rw [e2] at hyy2 ⊢
       rw [hyy] at hyy2
       exact ⟨trivial, rfl, (oJ_ hyy2).symm, List.getElem?_set_self (gS_ hyy).1⟩
      ·right; rw [List.getElem?_set_ne (Ne.symm e2)]; exact hyy2
     ·right
      rw [List.getElem?_set_ne (Ne.symm e), hr2]
      simp only [oS_, if_pos hl2]; exact hyy2
    ·cases h2
   ·cases hy
  ·cases h2
 ·cases hy
theorem getV_setV : ∀ (p q : List Stp) {x x' y : V} {q0 : Stp} {k : Nat} {xs : List V}, setV x p q0 k xs = some x' → getV x q = some y → q.length ≤ p.length → ∃ y', getV x' q = some y'
 | p, [], x, x', y, q0, k, xs, hx, hq, hl => ⟨x', rfl⟩
 | [], s2 :: q, x, x', y, q0, k, xs, hx, hq, hl => by simp at hl
 | s :: p, s2 :: q, x, x', y, q0, k, xs, hx, hq, hl => by
  simp only [setV] at hx
  obtain ⟨z, hz, hx⟩ := oB_ hx
  obtain ⟨z', hz', rfl⟩ := oM_ hx
  simp only [getV] at hq
  obtain ⟨y2, hy2, hq⟩ := oB_ hq
  simp only [List.length_cons, Nat.add_le_add_iff_right] at hl
  rcases stepX_putX (z := z') hz hy2 with ⟨_, _, e, h3⟩ | h3
  ·subst e
   obtain ⟨y', hy'⟩ := getV_setV p q hz' hq hl
   exact ⟨y', by simp only [getV, h3, oS_]; exact hy'⟩
  ·exact ⟨y, by simp only [getV, h3, oS_]; exact hq⟩
theorem getV_modX : ∀ (p q : List Stp) {x x' y z0 : V} {s0 : Stp}, modX x p s0 z0 = some x' → getV x q = some y → q.length ≤ p.length → ∃ y', getV x' q = some y'
 | p, [], x, x', y, z0, s0, hx, hq, hl => ⟨x', rfl⟩
 | [], s2 :: q, x, x', y, z0, s0, hx, hq, hl => by simp at hl
 | s :: p, s2 :: q, x, x', y, z0, s0, hx, hq, hl => by
  simp only [modX] at hx
  obtain ⟨z, hz, hx⟩ := oB_ hx
  obtain ⟨z', hz', rfl⟩ := oM_ hx
  simp only [getV] at hq
  obtain ⟨y2, hy2, hq⟩ := oB_ hq
  simp only [List.length_cons, Nat.add_le_add_iff_right] at hl
  rcases stepX_putX (z := z') hz hy2 with ⟨_, _, e, h3⟩ | h3
  ·subst e
   obtain ⟨y', hy'⟩ := getV_modX p q hz' hq hl
   exact ⟨y', by simp only [getV, h3, oS_]; exact hy'⟩
  ·exact ⟨y, by simp only [getV, h3, oS_]; exact hq⟩
end Go.Proofs.YtgkohnjpnnofhaaGreat.Den
