/- A reader of Go code in plain values: whole functions that take what is owned and hand it back. -/
import Derived.Test.YtgkohnjpnnofhaaGreatDen13
namespace Go.Proofs.YtgkohnjpnnofhaaGreat.Den
set_option linter.unusedSimpArgs false
set_option linter.unusedVariables false
set_option linter.unnecessarySimpa false
open Go.RowKit
def st0M (ks : List Nat) (xs : List V) : St := ⟨fun t => match ks.getD t 0 with
 | 0 => .v (xs.getD t .any)
 | 1 => .ref t [] []
 | _ => .adr t [] ⟨none, 0, 0⟩ [], fun _ => none, fun _ => none, fun s => match ks.getD s 0 with
 | 0 => none
 | _ => some (xs.getD s .any), [], 8⟩
def gateM : List Nat → List V → Option V → Option V
 | [], [], K => K
 | [], _ :: _, _ => none
 | _ :: _, [], _ => none
 | 0 :: ks, x :: xs, K => (pureO x).bind fun _ => gateM ks xs K
 | 1 :: ks, _ :: xs, K => gateM ks xs K
 | _ :: ks, x :: xs, K => (objG x).bind fun _ => gateM ks xs K
def outsM (st : St) : List Nat → Nat → List V
 | [], _ => []
 | 0 :: ks, i => .any :: outsM st ks (i + 1)
 | (_ + 1) :: ks, i => (st.ow i).getD .any :: outsM st ks (i + 1)
def resKK (P : Program) : List ResultVar → List V → St → (V → Option V) → Option V
 | [], acc, _, K => K (oneV acc)
 | .tmp t :: rs, acc, st, K => resKK P rs (acc ++ [st.asV (st.φ t)]) st K
 | .cell t ty :: rs, acc, st, K => (loadC P st ty (st.φ t)).bind fun v => resKK P rs (acc ++ [v]) st K
theorem resKK_eq (P : Program) (st : St) (K : V → Option V) : ∀ (rs : List ResultVar) (acc : List V), resKK P rs acc st K = (resK P rs acc st).bind K
 | [], acc => rfl
 | .tmp t :: rs, acc => resKK_eq P st K rs _
 | .cell t ty :: rs, acc => by
  simp only [resKK, resK]
  cases loadC P st ty (st.φ t) with
  | none => rfl
  | some v => exact resKK_eq P st K rs _
def objK (x : V) (K : List V → Option V) : Option V := match x with
 | .obj l => K l
 | _ => none
def retM (P : Program) (rs : List ResultVar) (ks : List Nat) (own : Option Nat) : Kont := fun st => match own with
 | none => resKK P rs [] st fun y => some (.tup (y :: outsM st ks 0))
 | some k => match rs with
  | [.tmp t] => match st.φ t with
   | .ref s [] [] => match st.ow s with
    | some x => some (.tup (x :: outsM (dropO st (some s)) ks 0))
    | none => none
   | .nil => some (.tup (.osl k [] :: outsM st ks 0))
   | .adr s [] ⟨none, 0, _⟩ [] => match st.ow s with
    | some x => objK x fun l => some (.tup (.obj l :: outsM (dropO st (some s)) ks 0))
    | none => none
   | _ => none
  | [.cell t ty] => match st.φ t with
   | .adr s [] ⟨none, 0, _⟩ [] => match st.ow s with
    | some x => (wholeO P ty x).bind fun z => some (.tup (z :: outsM (dropO st (some s)) ks 0))
    | none => none
   | _ => none
  | [.tmp t, .tmp t2] => match st.φ t with
   | .adr s [] ⟨none, 0, _⟩ [] => match st.ow s with
    | some x => objK x fun l => (pureO (st.asV (st.φ t2))).bind fun e => some (.tup (.tup [.obj l, e] :: outsM (dropO st (some s)) ks 0))
    | none => none
   | c => (pureO (st.asV c)).bind fun p => (pureO (st.asV (st.φ t2))).bind fun e => some (.tup (.tup [p, e] :: outsM st ks 0))
  | [.tmp t, .tmp t2, .tmp t3] => match st.φ t with
   | .ref s [] [] => match st.ow s with
    | some x => (pureO (st.asV (st.φ t2))).bind fun p => (pureO (st.asV (st.φ t3))).bind fun e => some (.tup (.tup [x, p, e] :: outsM (dropO st (some s)) ks 0))
    | none => none
   | .nil => (pureO (st.asV (st.φ t2))).bind fun p => (pureO (st.asV (st.φ t3))).bind fun e => some (.tup (.tup [.osl k [], p, e] :: outsM st ks 0))
   | _ => none
  | _ => none
noncomputable def denM (P : Program) (env : FuncId → List V → Option V) (n : Nat) (fn : Func) (an : Ann) (ks : List Nat) (own : Option Nat) (xs : List V) : Option V := gateM ks xs (match fn.body with
 | some c => den P env n c an (st0M ks xs) (retM P fn.results.toList ks own) [] (retM P fn.results.toList ks own)
 | none => none)
section
variable {P : Program} {Dw : World → Prop} {F0 : Par} {env : FuncId → List V → Option V} {base : Nat} {M0 : Mem} {w0 w : World} {N : Nat} {g : Ghost} {st : St} {a : Act}
theorem gateM_some : ∀ {ks : List Nat} {xs : List V} {K : Option V} {z : V}, gateM ks xs K = some z → K = some z ∧ ks.length = xs.length ∧ ∀ (i : Nat) (x : V), xs[i]? = some x → (ks[i]? = some 0 → pureV x = true) ∧ (∀ m, ks[i]? = some (m + 2) → ∃ l, x = .obj l)
 | [], _ :: _, K, z, h => by simp [gateM] at h
 | [], [], K, z, h => ⟨h, rfl, fun i x _ => ⟨fun h => by simp at h, fun m h => by simp at h⟩⟩
 | k :: ks, [], K, z, h => by simp [gateM] at h
 | 0 :: ks, x :: xs, K, z, h => by
  simp only [gateM] at h
  obtain ⟨y, hy, h⟩ := oB_ h
  obtain ⟨h1, h2, h3⟩ := gateM_some h
  refine ⟨h1, by simpa using h2, fun i x' hx => ?_⟩
  cases i with
  | zero =>
   simp at hx
   subst hx
   refine ⟨fun _ => ?_, fun m h => by simp at h⟩
   unfold pureO at hy
   split at hy
   ·assumption
   ·cases hy
  | succ i => simpa using h3 i x' (by simpa using hx)
 | 1 :: ks, x :: xs, K, z, h => by
  simp only [gateM] at h
  obtain ⟨h1, h2, h3⟩ := gateM_some h
  refine ⟨h1, by simpa using h2, fun i x' hx => ?_⟩
  cases i with
  | zero => exact ⟨fun h => by simp at h, fun m h => by simp at h⟩
  | succ i => simpa using h3 i x' (by simpa using hx)
 | (m + 2) :: ks, x :: xs, K, z, h => by
  simp only [gateM] at h
  obtain ⟨y, hy, h⟩ := oB_ h
  obtain ⟨h1, h2, h3⟩ := gateM_some h
  refine ⟨h1, by simpa using h2, fun i x' hx => ?_⟩
  cases i with
  | zero =>
   simp at hx
   subst hx
   refine ⟨fun h => by simp at h, fun _ _ => ?_⟩
   unfold objG at hy
   split at hy
   ·exact ⟨_, rfl⟩
   ·cases hy
  | succ i => simpa using h3 i x' (by simpa using hx)
theorem outsM_at (st : St) : ∀ (ks : List Nat) (k i : Nat), (outsM st ks k).getD i .any = match ks.getD i 0 with
  | 0 => .any
  | _ + 1 => (st.ow (k + i)).getD .any
 | [], k, i => by simp [outsM]
 | 0 :: ks, k, 0 => by simp [outsM]
 | (m + 1) :: ks, k, 0 => by simp [outsM]
 | 0 :: ks, k, i + 1 => by
  simp only [outsM, List.getD_cons_succ]
  rw [outsM_at st ks (k + 1) i, show k + 1 + i = k + (i + 1) by omega]
 | (m + 1) :: ks, k, i + 1 => by
  simp only [outsM, List.getD_cons_succ]
  rw [outsM_at st ks (k + 1) i, show k + 1 + i = k + (i + 1) by omega]
theorem denM_ok {f : FuncId} {fn : Func} {n : Nat} {an : Ann} (hf : P.funcs[f]? = some fn) (hck : chkF P fn an = true) (henv : EnvOk P Dw env) {ks : List Nat} {own : Option Nat} {xs : List V} {z : V} (hn : xs.length ≤ fn.ntmps) (hkl : ks.length ≤ 8) (h : denM P env n fn an ks own xs = some z) : MCalls P Dw f xs z := by
 classical
 unfold chkF at hck
 unfold denM at h
 obtain ⟨h, hkx, hgate⟩ := gateM_some h
 cases hb : fn.body with
 | none => rw [hb] at hck; cases hck
 | some c =>
  rw [hb] at h hck
  simp only at h
  simp only [Bool.and_eq_true, Bool.not_eq_true'] at hck
  obtain ⟨⟨hc1, hck⟩, hname⟩ := hck
  refine ⟨⟨fn, hf, hname, by rw [hb]; rfl⟩, fun w M hp F vs hDw hM hhp hFh hFd hvl hrel => ?_⟩
  have htm : ∀ t, t < xs.length → (vs ++ Array.replicate (fn.ntmps - vs.size) undef).getD t undef = vs.getD t undef := fun t ht => by
   have ht' : t < vs.size := by omega
   have ht2 : t < (vs ++ Array.replicate (fn.ntmps - vs.size) undef).size := by simp; omega
   simp only [Array.getD, ht2, ht', dite_true, Array.getInternal_eq_getElem]
   rw [Array.getElem_append_left ht']
  have hk0 : ∀ t, xs.length ≤ t → ks.getD t 0 = 0 := fun t ht => by simp [List.getD, List.getElem?_eq_none (show ks.length ≤ t by omega)]
  have hkd : ∀ t m, ks.getD t 0 = m + 1 → ks[t]? = some (m + 1) ∧ t < xs.length ∧ t < 8 := fun t m ht => by
   have : t < ks.length := by
    rcases Nat.lt_or_ge t ks.length with h | h
    ·exact h
    ·simp [List.getD, List.getElem?_eq_none h] at ht
   refine ⟨?_, by omega, by omega⟩
   simp only [List.getD, gE_ this, Option.getD_some] at ht ⊢
   rw [ht]
  let hpA : Hp := fun q => if ∃ i, F i q then hp q else none
  have hpA_at : ∀ i q, F i q → hpA q = hp q := fun i q h => if_pos ⟨i, h⟩
  have hS : Sim P Dw ⟨fun q => ∃ i, F i q, fun s => vs.getD s undef⟩ w.heap.size M w fn.ntmps ⟨M, fun _ => 0, fun _ => undef, hpA, fun s => vs.getD s undef, F, (st0M ks xs).ow⟩ (st0M ks xs) { tmps := vs ++ Array.replicate (fn.ntmps - vs.size) undef, defers := [] } w := by
   refine { inv := hDw, below := BelowF.refl _ _ _, base_le := Nat.le_refl _, defers := rfl, size := by simp; omega, mem := hM, old := fun _ _ _ h _ _ => h, ovp := fun _ _ => rfl, keepM := fun _ _ _ h => h, slot := fun t => ?_, box := fun _ _ h => (by cases h), boxes := fun _ _ _ _ h => (by cases h), row := fun _ _ _ h => (by cases h), rows := fun _ _ _ _ h => (by cases h), boxrow := fun _ _ _ _ h => (by cases h), hp := fun q ob hq => ?_, own := fun s x hs => ?_, fph := fun s x q hs hq => ?_, owd := fun s s' x x' h1 h2 hne q q1 q2 => hne (hFd s s' q q1 q2), gow := rfl }
   ·show RelC _ _ (match ks.getD t 0 with
     | 0 => .v (xs.getD t .any)
     | 1 => .ref t [] []
     | _ => .adr t [] ⟨none, 0, 0⟩ [])
    split
    ·rename_i hk
     show Rel M _ _
     by_cases ht : t < xs.length
     ·rw [htm t ht]
      have hx := gE_ ht
      have hxd : xs.getD t .any = xs[t] := by simp [List.getD, ht]
      rw [hxd]
      by_cases htk : t < ks.length
      ·refine (hrel t _ hx).pureV ((hgate t _ hx).1 ?_)
       simp only [List.getD, gE_ htk, Option.getD_some] at hk ⊢
       rw [hk]
      ·omega
     ·have hx : xs.getD t .any = .any := by simp [List.getD, List.getElem?_eq_none (Nat.le_of_not_lt ht)]
      rw [hx]; exact .any _
    ·rename_i hk
     obtain ⟨_, h2, _⟩ := hkd t 0 hk
     intro _
     exact ⟨.inl rfl, by simp only [walkV, htm t h2]⟩
    ·rename_i hk0 hk1
     obtain ⟨m, hm⟩ : ∃ m, ks.getD t 0 = m + 2 := ⟨ks.getD t 0 - 2, by
      have h0 : ks.getD t 0 ≠ 0 := fun h => hk0 h
      have h1 : ks.getD t 0 ≠ 1 := fun h => hk1 h
      omega⟩
     obtain ⟨h1, h2, _⟩ := hkd t (m + 1) hm
     obtain ⟨l, hl⟩ := (hgate t _ (gE_ h2)).2 m h1
     have hr := hrel t _ (gE_ h2)
     rw [hl] at hr
     intro _
     refine ⟨.inl rfl, ?_⟩
     simp only [htm t h2, walkV]
     generalize vs.getD t undef = vv at hr
     cases hr with
     | pure _ _ _ h => exact absurd h rel_obj
     | obj _ b cs ty fz hz l Fi hb hh hs h1 hr sub dis => exact ⟨_, b, rfl, rfl, by simp [Stp.abs]⟩
   ·have hq : (if ∃ i, F i q then hp q else none) = some ob := hq
    split at hq
    ·rename_i hF
     exact ⟨.inr hF, (hhp q ob hq).1, (hhp q ob hq).2, fun _ _ h => (by cases h), fun _ _ h => (by cases h)⟩
    ·cases hq
   ·have hs : (match ks.getD s 0 with
     | 0 => none
     | _ => some (xs.getD s .any)) = some x := hs
    split at hs
    ·cases hs
    ·rename_i hk
     obtain ⟨m, hm⟩ : ∃ m, ks.getD s 0 = m + 1 := ⟨ks.getD s 0 - 1, by
      have h0 : ks.getD s 0 ≠ 0 := fun h => hk h
      omega⟩
     obtain ⟨_, h2, _⟩ := hkd s m hm
     have hxd : xs.getD s .any = xs[s] := by simp [List.getD, h2]
     rw [hxd] at hs
     obtain rfl := oJ_ hs
     exact (hrel s _ (gE_ h2)).congr fun q hq => hpA_at s q hq
   ·show ∃ ob, hpA q = some ob
    rw [hpA_at s q hq]; exact hFh s q hq
  have hF : FreshFrom (st0M ks xs) := fun s hs => by
   have hs : 8 ≤ s := hs
   have h0 : ks.getD s 0 = 0 := by simp [List.getD, List.getElem?_eq_none (show ks.length ≤ s by omega)]
   refine ⟨fun t => ?_, rfl, rfl, ?_, hs⟩
   ·show (match ks.getD t 0 with
     | 0 => C.v (xs.getD t .any)
     | 1 => .ref t [] []
     | _ => .adr t [] ⟨none, 0, 0⟩ []).site ≠ some s
    split
    ·simp [C.site]
    ·rename_i hk
     have := hkd t 0 hk
     simp only [C.site, ne_eq, oE_]; omega
    ·rename_i hk0 hk1
     have h0 : ks.getD t 0 ≠ 0 := fun h => hk0 h
     have := hkd t (ks.getD t 0 - 1) (by omega)
     simp only [C.site, ne_eq, oE_]; omega
   ·show (match ks.getD s 0 with
     | 0 => none
     | _ => some (xs.getD s .any)) = none
    split
    ·rfl
    ·rename_i hk; exact absurd h0 hk
  have hd : ∀ t, t ∈ dsts c an → t < fn.ntmps := fun t ht => by simpa using List.all_eq_true.1 hc1 t ht
  refine calls_of_wp hf hb (wpmono (den_ok henv n z c an (st0M ks xs) _ [] _ _ _ w h hS hF hd hck) fun e a' w' hp => ?_)
  have fin : ∀ g st', Sim P Dw ⟨fun q => ∃ i, F i q, fun s => vs.getD s undef⟩ w.heap.size M w fn.ntmps g st' a' w' → retM P fn.results.toList ks own st' = some z → a'.defers = [] ∧ ∃ v, (results fn a'.tmps).run P w' = .ok v w' ∧
    ∃ (v2 : Value) (M' : Mem) (hp' : Hp) (F' : Nat → Nat → Prop), Ending.returned v = .returned v2 ∧ BelowF (fun q => ∃ i, F i q) w.heap.size w w' ∧ (∀ b o u, M b o = some u → M' b o = some u) ∧ (∀ b o u, M' b o = some u → w'.cell? ⟨b, o, none⟩ = some u) ∧
     (∀ b o u, M' b o = some u → b < w.heap.size → (¬ ∃ i, F i b) → M b o = some u) ∧ (∀ q ob, hp' q = some ob → (w.heap.size ≤ q ∨ ∃ i, F i q) ∧ w'.heap[q]? = some ob ∧ ∀ o, M' q o = none) ∧
     (∀ i q, F' i q → ∃ ob, hp' q = some ob) ∧ (∀ i i' q, F' i q → F' i' q → i = i') ∧ RelT hp' M' (F' 0) v2 (tupAt z 0) ∧ ∀ i, i < xs.length → RelT hp' M' (F' (i + 1)) (vs.getD i undef) (tupAt z (i + 1)) := by
   intro g st' hS' hk
   let M' : Mem := fun b o => if b < w.heap.size ∧ ¬ ∃ i, F i b then M b o else g.M b o
   have hgM : ∀ b o u, g.M b o = some u → M' b o = some u := fun b o u hu => by
    simp only [M']
    split
    ·rename_i hc; exact hS'.old b o u hu hc.1 hc.2
    ·exact hu
   have rest : ∀ (v : Value) (y : V) (st2 : St) (FR : Nat → Prop), (results fn a'.tmps).run P w' = .ok v w' → RelT g.hp g.M FR v y → (∀ q, FR q → ∃ ob, g.hp q = some ob) → (∀ s x, st2.ow s = some x → st'.ow s = some x) → (∀ s x q, st2.ow s = some x → FR q → ¬ g.fp s q) → z = .tup (y :: outsM st2 ks 0) →
     a'.defers = [] ∧ ∃ v, (results fn a'.tmps).run P w' = .ok v w' ∧
    ∃ (v2 : Value) (M' : Mem) (hp' : Hp) (F' : Nat → Nat → Prop), Ending.returned v = .returned v2 ∧ BelowF (fun q => ∃ i, F i q) w.heap.size w w' ∧ (∀ b o u, M b o = some u → M' b o = some u) ∧ (∀ b o u, M' b o = some u → w'.cell? ⟨b, o, none⟩ = some u) ∧
     (∀ b o u, M' b o = some u → b < w.heap.size → (¬ ∃ i, F i b) → M b o = some u) ∧ (∀ q ob, hp' q = some ob → (w.heap.size ≤ q ∨ ∃ i, F i q) ∧ w'.heap[q]? = some ob ∧ ∀ o, M' q o = none) ∧
     (∀ i q, F' i q → ∃ ob, hp' q = some ob) ∧ (∀ i i' q, F' i q → F' i' q → i = i') ∧ RelT hp' M' (F' 0) v2 (tupAt z 0) ∧ ∀ i, i < xs.length → RelT hp' M' (F' (i + 1)) (vs.getD i undef) (tupAt z (i + 1)) := by
    intro v y st2 FR hrun hv hFR hst2 hFR2 hz
    refine ⟨hS'.defers, v, hrun, v, M', g.hp, fun i q => match i with
     | 0 => FR q
     | i + 1 => (∃ x, st2.ow i = some x) ∧ g.fp i q, rfl, hS'.below, fun b o u hu => hgM b o u (hS'.keepM b o u hu), fun b o u hu => ?_, fun b o u hu hb hn => ?_, fun q ob hq => ?_, fun i q hq => ?_, fun i i' q q1 q2 => ?_, ?_, fun i hi => ?_⟩
    ·simp only [M'] at hu
     split at hu
     ·rename_i hc
      rw [World.cell?_of_block (w := w) (hS'.below.block b hc.1 hc.2)]; exact hM b o u hu
     ·exact hS'.mem b o u hu
    ·simp only [M'] at hu
     rw [if_pos ⟨hb, hn⟩] at hu; exact hu
    ·obtain ⟨p1, p2, p3, _⟩ := hS'.hp q ob hq
     refine ⟨p1, p2, fun o => ?_⟩
     simp only [M']
     rw [if_neg (fun hc => p1.elim (fun h => by have := hc.1; omega) hc.2)]
     exact p3 o
    ·cases i with
     | zero => exact hFR q hq
     | succ i =>
      obtain ⟨⟨x, hx⟩, hq⟩ := hq
      exact hS'.fph i x q (hst2 i x hx) hq
    ·cases i with
     | zero => cases i' with
      | zero => rfl
      | succ i' =>
       obtain ⟨⟨x, hx⟩, q2⟩ := q2
       exact absurd q2 (hFR2 i' x q hx q1)
     | succ i => cases i' with
      | zero =>
       obtain ⟨⟨x, hx⟩, q1⟩ := q1
       exact absurd q1 (hFR2 i x q hx q2)
      | succ i' =>
       obtain ⟨⟨x, hx⟩, q1⟩ := q1
       obtain ⟨⟨x', hx'⟩, q2⟩ := q2
       by_cases e : i = i'
       ·rw [e]
       ·exact absurd q2 (hS'.owd i i' x x' (hst2 i x hx) (hst2 i' x' hx') e q q1)
    ·rw [hz]; exact hv.mono hgM
    ·rw [hz]
     show RelT g.hp M' _ _ ((outsM st2 ks 0).getD i .any)
     rw [outsM_at, Nat.zero_add]
     split
     ·exact .pure _ _ _ (.any _)
     ·rename_i m hm
      obtain ⟨_, _, h8⟩ := hkd i m hm
      cases hx : st2.ow i with
      | none => exact .pure _ _ _ (.any _)
      | some x =>
       have := hS'.own i x (hst2 i x hx)
       rw [hS'.ovp i h8] at this
       exact (this.mono hgM).weak fun q hq => ⟨⟨x, hx⟩, hq⟩
   unfold retM at hk
   split at hk
   ·rw [resKK_eq, resK_ret] at hk
    obtain ⟨y, hy, hk⟩ := oB_ hk
    obtain ⟨v, h1, h2⟩ := retK_ok hS' hy
    exact rest v y st' (fun _ => False) h1 (.pure _ _ _ h2) (fun _ h => h.elim) (fun _ _ h => h) (fun _ _ _ _ h => h.elim) (oJ_ hk).symm
   ·split at hk
    ·rename_i t hrs
     have hrun : (results fn a'.tmps).run P w' = .ok (a'.tmps.getD t undef) w' := by
      have : fn.results = #[.tmp t] := by apply Array.toList_inj.1; exact hrs
      simp [results, this]
     have hsl := hS'.slot t
     split at hk
     ·rename_i s hφ
      split at hk
      ·rename_i x hx
       rw [hφ] at hsl
       have hov := (hsl (by simp)).2
       simp only [walkV, oE_] at hov
       refine rest _ x (dropO st' (some s)) (g.fp s) hrun (by rw [← hov]; exact hS'.own s x hx) (fun q hq => hS'.fph s x q hx hq) (fun s1 x1 h1 => ?_) (fun s1 x1 q h1 hq => ?_) (oJ_ hk).symm
       ·have h1 : upd st'.ow s none s1 = some x1 := h1
        by_cases e : s1 = s
        ·subst e; rw [upd_same] at h1; cases h1
        ·rw [upd_ne _ _ e] at h1; exact h1
       ·have h1 : upd st'.ow s none s1 = some x1 := h1
        by_cases e : s1 = s
        ·subst e; rw [upd_same] at h1; cases h1
        ·rw [upd_ne _ _ e] at h1; exact hS'.owd s s1 x x1 hx h1 (Ne.symm e) q hq
      ·cases hk
     ·rename_i hφ
      rw [hφ] at hsl
      simp only [RelC] at hsl
      exact rest _ _ st' (fun _ => False) hrun (by rw [hsl]; exact .oslNil _ _) (fun _ h => h.elim) (fun _ _ h => h) (fun _ _ _ _ h => h.elim) (oJ_ hk).symm
     ·rename_i s k0 hφ
      split at hk
      ·rename_i x hx
       unfold objK at hk
       split at hk
       rotate_left
       ·cases hk
       rename_i l
       rw [hφ] at hsl
       obtain ⟨_, u, b, q1, q2, q3⟩ := hsl (by simp)
       simp only [walkV, oE_] at q1
       subst q1
       have hT := hS'.own s _ hx
       obtain ⟨b', hb'⟩ := relT_obj hT
       have hval : a'.tmps.getD t undef = g.ov s := by
        rw [q3, hb']
        rw [hb'] at q2
        simp only [blockAt, oE_] at q2
        simp [Stp.abs, q2]
       refine rest _ _ (dropO st' (some s)) (g.fp s) hrun (by rw [hval]; exact hT) (fun q hq => hS'.fph s _ q hx hq) (fun s1 x1 h1 => ?_) (fun s1 x1 q h1 hq => ?_) (oJ_ hk).symm
       ·have h1 : upd st'.ow s none s1 = some x1 := h1
        by_cases e : s1 = s
        ·subst e; rw [upd_same] at h1; cases h1
        ·rw [upd_ne _ _ e] at h1; exact h1
       ·have h1 : upd st'.ow s none s1 = some x1 := h1
        by_cases e : s1 = s
        ·subst e; rw [upd_same] at h1; cases h1
        ·rw [upd_ne _ _ e] at h1; exact hS'.owd s s1 _ x1 hx h1 (Ne.symm e) q hq
      ·cases hk
     ·cases hk
    ·rename_i t ty hrs
     have hsl := hS'.slot t
     split at hk
     ·rename_i s k0 hφ
      split at hk
      ·rename_i x hx
       obtain ⟨z0, hz0, hk⟩ := oB_ hk
       rw [hφ] at hsl
       obtain ⟨_, u, b, q1, q2, q3⟩ := hsl (by simp)
       simp only [walkV, oE_] at q1
       subst q1
       obtain ⟨cs, F, hrl, hT, hF⟩ := wholeO_ok hS' hx hz0 q2
       have hrun : (results fn a'.tmps).run P w' = .ok (.agg cs) w' := by
        have : fn.results = #[.cell t ty] := by apply Array.toList_inj.1; exact hrs
        have q4 : a'.tmps.getD t undef = .pointer (some ⟨b, 0, none⟩) := by rw [q3]; simp [Stp.abs]
        have q5 : a'.tmps[t]?.getD undef = .pointer (some ⟨b, 0, none⟩) := by rw [← Array.getD_eq_getD_getElem?]; exact q4
        simp only [results, this]
        simp [q5, asAddr, hrl]
       refine rest _ z0 (dropO st' (some s)) F hrun hT (fun q hq => hS'.fph s x q hx (hF q hq)) (fun s1 x1 h1 => ?_) (fun s1 x1 q h1 hq => ?_) (oJ_ hk).symm
       ·have h1 : upd st'.ow s none s1 = some x1 := h1
        by_cases e : s1 = s
        ·subst e; rw [upd_same] at h1; cases h1
        ·rw [upd_ne _ _ e] at h1; exact h1
       ·have h1 : upd st'.ow s none s1 = some x1 := h1
        by_cases e : s1 = s
        ·subst e; rw [upd_same] at h1; cases h1
        ·rw [upd_ne _ _ e] at h1; exact hS'.owd s s1 x x1 hx h1 (Ne.symm e) q (hF q hq)
      ·cases hk
     ·cases hk
    ·rename_i t t2 hrs
     have hrun : (results fn a'.tmps).run P w' = .ok (.tuple #[a'.tmps.getD t undef, a'.tmps.getD t2 undef]) w' := by
      have : fn.results = #[.tmp t, .tmp t2] := by apply Array.toList_inj.1; exact hrs
      simp [results, this]
     have hsl := hS'.slot t
     have hs2 := hS'.asV (hS'.slot t2)
     have two : ∀ (F0 : Nat → Prop) (x e : V), RelT g.hp g.M F0 (a'.tmps.getD t undef) x → pureO (st'.asV (st'.φ t2)) = some e → RelT g.hp g.M F0 (.tuple #[a'.tmps.getD t undef, a'.tmps.getD t2 undef]) (.tup [x, e]) := fun F0 x e hx he => by
      unfold pureO at he
      split at he
      ·obtain rfl := oJ_ he
       refine .tup F0 _ _ (fun i => if i = 0 then F0 else fun _ => False) rfl (fun i z hz => ?_) (fun i q hq => ?_) (fun i i' q hq hq' => ?_)
       ·match i, hz with
        | 0, hz => cases hz; exact hx
        | 1, hz => cases hz; exact .pure _ _ _ hs2
       ·by_cases e0 : i = 0
        ·simp only [if_pos e0] at hq; exact hq
        ·simp only [if_neg e0] at hq
       ·by_cases e0 : i = 0
        ·by_cases e1 : i' = 0
         ·rw [e0, e1]
         ·simp only [if_neg e1] at hq'
        ·simp only [if_neg e0] at hq
      ·cases he
     split at hk
     ·rename_i s k0 hφ
      split at hk
      ·rename_i x hx
       unfold objK at hk
       split at hk
       rotate_left
       ·cases hk
       rename_i l
       obtain ⟨e, he, hk⟩ := oB_ hk
       rw [hφ] at hsl
       obtain ⟨_, u, b, q1, q2, q3⟩ := hsl (by simp)
       simp only [walkV, oE_] at q1
       subst q1
       have hT := hS'.own s _ hx
       obtain ⟨b', hb'⟩ := relT_obj hT
       have hval : a'.tmps.getD t undef = g.ov s := by
        rw [q3, hb']
        rw [hb'] at q2
        simp only [blockAt, oE_] at q2
        simp [Stp.abs, q2]
       refine rest _ _ (dropO st' (some s)) (g.fp s) hrun (two _ _ e (by rw [hval]; exact hT) he) (fun q hq => hS'.fph s _ q hx hq) (fun s1 x1 h1 => ?_) (fun s1 x1 q h1 hq => ?_) (oJ_ hk).symm
       ·have h1 : upd st'.ow s none s1 = some x1 := h1
        by_cases e : s1 = s
        ·subst e; rw [upd_same] at h1; cases h1
        ·rw [upd_ne _ _ e] at h1; exact h1
       ·have h1 : upd st'.ow s none s1 = some x1 := h1
        by_cases e : s1 = s
        ·subst e; rw [upd_same] at h1; cases h1
        ·rw [upd_ne _ _ e] at h1; exact hS'.owd s s1 _ x1 hx h1 (Ne.symm e) q hq
      ·cases hk
     ·obtain ⟨p, hp, hk⟩ := oB_ hk
      obtain ⟨e, he, hk⟩ := oB_ hk
      unfold pureO at hp
      split at hp
      ·obtain rfl := oJ_ hp
       exact rest _ _ st' (fun _ => False) hrun (two _ _ e (.pure _ _ _ (hS'.asV hsl)) he) (fun _ h => h.elim) (fun _ _ h => h) (fun _ _ _ _ h => h.elim) (oJ_ hk).symm
      ·cases hp
    ·rename_i t t2 t3 hrs
     have hrun : (results fn a'.tmps).run P w' = .ok (.tuple #[a'.tmps.getD t undef, a'.tmps.getD t2 undef, a'.tmps.getD t3 undef]) w' := by
      have : fn.results = #[.tmp t, .tmp t2, .tmp t3] := by apply Array.toList_inj.1; exact hrs
      simp [results, this]
     have hsl := hS'.slot t
     have hs2 := hS'.asV (hS'.slot t2)
     have hs3 := hS'.asV (hS'.slot t3)
     have three : ∀ (F0 : Nat → Prop) (x p e : V), RelT g.hp g.M F0 (a'.tmps.getD t undef) x → pureO (st'.asV (st'.φ t2)) = some p → pureO (st'.asV (st'.φ t3)) = some e → RelT g.hp g.M F0 (.tuple #[a'.tmps.getD t undef, a'.tmps.getD t2 undef, a'.tmps.getD t3 undef]) (.tup [x, p, e]) := fun F0 x p e hx hp he => by
      unfold pureO at hp he
      split at hp
      rotate_left
      ·cases hp
      split at he
      rotate_left
      ·cases he
      obtain rfl := oJ_ hp
      obtain rfl := oJ_ he
      refine .tup F0 _ _ (fun i => if i = 0 then F0 else fun _ => False) rfl (fun i z hz => ?_) (fun i q hq => ?_) (fun i i' q hq hq' => ?_)
      ·match i, hz with
       | 0, hz => cases hz; exact hx
       | 1, hz => cases hz; exact .pure _ _ _ hs2
       | 2, hz => cases hz; exact .pure _ _ _ hs3
      ·by_cases e0 : i = 0
       ·simp only [if_pos e0] at hq; exact hq
       ·simp only [if_neg e0] at hq
      ·by_cases e0 : i = 0
       ·by_cases e1 : i' = 0
        ·rw [e0, e1]
        ·simp only [if_neg e1] at hq'
       ·simp only [if_neg e0] at hq
     split at hk
     ·rename_i s hφ
      split at hk
      ·rename_i x hx
       obtain ⟨p, hp, hk⟩ := oB_ hk
       obtain ⟨e, he, hk⟩ := oB_ hk
       rw [hφ] at hsl
       have hov := (hsl (by simp)).2
       simp only [walkV, oE_] at hov
       refine rest _ _ (dropO st' (some s)) (g.fp s) hrun (three _ x p e (by rw [← hov]; exact hS'.own s x hx) hp he) (fun q hq => hS'.fph s x q hx hq) (fun s1 x1 h1 => ?_) (fun s1 x1 q h1 hq => ?_) (oJ_ hk).symm
       ·have h1 : upd st'.ow s none s1 = some x1 := h1
        by_cases e : s1 = s
        ·subst e; rw [upd_same] at h1; cases h1
        ·rw [upd_ne _ _ e] at h1; exact h1
       ·have h1 : upd st'.ow s none s1 = some x1 := h1
        by_cases e : s1 = s
        ·subst e; rw [upd_same] at h1; cases h1
        ·rw [upd_ne _ _ e] at h1; exact hS'.owd s s1 x x1 hx h1 (Ne.symm e) q hq
      ·cases hk
     ·rename_i hφ
      obtain ⟨p, hp, hk⟩ := oB_ hk
      obtain ⟨e, he, hk⟩ := oB_ hk
      rw [hφ] at hsl
      simp only [RelC] at hsl
      exact rest _ _ st' (fun _ => False) hrun (three _ _ p e (by rw [hsl]; exact .oslNil _ _) hp he) (fun _ h => h.elim) (fun _ _ h => h) (fun _ _ _ _ h => h.elim) (oJ_ hk).symm
     ·cases hk
    ·cases hk
  cases e with
  | normal => obtain ⟨g, st', h1, _, _, h4⟩ := hp; exact fin g st' h1 h4
  | ret => obtain ⟨g, st', h1, _, h4⟩ := hp; exact fin g st' h1 h4
  | exit id => obtain ⟨g, st', k, _, _, _, h4, _⟩ := hp; cases h4
  | goto l => exact hp.elim
  | panic c => exact hp.elim
  | outgrown => exact hp.elim
end
end Go.Proofs.YtgkohnjpnnofhaaGreat.Den
