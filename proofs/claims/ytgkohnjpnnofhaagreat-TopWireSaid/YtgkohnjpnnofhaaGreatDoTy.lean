/- table.Do, for the reader: what it comes to, as a function on plain types. -/
import Derived.Test.YtgkohnjpnnofhaaGreatTyT
import Derived.Test.YtgkohnjpnnofhaaGreatTabM
import Derived.Test.YtgkohnjpnnofhaaGreatDen14
namespace Go.Proofs.YtgkohnjpnnofhaaGreat.Ty
set_option linter.unusedSimpArgs false
set_option linter.unusedVariables false
set_option linter.unnecessarySimpa false
open Go Go.RowKit Go.Proofs.YtgkohnjpnnofhaaGreat Go.Proofs.YtgkohnjpnnofhaaGreat.Den
def rlOf (r : T_Rule) : Rl := ⟨r.Prio, r.Cube.Mask, r.Cube.Bits, r.Out, r.Set, r.Value⟩
def ofRl (r : Rl) : T_Rule := ⟨r.p, ⟨r.m, r.b⟩, r.o, r.s, r.v⟩
def dR : List V → Option T_Rule
 | [.lit (.int .i64 a), .lit (.int .i64 b), .lit (.int .i64 c), .lit (.int .i64 d), .lit (.int .i64 e), .lit (.int .i64 f)] => some ⟨a, ⟨b, c⟩, d, e, f⟩
 | _ => none
theorem dR_c (r : T_Rule) : dR r.c = some r := rfl
theorem dR_inv {xs : List V} {r : T_Rule} (h : dR xs = some r) : xs = T_Rule.c r := by
 unfold dR at h
 split at h
 ·cases h; rfl
 ·cases h
def dRs : List (List V) → Option (List T_Rule)
 | [] => some []
 | x :: l => (dR x).bind fun r => (dRs l).map fun q => r :: q
theorem dRs_c : ∀ l : List T_Rule, dRs (l.map T_Rule.c) = some l
 | [] => rfl
 | r :: l => by simp only [List.map_cons, dRs, dR_c, oS_, dRs_c l, Option.map_some]
theorem dRs_inv : ∀ {xs : List (List V)} {l : List T_Rule}, dRs xs = some l → xs = l.map T_Rule.c
 | [], l, h => by cases h; rfl
 | x :: xs, l, h => by
  simp only [dRs] at h
  obtain ⟨r, hr, h⟩ := oB_ h
  obtain ⟨q, hq, rfl⟩ := oM_ h
  rw [dR_inv hr, dRs_inv hq]; rfl
def doV (l : List T_Rule) (add : Bool) (r : T_Rule) : List T_Rule := (tdoV (l.map rlOf) add (rlOf r)).map ofRl
def doF (l : List T_Rule) (add : Bool) (r : T_Rule) : Int := tdoF (l.map rlOf) add (rlOf r)
def sem_Do (n : Nat) (xs : List V) : Option V := match xs with
 | [.sl rows, .lit (.bool add), .agg cs] => (dRs rows).bind fun l => (dR cs).map fun r => .tup [.sl ((doV l add r).map T_Rule.c), eV (doF l add r)]
 | _ => none
def t_table_Do (l : List T_Rule) (add : Bool) (r : T_Rule) : Option (List T_Rule × Int) := some (doV l add r, doF l add r)
theorem ty_table_Do {n : Nat} (l : List T_Rule) (add : Bool) (r : T_Rule) : Rv (fun x : (List T_Rule) × Int => V.tup [(V.sl (List.map T_Rule.c x.1)), (eV x.2)]) (sem_Do n [(V.sl (List.map T_Rule.c l)), (vb add), (T_Rule.e r)]) (t_table_Do l add r) := fun b hb => by
 cases hb
 show (dRs (l.map T_Rule.c)).bind _ = _
 rw [dRs_c, oS_, dR_c]; rfl
theorem rule_at {M : Mem} {u : Value} {x : Int} (h : Rel M u (vi x)) : u = .int .i64 x := by
 cases h; rfl
theorem rows_rules {w : World} {M : Mem} {v : Value} {l : List T_Rule} (hM : ∀ b o u, M b o = some u → w.cell? ⟨b, o, none⟩ = some u) (h : Rel M v (.sl (l.map T_Rule.c))) : ∃ A c, v = .slice A l.length c ∧ Rules w A c (l.map rlOf) := by
 generalize hrows : l.map T_Rule.c = rows at h
 cases h with
 | sl A n c k b o rows u hn hc hk hA hm h1 hr =>
  subst hrows
  have hn' : n = l.length := by rw [← hn]; simp
  subst hn'
  refine ⟨A, c, rfl, by simp, by simpa using hc, fun cs hcs => ?_, fun hp => ?_⟩
  ·obtain ⟨x, _, rfl⟩ := List.mem_map.1 hcs; rfl
  ·have hp' : 0 < l.length := by simpa using hp
   have hk6 : k = 6 := by
    have := hk (T_Rule.c l[0]) (List.mem_map_of_mem (List.getElem_mem hp'))
    exact this.symm
   subst hk6
   have cell : ∀ i cs, ((l.map rlOf).map Rl.cells)[i]? = some cs → ∀ j u', cs[j]? = some u' → M b (o + i * 6 + j) = some u' := by
    intro i cs hcs j u' hu
    simp only [List.map_map, List.getElem?_map, Option.map_eq_some_iff] at hcs
    obtain ⟨r, hr0, rfl⟩ := hcs
    have hri : (l.map T_Rule.c)[i]? = some (T_Rule.c r) := by rw [List.getElem?_map, hr0]; rfl
    have hm' := hm i _ hri
    have hr' := hr i _ hri
    match j, hu with
    | 0, hu => cases hu; have := rule_at (hr' 0 _ rfl); rw [hm' 0 _ rfl, this]; rfl
    | 1, hu => cases hu; have := rule_at (hr' 1 _ rfl); rw [hm' 1 _ rfl, this]; rfl
    | 2, hu => cases hu; have := rule_at (hr' 2 _ rfl); rw [hm' 2 _ rfl, this]; rfl
    | 3, hu => cases hu; have := rule_at (hr' 3 _ rfl); rw [hm' 3 _ rfl, this]; rfl
    | 4, hu => cases hu; have := rule_at (hr' 4 _ rfl); rw [hm' 4 _ rfl, this]; rfl
    | 5, hu => cases hu; have := rule_at (hr' 5 _ rfl); rw [hm' 5 _ rfl, this]; rfl
    | j + 6, hu => simp [Rl.cells] at hu
   refine ⟨b, o, hA hp', ?_, fun i cs hcs j u' hu => hM _ _ _ (cell i cs hcs j u' hu)⟩
   have := cell 0 (rlOf l[0]).cells (by simp [hp']) 0 _ rfl
   exact mem_lt hM this
theorem rules_grow {w w' : World} {M : Mem} {A : Option Addr} {c : Nat} {l : List T_Rule} (hM : ∀ b o u, M b o = some u → w.cell? ⟨b, o, none⟩ = some u) (hB : Below w.heap.size w w') (h : Rules w' A c (l.map rlOf)) (hf : FreshRow w.heap.size A (l.map rlOf)) :
  ∃ M', Grow M w M' w' ∧ Rel M' (.slice A l.length c) (.sl (l.map T_Rule.c)) := by
 have hMw : ∀ b o u, M b o = some u → w'.cell? ⟨b, o, none⟩ = some u := fun b o u hu => by rw [World.cell?_of_block (w := w) (hB.block b (mem_lt hM hu))]; exact hM b o u hu
 obtain ⟨h1, h2, h3, h4⟩ := h
 simp only [List.length_map] at h1 h2 h4
 by_cases hl : l = []
 ·subst hl
  refine ⟨M, ⟨hB, fun _ _ _ h => h, hMw, fun _ _ _ h _ => h⟩, ?_⟩
  exact .sl A 0 c 6 0 0 [] (fun _ _ => undef) rfl (by simpa using h2) (by simp) (by simp) (by simp) (by simp) (by simp)
 ·have hp : 0 < l.length := List.length_pos_iff.2 hl
  obtain ⟨b, o, rfl, hb, hc⟩ := h4 hp
  have hge : w.heap.size ≤ b := by
   rcases hf with h0 | ⟨b', o', e, h⟩
   ·exact absurd h0 (by simpa using hl)
   ·simp only [oE_, Addr.mk.injEq] at e
    omega
  let M' : Mem := fun b' o' => if b' = b then w'.cell? ⟨b, o', none⟩ else M b' o'
  have hne : ∀ b' o' u, M b' o' = some u → b' ≠ b := fun b' o' u hu e => by have := mem_lt hM hu; omega
  have hmono : ∀ b' o' u, M b' o' = some u → M' b' o' = some u := fun b' o' u hu => by simp only [M']; rw [if_neg (hne b' o' u hu)]; exact hu
  have hmem : ∀ b' o' u, M' b' o' = some u → w'.cell? ⟨b', o', none⟩ = some u := fun b' o' u hu => by
   simp only [M'] at hu
   split at hu
   ·rename_i e
    subst e
    exact hu
   ·exact hMw b' o' u hu
  refine ⟨M', ⟨hB, hmono, hmem, fun b' o' u hu hb' => ?_⟩, ?_⟩
  ·simp only [M'] at hu
   rw [if_neg (by omega)] at hu; exact hu
  ·have hIs : IsSl M' (some ⟨b, o, none⟩) c (l.map T_Rule.c) 6 b o := by
    refine ⟨by simpa using h2, fun r hr => by obtain ⟨x, _, rfl⟩ := List.mem_map.1 hr; rfl, fun _ => rfl, fun i r hr j z hz => ?_⟩
    rw [List.getElem?_map] at hr
    obtain ⟨x, hx, rfl⟩ := oM_ hr
    have hcs := hc i (rlOf x).cells (by simp [hx])
    simp only [M', if_true]
    match j, hz with
    | 0, hz => cases hz; exact ⟨_, hcs 0 _ rfl, rfl, .lit _ rfl⟩
    | 1, hz => cases hz; exact ⟨_, hcs 1 _ rfl, rfl, .lit _ rfl⟩
    | 2, hz => cases hz; exact ⟨_, hcs 2 _ rfl, rfl, .lit _ rfl⟩
    | 3, hz => cases hz; exact ⟨_, hcs 3 _ rfl, rfl, .lit _ rfl⟩
    | 4, hz => cases hz; exact ⟨_, hcs 4 _ rfl, rfl, .lit _ rfl⟩
    | 5, hz => cases hz; exact ⟨_, hcs 5 _ rfl, rfl, .lit _ rfl⟩
    | j + 6, hz => simp [T_Rule.c] at hz
   have := hIs.rel
   rw [List.length_map] at this
   exact this
theorem ok_Do {Dw : World → Prop} (n : Nat) : SemOk Tryz.prog Dw 21 (sem_Do n) := fun xs y h => by
 unfold sem_Do at h
 split at h
 ·rename_i rows add cs
  obtain ⟨l, hl, h⟩ := oB_ h
  obtain ⟨r, hr, rfl⟩ := oM_ h
  obtain rfl := dRs_inv hl
  obtain rfl := dR_inv hr
  refine ⟨⟨_, Tryz.func21, by kernel_rfl, by kernel_rfl⟩, fun w M vs hD hM hv => ?_⟩
  obtain ⟨vs⟩ := vs
  obtain ⟨hlen, hv⟩ := hv
  match vs, hlen with
  | [v0, v1, v2], _ =>
   have e0 : Rel M v0 (.sl (l.map T_Rule.c)) := hv 0 _ rfl
   have e1 : Rel M v1 (.lit (.bool add)) := hv 1 _ rfl
   have e2 : Rel M v2 (.agg (T_Rule.c r)) := hv 2 _ rfl
   obtain ⟨A, c, rfl, hR⟩ := rows_rules hM e0
   obtain rfl : v1 = .bool add := by cases e1; rfl
   obtain rfl : v2 = .agg #[.int .i64 r.Prio, .int .i64 r.Cube.Mask, .int .i64 r.Cube.Bits, .int .i64 r.Out, .int .i64 r.Set, .int .i64 r.Value] := rel_val e2 rfl
   have := tdo_any A c (l.map rlOf) add (rlOf r) w hR
   rw [List.length_map] at this
   refine this.mono ?_
   rintro e w' ⟨A', c', rfl, hR', hB, hf⟩
   have hR2 : Rules w' A' c' ((doV l add r).map rlOf) := by
    have : (doV l add r).map rlOf = tdoV (l.map rlOf) add (rlOf r) := by
     unfold doV; rw [List.map_map]; exact List.map_id _
    rw [this]; exact hR'
   have hf2 : FreshRow w.heap.size A' ((doV l add r).map rlOf) := by
    have : (doV l add r).map rlOf = tdoV (l.map rlOf) add (rlOf r) := by
     unfold doV; rw [List.map_map]; exact List.map_id _
    rw [this]; exact hf
   obtain ⟨M', hG, hRel⟩ := rules_grow hM hB hR2 hf2
   refine ⟨_, M', rfl, hG, ?_⟩
   refine .tup _ _ rfl fun i x hx => ?_
   match i, hx with
   | 0, hx =>
    cases hx
    have : (doV l add r).length = (tdoV (l.map rlOf) add (rlOf r)).length := by unfold doV; simp
    show Rel M' (.slice A' (tdoV (l.map rlOf) add (rlOf r)).length c') _
    rw [← this]; exact hRel
   | 1, hx =>
    cases hx
    refine .lit _ ?_
    show (errOf _).oneCell' = true
    unfold errOf
    split <;> rfl
   | i + 2, hx => simp at hx
 ·cases h
end Go.Proofs.YtgkohnjpnnofhaaGreat.Ty
