/- table.Diff, for the reader: what it comes to, as a function on plain types. -/
import Derived.Test.YtpkcdfgjcodidaaDoTy
import Derived.Test.YtpkcdfgjcodidaaTable3
namespace Go.Proofs.Ytpkcdfgjcodidaa.Ty
open Go Go.RowKit Go.Proofs.Ytpkcdfgjcodidaa Go.Proofs.Ytpkcdfgjcodidaa.Den
set_option linter.unusedSimpArgs false
set_option linter.unusedVariables false
set_option linter.unnecessarySimpa false

def opOf (x : T_Op) : Opx := ⟨x.Switch, x.Add, rlOf x.Rule⟩
def ofOp (x : Opx) : T_Op := ⟨x.s, x.add, ofRl x.r⟩
theorem ofOp_opOf (x : T_Op) : ofOp (opOf x) = x := rfl
theorem opOf_ofOp (x : Opx) : opOf (ofOp x) = x := rfl
def diffE (a b : List T_Rule) : Int := t2chk (a.map rlOf) (b.map rlOf)
def diffV (a b : List T_Rule) : List T_Op := if diffE a b = 0 then (tdiff (a.map rlOf) (b.map rlOf)).map ofOp else []
def sem_TDiff (n : Nat) (xs : List V) : Option V := match xs with
  | [.sl ra, .sl rb] => (dRs ra).bind fun a => (dRs rb).map fun b => .tup [.sl ((diffV a b).map T_Op.c), eV (diffE a b)]
  | _ => none
def t_table_Diff (a b : List T_Rule) : Option (List T_Op × Int) := some (diffV a b, diffE a b)
theorem ty_table_Diff {n : Nat} (a b : List T_Rule) : Rv (fun x : (List T_Op) × Int => V.tup [(V.sl (List.map T_Op.c x.1)), (eV x.2)]) (sem_TDiff n [(V.sl (List.map T_Rule.c a)), (V.sl (List.map T_Rule.c b))]) (t_table_Diff a b) := fun y hy => by
  cases hy
  show (dRs (a.map T_Rule.c)).bind _ = _
  rw [dRs_c, Option.bind_some, dRs_c]; rfl
/-- ops that have just been made, as a row to be read -/
theorem ops_grow {w w' : World} {M : Mem} {A : Option Addr} {c : Nat} {l : List T_Op} (hM : ∀ b o u, M b o = some u → w.cell? ⟨b, o, none⟩ = some u) (hB : Below w.heap.size w w') (h : Ops w' A c (l.map opOf)) (hf : FreshRow w.heap.size A (l.map opOf)) :
    ∃ M', Grow M w M' w' ∧ Rel M' (.slice A l.length c) (.sl (l.map T_Op.c)) := by
  have hMw : ∀ b o u, M b o = some u → w'.cell? ⟨b, o, none⟩ = some u := fun b o u hu => by rw [World.cell?_of_block (w := w) (hB.block b (mem_lt hM hu))]; exact hM b o u hu
  obtain ⟨h1, h2, h3, h4⟩ := h
  simp only [List.length_map] at h1 h2 h4
  by_cases hl : l = []
  · subst hl
    refine ⟨M, ⟨hB, fun _ _ _ h => h, hMw, fun _ _ _ h _ => h⟩, ?_⟩
    exact .sl A 0 c 8 0 0 [] (fun _ _ => undef) rfl (by simpa using h2) (by simp) (by simp) (by simp) (by simp) (by simp)
  · have hp : 0 < l.length := List.length_pos_iff.2 hl
    obtain ⟨b, o, rfl, hb, hc⟩ := h4 hp
    have hge : w.heap.size ≤ b := by
      rcases hf with h0 | ⟨b', o', e, h⟩
      · exact absurd h0 (by simpa using hl)
      · simp only [Option.some.injEq, Addr.mk.injEq] at e
        omega
    let M' : Mem := fun b' o' => if b' = b then w'.cell? ⟨b, o', none⟩ else M b' o'
    have hne : ∀ b' o' u, M b' o' = some u → b' ≠ b := fun b' o' u hu e => by have := mem_lt hM hu; omega
    have hmono : ∀ b' o' u, M b' o' = some u → M' b' o' = some u := fun b' o' u hu => by simp only [M']; rw [if_neg (hne b' o' u hu)]; exact hu
    have hmem : ∀ b' o' u, M' b' o' = some u → w'.cell? ⟨b', o', none⟩ = some u := fun b' o' u hu => by
      simp only [M'] at hu
      split at hu
      · rename_i e
        subst e
        exact hu
      · exact hMw b' o' u hu
    refine ⟨M', ⟨hB, hmono, hmem, fun b' o' u hu hb' => ?_⟩, ?_⟩
    · simp only [M'] at hu
      rw [if_neg (by omega)] at hu; exact hu
    · have hIs : IsSl M' (some ⟨b, o, none⟩) c (l.map T_Op.c) 8 b o := by
        refine ⟨by simpa using h2, fun r hr => by obtain ⟨x, _, rfl⟩ := List.mem_map.1 hr; rfl, fun _ => rfl, fun i r hr j z hz => ?_⟩
        rw [List.getElem?_map] at hr
        obtain ⟨x, hx, rfl⟩ := Option.map_eq_some_iff.1 hr
        have hcs := hc i (opOf x).cells (by simp [hx])
        simp only [M', if_true]
        match j, hz with
        | 0, hz => cases hz; exact ⟨_, hcs 0 _ rfl, rfl, .lit _ rfl⟩
        | 1, hz => cases hz; exact ⟨_, hcs 1 _ rfl, rfl, .lit _ rfl⟩
        | 2, hz => cases hz; exact ⟨_, hcs 2 _ rfl, rfl, .lit _ rfl⟩
        | 3, hz => cases hz; exact ⟨_, hcs 3 _ rfl, rfl, .lit _ rfl⟩
        | 4, hz => cases hz; exact ⟨_, hcs 4 _ rfl, rfl, .lit _ rfl⟩
        | 5, hz => cases hz; exact ⟨_, hcs 5 _ rfl, rfl, .lit _ rfl⟩
        | 6, hz => cases hz; exact ⟨_, hcs 6 _ rfl, rfl, .lit _ rfl⟩
        | 7, hz => cases hz; exact ⟨_, hcs 7 _ rfl, rfl, .lit _ rfl⟩
        | j + 8, hz => simp [T_Op.c] at hz
      have := hIs.rel
      rw [List.length_map] at this
      exact this
theorem ok_TDiff {Dw : World → Prop} (n : Nat) : SemOk Try.prog Dw 57 (sem_TDiff n) := fun xs y h => by
  unfold sem_TDiff at h
  split at h
  · rename_i ra rb
    obtain ⟨a, ha, h⟩ := Option.bind_eq_some_iff.1 h
    obtain ⟨b, hb, rfl⟩ := Option.map_eq_some_iff.1 h
    obtain rfl := dRs_inv ha
    obtain rfl := dRs_inv hb
    refine ⟨⟨_, Try.func57, by kernel_rfl, by kernel_rfl⟩, fun w M vs hD hM hv => ?_⟩
    obtain ⟨vs⟩ := vs
    obtain ⟨hlen, hv⟩ := hv
    match vs, hlen with
    | [v0, v1], _ =>
      have e0 : Rel M v0 (.sl (a.map T_Rule.c)) := hv 0 _ rfl
      have e1 : Rel M v1 (.sl (b.map T_Rule.c)) := hv 1 _ rfl
      obtain ⟨A, c, rfl, hR⟩ := rows_rules hM e0
      obtain ⟨A2, c2, rfl, hR2⟩ := rows_rules hM e1
      have hcall : Calls Try.prog 57 #[.slice A a.length c, .slice A2 b.length c2] w (RetOpsV ((diffV a b).map opOf) (errOf (diffE a b)) w) := by
        by_cases hz : diffE a b = 0
        · have := tdiff_ok A A2 c c2 (a.map rlOf) (b.map rlOf) w hR hR2 hz
          rw [List.length_map, List.length_map] at this
          have e : (diffV a b).map opOf = tdiff (a.map rlOf) (b.map rlOf) := by
            unfold diffV; rw [if_pos hz, List.map_map]; exact List.map_id _
          rw [e, hz]; exact this
        · have := tdiff_bad A A2 c c2 (a.map rlOf) (b.map rlOf) w hR hR2 hz
          rw [List.length_map, List.length_map] at this
          have e : (diffV a b).map opOf = [] := by unfold diffV; rw [if_neg hz]; rfl
          rw [e, errOf_ne hz]; exact this
      refine hcall.mono ?_
      rintro e w' ⟨v, rfl, hO, hB⟩
      obtain ⟨A', c', rfl, hR'⟩ := hO.ops
      have hf := hO.freshRow (f := Opx.cells) rfl (Nat.le_refl _)
      obtain ⟨M', hG, hRel⟩ := ops_grow hM hB hR' hf
      refine ⟨_, M', rfl, hG, ?_⟩
      refine .tup _ _ rfl fun i x hx => ?_
      match i, hx with
      | 0, hx =>
        cases hx
        have : (diffV a b).length = ((diffV a b).map opOf).length := by simp
        show Rel M' (.slice A' ((diffV a b).map opOf).length c') _
        rw [← this]; exact hRel
      | 1, hx =>
        cases hx
        refine .lit _ ?_
        show (errOf _).oneCell' = true
        unfold errOf
        split <;> rfl
      | i + 2, hx => simp at hx
  · cases h
end Go.Proofs.Ytpkcdfgjcodidaa.Ty
