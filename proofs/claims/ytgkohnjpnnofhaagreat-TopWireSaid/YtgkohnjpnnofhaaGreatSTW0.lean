/- Drives, agents, messages as bytes, ops on nets: what they are, gathered for TopWire. -/
import Derived.Test.YtgkohnjpnnofhaaGreatTyA
import Derived.Test.YtgkohnjpnnofhaaGreatAgTy
import Derived.Test.YtgkohnjpnnofhaaGreatAgReady
import Derived.Test.YtgkohnjpnnofhaaGreatAgWork
import Derived.Test.YtgkohnjpnnofhaaGreatTyB
import Derived.Test.YtgkohnjpnnofhaaGreatSBase
import Derived.Test.YtgkohnjpnnofhaaGreatPlain
import Derived.Test.YtgkohnjpnnofhaaGreatVcS
import Derived.Test.YtgkohnjpnnofhaaGreatTabM
import Derived.Test.YtgkohnjpnnofhaaGreatDoTy
namespace Go.Proofs.YtgkohnjpnnofhaaGreat.Ty
set_option linter.unusedSimpArgs false
set_option linter.unusedVariables false
open Go Go.RowKit Go.Proofs.YtgkohnjpnnofhaaGreat.Den
set_option maxRecDepth 100000
abbrev cf (c : T_Cube) : Int := cchk c.Mask c.Bits
abbrev hs (c : T_Cube) (h : Int) : Bool := chas c.Mask c.Bits h
theorem hdr_eq (k : Int) : (decide (0 ≤ k) && decide (k < 16)) = hdr k := by unfold hdr; rw [Bool.eq_iff_iff]; simp
theorem s_cube_Header (k : Int) : t_cube_Header k = some (hdr k) := by rw [t_cube_Header, hdr_eq]
theorem s_cube_Check (c : T_Cube) : t_cube_Check c = some (cf c) := by
 unfold t_cube_Check cf cchk
 simp only [s_cube_Header, oS_]
 cases h1 : hdr c.Mask
 ·rw [hdr_not] at h1
  simp [gd_false]
  try omega
 ·cases h2 : hdr c.Bits
  ·rw [hdr_not] at h2
   simp [gd_true, h2]
   try omega
  ·rw [hdr_iff] at h1 h2
   rw [if_pos (show 0 ≤ c.Mask ∧ c.Mask < 16 ∧ 0 ≤ c.Bits ∧ c.Bits < 16 by omega)]
   by_cases h3 : bits .andNot .i64 c.Bits c.Mask = 0 <;> simp [gd_true, h3]
def rchk (p m b o s v : Int) : Int :=
 if 0 ≤ p ∧ p ≤ 99 ∧ 0 ≤ o ∧ o ≤ 4 ∧ (0 ≤ s ∧ s < 16) ∧ (0 ≤ v ∧ v < 16) then
  (if cchk m b = 0 then (if bits .andNot .i64 v s = 0 ∧ ¬ (o = 0 ∧ s ≠ 0) then 0 else 3) else cchk m b)
 else 1
theorem rchk_0 {p m b o s v : Int} : rchk p m b o s v = 0 ↔ (0 ≤ p ∧ p ≤ 99 ∧ 0 ≤ o ∧ o ≤ 4 ∧ (0 ≤ s ∧ s < 16) ∧ (0 ≤ v ∧ v < 16)) ∧ cchk m b = 0 ∧ bits .andNot .i64 v s = 0 ∧ ¬ (o = 0 ∧ s ≠ 0) := by
 unfold rchk
 split
 ·rename_i h
  split
  ·rename_i h2
   split
   ·rename_i h3; exact ⟨fun _ => ⟨h, h2, h3.1, h3.2⟩, fun _ => rfl⟩
   ·rename_i h3; exact ⟨fun h => absurd h (by decide), fun h => absurd ⟨h.2.2.1, h.2.2.2⟩ h3⟩
  ·rename_i h2; exact ⟨fun h => absurd h h2, fun h => absurd h.2.1 h2⟩
 ·rename_i h; exact ⟨fun h => absurd h (by decide), fun h2 => absurd h2.1 h⟩
set_option maxHeartbeats 800000 in
def T_Rule.chk (x : T_Rule) : Int := rchk x.Prio x.Cube.Mask x.Cube.Bits x.Out x.Set x.Value
def op0 : T_Op := ⟨0, false, ⟨0, ⟨0, 0⟩, 0, 0, 0⟩⟩
def mg0 : T_Msg := ⟨0, 0, 0, 0, op0⟩
def T_Msg.chk (x : T_Msg) : Int :=
 if x.Kind < 1 ∨ 3 < x.Kind ∨ x.Switch < 1 ∨ 6 < x.Switch ∨ x.Round < 0 ∨ 20 ≤ x.Round ∨ x.Index < 0 ∨ 200 < x.Index then 1
 else if x.Kind ≠ 1 then (if x.Op ≠ op0 ∨ (x.Kind = 3 ∧ x.Index ≠ 0) then 3 else 0)
 else if x.Op.Rule.chk ≠ 0 then x.Op.Rule.chk
 else if x.Op.Switch ≠ x.Switch then 3 else 0
theorem rchk_ite (p m b o s v : Int) (hs hv : Bool) (h1 : hs = true ↔ 0 ≤ s ∧ s < 16) (h2 : hv = true ↔ 0 ≤ v ∧ v < 16) (e : Int) (he : e = cchk m b) :
  (if (((((decide (p < 0) || decide (99 < p)) || decide (o < 0)) || decide (4 < o)) || !hs) || !hv) = true then some (1 : Int) else
   if (!decide (e = 0)) = true then some e else if (decide (bits .andNot .i64 v s ≠ 0) || (decide (o = 0) && decide (s ≠ 0))) = true then some 3 else some 0) = some (rchk p m b o s v) := by
 subst he
 unfold rchk
 by_cases h : 0 ≤ p ∧ p ≤ 99 ∧ 0 ≤ o ∧ o ≤ 4 ∧ (0 ≤ s ∧ s < 16) ∧ (0 ≤ v ∧ v < 16)
 ·rw [if_neg (by rw [h1.2 h.2.2.2.2.1, h2.2 h.2.2.2.2.2]; simp; omega), if_pos h]
  by_cases hk : cchk m b = 0
  ·rw [if_neg (by simp [hk]), if_pos hk]
   generalize bits .andNot .i64 v s = B
   by_cases h3 : B = 0 <;> by_cases h4 : o = 0 <;> by_cases h5 : s = 0 <;> simp [h3, h4, h5]
  ·rw [if_pos (by simp [hk]), if_neg hk]
 ·rw [if_neg h, if_pos]
  cases hs <;> cases hv <;> simp at h1 h2 ⊢
  omega
theorem s_rule_Check (r : T_Rule) : t_rule_Check r = some r.chk := by
 have key := rchk_ite r.Prio r.Cube.Mask r.Cube.Bits r.Out r.Set r.Value (hdr r.Set) (hdr r.Value) hdr_iff hdr_iff (cf r.Cube) rfl
 unfold t_rule_Check T_Rule.chk
 simp only [s_cube_Header, s_cube_Check, oS_]
 rw [← key]
 cases hA : (((decide (r.Prio < 0) || decide (99 < r.Prio)) || decide (r.Out < 0)) || decide (4 < r.Out))
 ·cases hB : hdr r.Set
  ·simp [gd_true, gd_false]
  ·simp only [Bool.false_or, Bool.not_false, Bool.not_true, gd_true, oS_]
 ·simp [gd_false]
theorem s_wire_Check (m : T_Msg) : t_wire_Check m = some m.chk := by
 unfold t_wire_Check T_Msg.chk
 simp only [s_rule_Check, oS_]
 by_cases h1 : m.Kind < 1 ∨ 3 < m.Kind ∨ m.Switch < 1 ∨ 6 < m.Switch ∨ m.Round < 0 ∨ 20 ≤ m.Round ∨ m.Index < 0 ∨ 200 < m.Index
 ·rw [if_pos h1, if_pos (by simp; omega)]
 ·rw [if_neg h1, if_neg (by simp; omega)]
  by_cases h2 : m.Kind = 1
  ·by_cases h3 : m.Op.Rule.chk = 0 <;> by_cases h4 : m.Op.Switch = m.Switch <;> simp [h2, h3, h4]
  ·rw [if_pos (decide_eq_true h2), if_pos h2]
   have e : (⟨0, false, ⟨0, ⟨0, 0⟩, 0, 0, 0⟩⟩ : T_Op) = op0 := rfl
   rw [e]
   by_cases h3 : m.Op = op0 <;> by_cases h4 : m.Kind = 3 <;> by_cases h5 : m.Index = 0 <;> simp [h3, h4, h5]
section
variable {α β σ : Type}
end
section
variable {α β σ τ : Type}
end
section
variable {K α : Type} [DecidableEq K]
theorem mfind_off : ∀ (l : List (K × α)) (a : K) (i : Nat), mfind l a i = (mfind l a 0).map fun p => (p.1 + i, p.2)
 | [], _, _ => rfl
 | (b, u) :: r, a, i => by
  simp only [mfind]
  split
  ·simp
  ·rw [mfind_off r a (i + 1), mfind_off r a (0 + 1)]
   cases mfind r a 0 with
   | none => rfl
   | some p => simp; omega
theorem mget_cons (b : K) (u : α) (r : List (K × α)) (a : K) (d : α) : mget ((b, u) :: r) a d = if a = b then u else mget r a d := by
 unfold mget
 simp only [mfind]
 by_cases h : a = b
 ·simp [h]
 ·rw [if_neg h, if_neg h, mfind_off r a (0 + 1)]
  cases mfind r a 0 <;> rfl
end
section
variable {α β σ : Type}
theorem goI_ex {step : Int → α → σ → (σ → Option β) → Option β} {fin : σ → Option β} {I : Int → List α → σ → Prop} {Q : β → Prop} (hfin : ∀ i s, I i [] s → ∃ v, fin s = some v ∧ Q v)
  (hstep : ∀ i x l s k, I i (x :: l) s → (∀ s', I (i + 1) l s' → ∃ v, k s' = some v ∧ Q v) → ∃ v, step i x s k = some v ∧ Q v) : ∀ (l : List α) (i : Int) (s : σ), I i l s → ∃ v, goI step fin i l s = some v ∧ Q v
 | [], i, s, h => hfin i s h
 | x :: l, i, s, h => hstep i x l s _ h fun s' h' => goI_ex hfin hstep l (i + 1) s' h'
theorem loopI_ex {step : Int → α → σ → (σ → Option β) → Option β} {fin : σ → Option β} (I : Int → List α → σ → Prop) {Q : β → Prop} {l : List α} {s : σ} (hl : (l.length : Int) ≤ 9223372036854775807) (h0 : I 0 l s) (hfin : ∀ i s, I i [] s → ∃ v, fin s = some v ∧ Q v)
  (hstep : ∀ i x l s k, I i (x :: l) s → (∀ s', I (i + 1) l s' → ∃ v, k s' = some v ∧ Q v) → ∃ v, step i x s k = some v ∧ Q v) : ∃ v, loopI l step fin s = some v ∧ Q v := by
 rw [loopI_eq hl]; exact goI_ex hfin hstep l 0 s h0
end
def tabG : List T_Rule → List T_Rule → Int
 | _, [] => 0
 | p, x :: l => if x.chk ≠ 0 then x.chk else if (p.any fun y => decide (y.Prio = x.Prio) && decide (y.Cube = x.Cube)) = true then 7 else tabG (p ++ [x]) l
def tabF (t : List T_Rule) : Int := if 12 < (t.length : Int) then 4 else tabG [] t
theorem s_cubeCheckV (c : T_Cube) : t_cube_Check c = some (Go.Proofs.YtgkohnjpnnofhaaGreat.cchk c.Mask c.Bits) := by
 unfold t_cube_Check Go.Proofs.YtgkohnjpnnofhaaGreat.cchk t_cube_Header
 by_cases h1 : 0 ≤ c.Mask ∧ c.Mask < 16
 ·by_cases h2 : 0 ≤ c.Bits ∧ c.Bits < 16
  ·by_cases h3 : bits .andNot .i64 c.Bits c.Mask = 0 <;> simp [h1, h2, h3, gd_true]
  ·have : ¬ (0 ≤ c.Bits) ∨ ¬ (c.Bits < 16) := by omega
   rcases this with h | h <;> simp [h1, h2, h, gd_true]
 ·have : ¬ (0 ≤ c.Mask) ∨ ¬ (c.Mask < 16) := by omega
  rcases this with h | h <;> simp [h1, h, gd_false]
theorem s_ruleCheckV (r : T_Rule) : t_rule_Check r = some (rlOf r).chk := by
 unfold t_rule_Check Rl.chk Go.Proofs.YtgkohnjpnnofhaaGreat.rchk t_cube_Header
 rw [s_cubeCheckV]
 show _ = some (if 0 ≤ r.Prio ∧ r.Prio ≤ 99 ∧ 0 ≤ r.Out ∧ r.Out ≤ 4 ∧ (0 ≤ r.Set ∧ r.Set < 16) ∧ (0 ≤ r.Value ∧ r.Value < 16) then (if Go.Proofs.YtgkohnjpnnofhaaGreat.cchk r.Cube.Mask r.Cube.Bits = 0 then (if bits .andNot .i64 r.Value r.Set = 0 ∧ ¬ (r.Out = 0 ∧ r.Set ≠ 0) then 0 else 3) else Go.Proofs.YtgkohnjpnnofhaaGreat.cchk r.Cube.Mask r.Cube.Bits) else 1)
 have hR1 : (0 ≤ r.Prio ∧ r.Prio ≤ 99 ∧ 0 ≤ r.Out ∧ r.Out ≤ 4 ∧ (0 ≤ r.Set ∧ r.Set < 16) ∧ (0 ≤ r.Value ∧ r.Value < 16)) → (if 0 ≤ r.Prio ∧ r.Prio ≤ 99 ∧ 0 ≤ r.Out ∧ r.Out ≤ 4 ∧ (0 ≤ r.Set ∧ r.Set < 16) ∧ (0 ≤ r.Value ∧ r.Value < 16) then (if Go.Proofs.YtgkohnjpnnofhaaGreat.cchk r.Cube.Mask r.Cube.Bits = 0 then (if bits .andNot .i64 r.Value r.Set = 0 ∧ ¬ (r.Out = 0 ∧ r.Set ≠ 0) then 0 else 3) else Go.Proofs.YtgkohnjpnnofhaaGreat.cchk r.Cube.Mask r.Cube.Bits) else 1) = (if Go.Proofs.YtgkohnjpnnofhaaGreat.cchk r.Cube.Mask r.Cube.Bits = 0 then (if bits .andNot .i64 r.Value r.Set = 0 ∧ ¬ (r.Out = 0 ∧ r.Set ≠ 0) then 0 else 3) else Go.Proofs.YtgkohnjpnnofhaaGreat.cchk r.Cube.Mask r.Cube.Bits) := fun h => if_pos h
 have hR0 : ¬ (0 ≤ r.Prio ∧ r.Prio ≤ 99 ∧ 0 ≤ r.Out ∧ r.Out ≤ 4 ∧ (0 ≤ r.Set ∧ r.Set < 16) ∧ (0 ≤ r.Value ∧ r.Value < 16)) → (if 0 ≤ r.Prio ∧ r.Prio ≤ 99 ∧ 0 ≤ r.Out ∧ r.Out ≤ 4 ∧ (0 ≤ r.Set ∧ r.Set < 16) ∧ (0 ≤ r.Value ∧ r.Value < 16) then (if Go.Proofs.YtgkohnjpnnofhaaGreat.cchk r.Cube.Mask r.Cube.Bits = 0 then (if bits .andNot .i64 r.Value r.Set = 0 ∧ ¬ (r.Out = 0 ∧ r.Set ≠ 0) then 0 else 3) else Go.Proofs.YtgkohnjpnnofhaaGreat.cchk r.Cube.Mask r.Cube.Bits) else 1) = 1 := fun h => if_neg h
 generalize (if 0 ≤ r.Prio ∧ r.Prio ≤ 99 ∧ 0 ≤ r.Out ∧ r.Out ≤ 4 ∧ (0 ≤ r.Set ∧ r.Set < 16) ∧ (0 ≤ r.Value ∧ r.Value < 16) then (if Go.Proofs.YtgkohnjpnnofhaaGreat.cchk r.Cube.Mask r.Cube.Bits = 0 then (if bits .andNot .i64 r.Value r.Set = 0 ∧ ¬ (r.Out = 0 ∧ r.Set ≠ 0) then 0 else 3) else Go.Proofs.YtgkohnjpnnofhaaGreat.cchk r.Cube.Mask r.Cube.Bits) else 1) = R at hR1 hR0
 cases hA : (((decide (r.Prio < 0) || decide (99 < r.Prio)) || decide (r.Out < 0)) || decide (4 < r.Out)) with
 | true =>
  rw [hR0 (by simp only [Bool.or_eq_true, decide_eq_true_eq] at hA; omega)]
  simp [gd]
 | false =>
  simp only [Bool.or_eq_false_iff, decide_eq_false_iff_not, Int.not_lt] at hA
  by_cases h1 : 0 ≤ r.Set ∧ r.Set < 16
  ·by_cases h2 : 0 ≤ r.Value ∧ r.Value < 16
   ·rw [hR1 ⟨hA.1.1.1, hA.1.1.2, hA.1.2, hA.2, h1, h2⟩]
    have e1 : (decide (0 ≤ r.Set) && decide (r.Set < 16)) = true := by simp [h1]
    have e2 : (decide (0 ≤ r.Value) && decide (r.Value < 16)) = true := by simp [h2]
    simp only [Bool.not_false, gd_true, e1, e2, oS_, Bool.not_true, Bool.or_self, Bool.false_eq_true, if_false]
    by_cases h3 : Go.Proofs.YtgkohnjpnnofhaaGreat.cchk r.Cube.Mask r.Cube.Bits = 0
    ·rw [if_neg (by simpa using h3), if_pos h3]
     generalize bits .andNot .i64 r.Value r.Set = B
     by_cases h4 : B = 0 <;> by_cases h5 : r.Out = 0 <;> by_cases h6 : r.Set = 0 <;> simp [h4, h5, h6]
    ·rw [if_pos (by simpa using h3), if_neg h3]
   ·rw [hR0 (by omega)]
    have e1 : (decide (0 ≤ r.Set) && decide (r.Set < 16)) = true := by simp [h1]
    have e2 : (decide (0 ≤ r.Value) && decide (r.Value < 16)) = false := by simp; omega
    simp only [Bool.not_false, gd_true, e1, e2, oS_, Bool.not_true, Bool.or_self, Bool.false_eq_true, if_false, Bool.or_true, if_true]
  ·rw [hR0 (by omega)]
   have e1 : (decide (0 ≤ r.Set) && decide (r.Set < 16)) = false := by simp; omega
   simp [gd, e1]
theorem s_cfV (x : T_Rule) (l : List T_Rule) (hl : (l.length : Int) ≤ maxI) : t_slices_ContainsFunc_api_Table_api_Rule l (fun a33 => t_rule_Table_1 a33 x) = some (l.any fun y => (rlOf y).key (rlOf x)) := by
 unfold t_slices_ContainsFunc_api_Table_api_Rule t_slices_IndexFunc_api_Table_api_Rule
 rw [join_eq, loopI_eq hl]
 have hk : ∀ y : T_Rule, t_rule_Table_1 y x = some ((rlOf y).key (rlOf x)) := fun y => by
  unfold t_rule_Table_1 t_rule_Key
  simp only [oS_, oE_]
  show (decide (y.Prio = x.Prio) && decide (y.Cube = x.Cube)) = decide (y.Prio = x.Prio ∧ y.Cube.Mask = x.Cube.Mask ∧ y.Cube.Bits = x.Cube.Bits)
  rw [Bool.eq_iff_iff]
  simp [T_Cube.ext_iff2]
 have : ∀ (l : List T_Rule) (i : Int), 0 ≤ i → ∃ j, goI (fun (i13 : Int) x14 (s9 : Unit) k10 => (t_rule_Table_1 x14 x).bind fun r22 => if r22 = true then (some i13) else (k10 ())) (fun _ => some (-1 : Int)) i l () = some j ∧ (decide (0 ≤ j)) = l.any fun y => (rlOf y).key (rlOf x) := by
  intro l
  induction l with
  | nil => intro i _; exact ⟨-1, rfl, rfl⟩
  | cons y l ih =>
   intro i hi
   rw [goI, hk, oS_]
   cases h : (rlOf y).key (rlOf x) with
   | true => exact ⟨i, if_pos rfl, by simp [h, hi]⟩
   | false =>
    obtain ⟨j, h1, h2⟩ := ih (i + 1) (by omega)
    refine ⟨j, ?_, by rw [h2]; simp [h]⟩
    rw [if_neg (by simp)]; exact h1
 obtain ⟨j, h1, h2⟩ := this l 0 (Int.le_refl _)
 rw [h1, oS_, h2]
theorem s_rTableV (t : List T_Rule) : t_rule_Table t = some (tchk (t.map rlOf)) := by
 have hM : maxI = 9223372036854775807 := rfl
 unfold t_rule_Table tchk
 rw [List.length_map]
 by_cases h1 : t.length > 12
 ·rw [if_pos (by simp; omega), if_pos h1]
 ·rw [if_neg (by simp; omega), if_neg h1, join_eq, loopI_eq (by omega)]
  have : ∀ (l p : List T_Rule), t = p ++ l → goI (fun (i17 : Int) x18 (s13 : Unit) k14 =>
    (t_rule_Check x18).bind fun r28 =>
    if (!decide (r28 = 0)) = true then (some r28) else (
    (slc_hi t i17).bind fun r32 =>
    (t_slices_ContainsFunc_api_Table_api_Rule r32 (fun (a33 : T_Rule) => t_rule_Table_1 a33 x18)).bind fun r35 =>
    if r35 = true then (some 7) else (k14 ()))) (fun (s13 : Unit) => some 0) (p.length : Int) l () = some (tfaultFrom (p.map rlOf) (l.map rlOf)) := by
   intro l
   induction l with
   | nil => intro p _; rfl
   | cons x l ih =>
    intro p hp
    have hpl : p.length ≤ t.length := by rw [hp]; simp
    rw [goI, s_ruleCheckV, oS_, List.map_cons, tfaultFrom]
    by_cases h2 : (rlOf x).chk = 0
    ·have hs : slc_hi t (p.length : Int) = some p := by
      unfold slc_hi
      rw [if_pos ⟨by omega, by omega⟩, Int.toNat_natCast, hp]; simp
     rw [if_neg (by simpa using h2), if_neg (by simpa using h2), hs, oS_, s_cfV x p (by omega), oS_]
     have ha : (p.any fun y => (rlOf y).key (rlOf x)) = ((p.map rlOf).any fun y => y.key (rlOf x)) := by rw [List.any_map]; rfl
     rw [ha]
     cases hk : (p.map rlOf).any fun y => y.key (rlOf x) with
     | true => rfl
     | false =>
      rw [if_neg (by simp), if_neg (by simp)]
      have := ih (p ++ [x]) (by rw [hp]; simp)
      simp only [List.length_append, List.length_singleton, List.map_append, List.map_cons, List.map_nil] at this
      have e : (p.length : Int) + 1 = ((p.length + 1 : Nat) : Int) := by omega
      rw [e]; exact this
    ·rw [if_pos (by simpa using h2), if_pos h2]
  exact this t [] rfl
theorem do_tok {t : List T_Rule} {add : Bool} {r : T_Rule} (h : doF t add r = 0) : Tok (t.map rlOf) ∧ Tok ((doV t add r).map rlOf) := by
 have h' : tdoF (t.map rlOf) add (rlOf r) = 0 := h
 have ht : Tok (t.map rlOf) := by
  refine tchk_iff.1 ?_
  by_cases h0 : tchk (t.map rlOf) = 0
  ·exact h0
  ·unfold tdoF at h'
   rw [if_pos h0] at h'
   exact h'
 have hv : (doV t add r).map rlOf = tdoR (t.map rlOf) add (rlOf r) := by
  unfold doV
  rw [tdoV_ok h', List.map_map]; exact List.map_id _
 refine ⟨ht, ?_⟩
 rw [hv]
 cases add with
 | true =>
  have := tdo_add_tok h'
  unfold tdoR
  rw [if_pos rfl]; exact this
 | false =>
  unfold tdoR
  rw [if_neg (by simp)]
  exact ht.sub (List.eraseIdx_sublist _ _)
theorem chk_eq (r : T_Rule) : T_Rule.chk r = (rlOf r).chk := by
 have h := s_rule_Check r
 rw [s_ruleCheckV] at h
 exact (oJ_ h).symm
theorem compact_mem {zs : List Int} {x : Int} : x ∈ Lib.compact zs ↔ x ∈ zs := by
 unfold Lib.compact Lib.compactUpTo
 rw [List.mem_map]
 constructor
 ·rintro ⟨j, hj, rfl⟩
  have hj := List.mem_range.1 (List.mem_filter.1 hj).1
  rw [getElem!_pos zs.toArray j (by simpa using hj)]
  simp
 ·intro hx
  obtain ⟨j, hj, rfl⟩ := List.getElem_of_mem hx
  have : ∀ j (hj : j < zs.length), ∃ i, i ∈ (List.range zs.length).filter (Lib.keeps zs.toArray) ∧ zs.toArray[i]! = zs[j] := by
   intro j
   induction j with
   | zero =>
    intro hj
    refine ⟨0, List.mem_filter.2 ⟨List.mem_range.2 hj, by simp [Lib.keeps]⟩, ?_⟩
    rw [getElem!_pos zs.toArray 0 (by simpa using hj)]; simp
   | succ j ih =>
    intro hj
    by_cases h : zs.toArray[j + 1]! = zs.toArray[j]!
    ·obtain ⟨i, h1, h2⟩ := ih (by omega)
     refine ⟨i, h1, ?_⟩
     rw [getElem!_pos zs.toArray (j + 1) (by simpa using hj), getElem!_pos zs.toArray j (by simp; omega)] at h
     simp at h
     rw [h2, h]
    ·refine ⟨j + 1, List.mem_filter.2 ⟨List.mem_range.2 hj, Lib.keeps_pos h⟩, ?_⟩
     rw [getElem!_pos zs.toArray (j + 1) (by simpa using hj)]; simp
  exact this j hj
theorem compact_strict {zs : List Int} (h : zs.Pairwise (· ≤ ·)) : (Lib.compact zs).Pairwise (· < ·) := by
 unfold Lib.compact Lib.compactUpTo
 rw [List.pairwise_map]
 have h1 : ((List.range zs.length).filter (Lib.keeps zs.toArray)).Pairwise (· < ·) := List.Pairwise.filter _ List.pairwise_lt_range
 refine List.Pairwise.imp_of_mem ?_ h1
 intro i j hi hj hij
 obtain ⟨hi, _⟩ := List.mem_filter.1 hi
 obtain ⟨hj, hk⟩ := List.mem_filter.1 hj
 have hi := List.mem_range.1 hi
 have hj := List.mem_range.1 hj
 have hmono : ∀ (i j : Nat) (hi : i < zs.length) (hj : j < zs.length), i < j → zs[i] ≤ zs[j] := fun i j hi hj hij => List.pairwise_iff_getElem.1 h i j hi hj hij
 have hne : zs.toArray[j]! ≠ zs.toArray[j - 1]! := by
  unfold Lib.keeps at hk
  simp only [decide_eq_true_eq] at hk
  exact hk.resolve_left (by omega)
 rw [getElem!_pos zs.toArray j (by simpa using hj), getElem!_pos zs.toArray (j - 1) (by simp; omega)] at hne
 rw [getElem!_pos zs.toArray j (by simpa using hj), getElem!_pos zs.toArray i (by simpa using hi)]
 simp only [List.getElem_toArray] at hne ⊢
 have h2 := hmono (j - 1) j (by omega) hj (by omega)
 have h3 : zs[i] ≤ zs[j - 1] := by
  by_cases e : i = j - 1
  ·subst e; exact Int.le_refl _
  ·exact hmono i (j - 1) hi (by omega) (by omega)
 omega
theorem sorted_le (l : List Int) : (l.mergeSort fun x y => decide (x ≤ y)).Pairwise (· ≤ ·) := by
 have := List.pairwise_mergeSort (le := fun x y : Int => decide (x ≤ y)) (fun a b c h1 h2 => by simp at h1 h2 ⊢; omega) (fun a b => by simp; omega) l
 exact this.imp fun h => by simpa using h
def setOf (l : List Int) : List Int := Lib.compact (l.mergeSort fun x y => decide (x ≤ y))
theorem setOf_strict (l : List Int) : (setOf l).Pairwise (· < ·) := compact_strict (sorted_le l)
theorem setOf_mem {l : List Int} {x : Int} : x ∈ setOf l ↔ x ∈ l := by
 unfold setOf
 rw [compact_mem, List.mem_mergeSort]
theorem setOf_len (l : List Int) : (setOf l).length ≤ l.length := by
 unfold setOf
 have := compact_len (l.mergeSort fun x y => decide (x ≤ y))
 rw [List.length_mergeSort] at this
 exact this
theorem s_set (l : List Int) (h : l.length ≤ 4294967296) : ((sortI l).bind fun r => (compactI r).bind fun q => some q) = some (setOf l) := by
 unfold sortI
 rw [if_pos h, oS_]
 unfold compactI
 rw [if_pos (by rw [List.length_mergeSort]; exact h)]
 rfl
section
variable {α β σ : Type}
theorem loopI_at {l : List α} {step : Int → α → σ → (σ → Option β) → Option β} {fin : σ → Option β} {s : σ} (S : Nat → σ) (h0 : s = S 0) (hl : (l.length : Int) ≤ maxI) (h : ∀ (p : Nat) x k, l[p]? = some x → step (p : Int) x (S p) k = k (S (p + 1))) : loopI l step fin s = fin (S l.length) := by
 rw [loopI_eq hl]
 have : ∀ (m : List α) (p : Nat), l.drop p = m → p ≤ l.length → goI step fin (p : Int) m (S p) = fin (S l.length) := by
  intro m
  induction m with
  | nil =>
   intro p hp hpl
   have : p = l.length := by have := List.drop_eq_nil_iff.1 hp; omega
   rw [goI, this]
  | cons x m ih =>
   intro p hp hpl
   have hx : l[p]? = some x := by rw [← List.head?_drop, hp]; rfl
   have hlt := (gS_ hx).1
   rw [goI, h p x _ hx]
   have e : (p : Int) + 1 = ((p + 1 : Nat) : Int) := by omega
   rw [e]
   exact ih (p + 1) (by rw [← List.tail_drop, hp]; rfl) (by omega)
 rw [h0]
 exact this l 0 rfl (Nat.zero_le _)
theorem goI_fstS {step : Int → α → σ → (σ → Option β) → Option β} {fin : σ → Option β} {F : List α → σ} {f : α → Int} {g : Int → Option β} {B : Nat} : ∀ (l : List α) (i : Int) (acc : List α), (∀ x ∈ l, ∀ i acc k, acc.length < B → step i x (F acc) k = if f x ≠ 0 then g (f x) else k (F (acc ++ [x]))) → acc.length + l.length ≤ B → goI step fin i l (F acc) = if firstF f l ≠ 0 then g (firstF f l) else fin (F (acc ++ l))
 | [], i, acc, _, _ => by simp [goI, firstF]
 | x :: l, i, acc, h, hB => by
  simp only [List.length_cons] at hB
  rw [goI, h x (by simp) i acc _ (by omega), firstF]
  by_cases h0 : f x ≠ 0
  ·rw [if_pos h0, if_pos h0, if_pos h0]
  ·rw [if_neg h0, if_neg h0, goI_fstS l (i + 1) (acc ++ [x]) (fun y hy => h y (by simp [hy])) (by simp; omega)]
   simp
theorem loopI_fst {step : Int → α → Unit → (Unit → Option β) → Option β} {fin : Unit → Option β} {f : α → Int} {g : Int → Option β} {l : List α} (hl : l.length ≤ 1000000) (h : ∀ x ∈ l, ∀ i k, step i x () k = if f x ≠ 0 then g (f x) else k ()) : loopI l step fin () = if firstF f l ≠ 0 then g (firstF f l) else fin () := by
 rw [loopI_eq (by unfold maxI; omega)]
 exact goI_fstS (F := fun _ => ()) (B := 1000000) l 0 [] (fun x hx i acc k _ => h x hx i k) (by simpa using hl)
end
def opF (o : T_Op) : Int := if o.Switch < 1 ∨ 6 < o.Switch then 1 else o.Rule.chk
def roundsF (l : List (List T_Op)) (w : Int) : Int :=
 if w < 1 ∨ 100 < w then 1 else if 20 < l.length then 4 else if (l.any fun r => decide (200 < (r.length : Int))) = true then 4 else firstF (firstF opF) l
theorem s_contains (l : List (List T_Op)) (h : l.length ≤ 20) : t_slices_ContainsFunc_api_Round_api_Round l (fun a => t_drive_New_1 a) = some (l.any fun r => decide (200 < (r.length : Int))) := by
 unfold t_slices_ContainsFunc_api_Round_api_Round t_slices_IndexFunc_api_Round_api_Round
 simp only [join_eq]
 rw [loopI_eq (by unfold maxI; omega)]
 have key : ∀ (l : List (List T_Op)) (i : Int), 0 ≤ i → ∃ v, goI (fun (i13 : Int) x14 (s9 : Unit) k10 => (t_drive_New_1 x14).bind fun r22 => if r22 = true then some i13 else k10 ()) (fun (s9 : Unit) => some (-1 : Int)) i l () = some v ∧ decide (0 ≤ v) = l.any fun r => decide (200 < (r.length : Int)) := by
  intro l
  induction l with
  | nil => intro i _; exact ⟨-1, rfl, rfl⟩
  | cons x l ih =>
   intro i hi
   simp only [goI, t_drive_New_1, oS_, List.any_cons]
   by_cases hx : (200 : Int) < (x.length : Int)
   ·refine ⟨i, by simp [hx], by simp [hx, hi]⟩
   ·obtain ⟨v, h1, h2⟩ := ih (i + 1) (by omega)
    refine ⟨v, ?_, by simp [hx, h2]⟩
    rw [if_neg (by simpa using hx)]
    exact h1
 obtain ⟨v, h1, h2⟩ := key l 0 (Int.le_refl 0)
 rw [h1, oS_, h2]
theorem s_New (l : List (List T_Op)) (w : Int) : t_drive_New l w = some (if roundsF l w = 0 then (some ⟨l, w, 0, [], 0⟩, 0) else (none, roundsF l w)) := by
 unfold t_drive_New roundsF
 by_cases h1 : w < 1 ∨ 100 < w
 ·rw [if_pos (by simpa using h1), if_pos h1]; simp
 rw [if_neg (by simpa using h1), if_neg h1]
 by_cases h2 : 20 < l.length
 ·have e : decide ((20 : Int) < (l.length : Int)) = true := decide_eq_true (by omega)
  simp only [e, Bool.not_true, gd_false, oS_, Bool.true_or, if_true, h2]
  simp
 have e : decide ((20 : Int) < (l.length : Int)) = false := decide_eq_false (by omega)
 simp only [e, Bool.not_false, gd_true, s_contains l (by omega), oS_, Bool.false_or, h2, if_false]
 by_cases h3 : (l.any fun r => decide (200 < (r.length : Int))) = true
 ·rw [if_pos h3, if_pos h3]; simp
 rw [if_neg h3, if_neg h3]
 have h200 : ∀ r ∈ l, r.length ≤ 200 := fun r hr => by
  have : ¬ (decide (200 < (r.length : Int)) = true) := fun h => h3 (List.any_eq_true.2 ⟨r, hr, h⟩)
  simp at this
  omega
 simp only [join_eq]
 rw [loopI_eq (by unfold maxI; omega)]
 rw [goI_fstS (F := fun acc => (⟨acc, w, 0, [], 0⟩ : T_drive_Drive)) (f := firstF opF) (g := fun e => some (none, e)) (B := 20) l 0 [] (fun x hx i acc k hacc => ?_) (by simp; omega)]
 ·simp only [List.nil_append]
  by_cases h4 : firstF (firstF opF) l = 0 <;> simp [h4]
 ·have hx2 := h200 x hx
  rw [loopI_fst (f := opF) (g := fun e => some (none, e)) (by omega) (fun y hy i k => ?_)]
  ·by_cases h5 : firstF opF x = 0
   ·rw [if_neg (by simp [h5]), if_neg (by simp [h5])]
    unfold cln
    rw [if_pos (by omega), oS_]
    unfold oapp
    rw [if_pos (by simp; omega), oS_]
   ·rw [if_pos h5, if_pos h5]
  ·unfold opF
   rw [s_rule_Check]
   by_cases h6 : y.Switch < 1 ∨ 6 < y.Switch
   ·rw [if_pos (by simpa using h6), if_pos h6]; rfl
   ·rw [if_neg (by simpa using h6), if_neg h6, oS_]
    by_cases h7 : y.Rule.chk = 0 <;> simp [h7]
theorem take_succ_map {α β : Type} (f : α → β) {l : List α} {p : Nat} {x : α} (h : l[p]? = some x) : (l.take (p + 1)).map f = (l.take p).map f ++ [f x] := by
 rw [List.take_add_one, h]; simp
theorem s_Touched (r : List T_Op) (h : r.length ≤ 200) : t_mix_Touched r = some (setOf (r.map (·.Switch))) := by
 unfold t_mix_Touched
 rw [loopI_at (fun p => (r.take p).map (·.Switch)) (by simp) (by unfold maxI; omega) (fun p x k hx => ?_)]
 ·simp only [List.take_length, oS_]
  exact s_set _ (by simp; omega)
 ·have hp := (gS_ hx).1
  show (oapp ((r.take p).map (·.Switch)) [x.Switch]).bind _ = _
  unfold oapp
  rw [if_pos (by simp; omega), oS_, take_succ_map _ hx]
def opsOf (s : Int) (ops : List T_Op) : List T_Op := ops.filter fun o => decide (o.Switch = s)
def doL (s i : Int) (ops : List T_Op) : List T_Msg := (opsOf s ops).mapIdx fun n o => T_Msg.mk 1 s i n o
def sayOne (ops : List T_Op) (i s : Int) : List T_Msg := doL s i ops ++ [T_Msg.mk 2 s i (opsOf s ops).length op0]
def sayL (ops : List T_Op) (i : Int) (left : List Int) : List T_Msg := left.flatMap (sayOne ops i)
theorem opsOf_len (s : Int) (ops : List T_Op) : (opsOf s ops).length ≤ ops.length := List.length_filter_le _ _
theorem sayL_len (ops : List T_Op) (i : Int) : ∀ left : List Int, (sayL ops i left).length ≤ left.length * (ops.length + 1)
 | [] => by simp [sayL]
 | s :: left => by
  have h1 := sayL_len ops i left
  have h2 := opsOf_len s ops
  have e : sayL ops i (s :: left) = sayOne ops i s ++ sayL ops i left := rfl
  rw [e, List.length_append, List.length_cons, Nat.add_mul, Nat.one_mul]
  have h3 : (sayOne ops i s).length = (opsOf s ops).length + 1 := by simp [sayOne, doL]
  omega
theorem opsOf_take {s : Int} {ops : List T_Op} {p : Nat} {x : T_Op} (h : ops[p]? = some x) : opsOf s (ops.take (p + 1)) = opsOf s (ops.take p) ++ if x.Switch = s then [x] else [] := by
 unfold opsOf
 rw [List.take_add_one, h, List.filter_append]
 by_cases hs : x.Switch = s <;> simp [hs]
theorem s_say {l : List (List T_Op)} {w t : Int} {i : Nat} {left : List Int} {ops : List T_Op} (hi : l[i]? = some ops) (hl : l.length ≤ 20) (ho : ops.length ≤ 200) (hL : left.length ≤ 200) : t_drive_Drive_say ⟨l, w, (i : Int) + 1, left, t⟩ = some (sayL ops i left) := by
 have hi2 := (gS_ hi).1
 unfold t_drive_Drive_say
 have ew : wr ((i : Int) + 1 - 1) = i := by rw [wr_id (by omega) (by omega)]; omega
 simp only [ew, idx_nat, hi, oS_]
 rw [loopI_at (fun p => sayL ops i (left.take p)) (by simp [sayL]) (by unfold maxI; omega) (fun p x k hx => ?_)]
 ·simp
 ·have hp := (gS_ hx).1
  have hb : (sayL ops i (left.take p)).length ≤ 40200 := by
   refine Nat.le_trans (sayL_len ops i _) ?_
   have : (left.take p).length ≤ 200 := by simp; omega
   calc _ ≤ 200 * 201 := Nat.mul_le_mul this (by omega)
    _ ≤ 40200 := by decide
  rw [loopI_at (fun q => (sayL ops i (left.take p) ++ doL x i (ops.take q), ((opsOf x (ops.take q)).length : Int))) (by simp [doL, opsOf]) (by unfold maxI; omega) (fun q y k2 hy => ?_)]
  ·simp only [List.take_length, oS_]
   unfold app
   have h3 : (doL x i ops).length ≤ 200 := by have := opsOf_len x ops; simp [doL]; omega
   rw [if_pos (by simp; omega), oS_, oS_]
   congr 1
   unfold sayL
   rw [List.take_add_one, hx, List.flatMap_append]
   simp [sayOne, op0]
  ·have hq := (gS_ hy).1
   have h3 : (opsOf x (ops.take q)).length ≤ 200 := by have := opsOf_len x (ops.take q); simp at this; omega
   have h4 : (doL x i (ops.take q)).length ≤ 200 := by simp [doL]; exact h3
   simp only
   by_cases hs : y.Switch = x
   ·rw [if_pos (by simpa using hs)]
    unfold app
    rw [if_pos (by simp; omega), oS_, oS_]
    congr 1
    rw [wr_id (by omega) (by omega)]
    unfold doL
    rw [opsOf_take hy, if_pos hs, List.mapIdx_concat]
    simp
   ·rw [if_neg (by simpa using hs), oS_]
    congr 1
    unfold doL
    rw [opsOf_take hy, if_neg hs, List.append_nil]
def hearD (d : T_drive_Drive) (m : T_Msg) : Int × T_drive_Drive := if m.chk ≠ 0 ∨ m.Kind ≠ 3 then (3, d) else if m.Round ≠ d.said - 1 ∨ m.Switch ∉ d.left then (6, d) else (0, ⟨d.rounds, d.wait, d.said, d.left.erase m.Switch, d.ticks⟩)
theorem s_Index (l : List Int) (x : Int) (h : l.length ≤ 1000000) : t_slices_Index_int_int l x = some (if x ∈ l then (l.idxOf x : Int) else -1) := by
 unfold t_slices_Index_int_int
 simp only [join_eq]
 rw [loopI_eq (by unfold maxI; omega)]
 have key : ∀ (l : List Int) (i : Int), goI (fun (i13 : Int) x14 (s9 : Unit) k10 => if (decide (x = x14)) = true then some i13 else k10 ()) (fun (s9 : Unit) => some (-1 : Int)) i l () = some (if x ∈ l then i + (l.idxOf x : Int) else -1) := by
  intro l
  induction l with
  | nil => intro i; rfl
  | cons y l ih =>
   intro i
   simp only [goI]
   by_cases hx : x = y
   ·subst hx; simp
   ·rw [if_neg (by simpa using hx), ih]
    have hx' : ¬ y = x := fun h => hx h.symm
    by_cases hm : x ∈ l
    ·rw [if_pos hm, if_pos (by simp [hm]), List.idxOf_cons, Bool.cond_eq_ite, if_neg (by simpa using hx')]
     congr 1
     omega
    ·rw [if_neg hm, if_neg (by simp [hm, hx])]
 rw [key l 0]
 simp
theorem s_Hear (d : T_drive_Drive) (m : T_Msg) (h : d.left.length ≤ 200) (h1 : 0 ≤ d.said) (h2 : d.said ≤ 20) : t_drive_Drive_Hear d m = some (hearD d m) := by
 unfold t_drive_Drive_Hear hearD
 rw [s_wire_Check, oS_, s_Index _ _ (by omega), oS_]
 by_cases h3 : m.chk ≠ 0 ∨ m.Kind ≠ 3
 ·rw [if_pos (by simpa using h3), if_pos h3]
 rw [if_neg (by simpa using h3), if_neg h3]
 rw [wr_id (by omega) (by omega)]
 by_cases h4 : m.Switch ∈ d.left
 ·rw [if_pos h4]
  have hlt := List.idxOf_lt_length_of_mem h4
  by_cases h5 : m.Round = d.said - 1
  ·rw [if_neg (by simp [h5]), if_neg (by simp [h5, h4])]
   rw [wr_id (by omega) (by omega)]
   unfold deleteI
   rw [if_pos (by omega), oS_]
   congr 3
   rw [List.erase_eq_eraseIdx_of_idxOf (i := d.left.idxOf m.Switch) rfl, List.eraseIdx_eq_take_drop_succ]
   have e : ((d.left.idxOf m.Switch : Int) + 1).toNat = d.left.idxOf m.Switch + 1 := by omega
   rw [e, Int.toNat_natCast]
  ·rw [if_pos (by simp [h5]), if_pos (.inl h5)]
 ·rw [if_neg h4, if_pos (by simp), if_pos (.inr h4)]
theorem s_Next {l : List (List T_Op)} {w t : Int} {i : Nat} {ops : List T_Op} (hi : l[i]? = some ops) (hl : l.length ≤ 20) (ho : ops.length ≤ 200) : t_drive_Drive_Next ⟨l, w, i, [], t⟩ = some (sayL ops i (setOf (ops.map (·.Switch))), 0, ⟨l, w, (i : Int) + 1, setOf (ops.map (·.Switch)), 0⟩) := by
 have hi2 := (gS_ hi).1
 unfold t_drive_Drive_Next t_drive_Drive_May
 have e : decide ((i : Int) < (l.length : Int)) = true := decide_eq_true (by omega)
 have e2 : decide ((0 : Int) ≤ (i : Int)) = true := decide_eq_true (by omega)
 simp only [oS_, e, e2, List.length_nil, Bool.and_true, need_t, idx_nat, hi, s_Touched ops ho]
 have hset : (setOf (ops.map (·.Switch))).length ≤ 200 := Nat.le_trans (setOf_len _) (by simpa using ho)
 rw [wr_id (by omega) (by omega), s_say hi hl ho hset]
 rfl
def T_Msg.more (x : T_Msg) : List Int := [if x.Op.Add = true then 1 else 0, x.Op.Rule.Prio, x.Op.Rule.Cube.Mask, x.Op.Rule.Cube.Bits, x.Op.Rule.Out, x.Op.Rule.Set, x.Op.Rule.Value]
def T_Msg.nums (x : T_Msg) : List Int := if x.Kind = 1 then [x.Kind, x.Switch, x.Round, x.Index] ++ x.more else [x.Kind, x.Switch, x.Round, x.Index]
def T_Msg.bytes (x : T_Msg) : List Int := x.nums ++ [x.nums.sum % 251]
def T_Msg.text (x : T_Msg) : ByteArray := strOfNums x.bytes
def wsize (k : Int) : Int := if k = 1 then 12 else if k = 2 ∨ k = 3 then 5 else 0
theorem wsize_range (k : Int) : wsize k = 0 ∨ wsize k = 5 ∨ wsize k = 12 := by unfold wsize; (repeat' split) <;> simp
def mOf (s : ByteArray) : T_Msg := ⟨bAt s 0, bAt s 1, bAt s 2, bAt s 3, if bAt s 0 = 1 then ⟨bAt s 1, decide (bAt s 4 = 1), ⟨bAt s 5, ⟨bAt s 6, bAt s 7⟩, bAt s 8, bAt s 9, bAt s 10⟩⟩ else op0⟩
def wdec (s : ByteArray) : Option T_Msg := if s.size = 0 ∨ (s.size : Int) ≠ wsize (bAt s 0) then none else if (mOf s).chk = 0 ∧ (mOf s).text = s then some (mOf s) else none
theorem ext_size (s : ByteArray) (a b : Nat) (h : a ≤ b) (hb : b ≤ s.size) : (s.extract a b).size = b - a := by
 rw [ByteArray.size_extract]; omega
def wcut (s : ByteArray) : Option (List T_Msg × ByteArray) :=
 if h0 : s.size = 0 then some ([], s)
 else if hn : wsize (bAt s 0) = 0 then none
 else if hl : (s.size : Int) < wsize (bAt s 0) then some ([], s)
 else match wdec (s.extract 0 (wsize (bAt s 0)).toNat) with
  | none => none
  | some m => (wcut (s.extract (wsize (bAt s 0)).toNat s.size)).map fun p => (m :: p.1, p.2)
 termination_by s.size
 decreasing_by
  rw [ext_size _ _ _ (by omega) (Nat.le_refl _)]
  have := wsize_range (bAt s 0)
  omega
theorem T_Msg.nums_range {x : T_Msg} (h : x.chk = 0) : ∀ z ∈ x.nums, 0 ≤ z ∧ z ≤ 200 := by
 have key : 1 ≤ x.Kind ∧ x.Kind ≤ 3 ∧ 1 ≤ x.Switch ∧ x.Switch ≤ 6 ∧ 0 ≤ x.Round ∧ x.Round < 20 ∧ 0 ≤ x.Index ∧ x.Index ≤ 200 ∧ (x.Kind = 1 → x.Op.Rule.chk = 0 ∧ x.Op.Switch = x.Switch) := by
  unfold T_Msg.chk at h
  split at h
  ·omega
  ·rename_i h1
   refine ⟨by omega, by omega, by omega, by omega, by omega, by omega, by omega, by omega, fun hk => ?_⟩
   rw [if_neg (by simpa using hk)] at h
   split at h
   ·rename_i h2; exact absurd h h2
   ·rename_i h2
    split at h
    ·omega
    ·rename_i h3
     exact ⟨by simpa using h2, by simpa using h3⟩
 obtain ⟨k1, k2, k3, k4, k5, k6, k7, k8, k9⟩ := key
 intro z hz
 unfold T_Msg.nums at hz
 split at hz
 ·rename_i hk
  obtain ⟨hr, _⟩ := k9 hk
  unfold T_Rule.chk at hr
  obtain ⟨⟨r1, r2, r3, r4, ⟨r5, r6⟩, r7, r8⟩, hc, _⟩ := rchk_0.1 hr
  have hm : 0 ≤ x.Op.Rule.Cube.Mask ∧ x.Op.Rule.Cube.Mask < 16 ∧ 0 ≤ x.Op.Rule.Cube.Bits ∧ x.Op.Rule.Cube.Bits < 16 := by
   unfold cchk at hc
   split at hc
   ·assumption
   ·omega
  unfold T_Msg.more at hz
  simp only [List.cons_append, List.nil_append, List.mem_cons, List.mem_nil_iff, or_false] at hz
  rcases hz with rfl | rfl | rfl | rfl | rfl | rfl | rfl | rfl | rfl | rfl | rfl
  ·omega
  ·omega
  ·omega
  ·omega
  ·split <;> omega
  all_goals omega
 ·simp only [List.mem_cons, List.mem_nil_iff, or_false] at hz
  rcases hz with rfl | rfl | rfl | rfl <;> omega
theorem sum_range (xs : List Int) (b : Int) (hb : 0 ≤ b) (h : ∀ z ∈ xs, 0 ≤ z ∧ z ≤ b) : 0 ≤ xs.sum ∧ xs.sum ≤ b * xs.length := by
 induction xs with
 | nil => simp
 | cons x xs ih =>
  have h1 := h x (by simp)
  have h2 := ih (fun z hz => h z (by simp [hz]))
  rw [List.sum_cons, List.length_cons]
  have : b * ((xs.length + 1 : Nat) : Int) = b * xs.length + b := by push_cast; rw [Int.mul_add]; simp
  rw [this]
  omega
theorem strNums_size (l : List Int) : (strOfNums l).size = l.length := by simp [strOfNums, ByteArray.size]
theorem bAt_nums (l : List Int) (hl : ∀ z ∈ l, 0 ≤ z ∧ z < 256) (j : Nat) (hj : j < l.length) : bAt (strOfNums l) j = l[j] := by
 have h := hl l[j] (List.getElem_mem hj)
 unfold bAt strOfNums
 simp [List.getD_eq_getElem?_getD, hj]
 omega
theorem T_Msg.key {x : T_Msg} (h : x.chk = 0) : 1 ≤ x.Kind ∧ x.Kind ≤ 3 ∧ 1 ≤ x.Switch ∧ x.Switch ≤ 6 ∧ 0 ≤ x.Round ∧ x.Round < 20 ∧ 0 ≤ x.Index ∧ x.Index ≤ 200 ∧ (x.Kind = 1 → x.Op.Rule.chk = 0 ∧ x.Op.Switch = x.Switch) ∧ (x.Kind ≠ 1 → x.Op = op0) := by
 unfold T_Msg.chk at h
 split at h
 ·omega
 ·rename_i h1
  refine ⟨by omega, by omega, by omega, by omega, by omega, by omega, by omega, by omega, fun hk => ?_, fun hk => ?_⟩
  ·rw [if_neg (by simpa using hk)] at h
   split at h
   ·rename_i h2; exact absurd h h2
   ·rename_i h2
    split at h
    ·omega
    ·rename_i h3
     exact ⟨by simpa using h2, by simpa using h3⟩
  ·rw [if_pos hk] at h
   split at h
   ·omega
   ·rename_i h2
    rcases Decidable.em (x.Op = op0) with h3 | h3
    ·exact h3
    ·exact absurd (.inl h3) h2
theorem T_Msg.bytes_range {x : T_Msg} (h : x.chk = 0) : ∀ z ∈ x.bytes, 0 ≤ z ∧ z < 256 := by
 intro z hz
 unfold T_Msg.bytes at hz
 rcases List.mem_append.1 hz with hz | hz
 ·have := T_Msg.nums_range h z hz; omega
 ·simp only [List.mem_singleton] at hz
  omega
theorem T_Msg.nums_len (x : T_Msg) : x.nums.length = if x.Kind = 1 then 11 else 4 := by
 unfold T_Msg.nums T_Msg.more
 split <;> rfl
theorem T_Msg.bytes_len (x : T_Msg) : x.bytes.length = if x.Kind = 1 then 12 else 5 := by
 unfold T_Msg.bytes
 rw [List.length_append, T_Msg.nums_len]
 split <;> rfl
theorem T_Msg.text_size {x : T_Msg} (h : x.chk = 0) : (x.text.size : Int) = wsize x.Kind := by
 unfold T_Msg.text wsize
 rw [strNums_size, T_Msg.bytes_len]
 have := T_Msg.key h
 (repeat' split) <;> omega
theorem T_Msg.text_at {x : T_Msg} (h : x.chk = 0) (j : Nat) (hj : j < x.bytes.length) : bAt x.text j = x.bytes[j] := bAt_nums _ (T_Msg.bytes_range h) j hj
theorem T_Msg.text_0 {x : T_Msg} (h : x.chk = 0) : bAt x.text 0 = x.Kind := by
 have hl : 0 < x.bytes.length := by rw [T_Msg.bytes_len]; split <;> omega
 rw [T_Msg.text_at h 0 hl]
 unfold T_Msg.bytes T_Msg.nums
 split <;> rfl
theorem mOf_text {x : T_Msg} (h : x.chk = 0) : mOf x.text = x := by
 have hk := T_Msg.key h
 have ha := T_Msg.text_at h
 have hl := T_Msg.bytes_len x
 obtain ⟨k, s, r, i, ⟨os, oa, ⟨p, ⟨m, b⟩, o, t, v⟩⟩⟩ := x
 unfold mOf
 by_cases hk1 : k = 1
 ·subst hk1
  simp only [if_true] at hl
  have hb : T_Msg.bytes ⟨1, s, r, i, ⟨os, oa, ⟨p, ⟨m, b⟩, o, t, v⟩⟩⟩ = [1, s, r, i, if oa = true then 1 else 0, p, m, b, o, t, v, ([1, s, r, i, if oa = true then 1 else 0, p, m, b, o, t, v] : List Int).sum % 251] := rfl
  have h0 := ha 0 (by omega)
  have h1 := ha 1 (by omega)
  have h2 := ha 2 (by omega)
  have h3 := ha 3 (by omega)
  have h4 := ha 4 (by omega)
  have h5 := ha 5 (by omega)
  have h6 := ha 6 (by omega)
  have h7 := ha 7 (by omega)
  have h8 := ha 8 (by omega)
  have h9 := ha 9 (by omega)
  have h10 := ha 10 (by omega)
  simp only [hb, List.getElem_cons_zero, List.getElem_cons_succ] at h0 h1 h2 h3 h4 h5 h6 h7 h8 h9 h10
  have hs : os = s := (hk.2.2.2.2.2.2.2.2.1 rfl).2
  subst hs
  rw [h0, h1, h2, h3, h4, h5, h6, h7, h8, h9, h10]
  cases oa <;> rfl
 ·have ho : (⟨os, oa, ⟨p, ⟨m, b⟩, o, t, v⟩⟩ : T_Op) = op0 := hk.2.2.2.2.2.2.2.2.2 hk1
  have hb : T_Msg.bytes ⟨k, s, r, i, ⟨os, oa, ⟨p, ⟨m, b⟩, o, t, v⟩⟩⟩ = [k, s, r, i, ([k, s, r, i] : List Int).sum % 251] := by unfold T_Msg.bytes T_Msg.nums; rw [if_neg hk1]; rfl
  rw [if_neg hk1] at hl
  have h0 := ha 0 (by omega)
  have h1 := ha 1 (by omega)
  have h2 := ha 2 (by omega)
  have h3 := ha 3 (by omega)
  simp only [hb, List.getElem_cons_zero, List.getElem_cons_succ] at h0 h1 h2 h3
  rw [h0, h1, h2, h3, if_neg hk1, ho]
theorem wdec_text {x : T_Msg} (h : x.chk = 0) : wdec x.text = some x := by
 have hs := T_Msg.text_size h
 have hk := T_Msg.key h
 have h0 : x.text.size ≠ 0 := by
  intro e
  rw [e] at hs
  unfold wsize at hs
  (repeat' split at hs) <;> omega
 unfold wdec
 rw [if_neg (by rw [T_Msg.text_0 h]; omega), mOf_text h, if_pos ⟨h, rfl⟩]
def cat : List T_Msg → ByteArray
 | [] => ByteArray.empty
 | m :: l => m.text ++ cat l
theorem cat_append : ∀ (l r : List T_Msg), cat (l ++ r) = cat l ++ cat r
 | [], r => by simp [cat]
 | m :: l, r => by simp only [List.cons_append, cat, cat_append l r, ByteArray.append_assoc]
theorem bAt_left {a b : ByteArray} {j : Nat} (h : j < a.size) : bAt (a ++ b) j = bAt a j := by
 unfold bAt
 rw [ByteArray.data_append, Array.toList_append, List.getD_eq_getElem?_getD, List.getD_eq_getElem?_getD, List.getElem?_append_left (by rw [Array.length_toList]; exact h)]
theorem bAt_extract {a : ByteArray} {n j : Nat} (h : j < n) : bAt (a.extract 0 n) j = bAt a j := by
 unfold bAt
 rw [ByteArray.data_extract, Array.toList_extract, List.getD_eq_getElem?_getD, List.getD_eq_getElem?_getD]
 simp [List.extract, List.getElem?_take, h]
theorem wcut_text {x : T_Msg} (h : x.chk = 0) (s : ByteArray) : wcut (x.text ++ s) = (wcut s).map fun p => (x :: p.1, p.2) := by
 have hs := T_Msg.text_size h
 have hk := T_Msg.key h
 have h0 : 0 < x.text.size := by
  rcases Nat.eq_zero_or_pos x.text.size with e | e
  ·rw [e] at hs
   unfold wsize at hs
   (repeat' split at hs) <;> omega
  ·exact e
 have hb : bAt (x.text ++ s) 0 = x.Kind := by rw [bAt_left h0, T_Msg.text_0 h]
 have hz : (x.text ++ s).size = x.text.size + s.size := ByteArray.size_append
 have hn : (wsize (bAt (x.text ++ s) 0)).toNat = x.text.size := by rw [hb, ← hs]; simp
 have e1 : (x.text ++ s).extract 0 x.text.size = x.text := ByteArray.extract_append_eq_left rfl
 have e2 : (x.text ++ s).extract x.text.size (x.text ++ s).size = s := ByteArray.extract_append_eq_right rfl hz
 rw [wcut, dif_neg (by omega), dif_neg (by rw [hb]; omega), dif_neg (by rw [hb]; omega), hn, e1, e2, wdec_text h]
theorem wcut_part {x : T_Msg} (h : x.chk = 0) {s : ByteArray} {c : Nat} (hc : c < x.text.size) : wcut ((x.text ++ s).extract 0 c) = some ([], (x.text ++ s).extract 0 c) := by
 have hs := T_Msg.text_size h
 have hz : ((x.text ++ s).extract 0 c).size = c := by rw [ByteArray.size_extract, ByteArray.size_append]; omega
 rw [wcut]
 by_cases h0 : c = 0
 ·rw [dif_pos (by omega)]
 ·have hb : bAt ((x.text ++ s).extract 0 c) 0 = x.Kind := by rw [bAt_extract (by omega), bAt_left (by omega), T_Msg.text_0 h]
  rw [dif_neg (by omega), dif_neg (by rw [hb]; omega), dif_pos (by rw [hb]; omega)]
theorem ex_all {a : ByteArray} {n : Nat} (h : a.size ≤ n) : a.extract 0 n = a := by
 have e := ByteArray.extract_zero_max_size (a := a) (i := n)
 rwa [Nat.max_eq_left h] at e
theorem wcut_cat : ∀ (l : List T_Msg) (hl : ∀ m ∈ l, m.chk = 0) (c n : Nat), n ≤ l.length → (cat (l.take n)).size ≤ c → c ≤ (cat l).size → (n < l.length → c < (cat (l.take (n + 1))).size) →
  wcut ((cat l).extract 0 c) = some (l.take n, (cat l).extract (cat (l.take n)).size c)
 | [], hl, c, n, hn, h1, h2, h3 => by
  have : c = 0 := by simpa [cat] using h2
  subst this
  rw [wcut]
  simp [cat]
 | x :: l, hl, c, 0, hn, h1, h2, h3 => by
  have hx := hl x (by simp)
  have hc := h3 (by simp)
  have e : cat ((x :: l).take (0 + 1)) = x.text := by simp [cat]
  rw [e] at hc
  exact wcut_part hx hc
 | x :: l, hl, c, n + 1, hn, h1, h2, h3 => by
  have hx := hl x (by simp)
  have e : ∀ k, (cat ((x :: l).take (k + 1))).size = x.text.size + (cat (l.take k)).size := fun k => by simp [cat]
  rw [e] at h1
  have e2 : (cat (x :: l)).size = x.text.size + (cat l).size := by simp [cat]
  rw [e2] at h2
  have ih := wcut_cat l (fun m hm => hl m (by simp [hm])) (c - x.text.size) n (by simpa using hn) (by omega) (by omega) (fun h => by have := h3 (by simpa using h); rw [e] at this; omega)
  have e3 : (cat (x :: l)).extract 0 c = x.text ++ (cat l).extract 0 (c - x.text.size) := by
   show (x.text ++ cat l).extract 0 c = _
   rw [ByteArray.extract_append]
   congr 1
   ·rw [ex_all (by omega)]
   ·simp
  rw [e3, wcut_text hx, ih, e]
  simp only [Option.map_some, List.take_succ_cons, oE_, Prod.mk.injEq, true_and]
  show _ = (x.text ++ cat l).extract _ _
  have e4 : c = x.text.size + (c - x.text.size) := by omega
  rw [e4, ByteArray.extract_append_size_add]
  simp
theorem goI_add {step : Int → Int → Int → (Int → Option Int) → Option Int} {fin : Int → Option Int} (hs : ∀ i x s k, step i x s k = k (wr (s + wr x))) : ∀ (l : List Int) (i s : Int), 0 ≤ s → s + 255 * l.length ≤ 1000000000 → (∀ z ∈ l, 0 ≤ z ∧ z ≤ 255) → goI step fin i l s = fin (s + l.sum)
 | [], i, s, _, _, _ => by simp [goI]
 | x :: l, i, s, h0, h1, hl => by
  have hx := hl x (by simp)
  rw [List.length_cons] at h1
  rw [goI, hs, wr_id (x := x) (by omega) (by omega), wr_id (by omega) (by omega), goI_add hs l (i + 1) (s + x) (by omega) (by push_cast at h1; omega) (fun z hz => hl z (by simp [hz])), List.sum_cons, Int.add_assoc]
theorem u8_id {x : Int} (h : 0 ≤ x ∧ x < 256) : IntKind.u8.wrap x = x := wrap_u8_id h.1 h.2
theorem s_wire_sum (l : List Int) (hl : ∀ z ∈ l, 0 ≤ z ∧ z ≤ 255) (h : l.length ≤ 100000) : t_wire_sum l = some (l.sum % 251) := by
 unfold t_wire_sum
 have hr := sum_range l 255 (by omega) hl
 rw [loopI_eq (by unfold maxI; omega), goI_add (fun i x s k => rfl) l 0 0 (by omega) (by omega) hl, oS_, Int.zero_add, Int.tmod_eq_emod_of_nonneg hr.1, u8_id (by omega)]
theorem goI_bytes {step : Int → Int → List Int → (List Int → Option (List Int)) → Option (List Int)} (hs : ∀ i x s k, step i x s k = (app s [IntKind.u8.wrap x]).bind k) : ∀ (l : List Int) (i : Int) (s : List Int), s.length + l.length ≤ 100000 → (∀ z ∈ l, 0 ≤ z ∧ z < 256) → goI step some i l s = some (s ++ l)
 | [], i, s, _, _ => by simp [goI]
 | x :: l, i, s, h, hl => by
  rw [List.length_cons] at h
  rw [goI, hs, u8_id (hl x (by simp)), app_eq (by simp; omega), oS_, goI_bytes hs l (i + 1) (s ++ [x]) (by simp; omega) (fun z hz => hl z (by simp [hz]))]
  simp
theorem nums_eq (m : T_Msg) : (if (decide (m.Kind = 1)) = true then
  (if m.Op.Add = true then some (([m.Kind, m.Switch, m.Round, m.Index] : List Int), (1 : Int)) else some (([m.Kind, m.Switch, m.Round, m.Index] : List Int), 0)).bind fun s57 =>
  (app s57.1 ([s57.2, m.Op.Rule.Prio, m.Op.Rule.Cube.Mask, m.Op.Rule.Cube.Bits, m.Op.Rule.Out, m.Op.Rule.Set, m.Op.Rule.Value] : List Int)).bind fun r70 => some r70
  else some ([m.Kind, m.Switch, m.Round, m.Index] : List Int)) = some m.nums := by
 unfold T_Msg.nums T_Msg.more
 by_cases h : m.Kind = 1
 ·simp only [h, decide_true, if_true]
  cases m.Op.Add <;> simp [app_eq]
 ·simp [h]
theorem s_Encode (m : T_Msg) : t_wire_Encode m = some (if m.chk = 0 then (m.text, 0) else (ByteArray.mk #[], m.chk)) := by
 unfold t_wire_Encode
 simp only [s_wire_Check, oS_]
 by_cases h : m.chk = 0
 ·rw [if_neg (by simp [h]), if_pos h, nums_eq, oS_]
  have hr := T_Msg.nums_range h
  have hlen := T_Msg.nums_len m
  have hl : m.nums.length ≤ 11 := by rw [hlen]; split <;> omega
  rw [loopI_eq (by unfold maxI; omega), goI_bytes (fun i x s k => rfl) m.nums 0 [] (by simp; omega) (fun z hz => by have := hr z hz; omega), oS_, List.nil_append, s_wire_sum m.nums (fun z hz => by have := hr z hz; omega) (by omega), oS_, app_eq (by simp; omega)]
  rfl
 ·rw [if_pos (by simp [h]), if_neg h]
theorem sidx_eq {s : ByteArray} {i : Nat} (h : i < s.size) : sidx s (i : Int) = some (bAt s i) := by
 unfold sidx
 rw [if_pos ⟨by omega, by omega⟩]; rfl
theorem s_size (k : Int) : t_wire_size k = some (wsize (wr k)) := by
 unfold t_wire_size wsize
 by_cases h1 : wr k = 1 <;> by_cases h2 : wr k = 2 <;> by_cases h3 : wr k = 3 <;> simp [h1, h2, h3]
theorem wr_bAt (s : ByteArray) (j : Nat) : wr (bAt s j) = bAt s j := by
 have := bAt_range s j
 exact wr_id (by omega) (by omega)
theorem s_Decode_1 (s : ByteArray) (j : Nat) (h : j < s.size) : t_wire_Decode_1 (j : Int) s = some (bAt s j) := by
 unfold t_wire_Decode_1
 rw [sidx_eq h, oS_, wr_bAt]
def msg0 : T_Msg := ⟨0, 0, 0, 0, op0⟩
def decM (o : Option T_Msg) : T_Msg := o.getD msg0
def decE (o : Option T_Msg) : Int := if o.isSome = true then 0 else 2
theorem empty_iff {s : ByteArray} : s = ByteArray.mk #[] ↔ s.size = 0 := ⟨fun h => by rw [h]; rfl, fun h => ByteArray.size_eq_zero_iff.1 h⟩
theorem mOf_eq (s : ByteArray) (h : (s.size : Int) = wsize (bAt s 0)) (h0 : s.size ≠ 0) : (if (decide (bAt s 0 = 1)) = true then
  (t_wire_Decode_1 4 s).bind fun r73 => (t_wire_Decode_1 5 s).bind fun r76 => (t_wire_Decode_1 6 s).bind fun r78 => (t_wire_Decode_1 7 s).bind fun r80 => (t_wire_Decode_1 8 s).bind fun r83 => (t_wire_Decode_1 9 s).bind fun r85 => (t_wire_Decode_1 10 s).bind fun r87 =>
   some (T_Msg.mk (bAt s 0) (bAt s 1) (bAt s 2) (bAt s 3) (T_Op.mk (bAt s 1) (decide (r73 = 1)) (T_Rule.mk r76 (T_Cube.mk r78 r80) r83 r85 r87)))
  else some (T_Msg.mk (bAt s 0) (bAt s 1) (bAt s 2) (bAt s 3) (T_Op.mk 0 false (T_Rule.mk 0 (T_Cube.mk 0 0) 0 0 0)))) = some (mOf s) := by
 unfold mOf
 by_cases hk : bAt s 0 = 1
 ·have hz : s.size = 12 := by rw [hk] at h; have : wsize 1 = 12 := rfl; omega
  have e : ∀ j : Nat, j < 12 → t_wire_Decode_1 (j : Int) s = some (bAt s j) := fun j hj => s_Decode_1 s j (by omega)
  have e4 := e 4 (by omega); have e5 := e 5 (by omega); have e6 := e 6 (by omega); have e7 := e 7 (by omega); have e8 := e 8 (by omega); have e9 := e 9 (by omega); have e10 := e 10 (by omega)
  simp only [Int.cast_ofNat_Int] at e4 e5 e6 e7 e8 e9 e10
  simp only [hk, decide_true, if_true, e4, e5, e6, e7, e8, e9, e10, oS_]
 ·simp only [hk, decide_false, Bool.false_eq_true, if_false]
  rfl
theorem s_Decode (s : ByteArray) : t_wire_Decode s = some (decM (wdec s), decE (wdec s)) := by
 unfold t_wire_Decode
 by_cases h0 : s.size = 0
 ·have e := empty_iff.2 h0
  have ed : wdec s = none := by unfold wdec; rw [if_pos (.inl h0)]
  rw [ed]
  simp only [e, decide_true, Bool.not_true, gd_false, oS_, Bool.true_or, if_true]
  rfl
 ·have e : ¬ s = ByteArray.mk #[] := fun e => h0 (empty_iff.1 e)
  have hi : sidx s 0 = some (bAt s 0) := sidx_eq (i := 0) (by omega)
  simp only [e, decide_false, Bool.not_false, gd_true, hi, oS_, s_size, wr_bAt, Bool.false_or]
  by_cases hl : (s.size : Int) = wsize (bAt s 0)
  ·rw [if_neg (by simpa using hl)]
   have hw := wsize_range (bAt s 0)
   have ej : ∀ j : Nat, j < 4 → t_wire_Decode_1 (j : Int) s = some (bAt s j) := fun j hj => s_Decode_1 s j (by omega)
   have e0 := ej 0 (by omega); have e1 := ej 1 (by omega); have e2 := ej 2 (by omega); have e3 := ej 3 (by omega)
   simp only [Int.cast_ofNat_Int] at e0 e1 e2 e3
   simp only [e0, e1, e2, e3, oS_]
   rw [mOf_eq s hl h0, oS_, s_Encode, oS_]
   have ew : wdec s = if (mOf s).chk = 0 ∧ (mOf s).text = s then some (mOf s) else none := by
    unfold wdec; rw [if_neg (by rintro (h | h); exact h0 h; exact h hl)]
   rw [ew]
   by_cases hc : (mOf s).chk = 0
   ·by_cases ht : (mOf s).text = s
    ·simp [hc, ht, decM, decE]
    ·simp [hc, ht, decM, decE, msg0, op0]
   ·simp [hc, decM, decE, msg0, op0]
  ·have ed : wdec s = none := by unfold wdec; rw [if_pos (.inr hl)]
   rw [if_pos (by simpa using hl), ed]
   rfl
variable {β : Type}
def cutS (bad : β) (fin : List T_Msg → ByteArray → β) (k : ByteArray × List T_Msg → Option β) (s : ByteArray) (out : List T_Msg) : Option β :=
 if s.size = 0 then some (fin out s)
 else if wsize (bAt s 0) = 0 then some bad
 else if (s.size : Int) < wsize (bAt s 0) then some (fin out s)
 else match wdec (s.extract 0 (wsize (bAt s 0)).toNat) with
  | none => some bad
  | some m => (app out [m]).bind fun r => k (s.extract (wsize (bAt s 0)).toNat s.size, r)
def cutV (bad : β) (fin : List T_Msg → ByteArray → β) (s : ByteArray) (out : List T_Msg) : β := match wcut s with
 | none => bad
 | some p => fin (out ++ p.1) p.2
theorem cut_fix {F : (ByteArray × List T_Msg → Option β) → ByteArray × List T_Msg → Option β} {bad : β} {fin : List T_Msg → ByteArray → β}
  (hF : ∀ k s out, F k (s, out) = cutS bad fin k s out) : ∀ (n : Nat) (s : ByteArray) (out : List T_Msg), s.size < n → out.length + s.size ≤ 100000000 → tfix F n (s, out) = some (cutV bad fin s out)
 | 0, s, out, h, _ => absurd h (Nat.not_lt_zero _)
 | n + 1, s, out, h, ho => by
  rw [tfix, hF]
  unfold cutS cutV
  rw [wcut]
  by_cases h0 : s.size = 0
  ·rw [if_pos h0, dif_pos h0]; simp
  ·rw [if_neg h0, dif_neg h0]
   by_cases h1 : wsize (bAt s 0) = 0
   ·rw [if_pos h1, dif_pos h1]
   ·rw [if_neg h1, dif_neg h1]
    by_cases h2 : (s.size : Int) < wsize (bAt s 0)
    ·rw [if_pos h2, dif_pos h2]; simp
    ·rw [if_neg h2, dif_neg h2]
     cases hd : wdec (s.extract 0 (wsize (bAt s 0)).toNat) with
     | none => rfl
     | some m =>
      have hr := wsize_range (bAt s 0)
      have hl := ext_size s (wsize (bAt s 0)).toNat s.size (by omega) (Nat.le_refl _)
      show ((app out [m]).bind fun r => _) = _
      rw [app_eq (by simp; omega), oS_, cut_fix hF n _ (out ++ [m]) (by omega) (by simp; omega)]
      unfold cutV
      cases wcut (s.extract (wsize (bAt s 0)).toNat s.size) <;> simp
theorem sslc_lo_eq {s : ByteArray} {i : Int} (h0 : 0 ≤ i) (h : i ≤ s.size) : sslc_lo s i = some (s.extract i.toNat s.size) := if_pos ⟨h0, h⟩
theorem sslc_hi_eq {s : ByteArray} {i : Int} (h0 : 0 ≤ i) (h : i ≤ s.size) : sslc_hi s i = some (s.extract 0 i.toNat) := if_pos ⟨h0, h⟩
theorem s_Cut (s : ByteArray) (h : s.size ≤ 10000000) : t_wire_Cut s = some (cutV ([], ByteArray.mk #[], 2) (fun out s => (out, s, 0)) s []) := by
 unfold t_wire_Cut
 rw [join_eq]
 refine cut_fix (fun k s out => ?_) bigN s [] (Nat.lt_of_le_of_lt h (Nat.lt_trans (by decide +kernel) bigN_gt)) (by simp; omega)
 unfold cutS
 by_cases h0 : s.size = 0
 ·rw [if_pos h0]
  have e := empty_iff.2 h0
  simp only [e, decide_true, Bool.not_true, Bool.false_eq_true, if_false]
 ·rw [if_neg h0]
  have e : ¬ s = ByteArray.mk #[] := fun e => h0 (empty_iff.1 e)
  have hi : sidx s 0 = some (bAt s 0) := sidx_eq (i := 0) (by omega)
  simp only [e, decide_false, Bool.not_false, if_true, hi, oS_, s_size, wr_bAt, decide_eq_true_eq]
  have hr := wsize_range (bAt s 0)
  by_cases h1 : wsize (bAt s 0) = 0
  ·rw [if_pos h1, if_pos h1]
  ·rw [if_neg h1, if_neg h1]
   by_cases h2 : (s.size : Int) < wsize (bAt s 0)
   ·rw [if_pos h2, if_pos h2]
   ·rw [if_neg h2, if_neg h2, sslc_hi_eq (by omega) (by omega), oS_, s_Decode, oS_]
    cases hd : wdec (s.extract 0 (wsize (bAt s 0)).toNat) with
    | none => rfl
    | some m =>
     rw [if_neg (by simp [decE]), sslc_lo_eq (by omega) (by omega), oS_]
     first | rfl | (rw [show ∀ l (x : T_Msg), oapp l [x] = app l [x] from fun l x => by unfold oapp app; simp]; rfl)
section
variable {α β σ : Type}
end
def spotOk (T : T_Topo) (s : T_Spot) : Prop := 1 ≤ s.Switch ∧ s.Switch ≤ T.Switches ∧ 1 ≤ s.Port ∧ s.Port ≤ 4
structure topoGood (T : T_Topo) : Prop where
 sw : 1 ≤ T.Switches ∧ T.Switches ≤ 6
 nl : T.Links.length ≤ 200
 nh : T.Hosts.length ≤ 8
 links : ∀ l ∈ T.Links, spotOk T l.A ∧ spotOk T l.B
 hosts : ∀ h ∈ T.Hosts, h.Name ≠ ByteArray.mk #[] ∧ spotOk T h.At
theorem s_Spot (T : T_Topo) (s : T_Spot) : ∃ b, t_topo_Spot T s = some b ∧ (b = true ↔ spotOk T s) :=
 ⟨_, rfl, by simp [spotOk, and_assoc]⟩
theorem s_Name (s : ByteArray) (hs : (s.size : Int) ≤ maxI) : ∃ b, t_topo_Name s = some b ∧ (b = true → s ≠ ByteArray.mk #[]) := by
 unfold t_topo_Name
 rw [need_pos (by simpa using hs), join_eq]
 refine loopI_ex (fun _ _ _ => True) (by rw [numsOf_len]; exact hs) trivial (fun i s' _ => ⟨_, rfl, fun h => ?_⟩) (fun i x l s' k _ hk => ?_)
 ·simp only [Bool.and_eq_true, Bool.not_eq_true', decide_eq_false_iff_not] at h
  exact h.1
 ·split
  ·exact ⟨false, rfl, fun h => by cases h⟩
  ·exact hk () trivial
theorem s_topoCheck (T : T_Topo) (hn : ∀ h ∈ T.Hosts, (h.Name.size : Int) ≤ maxI) : ∃ c, t_topo_Check T = some c ∧ (c = 0 → topoGood T) := by
 unfold t_topo_Check
 split
 ·exact ⟨1, rfl, fun h => by cases h⟩
 ·rename_i h1
  simp only [Bool.or_eq_true, decide_eq_true_eq, not_or, Int.not_lt] at h1
  split
  ·exact ⟨4, rfl, fun h => by cases h⟩
  ·rename_i h2
   simp only [Bool.or_eq_true, decide_eq_true_eq, not_or, Int.not_lt] at h2
   simp only [join_eq]
   refine loopI_ex (fun _ l _ => ∀ x ∈ T.Links, x ∈ l ∨ (spotOk T x.A ∧ spotOk T x.B)) (by omega) (fun x hx => .inl hx) (fun i s hI => ?_) (fun i x l s k hI hk => ?_)
   ·refine loopI_ex (fun _ l _ => (∀ x ∈ l, x ∈ T.Hosts) ∧ ∀ x ∈ T.Hosts, x ∈ l ∨ (x.Name ≠ ByteArray.mk #[] ∧ spotOk T x.At)) (by omega) ⟨fun _ h => h, fun x hx => .inl hx⟩ (fun i s hJ => ?_) (fun i x l s k hJ hk => ?_)
    ·refine ⟨0, rfl, fun _ => ⟨h1, by omega, by omega, fun l hl => (hI l hl).resolve_left (by simp), fun h hh => (hJ.2 h hh).resolve_left (by simp)⟩⟩
    ·have hx := hJ.1 x (by simp)
     obtain ⟨b, e1, e2⟩ := s_Name x.Name (hn x hx)
     rw [e1]
     simp only [oS_]
     split
     ·exact ⟨2, rfl, fun h => by cases h⟩
     ·rename_i hb
      obtain ⟨b2, f1, f2⟩ := s_Spot T x.At
      rw [f1]
      simp only [oS_]
      split
      ·exact ⟨1, rfl, fun h => by cases h⟩
      ·rename_i hb2
       split
       ·exact ⟨7, rfl, fun h => by cases h⟩
       ·refine hk _ ⟨fun y hy => hJ.1 y (by simp [hy]), fun y hy => ?_⟩
        rcases hJ.2 y hy with h | h
        ·rcases List.mem_cons.1 h with rfl | h
         ·exact .inr ⟨e2 (by simpa using hb), f2.1 (by simpa using hb2)⟩
         ·exact .inl h
        ·exact .inr h
   ·obtain ⟨b, e1, e2⟩ := s_Spot T x.A
    obtain ⟨b2, f1, f2⟩ := s_Spot T x.B
    rw [e1, f1]
    simp only [oS_]
    cases hb1 : b with
    | false => exact ⟨1, by simp [gd], fun h => by cases h⟩
    | true =>
     cases hb2 : b2 with
     | false => exact ⟨1, by simp [gd], fun h => by cases h⟩
     | true =>
      simp only [gd, Bool.not_true, Bool.not_false, if_true, oS_, Bool.or_self, Bool.false_eq_true, if_false]
      split
      ·exact ⟨7, rfl, fun h => by cases h⟩
      ·refine hk _ fun y hy => ?_
       rcases hI y hy with h | h
       ·rcases List.mem_cons.1 h with rfl | h
        ·exact .inr ⟨e2.1 hb1, f2.1 hb2⟩
        ·exact .inl h
       ·exact .inr h
def ruleGood (r : T_Rule) : Prop := (0 ≤ r.Out ∧ r.Out ≤ 4) ∧ (0 ≤ r.Set ∧ r.Set < 16) ∧ 0 ≤ r.Value ∧ r.Value < 16
def tblGood (t : List T_Rule) : Prop := t.length ≤ 12 ∧ ∀ r ∈ t, ruleGood r
structure netGood (n : T_Net) : Prop where
 topo : topoGood n.Topo
 chk : t_topo_Check n.Topo = some 0
 len : (n.Tables.length : Int) = n.Topo.Switches
 tabs : ∀ t ∈ n.Tables, tblGood t
theorem s_Header (h : Int) : ∃ b, t_cube_Header h = some b ∧ (b = true ↔ 0 ≤ h ∧ h < 16) := ⟨_, rfl, by simp⟩
theorem s_ruleCheck (r : T_Rule) : ∃ c, t_rule_Check r = some c ∧ (c = 0 → ruleGood r) := by
 unfold t_rule_Check
 obtain ⟨b1, e1, f1⟩ := s_Header r.Set
 obtain ⟨b2, e2, f2⟩ := s_Header r.Value
 rw [e1, e2]
 obtain ⟨c, hc⟩ : ∃ c, t_cube_Check r.Cube = some c := by
  unfold t_cube_Check
  obtain ⟨b3, e3, _⟩ := s_Header r.Cube.Mask
  obtain ⟨b4, e4, _⟩ := s_Header r.Cube.Bits
  rw [e3, e4]
  cases b3 <;> cases b4 <;> simp only [gd, Bool.not_true, Bool.not_false, if_true, Bool.or_self, Bool.true_or, Bool.or_true, Bool.false_eq_true, if_false, oS_] <;> first | exact ⟨_, rfl⟩ | (split <;> exact ⟨_, rfl⟩)
 rw [hc]
 cases hA : (((decide (r.Prio < 0) || decide (99 < r.Prio)) || decide (r.Out < 0)) || decide (4 < r.Out)) with
 | true => exact ⟨1, by simp [gd], fun h => by cases h⟩
 | false =>
  cases hb1 : b1 with
  | false => exact ⟨1, by simp [gd], fun h => by cases h⟩
  | true =>
   cases hb2 : b2 with
   | false => exact ⟨1, by simp [gd], fun h => by cases h⟩
   | true =>
    simp only [Bool.or_eq_false_iff, decide_eq_false_iff_not, Int.not_lt] at hA
    have hg : ruleGood r := ⟨⟨hA.1.2, hA.2⟩, f1.1 hb1, f2.1 hb2⟩
    simp only [gd, Bool.not_false, Bool.not_true, if_true, oS_, Bool.or_self, Bool.false_eq_true, if_false]
    split
    ·exact ⟨_, rfl, fun _ => hg⟩
    ·split <;> exact ⟨_, rfl, fun _ => hg⟩
theorem s_ruleTable (t : List T_Rule) : ∃ c, t_rule_Table t = some c ∧ (c = 0 → tblGood t) := by
 unfold t_rule_Table
 split
 ·exact ⟨4, rfl, fun h => by cases h⟩
 ·rename_i h1
  simp only [decide_eq_true_eq, Int.not_lt] at h1
  simp only [join_eq]
  refine loopI_ex (fun i l _ => 0 ≤ i ∧ i + l.length = t.length ∧ ∀ x ∈ t, x ∈ l ∨ ruleGood x) (by omega) ⟨Int.le_refl _, by omega, fun x hx => .inl hx⟩ (fun i s hI => ⟨0, rfl, fun _ => ⟨by omega, fun r hr => (hI.2.2 r hr).resolve_left (by simp)⟩⟩) (fun i x l s k hI hk => ?_)
  obtain ⟨c, e1, e2⟩ := s_ruleCheck x
  rw [e1]
  simp only [oS_]
  split
  ·rename_i hc
   refine ⟨c, rfl, fun h => ?_⟩
   simp [h] at hc
  ·rename_i hc
   obtain ⟨i0, il, ia⟩ := hI
   have hs : slc_hi t i = some (t.take i.toNat) := if_pos ⟨i0, by simp at il; omega⟩
   rw [hs]
   simp only [oS_]
   have hfn : ∀ (l : List T_Rule), l.length ≤ 12 → ∃ j, t_slices_IndexFunc_api_Table_api_Rule l (fun a33 => t_rule_Table_1 a33 x) = some j ∧ True := fun l hl => by
    unfold t_slices_IndexFunc_api_Table_api_Rule
    simp only [join_eq]
    refine loopI_ex (fun _ _ _ => True) (by omega) trivial (fun _ _ _ => ⟨_, rfl, trivial⟩) (fun i y l s k _ hk => ?_)
    simp only [t_rule_Table_1, t_rule_Key, oS_]
    split
    ·exact ⟨_, rfl, trivial⟩
    ·exact hk () trivial
   obtain ⟨j, hj, _⟩ := hfn (t.take i.toNat) (by simp; omega)
   unfold t_slices_ContainsFunc_api_Table_api_Rule
   rw [hj]
   simp only [oS_]
   split
   ·exact ⟨7, rfl, fun h => by cases h⟩
   ·refine hk () ⟨by omega, by simp at il; omega, fun y hy => ?_⟩
    rcases ia y hy with h | h
    ·rcases List.mem_cons.1 h with rfl | h
     ·exact .inr (e2 (by simpa using hc))
     ·exact .inl h
    ·exact .inr h
theorem s_netCheck (n : T_Net) (hn : ∀ h ∈ n.Topo.Hosts, (h.Name.size : Int) ≤ maxI) : ∃ c, t_net_Check n = some c ∧ (c = 0 → netGood n) := by
 unfold t_net_Check
 obtain ⟨c, e1, e2⟩ := s_topoCheck n.Topo hn
 rw [e1]
 simp only [oS_]
 split
 ·rename_i hc
  refine ⟨c, rfl, fun h => ?_⟩
  simp [h] at hc
 ·rename_i hc
  have hc : c = 0 := by simpa using hc
  subst hc
  have hg := e2 rfl
  split
  ·exact ⟨3, rfl, fun h => by cases h⟩
  ·rename_i hl
   have hl : (n.Tables.length : Int) = n.Topo.Switches := by simpa using hl
   simp only [join_eq]
   have := hg.sw
   refine loopI_ex (fun _ l _ => ∀ x ∈ n.Tables, x ∈ l ∨ tblGood x) (by omega) (fun x hx => .inl hx) (fun i s hI => ⟨0, rfl, fun _ => ⟨hg, e1, hl, fun t ht => (hI t ht).resolve_left (by simp)⟩⟩) (fun i x l s k hI hk => ?_)
   obtain ⟨c, f1, f2⟩ := s_ruleTable x
   rw [f1]
   simp only [oS_]
   split
   ·rename_i hc
    refine ⟨c, rfl, fun h => ?_⟩
    simp [h] at hc
   ·rename_i hc
    refine hk () fun y hy => ?_
    rcases hI y hy with h | h
    ·rcases List.mem_cons.1 h with rfl | h
     ·exact .inr (f2 (by simpa using hc))
     ·exact .inl h
    ·exact .inr h
def nilNet : T_Net := T_Net.mk (T_Topo.mk 0 [] []) []
structure NOk (n : T_Net) : Prop where
 sw : 1 ≤ n.Topo.Switches ∧ n.Topo.Switches ≤ 6
 chk : t_topo_Check n.Topo = some 0
 nl : n.Topo.Links.length ≤ 200
 nh : n.Topo.Hosts.length ≤ 8
 len : (n.Tables.length : Int) = n.Topo.Switches
 tabs : ∀ t ∈ n.Tables, Tok (t.map rlOf)
theorem netCheck_first (n : T_Net) (hg : topoGood n.Topo) (hc : t_topo_Check n.Topo = some 0) (hl : (n.Tables.length : Int) = n.Topo.Switches) : t_net_Check n = some (firstF (fun t => tchk (t.map rlOf)) n.Tables) := by
 have hM : maxI = 9223372036854775807 := rfl
 have := hg.sw
 unfold t_net_Check
 rw [hc, oS_, if_neg (by simp), if_neg (by simpa using hl), join_eq, loopI_eq (by omega)]
 refine goI_first rfl _ _ fun x _ i k => ?_
 rw [s_rTableV, oS_]
 by_cases h : tchk (x.map rlOf) = 0
 ·rw [if_neg (by simpa using h), if_neg (by simpa using h)]
 ·rw [if_pos (by simpa using h), if_pos h]
theorem netCheck_ok {n : T_Net} (hn : ∀ h ∈ n.Topo.Hosts, (h.Name.size : Int) ≤ maxI) : t_net_Check n = some 0 ↔ NOk n := by
 constructor
 ·intro h
  obtain ⟨c, h1, h2⟩ := s_netCheck n hn
  rw [h] at h1
  obtain rfl := oJ_ h1
  have hg := h2 rfl
  refine ⟨hg.topo.sw, hg.chk, hg.topo.nl, hg.topo.nh, hg.len, ?_⟩
  rw [netCheck_first n hg.topo hg.chk hg.len] at h
  exact fun t ht => tchk_iff.1 (firstF_0.1 (oJ_ h) t ht)
 ·intro h
  obtain ⟨c, h1, h2⟩ := s_topoCheck n.Topo hn
  rw [h.chk] at h1
  obtain rfl := oJ_ h1
  rw [netCheck_first n (h2 rfl) h.chk h.len, firstF_0.2 fun t ht => tchk_iff.2 (h.tabs t ht)]
theorem s_Own (n : T_Net) (h : NOk n) : t_change_Own n = some n := by
 have hM : maxI = 9223372036854775807 := rfl
 have h1 := h.sw
 have h2 := h.nl
 have h3 := h.nh
 have h4 := h.len
 have hc : ∀ {α : Type} (l : List α), l.length ≤ 4294967296 → cln l = some l := fun l hl => if_pos hl
 unfold t_change_Own
 rw [hc _ (by omega), oS_, hc _ (by omega), oS_]
 have ho : omake (n.Tables.length : Int) (n.Tables.length : Int) ([] : List T_Rule) = some (List.replicate n.Tables.length []) := by
  unfold omake
  rw [if_pos ⟨rfl, by omega, by omega⟩, Int.toNat_natCast]
 rw [ho, oS_, loopI_eq (by omega)]
 have : ∀ (l p : List (List T_Rule)), n.Tables = p ++ l → goI (fun (i46 : Int) x47 (s42 : (List (List T_Rule))) k43 =>
   (cln x47).bind fun r55 => need (decide (0 ≤ i46) && decide (i46 < (List.length s42 : Int))) ((oset s42 i46 r55).bind fun r60 => k43 (r60))) (fun (s42 : (List (List T_Rule))) => some (s42)) (p.length : Int) l (p ++ List.replicate l.length []) = some (p ++ l) := by
  intro l
  induction l with
  | nil => intro p _; simp [goI]
  | cons x l ih =>
   intro p hp
   have hx : x.length ≤ 12 := by
    have := (h.tabs x (by rw [hp]; simp)).len
    simpa using this
   rw [goI, hc x (by omega), oS_, need_pos (by simp; omega)]
   have hs : oset (p ++ List.replicate (x :: l).length []) (p.length : Int) x = some (p ++ [x] ++ List.replicate l.length []) := by
    unfold oset
    rw [if_pos ⟨by omega, by simp; omega⟩, Int.toNat_natCast, List.length_cons, List.replicate_succ]
    simp
   rw [hs, oS_]
   have := ih (p ++ [x]) (by rw [hp]; simp)
   simp only [List.length_append, List.length_singleton] at this
   have e : (p.length : Int) + 1 = ((p.length + 1 : Nat) : Int) := by omega
   rw [e]
   refine this.trans ?_
   simp
 have := this n.Tables [] rfl
 simp only [List.length_nil, List.nil_append] at this
 refine (congrArg (fun X : Option (List (List T_Rule)) => X.bind fun s31 => some (T_Net.mk (T_Topo.mk n.Topo.Switches n.Topo.Links n.Topo.Hosts) s31)) this).trans ?_
 rfl
def tabAt (s : T_Net) (x : Int) : List T_Rule := s.Tables.getD (x - 1).toNat []
def opFa (s : T_Net) (x : T_Op) : Int := if x.Switch < 1 ∨ s.Topo.Switches < x.Switch then 1 else doF (tabAt s x.Switch) x.Add x.Rule
def opR (s : T_Net) (x : T_Op) : T_Net := ⟨s.Topo, s.Tables.set (x.Switch - 1).toNat (doV (tabAt s x.Switch) x.Add x.Rule)⟩
def appL : List T_Op → T_Net → T_Net × Int
 | [], s => (s, 0)
 | x :: l, s => if opFa s x ≠ 0 then (nilNet, opFa s x) else appL l (opR s x)
theorem tabAt_mem {s : T_Net} (h : (s.Tables.length : Int) = s.Topo.Switches) {x : Int} (h1 : 1 ≤ x) (h2 : x ≤ s.Topo.Switches) : tabAt s x ∈ s.Tables ∧ idx s.Tables (x - 1) = some (tabAt s x) := by
 have hlt : (x - 1).toNat < s.Tables.length := by omega
 unfold tabAt
 rw [List.getD, gE_ hlt]
 refine ⟨List.getElem_mem hlt, ?_⟩
 unfold idx
 rw [if_pos (by omega), gE_ hlt]; rfl
theorem opR_ok {s : T_Net} (hs : NOk s) {x : T_Op} (h : opFa s x = 0) : NOk (opR s x) := by
 unfold opFa at h
 split at h
 ·cases h
 ·rename_i hr
  have hd := do_tok h
  refine ⟨hs.sw, hs.chk, hs.nl, hs.nh, ?_, fun t ht => ?_⟩
  ·show ((s.Tables.set _ _).length : Int) = _
   rw [List.length_set]; exact hs.len
  ·rcases List.mem_or_eq_of_mem_set ht with h | h
   ·exact hs.tabs t h
   ·rw [h]; exact hd.2
theorem appL_ok : ∀ (l : List T_Op) {s : T_Net}, NOk s → (appL l s).2 = 0 → NOk (appL l s).1 ∧ (appL l s).1.Topo = s.Topo
 | [], s, hs, _ => ⟨hs, rfl⟩
 | x :: l, s, hs, h => by
  unfold appL at h ⊢
  by_cases h0 : opFa s x = 0
  ·rw [if_neg (by simpa using h0)] at h ⊢
   exact appL_ok l (opR_ok hs h0) h
  ·rw [if_pos h0] at h
   exact absurd h h0
theorem appGo : ∀ (l : List T_Op) (i : Int) (s : T_Net), NOk s → goI (fun (i38 : Int) x39 (s34 : T_Net) k35 =>
   if ((decide (x39.Switch < 1)) || (decide (s34.Topo.Switches < x39.Switch))) = true then (some ((T_Net.mk (T_Topo.mk 0 [] []) []), 1)) else (
   need (decide (0 ≤ (wr (x39.Switch - 1))) && decide ((wr (x39.Switch - 1)) < (List.length s34.Tables : Int))) (
   (idx s34.Tables (wr (x39.Switch - 1))).bind fun r75 =>
   (t_table_Do r75 x39.Add x39.Rule).bind fun r80 =>
   if (!decide (r80.2 = 0)) = true then (some ((T_Net.mk (T_Topo.mk 0 [] []) []), r80.2)) else (
   need (decide (0 ≤ (wr (x39.Switch - 1))) && decide ((wr (x39.Switch - 1)) < (List.length s34.Tables : Int))) (
   (oset s34.Tables (wr (x39.Switch - 1)) r80.1).bind fun r94 =>
   k35 (T_Net.mk s34.Topo r94)))))) (fun (s34 : T_Net) => some (s34, (0 : Int))) i l s = some (appL l s)
 | [], i, s, _ => rfl
 | x :: l, i, s, hs => by
  have h1 := hs.sw
  have h2 := hs.len
  rw [goI]
  unfold appL
  by_cases hr : x.Switch < 1 ∨ s.Topo.Switches < x.Switch
  ·have hf : opFa s x = 1 := if_pos hr
   rw [if_pos (by simpa using hr), if_pos (by rw [hf]; decide), hf]; rfl
  ·have hf : opFa s x = doF (tabAt s x.Switch) x.Add x.Rule := if_neg hr
   rw [if_neg (by simpa using hr), wr_id (by omega) (by omega)]
   have hb : (decide (0 ≤ x.Switch - 1) && decide (x.Switch - 1 < (s.Tables.length : Int))) = true := by simp; omega
   obtain ⟨hm, hi⟩ := tabAt_mem h2 (x := x.Switch) (by omega) (by omega)
   rw [need_pos hb, hi, oS_]
   unfold t_table_Do
   rw [oS_]
   simp only []
   by_cases h0 : opFa s x = 0
   ·have ho : oset s.Tables (x.Switch - 1) (doV (tabAt s x.Switch) x.Add x.Rule) = some (opR s x).Tables := if_pos ⟨by omega, by omega⟩
    rw [if_neg (by rw [← hf]; simpa using h0), if_neg (by simpa using h0), need_pos hb, ho, oS_]
    exact appGo l (i + 1) (opR s x) (opR_ok hs h0)
   ·rw [if_pos (by rw [← hf]; simpa using h0), if_pos h0, hf]; rfl
theorem s_ApplyN (n : T_Net) (l : List T_Op) (hn : ∀ h ∈ n.Topo.Hosts, (h.Name.size : Int) ≤ maxI) : ∃ c, t_net_Check n = some c ∧ (c = 0 ↔ NOk n) ∧ t_change_Apply n l = some (if c ≠ 0 then (nilNet, c) else if 200 < l.length then (nilNet, 4) else appL l n) := by
 have hM : maxI = 9223372036854775807 := rfl
 obtain ⟨c, h1, _⟩ := s_netCheck n hn
 have hc : c = 0 ↔ NOk n := by rw [← netCheck_ok hn, h1]; simp
 refine ⟨c, h1, hc, ?_⟩
 unfold t_change_Apply
 rw [h1, oS_]
 by_cases h0 : c = 0
 ·rw [if_neg (by simpa using h0), if_neg (show ¬ c ≠ 0 by simpa using h0)]
  have hk := hc.1 h0
  by_cases hl : 200 < l.length
  ·rw [if_pos (by simp; omega), if_pos hl]; rfl
  ·rw [if_neg (by simp; omega), if_neg hl, s_Own n hk, oS_, join_eq, loopI_eq (by omega)]
   exact appGo l 0 n hk
 ·rw [if_pos (by simpa using h0), if_pos h0]; rfl
section
variable {α β σ K : Type}
theorem goU_at {step : Int → σ → (σ → Option β) → Option β} {fin : Int → σ → Option β} (S : Nat → σ) {hi : Nat} (h : ∀ (p : Nat) k, p < hi → step (p : Int) (S p) k = k (S (p + 1))) : ∀ (c p : Nat), p + c = hi → goU step fin c (p : Int) (S p) = fin (hi : Int) (S hi)
 | 0, p, e => by obtain rfl : p = hi := (by omega); rfl
 | c + 1, p, e => by
  rw [goU, h p _ (by omega)]
  have e2 : (p : Int) + 1 = ((p + 1 : Nat) : Int) := by omega
  rw [e2]
  exact goU_at S h c (p + 1) (by omega)
theorem loopU_at {hi : Nat} {step : Int → σ → (σ → Option β) → Option β} {fin : Int → σ → Option β} {s : σ} (S : Nat → σ) (h0 : s = S 0) (hl : (hi : Int) ≤ maxI) (h : ∀ (p : Nat) k, p < hi → step (p : Int) (S p) k = k (S (p + 1))) : loopU 0 (hi : Int) step fin s = fin (hi : Int) (S hi) := by
 rw [loopU_eq (Int.le_refl 0) hl, h0, Int.sub_zero, Int.toNat_natCast]
 exact goU_at S h hi 0 (by omega)
variable [DecidableEq K]
theorem mhas_cons (b : K) (u : α) (r : List (K × α)) (a : K) : mhas ((b, u) :: r) a = (decide (a = b) || mhas r a) := by
 unfold mhas
 simp only [mfind]
 by_cases h : a = b
 ·simp [h]
 ·rw [if_neg h, mfind_off r a (0 + 1)]
  cases mfind r a 0 <;> simp [h]
theorem mput_new {l : List (K × α)} {a : K} (v : α) (h : mhas l a = false) : mput l a v = l ++ [(a, v)] := by
 unfold mhas at h
 unfold mput
 cases hm : mfind l a 0 with
 | none => rfl
 | some p => rw [hm] at h; cases h
end
section
variable {α K : Type} [DecidableEq K]
theorem mhas_snoc (a : K) (v : α) (k : K) : ∀ l : List (K × α), mhas (l ++ [(a, v)]) k = (mhas l k || decide (k = a))
 | [] => by rw [List.nil_append, mhas_cons, Bool.or_comm]
 | (b, u) :: l => by rw [List.cons_append, mhas_cons, mhas_cons, mhas_snoc a v k l, Bool.or_assoc]
theorem mget_snoc (a : K) (v : α) (k : K) (d : α) : ∀ l : List (K × α), mget (l ++ [(a, v)]) k d = if mhas l k = true then mget l k d else if k = a then v else d
 | [] => by
  rw [List.nil_append, mget_cons]
  rfl
 | (b, u) :: l => by
  rw [List.cons_append, mget_cons, mget_cons, mhas_cons, mget_snoc a v k d l]
  by_cases h : k = b <;> simp [h]
end
def allV : List T_Rule → List T_Op → List T_Rule × Int
 | t, [] => (t, 0)
 | t, o :: l => if doF t o.Add o.Rule ≠ 0 then ([], doF t o.Add o.Rule) else allV (doV t o.Add o.Rule) l
theorem allV_tok : ∀ {l : List T_Op} {t : List T_Rule}, Tok (t.map rlOf) → (allV t l).2 = 0 → Tok ((allV t l).1.map rlOf)
 | [], t, ht, _ => ht
 | o :: l, t, ht, h => by
  unfold allV at h ⊢
  by_cases h1 : doF t o.Add o.Rule = 0
  ·rw [if_neg (by simpa using h1)] at h ⊢
   exact allV_tok (do_tok h1).2 h
  ·rw [if_pos h1] at h; exact absurd h h1
theorem all_go : ∀ (l : List T_Op) (i : Int) (t : List T_Rule), goI (fun (i19 : Int) (x20 : T_Op) (s15 : (List T_Rule)) k16 =>
   (t_table_Do s15 x20.Add x20.Rule).bind fun r31 =>
   if (!decide (r31.2 = 0)) = true then (
   some ([], r31.2)) else (
   k16 (r31.1))) (fun (s15 : (List T_Rule)) => some (s15, (0 : Int))) i l t = some (allV t l)
 | [], _, _ => rfl
 | o :: l, i, t => by
  rw [goI, t_table_Do, oS_, allV]
  by_cases h : doF t o.Add o.Rule = 0
  ·rw [if_neg (by simpa using h), if_neg (by simpa using h)]
   exact all_go l (i + 1) _
  ·rw [if_pos (by simpa using h), if_pos h]
theorem tab_of {t : List T_Rule} (ht : Tok (t.map rlOf)) : t_rule_Table t = some 0 := by rw [s_rTableV, tchk_iff.2 ht]
theorem s_All {t : List T_Rule} (ht : Tok (t.map rlOf)) (l : List T_Op) (hl : l.length ≤ 1000000) : t_table_All t l = some (allV t l) := by
 have h12 := ht.len
 rw [List.length_map] at h12
 unfold t_table_All
 rw [tab_of ht, oS_, if_neg (by simp), cln, if_pos (by omega), oS_, join_eq, loopI_eq (by unfold maxI; omega)]
 exact all_go l 0 t
theorem s_Tab (l : List T_Rule) (h : l.length ≤ 1000000) : t_railsame_Table l l = some true := by
 unfold t_railsame_Table
 rw [if_neg (by simp)]
 simp only [join_eq]
 rw [loopI_at (fun _ => ()) rfl (by unfold maxI; omega) (fun p x k hx => ?_)]
 rw [idx_nat, hx, oS_, if_neg (by simp)]
def setSw1 (o : T_Op) : T_Op := T_Op.mk 1 o.Add o.Rule
theorem doF_chk {t : List T_Rule} {a : Bool} {r : T_Rule} (h : doF t a r = 0) : r.chk = 0 := by
 rw [chk_eq]
 unfold doF tdoF at h
 by_cases h1 : tchk (t.map rlOf) = 0
 ·rw [if_neg (by simpa using h1)] at h
  by_cases h2 : (rlOf r).chk = 0
  ·exact h2
  ·rw [if_pos h2] at h; exact absurd h h2
 ·rw [if_pos h1] at h; exact absurd h h1
def r00 : T_agent_round := ⟨[], -1, false⟩
def rds (r : T_agent_round) : List T_agent_round := (List.replicate 20 r00).set 3 r
def askM (n : Int) : T_Msg := T_Msg.mk 2 1 3 n (T_Op.mk 0 false (T_Rule.mk 0 (T_Cube.mk 0 0) 0 0 0))
def agS (tb : List T_Rule) (n : Int) (ops : List (Int × T_Op)) : T_agent_Agent := ⟨1, tb, rds ⟨ops, n, false⟩, []⟩
structure OInv (l : List T_Op) (ops : List (Int × T_Op)) (left : List Int) (i : Nat) : Prop where
 len : ops.length = i
 sum : left.length + i = l.length
 nodup : left.Nodup
 rng : ∀ x ∈ left, ∃ k : Nat, x = k ∧ k < l.length
 has : ∀ k : Nat, k < l.length → mhas ops (k : Int) = !decide ((k : Int) ∈ left)
 get : ∀ (k : Nat) (o : T_Op), l[k]? = some o → mhas ops (k : Int) = true → ∀ d, mget ops (k : Int) d = o
theorem oinv_step {l : List T_Op} {ops : List (Int × T_Op)} {left : List Int} {i q x : Nat} {o : T_Op} (h : OInv l ops left i) (hq : left[q]? = some (x : Int)) (ho : l[x]? = some o) : OInv l (ops ++ [((x : Int), o)]) (left.take q ++ left.drop (q + 1)) (i + 1) := by
 have hlt := (gS_ hq).1
 have e : left = left.take q ++ (x : Int) :: left.drop (q + 1) := by
  conv => lhs; rw [← List.take_append_drop q left, List.drop_eq_getElem_cons hlt]
  rw [(gS_ hq).2]
 have hnd := h.nodup
 have hmem : ∀ y, y ∈ left.take q ++ left.drop (q + 1) ↔ y ∈ left ∧ y ≠ (x : Int) := by
  generalize left.take q = A at *
  generalize left.drop (q + 1) = B at *
  subst e
  intro y
  rw [List.nodup_append] at hnd
  obtain ⟨_, h2, h3⟩ := hnd
  rw [List.nodup_cons] at h2
  simp only [List.mem_append, List.mem_cons]
  constructor
  ·rintro (hy | hy)
   ·exact ⟨.inl hy, h3 y hy _ (by simp)⟩
   ·exact ⟨.inr (.inr hy), fun e => h2.1 (e ▸ hy)⟩
  ·rintro ⟨hy | rfl | hy, hne⟩
   ·exact .inl hy
   ·exact absurd rfl hne
   ·exact .inr hy
 refine ⟨by simp [h.len], ?_, ?_, fun y hy => h.rng y ((hmem y).1 hy).1, fun k hk => ?_, fun k o2 hk hh d => ?_⟩
 ·have := h.sum
  rw [List.length_append, List.length_take, List.length_drop]
  omega
 ·rw [e] at hnd
  exact hnd.sublist (List.Sublist.append_left (List.sublist_cons_self _ _) _)
 ·rw [mhas_snoc, h.has k hk]
  have := hmem (k : Int)
  by_cases h2 : (k : Int) = (x : Int)
  ·have h3 : (k : Int) ∉ List.take q left ++ List.drop (q + 1) left := fun h => (this.1 h).2 h2
   rw [decide_eq_true h2, decide_eq_false h3, Bool.or_true]; rfl
  ·rw [decide_eq_false h2, Bool.or_false]
   congr 1
   exact decide_eq_decide.2 ⟨fun h => this.2 ⟨h, h2⟩, fun h => (this.1 h).1⟩
 ·rw [mget_snoc]
  by_cases h1 : mhas ops (k : Int) = true
  ·rw [if_pos h1]; exact h.get k o2 hk h1 d
  ·rw [if_neg h1]
   rw [mhas_snoc] at hh
   have h2 : (k : Int) = (x : Int) := by simpa [h1] using hh
   rw [if_pos h2]
   have : k = x := by omega
   subst this
   rw [ho] at hk
   exact oJ_ hk
end Go.Proofs.YtgkohnjpnnofhaaGreat.Ty
