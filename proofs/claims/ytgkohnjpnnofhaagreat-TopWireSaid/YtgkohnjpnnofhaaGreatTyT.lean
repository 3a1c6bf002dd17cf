/- Structures of the program's types, written by a program. -/
import Derived.Test.YtgkohnjpnnofhaaGreatTy
import Derived.Test.YtgkohnjpnnofhaaGreatVcS
namespace Go.Proofs.YtgkohnjpnnofhaaGreat.Ty
set_option linter.unusedVariables false
set_option linter.unusedSimpArgs false
open Go Go.RowKit Go.Proofs.YtgkohnjpnnofhaaGreat.Den
set_option maxRecDepth 100000
theorem str_iff (a b : ByteArray) : (a.toList = b.toList) = (a = b) := by
 have := str_beq a b
 rw [Bool.eq_iff_iff] at this
 simpa using this
structure T_Cube where
 Mask : Int
 Bits : Int
 deriving DecidableEq, Inhabited
def T_Cube.c (x : T_Cube) : List V := [(vi x.Mask), (vi x.Bits)]
def T_Cube.e (x : T_Cube) : V := .agg x.c
theorem T_Cube.ext_iff2 (x y : T_Cube) : x = y ↔ x.Mask = y.Mask ∧ x.Bits = y.Bits := by
 obtain ⟨_, _⟩ := x; obtain ⟨_, _⟩ := y; simp
theorem T_Cube.run_eql (x y : T_Cube) (w : World) : (binOp .eql 45 (.agg #[.int .i64 x.Mask, .int .i64 x.Bits]) (.agg #[.int .i64 y.Mask, .int .i64 y.Bits])).run Tryz.prog w = .ok (.bool (decide (x = y))) w := by
 rw [run_eql_struct]
 simp [go_sem]
 by_cases e : x = y
 ·subst e; simp
 ·rw [decide_eq_false e]
  have h := mt (T_Cube.ext_iff2 x y).2 e
  by_cases h0 : ¬ x.Mask = y.Mask
  ·exact if_neg h0
  have h0 := Classical.not_not.1 h0
  rw [if_pos h0]
  by_cases h1 : ¬ x.Bits = y.Bits
  ·exact if_neg h1
  have h1 := Classical.not_not.1 h1
  rw [if_pos h1]
  exact absurd ⟨h0, h1⟩ h
theorem T_Cube.eql (x y : T_Cube) {xo yo : Operand} : bin2 Tryz.prog .eql 45 xo yo x.e y.e = some (vb (decide (x = y))) :=
 bin2_lit (u := .agg #[.int .i64 x.Mask, .int .i64 x.Bits]) (v := .agg #[.int .i64 y.Mask, .int .i64 y.Bits]) rfl rfl (fun w => by simp [eqGuard, T_Cube.run_eql]) rfl
theorem T_Cube.run_neq (x y : T_Cube) (w : World) : (binOp .neq 45 (.agg #[.int .i64 x.Mask, .int .i64 x.Bits]) (.agg #[.int .i64 y.Mask, .int .i64 y.Bits])).run Tryz.prog w = .ok (.bool (!decide (x = y))) w := by
 rw [run_neq_struct]
 simp [go_sem]
 by_cases e : x = y
 ·subst e; simp
 ·rw [decide_eq_false e]
  have h := mt (T_Cube.ext_iff2 x y).2 e
  by_cases h0 : ¬ x.Mask = y.Mask
  ·exact if_neg h0
  have h0 := Classical.not_not.1 h0
  rw [if_pos h0]
  by_cases h1 : ¬ x.Bits = y.Bits
  ·exact if_neg h1
  have h1 := Classical.not_not.1 h1
  rw [if_pos h1]
  exact absurd ⟨h0, h1⟩ h
theorem T_Cube.neq (x y : T_Cube) {xo yo : Operand} : bin2 Tryz.prog .neq 45 xo yo x.e y.e = some (vb (!decide (x = y))) :=
 bin2_lit (u := .agg #[.int .i64 x.Mask, .int .i64 x.Bits]) (v := .agg #[.int .i64 y.Mask, .int .i64 y.Bits]) rfl rfl (fun w => by simp [eqGuard, T_Cube.run_neq]) rfl
abbrev sh_Cube : Sh := .st (.cons (Sh.int .i64) (.cons (Sh.int .i64) .nil))
def T_Cube.wf (B : Nat) (x : T_Cube) : Prop := wi64 x.Mask ∧ wi64 x.Bits
theorem T_Cube.of {B : Nat} {xs : List V} (h : (sh_Cube).ok B xs) : ∃ a : T_Cube, xs = a.c ∧ a.wf B := by
 obtain ⟨_, _, rfl, h0, _, _, rfl, h1, rfl⟩ := h
 obtain ⟨a0, rfl, w0⟩ := of_i64 h0
 obtain ⟨a1, rfl, w1⟩ := of_i64 h1
 exact ⟨⟨a0, a1⟩, rfl, w0, w1⟩
structure T_Rule where
 Prio : Int
 Cube : T_Cube
 Out : Int
 Set : Int
 Value : Int
 deriving DecidableEq, Inhabited
def T_Rule.c (x : T_Rule) : List V := [(vi x.Prio), (vi x.Cube.Mask), (vi x.Cube.Bits), (vi x.Out), (vi x.Set), (vi x.Value)]
def T_Rule.e (x : T_Rule) : V := .agg x.c
theorem T_Rule.ext_iff2 (x y : T_Rule) : x = y ↔ x.Prio = y.Prio ∧ x.Cube.Mask = y.Cube.Mask ∧ x.Cube.Bits = y.Cube.Bits ∧ x.Out = y.Out ∧ x.Set = y.Set ∧ x.Value = y.Value := by
 obtain ⟨_, ⟨_, _⟩, _, _, _⟩ := x; obtain ⟨_, ⟨_, _⟩, _, _, _⟩ := y; simp; try simp [and_assoc]
theorem T_Rule.run_eql (x y : T_Rule) (w : World) : (binOp .eql 47 (.agg #[.int .i64 x.Prio, .int .i64 x.Cube.Mask, .int .i64 x.Cube.Bits, .int .i64 x.Out, .int .i64 x.Set, .int .i64 x.Value]) (.agg #[.int .i64 y.Prio, .int .i64 y.Cube.Mask, .int .i64 y.Cube.Bits, .int .i64 y.Out, .int .i64 y.Set, .int .i64 y.Value])).run Tryz.prog w = .ok (.bool (decide (x = y))) w := by
 rw [run_eql_struct]
 simp [go_sem]
 by_cases e : x = y
 ·subst e; simp
 ·rw [decide_eq_false e]
  have h := mt (T_Rule.ext_iff2 x y).2 e
  by_cases h0 : ¬ x.Prio = y.Prio
  ·exact if_neg h0
  have h0 := Classical.not_not.1 h0
  rw [if_pos h0]
  by_cases h1 : ¬ x.Cube.Mask = y.Cube.Mask
  ·exact if_neg h1
  have h1 := Classical.not_not.1 h1
  rw [if_pos h1]
  by_cases h2 : ¬ x.Cube.Bits = y.Cube.Bits
  ·exact if_neg h2
  have h2 := Classical.not_not.1 h2
  rw [if_pos h2]
  by_cases h3 : ¬ x.Out = y.Out
  ·exact if_neg h3
  have h3 := Classical.not_not.1 h3
  rw [if_pos h3]
  by_cases h4 : ¬ x.Set = y.Set
  ·exact if_neg h4
  have h4 := Classical.not_not.1 h4
  rw [if_pos h4]
  by_cases h5 : ¬ x.Value = y.Value
  ·exact if_neg h5
  have h5 := Classical.not_not.1 h5
  rw [if_pos h5]
  exact absurd ⟨h0, h1, h2, h3, h4, h5⟩ h
theorem T_Rule.eql (x y : T_Rule) {xo yo : Operand} : bin2 Tryz.prog .eql 47 xo yo x.e y.e = some (vb (decide (x = y))) :=
 bin2_lit (u := .agg #[.int .i64 x.Prio, .int .i64 x.Cube.Mask, .int .i64 x.Cube.Bits, .int .i64 x.Out, .int .i64 x.Set, .int .i64 x.Value]) (v := .agg #[.int .i64 y.Prio, .int .i64 y.Cube.Mask, .int .i64 y.Cube.Bits, .int .i64 y.Out, .int .i64 y.Set, .int .i64 y.Value]) rfl rfl (fun w => by simp [eqGuard, T_Rule.run_eql]) rfl
theorem T_Rule.run_neq (x y : T_Rule) (w : World) : (binOp .neq 47 (.agg #[.int .i64 x.Prio, .int .i64 x.Cube.Mask, .int .i64 x.Cube.Bits, .int .i64 x.Out, .int .i64 x.Set, .int .i64 x.Value]) (.agg #[.int .i64 y.Prio, .int .i64 y.Cube.Mask, .int .i64 y.Cube.Bits, .int .i64 y.Out, .int .i64 y.Set, .int .i64 y.Value])).run Tryz.prog w = .ok (.bool (!decide (x = y))) w := by
 rw [run_neq_struct]
 simp [go_sem]
 by_cases e : x = y
 ·subst e; simp
 ·rw [decide_eq_false e]
  have h := mt (T_Rule.ext_iff2 x y).2 e
  by_cases h0 : ¬ x.Prio = y.Prio
  ·exact if_neg h0
  have h0 := Classical.not_not.1 h0
  rw [if_pos h0]
  by_cases h1 : ¬ x.Cube.Mask = y.Cube.Mask
  ·exact if_neg h1
  have h1 := Classical.not_not.1 h1
  rw [if_pos h1]
  by_cases h2 : ¬ x.Cube.Bits = y.Cube.Bits
  ·exact if_neg h2
  have h2 := Classical.not_not.1 h2
  rw [if_pos h2]
  by_cases h3 : ¬ x.Out = y.Out
  ·exact if_neg h3
  have h3 := Classical.not_not.1 h3
  rw [if_pos h3]
  by_cases h4 : ¬ x.Set = y.Set
  ·exact if_neg h4
  have h4 := Classical.not_not.1 h4
  rw [if_pos h4]
  by_cases h5 : ¬ x.Value = y.Value
  ·exact if_neg h5
  have h5 := Classical.not_not.1 h5
  rw [if_pos h5]
  exact absurd ⟨h0, h1, h2, h3, h4, h5⟩ h
theorem T_Rule.neq (x y : T_Rule) {xo yo : Operand} : bin2 Tryz.prog .neq 47 xo yo x.e y.e = some (vb (!decide (x = y))) :=
 bin2_lit (u := .agg #[.int .i64 x.Prio, .int .i64 x.Cube.Mask, .int .i64 x.Cube.Bits, .int .i64 x.Out, .int .i64 x.Set, .int .i64 x.Value]) (v := .agg #[.int .i64 y.Prio, .int .i64 y.Cube.Mask, .int .i64 y.Cube.Bits, .int .i64 y.Out, .int .i64 y.Set, .int .i64 y.Value]) rfl rfl (fun w => by simp [eqGuard, T_Rule.run_neq]) rfl
abbrev sh_Rule : Sh := .st (.cons (Sh.int .i64) (.cons sh_Cube (.cons (Sh.int .i64) (.cons (Sh.int .i64) (.cons (Sh.int .i64) .nil)))))
def T_Rule.wf (B : Nat) (x : T_Rule) : Prop := wi64 x.Prio ∧ T_Cube.wf B x.Cube ∧ wi64 x.Out ∧ wi64 x.Set ∧ wi64 x.Value
theorem T_Rule.of {B : Nat} {xs : List V} (h : (sh_Rule).ok B xs) : ∃ a : T_Rule, xs = a.c ∧ a.wf B := by
 obtain ⟨_, _, rfl, h0, _, _, rfl, h1, _, _, rfl, h2, _, _, rfl, h3, _, _, rfl, h4, rfl⟩ := h
 obtain ⟨a0, rfl, w0⟩ := of_i64 h0
 obtain ⟨a1, rfl, w1⟩ := T_Cube.of h1
 obtain ⟨a2, rfl, w2⟩ := of_i64 h2
 obtain ⟨a3, rfl, w3⟩ := of_i64 h3
 obtain ⟨a4, rfl, w4⟩ := of_i64 h4
 exact ⟨⟨a0, a1, a2, a3, a4⟩, rfl, w0, w1, w2, w3, w4⟩
structure T_Op where
 Switch : Int
 Add : Bool
 Rule : T_Rule
 deriving DecidableEq, Inhabited
def T_Op.c (x : T_Op) : List V := [(vi x.Switch), (vb x.Add), (vi x.Rule.Prio), (vi x.Rule.Cube.Mask), (vi x.Rule.Cube.Bits), (vi x.Rule.Out), (vi x.Rule.Set), (vi x.Rule.Value)]
def T_Op.e (x : T_Op) : V := .agg x.c
theorem T_Op.ext_iff2 (x y : T_Op) : x = y ↔ x.Switch = y.Switch ∧ x.Add = y.Add ∧ x.Rule.Prio = y.Rule.Prio ∧ x.Rule.Cube.Mask = y.Rule.Cube.Mask ∧ x.Rule.Cube.Bits = y.Rule.Cube.Bits ∧ x.Rule.Out = y.Rule.Out ∧ x.Rule.Set = y.Rule.Set ∧ x.Rule.Value = y.Rule.Value := by
 obtain ⟨_, _, ⟨_, ⟨_, _⟩, _, _, _⟩⟩ := x; obtain ⟨_, _, ⟨_, ⟨_, _⟩, _, _, _⟩⟩ := y; simp; try simp [and_assoc]
theorem T_Op.run_eql (x y : T_Op) (w : World) : (binOp .eql 49 (.agg #[.int .i64 x.Switch, .bool x.Add, .int .i64 x.Rule.Prio, .int .i64 x.Rule.Cube.Mask, .int .i64 x.Rule.Cube.Bits, .int .i64 x.Rule.Out, .int .i64 x.Rule.Set, .int .i64 x.Rule.Value]) (.agg #[.int .i64 y.Switch, .bool y.Add, .int .i64 y.Rule.Prio, .int .i64 y.Rule.Cube.Mask, .int .i64 y.Rule.Cube.Bits, .int .i64 y.Rule.Out, .int .i64 y.Rule.Set, .int .i64 y.Rule.Value])).run Tryz.prog w = .ok (.bool (decide (x = y))) w := by
 rw [run_eql_struct]
 simp [go_sem]
 by_cases e : x = y
 ·subst e; simp
 ·rw [decide_eq_false e]
  have h := mt (T_Op.ext_iff2 x y).2 e
  by_cases h0 : ¬ x.Switch = y.Switch
  ·exact if_neg h0
  have h0 := Classical.not_not.1 h0
  rw [if_pos h0]
  by_cases h1 : ¬ x.Add = y.Add
  ·exact if_neg h1
  have h1 := Classical.not_not.1 h1
  rw [if_pos h1]
  by_cases h2 : ¬ x.Rule.Prio = y.Rule.Prio
  ·exact if_neg h2
  have h2 := Classical.not_not.1 h2
  rw [if_pos h2]
  by_cases h3 : ¬ x.Rule.Cube.Mask = y.Rule.Cube.Mask
  ·exact if_neg h3
  have h3 := Classical.not_not.1 h3
  rw [if_pos h3]
  by_cases h4 : ¬ x.Rule.Cube.Bits = y.Rule.Cube.Bits
  ·exact if_neg h4
  have h4 := Classical.not_not.1 h4
  rw [if_pos h4]
  by_cases h5 : ¬ x.Rule.Out = y.Rule.Out
  ·exact if_neg h5
  have h5 := Classical.not_not.1 h5
  rw [if_pos h5]
  by_cases h6 : ¬ x.Rule.Set = y.Rule.Set
  ·exact if_neg h6
  have h6 := Classical.not_not.1 h6
  rw [if_pos h6]
  by_cases h7 : ¬ x.Rule.Value = y.Rule.Value
  ·exact if_neg h7
  have h7 := Classical.not_not.1 h7
  rw [if_pos h7]
  exact absurd ⟨h0, h1, h2, h3, h4, h5, h6, h7⟩ h
theorem T_Op.eql (x y : T_Op) {xo yo : Operand} : bin2 Tryz.prog .eql 49 xo yo x.e y.e = some (vb (decide (x = y))) :=
 bin2_lit (u := .agg #[.int .i64 x.Switch, .bool x.Add, .int .i64 x.Rule.Prio, .int .i64 x.Rule.Cube.Mask, .int .i64 x.Rule.Cube.Bits, .int .i64 x.Rule.Out, .int .i64 x.Rule.Set, .int .i64 x.Rule.Value]) (v := .agg #[.int .i64 y.Switch, .bool y.Add, .int .i64 y.Rule.Prio, .int .i64 y.Rule.Cube.Mask, .int .i64 y.Rule.Cube.Bits, .int .i64 y.Rule.Out, .int .i64 y.Rule.Set, .int .i64 y.Rule.Value]) rfl rfl (fun w => by simp [eqGuard, T_Op.run_eql]) rfl
theorem T_Op.run_neq (x y : T_Op) (w : World) : (binOp .neq 49 (.agg #[.int .i64 x.Switch, .bool x.Add, .int .i64 x.Rule.Prio, .int .i64 x.Rule.Cube.Mask, .int .i64 x.Rule.Cube.Bits, .int .i64 x.Rule.Out, .int .i64 x.Rule.Set, .int .i64 x.Rule.Value]) (.agg #[.int .i64 y.Switch, .bool y.Add, .int .i64 y.Rule.Prio, .int .i64 y.Rule.Cube.Mask, .int .i64 y.Rule.Cube.Bits, .int .i64 y.Rule.Out, .int .i64 y.Rule.Set, .int .i64 y.Rule.Value])).run Tryz.prog w = .ok (.bool (!decide (x = y))) w := by
 rw [run_neq_struct]
 simp [go_sem]
 by_cases e : x = y
 ·subst e; simp
 ·rw [decide_eq_false e]
  have h := mt (T_Op.ext_iff2 x y).2 e
  by_cases h0 : ¬ x.Switch = y.Switch
  ·exact if_neg h0
  have h0 := Classical.not_not.1 h0
  rw [if_pos h0]
  by_cases h1 : ¬ x.Add = y.Add
  ·exact if_neg h1
  have h1 := Classical.not_not.1 h1
  rw [if_pos h1]
  by_cases h2 : ¬ x.Rule.Prio = y.Rule.Prio
  ·exact if_neg h2
  have h2 := Classical.not_not.1 h2
  rw [if_pos h2]
  by_cases h3 : ¬ x.Rule.Cube.Mask = y.Rule.Cube.Mask
  ·exact if_neg h3
  have h3 := Classical.not_not.1 h3
  rw [if_pos h3]
  by_cases h4 : ¬ x.Rule.Cube.Bits = y.Rule.Cube.Bits
  ·exact if_neg h4
  have h4 := Classical.not_not.1 h4
  rw [if_pos h4]
  by_cases h5 : ¬ x.Rule.Out = y.Rule.Out
  ·exact if_neg h5
  have h5 := Classical.not_not.1 h5
  rw [if_pos h5]
  by_cases h6 : ¬ x.Rule.Set = y.Rule.Set
  ·exact if_neg h6
  have h6 := Classical.not_not.1 h6
  rw [if_pos h6]
  by_cases h7 : ¬ x.Rule.Value = y.Rule.Value
  ·exact if_neg h7
  have h7 := Classical.not_not.1 h7
  rw [if_pos h7]
  exact absurd ⟨h0, h1, h2, h3, h4, h5, h6, h7⟩ h
theorem T_Op.neq (x y : T_Op) {xo yo : Operand} : bin2 Tryz.prog .neq 49 xo yo x.e y.e = some (vb (!decide (x = y))) :=
 bin2_lit (u := .agg #[.int .i64 x.Switch, .bool x.Add, .int .i64 x.Rule.Prio, .int .i64 x.Rule.Cube.Mask, .int .i64 x.Rule.Cube.Bits, .int .i64 x.Rule.Out, .int .i64 x.Rule.Set, .int .i64 x.Rule.Value]) (v := .agg #[.int .i64 y.Switch, .bool y.Add, .int .i64 y.Rule.Prio, .int .i64 y.Rule.Cube.Mask, .int .i64 y.Rule.Cube.Bits, .int .i64 y.Rule.Out, .int .i64 y.Rule.Set, .int .i64 y.Rule.Value]) rfl rfl (fun w => by simp [eqGuard, T_Op.run_neq]) rfl
abbrev sh_Op : Sh := .st (.cons (Sh.int .i64) (.cons Sh.bool (.cons sh_Rule .nil)))
def T_Op.wf (B : Nat) (x : T_Op) : Prop := wi64 x.Switch ∧ True ∧ T_Rule.wf B x.Rule
theorem T_Op.of {B : Nat} {xs : List V} (h : (sh_Op).ok B xs) : ∃ a : T_Op, xs = a.c ∧ a.wf B := by
 obtain ⟨_, _, rfl, h0, _, _, rfl, h1, _, _, rfl, h2, rfl⟩ := h
 obtain ⟨a0, rfl, w0⟩ := of_i64 h0
 obtain ⟨a1, rfl, w1⟩ := of_bool h1
 obtain ⟨a2, rfl, w2⟩ := T_Rule.of h2
 exact ⟨⟨a0, a1, a2⟩, rfl, w0, w1, w2⟩
structure T_Spot where
 Switch : Int
 Port : Int
 deriving DecidableEq, Inhabited
def T_Spot.c (x : T_Spot) : List V := [(vi x.Switch), (vi x.Port)]
def T_Spot.e (x : T_Spot) : V := .agg x.c
theorem T_Spot.ext_iff2 (x y : T_Spot) : x = y ↔ x.Switch = y.Switch ∧ x.Port = y.Port := by
 obtain ⟨_, _⟩ := x; obtain ⟨_, _⟩ := y; simp
theorem T_Spot.run_eql (x y : T_Spot) (w : World) : (binOp .eql 65 (.agg #[.int .i64 x.Switch, .int .i64 x.Port]) (.agg #[.int .i64 y.Switch, .int .i64 y.Port])).run Tryz.prog w = .ok (.bool (decide (x = y))) w := by
 rw [run_eql_struct]
 simp [go_sem]
 by_cases e : x = y
 ·subst e; simp
 ·rw [decide_eq_false e]
  have h := mt (T_Spot.ext_iff2 x y).2 e
  by_cases h0 : ¬ x.Switch = y.Switch
  ·exact if_neg h0
  have h0 := Classical.not_not.1 h0
  rw [if_pos h0]
  by_cases h1 : ¬ x.Port = y.Port
  ·exact if_neg h1
  have h1 := Classical.not_not.1 h1
  rw [if_pos h1]
  exact absurd ⟨h0, h1⟩ h
theorem T_Spot.eql (x y : T_Spot) {xo yo : Operand} : bin2 Tryz.prog .eql 65 xo yo x.e y.e = some (vb (decide (x = y))) :=
 bin2_lit (u := .agg #[.int .i64 x.Switch, .int .i64 x.Port]) (v := .agg #[.int .i64 y.Switch, .int .i64 y.Port]) rfl rfl (fun w => by simp [eqGuard, T_Spot.run_eql]) rfl
theorem T_Spot.run_neq (x y : T_Spot) (w : World) : (binOp .neq 65 (.agg #[.int .i64 x.Switch, .int .i64 x.Port]) (.agg #[.int .i64 y.Switch, .int .i64 y.Port])).run Tryz.prog w = .ok (.bool (!decide (x = y))) w := by
 rw [run_neq_struct]
 simp [go_sem]
 by_cases e : x = y
 ·subst e; simp
 ·rw [decide_eq_false e]
  have h := mt (T_Spot.ext_iff2 x y).2 e
  by_cases h0 : ¬ x.Switch = y.Switch
  ·exact if_neg h0
  have h0 := Classical.not_not.1 h0
  rw [if_pos h0]
  by_cases h1 : ¬ x.Port = y.Port
  ·exact if_neg h1
  have h1 := Classical.not_not.1 h1
  rw [if_pos h1]
  exact absurd ⟨h0, h1⟩ h
theorem T_Spot.neq (x y : T_Spot) {xo yo : Operand} : bin2 Tryz.prog .neq 65 xo yo x.e y.e = some (vb (!decide (x = y))) :=
 bin2_lit (u := .agg #[.int .i64 x.Switch, .int .i64 x.Port]) (v := .agg #[.int .i64 y.Switch, .int .i64 y.Port]) rfl rfl (fun w => by simp [eqGuard, T_Spot.run_neq]) rfl
abbrev sh_Spot : Sh := .st (.cons (Sh.int .i64) (.cons (Sh.int .i64) .nil))
def T_Spot.wf (B : Nat) (x : T_Spot) : Prop := wi64 x.Switch ∧ wi64 x.Port
theorem T_Spot.of {B : Nat} {xs : List V} (h : (sh_Spot).ok B xs) : ∃ a : T_Spot, xs = a.c ∧ a.wf B := by
 obtain ⟨_, _, rfl, h0, _, _, rfl, h1, rfl⟩ := h
 obtain ⟨a0, rfl, w0⟩ := of_i64 h0
 obtain ⟨a1, rfl, w1⟩ := of_i64 h1
 exact ⟨⟨a0, a1⟩, rfl, w0, w1⟩
structure T_Link where
 A : T_Spot
 B : T_Spot
 deriving DecidableEq, Inhabited
def T_Link.c (x : T_Link) : List V := [(vi x.A.Switch), (vi x.A.Port), (vi x.B.Switch), (vi x.B.Port)]
def T_Link.e (x : T_Link) : V := .agg x.c
theorem T_Link.ext_iff2 (x y : T_Link) : x = y ↔ x.A.Switch = y.A.Switch ∧ x.A.Port = y.A.Port ∧ x.B.Switch = y.B.Switch ∧ x.B.Port = y.B.Port := by
 obtain ⟨⟨_, _⟩, ⟨_, _⟩⟩ := x; obtain ⟨⟨_, _⟩, ⟨_, _⟩⟩ := y; simp; try simp [and_assoc]
theorem T_Link.run_eql (x y : T_Link) (w : World) : (binOp .eql 127 (.agg #[.int .i64 x.A.Switch, .int .i64 x.A.Port, .int .i64 x.B.Switch, .int .i64 x.B.Port]) (.agg #[.int .i64 y.A.Switch, .int .i64 y.A.Port, .int .i64 y.B.Switch, .int .i64 y.B.Port])).run Tryz.prog w = .ok (.bool (decide (x = y))) w := by
 rw [run_eql_struct]
 simp [go_sem]
 by_cases e : x = y
 ·subst e; simp
 ·rw [decide_eq_false e]
  have h := mt (T_Link.ext_iff2 x y).2 e
  by_cases h0 : ¬ x.A.Switch = y.A.Switch
  ·exact if_neg h0
  have h0 := Classical.not_not.1 h0
  rw [if_pos h0]
  by_cases h1 : ¬ x.A.Port = y.A.Port
  ·exact if_neg h1
  have h1 := Classical.not_not.1 h1
  rw [if_pos h1]
  by_cases h2 : ¬ x.B.Switch = y.B.Switch
  ·exact if_neg h2
  have h2 := Classical.not_not.1 h2
  rw [if_pos h2]
  by_cases h3 : ¬ x.B.Port = y.B.Port
  ·exact if_neg h3
  have h3 := Classical.not_not.1 h3
  rw [if_pos h3]
  exact absurd ⟨h0, h1, h2, h3⟩ h
theorem T_Link.eql (x y : T_Link) {xo yo : Operand} : bin2 Tryz.prog .eql 127 xo yo x.e y.e = some (vb (decide (x = y))) :=
 bin2_lit (u := .agg #[.int .i64 x.A.Switch, .int .i64 x.A.Port, .int .i64 x.B.Switch, .int .i64 x.B.Port]) (v := .agg #[.int .i64 y.A.Switch, .int .i64 y.A.Port, .int .i64 y.B.Switch, .int .i64 y.B.Port]) rfl rfl (fun w => by simp [eqGuard, T_Link.run_eql]) rfl
theorem T_Link.run_neq (x y : T_Link) (w : World) : (binOp .neq 127 (.agg #[.int .i64 x.A.Switch, .int .i64 x.A.Port, .int .i64 x.B.Switch, .int .i64 x.B.Port]) (.agg #[.int .i64 y.A.Switch, .int .i64 y.A.Port, .int .i64 y.B.Switch, .int .i64 y.B.Port])).run Tryz.prog w = .ok (.bool (!decide (x = y))) w := by
 rw [run_neq_struct]
 simp [go_sem]
 by_cases e : x = y
 ·subst e; simp
 ·rw [decide_eq_false e]
  have h := mt (T_Link.ext_iff2 x y).2 e
  by_cases h0 : ¬ x.A.Switch = y.A.Switch
  ·exact if_neg h0
  have h0 := Classical.not_not.1 h0
  rw [if_pos h0]
  by_cases h1 : ¬ x.A.Port = y.A.Port
  ·exact if_neg h1
  have h1 := Classical.not_not.1 h1
  rw [if_pos h1]
  by_cases h2 : ¬ x.B.Switch = y.B.Switch
  ·exact if_neg h2
  have h2 := Classical.not_not.1 h2
  rw [if_pos h2]
  by_cases h3 : ¬ x.B.Port = y.B.Port
  ·exact if_neg h3
  have h3 := Classical.not_not.1 h3
  rw [if_pos h3]
  exact absurd ⟨h0, h1, h2, h3⟩ h
theorem T_Link.neq (x y : T_Link) {xo yo : Operand} : bin2 Tryz.prog .neq 127 xo yo x.e y.e = some (vb (!decide (x = y))) :=
 bin2_lit (u := .agg #[.int .i64 x.A.Switch, .int .i64 x.A.Port, .int .i64 x.B.Switch, .int .i64 x.B.Port]) (v := .agg #[.int .i64 y.A.Switch, .int .i64 y.A.Port, .int .i64 y.B.Switch, .int .i64 y.B.Port]) rfl rfl (fun w => by simp [eqGuard, T_Link.run_neq]) rfl
abbrev sh_Link : Sh := .st (.cons sh_Spot (.cons sh_Spot .nil))
def T_Link.wf (B : Nat) (x : T_Link) : Prop := T_Spot.wf B x.A ∧ T_Spot.wf B x.B
theorem T_Link.of {B : Nat} {xs : List V} (h : (sh_Link).ok B xs) : ∃ a : T_Link, xs = a.c ∧ a.wf B := by
 obtain ⟨_, _, rfl, h0, _, _, rfl, h1, rfl⟩ := h
 obtain ⟨a0, rfl, w0⟩ := T_Spot.of h0
 obtain ⟨a1, rfl, w1⟩ := T_Spot.of h1
 exact ⟨⟨a0, a1⟩, rfl, w0, w1⟩
structure T_Host where
 Name : ByteArray
 At : T_Spot
 deriving DecidableEq, Inhabited
def T_Host.c (x : T_Host) : List V := [(vt x.Name), (vi x.At.Switch), (vi x.At.Port)]
def T_Host.e (x : T_Host) : V := .agg x.c
theorem T_Host.ext_iff2 (x y : T_Host) : x = y ↔ x.Name = y.Name ∧ x.At.Switch = y.At.Switch ∧ x.At.Port = y.At.Port := by
 obtain ⟨_, ⟨_, _⟩⟩ := x; obtain ⟨_, ⟨_, _⟩⟩ := y; simp; try simp [and_assoc]
theorem T_Host.run_eql (x y : T_Host) (w : World) : (binOp .eql 67 (.agg #[.string x.Name, .int .i64 x.At.Switch, .int .i64 x.At.Port]) (.agg #[.string y.Name, .int .i64 y.At.Switch, .int .i64 y.At.Port])).run Tryz.prog w = .ok (.bool (decide (x = y))) w := by
 rw [run_eql_struct]
 simp [go_sem, str_iff]
 by_cases e : x = y
 ·subst e; simp
 ·rw [decide_eq_false e]
  have h := mt (T_Host.ext_iff2 x y).2 e
  by_cases h0 : ¬ x.Name = y.Name
  ·exact if_neg h0
  have h0 := Classical.not_not.1 h0
  rw [if_pos h0]
  by_cases h1 : ¬ x.At.Switch = y.At.Switch
  ·exact if_neg h1
  have h1 := Classical.not_not.1 h1
  rw [if_pos h1]
  by_cases h2 : ¬ x.At.Port = y.At.Port
  ·exact if_neg h2
  have h2 := Classical.not_not.1 h2
  rw [if_pos h2]
  exact absurd ⟨h0, h1, h2⟩ h
theorem T_Host.eql (x y : T_Host) {xo yo : Operand} : bin2 Tryz.prog .eql 67 xo yo x.e y.e = some (vb (decide (x = y))) :=
 bin2_lit (u := .agg #[.string x.Name, .int .i64 x.At.Switch, .int .i64 x.At.Port]) (v := .agg #[.string y.Name, .int .i64 y.At.Switch, .int .i64 y.At.Port]) rfl rfl (fun w => by simp [eqGuard, T_Host.run_eql]) rfl
theorem T_Host.run_neq (x y : T_Host) (w : World) : (binOp .neq 67 (.agg #[.string x.Name, .int .i64 x.At.Switch, .int .i64 x.At.Port]) (.agg #[.string y.Name, .int .i64 y.At.Switch, .int .i64 y.At.Port])).run Tryz.prog w = .ok (.bool (!decide (x = y))) w := by
 rw [run_neq_struct]
 simp [go_sem, str_iff]
 by_cases e : x = y
 ·subst e; simp
 ·rw [decide_eq_false e]
  have h := mt (T_Host.ext_iff2 x y).2 e
  by_cases h0 : ¬ x.Name = y.Name
  ·exact if_neg h0
  have h0 := Classical.not_not.1 h0
  rw [if_pos h0]
  by_cases h1 : ¬ x.At.Switch = y.At.Switch
  ·exact if_neg h1
  have h1 := Classical.not_not.1 h1
  rw [if_pos h1]
  by_cases h2 : ¬ x.At.Port = y.At.Port
  ·exact if_neg h2
  have h2 := Classical.not_not.1 h2
  rw [if_pos h2]
  exact absurd ⟨h0, h1, h2⟩ h
theorem T_Host.neq (x y : T_Host) {xo yo : Operand} : bin2 Tryz.prog .neq 67 xo yo x.e y.e = some (vb (!decide (x = y))) :=
 bin2_lit (u := .agg #[.string x.Name, .int .i64 x.At.Switch, .int .i64 x.At.Port]) (v := .agg #[.string y.Name, .int .i64 y.At.Switch, .int .i64 y.At.Port]) rfl rfl (fun w => by simp [eqGuard, T_Host.run_neq]) rfl
abbrev sh_Host : Sh := .st (.cons Sh.str (.cons sh_Spot .nil))
def T_Host.wf (B : Nat) (x : T_Host) : Prop := wS B x.Name ∧ T_Spot.wf B x.At
theorem T_Host.of {B : Nat} {xs : List V} (h : (sh_Host).ok B xs) : ∃ a : T_Host, xs = a.c ∧ a.wf B := by
 obtain ⟨_, _, rfl, h0, _, _, rfl, h1, rfl⟩ := h
 obtain ⟨a0, rfl, w0⟩ := of_str h0
 obtain ⟨a1, rfl, w1⟩ := T_Spot.of h1
 exact ⟨⟨a0, a1⟩, rfl, w0, w1⟩
structure T_Topo where
 Switches : Int
 Links : (List T_Link)
 Hosts : (List T_Host)
 deriving Inhabited
def T_Topo.c (x : T_Topo) : List V := [(vi x.Switches), (V.sl (List.map T_Link.c x.Links)), (V.sl (List.map T_Host.c x.Hosts))]
def T_Topo.e (x : T_Topo) : V := .agg x.c
abbrev sh_Topo : Sh := .st (.cons (Sh.int .i64) (.cons (Sh.sl sh_Link) (.cons (Sh.sl sh_Host) .nil)))
def T_Topo.wf (B : Nat) (x : T_Topo) : Prop := wi64 x.Switches ∧ wL B (fun x => T_Link.wf B x) x.Links ∧ wL B (fun x => T_Host.wf B x) x.Hosts
theorem T_Topo.of {B : Nat} {xs : List V} (h : (sh_Topo).ok B xs) : ∃ a : T_Topo, xs = a.c ∧ a.wf B := by
 obtain ⟨_, _, rfl, h0, _, _, rfl, h1, _, _, rfl, h2, rfl⟩ := h
 obtain ⟨a0, rfl, w0⟩ := of_i64 h0
 obtain ⟨a1, rfl, w1⟩ := (of_sl T_Link.of) h1
 obtain ⟨a2, rfl, w2⟩ := (of_sl T_Host.of) h2
 exact ⟨⟨a0, a1, a2⟩, rfl, w0, w1, w2⟩
structure T_Net where
 Topo : T_Topo
 Tables : (List (List T_Rule))
 deriving Inhabited
def T_Net.c (x : T_Net) : List V := [(vi x.Topo.Switches), (V.sl (List.map T_Link.c x.Topo.Links)), (V.sl (List.map T_Host.c x.Topo.Hosts)), (V.sl (List.map (cS T_Rule.c) x.Tables))]
def T_Net.e (x : T_Net) : V := .agg x.c
abbrev sh_Net : Sh := .st (.cons sh_Topo (.cons (Sh.sl (Sh.sl sh_Rule)) .nil))
def T_Net.wf (B : Nat) (x : T_Net) : Prop := T_Topo.wf B x.Topo ∧ wL B (fun x => wL B (fun x => T_Rule.wf B x) x) x.Tables
theorem T_Net.of {B : Nat} {xs : List V} (h : (sh_Net).ok B xs) : ∃ a : T_Net, xs = a.c ∧ a.wf B := by
 obtain ⟨_, _, rfl, h0, _, _, rfl, h1, rfl⟩ := h
 obtain ⟨a0, rfl, w0⟩ := T_Topo.of h0
 obtain ⟨a1, rfl, w1⟩ := (of_sl (of_sl T_Rule.of)) h1
 exact ⟨⟨a0, a1⟩, rfl, w0, w1⟩
structure T_PProof where
 Wish : Int
 From : ByteArray
 Header : Int
 deriving DecidableEq, Inhabited
def T_PProof.c (x : T_PProof) : List V := [(vi x.Wish), (vt x.From), (vi x.Header)]
def T_PProof.e (x : T_PProof) : V := .agg x.c
theorem T_PProof.ext_iff2 (x y : T_PProof) : x = y ↔ x.Wish = y.Wish ∧ x.From = y.From ∧ x.Header = y.Header := by
 obtain ⟨_, _, _⟩ := x; obtain ⟨_, _, _⟩ := y; simp
theorem T_PProof.run_eql (x y : T_PProof) (w : World) : (binOp .eql 74 (.agg #[.int .i64 x.Wish, .string x.From, .int .i64 x.Header]) (.agg #[.int .i64 y.Wish, .string y.From, .int .i64 y.Header])).run Tryz.prog w = .ok (.bool (decide (x = y))) w := by
 rw [run_eql_struct]
 simp [go_sem, str_iff]
 by_cases e : x = y
 ·subst e; simp
 ·rw [decide_eq_false e]
  have h := mt (T_PProof.ext_iff2 x y).2 e
  by_cases h0 : ¬ x.Wish = y.Wish
  ·exact if_neg h0
  have h0 := Classical.not_not.1 h0
  rw [if_pos h0]
  by_cases h1 : ¬ x.From = y.From
  ·exact if_neg h1
  have h1 := Classical.not_not.1 h1
  rw [if_pos h1]
  by_cases h2 : ¬ x.Header = y.Header
  ·exact if_neg h2
  have h2 := Classical.not_not.1 h2
  rw [if_pos h2]
  exact absurd ⟨h0, h1, h2⟩ h
theorem T_PProof.eql (x y : T_PProof) {xo yo : Operand} : bin2 Tryz.prog .eql 74 xo yo x.e y.e = some (vb (decide (x = y))) :=
 bin2_lit (u := .agg #[.int .i64 x.Wish, .string x.From, .int .i64 x.Header]) (v := .agg #[.int .i64 y.Wish, .string y.From, .int .i64 y.Header]) rfl rfl (fun w => by simp [eqGuard, T_PProof.run_eql]) rfl
theorem T_PProof.run_neq (x y : T_PProof) (w : World) : (binOp .neq 74 (.agg #[.int .i64 x.Wish, .string x.From, .int .i64 x.Header]) (.agg #[.int .i64 y.Wish, .string y.From, .int .i64 y.Header])).run Tryz.prog w = .ok (.bool (!decide (x = y))) w := by
 rw [run_neq_struct]
 simp [go_sem, str_iff]
 by_cases e : x = y
 ·subst e; simp
 ·rw [decide_eq_false e]
  have h := mt (T_PProof.ext_iff2 x y).2 e
  by_cases h0 : ¬ x.Wish = y.Wish
  ·exact if_neg h0
  have h0 := Classical.not_not.1 h0
  rw [if_pos h0]
  by_cases h1 : ¬ x.From = y.From
  ·exact if_neg h1
  have h1 := Classical.not_not.1 h1
  rw [if_pos h1]
  by_cases h2 : ¬ x.Header = y.Header
  ·exact if_neg h2
  have h2 := Classical.not_not.1 h2
  rw [if_pos h2]
  exact absurd ⟨h0, h1, h2⟩ h
theorem T_PProof.neq (x y : T_PProof) {xo yo : Operand} : bin2 Tryz.prog .neq 74 xo yo x.e y.e = some (vb (!decide (x = y))) :=
 bin2_lit (u := .agg #[.int .i64 x.Wish, .string x.From, .int .i64 x.Header]) (v := .agg #[.int .i64 y.Wish, .string y.From, .int .i64 y.Header]) rfl rfl (fun w => by simp [eqGuard, T_PProof.run_neq]) rfl
abbrev sh_PProof : Sh := .st (.cons (Sh.int .i64) (.cons Sh.str (.cons (Sh.int .i64) .nil)))
def T_PProof.wf (B : Nat) (x : T_PProof) : Prop := wi64 x.Wish ∧ wS B x.From ∧ wi64 x.Header
theorem T_PProof.of {B : Nat} {xs : List V} (h : (sh_PProof).ok B xs) : ∃ a : T_PProof, xs = a.c ∧ a.wf B := by
 obtain ⟨_, _, rfl, h0, _, _, rfl, h1, _, _, rfl, h2, rfl⟩ := h
 obtain ⟨a0, rfl, w0⟩ := of_i64 h0
 obtain ⟨a1, rfl, w1⟩ := of_str h1
 obtain ⟨a2, rfl, w2⟩ := of_i64 h2
 exact ⟨⟨a0, a1, a2⟩, rfl, w0, w1, w2⟩
structure T_drive_Drive where
 rounds : (List (List T_Op))
 wait : Int
 said : Int
 left : (List Int)
 ticks : Int
 deriving Inhabited
def T_drive_Drive.c (x : T_drive_Drive) : List V := [(V.sl (List.map (cS T_Op.c) x.rounds)), (vi x.wait), (vi x.said), (V.sl (List.map cI x.left)), (vi x.ticks)]
def T_drive_Drive.e (x : T_drive_Drive) : V := .agg x.c
abbrev sh_drive_Drive : Sh := .st (.cons (Sh.sl (Sh.sl sh_Op)) (.cons (Sh.int .i64) (.cons (Sh.int .i64) (.cons (Sh.sl (Sh.int .i64)) (.cons (Sh.int .i64) .nil)))))
def T_drive_Drive.wf (B : Nat) (x : T_drive_Drive) : Prop := wL B (fun x => wL B (fun x => T_Op.wf B x) x) x.rounds ∧ wi64 x.wait ∧ wi64 x.said ∧ wL B (fun x => wi64 x) x.left ∧ wi64 x.ticks
theorem T_drive_Drive.of {B : Nat} {xs : List V} (h : (sh_drive_Drive).ok B xs) : ∃ a : T_drive_Drive, xs = a.c ∧ a.wf B := by
 obtain ⟨_, _, rfl, h0, _, _, rfl, h1, _, _, rfl, h2, _, _, rfl, h3, _, _, rfl, h4, rfl⟩ := h
 obtain ⟨a0, rfl, w0⟩ := (of_sl (of_sl T_Op.of)) h0
 obtain ⟨a1, rfl, w1⟩ := of_i64 h1
 obtain ⟨a2, rfl, w2⟩ := of_i64 h2
 obtain ⟨a3, rfl, w3⟩ := (of_sl of_i64) h3
 obtain ⟨a4, rfl, w4⟩ := of_i64 h4
 exact ⟨⟨a0, a1, a2, a3, a4⟩, rfl, w0, w1, w2, w3, w4⟩
structure T_Msg where
 Kind : Int
 Switch : Int
 Round : Int
 Index : Int
 Op : T_Op
 deriving DecidableEq, Inhabited
def T_Msg.c (x : T_Msg) : List V := [(vi x.Kind), (vi x.Switch), (vi x.Round), (vi x.Index), (vi x.Op.Switch), (vb x.Op.Add), (vi x.Op.Rule.Prio), (vi x.Op.Rule.Cube.Mask), (vi x.Op.Rule.Cube.Bits), (vi x.Op.Rule.Out), (vi x.Op.Rule.Set), (vi x.Op.Rule.Value)]
def T_Msg.e (x : T_Msg) : V := .agg x.c
theorem T_Msg.ext_iff2 (x y : T_Msg) : x = y ↔ x.Kind = y.Kind ∧ x.Switch = y.Switch ∧ x.Round = y.Round ∧ x.Index = y.Index ∧ x.Op.Switch = y.Op.Switch ∧ x.Op.Add = y.Op.Add ∧ x.Op.Rule.Prio = y.Op.Rule.Prio ∧ x.Op.Rule.Cube.Mask = y.Op.Rule.Cube.Mask ∧ x.Op.Rule.Cube.Bits = y.Op.Rule.Cube.Bits ∧ x.Op.Rule.Out = y.Op.Rule.Out ∧ x.Op.Rule.Set = y.Op.Rule.Set ∧ x.Op.Rule.Value = y.Op.Rule.Value := by
 obtain ⟨_, _, _, _, ⟨_, _, ⟨_, ⟨_, _⟩, _, _, _⟩⟩⟩ := x; obtain ⟨_, _, _, _, ⟨_, _, ⟨_, ⟨_, _⟩, _, _, _⟩⟩⟩ := y; simp; try simp [and_assoc]
theorem T_Msg.run_eql (x y : T_Msg) (w : World) : (binOp .eql 51 (.agg #[.int .i64 x.Kind, .int .i64 x.Switch, .int .i64 x.Round, .int .i64 x.Index, .int .i64 x.Op.Switch, .bool x.Op.Add, .int .i64 x.Op.Rule.Prio, .int .i64 x.Op.Rule.Cube.Mask, .int .i64 x.Op.Rule.Cube.Bits, .int .i64 x.Op.Rule.Out, .int .i64 x.Op.Rule.Set, .int .i64 x.Op.Rule.Value]) (.agg #[.int .i64 y.Kind, .int .i64 y.Switch, .int .i64 y.Round, .int .i64 y.Index, .int .i64 y.Op.Switch, .bool y.Op.Add, .int .i64 y.Op.Rule.Prio, .int .i64 y.Op.Rule.Cube.Mask, .int .i64 y.Op.Rule.Cube.Bits, .int .i64 y.Op.Rule.Out, .int .i64 y.Op.Rule.Set, .int .i64 y.Op.Rule.Value])).run Tryz.prog w = .ok (.bool (decide (x = y))) w := by
 rw [run_eql_struct]
 simp [go_sem]
 by_cases e : x = y
 ·subst e; simp
 ·rw [decide_eq_false e]
  have h := mt (T_Msg.ext_iff2 x y).2 e
  by_cases h0 : ¬ x.Kind = y.Kind
  ·exact if_neg h0
  have h0 := Classical.not_not.1 h0
  rw [if_pos h0]
  by_cases h1 : ¬ x.Switch = y.Switch
  ·exact if_neg h1
  have h1 := Classical.not_not.1 h1
  rw [if_pos h1]
  by_cases h2 : ¬ x.Round = y.Round
  ·exact if_neg h2
  have h2 := Classical.not_not.1 h2
  rw [if_pos h2]
  by_cases h3 : ¬ x.Index = y.Index
  ·exact if_neg h3
  have h3 := Classical.not_not.1 h3
  rw [if_pos h3]
  by_cases h4 : ¬ x.Op.Switch = y.Op.Switch
  ·exact if_neg h4
  have h4 := Classical.not_not.1 h4
  rw [if_pos h4]
  by_cases h5 : ¬ x.Op.Add = y.Op.Add
  ·exact if_neg h5
  have h5 := Classical.not_not.1 h5
  rw [if_pos h5]
  by_cases h6 : ¬ x.Op.Rule.Prio = y.Op.Rule.Prio
  ·exact if_neg h6
  have h6 := Classical.not_not.1 h6
  rw [if_pos h6]
  by_cases h7 : ¬ x.Op.Rule.Cube.Mask = y.Op.Rule.Cube.Mask
  ·exact if_neg h7
  have h7 := Classical.not_not.1 h7
  rw [if_pos h7]
  by_cases h8 : ¬ x.Op.Rule.Cube.Bits = y.Op.Rule.Cube.Bits
  ·exact if_neg h8
  have h8 := Classical.not_not.1 h8
  rw [if_pos h8]
  by_cases h9 : ¬ x.Op.Rule.Out = y.Op.Rule.Out
  ·exact if_neg h9
  have h9 := Classical.not_not.1 h9
  rw [if_pos h9]
  by_cases h10 : ¬ x.Op.Rule.Set = y.Op.Rule.Set
  ·exact if_neg h10
  have h10 := Classical.not_not.1 h10
  rw [if_pos h10]
  by_cases h11 : ¬ x.Op.Rule.Value = y.Op.Rule.Value
  ·exact if_neg h11
  have h11 := Classical.not_not.1 h11
  rw [if_pos h11]
  exact absurd ⟨h0, h1, h2, h3, h4, h5, h6, h7, h8, h9, h10, h11⟩ h
theorem T_Msg.eql (x y : T_Msg) {xo yo : Operand} : bin2 Tryz.prog .eql 51 xo yo x.e y.e = some (vb (decide (x = y))) :=
 bin2_lit (u := .agg #[.int .i64 x.Kind, .int .i64 x.Switch, .int .i64 x.Round, .int .i64 x.Index, .int .i64 x.Op.Switch, .bool x.Op.Add, .int .i64 x.Op.Rule.Prio, .int .i64 x.Op.Rule.Cube.Mask, .int .i64 x.Op.Rule.Cube.Bits, .int .i64 x.Op.Rule.Out, .int .i64 x.Op.Rule.Set, .int .i64 x.Op.Rule.Value]) (v := .agg #[.int .i64 y.Kind, .int .i64 y.Switch, .int .i64 y.Round, .int .i64 y.Index, .int .i64 y.Op.Switch, .bool y.Op.Add, .int .i64 y.Op.Rule.Prio, .int .i64 y.Op.Rule.Cube.Mask, .int .i64 y.Op.Rule.Cube.Bits, .int .i64 y.Op.Rule.Out, .int .i64 y.Op.Rule.Set, .int .i64 y.Op.Rule.Value]) rfl rfl (fun w => by simp [eqGuard, T_Msg.run_eql]) rfl
theorem T_Msg.run_neq (x y : T_Msg) (w : World) : (binOp .neq 51 (.agg #[.int .i64 x.Kind, .int .i64 x.Switch, .int .i64 x.Round, .int .i64 x.Index, .int .i64 x.Op.Switch, .bool x.Op.Add, .int .i64 x.Op.Rule.Prio, .int .i64 x.Op.Rule.Cube.Mask, .int .i64 x.Op.Rule.Cube.Bits, .int .i64 x.Op.Rule.Out, .int .i64 x.Op.Rule.Set, .int .i64 x.Op.Rule.Value]) (.agg #[.int .i64 y.Kind, .int .i64 y.Switch, .int .i64 y.Round, .int .i64 y.Index, .int .i64 y.Op.Switch, .bool y.Op.Add, .int .i64 y.Op.Rule.Prio, .int .i64 y.Op.Rule.Cube.Mask, .int .i64 y.Op.Rule.Cube.Bits, .int .i64 y.Op.Rule.Out, .int .i64 y.Op.Rule.Set, .int .i64 y.Op.Rule.Value])).run Tryz.prog w = .ok (.bool (!decide (x = y))) w := by
 rw [run_neq_struct]
 simp [go_sem]
 by_cases e : x = y
 ·subst e; simp
 ·rw [decide_eq_false e]
  have h := mt (T_Msg.ext_iff2 x y).2 e
  by_cases h0 : ¬ x.Kind = y.Kind
  ·exact if_neg h0
  have h0 := Classical.not_not.1 h0
  rw [if_pos h0]
  by_cases h1 : ¬ x.Switch = y.Switch
  ·exact if_neg h1
  have h1 := Classical.not_not.1 h1
  rw [if_pos h1]
  by_cases h2 : ¬ x.Round = y.Round
  ·exact if_neg h2
  have h2 := Classical.not_not.1 h2
  rw [if_pos h2]
  by_cases h3 : ¬ x.Index = y.Index
  ·exact if_neg h3
  have h3 := Classical.not_not.1 h3
  rw [if_pos h3]
  by_cases h4 : ¬ x.Op.Switch = y.Op.Switch
  ·exact if_neg h4
  have h4 := Classical.not_not.1 h4
  rw [if_pos h4]
  by_cases h5 : ¬ x.Op.Add = y.Op.Add
  ·exact if_neg h5
  have h5 := Classical.not_not.1 h5
  rw [if_pos h5]
  by_cases h6 : ¬ x.Op.Rule.Prio = y.Op.Rule.Prio
  ·exact if_neg h6
  have h6 := Classical.not_not.1 h6
  rw [if_pos h6]
  by_cases h7 : ¬ x.Op.Rule.Cube.Mask = y.Op.Rule.Cube.Mask
  ·exact if_neg h7
  have h7 := Classical.not_not.1 h7
  rw [if_pos h7]
  by_cases h8 : ¬ x.Op.Rule.Cube.Bits = y.Op.Rule.Cube.Bits
  ·exact if_neg h8
  have h8 := Classical.not_not.1 h8
  rw [if_pos h8]
  by_cases h9 : ¬ x.Op.Rule.Out = y.Op.Rule.Out
  ·exact if_neg h9
  have h9 := Classical.not_not.1 h9
  rw [if_pos h9]
  by_cases h10 : ¬ x.Op.Rule.Set = y.Op.Rule.Set
  ·exact if_neg h10
  have h10 := Classical.not_not.1 h10
  rw [if_pos h10]
  by_cases h11 : ¬ x.Op.Rule.Value = y.Op.Rule.Value
  ·exact if_neg h11
  have h11 := Classical.not_not.1 h11
  rw [if_pos h11]
  exact absurd ⟨h0, h1, h2, h3, h4, h5, h6, h7, h8, h9, h10, h11⟩ h
theorem T_Msg.neq (x y : T_Msg) {xo yo : Operand} : bin2 Tryz.prog .neq 51 xo yo x.e y.e = some (vb (!decide (x = y))) :=
 bin2_lit (u := .agg #[.int .i64 x.Kind, .int .i64 x.Switch, .int .i64 x.Round, .int .i64 x.Index, .int .i64 x.Op.Switch, .bool x.Op.Add, .int .i64 x.Op.Rule.Prio, .int .i64 x.Op.Rule.Cube.Mask, .int .i64 x.Op.Rule.Cube.Bits, .int .i64 x.Op.Rule.Out, .int .i64 x.Op.Rule.Set, .int .i64 x.Op.Rule.Value]) (v := .agg #[.int .i64 y.Kind, .int .i64 y.Switch, .int .i64 y.Round, .int .i64 y.Index, .int .i64 y.Op.Switch, .bool y.Op.Add, .int .i64 y.Op.Rule.Prio, .int .i64 y.Op.Rule.Cube.Mask, .int .i64 y.Op.Rule.Cube.Bits, .int .i64 y.Op.Rule.Out, .int .i64 y.Op.Rule.Set, .int .i64 y.Op.Rule.Value]) rfl rfl (fun w => by simp [eqGuard, T_Msg.run_neq]) rfl
abbrev sh_Msg : Sh := .st (.cons (Sh.int .i64) (.cons (Sh.int .i64) (.cons (Sh.int .i64) (.cons (Sh.int .i64) (.cons sh_Op .nil)))))
def T_Msg.wf (B : Nat) (x : T_Msg) : Prop := wi64 x.Kind ∧ wi64 x.Switch ∧ wi64 x.Round ∧ wi64 x.Index ∧ T_Op.wf B x.Op
theorem T_Msg.of {B : Nat} {xs : List V} (h : (sh_Msg).ok B xs) : ∃ a : T_Msg, xs = a.c ∧ a.wf B := by
 obtain ⟨_, _, rfl, h0, _, _, rfl, h1, _, _, rfl, h2, _, _, rfl, h3, _, _, rfl, h4, rfl⟩ := h
 obtain ⟨a0, rfl, w0⟩ := of_i64 h0
 obtain ⟨a1, rfl, w1⟩ := of_i64 h1
 obtain ⟨a2, rfl, w2⟩ := of_i64 h2
 obtain ⟨a3, rfl, w3⟩ := of_i64 h3
 obtain ⟨a4, rfl, w4⟩ := T_Op.of h4
 exact ⟨⟨a0, a1, a2, a3, a4⟩, rfl, w0, w1, w2, w3, w4⟩
end Go.Proofs.YtgkohnjpnnofhaaGreat.Ty
